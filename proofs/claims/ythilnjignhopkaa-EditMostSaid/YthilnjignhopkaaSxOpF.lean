/- Operations, sixth part: maps whose keys are numbers, bools or texts. Conditions: the table of types is true of the program. -/
import Derived.Test.YthilnjignhopkaaSxOpE
set_option linter.unusedSimpArgs false
set_option linter.unusedVariables false
namespace Go.Sx
open Go

section
variable {P : Program} {Γ : Gam} {st : Sym} {w : World} {I : Nat → Prop} {ρ : Rho}

def Ty.keyEq : (K : Ty) → K.den → K.den → Bool
  | .int _, a, b => a == b
  | .bool, a, b => a == b
  | .str, a, b => a == b
  | _, _, _ => false

/-- A type of keys. -/
def keyKind : TK → Ty → Bool
  | .scal (.int k), .int k' => decide (k = k')
  | .scal .bool, .bool => true
  | .scal .string, .str => true
  | _, _ => false

/-- The place of the first entry with a key, and its element. -/
def mfind {K E : Ty} : List (K.den × E.den) → K.den → Option (Nat × E.den)
  | [], _ => none
  | p :: l, x =>
    match K.keyEq x p.1 with
    | true => some (0, p.2)
    | false =>
      match mfind l x with
      | some (i, y) => some (i + 1, y)
      | none => none

def mget {K E : Ty} (l : List (K.den × E.den)) (x : K.den) : Option E.den := (mfind l x).map (·.2)

def mset {K E : Ty} (l : List (K.den × E.den)) (x : K.den) (y : E.den) : List (K.den × E.den) :=
  match mfind l x with
  | some (i, _) => l.set i (x, y)
  | none => l ++ [(x, y)]

theorem keyKind_cases {d : TypeDesc} {K : Ty} (h : keyKind (.scal d) K = true) : (∃ k, d = .int k ∧ K = .int k) ∨ (d = .bool ∧ K = .bool) ∨ (d = .string ∧ K = .str) := by
  cases d <;> cases K <;> simp_all [keyKind]

theorem checkKey_plain {t : Nat} {d : TypeDesc} {K : Ty} (ht : P.underlying t = some d) {v : Value} {x : K.den} (hk : keyKind (.scal d) K = true) (hv : K.rep w I [v] x) (b : Bool) (n : Nat) :
    (Instr.checkKey b (n + 1) t v).run P w = .ok () w := by
  rcases keyKind_cases hk with ⟨k, rfl, rfl⟩ | ⟨rfl, rfl⟩ | ⟨rfl, rfl⟩
  · obtain ⟨e, _⟩ := hv
    simp only [List.cons.injEq, and_true] at e; subst e
    simp [Instr.checkKey, run_underlying ht]
  · have e : [v] = [Value.bool x] := hv
    simp only [List.cons.injEq, and_true] at e; subst e
    simp [Instr.checkKey, run_underlying ht]
  · obtain ⟨e, _⟩ := hv
    simp only [List.cons.injEq, and_true] at e; subst e
    simp [Instr.checkKey, run_underlying ht]

theorem sameNow_ok {d : TypeDesc} {K : Ty} (hk : keyKind (.scal d) K = true) {u v : Value} {x y : K.den} (hu : K.rep w I [u] x) (hv : K.rep w I [v] y) : Instr.sameNow d u v = some (K.keyEq x y) := by
  rcases keyKind_cases hk with ⟨k, rfl, rfl⟩ | ⟨rfl, rfl⟩ | ⟨rfl, rfl⟩
  · obtain ⟨e, _⟩ := hu
    obtain ⟨e', _⟩ := hv
    simp only [List.cons.injEq, and_true] at e e'; subst e; subst e'
    simp [Instr.sameNow, Ty.keyEq]
  · have e : [u] = [Value.bool x] := hu
    have e' : [v] = [Value.bool y] := hv
    simp only [List.cons.injEq, and_true] at e e'; subst e; subst e'
    rfl
  · obtain ⟨e, _⟩ := hu
    obtain ⟨e', _⟩ := hv
    simp only [List.cons.injEq, and_true] at e e'; subst e; subst e'
    rfl

theorem bytes_beq (a b : ByteArray) : (a == b) = (a.data == b.data) := by cases a; cases b; rfl
theorem bytes_eq {a b : ByteArray} (h : (a == b) = true) : a = b := by
  rw [bytes_beq] at h
  cases a; cases b
  simp only [beq_iff_eq] at h
  rw [h]
theorem bytes_refl (a : ByteArray) : (a == a) = true := by rw [bytes_beq]; simp

theorem keyEq_eq {K : Ty} {d : TypeDesc} (hk : keyKind (.scal d) K = true) {x y : K.den} (h : K.keyEq x y = true) : x = y := by
  rcases keyKind_cases hk with ⟨k, _, rfl⟩ | ⟨_, rfl⟩ | ⟨_, rfl⟩
  · exact eq_of_beq h
  · exact eq_of_beq h
  · exact bytes_eq h

theorem findNow_ok {d : TypeDesc} {K E : Ty} {ea : Bool} (hk : keyKind (.scal d) K = true) {v : Value} {x : K.den} (hv : K.rep w I [v] x) : ∀ {es : List MapEntry} {l : List (K.den × E.den)} (n : Nat), All2 (entryRep w I K E ea) es l →
    (mfind l x = none ∧ Instr.findNow d v es n = some none) ∨ (∃ i y m, mfind l x = some (i, y) ∧ Instr.findNow d v es n = some (some (n + i, m.val)) ∧ es[i]? = some m ∧ E.valRep w I ea m.val y ∧ K.rep w I [m.key] x ∧ i < l.length)
  | [], [], n, _ => .inl ⟨rfl, rfl⟩
  | m :: es, p :: l, n, h => by
    have hs := sameNow_ok hk hv h.1.1
    unfold mfind Instr.findNow
    rw [hs]
    cases hq : K.keyEq x p.1 with
    | true =>
      right
      have e := keyEq_eq hk hq
      exact ⟨0, p.2, m, rfl, rfl, rfl, h.1.2, by rw [e]; exact h.1.1, by simp⟩
    | false =>
      rcases findNow_ok hk hv (n + 1) h.2 with ⟨h1, h2⟩ | ⟨i, y, m', h1, h2, h3, h4, h5, h6⟩
      · left; rw [h1]; exact ⟨rfl, h2⟩
      · right
        rw [h1]
        exact ⟨i + 1, y, m', rfl, by simp only [h2, Nat.add_assoc, Nat.add_comm 1 i], by simpa using h3, h4, h5, by simpa using h6⟩
  | [], _ :: _, _, h => h.elim
  | _ :: _, [], _, h => h.elim

/-- What a map type says: kinds of keys and elements. -/
def mapTy (Γ : Gam) (t : Nat) : Option (Nat × TI × Ty × Nat × TI × Ty) :=
  match Γ t with
  | none => none
  | some i =>
    match i.k with
    | .map kt et =>
      match Γ kt, Γ et with
      | some jk, some je =>
        match jk.ty, je.ty with
        | some K, some E =>
          match keyKind jk.k K, Nat.beq E.size je.size with
          | true, true => some (kt, jk, K, et, je, E)
          | _, _ => none
        | _, _ => none
      | _, _ => none
    | _ => none

theorem mapTy_ok (hΓ : Γ.ok P) {t kt et : Nat} {jk je : TI} {K E : Ty} (h : mapTy Γ t = some (kt, jk, K, et, je, E)) :
    P.underlying t = some (.map kt et) ∧ (∃ d, P.underlying kt = some d ∧ keyKind (.scal d) K = true) ∧ je.ok P et ∧ E.size = je.size := by
  unfold mapTy at h
  split at h
  · cases h
  · rename_i i hi
    have h1 := (hΓ t i hi).1
    split at h
    · rename_i kt' et' hk
      rw [hk] at h1
      split at h
      · rename_i jk' je' hjk hje
        split at h
        · rename_i K' E' hK hE
          split at h
          · rename_i h2 h3
            simp only [Option.some.injEq, Prod.mk.injEq] at h
            obtain ⟨rfl, rfl, rfl, rfl, rfl, rfl⟩ := h
            refine ⟨h1, ?_, hΓ _ _ hje, Nat.eq_of_beq_eq_true h3⟩
            have h4 := (hΓ _ _ hjk).1
            cases hkk : jk'.k <;> rw [hkk] at h2 h4 <;> first | (simp [keyKind] at h2; done) | exact ⟨_, h4.1, h2⟩
          · cases h
        · cases h
      · cases h
    · cases h

/-- A map's content, as pairs of types. -/
def mapList (st : Sym) (K E : Ty) (ea : Bool) : Leaf → Option (List (K.den × E.den))
  | .nilmap => some []
  | .mapr c =>
    match st.h c with
    | some (.mp K' E' ea' l) =>
      match decEq K' K, decEq E' E, decEq ea' ea with
      | isTrue h1, isTrue h2, isTrue _ => some (h1 ▸ h2 ▸ l)
      | _, _, _ => none
    | _ => none
  | _ => none

theorem mapList_ok (hch : ∀ c k, st.h c = some k → k.rep w I ρ (ρ c)) {K E : Ty} {ea : Bool} {x : Leaf} {l : List (K.den × E.den)} {v : Value} (h : mapList st K E ea x = some l) (hx : x.rep w I ρ v) :
    (v = .map none ∧ l = []) ∨ ∃ c L es clock, x = .mapr c ∧ st.h c = some (.mp K E ea l) ∧ ρ c = some L ∧ v = .map (some L.b) ∧ w.heap[L.b]? = some (.map es clock) ∧ All2 (entryRep w I K E ea) es.toList l := by
  unfold mapList at h
  split at h
  · cases h; exact .inl ⟨hx, rfl⟩
  · rename_i c
    split at h
    · rename_i K' E' ea' l' hc
      split at h
      · rename_i h1 h2 h3 _ _ _
        subst h1; subst h2; subst h3
        cases h
        obtain ⟨L, hL, rfl⟩ := hx
        obtain ⟨L', es, clock, hL', hg, hall⟩ := hch c _ hc
        rw [hL] at hL'; cases hL'
        exact .inr ⟨c, L, es, clock, rfl, hc, hL, rfl, hg, hall⟩
      · cases h
    · cases h
  · cases h

theorem mkV_val {T : Ty} {ag : Bool} {n : Nat} {v : Value} {x : T.den} {y : V0} (h : mkV ag n (T.leafs x) = some y) (hv : T.valRep w I ag v x) : y.rep w I ρ v := by
  obtain ⟨h1, h2⟩ := mkV_spec h
  rcases h2 with ⟨rfl, rfl⟩ | ⟨rfl, z, hz, rfl⟩
  · obtain ⟨cs, rfl, hr⟩ := hv
    exact ⟨cs, rfl, Ty.leafs_rep T hr⟩
  · have := Ty.leafs_rep (ρ := ρ) T hv
    rw [hz] at this
    exact this.1

def lookupD (Γ : Gam) (st : Sym) (t : Nat) (m key : Leaf) (ok : Bool) : Option SV :=
  match mapTy Γ t with
  | none => none
  | some (_, _, K, _, je, E) =>
    match mapList st K E je.agg m, K.toDen [key], E.toDen je.zero with
    | some l, some x, some z =>
      match mkV je.agg je.size (E.leafs ((mget l x).getD z)), ok with
      | some y, true => some (.tup [y, .cell (.bool (mget l x).isSome)])
      | some y, false => some (.one y)
      | none, _ => none
    | _, _, _ => none

theorem lookupD_ok (hΓ : Γ.ok P) (hch : ∀ c k, st.h c = some k → k.rep w I ρ (ρ c)) {t : Nat} {m key : Leaf} {ok : Bool} {u v : Value} {r : SV} (h : lookupD Γ st t m key ok = some r) (hm : m.rep w I ρ u) (hkey : key.rep w I ρ v) :
    ∃ z, (Instr.lookup t u v ok).run P w = .ok z w ∧ r.rep w I ρ z := by
  unfold lookupD at h
  split at h
  · cases h
  · rename_i kt jk K et je E hmt
    obtain ⟨h1, ⟨d, h2, h3⟩, h4, h5⟩ := mapTy_ok hΓ hmt
    split at h
    · rename_i l x z hl hx hz
      have hxr : K.rep w I [v] x := Ty.toDen_rep (ρ := ρ) hx ⟨hkey, trivial⟩
      obtain ⟨zv, hz1, hz2, hz3, hz4, hz5⟩ := TI.run_zero h4
      have hzr : E.valRep w I je.agg zv z := by
        have hz6 := Ty.toDen_rep (ρ := ρ) hz ((constLeafs_rep hz3 w I ρ).mono fun _ _ k => k.2)
        cases ha : je.agg with
        | true =>
          obtain ⟨cs, rfl⟩ := hz5 ha
          exact ⟨cs, rfl, hz6⟩
        | false =>
          rw [hz4 ha] at hz6
          exact hz6
      have hck : ∀ b, (Instr.checkKey b 10000 kt v).run P w = .ok () w := fun b => checkKey_plain h2 h3 hxr b 9999
      -- the value, and whether it is there
      have hrun : ∃ y : Value, (Instr.lookup t u v ok).run P w = .ok (if ok then .tuple #[y, .bool (mget l x).isSome] else y) w ∧ E.valRep w I je.agg y ((mget l x).getD z) := by
        rcases mapList_ok hch hl hm with ⟨rfl, rfl⟩ | ⟨c, L, es, clock, rfl, hc, hL, rfl, hg, hall⟩
        · refine ⟨zv, ?_, hzr⟩
          have hf : (Instr.findKey kt v []).run P w = .ok none w := by simp [Instr.findKey, run_underlying h2, Instr.findNow]
          cases ok <;> simp [Instr.lookup, run_underlying h1, hck, hf, hz1, mget, mfind]
        · rcases findNow_ok h3 hxr 0 hall with ⟨e1, e2⟩ | ⟨i, y, me, e1, e2, e3, e4, e5, e6⟩
          · have hf : (Instr.findKey kt v es.toList).run P w = .ok none w := by simp [Instr.findKey, run_underlying h2, e2]
            refine ⟨zv, ?_, by simpa [mget, e1] using hzr⟩
            cases ok <;> simp [Instr.lookup, run_underlying h1, getObj, Sem.run, hg, hck, hf, hz1, mget, e1]
          · have hf : (Instr.findKey kt v es.toList).run P w = .ok (some (0 + i, me.val)) w := by simp [Instr.findKey, run_underlying h2, e2]
            refine ⟨me.val, ?_, by simpa [mget, e1] using e4⟩
            cases ok <;> simp [Instr.lookup, run_underlying h1, getObj, Sem.run, hg, hck, hf, mget, e1]
      obtain ⟨y, hy1, hy2⟩ := hrun
      split at h
      · rename_i yv hyv
        cases h
        refine ⟨_, hy1, ?_⟩
        simp only [if_true]
        exact ⟨_, rfl, mkV_val hyv hy2, rfl, trivial⟩
      · rename_i yv hyv
        cases h
        exact ⟨_, hy1, mkV_val hyv hy2⟩
      · cases h
    · cases h

def makeMapD (Γ : Gam) (id t : Nat) : Option Delta :=
  match mapTy Γ t with
  | none => none
  | some (_, _, K, _, je, E) => some ⟨[], oneS (.mapr id), some (id, .mp K E je.agg []), [id]⟩

theorem makeMapD_ok (hI : ∀ b, I b → b < w.heap.size) {id t : Nat} {d : Delta} (h : makeMapD Γ id t = some d) : Good P st I ρ w (Instr.makeMap t none) d := by
  unfold makeMapD at h
  split at h
  · cases h
  · rename_i kt jk K et je E hmt
    cases h
    refine ⟨.map (some w.heap.size), w.alloc (.map #[] 0), I, (fun x => if x = id then some ⟨w.heap.size, 0, 0, 0, 0⟩ else ρ x), ?_, ?_, ?_⟩
    · rfl
    · refine Step.alloc st I ρ w _ (.map #[] 0) _ _ id _ ⟨w.heap.size, 0, 0, 0, 0⟩ rfl hI rfl rfl rfl rfl ?_
      exact ⟨_, #[], 0, rfl, heap_alloc_new w _, trivial⟩
    · exact ⟨⟨w.heap.size, 0, 0, 0, 0⟩, by simp, rfl⟩

def mapUpdateD (Γ : Gam) (st : Sym) (t : Nat) (m key : Leaf) (val : V0) : Option (Nat × Chunk) :=
  match mapTy Γ t, m with
  | some (_, _, K, _, je, E), .mapr c =>
    match mapList st K E je.agg (.mapr c), K.toDen [key], E.toDen val.leafs, val, je.agg with
    | some l, some x, some y, .cell _, false => some (c, .mp K E false (mset l x y))
    | some l, some x, some y, .agg _, true => some (c, .mp K E true (mset l x y))
    | _, _, _, _, _ => none
  | _, _ => none

theorem sameBits_key {K : Ty} {d : TypeDesc} (hk : keyKind (.scal d) K = true) {u v : Value} {x : K.den} (hu : K.rep w I [u] x) (hv : K.rep w I [v] x) (n : Nat) : Instr.sameBits n u v = true ∧ u = v := by
  rcases keyKind_cases hk with ⟨k, rfl, rfl⟩ | ⟨rfl, rfl⟩ | ⟨rfl, rfl⟩
  · obtain ⟨e, _⟩ := hu
    obtain ⟨e', _⟩ := hv
    simp only [List.cons.injEq, and_true] at e e'; subst e; subst e'
    simp [Instr.sameBits]
  · have e : [u] = [Value.bool x] := hu
    have e' : [v] = [Value.bool x] := hv
    simp only [List.cons.injEq, and_true] at e e'; subst e; subst e'
    simp [Instr.sameBits]
  · obtain ⟨e, _⟩ := hu
    obtain ⟨e', _⟩ := hv
    simp only [List.cons.injEq, and_true] at e e'; subst e; subst e'
    exact ⟨by unfold Instr.sameBits; exact bytes_refl x, rfl⟩

theorem All2.set {α β : Type} {R : α → β → Prop} {a : α} {b : β} (h : R a b) : ∀ {as : List α} {bs : List β} (i : Nat), All2 R as bs → All2 R (as.set i a) (bs.set i b)
  | [], [], _, _ => trivial
  | _ :: _, _ :: _, 0, k => ⟨h, k.2⟩
  | _ :: _, _ :: _, i + 1, k => ⟨k.1, All2.set h i k.2⟩
  | [], _ :: _, _, k => k.elim
  | _ :: _, [], _, k => k.elim

theorem mapUpdateD_ok (hΓ : Γ.ok P) (hch : ∀ c k, st.h c = some k → k.rep w I ρ (ρ c)) (hout : ∀ c k L, st.h c = some k → ρ c = some L → ¬ I L.b) {t : Nat} {m key : Leaf} {val : V0} {u v z : Value} {c : Nat} {k : Chunk}
    (h : mapUpdateD Γ st t m key val = some (c, k)) (hm : m.rep w I ρ u) (hkey : key.rep w I ρ v) (hval : val.rep w I ρ z) (sv : SV) (ob : List Prop) :
    ∃ w', (Instr.mapUpdate t u v z).run P w = .ok () w' ∧ Step st I ρ w ⟨ob, sv, some (c, k), []⟩ I ρ w' := by
  unfold mapUpdateD at h
  split at h
  · rename_i kt jk K et je E c' hmt
    obtain ⟨h1, ⟨d, h2, h3⟩, h4, h5⟩ := mapTy_ok hΓ hmt
    -- the new content, whatever the element's form
    have core : ∀ (ea : Bool) (l : List (K.den × E.den)) (x : K.den) (y : E.den), mapList st K E ea (.mapr c') = some l → K.toDen [key] = some x → E.valRep w I ea z y → (c', Chunk.mp K E ea (mset l x y)) = (c, k) →
        ∃ w', (Instr.mapUpdate t u v z).run P w = .ok () w' ∧ Step st I ρ w ⟨ob, sv, some (c, k), []⟩ I ρ w' := by
      intro ea l x y hl hx hy he
      simp only [Prod.mk.injEq] at he
      obtain ⟨rfl, rfl⟩ := he
      have hxr : K.rep w I [v] x := Ty.toDen_rep (ρ := ρ) hx ⟨hkey, trivial⟩
      have hck : ∀ b, (Instr.checkKey b 10000 kt v).run P w = .ok () w := fun b => checkKey_plain h2 h3 hxr b 9999
      rcases mapList_ok hch hl hm with ⟨rfl, _⟩ | ⟨c, L, es, clock, hcc, hc, hL, rfl, hg, hall⟩
      · obtain ⟨L, _, e⟩ := hm; cases e
      · cases hcc
        have hlt := (Array.getElem?_eq_some_iff.1 hg).1
        have hnI := hout _ _ L hc hL
        have fin : ∀ (es' : Array MapEntry) (ck : Nat), (Instr.mapUpdate t (.map (some L.b)) v z).run P w = .ok () { w with heap := w.heap.setIfInBounds L.b (.map es' ck) } → All2 (entryRep w I K E ea) es'.toList (mset l x y) →
            ∃ w', (Instr.mapUpdate t (.map (some L.b)) v z).run P w = .ok () w' ∧ Step st I ρ w ⟨ob, sv, some (c', Chunk.mp K E ea (mset l x y)), []⟩ I ρ w' := by
          intro es' ck hr hall'
          have hoth : ∀ b, b ≠ L.b → (w.heap.setIfInBounds L.b (.map es' ck))[b]? = w.heap[b]? := fun b hb => Array.getElem?_setIfInBounds_ne (Ne.symm hb)
          refine ⟨_, hr, Step.store st I ρ w _ ob sv c' _ _ L hc hL hlt hoth (by simp) rfl rfl rfl ?_⟩
          refine ⟨L, es', ck, hL, by simp [hlt], hall'.mono fun a b hab => ?_⟩
          have hkeep : ∀ b, I b → I b ∧ (w.heap.setIfInBounds L.b (.map es' ck))[b]? = w.heap[b]? := fun b hb => ⟨hb, hoth b (fun e => hnI (e ▸ hb))⟩
          exact ⟨Ty.rep_mono (w' := { w with heap := w.heap.setIfInBounds L.b (.map es' ck) }) hkeep K hab.1, Ty.valRep_mono (w' := { w with heap := w.heap.setIfInBounds L.b (.map es' ck) }) hkeep hab.2⟩
        rcases findNow_ok h3 hxr 0 hall with ⟨e1, e2⟩ | ⟨i, y', me, e1, e2, e3, e4, e5, e6⟩
        · have hf : (Instr.findKey kt v es.toList).run P w = .ok none w := by simp [Instr.findKey, run_underlying h2, e2]
          refine fin (es.push { key := v, val := z, born := clock }) (clock + 1) ?_ ?_
          · simp [Instr.mapUpdate, run_underlying h1, getObj, setObj, Sem.run, hg, hck, hf]
          · simp only [mset, e1, Array.toList_push]
            exact hall.app ⟨⟨hxr, hy⟩, trivial⟩
        · have hf : (Instr.findKey kt v es.toList).run P w = .ok (some (0 + i, me.val)) w := by simp [Instr.findKey, run_underlying h2, e2]
          have hsb := sameBits_key h3 e5 hxr 10000
          have hes : es[i]? = some me := by simpa using e3
          have hil : i < es.size := (Array.getElem?_eq_some_iff.1 hes).1
          refine fin (es.modify i fun e => { e with key := v, val := z }) clock ?_ ?_
          · simp [Instr.mapUpdate, run_underlying h1, getObj, setObj, Sem.run, hg, hck, hf, hes, Instr.keyThatStays, hsb.1]
          · simp only [mset, e1]
            have hset : (es.modify i fun e => { e with key := v, val := z }).toList = es.toList.set i { me with key := v, val := z } := by
              apply List.ext_getElem?
              intro j
              rw [Array.getElem?_toList, Array.getElem?_modify, List.getElem?_set]
              by_cases hij : i = j
              · subst hij
                have hgm : es[i] = me := by
                  rw [Array.getElem?_eq_getElem hil] at hes; simpa using hes
                simp [hes, hil, hgm]
              · simp [hij]
            rw [hset]
            exact All2.set ⟨hxr, hy⟩ i hall
    split at h
    · rename_i l x y q hl hx ha hy
      rw [ha] at hl
      refine core false l x y hl hx ?_ (by simpa using h)
      exact Ty.toDen_rep (ρ := ρ) hy ⟨hval, trivial⟩
    · rename_i l x y q hl hx ha hy
      rw [ha] at hl
      obtain ⟨cs, rfl, hcs⟩ := hval
      exact core true l x y hl hx ⟨cs, rfl, Ty.toDen_rep (ρ := ρ) hy hcs⟩ (by simpa using h)
    · cases h
  · cases h

end
end Go.Sx
