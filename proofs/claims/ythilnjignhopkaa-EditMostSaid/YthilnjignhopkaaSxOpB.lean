/- Operations, second part: places in memory, loads, stores, new variables, slices. Conditions: the table of types is true of the program. -/
import Derived.Test.YthilnjignhopkaaSxOpA
set_option linter.unusedSimpArgs false
set_option linter.unusedVariables false
namespace Go.Sx
open Go

def oneS (x : Leaf) : SV := .one (.cell x)
def dPure (ob : List Prop) (v : SV) : Delta := ⟨ob, v, none, []⟩

section
variable {P : Program} {Γ : Gam} {st : Sym} {w : World} {I : Nat → Prop} {ρ : Rho}

/-- A run that changes a state as told, and yields a value as told. -/
def Good (P : Program) (st : Sym) (I : Nat → Prop) (ρ : Rho) (w : World) (s : Sem Value) (d : Delta) : Prop :=
  ∃ v w' I' ρ', s.run P w = .ok v w' ∧ Step st I ρ w d I' ρ' w' ∧ d.val.rep w' I' ρ' v

theorem Good.pure {s : Sem Value} {ob : List Prop} {x : SV} {v : Value} (h : s.run P w = .ok v w) (hx : x.rep w I ρ v) : Good P st I ρ w s (dPure ob x) :=
  ⟨v, w, I, ρ, h, Step.pure st I ρ w ob x, hx⟩

/-! ### Places -/

def placeAdd (n : Nat) : Leaf → Option Leaf
  | .ref c off => some (.ref c (off + n))
  | .eref c i sub => some (.eref c i (sub + n))
  | .iptr T x sub => some (.iptr T x (sub + n))
  | _ => none

theorem placeAdd_ok {n : Nat} {x y : Leaf} {v : Value} (h : placeAdd n x = some y) (hx : x.rep w I ρ v) : ∃ a : Addr, v = .pointer (some a) ∧ y.rep w I ρ (.pointer (some (a.add n))) := by
  cases x <;> simp only [placeAdd, Option.some.injEq, reduceCtorEq] at h
  · subst h; obtain ⟨L, h1, rfl⟩ := hx
    exact ⟨_, rfl, L, h1, by rw [add_lit, Nat.add_assoc]⟩
  · subst h; obtain ⟨L, h1, rfl, h2⟩ := hx
    exact ⟨_, rfl, L, h1, by rw [add_lit, Nat.add_assoc], h2⟩
  · subst h; obtain ⟨b, o, cs, el, fr, rfl, h2⟩ := hx
    exact ⟨_, rfl, b, o, cs, el, fr, by rw [add_lit, Nat.add_assoc], h2⟩

def fieldInfo (Γ : Gam) (s f : Nat) : Option (Nat × TI) :=
  match Γ s with
  | some i =>
    match i.k with
    | .strct fs =>
      match fs[f]? with
      | some (o, t) =>
        match Γ t with
        | some j => some (o, j)
        | none => none
      | none => none
    | _ => none
  | none => none

theorem fieldInfo_ok (hΓ : Γ.ok P) {s f o : Nat} {j : TI} (h : fieldInfo Γ s f = some (o, j)) :
    ∃ (fields : Array Field) (fd : Field), P.underlying s = some (.struct fields) ∧ fields[f]? = some fd ∧ fd.offset = o ∧ j.ok P fd.type := by
  unfold fieldInfo at h
  split at h
  · rename_i i hi
    have h1 := (hΓ s i hi).1
    split at h
    · rename_i fs hk
      rw [hk] at h1
      obtain ⟨fields, h1, h2⟩ := h1
      split at h
      · rename_i o' t hf
        split at h
        · rename_i j' hj
          simp only [Option.some.injEq, Prod.mk.injEq] at h
          obtain ⟨rfl, rfl⟩ := h
          rw [← h2, List.getElem?_map] at hf
          simp only [Array.getElem?_toList, Option.map_eq_some_iff, Prod.mk.injEq] at hf
          obtain ⟨fd, h3, h4, rfl⟩ := hf
          exact ⟨fields, fd, h1, h3, h4, hΓ _ _ hj⟩
        · cases h
      · cases h
    · cases h
  · cases h

/-- &x.f -/
def fieldAddrLeaf (Γ : Gam) (s : Nat) (x : Leaf) (f : Nat) : Option Leaf :=
  match fieldInfo Γ s f with
  | some (o, j) =>
    match Nat.beq j.size 0 with
    | true => none
    | false => placeAdd o x
  | none => none

theorem fieldAddr_ok (hΓ : Γ.ok P) {s f : Nat} {x y : Leaf} {v : Value} (h : fieldAddrLeaf Γ s x f = some y) (hx : x.rep w I ρ v) :
    ∃ u, (Instr.fieldAt s v f).run P w = .ok u w ∧ y.rep w I ρ u := by
  unfold fieldAddrLeaf at h
  split at h
  · rename_i o j hf
    obtain ⟨fields, fd, h1, h2, h3, h4⟩ := fieldInfo_ok hΓ hf
    split at h
    · cases h
    · rename_i hz
      have hz : j.size ≠ 0 := Nat.ne_of_beq_eq_false hz
      obtain ⟨a, rfl, hy⟩ := placeAdd_ok h hx
      refine ⟨_, ?_, hy⟩
      simp only [Instr.fieldAt, Sem.run_bind, run_underlying h1, Result.andThen_ok, h2, Instr.sureAddr, Sem.run_pure, fieldPlace, TI.run_sizeOf h4, hz, if_false, h3]
  · cases h

/-- The index of an operand that is written out. -/
def litIdx : Operand → Option Nat
  | .const (.int _ (.ofNat n)) => some n
  | _ => none

/-- &x[i] -/
def indexAddrLeaf (Γ : Gam) (st : Sym) (t : Nat) (x : Leaf) (lit : Option Nat) (i : Int) : Option (List Prop × Leaf) :=
  match Γ t with
  | none => none
  | some ti =>
    match ti.k with
    | .slice e =>
      match Γ e with
      | none => none
      | some j =>
        match x with
        | .isl T l =>
          match Nat.beq T.size j.size with
          | true => some ([0 ≤ i ∧ i < l.length], .iptr T (l.getD i.toNat T.dflt) 0)
          | false => none
        | .vec c =>
          match st.h c with
          | some (.arr T l) =>
            match Nat.beq T.size j.size with
            | true => some ([0 ≤ i ∧ i < l.length], .eref c i.toNat 0)
            | false => none
          | _ => none
        | .slc c off len =>
          match st.h c with
          | some (.arr T _) =>
            match Nat.beq T.size j.size with
            | true => some ([0 ≤ i ∧ i < len], .eref c (off + i.toNat) 0)
            | false => none
          | _ => none
        | _ => none
    | .array n e =>
      match Γ e with
      | none => none
      | some j =>
        match lit with
        | some m =>
          match Nat.blt m n, placeAdd (m * j.size) x with
          | true, some y => some ([i = m], y)
          | _, _ => none
        | none =>
          match placeAdd (i.toNat * j.size) x with
          | some y => some ([0 ≤ i ∧ i < n], y)
          | none => none
    | _ => none

theorem run_indexAt_slice {t e : Nat} {j : TI} (ht : P.underlying t = some (.slice e)) (hj : j.ok P e) (a : Addr) (len cap : Nat) (k : IntKind) (i : Int) (h0 : 0 ≤ i) (h1 : i < len) :
    (Instr.indexAt t (.slice (some a) len cap) (.int k i)).run P w = .ok (.pointer (some (a.add (i.toNat * j.size)))) w := by
  have hc : 0 ≤ i ∧ i < len := ⟨h0, h1⟩
  simp [Instr.indexAt, asIntOf, run_underlying ht, TI.run_sizeOf hj, h0, h1]

theorem run_indexAt_array {t e n : Nat} {j : TI} (ht : P.underlying t = some (.array n e)) (hj : j.ok P e) (a : Addr) (k : IntKind) (i : Int) (h0 : 0 ≤ i) (h1 : i < n) :
    (Instr.indexAt t (.pointer (some a)) (.int k i)).run P w = .ok (.pointer (some (a.add (i.toNat * j.size)))) w := by
  simp [Instr.indexAt, asIntOf, run_underlying ht, TI.run_sizeOf hj, h0, h1, Instr.sureAddr]

theorem indexAddr_ok (hΓ : Γ.ok P) (hch : ∀ c k, st.h c = some k → k.rep w I ρ (ρ c)) {t : Nat} {x y : Leaf} {lit : Option Nat} {i : Int} {k : IntKind} {v : Value} {ob : List Prop}
    (h : indexAddrLeaf Γ st t x lit i = some (ob, y)) (hob : ∀ p ∈ ob, p) (hx : x.rep w I ρ v) :
    ∃ u, (Instr.indexAt t v (.int k i)).run P w = .ok u w ∧ y.rep w I ρ u := by
  unfold indexAddrLeaf at h
  split at h
  · cases h
  · rename_i ti hti
    have h1 := (hΓ t ti hti).1
    split at h
    · rename_i e hk
      rw [hk] at h1
      split at h
      · cases h
      · rename_i j hj
        have hj := hΓ e j hj
        split at h
        · rename_i T l
          split at h
          · rename_i hsz
            have hsz := Nat.eq_of_beq_eq_true hsz
            simp only [Option.some.injEq, Prod.mk.injEq] at h
            obtain ⟨rfl, rfl⟩ := h
            obtain ⟨hi0, hi1⟩ := hob _ (List.mem_singleton.2 rfl)
            obtain ⟨ad, cap, hv, _, _, hm⟩ := hx
            simp only [List.cons.injEq, and_true] at hv
            subst hv
            cases ad with
            | none => obtain ⟨rfl, _⟩ := hm; simp at hi1; omega
            | some p =>
              obtain ⟨hsp, hm⟩ := hm
              rcases hm with rfl | ⟨hI, c, el, fr, hg, hfit, hall⟩
              · simp at hi1; omega
              · obtain ⟨b, o, sp⟩ := p
                simp only at hsp hg hfit hall hI
                subst hsp
                refine ⟨_, run_indexAt_slice h1 hj ⟨b, o, none⟩ l.length cap k i hi0 hi1, ?_⟩
                rw [add_lit]
                have hlt : i.toNat < l.length := by omega
                have hx : l[i.toNat]? = some (l.getD i.toNat T.dflt) := by simp [List.getD, hlt]
                have hfit2 : o + i.toNat * T.size + T.size ≤ c.size := by
                  have : (i.toNat + 1) * T.size ≤ l.length * T.size := Nat.mul_le_mul_right _ hlt
                  rw [Nat.add_mul] at this; omega
                exact ⟨b, o + i.toNat * T.size, c, el, fr, by rw [hsz]; rfl, hI, hg, hfit2, hall _ _ hx⟩
          · cases h
        · rename_i c
          split at h
          · rename_i T l hc
            split at h
            · rename_i hsz
              have hsz := Nat.eq_of_beq_eq_true hsz
              simp only [Option.some.injEq, Prod.mk.injEq] at h
              obtain ⟨rfl, rfl⟩ := h
              obtain ⟨hi0, hi1⟩ := hob _ (List.mem_singleton.2 rfl)
              have hr := hch c _ hc
              simp only [Leaf.rep] at hx
              cases hL : ρ c with
              | none =>
                rw [hL] at hr
                have hl : l = [] := hr
                subst hl; simp at hi1; omega
              | some L =>
                rw [hL] at hx hr
                obtain ⟨cap, rfl, hc1, hc2⟩ := hx
                obtain ⟨hz, hlen, _⟩ := hr
                refine ⟨_, run_indexAt_slice h1 hj ⟨L.b, L.base, none⟩ L.len cap k i hi0 (by rw [hlen]; exact hi1), L, hL, ?_, ?_⟩
                · rw [add_lit, hz, hsz, Nat.add_zero]
                · rw [hlen]; omega
            · cases h
          · cases h
        · rename_i c off len
          split at h
          · rename_i T l hc
            split at h
            · rename_i hsz
              have hsz := Nat.eq_of_beq_eq_true hsz
              simp only [Option.some.injEq, Prod.mk.injEq] at h
              obtain ⟨rfl, rfl⟩ := h
              obtain ⟨hi0, hi1⟩ := hob _ (List.mem_singleton.2 rfl)
              have hr := hch c _ hc
              simp only [Leaf.rep] at hx
              cases hL : ρ c with
              | none =>
                rw [hL] at hx
                obtain ⟨_, _, rfl⟩ := hx
                simp at hi1; omega
              | some L =>
                rw [hL] at hx hr
                obtain ⟨cap, o, rfl, hc1, hc2, hc3, hc4⟩ := hx
                obtain ⟨hz, hlen, _⟩ := hr
                have ho : o = L.base + off * L.sz := by
                  rcases hc4 with h | h
                  · omega
                  · exact h
                subst ho
                refine ⟨_, run_indexAt_slice h1 hj ⟨L.b, L.base + off * L.sz, none⟩ len cap k i hi0 hi1, L, hL, ?_, ?_⟩
                · rw [add_lit, hz, hsz, Nat.add_mul, Nat.add_zero, ← Nat.add_assoc]
                · omega
            · cases h
          · cases h
        · cases h
    · rename_i n e hk
      rw [hk] at h1
      split at h
      · cases h
      · rename_i j hj
        have hj := hΓ e j hj
        split at h
        · rename_i m
          split at h
          · rename_i y' hlt hy
            simp only [Option.some.injEq, Prod.mk.injEq] at h
            obtain ⟨rfl, rfl⟩ := h
            have hi : i = m := hob _ (List.mem_singleton.2 rfl)
            have hlt : m < n := Nat.le_of_ble_eq_true hlt
            obtain ⟨a, rfl, hy⟩ := placeAdd_ok hy hx
            refine ⟨_, run_indexAt_array h1 hj a k i (by omega) (by omega), ?_⟩
            rw [hi]; simpa using hy
          · cases h
        · split at h
          · rename_i y' hy
            simp only [Option.some.injEq, Prod.mk.injEq] at h
            obtain ⟨rfl, rfl⟩ := h
            obtain ⟨hi0, hi1⟩ := hob _ (List.mem_singleton.2 rfl)
            obtain ⟨a, rfl, hy⟩ := placeAdd_ok hy hx
            exact ⟨_, run_indexAt_array h1 hj a k i hi0 hi1, hy⟩
          · cases h
    · cases h

/-! ### Loads -/

def loadAt (i : TI) (st : Sym) (x : Leaf) : Option V0 :=
  match x with
  | .ref c off =>
    match st.h c with
    | some (.cells ls) =>
      match Nat.ble (off + i.size) ls.length with
      | true => mkV i.agg i.size ((ls.drop off).take i.size)
      | false => none
    | _ => none
  | .eref c n sub =>
    match st.h c with
    | some (.arr T l) =>
      match Nat.ble (sub + i.size) T.size with
      | true => mkV i.agg i.size (((T.leafs (l.getD n T.dflt)).drop sub).take i.size)
      | false => none
    | _ => none
  | .iptr T x sub =>
    match Nat.ble (sub + i.size) T.size with
    | true => mkV i.agg i.size (((T.leafs x).drop sub).take i.size)
    | false => none
  | _ => none

theorem load_seg {i : TI} {t : Nat} (hi : i.ok P t) {b o : Nat} {cs : Array Value} {el : TypeId} {fr : Nat × Nat} (hg : w.heap[b]? = some (.cells cs el fr)) (hs : o + i.size ≤ cs.size)
    {ls : List Leaf} {x : V0} (hx : mkV i.agg i.size ls = some x) (hr : All2 (Leaf.rep w I ρ) (seg cs o i.size) ls) :
    ∃ v, (Instr.loadAt t (.pointer (some ⟨b, o, none⟩))).run P w = .ok v w ∧ x.rep w I ρ v := by
  obtain ⟨h1, h2⟩ := mkV_spec hx
  have hone : i.agg = false → i.size = 1 := fun ha => by
    rcases h2 with ⟨h, _⟩ | ⟨_, y, rfl, _⟩
    · rw [ha] at h; cases h
    · exact h1.symm
  obtain ⟨v, hv, hva, hvn⟩ := TI.run_loadVar hi hg hs hone
  refine ⟨v, by simp only [Instr.loadAt, Instr.sureAddr, Sem.run_bind, Sem.run_pure, Result.andThen_ok, hv], ?_⟩
  rcases h2 with ⟨ha, rfl⟩ | ⟨ha, y, rfl, rfl⟩
  · rw [hva ha]
    exact ⟨_, rfl, by simpa using hr⟩
  · rw [hvn ha] at hr
    exact hr.1

theorem loadAt_ok {i : TI} {t : Nat} (hi : i.ok P t) (hch : ∀ c k, st.h c = some k → k.rep w I ρ (ρ c)) {x : Leaf} {y : V0} {v : Value} (h : loadAt i st x = some y) (hx : x.rep w I ρ v) :
    ∃ u, (Instr.loadAt t v).run P w = .ok u w ∧ y.rep w I ρ u := by
  unfold loadAt at h
  split at h
  · rename_i c off
    split at h
    · rename_i ls hc
      split at h
      · rename_i hle
        have hle := Nat.le_of_ble_eq_true hle
        obtain ⟨L, hL, rfl⟩ := hx
        have hr := hch c _ hc
        obtain ⟨L', cs, el, hL', hb, hg, hall⟩ := hr
        rw [hL] at hL'; cases hL'
        rw [hb, Nat.zero_add]
        have hlen := hall.length
        refine load_seg hi hg (by simp at hlen; omega) h ?_
        exact ((hall.mono fun _ _ k => k.2).drop off).take i.size
      · cases h
    · cases h
  · rename_i c n sub
    split at h
    · rename_i T l hc
      split at h
      · rename_i hle
        have hle := Nat.le_of_ble_eq_true hle
        obtain ⟨L, hL, rfl, hn⟩ := hx
        have hr := hch c _ hc
        rw [hL] at hr
        obtain ⟨hz, hlen, hcap, _, cs, el, hg, hfit, hall, _⟩ := hr
        have hn' : n < l.length := by omega
        have hx : l[n]? = some (l.getD n T.dflt) := by simp [List.getD, hn']
        have hfit : L.base + L.cap * L.sz ≤ cs.size := by
          rcases hfit with h | h
          · omega
          · exact h
        have hfit2 : L.base + n * T.size + T.size ≤ cs.size := by
          have : (n + 1) * T.size ≤ L.cap * T.size := Nat.mul_le_mul_right _ (by omega)
          rw [Nat.add_mul] at this; rw [hz] at hfit; omega
        have hrep := Ty.leafs_rep (ρ := ρ) T (hall n _ hx)
        rw [hz]
        refine load_seg hi hg (by omega) h ?_
        have := (hrep.drop sub).take i.size
        rwa [seg_sub hle] at this
      · cases h
    · cases h
  · rename_i T x sub
    split at h
    · rename_i hle
      have hle := Nat.le_of_ble_eq_true hle
      obtain ⟨b, o, cs, el, fr, rfl, hI, hg, hfit, hr⟩ := hx
      have hrep := Ty.leafs_rep (ρ := ρ) T hr
      refine load_seg hi hg (by omega) h ?_
      have := (hrep.drop sub).take i.size
      rwa [seg_sub hle] at this
    · cases h
  · cases h

/-! ### Stores -/

def storeAt (i : TI) (st : Sym) (x : Leaf) (vs : List Leaf) : Option (Nat × Chunk) :=
  match noJunk vs, Nat.beq vs.length i.size with
  | true, true =>
    match x with
    | .ref c off =>
      match st.h c with
      | some (.cells ls) =>
        match Nat.ble (off + vs.length) ls.length with
        | true => some (c, .cells (splice ls off vs))
        | false => none
      | _ => none
    | .eref c n sub =>
      match st.h c with
      | some (.arr T l) =>
        match Nat.ble (sub + vs.length) T.size with
        | true =>
          match T.toDen (splice (T.leafs (l.getD n T.dflt)) sub vs) with
          | some y => some (c, .arr T (l.set n y))
          | none => none
        | false => none
      | _ => none
    | _ => none
  | _, _ => none

theorem All2.splice {α β : Type} {R : α → β → Prop} {as vs : List α} {bs us : List β} (o : Nat) (h : All2 R as bs) (k : All2 R vs us) :
    All2 R (as.take o ++ vs ++ as.drop (o + vs.length)) (bs.take o ++ us ++ bs.drop (o + us.length)) := by
  rw [k.length]
  exact ((h.take o).app k).app (h.drop _)

/-- The cells behind a store. -/
theorem splice_get {cs : Array Value} {vs : List Value} {o : Nat} (h : o + vs.length ≤ cs.size) (j : Nat) :
    (cs.toList.take o ++ vs ++ cs.toList.drop (o + vs.length)).toArray[j]? = if o ≤ j ∧ j < o + vs.length then vs[j - o]? else cs[j]? := by
  simp only [List.getElem?_toArray]
  have ho : (cs.toList.take o).length = o := by simp; omega
  by_cases h1 : j < o
  · rw [List.append_assoc, List.getElem?_append_left (by omega), if_neg (by omega), List.getElem?_take, if_pos h1]
    simp
  · by_cases h2 : j < o + vs.length
    · rw [List.append_assoc, List.getElem?_append_right (by omega), ho, List.getElem?_append_left (by omega), if_pos ⟨by omega, h2⟩]
    · rw [List.getElem?_append_right (by simp; omega), if_neg (by omega), List.getElem?_drop]
      simp only [List.length_append, ho, Array.getElem?_toList]
      congr 1; omega

theorem splice_size {cs : Array Value} {vs : List Value} {o : Nat} (h : o + vs.length ≤ cs.size) : (cs.toList.take o ++ vs ++ cs.toList.drop (o + vs.length)).toArray.size = cs.size := by
  simp; omega

theorem seg_splice_apart {cs : Array Value} {vs : List Value} {o p n : Nat} (h : o + vs.length ≤ cs.size) (hd : p + n ≤ o ∨ o + vs.length ≤ p) :
    seg (cs.toList.take o ++ vs ++ cs.toList.drop (o + vs.length)).toArray p n = seg cs p n := by
  apply List.ext_getElem?
  intro j
  by_cases hj : j < n
  · rw [seg_get hj, seg_get hj, splice_get h, if_neg (by omega)]
  · simp [seg, hj, List.getElem?_take]

theorem seg_splice_in {cs : Array Value} {vs : List Value} {p sub n : Nat} (h : p + n ≤ cs.size) (hd : sub + vs.length ≤ n) :
    seg (cs.toList.take (p + sub) ++ vs ++ cs.toList.drop (p + sub + vs.length)).toArray p n = (seg cs p n).take sub ++ vs ++ (seg cs p n).drop (sub + vs.length) := by
  have hl : (seg cs p n).length = n := seg_len h
  apply List.ext_getElem?
  intro j
  by_cases hj : j < n
  · rw [seg_get hj, splice_get (by omega)]
    have ht : ((seg cs p n).take sub).length = sub := by rw [List.length_take, hl]; omega
    by_cases h1 : j < sub
    · rw [if_neg (by omega), List.append_assoc, List.getElem?_append_left (by omega), List.getElem?_take, if_pos h1, seg_get hj]
    · by_cases h2 : j < sub + vs.length
      · rw [if_pos (by omega), List.append_assoc, List.getElem?_append_right (by omega), ht, List.getElem?_append_left (by omega)]
        congr 1; omega
      · rw [if_neg (by omega), List.getElem?_append_right (by rw [List.length_append, ht]; omega), List.getElem?_drop, List.length_append, ht, show sub + vs.length + (j - (sub + vs.length)) = j by omega, seg_get hj]
  · rw [List.getElem?_eq_none (by simp [seg]; omega), List.getElem?_eq_none (by rw [List.length_append, List.length_append, List.length_take, List.length_drop, hl]; omega)]

theorem run_storeAt {i : TI} {t : Nat} (hi : i.ok P t) {b o : Nat} {cs : Array Value} {el : TypeId} (hg : w.heap[b]? = some (.cells cs el (0, 0))) {v : Value}
    (hs : v.cells.toList.length = i.size) (hfit : o + i.size ≤ cs.size) (h1 : ∀ u ∈ v.cells.toList, u.oneCell' = true) :
    (Instr.storeAt t (.pointer (some ⟨b, o, none⟩)) v).run P w = .ok () (w.setRow b (cs.toList.take o ++ v.cells.toList ++ cs.toList.drop (o + v.cells.toList.length)).toArray) := by
  rw [hs]
  simp only [Instr.storeAt, Instr.sureAddr, Sem.run_bind, Sem.run_pure, Result.andThen_ok]
  exact TI.run_storeVar hi hg (by simpa using hs) hfit h1

theorem setRow_parts (w : World) (b : Nat) (cs : Array Value) : (w.setRow b cs).heap.size = w.heap.size ∧ (w.setRow b cs).os = w.os ∧ (w.setRow b cs).tape = w.tape ∧ (w.setRow b cs).output = w.output :=
  ⟨by simp [World.setRow], rfl, rfl, rfl⟩

theorem storeAt_ok {i : TI} {t : Nat} (hi : i.ok P t) (hch : ∀ c k, st.h c = some k → k.rep w I ρ (ρ c)) (hout : ∀ c k L, st.h c = some k → ρ c = some L → ¬ I L.b)
    {x : Leaf} {y : V0} {u v : Value} {c : Nat} {k : Chunk} (h : storeAt i st x y.leafs = some (c, k)) (hx : x.rep w I ρ u) (hy : y.rep w I ρ v) (sv : SV) (ob : List Prop) :
    ∃ w', (Instr.storeAt t u v).run P w = .ok () w' ∧ Step st I ρ w ⟨ob, sv, some (c, k), []⟩ I ρ w' := by
  unfold storeAt at h
  split at h
  · rename_i hj hsz
    have hcells := V0.cells_rep hj hy
    have hsz := Nat.eq_of_beq_eq_true hsz
    have hvl : v.cells.toList.length = y.leafs.length := hcells.length
    have hone : ∀ z ∈ v.cells.toList, z.oneCell' = true := hcells.left fun _ _ k => k.1
    split at h
    · rename_i c' off
      split at h
      · rename_i ls hc
        split at h
        · rename_i hle
          have hle := Nat.le_of_ble_eq_true hle
          simp only [Option.some.injEq, Prod.mk.injEq] at h
          obtain ⟨rfl, rfl⟩ := h
          obtain ⟨L, hL, rfl⟩ := hx
          obtain ⟨L', cs, el, hL', hb, hg, hall⟩ := hch c' _ hc
          rw [hL] at hL'; cases hL'
          have hlen := hall.length
          simp only [Array.length_toList] at hlen
          rw [hb, Nat.zero_add]
          have hfit : off + v.cells.toList.length ≤ cs.size := by omega
          refine ⟨_, run_storeAt hi hg (by omega) (by omega) hone, ?_⟩
          obtain ⟨s1, s2, s3, s4⟩ := setRow_parts w L.b (cs.toList.take off ++ v.cells.toList ++ cs.toList.drop (off + v.cells.toList.length)).toArray
          refine Step.store st I ρ w _ ob sv c' _ _ L hc hL (Array.getElem?_eq_some_iff.1 hg).1 (fun b hne => setRow_other w L.b b _ hne) s1 s2 s3 s4 ?_
          refine ⟨L, _, el, hL, hb, setRow_heap w L.b cs _ el _ hg, ?_⟩
          have hmono : ∀ v x, (v.oneCell' = true ∧ Leaf.rep w I ρ v x) → (v.oneCell' = true ∧ Leaf.rep (w.setRow L.b (cs.toList.take off ++ v.cells.toList ++ cs.toList.drop (off + v.cells.toList.length)).toArray) I ρ v x) := fun v x h =>
            ⟨h.1, Leaf.rep_mono (fun b hb => ⟨hb, setRow_other w L.b b _ (fun e => hout c' _ L hc hL (e ▸ hb))⟩) (fun _ _ => rfl) h.2⟩
          have key := (All2.splice off hall hcells)
          simp only [splice]
          refine All2.mono ?_ key
          intro a b hab
          exact ⟨hab.1, Leaf.rep_mono (fun b hb => ⟨hb, setRow_other w L.b b _ (fun e => hout c' _ L hc hL (e ▸ hb))⟩) (fun _ _ => rfl) hab.2⟩
        · cases h
      · cases h
    · rename_i c' n sub
      split at h
      · rename_i T l hc
        split at h
        · rename_i hle
          have hle := Nat.le_of_ble_eq_true hle
          split at h
          · rename_i z hz
            simp only [Option.some.injEq, Prod.mk.injEq] at h
            obtain ⟨rfl, rfl⟩ := h
            obtain ⟨L, hL, rfl, hn⟩ := hx
            have hr := hch c' _ hc
            rw [hL] at hr
            obtain ⟨hzs, hlen, hcap, hbig, cs, el, hg, hfit, hall, hones⟩ := hr
            have hn' : n < l.length := by omega
            have hxn : l[n]? = some (l.getD n T.dflt) := by simp [List.getD, hn']
            have hfit : L.base + L.cap * L.sz ≤ cs.size := by
              rcases hfit with h | h
              · omega
              · exact h
            have hfit2 : L.base + n * T.size + T.size ≤ cs.size := by
              have : (n + 1) * T.size ≤ L.cap * T.size := Nat.mul_le_mul_right _ (by omega)
              rw [Nat.add_mul] at this; rw [hzs] at hfit; omega
            rw [hzs]
            have hfit3 : L.base + n * T.size + sub + v.cells.toList.length ≤ cs.size := by omega
            refine ⟨_, run_storeAt hi hg (by omega) (by omega) hone, ?_⟩
            obtain ⟨s1, s2, s3, s4⟩ := setRow_parts w L.b (cs.toList.take (L.base + n * T.size + sub) ++ v.cells.toList ++ cs.toList.drop (L.base + n * T.size + sub + v.cells.toList.length)).toArray
            refine Step.store st I ρ w _ ob sv c' _ _ L hc hL (Array.getElem?_eq_some_iff.1 hg).1 (fun b hne => setRow_other w L.b b _ hne) s1 s2 s3 s4 ?_
            have hkeep : ∀ b, I b → I b ∧ (w.setRow L.b (cs.toList.take (L.base + n * T.size + sub) ++ v.cells.toList ++ cs.toList.drop (L.base + n * T.size + sub + v.cells.toList.length)).toArray).heap[b]? = w.heap[b]? :=
              fun b hb => ⟨hb, setRow_other w L.b b _ (fun e => hout c' _ L hc hL (e ▸ hb))⟩
            rw [hL]
            refine ⟨hzs, by simpa using hlen, by simpa using hcap, by simpa using hbig, _, el, setRow_heap w L.b cs _ el _ hg, .inr (by rw [splice_size hfit3]; exact hfit), ?_, ?_⟩
            · intro j e hj
              by_cases hjn : j = n
              · subst hjn
                have he : e = z := by
                  rw [List.getElem?_set_self hn'] at hj; simpa using hj.symm
                subst he
                rw [seg_splice_in hfit2 (by omega)]
                refine Ty.rep_mono hkeep T (Ty.toDen_rep (ρ := ρ) hz ?_)
                unfold Sx.splice
                exact All2.splice sub (Ty.leafs_rep T (hall j _ hxn)) (hcells.mono fun _ _ k => k.2)
              · rw [List.getElem?_set_ne (by omega)] at hj
                have hjl : j < l.length := (List.getElem?_eq_some_iff.1 hj).1
                rw [seg_splice_apart hfit3]
                · exact Ty.rep_mono hkeep T (hall j e hj)
                · rcases Nat.lt_or_gt_of_ne hjn with h | h
                  · left
                    have : (j + 1) * T.size ≤ n * T.size := Nat.mul_le_mul_right _ (by omega)
                    rw [Nat.add_mul] at this; omega
                  · right
                    have : (n + 1) * T.size ≤ j * T.size := Nat.mul_le_mul_right _ (by omega)
                    rw [Nat.add_mul] at this; omega
            · intro z hz
              simp only [List.mem_append] at hz
              rcases hz with (hz | hz) | hz
              · exact hones z (List.mem_of_mem_take hz)
              · exact hone z hz
              · exact hones z (List.mem_of_mem_drop hz)
          · cases h
        · cases h
      · cases h
    · cases h
  · cases h

end
end Go.Sx
