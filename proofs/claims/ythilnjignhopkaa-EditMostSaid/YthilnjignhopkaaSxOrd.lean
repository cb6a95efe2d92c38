/- Regions that draw their order, second part: the orders, and the rule. Conditions: the table of types is true of the program; the program follows mixed orders. -/
import Derived.Test.YthilnjignhopkaaSxDraw
set_option linter.unusedSimpArgs false
set_option linter.unusedVariables false
namespace Go.Sx
open Go

/-! ### Which operation waits for which -/

def maskOf (md : Region.Mode) (acc : List Nat) : List Edge → Nat
  | [] => 0
  | e :: es =>
    match Region.binds md e with
    | true => Nat.lor (Nat.lor (Nat.shiftLeft 1 e.on) (acc.getD e.on 0)) (maskOf md acc es)
    | false => maskOf md acc es

def masks (md : Region.Mode) : List Oper → List Nat → List Nat
  | [], acc => acc
  | o :: r, acc => masks md r (acc ++ [maskOf md acc o.after.toList])

def bef (ms : List Nat) (i j : Nat) : Bool := Nat.testBit (ms.getD j 0) i

section
variable {P : Program} {Γ : Gam} {B0 I0 : Nat → Prop} {w0 : World} {ρ0 : Rho} {st : Sym} {w w' : World} {I I' : Nat → Prop} {ρ ρ' : Rho} {a : Act} {md : Region.Mode} {ops : Array Oper}

def Closed (md : Region.Mode) (ops : Array Oper) (listed : Array Bool) : Prop :=
  ∀ j o, ops[j]? = some o → listed.getD j false = true → ∀ e ∈ o.after, Region.binds md e = true → listed.getD e.on false = true

/-- All for which an operation waits is listed. -/
def Waited (md : Region.Mode) (ops : Array Oper) (listed : Array Bool) (j : Nat) : Prop :=
  ∀ o, ops[j]? = some o → ∀ e ∈ o.after, Region.binds md e = true → listed.getD e.on false = true

theorem maskOf_ok {acc : List Nat} {listed : Array Bool} (hcl : Closed md ops listed) (hacc : ∀ j m, acc[j]? = some m → Waited md ops listed j → ∀ i, m.testBit i = true → listed.getD i false = true)
    (hlt : ∀ j, j < acc.length → j < ops.size) :
    ∀ {es : List Edge}, (∀ e ∈ es, Region.binds md e = true → listed.getD e.on false = true) → ∀ i, (maskOf md acc es).testBit i = true → listed.getD i false = true
  | [], _, i, hi => by simp [maskOf] at hi
  | e :: es, h, i, hi => by
    unfold maskOf at hi
    split at hi
    · rename_i hb
      have he := h e (by simp) hb
      have hi' : ((1 <<< e.on ||| acc.getD e.on 0) ||| maskOf md acc es).testBit i = true := hi
      rw [Nat.testBit_or, Nat.testBit_or, Bool.or_eq_true, Bool.or_eq_true] at hi'
      rcases hi' with (h1 | h1) | h1
      · rw [Nat.testBit_shiftLeft] at h1
        simp only [Bool.and_eq_true, decide_eq_true_eq] at h1
        obtain ⟨h2, h3⟩ := h1
        have : i - e.on = 0 := by
          cases hq : i - e.on with
          | zero => rfl
          | succ n => rw [hq] at h3; simp [Nat.testBit_succ] at h3
        have : i = e.on := by omega
        rw [this]; exact he
      · cases hg : acc[e.on]? with
        | none => rw [List.getD_eq_getElem?_getD, hg] at h1; simp at h1
        | some m =>
          rw [List.getD_eq_getElem?_getD, hg] at h1
          refine hacc e.on m hg (fun o ho e' he' hb' => hcl e.on o ho he e' he' hb') i h1
      · exact maskOf_ok hcl hacc hlt (fun e' he' => h e' (by simp [he'])) i h1
    · exact maskOf_ok hcl hacc hlt (fun e' he' => h e' (by simp [he'])) i hi

theorem masks_ok {listed : Array Bool} (hcl : Closed md ops listed) : ∀ {l : List Oper} {acc : List Nat}, (∀ j, l[j]? = ops[acc.length + j]?) →
    (∀ j m, acc[j]? = some m → Waited md ops listed j → ∀ i, m.testBit i = true → listed.getD i false = true) →
    ∀ j m, (masks md l acc)[j]? = some m → Waited md ops listed j → ∀ i, m.testBit i = true → listed.getD i false = true
  | [], acc, _, h, j, m, hj => h j m hj
  | o :: l, acc, hl, h, j, m, hj => by
    unfold masks at hj
    refine masks_ok hcl (l := l) (acc := acc ++ [maskOf md acc o.after.toList]) ?_ ?_ j m hj
    · intro j
      have := hl (j + 1)
      simp only [List.getElem?_cons_succ] at this
      rw [this]
      congr 1
      simp
      omega
    · intro j m hj hw i hi
      by_cases hlt : j < acc.length
      · rw [List.getElem?_append_left hlt] at hj
        exact h j m hj hw i hi
      · rw [List.getElem?_append_right (by omega)] at hj
        have hj0 : j - acc.length = 0 := by
          cases hq : j - acc.length with
          | zero => rfl
          | succ n => rw [hq] at hj; simp at hj
        rw [hj0] at hj
        simp only [List.getElem?_cons_zero, Option.some.injEq] at hj
        subst hj
        have hje : j = acc.length := by omega
        have ho : ops[j]? = some o := by rw [hje]; simpa using (hl 0).symm
        have hsz : ∀ k, k < acc.length → k < ops.size := fun k hk => by
          have := (Array.getElem?_eq_some_iff.1 ho).1
          omega
        exact maskOf_ok hcl h hsz (fun e he hb => hw o ho e (by simpa using he) hb) i hi

/-- An operation that waits for another one comes up behind it. -/
theorem bef_listed {listed : Array Bool} (hcl : Closed md ops listed) {i j : Nat} (hb : bef (masks md ops.toList []) i j = true) (hw : Waited md ops listed j) : listed.getD i false = true := by
  unfold bef at hb
  cases hg : (masks md ops.toList [])[j]? with
  | none => rw [List.getD_eq_getElem?_getD, hg] at hb; simp at hb
  | some m =>
    rw [List.getD_eq_getElem?_getD, hg] at hb
    exact masks_ok hcl (l := ops.toList) (acc := []) (fun j => by simp) (fun j m h => by simp at h) j m hg hw i hb

theorem Closed.set {listed : Array Bool} (h : Closed md ops listed) {i : Nat} (hi : i ∈ Region.ready md ops listed) : Closed md ops (listed.setIfInBounds i true) := by
  intro j o ho hj e he hb
  obtain ⟨h0, oi, hoi, hall⟩ := mem_ready.1 hi
  by_cases hij : i = j
  · subst hij
    rw [hoi] at ho; cases ho
    exact getD_set_true (hall e he hb)
  · rw [getD_set_ne false hij] at hj
    exact getD_set_true (h j o ho hj e he hb)

theorem ready_waited {listed : Array Bool} {i : Nat} (hi : i ∈ Region.ready md ops listed) : Waited md ops listed i := by
  obtain ⟨_, oi, hoi, hall⟩ := mem_ready.1 hi
  intro o ho e he hb
  rw [hoi] at ho; cases ho
  exact hall e he hb

theorem ready_unlisted {listed : Array Bool} {i : Nat} (hi : i ∈ Region.ready md ops listed) : listed.getD i false ≠ true := by
  have h0 := (mem_ready.1 hi).1
  intro h1
  rcases Nat.lt_or_ge i listed.size with h' | h'
  · simp [h'] at h0 h1; rw [h0] at h1; cases h1
  · simp [Array.getElem?_eq_none h'] at h1

/-! ### Two operations that touch nothing of one another -/

/-- x touches nothing of y. -/
def indep (x y : Rec) : Bool :=
  (match x.o.dst with
    | none => true
    | some u => !(hasT y.ts u) && (match y.o.dst with | some v => !(Nat.beq u v) | none => true)) &&
  (match x.d.upd with
    | none => true
    | some (c, k) => !(hasKey y.cs c) && (match y.d.upd with | some (c', _) => !(Nat.beq c c') | none => true) && k.free y.d.kill) &&
  x.d.val.free y.d.kill

def Sym.put (st : Sym) (r : Rec) : Sym where
  n := st.n
  t := fun t => atDst r.o.dst t ⟨r.ls, r.d.val⟩ (st.t t)
  h := fun c =>
    match r.d.upd with
    | some (u, k) =>
      match Nat.beq u c with
      | true => some k
      | false => st.h c
    | none => st.h c
  gs := fun l => st.gs l || r.ls.any (fun p => Nat.beq p.1 l)
  mv := st.mv

/-- Small, and what it makes anew is not there yet. -/
structure Lone (P : Program) (Γ : Gam) (ops : Array Oper) (st : Sym) (r : Rec) : Prop where
  sm : Small P Γ ops st r
  ds : dstOk st r.o.dst r.ls = true
  nw : ∀ c k, r.d.upd = some (c, k) → st.h c = none

theorem below_hi : ∀ {k m : List Nat}, (∀ c ∈ k, 100 ≤ c) → below k m = m
  | [], m, _ => rfl
  | c :: k, m, h => by
    unfold below
    have : Nat.blt c 100 = false := by
      cases hb : Nat.blt c 100 with
      | false => rfl
      | true =>
        have h1 : c < 100 := Nat.le_of_ble_eq_true hb
        have := h c (by simp)
        omega
    rw [this]
    exact below_hi fun d hd => h d (by simp [hd])

theorem Small.next_eq {r : Rec} (h : Small P Γ ops st r) : r.next st = st.put r := by
  unfold Rec.next Sym.apply Sym.put
  congr 1
  · funext t
    rw [Entry.free_kill (h.fr.1 t)]
  · funext c
    have hm : (st.h c).map (Chunk.killed r.d.kill) = st.h c := by
      cases hc : st.h c with
      | none => rfl
      | some k => rw [Option.map_some, Chunk.free_killed (h.fr.2 c k hc)]
    rw [hm]
    rfl
  · exact below_hi h.hi

theorem ematch_put {r : Rec} : ∀ {ts : List (Nat × Entry)}, (∀ u, r.o.dst = some u → hasT ts u = false) → (ematch (st.put r) ts ↔ ematch st ts)
  | [], _ => Iff.rfl
  | (t, e) :: ts, h => by
    have h1 : ∀ u, r.o.dst = some u → u ≠ t := fun u hu e' => by
      have := h u hu
      rw [e'] at this
      simp [hasT] at this
    have h2 : ∀ u, r.o.dst = some u → hasT ts u = false := fun u hu => by
      have := h u hu
      unfold hasT at this
      split at this
      · cases this
      · exact this
    have : (st.put r).t t = st.t t := atDst_ne h1
    unfold ematch
    rw [this, ematch_put h2]

theorem hmatch_put {r : Rec} : ∀ {cs : List (Nat × Chunk)}, (∀ c k, r.d.upd = some (c, k) → hasKey cs c = false) → (hmatch (st.put r) cs ↔ hmatch st cs)
  | [], _ => Iff.rfl
  | (t, e) :: cs, h => by
    have h1 : ∀ c k, r.d.upd = some (c, k) → c ≠ t := fun c k hu e' => by
      have := h c k hu
      rw [e'] at this
      simp [hasKey, hp] at this
    have h2 : ∀ c k, r.d.upd = some (c, k) → hasKey cs c = false := fun c k hu => by
      have := h c k hu
      unfold hasKey hp at this
      rw [beq_ne (fun e => h1 c k hu e.symm)] at this
      exact this
    have : (st.put r).h t = st.h t := by
      simp only [Sym.put]
      split
      · rename_i u k hu
        rw [beq_ne (h1 u k hu)]
      · rfl
    unfold hmatch
    rw [this, hmatch_put h2]

theorem indep_dst {x y : Rec} (h : indep x y = true) {u : Nat} (hu : x.o.dst = some u) : hasT y.ts u = false ∧ ∀ v, y.o.dst = some v → u ≠ v := by
  unfold indep at h
  simp only [Bool.and_eq_true] at h
  have h1 := h.1.1
  rw [hu] at h1
  simp only [Bool.and_eq_true, Bool.not_eq_true'] at h1
  refine ⟨h1.1, fun v hv e => ?_⟩
  have h2 := h1.2
  rw [hv] at h2
  simp only [Bool.not_eq_true'] at h2
  rw [e, Nat.beq_refl] at h2; cases h2

theorem indep_upd {x y : Rec} (h : indep x y = true) {c : Nat} {k : Chunk} (hu : x.d.upd = some (c, k)) : hasKey y.cs c = false ∧ (∀ c' k', y.d.upd = some (c', k') → c ≠ c') ∧ k.free y.d.kill = true := by
  unfold indep at h
  simp only [Bool.and_eq_true] at h
  have h1 := h.1.2
  rw [hu] at h1
  simp only [Bool.and_eq_true, Bool.not_eq_true'] at h1
  refine ⟨h1.1.1, fun c' k' hv e => ?_, h1.2⟩
  have h2 := h1.1.2
  rw [hv] at h2
  simp only [Bool.not_eq_true'] at h2
  rw [e, Nat.beq_refl] at h2; cases h2

theorem indep_val {x y : Rec} (h : indep x y = true) : x.d.val.free y.d.kill = true := by
  unfold indep at h
  simp only [Bool.and_eq_true] at h
  exact h.2

theorem put_h {r : Rec} {c : Nat} (h : ∀ k, r.d.upd ≠ some (c, k)) : (st.put r).h c = st.h c := by
  simp only [Sym.put]
  split
  · rename_i u k hu
    rw [beq_ne (fun e => h k (by rw [hu, e]))]
  · rfl

theorem put_h_eq {r : Rec} {c : Nat} {k : Chunk} (h : r.d.upd = some (c, k)) : (st.put r).h c = some k := by
  simp only [Sym.put, h, Nat.beq_refl]

/-- Back over an operation that touches nothing of this one. -/
theorem Lone.back {x y : Rec} (hx : Lone P Γ ops st x) (hxy : indep x y = true) (h : Lone P Γ ops (st.put x) y) : Lone P Γ ops st y := by
  refine ⟨⟨h.sm.hn, h.sm.hmv, (ematch_put fun u hu => (indep_dst hxy hu).1).1 h.sm.et, (hmatch_put fun c k hu => (indep_upd hxy hu).1).1 h.sm.ec, h.sm.lab, h.sm.lin, h.sm.ev, ?_, ⟨?_, ?_⟩, h.sm.hi⟩, ?_, ?_⟩
  · intro v hv
    have := h.sm.jk v hv
    rw [show (st.put x).t v = st.t v from atDst_ne fun u hu => (indep_dst hxy hu).2 v hv] at this
    exact this
  · intro t
    by_cases ht : x.o.dst = some t
    · exact hx.sm.jk t ht _
    · have := h.sm.fr.1 t
      rw [show (st.put x).t t = st.t t from atDst_ne fun u hu e => ht (by rw [hu, e])] at this
      exact this
  · intro c k hc
    by_cases hu : ∃ k', x.d.upd = some (c, k')
    · obtain ⟨k', hu⟩ := hu
      rw [hx.nw c k' hu] at hc; cases hc
    · exact h.sm.fr.2 c k (by rw [put_h (fun k' e => hu ⟨k', e⟩)]; exact hc)
  · have := h.ds
    unfold dstOk at *
    split
    · rfl
    · rename_i d hd
      rw [hd] at this
      simp only at this
      split at this
      · rename_i h1 h2
        simp only [Sym.put, Bool.or_eq_false_iff] at h1 h2
        rw [h2.1]
        simp only [h1]
        exact this
      · cases this
  · intro c k hu
    have := h.nw c k hu
    rw [put_h (fun k' e => (indep_upd hxy e).2.1 c k hu rfl)] at this
    exact this

/-- Forth over an operation that touches nothing of this one. -/
theorem Lone.forth {x y : Rec} (hx : Lone P Γ ops st x) (hy : Lone P Γ ops st y) (hxy : indep x y = true) (hyx : indep y x = true) : Lone P Γ ops (st.put y) x := by
  refine ⟨⟨hx.sm.hn, hx.sm.hmv, (ematch_put fun u hu => (indep_dst hyx hu).1).2 hx.sm.et, (hmatch_put fun c k hu => (indep_upd hyx hu).1).2 hx.sm.ec, hx.sm.lab, hx.sm.lin, hx.sm.ev, ?_, ⟨?_, ?_⟩, hx.sm.hi⟩, ?_, ?_⟩
  · intro v hv
    rw [show (st.put y).t v = st.t v from atDst_ne fun u hu => (indep_dst hyx hu).2 v hv]
    exact hx.sm.jk v hv
  · intro t
    by_cases ht : y.o.dst = some t
    · simp only [Sym.put, ht, atDst_eq]
      exact indep_val hyx
    · rw [show (st.put y).t t = st.t t from atDst_ne fun u hu e => ht (by rw [hu, e])]
      exact hx.sm.fr.1 t
  · intro c k hc
    by_cases hu : ∃ k', y.d.upd = some (c, k')
    · obtain ⟨k', hu⟩ := hu
      rw [put_h_eq hu] at hc
      cases hc
      exact (indep_upd hyx hu).2.2
    · rw [put_h (fun k' e => hu ⟨k', e⟩)] at hc
      exact hx.sm.fr.2 c k hc
  · have hds := hx.ds
    unfold dstOk at *
    split
    · rfl
    · rename_i d hd
      rw [hd] at hds
      simp only at hds
      split at hds
      · rename_i h1 h2
        have hl : y.ls.any (fun p => Nat.beq p.1 d) = false := by
          simp only [List.any_eq_false]
          intro p hp hb
          have e := Nat.eq_of_beq_eq_true hb
          have := labsIn_mem hy.sm.lin p hp
          rw [e, (indep_dst hxy hd).1] at this
          cases this
        simp only [Sym.put, h1, h2, hl, Bool.or_false]
        exact hds
      · cases hds
  · intro c k hu
    rw [put_h (fun k' e => (indep_upd hxy hu).2.1 c k' e rfl)]
    exact hx.nw c k hu

theorem put_comm {x y : Rec} (hxy : indep x y = true) : (st.put x).put y = (st.put y).put x := by
  unfold Sym.put
  congr 1
  · funext t
    by_cases h1 : x.o.dst = some t
    · have h2 : ∀ u, y.o.dst = some u → u ≠ t := fun u hu e => (indep_dst hxy h1).2 u hu e.symm
      simp only [h1, atDst_eq, atDst_ne h2]
    · have h1' : ∀ u, x.o.dst = some u → u ≠ t := fun u hu e => h1 (by rw [hu, e])
      simp only [atDst_ne h1']
  · funext c
    cases hx : x.d.upd with
    | none => rfl
    | some p =>
      obtain ⟨cx, kx⟩ := p
      cases hy : y.d.upd with
      | none => rfl
      | some q =>
        obtain ⟨cy, ky⟩ := q
        have hne := (indep_upd hxy hx).2.1 cy ky hy
        simp only
        by_cases e : cx = c
        · subst e
          simp only [Nat.beq_refl, beq_ne (fun e => hne e.symm)]
        · simp only [beq_ne e]
  · funext l
    simp only [Bool.or_assoc]
    rw [Bool.or_comm (x.ls.any _)]

/-! ### One operation that changes what is there, and one that only reckons -/

theorem Leaf.free_kept {K : List Nat} (K' : List Nat) {x : Leaf} (h : x.free K = true) : (x.kill K').free K = true := by
  rcases Leaf.kill_junk K' x with e | e
  · rw [e]; exact h
  · rw [e]; simp [Leaf.free, Leaf.has]

theorem leafsFree_kept {K : List Nat} (K' : List Nat) : ∀ {xs : List Leaf}, leafsFree K xs = true → leafsFree K (xs.map (·.kill K')) = true
  | [], _ => rfl
  | x :: xs, h => by
    unfold leafsFree at h
    split at h
    · rename_i hx
      simp only [List.map_cons, leafsFree, Leaf.free_kept K' hx]
      exact leafsFree_kept K' h
    · cases h

theorem V0.free_kept {K : List Nat} (K' : List Nat) {x : V0} (h : x.free K = true) : (x.kill K').free K = true := by
  cases x with
  | cell x => exact Leaf.free_kept K' h
  | agg xs => exact leafsFree_kept K' h

theorem v0sFree_kept {K : List Nat} (K' : List Nat) : ∀ {xs : List V0}, v0sFree K xs = true → v0sFree K (xs.map (·.kill K')) = true
  | [], _ => rfl
  | x :: xs, h => by
    unfold v0sFree at h
    split at h
    · rename_i hx
      simp only [List.map_cons, v0sFree, V0.free_kept K' hx]
      exact v0sFree_kept K' h
    · cases h

theorem Entry.free_kept {K : List Nat} (K' : List Nat) {e : Entry} (h : e.v.free K = true) : (e.kill K').v.free K = true := by
  cases K' with
  | nil => exact h
  | cons c K' =>
    show (e.v.kill (c :: K')).free K = true
    cases hv : e.v with
    | one x => rw [hv] at h; exact V0.free_kept _ h
    | tup xs => rw [hv] at h; exact v0sFree_kept _ h

theorem Chunk.free_kept {K : List Nat} (K' : List Nat) {x : Chunk} (h : x.free K = true) : (x.killed K').free K = true := by
  cases K' with
  | nil => exact h
  | cons c K' =>
    cases x with
    | cells ls => exact leafsFree_kept _ h
    | arr => rfl
    | mp => rfl

theorem SV.free_nil' (x : SV) : x.free [] = true := by
  cases x with
  | one v =>
    cases v with
    | cell y => rfl
    | agg ys => exact leafsFree_nil ys
  | tup vs => exact v0sFree_nil vs

theorem Chunk.free_nil' (x : Chunk) : x.free [] = true := by
  cases x with
  | cells ls => exact leafsFree_nil ls
  | arr => rfl
  | mp => rfl

def Leaf.solid (K : List Nat) (x : Leaf) : Bool := !x.isJunk && x.free K

def leafsSolid (K : List Nat) : List Leaf → Bool
  | [] => true
  | x :: xs =>
    match x.solid K with
    | true => leafsSolid K xs
    | false => false

def V0.solid (K : List Nat) : V0 → Bool
  | .cell x => x.solid K
  | .agg xs => leafsSolid K xs

def v0sSolid (K : List Nat) : List V0 → Bool
  | [] => true
  | x :: xs =>
    match x.solid K with
    | true => v0sSolid K xs
    | false => false

def SV.solid (K : List Nat) : SV → Bool
  | .one x => x.solid K
  | .tup vs => v0sSolid K vs

def tsSolid (K : List Nat) : List (Nat × Entry) → Bool
  | [] => true
  | (_, e) :: r =>
    match e.v.solid K with
    | true => tsSolid K r
    | false => false

theorem Leaf.solid_of {K : List Nat} {x : Leaf} (h : (x.kill K).solid K = true) : x.kill K = x := by
  rcases Leaf.kill_junk K x with e | e
  · exact e
  · rw [e] at h; simp [Leaf.solid, Leaf.isJunk] at h

theorem Leaf.solid_kill {K : List Nat} {x : Leaf} (h : x.solid K = true) : x.kill K = x := by
  simp only [Leaf.solid, Bool.and_eq_true] at h
  exact Leaf.free_kill h.2

theorem leafsSolid_kill {K : List Nat} : ∀ {xs : List Leaf}, leafsSolid K xs = true → xs.map (·.kill K) = xs
  | [], _ => rfl
  | x :: xs, h => by
    unfold leafsSolid at h
    split at h
    · rename_i hx; rw [List.map_cons, Leaf.solid_kill hx, leafsSolid_kill h]
    · cases h

theorem leafsSolid_of {K : List Nat} : ∀ {xs : List Leaf}, leafsSolid K (xs.map (·.kill K)) = true → xs.map (·.kill K) = xs
  | [], _ => rfl
  | x :: xs, h => by
    simp only [List.map_cons, leafsSolid] at h
    split at h
    · rename_i hx; rw [List.map_cons, Leaf.solid_of hx, leafsSolid_of h]
    · cases h

theorem V0.solid_kill {K : List Nat} {v : V0} (h : v.solid K = true) : v.kill K = v := by
  cases v with
  | cell y => simp only [V0.kill]; rw [Leaf.solid_kill h]
  | agg ys => simp only [V0.kill]; rw [leafsSolid_kill h]

theorem V0.solid_of {K : List Nat} {v : V0} (h : (v.kill K).solid K = true) : v.kill K = v := by
  cases v with
  | cell y => simp only [V0.kill] at h ⊢; rw [Leaf.solid_of h]
  | agg ys => simp only [V0.kill] at h ⊢; rw [leafsSolid_of h]

theorem v0sSolid_kill {K : List Nat} : ∀ {xs : List V0}, v0sSolid K xs = true → xs.map (·.kill K) = xs
  | [], _ => rfl
  | x :: xs, h => by
    unfold v0sSolid at h
    split at h
    · rename_i hx; rw [List.map_cons, V0.solid_kill hx, v0sSolid_kill h]
    · cases h

theorem v0sSolid_of {K : List Nat} : ∀ {xs : List V0}, v0sSolid K (xs.map (·.kill K)) = true → xs.map (·.kill K) = xs
  | [], _ => rfl
  | x :: xs, h => by
    simp only [List.map_cons, v0sSolid] at h
    split at h
    · rename_i hx; rw [List.map_cons, V0.solid_of hx, v0sSolid_of h]
    · cases h

theorem SV.solid_kill {K : List Nat} {x : SV} (h : x.solid K = true) : x.kill K = x := by
  cases x with
  | tup vs => simp only [SV.kill]; exact congrArg _ (v0sSolid_kill h)
  | one v => simp only [SV.kill]; rw [V0.solid_kill h]

theorem SV.solid_of {K : List Nat} {x : SV} (h : (x.kill K).solid K = true) : x.kill K = x := by
  cases x with
  | tup vs => simp only [SV.kill] at h ⊢; exact congrArg _ (v0sSolid_of h)
  | one v => simp only [SV.kill] at h ⊢; rw [V0.solid_of h]

theorem Entry.solid_kill {K : List Nat} {e : Entry} (h : e.v.solid K = true) : e.kill K = e := by
  cases K with
  | nil => rfl
  | cons c K =>
    obtain ⟨g, v⟩ := e
    show (⟨g, v.kill (c :: K)⟩ : Entry) = _
    rw [SV.solid_kill h]

theorem Entry.solid_of {K : List Nat} {e : Entry} (h : (e.kill K).v.solid K = true) : e.kill K = e := by
  cases K with
  | nil => rfl
  | cons c K =>
    obtain ⟨g, v⟩ := e
    show (⟨g, v.kill (c :: K)⟩ : Entry) = _
    have h : (v.kill (c :: K)).solid (c :: K) = true := h
    rw [SV.solid_of h]

/-- m may change what is there; y only reckons, out of what m leaves alone. -/
def indepM (m y : Rec) : Bool :=
  (match y.d.upd, y.d.kill, y.cs with
    | none, [], [] => true
    | _, _, _ => false) &&
  tsSolid m.d.kill y.ts && y.d.val.free m.d.kill &&
  (match m.o.dst with
    | none => true
    | some u => !(hasT y.ts u) && (match y.o.dst with | some v => !(Nat.beq u v) | none => true)) &&
  (match y.o.dst with
    | none => true
    | some u => !(hasT m.ts u))

section
variable {m y : Rec} (h : indepM m y = true)
include h
theorem indepM_pure : y.d.upd = none ∧ y.d.kill = [] ∧ y.cs = [] := by
  unfold indepM at h
  simp only [Bool.and_eq_true] at h
  have h1 := h.1.1.1.1
  split at h1
  · rename_i a b c; exact ⟨a, b, c⟩
  · cases h1
theorem indepM_solid : tsSolid m.d.kill y.ts = true := by
  unfold indepM at h; simp only [Bool.and_eq_true] at h; exact h.1.1.1.2
theorem indepM_val : y.d.val.free m.d.kill = true := by
  unfold indepM at h; simp only [Bool.and_eq_true] at h; exact h.1.1.2
theorem indepM_dst {u : Nat} (hu : m.o.dst = some u) : hasT y.ts u = false ∧ ∀ v, y.o.dst = some v → u ≠ v := by
  unfold indepM at h
  simp only [Bool.and_eq_true] at h
  have h1 := h.1.2
  rw [hu] at h1
  simp only [Bool.and_eq_true, Bool.not_eq_true'] at h1
  refine ⟨h1.1, fun v hv e => ?_⟩
  have h2 := h1.2
  rw [hv] at h2
  simp only [Bool.not_eq_true'] at h2
  rw [e, Nat.beq_refl] at h2; cases h2
theorem indepM_dst' {u : Nat} (hu : y.o.dst = some u) : hasT m.ts u = false := by
  unfold indepM at h
  simp only [Bool.and_eq_true] at h
  have h1 := h.2
  rw [hu] at h1
  simpa using h1
end

theorem ematch_mid {m : Rec} : ∀ {ts : List (Nat × Entry)}, tsSolid m.d.kill ts = true → (∀ u, m.o.dst = some u → hasT ts u = false) → (ematch (m.next st) ts ↔ ematch st ts)
  | [], _, _ => Iff.rfl
  | (t, e) :: ts, hs, h => by
    have h1 : ∀ u, m.o.dst = some u → u ≠ t := fun u hu e' => by
      have := h u hu
      rw [e'] at this
      simp [hasT] at this
    have h2 : ∀ u, m.o.dst = some u → hasT ts u = false := fun u hu => by
      have := h u hu
      unfold hasT at this
      split at this
      · cases this
      · exact this
    unfold tsSolid at hs
    split at hs
    · rename_i he
      have e1 : (m.next st).t t = (st.t t).kill m.d.kill := atDst_ne h1
      unfold ematch
      rw [e1, ematch_mid hs h2]
      constructor
      · rintro ⟨p, q⟩
        refine ⟨?_, q⟩
        rw [← p] at he
        rw [← p, Entry.solid_of he]
      · rintro ⟨p, q⟩
        exact ⟨by rw [p, Entry.solid_kill he], q⟩
    · cases hs

/-- Only reckoning: what it leaves. -/
theorem pure_next {y : Rec} (h1 : y.d.upd = none) (h2 : y.d.kill = []) : y.next st = st.put y := by
  unfold Rec.next Sym.apply Sym.put
  rw [h1, h2]
  congr 1
  · funext c
    cases st.h c <;> rfl

theorem mid_comm {m y : Rec} (h : indepM m y = true) : (m.next st).put y = m.next (st.put y) := by
  obtain ⟨p1, p2, p3⟩ := indepM_pure h
  unfold Rec.next Sym.put Sym.apply
  rw [p1]
  congr 1
  · funext t
    by_cases hy : y.o.dst = some t
    · have hm : ∀ u, m.o.dst = some u → u ≠ t := fun u hu => (indepM_dst h hu).2 t hy
      simp only [hy, atDst_eq, atDst_ne hm]
      exact (Entry.free_kill (indepM_val h)).symm
    · have hy' : ∀ u, y.o.dst = some u → u ≠ t := fun u hu e => hy (by rw [hu, e])
      simp only [atDst_ne hy']
  · funext l
    simp only [Bool.or_assoc]
    rw [Bool.or_comm (m.ls.any _)]

theorem dstOk_put_back {x : Rec} {dst : Option Nat} {ls : List (Nat × Bool)} {st' : Sym} (hn : st'.n = st.n) (hg : ∀ l, st'.gs l = (st.gs l || x.ls.any (fun p => Nat.beq p.1 l))) (h : dstOk st' dst ls = true) : dstOk st dst ls = true := by
  unfold dstOk at *
  split
  · rfl
  · rename_i d
    simp only at h
    split at h
    · rename_i h1 h2
      rw [hn] at h1
      rw [hg] at h2
      simp only [Bool.or_eq_false_iff] at h2
      rw [h2.1, h1]
      exact h
    · cases h

theorem dstOk_put_forth {x : Rec} {dst : Option Nat} {ls : List (Nat × Bool)} {st' : Sym} (hn : st'.n = st.n) (hg : ∀ l, st'.gs l = (st.gs l || x.ls.any (fun p => Nat.beq p.1 l))) (hx : ∀ d, dst = some d → ∀ p ∈ x.ls, p.1 ≠ d) (h : dstOk st dst ls = true) : dstOk st' dst ls = true := by
  unfold dstOk at *
  split
  · rfl
  · rename_i d
    simp only at h
    split at h
    · rename_i h1 h2
      have hl : x.ls.any (fun p => Nat.beq p.1 d) = false := by
        simp only [List.any_eq_false]
        intro p hp hb
        exact hx d rfl p hp (Nat.eq_of_beq_eq_true hb)
      rw [hn, h1, hg, h2, hl]
      exact h
    · cases h

theorem mid_mv {m : Rec} (h : ∀ c ∈ m.d.kill, 100 ≤ c) : (m.next st).mv = st.mv := below_hi h

/-- y back over m. -/
theorem Lone.backM {m y : Rec} (hi : ∀ c ∈ m.d.kill, 100 ≤ c) (hm : indepM m y = true) (hjk : ∀ u, y.o.dst = some u → ∀ K, (st.t u).v.free K = true) (h : Lone P Γ ops (m.next st) y) : Lone P Γ ops st y := by
  obtain ⟨p1, p2, p3⟩ := indepM_pure hm
  refine ⟨⟨h.sm.hn, by rw [← h.sm.hmv, mid_mv hi], (ematch_mid (indepM_solid hm) fun u hu => (indepM_dst hm hu).1).1 h.sm.et, by rw [p3]; trivial, h.sm.lab, h.sm.lin, h.sm.ev, hjk, ?_, h.sm.hi⟩,
    dstOk_put_back (st := st) (st' := m.next st) (x := m) rfl (fun _ => rfl) h.ds, fun c k hu => by rw [p1] at hu; cases hu⟩
  rw [p2]
  exact ⟨fun t => SV.free_nil' _, fun c k _ => Chunk.free_nil' k⟩

/-- y forth over m. -/
theorem Lone.forthM {m y : Rec} (hlin : labsIn m.ts m.ls = true) (hi : ∀ c ∈ m.d.kill, 100 ≤ c) (hm : indepM m y = true) (h : Lone P Γ ops st y) : Lone P Γ ops (m.next st) y := by
  obtain ⟨p1, p2, p3⟩ := indepM_pure hm
  refine ⟨⟨h.sm.hn, by rw [mid_mv hi]; exact h.sm.hmv, (ematch_mid (indepM_solid hm) fun u hu => (indepM_dst hm hu).1).2 h.sm.et, by rw [p3]; trivial, h.sm.lab, h.sm.lin, h.sm.ev, ?_, ?_, h.sm.hi⟩,
    dstOk_put_forth (st := st) (st' := m.next st) (x := m) rfl (fun _ => rfl) (fun d hd p hp e => ?_) h.ds, fun c k hu => by rw [p1] at hu; cases hu⟩
  · intro u hu K
    have e1 : (m.next st).t u = (st.t u).kill m.d.kill := atDst_ne fun v hv => (indepM_dst hm hv).2 u hu
    rw [e1]
    exact Entry.free_kept _ (h.sm.jk u hu K)
  · rw [p2]
    exact ⟨fun t => SV.free_nil' _, fun c k _ => Chunk.free_nil' k⟩
  · have := labsIn_mem hlin p hp
    rw [e, indepM_dst' hm hd] at this
    cases this

theorem Mid.backP {m y : Rec} (hm : indepM m y = true) (h : Mid P Γ ops (st.put y) m) : Mid P Γ ops st m := by
  obtain ⟨p1, p2, p3⟩ := indepM_pure hm
  exact ⟨h.hn, h.hmv, (ematch_put fun u hu => indepM_dst' hm hu).1 h.et, (hmatch_put fun c k hu => by rw [p1] at hu; cases hu).1 h.ec, h.lab, h.lin, h.ev, h.hi⟩

theorem Mid.forthP {m y : Rec} (hm : indepM m y = true) (h : Mid P Γ ops st m) : Mid P Γ ops (st.put y) m := by
  obtain ⟨p1, p2, p3⟩ := indepM_pure hm
  exact ⟨h.hn, h.hmv, (ematch_put fun u hu => indepM_dst' hm hu).2 h.et, (hmatch_put fun c k hu => by rw [p1] at hu; cases hu).2 h.ec, h.lab, h.lin, h.ev, h.hi⟩

/-! ### Whatever order is drawn -/

def Rec.okay (P : Program) (Γ : Gam) (ops : Array Oper) (st : Sym) (r : Rec) : Prop :=
  match r.big, r.mid with
  | true, _ => dstOk st r.o.dst r.ls = true ∧ evOK P Γ ops st r.o r.ls r.d
  | false, true => dstOk st r.o.dst r.ls = true ∧ Mid P Γ ops st r
  | false, false => Lone P Γ ops st r

theorem Rec.okay_ok {r : Rec} (h : r.okay P Γ ops st) : r.ok P Γ ops st := by
  unfold Rec.okay at h
  unfold Rec.ok
  cases hb : r.big <;> cases hm : r.mid <;> rw [hb, hm] at h
  · exact ⟨h.ds, h.sm.toMid⟩
  · exact ⟨h.1, h.2⟩
  · exact ⟨h.1, h.2⟩
  · exact ⟨h.1, h.2⟩

def AnyS (P : Program) (Γ : Gam) (md : Region.Mode) (ops : Array Oper) (rs : List Rec) (K : Sym → Prop) : Nat → Array Bool → Sym → Prop
  | 0, listed, st => Region.ready md ops listed = [] ∧ K st
  | fuel + 1, listed, st => (Region.ready md ops listed = [] → K st) ∧
    ∀ i ∈ Region.ready md ops listed, ∃ r, rs[i]? = some r ∧ r.okay P Γ ops st ∧ AnyS P Γ md ops rs K fuel (listed.setIfInBounds i true) (r.next st)

theorem any_run (hΓ : Γ.ok P) {rs : List Rec} {K : Sym → Prop} {Q : Exit → Act → World → Prop} (hro : ∀ (i : Nat) (r : Rec), rs[i]? = some r → ops[i]? = some r.o)
    (hQ : ∀ st' I' ρ' a' w', K st' → Rel B0 I0 w0 ρ0 st' I' ρ' a' w' → Q .normal a' w') :
    ∀ (fuel : Nat) (listed : Array Bool) (st : Sym) (I : Nat → Prop) (ρ : Rho) (a : Act) (w : World), AnyS P Γ md ops rs K fuel listed st → Rel B0 I0 w0 ρ0 st I ρ a w → wpAny P md ops Q fuel listed a w
  | 0, listed, st, I, ρ, a, w, h, R => ⟨h.1, hQ _ _ _ _ _ h.2 R⟩
  | fuel + 1, listed, st, I, ρ, a, w, h, R => by
    refine ⟨fun h0 => hQ _ _ _ _ _ (h.1 h0) R, fun i hi => ?_⟩
    obtain ⟨r, hr, hok, hrest⟩ := h.2 i hi
    unfold wpOp
    rw [hro i r hr]
    exact Rec.ok_run hΓ (Rec.okay_ok hok) R fun I' ρ' a' w' R' => any_run hΓ hro hQ fuel _ _ I' ρ' a' w' hrest R'

def pairOK (ms : List Nat) (i j : Nat) (x y : Rec) : Bool :=
  bef ms i j || bef ms j i || (!x.big && !y.big && (match x.mid, y.mid with
    | false, false => indep x y && indep y x
    | true, false => indepM x y
    | false, true => indepM y x
    | true, true => false))

theorem any_first {rs : List Rec} {K : Sym → Prop} {i : Nat} {ri : Rec} (hri : rs[i]? = some ri) :
    ∀ (fuel : Nat) (listed : Array Bool) (st : Sym), Closed md ops listed → (∀ j rj, rs[j]? = some rj → j ≠ i → listed.getD j true = false → pairOK (masks md ops.toList []) i j ri rj = true) →
      (∀ j k rj rk, rs[j]? = some rj → rs[k]? = some rk → j ≠ k → j ≠ i → k ≠ i → listed.getD j true = false → listed.getD k true = false → rk.big = false → rk.mid = false → ∀ u, rk.o.dst = some u → ∀ v, rj.o.dst = some v → v ≠ u) →
      (∀ j rj, rs[j]? = some rj → j ≠ i → listed.getD j true = false → rj.big = false → rj.mid = false → ∀ u, rj.o.dst = some u → ∀ K, (st.t u).v.free K = true) →
      i ∈ Region.ready md ops listed → ri.okay P Γ ops st → AnyS P Γ md ops rs K fuel (listed.setIfInBounds i true) (ri.next st) → AnyS P Γ md ops rs K (fuel + 1) listed st := by
  intro fuel
  induction fuel with
  | zero =>
    intro listed st _ _ _ _ hr hok H
    refine ⟨fun h => (by rw [h] at hr; cases hr), fun j hj => ?_⟩
    by_cases hji : j = i
    · subst hji; exact ⟨ri, hri, hok, H⟩
    · have := ready_mono hj hji
      rw [H.1] at this
      cases this
  | succ fuel ih =>
    intro listed st hcl hfree hdd hjunk hr hok H
    refine ⟨fun h => (by rw [h] at hr; cases hr), fun j hj => ?_⟩
    by_cases hji : j = i
    · subst hji; exact ⟨ri, hri, hok, H⟩
    · obtain ⟨rj, hrj, hokj, hrest⟩ := H.2 j (ready_mono hj hji)
      have hjun := (mem_ready.1 hj).1
      have hp := hfree j rj hrj hji hjun
      unfold pairOK at hp
      simp only [Bool.or_eq_true, Bool.and_eq_true, Bool.not_eq_true'] at hp
      have hback : ∀ k, (listed.setIfInBounds j true).getD k true = false → listed.getD k true = false ∧ j ≠ k := fun k hun => by
        by_cases hjk : j = k
        · subst hjk
          exfalso
          rw [Array.getD_eq_getD_getElem?, Array.getElem?_setIfInBounds_self] at hun
          split at hun <;> simp at hun
        · rw [getD_set_ne true hjk] at hun
          exact ⟨hun, hjk⟩
      have hfin : ∀ (st' : Sym), rj.okay P Γ ops st → ri.okay P Γ ops (rj.next st) → rj.next (ri.next st) = ri.next (rj.next st) →
          ∃ r, rs[j]? = some r ∧ r.okay P Γ ops st ∧ AnyS P Γ md ops rs K (fuel + 1) (listed.setIfInBounds j true) (r.next st) := fun _ q1 q2 q3 => by
        refine ⟨rj, hrj, q1, ?_⟩
        refine ih (listed.setIfInBounds j true) (rj.next st) (hcl.set hj) ?_ ?_ ?_ (ready_mono hr (Ne.symm hji)) q2 ?_
        · intro k rk hrk hki hun
          exact hfree k rk hrk hki (hback k hun).1
        · intro k k' rk rk' h1 h2 h3 h4 h5 h6 h7
          exact hdd k k' rk rk' h1 h2 h3 h4 h5 (hback k h6).1 (hback k' h7).1
        · intro k rk hrk hki hun hb hm u hu K
          obtain ⟨hun', hjk⟩ := hback k hun
          have := hjunk k rk hrk hki hun' hb hm u hu
          have hne := hdd j k rj rk hrj hrk hjk hji hki hjun hun' hb hm u hu
          rw [show (rj.next st).t u = (st.t u).kill rj.d.kill from atDst_ne hne]
          exact Entry.free_kept _ (this K)
        · rw [Array.setIfInBounds_comm _ _ hji, ← q3]
          exact hrest
      rcases hp with (hp | hp) | ⟨⟨hbi, hbj⟩, hm⟩
      · exact absurd (bef_listed hcl hp (ready_waited hj)) (ready_unlisted hr)
      · exact absurd (bef_listed hcl hp (ready_waited hr)) (ready_unlisted hj)
      · cases hmi : ri.mid <;> cases hmj : rj.mid <;> rw [hmi, hmj] at hm
        · -- both small
          simp only [Bool.and_eq_true] at hm
          obtain ⟨hij, hji'⟩ := hm
          unfold Rec.okay at hok hokj
          rw [hbi, hmi] at hok
          rw [hbj, hmj] at hokj
          simp only at hok hokj
          have hokj' := hokj
          rw [hok.sm.next_eq] at hokj'
          have hj0 := hok.back hij hokj'
          have hi1 := hok.forth hj0 hij hji'
          refine hfin st (by unfold Rec.okay; rw [hbj, hmj]; exact hj0) (by unfold Rec.okay; rw [hbi, hmi]; simp only; rw [hj0.sm.next_eq]; exact hi1) ?_
          rw [hokj.sm.next_eq, hok.sm.next_eq, put_comm hij, hj0.sm.next_eq, hi1.sm.next_eq]
        · -- i only reckons, j changes
          have hm : indepM rj ri = true := hm
          obtain ⟨p1, p2, p3⟩ := indepM_pure hm
          unfold Rec.okay at hok hokj
          rw [hbi, hmi] at hok
          rw [hbj, hmj] at hokj
          simp only at hok hokj
          have hokj' := hokj
          rw [pure_next p1 p2] at hokj'
          have hj0 := hokj'.2.backP hm
          have hds : dstOk st rj.o.dst rj.ls = true := dstOk_put_back (st := st) (st' := st.put ri) (x := ri) rfl (fun _ => rfl) hokj'.1
          have hi1 := hok.forthM hj0.lin hj0.hi hm
          refine hfin st (by unfold Rec.okay; rw [hbj, hmj]; exact ⟨hds, hj0⟩) (by unfold Rec.okay; rw [hbi, hmi]; exact hi1) ?_
          rw [pure_next p1 p2, pure_next p1 p2, mid_comm hm]
        · -- i changes, j only reckons
          have hm : indepM ri rj = true := hm
          obtain ⟨p1, p2, p3⟩ := indepM_pure hm
          unfold Rec.okay at hok hokj
          rw [hbi, hmi] at hok
          rw [hbj, hmj] at hokj
          simp only at hok hokj
          have hjk := hjunk j rj hrj hji hjun hbj hmj
          have hj0 := hokj.backM hok.2.hi hm hjk
          have hi1 := hok.2.forthP hm
          have hds : dstOk (st.put rj) ri.o.dst ri.ls = true := by
            refine dstOk_put_forth (st := st) (st' := st.put rj) (x := rj) rfl (fun _ => rfl) (fun d hd p hp e => ?_) hok.1
            have := labsIn_mem hj0.sm.lin p hp
            rw [e, (indepM_dst hm hd).1] at this
            cases this
          refine hfin st (by unfold Rec.okay; rw [hbj, hmj]; exact hj0) (by unfold Rec.okay; rw [hbi, hmi]; simp only; rw [pure_next p1 p2]; exact ⟨hds, hi1⟩) ?_
          rw [pure_next p1 p2, pure_next p1 p2, mid_comm hm]
        · cases hm

end
end Go.Sx
