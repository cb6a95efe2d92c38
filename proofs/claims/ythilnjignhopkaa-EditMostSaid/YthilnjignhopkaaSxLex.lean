/- Regions that draw their order, third part: the walk in the text's order (drawL), what is checked behind it (chkD), and the rule (Tri.draw). Conditions: the table of types is true of the program; the program follows mixed orders. -/
import Derived.Test.YthilnjignhopkaaSxOrd
set_option linter.unusedSimpArgs false
set_option linter.unusedVariables false
namespace Go.Sx
open Go

def tmpsOf : List Operand → List Nat
  | [] => []
  | .tmp t :: r => t :: tmpsOf r
  | _ :: r => tmpsOf r

def guardT (ops : Array Oper) (o : Oper) : List Nat :=
  match o.guard with
  | some (g, _) =>
    match ops[g]? with
    | some og =>
      match og.dst with
      | some d => [d]
      | none => []
    | none => []
  | none => []

def labT (st : Sym) : List Nat → List Nat
  | [] => []
  | t :: r => (st.t t).g.map (·.1) ++ labT st r

def entries (st : Sym) : List Nat → List (Nat × Entry)
  | [] => []
  | t :: r => (t, st.t t) :: entries st r

def tsOf (st : Sym) (ops : Array Oper) (o : Oper) : List (Nat × Entry) :=
  entries st (labT st (guardT ops o ++ tmpsOf o.op.operands.toList) ++ (guardT ops o ++ tmpsOf o.op.operands.toList))

def Leaf.names : Leaf → List Nat
  | .ref c _ => [c]
  | .eref c _ _ => [c]
  | .vec c => [c]
  | .slc c _ _ => [c]
  | .mapr c => [c]
  | .clo _ caps => caps
  | _ => []

def leafsNames : List Leaf → List Nat
  | [] => []
  | x :: xs => x.names ++ leafsNames xs

def V0.names : V0 → List Nat
  | .cell x => x.names
  | .agg xs => leafsNames xs

def v0sNames : List V0 → List Nat
  | [] => []
  | x :: xs => x.names ++ v0sNames xs

def SV.names : SV → List Nat
  | .one x => x.names
  | .tup xs => v0sNames xs

def Chunk.names : Chunk → List Nat
  | .cells ls => leafsNames ls
  | _ => []

def tsNames : List (Nat × Entry) → List Nat
  | [] => []
  | (_, e) :: r => e.v.names ++ tsNames r

def csOf (st : Sym) : Nat → List Nat → List (Nat × Chunk)
  | 0, _ => []
  | _ + 1, [] => []
  | f + 1, c :: r =>
    match st.h c with
    | some k => (c, k) :: csOf st f (k.names ++ r)
    | none => csOf st f r

theorem ematch_entries {st : Sym} : ∀ l : List Nat, ematch st (entries st l)
  | [] => trivial
  | _ :: r => ⟨rfl, ematch_entries r⟩

theorem hmatch_csOf {st : Sym} : ∀ (f : Nat) (l : List Nat), hmatch st (csOf st f l)
  | 0, _ => trivial
  | _ + 1, [] => trivial
  | f + 1, c :: r => by
    unfold csOf
    split
    · rename_i k hk; exact ⟨hk, hmatch_csOf f _⟩
    · exact hmatch_csOf f _

def entsFrc : List (Nat × Entry) → (List (Nat × Entry) → Prop) → Prop
  | [], K => K []
  | (t, e) :: r, K => e.v.frc fun v => lsFrc e.g fun g => entsFrc r fun r' => K ((t, ⟨g, v⟩) :: r')

def chsFrc : List (Nat × Chunk) → (List (Nat × Chunk) → Prop) → Prop
  | [], K => K []
  | (c, k) :: r, K => k.frc fun k' => chsFrc r fun r' => K ((c, k') :: r')

theorem entsFrc_eq : ∀ (l : List (Nat × Entry)) (K : List (Nat × Entry) → Prop), entsFrc l K = K l
  | [], _ => rfl
  | (t, e) :: r, K => by
    simp only [entsFrc, SV.frc_eq, lsFrc_eq]
    exact entsFrc_eq r _
theorem chsFrc_eq : ∀ (l : List (Nat × Chunk)) (K : List (Nat × Chunk) → Prop), chsFrc l K = K l
  | [], _ => rfl
  | (c, k) :: r, K => by
    simp only [chsFrc, Chunk.frc_eq]
    exact chsFrc_eq r _

/-- One operation, reckoned in s, done in st. -/
def stepL (P : Program) (Γ : Gam) (ops : Array Oper) (s st : Sym) (o : Oper) (K : List (Nat × Bool) → Delta → Prop) : Prop :=
  match sxLs s ops o with
  | none => False
  | some ls =>
    match dstOk st o.dst ls with
    | false => False
    | true =>
      match goCall s ls o.op with
      | some (f, vs) => IsFn P f ∧ ∃ hs r, gImp s ls (Quiet P f vs hs r) ∧ hmatch s hs ∧ K ls ⟨[], r, none, []⟩
      | none =>
        match dl Γ s ls (noGuard ls) (idOf o.dst) o.op with
        | none => False
        | some d =>
          match okGuard ls d with
          | false => False
          | true => thenK d.ob (gImp s ls) (d.frc fun d => lsFrc ls fun ls => K ls d)

/-- An operation that does not look at memory. -/
def heapless : Op → Bool
  | .move _ => true
  | .assign _ => true
  | .pick _ _ _ => true
  | .binOp _ _ _ _ _ => true
  | .unOp _ _ _ => true
  | .convert _ _ _ => true
  | .nilCheck _ => true
  | .fieldAddr _ _ _ => true
  | .field _ _ _ => true
  | .extract _ _ => true
  | .build _ _ => true
  | _ => false

def csFor (st : Sym) (o : Oper) (ts : List (Nat × Entry)) : List (Nat × Chunk) :=
  match heapless o.op with
  | true => []
  | false => csOf st 12 (tsNames ts)

theorem hmatch_csFor {st : Sym} (o : Oper) (ts : List (Nat × Entry)) : hmatch st (csFor st o ts) := by
  unfold csFor
  split
  · trivial
  · exact hmatch_csOf _ _

def drawL (P : Program) (Γ : Gam) (ops : Array Oper) (bigs mids : Nat) : List Oper → Nat → Sym → (List Rec → Sym → Prop) → Prop
  | [], _, st, K => K [] st
  | o :: l, k, st, K =>
    match Nat.testBit bigs k with
    | true => stepL P Γ ops st st o (fun ls d => drawL P Γ ops bigs mids l (k + 1) (st.apply o.dst ls d) (fun rs st' => K (⟨o, true, 0, [], [], [], ls, d, false⟩ :: rs) st'))
    | false => entsFrc (tsOf st ops o) fun ts => chsFrc (csFor st o ts) fun cs => stepL P Γ ops (partE st.n st.mv ts cs) st o (fun ls d => drawL P Γ ops bigs mids l (k + 1) (st.apply o.dst ls d)
        (fun rs st' => K (⟨o, false, st.n, st.mv, ts, cs, ls, d, Nat.testBit mids k⟩ :: rs) st'))

/-- What the walk has recorded. -/
def Chain (P : Program) (Γ : Gam) (ops : Array Oper) : List Oper → Sym → List Rec → Sym → Prop
  | [], st, [], st' => st' = st
  | o :: l, st, r :: rs, st' => r.o = o ∧ dstOk st o.dst r.ls = true ∧
    (match r.big with
      | true => evOK P Γ ops st o r.ls r.d
      | false => st.n = r.n ∧ st.mv = r.mv ∧ ematch st r.ts ∧ hmatch st r.cs ∧ evOK P Γ ops (partE r.n r.mv r.ts r.cs) o r.ls r.d) ∧ Chain P Γ ops l (r.next st) rs st'
  | _, _, _, _ => False

theorem stepL_ok {P : Program} {Γ : Gam} {ops : Array Oper} {s st : Sym} {o : Oper} {K : List (Nat × Bool) → Delta → Prop} (h : stepL P Γ ops s st o K) :
    ∃ ls d, dstOk st o.dst ls = true ∧ evOK P Γ ops s o ls d ∧ K ls d := by
  unfold stepL at h
  simp only [Delta.frc_eq, lsFrc_eq] at h
  split at h
  · exact h.elim
  · rename_i ls hls
    split at h
    · exact h.elim
    · rename_i hd
      split at h
      · rename_i f vs hgc
        obtain ⟨hfn, hs, r, hq, hm, hK⟩ := h
        exact ⟨ls, _, hd, ⟨hls, .inl ⟨f, vs, hs, hgc, hfn, hq, hm, rfl⟩⟩, hK⟩
      · rename_i hgc
        split at h
        · exact h.elim
        · rename_i d hdl
          split at h
          · exact h.elim
          · rename_i hok
            unfold thenK at h
            split at h
            · rename_i hob
              exact ⟨ls, d, hd, ⟨hls, .inr ⟨hgc, hdl, hok, gImp_of fun _ => by rw [hob]; trivial⟩⟩, h⟩
            · exact ⟨ls, d, hd, ⟨hls, .inr ⟨hgc, hdl, hok, h.ob⟩⟩, h.go⟩

theorem drawL_ok {P : Program} {Γ : Gam} {ops : Array Oper} {bigs mids : Nat} : ∀ {l : List Oper} {k : Nat} {st : Sym} {K : List Rec → Sym → Prop}, drawL P Γ ops bigs mids l k st K →
    ∃ rs st', Chain P Γ ops l st rs st' ∧ K rs st'
  | [], _, st, K, h => ⟨[], st, rfl, h⟩
  | o :: l, k, st, K, h => by
    unfold drawL at h
    simp only [entsFrc_eq, chsFrc_eq] at h
    split at h
    · obtain ⟨ls, d, hd, hev, h⟩ := stepL_ok h
      obtain ⟨rs, st', hc, hK⟩ := drawL_ok h
      exact ⟨⟨o, true, 0, [], [], [], ls, d, false⟩ :: rs, st', ⟨rfl, hd, hev, hc⟩, hK⟩
    · obtain ⟨ls, d, hd, hev, h⟩ := stepL_ok h
      obtain ⟨rs, st', hc, hK⟩ := drawL_ok h
      exact ⟨⟨o, false, st.n, st.mv, tsOf st ops o, csFor st o (tsOf st ops o), ls, d, Nat.testBit mids k⟩ :: rs, st', ⟨rfl, hd, ⟨rfl, rfl, ematch_entries _, hmatch_csFor _ _, hev⟩, hc⟩, hK⟩

/-! ### The checks -/

def Leaf.plain : Leaf → Bool
  | .ref _ _ => false
  | .eref _ _ _ => false
  | .vec _ => false
  | .slc _ _ _ => false
  | .mapr _ => false
  | .clo _ _ => false
  | _ => true

/-- One cell that speaks of no chunk. -/
def SV.plain : SV → Bool
  | .one (.cell x) => x.plain
  | _ => false

theorem SV.plain_free {v : SV} (h : v.plain = true) (K : List Nat) : v.free K = true := by
  unfold SV.plain at h
  split at h
  · rename_i x
    cases x <;> simp only [Leaf.plain] at h <;> (try (cases h; done)) <;> simp [SV.free, V0.free, Leaf.free, Leaf.has]
  · cases h

def plains (st : Sym) : List Nat → Bool
  | [] => true
  | u :: r =>
    match (st.t u).v.plain with
    | true => plains st r
    | false => false

theorem plains_mem {st : Sym} : ∀ {l : List Nat}, plains st l = true → ∀ u ∈ l, (st.t u).v.plain = true
  | [], _, u, h => by simp at h
  | v :: r, h, u, hu => by
    unfold plains at h
    split at h
    · rename_i hv
      rcases List.mem_cons.1 hu with e | e
      · rw [e]; exact hv
      · exact plains_mem h u e
    · cases h


def lexOK (md : Region.Mode) : List Oper → Nat → Bool
  | [], _ => true
  | o :: l, k =>
    match o.after.toList.all (fun e => !(Region.binds md e) || Nat.blt e.on k) with
    | true => lexOK md l (k + 1)
    | false => false

def smallOK (D : List Nat) (r : Rec) : Bool :=
  match r.big with
  | true => true
  | false => allLabs r.ts r.ts && labsIn r.ts r.ls && (match r.o.dst with | some u => D.any (Nat.beq u) | none => true) &&
      r.d.kill.all (fun c => (r.mid || Nat.beq c (idOf r.o.dst)) && Nat.blt 99 c) && (match r.mid, r.d.upd with | true, _ => true | false, none => true | false, some (c, _) => Nat.beq c (idOf r.o.dst) && Nat.blt 99 c)

def dsts (x y : Rec) : Bool :=
  match x.o.dst, y.o.dst with
  | some u, some v => !(Nat.beq u v)
  | _, _ => true

def later (x y : Rec) : Bool :=
  (match x.big, x.mid with | false, false => dsts x y | _, _ => true) &&
  match y.big, y.mid with
  | true, _ => true
  | false, true => true
  | false, false => (match x.o.dst, y.o.dst with | some u, some v => !(Nat.beq u v) | _, _ => true) && x.d.val.free y.d.kill &&
      (match x.d.upd with | none => true | some (c, k) => k.free y.d.kill && (match y.d.upd with | some (c', _) => !(Nat.beq c c') | none => true))

def chkWith (ms : List Nat) (i : Nat) (x : Rec) : Nat → List Rec → Bool
  | _, [] => true
  | j, y :: ys =>
    match pairOK ms i j x y, later x y with
    | true, true => chkWith ms i x (j + 1) ys
    | _, _ => false

def chkAll (ms : List Nat) (D : List Nat) : Nat → List Rec → Bool
  | _, [] => true
  | i, x :: xs =>
    match smallOK D x, chkWith ms i x (i + 1) xs with
    | true, true => chkAll ms D (i + 1) xs
    | _, _ => false

theorem chkWith_mem {ms : List Nat} {i : Nat} {x : Rec} : ∀ {j : Nat} {ys : List Rec}, chkWith ms i x j ys = true → ∀ m y, ys[m]? = some y → pairOK ms i (j + m) x y = true ∧ later x y = true
  | _, [], _, m, y, h => by simp at h
  | j, z :: ys, h, m, y, hm => by
    unfold chkWith at h
    split at h
    · rename_i h1 h2
      cases m with
      | zero => simp at hm; subst hm; exact ⟨h1, h2⟩
      | succ m =>
        have := chkWith_mem h m y (by simpa using hm)
        rw [show j + (m + 1) = j + 1 + m by omega]
        exact this
    · cases h

section
variable {P : Program} {Γ : Gam} {B0 I0 : Nat → Prop} {w0 : World} {ρ0 : Rho} {st : Sym} {w w' : World} {I I' : Nat → Prop} {ρ ρ' : Rho} {a : Act} {md : Region.Mode} {ops : Array Oper}

/-- What a small operation makes is not there yet. -/
structure Fresh (st : Sym) (r : Rec) : Prop where
  jk : ∀ u, r.o.dst = some u → ∀ K, (st.t u).v.free K = true
  fr : st.free r.d.kill
  nw : ∀ c k, r.d.upd = some (c, k) → st.h c = none

theorem junk_kill (K : List Nat) : (⟨[], oneS .junk⟩ : Entry).kill K = ⟨[], oneS .junk⟩ :=
  Entry.free_kill (by simp [oneS, SV.free, V0.free, Leaf.free, Leaf.has])

theorem later_dst {x y : Rec} (hl : later x y = true) (h : (x.big = false ∧ x.mid = false) ∨ (y.big = false ∧ y.mid = false)) {u v : Nat} (hu : x.o.dst = some u) (hv : y.o.dst = some v) : u ≠ v := by
  intro e
  subst e
  unfold later at hl
  rcases h with ⟨h1, h2⟩ | ⟨h1, h2⟩
  · rw [h1, h2] at hl
    simp only [Bool.and_eq_true, dsts, hu, hv, Nat.beq_refl, Bool.not_true] at hl
    exact absurd hl.1 (by decide)
  · rw [h1, h2] at hl
    simp only [Bool.and_eq_true, hu, hv, Nat.beq_refl, Bool.not_true] at hl
    exact absurd hl.2.1.1 (by decide)

theorem Fresh.next {x y : Rec} (h : Fresh st y) (hy : y.big = false) (hym : y.mid = false) (hl : later x y = true) : Fresh (x.next st) y := by
  unfold later at hl
  rw [hy, hym] at hl
  simp only [Bool.and_eq_true] at hl
  obtain ⟨_, ⟨h1, h2⟩, h3⟩ := hl
  refine ⟨?_, ⟨?_, ?_⟩, ?_⟩
  · intro v hv
    have hne : ∀ u, x.o.dst = some u → u ≠ v := fun u hu e => by
      rw [hu, hv] at h1
      simp only [Bool.not_eq_true'] at h1
      rw [e, Nat.beq_refl] at h1; cases h1
    rw [show (x.next st).t v = (st.t v).kill x.d.kill from apply_t_ne hne]
    exact fun K => Entry.free_kept _ (h.jk v hv K)
  · intro t
    by_cases ht : x.o.dst = some t
    · show (atDst x.o.dst t (⟨x.ls, x.d.val⟩ : Entry) _).v.free _ = true
      rw [ht, atDst_eq]
      exact h2
    · rw [show (x.next st).t t = (st.t t).kill x.d.kill from apply_t_ne fun u hu e => ht (by rw [hu, e])]
      exact Entry.free_kept _ (h.fr.1 t)
  · intro c k hc
    rcases apply_h hc with hu | ⟨hn, k0, hk0, rfl⟩
    · rw [hu] at h3
      simp only [Bool.and_eq_true] at h3
      exact h3.1
    · exact Chunk.free_kept _ (h.fr.2 c k0 hk0)
  · intro c k hu
    cases hx : (x.next st).h c with
    | none => rfl
    | some k' =>
      rcases apply_h hx with hu' | ⟨hn, k0, hk0, _⟩
      · rw [hu'] at h3
        simp only [Bool.and_eq_true] at h3
        have h4 := h3.2
        rw [hu] at h4
        simp at h4
      · rw [h.nw c k hu] at hk0; cases hk0

theorem chain_len : ∀ {l : List Oper} {st : Sym} {rs : List Rec} {st' : Sym}, Chain P Γ ops l st rs st' → ∀ (i : Nat) (r : Rec), rs[i]? = some r → l[i]? = some r.o
  | [], _, [], _, _, i, r, h => by simp at h
  | o :: l, _, r :: rs, _, hc, 0, r', h => by simp at h; subst h; simp [hc.1]
  | o :: l, _, r :: rs, _, hc, i + 1, r', h => by simpa using chain_len hc.2.2.2 i r' (by simpa using h)
  | [], _, _ :: _, _, hc, _, _, _ => hc.elim
  | _ :: _, _, [], _, hc, _, _, _ => hc.elim

theorem chkAll_later {ms D : List Nat} : ∀ {i : Nat} {rs : List Rec}, chkAll ms D i rs = true → ∀ (p q : Nat) (x y : Rec), p < q → rs[p]? = some x → rs[q]? = some y → later x y = true
  | _, [], _, p, _, x, _, _, h, _ => by simp at h
  | i, z :: zs, hk, p, q, x, y, hpq, hx, hy => by
    unfold chkAll at hk
    split at hk
    · rename_i hsm hw
      cases q with
      | zero => omega
      | succ q =>
        cases p with
        | zero =>
          simp at hx; subst hx
          exact (chkWith_mem hw q y (by simpa using hy)).2
        | succ p => exact chkAll_later hk p q x y (by omega) (by simpa using hx) (by simpa using hy)
    · cases hk

theorem any_lex {rs : List Rec} {D : List Nat} {K : Sym → Prop} : ∀ {l : List Oper} {k : Nat} {listed : Array Bool} {st : Sym} {rs' : List Rec} {st' : Sym}, Chain P Γ ops l st rs' st' → (∀ j, l[j]? = ops[k + j]?) → (∀ j, rs'[j]? = rs[k + j]?) →
    (∀ j, j < ops.size → listed[j]? = some (decide (j < k))) → lexOK md l k = true → chkAll (masks md ops.toList []) D k rs' = true → (∀ y ∈ rs', y.big = false → y.mid = false → Fresh st y) → Closed md ops listed → K st' → AnyS P Γ md ops rs K l.length listed st
  | [], k, listed, st, [], st', hc, hl, hr, hL, hx, hk, hf, hcl, hK => by
    refine ⟨?_, by rw [show st = st' from hc.symm]; exact hK⟩
    rw [List.eq_nil_iff_forall_not_mem]
    intro i hi
    obtain ⟨h0, o, ho, _⟩ := mem_ready.1 hi
    have hlt := (Array.getElem?_eq_some_iff.1 ho).1
    have h1 := hL i hlt
    rw [Array.getD_eq_getD_getElem?, h1] at h0
    simp only [Option.getD_some, decide_eq_false_iff_not] at h0
    have := hl (i - k)
    simp only [List.getElem?_nil] at this
    rw [show k + (i - k) = i by omega, ho] at this
    cases this
  | o :: l, k, listed, st, r :: rs', st', hc, hl, hr, hL, hx, hk, hf, hcl, hK => by
    obtain ⟨rfl, hd, hev, hc'⟩ := hc
    have ho : ops[k]? = some r.o := by simpa using (hl 0).symm
    have hlt := (Array.getElem?_eq_some_iff.1 ho).1
    have hrk : rs[k]? = some r := by simpa using (hr 0).symm
    unfold lexOK at hx
    split at hx
    · rename_i hedge
      have hlat := chkAll_later hk
      unfold chkAll at hk
      split at hk
      · rename_i hsm hw
        have hwm := chkWith_mem hw
        have hpos : ∀ j rj, rs[j]? = some rj → j ≠ k → listed.getD j true = false → ∃ m, j = k + 1 + m ∧ rs'[m]? = some rj := by
          intro j rj hrj hne hun
          have hjlt : j < ops.size := by
            rcases Nat.lt_or_ge j ops.size with h | h
            · exact h
            · exfalso
              by_cases hjs : j < listed.size
              · have hcell := hun
                by_cases hkj : k ≤ j
                · have h1 := hr (j - k)
                  rw [show k + (j - k) = j by omega, hrj] at h1
                  have h2 := chain_len (P := P) (Γ := Γ) (ops := ops) (l := r.o :: l) (st := st) (rs := r :: rs') (st' := st') ⟨rfl, hd, hev, hc'⟩ (j - k) rj h1
                  have h3 := hl (j - k)
                  rw [show k + (j - k) = j by omega, h2] at h3
                  have := (Array.getElem?_eq_some_iff.1 h3.symm).1
                  omega
                · omega
              · rw [Array.getD_eq_getD_getElem?, Array.getElem?_eq_none (by omega)] at hun
                simp at hun
          rw [Array.getD_eq_getD_getElem?, hL j hjlt] at hun
          simp only [Option.getD_some, decide_eq_false_iff_not] at hun
          have h1 := hr (j - k)
          rw [show k + (j - k) = j by omega, hrj] at h1
          cases hq : j - k with
          | zero => omega
          | succ m =>
            rw [hq] at h1
            exact ⟨m, by omega, by simpa using h1⟩
        have hready : k ∈ Region.ready md ops listed := by
          refine mem_ready.2 ⟨by rw [Array.getD_eq_getD_getElem?, hL k hlt]; simp, r.o, ho, fun e he hb => ?_⟩
          simp only [List.all_eq_true] at hedge
          have := hedge e (by simpa using he)
          rw [hb] at this
          simp only [Bool.not_true, Bool.false_or] at this
          have hek : e.on < k := Nat.le_of_ble_eq_true this
          rw [Array.getD_eq_getD_getElem?, hL e.on (by omega)]
          simp [hek]
        have hokay : r.okay P Γ ops st := by
          unfold Rec.okay
          split at hev
          · rename_i hb; rw [hb]; exact ⟨hd, hev⟩
          · rename_i hb
            obtain ⟨h1, h2, h3, h4, h5⟩ := hev
            unfold smallOK at hsm
            rw [hb] at hsm
            simp only [Bool.and_eq_true, List.all_eq_true] at hsm
            obtain ⟨⟨⟨⟨s1, s2⟩, s3⟩, s4⟩, s5⟩ := hsm
            have hhi : ∀ c ∈ r.d.kill, 100 ≤ c := fun c hc => Nat.le_of_ble_eq_true (s4 c hc).2
            cases hm : r.mid with
            | true => rw [hb]; exact ⟨hd, h1, h2, h3, h4, s1, s2, h5, hhi⟩
            | false =>
              have hfr := hf r (by simp) hb hm
              rw [hb]
              exact ⟨⟨h1, h2, h3, h4, s1, s2, h5, hfr.jk, hfr.fr, hhi⟩, hd, hfr.nw⟩
        refine any_first hrk l.length listed st hcl ?_ ?_ ?_ hready hokay (any_lex (rs' := rs') hc' ?_ ?_ ?_ hx hk ?_ (hcl.set hready) hK)
        · intro j rj hrj hne hun
          obtain ⟨m, hjm, hm⟩ := hpos j rj hrj hne hun
          rw [hjm]
          exact (hwm m rj hm).1
        · intro j j' rj rk hrj hrk' hne hjk hjk' hun hun' hb hmd u hu v hv e
          obtain ⟨m, hjm, hm⟩ := hpos j rj hrj hjk hun
          obtain ⟨m', hjm', hm'⟩ := hpos j' rk hrk' hjk' hun'
          rcases Nat.lt_or_gt_of_ne (show m ≠ m' by omega) with hlt' | hlt'
          · exact later_dst (hlat (m + 1) (m' + 1) rj rk (by omega) (by simpa using hm) (by simpa using hm')) (.inr ⟨hb, hmd⟩) hv hu e
          · exact later_dst (hlat (m' + 1) (m + 1) rk rj (by omega) (by simpa using hm') (by simpa using hm)) (.inl ⟨hb, hmd⟩) hu hv e.symm
        · intro j rj hrj hne hun hb hmd u hu K
          obtain ⟨m, hjm, hm⟩ := hpos j rj hrj hne hun
          exact (hf rj (List.mem_cons_of_mem _ (List.mem_iff_getElem?.2 ⟨m, hm⟩)) hb hmd).jk u hu K
        · intro j
          have := hl (j + 1)
          simp only [List.getElem?_cons_succ] at this
          rw [this]; congr 1; omega
        · intro j
          have := hr (j + 1)
          simp only [List.getElem?_cons_succ] at this
          rw [this]; congr 1; omega
        · intro j hj
          by_cases e : k = j
          · subst e
            have hsz : k < listed.size := (Array.getElem?_eq_some_iff.1 (hL k hj)).1
            rw [Array.getElem?_setIfInBounds_self, if_pos hsz]
            simp
          · rw [Array.getElem?_setIfInBounds_ne e, hL j hj]
            congr 1
            simp only [decide_eq_decide]
            omega
        · intro y hy hb hmd
          obtain ⟨m, hm⟩ := List.mem_iff_getElem?.1 hy
          exact (hf y (by simp [hy]) hb hmd).next hb hmd (hwm m y hm).2
      · cases hk
    · cases hx
  | [], _, _, _, _ :: _, _, hc, _, _, _, _, _, _, _, _ => hc.elim
  | _ :: _, _, _, _, [], _, hc, _, _, _, _, _, _, _, _ => hc.elim

theorem chkAll_small {ms D : List Nat} : ∀ {i : Nat} {rs : List Rec}, chkAll ms D i rs = true → ∀ r ∈ rs, smallOK D r = true
  | _, [], _, r, h => by simp at h
  | i, x :: xs, h, r, hr => by
    unfold chkAll at h
    split at h
    · rename_i h1 h2
      rcases List.mem_cons.1 hr with e | e
      · rw [e]; exact h1
      · exact chkAll_small h r e
    · cases h

/-- A region that draws its order: ms: who waits for whom; bigs: the operations with a fixed place; mids: those that change what is there beside ones that only reckon; D, E: what the others write (what lies in D is not read before). -/
theorem Tri.drawM (mids : Nat) (hΓ : Γ.ok P) (hm : P.follows .mixedOrders = true) {Q : Exit → Sym → Prop} {id : Nat} {l : List Oper} (ms : List Nat) (bigs : Nat) (D E : List Nat) (hms : masks .any l [] = ms) (hlex : lexOK .any l 0 = true) (hE : plains st E = true)
    (h : drawL P Γ l.toArray bigs mids l 0 (st.clean D ((D ++ E).map (· + 100))) (fun rs st' => chkAll ms (D ++ E) 0 rs = true ∧ Q .normal (endOps l st'))) : Tri P (.region id l.toArray true) st Q := by
  unfold Tri
  intro B0 I0 w0 ρ0 I ρ a w R
  obtain ⟨rs, st', hc, hchk, hQ⟩ := drawL_ok h
  subst hms
  refine wp_region_any hm (any_run (md := .any) (rs := rs) (K := fun st'' => st'' = st') hΓ ?_ ?_ l.toArray.size _ _ I ρ a _ ?_ (R.clean D ((D ++ E).map (· + 100))))
  · intro i r hr
    simpa using chain_len hc i r hr
  · intro st'' I' ρ' a' w' he R'
    subst he
    refine ⟨_, I', ρ', hQ, ?_⟩
    unfold endOps
    split
    · exact R'.clear
    · exact R'
  · have := any_lex (md := .any) (rs := rs) (D := D ++ E) (K := fun st'' => st'' = st') (k := 0) (listed := Array.replicate l.toArray.size false) hc (by simp) (by simp) (by intro j hj; simp at hj; simp [hj]) hlex (by simpa using hchk) ?_ ?_ rfl
    · simpa using this
    · intro y hy hb hmd
      have hs := chkAll_small hchk y hy
      unfold smallOK at hs
      rw [hb, hmd] at hs
      simp only [Bool.and_eq_true, List.all_eq_true, Bool.false_or] at hs
      obtain ⟨⟨⟨⟨_, _⟩, s3⟩, s4⟩, s5⟩ := hs
      have hdst : ∀ c, c = idOf y.o.dst → 99 < c → c ∈ (D ++ E).map (· + 100) := fun c h1 h2 => by
        cases hd : y.o.dst with
        | none => rw [hd] at h1; simp [idOf] at h1; omega
        | some u =>
          rw [hd] at s3 h1
          simp only [List.any_eq_true] at s3
          obtain ⟨v, hv, he⟩ := s3
          have he := Nat.eq_of_beq_eq_true he
          simp only [List.mem_map]
          exact ⟨v, hv, by rw [h1, ← he]; rfl⟩
      refine ⟨?_, clean_free D _ ?_, ?_⟩
      · intro u hu K
        rw [hu] at s3
        have s3' : (D ++ E).any (Nat.beq u) = true := s3
        rw [List.any_append, Bool.or_eq_true] at s3'
        show (cleanT (D.any (Nat.beq u)) ((D ++ E).map (· + 100)) (st.t u)).v.free K = true
        rw [cleanT_eq]
        split
        · rename_i h1 h2
          rcases s3' with h3 | h3
          · rw [h3] at h1; cases h1
          · simp only [List.any_eq_true] at h3
            obtain ⟨v, hv, he⟩ := h3
            have he := Nat.eq_of_beq_eq_true he
            refine Entry.free_kept _ (SV.plain_free ?_ K)
            rw [he]
            exact plains_mem hE v hv
        · simp [oneS, SV.free, V0.free, Leaf.free, Leaf.has]
      · intro c hc
        have := s4 c hc
        exact hdst c (Nat.eq_of_beq_eq_true this.1) (Nat.le_of_ble_eq_true this.2)
      · intro c k hu
        rw [hu] at s5
        simp only [Bool.and_eq_true] at s5
        have hmem := hdst c (Nat.eq_of_beq_eq_true s5.1) (Nat.le_of_ble_eq_true s5.2)
        have : ((D ++ E).map (· + 100)).any (Nat.beq c) = true := by
          simp only [List.any_eq_true]
          exact ⟨c, hmem, Nat.beq_refl c⟩
        show (match ((D ++ E).map (· + 100)).any (Nat.beq c) with | true => none | false => _) = none
        rw [this]
    · intro j o ho hj
      rw [Array.getD_eq_getD_getElem?, Array.getElem?_replicate] at hj
      split at hj <;> simp at hj

/-- The same with operations that change nothing of what is there. -/
theorem Tri.draw (hΓ : Γ.ok P) (hm : P.follows .mixedOrders = true) {Q : Exit → Sym → Prop} {id : Nat} {l : List Oper} (ms : List Nat) (bigs : Nat) (D E : List Nat) (hms : masks .any l [] = ms) (hlex : lexOK .any l 0 = true) (hE : plains st E = true)
    (h : drawL P Γ l.toArray bigs 0 l 0 (st.clean D ((D ++ E).map (· + 100))) (fun rs st' => chkAll ms (D ++ E) 0 rs = true ∧ Q .normal (endOps l st'))) : Tri P (.region id l.toArray true) st Q :=
  Tri.drawM 0 hΓ hm ms bigs D E hms hlex hE h

end
end Go.Sx
