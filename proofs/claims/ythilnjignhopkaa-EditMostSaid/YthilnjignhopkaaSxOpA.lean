/- Operations, first part: numbers, texts, tests, places, loads and stores: what each makes of a symbolic state, and that the model does just that. Conditions: the table of types is true of the program. -/
import Derived.Test.YthilnjignhopkaaSxTy
set_option linter.unusedSimpArgs false
set_option linter.unusedVariables false
namespace Go.Sx
open Go

/-! ### Whole numbers, bools, texts -/

def noOb (x : Leaf) : Option (List Prop × Leaf) := some ([], x)

def binInt (op : BinOp) (k : IntKind) (a b : Int) : Option (List Prop × Leaf) :=
  match op with
  | .add => noOb (.int k (k.wrap (a + b)))
  | .sub => noOb (.int k (k.wrap (a - b)))
  | .mul => noOb (.int k (k.wrap (a * b)))
  | .quo => some ([b ≠ 0], .int k (k.wrap (a.tdiv b)))
  | .rem => some ([b ≠ 0], .int k (a.tmod b))
  | .and => noOb (.int k (k.wrap (BitVec.ofInt k.bits a &&& BitVec.ofInt k.bits b).toNat))
  | .or => noOb (.int k (k.wrap (BitVec.ofInt k.bits a ||| BitVec.ofInt k.bits b).toNat))
  | .xor => noOb (.int k (k.wrap (BitVec.ofInt k.bits a ^^^ BitVec.ofInt k.bits b).toNat))
  | .andNot => noOb (.int k (k.wrap (BitVec.ofInt k.bits a &&& ~~~BitVec.ofInt k.bits b).toNat))
  | .eql => noOb (.bool (a == b))
  | .neq => noOb (.bool (a != b))
  | .lss => noOb (.bool (decide (a < b)))
  | .leq => noOb (.bool (decide (a ≤ b)))
  | .gtr => noOb (.bool (decide (a > b)))
  | .geq => noOb (.bool (decide (a ≥ b)))
  | _ => none

/-- The same for int64, without wrapping: what does not fit is asked. -/
def fits (n : Int) : Prop := -9223372036854775808 ≤ n ∧ n ≤ 9223372036854775807

def binNw (op : BinOp) (k : IntKind) (a b : Int) : Option (List Prop × Leaf) :=
  match k, op with
  | .i64, .add => some ([fits (a + b)], .int .i64 (a + b))
  | .i64, .sub => some ([fits (a - b)], .int .i64 (a - b))
  | .i64, .mul => some ([fits (a * b)], .int .i64 (a * b))
  | .i64, .quo => some ([b ≠ 0, fits (a.tdiv b)], .int .i64 (a.tdiv b))
  | _, _ => binInt op k a b

def shiftInt (op : BinOp) (k : IntKind) (a b : Int) : Option (List Prop × Leaf) :=
  match op with
  | .shl => some ([0 ≤ b], .int k (k.wrap (a * 2 ^ min b.toNat k.bits)))
  | .shr => some ([0 ≤ b], .int k (a.fdiv (2 ^ min b.toNat k.bits)))
  | _ => none

def binStr (op : BinOp) (a b : ByteArray) : Option (List Prop × Leaf) :=
  match op with
  | .add => some ([a.size + b.size ≤ big], .str (a ++ b))
  | .eql => noOb (.bool (a.toList == b.toList))
  | .neq => noOb (.bool (!(a.toList == b.toList)))
  | .lss => noOb (.bool (Op.bytesLess a.toList b.toList))
  | .leq => noOb (.bool (Op.bytesLess a.toList b.toList || a.toList == b.toList))
  | .gtr => noOb (.bool (!(Op.bytesLess a.toList b.toList || a.toList == b.toList)))
  | .geq => noOb (.bool (!Op.bytesLess a.toList b.toList))
  | _ => none

/-- Two values of a type that are compared, at least one of them nil, or two bools. -/
def eqLeaf (k : TK) (x y : Leaf) : Option Bool :=
  match k with
  | .scal .bool =>
    match x, y with
    | .bool a, .bool b => some (a == b)
    | _, _ => none
  | .scal (.pointer _) =>
    match x, y with
    | .nilptr, .nilptr => some true
    | .ref _ _, .nilptr => some false
    | .nilptr, .ref _ _ => some false
    | .eref _ _ _, .nilptr => some false
    | .nilptr, .eref _ _ _ => some false
    | _, _ => none
  | .slice _ =>
    match x, y with
    | .nilsl, .nilsl => some true
    | _, _ => none
  | .map _ _ =>
    match x, y with
    | .nilmap, .nilmap => some true
    | .mapr _, .nilmap => some false
    | .nilmap, .mapr _ => some false
    | _, _ => none
  | .scal (.func _ _ _) =>
    match x, y with
    | .nilfn, .nilfn => some true
    | .clo _ _, .nilfn => some false
    | .nilfn, .clo _ _ => some false
    | _, _ => none
  | _ => none

def isShift : BinOp → Bool
  | .shl => true
  | .shr => true
  | _ => false

def binLeaf (Γ : Gam) (op : BinOp) (t : Nat) (x y : Leaf) : Option (List Prop × Leaf) :=
  match x, y with
  | .int k a, .int k' b =>
    match isShift op with
    | true => shiftInt op k a b
    | false =>
      match decEq k k' with
      | isTrue _ =>
        match Γ.nw with
        | true => binNw op k a b
        | false => binInt op k a b
      | isFalse _ => none
  | .str a, .str b => binStr op a b
  | .isl _ l, .nilsl =>
    match Γ t with
    | none => none
    | some i =>
      match i.k, op with
      | .slice _, .eql => noOb (.cb (l = []) True)
      | .slice _, .neq => noOb (.cb True (l = []))
      | _, _ => none
  | x, y =>
    match Γ t with
    | none => none
    | some i =>
      match eqLeaf i.k x y, op with
      | some b, .eql => noOb (.bool b)
      | some b, .neq => noOb (.bool (!b))
      | _, _ => none

theorem inR_tmod {k : IntKind} {a b : Int} (h : inR k a) : inR k (a.tmod b) := by
  have h1 : 0 ≤ a → 0 ≤ a.tmod b ∧ a.tmod b ≤ a := fun ha => ⟨Int.tmod_nonneg b ha, by
    obtain ⟨n, rfl⟩ := Int.eq_ofNat_of_zero_le ha
    have h5 := Int.tmod_nonneg b ha
    have := Int.natAbs_tmod (n : Int) b
    have h2 : ((n : Int).tmod b).natAbs ≤ n := by rw [this]; simpa using Nat.mod_le n b.natAbs
    omega⟩
  have h2 : a ≤ 0 → a ≤ a.tmod b ∧ a.tmod b ≤ 0 := fun ha => by
    obtain ⟨n, rfl⟩ : ∃ n : Nat, a = -(n : Int) := ⟨a.natAbs, by omega⟩
    rw [Int.neg_tmod]
    have h3 := Int.tmod_nonneg b (Int.natCast_nonneg n)
    have := Int.natAbs_tmod (n : Int) b
    have h4 : ((n : Int).tmod b).natAbs ≤ n := by rw [this]; simpa using Nat.mod_le n b.natAbs
    omega
  rcases Int.le_total 0 a with ha | ha
  · have := h1 ha
    cases k <;> simp only [inR_i64, inR_i32, inR_i16, inR_i8, inR_u64, inR_u32, inR_u16, inR_u8] at h ⊢ <;> omega
  · have := h2 ha
    cases k <;> simp only [inR_i64, inR_i32, inR_i16, inR_i8, inR_u64, inR_u32, inR_u16, inR_u8] at h ⊢ <;> omega

theorem inR_shr {k : IntKind} {a : Int} (h : inR k a) (n : Nat) : inR k (a.fdiv (2 ^ n)) := by
  have hp : (0 : Int) < 2 ^ n := Int.pow_pos (by omega)
  rw [Int.fdiv_eq_ediv_of_nonneg _ (Int.le_of_lt hp)]
  have h1 : 0 ≤ a → 0 ≤ a / 2 ^ n ∧ a / 2 ^ n ≤ a := fun ha => ⟨Int.ediv_nonneg ha (Int.le_of_lt hp), Int.ediv_le_self _ ha⟩
  have h2 : a < 0 → a ≤ a / 2 ^ n ∧ a / 2 ^ n < 0 := fun ha => ⟨by
    rw [Int.le_ediv_iff_mul_le hp]
    have : (1 : Int) ≤ 2 ^ n := by omega
    have := Int.mul_le_mul_of_nonpos_left (a := a) (by omega) this
    omega, Int.ediv_neg_of_neg_of_pos ha hp⟩
  rcases Int.lt_or_le a 0 with ha | ha
  · have := h2 ha
    cases k <;> simp only [inR_i64, inR_i32, inR_i16, inR_i8, inR_u64, inR_u32, inR_u16, inR_u8] at h ⊢ <;> omega
  · have := h1 ha
    cases k <;> simp only [inR_i64, inR_i32, inR_i16, inR_i8, inR_u64, inR_u32, inR_u16, inR_u8] at h ⊢ <;> omega

section
variable {P : Program} {Γ : Gam} {w : World} {I : Nat → Prop} {ρ : Rho}

theorem run_eqGuard_plain (op : BinOp) (t : Nat) (x y : Operand) (a b : Value) (h : a.oneCell' = true) (hn : a ≠ .nilIface) : (eqGuard op t x y a b).run P w = .ok () w := by
  unfold eqGuard
  cases op <;> simp <;> (cases a <;> first | (simp [Value.oneCell'] at h; done) | (simp at hn; done) | (cases b <;> rfl))

theorem binInt_ok {op : BinOp} {k : IntKind} {a b : Int} {ob : List Prop} {r : Leaf} (h : binInt op k a b = some (ob, r)) (hob : ∀ p ∈ ob, p) (ha : inR k a) (t : Nat) :
    isShift op = false → ∃ v, (binOp op t (.int k a) (.int k b)).run P w = .ok v w ∧ r.rep w I ρ v := by
  intro hs
  cases op <;> simp only [binInt, noOb, Option.some.injEq, Prod.mk.injEq, isShift, reduceCtorEq] at h hs <;> (try contradiction) <;>
    (obtain ⟨rfl, rfl⟩ := h) <;> simp only [binOp, Op.intArith, Op.intDiv, Op.intBits, Op.intCmp, ne_eq, not_true_eq_false, if_false]
  case quo =>
    have hb : b ≠ 0 := hob _ (by simp)
    exact ⟨_, by simp only [hb, if_false]; rfl, rfl, inR_wrap _ _⟩
  case rem =>
    have hb : b ≠ 0 := hob _ (by simp)
    exact ⟨_, by simp only [hb, if_false]; rfl, rfl, inR_tmod ha⟩
  all_goals first
    | exact ⟨_, rfl, rfl, inR_wrap _ _⟩
    | exact ⟨_, rfl, rfl⟩

theorem binNw_ok {op : BinOp} {k : IntKind} {a b : Int} {ob : List Prop} {r : Leaf} (h : binNw op k a b = some (ob, r)) (hob : ∀ p ∈ ob, p) (ha : inR k a) (t : Nat) :
    isShift op = false → ∃ v, (binOp op t (.int k a) (.int k b)).run P w = .ok v w ∧ r.rep w I ρ v := by
  intro hs
  have key : ∀ (ob' : List Prop) (n : Int), binInt op k a b = some (ob', .int k (k.wrap n)) → (∀ p ∈ ob', p) → inR k n → r = .int k n → ∃ v, (binOp op t (.int k a) (.int k b)).run P w = .ok v w ∧ r.rep w I ρ v := by
    intro ob' n h1 h2 h3 h4
    obtain ⟨v, h5, h6⟩ := binInt_ok (P := P) (w := w) (I := I) (ρ := ρ) h1 h2 ha t hs
    rw [IntKind.wrap_inR h3] at h6
    exact ⟨v, h5, h4 ▸ h6⟩
  unfold binNw at h
  split at h
  · cases h; exact key [] _ rfl (by simp) (inR_i64.2 (hob (fits (a + b)) (by simp))) rfl
  · cases h; exact key [] _ rfl (by simp) (inR_i64.2 (hob (fits (a - b)) (by simp))) rfl
  · cases h; exact key [] _ rfl (by simp) (inR_i64.2 (hob (fits (a * b)) (by simp))) rfl
  · cases h; exact key [b ≠ 0] _ rfl (by intro p hp; simp only [List.mem_singleton] at hp; rw [hp]; exact hob _ (by simp)) (inR_i64.2 (hob (fits (a.tdiv b)) (by simp))) rfl
  · exact binInt_ok h hob ha t hs

theorem shiftInt_ok {op : BinOp} {k k' : IntKind} {a b : Int} {ob : List Prop} {r : Leaf} (h : shiftInt op k a b = some (ob, r)) (hob : ∀ p ∈ ob, p) (ha : inR k a) (t : Nat) :
    ∃ v, (binOp op t (.int k a) (.int k' b)).run P w = .ok v w ∧ r.rep w I ρ v := by
  cases op <;> simp only [shiftInt, Option.some.injEq, Prod.mk.injEq, reduceCtorEq] at h <;> (try contradiction) <;>
    (obtain ⟨rfl, rfl⟩ := h) <;> simp only [binOp, Op.shift]
  case shl =>
    have hb : 0 ≤ b := hob _ (by simp)
    have hb' : ¬ b < 0 := by omega
    exact ⟨_, by simp only [hb', if_false]; rfl, rfl, inR_wrap _ _⟩
  case shr =>
    have hb : 0 ≤ b := hob _ (by simp)
    have hb' : ¬ b < 0 := by omega
    exact ⟨_, by simp only [hb', if_false]; rfl, rfl, inR_shr ha _⟩

theorem binStr_ok {op : BinOp} {a b : ByteArray} {ob : List Prop} {r : Leaf} (h : binStr op a b = some (ob, r)) (hob : ∀ p ∈ ob, p) (t : Nat) :
    ∃ v, (binOp op t (.string a) (.string b)).run P w = .ok v w ∧ r.rep w I ρ v := by
  cases op <;> simp only [binStr, noOb, Option.some.injEq, Prod.mk.injEq, reduceCtorEq] at h <;> (try contradiction) <;>
    (obtain ⟨rfl, rfl⟩ := h) <;> simp only [binOp, Op.stringOp]
  case add =>
    have hb : a.size + b.size ≤ big := hob _ (by simp)
    have hb' : ¬ ((a.size + b.size : Nat) : Int) > IntKind.i64.max := by
      simp only [big] at hb
      simp only [IntKind.max, IntKind.signed, IntKind.bits, if_true]
      omega
    refine ⟨.string (a ++ b), by rw [if_neg hb']; rfl, rfl, ?_⟩
    rw [ByteArray.size_append]; exact hb
  all_goals exact ⟨_, rfl, rfl⟩

theorem equal_deep (t : Nat) (u v : Value) : ∃ d, Op.equal t u v = Op.equalIn (d + 1) t u v := ⟨9999, rfl⟩

theorem eqLeaf_ok {i : TI} {t : Nat} (hi : i.ok P t) {x y : Leaf} {b : Bool} {u v : Value} (h : eqLeaf i.k x y = some b) (hx : x.rep w I ρ u) (hy : y.rep w I ρ v) :
    (Op.equal t u v).run P w = .ok b w ∧ u.oneCell' = true ∧ u ≠ .nilIface ∧
      binOp .eql t u v = (do pure (.bool (← Op.equal t u v))) ∧ binOp .neq t u v = (do pure (.bool (!(← Op.equal t u v)))) := by
  obtain ⟨h1, _⟩ := hi
  obtain ⟨d, hd⟩ := equal_deep t u v
  unfold eqLeaf at h
  split at h
  · rename_i hk
    rw [hk] at h1
    split at h
    · cases h
      cases (show u = _ from hx); cases (show v = _ from hy)
      exact ⟨by rw [hd]; simp [Op.equalIn, run_underlying h1.1], rfl, by simp, rfl, rfl⟩
    · cases h
  · rename_i e hk
    rw [hk] at h1
    split at h <;> (try (cases h; done)) <;> cases h
    · cases (show u = _ from hx); cases (show v = _ from hy)
      exact ⟨by rw [hd]; simp [Op.equalIn, run_underlying h1.1], rfl, by simp, rfl, rfl⟩
    · obtain ⟨L, _, rfl⟩ := hx
      cases (show v = _ from hy)
      exact ⟨by rw [hd]; simp [Op.equalIn, run_underlying h1.1], rfl, by simp, rfl, rfl⟩
    · obtain ⟨L, _, rfl⟩ := hy
      cases (show u = _ from hx)
      exact ⟨by rw [hd]; simp [Op.equalIn, run_underlying h1.1], rfl, by simp, rfl, rfl⟩
    · obtain ⟨L, _, rfl, _⟩ := hx
      cases (show v = _ from hy)
      exact ⟨by rw [hd]; simp [Op.equalIn, run_underlying h1.1], rfl, by simp, rfl, rfl⟩
    · obtain ⟨L, _, rfl, _⟩ := hy
      cases (show u = _ from hx)
      exact ⟨by rw [hd]; simp [Op.equalIn, run_underlying h1.1], rfl, by simp, rfl, rfl⟩
  · rename_i e hk
    rw [hk] at h1
    split at h
    · cases h
      cases (show u = _ from hx); cases (show v = _ from hy)
      exact ⟨by rw [hd]; simp [Op.equalIn, run_underlying h1], rfl, by simp, rfl, rfl⟩
    · cases h
  · rename_i e hk
    rw [hk] at h1
    split at h <;> (try (cases h; done)) <;> cases h
    · cases (show u = _ from hx); cases (show v = _ from hy)
      exact ⟨by rw [hd]; simp [Op.equalIn, run_underlying h1], rfl, by simp, rfl, rfl⟩
    · obtain ⟨L, _, rfl⟩ := hx
      cases (show v = _ from hy)
      exact ⟨by rw [hd]; simp [Op.equalIn, run_underlying h1], rfl, by simp, rfl, rfl⟩
    · obtain ⟨L, _, rfl⟩ := hy
      cases (show u = _ from hx)
      exact ⟨by rw [hd]; simp [Op.equalIn, run_underlying h1], rfl, by simp, rfl, rfl⟩
  · rename_i e1 e2 e3 hk
    rw [hk] at h1
    split at h <;> (try (cases h; done)) <;> cases h
    · cases (show u = _ from hx); cases (show v = _ from hy)
      exact ⟨by rw [hd]; simp [Op.equalIn, run_underlying h1.1], rfl, by simp, rfl, rfl⟩
    · obtain ⟨vs, rfl, _⟩ := hx
      cases (show v = _ from hy)
      exact ⟨by rw [hd]; simp [Op.equalIn, run_underlying h1.1], rfl, by simp, rfl, rfl⟩
    · obtain ⟨vs, rfl, _⟩ := hy
      cases (show u = _ from hx)
      exact ⟨by rw [hd]; simp [Op.equalIn, run_underlying h1.1], rfl, by simp, rfl, rfl⟩
  · cases h

/-- Whatever binLeaf takes, the model's operation yields. -/
theorem binLeaf_ok (hΓ : Γ.ok P) {op : BinOp} {t : Nat} {x y : Leaf} {ob : List Prop} {r : Leaf} {u v : Value} (h : binLeaf Γ op t x y = some (ob, r)) (hob : ∀ p ∈ ob, p)
    (hx : x.rep w I ρ u) (hy : y.rep w I ρ v) (ox oy : Operand) :
    ∃ z, (do eqGuard op t ox oy u v; binOp op t u v : Sem Value).run P w = .ok z w ∧ r.rep w I ρ z := by
  unfold binLeaf at h
  split at h
  · rename_i k a k' b
    obtain ⟨rfl, ha⟩ := hx
    obtain ⟨rfl, hb⟩ := hy
    simp only [Sem.run_bind, run_eqGuard_plain (P := P) (w := w) op t ox oy (.int k a) (.int k' b) rfl (by simp), Result.andThen_ok]
    split at h
    · exact shiftInt_ok h hob ha t
    · rename_i hs
      split at h
      · rename_i hk _
        subst hk
        split at h
        · exact binNw_ok h hob ha t hs
        · exact binInt_ok h hob ha t hs
      · cases h
  · rename_i a b
    obtain ⟨rfl, ha⟩ := hx
    obtain ⟨rfl, hb⟩ := hy
    simp only [Sem.run_bind, run_eqGuard_plain (P := P) (w := w) op t ox oy (.string a) (.string b) rfl (by simp), Result.andThen_ok]
    exact binStr_ok h hob t
  · rename_i T l
    have hu : ∃ ad n cap, u = .slice ad n cap ∧ (ad = none → l = []) := by
      obtain ⟨ad, cap, h1, _, _, h4⟩ := hx
      have h1 : u = .slice ad l.length cap := by simpa using h1
      refine ⟨ad, l.length, cap, h1, fun e => ?_⟩
      subst e
      exact h4.1
    obtain ⟨ad, n, cap, rfl, had⟩ := hu
    cases (show v = _ from hy)
    split at h
    · cases h
    · rename_i i hi
      have h1 := (hΓ t i hi).1
      obtain ⟨d, hd⟩ := equal_deep t (.slice ad n cap) (.slice none 0 0)
      split at h
      · rename_i e hk
        rw [hk] at h1
        cases h
        cases ad with
        | none =>
          refine ⟨.bool true, ?_, true, rfl, fun _ => had rfl, fun e => by cases e⟩
          simp only [Sem.run_bind, run_eqGuard_plain (P := P) (w := w) .eql t ox oy (.slice none n cap) (.slice none 0 0) rfl (by simp), Result.andThen_ok, binOp]
          rw [hd]; simp [Op.equalIn, run_underlying h1]
        | some p =>
          refine ⟨.bool false, ?_, false, rfl, fun e => (by cases e), fun _ => trivial⟩
          simp only [Sem.run_bind, run_eqGuard_plain (P := P) (w := w) .eql t ox oy (.slice (some p) n cap) (.slice none 0 0) rfl (by simp), Result.andThen_ok, binOp]
          rw [hd]; simp [Op.equalIn, run_underlying h1]
      · rename_i e hk
        rw [hk] at h1
        cases h
        cases ad with
        | none =>
          refine ⟨.bool false, ?_, false, rfl, fun e => (by cases e), fun _ => had rfl⟩
          simp only [Sem.run_bind, run_eqGuard_plain (P := P) (w := w) .neq t ox oy (.slice none n cap) (.slice none 0 0) rfl (by simp), Result.andThen_ok, binOp]
          rw [hd]; simp [Op.equalIn, run_underlying h1]
        | some p =>
          refine ⟨.bool true, ?_, true, rfl, fun _ => trivial, fun e => (by cases e)⟩
          simp only [Sem.run_bind, run_eqGuard_plain (P := P) (w := w) .neq t ox oy (.slice (some p) n cap) (.slice none 0 0) rfl (by simp), Result.andThen_ok, binOp]
          rw [hd]; simp [Op.equalIn, run_underlying h1]
      · cases h
  · split at h
    · cases h
    · rename_i i hi
      split at h
      · rename_i b he
        simp only [noOb, Option.some.injEq, Prod.mk.injEq] at h
        obtain ⟨rfl, rfl⟩ := h
        obtain ⟨h1, h2, h3, h4⟩ := eqLeaf_ok (hΓ t i hi) he hx hy
        refine ⟨.bool b, ?_, rfl⟩
        simp only [Sem.run_bind, run_eqGuard_plain (P := P) (w := w) .eql t ox oy u v h2 h3, Result.andThen_ok, h4.1, h1, Sem.run_pure]
      · rename_i b he
        simp only [noOb, Option.some.injEq, Prod.mk.injEq] at h
        obtain ⟨rfl, rfl⟩ := h
        obtain ⟨h1, h2, h3, h4⟩ := eqLeaf_ok (hΓ t i hi) he hx hy
        refine ⟨.bool (!b), ?_, rfl⟩
        simp only [Sem.run_bind, run_eqGuard_plain (P := P) (w := w) .neq t ox oy u v h2 h3, Result.andThen_ok, h4.2, h1, Sem.run_pure]
      · cases h

def negLeaf (nw : Bool) (k : IntKind) (n : Int) : List Prop × Leaf :=
  match nw, k with
  | true, .i64 => ([fits (-n)], .int .i64 (-n))
  | _, k => ([], .int k (k.wrap (0 - n)))

def unLeaf (nw : Bool) (op : UnOp) (x : Leaf) : Option (List Prop × Leaf) :=
  match op, x with
  | .neg, .int k n => some (negLeaf nw k n)
  | .xor, .int k n => noOb (.int k (k.wrap (BitVec.ofInt k.bits (if k.signed then -1 else k.max) ^^^ BitVec.ofInt k.bits n).toNat))
  | .not, .bool b => noOb (.bool (!b))
  | _, _ => none

theorem unLeaf_ok {nw : Bool} {op : UnOp} {x r : Leaf} {ob : List Prop} {u : Value} (h : unLeaf nw op x = some (ob, r)) (hob : ∀ p ∈ ob, p) (hx : x.rep w I ρ u) : ∃ z, (Op.unary op u).run P w = .ok z w ∧ r.rep w I ρ z := by
  unfold unLeaf at h
  split at h
  · rename_i k n
    obtain ⟨rfl, hn⟩ := hx
    unfold negLeaf at h
    split at h
    · cases h
      have h1 : fits (-n) := hob _ (by simp)
      have h2 : inR .i64 (0 - n) := by rw [Int.zero_sub]; exact inR_i64.2 h1
      refine ⟨.int .i64 (IntKind.i64.wrap (0 - n)), rfl, ?_, ?_⟩
      · rw [IntKind.wrap_inR h2, Int.zero_sub]
      · rw [← Int.zero_sub]; exact h2
    · cases h; exact ⟨_, rfl, rfl, inR_wrap _ _⟩
  · cases h; obtain ⟨rfl, hn⟩ := hx; exact ⟨_, rfl, rfl, inR_wrap _ _⟩
  · cases h; rw [show u = _ from hx]; exact ⟨_, rfl, rfl⟩
  · cases h

def convLeaf (Γ : Gam) (src dst : Nat) (x : Leaf) : Option Leaf :=
  match Γ src, Γ dst with
  | some s, some d =>
    match s.k, d.k, x with
    | .scal _, .scal (.int k), .int _ n => some (.int k (k.wrap n))
    | .scal _, .scal .string, .str s => some (.str s)
    | _, _, _ => none
  | _, _ => none

theorem convLeaf_ok (hΓ : Γ.ok P) {src dst : Nat} {x r : Leaf} {u : Value} (h : convLeaf Γ src dst x = some r) (hx : x.rep w I ρ u) : ∃ z, (convert src dst u).run P w = .ok z w ∧ r.rep w I ρ z := by
  unfold convLeaf at h
  split at h
  · rename_i s d hs hd
    have h1 := (hΓ src s hs).1
    have h2 := (hΓ dst d hd).1
    split at h
    · rename_i d1 k k0 n e1 e2
      cases h
      rw [e1] at h1; rw [e2] at h2
      obtain ⟨rfl, _⟩ := hx
      refine ⟨.int k (k.wrap n), ?_, rfl, inR_wrap _ _⟩
      simp [convert, run_underlying h1.1, run_underlying h2.1, Conv.intToInt]
    · rename_i d1 s' e1 e2
      cases h
      rw [e1] at h1; rw [e2] at h2
      obtain ⟨rfl, hb⟩ := hx
      refine ⟨.string s', ?_, rfl, hb⟩
      simp [convert, run_underlying h1.1, run_underlying h2.1]
    · cases h
  · cases h

def minLeaf (nw big : Bool) (x y : Leaf) : Option Leaf :=
  match x, y with
  | .int k a, .int k' b =>
    match decEq k k' with
    | isTrue _ =>
      match nw, big with
      | false, true => some (.int k (if b > a then b else a))
      | false, false => some (.int k (if b < a then b else a))
      | true, true => some (.int k (max a b))
      | true, false => some (.int k (min a b))
    | isFalse _ => none
  | _, _ => none

def minLeafs (nw big : Bool) : Leaf → List Leaf → Option Leaf
  | x, [] => some x
  | x, y :: ys =>
    match minLeaf nw big x y with
    | some z => minLeafs nw big z ys
    | none => none
end

end Go.Sx
