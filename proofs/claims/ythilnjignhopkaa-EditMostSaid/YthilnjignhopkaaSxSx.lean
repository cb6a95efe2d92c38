/- All operations but calls of Go functions: what each makes of a symbolic state (dl), and that the model does just that (dl_ok). Conditions: the table of types is true of the program. -/
import Derived.Test.YthilnjignhopkaaSxOpF
set_option linter.unusedSimpArgs false
set_option linter.unusedVariables false
namespace Go.Sx
open Go

/-- All of some guards are among others. -/
def subl (g ls : List (Nat × Bool)) : Bool :=
  match g with
  | [] => true
  | p :: g =>
    match ls.any (fun q => Nat.beq p.1 q.1 && (p.2 == q.2)) with
    | true => subl g ls
    | false => false

theorem subl_ok : ∀ {g ls : List (Nat × Bool)}, subl g ls = true → ∀ p ∈ g, p ∈ ls
  | [], _, _, p, hp => by simp at hp
  | q :: g, ls, h, p, hp => by
    unfold subl at h
    split at h
    · rename_i ha
      rcases List.mem_cons.1 hp with e | e
      · subst e
        simp only [List.any_eq_true, Bool.and_eq_true, beq_iff_eq] at ha
        obtain ⟨q', h1, h2, h3⟩ := ha
        have h2 := Nat.eq_of_beq_eq_true h2
        have : p = q' := by cases p; cases q'; simp_all
        rw [this]; exact h1
      · exact subl_ok h p e
    · cases h

def Sym.ev (st : Sym) (ls : List (Nat × Bool)) : Operand → Option SV
  | .tmp t =>
    match st.t t with
    | ⟨g, v⟩ =>
      match subl g ls with
      | true => some v
      | false => none
  | .const v =>
    match constLeaf v with
    | some x => some (oneS x)
    | none => none
  | .func f => some (oneS (.clo f []))
  | .global _ => none

def Sym.ev1 (st : Sym) (ls : List (Nat × Bool)) (x : Operand) : Option Leaf :=
  match st.ev ls x with
  | some (.one (.cell y)) => some y
  | _ => none

def Sym.evV (st : Sym) (ls : List (Nat × Bool)) (x : Operand) : Option V0 :=
  match st.ev ls x with
  | some (.one y) => some y
  | _ => none

def Sym.evVs (st : Sym) (ls : List (Nat × Bool)) : List Operand → Option (List V0)
  | [] => some []
  | x :: xs =>
    match st.evV ls x, st.evVs ls xs with
    | some y, some ys => some (y :: ys)
    | _, _ => none

def Sym.evParts (st : Sym) (ls : List (Nat × Bool)) : List (Nat × Operand) → Option (List (Nat × V0))
  | [] => some []
  | (i, x) :: xs =>
    match st.evV ls x, st.evParts ls xs with
    | some y, some ys => some ((i, y) :: ys)
    | _, _ => none

/-- A bound of a cut that is there has to be a whole number. -/
def Sym.evOpt (st : Sym) (ls : List (Nat × Bool)) : Option Operand → Option (Option Int)
  | none => some none
  | some x =>
    match st.ev1 ls x with
    | some (.int .i64 n) => some (some n)
    | _ => none

def capsOf : List V0 → Option (List Nat)
  | [] => some []
  | .cell (.ref c 0) :: xs =>
    match capsOf xs with
    | some cs => some (c :: cs)
    | none => none
  | _ => none

def notNil : Leaf → Bool
  | .ref _ _ => true
  | .eref _ _ _ => true
  | .iptr _ _ _ => true
  | .clo _ _ => true
  | _ => false

def sameTmp : Operand → Operand → Bool
  | .tmp a, .tmp b => Nat.beq a b
  | _, _ => false

def leafs1 : List V0 → Option (List Leaf)
  | [] => some []
  | .cell x :: xs =>
    match leafs1 xs with
    | some ys => some (x :: ys)
    | none => none
  | _ => none

/-- The value of 'a && b', 'a || b'. -/
def pickB (a b : Operand) (c x y : Bool) : Bool :=
  match a, b with
  | .const (.bool true), _ => c || y
  | _, .const (.bool false) => c && x
  | _, _ => cond c x y

def Sym.pick (st : Sym) (ls : List (Nat × Bool)) (c a b : Operand) : Option SV :=
  match c with
  | .tmp t =>
    match st.ev1 ls c, st.ev1 ((t, true) :: ls) a, st.ev1 ((t, false) :: ls) b with
    | some (.bool z), some (.bool x), some (.bool y) => some (oneS (.bool (pickB a b z x y)))
    | _, _, _ => none
  | _ => none

def builtinD (Γ : Gam) (st : Sym) (own : Bool) (id : Nat) (b : Builtin) (tys : List Nat) (args : List V0) : Option Delta :=
  match b, tys, args with
  | .len, [t], [.cell x] =>
    match lenLeaf Γ st t x with
    | some y => some (dPure [] (oneS y))
    | none => none
  | .append, [t, t2], [.cell x, .cell y] =>
    match own with
    | true => appendD Γ st id t t2 x y
    | false => none
  | .min, _, args =>
    match leafs1 args with
    | some (x :: xs) =>
      match minLeafs Γ.nw false x xs with
      | some y => some (dPure [] (oneS y))
      | none => none
    | _ => none
  | .max, _, args =>
    match leafs1 args with
    | some (x :: xs) =>
      match minLeafs Γ.nw true x xs with
      | some y => some (dPure [] (oneS y))
      | none => none
    | _ => none
  | _, _, _ => none

def dl (Γ : Gam) (st : Sym) (ls : List (Nat × Bool)) (own : Bool) (id : Nat) : Op → Option Delta
  | .move x =>
    match st.ev ls x with
    | some v => some (dPure [] v)
    | none => none
  | .assign x =>
    match st.ev ls x with
    | some v => some (dPure [] v)
    | none => none
  | .pick c a b =>
    match st.pick ls c a b with
    | some v => some (dPure [] v)
    | none => none
  | .alloc t =>
    match own, Γ t with
    | true, some i => allocD i id
    | _, _ => none
  | .box _ x =>
    match own, st.evV ls x with
    | true, some v => boxD id v
    | _, _ => none
  | .build t parts =>
    match st.evParts ls parts.toList with
    | some ps =>
      match buildD Γ t ps with
      | some v => some (dPure [] (.one v))
      | none => none
    | none => none
  | .buildSlice t n parts =>
    match st.evParts ls parts.toList with
    | some ps => buildSliceD Γ (own && !Γ.im id) id t n ps
    | none => none
  | .load t a =>
    match Γ t, st.ev1 ls a with
    | some i, some x =>
      match loadAt i st x with
      | some v => some (dPure [] (.one v))
      | none => none
    | _, _ => none
  | .store t a x =>
    match own, Γ t, st.ev1 ls a, st.evV ls x with
    | true, some i, some p, some v =>
      match storeAt i st p v.leafs with
      | some ck => some ⟨[], oneS .junk, some ck, []⟩
      | none => none
    | _, _, _, _ => none
  | .nilCheck x =>
    match st.ev1 ls x with
    | some y =>
      match notNil y with
      | true => some (dPure [] (oneS y))
      | false => none
    | none => none
  | .binOp op t x y _ =>
    match st.ev1 ls x, st.ev1 ls y with
    | some a, some b =>
      match binLeaf Γ op t a b with
      | some (ob, r) => some (dPure ob (oneS r))
      | none => none
    | _, _ => none
  | .unOp op _ x =>
    match st.ev1 ls x with
    | some a =>
      match unLeaf Γ.nw op a with
      | some (ob, r) => some (dPure ob (oneS r))
      | none => none
    | none => none
  | .convert s d x =>
    match st.ev1 ls x with
    | some a =>
      match convLeaf Γ s d a with
      | some r => some (dPure [] (oneS r))
      | none => none
    | none => none
  | .makeFunc (.func f) first caps =>
    match first.toList, st.evVs ls caps.toList with
    | [], some vs =>
      match capsOf vs with
      | some cs => some (dPure [] (oneS (.clo f cs)))
      | none => none
    | _, _ => none
  | .makeMap t none =>
    match own with
    | true => makeMapD Γ id t
    | false => none
  | .makeSlice t l c =>
    match own, st.ev1 ls l, st.ev1 ls c with
    | true, some x, some y => makeSliceD Γ (sameTmp l c) id t x y
    | _, _, _ => none
  | .slice t x lo hi none =>
    match st.ev1 ls x, st.evOpt ls lo, st.evOpt ls hi with
    | some y, some a, some b =>
      match cutLeaf Γ st t y a b with
      | some (ob, r) => some (dPure ob (oneS r))
      | none => none
    | _, _, _ => none
  | .fieldAddr s x f =>
    match st.ev1 ls x with
    | some a =>
      match fieldAddrLeaf Γ s a f with
      | some r => some (dPure [] (oneS r))
      | none => none
    | none => none
  | .field t x f =>
    match st.evV ls x with
    | some a =>
      match fieldV Γ t a f with
      | some r => some (dPure [] (.one r))
      | none => none
    | none => none
  | .indexAddr t x i =>
    match st.ev1 ls x, st.ev1 ls i with
    | some a, some (.int _ n) =>
      match indexAddrLeaf Γ st t a (litIdx i) n with
      | some (ob, r) => some (dPure ob (oneS r))
      | none => none
    | _, _ => none
  | .index t x i =>
    match st.evV ls x, st.ev1 ls i with
    | some a, some (.int _ n) =>
      match indexV Γ t a (litIdx i) n with
      | some (ob, r) => some (dPure ob (.one r))
      | none => none
    | _, _ => none
  | .lookup t x k ok =>
    match st.ev1 ls x, st.ev1 ls k with
    | some a, some b =>
      match lookupD Γ st t a b ok with
      | some r => some (dPure [] r)
      | none => none
    | _, _ => none
  | .mapUpdate t m k x =>
    match own, st.ev1 ls m, st.ev1 ls k, st.evV ls x with
    | true, some a, some b, some v =>
      match mapUpdateD Γ st t a b v with
      | some ck => some ⟨[], oneS .junk, some ck, []⟩
      | none => none
    | _, _, _, _ => none
  | .extract x n =>
    match st.ev ls x with
    | some (.tup vs) =>
      match vs[n]? with
      | some v => some (dPure [] (.one v))
      | none => none
    | _ => none
  | .call c =>
    match c.callee with
    | .builtin b =>
      match st.evVs ls c.args.toList with
      | some vs => builtinD Γ st own id b c.argTypes.toList vs
      | none => none
    | _ => none
  | _ => none

section
variable {P : Program} {Γ : Gam} {B0 I0 : Nat → Prop} {w0 : World} {ρ0 : Rho} {st : Sym} {w : World} {I : Nat → Prop} {ρ : Rho} {a : Act} {ls : List (Nat × Bool)}

theorem ev_ok (R : Rel B0 I0 w0 ρ0 st I ρ a w) (hall : st.all ls) {x : Operand} {s : SV} (h : st.ev ls x = some s) : s.rep w I ρ (a.eval x) := by
  cases x with
  | tmp t =>
    simp only [Sym.ev] at h
    split at h
    · rename_i hs
      cases h
      exact (R.tm t).1 (fun l hl => hall l (subl_ok hs l hl))
    · cases h
  | const v =>
    simp only [Sym.ev] at h
    split at h
    · rename_i y hy
      cases h
      exact (constLeaf_rep hy w I ρ).1
    · cases h
  | func f =>
    simp only [Sym.ev, Option.some.injEq] at h
    subst h
    exact ⟨#[], rfl, trivial⟩
  | global g => simp [Sym.ev] at h

theorem ev1_ok (R : Rel B0 I0 w0 ρ0 st I ρ a w) (hall : st.all ls) {x : Operand} {s : Leaf} (h : st.ev1 ls x = some s) : s.rep w I ρ (a.eval x) := by
  unfold Sym.ev1 at h
  split at h
  · rename_i y hy
    cases h
    exact ev_ok R hall hy
  · cases h

theorem evV_ok (R : Rel B0 I0 w0 ρ0 st I ρ a w) (hall : st.all ls) {x : Operand} {s : V0} (h : st.evV ls x = some s) : s.rep w I ρ (a.eval x) := by
  unfold Sym.evV at h
  split at h
  · rename_i y hy
    cases h
    exact ev_ok R hall hy
  · cases h

theorem evVs_ok (R : Rel B0 I0 w0 ρ0 st I ρ a w) (hall : st.all ls) : ∀ {xs : List Operand} {ss : List V0}, st.evVs ls xs = some ss → All2 (V0.rep w I ρ) (xs.map a.eval) ss
  | [], ss, h => by simp only [Sym.evVs, Option.some.injEq] at h; subst h; trivial
  | x :: xs, ss, h => by
    simp only [Sym.evVs] at h
    split at h
    · rename_i y ys h1 h2
      cases h
      exact ⟨evV_ok R hall h1, evVs_ok R hall h2⟩
    · cases h

theorem evParts_ok (R : Rel B0 I0 w0 ρ0 st I ρ a w) (hall : st.all ls) : ∀ {xs : List (Nat × Operand)} {ss : List (Nat × V0)}, st.evParts ls xs = some ss →
    All2 (fun (p : Nat × Value) (q : Nat × V0) => p.1 = q.1 ∧ q.2.rep w I ρ p.2) (xs.map fun p => (p.1, a.eval p.2)) ss
  | [], ss, h => by simp only [Sym.evParts, Option.some.injEq] at h; subst h; trivial
  | (i, x) :: xs, ss, h => by
    simp only [Sym.evParts] at h
    split at h
    · rename_i y ys h1 h2
      cases h
      exact ⟨⟨rfl, evV_ok R hall h1⟩, evParts_ok R hall h2⟩
    · cases h

theorem evOpt_ok (R : Rel B0 I0 w0 ρ0 st I ρ a w) (hall : st.all ls) {x : Option Operand} {n : Option Int} (h : st.evOpt ls x = some n) : x.map a.eval = optInt n := by
  cases x with
  | none => simp only [Sym.evOpt, Option.some.injEq] at h; subst h; rfl
  | some x =>
    simp only [Sym.evOpt] at h
    split at h
    · rename_i m hm
      cases h
      have := (ev1_ok R hall hm).1
      simp [optInt, this]
    · cases h

theorem minLeaf_ok {nw bg : Bool} {x y z : Leaf} {u v : Value} (h : minLeaf nw bg x y = some z) (hx : x.rep w I ρ u) (hy : y.rep w I ρ v) :
    ∃ r, ((if bg then Builtin.max2 u v else Builtin.min2 u v) : Sem Value).run P w = .ok r w ∧ z.rep w I ρ r := by
  unfold minLeaf at h
  split at h
  · rename_i k n k' m
    split at h
    · rename_i hk _
      subst hk
      obtain ⟨rfl, hn⟩ := hx
      obtain ⟨rfl, hm⟩ := hy
      split at h
      · cases h
        refine ⟨.int k (if m > n then m else n), by simp [Builtin.max2], rfl, ?_⟩
        split <;> assumption
      · cases h
        refine ⟨.int k (if m < n then m else n), by simp [Builtin.min2], rfl, ?_⟩
        split <;> assumption
      · cases h
        have e : (if m > n then m else n) = max n m := by split <;> omega
        refine ⟨.int k (if m > n then m else n), by simp [Builtin.max2], by rw [e], ?_⟩
        rw [← e]; split <;> assumption
      · cases h
        have e : (if m < n then m else n) = min n m := by split <;> omega
        refine ⟨.int k (if m < n then m else n), by simp [Builtin.min2], by rw [e], ?_⟩
        rw [← e]; split <;> assumption
    · cases h
  · cases h

theorem minLeafs_ok {nw bg : Bool} : ∀ {xs : List Leaf} {vs : List Value} {x z : Leaf} {u : Value}, minLeafs nw bg x xs = some z → x.rep w I ρ u → All2 (Leaf.rep w I ρ) vs xs →
    ∃ r, (vs.foldlM (m := Sem) (fun p q => if bg then Builtin.max2 p q else Builtin.min2 p q) u).run P w = .ok r w ∧ z.rep w I ρ r
  | [], [], x, z, u, h, hx, _ => by
    simp only [minLeafs, Option.some.injEq] at h; subst h
    exact ⟨u, rfl, hx⟩
  | y :: ys, v :: vs, x, z, u, h, hx, hv => by
    simp only [minLeafs] at h
    split at h
    · rename_i z' hz
      obtain ⟨r, h1, h2⟩ := minLeaf_ok (P := P) hz hx hv.1
      obtain ⟨r', h3, h4⟩ := minLeafs_ok h h2 hv.2
      refine ⟨r', ?_, h4⟩
      simp only [List.foldlM_cons, Sem.run_bind, h1, Result.andThen_ok]
      exact h3
    · cases h
  | [], _ :: _, _, _, _, _, _, h => h.elim
  | _ :: _, [], _, _, _, _, _, h => h.elim

theorem leafs1_ok : ∀ {xs : List V0} {ys : List Leaf} {vs : List Value}, leafs1 xs = some ys → All2 (V0.rep w I ρ) vs xs → All2 (Leaf.rep w I ρ) vs ys
  | [], ys, [], h, _ => by simp only [leafs1, Option.some.injEq] at h; subst h; trivial
  | .cell x :: xs, ys, v :: vs, h, k => by
    simp only [leafs1] at h
    split at h
    · rename_i zs hz
      cases h
      exact ⟨k.1, leafs1_ok hz k.2⟩
    · cases h
  | .agg _ :: _, _, _, h, _ => by simp [leafs1] at h
  | [], _, _ :: _, _, k => k.elim
  | _ :: _, _, [], _, k => k.elim

theorem capsOf_ok : ∀ {xs : List V0} {cs : List Nat} {vs : List Value}, capsOf xs = some cs → All2 (V0.rep w I ρ) vs xs → All2 (fun v c => ∃ L, ρ c = some L ∧ v = .pointer (some ⟨L.b, L.base, none⟩)) vs cs
  | [], cs, [], h, _ => by simp only [capsOf, Option.some.injEq] at h; subst h; trivial
  | x :: xs, cs, v :: vs, h, k => by
    unfold capsOf at h
    split at h
    · rename_i e; cases e
    · rename_i c ys e
      cases e
      split at h
      · rename_i ds hd
        cases h
        refine ⟨?_, capsOf_ok hd k.2⟩
        obtain ⟨L, h1, h2⟩ := k.1
        exact ⟨L, h1, h2⟩
      · cases h
    · cases h
  | [], _, _ :: _, _, k => k.elim
  | _ :: _, _, [], _, k => k.elim

/-- How an operation's run is spoken of: it yields a value, or nothing. -/
def Yields1 (P : Program) (a : Act) (o : Oper) (w : World) (v : Value) (w' : World) : Prop :=
  (execOp a.eval o).run P w = .ok (.value v) w' ∨ ((execOp a.eval o).run P w = .ok .skip w' ∧ v = undef)

theorem Good.yields {s : Sem Value} {d : Delta} {o : Oper} (h : Good P st I ρ w s d) (he : execOp a.eval o = (do let v ← s; Pure.pure (Next.value v))) :
    ∃ v w' I' ρ', Yields1 P a o w v w' ∧ Step st I ρ w d I' ρ' w' ∧ d.val.rep w' I' ρ' v := by
  obtain ⟨v, w', I', ρ', h1, h2, h3⟩ := h
  exact ⟨v, w', I', ρ', .inl (by rw [he, Sem.run_bind, h1]; rfl), h2, h3⟩

theorem pickB_eq {a' b : Operand} {c x y : Bool} (hx : a' = .const (.bool true) → x = true) (hy : b = .const (.bool false) → y = false) : pickB a' b c x y = cond c x y := by
  unfold pickB
  split
  · rw [hx rfl]; cases c <;> rfl
  · rw [hy rfl]; cases c <;> rfl
  · rfl

theorem ev1_const_bool {b : Bool} {y : Leaf} (h : st.ev1 ls (.const (.bool b)) = some y) : y = .bool b := by
  simp only [Sym.ev1, Sym.ev, constLeaf, oneS, Option.some.injEq] at h
  exact h.symm

theorem pick_ok (R : Rel B0 I0 w0 ρ0 st I ρ a w) (hall : st.all ls) {c x y : Operand} {s : SV} (h : st.pick ls c x y = some s) : ∃ v, (do pure (if ← asBool (a.eval c) then a.eval x else a.eval y) : Sem Value).run P w = .ok v w ∧ s.rep w I ρ v := by
  unfold Sym.pick at h
  split at h
  · rename_i t
    split at h
    · rename_i z p q hc hx hy
      cases h
      have hcv : a.eval (.tmp t) = .bool z := ev1_ok R hall hc
      have hz : ∀ b, z = b → st.all ((t, b) :: ls) := by
        intro b hb l hl
        rcases List.mem_cons.1 hl with e | e
        · subst e
          have : (st.t t).v = .one (.cell (.bool z)) := by
            unfold Sym.ev1 at hc
            split at hc
            · rename_i y' hy'
              cases hc
              simp only [Sym.ev] at hy'
              split at hy'
              · simpa using hy'
              · cases hy'
            · cases hc
          simp [Sym.cond, this, hb]
        · exact hall l e
      have e := pickB_eq (a' := x) (b := y) (c := z) (x := p) (y := q) (fun e => by subst e; have := ev1_const_bool hx; simpa using this) (fun e => by subst e; have := ev1_const_bool hy; simpa using this)
      rw [e]
      simp only [hcv, asBool, Sem.run_bind, Sem.run_pure, Result.andThen_ok]
      cases z with
      | true =>
        have := ev1_ok R (hz true rfl) hx
        exact ⟨_, rfl, this⟩
      | false =>
        have := ev1_ok R (hz false rfl) hy
        exact ⟨_, rfl, this⟩
    · cases h
  · cases h

theorem exec_builtin {o : Oper} {b : Builtin} {args : Array Operand} {tys : Array Nat} (ho : o.op = .call { callee := .builtin b, args := args, argTypes := tys }) :
    execOp a.eval o = builtin b tys o.type (args.map fun | .const _ => true | _ => false) (args.map a.eval) := by
  unfold execOp
  rw [ho]
  rfl

theorem dl_ok (hΓ : Γ.ok P) (R : Rel B0 I0 w0 ρ0 st I ρ a w) (hall : st.all ls) {own : Bool} {id : Nat} {o : Oper} {d : Delta} (h : dl Γ st ls own id o.op = some d) (hob : ∀ p ∈ d.ob, p) :
    ∃ v w' I' ρ', Yields1 P a o w v w' ∧ Step st I ρ w d I' ρ' w' ∧ d.val.rep w' I' ρ' v := by
  have pureV : ∀ {ob : List Prop} {s : SV} {v : Value}, (execOp a.eval o).run P w = .ok (.value v) w → s.rep w I ρ v → d = dPure ob s → ∃ v w' I' ρ', Yields1 P a o w v w' ∧ Step st I ρ w d I' ρ' w' ∧ d.val.rep w' I' ρ' v := by
    intro ob s v h1 h2 h3
    subst h3
    exact ⟨v, w, I, ρ, .inl h1, Step.pure st I ρ w ob s, h2⟩
  have pureL : ∀ {ob : List Prop} {x : Leaf} {v : Value}, (execOp a.eval o).run P w = .ok (.value v) w → x.rep w I ρ v → d = dPure ob (oneS x) → ∃ v w' I' ρ', Yields1 P a o w v w' ∧ Step st I ρ w d I' ρ' w' ∧ d.val.rep w' I' ρ' v :=
    fun h1 h2 h3 => pureV (s := oneS _) h1 h2 h3
  have pure0 : ∀ {ob : List Prop} {x : V0} {v : Value}, (execOp a.eval o).run P w = .ok (.value v) w → x.rep w I ρ v → d = dPure ob (.one x) → ∃ v w' I' ρ', Yields1 P a o w v w' ∧ Step st I ρ w d I' ρ' w' ∧ d.val.rep w' I' ρ' v :=
    fun h1 h2 h3 => pureV (s := .one _) h1 h2 h3
  unfold dl at h
  split at h
  · rename_i x ho
    split at h
    · rename_i v hv
      cases h
      exact pureV (by unfold execOp; rw [ho]; rfl) (ev_ok R hall hv) rfl
    · cases h
  · rename_i x ho
    split at h
    · rename_i v hv
      cases h
      exact pureV (by unfold execOp; rw [ho]; rfl) (ev_ok R hall hv) rfl
    · cases h
  · rename_i c x y ho
    split at h
    · rename_i v hv
      cases h
      obtain ⟨u, h1, h2⟩ := pick_ok (P := P) R hall hv
      refine pureV (v := u) ?_ h2 rfl
      unfold execOp; rw [ho]
      simp only [Sem.run_bind, Sem.run_pure] at h1 ⊢
      cases hr : (asBool (a.eval c)).run P w with
      | ok b w1 => rw [hr] at h1; simp only [Result.andThen_ok, Result.ok.injEq] at h1 ⊢; exact ⟨by rw [h1.1], h1.2⟩
      | halt b w1 => rw [hr] at h1; cases h1
    · cases h
  · rename_i t ho
    split at h
    · rename_i i hi
      exact (alloc_ok (hΓ t i hi) R.ilt h).yields (by unfold execOp; rw [ho])
    · cases h
  · rename_i t x ho
    split at h
    · rename_i v hv
      exact (box_ok (t := t) R.ilt h (evV_ok R hall hv)).yields (by unfold execOp; rw [ho])
    · cases h
  · rename_i t parts ho
    split at h
    · rename_i ps hps
      split at h
      · rename_i v hv
        cases h
        have hp := evParts_ok R hall hps
        obtain ⟨u, h1, h2⟩ := build_ok (w := w) hΓ hv (vparts := parts.map fun (i, x) => (i, a.eval x)) (by simpa using hp)
        refine pure0 (v := u) ?_ h2 rfl
        unfold execOp; rw [ho]
        simp only [Sem.run_bind, h1, Result.andThen_ok, Sem.run_pure]
      · cases h
    · cases h
  · rename_i t n parts ho
    split at h
    · rename_i ps hps
      have hp := evParts_ok R hall hps
      exact (buildSliceD_ok hΓ R.ilt h (vparts := parts.map fun (i, x) => (i, a.eval x)) (by simpa using hp)).yields (by unfold execOp; rw [ho])
    · cases h
  · rename_i t x ho
    split at h
    · rename_i i y hi hy
      split at h
      · rename_i v hv
        cases h
        obtain ⟨u, h1, h2⟩ := loadAt_ok (hΓ t i hi) R.ch hv (ev1_ok R hall hy)
        refine pure0 (v := u) ?_ h2 rfl
        unfold execOp; rw [ho]
        simp only [Sem.run_bind, h1, Result.andThen_ok, Sem.run_pure]
      · cases h
    · cases h
  · rename_i t x y ho
    split at h
    · rename_i i p v hi hp hv
      split at h
      · rename_i ck hck
        cases h
        obtain ⟨w', h1, h2⟩ := storeAt_ok (hΓ t i hi) R.ch R.out hck (ev1_ok R hall hp) (evV_ok R hall hv) (oneS .junk) []
        refine ⟨undef, w', I, ρ, .inr ⟨?_, rfl⟩, h2, trivial⟩
        unfold execOp; rw [ho]
        simp only [Sem.run_bind, h1, Result.andThen_ok, Sem.run_pure]
      · cases h
    · cases h
  · rename_i x ho
    split at h
    · rename_i y hy
      split at h
      · rename_i hn
        cases h
        have hr := ev1_ok R hall hy
        refine pureL (v := a.eval x) ?_ hr rfl
        unfold execOp; rw [ho]
        simp only
        cases y <;> simp only [notNil] at hn <;> (try cases hn)
        · obtain ⟨L, _, e⟩ := hr; rw [e]; rfl
        · obtain ⟨L, _, e, _⟩ := hr; rw [e]; rfl
        · obtain ⟨b, o', cs, el, fr, e, _⟩ := hr; rw [e]; rfl
        · obtain ⟨vs, e, _⟩ := hr; rw [e]; rfl
      · cases h
    · cases h
  · rename_i op t x y _ ho
    split at h
    · rename_i p q hp hq
      split at h
      · rename_i ob r hr
        cases h
        obtain ⟨u, h1, h2⟩ := binLeaf_ok hΓ hr hob (ev1_ok R hall hp) (ev1_ok R hall hq) x y
        refine pureL (v := u) ?_ h2 rfl
        unfold execOp; rw [ho]
        simp only [Sem.run_bind] at h1 ⊢
        rw [h1]; rfl
      · cases h
    · cases h
  · rename_i op t x ho
    split at h
    · rename_i p hp
      split at h
      · rename_i ob r hr
        cases h
        obtain ⟨u, h1, h2⟩ := unLeaf_ok (P := P) hr hob (ev1_ok R hall hp)
        refine pureL (v := u) ?_ h2 rfl
        unfold execOp; rw [ho]
        simp only [Sem.run_bind, h1, Result.andThen_ok, Sem.run_pure]
      · cases h
    · cases h
  · rename_i s t x ho
    split at h
    · rename_i p hp
      split at h
      · rename_i r hr
        cases h
        obtain ⟨u, h1, h2⟩ := convLeaf_ok hΓ hr (ev1_ok R hall hp)
        refine pureL (v := u) ?_ h2 rfl
        unfold execOp; rw [ho]
        simp only [Sem.run_bind, h1, Result.andThen_ok, Sem.run_pure]
      · cases h
    · cases h
  · rename_i f first caps ho
    split at h
    · rename_i vs hf hvs
      split at h
      · rename_i cs hcs
        cases h
        have hall2 := capsOf_ok hcs (evVs_ok R hall hvs)
        have hfirst : first = #[] := by
          apply Array.ext'; simpa using hf
        subst hfirst
        refine pureL (x := .clo f cs) (v := .func (.func f) #[] (caps.map a.eval)) ?_ ⟨_, rfl, by simpa using hall2⟩ rfl
        unfold execOp; rw [ho]
        simp [Instr.makeFunc]
      · cases h
    · cases h
  · rename_i t ho
    split at h
    · exact (makeMapD_ok R.ilt h).yields (by unfold execOp; rw [ho]; rfl)
    · cases h
  · rename_i t x y ho
    split at h
    · rename_i p q hp hq
      exact (makeSliceD_ok hΓ R.ilt h hob (ev1_ok R hall hp) (ev1_ok R hall hq)).yields (by unfold execOp; rw [ho])
    · cases h
  · rename_i t x lo hi ho
    split at h
    · rename_i p n m hp hn hm
      split at h
      · rename_i ob r hr
        cases h
        obtain ⟨u, h1, h2⟩ := cut_ok hΓ R.ch hr hob (ev1_ok R hall hp)
        refine pureL (v := u) ?_ h2 rfl
        unfold execOp; rw [ho]
        simp only [evOpt_ok R hall hn, evOpt_ok R hall hm, Option.map_none, Sem.run_bind, h1, Result.andThen_ok, Sem.run_pure]
      · cases h
    · cases h
  · rename_i s x f ho
    split at h
    · rename_i p hp
      split at h
      · rename_i r hr
        cases h
        obtain ⟨u, h1, h2⟩ := fieldAddr_ok hΓ hr (ev1_ok R hall hp)
        refine pureL (v := u) ?_ h2 rfl
        unfold execOp; rw [ho]
        simp only [Sem.run_bind, h1, Result.andThen_ok, Sem.run_pure]
      · cases h
    · cases h
  · rename_i t x f ho
    split at h
    · rename_i p hp
      split at h
      · rename_i r hr
        cases h
        obtain ⟨u, h1, h2⟩ := fieldV_ok hΓ hr (evV_ok R hall hp)
        refine pure0 (v := u) ?_ h2 rfl
        unfold execOp; rw [ho]
        simp only [Sem.run_bind, h1, Result.andThen_ok, Sem.run_pure]
      · cases h
    · cases h
  · rename_i t x i ho
    split at h
    · rename_i p k n hp hn
      split at h
      · rename_i ob r hr
        cases h
        obtain ⟨u, h1, h2⟩ := indexAddr_ok (k := k) hΓ R.ch hr hob (ev1_ok R hall hp)
        refine pureL (v := u) ?_ h2 rfl
        unfold execOp; rw [ho]
        simp only [(ev1_ok R hall hn).1, Sem.run_bind, h1, Result.andThen_ok, Sem.run_pure]
      · cases h
    · cases h
  · rename_i t x i ho
    split at h
    · rename_i p k n hp hn
      split at h
      · rename_i ob r hr
        cases h
        obtain ⟨u, h1, h2⟩ := indexV_ok (k := k) hΓ hr hob (evV_ok R hall hp)
        refine pure0 (v := u) ?_ h2 rfl
        unfold execOp; rw [ho]
        simp only [(ev1_ok R hall hn).1, Sem.run_bind, h1, Result.andThen_ok, Sem.run_pure]
      · cases h
    · cases h
  · rename_i t x k ok ho
    split at h
    · rename_i p q hp hq
      split at h
      · rename_i r hr
        cases h
        obtain ⟨u, h1, h2⟩ := lookupD_ok hΓ R.ch hr (ev1_ok R hall hp) (ev1_ok R hall hq)
        refine pureV (v := u) ?_ h2 rfl
        unfold execOp; rw [ho]
        simp only [Sem.run_bind, h1, Result.andThen_ok, Sem.run_pure]
      · cases h
    · cases h
  · rename_i t m k x ho
    split at h
    · rename_i p q v hp hq hv
      split at h
      · rename_i ck hck
        cases h
        obtain ⟨w', h1, h2⟩ := mapUpdateD_ok hΓ R.ch R.out hck (ev1_ok R hall hp) (ev1_ok R hall hq) (evV_ok R hall hv) (oneS .junk) []
        refine ⟨undef, w', I, ρ, .inr ⟨?_, rfl⟩, h2, trivial⟩
        unfold execOp; rw [ho]
        simp only [Sem.run_bind, h1, Result.andThen_ok, Sem.run_pure]
      · cases h
    · cases h
  · rename_i x n ho
    split at h
    · rename_i vs hvs
      split at h
      · rename_i v hv
        cases h
        obtain ⟨arr, he, hr⟩ := ev_ok R hall hvs
        obtain ⟨u, h1, h2⟩ := hr.get hv
        refine pure0 (v := u) ?_ h2 rfl
        unfold execOp; rw [ho]
        have h1 : arr[n]? = some u := by simpa using h1
        simp [he, Instr.extract, h1]
      · cases h
    · cases h
  · rename_i c ho
    obtain ⟨callee, args, tys⟩ := c
    split at h
    · rename_i b hb
      simp only at hb
      subst hb
      split at h
      · rename_i vs hvs
        have hargs := evVs_ok R hall hvs
        have hex := exec_builtin (a := a) ho
        have hargs' : All2 (V0.rep w I ρ) (args.map a.eval).toList vs := by simpa using hargs
        unfold builtinD at h
        split at h
        · rename_i t x ht
          split at h
          · rename_i y hy
            cases h
            generalize hav : args.map a.eval = av at *
            have hav1 : ∃ v, av = #[v] ∧ x.rep w I ρ v := by
              obtain ⟨l⟩ := av
              match l, hargs' with
              | [v], h => exact ⟨v, rfl, h.1⟩
            obtain ⟨v, rfl, hxv⟩ := hav1
            have htys : tys = #[t] := by apply Array.ext'; simpa using ht
            subst htys
            obtain ⟨u, h1, h2⟩ := len_ok hΓ R.ch hy hxv o.type
            refine pureL (v := u) ?_ h2 rfl
            rw [hex]
            simp only [builtin, Sem.run_bind, h1, Result.andThen_ok, Sem.run_pure]
          · cases h
        · rename_i t t2 x y ht
          split at h
          · generalize hav : args.map a.eval = av at *
            have hav1 : ∃ u v, av = #[u, v] ∧ x.rep w I ρ u ∧ y.rep w I ρ v := by
              obtain ⟨l⟩ := av
              match l, hargs' with
              | [u, v], h => exact ⟨u, v, rfl, h.1, h.2.1⟩
            obtain ⟨u, v, rfl, hxu, hyv⟩ := hav1
            have htys : tys = #[t, t2] := by apply Array.ext'; simpa using ht
            subst htys
            have hg := appendD_ok (ty := o.type) hΓ R.ch R.out R.ilt h hob hxu hyv
            exact hg.yields (by rw [hex]; rfl)
          · cases h
        · split at h
          · rename_i x xs hl
            split at h
            · rename_i y hy
              cases h
              have hall3 := leafs1_ok hl hargs'
              generalize hav : (args.map a.eval).toList = av at *
              match av, hall3 with
              | v :: vs', h3 =>
                obtain ⟨u, h1, h2⟩ := minLeafs_ok (P := P) (bg := false) hy h3.1 h3.2
                refine pureL (v := u) ?_ h2 rfl
                rw [hex]
                simp only [Bool.false_eq_true, if_false] at h1
                simp only [builtin, Builtin.min_, hav, Sem.run_bind, h1, Result.andThen_ok, Sem.run_pure]
            · cases h
          · cases h
        · split at h
          · rename_i x xs hl
            split at h
            · rename_i y hy
              cases h
              have hall3 := leafs1_ok hl hargs'
              generalize hav : (args.map a.eval).toList = av at *
              match av, hall3 with
              | v :: vs', h3 =>
                obtain ⟨u, h1, h2⟩ := minLeafs_ok (P := P) (bg := true) hy h3.1 h3.2
                refine pureL (v := u) ?_ h2 rfl
                rw [hex]
                simp only [if_true] at h1
                simp only [builtin, Builtin.max_, hav, Sem.run_bind, h1, Result.andThen_ok, Sem.run_pure]
            · cases h
          · cases h
        · cases h
      · cases h
    · cases h
  · cases h

end
end Go.Sx
