/- Conditions for code. Tri: what a piece of code does from a symbolic state; rules for it; vc: the condition of straight code, by computation. FnOK.intro: a contract from a body. Conditions: the table of types is true of the program. -/
import Derived.Test.YthilnjignhopkaaSxVc
set_option linter.unusedSimpArgs false
set_option linter.unusedVariables false
namespace Go.Sx
open Go

/-! ### What is known of pure values in any state -/

def Ty.wf : (T : Ty) → T.den → Prop
  | .int k, n => inR k n
  | .bool, _ => True
  | .str, s => s.size ≤ big
  | .unit, _ => True
  | .prod a b, x => a.wf x.1 ∧ b.wf x.2
  | .sl e, l => l.length ≤ big ∧ ∀ x ∈ l, e.wf x

theorem Ty.wf_of_rep {w : World} {I : Nat → Prop} : ∀ (T : Ty) {cs : List Value} {x : T.den}, T.rep w I cs x → T.wf x
  | .int _, _, _, h => h.2
  | .bool, _, _, _ => trivial
  | .str, _, _, h => h.2
  | .unit, _, _, _ => trivial
  | .prod a b, _, _, ⟨_, _, _, p, q⟩ => ⟨Ty.wf_of_rep a p, Ty.wf_of_rep b q⟩
  | .sl e, _, l, ⟨ad, cap, h1, h2, h3, h4⟩ => by
    refine ⟨h3, fun x hx => ?_⟩
    cases ad with
    | none => rw [h4.1] at hx; simp at hx
    | some p =>
      rcases h4.2 with h5 | ⟨_, c, el, fr, _, _, h6⟩
      · rw [h5] at hx; simp at hx
      · obtain ⟨i, hi⟩ := List.mem_iff_getElem?.1 hx
        exact Ty.wf_of_rep e (h6 i x hi)

def Leaf.wf : Leaf → Prop
  | .int k n => inR k n
  | .str s => s.size ≤ big
  | .isl e l => (Ty.sl e).wf l
  | .iptr T x _ => T.wf x
  | _ => True

def leafsWf : List Leaf → Prop
  | [] => True
  | x :: xs => x.wf ∧ leafsWf xs

def V0.wf : V0 → Prop
  | .cell x => x.wf
  | .agg xs => leafsWf xs

def v0sWf : List V0 → Prop
  | [] => True
  | x :: xs => x.wf ∧ v0sWf xs

def SV.wf : SV → Prop
  | .one x => x.wf
  | .tup xs => v0sWf xs

def Chunk.wf : Chunk → Prop
  | .cells ls => leafsWf ls
  | .arr e l => l.length ≤ big ∧ ∀ x ∈ l, e.wf x
  | .mp k e _ l => ∀ p ∈ l, k.wf p.1 ∧ e.wf p.2

def heapWf (hs : List (Nat × Chunk)) : Prop := ∀ c k, hp hs c = some k → k.wf

def tsWf : List (Nat × SV) → Prop
  | [] => True
  | (_, v) :: r => v.wf ∧ tsWf r

section
variable {w : World} {I : Nat → Prop} {ρ : Rho}

theorem Leaf.wf_of_rep {v : Value} {x : Leaf} (h : x.rep w I ρ v) : x.wf := by
  cases x <;> simp only [Leaf.wf] <;> (try trivial)
  case int k n => exact h.2
  case str s => exact h.2
  case isl e l => exact Ty.wf_of_rep (.sl e) h
  case iptr T x sub => obtain ⟨_, _, _, _, _, _, _, _, _, k⟩ := h; exact Ty.wf_of_rep T k

theorem leafsWf_of_rep : ∀ {vs : List Value} {xs : List Leaf}, All2 (Leaf.rep w I ρ) vs xs → leafsWf xs
  | [], [], _ => trivial
  | _ :: _, _ :: _, h => ⟨Leaf.wf_of_rep h.1, leafsWf_of_rep h.2⟩
  | [], _ :: _, h => h.elim
  | _ :: _, [], h => h.elim

theorem V0.wf_of_rep {v : Value} {x : V0} (h : x.rep w I ρ v) : x.wf := by
  cases x with
  | cell x => exact Leaf.wf_of_rep h
  | agg xs => obtain ⟨_, _, h⟩ := h; exact leafsWf_of_rep h

theorem v0sWf_of_rep : ∀ {vs : List Value} {xs : List V0}, All2 (V0.rep w I ρ) vs xs → v0sWf xs
  | [], [], _ => trivial
  | _ :: _, _ :: _, h => ⟨V0.wf_of_rep h.1, v0sWf_of_rep h.2⟩
  | [], _ :: _, h => h.elim
  | _ :: _, [], h => h.elim

theorem SV.wf_of_rep {v : Value} {x : SV} (h : x.rep w I ρ v) : x.wf := by
  cases x with
  | one x => exact V0.wf_of_rep h
  | tup xs => obtain ⟨_, _, h⟩ := h; exact v0sWf_of_rep h

theorem Chunk.wf_of_rep {loc : Option Loc} {k : Chunk} (h : k.rep w I ρ loc) : k.wf := by
  cases k with
  | cells ls => obtain ⟨_, _, _, _, _, _, h⟩ := h; exact leafsWf_of_rep (h.mono fun _ _ k => k.2)
  | arr e l =>
    cases loc with
    | none => rw [show l = [] from h]; exact ⟨Nat.zero_le _, by simp⟩
    | some L =>
      obtain ⟨_, _, _, hb, cs, el, _, _, hall, _⟩ := h
      refine ⟨hb, fun x hx => ?_⟩
      obtain ⟨i, hi⟩ := List.mem_iff_getElem?.1 hx
      exact Ty.wf_of_rep e (hall i x hi)
  | mp k e ea l =>
    obtain ⟨_, _, _, _, _, h⟩ := h
    intro p hp
    obtain ⟨i, hi⟩ := List.mem_iff_getElem?.1 hp
    obtain ⟨m, _, h1, h2⟩ := h.get hi
    refine ⟨Ty.wf_of_rep k h1, ?_⟩
    cases ea with
    | true => obtain ⟨_, _, h3⟩ := h2; exact Ty.wf_of_rep e h3
    | false => exact Ty.wf_of_rep e h2

end

/-! ### One region -/

def sxLs (st : Sym) (ops : Array Oper) (o : Oper) : Option (List (Nat × Bool)) :=
  match o.guard with
  | none => some []
  | some (j, want) =>
    match ops[j]? with
    | some oj =>
      match oj.dst with
      | some d =>
        match (st.t d).v with
        | .one (.cell (.bool _)) => some ((d, want) :: (st.t d).g)
        | _ => none
      | none => none
    | none => none

def dstOk (st : Sym) (dst : Option Nat) (ls : List (Nat × Bool)) : Bool :=
  match dst with
  | none => true
  | some d =>
    match Nat.blt d st.n, st.gs d with
    | true, false => ls.all (fun l => !(Nat.beq l.1 d))
    | _, _ => false

def gOne (v : SV) (want : Bool) (p : Prop) : Prop :=
  match v with
  | .one (.cell (.bool b)) =>
    match want with
    | true => b = true → p
    | false => b = false → p
  | _ => True

def gImp (st : Sym) : List (Nat × Bool) → Prop → Prop
  | [], p => p
  | l :: ls, p => gOne (st.t l.1).v l.2 (gImp st ls p)

theorem gOne_iff (st : Sym) (l : Nat × Bool) (p : Prop) : gOne (st.t l.1).v l.2 p ↔ (st.cond l = true → p) := by
  obtain ⟨t, want⟩ := l
  unfold gOne Sym.cond
  simp only
  cases h : (st.t t).v with
  | tup vs => simp
  | one v =>
    cases v with
    | agg xs => simp
    | cell x => cases x <;> cases want <;> simp

def conj : List Prop → Prop
  | [] => True
  | [p] => p
  | p :: ps => p ∧ conj ps

/-- What an operation asks, and what is to be shown behind it. -/
structure Ob (p K : Prop) : Prop where
  ob : p
  go : K

def thenK (ob : List Prop) (g : Prop → Prop) (K : Prop) : Prop :=
  match ob with
  | [] => K
  | _ => Ob (g (conj ob)) K

def idOf : Option Nat → Nat
  | some d => d + 100
  | none => 0

def okGuard (ls : List (Nat × Bool)) (d : Delta) : Bool :=
  match ls, d.upd, d.kill with
  | [], _, _ => true
  | _, none, [] => true
  | _, _, _ => false

def noGuard : List (Nat × Bool) → Bool
  | [] => true
  | _ => false

def capArgs (caps : List Nat) : List V0 := caps.map fun c => .cell (.ref c 0)

/-- A call of a Go function: which one, and its arguments. -/
def goCall (st : Sym) (ls : List (Nat × Bool)) : Op → Option (Nat × List V0)
  | .call c =>
    match c.callee with
    | .value fv =>
      match st.ev1 ls fv, st.evVs ls c.args.toList with
      | some (.clo f caps), some vs => some (f, vs ++ capArgs caps)
      | _, _ => none
    | _ => none
  | _ => none

/-- A function with a body of its own. -/
def IsFn (P : Program) (f : Nat) : Prop := ∃ fn, P.funcs[f]? = some fn ∧ (fn.name == "runtime.NumGoroutine") = false ∧ fn.body.isNone = false

/-- Quiet: the chunks are as they were, and the result is r. -/
def Quiet (P : Program) (f : Nat) (args : List V0) (hs : List (Nat × Chunk)) (r : SV) : Prop := FnOK P f args hs [] (fun r' hs' => r' = r ∧ hs' = hs)

def callK (P : Program) (st : Sym) (ls : List (Nat × Bool)) (dst : Option Nat) (f : Nat) (vs : List V0) (K : Sym → Prop) : Prop :=
  IsFn P f ∧
  ((∃ hs r, gImp st ls (Quiet P f vs hs r) ∧ hmatch st hs ∧ (gImp st ls r.wf → K (st.apply dst ls ⟨[], r, none, []⟩))) ∨
   (ls = [] ∧ ∃ hs mv Q, FnOK P f vs hs mv Q ∧ hmatch st hs ∧ ∀ r hs', Q r hs' → r.wf → heapWf hs' → K (callSt st dst [] r hs hs' mv)))

/-! Forcing: x.frc K is K x, but for that reckoning comes to a constructor first. -/

def Leaf.frc (x : Leaf) (K : Leaf → Prop) : Prop :=
  match x with
  | .junk => K .junk
  | .int k n => K (.int k n)
  | .bool b => K (.bool b)
  | .str s => K (.str s)
  | .isl e l => K (.isl e l)
  | .nilsl => K .nilsl
  | .nilptr => K .nilptr
  | .nilmap => K .nilmap
  | .nilfn => K .nilfn
  | .niliface => K .niliface
  | .ref c off => K (.ref c off)
  | .eref c i sub => K (.eref c i sub)
  | .iptr T x sub => K (.iptr T x sub)
  | .vec c => K (.vec c)
  | .slc c off len => K (.slc c off len)
  | .mapr c => K (.mapr c)
  | .clo f caps => K (.clo f caps)
  | .cb p q => K (.cb p q)
  | .ex e p => K (.ex e p)

def leafsFrc : List Leaf → (List Leaf → Prop) → Prop
  | [], K => K []
  | x :: xs, K => x.frc fun x' => leafsFrc xs fun xs' => K (x' :: xs')

def V0.frc (x : V0) (K : V0 → Prop) : Prop :=
  match x with
  | .cell y => y.frc fun y' => K (.cell y')
  | .agg ys => leafsFrc ys fun ys' => K (.agg ys')

def v0sFrc : List V0 → (List V0 → Prop) → Prop
  | [], K => K []
  | x :: xs, K => x.frc fun x' => v0sFrc xs fun xs' => K (x' :: xs')

def SV.frc (x : SV) (K : SV → Prop) : Prop :=
  match x with
  | .one y => y.frc fun y' => K (.one y')
  | .tup ys => v0sFrc ys fun ys' => K (.tup ys')

def Chunk.frc (x : Chunk) (K : Chunk → Prop) : Prop :=
  match x with
  | .cells ls => leafsFrc ls fun ls' => K (.cells ls')
  | .arr e l => K (.arr e l)
  | .mp k e ea l => K (.mp k e ea l)

def lsFrc : List (Nat × Bool) → (List (Nat × Bool) → Prop) → Prop
  | [], K => K []
  | (a, b) :: r, K => lsFrc r fun r' => K ((a, b) :: r')

def Delta.frc (d : Delta) (K : Delta → Prop) : Prop :=
  match d with
  | ⟨ob, v, u, kl⟩ => v.frc fun v' =>
    match u with
    | none => K ⟨ob, v', none, kl⟩
    | some (c, k) => k.frc fun k' => K ⟨ob, v', some (c, k'), kl⟩

theorem Leaf.frc_eq (x : Leaf) (K : Leaf → Prop) : x.frc K = K x := by cases x <;> rfl
theorem leafsFrc_eq : ∀ (xs : List Leaf) (K : List Leaf → Prop), leafsFrc xs K = K xs
  | [], _ => rfl
  | x :: xs, K => by simp only [leafsFrc, Leaf.frc_eq]; exact leafsFrc_eq xs _
theorem V0.frc_eq (x : V0) (K : V0 → Prop) : x.frc K = K x := by
  cases x with
  | cell x => exact Leaf.frc_eq x (fun y => K (.cell y))
  | agg xs => exact leafsFrc_eq xs (fun y => K (.agg y))
theorem v0sFrc_eq : ∀ (xs : List V0) (K : List V0 → Prop), v0sFrc xs K = K xs
  | [], _ => rfl
  | x :: xs, K => by simp only [v0sFrc, V0.frc_eq]; exact v0sFrc_eq xs _
theorem SV.frc_eq (x : SV) (K : SV → Prop) : x.frc K = K x := by
  cases x with
  | one x => exact V0.frc_eq x (fun y => K (.one y))
  | tup xs => exact v0sFrc_eq xs (fun y => K (.tup y))
theorem Chunk.frc_eq (x : Chunk) (K : Chunk → Prop) : x.frc K = K x := by
  cases x with
  | cells ls => exact leafsFrc_eq ls (fun y => K (.cells y))
  | arr e l => rfl
  | mp k e ea l => rfl
theorem lsFrc_eq : ∀ (l : List (Nat × Bool)) (K : List (Nat × Bool) → Prop), lsFrc l K = K l
  | [], _ => rfl
  | (a, b) :: r, K => by simp only [lsFrc]; exact lsFrc_eq r _
theorem Delta.frc_eq (d : Delta) (K : Delta → Prop) : d.frc K = K d := by
  obtain ⟨ob, v, u, kl⟩ := d
  unfold Delta.frc
  simp only [SV.frc_eq]
  cases u with
  | none => rfl
  | some p => obtain ⟨c, k⟩ := p; exact Chunk.frc_eq k _

def sxOps (P : Program) (Γ : Gam) (ops : Array Oper) : List Oper → Sym → (Sym → Prop) → Prop
  | [], st, K => K st
  | o :: rest, st, K =>
    match sxLs st ops o with
    | none => False
    | some ls =>
      match dstOk st o.dst ls with
      | false => False
      | true =>
        match goCall st ls o.op with
        | some (f, vs) => callK P st ls o.dst f vs (fun st' => sxOps P Γ ops rest st' K)
        | none =>
          match dl Γ st ls (noGuard ls) (idOf o.dst) o.op with
          | none => False
          | some d =>
            match okGuard ls d with
            | false => False
            | true => thenK d.ob (gImp st ls) (d.frc fun d => lsFrc ls fun ls => sxOps P Γ ops rest (st.apply o.dst ls d) K)

section
variable {P : Program} {Γ : Gam} {B0 I0 : Nat → Prop} {w0 : World} {ρ0 : Rho} {st : Sym} {w w' : World} {I I' : Nat → Prop} {ρ ρ' : Rho} {a : Act} {ls : List (Nat × Bool)}

theorem gImp_all : ∀ {ls : List (Nat × Bool)} {p : Prop}, gImp st ls p → st.all ls → p
  | [], _, h, _ => h
  | l :: ls, _, h, k => gImp_all ((gOne_iff st l _).1 h (k l (by simp))) (fun l' hl => k l' (by simp [hl]))

theorem gImp_of : ∀ {ls : List (Nat × Bool)} {p : Prop}, (st.all ls → p) → gImp st ls p
  | [], _, h => h (fun l hl => by simp at hl)
  | l :: ls, _, h => (gOne_iff st l _).2 fun hl => gImp_of fun k => h fun l' hl' => by
    rcases List.mem_cons.1 hl' with e | e
    · rw [e]; exact hl
    · exact k l' e

theorem conj_all : ∀ {ps : List Prop}, conj ps → ∀ p ∈ ps, p
  | [], _, p, hp => by simp at hp
  | [q], h, p, hp => by simp only [List.mem_singleton] at hp; rw [hp]; exact h
  | q :: r :: ps, h, p, hp => by
    rcases List.mem_cons.1 hp with e | e
    · rw [e]; exact h.1
    · exact conj_all h.2 p e

theorem wanted_ok (R : Rel B0 I0 w0 ρ0 st I ρ a w) {ops : Array Oper} {o : Oper} (h : sxLs st ops o = some ls) : Region.wanted o (yielded ops a.tmps) = true ↔ st.all ls := by
  unfold sxLs at h
  split at h
  · rename_i hg
    cases h
    simp only [Region.wanted, hg]
    exact ⟨fun _ l hl => by simp at hl, fun _ => trivial⟩
  · rename_i j want hg
    split at h
    · rename_i oj hj
      split at h
      · rename_i d hd
        split at h
        · rename_i b hb
          cases h
          have ht := R.tm d
          simp only [Region.wanted, hg, yielded, hj, Option.bind_some, hd]
          by_cases hall : st.all (st.t d).g
          · have hv := ht.1 hall
            rw [hb] at hv
            have hv : a.tmps.getD d undef = .bool b := hv
            have hget : a.tmps[d]? = some (.bool b) := by
              rw [Array.getD_eq_getD_getElem?] at hv
              cases hq : a.tmps[d]? with
              | none => rw [hq] at hv; cases hv
              | some x => rw [hq] at hv; simp only [Option.getD_some] at hv; rw [hv]
            rw [hget]
            constructor
            · intro h l hl
              rcases List.mem_cons.1 hl with e | e
              · rw [e]; simpa [Sym.cond, hb] using h
              · exact hall l e
            · intro h
              have := h (d, want) (by simp)
              simpa [Sym.cond, hb] using this
          · have hv := ht.2 hall
            have hget : ∀ b', a.tmps[d]? ≠ some (.bool b') := by
              intro b' hq
              rw [Array.getD_eq_getD_getElem?, hq] at hv
              cases hv
            constructor
            · intro h
              split at h
              · rename_i b' hq; exact absurd hq (hget b')
              · simp at h
            · intro h
              exact absurd (fun l hl => h l (by simp [hl])) hall
        · cases h
      · cases h
    · cases h

theorem dstOk_ok {dst : Option Nat} (h : dstOk st dst ls = true) : ∀ u, dst = some u → u < st.n ∧ st.gs u = false ∧ ∀ l ∈ ls, l.1 ≠ u := by
  intro u hu
  subst hu
  unfold dstOk at h
  simp only at h
  split at h
  · rename_i h1 h2
    simp only [List.all_eq_true] at h
    exact ⟨Nat.le_of_ble_eq_true h1, h2, fun l hl e => by
      have := h l hl
      rw [e] at this
      simp at this⟩
  · cases h

theorem Rel.heap (R : Rel B0 I0 w0 ρ0 st I ρ a w) : HRel B0 I0 w0 st.h I ρ w :=
  ⟨R.ch, R.sep, R.out, R.ilt, R.own, R.imm, R.im0, R.fr, R.os, R.tape, R.output, R.size⟩

theorem newKeys_self {hs : List (Nat × Chunk)} : ∀ {r : List (Nat × Chunk)}, (∀ c, hasKey r c = true → hasKey hs c = true) → newKeys hs r = []
  | [], _ => rfl
  | (d, k) :: r, h => by
    unfold newKeys
    have h1 : hasKey hs d = true := h d (by simp [hasKey, hp])
    rw [h1]
    refine newKeys_self fun c hc => h c ?_
    unfold hasKey hp
    cases hb : Nat.beq d c with
    | true => rfl
    | false => exact hc

theorem killed_nil (x : Chunk) : Chunk.killed [] x = x := rfl

theorem callSt_quiet {hs : List (Nat × Chunk)} (hm : hmatch st hs) (dst : Option Nat) (ls : List (Nat × Bool)) (r : SV) : callSt st dst ls r hs hs [] = st.apply dst ls ⟨[], r, none, []⟩ := by
  have hk : newKeys hs hs = [] := newKeys_self fun c h => h
  unfold callSt Sym.apply
  rw [hk]
  simp only [List.append_nil]
  congr 1
  funext c
  unfold callH
  have hmap : (st.h c).map (Chunk.killed []) = st.h c := by cases st.h c <;> rfl
  cases hq : hp hs c with
  | some k => simp only [hmatch_ok hm c k hq, Option.map_some, killed_nil]
  | none =>
    have : hasKey hs c = false := by simp [hasKey, hq]
    rw [this]

theorem exec_call {o : Oper} {c : Call} (ho : o.op = .call c) {fv : Operand} (hc : c.callee = .value fv) {f : Nat} {caps : Array Value} (hf : a.eval fv = .func (.func f) #[] caps) (hfn : IsFn P f) :
    (execOp a.eval o).run P w = .ok (.enter f (c.args.map a.eval ++ caps)) w := by
  obtain ⟨fn, h1, h2, h3⟩ := hfn
  have h2 : fn.name ≠ "runtime.NumGoroutine" := by simpa using h2
  have h3 : fn.body ≠ none := fun e => by rw [e] at h3; simp at h3
  unfold execOp
  rw [ho]
  simp [resolve, hc, Deferred.ofValue, hf, invoke, callFunc, h1, h2, h3]

theorem capArgs_rep : ∀ {caps : List Nat} {vs : List Value}, All2 (fun v c => ∃ L, ρ c = some L ∧ v = .pointer (some ⟨L.b, L.base, none⟩)) vs caps → All2 (V0.rep w I ρ) vs (capArgs caps)
  | [], [], _ => trivial
  | _ :: _, _ :: _, ⟨⟨L, h1, h2⟩, k⟩ => ⟨⟨L, h1, h2⟩, capArgs_rep k⟩
  | [], _ :: _, h => h.elim
  | _ :: _, [], h => h.elim

/-- A region's operations, one after the other. -/
theorem sxOps_ok (hΓ : Γ.ok P) {ops : Array Oper} {Q : Exit → Act → World → Prop} : ∀ {l : List Oper} {st : Sym} {I : Nat → Prop} {ρ : Rho} {a : Act} {w : World} {K : Sym → Prop}, sxOps P Γ ops l st K → Rel B0 I0 w0 ρ0 st I ρ a w →
    (∀ st' I' ρ' a' w', K st' → Rel B0 I0 w0 ρ0 st' I' ρ' a' w' → Q .normal a' w') → wpList P ops Q l a w
  | [], st, I, ρ, a, w, K, h, R, hK => hK _ _ _ _ _ h R
  | o :: rest, st, I, ρ, a, w, K, h, R, hK => by
    unfold sxOps at h
    simp only [Delta.frc_eq, lsFrc_eq] at h
    split at h
    · exact h.elim
    · rename_i ls hls
      split at h
      · exact h.elim
      · rename_i hdst
        have hd := dstOk_ok hdst
        have hw := wanted_ok R hls
        -- what happens where the operation is not wanted
        have skip : ∀ (d : Delta), okGuard ls d = true → ¬ st.all ls → sxOps P Γ ops rest (st.apply o.dst ls d) K → wpList P ops Q rest (a.put o.dst undef) w := by
          intro d hok hnall hrest
          have hls : ls ≠ [] := fun e => hnall (by rw [e]; intro l hl; simp at hl)
          have hdu : d = ⟨d.ob, d.val, none, []⟩ := by
            unfold okGuard at hok
            split at hok
            · exact absurd rfl hls
            · rename_i h1 h2; cases d; simp_all
            · cases hok
          rw [hdu] at hrest
          exact sxOps_ok hΓ hrest (R.step (Step.pure st I ρ w d.ob d.val) o.dst ls undef hd (fun h => absurd h hnall) (fun _ => rfl)) hK
        unfold wpList
        split at h
        · rename_i f vs hgc
          -- a call
          obtain ⟨hfn, h⟩ := h
          unfold goCall at hgc
          split at hgc
          · rename_i cc ho
            split at hgc
            · rename_i fv hcal
              split at hgc
              · rename_i f' caps vs' hfv hvs
                simp only [Option.some.injEq, Prod.mk.injEq] at hgc
                obtain ⟨rfl, rfl⟩ := hgc
                have enter : ∀ (hall : st.all ls) {hs : List (Nat × Chunk)} {mv : List Nat} {Qf : SV → List (Nat × Chunk) → Prop}, FnOK P f' (vs' ++ capArgs caps) hs mv Qf → hmatch st hs →
                    (∀ r hs', Qf r hs' → r.wf → heapWf hs' → ∀ I' ρ' a' w', Rel B0 I0 w0 ρ0 (callSt st o.dst ls r hs hs' mv) I' ρ' a' w' → wpList P ops Q rest a' w') → o.wp P a w (wpList P ops Q rest) Q := by
                  intro hall hs mv Qf hF hm hcont
                  obtain ⟨cv, hcv, hcaps⟩ := ev1_ok R hall hfv
                  unfold Oper.wp
                  rw [exec_call ho hcal hcv hfn]
                  simp only [Oper.upon]
                  have hargs := evVs_ok R hall hvs
                  have hmk := hmatch_ok hm
                  refine (hF I ρ w (cc.args.map a.eval ++ cv) ?_ (fun c k hk => R.ch c k (hmk c k hk)) (fun c d k k' L M hk hk' => R.sep c d k k' L M (hmk c k hk) (hmk d k' hk')) (fun c k L hk => R.out c k L (hmk c k hk)) R.ilt).mono ?_
                  · simpa using hargs.app (capArgs_rep hcaps)
                  · rintro e w' ⟨v, r, hs', I', ρ', rfl, hq, hrc, hhc, hr, H, hst⟩
                    obtain ⟨ρ'', R'⟩ := R.call hm H hst hr hrc hhc o.dst ls hd hall
                    have hwf : heapWf hs' := fun c k hck => Chunk.wf_of_rep (H.ch c k hck)
                    exact hcont r hs' hq (SV.wf_of_rep hr) hwf I' ρ'' _ w' R'
                rcases h with ⟨hs, r, hq, hm, hrest⟩ | ⟨hls0, hs, mv, Qf, hF, hm, hrest⟩
                · by_cases hall : st.all ls
                  · rw [if_pos (hw.2 hall)]
                    refine .inl (enter hall (gImp_all hq hall) hm ?_)
                    rintro r' hs' ⟨rfl, rfl⟩ hwf _ I' ρ' a' w' R'
                    rw [callSt_quiet hm] at R'
                    exact sxOps_ok hΓ (hrest (gImp_of fun _ => hwf)) R' hK
                  · rw [if_neg (fun e => hall (hw.1 e))]
                    refine skip ⟨[], r, none, []⟩ ?_ hall (hrest (gImp_of fun k => absurd k hall))
                    unfold okGuard
                    split <;> simp_all
                · subst hls0
                  have hall : st.all [] := fun l hl => by simp at hl
                  rw [if_pos (hw.2 hall)]
                  refine .inl (enter hall hF hm ?_)
                  intro r hs' hq hwf hhwf I' ρ' a' w' R'
                  exact sxOps_ok hΓ (hrest r hs' hq hwf hhwf) R' hK
              · cases hgc
            · cases hgc
          · cases hgc
        · split at h
          · exact h.elim
          · rename_i d hdl
            split at h
            · exact h.elim
            · rename_i hok
              by_cases hall : st.all ls
              · rw [if_pos (hw.2 hall)]
                have hob : (∀ p ∈ d.ob, p) ∧ sxOps P Γ ops rest (st.apply o.dst ls d) K := by
                  unfold thenK at h
                  split at h
                  · rename_i hob
                    exact ⟨by rw [hob]; simp, h⟩
                  · exact ⟨conj_all (gImp_all h.ob hall), h.go⟩
                obtain ⟨v, w', I', ρ', hy, hS, hr⟩ := dl_ok hΓ R hall hdl hob.1
                have R' := R.step hS o.dst ls v hd (fun _ => hr) (fun h => absurd hall h)
                left
                unfold Oper.wp
                rcases hy with hy | ⟨hy, rfl⟩
                · rw [hy]; exact sxOps_ok hΓ hob.2 R' hK
                · rw [hy]; exact sxOps_ok hΓ hob.2 R' hK
              · rw [if_neg (fun e => hall (hw.1 e))]
                refine skip d hok hall ?_
                unfold thenK at h
                split at h
                · exact h
                · exact h.go

/-- A call that leaves the chunks as they were. -/
theorem callQ {dst : Option Nat} {f : Nat} {vs : List V0} {K : Sym → Prop} {hs : List (Nat × Chunk)} {r : SV} (hf : IsFn P f) (hq : gImp st ls (Quiet P f vs hs r)) (hm : hmatch st hs) (h : K (st.apply dst ls ⟨[], r, none, []⟩)) :
    callK P st ls dst f vs K := ⟨hf, .inl ⟨hs, r, hq, hm, fun _ => h⟩⟩

/-- The same, what is known of the result in hand. -/
theorem callQ' {dst : Option Nat} {f : Nat} {vs : List V0} {K : Sym → Prop} {hs : List (Nat × Chunk)} {r : SV} (hf : IsFn P f) (hq : gImp st ls (Quiet P f vs hs r)) (hm : hmatch st hs) (h : gImp st ls r.wf → K (st.apply dst ls ⟨[], r, none, []⟩)) :
    callK P st ls dst f vs K := ⟨hf, .inl ⟨hs, r, hq, hm, h⟩⟩

/-- A call that changes chunks. -/
theorem callF {dst : Option Nat} {f : Nat} {vs : List V0} {K : Sym → Prop} {hs : List (Nat × Chunk)} {mv : List Nat} {Q : SV → List (Nat × Chunk) → Prop} (hf : IsFn P f) (hF : FnOK P f vs hs mv Q) (hm : hmatch st hs)
    (h : ∀ r hs', Q r hs' → r.wf → heapWf hs' → K (callSt st dst [] r hs hs' mv)) : callK P st [] dst f vs K := ⟨hf, .inr ⟨rfl, hs, mv, Q, hF, hm, h⟩⟩

end
attribute [irreducible] callK
end Go.Sx
