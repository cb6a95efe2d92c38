/- Triples over symbolic states, their rules, the computed condition of straight code (vc), and a contract from a body (FnOK.intro). Conditions: the table of types is true of the program. -/
import Derived.Test.YthilnjignhopkaaSxRun
import Derived.Scope
set_option linter.unusedSimpArgs false
set_option linter.unusedVariables false
namespace Go.Sx
open Go

/-- From a state of which st speaks truly, the code ends so that Q holds of how it ends and of a symbolic state that then speaks truly. -/
def Tri (P : Program) (c : Code) (st : Sym) (Q : Exit → Sym → Prop) : Prop :=
  ∀ (B0 I0 : Nat → Prop) (w0 : World) (ρ0 : Rho) (I : Nat → Prop) (ρ : Rho) (a : Act) (w : World), Rel B0 I0 w0 ρ0 st I ρ a w →
    c.wp P (fun e a' w' => ∃ st' I' ρ', Q e st' ∧ Rel B0 I0 w0 ρ0 st' I' ρ' a' w') a w

def thenQ (N : Sym → Prop) (Q : Exit → Sym → Prop) : Exit → Sym → Prop
  | .normal, st => N st
  | e, st => Q e st

def blockQ (id : Nat) (Q : Exit → Sym → Prop) : Exit → Sym → Prop
  | .exit id', st =>
    match Nat.beq id' id with
    | true => Q .normal st
    | false => Q (.exit id') st
  | e, st => Q e st

/-- A state that is written out: temporaries, chunks. -/
def lookT : List (Nat × SV) → Nat → SV
  | [], _ => oneS .junk
  | (u, v) :: ts, t =>
    match Nat.beq u t with
    | true => v
    | false => lookT ts t

def mkS (n : Nat) (ts : List (Nat × SV)) (hs : List (Nat × Chunk)) (mv : List Nat) : Sym where
  n := n
  t := fun t => ⟨[], lookT ts t⟩
  h := hp hs
  gs := fun _ => false
  mv := mv

/-- Some temporaries of a state. -/
def tmatch (st : Sym) : List (Nat × SV) → Prop
  | [] => True
  | (t, v) :: r => st.t t = ⟨[], v⟩ ∧ tmatch st r

def subN (k m : List Nat) : Bool := k.all (fun c => m.any (Nat.beq c))

def tsAll (ts : List (Nat × SV)) : Prop := ∀ p ∈ ts, p.2.wf

section
variable {P : Program} {Γ : Gam} {B0 I0 : Nat → Prop} {w0 : World} {ρ0 : Rho} {st : Sym} {w w' : World} {I I' : Nat → Prop} {ρ ρ' : Rho} {a : Act} {Q : Exit → Sym → Prop}

theorem tmatch_look : ∀ {ts : List (Nat × SV)} (_ : tmatch st ts) (t : Nat), lookT ts t = oneS .junk ∨ st.t t = ⟨[], lookT ts t⟩
  | [], _, _ => .inl rfl
  | (u, v) :: r, h, t => by
    unfold lookT
    split
    · rename_i hb
      have e := Nat.eq_of_beq_eq_true hb
      subst e
      exact .inr h.1
    · exact tmatch_look h.2 t

theorem Rel.weaken (R : Rel B0 I0 w0 ρ0 st I ρ a w) {ts : List (Nat × SV)} {hs : List (Nat × Chunk)} {mv : List Nat} (h1 : tmatch st ts) (h2 : hmatch st hs) (h3 : subN st.mv mv = true) :
    Rel B0 I0 w0 ρ0 (mkS st.n ts hs mv) I ρ a w := by
  have hk := hmatch_ok h2
  refine ⟨?_, fun c k h => R.ch c k (hk c k h), fun c d k k' L M h h' => R.sep c d k k' L M (hk c k h) (hk d k' h'), fun c k L h => R.out c k L (hk c k h), R.ilt, ?_, R.sz, R.df, ?_,
    fun c k L h => R.own c k L (hk c k h), R.imm, R.im0, R.fr, R.os, R.tape, R.output, R.size⟩
  · intro t
    refine ⟨fun _ => ?_, fun h => absurd (fun l hl => by simp [mkS] at hl) h⟩
    simp only [mkS]
    rcases tmatch_look h1 t with e | e
    · rw [e]; exact trivial
    · have ht := R.tm t
      rw [e] at ht
      exact ht.1 (fun l hl => by simp at hl)
  · intro t l hl
    simp [mkS] at hl
  · intro c hc hn
    refine R.stab c hc fun hm => hn ?_
    simp only [subN, List.all_eq_true, List.any_eq_true] at h3
    obtain ⟨x, hx, he⟩ := h3 c hm
    rw [Nat.eq_of_beq_eq_true he]
    exact hx

/-- What is known of the values of a state that is written out. -/
theorem Rel.wf (R : Rel B0 I0 w0 ρ0 st I ρ a w) {ts : List (Nat × SV)} {hs : List (Nat × Chunk)} (h1 : tmatch st ts) (h2 : hmatch st hs) : tsAll ts ∧ heapWf hs := by
  refine ⟨?_, fun c k hc => Chunk.wf_of_rep (R.ch c k (hmatch_ok h2 c k hc))⟩
  intro p hp
  clear h2
  induction ts with
  | nil => simp at hp
  | cons q ts ih =>
    obtain ⟨t, v⟩ := q
    rcases List.mem_cons.1 hp with e | e
    · subst e
      have ht := R.tm t
      rw [h1.1] at ht
      exact SV.wf_of_rep (ht.1 (fun l hl => by simp at hl))
    · exact ih h1.2 e

theorem Tri.mono {c : Code} {Q' : Exit → Sym → Prop} (h : Tri P c st Q) (hq : ∀ e st', Q e st' → Q' e st') : Tri P c st Q' :=
  fun B0 I0 w0 ρ0 I ρ a w R => Code.wp_mono (fun e a w ⟨st', I', ρ', q, r⟩ => ⟨st', I', ρ', hq e st' q, r⟩) (h B0 I0 w0 ρ0 I ρ a w R)

theorem Tri.skip (h : Q .normal st) : Tri P .skip st Q := fun _ _ _ _ I ρ _ _ R => wp_skip ⟨st, I, ρ, h, R⟩
theorem Tri.label {l : Nat} (h : Q .normal st) : Tri P (.label l) st Q := fun _ _ _ _ I ρ _ _ R => wp_label ⟨st, I, ρ, h, R⟩
theorem Tri.exit {id : Nat} (h : Q (.exit id) st) : Tri P (.exit id) st Q := fun _ _ _ _ I ρ _ _ R => wp_exit ⟨st, I, ρ, h, R⟩
theorem Tri.ret (h : Q .ret st) : Tri P .ret st Q := fun _ _ _ _ I ρ _ _ R => wp_ret ⟨st, I, ρ, h, R⟩

theorem Tri.seq {x y : Code} (h : Tri P x st (thenQ (fun st' => Tri P y st' Q) Q)) : Tri P (.seq x y) st Q := fun B0 I0 w0 ρ0 I ρ a w R => by
  refine wp_seq (Code.wp_mono ?_ (h B0 I0 w0 ρ0 I ρ a w R))
  rintro e a' w' ⟨st', I', ρ', q, R'⟩
  cases e with
  | normal => exact q B0 I0 w0 ρ0 I' ρ' a' w' R'
  | exit id => exact ⟨st', I', ρ', q, R'⟩
  | goto l => exact ⟨st', I', ρ', q, R'⟩
  | ret => exact ⟨st', I', ρ', q, R'⟩
  | panic ch => exact ⟨st', I', ρ', q, R'⟩
  | outgrown => exact ⟨st', I', ρ', q, R'⟩

theorem Tri.block {id : Nat} {c : Code} (h : Tri P c st (blockQ id Q)) : Tri P (.block id c) st Q := fun B0 I0 w0 ρ0 I ρ a w R => by
  refine wp_block (Code.wp_mono ?_ (h B0 I0 w0 ρ0 I ρ a w R))
  rintro e a' w' ⟨st', I', ρ', q, R'⟩
  cases e with
  | normal => exact ⟨st', I', ρ', q, R'⟩
  | exit id' =>
    simp only [blockQ] at q
    simp only [Exit.inBlock]
    by_cases hid : id' = id
    · subst hid
      simp only [Nat.beq_refl] at q
      rw [if_pos rfl]
      exact ⟨st', I', ρ', q, R'⟩
    · rw [beq_ne hid] at q
      rw [if_neg hid]
      exact ⟨st', I', ρ', q, R'⟩
  | goto l => exact ⟨st', I', ρ', q, R'⟩
  | ret => exact ⟨st', I', ρ', q, R'⟩
  | panic ch => exact ⟨st', I', ρ', q, R'⟩
  | outgrown => exact ⟨st', I', ρ', q, R'⟩

def noGotoQ (Q : Exit → Sym → Prop) : Exit → Sym → Prop
  | .goto _, _ => False
  | .normal, st => Q .normal st
  | .exit id, st => Q (.exit id) st
  | .ret, st => Q .ret st
  | .panic c, st => Q (.panic c) st
  | .outgrown, st => Q .outgrown st

theorem Tri.scope {c : Code} (h : Tri P c st (noGotoQ Q)) : Tri P (.scope c) st Q := fun B0 I0 w0 ρ0 I ρ a w R => by
  refine wp_scope_straight (Code.wp_mono ?_ (h B0 I0 w0 ρ0 I ρ a w R))
  rintro e a' w' ⟨st', I', ρ', q, R'⟩
  cases e with
  | goto l => exact q.elim
  | normal => exact ⟨st', I', ρ', q, R'⟩
  | exit id => exact ⟨st', I', ρ', q, R'⟩
  | ret => exact ⟨st', I', ρ', q, R'⟩
  | panic ch => exact ⟨st', I', ρ', q, R'⟩
  | outgrown => exact ⟨st', I', ρ', q, R'⟩

/-- Both ways of a test. -/
structure Fork (b : Bool) (A B : Prop) : Prop where
  yes : b = true → A
  no : b = false → B

/-- Both ways of a test of which only this much is known. -/
structure Fork2 (p q A B : Prop) : Prop where
  yes : p → A
  no : q → B

def condQ (st : Sym) (c : Operand) (A B : Prop) : Prop :=
  match st.ev1 [] c with
  | some (.bool b) => Fork b A B
  | some (.cb p q) => Fork2 p q A B
  | _ => False

theorem all_nil (st : Sym) : st.all [] := fun l hl => by simp at hl

theorem Tri.cond {c : Operand} {x y : Code} (h : condQ st c (Tri P x st Q) (Tri P y st Q)) : Tri P (.cond c x y) st Q := fun B0 I0 w0 ρ0 I ρ a w R => by
  unfold condQ at h
  split at h
  · rename_i b hb
    have hv : a.eval c = .bool b := ev1_ok R (all_nil st) hb
    refine wp_cond_split hv (fun e => h.yes e B0 I0 w0 ρ0 I ρ a w R) (fun e => h.no e B0 I0 w0 ρ0 I ρ a w R)
  · rename_i p q hb
    obtain ⟨b, hv, h1, h2⟩ := ev1_ok R (all_nil st) hb
    refine wp_cond_split hv (fun e => h.yes (h1 e) B0 I0 w0 ρ0 I ρ a w R) (fun e => h.no (h2 e) B0 I0 w0 ρ0 I ρ a w R)
  · exact h.elim

/-- Go on from a state that is written out. -/
theorem Tri.weak {c : Code} {n : Nat} (ts : List (Nat × SV)) (hs : List (Nat × Chunk)) (mv : List Nat) (hn : st.n = n) (h1 : tmatch st ts) (h2 : hmatch st hs) (h3 : subN st.mv mv = true)
    (h : tsAll ts → heapWf hs → Tri P c (mkS n ts hs mv) Q) : Tri P c st Q := fun B0 I0 w0 ρ0 I ρ a w R => by
  subst hn
  have hwf := R.wf h1 h2
  exact h hwf.1 hwf.2 B0 I0 w0 ρ0 I ρ a w (R.weaken h1 h2 h3)

/-- The end of a round: the state of the next one, and the measure is less. -/
def nextQ {α : Type} (n : Nat) (ts : α → List (Nat × SV)) (hs : α → List (Nat × Chunk)) (mv : List Nat) (Inv : α → Prop) (μ : α → Nat) (x : α) (st : Sym) : Prop :=
  ∃ y, Inv y ∧ μ y < μ x ∧ st.n = n ∧ tmatch st (ts y) ∧ hmatch st (hs y) ∧ subN st.mv mv = true

/-- A loop: its state at each round's head, for a ghost x. -/
theorem Tri.loop {α : Type} {c : Code} {n : Nat} (ts : α → List (Nat × SV)) (hs : α → List (Nat × Chunk)) (mv : List Nat) (Inv : α → Prop) (μ : α → Nat) (x0 : α) (h0 : Inv x0) (hn : st.n = n)
    (h1 : tmatch st (ts x0)) (h2 : hmatch st (hs x0)) (h3 : subN st.mv mv = true)
    (h : ∀ x, Inv x → tsAll (ts x) → heapWf (hs x) → Tri P c (mkS n (ts x) (hs x) mv) (thenQ (nextQ n ts hs mv Inv μ x) Q)) : Tri P (.loop c) st Q := fun B0 I0 w0 ρ0 I ρ a w R => by
  subst hn
  intro b k cs
  have key : ∀ m x I ρ a w, μ x = m → Inv x → tsAll (ts x) → heapWf (hs x) → Rel B0 I0 w0 ρ0 (mkS st.n (ts x) (hs x) mv) I ρ a w →
      ∃ e a' w', (∃ st' I' ρ', Q e st' ∧ Rel B0 I0 w0 ρ0 st' I' ρ' a' w') ∧ Arrives P (lone (b.at a (.code c :: .inLoop c :: k)) cs w) b k cs e a' w' := by
    intro m
    induction m using Nat.strongRecOn with
    | _ m ih =>
      intro x I ρ a w hm hI hwf1 hwf2 R
      obtain ⟨e, a₁, w₁, ⟨st', I', ρ', hq, R'⟩, harr⟩ := h x hI hwf1 hwf2 B0 I0 w0 ρ0 I ρ a w R b (.inLoop c :: k) cs
      cases e with
      | normal =>
        obtain ⟨y, hy, hlt, hn', h1', h2', h3'⟩ := hq
        have R2 := R'.weaken h1' h2' h3'
        rw [hn'] at R2
        have hwf := R'.wf h1' h2'
        obtain ⟨e₂, a₂, w₂, hq₂, harr₂⟩ := ih (μ y) (hm ▸ hlt) y I' ρ' a₁ w₁ rfl hy hwf.1 hwf.2 R2
        exact ⟨e₂, a₂, w₂, hq₂, .of_steps (Steps.trans harr (.one step_inLoop)) harr₂⟩
      | exit id => exact ⟨_, a₁, w₁, ⟨st', I', ρ', hq, R'⟩, .pass (x := .inLoop c) rfl (fun _ _ => .inl (by simp)) harr⟩
      | goto l => exact ⟨_, a₁, w₁, ⟨st', I', ρ', hq, R'⟩, .pass (x := .inLoop c) rfl (fun _ _ => .inl (by simp)) harr⟩
      | ret => exact ⟨_, a₁, w₁, ⟨st', I', ρ', hq, R'⟩, .pass (x := .inLoop c) rfl (fun _ _ => .inl (by simp)) harr⟩
      | panic ch => exact ⟨_, a₁, w₁, ⟨st', I', ρ', hq, R'⟩, .pass (x := .inLoop c) rfl (fun _ _ => .inl (by simp)) harr⟩
      | outgrown => exact ⟨_, a₁, w₁, ⟨st', I', ρ', hq, R'⟩, .pass (x := .inLoop c) rfl (fun _ _ => .inl (by simp)) harr⟩
  have hwf := R.wf h1 h2
  obtain ⟨e, a', w', hq, harr⟩ := key _ x0 I ρ a w rfl h0 hwf.1 hwf.2 (R.weaken h1 h2 h3)
  exact ⟨e, a', w', hq, .of_steps (.one step_loop) harr⟩

/-! ### Regions -/

def Entry.clr (e : Entry) : Entry :=
  match e with
  | ⟨[], v⟩ => ⟨[], v⟩
  | _ => ⟨[], oneS .junk⟩

theorem Entry.clr_eq (e : Entry) : e.clr = match e.g with | [] => e | _ => ⟨[], oneS .junk⟩ := by
  obtain ⟨g, v⟩ := e
  cases g <;> rfl

/-- Behind a region no temporary bears a guard. -/
def Sym.clear (st : Sym) : Sym where
  n := st.n
  t := fun t => (st.t t).clr
  h := st.h
  gs := fun _ => false
  mv := st.mv

theorem Rel.clear (R : Rel B0 I0 w0 ρ0 st I ρ a w) : Rel B0 I0 w0 ρ0 st.clear I ρ a w := by
  refine ⟨?_, R.ch, R.sep, R.out, R.ilt, ?_, R.sz, R.df, R.stab, R.own, R.imm, R.im0, R.fr, R.os, R.tape, R.output, R.size⟩
  · intro t
    have ht := R.tm t
    simp only [Sym.clear, Entry.clr_eq]
    split
    · rename_i hg
      unfold Entry.rep at *
      rw [hg] at ht ⊢
      exact ⟨fun _ => ht.1 (all_nil st), fun h => absurd (all_nil _) h⟩
    · exact ⟨fun _ => trivial, fun h => absurd (all_nil _) h⟩
  · intro t l hl
    simp only [Sym.clear, Entry.clr_eq] at hl
    split at hl
    · rename_i hg; rw [hg] at hl; simp at hl
    · simp at hl

def anyGuard : List Oper → Bool
  | [] => false
  | o :: os =>
    match o.guard with
    | some _ => true
    | none => anyGuard os

def endOps (ops : List Oper) (st : Sym) : Sym :=
  match anyGuard ops with
  | true => st.clear
  | false => st

theorem Tri.region (hΓ : Γ.ok P) {id : Nat} {l : List Oper} (h : sxOps P Γ l.toArray l st (fun st' => Q .normal (endOps l st'))) : Tri P (.region id l.toArray false) st Q := fun B0 I0 w0 ρ0 I ρ a w R => by
  refine wp_region_lit (sxOps_ok hΓ h R ?_)
  intro st' I' ρ' a' w' hq R'
  refine ⟨_, I', ρ', hq, ?_⟩
  unfold endOps
  split
  · exact R'.clear
  · exact R'

/-! ### Straight code, by computation -/

/-- The first region of a piece of code. -/
def Code.lead : Code → Option Nat
  | .region id _ _ => some id
  | .seq x _ => Code.lead x
  | .block _ x => Code.lead x
  | .loop x => Code.lead x
  | _ => none

def stopsAt (stops : List Nat) (c : Code) : Bool :=
  match Code.lead c with
  | some id => stops.any (Nat.beq id)
  | none => false

/-- The condition of code: it goes through regions, tests and blocks; it stops ahead of loops, of regions that draw, and of code that begins with a region of 'stops'. -/
def vc (P : Program) (Γ : Gam) (stops : List Nat) : Code → Sym → (Exit → Sym → Prop) → Prop
  | .skip, st, Q => Q .normal st
  | .label _, st, Q => Q .normal st
  | .exit id, st, Q => Q (.exit id) st
  | .ret, st, Q => Q .ret st
  | .region _ ops false, st, Q => sxOps P Γ ops ops.toList st (fun st' => Q .normal (endOps ops.toList st'))
  | .region id ops true, st, Q => Tri P (.region id ops true) st Q
  | .seq x y, st, Q => vc P Γ stops x st (thenQ (fun st' =>
      match stopsAt stops y with
      | true => Tri P y st' Q
      | false => vc P Γ stops y st' Q) Q)
  | .cond c x y, st, Q => condQ st c (vc P Γ stops x st Q) (vc P Γ stops y st Q)
  | .block id c, st, Q => vc P Γ stops c st (blockQ id Q)
  | .scope c, st, Q => vc P Γ stops c st (noGotoQ Q)
  | .loop c, st, Q => Tri P (.loop c) st Q
  | _, _, _ => False

theorem condQ_mono {c : Operand} {A B A' B' : Prop} (ha : A → A') (hb : B → B') (h : condQ st c A B) : condQ st c A' B' := by
  unfold condQ at *
  generalize st.ev1 [] c = x at *
  match x, h with
  | some (.bool b), h => exact ⟨fun e => ha (h.yes e), fun e => hb (h.no e)⟩
  | some (.cb p q), h => exact ⟨fun e => ha (h.yes e), fun e => hb (h.no e)⟩

theorem Tri.of_vc (hΓ : Γ.ok P) (stops : List Nat) : ∀ {c : Code} {st : Sym} {Q : Exit → Sym → Prop}, vc P Γ stops c st Q → Tri P c st Q := by
  intro c
  induction c with
  | skip => exact fun h => Tri.skip h
  | label l => exact fun h => Tri.label h
  | exit id => exact fun h => Tri.exit h
  | ret => exact fun h => Tri.ret h
  | region id ops draw =>
    intro st Q h
    cases draw with
    | true => exact h
    | false =>
      obtain ⟨l⟩ := ops
      exact Tri.region hΓ h
  | seq x y ihx ihy =>
    intro st Q h
    refine Tri.seq ((ihx h).mono ?_)
    intro e st' hq
    cases e with
    | normal =>
      simp only [thenQ] at hq ⊢
      split at hq
      · exact hq
      · exact ihy hq
    | exit id => exact hq
    | goto l => exact hq
    | ret => exact hq
    | panic ch => exact hq
    | outgrown => exact hq
  | cond c x y ihx ihy => exact fun h => Tri.cond (condQ_mono ihx ihy h)
  | block id c ih => exact fun h => Tri.block (ih h)
  | loop c ih => exact fun h => h
  | rangeFunc f ps a b iha ihb => exact fun h => h.elim
  | scope c ih => exact fun h => Tri.scope (ih h)
  | goto l => exact fun h => h.elim
  | refuse why => exact fun h => h.elim

/-! ### Functions -/

def resV (Γ : Gam) (st : Sym) : List ResultVar → Option (List V0)
  | [] => some []
  | .tmp t :: r =>
    match st.evV [] (.tmp t), resV Γ st r with
    | some v, some vs => some (v :: vs)
    | _, _ => none
  | .cell c t :: r =>
    match st.ev1 [] (.tmp c), Γ t with
    | some x, some i =>
      match loadAt i st x, resV Γ st r with
      | some v, some vs => some (v :: vs)
      | _, _ => none
    | _, _ => none

def resSV : List V0 → SV
  | [v] => .one v
  | vs => .tup vs

/-- Chunks that were got lie where they lay, but for those in mv. -/
def stayed (st : Sym) (mv : List Nat) : List (Nat × Chunk) → Bool
  | [] => true
  | (c, _) :: r =>
    match mv.any (Nat.beq c) with
    | true => stayed st mv r
    | false =>
      match Nat.blt c 100, st.mv.any (Nat.beq c) with
      | true, false => stayed st mv r
      | _, _ => false

def postQ (Γ : Gam) (rs : List ResultVar) (hs : List (Nat × Chunk)) (mv : List Nat) (Q : SV → List (Nat × Chunk) → Prop) (e : Exit) (st : Sym) : Prop :=
  (match e with
    | .normal => True
    | .ret => True
    | _ => False) ∧
  match resV Γ st rs with
  | some vs => stayed st mv hs = true ∧ ∃ hs', hmatch st hs' ∧ (resSV vs).closed hs' = true ∧ heapClosed hs' hs' = true ∧ Q (resSV vs) hs'
  | none => False

theorem resV_ok (hΓ : Γ.ok P) (R : Rel B0 I0 w0 ρ0 st I ρ a w) : ∀ {rs : List ResultVar} {vs : List V0}, resV Γ st rs = some vs →
    ∃ us : List Value, (rs.mapM (m := Sem) fun | .tmp t => pure (a.tmps.getD t undef) | .cell c t => do loadVar t (← asAddr (a.tmps.getD c undef))).run P w = .ok us w ∧ All2 (V0.rep w I ρ) us vs
  | [], vs, h => by simp only [resV, Option.some.injEq] at h; subst h; exact ⟨[], rfl, trivial⟩
  | .tmp t :: r, vs, h => by
    simp only [resV] at h
    split at h
    · rename_i v vs' hv hvs
      cases h
      obtain ⟨us, h1, h2⟩ := resV_ok hΓ R hvs
      have hr := evV_ok R (all_nil st) hv
      exact ⟨a.tmps.getD t undef :: us, by simp only [List.mapM_cons, Sem.run_bind, Sem.run_pure, Result.andThen_ok, h1], hr, h2⟩
    · cases h
  | .cell c t :: r, vs, h => by
    simp only [resV] at h
    split at h
    · rename_i x i hx hi
      split at h
      · rename_i v vs' hv hvs
        cases h
        obtain ⟨us, h1, h2⟩ := resV_ok hΓ R hvs
        have hxr := ev1_ok R (all_nil st) hx
        obtain ⟨u, h3, h4⟩ := loadAt_ok (hΓ t i hi) R.ch hv hxr
        have haddr : ∃ ad, a.eval (.tmp c) = .pointer (some ad) := by
          unfold loadAt at hv
          split at hv
          · obtain ⟨L, _, e⟩ := hxr; exact ⟨_, e⟩
          · obtain ⟨L, _, e, _⟩ := hxr; exact ⟨_, e⟩
          · obtain ⟨b, o, cs, el, fr, e, _⟩ := hxr; exact ⟨_, e⟩
          · cases hv
        obtain ⟨ad, had⟩ := haddr
        have had' : a.tmps.getD c undef = .pointer (some ad) := had
        rw [had] at h3
        have h3' : (loadVar t ad).run P w = .ok u w := by
          simpa only [Instr.loadAt, Instr.sureAddr, Sem.run_bind, Sem.run_pure, Result.andThen_ok] using h3
        have hA : (asAddr (.pointer (some ad))).run P w = .ok ad w := rfl
        refine ⟨u :: us, ?_, h4, h2⟩
        simp only [List.mapM_cons, Sem.run_bind, had', hA, Sem.run_pure, Result.andThen_ok, h3', h1]
      · cases h
    · cases h

/-- The state at the head of a body. -/
def startS (n : Nat) (args : List V0) (hs : List (Nat × Chunk)) : Sym where
  n := n
  t := fun t =>
    match args[t]? with
    | some v => ⟨[], .one v⟩
    | none => ⟨[], oneS .junk⟩
  h := hp hs
  gs := fun _ => false
  mv := []

/-- A contract from a body. -/
theorem FnOK.intro (hΓ : Γ.ok P) {f : Nat} {fn : Func} {c : Code} {args : List V0} {hs : List (Nat × Chunk)} {mv : List Nat} {Q : SV → List (Nat × Chunk) → Prop}
    (hf : P.funcs[f]? = some fn) (hb : fn.body = some c) (hn : Nat.ble args.length fn.ntmps = true)
    (h : v0sWf args → heapWf hs → Tri P c (startS fn.ntmps args hs) (postQ Γ fn.results.toList hs mv Q)) : FnOK P f args hs mv Q := by
  intro I ρ w vs hargs hch hsep hout hlt
  have hlen := hargs.length
  simp only [Array.length_toList] at hlen
  have hn := Nat.le_of_ble_eq_true hn
  refine calls_of_wp hf hb ?_
  have R : Rel (blocksOf hs ρ) I w ρ (startS fn.ntmps args hs) I ρ { tmps := vs ++ Array.replicate (fn.ntmps - vs.size) undef, defers := [] } w := by
    refine ⟨?_, hch, hsep, hout, hlt, ?_, ?_, rfl, fun _ _ _ => rfl, ?_, fun b hb => .inl hb, fun b hb => hb, fun _ _ _ => rfl, rfl, rfl, rfl, Nat.le_refl _⟩
    · intro t
      simp only [startS]
      split
      · rename_i v hv
        obtain ⟨u, h1, h2⟩ := hargs.get hv
        have h1 : vs[t]? = some u := by simpa using h1
        have hlt : t < vs.size := (Array.getElem?_eq_some_iff.1 h1).1
        refine ⟨fun _ => ?_, fun h => absurd (all_nil _) h⟩
        have : (vs ++ Array.replicate (fn.ntmps - vs.size) undef).getD t undef = u := by
          rw [Array.getD_eq_getD_getElem?, Array.getElem?_append_left hlt, h1]; rfl
        rw [this]
        exact h2
      · exact ⟨fun _ => trivial, fun h => absurd (all_nil _) h⟩
    · intro t l hl
      simp only [startS] at hl
      split at hl <;> simp at hl
    · simp [startS]; omega
    · intro c k L hk hL
      exact .inl ⟨c, k, L, hk, hL, rfl⟩
  refine Code.wp_mono ?_ (h (v0sWf_of_rep hargs) (fun c k hc => Chunk.wf_of_rep (hch c k hc)) (blocksOf hs ρ) I w ρ I ρ _ w R)
  rintro e a' w' ⟨st', I', ρ', ⟨he, hq⟩, R'⟩
  split at hq
  · rename_i vs' hvs
    obtain ⟨hst, hs', hm, hc1, hc2, hq⟩ := hq
    have hmk := hmatch_ok hm
    obtain ⟨us, h1, h2⟩ := resV_ok hΓ R' hvs
    have hres : ∃ v, (results fn a'.tmps).run P w' = .ok v w' ∧ (resSV vs').rep w' I' ρ' v := by
      have hmap : (fn.results.mapM (m := Sem) fun | .tmp t => pure (a'.tmps.getD t undef) | .cell c t => do loadVar t (← asAddr (a'.tmps.getD c undef))).run P w' = .ok us.toArray w' := by
        rw [← Array.toArray_toList (xs := fn.results), List.mapM_toArray, Sem.run_map, h1]
        rfl
      have hr0 : (results fn a'.tmps).run P w' = .ok (if h : us.toArray.size = 1 then us.toArray[0] else .tuple us.toArray) w' := by
        unfold results
        rw [Sem.run_bind]
        erw [hmap]
        rfl
      refine ⟨_, hr0, ?_⟩
      match us, vs', h2 with
      | [], [], _ => exact ⟨#[], rfl, trivial⟩
      | [u], [v], h => exact h.1
      | u :: u' :: us, v :: v' :: vs, h => exact ⟨(u :: u' :: us).toArray, rfl, h⟩
    obtain ⟨v, hv1, hv2⟩ := hres
    have hR : (bodyPost P fn (fun e w' => ∃ v r hs' I' ρ', e = .returned v ∧ Q r hs' ∧ r.closed hs' = true ∧ heapClosed hs' hs' = true ∧ r.rep w' I' ρ' v ∧ HRel (blocksOf hs ρ) I w (hp hs') I' ρ' w' ∧ ∀ c, (hp hs c).isSome = true → c ∉ mv → ρ' c = ρ c)) .ret a' w' := by
      refine ⟨R'.df, v, hv1, v, _, hs', I', ρ', rfl, hq, hc1, hc2, hv2, ?_, ?_⟩
      · exact ⟨fun c k h => R'.ch c k (hmk c k h), fun c d k k' L M h h' => R'.sep c d k k' L M (hmk c k h) (hmk d k' h'), fun c k L h => R'.out c k L (hmk c k h), R'.ilt,
          fun c k L h => R'.own c k L (hmk c k h), R'.imm, R'.im0, R'.fr, R'.os, R'.tape, R'.output, R'.size⟩
      · have hstay : ∀ (l : List (Nat × Chunk)), stayed st' mv l = true → ∀ c, (hp l c).isSome = true → c ∉ mv → c < 100 ∧ c ∉ st'.mv := by
          intro l
          induction l with
          | nil => intro _ c hc; simp [hp] at hc
          | cons q l ih =>
            obtain ⟨d, k⟩ := q
            intro hl c hc hcm
            unfold stayed at hl
            by_cases e : d = c
            · subst e
              split at hl
              · rename_i ha
                simp only [List.any_eq_true] at ha
                obtain ⟨x, hx, he⟩ := ha
                rw [Nat.eq_of_beq_eq_true he] at hcm
                exact absurd hx hcm
              · split at hl
                · rename_i h1 h2
                  refine ⟨Nat.le_of_ble_eq_true h1, fun hm => ?_⟩
                  simp only [List.any_eq_false] at h2
                  exact h2 d hm (by simp)
                · cases hl
            · have hc' : (hp l c).isSome = true := by
                unfold hp at hc
                rw [beq_ne e] at hc
                exact hc
              split at hl
              · exact ih hl c hc' hcm
              · split at hl
                · exact ih hl c hc' hcm
                · cases hl
        intro c hc hcm
        have := hstay hs hst c hc hcm
        exact R'.stab c this.1 this.2
    cases e with
    | normal => exact hR
    | ret => exact hR
    | exit id => exact he.elim
    | goto l => exact he.elim
    | panic ch => exact he.elim
    | outgrown => exact he.elim
  · exact hq.elim

theorem postQ_ret {rs : List ResultVar} {hs : List (Nat × Chunk)} {mv : List Nat} {Q : SV → List (Nat × Chunk) → Prop} {st : Sym} {vs : List V0} (hs' : List (Nat × Chunk)) (hr : resV Γ st rs = some vs)
    (h1 : stayed st mv hs = true) (hm : hmatch st hs') (h2 : (resSV vs).closed hs' = true) (h3 : heapClosed hs' hs' = true) (hq : Q (resSV vs) hs') : postQ Γ rs hs mv Q .ret st := by
  refine ⟨trivial, ?_⟩
  rw [hr]
  exact ⟨h1, hs', hm, h2, h3, hq⟩

theorem postQ_end {rs : List ResultVar} {hs : List (Nat × Chunk)} {mv : List Nat} {Q : SV → List (Nat × Chunk) → Prop} {st : Sym} {vs : List V0} (hs' : List (Nat × Chunk)) (hr : resV Γ st rs = some vs)
    (h1 : stayed st mv hs = true) (hm : hmatch st hs') (h2 : (resSV vs).closed hs' = true) (h3 : heapClosed hs' hs' = true) (hq : Q (resSV vs) hs') : postQ Γ rs hs mv Q .normal st := by
  refine ⟨trivial, ?_⟩
  rw [hr]
  exact ⟨h1, hs', hm, h2, h3, hq⟩

theorem sv_int {k : IntKind} {x y : Int} (h : x = y) : oneS (.int k x) = .one (.cell (.int k y)) := by rw [h]; rfl
theorem sv_bool {x y : Bool} (h : x = y) : oneS (.bool x) = .one (.cell (.bool y)) := by rw [h]; rfl
theorem en_int {k : IntKind} {x y : Int} {e : Entry} (h : x = y) (he : e = ⟨[], .one (.cell (.int k x))⟩) : e = ⟨[], .one (.cell (.int k y))⟩ := by rw [he, h]
theorem en_bool {x y : Bool} {e : Entry} (h : x = y) (he : e = ⟨[], .one (.cell (.bool x))⟩) : e = ⟨[], .one (.cell (.bool y))⟩ := by rw [he, h]
theorem ch_arr {T : Ty} {x y : List T.den} {e : Option Chunk} (h : x = y) (he : e = some (.arr T x)) : e = some (.arr T y) := by rw [he, h]

/-- What lies within its kind is not changed by wrapping. -/
theorem wrap_id {k : IntKind} {n : Int} (h : inR k n) : k.wrap n = n := by
  cases k <;> simp only [inR_i64, inR_i32, inR_i16, inR_i8, inR_u64, inR_u32, inR_u16, inR_u8] at h <;> simp only [IntKind.wrap, IntKind.signed, IntKind.bits, Bool.true_and, Bool.false_and] <;>
    (try simp only [decide_eq_true_eq]) <;> (try split) <;> simp_all <;> omega

theorem wrap64 {n : Int} (h1 : -9223372036854775808 ≤ n) (h2 : n ≤ 9223372036854775807) : IntKind.i64.wrap n = n := wrap_id (inR_i64.2 ⟨h1, h2⟩)

/-- Two ways join: what holds of the state where they meet, for a ghost x. -/
theorem Tri.cut {α : Type} {x y : Code} {n : Nat} (ts : α → List (Nat × SV)) (hs : α → List (Nat × Chunk)) (mv : List Nat) (Inv : α → Prop)
    (h1 : Tri P x st (thenQ (fun st' => ∃ z, Inv z ∧ st'.n = n ∧ tmatch st' (ts z) ∧ hmatch st' (hs z) ∧ subN st'.mv mv = true) Q))
    (h2 : ∀ z, Inv z → tsAll (ts z) → heapWf (hs z) → Tri P y (mkS n (ts z) (hs z) mv) Q) : Tri P (.seq x y) st Q := by
  refine Tri.seq (h1.mono ?_)
  intro e st' hq
  cases e with
  | normal =>
    obtain ⟨z, hz, hn, ht, hh, hm⟩ := hq
    exact Tri.weak (ts z) (hs z) mv hn ht hh hm (h2 z hz)
  | exit id => exact hq
  | goto l => exact hq
  | ret => exact hq
  | panic ch => exact hq
  | outgrown => exact hq

theorem nextQ_intro {α : Type} {n : Nat} {ts : α → List (Nat × SV)} {hs : α → List (Nat × Chunk)} {mv : List Nat} {Inv : α → Prop} {μ : α → Nat} {x : α} {st : Sym} (y : α) (h1 : Inv y) (h2 : μ y < μ x) (h3 : st.n = n) (h4 : subN st.mv mv = true)
    (h5 : hmatch st (hs y)) (h6 : tmatch st (ts y)) : nextQ n ts hs mv Inv μ x st := ⟨y, h1, h2, h3, h6, h5, h4⟩

/-- The end of a function that leaves the chunks as they were. -/
theorem quiet_ret {rs : List ResultVar} {hs : List (Nat × Chunk)} {st : Sym} {vs : List V0} {v : SV} (hr : resV Γ st rs = some vs) (h1 : stayed st [] hs = true) (hm : hmatch st hs) (h3 : heapClosed hs hs = true) (h2 : (resSV vs).closed hs = true)
    (hq : resSV vs = v) : postQ Γ rs hs [] (fun r' hs' => r' = v ∧ hs' = hs) .ret st := postQ_ret hs hr h1 hm h2 h3 ⟨hq, rfl⟩

end
attribute [irreducible] Tri postQ nextQ
end Go.Sx
