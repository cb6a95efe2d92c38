/- Regions that draw their order: one walk in the text's order serves every order, where each operation either has a fixed place or touches nothing of the others. Conditions: the table of types is true of the program; the program follows mixed orders. -/
import Derived.Test.YthilnjignhopkaaSxTri
set_option linter.unusedSimpArgs false
set_option linter.unusedVariables false
namespace Go.Sx
open Go

/-! ### Parts of a state -/

def hasT : List (Nat × Entry) → Nat → Bool
  | [], _ => false
  | (u, _) :: ts, t =>
    match Nat.beq u t with
    | true => true
    | false => hasT ts t

def lookE : List (Nat × Entry) → Nat → Entry
  | [], _ => ⟨[], oneS .junk⟩
  | (u, e) :: ts, t =>
    match Nat.beq u t with
    | true => e
    | false => lookE ts t

def partE (n : Nat) (mv : List Nat) (ts : List (Nat × Entry)) (cs : List (Nat × Chunk)) : Sym where
  n := n
  t := lookE ts
  h := hp cs
  gs := fun _ => true
  mv := mv

def ematch (st : Sym) : List (Nat × Entry) → Prop
  | [] => True
  | (t, e) :: r => st.t t = e ∧ ematch st r

def cleanT (d : Bool) (K : List Nat) (e : Entry) : Entry :=
  match d with
  | true => ⟨[], oneS .junk⟩
  | false =>
    match e with
    | ⟨[], v⟩ => Entry.kill K ⟨[], v⟩
    | _ => ⟨[], oneS .junk⟩

theorem cleanT_eq (d : Bool) (K : List Nat) (e : Entry) : cleanT d K e = match d, e.g with
    | false, [] => e.kill K
    | _, _ => ⟨[], oneS .junk⟩ := by
  obtain ⟨g, v⟩ := e
  cases d <;> cases g <;> rfl

/-- The guards' temporaries are there too. -/
def labsIn (ts : List (Nat × Entry)) : List (Nat × Bool) → Bool
  | [] => true
  | l :: ls =>
    match hasT ts l.1 with
    | true => labsIn ts ls
    | false => false

def allLabs (ts : List (Nat × Entry)) : List (Nat × Entry) → Bool
  | [] => true
  | (_, e) :: r =>
    match labsIn ts e.g with
    | true => allLabs ts r
    | false => false

theorem labsIn_mem {ts : List (Nat × Entry)} : ∀ {ls : List (Nat × Bool)}, labsIn ts ls = true → ∀ l ∈ ls, hasT ts l.1 = true
  | [], _, l, h => by simp at h
  | k :: ls, h, l, hl => by
    unfold labsIn at h
    split at h
    · rename_i hk
      rcases List.mem_cons.1 hl with e | e
      · rw [e]; exact hk
      · exact labsIn_mem h l e
    · cases h

theorem allLabs_look {ts : List (Nat × Entry)} : ∀ {r : List (Nat × Entry)}, allLabs ts r = true → ∀ t, ∀ l ∈ (lookE r t).g, hasT ts l.1 = true
  | [], _, t, l, hl => by simp [lookE] at hl
  | (u, e) :: r, h, t, l, hl => by
    unfold allLabs at h
    split at h
    · rename_i hk
      unfold lookE at hl
      split at hl
      · exact labsIn_mem hk l hl
      · exact allLabs_look h t l hl
    · cases h

theorem ematch_look {st : Sym} : ∀ {ts : List (Nat × Entry)} (_ : ematch st ts) (t : Nat), hasT ts t = true → lookE ts t = st.t t
  | [], _, _, h => by simp [hasT] at h
  | (u, e) :: r, h, t, ht => by
    unfold hasT at ht
    unfold lookE
    by_cases hu : u = t
    · subst hu
      simp only [Nat.beq_refl]
      exact h.1.symm
    · rw [beq_ne hu] at ht ⊢
      exact ematch_look h.2 t ht

theorem lookE_not : ∀ {ts : List (Nat × Entry)} {t : Nat}, hasT ts t = false → lookE ts t = ⟨[], oneS .junk⟩
  | [], _, _ => rfl
  | (u, e) :: r, t, h => by
    unfold hasT at h
    unfold lookE
    by_cases hu : u = t
    · subst hu; simp at h
    · rw [beq_ne hu] at h ⊢
      exact lookE_not h

section
variable {P : Program} {Γ : Gam} {B0 I0 : Nat → Prop} {w0 : World} {ρ0 : Rho} {st : Sym} {w w' : World} {I I' : Nat → Prop} {ρ ρ' : Rho} {a : Act}

theorem part_cond {n : Nat} {mv : List Nat} {ts : List (Nat × Entry)} {cs : List (Nat × Chunk)} (h1 : ematch st ts) {l : Nat × Bool} (h : hasT ts l.1 = true) : (partE n mv ts cs).cond l = st.cond l := by
  rw [Sym.cond_eq, Sym.cond_eq]
  show (match bitOf (lookE ts l.1).v with | some b => b == l.2 | none => false) = _
  rw [ematch_look h1 l.1 h]
  rfl

theorem Rel.part (R : Rel B0 I0 w0 ρ0 st I ρ a w) {ts : List (Nat × Entry)} {cs : List (Nat × Chunk)} (h1 : ematch st ts) (h2 : hmatch st cs) (h3 : allLabs ts ts = true) :
    Rel B0 I0 w0 ρ0 (partE st.n st.mv ts cs) I ρ a w := by
  have hk := hmatch_ok h2
  refine ⟨?_, fun c k h => R.ch c k (hk c k h), fun c d k k' L M h h' => R.sep c d k k' L M (hk c k h) (hk d k' h'), fun c k L h => R.out c k L (hk c k h), R.ilt, fun _ _ _ => rfl, R.sz, R.df, R.stab,
    fun c k L h => R.own c k L (hk c k h), R.imm, R.im0, R.fr, R.os, R.tape, R.output, R.size⟩
  intro t
  have hall : ∀ g : List (Nat × Bool), (∀ l ∈ g, hasT ts l.1 = true) → ((partE st.n st.mv ts cs).all g ↔ st.all g) := fun g hg =>
    ⟨fun h l hl => by rw [← part_cond h1 (hg l hl)]; exact h l hl, fun h l hl => by rw [part_cond h1 (hg l hl)]; exact h l hl⟩
  cases hh : hasT ts t with
  | false =>
    show Entry.rep w I ρ _ _ (lookE ts t)
    rw [lookE_not hh]
    exact ⟨fun _ => trivial, fun h => absurd (fun l hl => by simp at hl) h⟩
  | true =>
    have ht := R.tm t
    have hg := allLabs_look h3 t
    show Entry.rep w I ρ _ _ (lookE ts t)
    rw [ematch_look h1 t hh] at hg ⊢
    unfold Entry.rep at *
    rw [hall _ hg]
    exact ht

/-! ### What is free of some names -/

def Leaf.free (K : List Nat) (x : Leaf) : Bool := K.all (fun c => !(x.has c))

def leafsFree (K : List Nat) : List Leaf → Bool
  | [] => true
  | x :: xs =>
    match x.free K with
    | true => leafsFree K xs
    | false => false

def V0.free (K : List Nat) : V0 → Bool
  | .cell x => x.free K
  | .agg xs => leafsFree K xs

def v0sFree (K : List Nat) : List V0 → Bool
  | [] => true
  | x :: xs =>
    match x.free K with
    | true => v0sFree K xs
    | false => false

def SV.free (K : List Nat) : SV → Bool
  | .one x => x.free K
  | .tup xs => v0sFree K xs

def Chunk.free (K : List Nat) : Chunk → Bool
  | .cells ls => leafsFree K ls
  | _ => true

theorem Leaf.free_kill : ∀ {K : List Nat} {x : Leaf}, x.free K = true → x.kill K = x
  | [], x, _ => Leaf.kill_nil x
  | c :: K, x, h => by
    simp only [Leaf.free, List.all_cons, Bool.and_eq_true, Bool.not_eq_true'] at h
    rw [Leaf.kill_cons]
    unfold Leaf.kill1
    rw [h.1]
    exact Leaf.free_kill h.2

theorem leafsFree_kill {K : List Nat} : ∀ {xs : List Leaf}, leafsFree K xs = true → xs.map (·.kill K) = xs
  | [], _ => rfl
  | x :: xs, h => by
    unfold leafsFree at h
    split at h
    · rename_i hx
      rw [List.map_cons, Leaf.free_kill hx, leafsFree_kill h]
    · cases h

theorem V0.free_kill {K : List Nat} {x : V0} (h : x.free K = true) : x.kill K = x := by
  cases x with
  | cell x => simp only [V0.kill, Leaf.free_kill h]
  | agg xs => simp only [V0.kill, leafsFree_kill h]

theorem v0sFree_kill {K : List Nat} : ∀ {xs : List V0}, v0sFree K xs = true → xs.map (·.kill K) = xs
  | [], _ => rfl
  | x :: xs, h => by
    unfold v0sFree at h
    split at h
    · rename_i hx
      rw [List.map_cons, V0.free_kill hx, v0sFree_kill h]
    · cases h

theorem SV.free_kill {K : List Nat} {x : SV} (h : x.free K = true) : x.kill K = x := by
  cases x with
  | one x => simp only [SV.kill, V0.free_kill h]
  | tup xs => simp only [SV.kill, v0sFree_kill h]

theorem Chunk.free_killed {K : List Nat} {x : Chunk} (h : x.free K = true) : x.killed K = x := by
  cases K with
  | nil => rfl
  | cons c K =>
    cases x with
    | cells ls => simp only [Chunk.killed, Chunk.kill, leafsFree_kill h]
    | arr => rfl
    | mp => rfl

theorem Entry.free_kill {K : List Nat} {e : Entry} (h : e.v.free K = true) : e.kill K = e := by
  cases K with
  | nil => rfl
  | cons c K => simp only [Entry.kill, SV.free_kill h]

def Sym.free (st : Sym) (K : List Nat) : Prop := (∀ t, (st.t t).v.free K = true) ∧ ∀ c k, st.h c = some k → k.free K = true

theorem Leaf.kill_free (K : List Nat) {K' : List Nat} (h : ∀ c ∈ K', c ∈ K) (x : Leaf) : (x.kill K).free K' = true := by
  simp only [Leaf.free, List.all_eq_true, Bool.not_eq_true']
  intro c hc
  cases hh : (x.kill K).has c with
  | false => rfl
  | true => exact absurd (h c hc) (Leaf.kill_has K hh).2

theorem leafs_kill_free (K : List Nat) {K' : List Nat} (h : ∀ c ∈ K', c ∈ K) : ∀ xs : List Leaf, leafsFree K' (xs.map (·.kill K)) = true
  | [] => rfl
  | x :: xs => by
    simp only [List.map_cons, leafsFree, Leaf.kill_free K h x]
    exact leafs_kill_free K h xs

theorem V0.kill_free (K : List Nat) {K' : List Nat} (h : ∀ c ∈ K', c ∈ K) (x : V0) : (x.kill K).free K' = true := by
  cases x with
  | cell x => exact Leaf.kill_free K h x
  | agg xs => exact leafs_kill_free K h xs

theorem v0s_kill_free (K : List Nat) {K' : List Nat} (h : ∀ c ∈ K', c ∈ K) : ∀ xs : List V0, v0sFree K' (xs.map (·.kill K)) = true
  | [] => rfl
  | x :: xs => by
    simp only [List.map_cons, v0sFree, V0.kill_free K h x]
    exact v0s_kill_free K h xs

theorem SV.kill_free (K : List Nat) {K' : List Nat} (h : ∀ c ∈ K', c ∈ K) (x : SV) : (x.kill K).free K' = true := by
  cases x with
  | one x => exact V0.kill_free K h x
  | tup xs => exact v0s_kill_free K h xs

theorem Leaf.free_nil (x : Leaf) : x.free [] = true := rfl
theorem leafsFree_nil : ∀ xs : List Leaf, leafsFree [] xs = true
  | [] => rfl
  | _ :: xs => leafsFree_nil xs
theorem v0sFree_nil : ∀ xs : List V0, v0sFree [] xs = true
  | [] => rfl
  | x :: xs => by cases x <;> simp only [v0sFree, V0.free, Leaf.free_nil, leafsFree_nil] <;> exact v0sFree_nil xs

theorem Entry.kill_free (K : List Nat) {K' : List Nat} (h : ∀ c ∈ K', c ∈ K) (e : Entry) : (e.kill K).v.free K' = true := by
  cases K with
  | nil =>
    have : K' = [] := by cases K' with | nil => rfl | cons c _ => exact absurd (h c (by simp)) (by simp)
    subst this
    cases hv : e.v with
    | one x => cases x <;> simp [Entry.kill, hv, SV.free, V0.free, Leaf.free_nil, leafsFree_nil]
    | tup xs => simp [Entry.kill, hv, SV.free, v0sFree_nil]
  | cons c K => exact SV.kill_free _ h e.v

theorem Chunk.killed_free (K : List Nat) {K' : List Nat} (h : ∀ c ∈ K', c ∈ K) (x : Chunk) : (x.killed K).free K' = true := by
  cases K with
  | nil =>
    have : K' = [] := by cases K' with | nil => rfl | cons c _ => exact absurd (h c (by simp)) (by simp)
    subst this
    cases x <;> simp [Chunk.killed, Chunk.free, leafsFree_nil]
  | cons c K =>
    cases x with
    | cells ls => exact leafs_kill_free _ h ls
    | arr => rfl
    | mp => rfl

/-! ### The head of such a region: its own temporaries and names are cleared -/

def Sym.clean (st : Sym) (D K : List Nat) : Sym where
  n := st.n
  t := fun t => cleanT (D.any (Nat.beq t)) K (st.t t)
  h := fun c =>
    match K.any (Nat.beq c) with
    | true => none
    | false => (st.h c).map (Chunk.killed K)
  gs := fun _ => false
  mv := st.mv

theorem clean_h {D K : List Nat} {c : Nat} {k : Chunk} (h : (st.clean D K).h c = some k) : ∃ k0, st.h c = some k0 ∧ k = k0.killed K := by
  simp only [Sym.clean] at h
  split at h
  · cases h
  · simp only [Option.map_eq_some_iff] at h
    obtain ⟨k0, h1, h2⟩ := h
    exact ⟨k0, h1, h2.symm⟩

theorem Rel.clean (R : Rel B0 I0 w0 ρ0 st I ρ a w) (D K : List Nat) : Rel B0 I0 w0 ρ0 (st.clean D K) I ρ a { w with drawn := w.drawn + 1 } := by
  have hk : ∀ b, I b → I b ∧ ({ w with drawn := w.drawn + 1 } : World).heap[b]? = w.heap[b]? := fun b hb => ⟨hb, rfl⟩
  refine ⟨?_, ?_, ?_, ?_, R.ilt, ?_, R.sz, R.df, R.stab, ?_, R.imm, R.im0, R.fr, R.os, R.tape, R.output, R.size⟩
  · intro t
    have ht := R.tm t
    simp only [Sym.clean, cleanT_eq]
    split
    · rename_i h1 hg
      unfold Entry.rep at *
      rw [Entry.kill_g, hg]
      rw [hg] at ht
      exact ⟨fun _ => Entry.kill_rep K hk (fun _ _ => rfl) (ht.1 (all_nil st)), fun h => absurd (all_nil _) h⟩
    · exact ⟨fun _ => trivial, fun h => absurd (all_nil _) h⟩
  · intro c k h
    obtain ⟨k0, h1, rfl⟩ := clean_h h
    exact Chunk.killed_rep K hk (fun _ _ => rfl) (fun _ _ => rfl) (R.ch c k0 h1)
  · intro c d k k' L M h h' hne hL hM
    obtain ⟨k0, h1, _⟩ := clean_h h
    obtain ⟨k1, h2, _⟩ := clean_h h'
    exact R.sep c d k0 k1 L M h1 h2 hne hL hM
  · intro c k L h hL
    obtain ⟨k0, h1, _⟩ := clean_h h
    exact R.out c k0 L h1 hL
  · intro t l hl
    simp only [Sym.clean, cleanT_eq] at hl
    split at hl
    · rename_i h1 hg
      rw [Entry.kill_g, hg] at hl; simp at hl
    · simp at hl
  · intro c k L h hL
    obtain ⟨k0, h1, _⟩ := clean_h h
    exact R.own c k0 L h1 hL

theorem clean_free (D K : List Nat) {K' : List Nat} (h : ∀ c ∈ K', c ∈ K) : (st.clean D K).free K' := by
  refine ⟨?_, ?_⟩
  · intro t
    simp only [Sym.clean, cleanT_eq]
    split
    · exact Entry.kill_free K h _
    · simp [oneS, SV.free, V0.free, Leaf.free, Leaf.has]
  · intro c k hc
    obtain ⟨k0, _, rfl⟩ := clean_h hc
    exact Chunk.killed_free K h k0

/-! ### One operation, what it looks at written out -/

structure Rec where
  o : Oper
  big : Bool
  n : Nat
  mv : List Nat
  ts : List (Nat × Entry)
  cs : List (Nat × Chunk)
  ls : List (Nat × Bool)
  d : Delta
  mid : Bool

def evOK (P : Program) (Γ : Gam) (ops : Array Oper) (s : Sym) (o : Oper) (ls : List (Nat × Bool)) (d : Delta) : Prop :=
  sxLs s ops o = some ls ∧
  ((∃ f vs hs, goCall s ls o.op = some (f, vs) ∧ IsFn P f ∧ gImp s ls (Quiet P f vs hs d.val) ∧ hmatch s hs ∧ d = ⟨[], d.val, none, []⟩) ∨
   (goCall s ls o.op = none ∧ dl Γ s ls (noGuard ls) (idOf o.dst) o.op = some d ∧ okGuard ls d = true ∧ gImp s ls (conj d.ob)))

/-- What an operation looks at is as it was recorded; it may change what is there. -/
structure Mid (P : Program) (Γ : Gam) (ops : Array Oper) (st : Sym) (r : Rec) : Prop where
  hn : st.n = r.n
  hmv : st.mv = r.mv
  et : ematch st r.ts
  ec : hmatch st r.cs
  lab : allLabs r.ts r.ts = true
  lin : labsIn r.ts r.ls = true
  ev : evOK P Γ ops (partE r.n r.mv r.ts r.cs) r.o r.ls r.d
  hi : ∀ c ∈ r.d.kill, 100 ≤ c

/-- What an operation looks at is as it was recorded. -/
structure Small (P : Program) (Γ : Gam) (ops : Array Oper) (st : Sym) (r : Rec) : Prop where
  hn : st.n = r.n
  hmv : st.mv = r.mv
  et : ematch st r.ts
  ec : hmatch st r.cs
  lab : allLabs r.ts r.ts = true
  lin : labsIn r.ts r.ls = true
  ev : evOK P Γ ops (partE r.n r.mv r.ts r.cs) r.o r.ls r.d
  jk : ∀ u, r.o.dst = some u → ∀ K, (st.t u).v.free K = true
  fr : st.free r.d.kill
  hi : ∀ c ∈ r.d.kill, 100 ≤ c

theorem Small.toMid {P : Program} {Γ : Gam} {ops : Array Oper} {st : Sym} {r : Rec} (h : Small P Γ ops st r) : Mid P Γ ops st r := ⟨h.hn, h.hmv, h.et, h.ec, h.lab, h.lin, h.ev, h.hi⟩

def Rec.ok (P : Program) (Γ : Gam) (ops : Array Oper) (st : Sym) (r : Rec) : Prop :=
  dstOk st r.o.dst r.ls = true ∧
  match r.big with
  | true => evOK P Γ ops st r.o r.ls r.d
  | false => Mid P Γ ops st r

def Rec.next (st : Sym) (r : Rec) : Sym := st.apply r.o.dst r.ls r.d

theorem Step.up {s : Sym} {d : Delta} (S : Step s I ρ w d I' ρ' w') (h : ∀ c k, s.h c = some k → st.h c = some k) : Step st I ρ w d I' ρ' w' := by
  have hs : ∀ c, (s.h c).isSome = true → (st.h c).isSome = true := fun c hc => by
    obtain ⟨k, hk⟩ := Option.isSome_iff_exists.1 hc
    rw [h c k hk]; rfl
  refine ⟨fun b hb hn => S.blk b hb fun c k L h1 h2 h3 => hn c k L h1 (hs c h2) h3, S.size, S.os, S.tape, S.output, S.imm, S.imm', S.rho, S.kil, ?_⟩
  intro c k hk
  obtain ⟨h1, h2⟩ := S.new c k hk
  refine ⟨h1, fun L' hL => ⟨(h2 L' hL).1, ?_⟩⟩
  rcases (h2 L' hL).2 with ⟨L, a1, a2, a3⟩ | h3
  · exact .inl ⟨L, hs c a1, a2, a3⟩
  · exact .inr h3

/-- What an operation does to a state that says at least as much as the one in which it was reckoned. -/
theorem one_ok (hΓ : Γ.ok P) {ops : Array Oper} {s : Sym} {o : Oper} {ls : List (Nat × Bool)} {d : Delta} {Q : Exit → Act → World → Prop} {K : Act → World → Prop} (R : Rel B0 I0 w0 ρ0 st I ρ a w) (R' : Rel B0 I0 w0 ρ0 s I ρ a w)
    (hsub : ∀ c k, s.h c = some k → st.h c = some k) (hcond : ∀ l ∈ ls, s.cond l = st.cond l) (h : evOK P Γ ops s o ls d) (hd : dstOk st o.dst ls = true)
    (hK : ∀ I' ρ' a' w', Rel B0 I0 w0 ρ0 (st.apply o.dst ls d) I' ρ' a' w' → K a' w') :
    if Region.wanted o (yielded ops a.tmps) = true then o.wp P a w K Q ∨ (o.asks P a w ∧ LetsOut Q) else K (a.put o.dst undef) w := by
  have hd := dstOk_ok hd
  obtain ⟨hls, h⟩ := h
  have hw := wanted_ok R' hls
  have hall : s.all ls ↔ st.all ls := ⟨fun k l hl => by rw [← hcond l hl]; exact k l hl, fun k l hl => by rw [hcond l hl]; exact k l hl⟩
  rcases h with ⟨f, vs, hs, hgc, hfn, hq, hm, hdd⟩ | ⟨hgc, hdl, hok, hob⟩
  · -- a call
    have hmst : hmatch st hs := by
      have : ∀ {hs : List (Nat × Chunk)}, hmatch s hs → hmatch st hs := by
        intro hs
        induction hs with
        | nil => exact fun _ => trivial
        | cons p hs ih => exact fun h => ⟨hsub _ _ h.1, ih h.2⟩
      exact this hm
    by_cases hl : s.all ls
    · rw [if_pos (hw.2 hl)]
      unfold goCall at hgc
      split at hgc
      · rename_i cc ho
        split at hgc
        · rename_i fv hcal
          split at hgc
          · rename_i f' caps vs' hfv hvs
            simp only [Option.some.injEq, Prod.mk.injEq] at hgc
            obtain ⟨rfl, rfl⟩ := hgc
            obtain ⟨cv, hcv, hcaps⟩ := ev1_ok R' hl hfv
            refine .inl ?_
            unfold Oper.wp
            rw [exec_call ho hcal hcv hfn]
            simp only [Oper.upon]
            have hargs := evVs_ok R' hl hvs
            have hmk := hmatch_ok hmst
            refine ((gImp_all hq hl) I ρ w (cc.args.map a.eval ++ cv) ?_ (fun c k hk => R.ch c k (hmk c k hk)) (fun c d k k' L M hk hk' => R.sep c d k k' L M (hmk c k hk) (hmk d k' hk')) (fun c k L hk => R.out c k L (hmk c k hk)) R.ilt).mono ?_
            · simpa using hargs.app (capArgs_rep hcaps)
            · rintro e w' ⟨v, r, hs', I', ρ', rfl, ⟨rfl, rfl⟩, hrc, hhc, hr, H, hst⟩
              obtain ⟨ρ'', R''⟩ := R.call hmst H hst hr hrc hhc o.dst ls hd (hall.1 hl)
              rw [callSt_quiet hmst] at R''
              rw [hdd] at hK
              exact hK _ _ _ _ R''
          · cases hgc
        · cases hgc
      · cases hgc
    · rw [if_neg (fun e => hl (hw.1 e))]
      rw [hdd] at hK
      exact hK I ρ _ _ (R.step (Step.pure st I ρ w [] d.val) o.dst ls undef hd (fun h => absurd (hall.2 h) hl) (fun _ => rfl))
  · by_cases hl : s.all ls
    · rw [if_pos (hw.2 hl)]
      obtain ⟨v, w', I', ρ', hy, hS, hr⟩ := dl_ok hΓ R' hl hdl (conj_all (gImp_all hob hl))
      have R2 := R.step (hS.up hsub) o.dst ls v hd (fun _ => hr) (fun h => absurd (hall.1 hl) h)
      refine .inl ?_
      unfold Oper.wp
      rcases hy with hy | ⟨hy, rfl⟩
      · rw [hy]; exact hK _ _ _ _ R2
      · rw [hy]; exact hK _ _ _ _ R2
    · rw [if_neg (fun e => hl (hw.1 e))]
      have hlsn : ls ≠ [] := fun e => hl (by rw [e]; exact all_nil s)
      have hdu : d = ⟨d.ob, d.val, none, []⟩ := by
        unfold okGuard at hok
        split at hok
        · exact absurd rfl hlsn
        · rename_i h1 h2; cases d; simp_all
        · cases hok
      rw [hdu] at hK
      exact hK I ρ _ _ (R.step (Step.pure st I ρ w d.ob d.val) o.dst ls undef hd (fun h => absurd (hall.2 h) hl) (fun _ => rfl))

theorem Rec.ok_run (hΓ : Γ.ok P) {ops : Array Oper} {r : Rec} {Q : Exit → Act → World → Prop} {K : Act → World → Prop} (h : r.ok P Γ ops st) (R : Rel B0 I0 w0 ρ0 st I ρ a w)
    (hK : ∀ I' ρ' a' w', Rel B0 I0 w0 ρ0 (r.next st) I' ρ' a' w' → K a' w') :
    if Region.wanted r.o (yielded ops a.tmps) = true then r.o.wp P a w K Q ∨ (r.o.asks P a w ∧ LetsOut Q) else K (a.put r.o.dst undef) w := by
  obtain ⟨hd, h⟩ := h
  split at h
  · exact one_ok hΓ R R (fun _ _ h => h) (fun _ _ => rfl) h hd hK
  · have hR := R.part h.et h.ec h.lab
    rw [h.hn, h.hmv] at hR
    exact one_ok hΓ R hR (hmatch_ok h.ec) (fun l hl => part_cond h.et (labsIn_mem h.lin l hl)) h.ev hd hK

end
end Go.Sx
