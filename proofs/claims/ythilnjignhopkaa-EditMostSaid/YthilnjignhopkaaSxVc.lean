/- Conditions for code: vc turns the code of a function, a symbolic state and a wish into a proposition; vc_ok: where it holds, the model's Code.wp holds. FnOK: what a function's contract says. Conditions: the table of types is true of the program. -/
import Derived.Test.YthilnjignhopkaaSxSx
set_option linter.unusedSimpArgs false
set_option linter.unusedVariables false
namespace Go.Sx
open Go

/-! ### Heaps -/

/-- A list of chunks as a heap. -/
def hp : List (Nat × Chunk) → Nat → Option Chunk
  | [], _ => none
  | (d, k) :: hs, c =>
    match Nat.beq d c with
    | true => some k
    | false => hp hs c

def hasKey (hs : List (Nat × Chunk)) (c : Nat) : Bool :=
  match hp hs c with
  | some _ => true
  | none => false

/-- The memory's part of Rel. -/
structure HRel (B0 I0 : Nat → Prop) (w0 : World) (h : Nat → Option Chunk) (I : Nat → Prop) (ρ : Rho) (w : World) : Prop where
  ch : ∀ c k, h c = some k → k.rep w I ρ (ρ c)
  sep : ∀ c d k k' L M, h c = some k → h d = some k' → c ≠ d → ρ c = some L → ρ d = some M → L.b ≠ M.b
  out : ∀ c k L, h c = some k → ρ c = some L → ¬ I L.b
  ilt : ∀ b, I b → b < w.heap.size
  own : ∀ c k L, h c = some k → ρ c = some L → B0 L.b ∨ w0.heap.size ≤ L.b
  imm : ∀ b, I b → I0 b ∨ B0 b ∨ w0.heap.size ≤ b
  im0 : ∀ b, I0 b → I b
  fr : ∀ b, b < w0.heap.size → ¬ B0 b → w.heap[b]? = w0.heap[b]?
  os : w.os = w0.os
  tape : w.tape = w0.tape
  output : w.output = w0.output
  size : w0.heap.size ≤ w.heap.size

/-- A symbolic cell speaks of chunks of a heap alone. -/
def Leaf.closed (hs : List (Nat × Chunk)) : Leaf → Bool
  | .ref c _ => hasKey hs c
  | .eref c _ _ => hasKey hs c
  | .vec c => hasKey hs c
  | .slc c _ _ => hasKey hs c
  | .mapr c => hasKey hs c
  | .clo _ caps => caps.all (hasKey hs)
  | _ => true

def leafsClosed (hs : List (Nat × Chunk)) : List Leaf → Bool
  | [] => true
  | x :: xs =>
    match x.closed hs with
    | true => leafsClosed hs xs
    | false => false

def V0.closed (hs : List (Nat × Chunk)) : V0 → Bool
  | .cell x => x.closed hs
  | .agg xs => leafsClosed hs xs

def SV.closed (hs : List (Nat × Chunk)) : SV → Bool
  | .one x => x.closed hs
  | .tup xs => xs.all (V0.closed hs)

def Chunk.closed (hs : List (Nat × Chunk)) : Chunk → Bool
  | .cells ls => leafsClosed hs ls
  | _ => true

def heapClosed (hs : List (Nat × Chunk)) : List (Nat × Chunk) → Bool
  | [] => true
  | (_, k) :: r =>
    match k.closed hs with
    | true => heapClosed hs r
    | false => false

theorem Leaf.closed_has {hs : List (Nat × Chunk)} {x : Leaf} (h : x.closed hs = true) {c : Nat} (hc : x.has c = true) : hasKey hs c = true := by
  cases x <;> simp only [Leaf.has] at hc <;> (try (cases hc; done))
  case clo f caps =>
    simp only [List.any_eq_true] at hc
    obtain ⟨d, h1, h2⟩ := hc
    have e := Nat.eq_of_beq_eq_true h2
    subst e
    simp only [Leaf.closed, List.all_eq_true] at h
    exact h d h1
  all_goals (have e := Nat.eq_of_beq_eq_true hc; subst e; exact h)

theorem leafsClosed_mem {hs : List (Nat × Chunk)} : ∀ {xs : List Leaf}, leafsClosed hs xs = true → ∀ x ∈ xs, x.closed hs = true
  | [], _, _, h => by simp at h
  | y :: ys, h, x, hx => by
    unfold leafsClosed at h
    split at h
    · rename_i hy
      rcases List.mem_cons.1 hx with e | e
      · rw [e]; exact hy
      · exact leafsClosed_mem h x e
    · cases h

theorem heapClosed_hp {hs : List (Nat × Chunk)} : ∀ {r : List (Nat × Chunk)}, heapClosed hs r = true → ∀ c k, hp r c = some k → k.closed hs = true
  | [], _, c, k, h => by simp [hp] at h
  | (d, k') :: r, h, c, k, hc => by
    unfold heapClosed at h
    split at h
    · rename_i hk
      unfold hp at hc
      split at hc
      · cases hc; exact hk
      · exact heapClosed_hp h c k hc
    · cases h

section
variable {w : World} {I : Nat → Prop} {ρ ρ' : Rho} {hs : List (Nat × Chunk)}
theorem Leaf.rep_keys (h : ∀ c, hasKey hs c = true → ρ' c = ρ c) {v : Value} {x : Leaf} (hc : x.closed hs = true) (hx : x.rep w I ρ v) : x.rep w I ρ' v :=
  Leaf.rep_mono (fun _ hb => ⟨hb, rfl⟩) (fun c hc' => h c (Leaf.closed_has hc hc')) hx

theorem All2.mem2 {α β : Type} {R S : α → β → Prop} : ∀ {as : List α} {bs : List β}, (∀ a, ∀ b ∈ bs, R a b → S a b) → All2 R as bs → All2 S as bs
  | [], [], _, _ => trivial
  | _ :: _, b :: _, h, k => ⟨h _ b (by simp) k.1, All2.mem2 (fun a c hc => h a c (by simp [hc])) k.2⟩
  | [], _ :: _, _, k => k.elim
  | _ :: _, [], _, k => k.elim

theorem V0.rep_keys (h : ∀ c, hasKey hs c = true → ρ' c = ρ c) {v : Value} {x : V0} (hc : x.closed hs = true) (hx : x.rep w I ρ v) : x.rep w I ρ' v := by
  cases x with
  | cell x => exact Leaf.rep_keys h hc hx
  | agg xs =>
    obtain ⟨cs, e, hall⟩ := hx
    exact ⟨cs, e, hall.mem2 fun a b hb => Leaf.rep_keys h (leafsClosed_mem hc b hb)⟩

theorem SV.rep_keys (h : ∀ c, hasKey hs c = true → ρ' c = ρ c) {v : Value} {x : SV} (hc : x.closed hs = true) (hx : x.rep w I ρ v) : x.rep w I ρ' v := by
  cases x with
  | one x => exact V0.rep_keys h hc hx
  | tup xs =>
    obtain ⟨cs, e, hall⟩ := hx
    simp only [SV.closed, List.all_eq_true] at hc
    exact ⟨cs, e, hall.mem2 fun a b hb => V0.rep_keys h (hc b hb)⟩

theorem Chunk.rep_keys (h : ∀ c, hasKey hs c = true → ρ' c = ρ c) {loc : Option Loc} {k : Chunk} (hc : k.closed hs = true) (hk : k.rep w I ρ loc) : k.rep w I ρ' loc := by
  cases k with
  | cells ls =>
    obtain ⟨L, cs, el, h1, h2, h3, h4⟩ := hk
    exact ⟨L, cs, el, h1, h2, h3, h4.mem2 fun a b hb hr => ⟨hr.1, Leaf.rep_keys h (leafsClosed_mem hc b hb) hr.2⟩⟩
  | arr e l => exact hk
  | mp k e ea l => exact hk
end

def blocksOf (hs : List (Nat × Chunk)) (ρ : Rho) (b : Nat) : Prop := ∃ c k L, hp hs c = some k ∧ ρ c = some L ∧ L.b = b

/-- What a function does: called with arguments and owned chunks, it returns a value and leaves chunks as Q says; of the chunks that it got, those in mv may lie elsewhere. -/
def FnOK (P : Program) (f : Nat) (args : List V0) (hs : List (Nat × Chunk)) (mv : List Nat) (Q : SV → List (Nat × Chunk) → Prop) : Prop :=
  ∀ (I : Nat → Prop) (ρ : Rho) (w : World) (vs : Array Value), All2 (V0.rep w I ρ) vs.toList args →
    (∀ c k, hp hs c = some k → k.rep w I ρ (ρ c)) →
    (∀ c d k k' L M, hp hs c = some k → hp hs d = some k' → c ≠ d → ρ c = some L → ρ d = some M → L.b ≠ M.b) →
    (∀ c k L, hp hs c = some k → ρ c = some L → ¬ I L.b) → (∀ b, I b → b < w.heap.size) →
    Calls P f vs w fun e w' => ∃ v r hs' I' ρ', e = .returned v ∧ Q r hs' ∧ r.closed hs' = true ∧ heapClosed hs' hs' = true ∧ r.rep w' I' ρ' v ∧ HRel (blocksOf hs ρ) I w (hp hs') I' ρ' w' ∧ ∀ c, (hp hs c).isSome = true → c ∉ mv → ρ' c = ρ c

theorem FnOK.mono {P : Program} {f : Nat} {args : List V0} {hs : List (Nat × Chunk)} {mv : List Nat} {Q Q' : SV → List (Nat × Chunk) → Prop} (h : FnOK P f args hs mv Q) (hq : ∀ r hs', Q r hs' → Q' r hs') : FnOK P f args hs mv Q' :=
  fun I ρ w vs h1 h2 h3 h4 h5 => (h I ρ w vs h1 h2 h3 h4 h5).mono fun _ _ ⟨v, r, hs', I', ρ', e, q, k⟩ => ⟨v, r, hs', I', ρ', e, hq _ _ q, k⟩

/-! ### Calls -/

/-- The heap behind a call: what the callee got is gone, what it left is there, all else stays. -/
def callH (st : Sym) (hs hs' : List (Nat × Chunk)) (kl : List Nat) (c : Nat) : Option Chunk :=
  match hp hs' c with
  | some k => some k
  | none =>
    match hasKey hs c with
    | true => none
    | false => (st.h c).map (Chunk.killed kl)

/-- The names that are new behind a call. -/
def newKeys (hs : List (Nat × Chunk)) : List (Nat × Chunk) → List Nat
  | [] => []
  | (c, _) :: r =>
    match hasKey hs c with
    | true => newKeys hs r
    | false => c :: newKeys hs r

def callSt (st : Sym) (dst : Option Nat) (ls : List (Nat × Bool)) (r : SV) (hs hs' : List (Nat × Chunk)) (mv : List Nat) : Sym where
  n := st.n
  t := fun t => atDst dst t ⟨ls, r⟩ ((st.t t).kill (mv ++ newKeys hs hs'))
  h := callH st hs hs' (mv ++ newKeys hs hs')
  gs := fun l => st.gs l || ls.any (fun p => Nat.beq p.1 l)
  mv := below (mv ++ newKeys hs hs') st.mv

theorem mem_newKeys {hs : List (Nat × Chunk)} {c : Nat} : ∀ {hs' : List (Nat × Chunk)}, hasKey hs' c = true → hasKey hs c = false → c ∈ newKeys hs hs'
  | [], h, _ => by simp [hasKey, hp] at h
  | (d, k) :: r, h, h2 => by
    unfold newKeys
    by_cases e : d = c
    · subst e; rw [h2]; simp
    · have h' : hasKey r c = true := by
        unfold hasKey hp at h
        rw [beq_ne e] at h
        exact h
      split
      · exact mem_newKeys h' h2
      · exact List.mem_cons_of_mem _ (mem_newKeys h' h2)

theorem newKeys_mem {hs : List (Nat × Chunk)} {c : Nat} : ∀ {hs' : List (Nat × Chunk)}, c ∈ newKeys hs hs' → hasKey hs c = false
  | [], h => by simp [newKeys] at h
  | (d, k) :: r, h => by
    unfold newKeys at h
    split at h
    · exact newKeys_mem h
    · rename_i hd
      rcases List.mem_cons.1 h with e | e
      · rw [e]; exact hd
      · exact newKeys_mem e

section
variable {P : Program} {Γ : Gam} {B0 I0 : Nat → Prop} {w0 : World} {ρ0 : Rho} {st : Sym} {w w' : World} {I I' : Nat → Prop} {ρ ρ' : Rho} {a : Act} {ls : List (Nat × Bool)}

/-- Some chunks of a state. -/
def hmatch (st : Sym) : List (Nat × Chunk) → Prop
  | [] => True
  | (c, k) :: r => st.h c = some k ∧ hmatch st r

theorem hmatch_ok : ∀ {hs : List (Nat × Chunk)}, hmatch st hs → ∀ c k, hp hs c = some k → st.h c = some k
  | [], _, c, k, h => by simp [hp] at h
  | (d, k') :: r, h, c, k, hc => by
    unfold hp at hc
    split at hc
    · rename_i hb
      have e := Nat.eq_of_beq_eq_true hb
      cases hc; subst e; exact h.1
    · exact hmatch_ok h.2 c k hc

theorem hasKey_iff {hs : List (Nat × Chunk)} {c : Nat} : hasKey hs c = true ↔ ∃ k, hp hs c = some k := by
  unfold hasKey
  cases hp hs c <;> simp

/-- A state whose heap is another, what it says of temporaries aside. -/
theorem Rel.call (R : Rel B0 I0 w0 ρ0 st I ρ a w) {hs hs' : List (Nat × Chunk)} {mv : List Nat} (hm : hmatch st hs) (H : HRel (blocksOf hs ρ) I w (hp hs') I' ρ' w')
    (hst : ∀ c, (hp hs c).isSome = true → c ∉ mv → ρ' c = ρ c) {r : SV} {v : Value} (hr : r.rep w' I' ρ' v) (hrc : r.closed hs' = true) (hhc : heapClosed hs' hs' = true)
    (dst : Option Nat) (ls : List (Nat × Bool)) (hd : ∀ u, dst = some u → u < st.n ∧ st.gs u = false ∧ ∀ l ∈ ls, l.1 ≠ u) (hall : st.all ls) :
    ∃ ρ'', Rel B0 I0 w0 ρ0 (callSt st dst ls r hs hs' mv) I' ρ'' (a.put dst v) w' := by
  have hmk := hmatch_ok hm
  have hblk : ∀ b, blocksOf hs ρ b → ∃ c k L, st.h c = some k ∧ hasKey hs c = true ∧ ρ c = some L ∧ L.b = b := fun b ⟨c, k, L, h1, h2, h3⟩ => ⟨c, k, L, hmk c k h1, hasKey_iff.2 ⟨k, h1⟩, h2, h3⟩
  let ρ'' : Rho := fun c => if hasKey hs c = true ∨ hasKey hs' c = true then ρ' c else ρ c
  have hρ1 : ∀ c, hasKey hs' c = true → ρ'' c = ρ' c := fun c hc => by simp [ρ'', hc]
  have hρ2 : ∀ c, c ∉ mv ++ newKeys hs hs' → ρ'' c = ρ c := fun c hc => by
    simp only [List.mem_append, not_or] at hc
    by_cases h1 : hasKey hs c = true
    · have : (hp hs c).isSome = true := by obtain ⟨k, hk⟩ := hasKey_iff.1 h1; simp [hk]
      simp only [ρ'', h1, true_or, if_true]
      exact hst c this hc.1
    · by_cases h2 : hasKey hs' c = true
      · exact absurd (mem_newKeys h2 (by simpa using h1)) hc.2
      · simp [ρ'', h1, h2]
  have hρ3 : ∀ c, hasKey hs c = false → hasKey hs' c = false → ρ'' c = ρ c := fun c h1 h2 => by simp [ρ'', h1, h2]
  have hkeep : ∀ b, I b → I' b ∧ w'.heap[b]? = w.heap[b]? := fun b hb => ⟨H.im0 b hb, H.fr b (R.ilt b hb) fun hbl => by
    obtain ⟨c, k, L, h1, _, h2, h3⟩ := hblk b hbl
    exact R.out c k L h1 h2 (h3 ▸ hb)⟩
  -- chunks that the callee did not get
  have hold : ∀ c k L, st.h c = some k → hasKey hs c = false → ρ c = some L → L.b < w.heap.size ∧ ¬ blocksOf hs ρ L.b ∧ w'.heap[L.b]? = w.heap[L.b]? := fun c k L h1 h2 h3 => by
    have hlt := R.ch c k h1
    rw [h3] at hlt
    have hlt := Chunk.lt hlt
    have hnb : ¬ blocksOf hs ρ L.b := fun hbl => by
      obtain ⟨c', k', L', h4, h5, h6, h7⟩ := hblk _ hbl
      exact R.sep c' c k' k L' L h4 h1 (fun e => by rw [e, h2] at h5; cases h5) h6 h3 h7
    exact ⟨hlt, hnb, H.fr _ hlt hnb⟩
  have hcall : ∀ c k, callH st hs hs' (mv ++ newKeys hs hs') c = some k → hp hs' c = some k ∨ (hasKey hs' c = false ∧ hasKey hs c = false ∧ ∃ k0, st.h c = some k0 ∧ k = k0.killed (mv ++ newKeys hs hs')) := fun c k h => by
    unfold callH at h
    cases hq : hp hs' c with
    | some k' => rw [hq] at h; exact .inl h
    | none =>
      rw [hq] at h
      have h' : hasKey hs' c = false := by simp [hasKey, hq]
      cases hk : hasKey hs c with
      | true => rw [hk] at h; cases h
      | false =>
        rw [hk] at h
        simp only [Option.map_eq_some_iff] at h
        obtain ⟨k0, h1, h2⟩ := h
        exact .inr ⟨h', rfl, k0, h1, h2.symm⟩
  refine ⟨ρ'', ?_, ?_, ?_, ?_, H.ilt, ?_, ?_, ?_, ?_, ?_, ?_, fun b hb => H.im0 b (R.im0 b hb), ?_, by rw [H.os, R.os], by rw [H.tape, R.tape], by rw [H.output, R.output], Nat.le_trans R.size H.size⟩
  · -- temporaries
    intro t
    have hcond : ∀ (l : Nat × Bool), (∀ u, dst = some u → u ≠ l.1) → (callSt st dst ls r hs hs' mv).cond l = st.cond l := fun l hl => by
      rw [Sym.cond_eq, Sym.cond_eq]
      show (match bitOf (atDst dst l.1 _ _ : Entry).v with | some b => b == l.2 | none => false) = _
      rw [atDst_ne hl, bitOf_kill]
      rfl
    have hg : ∀ (g : List (Nat × Bool)), (∀ l ∈ g, st.gs l.1 = true) → ((callSt st dst ls r hs hs' mv).all g ↔ st.all g) := fun g hg =>
      have hc : ∀ l ∈ g, (callSt st dst ls r hs hs' mv).cond l = st.cond l := fun l hl => hcond l fun u e e' => by
        have := (hd u e).2.1
        rw [e', hg l hl] at this; cases this
      ⟨fun h l hl => by rw [← hc l hl]; exact h l hl, fun h l hl => by rw [hc l hl]; exact h l hl⟩
    have hgl : (callSt st dst ls r hs hs' mv).all ls ↔ st.all ls :=
      have hc : ∀ l ∈ ls, (callSt st dst ls r hs hs' mv).cond l = st.cond l := fun l hl => hcond l fun u e e' => (hd u e).2.2 l hl e'.symm
      ⟨fun h l hl => by rw [← hc l hl]; exact h l hl, fun h l hl => by rw [hc l hl]; exact h l hl⟩
    rw [getD_put a dst v t (fun u e => by rw [R.sz]; exact (hd u e).1)]
    show Entry.rep w' I' ρ'' _ _ (atDst dst t _ _)
    by_cases hdt : dst = some t
    · subst hdt
      rw [atDst_eq, atDst_eq]
      exact ⟨fun _ => SV.rep_keys hρ1 hrc hr, fun h => absurd (hgl.2 hall) h⟩
    · have hne : ∀ u, dst = some u → u ≠ t := fun u e e' => hdt (by rw [e, e'])
      rw [atDst_ne hne, atDst_ne hne]
      have ht := R.tm t
      unfold Entry.rep at *
      rw [Entry.kill_g, hg _ (fun l hl => R.lab t l hl)]
      exact ⟨fun h => Entry.kill_rep _ hkeep hρ2 (ht.1 h), ht.2⟩
  · -- chunks
    intro c k hk
    rcases hcall c k hk with h | ⟨h1, h2, k0, h3, rfl⟩
    · rw [hρ1 c (hasKey_iff.2 ⟨k, h⟩)]
      exact Chunk.rep_keys hρ1 (heapClosed_hp hhc c k h) (H.ch c k h)
    · rw [hρ3 c h2 h1]
      exact Chunk.killed_rep _ hkeep hρ2 (fun L hL => (hold c k0 L h3 h2 hL).2.2) (R.ch c k0 h3)
  · intro c d k k' L M hk hk' hne hL hM
    rcases hcall c k hk with h | ⟨h1, h2, k0, h3, rfl⟩ <;> rcases hcall d k' hk' with h' | ⟨h1', h2', k0', h3', rfl⟩
    · rw [hρ1 c (hasKey_iff.2 ⟨k, h⟩)] at hL
      rw [hρ1 d (hasKey_iff.2 ⟨k', h'⟩)] at hM
      exact H.sep c d k k' L M h h' hne hL hM
    · rw [hρ1 c (hasKey_iff.2 ⟨k, h⟩)] at hL
      rw [hρ3 d h2' h1'] at hM
      obtain ⟨p1, p2, _⟩ := hold d k0' M h3' h2' hM
      intro e
      rcases H.own c k L h hL with q | q
      · exact p2 (e ▸ q)
      · omega
    · rw [hρ3 c h2 h1] at hL
      rw [hρ1 d (hasKey_iff.2 ⟨k', h'⟩)] at hM
      obtain ⟨p1, p2, _⟩ := hold c k0 L h3 h2 hL
      intro e
      rcases H.own d k' M h' hM with q | q
      · exact p2 (e ▸ q)
      · omega
    · rw [hρ3 c h2 h1] at hL
      rw [hρ3 d h2' h1'] at hM
      exact R.sep c d k0 k0' L M h3 h3' hne hL hM
  · intro c k L hk hL hi
    rcases hcall c k hk with h | ⟨h1, h2, k0, h3, rfl⟩
    · rw [hρ1 c (hasKey_iff.2 ⟨k, h⟩)] at hL
      exact H.out c k L h hL hi
    · rw [hρ3 c h2 h1] at hL
      obtain ⟨p1, p2, _⟩ := hold c k0 L h3 h2 hL
      rcases H.imm _ hi with q | q | q
      · exact R.out c k0 L h3 hL q
      · exact p2 q
      · omega
  · intro t l hl
    simp only [callSt] at hl ⊢
    by_cases hdt : dst = some t
    · subst hdt
      rw [atDst_eq] at hl
      simp only [Bool.or_eq_true, List.any_eq_true]
      exact .inr ⟨l, hl, by simp⟩
    · rw [atDst_ne (fun u e e' => hdt (by rw [e, e'])), Entry.kill_g] at hl
      simp [R.lab t l hl]
  · cases dst <;> simp [Act.put, callSt, R.sz]
  · cases dst <;> simp [Act.put, R.df]
  · intro c h1 h2
    have h3 : c ∉ mv ++ newKeys hs hs' := fun h => h2 (mem_below (.inr ⟨h1, h⟩))
    have h4 : c ∉ st.mv := fun h => h2 (mem_below (.inl h))
    rw [hρ2 c h3, R.stab c h1 h4]
  · intro c k L hk hL
    rcases hcall c k hk with h | ⟨h1, h2, k0, h3, rfl⟩
    · rw [hρ1 c (hasKey_iff.2 ⟨k, h⟩)] at hL
      rcases H.own c k L h hL with q | q
      · obtain ⟨c', k', L', h4, _, h6, h7⟩ := hblk _ q
        rw [← h7]; exact R.own c' k' L' h4 h6
      · have := R.size; exact .inr (by omega)
    · rw [hρ3 c h2 h1] at hL
      exact R.own c k0 L h3 hL
  · intro b hb
    rcases H.imm b hb with q | q | q
    · exact R.imm b q
    · obtain ⟨c', k', L', h4, _, h6, h7⟩ := hblk _ q
      rw [← h7]
      rcases R.own c' k' L' h4 h6 with q | q
      · exact .inr (.inl q)
      · exact .inr (.inr q)
    · have := R.size; exact .inr (.inr (by omega))
  · intro b hb hn
    have hbw : b < w.heap.size := Nat.lt_of_lt_of_le hb R.size
    rw [H.fr b hbw fun hbl => ?_]
    · exact R.fr b hb hn
    · obtain ⟨c', k', L', h4, _, h6, h7⟩ := hblk _ hbl
      rcases R.own c' k' L' h4 h6 with q | q
      · exact hn (h7 ▸ q)
      · omega

/-- The same state with its heap told otherwise. -/
theorem Rel.heapEq {st st' : Sym} (R : Rel B0 I0 w0 ρ0 st I ρ a w) (h1 : st'.n = st.n) (h2 : st'.t = st.t) (h3 : st'.h = st.h) (h4 : st'.gs = st.gs) (h5 : st'.mv = st.mv) : Rel B0 I0 w0 ρ0 st' I ρ a w := by
  have : st' = st := by cases st; cases st'; simp_all
  rw [this]; exact R
end
end Go.Sx
