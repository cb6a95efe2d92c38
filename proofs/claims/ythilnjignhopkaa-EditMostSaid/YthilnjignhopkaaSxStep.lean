/- What one operation changes in a symbolic state, and that the state still speaks truly behind it. Conditions: none (for any program). -/
import Derived.Test.YthilnjignhopkaaSxCore
set_option linter.unusedSimpArgs false
set_option linter.unusedVariables false
namespace Go.Sx
open Go

/-- What an operation changes: what it asks, the value it yields, at most one chunk with new content, the names that no longer say anything. -/
structure Delta where
  ob : List Prop
  val : SV
  upd : Option (Nat × Chunk)
  kill : List Nat

def Entry.kill (k : List Nat) (e : Entry) : Entry :=
  match k with
  | [] => e
  | _ =>
    match e with
    | ⟨g, v⟩ => ⟨g, v.kill k⟩

def Chunk.killed (k : List Nat) (x : Chunk) : Chunk :=
  match k with
  | [] => x
  | _ => x.kill k

theorem beq_ne {a b : Nat} (h : a ≠ b) : Nat.beq a b = false := by
  cases hb : Nat.beq a b with
  | false => rfl
  | true => exact absurd (Nat.eq_of_beq_eq_true hb) h

/-- x at place 'dst', y elsewhere. -/
def atDst {α : Type} (dst : Option Nat) (t : Nat) (x y : α) : α :=
  match dst with
  | some u =>
    match Nat.beq u t with
    | true => x
    | false => y
  | none => y

theorem atDst_eq {α : Type} {u : Nat} {x y : α} : atDst (some u) u x y = x := by simp [atDst]
theorem atDst_ne {α : Type} {dst : Option Nat} {t : Nat} {x y : α} (h : ∀ u, dst = some u → u ≠ t) : atDst dst t x y = y := by
  cases dst with
  | none => rfl
  | some u => simp [atDst, beq_ne (h u rfl)]

/-- The numbers below 100 of a list, before another list. -/
def below : List Nat → List Nat → List Nat
  | [], m => m
  | c :: k, m =>
    match Nat.blt c 100 with
    | true => c :: below k m
    | false => below k m

theorem mem_below : ∀ {k m : List Nat} {c : Nat}, c ∈ m ∨ (c < 100 ∧ c ∈ k) → c ∈ below k m
  | [], m, c, h => by
    rcases h with h | h
    · exact h
    · simp at h
  | d :: k, m, c, h => by
    unfold below
    split
    · rcases h with h | ⟨h1, h2⟩
      · exact List.mem_cons_of_mem _ (mem_below (.inl h))
      · rcases List.mem_cons.1 h2 with e | e
        · rw [e]; exact List.mem_cons_self ..
        · exact List.mem_cons_of_mem _ (mem_below (.inr ⟨h1, e⟩))
    · rename_i hb
      rcases h with h | ⟨h1, h2⟩
      · exact mem_below (.inl h)
      · rcases List.mem_cons.1 h2 with e | e
        · exfalso
          rw [e] at h1
          have : Nat.blt d 100 = true := Nat.ble_eq_true_of_le h1
          rw [this] at hb; cases hb
        · exact mem_below (.inr ⟨h1, e⟩)

def Sym.apply (st : Sym) (dst : Option Nat) (ls : List (Nat × Bool)) (d : Delta) : Sym where
  n := st.n
  t := fun t => atDst dst t ⟨ls, d.val⟩ ((st.t t).kill d.kill)
  h := fun c =>
    match d.upd with
    | some (u, k) =>
      match Nat.beq u c with
      | true => some k
      | false => (st.h c).map (Chunk.killed d.kill)
    | none => (st.h c).map (Chunk.killed d.kill)
  gs := fun l => st.gs l || ls.any (fun p => Nat.beq p.1 l)
  mv := below d.kill st.mv

/-- What becomes of the world in one operation. -/
structure Step (st : Sym) (I : Nat → Prop) (ρ : Rho) (w : World) (d : Delta) (I' : Nat → Prop) (ρ' : Rho) (w' : World) : Prop where
  blk : ∀ b, b < w.heap.size → (∀ c k L, d.upd = some (c, k) → (st.h c).isSome = true → ρ c = some L → L.b ≠ b) → w'.heap[b]? = w.heap[b]?
  size : w.heap.size ≤ w'.heap.size
  os : w'.os = w.os
  tape : w'.tape = w.tape
  output : w'.output = w.output
  imm : ∀ b, I b → I' b
  imm' : ∀ b, I' b → I b ∨ (w.heap.size ≤ b ∧ b < w'.heap.size)
  rho : ∀ c, c ∉ d.kill → ρ' c = ρ c
  kil : ∀ c, c ∈ d.kill → ∃ k, d.upd = some (c, k)
  new : ∀ c k, d.upd = some (c, k) → k.rep w' I' ρ' (ρ' c) ∧
    ∀ L', ρ' c = some L' → (w.heap.size ≤ L'.b → ¬ I' L'.b) ∧ ((∃ L, (st.h c).isSome = true ∧ ρ c = some L ∧ L'.b = L.b) ∨ w.heap.size ≤ L'.b)

theorem getD_put (a : Act) (dst : Option Nat) (v : Value) (t : Nat) (h : ∀ d, dst = some d → d < a.tmps.size) :
    (a.put dst v).tmps.getD t undef = atDst dst t v (a.tmps.getD t undef) := by
  cases dst with
  | none => rfl
  | some u =>
    have hu := h u rfl
    by_cases e : u = t
    · subst e
      rw [atDst_eq]
      simp [Act.put, Array.getD_eq_getD_getElem?, hu]
    · rw [atDst_ne (fun x hx => by cases hx; exact e)]
      simp only [Act.put, Array.getD_eq_getD_getElem?]
      rw [Array.getElem?_setIfInBounds_ne e]

theorem Entry.kill_v (k : List Nat) (e : Entry) : (e.kill k).v = e.v.kill k ∨ ((e.kill k).v = e.v ∧ k = []) := by
  cases k with
  | nil => exact .inr ⟨rfl, rfl⟩
  | cons c k => exact .inl rfl

theorem Entry.kill_g (k : List Nat) (e : Entry) : (e.kill k).g = e.g := by cases k <;> rfl

theorem Entry.kill_bool (k : List Nat) (e : Entry) (b : Bool) : (e.kill k).v = .one (.cell (.bool b)) ↔ e.v = .one (.cell (.bool b)) := by
  cases k with
  | nil => exact Iff.rfl
  | cons c k => exact ⟨SV.kill_bool' _ _ _, SV.kill_bool _ _ _⟩

def bitOf : SV → Option Bool
  | .one (.cell (.bool b)) => some b
  | _ => none

theorem Sym.cond_eq (st : Sym) (l : Nat × Bool) : st.cond l = match bitOf (st.t l.1).v with | some b => b == l.2 | none => false := by
  unfold Sym.cond bitOf
  split <;> simp_all

theorem bitOf_kill (k : List Nat) (e : Entry) : bitOf (e.kill k).v = bitOf e.v := by
  have h := Entry.kill_bool k e
  cases h1 : bitOf e.v with
  | some b =>
    have : e.v = .one (.cell (.bool b)) := by
      unfold bitOf at h1; split at h1 <;> simp_all
    rw [(h b).2 this]; rfl
  | none =>
    cases h2 : bitOf (e.kill k).v with
    | none => rfl
    | some b =>
      have : (e.kill k).v = .one (.cell (.bool b)) := by
        unfold bitOf at h2; split at h2 <;> simp_all
      rw [(h b).1 this] at h1
      simp [bitOf] at h1

theorem apply_t_ne {st : Sym} {dst : Option Nat} {ls : List (Nat × Bool)} {d : Delta} {t : Nat} (h : ∀ u, dst = some u → u ≠ t) : (st.apply dst ls d).t t = (st.t t).kill d.kill :=
  atDst_ne h

theorem apply_t_eq {st : Sym} {u : Nat} {ls : List (Nat × Bool)} {d : Delta} : (st.apply (some u) ls d).t u = ⟨ls, d.val⟩ := atDst_eq

theorem cond_apply {st : Sym} {dst : Option Nat} {ls : List (Nat × Bool)} {d : Delta} {l : Nat × Bool} (h : ∀ u, dst = some u → u ≠ l.1) :
    (st.apply dst ls d).cond l = st.cond l := by
  rw [Sym.cond_eq, Sym.cond_eq, apply_t_ne h, bitOf_kill]

theorem Entry.kill_rep {w w' : World} {I I' : Nat → Prop} {ρ ρ' : Rho} {v : Value} (k : List Nat) (h : ∀ b, I b → I' b ∧ w'.heap[b]? = w.heap[b]?)
    (hr : ∀ c, c ∉ k → ρ' c = ρ c) {e : Entry} (p : e.v.rep w I ρ v) : (e.kill k).v.rep w' I' ρ' v := by
  cases k with
  | nil => exact SV.rep_mono h (fun c => hr c (by simp)) p
  | cons c k => exact SV.kill_rep _ h hr p

theorem Chunk.killed_rep {w w' : World} {I I' : Nat → Prop} {ρ ρ' : Rho} {loc : Option Loc} (k : List Nat) (h : ∀ b, I b → I' b ∧ w'.heap[b]? = w.heap[b]?)
    (hr : ∀ c, c ∉ k → ρ' c = ρ c) (hb : ∀ L, loc = some L → w'.heap[L.b]? = w.heap[L.b]?) {x : Chunk} (p : x.rep w I ρ loc) : (x.killed k).rep w' I' ρ' loc := by
  have := Chunk.kill_rep k h hr hb p
  cases k with
  | nil =>
    have e : Chunk.killed [] x = Chunk.kill [] x := by
      cases x with
      | cells ls =>
        have : (fun x : Leaf => x.kill []) = id := funext Leaf.kill_nil
        simp [Chunk.killed, Chunk.kill, this]
      | arr => rfl
      | mp => rfl
    rw [e]; exact this
  | cons c k => exact this

theorem Chunk.lt {w : World} {I : Nat → Prop} {ρ : Rho} {L : Loc} : ∀ {x : Chunk}, x.rep w I ρ (some L) → L.b < w.heap.size
  | .cells _, ⟨L', cs, el, p, _, r, _⟩ => by
    cases p; exact (Array.getElem?_eq_some_iff.1 r).1
  | .arr _ _, ⟨_, _, _, _, cs, el, r, _⟩ => (Array.getElem?_eq_some_iff.1 r).1
  | .mp _ _ _ _, ⟨L', es, ck, p, q, _⟩ => by
    cases p; exact (Array.getElem?_eq_some_iff.1 q).1

section
variable {B0 I0 : Nat → Prop} {w0 : World} {ρ0 : Rho} {st : Sym} {I I' : Nat → Prop} {ρ ρ' : Rho} {a : Act} {w w' : World} {d : Delta}

theorem apply_h {st : Sym} {dst : Option Nat} {ls : List (Nat × Bool)} {d : Delta} {c : Nat} {k : Chunk} (h : (st.apply dst ls d).h c = some k) :
    (d.upd = some (c, k)) ∨ ((∀ k', d.upd ≠ some (c, k')) ∧ ∃ k0, st.h c = some k0 ∧ k = k0.killed d.kill) := by
  unfold Sym.apply at h
  simp only at h
  cases hu : d.upd with
  | none =>
    rw [hu] at h
    simp only [Option.map_eq_some_iff] at h
    obtain ⟨k0, h1, h2⟩ := h
    exact .inr ⟨by simp, k0, h1, h2.symm⟩
  | some uk =>
    obtain ⟨u, k1⟩ := uk
    rw [hu] at h
    simp only at h
    cases hb : Nat.beq u c with
    | true =>
      rw [hb] at h
      have e : u = c := Nat.eq_of_beq_eq_true hb
      simp only [Option.some.injEq] at h
      subst e; subst h; exact .inl rfl
    | false =>
      rw [hb] at h
      have e : u ≠ c := Nat.ne_of_beq_eq_false hb
      simp only [Option.map_eq_some_iff] at h
      obtain ⟨k0, h1, h2⟩ := h
      exact .inr ⟨by intro k' hk; simp only [Option.some.injEq, Prod.mk.injEq] at hk; exact e hk.1, k0, h1, h2.symm⟩

theorem Rel.keeps (R : Rel B0 I0 w0 ρ0 st I ρ a w) (S : Step st I ρ w d I' ρ' w') : ∀ b, I b → I' b ∧ w'.heap[b]? = w.heap[b]? := by
  intro b hb
  refine ⟨S.imm b hb, S.blk b (R.ilt b hb) ?_⟩
  intro c k L hu hs hr e
  obtain ⟨k0, hk0⟩ := Option.isSome_iff_exists.1 hs
  exact R.out c k0 L hk0 hr (e ▸ hb)

/-- A chunk that the operation does not change keeps its block. -/
theorem Rel.other (R : Rel B0 I0 w0 ρ0 st I ρ a w) (S : Step st I ρ w d I' ρ' w') {c : Nat} {k : Chunk} (hk : st.h c = some k) (hn : ∀ k', d.upd ≠ some (c, k')) :
    ρ' c = ρ c ∧ ∀ L, ρ c = some L → w'.heap[L.b]? = w.heap[L.b]? := by
  refine ⟨S.rho c (fun hc => ?_), fun L hL => ?_⟩
  · obtain ⟨k', hk'⟩ := S.kil c hc
    exact hn k' hk'
  · have hc := R.ch c k hk
    rw [hL] at hc
    refine S.blk L.b (Chunk.lt hc) ?_
    intro c' k' L' hu hs hr e
    obtain ⟨k0, hk0⟩ := Option.isSome_iff_exists.1 hs
    have hne : c' ≠ c := fun e => hn k' (e ▸ hu)
    exact R.sep c' c k0 k L' L hk0 hk hne hr hL e

theorem Rel.step (R : Rel B0 I0 w0 ρ0 st I ρ a w) (S : Step st I ρ w d I' ρ' w') (dst : Option Nat) (ls : List (Nat × Bool)) (v : Value)
    (hd : ∀ u, dst = some u → u < st.n ∧ st.gs u = false ∧ ∀ l ∈ ls, l.1 ≠ u)
    (hv : st.all ls → d.val.rep w' I' ρ' v) (hu : ¬ st.all ls → v = undef) :
    Rel B0 I0 w0 ρ0 (st.apply dst ls d) I' ρ' (a.put dst v) w' where
  tm := fun t => by
    have hkeep := R.keeps S
    have hlab : ∀ (l : Nat × Bool), st.gs l.1 = true → (st.apply dst ls d).cond l = st.cond l := fun l hl => cond_apply fun u hu' e => by
      have := (hd u hu').2.1
      rw [e, hl] at this; cases this
    have hall : ∀ (g : List (Nat × Bool)), (∀ l ∈ g, st.gs l.1 = true) → ((st.apply dst ls d).all g ↔ st.all g) := fun g hg =>
      ⟨fun h l hl => by rw [← hlab l (hg l hl)]; exact h l hl, fun h l hl => by rw [hlab l (hg l hl)]; exact h l hl⟩
    have hallS : (st.apply dst ls d).all ls ↔ st.all ls := by
      have hc : ∀ l ∈ ls, (st.apply dst ls d).cond l = st.cond l := fun l hl => cond_apply fun u hu' e => (hd u hu').2.2 l hl e.symm
      exact ⟨fun h l hl => by rw [← hc l hl]; exact h l hl, fun h l hl => by rw [hc l hl]; exact h l hl⟩
    rw [getD_put a dst v t (fun u e => by rw [R.sz]; exact (hd u e).1)]
    by_cases hdt : dst = some t
    · subst hdt
      rw [apply_t_eq, atDst_eq]
      exact ⟨fun h => hv (hallS.1 h), fun h => hu (fun k => h (hallS.2 k))⟩
    · have hne : ∀ u, dst = some u → u ≠ t := fun u e e' => hdt (by rw [e, e'])
      rw [apply_t_ne hne, atDst_ne hne]
      have ht := R.tm t
      unfold Entry.rep at *
      rw [Entry.kill_g, hall _ (fun l hl => R.lab t l hl)]
      exact ⟨fun h => Entry.kill_rep d.kill hkeep S.rho (ht.1 h), ht.2⟩
  ch := fun c k hk => by
    rcases apply_h hk with h | ⟨hn, k0, hk0, rfl⟩
    · exact (S.new c k h).1
    · have ho := R.other S hk0 hn
      rw [ho.1]
      exact Chunk.killed_rep d.kill (R.keeps S) S.rho ho.2 (R.ch c k0 hk0)
  sep := fun c c' k k' L L' hk hk' hne hL hL' => by
    rcases apply_h hk with h | ⟨hn, k0, hk0, rfl⟩ <;> rcases apply_h hk' with h' | ⟨hn', k0', hk0', rfl⟩
    · rw [h] at h'; simp only [Option.some.injEq, Prod.mk.injEq] at h'; exact absurd h'.1 hne
    · have ho := R.other S hk0' hn'
      rw [ho.1] at hL'
      have hr' := R.ch c' k0' hk0'
      rw [hL'] at hr'
      rcases ((S.new c k h).2 L hL).2 with ⟨M, hs, hM, e⟩ | hge
      · obtain ⟨k1, hk1⟩ := Option.isSome_iff_exists.1 hs
        rw [e]; exact R.sep c c' k1 k0' M L' hk1 hk0' hne hM hL'
      · have := Chunk.lt hr'; omega
    · have ho := R.other S hk0 hn
      rw [ho.1] at hL
      have hr' := R.ch c k0 hk0
      rw [hL] at hr'
      rcases ((S.new c' k' h').2 L' hL').2 with ⟨M, hs, hM, e⟩ | hge
      · obtain ⟨k1, hk1⟩ := Option.isSome_iff_exists.1 hs
        rw [e]; exact R.sep c c' k0 k1 L M hk0 hk1 hne hL hM
      · have := Chunk.lt hr'; omega
    · rw [(R.other S hk0 hn).1] at hL
      rw [(R.other S hk0' hn').1] at hL'
      exact R.sep c c' k0 k0' L L' hk0 hk0' hne hL hL'
  out := fun c k L hk hL hi => by
    rcases apply_h hk with h | ⟨hn, k0, hk0, rfl⟩
    · have hq := (S.new c k h).2 L hL
      rcases hq.2 with ⟨M, hs, hM, e⟩ | hge
      · obtain ⟨k1, hk1⟩ := Option.isSome_iff_exists.1 hs
        have hlt := R.ch c k1 hk1
        rw [hM] at hlt
        have hlt := Chunk.lt hlt
        rcases S.imm' L.b hi with h1 | h1
        · exact R.out c k1 M hk1 hM (e ▸ h1)
        · omega
      · exact hq.1 hge hi
    · rw [(R.other S hk0 hn).1] at hL
      have hlt := R.ch c k0 hk0
      rw [hL] at hlt
      have hlt := Chunk.lt hlt
      rcases S.imm' L.b hi with h1 | h1
      · exact R.out c k0 L hk0 hL h1
      · omega
  ilt := fun b hb => by
    rcases S.imm' b hb with h | h
    · exact Nat.lt_of_lt_of_le (R.ilt b h) S.size
    · exact h.2
  lab := fun t l hl => by
    simp only [Sym.apply] at hl ⊢
    have hk : ∀ (e : Entry), (∀ l ∈ e.g, st.gs l.1 = true) → l ∈ (e.kill d.kill).g → (st.gs l.1 || ls.any fun p => Nat.beq p.1 l.1) = true := fun e he hl => by
      rw [Entry.kill_g] at hl; simp [he l hl]
    by_cases hdt : dst = some t
    · subst hdt
      rw [atDst_eq] at hl
      simp only [Bool.or_eq_true, List.any_eq_true]
      exact .inr ⟨l, hl, by simp⟩
    · rw [atDst_ne (fun u e e' => hdt (by rw [e, e']))] at hl
      exact hk _ (R.lab t) hl
  sz := by
    cases dst <;> simp [Act.put, Sym.apply, R.sz]
  df := by cases dst <;> simp [Act.put, R.df]
  stab := fun c h1 h2 => by
    have h3 : c ∉ d.kill := fun h => h2 (mem_below (.inr ⟨h1, h⟩))
    have h4 : c ∉ st.mv := fun h => h2 (mem_below (.inl h))
    rw [S.rho c h3, R.stab c h1 h4]
  own := fun c k L hk hL => by
    rcases apply_h hk with h | ⟨hn, k0, hk0, rfl⟩
    · rcases ((S.new c k h).2 L hL).2 with ⟨M, hs, hM, e⟩ | hge
      · obtain ⟨k1, hk1⟩ := Option.isSome_iff_exists.1 hs
        rw [e]; exact R.own c k1 M hk1 hM
      · have := R.size; exact .inr (by omega)
    · rw [(R.other S hk0 hn).1] at hL
      exact R.own c k0 L hk0 hL
  imm := fun b hb => by
    rcases S.imm' b hb with h | h
    · exact R.imm b h
    · have := R.size; exact .inr (.inr (by omega))
  im0 := fun b hb => S.imm b (R.im0 b hb)
  fr := fun b hb hn => by
    rw [S.blk b (by have := R.size; omega) ?_]
    · exact R.fr b hb hn
    · intro c k L hu hs hr e
      obtain ⟨k1, hk1⟩ := Option.isSome_iff_exists.1 hs
      rcases R.own c k1 L hk1 hr with h | h
      · exact hn (e ▸ h)
      · omega
  os := by rw [S.os, R.os]
  tape := by rw [S.tape, R.tape]
  output := by rw [S.output, R.output]
  size := Nat.le_trans R.size S.size

/-- Nothing changes in memory. -/
theorem Step.pure (st : Sym) (I : Nat → Prop) (ρ : Rho) (w : World) (ob : List Prop) (v : SV) : Step st I ρ w ⟨ob, v, none, []⟩ I ρ w where
  blk := fun _ _ _ => rfl
  size := Nat.le_refl _
  os := rfl
  tape := rfl
  output := rfl
  imm := fun _ h => h
  imm' := fun _ h => .inl h
  rho := fun _ _ => rfl
  kil := fun c h => by simp at h
  new := fun c k h => by simp at h

theorem push_get {h : Array Obj} {o : Obj} {b : Nat} (hb : b < h.size) : (h.push o)[b]? = h[b]? := by
  rw [Array.getElem?_push]; split
  · omega
  · rfl

/-- A new block, which becomes chunk id. -/
theorem Step.alloc (st : Sym) (I : Nat → Prop) (ρ : Rho) (w w1 : World) (o : Obj) (ob : List Prop) (v : SV) (id : Nat) (k : Chunk) (L : Loc)
    (hL : L.b = w.heap.size) (hi : ∀ b, I b → b < w.heap.size) (h1 : w1.heap = w.heap.push o) (h2 : w1.os = w.os) (h3 : w1.tape = w.tape) (h4 : w1.output = w.output)
    (hk : k.rep w1 I (fun c => if c = id then some L else ρ c) (some L)) :
    Step st I ρ w ⟨ob, v, some (id, k), [id]⟩ I (fun c => if c = id then some L else ρ c) w1 where
  blk := fun b hb _ => by rw [h1]; exact push_get hb
  size := by rw [h1]; simp
  os := h2
  tape := h3
  output := h4
  imm := fun _ h => h
  imm' := fun _ h => .inl h
  rho := fun c hc => by simp only [List.mem_singleton] at hc; simp [hc]
  kil := fun c hc => by simp only [List.mem_singleton] at hc; subst hc; exact ⟨k, rfl⟩
  new := fun c k' h => by
    simp only [Option.some.injEq, Prod.mk.injEq] at h
    obtain ⟨rfl, rfl⟩ := h
    refine ⟨by simpa using hk, fun L' hL' => ?_⟩
    simp only [if_true, Option.some.injEq] at hL'
    subst hL'
    exact ⟨fun _ hI => by have := hi _ hI; omega, .inr (by omega)⟩

/-- A new block that is only read. -/
theorem Step.frozen (st : Sym) (I : Nat → Prop) (ρ : Rho) (w w1 : World) (o : Obj) (ob : List Prop) (v : SV)
    (h1 : w1.heap = w.heap.push o) (h2 : w1.os = w.os) (h3 : w1.tape = w.tape) (h4 : w1.output = w.output) :
    Step st I ρ w ⟨ob, v, none, []⟩ (fun b => I b ∨ b = w.heap.size) ρ w1 where
  blk := fun b hb _ => by rw [h1]; exact push_get hb
  size := by rw [h1]; simp
  os := h2
  tape := h3
  output := h4
  imm := fun _ h => .inl h
  imm' := fun b h => by
    rcases h with h | h
    · exact .inl h
    · subst h; exact .inr ⟨Nat.le_refl _, by rw [h1]; simp⟩
  rho := fun _ _ => rfl
  kil := fun c h => by simp at h
  new := fun c k h => by simp at h

/-- A store into a chunk's block. -/
theorem Step.store (st : Sym) (I : Nat → Prop) (ρ : Rho) (w w1 : World) (ob : List Prop) (v : SV) (c : Nat) (k0 k : Chunk) (L : Loc)
    (hc : st.h c = some k0) (hr : ρ c = some L) (hlt : L.b < w.heap.size) (h0 : ∀ b, b ≠ L.b → w1.heap[b]? = w.heap[b]?) (h1 : w1.heap.size = w.heap.size) (h2 : w1.os = w.os) (h3 : w1.tape = w.tape) (h4 : w1.output = w.output)
    (hk : k.rep w1 I ρ (ρ c)) : Step st I ρ w ⟨ob, v, some (c, k), []⟩ I ρ w1 where
  blk := fun b _ hb => h0 b (fun e => hb c k L rfl (by simp [hc]) hr e.symm)
  size := by omega
  os := h2
  tape := h3
  output := h4
  imm := fun _ h => h
  imm' := fun _ h => .inl h
  rho := fun _ _ => rfl
  kil := fun c h => by simp at h
  new := fun c' k' h => by
    simp only [Option.some.injEq, Prod.mk.injEq] at h
    obtain ⟨rfl, rfl⟩ := h
    refine ⟨hk, fun L' hL' => ?_⟩
    rw [hr] at hL'
    cases hL'
    exact ⟨fun h => by omega, .inl ⟨L, by simp [hc], hr, rfl⟩⟩
end

end Go.Sx
