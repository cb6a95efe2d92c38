/- A nil slice in a cell as an own one (thawC), and a part of an own slice as the whole (rebase). Conditions: none. -/
import Derived.Test.YthilnjignhopkaaSxFrz
set_option linter.unusedSimpArgs false
set_option linter.unusedVariables false
namespace Go.Sx
open Go

section
variable {P : Program} {Γ : Gam} {B0 I0 : Nat → Prop} {w0 : World} {ρ0 : Rho} {st : Sym} {w : World} {I : Nat → Prop} {ρ : Rho} {a : Act}

/-- Chunk c now lies elsewhere, with other content: what the state says behind it. -/
def Sym.moved (st : Sym) (c : Nat) (k : Chunk) (v : Entry → Nat → Entry) (f : Nat → Chunk → Chunk) : Sym where
  n := st.n
  t := fun u => v ((st.t u).kill [c]) u
  h := fun x =>
    match Nat.beq c x with
    | true => some k
    | false => (st.h x).map fun y => f x (Chunk.killed [c] y)
  gs := st.gs
  mv := below [c] st.mv

theorem Rel.moved (R : Rel B0 I0 w0 ρ0 st I ρ a w) (c : Nat) (k : Chunk) (v : Entry → Nat → Entry) (f : Nat → Chunk → Chunk) (loc : Option Loc)
    (hg : ∀ u, (v ((st.t u).kill [c]) u).g = (st.t u).g) (hbit : ∀ u, bitOf (v ((st.t u).kill [c]) u).v = bitOf (st.t u).v)
    (hv : ∀ u, (st.all (st.t u).g → (v ((st.t u).kill [c]) u).v.rep w I (fun d => if d = c then loc else ρ d) (a.tmps.getD u undef)))
    (hf : ∀ x y, x ≠ c → st.h x = some y → (f x (Chunk.killed [c] y)).rep w I (fun d => if d = c then loc else ρ d) (ρ x))
    (hk : k.rep w I (fun d => if d = c then loc else ρ d) loc)
    (hloc : ∀ L', loc = some L' → ∃ k0 L, st.h c = some k0 ∧ ρ c = some L ∧ L.b = L'.b) :
    Rel B0 I0 w0 ρ0 (st.moved c k v f) I (fun d => if d = c then loc else ρ d) a w := by
  have hh : ∀ {d k'}, (st.moved c k v f).h d = some k' → (d = c ∧ k' = k) ∨ (d ≠ c ∧ ∃ k0, st.h d = some k0 ∧ k' = f d (k0.killed [c])) := by
    intro d k' h
    simp only [Sym.moved] at h
    split at h
    · rename_i hb; cases h; exact .inl ⟨(Nat.eq_of_beq_eq_true hb).symm, rfl⟩
    · rename_i hb
      simp only [Option.map_eq_some_iff] at h
      obtain ⟨k0, h1, h2⟩ := h
      exact .inr ⟨fun e => (by rw [e, Nat.beq_refl] at hb; cases hb), k0, h1, h2.symm⟩
  have hl : ∀ {d k' L}, (st.moved c k v f).h d = some k' → (if d = c then loc else ρ d) = some L → ∃ k0 L0, st.h d = some k0 ∧ ρ d = some L0 ∧ L0.b = L.b := by
    intro d k' L h hL
    rcases hh h with ⟨rfl, _⟩ | ⟨hne, k0, h1, _⟩
    · simp only [if_true] at hL
      exact hloc L hL
    · simp only [hne, if_false] at hL
      exact ⟨k0, L, h1, hL, rfl⟩
  have hcond : ∀ p : Nat × Bool, (st.moved c k v f).cond p = st.cond p := fun p => by
    rw [Sym.cond_eq, Sym.cond_eq]
    show (match bitOf (v ((st.t p.1).kill [c]) p.1).v with | some b => b == p.2 | none => false) = _
    rw [hbit]
    rfl
  refine ⟨?_, ?_, ?_, ?_, R.ilt, ?_, R.sz, R.df, ?_, ?_, R.imm, R.im0, R.fr, R.os, R.tape, R.output, R.size⟩
  · intro u
    have hu := R.tm u
    show Entry.rep w I _ _ _ (v ((st.t u).kill [c]) u)
    unfold Entry.rep at *
    rw [hg]
    have hall : (st.moved c k v f).all (st.t u).g ↔ st.all (st.t u).g := ⟨fun h p hp => by rw [← hcond p]; exact h p hp, fun h p hp => by rw [hcond p]; exact h p hp⟩
    rw [hall]
    exact ⟨hv u, hu.2⟩
  · intro d k' hd
    rcases hh hd with ⟨rfl, rfl⟩ | ⟨hne, k0, h1, rfl⟩
    · simp only [if_true]; exact hk
    · simp only [hne, if_false]
      exact hf d k0 hne h1
  · intro d e k' k'' L M hd he hne hL hM
    obtain ⟨k0, L0, h1, h2, h3⟩ := hl hd hL
    obtain ⟨k1, M0, h4, h5, h6⟩ := hl he hM
    rw [← h3, ← h6]
    exact R.sep d e k0 k1 L0 M0 h1 h4 hne h2 h5
  · intro d k' L hd hL
    obtain ⟨k0, L0, h1, h2, h3⟩ := hl hd hL
    rw [← h3]
    exact R.out d k0 L0 h1 h2
  · intro u p hp
    have hp : p ∈ (v ((st.t u).kill [c]) u).g := hp
    rw [hg] at hp
    exact R.lab u p hp
  · intro d hd hn
    have hdc : d ≠ c := fun e => hn (mem_below (.inr ⟨hd, by simp [e]⟩))
    simp only [hdc, if_false]
    exact R.stab d hd fun hm => hn (mem_below (.inl hm))
  · intro d k' L hd hL
    obtain ⟨k0, L0, h1, h2, h3⟩ := hl hd hL
    rw [← h3]
    exact R.own d k0 L0 h1 h2

/-! ### A nil slice in a cell -/

def thawF (d i c : Nat) (x : Nat) (k : Chunk) : Chunk :=
  match Nat.beq d x, k with
  | true, .cells ls => .cells (ls.set i (.vec c))
  | _, k => k

/-- Cell i of chunk d, a nil slice, is chunk c. -/
def Sym.thawC (st : Sym) (d i c : Nat) (T : Ty) : Sym := st.moved c (.arr T []) (fun e _ => e) (thawF d i c)

theorem Tri.thawC {code : Code} {Q : Exit → Sym → Prop} (d i c : Nat) (T : Ty) (ls : List Leaf) (hne : Nat.beq d c = false) (hd : st.h d = some (.cells ls)) (hi : ls[i]? = some .nilsl) (h : Tri P code (st.thawC d i c T) Q) : Tri P code st Q := by
  unfold Tri at *
  intro B0 I0 w0 ρ0 I ρ a w R
  have hρ : ∀ x, x ∉ [c] → (fun d => if d = c then none else ρ d) x = ρ x := fun x hx => by simp at hx; simp [hx]
  have hk : ∀ b, I b → I b ∧ w.heap[b]? = w.heap[b]? := fun b hb => ⟨hb, rfl⟩
  refine h B0 I0 w0 ρ0 I _ a w (R.moved c (.arr T []) (fun e _ => e) (thawF d i c) none (fun u => Entry.kill_g _ _) (fun u => bitOf_kill _ _) (fun u hu => Entry.kill_rep [c] hk hρ ((R.tm u).1 hu)) ?_ rfl (fun L' e => by cases e))
  intro x y hx hy
  have hyr := Chunk.killed_rep [c] hk hρ (fun _ _ => rfl) (R.ch x y hy)
  unfold thawF
  by_cases e : d = x
  · subst e
    rw [Nat.beq_refl]
    rw [hd] at hy
    cases hy
    obtain ⟨L, cs, el, h1, h2, h3, h4⟩ := hyr
    refine ⟨L, cs, el, h1, h2, h3, ?_⟩
    obtain ⟨L0, cs0, el0, g1, g2, g3, g4⟩ := R.ch d _ hd
    rw [h1] at g1; cases g1
    rw [h3] at g3; cases g3
    obtain ⟨u, hu1, hu2⟩ := g4.get hi
    have hlen := h4.length
    have hset : cs.toList = cs.toList.set i u := by
      obtain ⟨q1, q2⟩ := List.getElem?_eq_some_iff.1 hu1
      rw [← q2, List.set_getElem_self]
    rw [hset]
    refine All2.set ⟨hu2.1, ?_⟩ i h4
    show Leaf.rep w I (fun d => if d = c then none else ρ d) u (.vec c)
    simp only [Leaf.rep, if_true]
    exact hu2.2
  · rw [beq_ne e]
    exact hyr

/-! ### A part as the whole -/

/-- Temporary t, a part of chunk c, is all of it from here on. -/
def Sym.rebase (st : Sym) (t c : Nat) (T : Ty) (l : List T.den) : Sym :=
  st.moved c (.arr T l) (fun e u =>
    match Nat.beq t u with
    | true => ⟨[], .one (.cell (.vec c))⟩
    | false => e) (fun _ k => k)

theorem Tri.rebase {code : Code} {Q : Exit → Sym → Prop} (t c off len : Nat) (T : Ty) (l l' : List T.den) (ht : st.t t = ⟨[], .one (.cell (.slc c off len))⟩) (hc : st.h c = some (.arr T l)) (hl : (l.drop off).take len = l')
    (h : Tri P code (st.rebase t c T l') Q) : Tri P code st Q := by
  subst hl
  unfold Tri at *
  intro B0 I0 w0 ρ0 I ρ a w R
  have hrt := (R.tm t).1 (by rw [ht]; exact all_nil st)
  rw [ht] at hrt
  have hrt : Leaf.rep w I ρ (a.tmps.getD t undef) (.slc c off len) := hrt
  have hrc := R.ch c _ hc
  have hk : ∀ b, I b → I b ∧ w.heap[b]? = w.heap[b]? := fun b hb => ⟨hb, rfl⟩
  simp only [Leaf.rep] at hrt
  have key : ∃ loc : Option Loc, Leaf.rep w I (fun d => if d = c then loc else ρ d) (a.tmps.getD t undef) (.vec c) ∧ (Chunk.arr T ((l.drop off).take len)).rep w I (fun d => if d = c then loc else ρ d) loc ∧
      ∀ L', loc = some L' → ∃ L, ρ c = some L ∧ L.b = L'.b := by
    cases hρc : ρ c with
    | none =>
      rw [hρc] at hrt hrc
      have hrc : l = [] := hrc
      subst hrc
      refine ⟨none, ?_, ?_, fun L' e => by cases e⟩
      · simp only [Leaf.rep, if_true]; exact hrt.1
      · show (([] : List T.den).drop off).take len = []
        simp
    | some L =>
      rw [hρc] at hrt hrc
      obtain ⟨cap, o, hv, h1, h2, h3, h4⟩ := hrt
      obtain ⟨p1, p2, p3, p4, cs, el, p5, p6, p7, p8⟩ := hrc
      refine ⟨some ⟨L.b, o, L.sz, cap, len⟩, ?_, ?_, fun L' e => by cases e; exact ⟨L, rfl, rfl⟩⟩
      · simp only [Leaf.rep, if_true]
        exact ⟨cap, hv, Nat.le_refl _, h2⟩
      · refine ⟨p1, ?_, ?_, ?_, cs, el, p5, ?_, ?_, p8⟩
        · simp; omega
        · simp; omega
        · simp; omega
        · show cap = 0 ∨ o + cap * L.sz ≤ cs.size
          rcases h4 with h4 | h4
          · exact .inl h4
          · by_cases hz : cap = 0
            · exact .inl hz
            · right
              rcases p6 with p6 | p6
              · omega
              · have : (off + cap) * L.sz ≤ L.cap * L.sz := Nat.mul_le_mul_right _ h1
                rw [Nat.add_mul] at this
                omega
        · intro i x hx
          have hi : i < len := by
            have := (List.getElem?_eq_some_iff.1 hx).1
            simp at this; omega
          rw [List.getElem?_take, if_pos hi, List.getElem?_drop] at hx
          have := p7 (off + i) x hx
          rcases h4 with h4 | h4
          · omega
          · rw [h4, p1]
            rw [Nat.add_mul, ← Nat.add_assoc] at this
            exact this
  obtain ⟨loc, k1, k2, k3⟩ := key
  have hρ : ∀ x, x ∉ [c] → (fun d => if d = c then loc else ρ d) x = ρ x := fun x hx => by simp at hx; simp [hx]
  refine h B0 I0 w0 ρ0 I _ a w (R.moved c _ _ (fun _ k => k) loc ?_ ?_ ?_ (fun x y hx hy => Chunk.killed_rep [c] hk hρ (fun _ _ => rfl) (R.ch x y hy)) k2 (fun L' e => by
    obtain ⟨L, e1, e2⟩ := k3 L' e
    exact ⟨_, L, hc, e1, e2⟩))
  · intro u
    split
    · rename_i hb
      rw [← Nat.eq_of_beq_eq_true hb, ht]
    · exact Entry.kill_g _ _
  · intro u
    split
    · rename_i hb
      rw [← Nat.eq_of_beq_eq_true hb, ht]
      rfl
    · exact bitOf_kill _ _
  · intro u hu
    split
    · rename_i hb
      rw [← Nat.eq_of_beq_eq_true hb]
      exact k1
    · exact Entry.kill_rep [c] hk hρ ((R.tm u).1 hu)

/-! ### Some content -/

/-- Chunk c told otherwise. -/
def Sym.setC (st : Sym) (c : Nat) (k : Chunk) : Sym where
  n := st.n
  t := st.t
  h := fun x =>
    match Nat.beq c x with
    | true => some k
    | false => st.h x
  gs := st.gs
  mv := st.mv

theorem Rel.setC (R : Rel B0 I0 w0 ρ0 st I ρ a w) (c : Nat) (k k0 : Chunk) (h0 : st.h c = some k0) (hk : k.rep w I ρ (ρ c)) : Rel B0 I0 w0 ρ0 (st.setC c k) I ρ a w := by
  have hh : ∀ {d k'}, (st.setC c k).h d = some k' → (d = c ∧ k' = k) ∨ (d ≠ c ∧ st.h d = some k') := by
    intro d k' h
    simp only [Sym.setC] at h
    split at h
    · rename_i hb; cases h; exact .inl ⟨(Nat.eq_of_beq_eq_true hb).symm, rfl⟩
    · rename_i hb
      exact .inr ⟨fun e => (by rw [e, Nat.beq_refl] at hb; cases hb), h⟩
  have hs : ∀ {d k'}, (st.setC c k).h d = some k' → ∃ k1, st.h d = some k1 := by
    intro d k' h
    rcases hh h with ⟨rfl, _⟩ | ⟨_, h⟩
    · exact ⟨k0, h0⟩
    · exact ⟨k', h⟩
  refine ⟨R.tm, ?_, ?_, ?_, R.ilt, R.lab, R.sz, R.df, R.stab, ?_, R.imm, R.im0, R.fr, R.os, R.tape, R.output, R.size⟩
  · intro d k' hd
    rcases hh hd with ⟨rfl, rfl⟩ | ⟨_, h⟩
    · exact hk
    · exact R.ch d k' h
  · intro d e k' k'' L M hd he hne hL hM
    obtain ⟨k1, h1⟩ := hs hd
    obtain ⟨k2, h2⟩ := hs he
    exact R.sep d e k1 k2 L M h1 h2 hne hL hM
  · intro d k' L hd hL
    obtain ⟨k1, h1⟩ := hs hd
    exact R.out d k1 L h1 hL
  · intro d k' L hd hL
    obtain ⟨k1, h1⟩ := hs hd
    exact R.own d k1 L h1 hL

/-- A slice in a cell of which only this is known: some content of which it is true. -/
theorem Tri.openC {code : Code} {Q : Exit → Sym → Prop} (c i : Nat) (T : Ty) (p : List T.den → Prop) (ls : List Leaf) (hd : st.h c = some (.cells ls)) (hi : ls[i]? = some (.ex T p)) (h : ∀ l, p l → Tri P code (st.setC c (.cells (ls.set i (.isl T l)))) Q) : Tri P code st Q := by
  unfold Tri at *
  intro B0 I0 w0 ρ0 I ρ a w R
  obtain ⟨L, cs, el, h1, h2, h3, h4⟩ := R.ch c _ hd
  obtain ⟨u, hu1, hu2⟩ := h4.get hi
  obtain ⟨l, hp, hl⟩ := hu2.2
  refine h l hp B0 I0 w0 ρ0 I ρ a w (R.setC c _ _ hd ⟨L, cs, el, h1, h2, h3, ?_⟩)
  have hset : cs.toList = cs.toList.set i u := by
    obtain ⟨q1, q2⟩ := List.getElem?_eq_some_iff.1 hu1
    rw [← q2, List.set_getElem_self]
  rw [hset]
  exact All2.set ⟨hu2.1, hl⟩ i h4

end
end Go.Sx
