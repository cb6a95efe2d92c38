/- Own slices that are only read from here on (freeze), nil slices that become own ones (thaw). Conditions: none. -/
import Derived.Test.YthilnjignhopkaaSxLex
set_option linter.unusedSimpArgs false
set_option linter.unusedVariables false
namespace Go.Sx
open Go

/-- Chunk c's slice, once c is only read. -/
def Leaf.frz (c : Nat) (T : Ty) (l : List T.den) (x : Leaf) : Leaf :=
  match x.has c with
  | false => x
  | true =>
    match x with
    | .vec _ => .isl T l
    | .slc _ off len => .isl T ((l.drop off).take len)
    | _ => .junk

def leafsFrz (c : Nat) (T : Ty) (l : List T.den) : List Leaf → List Leaf
  | [] => []
  | x :: xs => x.frz c T l :: leafsFrz c T l xs

def V0.frz (c : Nat) (T : Ty) (l : List T.den) : V0 → V0
  | .cell x => .cell (x.frz c T l)
  | .agg xs => .agg (leafsFrz c T l xs)

def v0sFrz (c : Nat) (T : Ty) (l : List T.den) : List V0 → List V0
  | [] => []
  | x :: xs => x.frz c T l :: v0sFrz c T l xs

def SV.frz (c : Nat) (T : Ty) (l : List T.den) : SV → SV
  | .one x => .one (x.frz c T l)
  | .tup xs => .tup (v0sFrz c T l xs)

def Chunk.frz (c : Nat) (T : Ty) (l : List T.den) : Chunk → Chunk
  | .cells ls => .cells (leafsFrz c T l ls)
  | x => x

def Sym.frz (st : Sym) (c : Nat) (T : Ty) (l : List T.den) : Sym where
  n := st.n
  t := fun t => ⟨(st.t t).g, (st.t t).v.frz c T l⟩
  h := fun d =>
    match Nat.beq c d with
    | true => none
    | false => (st.h d).map (Chunk.frz c T l)
  gs := st.gs
  mv := st.mv

section
variable {P : Program} {Γ : Gam} {B0 I0 : Nat → Prop} {w0 : World} {ρ0 : Rho} {st : Sym} {w w' : World} {I I' : Nat → Prop} {ρ ρ' : Rho} {a : Act} {c : Nat} {T : Ty} {l : List T.den}

/-- What is only read, and chunk c's block too. -/
def withC (I : Nat → Prop) (ρ : Rho) (c b : Nat) : Prop := I b ∨ ∃ L, ρ c = some L ∧ L.b = b

theorem withC_mono : ∀ b, I b → withC I ρ c b ∧ w.heap[b]? = w.heap[b]? := fun b hb => ⟨.inl hb, rfl⟩

theorem isl_of_arr (hc : Chunk.rep w I ρ (ρ c) (.arr T l)) {L : Loc} (hL : ρ c = some L) {off len cap o : Nat} (h1 : off + cap ≤ L.cap) (h2 : len ≤ cap) (h3 : off + len ≤ L.len) (h4 : cap = 0 ∨ o = L.base + off * L.sz) :
    (Leaf.isl T ((l.drop off).take len)).rep w (withC I ρ c) ρ (.slice (some ⟨L.b, o, none⟩) len cap) := by
  rw [hL] at hc
  obtain ⟨p1, p2, p3, p4, cs, el, p5, p6, p7, p8⟩ := hc
  have hlen : ((l.drop off).take len).length = len := by simp; omega
  refine ⟨some ⟨L.b, o, none⟩, cap, by rw [hlen], by omega, by omega, rfl, ?_⟩
  by_cases hz : len = 0
  · left; rw [← List.length_eq_zero_iff, hlen]; exact hz
  · right
    have ho : o = L.base + off * T.size := by
      rcases h4 with h4 | h4
      · omega
      · rw [h4, p1]
    have hfit : L.base + L.cap * T.size ≤ cs.size := by
      rcases p6 with p6 | p6
      · omega
      · rw [← p1]; exact p6
    refine ⟨.inr ⟨L, hL, rfl⟩, cs, el, (0, 0), p5, ?_, ?_⟩
    · show o + ((l.drop off).take len).length * T.size ≤ cs.size
      rw [hlen, ho]
      have h5 : (off + len) * T.size ≤ L.cap * T.size := Nat.mul_le_mul_right _ (by omega)
      rw [Nat.add_mul] at h5
      omega
    · intro i x hx
      show T.rep w (withC I ρ c) (seg cs (o + i * T.size) T.size) x
      have hi : i < len := by rw [← hlen]; exact (List.getElem?_eq_some_iff.1 hx).1
      have hx' : l[off + i]? = some x := by
        rw [List.getElem?_take, if_pos hi, List.getElem?_drop] at hx; exact hx
      have := p7 (off + i) x hx'
      rw [show o + i * T.size = L.base + (off + i) * T.size by rw [ho, Nat.add_mul]; omega]
      exact Ty.rep_mono withC_mono T this

theorem Leaf.frz_rep (hc : Chunk.rep w I ρ (ρ c) (.arr T l)) {v : Value} {x : Leaf} (h : x.rep w I ρ v) : (x.frz c T l).rep w (withC I ρ c) ρ v := by
  unfold Leaf.frz
  split
  · exact Leaf.rep_mono withC_mono (fun _ _ => rfl) h
  · rename_i hh
    split
    · rename_i d
      have e : d = c := Nat.eq_of_beq_eq_true hh
      subst e
      simp only [Leaf.rep] at h
      cases hL : ρ d with
      | none =>
        rw [hL] at h hc
        have hc : l = [] := hc
        subst hc
        rw [show v = .slice none 0 0 from h]
        exact ⟨none, 0, rfl, Nat.le_refl _, Nat.zero_le _, rfl, rfl⟩
      | some L =>
        rw [hL] at h
        obtain ⟨cap, rfl, h1, h2⟩ := h
        have hlen : L.len = l.length := by rw [hL] at hc; exact hc.2.1
        have := isl_of_arr hc hL (off := 0) (len := L.len) (cap := cap) (o := L.base) (by omega) h2 (by omega) (.inr (by simp))
        rw [List.drop_zero, hlen, List.take_length] at this
        rw [hlen]; exact this
    · rename_i d off len
      have e : d = c := Nat.eq_of_beq_eq_true hh
      subst e
      simp only [Leaf.rep] at h
      cases hL : ρ d with
      | none =>
        rw [hL] at h
        obtain ⟨rfl, rfl, rfl⟩ := h
        exact ⟨none, 0, by simp, by simp, by simp, by simp, rfl⟩
      | some L =>
        rw [hL] at h
        obtain ⟨cap, o, rfl, h1, h2, h3, h4⟩ := h
        exact isl_of_arr hc hL h1 h2 h3 h4
    · trivial

theorem leafsFrz_rep (hc : Chunk.rep w I ρ (ρ c) (.arr T l)) : ∀ {vs : List Value} {xs : List Leaf}, All2 (Leaf.rep w I ρ) vs xs → All2 (Leaf.rep w (withC I ρ c) ρ) vs (leafsFrz c T l xs)
  | [], [], _ => trivial
  | _ :: _, _ :: _, ⟨h, k⟩ => ⟨Leaf.frz_rep hc h, leafsFrz_rep hc k⟩
  | [], _ :: _, h => h.elim
  | _ :: _, [], h => h.elim

theorem V0.frz_rep (hc : Chunk.rep w I ρ (ρ c) (.arr T l)) {v : Value} {x : V0} (h : x.rep w I ρ v) : (x.frz c T l).rep w (withC I ρ c) ρ v := by
  cases x with
  | cell x => exact Leaf.frz_rep hc h
  | agg xs => obtain ⟨cs, e, k⟩ := h; exact ⟨cs, e, leafsFrz_rep hc k⟩

theorem v0sFrz_rep (hc : Chunk.rep w I ρ (ρ c) (.arr T l)) : ∀ {vs : List Value} {xs : List V0}, All2 (V0.rep w I ρ) vs xs → All2 (V0.rep w (withC I ρ c) ρ) vs (v0sFrz c T l xs)
  | [], [], _ => trivial
  | _ :: _, _ :: _, ⟨h, k⟩ => ⟨V0.frz_rep hc h, v0sFrz_rep hc k⟩
  | [], _ :: _, h => h.elim
  | _ :: _, [], h => h.elim

theorem SV.frz_rep (hc : Chunk.rep w I ρ (ρ c) (.arr T l)) {v : Value} {x : SV} (h : x.rep w I ρ v) : (x.frz c T l).rep w (withC I ρ c) ρ v := by
  cases x with
  | one x => exact V0.frz_rep hc h
  | tup xs => obtain ⟨cs, e, k⟩ := h; exact ⟨cs, e, v0sFrz_rep hc k⟩

theorem cellsFrz_rep (hc : Chunk.rep w I ρ (ρ c) (.arr T l)) : ∀ {vs : List Value} {xs : List Leaf}, All2 (fun v x => v.oneCell' = true ∧ Leaf.rep w I ρ v x) vs xs → All2 (fun v x => v.oneCell' = true ∧ Leaf.rep w (withC I ρ c) ρ v x) vs (leafsFrz c T l xs)
  | [], [], _ => trivial
  | _ :: _, _ :: _, ⟨h, k⟩ => ⟨⟨h.1, Leaf.frz_rep hc h.2⟩, cellsFrz_rep hc k⟩
  | [], _ :: _, h => h.elim
  | _ :: _, [], h => h.elim

theorem Chunk.frz_rep (hc : Chunk.rep w I ρ (ρ c) (.arr T l)) {loc : Option Loc} {k : Chunk} (h : k.rep w I ρ loc) : (k.frz c T l).rep w (withC I ρ c) ρ loc := by
  cases k with
  | cells ls => obtain ⟨L, cs, el, h1, h2, h3, h4⟩ := h; exact ⟨L, cs, el, h1, h2, h3, cellsFrz_rep hc h4⟩
  | arr e m =>
    have := Chunk.kill_rep (w := w) (w' := w) (I := I) (I' := withC I ρ c) (ρ := ρ) (ρ' := ρ) [] withC_mono (fun _ _ => rfl) (fun _ _ => rfl) h
    exact this
  | mp k e ea m =>
    have := Chunk.kill_rep (w := w) (w' := w) (I := I) (I' := withC I ρ c) (ρ := ρ) (ρ' := ρ) [] withC_mono (fun _ _ => rfl) (fun _ _ => rfl) h
    exact this

theorem frz_bit (v : SV) : bitOf (v.frz c T l) = bitOf v := by
  cases v with
  | tup xs => rfl
  | one x =>
    cases x with
    | agg xs => rfl
    | cell x =>
      show bitOf (.one (.cell (x.frz c T l))) = bitOf (.one (.cell x))
      unfold Leaf.frz
      split
      · rfl
      · rename_i hh
        cases x <;> first | (simp [Leaf.has] at hh; done) | rfl

theorem frz_h {d : Nat} {k : Chunk} (h : (st.frz c T l).h d = some k) : c ≠ d ∧ ∃ k0, st.h d = some k0 ∧ k = k0.frz c T l := by
  simp only [Sym.frz] at h
  split at h
  · cases h
  · rename_i hb
    simp only [Option.map_eq_some_iff] at h
    obtain ⟨k0, h1, h2⟩ := h
    exact ⟨fun e => (by rw [e, Nat.beq_refl] at hb; cases hb), k0, h1, h2.symm⟩

theorem Rel.freeze (R : Rel B0 I0 w0 ρ0 st I ρ a w) (hc : st.h c = some (.arr T l)) : Rel B0 I0 w0 ρ0 (st.frz c T l) (withC I ρ c) ρ a w := by
  have hcr := R.ch c _ hc
  have hcond : ∀ p : Nat × Bool, (st.frz c T l).cond p = st.cond p := fun p => by
    rw [Sym.cond_eq, Sym.cond_eq]
    show (match bitOf ((st.t p.1).v.frz c T l) with | some b => b == p.2 | none => false) = _
    rw [frz_bit]; rfl
  refine ⟨?_, ?_, ?_, ?_, ?_, R.lab, R.sz, R.df, R.stab, ?_, ?_, fun b hb => .inl (R.im0 b hb), R.fr, R.os, R.tape, R.output, R.size⟩
  · intro t
    have ht := R.tm t
    have hall : (st.frz c T l).all (st.t t).g ↔ st.all (st.t t).g := ⟨fun h p hp => by rw [← hcond p]; exact h p hp, fun h p hp => by rw [hcond p]; exact h p hp⟩
    exact ⟨fun h => SV.frz_rep hcr (ht.1 (hall.1 h)), fun h => ht.2 fun k => h (hall.2 k)⟩
  · intro d k hk
    obtain ⟨_, k0, h1, rfl⟩ := frz_h hk
    exact Chunk.frz_rep hcr (R.ch d k0 h1)
  · intro d e k k' L M hk hk' hne hL hM
    obtain ⟨_, k0, h1, _⟩ := frz_h hk
    obtain ⟨_, k1, h2, _⟩ := frz_h hk'
    exact R.sep d e k0 k1 L M h1 h2 hne hL hM
  · intro d k L hk hL hI
    obtain ⟨hne, k0, h1, _⟩ := frz_h hk
    rcases hI with hI | ⟨M, hM, hb⟩
    · exact R.out d k0 L h1 hL hI
    · exact R.sep c d _ k0 M L hc h1 hne hM hL hb
  · intro b hb
    rcases hb with hb | ⟨L, hL, rfl⟩
    · exact R.ilt b hb
    · rw [hL] at hcr; exact Chunk.lt hcr
  · intro d k L hk hL
    obtain ⟨_, k0, h1, _⟩ := frz_h hk
    exact R.own d k0 L h1 hL
  · intro b hb
    rcases hb with hb | ⟨L, hL, rfl⟩
    · exact R.imm b hb
    · rcases R.own c _ L hc hL with h | h
      · exact .inr (.inl h)
      · exact .inr (.inr h)

/-- From here on chunk c is only read. -/
theorem Tri.freeze {code : Code} {Q : Exit → Sym → Prop} (c : Nat) (T : Ty) (l : List T.den) (hc : st.h c = some (.arr T l)) (h : Tri P code (st.frz c T l) Q) : Tri P code st Q := by
  unfold Tri at *
  exact fun B0 I0 w0 ρ0 I ρ a w R => h B0 I0 w0 ρ0 _ ρ a w (R.freeze hc)

/-! ### The same behind a call -/

def dropC (c : Nat) (T : Ty) (l : List T.den) : List (Nat × Chunk) → List (Nat × Chunk)
  | [] => []
  | (d, k) :: r =>
    match Nat.beq c d with
    | true => dropC c T l r
    | false => (d, k.frz c T l) :: dropC c T l r

theorem dropC_hp : ∀ {hs : List (Nat × Chunk)} {d : Nat} {k : Chunk}, hp (dropC c T l hs) d = some k → c ≠ d ∧ ∃ k0, hp hs d = some k0 ∧ k = k0.frz c T l
  | [], d, k, h => by simp [dropC, hp] at h
  | (e, k') :: r, d, k, h => by
    unfold dropC at h
    split at h
    · rename_i hb
      have e' := Nat.eq_of_beq_eq_true hb
      obtain ⟨h1, k0, h2, h3⟩ := dropC_hp h
      exact ⟨h1, k0, by unfold hp; rw [beq_ne (fun e'' => h1 (by rw [e', e''])) ]; exact h2, h3⟩
    · rename_i hb
      unfold hp at h
      by_cases he : e = d
      · subst he
        simp only [Nat.beq_refl, Option.some.injEq] at h
        exact ⟨fun e' => (by rw [e', Nat.beq_refl] at hb; cases hb), k', by simp [hp], h.symm⟩
      · rw [beq_ne he] at h
        obtain ⟨h1, k0, h2, h3⟩ := dropC_hp h
        exact ⟨h1, k0, by unfold hp; rw [beq_ne he]; exact h2, h3⟩

theorem FnOK.freeze {f : Nat} {args : List V0} {hs : List (Nat × Chunk)} {mv : List Nat} {Q : SV → List (Nat × Chunk) → Prop} (c : Nat) (T : Ty) (h : FnOK P f args hs mv Q)
    {Q' : SV → List (Nat × Chunk) → Prop} (hq : ∀ r hs', Q r hs' → ∃ l : List T.den, hp hs' c = some (.arr T l) ∧ (r.frz c T l).closed (dropC c T l hs') = true ∧ heapClosed (dropC c T l hs') (dropC c T l hs') = true ∧ Q' (r.frz c T l) (dropC c T l hs')) : FnOK P f args hs mv Q' := by
  intro I ρ w vs h1 h2 h3 h4 h5
  refine (h I ρ w vs h1 h2 h3 h4 h5).mono ?_
  rintro e w' ⟨v, r, hs', I', ρ', rfl, q, hc1, hc2, hr, H, hst⟩
  obtain ⟨l, hcl, k1, k2, k3⟩ := hq r hs' q
  have hcr := H.ch c _ hcl
  refine ⟨v, _, _, withC I' ρ' c, ρ', rfl, k3, k1, k2, SV.frz_rep hcr hr, ?_, hst⟩
  refine ⟨?_, ?_, ?_, ?_, ?_, ?_, fun b hb => .inl (H.im0 b hb), H.fr, H.os, H.tape, H.output, H.size⟩
  · intro d k hk
    obtain ⟨_, k0, h1, rfl⟩ := dropC_hp hk
    exact Chunk.frz_rep hcr (H.ch d k0 h1)
  · intro d e k k' L M hk hk' hne hL hM
    obtain ⟨_, k0, h1, _⟩ := dropC_hp hk
    obtain ⟨_, k1, h2, _⟩ := dropC_hp hk'
    exact H.sep d e k0 k1 L M h1 h2 hne hL hM
  · intro d k L hk hL hI
    obtain ⟨hne, k0, h1, _⟩ := dropC_hp hk
    rcases hI with hI | ⟨M, hM, hb⟩
    · exact H.out d k0 L h1 hL hI
    · exact H.sep c d _ k0 M L hcl h1 hne hM hL hb
  · intro b hb
    rcases hb with hb | ⟨L, hL, rfl⟩
    · exact H.ilt b hb
    · rw [hL] at hcr; exact Chunk.lt hcr
  · intro d k L hk hL
    obtain ⟨_, k0, h1, _⟩ := dropC_hp hk
    exact H.own d k0 L h1 hL
  · intro b hb
    rcases hb with hb | ⟨L, hL, rfl⟩
    · exact H.imm b hb
    · rcases H.own c _ L hcl hL with h | h
      · exact .inr (.inl h)
      · exact .inr (.inr h)

/-- The same where only some results are made read-only; the others are told otherwise. -/
theorem FnOK.freezeOr {f : Nat} {args : List V0} {hs : List (Nat × Chunk)} {mv : List Nat} {Q : SV → List (Nat × Chunk) → Prop} (c : Nat) (T : Ty) (h : FnOK P f args hs mv Q)
    {Q' : SV → List (Nat × Chunk) → Prop} (hq : ∀ r hs', Q r hs' → (∃ l : List T.den, hp hs' c = some (.arr T l) ∧ (r.frz c T l).closed (dropC c T l hs') = true ∧ heapClosed (dropC c T l hs') (dropC c T l hs') = true ∧ Q' (r.frz c T l) (dropC c T l hs')) ∨
      (∃ r', (∀ w I ρ v, r.rep w I ρ v → r'.rep w I ρ v) ∧ r'.closed hs' = true ∧ Q' r' hs')) : FnOK P f args hs mv Q' := by
  intro I ρ w vs h1 h2 h3 h4 h5
  refine (h I ρ w vs h1 h2 h3 h4 h5).mono ?_
  rintro e w' ⟨v, r, hs', I', ρ', rfl, q, hc1, hc2, hr, H, hst⟩
  rcases hq r hs' q with ⟨l, hcl, k1, k2, k3⟩ | ⟨r', k1, k2, k3⟩
  rotate_left
  · exact ⟨v, r', hs', I', ρ', rfl, k3, k2, hc2, k1 _ _ _ _ hr, H, hst⟩
  have hcr := H.ch c _ hcl
  refine ⟨v, _, _, withC I' ρ' c, ρ', rfl, k3, k1, k2, SV.frz_rep hcr hr, ?_, hst⟩
  refine ⟨?_, ?_, ?_, ?_, ?_, ?_, fun b hb => .inl (H.im0 b hb), H.fr, H.os, H.tape, H.output, H.size⟩
  · intro d k hk
    obtain ⟨_, k0, h1, rfl⟩ := dropC_hp hk
    exact Chunk.frz_rep hcr (H.ch d k0 h1)
  · intro d e k k' L M hk hk' hne hL hM
    obtain ⟨_, k0, h1, _⟩ := dropC_hp hk
    obtain ⟨_, k1, h2, _⟩ := dropC_hp hk'
    exact H.sep d e k0 k1 L M h1 h2 hne hL hM
  · intro d k L hk hL hI
    obtain ⟨hne, k0, h1, _⟩ := dropC_hp hk
    rcases hI with hI | ⟨M, hM, hb⟩
    · exact H.out d k0 L h1 hL hI
    · exact H.sep c d _ k0 M L hcl h1 hne hM hL hb
  · intro b hb
    rcases hb with hb | ⟨L, hL, rfl⟩
    · exact H.ilt b hb
    · rw [hL] at hcr; exact Chunk.lt hcr
  · intro d k L hk hL
    obtain ⟨_, k0, h1, _⟩ := dropC_hp hk
    exact H.own d k0 L h1 hL
  · intro b hb
    rcases hb with hb | ⟨L, hL, rfl⟩
    · exact H.imm b hb
    · rcases H.own c _ L hcl hL with h | h
      · exact .inr (.inl h)
      · exact .inr (.inr h)

/-- A nil slice is an empty one. -/
theorem nil_isl {w : World} {I : Nat → Prop} {ρ : Rho} {v : Value} (T : Ty) (h : Leaf.rep w I ρ v .nilsl) : Leaf.rep w I ρ v (.isl T []) := by
  have h : v = .slice none 0 0 := h
  exact ⟨none, 0, by rw [h]; rfl, Nat.le_refl _, Nat.zero_le _, rfl, rfl⟩

/-! ### A nil slice as an own one -/

/-- Temporary t, a nil slice, is chunk c. -/
def Sym.thaw (st : Sym) (t c : Nat) (T : Ty) : Sym where
  n := st.n
  t := fun u =>
    match Nat.beq t u with
    | true => ⟨[], .one (.cell (.vec c))⟩
    | false => (st.t u).kill [c]
  h := fun d =>
    match Nat.beq c d with
    | true => some (.arr T [])
    | false => (st.h d).map (Chunk.killed [c])
  gs := st.gs
  mv := below [c] st.mv

theorem Rel.thaw (R : Rel B0 I0 w0 ρ0 st I ρ a w) (t c : Nat) (T : Ty) (ht : st.t t = ⟨[], .one (.cell .nilsl)⟩) : Rel B0 I0 w0 ρ0 (st.thaw t c T) I (fun d => if d = c then none else ρ d) a w := by
  have hρ : ∀ d, d ∉ [c] → (fun d => if d = c then none else ρ d) d = ρ d := fun d hd => by simp at hd; simp [hd]
  have hk : ∀ b, I b → I b ∧ w.heap[b]? = w.heap[b]? := fun b hb => ⟨hb, rfl⟩
  have hh : ∀ {d k}, (st.thaw t c T).h d = some k → (d = c ∧ k = .arr T []) ∨ (d ≠ c ∧ ∃ k0, st.h d = some k0 ∧ k = k0.killed [c]) := by
    intro d k h
    simp only [Sym.thaw] at h
    split at h
    · rename_i hb; cases h; exact .inl ⟨(Nat.eq_of_beq_eq_true hb).symm, rfl⟩
    · rename_i hb
      simp only [Option.map_eq_some_iff] at h
      obtain ⟨k0, h1, h2⟩ := h
      exact .inr ⟨fun e => (by rw [e, Nat.beq_refl] at hb; cases hb), k0, h1, h2.symm⟩
  have hloc : ∀ {d k L}, (st.thaw t c T).h d = some k → (if d = c then none else ρ d) = some L → ∃ k0, st.h d = some k0 ∧ ρ d = some L := by
    intro d k L h hL
    rcases hh h with ⟨rfl, _⟩ | ⟨hne, k0, h1, _⟩
    · simp at hL
    · simp [hne] at hL; exact ⟨k0, h1, hL⟩
  refine ⟨?_, ?_, ?_, ?_, R.ilt, ?_, R.sz, R.df, ?_, ?_, R.imm, R.im0, R.fr, R.os, R.tape, R.output, R.size⟩
  · intro u
    have hu := R.tm u
    have hcond : ∀ p : Nat × Bool, (st.thaw t c T).cond p = st.cond p := fun p => by
      rw [Sym.cond_eq, Sym.cond_eq]
      show (match bitOf (match Nat.beq t p.1 with | true => (⟨[], .one (.cell (.vec c))⟩ : Entry) | false => (st.t p.1).kill [c]).v with | some b => b == p.2 | none => false) = _
      by_cases e : t = p.1
      · rw [← e, Nat.beq_refl, ht]; rfl
      · rw [beq_ne e, bitOf_kill]
        rfl
    show Entry.rep w I _ _ _ (match Nat.beq t u with | true => (⟨[], .one (.cell (.vec c))⟩ : Entry) | false => (st.t u).kill [c])
    by_cases e : t = u
    · subst e
      rw [Nat.beq_refl]
      rw [ht] at hu
      refine ⟨fun _ => ?_, fun h => absurd (all_nil _) h⟩
      have hv : a.tmps.getD t undef = .slice none 0 0 := hu.1 (all_nil st)
      show Leaf.rep w I (fun d => if d = c then none else ρ d) (a.tmps.getD t undef) (.vec c)
      simp only [Leaf.rep, if_true]
      exact hv
    · rw [beq_ne e]
      unfold Entry.rep at *
      rw [Entry.kill_g]
      have hall : (st.thaw t c T).all (st.t u).g ↔ st.all (st.t u).g := ⟨fun h p hp => by rw [← hcond p]; exact h p hp, fun h p hp => by rw [hcond p]; exact h p hp⟩
      rw [hall]
      exact ⟨fun h => Entry.kill_rep [c] hk hρ (hu.1 h), hu.2⟩
  · intro d k hd
    rcases hh hd with ⟨rfl, rfl⟩ | ⟨hne, k0, h1, rfl⟩
    · simp only [if_true]; rfl
    · simp only [hne, if_false]
      exact Chunk.killed_rep [c] hk hρ (fun _ _ => rfl) (R.ch d k0 h1)
  · intro d e k k' L M hd he hne hL hM
    obtain ⟨k0, h1, h2⟩ := hloc hd hL
    obtain ⟨k1, h3, h4⟩ := hloc he hM
    exact R.sep d e k0 k1 L M h1 h3 hne h2 h4
  · intro d k L hd hL
    obtain ⟨k0, h1, h2⟩ := hloc hd hL
    exact R.out d k0 L h1 h2
  · intro u p hp
    have hp : p ∈ (match Nat.beq t u with | true => (⟨[], .one (.cell (.vec c))⟩ : Entry) | false => (st.t u).kill [c]).g := hp
    split at hp
    · simp at hp
    · rw [Entry.kill_g] at hp; exact R.lab u p hp
  · intro d hd hn
    have hdc : d ≠ c := fun e => hn (mem_below (.inr ⟨hd, by simp [e]⟩))
    simp only [hdc, if_false]
    exact R.stab d hd fun hm => hn (mem_below (.inl hm))
  · intro d k L hd hL
    obtain ⟨k0, h1, h2⟩ := hloc hd hL
    exact R.own d k0 L h1 h2

theorem Tri.thaw {code : Code} {Q : Exit → Sym → Prop} (t c : Nat) (T : Ty) (ht : st.t t = ⟨[], .one (.cell .nilsl)⟩) (h : Tri P code (st.thaw t c T) Q) : Tri P code st Q := by
  unfold Tri at *
  exact fun B0 I0 w0 ρ0 I ρ a w R => h B0 I0 w0 ρ0 _ _ a w (R.thaw t c T ht)

end
end Go.Sx
