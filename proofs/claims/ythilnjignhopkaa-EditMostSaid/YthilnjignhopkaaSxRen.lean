/- Contracts under other names of chunks. Conditions: none. -/
import Derived.Test.YthilnjignhopkaaSxFrz
set_option linter.unusedSimpArgs false
set_option linter.unusedVariables false
namespace Go.Sx
open Go

def Leaf.ren (σ : Nat → Nat) : Leaf → Leaf
  | .ref c off => .ref (σ c) off
  | .eref c i sub => .eref (σ c) i sub
  | .vec c => .vec (σ c)
  | .slc c off len => .slc (σ c) off len
  | .mapr c => .mapr (σ c)
  | .clo f caps => .clo f (caps.map σ)
  | x => x

def V0.ren (σ : Nat → Nat) : V0 → V0
  | .cell x => .cell (x.ren σ)
  | .agg xs => .agg (xs.map (·.ren σ))

def SV.ren (σ : Nat → Nat) : SV → SV
  | .one x => .one (x.ren σ)
  | .tup xs => .tup (xs.map (·.ren σ))

def Chunk.ren (σ : Nat → Nat) : Chunk → Chunk
  | .cells ls => .cells (ls.map (·.ren σ))
  | x => x

def renH (σ : Nat → Nat) : List (Nat × Chunk) → List (Nat × Chunk)
  | [] => []
  | (c, k) :: r => (σ c, k.ren σ) :: renH σ r

/-- The names of a list for those below its length, the others moved up. -/
def renF (l : List Nat) (off n : Nat) : Nat :=
  match l[n]? with
  | some c => c
  | none => n + off

def nodupB : List Nat → Bool
  | [] => true
  | c :: r =>
    match r.any (Nat.beq c) with
    | true => false
    | false => nodupB r

theorem nodupB_ok : ∀ {l : List Nat}, nodupB l = true → l.Nodup
  | [], _ => List.nodup_nil
  | c :: r, h => by
    unfold nodupB at h
    split at h
    · cases h
    · rename_i hb
      refine List.nodup_cons.2 ⟨fun hc => ?_, nodupB_ok h⟩
      have : r.any (Nat.beq c) = true := by
        simp only [List.any_eq_true]; exact ⟨c, hc, Nat.beq_refl c⟩
      rw [this] at hb; cases hb

theorem renF_inj {l : List Nat} {off : Nat} (h1 : nodupB l = true) (h2 : l.all (fun c => Nat.blt c off) = true) : ∀ a b, renF l off a = renF l off b → a = b := by
  have hn := nodupB_ok h1
  simp only [List.all_eq_true] at h2
  have hlt : ∀ n c, l[n]? = some c → c < off := fun n c h => Nat.le_of_ble_eq_true (h2 c (List.mem_of_getElem? h))
  intro a b hab
  unfold renF at hab
  cases ha : l[a]? with
  | none =>
    cases hb : l[b]? with
    | none => rw [ha, hb] at hab; simp at hab; exact hab
    | some d =>
      rw [ha, hb] at hab
      have := hlt b d hb
      simp at hab; omega
  | some c =>
    cases hb : l[b]? with
    | none =>
      rw [ha, hb] at hab
      have := hlt a c ha
      simp at hab; omega
    | some d =>
      rw [ha, hb] at hab
      simp at hab
      obtain ⟨h3, h4⟩ := List.getElem?_eq_some_iff.1 ha
      obtain ⟨h5, h6⟩ := List.getElem?_eq_some_iff.1 hb
      have hc : c = d := by simpa using hab
      have hp := List.pairwise_iff_getElem.1 hn
      rcases Nat.lt_trichotomy a b with hlt' | he | hlt'
      · exact absurd (by rw [h4, h6, hc]) (hp a b h3 h5 hlt')
      · exact he
      · exact absurd (by rw [h4, h6, hc]) (hp b a h5 h3 hlt')

section
variable {P : Program} {w w' : World} {I I' : Nat → Prop} {ρ ρ' : Rho} {σ : Nat → Nat}

theorem caps_ren {vs : List Value} : ∀ {caps : List Nat}, All2 (fun v c => ∃ L, ρ c = some L ∧ v = .pointer (some ⟨L.b, L.base, none⟩)) vs (caps.map σ) ↔ All2 (fun v c => ∃ L, ρ (σ c) = some L ∧ v = .pointer (some ⟨L.b, L.base, none⟩)) vs caps := by
  induction vs with
  | nil => intro caps; cases caps <;> exact Iff.rfl
  | cons v vs ih =>
    intro caps
    cases caps with
    | nil => exact Iff.rfl
    | cons c cs => exact and_congr Iff.rfl ih

theorem Leaf.ren_rep {v : Value} {x : Leaf} : (x.ren σ).rep w I ρ v ↔ x.rep w I (fun c => ρ (σ c)) v := by
  cases x <;> try exact Iff.rfl
  case clo f caps =>
    constructor
    · rintro ⟨vs, h1, h2⟩; exact ⟨vs, h1, caps_ren.1 h2⟩
    · rintro ⟨vs, h1, h2⟩; exact ⟨vs, h1, caps_ren.2 h2⟩

theorem All2.map_iff {α β γ : Type} {R : α → γ → Prop} {S : α → β → Prop} {g : β → γ} (h : ∀ a b, R a (g b) ↔ S a b) : ∀ {as : List α} {bs : List β}, All2 R as (bs.map g) ↔ All2 S as bs
  | [], [] => Iff.rfl
  | a :: as, b :: bs => and_congr (h a b) (All2.map_iff h)
  | [], _ :: _ => Iff.rfl
  | _ :: _, [] => Iff.rfl

theorem V0.ren_rep {v : Value} {x : V0} : (x.ren σ).rep w I ρ v ↔ x.rep w I (fun c => ρ (σ c)) v := by
  cases x with
  | cell x => exact Leaf.ren_rep
  | agg xs =>
    constructor
    · rintro ⟨cs, e, h⟩; exact ⟨cs, e, (All2.map_iff fun a b => Leaf.ren_rep).1 h⟩
    · rintro ⟨cs, e, h⟩; exact ⟨cs, e, (All2.map_iff fun a b => Leaf.ren_rep).2 h⟩

theorem SV.ren_rep {v : Value} {x : SV} : (x.ren σ).rep w I ρ v ↔ x.rep w I (fun c => ρ (σ c)) v := by
  cases x with
  | one x => exact V0.ren_rep
  | tup xs =>
    constructor
    · rintro ⟨cs, e, h⟩; exact ⟨cs, e, (All2.map_iff fun a b => V0.ren_rep).1 h⟩
    · rintro ⟨cs, e, h⟩; exact ⟨cs, e, (All2.map_iff fun a b => V0.ren_rep).2 h⟩

theorem Chunk.ren_rep {loc : Option Loc} {k : Chunk} : (k.ren σ).rep w I ρ loc ↔ k.rep w I (fun c => ρ (σ c)) loc := by
  cases k with
  | cells ls =>
    constructor
    · rintro ⟨L, cs, el, h1, h2, h3, h4⟩
      exact ⟨L, cs, el, h1, h2, h3, (All2.map_iff (R := fun v x => v.oneCell' = true ∧ Leaf.rep w I ρ v x) (S := fun v x => v.oneCell' = true ∧ Leaf.rep w I (fun c => ρ (σ c)) v x) fun a b => and_congr Iff.rfl Leaf.ren_rep).1 h4⟩
    · rintro ⟨L, cs, el, h1, h2, h3, h4⟩
      exact ⟨L, cs, el, h1, h2, h3, (All2.map_iff (R := fun v x => v.oneCell' = true ∧ Leaf.rep w I ρ v x) (S := fun v x => v.oneCell' = true ∧ Leaf.rep w I (fun c => ρ (σ c)) v x) fun a b => and_congr Iff.rfl Leaf.ren_rep).2 h4⟩
  | arr e l => exact Iff.rfl
  | mp k e ea l => exact Iff.rfl

theorem renH_hp (hσ : ∀ a b, σ a = σ b → a = b) : ∀ {hs : List (Nat × Chunk)} {d : Nat} {k : Chunk}, hp (renH σ hs) d = some k ↔ ∃ c k0, d = σ c ∧ hp hs c = some k0 ∧ k = k0.ren σ
  | [], d, k => by simp [renH, hp]
  | (e, k') :: r, d, k => by
    unfold renH hp
    by_cases he : σ e = d
    · subst he
      rw [Nat.beq_refl]
      constructor
      · intro h; cases h; exact ⟨e, k', rfl, by simp, rfl⟩
      · rintro ⟨c, k0, h1, h2, rfl⟩
        have := hσ _ _ h1
        subst this
        simp at h2; rw [h2]
    · rw [beq_ne he]
      simp only
      rw [renH_hp hσ]
      constructor
      · rintro ⟨c, k0, rfl, h2, h3⟩
        exact ⟨c, k0, rfl, by rw [beq_ne (fun e' => he (by rw [e']))]; exact h2, h3⟩
      · rintro ⟨c, k0, rfl, h2, h3⟩
        refine ⟨c, k0, rfl, ?_, h3⟩
        rw [beq_ne (fun e' => he (by rw [e']))] at h2
        exact h2

theorem hasKey_ren (hσ : ∀ a b, σ a = σ b → a = b) {hs : List (Nat × Chunk)} {c : Nat} (h : hasKey hs c = true) : hasKey (renH σ hs) (σ c) = true := by
  obtain ⟨k, hk⟩ := hasKey_iff.1 h
  exact hasKey_iff.2 ⟨k.ren σ, (renH_hp hσ).2 ⟨c, k, rfl, hk, rfl⟩⟩

theorem Leaf.ren_closed (hσ : ∀ a b, σ a = σ b → a = b) {hs : List (Nat × Chunk)} {x : Leaf} (h : x.closed hs = true) : (x.ren σ).closed (renH σ hs) = true := by
  cases x <;> first | exact hasKey_ren hσ h | exact h | skip
  case clo f caps =>
    simp only [Leaf.ren, Leaf.closed, List.all_eq_true, List.mem_map] at h ⊢
    rintro d ⟨c, hc, rfl⟩
    exact hasKey_ren hσ (h c hc)

theorem leafs_ren_closed (hσ : ∀ a b, σ a = σ b → a = b) {hs : List (Nat × Chunk)} : ∀ {xs : List Leaf}, leafsClosed hs xs = true → leafsClosed (renH σ hs) (xs.map (·.ren σ)) = true
  | [], _ => rfl
  | x :: xs, h => by
    unfold leafsClosed at h
    split at h
    · rename_i hx
      simp only [List.map_cons, leafsClosed, Leaf.ren_closed hσ hx]
      exact leafs_ren_closed hσ h
    · cases h

theorem V0.ren_closed (hσ : ∀ a b, σ a = σ b → a = b) {hs : List (Nat × Chunk)} {x : V0} (h : x.closed hs = true) : (x.ren σ).closed (renH σ hs) = true := by
  cases x with
  | cell x => exact Leaf.ren_closed hσ h
  | agg xs => exact leafs_ren_closed hσ h

theorem SV.ren_closed (hσ : ∀ a b, σ a = σ b → a = b) {hs : List (Nat × Chunk)} {x : SV} (h : x.closed hs = true) : (x.ren σ).closed (renH σ hs) = true := by
  cases x with
  | one x => exact V0.ren_closed hσ h
  | tup xs =>
    simp only [SV.ren, SV.closed, List.all_eq_true, List.mem_map] at h ⊢
    rintro y ⟨x, hx, rfl⟩
    exact V0.ren_closed hσ (h x hx)

theorem heap_ren_closed (hσ : ∀ a b, σ a = σ b → a = b) {hs : List (Nat × Chunk)} : ∀ {r : List (Nat × Chunk)}, heapClosed hs r = true → heapClosed (renH σ hs) (renH σ r) = true
  | [], _ => rfl
  | (c, k) :: r, h => by
    unfold heapClosed at h
    split at h
    · rename_i hk
      have hk' : (k.ren σ).closed (renH σ hs) = true := by
        cases k with
        | cells ls => exact leafs_ren_closed hσ hk
        | arr => rfl
        | mp => rfl
      simp only [renH, heapClosed, hk']
      exact heap_ren_closed hσ h
    · cases h

/-- A contract under other names. -/
theorem FnOK.ren {f : Nat} {args : List V0} {hs : List (Nat × Chunk)} {mv : List Nat} {Q : SV → List (Nat × Chunk) → Prop} (hσ : ∀ a b, σ a = σ b → a = b) (h : FnOK P f args hs mv Q) :
    FnOK P f (args.map (·.ren σ)) (renH σ hs) (mv.map σ) (fun r hs' => ∃ r0 hs0, Q r0 hs0 ∧ r = r0.ren σ ∧ hs' = renH σ hs0) := by
  intro I ρ w vs h1 h2 h3 h4 h5
  have hk : ∀ c k, hp hs c = some k → hp (renH σ hs) (σ c) = some (k.ren σ) := fun c k hc => (renH_hp hσ).2 ⟨c, k, rfl, hc, rfl⟩
  have hb : ∀ b, blocksOf hs (fun c => ρ (σ c)) b ↔ blocksOf (renH σ hs) ρ b := fun b => by
    constructor
    · rintro ⟨c, k, L, p1, p2, p3⟩; exact ⟨σ c, _, L, hk c k p1, p2, p3⟩
    · rintro ⟨d, k, L, p1, p2, p3⟩
      obtain ⟨c, k0, rfl, p4, rfl⟩ := (renH_hp hσ).1 p1
      exact ⟨c, k0, L, p4, p2, p3⟩
  refine (h I (fun c => ρ (σ c)) w vs ((All2.map_iff fun a b => V0.ren_rep).1 h1) (fun c k hc => Chunk.ren_rep.1 (h2 (σ c) _ (hk c k hc)))
    (fun c d k k' L M hc hd hne hL hM => h3 (σ c) (σ d) _ _ L M (hk c k hc) (hk d k' hd) (fun e => hne (hσ _ _ e)) hL hM) (fun c k L hc hL => h4 (σ c) _ L (hk c k hc) hL) h5).mono ?_
  rintro e w' ⟨v, r, hs', I', ρ', rfl, q, hc1, hc2, hr, H, hst⟩
  classical
  let ρ'' : Rho := fun d => if hd : ∃ c, σ c = d then ρ' hd.choose else ρ d
  have hρ : ∀ c, ρ'' (σ c) = ρ' c := fun c => by
    have hd : ∃ c', σ c' = σ c := ⟨c, rfl⟩
    simp only [ρ'', dif_pos hd]
    rw [hσ _ _ hd.choose_spec]
  have hρf : (fun c => ρ'' (σ c)) = ρ' := funext hρ
  refine ⟨v, _, _, I', ρ'', rfl, ⟨r, hs', q, rfl, rfl⟩, SV.ren_closed hσ hc1, heap_ren_closed hσ hc2, SV.ren_rep.2 (by rw [hρf]; exact hr), ?_, ?_⟩
  · refine ⟨?_, ?_, ?_, H.ilt, ?_, ?_, H.im0, ?_, H.os, H.tape, H.output, H.size⟩
    · intro d k hd
      obtain ⟨c, k0, rfl, p1, rfl⟩ := (renH_hp hσ).1 hd
      rw [hρ]
      exact Chunk.ren_rep.2 (by rw [hρf]; exact H.ch c k0 p1)
    · intro d d' k k' L M hd hd' hne hL hM
      obtain ⟨c, k0, rfl, p1, rfl⟩ := (renH_hp hσ).1 hd
      obtain ⟨c', k1, rfl, p2, rfl⟩ := (renH_hp hσ).1 hd'
      rw [hρ] at hL hM
      exact H.sep c c' k0 k1 L M p1 p2 (fun e => hne (by rw [e])) hL hM
    · intro d k L hd hL
      obtain ⟨c, k0, rfl, p1, rfl⟩ := (renH_hp hσ).1 hd
      rw [hρ] at hL
      exact H.out c k0 L p1 hL
    · intro d k L hd hL
      obtain ⟨c, k0, rfl, p1, rfl⟩ := (renH_hp hσ).1 hd
      rw [hρ] at hL
      rcases H.own c k0 L p1 hL with p | p
      · exact .inl ((hb _).1 p)
      · exact .inr p
    · intro b hbI
      rcases H.imm b hbI with p | p | p
      · exact .inl p
      · exact .inr (.inl ((hb _).1 p))
      · exact .inr (.inr p)
    · intro b hlt hnb
      exact H.fr b hlt fun p => hnb ((hb _).1 p)
  · intro d hd hm
    obtain ⟨k, hk'⟩ := Option.isSome_iff_exists.1 hd
    obtain ⟨c, k0, rfl, p1, rfl⟩ := (renH_hp hσ).1 hk'
    rw [hρ]
    refine hst c (by rw [p1]; rfl) fun hc => hm (List.mem_map.2 ⟨c, hc, rfl⟩)

/-- The same for a function that leaves the chunks as they were. -/
theorem Quiet.ren {f : Nat} {args args' : List V0} {hs hs1 : List (Nat × Chunk)} {r r' : SV} (l : List Nat) (h : Quiet P f args hs r) (h1 : nodupB l = true) (h2 : l.all (fun c => Nat.blt c 10000) = true)
    (ha : args.map (·.ren (renF l 10000)) = args') (hh : renH (renF l 10000) hs = hs1) (hr : r.ren (renF l 10000) = r') : Quiet P f args' hs1 r' := by
  subst ha; subst hh; subst hr
  refine (FnOK.ren (renF_inj h1 h2) h).mono ?_
  rintro r hs' ⟨r0, hs0, ⟨rfl, rfl⟩, rfl, rfl⟩
  exact ⟨rfl, rfl⟩

end
end Go.Sx
