/- Least levels: what holds while they are reckoned; the cycle that is found. Plain. Conditions: none. -/
import Derived.Test.YthilnjignhopkaaEdG8
set_option linter.unusedSimpArgs false
set_option linter.unusedVariables false
set_option maxRecDepth 10000
namespace Go.Sx
open Go Go.Proofs

/-- A state: levels, entries, how many were lowered, when each node was lowered last, in which pass. -/
structure BS where
  d : List Int
  M : List (Int × ArT.den)
  T : Nat
  st : Int → Nat
  ps : Int → Nat

def lv (s : BS) (v : Int) : Int := s.d.getD v.toNat 0

/-- An arc is tight enough, or its node was lowered in pass th or later. -/
def arcDone (s : BS) (th : Nat) (a : ArT.den) : Prop := lv s a.2.2.1 ≤ lv s a.2.1 + a.2.2.2.1 ∨ th ≤ s.ps a.2.1

structure BF (n : Int) (l : List EdT.den) (f : List Int) (s : BS) (k j : Nat) : Prop where
  len : (s.d.length : Int) = n
  rng : ∀ i, -1000 * (s.T : Int) ≤ s.d.getD i 0 ∧ s.d.getD i 0 ≤ 0
  has : ∀ v, (mget (K := I64) (E := ArT) s.M v).isSome = true ↔ 0 < s.ps v
  ent : ∀ v a, mget (K := I64) (E := ArT) s.M v = some a → a ∈ arcL l ∧ 1 ≤ room l f a ∧ a.2.2.1 = v ∧ lv s a.2.1 + a.2.2.2.1 ≤ lv s v ∧ (lv s v = lv s a.2.1 + a.2.2.2.1 → s.st a.2.1 < s.st v) ∧ s.ps v ≤ s.ps a.2.1 + 1
  sle : ∀ v, s.st v ≤ s.T
  ple : ∀ v, s.ps v ≤ k
  arc : ∀ i a, (arcL l)[i]? = some a → 1 ≤ room l f a → arcDone s (if i < j then k else k - 1) a
  tle : s.T ≤ (k - 1) * (arcL l).length + j

def bs0 (n : Int) : BS := ⟨List.replicate n.toNat 0, [], 0, fun _ => 0, fun _ => 0⟩

theorem bf0 {n : Int} {l : List EdT.den} {f : List Int} (hN : NetOK n l) : BF n l f (bs0 n) 1 0 := by
  have h1 := hN.1
  have hd : ∀ i, (bs0 n).d.getD i 0 = 0 := fun i => by simp only [bs0, List.getD_eq_getElem?_getD, List.getElem?_replicate]; split <;> rfl
  refine ⟨by simp [bs0]; omega, fun i => by rw [hd]; simp [bs0], fun v => by simp [bs0, mget, mfind], fun v a h => by simp [bs0, mget, mfind] at h, fun v => Nat.le_refl _, fun v => Nat.zero_le _, ?_, by simp [bs0]⟩
  intro i a ha _
  right
  show (if i < 0 then 1 else 1 - 1) ≤ 0
  simp

/-- Arc a is not lowered. -/
theorem BF.skip {n : Int} {l : List EdT.den} {f : List Int} {s : BS} {k j : Nat} (h : BF n l f s k j) {a : ArT.den} (ha : (arcL l)[j]? = some a) (hs : 1 ≤ room l f a → lv s a.2.2.1 ≤ lv s a.2.1 + a.2.2.2.1) : BF n l f s k (j + 1) := by
  refine ⟨h.len, h.rng, h.has, h.ent, h.sle, h.ple, fun i b hi hr => ?_, by have := h.tle; omega⟩
  by_cases e : i = j
  · subst e
    rw [ha] at hi; cases hi
    exact .inl (hs hr)
  · have := h.arc i b hi hr
    by_cases h1 : i < j
    · rw [if_pos (by omega)]; rw [if_pos h1] at this; exact this
    · rw [if_neg (by omega)]; rw [if_neg h1] at this; exact this

def bsLow (s : BS) (k : Nat) (a : ArT.den) : BS where
  d := s.d.set a.2.2.1.toNat (lv s a.2.1 + a.2.2.2.1)
  M := mset (K := I64) (E := ArT) s.M a.2.2.1 a
  T := s.T + 1
  st := fun v => if v = a.2.2.1 then s.T + 1 else s.st v
  ps := fun v => if v = a.2.2.1 then k else s.ps v

theorem mfind_getElem {M : List (Int × ArT.den)} {x : Int} {i : Nat} {y : ArT.den} : mfind (K := I64) (E := ArT) M x = some (i, y) → i < M.length := by
  induction M generalizing i y with
  | nil => intro h; simp [mfind] at h
  | cons p M ih =>
    intro h
    unfold mfind at h
    split at h
    · cases h; simp
    · split at h
      · rename_i j z hj
        cases h
        have := ih hj
        simp; omega
      · cases h

theorem mfind_set {M : List (Int × ArT.den)} {x z : Int} {i : Nat} {y b : ArT.den} : mfind (K := I64) (E := ArT) M x = some (i, y) → (mfind (K := I64) (E := ArT) (M.set i (x, b)) z).map (·.2) = if z = x then some b else (mfind (K := I64) (E := ArT) M z).map (·.2) := by
  induction M generalizing i y with
  | nil => intro h; simp [mfind] at h
  | cons p M ih =>
    intro h
    unfold mfind at h
    split at h
    · rename_i hk
      have hk : x = p.1 := by have hk : (x == p.1) = true := hk; simpa using hk
      cases h
      simp only [List.set_cons_zero]
      unfold mfind
      by_cases e : z = x
      · have e1 : Ty.keyEq I64 z (x, b).1 = true := by show (z == x) = true; simp [e]
        rw [e1, if_pos e]; rfl
      · have e1 : Ty.keyEq I64 z (x, b).1 = false := by show (z == x) = false; simp [e]
        have e2 : Ty.keyEq I64 z p.1 = false := by show (z == p.1) = false; rw [← hk]; simp [e]
        rw [e1, e2, if_neg e]
    · rename_i hk
      have hk : ¬ x = p.1 := by have hk : (x == p.1) = false := hk; simpa using hk
      split at h
      · rename_i j y' hj
        cases h
        have := ih hj
        simp only [List.set_cons_succ]
        unfold mfind
        by_cases e : z = p.1
        · have e1 : Ty.keyEq I64 z p.1 = true := by show (z == p.1) = true; simp [e]
          rw [e1, if_neg (fun e' => hk (by rw [← e', e]))]
        · have e1 : Ty.keyEq I64 z p.1 = false := by show (z == p.1) = false; simp [e]
          rw [e1]
          simp only
          revert this
          generalize mfind (K := I64) (E := ArT) (M.set j (x, b)) z = q1
          generalize mfind (K := I64) (E := ArT) M z = q2
          intro this
          cases q1 <;> cases q2 <;> simp_all
      · cases h

theorem mfind_app {M : List (Int × ArT.den)} {x z : Int} {b : ArT.den} : mfind (K := I64) (E := ArT) M x = none → (mfind (K := I64) (E := ArT) (M ++ [(x, b)]) z).map (·.2) = if z = x then some b else (mfind (K := I64) (E := ArT) M z).map (·.2) := by
  induction M with
  | nil =>
    intro _
    simp only [List.nil_append]
    unfold mfind
    by_cases e : z = x
    · have e1 : Ty.keyEq I64 z (x, b).1 = true := by show (z == x) = true; simp [e]
      rw [e1, if_pos e]; rfl
    · have e1 : Ty.keyEq I64 z (x, b).1 = false := by show (z == x) = false; simp [e]
      rw [e1, if_neg e]; simp [mfind]
  | cons p M ih =>
    intro h
    unfold mfind at h
    split at h
    · cases h
    · rename_i hk
      have hk : ¬ x = p.1 := by have hk : (x == p.1) = false := hk; simpa using hk
      split at h
      · cases h
      · rename_i hn
        have := ih hn
        simp only [List.cons_append]
        unfold mfind
        by_cases e : z = p.1
        · have e1 : Ty.keyEq I64 z p.1 = true := by show (z == p.1) = true; simp [e]
          rw [e1, if_neg (fun e' => hk (by rw [← e', e]))]
        · have e1 : Ty.keyEq I64 z p.1 = false := by show (z == p.1) = false; simp [e]
          rw [e1]
          simp only
          revert this
          generalize mfind (K := I64) (E := ArT) (M ++ [(x, b)]) z = q1
          generalize mfind (K := I64) (E := ArT) M z = q2
          intro this
          cases q1 <;> cases q2 <;> simp_all

theorem mget_mset (M : List (Int × ArT.den)) (x z : Int) (b : ArT.den) : mget (K := I64) (E := ArT) (mset (K := I64) (E := ArT) M x b) z = if z = x then some b else mget (K := I64) (E := ArT) M z := by
  unfold mget mset
  cases h : mfind (K := I64) (E := ArT) M x with
  | none => exact mfind_app h
  | some q => obtain ⟨i, y⟩ := q; exact mfind_set h

/-- Arc a is lowered, in pass k. -/
theorem BF.low {n : Int} {l : List EdT.den} {f : List Int} {s : BS} {k j : Nat} (hN : NetOK n l) (hk : 1 ≤ k) (h : BF n l f s k j) {a : ArT.den} (ha : (arcL l)[j]? = some a) (hr : 1 ≤ room l f a) (hs : lv s a.2.1 + a.2.2.2.1 < lv s a.2.2.1) : BF n l f (bsLow s k a) k (j + 1) := by
  have hmem : a ∈ arcL l := List.mem_iff_getElem?.2 ⟨j, ha⟩
  have hok := arc_ok hN hmem
  unfold ArcOK arcP at hok
  have hlen := h.len
  have hlv : ∀ v, 0 ≤ v → lv (bsLow s k a) v = if v = a.2.2.1 then lv s a.2.1 + a.2.2.2.1 else lv s v := fun v hv => by
    unfold lv bsLow
    simp only
    rw [getD_set0]
    by_cases e : v = a.2.2.1
    · rw [if_pos ⟨by rw [e], by omega⟩, if_pos e]; rfl
    · rw [if_neg (fun q => e (toNat_inj hv hok.2.2.2.2.1 q.1)), if_neg e]
  have hlow : ∀ v, 0 ≤ v → lv (bsLow s k a) v ≤ lv s v := fun v hv => by
    rw [hlv v hv]
    split
    · rename_i e; rw [e]; omega
    · exact Int.le_refl _
  have hru := h.rng a.2.1.toNat
  have hps : k - 1 ≤ s.ps a.2.1 := by
    have := h.arc j a ha hr
    rw [if_neg (by omega)] at this
    rcases this with q | q
    · omega
    · exact q
  refine ⟨?_, ?_, ?_, ?_, ?_, ?_, ?_, ?_⟩
  · simp only [bsLow, List.length_set]; exact hlen
  · intro i
    have hri := h.rng i
    simp only [bsLow]
    rw [getD_set0]
    have hrt := h.rng a.2.2.1.toNat
    unfold lv at hs ⊢
    split
    · have : ((s.T + 1 : Nat) : Int) = (s.T : Int) + 1 := by omega
      omega
    · omega
  · intro v
    simp only [bsLow, mget_mset]
    by_cases e : v = a.2.2.1
    · rw [if_pos e, if_pos e]; simp; omega
    · rw [if_neg e, if_neg e]; exact h.has v
  · intro v b hb
    simp only [bsLow, mget_mset] at hb
    by_cases e : v = a.2.2.1
    · rw [if_pos e] at hb
      cases hb
      subst e
      have e1 := hlv a.2.2.1 hok.2.2.2.2.1
      rw [if_pos rfl] at e1
      have e2 := hlv a.2.1 hok.2.2.1
      refine ⟨hmem, hr, rfl, ?_, ?_, ?_⟩
      · have := hlow a.2.1 hok.2.2.1; omega
      · intro he
        show (if a.2.1 = a.2.2.1 then s.T + 1 else s.st a.2.1) < (if a.2.2.1 = a.2.2.1 then s.T + 1 else s.st a.2.2.1)
        rw [if_pos rfl]
        by_cases eu : a.2.1 = a.2.2.1
        · rw [if_pos eu] at e2
          rw [eu] at hs
          omega
        · rw [if_neg eu]
          have := h.sle a.2.1
          omega
      · show (if a.2.2.1 = a.2.2.1 then k else s.ps a.2.2.1) ≤ (if a.2.1 = a.2.2.1 then k else s.ps a.2.1) + 1
        rw [if_pos rfl]
        split <;> omega
    · rw [if_neg e] at hb
      obtain ⟨q1, q2, q3, q4, q5, q6⟩ := h.ent v b hb
      have hbok := arc_ok hN q1
      unfold ArcOK arcP at hbok
      have hv0 : 0 ≤ v := by rw [← q3]; exact hbok.2.2.2.2.1
      have e1 := hlv v hv0
      rw [if_neg e] at e1
      have e2 := hlv b.2.1 hbok.2.2.1
      refine ⟨q1, q2, q3, ?_, ?_, ?_⟩
      · have := hlow b.2.1 hbok.2.2.1; omega
      · intro he
        show (if b.2.1 = a.2.2.1 then s.T + 1 else s.st b.2.1) < (if v = a.2.2.1 then s.T + 1 else s.st v)
        rw [if_neg e]
        by_cases eb : b.2.1 = a.2.2.1
        · rw [if_pos eb] at e2
          rw [eb] at q4
          omega
        · rw [if_neg eb] at e2 ⊢
          exact q5 (by omega)
      · show (if v = a.2.2.1 then k else s.ps v) ≤ (if b.2.1 = a.2.2.1 then k else s.ps b.2.1) + 1
        rw [if_neg e]
        split
        · have := h.ple v; omega
        · exact q6
  · intro v
    simp only [bsLow]
    have := h.sle v
    split <;> omega
  · intro v
    simp only [bsLow]
    have := h.ple v
    split <;> omega
  · intro i b hi hrb
    have hbm : b ∈ arcL l := List.mem_iff_getElem?.2 ⟨i, hi⟩
    have hbok := arc_ok hN hbm
    unfold ArcOK arcP at hbok
    have h1 := hlow b.2.2.1 hbok.2.2.2.2.1
    have h2 := hlv b.2.1 hbok.2.2.1
    unfold arcDone
    by_cases eb : b.2.1 = a.2.2.1
    · right
      show _ ≤ (if b.2.1 = a.2.2.1 then k else s.ps b.2.1)
      rw [if_pos eb]
      split <;> omega
    · rw [if_neg eb] at h2
      have hpe : (bsLow s k a).ps b.2.1 = s.ps b.2.1 := by simp only [bsLow]; rw [if_neg eb]
      rw [hpe]
      by_cases ei : i = j
      · subst ei
        rw [ha] at hi; cases hi
        left
        have h3 := hlv a.2.2.1 hok.2.2.2.2.1
        rw [if_pos rfl] at h3
        omega
      · have := h.arc i b hi hrb
        unfold arcDone at this
        by_cases hij : i < j
        · rw [if_pos hij] at this
          rw [if_pos (by omega)]
          rcases this with q | q
          · left; omega
          · right; exact q
        · rw [if_neg hij] at this
          rw [if_neg (by omega)]
          rcases this with q | q
          · left; omega
          · right; exact q
  · have := h.tle
    simp only [bsLow]; omega

/-- The next pass. -/
theorem BF.pass {n : Int} {l : List EdT.den} {f : List Int} {s : BS} {k : Nat} (hk : 1 ≤ k) (h : BF n l f s k (arcL l).length) : BF n l f s (k + 1) 0 := by
  refine ⟨h.len, h.rng, h.has, h.ent, h.sle, fun v => by have := h.ple v; omega, fun i a hi hr => ?_, ?_⟩
  · have := h.arc i a hi hr
    rw [if_pos (List.getElem?_eq_some_iff.1 hi).1] at this
    rw [if_neg (by omega)]
    exact this
  · have := h.tle
    have e : (k + 1 - 1) * (arcL l).length = (k - 1) * (arcL l).length + (arcL l).length := by
      obtain ⟨m, rfl⟩ : ∃ m, k = m + 1 := ⟨k - 1, by omega⟩
      simp [Nat.add_mul]
    omega

/-- A pass that lowers nothing: the levels are least. -/
theorem BF.done {n : Int} {l : List EdT.den} {f : List Int} {s : BS} {k : Nat} (h : BF n l f s k (arcL l).length) (hl : ∀ v, s.ps v < k) {a : ArT.den} (ha : a ∈ arcL l) (hr : 1 ≤ room l f a) : lv s a.2.2.1 ≤ lv s a.2.1 + a.2.2.2.1 := by
  obtain ⟨i, hi⟩ := List.mem_iff_getElem?.1 ha
  have := h.arc i a hi hr
  rw [if_pos (List.getElem?_eq_some_iff.1 hi).1] at this
  rcases this with q | q
  · exact q
  · have := hl a.2.1; omega

def costS : List ArT.den → Int
  | [] => 0
  | a :: ps => a.2.2.2.1 + costS ps

/-- What a way costs at most. -/
theorem BF.cost {n : Int} {l : List EdT.den} {f : List Int} {s : BS} {k j : Nat} (h : BF n l f s k j) {fr : Int} : ∀ {v : Int} {qs : List ArT.den}, IsPath s.M fr v qs → costS qs ≤ lv s v - lv s fr ∧ (costS qs = lv s v - lv s fr → s.st fr < s.st v)
  | _, [], hp => hp.elim
  | v, a :: qs, ⟨h1, h2⟩ => by
    obtain ⟨_, _, _, q4, q5, _⟩ := h.ent v a h1
    unfold costS
    rcases h2 with ⟨e, rfl⟩ | ⟨_, hp⟩
    · rw [e] at q4 q5
      simp only [costS]
      exact ⟨by omega, fun he => q5 (by omega)⟩
    · obtain ⟨p1, p2⟩ := BF.cost h hp
      refine ⟨by omega, fun he => ?_⟩
      have := p2 (by omega)
      have := q5 (by omega)
      omega

end Go.Sx
