/- The greedy way's steps. Plain. Conditions: none. -/
import Derived.Test.YthilnjignhopkaaEdM5
set_option linter.unusedSimpArgs false
set_option linter.unusedVariables false
set_option maxRecDepth 10000
namespace Go.Sx
open Go Go.Proofs

theorem sumN_ind (x : Int) (n : Nat) : sumN (fun j => if x = (j : Int) then 1 else 0) n = if 0 ≤ x ∧ x < n then 1 else 0 := by
  induction n with
  | zero => simp only [sumN]; rw [if_neg (by omega)]
  | succ n ih =>
    simp only [sumN, ih]
    by_cases e : x = (n : Int)
    · rw [if_neg (by omega), if_pos e, if_pos (by omega)]; rfl
    · by_cases h : 0 ≤ x ∧ x < n
      · rw [if_pos h, if_neg e, if_pos (by omega)]; rfl
      · rw [if_neg h, if_neg e, if_neg (by omega)]; rfl

theorem sum_count (l : List Int) (n : Nat) : sumN (fun j => (count l j : Int)) n ≤ l.length := by
  induction l with
  | nil => simp only [count, List.count_nil]; rw [show (fun j : Nat => ((0 : Nat) : Int)) = fun _ => 0 from rfl, sumN_zero]; simp
  | cons x l ih =>
    have e : ∀ j : Nat, (count (x :: l) j : Int) = (count l j : Int) + (if x = (j : Int) then 1 else 0) := fun j => by
      simp only [count, List.count_cons, beq_iff_eq]
      split <;> simp
    rw [sumN_congr (fun j _ => e j), sumN_add, sumN_ind]
    simp only [List.length_cons]
    split <;> omega

def cI (old : List Int) (i : Nat) (j : Nat) : Int := (count (old.drop i) j : Nat)
def mI (old : List Int) (i : Nat) : Int := ((old.drop i).length : Nat)

theorem mostAt_eq (old : List Int) (lo hi : Int) (used : List Int) (i : Nat) : mostAt old lo hi used i = mostV lo hi used (cI old i) (mI old i) := rfl

theorem cI_succ (old : List Int) (i : Nat) (h : i < old.length) (j : Nat) : cI old i j = cI old (i + 1) j + (if old.getD i 0 = (j : Int) then 1 else 0) := by
  unfold cI
  rw [List.drop_eq_getElem_cons h]
  simp only [count, List.count_cons, beq_iff_eq, List.getD_eq_getElem?_getD, List.getElem?_eq_getElem h, Option.getD_some]
  split <;> simp

theorem mI_succ (old : List Int) (i : Nat) (h : i < old.length) : mI old i = mI old (i + 1) + 1 := by
  unfold mI; simp only [List.length_drop]; omega

/-- What is asked of bounds and of what is used. -/
structure UIn (lo hi : Int) (used : List Int) : Prop where
  lo0 : 0 ≤ lo
  lohi : lo ≤ hi
  us : ∀ j, j < used.length → 0 ≤ used.getD j 0 ∧ used.getD j 0 ≤ hi

theorem UIn.m {lo hi : Int} {used : List Int} (h : UIn lo hi used) (old : List Int) (i : Nat) : MIn lo hi used (cI old i) (mI old i) :=
  ⟨h.lo0, h.lohi, h.us, fun j => by unfold cI; omega, sum_count _ _⟩

theorem UIn.inc {lo hi : Int} {used : List Int} (h : UIn lo hi used) {j : Nat} (hj : j < used.length) (hu : used.getD j 0 < hi) : UIn lo hi (incAt used j 1) := by
  refine ⟨h.lo0, h.lohi, fun k hk => ?_⟩
  rw [getD_incAt']
  have := h.us k (by simpa [incAt] using hk)
  have := h.us j hj
  split <;> omega

theorem incAt_length (used : List Int) (j : Nat) (d : Int) : (incAt used j d).length = used.length := by simp [incAt]

/-- The last sum with one more at j. -/
theorem sum_one (t : Nat → Int) (j n : Nat) (hj : j < n) (d : Int) : sumN (fun x => t x + (if x = j then d else 0)) n = sumN t n + d := by
  rw [sumN_add]
  congr 1
  induction n with
  | zero => omega
  | succ n ih =>
    simp only [sumN]
    by_cases e : n = j
    · subst e
      rw [if_pos rfl, sumN_congr (h' := fun _ => 0) (fun w hw => by rw [if_neg (by omega)]), sumN_zero, Int.zero_add]
    · rw [if_neg e, ih (by omega), Int.add_zero]

theorem rest_le {old : List Int} {lo hi : Int} {used : List Int} {i j : Nat} (h : UIn lo hi used) (hi1 : i < old.length) (hj : j < used.length) (hu : used.getD j 0 < hi) : restAt old lo hi used i j ≤ mostAt old lo hi used i := by
  have h2 := h.inc hj hu
  have hlen := incAt_length used j 1
  rcases most_cases lo hi _ _ _ (h2.m old (i + 1)) with hc | hc
  · have : restAt old lo hi used i j = -1 := by
      unfold restAt
      rw [mostAt_eq, hc]
      rw [if_neg (by omega)]
    rw [this]
    rcases most_cases lo hi _ _ _ (h.m old i) with e | e <;> rw [mostAt_eq] <;> omega
  · obtain ⟨t', ht', hk⟩ := most_attained (h2.m old (i + 1)) hc
    have hfit : Fits lo hi used (mI old i) (fun x => t' x + (if x = j then 1 else 0)) := by
      refine ⟨fun x hx => ?_, ?_⟩
      · have := ht'.ok x (by omega)
        rw [getD_incAt'] at this
        by_cases e : x = j
        · subst e; rw [if_pos ⟨rfl, hj⟩] at this; simp only [if_true]; omega
        · rw [if_neg (fun q => e q.1)] at this; simp only [if_neg e]; omega
      · rw [sum_one _ _ _ hj, mI_succ old i hi1, ← ht'.sum, hlen]
    have hup := (most_upper (h.m old i) hfit).2
    have hsum : keptN (incAt used j 1) (cI old (i + 1)) t' + (if old.getD i 0 = (j : Int) then 1 else 0) ≤ keptN used (cI old i) (fun x => t' x + (if x = j then 1 else 0)) := by
      unfold keptN
      rw [hlen]
      have := sum_one (fun x => min (cI old (i + 1) x) (t' x)) j used.length hj (if old.getD i 0 = (j : Int) then 1 else 0)
      rw [← this]
      refine sumN_le fun x hx => ?_
      rw [cI_succ old i hi1]
      by_cases e : x = j
      · subst e
        simp only [if_true]
        split <;> omega
      · simp only [if_neg e]
        split <;> omega
    rw [mostAt_eq]
    unfold restAt
    rw [mostAt_eq, ← hk] at *
    split
    · rename_i hh; rw [if_pos hh.1] at hsum; omega
    · rename_i hh
      by_cases e : old.getD i 0 = (j : Int)
      · rw [if_pos e] at hsum; omega
      · rw [if_neg e] at hsum; omega

theorem rest_ge {old : List Int} {lo hi : Int} {used : List Int} {i j : Nat} (h : UIn lo hi used) (hj : j < used.length) (hu : used.getD j 0 < hi) {t' : Nat → Int} (ht : Fits lo hi (incAt used j 1) (mI old (i + 1)) t') :
    keptN (incAt used j 1) (cI old (i + 1)) t' + (if old.getD i 0 = (j : Int) then 1 else 0) ≤ restAt old lo hi used i j := by
  obtain ⟨h1, h2⟩ := most_upper ((h.inc hj hu).m old (i + 1)) ht
  unfold restAt
  rw [mostAt_eq]
  by_cases e : old.getD i 0 = (j : Int)
  · rw [if_pos e, if_pos ⟨e, h1⟩]; omega
  · rw [if_neg e, if_neg (fun q => e q.1)]; omega

/-- As long as there are targets, some target is as good as can be. -/
theorem good_ex {old : List Int} {lo hi : Int} {used : List Int} {i : Nat} (h : UIn lo hi used) (hi1 : i < old.length) (hm : 0 ≤ mostAt old lo hi used i) : ∃ j, j < used.length ∧ goodAt old lo hi used i j = true := by
  obtain ⟨t, ht, hk⟩ := most_attained (h.m old i) hm
  have hm1 := mI_succ old i hi1
  have hm0 : 0 ≤ mI old (i + 1) := by unfold mI; omega
  -- it is enough to take one off t at a place where nothing is lost
  have key : ∀ j, j < used.length → 1 ≤ t j → (old.getD i 0 = (j : Int) ∨ (cI old i j < t j ∧ ∀ x, x < used.length → old.getD i 0 = (x : Int) → t x ≤ 0)) → ∃ j, j < used.length ∧ goodAt old lo hi used i j = true := by
    intro j hj htj hcase
    have hokj := ht.ok j hj
    have hu : used.getD j 0 < hi := by omega
    have hfit : Fits lo hi (incAt used j 1) (mI old (i + 1)) (fun x => t x + (if x = j then -1 else 0)) := by
      refine ⟨fun x hx => ?_, ?_⟩
      · have hx : x < used.length := by rw [incAt_length] at hx; exact hx
        have := ht.ok x hx
        have hg := getD_incAt' used j 1 x
        by_cases e : x = j
        · subst e; rw [if_pos ⟨rfl, hj⟩] at hg; simp only [if_true]; omega
        · rw [if_neg (fun q => e q.1)] at hg; simp only [if_neg e]; omega
      · rw [incAt_length, sum_one _ _ _ hj, ht.sum]; omega
    have hge := rest_ge h hj hu hfit
    have hle := rest_le h hi1 hj hu
    have hsum : keptN used (cI old i) t ≤ keptN (incAt used j 1) (cI old (i + 1)) (fun x => t x + (if x = j then -1 else 0)) + (if old.getD i 0 = (j : Int) then 1 else 0) := by
      unfold keptN
      rw [incAt_length]
      have := sum_one (fun x => min (cI old (i + 1) x) (t x + (if x = j then -1 else 0))) j used.length hj (if old.getD i 0 = (j : Int) then 1 else 0)
      rw [← this]
      refine sumN_le fun x hx => ?_
      have hcx := cI_succ old i hi1 x
      have hokx := ht.ok x hx
      have hc0 : 0 ≤ cI old (i + 1) x := by unfold cI; omega
      by_cases e : x = j
      · subst e
        simp only [if_true]
        rcases hcase with h1 | ⟨h1, h2⟩
        · rw [if_pos h1] at hcx ⊢; omega
        · by_cases e2 : old.getD i 0 = (x : Int)
          · have := h2 x hx e2; omega
          · rw [if_neg e2] at hcx ⊢; omega
      · simp only [if_neg e]
        rcases hcase with h1 | ⟨h1, h2⟩
        · rw [if_neg (fun q => e (by omega))] at hcx; omega
        · by_cases e2 : old.getD i 0 = (x : Int)
          · have := h2 x hx e2; rw [if_pos e2] at hcx; omega
          · rw [if_neg e2] at hcx; omega
    refine ⟨j, hj, ?_⟩
    unfold goodAt
    rw [decide_eq_true hu, decide_eq_true (show restAt old lo hi used i j = mostAt old lo hi used i by rw [mostAt_eq] at *; omega)]
    rfl
  by_cases hk1 : ∃ x, x < used.length ∧ old.getD i 0 = (x : Int) ∧ 1 ≤ t x
  · obtain ⟨x, x1, x2, x3⟩ := hk1
    exact key x x1 x3 (.inl x2)
  · have hnone : ∀ x, x < used.length → old.getD i 0 = (x : Int) → t x ≤ 0 := fun x hx e => by
      rcases Int.lt_or_le (t x) 1 with q | q
      · omega
      · exact absurd ⟨x, hx, e, q⟩ hk1
    have hex : ∃ j, j < used.length ∧ cI old i j < t j := by
      rcases Classical.em (∃ j, j < used.length ∧ cI old i j < t j) with q | q
      · exact q
      · exfalso
        have hall : ∀ j, j < used.length → t j ≤ cI old (i + 1) j := fun j hj => by
          have h1 : t j ≤ cI old i j := by
            rcases Int.lt_or_le (cI old i j) (t j) with p | p
            · exact absurd ⟨j, hj, p⟩ q
            · exact p
          have hc := cI_succ old i hi1 j
          by_cases e : old.getD i 0 = (j : Int)
          · have := hnone j hj e
            have hc0 : 0 ≤ cI old (i + 1) j := by unfold cI; omega
            omega
          · rw [if_neg e] at hc; omega
        have h1 := sumN_le hall
        have h2 : sumN (cI old (i + 1)) used.length ≤ mI old (i + 1) := sum_count _ _
        have h3 := ht.sum
        omega
    obtain ⟨j, hj, hlt⟩ := hex
    have hc0 : 0 ≤ cI old i j := by unfold cI; omega
    exact key j hj (by omega) (.inr ⟨hlt, hnone⟩)

end Go.Sx
