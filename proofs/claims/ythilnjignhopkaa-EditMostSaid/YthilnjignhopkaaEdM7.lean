/- What the greedy way returns. Plain. Conditions: none. -/
import Derived.Test.YthilnjignhopkaaEdM6
set_option linter.unusedSimpArgs false
set_option linter.unusedVariables false
set_option maxRecDepth 10000
namespace Go.Sx
open Go Go.Proofs

/-- How many of the first i records keep. -/
def keepC (old out : List Int) : Nat → Int
  | 0 => 0
  | i + 1 => keepC old out i + (if old.getD i 0 = out.getD i 0 then 1 else 0)

theorem keepC_app (old out : List Int) (x : Int) : ∀ i, i ≤ out.length → keepC old (out ++ [x]) i = keepC old out i
  | 0, _ => rfl
  | i + 1, h => by
    simp only [keepC]
    rw [keepC_app old out x i (by omega)]
    have : (out ++ [x]).getD i 0 = out.getD i 0 := by
      simp only [List.getD_eq_getElem?_getD]
      rw [List.getElem?_append_left (by omega)]
    rw [this]

theorem getD_app_last (out : List Int) (x : Int) : (out ++ [x]).getD out.length 0 = x := by
  simp [List.getD_eq_getElem?_getD]

structure GInv (old : List Int) (to : Nat) (lo hi : Int) (m0 : Int) (i : Nat) (s : List Int × List Int) : Prop where
  ul : s.1.length = to
  ui : UIn lo hi s.1
  ol : s.2.length = i
  rng : ∀ x ∈ s.2, 0 ≤ x ∧ x < to
  cnt : ∀ j, j < to → s.1.getD j 0 = count s.2 j
  mo : mostAt old lo hi s.1 i = m0 - keepC old s.2 i
  nn : 0 ≤ mostAt old lo hi s.1 i

theorem goodAt_iff {old : List Int} {lo hi : Int} {used : List Int} {i j : Nat} (h : goodAt old lo hi used i j = true) : used.getD j 0 < hi ∧ restAt old lo hi used i j = mostAt old lo hi used i := by
  simpa [goodAt] using h

theorem greedy_inv {old : List Int} {to : Nat} {lo hi : Int} (hu : UIn lo hi (List.replicate to 0)) (hm : 0 ≤ mostAt old lo hi (List.replicate to 0) 0) : ∀ i, i ≤ old.length → GInv old to lo hi (mostAt old lo hi (List.replicate to 0) 0) i (greedy old to lo hi i)
  | 0, _ => ⟨by simp [greedy], hu, rfl, by simp [greedy], fun j hj => by simp [greedy, count, List.getD_eq_getElem?_getD, hj], by simp [greedy, keepC], hm⟩
  | i + 1, hi1 => by
    have hI := greedy_inv hu hm i (by omega)
    obtain ⟨j0, hj0, hg0⟩ := good_ex hI.ui (by omega) hI.nn
    have hf : ∃ j, findAt old to lo hi (greedy old to lo hi i).1 i = some j := by
      cases hf : findAt old to lo hi (greedy old to lo hi i).1 i with
      | some j => exact ⟨j, rfl⟩
      | none =>
        exfalso
        unfold findAt at hf
        rw [List.find?_eq_none] at hf
        have := hf j0 (by simp; rw [← hI.ul]; exact hj0)
        exact this hg0
    obtain ⟨j, hf⟩ := hf
    obtain ⟨h1, h2, h3⟩ := findAt_some hf
    have hul := hI.ul
    have hst : greedy old to lo hi (i + 1) = (incAt (greedy old to lo hi i).1 j 1, (greedy old to lo hi i).2 ++ [(j : Int)]) := by
      simp only [greedy, stepAt, hf]
    rw [hst]
    have hui := hI.ui.inc (by omega) h2
    have hnn := hI.nn
    have hmo := hI.mo
    have hol := hI.ol
    -- what is left
    have hmost : mostAt old lo hi (incAt (greedy old to lo hi i).1 j 1) (i + 1) = mostAt old lo hi (greedy old to lo hi i).1 i - (if old.getD i 0 = (j : Int) then 1 else 0) ∧ 0 ≤ mostAt old lo hi (incAt (greedy old to lo hi i).1 j 1) (i + 1) := by
      have hc := most_cases lo hi _ _ _ (hui.m old (i + 1))
      rw [← mostAt_eq] at hc
      unfold restAt at h3
      rcases hc with hc | hc
      · rw [if_neg (by omega)] at h3; omega
      · refine ⟨?_, hc⟩
        by_cases e : old.getD i 0 = (j : Int)
        · rw [if_pos ⟨e, hc⟩] at h3; rw [if_pos e]; omega
        · rw [if_neg (fun q => e q.1)] at h3; rw [if_neg e]; omega
    refine ⟨by simp only [incAt_length]; exact hul, hui, by simp [hol], ?_, ?_, ?_, hmost.2⟩
    · intro x hx
      rcases List.mem_append.1 hx with hx | hx
      · exact hI.rng x hx
      · simp at hx; subst hx; omega
    · intro k hk
      have hck := hI.cnt k hk
      have hg := getD_incAt' (greedy old to lo hi i).1 j 1 k
      show (incAt (greedy old to lo hi i).1 j 1).getD k 0 = _
      simp only [count, List.count_append, List.count_singleton, beq_iff_eq] at hck ⊢
      by_cases e : k = j
      · subst e
        rw [if_pos ⟨rfl, by omega⟩] at hg
        rw [hg, hck]; simp
      · rw [if_neg (fun q => e q.1)] at hg
        have e2 : ¬ ((j : Int) = (k : Int)) := fun q => e (by omega)
        rw [hg, hck]; simp [e2]
    · simp only [keepC]
      rw [hmost.1, keepC_app _ _ _ i (by omega), hmo]
      have hlast : ((greedy old to lo hi i).2 ++ [(j : Int)]).getD i 0 = j := by
        have := getD_app_last (greedy old to lo hi i).2 (j : Int)
        rw [hol] at this
        exact this
      rw [hlast]
      omega

/-- Targets in order, that as many records keep as can. -/
structure TargetsOK (old : List Int) (to : Nat) (lo hi : Int) (out : List Int) : Prop where
  len : out.length = old.length
  rng : ∀ x ∈ out, 0 ≤ x ∧ x < to
  cnt : ∀ j : Nat, j < to → lo ≤ count out j ∧ (count out j : Int) ≤ hi
  keep : keepC old out old.length = mostAt old lo hi (List.replicate to 0) 0

theorem greedy_ok {old : List Int} {to : Nat} {lo hi : Int} (hu : UIn lo hi (List.replicate to 0)) (hm : 0 ≤ mostAt old lo hi (List.replicate to 0) 0) : TargetsOK old to lo hi (greedy old to lo hi old.length).2 := by
  have hI := greedy_inv hu hm old.length (Nat.le_refl _)
  obtain ⟨t, ht, hk⟩ := most_attained (hI.ui.m old old.length) hI.nn
  have hm0 : mI old old.length = 0 := by unfold mI; simp
  have hul := hI.ul
  have hz : ∀ j, j < (greedy old to lo hi old.length).1.length → t j = 0 := fun j hj => by
    rcases Int.lt_or_eq_of_le (ht.ok j hj).1 with h | h
    · exfalso
      have := sumN_lt (h := fun _ => 0) (h' := t) (fun w hw => (ht.ok w hw).1) hj h
      rw [sumN_zero, ht.sum, hm0] at this
      omega
    · exact h.symm
  refine ⟨hI.ol, hI.rng, fun j hj => ?_, ?_⟩
  · have h1 := ht.ok j (by omega)
    have h2 := hz j (by omega)
    have h3 := hI.cnt j hj
    omega
  · have h1 := hI.mo
    have h2 : keptN (greedy old to lo hi old.length).1 (cI old old.length) t = 0 := by
      unfold keptN
      refine (sumN_congr (h' := fun _ => 0) fun j hj => ?_).trans (sumN_zero _)
      rw [hz j hj]
      unfold cI
      omega
    rw [mostAt_eq] at h1
    omega

theorem sumN_const (c : Int) (n : Nat) : sumN (fun _ => c) n = n * c := by
  induction n with
  | zero => simp [sumN]
  | succ n ih => simp only [sumN, ih]; rw [show ((n + 1 : Nat) : Int) = (n : Int) + 1 by omega, Int.add_mul]; omega

theorem most0_nn {old : List Int} {to : Nat} {lo hi : Int} (h0 : 0 ≤ lo) (h1 : lo ≤ hi) (h2 : to * lo ≤ old.length) (h3 : (old.length : Int) ≤ to * hi) : UIn lo hi (List.replicate to 0) ∧ 0 ≤ mostAt old lo hi (List.replicate to 0) 0 := by
  have hz : ∀ j, j < to → (List.replicate to (0 : Int)).getD j 0 = 0 := fun j hj => by simp [List.getD_eq_getElem?_getD, hj]
  have hu : UIn lo hi (List.replicate to 0) := ⟨h0, h1, fun j hj => by
    have hj : j < to := by simpa using hj
    rw [hz j hj]; omega⟩
  refine ⟨hu, ?_⟩
  obtain ⟨t, t1, t2⟩ := between (a := fun _ => lo) (b := fun _ => hi) to old.length (fun _ _ => h1) (by rw [sumN_const]; exact h2) (by rw [sumN_const]; exact h3)
  refine (most_upper (hu.m old 0) (t := t) ⟨fun j hj => ?_, ?_⟩).1
  · have hj : j < to := by simpa using hj
    have := t1 j hj
    rw [hz j hj]; omega
  · rw [List.length_replicate, t2]; simp [mI]

theorem refs_targets {old : List Int} {to lo hi : Int} (he : refsErr old to lo hi = 0) : TargetsOK old to.toNat lo (min hi (old.length : Int)) (refsL old to lo hi) := by
  unfold refsL
  rw [if_pos he]
  unfold refsErr at he
  split at he
  · omega
  split at he
  · omega
  split at he
  · omega
  rename_i e1 e2 e3
  by_cases h0 : to = 0
  · subst h0
    have hl : old.length = 0 := by
      rw [Int.zero_mul, Int.zero_mul] at e3
      omega
    have : old = [] := List.length_eq_zero_iff.1 hl
    subst this
    refine ⟨by simp [greedy], by simp [greedy], fun j hj => by simp at hj, by simp [keepC, mostAt, mostV, mostSt]⟩
  · have hto : 1 ≤ to := by omega
    have hm : to * min hi (old.length : Int) ≥ old.length ∧ to * min lo 1000 ≤ old.length := by omega
    have hlo : min lo 1000 ≤ old.length := by
      have := Int.mul_le_mul_of_nonneg_right hto (show 0 ≤ min lo 1000 by omega)
      omega
    have hlo2 : min lo 1000 = lo := by omega
    rw [hlo2] at hm hlo
    obtain ⟨k1, k2⟩ := most0_nn (old := old) (to := to.toNat) (lo := lo) (hi := min hi (old.length : Int)) (by omega) (by omega) (by rw [Int.toNat_of_nonneg (by omega)]; exact hm.2) (by rw [Int.toNat_of_nonneg (by omega)]; exact hm.1)
    exact greedy_ok k1 k2

/-- No targets within the bounds are kept by more. -/
theorem keep_upper {old x : List Int} {to : Nat} {lo hi : Int} (hu : UIn lo hi (List.replicate to 0)) (hl : x.length = old.length) (hr : ∀ y ∈ x, 0 ≤ y ∧ y < to) (hc : ∀ j : Nat, j < to → lo ≤ count x j ∧ (count x j : Int) ≤ hi) : keepC old x old.length ≤ mostAt old lo hi (List.replicate to 0) 0 := by
  have hz : ∀ j, j < to → (List.replicate to (0 : Int)).getD j 0 = 0 := fun j hj => by simp [List.getD_eq_getElem?_getD, hj]
  have hall : ∀ (i : Nat), i ≤ x.length → sumN (fun j => (count (x.take i) j : Int)) to = i := by
    intro i
    induction i with
    | zero => intro _; simp only [List.take_zero, count, List.count_nil]; rw [show (fun j : Nat => ((0 : Nat) : Int)) = fun _ => 0 from rfl, sumN_zero]; rfl
    | succ i ih =>
      intro hi1
      have e : ∀ j : Nat, (count (x.take (i + 1)) j : Int) = (count (x.take i) j : Int) + (if x.getD i 0 = (j : Int) then 1 else 0) := fun j => by
        rw [List.take_add_one, List.getElem?_eq_getElem (by omega)]
        simp only [count, List.count_append, Option.toList_some, List.count_singleton, beq_iff_eq, List.getD_eq_getElem?_getD, List.getElem?_eq_getElem (show i < x.length by omega), Option.getD_some]
        split <;> simp
      rw [sumN_congr (fun j _ => e j), sumN_add, ih (by omega), sumN_ind]
      have := hr (x.getD i 0) (by rw [List.getD_eq_getElem?_getD, List.getElem?_eq_getElem (by omega)]; exact List.getElem_mem _)
      rw [if_pos this]; omega
  have hfit : Fits lo hi (List.replicate to 0) (mI old 0) (fun j => count x j) := by
    refine ⟨fun j hj => ?_, ?_⟩
    · have hj : j < to := by simpa using hj
      rw [hz j hj]
      have := hc j hj
      omega
    · have := hall x.length (Nat.le_refl _)
      rw [List.take_length] at this
      rw [List.length_replicate, this]; simp [mI, hl]
  have h1 := (most_upper (hu.m old 0) hfit).2
  rw [mostAt_eq]
  refine Int.le_trans ?_ h1
  -- the records that keep, target by target
  have key : ∀ i, i ≤ x.length → keepC old x i ≤ sumN (fun j => min (count (old.take i) j : Int) (count (x.take i) j : Int)) to := by
    intro i
    induction i with
    | zero => intro _; simp only [keepC, List.take_zero, count, List.count_nil]; rw [show (fun j : Nat => min ((0 : Nat) : Int) ((0 : Nat) : Int)) = fun _ => 0 from rfl, sumN_zero]; exact Int.le_refl _
    | succ i ih =>
      intro hi1
      have e : ∀ (l : List Int) (h : i < l.length) (j : Nat), (count (l.take (i + 1)) j : Int) = (count (l.take i) j : Int) + (if l.getD i 0 = (j : Int) then 1 else 0) := fun l h j => by
        rw [List.take_add_one, List.getElem?_eq_getElem h]
        simp only [count, List.count_append, Option.toList_some, List.count_singleton, beq_iff_eq, List.getD_eq_getElem?_getD, List.getElem?_eq_getElem h, Option.getD_some]
        split <;> simp
      have hxi := hr (x.getD i 0) (by rw [List.getD_eq_getElem?_getD, List.getElem?_eq_getElem (by omega)]; exact List.getElem_mem _)
      simp only [keepC]
      refine Int.le_trans (Int.add_le_add_right (ih (by omega)) _) ?_
      by_cases e1 : old.getD i 0 = x.getD i 0
      · rw [if_pos e1]
        have := sumN_ind (x.getD i 0) to
        rw [if_pos hxi] at this
        rw [← this, ← sumN_add]
        refine sumN_le fun j hj => ?_
        rw [e x (by omega), e old (by omega), e1]
        split <;> omega
      · rw [if_neg e1, Int.add_zero]
        refine sumN_le fun j hj => ?_
        rw [e x (by omega), e old (by omega)]
        split <;> split <;> omega
  have := key x.length (Nat.le_refl _)
  rw [hl] at this
  rw [List.take_of_length_le (by omega), List.take_of_length_le (by omega)] at this
  unfold keptN
  rw [List.length_replicate]
  exact this

end Go.Sx
