/- The greedy way finds the first of the best lists of targets. Plain. Conditions: none. -/
import Derived.Test.YthilnjignhopkaaEdM11
set_option linter.unusedSimpArgs false
set_option linter.unusedVariables false
set_option maxRecDepth 10000
namespace Go.Sx
open Go Go.Proofs

theorem keepC_min (old x : List Int) (to : Nat) (hl : x.length ≤ old.length) (hr : ∀ y ∈ x, 0 ≤ y ∧ y < to) : ∀ i, i ≤ x.length → keepC old x i ≤ sumN (fun j => min (count (old.take i) j : Int) (count (x.take i) j : Int)) to
  | 0, _ => by simp only [keepC, List.take_zero, count, List.count_nil]; rw [show (fun j : Nat => min ((0 : Nat) : Int) ((0 : Nat) : Int)) = fun _ => 0 from rfl, sumN_zero]; exact Int.le_refl _
  | i + 1, h => by
    have ih := keepC_min old x to hl hr i (by omega)
    have hxi := hr (x.getD i 0) (by rw [List.getD_eq_getElem?_getD, List.getElem?_eq_getElem (by omega)]; exact List.getElem_mem _)
    simp only [keepC]
    refine Int.le_trans (Int.add_le_add_right ih _) ?_
    by_cases e1 : old.getD i 0 = x.getD i 0
    · rw [if_pos e1]
      have := sumN_ind (x.getD i 0) to
      rw [if_pos hxi] at this
      rw [← this, ← sumN_add]
      refine sumN_le fun j hj => ?_
      rw [count_take x i (by omega), count_take old i (by omega), e1]
      split <;> omega
    · rw [if_neg e1, Int.add_zero]
      refine sumN_le fun j hj => ?_
      rw [count_take x i (by omega), count_take old i (by omega)]
      split <;> split <;> omega

theorem getD_drop (l : List Int) (k m : Nat) : (l.drop k).getD m 0 = l.getD (k + m) 0 := by
  simp [List.getD_eq_getElem?_getD, List.getElem?_drop]

theorem keepC_drop (old y : List Int) (k : Nat) : ∀ m, keepC old y (k + m) = keepC old y k + keepC (old.drop k) (y.drop k) m
  | 0 => by simp [keepC]
  | m + 1 => by
    rw [show k + (m + 1) = k + m + 1 by omega]
    simp only [keepC]
    rw [keepC_drop old y k m, getD_drop, getD_drop]
    omega

theorem keepC_take (old y z : List Int) (k : Nat) (h : y.take k = z.take k) : ∀ i, i ≤ k → keepC old y i = keepC old z i
  | 0, _ => rfl
  | i + 1, hi => by
    simp only [keepC]
    have e : y.getD i 0 = z.getD i 0 := by
      have h1 : (y.take k)[i]? = (z.take k)[i]? := by rw [h]
      rw [List.getElem?_take, List.getElem?_take, if_pos (by omega), if_pos (by omega)] at h1
      rw [List.getD_eq_getElem?_getD, List.getD_eq_getElem?_getD, h1]
    rw [keepC_take old y z k h i (by omega), e]

section
variable {old : List Int} {to : Nat} {lo hi : Int} (hu : UIn lo hi (List.replicate to 0)) (hm : 0 ≤ mostAt old lo hi (List.replicate to 0) 0)
include hu hm

theorem greedy_step {k : Nat} (hk : k < old.length) : ∃ j, findAt old to lo hi (greedy old to lo hi k).1 k = some j ∧ (greedy old to lo hi (k + 1)).2 = (greedy old to lo hi k).2 ++ [(j : Int)] := by
  have h0 := (greedy_inv hu hm k (by omega)).ol
  have h1 := (greedy_inv hu hm (k + 1) (by omega)).ol
  cases hf : findAt old to lo hi (greedy old to lo hi k).1 k with
  | some j => exact ⟨j, rfl, by simp only [greedy, stepAt, hf]⟩
  | none =>
    simp only [greedy, stepAt, hf] at h1
    omega

theorem greedy_take {k : Nat} : ∀ m, k + m ≤ old.length → (greedy old to lo hi (k + m)).2.take k = (greedy old to lo hi k).2
  | 0, h => by
    have h0 := (greedy_inv hu hm k (by omega)).ol
    rw [Nat.add_zero, List.take_of_length_le (by omega)]
  | m + 1, h => by
    obtain ⟨j, _, e⟩ := greedy_step hu hm (k := k + m) (by omega)
    have h0 := (greedy_inv hu hm (k + m) (by omega)).ol
    rw [show k + (m + 1) = k + m + 1 by omega, e, List.take_append_of_le_length (by omega)]
    exact greedy_take m (by omega)

theorem greedy_least {y : List Int} (hl : y.length = old.length) (hr : ∀ x ∈ y, 0 ≤ x ∧ x < to) (hc : ∀ j : Nat, j < to → lo ≤ count y j ∧ (count y j : Int) ≤ hi)
    (hk : keepC old y old.length = mostAt old lo hi (List.replicate to 0) 0) {k : Nat} (hkn : k < old.length) (hp : y.take k = (greedy old to lo hi old.length).2.take k) :
    ¬ y.getD k 0 < (greedy old to lo hi old.length).2.getD k 0 := by
  intro hlt
  have hI := greedy_inv hu hm k (by omega)
  have hul := hI.ul
  obtain ⟨j, hf, e⟩ := greedy_step hu hm hkn
  have t1 := greedy_take hu hm (k := k) (old.length - k) (by omega)
  rw [show k + (old.length - k) = old.length by omega] at t1
  have t2 := greedy_take hu hm (k := k + 1) (old.length - (k + 1)) (by omega)
  rw [show k + 1 + (old.length - (k + 1)) = old.length by omega] at t2
  have hgk : (greedy old to lo hi old.length).2.getD k 0 = j := by
    have h1 : ((greedy old to lo hi old.length).2.take (k + 1))[k]? = some (j : Int) := by
      rw [t2, e, List.getElem?_append_right (by rw [hI.ol]; exact Nat.le_refl _), hI.ol, Nat.sub_self]; rfl
    rw [List.getElem?_take, if_pos (by omega)] at h1
    rw [List.getD_eq_getElem?_getD, h1]; rfl
  rw [hgk] at hlt
  rw [t1] at hp
  have hyk := hr (y.getD k 0) (by rw [List.getD_eq_getElem?_getD, List.getElem?_eq_getElem (by omega)]; exact List.getElem_mem _)
  obtain ⟨a, ha⟩ := Int.eq_ofNat_of_zero_le hyk.1
  rw [ha] at hlt hyk
  have hato : a < to := by omega
  -- no smaller target was good
  have hno : goodAt old lo hi (greedy old to lo hi k).1 k a = false := by
    unfold findAt at hf
    rw [List.find?_range_eq_some] at hf
    have := hf.2.2 a (by omega)
    simpa using this
  have hcnt : ∀ x : Nat, (count y x : Int) = count (greedy old to lo hi k).2 x + (if a = x then 1 else 0) + count (y.drop (k + 1)) x := fun x => by
    have h1 : y = y.take k ++ (y.getD k 0 :: y.drop (k + 1)) := by
      have := List.drop_eq_getElem_cons (l := y) (i := k) (by omega)
      have hg : y.getD k 0 = y[k] := by rw [List.getD_eq_getElem?_getD, List.getElem?_eq_getElem (by omega)]; rfl
      rw [hg, ← this, List.take_append_drop]
    have h2 : count y x = count (y.take k ++ (y.getD k 0 :: y.drop (k + 1))) x := by rw [← h1]
    rw [h2, hp, ha]
    simp only [count, List.count_append, List.count_cons, beq_iff_eq]
    by_cases q : a = x
    · subst q; simp; omega
    · rw [if_neg q, if_neg (fun q' => q (by omega))]; omega
  have hua : (greedy old to lo hi k).1.getD a 0 < hi := by
    have h1 := hcnt a
    have h2 := hc a hato
    have h3 := hI.cnt a hato
    rw [if_pos rfl] at h1
    omega
  have hfit : Fits lo hi (incAt (greedy old to lo hi k).1 a 1) (mI old (k + 1)) (fun x => count (y.drop (k + 1)) x) := by
    refine ⟨fun x hx => ?_, ?_⟩
    · rw [incAt_length, hul] at hx
      have h1 := hcnt x
      have h2 := hc x hx
      have h3 := hI.cnt x hx
      have hg := getD_incAt' (greedy old to lo hi k).1 a 1 x
      by_cases q : x = a
      · subst q
        rw [if_pos rfl] at h1
        rw [if_pos ⟨rfl, by omega⟩] at hg
        rw [hg]
        omega
      · rw [if_neg (fun q' => q q'.symm)] at h1
        rw [if_neg (fun q' => q q'.1)] at hg
        rw [hg]
        omega
    · rw [incAt_length, hul]
      have := sum_count_eq (y.drop (k + 1)) to (fun z hz => hr z (List.mem_of_mem_drop hz)) (y.drop (k + 1)).length (Nat.le_refl _)
      rw [List.take_length] at this
      rw [this]
      unfold mI
      rw [List.length_drop, List.length_drop, hl]
  have hge := rest_ge (i := k) hI.ui (by omega) hua hfit
  have hle := rest_le hI.ui hkn (by omega) hua
  have hmo := hI.mo
  have hmin := keepC_min (old.drop (k + 1)) (y.drop (k + 1)) to (by rw [List.length_drop, List.length_drop, hl]; exact Nat.le_refl _) (fun z hz => hr z (List.mem_of_mem_drop hz)) (y.drop (k + 1)).length (Nat.le_refl _)
  rw [List.take_length, List.take_of_length_le (by rw [List.length_drop, List.length_drop, hl]; exact Nat.le_refl _)] at hmin
  have hsplit := keepC_drop old y (k + 1) (old.length - (k + 1))
  rw [show k + 1 + (old.length - (k + 1)) = old.length by omega] at hsplit
  have hlen : (y.drop (k + 1)).length = old.length - (k + 1) := by rw [List.length_drop, hl]
  rw [hlen] at hmin
  have hkp : keepC old y k = keepC old (greedy old to lo hi k).2 k := keepC_take old y _ k (by rw [hp, List.take_of_length_le (by rw [hI.ol]; exact Nat.le_refl _)]) k (Nat.le_refl _)
  have hstep : keepC old y (k + 1) = keepC old y k + (if old.getD k 0 = (a : Int) then 1 else 0) := by simp only [keepC]; rw [ha]
  have hkept : keptN (incAt (greedy old to lo hi k).1 a 1) (cI old (k + 1)) (fun x => count (y.drop (k + 1)) x) = sumN (fun x => min (count (old.drop (k + 1)) x : Int) (count (y.drop (k + 1)) x : Int)) to := by
    unfold keptN cI
    rw [incAt_length, hul]
  have heq : restAt old lo hi (greedy old to lo hi k).1 k a = mostAt old lo hi (greedy old to lo hi k).1 k := by omega
  have : goodAt old lo hi (greedy old to lo hi k).1 k a = true := by
    unfold goodAt
    rw [decide_eq_true hua, decide_eq_true heq]
    rfl
  rw [this] at hno
  cases hno
end
end Go.Sx
