/- Levels of a circulation with the least cost fit every circulation that costs no more. Plain. Conditions: none. -/
import Derived.Test.YthilnjignhopkaaEdG10
import Derived.Test.YthilnjignhopkaaEdM7
set_option linter.unusedSimpArgs false
set_option linter.unusedVariables false
set_option maxRecDepth 10000
namespace Go.Sx
open Go Go.Proofs

theorem sumN_at (h : Nat → Int) (v n : Nat) : sumN (fun w => h w * (if v = w then 1 else 0)) n = if v < n then h v else 0 := by
  induction n with
  | zero => simp [sumN]
  | succ n ih =>
    simp only [sumN, ih]
    by_cases e : v = n
    · subst e; rw [if_neg (by omega), if_pos rfl, if_pos (by omega)]; omega
    · rw [if_neg e]
      by_cases hv : v < n
      · rw [if_pos hv, if_pos (by omega)]; omega
      · rw [if_neg hv, if_neg (by omega)]; omega

theorem sum_lev (l : List EdT.den) (n : Nat) (h : Nat → Int) (f : List Int) (m : Nat) : sumN (fun w => h w * sumW f (bw l w) m) n =
    sumW f (fun i => (if (l.getD i EdT.dflt).2.1.toNat < n then h (l.getD i EdT.dflt).2.1.toNat else 0) - (if (l.getD i EdT.dflt).1.toNat < n then h (l.getD i EdT.dflt).1.toNat else 0)) m := by
  induction m with
  | zero =>
    simp only [sumW, Int.mul_zero]
    exact sumN_zero n
  | succ m ih =>
    simp only [sumW]
    rw [← ih]
    have e1 : ∀ w, h w * (sumW f (bw l w) m + f.getD m 0 * bw l w m) = h w * sumW f (bw l w) m + f.getD m 0 * (h w * (if (l.getD m EdT.dflt).2.1.toNat = w then 1 else 0) - h w * (if (l.getD m EdT.dflt).1.toNat = w then 1 else 0)) := fun w => by
      unfold bw
      rw [Int.mul_add, ← Int.mul_sub]
      congr 1
      rw [Int.mul_left_comm]
    rw [sumN_congr (fun w _ => e1 w), sumN_add, sumN_mul, sumN_sub, sumN_at, sumN_at]

theorem sumW_eq_of {f f' : List Int} {g : Nat → Int} {m : Nat} (h : ∀ i, i < m → f.getD i 0 * g i ≤ f'.getD i 0 * g i) (hs : sumW f' g m ≤ sumW f g m) : ∀ i, i < m → f.getD i 0 * g i = f'.getD i 0 * g i := by
  induction m with
  | zero => intro i hi; omega
  | succ m ih =>
    intro i hi
    simp only [sumW] at hs
    have h1 := h m (by omega)
    have h2 := sumW_le (fun i hi => h i (by omega) : ∀ i, i < m → f.getD i 0 * g i ≤ f'.getD i 0 * g i)
    by_cases e : i = m
    · subst e; omega
    · exact ih (fun i hi => h i (by omega)) (by omega) i (by omega)

def redC (l : List EdT.den) (d : List Int) (i : Nat) : Int := costW l i + (d.getD (l.getD i EdT.dflt).1.toNat 0 - d.getD (l.getD i EdT.dflt).2.1.toNat 0)

/-- A circulation's cost by levels. -/
theorem sum_red {n : Int} {l : List EdT.den} (hN : NetOK n l) (d : List Int) {f : List Int} (hb : Balanced n.toNat l f) : sumW f (redC l d) l.length = sumW f (costW l) l.length := by
  have h1 := sum_lev l n.toNat (fun w => d.getD w 0) f l.length
  have h2 : sumN (fun w => d.getD w 0 * sumW f (bw l w) l.length) n.toNat = 0 := by
    refine (sumN_congr (h' := fun _ => 0) fun w hw => ?_).trans (sumN_zero _)
    rw [hb.sum w hw, Int.mul_zero]
  rw [h2] at h1
  have h3 : sumW f (redC l d) l.length = sumW f (costW l) l.length + sumW f (fun i => d.getD (l.getD i EdT.dflt).1.toNat 0 - d.getD (l.getD i EdT.dflt).2.1.toNat 0) l.length := sumW_add f _ _ _
  have h4 : sumW f (fun i => d.getD (l.getD i EdT.dflt).1.toNat 0 - d.getD (l.getD i EdT.dflt).2.1.toNat 0) l.length + sumW f (fun i => (if (l.getD i EdT.dflt).2.1.toNat < n.toNat then d.getD (l.getD i EdT.dflt).2.1.toNat 0 else 0) - (if (l.getD i EdT.dflt).1.toNat < n.toNat then d.getD (l.getD i EdT.dflt).1.toNat 0 else 0)) l.length = 0 := by
    rw [← sumW_add, ← sumW_zero f l.length]
    refine sumW_congr fun i hi => ?_
    have he := hN.2.2.2 i hi
    unfold EdOK EdOK' at he
    rw [if_pos (by omega), if_pos (by omega)]
    omega
  omega

theorem cert_of {n : Int} {l : List EdT.den} (hN : NetOK n l) {f d tf : List Int} (hf : FlowOK l f) (hb : Balanced n.toNat l f) (hL : Least n l f d) (ht : FlowOK l tf) (htb : Balanced n.toNat l tf) (hc : sumW tf (costW l) l.length ≤ sumW f (costW l) l.length) : CertOK n l tf d := by
  have hfw : ∀ i, i < l.length → f.getD i 0 < (l.getD i EdT.dflt).2.2.2.1 → 0 ≤ redC l d i := fun i hi hlt => by
    have hm : fwA l i ∈ arcL l := by
      unfold arcL arcTo
      rw [List.mem_flatMap]; exact ⟨i, by simpa using hi, by simp [arcRow, fwA]⟩
    have h1 := hL.2.2 _ hm (by rw [room_fw]; omega)
    have h1 : d.getD (l.getD i EdT.dflt).2.1.toNat 0 ≤ d.getD (l.getD i EdT.dflt).1.toNat 0 + (l.getD i EdT.dflt).2.2.2.2 := h1
    unfold redC costW
    omega
  have hbw : ∀ i, i < l.length → f.getD i 0 > (l.getD i EdT.dflt).2.2.1 → redC l d i ≤ 0 := fun i hi hlt => by
    have hm : bwA l i ∈ arcL l := by
      unfold arcL arcTo
      rw [List.mem_flatMap]; exact ⟨i, by simpa using hi, by simp [arcRow, bwA]⟩
    have h1 := hL.2.2 _ hm (by rw [room_bw]; omega)
    have h1 : d.getD (l.getD i EdT.dflt).1.toNat 0 ≤ d.getD (l.getD i EdT.dflt).2.1.toNat 0 + -(l.getD i EdT.dflt).2.2.2.2 := h1
    unfold redC costW
    omega
  have hle : ∀ i, i < l.length → f.getD i 0 * redC l d i ≤ tf.getD i 0 * redC l d i := fun i hi => by
    have h1 := hf.2 i hi
    have h2 := ht.2 i hi
    have h3 := hfw i hi
    have h4 := hbw i hi
    unfold rangeP at h1 h2
    rcases Int.lt_trichotomy (redC l d i) 0 with h | h | h
    · have hfe : f.getD i 0 = (l.getD i EdT.dflt).2.2.2.1 := by
        by_cases q : f.getD i 0 < (l.getD i EdT.dflt).2.2.2.1
        · have := h3 q; omega
        · omega
      exact Int.mul_le_mul_of_nonpos_right (by omega) (by omega)
    · rw [h]; simp
    · have hfe : f.getD i 0 = (l.getD i EdT.dflt).2.2.1 := by
        by_cases q : f.getD i 0 > (l.getD i EdT.dflt).2.2.1
        · have := h4 q; omega
        · omega
      exact Int.mul_le_mul_of_nonneg_right (by omega) (by omega)
  have heq := sumW_eq_of hle (by rw [sum_red hN d htb, sum_red hN d hb]; exact hc)
  refine ⟨ht.1, hL.1, fun i => by have := hL.2.1 i; omega, ht.2, fun i hi => ?_, htb⟩
  have h1 := hf.2 i hi
  have h2 := ht.2 i hi
  have h3 := hfw i hi
  have h4 := hbw i hi
  have h5 := heq i hi
  unfold rangeP at h1 h2
  have hr : redC l d i = (l.getD i EdT.dflt).2.2.2.2 + d.getD (l.getD i EdT.dflt).1.toNat 0 - d.getD (l.getD i EdT.dflt).2.1.toNat 0 := by
    unfold redC costW; omega
  unfold slackP
  rw [← hr]
  have hcan : redC l d i ≠ 0 → f.getD i 0 = tf.getD i 0 := fun h => Int.eq_of_mul_eq_mul_right h h5
  constructor
  · rintro ⟨a, b⟩
    have := hcan (by omega)
    have := h3 (by omega)
    omega
  · rintro ⟨a, b⟩
    have := hcan (by omega)
    have := h4 (by omega)
    omega

end Go.Sx
