/- Most's formula is the greatest number of records that keep; what each step of the greedy way leaves. Plain. Conditions: none. -/
import Derived.Test.YthilnjignhopkaaEdM2
import Derived.Test.YthilnjignhopkaaEdG2
set_option linter.unusedSimpArgs false
set_option linter.unusedVariables false
set_option maxRecDepth 10000
namespace Go.Sx
open Go Go.Proofs

/-- Numbers between bounds with a given sum. -/
theorem between {a b : Nat → Int} : ∀ (n : Nat) (m : Int), (∀ j, j < n → a j ≤ b j) → sumN a n ≤ m → m ≤ sumN b n → ∃ t : Nat → Int, (∀ j, j < n → a j ≤ t j ∧ t j ≤ b j) ∧ sumN t n = m
  | 0, m, _, h1, h2 => ⟨a, fun j hj => by omega, by simp only [sumN] at *; omega⟩
  | n + 1, m, h, h1, h2 => by
    simp only [sumN] at h1 h2
    have hn := h n (by omega)
    -- the last one as small as it can be
    have hx : ∃ x, a n ≤ x ∧ x ≤ b n ∧ sumN a n ≤ m - x ∧ m - x ≤ sumN b n := ⟨max (a n) (m - sumN b n), by omega, by omega, by
      have := sumN_le (fun j hj => h j (by omega) : ∀ j, j < n → a j ≤ b j)
      omega, by omega⟩
    obtain ⟨x, x1, x2, x3, x4⟩ := hx
    obtain ⟨t, t1, t2⟩ := between n (m - x) (fun j hj => h j (by omega)) x3 x4
    refine ⟨fun j => if j = n then x else t j, fun j hj => ?_, ?_⟩
    · by_cases e : j = n
      · subst e; simp only [if_true]; exact ⟨x1, x2⟩
      · simp only [if_neg e]; exact t1 j (by omega)
    · simp only [sumN, if_true]
      rw [sumN_congr (h' := t) (fun j hj => by rw [if_neg (by omega)]), t2]; omega

/-- What is asked of the numbers of Most. -/
structure MIn (lo hi : Int) (used : List Int) (c : Nat → Int) (m : Int) : Prop where
  lo0 : 0 ≤ lo
  lohi : lo ≤ hi
  us : ∀ j, j < used.length → 0 ≤ used.getD j 0 ∧ used.getD j 0 ≤ hi
  c0 : ∀ j, 0 ≤ c j
  cm : sumN c used.length ≤ m

/-- How many of the rest get which target. -/
structure Fits (lo hi : Int) (used : List Int) (m : Int) (t : Nat → Int) : Prop where
  ok : ∀ j, j < used.length → 0 ≤ t j ∧ lo ≤ used.getD j 0 + t j ∧ used.getD j 0 + t j ≤ hi
  sum : sumN t used.length = m

def keptN (used : List Int) (c t : Nat → Int) : Int := sumN (fun j => min (c j) (t j)) used.length

theorem mostSt_sums (lo hi : Int) (used : List Int) (c : Nat → Int) (j : Nat) : mostSt lo hi used c j = ⟨sumN (fun j => dOf lo hi (used.getD j 0) (c j)) j, sumN (fun j => min (c j) (dOf lo hi (used.getD j 0) (c j))) j,
    sumN (fun j => hi - used.getD j 0 - dOf lo hi (used.getD j 0) (c j)) j, sumN (fun j => dOf lo hi (used.getD j 0) (c j) - leastOf lo (used.getD j 0)) j⟩ := by
  induction j with
  | zero => rfl
  | succ j ih =>
    simp only [mostSt, ih, sumN]
    congr 1 <;> omega

theorem most_upper {lo hi : Int} {used : List Int} {c : Nat → Int} {m : Int} (h : MIn lo hi used c m) {t : Nat → Int} (ht : Fits lo hi used m t) : 0 ≤ mostV lo hi used c m ∧ keptN used c t ≤ mostV lo hi used c m := by
  have hd : ∀ j, j < used.length → leastOf lo (used.getD j 0) ≤ t j ∧ t j ≤ hi - used.getD j 0 := fun j hj => by
    have := ht.ok j hj
    unfold leastOf
    omega
  have s1 := ht.sum
  have k0 : 0 ≤ keptN used c t := by
    have := sumN_le (h := fun _ => 0) (h' := fun j => min (c j) (t j)) (n := used.length) fun j hj => by
      have := h.c0 j
      have := ht.ok j hj
      show (0 : Int) ≤ min (c j) (t j)
      omega
    rw [sumN_zero] at this
    exact this
  have a1 : sumN (fun j => dOf lo hi (used.getD j 0) (c j)) used.length - m ≤ sumN (fun j => dOf lo hi (used.getD j 0) (c j) - leastOf lo (used.getD j 0)) used.length := by
    rw [← s1, ← sumN_sub]
    exact sumN_le fun j hj => by have := hd j hj; omega
  have a2 : m - sumN (fun j => dOf lo hi (used.getD j 0) (c j)) used.length ≤ sumN (fun j => hi - used.getD j 0 - dOf lo hi (used.getD j 0) (c j)) used.length := by
    rw [← s1, ← sumN_sub]
    exact sumN_le fun j hj => by have := hd j hj; omega
  have a3 : keptN used c t ≤ sumN (fun j => min (c j) (dOf lo hi (used.getD j 0) (c j))) used.length := by
    refine sumN_le fun j hj => ?_
    have := hd j hj
    unfold dOf
    omega
  have a4 : keptN used c t ≤ sumN (fun j => min (c j) (dOf lo hi (used.getD j 0) (c j))) used.length - (sumN (fun j => dOf lo hi (used.getD j 0) (c j)) used.length - m) := by
    rw [← s1, ← sumN_sub, ← sumN_sub]
    refine sumN_le fun j hj => ?_
    have := hd j hj
    unfold dOf
    omega
  unfold mostV
  rw [mostSt_sums]
  simp only
  rw [if_neg (by omega)]
  omega

theorem most_attained {lo hi : Int} {used : List Int} {c : Nat → Int} {m : Int} (h : MIn lo hi used c m) (hv : 0 ≤ mostV lo hi used c m) : ∃ t, Fits lo hi used m t ∧ keptN used c t = mostV lo hi used c m := by
  unfold mostV at hv ⊢
  rw [mostSt_sums] at hv ⊢
  simp only at hv ⊢
  split at hv
  · omega
  · rename_i hn
    rw [if_neg hn]
    have hl : ∀ j, j < used.length → 0 ≤ leastOf lo (used.getD j 0) ∧ lo - used.getD j 0 ≤ leastOf lo (used.getD j 0) ∧ leastOf lo (used.getD j 0) ≤ dOf lo hi (used.getD j 0) (c j) ∧ dOf lo hi (used.getD j 0) (c j) ≤ hi - used.getD j 0 := fun j hj => by
      have h1 := h.us j hj
      have h2 := h.lohi
      unfold dOf leastOf
      omega
    have e1 := sumN_sub (fun j => dOf lo hi (used.getD j 0) (c j)) (fun j => leastOf lo (used.getD j 0)) used.length
    have e2 := sumN_sub (fun j => hi - used.getD j 0) (fun j => dOf lo hi (used.getD j 0) (c j)) used.length
    by_cases hs : m ≤ sumN (fun j => dOf lo hi (used.getD j 0) (c j)) used.length
    · obtain ⟨t, t1, t2⟩ := between (a := fun j => leastOf lo (used.getD j 0)) (b := fun j => dOf lo hi (used.getD j 0) (c j)) used.length m (fun j hj => (hl j hj).2.2.1) (by omega) hs
      refine ⟨t, ⟨fun j hj => ?_, t2⟩, ?_⟩
      · have := hl j hj; have := t1 j hj; omega
      · have : keptN used c t = sumN (fun j => min (c j) (dOf lo hi (used.getD j 0) (c j))) used.length - (sumN (fun j => dOf lo hi (used.getD j 0) (c j)) used.length - m) := by
          rw [← t2, ← sumN_sub, ← sumN_sub]
          refine sumN_congr fun j hj => ?_
          have := t1 j hj
          try simp only at this
          unfold dOf at *
          omega
        omega
    · obtain ⟨t, t1, t2⟩ := between (a := fun j => dOf lo hi (used.getD j 0) (c j)) (b := fun j => hi - used.getD j 0) used.length m (fun j hj => (hl j hj).2.2.2) (by omega) (by omega)
      refine ⟨t, ⟨fun j hj => ?_, t2⟩, ?_⟩
      · have := hl j hj; have := t1 j hj; omega
      · have : keptN used c t = sumN (fun j => min (c j) (dOf lo hi (used.getD j 0) (c j))) used.length := by
          refine sumN_congr fun j hj => ?_
          have := t1 j hj
          have := hl j hj
          try simp only at *
          unfold dOf leastOf at *
          omega
        omega

theorem most_cases (lo hi : Int) (used : List Int) (c : Nat → Int) (m : Int) (h : MIn lo hi used c m) : mostV lo hi used c m = -1 ∨ 0 ≤ mostV lo hi used c m := by
  by_cases hv : mostV lo hi used c m = -1
  · exact .inl hv
  · right
    -- what is not -1 is attained
    unfold mostV at hv ⊢
    rw [mostSt_sums] at hv ⊢
    simp only at hv ⊢
    split at hv
    · exact absurd rfl hv
    · rename_i hn
      rw [if_neg hn]
      have e1 := sumN_sub (fun j => min (c j) (dOf lo hi (used.getD j 0) (c j))) (fun j => dOf lo hi (used.getD j 0) (c j)) used.length
      have e2 : sumN (fun j => min (c j) (dOf lo hi (used.getD j 0) (c j)) - dOf lo hi (used.getD j 0) (c j)) used.length ≥ sumN (fun j => -leastOf lo (used.getD j 0)) used.length := by
        refine sumN_le fun j hj => ?_
        have := h.c0 j
        have := h.us j hj
        unfold dOf leastOf
        omega
      have e3 : 0 ≤ sumN (fun j => min (c j) (dOf lo hi (used.getD j 0) (c j))) used.length := by
        have := sumN_le (h := fun _ => 0) (h' := fun j => min (c j) (dOf lo hi (used.getD j 0) (c j))) (n := used.length) fun j hj => by
          have := h.c0 j
          show (0 : Int) ≤ min (c j) _
          unfold dOf leastOf
          omega
        rw [sumN_zero] at this
        exact this
      have e4 := sumN_sub (fun j => dOf lo hi (used.getD j 0) (c j)) (fun j => leastOf lo (used.getD j 0)) used.length
      have e5 : sumN (fun j => -leastOf lo (used.getD j 0)) used.length = - sumN (fun j => leastOf lo (used.getD j 0)) used.length := by
        have := sumN_sub (fun _ => 0) (fun j => leastOf lo (used.getD j 0)) used.length
        rw [sumN_zero] at this
        rw [← Int.zero_sub, ← this]
        exact sumN_congr fun j _ => (Int.zero_sub _).symm
      have e6 : 0 ≤ m := by
        have := sumN_le (h := fun _ => 0) (h' := c) (n := used.length) fun j _ => h.c0 j
        rw [sumN_zero] at this
        have := h.cm
        omega
      omega

end Go.Sx
