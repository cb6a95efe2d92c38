/- The flow of targets: a circulation that costs as many as cannot keep. Plain. Conditions: none. -/
import Derived.Test.YthilnjignhopkaaEdM9
set_option linter.unusedSimpArgs false
set_option linter.unusedVariables false
set_option maxRecDepth 10000
namespace Go.Sx
open Go Go.Proofs

theorem flowTo_get (old x : List Int) (T : Nat) : ∀ (j r : Nat), j < T → r < 3 → (flowTo old x T).getD (3 * j + r) 0 = (flowRow old x j).getD r 0 := by
  induction T with
  | zero => intro j r h; omega
  | succ T ih =>
    intro j r hj hr
    have hs : flowTo old x (T + 1) = flowTo old x T ++ flowRow old x T := by unfold flowTo; rw [List.range_succ, List.flatMap_append]; simp
    rw [hs]
    have hl := flowTo_len old x T
    by_cases e : j = T
    · subst e
      rw [List.getD_eq_getElem?_getD, List.getElem?_append_right (by omega), hl, show 3 * j + r - 3 * j = r by omega, ← List.getD_eq_getElem?_getD]
    · rw [List.getD_eq_getElem?_getD, List.getElem?_append_left (by omega), ← List.getD_eq_getElem?_getD]
      exact ih j r (by omega) hr

section
variable {old x : List Int} {T : Nat}
theorem flow_row {j r : Nat} (hj : j < T) (hr : r < 3) : (flowL old T x).getD (3 * j + r) 0 = (flowRow old x j).getD r 0 := by
  unfold flowL
  have hl := flowTo_len old x T
  rw [Int.toNat_natCast, List.getD_eq_getElem?_getD, List.getElem?_append_left (by omega), ← List.getD_eq_getElem?_getD]
  exact flowTo_get old x T j r hj hr
theorem flow0 {j : Nat} (hj : j < T) : (flowL old T x).getD (3 * j) 0 = keepN old x j x.length := flow_row hj (r := 0) (by omega)
theorem flow1 {j : Nat} (hj : j < T) : (flowL old T x).getD (3 * j + 1) 0 = (count x j : Int) - keepN old x j x.length := flow_row hj (r := 1) (by omega)
theorem flow2 {j : Nat} (hj : j < T) : (flowL old T x).getD (3 * j + 2) 0 = count x j := flow_row hj (r := 2) (by omega)
theorem flow3 : (flowL old T x).getD (3 * T) 0 = old.length := by
  unfold flowL
  have hl := flowTo_len old x T
  rw [Int.toNat_natCast, List.getD_eq_getElem?_getD, List.getElem?_append_right (by omega), hl, Nat.sub_self]
  rfl
theorem flow_len : (flowL old T x).length = 3 * T + 1 := by
  unfold flowL
  rw [Int.toNat_natCast, List.length_append, flowTo_len]; rfl
end

theorem count_take (l : List Int) (i : Nat) (h : i < l.length) (j : Int) : (count (l.take (i + 1)) j : Int) = (count (l.take i) j : Int) + (if l.getD i 0 = j then 1 else 0) := by
  rw [List.take_add_one, List.getElem?_eq_getElem h]
  simp only [count, List.count_append, Option.toList_some, List.count_singleton, beq_iff_eq, List.getD_eq_getElem?_getD, List.getElem?_eq_getElem h, Option.getD_some]
  split <;> simp

theorem keepN_count (old x : List Int) (hl : x.length ≤ old.length) (j : Int) : ∀ i, i ≤ x.length → (keepN old x j i : Int) ≤ count (old.take i) j ∧ (keepN old x j i : Int) ≤ count (x.take i) j
  | 0, _ => by simp [keepN]
  | i + 1, h => by
    obtain ⟨h1, h2⟩ := keepN_count old x hl j i (by omega)
    rw [keepN_succ, count_take old i (by omega), count_take x i (by omega)]
    by_cases e : x.getD i 0 = j ∧ old.getD i 0 = j
    · rw [if_pos e, if_pos e.1, if_pos e.2]; omega
    · rw [if_neg e]; split <;> split <;> omega

theorem sum_count_eq (x : List Int) (T : Nat) (hr : ∀ y ∈ x, 0 ≤ y ∧ y < T) : ∀ i, i ≤ x.length → sumN (fun j => (count (x.take i) j : Int)) T = i
  | 0, _ => by simp only [List.take_zero, count, List.count_nil]; rw [show (fun j : Nat => ((0 : Nat) : Int)) = fun _ => 0 from rfl, sumN_zero]; rfl
  | i + 1, h => by
    rw [sumN_congr (fun j _ => count_take x i (by omega) j), sumN_add, sum_count_eq x T hr i (by omega), sumN_ind]
    have := hr (x.getD i 0) (by rw [List.getD_eq_getElem?_getD, List.getElem?_eq_getElem (by omega)]; exact List.getElem_mem _)
    rw [if_pos this]; omega

theorem sum_keepN (old x : List Int) (T : Nat) (hr : ∀ y ∈ x, 0 ≤ y ∧ y < T) : ∀ i, i ≤ x.length → sumN (fun j => (keepN old x j i : Int)) T = keepC old x i
  | 0, _ => by simp only [keepC]; rw [← sumN_zero T]; exact sumN_congr fun j _ => by simp [keepN]
  | i + 1, h => by
    have hx := hr (x.getD i 0) (by rw [List.getD_eq_getElem?_getD, List.getElem?_eq_getElem (by omega)]; exact List.getElem_mem _)
    have e : ∀ j : Nat, (keepN old x j (i + 1) : Int) = (keepN old x j i : Int) + (if old.getD i 0 = x.getD i 0 then 1 else 0) * (if x.getD i 0 = (j : Int) then 1 else 0) := fun j => by
      rw [keepN_succ]
      by_cases e1 : x.getD i 0 = (j : Int)
      · rw [if_pos e1, e1]
        by_cases e2 : old.getD i 0 = (j : Int)
        · rw [if_pos e2, if_pos ⟨rfl, e2⟩]; omega
        · rw [if_neg e2, if_neg (fun q => e2 q.2)]; omega
      · rw [if_neg e1, if_neg (fun q => e1 q.1)]; omega
    rw [sumN_congr (fun j _ => e j), sumN_add, sumN_mul, sum_keepN old x T hr i (by omega), sumN_ind, if_pos hx]
    simp only [keepC]
    omega

section
variable {old x : List Int} {lo hi : Int} {T : Nat}

/-- The flow of targets is a circulation; its cost. -/
theorem target_flow (ht : TargetsOK old T lo (min hi (old.length : Int)) x) : FlowOK (netL old T lo hi) (flowL old T x) ∧ Balanced ((T : Int) + 2).toNat (netL old T lo hi) (flowL old T x) ∧
    sumW (flowL old T x) (costW (netL old T lo hi)) (netL old T lo hi).length = old.length - keepC old x old.length := by
  have hlen := ht.len
  have hk : ∀ j : Nat, j < T → (keepN old x j x.length : Int) ≤ count old j ∧ (keepN old x j x.length : Int) ≤ count x j := fun j hj => by
    have := keepN_count old x (by omega) j x.length (Nat.le_refl _)
    rw [List.take_of_length_le (by omega), List.take_length] at this
    exact this
  have hsum : sumN (fun j => (count x j : Int)) T = old.length := by
    have := sum_count_eq x T ht.rng x.length (Nat.le_refl _)
    rw [List.take_length] at this
    omega
  have hbal : ∀ w, w < T + 2 → sumW (flowL old T x) (bw (netL old T lo hi) w) (netL old T lo hi).length = 0 := fun w hw => by
    by_cases e1 : w < T
    · rw [net_node _ e1, flow0 e1, flow1 e1, flow2 e1]; omega
    · by_cases e2 : w = T
      · subst e2
        rw [net_source, flow3, sumN_congr (h' := fun j => (count x j : Int)) (fun j hj => by rw [flow0 hj, flow1 hj]; omega), hsum]
        omega
      · have : w = T + 1 := by omega
        subst this
        rw [net_sink, flow3, sumN_congr (h' := fun j => (count x j : Int)) (fun j hj => by rw [flow2 hj]), hsum]
        omega
  refine ⟨net_flow.2 ⟨flow_len, fun j hj => ?_, flow3⟩, fun k => ?_, ?_⟩
  · have h1 := hk j hj
    have h2 := ht.cnt j hj
    have h3 := count_le x j
    rw [flow0 hj, flow1 hj, flow2 hj]
    omega
  · by_cases e : k < ((T : Int) + 2).toNat
    · rw [bal_sum _ _ _ k e]
      exact hbal k (by omega)
    · exact getD_out (by rw [balTo_len]; omega)
  · rw [net_cost, sumN_congr (h' := fun j => (count x j : Int) - keepN old x j x.length) (fun j hj => flow1 hj), sumN_sub, hsum, sum_keepN old x T ht.rng x.length (Nat.le_refl _), hlen]
end

/-- The certificate of targets. -/
theorem target_cert {old : List Int} {to lo hi : Int} (he : refsErr old to lo hi = 0) {f d : List Int} (hf : FlowOK (netL old to lo hi) f) (hb : Balanced (to + 2).toNat (netL old to lo hi) f) (hL : Least (to + 2) (netL old to lo hi) f d) :
    CertOK (to + 2) (netL old to lo hi) (flowL old to (refsL old to lo hi)) d := by
  have ht := refs_targets he
  unfold refsErr at he
  split at he
  · omega
  split at he
  · omega
  split at he
  · omega
  rename_i e1 e2 e3
  obtain ⟨T, rfl⟩ := Int.eq_ofNat_of_zero_le (show 0 ≤ to by omega)
  rw [Int.toNat_natCast] at ht
  have hlo : T = 0 ∨ lo ≤ min hi (old.length : Int) := by
    by_cases h0 : T = 0
    · exact .inl h0
    · right
      have := Int.mul_le_mul_of_nonneg_right (show (1 : Int) ≤ (T : Int) by omega) (show 0 ≤ min lo 1000 by omega)
      omega
  have hN := net_ok' (old := old) (lo := lo) (hi := hi) (T := T) (by omega) (by omega) (by omega) hlo
  obtain ⟨t1, t2, t3⟩ := target_flow ht
  refine cert_of hN hf hb hL t1 t2 ?_
  rw [t3, ht.keep]
  by_cases h0 : T = 0
  · subst h0
    rw [net_cost]
    have : mostAt old lo (min hi (old.length : Int)) (List.replicate 0 0) 0 = old.length := by
      have : old.length = 0 := by
        rw [show ((0 : Nat) : Int) = 0 from rfl, Int.zero_mul, Int.zero_mul] at e3
        omega
      have : old = [] := List.length_eq_zero_iff.1 this
      subst this
      simp [mostAt, mostV, mostSt]
    rw [this]
    simp [sumN]
  · refine net_least ⟨by omega, by omega, fun j hj => ?_⟩ hf hb
    have hj : j < T := by simpa using hj
    have : (List.replicate T (0 : Int)).getD j 0 = 0 := by simp [List.getD_eq_getElem?_getD, hj]
    rw [this]
    omega

end Go.Sx
