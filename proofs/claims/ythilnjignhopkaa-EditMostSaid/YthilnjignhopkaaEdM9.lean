/- The network of targets: its flows and their costs. Plain. Conditions: none. -/
import Derived.Test.YthilnjignhopkaaEdM8
set_option linter.unusedSimpArgs false
set_option linter.unusedVariables false
set_option maxRecDepth 10000
namespace Go.Sx
open Go Go.Proofs

theorem netTo_get (old : List Int) (to lo hi : Int) (T : Nat) : ∀ (j r : Nat), j < T → r < 3 → (netTo old to lo hi T).getD (3 * j + r) EdT.dflt = (netRow old to lo hi j).getD r EdT.dflt := by
  induction T with
  | zero => intro j r h; omega
  | succ T ih =>
    intro j r hj hr
    rw [netTo_succ]
    have hl := netTo_len old to lo hi T
    by_cases e : j = T
    · subst e
      rw [List.getD_eq_getElem?_getD, List.getElem?_append_right (by omega), hl, show 3 * j + r - 3 * j = r by omega, ← List.getD_eq_getElem?_getD]
    · rw [List.getD_eq_getElem?_getD, List.getElem?_append_left (by omega), ← List.getD_eq_getElem?_getD]
      exact ih j r (by omega) hr

section
variable {old : List Int} {lo hi : Int} {T : Nat}
theorem net_row {j r : Nat} (hj : j < T) (hr : r < 3) : (netL old T lo hi).getD (3 * j + r) EdT.dflt = (netRow old T lo hi j).getD r EdT.dflt := by
  unfold netL
  have hl := netTo_len old T lo hi T
  rw [Int.toNat_natCast, List.getD_eq_getElem?_getD, List.getElem?_append_left (by omega), ← List.getD_eq_getElem?_getD]
  exact netTo_get old T lo hi T j r hj hr
theorem net0 {j : Nat} (hj : j < T) : (netL old T lo hi).getD (3 * j) EdT.dflt = ((T : Int), (j : Int), (0 : Int), (count old j : Int), (0 : Int)) := net_row hj (r := 0) (by omega)
theorem net1 {j : Nat} (hj : j < T) : (netL old T lo hi).getD (3 * j + 1) EdT.dflt = ((T : Int), (j : Int), (0 : Int), (old.length : Int), (1 : Int)) := net_row hj (r := 1) (by omega)
theorem net2 {j : Nat} (hj : j < T) : (netL old T lo hi).getD (3 * j + 2) EdT.dflt = ((j : Int), (T : Int) + 1, lo, min hi (old.length : Int), (0 : Int)) := net_row hj (r := 2) (by omega)
theorem net3 : (netL old T lo hi).getD (3 * T) EdT.dflt = ((T : Int) + 1, (T : Int), (old.length : Int), (old.length : Int), (0 : Int)) := by
  unfold netL
  have hl := netTo_len old T lo hi T
  rw [Int.toNat_natCast, List.getD_eq_getElem?_getD, List.getElem?_append_right (by omega), hl, Nat.sub_self]
  rfl
theorem net_len : (netL old T lo hi).length = 3 * T + 1 := by have := netL_len old T lo hi; rw [Int.toNat_natCast] at this; exact this
end

/-- Each edge's number: of one of the three kinds, or the last. -/
theorem three (i T : Nat) (h : i < 3 * T + 1) : (∃ j, j < T ∧ (i = 3 * j ∨ i = 3 * j + 1 ∨ i = 3 * j + 2)) ∨ i = 3 * T := by
  by_cases e : i = 3 * T
  · exact .inr e
  · exact .inl ⟨i / 3, by omega, by omega⟩

/-- The numbers of an edge as functions of whole numbers. -/
theorem EdOK_mk {n a b lo hi c : Int} (h : EdOK' n a b lo hi c) {e : EdT.den} (he : e = (a, b, lo, hi, c)) : EdOK n e := by subst he; exact h

theorem net_ok' {old : List Int} {lo hi : Int} {T : Nat} (hT : T ≤ 62) (hn : old.length ≤ 512) (h0 : 0 ≤ lo) (h1 : T = 0 ∨ lo ≤ min hi (old.length : Int)) : NetOK ((T : Int) + 2) (netL old T lo hi) := by
  refine ⟨by omega, by omega, by rw [net_len]; omega, fun i hi' => ?_⟩
  rw [net_len] at hi'
  rcases three i T hi' with ⟨j, hj, rfl | rfl | rfl⟩ | rfl
  · have := count_le old j
    exact EdOK_mk (by unfold EdOK'; omega) (net0 hj)
  · exact EdOK_mk (by unfold EdOK'; omega) (net1 hj)
  · exact EdOK_mk (by unfold EdOK'; omega) (net2 hj)
  · exact EdOK_mk (by unfold EdOK'; omega) net3

theorem sumW_three (f : List Int) (g : Nat → Int) (T : Nat) : sumW f g (3 * T) = sumN (fun j => f.getD (3 * j) 0 * g (3 * j) + f.getD (3 * j + 1) 0 * g (3 * j + 1) + f.getD (3 * j + 2) 0 * g (3 * j + 2)) T := by
  induction T with
  | zero => rfl
  | succ T ih =>
    rw [show 3 * (T + 1) = 3 * T + 1 + 1 + 1 by omega]
    simp only [sumW, sumN, ih]
    omega

theorem sumW_net (f : List Int) (g : Nat → Int) (T : Nat) : sumW f g (3 * T + 1) = sumN (fun j => f.getD (3 * j) 0 * g (3 * j) + f.getD (3 * j + 1) 0 * g (3 * j + 1) + f.getD (3 * j + 2) 0 * g (3 * j + 2)) T + f.getD (3 * T) 0 * g (3 * T) := by
  simp only [sumW, sumW_three]

section
variable {old : List Int} {lo hi : Int} {T : Nat}

theorem net_cost (f : List Int) : sumW f (costW (netL old T lo hi)) (netL old T lo hi).length = sumN (fun j => f.getD (3 * j + 1) 0) T := by
  rw [net_len, sumW_net]
  unfold costW
  rw [net3]
  simp only [Int.mul_zero, Int.add_zero]
  refine sumN_congr fun j hj => ?_
  rw [net0 hj, net1 hj, net2 hj]
  simp

/-- What the edges bring to a target's node. -/
theorem net_node (f : List Int) {w : Nat} (hw : w < T) : sumW f (bw (netL old T lo hi) w) (netL old T lo hi).length = f.getD (3 * w) 0 + f.getD (3 * w + 1) 0 - f.getD (3 * w + 2) 0 := by
  rw [net_len, sumW_net]
  have h3 : bw (netL old T lo hi) w (3 * T) = 0 := by
    unfold bw
    rw [net3]
    show (if (T : Int).toNat = w then (1 : Int) else 0) - (if ((T : Int) + 1).toNat = w then 1 else 0) = 0
    rw [if_neg (by omega), if_neg (by omega)]; rfl
  rw [h3, Int.mul_zero, Int.add_zero]
  have h : ∀ j, j < T → f.getD (3 * j) 0 * bw (netL old T lo hi) w (3 * j) + f.getD (3 * j + 1) 0 * bw (netL old T lo hi) w (3 * j + 1) + f.getD (3 * j + 2) 0 * bw (netL old T lo hi) w (3 * j + 2) = (fun x => f.getD (3 * x) 0 + f.getD (3 * x + 1) 0 - f.getD (3 * x + 2) 0) j * (if w = j then 1 else 0) := fun j hj => by
    unfold bw
    rw [net0 hj, net1 hj, net2 hj]
    show f.getD (3 * j) 0 * ((if (j : Int).toNat = w then (1 : Int) else 0) - (if (T : Int).toNat = w then 1 else 0)) + f.getD (3 * j + 1) 0 * ((if (j : Int).toNat = w then (1 : Int) else 0) - (if (T : Int).toNat = w then 1 else 0)) + f.getD (3 * j + 2) 0 * ((if ((T : Int) + 1).toNat = w then (1 : Int) else 0) - (if (j : Int).toNat = w then 1 else 0)) = _
    rw [if_neg (show ¬ (T : Int).toNat = w by omega), if_neg (show ¬ ((T : Int) + 1).toNat = w by omega), Int.toNat_natCast]
    by_cases e : w = j
    · subst e; simp; omega
    · rw [if_neg (fun q => e q.symm), if_neg e]; simp
  rw [sumN_congr h, sumN_at, if_pos hw]

/-- What they bring to T. -/
theorem net_sink (f : List Int) : sumW f (bw (netL old T lo hi) (T + 1)) (netL old T lo hi).length = sumN (fun j => f.getD (3 * j + 2) 0) T - f.getD (3 * T) 0 := by
  rw [net_len, sumW_net]
  have h3 : bw (netL old T lo hi) (T + 1) (3 * T) = -1 := by
    unfold bw
    rw [net3]
    show (if (T : Int).toNat = T + 1 then (1 : Int) else 0) - (if ((T : Int) + 1).toNat = T + 1 then 1 else 0) = -1
    rw [if_neg (by omega), if_pos (by omega)]; rfl
  rw [h3]
  have h : ∀ j, j < T → f.getD (3 * j) 0 * bw (netL old T lo hi) (T + 1) (3 * j) + f.getD (3 * j + 1) 0 * bw (netL old T lo hi) (T + 1) (3 * j + 1) + f.getD (3 * j + 2) 0 * bw (netL old T lo hi) (T + 1) (3 * j + 2) = f.getD (3 * j + 2) 0 := fun j hj => by
    unfold bw
    rw [net0 hj, net1 hj, net2 hj]
    show f.getD (3 * j) 0 * ((if (j : Int).toNat = T + 1 then (1 : Int) else 0) - (if (T : Int).toNat = T + 1 then 1 else 0)) + f.getD (3 * j + 1) 0 * ((if (j : Int).toNat = T + 1 then (1 : Int) else 0) - (if (T : Int).toNat = T + 1 then 1 else 0)) + f.getD (3 * j + 2) 0 * ((if ((T : Int) + 1).toNat = T + 1 then (1 : Int) else 0) - (if (j : Int).toNat = T + 1 then 1 else 0)) = _
    rw [if_neg (show ¬ (T : Int).toNat = T + 1 by omega), if_pos (show ((T : Int) + 1).toNat = T + 1 by omega), if_neg (show ¬ (j : Int).toNat = T + 1 by omega)]
    simp
  rw [sumN_congr h]
  omega

/-- What they bring to S. -/
theorem net_source (f : List Int) : sumW f (bw (netL old T lo hi) T) (netL old T lo hi).length = f.getD (3 * T) 0 - sumN (fun j => f.getD (3 * j) 0 + f.getD (3 * j + 1) 0) T := by
  rw [net_len, sumW_net]
  have h3 : bw (netL old T lo hi) T (3 * T) = 1 := by
    unfold bw
    rw [net3]
    show (if (T : Int).toNat = T then (1 : Int) else 0) - (if ((T : Int) + 1).toNat = T then 1 else 0) = 1
    rw [if_pos (by omega), if_neg (by omega)]; rfl
  rw [h3]
  have h : ∀ j, j < T → f.getD (3 * j) 0 * bw (netL old T lo hi) T (3 * j) + f.getD (3 * j + 1) 0 * bw (netL old T lo hi) T (3 * j + 1) + f.getD (3 * j + 2) 0 * bw (netL old T lo hi) T (3 * j + 2) = (fun _ => (0 : Int)) j - (f.getD (3 * j) 0 + f.getD (3 * j + 1) 0) := fun j hj => by
    unfold bw
    rw [net0 hj, net1 hj, net2 hj]
    show f.getD (3 * j) 0 * ((if (j : Int).toNat = T then (1 : Int) else 0) - (if (T : Int).toNat = T then 1 else 0)) + f.getD (3 * j + 1) 0 * ((if (j : Int).toNat = T then (1 : Int) else 0) - (if (T : Int).toNat = T then 1 else 0)) + f.getD (3 * j + 2) 0 * ((if ((T : Int) + 1).toNat = T then (1 : Int) else 0) - (if (j : Int).toNat = T then 1 else 0)) = _
    rw [if_pos (show (T : Int).toNat = T by omega), if_neg (show ¬ ((T : Int) + 1).toNat = T by omega), if_neg (show ¬ (j : Int).toNat = T by omega)]
    simp; omega
  rw [sumN_congr h, sumN_sub, sumN_zero]
  omega

/-- A flow's bounds in this network. -/
theorem net_flow {f : List Int} : FlowOK (netL old T lo hi) f ↔ f.length = 3 * T + 1 ∧ (∀ j, j < T → (0 ≤ f.getD (3 * j) 0 ∧ f.getD (3 * j) 0 ≤ count old j) ∧ (0 ≤ f.getD (3 * j + 1) 0 ∧ f.getD (3 * j + 1) 0 ≤ old.length) ∧ (lo ≤ f.getD (3 * j + 2) 0 ∧ f.getD (3 * j + 2) 0 ≤ min hi (old.length : Int))) ∧ f.getD (3 * T) 0 = old.length := by
  unfold FlowOK
  rw [net_len]
  constructor
  · rintro ⟨h1, h2⟩
    refine ⟨h1, fun j hj => ?_, ?_⟩
    · have a := h2 (3 * j) (by omega)
      have b := h2 (3 * j + 1) (by omega)
      have c := h2 (3 * j + 2) (by omega)
      rw [net0 hj] at a
      rw [net1 hj] at b
      rw [net2 hj] at c
      exact ⟨a, b, c⟩
    · have a := h2 (3 * T) (by omega)
      rw [net3] at a
      have a : (old.length : Int) ≤ f.getD (3 * T) 0 ∧ f.getD (3 * T) 0 ≤ old.length := a
      omega
  · rintro ⟨h1, h2, h3⟩
    refine ⟨h1, fun i hi' => ?_⟩
    rcases three i T hi' with ⟨j, hj, rfl | rfl | rfl⟩ | rfl
    · rw [net0 hj]; exact (h2 j hj).1
    · rw [net1 hj]; exact (h2 j hj).2.1
    · rw [net2 hj]; exact (h2 j hj).2.2
    · rw [net3]
      show (old.length : Int) ≤ f.getD (3 * T) 0 ∧ f.getD (3 * T) 0 ≤ old.length
      omega

/-- No circulation costs less than the records that cannot keep. -/
theorem net_least (hu : UIn lo (min hi (old.length : Int)) (List.replicate T 0)) {f : List Int} (hf : FlowOK (netL old T lo hi) f) (hb : Balanced ((T : Int) + 2).toNat (netL old T lo hi) f) : (old.length : Int) - mostAt old lo (min hi (old.length : Int)) (List.replicate T 0) 0 ≤ sumW f (costW (netL old T lo hi)) (netL old T lo hi).length := by
  obtain ⟨f1, f2, f3⟩ := net_flow.1 hf
  have hnode : ∀ j, j < T → f.getD (3 * j) 0 + f.getD (3 * j + 1) 0 = f.getD (3 * j + 2) 0 := fun j hj => by
    have := hb.sum j (by omega)
    rw [net_node f hj] at this
    omega
  have hsink : sumN (fun j => f.getD (3 * j + 2) 0) T = old.length := by
    have := hb.sum (T + 1) (by omega)
    rw [net_sink f] at this
    omega
  have hz : ∀ j, j < T → (List.replicate T (0 : Int)).getD j 0 = 0 := fun j hj => by simp [List.getD_eq_getElem?_getD, hj]
  have hfit : Fits lo (min hi (old.length : Int)) (List.replicate T 0) (mI old 0) (fun j => f.getD (3 * j + 2) 0) := by
    refine ⟨fun j hj => ?_, ?_⟩
    · have hj : j < T := by simpa using hj
      have := f2 j hj
      rw [hz j hj]
      have := hnode j hj
      omega
    · rw [List.length_replicate, hsink]; simp [mI]
  have h1 := (most_upper (hu.m old 0) hfit).2
  rw [net_cost, mostAt_eq]
  have h2 : sumN (fun j => f.getD (3 * j + 1) 0) T = sumN (fun j => f.getD (3 * j + 2) 0) T - sumN (fun j => f.getD (3 * j) 0) T := by
    rw [← sumN_sub]
    exact sumN_congr fun j hj => by have := hnode j hj; omega
  have h3 : sumN (fun j => f.getD (3 * j) 0) T ≤ keptN (List.replicate T 0) (cI old 0) (fun j => f.getD (3 * j + 2) 0) := by
    unfold keptN
    rw [List.length_replicate]
    refine sumN_le fun j hj => ?_
    have := f2 j hj
    have := hnode j hj
    have : cI old 0 j = count old j := by unfold cI; simp
    show f.getD (3 * j) 0 ≤ min (cI old 0 j) (f.getD (3 * j + 2) 0)
    rw [this]
    omega
  omega

end
end Go.Sx
