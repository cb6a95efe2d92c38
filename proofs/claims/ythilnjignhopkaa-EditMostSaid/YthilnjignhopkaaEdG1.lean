/- What slices.Clone and the methods of edit's spread do. Conditions: none. -/
import Derived.Test.YthilnjignhopkaaEdF7
set_option linter.unusedSimpArgs false
set_option linter.unusedVariables false
set_option maxRecDepth 10000
set_option maxHeartbeats 4000000
namespace Go.Sx
open Go Go.Proofs

theorem clone0_ok (l : List Int) (hl : l.length ≤ 100000) : FnOK Try.prog 19 [cisl I64 l] [] [] (fun r hs' => r = .one (.cell (.vec 105)) ∧ hs' = [(105, .arr I64 l)] ∨ r = .one (.cell .nilsl) ∧ hs' = [] ∧ l = []) := by
  refine FnOK.intro gamN_ok fn19 rfl rfl ?_
  intro _ _
  apply Tri.of_vc gamN_ok []
  conv => whnf
  refine Fork2.mk (fun h => ?_) (fun h => ?_)
  · conv => whnf
    exact postQ_ret [] (by exact rfl) (by exact rfl) trivial (by exact rfl) (by exact rfl) (.inr ⟨rfl, rfl, h⟩)
  · conv => whnf
    refine Ob.mk (by show (0 + l.length) * 8 ≤ 140737488355328; omega) ?_
    conv => whnf
    exact postQ_ret [(105, .arr I64 l)] (by exact rfl) (by exact rfl) ⟨rfl, trivial⟩ (by exact rfl) (by exact rfl) (.inl ⟨rfl, rfl⟩)

theorem clone_ok (l : List Int) (hl : l.length ≤ 100000) : Quiet Try.prog 19 [cisl I64 l] [] (visl I64 l) := by
  refine FnOK.freezeOr 105 I64 (clone0_ok l hl) ?_
  rintro r hs' (⟨rfl, rfl⟩ | ⟨rfl, rfl, rfl⟩)
  · exact .inl ⟨_, rfl, rfl, rfl, rfl, rfl⟩
  · exact .inr ⟨visl I64 [], fun w I ρ v h => nil_isl (ρ := ρ) I64 h, rfl, rfl, rfl⟩

/-- How many of a list's elements are each of the numbers below 'to'. -/
def hist (to : Nat) (l : List Int) : List Int := (List.range to).map fun j : Nat => (count l j : Int)

theorem hist_len (to : Nat) (l : List Int) : (hist to l).length = to := by simp [hist]

theorem hist_get (to : Nat) (l : List Int) (j : Nat) (h : j < to) : (hist to l).getD j 0 = count l j := by
  simp [hist, List.getD_eq_getElem?_getD, h]

theorem hist_snoc (to : Nat) (l : List Int) (x : Int) : hist to (l ++ [x]) = if 0 ≤ x ∧ x < to then incAt (hist to l) x.toNat 1 else hist to l := by
  apply List.ext_getElem?
  intro j
  by_cases hj : j < to
  · have h1 : ∀ l, (hist to l)[j]? = some (count l j : Int) := fun l => by simp [hist, hj]
    rw [h1]
    split
    · rename_i h
      unfold incAt
      rw [List.getElem?_set]
      have h2 := hist_len to l
      by_cases e : x.toNat = j
      · subst e
        rw [if_pos rfl, if_pos (by omega), hist_get to l _ (by omega)]
        have : (x.toNat : Int) = x := by omega
        simp [count, List.count_append, this]
      · rw [if_neg e, h1]
        have : x ≠ (j : Int) := by omega
        simp [count, List.count_append, List.count_cons, this]
    · rename_i h
      rw [h1]
      have : x ≠ (j : Int) := by omega
      simp [count, List.count_append, List.count_cons, this]
  · have h1 : ∀ l, (hist to l)[j]? = none := fun l => by simp [hist, hj]
    rw [h1]
    split
    · unfold incAt
      rw [List.getElem?_set]
      split
      · have := hist_len to l; rename_i h2; rw [if_neg (by omega)]
      · exact (h1 l).symm
    · exact (h1 l).symm

/-- The cells of a spread. -/
def spreadC (old : List Int) (lo hi : Int) : Chunk := .cells [.isl I64 old, .vec 1, .int .i64 lo, .int .i64 hi]

theorem most_ok (old used : List Int) (lo hi : Int) (i : Nat) (hi1 : i ≤ old.length) (hm : used = [] ∨ MostIn lo hi used old.length) (hold : old.length ≤ 1000) :
    Quiet Try.prog 20 [.cell (.ref 0 0), cint i] [(0, spreadC old lo hi), (1, .arr I64 used)] (vint (mostAt old lo hi used i)) := by
  have hlen : used.length ≤ 1000 := by rcases hm with rfl | h; exact Nat.zero_le _; exact h.len
  refine FnOK.intro gamN_ok fn20 rfl rfl ?_
  intro _ _
  apply Tri.of_vc gamN_ok []
  conv => whnf
  refine Ob.mk ⟨⟨by omega, by show (used.length : Int) * 8 ≤ 140737488355328; omega⟩, rfl⟩ ?_
  conv => whnf
  repeat' (first
    | (refine Ob.mk ?_ ?_ <;> conv => whnf)
    | (refine Fork2.mk (fun h => ?_) (fun h => ?_) <;> (conv => whnf))
    | (refine Fork.mk (fun h => ?_) (fun h => ?_) <;> (try simp only [pickB, Bool.and_eq_true, Bool.or_eq_true, Bool.and_eq_false_iff, Bool.or_eq_false_iff, Bool.not_eq_true', Bool.not_eq_false', Bool.not_eq_eq_eq_not, Bool.not_true, Bool.not_false, decide_eq_true_eq, decide_eq_false_iff_not, beq_iff_eq, bne_iff_ne, beq_eq_false_iff_ne, bne_eq_false_iff_eq, Int.not_lt, Int.not_le, ge_iff_le, gt_iff_lt, ne_eq, not_and, not_or, not_true_eq_false, not_false_eq_true, reduceCtorEq, or_false, false_or, and_true, true_and, and_false, false_and, or_true, true_or] at h) <;> (try simp only [Int.toNat_natCast, dflt64] at h) <;> (try (exfalso; omega)) <;> (conv => whnf))
    | (refine Tri.draw (id := 13) gamN_ok mixed [0, 1, 3, 7, 0, 16, 48, 112, 0, 496, 1008, 2047, 4095, 0, 8192, 24576, 57344, 0, 131072, 393216, 917504, 0, 4063232, 8257536, 16769024, 8191, 67108863] 67108864 [64, 65, 66, 67, 68, 69, 70, 71, 72, 73, 74, 75, 76, 77, 78, 79, 80, 81, 82, 83, 84, 85, 86, 87, 88, 15] [] (by rfl) (by rfl) (by rfl) ?_; conv => whnf)
    | (refine And.intro (by kernel_rfl) ?_; conv => whnf)
    | (intro h; (try simp only [pickB, Bool.and_eq_true, Bool.or_eq_true, Bool.and_eq_false_iff, Bool.or_eq_false_iff, Bool.not_eq_true', Bool.not_eq_false', Bool.not_eq_eq_eq_not, Bool.not_true, Bool.not_false, decide_eq_true_eq, decide_eq_false_iff_not, beq_iff_eq, bne_iff_ne, beq_eq_false_iff_ne, bne_eq_false_iff_eq, Int.not_lt, Int.not_le, ge_iff_le, gt_iff_lt, ne_eq, not_and, not_or, not_true_eq_false, not_false_eq_true, reduceCtorEq, or_false, false_or, and_true, true_and, and_false, false_and, or_true, true_or] at h) <;> (try simp only [Int.toNat_natCast, dflt64] at h); conv => whnf)
    | omega
    | (simp only [conj, and_true, true_and, Nat.le_eq]; dsimp only; omega)
    | (simp only [Int.toNat_natCast, dflt64, List.length_set, List.length_append, List.length_cons, List.length_nil, getD_set0]; omega)
    | (simp only [Int.toNat_natCast, dflt64, List.length_set, List.length_append, List.length_cons, List.length_nil, getD_set0]; split <;> omega))
  refine Tri.loop (α := Nat) (n := 131) (fun k => [(0, .one (.cell (.ref 0 0))), (1, vint i), (5, .one (.cell (.vec 123))), (29, visl I64 (old.drop i)), (30, vint (old.drop i).length), (31, vint k)])
    (fun k => [(0, spreadC old lo hi), (1, .arr I64 used), (123, .arr I64 (hist used.length ((old.drop i).take k)))]) []
    (fun k => k ≤ (old.drop i).length) (fun k => (old.drop i).length - k) 0 (Nat.zero_le _) rfl ⟨rfl, rfl, rfl, rfl, rfl, rfl, trivial⟩ ⟨rfl, rfl, chA (by exact rfl) ?_, trivial⟩ rfl ?_
  · show List.replicate used.length (0 : Int) = hist used.length []
    apply List.ext_getElem?
    intro j
    by_cases hj : j < used.length <;> simp [hist, count, hj, List.getElem?_replicate]
  intro k hk _ _
  have hstep := hist_snoc used.length ((old.drop i).take k) ((old.drop i).getD k 0)
  have hhl := hist_len used.length ((old.drop i).take k)
  have htk : k < (old.drop i).length → (old.drop i).take k ++ [(old.drop i).getD k 0] = (old.drop i).take (k + 1) := fun h => by
    rw [List.take_add_one, List.getD_eq_getElem?_getD, List.getElem?_eq_getElem h]; rfl
  have hcl := count_le ((old.drop i).take k) ((old.drop i).getD k 0)
  have htl : ((old.drop i).take k).length ≤ old.length := by simp; omega
  have hodl : (old.drop i).length = old.length - i := by simp
  have hget : 0 ≤ (old.drop i).getD k 0 ∧ (old.drop i).getD k 0 < used.length → (hist used.length ((old.drop i).take k)).getD ((old.drop i).getD k 0).toNat 0 = count ((old.drop i).take k) ((old.drop i).getD k 0) := fun h => by
    rw [hist_get _ _ _ (by omega)]
    congr 1; congr 1; omega
  have hmv : mostAt old lo hi used i = mostV lo hi used (fun j => count (old.drop i) j) ((old.drop i).length : Nat) := rfl
  generalize old.drop i = od at *
  apply Tri.of_vc gamN_ok []
  conv => whnf
  repeat' (first
    | (refine Ob.mk ?_ ?_ <;> conv => whnf)
    | (refine Fork2.mk (fun h => ?_) (fun h => ?_) <;> (conv => whnf))
    | (refine Fork.mk (fun h => ?_) (fun h => ?_) <;> (try simp only [pickB, Bool.and_eq_true, Bool.or_eq_true, Bool.and_eq_false_iff, Bool.or_eq_false_iff, Bool.not_eq_true', Bool.not_eq_false', Bool.not_eq_eq_eq_not, Bool.not_true, Bool.not_false, decide_eq_true_eq, decide_eq_false_iff_not, beq_iff_eq, bne_iff_ne, beq_eq_false_iff_ne, bne_eq_false_iff_eq, Int.not_lt, Int.not_le, ge_iff_le, gt_iff_lt, ne_eq, not_and, not_or, not_true_eq_false, not_false_eq_true, reduceCtorEq, or_false, false_or, and_true, true_and, and_false, false_and, or_true, true_or] at h) <;> (try simp only [Int.toNat_natCast, dflt64] at h) <;> (try (exfalso; omega)) <;> (conv => whnf))
    | (refine Tri.draw (id := 13) gamN_ok mixed [0, 1, 3, 7, 0, 16, 48, 112, 0, 496, 1008, 2047, 4095, 0, 8192, 24576, 57344, 0, 131072, 393216, 917504, 0, 4063232, 8257536, 16769024, 8191, 67108863] 67108864 [64, 65, 66, 67, 68, 69, 70, 71, 72, 73, 74, 75, 76, 77, 78, 79, 80, 81, 82, 83, 84, 85, 86, 87, 88, 15] [] (by rfl) (by rfl) (by rfl) ?_; conv => whnf)
    | (refine And.intro (by kernel_rfl) ?_; conv => whnf)
    | (intro h; (try simp only [pickB, Bool.and_eq_true, Bool.or_eq_true, Bool.and_eq_false_iff, Bool.or_eq_false_iff, Bool.not_eq_true', Bool.not_eq_false', Bool.not_eq_eq_eq_not, Bool.not_true, Bool.not_false, decide_eq_true_eq, decide_eq_false_iff_not, beq_iff_eq, bne_iff_ne, beq_eq_false_iff_ne, bne_eq_false_iff_eq, Int.not_lt, Int.not_le, ge_iff_le, gt_iff_lt, ne_eq, not_and, not_or, not_true_eq_false, not_false_eq_true, reduceCtorEq, or_false, false_or, and_true, true_and, and_false, false_and, or_true, true_or] at h) <;> (try simp only [Int.toNat_natCast, dflt64] at h); conv => whnf)
    | omega
    | (simp only [conj, and_true, true_and, Nat.le_eq]; dsimp only; omega)
    | (simp only [Int.toNat_natCast, dflt64, List.length_set, List.length_append, List.length_cons, List.length_nil, getD_set0]; omega)
    | (simp only [Int.toNat_natCast, dflt64, List.length_set, List.length_append, List.length_cons, List.length_nil, getD_set0]; split <;> omega))
  · rw [if_pos (by omega), htk (by omega)] at hstep
    refine nextQ_intro (k + 1) (by show k + 1 ≤ od.length; omega) (by show od.length - (k + 1) < od.length - k; omega) (by exact rfl) (by exact rfl) ⟨rfl, rfl, chA (by exact rfl) ?_, trivial⟩ ⟨rfl, rfl, rfl, rfl, rfl, rfl, trivial⟩
    rw [hstep]; rfl
  · rw [if_neg (by omega), htk (by omega)] at hstep
    refine nextQ_intro (k + 1) (by show k + 1 ≤ od.length; omega) (by show od.length - (k + 1) < od.length - k; omega) (by exact rfl) (by exact rfl) ⟨rfl, rfl, chA (by exact rfl) ?_, trivial⟩ ⟨rfl, rfl, rfl, rfl, rfl, rfl, trivial⟩
    rw [hstep]
  have hke : k = od.length := by omega
  subst hke
  clear hstep hhl htk hcl htl hget
  rw [List.take_length]
  have hcnt : ∀ j : Nat, 0 ≤ (count od j : Int) ∧ (count od j : Int) ≤ 1000 := fun j => by have := count_le od j; omega
  have hst : ∀ j, j ≤ used.length → -1000000 * (j : Int) ≤ (mostSt lo hi used (fun j => count od j) j).sum ∧ (mostSt lo hi used (fun j => count od j) j).sum ≤ 1000000 * (j : Int) ∧ -1000000 * (j : Int) ≤ (mostSt lo hi used (fun j => count od j) j).keep ∧ (mostSt lo hi used (fun j => count od j) j).keep ≤ 1000000 * (j : Int) ∧
    -1000000 * (j : Int) ≤ (mostSt lo hi used (fun j => count od j) j).more ∧ (mostSt lo hi used (fun j => count od j) j).more ≤ 1000000 * (j : Int) ∧ -1000000 * (j : Int) ≤ (mostSt lo hi used (fun j => count od j) j).less ∧ (mostSt lo hi used (fun j => count od j) j).less ≤ 1000000 * (j : Int) := fun j hj => by
    rcases hm with rfl | h
    · have : j = 0 := by simpa using hj
      subst this
      simp [mostSt]
    · exact mostSt_range h.lo0 (by have := h.lo1; omega) h.hi0 (by have := h.hi1; omega) (fun j => by have := h.us j; omega) (fun j => by have := hcnt j; omega) j
  have hhl := hist_len used.length od
  refine Tri.loop (α := Nat) (n := 131) (fun j => [(0, .one (.cell (.ref 0 0))), (8, vint od.length), (9, vint (mostSt lo hi used (fun j => count od j) j).sum), (10, vint (mostSt lo hi used (fun j => count od j) j).keep), (11, vint (mostSt lo hi used (fun j => count od j) j).more), (12, vint (mostSt lo hi used (fun j => count od j) j).less), (57, .one (.cell (.vec 123))), (58, vint used.length), (59, vint j)])
    (fun j => [(0, spreadC old lo hi), (1, .arr I64 used), (123, .arr I64 (hist used.length od))]) []
    (fun j => j ≤ used.length) (fun j => used.length - j) 0 (Nat.zero_le _) rfl ⟨rfl, enI (by exact rfl) (by omega), rfl, rfl, rfl, rfl, rfl, enI (by exact rfl) (by omega), rfl, trivial⟩ ⟨rfl, rfl, rfl, trivial⟩ rfl ?_
  intro j hj _ _
  have hs := hst j hj
  have hs' := hst (j + 1)
  have hc := hcnt j
  have hg := hist_get used.length od j
  have hin : j < used.length → MostIn lo hi used old.length := fun hj => by
    rcases hm with rfl | h
    · simp at hj
    · exact h
  have hin' : j < used.length → 0 ≤ lo ∧ lo ≤ 1000 ∧ 0 ≤ hi ∧ hi ≤ 1000 ∧ 0 ≤ used.getD j 0 ∧ used.getD j 0 ≤ 1000 := fun hj => by
    have := hin hj
    exact ⟨this.lo0, this.lo1, this.hi0, this.hi1, (this.us j).1, (this.us j).2⟩
  clear hst hcnt hin
  simp only [mostSt, dOf, leastOf] at hs'
  apply Tri.of_vc gamN_ok []
  conv => whnf
  repeat' (first
    | (refine Ob.mk ?_ ?_ <;> conv => whnf)
    | (refine Fork2.mk (fun h => ?_) (fun h => ?_) <;> (conv => whnf))
    | (refine Fork.mk (fun h => ?_) (fun h => ?_) <;> (try simp only [pickB, Bool.and_eq_true, Bool.or_eq_true, Bool.and_eq_false_iff, Bool.or_eq_false_iff, Bool.not_eq_true', Bool.not_eq_false', Bool.not_eq_eq_eq_not, Bool.not_true, Bool.not_false, decide_eq_true_eq, decide_eq_false_iff_not, beq_iff_eq, bne_iff_ne, beq_eq_false_iff_ne, bne_eq_false_iff_eq, Int.not_lt, Int.not_le, ge_iff_le, gt_iff_lt, ne_eq, not_and, not_or, not_true_eq_false, not_false_eq_true, reduceCtorEq, or_false, false_or, and_true, true_and, and_false, false_and, or_true, true_or] at h) <;> (try simp only [Int.toNat_natCast, dflt64] at h) <;> (try (exfalso; omega)) <;> (conv => whnf))
    | (refine Tri.draw (id := 13) gamN_ok mixed [0, 1, 3, 7, 0, 16, 48, 112, 0, 496, 1008, 2047, 4095, 0, 8192, 24576, 57344, 0, 131072, 393216, 917504, 0, 4063232, 8257536, 16769024, 8191, 67108863] 67108864 [64, 65, 66, 67, 68, 69, 70, 71, 72, 73, 74, 75, 76, 77, 78, 79, 80, 81, 82, 83, 84, 85, 86, 87, 88, 15] [] (by rfl) (by rfl) (by rfl) ?_; conv => whnf)
    | (refine And.intro (by kernel_rfl) ?_; conv => whnf)
    | (intro h; (try simp only [pickB, Bool.and_eq_true, Bool.or_eq_true, Bool.and_eq_false_iff, Bool.or_eq_false_iff, Bool.not_eq_true', Bool.not_eq_false', Bool.not_eq_eq_eq_not, Bool.not_true, Bool.not_false, decide_eq_true_eq, decide_eq_false_iff_not, beq_iff_eq, bne_iff_ne, beq_eq_false_iff_ne, bne_eq_false_iff_eq, Int.not_lt, Int.not_le, ge_iff_le, gt_iff_lt, ne_eq, not_and, not_or, not_true_eq_false, not_false_eq_true, reduceCtorEq, or_false, false_or, and_true, true_and, and_false, false_and, or_true, true_or] at h) <;> (try simp only [Int.toNat_natCast, dflt64] at h); conv => whnf)
    | omega
    | (simp only [conj, and_true, true_and, Nat.le_eq]; dsimp only; omega)
    | (simp only [Int.toNat_natCast, dflt64, List.length_set, List.length_append, List.length_cons, List.length_nil, getD_set0]; omega)
    | (simp only [Int.toNat_natCast, dflt64, List.length_set, List.length_append, List.length_cons, List.length_nil, getD_set0]; split <;> omega))
  · refine nextQ_intro (j + 1) (by show j + 1 ≤ used.length; omega) (by show used.length - (j + 1) < used.length - j; omega) (by exact rfl) (by exact rfl) ⟨rfl, rfl, rfl, trivial⟩ ⟨rfl, rfl, enI (by exact rfl) ?_, enI (by exact rfl) ?_, enI (by exact rfl) ?_, enI (by exact rfl) ?_, rfl, rfl, rfl, trivial⟩
    all_goals
      simp only [Int.toNat_natCast, dflt64, mostSt, dOf, leastOf]
      rw [hg (by omega)]
  all_goals
    have hje : j = used.length := by omega
    subst hje
    rw [hmv]
    refine quiet_int (by exact rfl) (by exact rfl) ⟨rfl, rfl, trivial⟩ (by exact rfl) ?_
    unfold mostV
  · rw [if_pos (by omega)]
  · rw [if_neg (by omega)]

end Go.Sx
