/- What the closure of Refs and the network of edit's spread do. Conditions: none. -/
import Derived.Test.YthilnjignhopkaaEdG1
set_option linter.unusedSimpArgs false
set_option linter.unusedVariables false
set_option maxRecDepth 10000
set_option maxHeartbeats 4000000
namespace Go.Sx
open Go Go.Proofs

def goodUsed (old : List Int) (lo hi : Int) (used : List Int) (i j : Nat) : List Int := if goodAt old lo hi used i j = true then incAt used j 1 else used

/-- The chunks that the closure sees. -/
def fitsH (old used : List Int) (lo hi : Int) (i : Nat) (all : Int) : List (Nat × Chunk) :=
  [(0, spreadC old lo hi), (1, .arr I64 used), (2, .cells [.ref 0 0]), (3, .cells [.int .i64 i]), (4, .cells [.int .i64 (old.getD i 0)]), (5, .cells [.int .i64 all])]

theorem fits_ok (old used : List Int) (lo hi : Int) (i j : Nat) (hm : MostIn lo hi used old.length) (hold : old.length ≤ 1000) (hi1 : i < old.length) (hj : j < used.length) :
    FnOK Try.prog 21 [cint j, .cell (.ref 2 0), .cell (.ref 3 0), .cell (.ref 4 0), .cell (.ref 5 0)] (fitsH old used lo hi i (mostAt old lo hi used i)) []
      (fun r hs' => r = vbool (goodAt old lo hi used i j) ∧ hs' = fitsH old (goodUsed old lo hi used i j) lo hi i (mostAt old lo hi used i)) := by
  refine FnOK.intro gamN_ok fn21 rfl rfl ?_
  intro _ _
  have hu := hm.us j
  have hh := hm.hi1
  have hgj := getD_incAt used j 1
  have hm1 : used.getD j 0 < hi → MostIn lo hi (incAt used j 1) old.length := fun hlt => by
    refine ⟨hm.lo0, hm.lo1, hm.hi0, hm.hi1, fun k => ?_, by simp [incAt]; exact hm.len, hm.n1⟩
    rw [hgj k hj]
    have := hm.us k
    split <;> omega
  have hmost := fun hlt => most_ok old (incAt used j 1) lo hi (i + 1) (by omega) (.inr (hm1 hlt)) hold
  apply Tri.of_vc gamN_ok []
  conv => whnf
  repeat' (first
    | (refine Ob.mk ?_ ?_ <;> conv => whnf)
    | (refine Fork2.mk (fun h => ?_) (fun h => ?_) <;> (conv => whnf))
    | (refine Fork.mk (fun h => ?_) (fun h => ?_) <;> (try simp only [pickB, Bool.and_eq_true, Bool.or_eq_true, Bool.and_eq_false_iff, Bool.or_eq_false_iff, Bool.not_eq_true', Bool.not_eq_false', Bool.not_eq_eq_eq_not, Bool.not_true, Bool.not_false, decide_eq_true_eq, decide_eq_false_iff_not, beq_iff_eq, bne_iff_ne, beq_eq_false_iff_ne, bne_eq_false_iff_eq, Int.not_lt, Int.not_le, ge_iff_le, gt_iff_lt, ne_eq, not_and, not_or, not_true_eq_false, not_false_eq_true, reduceCtorEq, or_false, false_or, and_true, true_and, and_false, false_and, or_true, true_or] at h) <;> (try simp only [Int.toNat_natCast, dflt64] at h) <;> (try (exfalso; omega)) <;> (conv => whnf))
    | (refine Tri.draw (id := 1) gamN_ok mixed [0, 1, 3, 7, 0, 31, 63, 0, 128, 384, 896, 2047] 2048 [8, 9, 10, 11, 12, 13, 14, 15, 16, 17, 18] [] (by rfl) (by rfl) (by rfl) ?_; conv => whnf)
    | (refine And.intro (by kernel_rfl) ?_; conv => whnf)
    | (intro h; (try simp only [pickB, Bool.and_eq_true, Bool.or_eq_true, Bool.and_eq_false_iff, Bool.or_eq_false_iff, Bool.not_eq_true', Bool.not_eq_false', Bool.not_eq_eq_eq_not, Bool.not_true, Bool.not_false, decide_eq_true_eq, decide_eq_false_iff_not, beq_iff_eq, bne_iff_ne, beq_eq_false_iff_ne, bne_eq_false_iff_eq, Int.not_lt, Int.not_le, ge_iff_le, gt_iff_lt, ne_eq, not_and, not_or, not_true_eq_false, not_false_eq_true, reduceCtorEq, or_false, false_or, and_true, true_and, and_false, false_and, or_true, true_or] at h) <;> (try simp only [Int.toNat_natCast, dflt64] at h); conv => whnf)
    | omega
    | (simp only [conj, and_true, true_and, Nat.le_eq]; dsimp only; omega)
    | (simp only [Int.toNat_natCast, dflt64, List.length_set, List.length_append, List.length_cons, List.length_nil, getD_set0]; omega)
    | (simp only [Int.toNat_natCast, dflt64, List.length_set, List.length_append, List.length_cons, List.length_nil, getD_set0]; split <;> omega))
  · have hg : goodAt old lo hi used i j = false := by unfold goodAt; rw [decide_eq_false (by omega)]; rfl
    refine postQ_ret (fitsH old used lo hi i (mostAt old lo hi used i)) (by exact rfl) (by exact rfl) ⟨rfl, rfl, rfl, rfl, rfl, rfl, trivial⟩ (by exact rfl) (by exact rfl) ⟨?_, ?_⟩
    · rw [hg]; rfl
    · unfold goodUsed; rw [hg]; rfl
  have hlt : used.getD j 0 < hi := by omega
  have hr := mostV_le (lo := lo) (hi := hi) (used := incAt used j 1) (cnt := fun k => count (old.drop (i + 1)) k) (m := ((old.drop (i + 1)).length : Nat)) hm.lo0 hm.lo1 hm.hi0 hm.hi1 (hm1 hlt).us (fun k => by have := count_le (old.drop (i + 1)) k; simp at this; omega) (hm1 hlt).len (by simp; omega)
  have hrest : restAt old lo hi used i j = if mostAt old lo hi (incAt used j 1) (i + 1) ≥ 0 ∧ (j : Int) = old.getD i 0 then mostAt old lo hi (incAt used j 1) (i + 1) + 1 else mostAt old lo hi (incAt used j 1) (i + 1) := by
    unfold restAt
    by_cases h1 : mostAt old lo hi (incAt used j 1) (i + 1) ≥ 0 <;> by_cases h2 : old.getD i 0 = (j : Int)
    · rw [if_pos ⟨h2, h1⟩, if_pos ⟨h1, h2.symm⟩]
    · rw [if_neg (fun e => h2 e.1), if_neg (fun e => h2 e.2.symm)]
    · rw [if_neg (fun e => h1 e.2), if_neg (fun e => h1 e.1)]
    · rw [if_neg (fun e => h1 e.2), if_neg (fun e => h1 e.1)]
  have hmost' := hmost hlt
  change -10000000000 ≤ mostAt old lo hi (incAt used j 1) (i + 1) ∧ mostAt old lo hi (incAt used j 1) (i + 1) ≤ 10000000000 at hr
  have hgood : goodAt old lo hi used i j = decide (restAt old lo hi used i j = mostAt old lo hi used i) := by unfold goodAt; rw [decide_eq_true hlt]; rfl
  have hback : ((incAt used j 1).set j ((incAt used j 1).getD j 0 - 1)) = used := by
    have := incAt_back used j hj
    unfold incAt at this ⊢
    rw [Int.sub_eq_add_neg]
    exact this
  have hu1 := (hm1 hlt).us j
  have hl1 : (incAt used j 1).length = used.length := by simp [incAt]
  refine callQ is20 (hs := [(0, spreadC old lo hi), (1, .arr I64 (incAt used j 1))]) hmost' ⟨rfl, rfl, trivial⟩ ?_
  clear hmost hmost' hm1 hgj
  conv => whnf
  repeat' (first
    | (refine Ob.mk ?_ ?_ <;> conv => whnf)
    | (refine Fork2.mk (fun h => ?_) (fun h => ?_) <;> (conv => whnf))
    | (refine Fork.mk (fun h => ?_) (fun h => ?_) <;> (try simp only [pickB, Bool.and_eq_true, Bool.or_eq_true, Bool.and_eq_false_iff, Bool.or_eq_false_iff, Bool.not_eq_true', Bool.not_eq_false', Bool.not_eq_eq_eq_not, Bool.not_true, Bool.not_false, decide_eq_true_eq, decide_eq_false_iff_not, beq_iff_eq, bne_iff_ne, beq_eq_false_iff_ne, bne_eq_false_iff_eq, Int.not_lt, Int.not_le, ge_iff_le, gt_iff_lt, ne_eq, not_and, not_or, not_true_eq_false, not_false_eq_true, reduceCtorEq, or_false, false_or, and_true, true_and, and_false, false_and, or_true, true_or] at h) <;> (try simp only [Int.toNat_natCast, dflt64] at h) <;> (try (exfalso; omega)) <;> (conv => whnf))
    | (refine Tri.draw (id := 1) gamN_ok mixed [0, 1, 3, 7, 0, 31, 63, 0, 128, 384, 896, 2047] 2048 [8, 9, 10, 11, 12, 13, 14, 15, 16, 17, 18] [] (by rfl) (by rfl) (by rfl) ?_; conv => whnf)
    | (refine And.intro (by kernel_rfl) ?_; conv => whnf)
    | (intro h; (try simp only [pickB, Bool.and_eq_true, Bool.or_eq_true, Bool.and_eq_false_iff, Bool.or_eq_false_iff, Bool.not_eq_true', Bool.not_eq_false', Bool.not_eq_eq_eq_not, Bool.not_true, Bool.not_false, decide_eq_true_eq, decide_eq_false_iff_not, beq_iff_eq, bne_iff_ne, beq_eq_false_iff_ne, bne_eq_false_iff_eq, Int.not_lt, Int.not_le, ge_iff_le, gt_iff_lt, ne_eq, not_and, not_or, not_true_eq_false, not_false_eq_true, reduceCtorEq, or_false, false_or, and_true, true_and, and_false, false_and, or_true, true_or] at h) <;> (try simp only [Int.toNat_natCast, dflt64] at h); conv => whnf)
    | omega
    | (simp only [conj, and_true, true_and, Nat.le_eq]; dsimp only; omega)
    | (simp only [Int.toNat_natCast, dflt64, List.length_set, List.length_append, List.length_cons, List.length_nil, getD_set0]; omega)
    | (simp only [Int.toNat_natCast, dflt64, List.length_set, List.length_append, List.length_cons, List.length_nil, getD_set0]; split <;> omega))
  · have hR : restAt old lo hi used i j = mostAt old lo hi (incAt used j 1) (i + 1) + 1 := by rw [hrest, if_pos (by omega)]
    have hg : goodAt old lo hi used i j = false := by rw [hgood, hR]; exact decide_eq_false (by omega)
    refine postQ_ret (fitsH old (goodUsed old lo hi used i j) lo hi i (mostAt old lo hi used i)) (by exact rfl) (by exact rfl) ⟨rfl, chA (by exact rfl) ?_, rfl, rfl, rfl, rfl, trivial⟩ (by exact rfl) (by exact rfl) ⟨?_, rfl⟩
    · unfold goodUsed; rw [hg]; exact hback
    · rw [hgood, hR]; rfl
  · have hR : restAt old lo hi used i j = mostAt old lo hi (incAt used j 1) (i + 1) + 1 := by rw [hrest, if_pos (by omega)]
    have hg : goodAt old lo hi used i j = true := by rw [hgood, hR]; exact decide_eq_true (by omega)
    refine postQ_ret (fitsH old (goodUsed old lo hi used i j) lo hi i (mostAt old lo hi used i)) (by exact rfl) (by exact rfl) ⟨rfl, chA (by exact rfl) ?_, rfl, rfl, rfl, rfl, trivial⟩ (by exact rfl) (by exact rfl) ⟨?_, rfl⟩
    · unfold goodUsed; rw [hg]; exact rfl
    · rw [hgood, hR]; rfl
  · have hR : restAt old lo hi used i j = mostAt old lo hi (incAt used j 1) (i + 1) := by rw [hrest, if_neg (by omega)]
    have hg : goodAt old lo hi used i j = false := by rw [hgood, hR]; exact decide_eq_false (by omega)
    refine postQ_ret (fitsH old (goodUsed old lo hi used i j) lo hi i (mostAt old lo hi used i)) (by exact rfl) (by exact rfl) ⟨rfl, chA (by exact rfl) ?_, rfl, rfl, rfl, rfl, trivial⟩ (by exact rfl) (by exact rfl) ⟨?_, rfl⟩
    · unfold goodUsed; rw [hg]; exact hback
    · rw [hgood, hR]; rfl
  · have hR : restAt old lo hi used i j = mostAt old lo hi (incAt used j 1) (i + 1) := by rw [hrest, if_neg (by omega)]
    have hg : goodAt old lo hi used i j = true := by rw [hgood, hR]; exact decide_eq_true (by omega)
    refine postQ_ret (fitsH old (goodUsed old lo hi used i j) lo hi i (mostAt old lo hi used i)) (by exact rfl) (by exact rfl) ⟨rfl, chA (by exact rfl) ?_, rfl, rfl, rfl, rfl, trivial⟩ (by exact rfl) (by exact rfl) ⟨?_, rfl⟩
    · unfold goodUsed; rw [hg]; exact rfl
    · rw [hgood, hR]; rfl

theorem edNet0_ok (old used : List Int) (to lo hi : Int) (hto0 : 0 ≤ to) (hto : to ≤ 1000) (hold : old.length ≤ 1000) (hhi : hi ≤ old.length) :
    FnOK Try.prog 22 [.cell (.ref 0 0), cint to] [(0, spreadC old lo hi), (1, .arr I64 used)] []
      (fun r hs' => r = .one (.cell (.vec 1000)) ∧ hs' = [(1000, .arr EdT (netL old to lo hi)), (0, spreadC old lo hi), (1, .arr I64 used)]) := by
  refine FnOK.intro gamN_ok fn22 rfl rfl ?_
  intro _ _
  apply Tri.of_vc gamN_ok []
  conv => whnf
  refine Ob.mk ⟨⟨by omega, by show to * 8 ≤ 140737488355328; omega⟩, rfl⟩ ?_
  conv => whnf
  repeat' (first
    | (refine Ob.mk ?_ ?_ <;> conv => whnf)
    | (refine Fork2.mk (fun h => ?_) (fun h => ?_) <;> (conv => whnf))
    | (refine Fork.mk (fun h => ?_) (fun h => ?_) <;> (try simp only [pickB, Bool.and_eq_true, Bool.or_eq_true, Bool.and_eq_false_iff, Bool.or_eq_false_iff, Bool.not_eq_true', Bool.not_eq_false', Bool.not_eq_eq_eq_not, Bool.not_true, Bool.not_false, decide_eq_true_eq, decide_eq_false_iff_not, beq_iff_eq, bne_iff_ne, beq_eq_false_iff_ne, bne_eq_false_iff_eq, Int.not_lt, Int.not_le, ge_iff_le, gt_iff_lt, ne_eq, not_and, not_or, not_true_eq_false, not_false_eq_true, reduceCtorEq, or_false, false_or, and_true, true_and, and_false, false_and, or_true, true_or] at h) <;> (try simp only [Int.toNat_natCast, dflt64] at h) <;> (try (exfalso; omega)) <;> (conv => whnf))
    | (refine Tri.draw (id := 13) gamN_ok mixed [0, 0, 0, 0, 14, 0, 0, 0, 224, 0, 0, 1024, 0, 4096, 12288, 28672, 0, 65536, 196608, 458752, 1048064, 2097150, 4194303, 8388607] 12582912 [49, 50, 51, 52, 53, 54, 55, 56, 57, 58, 59, 60, 61, 62, 63, 64, 65, 66, 67, 68, 69, 70] [] (by rfl) (by rfl) (by rfl) ?_; conv => whnf)
    | (refine And.intro (by kernel_rfl) ?_; conv => whnf)
    | (intro h; (try simp only [pickB, Bool.and_eq_true, Bool.or_eq_true, Bool.and_eq_false_iff, Bool.or_eq_false_iff, Bool.not_eq_true', Bool.not_eq_false', Bool.not_eq_eq_eq_not, Bool.not_true, Bool.not_false, decide_eq_true_eq, decide_eq_false_iff_not, beq_iff_eq, bne_iff_ne, beq_eq_false_iff_ne, bne_eq_false_iff_eq, Int.not_lt, Int.not_le, ge_iff_le, gt_iff_lt, ne_eq, not_and, not_or, not_true_eq_false, not_false_eq_true, reduceCtorEq, or_false, false_or, and_true, true_and, and_false, false_and, or_true, true_or] at h) <;> (try simp only [Int.toNat_natCast, dflt64] at h); conv => whnf)
    | omega
    | (simp only [conj, and_true, true_and, Nat.le_eq]; dsimp only; omega)
    | (simp only [Int.toNat_natCast, dflt64, List.length_set, List.length_append, List.length_cons, List.length_nil, getD_set0]; omega)
    | (simp only [Int.toNat_natCast, dflt64, List.length_set, List.length_append, List.length_cons, List.length_nil, getD_set0]; split <;> omega))
  refine Tri.loop (α := Nat) (n := 82) (fun k => [(0, .one (.cell (.ref 0 0))), (1, vint to), (5, vint old.length), (6, .one (.cell (.vec 118))), (22, visl I64 old), (23, vint old.length), (24, vint k)])
    (fun k => [(0, spreadC old lo hi), (1, .arr I64 used), (118, .arr I64 (hist to.toNat (old.take k)))]) []
    (fun k => k ≤ old.length) (fun k => old.length - k) 0 (Nat.zero_le _) rfl ⟨rfl, rfl, rfl, rfl, rfl, rfl, rfl, trivial⟩ ⟨rfl, rfl, chA (by exact rfl) ?_, trivial⟩ rfl ?_
  · apply List.ext_getElem?
    intro j
    by_cases hj : j < to.toNat <;> simp [hist, count, hj, List.getElem?_replicate]
  intro k hk _ _
  have hstep := hist_snoc to.toNat (old.take k) (old.getD k 0)
  have hhl := hist_len to.toNat (old.take k)
  have htk : k < old.length → old.take k ++ [old.getD k 0] = old.take (k + 1) := fun h => by
    rw [List.take_add_one, List.getD_eq_getElem?_getD, List.getElem?_eq_getElem h]; rfl
  have hcl := count_le (old.take k) (old.getD k 0)
  have htl : (old.take k).length ≤ old.length := by simp; omega
  have hget : 0 ≤ old.getD k 0 ∧ old.getD k 0 < to → (hist to.toNat (old.take k)).getD (old.getD k 0).toNat 0 = count (old.take k) (old.getD k 0) := fun h => by
    rw [hist_get _ _ _ (by omega)]
    congr 1; congr 1; omega
  apply Tri.of_vc gamN_ok []
  conv => whnf
  repeat' (first
    | (refine Ob.mk ?_ ?_ <;> conv => whnf)
    | (refine Fork2.mk (fun h => ?_) (fun h => ?_) <;> (conv => whnf))
    | (refine Fork.mk (fun h => ?_) (fun h => ?_) <;> (try simp only [pickB, Bool.and_eq_true, Bool.or_eq_true, Bool.and_eq_false_iff, Bool.or_eq_false_iff, Bool.not_eq_true', Bool.not_eq_false', Bool.not_eq_eq_eq_not, Bool.not_true, Bool.not_false, decide_eq_true_eq, decide_eq_false_iff_not, beq_iff_eq, bne_iff_ne, beq_eq_false_iff_ne, bne_eq_false_iff_eq, Int.not_lt, Int.not_le, ge_iff_le, gt_iff_lt, ne_eq, not_and, not_or, not_true_eq_false, not_false_eq_true, reduceCtorEq, or_false, false_or, and_true, true_and, and_false, false_and, or_true, true_or] at h) <;> (try simp only [Int.toNat_natCast, dflt64] at h) <;> (try (exfalso; omega)) <;> (conv => whnf))
    | (refine Tri.draw (id := 13) gamN_ok mixed [0, 0, 0, 0, 14, 0, 0, 0, 224, 0, 0, 1024, 0, 4096, 12288, 28672, 0, 65536, 196608, 458752, 1048064, 2097150, 4194303, 8388607] 12582912 [49, 50, 51, 52, 53, 54, 55, 56, 57, 58, 59, 60, 61, 62, 63, 64, 65, 66, 67, 68, 69, 70] [] (by rfl) (by rfl) (by rfl) ?_; conv => whnf)
    | (refine And.intro (by kernel_rfl) ?_; conv => whnf)
    | (intro h; (try simp only [pickB, Bool.and_eq_true, Bool.or_eq_true, Bool.and_eq_false_iff, Bool.or_eq_false_iff, Bool.not_eq_true', Bool.not_eq_false', Bool.not_eq_eq_eq_not, Bool.not_true, Bool.not_false, decide_eq_true_eq, decide_eq_false_iff_not, beq_iff_eq, bne_iff_ne, beq_eq_false_iff_ne, bne_eq_false_iff_eq, Int.not_lt, Int.not_le, ge_iff_le, gt_iff_lt, ne_eq, not_and, not_or, not_true_eq_false, not_false_eq_true, reduceCtorEq, or_false, false_or, and_true, true_and, and_false, false_and, or_true, true_or] at h) <;> (try simp only [Int.toNat_natCast, dflt64] at h); conv => whnf)
    | omega
    | (simp only [conj, and_true, true_and, Nat.le_eq]; dsimp only; omega)
    | (simp only [Int.toNat_natCast, dflt64, List.length_set, List.length_append, List.length_cons, List.length_nil, getD_set0]; omega)
    | (simp only [Int.toNat_natCast, dflt64, List.length_set, List.length_append, List.length_cons, List.length_nil, getD_set0]; split <;> omega))
  · rw [if_pos (by omega), htk (by omega)] at hstep
    refine nextQ_intro (k + 1) (by show k + 1 ≤ old.length; omega) (by show old.length - (k + 1) < old.length - k; omega) (by exact rfl) (by exact rfl) ⟨rfl, rfl, chA (by exact rfl) ?_, trivial⟩ ⟨rfl, rfl, rfl, rfl, rfl, rfl, rfl, trivial⟩
    rw [hstep]; rfl
  · rw [if_neg (by omega), htk (by omega)] at hstep
    refine nextQ_intro (k + 1) (by show k + 1 ≤ old.length; omega) (by show old.length - (k + 1) < old.length - k; omega) (by exact rfl) (by exact rfl) ⟨rfl, rfl, chA (by exact rfl) ?_, trivial⟩ ⟨rfl, rfl, rfl, rfl, rfl, rfl, rfl, trivial⟩
    rw [hstep]
  have hke : k = old.length := by omega
  subst hke
  clear hstep hhl htk hcl htl hget
  rw [List.take_length]
  have hhl := hist_len to.toNat old
  refine Tri.thaw 9 1000 EdT (by exact rfl) ?_
  refine Tri.loop (α := Nat) (n := 82) (fun j => [(0, .one (.cell (.ref 0 0))), (1, vint to), (5, vint old.length), (9, .one (.cell (.vec 1000))), (42, .one (.cell (.vec 118))), (43, vint to), (44, vint j)])
    (fun j => [(0, spreadC old lo hi), (1, .arr I64 used), (118, .arr I64 (hist to.toNat old)), (1000, .arr EdT (netTo old to lo hi j))]) []
    (fun j => j ≤ to.toNat) (fun j => to.toNat - j) 0 (Nat.zero_le _) rfl ⟨rfl, rfl, rfl, rfl, rfl, enI (by exact rfl) (by omega), rfl, trivial⟩ ⟨rfl, rfl, rfl, rfl, trivial⟩ rfl ?_
  intro j hj _ _
  have hg := hist_get to.toNat old j
  have hlen := netTo_len old to lo hi j
  have hsucc := netTo_succ old to lo hi j
  apply Tri.of_vc gamN_ok []
  conv => whnf
  repeat' (first
    | (refine Ob.mk ?_ ?_ <;> conv => whnf)
    | (refine Fork2.mk (fun h => ?_) (fun h => ?_) <;> (conv => whnf))
    | (refine Fork.mk (fun h => ?_) (fun h => ?_) <;> (try simp only [pickB, Bool.and_eq_true, Bool.or_eq_true, Bool.and_eq_false_iff, Bool.or_eq_false_iff, Bool.not_eq_true', Bool.not_eq_false', Bool.not_eq_eq_eq_not, Bool.not_true, Bool.not_false, decide_eq_true_eq, decide_eq_false_iff_not, beq_iff_eq, bne_iff_ne, beq_eq_false_iff_ne, bne_eq_false_iff_eq, Int.not_lt, Int.not_le, ge_iff_le, gt_iff_lt, ne_eq, not_and, not_or, not_true_eq_false, not_false_eq_true, reduceCtorEq, or_false, false_or, and_true, true_and, and_false, false_and, or_true, true_or] at h) <;> (try simp only [Int.toNat_natCast, dflt64] at h) <;> (try (exfalso; omega)) <;> (conv => whnf))
    | (refine Tri.draw (id := 13) gamN_ok mixed [0, 0, 0, 0, 14, 0, 0, 0, 224, 0, 0, 1024, 0, 4096, 12288, 28672, 0, 65536, 196608, 458752, 1048064, 2097150, 4194303, 8388607] 12582912 [49, 50, 51, 52, 53, 54, 55, 56, 57, 58, 59, 60, 61, 62, 63, 64, 65, 66, 67, 68, 69, 70] [] (by rfl) (by rfl) (by rfl) ?_; conv => whnf)
    | (refine And.intro (by kernel_rfl) ?_; conv => whnf)
    | (intro h; (try simp only [pickB, Bool.and_eq_true, Bool.or_eq_true, Bool.and_eq_false_iff, Bool.or_eq_false_iff, Bool.not_eq_true', Bool.not_eq_false', Bool.not_eq_eq_eq_not, Bool.not_true, Bool.not_false, decide_eq_true_eq, decide_eq_false_iff_not, beq_iff_eq, bne_iff_ne, beq_eq_false_iff_ne, bne_eq_false_iff_eq, Int.not_lt, Int.not_le, ge_iff_le, gt_iff_lt, ne_eq, not_and, not_or, not_true_eq_false, not_false_eq_true, reduceCtorEq, or_false, false_or, and_true, true_and, and_false, false_and, or_true, true_or] at h) <;> (try simp only [Int.toNat_natCast, dflt64] at h); conv => whnf)
    | omega
    | (simp only [conj, and_true, true_and, Nat.le_eq]; dsimp only; omega)
    | (simp only [Int.toNat_natCast, dflt64, List.length_set, List.length_append, List.length_cons, List.length_nil, getD_set0]; omega)
    | (simp only [Int.toNat_natCast, dflt64, List.length_set, List.length_append, List.length_cons, List.length_nil, getD_set0]; split <;> omega))
  · show ((netTo old to lo hi j).length + 3) * 40 ≤ 140737488355328
    omega
  · refine nextQ_intro (j + 1) (by show j + 1 ≤ to.toNat; omega) (by show to.toNat - (j + 1) < to.toNat - j; omega) (by exact rfl) (by exact rfl) ⟨rfl, rfl, rfl, chA (by exact rfl) ?_, trivial⟩ ⟨rfl, rfl, rfl, rfl, rfl, rfl, rfl, trivial⟩
    rw [hsucc]
    show netTo old to lo hi j ++ [(to, (j : Int), (0 : Int), (hist to.toNat old).getD j 0, (0 : Int)), (to, (j : Int), (0 : Int), (old.length : Int), (1 : Int)), ((j : Int), to + 1, lo, hi, (0 : Int))] = _
    rw [hg (by omega)]
    unfold netRow
    rw [Int.min_eq_left hhi]
  · show ((netTo old to lo hi j).length + 1) * 40 ≤ 140737488355328
    omega
  · have hje : j = to.toNat := by omega
    subst hje
    exact postQ_ret [(1000, .arr EdT (netL old to lo hi)), (0, spreadC old lo hi), (1, .arr I64 used)] (by exact rfl) (by exact rfl) ⟨rfl, rfl, rfl, trivial⟩ (by exact rfl) (by exact rfl) ⟨rfl, rfl⟩

theorem edNet_ok (old used : List Int) (to lo hi : Int) (hto0 : 0 ≤ to) (hto : to ≤ 1000) (hold : old.length ≤ 1000) (hhi : hi ≤ old.length) :
    Quiet Try.prog 22 [.cell (.ref 0 0), cint to] [(0, spreadC old lo hi), (1, .arr I64 used)] (visl EdT (netL old to lo hi)) := by
  refine FnOK.freeze 1000 EdT (edNet0_ok old used to lo hi hto0 hto hold hhi) ?_
  rintro r hs' ⟨rfl, rfl⟩
  exact ⟨_, rfl, rfl, rfl, rfl, rfl⟩

end Go.Sx
