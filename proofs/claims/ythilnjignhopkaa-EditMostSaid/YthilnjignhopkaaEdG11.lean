/- What edit.Refs does. Conditions: none. -/
import Derived.Test.YthilnjignhopkaaEdM10
set_option linter.unusedSimpArgs false
set_option linter.unusedVariables false
set_option maxRecDepth 10000
set_option maxHeartbeats 8000000
namespace Go.Sx
open Go Go.Proofs

theorem netL_min (old : List Int) (to lo hi : Int) : netL old to lo (min hi (old.length : Int)) = netL old to lo hi := by
  unfold netL netTo
  congr 1
  congr 1
  funext j
  unfold netRow
  rw [show min (min hi (old.length : Int)) (old.length : Int) = min hi (old.length : Int) by omega]

theorem keepN_take (old x : List Int) (j : Int) (i : Nat) (h : i ≤ x.length) : keepN old (x.take i) j i = keepN old x j i := by
  unfold keepN
  refine List.countP_congr fun k hk => ?_
  have hk : k < i := by simpa using hk
  have : (x.take i).getD k 0 = x.getD k 0 := by
    simp only [List.getD_eq_getElem?_getD, List.getElem?_take, if_pos hk]
  rw [this]

theorem flow_step {old x : List Int} {T : Nat} (hl : x.length ≤ old.length) {i : Nat} (hi : i < x.length) (hr : 0 ≤ x.getD i 0 ∧ x.getD i 0 < T) :
    flowL old T (x.take (i + 1)) = incAt (incAt (flowL old T (x.take i)) (3 * (x.getD i 0).toNat + (if old.getD i 0 = x.getD i 0 then 0 else 1)) 1) (3 * (x.getD i 0).toNat + 2) 1 := by
  have h1 : (flowL old T (x.take (i + 1))).length = 3 * T + 1 := flow_len
  have h2 : (flowL old T (x.take i)).length = 3 * T + 1 := flow_len
  apply List.ext_getElem
  · simp only [incAt_length]; omega
  · intro k k1 k2
    have e1 : (flowL old T (x.take (i + 1)))[k] = (flowL old T (x.take (i + 1))).getD k 0 := by rw [List.getD_eq_getElem?_getD, List.getElem?_eq_getElem k1]; rfl
    have e2 : ∀ (l : List Int) (h : k < l.length), l[k] = l.getD k 0 := fun l h => by rw [List.getD_eq_getElem?_getD, List.getElem?_eq_getElem h]; rfl
    rw [e1, e2 _ k2, getD_incAt', getD_incAt', getD_incAt', incAt_length, h2]
    have hlen : (x.take (i + 1)).length = i + 1 := by simp; omega
    have hlen2 : (x.take i).length = i := by simp; omega
    have hkn : ∀ j : Nat, (keepN old (x.take (i + 1)) j (i + 1) : Int) = (keepN old (x.take i) j i : Int) + (if x.getD i 0 = (j : Int) ∧ old.getD i 0 = (j : Int) then 1 else 0) := fun j => by
      rw [keepN_take old x j (i + 1) (by omega), keepN_take old x j i (by omega), keepN_succ]
      split <;> simp
    obtain ⟨y, hy⟩ := Int.eq_ofNat_of_zero_le hr.1
    rw [hy] at hr hkn ⊢
    have hct : ∀ j : Nat, (count (x.take (i + 1)) j : Int) = (count (x.take i) j : Int) + (if (y : Int) = (j : Int) then 1 else 0) := fun j => by rw [count_take x i hi j, hy]
    simp only [Int.toNat_natCast]
    rcases three k T (by omega) with ⟨j, hj, rfl | rfl | rfl⟩ | rfl
    · rw [flow0 hj, flow0 hj, hlen, hlen2, hkn]
      by_cases e : y = j
      · subst e
        by_cases e3 : old.getD i 0 = (y : Int)
        · rw [if_pos ⟨rfl, e3⟩, if_pos e3]
          rw [if_neg (by omega), if_pos ⟨by omega, by omega⟩]
          rw [show 3 * y + 0 = 3 * y by omega, flow0 hj, hlen2]
        · rw [if_neg (fun q => e3 q.2), if_neg e3, if_neg (by omega), if_neg (by omega)]; omega
      · rw [if_neg (fun q => e (by omega))]
        rw [if_neg (by omega)]
        split <;> (rw [if_neg (by omega)]; omega)
    · rw [flow1 hj, flow1 hj, hlen, hlen2, hkn, hct]
      by_cases e : y = j
      · subst e
        by_cases e3 : old.getD i 0 = (y : Int)
        · rw [if_pos rfl, if_pos ⟨rfl, e3⟩, if_pos e3, if_neg (by omega), if_neg (by omega)]; omega
        · rw [if_pos rfl, if_neg (fun q => e3 q.2), if_neg e3, if_neg (by omega), if_pos ⟨by omega, by omega⟩, flow1 hj, hlen2]; omega
      · rw [if_neg (fun q => e (by omega)), if_neg (fun q => e (by omega)), if_neg (by omega)]
        split <;> (rw [if_neg (by omega)]; omega)
    · rw [flow2 hj, flow2 hj, hct]
      by_cases e : y = j
      · subst e
        rw [if_pos rfl, if_pos ⟨by omega, by omega⟩]
        split <;> (rw [if_neg (by omega), flow2 hj])
      · rw [if_neg (fun q => e (by omega)), if_neg (by omega)]
        split <;> (rw [if_neg (by omega)]; omega)
    · rw [flow3, flow3, if_neg (by omega)]
      split <;> (rw [if_neg (by omega)])

theorem flow_rng {old x : List Int} {T : Nat} (hl : x.length ≤ old.length) (hn : old.length ≤ 1000) (i : Nat) : 0 ≤ (flowL old T x).getD i 0 ∧ (flowL old T x).getD i 0 ≤ 1000 := by
  by_cases h : i < 3 * T + 1
  · rcases three i T h with ⟨j, hj, rfl | rfl | rfl⟩ | rfl
    · have := keepN_le old x j x.length
      rw [flow0 hj]; omega
    · have h1 := (keepN_count old x (by omega) j x.length (Nat.le_refl _)).2
      rw [List.take_length] at h1
      have := count_le x j
      rw [flow1 hj]; omega
    · have := count_le x j
      rw [flow2 hj]; omega
    · rw [flow3]; omega
  · rw [getD_out (by rw [flow_len]; omega)]
    omega

theorem flow_nil (old : List Int) (T : Nat) : (List.replicate (3 * T + 1) (0 : Int)).set (3 * T) old.length = flowL old T [] := by
  have h1 : (flowL old T []).length = 3 * T + 1 := flow_len
  apply List.ext_getElem
  · simp [h1]
  · intro k k1 k2
    have e2 : (flowL old T [])[k] = (flowL old T []).getD k 0 := by rw [List.getD_eq_getElem?_getD, List.getElem?_eq_getElem k2]; rfl
    rw [e2, List.getElem_set]
    rcases three k T (by omega) with ⟨j, hj, rfl | rfl | rfl⟩ | rfl
    · rw [flow0 hj, if_neg (by omega)]; simp [keepN]
    · rw [flow1 hj, if_neg (by omega)]; simp [keepN, count]
    · rw [flow2 hj, if_neg (by omega)]; simp [count]
    · rw [flow3, if_pos rfl]

theorem edRefs0_ok (old : List Int) (to lo hi : Int) (hlen : old.length ≤ 100000) :
    FnOK Try.prog 9 [cisl I64 old, cint to, cint lo, cint hi] [] [] (fun r hs' => refsErr old to lo hi = 0 ∧ (∃ d, r = .tup [.cell (.vec 1000), .agg [.vec 219, .isl I64 d], cint 0] ∧ hs' = [(1000, .arr I64 (refsL old to lo hi)), (219, .arr I64 (flowL old to (refsL old to lo hi)))] ∧ CertOK (to + 2) (netL old to lo hi) (flowL old to (refsL old to lo hi)) d) ∨
      refsErr old to lo hi ≠ 0 ∧ r = .tup [.cell .nilsl, .agg [.nilsl, .nilsl], cint (refsErr old to lo hi)] ∧ hs' = []) := by
  refine FnOK.intro gamN_ok fn9 rfl rfl ?_
  intro ⟨_, hto, hlo, hhi, _⟩ _
  have hto := inR_i64.1 hto
  have hlo := inR_i64.1 hlo
  have hhi := inR_i64.1 hhi
  have hb1 : ¬ ((old.length : Int) > 512 ∨ to > 62) → ¬ ((to < 0 ∨ lo < 0) ∨ lo > hi) → (0 ≤ to * min lo 1000 ∧ to * min lo 1000 ≤ 62 * 1000) ∧ (0 ≤ to * min hi (old.length : Int) ∧ to * min hi (old.length : Int) ≤ 62 * 512) := fun q1 q2 =>
    ⟨⟨Int.mul_nonneg (by omega) (by omega), Int.mul_le_mul (by omega) (by omega) (by omega) (by omega)⟩, ⟨Int.mul_nonneg (by omega) (by omega), Int.mul_le_mul (by omega) (by omega) (by omega) (by omega)⟩⟩
  apply Tri.of_vc gamN_ok []
  conv => whnf
  refine Fork.mk (fun h => ?_) (fun h => ?_) <;> (try simp only [pickB, Bool.and_eq_true, Bool.or_eq_true, Bool.and_eq_false_iff, Bool.or_eq_false_iff, Bool.not_eq_true', Bool.not_eq_false', Bool.not_eq_eq_eq_not, Bool.not_true, Bool.not_false, decide_eq_true_eq, decide_eq_false_iff_not, beq_iff_eq, bne_iff_ne, beq_eq_false_iff_ne, bne_eq_false_iff_eq, Int.not_lt, Int.not_le, ge_iff_le, gt_iff_lt, ne_eq, not_and, not_or, not_true_eq_false, not_false_eq_true, reduceCtorEq, or_false, false_or, and_true, true_and, and_false, false_and, or_true, true_or] at h) <;> (try simp only [Int.toNat_natCast, dflt64] at h) <;> conv => whnf
  · have he : refsErr old to lo hi = 4 := by unfold refsErr; rw [if_pos (by omega)]
    refine postQ_ret [] (by exact rfl) (by exact rfl) trivial (by exact rfl) (by exact rfl) (.inr ⟨by rw [he]; decide, ?_, rfl⟩)
    rw [he]; rfl
  refine Fork.mk (fun h2 => ?_) (fun h2 => ?_)
  · have h2' : (to < 0 ∨ lo < 0) ∨ lo > hi := by
      have h := h2
      (try simp only [pickB, Bool.and_eq_true, Bool.or_eq_true, Bool.and_eq_false_iff, Bool.or_eq_false_iff, Bool.not_eq_true', Bool.not_eq_false', Bool.not_eq_eq_eq_not, Bool.not_true, Bool.not_false, decide_eq_true_eq, decide_eq_false_iff_not, beq_iff_eq, bne_iff_ne, beq_eq_false_iff_ne, bne_eq_false_iff_eq, Int.not_lt, Int.not_le, ge_iff_le, gt_iff_lt, ne_eq, not_and, not_or, not_true_eq_false, not_false_eq_true, reduceCtorEq, or_false, false_or, and_true, true_and, and_false, false_and, or_true, true_or] at h) <;> (try simp only [Int.toNat_natCast, dflt64] at h)
      omega
    conv => whnf
    have he : refsErr old to lo hi = 1 := by unfold refsErr; rw [if_neg (by omega), if_pos h2']
    refine postQ_ret [] (by exact rfl) (by exact rfl) trivial (by exact rfl) (by exact rfl) (.inr ⟨by rw [he]; decide, ?_, rfl⟩)
    rw [he]; rfl
  have h2' : ¬ ((to < 0 ∨ lo < 0) ∨ lo > hi) := by
    have h := h2
    (try simp only [pickB, Bool.and_eq_true, Bool.or_eq_true, Bool.and_eq_false_iff, Bool.or_eq_false_iff, Bool.not_eq_true', Bool.not_eq_false', Bool.not_eq_eq_eq_not, Bool.not_true, Bool.not_false, decide_eq_true_eq, decide_eq_false_iff_not, beq_iff_eq, bne_iff_ne, beq_eq_false_iff_ne, bne_eq_false_iff_eq, Int.not_lt, Int.not_le, ge_iff_le, gt_iff_lt, ne_eq, not_and, not_or, not_true_eq_false, not_false_eq_true, reduceCtorEq, or_false, false_or, and_true, true_and, and_false, false_and, or_true, true_or] at h) <;> (try simp only [Int.toNat_natCast, dflt64] at h)
    omega
  obtain ⟨hm1, hm2⟩ := hb1 (by omega) h2'
  clear hb1 h2
  conv => whnf
  refine Ob.mk ?_ ?_
  · conv => whnf
    omega
  conv => whnf
  refine Ob.mk ?_ ?_
  · conv => whnf
    intro _
    conv => whnf
    omega
  conv => whnf
  refine Fork.mk (fun h => ?_) (fun h => ?_) <;> (try simp only [pickB, Bool.and_eq_true, Bool.or_eq_true, Bool.and_eq_false_iff, Bool.or_eq_false_iff, Bool.not_eq_true', Bool.not_eq_false', Bool.not_eq_eq_eq_not, Bool.not_true, Bool.not_false, decide_eq_true_eq, decide_eq_false_iff_not, beq_iff_eq, bne_iff_ne, beq_eq_false_iff_ne, bne_eq_false_iff_eq, Int.not_lt, Int.not_le, ge_iff_le, gt_iff_lt, ne_eq, not_and, not_or, not_true_eq_false, not_false_eq_true, reduceCtorEq, or_false, false_or, and_true, true_and, and_false, false_and, or_true, true_or] at h) <;> (try simp only [Int.toNat_natCast, dflt64] at h) <;> conv => whnf
  · have he : refsErr old to lo hi = 14 := by unfold refsErr; rw [if_neg (by omega), if_neg h2', if_pos (by omega)]
    refine postQ_ret [] (by exact rfl) (by exact rfl) trivial (by exact rfl) (by exact rfl) (.inr ⟨by rw [he]; decide, ?_, rfl⟩)
    rw [he]; rfl
  have he : refsErr old to lo hi = 0 := by unfold refsErr; rw [if_neg (by omega), if_neg h2', if_neg (by omega)]
  have hto0 : 0 ≤ to := by omega
  repeat' (first
    | (refine Ob.mk ?_ ?_ <;> conv => whnf)
    | (refine Fork2.mk (fun h => ?_) (fun h => ?_) <;> (conv => whnf))
    | (refine Fork.mk (fun h => ?_) (fun h => ?_) <;> (try simp only [pickB, Bool.and_eq_true, Bool.or_eq_true, Bool.and_eq_false_iff, Bool.or_eq_false_iff, Bool.not_eq_true', Bool.not_eq_false', Bool.not_eq_eq_eq_not, Bool.not_true, Bool.not_false, decide_eq_true_eq, decide_eq_false_iff_not, beq_iff_eq, bne_iff_ne, beq_eq_false_iff_ne, bne_eq_false_iff_eq, Int.not_lt, Int.not_le, ge_iff_le, gt_iff_lt, ne_eq, not_and, not_or, not_true_eq_false, not_false_eq_true, reduceCtorEq, or_false, false_or, and_true, true_and, and_false, false_and, or_true, true_or] at h) <;> (try simp only [Int.toNat_natCast, dflt64] at h) <;> (try (exfalso; omega)) <;> (conv => whnf))
    | (refine Tri.draw (id := 8) gamN_ok mixed [0, 1, 0, 4, 0, 0, 0, 64, 224, 511, 1023, 0, 4095] 4096 [65, 66, 67, 68, 69, 70, 71, 72, 73, 74, 75, 12] [] (by rfl) (by rfl) (by rfl) ?_; conv => whnf)
    | (refine Tri.draw (id := 36) gamN_ok mixed [0, 0, 1, 7, 15] 24 [169, 170, 8] [] (by rfl) (by rfl) (by rfl) ?_; conv => whnf)
    | (refine And.intro (by kernel_rfl) ?_; conv => whnf)
    | (intro h; (try simp only [pickB, Bool.and_eq_true, Bool.or_eq_true, Bool.and_eq_false_iff, Bool.or_eq_false_iff, Bool.not_eq_true', Bool.not_eq_false', Bool.not_eq_eq_eq_not, Bool.not_true, Bool.not_false, decide_eq_true_eq, decide_eq_false_iff_not, beq_iff_eq, bne_iff_ne, beq_eq_false_iff_ne, bne_eq_false_iff_eq, Int.not_lt, Int.not_le, ge_iff_le, gt_iff_lt, ne_eq, not_and, not_or, not_true_eq_false, not_false_eq_true, reduceCtorEq, or_false, false_or, and_true, true_and, and_false, false_and, or_true, true_or] at h) <;> (try simp only [Int.toNat_natCast, dflt64] at h); conv => whnf)
    | omega
    | (simp only [conj, and_true, true_and, Nat.le_eq]; dsimp only; omega)
    | (simp only [Int.toNat_natCast, dflt64, List.length_set, List.length_append, List.length_cons, List.length_nil, getD_set0]; omega)
    | (simp only [Int.toNat_natCast, dflt64, List.length_set, List.length_append, List.length_cons, List.length_nil, getD_set0]; split <;> omega))
  refine ⟨is19, [], visl I64 old, clone_ok old (by omega), trivial, ?_⟩
  conv => whnf
  refine Ob.mk ⟨⟨by omega, by show to * 8 ≤ 140737488355328; omega⟩, rfl⟩ ?_
  conv => whnf
  repeat' (first
    | (refine Ob.mk ?_ ?_ <;> conv => whnf)
    | (refine Fork2.mk (fun h => ?_) (fun h => ?_) <;> (conv => whnf))
    | (refine Fork.mk (fun h => ?_) (fun h => ?_) <;> (try simp only [pickB, Bool.and_eq_true, Bool.or_eq_true, Bool.and_eq_false_iff, Bool.or_eq_false_iff, Bool.not_eq_true', Bool.not_eq_false', Bool.not_eq_eq_eq_not, Bool.not_true, Bool.not_false, decide_eq_true_eq, decide_eq_false_iff_not, beq_iff_eq, bne_iff_ne, beq_eq_false_iff_ne, bne_eq_false_iff_eq, Int.not_lt, Int.not_le, ge_iff_le, gt_iff_lt, ne_eq, not_and, not_or, not_true_eq_false, not_false_eq_true, reduceCtorEq, or_false, false_or, and_true, true_and, and_false, false_and, or_true, true_or] at h) <;> (try simp only [Int.toNat_natCast, dflt64] at h) <;> (try (exfalso; omega)) <;> (conv => whnf))
    | (refine Tri.draw (id := 8) gamN_ok mixed [0, 1, 0, 4, 0, 0, 0, 64, 224, 511, 1023, 0, 4095] 4096 [65, 66, 67, 68, 69, 70, 71, 72, 73, 74, 75, 12] [] (by rfl) (by rfl) (by rfl) ?_; conv => whnf)
    | (refine Tri.draw (id := 36) gamN_ok mixed [0, 0, 1, 7, 15] 24 [169, 170, 8] [] (by rfl) (by rfl) (by rfl) ?_; conv => whnf)
    | (refine And.intro (by kernel_rfl) ?_; conv => whnf)
    | (intro h; (try simp only [pickB, Bool.and_eq_true, Bool.or_eq_true, Bool.and_eq_false_iff, Bool.or_eq_false_iff, Bool.not_eq_true', Bool.not_eq_false', Bool.not_eq_eq_eq_not, Bool.not_true, Bool.not_false, decide_eq_true_eq, decide_eq_false_iff_not, beq_iff_eq, bne_iff_ne, beq_eq_false_iff_ne, bne_eq_false_iff_eq, Int.not_lt, Int.not_le, ge_iff_le, gt_iff_lt, ne_eq, not_and, not_or, not_true_eq_false, not_false_eq_true, reduceCtorEq, or_false, false_or, and_true, true_and, and_false, false_and, or_true, true_or] at h) <;> (try simp only [Int.toNat_natCast, dflt64] at h); conv => whnf)
    | omega
    | (simp only [conj, and_true, true_and, Nat.le_eq]; dsimp only; omega)
    | (simp only [Int.toNat_natCast, dflt64, List.length_set, List.length_append, List.length_cons, List.length_nil, getD_set0]; omega)
    | (simp only [Int.toNat_natCast, dflt64, List.length_set, List.length_append, List.length_cons, List.length_nil, getD_set0]; split <;> omega))
  have hH0 : 0 ≤ min hi (old.length : Int) := by omega
  have hH1 : min hi (old.length : Int) ≤ 512 := by omega
  have hH2 : min hi (old.length : Int) ≤ old.length := by omega
  have hlo2 : to = 0 ∨ lo ≤ 512 := by
    by_cases h0 : to = 0
    · exact .inl h0
    · right
      have : min lo 1000 ≤ to * min lo 1000 := by
        have := Int.mul_le_mul_of_nonneg_right (show 1 ≤ to by omega) (show 0 ≤ min lo 1000 by omega)
        omega
      omega
  have hgr := greedy_st old to.toNat lo (min hi (old.length : Int)) hH0
  have hrl : refsL old to lo hi = (greedy old to.toNat lo (min hi (old.length : Int)) old.length).2 := by unfold refsL; rw [if_pos he]
  have hfin := netL_min old to lo hi
  have htgt := refs_targets he
  have hcert := fun f d a b c => target_cert he (f := f) (d := d) a b c
  have hNet : NetOK (to + 2) (netL old to lo hi) ∧ FlowOK (netL old to lo hi) (flowL old to (refsL old to lo hi)) ∧ Balanced (to + 2).toNat (netL old to lo hi) (flowL old to (refsL old to lo hi)) := by
    obtain ⟨T, rfl⟩ := Int.eq_ofNat_of_zero_le hto0
    rw [Int.toNat_natCast] at htgt
    obtain ⟨q1, q2, _⟩ := target_flow htgt
    refine ⟨net_ok' (by omega) (by omega) (by omega) ?_, q1, q2⟩
    by_cases h0 : T = 0
    · exact .inl h0
    · right
      have := Int.mul_le_mul_of_nonneg_right (show (1 : Int) ≤ (T : Int) by omega) (show 0 ≤ min lo 1000 by omega)
      omega
  have hlo3 : 0 ≤ lo := by omega
  clear hm1 hm2 h h2'
  generalize hH : min hi (old.length : Int) = H at *
  refine Tri.thaw 13 1000 I64 (by exact rfl) ?_
  refine Tri.loop (α := Nat) (n := 171) (fun i => [(0, visl I64 old), (1, vint to), (9, .one (.cell (.ref 109 0))), (12, .one (.cell (.ref 112 0))), (13, .one (.cell (.vec 1000))), (79, visl I64 old), (80, vint old.length), (81, vint i)])
    (fun i => [(109, .cells [.nilsl, .nilsl]), (112, .cells [.ref 175 0]), (168, .arr I64 (greedy old to.toNat lo H i).1), (175, .cells [.isl I64 old, .vec 168, .int .i64 lo, .int .i64 H]), (1000, .arr I64 (greedy old to.toNat lo H i).2)]) []
    (fun i => i ≤ old.length) (fun i => old.length - i) 0 (Nat.zero_le _) rfl ⟨rfl, rfl, rfl, rfl, rfl, rfl, rfl, rfl, trivial⟩ ⟨rfl, rfl, rfl, ?_, rfl, trivial⟩ rfl ?_
  · rw [← hH]; rfl
  intro i hi1 _ _
  have hg := hgr i
  have hu0 : ∀ j, 0 ≤ (greedy old to.toNat lo H i).1.getD j 0 ∧ (greedy old to.toNat lo H i).1.getD j 0 ≤ 1000 := fun j => by have := hg.us j; omega
  have hul := hg.len
  have hol := hg.out
  generalize hgi : greedy old to.toNat lo H i = s at *
  obtain ⟨used, out⟩ := s
  simp only at hu0 hul hol
  have hmi : used = [] ∨ MostIn lo H used old.length := by
    rcases hlo2 with h0 | h0
    · left; rw [← List.length_eq_zero_iff, hul, h0]; rfl
    · right; exact ⟨hlo3, by omega, hH0, by omega, hu0, by omega, by omega⟩
  have hmost := fun hi2 => Quiet.ren [175, 168] (most_ok old used lo H i hi2 hmi (by omega)) rfl rfl rfl rfl rfl
  apply Tri.of_vc gamN_ok []
  conv => whnf
  repeat' (first
    | (refine Ob.mk ?_ ?_ <;> conv => whnf)
    | (refine Fork2.mk (fun h => ?_) (fun h => ?_) <;> (conv => whnf))
    | (refine Fork.mk (fun h => ?_) (fun h => ?_) <;> (try simp only [pickB, Bool.and_eq_true, Bool.or_eq_true, Bool.and_eq_false_iff, Bool.or_eq_false_iff, Bool.not_eq_true', Bool.not_eq_false', Bool.not_eq_eq_eq_not, Bool.not_true, Bool.not_false, decide_eq_true_eq, decide_eq_false_iff_not, beq_iff_eq, bne_iff_ne, beq_eq_false_iff_ne, bne_eq_false_iff_eq, Int.not_lt, Int.not_le, ge_iff_le, gt_iff_lt, ne_eq, not_and, not_or, not_true_eq_false, not_false_eq_true, reduceCtorEq, or_false, false_or, and_true, true_and, and_false, false_and, or_true, true_or] at h) <;> (try simp only [Int.toNat_natCast, dflt64] at h) <;> (try (exfalso; omega)) <;> (conv => whnf))
    | (refine Tri.draw (id := 8) gamN_ok mixed [0, 1, 0, 4, 0, 0, 0, 64, 224, 511, 1023, 0, 4095] 4096 [65, 66, 67, 68, 69, 70, 71, 72, 73, 74, 75, 12] [] (by rfl) (by rfl) (by rfl) ?_; conv => whnf)
    | (refine Tri.draw (id := 36) gamN_ok mixed [0, 0, 1, 7, 15] 24 [169, 170, 8] [] (by rfl) (by rfl) (by rfl) ?_; conv => whnf)
    | (refine And.intro (by kernel_rfl) ?_; conv => whnf)
    | (intro h; (try simp only [pickB, Bool.and_eq_true, Bool.or_eq_true, Bool.and_eq_false_iff, Bool.or_eq_false_iff, Bool.not_eq_true', Bool.not_eq_false', Bool.not_eq_eq_eq_not, Bool.not_true, Bool.not_false, decide_eq_true_eq, decide_eq_false_iff_not, beq_iff_eq, bne_iff_ne, beq_eq_false_iff_ne, bne_eq_false_iff_eq, Int.not_lt, Int.not_le, ge_iff_le, gt_iff_lt, ne_eq, not_and, not_or, not_true_eq_false, not_false_eq_true, reduceCtorEq, or_false, false_or, and_true, true_and, and_false, false_and, or_true, true_or] at h) <;> (try simp only [Int.toNat_natCast, dflt64] at h); conv => whnf)
    | omega
    | (simp only [conj, and_true, true_and, Nat.le_eq]; dsimp only; omega)
    | (simp only [Int.toNat_natCast, dflt64, List.length_set, List.length_append, List.length_cons, List.length_nil, getD_set0]; omega)
    | (simp only [Int.toNat_natCast, dflt64, List.length_set, List.length_append, List.length_cons, List.length_nil, getD_set0]; split <;> omega))
  · refine callQ is20 (hs := [(175, .cells [.isl I64 old, .vec 168, .int .i64 lo, .int .i64 H]), (168, .arr I64 used)]) (r := vint (mostAt old lo H used i)) (hmost hi1) ⟨rfl, rfl, trivial⟩ ?_
    conv => whnf
    refine Tri.loop (α := Nat) (n := 171) (fun j => [(0, visl I64 old), (1, vint to), (9, .one (.cell (.ref 109 0))), (12, .one (.cell (.ref 112 0))), (13, .one (.cell (.vec 1000))), (17, .one (.cell (.clo 21 [112, 114, 115, 116]))), (79, visl I64 old), (80, vint old.length), (81, vint i), (90, vint to), (91, vint j)])
      (fun j => [(109, .cells [.nilsl, .nilsl]), (112, .cells [.ref 175 0]), (114, .cells [.int .i64 i]), (115, .cells [.int .i64 (old.getD i 0)]), (116, .cells [.int .i64 (mostAt old lo H used i)]), (168, .arr I64 used), (175, .cells [.isl I64 old, .vec 168, .int .i64 lo, .int .i64 H]), (1000, .arr I64 out)]) []
      (fun j => j ≤ to.toNat ∧ ∀ k, k < j → goodAt old lo H used i k = false) (fun j => to.toNat - j) 0 ⟨Nat.zero_le _, fun k hk => by omega⟩ rfl ⟨rfl, rfl, rfl, rfl, rfl, rfl, rfl, rfl, rfl, rfl, rfl, trivial⟩ ⟨rfl, rfl, rfl, rfl, rfl, rfl, rfl, rfl, trivial⟩ rfl ?_
    intro j ⟨hj, hbad⟩ _ _
    have hi2 : i < old.length := by omega
    apply Tri.of_vc gamN_ok []
    conv => whnf
    repeat' (first
      | (refine Ob.mk ?_ ?_ <;> conv => whnf)
      | (refine Fork2.mk (fun h => ?_) (fun h => ?_) <;> (conv => whnf))
      | (refine Fork.mk (fun h => ?_) (fun h => ?_) <;> (try simp only [pickB, Bool.and_eq_true, Bool.or_eq_true, Bool.and_eq_false_iff, Bool.or_eq_false_iff, Bool.not_eq_true', Bool.not_eq_false', Bool.not_eq_eq_eq_not, Bool.not_true, Bool.not_false, decide_eq_true_eq, decide_eq_false_iff_not, beq_iff_eq, bne_iff_ne, beq_eq_false_iff_ne, bne_eq_false_iff_eq, Int.not_lt, Int.not_le, ge_iff_le, gt_iff_lt, ne_eq, not_and, not_or, not_true_eq_false, not_false_eq_true, reduceCtorEq, or_false, false_or, and_true, true_and, and_false, false_and, or_true, true_or] at h) <;> (try simp only [Int.toNat_natCast, dflt64] at h) <;> (try (exfalso; omega)) <;> (conv => whnf))
      | (refine Tri.draw (id := 8) gamN_ok mixed [0, 1, 0, 4, 0, 0, 0, 64, 224, 511, 1023, 0, 4095] 4096 [65, 66, 67, 68, 69, 70, 71, 72, 73, 74, 75, 12] [] (by rfl) (by rfl) (by rfl) ?_; conv => whnf)
      | (refine Tri.draw (id := 36) gamN_ok mixed [0, 0, 1, 7, 15] 24 [169, 170, 8] [] (by rfl) (by rfl) (by rfl) ?_; conv => whnf)
      | (refine And.intro (by kernel_rfl) ?_; conv => whnf)
      | (intro h; (try simp only [pickB, Bool.and_eq_true, Bool.or_eq_true, Bool.and_eq_false_iff, Bool.or_eq_false_iff, Bool.not_eq_true', Bool.not_eq_false', Bool.not_eq_eq_eq_not, Bool.not_true, Bool.not_false, decide_eq_true_eq, decide_eq_false_iff_not, beq_iff_eq, bne_iff_ne, beq_eq_false_iff_ne, bne_eq_false_iff_eq, Int.not_lt, Int.not_le, ge_iff_le, gt_iff_lt, ne_eq, not_and, not_or, not_true_eq_false, not_false_eq_true, reduceCtorEq, or_false, false_or, and_true, true_and, and_false, false_and, or_true, true_or] at h) <;> (try simp only [Int.toNat_natCast, dflt64] at h); conv => whnf)
      | omega
      | (simp only [conj, and_true, true_and, Nat.le_eq]; dsimp only; omega)
      | (simp only [Int.toNat_natCast, dflt64, List.length_set, List.length_append, List.length_cons, List.length_nil, getD_set0]; omega)
      | (simp only [Int.toNat_natCast, dflt64, List.length_set, List.length_append, List.length_cons, List.length_nil, getD_set0]; split <;> omega))
    · have hjl : j < used.length := by omega
      have hmin : MostIn lo H used old.length := by
        rcases hmi with h0 | h0
        · rw [h0] at hjl; simp at hjl
        · exact h0
      refine callF is21 (FnOK.ren (renF_inj (l := [175, 168, 112, 114, 115, 116]) (off := 10000) rfl rfl) (fits_ok old used lo H i j hmin (by omega) hi2 hjl)) ⟨rfl, rfl, rfl, rfl, rfl, rfl, trivial⟩ ?_
      rintro r hs' ⟨r0, hs0, ⟨rfl, rfl⟩, rfl, rfl⟩ _ _
      conv => whnf
      refine Fork.mk (fun hg => ?_) (fun hg => ?_)
      · have hg : goodAt old lo H used i j = true := hg
        have hnext : greedy old to.toNat lo H (i + 1) = (incAt used j 1, out ++ [(j : Int)]) := by
          have : findAt old to.toNat lo H used i = some j := findAt_is hbad hg (by omega)
          simp only [greedy, hgi, stepAt, this]
        have hgu : goodUsed old lo H used i j = incAt used j 1 := by unfold goodUsed; rw [if_pos hg]
        conv => whnf
        refine Ob.mk (by show (out.length + 1) * 8 ≤ 140737488355328; omega) ?_
        conv => whnf
        repeat' (first
          | (refine Ob.mk ?_ ?_ <;> conv => whnf)
          | (refine Fork2.mk (fun h => ?_) (fun h => ?_) <;> (conv => whnf))
          | (refine Fork.mk (fun h => ?_) (fun h => ?_) <;> (try simp only [pickB, Bool.and_eq_true, Bool.or_eq_true, Bool.and_eq_false_iff, Bool.or_eq_false_iff, Bool.not_eq_true', Bool.not_eq_false', Bool.not_eq_eq_eq_not, Bool.not_true, Bool.not_false, decide_eq_true_eq, decide_eq_false_iff_not, beq_iff_eq, bne_iff_ne, beq_eq_false_iff_ne, bne_eq_false_iff_eq, Int.not_lt, Int.not_le, ge_iff_le, gt_iff_lt, ne_eq, not_and, not_or, not_true_eq_false, not_false_eq_true, reduceCtorEq, or_false, false_or, and_true, true_and, and_false, false_and, or_true, true_or] at h) <;> (try simp only [Int.toNat_natCast, dflt64] at h) <;> (try (exfalso; omega)) <;> (conv => whnf))
          | (refine Tri.draw (id := 8) gamN_ok mixed [0, 1, 0, 4, 0, 0, 0, 64, 224, 511, 1023, 0, 4095] 4096 [65, 66, 67, 68, 69, 70, 71, 72, 73, 74, 75, 12] [] (by rfl) (by rfl) (by rfl) ?_; conv => whnf)
          | (refine Tri.draw (id := 36) gamN_ok mixed [0, 0, 1, 7, 15] 24 [169, 170, 8] [] (by rfl) (by rfl) (by rfl) ?_; conv => whnf)
          | (refine And.intro (by kernel_rfl) ?_; conv => whnf)
          | (intro h; (try simp only [pickB, Bool.and_eq_true, Bool.or_eq_true, Bool.and_eq_false_iff, Bool.or_eq_false_iff, Bool.not_eq_true', Bool.not_eq_false', Bool.not_eq_eq_eq_not, Bool.not_true, Bool.not_false, decide_eq_true_eq, decide_eq_false_iff_not, beq_iff_eq, bne_iff_ne, beq_eq_false_iff_ne, bne_eq_false_iff_eq, Int.not_lt, Int.not_le, ge_iff_le, gt_iff_lt, ne_eq, not_and, not_or, not_true_eq_false, not_false_eq_true, reduceCtorEq, or_false, false_or, and_true, true_and, and_false, false_and, or_true, true_or] at h) <;> (try simp only [Int.toNat_natCast, dflt64] at h); conv => whnf)
          | omega
          | (simp only [conj, and_true, true_and, Nat.le_eq]; dsimp only; omega)
          | (simp only [Int.toNat_natCast, dflt64, List.length_set, List.length_append, List.length_cons, List.length_nil, getD_set0]; omega)
          | (simp only [Int.toNat_natCast, dflt64, List.length_set, List.length_append, List.length_cons, List.length_nil, getD_set0]; split <;> omega))
        refine nextQ_intro (i + 1) (by show i + 1 ≤ old.length; omega) (by show old.length - (i + 1) < old.length - i; omega) (by exact rfl) (by exact rfl) ⟨rfl, rfl, chA (by exact rfl) ?_, rfl, chA (by exact rfl) ?_, trivial⟩ ⟨rfl, rfl, rfl, rfl, rfl, rfl, rfl, rfl, trivial⟩
        · rw [hnext]; exact hgu
        · rw [hnext]
      · have hg : goodAt old lo H used i j = false := hg
        have hgu : goodUsed old lo H used i j = used := by unfold goodUsed; rw [if_neg (by rw [hg]; decide)]
        conv => whnf
        repeat' (first
          | (refine Ob.mk ?_ ?_ <;> conv => whnf)
          | (refine Fork2.mk (fun h => ?_) (fun h => ?_) <;> (conv => whnf))
          | (refine Fork.mk (fun h => ?_) (fun h => ?_) <;> (try simp only [pickB, Bool.and_eq_true, Bool.or_eq_true, Bool.and_eq_false_iff, Bool.or_eq_false_iff, Bool.not_eq_true', Bool.not_eq_false', Bool.not_eq_eq_eq_not, Bool.not_true, Bool.not_false, decide_eq_true_eq, decide_eq_false_iff_not, beq_iff_eq, bne_iff_ne, beq_eq_false_iff_ne, bne_eq_false_iff_eq, Int.not_lt, Int.not_le, ge_iff_le, gt_iff_lt, ne_eq, not_and, not_or, not_true_eq_false, not_false_eq_true, reduceCtorEq, or_false, false_or, and_true, true_and, and_false, false_and, or_true, true_or] at h) <;> (try simp only [Int.toNat_natCast, dflt64] at h) <;> (try (exfalso; omega)) <;> (conv => whnf))
          | (refine Tri.draw (id := 8) gamN_ok mixed [0, 1, 0, 4, 0, 0, 0, 64, 224, 511, 1023, 0, 4095] 4096 [65, 66, 67, 68, 69, 70, 71, 72, 73, 74, 75, 12] [] (by rfl) (by rfl) (by rfl) ?_; conv => whnf)
          | (refine Tri.draw (id := 36) gamN_ok mixed [0, 0, 1, 7, 15] 24 [169, 170, 8] [] (by rfl) (by rfl) (by rfl) ?_; conv => whnf)
          | (refine And.intro (by kernel_rfl) ?_; conv => whnf)
          | (intro h; (try simp only [pickB, Bool.and_eq_true, Bool.or_eq_true, Bool.and_eq_false_iff, Bool.or_eq_false_iff, Bool.not_eq_true', Bool.not_eq_false', Bool.not_eq_eq_eq_not, Bool.not_true, Bool.not_false, decide_eq_true_eq, decide_eq_false_iff_not, beq_iff_eq, bne_iff_ne, beq_eq_false_iff_ne, bne_eq_false_iff_eq, Int.not_lt, Int.not_le, ge_iff_le, gt_iff_lt, ne_eq, not_and, not_or, not_true_eq_false, not_false_eq_true, reduceCtorEq, or_false, false_or, and_true, true_and, and_false, false_and, or_true, true_or] at h) <;> (try simp only [Int.toNat_natCast, dflt64] at h); conv => whnf)
          | omega
          | (simp only [conj, and_true, true_and, Nat.le_eq]; dsimp only; omega)
          | (simp only [Int.toNat_natCast, dflt64, List.length_set, List.length_append, List.length_cons, List.length_nil, getD_set0]; omega)
          | (simp only [Int.toNat_natCast, dflt64, List.length_set, List.length_append, List.length_cons, List.length_nil, getD_set0]; split <;> omega))
        refine nextQ_intro (j + 1) ⟨by omega, fun k hk => ?_⟩ (by show to.toNat - (j + 1) < to.toNat - j; omega) (by exact rfl) (by exact rfl) ⟨rfl, rfl, rfl, rfl, rfl, chA (by exact rfl) hgu, rfl, rfl, trivial⟩ ⟨rfl, rfl, rfl, rfl, rfl, rfl, rfl, rfl, rfl, rfl, rfl, trivial⟩
        by_cases e : k = j
        · subst e; exact hg
        · exact hbad k (by omega)
    · have hnext : greedy old to.toNat lo H (i + 1) = (used, out) := by
        have := findAt_not (old := old) (lo := lo) (hi := H) (used := used) (i := i) (to := to.toNat) (fun k hk => hbad k (by omega))
        simp only [greedy, hgi, stepAt, this]
      refine nextQ_intro (i + 1) (by show i + 1 ≤ old.length; omega) (by show old.length - (i + 1) < old.length - i; omega) (by exact rfl) (by exact rfl) ⟨rfl, rfl, chA (by exact rfl) ?_, rfl, chA (by exact rfl) ?_, trivial⟩ ⟨rfl, rfl, rfl, rfl, rfl, rfl, rfl, rfl, trivial⟩
      · rw [hnext]
      · rw [hnext]
  have hie : i = old.length := by omega
  subst hie
  rw [hgi] at hrl
  have hrl : refsL old to lo hi = out := hrl
  rw [hrl] at htgt hcert hNet ⊢
  refine callQ is22 (hs := [(175, .cells [.isl I64 old, .vec 168, .int .i64 lo, .int .i64 H]), (168, .arr I64 used)]) (r := visl EdT (netL old to lo hi)) ?_ ⟨rfl, rfl, trivial⟩ ?_
  · rw [← hfin]
    exact Quiet.ren [175, 168] (edNet_ok old used to lo H hto0 (by omega) (by omega) hH2) rfl rfl rfl rfl rfl
  conv => whnf
  repeat' (first
    | (refine Ob.mk ?_ ?_ <;> conv => whnf)
    | (refine Fork2.mk (fun h => ?_) (fun h => ?_) <;> (conv => whnf))
    | (refine Fork.mk (fun h => ?_) (fun h => ?_) <;> (try simp only [pickB, Bool.and_eq_true, Bool.or_eq_true, Bool.and_eq_false_iff, Bool.or_eq_false_iff, Bool.not_eq_true', Bool.not_eq_false', Bool.not_eq_eq_eq_not, Bool.not_true, Bool.not_false, decide_eq_true_eq, decide_eq_false_iff_not, beq_iff_eq, bne_iff_ne, beq_eq_false_iff_ne, bne_eq_false_iff_eq, Int.not_lt, Int.not_le, ge_iff_le, gt_iff_lt, ne_eq, not_and, not_or, not_true_eq_false, not_false_eq_true, reduceCtorEq, or_false, false_or, and_true, true_and, and_false, false_and, or_true, true_or] at h) <;> (try simp only [Int.toNat_natCast, dflt64] at h) <;> (try (exfalso; omega)) <;> (conv => whnf))
    | (refine Tri.draw (id := 8) gamN_ok mixed [0, 1, 0, 4, 0, 0, 0, 64, 224, 511, 1023, 0, 4095] 4096 [65, 66, 67, 68, 69, 70, 71, 72, 73, 74, 75, 12] [] (by rfl) (by rfl) (by rfl) ?_; conv => whnf)
    | (refine Tri.draw (id := 36) gamN_ok mixed [0, 0, 1, 7, 15] 24 [169, 170, 8] [] (by rfl) (by rfl) (by rfl) ?_; conv => whnf)
    | (refine And.intro (by kernel_rfl) ?_; conv => whnf)
    | (intro h; (try simp only [pickB, Bool.and_eq_true, Bool.or_eq_true, Bool.and_eq_false_iff, Bool.or_eq_false_iff, Bool.not_eq_true', Bool.not_eq_false', Bool.not_eq_eq_eq_not, Bool.not_true, Bool.not_false, decide_eq_true_eq, decide_eq_false_iff_not, beq_iff_eq, bne_iff_ne, beq_eq_false_iff_ne, bne_eq_false_iff_eq, Int.not_lt, Int.not_le, ge_iff_le, gt_iff_lt, ne_eq, not_and, not_or, not_true_eq_false, not_false_eq_true, reduceCtorEq, or_false, false_or, and_true, true_and, and_false, false_and, or_true, true_or] at h) <;> (try simp only [Int.toNat_natCast, dflt64] at h); conv => whnf)
    | omega
    | (simp only [conj, and_true, true_and, Nat.le_eq]; dsimp only; omega)
    | (simp only [Int.toNat_natCast, dflt64, List.length_set, List.length_append, List.length_cons, List.length_nil, getD_set0]; omega)
    | (simp only [Int.toNat_natCast, dflt64, List.length_set, List.length_append, List.length_cons, List.length_nil, getD_set0]; split <;> omega))
  refine callF is23 (least_ok (to + 2) (netL old to lo hi) hNet.1 hNet.2.1 hNet.2.2) trivial ?_
  rintro r hs' ⟨f, d, rfl, rfl, hf, hb, hL⟩ _ _
  have hC := hcert f d hf hb hL
  have hnl := netL_len old to lo hi
  have hol2 := htgt.len
  conv => whnf
  repeat' (first
    | (refine Ob.mk ?_ ?_ <;> conv => whnf)
    | (refine Fork2.mk (fun h => ?_) (fun h => ?_) <;> (conv => whnf))
    | (refine Fork.mk (fun h => ?_) (fun h => ?_) <;> (try simp only [pickB, Bool.and_eq_true, Bool.or_eq_true, Bool.and_eq_false_iff, Bool.or_eq_false_iff, Bool.not_eq_true', Bool.not_eq_false', Bool.not_eq_eq_eq_not, Bool.not_true, Bool.not_false, decide_eq_true_eq, decide_eq_false_iff_not, beq_iff_eq, bne_iff_ne, beq_eq_false_iff_ne, bne_eq_false_iff_eq, Int.not_lt, Int.not_le, ge_iff_le, gt_iff_lt, ne_eq, not_and, not_or, not_true_eq_false, not_false_eq_true, reduceCtorEq, or_false, false_or, and_true, true_and, and_false, false_and, or_true, true_or] at h) <;> (try simp only [Int.toNat_natCast, dflt64] at h) <;> (try (exfalso; omega)) <;> (conv => whnf))
    | (refine Tri.draw (id := 8) gamN_ok mixed [0, 1, 0, 4, 0, 0, 0, 64, 224, 511, 1023, 0, 4095] 4096 [65, 66, 67, 68, 69, 70, 71, 72, 73, 74, 75, 12] [] (by rfl) (by rfl) (by rfl) ?_; conv => whnf)
    | (refine Tri.draw (id := 36) gamN_ok mixed [0, 0, 1, 7, 15] 24 [169, 170, 8] [] (by rfl) (by rfl) (by rfl) ?_; conv => whnf)
    | (refine And.intro (by kernel_rfl) ?_; conv => whnf)
    | (intro h; (try simp only [pickB, Bool.and_eq_true, Bool.or_eq_true, Bool.and_eq_false_iff, Bool.or_eq_false_iff, Bool.not_eq_true', Bool.not_eq_false', Bool.not_eq_eq_eq_not, Bool.not_true, Bool.not_false, decide_eq_true_eq, decide_eq_false_iff_not, beq_iff_eq, bne_iff_ne, beq_eq_false_iff_ne, bne_eq_false_iff_eq, Int.not_lt, Int.not_le, ge_iff_le, gt_iff_lt, ne_eq, not_and, not_or, not_true_eq_false, not_false_eq_true, reduceCtorEq, or_false, false_or, and_true, true_and, and_false, false_and, or_true, true_or] at h) <;> (try simp only [Int.toNat_natCast, dflt64] at h); conv => whnf)
    | omega
    | (simp only [conj, and_true, true_and, Nat.le_eq]; dsimp only; omega)
    | (simp only [Int.toNat_natCast, dflt64, List.length_set, List.length_append, List.length_cons, List.length_nil, getD_set0]; omega)
    | (simp only [Int.toNat_natCast, dflt64, List.length_set, List.length_append, List.length_cons, List.length_nil, getD_set0]; split <;> omega))
  · exact ⟨⟨by omega, by show ((netL old to lo hi).length : Int) * 8 ≤ 140737488355328; omega⟩, rfl⟩
  · rw [List.length_replicate]
    omega
  obtain ⟨T, rfl⟩ := Int.eq_ofNat_of_zero_le hto0
  rw [Int.toNat_natCast] at hnl htgt
  refine Tri.loop (α := Nat) (n := 171) (fun k => [(0, visl I64 old), (9, .one (.cell (.ref 109 0))), (13, .one (.cell (.vec 1000))), (20, .one (.cell (.ref 120 0))), (129, .one (.cell (.vec 1000))), (130, vint old.length), (131, vint k)])
    (fun k => [(109, .cells [.nilsl, .nilsl]), (120, .cells [.vec 219, .isl I64 d]), (219, .arr I64 (flowL old T (out.take k))), (1000, .arr I64 out)]) []
    (fun k => k ≤ out.length) (fun k => out.length - k) 0 (Nat.zero_le _) rfl ⟨rfl, rfl, rfl, rfl, rfl, enI (by exact rfl) (by rw [← hol2]), rfl, trivial⟩ ⟨rfl, rfl, chA (by exact rfl) ?_, rfl, trivial⟩ rfl ?_
  · show (List.replicate (netL old T lo hi).length (0 : Int)).set ((netL old T lo hi).length - 1 : Int).toNat old.length = flowL old T []
    rw [← flow_nil, hnl, show ((3 * T + 1 : Nat) - 1 : Int).toNat = 3 * T by omega]
  intro k hk _ _
  have hx : k < out.length → 0 ≤ out.getD k 0 ∧ out.getD k 0 < T := fun h => htgt.rng _ (by rw [List.getD_eq_getElem?_getD, List.getElem?_eq_getElem h]; exact List.getElem_mem _)
  have hFl : (flowL old T (out.take k)).length = 3 * T + 1 := flow_len
  have hstep := fun h => flow_step (old := old) (x := out) (T := T) (by omega) (i := k) h (hx h)
  have hF := flow_rng (old := old) (x := out.take k) (T := T) (by simp; omega) (by omega)
  have hF0 := hF (3 * out.getD k 0).toNat
  have hF1 := hF (3 * out.getD k 0 + 1).toNat
  have hF2 := hF (3 * out.getD k 0 + 2).toNat
  apply Tri.of_vc gamN_ok []
  conv => whnf
  repeat' (first
    | (refine Ob.mk ?_ ?_ <;> conv => whnf)
    | (refine Fork2.mk (fun h => ?_) (fun h => ?_) <;> (conv => whnf))
    | (refine Fork.mk (fun h => ?_) (fun h => ?_) <;> (try simp only [pickB, Bool.and_eq_true, Bool.or_eq_true, Bool.and_eq_false_iff, Bool.or_eq_false_iff, Bool.not_eq_true', Bool.not_eq_false', Bool.not_eq_eq_eq_not, Bool.not_true, Bool.not_false, decide_eq_true_eq, decide_eq_false_iff_not, beq_iff_eq, bne_iff_ne, beq_eq_false_iff_ne, bne_eq_false_iff_eq, Int.not_lt, Int.not_le, ge_iff_le, gt_iff_lt, ne_eq, not_and, not_or, not_true_eq_false, not_false_eq_true, reduceCtorEq, or_false, false_or, and_true, true_and, and_false, false_and, or_true, true_or] at h) <;> (try simp only [Int.toNat_natCast, dflt64] at h) <;> (try (exfalso; omega)) <;> (conv => whnf))
    | (refine Tri.draw (id := 8) gamN_ok mixed [0, 1, 0, 4, 0, 0, 0, 64, 224, 511, 1023, 0, 4095] 4096 [65, 66, 67, 68, 69, 70, 71, 72, 73, 74, 75, 12] [] (by rfl) (by rfl) (by rfl) ?_; conv => whnf)
    | (refine Tri.draw (id := 36) gamN_ok mixed [0, 0, 1, 7, 15] 24 [169, 170, 8] [] (by rfl) (by rfl) (by rfl) ?_; conv => whnf)
    | (refine And.intro (by kernel_rfl) ?_; conv => whnf)
    | (intro h; (try simp only [pickB, Bool.and_eq_true, Bool.or_eq_true, Bool.and_eq_false_iff, Bool.or_eq_false_iff, Bool.not_eq_true', Bool.not_eq_false', Bool.not_eq_eq_eq_not, Bool.not_true, Bool.not_false, decide_eq_true_eq, decide_eq_false_iff_not, beq_iff_eq, bne_iff_ne, beq_eq_false_iff_ne, bne_eq_false_iff_eq, Int.not_lt, Int.not_le, ge_iff_le, gt_iff_lt, ne_eq, not_and, not_or, not_true_eq_false, not_false_eq_true, reduceCtorEq, or_false, false_or, and_true, true_and, and_false, false_and, or_true, true_or] at h) <;> (try simp only [Int.toNat_natCast, dflt64] at h); conv => whnf)
    | omega
    | (simp only [conj, and_true, true_and, Nat.le_eq]; dsimp only; omega)
    | (simp only [Int.toNat_natCast, dflt64, List.length_set, List.length_append, List.length_cons, List.length_nil, getD_set0]; omega)
    | (simp only [Int.toNat_natCast, dflt64, List.length_set, List.length_append, List.length_cons, List.length_nil, getD_set0]; split <;> omega))
  · have hne : ¬ (old.getD k 0 = out.getD k 0) := by assumption
    have hxk := hx (by omega)
    refine nextQ_intro (k + 1) (by show k + 1 ≤ out.length; omega) (by show out.length - (k + 1) < out.length - k; omega) (by exact rfl) (by exact rfl) ⟨rfl, rfl, chA (by exact rfl) ?_, rfl, trivial⟩ ⟨rfl, rfl, rfl, rfl, rfl, rfl, rfl, trivial⟩
    show incAt (incAt (flowL old T (out.take k)) (3 * out.getD k 0 + 1).toNat 1) (3 * out.getD k 0 + 2).toNat 1 = _
    rw [hstep (by omega), if_neg hne, show (3 * out.getD k 0 + 1).toNat = 3 * (out.getD k 0).toNat + 1 by omega, show (3 * out.getD k 0 + 2).toNat = 3 * (out.getD k 0).toNat + 2 by omega]
  · have heq : old.getD k 0 = out.getD k 0 := by assumption
    have hxk := hx (by omega)
    refine nextQ_intro (k + 1) (by show k + 1 ≤ out.length; omega) (by show out.length - (k + 1) < out.length - k; omega) (by exact rfl) (by exact rfl) ⟨rfl, rfl, chA (by exact rfl) ?_, rfl, trivial⟩ ⟨rfl, rfl, rfl, rfl, rfl, rfl, rfl, trivial⟩
    show incAt (incAt (flowL old T (out.take k)) (3 * out.getD k 0).toNat 1) (3 * out.getD k 0 + 2).toNat 1 = _
    rw [hstep (by omega), if_pos heq, show (3 * out.getD k 0).toNat = 3 * (out.getD k 0).toNat + 0 by omega, show (3 * out.getD k 0 + 2).toNat = 3 * (out.getD k 0).toNat + 2 by omega]
  · have hke : k = out.length := by omega
    subst hke
    refine postQ_ret [(1000, .arr I64 out), (219, .arr I64 (flowL old T out))] (by exact rfl) (by exact rfl) ⟨rfl, chA (by exact rfl) (by rw [List.take_length]), trivial⟩ (by exact rfl) (by exact rfl) (.inl ⟨he, d, rfl, rfl, hC⟩)

/-- What edit.Refs returns. -/
def EdRefsQ (old : List Int) (to lo hi : Int) (r : SV) : Prop :=
  (refsErr old to lo hi = 0 ∧ ∃ d, r = .tup [cisl I64 (refsL old to lo hi), .agg [.isl I64 (flowL old to (refsL old to lo hi)), .isl I64 d], cint 0] ∧ CertOK (to + 2) (netL old to lo hi) (flowL old to (refsL old to lo hi)) d) ∨
  (refsErr old to lo hi ≠ 0 ∧ r = .tup [.cell .nilsl, .agg [.nilsl, .nilsl], cint (refsErr old to lo hi)])

theorem edRefs_ok (old : List Int) (to lo hi : Int) (hlen : old.length ≤ 100000) :
    FnOK Try.prog 9 [cisl I64 old, cint to, cint lo, cint hi] [] [] (fun r hs' => EdRefsQ old to lo hi r ∧ hs' = []) := by
  have h1 : FnOK Try.prog 9 [cisl I64 old, cint to, cint lo, cint hi] [] [] (fun r hs' => refsErr old to lo hi = 0 ∧ (∃ d, r = .tup [cisl I64 (refsL old to lo hi), .agg [.vec 219, .isl I64 d], cint 0] ∧ hs' = [(219, .arr I64 (flowL old to (refsL old to lo hi)))] ∧ CertOK (to + 2) (netL old to lo hi) (flowL old to (refsL old to lo hi)) d) ∨
      refsErr old to lo hi ≠ 0 ∧ r = .tup [.cell .nilsl, .agg [.nilsl, .nilsl], cint (refsErr old to lo hi)] ∧ hs' = []) := by
    refine FnOK.freezeOr 1000 I64 (edRefs0_ok old to lo hi hlen) ?_
    rintro r hs' (⟨he, d, rfl, rfl, h⟩ | ⟨he, rfl, rfl⟩)
    · exact .inl ⟨_, rfl, rfl, rfl, .inl ⟨he, d, rfl, rfl, h⟩⟩
    · exact .inr ⟨_, fun _ _ _ _ h => h, rfl, .inr ⟨he, rfl, rfl⟩⟩
  refine FnOK.freezeOr 219 I64 h1 ?_
  rintro r hs' (⟨he, d, rfl, rfl, h⟩ | ⟨he, rfl, rfl⟩)
  · exact .inl ⟨_, rfl, rfl, rfl, .inl ⟨he, d, rfl, h⟩, rfl⟩
  · exact .inr ⟨_, fun _ _ _ _ h => h, rfl, .inr ⟨he, rfl⟩, rfl⟩

end Go.Sx
