/- The walk of EditFlow: it answers true. Conditions: none. -/
import Derived.Test.YthilnjignhopkaaEdG12
set_option linter.unusedSimpArgs false
set_option linter.unusedVariables false
set_option maxRecDepth 10000
set_option maxHeartbeats 8000000
namespace Go.Sx
open Go Go.Proofs

/-- What olds gives cannot fail but for counts that do not fit. -/
theorem olds_err (l : List Int) : refsErr (oldsL l) (oldsTo l) (oldsLo l) (oldsHi l) = 0 ∨ refsErr (oldsL l) (oldsTo l) (oldsLo l) (oldsHi l) = 14 := by
  have h1 := at1_range l 0 5 (by omega)
  have h2 := at1_range l 1 3 (by omega)
  have h3 := at1_range l 2 5 (by omega)
  have hl : (oldsL l).length ≤ 10 := by
    unfold oldsL oldsN
    rw [List.length_map, List.length_range]
    omega
  have e1 : oldsTo l = at1 l 0 5 := rfl
  have e2 : oldsLo l = at1 l 1 3 := rfl
  have e3 : oldsHi l = at1 l 1 3 + at1 l 2 5 := rfl
  unfold refsErr
  rw [if_neg (by omega), if_neg (by omega)]
  split
  · exact .inr rfl
  · exact .inl rfl

theorem cost_01 {old : List Int} {lo hi : Int} {T i : Nat} (h : i < 3 * T + 1) : costW (netL old T lo hi) i = 0 ∨ costW (netL old T lo hi) i = 1 := by
  unfold costW
  rcases three i T h with ⟨j, hj, rfl | rfl | rfl⟩ | rfl
  · rw [net0 hj]; exact .inl rfl
  · rw [net1 hj]; exact .inr rfl
  · rw [net2 hj]; exact .inl rfl
  · rw [net3]; exact .inl rfl

/-- The cost of the first edges of a target flow lies in a small range. -/
theorem cost_rng {old x : List Int} {lo hi : Int} {T : Nat} (hx : x.length ≤ old.length) (hn : old.length ≤ 1000) : ∀ i, i ≤ 3 * T + 1 → 0 ≤ sumW (flowL old T x) (costW (netL old T lo hi)) i ∧ sumW (flowL old T x) (costW (netL old T lo hi)) i ≤ 1000 * (i : Int)
  | 0, _ => by simp [sumW]
  | i + 1, h => by
    have ih := cost_rng (T := T) hx hn (lo := lo) (hi := hi) i (by omega)
    have hf := flow_rng (T := T) hx hn i
    have hc : costW (netL old T lo hi) i = 0 ∨ costW (netL old T lo hi) i = 1 := cost_01 (T := T) (i := i) (by omega)
    simp only [sumW]
    rcases hc with e | e
    · rw [e, Int.mul_zero]; omega
    · rw [e, Int.mul_one]; omega

theorem keepC_rng (old x : List Int) : ∀ i : Nat, 0 ≤ keepC old x i ∧ keepC old x i ≤ i
  | 0 => by simp [keepC]
  | i + 1 => by
    have := keepC_rng old x i
    simp only [keepC]
    split <;> omega

def rng1000 (z : Int) : Prop := 0 ≤ z ∧ z ≤ 1000
theorem rng_cost {c f : Int} (hc : c = 0 ∨ c = 1) (hf : 0 ≤ f ∧ f ≤ 1000) : rng1000 (c * f) := by
  unfold rng1000
  rcases hc with rfl | rfl
  · rw [Int.zero_mul]; omega
  · rw [Int.one_mul]; omega

theorem take_next (net : List EdT.den) {i : Nat} (h : i < net.length) : net.take i ++ [((net.getD i EdT.dflt).1, (net.getD i EdT.dflt).2.1, (net.getD i EdT.dflt).2.2.1, (net.getD i EdT.dflt).2.2.2.1, (net.getD i EdT.dflt).2.2.2.2)] = net.take (i + 1) := by
  rw [List.take_add_one, List.getElem?_eq_getElem h, List.getD_eq_getElem?_getD, List.getElem?_eq_getElem h]
  rfl

theorem EditFlow_ok (l : List Int) : Quiet Try.prog 5 [cisl I64 l] [] (vbool true) := by
  have hl10 : (oldsL l).length ≤ 10 := by
    unfold oldsL oldsN
    rw [List.length_map, List.length_range]
    omega
  have h1 := at1_range l 0 5 (by omega)
  have h2 := at1_range l 1 3 (by omega)
  have h3 := at1_range l 2 5 (by omega)
  have herr := olds_err l
  have eT : oldsTo l = at1 l 0 5 := rfl
  have eL : oldsLo l = at1 l 1 3 := rfl
  have eH : oldsHi l = at1 l 1 3 + at1 l 2 5 := rfl
  refine FnOK.intro gamN_ok fn5 rfl rfl ?_
  intro ⟨hl, _⟩ _
  have hl : l.length ≤ big := hl.1
  have hbig := bigv
  have hR := edR_ok (oldsL l) (oldsTo l) (oldsLo l) (oldsHi l) (by omega)
  have hO := olds_ok l
  generalize oldsL l = old at *
  generalize oldsTo l = to at *
  generalize oldsLo l = lo at *
  generalize oldsHi l = hi at *
  rcases herr with he | he
  case inr =>
    rw [he] at hR
    apply Tri.of_vc gamN_ok []
    conv => whnf
    refine callQ is6 hO trivial ?_
    conv => whnf
    refine callQ is9 hR trivial ?_
    conv => whnf
    refine Fork.mk (fun _ => ?_) (fun h => absurd h (by decide))
    conv => whnf
    refine callQ is15 (gImp_of fun _ => lives_ok) trivial ?_
    conv => whnf
    exact quiet_bool (by exact rfl) (by exact rfl) trivial (by exact rfl) (by simp [pickB])
  have hfe : flowE old to lo hi = flowL old to (refsL old to lo hi) := by unfold flowE; rw [if_pos he]
  rw [he, hfe] at hR
  have ht := refs_targets he
  have hN := (refs_in he).2.2.2
  obtain ⟨T, rfl⟩ := Int.eq_ofNat_of_zero_le (show 0 ≤ to by omega)
  rw [Int.toNat_natCast] at ht
  have hnet := net_ok old T lo hi (by omega) (by omega)
  have hC : ∀ d, LevP old T lo hi d → CertOK ((T : Int) + 2) (netL old T lo hi) (flowL old T (refsL old T lo hi)) d := fun d hd => hd.1 he
  have hnl : (netL old T lo hi).length = 3 * T + 1 := net_len
  have hfl : (flowL old T (refsL old T lo hi)).length = 3 * T + 1 := flow_len
  have hrl := ht.len
  have hcost := (target_flow (lo := lo) (hi := hi) ht).2.2
  have hrg := fun i => cost_rng (T := T) (lo := lo) (hi := hi) (show (refsL old T lo hi).length ≤ old.length by omega) (by omega) i
  have hfr := fun i => flow_rng (T := T) (show (refsL old T lo hi).length ≤ old.length by omega) (by omega) i
  have hkr := keepC_rng old (refsL old T lo hi)
  have hcw : ∀ i, i < 3 * T + 1 → costW (netL old T lo hi) i = 0 ∨ costW (netL old T lo hi) i = 1 := fun i h => cost_01 h
  generalize refsL old T lo hi = x at *
  generalize hnd : netL old T lo hi = net at *
  generalize hfd : flowL old T x = f at *
  apply Tri.of_vc gamN_ok [3]
  conv => whnf
  refine callQ is6 hO trivial ?_
  conv => whnf
  refine callQ is9 hR trivial ?_
  conv => whnf
  refine Tri.openC 108 1 I64 (LevP old T lo hi) _ rfl rfl ?_
  intro d hd
  have hc := hC d hd
  apply Tri.of_vc gamN_ok []
  conv => whnf
  refine Fork.mk (fun h => absurd h (by decide)) (fun _ => ?_)
  conv => whnf
  refine callQ is16 hnet trivial ?_
  conv => whnf
  repeat' (first
    | (refine Ob.mk ?_ ?_ <;> conv => whnf)
    | (refine Fork2.mk (fun h => ?_) (fun h => ?_) <;> (conv => whnf))
    | (refine Fork.mk (fun h => ?_) (fun h => ?_) <;> (try simp only [pickB, Bool.and_eq_true, Bool.or_eq_true, Bool.and_eq_false_iff, Bool.or_eq_false_iff, Bool.not_eq_true', Bool.not_eq_false', Bool.not_eq_eq_eq_not, Bool.not_true, Bool.not_false, decide_eq_true_eq, decide_eq_false_iff_not, beq_iff_eq, bne_iff_ne, beq_eq_false_iff_ne, bne_eq_false_iff_eq, Int.not_lt, Int.not_le, ge_iff_le, gt_iff_lt, ne_eq, not_and, not_or, not_true_eq_false, not_false_eq_true, reduceCtorEq, or_false, false_or, and_true, true_and, and_false, false_and, or_true, true_or] at h) <;> (try simp only [Int.toNat_natCast, dflt64] at h) <;> (try (exfalso; omega)) <;> (conv => whnf))
    | (refine Tri.draw (id := 13) gamN_ok mixed [0, 0, 0, 6, 14, 30, 0, 0, 192, 448, 960, 0, 0, 6144, 14336, 30720, 0, 0, 196608, 458752, 983040, 0, 0, 6291456, 14680064, 31457280, 67108862, 134217726, 268435455, 536870911] 805306368 [62, 63, 64, 65, 66, 67, 68, 69, 70, 71, 72, 73, 74, 75, 76, 77, 78, 79, 80, 81, 82, 83, 84, 85, 86, 87, 88, 89] [] (by rfl) (by rfl) (by rfl) ?_; conv => whnf)
    | (refine Tri.draw (id := 14) gamN_ok mixed [0, 0, 0, 6, 14, 30, 0, 64, 0, 448, 960, 2046, 4095, 8191] 12288 [91, 92, 93, 94, 95, 96, 97, 98, 99, 100, 101, 102] [] (by rfl) (by rfl) (by rfl) ?_; conv => whnf)
    | (refine Tri.draw (id := 18) gamN_ok mixed [0, 0, 3, 7, 0, 0, 48, 112, 255] 256 [110, 111, 112, 113, 114, 115, 116, 117] [] (by rfl) (by rfl) (by rfl) ?_; conv => whnf)
    | (refine And.intro (by kernel_rfl) ?_; conv => whnf)
    | (intro h; (try simp only [pickB, Bool.and_eq_true, Bool.or_eq_true, Bool.and_eq_false_iff, Bool.or_eq_false_iff, Bool.not_eq_true', Bool.not_eq_false', Bool.not_eq_eq_eq_not, Bool.not_true, Bool.not_false, decide_eq_true_eq, decide_eq_false_iff_not, beq_iff_eq, bne_iff_ne, beq_eq_false_iff_ne, bne_eq_false_iff_eq, Int.not_lt, Int.not_le, ge_iff_le, gt_iff_lt, ne_eq, not_and, not_or, not_true_eq_false, not_false_eq_true, reduceCtorEq, or_false, false_or, and_true, true_and, and_false, false_and, or_true, true_or] at h) <;> (try simp only [Int.toNat_natCast, dflt64] at h); conv => whnf)
    | omega
    | (simp only [conj, and_true, true_and, Nat.le_eq]; dsimp only; omega)
    | (simp only [Int.toNat_natCast, dflt64, List.length_set, List.length_append, List.length_cons, List.length_nil, getD_set0]; omega)
    | (simp only [Int.toNat_natCast, dflt64, List.length_set, List.length_append, List.length_cons, List.length_nil, getD_set0]; split <;> omega))
  refine Tri.thaw 10 1000 EdT (by exact rfl) ?_
  refine Tri.loop (α := Nat) (n := 134) (fun i => [(3, visl I64 old), (4, vint T), (7, visl I64 x), (8, .one (.cell (.ref 108 0))), (10, .one (.cell (.vec 1000))), (11, visl EdT net), (12, vint (sumW f (costW net) i)), (13, vint i)]) (fun i => [(108, .cells [.isl I64 f, .isl I64 d]), (1000, .arr EdT (net.take i))]) [] (fun i => i ≤ net.length) (fun i => net.length - i) 0 (Nat.zero_le _) rfl ⟨rfl, rfl, rfl, rfl, rfl, rfl, rfl, rfl, trivial⟩ ⟨rfl, rfl, trivial⟩ rfl ?_
  intro i hI _ _
  have b1 := hrg i
  have b2 := hfr i
  have b3 := hcw i
  have b4 : (net.take i).length = i := by rw [List.length_take]; omega
  have b5 : i < 3 * T + 1 → rng1000 ((net.getD i EdT.dflt).2.2.2.2 * f.getD i 0) := fun q => rng_cost (b3 q) b2
  unfold rng1000 at b5
  apply Tri.of_vc gamN_ok []
  conv => whnf
  repeat' (first
    | (refine Ob.mk ?_ ?_ <;> conv => whnf)
    | (refine Fork2.mk (fun h => ?_) (fun h => ?_) <;> (conv => whnf))
    | (refine Fork.mk (fun h => ?_) (fun h => ?_) <;> (try simp only [pickB, Bool.and_eq_true, Bool.or_eq_true, Bool.and_eq_false_iff, Bool.or_eq_false_iff, Bool.not_eq_true', Bool.not_eq_false', Bool.not_eq_eq_eq_not, Bool.not_true, Bool.not_false, decide_eq_true_eq, decide_eq_false_iff_not, beq_iff_eq, bne_iff_ne, beq_eq_false_iff_ne, bne_eq_false_iff_eq, Int.not_lt, Int.not_le, ge_iff_le, gt_iff_lt, ne_eq, not_and, not_or, not_true_eq_false, not_false_eq_true, reduceCtorEq, or_false, false_or, and_true, true_and, and_false, false_and, or_true, true_or] at h) <;> (try simp only [Int.toNat_natCast, dflt64] at h) <;> (try (exfalso; omega)) <;> (conv => whnf))
    | (refine Tri.draw (id := 13) gamN_ok mixed [0, 0, 0, 6, 14, 30, 0, 0, 192, 448, 960, 0, 0, 6144, 14336, 30720, 0, 0, 196608, 458752, 983040, 0, 0, 6291456, 14680064, 31457280, 67108862, 134217726, 268435455, 536870911] 805306368 [62, 63, 64, 65, 66, 67, 68, 69, 70, 71, 72, 73, 74, 75, 76, 77, 78, 79, 80, 81, 82, 83, 84, 85, 86, 87, 88, 89] [] (by rfl) (by rfl) (by rfl) ?_; conv => whnf)
    | (refine Tri.draw (id := 14) gamN_ok mixed [0, 0, 0, 6, 14, 30, 0, 64, 0, 448, 960, 2046, 4095, 8191] 12288 [91, 92, 93, 94, 95, 96, 97, 98, 99, 100, 101, 102] [] (by rfl) (by rfl) (by rfl) ?_; conv => whnf)
    | (refine Tri.draw (id := 18) gamN_ok mixed [0, 0, 3, 7, 0, 0, 48, 112, 255] 256 [110, 111, 112, 113, 114, 115, 116, 117] [] (by rfl) (by rfl) (by rfl) ?_; conv => whnf)
    | (refine And.intro (by kernel_rfl) ?_; conv => whnf)
    | (intro h; (try simp only [pickB, Bool.and_eq_true, Bool.or_eq_true, Bool.and_eq_false_iff, Bool.or_eq_false_iff, Bool.not_eq_true', Bool.not_eq_false', Bool.not_eq_eq_eq_not, Bool.not_true, Bool.not_false, decide_eq_true_eq, decide_eq_false_iff_not, beq_iff_eq, bne_iff_ne, beq_eq_false_iff_ne, bne_eq_false_iff_eq, Int.not_lt, Int.not_le, ge_iff_le, gt_iff_lt, ne_eq, not_and, not_or, not_true_eq_false, not_false_eq_true, reduceCtorEq, or_false, false_or, and_true, true_and, and_false, false_and, or_true, true_or] at h) <;> (try simp only [Int.toNat_natCast, dflt64] at h); conv => whnf)
    | omega
    | (simp only [conj, and_true, true_and, Nat.le_eq]; dsimp only; omega)
    | (simp only [Int.toNat_natCast, dflt64, List.length_set, List.length_append, List.length_cons, List.length_nil, getD_set0]; omega)
    | (simp only [Int.toNat_natCast, dflt64, List.length_set, List.length_append, List.length_cons, List.length_nil, getD_set0]; split <;> omega))
  · show ((net.take i).length + 1) * 40 ≤ 140737488355328
    omega
  · have hlt : i < net.length := by omega
    exact nextQ_intro (i + 1) (by show i + 1 ≤ net.length; omega) (by show net.length - (i + 1) < net.length - i; omega) (by exact rfl) (by exact rfl) ⟨rfl, chA (by exact rfl) (take_next net hlt), trivial⟩ ⟨rfl, rfl, rfl, rfl, rfl, rfl, enI (by exact rfl) (congrArg (sumW f (costW net) i + ·) (Int.mul_comm _ _)), rfl, trivial⟩
  have hin : i = net.length := by omega
  subst hin
  have hN' : NetOK ((T : Int) + 2) (net.take net.length) := by rw [List.take_length]; exact hN
  have hc' : CertOK ((T : Int) + 2) (net.take net.length) f d := by rw [List.take_length]; exact hc
  refine Tri.freeze 1000 EdT (net.take net.length) (by exact rfl) ?_
  refine Tri.loop (α := Nat) (n := 134) (fun j => [(3, visl I64 old), (4, vint T), (7, visl I64 x), (8, .one (.cell (.ref 108 0))), (10, visl EdT (net.take net.length)), (12, vint (sumW f (costW net) net.length - (j - keepC old x j))), (14, vint j)]) (fun j => [(108, .cells [.isl I64 f, .isl I64 d])]) [] (fun j => j ≤ old.length) (fun j => old.length - j) 0 (Nat.zero_le _) rfl ⟨rfl, rfl, rfl, rfl, rfl, enI (by exact rfl) (by simp [keepC]), rfl, trivial⟩ ⟨rfl, trivial⟩ rfl ?_
  intro j hJ _ _
  have k1 := hkr j
  have k2 : keepC old x (j + 1) = keepC old x j + (if old.getD j 0 = x.getD j 0 then 1 else 0) := rfl
  apply Tri.of_vc gamN_ok []
  conv => whnf
  repeat' (first
    | (refine Ob.mk ?_ ?_ <;> conv => whnf)
    | (refine Fork2.mk (fun h => ?_) (fun h => ?_) <;> (conv => whnf))
    | (refine Fork.mk (fun h => ?_) (fun h => ?_) <;> (try simp only [pickB, Bool.and_eq_true, Bool.or_eq_true, Bool.and_eq_false_iff, Bool.or_eq_false_iff, Bool.not_eq_true', Bool.not_eq_false', Bool.not_eq_eq_eq_not, Bool.not_true, Bool.not_false, decide_eq_true_eq, decide_eq_false_iff_not, beq_iff_eq, bne_iff_ne, beq_eq_false_iff_ne, bne_eq_false_iff_eq, Int.not_lt, Int.not_le, ge_iff_le, gt_iff_lt, ne_eq, not_and, not_or, not_true_eq_false, not_false_eq_true, reduceCtorEq, or_false, false_or, and_true, true_and, and_false, false_and, or_true, true_or] at h) <;> (try simp only [Int.toNat_natCast, dflt64] at h) <;> (try (exfalso; omega)) <;> (conv => whnf))
    | (refine Tri.draw (id := 13) gamN_ok mixed [0, 0, 0, 6, 14, 30, 0, 0, 192, 448, 960, 0, 0, 6144, 14336, 30720, 0, 0, 196608, 458752, 983040, 0, 0, 6291456, 14680064, 31457280, 67108862, 134217726, 268435455, 536870911] 805306368 [62, 63, 64, 65, 66, 67, 68, 69, 70, 71, 72, 73, 74, 75, 76, 77, 78, 79, 80, 81, 82, 83, 84, 85, 86, 87, 88, 89] [] (by rfl) (by rfl) (by rfl) ?_; conv => whnf)
    | (refine Tri.draw (id := 14) gamN_ok mixed [0, 0, 0, 6, 14, 30, 0, 64, 0, 448, 960, 2046, 4095, 8191] 12288 [91, 92, 93, 94, 95, 96, 97, 98, 99, 100, 101, 102] [] (by rfl) (by rfl) (by rfl) ?_; conv => whnf)
    | (refine Tri.draw (id := 18) gamN_ok mixed [0, 0, 3, 7, 0, 0, 48, 112, 255] 256 [110, 111, 112, 113, 114, 115, 116, 117] [] (by rfl) (by rfl) (by rfl) ?_; conv => whnf)
    | (refine And.intro (by kernel_rfl) ?_; conv => whnf)
    | (intro h; (try simp only [pickB, Bool.and_eq_true, Bool.or_eq_true, Bool.and_eq_false_iff, Bool.or_eq_false_iff, Bool.not_eq_true', Bool.not_eq_false', Bool.not_eq_eq_eq_not, Bool.not_true, Bool.not_false, decide_eq_true_eq, decide_eq_false_iff_not, beq_iff_eq, bne_iff_ne, beq_eq_false_iff_ne, bne_eq_false_iff_eq, Int.not_lt, Int.not_le, ge_iff_le, gt_iff_lt, ne_eq, not_and, not_or, not_true_eq_false, not_false_eq_true, reduceCtorEq, or_false, false_or, and_true, true_and, and_false, false_and, or_true, true_or] at h) <;> (try simp only [Int.toNat_natCast, dflt64] at h); conv => whnf)
    | omega
    | (simp only [conj, and_true, true_and, Nat.le_eq]; dsimp only; omega)
    | (simp only [Int.toNat_natCast, dflt64, List.length_set, List.length_append, List.length_cons, List.length_nil, getD_set0]; omega)
    | (simp only [Int.toNat_natCast, dflt64, List.length_set, List.length_append, List.length_cons, List.length_nil, getD_set0]; split <;> omega))
  · exact nextQ_intro (j + 1) (by show j + 1 ≤ old.length; omega) (by show old.length - (j + 1) < old.length - j; omega) (by exact rfl) (by exact rfl) ⟨rfl, trivial⟩ ⟨rfl, rfl, rfl, rfl, rfl, enI (by exact rfl) (by rw [k2, if_neg (by assumption)]; omega), rfl, trivial⟩
  · exact nextQ_intro (j + 1) (by show j + 1 ≤ old.length; omega) (by show old.length - (j + 1) < old.length - j; omega) (by exact rfl) (by exact rfl) ⟨rfl, trivial⟩ ⟨rfl, rfl, rfl, rfl, rfl, enI (by exact rfl) (by rw [k2, if_pos (by assumption)]; omega), rfl, trivial⟩
  have hjn : j = old.length := by omega
  subst hjn
  have hz : sumW f (costW net) net.length - ((old.length : Int) - keepC old x old.length) = 0 := by omega
  refine callQ is17 (gImp_of fun _ => flowCheck_ok ((T : Int) + 2) (net.take net.length) f d hN' hc') trivial ?_
  conv => whnf
  refine callQ is15 (gImp_of fun _ => lives_ok) trivial ?_
  conv => whnf
  exact quiet_bool (by exact rfl) (by exact rfl) trivial (by exact rfl) (by simp [pickB, hz])

end Go.Sx
