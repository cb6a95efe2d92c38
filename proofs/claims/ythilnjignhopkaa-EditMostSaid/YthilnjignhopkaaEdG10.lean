/- What flow.Least does, where there is a circulation. Conditions: none. -/
import Derived.Test.YthilnjignhopkaaEdG9
set_option linter.unusedSimpArgs false
set_option linter.unusedVariables false
set_option maxRecDepth 10000
set_option maxHeartbeats 4000000
namespace Go.Sx
open Go Go.Proofs

def costW (l : List EdT.den) (i : Nat) : Int := (l.getD i EdT.dflt).2.2.2.2

theorem cost_low {n : Int} {l : List EdT.den} {f : List Int} (hN : NetOK n l) (hf : FlowOK l f) (m : Nat) (hm : m ≤ l.length) : -1000000 * (m : Int) ≤ sumW f (costW l) m := by
  induction m with
  | zero => simp [sumW]
  | succ m ih =>
    have h1 := ih (by omega)
    have h2 := flow_range hN hf m
    have h3 := hN.2.2.2 m (by omega)
    unfold EdOK EdOK' at h3
    simp only [sumW]
    unfold costW
    have h4 : f.getD m 0 * (-1000) ≤ f.getD m 0 * (l.getD m EdT.dflt).2.2.2.2 := Int.mul_le_mul_of_nonneg_left h3.2.2.2.2.2.2.2.1 h2.1
    unfold costW at h1
    omega

theorem arcSum_cost {l : List EdT.den} : ∀ {ps : List ArT.den}, (∀ a ∈ ps, a ∈ arcL l) → arcSum (costW l) ps = costS ps
  | [], _ => rfl
  | a :: ps, h => by
    unfold arcSum costS costW
    rw [arc_cost (h a (by simp))]
    have := arcSum_cost (fun b hb => h b (by simp [hb]) : ∀ b ∈ ps, b ∈ arcL l)
    unfold costW at this
    omega

theorem lo_flow {n : Int} {l : List EdT.den} (hN : NetOK n l) : FlowOK l (loTo l l.length) := by
  refine ⟨loTo_len l l.length, fun i hi => ?_⟩
  have h3 := hN.2.2.2 i hi
  unfold EdOK EdOK' at h3
  have : (loTo l l.length).getD i 0 = (l.getD i EdT.dflt).2.2.1 := by
    rw [List.getD_eq_getElem?_getD]
    simp [loTo, hi]
  rw [this]
  unfold rangeP
  omega

def netAt (n : Int) (l : List EdT.den) : Chunk := .cells [.int .i64 n, .isl EdT l, .vec 112, .isl ArT (arcL l)]

theorem least0_ok (n : Int) (l : List EdT.den) (hN : NetOK n l) {g : List Int} (hg : FlowOK l g) (hgb : Balanced n.toNat l g) :
    FnOK Try.prog 23 [cint n, cisl EdT l] [] [] (fun r hs' => ∃ f d, r = .tup [.agg [.vec 112, .isl I64 d], .cell .nilsl, cint 0] ∧ hs' = [(112, .arr I64 f)] ∧ FlowOK l f ∧ Balanced n.toNat l f ∧ Least n l f d) := by
  have hll := hN.2.2.1
  refine FnOK.intro gamN_ok fn23 rfl rfl ?_
  intro _ _
  apply Tri.of_vc gamN_ok []
  conv => whnf
  refine callQ is28 (flowGiven_ok n l hN) trivial ?_
  conv => whnf
  repeat' (first
    | (refine Ob.mk ?_ ?_ <;> conv => whnf)
    | (refine Fork2.mk (fun h => ?_) (fun h => ?_) <;> (conv => whnf))
    | (refine Fork.mk (fun h => ?_) (fun h => ?_) <;> (try simp only [pickB, Bool.and_eq_true, Bool.or_eq_true, Bool.and_eq_false_iff, Bool.or_eq_false_iff, Bool.not_eq_true', Bool.not_eq_false', Bool.not_eq_eq_eq_not, Bool.not_true, Bool.not_false, decide_eq_true_eq, decide_eq_false_iff_not, beq_iff_eq, bne_iff_ne, beq_eq_false_iff_ne, bne_eq_false_iff_eq, Int.not_lt, Int.not_le, ge_iff_le, gt_iff_lt, ne_eq, not_and, not_or, not_true_eq_false, not_false_eq_true, reduceCtorEq, or_false, false_or, and_true, true_and, and_false, false_and, or_true, true_or] at h) <;> (try simp only [Int.toNat_natCast, dflt64] at h) <;> (try (exfalso; omega)) <;> (conv => whnf))
    | (refine And.intro (by kernel_rfl) ?_; conv => whnf)
    | (intro h; (try simp only [pickB, Bool.and_eq_true, Bool.or_eq_true, Bool.and_eq_false_iff, Bool.or_eq_false_iff, Bool.not_eq_true', Bool.not_eq_false', Bool.not_eq_eq_eq_not, Bool.not_true, Bool.not_false, decide_eq_true_eq, decide_eq_false_iff_not, beq_iff_eq, bne_iff_ne, beq_eq_false_iff_ne, bne_eq_false_iff_eq, Int.not_lt, Int.not_le, ge_iff_le, gt_iff_lt, ne_eq, not_and, not_or, not_true_eq_false, not_false_eq_true, reduceCtorEq, or_false, false_or, and_true, true_and, and_false, false_and, or_true, true_or] at h) <;> (try simp only [Int.toNat_natCast, dflt64] at h); conv => whnf)
    | omega
    | (simp only [conj, and_true, true_and, Nat.le_eq]; dsimp only; omega)
    | (simp only [Int.toNat_natCast, dflt64, List.length_set, List.length_append, List.length_cons, List.length_nil, getD_set0]; omega)
    | (simp only [Int.toNat_natCast, dflt64, List.length_set, List.length_append, List.length_cons, List.length_nil, getD_set0]; split <;> omega))
  refine callF is33 (made_ok n l hN) trivial ?_
  rintro r hs' ⟨rfl, rfl⟩ _ _
  conv => whnf
  refine callF is34 (FnOK.ren (renF_inj (l := [114, 112]) (off := 100000) rfl rfl) (balance_ok n l _ hN (lo_flow hN) hg hgb)) ⟨rfl, rfl, trivial⟩ ?_
  rintro r hs' ⟨r0, hs0, ⟨f0, rfl, rfl, hf0, hb0⟩, rfl, rfl⟩ _ _
  conv => whnf
  repeat' (first
    | (refine Ob.mk ?_ ?_ <;> conv => whnf)
    | (refine Fork2.mk (fun h => ?_) (fun h => ?_) <;> (conv => whnf))
    | (refine Fork.mk (fun h => ?_) (fun h => ?_) <;> (try simp only [pickB, Bool.and_eq_true, Bool.or_eq_true, Bool.and_eq_false_iff, Bool.or_eq_false_iff, Bool.not_eq_true', Bool.not_eq_false', Bool.not_eq_eq_eq_not, Bool.not_true, Bool.not_false, decide_eq_true_eq, decide_eq_false_iff_not, beq_iff_eq, bne_iff_ne, beq_eq_false_iff_ne, bne_eq_false_iff_eq, Int.not_lt, Int.not_le, ge_iff_le, gt_iff_lt, ne_eq, not_and, not_or, not_true_eq_false, not_false_eq_true, reduceCtorEq, or_false, false_or, and_true, true_and, and_false, false_and, or_true, true_or] at h) <;> (try simp only [Int.toNat_natCast, dflt64] at h) <;> (try (exfalso; omega)) <;> (conv => whnf))
    | (refine And.intro (by kernel_rfl) ?_; conv => whnf)
    | (intro h; (try simp only [pickB, Bool.and_eq_true, Bool.or_eq_true, Bool.and_eq_false_iff, Bool.or_eq_false_iff, Bool.not_eq_true', Bool.not_eq_false', Bool.not_eq_eq_eq_not, Bool.not_true, Bool.not_false, decide_eq_true_eq, decide_eq_false_iff_not, beq_iff_eq, bne_iff_ne, beq_eq_false_iff_ne, bne_eq_false_iff_eq, Int.not_lt, Int.not_le, ge_iff_le, gt_iff_lt, ne_eq, not_and, not_or, not_true_eq_false, not_false_eq_true, reduceCtorEq, or_false, false_or, and_true, true_and, and_false, false_and, or_true, true_or] at h) <;> (try simp only [Int.toNat_natCast, dflt64] at h); conv => whnf)
    | omega
    | (simp only [conj, and_true, true_and, Nat.le_eq]; dsimp only; omega)
    | (simp only [Int.toNat_natCast, dflt64, List.length_set, List.length_append, List.length_cons, List.length_nil, getD_set0]; omega)
    | (simp only [Int.toNat_natCast, dflt64, List.length_set, List.length_append, List.length_cons, List.length_nil, getD_set0]; split <;> omega))
  refine Tri.loop (α := List Int) (n := 48) (fun f => [(4, .one (.cell (.ref 104 0))), (8, .one (.cell (.ref 114 0)))]) (fun f => [(104, .cells [.nilsl, .nilsl]), (114, netAt n l), (112, .arr I64 f)]) []
    (fun f => FlowOK l f ∧ Balanced n.toNat l f) (fun f => (sumW f (costW l) l.length + 1000000 * l.length).toNat) f0 ⟨hf0, hb0⟩ rfl ⟨rfl, rfl, trivial⟩ ⟨rfl, rfl, rfl, trivial⟩ rfl ?_
  rintro f ⟨hf, hb⟩ _ _
  apply Tri.of_vc gamN_ok []
  conv => whnf
  refine callF is35 (FnOK.ren (renF_inj (l := [114, 112]) (off := 100000) rfl rfl) (levels_ok n l f hN hf)) ⟨rfl, rfl, trivial⟩ ?_
  rintro r hs' ⟨r0, hs0, (⟨d, rfl, rfl, hL⟩ | ⟨M, v, qs, rfl, rfl, hw, hc⟩), rfl, rfl⟩ _ _
  · conv => whnf
    repeat' (first
      | (refine Ob.mk ?_ ?_ <;> conv => whnf)
      | (refine Fork2.mk (fun h => ?_) (fun h => ?_) <;> (conv => whnf))
      | (refine Fork.mk (fun h => ?_) (fun h => ?_) <;> (try simp only [pickB, Bool.and_eq_true, Bool.or_eq_true, Bool.and_eq_false_iff, Bool.or_eq_false_iff, Bool.not_eq_true', Bool.not_eq_false', Bool.not_eq_eq_eq_not, Bool.not_true, Bool.not_false, decide_eq_true_eq, decide_eq_false_iff_not, beq_iff_eq, bne_iff_ne, beq_eq_false_iff_ne, bne_eq_false_iff_eq, Int.not_lt, Int.not_le, ge_iff_le, gt_iff_lt, ne_eq, not_and, not_or, not_true_eq_false, not_false_eq_true, reduceCtorEq, or_false, false_or, and_true, true_and, and_false, false_and, or_true, true_or] at h) <;> (try simp only [Int.toNat_natCast, dflt64] at h) <;> (try (exfalso; omega)) <;> (conv => whnf))
      | (refine And.intro (by kernel_rfl) ?_; conv => whnf)
      | (intro h; (try simp only [pickB, Bool.and_eq_true, Bool.or_eq_true, Bool.and_eq_false_iff, Bool.or_eq_false_iff, Bool.not_eq_true', Bool.not_eq_false', Bool.not_eq_eq_eq_not, Bool.not_true, Bool.not_false, decide_eq_true_eq, decide_eq_false_iff_not, beq_iff_eq, bne_iff_ne, beq_eq_false_iff_ne, bne_eq_false_iff_eq, Int.not_lt, Int.not_le, ge_iff_le, gt_iff_lt, ne_eq, not_and, not_or, not_true_eq_false, not_false_eq_true, reduceCtorEq, or_false, false_or, and_true, true_and, and_false, false_and, or_true, true_or] at h) <;> (try simp only [Int.toNat_natCast, dflt64] at h); conv => whnf)
      | omega
      | (simp only [conj, and_true, true_and, Nat.le_eq]; dsimp only; omega)
      | (simp only [Int.toNat_natCast, dflt64, List.length_set, List.length_append, List.length_cons, List.length_nil, getD_set0]; omega)
      | (simp only [Int.toNat_natCast, dflt64, List.length_set, List.length_append, List.length_cons, List.length_nil, getD_set0]; split <;> omega))
    exact postQ_ret [(112, .arr I64 f)] (by exact rfl) (by exact rfl) ⟨rfl, trivial⟩ (by exact rfl) (by exact rfl) ⟨f, d, rfl, rfl, hf, hb, hL⟩
  · have hfr := flow_range hN hf
    obtain ⟨p1, p2, p3, p4, p5⟩ := hw.push hN hf (m := 1000) (by decide)
    conv => whnf
    repeat' (first
      | (refine Ob.mk ?_ ?_ <;> conv => whnf)
      | (refine Fork2.mk (fun h => ?_) (fun h => ?_) <;> (conv => whnf))
      | (refine Fork.mk (fun h => ?_) (fun h => ?_) <;> (try simp only [pickB, Bool.and_eq_true, Bool.or_eq_true, Bool.and_eq_false_iff, Bool.or_eq_false_iff, Bool.not_eq_true', Bool.not_eq_false', Bool.not_eq_eq_eq_not, Bool.not_true, Bool.not_false, decide_eq_true_eq, decide_eq_false_iff_not, beq_iff_eq, bne_iff_ne, beq_eq_false_iff_ne, bne_eq_false_iff_eq, Int.not_lt, Int.not_le, ge_iff_le, gt_iff_lt, ne_eq, not_and, not_or, not_true_eq_false, not_false_eq_true, reduceCtorEq, or_false, false_or, and_true, true_and, and_false, false_and, or_true, true_or] at h) <;> (try simp only [Int.toNat_natCast, dflt64] at h) <;> (try (exfalso; omega)) <;> (conv => whnf))
      | (refine And.intro (by kernel_rfl) ?_; conv => whnf)
      | (intro h; (try simp only [pickB, Bool.and_eq_true, Bool.or_eq_true, Bool.and_eq_false_iff, Bool.or_eq_false_iff, Bool.not_eq_true', Bool.not_eq_false', Bool.not_eq_eq_eq_not, Bool.not_true, Bool.not_false, decide_eq_true_eq, decide_eq_false_iff_not, beq_iff_eq, bne_iff_ne, beq_eq_false_iff_ne, bne_eq_false_iff_eq, Int.not_lt, Int.not_le, ge_iff_le, gt_iff_lt, ne_eq, not_and, not_or, not_true_eq_false, not_false_eq_true, reduceCtorEq, or_false, false_or, and_true, true_and, and_false, false_and, or_true, true_or] at h) <;> (try simp only [Int.toNat_natCast, dflt64] at h); conv => whnf)
      | omega
      | (simp only [conj, and_true, true_and, Nat.le_eq]; dsimp only; omega)
      | (simp only [Int.toNat_natCast, dflt64, List.length_set, List.length_append, List.length_cons, List.length_nil, getD_set0]; omega)
      | (simp only [Int.toNat_natCast, dflt64, List.length_set, List.length_append, List.length_cons, List.length_nil, getD_set0]; split <;> omega))
    refine callF is36 (FnOK.ren (renF_inj (l := [114, 112, 100116]) (off := 1000000) rfl rfl) (push_ok n l f M v v 1000 qs hN hf hfr hw.path (fun a ha => arc_ok hN (hw.arcs a ha)) ⟨by omega, p3⟩ hw.len)) ⟨rfl, rfl, rfl, trivial⟩ ?_
    rintro r hs' ⟨r0, hs0, ⟨rfl, rfl⟩, rfl, rfl⟩ _ _
    conv => whnf
    refine nextQ_intro (addFlow (minRoom l f 1000 qs) f qs) ⟨p4, ?_⟩ ?_ (by exact rfl) (by exact rfl) ⟨rfl, rfl, rfl, trivial⟩ ⟨rfl, rfl, trivial⟩
    · intro w
      by_cases hw' : w < n.toNat
      · rw [bal_sum _ _ _ w hw', p5, path_bw w hw.path hw.arcs hw.to, hb.sum w hw']
        simp
      · exact getD_out (by rw [balTo_len]; omega)
    · have h1 := p5 (costW l)
      rw [arcSum_cost hw.arcs] at h1
      have h2 := cost_low hN p4 l.length (Nat.le_refl _)
      have h3 : minRoom l f 1000 qs * costS qs ≤ costS qs := by
        have := Int.mul_le_mul_of_nonpos_right p1 (show costS qs ≤ 0 by omega)
        omega
      show (sumW (addFlow (minRoom l f 1000 qs) f qs) (costW l) l.length + 1000000 * l.length).toNat < (sumW f (costW l) l.length + 1000000 * l.length).toNat
      omega

theorem least_ok (n : Int) (l : List EdT.den) (hN : NetOK n l) {g : List Int} (hg : FlowOK l g) (hgb : Balanced n.toNat l g) :
    FnOK Try.prog 23 [cint n, cisl EdT l] [] [] (fun r hs' => ∃ f d, r = .tup [.agg [.isl I64 f, .isl I64 d], .cell .nilsl, cint 0] ∧ hs' = [] ∧ FlowOK l f ∧ Balanced n.toNat l f ∧ Least n l f d) := by
  refine FnOK.freeze 112 I64 (least0_ok n l hN hg hgb) ?_
  rintro r hs' ⟨f, d, rfl, rfl, h⟩
  exact ⟨f, rfl, rfl, rfl, f, d, rfl, rfl, h⟩

end Go.Sx
