/- What levels of package flow does. Conditions: none. -/
import Derived.Test.YthilnjignhopkaaEdM4
set_option linter.unusedSimpArgs false
set_option linter.unusedVariables false
set_option maxRecDepth 10000
set_option maxHeartbeats 4000000
namespace Go.Sx
open Go Go.Proofs

/-- Levels are least: no arc that can take more leads lower. -/
def Least (n : Int) (l : List EdT.den) (f d : List Int) : Prop := (d.length : Int) = n ∧ (∀ i, -100000000 ≤ d.getD i 0 ∧ d.getD i 0 ≤ 0) ∧ ∀ a ∈ arcL l, 1 ≤ room l f a → d.getD a.2.2.1.toNat 0 ≤ d.getD a.2.1.toNat 0 + a.2.2.2.1

theorem levels0_ok (n : Int) (l : List EdT.den) (f : List Int) (hN : NetOK n l) (hf : FlowOK l f) :
    FnOK Try.prog 35 [.cell (.ref 0 0)] [(0, netC n l), (1, .arr I64 f)] [] (fun r hs' => (∃ d, r = .tup [.cell (.vec 115), .cell .nilmap, cint 0] ∧ hs' = [(115, .arr I64 d), (0, netC n l), (1, .arr I64 f)] ∧ Least n l f d) ∨
      (∃ M v qs, r = .tup [.cell .nilsl, .cell (.mapr 116), cint v] ∧ hs' = [(116, mapC M), (0, netC n l), (1, .arr I64 f)] ∧ Way l f M v v qs ∧ costS qs < 0)) := by
  have hal : (arcL l).length = 2 * l.length := arcTo_len l l.length
  have hll := hN.2.2.1
  have hn2 := hN.2.1
  have hn0 := hN.1
  refine FnOK.intro gamN_ok fn35 rfl rfl ?_
  intro _ _
  apply Tri.of_vc gamN_ok []
  conv => whnf
  refine Ob.mk ⟨⟨by omega, by show n * 8 ≤ 140737488355328; omega⟩, rfl⟩ ?_
  conv => whnf
  refine Tri.loop (α := BS × Nat) (n := 89) (fun g => [(0, .one (.cell (.ref 0 0))), (5, .one (.cell (.vec 115))), (6, .one (.cell (.mapr 116))), (7, vint g.2)]) (fun g => [(0, netC n l), (1, .arr I64 f), (115, .arr I64 g.1.d), (116, mapC g.1.M)]) []
    (fun g => BF n l f g.1 (g.2 + 1) 0 ∧ g.2 ≤ n.toNat ∧ ∀ v, g.1.ps v < g.2 + 1) (fun g => n.toNat + 1 - g.2) (bs0 n, 0) ⟨bf0 hN, Nat.zero_le _, fun v => Nat.zero_lt_one⟩ rfl ⟨rfl, rfl, rfl, rfl, trivial⟩ ⟨rfl, rfl, rfl, rfl, trivial⟩ rfl ?_
  rintro ⟨s, k⟩ ⟨hB, hk, hps⟩ _ _
  simp only at hB hk hps
  apply Tri.of_vc gamN_ok []
  conv => whnf
  refine Tri.loop (α := BS × Nat × Int) (n := 89) (fun g => [(0, .one (.cell (.ref 0 0))), (5, .one (.cell (.vec 115))), (6, .one (.cell (.mapr 116))), (7, vint k), (8, vint g.2.2), (22, visl ArT (arcL l)), (23, vint (arcL l).length), (24, vint g.2.1)])
    (fun g => [(0, netC n l), (1, .arr I64 f), (115, .arr I64 g.1.d), (116, mapC g.1.M)]) []
    (fun g => BF n l f g.1 (k + 1) g.2.1 ∧ g.2.1 ≤ (arcL l).length ∧ ((g.2.2 = -1 ∧ ∀ v, g.1.ps v < k + 1) ∨ (0 ≤ g.2.2 ∧ g.1.ps g.2.2 = k + 1))) (fun g => (arcL l).length - g.2.1) (s, 0, -1) ⟨hB, Nat.zero_le _, .inl ⟨rfl, hps⟩⟩ rfl
    ⟨rfl, rfl, rfl, rfl, rfl, rfl, rfl, rfl, trivial⟩ ⟨rfl, rfl, rfl, rfl, trivial⟩ rfl ?_
  rintro ⟨s', j, la⟩ ⟨hB', hj, hla⟩ _ _
  simp only at hB' hj hla
  have ha : j < (arcL l).length → (arcL l)[j]? = some ((arcL l).getD j ArT.dflt) := fun hlt => by
    rw [List.getD_eq_getElem?_getD, List.getElem?_eq_getElem hlt]; rfl
  have hmem : j < (arcL l).length → (arcL l).getD j ArT.dflt ∈ arcL l := fun hlt => List.mem_iff_getElem?.2 ⟨j, ha hlt⟩
  have hT : s'.T ≤ 40000 := by
    have h1 := hB'.tle
    have h2 : (k + 1 - 1) * (arcL l).length ≤ 64 * 512 := Nat.mul_le_mul (by omega) (by omega)
    omega
  have hrng : ∀ i, -100000000 ≤ s'.d.getD i 0 ∧ s'.d.getD i 0 ≤ 0 := fun i => by have := hB'.rng i; omega
  have hdl := hB'.len
  have hok : j < (arcL l).length → ArcOK n l.length ((arcL l).getD j ArT.dflt) := fun hlt => arc_ok hN (hmem hlt)
  have r1 := hrng ((arcL l).getD j ArT.dflt).2.1.toNat
  have r2 := hrng ((arcL l).getD j ArT.dflt).2.2.1.toNat
  unfold ArcOK arcP at hok
  apply Tri.of_vc gamN_ok []
  conv => whnf
  repeat' (first
    | (refine Ob.mk ?_ ?_ <;> conv => whnf)
    | (refine Fork2.mk (fun h => ?_) (fun h => ?_) <;> (conv => whnf))
    | (refine Fork.mk (fun h => ?_) (fun h => ?_) <;> (try simp only [pickB, Bool.and_eq_true, Bool.or_eq_true, Bool.and_eq_false_iff, Bool.or_eq_false_iff, Bool.not_eq_true', Bool.not_eq_false', Bool.not_eq_eq_eq_not, Bool.not_true, Bool.not_false, decide_eq_true_eq, decide_eq_false_iff_not, beq_iff_eq, bne_iff_ne, beq_eq_false_iff_ne, bne_eq_false_iff_eq, Int.not_lt, Int.not_le, ge_iff_le, gt_iff_lt, ne_eq, not_and, not_or, not_true_eq_false, not_false_eq_true, reduceCtorEq, or_false, false_or, and_true, true_and, and_false, false_and, or_true, true_or] at h) <;> (try simp only [Int.toNat_natCast, dflt64] at h) <;> (try (exfalso; omega)) <;> (conv => whnf))
    | (refine Tri.draw (id := 9) gamN_ok mixed [0, 0, 3, 7, 15, 31, 31, 95, 255, 511, 31, 1055, 4095, 31, 31, 16415, 57375, 122911, 262143, 524287] 786460 [28, 29, 33, 34, 35, 36, 37, 38, 39, 40, 41, 42, 43, 44, 45] [] (by rfl) (by rfl) (by rfl) ?_; conv => whnf)
    | (refine Tri.draw (id := 10) gamN_ok mixed [0, 0, 2, 0, 0, 16, 56, 120, 0, 256, 1016, 2047, 4095] 6144 [48, 49, 50, 51, 52, 53, 54, 55, 56, 57, 58] [] (by rfl) (by rfl) (by rfl) ?_; conv => whnf)
    | (refine And.intro (by kernel_rfl) ?_; conv => whnf)
    | (intro h; (try simp only [pickB, Bool.and_eq_true, Bool.or_eq_true, Bool.and_eq_false_iff, Bool.or_eq_false_iff, Bool.not_eq_true', Bool.not_eq_false', Bool.not_eq_eq_eq_not, Bool.not_true, Bool.not_false, decide_eq_true_eq, decide_eq_false_iff_not, beq_iff_eq, bne_iff_ne, beq_eq_false_iff_ne, bne_eq_false_iff_eq, Int.not_lt, Int.not_le, ge_iff_le, gt_iff_lt, ne_eq, not_and, not_or, not_true_eq_false, not_false_eq_true, reduceCtorEq, or_false, false_or, and_true, true_and, and_false, false_and, or_true, true_or] at h) <;> (try simp only [Int.toNat_natCast, dflt64] at h); conv => whnf)
    | omega
    | (simp only [conj, and_true, true_and, Nat.le_eq]; dsimp only; omega)
    | (simp only [Int.toNat_natCast, dflt64, List.length_set, List.length_append, List.length_cons, List.length_nil, getD_set0]; omega)
    | (simp only [Int.toNat_natCast, dflt64, List.length_set, List.length_append, List.length_cons, List.length_nil, getD_set0]; split <;> omega))
  · have hlt : j < (arcL l).length := by omega
    have hok' := hok hlt
    refine ⟨is45, [(0, netC n l), (1, .arr I64 f)], vint (room l f ((arcL l).getD j ArT.dflt)), room_ok n l f _ hN hf ⟨hok'.1, hok'.2.1⟩, ⟨rfl, rfl, trivial⟩, ?_⟩
    conv => whnf
    repeat' (first
      | (refine Ob.mk ?_ ?_ <;> conv => whnf)
      | (refine Fork2.mk (fun h => ?_) (fun h => ?_) <;> (conv => whnf))
      | (refine Fork.mk (fun h => ?_) (fun h => ?_) <;> (try simp only [pickB, Bool.and_eq_true, Bool.or_eq_true, Bool.and_eq_false_iff, Bool.or_eq_false_iff, Bool.not_eq_true', Bool.not_eq_false', Bool.not_eq_eq_eq_not, Bool.not_true, Bool.not_false, decide_eq_true_eq, decide_eq_false_iff_not, beq_iff_eq, bne_iff_ne, beq_eq_false_iff_ne, bne_eq_false_iff_eq, Int.not_lt, Int.not_le, ge_iff_le, gt_iff_lt, ne_eq, not_and, not_or, not_true_eq_false, not_false_eq_true, reduceCtorEq, or_false, false_or, and_true, true_and, and_false, false_and, or_true, true_or] at h) <;> (try simp only [Int.toNat_natCast, dflt64] at h) <;> (try (exfalso; omega)) <;> (conv => whnf))
      | (refine Tri.draw (id := 9) gamN_ok mixed [0, 0, 3, 7, 15, 31, 31, 95, 255, 511, 31, 1055, 4095, 31, 31, 16415, 57375, 122911, 262143, 524287] 786460 [28, 29, 33, 34, 35, 36, 37, 38, 39, 40, 41, 42, 43, 44, 45] [] (by rfl) (by rfl) (by rfl) ?_; conv => whnf)
      | (refine Tri.draw (id := 10) gamN_ok mixed [0, 0, 2, 0, 0, 16, 56, 120, 0, 256, 1016, 2047, 4095] 6144 [48, 49, 50, 51, 52, 53, 54, 55, 56, 57, 58] [] (by rfl) (by rfl) (by rfl) ?_; conv => whnf)
      | (refine And.intro (by kernel_rfl) ?_; conv => whnf)
      | (intro h; (try simp only [pickB, Bool.and_eq_true, Bool.or_eq_true, Bool.and_eq_false_iff, Bool.or_eq_false_iff, Bool.not_eq_true', Bool.not_eq_false', Bool.not_eq_eq_eq_not, Bool.not_true, Bool.not_false, decide_eq_true_eq, decide_eq_false_iff_not, beq_iff_eq, bne_iff_ne, beq_eq_false_iff_ne, bne_eq_false_iff_eq, Int.not_lt, Int.not_le, ge_iff_le, gt_iff_lt, ne_eq, not_and, not_or, not_true_eq_false, not_false_eq_true, reduceCtorEq, or_false, false_or, and_true, true_and, and_false, false_and, or_true, true_or] at h) <;> (try simp only [Int.toNat_natCast, dflt64] at h); conv => whnf)
      | omega
      | (simp only [conj, and_true, true_and, Nat.le_eq]; dsimp only; omega)
      | (simp only [Int.toNat_natCast, dflt64, List.length_set, List.length_append, List.length_cons, List.length_nil, getD_set0]; omega)
      | (simp only [Int.toNat_natCast, dflt64, List.length_set, List.length_append, List.length_cons, List.length_nil, getD_set0]; split <;> omega))
    · obtain ⟨q1, q2⟩ : 0 < room l f ((arcL l).getD j ArT.dflt) ∧ s'.d.getD ((arcL l).getD j ArT.dflt).2.1.toNat 0 + ((arcL l).getD j ArT.dflt).2.2.2.1 < s'.d.getD ((arcL l).getD j ArT.dflt).2.2.1.toNat 0 := by assumption
      have hlow := hB'.low hN (by omega) (ha hlt) (by omega) q2
      refine nextQ_intro (bsLow s' (k + 1) ((arcL l).getD j ArT.dflt), j + 1, ((arcL l).getD j ArT.dflt).2.2.1) ⟨hlow, by show j + 1 ≤ _; omega, .inr ⟨hok'.2.2.2.2.1, ?_⟩⟩ (by show (arcL l).length - (j + 1) < (arcL l).length - j; omega) (by exact rfl) (by exact rfl)
        ⟨rfl, rfl, chA (by exact rfl) rfl, chM (by exact rfl) rfl, trivial⟩ ⟨rfl, rfl, rfl, rfl, rfl, rfl, rfl, rfl, trivial⟩
      show (if ((arcL l).getD j ArT.dflt).2.2.1 = ((arcL l).getD j ArT.dflt).2.2.1 then k + 1 else _) = k + 1
      rw [if_pos rfl]
    · have q : room l f ((arcL l).getD j ArT.dflt) ≤ 0 ∨ s'.d.getD ((arcL l).getD j ArT.dflt).2.2.1.toNat 0 ≤ s'.d.getD ((arcL l).getD j ArT.dflt).2.1.toNat 0 + ((arcL l).getD j ArT.dflt).2.2.2.1 := by assumption
      have hskip := hB'.skip (ha hlt) (fun hr => by
        rcases q with q | q
        · omega
        · exact q)
      exact nextQ_intro (s', j + 1, la) ⟨hskip, by show j + 1 ≤ _; omega, hla⟩ (by show (arcL l).length - (j + 1) < (arcL l).length - j; omega) (by exact rfl) (by exact rfl) ⟨rfl, rfl, rfl, rfl, trivial⟩ ⟨rfl, rfl, rfl, rfl, rfl, rfl, rfl, rfl, trivial⟩
  · have hps' : ∀ v, s'.ps v < k + 1 := by
      rcases hla with h | h
      · exact h.2
      · omega
    have hje : j = (arcL l).length := by omega
    subst hje
    refine postQ_ret [(115, .arr I64 s'.d), (0, netC n l), (1, .arr I64 f)] (by exact rfl) (by exact rfl) ⟨rfl, rfl, rfl, trivial⟩ (by exact rfl) (by exact rfl) (.inl ⟨s'.d, rfl, rfl, hdl, hrng, fun a ha hr => hB'.done hps' ha hr⟩)
  · have hje : j = (arcL l).length := by omega
    subst hje
    refine nextQ_intro (s', k + 1) ⟨hB'.pass (by omega), by show k + 1 ≤ _; omega, fun v => by have := hB'.ple v; show s'.ps v < k + 1 + 1; omega⟩ (by show n.toNat + 1 - (k + 1) < n.toNat + 1 - k; omega) (by exact rfl) (by exact rfl) ⟨rfl, rfl, rfl, rfl, trivial⟩ ⟨rfl, rfl, rfl, rfl, trivial⟩
  have hke : k = n.toNat := by omega
  subst hke
  have hps' : s'.ps la = n.toNat + 1 := by
    rcases hla with h | h
    · omega
    · exact h.2
  obtain ⟨qs, hw, hc⟩ := hB'.cycle hN hps'
  refine Tri.loop (α := Nat) (n := 89) (fun i => [(0, .one (.cell (.ref 0 0))), (6, .one (.cell (.mapr 116))), (8, vint (iterN s'.M i la)), (79, vint n), (80, vint i)]) (fun i => [(0, netC n l), (1, .arr I64 f), (116, mapC s'.M)]) []
    (fun i => i ≤ n.toNat) (fun i => n.toNat - i) 0 (Nat.zero_le _) rfl ⟨rfl, rfl, rfl, rfl, rfl, trivial⟩ ⟨rfl, rfl, rfl, trivial⟩ rfl ?_
  intro i hi _ _
  apply Tri.of_vc gamN_ok []
  conv => whnf
  repeat' (first
    | (refine Ob.mk ?_ ?_ <;> conv => whnf)
    | (refine Fork2.mk (fun h => ?_) (fun h => ?_) <;> (conv => whnf))
    | (refine Fork.mk (fun h => ?_) (fun h => ?_) <;> (try simp only [pickB, Bool.and_eq_true, Bool.or_eq_true, Bool.and_eq_false_iff, Bool.or_eq_false_iff, Bool.not_eq_true', Bool.not_eq_false', Bool.not_eq_eq_eq_not, Bool.not_true, Bool.not_false, decide_eq_true_eq, decide_eq_false_iff_not, beq_iff_eq, bne_iff_ne, beq_eq_false_iff_ne, bne_eq_false_iff_eq, Int.not_lt, Int.not_le, ge_iff_le, gt_iff_lt, ne_eq, not_and, not_or, not_true_eq_false, not_false_eq_true, reduceCtorEq, or_false, false_or, and_true, true_and, and_false, false_and, or_true, true_or] at h) <;> (try simp only [Int.toNat_natCast, dflt64] at h) <;> (try (exfalso; omega)) <;> (conv => whnf))
    | (refine Tri.draw (id := 9) gamN_ok mixed [0, 0, 3, 7, 15, 31, 31, 95, 255, 511, 31, 1055, 4095, 31, 31, 16415, 57375, 122911, 262143, 524287] 786460 [28, 29, 33, 34, 35, 36, 37, 38, 39, 40, 41, 42, 43, 44, 45] [] (by rfl) (by rfl) (by rfl) ?_; conv => whnf)
    | (refine Tri.draw (id := 10) gamN_ok mixed [0, 0, 2, 0, 0, 16, 56, 120, 0, 256, 1016, 2047, 4095] 6144 [48, 49, 50, 51, 52, 53, 54, 55, 56, 57, 58] [] (by rfl) (by rfl) (by rfl) ?_; conv => whnf)
    | (refine And.intro (by kernel_rfl) ?_; conv => whnf)
    | (intro h; (try simp only [pickB, Bool.and_eq_true, Bool.or_eq_true, Bool.and_eq_false_iff, Bool.or_eq_false_iff, Bool.not_eq_true', Bool.not_eq_false', Bool.not_eq_eq_eq_not, Bool.not_true, Bool.not_false, decide_eq_true_eq, decide_eq_false_iff_not, beq_iff_eq, bne_iff_ne, beq_eq_false_iff_ne, bne_eq_false_iff_eq, Int.not_lt, Int.not_le, ge_iff_le, gt_iff_lt, ne_eq, not_and, not_or, not_true_eq_false, not_false_eq_true, reduceCtorEq, or_false, false_or, and_true, true_and, and_false, false_and, or_true, true_or] at h) <;> (try simp only [Int.toNat_natCast, dflt64] at h); conv => whnf)
    | omega
    | (simp only [conj, and_true, true_and, Nat.le_eq]; dsimp only; omega)
    | (simp only [Int.toNat_natCast, dflt64, List.length_set, List.length_append, List.length_cons, List.length_nil, getD_set0]; omega)
    | (simp only [Int.toNat_natCast, dflt64, List.length_set, List.length_append, List.length_cons, List.length_nil, getD_set0]; split <;> omega))
  · exact nextQ_intro (i + 1) (by show i + 1 ≤ n.toNat; omega) (by show n.toNat - (i + 1) < n.toNat - i; omega) (by exact rfl) (by exact rfl) ⟨rfl, rfl, rfl, trivial⟩ ⟨rfl, rfl, rfl, rfl, rfl, trivial⟩
  · have hie : i = n.toNat := by omega
    subst hie
    exact postQ_ret [(116, mapC s'.M), (0, netC n l), (1, .arr I64 f)] (by exact rfl) (by exact rfl) ⟨rfl, rfl, rfl, trivial⟩ (by exact rfl) (by exact rfl) (.inr ⟨s'.M, _, qs, rfl, rfl, hw, hc⟩)

theorem levels_ok (n : Int) (l : List EdT.den) (f : List Int) (hN : NetOK n l) (hf : FlowOK l f) :
    FnOK Try.prog 35 [.cell (.ref 0 0)] [(0, netC n l), (1, .arr I64 f)] [] (fun r hs' => (∃ d, r = .tup [cisl I64 d, .cell .nilmap, cint 0] ∧ hs' = [(0, netC n l), (1, .arr I64 f)] ∧ Least n l f d) ∨
      (∃ M v qs, r = .tup [.cell .nilsl, .cell (.mapr 116), cint v] ∧ hs' = [(116, mapC M), (0, netC n l), (1, .arr I64 f)] ∧ Way l f M v v qs ∧ costS qs < 0)) := by
  refine FnOK.freezeOr 115 I64 (levels0_ok n l f hN hf) ?_
  rintro r hs' (⟨d, rfl, rfl, h⟩ | ⟨M, v, qs, rfl, rfl, h⟩)
  · exact .inl ⟨d, rfl, rfl, rfl, .inl ⟨d, rfl, rfl, h⟩⟩
  · exact .inr ⟨_, fun _ _ _ _ h => h, rfl, .inr ⟨M, v, qs, rfl, rfl, h⟩⟩

end Go.Sx
