/- What the checks of package flow do, where the network is in order. Conditions: none. -/
import Derived.Test.YthilnjignhopkaaEdG2
set_option linter.unusedSimpArgs false
set_option linter.unusedVariables false
set_option maxRecDepth 10000
set_option maxHeartbeats 4000000
namespace Go.Sx
open Go Go.Proofs

def edV (e : EdT.den) : V0 := .agg [.int .i64 e.1, .int .i64 e.2.1, .int .i64 e.2.2.1, .int .i64 e.2.2.2.1, .int .i64 e.2.2.2.2]

theorem node_ok (n v : Int) (h : 0 ≤ v ∧ v < n) : Quiet Try.prog 39 [cint v, .cell (.ref 0 0)] [(0, .cells [.int .i64 n])] (vbool true) := by
  refine FnOK.intro gamN_ok fn39 rfl rfl ?_
  intro _ _
  apply Tri.of_vc gamN_ok []
  conv => whnf
  refine quiet_bool (by exact rfl) (by exact rfl) ⟨rfl, trivial⟩ (by exact rfl) ?_
  simp [pickB]; omega

def wrongH (n : Int) : List (Nat × Chunk) := [(0, .cells [.clo 39 [1]]), (1, .cells [.int .i64 n])]

theorem wrong_ok (n : Int) (e : EdT.den) (h : EdOK n e) : Quiet Try.prog 40 [edV e, .cell (.ref 0 0)] (wrongH n) (vbool false) := by
  unfold EdOK EdOK' at h
  have h1 : Quiet Try.prog 39 [cint e.1, .cell (.ref 1 0)] [(1, .cells [.int .i64 n])] (vbool true) := Quiet.ren [1] (node_ok n e.1 (by omega)) rfl rfl rfl rfl rfl
  have h2 : Quiet Try.prog 39 [cint e.2.1, .cell (.ref 1 0)] [(1, .cells [.int .i64 n])] (vbool true) := Quiet.ren [1] (node_ok n e.2.1 (by omega)) rfl rfl rfl rfl rfl
  refine FnOK.intro gamN_ok fn40 rfl rfl ?_
  intro _ _
  apply Tri.of_vc gamN_ok []
  conv => whnf
  refine callQ is39 h1 ⟨rfl, trivial⟩ ?_
  conv => whnf
  refine callQ is39 (hs := [(1, .cells [.int .i64 n])]) (r := vbool true) ?_ ⟨rfl, trivial⟩ ?_
  · conv => whnf
    intro _
    exact h2
  conv => whnf
  refine quiet_bool (by exact rfl) (by exact rfl) ⟨rfl, rfl, trivial⟩ (by exact rfl) ?_
  simp [pickB]
  omega

theorem idxEd_ok (n : Int) (l : List EdT.den) (hl : l.length ≤ 100000) (h : ∀ i, i < l.length → EdOK n (l.getD i EdT.dflt)) : Quiet Try.prog 49 [cisl EdT l, .cell (.clo 40 [0])] (wrongH n) (vint (-1)) := by
  refine FnOK.intro gamN_ok fn49 rfl rfl ?_
  intro _ _
  apply Tri.of_vc gamN_ok []
  conv => whnf
  refine Tri.loop (α := Nat) (n := 19) (fun k => [(0, visl EdT l), (1, .one (.cell (.clo 40 [0]))), (7, vint l.length), (8, vint k)]) (fun k => wrongH n) [] (fun k => k ≤ l.length) (fun k => l.length - k) 0 (Nat.zero_le _) rfl ⟨rfl, rfl, rfl, rfl, trivial⟩ ⟨rfl, rfl, trivial⟩ rfl ?_
  intro k hk _ _
  have he := h k
  apply Tri.of_vc gamN_ok []
  conv => whnf
  repeat' (first
    | (refine Ob.mk ?_ ?_ <;> conv => whnf)
    | (refine Fork2.mk (fun h => ?_) (fun h => ?_) <;> (conv => whnf))
    | (refine Fork.mk (fun h => ?_) (fun h => ?_) <;> (try simp only [pickB, Bool.and_eq_true, Bool.or_eq_true, Bool.and_eq_false_iff, Bool.or_eq_false_iff, Bool.not_eq_true', Bool.not_eq_false', Bool.not_eq_eq_eq_not, Bool.not_true, Bool.not_false, decide_eq_true_eq, decide_eq_false_iff_not, beq_iff_eq, bne_iff_ne, beq_eq_false_iff_ne, bne_eq_false_iff_eq, Int.not_lt, Int.not_le, ge_iff_le, gt_iff_lt, ne_eq, not_and, not_or, not_true_eq_false, not_false_eq_true, reduceCtorEq, or_false, false_or, and_true, true_and, and_false, false_and, or_true, true_or] at h) <;> (try simp only [Int.toNat_natCast, dflt64] at h) <;> (try (exfalso; omega)) <;> (conv => whnf))
    | (refine And.intro (by kernel_rfl) ?_; conv => whnf)
    | (intro h; (try simp only [pickB, Bool.and_eq_true, Bool.or_eq_true, Bool.and_eq_false_iff, Bool.or_eq_false_iff, Bool.not_eq_true', Bool.not_eq_false', Bool.not_eq_eq_eq_not, Bool.not_true, Bool.not_false, decide_eq_true_eq, decide_eq_false_iff_not, beq_iff_eq, bne_iff_ne, beq_eq_false_iff_ne, bne_eq_false_iff_eq, Int.not_lt, Int.not_le, ge_iff_le, gt_iff_lt, ne_eq, not_and, not_or, not_true_eq_false, not_false_eq_true, reduceCtorEq, or_false, false_or, and_true, true_and, and_false, false_and, or_true, true_or] at h) <;> (try simp only [Int.toNat_natCast, dflt64] at h); conv => whnf)
    | omega
    | (simp only [conj, and_true, true_and, Nat.le_eq]; dsimp only; omega)
    | (simp only [Int.toNat_natCast, dflt64, List.length_set, List.length_append, List.length_cons, List.length_nil, getD_set0]; omega)
    | (simp only [Int.toNat_natCast, dflt64, List.length_set, List.length_append, List.length_cons, List.length_nil, getD_set0]; split <;> omega))
  · refine callQ is40 (wrong_ok n (l.getD k EdT.dflt) (he (by omega))) ⟨rfl, rfl, trivial⟩ ?_
    conv => whnf
    repeat' (first
      | (refine Ob.mk ?_ ?_ <;> conv => whnf)
      | (refine Fork2.mk (fun h => ?_) (fun h => ?_) <;> (conv => whnf))
      | (refine Fork.mk (fun h => ?_) (fun h => ?_) <;> (try simp only [pickB, Bool.and_eq_true, Bool.or_eq_true, Bool.and_eq_false_iff, Bool.or_eq_false_iff, Bool.not_eq_true', Bool.not_eq_false', Bool.not_eq_eq_eq_not, Bool.not_true, Bool.not_false, decide_eq_true_eq, decide_eq_false_iff_not, beq_iff_eq, bne_iff_ne, beq_eq_false_iff_ne, bne_eq_false_iff_eq, Int.not_lt, Int.not_le, ge_iff_le, gt_iff_lt, ne_eq, not_and, not_or, not_true_eq_false, not_false_eq_true, reduceCtorEq, or_false, false_or, and_true, true_and, and_false, false_and, or_true, true_or] at h) <;> (try simp only [Int.toNat_natCast, dflt64] at h) <;> (try (exfalso; omega)) <;> (conv => whnf))
      | (refine And.intro (by kernel_rfl) ?_; conv => whnf)
      | (intro h; (try simp only [pickB, Bool.and_eq_true, Bool.or_eq_true, Bool.and_eq_false_iff, Bool.or_eq_false_iff, Bool.not_eq_true', Bool.not_eq_false', Bool.not_eq_eq_eq_not, Bool.not_true, Bool.not_false, decide_eq_true_eq, decide_eq_false_iff_not, beq_iff_eq, bne_iff_ne, beq_eq_false_iff_ne, bne_eq_false_iff_eq, Int.not_lt, Int.not_le, ge_iff_le, gt_iff_lt, ne_eq, not_and, not_or, not_true_eq_false, not_false_eq_true, reduceCtorEq, or_false, false_or, and_true, true_and, and_false, false_and, or_true, true_or] at h) <;> (try simp only [Int.toNat_natCast, dflt64] at h); conv => whnf)
      | omega
      | (simp only [conj, and_true, true_and, Nat.le_eq]; dsimp only; omega)
      | (simp only [Int.toNat_natCast, dflt64, List.length_set, List.length_append, List.length_cons, List.length_nil, getD_set0]; omega)
      | (simp only [Int.toNat_natCast, dflt64, List.length_set, List.length_append, List.length_cons, List.length_nil, getD_set0]; split <;> omega))
    exact nextQ_intro (k + 1) (by show k + 1 ≤ l.length; omega) (by show l.length - (k + 1) < l.length - k; omega) (by exact rfl) (by exact rfl) ⟨rfl, rfl, trivial⟩ ⟨rfl, rfl, rfl, rfl, trivial⟩
  · exact quiet_int (by exact rfl) (by exact rfl) ⟨rfl, rfl, trivial⟩ (by exact rfl) rfl

theorem contEd_ok (n : Int) (l : List EdT.den) (hl : l.length ≤ 100000) (h : ∀ i, i < l.length → EdOK n (l.getD i EdT.dflt)) : Quiet Try.prog 41 [cisl EdT l, .cell (.clo 40 [0])] (wrongH n) (vbool false) := by
  refine FnOK.intro gamN_ok fn41 rfl rfl ?_
  intro _ _
  apply Tri.of_vc gamN_ok []
  conv => whnf
  refine callQ is49 (idxEd_ok n l hl h) ⟨rfl, rfl, trivial⟩ ?_
  conv => whnf
  exact quiet_bool (by exact rfl) (by exact rfl) ⟨rfl, rfl, trivial⟩ (by exact rfl) rfl

theorem flowGiven_ok (n : Int) (l : List EdT.den) (h : NetOK n l) : Quiet Try.prog 28 [cint n, cisl EdT l] [] (vint 0) := by
  obtain ⟨h1, h2, h3, h4⟩ := h
  refine FnOK.intro gamN_ok fn28 rfl rfl ?_
  intro _ _
  apply Tri.of_vc gamN_ok []
  conv => whnf
  repeat' (first
    | (refine Ob.mk ?_ ?_ <;> conv => whnf)
    | (refine Fork2.mk (fun h => ?_) (fun h => ?_) <;> (conv => whnf))
    | (refine Fork.mk (fun h => ?_) (fun h => ?_) <;> (try simp only [pickB, Bool.and_eq_true, Bool.or_eq_true, Bool.and_eq_false_iff, Bool.or_eq_false_iff, Bool.not_eq_true', Bool.not_eq_false', Bool.not_eq_eq_eq_not, Bool.not_true, Bool.not_false, decide_eq_true_eq, decide_eq_false_iff_not, beq_iff_eq, bne_iff_ne, beq_eq_false_iff_ne, bne_eq_false_iff_eq, Int.not_lt, Int.not_le, ge_iff_le, gt_iff_lt, ne_eq, not_and, not_or, not_true_eq_false, not_false_eq_true, reduceCtorEq, or_false, false_or, and_true, true_and, and_false, false_and, or_true, true_or] at h) <;> (try simp only [Int.toNat_natCast, dflt64] at h) <;> (try (exfalso; omega)) <;> (conv => whnf))
    | (refine And.intro (by kernel_rfl) ?_; conv => whnf)
    | (intro h; (try simp only [pickB, Bool.and_eq_true, Bool.or_eq_true, Bool.and_eq_false_iff, Bool.or_eq_false_iff, Bool.not_eq_true', Bool.not_eq_false', Bool.not_eq_eq_eq_not, Bool.not_true, Bool.not_false, decide_eq_true_eq, decide_eq_false_iff_not, beq_iff_eq, bne_iff_ne, beq_eq_false_iff_ne, bne_eq_false_iff_eq, Int.not_lt, Int.not_le, ge_iff_le, gt_iff_lt, ne_eq, not_and, not_or, not_true_eq_false, not_false_eq_true, reduceCtorEq, or_false, false_or, and_true, true_and, and_false, false_and, or_true, true_or] at h) <;> (try simp only [Int.toNat_natCast, dflt64] at h); conv => whnf)
    | omega
    | (simp only [conj, and_true, true_and, Nat.le_eq]; dsimp only; omega)
    | (simp only [Int.toNat_natCast, dflt64, List.length_set, List.length_append, List.length_cons, List.length_nil, getD_set0]; omega)
    | (simp only [Int.toNat_natCast, dflt64, List.length_set, List.length_append, List.length_cons, List.length_nil, getD_set0]; split <;> omega))
  refine callQ (hs := [(105, .cells [.clo 39 [102]]), (102, .cells [.int .i64 n])]) (r := vbool false) is41 ?_ ⟨rfl, rfl, trivial⟩ ?_
  · conv => whnf
    intro _
    exact Quiet.ren [105, 102] (contEd_ok n l (by omega) h4) rfl rfl rfl rfl rfl
  conv => whnf
  repeat' (first
    | (refine Ob.mk ?_ ?_ <;> conv => whnf)
    | (refine Fork2.mk (fun h => ?_) (fun h => ?_) <;> (conv => whnf))
    | (refine Fork.mk (fun h => ?_) (fun h => ?_) <;> (try simp only [pickB, Bool.and_eq_true, Bool.or_eq_true, Bool.and_eq_false_iff, Bool.or_eq_false_iff, Bool.not_eq_true', Bool.not_eq_false', Bool.not_eq_eq_eq_not, Bool.not_true, Bool.not_false, decide_eq_true_eq, decide_eq_false_iff_not, beq_iff_eq, bne_iff_ne, beq_eq_false_iff_ne, bne_eq_false_iff_eq, Int.not_lt, Int.not_le, ge_iff_le, gt_iff_lt, ne_eq, not_and, not_or, not_true_eq_false, not_false_eq_true, reduceCtorEq, or_false, false_or, and_true, true_and, and_false, false_and, or_true, true_or] at h) <;> (try simp only [Int.toNat_natCast, dflt64] at h) <;> (try (exfalso; omega)) <;> (conv => whnf))
    | (refine And.intro (by kernel_rfl) ?_; conv => whnf)
    | (intro h; (try simp only [pickB, Bool.and_eq_true, Bool.or_eq_true, Bool.and_eq_false_iff, Bool.or_eq_false_iff, Bool.not_eq_true', Bool.not_eq_false', Bool.not_eq_eq_eq_not, Bool.not_true, Bool.not_false, decide_eq_true_eq, decide_eq_false_iff_not, beq_iff_eq, bne_iff_ne, beq_eq_false_iff_ne, bne_eq_false_iff_eq, Int.not_lt, Int.not_le, ge_iff_le, gt_iff_lt, ne_eq, not_and, not_or, not_true_eq_false, not_false_eq_true, reduceCtorEq, or_false, false_or, and_true, true_and, and_false, false_and, or_true, true_or] at h) <;> (try simp only [Int.toNat_natCast, dflt64] at h); conv => whnf)
    | omega
    | (simp only [conj, and_true, true_and, Nat.le_eq]; dsimp only; omega)
    | (simp only [Int.toNat_natCast, dflt64, List.length_set, List.length_append, List.length_cons, List.length_nil, getD_set0]; omega)
    | (simp only [Int.toNat_natCast, dflt64, List.length_set, List.length_append, List.length_cons, List.length_nil, getD_set0]; split <;> omega))
  exact quiet_int (by exact rfl) (by exact rfl) trivial (by exact rfl) rfl

/-- The tests of numbers: closures that say no. -/
theorem idxI_ok (f : Nat) (l : List Int) (hl : l.length ≤ 100000) (hf : IsFn Try.prog f) (h : ∀ i, i < l.length → Quiet Try.prog f [cint (l.getD i 0)] [] (vbool false)) : Quiet Try.prog 42 [cisl I64 l, .cell (.clo f [])] [] (vint (-1)) := by
  refine FnOK.intro gamN_ok fn42 rfl rfl ?_
  intro _ _
  apply Tri.of_vc gamN_ok []
  conv => whnf
  refine Tri.loop (α := Nat) (n := 19) (fun k => [(0, visl I64 l), (1, .one (.cell (.clo f []))), (7, vint l.length), (8, vint k)]) (fun k => []) [] (fun k => k ≤ l.length) (fun k => l.length - k) 0 (Nat.zero_le _) rfl ⟨rfl, rfl, rfl, rfl, trivial⟩ trivial rfl ?_
  intro k hk _ _
  have he := h k
  apply Tri.of_vc gamN_ok []
  conv => whnf
  repeat' (first
    | (refine Ob.mk ?_ ?_ <;> conv => whnf)
    | (refine Fork2.mk (fun h => ?_) (fun h => ?_) <;> (conv => whnf))
    | (refine Fork.mk (fun h => ?_) (fun h => ?_) <;> (try simp only [pickB, Bool.and_eq_true, Bool.or_eq_true, Bool.and_eq_false_iff, Bool.or_eq_false_iff, Bool.not_eq_true', Bool.not_eq_false', Bool.not_eq_eq_eq_not, Bool.not_true, Bool.not_false, decide_eq_true_eq, decide_eq_false_iff_not, beq_iff_eq, bne_iff_ne, beq_eq_false_iff_ne, bne_eq_false_iff_eq, Int.not_lt, Int.not_le, ge_iff_le, gt_iff_lt, ne_eq, not_and, not_or, not_true_eq_false, not_false_eq_true, reduceCtorEq, or_false, false_or, and_true, true_and, and_false, false_and, or_true, true_or] at h) <;> (try simp only [Int.toNat_natCast, dflt64] at h) <;> (try (exfalso; omega)) <;> (conv => whnf))
    | (refine And.intro (by kernel_rfl) ?_; conv => whnf)
    | (intro h; (try simp only [pickB, Bool.and_eq_true, Bool.or_eq_true, Bool.and_eq_false_iff, Bool.or_eq_false_iff, Bool.not_eq_true', Bool.not_eq_false', Bool.not_eq_eq_eq_not, Bool.not_true, Bool.not_false, decide_eq_true_eq, decide_eq_false_iff_not, beq_iff_eq, bne_iff_ne, beq_eq_false_iff_ne, bne_eq_false_iff_eq, Int.not_lt, Int.not_le, ge_iff_le, gt_iff_lt, ne_eq, not_and, not_or, not_true_eq_false, not_false_eq_true, reduceCtorEq, or_false, false_or, and_true, true_and, and_false, false_and, or_true, true_or] at h) <;> (try simp only [Int.toNat_natCast, dflt64] at h); conv => whnf)
    | omega
    | (simp only [conj, and_true, true_and, Nat.le_eq]; dsimp only; omega)
    | (simp only [Int.toNat_natCast, dflt64, List.length_set, List.length_append, List.length_cons, List.length_nil, getD_set0]; omega)
    | (simp only [Int.toNat_natCast, dflt64, List.length_set, List.length_append, List.length_cons, List.length_nil, getD_set0]; split <;> omega))
  · refine callQ hf (he (by omega)) trivial ?_
    conv => whnf
    repeat' (first
      | (refine Ob.mk ?_ ?_ <;> conv => whnf)
      | (refine Fork2.mk (fun h => ?_) (fun h => ?_) <;> (conv => whnf))
      | (refine Fork.mk (fun h => ?_) (fun h => ?_) <;> (try simp only [pickB, Bool.and_eq_true, Bool.or_eq_true, Bool.and_eq_false_iff, Bool.or_eq_false_iff, Bool.not_eq_true', Bool.not_eq_false', Bool.not_eq_eq_eq_not, Bool.not_true, Bool.not_false, decide_eq_true_eq, decide_eq_false_iff_not, beq_iff_eq, bne_iff_ne, beq_eq_false_iff_ne, bne_eq_false_iff_eq, Int.not_lt, Int.not_le, ge_iff_le, gt_iff_lt, ne_eq, not_and, not_or, not_true_eq_false, not_false_eq_true, reduceCtorEq, or_false, false_or, and_true, true_and, and_false, false_and, or_true, true_or] at h) <;> (try simp only [Int.toNat_natCast, dflt64] at h) <;> (try (exfalso; omega)) <;> (conv => whnf))
      | (refine And.intro (by kernel_rfl) ?_; conv => whnf)
      | (intro h; (try simp only [pickB, Bool.and_eq_true, Bool.or_eq_true, Bool.and_eq_false_iff, Bool.or_eq_false_iff, Bool.not_eq_true', Bool.not_eq_false', Bool.not_eq_eq_eq_not, Bool.not_true, Bool.not_false, decide_eq_true_eq, decide_eq_false_iff_not, beq_iff_eq, bne_iff_ne, beq_eq_false_iff_ne, bne_eq_false_iff_eq, Int.not_lt, Int.not_le, ge_iff_le, gt_iff_lt, ne_eq, not_and, not_or, not_true_eq_false, not_false_eq_true, reduceCtorEq, or_false, false_or, and_true, true_and, and_false, false_and, or_true, true_or] at h) <;> (try simp only [Int.toNat_natCast, dflt64] at h); conv => whnf)
      | omega
      | (simp only [conj, and_true, true_and, Nat.le_eq]; dsimp only; omega)
      | (simp only [Int.toNat_natCast, dflt64, List.length_set, List.length_append, List.length_cons, List.length_nil, getD_set0]; omega)
      | (simp only [Int.toNat_natCast, dflt64, List.length_set, List.length_append, List.length_cons, List.length_nil, getD_set0]; split <;> omega))
    exact nextQ_intro (k + 1) (by show k + 1 ≤ l.length; omega) (by show l.length - (k + 1) < l.length - k; omega) (by exact rfl) (by exact rfl) trivial ⟨rfl, rfl, rfl, rfl, trivial⟩
  · exact quiet_int (by exact rfl) (by exact rfl) trivial (by exact rfl) rfl

theorem contI_ok (f : Nat) (l : List Int) (hl : l.length ≤ 100000) (hf : IsFn Try.prog f) (h : ∀ i, i < l.length → Quiet Try.prog f [cint (l.getD i 0)] [] (vbool false)) : Quiet Try.prog 29 [cisl I64 l, .cell (.clo f [])] [] (vbool false) := by
  refine FnOK.intro gamN_ok fn29 rfl rfl ?_
  intro _ _
  apply Tri.of_vc gamN_ok []
  conv => whnf
  refine callQ is42 (idxI_ok f l hl hf h) trivial ?_
  conv => whnf
  exact quiet_bool (by exact rfl) (by exact rfl) trivial (by exact rfl) rfl

theorem level_ok (v : Int) (h : -1099511627776 ≤ v ∧ v ≤ 1099511627776) : Quiet Try.prog 30 [cint v] [] (vbool false) := by
  refine FnOK.intro gamN_ok fn30 rfl rfl ?_
  intro _ _
  apply Tri.of_vc gamN_ok []
  conv => whnf
  refine quiet_bool (by exact rfl) (by exact rfl) trivial (by exact rfl) ?_
  simp [pickB]; omega

theorem zero_ok (v : Int) (h : v = 0) : Quiet Try.prog 32 [cint v] [] (vbool false) := by
  subst h
  refine FnOK.intro gamN_ok fn32 rfl rfl ?_
  intro _ _
  apply Tri.of_vc gamN_ok []
  conv => whnf
  exact quiet_bool (by exact rfl) (by exact rfl) trivial (by exact rfl) rfl

/-- A net whose flow is only read. -/
def netR (n : Int) (l : List EdT.den) (f : List Int) : Chunk := .cells [.int .i64 n, .isl EdT l, .isl I64 f, .nilsl]

theorem excR0_ok (n : Int) (l : List EdT.den) (f : List Int) (h : NetOK n l) (hlf : l.length = f.length) (hf : ∀ i, 0 ≤ f.getD i 0 ∧ f.getD i 0 ≤ 1000) :
    FnOK Try.prog 31 [.cell (.ref 0 0)] [(0, netR n l f)] [] (fun r hs' => r = .one (.cell (.vec 110)) ∧ hs' = [(110, .arr I64 (balTo n.toNat l f l.length)), (0, netR n l f)]) := by
  obtain ⟨h1, h2, h3, h4⟩ := h
  refine FnOK.intro gamN_ok fn31 rfl rfl ?_
  intro _ _
  apply Tri.of_vc gamN_ok []
  conv => whnf
  refine Ob.mk ⟨⟨by omega, by show n * 8 ≤ 140737488355328; omega⟩, rfl⟩ ?_
  conv => whnf
  refine Tri.loop (α := Nat) (n := 51) (fun i => [(0, .one (.cell (.ref 0 0))), (3, .one (.cell (.vec 110))), (14, visl EdT l), (15, vint l.length), (16, vint i)]) (fun i => [(0, netR n l f), (110, .arr I64 (balTo n.toNat l f i))]) [] (fun i => i ≤ l.length) (fun i => l.length - i) 0 (Nat.zero_le _) rfl ⟨rfl, rfl, rfl, rfl, rfl, trivial⟩ ⟨rfl, rfl, trivial⟩ rfl ?_
  intro i hi _ _
  have hbl := balTo_len n.toNat l f i
  have hb1 := balTo_range n.toNat l f hf i (l.getD i EdT.dflt).2.1.toNat
  have hb2 := balTo_range n.toNat l f hf i (l.getD i EdT.dflt).1.toNat
  have he := h4 i
  unfold EdOK EdOK' at he
  have hfi := hf i
  apply Tri.of_vc gamN_ok []
  conv => whnf
  repeat' (first
    | (refine Ob.mk ?_ ?_ <;> conv => whnf)
    | (refine Fork2.mk (fun h => ?_) (fun h => ?_) <;> (conv => whnf))
    | (refine Fork.mk (fun h => ?_) (fun h => ?_) <;> (try simp only [pickB, Bool.and_eq_true, Bool.or_eq_true, Bool.and_eq_false_iff, Bool.or_eq_false_iff, Bool.not_eq_true', Bool.not_eq_false', Bool.not_eq_eq_eq_not, Bool.not_true, Bool.not_false, decide_eq_true_eq, decide_eq_false_iff_not, beq_iff_eq, bne_iff_ne, beq_eq_false_iff_ne, bne_eq_false_iff_eq, Int.not_lt, Int.not_le, ge_iff_le, gt_iff_lt, ne_eq, not_and, not_or, not_true_eq_false, not_false_eq_true, reduceCtorEq, or_false, false_or, and_true, true_and, and_false, false_and, or_true, true_or] at h) <;> (try simp only [Int.toNat_natCast, dflt64] at h) <;> (try (exfalso; omega)) <;> (conv => whnf))
    | (refine Tri.draw (id := 5) gamN_ok mixed [0, 0, 2, 7, 15, 0, 32, 96, 224, 0, 992, 2016, 4095, 8191, 16383] 28672 [21, 22, 23, 24, 25, 26, 27, 28, 29, 30, 31, 32] [] (by rfl) (by rfl) (by rfl) ?_; conv => whnf)
    | (refine Tri.draw (id := 6) gamN_ok mixed [0, 0, 2, 7, 15, 0, 32, 96, 224, 0, 992, 2016, 4095, 8191, 16383] 28672 [35, 36, 37, 38, 39, 40, 41, 42, 43, 44, 45, 46] [] (by rfl) (by rfl) (by rfl) ?_; conv => whnf)
    | (refine And.intro (by kernel_rfl) ?_; conv => whnf)
    | (intro h; (try simp only [pickB, Bool.and_eq_true, Bool.or_eq_true, Bool.and_eq_false_iff, Bool.or_eq_false_iff, Bool.not_eq_true', Bool.not_eq_false', Bool.not_eq_eq_eq_not, Bool.not_true, Bool.not_false, decide_eq_true_eq, decide_eq_false_iff_not, beq_iff_eq, bne_iff_ne, beq_eq_false_iff_ne, bne_eq_false_iff_eq, Int.not_lt, Int.not_le, ge_iff_le, gt_iff_lt, ne_eq, not_and, not_or, not_true_eq_false, not_false_eq_true, reduceCtorEq, or_false, false_or, and_true, true_and, and_false, false_and, or_true, true_or] at h) <;> (try simp only [Int.toNat_natCast, dflt64] at h); conv => whnf)
    | omega
    | (simp only [conj, and_true, true_and, Nat.le_eq]; dsimp only; omega)
    | (simp only [Int.toNat_natCast, dflt64, List.length_set, List.length_append, List.length_cons, List.length_nil, getD_set0]; omega)
    | (simp only [Int.toNat_natCast, dflt64, List.length_set, List.length_append, List.length_cons, List.length_nil, getD_set0]; split <;> omega))
  · refine nextQ_intro (i + 1) (by show i + 1 ≤ l.length; omega) (by show l.length - (i + 1) < l.length - i; omega) (by exact rfl) (by exact rfl) ⟨rfl, chA (by exact rfl) ?_, trivial⟩ ⟨rfl, rfl, rfl, rfl, rfl, trivial⟩
    rfl
  · have : i = l.length := by omega
    subst this
    exact postQ_ret [(110, .arr I64 (balTo n.toNat l f l.length)), (0, netR n l f)] (by exact rfl) (by exact rfl) ⟨rfl, rfl, trivial⟩ (by exact rfl) (by exact rfl) ⟨rfl, rfl⟩

theorem excR_ok (n : Int) (l : List EdT.den) (f : List Int) (h : NetOK n l) (hlf : l.length = f.length) (hf : ∀ i, 0 ≤ f.getD i 0 ∧ f.getD i 0 ≤ 1000) :
    Quiet Try.prog 31 [.cell (.ref 0 0)] [(0, netR n l f)] (visl I64 (balTo n.toNat l f l.length)) := by
  refine FnOK.freeze 110 I64 (excR0_ok n l f h hlf hf) ?_
  rintro r hs' ⟨rfl, rfl⟩
  exact ⟨_, rfl, rfl, rfl, rfl, rfl⟩

end Go.Sx
