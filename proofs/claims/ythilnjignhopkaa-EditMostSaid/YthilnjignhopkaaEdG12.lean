/- Refs of both packages with one result each; shown and lives. Conditions: none. -/
import Derived.Test.YthilnjignhopkaaEdG11
set_option linter.unusedSimpArgs false
set_option linter.unusedVariables false
set_option maxRecDepth 10000
set_option maxHeartbeats 8000000
namespace Go.Sx
open Go Go.Proofs

section
variable {w : World} {I : Nat → Prop} {ρ : Rho} {v : Value}
theorem tup2_imp {a b a' b' : V0} (h : SV.rep w I ρ v (.tup [a, b])) (ha : ∀ v, a.rep w I ρ v → a'.rep w I ρ v) (hb : ∀ v, b.rep w I ρ v → b'.rep w I ρ v) : SV.rep w I ρ v (.tup [a', b']) := by
  obtain ⟨cs, e, h⟩ := h
  refine ⟨cs, e, ?_⟩
  match hl : cs.toList, h with
  | [_, _], ⟨h1, h2, _⟩ => exact ⟨ha _ h1, hb _ h2, trivial⟩
theorem tup3_imp {a b c a' b' c' : V0} (h : SV.rep w I ρ v (.tup [a, b, c])) (ha : ∀ v, a.rep w I ρ v → a'.rep w I ρ v) (hb : ∀ v, b.rep w I ρ v → b'.rep w I ρ v) (hc : ∀ v, c.rep w I ρ v → c'.rep w I ρ v) : SV.rep w I ρ v (.tup [a', b', c']) := by
  obtain ⟨cs, e, h⟩ := h
  refine ⟨cs, e, ?_⟩
  match hl : cs.toList, h with
  | [_, _, _], ⟨h1, h2, h3, _⟩ => exact ⟨ha _ h1, hb _ h2, hc _ h3, trivial⟩
theorem agg2_imp {a b a' b' : Leaf} (h : V0.rep w I ρ v (.agg [a, b])) (ha : ∀ v, a.rep w I ρ v → a'.rep w I ρ v) (hb : ∀ v, b.rep w I ρ v → b'.rep w I ρ v) : V0.rep w I ρ v (.agg [a', b']) := by
  obtain ⟨cs, e, h⟩ := h
  refine ⟨cs, e, ?_⟩
  match hl : cs.toList, h with
  | [_, _], ⟨h1, h2, _⟩ => exact ⟨ha _ h1, hb _ h2, trivial⟩
end

theorem refsL_err {old : List Int} {to lo hi : Int} (h : refsErr old to lo hi ≠ 0) : refsL old to lo hi = [] := by unfold refsL; rw [if_neg h]

theorem refsQ_ok (old : List Int) (to lo hi : Int) (hlen : old.length ≤ 100000) : Quiet Try.prog 10 [cisl I64 old, cint to, cint lo, cint hi] [] (.tup [cisl I64 (refsL old to lo hi), cint (refsErr old to lo hi)]) := by
  refine FnOK.freezeOr 0 I64 (refs_ok old to lo hi hlen) ?_
  rintro r hs' (⟨rfl, rfl, he⟩ | ⟨rfl, rfl, he⟩)
  · refine .inr ⟨_, fun _ _ _ _ h => h, rfl, ?_, rfl⟩
    rw [he]
  · refine .inr ⟨.tup [cisl I64 (refsL old to lo hi), cint (refsErr old to lo hi)], fun w I ρ v h => ?_, rfl, rfl, rfl⟩
    rw [refsL_err he]
    exact tup2_imp h (fun _ h => nil_isl (ρ := ρ) I64 h) (fun _ h => h)

def flowE (old : List Int) (to lo hi : Int) : List Int := if refsErr old to lo hi = 0 then flowL old to (refsL old to lo hi) else []
def LevP (old : List Int) (to lo hi : Int) (d : List Int) : Prop := (refsErr old to lo hi = 0 → CertOK (to + 2) (netL old to lo hi) (flowL old to (refsL old to lo hi)) d) ∧ (refsErr old to lo hi ≠ 0 → d = [])

theorem edR_ok (old : List Int) (to lo hi : Int) (hlen : old.length ≤ 100000) : Quiet Try.prog 9 [cisl I64 old, cint to, cint lo, cint hi] []
    (.tup [cisl I64 (refsL old to lo hi), .agg [.isl I64 (flowE old to lo hi), .ex I64 (LevP old to lo hi)], cint (refsErr old to lo hi)]) := by
  refine FnOK.freezeOr 0 I64 (edRefs_ok old to lo hi hlen) ?_
  rintro r hs' ⟨⟨he, d, rfl, hC⟩ | ⟨he, rfl⟩, rfl⟩
  · refine .inr ⟨.tup [cisl I64 (refsL old to lo hi), .agg [.isl I64 (flowE old to lo hi), .ex I64 (LevP old to lo hi)], cint (refsErr old to lo hi)], fun w I ρ v h => ?_, rfl, rfl, rfl⟩
    unfold flowE
    rw [if_pos he, he]
    exact tup3_imp h (fun _ h => h) (fun _ h => agg2_imp h (fun _ h => h) (fun _ h => ⟨d, ⟨fun _ => hC, fun q => absurd he q⟩, h⟩)) (fun _ h => h)
  · refine .inr ⟨.tup [cisl I64 (refsL old to lo hi), .agg [.isl I64 (flowE old to lo hi), .ex I64 (LevP old to lo hi)], cint (refsErr old to lo hi)], fun w I ρ v h => ?_, rfl, rfl, rfl⟩
    unfold flowE
    rw [if_neg he, refsL_err he]
    exact tup3_imp h (fun _ h => nil_isl (ρ := ρ) I64 h) (fun _ h => agg2_imp h (fun _ h => nil_isl (ρ := ρ) I64 h) (fun _ h => ⟨[], ⟨fun q => absurd q he, fun _ => rfl⟩, nil_isl (ρ := ρ) I64 h⟩)) (fun _ h => h)

/-- What refsErr being 0 says. -/
theorem refs_in {old : List Int} {to lo hi : Int} (he : refsErr old to lo hi = 0) : 0 ≤ to ∧ to ≤ 62 ∧ old.length ≤ 512 ∧ NetOK (to + 2) (netL old to lo hi) := by
  have htgt := refs_targets he
  unfold refsErr at he
  split at he
  · omega
  split at he
  · omega
  split at he
  · omega
  rename_i e1 e2 e3
  refine ⟨by omega, by omega, by omega, ?_⟩
  obtain ⟨T, rfl⟩ := Int.eq_ofNat_of_zero_le (show 0 ≤ to by omega)
  refine net_ok' (by omega) (by omega) (by omega) ?_
  by_cases h0 : T = 0
  · exact .inl h0
  · right
    have := Int.mul_le_mul_of_nonneg_right (show (1 : Int) ≤ (T : Int) by omega) (show 0 ≤ min lo 1000 by omega)
    omega

theorem shown_ok (old : List Int) (to lo hi : Int) (d : List Int) (he : refsErr old to lo hi = 0) (hC : CertOK (to + 2) (netL old to lo hi) (flowL old to (refsL old to lo hi)) d) :
    Quiet Try.prog 12 [cisl I64 old, cint to, cint lo, cint hi, cisl I64 (refsL old to lo hi), .agg [.isl I64 (flowL old to (refsL old to lo hi)), .isl I64 d]] [] (vbool true) := by
  obtain ⟨h1, h2, h3, hN⟩ := refs_in he
  have htl := (refs_targets he).len
  refine FnOK.intro gamN_ok fn12 rfl rfl ?_
  intro _ _
  apply Tri.of_vc gamN_ok []
  conv => whnf
  refine callQ is16 (net_ok old to lo hi h1 (by omega)) trivial ?_
  conv => whnf
  repeat' (first
    | (refine Ob.mk ?_ ?_ <;> conv => whnf)
    | (refine Fork2.mk (fun h => ?_) (fun h => ?_) <;> (conv => whnf))
    | (refine Fork.mk (fun h => ?_) (fun h => ?_) <;> (try simp only [pickB, Bool.and_eq_true, Bool.or_eq_true, Bool.and_eq_false_iff, Bool.or_eq_false_iff, Bool.not_eq_true', Bool.not_eq_false', Bool.not_eq_eq_eq_not, Bool.not_true, Bool.not_false, decide_eq_true_eq, decide_eq_false_iff_not, beq_iff_eq, bne_iff_ne, beq_eq_false_iff_ne, bne_eq_false_iff_eq, Int.not_lt, Int.not_le, ge_iff_le, gt_iff_lt, ne_eq, not_and, not_or, not_true_eq_false, not_false_eq_true, reduceCtorEq, or_false, false_or, and_true, true_and, and_false, false_and, or_true, true_or] at h) <;> (try simp only [Int.toNat_natCast, dflt64] at h) <;> (try (exfalso; omega)) <;> (conv => whnf))
    | (refine Tri.draw (id := 2) gamN_ok mixed [0, 1, 0, 0, 0, 28, 63, 127, 255, 511, 255, 255, 2303, 255, 8447, 30975, 65535, 131071, 262143, 524287] 983232 [19, 20, 21, 22, 23, 24, 27, 28, 29, 30, 31, 32, 33, 34] [] (by rfl) (by rfl) (by rfl) ?_; conv => whnf)
    | (refine And.intro (by kernel_rfl) ?_; conv => whnf)
    | (intro h; (try simp only [pickB, Bool.and_eq_true, Bool.or_eq_true, Bool.and_eq_false_iff, Bool.or_eq_false_iff, Bool.not_eq_true', Bool.not_eq_false', Bool.not_eq_eq_eq_not, Bool.not_true, Bool.not_false, decide_eq_true_eq, decide_eq_false_iff_not, beq_iff_eq, bne_iff_ne, beq_eq_false_iff_ne, bne_eq_false_iff_eq, Int.not_lt, Int.not_le, ge_iff_le, gt_iff_lt, ne_eq, not_and, not_or, not_true_eq_false, not_false_eq_true, reduceCtorEq, or_false, false_or, and_true, true_and, and_false, false_and, or_true, true_or] at h) <;> (try simp only [Int.toNat_natCast, dflt64] at h); conv => whnf)
    | omega
    | (simp only [conj, and_true, true_and, Nat.le_eq]; dsimp only; omega)
    | (simp only [Int.toNat_natCast, dflt64, List.length_set, List.length_append, List.length_cons, List.length_nil, getD_set0]; omega)
    | (simp only [Int.toNat_natCast, dflt64, List.length_set, List.length_append, List.length_cons, List.length_nil, getD_set0]; split <;> omega))
  refine ⟨is25, [], _, flow_ok old to (refsL old to lo hi) (by omega) (by omega), trivial, ?_⟩
  conv => whnf
  refine ⟨is11, [], _, same_ok (flowL old to (refsL old to lo hi)) (flowL old to (refsL old to lo hi)), trivial, ?_⟩
  conv => whnf
  repeat' (first
    | (refine Ob.mk ?_ ?_ <;> conv => whnf)
    | (refine Fork2.mk (fun h => ?_) (fun h => ?_) <;> (conv => whnf))
    | (refine Fork.mk (fun h => ?_) (fun h => ?_) <;> (try simp only [pickB, Bool.and_eq_true, Bool.or_eq_true, Bool.and_eq_false_iff, Bool.or_eq_false_iff, Bool.not_eq_true', Bool.not_eq_false', Bool.not_eq_eq_eq_not, Bool.not_true, Bool.not_false, decide_eq_true_eq, decide_eq_false_iff_not, beq_iff_eq, bne_iff_ne, beq_eq_false_iff_ne, bne_eq_false_iff_eq, Int.not_lt, Int.not_le, ge_iff_le, gt_iff_lt, ne_eq, not_and, not_or, not_true_eq_false, not_false_eq_true, reduceCtorEq, or_false, false_or, and_true, true_and, and_false, false_and, or_true, true_or] at h) <;> (try simp only [Int.toNat_natCast, dflt64] at h) <;> (try (exfalso; omega)) <;> (conv => whnf))
    | (refine Tri.draw (id := 2) gamN_ok mixed [0, 1, 0, 0, 0, 28, 63, 127, 255, 511, 255, 255, 2303, 255, 8447, 30975, 65535, 131071, 262143, 524287] 983232 [19, 20, 21, 22, 23, 24, 27, 28, 29, 30, 31, 32, 33, 34] [] (by rfl) (by rfl) (by rfl) ?_; conv => whnf)
    | (refine And.intro (by kernel_rfl) ?_; conv => whnf)
    | (intro h; (try simp only [pickB, Bool.and_eq_true, Bool.or_eq_true, Bool.and_eq_false_iff, Bool.or_eq_false_iff, Bool.not_eq_true', Bool.not_eq_false', Bool.not_eq_eq_eq_not, Bool.not_true, Bool.not_false, decide_eq_true_eq, decide_eq_false_iff_not, beq_iff_eq, bne_iff_ne, beq_eq_false_iff_ne, bne_eq_false_iff_eq, Int.not_lt, Int.not_le, ge_iff_le, gt_iff_lt, ne_eq, not_and, not_or, not_true_eq_false, not_false_eq_true, reduceCtorEq, or_false, false_or, and_true, true_and, and_false, false_and, or_true, true_or] at h) <;> (try simp only [Int.toNat_natCast, dflt64] at h); conv => whnf)
    | omega
    | (simp only [conj, and_true, true_and, Nat.le_eq]; dsimp only; omega)
    | (simp only [Int.toNat_natCast, dflt64, List.length_set, List.length_append, List.length_cons, List.length_nil, getD_set0]; omega)
    | (simp only [Int.toNat_natCast, dflt64, List.length_set, List.length_append, List.length_cons, List.length_nil, getD_set0]; split <;> omega))
  refine ⟨is26, [], _, gImp_of (fun _ => refCheck_ok (to + 2) (netL old to lo hi) (flowL old to (refsL old to lo hi)) d hN hC), trivial, ?_⟩
  conv => whnf
  repeat' (first
    | (refine Ob.mk ?_ ?_ <;> conv => whnf)
    | (refine Fork2.mk (fun h => ?_) (fun h => ?_) <;> (conv => whnf))
    | (refine Fork.mk (fun h => ?_) (fun h => ?_) <;> (try simp only [pickB, Bool.and_eq_true, Bool.or_eq_true, Bool.and_eq_false_iff, Bool.or_eq_false_iff, Bool.not_eq_true', Bool.not_eq_false', Bool.not_eq_eq_eq_not, Bool.not_true, Bool.not_false, decide_eq_true_eq, decide_eq_false_iff_not, beq_iff_eq, bne_iff_ne, beq_eq_false_iff_ne, bne_eq_false_iff_eq, Int.not_lt, Int.not_le, ge_iff_le, gt_iff_lt, ne_eq, not_and, not_or, not_true_eq_false, not_false_eq_true, reduceCtorEq, or_false, false_or, and_true, true_and, and_false, false_and, or_true, true_or] at h) <;> (try simp only [Int.toNat_natCast, dflt64] at h) <;> (try (exfalso; omega)) <;> (conv => whnf))
    | (refine Tri.draw (id := 2) gamN_ok mixed [0, 1, 0, 0, 0, 28, 63, 127, 255, 511, 255, 255, 2303, 255, 8447, 30975, 65535, 131071, 262143, 524287] 983232 [19, 20, 21, 22, 23, 24, 27, 28, 29, 30, 31, 32, 33, 34] [] (by rfl) (by rfl) (by rfl) ?_; conv => whnf)
    | (refine And.intro (by kernel_rfl) ?_; conv => whnf)
    | (intro h; (try simp only [pickB, Bool.and_eq_true, Bool.or_eq_true, Bool.and_eq_false_iff, Bool.or_eq_false_iff, Bool.not_eq_true', Bool.not_eq_false', Bool.not_eq_eq_eq_not, Bool.not_true, Bool.not_false, decide_eq_true_eq, decide_eq_false_iff_not, beq_iff_eq, bne_iff_ne, beq_eq_false_iff_ne, bne_eq_false_iff_eq, Int.not_lt, Int.not_le, ge_iff_le, gt_iff_lt, ne_eq, not_and, not_or, not_true_eq_false, not_false_eq_true, reduceCtorEq, or_false, false_or, and_true, true_and, and_false, false_and, or_true, true_or] at h) <;> (try simp only [Int.toNat_natCast, dflt64] at h); conv => whnf)
    | omega
    | (simp only [conj, and_true, true_and, Nat.le_eq]; dsimp only; omega)
    | (simp only [Int.toNat_natCast, dflt64, List.length_set, List.length_append, List.length_cons, List.length_nil, getD_set0]; omega)
    | (simp only [Int.toNat_natCast, dflt64, List.length_set, List.length_append, List.length_cons, List.length_nil, getD_set0]; split <;> omega))
  exact quiet_bool (by exact rfl) (by exact rfl) trivial (by exact rfl) (by simp [pickB])

theorem lives_ok : Quiet Try.prog 15 [] [] (vbool true) := by
  have e1 : refsErr [0, 0, 0, 1] 2 2 2 = 0 := by decide +kernel
  have e2 : refsErr [0, 0, 5] 3 1 1 = 0 := by decide +kernel
  have e3 : refsErr [0] 2 1 1 = 14 := by decide +kernel
  have l1 : refsL [0, 0, 0, 1] 2 2 2 = [0, 0, 1, 1] := by decide +kernel
  have l2 : refsL [0, 0, 5] 3 1 1 = [0, 1, 2] := by decide +kernel
  have f1 : flowE [0, 0, 0, 1] 2 2 2 = [2, 0, 2, 1, 1, 2, 4] := by decide +kernel
  have k : keep 7 0 5 = 5 := by decide +kernel
  refine FnOK.intro (gamI_ok [111, 117, 123, 139, 144, 149]) fn15 rfl rfl ?_
  intro _ _
  apply Tri.of_vc (gamI_ok [111, 117, 123, 139, 144, 149]) []
  conv => whnf
  have r1 := edR_ok [0, 0, 0, 1] 2 2 2 (by decide)
  have r2 := edR_ok [0, 0, 5] 3 1 1 (by decide)
  have r3 := edR_ok [0] 2 1 1 (by decide)
  rw [e1, l1, f1] at r1
  rw [e2, l2] at r2
  rw [e3] at r3
  refine callQ is9 r1 trivial ?_
  conv => whnf
  refine callQ is9 r2 trivial ?_
  conv => whnf
  refine callQ is9 r3 trivial ?_
  conv => whnf
  refine Fork.mk (fun h => absurd h (by decide)) (fun _ => ?_)
  conv => whnf
  refine callQ is11 (same_ok [0, 0, 1, 1] [0, 0, 1, 1]) trivial ?_
  conv => whnf
  refine callQ is11 (gImp_of fun _ => same_ok [2, 0, 2, 1, 1, 2, 4] [2, 0, 2, 1, 1, 2, 4]) trivial ?_
  conv => whnf
  refine callQ is11 (gImp_of fun _ => same_ok [0, 1, 2] [0, 1, 2]) trivial ?_
  conv => whnf
  refine callQ is13 (gImp_of fun _ => keep13_ok 7 0 5) trivial ?_
  conv => whnf
  exact quiet_bool (by exact rfl) (by exact rfl) trivial (by exact rfl) (by rw [k]; decide)

end Go.Sx
