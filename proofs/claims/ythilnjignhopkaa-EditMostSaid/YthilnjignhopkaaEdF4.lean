/- What Most of the reference does. Conditions: none. -/
import Derived.Test.YthilnjignhopkaaEdF3
import Derived.Test.YthilnjignhopkaaSxRen
set_option linter.unusedSimpArgs false
set_option linter.unusedVariables false
set_option maxRecDepth 10000
namespace Go.Sx
open Go Go.Proofs

theorem ite_min (x y : Int) : (if y < x then y else x) = min x y := by split <;> omega
theorem ite_max (x y : Int) : (if x < y then y else x) = max x y := by split <;> omega

def leastOf (lo u : Int) : Int := max 0 (lo - u)
def dOf (lo hi u k : Int) : Int := max (leastOf lo u) (min k (hi - u))

structure MSt where
  sum : Int
  keep : Int
  more : Int
  less : Int

def mostSt (lo hi : Int) (used : List Int) (cnt : Nat → Int) : Nat → MSt
  | 0 => ⟨0, 0, 0, 0⟩
  | j + 1 => ⟨(mostSt lo hi used cnt j).sum + dOf lo hi (used.getD j 0) (cnt j), (mostSt lo hi used cnt j).keep + min (cnt j) (dOf lo hi (used.getD j 0) (cnt j)),
      (mostSt lo hi used cnt j).more + (hi - used.getD j 0) - dOf lo hi (used.getD j 0) (cnt j), (mostSt lo hi used cnt j).less + dOf lo hi (used.getD j 0) (cnt j) - leastOf lo (used.getD j 0)⟩

def mostV (lo hi : Int) (used : List Int) (cnt : Nat → Int) (m : Int) : Int :=
  if (mostSt lo hi used cnt used.length).sum - m > (mostSt lo hi used cnt used.length).less ∨ m - (mostSt lo hi used cnt used.length).sum > (mostSt lo hi used cnt used.length).more then -1
  else (mostSt lo hi used cnt used.length).keep - max 0 ((mostSt lo hi used cnt used.length).sum - m)

theorem mostSt_range {lo hi : Int} {used : List Int} {cnt : Nat → Int} (h1 : 0 ≤ lo) (h2 : lo ≤ 100000) (h3 : 0 ≤ hi) (h4 : hi ≤ 100000) (hu : ∀ j, 0 ≤ used.getD j 0 ∧ used.getD j 0 ≤ 100000) (hc : ∀ j, 0 ≤ cnt j ∧ cnt j ≤ 100000) (j : Nat) :
    -1000000 * (j : Int) ≤ (mostSt lo hi used cnt j).sum ∧ (mostSt lo hi used cnt j).sum ≤ 1000000 * (j : Int) ∧ -1000000 * (j : Int) ≤ (mostSt lo hi used cnt j).keep ∧ (mostSt lo hi used cnt j).keep ≤ 1000000 * (j : Int) ∧
    -1000000 * (j : Int) ≤ (mostSt lo hi used cnt j).more ∧ (mostSt lo hi used cnt j).more ≤ 1000000 * (j : Int) ∧ -1000000 * (j : Int) ≤ (mostSt lo hi used cnt j).less ∧ (mostSt lo hi used cnt j).less ≤ 1000000 * (j : Int) := by
  induction j with
  | zero => simp [mostSt]
  | succ j ih =>
    have := hu j
    have := hc j
    simp only [mostSt, dOf, leastOf]
    omega

/-- What is asked of the numbers. -/
structure MostIn (lo hi : Int) (used : List Int) (n : Nat) : Prop where
  lo0 : 0 ≤ lo
  lo1 : lo ≤ 1000
  hi0 : 0 ≤ hi
  hi1 : hi ≤ 1000
  us : ∀ j, 0 ≤ used.getD j 0 ∧ used.getD j 0 ≤ 1000
  len : used.length ≤ 1000
  n1 : n ≤ 1000

theorem refMost_ok (old used : List Int) (lo hi : Int) (h : used = [] ∨ MostIn lo hi used old.length) (hold : old.length ≤ 1000) :
    Quiet Try.prog 24 [cisl I64 old, .cell (.vec 0), cint lo, cint hi] [(0, .arr I64 used)] (vint (mostV lo hi used (fun j => count old j) old.length)) := by
  refine FnOK.intro gam_ok fn24 rfl rfl ?_
  intro ⟨ho, _, hlo, hhi, _⟩ _
  have hcnt : ∀ j : Nat, 0 ≤ (count old j : Int) ∧ (count old j : Int) ≤ 1000 := fun j => by have := count_le old j; omega
  have hlen : used.length ≤ 1000 := by rcases h with rfl | h; exact Nat.zero_le _; exact h.len
  have hr : ∀ j, used = [] ∧ j ≤ 0 ∨ MostIn lo hi used old.length ∨ used.length < j := fun j => by
    rcases h with rfl | h
    · by_cases hj : j ≤ 0
      · exact .inl ⟨rfl, hj⟩
      · exact .inr (.inr (by simp; omega))
    · exact .inr (.inl h)
  have hst : ∀ j, j ≤ used.length → -1000000 * (j : Int) ≤ (mostSt lo hi used (fun j => count old j) j).sum ∧ (mostSt lo hi used (fun j => count old j) j).sum ≤ 1000000 * (j : Int) ∧ -1000000 * (j : Int) ≤ (mostSt lo hi used (fun j => count old j) j).keep ∧ (mostSt lo hi used (fun j => count old j) j).keep ≤ 1000000 * (j : Int) ∧
    -1000000 * (j : Int) ≤ (mostSt lo hi used (fun j => count old j) j).more ∧ (mostSt lo hi used (fun j => count old j) j).more ≤ 1000000 * (j : Int) ∧ -1000000 * (j : Int) ≤ (mostSt lo hi used (fun j => count old j) j).less ∧ (mostSt lo hi used (fun j => count old j) j).less ≤ 1000000 * (j : Int) := fun j hj => by
    rcases h with rfl | h
    · have : j = 0 := by simpa using hj
      subst this
      simp [mostSt]
    · exact mostSt_range h.lo0 (by have := h.lo1; omega) h.hi0 (by have := h.hi1; omega) (fun j => by have := h.us j; omega) (fun j => by have := hcnt j; omega) j
  apply Tri.of_vc gam_ok []
  conv => whnf
  refine Tri.loop (α := Nat) (n := 84) (fun j => [(0, visl I64 old), (1, .one (.cell (.vec 0))), (2, vint lo), (3, vint hi), (9, vint (mostSt lo hi used (fun j => count old j) j).sum), (10, vint (mostSt lo hi used (fun j => count old j) j).keep), (11, vint (mostSt lo hi used (fun j => count old j) j).more), (12, vint (mostSt lo hi used (fun j => count old j) j).less), (13, vint j)]) (fun _ => [(0, .arr I64 used)]) []
    (fun j => j ≤ used.length) (fun j => used.length - j) 0 (Nat.zero_le _) rfl ⟨rfl, rfl, rfl, rfl, enI (by exact rfl) rfl, enI (by exact rfl) rfl, enI (by exact rfl) rfl, enI (by exact rfl) rfl, enI (by exact rfl) rfl, trivial⟩ ⟨rfl, trivial⟩ rfl ?_
  intro j hj _ _
  have hs := hst j hj
  have hc := hcnt j
  apply Tri.of_vc gam_ok []
  conv => whnf
  refine ⟨fun h2 => ?_, fun h2 => ?_⟩
  · simp at h2
    have hin : MostIn lo hi used old.length := by
      rcases h with rfl | h
      · simp at h2
      · exact h
    have h1 := hin.lo0
    have h3 := hin.lo1
    have h4 := hin.hi0
    have h5 := hin.hi1
    have hu := hin.us j
    have hs' := hst (j + 1) (by omega)
    have e1 : used.getD (j : Int).toNat I64.dflt = used.getD j 0 := by simp [Ty.dflt]
    have hd1 : -1000 ≤ dOf lo hi (used.getD j 0) (count old j) ∧ dOf lo hi (used.getD j 0) (count old j) ≤ 1000 := by unfold dOf leastOf; omega
    have hd2 : 0 ≤ leastOf lo (used.getD j 0) ∧ leastOf lo (used.getD j 0) ≤ 1000 := by unfold leastOf; omega
    conv => whnf
    refine ⟨?_, ?_⟩
    · conv => whnf
      exact ⟨by omega, by omega⟩
    conv => whnf
    refine ⟨?_, ?_⟩
    · conv => whnf
      exact ⟨by omega, by omega⟩
    conv => whnf
    refine callQ is27 (hs := []) (count_ok _ _) trivial ?_
    conv => whnf
    have w1 : IntKind.i64.wrap (lo - used.getD j 0) = lo - used.getD j 0 := wrap64 (by omega) (by omega)
    have w2 : IntKind.i64.wrap (hi - used.getD j 0) = hi - used.getD j 0 := wrap64 (by omega) (by omega)
    refine nextQ_intro (j + 1) (by show j + 1 ≤ used.length; omega) (by show used.length - (j + 1) < used.length - j; omega) (by exact rfl) (by exact rfl) ⟨rfl, trivial⟩ ⟨rfl, rfl, rfl, rfl, enI (by exact rfl) ?_, enI (by exact rfl) ?_, enI (by exact rfl) ?_, enI (by exact rfl) ?_, enI (by exact rfl) ?_, trivial⟩
    · simp only [mostSt, e1, w1, w2, ite_min, ite_max]
      exact wrap64 (by omega) (by omega)
    · simp only [mostSt, e1, w1, w2, ite_min, ite_max]
      exact wrap64 (by omega) (by omega)
    · simp only [mostSt, e1, w1, w2, ite_min, ite_max]
      rw [wrap64 (n := (mostSt lo hi used (fun j => count old j) j).more + (hi - used.getD j 0)) (by omega) (by omega)]
      exact wrap64 (by omega) (by omega)
    · simp only [mostSt, e1, w1, w2, ite_min, ite_max]
      rw [wrap64 (n := (mostSt lo hi used (fun j => count old j) j).less + max (max 0 (lo - used.getD j 0)) (min (count old j : Int) (hi - used.getD j 0))) (by omega) (by omega)]
      exact wrap64 (by omega) (by omega)
    · rw [wrap64 (by omega) (by omega)]; omega
  · simp at h2
    have he : j = used.length := by omega
    subst he
    have w1 : IntKind.i64.wrap ((mostSt lo hi used (fun j => count old j) used.length).sum - (old.length : Nat)) = (mostSt lo hi used (fun j => count old j) used.length).sum - (old.length : Nat) := wrap64 (by omega) (by omega)
    have w2 : IntKind.i64.wrap ((old.length : Nat) - (mostSt lo hi used (fun j => count old j) used.length).sum) = (old.length : Nat) - (mostSt lo hi used (fun j => count old j) used.length).sum := wrap64 (by omega) (by omega)
    refine ⟨fun h3 => ?_, fun h3 => ?_⟩
    · have h3 : pickB (Operand.const (Value.bool true)) (Operand.tmp 75) (decide (IntKind.i64.wrap ((mostSt lo hi used (fun j => count old j) used.length).sum - (old.length : Nat)) > (mostSt lo hi used (fun j => count old j) used.length).less)) true
          (decide (IntKind.i64.wrap ((old.length : Nat) - (mostSt lo hi used (fun j => count old j) used.length).sum) > (mostSt lo hi used (fun j => count old j) used.length).more)) = true := h3
      rw [w1, w2] at h3
      simp only [pickB, Bool.or_eq_true, decide_eq_true_eq] at h3
      refine quiet_int (by exact rfl) (by exact rfl) ⟨rfl, trivial⟩ (by exact rfl) ?_
      unfold mostV
      rw [if_pos h3]
    · have h3 : pickB (Operand.const (Value.bool true)) (Operand.tmp 75) (decide (IntKind.i64.wrap ((mostSt lo hi used (fun j => count old j) used.length).sum - (old.length : Nat)) > (mostSt lo hi used (fun j => count old j) used.length).less)) true
          (decide (IntKind.i64.wrap ((old.length : Nat) - (mostSt lo hi used (fun j => count old j) used.length).sum) > (mostSt lo hi used (fun j => count old j) used.length).more)) = false := h3
      rw [w1, w2] at h3
      simp only [pickB, Bool.or_eq_false_iff, decide_eq_false_iff_not] at h3
      refine quiet_int (by exact rfl) (by exact rfl) ⟨rfl, trivial⟩ (by exact rfl) ?_
      unfold mostV
      rw [if_neg (not_or.2 h3)]
      simp only [w1, ite_max]
      exact wrap64 (by omega) (by omega)

end Go.Sx
