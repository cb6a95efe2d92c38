/- What Flow and Most of the reference do. Conditions: none. -/
import Derived.Test.YthilnjignhopkaaEdF2
set_option linter.unusedSimpArgs false
set_option linter.unusedVariables false
set_option maxRecDepth 10000
namespace Go.Sx
open Go Go.Proofs

def keepN (old targets : List Int) (j : Int) (i : Nat) : Nat := (List.range i).countP fun i => decide (targets.getD i 0 = j) && decide (old.getD i 0 = j)

theorem keepN_succ (old targets : List Int) (j : Int) (i : Nat) : keepN old targets j (i + 1) = keepN old targets j i + (if targets.getD i 0 = j ∧ old.getD i 0 = j then 1 else 0) := by
  unfold keepN
  rw [List.range_succ, List.countP_append]
  simp [List.countP_cons]

theorem keepN_le (old targets : List Int) (j : Int) (i : Nat) : keepN old targets j i ≤ i := by
  have := List.countP_le_length (p := fun i => decide (targets.getD i 0 = j) && decide (old.getD i 0 = j)) (l := List.range i)
  unfold keepN; simpa using this

/-- The flow of targets. -/
def flowRow (old targets : List Int) (j : Nat) : List Int := [(keepN old targets j targets.length : Int), (count targets j : Int) - keepN old targets j targets.length, count targets j]
def flowTo (old targets : List Int) (j : Nat) : List Int := (List.range j).flatMap (flowRow old targets)
def flowL (old : List Int) (to : Int) (targets : List Int) : List Int := flowTo old targets to.toNat ++ [(old.length : Int)]

theorem flowTo_len (old targets : List Int) (j : Nat) : (flowTo old targets j).length = 3 * j := by
  induction j with
  | zero => rfl
  | succ j ih => unfold flowTo at *; rw [List.range_succ, List.flatMap_append, List.length_append, ih]; simp [flowRow]; omega

theorem count_le (l : List Int) (n : Int) : count l n ≤ l.length := List.count_le_length

theorem flow0_ok (old : List Int) (to : Int) (targets : List Int) (ht : targets.length ≤ old.length) (hto : to ≤ 1000000) :
    FnOK Try.prog 25 [cisl I64 old, cint to, cisl I64 targets] [] [] (fun r hs' => r = .one (.cell (.vec 1000)) ∧ hs' = [(1000, .arr I64 (flowL old to targets))]) := by
  refine FnOK.intro gam_ok fn25 rfl rfl ?_
  intro ⟨ho, hto', htl, _⟩ _
  have ho : old.length ≤ big := ho.1
  have htl : targets.length ≤ big := htl.1
  have hbig := bigv
  apply Tri.of_vc gam_ok []
  conv => whnf
  refine Tri.thaw 7 1000 I64 (by exact rfl) ?_
  refine Tri.loop (α := Nat) (n := 55) (fun j => [(0, visl I64 old), (1, vint to), (2, visl I64 targets), (7, .one (.cell (.vec 1000))), (8, vint j)]) (fun j => [(1000, .arr I64 (flowTo old targets j))]) []
    (fun j => j ≤ to.toNat) (fun j => to.toNat - j) 0 (Nat.zero_le _) rfl ⟨rfl, rfl, rfl, rfl, enI (by exact rfl) rfl, trivial⟩ ⟨rfl, trivial⟩ rfl ?_
  intro j hj _ _
  have hlen := flowTo_len old targets j
  have hcl := count_le targets j
  apply Tri.of_vc gam_ok []
  conv => whnf
  refine ⟨fun h2 => ?_, fun h2 => ?_⟩
  · simp at h2
    conv => whnf
    refine Tri.loop (α := Nat) (n := 55) (fun i => [(0, visl I64 old), (1, vint to), (2, visl I64 targets), (7, .one (.cell (.vec 1000))), (8, vint j), (9, vint (keepN old targets j i)), (10, vint i)]) (fun i => [(1000, .arr I64 (flowTo old targets j))]) []
      (fun i => i ≤ targets.length) (fun i => targets.length - i) 0 (Nat.zero_le _) rfl ⟨rfl, rfl, rfl, rfl, rfl, enI (by exact rfl) rfl, enI (by exact rfl) rfl, trivial⟩ ⟨rfl, trivial⟩ rfl ?_
    intro i hi _ _
    have hk := keepN_le old targets j i
    have hks := keepN_succ old targets j i
    apply Tri.of_vc gam_ok []
    conv => whnf
    refine ⟨fun h3 => ?_, fun h3 => ?_⟩
    · simp at h3
      conv => whnf
      refine ⟨?_, ?_⟩
      · conv => whnf
        exact ⟨by omega, by omega⟩
      conv => whnf
      refine ⟨?_, ?_⟩
      · conv => whnf
        intro _
        exact ⟨by omega, by omega⟩
      conv => whnf
      have e1 : targets.getD (i : Int).toNat I64.dflt = targets.getD i 0 := by simp [I64, Ty.dflt]
      have e2 : old.getD (i : Int).toNat I64.dflt = old.getD i 0 := by simp [I64, Ty.dflt]
      refine ⟨fun h4 => ?_, fun h4 => ?_⟩
      · have h4 : pickB (Operand.tmp 35) (Operand.const (Value.bool false)) (targets.getD (i : Int).toNat I64.dflt == (j : Int)) (old.getD (i : Int).toNat I64.dflt == (j : Int)) false = true := h4
        rw [e1, e2] at h4
        simp only [pickB, Bool.and_eq_true, beq_iff_eq] at h4
        rw [if_pos h4] at hks
        conv => whnf
        refine nextQ_intro (i + 1) (by show i + 1 ≤ targets.length; omega) (by show targets.length - (i + 1) < targets.length - i; omega) (by exact rfl) (by exact rfl) ⟨rfl, trivial⟩ ⟨rfl, rfl, rfl, rfl, rfl, enI (by exact rfl) ?_, enI (by exact rfl) ?_, trivial⟩
        · rw [wrap64 (by omega) (by omega)]; omega
        · rw [wrap64 (by omega) (by omega)]; omega
      · have h4 : pickB (Operand.tmp 35) (Operand.const (Value.bool false)) (targets.getD (i : Int).toNat I64.dflt == (j : Int)) (old.getD (i : Int).toNat I64.dflt == (j : Int)) false = false := h4
        rw [e1, e2] at h4
        have h4 : ¬ (targets.getD i 0 = j ∧ old.getD i 0 = j) := by
          intro h5
          rw [h5.1, h5.2] at h4
          simp [pickB] at h4
        rw [if_neg h4] at hks
        conv => whnf
        refine nextQ_intro (i + 1) (by show i + 1 ≤ targets.length; omega) (by show targets.length - (i + 1) < targets.length - i; omega) (by exact rfl) (by exact rfl) ⟨rfl, trivial⟩ ⟨rfl, rfl, rfl, rfl, rfl, enI (by exact rfl) ?_, enI (by exact rfl) ?_, trivial⟩
        · omega
        · rw [wrap64 (by omega) (by omega)]; omega
    · simp at h3
      have he : i = targets.length := by omega
      subst he
      refine callQ is27 (hs := []) (count_ok _ _) trivial ?_
      conv => whnf
      refine ⟨?_, ?_⟩
      · conv => whnf
        show ((flowTo old targets j).length + 3) * 8 ≤ 140737488355328
        omega
      conv => whnf
      refine nextQ_intro (j + 1) (by show j + 1 ≤ to.toNat; omega) (by show to.toNat - (j + 1) < to.toNat - j; omega) (by exact rfl) (by exact rfl) ⟨chA (by exact rfl) ?_, trivial⟩ ⟨rfl, rfl, rfl, rfl, enI (by exact rfl) ?_, trivial⟩
      · show flowTo old targets j ++ [(keepN old targets j targets.length : Int), IntKind.i64.wrap ((count targets j : Int) - keepN old targets j targets.length), (count targets j : Int)] = flowTo old targets (j + 1)
        rw [wrap64 (by omega) (by omega)]
        unfold flowTo
        rw [List.range_succ, List.flatMap_append]
        simp [flowRow]
      · rw [wrap64 (by omega) (by omega)]; omega
  · simp at h2
    have he : j = to.toNat := by omega
    subst he
    refine ⟨?_, ?_⟩
    · conv => whnf
      show ((flowTo old targets to.toNat).length + 1) * 8 ≤ 140737488355328
      omega
    conv => whnf
    exact postQ_ret [(1000, .arr I64 (flowL old to targets))] (by exact rfl) (by exact rfl) ⟨chA (by exact rfl) rfl, trivial⟩ (by exact rfl) (by exact rfl) ⟨rfl, rfl⟩

theorem flow_ok (old : List Int) (to : Int) (targets : List Int) (ht : targets.length ≤ old.length) (hto : to ≤ 1000000) : Quiet Try.prog 25 [cisl I64 old, cint to, cisl I64 targets] [] (visl I64 (flowL old to targets)) := by
  refine FnOK.freeze 1000 I64 (flow0_ok old to targets ht hto) ?_
  rintro r hs' ⟨rfl, rfl⟩
  exact ⟨_, rfl, rfl, rfl, rfl, rfl⟩

end Go.Sx
