/- What Network of the reference does. Conditions: none. -/
import Derived.Test.YthilnjignhopkaaEdF4
set_option linter.unusedSimpArgs false
set_option linter.unusedVariables false
set_option maxRecDepth 10000
namespace Go.Sx
open Go Go.Proofs

abbrev EdT : Ty := .prod I64 (.prod I64 (.prod I64 (.prod I64 I64)))

/-- from, to, lo, hi, cost -/
def netRow (old : List Int) (to lo hi : Int) (j : Nat) : List EdT.den :=
  [(to, (j : Int), (0 : Int), (count old j : Int), (0 : Int)), (to, (j : Int), (0 : Int), (old.length : Int), (1 : Int)), ((j : Int), to + 1, lo, min hi (old.length : Int), (0 : Int))]
def netTo (old : List Int) (to lo hi : Int) (j : Nat) : List EdT.den := (List.range j).flatMap (netRow old to lo hi)
def netL (old : List Int) (to lo hi : Int) : List EdT.den := netTo old to lo hi to.toNat ++ [(to + 1, to, (old.length : Int), (old.length : Int), (0 : Int))]

theorem netTo_len (old : List Int) (to lo hi : Int) (j : Nat) : (netTo old to lo hi j).length = 3 * j := by
  induction j with
  | zero => rfl
  | succ j ih => unfold netTo at *; rw [List.range_succ, List.flatMap_append, List.length_append, ih]; simp [netRow]; omega

theorem netL_len (old : List Int) (to lo hi : Int) : (netL old to lo hi).length = 3 * to.toNat + 1 := by
  unfold netL; rw [List.length_append, netTo_len]; rfl

theorem netTo_succ (old : List Int) (to lo hi : Int) (j : Nat) : netTo old to lo hi (j + 1) = netTo old to lo hi j ++ netRow old to lo hi j := by
  unfold netTo; rw [List.range_succ, List.flatMap_append]; simp

theorem net0_ok (old : List Int) (to lo hi : Int) (hto0 : 0 ≤ to) (hto : to ≤ 100000) :
    FnOK Try.prog 16 [cisl I64 old, cint to, cint lo, cint hi] [] [] (fun r hs' => r = .one (.cell (.vec 1000)) ∧ hs' = [(1000, .arr EdT (netL old to lo hi))]) := by
  refine FnOK.intro gam_ok fn16 rfl rfl ?_
  intro ⟨ho, hto', hlo, hhi, _⟩ _
  have ho : old.length ≤ big := ho.1
  have hbig := bigv
  apply Tri.of_vc gam_ok []
  conv => whnf
  refine Tri.thaw 9 1000 EdT (by exact rfl) ?_
  refine Tri.loop (α := Nat) (n := 49) (fun j => [(0, visl I64 old), (1, vint to), (2, vint lo), (3, vint hi), (9, .one (.cell (.vec 1000))), (10, vint old.length), (11, vint j)]) (fun j => [(1000, .arr EdT (netTo old to lo hi j))]) []
    (fun j => j ≤ to.toNat) (fun j => to.toNat - j) 0 (Nat.zero_le _) rfl ⟨rfl, rfl, rfl, rfl, rfl, enI (by exact rfl) rfl, enI (by exact rfl) rfl, trivial⟩ ⟨rfl, trivial⟩ rfl ?_
  intro j hj _ _
  have hlen := netTo_len old to lo hi j
  have hc := count_le old j
  have w1 : IntKind.i64.wrap (to + 1) = to + 1 := wrap64 (by omega) (by omega)
  apply Tri.of_vc gam_ok []
  conv => whnf
  refine ⟨fun h2 => ?_, fun h2 => ?_⟩
  · simp at h2
    conv => whnf
    refine callQ is27 (hs := []) (count_ok _ _) trivial ?_
    conv => whnf
    refine ⟨?_, ?_⟩
    · conv => whnf
      show ((netTo old to lo hi j).length + 3) * 40 ≤ 140737488355328
      omega
    conv => whnf
    refine nextQ_intro (j + 1) (by show j + 1 ≤ to.toNat; omega) (by show to.toNat - (j + 1) < to.toNat - j; omega) (by exact rfl) (by exact rfl) ⟨chA (by exact rfl) ?_, trivial⟩ ⟨rfl, rfl, rfl, rfl, rfl, rfl, enI (by exact rfl) ?_, trivial⟩
    · rw [netTo_succ]
      show netTo old to lo hi j ++ [(to, (j : Int), (0 : Int), (count old j : Int), (0 : Int)), (to, (j : Int), (0 : Int), (old.length : Int), (1 : Int)), ((j : Int), IntKind.i64.wrap (to + 1), lo, (if (old.length : Int) < hi then (old.length : Int) else hi), (0 : Int))] = _
      rw [w1, ite_min]
      rfl
    · rw [wrap64 (by omega) (by omega)]; omega
  · simp at h2
    have he : j = to.toNat := by omega
    subst he
    refine ⟨?_, ?_⟩
    · conv => whnf
      show ((netTo old to lo hi to.toNat).length + 1) * 40 ≤ 140737488355328
      omega
    conv => whnf
    refine postQ_ret [(1000, .arr EdT (netL old to lo hi))] (by exact rfl) (by exact rfl) ⟨chA (by exact rfl) ?_, trivial⟩ (by exact rfl) (by exact rfl) ⟨rfl, rfl⟩
    show netTo old to lo hi to.toNat ++ [(IntKind.i64.wrap (to + 1), to, (old.length : Int), (old.length : Int), (0 : Int))] = _
    rw [w1]
    rfl

theorem net_ok (old : List Int) (to lo hi : Int) (hto0 : 0 ≤ to) (hto : to ≤ 100000) : Quiet Try.prog 16 [cisl I64 old, cint to, cint lo, cint hi] [] (visl EdT (netL old to lo hi)) := by
  refine FnOK.freeze 1000 EdT (net0_ok old to lo hi hto0 hto) ?_
  rintro r hs' ⟨rfl, rfl⟩
  exact ⟨_, rfl, rfl, rfl, rfl, rfl⟩

end Go.Sx
