/- What olds, Most and Flow of the reference do. Conditions: none. -/
import Derived.Test.YthilnjignhopkaaEdF1
set_option linter.unusedSimpArgs false
set_option linter.unusedVariables false
set_option maxRecDepth 10000
namespace Go.Sx
open Go Go.Proofs

def oldsTo (l : List Int) : Int := at1 l 0 5
def oldsLo (l : List Int) : Int := at1 l 1 3
def oldsHi (l : List Int) : Int := oldsLo l + at1 l 2 5
def oldsN (l : List Int) : Nat := min l.length 14 - 4
def oldsL (l : List Int) : List Int := (List.range (oldsN l)).map fun (i : Nat) => at1 l ((i : Int) + 4) (oldsTo l + 2) - 1

theorem at1_range (l : List Int) (i most : Int) (h : 1 ≤ most) : 0 ≤ at1 l i most ∧ at1 l i most < most := by
  unfold at1
  split
  · omega
  · have := around_range (l.getD i.toNat 0) most
    omega

theorem olds0_ok (l : List Int) : FnOK Try.prog 6 [cisl I64 l] [] [] (fun r hs' => r = .tup [.cell (.vec 1000), cint (oldsTo l), cint (oldsLo l), cint (oldsHi l)] ∧ hs' = [(1000, .arr I64 (oldsL l))]) := by
  refine FnOK.intro gam_ok fn6 rfl rfl ?_
  intro ⟨hl, _⟩ _
  have hl : l.length ≤ big := hl.1
  have hbig := bigv
  have hto := at1_range l 0 5 (by omega)
  have hlo := at1_range l 1 3 (by omega)
  have hhi := at1_range l 2 5 (by omega)
  apply Tri.of_vc gam_ok []
  conv => whnf
  refine callQ is18 (hs := []) (at1_ok _ _ _) trivial ?_
  conv => whnf
  refine callQ is18 (hs := []) (at1_ok _ _ _) trivial ?_
  conv => whnf
  refine Tri.thaw 8 1000 I64 (by exact rfl) ?_
  refine Tri.loop (α := Nat) (n := 40) (fun i => [(0, visl I64 l), (6, vint (oldsTo l)), (7, vint (oldsLo l)), (8, .one (.cell (.vec 1000))), (9, vint ((i : Int) + 4))]) (fun i => [(1000, .arr I64 ((List.range i).map fun (i : Nat) => at1 l ((i : Int) + 4) (oldsTo l + 2) - 1))]) []
    (fun i => i ≤ oldsN l) (fun i => oldsN l - i) 0 (Nat.zero_le _) rfl ⟨rfl, rfl, rfl, rfl, enI (by exact rfl) (by simp), trivial⟩ ⟨rfl, trivial⟩ rfl ?_
  intro i hi _ _
  unfold oldsN at hi
  apply Tri.of_vc gam_ok []
  conv => whnf
  refine ⟨fun h2 => ?_, fun h2 => ?_⟩
  · conv => whnf
    simp [pickB] at h2
    refine callQ is18 (hs := []) (at1_ok _ _ _) trivial ?_
    conv => whnf
    refine ⟨?_, ?_⟩
    · conv => whnf
      show (((List.range i).map (fun (i : Nat) => at1 l ((i : Int) + 4) (oldsTo l + 2) - 1)).length + 1) * 8 ≤ 140737488355328
      simp; omega
    · conv => whnf
      refine nextQ_intro (i + 1) (by show i + 1 ≤ oldsN l; unfold oldsN; omega) (by show oldsN l - (i + 1) < oldsN l - i; unfold oldsN; omega) (by exact rfl) (by exact rfl) ⟨chA (by exact rfl) ?_, trivial⟩ ⟨rfl, rfl, rfl, rfl, enI (by exact rfl) ?_, trivial⟩
      · show (List.range i).map (fun (i : Nat) => at1 l ((i : Int) + 4) (oldsTo l + 2) - 1) ++ [_] = _
        rw [List.range_succ, List.map_append, List.map_singleton]
        have := at1_range l ((i : Int) + 4) (oldsTo l + 2) (by unfold oldsTo; omega)
        rw [wrap64 (n := oldsTo l + 2) (by unfold oldsTo; omega) (by unfold oldsTo; omega), wrap64 (by unfold oldsTo at *; omega) (by unfold oldsTo at *; omega)]
      · rw [wrap64 (by omega) (by omega)]; omega
  · simp [pickB] at h2
    have he : i = oldsN l := by unfold oldsN; omega
    subst he
    refine callQ is18 (hs := []) (at1_ok _ _ _) trivial ?_
    conv => whnf
    refine postQ_ret [(1000, .arr I64 (oldsL l))] (by exact rfl) (by exact rfl) ⟨chA (by exact rfl) rfl, trivial⟩ (by exact rfl) (by exact rfl) ⟨?_, rfl⟩
    show resSV [V0.cell (.vec 1000), cint (oldsTo l), cint (oldsLo l), cint (IntKind.i64.wrap (oldsLo l + at1 l 2 5))] = _
    rw [wrap64 (by unfold oldsLo; omega) (by unfold oldsLo; omega)]
    rfl

theorem olds_ok (l : List Int) : Quiet Try.prog 6 [cisl I64 l] [] (.tup [cisl I64 (oldsL l), cint (oldsTo l), cint (oldsLo l), cint (oldsHi l)]) := by
  refine FnOK.freeze 1000 I64 (olds0_ok l) ?_
  rintro r hs' ⟨rfl, rfl⟩
  exact ⟨_, rfl, rfl, rfl, rfl, rfl⟩

end Go.Sx
