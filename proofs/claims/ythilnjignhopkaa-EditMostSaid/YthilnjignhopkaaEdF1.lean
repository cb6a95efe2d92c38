/- What the small functions do: Take, Around, SameInts, Keep (twice), At, count. Conditions: none. -/
import Derived.Test.YthilnjignhopkaaSxSeat
set_option linter.unusedSimpArgs false
set_option linter.unusedVariables false
set_option maxRecDepth 10000
namespace Go.Sx
open Go Go.Proofs

theorem bigv : big = 140737488355328 := rfl

def around (n most : Int) : Int := if most < 1 then 0 else Int.tmod (if n < 0 then -(n + 1) else n) most

theorem around_range (n most : Int) : 0 ≤ around n most ∧ (around n most < most ∨ (most < 1 ∧ around n most = 0)) := by
  unfold around
  split
  · exact ⟨Int.le_refl _, .inr ⟨by assumption, rfl⟩⟩
  · rename_i h
    have hx : 0 ≤ (if n < 0 then -(n + 1) else n) := by split <;> omega
    refine ⟨Int.tmod_nonneg _ hx, .inl ?_⟩
    exact Int.tmod_lt_of_pos _ (by omega)

theorem around_ok (n most : Int) : Quiet Try.prog 8 [cint n, cint most] [] (vint (around n most)) := by
  refine FnOK.intro gam_ok fn8 rfl rfl ?_
  intro ⟨hn, hm, _⟩ _
  have hn := inR_i64.1 hn
  have hm := inR_i64.1 hm
  apply Tri.of_vc gam_ok []
  conv => whnf
  refine ⟨fun h1 => ?_, fun h1 => ?_⟩
  all_goals
    conv => whnf
    refine ⟨fun h2 => ?_, fun h2 => ?_⟩
  · refine quiet_int (by exact rfl) (by exact rfl) (by exact trivial) (by exact rfl) ?_
    simp [around] at *; omega
  · conv => whnf
    refine ⟨?_, ?_⟩
    · show most ≠ 0
      simp at h2; omega
    · refine quiet_int (by exact rfl) (by exact rfl) (by exact trivial) (by exact rfl) ?_
      simp only [decide_eq_true_eq, decide_eq_false_iff_not] at h1 h2
      rw [wrap64 (n := n + 1) (by omega) (by omega), wrap64 (by omega) (by omega)]
      unfold around
      rw [if_neg h2, if_pos h1, Int.zero_sub]
  · refine quiet_int (by exact rfl) (by exact rfl) (by exact trivial) (by exact rfl) ?_
    simp [around] at *; omega
  · conv => whnf
    refine ⟨?_, ?_⟩
    · show most ≠ 0
      simp at h2; omega
    · refine quiet_int (by exact rfl) (by exact rfl) (by exact trivial) (by exact rfl) ?_
      simp only [decide_eq_false_iff_not] at h1 h2
      unfold around
      rw [if_neg h2, if_neg h1]

def at1 (l : List Int) (i most : Int) : Int := if i < 0 ∨ i ≥ l.length then 0 else around (l.getD i.toNat 0) most

theorem at1_ok (l : List Int) (i most : Int) : Quiet Try.prog 18 [cisl I64 l, cint i, cint most] [] (vint (at1 l i most)) := by
  refine FnOK.intro gam_ok fn18 rfl rfl ?_
  intro ⟨hl, hi, hm, _⟩ _
  apply Tri.of_vc gam_ok []
  conv => whnf
  refine ⟨fun h1 => ?_, fun h1 => ?_⟩
  · conv => whnf
    refine quiet_int (by exact rfl) (by exact rfl) (by exact trivial) (by exact rfl) ?_
    simp [pickB] at h1
    unfold at1
    rw [if_pos (by omega)]
  · conv => whnf
    simp [pickB] at h1
    refine ⟨?_, ?_⟩
    · show 0 ≤ i ∧ i < l.length
      omega
    · conv => whnf
      refine callQ is8 (hs := []) (around_ok _ _) trivial ?_
      conv => whnf
      refine quiet_int (by exact rfl) (by exact rfl) (by exact trivial) (by exact rfl) ?_
      unfold at1
      rw [if_neg (by omega)]
      rfl

def keep (old lo hi : Int) : Int := if old < lo then lo else min old hi

theorem keep13_ok (old lo hi : Int) : Quiet Try.prog 13 [cint old, cint lo, cint hi] [] (vint (keep old lo hi)) := by
  refine FnOK.intro gam_ok fn13 rfl rfl ?_
  intro _ _
  apply Tri.of_vc gam_ok []
  conv => whnf
  refine ⟨fun h1 => ?_, fun h1 => ?_⟩
  · refine quiet_int (by exact rfl) (by exact rfl) (by exact trivial) (by exact rfl) ?_
    simp [keep] at *; omega
  · refine quiet_int (by exact rfl) (by exact rfl) (by exact trivial) (by exact rfl) ?_
    simp [keep] at *; omega

theorem keep14_ok (old lo hi : Int) : Quiet Try.prog 14 [cint old, cint lo, cint hi] [] (vint (keep old lo hi)) := by
  refine FnOK.intro gam_ok fn14 rfl rfl ?_
  intro _ _
  apply Tri.of_vc gam_ok []
  conv => whnf
  refine ⟨fun h1 => ?_, fun h1 => ?_⟩
  · refine quiet_int (by exact rfl) (by exact rfl) (by exact trivial) (by exact rfl) ?_
    simp [keep] at *; omega
  · refine quiet_int (by exact rfl) (by exact rfl) (by exact trivial) (by exact rfl) ?_
    simp [keep] at *; omega

theorem same_ok (a b : List Int) : Quiet Try.prog 11 [cisl I64 a, cisl I64 b] [] (vbool (decide (a = b))) := by
  refine FnOK.intro gam_ok fn11 rfl rfl ?_
  intro ⟨ha, hb, _⟩ _
  have ha : a.length ≤ big := ha.1
  have hb : b.length ≤ big := hb.1
  have hbig := bigv
  apply Tri.of_vc gam_ok []
  conv => whnf
  refine ⟨fun h1 => ?_, fun h1 => ?_⟩
  · refine quiet_bool (by exact rfl) (by exact rfl) (by exact trivial) (by exact rfl) ?_
    simp at h1
    have : a ≠ b := fun e => h1 (by rw [e])
    simp [this]
  · conv => whnf
    have hl : a.length = b.length := by simp at h1; omega
    refine Tri.loop (α := Nat) (n := 26) (fun i => [(0, visl I64 a), (1, visl I64 b), (4, vbool false), (5, vint i)]) (fun _ => []) [] (fun i => i ≤ a.length ∧ ∀ j, j < i → a.getD j 0 = b.getD j 0) (fun i => a.length - i) 0 ⟨Nat.zero_le _, by omega⟩ rfl ⟨rfl, rfl, rfl, rfl, trivial⟩ trivial rfl ?_
    intro i ⟨hi, hall⟩ _ _
    apply Tri.of_vc gam_ok []
    conv => whnf
    refine ⟨fun h2 => ?_, fun h2 => ?_⟩
    · conv => whnf
      simp at h2
      refine Tri.draw gam_ok mixed [0, 0, 3, 7, 0, 0, 48, 112, 255] 256 [17, 18, 19, 20, 21, 22, 23, 24] [] (by rfl) (by rfl) (by rfl) ?_
      conv => whnf
      refine ⟨?_, ?_⟩
      · show 0 ≤ (i : Int) ∧ (i : Int) < (a.length : Nat)
        omega
      conv => whnf
      refine ⟨?_, ?_⟩
      · show 0 ≤ (i : Int) ∧ (i : Int) < (b.length : Nat)
        omega
      conv => whnf
      refine ⟨by kernel_rfl, ?_⟩
      conv => whnf
      refine ⟨fun h3 => ?_, fun h3 => ?_⟩
      · refine quiet_bool (by exact rfl) (by exact rfl) (by exact trivial) (by exact rfl) ?_
        have : a ≠ b := fun e => by rw [e] at h3; simp at h3
        simp [this]
      · conv => whnf
        have h3 : a.getD i 0 = b.getD i 0 := by
          have h4 : (a.getD (i : Int).toNat I64.dflt != b.getD (i : Int).toNat I64.dflt) = false := h3
          simpa [I64, Ty.dflt] using h4
        refine nextQ_intro (i + 1) ⟨by omega, fun j hj => ?_⟩ (by show a.length - (i + 1) < a.length - i; omega) (by exact rfl) (by exact rfl) trivial ⟨rfl, rfl, rfl, en_int ?_ (by exact rfl), trivial⟩
        · by_cases e : j = i
          · rw [e]; exact h3
          · exact hall j (by omega)
        · rw [wrap64 (by omega) (by omega)]; omega
    · refine quiet_bool (by exact rfl) (by exact rfl) (by exact trivial) (by exact rfl) ?_
      simp at h2
      have : a = b := by
        apply List.ext_getElem hl
        intro j h1 h2
        have := hall j (by omega)
        simpa [h1, h2] using this
      simp [this]

def count (l : List Int) (n : Int) : Nat := l.count n

theorem count_ok (l : List Int) (n : Int) : Quiet Try.prog 27 [cisl I64 l, cint n] [] (vint (count l n)) := by
  refine FnOK.intro gam_ok fn27 rfl rfl ?_
  intro ⟨hl, hn, _⟩ _
  have hl : l.length ≤ big := hl.1
  have hbig := bigv
  apply Tri.of_vc gam_ok []
  conv => whnf
  refine Tri.loop (α := Nat) (n := 22) (fun i => [(0, visl I64 l), (1, vint n), (4, vint 0), (5, vint (count (l.take i) n)), (6, vint i)]) (fun _ => []) [] (fun i => i ≤ l.length) (fun i => l.length - i) 0 (Nat.zero_le _) rfl ⟨rfl, rfl, rfl, en_int rfl (by exact rfl), rfl, trivial⟩ trivial rfl ?_
  intro i hi _ _
  have hc : count (l.take i) n ≤ i := by
    have := List.count_le_length (a := n) (l := l.take i)
    unfold count
    simp at this ⊢; omega
  apply Tri.of_vc gam_ok []
  conv => whnf
  refine ⟨fun h2 => ?_, fun h2 => ?_⟩
  · conv => whnf
    simp at h2
    have hstep : count (l.take (i + 1)) n = count (l.take i) n + (if l.getD i 0 = n then 1 else 0) := by
      unfold count
      rw [List.take_add_one, List.count_append]
      simp [h2]
      split <;> simp_all
    refine ⟨?_, ?_⟩
    · show 0 ≤ (i : Int) ∧ (i : Int) < (l.length : Nat)
      omega
    conv => whnf
    refine ⟨fun h3 => ?_, fun h3 => ?_⟩
    · conv => whnf
      have h3 : l.getD i 0 = n := by
        have h4 : (l.getD (i : Int).toNat I64.dflt == n) = true := h3
        simpa [I64, Ty.dflt] using h4
      rw [if_pos h3] at hstep
      refine nextQ_intro (i + 1) (by show i + 1 ≤ l.length; omega) (by show l.length - (i + 1) < l.length - i; omega) (by exact rfl) (by exact rfl) trivial ⟨rfl, rfl, rfl, en_int ?_ (by exact rfl), en_int ?_ (by exact rfl), trivial⟩
      · rw [wrap64 (by omega) (by omega)]; omega
      · rw [wrap64 (by omega) (by omega)]; omega
    · conv => whnf
      have h3 : ¬ l.getD i 0 = n := by
        have h4 : (l.getD (i : Int).toNat I64.dflt == n) = false := h3
        simpa [I64, Ty.dflt] using h4
      rw [if_neg h3] at hstep
      refine nextQ_intro (i + 1) (by show i + 1 ≤ l.length; omega) (by show l.length - (i + 1) < l.length - i; omega) (by exact rfl) (by exact rfl) trivial ⟨rfl, rfl, rfl, en_int ?_ (by exact rfl), en_int ?_ (by exact rfl), trivial⟩
      · omega
      · rw [wrap64 (by omega) (by omega)]; omega
  · refine quiet_int (by exact rfl) (by exact rfl) (by exact trivial) (by exact rfl) ?_
    simp at h2
    rw [List.take_of_length_le h2]

theorem take_ok (l : List Int) (most : Int) (hm : 0 ≤ most) (hm2 : most ≤ 1000000) : Quiet Try.prog 7 [cisl I64 l, cint most] [] (visl I64 (l.take most.toNat)) := by
  refine FnOK.freeze 113 I64 (Q := fun r hs' => r = .one (.cell (.vec 113)) ∧ hs' = [(113, .arr I64 (l.take most.toNat))]) ?_ ?_
  · refine FnOK.intro gam_ok fn7 rfl rfl ?_
    intro ⟨hl, hm', _⟩ _
    have hl : l.length ≤ big := hl.1
    have hbig := bigv
    apply Tri.of_vc gam_ok []
    conv => whnf
    have hmin : (min (l.length : Int) most).toNat = min l.length most.toNat := by omega
    refine ⟨?_, ?_⟩
    · conv => whnf
      split <;> omega
    have hmin : (if most < (l.length : Int) then most else (l.length : Int)).toNat = min l.length most.toNat := by split <;> omega
    conv => whnf
    refine ⟨?_, ?_⟩
    · show (([] : List Int).length + (l.take (if most < (l.length : Int) then most else (l.length : Int)).toNat).length) * 8 ≤ 140737488355328
      rw [List.length_take]
      simp only [List.length_nil]
      omega
    · refine postQ_ret [(113, .arr I64 (l.take most.toNat))] (by exact rfl) (by exact rfl) ?_ (by exact rfl) (by exact rfl) ⟨by exact rfl, rfl⟩
      refine ⟨ch_arr ?_ (by exact rfl), trivial⟩
      show [] ++ l.take (if most < (l.length : Int) then most else (l.length : Int)).toNat = l.take most.toNat
      rw [hmin, List.nil_append, List.take_eq_take_iff]
      omega
  · rintro r hs' ⟨rfl, rfl⟩
    exact ⟨_, rfl, rfl, rfl, rfl, rfl⟩

end Go.Sx
