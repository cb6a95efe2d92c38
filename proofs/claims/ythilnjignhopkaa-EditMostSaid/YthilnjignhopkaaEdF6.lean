/- What Refs of the reference does. Conditions: none. -/
import Derived.Test.YthilnjignhopkaaEdF5
set_option linter.unusedSimpArgs false
set_option linter.unusedVariables false
set_option maxRecDepth 10000
namespace Go.Sx
open Go Go.Proofs

def incAt (l : List Int) (j : Nat) (d : Int) : List Int := l.set j (l.getD j 0 + d)

/-- How many records from number i on can keep their targets. -/
def mostAt (old : List Int) (lo hi : Int) (used : List Int) (i : Nat) : Int := mostV lo hi used (fun j => count (old.drop i) j) ((old.drop i).length : Nat)

/-- The same, record i having target j. -/
def restAt (old : List Int) (lo hi : Int) (used : List Int) (i j : Nat) : Int :=
  if old.getD i 0 = (j : Int) ∧ mostAt old lo hi (incAt used j 1) (i + 1) ≥ 0 then mostAt old lo hi (incAt used j 1) (i + 1) + 1 else mostAt old lo hi (incAt used j 1) (i + 1)

def goodAt (old : List Int) (lo hi : Int) (used : List Int) (i j : Nat) : Bool := decide (used.getD j 0 < hi) && decide (restAt old lo hi used i j = mostAt old lo hi used i)

def findAt (old : List Int) (to : Nat) (lo hi : Int) (used : List Int) (i : Nat) : Option Nat := (List.range to).find? (goodAt old lo hi used i)

def stepAt (old : List Int) (to : Nat) (lo hi : Int) (i : Nat) (s : List Int × List Int) : List Int × List Int :=
  match findAt old to lo hi s.1 i with
  | some j => (incAt s.1 j 1, s.2 ++ [(j : Int)])
  | none => s

def greedy (old : List Int) (to : Nat) (lo hi : Int) : Nat → List Int × List Int
  | 0 => (List.replicate to 0, [])
  | i + 1 => stepAt old to lo hi i (greedy old to lo hi i)

/-- The error of Refs; 0: none. -/
def refsErr (old : List Int) (to lo hi : Int) : Int :=
  if (old.length : Int) > 512 ∨ to > 62 then 4
  else if (to < 0 ∨ lo < 0) ∨ lo > hi then 1
  else if (old.length : Int) < to * min lo 1000 ∨ (old.length : Int) > to * min hi (old.length : Int) then 14
  else 0

def refsL (old : List Int) (to lo hi : Int) : List Int :=
  if refsErr old to lo hi = 0 then (greedy old to.toNat lo (min hi (old.length : Int)) old.length).2 else []

theorem getD_incAt (l : List Int) (j : Nat) (d : Int) (k : Nat) (hj : j < l.length) : (incAt l j d).getD k 0 = if k = j then l.getD j 0 + d else l.getD k 0 := by
  unfold incAt
  by_cases h : k = j
  · subst h; simp [hj]
  · simp [List.getD_eq_getElem?_getD, List.getElem?_set_ne (Ne.symm h), h]

theorem incAt_back (l : List Int) (j : Nat) (h : j < l.length) : incAt (incAt l j 1) j (-1) = l := by
  apply List.ext_getElem
  · simp [incAt]
  · intro k h1 h2
    have e1 := getD_incAt (incAt l j 1) j (-1) k (by simp [incAt]; omega)
    have e2 := getD_incAt l j 1 k h
    have e3 := getD_incAt l j 1 j h
    rw [e2, e3] at e1
    rw [List.getD_eq_getElem?_getD, List.getElem?_eq_getElem h1] at e1
    simp only [Option.getD_some] at e1
    rw [e1]
    by_cases hk : k = j
    · subst hk; simp [h]; omega
    · simp [hk, h2]

theorem findAt_is {old : List Int} {to : Nat} {lo hi : Int} {used : List Int} {i j : Nat} (hb : ∀ k, k < j → goodAt old lo hi used i k = false) (hg : goodAt old lo hi used i j = true) (hj : j < to) : findAt old to lo hi used i = some j := by
  unfold findAt
  rw [List.find?_range_eq_some]
  exact ⟨hg, by simpa using hj, fun k hk => by rw [hb k hk]; rfl⟩

theorem findAt_not {old : List Int} {to : Nat} {lo hi : Int} {used : List Int} {i : Nat} (hb : ∀ k, k < to → goodAt old lo hi used i k = false) : findAt old to lo hi used i = none := by
  unfold findAt
  rw [List.find?_eq_none]
  intro k hk
  rw [hb k (by simpa using hk)]
  simp

/-- What holds of the state of greedy. -/
structure GSt (to : Nat) (hi : Int) (i : Nat) (s : List Int × List Int) : Prop where
  len : s.1.length = to
  us : ∀ j, 0 ≤ s.1.getD j 0 ∧ s.1.getD j 0 ≤ hi
  out : s.2.length ≤ i

theorem findAt_some {old : List Int} {to : Nat} {lo hi : Int} {used : List Int} {i j : Nat} (h : findAt old to lo hi used i = some j) : j < to ∧ used.getD j 0 < hi ∧ restAt old lo hi used i j = mostAt old lo hi used i := by
  unfold findAt at h
  have h1 := List.mem_of_find?_eq_some h
  have h2 := List.find?_some h
  simp only [goodAt, Bool.and_eq_true, decide_eq_true_eq] at h2
  exact ⟨by simpa using h1, h2⟩

theorem greedy_st (old : List Int) (to : Nat) (lo hi : Int) (hhi : 0 ≤ hi) (i : Nat) : GSt to hi i (greedy old to lo hi i) := by
  induction i with
  | zero => exact ⟨by simp [greedy], fun j => by simp only [greedy, List.getD_eq_getElem?_getD, List.getElem?_replicate]; split <;> simp [hhi], by simp [greedy]⟩
  | succ i ih =>
    simp only [greedy]
    unfold stepAt
    split
    · rename_i j hj
      obtain ⟨h1, h2, _⟩ := findAt_some hj
      have hl := ih.len
      refine ⟨by simp [incAt, hl], fun k => ?_, by have := ih.out; simp; omega⟩
      rw [getD_incAt _ _ _ _ (by omega)]
      have := ih.us k
      have := ih.us j
      split <;> omega
    · exact ⟨ih.len, ih.us, by have := ih.out; omega⟩

theorem mostV_le {lo hi : Int} {used : List Int} {cnt : Nat → Int} {m : Int} (h1 : 0 ≤ lo) (h2 : lo ≤ 1000) (h3 : 0 ≤ hi) (h4 : hi ≤ 1000) (hu : ∀ j, 0 ≤ used.getD j 0 ∧ used.getD j 0 ≤ 1000) (hc : ∀ j, 0 ≤ cnt j ∧ cnt j ≤ 1000) (hl : used.length ≤ 1000) (hm : 0 ≤ m ∧ m ≤ 1000) :
    -10000000000 ≤ mostV lo hi used cnt m ∧ mostV lo hi used cnt m ≤ 10000000000 := by
  have := mostSt_range (used := used) (cnt := cnt) h1 (by omega) h3 (by omega) (fun j => by have := hu j; omega) (fun j => by have := hc j; omega) used.length
  unfold mostV
  split <;> omega

theorem refs0_ok (old : List Int) (to lo hi : Int) (hlen : old.length ≤ 100000) :
    FnOK Try.prog 10 [cisl I64 old, cint to, cint lo, cint hi] [] [] (fun r hs' => (r = .tup [.cell (.vec 1000), cint 0] ∧ hs' = [(1000, .arr I64 (refsL old to lo hi))] ∧ refsErr old to lo hi = 0) ∨ (r = .tup [.cell .nilsl, cint (refsErr old to lo hi)] ∧ hs' = [] ∧ refsErr old to lo hi ≠ 0)) := by
  refine FnOK.intro gam_ok fn10 rfl rfl ?_
  intro ⟨_, hto, hlo, hhi, _⟩ _
  have hto := inR_i64.1 hto
  have hlo := inR_i64.1 hlo
  have hhi := inR_i64.1 hhi
  apply Tri.of_vc gam_ok []
  conv => whnf
  refine ⟨fun h1 => ?_, fun h1 => ?_⟩
  · simp [pickB] at h1
    have he : refsErr old to lo hi = 4 := by unfold refsErr; rw [if_pos (by omega)]
    refine postQ_ret [] (by exact rfl) (by exact rfl) (by exact trivial) (by exact rfl) (by exact rfl) (.inr ⟨?_, rfl, by rw [he]; decide⟩)
    rw [he]; rfl
  simp [pickB] at h1
  conv => whnf
  refine ⟨fun h2 => ?_, fun h2 => ?_⟩
  · simp [pickB] at h2
    have he : refsErr old to lo hi = 1 := by unfold refsErr; rw [if_neg (by omega), if_pos (by omega)]
    refine postQ_ret [] (by exact rfl) (by exact rfl) (by exact trivial) (by exact rfl) (by exact rfl) (.inr ⟨?_, rfl, by rw [he]; decide⟩)
    rw [he]; rfl
  simp [pickB] at h2
  have hm1 : 0 ≤ to * min lo 1000 ∧ to * min lo 1000 ≤ 62 * 1000 := ⟨Int.mul_nonneg h2.1.1 (by omega), Int.mul_le_mul h1.2 (by omega) (by omega) (by omega)⟩
  have hm2 : 0 ≤ to * min hi (old.length : Int) ∧ to * min hi (old.length : Int) ≤ 62 * 512 := ⟨Int.mul_nonneg h2.1.1 (by omega), Int.mul_le_mul h1.2 (by omega) (by omega) (by omega)⟩
  conv => whnf
  refine ⟨fun h3 => ?_, fun h3 => ?_⟩
  · have h3 : (decide ((old.length : Int) < IntKind.i64.wrap (to * (if (1000 : Int) < lo then 1000 else lo))) || decide ((old.length : Int) > IntKind.i64.wrap (to * (if (old.length : Int) < hi then (old.length : Int) else hi)))) = true := h3
    rw [ite_min, ite_min, wrap64 (by omega) (by omega), wrap64 (by omega) (by omega)] at h3
    simp only [Bool.or_eq_true, decide_eq_true_eq] at h3
    have he : refsErr old to lo hi = 14 := by unfold refsErr; rw [if_neg (by omega), if_neg (by omega), if_pos h3]
    refine postQ_ret [] (by exact rfl) (by exact rfl) (by exact trivial) (by exact rfl) (by exact rfl) (.inr ⟨?_, rfl, by rw [he]; decide⟩)
    rw [he]; rfl
  have h3 : (decide ((old.length : Int) < IntKind.i64.wrap (to * (if (1000 : Int) < lo then 1000 else lo))) || decide ((old.length : Int) > IntKind.i64.wrap (to * (if (old.length : Int) < hi then (old.length : Int) else hi)))) = false := h3
  rw [ite_min, ite_min, wrap64 (by omega) (by omega), wrap64 (by omega) (by omega)] at h3
  simp only [Bool.or_eq_false_iff, decide_eq_false_iff_not] at h3
  have he : refsErr old to lo hi = 0 := by unfold refsErr; rw [if_neg (by omega), if_neg (by omega), if_neg (not_or.2 h3)]
  have hlo2 : to = 0 ∨ lo ≤ 512 := by
    by_cases h0 : to = 0
    · exact .inl h0
    · right
      have : min lo 1000 ≤ to * min lo 1000 := by
        have := Int.mul_le_mul_of_nonneg_right (show 1 ≤ to by omega) (show 0 ≤ min lo 1000 by omega)
        omega
      omega
  have hi0 : 0 ≤ min hi (old.length : Int) := by omega
  have hgr := greedy_st old to.toNat lo (min hi (old.length : Int)) hi0
  refine ⟨?_, ?_⟩
  · conv => whnf
    refine ⟨⟨by omega, ?_⟩, rfl⟩
    show to * 8 ≤ 140737488355328
    omega
  conv => whnf
  refine Tri.thaw 11 1000 I64 (by exact rfl) ?_
  refine Tri.loop (α := Nat) (n := 119) (fun i => [(0, visl I64 old), (1, vint to), (2, vint lo), (3, vint (min hi (old.length : Int))), (10, .one (.cell (.vec 154))), (11, .one (.cell (.vec 1000))), (12, vint i)])
    (fun i => [(154, .arr I64 (greedy old to.toNat lo (min hi (old.length : Int)) i).1), (1000, .arr I64 (greedy old to.toNat lo (min hi (old.length : Int)) i).2)]) []
    (fun i => i ≤ old.length) (fun i => old.length - i) 0 (Nat.zero_le _) rfl ⟨rfl, rfl, rfl, enI (by exact rfl) (ite_min _ _), rfl, rfl, enI (by exact rfl) rfl, trivial⟩ ⟨chA (by exact rfl) rfl, rfl, trivial⟩ rfl ?_
  intro i hi2 _ _
  have hg := hgr i
  have hmost : ∀ (used : List Int) (k : Nat), (∀ j, 0 ≤ used.getD j 0 ∧ used.getD j 0 ≤ 1000) → used.length = to.toNat → Quiet Try.prog 24 [cisl I64 (old.drop k), .cell (.vec 154), cint lo, cint (min hi (old.length : Int))] [(154, .arr I64 used)] (vint (mostAt old lo (min hi (old.length : Int)) used k)) := fun used k hu hul => by
    refine Quiet.ren [154] (refMost_ok (old.drop k) used lo (min hi (old.length : Int)) ?_ (by simp; omega)) rfl rfl rfl rfl rfl
    rcases hlo2 with h0 | h0
    · left; rw [← List.length_eq_zero_iff, hul, h0]; rfl
    · right; exact ⟨h2.1.2, by omega, hi0, by omega, hu, by omega, by simp; omega⟩
  have hmostle : ∀ (used : List Int) (k : Nat), (∀ j, 0 ≤ used.getD j 0 ∧ used.getD j 0 ≤ 1000) → used.length = to.toNat → -10000000000 ≤ mostAt old lo (min hi (old.length : Int)) used k ∧ mostAt old lo (min hi (old.length : Int)) used k ≤ 10000000000 := fun used k hu hul => by
    rcases hlo2 with h0 | h0
    · have : used = [] := by rw [← List.length_eq_zero_iff, hul, h0]; rfl
      subst this
      unfold mostAt mostV
      simp only [List.length_nil, mostSt]
      have : ((old.drop k).length : Int) ≤ 512 := by simp; omega
      split <;> omega
    · refine mostV_le h2.1.2 (by omega) hi0 (by omega) hu (fun j => ?_) (by omega) (by simp; omega)
      have := count_le (old.drop k) j
      simp at this; omega
  have hu0 : ∀ j, 0 ≤ (greedy old to.toNat lo (min hi (old.length : Int)) i).1.getD j 0 ∧ (greedy old to.toNat lo (min hi (old.length : Int)) i).1.getD j 0 ≤ 1000 := fun j => by have := hg.us j; omega
  have hul := hg.len
  have hol := hg.out
  generalize hgi : greedy old to.toNat lo (min hi (old.length : Int)) i = s at *
  obtain ⟨used, out⟩ := s
  simp only at hu0 hul hol
  apply Tri.of_vc gam_ok []
  conv => whnf
  refine ⟨fun h4 => ?_, fun h4 => ?_⟩
  · simp at h4
    conv => whnf
    refine ⟨?_, ?_⟩
    · conv => whnf
      exact ⟨by omega, by omega⟩
    conv => whnf
    refine callQ is24 (hs := [(154, .arr I64 used)]) (hmost used i hu0 hul) ⟨rfl, trivial⟩ ?_
    conv => whnf
    refine Tri.loop (α := Nat) (n := 119) (fun j => [(0, visl I64 old), (1, vint to), (2, vint lo), (3, vint (min hi (old.length : Int))), (10, .one (.cell (.vec 154))), (11, .one (.cell (.vec 1000))), (12, vint i), (13, vint (mostAt old lo (min hi (old.length : Int)) used i)), (14, vint j)])
      (fun _ => [(154, .arr I64 used), (1000, .arr I64 out)]) [] (fun j => j ≤ to.toNat ∧ ∀ k, k < j → goodAt old lo (min hi (old.length : Int)) used i k = false) (fun j => to.toNat - j) 0 ⟨Nat.zero_le _, fun k hk => by omega⟩ rfl ⟨rfl, rfl, rfl, rfl, rfl, rfl, rfl, enI (by exact rfl) rfl, enI (by exact rfl) rfl, trivial⟩ ⟨rfl, rfl, trivial⟩ rfl ?_
    intro j ⟨hj, hbad⟩ _ _
    apply Tri.of_vc gam_ok []
    conv => whnf
    refine ⟨fun h5 => ?_, fun h5 => ?_⟩
    · simp at h5
      have hj2 : j < to.toNat := by omega
      have huj := hu0 j
      have hgj := getD_incAt used j 1
      have wi : IntKind.i64.wrap ((i : Int) + 1) = ((i + 1 : Nat) : Int) := by rw [wrap64 (by omega) (by omega)]; omega
      conv => whnf
      refine ⟨?_, ?_⟩
      · conv => whnf
        exact ⟨by omega, by omega⟩
      have e1 : used.getD (j : Int).toNat I64.dflt = used.getD j 0 := by simp [Ty.dflt]
      have e2 : old.getD (i : Int).toNat I64.dflt = old.getD i 0 := by simp [Ty.dflt]
      have wj : IntKind.i64.wrap ((j : Int) + 1) = ((j + 1 : Nat) : Int) := by rw [wrap64 (by omega) (by omega)]; omega
      conv => whnf
      refine ⟨fun h6 => ?_, fun h6 => ?_⟩
      · have h6 : decide (used.getD (j : Int).toNat I64.dflt ≥ min hi (old.length : Int)) = true := h6
        rw [e1, decide_eq_true_eq] at h6
        conv => whnf
        refine nextQ_intro (j + 1) ⟨by omega, fun k hk => ?_⟩ (by show to.toNat - (j + 1) < to.toNat - j; omega) (by exact rfl) (by exact rfl) ⟨rfl, rfl, trivial⟩ ⟨rfl, rfl, rfl, rfl, rfl, rfl, rfl, rfl, enI (by exact rfl) wj, trivial⟩
        by_cases hkj : k = j
        · subst hkj
          unfold goodAt
          rw [decide_eq_false (by omega)]; rfl
        · exact hbad k (by omega)
      · have h6 : decide (used.getD (j : Int).toNat I64.dflt ≥ min hi (old.length : Int)) = false := h6
        rw [e1, decide_eq_false_iff_not] at h6
        have hu1 : ∀ k, 0 ≤ (incAt used j 1).getD k 0 ∧ (incAt used j 1).getD k 0 ≤ 1000 := fun k => by
          rw [hgj k (by omega)]
          have := hu0 k
          split <;> omega
        have hl1 : (incAt used j 1).length = to.toNat := by simp [incAt, hul]
        have hr := hmostle (incAt used j 1) (i + 1) hu1 hl1
        have hfound : goodAt old lo (min hi (old.length : Int)) used i j = true → greedy old to.toNat lo (min hi (old.length : Int)) (i + 1) = (incAt used j 1, out ++ [(j : Int)]) := fun hgood => by
          have := findAt_is hbad hgood hj2
          simp only [greedy, hgi, stepAt, this]
        have hset1 : used.set (j : Int).toNat (IntKind.i64.wrap (used.getD (j : Int).toNat I64.dflt + 1)) = incAt used j 1 := by
          rw [e1, wrap64 (by omega) (by omega)]; rfl
        have hset2 : (incAt used j 1).set (j : Int).toNat (IntKind.i64.wrap ((incAt used j 1).getD (j : Int).toNat I64.dflt - 1)) = used := by
          have e3 : (incAt used j 1).getD (j : Int).toNat I64.dflt = (incAt used j 1).getD j 0 := by simp [Ty.dflt]
          have := hu1 j
          rw [e3, wrap64 (by omega) (by omega)]
          have := incAt_back used j (by omega)
          unfold incAt at this ⊢
          rw [Int.sub_eq_add_neg]
          exact this
        conv => whnf
        refine ⟨?_, ?_⟩
        · conv => whnf
          exact ⟨by omega, by omega⟩
        conv => whnf
        refine ⟨?_, ?_⟩
        · conv => whnf
          exact ⟨by omega, by omega⟩
        conv => whnf
        refine ⟨?_, ?_⟩
        · conv => whnf
          rw [wi]
          exact ⟨by omega, by omega⟩
        conv => whnf
        refine callQe [cisl I64 (old.drop (i + 1)), .cell (.vec 154), cint lo, cint (min hi (old.length : Int))] is24 ?_ (hs := [(154, .arr I64 (incAt used j 1))]) (hmost (incAt used j 1) (i + 1) hu1 hl1) ⟨chA (by exact rfl) hset1, trivial⟩ ?_
        · show [cisl I64 (old.drop (IntKind.i64.wrap ((i : Int) + 1)).toNat), _, _, _] = _
          rw [wi]; rfl
        · conv => whnf
          refine ⟨?_, ?_⟩
          · conv => whnf
            exact ⟨by omega, by omega⟩
          conv => whnf
          refine ⟨fun h7 => ?_, fun h7 => ?_⟩
          · have h7 : ((old.getD (i : Int).toNat I64.dflt == (j : Int)) && decide (mostAt old lo (min hi (old.length : Int)) (incAt used j 1) (i + 1) ≥ 0)) = true := h7
            rw [e2, Bool.and_eq_true, beq_iff_eq, decide_eq_true_eq] at h7
            have hrest : restAt old lo (min hi (old.length : Int)) used i j = mostAt old lo (min hi (old.length : Int)) (incAt used j 1) (i + 1) + 1 := by unfold restAt; rw [if_pos h7]
            have wr : IntKind.i64.wrap (mostAt old lo (min hi (old.length : Int)) (incAt used j 1) (i + 1) + 1) = restAt old lo (min hi (old.length : Int)) used i j := by rw [hrest]; exact wrap64 (by omega) (by omega)
            conv => whnf
            refine ⟨fun h8 => ?_, fun h8 => ?_⟩
            · have h8 : (IntKind.i64.wrap (mostAt old lo (min hi (old.length : Int)) (incAt used j 1) (i + 1) + 1) == mostAt old lo (min hi (old.length : Int)) used i) = true := h8
              rw [wr, beq_iff_eq] at h8
              have hgood : goodAt old lo (min hi (old.length : Int)) used i j = true := by unfold goodAt; rw [decide_eq_true (by omega), decide_eq_true h8]; rfl
              have hnext := hfound hgood
              conv => whnf
              refine ⟨?_, ?_⟩
              · conv => whnf
                show (out.length + 1) * 8 ≤ 140737488355328
                omega
              conv => whnf
              refine nextQ_intro (i + 1) (by show i + 1 ≤ old.length; omega) (by show old.length - (i + 1) < old.length - i; omega) (by exact rfl) (by exact rfl) ⟨chA (by exact rfl) ?_, chA (by exact rfl) ?_, trivial⟩ ⟨rfl, rfl, rfl, rfl, rfl, rfl, enI (by exact rfl) wi, trivial⟩
              · rw [hnext]; exact hset1
              · rw [hnext]
            · have h8 : (IntKind.i64.wrap (mostAt old lo (min hi (old.length : Int)) (incAt used j 1) (i + 1) + 1) == mostAt old lo (min hi (old.length : Int)) used i) = false := h8
              rw [wr, beq_eq_false_iff_ne] at h8
              conv => whnf
              refine ⟨?_, ?_⟩
              · conv => whnf
                refine ⟨by omega, ?_⟩
                show (j : Int) < ((used.set (j : Int).toNat (IntKind.i64.wrap (used.getD (j : Int).toNat I64.dflt + 1))).length : Nat)
                simp; omega
              conv => whnf
              refine ⟨?_, ?_⟩
              · conv => whnf
                refine ⟨by omega, ?_⟩
                show (j : Int) < ((used.set (j : Int).toNat (IntKind.i64.wrap (used.getD (j : Int).toNat I64.dflt + 1))).length : Nat)
                simp; omega
              conv => whnf
              refine nextQ_intro (j + 1) ⟨by omega, fun k hk => ?_⟩ (by show to.toNat - (j + 1) < to.toNat - j; omega) (by exact rfl) (by exact rfl) ⟨chA (by exact rfl) ?_, rfl, trivial⟩ ⟨rfl, rfl, rfl, rfl, rfl, rfl, rfl, rfl, enI (by exact rfl) wj, trivial⟩
              · by_cases hkj : k = j
                · subst hkj
                  unfold goodAt
                  rw [decide_eq_false (p := restAt old lo (min hi (old.length : Int)) used i k = mostAt old lo (min hi (old.length : Int)) used i) h8, Bool.and_false]
                · exact hbad k (by omega)
              · show (used.set (j : Int).toNat (IntKind.i64.wrap (used.getD (j : Int).toNat I64.dflt + 1))).set (j : Int).toNat (IntKind.i64.wrap ((used.set (j : Int).toNat (IntKind.i64.wrap (used.getD (j : Int).toNat I64.dflt + 1))).getD (j : Int).toNat I64.dflt - 1)) = used
                rw [hset1]
                exact hset2
          · have h7 : ((old.getD (i : Int).toNat I64.dflt == (j : Int)) && decide (mostAt old lo (min hi (old.length : Int)) (incAt used j 1) (i + 1) ≥ 0)) = false := h7
            rw [e2] at h7
            have hrest : restAt old lo (min hi (old.length : Int)) used i j = mostAt old lo (min hi (old.length : Int)) (incAt used j 1) (i + 1) := by
              unfold restAt
              rw [if_neg]
              rintro ⟨p, q⟩
              rw [p, decide_eq_true q] at h7
              simp at h7
            conv => whnf
            refine ⟨fun h8 => ?_, fun h8 => ?_⟩
            · have h8 : (mostAt old lo (min hi (old.length : Int)) (incAt used j 1) (i + 1) == mostAt old lo (min hi (old.length : Int)) used i) = true := h8
              rw [← hrest, beq_iff_eq] at h8
              have hgood : goodAt old lo (min hi (old.length : Int)) used i j = true := by unfold goodAt; rw [decide_eq_true (by omega), decide_eq_true h8]; rfl
              have hnext := hfound hgood
              conv => whnf
              refine ⟨?_, ?_⟩
              · conv => whnf
                show (out.length + 1) * 8 ≤ 140737488355328
                omega
              conv => whnf
              refine nextQ_intro (i + 1) (by show i + 1 ≤ old.length; omega) (by show old.length - (i + 1) < old.length - i; omega) (by exact rfl) (by exact rfl) ⟨chA (by exact rfl) ?_, chA (by exact rfl) ?_, trivial⟩ ⟨rfl, rfl, rfl, rfl, rfl, rfl, enI (by exact rfl) wi, trivial⟩
              · rw [hnext]; exact hset1
              · rw [hnext]
            · have h8 : (mostAt old lo (min hi (old.length : Int)) (incAt used j 1) (i + 1) == mostAt old lo (min hi (old.length : Int)) used i) = false := h8
              rw [← hrest, beq_eq_false_iff_ne] at h8
              conv => whnf
              refine ⟨?_, ?_⟩
              · conv => whnf
                refine ⟨by omega, ?_⟩
                show (j : Int) < ((used.set (j : Int).toNat (IntKind.i64.wrap (used.getD (j : Int).toNat I64.dflt + 1))).length : Nat)
                simp; omega
              conv => whnf
              refine ⟨?_, ?_⟩
              · conv => whnf
                refine ⟨by omega, ?_⟩
                show (j : Int) < ((used.set (j : Int).toNat (IntKind.i64.wrap (used.getD (j : Int).toNat I64.dflt + 1))).length : Nat)
                simp; omega
              conv => whnf
              refine nextQ_intro (j + 1) ⟨by omega, fun k hk => ?_⟩ (by show to.toNat - (j + 1) < to.toNat - j; omega) (by exact rfl) (by exact rfl) ⟨chA (by exact rfl) ?_, rfl, trivial⟩ ⟨rfl, rfl, rfl, rfl, rfl, rfl, rfl, rfl, enI (by exact rfl) wj, trivial⟩
              · by_cases hkj : k = j
                · subst hkj
                  unfold goodAt
                  rw [decide_eq_false (p := restAt old lo (min hi (old.length : Int)) used i k = mostAt old lo (min hi (old.length : Int)) used i) h8, Bool.and_false]
                · exact hbad k (by omega)
              · show (used.set (j : Int).toNat (IntKind.i64.wrap (used.getD (j : Int).toNat I64.dflt + 1))).set (j : Int).toNat (IntKind.i64.wrap ((used.set (j : Int).toNat (IntKind.i64.wrap (used.getD (j : Int).toNat I64.dflt + 1))).getD (j : Int).toNat I64.dflt - 1)) = used
                rw [hset1]
                exact hset2
    · simp at h5
      have hje : j = to.toNat := by omega
      have hnext : greedy old to.toNat lo (min hi (old.length : Int)) (i + 1) = (used, out) := by
        have := findAt_not (to := to.toNat) (fun k hk => hbad k (by omega))
        simp only [greedy, hgi, stepAt, this]
      have wi : IntKind.i64.wrap ((i : Int) + 1) = ((i + 1 : Nat) : Int) := by rw [wrap64 (by omega) (by omega)]; omega
      refine nextQ_intro (i + 1) (by show i + 1 ≤ old.length; omega) (by show old.length - (i + 1) < old.length - i; omega) (by exact rfl) (by exact rfl) ⟨chA (by exact rfl) ?_, chA (by exact rfl) ?_, trivial⟩ ⟨rfl, rfl, rfl, rfl, rfl, rfl, enI (by exact rfl) wi, trivial⟩
      · rw [hnext]
      · rw [hnext]
  · simp at h4
    have hie : i = old.length := by omega
    refine postQ_ret [(1000, .arr I64 (refsL old to lo hi))] (by exact rfl) (by exact rfl) ⟨chA (by exact rfl) ?_, trivial⟩ (by exact rfl) (by exact rfl) (.inl ⟨rfl, rfl, he⟩)
    unfold refsL
    rw [if_pos he]
    rw [hie] at hgi
    rw [hgi]

theorem refs_ok (old : List Int) (to lo hi : Int) (hlen : old.length ≤ 100000) :
    FnOK Try.prog 10 [cisl I64 old, cint to, cint lo, cint hi] [] [] (fun r hs' => (r = .tup [cisl I64 (refsL old to lo hi), cint 0] ∧ hs' = [] ∧ refsErr old to lo hi = 0) ∨ (r = .tup [.cell .nilsl, cint (refsErr old to lo hi)] ∧ hs' = [] ∧ refsErr old to lo hi ≠ 0)) := by
  by_cases he : refsErr old to lo hi = 0
  · refine FnOK.freeze 1000 I64 (refs0_ok old to lo hi hlen) ?_
    rintro r hs' (⟨rfl, rfl, _⟩ | ⟨_, _, h⟩)
    · exact ⟨_, rfl, rfl, rfl, .inl ⟨rfl, rfl, he⟩⟩
    · exact absurd he h
  · refine (refs0_ok old to lo hi hlen).mono ?_
    rintro r hs' (⟨_, _, h⟩ | ⟨rfl, rfl, _⟩)
    · exact absurd h he
    · exact .inr ⟨rfl, rfl, he⟩

end Go.Sx
