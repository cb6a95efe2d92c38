/- The walk of EditMost: it answers true. Conditions: none. -/
import Derived.Test.YthilnjignhopkaaEdM13
import Derived.Test.YthilnjignhopkaaEdG12
set_option linter.unusedSimpArgs false
set_option linter.unusedVariables false
set_option maxRecDepth 10000
set_option maxHeartbeats 8000000
namespace Go.Sx
open Go Go.Proofs

theorem okC_succ (j : Nat) (lo hi : Int) (x : List Int) : okC (j + 1) lo hi x = (okC j lo hi x && (decide (lo ≤ (count x j : Int)) && decide ((count x j : Int) ≤ hi))) := by
  simp [okC, List.range_succ, List.all_append]

theorem EditMost_ok (l : List Int) : Quiet Try.prog 4 [cisl I64 l] [] (vbool true) := by
  have hl10 : (oldsL l).length ≤ 10 := by
    unfold oldsL oldsN
    rw [List.length_map, List.length_range]
    omega
  have h1 := at1_range l 0 5 (by omega)
  have h2 := at1_range l 1 3 (by omega)
  have h3 := at1_range l 2 5 (by omega)
  refine FnOK.intro gamN_ok fn4 rfl rfl ?_
  intro ⟨hl, _⟩ _
  have hl : l.length ≤ big := hl.1
  have hbig := bigv
  have hO := olds_ok l
  apply Tri.of_vc gamN_ok []
  conv => whnf
  refine callQ is6 hO trivial ?_
  conv => whnf
  repeat' (first
    | (refine Ob.mk ?_ ?_ <;> conv => whnf)
    | (refine Fork2.mk (fun h => ?_) (fun h => ?_) <;> (conv => whnf))
    | (refine Fork.mk (fun h => ?_) (fun h => ?_) <;> (try simp only [pickB, Bool.and_eq_true, Bool.or_eq_true, Bool.and_eq_false_iff, Bool.or_eq_false_iff, Bool.not_eq_true', Bool.not_eq_false', Bool.not_eq_eq_eq_not, Bool.not_true, Bool.not_false, decide_eq_true_eq, decide_eq_false_iff_not, beq_iff_eq, bne_iff_ne, beq_eq_false_iff_ne, bne_eq_false_iff_eq, Int.not_lt, Int.not_le, ge_iff_le, gt_iff_lt, ne_eq, not_and, not_or, not_true_eq_false, not_false_eq_true, reduceCtorEq, or_false, false_or, and_true, true_and, and_false, false_and, or_true, true_or] at h) <;> (try simp only [Int.toNat_natCast, dflt64] at h) <;> (try (exfalso; omega)) <;> (conv => whnf))
    | (refine Tri.draw (id := 25) gamN_ok mixed [0, 0, 3, 7, 0, 0, 48, 112, 255] 256 [93, 94, 95, 96, 97, 98, 99, 100] [] (by rfl) (by rfl) (by rfl) ?_; conv => whnf)
    | (refine And.intro (by kernel_rfl) ?_; conv => whnf)
    | (intro h; (try simp only [pickB, Bool.and_eq_true, Bool.or_eq_true, Bool.and_eq_false_iff, Bool.or_eq_false_iff, Bool.not_eq_true', Bool.not_eq_false', Bool.not_eq_eq_eq_not, Bool.not_true, Bool.not_false, decide_eq_true_eq, decide_eq_false_iff_not, beq_iff_eq, bne_iff_ne, beq_eq_false_iff_ne, bne_eq_false_iff_eq, Int.not_lt, Int.not_le, ge_iff_le, gt_iff_lt, ne_eq, not_and, not_or, not_true_eq_false, not_false_eq_true, reduceCtorEq, or_false, false_or, and_true, true_and, and_false, false_and, or_true, true_or] at h) <;> (try simp only [Int.toNat_natCast, dflt64] at h); conv => whnf)
    | omega
    | (simp only [conj, and_true, true_and, Nat.le_eq]; dsimp only; omega)
    | (simp only [Int.toNat_natCast, dflt64, List.length_set, List.length_append, List.length_cons, List.length_nil, getD_set0]; omega)
    | (simp only [Int.toNat_natCast, dflt64, List.length_set, List.length_append, List.length_cons, List.length_nil, getD_set0]; split <;> omega))
  obtain ⟨old, hold⟩ : ∃ old, old = (oldsL l).take (min ((oldsL l).length : Int) 5).toNat := ⟨_, rfl⟩
  obtain ⟨T, hT⟩ := Int.eq_ofNat_of_zero_le (show 0 ≤ min (oldsTo l) 3 by have : oldsTo l = at1 l 0 5 := rfl; omega)
  have hol : old.length ≤ 5 := by rw [hold, List.length_take]; omega
  have hR := edR_ok old T (oldsLo l) (oldsHi l) (by omega)
  rw [← hold, hT]
  refine callQ is9 hR trivial ?_
  conv => whnf
  repeat' (first
    | (refine Ob.mk ?_ ?_ <;> conv => whnf)
    | (refine Fork2.mk (fun h => ?_) (fun h => ?_) <;> (conv => whnf))
    | (refine Fork.mk (fun h => ?_) (fun h => ?_) <;> (try simp only [pickB, Bool.and_eq_true, Bool.or_eq_true, Bool.and_eq_false_iff, Bool.or_eq_false_iff, Bool.not_eq_true', Bool.not_eq_false', Bool.not_eq_eq_eq_not, Bool.not_true, Bool.not_false, decide_eq_true_eq, decide_eq_false_iff_not, beq_iff_eq, bne_iff_ne, beq_eq_false_iff_ne, bne_eq_false_iff_eq, Int.not_lt, Int.not_le, ge_iff_le, gt_iff_lt, ne_eq, not_and, not_or, not_true_eq_false, not_false_eq_true, reduceCtorEq, or_false, false_or, and_true, true_and, and_false, false_and, or_true, true_or] at h) <;> (try simp only [Int.toNat_natCast, dflt64] at h) <;> (try (exfalso; omega)) <;> (conv => whnf))
    | (refine Tri.draw (id := 25) gamN_ok mixed [0, 0, 3, 7, 0, 0, 48, 112, 255] 256 [93, 94, 95, 96, 97, 98, 99, 100] [] (by rfl) (by rfl) (by rfl) ?_; conv => whnf)
    | (refine And.intro (by kernel_rfl) ?_; conv => whnf)
    | (intro h; (try simp only [pickB, Bool.and_eq_true, Bool.or_eq_true, Bool.and_eq_false_iff, Bool.or_eq_false_iff, Bool.not_eq_true', Bool.not_eq_false', Bool.not_eq_eq_eq_not, Bool.not_true, Bool.not_false, decide_eq_true_eq, decide_eq_false_iff_not, beq_iff_eq, bne_iff_ne, beq_eq_false_iff_ne, bne_eq_false_iff_eq, Int.not_lt, Int.not_le, ge_iff_le, gt_iff_lt, ne_eq, not_and, not_or, not_true_eq_false, not_false_eq_true, reduceCtorEq, or_false, false_or, and_true, true_and, and_false, false_and, or_true, true_or] at h) <;> (try simp only [Int.toNat_natCast, dflt64] at h); conv => whnf)
    | omega
    | (simp only [conj, and_true, true_and, Nat.le_eq]; dsimp only; omega)
    | (simp only [Int.toNat_natCast, dflt64, List.length_set, List.length_append, List.length_cons, List.length_nil, getD_set0]; omega)
    | (simp only [Int.toNat_natCast, dflt64, List.length_set, List.length_append, List.length_cons, List.length_nil, getD_set0]; split <;> omega))
  have hT3 : T ≤ 3 := by omega
  have hlo3 : 0 ≤ oldsLo l ∧ oldsLo l < 3 := h2
  have hhi3 : oldsHi l = oldsLo l + at1 l 2 5 := rfl
  have errq : refsErr old T (oldsLo l) (oldsHi l) = 0 ∨ refsErr old T (oldsLo l) (oldsHi l) = 14 := by
    unfold refsErr
    rw [if_neg (by omega), if_neg (by omega)]
    split
    · exact .inr rfl
    · exact .inl rfl
  have hpow : ∀ i, i ≤ 5 → T ^ i ≤ 243 := fun i hi => by
    have h1 := Nat.pow_le_pow_left hT3 i
    have h2 := Nat.pow_le_pow_right (show 0 < 3 by omega) hi
    omega
  refine Tri.loop (α := Nat) (n := 174) (fun i => [(2, vbool false), (3, visl I64 old), (4, vint T), (5, vint (oldsLo l)), (6, vint (oldsHi l)), (7, visl I64 (refsL old T (oldsLo l) (oldsHi l))), (9, vint (refsErr old T (oldsLo l) (oldsHi l))), (10, vint (-1)), (11, .one (.cell .nilsl)), (12, vint ((T ^ i : Nat) : Int)), (13, vint i)]) (fun _ => []) [] (fun i => i ≤ old.length) (fun i => old.length - i) 0 (Nat.zero_le _) rfl ⟨rfl, rfl, rfl, rfl, rfl, rfl, rfl, rfl, rfl, rfl, rfl, trivial⟩ trivial rfl ?_
  intro i hI _ _
  have hp1 := hpow i (by omega)
  have hp2 : T ^ (i + 1) = T ^ i * T := Nat.pow_succ ..
  have hp3 : ((T ^ i : Nat) : Int) * (T : Int) = ((T ^ (i + 1) : Nat) : Int) := by rw [hp2, Int.natCast_mul]
  apply Tri.of_vc gamN_ok []
  conv => whnf
  repeat' (first
    | (refine Ob.mk ?_ ?_ <;> conv => whnf)
    | (refine Fork2.mk (fun h => ?_) (fun h => ?_) <;> (conv => whnf))
    | (refine Fork.mk (fun h => ?_) (fun h => ?_) <;> (try simp only [pickB, Bool.and_eq_true, Bool.or_eq_true, Bool.and_eq_false_iff, Bool.or_eq_false_iff, Bool.not_eq_true', Bool.not_eq_false', Bool.not_eq_eq_eq_not, Bool.not_true, Bool.not_false, decide_eq_true_eq, decide_eq_false_iff_not, beq_iff_eq, bne_iff_ne, beq_eq_false_iff_ne, bne_eq_false_iff_eq, Int.not_lt, Int.not_le, ge_iff_le, gt_iff_lt, ne_eq, not_and, not_or, not_true_eq_false, not_false_eq_true, reduceCtorEq, or_false, false_or, and_true, true_and, and_false, false_and, or_true, true_or] at h) <;> (try simp only [Int.toNat_natCast, dflt64] at h) <;> (try (exfalso; omega)) <;> (conv => whnf))
    | (refine Tri.draw (id := 25) gamN_ok mixed [0, 0, 3, 7, 0, 0, 48, 112, 255] 256 [93, 94, 95, 96, 97, 98, 99, 100] [] (by rfl) (by rfl) (by rfl) ?_; conv => whnf)
    | (refine And.intro (by kernel_rfl) ?_; conv => whnf)
    | (intro h; (try simp only [pickB, Bool.and_eq_true, Bool.or_eq_true, Bool.and_eq_false_iff, Bool.or_eq_false_iff, Bool.not_eq_true', Bool.not_eq_false', Bool.not_eq_eq_eq_not, Bool.not_true, Bool.not_false, decide_eq_true_eq, decide_eq_false_iff_not, beq_iff_eq, bne_iff_ne, beq_eq_false_iff_ne, bne_eq_false_iff_eq, Int.not_lt, Int.not_le, ge_iff_le, gt_iff_lt, ne_eq, not_and, not_or, not_true_eq_false, not_false_eq_true, reduceCtorEq, or_false, false_or, and_true, true_and, and_false, false_and, or_true, true_or] at h) <;> (try simp only [Int.toNat_natCast, dflt64] at h); conv => whnf)
    | omega
    | (simp only [conj, and_true, true_and, Nat.le_eq]; dsimp only; omega)
    | (simp only [Int.toNat_natCast, dflt64, List.length_set, List.length_append, List.length_cons, List.length_nil, getD_set0]; omega)
    | (simp only [Int.toNat_natCast, dflt64, List.length_set, List.length_append, List.length_cons, List.length_nil, getD_set0]; split <;> omega))
  · have := hpow (i + 1) (by omega)
    rw [hp3]
    omega
  · exact nextQ_intro (i + 1) (by show i + 1 ≤ old.length; omega) (by show old.length - (i + 1) < old.length - i; omega) (by exact rfl) (by exact rfl) trivial ⟨rfl, rfl, rfl, rfl, rfl, rfl, rfl, rfl, rfl, enI (by exact rfl) hp3, rfl, trivial⟩
  have hin : i = old.length := by omega
  subst hin
  obtain ⟨N, hN⟩ : ∃ N, N = T ^ old.length := ⟨_, rfl⟩
  refine Tri.thaw 11 1000 I64 (by exact rfl) ?_
  refine Tri.freeze 1000 I64 [] (by exact rfl) ?_
  have hTp : T ^ old.length ≤ 243 := hpow _ hol
  refine Tri.loop (α := Nat) (n := 174) (fun i => [(2, vbool false), (3, visl I64 old), (4, vint T), (5, vint (oldsLo l)), (6, vint (oldsHi l)), (7, visl I64 (refsL old T (oldsLo l) (oldsHi l))), (9, vint (refsErr old T (oldsLo l) (oldsHi l))), (10, vint (scan old T (oldsLo l) (oldsHi l) i).1), (11, visl I64 (scan old T (oldsLo l) (oldsHi l) i).2), (12, vint ((T ^ old.length : Nat) : Int)), (14, vint i)]) (fun _ => []) [] (fun i => i ≤ T ^ old.length) (fun i => T ^ old.length - i) 0 (Nat.zero_le _) rfl ⟨rfl, rfl, rfl, rfl, rfl, rfl, rfl, rfl, rfl, rfl, rfl, trivial⟩ trivial rfl ?_
  intro i hI2 _ _
  apply Tri.of_vc gamN_ok []
  conv => whnf
  repeat' (first
    | (refine Ob.mk ?_ ?_ <;> conv => whnf)
    | (refine Fork2.mk (fun h => ?_) (fun h => ?_) <;> (conv => whnf))
    | (refine Fork.mk (fun h => ?_) (fun h => ?_) <;> (try simp only [pickB, Bool.and_eq_true, Bool.or_eq_true, Bool.and_eq_false_iff, Bool.or_eq_false_iff, Bool.not_eq_true', Bool.not_eq_false', Bool.not_eq_eq_eq_not, Bool.not_true, Bool.not_false, decide_eq_true_eq, decide_eq_false_iff_not, beq_iff_eq, bne_iff_ne, beq_eq_false_iff_ne, bne_eq_false_iff_eq, Int.not_lt, Int.not_le, ge_iff_le, gt_iff_lt, ne_eq, not_and, not_or, not_true_eq_false, not_false_eq_true, reduceCtorEq, or_false, false_or, and_true, true_and, and_false, false_and, or_true, true_or] at h) <;> (try simp only [Int.toNat_natCast, dflt64] at h) <;> (try (exfalso; omega)) <;> (conv => whnf))
    | (refine Tri.draw (id := 25) gamN_ok mixed [0, 0, 3, 7, 0, 0, 48, 112, 255] 256 [93, 94, 95, 96, 97, 98, 99, 100] [] (by rfl) (by rfl) (by rfl) ?_; conv => whnf)
    | (refine And.intro (by kernel_rfl) ?_; conv => whnf)
    | (intro h; (try simp only [pickB, Bool.and_eq_true, Bool.or_eq_true, Bool.and_eq_false_iff, Bool.or_eq_false_iff, Bool.not_eq_true', Bool.not_eq_false', Bool.not_eq_eq_eq_not, Bool.not_true, Bool.not_false, decide_eq_true_eq, decide_eq_false_iff_not, beq_iff_eq, bne_iff_ne, beq_eq_false_iff_ne, bne_eq_false_iff_eq, Int.not_lt, Int.not_le, ge_iff_le, gt_iff_lt, ne_eq, not_and, not_or, not_true_eq_false, not_false_eq_true, reduceCtorEq, or_false, false_or, and_true, true_and, and_false, false_and, or_true, true_or] at h) <;> (try simp only [Int.toNat_natCast, dflt64] at h); conv => whnf)
    | omega
    | (simp only [conj, and_true, true_and, Nat.le_eq]; dsimp only; omega)
    | (simp only [Int.toNat_natCast, dflt64, List.length_set, List.length_append, List.length_cons, List.length_nil, getD_set0]; omega)
    | (simp only [Int.toNat_natCast, dflt64, List.length_set, List.length_append, List.length_cons, List.length_nil, getD_set0]; split <;> omega))
  · refine ⟨⟨by omega, ?_⟩, rfl⟩
    show (old.length : Int) * 8 ≤ 140737488355328
    omega
  · refine ⟨⟨by omega, ?_⟩, rfl⟩
    show (T : Int) * 8 ≤ 140737488355328
    omega
  · refine Tri.loop (α := Nat) (n := 174) (fun s => [(2, vbool false), (3, visl I64 old), (4, vint T), (5, vint (oldsLo l)), (6, vint (oldsHi l)), (7, visl I64 (refsL old T (oldsLo l) (oldsHi l))), (9, vint (refsErr old T (oldsLo l) (oldsHi l))), (10, vint (scan old T (oldsLo l) (oldsHi l) i).1), (11, visl I64 (scan old T (oldsLo l) (oldsHi l) i).2), (12, vint ((T ^ old.length : Nat) : Int)), (14, vint i), (15, .one (.cell (.vec 164))), (16, .one (.cell (.vec 166))), (17, vint (partK old T s i)), (18, vint ((i / T ^ s : Nat) : Int)), (19, vint ((old.length : Int) - 1 - s))]) (fun s => [(164, .arr I64 (partX T old.length s i)), (166, .arr I64 (partC T s i))]) [] (fun s => s ≤ old.length) (fun s => old.length - s) 0 (Nat.zero_le _) rfl ⟨rfl, rfl, rfl, rfl, rfl, rfl, rfl, rfl, rfl, rfl, rfl, rfl, rfl, rfl, enI (by exact rfl) (by simp), enI (by exact rfl) (by omega), trivial⟩ ⟨chA (by exact rfl) (by simp [partX, digs]), chA (by exact rfl) (partC_zero T i), trivial⟩ rfl ?_
    intro s hs _ _
    have hiN : i < T ^ old.length := by omega
    have l1 := partX_len (T := T) (i := i) hs
    have l2 := partC_len T s i
    have l3 := partK_rng old T s i
    have e1 : ((old.length : Int) - 1 - s).toNat = old.length - 1 - s := by omega
    have e2 : ((i / T ^ s : Nat) : Int).tmod (T : Int) = ((i / T ^ s % T : Nat) : Int) := rfl
    have e3 : ((i / T ^ s : Nat) : Int).tdiv (T : Int) = ((i / T ^ (s + 1) : Nat) : Int) := by rw [← rest_succ]; rfl
    have hT0 : 0 < T ∨ old.length = 0 := by
      rcases Nat.eq_zero_or_pos T with q | q
      · right
        rcases Nat.eq_zero_or_pos old.length with r | r
        · exact r
        · rw [q, Nat.zero_pow r] at hiN; omega
      · exact .inl q
    have hd : i / T ^ (s + 1) ≤ i := Nat.div_le_self _ _
    have hd0 : (0 : Int) ≤ ((i / T ^ (s + 1) : Nat) : Int) := Int.natCast_nonneg _
    have hset : s < old.length → (partX T old.length s i).set ((old.length : Int) - 1 - s).toNat (((i / T ^ s : Nat) : Int).tmod (T : Int)) = partX T old.length (s + 1) i := fun q => by rw [e1, e2]; exact partX_set q
    have hget : s < old.length → (partX T old.length (s + 1) i).getD ((old.length : Int) - 1 - s).toNat I64.dflt = ((i / T ^ s % T : Nat) : Int) := fun q => by rw [e1]; exact partX_get q
    have hmod : s < old.length → i / T ^ s % T < T := fun q => Nat.mod_lt _ (by omega)
    have hcr : s < old.length → (partC T s i).getD (i / T ^ s % T) 0 = (count (digs T s i) ((i / T ^ s % T : Nat) : Int) : Int) := fun q => partC_get (hmod q)
    have hcl := count_le (digs T s i) ((i / T ^ s % T : Nat) : Int)
    rw [digs_len] at hcl
    apply Tri.of_vc gamN_ok []
    conv => whnf
    repeat' (first
      | (refine Ob.mk ?_ ?_ <;> conv => whnf)
      | (refine Fork2.mk (fun h => ?_) (fun h => ?_) <;> (conv => whnf))
      | (refine Fork.mk (fun h => ?_) (fun h => ?_) <;> (try simp only [pickB, Bool.and_eq_true, Bool.or_eq_true, Bool.and_eq_false_iff, Bool.or_eq_false_iff, Bool.not_eq_true', Bool.not_eq_false', Bool.not_eq_eq_eq_not, Bool.not_true, Bool.not_false, decide_eq_true_eq, decide_eq_false_iff_not, beq_iff_eq, bne_iff_ne, beq_eq_false_iff_ne, bne_eq_false_iff_eq, Int.not_lt, Int.not_le, ge_iff_le, gt_iff_lt, ne_eq, not_and, not_or, not_true_eq_false, not_false_eq_true, reduceCtorEq, or_false, false_or, and_true, true_and, and_false, false_and, or_true, true_or] at h) <;> (try simp only [Int.toNat_natCast, dflt64] at h) <;> (try (exfalso; omega)) <;> (conv => whnf))
      | (refine Tri.draw (id := 25) gamN_ok mixed [0, 0, 3, 7, 0, 0, 48, 112, 255] 256 [93, 94, 95, 96, 97, 98, 99, 100] [] (by rfl) (by rfl) (by rfl) ?_; conv => whnf)
      | (refine And.intro (by kernel_rfl) ?_; conv => whnf)
      | (intro h; (try simp only [pickB, Bool.and_eq_true, Bool.or_eq_true, Bool.and_eq_false_iff, Bool.or_eq_false_iff, Bool.not_eq_true', Bool.not_eq_false', Bool.not_eq_eq_eq_not, Bool.not_true, Bool.not_false, decide_eq_true_eq, decide_eq_false_iff_not, beq_iff_eq, bne_iff_ne, beq_eq_false_iff_ne, bne_eq_false_iff_eq, Int.not_lt, Int.not_le, ge_iff_le, gt_iff_lt, ne_eq, not_and, not_or, not_true_eq_false, not_false_eq_true, reduceCtorEq, or_false, false_or, and_true, true_and, and_false, false_and, or_true, true_or] at h) <;> (try simp only [Int.toNat_natCast, dflt64] at h); conv => whnf)
      | omega
      | (simp only [conj, and_true, true_and, Nat.le_eq]; dsimp only; omega)
      | (simp only [Int.toNat_natCast, dflt64, List.length_set, List.length_append, List.length_cons, List.length_nil, getD_set0]; omega)
      | (simp only [Int.toNat_natCast, dflt64, List.length_set, List.length_append, List.length_cons, List.length_nil, getD_set0]; split <;> omega))
    · rw [e3]
      refine ⟨by omega, ⟨?_, ?_⟩⟩ <;> (show _ ≤ (_ : Int)) <;> omega
    · rw [hset (by omega), hget (by omega), partC_len]
      have := hmod (by omega)
      omega
    · rw [hset (by omega), hget (by omega), Int.toNat_natCast, dflt64, hcr (by omega)]
      omega
    · rw [hset (by omega), hget (by omega), partC_len]
      have := hmod (by omega)
      omega
    · have hg := hget (by omega)
      rw [dflt64] at hg
      rw [hset (by omega), hg, e1] at h
      have hk := partK_succ (old := old) (T := T) (s := s) (i := i) (by omega)
      rw [if_pos h.symm] at hk
      refine nextQ_intro (s + 1) (by show s + 1 ≤ old.length; omega) (by show old.length - (s + 1) < old.length - s; omega) (by exact rfl) (by exact rfl) ⟨chA (by exact rfl) (hset (by omega)), chA (by exact rfl) ?_, trivial⟩ ⟨rfl, rfl, rfl, rfl, rfl, rfl, rfl, rfl, rfl, rfl, rfl, rfl, rfl, enI (by exact rfl) (by omega), enI (by exact rfl) e3, enI (by exact rfl) (by omega), trivial⟩
      rw [hset (by omega), hget (by omega), Int.toNat_natCast, dflt64]
      exact partC_set (by omega)
    · have hg := hget (by omega)
      rw [dflt64] at hg
      rw [hset (by omega), hg, e1] at h
      have hk := partK_succ (old := old) (T := T) (s := s) (i := i) (by omega)
      rw [if_neg (fun q => h q.symm)] at hk
      refine nextQ_intro (s + 1) (by show s + 1 ≤ old.length; omega) (by show old.length - (s + 1) < old.length - s; omega) (by exact rfl) (by exact rfl) ⟨chA (by exact rfl) (hset (by omega)), chA (by exact rfl) ?_, trivial⟩ ⟨rfl, rfl, rfl, rfl, rfl, rfl, rfl, rfl, rfl, rfl, rfl, rfl, rfl, enI (by exact rfl) (by omega), enI (by exact rfl) e3, enI (by exact rfl) (by omega), trivial⟩
      rw [hset (by omega), hget (by omega), Int.toNat_natCast, dflt64]
      exact partC_set (by omega)
    have hs2 : s = old.length := by omega
    subst hs2
    rw [partX_all, partK_all]
    refine Tri.freeze 164 I64 (digs T old.length i) (by exact rfl) ?_
    refine Tri.loop (α := Nat) (n := 174) (fun j => [(2, vbool false), (3, visl I64 old), (4, vint T), (5, vint (oldsLo l)), (6, vint (oldsHi l)), (7, visl I64 (refsL old T (oldsLo l) (oldsHi l))), (9, vint (refsErr old T (oldsLo l) (oldsHi l))), (10, vint (scan old T (oldsLo l) (oldsHi l) i).1), (11, visl I64 (scan old T (oldsLo l) (oldsHi l) i).2), (12, vint ((T ^ old.length : Nat) : Int)), (14, vint i), (15, visl I64 (digs T old.length i)), (16, .one (.cell (.vec 166))), (17, vint (keepC old (digs T old.length i) old.length)), (20, vbool (okC j (oldsLo l) (oldsHi l) (digs T old.length i))), (21, vint j)]) (fun _ => [(166, .arr I64 (partC T old.length i))]) [] (fun j => j ≤ T) (fun j => T - j) 0 (Nat.zero_le _) rfl ⟨rfl, rfl, rfl, rfl, rfl, rfl, rfl, rfl, rfl, rfl, rfl, rfl, rfl, rfl, rfl, rfl, trivial⟩ ⟨rfl, trivial⟩ rfl ?_
    intro j hj _ _
    apply Tri.of_vc gamN_ok []
    conv => whnf
    repeat' (first
      | (refine Ob.mk ?_ ?_ <;> conv => whnf)
      | (refine Fork2.mk (fun h => ?_) (fun h => ?_) <;> (conv => whnf))
      | (refine Fork.mk (fun h => ?_) (fun h => ?_) <;> (try simp only [pickB, Bool.and_eq_true, Bool.or_eq_true, Bool.and_eq_false_iff, Bool.or_eq_false_iff, Bool.not_eq_true', Bool.not_eq_false', Bool.not_eq_eq_eq_not, Bool.not_true, Bool.not_false, decide_eq_true_eq, decide_eq_false_iff_not, beq_iff_eq, bne_iff_ne, beq_eq_false_iff_ne, bne_eq_false_iff_eq, Int.not_lt, Int.not_le, ge_iff_le, gt_iff_lt, ne_eq, not_and, not_or, not_true_eq_false, not_false_eq_true, reduceCtorEq, or_false, false_or, and_true, true_and, and_false, false_and, or_true, true_or] at h) <;> (try simp only [Int.toNat_natCast, dflt64] at h) <;> (try (exfalso; omega)) <;> (conv => whnf))
      | (refine Tri.draw (id := 25) gamN_ok mixed [0, 0, 3, 7, 0, 0, 48, 112, 255] 256 [93, 94, 95, 96, 97, 98, 99, 100] [] (by rfl) (by rfl) (by rfl) ?_; conv => whnf)
      | (refine And.intro (by kernel_rfl) ?_; conv => whnf)
      | (intro h; (try simp only [pickB, Bool.and_eq_true, Bool.or_eq_true, Bool.and_eq_false_iff, Bool.or_eq_false_iff, Bool.not_eq_true', Bool.not_eq_false', Bool.not_eq_eq_eq_not, Bool.not_true, Bool.not_false, decide_eq_true_eq, decide_eq_false_iff_not, beq_iff_eq, bne_iff_ne, beq_eq_false_iff_ne, bne_eq_false_iff_eq, Int.not_lt, Int.not_le, ge_iff_le, gt_iff_lt, ne_eq, not_and, not_or, not_true_eq_false, not_false_eq_true, reduceCtorEq, or_false, false_or, and_true, true_and, and_false, false_and, or_true, true_or] at h) <;> (try simp only [Int.toNat_natCast, dflt64] at h); conv => whnf)
      | omega
      | (simp only [conj, and_true, true_and, Nat.le_eq]; dsimp only; omega)
      | (simp only [Int.toNat_natCast, dflt64, List.length_set, List.length_append, List.length_cons, List.length_nil, getD_set0]; omega)
      | (simp only [Int.toNat_natCast, dflt64, List.length_set, List.length_append, List.length_cons, List.length_nil, getD_set0]; split <;> omega))
    · refine nextQ_intro (j + 1) (by show j + 1 ≤ T; omega) (by show T - (j + 1) < T - j; omega) (by exact rfl) (by exact rfl) ⟨rfl, trivial⟩ ⟨rfl, rfl, rfl, rfl, rfl, rfl, rfl, rfl, rfl, rfl, rfl, rfl, rfl, rfl, en_bool ?_ (by exact rfl), rfl, trivial⟩
      rw [okC_succ, Int.toNat_natCast, dflt64, partC_get (by omega)]
      simp only [pickB]
      cases okC j (oldsLo l) (oldsHi l) (digs T old.length i) <;> simp <;> (cases h1 : decide (oldsLo l ≤ (count (digs T old.length i) (j : Int) : Int)) <;> simp_all)
    · have hj2 : j = T := by omega
      subst hj2
      have hsc : scan old j (oldsLo l) (oldsHi l) (i + 1) = (keepC old (digs j old.length i) old.length, digs j old.length i) := by
        simp only [scan]
        rw [if_pos ⟨h.1, h.2⟩]
      refine nextQ_intro (i + 1) (by show i + 1 ≤ j ^ old.length; omega) (by show j ^ old.length - (i + 1) < j ^ old.length - i; omega) (by exact rfl) (by exact rfl) trivial ⟨rfl, rfl, rfl, rfl, rfl, rfl, rfl, enI (by exact rfl) (by rw [hsc]), ?_, rfl, rfl, trivial⟩
      rw [hsc]
      rfl
    · have hj2 : j = T := by omega
      subst hj2
      have hsc : scan old j (oldsLo l) (oldsHi l) (i + 1) = scan old j (oldsLo l) (oldsHi l) i := by
        simp only [scan]
        rw [if_neg (fun q => ?_)]
        have q1 := q.1
        have q2 := q.2
        rcases h with h | h
        · rw [h] at q1; cases q1
        · omega
      refine nextQ_intro (i + 1) (by show i + 1 ≤ j ^ old.length; omega) (by show j ^ old.length - (i + 1) < j ^ old.length - i; omega) (by exact rfl) (by exact rfl) trivial ⟨rfl, rfl, rfl, rfl, rfl, rfl, rfl, enI (by exact rfl) (by rw [hsc]), ?_, rfl, rfl, trivial⟩
      rw [hsc]
      rfl
  · have hiN : i = T ^ old.length := by omega
    by_cases he : refsErr old T (oldsLo l) (oldsHi l) = 0
    · rw [hiN, scan_refs he] at h
      have := keepC_nn old (refsL old T (oldsLo l) (oldsHi l)) old.length
      simp only at h
      omega
    have he14 : refsErr old T (oldsLo l) (oldsHi l) = 14 := by
      rcases errq with q | q
      · exact absurd q he
      · exact q
    have hnil : refsL old T (oldsLo l) (oldsHi l) = [] := by unfold refsL; rw [if_neg he]
    refine callQ is15 (gImp_of fun _ => lives_ok) trivial ?_
    conv => whnf
    exact quiet_bool (by exact rfl) (by exact rfl) trivial (by exact rfl) (by rw [hnil, he14]; simp [pickB])
  · have hiN : i = T ^ old.length := by omega
    by_cases he : refsErr old T (oldsLo l) (oldsHi l) = 0
    · obtain ⟨r1, r2⟩ := refs_self he
      have hlen : (refsL old T (oldsLo l) (oldsHi l)).length = old.length := (refs_targets he).len
      have hR2 := edR_ok (refsL old T (oldsLo l) (oldsHi l)) T (oldsLo l) (oldsHi l) (by omega)
      refine callQ is9 hR2 trivial ?_
      conv => whnf
      repeat' (first
        | (refine Ob.mk ?_ ?_ <;> conv => whnf)
        | (refine Fork2.mk (fun h => ?_) (fun h => ?_) <;> (conv => whnf))
        | (refine Fork.mk (fun h => ?_) (fun h => ?_) <;> (try simp only [pickB, Bool.and_eq_true, Bool.or_eq_true, Bool.and_eq_false_iff, Bool.or_eq_false_iff, Bool.not_eq_true', Bool.not_eq_false', Bool.not_eq_eq_eq_not, Bool.not_true, Bool.not_false, decide_eq_true_eq, decide_eq_false_iff_not, beq_iff_eq, bne_iff_ne, beq_eq_false_iff_ne, bne_eq_false_iff_eq, Int.not_lt, Int.not_le, ge_iff_le, gt_iff_lt, ne_eq, not_and, not_or, not_true_eq_false, not_false_eq_true, reduceCtorEq, or_false, false_or, and_true, true_and, and_false, false_and, or_true, true_or] at h) <;> (try simp only [Int.toNat_natCast, dflt64] at h) <;> (try (exfalso; omega)) <;> (conv => whnf))
        | (refine Tri.draw (id := 25) gamN_ok mixed [0, 0, 3, 7, 0, 0, 48, 112, 255] 256 [93, 94, 95, 96, 97, 98, 99, 100] [] (by rfl) (by rfl) (by rfl) ?_; conv => whnf)
        | (refine And.intro (by kernel_rfl) ?_; conv => whnf)
        | (intro h; (try simp only [pickB, Bool.and_eq_true, Bool.or_eq_true, Bool.and_eq_false_iff, Bool.or_eq_false_iff, Bool.not_eq_true', Bool.not_eq_false', Bool.not_eq_eq_eq_not, Bool.not_true, Bool.not_false, decide_eq_true_eq, decide_eq_false_iff_not, beq_iff_eq, bne_iff_ne, beq_eq_false_iff_ne, bne_eq_false_iff_eq, Int.not_lt, Int.not_le, ge_iff_le, gt_iff_lt, ne_eq, not_and, not_or, not_true_eq_false, not_false_eq_true, reduceCtorEq, or_false, false_or, and_true, true_and, and_false, false_and, or_true, true_or] at h) <;> (try simp only [Int.toNat_natCast, dflt64] at h); conv => whnf)
        | omega
        | (simp only [conj, and_true, true_and, Nat.le_eq]; dsimp only; omega)
        | (simp only [Int.toNat_natCast, dflt64, List.length_set, List.length_append, List.length_cons, List.length_nil, getD_set0]; omega)
        | (simp only [Int.toNat_natCast, dflt64, List.length_set, List.length_append, List.length_cons, List.length_nil, getD_set0]; split <;> omega))
      refine callQ is11 (gImp_of (fun _ => same_ok _ _)) trivial ?_
      conv => whnf
      refine callQ is11 (gImp_of (fun _ => same_ok _ _)) trivial ?_
      conv => whnf
      refine callQ is15 (gImp_of fun _ => lives_ok) trivial ?_
      conv => whnf
      exact quiet_bool (by exact rfl) (by exact rfl) trivial (by exact rfl) (by rw [hiN, scan_refs he, r1, r2, he]; simp [pickB])
    · rw [hiN, scan_err (by omega) (by omega) (by omega) (by omega) he _ (Nat.le_refl _)] at h
      simp only at h
      omega

end Go.Sx
