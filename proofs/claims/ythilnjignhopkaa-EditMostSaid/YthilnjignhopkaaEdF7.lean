/- What Given, Balance and Check of the reference do where the network is in order. Conditions: none. -/
import Derived.Test.YthilnjignhopkaaEdF6
set_option linter.unusedSimpArgs false
set_option linter.unusedVariables false
set_option maxRecDepth 10000
set_option maxHeartbeats 4000000
namespace Go.Sx
open Go Go.Proofs

/-- An edge in order. -/
def EdOK' (n a b lo hi c : Int) : Prop := 0 ≤ a ∧ a < n ∧ 0 ≤ b ∧ b < n ∧ 0 ≤ lo ∧ lo ≤ hi ∧ hi ≤ 1000 ∧ -1000 ≤ c ∧ c ≤ 1000
def EdOK (n : Int) (e : EdT.den) : Prop := EdOK' n e.1 e.2.1 e.2.2.1 e.2.2.2.1 e.2.2.2.2

def NetOK (n : Int) (l : List EdT.den) : Prop := 0 ≤ n ∧ n ≤ 64 ∧ l.length ≤ 256 ∧ ∀ i, i < l.length → EdOK n (l.getD i EdT.dflt)

theorem given_ok (n : Int) (l : List EdT.den) (h : NetOK n l) : Quiet Try.prog 37 [cint n, cisl EdT l] [] (vint 0) := by
  obtain ⟨h1, h2, h3, h4⟩ := h
  refine FnOK.intro gam_ok fn37 rfl rfl ?_
  intro _ _
  apply Tri.of_vc gam_ok []
  conv => whnf
  refine ⟨fun h5 => ?_, fun h5 => ?_⟩
  · exfalso
    simp [pickB] at h5
    omega
  conv => whnf
  refine ⟨fun h6 => ?_, fun h6 => ?_⟩
  · exfalso
    simp at h6
    omega
  conv => whnf
  refine Tri.loop (α := Nat) (n := 73) (fun i => [(0, vint n), (1, visl EdT l), (5, vint i)]) (fun _ => []) [] (fun i => i ≤ l.length) (fun i => l.length - i) 0 (Nat.zero_le _) rfl ⟨rfl, rfl, enI (by exact rfl) rfl, trivial⟩ trivial rfl ?_
  intro i hi _ _
  apply Tri.of_vc gam_ok []
  conv => whnf
  refine ⟨fun h7 => ?_, fun h7 => ?_⟩
  · simp at h7
    have he := h4 i h7
    have e1 : l.getD (i : Int).toNat EdT.dflt = l.getD i EdT.dflt := by simp
    conv => whnf
    refine ⟨?_, ?_⟩
    · conv => whnf
      exact ⟨by omega, by omega⟩
    conv => whnf
    refine ⟨fun h8 => ?_, fun h8 => ?_⟩
    · exfalso
      simp only [pickB, Bool.or_eq_true, decide_eq_true_eq, e1] at h8
      unfold EdOK EdOK' at he
      omega
    · conv => whnf
      refine nextQ_intro (i + 1) (by show i + 1 ≤ l.length; omega) (by show l.length - (i + 1) < l.length - i; omega) (by exact rfl) (by exact rfl) trivial ⟨rfl, rfl, enI (by exact rfl) ?_, trivial⟩
      rw [wrap64 (by omega) (by omega)]; omega
  · refine quiet_int (by exact rfl) (by exact rfl) (by exact trivial) (by exact rfl) rfl

/-- How much more flows to each node than away from it, the first i edges. -/
def balTo (n : Nat) (l : List EdT.den) (f : List Int) : Nat → List Int
  | 0 => List.replicate n 0
  | i + 1 => incAt (incAt (balTo n l f i) (l.getD i EdT.dflt).2.1.toNat (f.getD i 0)) (l.getD i EdT.dflt).1.toNat (-(f.getD i 0))

theorem balTo_len (n : Nat) (l : List EdT.den) (f : List Int) (i : Nat) : (balTo n l f i).length = n := by
  induction i with
  | zero => simp [balTo]
  | succ i ih => simp [balTo, incAt, ih]

theorem getD_incAt' (l : List Int) (j : Nat) (d : Int) (k : Nat) : (incAt l j d).getD k 0 = if k = j ∧ j < l.length then l.getD j 0 + d else l.getD k 0 := by
  by_cases h : j < l.length
  · rw [getD_incAt l j d k h]
    simp [h]
  · unfold incAt
    rw [List.set_eq_of_length_le (by omega)]
    simp [h]

theorem balTo_range (n : Nat) (l : List EdT.den) (f : List Int) (hf : ∀ i, 0 ≤ f.getD i 0 ∧ f.getD i 0 ≤ 1000) (i : Nat) (k : Nat) : -1000 * (i : Int) ≤ (balTo n l f i).getD k 0 ∧ (balTo n l f i).getD k 0 ≤ 1000 * (i : Int) := by
  induction i generalizing k with
  | zero => simp only [balTo, List.getD_eq_getElem?_getD, List.getElem?_replicate]; split <;> simp
  | succ i ih =>
    simp only [balTo, getD_incAt']
    have h1 := ih k
    have h2 := ih (l.getD i EdT.dflt).2.1.toNat
    have h3 := ih (l.getD i EdT.dflt).1.toNat
    have h4 := hf i
    split <;> split <;> omega

theorem bal0_ok (n : Int) (l : List EdT.den) (f : List Int) (h : NetOK n l) (hlf : l.length = f.length) (hf : ∀ i, 0 ≤ f.getD i 0 ∧ f.getD i 0 ≤ 1000) :
    FnOK Try.prog 38 [cint n, cisl EdT l, cisl I64 f] [] [] (fun r hs' => r = .one (.cell (.vec 110)) ∧ hs' = [(110, .arr I64 (balTo n.toNat l f l.length))]) := by
  obtain ⟨h1, h2, h3, h4⟩ := h
  refine FnOK.intro gamN_ok fn38 rfl rfl ?_
  intro _ _
  apply Tri.of_vc gamN_ok []
  conv => whnf
  refine Ob.mk ⟨⟨by omega, by show n * 8 ≤ 140737488355328; omega⟩, rfl⟩ ?_
  conv => whnf
  refine Tri.loop (α := Nat) (n := 58) (fun i => [(0, vint n), (1, visl EdT l), (2, visl I64 f), (7, .one (.cell (.vec 110))), (8, vint i)]) (fun i => [(110, .arr I64 (balTo n.toNat l f i))]) [] (fun i => i ≤ l.length) (fun i => l.length - i) 0 (Nat.zero_le _) rfl ⟨rfl, rfl, rfl, rfl, rfl, trivial⟩ ⟨rfl, trivial⟩ rfl ?_
  intro i hi _ _
  have hbl := balTo_len n.toNat l f i
  have hb1 := balTo_range n.toNat l f hf i (l.getD i EdT.dflt).2.1.toNat
  have hb2 := balTo_range n.toNat l f hf i (l.getD i EdT.dflt).1.toNat
  have he := h4 i
  unfold EdOK EdOK' at he
  have hfi := hf i
  apply Tri.of_vc gamN_ok []
  conv => whnf
  repeat' (first
    | (refine Ob.mk ?_ ?_ <;> conv => whnf)
    | (refine Fork2.mk (fun h => ?_) (fun h => ?_) <;> (conv => whnf))
    | (refine Fork.mk (fun h => ?_) (fun h => ?_) <;> (try simp only [pickB, Bool.and_eq_true, Bool.or_eq_true, Bool.and_eq_false_iff, Bool.or_eq_false_iff, Bool.not_eq_true', Bool.not_eq_false', Bool.not_eq_eq_eq_not, Bool.not_true, Bool.not_false, decide_eq_true_eq, decide_eq_false_iff_not, beq_iff_eq, bne_iff_ne, beq_eq_false_iff_ne, bne_eq_false_iff_eq, Int.not_lt, Int.not_le, ge_iff_le, gt_iff_lt, ne_eq, not_and, not_or, not_true_eq_false, not_false_eq_true, reduceCtorEq, or_false, false_or, and_true, true_and, and_false, false_and, or_true, true_or] at h) <;> (try simp only [Int.toNat_natCast, dflt64] at h) <;> (try (exfalso; omega)) <;> (conv => whnf))
    | (refine Tri.draw (id := 5) gamN_ok mixed [0, 0, 0, 6, 14, 30, 0, 0, 0, 384, 896, 1920, 4032, 8128, 0, 0, 49152, 114688, 262080, 524287, 1048575] 1572864 [17, 18, 19, 20, 21, 22, 23, 24, 25, 26, 27, 28, 29, 30, 31, 32, 33, 34, 35] [] (by rfl) (by rfl) (by rfl) ?_; conv => whnf)
    | (refine Tri.draw (id := 6) gamN_ok mixed [0, 0, 0, 6, 14, 30, 0, 0, 0, 384, 896, 1920, 4032, 8128, 0, 0, 49152, 114688, 262080, 524287, 1048575] 1572864 [37, 38, 39, 40, 41, 42, 43, 44, 45, 46, 47, 48, 49, 50, 51, 52, 53, 54, 55] [] (by rfl) (by rfl) (by rfl) ?_; conv => whnf)
    | (refine And.intro (by kernel_rfl) ?_; conv => whnf)
    | (intro h; (try simp only [pickB, Bool.and_eq_true, Bool.or_eq_true, Bool.and_eq_false_iff, Bool.or_eq_false_iff, Bool.not_eq_true', Bool.not_eq_false', Bool.not_eq_eq_eq_not, Bool.not_true, Bool.not_false, decide_eq_true_eq, decide_eq_false_iff_not, beq_iff_eq, bne_iff_ne, beq_eq_false_iff_ne, bne_eq_false_iff_eq, Int.not_lt, Int.not_le, ge_iff_le, gt_iff_lt, ne_eq, not_and, not_or, not_true_eq_false, not_false_eq_true, reduceCtorEq, or_false, false_or, and_true, true_and, and_false, false_and, or_true, true_or] at h) <;> (try simp only [Int.toNat_natCast, dflt64] at h); conv => whnf)
    | omega
    | (simp only [conj, and_true, true_and, Nat.le_eq]; dsimp only; omega)
    | (simp only [Int.toNat_natCast, dflt64, List.length_set, List.length_append, List.length_cons, List.length_nil, getD_set0]; omega)
    | (simp only [Int.toNat_natCast, dflt64, List.length_set, List.length_append, List.length_cons, List.length_nil, getD_set0]; split <;> omega))
  · refine nextQ_intro (i + 1) (by show i + 1 ≤ l.length; omega) (by show l.length - (i + 1) < l.length - i; omega) (by exact rfl) (by exact rfl) ⟨chA (by exact rfl) ?_, trivial⟩ ⟨rfl, rfl, rfl, rfl, rfl, trivial⟩
    rfl
  · have : i = l.length := by omega
    subst this
    exact postQ_ret [(110, .arr I64 (balTo n.toNat l f l.length))] (by exact rfl) (by exact rfl) ⟨rfl, trivial⟩ (by exact rfl) (by exact rfl) ⟨rfl, rfl⟩

theorem bal_ok (n : Int) (l : List EdT.den) (f : List Int) (h : NetOK n l) (hlf : l.length = f.length) (hf : ∀ i, 0 ≤ f.getD i 0 ∧ f.getD i 0 ≤ 1000) :
    Quiet Try.prog 38 [cint n, cisl EdT l, cisl I64 f] [] (visl I64 (balTo n.toNat l f l.length)) := by
  refine FnOK.freeze 110 I64 (bal0_ok n l f h hlf hf) ?_
  rintro r hs' ⟨rfl, rfl⟩
  exact ⟨_, rfl, rfl, rfl, rfl, rfl⟩

/-- A flow within its bounds; no edge that the levels want otherwise. -/
def rangeP (lo hi f : Int) : Prop := lo ≤ f ∧ f ≤ hi
def slackP (lo hi f c u v : Int) : Prop := ¬ (f < hi ∧ c + u - v < 0) ∧ ¬ (lo < f ∧ 0 < c + u - v)

/-- A certificate in order. -/
structure CertOK (n : Int) (l : List EdT.den) (f v : List Int) : Prop where
  fl : f.length = l.length
  vl : (v.length : Int) = n
  vr : ∀ i, -1099511627776 ≤ v.getD i 0 ∧ v.getD i 0 ≤ 1099511627776
  fr : ∀ i, i < l.length → rangeP (l.getD i EdT.dflt).2.2.1 (l.getD i EdT.dflt).2.2.2.1 (f.getD i 0)
  sl : ∀ i, i < l.length → slackP (l.getD i EdT.dflt).2.2.1 (l.getD i EdT.dflt).2.2.2.1 (f.getD i 0) (l.getD i EdT.dflt).2.2.2.2 (v.getD (l.getD i EdT.dflt).1.toNat 0) (v.getD (l.getD i EdT.dflt).2.1.toNat 0)
  bl : ∀ k, (balTo n.toNat l f l.length).getD k 0 = 0

theorem getD_out {l : List Int} {i : Nat} (h : l.length ≤ i) : l.getD i 0 = 0 := by
  simp [List.getD_eq_getElem?_getD, List.getElem?_eq_none h]

theorem certFr {n : Int} {l : List EdT.den} {f v : List Int} (h : NetOK n l) (c : CertOK n l f v) (i : Nat) : 0 ≤ f.getD i 0 ∧ f.getD i 0 ≤ 1000 := by
  by_cases hi : i < l.length
  · have h1 := h.2.2.2 i hi
    have h2 := c.fr i hi
    unfold EdOK EdOK' at h1
    unfold rangeP at h2
    omega
  · have := c.fl
    rw [getD_out (by omega)]
    omega

theorem refCheck_ok (n : Int) (l : List EdT.den) (f v : List Int) (h : NetOK n l) (c : CertOK n l f v) :
    Quiet Try.prog 26 [cint n, cisl EdT l, .agg [.isl I64 f, .isl I64 v]] [] (vint 0) := by
  have hfr := certFr h c
  have hbal := bal_ok n l f h c.fl.symm hfr
  refine FnOK.intro gamN_ok fn26 rfl rfl ?_
  intro _ _
  apply Tri.of_vc gamN_ok []
  conv => whnf
  refine callQ is37 (given_ok n l h) trivial ?_
  conv => whnf
  have hc1 := c.fl
  have hc2 := c.vl
  obtain ⟨h1, h2, h3, h4⟩ := h
  repeat' (first
    | (refine Ob.mk ?_ ?_ <;> conv => whnf)
    | (refine Fork2.mk (fun h => ?_) (fun h => ?_) <;> (conv => whnf))
    | (refine Fork.mk (fun h => ?_) (fun h => ?_) <;> (try simp only [pickB, Bool.and_eq_true, Bool.or_eq_true, Bool.and_eq_false_iff, Bool.or_eq_false_iff, Bool.not_eq_true', Bool.not_eq_false', Bool.not_eq_eq_eq_not, Bool.not_true, Bool.not_false, decide_eq_true_eq, decide_eq_false_iff_not, beq_iff_eq, bne_iff_ne, beq_eq_false_iff_ne, bne_eq_false_iff_eq, Int.not_lt, Int.not_le, ge_iff_le, gt_iff_lt, ne_eq, not_and, not_or, not_true_eq_false, not_false_eq_true, reduceCtorEq, or_false, false_or, and_true, true_and, and_false, false_and, or_true, true_or] at h) <;> (try simp only [Int.toNat_natCast, dflt64] at h) <;> (try (exfalso; omega)) <;> (conv => whnf))
    | (refine Tri.draw (id := 14) gamN_ok mixed [0, 1, 0, 7, 15, 0, 0, 96, 224, 480, 1023, 2047, 4095, 8191, 4095, 32767, 65535, 4095, 4095, 397311, 921599, 1970175, 4194303, 8388607] 12585984 [57, 58, 59, 60, 61, 62, 63, 64, 65, 66, 69, 70, 71, 72, 73, 74, 75, 76, 77, 78] [] (by rfl) (by rfl) (by rfl) ?_; conv => whnf)
    | (refine Tri.draw (id := 16) gamN_ok mixed [0, 0, 3, 7, 15, 0, 32, 0, 0, 384, 896, 1920, 4064, 8160, 16383, 0, 32768, 0, 0, 393216, 917504, 1966080, 4161536, 8355840, 16777215, 33554431] 50331648 [81, 82, 83, 84, 85, 86, 87, 88, 89, 90, 91, 92, 93, 94, 95, 96, 97, 98, 99, 100, 101, 102, 103, 104] [] (by rfl) (by rfl) (by rfl) ?_; conv => whnf)
    | (refine Tri.draw (id := 17) gamN_ok mixed [0, 1, 0, 7, 15, 0, 0, 96, 224, 480, 1023, 2047, 4095, 8191, 16383, 32767, 65535, 131071, 65535, 524287, 1048575, 65535, 65535, 6356991, 14745599, 31522815, 67108863, 134217727, 268435455, 536870911, 1073741823, 2147483647] 4227922944 [106, 107, 108, 109, 110, 111, 112, 113, 114, 115, 122, 123, 124, 125, 126, 127, 128, 129, 130, 131] [] (by rfl) (by rfl) (by rfl) ?_; conv => whnf)
    | (refine And.intro (by kernel_rfl) ?_; conv => whnf)
    | (intro h; (try simp only [pickB, Bool.and_eq_true, Bool.or_eq_true, Bool.and_eq_false_iff, Bool.or_eq_false_iff, Bool.not_eq_true', Bool.not_eq_false', Bool.not_eq_eq_eq_not, Bool.not_true, Bool.not_false, decide_eq_true_eq, decide_eq_false_iff_not, beq_iff_eq, bne_iff_ne, beq_eq_false_iff_ne, bne_eq_false_iff_eq, Int.not_lt, Int.not_le, ge_iff_le, gt_iff_lt, ne_eq, not_and, not_or, not_true_eq_false, not_false_eq_true, reduceCtorEq, or_false, false_or, and_true, true_and, and_false, false_and, or_true, true_or] at h) <;> (try simp only [Int.toNat_natCast, dflt64] at h); conv => whnf)
    | omega
    | (simp only [conj, and_true, true_and, Nat.le_eq]; dsimp only; omega)
    | (simp only [Int.toNat_natCast, dflt64, List.length_set, List.length_append, List.length_cons, List.length_nil, getD_set0]; omega)
    | (simp only [Int.toNat_natCast, dflt64, List.length_set, List.length_append, List.length_cons, List.length_nil, getD_set0]; split <;> omega))
  refine Tri.loop (α := Nat) (n := 153) (fun i => [(0, vint n), (1, visl EdT l), (5, .one (.cell (.ref 105 0))), (8, vint i)]) (fun i => [(105, .cells [.isl I64 f, .isl I64 v])]) [] (fun i => i ≤ v.length) (fun i => v.length - i) 0 (Nat.zero_le _) rfl ⟨rfl, rfl, rfl, rfl, trivial⟩ ⟨rfl, trivial⟩ rfl ?_
  intro i hi _ _
  have hv := c.vr i
  apply Tri.of_vc gamN_ok []
  conv => whnf
  repeat' (first
    | (refine Ob.mk ?_ ?_ <;> conv => whnf)
    | (refine Fork2.mk (fun h => ?_) (fun h => ?_) <;> (conv => whnf))
    | (refine Fork.mk (fun h => ?_) (fun h => ?_) <;> (try simp only [pickB, Bool.and_eq_true, Bool.or_eq_true, Bool.and_eq_false_iff, Bool.or_eq_false_iff, Bool.not_eq_true', Bool.not_eq_false', Bool.not_eq_eq_eq_not, Bool.not_true, Bool.not_false, decide_eq_true_eq, decide_eq_false_iff_not, beq_iff_eq, bne_iff_ne, beq_eq_false_iff_ne, bne_eq_false_iff_eq, Int.not_lt, Int.not_le, ge_iff_le, gt_iff_lt, ne_eq, not_and, not_or, not_true_eq_false, not_false_eq_true, reduceCtorEq, or_false, false_or, and_true, true_and, and_false, false_and, or_true, true_or] at h) <;> (try simp only [Int.toNat_natCast, dflt64] at h) <;> (try (exfalso; omega)) <;> (conv => whnf))
    | (refine Tri.draw (id := 14) gamN_ok mixed [0, 1, 0, 7, 15, 0, 0, 96, 224, 480, 1023, 2047, 4095, 8191, 4095, 32767, 65535, 4095, 4095, 397311, 921599, 1970175, 4194303, 8388607] 12585984 [57, 58, 59, 60, 61, 62, 63, 64, 65, 66, 69, 70, 71, 72, 73, 74, 75, 76, 77, 78] [] (by rfl) (by rfl) (by rfl) ?_; conv => whnf)
    | (refine Tri.draw (id := 16) gamN_ok mixed [0, 0, 3, 7, 15, 0, 32, 0, 0, 384, 896, 1920, 4064, 8160, 16383, 0, 32768, 0, 0, 393216, 917504, 1966080, 4161536, 8355840, 16777215, 33554431] 50331648 [81, 82, 83, 84, 85, 86, 87, 88, 89, 90, 91, 92, 93, 94, 95, 96, 97, 98, 99, 100, 101, 102, 103, 104] [] (by rfl) (by rfl) (by rfl) ?_; conv => whnf)
    | (refine Tri.draw (id := 17) gamN_ok mixed [0, 1, 0, 7, 15, 0, 0, 96, 224, 480, 1023, 2047, 4095, 8191, 16383, 32767, 65535, 131071, 65535, 524287, 1048575, 65535, 65535, 6356991, 14745599, 31522815, 67108863, 134217727, 268435455, 536870911, 1073741823, 2147483647] 4227922944 [106, 107, 108, 109, 110, 111, 112, 113, 114, 115, 122, 123, 124, 125, 126, 127, 128, 129, 130, 131] [] (by rfl) (by rfl) (by rfl) ?_; conv => whnf)
    | (refine And.intro (by kernel_rfl) ?_; conv => whnf)
    | (intro h; (try simp only [pickB, Bool.and_eq_true, Bool.or_eq_true, Bool.and_eq_false_iff, Bool.or_eq_false_iff, Bool.not_eq_true', Bool.not_eq_false', Bool.not_eq_eq_eq_not, Bool.not_true, Bool.not_false, decide_eq_true_eq, decide_eq_false_iff_not, beq_iff_eq, bne_iff_ne, beq_eq_false_iff_ne, bne_eq_false_iff_eq, Int.not_lt, Int.not_le, ge_iff_le, gt_iff_lt, ne_eq, not_and, not_or, not_true_eq_false, not_false_eq_true, reduceCtorEq, or_false, false_or, and_true, true_and, and_false, false_and, or_true, true_or] at h) <;> (try simp only [Int.toNat_natCast, dflt64] at h); conv => whnf)
    | omega
    | (simp only [conj, and_true, true_and, Nat.le_eq]; dsimp only; omega)
    | (simp only [Int.toNat_natCast, dflt64, List.length_set, List.length_append, List.length_cons, List.length_nil, getD_set0]; omega)
    | (simp only [Int.toNat_natCast, dflt64, List.length_set, List.length_append, List.length_cons, List.length_nil, getD_set0]; split <;> omega))
  · refine nextQ_intro (i + 1) (by show i + 1 ≤ v.length; omega) (by show v.length - (i + 1) < v.length - i; omega) (by exact rfl) (by exact rfl) ⟨rfl, trivial⟩ ⟨rfl, rfl, rfl, rfl, trivial⟩
  refine Tri.loop (α := Nat) (n := 153) (fun i => [(0, vint n), (1, visl EdT l), (5, .one (.cell (.ref 105 0))), (9, vint i)]) (fun i => [(105, .cells [.isl I64 f, .isl I64 v])]) [] (fun i => i ≤ l.length) (fun i => l.length - i) 0 (Nat.zero_le _) rfl ⟨rfl, rfl, rfl, rfl, trivial⟩ ⟨rfl, trivial⟩ rfl ?_
  intro i hi _ _
  have he := h4 i
  have hr := c.fr i
  have hs := c.sl i
  have hv1 := c.vr (l.getD i EdT.dflt).1.toNat
  have hv2 := c.vr (l.getD i EdT.dflt).2.1.toNat
  unfold EdOK EdOK' at he
  unfold rangeP at hr
  unfold slackP at hs
  apply Tri.of_vc gamN_ok []
  conv => whnf
  repeat' (first
    | (refine Ob.mk ?_ ?_ <;> conv => whnf)
    | (refine Fork2.mk (fun h => ?_) (fun h => ?_) <;> (conv => whnf))
    | (refine Fork.mk (fun h => ?_) (fun h => ?_) <;> (try simp only [pickB, Bool.and_eq_true, Bool.or_eq_true, Bool.and_eq_false_iff, Bool.or_eq_false_iff, Bool.not_eq_true', Bool.not_eq_false', Bool.not_eq_eq_eq_not, Bool.not_true, Bool.not_false, decide_eq_true_eq, decide_eq_false_iff_not, beq_iff_eq, bne_iff_ne, beq_eq_false_iff_ne, bne_eq_false_iff_eq, Int.not_lt, Int.not_le, ge_iff_le, gt_iff_lt, ne_eq, not_and, not_or, not_true_eq_false, not_false_eq_true, reduceCtorEq, or_false, false_or, and_true, true_and, and_false, false_and, or_true, true_or] at h) <;> (try simp only [Int.toNat_natCast, dflt64] at h) <;> (try (exfalso; omega)) <;> (conv => whnf))
    | (refine Tri.draw (id := 14) gamN_ok mixed [0, 1, 0, 7, 15, 0, 0, 96, 224, 480, 1023, 2047, 4095, 8191, 4095, 32767, 65535, 4095, 4095, 397311, 921599, 1970175, 4194303, 8388607] 12585984 [57, 58, 59, 60, 61, 62, 63, 64, 65, 66, 69, 70, 71, 72, 73, 74, 75, 76, 77, 78] [] (by rfl) (by rfl) (by rfl) ?_; conv => whnf)
    | (refine Tri.draw (id := 16) gamN_ok mixed [0, 0, 3, 7, 15, 0, 32, 0, 0, 384, 896, 1920, 4064, 8160, 16383, 0, 32768, 0, 0, 393216, 917504, 1966080, 4161536, 8355840, 16777215, 33554431] 50331648 [81, 82, 83, 84, 85, 86, 87, 88, 89, 90, 91, 92, 93, 94, 95, 96, 97, 98, 99, 100, 101, 102, 103, 104] [] (by rfl) (by rfl) (by rfl) ?_; conv => whnf)
    | (refine Tri.draw (id := 17) gamN_ok mixed [0, 1, 0, 7, 15, 0, 0, 96, 224, 480, 1023, 2047, 4095, 8191, 16383, 32767, 65535, 131071, 65535, 524287, 1048575, 65535, 65535, 6356991, 14745599, 31522815, 67108863, 134217727, 268435455, 536870911, 1073741823, 2147483647] 4227922944 [106, 107, 108, 109, 110, 111, 112, 113, 114, 115, 122, 123, 124, 125, 126, 127, 128, 129, 130, 131] [] (by rfl) (by rfl) (by rfl) ?_; conv => whnf)
    | (refine And.intro (by kernel_rfl) ?_; conv => whnf)
    | (intro h; (try simp only [pickB, Bool.and_eq_true, Bool.or_eq_true, Bool.and_eq_false_iff, Bool.or_eq_false_iff, Bool.not_eq_true', Bool.not_eq_false', Bool.not_eq_eq_eq_not, Bool.not_true, Bool.not_false, decide_eq_true_eq, decide_eq_false_iff_not, beq_iff_eq, bne_iff_ne, beq_eq_false_iff_ne, bne_eq_false_iff_eq, Int.not_lt, Int.not_le, ge_iff_le, gt_iff_lt, ne_eq, not_and, not_or, not_true_eq_false, not_false_eq_true, reduceCtorEq, or_false, false_or, and_true, true_and, and_false, false_and, or_true, true_or] at h) <;> (try simp only [Int.toNat_natCast, dflt64] at h); conv => whnf)
    | omega
    | (simp only [conj, and_true, true_and, Nat.le_eq]; dsimp only; omega)
    | (simp only [Int.toNat_natCast, dflt64, List.length_set, List.length_append, List.length_cons, List.length_nil, getD_set0]; omega)
    | (simp only [Int.toNat_natCast, dflt64, List.length_set, List.length_append, List.length_cons, List.length_nil, getD_set0]; split <;> omega))
  · refine nextQ_intro (i + 1) (by show i + 1 ≤ l.length; omega) (by show l.length - (i + 1) < l.length - i; omega) (by exact rfl) (by exact rfl) ⟨rfl, trivial⟩ ⟨rfl, rfl, rfl, rfl, trivial⟩
  refine callQ is38 hbal trivial ?_
  conv => whnf
  have hbl := balTo_len n.toNat l f l.length
  refine Tri.loop (α := Nat) (n := 153) (fun i => [(0, vint n), (11, visl I64 (balTo n.toNat l f l.length)), (12, vint i)]) (fun i => []) [] (fun i => i ≤ v.length) (fun i => v.length - i) 0 (Nat.zero_le _) rfl ⟨rfl, rfl, rfl, trivial⟩ trivial rfl ?_
  intro i hi _ _
  have hb := c.bl i
  apply Tri.of_vc gamN_ok []
  conv => whnf
  repeat' (first
    | (refine Ob.mk ?_ ?_ <;> conv => whnf)
    | (refine Fork2.mk (fun h => ?_) (fun h => ?_) <;> (conv => whnf))
    | (refine Fork.mk (fun h => ?_) (fun h => ?_) <;> (try simp only [pickB, Bool.and_eq_true, Bool.or_eq_true, Bool.and_eq_false_iff, Bool.or_eq_false_iff, Bool.not_eq_true', Bool.not_eq_false', Bool.not_eq_eq_eq_not, Bool.not_true, Bool.not_false, decide_eq_true_eq, decide_eq_false_iff_not, beq_iff_eq, bne_iff_ne, beq_eq_false_iff_ne, bne_eq_false_iff_eq, Int.not_lt, Int.not_le, ge_iff_le, gt_iff_lt, ne_eq, not_and, not_or, not_true_eq_false, not_false_eq_true, reduceCtorEq, or_false, false_or, and_true, true_and, and_false, false_and, or_true, true_or] at h) <;> (try simp only [Int.toNat_natCast, dflt64] at h) <;> (try (exfalso; omega)) <;> (conv => whnf))
    | (refine Tri.draw (id := 14) gamN_ok mixed [0, 1, 0, 7, 15, 0, 0, 96, 224, 480, 1023, 2047, 4095, 8191, 4095, 32767, 65535, 4095, 4095, 397311, 921599, 1970175, 4194303, 8388607] 12585984 [57, 58, 59, 60, 61, 62, 63, 64, 65, 66, 69, 70, 71, 72, 73, 74, 75, 76, 77, 78] [] (by rfl) (by rfl) (by rfl) ?_; conv => whnf)
    | (refine Tri.draw (id := 16) gamN_ok mixed [0, 0, 3, 7, 15, 0, 32, 0, 0, 384, 896, 1920, 4064, 8160, 16383, 0, 32768, 0, 0, 393216, 917504, 1966080, 4161536, 8355840, 16777215, 33554431] 50331648 [81, 82, 83, 84, 85, 86, 87, 88, 89, 90, 91, 92, 93, 94, 95, 96, 97, 98, 99, 100, 101, 102, 103, 104] [] (by rfl) (by rfl) (by rfl) ?_; conv => whnf)
    | (refine Tri.draw (id := 17) gamN_ok mixed [0, 1, 0, 7, 15, 0, 0, 96, 224, 480, 1023, 2047, 4095, 8191, 16383, 32767, 65535, 131071, 65535, 524287, 1048575, 65535, 65535, 6356991, 14745599, 31522815, 67108863, 134217727, 268435455, 536870911, 1073741823, 2147483647] 4227922944 [106, 107, 108, 109, 110, 111, 112, 113, 114, 115, 122, 123, 124, 125, 126, 127, 128, 129, 130, 131] [] (by rfl) (by rfl) (by rfl) ?_; conv => whnf)
    | (refine And.intro (by kernel_rfl) ?_; conv => whnf)
    | (intro h; (try simp only [pickB, Bool.and_eq_true, Bool.or_eq_true, Bool.and_eq_false_iff, Bool.or_eq_false_iff, Bool.not_eq_true', Bool.not_eq_false', Bool.not_eq_eq_eq_not, Bool.not_true, Bool.not_false, decide_eq_true_eq, decide_eq_false_iff_not, beq_iff_eq, bne_iff_ne, beq_eq_false_iff_ne, bne_eq_false_iff_eq, Int.not_lt, Int.not_le, ge_iff_le, gt_iff_lt, ne_eq, not_and, not_or, not_true_eq_false, not_false_eq_true, reduceCtorEq, or_false, false_or, and_true, true_and, and_false, false_and, or_true, true_or] at h) <;> (try simp only [Int.toNat_natCast, dflt64] at h); conv => whnf)
    | omega
    | (simp only [conj, and_true, true_and, Nat.le_eq]; dsimp only; omega)
    | (simp only [Int.toNat_natCast, dflt64, List.length_set, List.length_append, List.length_cons, List.length_nil, getD_set0]; omega)
    | (simp only [Int.toNat_natCast, dflt64, List.length_set, List.length_append, List.length_cons, List.length_nil, getD_set0]; split <;> omega))
  · refine nextQ_intro (i + 1) (by show i + 1 ≤ v.length; omega) (by show v.length - (i + 1) < v.length - i; omega) (by exact rfl) (by exact rfl) trivial ⟨rfl, rfl, rfl, trivial⟩
  · exact quiet_int (by exact rfl) (by exact rfl) trivial (by exact rfl) rfl

end Go.Sx
