/- What made, excess and room of package flow do. Conditions: none. -/
import Derived.Test.YthilnjignhopkaaEdG4
set_option linter.unusedSimpArgs false
set_option linter.unusedVariables false
set_option maxRecDepth 10000
set_option maxHeartbeats 4000000
namespace Go.Sx
open Go Go.Proofs

/-- An arc: edge, from, to, cost, 1 or -1. -/
abbrev ArT : Ty := EdT

def arcRow (l : List EdT.den) (i : Nat) : List ArT.den :=
  [((i : Int), (l.getD i EdT.dflt).1, (l.getD i EdT.dflt).2.1, (l.getD i EdT.dflt).2.2.2.2, (1 : Int)), ((i : Int), (l.getD i EdT.dflt).2.1, (l.getD i EdT.dflt).1, -(l.getD i EdT.dflt).2.2.2.2, (-1 : Int))]
def arcTo (l : List EdT.den) (i : Nat) : List ArT.den := (List.range i).flatMap (arcRow l)
def arcL (l : List EdT.den) : List ArT.den := arcTo l l.length

theorem arcTo_len (l : List EdT.den) (i : Nat) : (arcTo l i).length = 2 * i := by
  induction i with
  | zero => rfl
  | succ i ih => unfold arcTo at *; rw [List.range_succ, List.flatMap_append, List.length_append, ih]; simp [arcRow]; omega

theorem arcTo_succ (l : List EdT.den) (i : Nat) : arcTo l (i + 1) = arcTo l i ++ arcRow l i := by
  unfold arcTo; rw [List.range_succ, List.flatMap_append]; simp

/-- The least flow, set for the first i edges. -/
def loTo (l : List EdT.den) (i : Nat) : List Int := (List.range l.length).map fun k => if k < i then (l.getD k EdT.dflt).2.2.1 else 0

theorem loTo_len (l : List EdT.den) (i : Nat) : (loTo l i).length = l.length := by simp [loTo]

theorem loTo_succ (l : List EdT.den) (i : Nat) (h : i < l.length) : (loTo l i).set i (l.getD i EdT.dflt).2.2.1 = loTo l (i + 1) := by
  apply List.ext_getElem
  · simp [loTo]
  · intro k h1 h2
    rw [List.getElem_set]
    simp only [loTo, List.getElem_map, List.getElem_range]
    split
    · rename_i e; subst e; rw [if_pos (by omega)]
    · split <;> split <;> first | rfl | omega

/-- A net: its flow and its arcs are chunks. -/
def netM (n : Int) (l : List EdT.den) : Chunk := .cells [.int .i64 n, .isl EdT l, .vec 1, .vec 2]

/-- A net: its flow is a chunk, its arcs are only read. -/
def netC (n : Int) (l : List EdT.den) : Chunk := .cells [.int .i64 n, .isl EdT l, .vec 1, .isl ArT (arcL l)]

theorem made0_ok (n : Int) (l : List EdT.den) (h : NetOK n l) :
    FnOK Try.prog 33 [cint n, cisl EdT l] [] [] (fun r hs' => r = .one (.cell (.ref 114 0)) ∧ hs' = [(1000, .arr ArT (arcL l)), (114, .cells [.int .i64 n, .isl EdT l, .vec 112, .vec 1000]), (112, .arr I64 (loTo l l.length))]) := by
  obtain ⟨h1, h2, h3, h4⟩ := h
  refine FnOK.intro gamN_ok fn33 rfl rfl ?_
  intro _ _
  apply Tri.of_vc gamN_ok []
  conv => whnf
  refine Ob.mk ⟨⟨by omega, by show (l.length : Int) * 8 ≤ 140737488355328; omega⟩, rfl⟩ ?_
  conv => whnf
  refine Tri.thawC 114 3 1000 ArT _ rfl (by exact rfl) (by exact rfl) ?_
  refine Tri.loop (α := Nat) (n := 58) (fun i => [(5, .one (.cell (.ref 114 0))), (15, visl EdT l), (16, vint l.length), (17, vint i)]) (fun i => [(1000, .arr ArT (arcTo l i)), (114, .cells [.int .i64 n, .isl EdT l, .vec 112, .vec 1000]), (112, .arr I64 (loTo l i))]) []
    (fun i => i ≤ l.length) (fun i => l.length - i) 0 (Nat.zero_le _) rfl ⟨rfl, rfl, rfl, rfl, trivial⟩ ⟨rfl, rfl, chA (by exact rfl) ?_, trivial⟩ rfl ?_
  · show List.replicate l.length (0 : Int) = _
    apply List.ext_getElem
    · simp [loTo]
    · intro k h1 h2
      simp [loTo]
  intro i hi _ _
  have he := h4 i
  have hll := loTo_len l i
  have hsucc := loTo_succ l i
  have hal := arcTo_len l i
  have has := arcTo_succ l i
  unfold EdOK EdOK' at he
  apply Tri.of_vc gamN_ok []
  conv => whnf
  repeat' (first
    | (refine Ob.mk ?_ ?_ <;> conv => whnf)
    | (refine Fork2.mk (fun h => ?_) (fun h => ?_) <;> (conv => whnf))
    | (refine Fork.mk (fun h => ?_) (fun h => ?_) <;> (try simp only [pickB, Bool.and_eq_true, Bool.or_eq_true, Bool.and_eq_false_iff, Bool.or_eq_false_iff, Bool.not_eq_true', Bool.not_eq_false', Bool.not_eq_eq_eq_not, Bool.not_true, Bool.not_false, decide_eq_true_eq, decide_eq_false_iff_not, beq_iff_eq, bne_iff_ne, beq_eq_false_iff_ne, bne_eq_false_iff_eq, Int.not_lt, Int.not_le, ge_iff_le, gt_iff_lt, ne_eq, not_and, not_or, not_true_eq_false, not_false_eq_true, reduceCtorEq, or_false, false_or, and_true, true_and, and_false, false_and, or_true, true_or] at h) <;> (try simp only [Int.toNat_natCast, dflt64] at h) <;> (try (exfalso; omega)) <;> (conv => whnf))
    | (refine Tri.draw (id := 5) gamN_ok mixed [0, 1, 3, 7, 0, 0, 32, 127, 255] 384 [22, 23, 24, 25, 26, 27, 28] [] (by rfl) (by rfl) (by rfl) ?_; conv => whnf)
    | (refine Tri.drawM (id := 6) 8388608 gamN_ok mixed [0, 0, 2, 6, 14, 0, 0, 64, 0, 256, 0, 1024, 4064, 0, 0, 16384, 0, 65536, 0, 262144, 786432, 2088960, 4194272, 8388606, 16777215, 33554431, 67108863] 117440512 [30, 31, 32, 33, 34, 35, 36, 37, 38, 39, 40, 41, 42, 43, 44, 45, 46, 47, 48, 49, 50, 51, 52, 53] [] (by rfl) (by rfl) (by rfl) ?_; conv => whnf)
    | (refine And.intro (by kernel_rfl) ?_; conv => whnf)
    | (intro h; (try simp only [pickB, Bool.and_eq_true, Bool.or_eq_true, Bool.and_eq_false_iff, Bool.or_eq_false_iff, Bool.not_eq_true', Bool.not_eq_false', Bool.not_eq_eq_eq_not, Bool.not_true, Bool.not_false, decide_eq_true_eq, decide_eq_false_iff_not, beq_iff_eq, bne_iff_ne, beq_eq_false_iff_ne, bne_eq_false_iff_eq, Int.not_lt, Int.not_le, ge_iff_le, gt_iff_lt, ne_eq, not_and, not_or, not_true_eq_false, not_false_eq_true, reduceCtorEq, or_false, false_or, and_true, true_and, and_false, false_and, or_true, true_or] at h) <;> (try simp only [Int.toNat_natCast, dflt64] at h); conv => whnf)
    | omega
    | (simp only [conj, and_true, true_and, Nat.le_eq]; dsimp only; omega)
    | (simp only [Int.toNat_natCast, dflt64, List.length_set, List.length_append, List.length_cons, List.length_nil, getD_set0]; omega)
    | (simp only [Int.toNat_natCast, dflt64, List.length_set, List.length_append, List.length_cons, List.length_nil, getD_set0]; split <;> omega))
  · show ((arcTo l i).length + 2) * 40 ≤ 140737488355328
    omega
  · refine nextQ_intro (i + 1) (by show i + 1 ≤ l.length; omega) (by show l.length - (i + 1) < l.length - i; omega) (by exact rfl) (by exact rfl) ⟨chA (by exact rfl) ?_, rfl, chA (by exact rfl) ?_, trivial⟩ ⟨rfl, rfl, rfl, rfl, trivial⟩
    · rw [has]; rfl
    · exact hsucc (by omega)
  · have : i = l.length := by omega
    subst this
    exact postQ_ret [(1000, .arr ArT (arcL l)), (114, .cells [.int .i64 n, .isl EdT l, .vec 112, .vec 1000]), (112, .arr I64 (loTo l l.length))] (by exact rfl) (by exact rfl) ⟨rfl, rfl, rfl, trivial⟩ (by exact rfl) (by exact rfl) ⟨rfl, rfl⟩

theorem made_ok (n : Int) (l : List EdT.den) (h : NetOK n l) :
    FnOK Try.prog 33 [cint n, cisl EdT l] [] [] (fun r hs' => r = .one (.cell (.ref 114 0)) ∧ hs' = [(114, .cells [.int .i64 n, .isl EdT l, .vec 112, .isl ArT (arcL l)]), (112, .arr I64 (loTo l l.length))]) := by
  refine FnOK.freeze 1000 ArT (made0_ok n l h) ?_
  rintro r hs' ⟨rfl, rfl⟩
  exact ⟨_, rfl, rfl, rfl, rfl, rfl⟩

theorem exc0_ok (n : Int) (l : List EdT.den) (f : List Int) (h : NetOK n l) (hlf : l.length = f.length) (hf : ∀ i, 0 ≤ f.getD i 0 ∧ f.getD i 0 ≤ 1000) :
    FnOK Try.prog 31 [.cell (.ref 0 0)] [(0, netC n l), (1, .arr I64 f)] [] (fun r hs' => r = .one (.cell (.vec 110)) ∧ hs' = [(110, .arr I64 (balTo n.toNat l f l.length)), (0, netC n l), (1, .arr I64 f)]) := by
  obtain ⟨h1, h2, h3, h4⟩ := h
  refine FnOK.intro gamN_ok fn31 rfl rfl ?_
  intro _ _
  apply Tri.of_vc gamN_ok []
  conv => whnf
  refine Ob.mk ⟨⟨by omega, by show n * 8 ≤ 140737488355328; omega⟩, rfl⟩ ?_
  conv => whnf
  refine Tri.loop (α := Nat) (n := 51) (fun i => [(0, .one (.cell (.ref 0 0))), (3, .one (.cell (.vec 110))), (14, visl EdT l), (15, vint l.length), (16, vint i)]) (fun i => [(0, netC n l), (1, .arr I64 f), (110, .arr I64 (balTo n.toNat l f i))]) [] (fun i => i ≤ l.length) (fun i => l.length - i) 0 (Nat.zero_le _) rfl ⟨rfl, rfl, rfl, rfl, rfl, trivial⟩ ⟨rfl, rfl, rfl, trivial⟩ rfl ?_
  intro i hi _ _
  have hbl := balTo_len n.toNat l f i
  have hb1 := balTo_range n.toNat l f hf i (l.getD i EdT.dflt).2.1.toNat
  have hb2 := balTo_range n.toNat l f hf i (l.getD i EdT.dflt).1.toNat
  have he := h4 i
  unfold EdOK EdOK' at he
  have hfi := hf i
  apply Tri.of_vc gamN_ok []
  conv => whnf
  repeat' (first
    | (refine Ob.mk ?_ ?_ <;> conv => whnf)
    | (refine Fork2.mk (fun h => ?_) (fun h => ?_) <;> (conv => whnf))
    | (refine Fork.mk (fun h => ?_) (fun h => ?_) <;> (try simp only [pickB, Bool.and_eq_true, Bool.or_eq_true, Bool.and_eq_false_iff, Bool.or_eq_false_iff, Bool.not_eq_true', Bool.not_eq_false', Bool.not_eq_eq_eq_not, Bool.not_true, Bool.not_false, decide_eq_true_eq, decide_eq_false_iff_not, beq_iff_eq, bne_iff_ne, beq_eq_false_iff_ne, bne_eq_false_iff_eq, Int.not_lt, Int.not_le, ge_iff_le, gt_iff_lt, ne_eq, not_and, not_or, not_true_eq_false, not_false_eq_true, reduceCtorEq, or_false, false_or, and_true, true_and, and_false, false_and, or_true, true_or] at h) <;> (try simp only [Int.toNat_natCast, dflt64] at h) <;> (try (exfalso; omega)) <;> (conv => whnf))
    | (refine Tri.draw (id := 5) gamN_ok mixed [0, 0, 2, 7, 15, 0, 32, 96, 224, 0, 992, 2016, 4095, 8191, 16383] 28672 [21, 22, 23, 24, 25, 26, 27, 28, 29, 30, 31, 32] [] (by rfl) (by rfl) (by rfl) ?_; conv => whnf)
    | (refine Tri.draw (id := 6) gamN_ok mixed [0, 0, 2, 7, 15, 0, 32, 96, 224, 0, 992, 2016, 4095, 8191, 16383] 28672 [35, 36, 37, 38, 39, 40, 41, 42, 43, 44, 45, 46] [] (by rfl) (by rfl) (by rfl) ?_; conv => whnf)
    | (refine And.intro (by kernel_rfl) ?_; conv => whnf)
    | (intro h; (try simp only [pickB, Bool.and_eq_true, Bool.or_eq_true, Bool.and_eq_false_iff, Bool.or_eq_false_iff, Bool.not_eq_true', Bool.not_eq_false', Bool.not_eq_eq_eq_not, Bool.not_true, Bool.not_false, decide_eq_true_eq, decide_eq_false_iff_not, beq_iff_eq, bne_iff_ne, beq_eq_false_iff_ne, bne_eq_false_iff_eq, Int.not_lt, Int.not_le, ge_iff_le, gt_iff_lt, ne_eq, not_and, not_or, not_true_eq_false, not_false_eq_true, reduceCtorEq, or_false, false_or, and_true, true_and, and_false, false_and, or_true, true_or] at h) <;> (try simp only [Int.toNat_natCast, dflt64] at h); conv => whnf)
    | omega
    | (simp only [conj, and_true, true_and, Nat.le_eq]; dsimp only; omega)
    | (simp only [Int.toNat_natCast, dflt64, List.length_set, List.length_append, List.length_cons, List.length_nil, getD_set0]; omega)
    | (simp only [Int.toNat_natCast, dflt64, List.length_set, List.length_append, List.length_cons, List.length_nil, getD_set0]; split <;> omega))
  · refine nextQ_intro (i + 1) (by show i + 1 ≤ l.length; omega) (by show l.length - (i + 1) < l.length - i; omega) (by exact rfl) (by exact rfl) ⟨rfl, rfl, chA (by exact rfl) ?_, trivial⟩ ⟨rfl, rfl, rfl, rfl, rfl, trivial⟩
    rfl
  · have : i = l.length := by omega
    subst this
    exact postQ_ret [(110, .arr I64 (balTo n.toNat l f l.length)), (0, netC n l), (1, .arr I64 f)] (by exact rfl) (by exact rfl) ⟨rfl, rfl, rfl, trivial⟩ (by exact rfl) (by exact rfl) ⟨rfl, rfl⟩

theorem exc_ok (n : Int) (l : List EdT.den) (f : List Int) (h : NetOK n l) (hlf : l.length = f.length) (hf : ∀ i, 0 ≤ f.getD i 0 ∧ f.getD i 0 ≤ 1000) :
    Quiet Try.prog 31 [.cell (.ref 0 0)] [(0, netC n l), (1, .arr I64 f)] (visl I64 (balTo n.toNat l f l.length)) := by
  refine FnOK.freeze 110 I64 (exc0_ok n l f h hlf hf) ?_
  rintro r hs' ⟨rfl, rfl⟩
  exact ⟨_, rfl, rfl, rfl, rfl, rfl⟩

/-- How much an arc can still take. -/
def roomP (lo hi f d : Int) : Int := if 0 < d then hi - f else f - lo
def room (l : List EdT.den) (f : List Int) (a : ArT.den) : Int := roomP (l.getD a.1.toNat EdT.dflt).2.2.1 (l.getD a.1.toNat EdT.dflt).2.2.2.1 (f.getD a.1.toNat 0) a.2.2.2.2

/-- A flow within its bounds. -/
def FlowOK (l : List EdT.den) (f : List Int) : Prop := f.length = l.length ∧ ∀ i, i < l.length → rangeP (l.getD i EdT.dflt).2.2.1 (l.getD i EdT.dflt).2.2.2.1 (f.getD i 0)

/-- An arc's edge is there. -/
def arcIn (m : Nat) (e : Int) : Prop := 0 ≤ e ∧ e < m

theorem room_ok (n : Int) (l : List EdT.den) (f : List Int) (a : ArT.den) (h : NetOK n l) (hf : FlowOK l f) (ha : arcIn l.length a.1) :
    Quiet Try.prog 45 [.cell (.ref 0 0), edV a] [(0, netC n l), (1, .arr I64 f)] (vint (room l f a)) := by
  obtain ⟨h1, h2, h3, h4⟩ := h
  have he := h4 a.1.toNat
  have hr := hf.2 a.1.toNat
  have hl := hf.1
  unfold EdOK EdOK' at he
  unfold rangeP at hr
  unfold arcIn at ha
  refine FnOK.intro gamN_ok fn45 rfl rfl ?_
  intro _ _
  apply Tri.of_vc gamN_ok []
  conv => whnf
  repeat' (first
    | (refine Ob.mk ?_ ?_ <;> conv => whnf)
    | (refine Fork2.mk (fun h => ?_) (fun h => ?_) <;> (conv => whnf))
    | (refine Fork.mk (fun h => ?_) (fun h => ?_) <;> (try simp only [pickB, Bool.and_eq_true, Bool.or_eq_true, Bool.and_eq_false_iff, Bool.or_eq_false_iff, Bool.not_eq_true', Bool.not_eq_false', Bool.not_eq_eq_eq_not, Bool.not_true, Bool.not_false, decide_eq_true_eq, decide_eq_false_iff_not, beq_iff_eq, bne_iff_ne, beq_eq_false_iff_ne, bne_eq_false_iff_eq, Int.not_lt, Int.not_le, ge_iff_le, gt_iff_lt, ne_eq, not_and, not_or, not_true_eq_false, not_false_eq_true, reduceCtorEq, or_false, false_or, and_true, true_and, and_false, false_and, or_true, true_or] at h) <;> (try simp only [Int.toNat_natCast, dflt64] at h) <;> (try (exfalso; omega)) <;> (conv => whnf))
    | (refine Tri.draw (id := 2) gamN_ok mixed [0, 1, 3, 7, 0, 16, 63, 127, 255, 0, 512, 1536, 3584, 0, 8192, 32256, 65024, 131071, 262143] 393216 [8, 9, 10, 11, 12, 13, 14, 15, 16, 17, 18, 19, 20, 21, 22, 23, 24] [] (by rfl) (by rfl) (by rfl) ?_; conv => whnf)
    | (refine Tri.draw (id := 3) gamN_ok mixed [0, 1, 3, 7, 0, 16, 63, 127, 0, 256, 768, 1792, 0, 4096, 16128, 32512, 65280, 131071, 262143] 393216 [26, 27, 28, 29, 30, 31, 32, 33, 34, 35, 36, 37, 38, 39, 40, 41, 42] [] (by rfl) (by rfl) (by rfl) ?_; conv => whnf)
    | (refine And.intro (by kernel_rfl) ?_; conv => whnf)
    | (intro h; (try simp only [pickB, Bool.and_eq_true, Bool.or_eq_true, Bool.and_eq_false_iff, Bool.or_eq_false_iff, Bool.not_eq_true', Bool.not_eq_false', Bool.not_eq_eq_eq_not, Bool.not_true, Bool.not_false, decide_eq_true_eq, decide_eq_false_iff_not, beq_iff_eq, bne_iff_ne, beq_eq_false_iff_ne, bne_eq_false_iff_eq, Int.not_lt, Int.not_le, ge_iff_le, gt_iff_lt, ne_eq, not_and, not_or, not_true_eq_false, not_false_eq_true, reduceCtorEq, or_false, false_or, and_true, true_and, and_false, false_and, or_true, true_or] at h) <;> (try simp only [Int.toNat_natCast, dflt64] at h); conv => whnf)
    | omega
    | (simp only [conj, and_true, true_and, Nat.le_eq]; dsimp only; omega)
    | (simp only [Int.toNat_natCast, dflt64, List.length_set, List.length_append, List.length_cons, List.length_nil, getD_set0]; omega)
    | (simp only [Int.toNat_natCast, dflt64, List.length_set, List.length_append, List.length_cons, List.length_nil, getD_set0]; split <;> omega))
  · refine quiet_int (by exact rfl) (by exact rfl) ⟨rfl, rfl, trivial⟩ (by exact rfl) ?_
    unfold room roomP
    rw [if_pos (by omega)]
    rfl
  · refine quiet_int (by exact rfl) (by exact rfl) ⟨rfl, rfl, trivial⟩ (by exact rfl) ?_
    unfold room roomP
    rw [if_neg (by omega)]
    rfl

end Go.Sx
