/- What push of package flow does. Conditions: none. -/
import Derived.Test.YthilnjignhopkaaEdG6
set_option linter.unusedSimpArgs false
set_option linter.unusedVariables false
set_option maxRecDepth 10000
set_option maxHeartbeats 4000000
namespace Go.Sx
open Go Go.Proofs

/-- The arcs of entries that lead back from v to fr. -/
def IsPath (M : List (Int × ArT.den)) (fr : Int) : Int → List ArT.den → Prop
  | _, [] => False
  | v, a :: ps => mget (K := I64) (E := ArT) M v = some a ∧ ((a.2.1 = fr ∧ ps = []) ∨ (a.2.1 ≠ fr ∧ IsPath M fr a.2.1 ps))

def minRoom (l : List EdT.den) (f : List Int) (m : Int) : List ArT.den → Int
  | [] => m
  | a :: ps => minRoom l f (min m (room l f a)) ps

def addFlow (most : Int) (f : List Int) : List ArT.den → List Int
  | [] => f
  | a :: ps => addFlow most (incAt f a.1.toNat (a.2.2.2.2 * most)) ps

theorem minR_ok (n : Int) (l : List EdT.den) (f : List Int) (m : Int) (a : ArT.den) (hN : NetOK n l) (hf : FlowOK l f) (ha : ArcOK n l.length a) :
    FnOK Try.prog 47 [edV a, .cell (.ref 7 0), .cell (.ref 3 0)] [(0, netC n l), (1, .arr I64 f), (3, .cells [.ref 0 0]), (7, .cells [.int .i64 m])] []
      (fun r hs' => r = .tup [] ∧ hs' = [(0, netC n l), (1, .arr I64 f), (3, .cells [.ref 0 0]), (7, .cells [.int .i64 (min m (room l f a))])]) := by
  refine FnOK.intro gamN_ok fn47 rfl rfl ?_
  intro _ _
  apply Tri.of_vc gamN_ok []
  conv => whnf
  repeat' (first
    | (refine Ob.mk ?_ ?_ <;> conv => whnf)
    | (refine Fork2.mk (fun h => ?_) (fun h => ?_) <;> (conv => whnf))
    | (refine Fork.mk (fun h => ?_) (fun h => ?_) <;> (try simp only [pickB, Bool.and_eq_true, Bool.or_eq_true, Bool.and_eq_false_iff, Bool.or_eq_false_iff, Bool.not_eq_true', Bool.not_eq_false', Bool.not_eq_eq_eq_not, Bool.not_true, Bool.not_false, decide_eq_true_eq, decide_eq_false_iff_not, beq_iff_eq, bne_iff_ne, beq_eq_false_iff_ne, bne_eq_false_iff_eq, Int.not_lt, Int.not_le, ge_iff_le, gt_iff_lt, ne_eq, not_and, not_or, not_true_eq_false, not_false_eq_true, reduceCtorEq, or_false, false_or, and_true, true_and, and_false, false_and, or_true, true_or] at h) <;> (try simp only [Int.toNat_natCast, dflt64] at h) <;> (try (exfalso; omega)) <;> (conv => whnf))
    | (refine Tri.draw (id := 1) gamN_ok mixed [0, 0, 0, 6, 15, 31] 48 [4, 5, 6, 7] [] (by rfl) (by rfl) (by rfl) ?_; conv => whnf)
    | (refine And.intro (by kernel_rfl) ?_; conv => whnf)
    | (intro h; (try simp only [pickB, Bool.and_eq_true, Bool.or_eq_true, Bool.and_eq_false_iff, Bool.or_eq_false_iff, Bool.not_eq_true', Bool.not_eq_false', Bool.not_eq_eq_eq_not, Bool.not_true, Bool.not_false, decide_eq_true_eq, decide_eq_false_iff_not, beq_iff_eq, bne_iff_ne, beq_eq_false_iff_ne, bne_eq_false_iff_eq, Int.not_lt, Int.not_le, ge_iff_le, gt_iff_lt, ne_eq, not_and, not_or, not_true_eq_false, not_false_eq_true, reduceCtorEq, or_false, false_or, and_true, true_and, and_false, false_and, or_true, true_or] at h) <;> (try simp only [Int.toNat_natCast, dflt64] at h); conv => whnf)
    | omega
    | (simp only [conj, and_true, true_and, Nat.le_eq]; dsimp only; omega)
    | (simp only [Int.toNat_natCast, dflt64, List.length_set, List.length_append, List.length_cons, List.length_nil, getD_set0]; omega)
    | (simp only [Int.toNat_natCast, dflt64, List.length_set, List.length_append, List.length_cons, List.length_nil, getD_set0]; split <;> omega))
  refine ⟨is45, [(0, netC n l), (1, .arr I64 f)], vint (room l f a), room_ok n l f a hN hf ⟨ha.1, ha.2.1⟩, ⟨rfl, rfl, trivial⟩, ?_⟩
  conv => whnf
  repeat' (first
    | (refine Ob.mk ?_ ?_ <;> conv => whnf)
    | (refine Fork2.mk (fun h => ?_) (fun h => ?_) <;> (conv => whnf))
    | (refine Fork.mk (fun h => ?_) (fun h => ?_) <;> (try simp only [pickB, Bool.and_eq_true, Bool.or_eq_true, Bool.and_eq_false_iff, Bool.or_eq_false_iff, Bool.not_eq_true', Bool.not_eq_false', Bool.not_eq_eq_eq_not, Bool.not_true, Bool.not_false, decide_eq_true_eq, decide_eq_false_iff_not, beq_iff_eq, bne_iff_ne, beq_eq_false_iff_ne, bne_eq_false_iff_eq, Int.not_lt, Int.not_le, ge_iff_le, gt_iff_lt, ne_eq, not_and, not_or, not_true_eq_false, not_false_eq_true, reduceCtorEq, or_false, false_or, and_true, true_and, and_false, false_and, or_true, true_or] at h) <;> (try simp only [Int.toNat_natCast, dflt64] at h) <;> (try (exfalso; omega)) <;> (conv => whnf))
    | (refine Tri.draw (id := 1) gamN_ok mixed [0, 0, 0, 6, 15, 31] 48 [4, 5, 6, 7] [] (by rfl) (by rfl) (by rfl) ?_; conv => whnf)
    | (refine And.intro (by kernel_rfl) ?_; conv => whnf)
    | (intro h; (try simp only [pickB, Bool.and_eq_true, Bool.or_eq_true, Bool.and_eq_false_iff, Bool.or_eq_false_iff, Bool.not_eq_true', Bool.not_eq_false', Bool.not_eq_eq_eq_not, Bool.not_true, Bool.not_false, decide_eq_true_eq, decide_eq_false_iff_not, beq_iff_eq, bne_iff_ne, beq_eq_false_iff_ne, bne_eq_false_iff_eq, Int.not_lt, Int.not_le, ge_iff_le, gt_iff_lt, ne_eq, not_and, not_or, not_true_eq_false, not_false_eq_true, reduceCtorEq, or_false, false_or, and_true, true_and, and_false, false_and, or_true, true_or] at h) <;> (try simp only [Int.toNat_natCast, dflt64] at h); conv => whnf)
    | omega
    | (simp only [conj, and_true, true_and, Nat.le_eq]; dsimp only; omega)
    | (simp only [Int.toNat_natCast, dflt64, List.length_set, List.length_append, List.length_cons, List.length_nil, getD_set0]; omega)
    | (simp only [Int.toNat_natCast, dflt64, List.length_set, List.length_append, List.length_cons, List.length_nil, getD_set0]; split <;> omega))
  exact postQ_end [(0, netC n l), (1, .arr I64 f), (3, .cells [.ref 0 0]), (7, .cells [.int .i64 (min m (room l f a))])] (by exact rfl) (by exact rfl) ⟨rfl, rfl, rfl, rfl, trivial⟩ (by exact rfl) (by exact rfl) ⟨rfl, rfl⟩

theorem addF_ok (n : Int) (l : List EdT.den) (f : List Int) (m : Int) (a : ArT.den) (hN : NetOK n l) (hl : f.length = l.length) (hf : ∀ i, -1000000 ≤ f.getD i 0 ∧ f.getD i 0 ≤ 1000000) (hm : 0 ≤ m ∧ m ≤ 1000) (ha : ArcOK n l.length a) :
    FnOK Try.prog 48 [edV a, .cell (.ref 3 0), .cell (.ref 7 0)] [(0, netC n l), (1, .arr I64 f), (3, .cells [.ref 0 0]), (7, .cells [.int .i64 m])] []
      (fun r hs' => r = .tup [] ∧ hs' = [(0, netC n l), (1, .arr I64 (incAt f a.1.toNat (a.2.2.2.2 * m))), (3, .cells [.ref 0 0]), (7, .cells [.int .i64 m])]) := by
  unfold ArcOK arcP at ha
  have hfa := hf a.1.toNat
  have hd : a.2.2.2.2 * m = m ∨ a.2.2.2.2 * m = -m := by
    rcases ha.2.2.2.2.2.2.2.2 with e | e
    · left; rw [e]; exact Int.one_mul m
    · right; rw [e]; exact Int.neg_one_mul m
  have hb1 : fits (a.2.2.2.2 * m) := by
    unfold fits
    rcases hd with e | e <;> rw [e] <;> omega
  have hb2 : fits (f.getD a.1.toNat 0 + a.2.2.2.2 * m) := by
    unfold fits
    rcases hd with e | e <;> rw [e] <;> omega
  refine FnOK.intro gamN_ok fn48 rfl rfl ?_
  intro _ _
  apply Tri.of_vc gamN_ok []
  conv => whnf
  repeat' (first
    | (refine Ob.mk ?_ ?_ <;> conv => whnf)
    | (refine Fork2.mk (fun h => ?_) (fun h => ?_) <;> (conv => whnf))
    | (refine Fork.mk (fun h => ?_) (fun h => ?_) <;> (try simp only [pickB, Bool.and_eq_true, Bool.or_eq_true, Bool.and_eq_false_iff, Bool.or_eq_false_iff, Bool.not_eq_true', Bool.not_eq_false', Bool.not_eq_eq_eq_not, Bool.not_true, Bool.not_false, decide_eq_true_eq, decide_eq_false_iff_not, beq_iff_eq, bne_iff_ne, beq_eq_false_iff_ne, bne_eq_false_iff_eq, Int.not_lt, Int.not_le, ge_iff_le, gt_iff_lt, ne_eq, not_and, not_or, not_true_eq_false, not_false_eq_true, reduceCtorEq, or_false, false_or, and_true, true_and, and_false, false_and, or_true, true_or] at h) <;> (try simp only [Int.toNat_natCast, dflt64] at h) <;> (try (exfalso; omega)) <;> (conv => whnf))
    | (refine Tri.draw (id := 1) gamN_ok mixed [0, 1, 3, 7, 0, 16, 63, 127, 0, 256, 0, 1792, 4095, 8191, 16383] 28672 [4, 5, 6, 7, 8, 9, 10, 11, 12, 13, 14, 15] [] (by rfl) (by rfl) (by rfl) ?_; conv => whnf)
    | (refine And.intro (by kernel_rfl) ?_; conv => whnf)
    | (intro h; (try simp only [pickB, Bool.and_eq_true, Bool.or_eq_true, Bool.and_eq_false_iff, Bool.or_eq_false_iff, Bool.not_eq_true', Bool.not_eq_false', Bool.not_eq_eq_eq_not, Bool.not_true, Bool.not_false, decide_eq_true_eq, decide_eq_false_iff_not, beq_iff_eq, bne_iff_ne, beq_eq_false_iff_ne, bne_eq_false_iff_eq, Int.not_lt, Int.not_le, ge_iff_le, gt_iff_lt, ne_eq, not_and, not_or, not_true_eq_false, not_false_eq_true, reduceCtorEq, or_false, false_or, and_true, true_and, and_false, false_and, or_true, true_or] at h) <;> (try simp only [Int.toNat_natCast, dflt64] at h); conv => whnf)
    | omega
    | (simp only [conj, and_true, true_and, Nat.le_eq]; dsimp only; omega)
    | (simp only [Int.toNat_natCast, dflt64, List.length_set, List.length_append, List.length_cons, List.length_nil, getD_set0]; omega)
    | (simp only [Int.toNat_natCast, dflt64, List.length_set, List.length_append, List.length_cons, List.length_nil, getD_set0]; split <;> omega))
  · exact hb1
  · exact hb2
  exact postQ_end [(0, netC n l), (1, .arr I64 (incAt f a.1.toNat (a.2.2.2.2 * m))), (3, .cells [.ref 0 0]), (7, .cells [.int .i64 m])] (by exact rfl) (by exact rfl) ⟨rfl, rfl, rfl, rfl, trivial⟩ (by exact rfl) (by exact rfl) ⟨rfl, rfl⟩

/-- What 'along' sees. -/
def alongH (n : Int) (l : List EdT.den) (f : List Int) (M : List (Int × ArT.den)) (fr to m : Int) : List (Nat × Chunk) :=
  [(0, netC n l), (1, .arr I64 f), (2, mapC M), (3, .cells [.ref 0 0]), (4, .cells [.mapr 2]), (5, .cells [.int .i64 fr]), (6, .cells [.int .i64 to]), (7, .cells [.int .i64 m])]

theorem alongMin_ok (n : Int) (l : List EdT.den) (f : List Int) (M : List (Int × ArT.den)) (fr to m : Int) (ps : List ArT.den) (hN : NetOK n l) (hf : FlowOK l f) (hp : IsPath M fr to ps) (hok : ∀ a ∈ ps, ArcOK n l.length a) :
    FnOK Try.prog 46 [.cell (.clo 47 [7, 3]), .cell (.ref 6 0), .cell (.ref 4 0), .cell (.ref 5 0)] (alongH n l f M fr to m) []
      (fun r hs' => r = .tup [] ∧ hs' = alongH n l f M fr to (minRoom l f m ps)) := by
  refine FnOK.intro gamN_ok fn46 rfl rfl ?_
  intro _ _
  apply Tri.of_vc gamN_ok []
  conv => whnf
  refine Tri.loop (α := Int × Int × List ArT.den) (n := 19) (fun g => [(0, .one (.cell (.clo 47 [7, 3]))), (1, .one (.cell (.ref 6 0))), (2, .one (.cell (.ref 4 0))), (3, .one (.cell (.ref 5 0))), (5, vint g.1)]) (fun g => alongH n l f M fr to g.2.1) []
    (fun g => IsPath M fr g.1 g.2.2 ∧ (∀ a ∈ g.2.2, ArcOK n l.length a) ∧ minRoom l f g.2.1 g.2.2 = minRoom l f m ps) (fun g => g.2.2.length) (to, m, ps) ⟨hp, hok, rfl⟩ rfl ⟨rfl, rfl, rfl, rfl, rfl, trivial⟩ ⟨rfl, rfl, rfl, rfl, rfl, rfl, rfl, rfl, trivial⟩ rfl ?_
  clear hp hok
  rintro ⟨v, m', qs⟩ ⟨hp, hok, hr⟩ _ _
  simp only at hp hok hr
  cases qs with
  | nil => exact hp.elim
  | cons a qs =>
    obtain ⟨ha, hp⟩ := hp
    have haok := hok a (by simp)
    apply Tri.of_vc gamN_ok []
    conv => whnf
    have hab : (mget (K := I64) (E := ArT) M v).getD ArT.dflt = a := by rw [ha]; rfl
    have hstep := minR_ok n l f m' ((mget (K := I64) (E := ArT) M v).getD ArT.dflt) hN hf (by rw [hab]; exact haok)
    have hv : ((mget (K := I64) (E := ArT) M v).getD ArT.dflt).2.1 = a.2.1 := by rw [hab]
    have hrm : min m' (room l f ((mget (K := I64) (E := ArT) M v).getD ArT.dflt)) = min m' (room l f a) := by rw [hab]
    have hr : minRoom l f (min m' (room l f a)) qs = minRoom l f m ps := hr
    refine callF is47 hstep ⟨rfl, rfl, rfl, rfl, trivial⟩ ?_
    rintro r hs' ⟨rfl, rfl⟩ _ _
    conv => whnf
    refine Fork.mk (fun h => ?_) (fun h => ?_)
    · have h : (((mget (K := I64) (E := ArT) M v).getD ArT.dflt).2.1 == fr) = true := h
      rw [hv, beq_iff_eq] at h
      rcases hp with ⟨_, rfl⟩ | ⟨hne, _⟩
      · have hr : min m' (room l f a) = minRoom l f m ps := hr
        conv => whnf
        refine postQ_ret (alongH n l f M fr to (minRoom l f m ps)) (by exact rfl) (by exact rfl) ⟨rfl, rfl, rfl, rfl, rfl, rfl, rfl, ?_, trivial⟩ (by exact rfl) (by exact rfl) ⟨rfl, rfl⟩
        rw [← hr, ← hrm]; rfl
      · exact absurd h hne
    · have h : (((mget (K := I64) (E := ArT) M v).getD ArT.dflt).2.1 == fr) = false := h
      rw [hv, beq_eq_false_iff_ne] at h
      rcases hp with ⟨he, _⟩ | ⟨_, hp⟩
      · exact absurd he h
      · conv => whnf
        refine nextQ_intro (a.2.1, min m' (room l f a), qs) ⟨hp, fun b hb => hok b (List.mem_cons_of_mem _ hb), hr⟩ (by show qs.length < (a :: qs).length; simp) (by exact rfl) (by exact rfl) ⟨rfl, rfl, rfl, rfl, rfl, rfl, rfl, ?_, trivial⟩ ⟨rfl, rfl, rfl, rfl, enI (by exact rfl) hv, trivial⟩
        show _ = some (Chunk.cells [.int .i64 (min m' (room l f a))])
        rw [← hrm]; rfl

theorem alongAdd_ok (n : Int) (l : List EdT.den) (f : List Int) (M : List (Int × ArT.den)) (fr to m : Int) (ps : List ArT.den) (hN : NetOK n l) (hl : f.length = l.length) (hf : ∀ i, 0 ≤ f.getD i 0 ∧ f.getD i 0 ≤ 1000) (hm : 0 ≤ m ∧ m ≤ 1000) (hps : ps.length ≤ 500) (hp : IsPath M fr to ps) (hok : ∀ a ∈ ps, ArcOK n l.length a) :
    FnOK Try.prog 46 [.cell (.clo 48 [3, 7]), .cell (.ref 6 0), .cell (.ref 4 0), .cell (.ref 5 0)] (alongH n l f M fr to m) []
      (fun r hs' => r = .tup [] ∧ hs' = alongH n l (addFlow m f ps) M fr to m) := by
  refine FnOK.intro gamN_ok fn46 rfl rfl ?_
  intro _ _
  apply Tri.of_vc gamN_ok []
  conv => whnf
  refine Tri.loop (α := Int × List Int × List ArT.den) (n := 19) (fun g => [(0, .one (.cell (.clo 48 [3, 7]))), (1, .one (.cell (.ref 6 0))), (2, .one (.cell (.ref 4 0))), (3, .one (.cell (.ref 5 0))), (5, vint g.1)]) (fun g => alongH n l g.2.1 M fr to m) []
    (fun g => IsPath M fr g.1 g.2.2 ∧ (∀ a ∈ g.2.2, ArcOK n l.length a) ∧ addFlow m g.2.1 g.2.2 = addFlow m f ps ∧ g.2.1.length = l.length ∧ g.2.2.length ≤ ps.length ∧ ∀ i, -1000 * ((ps.length : Int) - g.2.2.length) ≤ g.2.1.getD i 0 ∧ g.2.1.getD i 0 ≤ 1000 * (1 + (ps.length : Int) - g.2.2.length)) (fun g => g.2.2.length) (to, f, ps) ⟨hp, hok, rfl, hl, Nat.le_refl _, fun i => by have := hf i; simp only; omega⟩ rfl ⟨rfl, rfl, rfl, rfl, rfl, trivial⟩ ⟨rfl, rfl, rfl, rfl, rfl, rfl, rfl, rfl, trivial⟩ rfl ?_
  clear hp hok
  rintro ⟨v, f', qs⟩ ⟨hp, hok, hr, hl', hql, hb⟩ _ _
  simp only at hp hok hr hl' hql hb
  cases qs with
  | nil => exact hp.elim
  | cons a qs =>
    obtain ⟨ha, hp⟩ := hp
    have haok := hok a (by simp)
    apply Tri.of_vc gamN_ok []
    conv => whnf
    have hab : (mget (K := I64) (E := ArT) M v).getD ArT.dflt = a := by rw [ha]; rfl
    have hql : qs.length + 1 ≤ ps.length := hql
    have hb : ∀ i, -1000 * ((ps.length : Int) - ((qs.length + 1 : Nat) : Int)) ≤ f'.getD i 0 ∧ f'.getD i 0 ≤ 1000 * (1 + (ps.length : Int) - ((qs.length + 1 : Nat) : Int)) := hb
    have hstep := addF_ok n l f' m ((mget (K := I64) (E := ArT) M v).getD ArT.dflt) hN hl' (fun i => by have := hb i; omega) hm (by rw [hab]; exact haok)
    have hv : ((mget (K := I64) (E := ArT) M v).getD ArT.dflt).2.1 = a.2.1 := by rw [hab]
    rw [hab] at hstep
    have hd : a.2.2.2.2 * m = m ∨ a.2.2.2.2 * m = -m := by
      rcases haok.2.2.2.2.2.2.2.2 with e | e
      · left; rw [e]; exact Int.one_mul m
      · right; rw [e]; exact Int.neg_one_mul m
    have hb2 : ∀ i, -1000 * ((ps.length : Int) - qs.length) ≤ (incAt f' a.1.toNat (a.2.2.2.2 * m)).getD i 0 ∧ (incAt f' a.1.toNat (a.2.2.2.2 * m)).getD i 0 ≤ 1000 * (1 + (ps.length : Int) - qs.length) := fun i => by
      rw [getD_incAt']
      have := hb i
      have := hb a.1.toNat
      split
      · rcases hd with e | e <;> rw [e] <;> omega
      · omega
    have hr : addFlow m (incAt f' a.1.toNat (a.2.2.2.2 * m)) qs = addFlow m f ps := hr
    rw [← hab] at hstep
    refine callF is48 hstep ⟨rfl, rfl, rfl, rfl, trivial⟩ ?_
    rintro r hs' ⟨rfl, rfl⟩ _ _
    conv => whnf
    refine Fork.mk (fun h => ?_) (fun h => ?_)
    · have h : (((mget (K := I64) (E := ArT) M v).getD ArT.dflt).2.1 == fr) = true := h
      rw [hv, beq_iff_eq] at h
      rcases hp with ⟨_, rfl⟩ | ⟨hne, _⟩
      · have hr : incAt f' a.1.toNat (a.2.2.2.2 * m) = addFlow m f ps := hr
        conv => whnf
        refine postQ_ret (alongH n l (addFlow m f ps) M fr to m) (by exact rfl) (by exact rfl) ⟨rfl, ?_, rfl, rfl, rfl, rfl, rfl, rfl, trivial⟩ (by exact rfl) (by exact rfl) ⟨rfl, rfl⟩
        rw [← hr, ← hab]; rfl
      · exact absurd h hne
    · have h : (((mget (K := I64) (E := ArT) M v).getD ArT.dflt).2.1 == fr) = false := h
      rw [hv, beq_eq_false_iff_ne] at h
      rcases hp with ⟨he, _⟩ | ⟨_, hp⟩
      · exact absurd he h
      · conv => whnf
        refine nextQ_intro (a.2.1, incAt f' a.1.toNat (a.2.2.2.2 * m), qs) ⟨hp, fun b hb => hok b (List.mem_cons_of_mem _ hb), hr, by simp [incAt, hl'], by show qs.length ≤ _; omega, hb2⟩ (by show qs.length < (a :: qs).length; simp) (by exact rfl) (by exact rfl) ⟨rfl, ?_, rfl, rfl, rfl, rfl, rfl, rfl, trivial⟩ ⟨rfl, rfl, rfl, rfl, enI (by exact rfl) hv, trivial⟩
        show _ = some (Chunk.arr I64 (incAt f' a.1.toNat (a.2.2.2.2 * m)))
        rw [← hab]; rfl

theorem push_ok (n : Int) (l : List EdT.den) (f : List Int) (M : List (Int × ArT.den)) (fr to m : Int) (ps : List ArT.den) (hN : NetOK n l) (hf : FlowOK l f) (hfb : ∀ i, 0 ≤ f.getD i 0 ∧ f.getD i 0 ≤ 1000) (hp : IsPath M fr to ps) (hok : ∀ a ∈ ps, ArcOK n l.length a)
    (hm : 0 ≤ minRoom l f m ps ∧ minRoom l f m ps ≤ 1000) (hps : ps.length ≤ 500) :
    FnOK Try.prog 36 [.cell (.ref 0 0), .cell (.mapr 2), cint fr, cint to, cint m] [(0, netC n l), (1, .arr I64 f), (2, mapC M)] []
      (fun r hs' => r = vint (minRoom l f m ps) ∧ hs' = [(0, netC n l), (1, .arr I64 (addFlow (minRoom l f m ps) f ps)), (2, mapC M)]) := by
  have h1 := FnOK.ren (renF_inj (l := [0, 1, 2, 105, 106, 107, 108, 109]) (off := 10000) rfl rfl) (alongMin_ok n l f M fr to m ps hN hf hp hok)
  have h2 := FnOK.ren (renF_inj (l := [0, 1, 2, 105, 106, 107, 108, 109]) (off := 10000) rfl rfl) (alongAdd_ok n l f M fr to (minRoom l f m ps) ps hN hf.1 hfb hm hps hp hok)
  refine FnOK.intro gamN_ok fn36 rfl rfl ?_
  intro _ _
  apply Tri.of_vc gamN_ok []
  conv => whnf
  refine callF is46 h1 ⟨rfl, rfl, rfl, rfl, rfl, rfl, rfl, rfl, trivial⟩ ?_
  rintro r hs' ⟨r0, hs0, ⟨rfl, rfl⟩, rfl, rfl⟩ _ _
  conv => whnf
  refine callF is46 h2 ⟨rfl, rfl, rfl, rfl, rfl, rfl, rfl, rfl, trivial⟩ ?_
  rintro r hs' ⟨r0, hs0, ⟨rfl, rfl⟩, rfl, rfl⟩ _ _
  conv => whnf
  exact postQ_ret [(0, netC n l), (1, .arr I64 (addFlow (minRoom l f m ps) f ps)), (2, mapC M)] (by exact rfl) (by exact rfl) ⟨rfl, rfl, rfl, trivial⟩ (by exact rfl) (by exact rfl) ⟨rfl, rfl⟩

end Go.Sx
