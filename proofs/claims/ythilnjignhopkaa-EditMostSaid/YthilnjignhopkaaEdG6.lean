/- What reach of package flow does. Conditions: none. -/
import Derived.Test.YthilnjignhopkaaEdG5
set_option linter.unusedSimpArgs false
set_option linter.unusedVariables false
set_option maxRecDepth 10000
set_option maxHeartbeats 4000000
namespace Go.Sx
open Go Go.Proofs

/-- The nodes that are reached. -/
def nodesOf (fr : Int) (M : List (Int × ArT.den)) : List Int := fr :: M.map (·.1)

/-- An arc's parts. -/
def arcP (n : Int) (m : Nat) (e u v c d : Int) : Prop := 0 ≤ e ∧ e < m ∧ 0 ≤ u ∧ u < n ∧ 0 ≤ v ∧ v < n ∧ -1000 ≤ c ∧ c ≤ 1000 ∧ (d = 1 ∨ d = -1)
def ArcOK (n : Int) (m : Nat) (a : ArT.den) : Prop := arcP n m a.1 a.2.1 a.2.2.1 a.2.2.2.1 a.2.2.2.2

theorem arcTo_mem {l : List EdT.den} {i : Nat} {a : ArT.den} (h : a ∈ arcTo l i) : ∃ k, k < i ∧ a ∈ arcRow l k := by
  unfold arcTo at h
  rw [List.mem_flatMap] at h
  obtain ⟨k, h1, h2⟩ := h
  exact ⟨k, by simpa using h1, h2⟩

theorem arc_ok {n : Int} {l : List EdT.den} (h : NetOK n l) {a : ArT.den} (ha : a ∈ arcL l) : ArcOK n l.length a := by
  obtain ⟨k, h1, h2⟩ := arcTo_mem ha
  have he := h.2.2.2 k h1
  unfold EdOK EdOK' at he
  simp only [arcRow, List.mem_cons, List.mem_nil_iff, or_false] at h2
  rcases h2 with rfl | rfl
  all_goals
    unfold ArcOK arcP
    refine ⟨?_, ?_, ?_, ?_, ?_, ?_, ?_, ?_, ?_⟩
    all_goals first | exact .inl rfl | exact .inr rfl | (simp only; omega)

theorem mget_none {M : List (Int × ArT.den)} {x : Int} : mget (K := I64) (E := ArT) M x = none → x ∉ M.map (·.1) := by
  unfold mget
  intro h
  induction M with
  | nil => simp
  | cons p M ih =>
    unfold mfind at h
    split at h
    · simp at h
    · rename_i hk
      have hk : (x == p.1) = false := hk
      split at h
      · simp at h
      · rename_i hn
        have := ih (by rw [hn]; rfl)
        simp only [List.map_cons, List.mem_cons, not_or]
        exact ⟨by simpa using hk, this⟩

theorem mget_some {M : List (Int × ArT.den)} {x : Int} {a : ArT.den} : mget (K := I64) (E := ArT) M x = some a → ∃ i : Nat, M[i]? = some (x, a) := by
  unfold mget
  intro h
  induction M with
  | nil => simp [mfind] at h
  | cons p M ih =>
    unfold mfind at h
    split at h
    · rename_i hk
      have hk : (x == p.1) = true := hk
      simp only [Option.map_some, Option.some.injEq] at h
      simp only [beq_iff_eq] at hk
      exact ⟨0, by simp [hk, ← h]⟩
    · split at h
      · rename_i i y hn
        simp only [Option.map_some, Option.some.injEq] at h
        obtain ⟨j, hj⟩ := ih (by rw [hn]; simp [h])
        exact ⟨j + 1, by simpa using hj⟩
      · simp at h

theorem mset_new {M : List (Int × ArT.den)} {x : Int} {a : ArT.den} (h : mget (K := I64) (E := ArT) M x = none) : mset (K := I64) (E := ArT) M x a = M ++ [(x, a)] := by
  unfold mget at h
  unfold mset
  cases hf : mfind (K := I64) (E := ArT) M x with
  | none => rfl
  | some p => rw [hf] at h; simp at h

/-- What holds of the arcs by which nodes are reached. -/
structure EntOK (l : List EdT.den) (f : List Int) (fr : Int) (M : List (Int × ArT.den)) (i : Nat) (w : Int) (a : ArT.den) : Prop where
  mem : a ∈ arcL l
  to : a.2.2.1 = w
  rm : room l f a ≠ 0
  par : a.2.1 ∈ nodesOf fr (M.take i)

/-- The arcs of an arc's node are done, up to number k. -/
def ClosedTo (l : List EdT.den) (f : List Int) (fr : Int) (M : List (Int × ArT.den)) (v : Int) (k : Nat) : Prop :=
  ∀ j a, j < k → (arcL l)[j]? = some a → a.2.1 = v → room l f a ≠ 0 → a.2.2.1 ∈ nodesOf fr M

structure RInv (n : Int) (l : List EdT.den) (f : List Int) (fr : Int) (M : List (Int × ArT.den)) (p : Nat) : Prop where
  ent : ∀ (i : Nat) (w : Int) (a : ArT.den), M[i]? = some (w, a) → EntOK l f fr M i w a
  nd : (nodesOf fr M).Nodup
  rng : ∀ w, w ∈ nodesOf fr M → 0 ≤ w ∧ w < n
  cl : ∀ (i : Nat) (v : Int), i < p → (nodesOf fr M)[i]? = some v → ClosedTo l f fr M v (arcL l).length
  ple : p ≤ (nodesOf fr M).length

theorem nodup_lt : ∀ (n : Nat) (l : List Nat), l.Nodup → (∀ x ∈ l, x < n) → l.length ≤ n
  | 0, [], _, _ => Nat.le_refl _
  | 0, x :: l, _, h => by have := h x (by simp); omega
  | n + 1, l, hn, h => by
    have := nodup_lt n (l.erase n) (hn.erase n) fun x hx => by
      rw [hn.mem_erase_iff] at hx
      have := h x hx.2
      omega
    rw [List.length_erase] at this
    split at this <;> omega

theorem nodes_len {n fr : Int} {M : List (Int × ArT.den)} (h1 : (nodesOf fr M).Nodup) (h2 : ∀ w, w ∈ nodesOf fr M → 0 ≤ w ∧ w < n) : (nodesOf fr M).length ≤ n.toNat := by
  have h3 : ∀ w ∈ (nodesOf fr M).map Int.toNat, w < n.toNat := by
    intro w hw
    rw [List.mem_map] at hw
    obtain ⟨x, hx, rfl⟩ := hw
    have := h2 x hx
    omega
  have h4 : ((nodesOf fr M).map Int.toNat).Nodup := by
    refine List.Pairwise.map _ ?_ (List.Pairwise.and_mem.1 h1)
    intro a b ⟨ha, hb, hne⟩ e
    have := h2 a ha
    have := h2 b hb
    exact hne (by omega)
  have := nodup_lt _ _ h4 h3
  simpa using this

theorem nodes_snoc (fr : Int) (M : List (Int × ArT.den)) (w : Int) (a : ArT.den) : nodesOf fr (M ++ [(w, a)]) = nodesOf fr M ++ [w] := by simp [nodesOf]

theorem RInv.snoc {n : Int} {l : List EdT.den} {f : List Int} {fr : Int} {M : List (Int × ArT.den)} {p : Nat} (h : RInv n l f fr M p) (hn : NetOK n l) {v : Int} {a : ArT.den} (ha : a ∈ arcL l) (hv : a.2.1 = v) (hvm : v ∈ nodesOf fr M) (hw : a.2.2.1 ∉ nodesOf fr M) (hr : room l f a ≠ 0) :
    RInv n l f fr (M ++ [(a.2.2.1, a)]) p := by
  have hok := arc_ok hn ha
  unfold ArcOK arcP at hok
  refine ⟨?_, ?_, ?_, ?_, ?_⟩
  · intro i w b hi
    by_cases hlt : i < M.length
    · rw [List.getElem?_append_left hlt] at hi
      obtain ⟨h1, h2, h3, h4⟩ := h.ent i w b hi
      exact ⟨h1, h2, h3, by rw [List.take_append_of_le_length (by omega)]; exact h4⟩
    · rw [List.getElem?_append_right (by omega)] at hi
      have h0 : i - M.length = 0 := by
        cases hq : i - M.length with
        | zero => rfl
        | succ m => rw [hq] at hi; simp at hi
      rw [h0] at hi
      simp only [List.getElem?_cons_zero, Option.some.injEq, Prod.mk.injEq] at hi
      obtain ⟨rfl, rfl⟩ := hi
      refine ⟨ha, rfl, hr, ?_⟩
      rw [show i = M.length by omega, List.take_left', hv]
      · exact hvm
      · rfl
  · rw [nodes_snoc, List.nodup_append]
    exact ⟨h.nd, by simp, fun x hx y hy => by simp at hy; subst hy; exact fun e => hw (e ▸ hx)⟩
  · intro w hw'
    rw [nodes_snoc, List.mem_append] at hw'
    rcases hw' with h1 | h1
    · exact h.rng w h1
    · simp at h1; subst h1; omega
  · intro i u hi hu j b hj hb h1 h2
    have hlt : i < (nodesOf fr M).length := by have := h.ple; omega
    rw [nodes_snoc, List.getElem?_append_left hlt] at hu
    rw [nodes_snoc]
    exact List.mem_append_left _ (h.cl i u hi hu j b hj hb h1 h2)
  · rw [nodes_snoc]
    have := h.ple
    simp; omega

theorem chM {K E : Ty} {ea : Bool} {x y : List (K.den × E.den)} {e : Option Chunk} (he : e = some (.mp K E ea x)) (h : x = y) : e = some (.mp K E ea y) := by rw [he, h]

theorem ClosedTo.succ {l : List EdT.den} {f : List Int} {fr : Int} {M M' : List (Int × ArT.den)} {v : Int} {k : Nat} (h : ClosedTo l f fr M v k) (hs : ∀ w, w ∈ nodesOf fr M → w ∈ nodesOf fr M') {a : ArT.den} (ha : (arcL l)[k]? = some a)
    (hk : a.2.1 = v → room l f a ≠ 0 → a.2.2.1 ∈ nodesOf fr M') : ClosedTo l f fr M' v (k + 1) := by
  intro j b hj hb h1 h2
  by_cases e : j = k
  · subst e
    rw [ha] at hb; cases hb
    exact hk h1 h2
  · exact hs _ (h j b (by omega) hb h1 h2)

theorem mget_mem {fr : Int} {M : List (Int × ArT.den)} {x : Int} (h : (mget (K := I64) (E := ArT) M x).isSome = true) : x ∈ nodesOf fr M := by
  obtain ⟨a, ha⟩ := Option.isSome_iff_exists.1 h
  obtain ⟨i, hi⟩ := mget_some ha
  exact List.mem_cons_of_mem _ (List.mem_map.2 ⟨_, List.mem_iff_getElem?.2 ⟨i, hi⟩, rfl⟩)

def mapC (M : List (Int × ArT.den)) : Chunk := .mp I64 ArT true M

theorem reach_ok (n : Int) (l : List EdT.den) (f : List Int) (fr : Int) (hN : NetOK n l) (hf : FlowOK l f) (hfr : 0 ≤ fr ∧ fr < n) :
    FnOK Try.prog 43 [.cell (.ref 0 0), cint fr] [(0, netC n l), (1, .arr I64 f)] [] (fun r hs' => ∃ M, r = .one (.cell (.mapr 112)) ∧ hs' = [(112, mapC M), (0, netC n l), (1, .arr I64 f)] ∧ RInv n l f fr M (nodesOf fr M).length) := by
  have hal : (arcL l).length = 2 * l.length := arcTo_len l l.length
  have h3 := hN.2.2.1
  have h2 := hN.2.1
  refine FnOK.intro gamN_ok fn43 rfl rfl ?_
  intro _ _
  apply Tri.of_vc gamN_ok []
  conv => whnf
  refine Tri.loop (α := List (Int × ArT.den) × Nat) (n := 69) (fun g => [(0, .one (.cell (.ref 0 0))), (1, vint fr), (5, .one (.cell (.mapr 112))), (6, .one (.cell (.vec 114)))])
    (fun g => [(0, netC n l), (1, .arr I64 f), (112, mapC g.1), (114, .arr I64 ((nodesOf fr g.1).drop g.2))]) []
    (fun g => RInv n l f fr g.1 g.2) (fun g => n.toNat - g.2) ([], 0) ?_ rfl ⟨rfl, rfl, rfl, rfl, trivial⟩ ⟨rfl, rfl, rfl, rfl, trivial⟩ rfl ?_
  · exact ⟨by simp, by simp [nodesOf], by simp [nodesOf]; omega, by simp, by simp⟩
  intro ⟨M, p⟩ hI _ _
  simp only at hI
  have hnl := nodes_len hI.nd hI.rng
  have hdl : ((nodesOf fr M).drop p).length = (nodesOf fr M).length - p := List.length_drop
  apply Tri.of_vc gamN_ok []
  conv => whnf
  repeat' (first
    | (refine Ob.mk ?_ ?_ <;> conv => whnf)
    | (refine Fork2.mk (fun h => ?_) (fun h => ?_) <;> (conv => whnf))
    | (refine Fork.mk (fun h => ?_) (fun h => ?_) <;> (try simp only [pickB, Bool.and_eq_true, Bool.or_eq_true, Bool.and_eq_false_iff, Bool.or_eq_false_iff, Bool.not_eq_true', Bool.not_eq_false', Bool.not_eq_eq_eq_not, Bool.not_true, Bool.not_false, decide_eq_true_eq, decide_eq_false_iff_not, beq_iff_eq, bne_iff_ne, beq_eq_false_iff_ne, bne_eq_false_iff_eq, Int.not_lt, Int.not_le, ge_iff_le, gt_iff_lt, ne_eq, not_and, not_or, not_true_eq_false, not_false_eq_true, reduceCtorEq, or_false, false_or, and_true, true_and, and_false, false_and, or_true, true_or] at h) <;> (try simp only [Int.toNat_natCast, dflt64] at h) <;> (try (exfalso; omega)) <;> (conv => whnf))
    | (refine And.intro (by kernel_rfl) ?_; conv => whnf)
    | (intro h; (try simp only [pickB, Bool.and_eq_true, Bool.or_eq_true, Bool.and_eq_false_iff, Bool.or_eq_false_iff, Bool.not_eq_true', Bool.not_eq_false', Bool.not_eq_eq_eq_not, Bool.not_true, Bool.not_false, decide_eq_true_eq, decide_eq_false_iff_not, beq_iff_eq, bne_iff_ne, beq_eq_false_iff_ne, bne_eq_false_iff_eq, Int.not_lt, Int.not_le, ge_iff_le, gt_iff_lt, ne_eq, not_and, not_or, not_true_eq_false, not_false_eq_true, reduceCtorEq, or_false, false_or, and_true, true_and, and_false, false_and, or_true, true_or] at h) <;> (try simp only [Int.toNat_natCast, dflt64] at h); conv => whnf)
    | omega
    | (simp only [conj, and_true, true_and, Nat.le_eq]; dsimp only; omega)
    | (simp only [Int.toNat_natCast, dflt64, List.length_set, List.length_append, List.length_cons, List.length_nil, getD_set0]; omega)
    | (simp only [Int.toNat_natCast, dflt64, List.length_set, List.length_append, List.length_cons, List.length_nil, getD_set0]; split <;> omega))
  rotate_left
  · have hpe : p = (nodesOf fr M).length := by have := hI.ple; simp only at *; omega
    refine postQ_ret [(112, mapC M), (0, netC n l), (1, .arr I64 f)] (by exact rfl) (by exact rfl) ⟨rfl, rfl, rfl, trivial⟩ (by exact rfl) (by exact rfl) ⟨M, rfl, rfl, ?_⟩
    rw [← hpe]; exact hI
  have hplt : p < (nodesOf fr M).length := by simp only at *; omega
  obtain ⟨v, hv⟩ : ∃ v, (nodesOf fr M)[p]? = some v := ⟨_, List.getElem?_eq_getElem hplt⟩
  have hvd : ((nodesOf fr M).drop p).getD 0 0 = v := by rw [List.getD_eq_getElem?_getD, List.getElem?_drop]; simp [hv]
  refine Tri.rebase 6 114 1 (((nodesOf fr M).drop p).length - 1) I64 ((nodesOf fr M).drop p) ((nodesOf fr M).drop (p + 1)) (by exact rfl) (by exact rfl) ?_ ?_
  · rw [List.drop_drop, List.take_of_length_le (by simp; omega)]
  refine Tri.loop (α := List (Int × ArT.den) × Nat) (n := 69) (fun g => [(0, .one (.cell (.ref 0 0))), (1, vint fr), (5, .one (.cell (.mapr 112))), (6, .one (.cell (.vec 114))), (7, vint v), (26, visl ArT (arcL l)), (27, vint (arcL l).length), (28, vint g.2)])
    (fun g => [(0, netC n l), (1, .arr I64 f), (112, mapC g.1), (114, .arr I64 ((nodesOf fr g.1).drop (p + 1)))]) []
    (fun g => RInv n l f fr g.1 p ∧ (nodesOf fr g.1)[p]? = some v ∧ ClosedTo l f fr g.1 v g.2 ∧ g.2 ≤ (arcL l).length) (fun g => (arcL l).length - g.2) (M, 0) ⟨hI, hv, fun j a hj => by omega, Nat.zero_le _⟩ rfl
    ⟨rfl, rfl, rfl, rfl, enI (by exact rfl) hvd, rfl, rfl, rfl, trivial⟩ ⟨rfl, rfl, rfl, rfl, trivial⟩ rfl ?_
  clear hI hnl hdl hplt hv hvd
  intro ⟨M', k⟩ ⟨hI, hv, hC, hk⟩ _ _
  simp only at hI hv hC hk
  have hnl := nodes_len hI.nd hI.rng
  have hplt : p < (nodesOf fr M').length := (List.getElem?_eq_some_iff.1 hv).1
  have hdl : ((nodesOf fr M').drop (p + 1)).length = (nodesOf fr M').length - (p + 1) := List.length_drop
  have hvm : v ∈ nodesOf fr M' := List.mem_iff_getElem?.2 ⟨p, hv⟩
  have ha : k < (arcL l).length → (arcL l)[k]? = some ((arcL l).getD k ArT.dflt) := fun hlt => by
    rw [List.getD_eq_getElem?_getD, List.getElem?_eq_getElem hlt]; rfl
  have hmem : k < (arcL l).length → (arcL l).getD k ArT.dflt ∈ arcL l := fun hlt => List.mem_iff_getElem?.2 ⟨k, ha hlt⟩
  apply Tri.of_vc gamN_ok []
  conv => whnf
  repeat' (first
    | (refine Ob.mk ?_ ?_ <;> conv => whnf)
    | (refine Fork2.mk (fun h => ?_) (fun h => ?_) <;> (conv => whnf))
    | (refine Fork.mk (fun h => ?_) (fun h => ?_) <;> (try simp only [pickB, Bool.and_eq_true, Bool.or_eq_true, Bool.and_eq_false_iff, Bool.or_eq_false_iff, Bool.not_eq_true', Bool.not_eq_false', Bool.not_eq_eq_eq_not, Bool.not_true, Bool.not_false, decide_eq_true_eq, decide_eq_false_iff_not, beq_iff_eq, bne_iff_ne, beq_eq_false_iff_ne, bne_eq_false_iff_eq, Int.not_lt, Int.not_le, ge_iff_le, gt_iff_lt, ne_eq, not_and, not_or, not_true_eq_false, not_false_eq_true, reduceCtorEq, or_false, false_or, and_true, true_and, and_false, false_and, or_true, true_or] at h) <;> (try simp only [Int.toNat_natCast, dflt64] at h) <;> (try (exfalso; omega)) <;> (conv => whnf))
    | (refine And.intro (by kernel_rfl) ?_; conv => whnf)
    | (intro h; (try simp only [pickB, Bool.and_eq_true, Bool.or_eq_true, Bool.and_eq_false_iff, Bool.or_eq_false_iff, Bool.not_eq_true', Bool.not_eq_false', Bool.not_eq_eq_eq_not, Bool.not_true, Bool.not_false, decide_eq_true_eq, decide_eq_false_iff_not, beq_iff_eq, bne_iff_ne, beq_eq_false_iff_ne, bne_eq_false_iff_eq, Int.not_lt, Int.not_le, ge_iff_le, gt_iff_lt, ne_eq, not_and, not_or, not_true_eq_false, not_false_eq_true, reduceCtorEq, or_false, false_or, and_true, true_and, and_false, false_and, or_true, true_or] at h) <;> (try simp only [Int.toNat_natCast, dflt64] at h); conv => whnf)
    | omega
    | (simp only [conj, and_true, true_and, Nat.le_eq]; dsimp only; omega)
    | (simp only [Int.toNat_natCast, dflt64, List.length_set, List.length_append, List.length_cons, List.length_nil, getD_set0]; omega)
    | (simp only [Int.toNat_natCast, dflt64, List.length_set, List.length_append, List.length_cons, List.length_nil, getD_set0]; split <;> omega))
  · have hlt : k < (arcL l).length := by omega
    have hok := arc_ok hN (hmem hlt)
    refine callQ is45 (hs := [(0, netC n l), (1, .arr I64 f)]) (r := vint (room l f ((arcL l).getD k ArT.dflt))) ?_ ⟨rfl, rfl, trivial⟩ ?_
    · conv => whnf
      intro _
      exact room_ok n l f _ hN hf ⟨hok.1, hok.2.1⟩
    conv => whnf
    repeat' (first
      | (refine Ob.mk ?_ ?_ <;> conv => whnf)
      | (refine Fork2.mk (fun h => ?_) (fun h => ?_) <;> (conv => whnf))
      | (refine Fork.mk (fun h => ?_) (fun h => ?_) <;> (try simp only [pickB, Bool.and_eq_true, Bool.or_eq_true, Bool.and_eq_false_iff, Bool.or_eq_false_iff, Bool.not_eq_true', Bool.not_eq_false', Bool.not_eq_eq_eq_not, Bool.not_true, Bool.not_false, decide_eq_true_eq, decide_eq_false_iff_not, beq_iff_eq, bne_iff_ne, beq_eq_false_iff_ne, bne_eq_false_iff_eq, Int.not_lt, Int.not_le, ge_iff_le, gt_iff_lt, ne_eq, not_and, not_or, not_true_eq_false, not_false_eq_true, reduceCtorEq, or_false, false_or, and_true, true_and, and_false, false_and, or_true, true_or] at h) <;> (try simp only [Int.toNat_natCast, dflt64] at h) <;> (try (exfalso; omega)) <;> (conv => whnf))
      | (refine And.intro (by kernel_rfl) ?_; conv => whnf)
      | (intro h; (try simp only [pickB, Bool.and_eq_true, Bool.or_eq_true, Bool.and_eq_false_iff, Bool.or_eq_false_iff, Bool.not_eq_true', Bool.not_eq_false', Bool.not_eq_eq_eq_not, Bool.not_true, Bool.not_false, decide_eq_true_eq, decide_eq_false_iff_not, beq_iff_eq, bne_iff_ne, beq_eq_false_iff_ne, bne_eq_false_iff_eq, Int.not_lt, Int.not_le, ge_iff_le, gt_iff_lt, ne_eq, not_and, not_or, not_true_eq_false, not_false_eq_true, reduceCtorEq, or_false, false_or, and_true, true_and, and_false, false_and, or_true, true_or] at h) <;> (try simp only [Int.toNat_natCast, dflt64] at h); conv => whnf)
      | omega
      | (simp only [conj, and_true, true_and, Nat.le_eq]; dsimp only; omega)
      | (simp only [Int.toNat_natCast, dflt64, List.length_set, List.length_append, List.length_cons, List.length_nil, getD_set0]; omega)
      | (simp only [Int.toNat_natCast, dflt64, List.length_set, List.length_append, List.length_cons, List.length_nil, getD_set0]; split <;> omega))
    · have hc := h
      refine nextQ_intro (M', k + 1) ⟨hI, hv, hC.succ (fun _ h => h) (ha hlt) fun e1 e2 => ?_, by show k + 1 ≤ _; omega⟩ (by show (arcL l).length - (k + 1) < (arcL l).length - k; omega) (by exact rfl) (by exact rfl) ⟨rfl, rfl, rfl, rfl, trivial⟩ ⟨rfl, rfl, rfl, rfl, rfl, rfl, rfl, rfl, trivial⟩
      rcases hc with ((hc | hc) | hc) | hc
      · exact absurd e1 hc
      · rw [hc]; exact List.mem_cons_self ..
      · exact mget_mem hc
      · exact absurd hc e2
    · show (((nodesOf fr M').drop (p + 1)).length + 1) * 8 ≤ 140737488355328
      omega
    · have hc := h
      obtain ⟨⟨⟨e1, e2⟩, e3⟩, e4⟩ := hc
      have e3 : mget (K := I64) (E := ArT) M' ((arcL l).getD k ArT.dflt).2.2.1 = none := by simpa using e3
      have hnm : ((arcL l).getD k ArT.dflt).2.2.1 ∉ nodesOf fr M' := fun hm => by
        rcases List.mem_cons.1 hm with h5 | h5
        · exact e2 h5
        · exact mget_none e3 h5
      have hI' := hI.snoc hN (hmem hlt) e1 hvm hnm e4
      refine nextQ_intro (M' ++ [(((arcL l).getD k ArT.dflt).2.2.1, (arcL l).getD k ArT.dflt)], k + 1) ⟨hI', ?_, hC.succ (fun w h => ?_) (ha hlt) fun _ _ => ?_, by show k + 1 ≤ _; omega⟩ (by show (arcL l).length - (k + 1) < (arcL l).length - k; omega) (by exact rfl) (by exact rfl)
        ⟨rfl, rfl, chM (by exact rfl) (mset_new e3), chA (by exact rfl) ?_, trivial⟩ ⟨rfl, rfl, rfl, rfl, rfl, rfl, rfl, rfl, trivial⟩
      · show (nodesOf fr (M' ++ [_]))[p]? = some v
        rw [nodes_snoc, List.getElem?_append_left hplt]; exact hv
      · show w ∈ nodesOf fr (M' ++ [_])
        rw [nodes_snoc]; exact List.mem_append_left _ h
      · show _ ∈ nodesOf fr (M' ++ [_])
        rw [nodes_snoc]; exact List.mem_append_right _ (by simp)
      · show (nodesOf fr M').drop (p + 1) ++ [((arcL l).getD k ArT.dflt).2.2.1] = (nodesOf fr (M' ++ [_])).drop (p + 1)
        rw [nodes_snoc, List.drop_append_of_le_length (by omega)]
  · have hke : k = (arcL l).length := by omega
    subst hke
    refine nextQ_intro (M', p + 1) ?_ (by show n.toNat - (p + 1) < n.toNat - p; omega) (by exact rfl) (by exact rfl) ⟨rfl, rfl, rfl, rfl, trivial⟩ ⟨rfl, rfl, rfl, rfl, trivial⟩
    refine ⟨hI.ent, hI.nd, hI.rng, fun i u hi hu => ?_, by show p + 1 ≤ (nodesOf fr M').length; omega⟩
    by_cases hip : i = p
    · subst hip
      rw [hv] at hu
      cases hu
      exact hC
    · exact hI.cl i u (by simp only at hi; omega) hu

end Go.Sx
