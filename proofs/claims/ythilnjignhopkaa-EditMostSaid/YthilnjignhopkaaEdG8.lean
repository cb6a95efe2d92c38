/- What balance of package flow does, where there is a circulation. Conditions: none. -/
import Derived.Test.YthilnjignhopkaaEdM2
set_option linter.unusedSimpArgs false
set_option linter.unusedVariables false
set_option maxRecDepth 10000
set_option maxHeartbeats 4000000
namespace Go.Sx
open Go Go.Proofs

theorem flow_range {n : Int} {l : List EdT.den} {f : List Int} (hN : NetOK n l) (hf : FlowOK l f) (i : Nat) : 0 ≤ f.getD i 0 ∧ f.getD i 0 ≤ 1000 := by
  by_cases hi : i < l.length
  · have h1 := hN.2.2.2 i hi
    have h2 := hf.2 i hi
    unfold EdOK EdOK' at h1
    unfold rangeP at h2
    omega
  · have := hf.1
    rw [getD_out (by omega)]
    omega

/-- A way along which something can be pushed. -/
structure Way (l : List EdT.den) (f : List Int) (M : List (Int × ArT.den)) (fr w : Int) (ps : List ArT.den) : Prop where
  path : IsPath M fr w ps
  arcs : ∀ a ∈ ps, a ∈ arcL l
  rm : ∀ a ∈ ps, 1 ≤ room l f a
  nd : ps.Nodup
  len : ps.length ≤ 500
  ne : ps ≠ []
  to : ∀ v a, mget (K := I64) (E := ArT) M v = some a → a.2.2.1 = v

theorem room_le {n : Int} {l : List EdT.den} {f : List Int} (hN : NetOK n l) (hf : FlowOK l f) {a : ArT.den} (h : a ∈ arcL l) : room l f a ≤ 1000 := by
  obtain ⟨i, h1, rfl | rfl⟩ := arc_cases h
  all_goals
    have h3 := hf.2 i h1
    have h4 := hN.2.2.2 i h1
    unfold EdOK EdOK' at h4
    unfold rangeP at h3
  · rw [room_fw]; omega
  · rw [room_bw]; omega

theorem toNat_inj {a b : Int} (h1 : 0 ≤ a) (h2 : 0 ≤ b) (e : a.toNat = b.toNat) : a = b := by omega

theorem Way.len_of {n : Int} {l : List EdT.den} (hN : NetOK n l) {ps : List ArT.den} (h1 : ∀ a ∈ ps, a ∈ arcL l) (h2 : (ps.map (·.2.2.1)).Nodup) : ps.Nodup ∧ ps.length ≤ 500 := by
  refine ⟨(List.pairwise_map.1 h2).imp fun h e => h (by rw [e]), ?_⟩
  have h3 : ((ps.map (·.2.2.1)).map Int.toNat).Nodup := by
    refine List.Pairwise.map _ ?_ (List.Pairwise.and_mem.1 h2)
    intro a b ⟨ha, hb, hne⟩ e
    obtain ⟨x, hx, rfl⟩ := List.mem_map.1 ha
    obtain ⟨y, hy, rfl⟩ := List.mem_map.1 hb
    have p1 := arc_ok hN (h1 x hx)
    have p2 := arc_ok hN (h1 y hy)
    unfold ArcOK arcP at p1 p2
    have e : x.2.2.1.toNat = y.2.2.1.toNat := e
    exact hne (toNat_inj p1.2.2.2.2.1 p2.2.2.2.2.1 e)
  have h4 := nodup_lt n.toNat _ h3 fun x hx => by
    obtain ⟨y, hy, rfl⟩ := List.mem_map.1 hx
    obtain ⟨z, hz, rfl⟩ := List.mem_map.1 hy
    have p1 := arc_ok hN (h1 z hz)
    unfold ArcOK arcP at p1
    omega
  have := hN.2.1
  simp at h4
  omega

theorem way_of {n : Int} {l : List EdT.den} {f : List Int} {fr : Int} {M : List (Int × ArT.den)} {p : Nat} (hN : NetOK n l) (hf : FlowOK l f) (hR : RInv n l f fr M p) {w : Int} (hw : (mget (K := I64) (E := ArT) M w).isSome = true) : ∃ ps, Way l f M fr w ps := by
  obtain ⟨a, ha⟩ := Option.isSome_iff_exists.1 hw
  obtain ⟨i, hi⟩ := mget_some ha
  obtain ⟨ps, k1, k2, k3, _⟩ := path_of hR i w a hi
  obtain ⟨q1, q2⟩ := Way.len_of hN (fun b hb => (k2 b hb).1) k3
  refine ⟨ps, k1, fun b hb => (k2 b hb).1, fun b hb => ?_, q1, q2, ?_, ?_⟩
  · have := room_nn hf (k2 b hb).1
    have := (k2 b hb).2
    omega
  · rintro rfl; exact k1
  · intro v b hb
    obtain ⟨j, hj⟩ := mget_some hb
    exact (hR.ent j v b hj).to

/-- What a push does to the flow. -/
theorem Way.push {n : Int} {l : List EdT.den} {f : List Int} {fr w : Int} {M : List (Int × ArT.den)} {ps : List ArT.den} (hN : NetOK n l) (hf : FlowOK l f) (h : Way l f M fr w ps) {m : Int} (hm : 1 ≤ m) :
    1 ≤ minRoom l f m ps ∧ minRoom l f m ps ≤ m ∧ minRoom l f m ps ≤ 1000 ∧ FlowOK l (addFlow (minRoom l f m ps) f ps) ∧
    ∀ (g : Nat → Int), sumW (addFlow (minRoom l f m ps) f ps) g l.length = sumW f g l.length + minRoom l f m ps * arcSum g ps := by
  have h1 := minRoom_pos l f m ps hm h.rm
  refine ⟨h1, minRoom_le_m l f m ps, ?_, push_flow hf h.nd h.arcs (by omega) (minRoom_le l f m ps), fun g => sumW_addFlow _ g _ f ps (by rw [hf.1]; exact Nat.le_refl _) (fun a ha => arc_ed (h.arcs a ha))⟩
  cases ps with
  | nil => exact absurd rfl h.ne
  | cons a qs =>
    have := minRoom_le l f m (a :: qs) a (by simp)
    have := room_le hN hf (h.arcs a (by simp))
    omega

theorem balance_ok (n : Int) (l : List EdT.den) (f0 : List Int) (hN : NetOK n l) (hf0 : FlowOK l f0) {g : List Int} (hg : FlowOK l g) (hgb : Balanced n.toNat l g) :
    FnOK Try.prog 34 [.cell (.ref 0 0)] [(0, netC n l), (1, .arr I64 f0)] [] (fun r hs' => ∃ f, r = .one (.cell .nilsl) ∧ hs' = [(0, netC n l), (1, .arr I64 f)] ∧ FlowOK l f ∧ Balanced n.toNat l f) := by
  refine FnOK.intro gamN_ok fn34 rfl rfl ?_
  intro _ _
  apply Tri.of_vc gamN_ok []
  conv => whnf
  refine Tri.loop (α := List Int) (n := 76) (fun f => [(0, .one (.cell (.ref 0 0)))]) (fun f => [(0, netC n l), (1, .arr I64 f)]) []
    (fun f => FlowOK l f) (fun f => phi n.toNat (balTo n.toNat l f l.length)) f0 hf0 rfl ⟨rfl, trivial⟩ ⟨rfl, rfl, trivial⟩ rfl ?_
  clear hf0
  intro f hf _ _
  have hfr := flow_range hN hf
  have hbl := balTo_len n.toNat l f l.length
  apply Tri.of_vc gamN_ok []
  conv => whnf
  refine callQ is31 (exc_ok n l f hN hf.1.symm hfr) ⟨rfl, rfl, trivial⟩ ?_
  conv => whnf
  repeat' (first
    | (refine Ob.mk ?_ ?_ <;> conv => whnf)
    | (refine Fork2.mk (fun h => ?_) (fun h => ?_) <;> (conv => whnf))
    | (refine Fork.mk (fun h => ?_) (fun h => ?_) <;> (try simp only [pickB, Bool.and_eq_true, Bool.or_eq_true, Bool.and_eq_false_iff, Bool.or_eq_false_iff, Bool.not_eq_true', Bool.not_eq_false', Bool.not_eq_eq_eq_not, Bool.not_true, Bool.not_false, decide_eq_true_eq, decide_eq_false_iff_not, beq_iff_eq, bne_iff_ne, beq_eq_false_iff_ne, bne_eq_false_iff_eq, Int.not_lt, Int.not_le, ge_iff_le, gt_iff_lt, ne_eq, not_and, not_or, not_true_eq_false, not_false_eq_true, reduceCtorEq, or_false, false_or, and_true, true_and, and_false, false_and, or_true, true_or] at h) <;> (try simp only [Int.toNat_natCast, dflt64] at h) <;> (try (exfalso; omega)) <;> (conv => whnf))
    | (refine And.intro (by kernel_rfl) ?_; conv => whnf)
    | (intro h; (try simp only [pickB, Bool.and_eq_true, Bool.or_eq_true, Bool.and_eq_false_iff, Bool.or_eq_false_iff, Bool.not_eq_true', Bool.not_eq_false', Bool.not_eq_eq_eq_not, Bool.not_true, Bool.not_false, decide_eq_true_eq, decide_eq_false_iff_not, beq_iff_eq, bne_iff_ne, beq_eq_false_iff_ne, bne_eq_false_iff_eq, Int.not_lt, Int.not_le, ge_iff_le, gt_iff_lt, ne_eq, not_and, not_or, not_true_eq_false, not_false_eq_true, reduceCtorEq, or_false, false_or, and_true, true_and, and_false, false_and, or_true, true_or] at h) <;> (try simp only [Int.toNat_natCast, dflt64] at h); conv => whnf)
    | omega
    | (simp only [conj, and_true, true_and, Nat.le_eq]; dsimp only; omega)
    | (simp only [Int.toNat_natCast, dflt64, List.length_set, List.length_append, List.length_cons, List.length_nil, getD_set0]; omega)
    | (simp only [Int.toNat_natCast, dflt64, List.length_set, List.length_append, List.length_cons, List.length_nil, getD_set0]; split <;> omega))
  have hrange := balTo_range n.toNat l f hfr l.length
  have hll := hN.2.2.1
  have hn2 := hN.2.1
  refine Tri.loop (α := Nat) (n := 76) (fun i => [(0, .one (.cell (.ref 0 0))), (3, visl I64 (balTo n.toNat l f l.length)), (14, visl I64 (balTo n.toNat l f l.length)), (15, vint n.toNat), (16, vint i)]) (fun i => [(0, netC n l), (1, .arr I64 f)]) []
    (fun i => i ≤ n.toNat ∧ ∀ k, k < i → (balTo n.toNat l f l.length).getD k 0 ≤ 0) (fun i => n.toNat - i) 0 ⟨Nat.zero_le _, fun k hk => by omega⟩ rfl ⟨rfl, rfl, rfl, enI (by exact rfl) (by omega), rfl, trivial⟩ ⟨rfl, rfl, trivial⟩ rfl ?_
  intro i ⟨hi, hle⟩ _ _
  apply Tri.of_vc gamN_ok []
  conv => whnf
  repeat' (first
    | (refine Ob.mk ?_ ?_ <;> conv => whnf)
    | (refine Fork2.mk (fun h => ?_) (fun h => ?_) <;> (conv => whnf))
    | (refine Fork.mk (fun h => ?_) (fun h => ?_) <;> (try simp only [pickB, Bool.and_eq_true, Bool.or_eq_true, Bool.and_eq_false_iff, Bool.or_eq_false_iff, Bool.not_eq_true', Bool.not_eq_false', Bool.not_eq_eq_eq_not, Bool.not_true, Bool.not_false, decide_eq_true_eq, decide_eq_false_iff_not, beq_iff_eq, bne_iff_ne, beq_eq_false_iff_ne, bne_eq_false_iff_eq, Int.not_lt, Int.not_le, ge_iff_le, gt_iff_lt, ne_eq, not_and, not_or, not_true_eq_false, not_false_eq_true, reduceCtorEq, or_false, false_or, and_true, true_and, and_false, false_and, or_true, true_or] at h) <;> (try simp only [Int.toNat_natCast, dflt64] at h) <;> (try (exfalso; omega)) <;> (conv => whnf))
    | (refine And.intro (by kernel_rfl) ?_; conv => whnf)
    | (intro h; (try simp only [pickB, Bool.and_eq_true, Bool.or_eq_true, Bool.and_eq_false_iff, Bool.or_eq_false_iff, Bool.not_eq_true', Bool.not_eq_false', Bool.not_eq_eq_eq_not, Bool.not_true, Bool.not_false, decide_eq_true_eq, decide_eq_false_iff_not, beq_iff_eq, bne_iff_ne, beq_eq_false_iff_ne, bne_eq_false_iff_eq, Int.not_lt, Int.not_le, ge_iff_le, gt_iff_lt, ne_eq, not_and, not_or, not_true_eq_false, not_false_eq_true, reduceCtorEq, or_false, false_or, and_true, true_and, and_false, false_and, or_true, true_or] at h) <;> (try simp only [Int.toNat_natCast, dflt64] at h); conv => whnf)
    | omega
    | (simp only [conj, and_true, true_and, Nat.le_eq]; dsimp only; omega)
    | (simp only [Int.toNat_natCast, dflt64, List.length_set, List.length_append, List.length_cons, List.length_nil, getD_set0]; omega)
    | (simp only [Int.toNat_natCast, dflt64, List.length_set, List.length_append, List.length_cons, List.length_nil, getD_set0]; split <;> omega))
  · refine nextQ_intro (i + 1) ⟨by omega, fun k hk => ?_⟩ (by show n.toNat - (i + 1) < n.toNat - i; omega) (by exact rfl) (by exact rfl) ⟨rfl, rfl, trivial⟩ ⟨rfl, rfl, rfl, rfl, rfl, trivial⟩
    by_cases e : k = i
    · subst e; assumption
    · exact hle k (by omega)
  · have hpos : 0 < (balTo n.toNat l f l.length).getD i 0 := by assumption
    have hilt : i < n.toNat := by omega
    have hreach := reach_ok n l f i hN hf ⟨by omega, by omega⟩
    refine callF is43 hreach ⟨rfl, rfl, trivial⟩ ?_
    rintro r hs' ⟨M, rfl, rfl, hR⟩ _ _
    conv => whnf
    have hkeys : ((M.map (·.1)).Nodup) := (List.nodup_cons.1 hR.nd).2
    refine Tri.loop (α := Nat) (n := 76) (fun j => [(0, .one (.cell (.ref 0 0))), (3, visl I64 (balTo n.toNat l f l.length)), (4, vint i), (5, vint ((balTo n.toNat l f l.length).getD i 0)), (6, .one (.cell (.mapr 112))), (29, vint n), (30, vint j)])
      (fun j => [(0, netC n l), (1, .arr I64 f), (112, mapC M)]) []
      (fun j => j ≤ n.toNat ∧ ∀ k : Nat, k < j → (mget (K := I64) (E := ArT) M k).isSome = true → 0 ≤ (balTo n.toNat l f l.length).getD k 0) (fun j => n.toNat - j) 0 ⟨Nat.zero_le _, fun k hk => by omega⟩ rfl ⟨rfl, rfl, rfl, rfl, rfl, rfl, rfl, trivial⟩ ⟨rfl, rfl, rfl, trivial⟩ rfl ?_
    intro j ⟨hj, hall⟩ _ _
    have hri := hrange i
    have hrj := hrange j
    apply Tri.of_vc gamN_ok []
    conv => whnf
    repeat' (first
      | (refine Ob.mk ?_ ?_ <;> conv => whnf)
      | (refine Fork2.mk (fun h => ?_) (fun h => ?_) <;> (conv => whnf))
      | (refine Fork.mk (fun h => ?_) (fun h => ?_) <;> (try simp only [pickB, Bool.and_eq_true, Bool.or_eq_true, Bool.and_eq_false_iff, Bool.or_eq_false_iff, Bool.not_eq_true', Bool.not_eq_false', Bool.not_eq_eq_eq_not, Bool.not_true, Bool.not_false, decide_eq_true_eq, decide_eq_false_iff_not, beq_iff_eq, bne_iff_ne, beq_eq_false_iff_ne, bne_eq_false_iff_eq, Int.not_lt, Int.not_le, ge_iff_le, gt_iff_lt, ne_eq, not_and, not_or, not_true_eq_false, not_false_eq_true, reduceCtorEq, or_false, false_or, and_true, true_and, and_false, false_and, or_true, true_or] at h) <;> (try simp only [Int.toNat_natCast, dflt64] at h) <;> (try (exfalso; omega)) <;> (conv => whnf))
      | (refine And.intro (by kernel_rfl) ?_; conv => whnf)
      | (intro h; (try simp only [pickB, Bool.and_eq_true, Bool.or_eq_true, Bool.and_eq_false_iff, Bool.or_eq_false_iff, Bool.not_eq_true', Bool.not_eq_false', Bool.not_eq_eq_eq_not, Bool.not_true, Bool.not_false, decide_eq_true_eq, decide_eq_false_iff_not, beq_iff_eq, bne_iff_ne, beq_eq_false_iff_ne, bne_eq_false_iff_eq, Int.not_lt, Int.not_le, ge_iff_le, gt_iff_lt, ne_eq, not_and, not_or, not_true_eq_false, not_false_eq_true, reduceCtorEq, or_false, false_or, and_true, true_and, and_false, false_and, or_true, true_or] at h) <;> (try simp only [Int.toNat_natCast, dflt64] at h); conv => whnf)
      | omega
      | (simp only [conj, and_true, true_and, Nat.le_eq]; dsimp only; omega)
      | (simp only [Int.toNat_natCast, dflt64, List.length_set, List.length_append, List.length_cons, List.length_nil, getD_set0]; omega)
      | (simp only [Int.toNat_natCast, dflt64, List.length_set, List.length_append, List.length_cons, List.length_nil, getD_set0]; split <;> omega))
    · obtain ⟨hk1, hk2⟩ : (mget (K := I64) (E := ArT) M j).isSome = true ∧ (balTo n.toNat l f l.length).getD j 0 < 0 := by assumption
      obtain ⟨ps, hw⟩ := way_of hN hf hR hk1
      have hm : 1 ≤ min ((balTo n.toNat l f l.length).getD i 0) (-(balTo n.toNat l f l.length).getD j 0) := by omega
      obtain ⟨p1, p2, p3, p4, p5⟩ := hw.push hN hf hm
      have hpush := FnOK.ren (renF_inj (l := [0, 1, 112]) (off := 10000) rfl rfl) (push_ok n l f M i j _ ps hN hf hfr hw.path (fun a ha => arc_ok hN (hw.arcs a ha)) ⟨by omega, p3⟩ hw.len)
      refine callF is36 hpush ⟨rfl, rfl, rfl, trivial⟩ ?_
      rintro r hs' ⟨r0, hs0, ⟨rfl, rfl⟩, rfl, rfl⟩ _ _
      conv => whnf
      refine nextQ_intro (addFlow (minRoom l f (min ((balTo n.toNat l f l.length).getD i 0) (-(balTo n.toNat l f l.length).getD j 0)) ps) f ps) p4 ?_ (by exact rfl) (by exact rfl) ⟨rfl, rfl, trivial⟩ ⟨rfl, trivial⟩
      refine phi_lt p1 hilt (by omega) (to := j) (by omega) fun w hwn => ?_
      rw [bal_sum _ _ _ w hwn, bal_sum _ _ _ w hwn, p5, path_bw w hw.path hw.arcs hw.to]
      simp
    · have hno : (mget (K := I64) (E := ArT) M j).isSome = false ∨ 0 ≤ (balTo n.toNat l f l.length).getD j 0 := by assumption
      refine nextQ_intro (j + 1) ⟨by omega, fun k hk hs => ?_⟩ (by show n.toNat - (j + 1) < n.toNat - j; omega) (by exact rfl) (by exact rfl) ⟨rfl, rfl, rfl, trivial⟩ ⟨rfl, rfl, rfl, rfl, rfl, rfl, rfl, trivial⟩
      by_cases e : k = j
      · subst e
        rcases hno with h | h
        · rw [h] at hs; cases hs
        · exact h
      · exact hall k (by omega) hs
    · refine not_blocked hN hf hg hgb hR ⟨by omega, by omega⟩ (by simpa using hpos) fun w hw => ?_
      have hwn := hR.rng _ hw
      rcases List.mem_cons.1 hw with e | e
      · have : w = i := by omega
        subst this; omega
      · obtain ⟨⟨u, a⟩, hq, rfl⟩ := List.mem_map.1 e
        obtain ⟨t, ht⟩ := List.mem_iff_getElem?.1 hq
        exact hall w (by omega) (by rw [mget_of hkeys ht]; rfl)
  · refine postQ_ret [(0, netC n l), (1, .arr I64 f)] (by exact rfl) (by exact rfl) ⟨rfl, rfl, trivial⟩ (by exact rfl) (by exact rfl) ⟨f, rfl, rfl, hf, all_zero hN f fun w hw => hle w (by omega)⟩

end Go.Sx
