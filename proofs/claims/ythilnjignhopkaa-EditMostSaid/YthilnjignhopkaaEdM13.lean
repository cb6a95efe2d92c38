/- What the enumeration finds is what Refs returns; one list of targets told from its end. Plain. Conditions: none. -/
import Derived.Test.YthilnjignhopkaaEdM12
set_option linter.unusedSimpArgs false
set_option linter.unusedVariables false
set_option maxRecDepth 10000
namespace Go.Sx
open Go Go.Proofs

/-- Where Refs fails no list fits. -/
theorem scan_err {old : List Int} {T : Nat} {lo hi : Int} (hn : old.length ≤ 512) (hT : T ≤ 62) (h0 : 0 ≤ lo) (h1 : lo ≤ hi) (he : refsErr old T lo hi ≠ 0) : ∀ n, n ≤ T ^ old.length → scan old T lo hi n = (-1, []) := by
  intro n hnn
  refine scan_none n fun i hi' => ?_
  have hTp : 0 < T ∨ old.length = 0 := by
    rcases Nat.eq_zero_or_pos T with h | h
    · right
      rcases Nat.eq_zero_or_pos old.length with q | q
      · exact q
      · exfalso
        subst h
        rw [Nat.zero_pow q] at hnn
        omega
    · exact .inl h
  cases hok : okC T lo hi (digs T old.length i) with
  | false => rfl
  | true =>
    exfalso
    rw [okC_iff] at hok
    have hlen := digs_len T old.length i
    have hr : ∀ y ∈ digs T old.length i, 0 ≤ y ∧ y < T := by
      rcases hTp with h | h
      · exact digs_rng h old.length i
      · rw [h]; intro y hy; simp [digs] at hy
    have hs := sum_count_eq (digs T old.length i) T hr (digs T old.length i).length (Nat.le_refl _)
    rw [List.take_length, hlen] at hs
    have hlow : sumN (fun _ => lo) T ≤ sumN (fun j => (count (digs T old.length i) j : Int)) T := sumN_le fun j hj => (hok j hj).1
    have hup : sumN (fun j => (count (digs T old.length i) j : Int)) T ≤ sumN (fun _ => min hi (old.length : Int)) T := sumN_le fun j hj => by
      have h1 := (hok j hj).2
      have h2 := count_le (digs T old.length i) j
      omega
    rw [sumN_const, hs] at hlow hup
    have hlo : (T : Int) * min lo 1000 ≤ (T : Int) * lo := Int.mul_le_mul_of_nonneg_left (by omega) (by omega)
    apply he
    unfold refsErr
    rw [if_neg (by omega), if_neg (by omega), if_neg (by omega)]

theorem okC_min {to : Nat} {lo hi : Int} {x : List Int} {n : Nat} (hx : x.length ≤ n) : okC to lo (min hi (n : Int)) x = okC to lo hi x := by
  apply Bool.eq_iff_iff.2
  rw [okC_iff, okC_iff]
  constructor
  · intro h j hj
    have := h j hj
    omega
  · intro h j hj
    have h1 := h j hj
    have h2 := count_le x j
    omega

theorem refs_zero {old : List Int} {lo hi : Int} (he : refsErr old 0 lo hi = 0) : old = [] := by
  have ht := refs_targets he
  have hl := ht.len
  cases h : refsL old 0 lo hi with
  | nil => rw [h] at hl; exact List.length_eq_zero_iff.1 hl.symm
  | cons a r =>
    have := ht.rng a (by rw [h]; simp)
    simp at this
    omega

theorem refs_greedy {old : List Int} {T : Nat} {lo hi : Int} (he : refsErr old T lo hi = 0) (hT : 0 < T) : refsL old T lo hi = (greedy old T lo (min hi (old.length : Int)) old.length).2 ∧ UIn lo (min hi (old.length : Int)) (List.replicate T 0) ∧ 0 ≤ mostAt old lo (min hi (old.length : Int)) (List.replicate T 0) 0 := by
  refine ⟨by unfold refsL; rw [if_pos he, Int.toNat_natCast], ?_⟩
  unfold refsErr at he
  split at he
  · omega
  split at he
  · omega
  split at he
  · omega
  rename_i e1 e2 e3
  have h1 : (1 : Int) * min lo 1000 ≤ (T : Int) * min lo 1000 := Int.mul_le_mul_of_nonneg_right (by omega) (by omega)
  have h2 : min lo 1000 = lo := by omega
  rw [h2] at h1 e3
  exact most0_nn (by omega) (by omega) (by omega) (by omega)

/-- Where Refs succeeds: the first of the best lists is what it returns. -/
theorem scan_refs {old : List Int} {T : Nat} {lo hi : Int} (he : refsErr old T lo hi = 0) : scan old T lo hi (T ^ old.length) = (keepC old (refsL old T lo hi) old.length, refsL old T lo hi) := by
  have ht := refs_targets he
  rw [Int.toNat_natCast] at ht
  rcases Nat.eq_zero_or_pos T with hz | hT
  · subst hz
    have := refs_zero (by simpa using he)
    subst this
    have hx : refsL [] ((0 : Nat) : Int) lo hi = [] := List.length_eq_zero_iff.1 ht.len
    rw [hx]
    simp [scan, digs, okC, keepC]
  obtain ⟨hg, hu, hm⟩ := refs_greedy he hT
  generalize refsL old T lo hi = x at *
  have hlen := ht.len
  have hdv : digs T old.length (val T x) = x := by rw [← hlen]; exact digs_val hT x ht.rng
  have hvl : val T x < T ^ old.length := by rw [← hlen]; exact val_lt x ht.rng
  have hokx : okC T lo hi x = true := by
    rw [← okC_min (n := old.length) (by omega), okC_iff]
    exact ht.cnt
  have hbest : ∀ i, okC T lo hi (digs T old.length i) = true → keepC old (digs T old.length i) old.length ≤ keepC old x old.length := fun i hi' => by
    rw [← okC_min (n := old.length) (by rw [digs_len]; exact Nat.le_refl _), okC_iff] at hi'
    rw [ht.keep]
    exact keep_upper hu (digs_len _ _ _) (digs_rng hT _ _) hi'
  have h := scan_best (old := old) (to := T) (lo := lo) (hi := hi) (v := val T x) (by rw [hdv]; exact hokx) (by rw [hdv]; exact hbest) (fun i hiv hok => ?_) (T ^ old.length)
  · rw [hdv] at h
    exact h.2 hvl
  · rw [hdv]
    refine (Int.lt_or_eq_of_le (hbest i hok)).resolve_right fun heq => ?_
    obtain ⟨k, k1, k2, k3⟩ := digs_lt hT x i ht.rng hiv
    rw [hlen] at k1 k2 k3
    rw [← okC_min (n := old.length) (by rw [digs_len]; exact Nat.le_refl _), okC_iff] at hok
    rw [hg] at k2 k3
    exact greedy_least hu hm (digs_len _ _ _) (digs_rng hT _ _) hok (by rw [heq, ht.keep]) k1 k2 k3

theorem keepC_le (a b : List Int) : ∀ n : Nat, keepC a b n ≤ n
  | 0 => by simp [keepC]
  | n + 1 => by
    have := keepC_le a b n
    simp only [keepC]
    split <;> omega

theorem keepC_all {a b : List Int} : ∀ n : Nat, keepC a b n = n → ∀ i, i < n → a.getD i 0 = b.getD i 0
  | 0, _, i, hi => by omega
  | n + 1, h, i, hi => by
    have h1 := (keepC_le a b n)
    simp only [keepC] at h
    by_cases e : a.getD n 0 = b.getD n 0
    · rw [if_pos e] at h
      by_cases q : i = n
      · subst q; exact e
      · exact keepC_all n (by omega) i (by omega)
    · rw [if_neg e] at h; omega
theorem keepC_self (a : List Int) : ∀ n : Nat, keepC a a n = n
  | 0 => rfl
  | n + 1 => by simp only [keepC, keepC_self a n, if_pos]; omega

/-- Refs of what Refs returned returns the same. -/
theorem refs_self {old : List Int} {T : Nat} {lo hi : Int} (he : refsErr old T lo hi = 0) : refsErr (refsL old T lo hi) T lo hi = 0 ∧ refsL (refsL old T lo hi) T lo hi = refsL old T lo hi := by
  have ht := refs_targets he
  rw [Int.toNat_natCast] at ht
  have hlen := ht.len
  have he2 : refsErr (refsL old T lo hi) T lo hi = 0 := by
    have : refsErr (refsL old T lo hi) T lo hi = refsErr old T lo hi := by unfold refsErr; rw [hlen]
    rw [this, he]
  refine ⟨he2, ?_⟩
  have ht2 := refs_targets he2
  rw [Int.toNat_natCast, hlen] at ht2
  have hl2 := ht2.len
  rcases Nat.eq_zero_or_pos T with hz | hT
  · subst hz
    have := refs_zero (by simpa using he)
    subst this
    have h1 := List.length_eq_zero_iff.1 (hlen.trans rfl)
    have h2 := List.length_eq_zero_iff.1 (hl2.trans hlen)
    rw [h2, h1]
  have hu := (refs_greedy he hT).2.1
  have hk := keep_upper (old := refsL old T lo hi) hu rfl ht.rng ht.cnt
  rw [keepC_self] at hk
  have h3 := keepC_le (refsL old T lo hi) (refsL (refsL old T lo hi) T lo hi) (refsL old T lo hi).length
  have h4 := ht2.keep
  have hall := keepC_all (refsL old T lo hi).length (a := refsL old T lo hi) (b := refsL (refsL old T lo hi) T lo hi) (by omega)
  apply List.ext_getElem hl2
  intro n n1 n2
  have := hall n n2
  rw [List.getD_eq_getElem?_getD, List.getD_eq_getElem?_getD, List.getElem?_eq_getElem n1, List.getElem?_eq_getElem n2] at this
  exact this.symm
end Go.Sx

namespace Go.Sx
open Go Go.Proofs

/-- The list after s steps from its end. -/
def partX (T n s i : Nat) : List Int := List.replicate (n - s) 0 ++ digs T s i

theorem partX_len {T n s i : Nat} (h : s ≤ n) : (partX T n s i).length = n := by
  unfold partX
  rw [List.length_append, List.length_replicate, digs_len]
  omega

theorem partX_set {T n s i : Nat} (h : s < n) : (partX T n s i).set (n - 1 - s) ((i / T ^ s % T : Nat) : Int) = partX T n (s + 1) i := by
  unfold partX
  rw [show n - s = (n - (s + 1)) + 1 by omega, List.replicate_succ', List.append_assoc, List.set_append_right _ _ (by rw [List.length_replicate]; omega), List.length_replicate, show n - 1 - s - (n - (s + 1)) = 0 by omega]
  rfl

theorem partX_get {T n s i : Nat} (h : s < n) : (partX T n (s + 1) i).getD (n - 1 - s) 0 = ((i / T ^ s % T : Nat) : Int) := by
  rw [← partX_set h, List.getD_eq_getElem?_getD, List.getElem?_set_self (by rw [partX_len (by omega)]; omega)]
  rfl

/-- The counts after s steps. -/
def partC (T s i : Nat) : List Int := (List.range T).map fun (j : Nat) => (count (digs T s i) (j : Int) : Int)

theorem partC_len (T s i : Nat) : (partC T s i).length = T := by simp [partC]

theorem partC_get {T s i j : Nat} (h : j < T) : (partC T s i).getD j 0 = count (digs T s i) j := by
  simp [partC, List.getD_eq_getElem?_getD, h]

theorem partC_zero (T i : Nat) : List.replicate T (0 : Int) = partC T 0 i := by
  apply List.ext_getElem
  · simp [partC]
  · intro k k1 k2
    simp [partC, digs, count]

theorem partC_set {T s i : Nat} (hT : 0 < T) : (partC T s i).set (i / T ^ s % T) ((partC T s i).getD (i / T ^ s % T) 0 + 1) = partC T (s + 1) i := by
  have hd := Nat.mod_lt (i / T ^ s) hT
  rw [partC_get hd]
  apply List.ext_getElem
  · simp [partC]
  · intro k k1 k2
    have hk : k < T := by simpa [partC] using k2
    rw [List.getElem_set]
    simp only [partC, List.getElem_map, List.getElem_range, digs, count, List.count_cons, beq_iff_eq]
    by_cases e : i / T ^ s % T = k
    · rw [if_pos e, if_pos (by omega), e]; omega
    · rw [if_neg e, if_neg (by omega)]; omega

theorem keepC_cons (a b : Int) (r q : List Int) (m : Nat) : keepC (a :: r) (b :: q) (m + 1) = (if a = b then 1 else 0) + keepC r q m := by
  have := keepC_drop (a :: r) (b :: q) 1 m
  rw [Nat.add_comm] at this
  rw [this]
  simp [keepC]

/-- How many keep among the last s. -/
def partK (old : List Int) (T s i : Nat) : Int := keepC (old.drop (old.length - s)) (digs T s i) s

theorem partK_succ {old : List Int} {T s i : Nat} (h : s < old.length) : partK old T (s + 1) i = (if old.getD (old.length - 1 - s) 0 = ((i / T ^ s % T : Nat) : Int) then 1 else 0) + partK old T s i := by
  unfold partK
  have e := List.drop_eq_getElem_cons (l := old) (i := old.length - (s + 1)) (by omega)
  rw [e]
  simp only [digs]
  rw [keepC_cons, show old.length - (s + 1) + 1 = old.length - s by omega]
  have hg : old.getD (old.length - 1 - s) 0 = old[old.length - (s + 1)] := by
    rw [List.getD_eq_getElem?_getD, show old.length - 1 - s = old.length - (s + 1) by omega, List.getElem?_eq_getElem (by omega)]
    rfl
  rw [hg]

theorem partK_all (old : List Int) (T i : Nat) : partK old T old.length i = keepC old (digs T old.length i) old.length := by
  unfold partK
  rw [Nat.sub_self, List.drop_zero]

theorem partX_all (T n i : Nat) : partX T n n i = digs T n i := by
  unfold partX
  rw [Nat.sub_self]; rfl

theorem partK_rng (old : List Int) (T s i : Nat) : 0 ≤ partK old T s i ∧ partK old T s i ≤ s := ⟨keepC_nn _ _ _, keepC_le _ _ _⟩

/-- The next rest. -/
theorem rest_succ (i T s : Nat) : i / T ^ s / T = i / T ^ (s + 1) := by
  rw [Nat.div_div_eq_div_mul, Nat.pow_succ]
end Go.Sx
