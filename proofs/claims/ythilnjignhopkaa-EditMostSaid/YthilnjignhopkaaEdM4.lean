/- The cycle that a pass too many finds. Plain. Conditions: none. -/
import Derived.Test.YthilnjignhopkaaEdM3
set_option linter.unusedSimpArgs false
set_option linter.unusedVariables false
set_option maxRecDepth 10000
namespace Go.Sx
open Go Go.Proofs

def nxt (M : List (Int × ArT.den)) (v : Int) : Int := ((mget (K := I64) (E := ArT) M v).getD ArT.dflt).2.1

def iterN (M : List (Int × ArT.den)) : Nat → Int → Int
  | 0, v => v
  | i + 1, v => nxt M (iterN M i v)

theorem iterN_add (M : List (Int × ArT.den)) (a b : Nat) (v : Int) : iterN M (a + b) v = iterN M a (iterN M b v) := by
  induction a with
  | zero => simp [iterN]
  | succ a ih => rw [show a + 1 + b = (a + b) + 1 by omega]; simp only [iterN, ih]

theorem iterN_succ' (M : List (Int × ArT.den)) (i : Nat) (v : Int) : iterN M (i + 1) v = iterN M i (nxt M v) := by
  rw [iterN_add M i 1 v]; rfl

theorem path_iter {M : List (Int × ArT.den)} {fr : Int} (hto : ∀ v a, mget (K := I64) (E := ArT) M v = some a → a.2.2.1 = v) : ∀ (p : Nat) (v : Int), (∀ t, t < p + 1 → (mget (K := I64) (E := ArT) M (iterN M t v)).isSome = true) → iterN M (p + 1) v = fr →
    (∀ t, 1 ≤ t → t < p + 1 → iterN M t v ≠ fr) → ∃ qs, IsPath M fr v qs ∧ qs.map (·.2.2.1) = (List.range (p + 1)).map (fun t => iterN M t v)
  | 0, v, hs, he, _ => by
    obtain ⟨a, ha⟩ := Option.isSome_iff_exists.1 (hs 0 (by omega))
    have ha : mget (K := I64) (E := ArT) M v = some a := ha
    refine ⟨[a], ⟨ha, .inl ⟨?_, rfl⟩⟩, ?_⟩
    · have : nxt M v = fr := he
      unfold nxt at this
      rw [ha] at this
      exact this
    · simp [hto v a ha, iterN]
  | p + 1, v, hs, he, hne => by
    obtain ⟨a, ha⟩ := Option.isSome_iff_exists.1 (hs 0 (by omega))
    have ha : mget (K := I64) (E := ArT) M v = some a := ha
    have hn : nxt M v = a.2.1 := by unfold nxt; rw [ha]; rfl
    obtain ⟨qs, h1, h2⟩ := path_iter (fr := fr) hto p (nxt M v) (fun t ht => by rw [← iterN_succ']; exact hs (t + 1) (by omega)) (by rw [← iterN_succ']; exact he) (fun t h1 h2 => by rw [← iterN_succ']; exact hne (t + 1) (by omega) (by omega))
    refine ⟨a :: qs, ⟨ha, .inr ⟨?_, ?_⟩⟩, ?_⟩
    · rw [← hn]; exact hne 1 (by omega) (by omega)
    · rw [← hn]; exact h1
    · rw [List.map_cons, h2, List.range_succ_eq_map (n := p + 1), List.map_cons, List.map_map, hto v a ha]
      congr 1
      exact List.map_congr_left fun t _ => (iterN_succ' M t v).symm

theorem least_period {M : List (Int × ArT.den)} {x : Int} : ∀ (p : Nat), 1 ≤ p → iterN M p x = x → ∃ q, 1 ≤ q ∧ iterN M q x = x ∧ ∀ t, 1 ≤ t → t < q → iterN M t x ≠ x := by
  intro p
  induction p using Nat.strongRecOn with
  | _ p ih =>
    intro h1 h2
    by_cases h : ∃ t, 1 ≤ t ∧ t < p ∧ iterN M t x = x
    · obtain ⟨t, a, b, c⟩ := h
      exact ih t b a c
    · exact ⟨p, h1, h2, fun t a b c => h ⟨t, a, b, c⟩⟩

/-- A node from which entries lead back for ever lies, far enough on, on a cycle. -/
theorem cycle_iter {M : List (Int × ArT.den)} {n : Nat} {v : Int} (hs : ∀ t, t ≤ n → (mget (K := I64) (E := ArT) M (iterN M t v)).isSome = true) (hr : ∀ t, t ≤ n → 0 ≤ iterN M t v ∧ iterN M t v < n) :
    ∃ p, iterN M (p + 1) (iterN M n v) = iterN M n v ∧ (∀ t, 1 ≤ t → t < p + 1 → iterN M t (iterN M n v) ≠ iterN M n v) ∧ ∀ t, (mget (K := I64) (E := ArT) M (iterN M t (iterN M n v))).isSome = true := by
  have hij : ∃ i j, i < j ∧ j ≤ n ∧ iterN M i v = iterN M j v := by
    rcases Classical.em (∃ i j, i < j ∧ j ≤ n ∧ iterN M i v = iterN M j v) with h | h
    · exact h
    · exfalso
      have hn : ((List.range (n + 1)).map fun t => (iterN M t v).toNat).Nodup := by
        refine List.pairwise_iff_getElem.2 fun i j hi hj hlt e => ?_
        simp only [List.getElem_map, List.getElem_range] at e
        simp at hi hj
        exact h ⟨i, j, hlt, by omega, toNat_inj (hr i (by omega)).1 (hr j (by omega)).1 e⟩
      have := nodup_lt n _ hn fun x hx => by
        obtain ⟨t, ht, rfl⟩ := List.mem_map.1 hx
        have ht : t < n + 1 := by simpa using ht
        have := hr t (by omega)
        omega
      simp at this
      omega
  obtain ⟨i, j, hlt, hjn, he⟩ := hij
  have hper : iterN M (j - i) (iterN M i v) = iterN M i v := by rw [← iterN_add, show j - i + i = j by omega, he]
  have hall : ∀ t, (mget (K := I64) (E := ArT) M (iterN M t (iterN M i v))).isSome = true := by
    intro t
    induction t using Nat.strongRecOn with
    | _ t ih =>
      by_cases h : t < j - i
      · rw [← iterN_add]; exact hs (t + i) (by omega)
      · rw [show t = (t - (j - i)) + (j - i) by omega, iterN_add, hper]
        exact ih _ (by omega)
  have hx : iterN M n v = iterN M (n - i) (iterN M i v) := by rw [← iterN_add, show n - i + i = n by omega]
  have hp : iterN M (j - i) (iterN M n v) = iterN M n v := by
    rw [hx, ← iterN_add, Nat.add_comm, iterN_add, hper]
  obtain ⟨q, h1, h2, h3⟩ := least_period (j - i) (by omega) hp
  refine ⟨q - 1, by rw [show q - 1 + 1 = q by omega]; exact h2, fun t a b => h3 t a (by omega), fun t => ?_⟩
  rw [hx, ← iterN_add]
  exact hall _

theorem cyc_nodup {M : List (Int × ArT.den)} {x : Int} {p : Nat} (h1 : iterN M (p + 1) x = x) (h2 : ∀ t, 1 ≤ t → t < p + 1 → iterN M t x ≠ x) : ((List.range (p + 1)).map fun t => iterN M t x).Nodup := by
  refine List.pairwise_iff_getElem.2 fun i j hi hj hlt e => ?_
  simp only [List.getElem_map, List.getElem_range] at e
  simp at hi hj
  refine h2 (p + 1 - j + i) (by omega) (by omega) ?_
  rw [iterN_add, e, ← iterN_add, show p + 1 - j + j = p + 1 by omega]
  exact h1

/-- What is found behind a pass too many: a cycle that costs less than nothing, along which something can be pushed. -/
theorem BF.cycle {n : Int} {l : List EdT.den} {f : List Int} {s : BS} {j : Nat} (hN : NetOK n l) (h : BF n l f s (n.toNat + 1) j) {v : Int} (hv : s.ps v = n.toNat + 1) : ∃ qs, Way l f s.M (iterN s.M n.toNat v) (iterN s.M n.toNat v) qs ∧ costS qs < 0 := by
  have hto : ∀ v a, mget (K := I64) (E := ArT) s.M v = some a → a.2.2.1 = v := fun v a ha => (h.ent v a ha).2.2.1
  have hps : ∀ t, t ≤ n.toNat → n.toNat + 1 - t ≤ s.ps (iterN s.M t v) := by
    intro t
    induction t with
    | zero => intro _; show n.toNat + 1 - 0 ≤ s.ps v; omega
    | succ t ih =>
      intro ht
      have := ih (by omega)
      obtain ⟨a, ha⟩ := Option.isSome_iff_exists.1 ((h.has _).2 (show 0 < s.ps (iterN s.M t v) by omega))
      have h6 := (h.ent _ a ha).2.2.2.2.2
      show _ ≤ s.ps (nxt s.M (iterN s.M t v))
      unfold nxt
      rw [ha]
      show _ ≤ s.ps a.2.1
      omega
  have hs : ∀ t, t ≤ n.toNat → (mget (K := I64) (E := ArT) s.M (iterN s.M t v)).isSome = true := fun t ht => (h.has _).2 (by have := hps t ht; omega)
  have hr : ∀ t, t ≤ n.toNat → 0 ≤ iterN s.M t v ∧ iterN s.M t v < n.toNat := fun t ht => by
    obtain ⟨a, ha⟩ := Option.isSome_iff_exists.1 (hs t ht)
    obtain ⟨q1, _, q3, _⟩ := h.ent _ a ha
    have hok := arc_ok hN q1
    unfold ArcOK arcP at hok
    rw [← q3]
    have := hN.1
    omega
  obtain ⟨p, k1, k2, k3⟩ := cycle_iter hs hr
  obtain ⟨qs, c1, c2⟩ := path_iter hto p _ (fun t _ => k3 t) k1 k2
  have hmem : ∀ {w : Int} {qs : List ArT.den}, IsPath s.M (iterN s.M n.toNat v) w qs → ∀ b ∈ qs, b ∈ arcL l ∧ 1 ≤ room l f b := by
    intro w qs
    induction qs generalizing w with
    | nil => intro hp; exact hp.elim
    | cons a qs ih =>
      rintro ⟨p1, p2⟩ b hb
      rcases List.mem_cons.1 hb with rfl | hb
      · obtain ⟨q1, q2, _⟩ := h.ent w b p1
        exact ⟨q1, q2⟩
      · rcases p2 with ⟨_, rfl⟩ | ⟨_, p2⟩
        · simp at hb
        · exact ih p2 b hb
  obtain ⟨w1, w2⟩ := Way.len_of hN (fun b hb => (hmem c1 b hb).1) (by rw [c2]; exact cyc_nodup k1 k2)
  refine ⟨qs, ⟨c1, fun b hb => (hmem c1 b hb).1, fun b hb => (hmem c1 b hb).2, w1, w2, ?_, hto⟩, ?_⟩
  · rintro rfl; exact c1
  · obtain ⟨d1, d2⟩ := h.cost c1
    rcases Int.lt_or_eq_of_le d1 with d | d
    · omega
    · have := d2 d; omega

end Go.Sx
