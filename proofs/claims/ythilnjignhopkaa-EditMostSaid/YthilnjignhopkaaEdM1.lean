/- Flows, pushed along arcs: sums over edges, balances, bounds. Plain. Conditions: none. -/
import Derived.Test.YthilnjignhopkaaEdG7
set_option linter.unusedSimpArgs false
set_option linter.unusedVariables false
set_option maxRecDepth 10000
namespace Go.Sx
open Go Go.Proofs

def sumW (f : List Int) (g : Nat → Int) : Nat → Int
  | 0 => 0
  | i + 1 => sumW f g i + f.getD i 0 * g i

def arcSum (g : Nat → Int) : List ArT.den → Int
  | [] => 0
  | a :: ps => a.2.2.2.2 * g a.1.toNat + arcSum g ps

theorem sumW_incAt (f : List Int) (g : Nat → Int) (j : Nat) (d : Int) (m : Nat) : sumW (incAt f j d) g m = sumW f g m + (if j < m ∧ j < f.length then d * g j else 0) := by
  induction m with
  | zero => simp [sumW]
  | succ m ih =>
    simp only [sumW, ih, getD_incAt']
    by_cases h1 : m = j ∧ j < f.length
    · obtain ⟨h1, h2⟩ := h1
      subst h1
      rw [if_neg (by omega), if_pos ⟨rfl, h2⟩, if_pos ⟨by omega, h2⟩, Int.add_mul]
      omega
    · rw [if_neg h1]
      by_cases h2 : j < m ∧ j < f.length
      · rw [if_pos h2, if_pos ⟨by omega, h2.2⟩]; omega
      · rw [if_neg h2, if_neg (by omega)]; omega

theorem addFlow_len (k : Int) : ∀ (f : List Int) (ps : List ArT.den), (addFlow k f ps).length = f.length
  | _, [] => rfl
  | f, a :: ps => by unfold addFlow; rw [addFlow_len]; simp [incAt]

theorem sumW_addFlow (k : Int) (g : Nat → Int) (m : Nat) : ∀ (f : List Int) (ps : List ArT.den), m ≤ f.length → (∀ a ∈ ps, a.1.toNat < m) → sumW (addFlow k f ps) g m = sumW f g m + k * arcSum g ps
  | f, [], _, _ => by simp [addFlow, arcSum]
  | f, a :: ps, hm, h => by
    have h1 := h a (by simp)
    unfold addFlow arcSum
    rw [sumW_addFlow k g m _ ps (by simp [incAt]; omega) (fun b hb => h b (by simp [hb])), sumW_incAt, if_pos ⟨h1, by omega⟩, Int.mul_add]
    have : (a.2.2.2.2 * k) * g a.1.toNat = k * (a.2.2.2.2 * g a.1.toNat) := by
      rw [Int.mul_comm a.2.2.2.2 k, Int.mul_assoc]
    rw [this]
    omega

theorem sumW_add (f : List Int) (g g' : Nat → Int) (m : Nat) : sumW f (fun i => g i + g' i) m = sumW f g m + sumW f g' m := by
  induction m with
  | zero => rfl
  | succ m ih => simp only [sumW, ih, Int.mul_add]; omega

theorem sumW_congr {f : List Int} {g g' : Nat → Int} {m : Nat} (h : ∀ i, i < m → g i = g' i) : sumW f g m = sumW f g' m := by
  induction m with
  | zero => rfl
  | succ m ih => simp only [sumW, ih (fun i hi => h i (by omega)), h m (by omega)]

theorem sumW_zero (f : List Int) (m : Nat) : sumW f (fun _ => 0) m = 0 := by
  induction m with
  | zero => rfl
  | succ m ih => simp [sumW, ih]

theorem sumW_le {f f' : List Int} {g : Nat → Int} {m : Nat} (h : ∀ i, i < m → f.getD i 0 * g i ≤ f'.getD i 0 * g i) : sumW f g m ≤ sumW f' g m := by
  induction m with
  | zero => exact Int.le_refl _
  | succ m ih => simp only [sumW]; have := ih (fun i hi => h i (by omega)); have := h m (by omega); omega

/-- What an edge brings to node w. -/
def bw (l : List EdT.den) (w : Nat) (i : Nat) : Int := (if (l.getD i EdT.dflt).2.1.toNat = w then 1 else 0) - (if (l.getD i EdT.dflt).1.toNat = w then 1 else 0)

theorem bal_sum (n : Nat) (l : List EdT.den) (f : List Int) (w : Nat) (hw : w < n) (m : Nat) : (balTo n l f m).getD w 0 = sumW f (bw l w) m := by
  induction m with
  | zero => simp [balTo, sumW, List.getD_eq_getElem?_getD, List.getElem?_replicate, hw]
  | succ m ih =>
    simp only [balTo, sumW, ← ih]
    have hl := balTo_len n l f m
    rw [getD_incAt', getD_incAt', getD_incAt']
    simp only [incAt, List.length_set, hl]
    unfold bw
    generalize (l.getD m EdT.dflt).1.toNat = u
    generalize (l.getD m EdT.dflt).2.1.toNat = v
    generalize balTo n l f m = b
    generalize f.getD m 0 = x
    by_cases h1 : u = w <;> by_cases h2 : v = w
    · subst h1; subst h2
      rw [if_pos ⟨rfl, hw⟩, if_pos ⟨rfl, hw⟩, if_pos rfl]; simp; omega
    · subst h1
      rw [if_pos ⟨rfl, hw⟩, if_neg (fun h => h2 h.1.symm), if_neg h2, if_pos rfl]; simp
    · subst h2
      rw [if_neg (fun h => h1 h.1.symm), if_pos ⟨rfl, hw⟩, if_pos rfl, if_neg h1]; simp
    · rw [if_neg (fun h => h1 h.1.symm), if_neg (fun h => h2 h.1.symm), if_neg h2, if_neg h1]; simp

def fwA (l : List EdT.den) (i : Nat) : ArT.den := ((i : Int), (l.getD i EdT.dflt).1, (l.getD i EdT.dflt).2.1, (l.getD i EdT.dflt).2.2.2.2, (1 : Int))
def bwA (l : List EdT.den) (i : Nat) : ArT.den := ((i : Int), (l.getD i EdT.dflt).2.1, (l.getD i EdT.dflt).1, -(l.getD i EdT.dflt).2.2.2.2, (-1 : Int))

/-- An arc is one of the two of its edge. -/
theorem arc_cases {l : List EdT.den} {a : ArT.den} (h : a ∈ arcL l) : ∃ i, i < l.length ∧ (a = fwA l i ∨ a = bwA l i) := by
  obtain ⟨k, h1, h2⟩ := arcTo_mem h
  simp only [arcRow, List.mem_cons, List.mem_nil_iff, or_false] at h2
  exact ⟨k, h1, h2⟩

theorem arc_ed {l : List EdT.den} {a : ArT.den} (h : a ∈ arcL l) : a.1.toNat < l.length := by
  obtain ⟨i, h1, rfl | rfl⟩ := arc_cases h
  · exact h1
  · exact h1

theorem arc_bw {l : List EdT.den} {a : ArT.den} (h : a ∈ arcL l) (w : Nat) : a.2.2.2.2 * bw l w a.1.toNat = (if a.2.2.1.toNat = w then 1 else 0) - (if a.2.1.toNat = w then 1 else 0) := by
  obtain ⟨i, h1, rfl | rfl⟩ := arc_cases h
  · exact Int.one_mul _
  · show -1 * ((if (l.getD i EdT.dflt).2.1.toNat = w then (1 : Int) else 0) - (if (l.getD i EdT.dflt).1.toNat = w then 1 else 0)) = (if (l.getD i EdT.dflt).1.toNat = w then 1 else 0) - (if (l.getD i EdT.dflt).2.1.toNat = w then 1 else 0)
    split <;> split <;> rfl

theorem arc_cost {l : List EdT.den} {a : ArT.den} (h : a ∈ arcL l) : a.2.2.2.2 * (l.getD a.1.toNat EdT.dflt).2.2.2.2 = a.2.2.2.1 := by
  obtain ⟨i, h1, rfl | rfl⟩ := arc_cases h
  · exact Int.one_mul _
  · exact Int.neg_one_mul _

/-- A path's arcs: where they lead. -/
theorem path_bw {l : List EdT.den} {M : List (Int × ArT.den)} {fr : Int} (w : Nat) : ∀ {v : Int} {ps : List ArT.den}, IsPath M fr v ps → (∀ a ∈ ps, a ∈ arcL l) → (∀ v a, mget (K := I64) (E := ArT) M v = some a → a.2.2.1 = v) →
    arcSum (bw l w) ps = (if v.toNat = w then 1 else 0) - (if fr.toNat = w then 1 else 0)
  | _, [], h, _, _ => h.elim
  | v, a :: ps, ⟨h1, h2⟩, hm, hto => by
    unfold arcSum
    rw [arc_bw (hm a (by simp)), hto v a h1]
    rcases h2 with ⟨h3, rfl⟩ | ⟨_, h3⟩
    · simp only [arcSum, h3]; omega
    · rw [path_bw w h3 (fun b hb => hm b (by simp [hb])) hto]; omega

/-- How often an edge is taken. -/
def dsum (i : Nat) : List ArT.den → Int
  | [] => 0
  | a :: ps => (if a.1.toNat = i then a.2.2.2.2 else 0) + dsum i ps

theorem addFlow_get (k : Int) (i : Nat) : ∀ (f : List Int) (ps : List ArT.den), (∀ a ∈ ps, a.1.toNat < f.length) → (addFlow k f ps).getD i 0 = f.getD i 0 + k * dsum i ps
  | f, [], _ => by simp [addFlow, dsum]
  | f, a :: ps, h => by
    have h1 := h a (by simp)
    unfold addFlow dsum
    rw [addFlow_get k i _ ps (fun b hb => by simp [incAt]; exact h b (by simp [hb])), getD_incAt']
    by_cases e : a.1.toNat = i
    · subst e
      rw [if_pos ⟨rfl, h1⟩, if_pos rfl, Int.mul_add, Int.mul_comm k a.2.2.2.2]; omega
    · rw [if_neg (fun h => e h.1.symm), if_neg e, Int.zero_add]

theorem fw_bw_ne (l : List EdT.den) (i : Nat) : fwA l i ≠ bwA l i := fun e => by
  have : (fwA l i).2.2.2.2 = (bwA l i).2.2.2.2 := by rw [e]
  simp [fwA, bwA] at this

instance : DecidableEq ArT.den := inferInstanceAs (DecidableEq (Int × Int × Int × Int × Int))

theorem dsum_eq {l : List EdT.den} (i : Nat) : ∀ {ps : List ArT.den}, ps.Nodup → (∀ a ∈ ps, a ∈ arcL l) → dsum i ps = (if fwA l i ∈ ps then 1 else 0) - (if bwA l i ∈ ps then 1 else 0)
  | [], _, _ => by simp [dsum]
  | a :: ps, hn, hm => by
    rw [List.nodup_cons] at hn
    unfold dsum
    rw [dsum_eq i hn.2 (fun b hb => hm b (by simp [hb]))]
    have hne := fw_bw_ne l i
    by_cases e : a.1.toNat = i
    · rw [if_pos e]
      have hc : a = fwA l i ∨ a = bwA l i := by
        obtain ⟨k, _, rfl | rfl⟩ := arc_cases (hm a (by simp))
        · have : k = i := e
          rw [this]; exact .inl rfl
        · have : k = i := e
          rw [this]; exact .inr rfl
      rcases hc with h1 | h1
      · subst h1
        have h2 : (fwA l i).2.2.2.2 = 1 := rfl
        have h3 : ¬ bwA l i = fwA l i := fun e => hne e.symm
        simp only [List.mem_cons, true_or, if_true, h3, false_or, if_neg hn.1, h2]
        omega
      · subst h1
        have h2 : (bwA l i).2.2.2.2 = -1 := rfl
        simp only [List.mem_cons, true_or, if_true, hne, false_or, if_neg hn.1, h2]
        omega
    · rw [if_neg e]
      have h1 : ¬ fwA l i = a := fun h => e (by rw [← h]; simp [fwA])
      have h2 : ¬ bwA l i = a := fun h => e (by rw [← h]; simp [bwA])
      simp only [List.mem_cons, h1, h2, false_or]
      omega

theorem minRoom_le_m (l : List EdT.den) (f : List Int) : ∀ (m : Int) (ps : List ArT.den), minRoom l f m ps ≤ m
  | _, [] => Int.le_refl _
  | m, a :: ps => by unfold minRoom; have := minRoom_le_m l f (min m (room l f a)) ps; omega

theorem minRoom_le (l : List EdT.den) (f : List Int) : ∀ (m : Int) (ps : List ArT.den), ∀ a ∈ ps, minRoom l f m ps ≤ room l f a
  | _, [], a, h => by simp at h
  | m, b :: ps, a, h => by
    unfold minRoom
    rcases List.mem_cons.1 h with rfl | h
    · have := minRoom_le_m l f (min m (room l f a)) ps; omega
    · exact minRoom_le l f _ ps a h

theorem minRoom_pos (l : List EdT.den) (f : List Int) : ∀ (m : Int) (ps : List ArT.den), 1 ≤ m → (∀ a ∈ ps, 1 ≤ room l f a) → 1 ≤ minRoom l f m ps
  | _, [], h, _ => h
  | m, a :: ps, h, hr => by
    unfold minRoom
    have := hr a (by simp)
    exact minRoom_pos l f _ ps (by omega) (fun b hb => hr b (by simp [hb]))

theorem room_fw {l : List EdT.den} {f : List Int} {i : Nat} : room l f (fwA l i) = -f.getD i 0 + (l.getD i EdT.dflt).2.2.2.1 := by
  show roomP _ _ _ 1 = _
  unfold roomP
  rw [if_pos (by decide), Int.sub_eq_add_neg, Int.add_comm]; rfl

theorem room_bw {l : List EdT.den} {f : List Int} {i : Nat} : room l f (bwA l i) = f.getD i 0 - (l.getD i EdT.dflt).2.2.1 := by
  show roomP _ _ _ (-1) = _
  unfold roomP
  rw [if_neg (by decide)]; rfl

theorem room_nn {l : List EdT.den} {f : List Int} (hf : FlowOK l f) {a : ArT.den} (h : a ∈ arcL l) : 0 ≤ room l f a := by
  obtain ⟨i, h1, rfl | rfl⟩ := arc_cases h
  all_goals
    have h3 := hf.2 i h1
    unfold rangeP at h3
  · rw [room_fw]; omega
  · rw [room_bw]; omega

/-- A push leaves the flow within its bounds. -/
theorem push_flow {l : List EdT.den} {f : List Int} (hf : FlowOK l f) {ps : List ArT.den} (hn : ps.Nodup) (hm : ∀ a ∈ ps, a ∈ arcL l) {k : Int} (h0 : 0 ≤ k) (hk : ∀ a ∈ ps, k ≤ room l f a) : FlowOK l (addFlow k f ps) := by
  refine ⟨by rw [addFlow_len]; exact hf.1, fun i hi => ?_⟩
  have h1 := hf.2 i hi
  rw [addFlow_get k i f ps (fun a ha => by rw [hf.1]; exact arc_ed (hm a ha)), dsum_eq i hn hm]
  unfold rangeP at *
  have h2 : fwA l i ∈ ps → k ≤ -f.getD i 0 + (l.getD i EdT.dflt).2.2.2.1 := fun h => by rw [← room_fw]; exact hk _ h
  have h3 : bwA l i ∈ ps → k ≤ f.getD i 0 - (l.getD i EdT.dflt).2.2.1 := fun h => by rw [← room_bw]; exact hk _ h
  by_cases e1 : fwA l i ∈ ps <;> by_cases e2 : bwA l i ∈ ps
  · rw [if_pos e1, if_pos e2, Int.sub_self, Int.mul_zero, Int.add_zero]; exact h1
  · rw [if_pos e1, if_neg e2, Int.sub_zero, Int.mul_one]; have := h2 e1; omega
  · rw [if_neg e1, if_pos e2, Int.zero_sub, Int.mul_neg, Int.mul_one]; have := h3 e2; omega
  · rw [if_neg e1, if_neg e2, Int.sub_self, Int.mul_zero, Int.add_zero]; exact h1

end Go.Sx
