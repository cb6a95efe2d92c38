/- Balances: paths of reached nodes, what blocks, what lowers. Plain. Conditions: none. -/
import Derived.Test.YthilnjignhopkaaEdM1
set_option linter.unusedSimpArgs false
set_option linter.unusedVariables false
set_option maxRecDepth 10000
namespace Go.Sx
open Go Go.Proofs

def sumN (h : Nat → Int) : Nat → Int
  | 0 => 0
  | n + 1 => sumN h n + h n

theorem sumN_congr {h h' : Nat → Int} {n : Nat} (e : ∀ w, w < n → h w = h' w) : sumN h n = sumN h' n := by
  induction n with
  | zero => rfl
  | succ n ih => simp only [sumN, ih (fun w hw => e w (by omega)), e n (by omega)]

theorem sumN_le {h h' : Nat → Int} {n : Nat} (e : ∀ w, w < n → h w ≤ h' w) : sumN h n ≤ sumN h' n := by
  induction n with
  | zero => exact Int.le_refl _
  | succ n ih => simp only [sumN]; have := ih (fun w hw => e w (by omega)); have := e n (by omega); omega

theorem sumN_lt {h h' : Nat → Int} {n : Nat} (e : ∀ w, w < n → h w ≤ h' w) {w : Nat} (hw : w < n) (hl : h w < h' w) : sumN h n < sumN h' n := by
  induction n with
  | zero => omega
  | succ n ih =>
    simp only [sumN]
    by_cases e1 : w = n
    · subst e1
      have := sumN_le (fun x hx => e x (by omega) : ∀ x, x < w → h x ≤ h' x)
      omega
    · have := ih (fun x hx => e x (by omega)) (by omega)
      have := e n (by omega)
      omega

theorem sumN_zero (n : Nat) : sumN (fun _ => 0) n = 0 := by
  induction n with
  | zero => rfl
  | succ n ih => simp [sumN, ih]

theorem sumN_add (h h' : Nat → Int) (n : Nat) : sumN (fun w => h w + h' w) n = sumN h n + sumN h' n := by
  induction n with
  | zero => rfl
  | succ n ih => simp only [sumN, ih]; omega

theorem sumN_mul (c : Int) (h : Nat → Int) (n : Nat) : sumN (fun w => c * h w) n = c * sumN h n := by
  induction n with
  | zero => simp [sumN]
  | succ n ih => simp only [sumN, ih, Int.mul_add]

theorem sumN_sub (h h' : Nat → Int) (n : Nat) : sumN (fun w => h w - h' w) n = sumN h n - sumN h' n := by
  induction n with
  | zero => rfl
  | succ n ih => simp only [sumN, ih]; omega

theorem sumN_one (S : Nat → Bool) (v n : Nat) : sumN (fun w => if S w = true then (if v = w then 1 else 0) else 0) n = if v < n ∧ S v = true then 1 else 0 := by
  induction n with
  | zero => simp [sumN]
  | succ n ih =>
    simp only [sumN, ih]
    by_cases e : v = n
    · subst e
      by_cases hs : S v = true
      · rw [if_neg (by omega), if_pos hs, if_pos rfl, if_pos ⟨by omega, hs⟩]; rfl
      · rw [if_neg (by omega), if_neg hs, if_neg (fun h => hs h.2)]; rfl
    · have h0 : (if S n = true then (if v = n then (1 : Int) else 0) else 0) = 0 := by simp [e]
      rw [h0, Int.add_zero]
      by_cases hv : v < n ∧ S v = true
      · rw [if_pos hv, if_pos ⟨by omega, hv.2⟩]
      · rw [if_neg hv, if_neg (fun h => hv ⟨by omega, h.2⟩)]

/-- Whether an edge leads into a set or out of it. -/
def cutW (l : List EdT.den) (n : Nat) (S : Nat → Bool) (i : Nat) : Int := (if (l.getD i EdT.dflt).2.1.toNat < n ∧ S (l.getD i EdT.dflt).2.1.toNat = true then 1 else 0) - (if (l.getD i EdT.dflt).1.toNat < n ∧ S (l.getD i EdT.dflt).1.toNat = true then 1 else 0)

theorem sum_set (l : List EdT.den) (n : Nat) (S : Nat → Bool) (f : List Int) (m : Nat) : sumN (fun w => if S w = true then sumW f (bw l w) m else 0) n = sumW f (cutW l n S) m := by
  induction m with
  | zero =>
    exact (sumN_congr (h' := fun _ => 0) fun w _ => by simp only [sumW]; split <;> rfl).trans (sumN_zero n)
  | succ m ih =>
    simp only [sumW]
    rw [← ih]
    have e1 : ∀ w, (if S w = true then sumW f (bw l w) m + f.getD m 0 * bw l w m else 0) = (if S w = true then sumW f (bw l w) m else 0) + f.getD m 0 * (if S w = true then bw l w m else 0) := fun w => by split <;> simp
    rw [sumN_congr (fun w _ => e1 w), sumN_add, sumN_mul]
    congr 2
    have e2 : ∀ w, (if S w = true then bw l w m else 0) = (if S w = true then (if (l.getD m EdT.dflt).2.1.toNat = w then 1 else 0) else 0) - (if S w = true then (if (l.getD m EdT.dflt).1.toNat = w then 1 else 0) else 0) := fun w => by
      unfold bw; split <;> simp
    rw [sumN_congr (fun w _ => e2 w), sumN_sub, sumN_one, sumN_one]
    rfl

/-- A circulation. -/
def Balanced (n : Nat) (l : List EdT.den) (f : List Int) : Prop := ∀ k, (balTo n l f l.length).getD k 0 = 0

theorem Balanced.sum {n : Nat} {l : List EdT.den} {f : List Int} (h : Balanced n l f) (w : Nat) (hw : w < n) : sumW f (bw l w) l.length = 0 := by
  rw [← bal_sum n l f w hw l.length]; exact h w

/-- All balances together are 0. -/
theorem bal_total {n : Int} {l : List EdT.den} (hN : NetOK n l) (f : List Int) : sumN (fun w => (balTo n.toNat l f l.length).getD w 0) n.toNat = 0 := by
  have h1 : sumN (fun w => (balTo n.toNat l f l.length).getD w 0) n.toNat = sumN (fun w => if (fun _ : Nat => true) w = true then sumW f (bw l w) l.length else 0) n.toNat :=
    sumN_congr fun w hw => by rw [bal_sum n.toNat l f w hw, if_pos rfl]
  rw [h1, sum_set, ← sumW_zero f l.length]
  refine sumW_congr fun i hi => ?_
  have he := hN.2.2.2 i hi
  unfold EdOK EdOK' at he
  unfold cutW
  rw [if_pos ⟨by omega, rfl⟩, if_pos ⟨by omega, rfl⟩]; rfl

/-- What is left too much at all nodes together. -/
def phi (n : Nat) (e : List Int) : Nat := (sumN (fun w => max (e.getD w 0) 0) n).toNat

theorem phi_nn (n : Nat) (e : List Int) : 0 ≤ sumN (fun w => max (e.getD w 0) 0) n := by
  have := sumN_le (h := fun _ => 0) (h' := fun w => max (e.getD w 0) 0) (n := n) fun w _ => by show (0 : Int) ≤ max _ 0; omega
  rw [sumN_zero] at this
  exact this

theorem phi_lt {n : Nat} {e e' : List Int} {fr to : Nat} {k : Int} (hk : 1 ≤ k) (h1 : fr < n) (h2 : k ≤ e.getD fr 0) (h3 : e.getD to 0 ≤ -k) (h : ∀ w, w < n → e'.getD w 0 = e.getD w 0 + k * ((if to = w then 1 else 0) - (if fr = w then 1 else 0))) : phi n e' < phi n e := by
  have hne : fr ≠ to := fun e0 => by subst e0; omega
  have hlt : sumN (fun w => max (e'.getD w 0) 0) n < sumN (fun w => max (e.getD w 0) 0) n := by
    refine sumN_lt (w := fr) (fun w hw => ?_) h1 ?_
    · rw [h w hw]
      by_cases e1 : to = w
      · subst e1; rw [if_pos rfl, if_neg hne, Int.sub_zero, Int.mul_one]; omega
      · by_cases e2 : fr = w
        · subst e2; rw [if_neg e1, if_pos rfl, Int.zero_sub, Int.mul_neg, Int.mul_one]; omega
        · rw [if_neg e1, if_neg e2, Int.sub_self, Int.mul_zero, Int.add_zero]; exact Int.le_refl _
    · rw [h fr h1, if_neg (Ne.symm hne), if_pos rfl, Int.zero_sub, Int.mul_neg, Int.mul_one]; omega
  have := phi_nn n e'
  have := phi_nn n e
  unfold phi
  omega

/-- Nothing too much anywhere: all is in balance. -/
theorem all_zero {n : Int} {l : List EdT.den} (hN : NetOK n l) (f : List Int) (h : ∀ w, w < n.toNat → (balTo n.toNat l f l.length).getD w 0 ≤ 0) : Balanced n.toNat l f := by
  intro k
  have hl := balTo_len n.toNat l f l.length
  by_cases hk : k < n.toNat
  · have ht := bal_total hN f
    have h1 := h k hk
    rcases Int.lt_or_eq_of_le h1 with h2 | h2
    · exfalso
      have := sumN_lt (h' := fun _ => 0) (h := fun w => (balTo n.toNat l f l.length).getD w 0) h hk h2
      rw [sumN_zero, ht] at this
      omega
    · exact h2
  · exact getD_out (by omega)

/-- From a node with too much one with too little is reached, if there is a circulation. -/
theorem not_blocked {n : Int} {l : List EdT.den} (hN : NetOK n l) {f g : List Int} (hf : FlowOK l f) (hg : FlowOK l g) (hb : Balanced n.toNat l g) {fr : Int} {M : List (Int × ArT.den)} (hR : RInv n l f fr M (nodesOf fr M).length)
    (hfr : 0 ≤ fr ∧ fr < n) (hpos : 0 < (balTo n.toNat l f l.length).getD fr.toNat 0) (hno : ∀ w : Nat, (w : Int) ∈ nodesOf fr M → 0 ≤ (balTo n.toNat l f l.length).getD w 0) : False := by
  let S : Nat → Bool := fun w => decide ((w : Int) ∈ nodesOf fr M)
  have hS : ∀ w, S w = true ↔ (w : Int) ∈ nodesOf fr M := fun w => by simp [S]
  have hSi : ∀ v : Int, 0 ≤ v → (S v.toNat = true ↔ v ∈ nodesOf fr M) := fun v hv => by rw [hS, Int.toNat_of_nonneg hv]
  -- the set's balances
  have h1 : 0 < sumN (fun w => if S w = true then sumW f (bw l w) l.length else 0) n.toNat := by
    have h0 := sumN_zero n.toNat
    suffices h : sumN (fun _ => 0) n.toNat < sumN (fun w => if S w = true then sumW f (bw l w) l.length else 0) n.toNat by omega
    refine sumN_lt (w := fr.toNat) (fun w hw => ?_) (by omega) ?_
    · split
      · rename_i hs
        rw [← bal_sum n.toNat l f w hw]
        exact hno w ((hS w).1 hs)
      · exact Int.le_refl _
    · rw [if_pos ((hSi fr hfr.1).2 (List.mem_cons_self ..)), ← bal_sum n.toNat l f fr.toNat (by omega)]
      exact hpos
  have h2 : sumN (fun w => if S w = true then sumW g (bw l w) l.length else 0) n.toNat = 0 := by
    refine (sumN_congr (h' := fun _ => 0) fun w hw => ?_).trans (sumN_zero n.toNat)
    split
    · exact hb.sum w hw
    · rfl
  rw [sum_set] at h1 h2
  have h3 : sumW f (cutW l n.toNat S) l.length ≤ sumW g (cutW l n.toNat S) l.length := by
    refine sumW_le fun i hi => ?_
    have he := hN.2.2.2 i hi
    have hfi := hf.2 i hi
    have hgi := hg.2 i hi
    unfold EdOK EdOK' at he
    unfold rangeP at hfi hgi
    have hclosed : ∀ a, a ∈ arcL l → a.2.1 ∈ nodesOf fr M → room l f a ≠ 0 → a.2.2.1 ∈ nodesOf fr M := fun a ha hv hr => by
      obtain ⟨p, hp⟩ := List.mem_iff_getElem?.1 hv
      obtain ⟨j, hj⟩ := List.mem_iff_getElem?.1 ha
      exact hR.cl p a.2.1 (List.getElem?_eq_some_iff.1 hp).1 hp j a (List.getElem?_eq_some_iff.1 hj).1 hj rfl hr
    have hmem : fwA l i ∈ arcL l ∧ bwA l i ∈ arcL l := by
      unfold arcL arcTo
      constructor <;> (rw [List.mem_flatMap]; exact ⟨i, by simpa using hi, by simp [arcRow, fwA, bwA]⟩)
    have hfw := hclosed _ hmem.1
    have hbw := hclosed _ hmem.2
    rw [room_fw] at hfw
    rw [room_bw] at hbw
    have hfw : (l.getD i EdT.dflt).1 ∈ nodesOf fr M → -f.getD i 0 + (l.getD i EdT.dflt).2.2.2.1 ≠ 0 → (l.getD i EdT.dflt).2.1 ∈ nodesOf fr M := hfw
    have hbw : (l.getD i EdT.dflt).2.1 ∈ nodesOf fr M → f.getD i 0 - (l.getD i EdT.dflt).2.2.1 ≠ 0 → (l.getD i EdT.dflt).1 ∈ nodesOf fr M := hbw
    unfold cutW
    by_cases s1 : (l.getD i EdT.dflt).2.1 ∈ nodesOf fr M <;> by_cases s2 : (l.getD i EdT.dflt).1 ∈ nodesOf fr M
    · rw [if_pos ⟨by omega, (hSi _ (by omega)).2 s1⟩, if_pos ⟨by omega, (hSi _ (by omega)).2 s2⟩]; simp
    · rw [if_pos ⟨by omega, (hSi _ (by omega)).2 s1⟩, if_neg (fun h => s2 ((hSi _ (by omega)).1 h.2)), Int.sub_zero, Int.mul_one, Int.mul_one]
      by_cases hz : f.getD i 0 - (l.getD i EdT.dflt).2.2.1 = 0
      · omega
      · exact absurd (hbw s1 hz) s2
    · rw [if_neg (fun h => s1 ((hSi _ (by omega)).1 h.2)), if_pos ⟨by omega, (hSi _ (by omega)).2 s2⟩, Int.zero_sub, Int.mul_neg, Int.mul_neg, Int.mul_one, Int.mul_one]
      by_cases hz : -f.getD i 0 + (l.getD i EdT.dflt).2.2.2.1 = 0
      · omega
      · exact absurd (hfw s2 hz) s1
    · rw [if_neg (fun h => s1 ((hSi _ (by omega)).1 h.2)), if_neg (fun h => s2 ((hSi _ (by omega)).1 h.2))]; simp
  omega

theorem mget_of {M : List (Int × ArT.den)} (hn : (M.map (·.1)).Nodup) : ∀ {i : Nat} {w : Int} {a : ArT.den}, M[i]? = some (w, a) → mget (K := I64) (E := ArT) M w = some a := by
  unfold mget
  induction M with
  | nil => intro i w a h; simp at h
  | cons p M ih =>
    intro i w a h
    rw [List.map_cons, List.nodup_cons] at hn
    unfold mfind
    by_cases e : w = p.1
    · have hk : Ty.keyEq I64 w p.1 = true := by show (w == p.1) = true; simp [e]
      rw [hk]
      cases i with
      | zero => simp at h; simp [h]
      | succ i =>
        exfalso
        simp only [List.getElem?_cons_succ] at h
        exact hn.1 (List.mem_map.2 ⟨_, List.mem_iff_getElem?.2 ⟨i, h⟩, e⟩)
    · have hk : Ty.keyEq I64 w p.1 = false := by show (w == p.1) = false; simp [e]
      rw [hk]
      cases i with
      | zero => simp at h; exact absurd (by rw [h]) e
      | succ i =>
        simp only [List.getElem?_cons_succ] at h
        have := ih hn.2 h
        revert this
        cases mfind (K := I64) (E := ArT) M w with
        | none => simp
        | some q => simp

/-- The way to a reached node. -/
theorem path_of {n : Int} {l : List EdT.den} {f : List Int} {fr : Int} {M : List (Int × ArT.den)} {p : Nat} (hR : RInv n l f fr M p) : ∀ (i : Nat) (w : Int) (a : ArT.den), M[i]? = some (w, a) →
    ∃ ps, IsPath M fr w ps ∧ (∀ b ∈ ps, b ∈ arcL l ∧ room l f b ≠ 0) ∧ (ps.map (·.2.2.1)).Nodup ∧ ∀ b ∈ ps, b.2.2.1 ∈ (M.take (i + 1)).map (·.1) := by
  intro i
  induction i using Nat.strongRecOn with
  | _ i ih =>
    intro w a hi
    have hnd : (M.map (·.1)).Nodup := (List.nodup_cons.1 hR.nd).2
    obtain ⟨h1, h2, h3, h4⟩ := hR.ent i w a hi
    have hg := mget_of hnd hi
    have hw : w ∈ (M.take (i + 1)).map (·.1) := List.mem_map.2 ⟨(w, a), List.mem_iff_getElem?.2 ⟨i, by rw [List.getElem?_take, if_pos (by omega)]; exact hi⟩, rfl⟩
    by_cases e : a.2.1 = fr
    · exact ⟨[a], ⟨hg, .inl ⟨e, rfl⟩⟩, by simpa using ⟨h1, h3⟩, by simp, by simpa [h2] using hw⟩
    · have h5 : a.2.1 ∈ (M.take i).map (·.1) := by
        rcases List.mem_cons.1 h4 with h | h
        · exact absurd h e
        · exact h
      obtain ⟨q, hq, hq2⟩ := List.mem_map.1 h5
      obtain ⟨j, hj⟩ := List.mem_iff_getElem?.1 hq
      rw [List.getElem?_take] at hj
      split at hj
      · rename_i hji
        obtain ⟨u, b⟩ := q
        simp only at hq2
        subst hq2
        obtain ⟨ps, k1, k2, k3, k4⟩ := ih j hji _ b hj
        have hmono : ∀ x, x ∈ (M.take (j + 1)).map (·.1) → ∃ t, t < i ∧ (M.map (·.1))[t]? = some x := fun x hx => by
          obtain ⟨y, hy, rfl⟩ := List.mem_map.1 hx
          obtain ⟨t, ht⟩ := List.mem_iff_getElem?.1 hy
          rw [List.getElem?_take] at ht
          split at ht
          · exact ⟨t, by omega, by rw [List.getElem?_map, ht]; rfl⟩
          · cases ht
        have hwi : (M.map (·.1))[i]? = some w := by rw [List.getElem?_map, hi]; rfl
        refine ⟨a :: ps, ⟨hg, .inr ⟨e, k1⟩⟩, ?_, ?_, ?_⟩
        · intro c hc
          rcases List.mem_cons.1 hc with rfl | hc
          · exact ⟨h1, h3⟩
          · exact k2 c hc
        · rw [List.map_cons, List.nodup_cons]
          refine ⟨fun hm => ?_, k3⟩
          rw [h2] at hm
          obtain ⟨c, hc, hc2⟩ := List.mem_map.1 hm
          obtain ⟨t, ht1, ht2⟩ := hmono w (hc2 ▸ k4 c hc)
          have h6 := (List.getElem?_eq_some_iff.1 ht2)
          have h7 := (List.getElem?_eq_some_iff.1 hwi)
          obtain ⟨q1, q2⟩ := h6
          obtain ⟨q3, q4⟩ := h7
          exact List.pairwise_iff_getElem.1 hnd t i q1 q3 ht1 (by rw [q2, q4])
        · intro c hc
          rcases List.mem_cons.1 hc with rfl | hc
          · rw [h2]; exact hw
          · obtain ⟨y, hy, hy2⟩ := List.mem_map.1 (k4 c hc)
            refine List.mem_map.2 ⟨y, ?_, hy2⟩
            obtain ⟨t, ht⟩ := List.mem_iff_getElem?.1 hy
            rw [List.getElem?_take] at ht
            split at ht
            · exact List.mem_iff_getElem?.2 ⟨t, by rw [List.getElem?_take, if_pos (by omega)]; exact ht⟩
            · cases ht
      · cases hj

end Go.Sx
