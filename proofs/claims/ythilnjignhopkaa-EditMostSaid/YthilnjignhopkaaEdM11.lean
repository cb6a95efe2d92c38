/- Targets told one after another: digits, their order, the best so far. Plain. Conditions: none. -/
import Derived.Test.YthilnjignhopkaaEdM10
set_option linter.unusedSimpArgs false
set_option linter.unusedVariables false
set_option maxRecDepth 10000
namespace Go.Sx
open Go Go.Proofs

/-- The last s digits of i, base b, the highest first. -/
def digs (b : Nat) : Nat → Nat → List Int
  | 0, _ => []
  | s + 1, i => ((i / b ^ s % b : Nat) : Int) :: digs b s i

theorem digs_len (b : Nat) : ∀ s i, (digs b s i).length = s
  | 0, _ => rfl
  | s + 1, i => by simp [digs, digs_len b s i]

theorem digs_rng {b : Nat} (hb : 0 < b) : ∀ s i, ∀ y ∈ digs b s i, 0 ≤ y ∧ y < b
  | 0, _, y, h => by simp [digs] at h
  | s + 1, i, y, h => by
    rcases List.mem_cons.1 h with h | h
    · subst h
      have := Nat.mod_lt (i / b ^ s) hb
      omega
    · exact digs_rng hb s i y h

theorem digs_add (b a : Nat) (hb : 0 < b) : ∀ t s i, digs b s (a * b ^ (s + t) + i) = digs b s i
  | _, 0, _ => rfl
  | t, s + 1, i => by
    simp only [digs]
    have e1 : a * b ^ (s + 1 + t) = a * b ^ t * b * b ^ s := by
      rw [show s + 1 + t = t + 1 + s by omega, Nat.pow_add, Nat.pow_succ]
      simp only [Nat.mul_assoc]
    have e2 : (a * b ^ (s + 1 + t) + i) / b ^ s % b = i / b ^ s % b := by
      rw [e1, Nat.add_comm, Nat.add_mul_div_right _ _ (Nat.pow_pos hb), Nat.add_mul_mod_self_right]
    rw [e2, show s + 1 + t = s + (t + 1) by omega, digs_add b a hb (t + 1) s i]

/-- The number that a list's digits tell. -/
def val (b : Nat) : List Int → Nat
  | [] => 0
  | a :: r => a.toNat * b ^ r.length + val b r

theorem val_lt {b : Nat} : ∀ (y : List Int), (∀ x ∈ y, 0 ≤ x ∧ x < b) → val b y < b ^ y.length
  | [], _ => by simp [val]
  | a :: r, h => by
    have h1 := h a (by simp)
    have h2 := val_lt r (fun x hx => h x (by simp [hx]))
    simp only [val, List.length_cons, Nat.pow_succ]
    have h3 : a.toNat + 1 ≤ b := by omega
    have h4 := Nat.mul_le_mul_right (b ^ r.length) h3
    rw [Nat.add_mul, Nat.one_mul] at h4
    rw [Nat.mul_comm (b ^ r.length) b]
    omega

theorem digs_val {b : Nat} (hb : 0 < b) : ∀ (y : List Int), (∀ x ∈ y, 0 ≤ x ∧ x < b) → digs b y.length (val b y) = y
  | [], _ => rfl
  | a :: r, h => by
    have h1 := h a (by simp)
    have h2 := val_lt r (fun x hx => h x (by simp [hx]))
    simp only [List.length_cons, digs, val]
    have e1 : (a.toNat * b ^ r.length + val b r) / b ^ r.length % b = a.toNat := by
      rw [Nat.add_comm, Nat.add_mul_div_right _ _ (Nat.pow_pos hb), Nat.div_eq_of_lt h2, Nat.zero_add, Nat.mod_eq_of_lt (by omega)]
    have e2 := digs_add b a.toNat hb 0 r.length (val b r)
    rw [Nat.add_zero] at e2
    rw [e1, e2, digs_val hb r (fun x hx => h x (by simp [hx]))]
    congr 1
    omega

/-- A smaller number: at the first digit that differs it has the smaller one. -/
theorem digs_lt {b : Nat} (hb : 0 < b) : ∀ (y : List Int) (i : Nat), (∀ x ∈ y, 0 ≤ x ∧ x < b) → i < val b y → ∃ k, k < y.length ∧ (digs b y.length i).take k = y.take k ∧ (digs b y.length i).getD k 0 < y.getD k 0
  | [], i, _, h => by simp [val] at h
  | a :: r, i, h, hi => by
    have h1 := h a (by simp)
    have h2 := val_lt r (fun x hx => h x (by simp [hx]))
    simp only [val] at hi
    have hp : 0 < b ^ r.length := Nat.pow_pos hb
    have hdm := Nat.div_add_mod i (b ^ r.length)
    have hml := Nat.mod_lt i hp
    have hq : i / b ^ r.length ≤ a.toNat := by
      have : i < (a.toNat + 1) * b ^ r.length := by rw [Nat.add_mul, Nat.one_mul]; omega
      have := (Nat.div_lt_iff_lt_mul hp).2 this
      omega
    have hqb : i / b ^ r.length % b = i / b ^ r.length := Nat.mod_eq_of_lt (by omega)
    rcases Nat.lt_or_eq_of_le hq with hlt | heq
    · refine ⟨0, by simp, by simp, ?_⟩
      simp only [List.length_cons, digs, List.getD_cons_zero, hqb]
      omega
    · have hi2 : i % b ^ r.length < val b r := by
        rw [heq, Nat.mul_comm] at hdm
        omega
      obtain ⟨k, k1, k2, k3⟩ := digs_lt hb r (i % b ^ r.length) (fun x hx => h x (by simp [hx])) hi2
      have e : digs b r.length i = digs b r.length (i % b ^ r.length) := by
        have := digs_add b (i / b ^ r.length) hb 0 r.length (i % b ^ r.length)
        rw [Nat.add_zero, Nat.mul_comm, hdm] at this
        exact this
      refine ⟨k + 1, by simp; exact k1, ?_, ?_⟩
      · simp only [List.length_cons, digs, List.take_succ_cons, hqb]
        rw [heq, e, k2]
        congr 1
        omega
      · simp only [List.length_cons, digs, List.getD_cons_succ, e]
        exact k3

def okC (to : Nat) (lo hi : Int) (x : List Int) : Bool := (List.range to).all fun j => decide (lo ≤ (count x j : Int)) && decide ((count x j : Int) ≤ hi)

theorem okC_iff {to : Nat} {lo hi : Int} {x : List Int} : okC to lo hi x = true ↔ ∀ j : Nat, j < to → lo ≤ (count x j : Int) ∧ (count x j : Int) ≤ hi := by
  simp [okC, List.all_eq_true]

/-- The best of the first n lists of targets, the first that is so good. -/
def scan (old : List Int) (to : Nat) (lo hi : Int) : Nat → Int × List Int
  | 0 => (-1, [])
  | n + 1 => if okC to lo hi (digs to old.length n) = true ∧ keepC old (digs to old.length n) old.length > (scan old to lo hi n).1 then (keepC old (digs to old.length n) old.length, digs to old.length n) else scan old to lo hi n

theorem scan_none {old : List Int} {to : Nat} {lo hi : Int} : ∀ n, (∀ i, i < n → okC to lo hi (digs to old.length i) = false) → scan old to lo hi n = (-1, [])
  | 0, _ => rfl
  | n + 1, h => by
    simp only [scan]
    rw [if_neg (fun q => by rw [h n (by omega)] at q; cases q.1), scan_none n (fun i hi => h i (by omega))]

theorem keepC_nn (old x : List Int) : ∀ i : Nat, 0 ≤ keepC old x i
  | 0 => by simp [keepC]
  | i + 1 => by
    have := keepC_nn old x i
    simp only [keepC]
    split <;> omega

theorem scan_best {old : List Int} {to : Nat} {lo hi : Int} {v : Nat} (hv : okC to lo hi (digs to old.length v) = true)
    (hb : ∀ i, okC to lo hi (digs to old.length i) = true → keepC old (digs to old.length i) old.length ≤ keepC old (digs to old.length v) old.length)
    (hl : ∀ i, i < v → okC to lo hi (digs to old.length i) = true → keepC old (digs to old.length i) old.length < keepC old (digs to old.length v) old.length) :
    ∀ n, (n ≤ v → (scan old to lo hi n).1 < keepC old (digs to old.length v) old.length) ∧ (v < n → scan old to lo hi n = (keepC old (digs to old.length v) old.length, digs to old.length v))
  | 0 => ⟨fun _ => by have := keepC_nn old (digs to old.length v) old.length; simp only [scan]; omega, fun h => by omega⟩
  | n + 1 => by
    obtain ⟨h1, h2⟩ := scan_best hv hb hl n
    refine ⟨fun h => ?_, fun h => ?_⟩
    · have h1 := h1 (by omega)
      simp only [scan]
      split
      · rename_i q; exact hl n (by omega) q.1
      · exact h1
    · by_cases e : v = n
      · subst e
        simp only [scan]
        rw [if_pos ⟨hv, h1 (Nat.le_refl _)⟩]
      · have h2 := h2 (by omega)
        simp only [scan]
        rw [if_neg (fun q => ?_), h2]
        have := hb n q.1
        have := q.2
        rw [h2] at this
        simp only at this
        omega
end Go.Sx
