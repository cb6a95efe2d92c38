/- Operations, fourth part: slices that are made, cut, appended to; parts of values; maps. Conditions: the table of types is true of the program. -/
import Derived.Test.YthilnjignhopkaaSxOpC
set_option linter.unusedSimpArgs false
set_option linter.unusedVariables false
namespace Go.Sx
open Go

section
variable {P : Program} {Γ : Gam} {st : Sym} {w : World} {I : Nat → Prop} {ρ : Rho}

def parseN (T : Ty) : Nat → List Leaf → Option (List T.den)
  | 0, [] => some []
  | 0, _ => none
  | n + 1, ls =>
    match T.parse ls with
    | some (x, r) =>
      match parseN T n r with
      | some xs => some (x :: xs)
      | none => none
    | none => none

theorem parseN_ok {T : Ty} : ∀ {n : Nat} {ls : List Leaf} {l : List T.den} {cs : List Value}, parseN T n ls = some l → All2 (Leaf.rep w I ρ) cs ls → l.length = n ∧ rowRep w I T cs l
  | 0, [], l, cs, h, hc => by
    simp only [parseN, Option.some.injEq] at h; subst h
    cases cs with
    | nil => exact ⟨rfl, rowRep_nil T⟩
    | cons _ _ => simp [All2] at hc
  | 0, _ :: _, l, cs, h, _ => by simp [parseN] at h
  | n + 1, ls, l, cs, h, hc => by
    simp only [parseN] at h
    split at h
    · rename_i x r hp
      split at h
      · rename_i xs hxs
        cases h
        obtain ⟨c, d, rfl, h1, h2⟩ := Ty.parse_rep T hp hc
        obtain ⟨h3, h4⟩ := parseN_ok hxs h2
        exact ⟨by simp [h3], rowRep_cons h1 h4⟩
      · cases h
    · cases h

theorem flat_get (l : List Value) : ∀ (n j : Nat), ((List.replicate n l).flatten)[j]? = if j < n * l.length then l[j % l.length]? else none
  | 0, j => by simp
  | n + 1, j => by
    rw [List.replicate_succ, List.flatten_cons]
    by_cases h : j < l.length
    · rw [List.getElem?_append_left h, if_pos (by rw [Nat.add_mul]; omega), Nat.mod_eq_of_lt h]
    · rw [List.getElem?_append_right (by omega), flat_get l n]
      have : j - l.length < n * l.length ↔ j < (n + 1) * l.length := by rw [Nat.add_mul]; omega
      simp only [this]
      rw [← Nat.mod_eq_sub_mod (by omega)]

theorem made_flat (z : Array Value) (n : Nat) : (madeCells z (n * z.size)).toList = (List.replicate n z.toList).flatten := by
  apply List.ext_getElem?
  intro j
  rw [flat_get]
  simp only [madeCells, Array.toList_map, Array.toList_range, List.getElem?_map, Array.length_toList]
  by_cases h : j < n * z.size
  · have hp : 0 < z.size := by
      rcases Nat.eq_zero_or_pos z.size with h0 | h0
      · rw [h0] at h; omega
      · exact h0
    have hm := Nat.mod_lt j hp
    simp [h, hm]
  · simp [h]

theorem rowRep_made {T : Ty} {c : List Value} {x : T.den} (hx : T.rep w I c x) : ∀ n, rowRep w I T (List.replicate n c).flatten (List.replicate n x)
  | 0 => rowRep_nil T
  | n + 1 => by
    rw [List.replicate_succ, List.flatten_cons, List.replicate_succ]
    exact rowRep_cons hx (rowRep_made hx n)

theorem All2.flat {α β : Type} {R : α → β → Prop} {as : List α} {bs : List β} (h : All2 R as bs) : ∀ n, All2 R (List.replicate n as).flatten (List.replicate n bs).flatten
  | 0 => trivial
  | n + 1 => by
    rw [List.replicate_succ, List.flatten_cons, List.replicate_succ, List.flatten_cons]
    exact h.app (All2.flat h n)

/-- The element type of a slice type, as a type with pure values. -/
def elemTy (Γ : Gam) (t : Nat) : Option (Nat × TI × Ty) :=
  match Γ t with
  | none => none
  | some i =>
    match i.k with
    | .slice e =>
      match Γ e with
      | none => none
      | some j =>
        match j.ty with
        | none => none
        | some T =>
          match Nat.beq T.size j.size, Nat.blt 0 T.size, Nat.blt 0 j.bytes with
          | true, true, true => some (e, j, T)
          | _, _, _ => none
    | _ => none

theorem elemTy_ok (hΓ : Γ.ok P) {t e : Nat} {j : TI} {T : Ty} (h : elemTy Γ t = some (e, j, T)) : P.underlying t = some (.slice e) ∧ j.ok P e ∧ T.size = j.size ∧ 0 < T.size ∧ 0 < j.bytes := by
  unfold elemTy at h
  split at h
  · cases h
  · rename_i i hi
    have h1 := (hΓ t i hi).1
    split at h
    · rename_i e' hk
      rw [hk] at h1
      split at h
      · cases h
      · rename_i j' hj
        split at h
        · cases h
        · rename_i T' hT
          split at h
          · rename_i h2 h3 h4
            simp only [Option.some.injEq, Prod.mk.injEq] at h
            obtain ⟨rfl, rfl, rfl⟩ := h
            exact ⟨h1, hΓ _ _ hj, Nat.eq_of_beq_eq_true h2, Nat.le_of_ble_eq_true h3, Nat.le_of_ble_eq_true h4⟩
          · cases h
    · cases h

/-! ### A slice written out -/

def buildSliceL (Γ : Gam) (t n : Nat) (parts : List (Nat × V0)) : Option (Nat × TI × (T : Ty) × List T.den) :=
  match elemTy Γ t with
  | none => none
  | some (e, j, T) =>
    match Nat.ble (n * j.size) 16777216, fillL (fun i => some (i * j.size, j.size)) (List.replicate n j.zero).flatten parts with
    | true, some ys =>
      match parseN T n ys with
      | some l => some (e, j, ⟨T, l⟩)
      | none => none
    | _, _ => none

theorem buildSliceL_ok (hΓ : Γ.ok P) {t n e : Nat} {j : TI} {T : Ty} {l : List T.den} {parts : List (Nat × V0)} {vparts : Array (Nat × Value)} (h : buildSliceL Γ t n parts = some (e, j, ⟨T, l⟩))
    (hp : All2 (fun (a : Nat × Value) (b : Nat × V0) => a.1 = b.1 ∧ b.2.rep w I ρ a.2) vparts.toList parts) :
    l.length = n ∧ 0 < T.size ∧ n * T.size ≤ 16777216 ∧ ∃ cs : Array Value, (Instr.buildSlice t n vparts).run P w = .ok (.slice (some ⟨w.heap.size, 0, none⟩) n n) (w.alloc (.cells cs e)) ∧ rowRep w I T cs.toList l := by
  unfold buildSliceL at h
  split at h
  · cases h
  · rename_i e' j' T' he
    obtain ⟨h1, h2, h3, h4, h5⟩ := elemTy_ok hΓ he
    split at h
    · rename_i ys hle hf
      have hle := Nat.le_of_ble_eq_true hle
      split at h
      · rename_i l' hl
        cases h
        obtain ⟨z, hz, hzs, hcl, _⟩ := TI.run_zero h2
        have hzr := constLeafs_rep hcl w I ρ
        have hmade : All2 (fun v x => v.oneCell' = true ∧ Leaf.rep w I ρ v x) (madeCells z.cells (n * j.size)).toList (List.replicate n j.zero).flatten := by
          rw [← hzs, made_flat]
          exact All2.flat hzr n
        obtain ⟨cs, h6, h7⟩ := fill_ok hf hp hmade
        obtain ⟨h8, h9⟩ := parseN_ok hl (h7.mono fun _ _ k => k.2)
        refine ⟨h8, h4, by rw [h3]; exact hle, cs, ?_, h9⟩
        have hn : ¬ (n * j.size > 2 ^ 24) := by omega
        by_cases h0 : n * j.size = 0
        · have hn0 : n = 0 := by
            rcases Nat.mul_eq_zero.1 h0 with h | h
            · exact h
            · omega
          subst hn0
          have hcells : madeCells z.cells (0 * j.size) = (Array.range (0 * j.size)).map ((#[] : Array Value)[· % (#[] : Array Value).size]!) := by simp [madeCells]
          rw [hcells] at h6
          simp only [Instr.buildSlice, Sem.run_bind, run_underlying h1, Result.andThen_ok, TI.run_sizeOf h2, hn, if_false, Sem.run_ite, if_pos h0, Sem.run_pure]
          rw [h6]
          rfl
        · simp only [Instr.buildSlice, Sem.run_bind, run_underlying h1, Result.andThen_ok, TI.run_sizeOf h2, hn, if_false, Sem.run_ite, h0, Sem.run_pure, hz]
          have : (Array.range (n * j.size)).map (z.cells[· % z.cells.size]!) = madeCells z.cells (n * j.size) := rfl
          rw [this, h6]
          rfl
      · cases h
    · cases h

/-- own: the slice is the function's own to write; else it is only read from here on. -/
def buildSliceD (Γ : Gam) (own : Bool) (id t n : Nat) (parts : List (Nat × V0)) : Option Delta :=
  match buildSliceL Γ t n parts with
  | some (_, _, ⟨T, l⟩) =>
    match own with
    | true => some ⟨[], oneS (.vec id), some (id, .arr T l), [id]⟩
    | false => some ⟨[], oneS (.isl T l), none, []⟩
  | none => none

theorem buildSliceD_ok (hΓ : Γ.ok P) (hI : ∀ b, I b → b < w.heap.size) {own : Bool} {id t n : Nat} {parts : List (Nat × V0)} {vparts : Array (Nat × Value)} {d : Delta} (h : buildSliceD Γ own id t n parts = some d)
    (hp : All2 (fun (a : Nat × Value) (b : Nat × V0) => a.1 = b.1 ∧ b.2.rep w I ρ a.2) vparts.toList parts) : Good P st I ρ w (Instr.buildSlice t n vparts) d := by
  unfold buildSliceD at h
  split at h
  · rename_i e j T l hl
    obtain ⟨h1, h2, h3, cs, h4, h5⟩ := buildSliceL_ok hΓ hl hp
    have hbig : l.length ≤ big := by
      rw [h1]; simp only [big]
      have := Nat.le_trans (Nat.le_mul_of_pos_right n h2) h3
      omega
    have hcs : cs.size = l.length * T.size := by simpa using h5.1
    have hseg : seg cs 0 (l.length * T.size) = cs.toList := by
      rw [← hcs, seg, List.drop_zero, List.take_of_length_le (by simp)]
    have hw1 : (w.alloc (.cells cs e)).heap[w.heap.size]? = some (.cells cs e (0, 0)) := heap_alloc_new w _
    have hkeep : ∀ b, I b → I b ∧ (w.alloc (.cells cs e)).heap[b]? = w.heap[b]? := fun b hb => ⟨hb, push_get (hI b hb)⟩
    split at h
    · cases h
      refine ⟨_, _, I, (fun c => if c = id then some ⟨w.heap.size, 0, T.size, n, n⟩ else ρ c), h4, ?_, ?_⟩
      · refine Step.alloc st I ρ w _ (.cells cs e) _ _ id _ ⟨w.heap.size, 0, T.size, n, n⟩ rfl hI rfl rfl rfl rfl ?_
        refine ⟨rfl, h1.symm, Nat.le_of_eq h1, hbig, cs, e, hw1, .inr (by simp only [Nat.zero_add]; rw [hcs, h1]; exact Nat.le_refl _), ?_, rowRep_one h5⟩
        intro i x hx
        have := (rowRep_seg (w := w.alloc (.cells cs e)) (I := I) (T := T) (cs := cs) (o := 0) (l := l) (by omega)).1 (by rw [hseg]; exact rowRep_mono hkeep h5) i x hx
        exact this
      · simp only [oneS, SV.rep, V0.rep, Leaf.rep, if_true]
        exact ⟨n, rfl, Nat.le_refl _, Nat.le_refl _⟩
    · cases h
      refine ⟨_, _, (fun b => I b ∨ b = w.heap.size), ρ, h4, Step.frozen st I ρ w _ (.cells cs e) _ _ rfl rfl rfl rfl, ?_⟩
      refine ⟨some ⟨w.heap.size, 0, none⟩, n, by rw [h1], by omega, hbig, rfl, .inr ⟨.inr rfl, cs, e, (0, 0), hw1, by simp only [Nat.zero_add]; omega, ?_⟩⟩
      intro i x hx
      have hk2 : ∀ b, I b → (I b ∨ b = w.heap.size) ∧ (w.alloc (.cells cs e)).heap[b]? = w.heap[b]? := fun b hb => ⟨.inl hb, push_get (hI b hb)⟩
      exact (rowRep_seg (w := w.alloc (.cells cs e)) (I := fun b => I b ∨ b = w.heap.size) (T := T) (cs := cs) (o := 0) (l := l) (by omega)).1 (by rw [hseg]; exact rowRep_mono hk2 h5) i x hx
  · cases h

/-! ### make -/

def makeSliceD (Γ : Gam) (same : Bool) (id t : Nat) (x y : Leaf) : Option Delta :=
  match elemTy Γ t with
  | none => none
  | some (_, j, T) =>
    match T.toDen j.zero, x, y with
    | some z, .int .i64 l, .int .i64 c =>
      some ⟨(match same with | true => [0 ≤ l ∧ l * j.bytes ≤ 140737488355328, l = c] | false => [0 ≤ l ∧ l ≤ c ∧ c * j.bytes ≤ 140737488355328]), oneS (.vec id), some (id, .arr T (List.replicate l.toNat z)), [id]⟩
    | _, _, _ => none

theorem makeSliceD_ok (hΓ : Γ.ok P) (hI : ∀ b, I b → b < w.heap.size) {same : Bool} {id t : Nat} {x y : Leaf} {u v : Value} {d : Delta} (h : makeSliceD Γ same id t x y = some d) (hob : ∀ p ∈ d.ob, p)
    (hx : x.rep w I ρ u) (hy : y.rep w I ρ v) : Good P st I ρ w (Instr.makeSlice t u v) d := by
  unfold makeSliceD at h
  split at h
  · cases h
  · rename_i e j T he
    obtain ⟨h1, h2, h3, h4, h5⟩ := elemTy_ok hΓ he
    split at h
    · rename_i z l c hz
      cases h
      have hob : 0 ≤ l ∧ l ≤ c ∧ c * j.bytes ≤ 140737488355328 := by
        cases same with
        | true =>
          have h1 := hob _ (List.mem_cons_self ..)
          have h2 := hob (l = c) (by simp)
          subst h2
          exact ⟨h1.1, Int.le_refl _, h1.2⟩
        | false => exact hob _ (by simp)
      obtain ⟨hl0, hlc, hcb⟩ := hob
      obtain ⟨rfl, hlr⟩ := hx
      obtain ⟨rfl, hcr⟩ := hy
      obtain ⟨_, inf, zv, hi1, hi2, hi3, hi4, hi5, hi6, _⟩ := h2
      rw [inR_i64] at hcr
      have hrun := run_make (P := P) w t e inf zv h1 hi1 hi4 .i64 .i64 l c hl0 hlc (by rw [hi3, Int.mul_comm]; omega) hcr.2
      have hzr := Ty.toDen_rep (w := w) (I := I) (ρ := ρ) hz ((constLeafs_rep hi5 w I ρ).mono fun _ _ k => k.2)
      rw [hi2, ← hi6] at hrun
      have hsz : zv.cells.size = T.size := by rw [hi6, h3]
      have hrow := rowRep_made (T := T) hzr c.toNat
      rw [← made_flat] at hrow
      have hrl := rowRep_take l.toNat (by simp; omega) hrow
      have hbl : l.toNat ≤ big := by
        have hb1 : (1 : Int) ≤ j.bytes := by omega
        have h7 : c * 1 ≤ c * j.bytes := Int.mul_le_mul_of_nonneg_left hb1 (by omega)
        simp only [big]; omega
      refine ⟨_, _, I, (fun x => if x = id then some ⟨w.heap.size, 0, T.size, c.toNat, l.toNat⟩ else ρ x), hrun, ?_, ?_⟩
      · refine Step.alloc st I ρ w _ (.cells (madeCells zv.cells (c.toNat * zv.cells.size)) e) _ _ id _ ⟨w.heap.size, 0, T.size, c.toNat, l.toNat⟩ rfl hI rfl rfl rfl rfl ?_
        have hkeep : ∀ b, I b → I b ∧ (w.alloc (.cells (madeCells zv.cells (c.toNat * zv.cells.size)) e)).heap[b]? = w.heap[b]? := fun b hb => ⟨hb, push_get (hI b hb)⟩
        refine ⟨rfl, by simp, by simp; omega, by simpa using hbl, madeCells zv.cells (c.toNat * zv.cells.size), e, heap_alloc_new w _, .inr (by simp only [Nat.zero_add]; rw [size_madeCells, hsz]; exact Nat.le_refl _), ?_, ?_⟩
        · intro i y hy
          have hil : i < l.toNat := by
            have := (List.getElem?_eq_some_iff.1 hy).1; simpa using this
          have hy' : y = z := by simpa [List.getElem?_replicate, hil] using hy.symm
          subst hy'
          have := hrow.2 i y (by simp [List.getElem?_replicate]; omega)
          refine Ty.rep_mono hkeep T ?_
          simpa [seg] using this
        · exact rowRep_one hrow
      · simp only [oneS, SV.rep, V0.rep, Leaf.rep, if_true]
        exact ⟨c.toNat, rfl, Nat.le_refl _, by omega⟩
    · cases h

/-! ### x[lo:hi] -/

def cutLeaf (Γ : Gam) (st : Sym) (t : Nat) (x : Leaf) (lo hi : Option Int) : Option (List Prop × Leaf) :=
  match Γ t with
  | none => none
  | some i =>
    match i.k, x with
    | .scal .string, .str s =>
      match lo, hi with
      | some a, some b => some ([0 ≤ a ∧ a ≤ b ∧ b ≤ s.size], .str (s.extract a.toNat b.toNat))
      | some a, none => some ([0 ≤ a ∧ a ≤ s.size], .str (s.extract a.toNat s.size))
      | none, some b => some ([0 ≤ b ∧ b ≤ s.size], .str (s.extract 0 b.toNat))
      | none, none => none
    | .slice e, .isl T l =>
      match Γ e with
      | none => none
      | some j =>
        match Nat.beq T.size j.size with
        | true =>
          match lo, hi with
          | some a, some b => some ([0 ≤ a ∧ a ≤ b ∧ b ≤ l.length], .isl T ((l.take b.toNat).drop a.toNat))
          | some a, none => some ([0 ≤ a ∧ a ≤ l.length], .isl T (l.drop a.toNat))
          | none, some b => some ([0 ≤ b ∧ b ≤ l.length], .isl T (l.take b.toNat))
          | none, none => some ([], .isl T l)
        | false => none
    | .slice e, .vec c =>
      match st.h c, Γ e with
      | some (.arr T l), some j =>
        match Nat.beq T.size j.size with
        | true =>
          match lo, hi with
          | some a, some b => some ([0 ≤ a ∧ a ≤ b ∧ b ≤ l.length], .slc c a.toNat (b.toNat - a.toNat))
          | some a, none => some ([0 ≤ a ∧ a ≤ l.length], .slc c a.toNat (l.length - a.toNat))
          | none, some b => some ([0 ≤ b ∧ b ≤ l.length], .slc c 0 b.toNat)
          | none, none => some ([], .slc c 0 l.length)
        | false => none
      | _, _ => none
    | .slice e, .slc c off len =>
      match st.h c, Γ e with
      | some (.arr T _), some j =>
        match Nat.beq T.size j.size with
        | true =>
          match lo, hi with
          | some a, some b => some ([0 ≤ a ∧ a ≤ b ∧ b ≤ len], .slc c (off + a.toNat) (b.toNat - a.toNat))
          | some a, none => some ([0 ≤ a ∧ a ≤ len], .slc c (off + a.toNat) (len - a.toNat))
          | none, some b => some ([0 ≤ b ∧ b ≤ len], .slc c off b.toNat)
          | none, none => some ([], .slc c off len)
        | false => none
      | _, _ => none
    | .slice e, .nilsl =>
      match Γ e with
      | none => none
      | some _ =>
        match lo, hi with
        | some a, some b => some ([a = 0 ∧ b = 0], .nilsl)
        | some a, none => some ([a = 0], .nilsl)
        | none, some b => some ([b = 0], .nilsl)
        | none, none => some ([], .nilsl)
    | _, _ => none

def optInt : Option Int → Option Value
  | none => none
  | some a => some (.int .i64 a)

/-- The bounds that a cut has. -/
def cutLo (lo : Option Int) : Int := lo.getD 0
def cutHi (hi : Option Int) (len : Nat) : Int := hi.getD len

theorem run_bounds {isSlice : Bool} {len cap : Nat} {lo hi : Option Int} (h1 : 0 ≤ cutLo lo) (h2 : cutLo lo ≤ cutHi hi len) (h3 : cutHi hi len ≤ len) (h4 : len ≤ cap) :
    (Instr.sliceBounds isSlice len cap (optInt lo) (optInt hi) none).run P w = .ok ((cutLo lo).toNat, (cutHi hi len).toNat, cap) w := by
  cases lo with
  | none =>
    cases hi with
    | none => simp [Instr.sliceBounds, optInt, cutLo, cutHi]
    | some b =>
      simp only [cutLo, cutHi, Option.getD] at *
      simp [Instr.sliceBounds, optInt, cutLo, cutHi, Instr.sliceBound, asIntOf, show 0 ≤ b by omega, show b ≤ (cap : Int) by omega]
  | some a =>
    cases hi with
    | none =>
      simp only [cutLo, cutHi, Option.getD] at *
      simp [Instr.sliceBounds, optInt, cutLo, cutHi, Instr.sliceBound, asIntOf, h1, h2]
    | some b =>
      simp only [cutLo, cutHi, Option.getD] at *
      simp [Instr.sliceBounds, optInt, cutLo, cutHi, Instr.sliceBound, asIntOf, h1, show 0 ≤ b by omega, show b ≤ (cap : Int) by omega]
      intro h; omega

theorem run_cut_slice {t e : Nat} {j : TI} (ht : P.underlying t = some (.slice e)) (hj : j.ok P e) {ad : Option Addr} {len cap : Nat} {lo hi : Option Int}
    (h1 : 0 ≤ cutLo lo) (h2 : cutLo lo ≤ cutHi hi len) (h3 : cutHi hi len ≤ len) (h4 : len ≤ cap) :
    (Instr.sliceAt t (.slice ad len cap) (optInt lo) (optInt hi) none).run P w =
      .ok (.slice (if cap = (cutLo lo).toNat then ad else ad.map (·.add ((cutLo lo).toNat * j.size))) ((cutHi hi len).toNat - (cutLo lo).toNat) (cap - (cutLo lo).toNat)) w := by
  have hb := run_bounds (P := P) (w := w) (isSlice := true) h1 h2 h3 h4
  simp only [Instr.sliceAt, Sem.run_bind, run_underlying ht, Result.andThen_ok, Instr.slice, hb, TI.run_sizeOf hj, Sem.run_pure]

theorem slc_cut {L : Loc} {c : Nat} (hL : ρ c = some L) {off len cap o sz : Nat} {lo hi : Option Int} (hsz : sz = L.sz) (h1 : 0 ≤ cutLo lo) (h2 : cutLo lo ≤ cutHi hi len) (h3 : cutHi hi len ≤ len)
    (hc1 : off + cap ≤ L.cap) (hc2 : len ≤ cap) (hc3 : off + len ≤ L.len) (hc4 : cap = 0 ∨ o = L.base + off * L.sz) :
    (Leaf.slc c (off + (cutLo lo).toNat) ((cutHi hi len).toNat - (cutLo lo).toNat)).rep w I ρ
      (.slice (if cap = (cutLo lo).toNat then some ⟨L.b, o, none⟩ else (some (⟨L.b, o, none⟩ : Addr)).map (·.add ((cutLo lo).toNat * sz))) ((cutHi hi len).toNat - (cutLo lo).toNat) (cap - (cutLo lo).toNat)) := by
  simp only [Leaf.rep, hL]
  by_cases hcap : cap = (cutLo lo).toNat
  · rw [if_pos hcap]
    exact ⟨cap - (cutLo lo).toNat, o, rfl, by omega, by omega, by omega, .inl (by omega)⟩
  · rw [if_neg hcap]
    have ho : o = L.base + off * L.sz := by
      rcases hc4 with h | h
      · omega
      · exact h
    refine ⟨cap - (cutLo lo).toNat, o + (cutLo lo).toNat * sz, by simp [add_lit], by omega, by omega, by omega, .inr ?_⟩
    rw [ho, hsz, Nat.add_mul]; omega

theorem cut_ok (hΓ : Γ.ok P) (hch : ∀ c k, st.h c = some k → k.rep w I ρ (ρ c)) {t : Nat} {x y : Leaf} {lo hi : Option Int} {v : Value} {ob : List Prop}
    (h : cutLeaf Γ st t x lo hi = some (ob, y)) (hob : ∀ p ∈ ob, p) (hx : x.rep w I ρ v) : ∃ u, (Instr.sliceAt t v (optInt lo) (optInt hi) none).run P w = .ok u w ∧ y.rep w I ρ u := by
  unfold cutLeaf at h
  split at h
  · cases h
  · rename_i i hi'
    have h1 := (hΓ t i hi').1
    split at h
    · rename_i s hk
      rw [hk] at h1
      obtain ⟨rfl, hs⟩ := hx
      have fin : ∀ (y' : Leaf), (0 ≤ cutLo lo ∧ cutLo lo ≤ cutHi hi s.size ∧ cutHi hi s.size ≤ s.size) → y' = .str (s.extract (cutLo lo).toNat (cutHi hi s.size).toNat) → ∃ u, (Instr.sliceAt t (.string s) (optInt lo) (optInt hi) none).run P w = .ok u w ∧ y'.rep w I ρ u := by
        intro y' hb hy
        subst hy
        have hb' := run_bounds (P := P) (w := w) (isSlice := false) hb.1 hb.2.1 hb.2.2 (Nat.le_refl s.size)
        refine ⟨.string (s.extract (cutLo lo).toNat (cutHi hi s.size).toNat), ?_, rfl, ?_⟩
        · simp only [Instr.sliceAt, Sem.run_bind, run_underlying h1.1, Result.andThen_ok, Instr.slice, Option.isSome_none, Bool.false_eq_true, if_false, hb', Sem.run_pure]
        · rw [ByteArray.size_extract]; omega
      split at h <;> (try (cases h; done)) <;> (simp only [Option.some.injEq, Prod.mk.injEq] at h; obtain ⟨rfl, rfl⟩ := h; have hb := hob _ (List.mem_singleton.2 rfl)) <;>
        exact fin _ (by simp only [cutLo, cutHi, Option.getD]; omega) (by simp [cutLo, cutHi])
    · rename_i e T l hk
      rw [hk] at h1
      split at h
      · cases h
      · rename_i j hj
        have hj := hΓ e j hj
        split at h
        · rename_i hsz
          have hsz := Nat.eq_of_beq_eq_true hsz
          have fin : ∀ (y' : Leaf), (0 ≤ cutLo lo ∧ cutLo lo ≤ cutHi hi l.length ∧ cutHi hi l.length ≤ l.length) → y' = .isl T ((l.take (cutHi hi l.length).toNat).drop (cutLo lo).toNat) →
              ∃ u, (Instr.sliceAt t v (optInt lo) (optInt hi) none).run P w = .ok u w ∧ y'.rep w I ρ u := by
            intro y' hb hy
            subst hy
            obtain ⟨ad, cap, hv, h2, h3, hm⟩ := hx
            simp only [List.cons.injEq, and_true] at hv
            subst hv
            refine ⟨_, run_cut_slice h1 hj hb.1 hb.2.1 hb.2.2 h2, ?_⟩
            have hlen : ((l.take (cutHi hi l.length).toNat).drop (cutLo lo).toNat).length = (cutHi hi l.length).toNat - (cutLo lo).toNat := by simp; omega
            refine ⟨(if cap = (cutLo lo).toNat then ad else ad.map (·.add ((cutLo lo).toNat * j.size))), cap - (cutLo lo).toNat, by rw [hlen], by rw [hlen]; omega, by rw [hlen]; omega, ?_⟩
            cases ad with
            | none =>
              obtain ⟨rfl, rfl⟩ := hm
              simp
            | some p =>
              obtain ⟨hsp, hm⟩ := hm
              obtain ⟨b, o, sp⟩ := p
              simp only at hsp
              subst hsp
              by_cases hcap : cap = (cutLo lo).toNat
              · rw [if_pos hcap]
                refine ⟨rfl, .inl (List.eq_nil_of_length_eq_zero ?_)⟩
                rw [hlen]; omega
              · rw [if_neg hcap]
                simp only [Option.map_some, add_lit]
                refine ⟨trivial, ?_⟩
                rcases hm with rfl | ⟨hI, c, el, fr, hg, hfit, hall⟩
                · left; simp
                · right
                  refine ⟨hI, c, el, fr, hg, ?_, ?_⟩
                  · rw [hlen, ← hsz, Nat.add_assoc, ← Nat.add_mul]
                    have : ((cutLo lo).toNat + ((cutHi hi l.length).toNat - (cutLo lo).toNat)) * T.size ≤ l.length * T.size := Nat.mul_le_mul_right _ (by omega)
                    simp only at hfit; omega
                  · intro k x hx
                    rw [List.getElem?_drop, List.getElem?_take] at hx
                    split at hx
                    · have := hall _ x hx
                      rw [← hsz, Nat.add_assoc, ← Nat.add_mul]
                      exact this
                    · cases hx
          split at h <;> (try (cases h; done)) <;> (simp only [Option.some.injEq, Prod.mk.injEq] at h; obtain ⟨rfl, rfl⟩ := h)
          · have hb := hob _ (List.mem_singleton.2 rfl)
            exact fin _ (by simp only [cutLo, cutHi, Option.getD]; omega) (by simp [cutLo, cutHi])
          · have hb := hob _ (List.mem_singleton.2 rfl)
            exact fin _ (by simp only [cutLo, cutHi, Option.getD]; omega) (by simp [cutLo, cutHi])
          · have hb := hob _ (List.mem_singleton.2 rfl)
            exact fin _ (by simp only [cutLo, cutHi, Option.getD]; omega) (by simp [cutLo, cutHi])
          · exact fin _ (by simp only [cutLo, cutHi, Option.getD]; omega) (by simp [cutLo, cutHi])
        · cases h
    · rename_i e c hk
      rw [hk] at h1
      split at h
      · rename_i T l j hc hj
        have hj := hΓ e j hj
        split at h
        · rename_i hsz
          have hsz := Nat.eq_of_beq_eq_true hsz
          have hr := hch c _ hc
          have fin : ∀ (y' : Leaf), (0 ≤ cutLo lo ∧ cutLo lo ≤ cutHi hi l.length ∧ cutHi hi l.length ≤ l.length) → y' = .slc c (cutLo lo).toNat ((cutHi hi l.length).toNat - (cutLo lo).toNat) →
              ∃ u, (Instr.sliceAt t v (optInt lo) (optInt hi) none).run P w = .ok u w ∧ y'.rep w I ρ u := by
            intro y' hb hy
            subst hy
            simp only [Leaf.rep] at hx
            cases hL : ρ c with
            | none =>
              rw [hL] at hx hr
              have hl : l = [] := hr
              subst hl
              subst hx
              refine ⟨_, run_cut_slice h1 hj hb.1 hb.2.1 hb.2.2 (Nat.zero_le _), ?_⟩
              simp only [List.length_nil] at hb
              have e1 : (cutLo lo).toNat = 0 := by omega
              have e2 : (cutHi hi 0).toNat = 0 := by omega
              simp [Leaf.rep, hL, e1, e2]
            | some L =>
              rw [hL] at hx hr
              obtain ⟨cap, rfl, hc1, hc2⟩ := hx
              obtain ⟨hz, hlen, hcap, _⟩ := hr
              rw [← hlen] at hb ⊢
              refine ⟨_, run_cut_slice h1 hj hb.1 hb.2.1 hb.2.2 hc2, ?_⟩
              have := slc_cut (w := w) (I := I) hL (off := 0) (o := L.base) (sz := j.size) (by rw [hz, hsz]) hb.1 hb.2.1 hb.2.2 (by omega) hc2 (by omega) (.inr (by omega))
              simpa using this
          split at h <;> (try (cases h; done)) <;> (simp only [Option.some.injEq, Prod.mk.injEq] at h; obtain ⟨rfl, rfl⟩ := h)
          · have hb := hob _ (List.mem_singleton.2 rfl)
            exact fin _ (by simp only [cutLo, cutHi, Option.getD]; omega) (by simp [cutLo, cutHi])
          · have hb := hob _ (List.mem_singleton.2 rfl)
            exact fin _ (by simp only [cutLo, cutHi, Option.getD]; omega) (by simp [cutLo, cutHi])
          · have hb := hob _ (List.mem_singleton.2 rfl)
            exact fin _ (by simp only [cutLo, cutHi, Option.getD]; omega) (by simp [cutLo, cutHi])
          · exact fin _ (by simp only [cutLo, cutHi, Option.getD]; omega) (by simp [cutLo, cutHi])
        · cases h
      · cases h
    · rename_i e c off len hk
      rw [hk] at h1
      split at h
      · rename_i T l j hc hj
        have hj := hΓ e j hj
        split at h
        · rename_i hsz
          have hsz := Nat.eq_of_beq_eq_true hsz
          have hr := hch c _ hc
          have fin : ∀ (y' : Leaf), (0 ≤ cutLo lo ∧ cutLo lo ≤ cutHi hi len ∧ cutHi hi len ≤ len) → y' = .slc c (off + (cutLo lo).toNat) ((cutHi hi len).toNat - (cutLo lo).toNat) →
              ∃ u, (Instr.sliceAt t v (optInt lo) (optInt hi) none).run P w = .ok u w ∧ y'.rep w I ρ u := by
            intro y' hb hy
            subst hy
            simp only [Leaf.rep] at hx
            cases hL : ρ c with
            | none =>
              rw [hL] at hx
              obtain ⟨rfl, rfl, rfl⟩ := hx
              refine ⟨_, run_cut_slice h1 hj hb.1 hb.2.1 hb.2.2 (Nat.zero_le _), ?_⟩
              have e1 : (cutLo lo).toNat = 0 := by omega
              have e2 : (cutHi hi 0).toNat = 0 := by omega
              simp [Leaf.rep, hL, e1, e2]
            | some L =>
              rw [hL] at hx hr
              obtain ⟨cap, o, rfl, hc1, hc2, hc3, hc4⟩ := hx
              obtain ⟨hz, hlen, hcap, _⟩ := hr
              refine ⟨_, run_cut_slice h1 hj hb.1 hb.2.1 hb.2.2 hc2, ?_⟩
              exact slc_cut (w := w) (I := I) hL (by rw [hz, hsz]) hb.1 hb.2.1 hb.2.2 hc1 hc2 hc3 hc4
          split at h <;> (try (cases h; done)) <;> (simp only [Option.some.injEq, Prod.mk.injEq] at h; obtain ⟨rfl, rfl⟩ := h)
          · have hb := hob _ (List.mem_singleton.2 rfl)
            exact fin _ (by simp only [cutLo, cutHi, Option.getD]; omega) (by simp [cutLo, cutHi])
          · have hb := hob _ (List.mem_singleton.2 rfl)
            exact fin _ (by simp only [cutLo, cutHi, Option.getD]; omega) (by simp [cutLo, cutHi])
          · have hb := hob _ (List.mem_singleton.2 rfl)
            exact fin _ (by simp only [cutLo, cutHi, Option.getD]; omega) (by simp [cutLo, cutHi])
          · exact fin _ (by simp only [cutLo, cutHi, Option.getD]; omega) (by simp [cutLo, cutHi])
        · cases h
      · cases h
    · rename_i e hk
      rw [hk] at h1
      split at h
      · cases h
      rename_i j hj
      have hj := hΓ e j hj
      have fin : ∀ (y' : Leaf), (cutLo lo = 0 ∧ cutHi hi 0 = 0) → y' = .nilsl → ∃ u, (Instr.sliceAt t v (optInt lo) (optInt hi) none).run P w = .ok u w ∧ y'.rep w I ρ u := by
        intro y' hb hy
        subst hy
        rw [show v = _ from hx]
        have hb' := run_bounds (P := P) (w := w) (isSlice := true) (len := 0) (cap := 0) (lo := lo) (hi := hi) (by omega) (by omega) (by omega) (Nat.le_refl 0)
        have e1 : (cutLo lo).toNat = 0 := by omega
        have e2 : (cutHi hi 0).toNat = 0 := by omega
        rw [e1, e2] at hb'
        exact ⟨.slice none 0 0, by simp [Instr.sliceAt, run_underlying h1, Instr.slice, hb', TI.run_sizeOf hj], rfl⟩
      split at h <;> (try (cases h; done)) <;> (simp only [Option.some.injEq, Prod.mk.injEq] at h; obtain ⟨rfl, rfl⟩ := h)
      · have hb := hob _ (List.mem_singleton.2 rfl)
        exact fin _ hb rfl
      · have hb := hob _ (List.mem_singleton.2 rfl)
        exact fin _ ⟨hb, rfl⟩ rfl
      · have hb := hob _ (List.mem_singleton.2 rfl)
        exact fin _ ⟨rfl, hb⟩ rfl
      · exact fin _ ⟨rfl, rfl⟩ rfl
    · cases h

end
end Go.Sx
