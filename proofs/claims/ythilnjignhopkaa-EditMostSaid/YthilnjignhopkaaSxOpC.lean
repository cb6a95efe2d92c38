/- Operations, third part: new variables, structs, slices that are made, cut and appended to, lengths. Conditions: the table of types is true of the program. -/
import Derived.Test.YthilnjignhopkaaSxOpB
set_option linter.unusedSimpArgs false
set_option linter.unusedVariables false
namespace Go.Sx
open Go

section
variable {P : Program} {Γ : Gam} {st : Sym} {w : World} {I : Nat → Prop} {ρ : Rho}

/-- None of some symbolic cells speaks of chunk c. -/
def noneHas (c : Nat) : List Leaf → Bool
  | [] => true
  | x :: xs =>
    match x.has c with
    | true => false
    | false => noneHas c xs

theorem noneHas_mem {c : Nat} : ∀ {xs : List Leaf}, noneHas c xs = true → ∀ x ∈ xs, x.has c = false
  | [], _, _, h => by simp at h
  | y :: ys, h, x, hx => by
    unfold noneHas at h
    split at h
    · cases h
    · rename_i hy
      rcases List.mem_cons.1 hx with e | e
      · subst e; exact hy
      · exact noneHas_mem h x e

theorem All2.mono_mem {α β : Type} {R S : α → β → Prop} : ∀ {as : List α} {bs : List β}, (∀ a, ∀ b ∈ bs, R a b → S a b) → All2 R as bs → All2 S as bs
  | [], [], _, _ => trivial
  | _ :: _, b :: _, h, k => ⟨h _ b (by simp) k.1, All2.mono_mem (fun a c hc => h a c (by simp [hc])) k.2⟩
  | [], _ :: _, _, k => k.elim
  | _ :: _, [], _, k => k.elim

/-- The cells of a new block, spoken of behind its making. -/
theorem leafs_new {w1 : World} {o : Obj} {id : Nat} {L : Option Loc} (hi : ∀ b, I b → b < w.heap.size) (h1 : w1.heap = w.heap.push o) {cs : List Value} {xs : List Leaf} (hf : noneHas id xs = true)
    (h : All2 (fun v x => v.oneCell' = true ∧ Leaf.rep w I ρ v x) cs xs) : All2 (fun v x => v.oneCell' = true ∧ Leaf.rep w1 I (fun c => if c = id then L else ρ c) v x) cs xs := by
  refine All2.mono_mem (fun v x hx k => ⟨k.1, ?_⟩) h
  refine Leaf.rep_mono (fun b hb => ⟨hb, by rw [h1]; exact push_get (hi b hb)⟩) (fun c hc => ?_) k.2
  have : c ≠ id := fun e => by
    have := noneHas_mem hf x hx
    rw [e, this] at hc; cases hc
  simp [this]

def allocD (i : TI) (id : Nat) : Option Delta :=
  match noneHas id i.zero with
  | true => some ⟨[], oneS (.ref id 0), some (id, .cells i.zero), [id]⟩
  | false => none

theorem alloc_ok {i : TI} {t id : Nat} {d : Delta} (hi : i.ok P t) (hI : ∀ b, I b → b < w.heap.size) (h : allocD i id = some d) : Good P st I ρ w (Instr.alloc t true (.tuple #[])) d := by
  unfold allocD at h
  split at h
  · rename_i hf
    cases h
    obtain ⟨z, hz, hsz, hcl, _⟩ := TI.run_zero hi
    refine ⟨.pointer (some ⟨w.heap.size, 0, none⟩), w.alloc (.cells z.cells t), I, (fun c => if c = id then some ⟨w.heap.size, 0, 0, 0, 0⟩ else ρ c), ?_, ?_, ?_⟩
    · simp only [Instr.alloc, Sem.run_bind, hz, Result.andThen_ok, newVar, newRow, run_newObj, Sem.run_pure, World.alloc]
    · refine Step.alloc st I ρ w _ (.cells z.cells t) _ _ id _ ⟨w.heap.size, 0, 0, 0, 0⟩ rfl hI rfl rfl rfl rfl ?_
      refine ⟨_, z.cells, t, rfl, rfl, heap_alloc_new w _, ?_⟩
      exact leafs_new hI rfl hf (constLeafs_rep hcl w I ρ)
    · exact ⟨⟨w.heap.size, 0, 0, 0, 0⟩, by simp, rfl⟩
  · cases h

def boxD (id : Nat) (x : V0) : Option Delta :=
  match noJunk x.leafs, noneHas id x.leafs with
  | true, true => some ⟨[], oneS (.ref id 0), some (id, .cells x.leafs), [id]⟩
  | _, _ => none

theorem box_ok {t id : Nat} {x : V0} {v : Value} {d : Delta} (hI : ∀ b, I b → b < w.heap.size) (h : boxD id x = some d) (hx : x.rep w I ρ v) : Good P st I ρ w (Instr.box t v) d := by
  unfold boxD at h
  split at h
  · rename_i hj hf
    cases h
    refine ⟨.pointer (some ⟨w.heap.size, 0, none⟩), w.alloc (.cells v.cells t), I, (fun c => if c = id then some ⟨w.heap.size, 0, 0, 0, 0⟩ else ρ c), ?_, ?_, ?_⟩
    · simp only [Instr.box, Sem.run_bind, Result.andThen_ok, newVar, newRow, run_newObj, Sem.run_pure, World.alloc]
    · refine Step.alloc st I ρ w _ (.cells v.cells t) _ _ id _ ⟨w.heap.size, 0, 0, 0, 0⟩ rfl hI rfl rfl rfl rfl ?_
      exact ⟨_, v.cells, t, rfl, rfl, heap_alloc_new w _, leafs_new hI rfl hf (V0.cells_rep hj hx)⟩
    · exact ⟨⟨w.heap.size, 0, 0, 0, 0⟩, by simp, rfl⟩
  · cases h

/-! ### Structs and arrays put together -/

def fillL (place : Nat → Option (Nat × Nat)) : List Leaf → List (Nat × V0) → Option (List Leaf)
  | cells, [] => some cells
  | cells, (i, x) :: rest =>
    match place i with
    | none => none
    | some (off, size) =>
      match noJunk x.leafs, Nat.beq x.leafs.length size, Nat.ble (off + size) cells.length with
      | true, true, true => fillL place (splice cells off x.leafs) rest
      | _, _, _ => none

theorem foldl_set (off : Nat) : ∀ (vs : List Value) (k : Nat) (cs : Array Value), off + k + vs.length ≤ cs.size →
    ((vs.zipIdx k).foldl (fun (cs : Array Value) (p : Value × Nat) => cs.setIfInBounds (off + p.2) p.1) cs).toList = cs.toList.take (off + k) ++ vs ++ cs.toList.drop (off + k + vs.length)
  | [], k, cs, _ => by simp
  | v :: vs, k, cs, h => by
    simp only [List.length_cons] at h
    rw [List.zipIdx_cons, List.foldl_cons, foldl_set off vs (k + 1) _ (by simp; omega)]
    have hl : off + k < cs.toList.length := by simp; omega
    have := list_seg_step cs.toList (off + k) v vs (by simp; omega)
    simpa [Array.toList_setIfInBounds, Nat.add_assoc] using this

theorem fill_ok {place : Nat → Option (Nat × Nat)} : ∀ {parts : List (Nat × V0)} {vparts : List (Nat × Value)} {cells ys : List Leaf} {cs : Array Value}, fillL place cells parts = some ys →
    All2 (fun (a : Nat × Value) (b : Nat × V0) => a.1 = b.1 ∧ b.2.rep w I ρ a.2) vparts parts → All2 (fun v x => v.oneCell' = true ∧ Leaf.rep w I ρ v x) cs.toList cells →
    ∃ cs', Instr.fill place cs vparts = some cs' ∧ All2 (fun v x => v.oneCell' = true ∧ Leaf.rep w I ρ v x) cs'.toList ys
  | [], [], cells, ys, cs, h, _, hc => by
    simp only [fillL, Option.some.injEq] at h; subst h
    exact ⟨cs, rfl, hc⟩
  | (i, x) :: rest, (j, v) :: vrest, cells, ys, cs, h, hp, hc => by
    obtain ⟨⟨e, hx⟩, hp⟩ := hp
    simp only at e hx
    subst e
    unfold fillL at h
    split at h
    · cases h
    · rename_i off size hpl
      split at h
      · rename_i hj hsz hle
        have hsz := Nat.eq_of_beq_eq_true hsz
        have hle := Nat.le_of_ble_eq_true hle
        have hcells := V0.cells_rep hj hx
        have hvl : v.cells.toList.length = x.leafs.length := hcells.length
        have hcl := hc.length
        simp only [Array.length_toList] at hvl hcl
        have hfit : off + 0 + v.cells.toList.length ≤ cs.size := by simp; omega
        have hset := foldl_set off v.cells.toList 0 cs hfit
        obtain ⟨cs', h1, h2⟩ := fill_ok (cs := (v.cells.toList.zipIdx.foldl (fun (cs : Array Value) (p : Value × Nat) => cs.setIfInBounds (off + p.2) p.1) cs)) h hp (by
          rw [hset, Nat.add_zero]
          exact All2.splice off hc hcells)
        refine ⟨cs', ?_, h2⟩
        unfold Instr.fill
        simp only [hpl]
        rw [if_neg (by simp; omega)]
        rw [← h1]
        congr 1
        rw [← Array.foldl_toList, Array.toList_zipIdx]
      · cases h
  | [], _ :: _, _, _, _, _, h, _ => h.elim
  | _ :: _, [], _, _, _, _, h, _ => h.elim

def placesOf (Γ : Gam) : List (Nat × Nat) → Option (List (Nat × Nat))
  | [] => some []
  | (o, t) :: fs =>
    match Γ t, placesOf Γ fs with
    | some j, some ps => some ((o, j.size) :: ps)
    | _, _ => none

theorem run_places (hΓ : Γ.ok P) : ∀ (fields : List Field) {ps : List (Nat × Nat)}, placesOf Γ (fields.map fun f => (f.offset, f.type)) = some ps →
    (fields.mapM (m := Sem) fun f => do pure (f.offset, ← sizeOf f.type)).run P w = .ok ps w
  | [], ps, h => by simp only [List.map_nil, placesOf, Option.some.injEq] at h; subst h; rfl
  | f :: fs, ps, h => by
    simp only [List.map_cons, placesOf] at h
    split at h
    · rename_i j ps' hj hps
      cases h
      have ih := run_places hΓ fs hps
      simp only [List.mapM_cons, Sem.run_bind, TI.run_sizeOf (hΓ _ _ hj), Result.andThen_ok, Sem.run_pure, ih]
    · cases h

def buildD (Γ : Gam) (t : Nat) (parts : List (Nat × V0)) : Option V0 :=
  match Γ t with
  | none => none
  | some i =>
    match i.k with
    | .strct fs =>
      match placesOf Γ fs with
      | some ps =>
        match fillL (fun n => ps[n]?) i.zero parts with
        | some ys => some (.agg ys)
        | none => none
      | none => none
    | .array _ e =>
      match Γ e with
      | some j =>
        match fillL (fun n => some (n * j.size, j.size)) i.zero parts with
        | some ys => some (.agg ys)
        | none => none
      | none => none
    | _ => none

theorem build_ok (hΓ : Γ.ok P) {t : Nat} {parts : List (Nat × V0)} {vparts : Array (Nat × Value)} {x : V0} (h : buildD Γ t parts = some x)
    (hp : All2 (fun (a : Nat × Value) (b : Nat × V0) => a.1 = b.1 ∧ b.2.rep w I ρ a.2) vparts.toList parts) : ∃ v, (Instr.build t vparts).run P w = .ok v w ∧ x.rep w I ρ v := by
  unfold buildD at h
  split at h
  · cases h
  · rename_i i hi
    have hi := hΓ t i hi
    obtain ⟨z, hz, hsz, hcl, _⟩ := TI.run_zero hi
    have h1 := hi.1
    have hzr := constLeafs_rep hcl w I ρ
    split at h
    · rename_i fs hk
      rw [hk] at h1
      obtain ⟨fields, h1, h2⟩ := h1
      split at h
      · rename_i ps hps
        split at h
        · rename_i ys hf
          cases h
          rw [← h2] at hps
          have hrun := run_places (w := w) hΓ fields.toList hps
          obtain ⟨cs', h3, h4⟩ := fill_ok hf hp hzr
          refine ⟨.agg cs', ?_, cs', rfl, h4.mono fun _ _ k => k.2⟩
          have hplace : (fun n : Nat => (ps.toArray[n]? : Option (Nat × Nat))) = fun n : Nat => ps[n]? := by funext n; simp
          have hmap : (fields.mapM (m := Sem) fun f => do pure (f.offset, ← sizeOf f.type)).run P w = .ok ps.toArray w := by
            rw [← Array.toArray_toList (xs := fields)]
            rw [List.mapM_toArray, Sem.run_map, hrun]
            rfl
          simp only [Instr.build, Sem.run_bind, hz, Result.andThen_ok, run_underlying h1, hmap]
          have h3' : Instr.fill (fun x => ps.toArray[x]?) z.cells vparts.toList = some cs' := by rw [hplace]; exact h3
          rw [h3']
          rfl
        · cases h
      · cases h
    · rename_i n e hk
      rw [hk] at h1
      split at h
      · rename_i j hj
        split at h
        · rename_i ys hf
          cases h
          obtain ⟨cs', h3, h4⟩ := fill_ok hf hp hzr
          refine ⟨.agg cs', ?_, cs', rfl, h4.mono fun _ _ k => k.2⟩
          simp only [Instr.build, Sem.run_bind, hz, Result.andThen_ok, run_underlying h1, TI.run_sizeOf (hΓ e j hj)]
          rw [h3]
          rfl
        · cases h
      · cases h
    · cases h

/-! ### Elements in a row of cells -/

/-- A row of cells holds elements. -/
def rowRep (w : World) (I : Nat → Prop) (T : Ty) (cs : List Value) (l : List T.den) : Prop :=
  cs.length = l.length * T.size ∧ ∀ i x, l[i]? = some x → T.rep w I ((cs.drop (i * T.size)).take T.size) x

theorem rowRep_nil (T : Ty) : rowRep w I T [] [] := ⟨by simp, by simp⟩

theorem rowRep_cons {T : Ty} {c cs : List Value} {x : T.den} {l : List T.den} (hx : T.rep w I c x) (h : rowRep w I T cs l) : rowRep w I T (c ++ cs) (x :: l) := by
  have hl := Ty.rep_len T hx
  refine ⟨by simp [hl, h.1, Nat.add_mul]; omega, fun i y hy => ?_⟩
  cases i with
  | zero =>
    simp only [List.getElem?_cons_zero, Option.some.injEq] at hy; subst hy
    simpa [← hl] using hx
  | succ i =>
    simp only [List.getElem?_cons_succ] at hy
    have := h.2 i y hy
    rwa [show (i + 1) * T.size = c.length + i * T.size by rw [Nat.add_mul, hl]; omega, List.drop_append, List.drop_eq_nil_of_le (Nat.le_add_right _ _), List.nil_append, Nat.add_sub_cancel_left]

theorem rowRep_app {T : Ty} {cs ds : List Value} {l m : List T.den} (h : rowRep w I T cs l) (k : rowRep w I T ds m) : rowRep w I T (cs ++ ds) (l ++ m) := by
  refine ⟨by simp [h.1, k.1, Nat.add_mul], fun i y hy => ?_⟩
  by_cases hi : i < l.length
  · rw [List.getElem?_append_left hi] at hy
    have := h.2 i y hy
    have hle : i * T.size + T.size ≤ cs.length := by
      have : (i + 1) * T.size ≤ l.length * T.size := Nat.mul_le_mul_right _ hi
      rw [Nat.add_mul] at this; rw [h.1]; omega
    rwa [List.drop_append_of_le_length (by omega), List.take_append_of_le_length (by simp; omega)]
  · rw [List.getElem?_append_right (by omega)] at hy
    have := k.2 _ y hy
    have hge : cs.length ≤ i * T.size := by rw [h.1]; exact Nat.mul_le_mul_right _ (by omega)
    rwa [List.drop_append, List.drop_eq_nil_of_le hge, List.nil_append, h.1, ← Nat.sub_mul]

theorem rowRep_one {T : Ty} {cs : List Value} {l : List T.den} (h : rowRep w I T cs l) : ∀ v ∈ cs, v.oneCell' = true := by
  intro v hv
  obtain ⟨j, hj, rfl⟩ := List.getElem_of_mem hv
  rcases Nat.eq_zero_or_pos T.size with hz | hz
  · have := h.1; rw [hz] at this; omega
  · have hlt : j / T.size < l.length := by
      rw [Nat.div_lt_iff_lt_mul hz, ← h.1]; exact hj
    have := h.2 (j / T.size) l[j / T.size] (List.getElem?_eq_getElem hlt)
    refine Ty.rep_one T this _ ?_
    rw [List.mem_iff_getElem?]
    refine ⟨j % T.size, ?_⟩
    have hm := Nat.mod_lt j hz
    rw [List.getElem?_take, if_pos hm, List.getElem?_drop, Nat.mul_comm, Nat.div_add_mod]
    exact List.getElem?_eq_getElem hj

theorem rowRep_mono {w' : World} {I' : Nat → Prop} {T : Ty} {cs : List Value} {l : List T.den} (hk : ∀ b, I b → I' b ∧ w'.heap[b]? = w.heap[b]?) (h : rowRep w I T cs l) : rowRep w' I' T cs l :=
  ⟨h.1, fun i x hx => Ty.rep_mono hk T (h.2 i x hx)⟩

/-- Elements of a row that lies in a block. -/
theorem rowRep_seg {T : Ty} {cs : Array Value} {o : Nat} {l : List T.den} (hfit : o + l.length * T.size ≤ cs.size) : rowRep w I T (seg cs o (l.length * T.size)) l ↔ ∀ i x, l[i]? = some x → T.rep w I (seg cs (o + i * T.size) T.size) x := by
  have key : ∀ i, i < l.length → ((seg cs o (l.length * T.size)).drop (i * T.size)).take T.size = seg cs (o + i * T.size) T.size := fun i hi => by
    apply seg_sub
    have : (i + 1) * T.size ≤ l.length * T.size := Nat.mul_le_mul_right _ hi
    rw [Nat.add_mul] at this; omega
  constructor
  · intro h i x hx
    have hi := (List.getElem?_eq_some_iff.1 hx).1
    have := h.2 i x hx
    rwa [key i hi] at this
  · intro h
    refine ⟨seg_len hfit, fun i x hx => ?_⟩
    have hi := (List.getElem?_eq_some_iff.1 hx).1
    rw [key i hi]
    exact h i x hx

theorem rowRep_drop {T : Ty} {cs : List Value} {l : List T.den} (n : Nat) (h : rowRep w I T cs l) : rowRep w I T (cs.drop (n * T.size)) (l.drop n) := by
  refine ⟨by rw [List.length_drop, List.length_drop, h.1, Nat.sub_mul], fun i x hx => ?_⟩
  rw [List.getElem?_drop] at hx
  have := h.2 _ x hx
  rwa [List.drop_drop, ← Nat.add_mul]

theorem rowRep_take {T : Ty} {cs : List Value} {l : List T.den} (n : Nat) (hn : n ≤ l.length) (h : rowRep w I T cs l) : rowRep w I T (cs.take (n * T.size)) (l.take n) := by
  have hle : n * T.size ≤ cs.length := by rw [h.1]; exact Nat.mul_le_mul_right _ hn
  refine ⟨by simp; rw [Nat.min_eq_left hle, Nat.min_eq_left hn], fun i x hx => ?_⟩
  have hi : i < n := by
    have := (List.getElem?_eq_some_iff.1 hx).1
    simp at this; omega
  rw [List.getElem?_take, if_pos hi] at hx
  have := h.2 i x hx
  rw [List.drop_take, List.take_take, Nat.min_eq_left]
  · exact this
  · have : (i + 1) * T.size ≤ n * T.size := Nat.mul_le_mul_right _ hi
    rw [Nat.add_mul] at this; omega

/-- A slice's content, as pure elements of a type. -/
def srcList (st : Sym) (T : Ty) : Leaf → Option (List T.den)
  | .isl T' l =>
    match decEq T' T with
    | isTrue h => some (h ▸ l)
    | isFalse _ => none
  | .nilsl => some []
  | .vec c =>
    match st.h c with
    | some (.arr T' l) =>
      match decEq T' T with
      | isTrue h => some (h ▸ l)
      | isFalse _ => none
    | _ => none
  | .slc c off len =>
    match st.h c with
    | some (.arr T' l) =>
      match decEq T' T with
      | isTrue h => some (((h ▸ l : List T.den).drop off).take len)
      | isFalse _ => none
    | _ => none
  | _ => none

/-- What is known of a slice whose content is l: its length, and its cells. -/
theorem srcList_ok (hch : ∀ c k, st.h c = some k → k.rep w I ρ (ρ c)) {T : Ty} {x : Leaf} {l : List T.den} {v : Value} (h : srcList st T x = some l) (hx : x.rep w I ρ v) :
    l.length ≤ big ∧ ∃ ad cap, v = .slice ad l.length cap ∧ (ad = none → l = [] ∧ cap = 0) ∧ (∀ p, ad = some p → p.spot = none ∧ (l = [] ∨ ∃ c el fr, w.heap[p.block]? = some (.cells c el fr) ∧ p.off + l.length * T.size ≤ c.size ∧ rowRep w I T (seg c p.off (l.length * T.size)) l)) := by
  unfold srcList at h
  split at h
  · rename_i T' l'
    split at h
    · rename_i e _
      subst e
      cases h
      obtain ⟨ad, cap, hv, h1, h2, hm⟩ := hx
      simp only [List.cons.injEq, and_true] at hv
      subst hv
      refine ⟨h2, ad, cap, rfl, fun e => by subst e; exact hm, fun p e => ?_⟩
      subst e
      refine ⟨hm.1, ?_⟩
      rcases hm.2 with hl | ⟨_, c, el, fr, hg, hfit, hall⟩
      · exact .inl hl
      · exact .inr ⟨c, el, fr, hg, hfit, (rowRep_seg hfit).2 hall⟩
    · cases h
  · cases h
    rw [show v = _ from hx]
    exact ⟨Nat.zero_le _, none, 0, rfl, fun _ => ⟨rfl, rfl⟩, fun p e => by cases e⟩
  · rename_i c
    split at h
    · rename_i T' l' hc
      split at h
      · rename_i e _
        subst e
        cases h
        have hr := hch c _ hc
        simp only [Leaf.rep] at hx
        cases hL : ρ c with
        | none =>
          rw [hL] at hr hx
          have hl : l' = [] := hr
          subst hl
          rw [hx]
          exact ⟨Nat.zero_le _, none, 0, rfl, fun _ => ⟨rfl, rfl⟩, fun p e => by cases e⟩
        | some L =>
          rw [hL] at hr hx
          obtain ⟨cap, rfl, hc1, hc2⟩ := hx
          obtain ⟨hz, hlen, hcap, hbig, cs, el, hg, hfit, hall, _⟩ := hr
          refine ⟨hbig, some ⟨L.b, L.base, none⟩, cap, by rw [hlen], fun e => absurd e (by simp), fun p e => ?_⟩
          simp only [Option.some.injEq] at e
          subst e
          refine ⟨rfl, ?_⟩
          rcases Nat.eq_zero_or_pos l'.length with h0 | h0
          · exact .inl (List.eq_nil_of_length_eq_zero h0)
          · right
            have hfit : L.base + L.cap * L.sz ≤ cs.size := by
              rcases hfit with h | h
              · omega
              · exact h
            have hfit2 : L.base + l'.length * T'.size ≤ cs.size := by
              have : l'.length * T'.size ≤ L.cap * T'.size := Nat.mul_le_mul_right _ hcap
              rw [hz] at hfit; omega
            exact ⟨cs, el, _, hg, hfit2, (rowRep_seg hfit2).2 hall⟩
      · cases h
    · cases h
  · rename_i c off len
    split at h
    · rename_i T' l' hc
      split at h
      · rename_i e _
        subst e
        cases h
        have hr := hch c _ hc
        simp only [Leaf.rep] at hx
        cases hL : ρ c with
        | none =>
          rw [hL] at hr hx
          have hl : l' = [] := hr
          subst hl
          obtain ⟨rfl, rfl, rfl⟩ := hx
          exact ⟨by simp, none, 0, by simp, fun _ => ⟨by simp, rfl⟩, fun p e => by cases e⟩
        | some L =>
          rw [hL] at hr hx
          obtain ⟨cap, o, rfl, hc1, hc2, hc3, hc4⟩ := hx
          obtain ⟨hz, hlen, hcap, hbig, cs, el, hg, hfit, hall, _⟩ := hr
          have hll : ((l'.drop off).take len).length = len := by simp; omega
          simp only
          rw [hll]
          refine ⟨by omega, some ⟨L.b, o, none⟩, cap, rfl, fun e => absurd e (by simp), fun p e => ?_⟩
          simp only [Option.some.injEq] at e
          subst e
          refine ⟨rfl, ?_⟩
          rcases Nat.eq_zero_or_pos len with h0 | h0
          · left; rw [h0]; simp
          · right
            have ho : o = L.base + off * L.sz := by
              rcases hc4 with h | h
              · omega
              · exact h
            have hfit : L.base + L.cap * L.sz ≤ cs.size := by
              rcases hfit with h | h
              · omega
              · exact h
            rw [hz] at ho hfit
            have hfit2 : o + len * T'.size ≤ cs.size := by
              have : (off + len) * T'.size ≤ L.cap * T'.size := Nat.mul_le_mul_right _ (by omega)
              rw [Nat.add_mul] at this; omega
            refine ⟨cs, el, _, hg, hfit2, ?_⟩
            have key := (rowRep_seg (w := w) (I := I) (T := T') (cs := cs) (o := o) (l := (l'.drop off).take len) (by rw [hll]; exact hfit2)).2 (fun i x hx => by
              have hi : i < len := by
                have := (List.getElem?_eq_some_iff.1 hx).1
                rw [hll] at this; exact this
              rw [List.getElem?_take, if_pos hi, List.getElem?_drop] at hx
              have := hall _ x hx
              rwa [ho, Nat.add_assoc, ← Nat.add_mul])
            rwa [hll] at key
      · cases h
    · cases h
  · cases h

/-! ### Lengths -/

def lenLeaf (Γ : Gam) (st : Sym) (t : Nat) (x : Leaf) : Option Leaf :=
  match Γ t with
  | none => none
  | some i =>
    match i.k, x with
    | .slice _, .isl _ l => some (.int .i64 l.length)
    | .slice _, .nilsl => some (.int .i64 0)
    | .slice _, .vec c =>
      match st.h c with
      | some (.arr _ l) => some (.int .i64 l.length)
      | _ => none
    | .slice _, .slc c _ len =>
      match st.h c with
      | some (.arr _ _) => some (.int .i64 len)
      | _ => none
    | .scal .string, .str s => some (.int .i64 s.size)
    | .map _ _, .nilmap => some (.int .i64 0)
    | _, _ => none

theorem inR_len {n : Nat} (h : n ≤ big) : inR .i64 (n : Int) := by
  rw [inR_i64]; simp only [big] at h; omega

theorem len_ok (hΓ : Γ.ok P) (hch : ∀ c k, st.h c = some k → k.rep w I ρ (ρ c)) {t : Nat} {x y : Leaf} {v : Value} (h : lenLeaf Γ st t x = some y) (hx : x.rep w I ρ v) (ty : Nat) :
    ∃ u, (Builtin.len_ #[t] ty #[v]).run P w = .ok u w ∧ y.rep w I ρ u := by
  unfold lenLeaf at h
  split at h
  · cases h
  · rename_i i hi
    have h1 := (hΓ t i hi).1
    split at h
    · rename_i e T l hk
      rw [hk] at h1
      cases h
      obtain ⟨ad, cap, hv, h2, h3, _⟩ := hx
      simp only [List.cons.injEq, and_true] at hv
      subst hv
      exact ⟨.int .i64 l.length, by simp [Builtin.len_, run_underlying h1, goInt], rfl, inR_len h3⟩
    · rename_i e hk
      rw [hk] at h1
      cases h
      rw [show v = _ from hx]
      exact ⟨.int .i64 0, by simp [Builtin.len_, run_underlying h1, goInt], rfl, inR_len (Nat.zero_le _)⟩
    · rename_i e c hk
      rw [hk] at h1
      split at h
      · rename_i T l hc
        cases h
        have hs : srcList st T (.vec c) = some l := by
          simp only [srcList, hc]
          split
          · rfl
          · rename_i hn _; exact absurd rfl hn
        obtain ⟨h3, ad, cap, rfl, _⟩ := srcList_ok hch hs hx
        exact ⟨.int .i64 l.length, by simp [Builtin.len_, run_underlying h1, goInt], rfl, inR_len h3⟩
      · cases h
    · rename_i e c off len hk
      rw [hk] at h1
      split at h
      · rename_i T l hc
        cases h
        have hr := hch c _ hc
        simp only [Leaf.rep] at hx
        cases hL : ρ c with
        | none =>
          rw [hL] at hx
          obtain ⟨rfl, _, rfl⟩ := hx
          exact ⟨.int .i64 0, by simp [Builtin.len_, run_underlying h1, goInt], rfl, inR_len (Nat.zero_le _)⟩
        | some L =>
          rw [hL] at hx hr
          obtain ⟨cap, o, rfl, hc1, hc2, hc3, _⟩ := hx
          obtain ⟨_, hlen, _, hbig, _⟩ := hr
          exact ⟨.int .i64 len, by simp [Builtin.len_, run_underlying h1, goInt], rfl, inR_len (by omega)⟩
      · cases h
    · rename_i s hk
      rw [hk] at h1
      cases h
      obtain ⟨rfl, hb⟩ := hx
      exact ⟨.int .i64 s.size, by simp [Builtin.len_, run_underlying h1.1, goInt], rfl, inR_len hb⟩
    · rename_i e1 e2 hk
      rw [hk] at h1
      cases h
      rw [show v = _ from hx]
      exact ⟨.int .i64 0, by simp [Builtin.len_, run_underlying h1, goInt], rfl, inR_len (Nat.zero_le _)⟩
    · cases h

end
end Go.Sx
