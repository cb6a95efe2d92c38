/- Types' tables, reading and building of symbolic cells, and what loads, stores and new variables do in the model. Conditions: the table speaks truly of the program (TI.ok). -/
import Derived.Test.YthilnjignhopkaaSxStep
import Derived.Laws.AppendOwn
import Derived.Laws.MakeOwn
set_option linter.unusedSimpArgs false
set_option linter.unusedVariables false
namespace Go.Sx
open Go

/-- What a type is, as far as memory is concerned. -/
inductive TK where
  | scal (d : TypeDesc) | slice (e : Nat) | strct (fs : List (Nat × Nat)) | array (n e : Nat) | map (k e : Nat)

structure TI where
  k : TK
  size : Nat
  bytes : Nat
  ty : Option Ty
  zero : List Leaf

def TI.agg (i : TI) : Bool :=
  match i.k with
  | .strct _ => true
  | .array _ _ => true
  | _ => false

/-- A whole number's constant is of its kind. -/
def constIn : IntKind → Int → Bool
  | .i64, .ofNat n => Nat.ble n 9223372036854775807
  | .i64, .negSucc n => Nat.ble n 9223372036854775807
  | .i32, .ofNat n => Nat.ble n 2147483647
  | .i32, .negSucc n => Nat.ble n 2147483647
  | .i16, .ofNat n => Nat.ble n 32767
  | .i16, .negSucc n => Nat.ble n 32767
  | .i8, .ofNat n => Nat.ble n 127
  | .i8, .negSucc n => Nat.ble n 127
  | .u64, .ofNat n => Nat.ble n 18446744073709551615
  | .u32, .ofNat n => Nat.ble n 4294967295
  | .u16, .ofNat n => Nat.ble n 65535
  | .u8, .ofNat n => Nat.ble n 255
  | _, _ => false

theorem inR_i64 {n : Int} : inR .i64 n ↔ -9223372036854775808 ≤ n ∧ n ≤ 9223372036854775807 := by
  simp [inR, IntKind.min, IntKind.max, IntKind.signed, IntKind.bits]
theorem inR_i32 {n : Int} : inR .i32 n ↔ -2147483648 ≤ n ∧ n ≤ 2147483647 := by
  simp [inR, IntKind.min, IntKind.max, IntKind.signed, IntKind.bits]
theorem inR_i16 {n : Int} : inR .i16 n ↔ -32768 ≤ n ∧ n ≤ 32767 := by
  simp [inR, IntKind.min, IntKind.max, IntKind.signed, IntKind.bits]
theorem inR_i8 {n : Int} : inR .i8 n ↔ -128 ≤ n ∧ n ≤ 127 := by
  simp [inR, IntKind.min, IntKind.max, IntKind.signed, IntKind.bits]
theorem inR_u64 {n : Int} : inR .u64 n ↔ 0 ≤ n ∧ n ≤ 18446744073709551615 := by
  simp [inR, IntKind.min, IntKind.max, IntKind.signed, IntKind.bits]
theorem inR_u32 {n : Int} : inR .u32 n ↔ 0 ≤ n ∧ n ≤ 4294967295 := by
  simp [inR, IntKind.min, IntKind.max, IntKind.signed, IntKind.bits]
theorem inR_u16 {n : Int} : inR .u16 n ↔ 0 ≤ n ∧ n ≤ 65535 := by
  simp [inR, IntKind.min, IntKind.max, IntKind.signed, IntKind.bits]
theorem inR_u8 {n : Int} : inR .u8 n ↔ 0 ≤ n ∧ n ≤ 255 := by
  simp [inR, IntKind.min, IntKind.max, IntKind.signed, IntKind.bits]

theorem constIn_inR : ∀ {k : IntKind} {n : Int}, constIn k n = true → inR k n
  | .i64, .ofNat n, h => by rw [inR_i64]; have := Nat.le_of_ble_eq_true h; simp only [Int.ofNat_eq_natCast]; omega
  | .i64, .negSucc n, h => by rw [inR_i64]; have := Nat.le_of_ble_eq_true h; omega
  | .i32, .ofNat n, h => by rw [inR_i32]; have := Nat.le_of_ble_eq_true h; simp only [Int.ofNat_eq_natCast]; omega
  | .i32, .negSucc n, h => by rw [inR_i32]; have := Nat.le_of_ble_eq_true h; omega
  | .i16, .ofNat n, h => by rw [inR_i16]; have := Nat.le_of_ble_eq_true h; simp only [Int.ofNat_eq_natCast]; omega
  | .i16, .negSucc n, h => by rw [inR_i16]; have := Nat.le_of_ble_eq_true h; omega
  | .i8, .ofNat n, h => by rw [inR_i8]; have := Nat.le_of_ble_eq_true h; simp only [Int.ofNat_eq_natCast]; omega
  | .i8, .negSucc n, h => by rw [inR_i8]; have := Nat.le_of_ble_eq_true h; omega
  | .u64, .ofNat n, h => by rw [inR_u64]; have := Nat.le_of_ble_eq_true h; simp only [Int.ofNat_eq_natCast]; omega
  | .u32, .ofNat n, h => by rw [inR_u32]; have := Nat.le_of_ble_eq_true h; simp only [Int.ofNat_eq_natCast]; omega
  | .u16, .ofNat n, h => by rw [inR_u16]; have := Nat.le_of_ble_eq_true h; simp only [Int.ofNat_eq_natCast]; omega
  | .u8, .ofNat n, h => by rw [inR_u8]; have := Nat.le_of_ble_eq_true h; simp only [Int.ofNat_eq_natCast]; omega
  | .u64, .negSucc n, h => by simp [constIn] at h
  | .u32, .negSucc n, h => by simp [constIn] at h
  | .u16, .negSucc n, h => by simp [constIn] at h
  | .u8, .negSucc n, h => by simp [constIn] at h

/-- Whatever is wrapped is of its kind. -/
theorem IntKind.wrap_inR {k : IntKind} {n : Int} (h : inR k n) : k.wrap n = n := by
  cases k <;> simp only [inR_i64, inR_i32, inR_i16, inR_i8, inR_u64, inR_u32, inR_u16, inR_u8] at h <;> simp only [IntKind.wrap, IntKind.signed, IntKind.bits, Bool.true_and, Bool.false_and] <;>
    (try simp only [decide_eq_true_eq]) <;> (try split) <;> simp_all <;> omega

theorem inR_wrap (k : IntKind) (n : Int) : inR k (k.wrap n) := by
  cases k <;> simp only [inR_i64, inR_i32, inR_i16, inR_i8, inR_u64, inR_u32, inR_u16, inR_u8, IntKind.wrap, IntKind.signed, IntKind.bits, Bool.true_and, Bool.false_and] <;>
    (try simp only [decide_eq_true_eq]) <;> (try split) <;> simp_all <;> omega

/-- A constant as a symbolic cell. -/
def constLeaf : Value → Option Leaf
  | .int k n =>
    match constIn k n with
    | true => some (.int k n)
    | false => none
  | .bool b => some (.bool b)
  | .string s =>
    match Nat.ble s.size big with
    | true => some (.str s)
    | false => none
  | .slice none 0 0 => some .nilsl
  | .pointer none => some .nilptr
  | .map none => some .nilmap
  | .nilFunc => some .nilfn
  | .nilIface => some .niliface
  | _ => none

theorem constLeaf_rep {v : Value} {x : Leaf} (h : constLeaf v = some x) (w : World) (I : Nat → Prop) (ρ : Rho) : x.rep w I ρ v ∧ v.oneCell' = true := by
  unfold constLeaf at h
  split at h
  · split at h
    · rename_i hc; cases h; exact ⟨⟨rfl, constIn_inR hc⟩, rfl⟩
    · cases h
  · cases h; exact ⟨rfl, rfl⟩
  · split at h
    · rename_i hc; cases h; exact ⟨⟨rfl, Nat.le_of_ble_eq_true hc⟩, rfl⟩
    · cases h
  all_goals first | (cases h; exact ⟨rfl, rfl⟩) | (cases h; done)

def constLeafs : List Value → Option (List Leaf)
  | [] => some []
  | v :: vs =>
    match constLeaf v, constLeafs vs with
    | some x, some xs => some (x :: xs)
    | _, _ => none

theorem constLeafs_rep : ∀ {vs : List Value} {xs : List Leaf}, constLeafs vs = some xs → ∀ (w : World) (I : Nat → Prop) (ρ : Rho), All2 (fun v x => v.oneCell' = true ∧ Leaf.rep w I ρ v x) vs xs
  | [], _, h, _, _, _ => by simp only [constLeafs, Option.some.injEq] at h; subst h; trivial
  | v :: vs, xs, h, w, I, ρ => by
    unfold constLeafs at h
    split at h
    · rename_i x ys h1 h2
      cases h
      exact ⟨⟨(constLeaf_rep h1 w I ρ).2, (constLeaf_rep h1 w I ρ).1⟩, constLeafs_rep h2 w I ρ⟩
    · cases h

def notAgg : TypeDesc → Bool
  | .struct _ => false
  | .array _ _ => false
  | _ => true

/-- The table's row speaks truly of the program's type t. -/
def TI.ok (P : Program) (t : Nat) (i : TI) : Prop :=
  (match i.k with
    | .scal d => P.underlying t = some d ∧ notAgg d = true
    | .slice e => P.underlying t = some (.slice e)
    | .strct fs => ∃ fields, P.underlying t = some (.struct fields) ∧ fields.toList.map (fun f => (f.offset, f.type)) = fs
    | .array n e => P.underlying t = some (.array n e)
    | .map k e => P.underlying t = some (.map k e)) ∧
  ∃ inf z, P.info? t = some inf ∧ inf.size = i.size ∧ inf.bytes = i.bytes ∧ inf.zero = some z ∧ constLeafs z.cells.toList = some i.zero ∧ z.cells.size = i.size ∧ (i.agg = false → z.cells = #[z]) ∧ (i.agg = true → ∃ cs, z = .agg cs)

/-- A table of types; nw: sums and products of int and int64 must not leave their range (asked at each), else they are wrapped; im: the slices written out that are only read from there on. -/
structure Gam where
  tab : Nat → Option TI
  nw : Bool
  im : Nat → Bool

instance : CoeFun Gam (fun _ => Nat → Option TI) := ⟨Gam.tab⟩

def Gam.ok (P : Program) (Γ : Gam) : Prop := ∀ t i, Γ t = some i → i.ok P t

section run
variable {P : Program} {t : Nat} {i : TI}

theorem TI.run_isAgg (h : i.ok P t) (w : World) : (isAgg t).run P w = .ok i.agg w := by
  obtain ⟨h1, _⟩ := h
  unfold TI.agg
  cases hk : i.k <;> rw [hk] at h1 <;> simp only at h1
  · rename_i d; obtain ⟨hd, hn⟩ := h1
    simp only [isAgg, Sem.run_bind, run_underlying hd, Result.andThen_ok]
    cases d <;> first | (simp [notAgg] at hn; done) | rfl
  · simp [isAgg, run_underlying h1]
  · obtain ⟨fs, hd, _⟩ := h1
    simp [isAgg, run_underlying hd]
  · simp [isAgg, run_underlying h1]
  · simp [isAgg, run_underlying h1]

theorem TI.run_sizeOf (h : i.ok P t) (w : World) : (sizeOf t).run P w = .ok i.size w := by
  obtain ⟨_, inf, z, h1, h2, _⟩ := h
  simp [sizeOf, typeInfo, h1, h2]

theorem TI.run_typeInfo (h : i.ok P t) (w : World) : ∃ inf, (typeInfo t).run P w = .ok inf w ∧ inf.size = i.size ∧ inf.bytes = i.bytes := by
  obtain ⟨_, inf, z, h1, h2, h3, _⟩ := h
  exact ⟨inf, by simp [typeInfo, h1], h2, h3⟩

theorem TI.run_zero (h : i.ok P t) : ∃ z : Value, (∀ w, (zeroValue t).run P w = .ok z w) ∧ z.cells.size = i.size ∧ constLeafs z.cells.toList = some i.zero ∧ (i.agg = false → z.cells = #[z]) ∧ (i.agg = true → ∃ cs, z = .agg cs) := by
  obtain ⟨_, inf, z, h1, h2, h3, h4, h5, h6, h7⟩ := h
  exact ⟨z, fun w => by simp [zeroValue, typeInfo, h1, h4], h6, h5, h7⟩

theorem add_lit (b o j : Nat) : (⟨b, o, none⟩ : Addr).add j = ⟨b, o + j, none⟩ := by unfold Addr.add; split <;> simp_all

theorem cell_at {w : World} {b o : Nat} {cs : Array Value} {el : TypeId} {fr : Nat × Nat} (hg : w.heap[b]? = some (.cells cs el fr)) : w.cell? ⟨b, o, none⟩ = cs[o]? := by
  simp [World.cell?, hg]

/-- A load of a variable that lies in a block of cells. -/
theorem TI.run_loadVar (h : i.ok P t) {w : World} {b o : Nat} {cs : Array Value} {el : TypeId} {fr : Nat × Nat} (hg : w.heap[b]? = some (.cells cs el fr)) (hs : o + i.size ≤ cs.size)
    (h1 : i.agg = false → i.size = 1) :
    ∃ v, (loadVar t ⟨b, o, none⟩).run P w = .ok v w ∧ (i.agg = true → v = .agg (seg cs o i.size).toArray) ∧ (i.agg = false → seg cs o i.size = [v]) := by
  cases hA : i.agg with
  | true =>
    refine ⟨.agg (seg cs o i.size).toArray, ?_, fun _ => rfl, fun h => by cases h⟩
    have hl : (seg cs o i.size).length = i.size := seg_len hs
    have := run_loadCells_list (P := P) w ⟨b, o, none⟩ (seg cs o i.size) (fun j v hj => by
      have hj' : j < i.size := by rw [← hl]; exact (List.getElem?_eq_some_iff.1 hj).1
      rw [add_lit, cell_at hg, ← seg_get hj']; exact hj)
    rw [hl] at this
    simp only [loadVar, Sem.run_bind, TI.run_isAgg h, hA, Result.andThen_ok, if_true, TI.run_sizeOf h, this, Sem.run_pure]
  | false =>
    have h1 := h1 hA
    have hlt : o < cs.size := by omega
    refine ⟨cs[o], ?_, fun h => Bool.noConfusion h, fun _ => ?_⟩
    · simp only [loadVar, Sem.run_bind, TI.run_isAgg h, hA, Result.andThen_ok, Bool.false_eq_true, if_false, run_load, cell_at hg]
      simp [hlt]
    · rw [h1]
      apply List.ext_getElem?
      intro j
      cases j with
      | zero => simp [seg_get (show 0 < 1 by omega), hlt]
      | succ j => simp [seg]; omega

/-- A store of a variable in a block of cells. -/
theorem TI.run_storeVar (h : i.ok P t) {w : World} {b o : Nat} {cs : Array Value} {el : TypeId} (hg : w.heap[b]? = some (.cells cs el (0, 0))) {v : Value}
    (hs : v.cells.size = i.size) (hfit : o + i.size ≤ cs.size) (h1 : ∀ u ∈ v.cells.toList, u.oneCell' = true) :
    (storeVar t ⟨b, o, none⟩ v).run P w = .ok () (w.setRow b (cs.toList.take o ++ v.cells.toList ++ cs.toList.drop (o + i.size)).toArray) := by
  have hst := run_storeCells_at P b o el v.cells.toList 0 cs w hg (by simp [hs]; omega) h1
  simp only [Nat.add_zero, Array.length_toList, hs] at hst
  simp [storeVar, TI.run_sizeOf h, hs, hst]
end run

/-! ### Pure values as symbolic cells, and back -/

def Ty.leafs : (T : Ty) → T.den → List Leaf
  | .int k, n => [.int k n]
  | .bool, b => [.bool b]
  | .str, s => [.str s]
  | .unit, _ => []
  | .prod a b, x => a.leafs x.1 ++ b.leafs x.2
  | .sl e, l => [.isl e l]

theorem Ty.leafs_rep {w : World} {I : Nat → Prop} {ρ : Rho} : ∀ (T : Ty) {cs : List Value} {x : T.den}, T.rep w I cs x → All2 (Leaf.rep w I ρ) cs (T.leafs x)
  | .int _, _, _, h => by rw [h.1]; exact ⟨⟨rfl, h.2⟩, trivial⟩
  | .bool, _, _, h => by rw [h]; exact ⟨rfl, trivial⟩
  | .str, _, _, h => by rw [h.1]; exact ⟨⟨rfl, h.2⟩, trivial⟩
  | .unit, _, _, h => by rw [h]; trivial
  | .prod a b, _, _, ⟨c, d, e, p, q⟩ => by rw [e]; exact All2.app (Ty.leafs_rep a p) (Ty.leafs_rep b q)
  | .sl e, _, _, ⟨ad, cap, h1, h2⟩ => by rw [h1]; exact ⟨⟨ad, cap, rfl, h2⟩, trivial⟩

theorem Ty.leafs_len : ∀ (T : Ty) (x : T.den), (T.leafs x).length = T.size
  | .int _, _ => rfl
  | .bool, _ => rfl
  | .str, _ => rfl
  | .unit, _ => rfl
  | .prod a b, x => by simp [Ty.leafs, Ty.size, Ty.leafs_len a, Ty.leafs_len b]
  | .sl _, _ => rfl

def Ty.parse : (T : Ty) → List Leaf → Option (T.den × List Leaf)
  | .int k, r =>
    match r with
    | .int k' n :: r =>
      match decEq k' k with
      | isTrue _ => some (n, r)
      | isFalse _ => none
    | _ => none
  | .bool, r =>
    match r with
    | .bool b :: r => some (b, r)
    | _ => none
  | .str, r =>
    match r with
    | .str s :: r => some (s, r)
    | _ => none
  | .unit, r => some ((), r)
  | .prod a b, r =>
    match a.parse r with
    | some (x, r1) =>
      match b.parse r1 with
      | some (y, r2) => some ((x, y), r2)
      | none => none
    | none => none
  | .sl e, r =>
    match r with
    | .isl e' l :: r =>
      match decEq e' e with
      | isTrue h => some (h ▸ l, r)
      | isFalse _ => none
    | .nilsl :: r => some ([], r)
    | _ => none

def Ty.toDen (T : Ty) (xs : List Leaf) : Option T.den :=
  match T.parse xs with
  | some (x, []) => some x
  | _ => none

theorem Ty.parse_rep {w : World} {I : Nat → Prop} {ρ : Rho} : ∀ (T : Ty) {cs : List Value} {xs : List Leaf} {x : T.den} {r : List Leaf}, T.parse xs = some (x, r) → All2 (Leaf.rep w I ρ) cs xs →
    ∃ c d, cs = c ++ d ∧ T.rep w I c x ∧ All2 (Leaf.rep w I ρ) d r := by
  intro T
  induction T with
  | int k =>
    intro cs xs x r h hx
    simp only [Ty.parse] at h
    split at h
    · split at h
      · rename_i hk _
        subst hk
        simp only [Option.some.injEq, Prod.mk.injEq] at h
        obtain ⟨rfl, rfl⟩ := h
        cases cs with
        | nil => simp [All2] at hx
        | cons v vs => exact ⟨[v], vs, rfl, ⟨by rw [hx.1.1], hx.1.2⟩, hx.2⟩
      · cases h
    · cases h
  | bool =>
    intro cs xs x r h hx
    simp only [Ty.parse] at h
    split at h
    · simp only [Option.some.injEq, Prod.mk.injEq] at h
      obtain ⟨rfl, rfl⟩ := h
      cases cs with
      | nil => simp [All2] at hx
      | cons v vs => exact ⟨[v], vs, rfl, by rw [show v = .bool _ from hx.1]; rfl, hx.2⟩
    · cases h
  | str =>
    intro cs xs x r h hx
    simp only [Ty.parse] at h
    split at h
    · simp only [Option.some.injEq, Prod.mk.injEq] at h
      obtain ⟨rfl, rfl⟩ := h
      cases cs with
      | nil => simp [All2] at hx
      | cons v vs => exact ⟨[v], vs, rfl, ⟨by rw [hx.1.1], hx.1.2⟩, hx.2⟩
    · cases h
  | unit =>
    intro cs xs x r h hx
    simp only [Ty.parse, Option.some.injEq, Prod.mk.injEq] at h
    obtain ⟨_, rfl⟩ := h
    exact ⟨[], cs, rfl, rfl, hx⟩
  | prod a b iha ihb =>
    intro cs xs x r h hx
    simp only [Ty.parse] at h
    cases ha : a.parse xs with
    | none => rw [ha] at h; cases h
    | some p =>
      obtain ⟨xa, r1⟩ := p
      rw [ha] at h
      simp only at h
      cases hb : b.parse r1 with
      | none => rw [hb] at h; cases h
      | some q =>
        obtain ⟨xb, r2⟩ := q
        rw [hb] at h
        simp only [Option.some.injEq, Prod.mk.injEq] at h
        obtain ⟨rfl, rfl⟩ := h
        obtain ⟨c, d, rfl, h1, h2⟩ := iha ha hx
        obtain ⟨c', d', rfl, h3, h4⟩ := ihb hb h2
        exact ⟨c ++ c', d', by simp, ⟨c, c', rfl, h1, h3⟩, h4⟩
  | sl e ih =>
    intro cs xs x r h hx
    simp only [Ty.parse] at h
    split at h
    · split at h
      · rename_i he _
        subst he
        simp only [Option.some.injEq, Prod.mk.injEq] at h
        obtain ⟨rfl, rfl⟩ := h
        cases cs with
        | nil => simp [All2] at hx
        | cons v vs => exact ⟨[v], vs, rfl, hx.1, hx.2⟩
      · cases h
    · simp only [Option.some.injEq, Prod.mk.injEq] at h
      obtain ⟨rfl, rfl⟩ := h
      cases cs with
      | nil => simp [All2] at hx
      | cons v vs => exact ⟨[v], vs, rfl, ⟨none, 0, by rw [show v = .slice none 0 0 from hx.1]; rfl, Nat.le_refl _, Nat.zero_le _, rfl, rfl⟩, hx.2⟩
    · cases h

theorem Ty.toDen_rep {w : World} {I : Nat → Prop} {ρ : Rho} {T : Ty} {cs : List Value} {xs : List Leaf} {x : T.den} (h : T.toDen xs = some x) (hx : All2 (Leaf.rep w I ρ) cs xs) : T.rep w I cs x := by
  unfold Ty.toDen at h
  split at h
  · rename_i y hp
    cases h
    obtain ⟨c, d, rfl, h1, h2⟩ := Ty.parse_rep T hp hx
    cases d with
    | nil => simpa using h1
    | cons _ _ => simp [All2] at h2
  · cases h

theorem Leaf.one_of_rep {w : World} {I : Nat → Prop} {ρ : Rho} {v : Value} : ∀ {x : Leaf}, x.isJunk = false → x.rep w I ρ v → v.oneCell' = true
  | .junk, h, _ => by cases h
  | .int _ _, _, k => by rw [k.1]; rfl
  | .bool _, _, k => by rw [show v = _ from k]; rfl
  | .str _, _, k => by rw [k.1]; rfl
  | .isl _ _, _, ⟨_, _, k, _⟩ => by simp only [List.cons.injEq, and_true] at k; rw [k]; rfl
  | .nilsl, _, k => by rw [show v = _ from k]; rfl
  | .nilptr, _, k => by rw [show v = _ from k]; rfl
  | .nilmap, _, k => by rw [show v = _ from k]; rfl
  | .nilfn, _, k => by rw [show v = _ from k]; rfl
  | .niliface, _, k => by rw [show v = _ from k]; rfl
  | .cb _ _, _, ⟨_, k, _⟩ => by rw [k]; rfl
  | .ex _ _, _, ⟨_, _, _, _, k, _⟩ => by simp only [List.cons.injEq, and_true] at k; rw [k]; rfl
  | .ref _ _, _, ⟨_, _, k⟩ => by rw [k]; rfl
  | .eref _ _ _, _, ⟨_, _, k, _⟩ => by rw [k]; rfl
  | .iptr _ _ _, _, ⟨_, _, _, _, _, k, _⟩ => by rw [k]; rfl
  | .vec c, _, k => by
    simp only [Leaf.rep] at k
    split at k
    · rw [k]; rfl
    · obtain ⟨_, k, _⟩ := k; rw [k]; rfl
  | .slc c _ _, _, k => by
    simp only [Leaf.rep] at k
    split at k
    · rw [k.1]; rfl
    · obtain ⟨_, _, k, _⟩ := k; rw [k]; rfl
  | .mapr _, _, ⟨_, _, k⟩ => by rw [k]; rfl
  | .clo _ _, _, ⟨_, k, _⟩ => by rw [k]; rfl

def V0.leafs : V0 → List Leaf
  | .cell x => [x]
  | .agg xs => xs

def noJunk : List Leaf → Bool
  | [] => true
  | x :: xs =>
    match x.isJunk with
    | true => false
    | false => noJunk xs

theorem noJunk_mem : ∀ {xs : List Leaf}, noJunk xs = true → ∀ x ∈ xs, x.isJunk = false
  | [], _, _, h => by simp at h
  | y :: ys, h, x, hx => by
    unfold noJunk at h
    split at h
    · cases h
    · rename_i hy
      rcases List.mem_cons.1 hx with e | e
      · subst e; exact hy
      · exact noJunk_mem h x e

theorem All2.noJunk {w : World} {I : Nat → Prop} {ρ : Rho} : ∀ {cs : List Value} {xs : List Leaf}, noJunk xs = true → All2 (Leaf.rep w I ρ) cs xs → All2 (fun v x => v.oneCell' = true ∧ Leaf.rep w I ρ v x) cs xs
  | [], [], _, _ => trivial
  | c :: cs, x :: xs, h, k => by
    have hx := noJunk_mem h x (by simp)
    refine ⟨⟨Leaf.one_of_rep hx k.1, k.1⟩, All2.noJunk ?_ k.2⟩
    unfold Sx.noJunk at h
    rw [hx] at h; exact h
  | [], _ :: _, _, k => k.elim
  | _ :: _, [], _, k => k.elim

/-- A value without junk: its cells read as its symbolic cells, each one cell. -/
theorem V0.cells_rep {w : World} {I : Nat → Prop} {ρ : Rho} {v : Value} {x : V0} (h : noJunk x.leafs = true) (hx : x.rep w I ρ v) : All2 (fun v x => v.oneCell' = true ∧ Leaf.rep w I ρ v x) v.cells.toList x.leafs := by
  cases x with
  | cell x =>
    have h1 := noJunk_mem h x (by simp [V0.leafs])
    have h2 := Leaf.one_of_rep h1 hx
    have : v.cells = #[v] := by cases v <;> first | rfl | (simp [Value.oneCell'] at h2; done)
    rw [this]
    exact ⟨⟨h2, hx⟩, trivial⟩
  | agg xs =>
    obtain ⟨cs, rfl, h2⟩ := hx
    exact All2.noJunk h h2

def splice (ls : List Leaf) (o : Nat) (vs : List Leaf) : List Leaf := ls.take o ++ vs ++ ls.drop (o + vs.length)

/-- The value of a variable's cells. -/
def mkV (agg : Bool) (n : Nat) (ls : List Leaf) : Option V0 :=
  match Nat.beq ls.length n with
  | true =>
    match agg with
    | true => some (.agg ls)
    | false =>
      match ls with
      | [x] => some (.cell x)
      | _ => none
  | false => none

theorem mkV_spec {agg : Bool} {n : Nat} {ls : List Leaf} {x : V0} (h : mkV agg n ls = some x) : ls.length = n ∧ ((agg = true ∧ x = .agg ls) ∨ (agg = false ∧ ∃ y, ls = [y] ∧ x = .cell y)) := by
  unfold mkV at h
  split at h
  · rename_i hb
    have hb := Nat.eq_of_beq_eq_true hb
    split at h
    · cases h; exact ⟨hb, .inl ⟨rfl, rfl⟩⟩
    · split at h
      · cases h; exact ⟨hb, .inr ⟨rfl, _, rfl, rfl⟩⟩
      · cases h
  · cases h

end Go.Sx
