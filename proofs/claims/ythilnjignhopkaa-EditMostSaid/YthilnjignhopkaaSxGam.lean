/- The table of types of this program, and that it speaks truly (written by gam.py out of the print of the types). Conditions: none. -/
import Derived.Test.YthilnjignhopkaaSxLex
import Derived.Test.YthilnjignhopkaaProg
import Derived.KernelRfl
set_option linter.unusedSimpArgs false
set_option linter.unusedVariables false
namespace Go.Sx
open Go Go.Proofs

def lookG : List (Nat × TI) → Nat → Option TI
  | [], _ => none
  | (u, i) :: r, t =>
    match Nat.beq u t with
    | true => some i
    | false => lookG r t

theorem lookG_mem : ∀ {l : List (Nat × TI)} {t : Nat} {i : TI}, lookG l t = some i → (t, i) ∈ l
  | [], _, _, h => by simp [lookG] at h
  | (u, j) :: r, t, i, h => by
    unfold lookG at h
    split at h
    · rename_i hb
      have e := Nat.eq_of_beq_eq_true hb
      subst e
      cases h
      exact List.mem_cons_self ..
    · exact List.mem_cons_of_mem _ (lookG_mem h)

def gamL : List (Nat × TI) := [
  (2, ⟨.scal (.int .i64), 1, 8, some (.int .i64), [.int .i64 0]⟩),
  (3, ⟨.scal (.int .i64), 1, 8, some (.int .i64), [.int .i64 0]⟩),
  (4, ⟨.scal (.bool), 1, 1, some .bool, [.bool false]⟩),
  (5, ⟨.scal (.int .u8), 1, 1, some (.int .u8), [.int .u8 0]⟩),
  (9, ⟨.scal (.string), 1, 16, some .str, [.str ByteArray.empty]⟩),
  (21, ⟨.scal (.int .i32), 1, 4, some (.int .i32), [.int .i32 0]⟩),
  (22, ⟨.slice 3, 1, 24, some (.sl (.int .i64)), [.nilsl]⟩),
  (24, ⟨.scal (.func #[22] #[22, 3, 3, 3] false), 1, 8, none, [.nilfn]⟩),
  (25, ⟨.scal (.func #[22, 3] #[22] false), 1, 8, none, [.nilfn]⟩),
  (26, ⟨.scal (.func #[3, 3] #[3] false), 1, 8, none, [.nilfn]⟩),
  (27, ⟨.slice 22, 1, 24, some (.sl (.sl (.int .i64))), [.nilsl]⟩),
  (28, ⟨.array 3 3, 3, 24, some (.prod (.int .i64) (.prod (.int .i64) (.int .i64))), [.int .i64 0, .int .i64 0, .int .i64 0]⟩),
  (29, ⟨.slice 28, 1, 24, some (.sl (.prod (.int .i64) (.prod (.int .i64) (.int .i64)))), [.nilsl]⟩),
  (30, ⟨.strct [(0, 22), (1, 22)], 2, 48, some (.prod (.sl (.int .i64)) (.sl (.int .i64))), [.nilsl, .nilsl]⟩),
  (31, ⟨.strct [(0, 22), (1, 22)], 2, 48, some (.prod (.sl (.int .i64)) (.sl (.int .i64))), [.nilsl, .nilsl]⟩),
  (32, ⟨.scal (.int .i64), 1, 8, some (.int .i64), [.int .i64 0]⟩),
  (34, ⟨.scal (.func #[22, 3, 3, 3] #[22, 31, 32] false), 1, 8, none, [.nilfn]⟩),
  (36, ⟨.scal (.func #[22, 3, 3, 3] #[22, 32] false), 1, 8, none, [.nilfn]⟩),
  (37, ⟨.scal (.func #[22, 22] #[4] false), 1, 8, none, [.nilfn]⟩),
  (38, ⟨.scal (.func #[22, 3, 3, 3, 22, 31] #[4] false), 1, 8, none, [.nilfn]⟩),
  (39, ⟨.scal (.func #[3, 3, 3] #[3] false), 1, 8, none, [.nilfn]⟩),
  (40, ⟨.scal (.func #[] #[4] false), 1, 8, none, [.nilfn]⟩),
  (41, ⟨.scal (.func #[22, 22, 3, 3, 3, 3] #[4] false), 1, 8, none, [.nilfn]⟩),
  (42, ⟨.scal (.func #[22] #[4] false), 1, 8, none, [.nilfn]⟩),
  (43, ⟨.slice 48, 1, 24, some (.sl (.prod (.int .i64) (.prod (.int .i64) (.prod (.int .i64) (.prod (.int .i64) (.int .i64)))))), [.nilsl]⟩),
  (44, ⟨.slice 47, 1, 24, some (.sl (.prod (.int .i64) (.prod (.int .i64) (.prod (.int .i64) (.prod (.int .i64) (.int .i64)))))), [.nilsl]⟩),
  (45, ⟨.scal (.func #[22, 3, 3, 3] #[44] false), 1, 8, none, [.nilfn]⟩),
  (46, ⟨.strct [(0, 3), (1, 3), (2, 3), (3, 3), (4, 3)], 5, 40, some (.prod (.int .i64) (.prod (.int .i64) (.prod (.int .i64) (.prod (.int .i64) (.int .i64))))), [.int .i64 0, .int .i64 0, .int .i64 0, .int .i64 0, .int .i64 0]⟩),
  (47, ⟨.strct [(0, 3), (1, 3), (2, 3), (3, 3), (4, 3)], 5, 40, some (.prod (.int .i64) (.prod (.int .i64) (.prod (.int .i64) (.prod (.int .i64) (.int .i64))))), [.int .i64 0, .int .i64 0, .int .i64 0, .int .i64 0, .int .i64 0]⟩),
  (48, ⟨.strct [(0, 3), (1, 3), (2, 3), (3, 3), (4, 3)], 5, 40, some (.prod (.int .i64) (.prod (.int .i64) (.prod (.int .i64) (.prod (.int .i64) (.int .i64))))), [.int .i64 0, .int .i64 0, .int .i64 0, .int .i64 0, .int .i64 0]⟩),
  (49, ⟨.scal (.func #[3, 43, 31] #[32] false), 1, 8, none, [.nilfn]⟩),
  (50, ⟨.scal (.func #[22, 3, 3] #[3] false), 1, 8, none, [.nilfn]⟩),
  (51, ⟨.scal (.pointer 54), 1, 8, none, [.nilptr]⟩),
  (52, ⟨.scal (.func #[22] #[22] false), 1, 8, none, [.nilfn]⟩),
  (53, ⟨.strct [(0, 22), (1, 22), (2, 3), (3, 3)], 4, 64, some (.prod (.sl (.int .i64)) (.prod (.sl (.int .i64)) (.prod (.int .i64) (.int .i64)))), [.nilsl, .nilsl, .int .i64 0, .int .i64 0]⟩),
  (54, ⟨.strct [(0, 22), (1, 22), (2, 3), (3, 3)], 4, 64, some (.prod (.sl (.int .i64)) (.prod (.sl (.int .i64)) (.prod (.int .i64) (.int .i64)))), [.nilsl, .nilsl, .int .i64 0, .int .i64 0]⟩),
  (55, ⟨.scal (.func #[3] #[3] false), 1, 8, none, [.nilfn]⟩),
  (56, ⟨.scal (.func #[3] #[4] false), 1, 8, none, [.nilfn]⟩),
  (57, ⟨.scal (.func #[3] #[43] false), 1, 8, none, [.nilfn]⟩),
  (59, ⟨.scal (.func #[3, 43] #[31, 22, 32] false), 1, 8, none, [.nilfn]⟩),
  (60, ⟨.scal (.func #[22, 22, 3, 3] #[3] false), 1, 8, none, [.nilfn]⟩),
  (61, ⟨.scal (.func #[22, 3, 22] #[22] false), 1, 8, none, [.nilfn]⟩),
  (62, ⟨.scal (.func #[3, 44, 63] #[32] false), 1, 8, none, [.nilfn]⟩),
  (63, ⟨.strct [(0, 22), (1, 22)], 2, 48, some (.prod (.sl (.int .i64)) (.sl (.int .i64))), [.nilsl, .nilsl]⟩),
  (64, ⟨.scal (.func #[22, 3] #[3] false), 1, 8, none, [.nilfn]⟩),
  (65, ⟨.scal (.func #[3, 43] #[32] false), 1, 8, none, [.nilfn]⟩),
  (66, ⟨.scal (.func #[22, 56] #[4] false), 1, 8, none, [.nilfn]⟩),
  (67, ⟨.scal (.pointer 70), 1, 8, none, [.nilptr]⟩),
  (68, ⟨.slice 83, 1, 24, some (.sl (.prod (.int .i64) (.prod (.int .i64) (.prod (.int .i64) (.prod (.int .i64) (.int .i64)))))), [.nilsl]⟩),
  (69, ⟨.strct [(0, 3), (1, 43), (2, 22), (3, 68)], 4, 80, some (.prod (.int .i64) (.prod (.sl (.prod (.int .i64) (.prod (.int .i64) (.prod (.int .i64) (.prod (.int .i64) (.int .i64)))))) (.prod (.sl (.int .i64)) (.sl (.prod (.int .i64) (.prod (.int .i64) (.prod (.int .i64) (.prod (.int .i64) (.int .i64))))))))), [.int .i64 0, .nilsl, .nilsl, .nilsl]⟩),
  (70, ⟨.strct [(0, 3), (1, 43), (2, 22), (3, 68)], 4, 80, some (.prod (.int .i64) (.prod (.sl (.prod (.int .i64) (.prod (.int .i64) (.prod (.int .i64) (.prod (.int .i64) (.int .i64)))))) (.prod (.sl (.int .i64)) (.sl (.prod (.int .i64) (.prod (.int .i64) (.prod (.int .i64) (.prod (.int .i64) (.int .i64))))))))), [.int .i64 0, .nilsl, .nilsl, .nilsl]⟩),
  (71, ⟨.scal (.func #[] #[22] false), 1, 8, none, [.nilfn]⟩),
  (72, ⟨.scal (.func #[3, 43] #[67] false), 1, 8, none, [.nilfn]⟩),
  (73, ⟨.map 3 83, 1, 8, none, [.nilmap]⟩),
  (75, ⟨.scal (.func #[] #[22, 73, 3] false), 1, 8, none, [.nilfn]⟩),
  (76, ⟨.scal (.func #[73, 3, 3, 3] #[3] false), 1, 8, none, [.nilfn]⟩),
  (77, ⟨.scal (.func #[3, 44] #[32] false), 1, 8, none, [.nilfn]⟩),
  (78, ⟨.scal (.func #[3, 44, 22] #[22] false), 1, 8, none, [.nilfn]⟩),
  (79, ⟨.scal (.func #[48] #[4] false), 1, 8, none, [.nilfn]⟩),
  (80, ⟨.scal (.func #[43, 79] #[4] false), 1, 8, none, [.nilfn]⟩),
  (81, ⟨.scal (.func #[22, 56] #[3] false), 1, 8, none, [.nilfn]⟩),
  (82, ⟨.strct [(0, 3), (1, 3), (2, 3), (3, 3), (4, 3)], 5, 40, some (.prod (.int .i64) (.prod (.int .i64) (.prod (.int .i64) (.prod (.int .i64) (.int .i64))))), [.int .i64 0, .int .i64 0, .int .i64 0, .int .i64 0, .int .i64 0]⟩),
  (83, ⟨.strct [(0, 3), (1, 3), (2, 3), (3, 3), (4, 3)], 5, 40, some (.prod (.int .i64) (.prod (.int .i64) (.prod (.int .i64) (.prod (.int .i64) (.int .i64))))), [.int .i64 0, .int .i64 0, .int .i64 0, .int .i64 0, .int .i64 0]⟩),
  (84, ⟨.scal (.func #[3] #[73] false), 1, 8, none, [.nilfn]⟩),
  (86, ⟨.scal (.func #[22] #[] false), 1, 8, none, [.nilfn]⟩),
  (87, ⟨.scal (.func #[83] #[3] false), 1, 8, none, [.nilfn]⟩),
  (88, ⟨.scal (.func #[83] #[] false), 1, 8, none, [.nilfn]⟩),
  (89, ⟨.scal (.func #[88] #[] false), 1, 8, none, [.nilfn]⟩),
  (90, ⟨.scal (.func #[43, 79] #[3] false), 1, 8, none, [.nilfn]⟩),
  (91, ⟨.scal (.func #[22, 3, 3, 3] #[] false), 1, 8, none, [.nilfn]⟩),
  (92, ⟨.scal (.func #[93] #[3] false), 1, 8, none, [.nilfn]⟩),
  (93, ⟨.scal (.int .u64), 1, 8, some (.int .u64), [.int .u64 0]⟩),
  (94, ⟨.scal (.func #[22, 3, 3] #[] false), 1, 8, none, [.nilfn]⟩),
  (95, ⟨.scal (.int .i64), 1, 8, some (.int .i64), [.int .i64 0]⟩),
  (97, ⟨.scal (.func #[22, 3, 3] #[3, 95] false), 1, 8, none, [.nilfn]⟩),
  (98, ⟨.scal (.func #[22, 3, 3] #[4] false), 1, 8, none, [.nilfn]⟩),
  (99, ⟨.scal (.func #[3, 3] #[4] false), 1, 8, none, [.nilfn]⟩),
  (100, ⟨.scal (.func #[22, 3, 3, 3] #[3] false), 1, 8, none, [.nilfn]⟩),
  (102, ⟨.scal (.func #[22, 3, 3, 3] #[3, 4] false), 1, 8, none, [.nilfn]⟩),
  (103, ⟨.scal (.func #[104] #[3] false), 1, 8, none, [.nilfn]⟩),
  (104, ⟨.scal (.int .u32), 1, 4, some (.int .u32), [.int .u32 0]⟩),
  (105, ⟨.scal (.func #[106] #[3] false), 1, 8, none, [.nilfn]⟩),
  (106, ⟨.scal (.int .u64), 1, 8, some (.int .u64), [.int .u64 0]⟩),
  (107, ⟨.scal (.int .u64), 1, 8, some (.int .u64), [.int .u64 0]⟩),
  (108, ⟨.scal (.func #[3] #[93] false), 1, 8, none, [.nilfn]⟩),
  (109, ⟨.scal (.func #[] #[106] false), 1, 8, none, [.nilfn]⟩),
  (110, ⟨.scal (.func #[22, 3, 111] #[3] false), 1, 8, none, [.nilfn]⟩),
  (111, ⟨.scal (.pointer 3), 1, 8, none, [.nilptr]⟩),
  (112, ⟨.scal (.func #[22, 3, 3, 3, 111] #[3] false), 1, 8, none, [.nilfn]⟩),
  (113, ⟨.scal (.pointer 107), 1, 8, none, [.nilptr]⟩),
  (115, ⟨.scal (.func #[22, 3, 3, 111] #[3, 3] false), 1, 8, none, [.nilfn]⟩),
  (116, ⟨.scal (.func #[] #[9] false), 1, 8, none, [.nilfn]⟩),
  (117, ⟨.strct [(0, 17), (1, 17), (2, 17), (3, 9)], 4, 40, none, [.nilptr, .nilptr, .nilptr, .str ByteArray.empty]⟩)]

def gam : Gam := ⟨lookG gamL, false, fun _ => false⟩

/-- The same, without wrapping. -/
def gamN : Gam := ⟨lookG gamL, true, fun _ => false⟩

/-- The same, some slices that are written out being only read from there on. -/
def gamI (ids : List Nat) : Gam := ⟨lookG gamL, true, fun i => ids.any (Nat.beq i)⟩

def fieldsOf (P : Program) (t : Nat) : Option (List (Nat × Nat)) :=
  match P.underlying t with
  | some (.struct f) => some (f.toList.map fun f => (f.offset, f.type))
  | _ => none

theorem tk_strct {P : Program} {t : Nat} {fs : List (Nat × Nat)} (h1 : fieldsOf P t = some fs) : ∃ fields, P.underlying t = some (.struct fields) ∧ fields.toList.map (fun f => (f.offset, f.type)) = fs := by
  unfold fieldsOf at h1
  split at h1
  · rename_i f hf
    cases h1
    exact ⟨f, hf, rfl⟩
  · cases h1

section rows
variable {P : Program} {t s b : Nat} {y : Option Ty} {zl : List Leaf} {inf : TypeInfo} {z : Value} {cs : Array Value}
def tkOk (P : Program) (t : Nat) : TK → Prop
    | .scal d => P.underlying t = some d ∧ notAgg d = true
    | .slice e => P.underlying t = some (.slice e)
    | .strct fs => ∃ fields, P.underlying t = some (.struct fields) ∧ fields.toList.map (fun f => (f.offset, f.type)) = fs
    | .array n e => P.underlying t = some (.array n e)
    | .map k e => P.underlying t = some (.map k e)
theorem row_one {k : TK} (h1 : TI.agg ⟨k, s, b, y, zl⟩ = false) (h2 : tkOk P t k)
    (hi : P.info? t = some inf) (hs : inf.size = s) (hb : inf.bytes = b) (hz : inf.zero = some z) (hc : constLeafs z.cells.toList = some zl) (hn : z.cells.size = s) (h3 : z.cells = #[z]) : TI.ok P t ⟨k, s, b, y, zl⟩ :=
  ⟨by cases k <;> exact h2, inf, z, hi, hs, hb, hz, hc, hn, fun _ => h3, fun h => by rw [h1] at h; cases h⟩
theorem row_agg {k : TK} (h1 : TI.agg ⟨k, s, b, y, zl⟩ = true) (h2 : tkOk P t k)
    (hi : P.info? t = some inf) (hs : inf.size = s) (hb : inf.bytes = b) (hz : inf.zero = some (.agg cs)) (hc : constLeafs cs.toList = some zl) (hn : cs.size = s) : TI.ok P t ⟨k, s, b, y, zl⟩ :=
  ⟨by cases k <;> exact h2, inf, .agg cs, hi, hs, hb, hz, hc, hn, fun h => (by rw [h1] at h; cases h), fun _ => ⟨cs, rfl⟩⟩
end rows

theorem gam2 : TI.ok Try.prog 2 ⟨.scal (.int .i64), 1, 8, some (.int .i64), [.int .i64 0]⟩ :=
  row_one rfl (⟨(by kernel_rfl : Try.prog.underlying 2 = some (.int .i64)), (by kernel_rfl : notAgg (.int .i64) = true)⟩) (inf := Try.t2) (by kernel_rfl) rfl rfl rfl rfl rfl rfl
theorem gam3 : TI.ok Try.prog 3 ⟨.scal (.int .i64), 1, 8, some (.int .i64), [.int .i64 0]⟩ :=
  row_one rfl (⟨(by kernel_rfl : Try.prog.underlying 3 = some (.int .i64)), (by kernel_rfl : notAgg (.int .i64) = true)⟩) (inf := Try.t3) (by kernel_rfl) rfl rfl rfl rfl rfl rfl
theorem gam4 : TI.ok Try.prog 4 ⟨.scal (.bool), 1, 1, some .bool, [.bool false]⟩ :=
  row_one rfl (⟨(by kernel_rfl : Try.prog.underlying 4 = some (.bool)), (by kernel_rfl : notAgg (.bool) = true)⟩) (inf := Try.t4) (by kernel_rfl) rfl rfl rfl rfl rfl rfl
theorem gam5 : TI.ok Try.prog 5 ⟨.scal (.int .u8), 1, 1, some (.int .u8), [.int .u8 0]⟩ :=
  row_one rfl (⟨(by kernel_rfl : Try.prog.underlying 5 = some (.int .u8)), (by kernel_rfl : notAgg (.int .u8) = true)⟩) (inf := Try.t5) (by kernel_rfl) rfl rfl rfl rfl rfl rfl
theorem gam9 : TI.ok Try.prog 9 ⟨.scal (.string), 1, 16, some .str, [.str ByteArray.empty]⟩ :=
  row_one rfl (⟨(by kernel_rfl : Try.prog.underlying 9 = some (.string)), (by kernel_rfl : notAgg (.string) = true)⟩) (inf := Try.t9) (by kernel_rfl) rfl rfl rfl rfl rfl rfl
theorem gam21 : TI.ok Try.prog 21 ⟨.scal (.int .i32), 1, 4, some (.int .i32), [.int .i32 0]⟩ :=
  row_one rfl (⟨(by kernel_rfl : Try.prog.underlying 21 = some (.int .i32)), (by kernel_rfl : notAgg (.int .i32) = true)⟩) (inf := Try.t21) (by kernel_rfl) rfl rfl rfl rfl rfl rfl
theorem gam22 : TI.ok Try.prog 22 ⟨.slice 3, 1, 24, some (.sl (.int .i64)), [.nilsl]⟩ :=
  row_one rfl ((by kernel_rfl : Try.prog.underlying 22 = some (.slice 3))) (inf := Try.t22) (by kernel_rfl) rfl rfl rfl rfl rfl rfl
theorem gam24 : TI.ok Try.prog 24 ⟨.scal (.func #[22] #[22, 3, 3, 3] false), 1, 8, none, [.nilfn]⟩ :=
  row_one rfl (⟨(by kernel_rfl : Try.prog.underlying 24 = some (.func #[22] #[22, 3, 3, 3] false)), (by kernel_rfl : notAgg (.func #[22] #[22, 3, 3, 3] false) = true)⟩) (inf := Try.t24) (by kernel_rfl) rfl rfl rfl rfl rfl rfl
theorem gam25 : TI.ok Try.prog 25 ⟨.scal (.func #[22, 3] #[22] false), 1, 8, none, [.nilfn]⟩ :=
  row_one rfl (⟨(by kernel_rfl : Try.prog.underlying 25 = some (.func #[22, 3] #[22] false)), (by kernel_rfl : notAgg (.func #[22, 3] #[22] false) = true)⟩) (inf := Try.t25) (by kernel_rfl) rfl rfl rfl rfl rfl rfl
theorem gam26 : TI.ok Try.prog 26 ⟨.scal (.func #[3, 3] #[3] false), 1, 8, none, [.nilfn]⟩ :=
  row_one rfl (⟨(by kernel_rfl : Try.prog.underlying 26 = some (.func #[3, 3] #[3] false)), (by kernel_rfl : notAgg (.func #[3, 3] #[3] false) = true)⟩) (inf := Try.t26) (by kernel_rfl) rfl rfl rfl rfl rfl rfl
theorem gam27 : TI.ok Try.prog 27 ⟨.slice 22, 1, 24, some (.sl (.sl (.int .i64))), [.nilsl]⟩ :=
  row_one rfl ((by kernel_rfl : Try.prog.underlying 27 = some (.slice 22))) (inf := Try.t27) (by kernel_rfl) rfl rfl rfl rfl rfl rfl
theorem gam28 : TI.ok Try.prog 28 ⟨.array 3 3, 3, 24, some (.prod (.int .i64) (.prod (.int .i64) (.int .i64))), [.int .i64 0, .int .i64 0, .int .i64 0]⟩ :=
  row_agg rfl ((by kernel_rfl : Try.prog.underlying 28 = some (.array 3 3))) (inf := Try.t28) (by kernel_rfl) rfl rfl rfl rfl rfl
theorem gam29 : TI.ok Try.prog 29 ⟨.slice 28, 1, 24, some (.sl (.prod (.int .i64) (.prod (.int .i64) (.int .i64)))), [.nilsl]⟩ :=
  row_one rfl ((by kernel_rfl : Try.prog.underlying 29 = some (.slice 28))) (inf := Try.t29) (by kernel_rfl) rfl rfl rfl rfl rfl rfl
theorem gam30 : TI.ok Try.prog 30 ⟨.strct [(0, 22), (1, 22)], 2, 48, some (.prod (.sl (.int .i64)) (.sl (.int .i64))), [.nilsl, .nilsl]⟩ :=
  row_agg rfl (tk_strct (by kernel_rfl : fieldsOf Try.prog 30 = some [(0, 22), (1, 22)])) (inf := Try.t30) (by kernel_rfl) rfl rfl rfl rfl rfl
theorem gam31 : TI.ok Try.prog 31 ⟨.strct [(0, 22), (1, 22)], 2, 48, some (.prod (.sl (.int .i64)) (.sl (.int .i64))), [.nilsl, .nilsl]⟩ :=
  row_agg rfl (tk_strct (by kernel_rfl : fieldsOf Try.prog 31 = some [(0, 22), (1, 22)])) (inf := Try.t31) (by kernel_rfl) rfl rfl rfl rfl rfl
theorem gam32 : TI.ok Try.prog 32 ⟨.scal (.int .i64), 1, 8, some (.int .i64), [.int .i64 0]⟩ :=
  row_one rfl (⟨(by kernel_rfl : Try.prog.underlying 32 = some (.int .i64)), (by kernel_rfl : notAgg (.int .i64) = true)⟩) (inf := Try.t32) (by kernel_rfl) rfl rfl rfl rfl rfl rfl
theorem gam34 : TI.ok Try.prog 34 ⟨.scal (.func #[22, 3, 3, 3] #[22, 31, 32] false), 1, 8, none, [.nilfn]⟩ :=
  row_one rfl (⟨(by kernel_rfl : Try.prog.underlying 34 = some (.func #[22, 3, 3, 3] #[22, 31, 32] false)), (by kernel_rfl : notAgg (.func #[22, 3, 3, 3] #[22, 31, 32] false) = true)⟩) (inf := Try.t34) (by kernel_rfl) rfl rfl rfl rfl rfl rfl
theorem gam36 : TI.ok Try.prog 36 ⟨.scal (.func #[22, 3, 3, 3] #[22, 32] false), 1, 8, none, [.nilfn]⟩ :=
  row_one rfl (⟨(by kernel_rfl : Try.prog.underlying 36 = some (.func #[22, 3, 3, 3] #[22, 32] false)), (by kernel_rfl : notAgg (.func #[22, 3, 3, 3] #[22, 32] false) = true)⟩) (inf := Try.t36) (by kernel_rfl) rfl rfl rfl rfl rfl rfl
theorem gam37 : TI.ok Try.prog 37 ⟨.scal (.func #[22, 22] #[4] false), 1, 8, none, [.nilfn]⟩ :=
  row_one rfl (⟨(by kernel_rfl : Try.prog.underlying 37 = some (.func #[22, 22] #[4] false)), (by kernel_rfl : notAgg (.func #[22, 22] #[4] false) = true)⟩) (inf := Try.t37) (by kernel_rfl) rfl rfl rfl rfl rfl rfl
theorem gam38 : TI.ok Try.prog 38 ⟨.scal (.func #[22, 3, 3, 3, 22, 31] #[4] false), 1, 8, none, [.nilfn]⟩ :=
  row_one rfl (⟨(by kernel_rfl : Try.prog.underlying 38 = some (.func #[22, 3, 3, 3, 22, 31] #[4] false)), (by kernel_rfl : notAgg (.func #[22, 3, 3, 3, 22, 31] #[4] false) = true)⟩) (inf := Try.t38) (by kernel_rfl) rfl rfl rfl rfl rfl rfl
theorem gam39 : TI.ok Try.prog 39 ⟨.scal (.func #[3, 3, 3] #[3] false), 1, 8, none, [.nilfn]⟩ :=
  row_one rfl (⟨(by kernel_rfl : Try.prog.underlying 39 = some (.func #[3, 3, 3] #[3] false)), (by kernel_rfl : notAgg (.func #[3, 3, 3] #[3] false) = true)⟩) (inf := Try.t39) (by kernel_rfl) rfl rfl rfl rfl rfl rfl
theorem gam40 : TI.ok Try.prog 40 ⟨.scal (.func #[] #[4] false), 1, 8, none, [.nilfn]⟩ :=
  row_one rfl (⟨(by kernel_rfl : Try.prog.underlying 40 = some (.func #[] #[4] false)), (by kernel_rfl : notAgg (.func #[] #[4] false) = true)⟩) (inf := Try.t40) (by kernel_rfl) rfl rfl rfl rfl rfl rfl
theorem gam41 : TI.ok Try.prog 41 ⟨.scal (.func #[22, 22, 3, 3, 3, 3] #[4] false), 1, 8, none, [.nilfn]⟩ :=
  row_one rfl (⟨(by kernel_rfl : Try.prog.underlying 41 = some (.func #[22, 22, 3, 3, 3, 3] #[4] false)), (by kernel_rfl : notAgg (.func #[22, 22, 3, 3, 3, 3] #[4] false) = true)⟩) (inf := Try.t41) (by kernel_rfl) rfl rfl rfl rfl rfl rfl
theorem gam42 : TI.ok Try.prog 42 ⟨.scal (.func #[22] #[4] false), 1, 8, none, [.nilfn]⟩ :=
  row_one rfl (⟨(by kernel_rfl : Try.prog.underlying 42 = some (.func #[22] #[4] false)), (by kernel_rfl : notAgg (.func #[22] #[4] false) = true)⟩) (inf := Try.t42) (by kernel_rfl) rfl rfl rfl rfl rfl rfl
theorem gam43 : TI.ok Try.prog 43 ⟨.slice 48, 1, 24, some (.sl (.prod (.int .i64) (.prod (.int .i64) (.prod (.int .i64) (.prod (.int .i64) (.int .i64)))))), [.nilsl]⟩ :=
  row_one rfl ((by kernel_rfl : Try.prog.underlying 43 = some (.slice 48))) (inf := Try.t43) (by kernel_rfl) rfl rfl rfl rfl rfl rfl
theorem gam44 : TI.ok Try.prog 44 ⟨.slice 47, 1, 24, some (.sl (.prod (.int .i64) (.prod (.int .i64) (.prod (.int .i64) (.prod (.int .i64) (.int .i64)))))), [.nilsl]⟩ :=
  row_one rfl ((by kernel_rfl : Try.prog.underlying 44 = some (.slice 47))) (inf := Try.t44) (by kernel_rfl) rfl rfl rfl rfl rfl rfl
theorem gam45 : TI.ok Try.prog 45 ⟨.scal (.func #[22, 3, 3, 3] #[44] false), 1, 8, none, [.nilfn]⟩ :=
  row_one rfl (⟨(by kernel_rfl : Try.prog.underlying 45 = some (.func #[22, 3, 3, 3] #[44] false)), (by kernel_rfl : notAgg (.func #[22, 3, 3, 3] #[44] false) = true)⟩) (inf := Try.t45) (by kernel_rfl) rfl rfl rfl rfl rfl rfl
theorem gam46 : TI.ok Try.prog 46 ⟨.strct [(0, 3), (1, 3), (2, 3), (3, 3), (4, 3)], 5, 40, some (.prod (.int .i64) (.prod (.int .i64) (.prod (.int .i64) (.prod (.int .i64) (.int .i64))))), [.int .i64 0, .int .i64 0, .int .i64 0, .int .i64 0, .int .i64 0]⟩ :=
  row_agg rfl (tk_strct (by kernel_rfl : fieldsOf Try.prog 46 = some [(0, 3), (1, 3), (2, 3), (3, 3), (4, 3)])) (inf := Try.t46) (by kernel_rfl) rfl rfl rfl rfl rfl
theorem gam47 : TI.ok Try.prog 47 ⟨.strct [(0, 3), (1, 3), (2, 3), (3, 3), (4, 3)], 5, 40, some (.prod (.int .i64) (.prod (.int .i64) (.prod (.int .i64) (.prod (.int .i64) (.int .i64))))), [.int .i64 0, .int .i64 0, .int .i64 0, .int .i64 0, .int .i64 0]⟩ :=
  row_agg rfl (tk_strct (by kernel_rfl : fieldsOf Try.prog 47 = some [(0, 3), (1, 3), (2, 3), (3, 3), (4, 3)])) (inf := Try.t47) (by kernel_rfl) rfl rfl rfl rfl rfl
theorem gam48 : TI.ok Try.prog 48 ⟨.strct [(0, 3), (1, 3), (2, 3), (3, 3), (4, 3)], 5, 40, some (.prod (.int .i64) (.prod (.int .i64) (.prod (.int .i64) (.prod (.int .i64) (.int .i64))))), [.int .i64 0, .int .i64 0, .int .i64 0, .int .i64 0, .int .i64 0]⟩ :=
  row_agg rfl (tk_strct (by kernel_rfl : fieldsOf Try.prog 48 = some [(0, 3), (1, 3), (2, 3), (3, 3), (4, 3)])) (inf := Try.t48) (by kernel_rfl) rfl rfl rfl rfl rfl
theorem gam49 : TI.ok Try.prog 49 ⟨.scal (.func #[3, 43, 31] #[32] false), 1, 8, none, [.nilfn]⟩ :=
  row_one rfl (⟨(by kernel_rfl : Try.prog.underlying 49 = some (.func #[3, 43, 31] #[32] false)), (by kernel_rfl : notAgg (.func #[3, 43, 31] #[32] false) = true)⟩) (inf := Try.t49) (by kernel_rfl) rfl rfl rfl rfl rfl rfl
theorem gam50 : TI.ok Try.prog 50 ⟨.scal (.func #[22, 3, 3] #[3] false), 1, 8, none, [.nilfn]⟩ :=
  row_one rfl (⟨(by kernel_rfl : Try.prog.underlying 50 = some (.func #[22, 3, 3] #[3] false)), (by kernel_rfl : notAgg (.func #[22, 3, 3] #[3] false) = true)⟩) (inf := Try.t50) (by kernel_rfl) rfl rfl rfl rfl rfl rfl
theorem gam51 : TI.ok Try.prog 51 ⟨.scal (.pointer 54), 1, 8, none, [.nilptr]⟩ :=
  row_one rfl (⟨(by kernel_rfl : Try.prog.underlying 51 = some (.pointer 54)), (by kernel_rfl : notAgg (.pointer 54) = true)⟩) (inf := Try.t51) (by kernel_rfl) rfl rfl rfl rfl rfl rfl
theorem gam52 : TI.ok Try.prog 52 ⟨.scal (.func #[22] #[22] false), 1, 8, none, [.nilfn]⟩ :=
  row_one rfl (⟨(by kernel_rfl : Try.prog.underlying 52 = some (.func #[22] #[22] false)), (by kernel_rfl : notAgg (.func #[22] #[22] false) = true)⟩) (inf := Try.t52) (by kernel_rfl) rfl rfl rfl rfl rfl rfl
theorem gam53 : TI.ok Try.prog 53 ⟨.strct [(0, 22), (1, 22), (2, 3), (3, 3)], 4, 64, some (.prod (.sl (.int .i64)) (.prod (.sl (.int .i64)) (.prod (.int .i64) (.int .i64)))), [.nilsl, .nilsl, .int .i64 0, .int .i64 0]⟩ :=
  row_agg rfl (tk_strct (by kernel_rfl : fieldsOf Try.prog 53 = some [(0, 22), (1, 22), (2, 3), (3, 3)])) (inf := Try.t53) (by kernel_rfl) rfl rfl rfl rfl rfl
theorem gam54 : TI.ok Try.prog 54 ⟨.strct [(0, 22), (1, 22), (2, 3), (3, 3)], 4, 64, some (.prod (.sl (.int .i64)) (.prod (.sl (.int .i64)) (.prod (.int .i64) (.int .i64)))), [.nilsl, .nilsl, .int .i64 0, .int .i64 0]⟩ :=
  row_agg rfl (tk_strct (by kernel_rfl : fieldsOf Try.prog 54 = some [(0, 22), (1, 22), (2, 3), (3, 3)])) (inf := Try.t54) (by kernel_rfl) rfl rfl rfl rfl rfl
theorem gam55 : TI.ok Try.prog 55 ⟨.scal (.func #[3] #[3] false), 1, 8, none, [.nilfn]⟩ :=
  row_one rfl (⟨(by kernel_rfl : Try.prog.underlying 55 = some (.func #[3] #[3] false)), (by kernel_rfl : notAgg (.func #[3] #[3] false) = true)⟩) (inf := Try.t55) (by kernel_rfl) rfl rfl rfl rfl rfl rfl
theorem gam56 : TI.ok Try.prog 56 ⟨.scal (.func #[3] #[4] false), 1, 8, none, [.nilfn]⟩ :=
  row_one rfl (⟨(by kernel_rfl : Try.prog.underlying 56 = some (.func #[3] #[4] false)), (by kernel_rfl : notAgg (.func #[3] #[4] false) = true)⟩) (inf := Try.t56) (by kernel_rfl) rfl rfl rfl rfl rfl rfl
theorem gam57 : TI.ok Try.prog 57 ⟨.scal (.func #[3] #[43] false), 1, 8, none, [.nilfn]⟩ :=
  row_one rfl (⟨(by kernel_rfl : Try.prog.underlying 57 = some (.func #[3] #[43] false)), (by kernel_rfl : notAgg (.func #[3] #[43] false) = true)⟩) (inf := Try.t57) (by kernel_rfl) rfl rfl rfl rfl rfl rfl
theorem gam59 : TI.ok Try.prog 59 ⟨.scal (.func #[3, 43] #[31, 22, 32] false), 1, 8, none, [.nilfn]⟩ :=
  row_one rfl (⟨(by kernel_rfl : Try.prog.underlying 59 = some (.func #[3, 43] #[31, 22, 32] false)), (by kernel_rfl : notAgg (.func #[3, 43] #[31, 22, 32] false) = true)⟩) (inf := Try.t59) (by kernel_rfl) rfl rfl rfl rfl rfl rfl
theorem gam60 : TI.ok Try.prog 60 ⟨.scal (.func #[22, 22, 3, 3] #[3] false), 1, 8, none, [.nilfn]⟩ :=
  row_one rfl (⟨(by kernel_rfl : Try.prog.underlying 60 = some (.func #[22, 22, 3, 3] #[3] false)), (by kernel_rfl : notAgg (.func #[22, 22, 3, 3] #[3] false) = true)⟩) (inf := Try.t60) (by kernel_rfl) rfl rfl rfl rfl rfl rfl
theorem gam61 : TI.ok Try.prog 61 ⟨.scal (.func #[22, 3, 22] #[22] false), 1, 8, none, [.nilfn]⟩ :=
  row_one rfl (⟨(by kernel_rfl : Try.prog.underlying 61 = some (.func #[22, 3, 22] #[22] false)), (by kernel_rfl : notAgg (.func #[22, 3, 22] #[22] false) = true)⟩) (inf := Try.t61) (by kernel_rfl) rfl rfl rfl rfl rfl rfl
theorem gam62 : TI.ok Try.prog 62 ⟨.scal (.func #[3, 44, 63] #[32] false), 1, 8, none, [.nilfn]⟩ :=
  row_one rfl (⟨(by kernel_rfl : Try.prog.underlying 62 = some (.func #[3, 44, 63] #[32] false)), (by kernel_rfl : notAgg (.func #[3, 44, 63] #[32] false) = true)⟩) (inf := Try.t62) (by kernel_rfl) rfl rfl rfl rfl rfl rfl
theorem gam63 : TI.ok Try.prog 63 ⟨.strct [(0, 22), (1, 22)], 2, 48, some (.prod (.sl (.int .i64)) (.sl (.int .i64))), [.nilsl, .nilsl]⟩ :=
  row_agg rfl (tk_strct (by kernel_rfl : fieldsOf Try.prog 63 = some [(0, 22), (1, 22)])) (inf := Try.t63) (by kernel_rfl) rfl rfl rfl rfl rfl
theorem gam64 : TI.ok Try.prog 64 ⟨.scal (.func #[22, 3] #[3] false), 1, 8, none, [.nilfn]⟩ :=
  row_one rfl (⟨(by kernel_rfl : Try.prog.underlying 64 = some (.func #[22, 3] #[3] false)), (by kernel_rfl : notAgg (.func #[22, 3] #[3] false) = true)⟩) (inf := Try.t64) (by kernel_rfl) rfl rfl rfl rfl rfl rfl
theorem gam65 : TI.ok Try.prog 65 ⟨.scal (.func #[3, 43] #[32] false), 1, 8, none, [.nilfn]⟩ :=
  row_one rfl (⟨(by kernel_rfl : Try.prog.underlying 65 = some (.func #[3, 43] #[32] false)), (by kernel_rfl : notAgg (.func #[3, 43] #[32] false) = true)⟩) (inf := Try.t65) (by kernel_rfl) rfl rfl rfl rfl rfl rfl
theorem gam66 : TI.ok Try.prog 66 ⟨.scal (.func #[22, 56] #[4] false), 1, 8, none, [.nilfn]⟩ :=
  row_one rfl (⟨(by kernel_rfl : Try.prog.underlying 66 = some (.func #[22, 56] #[4] false)), (by kernel_rfl : notAgg (.func #[22, 56] #[4] false) = true)⟩) (inf := Try.t66) (by kernel_rfl) rfl rfl rfl rfl rfl rfl
theorem gam67 : TI.ok Try.prog 67 ⟨.scal (.pointer 70), 1, 8, none, [.nilptr]⟩ :=
  row_one rfl (⟨(by kernel_rfl : Try.prog.underlying 67 = some (.pointer 70)), (by kernel_rfl : notAgg (.pointer 70) = true)⟩) (inf := Try.t67) (by kernel_rfl) rfl rfl rfl rfl rfl rfl
theorem gam68 : TI.ok Try.prog 68 ⟨.slice 83, 1, 24, some (.sl (.prod (.int .i64) (.prod (.int .i64) (.prod (.int .i64) (.prod (.int .i64) (.int .i64)))))), [.nilsl]⟩ :=
  row_one rfl ((by kernel_rfl : Try.prog.underlying 68 = some (.slice 83))) (inf := Try.t68) (by kernel_rfl) rfl rfl rfl rfl rfl rfl
theorem gam69 : TI.ok Try.prog 69 ⟨.strct [(0, 3), (1, 43), (2, 22), (3, 68)], 4, 80, some (.prod (.int .i64) (.prod (.sl (.prod (.int .i64) (.prod (.int .i64) (.prod (.int .i64) (.prod (.int .i64) (.int .i64)))))) (.prod (.sl (.int .i64)) (.sl (.prod (.int .i64) (.prod (.int .i64) (.prod (.int .i64) (.prod (.int .i64) (.int .i64))))))))), [.int .i64 0, .nilsl, .nilsl, .nilsl]⟩ :=
  row_agg rfl (tk_strct (by kernel_rfl : fieldsOf Try.prog 69 = some [(0, 3), (1, 43), (2, 22), (3, 68)])) (inf := Try.t69) (by kernel_rfl) rfl rfl rfl rfl rfl
theorem gam70 : TI.ok Try.prog 70 ⟨.strct [(0, 3), (1, 43), (2, 22), (3, 68)], 4, 80, some (.prod (.int .i64) (.prod (.sl (.prod (.int .i64) (.prod (.int .i64) (.prod (.int .i64) (.prod (.int .i64) (.int .i64)))))) (.prod (.sl (.int .i64)) (.sl (.prod (.int .i64) (.prod (.int .i64) (.prod (.int .i64) (.prod (.int .i64) (.int .i64))))))))), [.int .i64 0, .nilsl, .nilsl, .nilsl]⟩ :=
  row_agg rfl (tk_strct (by kernel_rfl : fieldsOf Try.prog 70 = some [(0, 3), (1, 43), (2, 22), (3, 68)])) (inf := Try.t70) (by kernel_rfl) rfl rfl rfl rfl rfl
theorem gam71 : TI.ok Try.prog 71 ⟨.scal (.func #[] #[22] false), 1, 8, none, [.nilfn]⟩ :=
  row_one rfl (⟨(by kernel_rfl : Try.prog.underlying 71 = some (.func #[] #[22] false)), (by kernel_rfl : notAgg (.func #[] #[22] false) = true)⟩) (inf := Try.t71) (by kernel_rfl) rfl rfl rfl rfl rfl rfl
theorem gam72 : TI.ok Try.prog 72 ⟨.scal (.func #[3, 43] #[67] false), 1, 8, none, [.nilfn]⟩ :=
  row_one rfl (⟨(by kernel_rfl : Try.prog.underlying 72 = some (.func #[3, 43] #[67] false)), (by kernel_rfl : notAgg (.func #[3, 43] #[67] false) = true)⟩) (inf := Try.t72) (by kernel_rfl) rfl rfl rfl rfl rfl rfl
theorem gam73 : TI.ok Try.prog 73 ⟨.map 3 83, 1, 8, none, [.nilmap]⟩ :=
  row_one rfl ((by kernel_rfl : Try.prog.underlying 73 = some (.map 3 83))) (inf := Try.t73) (by kernel_rfl) rfl rfl rfl rfl rfl rfl
theorem gam75 : TI.ok Try.prog 75 ⟨.scal (.func #[] #[22, 73, 3] false), 1, 8, none, [.nilfn]⟩ :=
  row_one rfl (⟨(by kernel_rfl : Try.prog.underlying 75 = some (.func #[] #[22, 73, 3] false)), (by kernel_rfl : notAgg (.func #[] #[22, 73, 3] false) = true)⟩) (inf := Try.t75) (by kernel_rfl) rfl rfl rfl rfl rfl rfl
theorem gam76 : TI.ok Try.prog 76 ⟨.scal (.func #[73, 3, 3, 3] #[3] false), 1, 8, none, [.nilfn]⟩ :=
  row_one rfl (⟨(by kernel_rfl : Try.prog.underlying 76 = some (.func #[73, 3, 3, 3] #[3] false)), (by kernel_rfl : notAgg (.func #[73, 3, 3, 3] #[3] false) = true)⟩) (inf := Try.t76) (by kernel_rfl) rfl rfl rfl rfl rfl rfl
theorem gam77 : TI.ok Try.prog 77 ⟨.scal (.func #[3, 44] #[32] false), 1, 8, none, [.nilfn]⟩ :=
  row_one rfl (⟨(by kernel_rfl : Try.prog.underlying 77 = some (.func #[3, 44] #[32] false)), (by kernel_rfl : notAgg (.func #[3, 44] #[32] false) = true)⟩) (inf := Try.t77) (by kernel_rfl) rfl rfl rfl rfl rfl rfl
theorem gam78 : TI.ok Try.prog 78 ⟨.scal (.func #[3, 44, 22] #[22] false), 1, 8, none, [.nilfn]⟩ :=
  row_one rfl (⟨(by kernel_rfl : Try.prog.underlying 78 = some (.func #[3, 44, 22] #[22] false)), (by kernel_rfl : notAgg (.func #[3, 44, 22] #[22] false) = true)⟩) (inf := Try.t78) (by kernel_rfl) rfl rfl rfl rfl rfl rfl
theorem gam79 : TI.ok Try.prog 79 ⟨.scal (.func #[48] #[4] false), 1, 8, none, [.nilfn]⟩ :=
  row_one rfl (⟨(by kernel_rfl : Try.prog.underlying 79 = some (.func #[48] #[4] false)), (by kernel_rfl : notAgg (.func #[48] #[4] false) = true)⟩) (inf := Try.t79) (by kernel_rfl) rfl rfl rfl rfl rfl rfl
theorem gam80 : TI.ok Try.prog 80 ⟨.scal (.func #[43, 79] #[4] false), 1, 8, none, [.nilfn]⟩ :=
  row_one rfl (⟨(by kernel_rfl : Try.prog.underlying 80 = some (.func #[43, 79] #[4] false)), (by kernel_rfl : notAgg (.func #[43, 79] #[4] false) = true)⟩) (inf := Try.t80) (by kernel_rfl) rfl rfl rfl rfl rfl rfl
theorem gam81 : TI.ok Try.prog 81 ⟨.scal (.func #[22, 56] #[3] false), 1, 8, none, [.nilfn]⟩ :=
  row_one rfl (⟨(by kernel_rfl : Try.prog.underlying 81 = some (.func #[22, 56] #[3] false)), (by kernel_rfl : notAgg (.func #[22, 56] #[3] false) = true)⟩) (inf := Try.t81) (by kernel_rfl) rfl rfl rfl rfl rfl rfl
theorem gam82 : TI.ok Try.prog 82 ⟨.strct [(0, 3), (1, 3), (2, 3), (3, 3), (4, 3)], 5, 40, some (.prod (.int .i64) (.prod (.int .i64) (.prod (.int .i64) (.prod (.int .i64) (.int .i64))))), [.int .i64 0, .int .i64 0, .int .i64 0, .int .i64 0, .int .i64 0]⟩ :=
  row_agg rfl (tk_strct (by kernel_rfl : fieldsOf Try.prog 82 = some [(0, 3), (1, 3), (2, 3), (3, 3), (4, 3)])) (inf := Try.t82) (by kernel_rfl) rfl rfl rfl rfl rfl
theorem gam83 : TI.ok Try.prog 83 ⟨.strct [(0, 3), (1, 3), (2, 3), (3, 3), (4, 3)], 5, 40, some (.prod (.int .i64) (.prod (.int .i64) (.prod (.int .i64) (.prod (.int .i64) (.int .i64))))), [.int .i64 0, .int .i64 0, .int .i64 0, .int .i64 0, .int .i64 0]⟩ :=
  row_agg rfl (tk_strct (by kernel_rfl : fieldsOf Try.prog 83 = some [(0, 3), (1, 3), (2, 3), (3, 3), (4, 3)])) (inf := Try.t83) (by kernel_rfl) rfl rfl rfl rfl rfl
theorem gam84 : TI.ok Try.prog 84 ⟨.scal (.func #[3] #[73] false), 1, 8, none, [.nilfn]⟩ :=
  row_one rfl (⟨(by kernel_rfl : Try.prog.underlying 84 = some (.func #[3] #[73] false)), (by kernel_rfl : notAgg (.func #[3] #[73] false) = true)⟩) (inf := Try.t84) (by kernel_rfl) rfl rfl rfl rfl rfl rfl
theorem gam86 : TI.ok Try.prog 86 ⟨.scal (.func #[22] #[] false), 1, 8, none, [.nilfn]⟩ :=
  row_one rfl (⟨(by kernel_rfl : Try.prog.underlying 86 = some (.func #[22] #[] false)), (by kernel_rfl : notAgg (.func #[22] #[] false) = true)⟩) (inf := Try.t86) (by kernel_rfl) rfl rfl rfl rfl rfl rfl
theorem gam87 : TI.ok Try.prog 87 ⟨.scal (.func #[83] #[3] false), 1, 8, none, [.nilfn]⟩ :=
  row_one rfl (⟨(by kernel_rfl : Try.prog.underlying 87 = some (.func #[83] #[3] false)), (by kernel_rfl : notAgg (.func #[83] #[3] false) = true)⟩) (inf := Try.t87) (by kernel_rfl) rfl rfl rfl rfl rfl rfl
theorem gam88 : TI.ok Try.prog 88 ⟨.scal (.func #[83] #[] false), 1, 8, none, [.nilfn]⟩ :=
  row_one rfl (⟨(by kernel_rfl : Try.prog.underlying 88 = some (.func #[83] #[] false)), (by kernel_rfl : notAgg (.func #[83] #[] false) = true)⟩) (inf := Try.t88) (by kernel_rfl) rfl rfl rfl rfl rfl rfl
theorem gam89 : TI.ok Try.prog 89 ⟨.scal (.func #[88] #[] false), 1, 8, none, [.nilfn]⟩ :=
  row_one rfl (⟨(by kernel_rfl : Try.prog.underlying 89 = some (.func #[88] #[] false)), (by kernel_rfl : notAgg (.func #[88] #[] false) = true)⟩) (inf := Try.t89) (by kernel_rfl) rfl rfl rfl rfl rfl rfl
theorem gam90 : TI.ok Try.prog 90 ⟨.scal (.func #[43, 79] #[3] false), 1, 8, none, [.nilfn]⟩ :=
  row_one rfl (⟨(by kernel_rfl : Try.prog.underlying 90 = some (.func #[43, 79] #[3] false)), (by kernel_rfl : notAgg (.func #[43, 79] #[3] false) = true)⟩) (inf := Try.t90) (by kernel_rfl) rfl rfl rfl rfl rfl rfl
theorem gam91 : TI.ok Try.prog 91 ⟨.scal (.func #[22, 3, 3, 3] #[] false), 1, 8, none, [.nilfn]⟩ :=
  row_one rfl (⟨(by kernel_rfl : Try.prog.underlying 91 = some (.func #[22, 3, 3, 3] #[] false)), (by kernel_rfl : notAgg (.func #[22, 3, 3, 3] #[] false) = true)⟩) (inf := Try.t91) (by kernel_rfl) rfl rfl rfl rfl rfl rfl
theorem gam92 : TI.ok Try.prog 92 ⟨.scal (.func #[93] #[3] false), 1, 8, none, [.nilfn]⟩ :=
  row_one rfl (⟨(by kernel_rfl : Try.prog.underlying 92 = some (.func #[93] #[3] false)), (by kernel_rfl : notAgg (.func #[93] #[3] false) = true)⟩) (inf := Try.t92) (by kernel_rfl) rfl rfl rfl rfl rfl rfl
theorem gam93 : TI.ok Try.prog 93 ⟨.scal (.int .u64), 1, 8, some (.int .u64), [.int .u64 0]⟩ :=
  row_one rfl (⟨(by kernel_rfl : Try.prog.underlying 93 = some (.int .u64)), (by kernel_rfl : notAgg (.int .u64) = true)⟩) (inf := Try.t93) (by kernel_rfl) rfl rfl rfl rfl rfl rfl
theorem gam94 : TI.ok Try.prog 94 ⟨.scal (.func #[22, 3, 3] #[] false), 1, 8, none, [.nilfn]⟩ :=
  row_one rfl (⟨(by kernel_rfl : Try.prog.underlying 94 = some (.func #[22, 3, 3] #[] false)), (by kernel_rfl : notAgg (.func #[22, 3, 3] #[] false) = true)⟩) (inf := Try.t94) (by kernel_rfl) rfl rfl rfl rfl rfl rfl
theorem gam95 : TI.ok Try.prog 95 ⟨.scal (.int .i64), 1, 8, some (.int .i64), [.int .i64 0]⟩ :=
  row_one rfl (⟨(by kernel_rfl : Try.prog.underlying 95 = some (.int .i64)), (by kernel_rfl : notAgg (.int .i64) = true)⟩) (inf := Try.t95) (by kernel_rfl) rfl rfl rfl rfl rfl rfl
theorem gam97 : TI.ok Try.prog 97 ⟨.scal (.func #[22, 3, 3] #[3, 95] false), 1, 8, none, [.nilfn]⟩ :=
  row_one rfl (⟨(by kernel_rfl : Try.prog.underlying 97 = some (.func #[22, 3, 3] #[3, 95] false)), (by kernel_rfl : notAgg (.func #[22, 3, 3] #[3, 95] false) = true)⟩) (inf := Try.t97) (by kernel_rfl) rfl rfl rfl rfl rfl rfl
theorem gam98 : TI.ok Try.prog 98 ⟨.scal (.func #[22, 3, 3] #[4] false), 1, 8, none, [.nilfn]⟩ :=
  row_one rfl (⟨(by kernel_rfl : Try.prog.underlying 98 = some (.func #[22, 3, 3] #[4] false)), (by kernel_rfl : notAgg (.func #[22, 3, 3] #[4] false) = true)⟩) (inf := Try.t98) (by kernel_rfl) rfl rfl rfl rfl rfl rfl
theorem gam99 : TI.ok Try.prog 99 ⟨.scal (.func #[3, 3] #[4] false), 1, 8, none, [.nilfn]⟩ :=
  row_one rfl (⟨(by kernel_rfl : Try.prog.underlying 99 = some (.func #[3, 3] #[4] false)), (by kernel_rfl : notAgg (.func #[3, 3] #[4] false) = true)⟩) (inf := Try.t99) (by kernel_rfl) rfl rfl rfl rfl rfl rfl
theorem gam100 : TI.ok Try.prog 100 ⟨.scal (.func #[22, 3, 3, 3] #[3] false), 1, 8, none, [.nilfn]⟩ :=
  row_one rfl (⟨(by kernel_rfl : Try.prog.underlying 100 = some (.func #[22, 3, 3, 3] #[3] false)), (by kernel_rfl : notAgg (.func #[22, 3, 3, 3] #[3] false) = true)⟩) (inf := Try.t100) (by kernel_rfl) rfl rfl rfl rfl rfl rfl
theorem gam102 : TI.ok Try.prog 102 ⟨.scal (.func #[22, 3, 3, 3] #[3, 4] false), 1, 8, none, [.nilfn]⟩ :=
  row_one rfl (⟨(by kernel_rfl : Try.prog.underlying 102 = some (.func #[22, 3, 3, 3] #[3, 4] false)), (by kernel_rfl : notAgg (.func #[22, 3, 3, 3] #[3, 4] false) = true)⟩) (inf := Try.t102) (by kernel_rfl) rfl rfl rfl rfl rfl rfl
theorem gam103 : TI.ok Try.prog 103 ⟨.scal (.func #[104] #[3] false), 1, 8, none, [.nilfn]⟩ :=
  row_one rfl (⟨(by kernel_rfl : Try.prog.underlying 103 = some (.func #[104] #[3] false)), (by kernel_rfl : notAgg (.func #[104] #[3] false) = true)⟩) (inf := Try.t103) (by kernel_rfl) rfl rfl rfl rfl rfl rfl
theorem gam104 : TI.ok Try.prog 104 ⟨.scal (.int .u32), 1, 4, some (.int .u32), [.int .u32 0]⟩ :=
  row_one rfl (⟨(by kernel_rfl : Try.prog.underlying 104 = some (.int .u32)), (by kernel_rfl : notAgg (.int .u32) = true)⟩) (inf := Try.t104) (by kernel_rfl) rfl rfl rfl rfl rfl rfl
theorem gam105 : TI.ok Try.prog 105 ⟨.scal (.func #[106] #[3] false), 1, 8, none, [.nilfn]⟩ :=
  row_one rfl (⟨(by kernel_rfl : Try.prog.underlying 105 = some (.func #[106] #[3] false)), (by kernel_rfl : notAgg (.func #[106] #[3] false) = true)⟩) (inf := Try.t105) (by kernel_rfl) rfl rfl rfl rfl rfl rfl
theorem gam106 : TI.ok Try.prog 106 ⟨.scal (.int .u64), 1, 8, some (.int .u64), [.int .u64 0]⟩ :=
  row_one rfl (⟨(by kernel_rfl : Try.prog.underlying 106 = some (.int .u64)), (by kernel_rfl : notAgg (.int .u64) = true)⟩) (inf := Try.t106) (by kernel_rfl) rfl rfl rfl rfl rfl rfl
theorem gam107 : TI.ok Try.prog 107 ⟨.scal (.int .u64), 1, 8, some (.int .u64), [.int .u64 0]⟩ :=
  row_one rfl (⟨(by kernel_rfl : Try.prog.underlying 107 = some (.int .u64)), (by kernel_rfl : notAgg (.int .u64) = true)⟩) (inf := Try.t107) (by kernel_rfl) rfl rfl rfl rfl rfl rfl
theorem gam108 : TI.ok Try.prog 108 ⟨.scal (.func #[3] #[93] false), 1, 8, none, [.nilfn]⟩ :=
  row_one rfl (⟨(by kernel_rfl : Try.prog.underlying 108 = some (.func #[3] #[93] false)), (by kernel_rfl : notAgg (.func #[3] #[93] false) = true)⟩) (inf := Try.t108) (by kernel_rfl) rfl rfl rfl rfl rfl rfl
theorem gam109 : TI.ok Try.prog 109 ⟨.scal (.func #[] #[106] false), 1, 8, none, [.nilfn]⟩ :=
  row_one rfl (⟨(by kernel_rfl : Try.prog.underlying 109 = some (.func #[] #[106] false)), (by kernel_rfl : notAgg (.func #[] #[106] false) = true)⟩) (inf := Try.t109) (by kernel_rfl) rfl rfl rfl rfl rfl rfl
theorem gam110 : TI.ok Try.prog 110 ⟨.scal (.func #[22, 3, 111] #[3] false), 1, 8, none, [.nilfn]⟩ :=
  row_one rfl (⟨(by kernel_rfl : Try.prog.underlying 110 = some (.func #[22, 3, 111] #[3] false)), (by kernel_rfl : notAgg (.func #[22, 3, 111] #[3] false) = true)⟩) (inf := Try.t110) (by kernel_rfl) rfl rfl rfl rfl rfl rfl
theorem gam111 : TI.ok Try.prog 111 ⟨.scal (.pointer 3), 1, 8, none, [.nilptr]⟩ :=
  row_one rfl (⟨(by kernel_rfl : Try.prog.underlying 111 = some (.pointer 3)), (by kernel_rfl : notAgg (.pointer 3) = true)⟩) (inf := Try.t111) (by kernel_rfl) rfl rfl rfl rfl rfl rfl
theorem gam112 : TI.ok Try.prog 112 ⟨.scal (.func #[22, 3, 3, 3, 111] #[3] false), 1, 8, none, [.nilfn]⟩ :=
  row_one rfl (⟨(by kernel_rfl : Try.prog.underlying 112 = some (.func #[22, 3, 3, 3, 111] #[3] false)), (by kernel_rfl : notAgg (.func #[22, 3, 3, 3, 111] #[3] false) = true)⟩) (inf := Try.t112) (by kernel_rfl) rfl rfl rfl rfl rfl rfl
theorem gam113 : TI.ok Try.prog 113 ⟨.scal (.pointer 107), 1, 8, none, [.nilptr]⟩ :=
  row_one rfl (⟨(by kernel_rfl : Try.prog.underlying 113 = some (.pointer 107)), (by kernel_rfl : notAgg (.pointer 107) = true)⟩) (inf := Try.t113) (by kernel_rfl) rfl rfl rfl rfl rfl rfl
theorem gam115 : TI.ok Try.prog 115 ⟨.scal (.func #[22, 3, 3, 111] #[3, 3] false), 1, 8, none, [.nilfn]⟩ :=
  row_one rfl (⟨(by kernel_rfl : Try.prog.underlying 115 = some (.func #[22, 3, 3, 111] #[3, 3] false)), (by kernel_rfl : notAgg (.func #[22, 3, 3, 111] #[3, 3] false) = true)⟩) (inf := Try.t115) (by kernel_rfl) rfl rfl rfl rfl rfl rfl
theorem gam116 : TI.ok Try.prog 116 ⟨.scal (.func #[] #[9] false), 1, 8, none, [.nilfn]⟩ :=
  row_one rfl (⟨(by kernel_rfl : Try.prog.underlying 116 = some (.func #[] #[9] false)), (by kernel_rfl : notAgg (.func #[] #[9] false) = true)⟩) (inf := Try.t116) (by kernel_rfl) rfl rfl rfl rfl rfl rfl
theorem gam117 : TI.ok Try.prog 117 ⟨.strct [(0, 17), (1, 17), (2, 17), (3, 9)], 4, 40, none, [.nilptr, .nilptr, .nilptr, .str ByteArray.empty]⟩ :=
  row_agg rfl (tk_strct (by kernel_rfl : fieldsOf Try.prog 117 = some [(0, 17), (1, 17), (2, 17), (3, 9)])) (inf := Try.t117) (by kernel_rfl) rfl rfl rfl rfl rfl

theorem gam_ok : Gam.ok Try.prog gam := fun t i h => by
  have h := lookG_mem h
  simp only [gamL, List.mem_cons, List.mem_nil_iff, or_false, Prod.mk.injEq] at h
  rcases h with ⟨rfl, rfl⟩ | ⟨rfl, rfl⟩ | ⟨rfl, rfl⟩ | ⟨rfl, rfl⟩ | ⟨rfl, rfl⟩ | ⟨rfl, rfl⟩ | ⟨rfl, rfl⟩ | ⟨rfl, rfl⟩ | ⟨rfl, rfl⟩ | ⟨rfl, rfl⟩ | ⟨rfl, rfl⟩ | ⟨rfl, rfl⟩ | ⟨rfl, rfl⟩ | ⟨rfl, rfl⟩ | ⟨rfl, rfl⟩ | ⟨rfl, rfl⟩ | ⟨rfl, rfl⟩ | ⟨rfl, rfl⟩ | ⟨rfl, rfl⟩ | ⟨rfl, rfl⟩ | ⟨rfl, rfl⟩ | ⟨rfl, rfl⟩ | ⟨rfl, rfl⟩ | ⟨rfl, rfl⟩ | ⟨rfl, rfl⟩ | ⟨rfl, rfl⟩ | ⟨rfl, rfl⟩ | ⟨rfl, rfl⟩ | ⟨rfl, rfl⟩ | ⟨rfl, rfl⟩ | ⟨rfl, rfl⟩ | ⟨rfl, rfl⟩ | ⟨rfl, rfl⟩ | ⟨rfl, rfl⟩ | ⟨rfl, rfl⟩ | ⟨rfl, rfl⟩ | ⟨rfl, rfl⟩ | ⟨rfl, rfl⟩ | ⟨rfl, rfl⟩ | ⟨rfl, rfl⟩ | ⟨rfl, rfl⟩ | ⟨rfl, rfl⟩ | ⟨rfl, rfl⟩ | ⟨rfl, rfl⟩ | ⟨rfl, rfl⟩ | ⟨rfl, rfl⟩ | ⟨rfl, rfl⟩ | ⟨rfl, rfl⟩ | ⟨rfl, rfl⟩ | ⟨rfl, rfl⟩ | ⟨rfl, rfl⟩ | ⟨rfl, rfl⟩ | ⟨rfl, rfl⟩ | ⟨rfl, rfl⟩ | ⟨rfl, rfl⟩ | ⟨rfl, rfl⟩ | ⟨rfl, rfl⟩ | ⟨rfl, rfl⟩ | ⟨rfl, rfl⟩ | ⟨rfl, rfl⟩ | ⟨rfl, rfl⟩ | ⟨rfl, rfl⟩ | ⟨rfl, rfl⟩ | ⟨rfl, rfl⟩ | ⟨rfl, rfl⟩ | ⟨rfl, rfl⟩ | ⟨rfl, rfl⟩ | ⟨rfl, rfl⟩ | ⟨rfl, rfl⟩ | ⟨rfl, rfl⟩ | ⟨rfl, rfl⟩ | ⟨rfl, rfl⟩ | ⟨rfl, rfl⟩ | ⟨rfl, rfl⟩ | ⟨rfl, rfl⟩ | ⟨rfl, rfl⟩ | ⟨rfl, rfl⟩ | ⟨rfl, rfl⟩ | ⟨rfl, rfl⟩ | ⟨rfl, rfl⟩ | ⟨rfl, rfl⟩ | ⟨rfl, rfl⟩ | ⟨rfl, rfl⟩ | ⟨rfl, rfl⟩ | ⟨rfl, rfl⟩ | ⟨rfl, rfl⟩ | ⟨rfl, rfl⟩ | ⟨rfl, rfl⟩ | ⟨rfl, rfl⟩ | ⟨rfl, rfl⟩ | ⟨rfl, rfl⟩ | ⟨rfl, rfl⟩ | ⟨rfl, rfl⟩
  · exact gam2
  · exact gam3
  · exact gam4
  · exact gam5
  · exact gam9
  · exact gam21
  · exact gam22
  · exact gam24
  · exact gam25
  · exact gam26
  · exact gam27
  · exact gam28
  · exact gam29
  · exact gam30
  · exact gam31
  · exact gam32
  · exact gam34
  · exact gam36
  · exact gam37
  · exact gam38
  · exact gam39
  · exact gam40
  · exact gam41
  · exact gam42
  · exact gam43
  · exact gam44
  · exact gam45
  · exact gam46
  · exact gam47
  · exact gam48
  · exact gam49
  · exact gam50
  · exact gam51
  · exact gam52
  · exact gam53
  · exact gam54
  · exact gam55
  · exact gam56
  · exact gam57
  · exact gam59
  · exact gam60
  · exact gam61
  · exact gam62
  · exact gam63
  · exact gam64
  · exact gam65
  · exact gam66
  · exact gam67
  · exact gam68
  · exact gam69
  · exact gam70
  · exact gam71
  · exact gam72
  · exact gam73
  · exact gam75
  · exact gam76
  · exact gam77
  · exact gam78
  · exact gam79
  · exact gam80
  · exact gam81
  · exact gam82
  · exact gam83
  · exact gam84
  · exact gam86
  · exact gam87
  · exact gam88
  · exact gam89
  · exact gam90
  · exact gam91
  · exact gam92
  · exact gam93
  · exact gam94
  · exact gam95
  · exact gam97
  · exact gam98
  · exact gam99
  · exact gam100
  · exact gam102
  · exact gam103
  · exact gam104
  · exact gam105
  · exact gam106
  · exact gam107
  · exact gam108
  · exact gam109
  · exact gam110
  · exact gam111
  · exact gam112
  · exact gam113
  · exact gam115
  · exact gam116
  · exact gam117

theorem gamN_ok : Gam.ok Try.prog gamN := fun t i h => gam_ok t i h

theorem gamI_ok (ids : List Nat) : Gam.ok Try.prog (gamI ids) := fun t i h => gam_ok t i h

end Go.Sx
