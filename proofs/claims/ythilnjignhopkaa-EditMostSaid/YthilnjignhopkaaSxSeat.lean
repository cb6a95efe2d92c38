/- Facts on this program's functions (written by seat.py): each is where its number says, and has a body of its own. Conditions: none. -/
import Derived.Test.YthilnjignhopkaaSxGam
import Derived.Test.YthilnjignhopkaaSxReb
set_option linter.unusedSimpArgs false
set_option linter.unusedVariables false
namespace Go.Sx
open Go Go.Proofs

theorem mixed : Try.prog.follows .mixedOrders = true := by kernel_rfl
theorem fn3 : Try.prog.funcs[3]? = some Try.f3 := by kernel_rfl
theorem is3 : IsFn Try.prog 3 := ⟨Try.f3, fn3, by kernel_rfl, by kernel_rfl⟩
theorem fn4 : Try.prog.funcs[4]? = some Try.f4 := by kernel_rfl
theorem is4 : IsFn Try.prog 4 := ⟨Try.f4, fn4, by kernel_rfl, by kernel_rfl⟩
theorem fn5 : Try.prog.funcs[5]? = some Try.f5 := by kernel_rfl
theorem is5 : IsFn Try.prog 5 := ⟨Try.f5, fn5, by kernel_rfl, by kernel_rfl⟩
theorem fn6 : Try.prog.funcs[6]? = some Try.f6 := by kernel_rfl
theorem is6 : IsFn Try.prog 6 := ⟨Try.f6, fn6, by kernel_rfl, by kernel_rfl⟩
theorem fn7 : Try.prog.funcs[7]? = some Try.f7 := by kernel_rfl
theorem is7 : IsFn Try.prog 7 := ⟨Try.f7, fn7, by kernel_rfl, by kernel_rfl⟩
theorem fn8 : Try.prog.funcs[8]? = some Try.f8 := by kernel_rfl
theorem is8 : IsFn Try.prog 8 := ⟨Try.f8, fn8, by kernel_rfl, by kernel_rfl⟩
theorem fn9 : Try.prog.funcs[9]? = some Try.f9 := by kernel_rfl
theorem is9 : IsFn Try.prog 9 := ⟨Try.f9, fn9, by kernel_rfl, by kernel_rfl⟩
theorem fn10 : Try.prog.funcs[10]? = some Try.f10 := by kernel_rfl
theorem is10 : IsFn Try.prog 10 := ⟨Try.f10, fn10, by kernel_rfl, by kernel_rfl⟩
theorem fn11 : Try.prog.funcs[11]? = some Try.f11 := by kernel_rfl
theorem is11 : IsFn Try.prog 11 := ⟨Try.f11, fn11, by kernel_rfl, by kernel_rfl⟩
theorem fn12 : Try.prog.funcs[12]? = some Try.f12 := by kernel_rfl
theorem is12 : IsFn Try.prog 12 := ⟨Try.f12, fn12, by kernel_rfl, by kernel_rfl⟩
theorem fn13 : Try.prog.funcs[13]? = some Try.f13 := by kernel_rfl
theorem is13 : IsFn Try.prog 13 := ⟨Try.f13, fn13, by kernel_rfl, by kernel_rfl⟩
theorem fn14 : Try.prog.funcs[14]? = some Try.f14 := by kernel_rfl
theorem is14 : IsFn Try.prog 14 := ⟨Try.f14, fn14, by kernel_rfl, by kernel_rfl⟩
theorem fn15 : Try.prog.funcs[15]? = some Try.f15 := by kernel_rfl
theorem is15 : IsFn Try.prog 15 := ⟨Try.f15, fn15, by kernel_rfl, by kernel_rfl⟩
theorem fn16 : Try.prog.funcs[16]? = some Try.f16 := by kernel_rfl
theorem is16 : IsFn Try.prog 16 := ⟨Try.f16, fn16, by kernel_rfl, by kernel_rfl⟩
theorem fn17 : Try.prog.funcs[17]? = some Try.f17 := by kernel_rfl
theorem is17 : IsFn Try.prog 17 := ⟨Try.f17, fn17, by kernel_rfl, by kernel_rfl⟩
theorem fn18 : Try.prog.funcs[18]? = some Try.f18 := by kernel_rfl
theorem is18 : IsFn Try.prog 18 := ⟨Try.f18, fn18, by kernel_rfl, by kernel_rfl⟩
theorem fn19 : Try.prog.funcs[19]? = some Try.f19 := by kernel_rfl
theorem is19 : IsFn Try.prog 19 := ⟨Try.f19, fn19, by kernel_rfl, by kernel_rfl⟩
theorem fn20 : Try.prog.funcs[20]? = some Try.f20 := by kernel_rfl
theorem is20 : IsFn Try.prog 20 := ⟨Try.f20, fn20, by kernel_rfl, by kernel_rfl⟩
theorem fn21 : Try.prog.funcs[21]? = some Try.f21 := by kernel_rfl
theorem is21 : IsFn Try.prog 21 := ⟨Try.f21, fn21, by kernel_rfl, by kernel_rfl⟩
theorem fn22 : Try.prog.funcs[22]? = some Try.f22 := by kernel_rfl
theorem is22 : IsFn Try.prog 22 := ⟨Try.f22, fn22, by kernel_rfl, by kernel_rfl⟩
theorem fn23 : Try.prog.funcs[23]? = some Try.f23 := by kernel_rfl
theorem is23 : IsFn Try.prog 23 := ⟨Try.f23, fn23, by kernel_rfl, by kernel_rfl⟩
theorem fn24 : Try.prog.funcs[24]? = some Try.f24 := by kernel_rfl
theorem is24 : IsFn Try.prog 24 := ⟨Try.f24, fn24, by kernel_rfl, by kernel_rfl⟩
theorem fn25 : Try.prog.funcs[25]? = some Try.f25 := by kernel_rfl
theorem is25 : IsFn Try.prog 25 := ⟨Try.f25, fn25, by kernel_rfl, by kernel_rfl⟩
theorem fn26 : Try.prog.funcs[26]? = some Try.f26 := by kernel_rfl
theorem is26 : IsFn Try.prog 26 := ⟨Try.f26, fn26, by kernel_rfl, by kernel_rfl⟩
theorem fn27 : Try.prog.funcs[27]? = some Try.f27 := by kernel_rfl
theorem is27 : IsFn Try.prog 27 := ⟨Try.f27, fn27, by kernel_rfl, by kernel_rfl⟩
theorem fn28 : Try.prog.funcs[28]? = some Try.f28 := by kernel_rfl
theorem is28 : IsFn Try.prog 28 := ⟨Try.f28, fn28, by kernel_rfl, by kernel_rfl⟩
theorem fn29 : Try.prog.funcs[29]? = some Try.f29 := by kernel_rfl
theorem is29 : IsFn Try.prog 29 := ⟨Try.f29, fn29, by kernel_rfl, by kernel_rfl⟩
theorem fn30 : Try.prog.funcs[30]? = some Try.f30 := by kernel_rfl
theorem is30 : IsFn Try.prog 30 := ⟨Try.f30, fn30, by kernel_rfl, by kernel_rfl⟩
theorem fn31 : Try.prog.funcs[31]? = some Try.f31 := by kernel_rfl
theorem is31 : IsFn Try.prog 31 := ⟨Try.f31, fn31, by kernel_rfl, by kernel_rfl⟩
theorem fn32 : Try.prog.funcs[32]? = some Try.f32 := by kernel_rfl
theorem is32 : IsFn Try.prog 32 := ⟨Try.f32, fn32, by kernel_rfl, by kernel_rfl⟩
theorem fn33 : Try.prog.funcs[33]? = some Try.f33 := by kernel_rfl
theorem is33 : IsFn Try.prog 33 := ⟨Try.f33, fn33, by kernel_rfl, by kernel_rfl⟩
theorem fn34 : Try.prog.funcs[34]? = some Try.f34 := by kernel_rfl
theorem is34 : IsFn Try.prog 34 := ⟨Try.f34, fn34, by kernel_rfl, by kernel_rfl⟩
theorem fn35 : Try.prog.funcs[35]? = some Try.f35 := by kernel_rfl
theorem is35 : IsFn Try.prog 35 := ⟨Try.f35, fn35, by kernel_rfl, by kernel_rfl⟩
theorem fn36 : Try.prog.funcs[36]? = some Try.f36 := by kernel_rfl
theorem is36 : IsFn Try.prog 36 := ⟨Try.f36, fn36, by kernel_rfl, by kernel_rfl⟩
theorem fn37 : Try.prog.funcs[37]? = some Try.f37 := by kernel_rfl
theorem is37 : IsFn Try.prog 37 := ⟨Try.f37, fn37, by kernel_rfl, by kernel_rfl⟩
theorem fn38 : Try.prog.funcs[38]? = some Try.f38 := by kernel_rfl
theorem is38 : IsFn Try.prog 38 := ⟨Try.f38, fn38, by kernel_rfl, by kernel_rfl⟩
theorem fn39 : Try.prog.funcs[39]? = some Try.f39 := by kernel_rfl
theorem is39 : IsFn Try.prog 39 := ⟨Try.f39, fn39, by kernel_rfl, by kernel_rfl⟩
theorem fn40 : Try.prog.funcs[40]? = some Try.f40 := by kernel_rfl
theorem is40 : IsFn Try.prog 40 := ⟨Try.f40, fn40, by kernel_rfl, by kernel_rfl⟩
theorem fn41 : Try.prog.funcs[41]? = some Try.f41 := by kernel_rfl
theorem is41 : IsFn Try.prog 41 := ⟨Try.f41, fn41, by kernel_rfl, by kernel_rfl⟩
theorem fn42 : Try.prog.funcs[42]? = some Try.f42 := by kernel_rfl
theorem is42 : IsFn Try.prog 42 := ⟨Try.f42, fn42, by kernel_rfl, by kernel_rfl⟩
theorem fn43 : Try.prog.funcs[43]? = some Try.f43 := by kernel_rfl
theorem is43 : IsFn Try.prog 43 := ⟨Try.f43, fn43, by kernel_rfl, by kernel_rfl⟩
theorem fn44 : Try.prog.funcs[44]? = some Try.f44 := by kernel_rfl
theorem is44 : IsFn Try.prog 44 := ⟨Try.f44, fn44, by kernel_rfl, by kernel_rfl⟩
theorem fn45 : Try.prog.funcs[45]? = some Try.f45 := by kernel_rfl
theorem is45 : IsFn Try.prog 45 := ⟨Try.f45, fn45, by kernel_rfl, by kernel_rfl⟩
theorem fn46 : Try.prog.funcs[46]? = some Try.f46 := by kernel_rfl
theorem is46 : IsFn Try.prog 46 := ⟨Try.f46, fn46, by kernel_rfl, by kernel_rfl⟩
theorem fn47 : Try.prog.funcs[47]? = some Try.f47 := by kernel_rfl
theorem is47 : IsFn Try.prog 47 := ⟨Try.f47, fn47, by kernel_rfl, by kernel_rfl⟩
theorem fn48 : Try.prog.funcs[48]? = some Try.f48 := by kernel_rfl
theorem is48 : IsFn Try.prog 48 := ⟨Try.f48, fn48, by kernel_rfl, by kernel_rfl⟩
theorem fn49 : Try.prog.funcs[49]? = some Try.f49 := by kernel_rfl
theorem is49 : IsFn Try.prog 49 := ⟨Try.f49, fn49, by kernel_rfl, by kernel_rfl⟩

abbrev I64 : Ty := .int .i64
def vint (n : Int) : SV := .one (.cell (.int .i64 n))
def vbool (b : Bool) : SV := .one (.cell (.bool b))
def visl (T : Ty) (l : List T.den) : SV := .one (.cell (.isl T l))
def cint (n : Int) : V0 := .cell (.int .i64 n)
def cisl (T : Ty) (l : List T.den) : V0 := .cell (.isl T l)

theorem dflt64 : Ty.dflt (.int .i64) = (0 : Int) := rfl
theorem fits_iff {n : Int} : fits n ↔ -9223372036854775808 ≤ n ∧ n ≤ 9223372036854775807 := Iff.rfl

theorem getD_set0 (l : List Int) (j : Nat) (v : Int) (k : Nat) : (l.set j v).getD k 0 = if k = j ∧ j < l.length then v else l.getD k 0 := by
  by_cases h : k = j
  · subst h
    by_cases h2 : k < l.length <;> simp [List.getD_eq_getElem?_getD, h2]
  · simp [List.getD_eq_getElem?_getD, List.getElem?_set_ne (Ne.symm h), h]

theorem enI {k : IntKind} {x y : Int} {e : Entry} (he : e = ⟨[], .one (.cell (.int k x))⟩) (h : x = y) : e = ⟨[], .one (.cell (.int k y))⟩ := by rw [he, h]
theorem chA {T : Ty} {x y : List T.den} {e : Option Chunk} (he : e = some (.arr T x)) (h : x = y) : e = some (.arr T y) := by rw [he, h]

theorem callQe {P : Program} {st : Sym} {ls : List (Nat × Bool)} {dst : Option Nat} {f : Nat} {vs : List V0} {K : Sym → Prop} (vs' : List V0) {hs : List (Nat × Chunk)} {r : SV} (hf : IsFn P f) (hv : vs = vs') (hq : gImp st ls (Quiet P f vs' hs r)) (hm : hmatch st hs)
    (h : K (st.apply dst ls ⟨[], r, none, []⟩)) : callK P st ls dst f vs K := by subst hv; exact callQ hf hq hm h

section
variable {Γ : Gam} {rs : List ResultVar} {hs : List (Nat × Chunk)} {st : Sym}
theorem quiet_int {k : IntKind} {x y : Int} (hr : resV Γ st rs = some [.cell (.int k x)]) (h1 : stayed st [] hs = true) (hm : hmatch st hs) (h3 : heapClosed hs hs = true) (hq : x = y) :
    postQ Γ rs hs [] (fun r' hs' => r' = .one (.cell (.int k y)) ∧ hs' = hs) .ret st := by subst hq; exact quiet_ret hr h1 hm h3 rfl rfl
theorem quiet_bool {x y : Bool} (hr : resV Γ st rs = some [.cell (.bool x)]) (h1 : stayed st [] hs = true) (hm : hmatch st hs) (h3 : heapClosed hs hs = true) (hq : x = y) :
    postQ Γ rs hs [] (fun r' hs' => r' = .one (.cell (.bool y)) ∧ hs' = hs) .ret st := by subst hq; exact quiet_ret hr h1 hm h3 rfl rfl
theorem quiet_isl {T : Ty} {x y : List T.den} (hr : resV Γ st rs = some [.cell (.isl T x)]) (h1 : stayed st [] hs = true) (hm : hmatch st hs) (h3 : heapClosed hs hs = true) (hq : x = y) :
    postQ Γ rs hs [] (fun r' hs' => r' = .one (.cell (.isl T y)) ∧ hs' = hs) .ret st := by subst hq; exact quiet_ret hr h1 hm h3 rfl rfl
end

end Go.Sx
