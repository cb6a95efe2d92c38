/- The top of a law: a slice of whole numbers as a row tells it is one as contracts take it; a contract without chunks leaves all that was there. Conditions: the row's own. -/
import Derived.Test.YthilnjignhopkaaSxSeat
import Derived.WalkKit
import Derived.ProofKit
import Derived.OpenShut
import Derived.ShutString
import Derived.ChangeOld
import Derived.Below
import Derived.SizedLaws
import Derived.ChangeSlices
set_option linter.unusedSimpArgs false
set_option linter.unusedVariables false
namespace Go.Sx
open Go Go.Proofs Go.ChangeShapes Go.WideShapes Go.RowKit

/-- All blocks of a world. -/
def allB (W : World) (b : Nat) : Prop := b < W.heap.size
def noRho : Rho := fun _ => none

theorem inR_of_wf {k : IntKind} {n : Int} (h : (Lit.int k n).wf = true) : inR k n := by
  have h2 : k.min ≤ n ∧ n ≤ k.max := by simpa only [Lit.wf, Bool.and_eq_true, decide_eq_true_eq] using h
  exact h2

theorem open_isl {H : Type} {enc : TypeId × Value → H} {P : Program} {W : World} {base base' : Nat} {spare : Nat → Bool} {held : Bool} {t e : TypeId} {v : Value} {d : DataW H} {ps : List MemPlace} {ts : List TypeId} {ds : List (DataW H)} {j : Nat}
    (hsz : (DataW.weightsEach P ts ds).all (· ≤ reachBytes) = true) (ht : ts[j]? = some t) (hd : ds[j]? = some d)
    (hu : P.underlying t = some (.slice e)) (he : P.underlying e = some (.int .i64)) (hc : P.cellsOf e = 1) (hB : P.bytesOf e = 8)
    (hv : Value.okWide P W .any base' t v) (h : DataW.Trod enc P W base spare held t v d ps) :
    ∃ l : List Int, V0.rep W (allB W) noRho v (cisl I64 l) := by
  obtain ⟨a, len, cap, rfl⟩ := okWide_slice hu hv
  obtain ⟨fuel, hf⟩ := h
  rcases open_ints hu he hc hf with ⟨hcs, _⟩ | ⟨x, l, c, zs, hcs, _, hl, hm, hz, hx, hcell, hwz⟩
  · simp [Value.cells] at hcs
    obtain ⟨rfl, rfl, rfl⟩ := hcs
    exact ⟨[], none, 0, rfl, Nat.le_refl _, Nat.zero_le _, rfl, rfl⟩
  · simp [Value.cells] at hcs
    obtain ⟨rfl, rfl, rfl⟩ := hcs
    have hs : x.spot = none := by
      simp only [Value.okWide, hu, Cell.okWide, Cell.ok] at hv
      exact hv.2.2.2.1
    have hlz : len ≤ zs.length := by
      rw [hz]
      split
      · exact hl
      · exact Nat.le_refl _
    have hlt : (zs.take len).length = len := by rw [List.length_take]; omega
    have hbig : len ≤ big := by
      obtain ⟨hx, _⟩ := Prod.mk.inj hx
      subst hx
      have z := sized_slice hsz ht hd hu
      rw [hB] at z
      have h1 : (lits (H := H) .i64 (zs.take len)).length + (lits (H := H) .i64 (zs.drop len)).length = zs.length := by
        simp [lits]
        omega
      rw [h1] at z
      have z2 := reachBytes_lt
      have : big = 2 ^ 47 := by decide
      omega
    refine ⟨zs.take len, some x, cap, by rw [hlt], by rw [hlt]; exact hl, by rw [hlt]; exact hbig, hs, ?_⟩
    by_cases h0 : len = 0
    · subst h0
      exact .inl rfl
    · right
      have at' : ∀ i, i < zs.length → ∃ c el fr, W.heap[x.block]? = some (.cells c el fr) ∧ c[x.off + i]? = some (.int .i64 (zs.getD i 0)) := fun i hi => by
        have hh := hcell i hi
        have e1 : x.add i = { x with off := x.off + i } := by
          unfold Addr.add
          split
          · rename_i q; subst q; rfl
          · rw [hs]
        rw [e1] at hh
        unfold World.cell? at hh
        simp only [hs] at hh
        split at hh
        · rename_i c el fr hb
          exact ⟨c, el, fr, hb, by simpa using hh⟩
        · cases hh
      obtain ⟨c, el, fr, hb, _⟩ := at' 0 (by omega)
      have at2 : ∀ i, i < zs.length → c[x.off + i]? = some (.int .i64 (zs.getD i 0)) := fun i hi => by
        obtain ⟨c', el', fr', hb', h'⟩ := at' i hi
        rw [hb] at hb'
        cases hb'
        exact h'
      refine ⟨?_, c, el, fr, hb, ?_, fun i y hy => ?_⟩
      · show x.block < W.heap.size
        obtain ⟨q, _⟩ := Array.getElem?_eq_some_iff.1 hb
        exact q
      · rw [hlt]
        have := at2 (len - 1) (by omega)
        obtain ⟨q, _⟩ := Array.getElem?_eq_some_iff.1 this
        show x.off + len * 1 ≤ c.size
        omega
      · have hi : i < len := by
          have := (List.getElem?_eq_some_iff.1 hy).1
          omega
        have hc2 := at2 i (by omega)
        have hzi : zs[i]? = some y := by
          rw [List.getElem?_take] at hy
          rw [if_pos hi] at hy
          exact hy
        have hgd : zs.getD i 0 = y := by rw [List.getD_eq_getElem?_getD, hzi]; rfl
        rw [hgd] at hc2
        obtain ⟨q, _⟩ := Array.getElem?_eq_some_iff.1 hc2
        have hseg : seg c (x.off + i * 1) 1 = [.int .i64 y] := by
          have hl1 : (seg c (x.off + i * 1) 1).length = 1 := seg_len (by omega)
          have hg := seg_get (cs := c) (o := x.off + i * 1) (n := 1) (j := 0) (by omega)
          rw [show x.off + i * 1 + 0 = x.off + i by omega, hc2] at hg
          match hs' : seg c (x.off + i * 1) 1, hl1, hg with
          | [z], _, hg => simp at hg; rw [hg]
        refine ⟨hseg, ?_⟩
        have hy2 := hwz y (List.mem_of_getElem? hzi)
        simp only [Lit.wf, Bool.and_eq_true, decide_eq_true_eq] at hy2
        exact hy2

/-- A contract without chunks: what was there stays. -/
theorem Quiet.top {P : Program} {f : Nat} {ar : List V0} {b : Bool} {W : World} {vs : Array Value} (h : Quiet P f ar [] (.one (.cell (.bool b)))) (ha : All2 (V0.rep W (allB W) noRho) vs.toList ar) :
    Calls P f vs W fun e w' => e = .returned (.bool b) ∧ Below W.heap.size W w' := by
  refine (h (allB W) noRho W vs ha (fun _ _ hk => by cases hk) (fun _ _ _ _ _ _ hk => by cases hk) (fun _ _ _ hk => by cases hk) (fun _ h => h)).mono ?_
  rintro e w' ⟨v, r, hs', I', ρ', he, ⟨rfl, rfl⟩, _, _, hr, hH, _⟩
  have hv : v = .bool b := hr
  refine ⟨by rw [he, hv], hH.os, hH.tape, hH.output, hH.size, fun k hk => hH.fr k hk ?_⟩
  rintro ⟨c, k', L, hc, _⟩
  cases hc
end Go.Sx
