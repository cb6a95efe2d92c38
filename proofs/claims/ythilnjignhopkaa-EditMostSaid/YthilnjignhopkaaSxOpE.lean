/- Operations, fifth part: append, parts of values, bytes of texts, maps. Conditions: the table of types is true of the program. -/
import Derived.Test.YthilnjignhopkaaSxOpD
set_option linter.unusedSimpArgs false
set_option linter.unusedVariables false
namespace Go.Sx
open Go

section
variable {P : Program} {Γ : Gam} {st : Sym} {w : World} {I : Nat → Prop} {ρ : Rho}

/-! ### append -/

theorem run_append_in {t t2 e e2 ty : Nat} {j : TI} (ht : P.underlying t = some (.slice e)) (ht2 : P.underlying t2 = some (.slice e2)) (hj : j.ok P e) {g o len cap : Nat} {x : Value} {n : Nat} {news : List Value}
    (hx : (Builtin.lenOf x).run P w = .ok n w) (hnew : (Builtin.firstCells j.size n x).run P w = .ok news.toArray w) (hl : news.length = n * j.size) (hone : ∀ v ∈ news, v.oneCell' = true) (hroom : len + n ≤ cap)
    {cs : Array Value} {el : TypeId} (hg : w.heap[g]? = some (.cells cs el (0, 0))) (hfit : o + (len + n) * j.size ≤ cs.size) :
    (Builtin.append_ #[t, t2] ty #[.slice (some ⟨g, o, none⟩) len cap, x]).run P w =
      .ok (.slice (some ⟨g, o, none⟩) (len + n) cap) (w.setRow g (cs.toList.take (o + len * j.size) ++ news ++ cs.toList.drop (o + len * j.size + news.length)).toArray) := by
  have hst := run_storeCells_at P g (o + len * j.size) el news 0 cs w hg (by rw [Nat.add_mul] at hfit; omega) hone
  simp only [Nat.add_zero] at hst
  simp [Builtin.append_, run_underlying ht, run_underlying ht2, TI.run_sizeOf hj, hx, hroom, hnew, add_lit, hst]

theorem run_append_new {t t2 e e2 ty : Nat} {j : TI} (ht : P.underlying t = some (.slice e)) (ht2 : P.underlying t2 = some (.slice e2)) (hj : j.ok P e) {ad : Option Addr} {len cap : Nat} {x : Value} {n : Nat} {olds news : List Value}
    (hx : (Builtin.lenOf x).run P w = .ok n w) (hnew : ∀ w', w'.heap = w.heap → (Builtin.firstCells j.size n x).run P w' = .ok news.toArray w')
    (hold : ∀ w', w'.heap = w.heap → (Builtin.firstCells j.size len (.slice ad len cap)).run P w' = .ok olds.toArray w') (hgrow : cap < len + n) (hb : (len + n) * j.bytes ≤ 140737488355328) (hbytes : 0 < j.bytes) :
    ∃ (z : Value) (C : Nat), z.cells.size = j.size ∧ constLeafs z.cells.toList = some j.zero ∧ len + n ≤ C ∧
    (Builtin.append_ #[t, t2] ty #[.slice ad len cap, x]).run P w =
      .ok (.slice (some ⟨w.heap.size, 0, none⟩) (len + n) C) (w.drew.alloc (.cells (olds.toArray ++ news.toArray ++ Builtin.zeroCells z.cells (C - (len + n))) e)) := by
  obtain ⟨_, inf, z, hi1, hi2, hi3, hi4, hi5, hi6, _⟩ := hj
  have hlen : len + n ≤ 140737488355328 := Nat.le_trans (Nat.le_mul_of_pos_right _ hbytes) hb
  have hn : ¬ (len + n ≤ cap) := by omega
  have h63 : ¬ (9223372036854775807 < ((len : Int) + (n : Int))) := by omega
  have hfit := growslice_fits hgrow hb
  have h48 : ¬ (281474976710656 < Builtin.nextslicecap (len + n) cap * inf.bytes) := by rw [hi3]; omega
  have hnew' := hnew w.drew rfl
  have hold' := hold w.drew rfl
  refine ⟨z, grownCap w (len + n) cap e, hi6, hi5, grownCap_ge _ _ _ _, ?_⟩
  rw [← hi2] at hnew' hold'
  simp [Builtin.append_, run_underlying ht, run_underlying ht2, sizeOf, typeInfo, zeroValue, hi1, hi4, hx, hn, h63, h48, Question.forced, hnew', hold', newRow, grownCap]
  congr 2
  apply Array.ext'
  simp [List.append_assoc]

def baseOf : Leaf → Option (Option Nat)
  | .nilsl => some none
  | .vec c => some (some c)
  | .slc c _ _ => some (some c)
  | _ => none

def appendD (Γ : Gam) (st : Sym) (id t t2 : Nat) (base src : Leaf) : Option Delta :=
  match elemTy Γ t, Γ t2 with
  | some (_, j, T), some i2 =>
    match i2.k with
    | .slice _ =>
      match baseOf base, srcList st T base, srcList st T src with
      | some (some c), some l, some m => some ⟨[(l.length + m.length) * j.bytes ≤ 140737488355328], oneS (.vec c), some (c, .arr T (l ++ m)), [c]⟩
      | some none, some l, some m => some ⟨[(l.length + m.length) * j.bytes ≤ 140737488355328], oneS (.vec id), some (id, .arr T (l ++ m)), [id]⟩
      | _, _, _ => none
    | _ => none
  | _, _ => none

theorem srcList_first (hch : ∀ c k, st.h c = some k → k.rep w I ρ (ρ c)) {T : Ty} {x : Leaf} {l : List T.den} {v : Value} (h : srcList st T x = some l) (hx : x.rep w I ρ v) :
    ∃ news : List Value, rowRep w I T news l ∧ (Builtin.lenOf v).run P w = .ok l.length w ∧ (∀ w' : World, w'.heap = w.heap → (Builtin.firstCells T.size l.length v).run P w' = .ok news.toArray w') := by
  obtain ⟨_, ad, cap, rfl, h1, h2⟩ := srcList_ok hch h hx
  cases ad with
  | none =>
    obtain ⟨rfl, rfl⟩ := h1 rfl
    exact ⟨[], rowRep_nil T, rfl, fun w' _ => rfl⟩
  | some p =>
    obtain ⟨hsp, h2⟩ := h2 p rfl
    obtain ⟨b, o, sp⟩ := p
    simp only at hsp
    subst hsp
    rcases h2 with rfl | ⟨c, el, fr, hg, hfit, hrow⟩
    · refine ⟨[], rowRep_nil T, rfl, fun w' _ => ?_⟩
      simp [Builtin.firstCells, loadCells, loadCellsFrom]
    · refine ⟨_, hrow, rfl, fun w' hw' => ?_⟩
      refine run_firstCells_some w' T.size l.length ⟨b, o, none⟩ l.length cap _ hrow.1 (fun j v hj => ?_)
      have hlen := seg_len hfit
      have hj' : j < l.length * T.size := by rw [← hlen]; exact (List.getElem?_eq_some_iff.1 hj).1
      rw [add_lit, cell_at (by rw [hw']; exact hg), ← seg_get hj']
      exact hj

/-- What is known of a slice that is appended to. -/
theorem base_ok (hch : ∀ c k, st.h c = some k → k.rep w I ρ (ρ c)) {T : Ty} {x : Leaf} {oc : Option Nat} {l : List T.den} {v : Value} (hb : baseOf x = some oc) (h : srcList st T x = some l) (hx : x.rep w I ρ v) :
    (v = .slice none 0 0 ∧ l = [] ∧ (∀ c, oc = some c → ρ c = none)) ∨
    ∃ c L o cap cs el, oc = some c ∧ (st.h c).isSome = true ∧ ρ c = some L ∧ v = .slice (some ⟨L.b, o, none⟩) l.length cap ∧ w.heap[L.b]? = some (.cells cs el (0, 0)) ∧ l.length ≤ cap ∧ (cap = 0 ∨ o + cap * T.size ≤ cs.size) ∧
      (∀ i y, l[i]? = some y → T.rep w I (seg cs (o + i * T.size) T.size) y) ∧ ∀ u ∈ cs.toList, u.oneCell' = true := by
  unfold srcList at h
  split at h
  · simp [baseOf] at hb
  · cases h
    simp only [baseOf, Option.some.injEq] at hb
    subst hb
    exact .inl ⟨hx, rfl, fun c e => by cases e⟩
  · rename_i c
    simp only [baseOf, Option.some.injEq] at hb
    subst hb
    split at h
    · rename_i T' l' hc
      split at h
      · rename_i e _
        subst e
        cases h
        have hr := hch c _ hc
        simp only [Leaf.rep] at hx
        cases hL : ρ c with
        | none =>
          rw [hL] at hr hx
          exact .inl ⟨hx, hr, fun c' e => by cases e; exact hL⟩
        | some L =>
          rw [hL] at hr hx
          obtain ⟨cap, rfl, hc1, hc2⟩ := hx
          obtain ⟨hz, hlen, hcap, hbig, cs, el, hg, hfit, hall, hone⟩ := hr
          refine .inr ⟨c, L, L.base, cap, cs, el, rfl, by simp [hc], hL, by rw [hlen], hg, by simp only; omega, ?_, hall, hone⟩
          rcases hfit with h | h
          · left; omega
          · right
            have : cap * T'.size ≤ L.cap * T'.size := Nat.mul_le_mul_right _ hc1
            rw [hz] at h; omega
      · cases h
    · cases h
  · rename_i c off len
    simp only [baseOf, Option.some.injEq] at hb
    subst hb
    split at h
    · rename_i T' l' hc
      split at h
      · rename_i e _
        subst e
        cases h
        have hr := hch c _ hc
        simp only [Leaf.rep] at hx
        cases hL : ρ c with
        | none =>
          rw [hL] at hr hx
          have hl : l' = [] := hr
          subst hl
          obtain ⟨rfl, rfl, rfl⟩ := hx
          exact .inl ⟨rfl, by simp, fun c' e => by cases e; exact hL⟩
        | some L =>
          rw [hL] at hr hx
          obtain ⟨cap, o, rfl, hc1, hc2, hc3, hc4⟩ := hx
          obtain ⟨hz, hlen, hcap, hbig, cs, el, hg, hfit, hall, hone⟩ := hr
          have hll : ((l'.drop off).take len).length = len := by simp; omega
          refine .inr ⟨c, L, o, cap, cs, el, rfl, by simp [hc], hL, by simp only [hll], hg, by simp only [hll]; exact hc2, ?_, ?_, hone⟩
          · rcases hc4 with h | h
            · exact .inl h
            · rcases Nat.eq_zero_or_pos cap with h0 | h0
              · exact .inl h0
              · right
                rcases hfit with h' | h'
                · omega
                · have : (off + cap) * T'.size ≤ L.cap * T'.size := Nat.mul_le_mul_right _ hc1
                  rw [Nat.add_mul] at this; rw [hz] at h' h; omega
          · intro i x hx
            have hi : i < len := by
              have := (List.getElem?_eq_some_iff.1 hx).1
              simp only [hll] at this; exact this
            have ho : o = L.base + off * L.sz := by
              rcases hc4 with h | h
              · omega
              · exact h
            simp only at hx
            rw [List.getElem?_take, if_pos hi, List.getElem?_drop] at hx
            have := hall _ x hx
            rwa [ho, hz, Nat.add_assoc, ← Nat.add_mul]
      · cases h
    · cases h
  · cases h

theorem append_core (hΓ : Γ.ok P) (hch : ∀ c k, st.h c = some k → k.rep w I ρ (ρ c)) (hout : ∀ c k L, st.h c = some k → ρ c = some L → ¬ I L.b) (hI : ∀ b, I b → b < w.heap.size)
    {t t2 e e2 ty : Nat} {j : TI} {T : Ty} (he : elemTy Γ t = some (e, j, T)) (ht2 : P.underlying t2 = some (.slice e2)) {base src : Leaf} {u v : Value} {l m : List T.den} {oc : Option Nat} {tgt : Nat} (ob : List Prop)
    (hb : baseOf base = some oc) (hl : srcList st T base = some l) (hm : srcList st T src = some m) (hx : base.rep w I ρ u) (hy : src.rep w I ρ v) (htgt : ∀ c, oc = some c → c = tgt)
    (hbytes : (l.length + m.length) * j.bytes ≤ 140737488355328) :
    Good P st I ρ w (Builtin.append_ #[t, t2] ty #[u, v]) ⟨ob, oneS (.vec tgt), some (tgt, .arr T (l ++ m)), [tgt]⟩ := by
  obtain ⟨h1, h2, h3, h4, h5⟩ := elemTy_ok hΓ he
  obtain ⟨news, hn1, hn2, hn3⟩ := srcList_first (P := P) hch hm hy
  have hbig : (l ++ m).length ≤ big := by
    have : l.length + m.length ≤ (l.length + m.length) * j.bytes := Nat.le_mul_of_pos_right _ h5
    simp only [List.length_append, big]; omega
  have hnone := rowRep_one hn1
  rw [h3] at hn3
  have hn1' := hn1.1
  rw [h3] at hn1'
  -- a new block
  have grow : ∀ (ad : Option Addr) (cap : Nat) (olds : List Value), rowRep w I T olds l → (∀ w' : World, w'.heap = w.heap → (Builtin.firstCells j.size l.length (.slice ad l.length cap)).run P w' = .ok olds.toArray w') → cap < l.length + m.length →
      Good P st I ρ w (Builtin.append_ #[t, t2] ty #[.slice ad l.length cap, v]) ⟨ob, oneS (.vec tgt), some (tgt, .arr T (l ++ m)), [tgt]⟩ := by
    intro ad cap olds ho1 ho2 hgrow
    obtain ⟨z, C, hz1, hz2, hC, hrun⟩ := run_append_new (ty := ty) h1 ht2 h2 hn2 hn3 ho2 hgrow hbytes h5
    have hzr := constLeafs_rep hz2 w I ρ
    generalize hcs : olds.toArray ++ news.toArray ++ Builtin.zeroCells z.cells (C - (l.length + m.length)) = cs at hrun
    have hrow := rowRep_app ho1 hn1
    have hcsl : cs.toList = (olds ++ news) ++ (Builtin.zeroCells z.cells (C - (l.length + m.length))).toList := by rw [← hcs]; simp
    have hsz : cs.size = C * T.size := by
      have hl2 := hrow.1
      have : cs.toList.length = C * T.size := by
        have hzl : (Builtin.zeroCells z.cells (C - (l.length + m.length))).toList.length = (C - (l.length + m.length)) * z.cells.size := by rw [Array.length_toList, size_zeroCells]
        rw [hcsl, List.length_append, hl2, hzl, hz1, h3, ← Nat.add_mul, List.length_append]
        congr 1; omega
      simpa using this
    refine ⟨_, _, I, (fun x => if x = tgt then some ⟨w.heap.size, 0, T.size, C, (l ++ m).length⟩ else ρ x), hrun, ?_, ?_⟩
    · refine Step.alloc st I ρ w (w.drew.alloc (.cells cs e)) (.cells cs e) ob _ tgt _ ⟨w.heap.size, 0, T.size, C, (l ++ m).length⟩ rfl hI rfl rfl rfl rfl ?_
      have hkeep : ∀ b, I b → I b ∧ (w.drew.alloc (.cells cs e)).heap[b]? = w.heap[b]? := fun b hb => ⟨hb, push_get (hI b hb)⟩
      refine ⟨rfl, rfl, by simp; omega, hbig, cs, e, heap_alloc_new w.drew _, .inr (by simp only [Nat.zero_add]; rw [hsz]; exact Nat.le_refl _), ?_, ?_⟩
      · intro i x hx
        have hi := (List.getElem?_eq_some_iff.1 hx).1
        have := hrow.2 i x hx
        refine Ty.rep_mono hkeep T ?_
        have hle : i * T.size + T.size ≤ (olds ++ news).length := by
          rw [hrow.1]
          have : (i + 1) * T.size ≤ (l ++ m).length * T.size := Nat.mul_le_mul_right _ hi
          rw [Nat.add_mul] at this; omega
        simp only [Nat.zero_add, seg, hcsl]
        rwa [List.drop_append_of_le_length (by omega), List.take_append_of_le_length (by simp only [List.length_drop]; omega)]
      · intro y hy
        rw [hcsl] at hy
        rcases List.mem_append.1 hy with h | h
        · exact rowRep_one hrow y h
        · have hz0 := hzr.left (p := fun v => v.oneCell' = true) fun _ _ k => k.1
          simp only [Builtin.zeroCells, Array.toList_map, Array.toList_range, List.mem_map, List.mem_range] at h
          obtain ⟨i, hi, rfl⟩ := h
          have hp : 0 < z.cells.size := by rw [hz1, ← h3]; exact h4
          have hm := Nat.mod_lt i hp
          have : z.cells[i % z.cells.size]! = z.cells[i % z.cells.size] := by simp [hm]
          rw [this]
          exact hz0 _ (by simp)
    · simp only [oneS, SV.rep, V0.rep, Leaf.rep, if_true]
      exact ⟨C, by simp, Nat.le_refl _, by simp; omega⟩
  rcases base_ok hch hb hl hx with ⟨rfl, rfl, hnil⟩ | ⟨c, L, o, cap, cs, el, rfl, hlive, hL, rfl, hg, hcl, hfit, hall, hones⟩
  · by_cases hm0 : m = []
    · subst hm0
      have hnews : news = [] := List.eq_nil_of_length_eq_zero (by simpa using hn1.1)
      subst hnews
      refine ⟨.slice none 0 0, w, I, (fun x => if x = tgt then none else ρ x), ?_, ?_, ?_⟩
      · have hf := hn3 w rfl
        simp only [List.length_nil] at hf hn2
        simp [Builtin.append_, run_underlying h1, run_underlying ht2, TI.run_sizeOf h2, hn2, hf]
      · refine ⟨fun _ _ _ => rfl, Nat.le_refl _, rfl, rfl, rfl, fun _ h => h, fun _ h => .inl h, ?_, ?_, ?_⟩
        · intro x hx
          simp only [List.mem_singleton] at hx
          simp [hx]
        · intro x hx
          simp only [List.mem_singleton] at hx
          subst hx; exact ⟨_, rfl⟩
        · intro x k hk
          simp only [Option.some.injEq, Prod.mk.injEq] at hk
          obtain ⟨rfl, rfl⟩ := hk
          refine ⟨by simp [Chunk.rep], fun L' hL' => by simp at hL'⟩
      · simp [oneS, SV.rep, V0.rep, Leaf.rep]
    · have hpos : 0 < m.length := List.length_pos_iff.2 hm0
      exact grow none 0 [] (rowRep_nil T) (fun w' _ => rfl) (by simp only [List.length_nil]; omega)
  · have hcb := htgt c rfl
    subst hcb
    by_cases hroom : l.length + m.length ≤ cap
    · have hfit' : o + (l.length + m.length) * j.size ≤ cs.size ∨ (cap = 0) := by
        rcases hfit with h | h
        · exact .inr h
        · left
          have : (l.length + m.length) * T.size ≤ cap * T.size := Nat.mul_le_mul_right _ hroom
          rw [← h3]; omega
      rcases hfit' with hfit' | h0
      · have hrun := run_append_in (ty := ty) h1 ht2 h2 hn2 (hn3 w rfl) hn1' hnone hroom hg hfit'
        refine ⟨_, _, I, (fun x => if x = c then some ⟨L.b, o, T.size, cap, (l ++ m).length⟩ else ρ x), hrun, ?_, ?_⟩
        · rw [← h3] at hfit' hn1' ⊢
          have hspl : o + l.length * T.size + news.length ≤ cs.size := by rw [hn1']; rw [Nat.add_mul] at hfit'; omega
          have hltb : L.b < w.heap.size := (Array.getElem?_eq_some_iff.1 hg).1
          have hnI : ¬ I L.b := by
            obtain ⟨k0, hk0⟩ := Option.isSome_iff_exists.1 hlive
            exact hout c k0 L hk0 hL
          have hkeep : ∀ b, I b → I b ∧ (w.setRow L.b (cs.toList.take (o + l.length * T.size) ++ news ++ cs.toList.drop (o + l.length * T.size + news.length)).toArray).heap[b]? = w.heap[b]? :=
            fun b hb => ⟨hb, setRow_other w L.b b _ (fun e => hnI (e ▸ hb))⟩
          refine ⟨?_, ?_, rfl, rfl, rfl, fun _ h => h, fun _ h => .inl h, ?_, ?_, ?_⟩
          · intro b _ hne
            exact setRow_other w L.b b _ (fun e => hne c _ L rfl hlive hL e.symm)
          · rw [(setRow_parts w L.b _).1]; exact Nat.le_refl _
          · intro x hx
            simp only [List.mem_singleton] at hx
            simp [hx]
          · intro x hx
            simp only [List.mem_singleton] at hx
            subst hx; exact ⟨_, rfl⟩
          · intro x k hk
            simp only [Option.some.injEq, Prod.mk.injEq] at hk
            obtain ⟨rfl, rfl⟩ := hk
            refine ⟨?_, fun L' hL' => ?_⟩
            · simp only [if_true]
              refine ⟨rfl, rfl, by simp; omega, hbig, _, el, setRow_heap w L.b cs _ el _ hg, ?_, ?_, ?_⟩
              · rw [splice_size hspl]
                rcases hfit with h | h
                · exact .inl h
                · exact .inr h
              · intro i y hy
                refine Ty.rep_mono hkeep T ?_
                by_cases hi : i < l.length
                · rw [List.getElem?_append_left hi] at hy
                  rw [seg_splice_apart hspl]
                  · exact hall i y hy
                  · left
                    have : (i + 1) * T.size ≤ l.length * T.size := Nat.mul_le_mul_right _ hi
                    rw [Nat.add_mul] at this
                    show o + i * T.size + T.size ≤ _
                    omega
                · rw [List.getElem?_append_right (by omega)] at hy
                  have hi2 : i - l.length < m.length := (List.getElem?_eq_some_iff.1 hy).1
                  have := hn1.2 _ y hy
                  have hsub : (i - l.length) * T.size + T.size ≤ news.length := by
                    rw [hn1']
                    have : (i - l.length + 1) * T.size ≤ m.length * T.size := Nat.mul_le_mul_right _ hi2
                    rw [Nat.add_mul] at this; omega
                  have hadd : i * T.size = l.length * T.size + (i - l.length) * T.size := by
                    rw [← Nat.add_mul]; congr 1; omega
                  have hs := seg_splice_in (cs := cs) (vs := news) (p := o + l.length * T.size) (sub := 0) (n := news.length) hspl (by omega)
                  simp only [Nat.add_zero, Nat.zero_add, List.take_zero, List.nil_append] at hs
                  have hdrop : (seg cs (o + l.length * T.size) news.length).drop news.length = [] := List.drop_eq_nil_of_le (by rw [seg_len hspl]; exact Nat.le_refl _)
                  rw [hdrop, List.append_nil] at hs
                  rw [hadd, ← Nat.add_assoc, ← seg_sub hsub, hs]
                  exact this
              · intro z hz
                simp only [List.mem_append] at hz
                rcases hz with (hz | hz) | hz
                · exact hones z (List.mem_of_mem_take hz)
                · exact hnone z hz
                · exact hones z (List.mem_of_mem_drop hz)
            · simp only [if_true, Option.some.injEq] at hL'
              subst hL'
              exact ⟨fun h => by simp only at h; omega, .inl ⟨L, hlive, hL, rfl⟩⟩
        · simp only [oneS, SV.rep, V0.rep, Leaf.rep, if_true]
          exact ⟨cap, by simp, Nat.le_refl _, by simp; omega⟩
      · -- no room at all, and nothing to append
        subst h0
        have hl0 : l = [] := List.eq_nil_of_length_eq_zero (by omega)
        have hm0 : m = [] := List.eq_nil_of_length_eq_zero (by omega)
        subst hl0; subst hm0
        have hnews : news = [] := List.eq_nil_of_length_eq_zero (by simpa using hn1.1)
        subst hnews
        have hltb : L.b < w.heap.size := (Array.getElem?_eq_some_iff.1 hg).1
        refine ⟨.slice (some ⟨L.b, o, none⟩) 0 0, w, I, (fun x => if x = c then some ⟨L.b, o, T.size, 0, 0⟩ else ρ x), ?_, ?_, ?_⟩
        · have hf := hn3 w rfl
          simp only [List.length_nil] at hf hn2
          simp [Builtin.append_, run_underlying h1, run_underlying ht2, TI.run_sizeOf h2, hn2, hf, storeCells]
        · refine ⟨fun _ _ _ => rfl, Nat.le_refl _, rfl, rfl, rfl, fun _ h => h, fun _ h => .inl h, ?_, ?_, ?_⟩
          · intro x hx
            simp only [List.mem_singleton] at hx
            simp [hx]
          · intro x hx
            simp only [List.mem_singleton] at hx
            subst hx; exact ⟨_, rfl⟩
          · intro x k hk
            simp only [Option.some.injEq, Prod.mk.injEq] at hk
            obtain ⟨rfl, rfl⟩ := hk
            refine ⟨?_, fun L' hL' => ?_⟩
            · simp only [if_true]
              exact ⟨rfl, rfl, by simp, by simp, cs, el, hg, .inl rfl, by simp, hones⟩
            · simp only [if_true, Option.some.injEq] at hL'
              subst hL'
              exact ⟨fun h => by simp only at h; omega, .inl ⟨L, hlive, hL, rfl⟩⟩
        · simp only [oneS, SV.rep, V0.rep, Leaf.rep, if_true]
          exact ⟨0, rfl, Nat.le_refl _, Nat.le_refl _⟩
    · have hlt : cap < l.length + m.length := by omega
      obtain ⟨olds, ho1, _, ho2⟩ := srcList_first (P := P) hch hl hx
      rw [h3] at ho2
      exact grow _ cap olds ho1 ho2 hlt

theorem appendD_ok (hΓ : Γ.ok P) (hch : ∀ c k, st.h c = some k → k.rep w I ρ (ρ c)) (hout : ∀ c k L, st.h c = some k → ρ c = some L → ¬ I L.b) (hI : ∀ b, I b → b < w.heap.size)
    {id t t2 ty : Nat} {base src : Leaf} {u v : Value} {d : Delta} (h : appendD Γ st id t t2 base src = some d) (hob : ∀ p ∈ d.ob, p) (hx : base.rep w I ρ u) (hy : src.rep w I ρ v) :
    Good P st I ρ w (Builtin.append_ #[t, t2] ty #[u, v]) d := by
  unfold appendD at h
  split at h
  · rename_i e j T i2 he hi2
    have h2 := (hΓ t2 i2 hi2).1
    split at h
    · rename_i e2 hk
      rw [hk] at h2
      split at h
      · rename_i c l m hb hl hm
        cases h
        exact append_core hΓ hch hout hI he h2 _ hb hl hm hx hy (fun c' e => by simpa using e.symm) (hob _ (by simp))
      · rename_i l m hb hl hm
        cases h
        exact append_core hΓ hch hout hI he h2 _ hb hl hm hx hy (fun c' e => by simp at e) (hob _ (by simp))
      · cases h
    · cases h
  · cases h

/-! ### Parts of values -/

def fieldV (Γ : Gam) (t : Nat) (x : V0) (f : Nat) : Option V0 :=
  match x, fieldInfo Γ t f with
  | .agg ls, some (o, j) =>
    match Nat.ble (o + j.size) ls.length with
    | true => mkV j.agg j.size ((ls.drop o).take j.size)
    | false => none
  | _, _ => none

theorem run_part {t : Nat} {j : TI} (hj : j.ok P t) {cs : Array Value} {o : Nat} {ls : List Leaf} {y : V0} (hm : mkV j.agg j.size ls = some y) (hfit : o + j.size ≤ cs.size) (hr : All2 (Leaf.rep w I ρ) (seg cs o j.size) ls) :
    ∃ u, (part t cs o).run P w = .ok u w ∧ y.rep w I ρ u := by
  obtain ⟨h1, h2⟩ := mkV_spec hm
  rcases h2 with ⟨ha, rfl⟩ | ⟨ha, z, rfl, rfl⟩
  · refine ⟨.agg (cs.extract o (o + j.size)), by simp [part, TI.run_isAgg hj, ha, TI.run_sizeOf hj], _, rfl, ?_⟩
    have : (cs.extract o (o + j.size)).toList = seg cs o j.size := by
      rw [Array.toList_extract, List.extract_eq_take_drop, Nat.add_sub_cancel_left]; rfl
    rw [this]; exact hr
  · have h1 : j.size = 1 := h1.symm
    have hlt : o < cs.size := by omega
    refine ⟨cs[o], by simp [part, TI.run_isAgg hj, ha, hlt], ?_⟩
    obtain ⟨a, ha1, ha2⟩ := hr.get (i := 0) (b := z) rfl
    rw [h1, seg_get (by omega)] at ha1
    simp only [Nat.add_zero, Array.getElem?_eq_getElem hlt, Option.some.injEq] at ha1
    rw [ha1]; exact ha2

theorem fieldV_ok (hΓ : Γ.ok P) {t f : Nat} {x y : V0} {v : Value} (h : fieldV Γ t x f = some y) (hx : x.rep w I ρ v) : ∃ u, (Instr.field t v f).run P w = .ok u w ∧ y.rep w I ρ u := by
  unfold fieldV at h
  split at h
  · rename_i ls o j hf
    obtain ⟨fields, fd, h1, h2, h3, h4⟩ := fieldInfo_ok hΓ hf
    split at h
    · rename_i hle
      have hle := Nat.le_of_ble_eq_true hle
      obtain ⟨cs, rfl, hall⟩ := hx
      have hlen := hall.length
      simp only [Array.length_toList] at hlen
      obtain ⟨u, h5, h6⟩ := run_part h4 (cs := cs) (o := o) h (by omega) ((hall.drop o).take j.size)
      refine ⟨u, ?_, h6⟩
      simp only [Instr.field, Sem.run_bind, run_underlying h1, Result.andThen_ok, h2, asAgg, Sem.run_pure, h3, h5]
    · cases h
  · cases h

/-- s[i] of a text; x[i] of an array that is a value, at an index that is written out. -/
def byteAt (s : ByteArray) (i : Nat) : Int := (s.data.toList.getD i 0).toNat

def indexV (Γ : Gam) (t : Nat) (x : V0) (lit : Option Nat) (i : Int) : Option (List Prop × V0) :=
  match Γ t with
  | none => none
  | some ti =>
    match ti.k, x with
    | .scal .string, .cell (.str s) => some ([0 ≤ i ∧ i < s.size], .cell (.int .u8 (byteAt s i.toNat)))
    | .array n e, .agg ls =>
      match Γ e, lit with
      | some j, some m =>
        match Nat.blt m n, Nat.ble (m * j.size + j.size) ls.length, mkV j.agg j.size ((ls.drop (m * j.size)).take j.size) with
        | true, true, some y => some ([i = m], y)
        | _, _, _ => none
      | _, _ => none
    | _, _ => none

theorem indexV_ok (hΓ : Γ.ok P) {t : Nat} {x y : V0} {lit : Option Nat} {i : Int} {k : IntKind} {v : Value} {ob : List Prop} (h : indexV Γ t x lit i = some (ob, y)) (hob : ∀ p ∈ ob, p) (hx : x.rep w I ρ v) :
    ∃ u, (Instr.index t v (.int k i)).run P w = .ok u w ∧ y.rep w I ρ u := by
  unfold indexV at h
  split at h
  · cases h
  · rename_i ti hti
    have h1 := (hΓ t ti hti).1
    split at h
    · rename_i s hk
      rw [hk] at h1
      simp only [Option.some.injEq, Prod.mk.injEq] at h
      obtain ⟨rfl, rfl⟩ := h
      obtain ⟨h0, hlt⟩ := hob _ (List.mem_singleton.2 rfl)
      obtain ⟨rfl, _⟩ := hx
      have hlt' : i.toNat < s.size := by omega
      have hget : s[i.toNat]? = some s[i.toNat] := by simp [getElem?_pos, hlt']
      have hb : byteAt s i.toNat = (s[i.toNat].toNat : Int) := by
        unfold byteAt
        have : s.data.toList[i.toNat]? = some s[i.toNat] := by
          rw [Array.getElem?_toList]; simp [ByteArray.getElem_eq_getElem_data, Array.getElem?_eq_getElem (show i.toNat < s.data.size from hlt')]
        simp [List.getD, this]
      refine ⟨.int .u8 s[i.toNat].toNat, ?_, by rw [hb], ?_⟩
      · simp only [Instr.index, Sem.run_bind, asIntOf, Sem.run_pure, Result.andThen_ok, run_underlying h1.1, h0, if_true, hget]
      · rw [hb, inR_u8]
        have := s[i.toNat].toNat_lt
        omega
    · rename_i n e ls hk
      rw [hk] at h1
      split at h
      · rename_i j m hj
        split at h
        · rename_i y' h2 h3 h4
          simp only [Option.some.injEq, Prod.mk.injEq] at h
          obtain ⟨rfl, rfl⟩ := h
          have hi : i = m := hob _ (List.mem_singleton.2 rfl)
          have h2 : m < n := Nat.le_of_ble_eq_true h2
          have h3 := Nat.le_of_ble_eq_true h3
          obtain ⟨cs, rfl, hall⟩ := hx
          have hlen := hall.length
          simp only [Array.length_toList] at hlen
          obtain ⟨u, h5, h6⟩ := run_part (hΓ e j hj) (cs := cs) (o := m * j.size) h4 (by omega) ((hall.drop _).take j.size)
          refine ⟨u, ?_, h6⟩
          have hc : 0 ≤ i ∧ i < n := by omega
          subst hi
          simp [Instr.index, asIntOf, run_underlying h1, h2, TI.run_sizeOf (hΓ e j hj), h5]
        · cases h
      · cases h
    · cases h

end
end Go.Sx
