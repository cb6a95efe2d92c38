/- The words of a verified generator of conditions over the kit's Code.wp: types with pure values, symbolic values, owned blocks, and what they say of a world. Conditions: none (definitions and lemmas for any program). -/
import Derived.WalkKit
import Derived.Orders
import Derived.Laws.CopyRow
set_option linter.unusedSimpArgs false
set_option linter.unusedVariables false
namespace Go.Sx
open Go

/-- The shape of a value in cells, and its pure value. -/
inductive Ty where
  | int (k : IntKind) | bool | str | unit | prod (a b : Ty) | sl (e : Ty)
  deriving DecidableEq

@[reducible] def Ty.den : Ty → Type
  | .int _ => Int
  | .bool => Bool
  | .str => ByteArray
  | .unit => Unit
  | .prod a b => a.den × b.den
  | .sl e => List e.den

def Ty.size : Ty → Nat
  | .int _ => 1
  | .bool => 1
  | .str => 1
  | .unit => 0
  | .prod a b => a.size + b.size
  | .sl _ => 1

def Ty.dflt : (T : Ty) → T.den
  | .int _ => (0 : Int)
  | .bool => false
  | .str => ByteArray.empty
  | .unit => ()
  | .prod a b => (a.dflt, b.dflt)
  | .sl _ => []

/-- Two lists, element by element. -/
def All2 {α β : Type} (R : α → β → Prop) : List α → List β → Prop
  | [], [] => True
  | a :: as, b :: bs => R a b ∧ All2 R as bs
  | _, _ => False

section all2
variable {α β : Type} {R R' : α → β → Prop}
theorem All2.length : ∀ {as : List α} {bs : List β}, All2 R as bs → as.length = bs.length
  | [], [], _ => rfl
  | _ :: _, _ :: _, h => by simp [All2.length h.2]
  | [], _ :: _, h => h.elim
  | _ :: _, [], h => h.elim
theorem All2.mono (hr : ∀ a b, R a b → R' a b) : ∀ {as : List α} {bs : List β}, All2 R as bs → All2 R' as bs
  | [], [], _ => trivial
  | _ :: _, _ :: _, h => ⟨hr _ _ h.1, All2.mono hr h.2⟩
  | [], _ :: _, h => h.elim
  | _ :: _, [], h => h.elim
theorem All2.app : ∀ {as : List α} {bs : List β} {cs : List α} {ds : List β}, All2 R as bs → All2 R cs ds → All2 R (as ++ cs) (bs ++ ds)
  | [], [], _, _, _, h => h
  | _ :: _, _ :: _, _, _, h, k => ⟨h.1, All2.app h.2 k⟩
  | [], _ :: _, _, _, h, _ => h.elim
  | _ :: _, [], _, _, h, _ => h.elim
theorem All2.drop : ∀ (n : Nat) {as : List α} {bs : List β}, All2 R as bs → All2 R (as.drop n) (bs.drop n)
  | 0, _, _, h => h
  | _ + 1, [], [], _ => trivial
  | n + 1, _ :: _, _ :: _, h => All2.drop n h.2
  | _ + 1, [], _ :: _, h => h.elim
  | _ + 1, _ :: _, [], h => h.elim
theorem All2.take : ∀ (n : Nat) {as : List α} {bs : List β}, All2 R as bs → All2 R (as.take n) (bs.take n)
  | 0, _, _, _ => trivial
  | _ + 1, [], [], _ => trivial
  | n + 1, _ :: _, _ :: _, h => ⟨h.1, All2.take n h.2⟩
  | _ + 1, [], _ :: _, h => h.elim
  | _ + 1, _ :: _, [], h => h.elim
theorem All2.get : ∀ {as : List α} {bs : List β} (_ : All2 R as bs) {i : Nat} {b : β}, bs[i]? = some b → ∃ a, as[i]? = some a ∧ R a b
  | [], [], _, _, _, h => by simp at h
  | a :: _, b :: _, h, 0, _, e => by
    simp only [List.getElem?_cons_zero, Option.some.injEq] at e; subst e; exact ⟨a, by simp, h.1⟩
  | _ :: _, _ :: _, h, i + 1, b, e => by
    simp only [List.getElem?_cons_succ] at e; simpa using All2.get h.2 e
  | [], _ :: _, h, _, _, _ => h.elim
  | _ :: _, [], h, _, _, _ => h.elim
theorem All2.get' : ∀ {as : List α} {bs : List β} (_ : All2 R as bs) {i : Nat} {a : α}, as[i]? = some a → ∃ b, bs[i]? = some b ∧ R a b
  | [], [], _, _, _, h => by simp at h
  | a :: _, b :: _, h, 0, _, e => by
    simp only [List.getElem?_cons_zero, Option.some.injEq] at e; subst e; exact ⟨b, by simp, h.1⟩
  | _ :: _, _ :: _, h, i + 1, b, e => by
    simp only [List.getElem?_cons_succ] at e; simpa using All2.get' h.2 e
  | [], _ :: _, h, _, _, _ => h.elim
  | _ :: _, [], h, _, _, _ => h.elim
theorem All2.single {a : α} {b : β} (h : R a b) : All2 R [a] [b] := ⟨h, trivial⟩
theorem All2.rep {a : α} {b : β} (h : R a b) : ∀ n, All2 R (List.replicate n a) (List.replicate n b)
  | 0 => trivial
  | n + 1 => ⟨h, All2.rep h n⟩
theorem All2.left {p : α → Prop} (hp : ∀ a b, R a b → p a) : ∀ {as : List α} {bs : List β}, All2 R as bs → ∀ a ∈ as, p a
  | [], [], _, _, h => by simp at h
  | _ :: _, _ :: _, h, x, hx => by
    rcases List.mem_cons.1 hx with e | e
    · subst e; exact hp _ _ h.1
    · exact All2.left hp h.2 x e
  | [], _ :: _, h, _, _ => h.elim
  | _ :: _, [], h, _, _ => h.elim
theorem All2.map {γ : Type} {f : β → γ} {S : α → γ → Prop} (h : ∀ a b, R a b → S a (f b)) : ∀ {as : List α} {bs : List β}, All2 R as bs → All2 S as (bs.map f)
  | [], [], _ => trivial
  | _ :: _, _ :: _, k => ⟨h _ _ k.1, All2.map h k.2⟩
  | [], _ :: _, k => k.elim
  | _ :: _, [], k => k.elim
end all2

/-- 2^47: a length. -/
def big : Nat := 140737488355328

/-- n cells from o on. -/
def seg (cs : Array Value) (o n : Nat) : List Value := (cs.toList.drop o).take n

theorem seg_len {cs : Array Value} {o n : Nat} (h : o + n ≤ cs.size) : (seg cs o n).length = n := by
  simp [seg]; omega

theorem seg_get {cs : Array Value} {o n j : Nat} (h : j < n) : (seg cs o n)[j]? = cs[o + j]? := by
  simp [seg, h, List.getElem?_drop]

theorem seg_sub {cs : Array Value} {o n p m : Nat} (h : p + m ≤ n) : ((seg cs o n).drop p).take m = seg cs (o + p) m := by
  apply List.ext_getElem?
  intro j
  by_cases hj : j < m
  · simp only [List.getElem?_take, hj, if_true, List.getElem?_drop, seg_get (show p + j < n by omega), seg_get hj]
    congr 1; omega
  · simp [List.getElem?_take, hj, seg]

/-- A number is of its kind. -/
def inR (k : IntKind) (n : Int) : Prop := k.min ≤ n ∧ n ≤ k.max

/-- Cells read as a pure value; what lies behind pointers lies in blocks of I. -/
def Ty.rep (w : World) (I : Nat → Prop) : (T : Ty) → List Value → T.den → Prop
  | .int k, cs, n => cs = [.int k n] ∧ inR k n
  | .bool, cs, b => cs = [.bool b]
  | .str, cs, s => cs = [.string s] ∧ s.size ≤ big
  | .unit, cs, _ => cs = []
  | .prod a b, cs, x => ∃ c d, cs = c ++ d ∧ a.rep w I c x.1 ∧ b.rep w I d x.2
  | .sl e, cs, l => ∃ ad cap, cs = [.slice ad l.length cap] ∧ l.length ≤ cap ∧ l.length ≤ big ∧
      match ad with
      | none => l = [] ∧ cap = 0
      | some p => p.spot = none ∧ (l = [] ∨ (I p.block ∧ ∃ c el fr, w.heap[p.block]? = some (.cells c el fr) ∧ p.off + l.length * e.size ≤ c.size ∧
          ∀ i x, l[i]? = some x → e.rep w I (seg c (p.off + i * e.size) e.size) x))

theorem Ty.rep_mono {w w' : World} {I I' : Nat → Prop} (h : ∀ b, I b → I' b ∧ w'.heap[b]? = w.heap[b]?) : ∀ (T : Ty) {cs : List Value} {x : T.den}, T.rep w I cs x → T.rep w' I' cs x
  | .int _, _, _, k => k
  | .bool, _, _, k => k
  | .str, _, _, k => k
  | .unit, _, _, k => k
  | .prod a b, _, _, ⟨c, d, e, p, q⟩ => ⟨c, d, e, Ty.rep_mono h a p, Ty.rep_mono h b q⟩
  | .sl e, _, l, ⟨ad, cap, h1, h2, h3, h4⟩ => by
    refine ⟨ad, cap, h1, h2, h3, ?_⟩
    cases ad with
    | none => exact h4
    | some p =>
      refine ⟨h4.1, ?_⟩
      rcases h4.2 with h5 | ⟨h5, c, el, fr, h6, h7, h8⟩
      · exact .inl h5
      · exact .inr ⟨(h _ h5).1, c, el, fr, by rw [(h _ h5).2]; exact h6, h7, fun i x hx => Ty.rep_mono h e (h8 i x hx)⟩

theorem Ty.rep_len {w : World} {I : Nat → Prop} : ∀ (T : Ty) {cs : List Value} {x : T.den}, T.rep w I cs x → cs.length = T.size
  | .int _, _, _, k => by rw [k.1]; rfl
  | .bool, _, _, k => by rw [k]; rfl
  | .str, _, _, k => by rw [k.1]; rfl
  | .unit, _, _, k => by rw [k]; rfl
  | .prod a b, _, _, ⟨c, d, e, p, q⟩ => by rw [e, List.length_append, Ty.rep_len a p, Ty.rep_len b q]; rfl
  | .sl e, _, l, ⟨ad, cap, h1, _⟩ => by rw [h1]; rfl

theorem Ty.rep_one {w : World} {I : Nat → Prop} : ∀ (T : Ty) {cs : List Value} {x : T.den}, T.rep w I cs x → ∀ v ∈ cs, v.oneCell' = true
  | .int _, _, _, k => by rw [k.1]; simp [Value.oneCell']
  | .bool, _, _, k => by rw [k]; simp [Value.oneCell']
  | .str, _, _, k => by rw [k.1]; simp [Value.oneCell']
  | .unit, _, _, k => by rw [k]; simp
  | .prod a b, _, _, ⟨c, d, e, p, q⟩ => by
    rw [e]; intro v hv
    rcases List.mem_append.1 hv with h | h
    · exact Ty.rep_one a p v h
    · exact Ty.rep_one b q v h
  | .sl e, _, l, ⟨ad, cap, h1, _⟩ => by rw [h1]; simp [Value.oneCell']

/-- A symbolic cell. -/
inductive Leaf where
  | junk
  | int (k : IntKind) (n : Int)
  | bool (b : Bool)
  | str (s : ByteArray)
  | isl (e : Ty) (l : List e.den)
  | nilsl | nilptr | nilmap | nilfn | niliface
  | ref (c off : Nat)
  | eref (c i sub : Nat)
  | iptr (T : Ty) (x : T.den) (sub : Nat)
  | vec (c : Nat)
  | slc (c off len : Nat)
  | mapr (c : Nat)
  | clo (f : Nat) (caps : List Nat)
  | cb (p q : Prop)
  | ex (e : Ty) (p : List e.den → Prop)

/-- Where an owned block lies: its number, its first cell, the cells of an element, how many elements it can hold, how many it holds. -/
structure Loc where
  b : Nat
  base : Nat
  sz : Nat
  cap : Nat
  len : Nat

abbrev Rho := Nat → Option Loc

def Leaf.rep (w : World) (I : Nat → Prop) (ρ : Rho) (v : Value) : Leaf → Prop
  | .junk => True
  | .int k n => v = .int k n ∧ inR k n
  | .bool b => v = .bool b
  | .str s => v = .string s ∧ s.size ≤ big
  | .isl e l => (Ty.sl e).rep w I [v] l
  | .nilsl => v = .slice none 0 0
  | .nilptr => v = .pointer none
  | .nilmap => v = .map none
  | .nilfn => v = .nilFunc
  | .niliface => v = .nilIface
  | .ref c off => ∃ L, ρ c = some L ∧ v = .pointer (some ⟨L.b, L.base + off, none⟩)
  | .eref c i sub => ∃ L, ρ c = some L ∧ v = .pointer (some ⟨L.b, L.base + i * L.sz + sub, none⟩) ∧ i < L.len
  | .iptr T x sub => ∃ b o cs el fr, v = .pointer (some ⟨b, o + sub, none⟩) ∧ I b ∧ w.heap[b]? = some (.cells cs el fr) ∧ o + T.size ≤ cs.size ∧ T.rep w I (seg cs o T.size) x
  | .vec c =>
    match ρ c with
    | none => v = .slice none 0 0
    | some L => ∃ cap, v = .slice (some ⟨L.b, L.base, none⟩) L.len cap ∧ cap ≤ L.cap ∧ L.len ≤ cap
  | .slc c off len =>
    match ρ c with
    | none => v = .slice none 0 0 ∧ off = 0 ∧ len = 0
    | some L => ∃ cap o, v = .slice (some ⟨L.b, o, none⟩) len cap ∧ off + cap ≤ L.cap ∧ len ≤ cap ∧ off + len ≤ L.len ∧ (cap = 0 ∨ o = L.base + off * L.sz)
  | .mapr c => ∃ L, ρ c = some L ∧ v = .map (some L.b)
  | .clo f caps => ∃ vs : Array Value, v = .func (.func f) #[] vs ∧ All2 (fun v c => ∃ L, ρ c = some L ∧ v = .pointer (some ⟨L.b, L.base, none⟩)) vs.toList caps
  | .cb p q => ∃ b : Bool, v = .bool b ∧ (b = true → p) ∧ (b = false → q)
  | .ex e p => ∃ l, p l ∧ (Ty.sl e).rep w I [v] l

def Leaf.isJunk : Leaf → Bool
  | .junk => true
  | _ => false

/-- A symbolic cell says something of chunk c. -/
def Leaf.has (c : Nat) : Leaf → Bool
  | .ref d _ => Nat.beq d c
  | .eref d _ _ => Nat.beq d c
  | .vec d => Nat.beq d c
  | .slc d _ _ => Nat.beq d c
  | .mapr d => Nat.beq d c
  | .clo _ caps => caps.any (Nat.beq · c)
  | _ => false

def Leaf.kill1 (c : Nat) (x : Leaf) : Leaf :=
  match x.has c with
  | true => .junk
  | false => x

/-- A cell that speaks of chunk d, unless d is among the killed. -/
def killD (k : List Nat) (d : Nat) (x : Leaf) : Leaf :=
  match k.any (Nat.beq d) with
  | true => .junk
  | false => x

def Leaf.kill (k : List Nat) (x : Leaf) : Leaf :=
  match x with
  | .ref d o => killD k d (.ref d o)
  | .eref d i o => killD k d (.eref d i o)
  | .vec d => killD k d (.vec d)
  | .slc d o l => killD k d (.slc d o l)
  | .mapr d => killD k d (.mapr d)
  | .clo f caps =>
    match caps.any (fun d => k.any (Nat.beq d)) with
    | true => .junk
    | false => .clo f caps
  | x => x

theorem Leaf.kill_nil (x : Leaf) : Leaf.kill [] x = x := by
  cases x with
  | clo f caps =>
    have e : caps.any (fun d => ([] : List Nat).any (Nat.beq d)) = false := by
      induction caps with
      | nil => rfl
      | cons a l ih => rw [List.any_cons, ih]; rfl
    simp only [Leaf.kill]
    rw [e]
  | _ => rfl

theorem Leaf.junk_kill (k : List Nat) : Leaf.kill k .junk = .junk := rfl

theorem Leaf.kill_cons (c : Nat) (k : List Nat) (x : Leaf) : Leaf.kill (c :: k) x = (x.kill1 c).kill k := by
  have hd : ∀ (d : Nat) (y : Leaf), y.kill k = killD k d y → killD (c :: k) d y = (match Nat.beq d c with | true => Leaf.junk | false => y : Leaf).kill k := by
    intro d y hy
    unfold killD at *
    rw [List.any_cons]
    cases Nat.beq d c with
    | true => rfl
    | false => simp only [Bool.false_or]; exact hy.symm
  cases x with
  | clo f caps =>
    have e : caps.any (fun d => (c :: k).any (Nat.beq d)) = (caps.any (Nat.beq · c) || caps.any (fun d => k.any (Nat.beq d))) := by
      induction caps with
      | nil => rfl
      | cons a l ih =>
        simp only [List.any_cons] at ih ⊢
        rw [ih]
        cases Nat.beq a c <;> cases k.any (Nat.beq a) <;> cases l.any (fun x => Nat.beq x c) <;> simp
    simp only [Leaf.kill, Leaf.kill1, Leaf.has]
    rw [e]
    cases caps.any (Nat.beq · c) with
    | true => rfl
    | false => rfl
  | ref d o => exact hd d _ rfl
  | eref d i o => exact hd d _ rfl
  | vec d => exact hd d _ rfl
  | slc d o l => exact hd d _ rfl
  | mapr d => exact hd d _ rfl
  | _ => rfl

/-- A value: one cell, or a struct's or array's cells. -/
inductive V0 where
  | cell (x : Leaf)
  | agg (xs : List Leaf)

def V0.rep (w : World) (I : Nat → Prop) (ρ : Rho) (v : Value) : V0 → Prop
  | .cell x => x.rep w I ρ v
  | .agg xs => ∃ cs : Array Value, v = .agg cs ∧ All2 (Leaf.rep w I ρ) cs.toList xs

def V0.kill (k : List Nat) : V0 → V0
  | .cell x => .cell (x.kill k)
  | .agg xs => .agg (xs.map (·.kill k))

inductive SV where
  | one (v : V0)
  | tup (vs : List V0)

def SV.rep (w : World) (I : Nat → Prop) (ρ : Rho) (v : Value) : SV → Prop
  | .one x => x.rep w I ρ v
  | .tup xs => ∃ cs : Array Value, v = .tuple cs ∧ All2 (V0.rep w I ρ) cs.toList xs

def SV.kill (k : List Nat) : SV → SV
  | .one x => .one (x.kill k)
  | .tup xs => .tup (xs.map (·.kill k))

/-- What an owned block holds. -/
inductive Chunk where
  | cells (ls : List Leaf)
  | arr (e : Ty) (l : List e.den)
  | mp (k e : Ty) (ea : Bool) (l : List (k.den × e.den))

/-- A value of a type, one cell or a struct's cells. -/
def Ty.valRep (w : World) (I : Nat → Prop) (T : Ty) (ag : Bool) (v : Value) (x : T.den) : Prop :=
  match ag with
  | true => ∃ cs : Array Value, v = .agg cs ∧ T.rep w I cs.toList x
  | false => T.rep w I [v] x

theorem Ty.valRep_mono {w w' : World} {I I' : Nat → Prop} (h : ∀ b, I b → I' b ∧ w'.heap[b]? = w.heap[b]?) {T : Ty} {ag : Bool} {v : Value} {x : T.den} (k : T.valRep w I ag v x) : T.valRep w' I' ag v x := by
  cases ag with
  | true => obtain ⟨cs, p, q⟩ := k; exact ⟨cs, p, Ty.rep_mono h T q⟩
  | false => exact Ty.rep_mono h T k

/-- The entries of a map read as pairs. -/
def entryRep (w : World) (I : Nat → Prop) (k e : Ty) (ea : Bool) (m : MapEntry) (p : k.den × e.den) : Prop :=
  k.rep w I [m.key] p.1 ∧ e.valRep w I ea m.val p.2

def Chunk.rep (w : World) (I : Nat → Prop) (ρ : Rho) (loc : Option Loc) : Chunk → Prop
  | .cells ls => ∃ L cs el, loc = some L ∧ L.base = 0 ∧ w.heap[L.b]? = some (.cells cs el (0, 0)) ∧ All2 (fun v x => v.oneCell' = true ∧ Leaf.rep w I ρ v x) cs.toList ls
  | .arr e l =>
    match loc with
    | none => l = []
    | some L => L.sz = e.size ∧ L.len = l.length ∧ l.length ≤ L.cap ∧ l.length ≤ big ∧ ∃ cs el, w.heap[L.b]? = some (.cells cs el (0, 0)) ∧ (L.cap = 0 ∨ L.base + L.cap * L.sz ≤ cs.size) ∧
        (∀ i x, l[i]? = some x → e.rep w I (seg cs (L.base + i * e.size) e.size) x) ∧ ∀ v ∈ cs.toList, v.oneCell' = true
  | .mp k e ea l => ∃ L es clock, loc = some L ∧ w.heap[L.b]? = some (.map es clock) ∧ All2 (entryRep w I k e ea) es.toList l

def Chunk.kill (k : List Nat) : Chunk → Chunk
  | .cells ls => .cells (ls.map (·.kill k))
  | x => x

/-- A temporary: the guards under which it was written, and its value. -/
structure Entry where
  g : List (Nat × Bool)
  v : SV

/-- A symbolic state. -/
structure Sym where
  n : Nat
  t : Nat → Entry
  h : Nat → Option Chunk
  gs : Nat → Bool
  mv : List Nat

/-- Whether a guard's temporary says yes. -/
def Sym.cond (st : Sym) (l : Nat × Bool) : Bool :=
  match (st.t l.1).v with
  | .one (.cell (.bool b)) => b == l.2
  | _ => false

def Sym.all (st : Sym) (ls : List (Nat × Bool)) : Prop := ∀ l ∈ ls, st.cond l = true

def Entry.rep (w : World) (I : Nat → Prop) (ρ : Rho) (st : Sym) (v : Value) (e : Entry) : Prop :=
  (st.all e.g → e.v.rep w I ρ v) ∧ (¬ st.all e.g → v = undef)

/-- What a symbolic state says of a frame and a world; B0, I0, w0, ρ0: the owned blocks, the blocks that are only read, the world, and the places of the chunks with numbers below 100 when the function began. -/
structure Rel (B0 I0 : Nat → Prop) (w0 : World) (ρ0 : Rho) (st : Sym) (I : Nat → Prop) (ρ : Rho) (a : Act) (w : World) : Prop where
  tm : ∀ t, (st.t t).rep w I ρ st (a.tmps.getD t undef)
  ch : ∀ c k, st.h c = some k → k.rep w I ρ (ρ c)
  sep : ∀ c d k k' L M, st.h c = some k → st.h d = some k' → c ≠ d → ρ c = some L → ρ d = some M → L.b ≠ M.b
  out : ∀ c k L, st.h c = some k → ρ c = some L → ¬ I L.b
  ilt : ∀ b, I b → b < w.heap.size
  lab : ∀ t l, l ∈ (st.t t).g → st.gs l.1 = true
  sz : a.tmps.size = st.n
  df : a.defers = []
  stab : ∀ c, c < 100 → c ∉ st.mv → ρ c = ρ0 c
  own : ∀ c k L, st.h c = some k → ρ c = some L → B0 L.b ∨ w0.heap.size ≤ L.b
  imm : ∀ b, I b → I0 b ∨ B0 b ∨ w0.heap.size ≤ b
  im0 : ∀ b, I0 b → I b
  fr : ∀ b, b < w0.heap.size → ¬ B0 b → w.heap[b]? = w0.heap[b]?
  os : w.os = w0.os
  tape : w.tape = w0.tape
  output : w.output = w0.output
  size : w0.heap.size ≤ w.heap.size

/-! ### What stays when the world goes on -/

theorem Leaf.rep_mono {w w' : World} {I I' : Nat → Prop} {ρ ρ' : Rho} {v : Value} (h : ∀ b, I b → I' b ∧ w'.heap[b]? = w.heap[b]?) :
    ∀ {x : Leaf}, (∀ c, x.has c = true → ρ' c = ρ c) → x.rep w I ρ v → x.rep w' I' ρ' v
  | .junk, _, _ => trivial
  | .int _ _, _, k => k
  | .bool _, _, k => k
  | .str _, _, k => k
  | .isl _ _, _, k => Ty.rep_mono h _ k
  | .nilsl, _, k => k
  | .nilptr, _, k => k
  | .nilmap, _, k => k
  | .nilfn, _, k => k
  | .niliface, _, k => k
  | .cb _ _, _, k => k
  | .ex _ _, _, ⟨l, p, k⟩ => ⟨l, p, Ty.rep_mono h _ k⟩
  | .ref c _, hr, ⟨L, p, q⟩ => ⟨L, by rw [hr c (by simp [Leaf.has])]; exact p, q⟩
  | .eref c _ _, hr, ⟨L, p, q⟩ => ⟨L, by rw [hr c (by simp [Leaf.has])]; exact p, q⟩
  | .iptr T _ _, _, ⟨b, o, cs, el, fr, p, q, r, s, t⟩ => ⟨b, o, cs, el, fr, p, (h b q).1, by rw [(h b q).2]; exact r, s, Ty.rep_mono h T t⟩
  | .vec c, hr, k => by simp only [Leaf.rep] at *; rw [hr c (by simp [Leaf.has])]; exact k
  | .slc c _ _, hr, k => by simp only [Leaf.rep] at *; rw [hr c (by simp [Leaf.has])]; exact k
  | .mapr c, hr, ⟨L, p, q⟩ => ⟨L, by rw [hr c (by simp [Leaf.has])]; exact p, q⟩
  | .clo _ caps, hr, ⟨vs, p, q⟩ => by
    refine ⟨vs, p, ?_⟩
    have hall : ∀ c ∈ caps, ρ' c = ρ c := fun c hc => hr c (by simp only [Leaf.has, List.any_eq_true]; exact ⟨c, hc, by simp⟩)
    clear hr p
    generalize vs.toList = l at *
    induction l generalizing caps with
    | nil => cases caps <;> simp_all [All2]
    | cons a l ih =>
      cases caps with
      | nil => simp [All2] at q
      | cons c cs =>
        obtain ⟨⟨L, p1, p2⟩, q2⟩ := q
        exact ⟨⟨L, by rw [hall c (by simp)]; exact p1, p2⟩, ih cs (fun d hd => hall d (by simp [hd])) q2⟩

theorem V0.rep_mono {w w' : World} {I I' : Nat → Prop} {ρ ρ' : Rho} {v : Value} (h : ∀ b, I b → I' b ∧ w'.heap[b]? = w.heap[b]?)
    (hr : ∀ c, ρ' c = ρ c) : ∀ {x : V0}, x.rep w I ρ v → x.rep w' I' ρ' v
  | .cell _, k => Leaf.rep_mono h (fun c _ => hr c) k
  | .agg _, ⟨cs, p, q⟩ => ⟨cs, p, q.mono fun _ _ k => Leaf.rep_mono h (fun c _ => hr c) k⟩

theorem SV.rep_mono {w w' : World} {I I' : Nat → Prop} {ρ ρ' : Rho} {v : Value} (h : ∀ b, I b → I' b ∧ w'.heap[b]? = w.heap[b]?)
    (hr : ∀ c, ρ' c = ρ c) : ∀ {x : SV}, x.rep w I ρ v → x.rep w' I' ρ' v
  | .one _, k => V0.rep_mono h hr k
  | .tup _, ⟨cs, p, q⟩ => ⟨cs, p, q.mono fun _ _ k => V0.rep_mono h hr k⟩

theorem Leaf.kill1_not (c : Nat) (x : Leaf) : (x.kill1 c).has c = false := by
  unfold Leaf.kill1
  split
  · rfl
  · assumption

theorem Leaf.kill1_has {c d : Nat} {x : Leaf} (h : (x.kill1 c).has d = true) : x.has d = true ∧ d ≠ c := by
  unfold Leaf.kill1 at h
  split at h
  · simp [Leaf.has] at h
  · rename_i hx
    refine ⟨h, fun e => ?_⟩
    subst e; rw [hx] at h; cases h

theorem Leaf.kill_has : ∀ (k : List Nat) {d : Nat} {x : Leaf}, (x.kill k).has d = true → x.has d = true ∧ d ∉ k
  | [], _, _, h => ⟨by rw [Leaf.kill_nil] at h; exact h, by simp⟩
  | c :: k, d, x, h => by
    rw [Leaf.kill_cons] at h
    have h1 := Leaf.kill_has k h
    have h2 := Leaf.kill1_has h1.1
    exact ⟨h2.1, by simp only [List.mem_cons, not_or]; exact ⟨h2.2, h1.2⟩⟩

theorem Leaf.kill1_rep {w : World} {I : Nat → Prop} {ρ : Rho} {v : Value} {x : Leaf} (c : Nat) (h : x.rep w I ρ v) : (x.kill1 c).rep w I ρ v := by
  unfold Leaf.kill1
  split
  · trivial
  · exact h

theorem Leaf.kill_rep' {w : World} {I : Nat → Prop} {ρ : Rho} {v : Value} : ∀ (k : List Nat) {x : Leaf}, x.rep w I ρ v → (x.kill k).rep w I ρ v
  | [], _, h => by rw [Leaf.kill_nil]; exact h
  | c :: k, _, h => by rw [Leaf.kill_cons]; exact Leaf.kill_rep' k (Leaf.kill1_rep c h)

/-- A world that goes on: what is only read stays, and the places of all but the killed chunks. -/
theorem Leaf.kill_rep {w w' : World} {I I' : Nat → Prop} {ρ ρ' : Rho} {v : Value} {x : Leaf} (k : List Nat) (h : ∀ b, I b → I' b ∧ w'.heap[b]? = w.heap[b]?)
    (hr : ∀ c, c ∉ k → ρ' c = ρ c) (hx : x.rep w I ρ v) : (x.kill k).rep w' I' ρ' v :=
  Leaf.rep_mono h (fun c hc => hr c (Leaf.kill_has k hc).2) (Leaf.kill_rep' k hx)

theorem V0.kill_rep {w w' : World} {I I' : Nat → Prop} {ρ ρ' : Rho} {v : Value} (k : List Nat) (h : ∀ b, I b → I' b ∧ w'.heap[b]? = w.heap[b]?)
    (hr : ∀ c, c ∉ k → ρ' c = ρ c) : ∀ {x : V0}, x.rep w I ρ v → (x.kill k).rep w' I' ρ' v
  | .cell _, p => Leaf.kill_rep k h hr p
  | .agg _, ⟨cs, p, q⟩ => ⟨cs, p, q.map fun _ _ p => Leaf.kill_rep k h hr p⟩

theorem SV.kill_rep {w w' : World} {I I' : Nat → Prop} {ρ ρ' : Rho} {v : Value} (k : List Nat) (h : ∀ b, I b → I' b ∧ w'.heap[b]? = w.heap[b]?)
    (hr : ∀ c, c ∉ k → ρ' c = ρ c) : ∀ {x : SV}, x.rep w I ρ v → (x.kill k).rep w' I' ρ' v
  | .one _, p => V0.kill_rep k h hr p
  | .tup _, ⟨cs, p, q⟩ => ⟨cs, p, q.map fun _ _ p => V0.kill_rep k h hr p⟩

theorem Leaf.kill_junk : ∀ (k : List Nat) (x : Leaf), x.kill k = x ∨ x.kill k = .junk
  | [], x => .inl (Leaf.kill_nil x)
  | c :: k, x => by
    rw [Leaf.kill_cons]
    unfold Leaf.kill1
    split
    · rcases Leaf.kill_junk k .junk with h | h <;> exact .inr h
    · exact Leaf.kill_junk k x

theorem SV.kill_bool (k : List Nat) (x : SV) (b : Bool) (h : x = .one (.cell (.bool b))) : x.kill k = .one (.cell (.bool b)) := by
  subst h
  have hk : ∀ k : List Nat, (Leaf.bool b).kill k = .bool b := fun _ => rfl
  simp [SV.kill, V0.kill, hk]

theorem SV.kill_bool' (k : List Nat) (x : SV) (b : Bool) (h : x.kill k = .one (.cell (.bool b))) : x = .one (.cell (.bool b)) := by
  cases x with
  | tup => simp [SV.kill] at h
  | one v =>
    cases v with
    | agg => simp [SV.kill, V0.kill] at h
    | cell y =>
      simp only [SV.kill, V0.kill, SV.one.injEq, V0.cell.injEq] at h
      rcases Leaf.kill_junk k y with e | e
      · rw [e] at h; rw [h]
      · rw [e] at h; cases h

/-- A chunk whose block (and all that is only read) stays, apart from killed names. -/
theorem Chunk.kill_rep {w w' : World} {I I' : Nat → Prop} {ρ ρ' : Rho} {loc : Option Loc} (k : List Nat) (h : ∀ b, I b → I' b ∧ w'.heap[b]? = w.heap[b]?)
    (hr : ∀ c, c ∉ k → ρ' c = ρ c) (hb : ∀ L, loc = some L → w'.heap[L.b]? = w.heap[L.b]?) : ∀ {x : Chunk}, x.rep w I ρ loc → (x.kill k).rep w' I' ρ' loc
  | .cells _, ⟨L, cs, el, p, q, r, s⟩ => ⟨L, cs, el, p, q, by rw [hb L p]; exact r, s.map fun _ _ t => ⟨t.1, Leaf.kill_rep k h hr t.2⟩⟩
  | .arr e l, p => by
    cases loc with
    | none => exact p
    | some L =>
      obtain ⟨p1, p2, p3, p4, cs, el, p5, p6, p7, p8⟩ := p
      exact ⟨p1, p2, p3, p4, cs, el, by rw [hb L rfl]; exact p5, p6, fun i x hx => Ty.rep_mono h e (p7 i x hx), p8⟩
  | .mp kt e ea l, ⟨L, es, clock, p, q, r⟩ => ⟨L, es, clock, p, by rw [hb L p]; exact q, r.mono fun _ _ t => ⟨Ty.rep_mono h kt t.1, Ty.valRep_mono h t.2⟩⟩

end Go.Sx
