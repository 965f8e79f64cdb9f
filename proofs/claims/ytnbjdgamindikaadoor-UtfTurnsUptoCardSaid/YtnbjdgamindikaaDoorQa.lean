/- A small memory logic over the model: what abstract values and chunks of memory stand for, and what a walk of code means over them. -/
import Derived.Test.YtnbjdgamindikaaDoorQ0
import Derived.CallsIn
import Derived.TacticsIn
import Derived.OrdersIn
import Derived.OrdersHeld
import Derived.RangeFuncIn
import Derived.RangeFuncLeaves
import Derived.RangeFuncRecord
import Derived.Laws.Entries
import Derived.Laws.Cells
import Derived.Laws.World
import Derived.Laws.AppendOwn
import Derived.Below
import Derived.KernelRfl
set_option linter.unusedVariables false
set_option linter.unusedSimpArgs false
namespace Go.Q

/-- Memory that is only read: some blocks. -/
abbrev Ro := Nat → Option Obj
def Ro.le (m m' : Ro) : Prop := ∀ b o, m b = some o → m' b = some o
theorem Ro.le.refl (m : Ro) : Ro.le m m := fun _ _ h => h
theorem Ro.le.trans {a b c : Ro} (h : Ro.le a b) (k : Ro.le b c) : Ro.le a c := fun x o e => k x o (h x o e)

/-- How a datum lies in cells. -/
structure Rd (α : Type) where
  sz : Nat
  ok : Ro → α → List Value → Prop
  mono : ∀ {m m' : Ro} {d : α} {cs : List Value}, Ro.le m m' → ok m d cs → ok m' d cs
  len : ∀ {m : Ro} {d : α} {cs : List Value}, ok m d cs → cs.length = sz
  one : ∀ {m : Ro} {d : α} {cs : List Value}, ok m d cs → ∀ v ∈ cs, v.oneCell' = true

/-- A datum that is one value. -/
def Rd.sc {α : Type} (f : α → Value) (h : ∀ x, (f x).oneCell' = true := by intro; rfl) : Rd α where
  sz := 1
  ok _ d cs := cs = [f d]
  mono _ h := h
  len h := by simp [h]
  one h' := by intro v hv; rw [h'] at hv; simp at hv; rw [hv]; exact h _

def Rd.int (k : IntKind) : Rd Int := Rd.sc (Value.int k)
def Rd.bool : Rd Bool := Rd.sc Value.bool
def Rd.str : Rd ByteArray := Rd.sc Value.string

def Rd.unit : Rd Unit where
  sz := 0
  ok _ _ cs := cs = []
  mono _ h := h
  len h := by simp [h]
  one h := by intro v hv; rw [h] at hv; simp at hv

def Rd.pair {α β : Type} (A : Rd α) (B : Rd β) : Rd (α × β) where
  sz := A.sz + B.sz
  ok m d cs := ∃ x y, cs = x ++ y ∧ A.ok m d.1 x ∧ B.ok m d.2 y
  mono hm h := let ⟨x, y, e, h1, h2⟩ := h; ⟨x, y, e, A.mono hm h1, B.mono hm h2⟩
  len h := by obtain ⟨x, y, e, h1, h2⟩ := h; simp [e, A.len h1, B.len h2]
  one h := by
    obtain ⟨x, y, e, h1, h2⟩ := h
    intro v hv
    rw [e, List.mem_append] at hv
    exact hv.elim (A.one h1 v) (B.one h2 v)

def Rd.via {α β : Type} (A : Rd α) (g : β → α) : Rd β where
  sz := A.sz
  ok m d cs := A.ok m (g d) cs
  mono hm h := A.mono hm h
  len h := A.len h
  one h := A.one h

/-- Rows of a datum, one behind the other. -/
def rows {α : Type} (A : Rd α) (m : Ro) : List α → List Value → Prop
  | [], _ => True
  | d :: l, cs => A.ok m d (cs.take A.sz) ∧ rows A m l (cs.drop A.sz)

theorem rows_mono {α : Type} {A : Rd α} {m m' : Ro} (hm : Ro.le m m') : ∀ {l : List α} {cs : List Value}, rows A m l cs → rows A m' l cs
  | [], _, _ => trivial
  | _ :: _, _, h => ⟨A.mono hm h.1, rows_mono hm h.2⟩

theorem rows_len {α : Type} {A : Rd α} {m : Ro} : ∀ {l : List α} {cs : List Value}, rows A m l cs → l.length * A.sz ≤ cs.length
  | [], _, _ => by simp
  | d :: l, cs, h => by
    have h1 := A.len h.1
    have h2 := rows_len h.2
    simp at h1 h2
    simp only [List.length_cons, Nat.add_mul, Nat.one_mul]
    omega

theorem rows_get {α : Type} {A : Rd α} {m : Ro} : ∀ {l : List α} {cs : List Value} {i : Nat} {d : α}, rows A m l cs → l[i]? = some d → A.ok m d ((cs.drop (i * A.sz)).take A.sz)
  | [], _, i, d, _, h => by simp at h
  | x :: l, cs, 0, d, h, e => by simp at e; subst e; simpa using h.1
  | x :: l, cs, i + 1, d, h, e => by
    have := rows_get (i := i) h.2 (by simpa using e)
    rw [List.drop_drop] at this
    rw [show (i + 1) * A.sz = A.sz + i * A.sz by rw [Nat.add_mul]; omega]
    exact this

theorem rows_drop {α : Type} {A : Rd α} {m : Ro} : ∀ {l : List α} {cs : List Value} (n : Nat), rows A m l cs → rows A m (l.drop n) (cs.drop (n * A.sz))
  | l, cs, 0, h => by simpa using h
  | [], cs, n + 1, _ => by simp [rows]
  | x :: l, cs, n + 1, h => by
    have := rows_drop n h.2
    rw [List.drop_drop] at this
    rw [show (n + 1) * A.sz = A.sz + n * A.sz by rw [Nat.add_mul]; omega]
    exact this

theorem rows_take {α : Type} {A : Rd α} {m : Ro} : ∀ {l : List α} {cs : List Value} (n : Nat), rows A m l cs → rows A m (l.take n) cs
  | _, _, 0, _ => by simp [rows]
  | [], _, n + 1, _ => by simp [rows]
  | x :: l, cs, n + 1, h => ⟨h.1, rows_take n h.2⟩

theorem rows_append {α : Type} {A : Rd α} {m : Ro} : ∀ {l l' : List α} {cs cs' : List Value}, rows A m l cs → cs.length = l.length * A.sz → rows A m l' cs' → rows A m (l ++ l') (cs ++ cs')
  | [], _, cs, cs', _, hn, h' => by
    have : cs = [] := by simpa using hn
    subst this
    exact h'
  | x :: l, l', cs, cs', h, hn, h' => by
    have hl : A.sz ≤ cs.length := by rw [hn, List.length_cons, Nat.add_mul]; omega
    refine ⟨?_, ?_⟩
    · rw [List.take_append_of_le_length hl]; exact h.1
    · rw [List.drop_append_of_le_length hl]
      exact rows_append h.2 (by rw [List.length_drop, hn, List.length_cons, Nat.add_mul]; omega) h'

/-- Only the first cells count. -/
theorem rows_cut {α : Type} {A : Rd α} {m : Ro} : ∀ {l : List α} {cs cs' : List Value}, rows A m l cs → cs.take (l.length * A.sz) = cs'.take (l.length * A.sz) → rows A m l cs'
  | [], _, _, _, _ => trivial
  | x :: l, cs, cs', h, e => by
    have hz : (x :: l).length * A.sz = A.sz + l.length * A.sz := by rw [List.length_cons, Nat.add_mul]; omega
    rw [hz] at e
    refine ⟨?_, rows_cut h.2 ?_⟩
    · have := congrArg (List.take A.sz) e
      rw [List.take_take, List.take_take, Nat.min_eq_left (by omega)] at this
      rw [← this]; exact h.1
    · have := congrArg (List.drop A.sz) e
      rw [List.drop_take, List.drop_take] at this
      simpa using this

/-- A pointer to a datum. -/
def Rd.ptr {α : Type} (A : Rd α) : Rd α where
  sz := 1
  ok m d cs := ∃ b off c t fr, cs = [.pointer (some ⟨b, off, none⟩)] ∧ m b = some (.cells c t fr) ∧ A.ok m d ((c.toList.drop off).take A.sz)
  mono hm h := let ⟨b, off, c, t, fr, e, h1, h2⟩ := h; ⟨b, off, c, t, fr, e, hm _ _ h1, A.mono hm h2⟩
  len h := by obtain ⟨b, off, c, t, fr, e, _⟩ := h; simp [e]
  one h := by obtain ⟨b, off, c, t, fr, e, _⟩ := h; intro v hv; rw [e] at hv; simp at hv; rw [hv]; rfl

/-- A slice of data. -/
def Rd.slice {α : Type} (A : Rd α) : Rd (List α) where
  sz := 1
  ok m l cs := (l = [] ∧ ∃ a c, cs = [.slice a 0 c]) ∨
    ∃ b off c t fr cap, cs = [.slice (some ⟨b, off, none⟩) l.length cap] ∧ l.length ≤ cap ∧ m b = some (.cells c t fr) ∧ rows A m l (c.toList.drop off)
  mono hm h := h.imp id fun ⟨b, off, c, t, fr, cap, e, hc, h1, h2⟩ => ⟨b, off, c, t, fr, cap, e, hc, hm _ _ h1, rows_mono hm h2⟩
  len h := by
    rcases h with ⟨_, a, c, e⟩ | ⟨b, off, c, t, fr, cap, e, _⟩ <;> simp [e]
  one h := by
    rcases h with ⟨_, a, c, e⟩ | ⟨b, off, c, t, fr, cap, e, _⟩ <;> (intro v hv; rw [e] at hv; simp at hv; rw [hv]; rfl)

/-- What stands in a temporary or in a cell. -/
inductive AVal : Type 1
  | any
  | lit (v : Value)
  | ptr (i off : Nat)
  | opt (c : Bool) (i off : Nat)
  | whole (i : Nat)
  | sl (i sz off len : Nat)
  | ro {α : Type} (R : Rd α) (b : Bool) (d : α)
  | fn (f : FuncId) (cap : List AVal)
  | agg (l : List AVal)
  | tup (l : List AVal)
  | ifc (t : TypeId) (a : AVal)

/-- Where the chunks lie, and what is only read. -/
structure Nv where
  m : Ro
  bm : Ro
  own : Nat → Nat
  caps : Nat → Nat
  lens : Nat → Nat
  vir : Nat → Bool
  n : Nat
  bag : Nat → List Nat := fun _ => []

def Nv.mem (e : Nv) (b : Bool) : Ro := fun k => match e.m k with
  | some o => some o
  | none => if b then e.bm k else none

theorem Nv.mem_false (e : Nv) : e.mem false = e.m := by
  funext k; unfold Nv.mem; cases e.m k <;> simp

mutual
def Val (e : Nv) : AVal → Value → Prop
  | .any, _ => True
  | .lit x, v => v = x
  | .ptr i off, v => i < e.n ∧ e.vir i = false ∧ v = .pointer (some ⟨e.own i, off, none⟩)
  | .opt c i off, v => i < e.n ∧ e.vir i = false ∧ v = bif c then .pointer (some ⟨e.own i, off, none⟩) else .pointer none
  | .whole i, v => i < e.n ∧ e.lens i ≤ e.caps i ∧ if e.vir i then v = .slice none 0 0 ∧ e.lens i = 0 else v = .slice (some ⟨e.own i, 0, none⟩) (e.lens i) (e.caps i)
  | .sl i sz off len, v => i < e.n ∧ off + len ≤ e.caps i ∧ e.vir i = false ∧ ∃ o, v = .slice (some ⟨e.own i, o, none⟩) len (e.caps i - off) ∧ (off < e.caps i → o = off * sz)
  | .ro R b d, v => R.ok (e.mem b) d [v]
  | .fn f cap, v => ∃ vs : List Value, v = .func (.func f) #[] vs.toArray ∧ Vals e cap vs
  | .agg l, v => ∃ vs : List Value, v = .agg vs.toArray ∧ Vals e l vs ∧ ∀ x ∈ vs, x.oneCell' = true
  | .tup l, v => ∃ vs : List Value, v = .tuple vs.toArray ∧ Vals e l vs
  | .ifc t a, v => ∃ x, v = .iface t x ∧ Val e a x
def Vals (e : Nv) : List AVal → List Value → Prop
  | [], vs => vs = []
  | a :: l, vs => ∃ v ws, vs = v :: ws ∧ Val e a v ∧ Vals e l ws
end

/-- One naming goes on from another: nothing that has a meaning loses it. -/
structure Nv.le (e e' : Nv) : Prop where
  m : Ro.le e.m e'.m
  bm : Ro.le e.bm e'.bm
  n : e.n ≤ e'.n
  own : ∀ i, i < e.n → e'.own i = e.own i
  caps : ∀ i, i < e.n → e'.caps i = e.caps i
  lens : ∀ i, i < e.n → e'.lens i = e.lens i
  vir : ∀ i, i < e.n → e'.vir i = e.vir i
  bag : ∀ i, i < e.n → e'.bag i = e.bag i := by intros; rfl

theorem Nv.le.refl (e : Nv) : e.le e := ⟨Ro.le.refl _, Ro.le.refl _, Nat.le_refl _, fun _ _ => rfl, fun _ _ => rfl, fun _ _ => rfl, fun _ _ => rfl, fun _ _ => rfl⟩
theorem Nv.le.trans {a b c : Nv} (h : a.le b) (k : b.le c) : a.le c :=
  ⟨h.m.trans k.m, h.bm.trans k.bm, Nat.le_trans h.n k.n, fun i hi => (k.own i (Nat.lt_of_lt_of_le hi h.n)).trans (h.own i hi),
   fun i hi => (k.caps i (Nat.lt_of_lt_of_le hi h.n)).trans (h.caps i hi), fun i hi => (k.lens i (Nat.lt_of_lt_of_le hi h.n)).trans (h.lens i hi),
   fun i hi => (k.vir i (Nat.lt_of_lt_of_le hi h.n)).trans (h.vir i hi), fun i hi => (k.bag i (Nat.lt_of_lt_of_le hi h.n)).trans (h.bag i hi)⟩

/-- The reading memory grows, where what was read before stays read. -/
theorem Nv.mem_le {e e' : Nv} (h : e.le e') (hx : ∀ b o o', e'.m b = some o → e.m b = none → e.bm b = some o' → o = o') (b : Bool) : Ro.le (e.mem b) (e'.mem b) := by
  intro k o hk
  unfold Nv.mem at *
  cases hm : e.m k with
  | some o1 => rw [hm] at hk; rw [h.m _ _ hm]; exact hk
  | none =>
    rw [hm] at hk
    cases hm' : e'.m k with
    | some o2 =>
      simp only at hk ⊢
      split at hk
      · rw [hx k o2 o hm' hm hk]
      · cases hk
    | none =>
      simp only at hk ⊢
      split at hk
      · rename_i hb; rw [if_pos hb]; exact h.bm _ _ hk
      · cases hk

mutual
theorem Val.mono {e e' : Nv} (h : e.le e') (hb : ∀ b, Ro.le (e.mem b) (e'.mem b)) : ∀ {a : AVal} {v : Value}, Val e a v → Val e' a v
  | .any, _, _ => by simp [Val]
  | .lit _, _, k => by simpa [Val] using k
  | .ptr i off, v, k => by
    simp only [Val] at k ⊢
    exact ⟨Nat.lt_of_lt_of_le k.1 h.n, (h.vir i k.1).trans k.2.1, by rw [h.own i k.1]; exact k.2.2⟩
  | .opt c i off, v, k => by
    simp only [Val] at k ⊢
    exact ⟨Nat.lt_of_lt_of_le k.1 h.n, (h.vir i k.1).trans k.2.1, by rw [h.own i k.1]; exact k.2.2⟩
  | .whole i, v, k => by
    simp only [Val] at k ⊢
    rw [h.vir i k.1, h.own i k.1, h.lens i k.1, h.caps i k.1]
    exact ⟨Nat.lt_of_lt_of_le k.1 h.n, k.2⟩
  | .sl i sz off len, v, k => by
    simp only [Val] at k ⊢
    rw [h.vir i k.1, h.own i k.1, h.caps i k.1]
    exact ⟨Nat.lt_of_lt_of_le k.1 h.n, k.2⟩
  | .ro R b d, v, k => by
    simp only [Val] at k ⊢
    exact R.mono (hb b) k
  | .fn f cap, v, k => by
    simp only [Val] at k ⊢
    obtain ⟨vs, e1, h1⟩ := k
    exact ⟨vs, e1, Vals.mono h hb h1⟩
  | .agg l, v, k => by
    simp only [Val] at k ⊢
    obtain ⟨vs, e1, h1, h2⟩ := k
    exact ⟨vs, e1, Vals.mono h hb h1, h2⟩
  | .tup l, v, k => by
    simp only [Val] at k ⊢
    obtain ⟨vs, e1, h1⟩ := k
    exact ⟨vs, e1, Vals.mono h hb h1⟩
  | .ifc t a, v, k => by
    simp only [Val] at k ⊢
    obtain ⟨x, e1, h1⟩ := k
    exact ⟨x, e1, Val.mono h hb h1⟩
theorem Vals.mono {e e' : Nv} (h : e.le e') (hb : ∀ b, Ro.le (e.mem b) (e'.mem b)) : ∀ {l : List AVal} {vs : List Value}, Vals e l vs → Vals e' l vs
  | [], _, k => by simpa [Vals] using k
  | a :: l, vs, k => by
    simp only [Vals] at k ⊢
    obtain ⟨v, ws, e1, h1, h2⟩ := k
    exact ⟨v, ws, e1, Val.mono h hb h1, Vals.mono h hb h2⟩
end

/-- A piece of memory of our own. -/
inductive Chunk : Type 1
  | gone
  | cells (t : TypeId) (l : List AVal)
  | row (t : TypeId) {α : Type} (R : Rd α) (l : List α)
  | obj (o : Obj)
  | bag

structure Mem : Type 1 where
  n : Nat
  at_ : Nat → Chunk

def Mem.nil : Mem := ⟨0, fun _ => .gone⟩
def Mem.push (M : Mem) (c : Chunk) : Mem := ⟨M.n + 1, fun i => if Nat.beq i M.n = true then c else M.at_ i⟩
def Mem.set (M : Mem) (j : Nat) (c : Chunk) : Mem := ⟨M.n, fun i => if Nat.beq i j = true then c else M.at_ i⟩

theorem Mem.push_at (M : Mem) (c : Chunk) (i : Nat) : (M.push c).at_ i = if i = M.n then c else M.at_ i := by
  simp [Mem.push, Nat.beq_eq]
theorem Mem.set_at (M : Mem) (j : Nat) (c : Chunk) (i : Nat) : (M.set j c).at_ i = if i = j then c else M.at_ i := by
  simp [Mem.set, Nat.beq_eq]

/-- Does a chunk stand for a block? -/
def Chunk.live (e : Nv) (i : Nat) : Chunk → Prop
  | .gone => False
  | .bag => False
  | .row .. => e.vir i = false
  | _ => True

/-- No element of a row is shared with a string. -/
def thaw (c : Array Value) (z : Nat × Nat) : Prop := z.1 = z.2 ∨ c.size ≤ z.1

/-- What a chunk says of its block. -/
def Chunk.ok (e : Nv) (w : World) (i : Nat) : Chunk → Prop
  | .gone => True
  | .cells t l => e.vir i = false ∧ ∃ vs : List Value, w.heap[e.own i]? = some (.cells vs.toArray t (0, 0)) ∧ Vals e l vs ∧ ∀ x ∈ vs, x.oneCell' = true
  | .row t R l => e.lens i = l.length ∧ l.length ≤ e.caps i ∧ e.caps i ≤ maxLen ∧
      if e.vir i then l = [] else ∃ c : Array Value, ∃ z : Nat × Nat, w.heap[e.own i]? = some (.cells c t z) ∧ thaw c z ∧ c.size = e.caps i * R.sz ∧ rows R e.m l c.toList
  | .obj o => e.vir i = false ∧ w.heap[e.own i]? = some o
  | .bag => e.vir i = true

/-- A mark of ranges over functions. -/
def Chunk.mark : Chunk → Bool
  | .bag => true
  | .obj (.deferred (some [])) => true
  | _ => false

/-- What a call began with: the world, the blocks that it may change, what is only read; pinned chunks. -/
structure Cx where
  w0 : World
  F : Nat → Prop
  m0 : Ro
  bm : Ro
  np : Nat
  nv0 : Nv
  tb : ∀ g l, tabs g = some l → ∃ c t z, m0 g = some (.cells c t z) ∧ c.toList.take l.length = l

/-- What the further blocks of marks are. -/
structure BagOk (cx : Cx) (e : Nv) (M : Mem) (w : World) : Prop where
  nodup : ∀ i, i < e.n → (M.at_ i).mark = true → (e.bag i).Nodup
  at_ : ∀ i, i < e.n → (M.at_ i).mark = true → ∀ b ∈ e.bag i, w.heap[b]? = some (.deferred (some [])) ∧ e.m b = none ∧ e.bm b = none ∧ (cx.F b ∨ cx.w0.heap.size ≤ b)
  own : ∀ i, i < e.n → (M.at_ i).mark = true → ∀ b ∈ e.bag i, ∀ j, j < e.n → (M.at_ j).live e j → e.own j ≠ b
  dist : ∀ i j, i < e.n → j < e.n → (M.at_ i).mark = true → (M.at_ j).mark = true → i ≠ j → ∀ b ∈ e.bag i, b ∉ e.bag j

structure Hold (cx : Cx) (e : Nv) (M : Mem) (w : World) : Prop where
  bm : e.bm = cx.bm
  n : e.n = M.n
  size : cx.w0.heap.size ≤ w.heap.size
  os : w.os = cx.w0.os
  tape : w.tape = cx.w0.tape
  output : w.output = cx.w0.output
  frame : ∀ b, b < cx.w0.heap.size → ¬ cx.F b → w.heap[b]? = cx.w0.heap[b]?
  ro : ∀ b o, e.m b = some o → w.heap[b]? = some o
  bro : ∀ b o, e.bm b = some o → w.heap[b]? = some o
  m0 : Ro.le cx.m0 e.m
  mnew : ∀ b o, e.m b = some o → cx.m0 b = some o ∨ cx.F b ∨ cx.w0.heap.size ≤ b
  ch : ∀ i, i < e.n → (M.at_ i).ok e w i
  live : ∀ i, i < e.n → (M.at_ i).live e i → e.own i < w.heap.size ∧ e.m (e.own i) = none ∧ e.bm (e.own i) = none ∧ (cx.F (e.own i) ∨ cx.w0.heap.size ≤ e.own i)
  dist : ∀ i j, i < e.n → j < e.n → (M.at_ i).live e i → (M.at_ j).live e j → e.own i = e.own j → i = j
  np : cx.np ≤ e.n
  pin : ∀ i, i < cx.np → e.own i = cx.nv0.own i ∧ e.caps i = cx.nv0.caps i ∧ e.lens i = cx.nv0.lens i ∧ e.vir i = cx.nv0.vir i
  bag : BagOk cx e M w

/-- A frame that waits: its state, what its temporaries are, the chunks of its marks; the chunk and the block of the record of the loop that it is in. -/
structure OEnv : Type 1 where
  a : Act
  v : Nat → AVal
  d : List Nat
  lk : Option (Nat × Nat)

/-- The temporaries; the marks; the frames that wait. -/
structure Env : Type 1 where
  v : Nat → AVal
  d : List Nat := []
  o : List OEnv := []

def Env.upd (E : Env) (t : Nat) (a : AVal) : Env := ⟨fun u => if Nat.beq u t = true then a else E.v u, E.d, E.o⟩
def Env.none : Env := ⟨fun _ => .any, [], []⟩
def Env.ev (E : Env) : Operand → AVal
  | .tmp t => E.v t
  | .const v => .lit v
  | .global _ => .any
  | .func f => .fn f []

theorem Env.upd_v (E : Env) (t : Nat) (a : AVal) (u : Nat) : (E.upd t a).v u = if u = t then a else E.v u := by
  simp [Env.upd, Nat.beq_eq]

/-- The marks of ranges over functions among the deferred calls: chunks that are blocks of deferred calls. -/
def markBlocks (e : Nv) (i : Nat) : List Nat := (if e.vir i then [] else [e.own i]) ++ e.bag i
def marks (e : Nv) (M : Mem) : List Nat → List Deferred → Prop
  | [], ds => ds = []
  | i :: l, ds => ∃ r, ds = (markBlocks e i).map (fun b => { target := .collected b, args := #[] }) ++ r ∧ i < e.n ∧ marks e M l r

/-- What a waiting frame holds. -/
structure okO (e : Nv) (M : Mem) (p : OEnv) : Prop where
  v : ∀ t, Val e (p.v t) (p.a.tmps.getD t undef)
  d : marks e M p.d p.a.defers
  lk : ∀ i l, p.lk = some (i, l) → i < e.n ∧ e.own i = l

structure Emb (nt : Nat) (e : Nv) (M : Mem) (E : Env) (a : Act) : Prop where
  sz : a.tmps.size = nt
  v : ∀ t, Val e (E.v t) (a.tmps.getD t undef)
  d : marks e M E.d a.defers
  o : ∀ p ∈ E.o, okO e M p

theorem Emb.ev {nt : Nat} {e : Nv} {M : Mem} {E : Env} {a : Act} (h : Emb nt e M E a) (x : Operand) : Val e (E.ev x) (a.eval x) := by
  cases x with
  | tmp t => exact h.v t
  | const v => simp [Env.ev, Val, Act.eval]
  | global g => simp [Env.ev, Val]
  | func f => simp [Env.ev, Val, Vals, Act.eval]

theorem marks.mono {e e' : Nv} {M M' : Mem} (h : e.le e') : ∀ {l : List Nat} {ds : List Deferred}, marks e M l ds → marks e' M' l ds
  | [], _, k => k
  | i :: l, ds, k => by
    obtain ⟨r, e1, hi, h1⟩ := k
    exact ⟨r, by unfold markBlocks; rw [h.own i hi, h.vir i hi, h.bag i hi]; exact e1, Nat.lt_of_lt_of_le hi h.n, marks.mono h h1⟩

theorem okO.mono {e e' : Nv} {M M' : Mem} {p : OEnv} (h : okO e M p) (hle : e.le e') (hb : ∀ b, Ro.le (e.mem b) (e'.mem b)) : okO e' M' p :=
  ⟨fun t => (h.v t).mono hle hb, h.d.mono hle, fun i l hl => let ⟨h1, h2⟩ := h.lk i l hl; ⟨Nat.lt_of_lt_of_le h1 hle.n, (hle.own i h1).trans h2⟩⟩

theorem Emb.put {nt : Nat} {e : Nv} {M : Mem} {E : Env} {a : Act} (h : Emb nt e M E a) {t : Nat} (ht : Nat.blt t nt = true) {x : AVal} {v : Value} (hv : Val e x v) :
    Emb nt e M (E.upd t x) (a.put (some t) v) := by
  have ht' : t < a.tmps.size := by rw [h.sz]; simpa [Nat.blt_eq] using ht
  refine ⟨by simp [Act.put, h.sz], fun u => ?_, h.d, h.o⟩
  rw [Env.upd_v]
  simp only [Act.put]
  by_cases hu : u = t
  · subst hu; simp [ht', hv]
  · rw [if_neg hu]
    have := h.v u
    simp only [Array.getD_eq_getD_getElem?] at this ⊢
    rw [Array.getElem?_setIfInBounds_ne (Ne.symm hu)]
    exact this

/-- The fence of a plain walk, or of a round of a range over a function. -/
abbrev fence (r : Option Nat) : Fence := { fn := fun _ => True, depth := Option.none, alive := false, round := r }

/-- How a piece of code is left. -/
inductive Ex : Type 1
  | normal
  | exit (id : Nat)
  | goto (l : Nat)
  | ret
  | panic (a : AVal)

def Ex.is (e : Nv) : Ex → Exit → Prop
  | .normal, x => x = .normal
  | .exit id, x => x = .exit id
  | .goto l, x => x = .goto l
  | .ret, x => x = .ret
  | .panic a, x => ∃ v, x = .panic [{ v, recovered := false }] ∧ Val e a v

structure Fr where
  nt : Nat
  r : Option Nat := Option.none

/-- At a panic the temporaries are nothing any more. -/
def EmbX (nt : Nat) (e : Nv) (M : Mem) (E : Env) (a : Act) : Ex → Prop
  | .panic _ => marks e M E.d a.defers ∧ ∀ p ∈ E.o, okO e M p
  | _ => Emb nt e M E a

/-- What a walk comes to. -/
def Sat (cx : Cx) (fr : Fr) (Q : Ex → Env → Mem → Prop) (x : Exit) (a : Act) (w : World) : Prop :=
  ∃ y E M e, Q y E M ∧ Hold cx e M w ∧ EmbX fr.nt e M E a y ∧ y.is e x

/-- A leaf: what is left so comes to Q. -/
def W (cx : Cx) (fr : Fr) (Q : Ex → Env → Mem → Prop) (x : Ex) (E : Env) (M : Mem) : Prop :=
  ∀ a w e X, Hold cx e M w → EmbX fr.nt e M E a x → x.is e X → Sat cx fr Q X a w

theorem W.now {cx : Cx} {fr : Fr} {Q : Ex → Env → Mem → Prop} {x : Ex} {E : Env} {M : Mem} (h : Q x E M) : W cx fr Q x E M := fun a w e X hh he hx => ⟨x, E, M, e, h, hh, he, hx⟩

/-- THE WALK of code from a state. -/
def WP (P : Program) (cx : Cx) (fr : Fr) (c : Code) (E : Env) (M : Mem) (Q : Ex → Env → Mem → Prop) : Prop :=
  ∀ a w e, Hold cx e M w → Emb fr.nt e M E a → c.wpIn (fence fr.r) 0 P (Sat cx fr Q) a w

/-- The walk of a region's operations, in the order of the text. -/
def WPL (P : Program) (cx : Cx) (fr : Fr) (ops : Array Oper) (os : List Oper) (E : Env) (M : Mem) (Q : Ex → Env → Mem → Prop) : Prop :=
  ∀ a w e, Hold cx e M w → Emb fr.nt e M E a → wpListIn (fence fr.r) 0 P ops (Sat cx fr Q) os a w

theorem fence_room (r : Option Nat) (n : Nat) : (fence r).room n := fun d h => by simp at h

section
variable {P : Program} {cx : Cx} {fr : Fr} {E : Env} {M : Mem} {Q : Ex → Env → Mem → Prop}

theorem Sat.mono {Q' : Ex → Env → Mem → Prop} (h : ∀ x E M, Q x E M → Q' x E M) {x : Exit} {a : Act} {w : World} (k : Sat cx fr Q x a w) : Sat cx fr Q' x a w :=
  let ⟨y, E, M, e, q, r⟩ := k; ⟨y, E, M, e, h _ _ _ q, r⟩

theorem WP.mono {c : Code} {Q' : Ex → Env → Mem → Prop} (h : WP P cx fr c E M Q) (hq : ∀ x E M, Q x E M → Q' x E M) : WP P cx fr c E M Q' :=
  fun a w e hh he => Go.wpIn_mono (h a w e hh he) fun _ _ _ k => k.mono hq

theorem WP.skip (h : Q .normal E M) : WP P cx fr .skip E M Q := fun _ _ e hh he => wpIn_skip ⟨.normal, E, M, e, h, hh, he, rfl⟩
theorem WP.label {l : Nat} (h : Q .normal E M) : WP P cx fr (.label l) E M Q := fun _ _ e hh he => wpIn_label ⟨.normal, E, M, e, h, hh, he, rfl⟩
theorem WP.exit {id : Nat} (h : Q (.exit id) E M) : WP P cx fr (.exit id) E M Q := fun _ _ e hh he => wpIn_exit ⟨.exit id, E, M, e, h, hh, he, rfl⟩
theorem WP.goto {l : Nat} (h : Q (.goto l) E M) : WP P cx fr (.goto l) E M Q := fun _ _ e hh he => wpIn_goto ⟨.goto l, E, M, e, h, hh, he, rfl⟩
theorem WP.ret (h : Q .ret E M) : WP P cx fr .ret E M Q := fun _ _ e hh he => wpIn_ret ⟨.ret, E, M, e, h, hh, he, rfl⟩

/-- Behind a piece: on with the next, or out. -/
def Then (next : Env → Mem → Prop) (Q : Ex → Env → Mem → Prop) : Ex → Env → Mem → Prop
  | .normal, E, M => next E M
  | x, E, M => Q x E M

theorem WP.seq {c d : Code} (h : WP P cx fr c E M (Then (fun E M => WP P cx fr d E M Q) Q)) : WP P cx fr (.seq c d) E M Q :=
  fun a w e hh he => wpIn_seq (Go.wpIn_mono (h a w e hh he) fun x a' w' k => by
    obtain ⟨y, E', M', e', q, h1, h2, h3⟩ := k
    cases y with
    | normal => cases h3; exact q a' w' e' h1 h2
    | exit id => cases h3; exact ⟨_, E', M', e', q, h1, h2, rfl⟩
    | goto id => cases h3; exact ⟨_, E', M', e', q, h1, h2, rfl⟩
    | ret => cases h3; exact ⟨_, E', M', e', q, h1, h2, rfl⟩
    | panic v =>
      obtain ⟨u, rfl, hv⟩ := h3
      exact ⟨_, E', M', e', q, h1, h2, u, rfl, hv⟩)

def InBlock (id : Nat) (Q : Ex → Env → Mem → Prop) : Ex → Env → Mem → Prop
  | .exit id', E, M => if Nat.beq id' id = true then Q .normal E M else Q (.exit id') E M
  | x, E, M => Q x E M

theorem WP.block {id : Nat} {c : Code} (h : WP P cx fr c E M (InBlock id Q)) : WP P cx fr (.block id c) E M Q :=
  fun a w e hh he => wpIn_block (Go.wpIn_mono (h a w e hh he) fun x a' w' k => by
    obtain ⟨y, E', M', e', q, h1, h2, h3⟩ := k
    cases y with
    | normal => cases h3; exact ⟨_, E', M', e', q, h1, h2, rfl⟩
    | exit id' =>
      cases h3
      simp only [InBlock, Nat.beq_eq] at q
      simp only [Exit.inBlock]
      split
      · rename_i hid; rw [if_pos (by simpa using hid)] at q; exact ⟨_, E', M', e', q, h1, h2, rfl⟩
      · rename_i hid; rw [if_neg (by simpa using hid)] at q; exact ⟨_, E', M', e', q, h1, h2, rfl⟩
    | goto id => cases h3; exact ⟨_, E', M', e', q, h1, h2, rfl⟩
    | ret => cases h3; exact ⟨_, E', M', e', q, h1, h2, rfl⟩
    | panic v =>
      obtain ⟨u, rfl, hv⟩ := h3
      exact ⟨_, E', M', e', q, h1, h2, u, rfl, hv⟩)

theorem WP.cond {c : Operand} {x y : Code} {t : Bool} (hc : E.ev c = .lit (.bool t)) (h1 : t = true → WP P cx fr x E M Q) (h2 : t = false → WP P cx fr y E M Q) : WP P cx fr (.cond c x y) E M Q :=
  fun a w e hh he => by
    have hv := he.ev c
    rw [hc] at hv
    exact wpIn_cond_split (by simpa [Val] using hv) (fun ht => h1 ht a w e hh he) (fun ht => h2 ht a w e hh he)

/-- A loop of which a bound of rounds is known: by the number of rounds that are left. -/
theorem WP.loop.{u} {c : Code} {β : Type u} (S : Nat → β → Prop) (Es : β → Env) (Ms : β → Mem) (k0 : Nat) (b0 : β) (h0 : S k0 b0) (hE : E = Es b0) (hM : M = Ms b0)
    (round : ∀ k b, S k b → WP P cx fr c (Es b) (Ms b) (Then (fun E' M' => ∃ k' b', k' < k ∧ S k' b' ∧ E' = Es b' ∧ M' = Ms b') Q)) : WP P cx fr (.loop c) E M Q := by
  subst hE hM
  intro a w e hh he b k cs hro hb hr
  have key : ∀ j b0 a w e, S j b0 → Hold cx e (Ms b0) w → Emb fr.nt e (Ms b0) (Es b0) a →
      ∃ x a' w', Sat cx fr Q x a' w' ∧ ArrivesIn (Machine.fenced P (fence fr.r)) P (lone (b.atR a (.code c :: .inLoop c :: k)) cs w) b k cs x a' w' := by
    intro j
    induction j using Nat.strongRecOn with
    | _ j ih =>
      intro b0 a w e hS hh he
      obtain ⟨x, a1, w1, hq, harr⟩ := round j b0 hS a w e hh he b (.inLoop c :: k) cs hro hb hr
      obtain ⟨y, E', M', e', q, h1, h2, h3⟩ := hq
      cases y with
      | normal =>
        cases h3
        obtain ⟨k', b', hlt, hS', rfl, rfl⟩ := q
        obtain ⟨x2, a2, w2, hq2, harr2⟩ := ih k' hlt b' a1 w1 e' hS' h1 h2
        exact ⟨x2, a2, w2, hq2, .of_steps (StepsIn.trans harr (.one (fenced_calm hb hr rfl) stepR_inLoop)) harr2⟩
      | exit id => cases h3; exact ⟨_, a1, w1, ⟨_, E', M', e', q, h1, h2, rfl⟩, .pass (x := .inLoop c) rfl (fun _ _ => .inl (by simp)) harr⟩
      | goto l => cases h3; exact ⟨_, a1, w1, ⟨_, E', M', e', q, h1, h2, rfl⟩, .pass (x := .inLoop c) rfl (fun _ _ => .inl (by simp)) harr⟩
      | ret => cases h3; exact ⟨_, a1, w1, ⟨_, E', M', e', q, h1, h2, rfl⟩, .pass (x := .inLoop c) rfl (fun _ _ => .inl (by simp)) harr⟩
      | panic v =>
        obtain ⟨u, rfl, hv⟩ := h3
        exact ⟨_, a1, w1, ⟨_, E', M', e', q, h1, h2, u, rfl, hv⟩, .pass (x := .inLoop c) rfl (fun _ _ => .inl (by simp)) harr⟩
  obtain ⟨x, a', w', hq, harr⟩ := key k0 b0 a w e h0 hh he
  exact ⟨x, a', w', hq, .of_steps (.one (fenced_calm hb hr rfl) stepR_loop) harr⟩
end
end Go.Q
