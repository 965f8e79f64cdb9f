/- Texts joined: part 1 of what LStoreRoom stands on. -/
import GoSem.Core.World
import Derived.CallsIn
import Derived.TacticsIn
import Derived.OrdersIn
import Derived.OrdersHeld
import Derived.RangeFuncIn
import Derived.RangeFuncLeaves
import Derived.RangeFuncRecord
import Derived.Laws.Entries
import Derived.Laws.Cells
import Derived.Laws.World
import Derived.Laws.AppendOwn
import Derived.Below
import Derived.KernelRfl
import Derived.Laws.Bits
import Derived.Laws.Tables
import Derived.Deep.AppendSrc
import Derived.Laws.MakeOwn
import Derived.Great.BuildSlice
theorem Go.Q.q_alloc_old (w : Go.World) (o : Go.Obj) (i : Nat) (h : i < w.heap.size) : (w.alloc o).heap[i]? = w.heap[i]? := by
  show (w.heap.push o)[i]? = w.heap[i]?
  rw [Array.getElem?_push, if_neg (Nat.ne_of_lt h)]
namespace Go.Q
open Go
def tabs : Nat → Option (List Value) := fun _ => none
theorem tabs_none {m : Nat → Option Obj} : ∀ g l, tabs g = some l → ∃ c t z, m g = some (.cells c t z) ∧ c.toList.take l.length = l := fun _ _ h => by cases h
/-- Whole numbers among the program's variables of which nothing is known: here none. -/
def opens : List Nat := []
def Open1 (m : Nat → Option Obj) (g : Nat) (x : Int) : Prop := ∃ c t z, m g = some (.cells c t z) ∧ c.toList[0]? = some (.int .i64 x)
theorem opens_none {m : Nat → Option Obj} : ∀ g, opens.contains g = true → ∃ x, Open1 m g x := fun _ h => by cases h
end Go.Q
set_option linter.unusedVariables false
set_option linter.unusedSimpArgs false
namespace Go.Q
/-- Memory that is only read: some blocks. -/
structure Ro where
  f : Nat → Option Obj
  /-- Where the objects of the pool lie. -/
  tab : Nat → Option Nat
instance : CoeFun Ro fun _ => Nat → Option Obj := ⟨Ro.f⟩
def Ro.nil : Ro := ⟨fun _ => none, fun _ => none⟩
structure Ro.le (m m' : Ro) : Prop where
  f : ∀ b o, m b = some o → m' b = some o
  tab : ∀ i a, m.tab i = some a → m'.tab i = some a
theorem Ro.le.refl (m : Ro) : Ro.le m m := ⟨fun _ _ h => h, fun _ _ h => h⟩
theorem Ro.le.trans {a b c : Ro} (h : Ro.le a b) (k : Ro.le b c) : Ro.le a c := ⟨fun x o e => k.f x o (h.f x o e), fun x o e => k.tab x o (h.tab x o e)⟩
/-- How a datum lies in cells. -/
structure Rd (α : Type) where
  sz : Nat
  ok : Ro → α → List Value → Prop
  mono : ∀ {m m' : Ro} {d : α} {cs : List Value}, Ro.le m m' → ok m d cs → ok m' d cs
  len : ∀ {m : Ro} {d : α} {cs : List Value}, ok m d cs → cs.length = sz
  one : ∀ {m : Ro} {d : α} {cs : List Value}, ok m d cs → ∀ v ∈ cs, v.oneCell' = true
/-- A datum that is one value. -/
def Rd.sc {α : Type} (f : α → Value) (h : ∀ x, (f x).oneCell' = true := by intro; rfl) : Rd α where
  sz := 1
  ok _ d cs := cs = [f d]
  mono _ h := h
  len h := by simp [h]
  one h' := by intro v hv; rw [h'] at hv; simp at hv; rw [hv]; exact h _
def Rd.int (k : IntKind) : Rd Int := Rd.sc (Value.int k)
def Rd.bool : Rd Bool := Rd.sc Value.bool
def Rd.str : Rd ByteArray := Rd.sc Value.string
def Rd.unit : Rd Unit where
  sz := 0
  ok _ _ cs := cs = []
  mono _ h := h
  len h := by simp [h]
  one h := by intro v hv; rw [h] at hv; simp at hv
def Rd.pair {α β : Type} (A : Rd α) (B : Rd β) : Rd (α × β) where
  sz := A.sz + B.sz
  ok m d cs := ∃ x y, cs = x ++ y ∧ A.ok m d.1 x ∧ B.ok m d.2 y
  mono hm h := let ⟨x, y, e, h1, h2⟩ := h; ⟨x, y, e, A.mono hm h1, B.mono hm h2⟩
  len h := by obtain ⟨x, y, e, h1, h2⟩ := h; simp [e, A.len h1, B.len h2]
  one h := by
    obtain ⟨x, y, e, h1, h2⟩ := h
    intro v hv
    rw [e, List.mem_append] at hv
    exact hv.elim (A.one h1 v) (B.one h2 v)
def Rd.via {α β : Type} (A : Rd α) (g : β → α) : Rd β where
  sz := A.sz
  ok m d cs := A.ok m (g d) cs
  mono hm h := A.mono hm h
  len h := A.len h
  one h := A.one h
/-- Rows of a datum, one behind the other. -/
def rows {α : Type} (A : Rd α) (m : Ro) : List α → List Value → Prop
  | [], _ => True
  | d :: l, cs => A.ok m d (cs.take A.sz) ∧ rows A m l (cs.drop A.sz)
theorem rows_mono {α : Type} {A : Rd α} {m m' : Ro} (hm : Ro.le m m') : ∀ {l : List α} {cs : List Value}, rows A m l cs → rows A m' l cs
  | [], _, _ => trivial
  | _ :: _, _, h => ⟨A.mono hm h.1, rows_mono hm h.2⟩
theorem rows_len {α : Type} {A : Rd α} {m : Ro} : ∀ {l : List α} {cs : List Value}, rows A m l cs → l.length * A.sz ≤ cs.length
  | [], _, _ => by simp
  | d :: l, cs, h => by
    have h1 := A.len h.1
    have h2 := rows_len h.2
    simp at h1 h2
    simp only [List.length_cons, Nat.add_mul, Nat.one_mul]
    omega
theorem rows_get {α : Type} {A : Rd α} {m : Ro} : ∀ {l : List α} {cs : List Value} {i : Nat} {d : α}, rows A m l cs → l[i]? = some d → A.ok m d ((cs.drop (i * A.sz)).take A.sz)
  | [], _, i, d, _, h => by simp at h
  | x :: l, cs, 0, d, h, e => by simp at e; subst e; simpa using h.1
  | x :: l, cs, i + 1, d, h, e => by
    have := rows_get (i := i) h.2 (by simpa using e)
    rw [List.drop_drop] at this
    rw [show (i + 1) * A.sz = A.sz + i * A.sz by rw [Nat.add_mul]; omega]
    exact this
theorem rows_drop {α : Type} {A : Rd α} {m : Ro} : ∀ {l : List α} {cs : List Value} (n : Nat), rows A m l cs → rows A m (l.drop n) (cs.drop (n * A.sz))
  | l, cs, 0, h => by simpa using h
  | [], cs, n + 1, _ => by simp [rows]
  | x :: l, cs, n + 1, h => by
    have := rows_drop n h.2
    rw [List.drop_drop] at this
    rw [show (n + 1) * A.sz = A.sz + n * A.sz by rw [Nat.add_mul]; omega]
    exact this
theorem rows_take {α : Type} {A : Rd α} {m : Ro} : ∀ {l : List α} {cs : List Value} (n : Nat), rows A m l cs → rows A m (l.take n) cs
  | _, _, 0, _ => by simp [rows]
  | [], _, n + 1, _ => by simp [rows]
  | x :: l, cs, n + 1, h => ⟨h.1, rows_take n h.2⟩
theorem rows_append {α : Type} {A : Rd α} {m : Ro} : ∀ {l l' : List α} {cs cs' : List Value}, rows A m l cs → cs.length = l.length * A.sz → rows A m l' cs' → rows A m (l ++ l') (cs ++ cs')
  | [], _, cs, cs', _, hn, h' => by
    have : cs = [] := by simpa using hn
    subst this
    exact h'
  | x :: l, l', cs, cs', h, hn, h' => by
    have hl : A.sz ≤ cs.length := by rw [hn, List.length_cons, Nat.add_mul]; omega
    refine ⟨?_, ?_⟩
    · rw [List.take_append_of_le_length hl]; exact h.1
    · rw [List.drop_append_of_le_length hl]
      exact rows_append h.2 (by rw [List.length_drop, hn, List.length_cons, Nat.add_mul]; omega) h'
/-- Only the first cells count. -/
theorem rows_cut {α : Type} {A : Rd α} {m : Ro} : ∀ {l : List α} {cs cs' : List Value}, rows A m l cs → cs.take (l.length * A.sz) = cs'.take (l.length * A.sz) → rows A m l cs'
  | [], _, _, _, _ => trivial
  | x :: l, cs, cs', h, e => by
    have hz : (x :: l).length * A.sz = A.sz + l.length * A.sz := by rw [List.length_cons, Nat.add_mul]; omega
    rw [hz] at e
    refine ⟨?_, rows_cut h.2 ?_⟩
    · have := congrArg (List.take A.sz) e
      rw [List.take_take, List.take_take, Nat.min_eq_left (by omega)] at this
      rw [← this]; exact h.1
    · have := congrArg (List.drop A.sz) e
      rw [List.drop_take, List.drop_take] at this
      simpa using this
/-- A pointer to a datum. -/
def Rd.ptr {α : Type} (A : Rd α) : Rd α where
  sz := 1
  ok m d cs := ∃ b off c t fr, cs = [.pointer (some ⟨b, off, none⟩)] ∧ m b = some (.cells c t fr) ∧ A.ok m d ((c.toList.drop off).take A.sz)
  mono hm h := let ⟨b, off, c, t, fr, e, h1, h2⟩ := h; ⟨b, off, c, t, fr, e, hm.f _ _ h1, A.mono hm h2⟩
  len h := by obtain ⟨b, off, c, t, fr, e, _⟩ := h; simp [e]
  one h := by obtain ⟨b, off, c, t, fr, e, _⟩ := h; intro v hv; rw [e] at hv; simp at hv; rw [hv]; rfl
/-- A slice of data. -/
def Rd.slice {α : Type} (A : Rd α) : Rd (List α) where
  sz := 1
  ok m l cs := (l = [] ∧ ∃ a c, cs = [.slice a 0 c]) ∨
    ∃ b off c t fr cap, cs = [.slice (some ⟨b, off, none⟩) l.length cap] ∧ l.length ≤ cap ∧ m b = some (.cells c t fr) ∧ rows A m l (c.toList.drop off)
  mono hm h := h.imp id fun ⟨b, off, c, t, fr, cap, e, hc, h1, h2⟩ => ⟨b, off, c, t, fr, cap, e, hc, hm.f _ _ h1, rows_mono hm h2⟩
  len h := by
    rcases h with ⟨_, a, c, e⟩ | ⟨b, off, c, t, fr, cap, e, _⟩ <;> simp [e]
  one h := by
    rcases h with ⟨_, a, c, e⟩ | ⟨b, off, c, t, fr, cap, e, _⟩ <;> (intro v hv; rw [e] at hv; simp at hv; rw [hv]; rfl)
/-- A pointer into the pool, or nil: the number of its object. -/
def Rd.pp (off : Nat) : Rd (Option Nat) where
  sz := 1
  ok m d cs := match d with
    | none => cs = [.pointer none]
    | some k => ∃ a, m.tab k = some a ∧ cs = [.pointer (some ⟨a, off, none⟩)]
  mono {m m' d cs} hm h := by
    cases d with
    | none => exact h
    | some k => obtain ⟨a, h1, h2⟩ := h; exact ⟨a, hm.tab _ _ h1, h2⟩
  len {m d cs} h := by
    cases d with
    | none => rw [h]; rfl
    | some k => obtain ⟨a, h1, h2⟩ := h; rw [h2]; rfl
  one {m d cs} h := by
    intro v hv
    cases d with
    | none => rw [h] at hv; simp at hv; rw [hv]; rfl
    | some k => obtain ⟨a, h1, h2⟩ := h; rw [h2] at hv; simp at hv; rw [hv]; rfl
/-- What stands in a temporary or in a cell. -/
inductive AVal : Type 1
  | any
  | lit (v : Value)
  | ptr (i off : Nat)
  | opt (c : Bool) (i off : Nat)
  | mp (i : Nat)
  | whole (i : Nat)
  | sl (i sz off len : Nat)
  | ro {α : Type} (R : Rd α) (b : Bool) (d : α)
  | fn (f : FuncId) (cap : List AVal)
  | agg (l : List AVal)
  | tup (l : List AVal)
  | ifc (t : TypeId) (a : AVal)
/-- Where the chunks lie, and what is only read. -/
structure Nv where
  m : Ro
  bm : Ro
  own : Nat → Nat
  caps : Nat → Nat
  lens : Nat → Nat
  vir : Nat → Bool
  n : Nat
  bag : Nat → List Nat := fun _ => []
def Nv.mem (e : Nv) (b : Bool) : Ro := ⟨fun k => match e.m k with
  | some o => some o
  | none => if b then e.bm k else none, e.m.tab⟩
theorem Nv.mem_false (e : Nv) : e.mem false = e.m := by
  have : (e.mem false).f = e.m.f := by funext k; unfold Nv.mem; simp only; cases e.m.f k <;> simp
  have h2 : (e.mem false).tab = e.m.tab := rfl
  cases hm : e.m with
  | mk f t => rw [hm] at this h2; cases hx : e.mem false with | mk f' t' => rw [hx] at this h2; simp only at this h2; subst this h2; rfl
mutual
def Val (e : Nv) : AVal → Value → Prop
  | .any, _ => True
  | .lit x, v => v = x
  | .ptr i off, v => i < e.n ∧ e.vir i = false ∧ v = .pointer (some ⟨e.own i, off, none⟩)
  | .opt c i off, v => i < e.n ∧ e.vir i = false ∧ v = bif c then .pointer (some ⟨e.own i, off, none⟩) else .pointer none
  | .mp i, v => i < e.n ∧ e.vir i = false ∧ v = .map (some (e.own i))
  | .whole i, v => i < e.n ∧ e.lens i ≤ e.caps i ∧ if e.vir i then v = .slice none 0 0 ∧ e.lens i = 0 else v = .slice (some ⟨e.own i, 0, none⟩) (e.lens i) (e.caps i)
  | .sl i sz off len, v => i < e.n ∧ off + len ≤ e.caps i ∧ e.vir i = false ∧ ∃ o, v = .slice (some ⟨e.own i, o, none⟩) len (e.caps i - off) ∧ (off < e.caps i → o = off * sz)
  | .ro R b d, v => R.ok (e.mem b) d [v]
  | .fn f cap, v => ∃ vs : List Value, v = .func (.func f) #[] vs.toArray ∧ Vals e cap vs
  | .agg l, v => ∃ vs : List Value, v = .agg vs.toArray ∧ Vals e l vs ∧ ∀ x ∈ vs, x.oneCell' = true
  | .tup l, v => ∃ vs : List Value, v = .tuple vs.toArray ∧ Vals e l vs
  | .ifc t a, v => ∃ x, v = .iface t x ∧ Val e a x
def Vals (e : Nv) : List AVal → List Value → Prop
  | [], vs => vs = []
  | a :: l, vs => ∃ v ws, vs = v :: ws ∧ Val e a v ∧ Vals e l ws
end
/-- One naming goes on from another: nothing that has a meaning loses it. -/
structure Nv.le (e e' : Nv) : Prop where
  m : Ro.le e.m e'.m
  bm : Ro.le e.bm e'.bm
  n : e.n ≤ e'.n
  own : ∀ i, i < e.n → e'.own i = e.own i
  caps : ∀ i, i < e.n → e'.caps i = e.caps i
  lens : ∀ i, i < e.n → e'.lens i = e.lens i
  vir : ∀ i, i < e.n → e'.vir i = e.vir i
  bag : ∀ i, i < e.n → e'.bag i = e.bag i := by intros; rfl
theorem Nv.le.refl (e : Nv) : e.le e := ⟨Ro.le.refl _, Ro.le.refl _, Nat.le_refl _, fun _ _ => rfl, fun _ _ => rfl, fun _ _ => rfl, fun _ _ => rfl, fun _ _ => rfl⟩
theorem Nv.le.trans {a b c : Nv} (h : a.le b) (k : b.le c) : a.le c :=
  ⟨h.m.trans k.m, h.bm.trans k.bm, Nat.le_trans h.n k.n, fun i hi => (k.own i (Nat.lt_of_lt_of_le hi h.n)).trans (h.own i hi),
   fun i hi => (k.caps i (Nat.lt_of_lt_of_le hi h.n)).trans (h.caps i hi), fun i hi => (k.lens i (Nat.lt_of_lt_of_le hi h.n)).trans (h.lens i hi),
   fun i hi => (k.vir i (Nat.lt_of_lt_of_le hi h.n)).trans (h.vir i hi), fun i hi => (k.bag i (Nat.lt_of_lt_of_le hi h.n)).trans (h.bag i hi)⟩
/-- The reading memory grows, where what was read before stays read. -/
theorem Nv.mem_le {e e' : Nv} (h : e.le e') (hx : ∀ b o o', e'.m b = some o → e.m b = none → e.bm b = some o' → o = o') (b : Bool) : Ro.le (e.mem b) (e'.mem b) := by
  refine ⟨fun k o hk => ?_, h.m.tab⟩
  simp only [Nv.mem] at *
  cases hm : e.m k with
  | some o1 => rw [hm] at hk; rw [h.m.f _ _ hm]; exact hk
  | none =>
    rw [hm] at hk
    cases hm' : e'.m k with
    | some o2 =>
      simp only at hk ⊢
      split at hk
      · rw [hx k o2 o hm' hm hk]
      · cases hk
    | none =>
      simp only at hk ⊢
      split at hk
      · rename_i hb; rw [if_pos hb]; exact h.bm.f _ _ hk
      · cases hk
mutual
theorem Val.mono {e e' : Nv} (h : e.le e') (hb : ∀ b, Ro.le (e.mem b) (e'.mem b)) : ∀ {a : AVal} {v : Value}, Val e a v → Val e' a v
  | .any, _, _ => by simp [Val]
  | .lit _, _, k => by simpa [Val] using k
  | .ptr i off, v, k => by
    simp only [Val] at k ⊢
    exact ⟨Nat.lt_of_lt_of_le k.1 h.n, (h.vir i k.1).trans k.2.1, by rw [h.own i k.1]; exact k.2.2⟩
  | .opt c i off, v, k => by
    simp only [Val] at k ⊢
    exact ⟨Nat.lt_of_lt_of_le k.1 h.n, (h.vir i k.1).trans k.2.1, by rw [h.own i k.1]; exact k.2.2⟩
  | .mp i, v, k => by
    simp only [Val] at k ⊢
    exact ⟨Nat.lt_of_lt_of_le k.1 h.n, (h.vir i k.1).trans k.2.1, by rw [h.own i k.1]; exact k.2.2⟩
  | .whole i, v, k => by
    simp only [Val] at k ⊢
    rw [h.vir i k.1, h.own i k.1, h.lens i k.1, h.caps i k.1]
    exact ⟨Nat.lt_of_lt_of_le k.1 h.n, k.2⟩
  | .sl i sz off len, v, k => by
    simp only [Val] at k ⊢
    rw [h.vir i k.1, h.own i k.1, h.caps i k.1]
    exact ⟨Nat.lt_of_lt_of_le k.1 h.n, k.2⟩
  | .ro R b d, v, k => by
    simp only [Val] at k ⊢
    exact R.mono (hb b) k
  | .fn f cap, v, k => by
    simp only [Val] at k ⊢
    obtain ⟨vs, e1, h1⟩ := k
    exact ⟨vs, e1, Vals.mono h hb h1⟩
  | .agg l, v, k => by
    simp only [Val] at k ⊢
    obtain ⟨vs, e1, h1, h2⟩ := k
    exact ⟨vs, e1, Vals.mono h hb h1, h2⟩
  | .tup l, v, k => by
    simp only [Val] at k ⊢
    obtain ⟨vs, e1, h1⟩ := k
    exact ⟨vs, e1, Vals.mono h hb h1⟩
  | .ifc t a, v, k => by
    simp only [Val] at k ⊢
    obtain ⟨x, e1, h1⟩ := k
    exact ⟨x, e1, Val.mono h hb h1⟩
theorem Vals.mono {e e' : Nv} (h : e.le e') (hb : ∀ b, Ro.le (e.mem b) (e'.mem b)) : ∀ {l : List AVal} {vs : List Value}, Vals e l vs → Vals e' l vs
  | [], _, k => by simpa [Vals] using k
  | a :: l, vs, k => by
    simp only [Vals] at k ⊢
    obtain ⟨v, ws, e1, h1, h2⟩ := k
    exact ⟨v, ws, e1, Val.mono h hb h1, Vals.mono h hb h2⟩
end
/-- A piece of memory of our own. -/
inductive Chunk : Type 1
  | gone
  | cells (t : TypeId) (l : List AVal)
  | row (t : TypeId) {α : Type} (R : Rd α) (l : List α)
  | rowt (t : TypeId) {α : Type} (R : Rd α) (l : List α) (a : AVal)
  | obj (o : Obj)
  | bag
  | dict {K V : Type} (fk : K → Value) (R : Rd V) (l : List (K × V)) (x : Option (Array MapEntry × Nat))
  | iter (j clock : Nat) (es : Array MapEntry) {K V : Type} (last : Option (K × V)) (fk : K → Value) (R : Rd V) (rem : List (K × V))
/-- Entries of a map that tell a list. -/
def dictIs {K V : Type} (fk : K → Value) (R : Rd V) (m : Ro) (es : Array MapEntry) (clock : Nat) (l : List (K × V)) : Prop :=
  R.sz = 1 ∧ (es.toList.map (·.born)).Nodup ∧ (∀ x ∈ es.toList, x.born < clock) ∧ (l.map (·.1)).Nodup ∧
    ∃ l' : List (K × V), l'.Perm l ∧ l'.length = es.size ∧ ∀ (i : Nat) (p : K × V), l'[i]? = some p → ∃ x : MapEntry, es.toList[i]? = some x ∧ x.key = fk p.1 ∧ R.ok m p.2 [x.val]
theorem dictIs.mono {K V : Type} {fk : K → Value} {R : Rd V} {m m' : Ro} {es : Array MapEntry} {clock : Nat} {l : List (K × V)} (hm : Ro.le m m') (h : dictIs fk R m es clock l) : dictIs fk R m' es clock l := by
  obtain ⟨h0, h1, h2, h3, l', h4, h5, h6⟩ := h
  refine ⟨h0, h1, h2, h3, l', h4, h5, fun i p hp => ?_⟩
  obtain ⟨x, g1, g2, g3⟩ := h6 i p hp
  exact ⟨x, g1, g2, R.mono hm g3⟩
/-- The entries that a range has still ahead. -/
def remIs {K V : Type} (fk : K → Value) (R : Rd V) (m : Ro) (es : Array MapEntry) (seen : Array Nat) (rem : List (K × V)) : Prop :=
  ∃ r' : List (K × V), r'.Perm rem ∧ r'.length = (es.toList.filter fun x => !seen.contains x.born).length ∧
    ∀ (i : Nat) (p : K × V), r'[i]? = some p → ∃ x : MapEntry, (es.toList.filter fun x => !seen.contains x.born)[i]? = some x ∧ x.key = fk p.1 ∧ R.ok m p.2 [x.val]
theorem remIs.mono {K V : Type} {fk : K → Value} {R : Rd V} {m m' : Ro} {es : Array MapEntry} {seen : Array Nat} {rem : List (K × V)} (hm : Ro.le m m') (h : remIs fk R m es seen rem) : remIs fk R m' es seen rem := by
  obtain ⟨r', h1, h2, h3⟩ := h
  refine ⟨r', h1, h2, fun i p hp => ?_⟩
  obtain ⟨x, g1, g2, g3⟩ := h3 i p hp
  exact ⟨x, g1, g2, R.mono hm g3⟩
/-- The entry that a range has handed out last. -/
def lastIs {K V : Type} (fk : K → Value) (R : Rd V) (m : Ro) (es : Array MapEntry) (seen : Array Nat) (last : Option (K × V)) : Prop :=
  ∀ p, last = some p → ∃ (x : MapEntry) (s : Array Nat), x ∈ es.toList ∧ seen = s.push x.born ∧ x.key = fk p.1 ∧ R.ok m p.2 [x.val]
theorem lastIs.mono {K V : Type} {fk : K → Value} {R : Rd V} {m m' : Ro} {es : Array MapEntry} {seen : Array Nat} {last : Option (K × V)} (hm : Ro.le m m') (h : lastIs fk R m es seen last) : lastIs fk R m' es seen last := fun p hp => by
  obtain ⟨x, s, h1, h2, h3, h4⟩ := h p hp
  exact ⟨x, s, h1, h2, h3, R.mono hm h4⟩
/-- Objects of one type that are told by their numbers. -/
structure Pool : Type 1 where
  t : TypeId
  α : Type
  R : Rd α
  l : List α
structure Mem : Type 1 where
  n : Nat
  at_ : Nat → Chunk
  pool : Option Pool := none
def Mem.nil : Mem := ⟨0, fun _ => .gone, none⟩
def Mem.push (M : Mem) (c : Chunk) : Mem := ⟨M.n + 1, fun i => if Nat.beq i M.n = true then c else M.at_ i, M.pool⟩
def Mem.set (M : Mem) (j : Nat) (c : Chunk) : Mem := ⟨M.n, fun i => if Nat.beq i j = true then c else M.at_ i, M.pool⟩
/-- The pool, turned. -/
def Mem.withP (M : Mem) (t : TypeId) {α : Type} (R : Rd α) (l : List α) : Mem := ⟨M.n, M.at_, some ⟨t, α, R, l⟩⟩
theorem Mem.push_at (M : Mem) (c : Chunk) (i : Nat) : (M.push c).at_ i = if i = M.n then c else M.at_ i := by
  simp [Mem.push, Nat.beq_eq]
theorem Mem.set_at (M : Mem) (j : Nat) (c : Chunk) (i : Nat) : (M.set j c).at_ i = if i = j then c else M.at_ i := by
  simp [Mem.set, Nat.beq_eq]
/-- Does a chunk stand for a block? -/
def Chunk.live (e : Nv) (i : Nat) : Chunk → Prop
  | .gone => False
  | .bag => False
  | .row .. => e.vir i = false
  | _ => True
/-- No element of a row is shared with a string. -/
def thaw (c : Array Value) (z : Nat × Nat) : Prop := z.1 = z.2 ∨ c.size ≤ z.1
/-- What a chunk says of its block. -/
def Chunk.ok (e : Nv) (w : World) (i : Nat) : Chunk → Prop
  | .gone => True
  | .cells t l => e.vir i = false ∧ ∃ vs : List Value, w.heap[e.own i]? = some (.cells vs.toArray t (0, 0)) ∧ Vals e l vs ∧ ∀ x ∈ vs, x.oneCell' = true
  | .row t R l => e.lens i = l.length ∧ l.length ≤ e.caps i ∧ e.caps i ≤ maxLen ∧
      if e.vir i then l = [] else ∃ c : Array Value, ∃ z : Nat × Nat, w.heap[e.own i]? = some (.cells c t z) ∧ thaw c z ∧ c.size = e.caps i * R.sz ∧ rows R e.m l c.toList
  | .rowt t R l a => e.vir i = false ∧ e.lens i = l.length + 1 ∧ l.length + 1 ≤ e.caps i ∧ e.caps i ≤ maxLen ∧ R.sz = 1 ∧
      ∃ c : Array Value, ∃ z : Nat × Nat, w.heap[e.own i]? = some (.cells c t z) ∧ thaw c z ∧ c.size = e.caps i ∧ rows R e.m l c.toList ∧ ∃ v, c.toList[l.length]? = some v ∧ Val e a v ∧ v.oneCell' = true
  | .obj o => e.vir i = false ∧ w.heap[e.own i]? = some o
  | .bag => e.vir i = true
  | .dict fk R l x => e.vir i = false ∧ ∃ es clock, w.heap[e.own i]? = some (.map es clock) ∧ dictIs fk R e.m es clock l ∧ ∀ p, x = some p → p = (es, clock)
  | .iter j clock es last fk R rem => e.vir i = false ∧ (j < e.n ∧ e.vir j = false) ∧ ∃ seen, w.heap[e.own i]? = some (.mapIter (some (e.own j)) clock seen clock) ∧ remIs fk R e.m es seen rem ∧ lastIs fk R e.m es seen last
/-- A mark of ranges over functions. -/
def Chunk.mark : Chunk → Bool
  | .bag => true
  | .obj (.deferred (some [])) => true
  | _ => false
/-- What a call began with: the world, the blocks that it may change, what is only read; pinned chunks. -/
structure Cx where
  w0 : World
  F : Nat → Prop
  m0 : Ro
  bm : Ro
  np : Nat
  nv0 : Nv
  tb : ∀ g l, tabs g = some l → ∃ c t z, m0 g = some (.cells c t z) ∧ c.toList.take l.length = l
  op : ∀ g, opens.contains g = true → ∃ x, Open1 m0 g x
/-- What the further blocks of marks are. -/
structure BagOk (cx : Cx) (e : Nv) (M : Mem) (w : World) : Prop where
  nodup : ∀ i, i < e.n → (M.at_ i).mark = true → (e.bag i).Nodup
  at_ : ∀ i, i < e.n → (M.at_ i).mark = true → ∀ b ∈ e.bag i, w.heap[b]? = some (.deferred (some [])) ∧ e.m b = none ∧ e.bm b = none ∧ (cx.F b ∨ cx.w0.heap.size ≤ b)
  own : ∀ i, i < e.n → (M.at_ i).mark = true → ∀ b ∈ e.bag i, ∀ j, j < e.n → (M.at_ j).live e j → e.own j ≠ b
  dist : ∀ i j, i < e.n → j < e.n → (M.at_ i).mark = true → (M.at_ j).mark = true → i ≠ j → ∀ b ∈ e.bag i, b ∉ e.bag j
/-- The pool's objects lie where the table says, and nowhere that is anybody else's. -/
structure PoolOk (cx : Cx) (e : Nv) (M : Mem) (w : World) : Prop where
  no : M.pool = none → e.m.tab = cx.m0.tab
  len : ∀ p, M.pool = some p → ∀ k a, e.m.tab k = some a → k < p.l.length
  at_ : ∀ p, M.pool = some p → ∀ k d, p.l[k]? = some d → ∃ a c, e.m.tab k = some a ∧ w.heap[a]? = some (.cells c p.t (0, 0)) ∧ c.size = p.R.sz ∧ p.R.ok e.m d c.toList
  free : ∀ p, M.pool = some p → ∀ k a, e.m.tab k = some a → e.m a = none ∧ e.bm a = none ∧ (cx.F a ∨ cx.w0.heap.size ≤ a)
  own : ∀ p, M.pool = some p → ∀ k a, e.m.tab k = some a → ∀ j, j < e.n → (M.at_ j).live e j → e.own j ≠ a
  bag : ∀ p, M.pool = some p → ∀ k a, e.m.tab k = some a → ∀ i, i < e.n → (M.at_ i).mark = true → a ∉ e.bag i
  inj : ∀ p, M.pool = some p → ∀ k k' a, e.m.tab k = some a → e.m.tab k' = some a → k = k'
structure Hold (cx : Cx) (e : Nv) (M : Mem) (w : World) : Prop where
  bm : e.bm = cx.bm
  n : e.n = M.n
  size : cx.w0.heap.size ≤ w.heap.size
  os : w.os = cx.w0.os
  tape : w.tape = cx.w0.tape
  output : w.output = cx.w0.output
  frame : ∀ b, b < cx.w0.heap.size → ¬ cx.F b → w.heap[b]? = cx.w0.heap[b]?
  ro : ∀ b o, e.m b = some o → w.heap[b]? = some o
  bro : ∀ b o, e.bm b = some o → w.heap[b]? = some o
  m0 : Ro.le cx.m0 e.m
  mnew : ∀ b o, e.m b = some o → cx.m0 b = some o ∨ cx.F b ∨ cx.w0.heap.size ≤ b
  ch : ∀ i, i < e.n → (M.at_ i).ok e w i
  live : ∀ i, i < e.n → (M.at_ i).live e i → e.own i < w.heap.size ∧ e.m (e.own i) = none ∧ e.bm (e.own i) = none ∧ (cx.F (e.own i) ∨ cx.w0.heap.size ≤ e.own i)
  dist : ∀ i j, i < e.n → j < e.n → (M.at_ i).live e i → (M.at_ j).live e j → e.own i = e.own j → i = j
  np : cx.np ≤ e.n
  pin : ∀ i, i < cx.np → e.own i = cx.nv0.own i ∧ e.caps i = cx.nv0.caps i ∧ e.lens i = cx.nv0.lens i ∧ e.vir i = cx.nv0.vir i
  bag : BagOk cx e M w
  pool : PoolOk cx e M w
/-- Is it a block of the pool? -/
def inPool (e : Nv) (M : Mem) (b : Nat) : Prop := M.pool ≠ none ∧ ∃ k, e.m.tab k = some b
theorem PoolOk.lt {cx : Cx} {e : Nv} {M : Mem} {w : World} (h : PoolOk cx e M w) {b : Nat} (hb : inPool e M b) : b < w.heap.size := by
  obtain ⟨h1, k, h2⟩ := hb
  cases hp : M.pool with
  | none => exact absurd hp h1
  | some p =>
    have := h.len p hp k b h2
    obtain ⟨a, c, g1, g2, _⟩ := h.at_ p hp k _ (List.getElem?_eq_getElem this)
    rw [h2] at g1
    cases g1
    exact (Array.getElem?_eq_some_iff.1 g2).1
/-- Nothing is done to the pool. -/
theorem PoolOk.keep {cx : Cx} {e e' : Nv} {M M' : Mem} {w w' : World} (h : PoolOk cx e M w) (hp : M'.pool = M.pool) (ht : e'.m.tab = e.m.tab) (hm : Ro.le e.m e'.m)
    (hs : ∀ b, inPool e M b → w'.heap[b]? = w.heap[b]? ∧ e'.m b = none ∧ e'.bm b = none)
    (ho : ∀ b, inPool e M b → ∀ j, j < e'.n → (M'.at_ j).live e' j → e'.own j ≠ b) (hb : ∀ b, inPool e M b → ∀ i, i < e'.n → (M'.at_ i).mark = true → b ∉ e'.bag i) : PoolOk cx e' M' w' := by
  have ip : ∀ {p k a}, M'.pool = some p → e'.m.tab k = some a → M.pool = some p ∧ e.m.tab k = some a ∧ inPool e M a := fun {p k a} h1 h2 => by
    rw [hp] at h1; rw [ht] at h2
    exact ⟨h1, h2, by rw [h1]; simp, k, h2⟩
  refine ⟨fun h0 => ht.trans (h.no (hp ▸ h0)), fun p h0 k a h1 => ?_, fun p h0 k d h1 => ?_, fun p h0 k a h1 => ?_, fun p h0 k a h1 j => ?_, fun p h0 k a h1 i => ?_, fun p h0 k k' a h1 h2 => ?_⟩
  · obtain ⟨g1, g2, g3⟩ := ip h0 h1; exact h.len p g1 k a g2
  · rw [hp] at h0
    obtain ⟨a, c, g1, g2, g3, g4⟩ := h.at_ p h0 k d h1
    exact ⟨a, c, by rw [ht]; exact g1, by rw [(hs a ⟨by rw [h0]; simp, k, g1⟩).1]; exact g2, g3, p.R.mono hm g4⟩
  · obtain ⟨g1, g2, g3⟩ := ip h0 h1
    exact ⟨(hs a g3).2.1, (hs a g3).2.2, (h.free p g1 k a g2).2.2⟩
  · obtain ⟨g1, g2, g3⟩ := ip h0 h1; exact ho a g3 j
  · obtain ⟨g1, g2, g3⟩ := ip h0 h1; exact hb a g3 i
  · obtain ⟨g1, g2, g3⟩ := ip h0 h1
    rw [ht] at h2
    exact h.inj p g1 k k' a g2 h2
theorem PoolOk.notOwn {cx : Cx} {e : Nv} {M : Mem} {w : World} (h : PoolOk cx e M w) {b : Nat} (hb : inPool e M b) {j : Nat} (hj : j < e.n) (hl : (M.at_ j).live e j) : e.own j ≠ b := by
  obtain ⟨h1, k, h2⟩ := hb
  cases hp : M.pool with
  | none => exact absurd hp h1
  | some p => exact h.own p hp k b h2 j hj hl
theorem PoolOk.notBag {cx : Cx} {e : Nv} {M : Mem} {w : World} (h : PoolOk cx e M w) {b : Nat} (hb : inPool e M b) {j : Nat} (hj : j < e.n) (hl : (M.at_ j).mark = true) : b ∉ e.bag j := by
  obtain ⟨h1, k, h2⟩ := hb
  cases hp : M.pool with
  | none => exact absurd hp h1
  | some p => exact h.bag p hp k b h2 j hj hl
theorem PoolOk.isFree {cx : Cx} {e : Nv} {M : Mem} {w : World} (h : PoolOk cx e M w) {b : Nat} (hb : inPool e M b) : e.m b = none ∧ e.bm b = none ∧ (cx.F b ∨ cx.w0.heap.size ≤ b) := by
  obtain ⟨h1, k, h2⟩ := hb
  cases hp : M.pool with
  | none => exact absurd hp h1
  | some p => exact h.free p hp k b h2
/-- A frame that waits: its state, what its temporaries are, the chunks of its marks; the chunk and the block of the record of the loop that it is in. -/
structure OEnv : Type 1 where
  a : Act
  v : Nat → AVal
  d : List Nat
  lk : Option (Nat × Nat)
/-- The temporaries; the marks; the frames that wait. -/
structure Env : Type 1 where
  v : Nat → AVal
  d : List Nat := []
  o : List OEnv := []
  b : List Deferred := []
def Env.upd (E : Env) (t : Nat) (a : AVal) : Env := ⟨fun u => if Nat.beq u t = true then a else E.v u, E.d, E.o, E.b⟩
def Env.none : Env := ⟨fun _ => .any, [], [], []⟩
def Env.ev (E : Env) : Operand → AVal
  | .tmp t => E.v t
  | .const v => .lit v
  | .global _ => .any
  | .func f => .fn f []
theorem Env.upd_v (E : Env) (t : Nat) (a : AVal) (u : Nat) : (E.upd t a).v u = if u = t then a else E.v u := by
  simp [Env.upd, Nat.beq_eq]
/-- The marks of ranges over functions among the deferred calls: chunks that are blocks of deferred calls. -/
def markBlocks (e : Nv) (i : Nat) : List Nat := (if e.vir i then [] else [e.own i]) ++ e.bag i
def marks (e : Nv) (M : Mem) : List Nat → List Deferred → Prop
  | [], ds => ds = []
  | i :: l, ds => ∃ r, ds = (markBlocks e i).map (fun b => { target := .collected b, args := #[] }) ++ r ∧ i < e.n ∧ marks e M l r
/-- The same, ahead of the frame's own deferred calls. -/
def marksB (e : Nv) (M : Mem) (b : List Deferred) (l : List Nat) (ds : List Deferred) : Prop := ∃ r, ds = r ++ b ∧ marks e M l r
/-- What a waiting frame holds. -/
structure okO (e : Nv) (M : Mem) (p : OEnv) : Prop where
  v : ∀ t, Val e (p.v t) (p.a.tmps.getD t undef)
  d : marks e M p.d p.a.defers
  lk : ∀ i l, p.lk = some (i, l) → i < e.n ∧ e.own i = l
structure Emb (nt : Nat) (e : Nv) (M : Mem) (E : Env) (a : Act) : Prop where
  sz : a.tmps.size = nt
  v : ∀ t, Val e (E.v t) (a.tmps.getD t undef)
  d : marksB e M E.b E.d a.defers
  o : ∀ p ∈ E.o, okO e M p
theorem Emb.ev {nt : Nat} {e : Nv} {M : Mem} {E : Env} {a : Act} (h : Emb nt e M E a) (x : Operand) : Val e (E.ev x) (a.eval x) := by
  cases x with
  | tmp t => exact h.v t
  | const v => simp [Env.ev, Val, Act.eval]
  | global g => simp [Env.ev, Val]
  | func f => simp [Env.ev, Val, Vals, Act.eval]
theorem marks.mono {e e' : Nv} {M M' : Mem} (h : e.le e') : ∀ {l : List Nat} {ds : List Deferred}, marks e M l ds → marks e' M' l ds
  | [], _, k => k
  | i :: l, ds, k => by
    obtain ⟨r, e1, hi, h1⟩ := k
    exact ⟨r, by unfold markBlocks; rw [h.own i hi, h.vir i hi, h.bag i hi]; exact e1, Nat.lt_of_lt_of_le hi h.n, marks.mono h h1⟩
theorem marksB.mono {e e' : Nv} {M M' : Mem} (h : e.le e') {b : List Deferred} {l : List Nat} {ds : List Deferred} (k : marksB e M b l ds) : marksB e' M' b l ds :=
  let ⟨r, h1, h2⟩ := k; ⟨r, h1, h2.mono h⟩
theorem marksB.nil {e : Nv} {M : Mem} {l : List Nat} {ds : List Deferred} : marksB e M [] l ds ↔ marks e M l ds :=
  ⟨fun ⟨r, h1, h2⟩ => by rw [List.append_nil] at h1; subst h1; exact h2, fun h => ⟨ds, by simp, h⟩⟩
theorem okO.mono {e e' : Nv} {M M' : Mem} {p : OEnv} (h : okO e M p) (hle : e.le e') (hb : ∀ b, Ro.le (e.mem b) (e'.mem b)) : okO e' M' p :=
  ⟨fun t => (h.v t).mono hle hb, h.d.mono hle, fun i l hl => let ⟨h1, h2⟩ := h.lk i l hl; ⟨Nat.lt_of_lt_of_le h1 hle.n, (hle.own i h1).trans h2⟩⟩
theorem Emb.put {nt : Nat} {e : Nv} {M : Mem} {E : Env} {a : Act} (h : Emb nt e M E a) {t : Nat} (ht : Nat.blt t nt = true) {x : AVal} {v : Value} (hv : Val e x v) :
    Emb nt e M (E.upd t x) (a.put (some t) v) := by
  have ht' : t < a.tmps.size := by rw [h.sz]; simpa [Nat.blt_eq] using ht
  refine ⟨by simp [Act.put, h.sz], fun u => ?_, h.d, h.o⟩
  rw [Env.upd_v]
  simp only [Act.put]
  by_cases hu : u = t
  · subst hu; simp [ht', hv]
  · rw [if_neg hu]
    have := h.v u
    simp only [Array.getD_eq_getD_getElem?] at this ⊢
    rw [Array.getElem?_setIfInBounds_ne (Ne.symm hu)]
    exact this
theorem callFunc_some {P : Program} {w : World} {f : FuncId} {args : Array Value} {x : Next} {w' : World} (h : (callFunc f args).run P w = .ok x w') : (P.funcs[f]?).isSome = true := by
  cases hf : P.funcs[f]? with
  | some fn => rfl
  | none => simp [callFunc, hf] at h
theorem byName_some {P : Program} {w : World} {recv : Value} {name : String} {args : Array Value} {x : Next} {w' : World} (h : (callMethod recv name args).run P w = .ok x w') {f : FuncId}
    (hl : (match some recv with
      | some (.iface u v) =>
        match (method (P.types.size + Made.depth) u v name).run P w with
        | .ok (f, _) _ => some f
        | .halt _ _ => none
      | _ => none) = some f) : (P.funcs[f]?).isSome = true := by
  cases recv with
  | iface u v =>
    simp only at hl
    cases hm : (method (P.types.size + Made.depth) u v name).run P w with
    | ok r w1 =>
      obtain ⟨g, r⟩ := r
      rw [hm] at hl
      simp only [Option.some.injEq] at hl
      subst hl
      simp [callMethod, hm] at h
      exact callFunc_some h
    | halt q w1 => rw [hm] at hl; cases hl
  | _ => simp at hl
theorem invoke_some {P : Program} {w : World} {t : Target} {args : Array Value} {x : Next} {w' : World} (h : (invoke t args).run P w = .ok x w') {f : FuncId} (hl : t.leads P w args = some f) : (P.funcs[f]?).isSome = true := by
  unfold Target.leads at hl
  cases t with
  | fn fv cap =>
    cases fv with
    | func g => simp only [Option.some.injEq] at hl; subst hl; simp only [invoke] at h; exact callFunc_some h
    | via a b g c =>
      simp only [Option.some.injEq] at hl; subst hl
      cases hx : args[0]? with
      | none => simp [invoke, hx] at h
      | some y =>
        simp [invoke, hx] at h
        cases hrv : (receiverVia a y b c).run P w with
        | ok r w1 => rw [hrv] at h; exact callFunc_some h
        | halt q w1 => rw [hrv] at h; cases h
    | method name =>
      simp only at hl
      cases hx : args[0]? with
      | none => rw [hx] at hl; simp at hl
      | some y =>
        rw [hx] at hl
        simp [invoke, hx] at h
        exact byName_some h hl
    | methodOf u name =>
      cases hx : args[0]? with
      | none => rw [hx] at hl; simp at hl
      | some y =>
        rw [hx] at hl
        simp only [Option.map_some] at hl
        simp [invoke, hx] at h
        cases hu : P.underlying u with
        | none => simp [underlying, hu] at h
        | some td =>
          rw [hu] at hl
          have hrun : (underlying u).run P w = .ok td w := by simp [underlying, hu]
          rw [hrun] at h
          cases td <;> exact byName_some h hl
    | yield l => simp at hl
  | _ => simp at hl
/-- What an operation that runs is about is a function of the program. -/
theorem about_some {P : Program} {w : World} {ρ : Operand → Value} {o : Oper} {x : Next} {w' : World} (h : (execOp ρ o).run P w = .ok x w') : ∀ f, o.about P w ρ = some f → (P.funcs[f]?).isSome = true := by
  intro f hf
  unfold Oper.about at hf
  cases ho : o.op with
  | call c =>
    rw [ho] at hf
    simp only at hf
    cases hr : (resolve ρ c o.type).run P w with
    | ok d w1 =>
      rw [hr] at hf
      simp [execOp, ho, hr] at h
      exact invoke_some h hf
    | halt q w1 => rw [hr] at hf; cases hf
  | _ => rw [ho] at hf; simp at hf
/-- The fence of a plain walk, or of a round of a range over a function: frames of functions that the program has. -/
abbrev fence (P : Program) (r : Option Nat) : Fence := { fn := fun f => (P.funcs[f]?).isSome = true, depth := Option.none, alive := false, round := r }
/-- How a piece of code is left. -/
inductive Ex : Type 1
  | normal
  | exit (id : Nat)
  | goto (l : Nat)
  | ret
  | panic (a : AVal)
def Ex.is (e : Nv) : Ex → Exit → Prop
  | .normal, x => x = .normal
  | .exit id, x => x = .exit id
  | .goto l, x => x = .goto l
  | .ret, x => x = .ret
  | .panic a, x => ∃ v, x = .panic [{ v, recovered := false }] ∧ Val e a v
structure Fr where
  nt : Nat
  r : Option Nat := Option.none
  /-- Temporaries that are still what they are at a panic. -/
  pin : List Nat := []
/-- A temporary of the frame that is none of those. -/
def Fr.okd (fr : Fr) (d : Nat) : Bool := Nat.blt d fr.nt && !fr.pin.contains d
/-- At a panic the temporaries are nothing any more, but for those that are kept. -/
def EmbX (fr : Fr) (e : Nv) (M : Mem) (E : Env) (a : Act) : Ex → Prop
  | .panic _ => (marksB e M E.b E.d a.defers ∧ ∀ t, fr.pin.contains t = true → Val e (E.v t) (a.tmps.getD t undef)) ∧ ∀ p ∈ E.o, okO e M p
  | _ => Emb fr.nt e M E a
/-- What a walk comes to. -/
def Sat (cx : Cx) (fr : Fr) (Q : Ex → Env → Mem → Prop) (x : Exit) (a : Act) (w : World) : Prop :=
  ∃ y E M e, Q y E M ∧ Hold cx e M w ∧ EmbX fr e M E a y ∧ y.is e x
/-- A leaf: what is left so comes to Q. -/
def W (cx : Cx) (fr : Fr) (Q : Ex → Env → Mem → Prop) (x : Ex) (E : Env) (M : Mem) : Prop :=
  ∀ a w e X, Hold cx e M w → EmbX fr e M E a x → x.is e X → Sat cx fr Q X a w
theorem W.now {cx : Cx} {fr : Fr} {Q : Ex → Env → Mem → Prop} {x : Ex} {E : Env} {M : Mem} (h : Q x E M) : W cx fr Q x E M := fun a w e X hh he hx => ⟨x, E, M, e, h, hh, he, hx⟩
/-- THE WALK of code from a state. -/
def WP (P : Program) (cx : Cx) (fr : Fr) (c : Code) (E : Env) (M : Mem) (Q : Ex → Env → Mem → Prop) : Prop :=
  ∀ a w e, Hold cx e M w → Emb fr.nt e M E a → c.wpIn (fence P fr.r) 0 P (Sat cx fr Q) a w
/-- The walk of a region's operations, in the order of the text. -/
def WPL (P : Program) (cx : Cx) (fr : Fr) (ops : Array Oper) (os : List Oper) (E : Env) (M : Mem) (Q : Ex → Env → Mem → Prop) : Prop :=
  ∀ a w e, Hold cx e M w → Emb fr.nt e M E a → wpListIn (fence P fr.r) 0 P ops (Sat cx fr Q) os a w
theorem fence_room {P : Program} (r : Option Nat) (n : Nat) : (fence P r).room n := fun d h => by simp at h
section
variable {P : Program} {cx : Cx} {fr : Fr} {E : Env} {M : Mem} {Q : Ex → Env → Mem → Prop}
theorem Sat.mono {Q' : Ex → Env → Mem → Prop} (h : ∀ x E M, Q x E M → Q' x E M) {x : Exit} {a : Act} {w : World} (k : Sat cx fr Q x a w) : Sat cx fr Q' x a w :=
  let ⟨y, E, M, e, q, r⟩ := k; ⟨y, E, M, e, h _ _ _ q, r⟩
theorem WP.mono {c : Code} {Q' : Ex → Env → Mem → Prop} (h : WP P cx fr c E M Q) (hq : ∀ x E M, Q x E M → Q' x E M) : WP P cx fr c E M Q' :=
  fun a w e hh he => Go.wpIn_mono (h a w e hh he) fun _ _ _ k => k.mono hq
theorem WP.skip (h : Q .normal E M) : WP P cx fr .skip E M Q := fun _ _ e hh he => wpIn_skip ⟨.normal, E, M, e, h, hh, he, rfl⟩
theorem WP.label {l : Nat} (h : Q .normal E M) : WP P cx fr (.label l) E M Q := fun _ _ e hh he => wpIn_label ⟨.normal, E, M, e, h, hh, he, rfl⟩
theorem WP.exit {id : Nat} (h : Q (.exit id) E M) : WP P cx fr (.exit id) E M Q := fun _ _ e hh he => wpIn_exit ⟨.exit id, E, M, e, h, hh, he, rfl⟩
theorem WP.goto {l : Nat} (h : Q (.goto l) E M) : WP P cx fr (.goto l) E M Q := fun _ _ e hh he => wpIn_goto ⟨.goto l, E, M, e, h, hh, he, rfl⟩
theorem WP.ret (h : Q .ret E M) : WP P cx fr .ret E M Q := fun _ _ e hh he => wpIn_ret ⟨.ret, E, M, e, h, hh, he, rfl⟩
/-- Behind a piece: on with the next, or out. -/
def Then (next : Env → Mem → Prop) (Q : Ex → Env → Mem → Prop) : Ex → Env → Mem → Prop
  | .normal, E, M => next E M
  | x, E, M => Q x E M
theorem WP.seq {c d : Code} (h : WP P cx fr c E M (Then (fun E M => WP P cx fr d E M Q) Q)) : WP P cx fr (.seq c d) E M Q :=
  fun a w e hh he => wpIn_seq (Go.wpIn_mono (h a w e hh he) fun x a' w' k => by
    obtain ⟨y, E', M', e', q, h1, h2, h3⟩ := k
    cases y with
    | normal => cases h3; exact q a' w' e' h1 h2
    | exit id => cases h3; exact ⟨_, E', M', e', q, h1, h2, rfl⟩
    | goto id => cases h3; exact ⟨_, E', M', e', q, h1, h2, rfl⟩
    | ret => cases h3; exact ⟨_, E', M', e', q, h1, h2, rfl⟩
    | panic v =>
      obtain ⟨u, rfl, hv⟩ := h3
      exact ⟨_, E', M', e', q, h1, h2, u, rfl, hv⟩)
def InBlock (id : Nat) (Q : Ex → Env → Mem → Prop) : Ex → Env → Mem → Prop
  | .exit id', E, M => if Nat.beq id' id = true then Q .normal E M else Q (.exit id') E M
  | x, E, M => Q x E M
theorem WP.block {id : Nat} {c : Code} (h : WP P cx fr c E M (InBlock id Q)) : WP P cx fr (.block id c) E M Q :=
  fun a w e hh he => wpIn_block (Go.wpIn_mono (h a w e hh he) fun x a' w' k => by
    obtain ⟨y, E', M', e', q, h1, h2, h3⟩ := k
    cases y with
    | normal => cases h3; exact ⟨_, E', M', e', q, h1, h2, rfl⟩
    | exit id' =>
      cases h3
      simp only [InBlock, Nat.beq_eq] at q
      simp only [Exit.inBlock]
      split
      · rename_i hid; rw [if_pos (by simpa using hid)] at q; exact ⟨_, E', M', e', q, h1, h2, rfl⟩
      · rename_i hid; rw [if_neg (by simpa using hid)] at q; exact ⟨_, E', M', e', q, h1, h2, rfl⟩
    | goto id => cases h3; exact ⟨_, E', M', e', q, h1, h2, rfl⟩
    | ret => cases h3; exact ⟨_, E', M', e', q, h1, h2, rfl⟩
    | panic v =>
      obtain ⟨u, rfl, hv⟩ := h3
      exact ⟨_, E', M', e', q, h1, h2, u, rfl, hv⟩)
theorem WP.cond {c : Operand} {x y : Code} {t : Bool} (hc : E.ev c = .lit (.bool t)) (h1 : t = true → WP P cx fr x E M Q) (h2 : t = false → WP P cx fr y E M Q) : WP P cx fr (.cond c x y) E M Q :=
  fun a w e hh he => by
    have hv := he.ev c
    rw [hc] at hv
    exact wpIn_cond_split (by simpa [Val] using hv) (fun ht => h1 ht a w e hh he) (fun ht => h2 ht a w e hh he)
/-- A loop of which a bound of rounds is known: by the number of rounds that are left. -/
theorem WP.loop.{u} {c : Code} {β : Type u} (S : Nat → β → Prop) (Es : β → Env) (Ms : β → Mem) (k0 : Nat) (b0 : β) (h0 : S k0 b0) (hE : E = Es b0) (hM : M = Ms b0)
    (round : ∀ k b, S k b → WP P cx fr c (Es b) (Ms b) (Then (fun E' M' => ∃ k' b', k' < k ∧ S k' b' ∧ E' = Es b' ∧ M' = Ms b') Q)) : WP P cx fr (.loop c) E M Q := by
  subst hE hM
  intro a w e hh he b k cs hro hb hr
  have key : ∀ j b0 a w e, S j b0 → Hold cx e (Ms b0) w → Emb fr.nt e (Ms b0) (Es b0) a →
      ∃ x a' w', Sat cx fr Q x a' w' ∧ ArrivesIn (Machine.fenced P (fence P fr.r)) P (lone (b.atR a (.code c :: .inLoop c :: k)) cs w) b k cs x a' w' := by
    intro j
    induction j using Nat.strongRecOn with
    | _ j ih =>
      intro b0 a w e hS hh he
      obtain ⟨x, a1, w1, hq, harr⟩ := round j b0 hS a w e hh he b (.inLoop c :: k) cs hro hb hr
      obtain ⟨y, E', M', e', q, h1, h2, h3⟩ := hq
      cases y with
      | normal =>
        cases h3
        obtain ⟨k', b', hlt, hS', rfl, rfl⟩ := q
        obtain ⟨x2, a2, w2, hq2, harr2⟩ := ih k' hlt b' a1 w1 e' hS' h1 h2
        exact ⟨x2, a2, w2, hq2, .of_steps (StepsIn.trans harr (.one (fenced_calm hb hr rfl) stepR_inLoop)) harr2⟩
      | exit id => cases h3; exact ⟨_, a1, w1, ⟨_, E', M', e', q, h1, h2, rfl⟩, .pass (x := .inLoop c) rfl (fun _ _ => .inl (by simp)) harr⟩
      | goto l => cases h3; exact ⟨_, a1, w1, ⟨_, E', M', e', q, h1, h2, rfl⟩, .pass (x := .inLoop c) rfl (fun _ _ => .inl (by simp)) harr⟩
      | ret => cases h3; exact ⟨_, a1, w1, ⟨_, E', M', e', q, h1, h2, rfl⟩, .pass (x := .inLoop c) rfl (fun _ _ => .inl (by simp)) harr⟩
      | panic v =>
        obtain ⟨u, rfl, hv⟩ := h3
        exact ⟨_, a1, w1, ⟨_, E', M', e', q, h1, h2, u, rfl, hv⟩, .pass (x := .inLoop c) rfl (fun _ _ => .inl (by simp)) harr⟩
  obtain ⟨x, a', w', hq, harr⟩ := key k0 b0 a w e h0 hh he
  exact ⟨x, a', w', hq, .of_steps (.one (fenced_calm hb hr rfl) stepR_loop) harr⟩
end
end Go.Q
namespace Go.Q
open Go
set_option linter.unusedVariables false
set_option linter.unusedSimpArgs false
/-- The operation alone. -/
abbrev exec1 (ρ : Operand → Value) (op : Op) (ty : TypeId) : Sem Next := execOp ρ { dst := Option.none, op := op, type := ty, pos := "", after := #[], guard := Option.none }
theorem execOp_one (ρ : Operand → Value) (o : Oper) : execOp ρ o = exec1 ρ o.op o.type := rfl
/-- The number that stands for the pool where chunks are listed. -/
def poolIx : Nat := 1000000
/-- Worlds in which what is read is the same. -/
structure Agree (e : Nv) (st : List Nat) (w w1 : World) : Prop where
  ro : ∀ b o, e.m b = some o → w1.heap[b]? = some o
  bro : ∀ b o, e.bm b = some o → w1.heap[b]? = some o
  own : ∀ i ∈ st, i < e.n → e.vir i = false → w1.heap[e.own i]? = w.heap[e.own i]?
  pool : poolIx ∈ st → ∀ k a, e.m.tab k = some a → w1.heap[a]? = w.heap[a]?
theorem Agree.mem {e : Nv} {st : List Nat} {w w1 : World} (h : Agree e st w w1) {b : Bool} {k : Nat} {o : Obj} (hk : e.mem b k = some o) : w1.heap[k]? = some o := by
  simp only [Nv.mem] at hk
  cases hm : e.m k with
  | some o1 => rw [hm] at hk; cases hk; exact h.ro _ _ hm
  | none =>
    rw [hm] at hk
    simp only at hk
    split at hk
    · exact h.bro _ _ hk
    · cases hk
theorem Agree.of_hold {cx : Cx} {e : Nv} {M : Mem} {w : World} (h : Hold cx e M w) (st : List Nat) : Agree e st w w := ⟨h.ro, h.bro, fun _ _ _ _ => rfl, fun _ _ _ _ => rfl⟩
/-- An operation that yields a value and does nothing else, in every world that agrees in what it reads. -/
def Quiet (P : Program) (op : Op) (ty : TypeId) (E : Env) (M : Mem) (st : List Nat) (v : AVal) : Prop :=
  ∀ cx nt a w e, Hold cx e M w → Emb nt e M E a → ∃ x, Val e v x ∧ ∀ w1, Agree e st w w1 → (exec1 a.eval op ty).run P w1 = .ok (.value x) w1
section
variable {P : Program} {ty : TypeId} {E : Env} {M : Mem}
theorem Quiet.weak {op : Op} {st st' : List Nat} {v : AVal} (h : Quiet P op ty E M st v) (hs : ∀ i ∈ st, i ∈ st') : Quiet P op ty E M st' v :=
  fun cx nt a w e hh he => let ⟨x, hv, hr⟩ := h cx nt a w e hh he; ⟨x, hv, fun w1 hw => hr w1 ⟨hw.ro, hw.bro, fun i hi => hw.own i (hs i hi), fun hp => hw.pool (hs _ hp)⟩⟩
theorem q_move (x : Operand) : Quiet P (.move x) ty E M [] (E.ev x) :=
  fun _ _ a _ _ _ he => ⟨a.eval x, he.ev x, fun _ _ => rfl⟩
theorem q_assign (x : Operand) : Quiet P (.assign x) ty E M [] (E.ev x) :=
  fun _ _ a _ _ _ he => ⟨a.eval x, he.ev x, fun _ _ => rfl⟩
theorem ev_lit {nt : Nat} {e : Nv} {a : Act} (he : Emb nt e M E a) {x : Operand} {v : Value} (h : E.ev x = .lit v) : a.eval x = v := by
  have := he.ev x; rw [h] at this; simpa [Val] using this
theorem q_pick {c x y : Operand} {t : Bool} (hc : E.ev c = .lit (.bool t)) : Quiet P (.pick c x y) ty E M [] (bif t then E.ev x else E.ev y) :=
  fun _ _ a _ _ _ he => by
    cases t with
    | true => exact ⟨a.eval x, he.ev x, fun _ _ => by simp [exec1, execOp, ev_lit he hc, asBool]⟩
    | false => exact ⟨a.eval y, he.ev y, fun _ _ => by simp [exec1, execOp, ev_lit he hc, asBool]⟩
/-- A binary operation on two known values, whose run is known in whatever world. -/
theorem q_bin {op : BinOp} {t yt : TypeId} {x y : Operand} {u v r : Value} (hx : E.ev x = .lit u) (hy : E.ev y = .lit v)
    (hg : eqGuard op t x y u v = pure ()) (hr : ∀ w, (binOp op t u v).run P w = .ok r w) : Quiet P (.binOp op t x y yt) ty E M [] (.lit r) :=
  fun _ _ a _ _ _ he => ⟨r, by simp [Val], fun w _ => by
    simp [exec1, execOp, ev_lit he hx, ev_lit he hy, hg, hr]⟩
theorem g_int {op : BinOp} {t : TypeId} {x y : Operand} {k k' : IntKind} {a b : Int} : eqGuard op t x y (.int k a) (.int k' b) = pure () := by cases op <;> rfl
theorem g_bool {op : BinOp} {t : TypeId} {x y : Operand} {a b : Bool} : eqGuard op t x y (.bool a) (.bool b) = pure () := by cases op <;> rfl
theorem g_str {op : BinOp} {t : TypeId} {x y : Operand} {a b : ByteArray} : eqGuard op t x y (.string a) (.string b) = pure () := by cases op <;> rfl
theorem g_ptr {op : BinOp} {t : TypeId} {x y : Operand} {a : Option Addr} {v : Value} : eqGuard op t x y (.pointer a) v = pure () := by cases op <;> rfl
theorem g_slice {op : BinOp} {t : TypeId} {x y : Operand} {a : Option Addr} {n c : Nat} {v : Value} : eqGuard op t x y (.slice a n c) v = pure () := by cases op <;> rfl
theorem g_map {op : BinOp} {t : TypeId} {x y : Operand} {a : Option Nat} {v : Value} : eqGuard op t x y (.map a) v = pure () := by cases op <;> rfl
section ints
variable {t yt : TypeId} {x y : Operand} {k k' : IntKind} {a b : Int}
theorem q_add (hx : E.ev x = .lit (.int k a)) (hy : E.ev y = .lit (.int k b)) : Quiet P (.binOp .add t x y yt) ty E M [] (.lit (.int k (k.wrap (a + b)))) :=
  q_bin hx hy g_int fun w => by simp [binOp, Op.intArith]
theorem q_sub (hx : E.ev x = .lit (.int k a)) (hy : E.ev y = .lit (.int k b)) : Quiet P (.binOp .sub t x y yt) ty E M [] (.lit (.int k (k.wrap (a - b)))) :=
  q_bin hx hy g_int fun w => by simp [binOp, Op.intArith]
theorem q_eql (hx : E.ev x = .lit (.int k a)) (hy : E.ev y = .lit (.int k b)) : Quiet P (.binOp .eql t x y yt) ty E M [] (.lit (.bool (decide (a = b)))) :=
  q_bin hx hy g_int fun w => by simp [binOp, Op.intCmp]; rfl
theorem q_neq (hx : E.ev x = .lit (.int k a)) (hy : E.ev y = .lit (.int k b)) : Quiet P (.binOp .neq t x y yt) ty E M [] (.lit (.bool (!decide (a = b)))) :=
  q_bin hx hy g_int fun w => by simp [binOp, Op.intCmp]; rfl
theorem q_lss (hx : E.ev x = .lit (.int k a)) (hy : E.ev y = .lit (.int k b)) : Quiet P (.binOp .lss t x y yt) ty E M [] (.lit (.bool (decide (a < b)))) :=
  q_bin hx hy g_int fun w => by simp [binOp, Op.intCmp]
theorem q_leq (hx : E.ev x = .lit (.int k a)) (hy : E.ev y = .lit (.int k b)) : Quiet P (.binOp .leq t x y yt) ty E M [] (.lit (.bool (decide (a ≤ b)))) :=
  q_bin hx hy g_int fun w => by simp [binOp, Op.intCmp]
theorem q_gtr (hx : E.ev x = .lit (.int k a)) (hy : E.ev y = .lit (.int k b)) : Quiet P (.binOp .gtr t x y yt) ty E M [] (.lit (.bool (decide (b < a)))) :=
  q_bin hx hy g_int fun w => by simp [binOp, Op.intCmp]
theorem q_geq (hx : E.ev x = .lit (.int k a)) (hy : E.ev y = .lit (.int k b)) : Quiet P (.binOp .geq t x y yt) ty E M [] (.lit (.bool (decide (b ≤ a)))) :=
  q_bin hx hy g_int fun w => by simp [binOp, Op.intCmp]
theorem q_not {b : Bool} (hx : E.ev x = .lit (.bool b)) : Quiet P (.unOp .not t x) ty E M [] (.lit (.bool (!b))) :=
  fun _ _ _ _ _ _ he => ⟨.bool (!b), by simp [Val], fun w _ => by simp [exec1, execOp, ev_lit he hx, Op.unary]⟩
theorem q_min (hx : E.ev x = .lit (.int k a)) (hy : E.ev y = .lit (.int k b)) {tys : Array TypeId} :
    Quiet P (.call { callee := .builtin .min, args := #[x, y], argTypes := tys }) ty E M [] (.lit (.int k (if b < a then b else a))) :=
  fun _ _ _ _ _ _ he => ⟨.int k (if b < a then b else a), by simp [Val], fun w _ => by
    simp [exec1, execOp, resolve, invoke, builtin, Builtin.min_, Builtin.min2, ev_lit he hx, ev_lit he hy]⟩
theorem q_max (hx : E.ev x = .lit (.int k a)) (hy : E.ev y = .lit (.int k b)) {tys : Array TypeId} :
    Quiet P (.call { callee := .builtin .max, args := #[x, y], argTypes := tys }) ty E M [] (.lit (.int k (if b > a then b else a))) :=
  fun _ _ _ _ _ _ he => ⟨.int k (if b > a then b else a), by simp [Val], fun w _ => by
    simp [exec1, execOp, resolve, invoke, builtin, Builtin.max_, Builtin.max2, ev_lit he hx, ev_lit he hy]⟩
end ints
section others
variable {t yt : TypeId} {x y : Operand}
theorem equal_eq (t : TypeId) (x y : Value) : Op.equal t x y = Op.equalIn (9999 + 1) t x y := rfl
theorem run_equal_bool {a b : Bool} {w : World} (ht : P.underlying t = some .bool) : (Op.equal t (.bool a) (.bool b)).run P w = .ok (a == b) w := by
  rw [equal_eq, Op.equalIn]
  simp only [Sem.run_bind, run_underlying ht, Result.andThen, Sem.run_pure]
theorem run_equal_ptr {el : TypeId} {a : Addr} {w : World} (ht : P.underlying t = some (.pointer el)) : (Op.equal t (.pointer (some a)) (.pointer Option.none)).run P w = .ok false w := by
  rw [equal_eq, Op.equalIn]
  simp only [Sem.run_bind, run_underlying ht, Result.andThen, Sem.run_pure]
theorem run_equal_nil {el : TypeId} {w : World} (ht : P.underlying t = some (.pointer el)) : (Op.equal t (.pointer Option.none) (.pointer Option.none)).run P w = .ok true w := by
  rw [equal_eq, Op.equalIn]
  simp only [Sem.run_bind, run_underlying ht, Result.andThen, Sem.run_pure, Option.isNone_none]
theorem run_eql_ptr {el : TypeId} {a : Addr} {w : World} (ht : P.underlying t = some (.pointer el)) : (binOp .eql t (.pointer (some a)) (.pointer Option.none)).run P w = .ok (.bool false) w := by
  simp only [binOp, Sem.run_bind, run_equal_ptr ht, Result.andThen, Sem.run_pure]
theorem run_neq_ptr {el : TypeId} {a : Addr} {w : World} (ht : P.underlying t = some (.pointer el)) : (binOp .neq t (.pointer (some a)) (.pointer Option.none)).run P w = .ok (.bool true) w := by
  simp only [binOp, Sem.run_bind, run_equal_ptr ht, Result.andThen, Sem.run_pure, Bool.not_false]
theorem run_eql_nil {el : TypeId} {w : World} (ht : P.underlying t = some (.pointer el)) : (binOp .eql t (.pointer Option.none) (.pointer Option.none)).run P w = .ok (.bool true) w := by
  simp only [binOp, Sem.run_bind, run_equal_nil ht, Result.andThen, Sem.run_pure]
theorem run_neq_nil {el : TypeId} {w : World} (ht : P.underlying t = some (.pointer el)) : (binOp .neq t (.pointer Option.none) (.pointer Option.none)).run P w = .ok (.bool false) w := by
  simp only [binOp, Sem.run_bind, run_equal_nil ht, Result.andThen, Sem.run_pure, Bool.not_true]
theorem q_eqlb {a b : Bool} (ht : P.underlying t = some .bool) (hx : E.ev x = .lit (.bool a)) (hy : E.ev y = .lit (.bool b)) : Quiet P (.binOp .eql t x y yt) ty E M [] (.lit (.bool (a == b))) :=
  q_bin hx hy g_bool fun w => by simp [binOp, run_equal_bool ht]
theorem q_eqls {a b : ByteArray} (hx : E.ev x = .lit (.string a)) (hy : E.ev y = .lit (.string b)) : Quiet P (.binOp .eql t x y yt) ty E M [] (.lit (.bool (a.toList == b.toList))) :=
  q_bin hx hy g_str fun w => by simp [binOp, Op.stringOp]
theorem q_neqs {a b : ByteArray} (hx : E.ev x = .lit (.string a)) (hy : E.ev y = .lit (.string b)) : Quiet P (.binOp .neq t x y yt) ty E M [] (.lit (.bool (!(a.toList == b.toList)))) :=
  q_bin hx hy g_str fun w => by simp [binOp, Op.stringOp]
end others
theorem eval_const (a : Act) (v : Value) : a.eval (.const v) = v := rfl
section nils
variable {t yt : TypeId} {x y : Operand} {el : TypeId}
/-- A pointer of our own is not nil. -/
theorem q_eqlp {i off : Nat} (ht : P.underlying t = some (.pointer el)) (hx : E.ev x = .ptr i off) : Quiet P (.binOp .eql t x (.const (.pointer Option.none)) yt) ty E M [] (.lit (.bool false)) :=
  fun _ _ a _ _ _ he => ⟨.bool false, by simp [Val], fun w _ => by
    have hv := he.ev x; rw [hx] at hv; simp only [Val] at hv
    simp only [exec1, execOp, hv.2.2, g_ptr, eval_const, Sem.run_bind, Sem.run_pure, Result.andThen, run_eql_ptr ht]⟩
theorem q_eqlp_nil (ht : P.underlying t = some (.pointer el)) (hx : E.ev x = .lit (.pointer Option.none)) : Quiet P (.binOp .eql t x (.const (.pointer Option.none)) yt) ty E M [] (.lit (.bool true)) :=
  q_bin hx rfl g_ptr fun w => run_eql_nil ht
theorem q_neqp_nil (ht : P.underlying t = some (.pointer el)) (hx : E.ev x = .lit (.pointer Option.none)) : Quiet P (.binOp .neq t x (.const (.pointer Option.none)) yt) ty E M [] (.lit (.bool false)) :=
  q_bin hx rfl g_ptr fun w => run_neq_nil ht
theorem q_nilCheck {i off : Nat} (hx : E.ev x = .ptr i off) : Quiet P (.nilCheck x) ty E M [] (.ptr i off) :=
  fun _ _ a _ _ _ he => ⟨a.eval x, by have := he.ev x; rwa [hx] at this, fun w _ => by
    have hv := he.ev x; rw [hx] at hv; simp only [Val] at hv
    simp [exec1, execOp, hv.2.2]⟩
end nils
/-- What is known of a field: its place, its cells. -/
structure FieldIs (P : Program) (t : TypeId) (k off : Nat) (ft : TypeId) (n : Nat) : Prop where
  h : ∃ fs f i, P.underlying t = some (.struct fs) ∧ fs[k]? = some f ∧ f.offset = off ∧ f.type = ft ∧ P.info? ft = some i ∧ i.size = n
theorem run_sizeOf {t : TypeId} {i : TypeInfo} (h : P.info? t = some i) (w : World) : (sizeOf t).run P w = .ok i.size w := by
  simp [sizeOf, typeInfo, h]
theorem run_fieldAt {t : TypeId} {k off n : Nat} {ft : TypeId} (h : FieldIs P t k off ft n) (hn : n ≠ 0) (b o : Nat) (w : World) :
    (Instr.fieldAt t (.pointer (some ⟨b, o, none⟩)) k).run P w = .ok (.pointer (some ⟨b, o + off, none⟩)) w := by
  obtain ⟨fs, f, i, h1, h2, h3, h4, h5, h6⟩ := h
  subst h3 h4
  have : (sizeOf f.type).run P w = .ok n w := by rw [run_sizeOf h5, h6]
  simp [Instr.fieldAt, run_underlying h1, h2, Instr.sureAddr, fieldPlace, this, hn, Addr.add]
theorem q_fieldAddr {t : TypeId} {k off n : Nat} {ft : TypeId} {x : Operand} {i o : Nat} (h : FieldIs P t k off ft n) (hn : Nat.beq n 0 = false) (hx : E.ev x = .ptr i o) :
    Quiet P (.fieldAddr t x k) ty E M [] (.ptr i (o + off)) :=
  fun _ _ a _ e _ he => by
    have hv := he.ev x; rw [hx] at hv; simp only [Val] at hv
    refine ⟨.pointer (some ⟨e.own i, o + off, Option.none⟩), by simp [Val, hv.1, hv.2.1], fun w _ => ?_⟩
    have hn' : n ≠ 0 := by intro h0; subst h0; simp at hn
    simp [exec1, execOp, hv.2.2, run_fieldAt h hn']
/-- A part of a datum: where it lies in the cells. -/
def PartIs {α β : Type} (R : Rd α) (d : α) (off : Nat) (S : Rd β) (d' : β) : Prop :=
  ∀ m cs, R.ok m d cs → S.ok m d' ((cs.drop off).take S.sz)
theorem PartIs.here {α β : Type} {A : Rd α} {B : Rd β} {d : α × β} : PartIs (Rd.pair A B) d 0 A d.1 := by
  rintro m cs ⟨x, y, rfl, h1, h2⟩
  have := A.len h1
  simpa [List.take_append, this] using h1
theorem PartIs.there {α β γ : Type} {A : Rd α} {B : Rd β} {C : Rd γ} {d : α × β} {x : γ} {off : Nat} (h : PartIs B d.2 off C x) : PartIs (Rd.pair A B) d (A.sz + off) C x := by
  rintro m cs ⟨u, v, rfl, h1, h2⟩
  have := A.len h1
  rw [List.drop_append, ← this, List.drop_of_length_le (by omega)]
  simpa using h m v h2
theorem PartIs.via {α β γ : Type} {A : Rd α} {g : β → α} {C : Rd γ} {d : β} {x : γ} {off : Nat} (h : PartIs A (g d) off C x) : PartIs (Rd.via A g) d off C x := h
/-- A type of one cell that is no struct and no array. -/
structure Sc (P : Program) (t : TypeId) : Prop where
  h : ∃ d i, P.underlying t = some d ∧ P.info? t = some i ∧ i.size = 1 ∧ (match d with | .struct _ | .array _ _ => False | _ => True)
theorem Sc.isAgg {t : TypeId} (h : Sc P t) (w : World) : (isAgg t).run P w = .ok false w := by
  obtain ⟨d, i, h1, h2, h3, h4⟩ := h
  unfold Go.isAgg
  simp only [Sem.run_bind, run_underlying h1, Result.andThen]
  cases d <;> first | rfl | exact h4.elim
theorem run_loadAt_sc {t : TypeId} (h : Sc P t) {w : World} {b o : Nat} {v : Value} (hc : w.cell? ⟨b, o, none⟩ = some v) :
    (Instr.loadAt t (.pointer (some ⟨b, o, none⟩))).run P w = .ok v w := by
  simp [Instr.loadAt, Instr.sureAddr, loadVar, h.isAgg w, hc]
theorem cell_of {w : World} {b o : Nat} {c : Array Value} {t : TypeId} {fr : Nat × Nat} (h : w.heap[b]? = some (.cells c t fr)) : w.cell? ⟨b, o, none⟩ = c[o]? := by
  simp [World.cell?, h]
theorem Vals.get {e : Nv} : ∀ {l : List AVal} {vs : List Value} {i : Nat} {a : AVal}, Vals e l vs → l[i]? = some a → ∃ v, vs[i]? = some v ∧ Val e a v
  | [], _, i, a, _, h => by simp at h
  | x :: l, vs, i, a, h, hi => by
    simp only [Vals] at h
    obtain ⟨v, ws, rfl, h1, h2⟩ := h
    cases i with
    | zero => simp at hi; subst hi; exact ⟨v, rfl, h1⟩
    | succ i => simpa using Vals.get h2 (by simpa using hi)
theorem Vals.length {e : Nv} : ∀ {l : List AVal} {vs : List Value}, Vals e l vs → vs.length = l.length
  | [], _, h => by simp only [Vals] at h; simp [h]
  | x :: l, vs, h => by
    simp only [Vals] at h
    obtain ⟨v, ws, rfl, h1, h2⟩ := h
    simp [Vals.length h2]
/-- A cell of our own is read. -/
theorem q_load {t ct : TypeId} {x : Operand} {i o : Nat} {l : List AVal} {v : AVal} (ht : Sc P t) (hx : E.ev x = .ptr i o) (hc : M.at_ i = .cells ct l) (hv : l[o]? = some v) :
    Quiet P (.load t x) ty E M [i] v :=
  fun _ _ a w e hh he => by
    have hp := he.ev x; rw [hx] at hp; simp only [Val] at hp
    have hk := hh.ch i hp.1
    rw [hc] at hk
    obtain ⟨hvir, vs, hb, hvs, _⟩ := hk
    obtain ⟨u, hu, hval⟩ := hvs.get hv
    refine ⟨u, hval, fun w1 hw => ?_⟩
    have hb1 := (hw.own i (by simp) hp.1 hvir).trans hb
    have : w1.cell? ⟨e.own i, o, Option.none⟩ = some u := by rw [cell_of hb1]; simpa using hu
    simp [exec1, execOp, hp.2.2, run_loadAt_sc ht this]
/-- What is only read, of one value. -/
theorem q_load_sc {α : Type} {f : α → Value} {hf : ∀ x, (f x).oneCell' = true} {b : Bool} {d : α} {t : TypeId} {x : Operand} (ht : Sc P t) (hx : E.ev x = .ro (Rd.ptr (Rd.sc f hf)) b d) :
    Quiet P (.load t x) ty E M [] (.lit (f d)) :=
  fun _ _ a w e hh he => by
    have hv := he.ev x; rw [hx] at hv; simp only [Val, Rd.ptr, Rd.sc] at hv
    obtain ⟨bk, o, c, tt, fr, h1, h2, h3⟩ := hv
    simp at h1
    refine ⟨f d, by simp [Val], fun w1 hw => ?_⟩
    have hb := hw.mem h2
    have : c[o]? = some (f d) := by
      have := congrArg (·[0]?) h3
      simpa [List.getElem?_take, List.getElem?_drop] using this
    have : w1.cell? ⟨bk, o, Option.none⟩ = some (f d) := by rw [cell_of hb]; exact this
    simp [exec1, execOp, h1, run_loadAt_sc ht this]
/-- The size of a type, in cells. -/
structure SzIs (P : Program) (t : TypeId) (n : Nat) : Prop where
  h : ∃ i, P.info? t = some i ∧ i.size = n
theorem SzIs.run {t : TypeId} {n : Nat} (h : SzIs P t n) (w : World) : (sizeOf t).run P w = .ok n w := by
  obtain ⟨i, h1, h2⟩ := h
  rw [run_sizeOf h1, h2]
/-- A slice type, with its elements' size. -/
structure SlIs (P : Program) (t el : TypeId) (n : Nat) : Prop where
  t : P.underlying t = some (.slice el)
  e : SzIs P el n
theorem add_at (b o n : Nat) : (⟨b, o, Option.none⟩ : Addr).add n = ⟨b, o + n, Option.none⟩ := by
  unfold Addr.add; split <;> simp_all
theorem run_indexAt_sl {t el : TypeId} {n : Nat} (h : SlIs P t el n) (b o len cap : Nat) (k : IntKind) (i : Int) (h0 : 0 ≤ i) (h1 : i < len) (w : World) :
    (Instr.indexAt t (.slice (some ⟨b, o, Option.none⟩) len cap) (.int k i)).run P w = .ok (.pointer (some ⟨b, o + i.toNat * n, Option.none⟩)) w := by
  simp [Instr.indexAt, run_underlying h.t, h0, h1, h.e.run, add_at, asIntOf]
/-- Read at a place: there, or not. -/
def ix {α : Type} (l : List α) (i : Int) : Option α := if 0 ≤ i then l[i.toNat]? else Option.none
theorem ix_some {α : Type} {l : List α} {i : Int} {d : α} (h : ix l i = some d) : 0 ≤ i ∧ l[i.toNat]? = some d ∧ i < l.length := by
  unfold ix at h
  split at h
  · rename_i h0
    have := (List.getElem?_eq_some_iff.1 h).1
    exact ⟨h0, h, by omega⟩
  · cases h
/-- An element of what is only read. -/
theorem q_index_ro {α : Type} {R : Rd α} {b : Bool} {l : List α} {d : α} {t el : TypeId} {n : Nat} {x y : Operand} {k : IntKind} {i : Int} (h : SlIs P t el n) (hn : R.sz = n)
    (hx : E.ev x = .ro (Rd.slice R) b l) (hy : E.ev y = .lit (.int k i)) (hd : ix l i = some d) : Quiet P (.indexAddr t x y) ty E M [] (.ro (Rd.ptr R) b d) :=
  fun _ _ a w e hh he => by
    have hv := he.ev x; rw [hx] at hv; simp only [Val, Rd.slice] at hv
    obtain ⟨h0, h1, h2⟩ := ix_some hd
    rcases hv with ⟨rfl, _⟩ | ⟨bk, o, c, tt, fr, cap, e1, hc, e2, e3⟩
    · simp at h1
    · simp at e1
      refine ⟨.pointer (some ⟨bk, o + i.toNat * n, Option.none⟩), ?_, fun w1 hw => ?_⟩
      · simp only [Val, Rd.ptr]
        refine ⟨bk, o + i.toNat * n, c, tt, fr, rfl, e2, ?_⟩
        have := rows_get e3 h1
        rw [List.drop_drop, hn] at this
        rw [hn]
        exact this
      · simp [exec1, execOp, e1, ev_lit he hy, run_indexAt_sl h bk o l.length cap k i h0 h2]
/-- An element of a row of our own. -/
theorem q_index_row {α : Type} {R : Rd α} {l : List α} {t el : TypeId} {n : Nat} {x y : Operand} {k : IntKind} {i : Int} {j : Nat} {ct : TypeId} (h : SlIs P t el n)
    (hx : E.ev x = .whole j) (hc : M.at_ j = .row ct R l) (hy : E.ev y = .lit (.int k i)) (hd : (ix l i).isSome = true) : Quiet P (.indexAddr t x y) ty E M [] (.ptr j (i.toNat * n)) :=
  fun _ _ a w e hh he => by
    have hv := he.ev x; rw [hx] at hv; simp only [Val] at hv
    obtain ⟨d, hd⟩ := Option.isSome_iff_exists.1 hd
    obtain ⟨h0, h1, h2⟩ := ix_some hd
    have hk := hh.ch j hv.1
    rw [hc] at hk
    obtain ⟨hl, hlc, _, hr⟩ := hk
    cases hvir : e.vir j with
    | true => rw [hvir] at hr; simp at hr; subst hr; simp at h1
    | false =>
      have hv3 := hv.2.2
      rw [hvir] at hv3
      simp only [Bool.false_eq_true, if_false] at hv3
      refine ⟨.pointer (some ⟨e.own j, i.toNat * n, Option.none⟩), by simp [Val, hv.1, hvir], fun w1 hw => ?_⟩
      have := run_indexAt_sl h (e.own j) 0 (e.lens j) (e.caps j) k i h0 (by rw [hl]; exact h2) w1
      simp [exec1, execOp, hv3, ev_lit he hy, this]
theorem Vals.drop {e : Nv} : ∀ {l : List AVal} {vs : List Value} (n : Nat), Vals e l vs → Vals e (l.drop n) (vs.drop n)
  | _, _, 0, h => by simpa using h
  | [], vs, n + 1, h => by simp only [Vals] at h; simp [h, Vals]
  | x :: l, vs, n + 1, h => by
    simp only [Vals] at h
    obtain ⟨v, ws, rfl, h1, h2⟩ := h
    simpa using h2.drop n
theorem Vals.take {e : Nv} : ∀ {l : List AVal} {vs : List Value} (n : Nat), Vals e l vs → Vals e (l.take n) (vs.take n)
  | _, _, 0, h => by simp [Vals]
  | [], vs, n + 1, h => by simp only [Vals] at h; simp [h, Vals]
  | x :: l, vs, n + 1, h => by
    simp only [Vals] at h
    obtain ⟨v, ws, rfl, h1, h2⟩ := h
    simp only [List.take_succ_cons, Vals]
    exact ⟨v, _, rfl, h1, h2.take n⟩
theorem Vals.append {e : Nv} : ∀ {l l' : List AVal} {vs vs' : List Value}, Vals e l vs → Vals e l' vs' → Vals e (l ++ l') (vs ++ vs')
  | [], l', vs, vs', h, h' => by simp only [Vals] at h; subst h; exact h'
  | x :: l, l', vs, vs', h, h' => by
    simp only [Vals] at h
    obtain ⟨v, ws, rfl, h1, h2⟩ := h
    simp only [List.cons_append, Vals]
    exact ⟨v, _, rfl, h1, h2.append h'⟩
/-- The cells of a datum, told one by one. -/
def Splits {α : Type} (R : Rd α) (b : Bool) (d : α) (l : List AVal) : Prop := ∀ e cs, R.ok (e.mem b) d cs → Vals e l cs
theorem Splits.unit {b : Bool} {d : Unit} : Splits Rd.unit b d [] := fun e cs h => by simp only [Rd.unit] at h; simp [Vals, h]
theorem Splits.sc {α : Type} {f : α → Value} {hf : ∀ x, (f x).oneCell' = true} {b : Bool} {d : α} : Splits (Rd.sc f hf) b d [.lit (f d)] := fun e cs h => by
  simp only [Rd.sc] at h; simp [Vals, Val, h]
theorem Splits.one {α : Type} {R : Rd α} {b : Bool} {d : α} (hz : R.sz = 1) : Splits R b d [.ro R b d] := fun e cs h => by
  obtain ⟨u, hu⟩ := List.length_eq_one_iff.1 ((R.len h).trans hz)
  subst hu
  simp [Vals, Val, h]
theorem Splits.pair {α β : Type} {A : Rd α} {B : Rd β} {b : Bool} {d : α × β} {l l' : List AVal} (h : Splits A b d.1 l) (h' : Splits B b d.2 l') : Splits (Rd.pair A B) b d (l ++ l') := fun e cs hk => by
  obtain ⟨x, y, rfl, h1, h2⟩ := hk
  exact (h e x h1).append (h' e y h2)
theorem Splits.via {α β : Type} {A : Rd α} {g : β → α} {b : Bool} {d : β} {l : List AVal} (h : Splits A b (g d) l) : Splits (Rd.via A g) b d l := h
/-- Cells that are a datum. -/
def Joins {α : Type} (R : Rd α) (b : Bool) (d : α) (l : List AVal) : Prop := ∀ e cs, Vals e l cs → (∀ v ∈ cs, v.oneCell' = true) → R.ok (e.mem b) d cs
theorem Joins.unit {b : Bool} {d : Unit} : Joins Rd.unit b d [] := fun e cs h _ => by simp only [Vals] at h; simp [Rd.unit, h]
theorem Joins.sc {α : Type} {f : α → Value} {hf : ∀ x, (f x).oneCell' = true} {b : Bool} {d : α} : Joins (Rd.sc f hf) b d [.lit (f d)] := fun e cs h _ => by
  simp only [Vals, Val] at h
  obtain ⟨v, ws, rfl, rfl, rfl⟩ := h
  simp [Rd.sc]
theorem Joins.one {α : Type} {R : Rd α} {b : Bool} {d : α} : Joins R b d [.ro R b d] := fun e cs h _ => by
  simp only [Vals, Val] at h
  obtain ⟨v, ws, rfl, h1, rfl⟩ := h
  exact h1
theorem Joins.cons {α β : Type} {A : Rd α} {B : Rd β} {b : Bool} {x : α} {y : β} {a : AVal} {l : List AVal} (h : Joins A b x [a]) (h' : Joins B b y l) : Joins (Rd.pair A B) b (x, y) (a :: l) := fun e cs hk ho => by
  simp only [Vals] at hk
  obtain ⟨v, ws, rfl, h1, h2⟩ := hk
  exact ⟨[v], ws, rfl, h e [v] (by simp only [Vals]; exact ⟨v, [], rfl, h1, rfl⟩) (fun u hu => ho u (by simp at hu; simp [hu])), h' e ws h2 (fun u hu => ho u (by simp [hu]))⟩
theorem Joins.pair {α β : Type} {A : Rd α} {B : Rd β} {b : Bool} {x : α} {y : β} {l l' : List AVal} (h : Joins A b x l) (h' : Joins B b y l') : Joins (Rd.pair A B) b (x, y) (l ++ l') := fun e cs hk ho => by
  have hk' := hk
  have h1 := hk.take l.length
  have h2 := hk.drop l.length
  rw [List.take_left'] at h1 <;> try rfl
  rw [List.drop_left'] at h2 <;> try rfl
  exact ⟨cs.take l.length, cs.drop l.length, (List.take_append_drop _ _).symm, h e _ h1 (fun u hu => ho u (List.mem_of_mem_take hu)), h' e _ h2 (fun u hu => ho u (List.mem_of_mem_drop hu))⟩
theorem Joins.via {α β : Type} {A : Rd α} {g : β → α} {b : Bool} {d : β} {l : List AVal} (h : Joins A b (g d) l) : Joins (Rd.via A g) b d l := h
/-- A type of structs or arrays. -/
structure Ag (P : Program) (t : TypeId) (n : Nat) : Prop where
  h : ∃ d i, P.underlying t = some d ∧ P.info? t = some i ∧ i.size = n ∧ (match d with | .struct _ | .array _ _ => True | _ => False)
theorem Ag.isAgg {t : TypeId} {n : Nat} (h : Ag P t n) (w : World) : (isAgg t).run P w = .ok true w := by
  obtain ⟨d, i, h1, h2, h3, h4⟩ := h
  unfold Go.isAgg
  simp only [Sem.run_bind, run_underlying h1, Result.andThen]
  cases d <;> first | rfl | exact h4.elim
theorem Ag.sz {t : TypeId} {n : Nat} (h : Ag P t n) : SzIs P t n := by
  obtain ⟨d, i, h1, h2, h3, h4⟩ := h
  exact ⟨i, h2, h3⟩
theorem run_loadAt_ag {t : TypeId} {n : Nat} (h : Ag P t n) {w : World} {b o : Nat} {c : Array Value} {ct : TypeId} {fr : Nat × Nat} (hb : w.heap[b]? = some (.cells c ct fr)) (hn : o + n ≤ c.size) :
    (Instr.loadAt t (.pointer (some ⟨b, o, Option.none⟩))).run P w = .ok (.agg ((c.toList.drop o).take n).toArray) w := by
  have hl : ((c.toList.drop o).take n).length = n := by simp; omega
  have hld := run_loadCells_list (P := P) w ⟨b, o, Option.none⟩ ((c.toList.drop o).take n) (by
    intro j v hj
    have hjn : j < n := by rw [← hl]; exact (List.getElem?_eq_some_iff.1 hj).1
    rw [List.getElem?_take_of_lt hjn, List.getElem?_drop] at hj
    rw [add_at, cell_of hb]
    simpa using hj)
  rw [hl] at hld
  simp [Instr.loadAt, Instr.sureAddr, loadVar, h.isAgg w, h.sz.run w, hld]
/-- A struct of our own is read whole. -/
theorem q_load_ag {t ct : TypeId} {x : Operand} {i o n : Nat} {l : List AVal} (ht : Ag P t n) (hx : E.ev x = .ptr i o) (hc : M.at_ i = .cells ct l) (hn : o + n ≤ l.length) :
    Quiet P (.load t x) ty E M [i] (.agg ((l.drop o).take n)) :=
  fun _ _ a w e hh he => by
    have hp := he.ev x; rw [hx] at hp; simp only [Val] at hp
    have hk := hh.ch i hp.1
    rw [hc] at hk
    obtain ⟨hvir, vs, hb, hvs, ho⟩ := hk
    refine ⟨.agg ((vs.drop o).take n).toArray, ?_, fun w1 hw => ?_⟩
    · simp only [Val]
      exact ⟨_, rfl, (hvs.drop o).take n, fun u hu => ho u (List.mem_of_mem_drop (List.mem_of_mem_take hu))⟩
    have hb1 := (hw.own i (by simp) hp.1 hvir).trans hb
    have := run_loadAt_ag ht (o := o) hb1 (by simp [hvs.length, hn])
    simp [exec1, execOp, hp.2.2, this]
/-- A struct that is only read. -/
theorem q_load_roag {α : Type} {R : Rd α} {b : Bool} {d : α} {t : TypeId} {x : Operand} {n : Nat} {l : List AVal} (ht : Ag P t n) (hx : E.ev x = .ro (Rd.ptr R) b d) (hz : R.sz = n) (hs : Splits R b d l) :
    Quiet P (.load t x) ty E M [] (.agg l) :=
  fun _ _ a w e hh he => by
    have hv := he.ev x; rw [hx] at hv; simp only [Val, Rd.ptr] at hv
    obtain ⟨bk, o, c, tt, fr, h1, h2, h3⟩ := hv
    simp at h1
    have hl := R.len h3
    rw [hz] at hl h3
    refine ⟨.agg ((c.toList.drop o).take n).toArray, ?_, fun w1 hw => ?_⟩
    · simp only [Val]
      exact ⟨_, rfl, hs e _ h3, R.one h3⟩
    have hb := hw.mem h2
    have hsz : o + n ≤ c.size ∨ n = 0 := by simp at hl; omega
    rcases hsz with hsz | h0
    · have := run_loadAt_ag ht (o := o) hb hsz
      simp [exec1, execOp, h1, this]
    · subst h0
      have hld : (loadCells ⟨bk, o, Option.none⟩ 0).run P w1 = .ok #[] w1 := rfl
      simp [exec1, execOp, h1, Instr.loadAt, Instr.sureAddr, loadVar, ht.isAgg w1, ht.sz.run w1, hld]
/-- The length of what is only read. -/
theorem q_len_ro {α : Type} {R : Rd α} {b : Bool} {l : List α} {t el : TypeId} {n : Nat} {x : Operand} (h : SlIs P t el n) (hx : E.ev x = .ro (Rd.slice R) b l) :
    Quiet P (.call { callee := .builtin .len, args := #[x], argTypes := #[t] }) ty E M [] (.lit (.int .i64 (l.length : Int))) :=
  fun _ _ a w e hh he => by
    have hv := he.ev x; rw [hx] at hv; simp only [Val, Rd.slice] at hv
    refine ⟨.int .i64 (l.length : Int), by simp [Val], fun w1 hw => ?_⟩
    rcases hv with ⟨rfl, a0, c, h1⟩ | ⟨bk, o, c, tt, fr, cap, h1, _⟩ <;>
      (simp at h1; simp [exec1, execOp, resolve, invoke, builtin, Builtin.len_, h1, run_underlying h.t, goInt])
theorem q_len_row {α : Type} {R : Rd α} {l : List α} {t el ct : TypeId} {n : Nat} {x : Operand} {i : Nat} (h : SlIs P t el n) (hx : E.ev x = .whole i) (hc : M.at_ i = .row ct R l) :
    Quiet P (.call { callee := .builtin .len, args := #[x], argTypes := #[t] }) ty E M [] (.lit (.int .i64 (l.length : Int))) :=
  fun _ _ a w e hh he => by
    have hv := he.ev x; rw [hx] at hv; simp only [Val] at hv
    have hk := hh.ch i hv.1
    rw [hc] at hk
    have hl := hk.1
    refine ⟨.int .i64 (l.length : Int), by simp [Val], fun w1 hw => ?_⟩
    have hv3 := hv.2.2
    rw [← hl]
    split at hv3
    · simp [exec1, execOp, resolve, invoke, builtin, Builtin.len_, hv3.1, hv3.2, run_underlying h.t, goInt]
    · simp [exec1, execOp, resolve, invoke, builtin, Builtin.len_, hv3, run_underlying h.t, goInt]
theorem q_len_nil {t el : TypeId} {n : Nat} {x : Operand} (h : SlIs P t el n) (hx : E.ev x = .lit (.slice Option.none 0 0)) :
    Quiet P (.call { callee := .builtin .len, args := #[x], argTypes := #[t] }) ty E M [] (.lit (.int .i64 0)) :=
  fun _ _ a w e hh he => ⟨.int .i64 0, by simp [Val], fun w1 hw => by
    simp [exec1, execOp, resolve, invoke, builtin, Builtin.len_, ev_lit he hx, run_underlying h.t, goInt]⟩
theorem q_len_str {t : TypeId} {x : Operand} {s : ByteArray} (h : P.underlying t = some .string) (hx : E.ev x = .lit (.string s)) :
    Quiet P (.call { callee := .builtin .len, args := #[x], argTypes := #[t] }) ty E M [] (.lit (.int .i64 (s.size : Int))) :=
  fun _ _ a w e hh he => ⟨.int .i64 (s.size : Int), by simp [Val], fun w1 hw => by
    simp [exec1, execOp, resolve, invoke, builtin, Builtin.len_, ev_lit he hx, run_underlying h, goInt]⟩
/-- A component of a tuple. -/
theorem q_extract {x : Operand} {l : List AVal} {k : Nat} {v : AVal} (hx : E.ev x = .tup l) (hv : l[k]? = some v) : Quiet P (.extract x k) ty E M [] v :=
  fun _ _ a w e hh he => by
    have hp := he.ev x; rw [hx] at hp; simp only [Val] at hp
    obtain ⟨vs, h1, h2⟩ := hp
    obtain ⟨u, hu, hval⟩ := h2.get hv
    exact ⟨u, hval, fun w1 hw => by simp [exec1, execOp, h1, Instr.extract, hu]⟩
theorem evs {nt : Nat} {e : Nv} {a : Act} (he : Emb nt e M E a) : ∀ (l : List Operand), Vals e (l.map E.ev) (l.map a.eval)
  | [] => by simp [Vals]
  | x :: l => by simp only [List.map_cons, Vals]; exact ⟨_, _, rfl, he.ev x, evs he l⟩
theorem q_makeFunc {f : FuncId} {cap : Array Operand} : Quiet P (.makeFunc (.func f) #[] cap) ty E M [] (.fn f (cap.toList.map E.ev)) :=
  fun _ _ a w e hh he => ⟨.func (.func f) #[] (cap.toList.map a.eval).toArray, by
      simp only [Val]
      exact ⟨(cap.toList.map a.eval), rfl, evs he cap.toList⟩, fun w1 hw => by
      have : cap.map a.eval = (cap.toList.map a.eval).toArray := by apply Array.ext'; simp
      simp [exec1, execOp, Instr.makeFunc, this]⟩
end
end Go.Q
namespace Go.Q
open Go
set_option linter.unusedVariables false
set_option linter.unusedSimpArgs false
theorem Emb.mono {nt : Nat} {e : Nv} {M : Mem} {E : Env} {a : Act} {e' : Nv} {M' : Mem} (h : Emb nt e M E a) (hle : e.le e') (hb : ∀ b, Ro.le (e.mem b) (e'.mem b)) : Emb nt e' M' E a :=
  ⟨h.sz, fun t => (h.v t).mono hle hb, h.d.mono hle, fun p hp => (h.o p hp).mono hle hb⟩
/-- An operation that yields a value and turns memory; of the blocks that stood before it touches those of the chunks 'tc' alone. -/
def Does (P : Program) (op : Op) (ty : TypeId) (E : Env) (M : Mem) (tc : List Nat) (v : AVal) (M' : Mem) : Prop :=
  ∀ cx nt a w e, Hold cx e M w → Emb nt e M E a → ∃ x w' e', (exec1 a.eval op ty).run P w = .ok (.value x) w' ∧ Hold cx e' M' w' ∧ (e.le e' ∧ ∀ b, Ro.le (e.mem b) (e'.mem b)) ∧ Val e' v x ∧
    (∀ b, b < w.heap.size → (∀ i ∈ tc, i < e.n → (M.at_ i).live e i → e.own i ≠ b) → ∀ {_ : poolIx ∈ tc → ¬ inPool e M b}, w'.heap[b]? = w.heap[b]?) ∧ w.heap.size ≤ w'.heap.size
/-- The same, of one that yields nothing. -/
def DoesS (P : Program) (op : Op) (ty : TypeId) (E : Env) (M : Mem) (tc : List Nat) (M' : Mem) : Prop :=
  ∀ cx nt a w e, Hold cx e M w → Emb nt e M E a → ∃ w' e', (exec1 a.eval op ty).run P w = .ok .skip w' ∧ Hold cx e' M' w' ∧ (e.le e' ∧ ∀ b, Ro.le (e.mem b) (e'.mem b)) ∧
    (∀ b, b < w.heap.size → (∀ i ∈ tc, i < e.n → (M.at_ i).live e i → e.own i ≠ b) → ∀ {_ : poolIx ∈ tc → ¬ inPool e M b}, w'.heap[b]? = w.heap[b]?) ∧ w.heap.size ≤ w'.heap.size
theorem Quiet.does {P : Program} {op : Op} {ty : TypeId} {E : Env} {M : Mem} {st : List Nat} {v : AVal} (h : Quiet P op ty E M st v) : Does P op ty E M [] v M :=
  fun cx nt a w e hh he => by
    obtain ⟨x, hv, hr⟩ := h cx nt a w e hh he
    exact ⟨x, w, e, hr w (Agree.of_hold hh st), hh, ⟨Nv.le.refl e, fun _ => Ro.le.refl _⟩, hv, fun _ _ _ => rfl, Nat.le_refl _⟩
theorem no_defer {P : Program} {ρ : Operand → Value} {c : Call} {ty : TypeId} {w : World} : (∀ x w', (exec1 ρ (.defer c) ty).run P w ≠ .ok (.value x) w') ∧ ∀ w', (exec1 ρ (.defer c) ty).run P w ≠ .ok .skip w' := by
  constructor
  · intro x w' h
    simp only [exec1, execOp, Sem.run_bind] at h
    cases hr : (resolve ρ c ty).run P w <;> rw [hr] at h <;> simp [Result.andThen] at h
  · intro w' h
    simp only [exec1, execOp, Sem.run_bind] at h
    cases hr : (resolve ρ c ty).run P w <;> rw [hr] at h <;> simp [Result.andThen] at h
/-- An operation that may be passed over: what it is about is known to be there. -/
def SkipOk (P : Program) : Op → Prop
  | .call c => match c.callee with
    | .builtin _ => True
    | .value (.func f) => (P.funcs[f]?).isSome = true
    | _ => False
  | _ => True
theorem SkipOk.about {P : Program} {op : Op} (h : SkipOk P op) {o : Oper} (ho : o.op = op) {w : World} {ρ : Operand → Value} (hρ : ∀ f, ρ (.func f) = .func (.func f) #[] #[] := by intro f; rfl) : ∀ f, o.about P w ρ = some f → (P.funcs[f]?).isSome = true := by
  intro f hf
  unfold Oper.about at hf
  rw [ho] at hf
  cases op with
  | call c =>
    simp only [SkipOk] at h
    cases hc : c.callee with
    | builtin b => simp [resolve, hc, Target.leads] at hf
    | invoke r n => rw [hc] at h; exact h.elim
    | value x =>
      rw [hc] at h
      cases x with
      | func g =>
        simp [resolve, hc, hρ, Deferred.ofValue, Target.leads] at hf
        subst hf
        exact h
      | _ => exact h.elim
  | _ => simp at hf
/-- The same, of what the state says of the callee. -/
def SkipOkE (P : Program) (E : Env) (op : Op) : Prop := SkipOk P op ∨ ∃ c x, op = .call c ∧ c.callee = .value x ∧ ((∃ l, E.ev x = .lit (.func (.yield l) #[] #[])) ∨ E.ev x = .lit undef ∨ ∃ f cap, E.ev x = .fn f cap ∧ (P.funcs[f]?).isSome = true)
theorem SkipOkE.yield {P : Program} {E : Env} {x : Operand} {l : Nat} {args : Array Operand} {tys : Array TypeId} (h : E.ev x = .lit (.func (.yield l) #[] #[])) : SkipOkE P E (.call { callee := .value x, args := args, argTypes := tys }) := .inr ⟨_, x, rfl, rfl, .inl ⟨l, h⟩⟩
theorem SkipOkE.fn {P : Program} {E : Env} {x : Operand} {f : FuncId} {cap : List AVal} {args : Array Operand} {tys : Array TypeId} (h : E.ev x = .fn f cap) (hf : (P.funcs[f]?).isSome = true) : SkipOkE P E (.call { callee := .value x, args := args, argTypes := tys }) := .inr ⟨_, x, rfl, rfl, .inr (.inr ⟨f, cap, h, hf⟩)⟩
theorem SkipOkE.und {P : Program} {E : Env} {x : Operand} {args : Array Operand} {tys : Array TypeId} (h : E.ev x = .lit undef) : SkipOkE P E (.call { callee := .value x, args := args, argTypes := tys }) := .inr ⟨_, x, rfl, rfl, .inr (.inl h)⟩
theorem SkipOkE.about {P : Program} {E : Env} {op : Op} (h : SkipOkE P E op) {nt : Nat} {e : Nv} {M : Mem} {a : Act} (he : Emb nt e M E a) {o : Oper} (ho : o.op = op) {w : World} : ∀ f, o.about P w a.eval = some f → (P.funcs[f]?).isSome = true := by
  rcases h with h | ⟨c, x, rfl, hc, h⟩
  · exact h.about ho
  · intro f hf
    have hv := he.ev x
    unfold Oper.about at hf
    rw [ho] at hf
    rcases h with ⟨l, h⟩ | h | ⟨g, cap, h, hg⟩
    · rw [h] at hv
      simp only [Val] at hv
      simp [resolve, hc, hv, Deferred.ofValue, Target.leads] at hf
    · rw [h] at hv
      simp only [Val] at hv
      simp [resolve, hc, hv, undef, Deferred.ofValue, Target.leads] at hf
    · rw [h] at hv
      simp only [Val] at hv
      obtain ⟨us, hu, _⟩ := hv
      simp [resolve, hc, hu, Deferred.ofValue, Target.leads] at hf
      subst hf
      exact hg
theorem semAt_value {P : Program} {r : Option Nat} {ρ : Operand → Value} {o : Oper} {x : Value} {w w' : World} (h : (exec1 ρ o.op o.type).run P w = .ok (.value x) w') : (o.semAt r ρ).run P w = .ok (.value x) w' := by
  rw [Oper.semAt_eq]
  · exact h
  · intro c hc
    rw [hc] at h
    exact no_defer.1 _ _ h
theorem semAt_skip {P : Program} {r : Option Nat} {ρ : Operand → Value} {o : Oper} {w w' : World} (h : (exec1 ρ o.op o.type).run P w = .ok .skip w') : (o.semAt r ρ).run P w = .ok .skip w' := by
  rw [Oper.semAt_eq]
  · exact h
  · intro c hc
    rw [hc] at h
    exact no_defer.2 _ h
section
variable {P : Program} {cx : Cx} {fr : Fr} {ops : Array Oper} {os : List Oper} {E : Env} {M M' : Mem} {Q : Ex → Env → Mem → Prop} {op : Op} {ty : TypeId} {pos : String} {after : Array Edge} {dst : Nat} {v : AVal} {tc st : List Nat}
theorem WPL.nil (h : Q .normal E M) : WPL P cx fr ops [] E M Q := fun _ _ e hh he => ⟨.normal, E, M, e, h, hh, he, rfl⟩
theorem WPL.step {g : Option (Nat × Bool)} (hg : ∀ nt a e, Emb nt e M E a → Region.wanted { dst := some dst, op := op, type := ty, pos := pos, after := after, guard := g } (yielded ops a.tmps) = true)
    (h : Does P op ty E M tc v M') (ht : Nat.blt dst fr.nt = true) (k : WPL P cx fr ops os (E.upd dst v) M' Q) :
    WPL P cx fr ops ({ dst := some dst, op := op, type := ty, pos := pos, after := after, guard := g } :: os) E M Q := by
  intro a w e hh he
  obtain ⟨x, w', e', hr, hh', he', hv, _⟩ := h cx fr.nt a w e hh he
  unfold wpListIn
  rw [if_pos (hg _ _ _ he)]
  refine ⟨about_some hr, ?_⟩
  rw [semAt_value hr]
  exact k _ w' e' hh' ((he.mono he'.1 he'.2).put ht hv)
/-- A quiet operation. -/
theorem WPL.q (h : Quiet P op ty E M st v) (ht : Nat.blt dst fr.nt = true) (k : WPL P cx fr ops os (E.upd dst v) M Q) :
    WPL P cx fr ops ({ dst := some dst, op := op, type := ty, pos := pos, after := after, guard := Option.none } :: os) E M Q :=
  WPL.step (fun _ _ _ _ => rfl) h.does ht k
/-- An operation with an effect. -/
theorem WPL.d (h : Does P op ty E M tc v M') (ht : Nat.blt dst fr.nt = true) (k : WPL P cx fr ops os (E.upd dst v) M' Q) :
    WPL P cx fr ops ({ dst := some dst, op := op, type := ty, pos := pos, after := after, guard := Option.none } :: os) E M Q :=
  WPL.step (fun _ _ _ _ => rfl) h ht k
theorem WPL.stepS {g : Option (Nat × Bool)} (hg : ∀ nt a e, Emb nt e M E a → Region.wanted { dst := Option.none, op := op, type := ty, pos := pos, after := after, guard := g } (yielded ops a.tmps) = true)
    (h : DoesS P op ty E M tc M') (k : WPL P cx fr ops os E M' Q) :
    WPL P cx fr ops ({ dst := Option.none, op := op, type := ty, pos := pos, after := after, guard := g } :: os) E M Q := by
  intro a w e hh he
  obtain ⟨w', e', hr, hh', he', _⟩ := h cx fr.nt a w e hh he
  unfold wpListIn
  rw [if_pos (hg _ _ _ he)]
  refine ⟨about_some hr, ?_⟩
  rw [semAt_skip hr]
  exact k _ w' e' hh' (he.mono he'.1 he'.2)
theorem WPL.s (h : DoesS P op ty E M tc M') (k : WPL P cx fr ops os E M' Q) :
    WPL P cx fr ops ({ dst := Option.none, op := op, type := ty, pos := pos, after := after, guard := Option.none } :: os) E M Q :=
  WPL.stepS (fun _ _ _ _ => rfl) h k
/-- What a guard's operation has yielded. -/
theorem yields {nt : Nat} {a : Act} {e : Nv} {j t : Nat} {b : Bool} (he : Emb nt e M E a) (hj : (ops[j]?).bind (·.dst) = some t) (ht : Nat.blt t nt = true) (hv : E.v t = .lit (.bool b)) : yielded ops a.tmps j = some b := by
  have h := he.v t
  rw [hv] at h
  simp only [Val] at h
  have ht' : t < a.tmps.size := by rw [he.sz]; simpa [Nat.blt_eq] using ht
  rw [Array.getD_eq_getD_getElem?, Array.getElem?_eq_getElem ht'] at h
  simp at h
  simp [yielded, hj, Array.getElem?_eq_getElem ht', h]
/-- A guarded operation that is carried out. -/
theorem WPL.qg {j t : Nat} {b : Bool} (hj : (ops[j]?).bind (·.dst) = some t) (htj : Nat.blt t fr.nt = true) (hv : E.v t = .lit (.bool b)) (h : Quiet P op ty E M st v) (ht : Nat.blt dst fr.nt = true) (k : WPL P cx fr ops os (E.upd dst v) M Q) :
    WPL P cx fr ops ({ dst := some dst, op := op, type := ty, pos := pos, after := after, guard := some (j, b) } :: os) E M Q := by
  intro a w e hh he
  have hw : Region.wanted { dst := some dst, op := op, type := ty, pos := pos, after := after, guard := some (j, b) } (yielded ops a.tmps) = true := by
    simp [Region.wanted, yields he hj htj hv]
  obtain ⟨x, w', e', hr, hh', he', hvx, _⟩ := h.does cx fr.nt a w e hh he
  unfold wpListIn
  rw [if_pos hw]
  refine ⟨about_some hr, ?_⟩
  rw [semAt_value hr]
  exact k _ w' e' hh' ((he.mono he'.1 he'.2).put ht hvx)
/-- A guarded operation that is passed over. -/
theorem WPL.skipg {j t : Nat} {b b' : Bool} (hj : (ops[j]?).bind (·.dst) = some t) (htj : Nat.blt t fr.nt = true) (hv : E.v t = .lit (.bool b')) (hne : (b' == b) = false) (ht : Nat.blt dst fr.nt = true) (hsk : SkipOkE P E op) (k : WPL P cx fr ops os (E.upd dst (.lit undef)) M Q) :
    WPL P cx fr ops ({ dst := some dst, op := op, type := ty, pos := pos, after := after, guard := some (j, b) } :: os) E M Q := by
  intro a w e hh he
  have hw : Region.wanted { dst := some dst, op := op, type := ty, pos := pos, after := after, guard := some (j, b) } (yielded ops a.tmps) = false := by
    simp [Region.wanted, yields he hj htj hv]
    simpa using hne
  unfold wpListIn
  rw [if_neg (by rw [hw]; simp)]
  exact ⟨hsk.about he rfl, k _ w e hh (he.put ht (by simp [Val]))⟩
/-- A region in the order of the text. -/
theorem WP.region {id : Nat} {l : List Oper} (h : WPL P cx fr l.toArray l E M Q) : WP P cx fr (.region id l.toArray false) E M Q :=
  fun a w e hh he => wpIn_region_lit (h a w e hh he)
end
/-- One operation of a region, under a fence: as the kit's, with the round's own meaning. -/
def YieldsF (P : Program) (ops : Array Oper) (S : World → Prop) (o : Oper) (v : Value) (a : Act) : Prop :=
  (Region.wanted o (yielded ops a.tmps) = true ∧ ∀ w, S w → (exec1 a.eval o.op o.type).run P w = .ok (.value v) w) ∨
  (Region.wanted o (yielded ops a.tmps) = false ∧ v = undef ∧ ∀ w f, o.about P w a.eval = some f → (P.funcs[f]?).isSome = true)
theorem YieldsF.of_same {P : Program} {ops : Array Oper} {S : World → Prop} {o : Oper} {v : Value} {a a' : Act} (hy : YieldsF P ops S o v a) (he : execOp a'.eval o = execOp a.eval o)
    (hw : Region.wanted o (yielded ops a'.tmps) = Region.wanted o (yielded ops a.tmps)) (hab : ∀ w, o.about P w a'.eval = o.about P w a.eval) : YieldsF P ops S o v a' := by
  unfold YieldsF at *
  rw [hw]
  rcases hy with ⟨h1, h2⟩ | h
  · exact .inl ⟨h1, fun w hS => by rw [← execOp_one, he, execOp_one]; exact h2 w hS⟩
  · exact .inr ⟨h.1, h.2.1, fun w f hf => h.2.2 w f (by rw [← hab]; exact hf)⟩
section drawn
variable {P : Program} {r : Option Nat} {ops : Array Oper} {Q : Exit → Act → World → Prop} {md : Region.Mode} {S : World → Prop}
theorem YieldsF.wpOp {i : Nat} {o : Oper} {v : Value} {a : Act} (hi : ops[i]? = some o) (hy : YieldsF P ops S o v a) {K : Act → World → Prop} {w : World} (hS : S w) (h : K (a.put o.dst v) w) :
    wpOpIn (fence P r) 0 P ops Q i K a w := by
  unfold wpOpIn
  simp only [hi]
  rcases hy with ⟨hw, hv⟩ | ⟨hw, rfl, hsk⟩
  · simp only [hw, if_true]
    refine ⟨about_some (hv w hS), ?_⟩
    rw [semAt_value (hv w hS)]
    exact h
  · simp only [hw, Bool.false_eq_true, if_false]
    exact ⟨hsk w, h⟩
theorem semAt_put {o : Oper} (hs : ∀ cs b, o.op ≠ .select cs b) (a : Act) (dst : Option Tmp) (v : Value) (h : ∀ d, dst = some d → d ∉ o.looksAt ops) :
    o.semAt r (a.put dst v).eval = o.semAt r a.eval := by
  have hall : ∀ x ∈ o.op.operands, (a.put dst v).eval x = a.eval x := by
    intro x hx
    apply Act.eval_put
    intro d hd hxd
    subst hxd
    exact h d hd (by
      unfold Oper.looksAt
      exact List.mem_append_left _ (List.mem_filterMap.2 ⟨_, by simpa using hx, rfl⟩))
  unfold Oper.semAt
  cases r with
  | none => exact execOp_congr o hs hall
  | some l =>
    cases hop : o.op with
    | defer c =>
      simp only
      rw [resolve_congr c o.type (fun x hx => hall x (by rw [hop]; exact hx))]
    | _ => exact execOp_congr o hs hall
theorem about_put {o : Oper} (a : Act) (dst : Option Tmp) (v : Value) (h : ∀ d, dst = some d → d ∉ o.looksAt ops) {w : World} : o.about P w (a.put dst v).eval = o.about P w a.eval := by
  have hall : ∀ x ∈ o.op.operands, (a.put dst v).eval x = a.eval x := by
    intro x hx
    apply Act.eval_put
    intro d hd hxd
    subst hxd
    exact h d hd (by
      unfold Oper.looksAt
      exact List.mem_append_left _ (List.mem_filterMap.2 ⟨_, by simpa using hx, rfl⟩))
  unfold Oper.about
  cases hop : o.op with
  | call c => simp only; rw [resolve_congr c o.type (fun x hx => hall x (by rw [hop]; exact hx))]
  | _ => rfl
theorem wpOp_putF {j : Nat} {oi oj : Oper} {v : Value} (hj : ops[j]? = some oj) (hap : oi.apart ops oj = true)
    (hsi : ∀ cs b, oi.op ≠ .select cs b) (hsj : ∀ cs b, oj.op ≠ .select cs b)
    (hQ : ∀ c a w, Q (.panic c) (a.put oi.dst v) w → Q (.panic c) a w) (hO : ¬ LetsOut Q) {K : Act → World → Prop} {a : Act} {w : World}
    (hy : YieldsF P ops S oi v a) (h : wpOpIn (fence P r) 0 P ops Q j K (a.put oi.dst v) w) :
    wpOpIn (fence P r) 0 P ops Q j (fun a' w' => YieldsF P ops S oi v a' ∧ K (a'.put oi.dst v) w') a w := by
  obtain ⟨h1, h2, h3⟩ := Oper.apart_spec hap
  have keep : ∀ (a : Act), YieldsF P ops S oi v a → ∀ u, YieldsF P ops S oi v (a.put oj.dst u) := fun a hy u =>
    hy.of_same (execOp_put oi hsi a oj.dst u h3) (wanted_put oi a oj.dst u h3) (fun w => about_put a oj.dst u h3)
  have keepD : ∀ d, YieldsF P ops S oi v { a with defers := d :: a.defers } := fun d => hy.of_same rfl rfl fun _ => rfl
  unfold wpOpIn at *
  simp only [hj] at *
  rw [wanted_put oj a oi.dst v h1] at h
  split
  · rename_i hw
    simp only [hw, if_true] at h
    refine ⟨fun f hf => h.1 f (by rw [about_put a oi.dst v h1]; exact hf), ?_⟩
    have h' := h.2
    rw [semAt_put hsj a oi.dst v h1] at h'
    generalize (oj.semAt r a.eval).run P w = rr at h' ⊢
    cases rr with
    | ok n w' =>
      cases n <;> simp only [Oper.uponIn] at h' ⊢
      case value u => exact ⟨keep a hy u, by rw [← Act.put_comm a v u h2]; exact h'⟩
      case skip => exact ⟨keep a hy _, by rw [← Act.put_comm a v undef h2]; exact h'⟩
      case defer d =>
        refine ⟨keep _ (keepD d) _, ?_⟩
        rw [← Act.put_comm _ v undef h2, ← Act.put_defers]
        exact h'
      case enter f args =>
        refine ⟨h'.1, CallsIn.mono h'.2 fun e w'' he => ?_⟩
        cases e with
        | returned u => exact ⟨keep a hy u, by rw [← Act.put_comm a v u h2]; exact he⟩
        | panicked c => exact hQ _ _ _ he
        | outgrown => exact he
      case row row args => exact ⟨h'.1, RowsIn.mono h'.2 fun u w'' he => ⟨keep a hy u, by rw [← Act.put_comm a v u h2]; exact he⟩⟩
      case round l f tmps assign body =>
        refine ⟨h'.1, RoundIn.mono h'.2 fun e w'' he => ?_⟩
        cases e with
        | returned u => exact ⟨keep a hy u, by rw [← Act.put_comm a v u h2]; exact he⟩
        | panicked c => exact hQ _ _ _ he
        | outgrown => exact he
    | halt x w' =>
      cases x <;> simp only [Oper.uponIn] at h' ⊢
      case panic u => exact hQ _ _ _ h'
  · rename_i hw
    simp only [hw] at h
    exact ⟨fun f hf => h.1 f (by rw [about_put a oi.dst v h1]; exact hf), keep a hy _, by rw [← Act.put_comm a v undef h2]; exact h.2⟩
/-- Whatever order is picked from here on: 'S0' holds behind every operation that is carried out. -/
def wpAnyG (P : Program) (r : Option Nat) (md : Region.Mode) (ops : Array Oper) (Q : Exit → Act → World → Prop) (S0 : World → Prop) : Nat → Array Bool → Act → World → Prop
  | 0, listed, a, w => Region.ready md ops listed = [] ∧ Q .normal a w
  | fuel + 1, listed, a, w =>
    (Region.ready md ops listed = [] → Q .normal a w) ∧
    ∀ i ∈ Region.ready md ops listed, wpOpIn (fence P r) 0 P ops Q i (fun a' w' => S0 w' ∧ wpAnyG P r md ops Q S0 fuel (listed.setIfInBounds i true) a' w') a w
/-- Whatever order is picked from here on: 'S' holds behind every operation that is carried out, till one of X is; 'S0' always. -/
def wpAnyF (P : Program) (r : Option Nat) (md : Region.Mode) (ops : Array Oper) (Q : Exit → Act → World → Prop) (S0 S : World → Prop) (X : List Nat) : Nat → Array Bool → Act → World → Prop
  | 0, listed, a, w => Region.ready md ops listed = [] ∧ Q .normal a w
  | fuel + 1, listed, a, w =>
    (Region.ready md ops listed = [] → Q .normal a w) ∧
    ∀ i ∈ Region.ready md ops listed, wpOpIn (fence P r) 0 P ops Q i (fun a' w' => (X.contains i = true ∧ S0 w' ∧ wpAnyG P r md ops Q S0 fuel (listed.setIfInBounds i true) a' w') ∨
      (X.contains i = false ∧ S w' ∧ wpAnyF P r md ops Q S0 S X fuel (listed.setIfInBounds i true) a' w')) a w
theorem wpAny_of_G {S0 : World → Prop} : ∀ (fuel : Nat) (listed : Array Bool) (a : Act) (w : World), wpAnyG P r md ops Q S0 fuel listed a w → wpAnyIn (fence P r) 0 P md ops Q fuel listed a w
  | 0, _, _, _, h => h
  | fuel + 1, _, _, _, h => ⟨h.1, fun i hi => wpOpIn_mono (fun a' w' h' => wpAny_of_G fuel _ a' w' h'.2) (h.2 i hi)⟩
theorem wpAny_of_F {S0 : World → Prop} {X : List Nat} : ∀ (fuel : Nat) (listed : Array Bool) (a : Act) (w : World), wpAnyF P r md ops Q S0 S X fuel listed a w → wpAnyIn (fence P r) 0 P md ops Q fuel listed a w
  | 0, _, _, _, h => h
  | fuel + 1, _, _, _, h => ⟨h.1, fun i hi => wpOpIn_mono (fun a' w' h' => h'.elim (fun h => wpAny_of_G fuel _ a' w' h.2.2) (fun h => wpAny_of_F fuel _ a' w' h.2.2)) (h.2 i hi)⟩
theorem wpAnyG_mono {S0 S0' : World → Prop} (h0 : ∀ w, S0 w → S0' w) : ∀ (fuel : Nat) (listed : Array Bool) (a : Act) (w : World), wpAnyG P r md ops Q S0 fuel listed a w → wpAnyG P r md ops Q S0' fuel listed a w
  | 0, _, _, _, h => h
  | fuel + 1, _, _, _, h => ⟨h.1, fun i hi => wpOpIn_mono (fun a' w' h' => ⟨h0 _ h'.1, wpAnyG_mono h0 fuel _ a' w' h'.2⟩) (h.2 i hi)⟩
theorem wpAnyG_of_F {S0 S0' : World → Prop} {X : List Nat} (h0 : ∀ w, S0 w → S0' w) (hs : ∀ w, S w → S0' w) : ∀ (fuel : Nat) (listed : Array Bool) (a : Act) (w : World), wpAnyF P r md ops Q S0 S X fuel listed a w → wpAnyG P r md ops Q S0' fuel listed a w
  | 0, _, _, _, h => h
  | fuel + 1, _, _, _, h => ⟨h.1, fun i hi => wpOpIn_mono (fun a' w' h' => by
      rcases h' with ⟨h1, h2, h3⟩ | ⟨h1, h2, h3⟩
      · exact ⟨h0 _ h2, wpAnyG_mono h0 fuel _ a' w' h3⟩
      · exact ⟨hs _ h2, wpAnyG_of_F h0 hs fuel _ a' w' h3⟩) (h.2 i hi)⟩
theorem wpAnyF_mono {S0 S0' S' : World → Prop} {X X' : List Nat} (h0 : ∀ w, S0 w → S0' w) (hs0 : ∀ w, S w → S0' w) (hS : ∀ w, S w → S' w) (hX : ∀ i, X.contains i = true → X'.contains i = true) : ∀ (fuel : Nat) (listed : Array Bool) (a : Act) (w : World), wpAnyF P r md ops Q S0 S X fuel listed a w → wpAnyF P r md ops Q S0' S' X' fuel listed a w
  | 0, _, _, _, h => h
  | fuel + 1, _, _, _, h => ⟨h.1, fun i hi => wpOpIn_mono (fun a' w' h' => by
      rcases h' with ⟨h1, h2, h3⟩ | ⟨h1, h2, h3⟩
      · exact .inl ⟨hX i h1, h0 _ h2, wpAnyG_mono h0 fuel _ a' w' h3⟩
      · cases hx : X'.contains i with
        | true => exact .inl ⟨rfl, hs0 _ h2, wpAnyG_of_F h0 hs0 fuel _ a' w' h3⟩
        | false => exact .inr ⟨rfl, hS _ h2, wpAnyF_mono h0 hs0 hS hX fuel _ a' w' h3⟩) (h.2 i hi)⟩
/-- j comes behind i, by way of operations that have not come up. -/
def behind (md : Region.Mode) (ops : Array Oper) (listed : Array Bool) (i : Nat) : Nat → Nat → Bool
  | 0, _ => false
  | n + 1, j => match ops[j]? with
    | some oj => oj.after.any fun e => Region.binds md e && (e.on == i || (!(listed.getD e.on true) && behind md ops listed i n e.on))
    | none => false
theorem behind_not_ready {listed : Array Bool} {i n j : Nat} (hi : listed.getD i true = false) (h : behind md ops listed i n j = true) : j ∉ Region.ready md ops listed := by
  intro hj
  obtain ⟨hjun, oj, hoj, hall⟩ := mem_ready.1 hj
  have key : ∀ k, listed.getD k true = false → listed.getD k false = true → False := fun k h0 h1 => by
    simp only [Array.getD_eq_getD_getElem?] at h0 h1
    cases hk : listed[k]? with
    | none => rw [hk] at h0; simp at h0
    | some b => rw [hk] at h0 h1; simp at h0 h1; rw [h0] at h1; cases h1
  cases n with
  | zero => simp [behind] at h
  | succ n =>
    simp only [behind, hoj] at h
    obtain ⟨e, he, hb⟩ := Array.any_eq_true'.1 h
    simp only [Bool.and_eq_true, Bool.or_eq_true, beq_iff_eq, Bool.not_eq_true'] at hb
    have h1 := hall e he hb.1
    rcases hb.2 with h2 | h2
    · rw [h2] at h1; exact key i hi h1
    · exact key e.on h2.1 h1
theorem behind_set {listed : Array Bool} {i j : Nat} (hi : listed.getD i true = false) (hj : j ∈ Region.ready md ops listed) : ∀ {n k : Nat}, behind md ops listed i n k = true → behind md ops (listed.setIfInBounds j true) i n k = true
  | 0, _, h => by simp [behind] at h
  | n + 1, k, h => by
    simp only [behind] at h ⊢
    cases hk : ops[k]? with
    | none => rw [hk] at h; simp at h
    | some ok =>
      rw [hk] at h
      simp only at h ⊢
      obtain ⟨e, he, hb⟩ := Array.any_eq_true'.1 h
      simp only [Bool.and_eq_true, Bool.or_eq_true, beq_iff_eq, Bool.not_eq_true'] at hb
      refine Array.any_eq_true'.2 ⟨e, he, ?_⟩
      simp only [Bool.and_eq_true, Bool.or_eq_true, beq_iff_eq, Bool.not_eq_true']
      refine ⟨hb.1, hb.2.imp id fun h2 => ⟨?_, behind_set hi hj h2.2⟩⟩
      have hne : j ≠ e.on := fun hje => behind_not_ready hi h2.2 (hje ▸ hj)
      rw [getD_set_ne true hne]
      exact h2.1
/-- An operation that may come up now may be taken first. -/
theorem wpAnyG_first {S0 : World → Prop} {i : Nat} {oi : Oper} {v : Value} (hi : ops[i]? = some oi) (hsel : ∀ (j : Nat) (o : Oper) cs b, ops[j]? = some o → o.op ≠ .select cs b)
    (hQ : ∀ c a w, Q (.panic c) (a.put oi.dst v) w → Q (.panic c) a w) (hO : ¬ LetsOut Q) :
    ∀ (fuel : Nat) (listed : Array Bool) (a : Act) (w : World),
      (∀ j oj, ops[j]? = some oj → j ≠ i → listed.getD j true = false → (∀ e ∈ oj.after, Region.binds md e = true → e.on ≠ i) → oi.apart ops oj = true) →
      i ∈ Region.ready md ops listed → YieldsF P ops S0 oi v a → S0 w →
      wpAnyG P r md ops Q S0 fuel (listed.setIfInBounds i true) (a.put oi.dst v) w → wpAnyG P r md ops Q S0 (fuel + 1) listed a w := by
  intro fuel
  induction fuel with
  | zero =>
    intro listed a w _ hr hy hS H
    refine ⟨fun h => (by rw [h] at hr; cases hr), fun j hj => ?_⟩
    by_cases hji : j = i
    · subst hji; exact hy.wpOp hi hS ⟨hS, H⟩
    · have := ready_mono hj hji
      rw [H.1] at this
      cases this
  | succ fuel ih =>
    intro listed a w hfree hr hy hS H
    refine ⟨fun h => (by rw [h] at hr; cases hr), fun j hj => ?_⟩
    by_cases hji : j = i
    · subst hji; exact hy.wpOp hi hS ⟨hS, H⟩
    · have h1 := H.2 j (ready_mono hj hji)
      obtain ⟨hjun, oj, hoj, hall⟩ := mem_ready.1 hj
      have hnot : ∀ e ∈ oj.after, Region.binds md e = true → e.on ≠ i := fun e he hb heq => by
        have h1 := hall e he hb
        have h0 := (mem_ready.1 hr).1
        rw [heq] at h1
        rcases Nat.lt_or_ge i listed.size with h' | h'
        · simp [h'] at h0 h1; rw [h0] at h1; cases h1
        · simp [Array.getElem?_eq_none h'] at h1
      have h2 := wpOp_putF hoj (hfree j oj hoj hji hjun hnot) (fun cs b => hsel i oi cs b hi) (fun cs b => hsel j oj cs b hoj) hQ hO hy h1
      have hun' : ∀ k, (listed.setIfInBounds j true).getD k true = false → listed.getD k true = false := fun k hun => by
        by_cases hjk : j = k
        · subst hjk; exact hjun
        · rw [getD_set_ne true hjk] at hun; exact hun
      refine wpOpIn_mono (fun a' w' h3 => ?_) h2
      obtain ⟨h4, h5⟩ := h3.2
      refine ⟨h4, ih (listed.setIfInBounds j true) a' w' (fun k ok hk hki hun hno => hfree k ok hk hki (hun' k hun) hno) (ready_mono hr (Ne.symm hji)) h3.1 h4 ?_⟩
      rw [Array.setIfInBounds_comm _ _ hji]
      exact h5
/-- The same, of one that yields what it yields behind X too. -/
theorem wpAnyF_firstT {S0 : World → Prop} {X : List Nat} {i : Nat} {oi : Oper} {v : Value} (hi : ops[i]? = some oi) (hsel : ∀ (j : Nat) (o : Oper) cs b, ops[j]? = some o → o.op ≠ .select cs b)
    (hQ : ∀ c a w, Q (.panic c) (a.put oi.dst v) w → Q (.panic c) a w) (hO : ¬ LetsOut Q) (hss : ∀ w, S w → S0 w) :
    ∀ (fuel : Nat) (listed : Array Bool) (a : Act) (w : World),
      (∀ j oj, ops[j]? = some oj → j ≠ i → listed.getD j true = false → (∀ e ∈ oj.after, Region.binds md e = true → e.on ≠ i) → oi.apart ops oj = true) →
      i ∈ Region.ready md ops listed → YieldsF P ops S0 oi v a → S w → X.contains i = false →
      wpAnyF P r md ops Q S0 S X fuel (listed.setIfInBounds i true) (a.put oi.dst v) w → wpAnyF P r md ops Q S0 S X (fuel + 1) listed a w := by
  intro fuel
  induction fuel with
  | zero =>
    intro listed a w _ hr hy hS hiX H
    refine ⟨fun h => (by rw [h] at hr; cases hr), fun j hj => ?_⟩
    by_cases hji : j = i
    · subst hji; exact hy.wpOp hi (hss _ hS) (.inr ⟨hiX, hS, H⟩)
    · have := ready_mono hj hji
      rw [H.1] at this
      cases this
  | succ fuel ih =>
    intro listed a w hfree hr hy hS hiX H
    refine ⟨fun h => (by rw [h] at hr; cases hr), fun j hj => ?_⟩
    by_cases hji : j = i
    · subst hji; exact hy.wpOp hi (hss _ hS) (.inr ⟨hiX, hS, H⟩)
    · have h1 := H.2 j (ready_mono hj hji)
      obtain ⟨hjun, oj, hoj, hall⟩ := mem_ready.1 hj
      have hnot : ∀ e ∈ oj.after, Region.binds md e = true → e.on ≠ i := fun e he hb heq => by
        have h1 := hall e he hb
        have h0 := (mem_ready.1 hr).1
        rw [heq] at h1
        rcases Nat.lt_or_ge i listed.size with h' | h'
        · simp [h'] at h0 h1; rw [h0] at h1; cases h1
        · simp [Array.getElem?_eq_none h'] at h1
      have h2 := wpOp_putF hoj (hfree j oj hoj hji hjun hnot) (fun cs b => hsel i oi cs b hi) (fun cs b => hsel j oj cs b hoj) hQ hO hy h1
      have hun' : ∀ k, (listed.setIfInBounds j true).getD k true = false → listed.getD k true = false := fun k hun => by
        by_cases hjk : j = k
        · subst hjk; exact hjun
        · rw [getD_set_ne true hjk] at hun; exact hun
      have hf' : ∀ k ok, ops[k]? = some ok → k ≠ i → (listed.setIfInBounds j true).getD k true = false → (∀ e ∈ ok.after, Region.binds md e = true → e.on ≠ i) → oi.apart ops ok = true := fun k ok hk hki hun hno => hfree k ok hk hki (hun' k hun) hno
      refine wpOpIn_mono (fun a' w' h3 => ?_) h2
      rcases h3.2 with ⟨h4, h5, h6⟩ | ⟨h4, h5, h6⟩
      · refine .inl ⟨h4, h5, wpAnyG_first hi hsel hQ hO fuel (listed.setIfInBounds j true) a' w' hf' (ready_mono hr (Ne.symm hji)) h3.1 h5 ?_⟩
        rw [Array.setIfInBounds_comm _ _ hji]
        exact h6
      · refine .inr ⟨h4, h5, ih (listed.setIfInBounds j true) a' w' hf' (ready_mono hr (Ne.symm hji)) h3.1 h5 hiX ?_⟩
        rw [Array.setIfInBounds_comm _ _ hji]
        exact h6
/-- An operation that may come up now may be taken first. -/
theorem wpAnyF_first {S0 : World → Prop} {X : List Nat} {i : Nat} {oi : Oper} {v : Value} (hi : ops[i]? = some oi) (hsel : ∀ (j : Nat) (o : Oper) cs b, ops[j]? = some o → o.op ≠ .select cs b)
    (hQ : ∀ c a w, Q (.panic c) (a.put oi.dst v) w → Q (.panic c) a w) (hO : ¬ LetsOut Q) :
    ∀ (fuel : Nat) (listed : Array Bool) (a : Act) (w : World),
      (∀ j oj, ops[j]? = some oj → j ≠ i → listed.getD j true = false → (∀ e ∈ oj.after, Region.binds md e = true → e.on ≠ i) → oi.apart ops oj = true) →
      (∀ j, X.contains j = true → j ≠ i → listed.getD j true = false → ∃ n, behind md ops listed i n j = true) →
      i ∈ Region.ready md ops listed → YieldsF P ops S oi v a → S w → X.contains i = false →
      wpAnyF P r md ops Q S0 S X fuel (listed.setIfInBounds i true) (a.put oi.dst v) w → wpAnyF P r md ops Q S0 S X (fuel + 1) listed a w := by
  intro fuel
  induction fuel with
  | zero =>
    intro listed a w _ _ hr hy hS hiX H
    refine ⟨fun h => (by rw [h] at hr; cases hr), fun j hj => ?_⟩
    by_cases hji : j = i
    · subst hji; exact hy.wpOp hi hS (.inr ⟨hiX, hS, H⟩)
    · have := ready_mono hj hji
      rw [H.1] at this
      cases this
  | succ fuel ih =>
    intro listed a w hfree hX hr hy hS hiX H
    refine ⟨fun h => (by rw [h] at hr; cases hr), fun j hj => ?_⟩
    by_cases hji : j = i
    · subst hji; exact hy.wpOp hi hS (.inr ⟨hiX, hS, H⟩)
    · have h1 := H.2 j (ready_mono hj hji)
      obtain ⟨hjun, oj, hoj, hall⟩ := mem_ready.1 hj
      have hnot : ∀ e ∈ oj.after, Region.binds md e = true → e.on ≠ i := fun e he hb heq => by
        have h1 := hall e he hb
        have h0 := (mem_ready.1 hr).1
        rw [heq] at h1
        rcases Nat.lt_or_ge i listed.size with h' | h'
        · simp [h'] at h0 h1; rw [h0] at h1; cases h1
        · simp [Array.getElem?_eq_none h'] at h1
      have hjX : X.contains j = false := by
        cases hc : X.contains j with
        | false => rfl
        | true =>
          obtain ⟨n, hn⟩ := hX j hc hji hjun
          exact absurd hj (behind_not_ready (mem_ready.1 hr).1 hn)
      have h2 := wpOp_putF hoj (hfree j oj hoj hji hjun hnot) (fun cs b => hsel i oi cs b hi) (fun cs b => hsel j oj cs b hoj) hQ hO hy h1
      have hun' : ∀ k, (listed.setIfInBounds j true).getD k true = false → listed.getD k true = false := fun k hun => by
        by_cases hjk : j = k
        · subst hjk; exact hjun
        · rw [getD_set_ne true hjk] at hun; exact hun
      refine wpOpIn_mono (fun a' w' h3 => ?_) h2
      rcases h3.2 with h4 | h4
      · rw [hjX] at h4; cases h4.1
      · refine .inr ⟨hjX, h4.2.1, ih (listed.setIfInBounds j true) a' w' (fun k ok hk hki hun hno => hfree k ok hk hki (hun' k hun) hno) (fun k hkX hki hun => let ⟨n, hn⟩ := hX k hkX hki (hun' k hun); ⟨n, behind_set (mem_ready.1 hr).1 hj hn⟩) (ready_mono hr (Ne.symm hji)) h3.1 h4.2.1 hiX ?_⟩
        rw [Array.setIfInBounds_comm _ _ hji]
        exact h4.2.2
end drawn
end Go.Q
namespace Go.Q
open Go
set_option linter.unusedVariables false
set_option linter.unusedSimpArgs false
theorem Chunk.ok_congr {e : Nv} {w w' : World} {i : Nat} {c : Chunk} (h : c.ok e w i) (hl : c.live e i → w'.heap[e.own i]? = w.heap[e.own i]?) : c.ok e w' i := by
  cases c with
  | gone => trivial
  | cells t l =>
    obtain ⟨h0, vs, h1, h2⟩ := h
    exact ⟨h0, vs, by rw [hl trivial]; exact h1, h2⟩
  | row t R l =>
    obtain ⟨h1, h2, h3, h4⟩ := h
    refine ⟨h1, h2, h3, ?_⟩
    cases hv : e.vir i with
    | true => rw [hv] at h4; simpa using h4
    | false =>
      rw [hv] at h4
      simp only [Bool.false_eq_true, if_false] at h4 ⊢
      obtain ⟨c, z, hb, h5⟩ := h4
      exact ⟨c, z, by rw [hl hv]; exact hb, h5⟩
  | rowt t R l a =>
    obtain ⟨h1, h2, h3, h4, h5, c, z, hb, h6⟩ := h
    exact ⟨h1, h2, h3, h4, h5, c, z, by rw [hl trivial]; exact hb, h6⟩
  | obj o => exact ⟨h.1, (hl trivial).trans h.2⟩
  | bag => exact h
  | dict fk R l x =>
    obtain ⟨h0, es, clock, h1, h2⟩ := h
    exact ⟨h0, es, clock, by rw [hl trivial]; exact h1, h2⟩
  | iter j clock es last fk R rem =>
    obtain ⟨h0, h1, seen, h2, h3⟩ := h
    exact ⟨h0, h1, seen, (hl trivial).trans h2, h3⟩
theorem Chunk.ok_mono {e e' : Nv} {w : World} {i : Nat} {c : Chunk} (hle : e.le e') (hb : ∀ b, Ro.le (e.mem b) (e'.mem b)) (hi : i < e.n) (h : c.ok e w i) : c.ok e' w i := by
  have hb' := hb
  cases c with
  | gone => trivial
  | cells t l =>
    obtain ⟨h0, vs, h1, h2, h3⟩ := h
    exact ⟨by rw [hle.vir i hi]; exact h0, vs, by rw [hle.own i hi]; exact h1, h2.mono hle hb, h3⟩
  | row t R l =>
    obtain ⟨h1, h2, h3, h4⟩ := h
    refine ⟨by rw [hle.lens i hi]; exact h1, by rw [hle.caps i hi]; exact h2, by rw [hle.caps i hi]; exact h3, ?_⟩
    rw [hle.vir i hi, hle.own i hi, hle.caps i hi]
    cases hv : e.vir i with
    | true => rw [hv] at h4; simpa using h4
    | false =>
      rw [hv] at h4
      simp only [Bool.false_eq_true, if_false] at h4 ⊢
      obtain ⟨c, z, hb, hz, h5, h6⟩ := h4
      exact ⟨c, z, hb, hz, h5, rows_mono hle.m h6⟩
  | rowt t R l a =>
    obtain ⟨h1, h2, h3, h4, h5, c, z, hb, hz, h6, h7, v, h8, h9, h10⟩ := h
    refine ⟨(hle.vir i hi).trans h1, (hle.lens i hi).trans h2, by rw [hle.caps i hi]; exact h3, by rw [hle.caps i hi]; exact h4, h5, c, z, by rw [hle.own i hi]; exact hb, hz, by rw [hle.caps i hi]; exact h6, rows_mono hle.m h7, v, h8, h9.mono hle hb', h10⟩
  | obj o => exact ⟨(hle.vir i hi).trans h.1, by rw [hle.own i hi]; exact h.2⟩
  | bag => exact (hle.vir i hi).trans h
  | dict fk R l x =>
    obtain ⟨h0, es, clock, h1, h2, h3⟩ := h
    exact ⟨(hle.vir i hi).trans h0, es, clock, by rw [hle.own i hi]; exact h1, h2.mono hle.m, h3⟩
  | iter j clock es seen fk R rem =>
    obtain ⟨h0, ⟨h1, h2⟩, sn, h3, h4, h5⟩ := h
    exact ⟨(hle.vir i hi).trans h0, ⟨Nat.lt_of_lt_of_le h1 hle.n, (hle.vir j h1).trans h2⟩, sn, by rw [hle.own i hi, hle.own j h1]; exact h3, h4.mono hle.m, h5.mono hle.m⟩
theorem live_congr {e e' : Nv} {i : Nat} {c : Chunk} (h : e'.vir i = e.vir i) : c.live e' i ↔ c.live e i := by
  cases c <;> simp [Chunk.live, h]
/-- One name more. -/
def Nv.bump (e : Nv) (b cap len : Nat) (vir : Bool := false) : Nv :=
  { e with own := fun i => if i = e.n then b else e.own i, caps := fun i => if i = e.n then cap else e.caps i, lens := fun i => if i = e.n then len else e.lens i,
           vir := fun i => if i = e.n then vir else e.vir i, n := e.n + 1, bag := fun i => if i = e.n then [] else e.bag i }
theorem Nv.bump_le (e : Nv) (b cap len : Nat) (vir : Bool) : e.le (e.bump b cap len vir) :=
  ⟨Ro.le.refl _, Ro.le.refl _, Nat.le_succ _, fun i hi => by simp [Nv.bump, Nat.ne_of_lt hi], fun i hi => by simp [Nv.bump, Nat.ne_of_lt hi], fun i hi => by simp [Nv.bump, Nat.ne_of_lt hi], fun i hi => by simp [Nv.bump, Nat.ne_of_lt hi], fun i hi => by simp [Nv.bump, Nat.ne_of_lt hi]⟩
theorem Nv.bump_mem (e : Nv) (b cap len : Nat) (vir : Bool) (x : Bool) : Ro.le (e.mem x) ((e.bump b cap len vir).mem x) := Ro.le.refl _
section
variable {cx : Cx} {e : Nv} {M : Mem} {w : World}
/-- A new chunk that lies at block b. -/
theorem Hold.bind (h : Hold cx e M w) {b cap len : Nat} {c : Chunk} {w' : World} (hos : w'.os = w.os) (htape : w'.tape = w.tape) (hout : w'.output = w.output)
    (hsz : w.heap.size ≤ w'.heap.size) (hb : b < w'.heap.size) (hsame : ∀ k, k ≠ b → k < w.heap.size → w'.heap[k]? = w.heap[k]?)
    (hfree : ∀ i, i < e.n → (M.at_ i).live e i → e.own i ≠ b) (hbag : (∀ i, i < e.n → (M.at_ i).mark = true → b ∉ e.bag i) ∧ ¬ inPool e M b) (hm : e.m b = none) (hbm : e.bm b = none) (hF : cx.F b ∨ cx.w0.heap.size ≤ b)
    (hc : c.ok (e.bump b cap len) w' e.n) : Hold cx (e.bump b cap len) (M.push c) w' := by
  have hle := e.bump_le b cap len false
  have lt_of : ∀ {k : Nat} {o : Obj}, w.heap[k]? = some o → k < w.heap.size := fun hk => (Array.getElem?_eq_some_iff.1 hk).1
  have hat : ∀ i, i < e.n → (M.push c).at_ i = M.at_ i := fun i hi => by rw [Mem.push_at, if_neg (by rw [← h.n]; omega)]
  have hatn : (M.push c).at_ e.n = c := by rw [Mem.push_at, if_pos h.n]
  refine ⟨h.bm, by simp [Nv.bump, Mem.push, h.n], Nat.le_trans h.size hsz, hos.trans h.os, htape.trans h.tape, hout.trans h.output, ?_, ?_, ?_, h.m0, h.mnew, ?_, ?_, ?_, Nat.le_succ_of_le h.np, ?_, ?_, ?_⟩
  · intro k hk hF'
    have hkb : k ≠ b := by
      intro hkb; subst hkb
      rcases hF with hF | hF
      · exact hF' hF
      · omega
    rw [hsame k hkb (Nat.lt_of_lt_of_le hk h.size)]
    exact h.frame k hk hF'
  · intro k o hk
    have h1 := h.ro k o hk
    rw [hsame k (by intro hkb; subst hkb; simp only [Nv.bump] at hk; rw [hm] at hk; cases hk) (lt_of h1)]
    exact h1
  · intro k o hk
    have h1 := h.bro k o hk
    rw [hsame k (by intro hkb; subst hkb; simp only [Nv.bump] at hk; rw [hbm] at hk; cases hk) (lt_of h1)]
    exact h1
  · intro i hi
    by_cases hin : i = e.n
    · subst hin; rw [hatn]; exact hc
    · have hi' : i < e.n := by simp only [Nv.bump] at hi; omega
      rw [hat i hi']
      refine Chunk.ok_mono hle (fun x => e.bump_mem b cap len false x) hi' ?_
      refine Chunk.ok_congr (h.ch i hi') fun hl => hsame _ (hfree i hi' hl) (h.live i hi' hl).1
  · intro i hi hl
    by_cases hin : i = e.n
    · subst hin
      simp only [Nv.bump, if_true]
      exact ⟨hb, hm, hbm, hF⟩
    · have hi' : i < e.n := by simp only [Nv.bump] at hi; omega
      rw [hat i hi'] at hl
      have := h.live i hi' ((live_congr (hle.vir i hi')).1 hl)
      simp only [Nv.bump, if_neg hin]
      exact ⟨Nat.lt_of_lt_of_le this.1 hsz, this.2⟩
  · intro i j hi hj hli hlj hij
    by_cases hin : i = e.n
    · by_cases hjn : j = e.n
      · rw [hin, hjn]
      · have hj' : j < e.n := by simp only [Nv.bump] at hj; omega
        rw [hat j hj'] at hlj
        have hlj' := (live_congr (hle.vir j hj')).1 hlj
        simp only [Nv.bump, if_pos hin, if_neg hjn] at hij
        exact absurd hij.symm (hfree j hj' hlj')
    · have hi' : i < e.n := by simp only [Nv.bump] at hi; omega
      rw [hat i hi'] at hli
      have hli' := (live_congr (hle.vir i hi')).1 hli
      by_cases hjn : j = e.n
      · simp only [Nv.bump, if_neg hin, if_pos hjn] at hij
        exact absurd hij (hfree i hi' hli')
      · have hj' : j < e.n := by simp only [Nv.bump] at hj; omega
        rw [hat j hj'] at hlj
        simp only [Nv.bump, if_neg hin, if_neg hjn] at hij
        exact h.dist i j hi' hj' hli' ((live_congr (hle.vir j hj')).1 hlj) hij
  · intro i hi
    have : i ≠ e.n := by have := h.np; omega
    simp only [Nv.bump, if_neg this]
    exact h.pin i hi
  · have sp : ∀ i, i < (e.bump b cap len).n → i = e.n ∨ i < e.n := fun i hi => by simp only [Nv.bump] at hi; omega
    have bn : (e.bump b cap len).bag e.n = [] := by simp [Nv.bump]
    have bo : ∀ i, i < e.n → (e.bump b cap len).bag i = e.bag i := hle.bag
    refine ⟨fun i hi hmk => ?_, fun i hi hmk x hx => ?_, fun i hi hmk x hx j hj hlj => ?_, fun i j hi hj hmi hmj hij x hx => ?_⟩
    · rcases sp i hi with rfl | hi'
      · rw [bn]; exact List.nodup_nil
      · rw [hat i hi'] at hmk; rw [bo i hi']; exact h.bag.nodup i hi' hmk
    · rcases sp i hi with rfl | hi'
      · rw [bn] at hx; cases hx
      · rw [hat i hi'] at hmk; rw [bo i hi'] at hx
        obtain ⟨h1, h2⟩ := h.bag.at_ i hi' hmk x hx
        refine ⟨?_, h2⟩
        rw [hsame x (fun hxb => hbag.1 i hi' hmk (hxb ▸ hx)) (lt_of h1)]
        exact h1
    · rcases sp i hi with rfl | hi'
      · rw [bn] at hx; cases hx
      · rw [hat i hi'] at hmk; rw [bo i hi'] at hx
        rcases sp j hj with rfl | hj'
        · simp only [Nv.bump, if_true]
          exact fun hbx => hbag.1 i hi' hmk (hbx ▸ hx)
        · rw [hat j hj'] at hlj
          rw [hle.own j hj']
          exact h.bag.own i hi' hmk x hx j hj' ((live_congr (hle.vir j hj')).1 hlj)
    · rcases sp i hi with rfl | hi'
      · rw [bn] at hx; cases hx
      · rcases sp j hj with rfl | hj'
        · rw [bn]; simp
        · rw [hat i hi'] at hmi; rw [hat j hj'] at hmj; rw [bo i hi'] at hx; rw [bo j hj']
          exact h.bag.dist i j hi' hj' hmi hmj hij x hx
  · refine h.pool.keep rfl rfl (Ro.le.refl _) (fun x hx => ⟨hsame x (fun hxb => hbag.2 (hxb ▸ hx)) (h.pool.lt hx), (h.pool.isFree hx).1, (h.pool.isFree hx).2.1⟩) (fun x hx j hj hlj => ?_) (fun x hx j hj hmk => ?_)
    · by_cases hjn : j = e.n
      · subst hjn
        simp only [Nv.bump, if_true]
        exact fun hbx => hbag.2 (hbx ▸ hx)
      · have hj' : j < e.n := by simp only [Nv.bump] at hj; omega
        rw [hat j hj'] at hlj
        rw [hle.own j hj']
        exact h.pool.notOwn hx hj' ((live_congr (hle.vir j hj')).1 hlj)
    · by_cases hjn : j = e.n
      · subst hjn
        simp [Nv.bump]
      · have hj' : j < e.n := by simp only [Nv.bump] at hj; omega
        rw [hat j hj'] at hmk
        rw [hle.bag j hj']
        exact h.pool.notBag hx hj' hmk
theorem Hold.bag_lt (h : Hold cx e M w) {i b : Nat} (hi : i < e.n) (hm : (M.at_ i).mark = true) (hb : b ∈ e.bag i) : b < w.heap.size := (Array.getElem?_eq_some_iff.1 (h.bag.at_ i hi hm b hb).1).1
theorem Hold.bag_new (h : Hold cx e M w) : (∀ i, i < e.n → (M.at_ i).mark = true → w.heap.size ∉ e.bag i) ∧ ¬ inPool e M w.heap.size := ⟨fun i hi hm hb => Nat.lt_irrefl _ (h.bag_lt hi hm hb), fun hp => Nat.lt_irrefl _ (h.pool.lt hp)⟩
/-- A name for what has no block: an empty row. -/
theorem Hold.bindVir (h : Hold cx e M w) {α : Type} {t : TypeId} {R : Rd α} : Hold cx (e.bump 0 0 0 true) (M.push (.row t R [])) w := by
  have hle := e.bump_le 0 0 0 true
  have hat : ∀ i, i < e.n → (M.push (.row t R [])).at_ i = M.at_ i := fun i hi => by rw [Mem.push_at, if_neg (by rw [← h.n]; omega)]
  have hatn : (M.push (.row t R [])).at_ e.n = .row t R [] := by rw [Mem.push_at, if_pos h.n]
  have hdead : ¬ ((M.push (.row t R [])).at_ e.n).live (e.bump 0 0 0 true) e.n := by rw [hatn]; simp [Chunk.live, Nv.bump]
  have split : ∀ i, i < (e.bump 0 0 0 true).n → i = e.n ∨ i < e.n := fun i hi => by simp only [Nv.bump] at hi; omega
  refine ⟨h.bm, by simp [Nv.bump, Mem.push, h.n], h.size, h.os, h.tape, h.output, h.frame, h.ro, h.bro, h.m0, h.mnew, ?_, ?_, ?_, Nat.le_succ_of_le h.np, ?_, ?_, ?_⟩
  · intro i hi
    rcases split i hi with rfl | hi'
    · rw [hatn]; simp [Chunk.ok, Nv.bump]
    · rw [hat i hi']
      exact Chunk.ok_mono hle (fun x => e.bump_mem 0 0 0 true x) hi' (h.ch i hi')
  · intro i hi hl
    rcases split i hi with rfl | hi'
    · exact absurd hl hdead
    · rw [hat i hi'] at hl
      have := h.live i hi' ((live_congr (hle.vir i hi')).1 hl)
      have hne : i ≠ e.n := by omega
      simp only [Nv.bump, if_neg hne]
      exact this
  · intro i j hi hj hli hlj hij
    rcases split i hi with rfl | hi'
    · exact absurd hli hdead
    rcases split j hj with rfl | hj'
    · exact absurd hlj hdead
    rw [hat i hi'] at hli
    rw [hat j hj'] at hlj
    have h1 : i ≠ e.n := by omega
    have h2 : j ≠ e.n := by omega
    simp only [Nv.bump, if_neg h1, if_neg h2] at hij
    exact h.dist i j hi' hj' ((live_congr (hle.vir i hi')).1 hli) ((live_congr (hle.vir j hj')).1 hlj) hij
  · intro i hi
    have : i ≠ e.n := by have := h.np; omega
    simp only [Nv.bump, if_neg this]
    exact h.pin i hi
  · have bn : (e.bump 0 0 0 true).bag e.n = [] := by simp [Nv.bump]
    have bo : ∀ i, i < e.n → (e.bump 0 0 0 true).bag i = e.bag i := hle.bag
    refine ⟨fun i hi hmk => ?_, fun i hi hmk x hx => ?_, fun i hi hmk x hx j hj hlj => ?_, fun i j hi hj hmi hmj hij x hx => ?_⟩
    · rcases split i hi with rfl | hi'
      · rw [bn]; exact List.nodup_nil
      · rw [hat i hi'] at hmk; rw [bo i hi']; exact h.bag.nodup i hi' hmk
    · rcases split i hi with rfl | hi'
      · rw [bn] at hx; cases hx
      · rw [hat i hi'] at hmk; rw [bo i hi'] at hx
        exact h.bag.at_ i hi' hmk x hx
    · rcases split i hi with rfl | hi'
      · rw [bn] at hx; cases hx
      · rw [hat i hi'] at hmk; rw [bo i hi'] at hx
        rcases split j hj with rfl | hj'
        · exact absurd hlj hdead
        · rw [hat j hj'] at hlj
          rw [hle.own j hj']
          exact h.bag.own i hi' hmk x hx j hj' ((live_congr (hle.vir j hj')).1 hlj)
    · rcases split i hi with rfl | hi'
      · rw [bn] at hx; cases hx
      · rcases split j hj with rfl | hj'
        · rw [bn]; simp
        · rw [hat i hi'] at hmi; rw [hat j hj'] at hmj; rw [bo i hi'] at hx; rw [bo j hj']
          exact h.bag.dist i j hi' hj' hmi hmj hij x hx
  · refine h.pool.keep rfl rfl (Ro.le.refl _) (fun x hx => ⟨rfl, (h.pool.isFree hx).1, (h.pool.isFree hx).2.1⟩) (fun x hx j hj hlj => ?_) (fun x hx j hj hmk => ?_)
    · rcases split j hj with rfl | hj'
      · exact absurd hlj hdead
      · rw [hat j hj'] at hlj
        rw [hle.own j hj']
        exact h.pool.notOwn hx hj' ((live_congr (hle.vir j hj')).1 hlj)
    · rcases split j hj with rfl | hj'
      · simp [Nv.bump]
      · rw [hat j hj'] at hmk
        rw [hle.bag j hj']
        exact h.pool.notBag hx hj' hmk
/-- A chunk is told anew, its block written. -/
theorem Hold.change (h : Hold cx e M w) {i : Nat} {c : Chunk} {w' : World} (hi : i < e.n) (hlive : (M.at_ i).live e i) (hos : w'.os = w.os) (htape : w'.tape = w.tape) (hout : w'.output = w.output)
    (hsz : w'.heap.size = w.heap.size) (hsame : ∀ k, k ≠ e.own i → w'.heap[k]? = w.heap[k]?) (hc : c.ok e w' i) (hmk : c.mark = true → (M.at_ i).mark = true := by first | exact (fun h => by cases h) | (intro h; simp_all [Chunk.mark])) : Hold cx e (M.set i c) w' := by
  have hl := h.live i hi hlive
  refine ⟨h.bm, h.n, by rw [hsz]; exact h.size, hos.trans h.os, htape.trans h.tape, hout.trans h.output, ?_, ?_, ?_, h.m0, h.mnew, ?_, ?_, ?_, h.np, h.pin, ?_, ?_⟩
  · intro k hk hF'
    have hkb : k ≠ e.own i := by
      intro hkb; subst hkb
      rcases hl.2.2.2 with hF | hF
      · exact hF' hF
      · omega
    rw [hsame k hkb]
    exact h.frame k hk hF'
  · intro k o hk
    rw [hsame k (by intro hkb; subst hkb; rw [hl.2.1] at hk; cases hk)]
    exact h.ro k o hk
  · intro k o hk
    rw [hsame k (by intro hkb; subst hkb; rw [hl.2.2.1] at hk; cases hk)]
    exact h.bro k o hk
  · intro j hj
    rw [Mem.set_at]
    split
    · rename_i hji; subst hji; exact hc
    · rename_i hji
      refine Chunk.ok_congr (h.ch j hj) fun hlj => hsame _ fun he => hji (h.dist j i hj hi hlj hlive he)
  · intro j hj hlj
    rw [Mem.set_at] at hlj
    split at hlj
    · rename_i hji; subst hji; rw [hsz]; exact hl
    · rw [hsz]; exact h.live j hj hlj
  · intro j k hj hk hlj hlk hjk
    rw [Mem.set_at] at hlj hlk
    have hlj' : (M.at_ j).live e j := by split at hlj <;> first | (rename_i hji; subst hji; exact hlive) | exact hlj
    have hlk' : (M.at_ k).live e k := by split at hlk <;> first | (rename_i hji; subst hji; exact hlive) | exact hlk
    exact h.dist j k hj hk hlj' hlk' hjk
  · have mk : ∀ j, ((M.set i c).at_ j).mark = true → (M.at_ j).mark = true := by
      intro j hj
      rw [Mem.set_at] at hj
      split at hj
      · rename_i hji; subst hji; exact hmk hj
      · exact hj
    have lv : ∀ j, ((M.set i c).at_ j).live e j → (M.at_ j).live e j := by
      intro j hj
      rw [Mem.set_at] at hj
      split at hj
      · rename_i hji; subst hji; exact hlive
      · exact hj
    refine ⟨fun j hj hm => h.bag.nodup j hj (mk j hm), fun j hj hm x hx => ?_, fun j hj hm x hx k hk hlk => h.bag.own j hj (mk j hm) x hx k hk (lv k hlk), fun j k hj hk hmj hmk' hjk x hx => h.bag.dist j k hj hk (mk j hmj) (mk k hmk') hjk x hx⟩
    obtain ⟨h1, h2⟩ := h.bag.at_ j hj (mk j hm) x hx
    refine ⟨?_, h2⟩
    rw [hsame x (fun hxo => h.bag.own j hj (mk j hm) x hx i hi hlive hxo.symm)]
    exact h1
  · refine h.pool.keep rfl rfl (Ro.le.refl _) (fun x hx => ⟨hsame x (fun hxo => h.pool.notOwn hx hi hlive hxo.symm), (h.pool.isFree hx).1, (h.pool.isFree hx).2.1⟩) (fun x hx j hj hlj => ?_) (fun x hx j hj hm => ?_)
    · rw [Mem.set_at] at hlj
      exact h.pool.notOwn hx hj (by split at hlj <;> first | (rename_i hji; subst hji; exact hlive) | exact hlj)
    · rw [Mem.set_at] at hm
      exact h.pool.notBag hx hj (by split at hm <;> first | (rename_i hji; subst hji; exact hmk hm) | exact hm)
/-- A chunk is let go. -/
theorem Hold.drop (h : Hold cx e M w) (i : Nat) : Hold cx e (M.set i .gone) w := by
  refine ⟨h.bm, h.n, h.size, h.os, h.tape, h.output, h.frame, h.ro, h.bro, h.m0, h.mnew, ?_, ?_, ?_, h.np, h.pin, ?_, ?_⟩
  · intro j hj
    rw [Mem.set_at]
    split
    · trivial
    · exact h.ch j hj
  · intro j hj hl
    rw [Mem.set_at] at hl
    split at hl
    · exact hl.elim
    · exact h.live j hj hl
  · intro j k hj hk hlj hlk hjk
    rw [Mem.set_at] at hlj hlk
    split at hlj
    · exact hlj.elim
    split at hlk
    · exact hlk.elim
    exact h.dist j k hj hk hlj hlk hjk
  · have mk : ∀ j, ((M.set i .gone).at_ j).mark = true → (M.at_ j).mark = true := by
      intro j hj
      rw [Mem.set_at] at hj
      split at hj
      · cases hj
      · exact hj
    have lv : ∀ j, ((M.set i .gone).at_ j).live e j → (M.at_ j).live e j := by
      intro j hj
      rw [Mem.set_at] at hj
      split at hj
      · exact hj.elim
      · exact hj
    exact ⟨fun j hj hm => h.bag.nodup j hj (mk j hm), fun j hj hm x hx => h.bag.at_ j hj (mk j hm) x hx, fun j hj hm x hx k hk hlk => h.bag.own j hj (mk j hm) x hx k hk (lv k hlk), fun j k hj hk hmj hmk' hjk x hx => h.bag.dist j k hj hk (mk j hmj) (mk k hmk') hjk x hx⟩
  · refine h.pool.keep rfl rfl (Ro.le.refl _) (fun x hx => ⟨rfl, (h.pool.isFree hx).1, (h.pool.isFree hx).2.1⟩) (fun x hx j hj hlj => ?_) (fun x hx j hj hm => ?_)
    · rw [Mem.set_at] at hlj
      split at hlj
      · exact hlj.elim
      · exact h.pool.notOwn hx hj hlj
    · rw [Mem.set_at] at hm
      split at hm
      · cases hm
      · exact h.pool.notBag hx hj hm
theorem Hold.drew (h : Hold cx e M w) : Hold cx e M { w with drawn := w.drawn + 1 } :=
  ⟨h.bm, h.n, h.size, h.os, h.tape, h.output, h.frame, h.ro, h.bro, h.m0, h.mnew, fun i hi => Chunk.ok_congr (h.ch i hi) fun _ => rfl, h.live, h.dist, h.np, h.pin, ⟨h.bag.nodup, h.bag.at_, h.bag.own, h.bag.dist⟩, ⟨h.pool.no, h.pool.len, h.pool.at_, h.pool.free, h.pool.own, h.pool.bag, h.pool.inj⟩⟩
theorem Emb.mem {nt : Nat} {E : Env} {a : Act} {M' : Mem} (h : Emb nt e M E a) : Emb nt e M' E a := h.mono (Nv.le.refl e) fun _ => Ro.le.refl _
end
/-- May it stand in one cell? -/
def AVal.one : AVal → Bool
  | .lit v => v.oneCell'
  | .any | .agg _ | .tup _ => false
  | _ => true
theorem Val.one {e : Nv} {a : AVal} {v : Value} (h : Val e a v) (ha : a.one = true) : v.oneCell' = true := by
  cases a with
  | any => simp [AVal.one] at ha
  | lit x => simp only [Val] at h; subst h; exact ha
  | ptr i off => simp only [Val] at h; rw [h.2.2]; rfl
  | opt c i off => simp only [Val] at h; rw [h.2.2]; cases c <;> rfl
  | mp i => simp only [Val] at h; rw [h.2.2]; rfl
  | whole i =>
    simp only [Val] at h
    have h3 := h.2.2
    split at h3
    · rw [h3.1]; rfl
    · rw [h3]; rfl
  | sl i sz off len => simp only [Val] at h; obtain ⟨_, _, _, o, h3, _⟩ := h; rw [h3]; rfl
  | ro R b d => simp only [Val] at h; exact R.one h v (by simp)
  | fn f l => simp only [Val] at h; obtain ⟨vs, h1, _⟩ := h; rw [h1]; rfl
  | agg l => simp [AVal.one] at ha
  | tup l => simp [AVal.one] at ha
  | ifc t a => simp only [Val] at h; obtain ⟨x, h1, _⟩ := h; rw [h1]; rfl
theorem cells_one {v : Value} (h : v.oneCell' = true) : v.cells = #[v] := by cases v <;> first | rfl | simp [Value.oneCell'] at h
section
variable {P : Program} {ty : TypeId} {E : Env} {M : Mem}
/-- The cells of a value that is stored. -/
def AVal.cells : AVal → Option (List AVal)
  | .agg l => some l
  | a => if a.one then some [a] else none
theorem cells_vals {e : Nv} {a : AVal} {v : Value} {l : List AVal} (h : Val e a v) (hl : a.cells = some l) : ∃ vs : List Value, v.cells = vs.toArray ∧ Vals e l vs ∧ ∀ x ∈ vs, x.oneCell' = true := by
  have single : a.one = true → a.cells = some [a] → l = [a] → ∃ vs : List Value, v.cells = vs.toArray ∧ Vals e l vs ∧ ∀ x ∈ vs, x.oneCell' = true := by
    rintro h1 - rfl
    have := h.one h1
    exact ⟨[v], cells_one this, by simp [Vals, h], by simpa using this⟩
  cases a with
  | agg l' =>
    simp only [AVal.cells, Option.some.injEq] at hl
    subst hl
    simp only [Val] at h
    obtain ⟨vs, h1, h2, h3⟩ := h
    exact ⟨vs, by rw [h1]; rfl, h2, h3⟩
  | any => simp [AVal.cells, AVal.one] at hl
  | tup l' => simp [AVal.cells, AVal.one] at hl
  | _ =>
    simp only [AVal.cells] at hl
    split at hl
    · rename_i h1
      simp only [Option.some.injEq] at hl
      exact single h1 (by simp [AVal.cells, h1]) hl.symm
    · cases hl
/-- A new variable that holds a value. -/
theorem d_box {t : TypeId} {x : Operand} {l : List AVal} {n : Nat} (hl : (E.ev x).cells = some l) (hn : M.n = n) : Does P (.box t x) ty E M [] (.ptr n 0) (M.push (.cells t l)) :=
  fun cx nt a w e hh he => by
    obtain ⟨vs, h1, h2, h3⟩ := cells_vals (he.ev x) hl
    have hle := e.bump_le w.heap.size 0 0 false
    have hm := fun b => e.bump_mem w.heap.size 0 0 false b
    have hnone : ∀ {m : Ro}, (∀ b o, m b = some o → w.heap[b]? = some o) → m w.heap.size = none := by
      intro m hm
      cases hx : m w.heap.size with
      | none => rfl
      | some o => have := (Array.getElem?_eq_some_iff.1 (hm _ _ hx)).1; omega
    refine ⟨.pointer (some ⟨w.heap.size, 0, none⟩), w.alloc (.cells vs.toArray t), e.bump w.heap.size 0 0, ?_, ?_, ⟨hle, hm⟩, ?_, ?_, by simp⟩
    · simp [exec1, execOp, Instr.box, newVar, newRow, h1]
    · refine hh.bind rfl rfl rfl (by simp) (by simp) (fun k hk hlt => q_alloc_old w _ k hlt) (fun i hi hl => Nat.ne_of_lt (hh.live i hi hl).1) hh.bag_new (hnone hh.ro) (hnone hh.bro) (.inr hh.size) ?_
      refine ⟨by simp [Nv.bump], vs, ?_, h2.mono hle hm, h3⟩
      simp only [Nv.bump, if_true]
      exact heap_alloc_new w _
    · simp only [Val, Nv.bump, ← hn, ← hh.n, if_true]
      exact ⟨Nat.lt_succ_self _, trivial, trivial⟩
    · exact fun b hb _ => q_alloc_old w _ b hb
/-- What a type's zero is, cell by cell. -/
structure ZeroIs (P : Program) (t : TypeId) (l : List Value) : Prop where
  h : ∃ i z, P.info? t = some i ∧ i.zero = some z ∧ z.cells = l.toArray
  one : ∀ v ∈ l, v.oneCell' = true
theorem ZeroIs.run {t : TypeId} {l : List Value} (h : ZeroIs P t l) (w : World) : ∃ z, (zeroValue t).run P w = .ok z w ∧ z.cells = l.toArray := by
  obtain ⟨i, z, h1, h2, h3⟩ := h.h
  exact ⟨z, by simp [zeroValue, typeInfo, h1, h2], h3⟩
theorem vals_lits (e : Nv) : ∀ (l : List Value), Vals e (l.map AVal.lit) l
  | [] => by simp [Vals]
  | v :: l => by simp only [List.map_cons, Vals]; exact ⟨v, l, rfl, by simp [Val], vals_lits e l⟩
/-- A new variable, at its zero. -/
theorem d_alloc {t : TypeId} {l : List Value} {n : Nat} (hz : ZeroIs P t l) (hn : M.n = n) : Does P (.alloc t) ty E M [] (.ptr n 0) (M.push (.cells t (l.map AVal.lit))) :=
  fun cx nt a w e hh he => by
    obtain ⟨z, hr, hc⟩ := hz.run w
    have hle := e.bump_le w.heap.size 0 0 false
    have hm := fun b => e.bump_mem w.heap.size 0 0 false b
    have hnone : ∀ {m : Ro}, (∀ b o, m b = some o → w.heap[b]? = some o) → m w.heap.size = none := by
      intro m hm
      cases hx : m w.heap.size with
      | none => rfl
      | some o => have := (Array.getElem?_eq_some_iff.1 (hm _ _ hx)).1; omega
    refine ⟨.pointer (some ⟨w.heap.size, 0, none⟩), w.alloc (.cells l.toArray t), e.bump w.heap.size 0 0, ?_, ?_, ⟨hle, hm⟩, ?_, ?_, by simp⟩
    · simp [exec1, execOp, Instr.alloc, hr, newVar, newRow, hc]
    · refine hh.bind rfl rfl rfl (by simp) (by simp) (fun k hk hlt => q_alloc_old w _ k hlt) (fun i hi hl => Nat.ne_of_lt (hh.live i hi hl).1) hh.bag_new (hnone hh.ro) (hnone hh.bro) (.inr hh.size) ?_
      refine ⟨by simp [Nv.bump], l, ?_, vals_lits _ l, hz.one⟩
      simp only [Nv.bump, if_true]
      exact heap_alloc_new w _
    · simp only [Val, Nv.bump, ← hn, ← hh.n, if_true]
      exact ⟨Nat.lt_succ_self _, trivial, trivial⟩
    · exact fun b hb _ => q_alloc_old w _ b hb
/-- Cells from a place on are set. -/
def setAt.{u} {α : Type u} (l : List α) (o : Nat) : List α → List α
  | [] => l
  | x :: r => setAt (l.set o x) (o + 1) r
theorem setAt_length.{u} {α : Type u} : ∀ (r : List α) (l : List α) (o : Nat), (setAt l o r).length = l.length
  | [], _, _ => rfl
  | x :: r, l, o => by rw [setAt, setAt_length r]; simp
theorem Vals.set {e : Nv} : ∀ {l : List AVal} {vs : List Value} {o : Nat} {a : AVal} {v : Value}, Vals e l vs → Val e a v → Vals e (l.set o a) (vs.set o v)
  | [], vs, o, a, v, h, _ => by simp only [Vals] at h; simp [h, Vals]
  | x :: l, vs, 0, a, v, h, hv => by
    simp only [Vals] at h
    obtain ⟨u, ws, rfl, h1, h2⟩ := h
    simp only [List.set_cons_zero, Vals]
    exact ⟨v, ws, rfl, hv, h2⟩
  | x :: l, vs, o + 1, a, v, h, hv => by
    simp only [Vals] at h
    obtain ⟨u, ws, rfl, h1, h2⟩ := h
    simp only [List.set_cons_succ, Vals]
    exact ⟨u, _, rfl, h1, h2.set hv⟩
theorem Vals.setAt {e : Nv} : ∀ {r : List AVal} {us : List Value} {l : List AVal} {vs : List Value} {o : Nat}, Vals e l vs → Vals e r us → Vals e (setAt l o r) (setAt vs o us)
  | [], us, l, vs, o, h, hr => by simp only [Vals] at hr; subst hr; exact h
  | x :: r, us, l, vs, o, h, hr => by
    simp only [Vals] at hr
    obtain ⟨u, ws, rfl, h1, h2⟩ := hr
    simp only [Q.setAt]
    exact Vals.setAt (h.set h1) h2
theorem run_storeCells_row {P : Program} {g : Nat} {t : TypeId} {z : Nat × Nat} : ∀ (us : List Value) (i o : Nat) (vs : List Value) (w : World), w.heap[g]? = some (.cells vs.toArray t z) → (z.1 = z.2 ∨ vs.length ≤ z.1) → o + i + us.length ≤ vs.length → (∀ v ∈ us, v.oneCell' = true) →
    ∃ w', (storeCells ⟨g, o, none⟩ us i).run P w = .ok () w' ∧ w'.heap[g]? = some (.cells (setAt vs (o + i) us).toArray t z) ∧ w'.heap.size = w.heap.size ∧ w'.os = w.os ∧ w'.tape = w.tape ∧ w'.output = w.output ∧ ∀ k, k ≠ g → w'.heap[k]? = w.heap[k]?
  | [], i, o, vs, w, hg, _, _, _ => ⟨w, by simp [storeCells], by simpa [setAt] using hg, rfl, rfl, rfl, rfl, fun _ _ => rfl⟩
  | u :: us, i, o, vs, w, hg, hz, hle, h1 => by
    have hcell : (w.cell? ⟨g, o + i, none⟩).isSome = true := by
      rw [cell_of hg]
      have : o + i < vs.length := by simp at hle; omega
      simp [this]
    have hfr : w.frozen? ⟨g, o + i, none⟩ = false := by
      obtain ⟨lo, hi⟩ := z
      simp only [List.length_cons] at hle
      simp only [World.frozen?, hg, Bool.and_eq_false_iff, decide_eq_false_iff_not]
      simp only at hz
      omega
    obtain ⟨v0, hv0⟩ := Option.isSome_iff_exists.1 hcell
    have hst : (store ⟨g, o + i, none⟩ u).run P w = .ok () (w.setCell ⟨g, o + i, none⟩ u) := by
      rw [run_store P w _ u _ (h1 u (by simp))]
      simp [hv0, hfr]
    have hg' : (w.setCell ⟨g, o + i, none⟩ u).heap[g]? = some (.cells (vs.set (o + i) u).toArray t z) := by
      simp [World.setCell, Array.getElem?_modify, hg]
    obtain ⟨w', hr, h2, h3, h4, h5, h6, h7⟩ := run_storeCells_row (P := P) us (i + 1) o (vs.set (o + i) u) (w.setCell ⟨g, o + i, none⟩ u) hg' (by simpa using hz) (by simp at hle ⊢; omega) (fun v hv => h1 v (by simp [hv]))
    refine ⟨w', ?_, by simpa [setAt, Nat.add_assoc] using h2, by rw [h3]; simp, h4, h5, h6, fun k hk => (h7 k hk).trans (RowKit.Below.heap_setCell w _ u k hk)⟩
    simp only [storeCells, Sem.run_bind, add_at, hst, Result.andThen]
    exact hr
/-- A store into cells of our own. -/
theorem s_store {t ct : TypeId} {x y : Operand} {i o n : Nat} {l r : List AVal} (ht : SzIs P t n) (hx : E.ev x = .ptr i o) (hc : M.at_ i = .cells ct l) (hr : (E.ev y).cells = some r) (hrn : r.length = n) (hin : Nat.ble (o + n) l.length = true) :
    DoesS P (.store t x y) ty E M [i] (M.set i (.cells ct (setAt l o r))) :=
  fun cx nt a w e hh he => by
    have hp := he.ev x; rw [hx] at hp; simp only [Val] at hp
    have hk := hh.ch i hp.1
    rw [hc] at hk
    obtain ⟨hvir, vs, hb, hvs, ho⟩ := hk
    obtain ⟨us, h1, h2, h3⟩ := cells_vals (he.ev y) hr
    have hlen : o + 0 + us.length ≤ vs.length := by
      rw [h2.length, hvs.length, hrn]
      simpa using hin
    obtain ⟨w', hrun, g1, g2, g3, g4, g5, g6⟩ := run_storeCells_row (P := P) us 0 o vs w hb (.inl rfl) hlen h3
    refine ⟨w', e, ?_, ?_, ⟨Nv.le.refl e, fun _ => Ro.le.refl _⟩, fun b _ hne => g6 b (fun hb => hne i (by simp) hp.1 (by rw [hc]; trivial) hb.symm), by rw [g2]; exact Nat.le_refl _⟩
    · have hsz : (a.eval y).cells.size = n := by rw [h1]; simp [h2.length, hrn]
      have hul : us.length = n := by rw [h2.length, hrn]
      simp [exec1, hul, execOp, hp.2.2, Instr.storeAt, Instr.sureAddr, storeVar, ht.run, hsz, h1, hrun]
    · refine hh.change hp.1 (by rw [hc]; trivial) g3 g4 g5 g2 g6 ⟨hvir, setAt vs o us, by simpa using g1, hvs.setAt h2, ?_⟩
      have : ∀ (us vs : List Value) (o : Nat), (∀ v ∈ us, v.oneCell' = true) → (∀ v ∈ vs, v.oneCell' = true) → ∀ v ∈ setAt vs o us, v.oneCell' = true := by
        intro us
        induction us with
        | nil => intro vs o _ h; exact h
        | cons u us ih =>
          intro vs o hu hv
          refine ih _ _ (fun v hv' => hu v (by simp [hv'])) (fun v hv' => ?_)
          rcases List.mem_or_eq_of_mem_set hv' with h | h
          · exact hv v h
          · rw [h]; exact hu u (by simp)
      exact this us vs o h3 ho
theorem setAt_list.{u} {α : Type u} : ∀ (us : List α) (cs : List α) (o : Nat), o + us.length ≤ cs.length → setAt cs o us = cs.take o ++ us ++ cs.drop (o + us.length)
  | [], cs, o, _ => by simp [setAt]
  | u :: us, cs, o, h => by
    have ho : o < cs.length := by simp at h; omega
    rw [setAt, setAt_list us _ _ (by simp at h ⊢; omega)]
    rw [List.take_set, List.drop_set_of_lt (by omega)]
    rw [show (cs.take (o + 1)).set o u = cs.take o ++ [u] by
      rw [List.take_succ_eq_append_getElem ho, List.set_append_right _ _ (by simp; omega)]
      simp [Nat.min_eq_left (Nat.le_of_lt ho)]]
    simp [Nat.add_comm, Nat.add_left_comm]
end
end Go.Q
namespace Go.Q
open Go
set_option linter.unusedVariables false
set_option linter.unusedSimpArgs false
/-- A slice type, with all that append asks of its elements. -/
structure ApIs (P : Program) (t el : TypeId) (n bytes : Nat) : Prop where
  t : P.underlying t = some (.slice el)
  h : ∃ i z, P.info? el = some i ∧ i.zero = some z ∧ i.size = n ∧ i.bytes = bytes ∧ z.cells.size = n
  n0 : 0 < n
  b0 : 0 < bytes
/-- What the second argument of an append yields. -/
def SrcOf (P : Program) (E : Env) (M : Mem) (x : Operand) (tx : TypeId) {α : Type} (R : Rd α) (xs : List α) : Prop :=
  ∀ cx nt a w e, Hold cx e M w → Emb nt e M E a → ∃ news, Src P R.sz tx (a.eval x) xs.length news w ∧ rows R e.m xs news
/-- A datum that holds no address. -/
def Rd.flat {α : Type} (R : Rd α) : Prop := ∀ m m' d cs, R.ok m d cs → R.ok m' d cs
theorem rows_flat {α : Type} {R : Rd α} (h : R.flat) {m m' : Ro} : ∀ {l : List α} {cs : List Value}, rows R m l cs → rows R m' l cs
  | [], _, _ => trivial
  | _ :: _, _, k => ⟨h _ _ _ _ k.1, rows_flat h k.2⟩
section
variable {P : Program} {ty : TypeId} {E : Env} {M : Mem} {tx el : TypeId} {x : Operand} {α : Type} {R : Rd α} {xs : List α}
theorem rows_one {m : Ro} : ∀ {l : List α} {cs : List Value}, rows R m l cs → cs.length = l.length * R.sz → ∀ v ∈ cs, v.oneCell' = true
  | [], cs, _, hn => by have : cs = [] := by simpa using hn
                        subst this; intro v hv; cases hv
  | d :: l, cs, h, hn => by
    intro v hv
    rw [← List.take_append_drop R.sz cs, List.mem_append] at hv
    rcases hv with hv | hv
    · exact R.one h.1 v hv
    · exact rows_one h.2 (by rw [List.length_drop, hn, List.length_cons, Nat.add_mul]; omega) v hv
theorem src_ro_core {b : Bool} {n : Nat} (h : SlIs P tx el n) (hb : b = false ∨ R.flat) (hx : E.ev x = .ro (Rd.slice R) b xs) : SrcOf P E M x tx R xs :=
  fun cx nt a w e hh he => by
    have hv := he.ev x; rw [hx] at hv; simp only [Val, Rd.slice] at hv
    rcases hv with ⟨rfl, ad, c, h1⟩ | ⟨bk, o, c, tt, fr, cap, h1, hc, h2, h3⟩
    · simp at h1
      rw [h1]
      refine ⟨[], ?_, trivial⟩
      exact ⟨.inl ⟨_, h.t⟩, fun _ => rfl, by cases ad <;> simp [Builtin.firstCells, loadCells, loadCellsFrom], by cases ad <;> simp [Builtin.firstCells, loadCells, loadCellsFrom], by simp, fun u hu => by cases hu⟩
    · simp at h1
      have hl := rows_len h3
      have hblk : w.heap[bk]? = some (.cells c tt fr) := (Agree.of_hold hh []).mem h2
      refine ⟨(c.toList.drop o).take (xs.length * R.sz), ?_, ?_⟩
      · rw [h1]
        refine Src.ofSlice w h.t ⟨bk, o, none⟩ xs.length cap _ (by simp at hl ⊢; omega) (fun j u hu => ?_) (fun u hu => rows_one (R := R) (l := xs) (rows_cut h3 (by rw [List.take_take, Nat.min_self])) (by simp at hl ⊢; omega) u hu)
        have hj : j < xs.length * R.sz := by
          have := (List.getElem?_eq_some_iff.1 hu).1
          simp at this; omega
        rw [List.getElem?_take_of_lt hj, List.getElem?_drop] at hu
        rw [add_at, cell_of hblk]
        simpa using hu
      · refine rows_cut (cs := c.toList.drop o) ?_ (by rw [List.take_take, Nat.min_self])
        rcases hb with rfl | hf
        · rw [Nv.mem_false] at h3; exact h3
        · exact rows_flat hf h3
theorem src_ro {n : Nat} (h : SlIs P tx el n) (hx : E.ev x = .ro (Rd.slice R) false xs) : SrcOf P E M x tx R xs := src_ro_core h (.inl rfl) hx
theorem src_row {n j : Nat} {ct : TypeId} (h : SlIs P tx el n) (hx : E.ev x = .whole j) (hc : M.at_ j = .row ct R xs) : SrcOf P E M x tx R xs :=
  fun cx nt a w e hh he => by
    have hv := he.ev x; rw [hx] at hv; simp only [Val] at hv
    have hk := hh.ch j hv.1
    rw [hc] at hk
    obtain ⟨g1, g2, g3, g4⟩ := hk
    have hv3 := hv.2.2
    cases hvir : e.vir j with
    | true =>
      rw [hvir] at hv3 g4
      simp only [if_true] at hv3 g4
      subst g4
      rw [hv3.1]
      exact ⟨[], Src.ofNil w h.t 0, trivial⟩
    | false =>
      rw [hvir] at hv3 g4
      simp only [Bool.false_eq_true, if_false] at hv3 g4
      obtain ⟨c, z, hb, _, hcs, hrow⟩ := g4
      have hl := rows_len hrow
      refine ⟨c.toList.take (xs.length * R.sz), ?_, rows_cut hrow (by rw [List.take_take, Nat.min_self])⟩
      rw [hv3, g1]
      refine Src.ofSlice w h.t ⟨e.own j, 0, none⟩ xs.length _ _ (by simp at hl ⊢; omega) (fun k u hu => ?_) (fun u hu => rows_one (R := R) (l := xs) (rows_cut hrow (by rw [List.take_take, Nat.min_self])) (by simp at hl ⊢; omega) u hu)
      have hj : k < xs.length * R.sz := by
        have := (List.getElem?_eq_some_iff.1 hu).1
        simp at this; omega
      rw [List.getElem?_take_of_lt hj] at hu
      rw [add_at, cell_of hb]
      simpa using hu
/-- Append onto a slice of our own. -/
theorem d_append {s : Operand} {t ct : TypeId} {n bytes i N : Nat} {l : List α} (h : ApIs P t el n bytes) (hn : R.sz = n) (hs : E.ev s = .whole i) (hc : M.at_ i = .row ct R l) (hct : ct = el) (hx : SrcOf P E M x tx R xs)
    (hlim : decide ((l.length + xs.length) * bytes ≤ 140737488355328) = true) (hN : M.n = N) :
    Does P (.call { callee := .builtin .append, args := #[s, x], argTypes := #[t, tx] }) ty E M [i] (.whole N) ((M.set i .gone).push (.row el R (l ++ xs))) :=
  fun cx nt a w e hh he => by
    subst hn hct
    have hlim' := of_decide_eq_true hlim
    obtain ⟨iT, z, hi, hz, hsz, hby, hzc⟩ := h.h
    have hv := he.ev s; rw [hs] at hv; simp only [Val] at hv
    have hk := hh.ch i hv.1
    rw [hc] at hk
    obtain ⟨g1, g2, g3, g4⟩ := hk
    obtain ⟨news, hsrc, hnews⟩ := hx cx nt a w e hh he
    have hnl : news.length = xs.length * R.sz := hsrc.newsLen
    have hsmall : l.length + xs.length ≤ 140737488355328 := by
      have : (l.length + xs.length) * 1 ≤ (l.length + xs.length) * bytes := Nat.mul_le_mul_left _ h.b0
      omega
    have hmax : l.length + xs.length ≤ maxLen := by simp only [maxLen]; omega
    have hnone : ∀ {m : Ro}, (∀ b o, m b = some o → w.heap[b]? = some o) → m w.heap.size = none := by
      intro m hm
      cases hx : m w.heap.size with
      | none => rfl
      | some o => have := (Array.getElem?_eq_some_iff.1 (hm _ _ hx)).1; omega
    have hrun0 : ∀ v r w', (Builtin.append_ #[t, tx] ty #[a.eval s, a.eval x]).run P w = .ok r w' → a.eval s = v → (exec1 a.eval (.call { callee := .builtin .append, args := #[s, x], argTypes := #[t, tx] }) ty).run P w = .ok (.value r) w' := by
      intro v r w' hr _
      simp [exec1, execOp, resolve, invoke, builtin, hr]
    have hdrop := hh.drop i
    -- a new row
    have grown : ∀ (old : Nat) (base : Option Addr) (olds : List Value), a.eval s = .slice base l.length old → old < l.length + xs.length → olds.length = l.length * R.sz → rows R e.m l olds →
        (Builtin.firstCells iT.size l.length (.slice base l.length old)).run P w.drew = .ok olds.toArray w.drew →
        ∃ x' w' e', (exec1 a.eval (.call { callee := .builtin .append, args := #[s, x], argTypes := #[t, tx] }) ty).run P w = .ok (.value x') w' ∧ Hold cx e' ((M.set i .gone).push (.row ct R (l ++ xs))) w' ∧ (e.le e' ∧ ∀ b, Ro.le (e.mem b) (e'.mem b)) ∧ Val e' (.whole N) x' ∧
          (∀ b, b < w.heap.size → (∀ j ∈ [i], j < e.n → (M.at_ j).live e j → e.own j ≠ b) → ∀ {_ : poolIx ∈ [i] → ¬ inPool e M b}, w'.heap[b]? = w.heap[b]?) ∧ w.heap.size ≤ w'.heap.size := by
      intro old base olds hev hlt hol hro hfc
      have hrun := run_append_grow_src (P := P) w t tx ty ct iT z h.t hi hz base l.length old olds hfc (a.eval x) xs.length news (by rw [hsz]; exact hsrc) (by omega) (by omega) (growslice_fits hlt (by rw [hby]; exact hlim'))
      have hge := grownCap_ge w (l.length + xs.length) old ct
      have hcm := grownCap_le_maxLen w (l.length + xs.length) old ct hmax
      generalize hcap : grownCap w (l.length + xs.length) old ct = cap at hrun hge hcm
      have hle := e.bump_le w.heap.size cap (l.length + xs.length) false
      have hm := fun b => e.bump_mem w.heap.size cap (l.length + xs.length) false b
      refine ⟨_, _, e.bump w.heap.size cap (l.length + xs.length), hrun0 _ _ _ (by rw [hev]; exact hrun) rfl, ?_, ⟨hle, hm⟩, ?_, ?_, by simp⟩
      · refine hdrop.bind rfl rfl rfl (by simp) (by simp) (fun k hk hlt => q_alloc_old w.drew _ k hlt) (fun j hj hl => Nat.ne_of_lt (hdrop.live j hj hl).1) hdrop.bag_new (hnone hh.ro) (hnone hh.bro) (.inr hh.size) ?_
        refine ⟨by simp [Nv.bump], by simp only [Nv.bump, if_true, List.length_append]; exact hge, by simp only [Nv.bump, if_true]; exact hcm, ?_⟩
        simp only [Nv.bump, if_true, Bool.false_eq_true, if_false]
        refine ⟨_, _, heap_alloc_new w.drew _, .inl rfl, ?_, ?_⟩
        · simp only [Array.size_append, List.size_toArray, List.length_append, size_zeroCells, hzc, hol, hnl, ← Nat.add_mul]
          congr 1; omega
        · rw [Array.toList_append]
          refine rows_cut (cs := olds ++ news) (rows_append hro hol hnews) ?_
          simp only [List.length_append, Nat.add_mul]
          rw [List.take_of_length_le (by simp [hol, hnl]), List.take_left' (by simp [hol, hnl])]
      · simp only [Val, Nv.bump, ← hN, ← hh.n, if_true, Bool.false_eq_true, if_false]
        exact ⟨Nat.lt_succ_self _, hge, trivial⟩
      · exact fun b hb _ => q_alloc_old w.drew _ b hb
    have hv3 := hv.2.2
    cases hvir : e.vir i with
    | true =>
      rw [hvir] at hv3 g4
      simp only [if_true] at hv3 g4
      subst g4
      by_cases h0 : xs = []
      · subst h0
        have hn0 : news = [] := List.eq_nil_of_length_eq_zero (by simpa using hnl)
        subst hn0
        have hle := e.bump_le 0 0 0 true
        have hm := fun b => e.bump_mem 0 0 0 true b
        refine ⟨.slice none 0 0, w, e.bump 0 0 0 true, hrun0 _ _ _ ?_ rfl, hdrop.bindVir, ⟨hle, hm⟩, ?_, fun b _ _ => rfl, Nat.le_refl _⟩
        · have hlen := hsrc.len
          rw [hv3.1]
          have hcl := hsrc.cells
          rw [← hsz] at hcl
          simp only [List.length_nil] at hcl hlen
          rcases hsrc.kind with ⟨e', hk⟩ | hk <;> simp [Builtin.append_, run_underlying h.t, run_underlying hk, sizeOf, typeInfo, hi, hlen, hcl]
        · simp only [Val, Nv.bump, ← hN, ← hh.n, if_true]
          exact ⟨Nat.lt_succ_self _, Nat.le_refl _, trivial, trivial⟩
      · have hpos : 0 < xs.length := List.length_pos_iff.2 h0
        exact grown 0 none [] (by simpa using hv3.1) (by simp; exact hpos) (by simp) trivial (by simp [Builtin.firstCells])
    | false =>
      rw [hvir] at hv3 g4
      simp only [Bool.false_eq_true, if_false] at hv3 g4
      rw [g1] at hv3
      obtain ⟨c, z, hb, hz, hcs, hrow⟩ := g4
      have hl := rows_len hrow
      by_cases hroom : l.length + xs.length ≤ e.caps i
      · -- in place
        have hfit : l.length * R.sz + news.length ≤ c.size := by rw [hnl, hcs, ← Nat.add_mul]; exact Nat.mul_le_mul_right _ hroom
        obtain ⟨w', hst, k1, k2, k3, k4, k5, k6⟩ := run_storeCells_row (P := P) news 0 (l.length * R.sz) c.toList w (by simpa using hb) (by simpa [thaw] using hz) (by simpa using hfit) hsrc.one
        have hlive : (M.at_ i).live e i := by rw [hc]; exact hvir
        have hli := hh.live i hv.1 hlive
        have hle := e.bump_le (e.own i) (e.caps i) (l.length + xs.length) false
        have hm := fun b => e.bump_mem (e.own i) (e.caps i) (l.length + xs.length) false b
        refine ⟨.slice (some ⟨e.own i, 0, none⟩) (l.length + xs.length) (e.caps i), w', e.bump (e.own i) (e.caps i) (l.length + xs.length), hrun0 _ _ _ ?_ rfl, ?_, ⟨hle, hm⟩, ?_, fun b _ hne => k6 b (fun hbb => hne i (by simp) hv.1 hlive hbb.symm), by rw [k2]; exact Nat.le_refl _⟩
        · rw [hv3]
          have hcl := hsrc.cells
          rw [← hsz] at hcl hst
          rcases hsrc.kind with ⟨e', hk⟩ | hk <;> simp [Builtin.append_, run_underlying h.t, run_underlying hk, sizeOf, typeInfo, hi, hsrc.len, hroom, hcl, Addr.add_lit, hst]
        · refine hdrop.bind k3 k4 k5 (by rw [k2]; exact Nat.le_refl _) (by rw [k2]; exact hli.1) (fun k hk _ => k6 k hk) (fun j hj hlj => ?_) ⟨fun j hj hm hb => hh.bag.own j hj (by rw [Mem.set_at] at hm; split at hm; exact absurd hm (by simp [Chunk.mark]); exact hm) _ hb i hv.1 hlive rfl, fun hp => hh.pool.notOwn hp hv.1 hlive rfl⟩ hli.2.1 hli.2.2.1 hli.2.2.2 ?_
          · intro hji
            rw [Mem.set_at] at hlj
            split at hlj
            · exact hlj.elim
            · rename_i hne
              exact hne (hh.dist j i hj hv.1 hlj hlive hji)
          · refine ⟨by simp [Nv.bump], by simp only [Nv.bump, if_true, List.length_append]; exact hroom, by simp only [Nv.bump, if_true]; exact g3, ?_⟩
            simp only [Nv.bump, if_true, Bool.false_eq_true, if_false]
            refine ⟨_, _, k1, by simpa [thaw, setAt_length] using hz, by simp [setAt_length, hcs], ?_⟩
            rw [Nat.add_zero, setAt_list news c.toList (l.length * R.sz) (by simpa using hfit)]
            refine rows_cut (cs := c.toList.take (l.length * R.sz) ++ news) (rows_append (rows_cut hrow (by rw [List.take_take, Nat.min_self])) (by simp at hl ⊢; omega) hnews) ?_
            simp only [List.length_append, Nat.add_mul, ← hnl]
            have hlen : (c.toList.take (l.length * R.sz) ++ news).length = l.length * R.sz + news.length := by simp at hl ⊢; omega
            rw [List.take_of_length_le (by omega), ← hlen, List.toList_toArray, List.take_left]
        · simp only [Val, Nv.bump, ← hN, ← hh.n, if_true, Bool.false_eq_true, if_false]
          exact ⟨Nat.lt_succ_self _, hroom, trivial⟩
      · -- a new row
        refine grown (e.caps i) (some ⟨e.own i, 0, none⟩) (c.toList.take (l.length * R.sz)) hv3 (by omega) (by simp at hl ⊢; omega) (rows_cut hrow (by rw [List.take_take, Nat.min_self])) ?_
        refine run_firstCells_some w.drew iT.size l.length ⟨e.own i, 0, none⟩ l.length _ _ (by rw [hsz]; simp at hl ⊢; omega) (fun k u hu => ?_)
        have hj : k < l.length * R.sz := by
          have := (List.getElem?_eq_some_iff.1 hu).1
          simp at this; omega
        rw [List.getElem?_take_of_lt hj] at hu
        have hb' : w.drew.heap[e.own i]? = some (.cells c ct z) := hb
        rw [add_at, cell_of hb']
        simpa using hu
/-- A name for nil: a row of our own that has no block yet. -/
theorem WPL.vir {cx : Cx} {fr : Fr} {ops : Array Oper} {os : List Oper} {Q : Ex → Env → Mem → Prop} (ct : TypeId) (R : Rd α) {N : Nat} (hN : M.n = N) (tt : Nat) (hv : E.v tt = .lit (.slice none 0 0))
    (k : WPL P cx fr ops os (E.upd tt (.whole N)) (M.push (.row ct R [])) Q) : WPL P cx fr ops os E M Q := by
  intro a w e hh he
  refine k a w (e.bump 0 0 0 true) hh.bindVir ?_
  have h1 : Emb fr.nt (e.bump 0 0 0 true) (M.push (.row ct R [])) E a := he.mono (e.bump_le 0 0 0 true) (fun b => e.bump_mem 0 0 0 true b)
  refine ⟨h1.sz, fun u => ?_, h1.d, h1.o⟩
  rw [Env.upd_v]
  split
  · rename_i hu
    subst hu
    have := h1.v u
    rw [hv] at this
    simp only [Val] at this
    rw [this]
    simp only [Val, Nv.bump, ← hN, ← hh.n, if_true]
    exact ⟨Nat.lt_succ_self _, Nat.le_refl _, trivial, trivial⟩
  · exact h1.v u
end
end Go.Q
namespace Go.Q
open Go
set_option linter.unusedVariables false
set_option linter.unusedSimpArgs false
/-- The parts laid into the cells. -/
def fillA (place : Nat → Option (Nat × Nat)) (E : Env) : List AVal → List (Nat × Operand) → Option (List AVal)
  | l, [] => some l
  | l, (i, x) :: ps =>
    match place i, (E.ev x).cells with
    | some (off, size), some r => bif Nat.beq r.length size && Nat.ble (off + size) l.length then fillA place E (setAt l off r) ps else none
    | _, _ => none
theorem foldl_set : ∀ (vs : List Value) (cs : Array Value) (off k : Nat), (vs.zipIdx k).foldl (fun cs (x : Value × Nat) => cs.setIfInBounds (off + x.2) x.1) cs = (setAt cs.toList (off + k) vs).toArray
  | [], cs, off, k => by simp [setAt]
  | v :: vs, cs, off, k => by
    rw [List.zipIdx_cons, List.foldl_cons, foldl_set vs _ off (k + 1), setAt]
    simp [Nat.add_assoc]
theorem fill_ok {P : Program} {nt : Nat} {e : Nv} {M : Mem} {E : Env} {a : Act} (he : Emb nt e M E a) {place : Nat → Option (Nat × Nat)} : ∀ (ps : List (Nat × Operand)) (l l' : List AVal) (cs : List Value), Vals e l cs → (∀ v ∈ cs, v.oneCell' = true) →
    fillA place E l ps = some l' → ∃ cs' : List Value, Instr.fill place cs.toArray (ps.map fun p => (p.1, a.eval p.2)) = some cs'.toArray ∧ Vals e l' cs' ∧ ∀ v ∈ cs', v.oneCell' = true
  | [], l, l', cs, h, ho, hf => by simp [fillA] at hf; subst hf; exact ⟨cs, by simp [Instr.fill], h, ho⟩
  | (i, x) :: ps, l, l', cs, h, ho, hf => by
    simp only [fillA] at hf
    cases hp : place i with
    | none => simp [hp] at hf
    | some os =>
      obtain ⟨off, size⟩ := os
      cases hr : (E.ev x).cells with
      | none => simp [hp, hr] at hf
      | some r =>
        rw [hp, hr] at hf
        simp only at hf
        cases hb : (Nat.beq r.length size && Nat.ble (off + size) l.length) with
        | false => rw [hb] at hf; simp at hf
        | true =>
          rw [hb] at hf
          simp only [cond_true] at hf
          simp only [Bool.and_eq_true, Nat.beq_eq, Nat.ble_eq] at hb
          obtain ⟨us, h1, h2, h3⟩ := cells_vals (he.ev x) hr
          have hul := h2.length
          have ho' : ∀ v ∈ setAt cs off us, v.oneCell' = true := by
            have : ∀ (us vs : List Value) (o : Nat), (∀ v ∈ us, v.oneCell' = true) → (∀ v ∈ vs, v.oneCell' = true) → ∀ v ∈ setAt vs o us, v.oneCell' = true := by
              intro us
              induction us with
              | nil => intro vs o _ h; exact h
              | cons u us ih =>
                intro vs o hu hv
                refine ih _ _ (fun v hv' => hu v (by simp [hv'])) (fun v hv' => ?_)
                rcases List.mem_or_eq_of_mem_set hv' with h | h
                · exact hv v h
                · rw [h]; exact hu u (by simp)
            exact this us cs off h3 ho
          obtain ⟨cs', g1, g2, g3⟩ := fill_ok (P := P) he ps _ l' (setAt cs off us) (h.setAt h2) ho' hf
          refine ⟨cs', ?_, g2, g3⟩
          rw [List.map_cons, Instr.fill, hp]
          simp only
          have hsz : (a.eval x).cells.size = size := by rw [h1]; simp [hul, hb.1]
          have hln := h.length
          rw [if_neg (by
            simp only [hsz, ne_eq, not_true_eq_false, decide_false, Bool.false_or, decide_eq_true_eq]
            simp only [List.size_toArray]
            omega)]
          have : (a.eval x).cells.zipIdx.foldl (fun cs (y : Value × Nat) => cs.setIfInBounds (off + y.2) y.1) cs.toArray = (setAt cs off us).toArray := by
            rw [h1]
            have := foldl_set us cs.toArray off 0
            simp only [List.toList_toArray, Nat.add_zero] at this
            rw [← this]
            simp [← Array.foldl_toList]
          rw [this]
          exact g1
/-- What a composite is built of. -/
structure BuildIs (P : Program) (t : TypeId) (place : Nat → Option (Nat × Nat)) (zs : List Value) : Prop where
  h : ∀ parts cells, Instr.fill place zs.toArray parts = some cells → P.built t parts = some cells
  one : ∀ v ∈ zs, v.oneCell' = true
def placeOf (l : List (Nat × Nat)) (i : Nat) : Option (Nat × Nat) := l[i]?
theorem BuildIs.struct {P : Program} {t : TypeId} {it : TypeInfo} {fs : Array Field} {z : Value} {places : List (Nat × Nat)} {zs : List Value} (hi : P.info? t = some it) (hu : P.underlying t = some (.struct fs)) (hz : it.zero = some z)
    (hp : fs.toList.mapM (fun f => (P.info? f.type).map fun i => (f.offset, i.size)) = some places) (hc : z.cells = zs.toArray) (h1 : ∀ v ∈ zs, v.oneCell' = true) : BuildIs P t (placeOf places) zs :=
  ⟨fun parts cells hf => by
    simp only [Program.built, hi, hu, hz, hp]
    rw [hc]
    have : (fun x => places.toArray[x]?) = placeOf places := by funext i; simp [placeOf]
    rw [this]; exact hf, h1⟩
def placeAt (n i : Nat) : Option (Nat × Nat) := some (i * n, n)
theorem BuildIs.array {P : Program} {t el : TypeId} {len : Nat} {it ie : TypeInfo} {z : Value} {zs : List Value} {n : Nat} (hi : P.info? t = some it) (hu : P.underlying t = some (.array len el)) (hz : it.zero = some z)
    (he : P.info? el = some ie) (hn : ie.size = n) (hc : z.cells = zs.toArray) (h1 : ∀ v ∈ zs, v.oneCell' = true) : BuildIs P t (placeAt n) zs :=
  ⟨fun parts cells hf => by
    simp only [Program.built, hi, hu, hz, he]
    rw [hc, hn]
    exact hf, h1⟩
section
variable {P : Program} {ty : TypeId} {E : Env} {M : Mem}
theorem q_build {t : TypeId} {place : Nat → Option (Nat × Nat)} {zs : List Value} {ps : Array (Nat × Operand)} {l : List AVal} (h : BuildIs P t place zs) (hf : fillA place E (zs.map AVal.lit) ps.toList = some l) :
    Quiet P (.build t ps) ty E M [] (.agg l) :=
  fun cx nt a w e hh he => by
    obtain ⟨cs, h1, h2, h3⟩ := fill_ok (P := P) he ps.toList _ l zs (vals_lits e zs) h.one hf
    refine ⟨.agg cs.toArray, ?_, fun w1 hw => ?_⟩
    · simp only [Val]; exact ⟨cs, rfl, h2, h3⟩
    · have : P.built t (ps.map fun (i, x) => (i, a.eval x)).toList = some cs.toArray := h.h _ _ (by simpa using h1)
      simp [exec1, execOp, run_build w1 t _ _ this]
/-- The cells of a row, datum by datum. -/
def JoinRows {α : Type} (R : Rd α) (ds : List α) (l : List AVal) : Prop := l.length = ds.length * R.sz ∧ ∀ e cs, Vals e l cs → (∀ v ∈ cs, v.oneCell' = true) → rows R e.m ds cs
theorem JoinRows.nil {α : Type} {R : Rd α} : JoinRows R [] [] := ⟨by simp, fun _ _ _ _ => trivial⟩
theorem JoinRows.cons {α : Type} {R : Rd α} {d : α} {ds : List α} {l l' : List AVal} (h : Joins R false d l) (hl : l.length = R.sz) (h' : JoinRows R ds l') : JoinRows R (d :: ds) (l ++ l') := by
  refine ⟨by rw [List.length_append, hl, h'.1, List.length_cons, Nat.add_mul]; omega, fun e cs hk ho => ?_⟩
  have h1 := hk.take l.length
  have h2 := hk.drop l.length
  rw [List.take_left] at h1
  rw [List.drop_left] at h2
  rw [hl] at h1 h2
  have := h e _ h1 (fun v hv => ho v (List.mem_of_mem_take hv))
  rw [Nv.mem_false] at this
  exact ⟨this, h'.2 e _ h2 (fun v hv => ho v (List.mem_of_mem_drop hv))⟩
theorem JoinRows.cons1 {α : Type} {R : Rd α} {d : α} {ds : List α} {a : AVal} {l' : List AVal} (h : Joins R false d [a]) (hl : R.sz = 1) (h' : JoinRows R ds l') : JoinRows R (d :: ds) (a :: l') := JoinRows.cons (l := [a]) h (by simp [hl]) h'
/-- A slice literal. -/
structure LitIs (P : Program) (t el : TypeId) (n : Nat) (zs : List Value) : Prop where
  t : P.underlying t = some (.slice el)
  h : ∃ i z, P.info? el = some i ∧ i.zero = some z ∧ i.size = n ∧ z.cells = zs.toArray
  one : ∀ v ∈ zs, v.oneCell' = true
def zerosA (zs : List Value) : Nat → List AVal
  | 0 => []
  | k + 1 => zs.map AVal.lit ++ zerosA zs k
theorem made_list (zs : List Value) (n : Nat) (hn : zs.length = n) (h0 : 0 < n) : ∀ k, ((Array.range (k * n)).map (zs.toArray[· % zs.toArray.size]!)).toList = (List.replicate k zs).flatten
  | 0 => by simp
  | k + 1 => by
    have ih := made_list zs n hn h0 k
    rw [Array.toList_map, Array.toList_range] at ih ⊢
    rw [Nat.add_mul, Nat.one_mul, List.range_add, List.map_append, ih, List.replicate_succ', List.flatten_append, List.map_map]
    congr 1
    simp only [List.flatten_cons, List.flatten_nil, List.append_nil]
    apply List.ext_getElem
    · simp [hn]
    · intro j h1 h2
      have hj : (k * n + j) % n = j := by rw [Nat.add_comm, Nat.add_mul_mod_self_right, Nat.mod_eq_of_lt (by omega)]
      have hj' : (k * n + j) % zs.toArray.size = j := by rw [List.size_toArray, hn]; exact hj
      simp only [List.getElem_map, List.getElem_range, Function.comp]
      rw [hj', getElem!_pos _ _ (by simpa using h2)]
      simp
theorem zerosA_vals (e : Nv) (zs : List Value) : ∀ k, Vals e (zerosA zs k) (List.replicate k zs).flatten
  | 0 => by simp [zerosA, Vals]
  | k + 1 => by
    rw [zerosA, List.replicate_succ, List.flatten_cons]
    exact (vals_lits e zs).append (zerosA_vals e zs k)
theorem hnone {w : World} {m : Ro} (hm : ∀ b o, m b = some o → w.heap[b]? = some o) : m w.heap.size = none := by
  cases hx : m w.heap.size with
  | none => rfl
  | some o => have := (Array.getElem?_eq_some_iff.1 (hm _ _ hx)).1; omega
/-- A new row at the end of the heap. -/
theorem Hold.newRow {cx : Cx} {e : Nv} {w : World} (hh : Hold cx e M w) {α : Type} {R : Rd α} {el : TypeId} {ds : List α} {cs : List Value} {cap : Nat} (hcap : ds.length ≤ cap) (hmax : cap ≤ maxLen) (hl : cs.length = cap * R.sz) (hr : rows R e.m ds cs) :
    Hold cx (e.bump w.heap.size cap ds.length) (M.push (.row el R ds)) (w.alloc (.cells cs.toArray el)) := by
  refine hh.bind rfl rfl rfl (by simp) (by simp) (fun k hk hlt => q_alloc_old w _ k hlt) (fun i hi hl => Nat.ne_of_lt (hh.live i hi hl).1) hh.bag_new (hnone hh.ro) (hnone hh.bro) (.inr hh.size) ?_
  refine ⟨by simp [Nv.bump], by simpa [Nv.bump] using hcap, by simpa [Nv.bump] using hmax, ?_⟩
  simp only [Nv.bump, if_true, Bool.false_eq_true, if_false]
  exact ⟨_, _, heap_alloc_new w _, .inl rfl, by simpa using hl, hr⟩
theorem d_buildSlice {α : Type} {R : Rd α} {t el : TypeId} {n len N : Nat} {zs : List Value} {ps : Array (Nat × Operand)} {l : List AVal} {ds : List α} (h : LitIs P t el n zs) (hn : R.sz = n) (hn0 : Nat.blt 0 n = true) (hsmall : Nat.ble (len * n) 16777216 = true) (hzl : Nat.beq zs.length n = true)
    (hf : fillA (placeAt n) E (zerosA zs len) ps.toList = some l) (hj : JoinRows R ds l) (hds : ds.length = len) (hN : M.n = N) :
    Does P (.buildSlice t len ps) ty E M [] (.whole N) (M.push (.row el R ds)) :=
  fun cx nt a w e hh he => by
    obtain ⟨i, z, h1, h2, h3, h4⟩ := h.h
    have hn0' : 0 < n := by simpa using hn0
    have hzl' : zs.length = n := by simpa using hzl
    have hsm' : len * n ≤ 16777216 := by simpa using hsmall
    have hmade := made_list zs n hzl' hn0' len
    have hone : ∀ v ∈ (List.replicate len zs).flatten, v.oneCell' = true := by
      intro v hv
      obtain ⟨l1, hl1, hv1⟩ := List.mem_flatten.1 hv
      rw [List.eq_of_mem_replicate hl1] at hv1
      exact h.one v hv1
    obtain ⟨cs, g1, g2, g3⟩ := fill_ok (P := P) he ps.toList _ l _ (zerosA_vals e zs len) hone hf
    have hcl : cs.length = len * R.sz := by rw [g2.length, hj.1, hds]
    have hle := e.bump_le w.heap.size len len false
    have hm := fun b => e.bump_mem w.heap.size len len false b
    have hlen : len ≤ maxLen := by
      have : len * 1 ≤ len * n := Nat.mul_le_mul_left _ hn0'
      simp only [maxLen]; omega
    have hnew : Hold cx (e.bump w.heap.size len len) (M.push (.row el R ds)) (w.alloc (.cells cs.toArray el)) := by
      have := hh.newRow (R := R) (el := el) (ds := ds) (cs := cs) (cap := len) (by rw [hds]; exact Nat.le_refl _) hlen hcl (hj.2 e cs g2 g3)
      rw [hds] at this; exact this
    have g1' : Instr.fill (fun j => some (j * i.size, i.size)) ((Array.range (len * i.size)).map (z.cells[· % z.cells.size]!)) (ps.map fun (j, x) => (j, a.eval x)).toList = some cs.toArray := by
      rw [h3, h4]
      rw [← hmade] at g1
      have e1 : (ps.map fun (j, x) => (j, a.eval x)).toList = ps.toList.map fun p => (p.1, a.eval p.2) := by simp
      rw [e1]
      exact g1
    refine ⟨.slice (some ⟨w.heap.size, 0, none⟩) len len, w.alloc (.cells cs.toArray el), e.bump w.heap.size len len, ?_, hnew, ⟨hle, hm⟩, ?_, fun b hb _ => q_alloc_old w _ b hb, by simp⟩
    · have hsm : ¬ (len * i.size > 2 ^ 24) := by rw [h3]; omega
      by_cases h0 : len * i.size = 0
      · have hl0 : len = 0 := by
          rcases Nat.eq_zero_or_pos len with h | h
          · exact h
          · have := Nat.mul_pos h hn0'; rw [h3] at h0; omega
        subst hl0
        simp only [Nat.zero_mul] at g1'
        have e0 : Array.range 0 = #[] := rfl
        rw [e0, Array.map_empty, Array.toList_map] at g1'
        simp only [exec1, execOp, Instr.buildSlice, Sem.run_bind, run_underlying h.t, Result.andThen, sizeOf, typeInfo, run_program, h1, Sem.run_pure, Nat.zero_mul]
        simp [e0, g1', Go.newRow]
      · have := run_buildSlice (P := P) w t el len (ps.map fun (j, x) => (j, a.eval x)) cs.toArray i z h.t h1 h2 hsm h0 g1'
        simp [exec1, execOp, this]
    · simp only [Val, Nv.bump, ← hN, ← hh.n, if_true, Bool.false_eq_true, if_false]
      exact ⟨Nat.lt_succ_self _, Nat.le_refl _, trivial⟩
theorem rows_replicate {α : Type} {R : Rd α} {m : Ro} {d : α} {zs : List Value} (h : R.ok m d zs) : ∀ (k : Nat) (r : List Value), rows R m (List.replicate k d) ((List.replicate k zs).flatten ++ r)
  | 0, _ => trivial
  | k + 1, r => by
    rw [List.replicate_succ, List.replicate_succ, List.flatten_cons, List.append_assoc]
    refine ⟨by rw [List.take_left' (R.len h)]; exact h, ?_⟩
    rw [List.drop_left' (R.len h)]
    exact rows_replicate h k r
end
end Go.Q
namespace Go.Q
open Go
set_option linter.unusedVariables false
set_option linter.unusedSimpArgs false
mutual
/-- Names changed. -/
def AVal.ren (s : Nat → Nat) : AVal → AVal
  | .any => .any
  | .lit v => .lit v
  | .ptr i off => .ptr (s i) off
  | .opt c i off => .opt c (s i) off
  | .mp i => .mp (s i)
  | .whole i => .whole (s i)
  | .sl i sz off len => .sl (s i) sz off len
  | .ro R b d => .ro R b d
  | .fn f l => .fn f (renL s l)
  | .agg l => .agg (renL s l)
  | .tup l => .tup (renL s l)
  | .ifc t a => .ifc t (AVal.ren s a)
def renL (s : Nat → Nat) : List AVal → List AVal
  | [] => []
  | a :: l => AVal.ren s a :: renL s l
end
mutual
/-- All names are below a bound. -/
def AVal.under (n : Nat) : AVal → Bool
  | .ptr i _ => Nat.blt i n
  | .opt _ i _ => Nat.blt i n
  | .mp i => Nat.blt i n
  | .whole i => Nat.blt i n
  | .sl i _ _ _ => Nat.blt i n
  | .fn _ l => underL n l
  | .agg l => underL n l
  | .tup l => underL n l
  | .ifc _ a => AVal.under n a
  | _ => true
def underL (n : Nat) : List AVal → Bool
  | [] => true
  | a :: l => AVal.under n a && underL n l
end
/-- The naming under changed names. -/
def Nv.re (e : Nv) (s : Nat → Nat) (n : Nat) : Nv :=
  { e with own := fun i => e.own (s i), caps := fun i => e.caps (s i), lens := fun i => e.lens (s i), vir := fun i => e.vir (s i), n := n, bag := fun i => e.bag (s i) }
mutual
theorem Val.re {e : Nv} {s : Nat → Nat} {n : Nat} : ∀ {a : AVal} {v : Value}, Val e (a.ren s) v → a.under n = true → Val (e.re s n) a v
  | .any, _, _, _ => by simp [Val]
  | .lit _, _, h, _ => by simpa [Val, AVal.ren] using h
  | .ptr i off, v, h, hb => by
    simp only [AVal.ren, Val] at h
    simp only [AVal.under, Nat.blt_eq] at hb
    simp only [Val, Nv.re]
    exact ⟨hb, h.2⟩
  | .opt c i off, v, h, hb => by
    simp only [AVal.ren, Val] at h
    simp only [AVal.under, Nat.blt_eq] at hb
    simp only [Val, Nv.re]
    exact ⟨hb, h.2⟩
  | .mp i, v, h, hb => by
    simp only [AVal.ren, Val] at h
    simp only [AVal.under, Nat.blt_eq] at hb
    simp only [Val, Nv.re]
    exact ⟨hb, h.2⟩
  | .whole i, v, h, hb => by
    simp only [AVal.ren, Val] at h
    simp only [AVal.under, Nat.blt_eq] at hb
    simp only [Val, Nv.re]
    exact ⟨hb, h.2⟩
  | .sl i sz off len, v, h, hb => by
    simp only [AVal.ren, Val] at h
    simp only [AVal.under, Nat.blt_eq] at hb
    simp only [Val, Nv.re]
    exact ⟨hb, h.2⟩
  | .ro R b d, v, h, _ => by
    simp only [AVal.ren, Val] at h
    simp only [Val]
    exact h
  | .fn f l, v, h, hb => by
    simp only [AVal.ren, Val] at h
    simp only [AVal.under] at hb
    obtain ⟨vs, h1, h2⟩ := h
    simp only [Val]
    exact ⟨vs, h1, Vals.re h2 hb⟩
  | .agg l, v, h, hb => by
    simp only [AVal.ren, Val] at h
    simp only [AVal.under] at hb
    obtain ⟨vs, h1, h2, h3⟩ := h
    simp only [Val]
    exact ⟨vs, h1, Vals.re h2 hb, h3⟩
  | .tup l, v, h, hb => by
    simp only [AVal.ren, Val] at h
    simp only [AVal.under] at hb
    obtain ⟨vs, h1, h2⟩ := h
    simp only [Val]
    exact ⟨vs, h1, Vals.re h2 hb⟩
  | .ifc t a, v, h, hb => by
    simp only [AVal.ren, Val] at h
    simp only [AVal.under] at hb
    obtain ⟨x, h1, h2⟩ := h
    simp only [Val]
    exact ⟨x, h1, Val.re h2 hb⟩
theorem Vals.re {e : Nv} {s : Nat → Nat} {n : Nat} : ∀ {l : List AVal} {vs : List Value}, Vals e (renL s l) vs → underL n l = true → Vals (e.re s n) l vs
  | [], _, h, _ => by simpa [Vals, renL] using h
  | a :: l, vs, h, hb => by
    simp only [renL, Vals] at h
    simp only [underL, Bool.and_eq_true] at hb
    obtain ⟨v, ws, h1, h2, h3⟩ := h
    simp only [Vals]
    exact ⟨v, ws, h1, Val.re h2 hb.1, Vals.re h3 hb.2⟩
end
def Chunk.ren (s : Nat → Nat) : Chunk → Chunk
  | .gone => .gone
  | .cells t l => .cells t (renL s l)
  | .row t R l => .row t R l
  | .rowt t R l a => .rowt t R l (a.ren s)
  | .obj o => .obj o
  | .bag => .bag
  | .dict fk R l x => .dict fk R l x
  | .iter j c es seen fk R rem => .iter (s j) c es seen fk R rem
def Chunk.under (n : Nat) : Chunk → Bool
  | .cells _ l => underL n l
  | .rowt _ _ _ a => a.under n
  | .iter j .. => Nat.blt j n
  | _ => true
theorem Chunk.re {e : Nv} {s : Nat → Nat} {n : Nat} {w : World} {i : Nat} {c : Chunk} (h : (c.ren s).ok e w (s i)) (hb : c.under n = true) : c.ok (e.re s n) w i := by
  cases c with
  | gone => trivial
  | cells t l =>
    obtain ⟨h0, vs, h1, h2, h3⟩ := h
    exact ⟨h0, vs, h1, Vals.re h2 hb, h3⟩
  | row t R l => exact h
  | rowt t R l a =>
    obtain ⟨h1, h2, h3, h4, h5, c, z, hb', hz, h6, h7, v, h8, h9, h10⟩ := h
    exact ⟨h1, h2, h3, h4, h5, c, z, hb', hz, h6, h7, v, h8, Val.re h9 hb, h10⟩
  | obj o => exact h
  | bag => exact h
  | dict fk R l x => exact h
  | iter j c es seen fk R rem =>
    obtain ⟨h0, ⟨_, h2⟩, h3, h4⟩ := h
    exact ⟨h0, ⟨(by simpa [Chunk.under, Nat.blt_eq] using hb : j < n), h2⟩, h3, h4⟩
theorem Chunk.live_re {e : Nv} {s : Nat → Nat} {n : Nat} {i : Nat} {c : Chunk} : c.live (e.re s n) i ↔ (c.ren s).live e (s i) := by
  cases c <;> simp [Chunk.live, Chunk.ren, Nv.re]
def AllLt : Nat → (Nat → Prop) → Prop
  | 0, _ => True
  | n + 1, p => AllLt n p ∧ p n
theorem AllLt.get {p : Nat → Prop} : ∀ {n i : Nat}, AllLt n p → i < n → p i
  | 0, i, _, h => absurd h (Nat.not_lt_zero _)
  | n + 1, i, h, hi => by
    rcases Nat.lt_or_ge i n with h1 | h1
    · exact AllLt.get h.1 h1
    · have : i = n := by omega
      subst this; exact h.2
def sub (l : List Nat) (i : Nat) : Nat := l.getD i 0
/-- How chunks are told anew. -/
structure LeM (l : List Nat) (p : Nat) (M M' : Mem) : Prop where
  len : Nat.beq l.length M'.n = true
  ok : AllLt M'.n fun i => M'.at_ i = .gone ∨ (Nat.blt (sub l i) M.n = true ∧ M.at_ (sub l i) = (M'.at_ i).ren (sub l) ∧ (M'.at_ i).under M'.n = true)
  inj : l.Nodup
  np : Nat.ble p M'.n = true
  pin : AllLt p fun i => sub l i = i
  pool : M'.pool = M.pool := by rfl
/-- How what is in temporaries is told anew. -/
def LeV (l : List Nat) (n : Nat) (f f' : Nat → AVal) : Prop := ∀ t, f' t = .any ∨ (f t = (f' t).ren (sub l) ∧ (f' t).under n = true)
structure LeP (l : List Nat) (n : Nat) (p p' : OEnv) : Prop where
  a : p'.a = p.a
  v : LeV l n p.v p'.v
  d : p.d = p'.d.map (sub l)
  db : (p'.d.all fun i => Nat.blt i n) = true
  lk : p.lk = p'.lk.map fun x => (sub l x.1, x.2)
  lkb : (match p'.lk with | some x => Nat.blt x.1 n | none => true) = true
inductive LeO (l : List Nat) (n : Nat) : List OEnv → List OEnv → Prop
  | nil : LeO l n [] []
  | cons {p p' : OEnv} {r r' : List OEnv} : LeP l n p p' → LeO l n r r' → LeO l n (p :: r) (p' :: r')
structure LeE (l : List Nat) (n : Nat) (E E' : Env) : Prop where
  v : LeV l n E.v E'.v
  d : E.d = E'.d.map (sub l)
  db : (E'.d.all fun i => Nat.blt i n) = true
  o : LeO l n E.o E'.o
  b : E.b = E'.b
theorem LeV.none {l : List Nat} {n : Nat} {f : Nat → AVal} : LeV l n f fun _ => .any := fun _ => .inl rfl
theorem LeE.none {l : List Nat} {n : Nat} {E : Env} (h : E.d = []) (ho : (E.o, E.b) = ([], [])) : LeE l n E Env.none := ⟨LeV.none, by rw [h]; rfl, rfl, by rw [(Prod.mk.inj ho).1]; exact .nil, (Prod.mk.inj ho).2⟩
theorem LeV.upd {l : List Nat} {n t : Nat} {f : Nat → AVal} {E' : Env} {a : AVal} (h : f t = a.ren (sub l)) (hb : a.under n = true) (k : LeV l n f E'.v) : LeV l n f (E'.upd t a).v := by
  intro u
  rw [Env.upd_v]
  split
  · rename_i hu; subst hu; exact .inr ⟨h, hb⟩
  · exact k u
theorem LeE.upd {l : List Nat} {n t : Nat} {E E' : Env} {a : AVal} (h : E.v t = a.ren (sub l)) (hb : a.under n = true) (k : LeE l n E E') : LeE l n E (E'.upd t a) :=
  ⟨LeV.upd h hb k.v, k.d, k.db, k.o, k.b⟩
theorem marks_re {e : Nv} {M M' : Mem} {l : List Nat} {n : Nat} : ∀ {d : List Nat} {ds : List Deferred}, marks e M (d.map (sub l)) ds → (d.all fun i => Nat.blt i n) = true → marks (e.re (sub l) n) M' d ds
  | [], _, h, _ => h
  | i :: d, ds, h, hb => by
    obtain ⟨r, h1, h2, h3⟩ := h
    simp only [List.all_cons, Bool.and_eq_true, Nat.blt_eq] at hb
    exact ⟨r, h1, hb.1, marks_re h3 hb.2⟩
theorem okO_re {e : Nv} {M M' : Mem} {l : List Nat} {n : Nat} {p p' : OEnv} (h : okO e M p) (k : LeP l n p p') : okO (e.re (sub l) n) M' p' := by
  refine ⟨fun t => ?_, ?_, fun i b hi => ?_⟩
  · rcases k.v t with h0 | ⟨h1, h2⟩
    · rw [h0]; simp [Val]
    · have := h.v t
      rw [h1] at this
      rw [k.a]
      exact this.re h2
  · rw [k.a]
    have := h.d
    rw [k.d] at this
    exact marks_re this k.db
  · have h1 := k.lk
    have h2 := k.lkb
    rw [hi] at h1 h2
    simp only [Option.map_some] at h1
    exact ⟨(by show i < n; simpa using h2), (h.lk _ _ h1).2⟩
theorem okOs_re {e : Nv} {M M' : Mem} {l : List Nat} {n : Nat} {o o' : List OEnv} (k : LeO l n o o') : (∀ p ∈ o, okO e M p) → ∀ p ∈ o', okO (e.re (sub l) n) M' p := by
  induction k with
  | nil => intro _ p hp; cases hp
  | cons hp _ ih =>
    intro h q hq
    rcases List.mem_cons.1 hq with rfl | hq
    · exact okO_re (h _ (by simp)) hp
    · exact ih (fun x hx => h x (by simp [hx])) q hq
section
variable {cx : Cx} {e : Nv} {M M' : Mem} {w : World} {E E' : Env} {nt : Nat} {a : Act} {l : List Nat}
theorem LeM.inj' {np : Nat} (h : LeM l np M M') {i j : Nat} (hi : i < M'.n) (hj : j < M'.n) (hij : sub l i = sub l j) : i = j := by
  have hl : l.length = M'.n := by simpa using h.len
  unfold sub at hij
  rw [List.getD_eq_getElem?_getD, List.getD_eq_getElem?_getD, List.getElem?_eq_getElem (by omega), List.getElem?_eq_getElem (by omega)] at hij
  simp only [Option.getD_some] at hij
  have hp := List.pairwise_iff_getElem.1 h.inj
  rcases Nat.lt_trichotomy i j with h1 | h1 | h1
  · exact absurd hij (hp i j (by omega) (by omega) h1)
  · exact h1
  · exact absurd hij.symm (hp j i (by omega) (by omega) h1)
theorem Hold.re {np : Nat} (h : Hold cx e M w) (hnp : cx.np = np) (hM : LeM l np M M') : Hold cx (e.re (sub l) M'.n) M' w := by
  have live_of : ∀ i, i < M'.n → (M'.at_ i).live (e.re (sub l) M'.n) i → sub l i < e.n ∧ (M.at_ (sub l i)).live e (sub l i) := by
    intro i hi hl
    rcases hM.ok.get hi with h0 | ⟨h1, h2, _⟩
    · rw [h0] at hl; exact hl.elim
    · refine ⟨by rw [h.n]; simpa using h1, ?_⟩
      rw [h2]
      exact Chunk.live_re.1 hl
  have mk : ∀ i, i < M'.n → (M'.at_ i).mark = true → sub l i < e.n ∧ (M.at_ (sub l i)).mark = true := by
    intro i hi hm
    rcases hM.ok.get hi with h0 | ⟨h1, h2, _⟩
    · rw [h0] at hm; cases hm
    · refine ⟨by rw [h.n]; simpa using h1, ?_⟩
      rw [h2]
      cases hc : M'.at_ i <;> rw [hc] at hm <;> first | exact hm | cases hm
  refine ⟨h.bm, rfl, h.size, h.os, h.tape, h.output, h.frame, h.ro, h.bro, h.m0, h.mnew, ?_, ?_, ?_, ?_, ?_, ?_, ?_⟩
  · intro i hi
    rcases hM.ok.get hi with h0 | ⟨h1, h2, h3⟩
    · rw [h0]; trivial
    · refine Chunk.re ?_ h3
      rw [← h2]
      exact h.ch _ (by rw [h.n]; simpa using h1)
  · intro i hi hl
    obtain ⟨h1, h2⟩ := live_of i hi hl
    exact h.live _ h1 h2
  · intro i j hi hj hli hlj hij
    obtain ⟨h1, h2⟩ := live_of i hi hli
    obtain ⟨h3, h4⟩ := live_of j hj hlj
    exact hM.inj' hi hj (h.dist _ _ h1 h3 h2 h4 hij)
  · rw [hnp]; show np ≤ M'.n; simpa using hM.np
  · intro i hi
    have := hM.pin.get (i := i) (by rw [← hnp]; exact hi)
    simp only [Nv.re, this]
    exact h.pin i hi
  · refine ⟨fun i hi hm => ?_, fun i hi hm x hx => ?_, fun i hi hm x hx j hj hlj => ?_, fun i j hi hj hmi hmj hij x hx => ?_⟩
    · obtain ⟨h1, h2⟩ := mk i hi hm
      exact h.bag.nodup _ h1 h2
    · obtain ⟨h1, h2⟩ := mk i hi hm
      exact h.bag.at_ _ h1 h2 x hx
    · obtain ⟨h1, h2⟩ := mk i hi hm
      obtain ⟨h3, h4⟩ := live_of j hj hlj
      exact h.bag.own _ h1 h2 x hx _ h3 h4
    · obtain ⟨h1, h2⟩ := mk i hi hmi
      obtain ⟨h3, h4⟩ := mk j hj hmj
      exact h.bag.dist _ _ h1 h3 h2 h4 (fun he => hij (hM.inj' hi hj he)) x hx
  · refine h.pool.keep hM.pool rfl (Ro.le.refl _) (fun x hx => ⟨rfl, (h.pool.isFree hx).1, (h.pool.isFree hx).2.1⟩) (fun x hx j hj hlj => ?_) (fun x hx j hj hm => ?_)
    · obtain ⟨h3, h4⟩ := live_of j hj hlj
      exact h.pool.notOwn hx h3 h4
    · obtain ⟨h1, h2⟩ := mk j hj hm
      exact h.pool.notBag hx h1 h2
theorem Emb.re {np : Nat} (he : Emb nt e M E a) (hM : LeM l np M M') (hE : LeE l M'.n E E') : Emb nt (e.re (sub l) M'.n) M' E' a := by
  refine ⟨he.sz, fun t => ?_, ?_, okOs_re hE.o he.o⟩
  · rcases hE.v t with h0 | ⟨h1, h2⟩
    · rw [h0]; simp [Val]
    · have := he.v t
      rw [h1] at this
      exact this.re h2
  · obtain ⟨r, h1, h2⟩ := he.d
    rw [hE.d] at h2
    exact ⟨r, by rw [← hE.b]; exact h1, marks_re h2 hE.db⟩
end
section
variable {P : Program} {cx : Cx} {fr : Fr} {ops : Array Oper} {os : List Oper} {E E' : Env} {M M' : Mem} {Q : Ex → Env → Mem → Prop} {c : Code}
/-- The state told anew. -/
theorem WPL.weak {np : Nat} (l : List Nat) (hnp : cx.np = np) (hM : LeM l np M M') (hE : LeE l M'.n E E') (k : WPL P cx fr ops os E' M' Q) : WPL P cx fr ops os E M Q :=
  fun a w e hh he => k a w _ (hh.re hnp hM) (he.re hM hE)
theorem WP.weak {np : Nat} (l : List Nat) (hnp : cx.np = np) (hM : LeM l np M M') (hE : LeE l M'.n E E') (k : WP P cx fr c E' M' Q) : WP P cx fr c E M Q :=
  fun a w e hh he => k a w _ (hh.re hnp hM) (he.re hM hE)
end
theorem nbeq_false {i j : Nat} (h : j ≠ i) : Nat.beq j i = false := by
  cases hb : Nat.beq j i with
  | true => exact absurd (Nat.eq_of_beq_eq_true hb) h
  | false => rfl
mutual
def frzA (i : Nat) (wh pt : AVal) : AVal → AVal
  | .any => .any
  | .lit v => .lit v
  | .ptr j off => bif Nat.beq j i then (bif Nat.beq off 0 then pt else .any) else .ptr j off
  | .opt c j off => bif Nat.beq j i then .any else .opt c j off
  | .mp j => bif Nat.beq j i then .any else .mp j
  | .whole j => bif Nat.beq j i then wh else .whole j
  | .sl j sz off len => bif Nat.beq j i then .any else .sl j sz off len
  | .ro R b d => .ro R b d
  | .fn f l => .fn f (frzL i wh pt l)
  | .agg l => .agg (frzL i wh pt l)
  | .tup l => .tup (frzL i wh pt l)
  | .ifc t a => .ifc t (frzA i wh pt a)
def frzL (i : Nat) (wh pt : AVal) : List AVal → List AVal
  | [] => []
  | a :: l => frzA i wh pt a :: frzL i wh pt l
end
def Chunk.frz (i : Nat) (wh pt : AVal) : Chunk → Chunk
  | .cells t l => .cells t (frzL i wh pt l)
  | .rowt t R l a => .rowt t R l (frzA i wh pt a)
  | c => c
def OEnv.frz (p : OEnv) (i : Nat) (wh pt : AVal) : OEnv := ⟨p.a, fun t => frzA i wh pt (p.v t), p.d, p.lk⟩
def Env.frz (E : Env) (i : Nat) (wh pt : AVal) : Env := ⟨fun t => frzA i wh pt (E.v t), E.d, E.o.map fun p => p.frz i wh pt, E.b⟩
def Mem.frz (M : Mem) (i : Nat) (wh pt : AVal) : Mem := ⟨M.n, fun j => bif Nat.beq j i then .gone else (M.at_ j).frz i wh pt, M.pool⟩
/-- The naming with block b read only. -/
def Nv.froze (e : Nv) (b : Nat) (o : Option Obj) : Nv := { e with m := ⟨fun k => if k = b then (match o with | some x => some x | none => e.m k) else e.m k, e.m.tab⟩ }
mutual
theorem Val.frz {e e' : Nv} {i : Nat} {wh pt : AVal} (hle : e.le e') (hb : ∀ b, Ro.le (e.mem b) (e'.mem b)) (hw : ∀ v, Val e (.whole i) v → Val e' wh v) (hp : ∀ v, Val e (.ptr i 0) v → Val e' pt v) : ∀ {a : AVal} {v : Value}, Val e a v → Val e' (frzA i wh pt a) v
  | .any, _, _ => by simp [frzA, Val]
  | .lit _, _, h => by simpa [frzA, Val] using h
  | .ptr j off, v, h => by
    simp only [frzA]
    cases h1 : Nat.beq j i with
    | true =>
      have : j = i := by simpa using h1
      subst this
      cases h2 : Nat.beq off 0 with
      | true =>
        have : off = 0 := by simpa using h2
        subst this
        exact hp v h
      | false => simp [Val]
    | false => exact h.mono hle hb
  | .opt c j off, v, h => by
    simp only [frzA]
    cases h1 : Nat.beq j i with
    | true => simp [Val]
    | false => exact h.mono hle hb
  | .mp j, v, h => by
    simp only [frzA]
    cases h1 : Nat.beq j i with
    | true => simp [Val]
    | false => exact h.mono hle hb
  | .whole j, v, h => by
    simp only [frzA]
    cases h1 : Nat.beq j i with
    | true =>
      have : j = i := by simpa using h1
      subst this
      exact hw v h
    | false => exact h.mono hle hb
  | .sl j sz off len, v, h => by
    simp only [frzA]
    cases h1 : Nat.beq j i with
    | true => simp [Val]
    | false => exact h.mono hle hb
  | .ro R b d, v, h => by
    simp only [frzA]
    exact h.mono hle hb
  | .fn f l, v, h => by
    simp only [Val] at h
    obtain ⟨vs, h1, h2⟩ := h
    simp only [frzA, Val]
    exact ⟨vs, h1, Vals.frz hle hb hw hp h2⟩
  | .agg l, v, h => by
    simp only [Val] at h
    obtain ⟨vs, h1, h2, h3⟩ := h
    simp only [frzA, Val]
    exact ⟨vs, h1, Vals.frz hle hb hw hp h2, h3⟩
  | .tup l, v, h => by
    simp only [Val] at h
    obtain ⟨vs, h1, h2⟩ := h
    simp only [frzA, Val]
    exact ⟨vs, h1, Vals.frz hle hb hw hp h2⟩
  | .ifc t a, v, h => by
    simp only [Val] at h
    obtain ⟨x, h1, h2⟩ := h
    simp only [frzA, Val]
    exact ⟨x, h1, Val.frz hle hb hw hp h2⟩
theorem Vals.frz {e e' : Nv} {i : Nat} {wh pt : AVal} (hle : e.le e') (hb : ∀ b, Ro.le (e.mem b) (e'.mem b)) (hw : ∀ v, Val e (.whole i) v → Val e' wh v) (hp : ∀ v, Val e (.ptr i 0) v → Val e' pt v) : ∀ {l : List AVal} {vs : List Value}, Vals e l vs → Vals e' (frzL i wh pt l) vs
  | [], _, h => by simpa [frzL, Vals] using h
  | a :: l, vs, h => by
    simp only [Vals] at h
    obtain ⟨v, ws, h1, h2, h3⟩ := h
    simp only [frzL, Vals]
    exact ⟨v, ws, h1, Val.frz hle hb hw hp h2, Vals.frz hle hb hw hp h3⟩
end
section
variable {cx : Cx} {e : Nv} {M : Mem} {w : World} {E : Env} {nt : Nat} {a : Act}
/-- The core of freezing: block o of chunk i is read only from here on. -/
theorem freeze_core (hh : Hold cx e M w) (he : Emb nt e M E a) {i : Nat} (hi : i < e.n) (hlive : (M.at_ i).live e i) (hnp : cx.np ≤ i) (hd : (E.d.all fun j => !Nat.beq j i) = true) {o : Obj} (ho : w.heap[e.own i]? = some o) {wh pt : AVal}
    (hw : ∀ v, Val e (.whole i) v → Val (e.froze (e.own i) (some o)) wh v) (hp : ∀ v, Val e (.ptr i 0) v → Val (e.froze (e.own i) (some o)) pt v) :
    Hold cx (e.froze (e.own i) (some o)) (M.frz i wh pt) w ∧ Emb nt (e.froze (e.own i) (some o)) (M.frz i wh pt) (E.frz i wh pt) a ∧ e.le (e.froze (e.own i) (some o)) := by
  have hli := hh.live i hi hlive
  have hm : Ro.le e.m (e.froze (e.own i) (some o)).m := by
    refine ⟨fun k x hk => ?_, fun _ _ h => h⟩
    simp only [Nv.froze]
    split
    · rename_i hkb; subst hkb; rw [hli.2.1] at hk; cases hk
    · exact hk
  have hle : e.le (e.froze (e.own i) (some o)) := ⟨hm, Ro.le.refl _, Nat.le_refl _, fun _ _ => rfl, fun _ _ => rfl, fun _ _ => rfl, fun _ _ => rfl, fun _ _ => rfl⟩
  have hmb : ∀ b, Ro.le (e.mem b) ((e.froze (e.own i) (some o)).mem b) := by
    intro b
    refine Nv.mem_le hle (fun k x y hx hk hy => ?_) b
    simp only [Nv.froze] at hx
    split at hx
    · rename_i hkb; subst hkb; rw [hli.2.2.1] at hy; cases hy
    · rw [hk] at hx; cases hx
  have hat : ∀ j, j ≠ i → (M.frz i wh pt).at_ j = (M.at_ j).frz i wh pt := by
    intro j hj
    have : Nat.beq j i = false := nbeq_false hj
    simp only [Mem.frz, this, cond_false]
  have hati : (M.frz i wh pt).at_ i = .gone := by simp [Mem.frz]
  have live_of : ∀ j, ((M.frz i wh pt).at_ j).live (e.froze (e.own i) (some o)) j → j ≠ i ∧ (M.at_ j).live e j := by
    intro j hl
    by_cases hj : j = i
    · subst hj; rw [hati] at hl; exact hl.elim
    · rw [hat j hj] at hl
      refine ⟨hj, ?_⟩
      cases hc : M.at_ j <;> rw [hc] at hl <;> exact hl
  constructor
  · have mk : ∀ j, ((M.frz i wh pt).at_ j).mark = true → j ≠ i ∧ (M.at_ j).mark = true := by
      intro j hj
      by_cases hji : j = i
      · subst hji; rw [hati] at hj; cases hj
      · rw [hat j hji] at hj
        refine ⟨hji, ?_⟩
        cases hc : M.at_ j <;> rw [hc] at hj <;> first | exact hj | cases hj
    refine ⟨hh.bm, hh.n, hh.size, hh.os, hh.tape, hh.output, hh.frame, ?_, hh.bro, hh.m0.trans hm, ?_, ?_, ?_, ?_, hh.np, hh.pin,
      ⟨fun j hj hm' => hh.bag.nodup j hj (mk j hm').2, fun j hj hm' x hx => ?_, fun j hj hm' x hx k hk hlk => hh.bag.own j hj (mk j hm').2 x hx k hk (live_of k hlk).2, fun j k hj hk hmj hmk hjk x hx => hh.bag.dist j k hj hk (mk j hmj).2 (mk k hmk).2 hjk x hx⟩, ?_⟩
    · intro k x hk
      simp only [Nv.froze] at hk
      split at hk
      · rename_i hkb; subst hkb; cases hk; exact ho
      · exact hh.ro k x hk
    · intro k x hk
      simp only [Nv.froze] at hk
      split at hk
      · rename_i hkb; subst hkb; exact .inr hli.2.2.2
      · exact hh.mnew k x hk
    · intro j hj
      by_cases hji : j = i
      · subst hji; rw [hati]; trivial
      · rw [hat j hji]
        have hk := hh.ch j hj
        cases hc : M.at_ j with
        | gone => trivial
        | cells t l =>
          rw [hc] at hk
          obtain ⟨h0, vs, h1, h2, h3⟩ := hk
          exact ⟨h0, vs, h1, Vals.frz hle hmb hw hp h2, h3⟩
        | row t R l =>
          rw [hc] at hk
          exact Chunk.ok_mono hle hmb hj hk
        | rowt t R l a =>
          rw [hc] at hk
          obtain ⟨h1, h2, h3, h4, h5, c, z, hb', hz, h6, h7, v, h8, h9, h10⟩ := hk
          exact ⟨h1, h2, h3, h4, h5, c, z, hb', hz, h6, rows_mono hle.m h7, v, h8, Val.frz hle hmb hw hp h9, h10⟩
        | obj x => rw [hc] at hk; exact hk
        | bag => rw [hc] at hk; exact hk
        | dict fk R l x => rw [hc] at hk; exact Chunk.ok_mono hle hmb hj hk
        | iter j c es seen fk R rem => rw [hc] at hk; exact Chunk.ok_mono hle hmb hj hk
    · intro j hj hl
      obtain ⟨h1, h2⟩ := live_of j hl
      have h3 := hh.live j hj h2
      refine ⟨h3.1, ?_, h3.2.2⟩
      simp only [Nv.froze]
      rw [if_neg (fun hjj => h1 (hh.dist j i hj hi h2 hlive hjj))]
      exact h3.2.1
    · intro j k hj hk hlj hlk hjk
      exact hh.dist j k hj hk (live_of j hlj).2 (live_of k hlk).2 hjk
    · obtain ⟨h1, h2, h3⟩ := hh.bag.at_ j hj (mk j hm').2 x hx
      refine ⟨h1, ?_, h3⟩
      simp only [Nv.froze]
      rw [if_neg (fun hxo => hh.bag.own j hj (mk j hm').2 x hx i hi hlive hxo.symm)]
      exact h2
    · refine hh.pool.keep rfl rfl hm (fun x hx => ⟨rfl, ?_, (hh.pool.isFree hx).2.1⟩) (fun x hx j hj hlj => hh.pool.notOwn hx hj (live_of j hlj).2) (fun x hx j hj hm' => hh.pool.notBag hx hj (mk j hm').2)
      simp only [Nv.froze]
      rw [if_neg (fun hxo => hh.pool.notOwn hx hi hlive hxo.symm)]
      exact (hh.pool.isFree hx).1
  · refine ⟨⟨he.sz, fun t => Val.frz hle hmb hw hp (he.v t), he.d.mono hle, fun p hp' => ?_⟩, hle⟩
    obtain ⟨q, hq, rfl⟩ := List.mem_map.1 hp'
    have hk := he.o q hq
    exact ⟨fun t => Val.frz hle hmb hw hp (hk.v t), hk.d.mono hle, hk.lk⟩
/-- An empty row without a block is let go. -/
theorem freeze_vir (hh : Hold cx e M w) (he : Emb nt e M E a) {i : Nat} {wh pt : AVal} (hw : ∀ v, Val e (.whole i) v → Val e wh v) (hp : ∀ v, Val e (.ptr i 0) v → Val e pt v) :
    Hold cx e (M.frz i wh pt) w ∧ Emb nt e (M.frz i wh pt) (E.frz i wh pt) a ∧ e.le e := by
  have hle := Nv.le.refl e
  have hmb : ∀ b, Ro.le (e.mem b) (e.mem b) := fun b => Ro.le.refl _
  have hat : ∀ j, j ≠ i → (M.frz i wh pt).at_ j = (M.at_ j).frz i wh pt := by
    intro j hj
    have : Nat.beq j i = false := nbeq_false hj
    simp only [Mem.frz, this, cond_false]
  have hati : (M.frz i wh pt).at_ i = .gone := by simp [Mem.frz]
  have live_of : ∀ j, ((M.frz i wh pt).at_ j).live e j → (M.at_ j).live e j := by
    intro j hl
    by_cases hj : j = i
    · subst hj; rw [hati] at hl; exact hl.elim
    · rw [hat j hj] at hl
      cases hc : M.at_ j <;> rw [hc] at hl <;> exact hl
  have mk : ∀ j, ((M.frz i wh pt).at_ j).mark = true → (M.at_ j).mark = true := by
    intro j hj
    by_cases hji : j = i
    · subst hji; rw [hati] at hj; cases hj
    · rw [hat j hji] at hj
      cases hc : M.at_ j <;> rw [hc] at hj <;> first | exact hj | cases hj
  constructor
  · refine ⟨hh.bm, hh.n, hh.size, hh.os, hh.tape, hh.output, hh.frame, hh.ro, hh.bro, hh.m0, hh.mnew, ?_, fun j hj hl => hh.live j hj (live_of j hl), fun j k hj hk hlj hlk hjk => hh.dist j k hj hk (live_of j hlj) (live_of k hlk) hjk, hh.np, hh.pin,
      ⟨fun j hj hm' => hh.bag.nodup j hj (mk j hm'), fun j hj hm' => hh.bag.at_ j hj (mk j hm'), fun j hj hm' x hx k hk hlk => hh.bag.own j hj (mk j hm') x hx k hk (live_of k hlk), fun j k hj hk hmj hmk hjk x hx => hh.bag.dist j k hj hk (mk j hmj) (mk k hmk) hjk x hx⟩,
      hh.pool.keep rfl rfl (Ro.le.refl _) (fun x hx => ⟨rfl, (hh.pool.isFree hx).1, (hh.pool.isFree hx).2.1⟩) (fun x hx j hj hlj => hh.pool.notOwn hx hj (live_of j hlj)) (fun x hx j hj hm' => hh.pool.notBag hx hj (mk j hm'))⟩
    intro j hj
    by_cases hji : j = i
    · subst hji; rw [hati]; trivial
    · rw [hat j hji]
      have hk := hh.ch j hj
      cases hc : M.at_ j with
      | gone => trivial
      | cells t l =>
        rw [hc] at hk
        obtain ⟨h0, vs, h1, h2, h3⟩ := hk
        exact ⟨h0, vs, h1, Vals.frz hle hmb hw hp h2, h3⟩
      | row t R l => rw [hc] at hk; exact hk
      | rowt t R l a =>
        rw [hc] at hk
        obtain ⟨h1, h2, h3, h4, h5, c, z, hb', hz, h6, h7, v, h8, h9, h10⟩ := hk
        exact ⟨h1, h2, h3, h4, h5, c, z, hb', hz, h6, h7, v, h8, Val.frz hle hmb hw hp h9, h10⟩
      | obj x => rw [hc] at hk; exact hk
      | bag => rw [hc] at hk; exact hk
      | dict fk R l x => rw [hc] at hk; exact hk
      | iter j c es seen fk R rem => rw [hc] at hk; exact hk
  · refine ⟨⟨he.sz, fun t => Val.frz hle hmb hw hp (he.v t), he.d.mono hle, fun p hp' => ?_⟩, hle⟩
    obtain ⟨q, hq, rfl⟩ := List.mem_map.1 hp'
    have hk := he.o q hq
    exact ⟨fun t => Val.frz hle hmb hw hp (hk.v t), hk.d.mono hle, hk.lk⟩
/-- A row of our own becomes a slice that is only read. -/
theorem freeze_row (hh : Hold cx e M w) (he : Emb nt e M E a) {i np : Nat} {t : TypeId} {α : Type} {R : Rd α} {l : List α} (hi : Nat.blt i M.n = true) (hc : M.at_ i = .row t R l) (hnp : cx.np = np) (hni : Nat.ble np i = true) (hd : (E.d.all fun j => !Nat.beq j i) = true) :
    ∃ e', Hold cx e' (M.frz i (.ro (Rd.slice R) false l) .any) w ∧ Emb nt e' (M.frz i (.ro (Rd.slice R) false l) .any) (E.frz i (.ro (Rd.slice R) false l) .any) a ∧ e.le e' := by
  have hi' : i < e.n := by rw [hh.n]; simpa using hi
  have hk := hh.ch i hi'
  rw [hc] at hk
  obtain ⟨g1, g2, g3, g4⟩ := hk
  cases hvir : e.vir i with
  | true =>
    rw [hvir] at g4
    simp only [if_true] at g4
    subst g4
    refine ⟨e, freeze_vir hh he (fun v hv => ?_) (fun v _ => by simp [Val])⟩
    simp only [Val, hvir, if_true] at hv
    simp only [Val, Rd.slice]
    exact .inl ⟨trivial, none, 0, by rw [hv.2.2.1]⟩
  | false =>
    rw [hvir] at g4
    simp only [Bool.false_eq_true, if_false] at g4
    obtain ⟨c, z, hb, hz, hcs, hrow⟩ := g4
    have hlive : (M.at_ i).live e i := by rw [hc]; exact hvir
    refine ⟨_, freeze_core hh he hi' hlive (by rw [hnp]; simpa using hni) hd hb (fun v hv => ?_) (fun v _ => by simp [Val])⟩
    simp only [Val, hvir, Bool.false_eq_true, if_false] at hv
    simp only [Val, Rd.slice, Nv.mem_false]
    refine .inr ⟨e.own i, 0, c, t, z, e.caps i, by rw [hv.2.2, g1], g2, by simp [Nv.froze], ?_⟩
    rw [List.drop_zero]
    refine rows_mono ?_ hrow
    refine ⟨fun k x hk => ?_, fun _ _ h => h⟩
    simp only [Nv.froze]
    split
    · rename_i hkb; subst hkb; rw [(hh.live i hi' hlive).2.1] at hk; cases hk
    · exact hk
end
section
variable {P : Program} {cx : Cx} {fr : Fr} {ops : Array Oper} {os : List Oper} {E : Env} {M : Mem} {Q : Ex → Env → Mem → Prop} {c : Code}
theorem WPL.frzRow {i np : Nat} {t : TypeId} {α : Type} {R : Rd α} {l : List α} (hi : Nat.blt i M.n = true) (hc : M.at_ i = .row t R l) (hnp : cx.np = np) (hni : Nat.ble np i = true) (hd : (E.d.all fun j => !Nat.beq j i) = true)
    (k : WPL P cx fr ops os (E.frz i (.ro (Rd.slice R) false l) .any) (M.frz i (.ro (Rd.slice R) false l) .any) Q) : WPL P cx fr ops os E M Q :=
  fun a w e hh he => let ⟨e', h1, h2, _⟩ := freeze_row hh he hi hc hnp hni hd; k a w e' h1 h2
theorem WP.frzRow {i np : Nat} {t : TypeId} {α : Type} {R : Rd α} {l : List α} (hi : Nat.blt i M.n = true) (hc : M.at_ i = .row t R l) (hnp : cx.np = np) (hni : Nat.ble np i = true) (hd : (E.d.all fun j => !Nat.beq j i) = true)
    (k : WP P cx fr c (E.frz i (.ro (Rd.slice R) false l) .any) (M.frz i (.ro (Rd.slice R) false l) .any) Q) : WP P cx fr c E M Q :=
  fun a w e hh he => let ⟨e', h1, h2, _⟩ := freeze_row hh he hi hc hnp hni hd; k a w e' h1 h2
end
end Go.Q
namespace Go.Q
open Go
set_option linter.unusedVariables false
set_option linter.unusedSimpArgs false
/-- How a call ends. -/
inductive Out : Type 1
  | ret (v : AVal)
  | pan (v : AVal)
def Out.is (e : Nv) : Out → Ending → Prop
  | .ret v, x => ∃ u, x = .returned u ∧ Val e v u
  | .pan v, x => ∃ u, x = .panicked [{ v := u, recovered := false }] ∧ Val e v u
/-- What a call begins with. -/
structure Entry (cx : Cx) (np : Nat) (e : Nv) (M : Mem) (w : World) : Prop where
  w0 : cx.w0 = w
  np : cx.np = np
  m0 : cx.m0 = e.m
  nv0 : cx.nv0 = e
  F : ∀ b, cx.F b ↔ ((∃ i, i < M.n ∧ (M.at_ i).live e i ∧ e.own i = b) ∨ inPool e M b)
/-- THE CONTRACT of a function: called with such arguments over such chunks it ends so. The first 'np' chunks stay where they are. -/
def Spec (P : Program) (f : FuncId) (np : Nat) (args : List AVal) (M : Mem) (Q : Out → Mem → Prop) : Prop :=
  ∀ cx e w vs, Entry cx np e M w → Hold cx e M w → Vals e args vs →
    CallsIn (fence P none) 0 P f vs.toArray w fun x w' => ∃ o M' e', Q o M' ∧ Hold cx e' M' w' ∧ o.is e' x
theorem Spec.mono {P : Program} {f : FuncId} {np : Nat} {args : List AVal} {M : Mem} {Q Q' : Out → Mem → Prop} (h : Spec P f np args M Q) (hq : ∀ o M, Q o M → Q' o M) : Spec P f np args M Q' :=
  fun cx e w vs h1 h2 h3 => (h cx e w vs h1 h2 h3).mono fun x w' ⟨o, M', e', q, r⟩ => ⟨o, M', e', hq _ _ q, r⟩
def argsEnv (args : List AVal) : Env := ⟨fun t => args.getD t .any, [], [], []⟩
/-- The marks of ranges over functions taken. -/
def dropMarks (M : Mem) : List Nat → Mem
  | [] => M
  | i :: l => dropMarks (M.set i .gone) l
def marksOk (M : Mem) : List Nat → Prop
  | [] => True
  | i :: l => (M.at_ i = .obj (.deferred (some [])) ∨ M.at_ i = .bag) ∧ marksOk (M.set i .gone) l
/-- The types that are of several cells, and of how many. -/
def azGet : List (Nat × Nat) → Nat → Option Nat
  | [], _ => none
  | (t, n) :: r, T => bif Nat.beq t T then some n else azGet r T
def CellOk (P : Program) (az : List (Nat × Nat)) (T : TypeId) : Prop := match azGet az T with
  | none => Sc P T
  | some n => Ag P T n
/-- One result. -/
def resOf (az : List (Nat × Nat)) (E : Env) (M : Mem) : ResultVar → Option AVal
  | .tmp t => some (E.v t)
  | .cell t T => match E.v t with
    | .ptr i off => match M.at_ i with
      | .cells _ l => match azGet az T with
        | none => l[off]?
        | some n => bif Nat.ble (off + n) l.length then some (.agg ((l.drop off).take n)) else none
      | _ => none
    | _ => none
def resAll (az : List (Nat × Nat)) (E : Env) (M : Mem) : List ResultVar → Option (List AVal)
  | [] => some []
  | r :: rs => match resOf az E M r, resAll az E M rs with
    | some v, some vs => some (v :: vs)
    | _, _ => none
def resOut : List AVal → AVal
  | [v] => v
  | vs => .tup vs
/-- What a body must come to. -/
def BodyQ (az : List (Nat × Nat)) (rs : List ResultVar) (Q : Out → Mem → Prop) : Ex → Env → Mem → Prop
  | .normal, E, M => E.b = [] ∧ marksOk M E.d ∧ ∃ vs, resAll az E (dropMarks M E.d) rs = some vs ∧ Q (.ret (resOut vs)) (dropMarks M E.d)
  | .ret, E, M => E.b = [] ∧ marksOk M E.d ∧ ∃ vs, resAll az E (dropMarks M E.d) rs = some vs ∧ Q (.ret (resOut vs)) (dropMarks M E.d)
  | .panic v, E, M => E.b = [] ∧ marksOk M E.d ∧ Q (.pan v) (dropMarks M E.d)
  | _, _, _ => False
section
variable {P : Program} {cx : Cx} {e : Nv} {M : Mem} {w : World} {E : Env} {nt : Nat} {a : Act}
def resSem (tmps : Array Value) : ResultVar → Sem Value
  | .tmp t => pure (tmps.getD t undef)
  | .cell a t => do loadVar t (← asAddr (tmps.getD a undef))
theorem run_res {az : List (Nat × Nat)} (hh : Hold cx e M w) (hv : ∀ t, Val e (E.v t) (a.tmps.getD t undef)) : ∀ {rs : List ResultVar} {vs : List AVal}, (∀ t T, ResultVar.cell t T ∈ rs → CellOk P az T) → resAll az E M rs = some vs →
    ∃ us, (rs.mapM (resSem a.tmps)).run P w = .ok us w ∧ Vals e vs us
  | [], vs, _, h => by simp only [resAll, Option.some.injEq] at h; subst h; exact ⟨[], by simp, by simp [Vals]⟩
  | r :: rs, vs, hsc, h => by
    simp only [resAll] at h
    cases h1 : resOf az E M r with
    | none => rw [h1] at h; simp at h
    | some v =>
      cases h2 : resAll az E M rs with
      | none => rw [h1, h2] at h; simp at h
      | some vs' =>
        rw [h1, h2] at h
        simp only [Option.some.injEq] at h
        subst h
        obtain ⟨us, g1, g2⟩ := run_res hh hv (rs := rs) (fun t T ht => hsc t T (by simp [ht])) h2
        have hone : ∃ u, (resSem a.tmps r).run P w = .ok u w ∧ Val e v u := by
          cases r with
          | tmp t =>
            simp only [resOf, Option.some.injEq] at h1
            subst h1
            exact ⟨_, rfl, hv t⟩
          | cell t T =>
            simp only [resOf] at h1
            split at h1
            · rename_i i off he
              split at h1
              · rename_i ct l hc
                have hp := hv t
                rw [he] at hp
                simp only [Val] at hp
                have hk := hh.ch i hp.1
                rw [hc] at hk
                obtain ⟨_, ws, hb, hws, ho⟩ := hk
                have hT := hsc t T (by simp)
                unfold CellOk at hT
                cases haz : azGet az T with
                | none =>
                  rw [haz] at h1 hT
                  obtain ⟨u, hu, hval⟩ := hws.get h1
                  refine ⟨u, ?_, hval⟩
                  have hcell : w.cell? ⟨e.own i, off, none⟩ = some u := by rw [cell_of hb]; simpa using hu
                  simp [resSem, hp.2.2, asAddr, loadVar, Sc.isAgg hT w, hcell]
                | some n =>
                  rw [haz] at h1 hT
                  simp only at h1
                  cases hle : Nat.ble (off + n) l.length with
                  | false => rw [hle] at h1; cases h1
                  | true =>
                    rw [hle] at h1
                    simp only [cond_true, Option.some.injEq] at h1
                    subst h1
                    have hle' : off + n ≤ l.length := Nat.le_of_ble_eq_true hle
                    refine ⟨.agg ((ws.drop off).take n).toArray, ?_, ?_⟩
                    · have := run_loadAt_ag hT (o := off) hb (by simpa [hws.length] using hle')
                      simpa [resSem, hp.2.2, asAddr, Instr.loadAt, Instr.sureAddr] using this
                    · simp only [Val]
                      exact ⟨_, rfl, (hws.drop off).take n, fun u hu => ho u (List.mem_of_mem_drop (List.mem_of_mem_take hu))⟩
              · cases h1
            · cases h1
        obtain ⟨u, k1, k2⟩ := hone
        exact ⟨u :: us, by simp [List.mapM_cons, k1, g1], by simp only [Vals]; exact ⟨u, us, rfl, k2, g2⟩⟩
theorem run_results {az : List (Nat × Nat)} {fn : Func} {rs : List ResultVar} {vs : List AVal} (hh : Hold cx e M w) (hv : ∀ t, Val e (E.v t) (a.tmps.getD t undef)) (hr : fn.results.toList = rs) (hsc : ∀ t T, ResultVar.cell t T ∈ rs → CellOk P az T) (h : resAll az E M rs = some vs) :
    ∃ u, (results fn a.tmps).run P w = .ok u w ∧ Val e (resOut vs) u := by
  subst hr
  obtain ⟨us, h1, h2⟩ := run_res hh hv hsc h
  have hm : ((fn.results.mapM (resSem a.tmps)) : Sem (Array Value)).run P w = .ok us.toArray w := by
    rw [Array.mapM_eq_mapM_toList]
    simp [h1]
  have hres : (results fn a.tmps).run P w = .ok (if h : us.toArray.size = 1 then us.toArray[0] else .tuple us.toArray) w := by
    show ((fn.results.mapM (resSem a.tmps)) >>= fun vs => (pure (if h : vs.size = 1 then vs[0] else .tuple vs) : Sem Value)).run P w = _
    rw [Sem.run_bind, hm]
    rfl
  refine ⟨_, hres, ?_⟩
  match vs, us, h2 with
  | [], us, h2 =>
    simp only [Vals] at h2; subst h2
    simp [resOut, Val, Vals]
  | [v], us, h2 =>
    simp only [Vals] at h2
    obtain ⟨u, ws, rfl, k1, rfl⟩ := h2
    simpa [resOut] using k1
  | v :: v' :: r, us, h2 =>
    have hl := h2.length
    rw [dif_neg (by simp at hl ⊢; omega)]
    simp only [resOut, Val]
    exact ⟨us, rfl, h2⟩
/-- What may be written without anything being told of it. -/
structure Trash (cx : Cx) (e : Nv) (M : Mem) (b : Nat) : Prop where
  m : e.m b = none
  bm : e.bm b = none
  F : cx.F b ∨ cx.w0.heap.size ≤ b
  own : ∀ j, j < e.n → (M.at_ j).live e j → e.own j ≠ b
  bag : ∀ j, j < e.n → (M.at_ j).mark = true → b ∉ e.bag j
  pool : ¬ inPool e M b
theorem Hold.trash (h : Hold cx e M w) {b : Nat} {o : Obj} (t : Trash cx e M b) : Hold cx e M (w.putObj b o) := by
  have hs : ∀ k, k ≠ b → (w.putObj b o).heap[k]? = w.heap[k]? := fun k hk => World.putObj_heap_other hk
  refine ⟨h.bm, h.n, by simp [h.size], h.os, h.tape, h.output, ?_, ?_, ?_, h.m0, h.mnew, ?_, ?_, h.dist, h.np, h.pin, ⟨h.bag.nodup, ?_, h.bag.own, h.bag.dist⟩, ?_⟩
  · intro k hk hF
    rw [hs k (by rintro rfl; rcases t.F with h1 | h1; exact hF h1; omega)]
    exact h.frame k hk hF
  · intro k x hk
    rw [hs k (by rintro rfl; rw [t.m] at hk; cases hk)]
    exact h.ro k x hk
  · intro k x hk
    rw [hs k (by rintro rfl; rw [t.bm] at hk; cases hk)]
    exact h.bro k x hk
  · exact fun i hi => Chunk.ok_congr (h.ch i hi) fun hl => hs _ (t.own i hi hl)
  · intro i hi hl
    have := h.live i hi hl
    exact ⟨by simpa using this.1, this.2⟩
  · intro i hi hm x hx
    obtain ⟨h1, h2⟩ := h.bag.at_ i hi hm x hx
    exact ⟨by rw [hs x (by rintro rfl; exact t.bag i hi hm hx)]; exact h1, h2⟩
  · exact h.pool.keep rfl rfl (Ro.le.refl _) (fun x hx => ⟨hs x (by rintro rfl; exact t.pool hx), (h.pool.isFree hx).1, (h.pool.isFree hx).2.1⟩) (fun x hx j hj hlj => h.pool.notOwn hx hj hlj) (fun x hx j hj hm => h.pool.notBag hx hj hm)
theorem leave_list {fn : Func} {tmps : Array Value} {R : Ending → World → Prop} {u : FrameMode} (hu : u ≠ .run) : ∀ (bs : List Nat) (w : World) (ds : List Deferred), bs.Nodup → (∀ b ∈ bs, w.heap[b]? = some (.deferred (some [])) ∧ Trash cx e M b) → Hold cx e M w →
    (∀ w', Hold cx e M w' → LeavesInM (fence P none) 0 P fn tmps R ds u w') → LeavesInM (fence P none) 0 P fn tmps R (bs.map (fun b => { target := .collected b, args := #[] }) ++ ds) u w
  | [], w, ds, _, _, hh, k => k w hh
  | b :: bs, w, ds, hn, hb, hh, k => by
    obtain ⟨h1, h2⟩ := hb b (by simp)
    refine ⟨hu, .inl ⟨b, _, rfl, run_takeDeferred h1, ?_⟩⟩
    refine leave_list hu bs _ ds (List.nodup_cons.1 hn).2 (fun x hx => ?_) (hh.trash h2) k
    obtain ⟨h3, h4⟩ := hb x (by simp [hx])
    exact ⟨by rw [World.putObj_heap_other (by rintro rfl; exact (List.nodup_cons.1 hn).1 hx)]; exact h3, h4⟩
/-- The way out through the marks. -/
theorem leave_marks {fn : Func} {tmps : Array Value} {R : Ending → World → Prop} {u : FrameMode} (hu : u ≠ .run) : ∀ (d : List Nat) (M : Mem) (w : World) (ds : List Deferred), Hold cx e M w → marks e M d ds → marksOk M d →
    (∀ w', Hold cx e (dropMarks M d) w' → LeavesInM (fence P none) 0 P fn tmps R [] u w') → LeavesInM (fence P none) 0 P fn tmps R ds u w
  | [], M, w, ds, hh, hm, _, k => by simp only [marks] at hm; subst hm; exact k w hh
  | i :: d, M, w, ds, hh, hm, hok, k => by
    obtain ⟨r, rfl, hi, hr⟩ := hm
    obtain ⟨h1, h2⟩ := hok
    have hmk : (M.at_ i).mark = true := by rcases h1 with h1 | h1 <;> rw [h1] <;> rfl
    have mk : ∀ j, ((M.set i .gone).at_ j).mark = true → j ≠ i ∧ (M.at_ j).mark = true := by
      intro j hj
      rw [Mem.set_at] at hj
      split at hj
      · cases hj
      · rename_i hji; exact ⟨hji, hj⟩
    have lv : ∀ j, ((M.set i .gone).at_ j).live e j → (M.at_ j).live e j := by
      intro j hj
      rw [Mem.set_at] at hj
      split at hj
      · exact hj.elim
      · exact hj
    have tr : ∀ b ∈ e.bag i, Trash cx e (M.set i .gone) b := fun b hb => by
      obtain ⟨g1, g2, g3, g4⟩ := hh.bag.at_ i hi hmk b hb
      exact ⟨g2, g3, g4, fun j hj hl => hh.bag.own i hi hmk b hb j hj (lv j hl), fun j hj hm => hh.bag.dist i j hi hj hmk (mk j hm).2 (fun h => (mk j hm).1 h.symm) b hb, fun hp => hh.pool.notBag hp hi hmk hb⟩
    have hch := hh.ch i hi
    rcases h1 with h1 | h1
    · rw [h1] at hch
      obtain ⟨hvir, hb'⟩ := hch
      have hlive : (M.at_ i).live e i := by rw [h1]; trivial
      rw [show markBlocks e i = e.own i :: e.bag i by unfold markBlocks; rw [hvir]; rfl, List.map_cons, List.cons_append]
      refine ⟨hu, .inl ⟨e.own i, _, rfl, run_takeDeferred hb', ?_⟩⟩
      have hh1 : Hold cx e (M.set i .gone) (w.putObj (e.own i) (.deferred none)) := hh.change hi hlive rfl rfl rfl (by simp [World.putObj]) (fun k hk => World.putObj_heap_other hk) trivial
      refine leave_list hu (e.bag i) _ r (hh.bag.nodup i hi hmk) (fun b hb => ⟨?_, tr b hb⟩) hh1 (fun w' hh' => leave_marks hu d (M.set i .gone) w' r hh' (hr.mono (Nv.le.refl e)) h2 k)
      rw [World.putObj_heap_other (fun h => hh.bag.own i hi hmk b hb i hi hlive h.symm)]
      exact (hh.bag.at_ i hi hmk b hb).1
    · rw [h1] at hch
      have hvir : e.vir i = true := hch
      rw [show markBlocks e i = e.bag i by unfold markBlocks; rw [hvir]; rfl]
      exact leave_list hu (e.bag i) _ r (hh.bag.nodup i hi hmk) (fun b hb => ⟨(hh.bag.at_ i hi hmk b hb).1, tr b hb⟩) (hh.drop i) (fun w' hh' => leave_marks hu d (M.set i .gone) w' r hh' (hr.mono (Nv.le.refl e)) h2 k)
/-- A FUNCTION's CONTRACT FROM THE WALK OF ITS BODY. -/
theorem Spec.of_body {az : List (Nat × Nat)} {f : FuncId} {fn : Func} {c : Code} {np nt : Nat} {args : List AVal} {Q : Out → Mem → Prop} {rs : List ResultVar} (hf : P.funcs[f]? = some fn) (hb : fn.body = some c) (hr : fn.results.toList = rs) (hsc : ∀ t T, ResultVar.cell t T ∈ rs → CellOk P az T)
    (hnt : fn.ntmps = nt) (ha : Nat.ble args.length nt = true) (h : ∀ cx, cx.np = np → WP P cx ⟨nt, none, []⟩ c (argsEnv args) M (BodyQ az rs Q)) : Spec P f np args M Q := by
  intro cx e w vs hent hh hv
  have hlen := hv.length
  have ha' : args.length ≤ nt := by simpa using ha
  refine callsIn_of_wp_marks hf hb (Option.isSome_iff_exists.2 ⟨_, hf⟩) ?_ rfl
  have hemb : Emb nt e M (argsEnv args) { tmps := vs.toArray ++ Array.replicate (fn.ntmps - vs.toArray.size) undef, defers := [] } := by
    refine ⟨by simp [hnt, hlen]; omega, fun t => ?_, ⟨[], rfl, rfl⟩, fun p hp => by cases hp⟩
    simp only [argsEnv, List.getD_eq_getElem?_getD]
    by_cases ht : t < args.length
    · rw [List.getElem?_eq_getElem ht]
      obtain ⟨v, h1, h2⟩ := hv.get (List.getElem?_eq_getElem ht)
      have hs : (vs.toArray ++ Array.replicate (fn.ntmps - vs.toArray.size) undef).getD t undef = v := by
        rw [Array.getD_eq_getD_getElem?, Array.getElem?_append_left (by simpa [hlen] using ht)]
        simp [h1]
      rw [hs]
      exact h2
    · rw [List.getElem?_eq_none (by omega)]
      simp [Val]
  refine Go.wpIn_mono (h cx hent.np _ w e hh hemb) fun x a' w' k => ?_
  obtain ⟨y, E', M', e', q, h1, h2, h3⟩ := k
  have fin : Emb nt e' M' E' a' → (E'.b = [] ∧ marksOk M' E'.d ∧ ∃ vs, resAll az E' (dropMarks M' E'.d) rs = some vs ∧ Q (.ret (resOut vs)) (dropMarks M' E'.d)) →
      LeavesInM (fence P none) 0 P fn a'.tmps (fun x w' => ∃ o M' e', Q o M' ∧ Hold cx e' M' w' ∧ o.is e' x) a'.defers .returning w' := by
    rintro h2 ⟨q0, q1, vs', q2, q3⟩
    have hd2 := h2.d
    rw [q0] at hd2
    refine leave_marks (by simp) E'.d M' w' a'.defers h1 (marksB.nil.1 hd2) q1 fun w'' hh'' => ?_
    obtain ⟨u, g1, g2⟩ := run_results (a := a') hh'' h2.v hr hsc q2
    exact ⟨u, g1, _, _, e', q3, hh'', u, rfl, g2⟩
  cases y with
  | normal => cases h3; exact fin h2 q
  | ret => cases h3; exact fin h2 q
  | exit id => exact q.elim
  | goto l => exact q.elim
  | panic v =>
    obtain ⟨u, rfl, hu⟩ := h3
    obtain ⟨q0, q1, q2⟩ := q
    have hd2 := h2.1.1
    rw [q0] at hd2
    refine leave_marks (u := .panicking [{ v := u, recovered := false }]) (by simp) E'.d M' w' a'.defers h1 (marksB.nil.1 hd2) q1 fun w'' hh'' => ?_
    exact ⟨_, _, e', q2, hh'', u, rfl, hu⟩
end
end Go.Q
