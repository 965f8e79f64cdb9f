/- A law's contract, told of a call at a whole memory; arguments that a reading has met, as data. -/
import Derived.Test.YtnbjdgamindikaaDoorQn
import Derived.ChangeArms
import Derived.Carry
namespace Go.Q
open Go
set_option linter.unusedVariables false
set_option linter.unusedSimpArgs false

def heapRo (W : World) : Ro := fun b => W.heap[b]?
def nvAll (W : World) : Nv := ⟨heapRo W, fun _ => none, fun _ => 0, fun _ => 0, fun _ => 0, fun _ => false, 0, fun _ => []⟩

theorem Spec.law {P : Program} {f : FuncId} {args : List AVal} {x : Value} (h : Spec P f 0 args Mem.nil fun o M => o = .ret (.lit x) ∧ M = Mem.nil) {W : World} {vs : List Value} (hv : Vals (nvAll W) args vs)
    (htb : ∀ g l, tabs g = some l → ∃ c t z, heapRo W g = some (.cells c t z) ∧ c.toList.take l.length = l := by exact tabs_none) :
    Calls P f vs.toArray W fun e W' => e = .returned x ∧ RowKit.Below W.heap.size W W' := by
  have hent : Entry ⟨W, fun _ => False, heapRo W, fun _ => none, 0, nvAll W, htb⟩ 0 (nvAll W) Mem.nil W :=
    ⟨rfl, rfl, rfl, rfl, fun b => ⟨fun h => h.elim, fun ⟨i, hi, _⟩ => absurd hi (Nat.not_lt_zero _)⟩⟩
  have hh : Hold ⟨W, fun _ => False, heapRo W, fun _ => none, 0, nvAll W, htb⟩ (nvAll W) Mem.nil W :=
    ⟨rfl, rfl, Nat.le_refl _, rfl, rfl, rfl, fun _ _ _ => rfl, fun _ _ h => h, fun _ _ h => (by cases h), Ro.le.refl _, fun _ _ h => .inl h, fun i hi => absurd hi (Nat.not_lt_zero _), fun i hi => absurd hi (Nat.not_lt_zero _),
     fun i j hi => absurd hi (Nat.not_lt_zero _), Nat.le_refl _, fun i hi => absurd hi (Nat.not_lt_zero _),
     ⟨fun i hi => absurd hi (Nat.not_lt_zero _), fun i hi => absurd hi (Nat.not_lt_zero _), fun i hi => absurd hi (Nat.not_lt_zero _), fun i j hi => absurd hi (Nat.not_lt_zero _)⟩⟩
  refine Calls.mono (CallsIn.calls (h _ _ W vs hent hh hv) (fence_room _)) ?_
  rintro e W' ⟨o, M', e', ⟨rfl, rfl⟩, k1, u, rfl, k2⟩
  simp only [Val] at k2
  subst k2
  exact ⟨rfl, k1.os, k1.tape, k1.output, k1.size, fun k hk => k1.frame k hk (fun h => h)⟩

theorem add_at' {a : Addr} {b off : Nat} : (a.add 0 = ⟨b, off, none⟩) = (a = ⟨b, off, none⟩) := by
  obtain ⟨b', o', sp⟩ := a
  cases sp <;> simp [Addr.add]

/-- A measure of readings. -/
structure Meas (H : Type) where
  u : DataW H → Nat
  ua : List (DataW H) → Nat
  nil : 1 ≤ u .nil
  lit : ∀ l, 1 ≤ u (.lit l)
  str : ∀ b, b.length + 1 ≤ u (.lit (.string b))
  ptr : ∀ d, u d + 1 ≤ u (.ptr d)
  slice : ∀ e s, ua e + 1 ≤ u (.slice e s)
  agg : ∀ l, ua l + 1 ≤ u (.agg l)
  cons : ∀ d r, u d + ua r ≤ ua (d :: r)

/-- A type whose readings are data of a reader: right ones, of a bulk. -/
def Opn (P : Program) (t : TypeId) {α : Type} (R : Rd α) (wf : α → Prop) (ms : α → Nat) : Prop :=
  R.sz = P.cellsOf t ∧ ∀ (H : Type) (enc : TypeId × Value → H) (W : World) (fuel : Nat) (cs : List Value) (x : DataW H × List MemPlace),
    DataW.trod enc P W 0 (fun _ => true) true fuel t cs = some x → ∃ d, R.ok (heapRo W) d cs ∧ wf d ∧ ∀ μ : Meas H, ms d ≤ μ.u x.1

section
variable {P : Program} {t e : TypeId}
theorem Opn.int {k : IntKind} (ht : P.underlying t = some (.int k)) (hc : P.cellsOf t = 1) : Opn P t (Rd.int k) (fun n => (Lit.int k n).wf = true) (fun _ => 1) :=
  ⟨hc.symm, fun H enc W fuel cs x h => by
    obtain ⟨n, rfl, rfl, hw⟩ := DataW.trod_int ht h
    exact ⟨n, rfl, hw, fun μ => μ.lit _⟩⟩
theorem Opn.bool (ht : P.underlying t = some .bool) (hc : P.cellsOf t = 1) : Opn P t Rd.bool (fun _ => True) (fun _ => 1) :=
  ⟨hc.symm, fun H enc W fuel cs x h => by
    obtain ⟨n, rfl, rfl⟩ := DataW.trod_bool ht h
    exact ⟨n, rfl, trivial, fun μ => μ.lit _⟩⟩
theorem Opn.str (ht : P.underlying t = some .string) (hc : P.cellsOf t = 1) : Opn P t Rd.str (fun s => s.size ≤ maxLen) (fun s => s.size + 1) :=
  ⟨hc.symm, fun H enc W fuel cs x h => by
    obtain ⟨s, rfl, rfl, hs⟩ := DataW.trod_string ht h
    refine ⟨s, rfl, hs, fun μ => ?_⟩
    have := μ.str s.data.toList
    rw [Array.length_toList] at this
    exact this⟩

def msum {α : Type} (ms : α → Nat) : List α → Nat
  | [] => 0
  | x :: l => ms x + msum ms l

theorem rows_mk {H : Type} {α : Type} {R : Rd α} {m : Ro} {wf : α → Prop} {ms : α → Nat} : ∀ (xs : List (DataW H × List MemPlace)) (cs : List Value), (∀ i x, xs[i]? = some x → ∃ d, R.ok m d ((cs.drop (i * R.sz)).take R.sz) ∧ wf d ∧ ∀ μ : Meas H, ms d ≤ μ.u x.1) →
    ∃ l : List α, l.length = xs.length ∧ rows R m l cs ∧ (∀ x ∈ l, wf x) ∧ ∀ μ : Meas H, msum ms l ≤ μ.ua (xs.map (·.1))
  | [], _, _ => ⟨[], rfl, trivial, by simp, fun μ => Nat.zero_le _⟩
  | x :: xs, cs, h => by
    obtain ⟨d, h1, h2, h0⟩ := h 0 x rfl
    obtain ⟨l, h3, h4, h5, h6⟩ := rows_mk xs (cs.drop R.sz) (fun i y hi => by
      obtain ⟨d, h1, h2, h0⟩ := h (i + 1) y (by simpa using hi)
      refine ⟨d, ?_, h2, h0⟩
      rw [List.drop_drop]
      rw [Nat.add_mul, Nat.one_mul, Nat.add_comm] at h1
      exact h1)
    refine ⟨d :: l, by simp [h3], ⟨by simpa using h1, h4⟩, ?_, fun μ => ?_⟩
    · intro x hx
      rcases List.mem_cons.1 hx with rfl | hx
      · exact h2
      · exact h5 x hx
    · exact Nat.le_trans (Nat.add_le_add (h0 μ) (h6 μ)) (μ.cons _ _)

theorem cells?_block {W : World} {a : Addr} {n : Nat} {cs : List Value} (h : W.cells? 0 a n = some cs) (hn : 0 < n) : ∃ b off c tt fr, a = ⟨b, off, none⟩ ∧ W.heap[b]? = some (.cells c tt fr) ∧ cs = (c.toList.drop off).take n := by
  obtain ⟨_, hlen, hget⟩ := World.cells?_some h
  obtain ⟨b, off, spot⟩ := a
  have h0 := hget 0 hn
  rw [List.getElem?_eq_getElem (by omega)] at h0
  have hspot : spot = none := by simpa [Addr.add] using World.cell?_spot h0
  subst hspot
  rw [add_at] at h0
  cases hb : W.heap[b]? with
  | none => simp [World.cell?, hb] at h0
  | some o =>
    cases o with
    | cells c tt fr =>
      refine ⟨b, off, c, tt, fr, rfl, hb, ?_⟩
      apply List.ext_getElem?
      intro i
      by_cases hi : i < n
      · rw [← hget i hi, add_at, cell_of hb, List.getElem?_take_of_lt hi, List.getElem?_drop]; simp
      · rw [List.getElem?_eq_none (by omega), List.getElem?_eq_none (by simp; omega)]
    | _ => simp [World.cell?, hb] at h0

theorem Opn.slice {α : Type} {R : Rd α} {wf : α → Prop} {ms : α → Nat} (ht : P.underlying t = some (.slice e)) (hc : P.cellsOf t = 1) (he : Opn P e R wf ms) (hpos : Nat.blt 0 R.sz = true) : Opn P t (Rd.slice R) (fun l => l.length ≤ maxLen ∧ ∀ x ∈ l, wf x) (fun l => msum ms l + 1) :=
  ⟨hc.symm, fun H enc W fuel cs x h => by
    have hpos' : 0 < R.sz := by simpa using hpos
    rcases DataW.trod_slice ht h with ⟨rfl, rfl⟩ | ⟨a, len, cap, elems, rest, n, _, rfl, rfl, _, hl, hm, hlen, hel, _⟩
    · exact ⟨[], .inl ⟨rfl, none, 0, rfl⟩, ⟨Nat.zero_le _, by simp⟩, fun μ => μ.nil⟩
    · have each : ∀ i x, elems[i]? = some x → ∃ cs', W.cells? 0 (a.add (i * R.sz)) R.sz = some cs' ∧ ∃ d, R.ok (heapRo W) d cs' ∧ wf d ∧ ∀ μ : Meas H, ms d ≤ μ.u x.1 := by
        intro i x hi
        have hil : i < len := by rw [← hlen]; exact (List.getElem?_eq_some_iff.1 hi).1
        have h1 := hel i hil
        rw [← he.1, hi, Option.bind_eq_some_iff] at h1
        obtain ⟨cs', h2, h3⟩ := h1
        exact ⟨cs', h2, he.2 H enc W n cs' _ h3⟩
      rcases Nat.eq_zero_or_pos len with h0 | h0
      · subst h0
        refine ⟨[], .inl ⟨rfl, some a, cap, rfl⟩, ⟨Nat.zero_le _, by simp⟩, fun μ => ?_⟩
        have := μ.slice (elems.map (·.1)) (rest.map (·.1))
        simp only [msum]; omega
      · obtain ⟨cs0, h2, _⟩ := each 0 elems[0] (List.getElem?_eq_getElem (by omega))
        rw [Nat.zero_mul] at h2
        obtain ⟨b, off, c, tt, fr, ha, hb, _⟩ := cells?_block h2 hpos'
        rw [add_at'] at ha
        subst ha
        obtain ⟨l, k1, k2, k3, k4⟩ := rows_mk (R := R) (m := heapRo W) (wf := wf) (ms := ms) elems (c.toList.drop off) (fun i x hi => by
          obtain ⟨cs', h2, d, h3, h4⟩ := each i x hi
          rw [add_at] at h2
          obtain ⟨b', off', c', tt', fr', ha', hb', hcs⟩ := cells?_block h2 hpos'
          simp only [Addr.mk.injEq, and_true] at ha'
          obtain ⟨rfl, rfl⟩ := ha'
          rw [hb] at hb'
          cases hb'
          refine ⟨d, ?_, h4⟩
          rw [List.drop_drop, ← hcs]
          exact h3)
        exact ⟨l, .inr ⟨b, off, c, tt, fr, cap, by rw [k1, hlen], by omega, hb, k2⟩, ⟨by omega, k3⟩, fun μ => Nat.le_trans (Nat.succ_le_succ (k4 μ)) (μ.slice _ _)⟩⟩

/-- The fields of a struct, from a place on. -/
def OpnP (P : Program) (l : List (Nat × TypeId)) (o : Nat) {α : Type} (R : Rd α) (wf : α → Prop) (ms : α → Nat) : Prop :=
  ∀ (H : Type) (enc : TypeId × Value → H) (W : World) (fuel : Nat) (cs : List Value) (xs : List (DataW H × List MemPlace)), xs.length = l.length → (∀ (i : Nat) (p : Nat × TypeId), l[i]? = some p → DataW.trod enc P W 0 (fun _ => true) true fuel p.2 ((cs.drop p.1).take (P.cellsOf p.2)) = xs[i]?) → cs.length = o + R.sz →
    ∃ d, R.ok (heapRo W) d (cs.drop o) ∧ wf d ∧ ∀ μ : Meas H, ms d ≤ μ.ua (xs.map (·.1))

theorem OpnP.nil {o : Nat} : OpnP P [] o Rd.unit (fun _ => True) (fun _ => 0) := fun H enc W fuel cs xs _ _ hl => ⟨(), by
  show cs.drop o = []
  exact List.drop_of_length_le (by simp [Rd.unit] at hl; omega), trivial, fun μ => Nat.zero_le _⟩
theorem OpnP.cons {o o' : Nat} {l : List (Nat × TypeId)} {α β : Type} {R : Rd α} {S : Rd β} {wf : α → Prop} {wf' : β → Prop} {ms : α → Nat} {ms' : β → Nat} (h : Opn P t R wf ms) (ho : o + R.sz = o') (k : OpnP P l o' S wf' ms') :
    OpnP P ((o, t) :: l) o (Rd.pair R S) (fun d => wf d.1 ∧ wf' d.2) (fun d => ms d.1 + ms' d.2) := fun H enc W fuel cs xs hx ha hl => by
  subst ho
  cases xs with
  | nil => simp at hx
  | cons x xs =>
    have hx1 := ha 0 (o, t) rfl
    obtain ⟨d, h1, h2, h5⟩ := h.2 H enc W fuel _ x hx1
    obtain ⟨d', h3, h4, h6⟩ := k H enc W fuel cs xs (by simpa using hx) (fun i p hp => ha (i + 1) p (by simpa using hp)) (by simp only [Rd.pair] at hl; omega)
    refine ⟨(d, d'), ⟨(cs.drop o).take R.sz, cs.drop (o + R.sz), ?_, by rw [h.1]; exact h1, h3⟩, ⟨h2, h4⟩, fun μ => Nat.le_trans (Nat.add_le_add (h5 μ) (h6 μ)) (μ.cons _ _)⟩
    rw [← List.drop_drop]
    exact (List.take_append_drop _ _).symm

theorem Opn.struct {α β : Type} {R : Rd α} {wf : α → Prop} {ms : α → Nat} {fs : Array Field} {l : List (Nat × TypeId)} {g : β → α} (mk : α → β) (hg : ∀ d, g (mk d) = d) (ht : P.underlying t = some (.struct fs)) (hl : fs.toList.map (fun f => (f.offset, f.type)) = l) (hc : R.sz = P.cellsOf t)
    (h : OpnP P l 0 R wf ms) : Opn P t (Rd.via R g) (fun s => wf (g s)) (fun s => ms (g s) + 1) :=
  ⟨hc, fun H enc W fuel cs x hx => by
    obtain ⟨xs, n, _, rfl, hlen, hxl, hf⟩ := DataW.trod_struct ht hx
    obtain ⟨d, h1, h2, h3⟩ := h H enc W n cs xs (by rw [hxl, ← hl]; simp) (fun i p hp => by
      rw [← hl, List.getElem?_map] at hp
      obtain ⟨f, hf', rfl⟩ := Option.map_eq_some_iff.1 hp
      exact hf i f (by simpa using hf')) (by rw [hlen, hc]; omega)
    refine ⟨mk d, ?_, by show wf (g (mk d)); rw [hg]; exact h2, fun μ => ?_⟩
    · show R.ok _ (g (mk d)) cs
      rw [hg]
      simpa using h1
    · show ms (g (mk d)) + 1 ≤ _
      rw [hg]
      exact Nat.le_trans (Nat.succ_le_succ (h3 μ)) (μ.agg _)⟩

/-- How many elements a reading of a slice has. -/
theorem slice_weight {H : Type} {enc : TypeId × Value → H} {W : World} {fuel : Nat} {v : Value} {d : DataW H} {ps : List MemPlace} {α : Type} {R : Rd α} {l : List α} {m : Ro} (ht : P.underlying t = some (.slice e)) (h : DataW.trod enc P W 0 (fun _ => true) true fuel t v.cells.toList = some (d, ps))
    (hl : (Rd.slice R).ok m l v.cells.toList) : l = [] ∨ ∃ elems spare, d = .slice elems spare ∧ elems.length = l.length := by
  rcases DataW.trod_slice ht h with ⟨hc, _⟩ | ⟨a, len, cap, elems, rest, n, _, hc, hx, _, _, _, hlen, _⟩
  · rcases hl with ⟨rfl, _⟩ | ⟨b, off, c, tt, fr, cap, hc', _⟩
    · exact .inl rfl
    · rw [hc] at hc'; simp at hc'
  · rcases hl with ⟨rfl, _⟩ | ⟨b, off, c, tt, fr, cap', hc', _⟩
    · exact .inl rfl
    · rw [hc] at hc'
      simp at hc'
      refine .inr ⟨_, _, congrArg Prod.fst hx, ?_⟩
      simp only [List.length_map, hlen]
      exact hc'.2.1

end

/-- More rounds tell the same. -/
structure Le {α : Type} (x y : Option α) : Prop where
  h : ∀ r, x = some r → y = some r
theorem Le.rfl {α : Type} {x : Option α} : Le x x := ⟨fun _ h => h⟩
theorem Le.none {α : Type} {x y : Option α} (h : x = Option.none) : Le x y := ⟨fun r hr => by rw [h] at hr; cases hr⟩
theorem Le.bind {α β : Type} {x y : Option α} {f g : α → Option β} (h : Le x y) (k : ∀ a, Le (f a) (g a)) : Le (x.bind f) (y.bind g) := ⟨fun r hr => by
  obtain ⟨a, h1, h2⟩ := Option.bind_eq_some_iff.1 hr
  exact Option.bind_eq_some_iff.2 ⟨a, h.h a h1, (k a).h r h2⟩⟩
theorem Le.cond {α : Type} {b : Bool} {x x' y y' : Option α} (h : Le x x') (k : Le y y') : Le (bif b then x else y) (bif b then x' else y') := by
  cases b <;> assumption
end Go.Q
