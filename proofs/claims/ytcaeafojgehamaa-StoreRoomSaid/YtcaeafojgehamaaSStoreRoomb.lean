/- Texts joined: part 2 of what LStoreRoom stands on. -/
import Derived.Test.YtcaeafojgehamaaSStoreRooma
import Derived.RangeFuncCalls
import Derived.Laws.BytesString
import Derived.ChangeArms
import Derived.Carry
import Derived.Lib.ConvBytes
import Derived.Lib.MakeNoZero
import Derived.Lib.UnsafeStr
import Derived.Lib.Builder
import Derived.Laws.Strings
import Derived.Laws.StructEq
import Derived.RecoverIn
import Derived.WideLaws
import Derived.MapKept
import Derived.WideKeyRuns
namespace Go.Q
open Go
set_option linter.unusedVariables false
set_option linter.unusedSimpArgs false
mutual
/-- Nothing in it is only borrowed. -/
def AVal.pers (q : Bool) : AVal → Bool
  | .ro _ b _ => q || !b
  | .fn _ l => persL q l
  | .agg l => persL q l
  | .tup l => persL q l
  | .ifc _ a => AVal.pers q a
  | _ => true
def persL (q : Bool) : List AVal → Bool
  | [] => true
  | a :: l => AVal.pers q a && persL q l
end
/-- No marks among them. -/
def noMarks (M : Mem) : Bool := (List.range M.n).all fun i => !(M.at_ i).mark
theorem noMarks_get {M : Mem} (h : noMarks M = true) {i : Nat} (hi : i < M.n) : (M.at_ i).mark = false := by
  have := List.all_eq_true.1 h i (List.mem_range.2 hi)
  simpa using this
def Chunk.pers (q : Bool) : Chunk → Bool
  | .cells _ l => persL q l
  | .rowt _ _ _ a => a.pers q
  | .obj (.map _ _) => true
  | .obj _ => false
  | .bag => false
  | _ => true
/-- A naming within another. -/
structure Into (e e' : Nv) (q : Bool) (s : Nat → Nat) : Prop where
  mem : q = true → ∀ b, Ro.le (e.mem b) (e'.mem b)
  m : Ro.le e.m e'.m
  lt : ∀ j, j < e.n → s j < e'.n
  own : ∀ j, j < e.n → e'.own (s j) = e.own j
  caps : ∀ j, j < e.n → e'.caps (s j) = e.caps j
  lens : ∀ j, j < e.n → e'.lens (s j) = e.lens j
  vir : ∀ j, j < e.n → e'.vir (s j) = e.vir j
mutual
theorem Val.into {e e' : Nv} {q : Bool} {s : Nat → Nat} (h : Into e e' q s) : ∀ {a : AVal} {v : Value}, Val e a v → a.pers q = true → Val e' (a.ren s) v
  | .any, _, _, _ => by simp [AVal.ren, Val]
  | .lit _, _, k, _ => by simpa [AVal.ren, Val] using k
  | .ptr i off, v, k, _ => by
    simp only [Val] at k
    simp only [AVal.ren, Val, h.own i k.1, h.vir i k.1]
    exact ⟨h.lt i k.1, k.2⟩
  | .opt c i off, v, k, _ => by
    simp only [Val] at k
    simp only [AVal.ren, Val, h.own i k.1, h.vir i k.1]
    exact ⟨h.lt i k.1, k.2⟩
  | .mp i, v, k, _ => by
    simp only [Val] at k
    simp only [AVal.ren, Val, h.own i k.1, h.vir i k.1]
    exact ⟨h.lt i k.1, k.2⟩
  | .whole i, v, k, _ => by
    simp only [Val] at k
    simp only [AVal.ren, Val, h.own i k.1, h.vir i k.1, h.lens i k.1, h.caps i k.1]
    exact ⟨h.lt i k.1, k.2⟩
  | .sl i sz off len, v, k, _ => by
    simp only [Val] at k
    simp only [AVal.ren, Val, h.own i k.1, h.vir i k.1, h.caps i k.1]
    exact ⟨h.lt i k.1, k.2⟩
  | .ro R b d, v, k, hp => by
    have hb : q = true ∨ b = false := by simpa [AVal.pers] using hp
    rcases hb with hb | hb
    · simp only [Val] at k
      simp only [AVal.ren, Val]
      exact R.mono (h.mem hb b) k
    · subst hb
      simp only [Val, Nv.mem_false] at k
      simp only [AVal.ren, Val, Nv.mem_false]
      exact R.mono h.m k
  | .fn f l, v, k, hp => by
    simp only [AVal.pers] at hp
    simp only [Val] at k
    obtain ⟨vs, h1, h2⟩ := k
    simp only [AVal.ren, Val]
    exact ⟨vs, h1, Vals.into h h2 hp⟩
  | .agg l, v, k, hp => by
    simp only [AVal.pers] at hp
    simp only [Val] at k
    obtain ⟨vs, h1, h2, h3⟩ := k
    simp only [AVal.ren, Val]
    exact ⟨vs, h1, Vals.into h h2 hp, h3⟩
  | .tup l, v, k, hp => by
    simp only [AVal.pers] at hp
    simp only [Val] at k
    obtain ⟨vs, h1, h2⟩ := k
    simp only [AVal.ren, Val]
    exact ⟨vs, h1, Vals.into h h2 hp⟩
  | .ifc t a, v, k, hp => by
    simp only [AVal.pers] at hp
    simp only [Val] at k
    obtain ⟨x, h1, h2⟩ := k
    simp only [AVal.ren, Val]
    exact ⟨x, h1, Val.into h h2 hp⟩
theorem Vals.into {e e' : Nv} {q : Bool} {s : Nat → Nat} (h : Into e e' q s) : ∀ {l : List AVal} {vs : List Value}, Vals e l vs → persL q l = true → Vals e' (renL s l) vs
  | [], _, k, _ => by simpa [renL, Vals] using k
  | a :: l, vs, k, hp => by
    simp only [persL, Bool.and_eq_true] at hp
    simp only [Vals] at k
    obtain ⟨v, ws, h1, h2, h3⟩ := k
    simp only [renL, Vals]
    exact ⟨v, ws, h1, Val.into h h2 hp.1, Vals.into h h3 hp.2⟩
end
theorem Chunk.into {e e' : Nv} {q : Bool} {s : Nat → Nat} {w : World} {j : Nat} {c : Chunk} (h : Into e e' q s) (hj : j < e.n) (k : c.ok e w j) (hp : c.pers q = true) : (c.ren s).ok e' w (s j) := by
  cases c with
  | gone => trivial
  | cells t l =>
    obtain ⟨h0, vs, h1, h2, h3⟩ := k
    exact ⟨(h.vir j hj).trans h0, vs, by rw [h.own j hj]; exact h1, Vals.into h h2 hp, h3⟩
  | row t R l =>
    obtain ⟨h1, h2, h3, h4⟩ := k
    refine ⟨(h.lens j hj).trans h1, by rw [h.caps j hj]; exact h2, by rw [h.caps j hj]; exact h3, ?_⟩
    rw [h.vir j hj, h.own j hj, h.caps j hj]
    cases hv : e.vir j with
    | true => rw [hv] at h4; simpa using h4
    | false =>
      rw [hv] at h4
      simp only [Bool.false_eq_true, if_false] at h4 ⊢
      obtain ⟨c, z, hb, hz, h5, h6⟩ := h4
      exact ⟨c, z, hb, hz, h5, rows_mono h.m h6⟩
  | rowt t R l a =>
    obtain ⟨h1, h2, h3, h4, h5, c, z, hb', hz, h6, h7, v, h8, h9, h10⟩ := k
    exact ⟨(h.vir j hj).trans h1, (h.lens j hj).trans h2, by rw [h.caps j hj]; exact h3, by rw [h.caps j hj]; exact h4, h5, c, z, by rw [h.own j hj]; exact hb', hz, by rw [h.caps j hj]; exact h6, rows_mono h.m h7, v, h8, Val.into h h9 hp, h10⟩
  | obj o => exact ⟨(h.vir j hj).trans k.1, by rw [h.own j hj]; exact k.2⟩
  | bag => exact (h.vir j hj).trans k
  | dict fk R l x =>
    obtain ⟨h0, es, clock, h1, h2, h3⟩ := k
    exact ⟨(h.vir j hj).trans h0, es, clock, by rw [h.own j hj]; exact h1, h2.mono h.m, h3⟩
  | iter i c es seen fk R rem =>
    obtain ⟨h0, ⟨h1, h2⟩, sn, h3, h4, h5⟩ := k
    exact ⟨(h.vir j hj).trans h0, ⟨h.lt i h1, (h.vir i h1).trans h2⟩, sn, by rw [h.own j hj, h.own i h1]; exact h3, h4.mono h.m, h5.mono h.m⟩
theorem Chunk.live_into {e e' : Nv} {q : Bool} {s : Nat → Nat} {j : Nat} {c : Chunk} (h : Into e e' q s) (hj : j < e.n) : (c.ren s).live e' (s j) ↔ c.live e j := by
  cases c <;> simp [Chunk.live, Chunk.ren, h.vir j hj]
/-- At which place does a number stand? -/
def findAt : List Nat → Nat → Nat → Option Nat
  | [], _, _ => none
  | x :: l, i, k => bif Nat.beq x i then some k else findAt l i (k + 1)
theorem findAt_some : ∀ {l : List Nat} {i k j : Nat}, findAt l i k = some j → k ≤ j ∧ l[j - k]? = some i
  | [], _, _, _, h => by simp [findAt] at h
  | x :: l, i, k, j, h => by
    simp only [findAt] at h
    cases hb : Nat.beq x i with
    | true =>
      rw [hb] at h
      simp only [cond_true, Option.some.injEq] at h
      subst h
      have := Nat.eq_of_beq_eq_true hb
      subst this
      simp
    | false =>
      rw [hb] at h
      simp only [cond_false] at h
      obtain ⟨h1, h2⟩ := findAt_some h
      refine ⟨by omega, ?_⟩
      rw [show j - k = (j - (k + 1)) + 1 by omega]
      simpa using h2
theorem findAt_none : ∀ {l : List Nat} {i k : Nat}, findAt l i k = none → i ∉ l
  | [], _, _, _ => by simp
  | x :: l, i, k, h => by
    simp only [findAt] at h
    cases hb : Nat.beq x i with
    | true => rw [hb] at h; simp at h
    | false =>
      rw [hb] at h
      simp only [cond_false] at h
      have hx : x ≠ i := by intro hx; subst hx; simp at hb
      simp only [List.mem_cons, not_or]
      exact ⟨fun h => hx h.symm, findAt_none h⟩
/-- The memory behind a call: the callee's chunks under the caller's names. -/
def merge (M : Mem) (s t : List Nat) (M' : Mem) (N : Nat) : Mem :=
  ⟨N, fun i => match findAt t i 0 with
    | some j => (M'.at_ j).ren (sub t)
    | none => bif Nat.blt i M.n && !(findAt s i 0).isSome then M.at_ i else .gone, match M'.pool with | some p => some p | none => M.pool⟩
/-- The caller's memory, with the pool that it lends. -/
def Mem.asP (M : Mem) (p : Option Pool) : Mem := ⟨M.n, M.at_, p⟩
/-- The names fit: s the caller's of the chunks handed in, t those of the chunks handed back. -/
def tauOk (s t : List Nat) (np n nc nc' N : Nat) : Bool :=
  Nat.beq s.length nc && Nat.beq t.length nc' && decide t.Nodup && Nat.ble np nc && Nat.ble np nc' && ((List.range np).all fun j => Nat.beq (sub t j) (sub s j)) &&
  ((List.range nc').all fun j => Nat.blt j np || Nat.ble n (sub t j)) && ((List.range nc').all fun j => Nat.blt (sub t j) N) && Nat.ble n N
/-- The naming in the callee: some chunks of our own only borrowed. -/
def Nv.lend (e : Nv) (w : World) (bor : List Nat) : Nv :=
  { e with bm := ⟨fun b => if (bor.any fun i => e.own i == b) then w.heap[b]? else e.bm b, e.bm.tab⟩ }
theorem sub_mem {l : List Nat} {j : Nat} (h : j < l.length) : sub l j ∈ l := by
  unfold sub
  rw [List.getD_eq_getElem?_getD, List.getElem?_eq_getElem h]
  simp
theorem mem_same {e e' : Nv} (hm : e'.m = e.m) (hb : Ro.le e.bm e'.bm) (b : Bool) : Ro.le (e.mem b) (e'.mem b) := by
  refine ⟨fun k o h => ?_, fun i a h => by simp only [Nv.mem] at *; rw [hm]; exact h⟩
  simp only [Nv.mem] at *
  rw [hm]
  cases hk : e.m k with
  | some x => rw [hk] at h; exact h
  | none =>
    rw [hk] at h
    simp only at h ⊢
    split at h
    · rename_i hb'; rw [if_pos hb']; exact hb.f _ _ h
    · cases h
section
variable {cx : Cx} {e : Nv} {M Mc : Mem} {w : World}
/-- The chunks that are lent: those that have a block. -/
def lent (e : Nv) (bor : List Nat) : List Nat := bor.filter fun i => !e.vir i
/-- Of what is lent each is a live chunk, or a row without a block. -/
def borOk (M : Mem) (s bor : List Nat) : Prop := AllLt bor.length fun k => Nat.blt (bor.getD k 0) M.n = true ∧ (findAt s (bor.getD k 0) 0).isNone = true ∧ (match M.at_ (bor.getD k 0) with | .cells .. | .row .. => True | _ => False)
theorem borOk.get {s bor : List Nat} (h : borOk M s bor) {i : Nat} (hi : i ∈ bor) : i < M.n ∧ i ∉ s ∧ (match M.at_ i with | .cells .. | .row .. => True | _ => False) := by
  obtain ⟨k, hk, rfl⟩ := List.mem_iff_getElem.1 hi
  have := AllLt.get h hk
  rw [List.getD_eq_getElem?_getD, List.getElem?_eq_getElem hk] at this
  simp only [Option.getD_some] at this
  exact ⟨by simpa using this.1, findAt_none (by simpa using this.2.1), this.2.2⟩
theorem bor_live (hh : Hold cx e M w) {s bor : List Nat} (h : borOk M s bor) {i : Nat} (hi : i ∈ lent e bor) : i < e.n ∧ i ∉ s ∧ (M.at_ i).live e i := by
  obtain ⟨h1, h2⟩ := List.mem_filter.1 hi
  obtain ⟨g1, g2, g3⟩ := h.get h1
  refine ⟨by rw [hh.n]; exact g1, g2, ?_⟩
  cases hc : M.at_ i with
  | cells t l => trivial
  | row t R l => simpa [Chunk.live] using h2
  | rowt t R l a => rw [hc] at g3; exact g3.elim
  | gone => rw [hc] at g3; exact g3.elim
  | obj o => rw [hc] at g3; exact g3.elim
  | bag => rw [hc] at g3; exact g3.elim
  | dict fk R l x => rw [hc] at g3; exact g3.elim
  | iter j c es seen fk R rem => rw [hc] at g3; exact g3.elim
/-- The naming in the callee. -/
def calleeNv (e : Nv) (w : World) (s bor : List Nat) (n : Nat) : Nv := (e.lend w (lent e bor)).re (sub s) n
theorem lend_bm (hh : Hold cx e M w) {s bor : List Nat} (h : borOk M s bor) : Ro.le e.bm (e.lend w (lent e bor)).bm := by
  refine ⟨fun b o hb => ?_, fun _ _ h => h⟩
  simp only [Nv.lend]
  split
  · rename_i hany
    obtain ⟨i, hi, hib⟩ := List.any_eq_true.1 hany
    obtain ⟨g1, _, g3⟩ := bor_live hh h hi
    have := (hh.live i g1 g3).2.2.1
    rw [show e.own i = b by simpa using hib] at this
    rw [this] at hb; cases hb
  · exact hb
/-- The callee's beginning. -/
theorem Hold.enter (hh : Hold cx e M w) {s bor : List Nat} {np : Nat} (hM : LeM s 0 (M.asP Mc.pool) Mc) (hpl : Mc.pool = none ∨ Mc.pool = M.pool) (hnp' : (Nat.ble np Mc.n && noMarks Mc) = true) (hbor : borOk M s bor) :
    ∃ cx', Entry cx' np (calleeNv e w s bor Mc.n) Mc w ∧ Hold cx' (calleeNv e w s bor Mc.n) Mc w := by
  have hMok : AllLt Mc.n fun i => Mc.at_ i = .gone ∨ (Nat.blt (sub s i) M.n = true ∧ M.at_ (sub s i) = (Mc.at_ i).ren (sub s) ∧ (Mc.at_ i).under Mc.n = true) := hM.ok
  have hnp : Nat.ble np Mc.n = true := (Bool.and_eq_true_iff.1 hnp').1
  have hno : noMarks Mc = true := (Bool.and_eq_true_iff.1 hnp').2
  let e1 := calleeNv e w s bor Mc.n
  let cx' : Cx := { w0 := w, F := (fun b => (∃ i, i < Mc.n ∧ (Mc.at_ i).live e1 i ∧ e1.own i = b) ∨ inPool e1 Mc b), m0 := e1.m, bm := e1.bm, np := np, nv0 := e1, tb := (fun g l h => by obtain ⟨c, t, z, h1, h2⟩ := cx.tb g l h; exact ⟨c, t, z, hh.m0.f _ _ h1, h2⟩), op := (fun g h => by obtain ⟨x, c, t, z, h1, h2⟩ := cx.op g h; exact ⟨x, c, t, z, hh.m0.f _ _ h1, h2⟩) }
  have slen : s.length = Mc.n := by simpa using hM.len
  have live_of : ∀ i, i < Mc.n → (Mc.at_ i).live e1 i → sub s i < e.n ∧ (M.at_ (sub s i)).live e (sub s i) ∧ sub s i ∈ s := by
    intro i hi hl
    rcases hMok.get hi with h0 | ⟨h1, h2, _⟩
    · rw [h0] at hl; exact hl.elim
    · refine ⟨by rw [hh.n]; simpa using h1, ?_, sub_mem (by omega)⟩
      rw [h2]
      have : (Mc.at_ i).live e1 i ↔ ((Mc.at_ i).ren (sub s)).live e (sub s i) := by cases Mc.at_ i <;> exact Iff.rfl
      exact this.1 hl
  have hle : e.le (e.lend w (lent e bor)) := ⟨Ro.le.refl _, lend_bm hh hbor, Nat.le_refl _, fun _ _ => rfl, fun _ _ => rfl, fun _ _ => rfl, fun _ _ => rfl, fun _ _ => rfl⟩
  refine ⟨cx', ⟨rfl, rfl, rfl, rfl, fun b => Iff.rfl⟩, ⟨rfl, rfl, Nat.le_refl _, rfl, rfl, rfl, fun _ _ _ => rfl, hh.ro, ?_, Ro.le.refl _, fun b o h => .inl h, ?_, ?_, ?_, (by show np ≤ Mc.n; simpa using hnp), fun i hi => ⟨rfl, rfl, rfl, rfl⟩,
    ⟨fun i hi hm => absurd hm (by rw [noMarks_get hno hi]; simp), fun i hi hm => absurd hm (by rw [noMarks_get hno hi]; simp), fun i hi hm => absurd hm (by rw [noMarks_get hno hi]; simp), fun i j hi hj hm => absurd hm (by rw [noMarks_get hno hi]; simp)⟩, ?_⟩⟩
  · intro b o hb
    have hb' : (if ((lent e bor).any fun i => e.own i == b) then w.heap[b]? else e.bm b) = some o := hb
    split at hb'
    · exact hb'
    · exact hh.bro b o hb'
  · intro i hi
    rcases hMok.get hi with h0 | ⟨h1, h2, h3⟩
    · rw [h0]; trivial
    · have h1' : sub s i < e.n := by rw [hh.n]; simpa using h1
      have hk := hh.ch (sub s i) h1'
      rw [h2] at hk
      exact Chunk.re (Chunk.ok_mono hle (mem_same rfl (lend_bm hh hbor)) h1' hk) h3
  · intro i hi hl
    obtain ⟨h1, h2, h3⟩ := live_of i hi hl
    have hli := hh.live _ h1 h2
    refine ⟨hli.1, hli.2.1, ?_, .inl (.inl ⟨i, hi, hl, rfl⟩)⟩
    show (if ((lent e bor).any fun j => e.own j == e.own (sub s i)) then w.heap[e.own (sub s i)]? else e.bm (e.own (sub s i))) = none
    rw [if_neg, hli.2.2.1]
    intro hany
    obtain ⟨j, hj, hjb⟩ := List.any_eq_true.1 hany
    obtain ⟨g1, g2, g3⟩ := bor_live hh hbor hj
    have := hh.dist j (sub s i) g1 h1 g3 h2 (by simpa using hjb)
    subst this
    exact g2 h3
  · intro i j hi hj hli hlj hij
    obtain ⟨h1, h2, _⟩ := live_of i hi hli
    obtain ⟨h3, h4, _⟩ := live_of j hj hlj
    exact hM.inj' hi hj (hh.dist _ _ h1 h3 h2 h4 hij)
  · have up : ∀ {p}, Mc.pool = some p → M.pool = some p := fun h => by
      rcases hpl with h1 | h1
      · rw [h1] at h; cases h
      · rw [← h1]; exact h
    have ip : ∀ {p k a}, Mc.pool = some p → e.m.tab k = some a → inPool e M a := fun h1 h2 => ⟨by rw [up h1]; simp, _, h2⟩
    refine ⟨fun _ => rfl, fun p h0 => hh.pool.len p (up h0), fun p h0 => hh.pool.at_ p (up h0), fun p h0 k a h1 => ⟨(hh.pool.isFree (ip h0 h1)).1, ?_, .inl (.inr ⟨by rw [h0]; simp, k, h1⟩)⟩, fun p h0 k a h1 j hj hl => ?_, fun p h0 k a h1 i hi hm => absurd hm (by rw [noMarks_get hno hi]; simp), fun p h0 => hh.pool.inj p (up h0)⟩
    · show (if ((lent e bor).any fun j => e.own j == a) then w.heap[a]? else e.bm a) = none
      rw [if_neg, (hh.pool.isFree (ip h0 h1)).2.1]
      intro hany
      obtain ⟨j, hj, hjb⟩ := List.any_eq_true.1 hany
      obtain ⟨g1, g2, g3⟩ := bor_live hh hbor hj
      exact hh.pool.notOwn (ip h0 h1) g1 g3 (by simpa using hjb)
    · obtain ⟨g1, g2, _⟩ := live_of j hj hl
      exact hh.pool.notOwn (ip h0 h1) g1 g2
/-- What the caller holds behind the call. -/
theorem Hold.leave (hh : Hold cx e M w) {s t bor : List Nat} {np N : Nat} {cx' : Cx} {Mc' : Mem} {e' : Nv} {w' : World} (hM : LeM s 0 (M.asP Mc.pool) Mc) (hpl : Mc.pool = none ∨ Mc.pool = M.pool) (hpl' : Mc'.pool.isSome = Mc.pool.isSome) (hbor : borOk M s bor) (hent : Entry cx' np (calleeNv e w s bor Mc.n) Mc w) (hin : Hold cx' (calleeNv e w s bor Mc.n) Mc w) (hh' : Hold cx' e' Mc' w')
    (htau : tauOk s t np M.n Mc.n Mc'.n N = true) (hp : AllLt Mc'.n fun j => (Mc'.at_ j).pers bor.isEmpty = true) :
    ∃ e2, Hold cx e2 (merge M s t Mc' N) w' ∧ (e.le e2 ∧ ∀ b, Ro.le (e.mem b) (e2.mem b)) ∧ Into e' e2 bor.isEmpty (sub t) ∧ (∀ b, b < w.heap.size → (∀ i ∈ s, i < e.n → (M.at_ i).live e i → e.own i ≠ b) → (Mc.pool.isSome = true → ¬ inPool e M b) → w'.heap[b]? = w.heap[b]?) ∧ w.heap.size ≤ w'.heap.size := by
  simp only [tauOk, Bool.and_eq_true, Nat.beq_eq, decide_eq_true_eq, Nat.ble_eq, List.all_eq_true, List.mem_range, Bool.or_eq_true, Nat.blt_eq] at htau
  obtain ⟨⟨⟨⟨⟨⟨⟨⟨t1, t2⟩, t3⟩, t4⟩, t5⟩, t6⟩, t7⟩, t8⟩, t9⟩ := htau
  have hMok : AllLt Mc.n fun i => Mc.at_ i = .gone ∨ (Nat.blt (sub s i) M.n = true ∧ M.at_ (sub s i) = (Mc.at_ i).ren (sub s) ∧ (Mc.at_ i).under Mc.n = true) := hM.ok
  have hw0 := hent.w0
  have hF := hent.F
  have tinj : ∀ {i j}, i < Mc'.n → j < Mc'.n → sub t i = sub t j → i = j := by
    intro i j hi hj hij
    unfold sub at hij
    rw [List.getD_eq_getElem?_getD, List.getD_eq_getElem?_getD, List.getElem?_eq_getElem (by omega), List.getElem?_eq_getElem (by omega)] at hij
    simp only [Option.getD_some] at hij
    have hp := List.pairwise_iff_getElem.1 t3
    rcases Nat.lt_trichotomy i j with h1 | h1 | h1
    · exact absurd hij (hp i j (by omega) (by omega) h1)
    · exact h1
    · exact absurd hij.symm (hp j i (by omega) (by omega) h1)
  have find_t : ∀ j, j < Mc'.n → findAt t (sub t j) 0 = some j := by
    intro j hj
    cases hf : findAt t (sub t j) 0 with
    | none => exact absurd (sub_mem (by omega)) (findAt_none hf)
    | some k =>
      obtain ⟨_, h2⟩ := findAt_some hf
      have hk : k < Mc'.n := by have := (List.getElem?_eq_some_iff.1 h2).1; omega
      have : sub t k = sub t j := by unfold sub; rw [List.getD_eq_getElem?_getD]; simp only [Nat.sub_zero] at h2; rw [h2]; rfl
      rw [tinj hk hj this]
  have find_lt : ∀ {i j}, findAt t i 0 = some j → j < Mc'.n ∧ sub t j = i := by
    intro i j hf
    obtain ⟨_, h2⟩ := findAt_some hf
    simp only [Nat.sub_zero] at h2
    refine ⟨by have := (List.getElem?_eq_some_iff.1 h2).1; omega, ?_⟩
    unfold sub; rw [List.getD_eq_getElem?_getD, h2]; rfl
  -- blocks of the callee's beginning
  have F_old : ∀ b, cx'.F b → (∃ i, i ∈ s ∧ i < e.n ∧ (M.at_ i).live e i ∧ e.own i = b) ∨ (Mc.pool.isSome = true ∧ inPool e M b) := by
    intro b hb
    rcases (hF b).1 hb with ⟨i, hi, hl, ho⟩ | ⟨h1, k, h2⟩
    rotate_left
    · refine .inr ⟨by cases hq : Mc.pool with | none => exact absurd hq h1 | some p => rfl, ?_, k, h2⟩
      rcases hpl with h3 | h3
      · exact absurd h3 h1
      · rw [← h3]; exact h1
    refine .inl ?_
    rcases hMok.get hi with h0 | ⟨h1, h2, _⟩
    · rw [h0] at hl; exact hl.elim
    · refine ⟨sub s i, sub_mem (by have : s.length = Mc.n := t1; omega), by rw [hh.n]; simpa using h1, ?_, ho⟩
      rw [h2]
      have : (Mc.at_ i).live (calleeNv e w s bor Mc.n) i ↔ ((Mc.at_ i).ren (sub s)).live e (sub s i) := by cases Mc.at_ i <;> exact Iff.rfl
      exact this.1 hl
  have hsz : w.heap.size ≤ w'.heap.size := by have := hh'.size; rw [hw0] at this; exact this
  have hframe : ∀ b, b < w.heap.size → (∀ i ∈ s, i < e.n → (M.at_ i).live e i → e.own i ≠ b) → (Mc.pool.isSome = true → ¬ inPool e M b) → w'.heap[b]? = w.heap[b]? := by
    intro b hb hne hnp
    have := hh'.frame b (by rw [hw0]; exact hb) (fun hFb => by
      rcases F_old b hFb with ⟨i, h1, h2, h3, h4⟩ | ⟨h1, h2⟩
      · exact hne i h1 h2 h3 h4
      · exact hnp h1 h2)
    rw [hw0] at this; exact this
  have hmle : Ro.le e.m e'.m := by
    have := hh'.m0
    rw [hent.m0] at this
    exact this
  have mnew : ∀ b o, e'.m b = some o → e.m b = some o ∨ ((∃ i, i ∈ s ∧ i < e.n ∧ (M.at_ i).live e i ∧ e.own i = b) ∨ (Mc.pool.isSome = true ∧ inPool e M b)) ∨ w.heap.size ≤ b := by
    intro b o hb
    rcases hh'.mnew b o hb with h | h | h
    · rw [hent.m0] at h; exact .inl h
    · exact .inr (.inl (F_old b h))
    · rw [hw0] at h; exact .inr (.inr h)
  have bmle : ∀ b o, e.bm b = some o → w'.heap[b]? = some o := by
    intro b o hb
    refine hh'.bro b o ?_
    rw [hh'.bm, ← hin.bm]
    exact (lend_bm hh hbor).f b o hb
  let e2 : Nv := { m := e'.m, bm := e.bm, own := fun i => match findAt t i 0 with | some j => e'.own j | none => e.own i, caps := fun i => match findAt t i 0 with | some j => e'.caps j | none => e.caps i,
                   lens := fun i => match findAt t i 0 with | some j => e'.lens j | none => e.lens i, vir := fun i => match findAt t i 0 with | some j => e'.vir j | none => e.vir i, n := N, bag := e.bag }
  have hnp' : cx'.np = np := hent.np
  have pinned : ∀ j, j < np → e'.own j = e.own (sub t j) ∧ e'.caps j = e.caps (sub t j) ∧ e'.lens j = e.lens (sub t j) ∧ e'.vir j = e.vir (sub t j) := by
    intro j hj
    have h := hh'.pin j (by rw [hnp']; exact hj)
    rw [hent.nv0] at h
    have hst : sub t j = sub s j := t6 j hj
    rw [hst]
    exact h
  have same : ∀ i, i < e.n → e2.own i = e.own i ∧ e2.caps i = e.caps i ∧ e2.lens i = e.lens i ∧ e2.vir i = e.vir i := by
    intro i hi
    show (match findAt t i 0 with | some j => e'.own j | none => e.own i) = _ ∧ (match findAt t i 0 with | some j => e'.caps j | none => e.caps i) = _ ∧ (match findAt t i 0 with | some j => e'.lens j | none => e.lens i) = _ ∧ (match findAt t i 0 with | some j => e'.vir j | none => e.vir i) = _
    cases hf : findAt t i 0 with
    | none => exact ⟨rfl, rfl, rfl, rfl⟩
    | some j =>
      obtain ⟨h1, h2⟩ := find_lt hf
      have hj : j < np := by
        rcases t7 j h1 with h | h
        · exact h
        · rw [h2, ← hh.n] at h; omega
      have := pinned j hj
      rw [h2] at this
      exact this
  have hq : bor.isEmpty = true → ∀ b, Ro.le (e'.mem b) (e2.mem b) := by
    intro hb b
    have hb0 : bor = [] := by simpa using hb
    have h1 : e'.bm = e2.bm := by
      have h2 : (calleeNv e w s bor Mc.n).bm = e.bm := by
        subst hb0
        simp [calleeNv, Nv.re, Nv.lend, lent]
      show e'.bm = e.bm
      rw [hh'.bm, ← hin.bm, h2]
    exact mem_same (e := e') (e' := e2) rfl (by rw [h1]; exact Ro.le.refl _) b
  have hinto : Into e' e2 bor.isEmpty (sub t) := by
    refine ⟨hq, Ro.le.refl _, fun j hj => t8 j (by rw [← hh'.n]; exact hj), ?_, ?_, ?_, ?_⟩ <;>
      (intro j hj
       have := find_t j (by rw [← hh'.n]; exact hj)
       simp only [e2, this])
  have hle : e.le e2 := ⟨hmle, Ro.le.refl _, by show e.n ≤ N; rw [hh.n]; exact t9, fun i hi => (same i hi).1, fun i hi => (same i hi).2.1, fun i hi => (same i hi).2.2.1, fun i hi => (same i hi).2.2.2, fun _ _ => rfl⟩
  have hmem : ∀ b, Ro.le (e.mem b) (e2.mem b) := fun b => Nv.mem_le hle (fun k x y hx _ hy => by
    have h1 := hh'.ro k x hx
    rw [bmle k y hy] at h1
    cases h1; rfl) b
  -- what is neither lent for good nor handed back stands as it stood
  have keep : ∀ i, i < e.n → i ∉ s → (M.at_ i).live e i → w'.heap[e.own i]? = w.heap[e.own i]? := by
    intro i hi hs hl
    refine hframe _ (hh.live i hi hl).1 (fun j hj hjn hjl hij => ?_) (fun _ hp => hh.pool.notOwn hp hi hl rfl)
    have := hh.dist j i hjn hi hjl hl hij
    subst this
    exact hs hj
  have at_some : ∀ {i j}, findAt t i 0 = some j → (merge M s t Mc' N).at_ i = (Mc'.at_ j).ren (sub t) := by
    intro i j hf; simp only [merge, hf]
  have at_none : ∀ {i}, findAt t i 0 = none → ((merge M s t Mc' N).at_ i = .gone ∨ (i < e.n ∧ i ∉ s ∧ (merge M s t Mc' N).at_ i = M.at_ i)) := by
    intro i hf
    simp only [merge, hf]
    cases hb : (Nat.blt i M.n && !(findAt s i 0).isSome) with
    | false => left; rfl
    | true =>
      right
      simp only [Bool.and_eq_true, Nat.blt_eq, Bool.not_eq_true', Option.isSome_eq_false_iff, Option.isNone_iff_eq_none] at hb
      exact ⟨by rw [hh.n]; exact hb.1, findAt_none hb.2, rfl⟩
  have own_some : ∀ {i j}, findAt t i 0 = some j → e2.own i = e'.own j := by intro i j hf; simp only [e2, hf]
  have live_some : ∀ {i j}, findAt t i 0 = some j → ((merge M s t Mc' N).at_ i).live e2 i → (Mc'.at_ j).live e' j := by
    intro i j hf hl
    obtain ⟨h1, h2⟩ := find_lt hf
    rw [at_some hf, ← h2] at hl
    exact (Chunk.live_into hinto (by rw [hh'.n]; exact h1)).1 hl
  have live_none : ∀ {i}, findAt t i 0 = none → ((merge M s t Mc' N).at_ i).live e2 i → i < e.n ∧ i ∉ s ∧ (M.at_ i).live e i := by
    intro i hf hl
    rcases at_none hf with h | ⟨h1, h2, h3⟩
    · rw [h] at hl; exact hl.elim
    · rw [h3] at hl
      exact ⟨h1, h2, (live_congr (same i h1).2.2.2).1 hl⟩
  have mk : ∀ i, i < N → ((merge M s t Mc' N).at_ i).mark = true → findAt t i 0 = none ∧ i < e.n ∧ i ∉ s ∧ (M.at_ i).mark = true := by
    intro i hi hm
    cases hf : findAt t i 0 with
    | some j =>
      obtain ⟨h1, _⟩ := find_lt hf
      rw [at_some hf] at hm
      have hpj := hp.get h1
      cases hc : Mc'.at_ j with
      | obj o =>
        cases o with
        | map es c => rw [hc] at hm; cases hm
        | _ => rw [hc] at hpj; cases hpj
      | bag => rw [hc] at hpj; cases hpj
      | gone => rw [hc] at hm; cases hm
      | cells t l => rw [hc] at hm; cases hm
      | row t R l => rw [hc] at hm; cases hm
      | rowt t R l a => rw [hc] at hm; cases hm
      | dict fk R l x => rw [hc] at hm; cases hm
      | iter j c es seen fk R rem => rw [hc] at hm; cases hm
    | none =>
      rcases at_none hf with h | ⟨h1, h2, h3⟩
      · rw [h] at hm; cases hm
      · rw [h3] at hm; exact ⟨rfl, h1, h2, hm⟩
  have hbag : BagOk cx e2 (merge M s t Mc' N) w' := by
    refine ⟨fun i hi hm => ?_, fun i hi hm x hx => ?_, fun i hi hm x hx j hj hlj => ?_, fun i j hi hj hmi hmj hij x hx => ?_⟩
    · obtain ⟨_, h1, _, h2⟩ := mk i hi hm
      exact hh.bag.nodup i h1 h2
    · obtain ⟨_, h1, _, h2⟩ := mk i hi hm
      obtain ⟨g1, g2, g3, g4⟩ := hh.bag.at_ i h1 h2 x hx
      have hlt : x < w.heap.size := (Array.getElem?_eq_some_iff.1 g1).1
      refine ⟨?_, ?_, g3, g4⟩
      · rw [hframe x hlt (fun k hk hn hl hkx => hh.bag.own i h1 h2 x hx k hn hl hkx) (fun _ hp => hh.pool.notBag hp h1 h2 hx)]
        exact g1
      · cases hy : e'.m x with
        | none => rfl
        | some o =>
          exfalso
          rcases mnew _ o hy with h5 | (⟨k, hk, hn, hlk, hkb⟩ | ⟨_, hp⟩) | h5
          · rw [g2] at h5; cases h5
          · exact hh.bag.own i h1 h2 x hx k hn hlk hkb
          · exact hh.pool.notBag hp h1 h2 hx
          · omega
    · obtain ⟨_, h1, _, h2⟩ := mk i hi hm
      have hlt : x < w.heap.size := (Array.getElem?_eq_some_iff.1 (hh.bag.at_ i h1 h2 x hx).1).1
      cases hf : findAt t j 0 with
      | some j' =>
        obtain ⟨g1, _⟩ := find_lt hf
        rw [own_some hf]
        have h := hh'.live j' (by rw [hh'.n]; exact g1) (live_some hf hlj)
        rcases h.2.2.2 with h5 | h5
        · rcases F_old _ h5 with ⟨k, _, hn, hlk, hkb⟩ | ⟨_, hp⟩
          · rw [← hkb]; exact hh.bag.own i h1 h2 x hx k hn hlk
          · exact fun he => hh.pool.notBag (he ▸ hp) h1 h2 hx
        · rw [hw0] at h5; omega
      | none =>
        obtain ⟨g1, g2, g3⟩ := live_none hf hlj
        rw [(same j g1).1]
        exact hh.bag.own i h1 h2 x hx j g1 g3
    · obtain ⟨_, h1, _, h2⟩ := mk i hi hmi
      obtain ⟨_, h3, _, h4⟩ := mk j hj hmj
      exact hh.bag.dist i j h1 h3 h2 h4 hij x hx
  refine ⟨e2, ⟨?_, rfl, ?_, ?_, ?_, ?_, ?_, ?_, ?_, ?_, ?_, ?_, ?_, ?_, ?_, ?_, hbag, ?_⟩, ⟨hle, hmem⟩, hinto, fun b hb hne hnp => hframe b hb hne hnp, hsz⟩
  · exact hh.bm
  · exact Nat.le_trans hh.size hsz
  · have := hh'.os; rw [hw0] at this; exact this.trans hh.os
  · have := hh'.tape; rw [hw0] at this; exact this.trans hh.tape
  · have := hh'.output; rw [hw0] at this; exact this.trans hh.output
  · intro b hb hFb
    rw [hframe b (Nat.lt_of_lt_of_le hb hh.size) (fun i _ hn hl hib => by
      rcases (hh.live i hn hl).2.2.2 with h | h
      · rw [hib] at h; exact hFb h
      · omega) (fun _ hp => by
      rcases (hh.pool.isFree hp).2.2 with h | h
      · exact hFb h
      · omega)]
    exact hh.frame b hb hFb
  · exact hh'.ro
  · exact bmle
  · exact hh.m0.trans hmle
  · intro b o hb
    rcases mnew b o hb with h | (⟨i, _, hn, hl, hib⟩ | ⟨_, hp⟩) | h
    · exact hh.mnew b o h
    · rw [← hib]; exact .inr (hh.live i hn hl).2.2.2
    · exact .inr (hh.pool.isFree hp).2.2
    · exact .inr (.inr (Nat.le_trans hh.size h))
  · intro i hi
    cases hf : findAt t i 0 with
    | some j =>
      obtain ⟨h1, h2⟩ := find_lt hf
      rw [at_some hf, ← h2]
      exact Chunk.into hinto (by rw [hh'.n]; exact h1) (hh'.ch j (by rw [hh'.n]; exact h1)) (hp.get h1)
    | none =>
      rcases at_none hf with h | ⟨h1, h2, h3⟩
      · rw [h]; trivial
      · rw [h3]
        exact Chunk.ok_mono hle hmem h1 (Chunk.ok_congr (hh.ch i h1) fun hl => keep i h1 h2 hl)
  · intro i hi hl
    cases hf : findAt t i 0 with
    | some j =>
      obtain ⟨h1, h2⟩ := find_lt hf
      rw [own_some hf]
      have h := hh'.live j (by rw [hh'.n]; exact h1) (live_some hf hl)
      refine ⟨h.1, h.2.1, ?_, ?_⟩
      · cases hx : e.bm (e'.own j) with
        | none => rfl
        | some o =>
          exfalso
          have h3 := (lend_bm hh hbor).f _ o hx
          have h4 : (calleeNv e w s bor Mc.n).bm (e'.own j) = some o := h3
          rw [hin.bm, ← hh'.bm, h.2.2.1] at h4
          cases h4
      · rcases h.2.2.2 with h5 | h5
        · rcases F_old _ h5 with ⟨k, _, hn, hlk, hkb⟩ | ⟨_, hp⟩
          · rw [← hkb]; exact (hh.live k hn hlk).2.2.2
          · exact (hh.pool.isFree hp).2.2
        · rw [hw0] at h5; exact .inr (Nat.le_trans hh.size h5)
    | none =>
      obtain ⟨h1, h2, h3⟩ := live_none hf hl
      have h := hh.live i h1 h3
      rw [(same i h1).1]
      refine ⟨Nat.lt_of_lt_of_le h.1 hsz, ?_, h.2.2⟩
      cases hx : e'.m (e.own i) with
      | none => rfl
      | some o =>
        exfalso
        rcases mnew _ o hx with h5 | (⟨k, hk, hn, hlk, hkb⟩ | ⟨_, hp⟩) | h5
        · rw [h.2.1] at h5; cases h5
        · have := hh.dist k i hn h1 hlk h3 hkb
          subst this; exact h2 hk
        · exact hh.pool.notOwn hp h1 h3 rfl
        · omega
  · intro i j hi hj hli hlj hij
    cases hfi : findAt t i 0 with
    | some a =>
      obtain ⟨ha1, ha2⟩ := find_lt hfi
      rw [own_some hfi] at hij
      have hla := live_some hfi hli
      cases hfj : findAt t j 0 with
      | some b =>
        obtain ⟨hb1, hb2⟩ := find_lt hfj
        rw [own_some hfj] at hij
        have := hh'.dist a b (by rw [hh'.n]; exact ha1) (by rw [hh'.n]; exact hb1) hla (live_some hfj hlj) hij
        subst this
        rw [← ha2, ← hb2]
      | none =>
        obtain ⟨h1, h2, h3⟩ := live_none hfj hlj
        rw [(same j h1).1] at hij
        exfalso
        rcases (hh'.live a (by rw [hh'.n]; exact ha1) hla).2.2.2 with h5 | h5
        · rcases F_old _ h5 with ⟨k, hk, hn, hlk, hkb⟩ | ⟨_, hp⟩
          · have := hh.dist k j hn h1 hlk h3 (hkb.trans hij)
            subst this; exact h2 hk
          · exact hh.pool.notOwn hp h1 h3 hij.symm
        · rw [hw0, hij] at h5; have := (hh.live j h1 h3).1; omega
    | none =>
      obtain ⟨g1, g2, g3⟩ := live_none hfi hli
      rw [(same i g1).1] at hij
      cases hfj : findAt t j 0 with
      | some b =>
        obtain ⟨hb1, hb2⟩ := find_lt hfj
        rw [own_some hfj] at hij
        exfalso
        rcases (hh'.live b (by rw [hh'.n]; exact hb1) (live_some hfj hlj)).2.2.2 with h5 | h5
        · rcases F_old _ h5 with ⟨k, hk, hn, hlk, hkb⟩ | ⟨_, hp⟩
          · have := hh.dist k i hn g1 hlk g3 (hkb.trans hij.symm)
            subst this; exact g2 hk
          · exact hh.pool.notOwn hp g1 g3 hij
        · rw [hw0, ← hij] at h5; have := (hh.live i g1 g3).1; omega
      | none =>
        obtain ⟨h1, h2, h3⟩ := live_none hfj hlj
        rw [(same j h1).1] at hij
        exact hh.dist i j g1 h1 g3 h3 hij
  · show cx.np ≤ N
    exact Nat.le_trans hh.np (by rw [hh.n]; exact t9)
  · intro i hi
    have hi' : i < e.n := Nat.lt_of_lt_of_le hi hh.np
    have := same i hi'
    rw [this.1, this.2.1, this.2.2.1, this.2.2.2]
    exact hh.pin i hi
  · cases hq : Mc'.pool with
    | none =>
      have hq0 : Mc.pool = none := by
        rw [hq] at hpl'
        cases h : Mc.pool with
        | none => rfl
        | some p => rw [h] at hpl'; cases hpl'
      have htab : e2.m.tab = e.m.tab := by
        show e'.m.tab = e.m.tab
        rw [hh'.pool.no hq, hent.m0]; rfl
      refine hh.pool.keep (by simp [merge, hq]) htab hmle (fun b hb => ?_) (fun b hb j hj hlj => ?_) (fun b hb i hi hm => ?_)
      · refine ⟨hframe b (hh.pool.lt hb) (fun i _ hn hl => hh.pool.notOwn hb hn hl) (fun h => by rw [hq0] at h; cases h), ?_, (hh.pool.isFree hb).2.1⟩
        cases hx : e'.m b with
        | none => rfl
        | some o =>
          exfalso
          rcases mnew _ o hx with h5 | (⟨k, hk, hn, hlk, hkb⟩ | ⟨h5, _⟩) | h5
          · rw [(hh.pool.isFree hb).1] at h5; cases h5
          · exact hh.pool.notOwn hb hn hlk hkb
          · rw [hq0] at h5; cases h5
          · have := hh.pool.lt hb; omega
      · cases hf : findAt t j 0 with
        | some j' =>
          obtain ⟨g1, _⟩ := find_lt hf
          rw [own_some hf]
          have h := hh'.live j' (by rw [hh'.n]; exact g1) (live_some hf hlj)
          rcases h.2.2.2 with h5 | h5
          · rcases F_old _ h5 with ⟨k, _, hn, hlk, hkb⟩ | ⟨h6, _⟩
            · rw [← hkb]; exact hh.pool.notOwn hb hn hlk
            · rw [hq0] at h6; cases h6
          · rw [hw0] at h5; have := hh.pool.lt hb; omega
        | none =>
          obtain ⟨g1, g2, g3⟩ := live_none hf hlj
          rw [(same j g1).1]
          exact hh.pool.notOwn hb g1 g3
      · obtain ⟨_, h1, _, h2⟩ := mk i hi hm
        exact hh.pool.notBag hb h1 h2
    | some p =>
      have hmp : (merge M s t Mc' N).pool = some p := by simp [merge, hq]
      have ip : ∀ {k a}, e'.m.tab k = some a → inPool e' Mc' a := fun h => ⟨by rw [hq]; simp, _, h⟩
      refine ⟨fun h => (by rw [hmp] at h; cases h), fun p' h0 => ?_, fun p' h0 => ?_, fun p' h0 k a h1 => ?_, fun p' h0 k a h1 j hj hlj => ?_, fun p' h0 k a h1 i hi hm => ?_, fun p' h0 => ?_⟩
      · rw [hmp] at h0; cases h0; exact hh'.pool.len p hq
      · rw [hmp] at h0; cases h0; exact hh'.pool.at_ p hq
      · have hfr := hh'.pool.isFree (ip h1)
        refine ⟨hfr.1, ?_, ?_⟩
        · cases hx : e.bm a with
          | none => rfl
          | some o =>
            exfalso
            have h4 : (calleeNv e w s bor Mc.n).bm a = some o := (lend_bm hh hbor).f _ o hx
            rw [hin.bm, ← hh'.bm, hfr.2.1] at h4
            cases h4
        · rcases hfr.2.2 with h5 | h5
          · rcases F_old _ h5 with ⟨i, _, hn, hl, hib⟩ | ⟨_, hp0⟩
            · rw [← hib]; exact (hh.live i hn hl).2.2.2
            · exact (hh.pool.isFree hp0).2.2
          · rw [hw0] at h5; exact .inr (Nat.le_trans hh.size h5)
      · cases hf : findAt t j 0 with
        | some j' =>
          obtain ⟨g1, _⟩ := find_lt hf
          rw [own_some hf]
          exact hh'.pool.notOwn (ip h1) (by rw [hh'.n]; exact g1) (live_some hf hlj)
        | none =>
          obtain ⟨g1, g2, g3⟩ := live_none hf hlj
          rw [(same j g1).1]
          rcases (hh'.pool.isFree (ip h1)).2.2 with h5 | h5
          · rcases F_old _ h5 with ⟨k', hk, hn, hlk, hkb⟩ | ⟨_, hp0⟩
            · intro he
              have := hh.dist k' j hn g1 hlk g3 (hkb.trans he.symm)
              subst this; exact g2 hk
            · exact hh.pool.notOwn hp0 g1 g3
          · rw [hw0] at h5
            have := (hh.live j g1 g3).1
            omega
      · obtain ⟨_, g1, _, g2⟩ := mk i hi hm
        show a ∉ e.bag i
        rcases (hh'.pool.isFree (ip h1)).2.2 with h5 | h5
        · rcases F_old _ h5 with ⟨k', hk, hn, hlk, hkb⟩ | ⟨_, hp0⟩
          · exact fun hx => hh.bag.own i g1 g2 a hx k' hn hlk hkb
          · exact hh.pool.notBag hp0 g1 g2
        · rw [hw0] at h5
          exact fun hx => by have := hh.bag_lt g1 g2 hx; omega
      · rw [hmp] at h0; cases h0; exact hh'.pool.inj p hq
end
end Go.Q
namespace Go.Q
open Go
set_option linter.unusedVariables false
set_option linter.unusedSimpArgs false
/-- An operation of whatever kind that comes to a value: in the words of what is walked next. -/
def Runs (P : Program) (op : Op) (ty : TypeId) (E : Env) (M : Mem) (tc : List Nat) (v : AVal) (M' : Mem) : Prop :=
  ∀ cx (fr : Fr) a w e, Hold cx e M w → Emb fr.nt e M E a → ∀ (o : Oper), o.op = op → o.type = ty → ∀ (next : Act → World → Prop) (Q : Exit → Act → World → Prop),
    (∀ x w' e', Hold cx e' M' w' → (e.le e' ∧ ∀ b, Ro.le (e.mem b) (e'.mem b)) → Val e' v x → (∀ b, b < w.heap.size → (∀ i ∈ tc, i < e.n → (M.at_ i).live e i → e.own i ≠ b) → ∀ {_ : poolIx ∈ tc → ¬ inPool e M b}, w'.heap[b]? = w.heap[b]?) → w.heap.size ≤ w'.heap.size → next (a.put o.dst x) w') →
    o.wpIn (fence P fr.r) 0 P a w next Q
theorem Does.runs {P : Program} {op : Op} {ty : TypeId} {E : Env} {M M' : Mem} {tc : List Nat} {v : AVal} (h : Does P op ty E M tc v M') : Runs P op ty E M tc v M' :=
  fun cx fr a w e hh he o ho ht next Q k => by
    obtain ⟨x, w', e', hr, hh', hle, hv, h1, h2⟩ := h cx fr.nt a w e hh he
    refine ⟨about_some (o := o) (by rw [execOp_one, ho, ht]; exact hr), ?_⟩
    rw [semAt_value (by rw [ho, ht]; exact hr)]
    exact k x w' e' hh' hle hv h1 h2
/-- An operation that panics. -/
def RunsP (P : Program) (op : Op) (ty : TypeId) (E : Env) (M : Mem) (v : AVal) (M' : Mem) : Prop :=
  ∀ cx (fr : Fr) a w e, Hold cx e M w → Emb fr.nt e M E a → ∀ (o : Oper), o.op = op → o.type = ty → ∀ (next : Act → World → Prop) (Q : Exit → Act → World → Prop),
    (∀ x w' e', Hold cx e' M' w' → (e.le e' ∧ ∀ b, Ro.le (e.mem b) (e'.mem b)) → Val e' v x → Q (.panic [{ v := x, recovered := false }]) a w') →
    o.wpIn (fence P fr.r) 0 P a w next Q
/-- A function of the program that has a body. -/
structure FnIs (P : Program) (f : FuncId) : Prop where
  h : ∃ fn, P.funcs[f]? = some fn ∧ fn.body.isSome = true ∧ (fn.name == "runtime.NumGoroutine") = false
/-- The arguments, in the caller's words and in the callee's. -/
def ArgsOk (M : Mem) (s bor : List Nat) (n : Nat) (la lc : List AVal) : Prop :=
  ∀ cx e w, Hold cx e M w → borOk M s bor → ∀ vs, Vals e la vs → Vals (calleeNv e w s bor n) lc vs
section
variable {M : Mem} {s bor : List Nat} {n : Nat} {la lc : List AVal}
theorem ArgsOk.nil : ArgsOk M s bor n [] [] := fun _ _ _ _ _ _ h => by simpa [Vals] using h
theorem le_true (e : Nv) : Ro.le e.m (e.mem true) := ⟨fun k o hk => by simp only [Nv.mem]; rw [hk], fun _ _ h => h⟩
theorem ArgsOk.cons {a c : AVal} (h : ∀ cx e w, Hold cx e M w → borOk M s bor → ∀ v, Val e a v → Val (calleeNv e w s bor n) c v) (k : ArgsOk M s bor n la lc) : ArgsOk M s bor n (a :: la) (c :: lc) :=
  fun cx e w hh hb vs hv => by
    simp only [Vals] at hv ⊢
    obtain ⟨v, ws, rfl, h1, h2⟩ := hv
    exact ⟨v, ws, rfl, h cx e w hh hb v h1, k cx e w hh hb ws h2⟩
theorem Val.lend {cx : Cx} {e : Nv} {w : World} {a : AVal} {v : Value} (hh : Hold cx e M w) (hb : borOk M s bor) (h : Val e a v) : Val (e.lend w (lent e bor)) a v :=
  Val.mono (e := e) (e' := e.lend w (lent e bor)) ⟨Ro.le.refl _, lend_bm hh hb, Nat.le_refl _, fun _ _ => rfl, fun _ _ => rfl, fun _ _ => rfl, fun _ _ => rfl, fun _ _ => rfl⟩ (mem_same rfl (lend_bm hh hb)) h
/-- An argument handed over as it is. -/
theorem ArgsOk.ren {a c : AVal} (ha : a = c.ren (sub s)) (hu : c.under n = true) (k : ArgsOk M s bor n la lc) : ArgsOk M s bor n (a :: la) (c :: lc) :=
  .cons (fun cx e w hh hb v hv => by
    subst ha
    exact (Val.lend hh hb hv).re hu) k
/-- What is read only, borrowed. -/
theorem ArgsOk.ro {α : Type} {R : Rd α} {d : α} (k : ArgsOk M s bor n la lc) : ArgsOk M s bor n (.ro R false d :: la) (.ro R true d :: lc) :=
  .cons (fun cx e w hh hb v hv => by
    have := Val.lend hh hb hv
    simp only [Val] at this ⊢
    rw [Nv.mem_false] at this
    exact R.mono (le_true _) this) k
/-- Nil as an empty slice. -/
theorem ArgsOk.nilSlice {α : Type} {R : Rd α} {b : Bool} (k : ArgsOk M s bor n la lc) : ArgsOk M s bor n (.lit (.slice none 0 0) :: la) (.ro (Rd.slice R) b [] :: lc) :=
  .cons (fun cx e w hh hb v hv => by
    simp only [Val] at hv
    subst hv
    simp only [Val, Rd.slice]
    exact .inl ⟨trivial, none, 0, rfl⟩) k
/-- A row of our own, borrowed. -/
theorem ArgsOk.row {α : Type} {R : Rd α} {l : List α} {i : Nat} {t : TypeId} (hc : M.at_ i = .row t R l) (hi : bor.contains i = true) (k : ArgsOk M s bor n la lc) : ArgsOk M s bor n (.whole i :: la) (.ro (Rd.slice R) true l :: lc) :=
  .cons (fun cx e w hh hb v hv => by
    simp only [Val] at hv
    have hk := hh.ch i hv.1
    rw [hc] at hk
    obtain ⟨g1, g2, g3, g4⟩ := hk
    have hv3 := hv.2.2
    simp only [Val, Rd.slice]
    cases hvir : e.vir i with
    | true =>
      rw [hvir] at hv3 g4
      simp only [if_true] at hv3 g4
      subst g4
      exact .inl ⟨rfl, none, 0, by rw [hv3.1]⟩
    | false =>
      rw [hvir] at hv3 g4
      simp only [Bool.false_eq_true, if_false] at hv3 g4
      obtain ⟨c, z, hbk, hz, hcs, hrow⟩ := g4
      have hlive : (M.at_ i).live e i := by rw [hc]; exact hvir
      have hli := hh.live i hv.1 hlive
      refine .inr ⟨e.own i, 0, c, t, z, e.caps i, by rw [hv3, g1], g2, ?_, ?_⟩
      · have h1 : (calleeNv e w s bor n).m (e.own i) = none := hli.2.1
        have h2 : (calleeNv e w s bor n).bm (e.own i) = some (.cells c t z) := by
          show (if ((lent e bor).any fun j => e.own j == e.own i) then w.heap[e.own i]? else e.bm (e.own i)) = _
          rw [if_pos]
          · exact hbk
          · exact List.any_eq_true.2 ⟨i, List.mem_filter.2 ⟨by simpa using hi, by simp [hvir]⟩, by simp⟩
        simp only [Nv.mem]
        rw [h1]
        simp only [if_true]
        exact h2
      · rw [List.drop_zero]
        exact rows_mono (le_true (calleeNv e w s bor n)) hrow) k
/-- A struct of our own behind a pointer, borrowed. -/
theorem ArgsOk.cells {α : Type} {R : Rd α} {d : α} {l : List AVal} {i : Nat} {t : TypeId} (hc : M.at_ i = .cells t l) (hj : Joins R false d l) (hl : Nat.beq l.length R.sz = true) (hi : bor.contains i = true) (k : ArgsOk M s bor n la lc) :
    ArgsOk M s bor n (.ptr i 0 :: la) (.ro (Rd.ptr R) true d :: lc) :=
  .cons (fun cx e w hh hb v hv => by
    simp only [Val] at hv
    have hk := hh.ch i hv.1
    rw [hc] at hk
    obtain ⟨hvir, vs, hbk, hvs, ho⟩ := hk
    have hlive : (M.at_ i).live e i := by rw [hc]; trivial
    have hli := hh.live i hv.1 hlive
    simp only [Val, Rd.ptr]
    refine ⟨e.own i, 0, vs.toArray, t, (0, 0), by rw [hv.2.2], ?_, ?_⟩
    · have h1 : (calleeNv e w s bor n).m (e.own i) = none := hli.2.1
      have h2 : (calleeNv e w s bor n).bm (e.own i) = some (.cells vs.toArray t (0, 0)) := by
        show (if ((lent e bor).any fun j => e.own j == e.own i) then w.heap[e.own i]? else e.bm (e.own i)) = _
        rw [if_pos]
        · exact hbk
        · exact List.any_eq_true.2 ⟨i, List.mem_filter.2 ⟨by simpa using hi, by simp [hvir]⟩, by simp⟩
      simp only [Nv.mem]
      rw [h1]
      simp only [if_true]
      exact h2
    · have hok := hj e vs hvs ho
      rw [Nv.mem_false] at hok
      have hlen : vs.length = R.sz := by rw [hvs.length]; simpa using hl
      rw [List.drop_zero, List.toList_toArray, List.take_of_length_le (by omega)]
      exact R.mono (le_true (calleeNv e w s bor n)) hok) k
end
section
variable {P : Program} {ty : TypeId} {E : Env} {M Mc Mc' : Mem} {fo : Operand} {f : FuncId} {cap lc : List AVal} {np N : Nat} {args : Array Operand} {tys : Array TypeId} {s t bor : List Nat} {v : AVal}
theorem run_enter {P : Program} {ρ : Operand → Value} {w : World} {us : List Value} (hfn : FnIs P f) (hf : ρ fo = .func (.func f) #[] us.toArray) :
    (exec1 ρ (.call { callee := .value fo, args := args, argTypes := tys }) ty).run P w = .ok (.enter f (args.map ρ ++ us.toArray)) w := by
  obtain ⟨fn, h1, h2, h3⟩ := hfn.h
  have hn : fn.body.isNone = false := by cases hb : fn.body <;> simp [hb] at h2 ⊢
  have h3' : ¬ fn.name = "runtime.NumGoroutine" := by simpa using h3
  simp [exec1, execOp, resolve, Deferred.ofValue, hf, invoke, callFunc, h1, hn, h3']
  intro h
  rw [h] at h2
  simp at h2
theorem call_core {Qs : Out → Mem → Prop} (hfn : FnIs P f) (hcal : E.ev fo = .fn f cap) (hspec : Spec P f np lc Mc Qs) (hM : LeM s 0 (M.asP Mc.pool) Mc) (hpl : Mc.pool = none ∨ Mc.pool = M.pool) (hnp : (Nat.ble np Mc.n && noMarks Mc) = true) (hbor : borOk M s bor)
    (hargs : ArgsOk M s bor Mc.n (args.toList.map E.ev ++ cap) lc) {cx : Cx} {fr : Fr} {a : Act} {w : World} {e : Nv} (hh : Hold cx e M w) (he : Emb fr.nt e M E a) {o : Oper} (ho : o.op = .call { callee := .value fo, args := args, argTypes := tys }) (ht : o.type = ty)
    {next : Act → World → Prop} {Q : Exit → Act → World → Prop}
    (k : ∀ cx' Mc' e' w' out x, Entry cx' np (calleeNv e w s bor Mc.n) Mc w → Hold cx' (calleeNv e w s bor Mc.n) Mc w → Qs out Mc' → Hold cx' e' Mc' w' → out.is e' x →
      match x with
      | .returned u => next (a.put o.dst u) w'
      | .panicked c => Q (.panic c) a w'
      | .outgrown => True) :
    o.wpIn (fence P fr.r) 0 P a w next Q := by
  have hv := he.ev fo
  rw [hcal] at hv
  simp only [Val] at hv
  obtain ⟨us, h1, h2⟩ := hv
  refine ⟨about_some (o := o) (by rw [execOp_one, ho, ht]; exact run_enter hfn h1), ?_⟩
  rw [Oper.semAt_eq _ _ _ (by rw [ho]; intro c hc; cases hc), execOp_one, ho, ht, run_enter hfn h1]
  refine ⟨fun h => by simp at h, ?_⟩
  obtain ⟨cx', hent, hin⟩ := hh.enter hM hpl hnp hbor
  have hvals : Vals (calleeNv e w s bor Mc.n) lc (args.toList.map a.eval ++ us) := hargs cx e w hh hbor _ ((evs he args.toList).append h2)
  have hcall := hspec cx' _ w _ hent hin hvals
  have harr : (args.toList.map a.eval ++ us).toArray = args.map a.eval ++ us.toArray := by apply Array.ext'; simp
  rw [harr] at hcall
  have hcall' : CallsIn (fence P fr.r) 0 P f (args.map a.eval ++ us.toArray) w fun x w' => ∃ o M' e', Qs o M' ∧ Hold cx' e' M' w' ∧ o.is e' x := by
    cases hr : fr.r with
    | none => exact hcall
    | some l => exact CallsIn.inRound l hcall
  refine hcall'.mono fun x w' ⟨out, M', e', hq, hh', his⟩ => ?_
  have := k cx' M' e' w' out x hent hin hq hh' his
  cases x with
  | returned u => exact this
  | panicked c => exact this
  | outgrown =>
    cases out with
    | ret v => obtain ⟨u, hu, _⟩ := his; cases hu
    | pan v => obtain ⟨u, hu, _⟩ := his; cases hu
/-- What a call touches. -/
def tcOf (Mc : Mem) (s : List Nat) : List Nat := match Mc.pool with | none => s | some _ => poolIx :: s
/-- A call that returns. -/
theorem runs_call (hfn : FnIs P f) (hcal : E.ev fo = .fn f cap) (hspec : Spec P f np lc Mc (fun o M' => o = .ret v ∧ M' = Mc')) (hM : LeM s 0 (M.asP Mc.pool) Mc) (hnp : (Nat.ble np Mc.n && noMarks Mc) = true) (hbor : borOk M s bor)
    (hargs : ArgsOk M s bor Mc.n (args.toList.map E.ev ++ cap) lc) (htau : tauOk s t np M.n Mc.n Mc'.n N = true) (hp : AllLt Mc'.n fun j => (Mc'.at_ j).pers bor.isEmpty = true) (hpv : v.pers bor.isEmpty = true)
    (hpl : Mc.pool = none ∨ Mc.pool = M.pool := by first | exact .inl rfl | exact .inr rfl) (hpl' : Mc'.pool.isSome = Mc.pool.isSome := by rfl) :
    Runs P (.call { callee := .value fo, args := args, argTypes := tys }) ty E M (tcOf Mc s) (v.ren (sub t)) (merge M s t Mc' N) :=
  fun cx fr a w e hh he o ho ht next Q k => by
    refine call_core hfn hcal hspec hM hpl hnp hbor hargs hh he ho ht fun cx' M' e' w' out x hent hin hq hh' his => ?_
    obtain ⟨rfl, rfl⟩ := hq
    obtain ⟨u, rfl, hu⟩ := his
    obtain ⟨e2, g1, g2, g3, g4, g5⟩ := hh.leave hM hpl hpl' hbor hent hin hh' htau hp
    refine k u w' e2 g1 g2 (hu.into g3 hpv) (fun b hb hne {hq} => g4 b hb (fun i hi => hne i ?_) (fun h => hq ?_)) g5
    · unfold tcOf; cases Mc.pool with
      | none => exact hi
      | some p => exact List.mem_cons_of_mem _ hi
    · unfold tcOf; cases hc : Mc.pool with
      | none => rw [hc] at h; cases h
      | some p => exact List.mem_cons_self ..
end
section
variable {P : Program} {cx : Cx} {fr : Fr} {ops : Array Oper} {os : List Oper} {E : Env} {M M' : Mem} {Q : Ex → Env → Mem → Prop} {op : Op} {ty : TypeId} {pos : String} {after : Array Edge} {dst : Nat} {v : AVal} {tc : List Nat}
/-- A call in a walk. -/
theorem WPL.c (h : Runs P op ty E M tc v M') (ht : Nat.blt dst fr.nt = true) (k : WPL P cx fr ops os (E.upd dst v) M' Q) :
    WPL P cx fr ops ({ dst := some dst, op := op, type := ty, pos := pos, after := after, guard := Option.none } :: os) E M Q := by
  intro a w e hh he
  unfold wpListIn
  rw [if_pos (by rfl)]
  refine h cx fr a w e hh he _ rfl rfl _ _ fun x w' e' hh' hle hv _ _ => ?_
  exact k _ w' e' hh' ((he.mono hle.1 hle.2).put ht hv)
theorem WPL.cg {j t : Nat} {b : Bool} (hj : (ops[j]?).bind (·.dst) = some t) (htj : Nat.blt t fr.nt = true) (hv : E.v t = .lit (.bool b)) (h : Runs P op ty E M tc v M') (ht : Nat.blt dst fr.nt = true) (k : WPL P cx fr ops os (E.upd dst v) M' Q) :
    WPL P cx fr ops ({ dst := some dst, op := op, type := ty, pos := pos, after := after, guard := some (j, b) } :: os) E M Q := by
  intro a w e hh he
  have hw : Region.wanted { dst := some dst, op := op, type := ty, pos := pos, after := after, guard := some (j, b) } (yielded ops a.tmps) = true := by
    simp [Region.wanted, yields he hj htj hv]
  unfold wpListIn
  rw [if_pos hw]
  refine h cx fr a w e hh he _ rfl rfl _ _ fun x w' e' hh' hle hv _ _ => ?_
  exact k _ w' e' hh' ((he.mono hle.1 hle.2).put ht hv)
/-- A call that panics, in a walk. -/
theorem WPL.p {d : Option Nat} (h : RunsP P op ty E M v M') (k : Q (.panic v) E M') :
    WPL P cx fr ops ({ dst := d, op := op, type := ty, pos := pos, after := after, guard := Option.none } :: os) E M Q := by
  intro a w e hh he
  unfold wpListIn
  rw [if_pos (by rfl)]
  refine h cx fr a w e hh he _ rfl rfl _ _ fun x w' e' hh' hle hv => ?_
  exact ⟨.panic v, E, M', e', k, hh', ⟨⟨he.d.mono hle.1, fun t _ => (he.v t).mono hle.1 hle.2⟩, fun p hp => (he.o p hp).mono hle.1 hle.2⟩, x, rfl, hv⟩
/-- THE WALK of a region that draws its order, some of its operations over: 'st': the chunks that no operation touches that is still to come, ahead of those of X. -/
def WPD (P : Program) (cx : Cx) (fr : Fr) (ops : Array Oper) (st X : List Nat) (fuel : Nat) (listed : Array Bool) (E : Env) (M : Mem) (Q : Ex → Env → Mem → Prop) : Prop :=
  ∀ a w e, Hold cx e M w → Emb fr.nt e M E a → wpAnyF P fr.r .any ops (Sat cx fr Q) (Agree e [] w) (Agree e st w) X fuel listed a w
def takeB (ops : Array Oper) (X : List Nat) (listed : Array Bool) (i : Nat) : Bool :=
  Region.noSelect ops && Region.free .any ops listed i && (Region.ready .any ops listed).contains i && !X.contains i &&
  X.all fun j => listed.getD j true || behind .any ops listed i ops.size j
def readyIs (ops : Array Oper) (listed : Array Bool) (i : Nat) : Bool := Region.ready .any ops listed == [i]
def readyNo (ops : Array Oper) (listed : Array Bool) : Bool := (Region.ready .any ops listed).isEmpty
variable {st st' X X' : List Nat} {fuel : Nat} {listed : Array Bool} {i : Nat}
theorem take_spec (hb : takeB ops X listed i = true) : Region.noSelect ops = true ∧ Region.free .any ops listed i = true ∧ (Region.ready .any ops listed).contains i = true ∧ X.contains i = false ∧
    ∀ j, X.contains j = true → j ≠ i → listed.getD j true = false → ∃ n, behind .any ops listed i n j = true := by
  simp only [takeB, Bool.and_eq_true, Bool.not_eq_true'] at hb
  obtain ⟨⟨⟨⟨h1, h2⟩, h3⟩, h4⟩, h5⟩ := hb
  refine ⟨h1, h2, h3, h4, fun j hjX _ hun => ?_⟩
  have := List.all_eq_true.1 h5 j (by simpa using hjX)
  rw [hun] at this
  exact ⟨_, by simpa using this⟩
def takeTB (ops : Array Oper) (X : List Nat) (listed : Array Bool) (i : Nat) : Bool :=
  Region.noSelect ops && Region.free .any ops listed i && (Region.ready .any ops listed).contains i && !X.contains i
theorem takeTB_spec (hb : takeTB ops X listed i = true) : Region.noSelect ops = true ∧ Region.free .any ops listed i = true ∧ (Region.ready .any ops listed).contains i = true ∧ X.contains i = false := by
  simp only [takeTB, Bool.and_eq_true, Bool.not_eq_true'] at hb
  obtain ⟨⟨⟨h1, h2⟩, h3⟩, h4⟩ := hb
  exact ⟨h1, h2, h3, h4⟩
theorem Agree.nil_of {e : Nv} {st : List Nat} {w w1 : World} (h : Agree e st w w1) : Agree e [] w w1 := ⟨h.ro, h.bro, fun _ hi => (by cases hi), fun hi => (by cases hi)⟩
theorem Fr.okd_lt {fr : Fr} {d : Nat} (h : fr.okd d = true) : Nat.blt d fr.nt = true := by unfold Fr.okd at h; rw [Bool.and_eq_true] at h; exact h.1
theorem Fr.okd_pin {fr : Fr} {d : Nat} (h : fr.okd d = true) : ∀ t, some d = some t → fr.pin.contains t = false := by
  unfold Fr.okd at h
  rw [Bool.and_eq_true, Bool.not_eq_true'] at h
  rintro t ⟨⟩
  exact h.2
theorem sat_panic {a : Act} {d : Option Tmp} {x : Value} (hd : ∀ t, d = some t → fr.pin.contains t = false) : ∀ c a' w, Sat cx fr Q (.panic c) (a'.put d x) w → Sat cx fr Q (.panic c) a' w := by
  rintro c a' w ⟨y, E, M, e, q, h1, h2, h3⟩
  cases y with
  | panic v =>
    have hdf : (a'.put d x).defers = a'.defers := by cases d <;> rfl
    have h21 := h2.1.1
    rw [hdf] at h21
    refine ⟨.panic v, E, M, e, q, h1, ⟨⟨h21, fun t ht => ?_⟩, h2.2⟩, h3⟩
    have h4 := h2.1.2 t ht
    cases d with
    | none => exact h4
    | some d0 =>
      have hne : d0 ≠ t := fun e0 => by subst e0; rw [hd _ rfl] at ht; cases ht
      simp only [Act.put, Array.getD_eq_getD_getElem?] at h4 ⊢
      rwa [Array.getElem?_setIfInBounds_ne hne] at h4
  | normal => cases h3
  | exit id => cases h3
  | goto l => cases h3
  | ret => cases h3
theorem sat_outgrown : ¬ LetsOut (Sat cx fr Q) := by
  rintro ⟨a, w, y, E, M, e, q, h1, h2, h3⟩
  cases y with
  | panic v => obtain ⟨_, h, _⟩ := h3; cases h
  | normal => cases h3
  | exit id => cases h3
  | goto l => cases h3
  | ret => cases h3
/-- A quiet operation is taken first. -/
theorem WPD.take (i : Nat) {st0 : List Nat} (ho : ops[i]? = some { dst := some dst, op := op, type := ty, pos := pos, after := after, guard := Option.none }) (hb : takeB ops X listed i = true) (h : Quiet P op ty E M st0 v) (hs : (st0.all st.contains) = true)
    (ht : fr.okd dst = true) (k : WPD P cx fr ops st X fuel (listed.setIfInBounds i true) (E.upd dst v) M Q) : WPD P cx fr ops st X (fuel + 1) listed E M Q := by
  intro a w e hh he
  obtain ⟨b1, b2, b3, b4, b5⟩ := take_spec hb
  obtain ⟨x, hv, hr⟩ := h cx fr.nt a w e hh he
  refine wpAnyF_first ho (Region.noSelect_spec b1) (fun c a' w' => sat_panic (a := a) (Fr.okd_pin ht) c a' w') sat_outgrown fuel listed a w (Region.free_spec ho b2) b5 (by simpa using b3) ?_ (Agree.of_hold hh st) b4 ?_ (v := x)
  · exact .inl ⟨rfl, fun w1 hw => hr w1 ⟨hw.ro, hw.bro, fun j hj => hw.own j (by have := List.all_eq_true.1 hs j hj; simpa using this), fun hp => hw.pool (by have := List.all_eq_true.1 hs _ hp; simpa using this)⟩⟩
  · exact k _ w e hh (he.put (Fr.okd_lt ht) hv)
/-- A guarded one. -/
theorem WPD.takeg (i : Nat) {st0 : List Nat} {j t : Nat} {b : Bool} (ho : ops[i]? = some { dst := some dst, op := op, type := ty, pos := pos, after := after, guard := some (j, b) }) (hb : takeB ops X listed i = true)
    (hj : (ops[j]?).bind (·.dst) = some t) (htj : Nat.blt t fr.nt = true) (hv : E.v t = .lit (.bool b)) (h : Quiet P op ty E M st0 v) (hs : (st0.all st.contains) = true)
    (ht : fr.okd dst = true) (k : WPD P cx fr ops st X fuel (listed.setIfInBounds i true) (E.upd dst v) M Q) : WPD P cx fr ops st X (fuel + 1) listed E M Q := by
  intro a w e hh he
  obtain ⟨b1, b2, b3, b4, b5⟩ := take_spec hb
  obtain ⟨x, hvx, hr⟩ := h cx fr.nt a w e hh he
  refine wpAnyF_first ho (Region.noSelect_spec b1) (fun c a' w' => sat_panic (a := a) (Fr.okd_pin ht) c a' w') sat_outgrown fuel listed a w (Region.free_spec ho b2) b5 (by simpa using b3) ?_ (Agree.of_hold hh st) b4 ?_ (v := x)
  · exact .inl ⟨by simp [Region.wanted, yields he hj htj hv], fun w1 hw => hr w1 ⟨hw.ro, hw.bro, fun j hj => hw.own j (by have := List.all_eq_true.1 hs j hj; simpa using this), fun hp => hw.pool (by have := List.all_eq_true.1 hs _ hp; simpa using this)⟩⟩
  · exact k _ w e hh (he.put (Fr.okd_lt ht) hvx)
/-- A quiet operation that reads nothing of our own is taken first. -/
theorem WPD.takeT (i : Nat) (ho : ops[i]? = some { dst := some dst, op := op, type := ty, pos := pos, after := after, guard := Option.none }) (hb : takeTB ops X listed i = true) (h : Quiet P op ty E M [] v)
    (ht : fr.okd dst = true) (k : WPD P cx fr ops st X fuel (listed.setIfInBounds i true) (E.upd dst v) M Q) : WPD P cx fr ops st X (fuel + 1) listed E M Q := by
  intro a w e hh he
  obtain ⟨b1, b2, b3, b4⟩ := takeTB_spec hb
  obtain ⟨x, hv, hr⟩ := h cx fr.nt a w e hh he
  refine wpAnyF_firstT ho (Region.noSelect_spec b1) (fun c a' w' => sat_panic (a := a) (Fr.okd_pin ht) c a' w') sat_outgrown (fun _ h => h.nil_of) fuel listed a w (Region.free_spec ho b2) (by simpa using b3) ?_ (Agree.of_hold hh st) b4 ?_ (v := x)
  · exact .inl ⟨rfl, fun w1 hw => hr w1 hw⟩
  · exact k _ w e hh (he.put (Fr.okd_lt ht) hv)
theorem WPD.takegT (i : Nat) {j t : Nat} {b : Bool} (ho : ops[i]? = some { dst := some dst, op := op, type := ty, pos := pos, after := after, guard := some (j, b) }) (hb : takeTB ops X listed i = true)
    (hj : (ops[j]?).bind (·.dst) = some t) (htj : Nat.blt t fr.nt = true) (hv : E.v t = .lit (.bool b)) (h : Quiet P op ty E M [] v)
    (ht : fr.okd dst = true) (k : WPD P cx fr ops st X fuel (listed.setIfInBounds i true) (E.upd dst v) M Q) : WPD P cx fr ops st X (fuel + 1) listed E M Q := by
  intro a w e hh he
  obtain ⟨b1, b2, b3, b4⟩ := takeTB_spec hb
  obtain ⟨x, hvx, hr⟩ := h cx fr.nt a w e hh he
  refine wpAnyF_firstT ho (Region.noSelect_spec b1) (fun c a' w' => sat_panic (a := a) (Fr.okd_pin ht) c a' w') sat_outgrown (fun _ h => h.nil_of) fuel listed a w (Region.free_spec ho b2) (by simpa using b3) ?_ (Agree.of_hold hh st) b4 ?_ (v := x)
  · exact .inl ⟨by simp [Region.wanted, yields he hj htj hv], fun w1 hw => hr w1 hw⟩
  · exact k _ w e hh (he.put (Fr.okd_lt ht) hvx)
/-- A guarded one that is passed over. -/
theorem WPD.pass (i : Nat) {j t : Nat} {b b' : Bool} {d : Option Nat} (ho : ops[i]? = some { dst := d, op := op, type := ty, pos := pos, after := after, guard := some (j, b) }) (hb : takeTB ops X listed i = true)
    (hj : (ops[j]?).bind (·.dst) = some t) (htj : Nat.blt t fr.nt = true) (hv : E.v t = .lit (.bool b')) (hne : (b' == b) = false)
    (hd : (match d with | some d => fr.okd d | none => true) = true) (hsk : SkipOkE P E op) (k : WPD P cx fr ops st X fuel (listed.setIfInBounds i true) (match d with | some d => E.upd d (.lit undef) | none => E) M Q) : WPD P cx fr ops st X (fuel + 1) listed E M Q := by
  intro a w e hh he
  obtain ⟨b1, b2, b3, b4⟩ := takeTB_spec hb
  refine wpAnyF_firstT ho (Region.noSelect_spec b1) (fun c a' w' => sat_panic (a := a) (d := d) (fun t e0 => by subst e0; exact Fr.okd_pin hd t rfl) c a' w') sat_outgrown (fun _ h => h.nil_of) fuel listed a w (Region.free_spec ho b2) (by simpa using b3) ?_ (Agree.of_hold hh st) b4 ?_ (v := undef)
  · refine .inr ⟨?_, rfl, fun _ => hsk.about he rfl⟩
    simp [Region.wanted, yields he hj htj hv]
    simpa using hne
  · cases d with
    | none => exact k _ w e hh he
    | some d => exact k _ w e hh (he.put (Fr.okd_lt hd) (by simp [Val]))
/-- The only one that may come up has an effect. -/
def Chunk.isOwn : Chunk → Bool
  | .cells .. | .row .. | .rowt .. => true
  | _ => false
/-- May what was read before stay as it was read, behind an effect? -/
def keepB (M : Mem) (tc st st' X X' : List Nat) (i : Nat) : Bool :=
  X.contains i || (X'.all X.contains && st.all fun j => st'.contains j && (bif Nat.beq j poolIx then Nat.ble M.n j && M.pool.isSome else Nat.blt j M.n && (M.at_ j).isOwn) && !(tc.contains j))
theorem keep_agree {e e' : Nv} {w w' : World} {st st' tc : List Nat} (hh : Hold cx e M w) (hle : e.le e')
    (hs : (st.all fun j => st'.contains j && (bif Nat.beq j poolIx then Nat.ble M.n j && M.pool.isSome else Nat.blt j M.n && (M.at_ j).isOwn) && !(tc.contains j)) = true)
    (hfr : ∀ b, b < w.heap.size → (∀ i ∈ tc, i < e.n → (M.at_ i).live e i → e.own i ≠ b) → (poolIx ∈ tc → ¬ inPool e M b) → w'.heap[b]? = w.heap[b]?) (w1 : World) (hw : Agree e' st' w' w1) : Agree e st w w1 := by
  have hst : ∀ x ∈ st, x < e.n → e.vir x = false → x < e.n ∧ w'.heap[e.own x]? = w.heap[e.own x]? ∧ x ∈ st' := by
    intro x hx hxn0 hvx
    have h := List.all_eq_true.1 hs x hx
    simp only [Bool.and_eq_true, Bool.not_eq_true'] at h
    obtain ⟨⟨h1, h23⟩, h4⟩ := h
    have hxp : x ≠ poolIx := by
      rintro rfl
      rw [show Nat.beq poolIx poolIx = true from rfl, cond_true] at h23
      have : M.n ≤ poolIx := by have := (Bool.and_eq_true_iff.1 h23).1; simpa using this
      have := hh.n
      omega
    rw [nbeq_false hxp, cond_false, Bool.and_eq_true] at h23
    obtain ⟨h2, h3⟩ := h23
    have h2 : x < M.n := by simpa using h2
    have hxn : x < e.n := by rw [hh.n]; exact h2
    have hlx : (M.at_ x).live e x := by
      cases hc : M.at_ x with
      | cells t l => trivial
      | row t R l => exact hvx
      | rowt t R l a => trivial
      | gone => rw [hc] at h3; simp [Chunk.isOwn] at h3
      | obj o => rw [hc] at h3; simp [Chunk.isOwn] at h3
      | bag => rw [hc] at h3; simp [Chunk.isOwn] at h3
      | dict fk R l x => rw [hc] at h3; simp [Chunk.isOwn] at h3
      | iter i c es s fk R rem => rw [hc] at h3; simp [Chunk.isOwn] at h3
    refine ⟨hxn, hfr _ (hh.live x hxn hlx).1 (fun y hy hyn hly hxy => ?_) (fun _ hp => hh.pool.notOwn hp hxn hlx rfl), by simpa using h1⟩
    have := hh.dist y x hyn hxn hly hlx hxy
    subst this
    rw [List.contains_eq_mem] at h4
    simp [hy] at h4
  refine ⟨fun b o hb => hw.ro b o (hle.m.f b o hb), fun b o hb => hw.bro b o (hle.bm.f b o hb), fun x hx hxn hvx => ?_, fun hx k c hk => ?_⟩
  · obtain ⟨h1, h2, h3⟩ := hst x hx hxn hvx
    have := hw.own x h3 (Nat.lt_of_lt_of_le h1 hle.n) ((hle.vir x h1).trans hvx)
    rw [hle.own x h1] at this
    exact this.trans h2
  · have h := List.all_eq_true.1 hs poolIx hx
    simp only [Bool.and_eq_true, Bool.not_eq_true'] at h
    obtain ⟨⟨h1, h23⟩, h4⟩ := h
    rw [show Nat.beq poolIx poolIx = true from rfl, cond_true] at h23
    have hpl : inPool e M c := ⟨fun h => by rw [h] at h23; simp at h23, k, hk⟩
    have h5 : poolIx ∉ tc := by rw [List.contains_eq_mem] at h4; simpa using h4
    exact (hw.pool (by simpa using h1) k c (hle.m.tab k c hk)).trans (hfr c (hh.pool.lt hpl) (fun y hy hyn hly => hh.pool.notOwn hpl hyn hly) (fun h => absurd h h5))
theorem WPD.eff_core (i : Nat) (st' X' : List Nat) {o : Oper} {E' : Env} (ho : ops[i]? = some o) (hb : readyIs ops listed i = true)
    (hg : ∀ a e, Emb fr.nt e M E a → Region.wanted o (yielded ops a.tmps) = true)
    (hs : keepB M tc st st' X X' i = true)
    (hstep : ∀ a w e, Hold cx e M w → Emb fr.nt e M E a → ∀ (next : Act → World → Prop) (Q : Exit → Act → World → Prop),
      (∀ a' w' e', Hold cx e' M' w' → e.le e' → Emb fr.nt e' M' E' a' → (∀ b, b < w.heap.size → (∀ i ∈ tc, i < e.n → (M.at_ i).live e i → e.own i ≠ b) → (poolIx ∈ tc → ¬ inPool e M b) → w'.heap[b]? = w.heap[b]?) → next a' w') →
      o.wpIn (fence P fr.r) 0 P a w next Q)
    (k : WPD P cx fr ops st' X' fuel (listed.setIfInBounds i true) E' M' Q) : WPD P cx fr ops st X (fuel + 1) listed E M Q := by
  intro a w e hh he
  have hready : Region.ready .any ops listed = [i] := by simpa [readyIs] using hb
  refine ⟨fun h => (by rw [hready] at h; cases h), fun j hj => ?_⟩
  rw [hready] at hj
  obtain rfl : j = i := by simpa using hj
  unfold wpOpIn
  simp only [ho]
  rw [if_pos (hg _ _ he)]
  refine hstep a w e hh he _ _ fun a' w' e' hh' hle he' hfr => ?_
  have hk := k a' w' e' hh' he'
  have hag : ∀ {st'' : List Nat} w1, Agree e' st'' w' w1 → Agree e [] w w1 := fun w1 hw => ⟨fun b o hb => hw.ro b o (hle.m.f b o hb), fun b o hb => hw.bro b o (hle.bm.f b o hb), fun _ hi => (by cases hi), fun h => (by cases h)⟩
  cases hx : X.contains j with
  | true => exact .inl ⟨rfl, hag _ (Agree.of_hold hh' st'), wpAnyG_of_F (fun w1 h => hag w1 h) (fun w1 h => hag w1 h) _ _ _ _ hk⟩
  | false =>
    unfold keepB at hs
    rw [hx, Bool.false_or, Bool.and_eq_true] at hs
    have hmono := keep_agree hh hle hs.2 hfr
    refine .inr ⟨rfl, hmono _ (Agree.of_hold hh' st'), wpAnyF_mono (fun w1 h => hag w1 h) (fun w1 h => hag w1 h) hmono (fun y hy => ?_) _ _ _ _ hk⟩
    exact List.all_eq_true.1 hs.1 y (by simpa using hy)
theorem WPD.eff (i : Nat) (st' X' : List Nat) (ho : ops[i]? = some { dst := some dst, op := op, type := ty, pos := pos, after := after, guard := Option.none }) (hb : readyIs ops listed i = true)
    (h : Runs P op ty E M tc v M') (hs : keepB M tc st st' X X' i = true) (ht : Nat.blt dst fr.nt = true)
    (k : WPD P cx fr ops st' X' fuel (listed.setIfInBounds i true) (E.upd dst v) M' Q) : WPD P cx fr ops st X (fuel + 1) listed E M Q :=
  WPD.eff_core (tc := tc) (M' := M') i st' X' ho hb (fun _ _ _ => rfl) hs (fun a w e hh he next Q' hk => h cx fr a w e hh he _ rfl rfl _ _ fun x w' e' hh' hle hv hfr _ =>
    hk _ w' e' hh' hle.1 ((he.mono hle.1 hle.2).put ht hv) (fun b hb hne hq => @hfr b hb hne hq)) k
theorem WPD.effS (i : Nat) (st' X' : List Nat) (ho : ops[i]? = some { dst := Option.none, op := op, type := ty, pos := pos, after := after, guard := Option.none }) (hb : readyIs ops listed i = true)
    (h : DoesS P op ty E M tc M') (hs : keepB M tc st st' X X' i = true)
    (k : WPD P cx fr ops st' X' fuel (listed.setIfInBounds i true) E M' Q) : WPD P cx fr ops st X (fuel + 1) listed E M Q :=
  WPD.eff_core (tc := tc) (M' := M') i st' X' ho hb (fun _ _ _ => rfl) hs (fun a w e hh he next Q' hk => by
    obtain ⟨w', e', hr, hh', hle, hfr, _⟩ := h cx fr.nt a w e hh he
    refine ⟨about_some hr, ?_⟩
    rw [semAt_skip hr]
    exact hk _ w' e' hh' hle.1 (he.mono hle.1 hle.2) (fun b hb hne hq => @hfr b hb hne hq)) k
/-- All have come up. -/
theorem WPD.done (hb : readyNo ops listed = true) (h : Q .normal E M) : WPD P cx fr ops st X fuel listed E M Q := by
  intro a w e hh he
  have hready : Region.ready .any ops listed = [] := by simpa [readyNo, List.isEmpty_iff] using hb
  have hs : Sat cx fr Q .normal a w := ⟨.normal, E, M, e, h, hh, he, rfl⟩
  cases fuel with
  | zero => exact ⟨hready, hs⟩
  | succ n => exact ⟨fun _ => hs, by rw [hready]; simp⟩
/-- THE BEGINNING of a region that draws its order. -/
theorem WP.regionD (st X : List Nat) {id : Nat} (hm : P.follows .mixedOrders = true) (h : WPD P cx fr ops st X ops.size (Array.replicate ops.size false) E M Q) : WP P cx fr (.region id ops true) E M Q :=
  fun a w e hh he => wpIn_region_any hm (wpAny_of_F _ _ _ _ (h a _ e hh.drew he))
end
end Go.Q
namespace Go.Q
open Go
set_option linter.unusedVariables false
set_option linter.unusedSimpArgs false
/-- What is asked at a round's end, a panic taken in. -/
def roundPostP (P : Program) (l : Nat) (R : Ending → World → Prop) : Exit → Act → World → Prop
  | .panic chain, a, w => a.defers = [] ∧ R (.panicked chain) w
  | x, a, w => roundPost P l R x a w
theorem roundIn_of_wpInP {F : Fence} {n : Nat} {P : Program} {l : Nat} {f : FuncId} {tmps : Array Value} {assign body : Code} {w : World} {R : Ending → World → Prop} (hF : F.fn f) (hf : (P.funcs[f]?).isSome = true)
    (h : assign.wpIn (F.inRound l) n P (Exit.then (fun a₁ w₁ => ∃ w₂, (Instr.beginRound l).run P w₁ = .ok () w₂ ∧ body.wpIn (F.inRound l) n P (roundPostP P l R) a₁ w₂) (fun _ _ _ => False))
      { tmps := tmps, defers := [] } w) :
    RoundIn F n P l f tmps assign body w R := by
  refine ⟨hF, fun c cs hr => ?_⟩
  let b : Frame := { (default : Frame) with fn := f, kind := .normal, roundOf := some l }
  have hb0 : Frame.round l f tmps assign body .normal = b.atR { tmps := tmps, defers := [] } [.code assign, .beginRound, .code body] := by
    simp [Frame.round, Frame.atR, b]
  have hr' : (F.inRound l).room ((c :: cs).length + 1 + n) := hr
  have hF' : (F.inRound l).fn b.fn := hF
  obtain ⟨e, a₁, w₁, hq, harr⟩ := h b [.beginRound, .code body] (c :: cs) rfl hF' hr'
  rw [← hb0] at harr
  cases e with
  | normal =>
    obtain ⟨w₂, hbr, hbody⟩ := hq
    have s1 : StepsIn (Machine.fenced P (F.inRound l)) P (lone (b.atR a₁ [.beginRound, .code body]) (c :: cs) w₁) (lone (b.atR a₁ [.code body]) (c :: cs) w₂) :=
      .one (fenced_calm (fr := b.atR a₁ [.beginRound, .code body]) hF' hr' rfl) (stepR_beginRound rfl hbr)
    obtain ⟨e₂, a₂, w₃, hq₂, harr₂⟩ := hbody b [] (c :: cs) rfl hF' hr'
    cases e₂ with
    | normal =>
      obtain ⟨v, w₄, hend, hR⟩ := hq₂
      exact ⟨.returned v, w₄, hR, (StepsIn.trans harr s1).trans (StepsIn.trans harr₂ (.one (fenced_calm (fr := b.atR a₂ []) hF' hr' rfl) (stepR_round_end rfl rfl hend)))⟩
    | ret =>
      obtain ⟨v, w₄, hend, hR⟩ := hq₂
      obtain ⟨k₁, hs⟩ := harr₂.2 rfl
      exact ⟨.returned v, w₄, hR, (StepsIn.trans harr s1).trans (StepsIn.trans hs (.one (fenced_calm (fr := b.atR a₂ (.code .ret :: k₁)) hF' hr' rfl) (stepR_round_ret rfl rfl hend)))⟩
    | exit id =>
      obtain ⟨v, w₄, hend, hR⟩ := hq₂
      obtain ⟨k₁, hk, hs⟩ := harr₂.2 rfl rfl
      exact ⟨.returned v, w₄, hR, (StepsIn.trans harr s1).trans (StepsIn.trans hs (.one (fenced_calm (fr := b.atR a₂ (.code (.exit id) :: k₁)) hF' hr' rfl) (stepR_round_exit rfl rfl hk hend)))⟩
    | goto t =>
      obtain ⟨v, w₄, hend, hR⟩ := hq₂
      obtain ⟨k₁, hk, hs⟩ := harr₂.2 rfl rfl
      exact ⟨.returned v, w₄, hR, (StepsIn.trans harr s1).trans (StepsIn.trans hs (.one (fenced_calm (fr := b.atR a₂ (.code (.goto t) :: k₁)) hF' hr' rfl) (stepR_round_goto rfl rfl hk hend)))⟩
    | panic chain =>
      obtain ⟨hd, hR⟩ := hq₂
      obtain ⟨todo, hs⟩ := harr₂
      obtain ⟨fn, hfn⟩ := Option.isSome_iff_exists.1 hf
      refine ⟨.panicked chain, w₃, hR, (StepsIn.trans harr s1).trans (StepsIn.trans hs (.one (fenced_calm (n := n) hF' hr' (by simp [Frame.about, Frame.atR, hd])) (step_leave_panicked ⟨rfl, hd, fn, hfn⟩)))⟩
    | outgrown => exact hq₂.elim
  | exit id => exact hq.elim
  | goto t => exact hq.elim
  | ret => exact hq.elim
  | panic chain => exact hq.elim
  | outgrown => exact hq.elim
/-- A loop's record. -/
def lp (r : Loop) (s : LoopState) (p : Option Code) : Obj := .loop { r with state := s, pending := p }
/-- How a piece is left, axs a pending jump. -/
def jumpOf : Ex → Option (Option Code)
  | .normal => some none
  | .ret => some (some .ret)
  | .exit id => some (some (.exit id))
  | .goto l => some (some (.goto l))
  | .panic _ => none
/-- What the iterator's body must come to. -/
def RangeQ (P : Program) (cx : Cx) (fr : Fr) (aC : Act) (r : Loop) (l : Nat) (Q : Ex → Env → Mem → Prop) (x : Ex) (E : Env) (M : Mem) : Prop :=
  marksOk M E.d ∧ ∃ v d os lid, (E.o, E.b) = (⟨aC, v, d, some (lid, l)⟩ :: os, []) ∧
    match x with
    | .normal | .ret => ∃ s j, (dropMarks M E.d).at_ lid = .obj (lp r s j) ∧ s ≠ .busy ∧
        (match j with
         | none => W cx fr Q .normal ⟨v, d, os, []⟩ ((dropMarks M E.d).set lid .gone)
         | some c => WP P cx fr c ⟨v, d, os, []⟩ ((dropMarks M E.d).set lid .gone) Q)
    | .panic u => W cx fr Q (.panic u) ⟨v, d, os, []⟩ (dropMarks M E.d)
    | _ => False
theorem okO_mem {e : Nv} {M M' : Mem} {p : OEnv} (h : okO e M p) : okO e M' p := h.mono (Nv.le.refl e) fun _ => Ro.le.refl _
section
variable {P : Program} {cx : Cx} {fr : Fr} {E : Env} {M : Mem} {Q : Ex → Env → Mem → Prop}
/-- A RANGE OVER A FUNCTION, outermost in its frame. -/
theorem WP.range {g : Operand} {ps : Array Tmp} {assign body c : Code} {f : FuncId} {fn : Func} {cap : List AVal} {nti n : Nat} (hr : fr.r = none) (hg : E.ev g = .fn f cap) (hf : P.funcs[f]? = some fn) (hb : fn.body = some c)
    (hnm : (fn.name == "runtime.NumGoroutine") = false) (hres : fn.results = #[]) (hnt : fn.ntmps = nti) (ha : Nat.ble (cap.length + 1) nti = true) (hn : (M.n, E.b) = (n, []))
    (h : ∀ (l : Nat) (r : Loop) (aC : Act), r.params = ps → r.assign = assign → r.body = body → r.tmps = aC.tmps → aC.tmps.size = fr.nt → (P.funcs[r.fn]?).isSome = true →
      WP P cx ⟨nti, none, []⟩ c ⟨fun t => (AVal.lit (.func (.yield l) #[] #[]) :: cap).getD t .any, [], ⟨aC, E.v, n :: E.d, some (n + 1, l)⟩ :: E.o, []⟩
        ((M.push (.obj (.deferred (some [])))).push (.obj (lp r .ready none))) (RangeQ P cx fr aC r l Q)) : WP P cx fr (.rangeFunc g ps assign body) E M Q := by
  intro a w e hh he
  have hb0 : E.b = [] := (Prod.mk.inj hn).2
  have hn := (Prod.mk.inj hn).1
  have hed : marks e M E.d a.defers := by have := he.d; rw [hb0] at this; exact marksB.nil.1 this
  have hgv := he.ev g
  rw [hg] at hgv
  simp only [Val] at hgv
  obtain ⟨us, hgv, hus⟩ := hgv
  have hul := hus.length
  refine wpIn_rangeFunc fun fnid hfnid => ?_
  rw [show (fence P fr.r).round = none from hr]
  let w1 := w.alloc (.deferred (some []))
  let r : Loop := { state := .ready, pending := none, fn := fnid, tmps := a.tmps, params := ps, assign := assign, body := body, defers := w.heap.size }
  let w2 := w1.alloc (.loop r)
  let l := w.heap.size + 1
  let mark : List Deferred := [{ target := .collected w.heap.size, args := #[] }]
  have hres' : (resolve a.eval (rangeCall g l) 0).run P w2 = .ok { target := .fn (.func f) us.toArray, args := #[.func (.yield l) #[] #[]] } w2 := by
    simp [resolve, Deferred.ofValue, hgv, eval_const]
  have hinv : (invoke (.fn (.func f) us.toArray) #[Value.func (.yield l) #[] #[]]).run P w2 = .ok (.enter f (#[Value.func (.yield l) #[] #[]] ++ us.toArray)) w2 := by
    have h3' : ¬ fn.name = "runtime.NumGoroutine" := by simpa using hnm
    simp [invoke, callFunc, hf, h3', hb]
  refine ⟨l, mark, w2, _, w2, f, _, w2, run_enterLoop_outer fnid a.tmps ps assign body, hres', fun g hg' => by simp [Target.leads] at hg'; subst hg'; exact Option.isSome_iff_exists.2 ⟨_, hf⟩, hinv, fun h => by simp at h, ?_⟩
  -- the memory with the two blocks
  let e1 := e.bump w.heap.size 0 0
  let e2 := e1.bump (w.heap.size + 1) 0 0
  have hle1 := e.bump_le w.heap.size 0 0 false
  have hle2 := e1.bump_le (w.heap.size + 1) 0 0 false
  have hm1 := fun b => e.bump_mem w.heap.size 0 0 false b
  have hm2 := fun b => e1.bump_mem (w.heap.size + 1) 0 0 false b
  have hh1 : Hold cx e1 (M.push (.obj (.deferred (some [])))) w1 := by
    refine hh.bind rfl rfl rfl (by simp [w1]) (by simp [w1]) (fun k hk hlt => RowKit.Below.heap_alloc w _ k hlt) (fun i hi hl => Nat.ne_of_lt (hh.live i hi hl).1) hh.bag_new (hnone hh.ro) (hnone hh.bro) (.inr hh.size) ?_
    refine ⟨by simp [Nv.bump], ?_⟩
    simp only [Nv.bump, if_true]
    exact heap_alloc_new w _
  have hsz1 : w1.heap.size = w.heap.size + 1 := by simp [w1]
  have hh2 : Hold cx e2 ((M.push (.obj (.deferred (some [])))).push (.obj (lp r .ready none))) w2 := by
    have key : Hold cx (e1.bump w1.heap.size 0 0) ((M.push (.obj (.deferred (some [])))).push (.obj (lp r .ready none))) w2 := by
      refine hh1.bind rfl rfl rfl (by simp [w2]) (by simp [w2]) (fun k hk hlt => RowKit.Below.heap_alloc w1 _ k hlt) (fun i hi hl => Nat.ne_of_lt (hh1.live i hi hl).1) hh1.bag_new (hnone hh1.ro) (hnone hh1.bro) (.inr hh1.size) ?_
      refine ⟨by simp [Nv.bump], ?_⟩
      simp only [Nv.bump, if_true]
      exact heap_alloc_new w1 _
    rw [hsz1] at key
    exact key
  let aC : Act := { a with defers := mark ++ a.defers }
  have hownn : e2.own n = w.heap.size := by
    have h1 : n = e.n := by rw [← hn, hh.n]
    subst h1
    have h2 : e.n ≠ e1.n := by simp [e1, Nv.bump]
    simp only [e2, Nv.bump, if_neg h2]
    simp [e1, Nv.bump]
  have hmarkn : markBlocks e2 n = [w.heap.size] := by
    have h1 : n = e.n := by rw [← hn, hh.n]
    have h2 : n ≠ e1.n := by rw [h1]; simp [e1, Nv.bump]
    unfold markBlocks
    rw [hownn]
    have h3 : e2.vir n = false := by
      simp only [e2, Nv.bump, if_neg h2]; subst h1; simp [e1, Nv.bump]
    have h4 : e2.bag n = [] := by
      simp only [e2, Nv.bump, if_neg h2]; subst h1; simp [e1, Nv.bump]
    rw [h3, h4]; rfl
  have hownl : e2.own (n + 1) = l := by
    have h1 : n + 1 = e1.n := by rw [← hn]; simp [e1, Nv.bump, hh.n]
    simp only [e2, Nv.bump, if_pos h1]
    rfl
  have hn2 : e2.n = n + 2 := by rw [← hn]; simp [e2, e1, Nv.bump, hh.n]
  have hoC : okO e2 ((M.push (.obj (.deferred (some [])))).push (.obj (lp r .ready none))) ⟨aC, E.v, n :: E.d, some (n + 1, l)⟩ := by
    refine ⟨fun t => ((he.v t).mono hle1 hm1).mono hle2 hm2, ⟨a.defers, by rw [hmarkn]; rfl, by omega, (hed.mono (M' := M) hle1).mono hle2⟩, ?_⟩
    rintro i l' hil
    cases hil
    exact ⟨by omega, hownl⟩
  refine callsIn_of_wp_marks (F := fence P fr.r) hf hb (Option.isSome_iff_exists.2 ⟨_, hf⟩) ?_ hr
  have hemb : Emb nti e2 ((M.push (.obj (.deferred (some [])))).push (.obj (lp r .ready none))) ⟨fun t => (AVal.lit (.func (.yield l) #[] #[]) :: cap).getD t .any, [], ⟨aC, E.v, n :: E.d, some (n + 1, l)⟩ :: E.o, []⟩
      { tmps := (#[Value.func (.yield l) #[] #[]] ++ us.toArray) ++ Array.replicate (fn.ntmps - (#[Value.func (.yield l) #[] #[]] ++ us.toArray).size) undef, defers := [] } := by
    have ha' : cap.length + 1 ≤ nti := by simpa using ha
    refine ⟨by simp [hnt, hul]; omega, fun t => ?_, ⟨[], rfl, rfl⟩, fun p hp => ?_⟩
    · have hvals : Vals e2 (AVal.lit (.func (.yield l) #[] #[]) :: cap) (Value.func (.yield l) #[] #[] :: us) := by
        simp only [Vals]
        exact ⟨_, _, rfl, by simp [Val], (hus.mono hle1 hm1).mono hle2 hm2⟩
      have hlen := hvals.length
      have harr : (#[Value.func (.yield l) #[] #[]] ++ us.toArray) = (Value.func (.yield l) #[] #[] :: us).toArray := by simp
      rw [harr]
      simp only [List.getD_eq_getElem?_getD]
      by_cases ht : t < (AVal.lit (.func (.yield l) #[] #[]) :: cap).length
      · rw [List.getElem?_eq_getElem ht]
        obtain ⟨v, h1, h2⟩ := hvals.get (List.getElem?_eq_getElem ht)
        have hs : ((Value.func (.yield l) #[] #[] :: us).toArray ++ Array.replicate (fn.ntmps - (Value.func (.yield l) #[] #[] :: us).toArray.size) undef).getD t undef = v := by
          rw [Array.getD_eq_getD_getElem?, Array.getElem?_append_left (by simpa [hlen] using ht)]
          simp only [List.getElem?_toArray, h1, Option.getD_some]
        rw [hs]
        exact h2
      · rw [List.getElem?_eq_none (by omega)]
        simp [Val]
    · rcases List.mem_cons.1 hp with rfl | hp
      · exact hoC
      · exact ((he.o p hp).mono (M' := M) hle1 hm1).mono hle2 hm2
  have hwp := h l r aC rfl rfl rfl rfl he.sz hfnid _ w2 e2 hh2 hemb
  rw [show (fence P (⟨nti, none, []⟩ : Fr).r) = fence P fr.r by rw [hr]] at hwp
  refine Go.wpIn_mono hwp fun x a' w' k => ?_
  obtain ⟨y, E', M', e', q, g1, g2, g3⟩ := k
  obtain ⟨q1, v', d', os', lid, q2, q3⟩ := q
  have qb : E'.b = [] := (Prod.mk.inj q2).2
  have q2 := (Prod.mk.inj q2).1
  have fin : Emb nti e' M' E' a' → (∃ s j, (dropMarks M' E'.d).at_ lid = .obj (lp r s j) ∧ s ≠ .busy ∧
        (match j with
         | none => W cx fr Q .normal ⟨v', d', os', []⟩ ((dropMarks M' E'.d).set lid .gone)
         | some c => WP P cx fr c ⟨v', d', os', []⟩ ((dropMarks M' E'.d).set lid .gone) Q)) →
      LeavesInM (fence P fr.r) 0 P fn a'.tmps (rangePost (fence P fr.r) 0 P l (Sat cx fr Q) aC) a'.defers .returning w' := by
    rintro g2 ⟨s, j, q4, q5, q6⟩
    have hfr : fence P fr.r = fence P none := by rw [hr]
    rw [hfr]
    have hd2 := g2.d
    rw [qb] at hd2
    refine leave_marks (by simp) E'.d M' w' a'.defers g1 (marksB.nil.1 hd2) q1 fun w'' hh'' => ?_
    have hp := g2.o ⟨aC, v', d', some (lid, l)⟩ (by rw [q2]; simp)
    obtain ⟨hlid, hownlid⟩ := hp.lk lid l rfl
    have hb' := hh''.ch lid hlid
    rw [q4] at hb'
    have hbl : w''.heap[l]? = some (.loop { r with state := s, pending := j }) := by rw [← hownlid]; exact hb'.2
    have hlive : ((dropMarks M' E'.d).at_ lid).live e' lid := by rw [q4]; trivial
    have hlt : l < w''.heap.size := (Array.getElem?_eq_some_iff.1 hbl).1
    refine ⟨.tuple #[], by simp [results, hres], ?_⟩
    refine ⟨j, _, run_endLoop (r := { r with state := s, pending := j }) hbl q5, ?_⟩
    have hh3 : Hold cx e' ((dropMarks M' E'.d).set lid .gone) (w''.putObj l (.loop { ({ r with state := s, pending := j } : Loop) with state := .exhausted })) :=
      hh''.change hlid hlive rfl rfl rfl (by simp [World.putObj]) (fun k hk => World.putObj_heap_other (by rw [hownlid] at hk; exact hk)) trivial
    have hemb3 : Emb fr.nt e' ((dropMarks M' E'.d).set lid .gone) ⟨v', d', os', []⟩ aC :=
      ⟨he.sz, hp.v, marksB.nil.2 (hp.d.mono (Nv.le.refl e')), fun p hp' => okO_mem (g2.o p (by rw [q2]; simp [hp']))⟩
    cases j with
    | none => exact q6 _ _ e' _ hh3 hemb3 rfl
    | some c =>
      have := q6 aC _ e' hh3 hemb3
      rw [hr] at this
      simpa [hr] using this
  cases y with
  | normal => cases g3; exact fin g2 q3
  | ret => cases g3; exact fin g2 q3
  | exit id => exact q3.elim
  | goto l => exact q3.elim
  | panic v =>
    obtain ⟨u, rfl, hu⟩ := g3
    show LeavesInM (fence P fr.r) 0 P fn a'.tmps (rangePost (fence P fr.r) 0 P l (Sat cx fr Q) aC) a'.defers (.panicking [{ v := u, recovered := false }]) w'
    have hfr : fence P fr.r = fence P none := by rw [hr]
    rw [hfr]
    have hd2 := g2.1.1
    rw [qb] at hd2
    refine leave_marks (u := .panicking [{ v := u, recovered := false }]) (by simp) E'.d M' w' a'.defers g1 (marksB.nil.1 hd2) q1 fun w'' hh'' => ?_
    have hp := g2.2 ⟨aC, v', d', some (lid, l)⟩ (by rw [q2]; simp)
    exact q3 aC w'' e' _ hh'' ⟨⟨marksB.nil.2 (hp.d.mono (Nv.le.refl e')), fun t _ => hp.v t⟩, fun p hp' => okO_mem (g2.2 p (by rw [q2]; simp [hp']))⟩ ⟨u, rfl, hu⟩
/-- Yield's arguments in the loop's variables. -/
def paramsV (f : Nat → AVal) : List Tmp → List AVal → (Nat → AVal)
  | t :: ts, a :: l => paramsV (fun u => if Nat.beq u t = true then a else f u) ts l
  | _, _ => f
theorem params_ok {e : Nv} : ∀ (ts : List Tmp) (axs : List AVal) (vs : List Value) (f : Nat → AVal) (tm : Array Value), Vals e axs vs → (∀ t ∈ ts, t < tm.size) → ts.length = axs.length → (∀ t, Val e (f t) (tm.getD t undef)) →
    ∀ t, Val e (paramsV f ts axs t) (((ts.zip vs).foldl (fun tmps (x : Tmp × Value) => tmps.setIfInBounds x.1 x.2) tm).getD t undef)
  | [], axs, vs, f, tm, _, _, _, hf => by simpa [paramsV] using hf
  | t :: ts, [], vs, f, tm, _, _, hl, _ => by simp at hl
  | t :: ts, a :: axs, vs, f, tm, h, hb, hl, hf => by
    simp only [Vals] at h
    obtain ⟨v, ws, rfl, h1, h2⟩ := h
    simp only [paramsV, List.zip_cons_cons, List.foldl_cons]
    refine params_ok ts axs ws _ _ h2 (fun x hx => by simpa using hb x (by simp [hx])) (by simpa using hl) fun u => ?_
    have ht : t < tm.size := hb t (by simp)
    simp only [Array.getD_eq_getD_getElem?]
    by_cases hu : u = t
    · subst hu
      simp [ht, h1]
    · rw [if_neg (by simpa using hu), Array.getElem?_setIfInBounds_ne (Ne.symm hu)]
      have := hf u
      rwa [Array.getD_eq_getD_getElem?] at this
theorem foldl_size : ∀ (l : List (Tmp × Value)) (tm : Array Value), (l.foldl (fun tmps (x : Tmp × Value) => tmps.setIfInBounds x.1 x.2) tm).size = tm.size
  | [], _ => rfl
  | x :: l, tm => by rw [List.foldl_cons, foldl_size l]; simp
/-- What a round must come to. -/
def RoundQ (lid : Nat) (l : Nat) (r : Loop) (aI aC : Act) (K : Option Code → Env → Mem → Prop) (KP : AVal → Env → Mem → Prop) (x : Ex) (E : Env) (M : Mem) : Prop :=
  E.d = [] ∧ ∃ v d v' d' os' lid', (E.o, E.b) = (⟨aI, v, d, none⟩ :: ⟨aC, v', d', some (lid', l)⟩ :: os', []) ∧ M.at_ lid' = .obj (lp r .busy none) ∧
    match x with
    | .panic u => KP u ⟨v, d, ⟨aC, v', d', some (lid', l)⟩ :: os', []⟩ M
    | x => ∃ j, jumpOf x = some j ∧ K j ⟨v, d, ⟨aC, v', d', some (lid', l)⟩ :: os', []⟩ (M.set lid' (.obj (lp r (if j.isNone then .ready else .done) j)))
/-- What the assignments to the loop's variables must come to. -/
def AssignQ (P : Program) (cx : Cx) (ntc l : Nat) (body : Code) (r : Loop) (aI aC : Act) (K : Option Code → Env → Mem → Prop) (KP : AVal → Env → Mem → Prop) (x : Ex) (E : Env) (M : Mem) : Prop :=
  x = .normal ∧ E.d = [] ∧ ∃ v d v' d' os' lid', (E.o, E.b) = (⟨aI, v, d, none⟩ :: ⟨aC, v', d', some (lid', l)⟩ :: os', []) ∧ M.at_ lid' = .obj (lp r .ready none) ∧
    WP P cx ⟨ntc, some l, []⟩ body E (M.set lid' (.obj (lp r .busy none))) (RoundQ lid' l r aI aC K KP)
variable {ops : Array Oper} {os : List Oper} {ty : TypeId} {pos : String} {after : Array Edge} {dst : Nat}
theorem putObj_hold {e : Nv} {w : World} (hh : Hold cx e M w) {i l : Nat} {o o' : Obj} (hi : i < e.n) (hl : e.own i = l) (hc : M.at_ i = .obj o) (hmk : (Chunk.obj o').mark = true → (M.at_ i).mark = true) : Hold cx e (M.set i (.obj o')) (w.putObj l o') := by
  subst hl
  have hlive : (M.at_ i).live e i := by rw [hc]; trivial
  have hb := hh.ch i hi
  rw [hc] at hb
  have hlt : e.own i < w.heap.size := (hh.live i hi hlive).1
  exact hh.change hi hlive rfl rfl rfl (by simp [World.putObj]) (fun k hk => World.putObj_heap_other hk) ⟨hb.1, World.putObj_heap_same hlt⟩ hmk
/-- A CALL OF yield: a round of the loop. -/
theorem WPL.ycore {g : Option (Nat × Bool)} {fo : Operand} {args : Array Operand} {tys : Array TypeId} {l lid ntc : Nat} {r : Loop} {aC : Act} {vC : Nat → AVal} {dC : List Nat} {oC : List OEnv} {ps : Array Tmp} {assign body : Code} (hfr : fr.r = none) (hfo : E.ev fo = .lit (.func (.yield l) #[] #[]))
    (ho : (E.o, E.b) = (⟨aC, vC, dC, some (lid, l)⟩ :: oC, [])) (hM : M.at_ lid = .obj (lp r .ready none)) (hrp : r.params = ps) (hra : r.assign = assign) (hrb : r.body = body) (hrt : r.tmps = aC.tmps) (hsz : aC.tmps.size = ntc) (hrf : (P.funcs[r.fn]?).isSome = true)
    (hps : Nat.beq ps.size args.size = true) (hpl : (ps.toList.all fun t => Nat.blt t ntc) = true) (ht : Nat.blt dst fr.nt = true)
    (hg : ∀ nt a e, Emb nt e M E a → nt = fr.nt → Region.wanted { dst := some dst, op := .call { callee := .value fo, args := args, argTypes := tys }, type := ty, pos := pos, after := after, guard := g } (yielded ops a.tmps) = true)
    (hround : ∀ aI : Act, WP P cx ⟨ntc, some l, []⟩ assign ⟨paramsV vC ps.toList (args.toList.map E.ev), [], ⟨aI, E.v, E.d, none⟩ :: E.o, []⟩ M
      (AssignQ P cx ntc l body r aI aC (fun j E M => WPL P cx fr ops os (E.upd dst (.lit (.bool j.isNone))) M Q) (fun u E M => W cx fr Q (.panic u) E M))) :
    WPL P cx fr ops ({ dst := some dst, op := .call { callee := .value fo, args := args, argTypes := tys }, type := ty, pos := pos, after := after, guard := g } :: os) E M Q := by
  intro a w e hh he
  have hb0 : E.b = [] := (Prod.mk.inj ho).2
  have ho := (Prod.mk.inj ho).1
  have hed : marks e M E.d a.defers := by have := he.d; rw [hb0] at this; exact marksB.nil.1 this
  have hv := ev_lit he hfo
  have hpO := he.o ⟨aC, vC, dC, some (lid, l)⟩ (by rw [ho]; simp)
  obtain ⟨hlid, hown⟩ := hpO.lk lid l rfl
  have hb := hh.ch lid hlid
  rw [hM] at hb
  have hbl : w.heap[l]? = some (.loop { r with state := .ready, pending := none }) := by rw [← hown]; exact hb.2
  have hps' : ps.size = args.size := by simpa using hps
  unfold wpListIn
  rw [if_pos (hg _ _ _ he rfl)]
  refine ⟨fun f hf => by simp [Oper.about, resolve, Deferred.ofValue, hv, Target.leads] at hf, ?_⟩
  rw [Oper.semAt_eq _ _ _ (by intro c hc; cases hc), execOp_one]
  have hrun : (exec1 a.eval (.call { callee := .value fo, args := args, argTypes := tys }) ty).run P w = .ok (.round l r.fn ((ps.zip (args.map a.eval)).foldl (fun tmps (t, a) => tmps.setIfInBounds t a) r.tmps) assign body) w := by
    have hy := run_yield (P := P) (args := args.map a.eval) hbl (by simp [hrp, hps'])
    simp only [hrp, hra, hrb] at hy
    simp [exec1, execOp, resolve, Deferred.ofValue, hv, invoke, hy]
  rw [hrun]
  refine ⟨fun h => by simp at h, ?_⟩
  have hfold : (ps.zip (args.map a.eval)).foldl (fun tmps (t, a) => tmps.setIfInBounds t a) r.tmps = (ps.toList.zip (args.toList.map a.eval)).foldl (fun tmps (x : Tmp × Value) => tmps.setIfInBounds x.1 x.2) aC.tmps := by
    rw [hrt, ← Array.foldl_toList]
    simp [Array.toList_zip]
  rw [hfold, hfr]
  refine roundIn_of_wpInP hrf hrf ?_
  let aR : Act := { tmps := (ps.toList.zip (args.toList.map a.eval)).foldl (fun tmps (x : Tmp × Value) => tmps.setIfInBounds x.1 x.2) aC.tmps, defers := [] }
  have hembR : Emb ntc e M ⟨paramsV vC ps.toList (args.toList.map E.ev), [], ⟨a, E.v, E.d, none⟩ :: E.o, []⟩ aR := by
    refine ⟨by simp only [aR]; rw [foldl_size, hsz], fun t => ?_, ⟨[], rfl, rfl⟩, fun p hp => ?_⟩
    · exact params_ok ps.toList _ _ vC aC.tmps (evs he args.toList) (fun t ht' => by have := List.all_eq_true.1 hpl t ht'; rw [hsz]; simpa using this) (by simpa using hps') hpO.v t
    · rcases List.mem_cons.1 hp with rfl | hp
      · exact ⟨he.v, hed, fun i l' hil => by cases hil⟩
      · exact he.o p hp
  refine Go.wpIn_mono (hround a aR w e hh hembR) fun x a1 w1 k => ?_
  obtain ⟨y, E1, M1, e1, q, g1, g2, g3⟩ := k
  obtain ⟨rfl, hd1, v1, d1, v1', d1', os1, lid1, ho1, hM1, hbody⟩ := q
  have ho1 := (Prod.mk.inj ho1).1
  cases g3
  have hp1 := g2.o ⟨aC, v1', d1', some (lid1, l)⟩ (by rw [ho1]; simp)
  obtain ⟨hlid1, hown1⟩ := hp1.lk lid1 l rfl
  have hb1 := g1.ch lid1 hlid1
  rw [hM1] at hb1
  have hbl1 : w1.heap[l]? = some (.loop { r with state := .ready, pending := none }) := by rw [← hown1]; exact hb1.2
  refine ⟨_, run_beginRound hbl1 rfl, ?_⟩
  have hh1 : Hold cx e1 (M1.set lid1 (.obj (lp r .busy none))) (w1.putObj l (.loop { ({ r with state := .ready, pending := none } : Loop) with state := .busy })) := putObj_hold g1 hlid1 hown1 hM1 (fun h => by cases h)
  have hemb1 : Emb ntc e1 (M1.set lid1 (.obj (lp r .busy none))) E1 a1 := Emb.mono (E := E1) g2 (Nv.le.refl e1) fun _ => Ro.le.refl _
  refine Go.wpIn_mono (hbody a1 _ e1 hh1 hemb1) fun x2 a2 w2 k2 => ?_
  obtain ⟨y2, E2, M2, e2, q2, k1, k3, k4⟩ := k2
  obtain ⟨hd2, v2, d2, v2', d2', os2, lid2, ho2, hM2, hK0⟩ := q2
  have hb2' : E2.b = [] := (Prod.mk.inj ho2).2
  have ho2 := (Prod.mk.inj ho2).1
  have fin : Emb ntc e2 M2 E2 a2 → ∀ j, WPL P cx fr ops os (Env.upd ⟨v2, d2, ⟨aC, v2', d2', some (lid2, l)⟩ :: os2, []⟩ dst (.lit (.bool (Option.isNone j)))) (M2.set lid2 (.obj (lp r (if Option.isNone j then .ready else .done) j))) Q → ∃ v w', (Instr.endRound l j).run P w2 = .ok v w' ∧ wpListIn (fence P fr.r) 0 P ops (Sat cx fr Q) os (a.put (some dst) v) w' := by
    intro k3 j hK
    have hp2 := k3.o ⟨aC, v2', d2', some (lid2, l)⟩ (by rw [ho2]; simp)
    have hpI := k3.o ⟨a, v2, d2, none⟩ (by rw [ho2]; simp)
    obtain ⟨hlid2, hown2⟩ := hp2.lk lid2 l rfl
    have hb2 := k1.ch lid2 hlid2
    rw [hM2] at hb2
    have hbl2 : w2.heap[l]? = some (.loop { r with state := .busy, pending := none }) := by rw [← hown2]; exact hb2.2
    refine ⟨_, _, run_endRound j hbl2, ?_⟩
    have hh2 : Hold cx e2 (M2.set lid2 (.obj (lp r (if j.isNone then .ready else .done) j))) (w2.putObj l (.loop { ({ r with state := .busy, pending := none } : Loop) with state := if j.isNone then .ready else .done, pending := j })) := putObj_hold k1 hlid2 hown2 hM2 (fun h => by cases h)
    have hembI : Emb fr.nt e2 (M2.set lid2 (.obj (lp r (if j.isNone then .ready else .done) j))) ⟨v2, d2, ⟨aC, v2', d2', some (lid2, l)⟩ :: os2, []⟩ a :=
      ⟨he.sz, hpI.v, marksB.nil.2 (hpI.d.mono (Nv.le.refl e2)), fun p hp => okO_mem (k3.o p (by rw [ho2]; simp at hp ⊢; exact .inr hp))⟩
    exact hK _ _ e2 hh2 (hembI.put ht (by simp [Val]))
  have conv : ∀ {v : Value} {w' : World}, wpListIn (fence P fr.r) 0 P ops (Sat cx fr Q) os (a.put (some dst) v) w' → wpListIn (fence P none) 0 P ops (Sat cx fr Q) os (a.put (some dst) v) w' := by
    intro v w' h; rw [hfr] at h; exact h
  cases y2 with
  | normal => cases k4; obtain ⟨j, hj, hK⟩ := hK0; cases hj; obtain ⟨v, w', h1, h2⟩ := fin k3 _ hK; exact ⟨v, w', h1, conv h2⟩
  | ret => cases k4; obtain ⟨j, hj, hK⟩ := hK0; cases hj; obtain ⟨v, w', h1, h2⟩ := fin k3 _ hK; exact ⟨v, w', h1, conv h2⟩
  | exit id => cases k4; obtain ⟨j, hj, hK⟩ := hK0; cases hj; obtain ⟨v, w', h1, h2⟩ := fin k3 _ hK; exact ⟨v, w', h1, conv h2⟩
  | goto t => cases k4; obtain ⟨j, hj, hK⟩ := hK0; cases hj; obtain ⟨v, w', h1, h2⟩ := fin k3 _ hK; exact ⟨v, w', h1, conv h2⟩
  | panic u =>
    obtain ⟨x, rfl, hx⟩ := k4
    have hpI := k3.2 ⟨a, v2, d2, none⟩ (by rw [ho2]; simp)
    have hdf : a2.defers = [] := by
      have := k3.1.1
      rw [hb2', hd2] at this
      exact marksB.nil.1 this
    exact ⟨hdf, hK0 a w2 e2 _ k1 ⟨⟨marksB.nil.2 (hpI.d.mono (Nv.le.refl e2)), fun t _ => hpI.v t⟩, fun p hp => okO_mem (k3.2 p (by rw [ho2]; simp at hp ⊢; exact .inr hp))⟩ ⟨x, rfl, hx⟩⟩
/-- A round. -/
theorem WPL.y {fo : Operand} {args : Array Operand} {tys : Array TypeId} {l lid ntc : Nat} {r : Loop} {aC : Act} {vC : Nat → AVal} {dC : List Nat} {oC : List OEnv} {ps : Array Tmp} {assign body : Code} (hfr : fr.r = none) (hfo : E.ev fo = .lit (.func (.yield l) #[] #[]))
    (ho : (E.o, E.b) = (⟨aC, vC, dC, some (lid, l)⟩ :: oC, [])) (hM : M.at_ lid = .obj (lp r .ready none)) (hrp : r.params = ps) (hra : r.assign = assign) (hrb : r.body = body) (hrt : r.tmps = aC.tmps) (hsz : aC.tmps.size = ntc) (hrf : (P.funcs[r.fn]?).isSome = true)
    (hps : Nat.beq ps.size args.size = true) (hpl : (ps.toList.all fun t => Nat.blt t ntc) = true) (ht : Nat.blt dst fr.nt = true)
    (hround : ∀ aI : Act, WP P cx ⟨ntc, some l, []⟩ assign ⟨paramsV vC ps.toList (args.toList.map E.ev), [], ⟨aI, E.v, E.d, none⟩ :: E.o, []⟩ M
      (AssignQ P cx ntc l body r aI aC (fun j E M => WPL P cx fr ops os (E.upd dst (.lit (.bool j.isNone))) M Q) (fun u E M => W cx fr Q (.panic u) E M))) :
    WPL P cx fr ops ({ dst := some dst, op := .call { callee := .value fo, args := args, argTypes := tys }, type := ty, pos := pos, after := after, guard := Option.none } :: os) E M Q :=
  WPL.ycore hfr hfo ho hM hrp hra hrb hrt hsz hrf hps hpl ht (fun _ _ _ _ _ => rfl) hround
theorem WPL.yg {gj gt : Nat} {gb : Bool} {fo : Operand} {args : Array Operand} {tys : Array TypeId} {l lid ntc : Nat} {r : Loop} {aC : Act} {vC : Nat → AVal} {dC : List Nat} {oC : List OEnv} {ps : Array Tmp} {assign body : Code} (hfr : fr.r = none) (hfo : E.ev fo = .lit (.func (.yield l) #[] #[]))
    (ho : (E.o, E.b) = (⟨aC, vC, dC, some (lid, l)⟩ :: oC, [])) (hM : M.at_ lid = .obj (lp r .ready none)) (hrp : r.params = ps) (hra : r.assign = assign) (hrb : r.body = body) (hrt : r.tmps = aC.tmps) (hsz : aC.tmps.size = ntc) (hrf : (P.funcs[r.fn]?).isSome = true)
    (hps : Nat.beq ps.size args.size = true) (hpl : (ps.toList.all fun t => Nat.blt t ntc) = true) (ht : Nat.blt dst fr.nt = true)
    (gh : (ops[gj]?).bind (·.dst) = some gt) (ght : Nat.blt gt fr.nt = true) (ghv : E.v gt = .lit (.bool gb))
    (hround : ∀ aI : Act, WP P cx ⟨ntc, some l, []⟩ assign ⟨paramsV vC ps.toList (args.toList.map E.ev), [], ⟨aI, E.v, E.d, none⟩ :: E.o, []⟩ M
      (AssignQ P cx ntc l body r aI aC (fun j E M => WPL P cx fr ops os (E.upd dst (.lit (.bool j.isNone))) M Q) (fun u E M => W cx fr Q (.panic u) E M))) :
    WPL P cx fr ops ({ dst := some dst, op := .call { callee := .value fo, args := args, argTypes := tys }, type := ty, pos := pos, after := after, guard := some (gj, gb) } :: os) E M Q :=
  WPL.ycore hfr hfo ho hM hrp hra hrb hrt hsz hrf hps hpl ht (fun _ _ _ he hn => by subst hn; simp [Region.wanted, yields he gh ght ghv]) hround
end
end Go.Q
namespace Go.Q
open Go
set_option linter.unusedVariables false
set_option linter.unusedSimpArgs false
theorem grd {α : Type} {b : Bool} {x : Option α} {r : α} (h : (bif b then x else none) = some r) : b = true ∧ x = some r := by
  cases b with
  | true => exact ⟨rfl, h⟩
  | false => cases h
theorem bnd {α β : Type} {x : Option α} {f : α → Option β} {r : β} (h : x.bind f = some r) : ∃ a, x = some a ∧ f a = some r := Option.bind_eq_some_iff.1 h
theorem cnt {α : Type} {b : Bool} {x y : Option α} {r : α} (hb : b = true) (h : (bif b then x else y) = some r) : x = some r := by subst hb; exact h
theorem cnf {α : Type} {b : Bool} {x y : Option α} {r : α} (hb : b = false) (h : (bif b then x else y) = some r) : y = some r := by subst hb; exact h
theorem inj {α : Type} {x r : α} (h : some x = some r) : r = x := (Option.some.inj h).symm
section
variable {P : Program} {cx : Cx} {fr : Fr} {E : Env} {M : Mem} {Q : Ex → Env → Mem → Prop} {next : Env → Mem → Prop} {ty : TypeId}
theorem Then.n (h : next E M) : Then next Q .normal E M := h
theorem Then.r (h : Q .ret E M) : Then next Q .ret E M := h
theorem Then.x {id : Nat} (h : Q (.exit id) E M) : Then next Q (.exit id) E M := h
theorem Then.p {v : AVal} (h : Q (.panic v) E M) : Then next Q (.panic v) E M := h
theorem InBlock.n {id : Nat} (h : Q .normal E M) : InBlock id Q .normal E M := h
theorem InBlock.r {id : Nat} (h : Q .ret E M) : InBlock id Q .ret E M := h
theorem InBlock.p {id : Nat} {v : AVal} (h : Q (.panic v) E M) : InBlock id Q (.panic v) E M := h
theorem InBlock.x0 {id : Nat} (h : Q .normal E M) : InBlock id Q (.exit id) E M := by simp only [InBlock, Nat.beq_eq, if_true]; exact h
theorem InBlock.x {id id' : Nat} (hi : Nat.beq id' id = false) (h : Q (.exit id') E M) : InBlock id Q (.exit id') E M := by
  simp only [InBlock]
  rw [if_neg (by rw [hi]; simp)]
  exact h
theorem WP.condT {c : Operand} {x y : Code} (hc : E.ev c = .lit (.bool true)) (h : WP P cx fr x E M Q) : WP P cx fr (.cond c x y) E M Q := WP.cond hc (fun _ => h) (fun h => by cases h)
theorem WP.condF {c : Operand} {x y : Code} (hc : E.ev c = .lit (.bool false)) (h : WP P cx fr y E M Q) : WP P cx fr (.cond c x y) E M Q := WP.cond hc (fun h => by cases h) (fun _ => h)
theorem q_mv {x : Operand} {v : AVal} (h : E.ev x = v) : Quiet P (.move x) ty E M [] v := h ▸ q_move x
theorem q_as {x : Operand} {v : AVal} (h : E.ev x = v) : Quiet P (.assign x) ty E M [] v := h ▸ q_assign x
theorem q_pickT {c x y : Operand} {v : AVal} (hc : E.ev c = .lit (.bool true)) (h : E.ev x = v) : Quiet P (.pick c x y) ty E M [] v := by
  have := q_pick (P := P) (ty := ty) (M := M) (x := x) (y := y) hc
  simp only [cond_true] at this
  exact h ▸ this
theorem q_pickF {c x y : Operand} {v : AVal} (hc : E.ev c = .lit (.bool false)) (h : E.ev y = v) : Quiet P (.pick c x y) ty E M [] v := by
  have := q_pick (P := P) (ty := ty) (M := M) (x := x) (y := y) hc
  simp only [cond_false] at this
  exact h ▸ this
/-- A guard's case: both ways. -/
theorem WPL.split {ops : Array Oper} {os : List Oper} {t : Nat} {b : Bool} (hv : E.v t = .lit (.bool b)) (h1 : b = true → WPL P cx fr ops os E M Q) (h2 : b = false → WPL P cx fr ops os E M Q) : WPL P cx fr ops os E M Q := by
  cases b with
  | true => exact h1 rfl
  | false => exact h2 rfl
/-- A name for nil in a cell of our own. -/
theorem Hold.virCell {e : Nv} {w : World} (hh : Hold cx e M w) {α : Type} {ct R} {i off N : Nat} {t : TypeId} {l : List AVal} (hN : M.n = N) (hi : i < N) (hc : M.at_ i = .cells t l) (hv : l[off]? = some (.lit (.slice none 0 0))) :
    Hold cx (e.bump 0 0 0 true) ((M.push (.row ct (R : Rd α) [])).set i (.cells t (l.set off (.whole N)))) w := by
  have h1 := hh.bindVir (t := ct) (R := R)
  have hin : i < (e.bump 0 0 0 true).n := by simp only [Nv.bump, hh.n, hN]; omega
  have hat : (M.push (.row ct R [])).at_ i = .cells t l := by rw [Mem.push_at, if_neg (by omega)]; exact hc
  have hlive : ((M.push (.row ct R [])).at_ i).live (e.bump 0 0 0 true) i := by rw [hat]; trivial
  refine h1.change hin hlive rfl rfl rfl rfl (fun _ _ => rfl) ?_
  have hk := h1.ch i hin
  rw [hat] at hk
  obtain ⟨g1, vs, g2, g3, g4⟩ := hk
  refine ⟨g1, vs, g2, ?_, g4⟩
  obtain ⟨u, hu, hval⟩ := g3.get hv
  simp only [Val] at hval
  have hset : vs = vs.set off u := by
    apply List.ext_getElem?
    intro j
    rw [List.getElem?_set]
    split
    · rename_i hj; subst hj; split
      · rename_i hlt; rw [hu]
      · rename_i hge; rw [List.getElem?_eq_none (by omega)]
    · rfl
  rw [hset]
  refine g3.set ?_
  rw [hval]
  simp only [Val, Nv.bump, ← hN, ← hh.n, if_true]
  exact ⟨Nat.lt_succ_self _, Nat.le_refl _, trivial, trivial⟩
theorem WPL.virC {ops : Array Oper} {os : List Oper} {α : Type} (ct : TypeId) (R : Rd α) {i off N : Nat} {t : TypeId} {l : List AVal} (hN : M.n = N) (hi : Nat.blt i N = true) (hc : M.at_ i = .cells t l) (hv : l[off]? = some (.lit (.slice none 0 0)))
    (k : WPL P cx fr ops os E ((M.push (.row ct R [])).set i (.cells t (l.set off (.whole N)))) Q) : WPL P cx fr ops os E M Q :=
  fun a w e hh he => k a w _ (hh.virCell hN (by simpa using hi) hc hv) (he.mono (e.bump_le 0 0 0 true) (fun b => e.bump_mem 0 0 0 true b))
theorem WP.virC {c : Code} {α : Type} (ct : TypeId) (R : Rd α) {i off N : Nat} {t : TypeId} {l : List AVal} (hN : M.n = N) (hi : Nat.blt i N = true) (hc : M.at_ i = .cells t l) (hv : l[off]? = some (.lit (.slice none 0 0)))
    (k : WP P cx fr c E ((M.push (.row ct R [])).set i (.cells t (l.set off (.whole N)))) Q) : WP P cx fr c E M Q :=
  fun a w e hh he => k a w _ (hh.virCell hN (by simpa using hi) hc hv) (he.mono (e.bump_le 0 0 0 true) (fun b => e.bump_mem 0 0 0 true b))
theorem WP.vir {c : Code} {α : Type} (ct : TypeId) (R : Rd α) {N : Nat} (hN : M.n = N) (tt : Nat) (hv : E.v tt = .lit (.slice none 0 0)) (k : WP P cx fr c (E.upd tt (.whole N)) (M.push (.row ct R [])) Q) : WP P cx fr c E M Q := by
  intro a w e hh he
  refine k a w (e.bump 0 0 0 true) hh.bindVir ?_
  have h1 : Emb fr.nt (e.bump 0 0 0 true) (M.push (.row ct R [])) E a := he.mono (e.bump_le 0 0 0 true) (fun b => e.bump_mem 0 0 0 true b)
  refine ⟨h1.sz, fun u => ?_, h1.d, h1.o⟩
  rw [Env.upd_v]
  split
  · rename_i hu
    subst hu
    have := h1.v u
    rw [hv] at this
    simp only [Val] at this
    rw [this]
    simp only [Val, Nv.bump, ← hN, ← hh.n, if_true]
    exact ⟨Nat.lt_succ_self _, Nat.le_refl _, trivial, trivial⟩
  · exact h1.v u
end
section
variable {P : Program} {E : Env} {M : Mem} {ty : TypeId}
/-- Bytes of a slice as a string's own: []byte("..") and the like need Qm. A slice of a slice that is only read. -/
theorem run_slice_sl {t el : TypeId} {n : Nat} (h : SlIs P t el n) (a : Option Addr) (len cap : Nat) (lo hi : Option Value) (l r : Nat) (w : World)
    (hl : (match lo with | some v => ∃ k, v = .int k (l : Int) | none => l = 0)) (hr : (match hi with | some v => ∃ k, v = .int k (r : Int) | none => r = len)) (hlr : l ≤ r) (hrc : r ≤ cap) :
    (Instr.sliceAt t (.slice a len cap) lo hi none).run P w = .ok (.slice (if cap = l then a else a.map (·.add (l * n))) (r - l) (cap - l)) w := by
  have e1 : ∀ (y : Nat) (code : BoundsCode) (v : Value) (m : Nat), (∃ k, v = .int k (m : Int)) → m ≤ y → (Instr.sliceBound v y code).run P w = .ok m w := by
    rintro y code v m ⟨k, rfl⟩ hm
    have h1 : (0 : Int) ≤ (m : Int) ∧ (m : Int) ≤ (y : Int) := ⟨by omega, by omega⟩
    simp only [Instr.sliceBound, asIntOf, Sem.run_bind, Sem.run_pure, Result.andThen]
    rw [if_pos h1]
    simp
  cases lo with
  | none =>
    simp only at hl
    cases hi with
    | none =>
      simp only at hr
      subst hl hr
      simp [Instr.sliceAt, Instr.slice, run_underlying h.t, Instr.sliceBounds, h.e.run]
    | some v =>
      simp only at hr
      subst hl
      simp [Instr.sliceAt, Instr.slice, run_underlying h.t, Instr.sliceBounds, h.e.run, e1 cap _ v r hr hrc]
  | some u =>
    simp only at hl
    cases hi with
    | none =>
      simp only at hr
      subst hr
      simp [Instr.sliceAt, Instr.slice, run_underlying h.t, Instr.sliceBounds, h.e.run, e1 r _ u l hl hlr]
    | some v =>
      simp only at hr
      simp [Instr.sliceAt, Instr.slice, run_underlying h.t, Instr.sliceBounds, h.e.run, e1 cap _ v r hr hrc, e1 r _ u l hl hlr]
/-- The bounds of a slice expression. -/
def evOpt (E : Env) (x : Option Operand) (d : Int) (i : Int) : Prop := match x with | some o => ∃ k, E.ev o = .lit (.int k i) | none => i = d
theorem q_slice_ro {α : Type} {R : Rd α} {b : Bool} {l : List α} {t el : TypeId} {n : Nat} {x : Operand} {lo hi : Option Operand} {i j : Int} (h : SlIs P t el n) (hn : R.sz = n) (hx : E.ev x = .ro (Rd.slice R) b l)
    (hlo : evOpt E lo 0 i) (hhi : evOpt E hi l.length j) (hb : decide (0 ≤ i ∧ i ≤ j ∧ j ≤ l.length) = true) : Quiet P (.slice t x lo hi none) ty E M [] (.ro (Rd.slice R) b ((l.take j.toNat).drop i.toNat)) :=
  fun cx nt a w e hh he => by
    obtain ⟨b0, b1, b2⟩ := of_decide_eq_true hb
    have hv := he.ev x; rw [hx] at hv; simp only [Val, Rd.slice] at hv
    have hlo' : (match lo.map a.eval with | some v => ∃ k, v = .int k (i.toNat : Int) | none => i.toNat = 0) := by
      cases lo with
      | none => simp only [evOpt] at hlo; subst hlo; rfl
      | some o =>
        obtain ⟨k, hk⟩ := hlo
        exact ⟨k, by rw [ev_lit he hk, Int.toNat_of_nonneg b0]⟩
    have hhi' : (match hi.map a.eval with | some v => ∃ k, v = .int k (j.toNat : Int) | none => j.toNat = l.length) := by
      cases hi with
      | none => simp only [evOpt] at hhi; subst hhi; exact Int.toNat_natCast _
      | some o =>
        obtain ⟨k, hk⟩ := hhi
        exact ⟨k, by rw [ev_lit he hk, Int.toNat_of_nonneg (by omega)]⟩
    have hlr : i.toNat ≤ j.toNat := by omega
    have hjl : j.toNat ≤ l.length := by omega
    have hlen : ((l.take j.toNat).drop i.toNat).length = j.toNat - i.toNat := by simp; omega
    rcases hv with ⟨rfl, ad, c, h1⟩ | ⟨bk, o, c, tt, fr, cap, h1, hc, h2, h3⟩
    · simp at h1
      have hj0 : j.toNat = 0 := by simpa using hjl
      have hi0 : i.toNat = 0 := by omega
      refine ⟨.slice (if c = i.toNat then ad else ad.map (·.add (i.toNat * n))) (j.toNat - i.toNat) (c - i.toNat), ?_, fun w1 hw => ?_⟩
      · simp only [Val, Rd.slice]
        exact .inl ⟨by simp, _, _, by rw [hj0, hi0]⟩
      · have := run_slice_sl h ad 0 c (lo.map a.eval) (hi.map a.eval) i.toNat j.toNat w1 hlo' (by simpa using hhi') hlr (by omega)
        simp [exec1, execOp, h1, this]
    · simp at h1
      refine ⟨.slice (if cap = i.toNat then some ⟨bk, o, none⟩ else (some (⟨bk, o, none⟩ : Addr)).map (·.add (i.toNat * n))) (j.toNat - i.toNat) (cap - i.toNat), ?_, fun w1 hw => ?_⟩
      · simp only [Val, Rd.slice]
        by_cases h0 : j.toNat - i.toNat = 0
        · exact .inl ⟨List.eq_nil_of_length_eq_zero (by omega), _, _, by rw [h0]⟩
        · have hne : ¬ cap = i.toNat := by omega
          refine .inr ⟨bk, o + i.toNat * n, c, tt, fr, cap - i.toNat, by rw [if_neg hne, hlen]; simp [add_at], by omega, h2, ?_⟩
          rw [← hn]
          have := rows_drop i.toNat (rows_take j.toNat h3)
          rw [List.drop_drop] at this
          exact this
      · have := run_slice_sl h (some ⟨bk, o, none⟩) l.length cap (lo.map a.eval) (hi.map a.eval) i.toNat j.toNat w1 hlo' hhi' hlr (by omega)
        simp [exec1, execOp, h1, this]
/-- Part of a string. -/
theorem q_slice_str {t : TypeId} {x : Operand} {s : ByteArray} {lo hi : Option Operand} {i j : Int} (h : P.underlying t = some .string) (hx : E.ev x = .lit (.string s))
    (hlo : evOpt E lo 0 i) (hhi : evOpt E hi s.size j) (hb : decide (0 ≤ i ∧ i ≤ j ∧ j ≤ s.size) = true) : Quiet P (.slice t x lo hi none) ty E M [] (.lit (.string (s.extract i.toNat j.toNat))) :=
  fun cx nt a w e hh he => by
    obtain ⟨b0, b1, b2⟩ := of_decide_eq_true hb
    refine ⟨.string (s.extract i.toNat j.toNat), by simp [Val], fun w1 hw => ?_⟩
    have e1 : ∀ (y : Nat) (code : BoundsCode) (k : IntKind) (m : Int), 0 ≤ m → m ≤ y → (Instr.sliceBound (.int k m) y code).run P w1 = .ok m.toNat w1 := by
      intro y code k m h0 hm
      simp only [Instr.sliceBound, asIntOf, Sem.run_bind, Sem.run_pure, Result.andThen]
      rw [if_pos ⟨h0, hm⟩]
      simp
    have hjs : j.toNat ≤ s.size := by omega
    cases lo with
    | none =>
      simp only [evOpt] at hlo
      subst hlo
      cases hi with
      | none =>
        simp only [evOpt] at hhi
        subst hhi
        simp [exec1, execOp, ev_lit he hx, Instr.sliceAt, Instr.slice, run_underlying h, Instr.sliceBounds]
      | some v =>
        obtain ⟨k, hk⟩ := hhi
        simp [exec1, execOp, ev_lit he hx, ev_lit he hk, Instr.sliceAt, Instr.slice, run_underlying h, Instr.sliceBounds, e1 s.size _ k j (by omega) b2]
    | some u =>
      obtain ⟨k', hk'⟩ := hlo
      cases hi with
      | none =>
        simp only [evOpt] at hhi
        subst hhi
        simp [exec1, execOp, ev_lit he hx, ev_lit he hk', Instr.sliceAt, Instr.slice, run_underlying h, Instr.sliceBounds, e1 s.size _ k' i b0 b1]
      | some v =>
        obtain ⟨k, hk⟩ := hhi
        simp [exec1, execOp, ev_lit he hx, ev_lit he hk, ev_lit he hk', Instr.sliceAt, Instr.slice, run_underlying h, Instr.sliceBounds, e1 s.size _ k j (by omega) b2, e1 j.toNat _ k' i b0 (by omega)]
end
end Go.Q
namespace Go.Q
open Go
set_option linter.unusedVariables false
set_option linter.unusedSimpArgs false
/-- A state told otherwise. -/
def Cv (cx : Cx) (nt : Nat) (E : Env) (M : Mem) (E' : Env) (M' : Mem) : Prop :=
  ∀ a w e, Hold cx e M w → Emb nt e M E a → ∃ e', Hold cx e' M' w ∧ Emb nt e' M' E' a
def Ex.plain : Ex → Bool
  | .panic _ => false
  | _ => true
section
variable {P : Program} {cx : Cx} {fr : Fr} {nt : Nat} {E E' E'' : Env} {M M' M'' : Mem} {Q Q' : Ex → Env → Mem → Prop} {x : Ex} {c : Code} {ops : Array Oper} {os : List Oper}
theorem W.cv (k : Cv cx fr.nt E M E' M') (hx : x.plain = true) (h : W cx fr Q x E' M') : W cx fr Q x E M := fun a w e X hh he hX => by
  cases x with
  | panic v => cases hx
  | normal => obtain ⟨e', h1, h2⟩ := k a w e hh he; exact h a w e' X h1 h2 hX
  | exit id => obtain ⟨e', h1, h2⟩ := k a w e hh he; exact h a w e' X h1 h2 hX
  | goto l => obtain ⟨e', h1, h2⟩ := k a w e hh he; exact h a w e' X h1 h2 hX
  | ret => obtain ⟨e', h1, h2⟩ := k a w e hh he; exact h a w e' X h1 h2 hX
theorem WP.cv (k : Cv cx fr.nt E M E' M') (h : WP P cx fr c E' M' Q) : WP P cx fr c E M Q := fun a w e hh he => let ⟨e', h1, h2⟩ := k a w e hh he; h a w e' h1 h2
theorem WPL.cv (k : Cv cx fr.nt E M E' M') (h : WPL P cx fr ops os E' M' Q) : WPL P cx fr ops os E M Q := fun a w e hh he => let ⟨e', h1, h2⟩ := k a w e hh he; h a w e' h1 h2
theorem Cv.same : Cv cx nt E M E M := fun a w e hh he => ⟨e, hh, he⟩
theorem Cv.trans (h : Cv cx nt E M E' M') (k : Cv cx nt E' M' E'' M'') : Cv cx nt E M E'' M'' := fun a w e hh he => let ⟨e', h1, h2⟩ := h a w e hh he; k a w e' h1 h2
theorem WPL.nilW (h : W cx fr Q .normal E M) : WPL P cx fr ops [] E M Q := fun a w e hh he => h a w e _ hh he rfl
theorem WP.skipW (h : W cx fr Q .normal E M) : WP P cx fr .skip E M Q := fun a w e hh he => wpIn_skip (h a w e _ hh he rfl)
theorem WP.labelW {l : Nat} (h : W cx fr Q .normal E M) : WP P cx fr (.label l) E M Q := fun a w e hh he => wpIn_label (h a w e _ hh he rfl)
theorem WP.exitW {id : Nat} (h : W cx fr Q (.exit id) E M) : WP P cx fr (.exit id) E M Q := fun a w e hh he => wpIn_exit (h a w e _ hh he rfl)
theorem WP.retW (h : W cx fr Q .ret E M) : WP P cx fr .ret E M Q := fun a w e hh he => wpIn_ret (h a w e _ hh he rfl)
theorem WPD.doneW {st X : List Nat} {fuel : Nat} {listed : Array Bool} (hb : readyNo ops listed = true) (h : W cx fr Q .normal E M) : WPD P cx fr ops st X fuel listed E M Q := by
  intro a w e hh he
  have hready : Region.ready .any ops listed = [] := by simpa [readyNo, List.isEmpty_iff] using hb
  have hs : Sat cx fr Q .normal a w := h a w e _ hh he rfl
  cases fuel with
  | zero => exact ⟨hready, hs⟩
  | succ n => exact ⟨fun _ => hs, by rw [hready]; simp⟩
theorem WPD.split {st X : List Nat} {fuel : Nat} {listed : Array Bool} {t : Nat} {b : Bool} (hv : E.v t = .lit (.bool b)) (h1 : b = true → WPD P cx fr ops st X fuel listed E M Q) (h2 : b = false → WPD P cx fr ops st X fuel listed E M Q) : WPD P cx fr ops st X fuel listed E M Q := by
  cases b with
  | true => exact h1 rfl
  | false => exact h2 rfl
theorem WPD.sub {st X : List Nat} {fuel : Nat} {listed : Array Bool} (X' : List Nat) (hs : X'.all X.contains = true) (k : WPD P cx fr ops st X' fuel listed E M Q) : WPD P cx fr ops st X fuel listed E M Q :=
  fun a w e hh he => wpAnyF_mono (fun _ h => h) (fun _ h => h.nil_of) (fun _ h => h) (fun i hi => List.all_eq_true.1 hs i (by simpa using hi)) _ _ _ _ (k a w e hh he)
theorem WP.regionD' (n : Nat) (st X : List Nat) {id : Nat} (hm : P.follows .mixedOrders = true) (hn : ops.size = n) (h : WPD P cx fr ops st X n (Array.replicate n false) E M Q) : WP P cx fr (.region id ops true) E M Q := by
  subst hn; exact WP.regionD st X hm h
/-- A cut. -/
theorem WP.monoW (h : WP P cx fr c E M Q) (hq : ∀ x E M, Q x E M → W cx fr Q' x E M) : WP P cx fr c E M Q' :=
  fun a w e hh he => Go.wpIn_mono (h a w e hh he) fun X a' w' k => by
    obtain ⟨y, E', M', e', q, h1, h2, h3⟩ := k
    exact hq y E' M' q a' w' e' X h1 h2 h3
theorem Cv.weak {np : Nat} (l : List Nat) (hnp : cx.np = np) (hM : LeM l np M M') (hE : LeE l M'.n E E') : Cv cx nt E M E' M' :=
  fun a w e hh he => ⟨_, hh.re hnp hM, he.re hM hE⟩
/-- A state told otherwise, its naming going on. -/
def CvL (cx : Cx) (nt : Nat) (E : Env) (M : Mem) (E' : Env) (M' : Mem) : Prop :=
  ∀ a w e, Hold cx e M w → Emb nt e M E a → ∃ e', Hold cx e' M' w ∧ Emb nt e' M' E' a ∧ e.le e'
theorem CvL.cv (h : CvL cx nt E M E' M') : Cv cx nt E M E' M' := fun a w e hh he => let ⟨e', h1, h2, _⟩ := h a w e hh he; ⟨e', h1, h2⟩
theorem WPD.cvL {st X : List Nat} {fuel : Nat} {listed : Array Bool} (k : CvL cx fr.nt E M E' M') (hst : (st.all fun i => Nat.blt i M.n) = true) (h : WPD P cx fr ops st X fuel listed E' M' Q) : WPD P cx fr ops st X fuel listed E M Q := fun a w e hh he => by
  obtain ⟨e', h1, h2, hle⟩ := k a w e hh he
  have key : ∀ (l : List Nat), (l.all fun i => Nat.blt i M.n) = true → ∀ w1, Agree e' l w w1 → Agree e l w w1 := fun l hl w1 hw => ⟨fun b o hb => hw.ro b o (hle.m.f b o hb), fun b o hb => hw.bro b o (hle.bm.f b o hb), fun i hi hin hv => by
    have := hw.own i hi (Nat.lt_of_lt_of_le hin hle.n) ((hle.vir i hin).trans hv)
    rw [hle.own i hin] at this
    exact this, fun hp k a hk => hw.pool hp k a (hle.m.tab k a hk)⟩
  exact wpAnyF_mono (key [] rfl) (fun w1 h => (key st hst w1 h).nil_of) (key st hst) (fun _ h => h) _ _ _ _ (h a w e' h1 h2)
theorem CvL.vir {α : Type} (ct : TypeId) (R : Rd α) {N : Nat} (hN : M.n = N) (tt : Nat) (hv : E.v tt = .lit (.slice none 0 0)) : CvL cx nt E M (E.upd tt (.whole N)) (M.push (.row ct R [])) := by
  intro a w e hh he
  refine ⟨e.bump 0 0 0 true, hh.bindVir, ?_, e.bump_le 0 0 0 true⟩
  have h1 : Emb nt (e.bump 0 0 0 true) (M.push (.row ct R [])) E a := he.mono (e.bump_le 0 0 0 true) (fun b => e.bump_mem 0 0 0 true b)
  refine ⟨h1.sz, fun u => ?_, h1.d, h1.o⟩
  rw [Env.upd_v]
  split
  · rename_i hu
    subst hu
    have := h1.v u
    rw [hv] at this
    simp only [Val] at this
    rw [this]
    simp only [Val, Nv.bump, ← hN, ← hh.n, if_true]
    exact ⟨Nat.lt_succ_self _, Nat.le_refl _, trivial, trivial⟩
  · exact h1.v u
theorem Cv.vir {α : Type} (ct : TypeId) (R : Rd α) {N : Nat} (hN : M.n = N) (tt : Nat) (hv : E.v tt = .lit (.slice none 0 0)) : Cv cx nt E M (E.upd tt (.whole N)) (M.push (.row ct R [])) := CvL.cv (CvL.vir ct R hN tt hv)
theorem CvL.virC {α : Type} (ct : TypeId) (R : Rd α) {i off N : Nat} {t : TypeId} {l : List AVal} (hN : M.n = N) (hi : Nat.blt i N = true) (hc : M.at_ i = .cells t l) (hv : l[off]? = some (.lit (.slice none 0 0))) :
    CvL cx nt E M E ((M.push (.row ct R [])).set i (.cells t (l.set off (.whole N)))) :=
  fun a w e hh he => ⟨_, hh.virCell hN (by simpa using hi) hc hv, he.mono (e.bump_le 0 0 0 true) (fun b => e.bump_mem 0 0 0 true b), e.bump_le 0 0 0 true⟩
theorem Cv.virC {α : Type} (ct : TypeId) (R : Rd α) {i off N : Nat} {t : TypeId} {l : List AVal} (hN : M.n = N) (hi : Nat.blt i N = true) (hc : M.at_ i = .cells t l) (hv : l[off]? = some (.lit (.slice none 0 0))) :
    Cv cx nt E M E ((M.push (.row ct R [])).set i (.cells t (l.set off (.whole N)))) := CvL.cv (CvL.virC ct R hN hi hc hv)
theorem Cv.frzRow {i np : Nat} {t : TypeId} {α : Type} {R : Rd α} {l : List α} (hi : Nat.blt i M.n = true) (hc : M.at_ i = .row t R l) (hnp : cx.np = np) (hni : Nat.ble np i = true) (hd : (E.d.all fun j => !Nat.beq j i) = true) :
    Cv cx nt E M (E.frz i (.ro (Rd.slice R) false l) .any) (M.frz i (.ro (Rd.slice R) false l) .any) :=
  fun a w e hh he => let ⟨e', h1, h2, _⟩ := freeze_row hh he hi hc hnp hni hd; ⟨e', h1, h2⟩
theorem CvL.frzRow {i np : Nat} {t : TypeId} {α : Type} {R : Rd α} {l : List α} (hi : Nat.blt i M.n = true) (hc : M.at_ i = .row t R l) (hnp : cx.np = np) (hni : Nat.ble np i = true) (hd : (E.d.all fun j => !Nat.beq j i) = true) :
    CvL cx nt E M (E.frz i (.ro (Rd.slice R) false l) .any) (M.frz i (.ro (Rd.slice R) false l) .any) :=
  fun a w e hh he => freeze_row hh he hi hc hnp hni hd
/-- Nil, as a slice that is only read. -/
theorem nil_ro {e : Nv} {α : Type} (R : Rd α) (b : Bool) {v : Value} (h : Val e (.lit (.slice none 0 0)) v) : Val e (.ro (Rd.slice R) b []) v := by
  simp only [Val] at h ⊢
  exact .inl ⟨rfl, none, 0, by rw [h]⟩
theorem Cv.nilRo {α : Type} (R : Rd α) (b : Bool) (tt : Nat) (hv : E.v tt = .lit (.slice none 0 0)) : Cv cx nt E M (E.upd tt (.ro (Rd.slice R) b [])) M := by
  intro a w e hh he
  refine ⟨e, hh, he.sz, fun u => ?_, he.d, he.o⟩
  rw [Env.upd_v]
  split
  · rename_i hu
    subst hu
    have := he.v u
    rw [hv] at this
    exact nil_ro R b this
  · exact he.v u
/-- Is a slice that is only read nil? If so it is empty. -/
theorem WPL.eqlNil {α : Type} {R : Rd α} {b : Bool} {l : List α} {t el yt ty : TypeId} {y : Operand} {dst : Nat} {pos : String} {after : Array Edge} (ht : P.underlying t = some (.slice el)) (hx : E.ev y = .ro (Rd.slice R) b l)
    (hd : Nat.blt dst fr.nt = true) (k : ∀ nb : Bool, (nb = true → l = []) → WPL P cx fr ops os (E.upd dst (.lit (.bool nb))) M Q) :
    WPL P cx fr ops ({ dst := some dst, op := .binOp .eql t y (.const (.slice none 0 0)) yt, type := ty, pos := pos, after := after, guard := Option.none } :: os) E M Q := by
  intro a w e hh he
  have hv := he.ev y
  rw [hx] at hv
  simp only [Val, Rd.slice] at hv
  have hrun : ∀ (ad : Option Addr) (n c : Nat), (binOp .eql t (.slice ad n c) (.slice none 0 0)).run P w = .ok (.bool ad.isNone) w := by
    intro ad n c
    have h1 : (Op.equal t (.slice ad n c) (.slice none 0 0)).run P w = .ok ad.isNone w := by
      rw [equal_eq, Op.equalIn]
      simp only [Sem.run_bind, run_underlying ht, Result.andThen, Sem.run_pure]
      cases ad <;> rfl
    simp only [binOp, Sem.run_bind, h1, Result.andThen, Sem.run_pure]
  have key : ∀ (ad : Option Addr) (n c : Nat), a.eval y = .slice ad n c → (ad.isNone = true → l = []) → wpListIn (fence P fr.r) 0 P ops (Sat cx fr Q) ({ dst := some dst, op := .binOp .eql t y (.const (.slice none 0 0)) yt, type := ty, pos := pos, after := after, guard := Option.none } :: os) a w := by
    intro ad n c hy hn
    unfold wpListIn
    rw [if_pos (by rfl)]
    refine ⟨fun f hf => by simp [Oper.about] at hf, ?_⟩
    rw [semAt_value (x := .bool ad.isNone) (w' := w)]
    · exact k _ hn _ w e hh (he.put hd (by simp [Val]))
    · simp only [exec1, execOp, hy, eval_const, g_slice, Sem.run_bind, Sem.run_pure, Result.andThen, hrun]
  rcases hv with ⟨h0, ad, c, h1⟩ | ⟨bk, o, c, tt, fr', cap, h1, _⟩
  · simp at h1
    exact key ad 0 c h1 (fun _ => h0)
  · simp at h1
    exact key _ _ _ h1 (fun h => by simp at h)
/-- A value told otherwise. -/
theorem q_nm {op : Op} {ty : TypeId} {st : List Nat} {v v' : AVal} (h : Quiet P op ty E M st v) (hv : v = v') : Quiet P op ty E M st v' := hv ▸ h
theorem nm_int {k : IntKind} {a b : Int} (h : some a = some b) : AVal.lit (.int k a) = AVal.lit (.int k b) := by cases h; rfl
theorem nm_bool {a b : Bool} (h : some a = some b) : AVal.lit (.bool a) = AVal.lit (.bool b) := by cases h; rfl
theorem nf {α : Type} {x : Option α} {r : α} {p : Prop} (e : x = none) (h : x = some r) : p := by rw [e] at h; cases h
end
/-- A truth value that is known. -/
theorem lb {a b : Bool} (h : a = b) : AVal.lit (.bool a) = AVal.lit (.bool b) := by rw [h]
theorem ixs {α : Type} {l : List α} {i : Int} {d : α} (h : ix l i = some d) : (ix l i).isSome = true := by rw [h]; rfl
theorem ixj {α : Type} {l : List α} {i : Int} {d : α} (h : ix l i = some d) : l[i.toNat]? = some d := (ix_some h).2.1
theorem Joins.nil {α : Type} {R : Rd α} {b : Bool} : Joins (Rd.slice R) b [] [.lit (.slice none 0 0)] := fun e cs hk ho => by
  simp only [Vals, Val] at hk
  obtain ⟨v, ws, rfl, rfl, rfl⟩ := hk
  exact .inl ⟨rfl, none, 0, rfl⟩
/-- What a body must come to, its memory told anew. -/
def BodyR (az : List (Nat × Nat)) (rs : List ResultVar) (np : Nat) (Q : Out → Mem → Prop) (x : Ex) (E : Env) (M : Mem) : Prop :=
  match x with
  | .normal | .ret => marksOk M E.d ∧ ∃ vs, resAll az E (dropMarks M E.d) rs = some vs ∧ ∃ (l : List Nat) (v : AVal) (M2 : Mem), LeM l np (dropMarks M E.d) M2 ∧ resOut vs = v.ren (sub l) ∧ (v.under M2.n && E.b.isEmpty) = true ∧ Q (.ret v) M2
  | .panic u => marksOk M E.d ∧ ∃ (l : List Nat) (v : AVal) (M2 : Mem), LeM l np (dropMarks M E.d) M2 ∧ u = v.ren (sub l) ∧ (v.under M2.n && E.b.isEmpty) = true ∧ Q (.pan v) M2
  | _ => False
theorem Spec.of_bodyR {az : List (Nat × Nat)} {P : Program} {f : FuncId} {fn : Func} {c : Code} {np nt : Nat} {args : List AVal} {M : Mem} {Q : Out → Mem → Prop} {rs : List ResultVar} (hf : P.funcs[f]? = some fn) (hb : fn.body = some c) (hr : fn.results.toList = rs) (hsc : ∀ t T, ResultVar.cell t T ∈ rs → CellOk P az T)
    (hnt : fn.ntmps = nt) (ha : Nat.ble args.length nt = true) (h : ∀ cx, cx.np = np → WP P cx ⟨nt, none, []⟩ c (argsEnv args) M (BodyR az rs np Q)) : Spec P f np args M Q := by
  have h1 : Spec P f np args M fun o M' => match o with
      | .ret u => ∃ (l : List Nat) (v : AVal) (M2 : Mem), LeM l np M' M2 ∧ u = v.ren (sub l) ∧ v.under M2.n = true ∧ Q (.ret v) M2
      | .pan u => ∃ (l : List Nat) (v : AVal) (M2 : Mem), LeM l np M' M2 ∧ u = v.ren (sub l) ∧ v.under M2.n = true ∧ Q (.pan v) M2 := by
    refine Spec.of_body hf hb hr hsc hnt ha fun cx hnp => (h cx hnp).mono fun x E M q => ?_
    cases x with
    | normal => obtain ⟨q1, vs, q2, l, v, M2, g1, g2, g3, g4⟩ := q; rw [Bool.and_eq_true] at g3; exact ⟨by simpa using g3.2, q1, vs, q2, l, v, M2, g1, g2, g3.1, g4⟩
    | ret => obtain ⟨q1, vs, q2, l, v, M2, g1, g2, g3, g4⟩ := q; rw [Bool.and_eq_true] at g3; exact ⟨by simpa using g3.2, q1, vs, q2, l, v, M2, g1, g2, g3.1, g4⟩
    | panic u => obtain ⟨q1, l, v, M2, g1, g2, g3, g4⟩ := q; rw [Bool.and_eq_true] at g3; exact ⟨by simpa using g3.2, q1, l, v, M2, g1, g2, g3.1, g4⟩
    | exit id => exact q
    | goto l => exact q
  intro cx e w vs k1 k2 k3
  refine (h1 cx e w vs k1 k2 k3).mono fun x w' ⟨o, M', e', q, g1, g2⟩ => ?_
  cases o with
  | ret u =>
    obtain ⟨l, v, M2, hM, rfl, hu, hq⟩ := q
    obtain ⟨y, rfl, hy⟩ := g2
    exact ⟨.ret v, M2, _, hq, g1.re k1.np hM, y, rfl, hy.re hu⟩
  | pan u =>
    obtain ⟨l, v, M2, hM, rfl, hu, hq⟩ := q
    obtain ⟨y, rfl, hy⟩ := g2
    exact ⟨.pan v, M2, _, hq, g1.re k1.np hM, y, rfl, hy.re hu⟩
section
variable {P : Program} {b : Frame} {a : Act} {k : List Item} {cs : List Frame} {w : World}
theorem stepR_scope {c : Code} : step P (lone (b.atR a (.code (.scope c) :: k)) cs w) = .next (lone (b.atR a (.code c :: .inScope c :: k)) cs w) :=
  step_lone_go (by simp [stepG, stepG.exec, Frame.atR])
theorem stepR_inScope {c : Code} : step P (lone (b.atR a (.inScope c :: k)) cs w) = .next (lone (b.atR a k) cs w) :=
  step_lone_go (by simp [stepG, stepG.exec, Frame.atR])
end
/-- A scope through which the walk goes without a goto. -/
theorem WP.scope {P : Program} {cx : Cx} {fr : Fr} {c : Code} {E : Env} {M : Mem} {Q : Ex → Env → Mem → Prop} (h : WP P cx fr c E M fun x E M => (match x with | .goto _ => False | _ => True) ∧ Q x E M) : WP P cx fr (.scope c) E M Q := by
  intro a w e hh he b k cs hro hb hr
  obtain ⟨x, a1, w1, hq, harr⟩ := h a w e hh he b (.inScope c :: k) cs hro hb hr
  have h0 : (lone (b.atR a (.code (.scope c) :: k)) cs w).fenced P (fence P fr.r) := fenced_calm hb hr rfl
  obtain ⟨y, E', M', e', ⟨q1, q2⟩, g1, g2, g3⟩ := hq
  have hs : Sat cx fr Q x a1 w1 := ⟨y, E', M', e', q2, g1, g2, g3⟩
  cases y with
  | normal => cases g3; exact ⟨.normal, a1, w1, hs, .head h0 stepR_scope (StepsIn.trans harr (.one (fenced_calm hb hr rfl) stepR_inScope))⟩
  | exit id =>
    cases g3
    have hx : exitTo id (.inScope c :: k) = exitTo id k := by simp [exitTo]
    exact ⟨.exit id, a1, w1, hs, fun k' hk => .head h0 stepR_scope (harr.1 k' (by rw [hx]; exact hk)), fun hr' hk => let ⟨k1, h1, h2⟩ := harr.2 hr' (by rw [hx]; exact hk); ⟨k1, h1, .head h0 stepR_scope h2⟩⟩
  | goto l => exact q1.elim
  | ret => cases g3; exact ⟨_, a1, w1, hs, .of_steps (.one h0 stepR_scope) harr⟩
  | panic u =>
    obtain ⟨v, rfl, hv⟩ := g3
    exact ⟨_, a1, w1, hs, .of_steps (.one h0 stepR_scope) harr⟩
theorem Scope.n {Q : Ex → Env → Mem → Prop} {E : Env} {M : Mem} (h : Q .normal E M) : (match Ex.normal with | .goto _ => False | _ => True) ∧ Q .normal E M := ⟨trivial, h⟩
theorem Scope.r {Q : Ex → Env → Mem → Prop} {E : Env} {M : Mem} (h : Q .ret E M) : (match Ex.ret with | .goto _ => False | _ => True) ∧ Q .ret E M := ⟨trivial, h⟩
theorem Scope.x {Q : Ex → Env → Mem → Prop} {E : Env} {M : Mem} {id : Nat} (h : Q (.exit id) E M) : (match Ex.exit id with | .goto _ => False | _ => True) ∧ Q (.exit id) E M := ⟨trivial, h⟩
section
variable {cx : Cx} {e : Nv} {M : Mem} {w : World} {E : Env} {nt : Nat}
/-- A mark that stands for nothing. -/
theorem Hold.bindBag (h : Hold cx e M w) : Hold cx (e.bump 0 0 0 true) (M.push .bag) w := by
  have h1 := h.bindVir (t := 0) (R := Rd.unit)
  have hat : ∀ i, ((M.push .bag).at_ i) = if i = M.n then .bag else (M.push (.row 0 Rd.unit [])).at_ i := by
    intro i; rw [Mem.push_at, Mem.push_at]; split <;> rfl
  have hatn : (M.push (.row 0 Rd.unit [])).at_ M.n = .row 0 Rd.unit [] := by rw [Mem.push_at, if_pos rfl]
  have hvn : (e.bump 0 0 0 true).vir M.n = true := by simp [Nv.bump, h.n]
  have hbn : (e.bump 0 0 0 true).bag M.n = [] := by simp [Nv.bump, h.n]
  have lv : ∀ i, ((M.push .bag).at_ i).live (e.bump 0 0 0 true) i → ((M.push (.row 0 Rd.unit [])).at_ i).live (e.bump 0 0 0 true) i := by
    intro i hl
    rw [hat] at hl
    split at hl
    · exact hl.elim
    · exact hl
  have mk : ∀ i, ((M.push .bag).at_ i).mark = true → i = M.n ∨ ((M.push (.row 0 Rd.unit [])).at_ i).mark = true := by
    intro i hm
    rw [hat] at hm
    split at hm
    · exact .inl (by assumption)
    · exact .inr hm
  refine ⟨h1.bm, h1.n, h1.size, h1.os, h1.tape, h1.output, h1.frame, h1.ro, h1.bro, h1.m0, h1.mnew, ?_, fun i hi hl => h1.live i hi (lv i hl), fun i j hi hj hli hlj => h1.dist i j hi hj (lv i hli) (lv j hlj), h1.np, h1.pin, ⟨?_, ?_, ?_, ?_⟩, ?_⟩
  · intro i hi
    rw [hat]
    split
    · rename_i hin; subst hin; exact hvn
    · exact h1.ch i hi
  · intro i hi hm
    rcases mk i hm with rfl | hm
    · rw [hbn]; exact List.nodup_nil
    · exact h1.bag.nodup i hi hm
  · intro i hi hm x hx
    rcases mk i hm with rfl | hm
    · rw [hbn] at hx; cases hx
    · exact h1.bag.at_ i hi hm x hx
  · intro i hi hm x hx j hj hlj
    rcases mk i hm with rfl | hm
    · rw [hbn] at hx; cases hx
    · exact h1.bag.own i hi hm x hx j hj (lv j hlj)
  · intro i j hi hj hmi hmj hij x hx
    rcases mk i hmi with rfl | hmi
    · rw [hbn] at hx; cases hx
    · rcases mk j hmj with rfl | hmj
      · rw [hbn]; simp
      · exact h1.bag.dist i j hi hj hmi hmj hij x hx
  · refine h1.pool.keep rfl rfl (Ro.le.refl _) (fun x hx => ⟨rfl, (h1.pool.isFree hx).1, (h1.pool.isFree hx).2.1⟩) (fun x hx j hj hlj => h1.pool.notOwn hx hj (lv j hlj)) (fun x hx j hj hm => ?_)
    rcases mk j hm with rfl | hm
    · rw [hbn]; simp
    · exact h1.pool.notBag hx hj hm
theorem Cv.nullMark {N : Nat} (hN : M.n = N) (hd : E.d = []) : Cv cx nt E M ⟨E.v, [N], E.o, E.b⟩ (M.push .bag) := by
  intro a w e hh he
  have h1 : Emb nt (e.bump 0 0 0 true) (M.push .bag) E a := he.mono (e.bump_le 0 0 0 true) (fun b => e.bump_mem 0 0 0 true b)
  refine ⟨_, hh.bindBag, h1.sz, h1.v, ?_, h1.o⟩
  have hd1 := h1.d
  rw [hd] at hd1
  obtain ⟨r, hr, hm⟩ := hd1
  have hr0 : r = [] := hm
  subst hr0
  refine ⟨[], hr, [], ?_, by simp [Nv.bump, hh.n, hN], rfl⟩
  have : markBlocks (e.bump 0 0 0 true) N = [] := by simp [markBlocks, Nv.bump, hh.n, hN]
  rw [this]
  rfl
end
/-- One name more, for a bag of marks. -/
def Nv.bumpBag (e : Nv) (bs : List Nat) : Nv := { e.bump 0 0 0 true with bag := fun k => if k = e.n then bs else e.bag k }
theorem Nv.bumpBag_le (e : Nv) (bs : List Nat) : e.le (e.bumpBag bs) :=
  ⟨Ro.le.refl _, Ro.le.refl _, Nat.le_succ _, (e.bump_le 0 0 0 true).own, (e.bump_le 0 0 0 true).caps, (e.bump_le 0 0 0 true).lens, (e.bump_le 0 0 0 true).vir, fun i hi => by simp [Nv.bumpBag, Nat.ne_of_lt hi]⟩
theorem Nv.bumpBag_mem (e : Nv) (bs : List Nat) (x : Bool) : Ro.le (e.mem x) ((e.bumpBag bs).mem x) := Ro.le.refl _
section
variable {cx : Cx} {e : Nv} {M : Mem} {w : World} {E : Env} {nt : Nat}
theorem Hold.bindBagL (h : Hold cx e M w) {bs : List Nat} (hn : bs.Nodup) (hb : ∀ b ∈ bs, w.heap[b]? = some (.deferred (some [])) ∧ Trash cx e M b) : Hold cx (e.bumpBag bs) (M.push .bag) w := by
  have hle := e.bumpBag_le bs
  have hat : ∀ i, i < e.n → (M.push .bag).at_ i = M.at_ i := fun i hi => by rw [Mem.push_at, if_neg (by rw [← h.n]; omega)]
  have hatn : (M.push .bag).at_ e.n = .bag := by rw [Mem.push_at, if_pos h.n]
  have split : ∀ i, i < (e.bumpBag bs).n → i = e.n ∨ i < e.n := fun i hi => by simp only [Nv.bumpBag, Nv.bump] at hi; omega
  have bn : (e.bumpBag bs).bag e.n = bs := by simp [Nv.bumpBag]
  have bo : ∀ i, i < e.n → (e.bumpBag bs).bag i = e.bag i := hle.bag
  have hdead : ¬ ((M.push .bag).at_ e.n).live (e.bumpBag bs) e.n := by rw [hatn]; exact fun h => h
  refine ⟨h.bm, by simp [Nv.bumpBag, Nv.bump, Mem.push, h.n], h.size, h.os, h.tape, h.output, h.frame, h.ro, h.bro, h.m0, h.mnew, ?_, ?_, ?_, Nat.le_succ_of_le h.np, ?_, ?_, ?_⟩
  · intro i hi
    rcases split i hi with rfl | hi'
    · rw [hatn]; simp [Chunk.ok, Nv.bumpBag, Nv.bump]
    · rw [hat i hi']
      exact Chunk.ok_mono hle (fun x => e.bumpBag_mem bs x) hi' (h.ch i hi')
  · intro i hi hl
    rcases split i hi with rfl | hi'
    · exact absurd hl hdead
    · rw [hat i hi'] at hl
      have := h.live i hi' ((live_congr (hle.vir i hi')).1 hl)
      rw [hle.own i hi']
      exact this
  · intro i j hi hj hli hlj hij
    rcases split i hi with rfl | hi'
    · exact absurd hli hdead
    rcases split j hj with rfl | hj'
    · exact absurd hlj hdead
    rw [hat i hi'] at hli
    rw [hat j hj'] at hlj
    rw [hle.own i hi', hle.own j hj'] at hij
    exact h.dist i j hi' hj' ((live_congr (hle.vir i hi')).1 hli) ((live_congr (hle.vir j hj')).1 hlj) hij
  · intro i hi
    have hi' : i < e.n := by have := h.np; omega
    rw [hle.own i hi', hle.caps i hi', hle.lens i hi', hle.vir i hi']
    exact h.pin i hi
  · refine ⟨fun i hi hmk => ?_, fun i hi hmk x hx => ?_, fun i hi hmk x hx j hj hlj => ?_, fun i j hi hj hmi hmj hij x hx => ?_⟩
    · rcases split i hi with rfl | hi'
      · rw [bn]; exact hn
      · rw [hat i hi'] at hmk; rw [bo i hi']; exact h.bag.nodup i hi' hmk
    · rcases split i hi with rfl | hi'
      · rw [bn] at hx
        obtain ⟨h1, h2⟩ := hb x hx
        exact ⟨h1, h2.m, h2.bm, h2.F⟩
      · rw [hat i hi'] at hmk; rw [bo i hi'] at hx
        exact h.bag.at_ i hi' hmk x hx
    · rcases split j hj with rfl | hj'
      · exact absurd hlj hdead
      · rw [hat j hj'] at hlj
        rw [hle.own j hj']
        have hlj' := (live_congr (hle.vir j hj')).1 hlj
        rcases split i hi with rfl | hi'
        · rw [bn] at hx; exact (hb x hx).2.own j hj' hlj'
        · rw [hat i hi'] at hmk; rw [bo i hi'] at hx
          exact h.bag.own i hi' hmk x hx j hj' hlj'
    · rcases split i hi with rfl | hi'
      · rw [bn] at hx
        rcases split j hj with rfl | hj'
        · exact absurd rfl hij
        · rw [hat j hj'] at hmj; rw [bo j hj']
          exact (hb x hx).2.bag j hj' hmj
      · rw [hat i hi'] at hmi; rw [bo i hi'] at hx
        rcases split j hj with rfl | hj'
        · rw [bn]
          exact fun hxb => (hb x hxb).2.bag i hi' hmi hx
        · rw [hat j hj'] at hmj; rw [bo j hj']
          exact h.bag.dist i j hi' hj' hmi hmj hij x hx
  · refine h.pool.keep rfl rfl (Ro.le.refl _) (fun x hx => ⟨rfl, (h.pool.isFree hx).1, (h.pool.isFree hx).2.1⟩) (fun x hx j hj hlj => ?_) (fun x hx j hj hm => ?_)
    · rcases split j hj with rfl | hj'
      · exact absurd hlj hdead
      · rw [hat j hj'] at hlj
        rw [hle.own j hj']
        exact h.pool.notOwn hx hj' ((live_congr (hle.vir j hj')).1 hlj)
    · rcases split j hj with rfl | hj'
      · rw [bn]
        exact fun hxb => (hb x hxb).2.pool hx
      · rw [hat j hj'] at hm
        rw [bo j hj']
        exact h.pool.notBag hx hj' hm
/-- A finished mark and a bag, as one bag. -/
theorem Cv.absorb {N i j : Nat} {l : List Nat} (hN : M.n = N) (hd : E.d = j :: i :: l) (hj : M.at_ j = .obj (.deferred (some []))) (hi : M.at_ i = .bag) : Cv cx nt E M ⟨E.v, N :: l, E.o, E.b⟩ (((M.set j .gone).set i .gone).push .bag) := by
  intro a w e hh he
  have hdm := he.d
  rw [hd] at hdm
  obtain ⟨r0, hr0, r1, hr1, hjn, i1, hi1, hin, hr2⟩ := hdm
  have hij : j ≠ i := by rintro rfl; rw [hj] at hi; cases hi
  have hjm : (M.at_ j).mark = true := by rw [hj]; rfl
  have him : (M.at_ i).mark = true := by rw [hi]; rfl
  have hjl : (M.at_ j).live e j := by rw [hj]; trivial
  have hcj := hh.ch j hjn
  rw [hj] at hcj
  obtain ⟨hvj, hbj⟩ := hcj
  have hci := hh.ch i hin
  rw [hi] at hci
  have hvi : e.vir i = true := hci
  have hlj := hh.live j hjn hjl
  let bs := e.own j :: (e.bag j ++ e.bag i)
  have hh2 : Hold cx e ((M.set j .gone).set i .gone) w := (hh.drop j).drop i
  have at2 : ∀ k, ((M.set j .gone).set i .gone).at_ k = if k = i then .gone else if k = j then .gone else M.at_ k := by
    intro k; rw [Mem.set_at]; split
    · rfl
    · rw [Mem.set_at]
  have lv : ∀ k, (((M.set j .gone).set i .gone).at_ k).live e k → k ≠ j ∧ (M.at_ k).live e k := by
    intro k hk
    rw [at2] at hk
    split at hk
    · exact hk.elim
    · split at hk
      · exact hk.elim
      · exact ⟨by assumption, hk⟩
  have mk : ∀ k, (((M.set j .gone).set i .gone).at_ k).mark = true → k ≠ j ∧ k ≠ i ∧ (M.at_ k).mark = true := by
    intro k hk
    rw [at2] at hk
    split at hk
    · cases hk
    · split at hk
      · cases hk
      · exact ⟨by assumption, by assumption, hk⟩
  have hnd : bs.Nodup := by
    refine List.nodup_cons.2 ⟨?_, List.nodup_append.2 ⟨hh.bag.nodup j hjn hjm, hh.bag.nodup i hin him, ?_⟩⟩
    · intro hm
      rcases List.mem_append.1 hm with hm | hm
      · exact hh.bag.own j hjn hjm _ hm j hjn hjl rfl
      · exact hh.bag.own i hin him _ hm j hjn hjl rfl
    · intro x hx y hy hxy
      subst hxy
      exact hh.bag.dist j i hjn hin hjm him hij x hx hy
  have htr : ∀ b ∈ bs, w.heap[b]? = some (.deferred (some [])) ∧ Trash cx e ((M.set j .gone).set i .gone) b := by
    intro b hb
    rcases List.mem_cons.1 hb with rfl | hb
    · refine ⟨hbj, hlj.2.1, hlj.2.2.1, hlj.2.2.2, fun k hk hl => ?_, fun k hk hm hx => ?_, fun hp => hh.pool.notOwn hp hjn hjl rfl⟩
      · obtain ⟨h1, h2⟩ := lv k hl
        exact fun he => h1 (hh.dist k j hk hjn h2 hjl he)
      · exact hh.bag.own k hk (mk k hm).2.2 _ hx j hjn hjl rfl
    · have key : ∀ q, q < e.n → (M.at_ q).mark = true → (q = j ∨ q = i) → b ∈ e.bag q → w.heap[b]? = some (.deferred (some [])) ∧ Trash cx e ((M.set j .gone).set i .gone) b := by
        intro q hq hqm hqji hbq
        obtain ⟨g1, g2, g3, g4⟩ := hh.bag.at_ q hq hqm b hbq
        refine ⟨g1, g2, g3, g4, fun k hk hl => hh.bag.own q hq hqm b hbq k hk (lv k hl).2, fun k hk hm => ?_, fun hp => hh.pool.notBag hp hq hqm hbq⟩
        obtain ⟨m1, m2, m3⟩ := mk k hm
        refine hh.bag.dist q k hq hk hqm m3 ?_ b hbq
        rcases hqji with rfl | rfl
        · exact fun h => m1 h.symm
        · exact fun h => m2 h.symm
      rcases List.mem_append.1 hb with hb | hb
      · exact key j hjn hjm (.inl rfl) hb
      · exact key i hin him (.inr rfl) hb
  have hle := e.bumpBag_le bs
  have h1 : Emb nt (e.bumpBag bs) (((M.set j .gone).set i .gone).push .bag) E a := he.mono hle (fun b => e.bumpBag_mem bs b)
  have hNe : N = e.n := by rw [← hN, hh.n]
  refine ⟨_, hh2.bindBagL hnd htr, h1.sz, h1.v, ?_, h1.o⟩
  refine ⟨r0, hr0, i1, ?_, by rw [hNe]; simp [Nv.bumpBag, Nv.bump], hr2.mono hle⟩
  have e1 : markBlocks (e.bumpBag bs) N = bs := by
    subst hNe; simp [markBlocks, Nv.bumpBag, Nv.bump]
  have e2 : markBlocks e j = e.own j :: e.bag j := by simp [markBlocks, hvj]
  have e3 : markBlocks e i = e.bag i := by simp [markBlocks, hvi]
  rw [hr1, hi1, e1, e2, e3]
  simp [bs]
end
end Go.Q
namespace Go.Q
open Go
set_option linter.unusedVariables false
set_option linter.unusedSimpArgs false
def strOf (l : List Int) : ByteArray := l.foldl (fun r n => r.push (UInt8.ofNat n.toNat)) ByteArray.empty
theorem rows_u8 {m : Ro} : ∀ {l : List Int} {cs : List Value}, rows (Rd.int .u8) m l cs → cs.take l.length = l.map (Value.int .u8)
  | [], _, _ => by simp
  | d :: l, cs, h => by
    obtain ⟨h1, h2⟩ := h
    have h3 := rows_u8 h2
    simp only [Rd.int, Rd.sc] at h1 h3
    cases cs with
    | nil => simp at h1
    | cons c cs =>
      simp at h1 h3
      simp [h1, h3]
section
variable {P : Program} {E : Env} {M : Mem} {ty : TypeId}
theorem run_firstBytes (w : World) (bk o len : Nat) {c : Array Value} {tt : TypeId} {fr : Nat × Nat} {m : Ro} {l : List Int} (hb : w.heap[bk]? = some (.cells c tt fr)) (hr : rows (Rd.int .u8) m l (c.toList.drop o)) (hl : len = l.length) :
    (loadCells ⟨bk, o, none⟩ len).run P w = .ok (l.map (Value.int .u8)).toArray w := by
  have h1 := rows_u8 hr
  have h2 := rows_len hr
  simp only [Rd.int, Rd.sc, Nat.mul_one] at h2
  have := run_loadCells_list (P := P) w ⟨bk, o, none⟩ (l.map (Value.int .u8)) (by
    intro j v hj
    rw [add_at, cell_of hb]
    rw [← h1] at hj
    have hjl : j < l.length := by
      have := (List.getElem?_eq_some_iff.1 hj).1
      simp at this; omega
    rw [List.getElem?_take_of_lt hjl, List.getElem?_drop] at hj
    simpa using hj)
  rw [List.length_map] at this
  rw [hl]; exact this
/-- A string of the bytes of a slice that is only read. -/
theorem q_bytes_str {src dst e : TypeId} {x : Operand} {b : Bool} {l : List Int} (hs : P.underlying src = some (.slice e)) (he : P.underlying e = some (.int .u8)) (hd : P.underlying dst = some .string) (hx : E.ev x = .ro (Rd.slice (Rd.int .u8)) b l) :
    Quiet P (.convert src dst x) ty E M [] (.lit (.string (strOf l))) :=
  fun cx nt a w e' hh hem => ⟨.string (strOf l), by simp [Val], fun w1 hw => by
    have hv := hem.ev x; rw [hx] at hv; simp only [Val, Rd.slice] at hv
    rcases hv with ⟨rfl, ad, c, h1⟩ | ⟨bk, o, c, tt, fr, cap, h1, hc, h2, h3⟩
    · simp at h1
      have : (Conv.bytesToString (.slice ad 0 c)).run P w1 = .ok (.string ByteArray.empty) w1 := by
        cases ad with
        | none => simp [Conv.bytesToString]
        | some ad => exact run_bytesToString w1 ad 0 c [] (by simp [loadCells, loadCellsFrom])
      simp only [exec1, execOp, h1, Sem.run_bind, run_convert_bytes_string w1 src dst e ad 0 c hs he hd, this, Result.andThen, Sem.run_pure]
      rfl
    · simp at h1
      have := run_bytesToString (P := P) w1 ⟨bk, o, none⟩ l.length cap l (run_firstBytes w1 bk o l.length (hw.mem h2) h3 rfl)
      simp only [exec1, execOp, h1, Sem.run_bind, run_convert_bytes_string w1 src dst e _ _ _ hs he hd, this, Result.andThen, Sem.run_pure]
      rfl⟩
theorem run_mark {w : World} {b : Nat} {c : Array Value} {t : TypeId} {z : Nat × Nat} (hb : w.heap[b]? = some (.cells c t z)) (hz : thaw c z) (P : Program) :
    ∃ w' z', (markStringish ⟨b, 0, none⟩).run P w = .ok () w' ∧ w'.heap[b]? = some (.cells c t z') ∧ thaw c z' ∧ w'.heap.size = w.heap.size ∧ w'.os = w.os ∧ w'.tape = w.tape ∧ w'.output = w.output ∧ ∀ k, k ≠ b → w'.heap[k]? = w.heap[k]? := by
  have hsh : w.shape? b = some (t, c.size) := by unfold World.shape?; rw [hb]
  obtain ⟨lo, hi⟩ := z
  refine ⟨w.freeze ⟨b, c.size, none⟩ 1, if lo == hi then (c.size, c.size + 1) else (min lo c.size, max hi (c.size + 1)), by simp [markStringish, hsh], ?_, ?_, ?_, ?_, ?_, ?_, ?_⟩
  · unfold World.freeze
    rw [if_neg (by decide)]
    simp [Array.getElem?_modify, hb]
  · by_cases h : lo = hi
    · simp [h, thaw]
    · have hz' : c.size ≤ lo := by
        rcases hz with h' | h'
        · exact absurd h' h
        · exact h'
      simp only [beq_iff_eq, if_neg h, thaw]
      right; omega
  all_goals (unfold World.freeze; rw [if_neg (by decide)])
  · simp
  · intro k hk
    simp only [Array.getElem?_modify]
    rw [if_neg (Ne.symm hk)]
/-- '[]byte("..")' of a constant string. -/
theorem d_bytesConst {t e ct : TypeId} {x : Operand} {i : Nat} {l : List Int} (ht : P.underlying t = some (.slice e)) (he : P.underlying e = some (.int .u8)) (hx : E.ev x = .whole i) (hc : M.at_ i = .row ct (Rd.int .u8) l) (hne : l.isEmpty = false) :
    Does P (.convert t t x) ty E M [i] (.whole i) M :=
  fun cx nt a w e' hh hem => by
  have hv := hem.ev x; rw [hx] at hv
  have hv0 := hv
  simp only [Val] at hv
  have hk := hh.ch i hv.1
  rw [hc] at hk
  obtain ⟨g1, g2, g3, g4⟩ := hk
  have hv3 := hv.2.2
  have hvir : e'.vir i = false := by
    cases hvir : e'.vir i with
    | false => rfl
    | true => rw [hvir] at g4; simp only [if_true] at g4; subst g4; cases hne
  rw [hvir] at hv3 g4
  simp only [Bool.false_eq_true, if_false] at hv3 g4
  obtain ⟨c, z, hb, hz, hcs, hrow⟩ := g4
  obtain ⟨w', z', hm, k1, kz, k2, k3, k4, k5, k6⟩ := run_mark hb hz P
  have hlive : (M.at_ i).live e' i := by rw [hc]; exact hvir
  refine ⟨a.eval x, w', e', ?_, ?_, ⟨Nv.le.refl e', fun _ => Ro.le.refl _⟩, hv0, fun b _ hne => k6 b (fun hb => hne i (by simp) hv.1 hlive hb.symm), by rw [k2]; exact Nat.le_refl _⟩
  · rw [hv3]
    simp only [exec1, execOp, hv3, convert, run_underlying ht, run_underlying he, hm, Sem.run_bind, Result.andThen, Sem.run_pure, beq_self_eq_true]
  · have h := hh.change hv.1 hlive (c := .row ct (Rd.int .u8) l) k3 k4 k5 k2 k6 ⟨g1, g2, g3, by rw [hvir]; simp only [Bool.false_eq_true, if_false]; exact ⟨c, z', k1, kz, hcs, hrow⟩⟩
    have hM : M.set i (.row ct (Rd.int .u8) l) = M := by
      unfold Mem.set
      cases M with | mk n f => 
      congr 1
      funext j
      cases hj : Nat.beq j i with
      | true => rw [Nat.eq_of_beq_eq_true hj]; exact hc.symm
      | false => rfl
    rw [hM] at h
    exact h
end
end Go.Q
namespace Go.Q
open Go
set_option linter.unusedVariables false
set_option linter.unusedSimpArgs false
def heapRo (W : World) : Ro := ⟨fun b => W.heap[b]?, fun _ => none⟩
def nvAll (W : World) : Nv := ⟨heapRo W, Ro.nil, fun _ => 0, fun _ => 0, fun _ => 0, fun _ => false, 0, fun _ => []⟩
/-- A law that begins with nothing of its own, but for an empty pool. -/
theorem Spec.law_core {P : Program} {f : FuncId} {args : List AVal} {x : Value} {pl : Option Pool} (hpl : ∀ p, pl = some p → p.l = []) (h : Spec P f 0 args (Mem.nil.asP pl) fun o M => o = .ret (.lit x)) {W : World} {vs : List Value} (hv : Vals (nvAll W) args vs)
    (htb : ∀ g l, tabs g = some l → ∃ c t z, heapRo W g = some (.cells c t z) ∧ c.toList.take l.length = l := by exact tabs_none)
    (hop : ∀ g, opens.contains g = true → ∃ x, Open1 (heapRo W) g x := by exact opens_none) :
    Calls P f vs.toArray W fun e W' => e = .returned x ∧ RowKit.Below W.heap.size W W' := by
  have n0 : ∀ {i : Nat}, ¬ i < (Mem.nil.asP pl).n := fun h => Nat.not_lt_zero _ h
  have n1 : ∀ {i : Nat}, ¬ i < (nvAll W).n := fun h => Nat.not_lt_zero _ h
  have hent : Entry ⟨W, fun _ => False, heapRo W, Ro.nil, 0, nvAll W, htb, hop⟩ 0 (nvAll W) (Mem.nil.asP pl) W :=
    ⟨rfl, rfl, rfl, rfl, fun b => ⟨fun h => h.elim, fun h => by
      rcases h with ⟨i, hi, _⟩ | ⟨_, k, hk⟩
      · exact absurd hi n0
      · cases hk⟩⟩
  have hh : Hold ⟨W, fun _ => False, heapRo W, Ro.nil, 0, nvAll W, htb, hop⟩ (nvAll W) (Mem.nil.asP pl) W :=
    ⟨rfl, rfl, Nat.le_refl _, rfl, rfl, rfl, fun _ _ _ => rfl, fun _ _ h => h, fun _ _ h => (by cases h), Ro.le.refl _, fun _ _ h => .inl h, fun i hi => absurd hi n1, fun i hi => absurd hi n1,
     fun i j hi => absurd hi n1, Nat.le_refl _, fun i hi => absurd hi (Nat.not_lt_zero _),
     ⟨fun i hi => absurd hi n1, fun i hi => absurd hi n1, fun i hi => absurd hi n1, fun i j hi => absurd hi n1⟩,
     ⟨fun _ => rfl, fun p h0 k a hk => (by cases hk), fun p h0 k d hk => (by rw [hpl p h0] at hk; simp at hk), fun p h0 k a hk => (by cases hk), fun p h0 k a hk => (by cases hk), fun p h0 k a hk => (by cases hk), fun p h0 k k' a hk => (by cases hk)⟩⟩
  refine Calls.mono (CallsIn.calls (h _ _ W vs hent hh hv) (fence_room _)) ?_
  rintro e W' ⟨o, M', e', rfl, k1, u, rfl, k2⟩
  simp only [Val] at k2
  subst k2
  exact ⟨rfl, k1.os, k1.tape, k1.output, k1.size, fun k hk => k1.frame k hk (fun h => h)⟩
theorem Spec.law {P : Program} {f : FuncId} {args : List AVal} {x : Value} (h : Spec P f 0 args Mem.nil fun o M => o = .ret (.lit x) ∧ M = Mem.nil) {W : World} {vs : List Value} (hv : Vals (nvAll W) args vs)
    (htb : ∀ g l, tabs g = some l → ∃ c t z, heapRo W g = some (.cells c t z) ∧ c.toList.take l.length = l := by exact tabs_none)
    (hop : ∀ g, opens.contains g = true → ∃ x, Open1 (heapRo W) g x := by exact opens_none) :
    Calls P f vs.toArray W fun e W' => e = .returned x ∧ RowKit.Below W.heap.size W W' :=
  Spec.law_core (pl := none) (fun p h => by cases h) (fun cx e w vs h1 h2 h3 => CallsIn.mono (h cx e w vs h1 h2 h3) fun x w' ⟨o, M, e', k1, k2⟩ => ⟨o, M, e', k1.1, k2⟩) hv htb hop
/-- The same, of a law that begins with an empty pool. -/
theorem Spec.lawP {P : Program} {f : FuncId} {args : List AVal} {x : Value} {t : TypeId} {α : Type} {R : Rd α} {Q : Mem → Prop} (h : Spec P f 0 args (Mem.nil.withP t R []) fun o M => o = .ret (.lit x) ∧ Q M) {W : World} {vs : List Value} (hv : Vals (nvAll W) args vs)
    (htb : ∀ g l, tabs g = some l → ∃ c t z, heapRo W g = some (.cells c t z) ∧ c.toList.take l.length = l := by exact tabs_none)
    (hop : ∀ g, opens.contains g = true → ∃ x, Open1 (heapRo W) g x := by exact opens_none) :
    Calls P f vs.toArray W fun e W' => e = .returned x ∧ RowKit.Below W.heap.size W W' :=
  Spec.law_core (pl := some ⟨t, α, R, []⟩) (fun p h => by cases h; rfl) (fun cx e w vs h1 h2 h3 => CallsIn.mono (h cx e w vs h1 h2 h3) fun x w' ⟨o, M, e', k1, k2⟩ => ⟨o, M, e', k1.1, k2⟩) hv htb hop
theorem add_at' {a : Addr} {b off : Nat} : (a.add 0 = ⟨b, off, none⟩) = (a = ⟨b, off, none⟩) := by
  obtain ⟨b', o', sp⟩ := a
  cases sp <;> simp [Addr.add]
/-- A measure of readings. -/
structure Meas (H : Type) where
  u : DataW H → Nat
  ua : List (DataW H) → Nat
  nil : 1 ≤ u .nil
  lit : ∀ l, 1 ≤ u (.lit l)
  str : ∀ b, b.length + 1 ≤ u (.lit (.string b))
  ptr : ∀ d, u d + 1 ≤ u (.ptr d)
  slice : ∀ e s, ua e + 1 ≤ u (.slice e s)
  agg : ∀ l, ua l + 1 ≤ u (.agg l)
  cons : ∀ d r, u d + ua r ≤ ua (d :: r)
/-- A type whose readings are data of a reader: right ones, of a bulk. -/
def Opn (P : Program) (t : TypeId) {α : Type} (R : Rd α) (wf : α → Prop) (ms : α → Nat) : Prop :=
  R.sz = P.cellsOf t ∧ ∀ (H : Type) (enc : TypeId × Value → H) (W : World) (fuel : Nat) (cs : List Value) (x : DataW H × List MemPlace),
    DataW.trod enc P W 0 (fun _ => true) true fuel t cs = some x → ∃ d, R.ok (heapRo W) d cs ∧ wf d ∧ ∀ μ : Meas H, ms d ≤ μ.u x.1
section
variable {P : Program} {t e : TypeId}
theorem Opn.int {k : IntKind} (ht : P.underlying t = some (.int k)) (hc : P.cellsOf t = 1) : Opn P t (Rd.int k) (fun n => (Lit.int k n).wf = true) (fun _ => 1) :=
  ⟨hc.symm, fun H enc W fuel cs x h => by
    obtain ⟨n, rfl, rfl, hw⟩ := DataW.trod_int ht h
    exact ⟨n, rfl, hw, fun μ => μ.lit _⟩⟩
theorem Opn.bool (ht : P.underlying t = some .bool) (hc : P.cellsOf t = 1) : Opn P t Rd.bool (fun _ => True) (fun _ => 1) :=
  ⟨hc.symm, fun H enc W fuel cs x h => by
    obtain ⟨n, rfl, rfl⟩ := DataW.trod_bool ht h
    exact ⟨n, rfl, trivial, fun μ => μ.lit _⟩⟩
theorem Opn.str (ht : P.underlying t = some .string) (hc : P.cellsOf t = 1) : Opn P t Rd.str (fun s => s.size ≤ maxLen) (fun s => s.size + 1) :=
  ⟨hc.symm, fun H enc W fuel cs x h => by
    obtain ⟨s, rfl, rfl, hs⟩ := DataW.trod_string ht h
    refine ⟨s, rfl, hs, fun μ => ?_⟩
    have := μ.str s.data.toList
    rw [Array.length_toList] at this
    exact this⟩
def msum {α : Type} (ms : α → Nat) : List α → Nat
  | [] => 0
  | x :: l => ms x + msum ms l
theorem rows_mk {H : Type} {α : Type} {R : Rd α} {m : Ro} {wf : α → Prop} {ms : α → Nat} : ∀ (xs : List (DataW H × List MemPlace)) (cs : List Value), (∀ i x, xs[i]? = some x → ∃ d, R.ok m d ((cs.drop (i * R.sz)).take R.sz) ∧ wf d ∧ ∀ μ : Meas H, ms d ≤ μ.u x.1) →
    ∃ l : List α, l.length = xs.length ∧ rows R m l cs ∧ (∀ x ∈ l, wf x) ∧ ∀ μ : Meas H, msum ms l ≤ μ.ua (xs.map (·.1))
  | [], _, _ => ⟨[], rfl, trivial, by simp, fun μ => Nat.zero_le _⟩
  | x :: xs, cs, h => by
    obtain ⟨d, h1, h2, h0⟩ := h 0 x rfl
    obtain ⟨l, h3, h4, h5, h6⟩ := rows_mk xs (cs.drop R.sz) (fun i y hi => by
      obtain ⟨d, h1, h2, h0⟩ := h (i + 1) y (by simpa using hi)
      refine ⟨d, ?_, h2, h0⟩
      rw [List.drop_drop]
      rw [Nat.add_mul, Nat.one_mul, Nat.add_comm] at h1
      exact h1)
    refine ⟨d :: l, by simp [h3], ⟨by simpa using h1, h4⟩, ?_, fun μ => ?_⟩
    · intro x hx
      rcases List.mem_cons.1 hx with rfl | hx
      · exact h2
      · exact h5 x hx
    · exact Nat.le_trans (Nat.add_le_add (h0 μ) (h6 μ)) (μ.cons _ _)
theorem cells?_block {W : World} {a : Addr} {n : Nat} {cs : List Value} (h : W.cells? 0 a n = some cs) (hn : 0 < n) : ∃ b off c tt fr, a = ⟨b, off, none⟩ ∧ W.heap[b]? = some (.cells c tt fr) ∧ cs = (c.toList.drop off).take n := by
  obtain ⟨_, hlen, hget⟩ := World.cells?_some h
  obtain ⟨b, off, spot⟩ := a
  have h0 := hget 0 hn
  rw [List.getElem?_eq_getElem (by omega)] at h0
  have hspot : spot = none := by simpa [Addr.add] using World.cell?_spot h0
  subst hspot
  rw [add_at] at h0
  cases hb : W.heap[b]? with
  | none => simp [World.cell?, hb] at h0
  | some o =>
    cases o with
    | cells c tt fr =>
      refine ⟨b, off, c, tt, fr, rfl, hb, ?_⟩
      apply List.ext_getElem?
      intro i
      by_cases hi : i < n
      · rw [← hget i hi, add_at, cell_of hb, List.getElem?_take_of_lt hi, List.getElem?_drop]; simp
      · rw [List.getElem?_eq_none (by omega), List.getElem?_eq_none (by simp; omega)]
    | _ => simp [World.cell?, hb] at h0
theorem Opn.slice {α : Type} {R : Rd α} {wf : α → Prop} {ms : α → Nat} (ht : P.underlying t = some (.slice e)) (hc : P.cellsOf t = 1) (he : Opn P e R wf ms) (hpos : Nat.blt 0 R.sz = true) : Opn P t (Rd.slice R) (fun l => l.length ≤ maxLen ∧ ∀ x ∈ l, wf x) (fun l => msum ms l + 1) :=
  ⟨hc.symm, fun H enc W fuel cs x h => by
    have hpos' : 0 < R.sz := by simpa using hpos
    rcases DataW.trod_slice ht h with ⟨rfl, rfl⟩ | ⟨a, len, cap, elems, rest, n, _, rfl, rfl, _, hl, hm, hlen, hel, _⟩
    · exact ⟨[], .inl ⟨rfl, none, 0, rfl⟩, ⟨Nat.zero_le _, by simp⟩, fun μ => μ.nil⟩
    · have each : ∀ i x, elems[i]? = some x → ∃ cs', W.cells? 0 (a.add (i * R.sz)) R.sz = some cs' ∧ ∃ d, R.ok (heapRo W) d cs' ∧ wf d ∧ ∀ μ : Meas H, ms d ≤ μ.u x.1 := by
        intro i x hi
        have hil : i < len := by rw [← hlen]; exact (List.getElem?_eq_some_iff.1 hi).1
        have h1 := hel i hil
        rw [← he.1, hi, Option.bind_eq_some_iff] at h1
        obtain ⟨cs', h2, h3⟩ := h1
        exact ⟨cs', h2, he.2 H enc W n cs' _ h3⟩
      rcases Nat.eq_zero_or_pos len with h0 | h0
      · subst h0
        refine ⟨[], .inl ⟨rfl, some a, cap, rfl⟩, ⟨Nat.zero_le _, by simp⟩, fun μ => ?_⟩
        have := μ.slice (elems.map (·.1)) (rest.map (·.1))
        simp only [msum]; omega
      · obtain ⟨cs0, h2, _⟩ := each 0 elems[0] (List.getElem?_eq_getElem (by omega))
        rw [Nat.zero_mul] at h2
        obtain ⟨b, off, c, tt, fr, ha, hb, _⟩ := cells?_block h2 hpos'
        rw [add_at'] at ha
        subst ha
        obtain ⟨l, k1, k2, k3, k4⟩ := rows_mk (R := R) (m := heapRo W) (wf := wf) (ms := ms) elems (c.toList.drop off) (fun i x hi => by
          obtain ⟨cs', h2, d, h3, h4⟩ := each i x hi
          rw [add_at] at h2
          obtain ⟨b', off', c', tt', fr', ha', hb', hcs⟩ := cells?_block h2 hpos'
          simp only [Addr.mk.injEq, and_true] at ha'
          obtain ⟨rfl, rfl⟩ := ha'
          rw [hb] at hb'
          cases hb'
          refine ⟨d, ?_, h4⟩
          rw [List.drop_drop, ← hcs]
          exact h3)
        exact ⟨l, .inr ⟨b, off, c, tt, fr, cap, by rw [k1, hlen], by omega, hb, k2⟩, ⟨by omega, k3⟩, fun μ => Nat.le_trans (Nat.succ_le_succ (k4 μ)) (μ.slice _ _)⟩⟩
/-- The fields of a struct, from a place on. -/
def OpnP (P : Program) (l : List (Nat × TypeId)) (o : Nat) {α : Type} (R : Rd α) (wf : α → Prop) (ms : α → Nat) : Prop :=
  ∀ (H : Type) (enc : TypeId × Value → H) (W : World) (fuel : Nat) (cs : List Value) (xs : List (DataW H × List MemPlace)), xs.length = l.length → (∀ (i : Nat) (p : Nat × TypeId), l[i]? = some p → DataW.trod enc P W 0 (fun _ => true) true fuel p.2 ((cs.drop p.1).take (P.cellsOf p.2)) = xs[i]?) → cs.length = o + R.sz →
    ∃ d, R.ok (heapRo W) d (cs.drop o) ∧ wf d ∧ ∀ μ : Meas H, ms d ≤ μ.ua (xs.map (·.1))
theorem OpnP.nil {o : Nat} : OpnP P [] o Rd.unit (fun _ => True) (fun _ => 0) := fun H enc W fuel cs xs _ _ hl => ⟨(), by
  show cs.drop o = []
  exact List.drop_of_length_le (by simp [Rd.unit] at hl; omega), trivial, fun μ => Nat.zero_le _⟩
theorem OpnP.cons {o o' : Nat} {l : List (Nat × TypeId)} {α β : Type} {R : Rd α} {S : Rd β} {wf : α → Prop} {wf' : β → Prop} {ms : α → Nat} {ms' : β → Nat} (h : Opn P t R wf ms) (ho : o + R.sz = o') (k : OpnP P l o' S wf' ms') :
    OpnP P ((o, t) :: l) o (Rd.pair R S) (fun d => wf d.1 ∧ wf' d.2) (fun d => ms d.1 + ms' d.2) := fun H enc W fuel cs xs hx ha hl => by
  subst ho
  cases xs with
  | nil => simp at hx
  | cons x xs =>
    have hx1 := ha 0 (o, t) rfl
    obtain ⟨d, h1, h2, h5⟩ := h.2 H enc W fuel _ x hx1
    obtain ⟨d', h3, h4, h6⟩ := k H enc W fuel cs xs (by simpa using hx) (fun i p hp => ha (i + 1) p (by simpa using hp)) (by simp only [Rd.pair] at hl; omega)
    refine ⟨(d, d'), ⟨(cs.drop o).take R.sz, cs.drop (o + R.sz), ?_, by rw [h.1]; exact h1, h3⟩, ⟨h2, h4⟩, fun μ => Nat.le_trans (Nat.add_le_add (h5 μ) (h6 μ)) (μ.cons _ _)⟩
    rw [← List.drop_drop]
    exact (List.take_append_drop _ _).symm
theorem Opn.struct {α β : Type} {R : Rd α} {wf : α → Prop} {ms : α → Nat} {fs : Array Field} {l : List (Nat × TypeId)} {g : β → α} (mk : α → β) (hg : ∀ d, g (mk d) = d) (ht : P.underlying t = some (.struct fs)) (hl : fs.toList.map (fun f => (f.offset, f.type)) = l) (hc : R.sz = P.cellsOf t)
    (h : OpnP P l 0 R wf ms) : Opn P t (Rd.via R g) (fun s => wf (g s)) (fun s => ms (g s) + 1) :=
  ⟨hc, fun H enc W fuel cs x hx => by
    obtain ⟨xs, n, _, rfl, hlen, hxl, hf⟩ := DataW.trod_struct ht hx
    obtain ⟨d, h1, h2, h3⟩ := h H enc W n cs xs (by rw [hxl, ← hl]; simp) (fun i p hp => by
      rw [← hl, List.getElem?_map] at hp
      obtain ⟨f, hf', rfl⟩ := Option.map_eq_some_iff.1 hp
      exact hf i f (by simpa using hf')) (by rw [hlen, hc]; omega)
    refine ⟨mk d, ?_, by show wf (g (mk d)); rw [hg]; exact h2, fun μ => ?_⟩
    · show R.ok _ (g (mk d)) cs
      rw [hg]
      simpa using h1
    · show ms (g (mk d)) + 1 ≤ _
      rw [hg]
      exact Nat.le_trans (Nat.succ_le_succ (h3 μ)) (μ.agg _)⟩
end
/-- More rounds tell the same. -/
structure Le {α : Type} (x y : Option α) : Prop where
  h : ∀ r, x = some r → y = some r
theorem Le.rfl {α : Type} {x : Option α} : Le x x := ⟨fun _ h => h⟩
theorem Le.none {α : Type} {x y : Option α} (h : x = Option.none) : Le x y := ⟨fun r hr => by rw [h] at hr; cases hr⟩
theorem Le.bind {α β : Type} {x y : Option α} {f g : α → Option β} (h : Le x y) (k : ∀ a, Le (f a) (g a)) : Le (x.bind f) (y.bind g) := ⟨fun r hr => by
  obtain ⟨a, h1, h2⟩ := Option.bind_eq_some_iff.1 hr
  exact Option.bind_eq_some_iff.2 ⟨a, h.h a h1, (k a).h r h2⟩⟩
theorem Le.cond {α : Type} {b : Bool} {x x' y y' : Option α} (h : Le x x') (k : Le y y') : Le (bif b then x else y) (bif b then x' else y') := by
  cases b <;> assumption
end Go.Q
namespace Go.Q
open Go
set_option linter.unusedVariables false
set_option linter.unusedSimpArgs false
theorem wi {n : Int} (h1 : -9223372036854775808 ≤ n) (h2 : n ≤ 9223372036854775807) : IntKind.wrap .i64 n = n := by
  rw [IntKind.wrap_i64]; omega
theorem i64_wf {n : Int} (h : (Lit.int .i64 n).wf = true) : -9223372036854775808 ≤ n ∧ n ≤ 9223372036854775807 := by
  simp only [Lit.wf, IntKind.min, IntKind.max, IntKind.signed, IntKind.bits, if_true, Bool.and_eq_true, decide_eq_true_eq] at h
  simpa using h
theorem dt {p : Prop} [Decidable p] (h : p) : decide p = true := decide_eq_true h
theorem df {p : Prop} [Decidable p] (h : ¬ p) : decide p = false := decide_eq_false h
end Go.Q
namespace Go.Q
open Go
set_option linter.unusedVariables false
set_option linter.unusedSimpArgs false
section
variable {P : Program} {ty : TypeId} {E : Env} {M : Mem} {α β : Type} {R : Rd α} {S : Rd β} {l : List α} {d : α} {d' : β} {i j n off : Nat} {t ct : TypeId} {x : Operand}
/-- A cell of an element of a row of our own. -/
theorem row_cell {cx : Cx} {e : Nv} {w w1 : World} (hh : Hold cx e M w) (hi : i < e.n) (hvir : e.vir i = false) (hc : M.at_ i = .row ct R l) (hd : l[j]? = some d) (hn : R.sz = n) (hp : PartIs R d off S d') (hz : S.sz = 1) (hw : Agree e [i] w w1) :
    ∃ u, w1.cell? ⟨e.own i, j * n + off, none⟩ = some u ∧ S.ok e.m d' [u] := by
  have hk := hh.ch i hi
  rw [hc] at hk
  obtain ⟨_, _, _, hr⟩ := hk
  rw [hvir] at hr
  simp only [Bool.false_eq_true, if_false] at hr
  obtain ⟨c, z, hb, _, hs, hrow⟩ := hr
  have hb1 := (hw.own i (by simp) hi hvir).trans hb
  have hg := hp _ _ (rows_get hrow hd)
  have hl := S.len hg
  rw [hz] at hl hg
  obtain ⟨u, hu⟩ := List.length_eq_one_iff.1 hl
  refine ⟨u, ?_, by rw [← hu]; exact hg⟩
  rw [cell_of hb1]
  have h0 := congrArg (·[0]?) hu
  simp only [List.getElem?_cons_zero] at h0
  rw [List.getElem?_take_of_lt (by decide), List.getElem?_drop, Nat.add_zero] at h0
  rw [List.getElem?_take] at h0
  split at h0
  · rw [List.getElem?_drop, hn] at h0
    simpa [Nat.add_comm] using h0
  · cases h0
theorem q_load_rowr (ht : Sc P t) (hx : E.ev x = .ptr i (j * n + off)) (hc : M.at_ i = .row ct R l) (hd : l[j]? = some d) (hn : R.sz = n) (hp : PartIs R d off S d') (hz : S.sz = 1) :
    Quiet P (.load t x) ty E M [i] (.ro S false d') :=
  fun _ _ a w e hh he => by
    have hv := he.ev x; rw [hx] at hv; simp only [Val] at hv
    obtain ⟨u, h1, h2⟩ := row_cell hh hv.1 hv.2.1 hc hd hn hp hz (Agree.of_hold hh [i])
    refine ⟨u, by simp only [Val, Nv.mem_false]; exact h2, fun w1 hw => ?_⟩
    have h3 : w1.cell? ⟨e.own i, j * n + off, none⟩ = some u := by
      rw [← h1]
      simp only [World.cell?, hw.own i (by simp) hv.1 hv.2.1]
    simp [exec1, execOp, hv.2.2, run_loadAt_sc ht h3]
end
end Go.Q
namespace Go.Q
open Go
set_option linter.unusedVariables false
set_option linter.unusedSimpArgs false
section
variable {P : Program} {ty : TypeId} {E : Env} {M : Mem}
/-- An array that is only read. -/
def Rd.array {α : Type} (n : Nat) (A : Rd α) (d0 : α) : Rd (List α) where
  sz := n * A.sz
  ok m l cs := cs.length = n * A.sz ∧ ∀ j, j < n → A.ok m (l.getD j d0) ((cs.drop (j * A.sz)).take A.sz)
  mono hm h := ⟨h.1, fun j hj => A.mono hm (h.2 j hj)⟩
  len h := h.1
  one := by
    rintro m d cs ⟨h1, h2⟩ v hv
    obtain ⟨k, hk, rfl⟩ := List.mem_iff_getElem.1 hv
    have hz : 0 < A.sz := by
      rcases Nat.eq_zero_or_pos A.sz with h | h
      · rw [h1, h] at hk; simp at hk
      · exact h
    have hkn : k / A.sz < n := Nat.div_lt_of_lt_mul (by rw [Nat.mul_comm, ← h1]; exact hk)
    refine A.one (h2 (k / A.sz) hkn) _ ?_
    have hkm := Nat.mod_lt k hz
    have e1 : k / A.sz * A.sz + k % A.sz = k := by rw [Nat.mul_comm]; exact Nat.div_add_mod k A.sz
    refine List.mem_iff_getElem?.2 ⟨k % A.sz, ?_⟩
    rw [List.getElem?_take_of_lt hkm, List.getElem?_drop, e1, List.getElem?_eq_getElem hk]
/-- A value put into an interface. -/
structure Conc (P : Program) (t : TypeId) : Prop where
  h : ∃ d, P.underlying t = some d ∧ (match d with | .interface _ => False | _ => True)
theorem q_mki {t : TypeId} {x : Operand} (h : Conc P t) : Quiet P (.makeInterface t x) ty E M [] (.ifc t (E.ev x)) :=
  fun _ _ a w e hh he => by
    obtain ⟨d, h1, h2⟩ := h.h
    refine ⟨.iface t (a.eval x), by simp only [Val]; exact ⟨_, rfl, he.ev x⟩, fun w1 _ => ?_⟩
    cases d <;> first | exact h2.elim | simp [exec1, execOp, Instr.makeInterface, run_underlying h1]
theorem q_cap_nil {t el : TypeId} {x : Operand} (h : P.underlying t = some (.slice el)) (hx : E.ev x = .lit (.slice none 0 0)) : Quiet P (.call { callee := .builtin .cap, args := #[x], argTypes := #[t] }) ty E M [] (.lit (.int .i64 0)) :=
  fun _ _ a w e hh he => ⟨.int .i64 0, by simp [Val], fun w1 _ => by
    simp [exec1, execOp, resolve, invoke, builtin, Builtin.cap_, ev_lit he hx, run_underlying h, goInt]⟩
theorem q_slice_nil {t el : TypeId} {n : Nat} {x y : Operand} {k : IntKind} (h : SlIs P t el n) (hx : E.ev x = .lit (.slice none 0 0)) (hy : E.ev y = .lit (.int k 0)) : Quiet P (.slice t x none (some y) none) ty E M [] (.lit (.slice none 0 0)) :=
  fun _ _ a w e hh he => ⟨.slice none 0 0, by simp [Val], fun w1 _ => by
    have := run_slice_sl h none 0 0 none (some (.int k 0)) 0 0 w1 rfl ⟨k, rfl⟩ (Nat.le_refl _) (Nat.le_refl _)
    simp [exec1, execOp, ev_lit he hx, ev_lit he hy, this]⟩
/-- A row of our own cut behind a place: its room stays. -/
theorem d_cut {α : Type} {R : Rd α} {l : List α} {t el ct : TypeId} {n i N : Nat} {x y : Operand} {k : IntKind} {j : Int} (h : SlIs P t el n) (hx : E.ev x = .whole i) (hc : M.at_ i = .row ct R l) (hy : E.ev y = .lit (.int k j)) (hb : decide (0 ≤ j ∧ j ≤ l.length) = true) (hN : M.n = N) :
    Does P (.slice t x none (some y) none) ty E M [i] (.whole N) ((M.set i .gone).push (.row ct R (l.take j.toNat))) :=
  fun cx nt a w e hh he => by
    obtain ⟨b0, b1⟩ := of_decide_eq_true hb
    have hv := he.ev x; rw [hx] at hv; simp only [Val] at hv
    have hk := hh.ch i hv.1
    rw [hc] at hk
    obtain ⟨g1, g2, g3, g4⟩ := hk
    have hv3 := hv.2.2
    have hll : (l.take j.toNat).length = j.toNat := by simp; omega
    have hdrop := hh.drop i
    cases hvir : e.vir i with
    | true =>
      rw [hvir] at hv3 g4
      simp only [if_true] at hv3 g4
      subst g4
      have hj0 : j = 0 := by simp at b1; omega
      subst hj0
      refine ⟨.slice none 0 0, w, e.bump 0 0 0 true, ?_, hdrop.bindVir, ⟨e.bump_le 0 0 0 true, fun b => e.bump_mem 0 0 0 true b⟩, ?_, fun _ _ _ => rfl, Nat.le_refl _⟩
      · have h0 : e.lens i = 0 := hv3.2
        rw [h0] at hv3
        have hcap : ∃ c, a.eval x = .slice none 0 c := ⟨0, by rw [hv3.1]⟩
        have := run_slice_sl h none 0 0 none (some (.int k 0)) 0 0 w rfl ⟨k, rfl⟩ (Nat.le_refl _) (Nat.le_refl _)
        simp [exec1, execOp, hv3.1, ev_lit he hy, this]
      · simp only [Val, Nv.bump, ← hN, ← hh.n, if_true]
        exact ⟨Nat.lt_succ_self _, Nat.le_refl _, trivial, trivial⟩
    | false =>
      rw [hvir] at hv3 g4
      simp only [Bool.false_eq_true, if_false] at hv3 g4
      obtain ⟨c, z, hbk, hz, hcs, hrow⟩ := g4
      have hlive : (M.at_ i).live e i := by rw [hc]; exact hvir
      have hli := hh.live i hv.1 hlive
      refine ⟨.slice (some ⟨e.own i, 0, none⟩) j.toNat (e.caps i), w, e.bump (e.own i) (e.caps i) j.toNat, ?_, ?_, ⟨e.bump_le _ _ _ false, fun b => e.bump_mem _ _ _ false b⟩, ?_, fun _ _ _ => rfl, Nat.le_refl _⟩
      · have := run_slice_sl h (some ⟨e.own i, 0, none⟩) (e.lens i) (e.caps i) none (some (.int k j)) 0 j.toNat w rfl ⟨k, by rw [Int.toNat_of_nonneg b0]⟩ (Nat.zero_le _) (by omega)
        simp [exec1, execOp, hv3, ev_lit he hy, this, add_at]
      · refine hdrop.bind rfl rfl rfl (Nat.le_refl _) hli.1 (fun _ _ _ => rfl) (fun q hq hl hqi => ?_) ⟨fun q hq hm hbq => ?_, fun hp => hh.pool.notOwn hp hv.1 hlive rfl⟩ hli.2.1 hli.2.2.1 hli.2.2.2 ?_
        · rw [Mem.set_at] at hl
          split at hl
          · exact hl.elim
          · rename_i hqi'; exact hqi' (hh.dist q i hq hv.1 hl hlive hqi)
        · rw [Mem.set_at] at hm
          split at hm
          · cases hm
          · exact hh.bag.own q hq hm _ hbq i hv.1 hlive rfl
        · refine ⟨by simp only [Nv.bump, if_true]; exact hll.symm, by simp only [Nv.bump, if_true, hll]; omega, by simpa [Nv.bump] using g3, ?_⟩
          simp only [Nv.bump, if_true, Bool.false_eq_true, if_false]
          exact ⟨c, z, hbk, hz, hcs, rows_take _ hrow⟩
      · simp only [Val, Nv.bump, ← hN, ← hh.n, if_true, Bool.false_eq_true, if_false]
        exact ⟨Nat.lt_succ_self _, by omega, trivial⟩
/-- So many made elements behind nil. -/
theorem d_appendMakeNil {α : Type} {R : Rd α} {t ti el : TypeId} {n bytes N : Nat} {kt : IntKind} {zs : List Value} {s x : Operand} {m : Int} {d : α} (h : LitIs P t el n zs) (hb : ∃ i, P.info? el = some i ∧ i.bytes = bytes) (hti : P.underlying ti = some (.int kt)) (hn : R.sz = n) (hn0 : Nat.blt 0 n = true) (hb0 : Nat.blt 0 bytes = true) (hzl : Nat.beq zs.length n = true)
    (hd : Joins R false d (zs.map AVal.lit)) (hs : E.ev s = .lit (.slice none 0 0)) (hx : E.ev x = .lit (.int .i64 m)) (hlim : decide (0 < m ∧ m * bytes ≤ 140737488355328) = true) (hN : M.n = N) :
    Does P (.call { callee := .builtin .append, args := #[s, x], argTypes := #[t, ti] }) ty E M [] (.whole N) (M.push (.row el R (List.replicate m.toNat d))) :=
  fun cx nt a w e hh he => by
    obtain ⟨i, z, h1, h2, h3, h4⟩ := h.h
    obtain ⟨i', hi', hby⟩ := hb
    rw [h1] at hi'; cases hi'
    have hn0' : 0 < n := by simpa using hn0
    have hb0' : 0 < bytes := by simpa using hb0
    have hzl' : zs.length = n := by simpa using hzl
    obtain ⟨l0, l1⟩ := of_decide_eq_true hlim
    have hmb : m ≤ 140737488355328 := by
      have : m * 1 ≤ m * bytes := Int.mul_le_mul_of_nonneg_left (by omega) (by omega)
      omega
    have hok := hd e zs (vals_lits e zs) h.one
    rw [Nv.mem_false] at hok
    have hwrap : IntKind.i64.wrap m = m := by
      unfold IntKind.wrap
      simp [IntKind.signed, IntKind.bits]
      omega
    have hM : ((m.toNat : Nat) : Int) = m := Int.toNat_of_nonneg (by omega)
    have hnc : Builtin.nextslicecap m.toNat 0 = m.toNat := by
      unfold Builtin.nextslicecap; rw [if_pos (by omega)]
    have hcap := grownCap_ge w m.toNat 0 el
    have hcm := grownCap_le_maxLen w m.toNat 0 el (by simp only [maxLen]; omega)
    have hbn : m.toNat * bytes ≤ 140737488355328 := by
      have : ((m.toNat * bytes : Nat) : Int) = m * bytes := by rw [Int.natCast_mul, hM]
      omega
    have hrun : (Builtin.append_ #[t, ti] ty #[.slice none 0 0, .int .i64 m]).run P w = .ok (.slice (some ⟨w.heap.size, 0, none⟩) m.toNat (grownCap w m.toNat 0 el))
        (w.drew.alloc (.cells (Builtin.zeroCells z.cells m.toNat ++ Builtin.zeroCells z.cells (grownCap w m.toNat 0 el - m.toNat)) el)) := by
      have c1 : ¬ m < 0 := by omega
      have c2 : ¬ (281474976710656 : Int) < m * ((bytes : Nat) : Int) := by omega
      have c3 : ¬ m.toNat = 0 := by omega
      have c4 : ¬ (9223372036854775807 : Int) < ((m.toNat : Nat) : Int) := by omega
      have c5 : ¬ 281474976710656 < m.toNat * bytes := by omega
      have c6 : ¬ n = 0 := by omega
      have c9 : ¬ m ≤ 0 := by omega
      have c10 : ¬ (9223372036854775807 : Int) < max m 0 := by omega
      have c11 : ¬ m.toNat * n = 0 := by have := Nat.mul_pos (show 0 < m.toNat by omega) hn0'; omega
      have c7 : ¬ (9223372036854775807 : Int) < m := by omega
      have c8 : ¬ 9223372036854775807 < m.toNat := by omega
      simp [Builtin.append_, run_underlying h.t, run_underlying hti, sizeOf, typeInfo, zeroValue, h1, h2, h3, hby, asInt, asIntOf, hwrap, c9, c10, c11, c1, c2, c3, c4, c5, c6, c7, c8, hnc, Question.forced, Builtin.firstCells, newRow, grownCap]
    generalize hcc : grownCap w m.toNat 0 el = cap at hrun hcap hcm
    have hz0 : ∀ k, (Builtin.zeroCells z.cells k).toList = (List.replicate k zs).flatten := by
      intro k
      rw [Builtin.zeroCells, h4]
      have := made_list zs n hzl' hn0' k
      rw [List.size_toArray, hzl'] at *
      exact this
    have hfl : ∀ k, ((List.replicate k zs).flatten).length = k * n := by
      intro k
      induction k with
      | zero => simp
      | succ k ih => rw [List.replicate_succ, List.flatten_cons, List.length_append, ih, hzl', Nat.add_mul]; omega
    have hcell : Builtin.zeroCells z.cells m.toNat ++ Builtin.zeroCells z.cells (cap - m.toNat) = ((List.replicate cap zs).flatten).toArray := by
      apply Array.ext'
      rw [Array.toList_append, hz0, hz0, ← List.flatten_append, List.replicate_append_replicate, show m.toNat + (cap - m.toNat) = cap by omega]
    have hnew : Hold cx (e.bump w.heap.size cap m.toNat) (M.push (.row el R (List.replicate m.toNat d))) (w.drew.alloc (.cells ((List.replicate cap zs).flatten).toArray el)) := by
      have hsplit : (List.replicate cap zs).flatten = (List.replicate m.toNat zs).flatten ++ (List.replicate (cap - m.toNat) zs).flatten := by
        rw [← List.flatten_append, List.replicate_append_replicate]
        congr 2; omega
      have := hh.drew.newRow (R := R) (el := el) (ds := List.replicate m.toNat d) (cs := (List.replicate cap zs).flatten) (cap := cap) (by simpa using hcap) hcm (by rw [hfl, hn]) (by rw [hsplit]; exact rows_replicate hok _ _)
      simpa using this
    refine ⟨.slice (some ⟨w.heap.size, 0, none⟩) m.toNat cap, w.drew.alloc (.cells ((List.replicate cap zs).flatten).toArray el), e.bump w.heap.size cap m.toNat, ?_, hnew, ⟨e.bump_le _ _ _ false, fun b => e.bump_mem _ _ _ false b⟩, ?_, fun b hb _ => q_alloc_old w.drew _ (h := hb), by simp⟩
    · rw [← hcell]
      simp [exec1, execOp, resolve, invoke, builtin, ev_lit he hs, ev_lit he hx, hrun]
    · simp only [Val, Nv.bump, ← hN, ← hh.n, if_true, Bool.false_eq_true, if_false]
      exact ⟨Nat.lt_succ_self _, hcap, trivial⟩
end
theorem PartIs.self {α : Type} {R : Rd α} {d : α} : PartIs R d 0 R d := fun m cs h => by
  rw [List.drop_zero, List.take_of_length_le (by rw [R.len h]; exact Nat.le_refl _)]; exact h
end Go.Q
namespace Go.Q
open Go
set_option linter.unusedVariables false
set_option linter.unusedSimpArgs false
/-- There is a result, of which something holds. -/
def Ret.{u} {α : Type u} (x : Option α) (p : α → Prop) : Prop := ∃ r, x = some r ∧ p r
section
universe u v
variable {α : Type u} {β : Type v} {x y : Option α} {p q : α → Prop} {r : α}
theorem Ret.pure (h : p r) : Ret (some r) p := ⟨r, rfl, h⟩
theorem Ret.bind {f : α → Option β} {q : β → Prop} (h : Ret x p) (k : ∀ a, p a → Ret (f a) q) : Ret (x.bind f) q := by
  obtain ⟨a, rfl, ha⟩ := h
  exact k a ha
theorem Ret.cond {b : Bool} (h : b = true → Ret x p) (k : b = false → Ret y p) : Ret (bif b then x else y) p := by
  cases b with
  | true => exact h rfl
  | false => exact k rfl
theorem Ret.mono (h : Ret x p) (k : ∀ a, p a → q a) : Ret x q := let ⟨r, h1, h2⟩ := h; ⟨r, h1, k r h2⟩
theorem Ret.some (h : Ret x p) : ∃ r, x = Option.some r := let ⟨r, h1, _⟩ := h; ⟨r, h1⟩
end
theorem bd {α : Type} {c : Prop} [Decidable c] {x y : α} : (bif decide c then x else y) = if c then x else y := by
  by_cases h : c <;> simp [h]
theorem bnd' {α : Type} {c : Prop} [Decidable c] {x y : α} : (bif !decide c then x else y) = if c then y else x := by
  by_cases h : c <;> simp [h]
theorem bt {α : Type} {x y : α} : (bif true then x else y) = x := rfl
theorem bf {α : Type} {x y : α} : (bif false then x else y) = y := rfl
theorem ix_int {α : Type} {l : List α} {i : Int} (h0 : 0 ≤ i) (h : i < l.length) : ix l i = some (l[i.toNat]'(by omega)) := by
  unfold ix
  rw [if_pos h0, List.getElem?_eq_getElem]
theorem tm (a b : Nat) : Int.tmod (a : Int) (b : Int) = ((a % b : Nat) : Int) := rfl
theorem td (a b : Nat) : Int.tdiv (a : Int) (b : Int) = ((a / b : Nat) : Int) := rfl
end Go.Q
namespace Go.Q
open Go
set_option linter.unusedVariables false
set_option linter.unusedSimpArgs false
section
variable {P : Program} {cx : Cx} {fr : Fr} {ops : Array Oper} {os : List Oper} {E : Env} {M M' : Mem} {Q : Ex → Env → Mem → Prop} {op : Op} {ty : TypeId} {pos : String} {after : Array Edge} {dst : Nat} {v : AVal} {tc : List Nat}
variable {st st' X X' : List Nat} {fuel : Nat} {listed : Array Bool} {i : Nat}
/-- The walk, when operation i comes up next. -/
def WPD1 (P : Program) (cx : Cx) (fr : Fr) (ops : Array Oper) (st X : List Nat) (fuel : Nat) (listed : Array Bool) (i : Nat) (E : Env) (M : Mem) (Q : Ex → Env → Mem → Prop) : Prop :=
  ∀ a w e, Hold cx e M w → Emb fr.nt e M E a → wpOpIn (fence P fr.r) 0 P ops (Sat cx fr Q) i
    (fun a' w' => (X.contains i = true ∧ Agree e [] w w' ∧ wpAnyG P fr.r .any ops (Sat cx fr Q) (Agree e [] w) fuel (listed.setIfInBounds i true) a' w') ∨
      (X.contains i = false ∧ Agree e st w w' ∧ wpAnyF P fr.r .any ops (Sat cx fr Q) (Agree e [] w) (Agree e st w) X fuel (listed.setIfInBounds i true) a' w')) a w
theorem WPD1.cvL {E' : Env} {M' : Mem} (k : CvL cx fr.nt E M E' M') (hst : (st.all fun i => Nat.blt i M.n) = true) (h : WPD1 P cx fr ops st X fuel listed i E' M' Q) : WPD1 P cx fr ops st X fuel listed i E M Q := fun a w e hh he => by
  obtain ⟨e', h1, h2, hle⟩ := k a w e hh he
  have key : ∀ (l : List Nat), (l.all fun i => Nat.blt i M.n) = true → ∀ w1, Agree e' l w w1 → Agree e l w w1 := fun l hl w1 hw => ⟨fun b o hb => hw.ro b o (hle.m.f b o hb), fun b o hb => hw.bro b o (hle.bm.f b o hb), fun i hi hin hv => by
    have := hw.own i hi (Nat.lt_of_lt_of_le hin hle.n) ((hle.vir i hin).trans hv)
    rw [hle.own i hin] at this
    exact this, fun hp k a hk => hw.pool hp k a (hle.m.tab k a hk)⟩
  refine wpOpIn_mono (fun a' w' h' => ?_) (h a w e' h1 h2)
  rcases h' with ⟨g1, g2, g3⟩ | ⟨g1, g2, g3⟩
  · exact .inl ⟨g1, key [] rfl _ g2, wpAnyG_mono (key [] rfl) _ _ _ _ g3⟩
  · exact .inr ⟨g1, key st hst _ g2, wpAnyF_mono (key [] rfl) (fun w1 h => (key st hst w1 h).nil_of) (key st hst) (fun _ h => h) _ _ _ _ g3⟩
theorem WPD1.eff_core (i : Nat) (st' X' : List Nat) {o : Oper} {E' : Env} (ho : ops[i]? = some o)
    (hg : ∀ a e, Emb fr.nt e M E a → Region.wanted o (yielded ops a.tmps) = true)
    (hs : keepB M tc st st' X X' i = true)
    (hstep : ∀ a w e, Hold cx e M w → Emb fr.nt e M E a → ∀ (next : Act → World → Prop) (Q : Exit → Act → World → Prop),
      (∀ a' w' e', Hold cx e' M' w' → e.le e' → Emb fr.nt e' M' E' a' → (∀ b, b < w.heap.size → (∀ i ∈ tc, i < e.n → (M.at_ i).live e i → e.own i ≠ b) → ∀ {_ : poolIx ∈ tc → ¬ inPool e M b}, w'.heap[b]? = w.heap[b]?) → next a' w') →
      o.wpIn (fence P fr.r) 0 P a w next Q)
    (k : WPD P cx fr ops st' X' fuel (listed.setIfInBounds i true) E' M' Q) : WPD1 P cx fr ops st X fuel listed i E M Q := by
  intro a w e hh he
  unfold wpOpIn
  simp only [ho]
  rw [if_pos (hg _ _ he)]
  refine hstep a w e hh he _ _ fun a' w' e' hh' hle he' hfr => ?_
  have hk := k a' w' e' hh' he'
  have hag : ∀ {st'' : List Nat} w1, Agree e' st'' w' w1 → Agree e [] w w1 := fun w1 hw => ⟨fun b o hb => hw.ro b o (hle.m.f b o hb), fun b o hb => hw.bro b o (hle.bm.f b o hb), fun _ hi => (by cases hi), fun hi => (by cases hi)⟩
  cases hx : X.contains i with
  | true => exact .inl ⟨rfl, hag _ (Agree.of_hold hh' st'), wpAnyG_of_F (fun w1 h => hag w1 h) (fun w1 h => hag w1 h) _ _ _ _ hk⟩
  | false =>
    unfold keepB at hs
    rw [hx, Bool.false_or, Bool.and_eq_true] at hs
    have hmono := keep_agree hh hle hs.2 (fun b hb hne hq => @hfr b hb hne hq)
    refine .inr ⟨rfl, hmono _ (Agree.of_hold hh' st'), wpAnyF_mono (fun w1 h => hag w1 h) (fun w1 h => hag w1 h) hmono (fun y hy => ?_) _ _ _ _ hk⟩
    exact List.all_eq_true.1 hs.1 y (by simpa using hy)
theorem WPD1.eff (i : Nat) (st' X' : List Nat) (ho : ops[i]? = some { dst := some dst, op := op, type := ty, pos := pos, after := after, guard := Option.none })
    (h : Runs P op ty E M tc v M') (hs : keepB M tc st st' X X' i = true) (ht : Nat.blt dst fr.nt = true)
    (k : WPD P cx fr ops st' X' fuel (listed.setIfInBounds i true) (E.upd dst v) M' Q) : WPD1 P cx fr ops st X fuel listed i E M Q :=
  WPD1.eff_core (tc := tc) (M' := M') i st' X' ho (fun _ _ _ => rfl) hs (fun a w e hh he next Q' hk => h cx fr a w e hh he _ rfl rfl _ _ fun x w' e' hh' hle hv hfr _ =>
    hk _ w' e' hh' hle.1 ((he.mono hle.1 hle.2).put ht hv) hfr) k
theorem WPD1.effS (i : Nat) (st' X' : List Nat) (ho : ops[i]? = some { dst := Option.none, op := op, type := ty, pos := pos, after := after, guard := Option.none })
    (h : DoesS P op ty E M tc M') (hs : keepB M tc st st' X X' i = true)
    (k : WPD P cx fr ops st' X' fuel (listed.setIfInBounds i true) E M' Q) : WPD1 P cx fr ops st X fuel listed i E M Q :=
  WPD1.eff_core (tc := tc) (M' := M') i st' X' ho (fun _ _ _ => rfl) hs (fun a w e hh he next Q' hk => by
    obtain ⟨w', e', hr, hh', hle, hfr, _⟩ := h cx fr.nt a w e hh he
    refine ⟨about_some hr, ?_⟩
    rw [semAt_skip hr]
    exact hk _ w' e' hh' hle.1 (he.mono hle.1 hle.2) hfr) k
end
end Go.Q
namespace Go.Q
open Go
set_option linter.unusedVariables false
set_option linter.unusedSimpArgs false
section
variable {P : Program} {E : Env} {M : Mem} {ty : TypeId}
theorem alloc_old4 (w : World) (o : Obj) (i : Nat) (h : i < w.heap.size) : (w.alloc o).heap[i]? = w.heap[i]? := by
  simp [World.alloc, Array.getElem?_push, -World.alloc_eq]
  omega
/-- Two strings, one behind the other. -/
theorem q_concat {t yt : TypeId} {x y : Operand} {p s : ByteArray} (hx : E.ev x = .lit (.string p)) (hy : E.ev y = .lit (.string s)) (hlim : decide (p.size + s.size ≤ 9223372036854775807) = true) :
    Quiet P (.binOp .add t x y yt) ty E M [] (.lit (.string (p ++ s))) :=
  q_bin hx hy g_str fun w => by
    have h := of_decide_eq_true hlim
    have hmax : IntKind.i64.max = 9223372036854775807 := rfl
    have h' : ¬ (9223372036854775807 : Int) < (p.size : Int) + (s.size : Int) := by omega
    simp [binOp, Op.stringOp, hmax, h']
/-- A range over a string begins. -/
theorem d_range {t : TypeId} {x : Operand} {s : ByteArray} {N : Nat} (ht : P.underlying t = some .string) (hx : E.ev x = .lit (.string s)) (hN : M.n = N) :
    Does P (.range t x) ty E M [] (.ptr N 0) (M.push (.obj (.stringIter s 0))) :=
  fun cx nt a w e hh hem => by
    refine ⟨.pointer (some ⟨w.heap.size, 0, none⟩), w.alloc (.stringIter s 0), e.bump w.heap.size 0 0, ?_, ?_, ⟨e.bump_le _ _ _ false, fun b => e.bump_mem _ _ _ false b⟩, ?_, fun b hb _ => alloc_old4 w _ b hb, by simp⟩
    · simp [exec1, execOp, ev_lit hem hx, Instr.range, run_underlying ht]
    · refine hh.bind rfl rfl rfl (by simp) (by simp) (fun k hk hlt => alloc_old4 w _ k hlt) (fun i hi hl => Nat.ne_of_lt (hh.live i hi hl).1) hh.bag_new (hnone hh.ro) (hnone hh.bro) (.inr hh.size) ?_
      exact ⟨by simp [Nv.bump], by simp only [Nv.bump, if_true]; exact heap_alloc_new w _⟩
    · simp only [Val, Nv.bump, ← hN, ← hh.n, if_true]
      exact ⟨Nat.lt_succ_self _, trivial, trivial⟩
/-- .. comes to its end .. -/
theorem q_nextEnd {x : Operand} {i pos : Nat} {s : ByteArray} (hx : E.ev x = .ptr i 0) (hc : M.at_ i = .obj (.stringIter s pos)) (h : decide (pos < s.size) = false) :
    Quiet P (.next x true) ty E M [i] (.tup [.lit (.bool false)]) :=
  fun cx nt a w e hh hem => ⟨.tuple #[.bool false], by simp [Val, Vals], fun w1 hw => by
    have hp := hem.ev x; rw [hx] at hp; simp only [Val] at hp
    have hk := hh.ch i hp.1
    rw [hc] at hk
    have h1 := (hw.own i (by simp) hp.1 hk.1).trans hk.2
    have hn : ¬ pos < s.size := of_decide_eq_false h
    have hr : (Instr.next (a.eval x) true ty).run P w1 = .ok (.tuple #[.bool false]) w1 := by
      simp [hp.2.2, Instr.next, getObj, Sem.run, h1, hn]
    simp [exec1, execOp, hr]⟩
/-- .. or goes on. -/
theorem d_next {x : Operand} {i pos : Nat} {s : ByteArray} (hx : E.ev x = .ptr i 0) (hc : M.at_ i = .obj (.stringIter s pos)) (h : decide (pos < s.size) = true) :
    Does P (.next x true) ty E M [i] (.tup [.lit (.bool true), .lit (.int .i64 (pos : Int)), .lit (.int .i32 (((Utf8.decode s pos).1 : Nat) : Int))]) (M.set i (.obj (.stringIter s (pos + (Utf8.decode s pos).2)))) :=
  fun cx nt a w e hh hem => by
    have hp := hem.ev x; rw [hx] at hp; simp only [Val] at hp
    have hk := hh.ch i hp.1
    rw [hc] at hk
    have hn : pos < s.size := of_decide_eq_true h
    have hlive : (M.at_ i).live e i := by rw [hc]; trivial
    have hlt := (hh.live i hp.1 hlive).1
    have hset : ∀ o : Obj, ({ w with heap := w.heap.setIfInBounds (e.own i) o } : World).heap[e.own i]? = some o := fun o => by
      simp [Array.getElem?_setIfInBounds, hlt]
    refine ⟨.tuple #[.bool true, .int .i64 pos, .int .i32 ((Utf8.decode s pos).1 : Nat)], { w with heap := w.heap.setIfInBounds (e.own i) (.stringIter s (pos + (Utf8.decode s pos).2)) }, e, ?_, ?_, ⟨Nv.le.refl e, fun _ => Ro.le.refl _⟩, by simp [Val, Vals], fun b _ hne => ?_, ?_⟩
    · have hr : (Instr.next (a.eval x) true ty).run P w = .ok (.tuple #[.bool true, .int .i64 pos, .int .i32 ((Utf8.decode s pos).1 : Nat)]) { w with heap := w.heap.setIfInBounds (e.own i) (.stringIter s (pos + (Utf8.decode s pos).2)) } := by
        simp only [hp.2.2, Instr.next, getObj, setObj, Sem.run_bind, Sem.run, hk.2, Result.andThen, hn, if_true]
        simp [goInt]
      simp [exec1, execOp, hr]
    · refine hh.change hp.1 hlive rfl rfl rfl (by simp) (fun k hk => ?_) ⟨hk.1, hset _⟩
      simp only [Array.getElem?_setIfInBounds]
      rw [if_neg (Ne.symm hk)]
    · have hb : e.own i ≠ b := hne i (by simp) hp.1 hlive
      intro _
      simp only [Array.getElem?_setIfInBounds]
      rw [if_neg hb]
    · simp
end
end Go.Q
namespace Go.Q
open Go
set_option linter.unusedVariables false
set_option linter.unusedSimpArgs false
/-- A function that the model stands in for. -/
structure ExtIs (P : Program) (f : FuncId) (g : Array Value → Sem Value) : Prop where
  h : ∃ fn, P.funcs[f]? = some fn ∧ fn.body.isNone = true ∧ (fn.name == "runtime.NumGoroutine") = false ∧ (Extern.findNext fn).isNone = true ∧ Extern.find fn = some g
section
variable {P : Program} {E : Env} {M : Mem} {ty : TypeId} {fo : Operand} {f : FuncId} {g : Array Value → Sem Value} {args : Array Operand} {tys : Array TypeId}
theorem run_ext {ρ : Operand → Value} {w w' : World} {r : Value} (hfn : ExtIs P f g) (hf : ρ fo = .func (.func f) #[] #[]) (hr : (g (args.map ρ)).run P w = .ok r w') :
    (exec1 ρ (.call { callee := .value fo, args := args, argTypes := tys }) ty).run P w = .ok (.value r) w' := by
  obtain ⟨fn, h1, h2, h3, h4, h5⟩ := hfn.h
  have h3' : ¬ fn.name = "runtime.NumGoroutine" := by simpa using h3
  have h4' : Extern.findNext fn = none := by simpa using h4
  have h2' : fn.body = none := by simpa using h2
  simp [exec1, execOp, resolve, Deferred.ofValue, hf, invoke, callFunc, h1, h2', h3', h4', h5, hr]
theorem fn_eval {nt : Nat} {e : Nv} {a : Act} (he : Emb nt e M E a) (hcal : E.ev fo = .fn f []) : a.eval fo = .func (.func f) #[] #[] := by
  have hv := he.ev fo
  rw [hcal] at hv
  simp only [Val, Vals] at hv
  obtain ⟨us, h1, rfl⟩ := hv
  exact h1
end
end Go.Q
namespace Go.Q
open Go
set_option linter.unusedVariables false
set_option linter.unusedSimpArgs false
section
variable {P : Program} {cx : Cx} {fr : Fr} {nt : Nat} {E E' : Env} {M M' : Mem} {Q : Ex → Env → Mem → Prop} {ty : TypeId}
/-- Both ways of a truth value. -/
theorem WPL.splitB {ops : Array Oper} {os : List Oper} (b : Bool) (h1 : b = true → WPL P cx fr ops os E M Q) (h2 : b = false → WPL P cx fr ops os E M Q) : WPL P cx fr ops os E M Q := by
  cases b with
  | true => exact h1 rfl
  | false => exact h2 rfl
theorem WPD.splitB {ops : Array Oper} {st X : List Nat} {fuel : Nat} {listed : Array Bool} (b : Bool) (h1 : b = true → WPD P cx fr ops st X fuel listed E M Q) (h2 : b = false → WPD P cx fr ops st X fuel listed E M Q) : WPD P cx fr ops st X fuel listed E M Q := by
  cases b with
  | true => exact h1 rfl
  | false => exact h2 rfl
theorem WP.condTB {c : Operand} {x y : Code} {t : Bool} (hc : E.ev c = .lit (.bool t)) (hb : t = true) (h : WP P cx fr x E M Q) : WP P cx fr (.cond c x y) E M Q := WP.condT (hb ▸ hc) h
theorem WP.condFB {c : Operand} {x y : Code} {t : Bool} (hc : E.ev c = .lit (.bool t)) (hb : t = false) (h : WP P cx fr y E M Q) : WP P cx fr (.cond c x y) E M Q := WP.condF (hb ▸ hc) h
theorem len0 {α : Type} {l : List α} (h : decide (l.length = 0) = true) : ((l.length : Nat) : Int) = 0 := by
  have := of_decide_eq_true h
  omega
end
end Go.Q
namespace Go.Q
open Go
set_option linter.unusedVariables false
set_option linter.unusedSimpArgs false
section
variable {P : Program} {cx : Cx} {fr : Fr} {E : Env} {M M' : Mem} {Q : Ex → Env → Mem → Prop} {ty : TypeId}
theorem nm_str {a b : ByteArray} (h : some a = some b) : AVal.lit (.string a) = AVal.lit (.string b) := by cases h; rfl
/-- An operation whose value goes nowhere. -/
theorem WPL.dN {op : Op} {pos : String} {after : Array Edge} {ops : Array Oper} {os : List Oper} {tc : List Nat} {v : AVal} (h : Does P op ty E M tc v M') (k : WPL P cx fr ops os E M' Q) :
    WPL P cx fr ops ({ dst := Option.none, op := op, type := ty, pos := pos, after := after, guard := Option.none } :: os) E M Q := by
  intro a w e hh he
  obtain ⟨x, w', e', hr, hh', he', hv, _⟩ := h cx fr.nt a w e hh he
  unfold wpListIn
  rw [if_pos (by rfl)]
  refine ⟨about_some hr, ?_⟩
  rw [semAt_value hr]
  exact k _ w' e' hh' (he.mono he'.1 he'.2)
end
end Go.Q
namespace Go.Q
open Go
set_option linter.unusedVariables false
set_option linter.unusedSimpArgs false
/-- The bytes of a string. -/
def L (s : ByteArray) : List UInt8 := s.data.toList
theorem L_size (s : ByteArray) : s.size = (L s).length := by rw [L, Array.length_toList]; rfl
theorem L_toList (s : ByteArray) : s.toList = L s := ByteArray.toList_eq s
theorem L_extract (s : ByteArray) (i j : Nat) : L (s.extract i j) = ((L s).drop i).take (j - i) := by simp [L]
theorem L_append (a b : ByteArray) : L (a ++ b) = L a ++ L b := by simp [L]
theorem beq_toList (a b : ByteArray) : (a.toList == b.toList) = decide (L a = L b) := by
  rw [L_toList, L_toList]
  by_cases h : L a = L b
  · simp [h]
  · simp [h]
/-- The k-th byte, or 0. -/
def byt (l : List UInt8) (k : Nat) : Nat := (l.getD k 0).toNat
theorem byt_lt (l : List UInt8) (k : Nat) : byt l k < 256 := (l.getD k 0).toNat_lt
theorem byt_drop (l : List UInt8) (p k : Nat) : byt (l.drop p) k = byt l (p + k) := by
  simp [byt, List.getD_eq_getElem?_getD, List.getElem?_drop]
/-- A character out of the bytes ahead, and how many these are. -/
def decL (l : List UInt8) : Nat × Nat :=
  let cont (k : Nat) : Bool := decide (k < l.length) && byt l k / 64 == 2
  if byt l 0 < 0x80 then (byt l 0, 1)
  else if byt l 0 / 32 == 6 && cont 1 then
    let c := (byt l 0 % 32) * 64 + byt l 1 % 64
    if c ≥ 0x80 then (c, 2) else (65533, 1)
  else if byt l 0 / 16 == 14 && cont 1 && cont 2 then
    let c := (byt l 0 % 16) * 4096 + (byt l 1 % 64) * 64 + byt l 2 % 64
    if c ≥ 0x800 && Utf8.valid c then (c, 3) else (65533, 1)
  else if byt l 0 / 8 == 30 && cont 1 && cont 2 && cont 3 then
    let c := (byt l 0 % 8) * 262144 + (byt l 1 % 64) * 4096 + (byt l 2 % 64) * 64 + byt l 3 % 64
    if c ≥ 0x10000 && Utf8.valid c then (c, 4) else (65533, 1)
  else (65533, 1)
theorem get!_L (s : ByteArray) (i : Nat) : s.get! i = (L s).getD i 0 := by
  show s.data[i]! = _
  rw [getElem!_def, L, List.getD_eq_getElem?_getD, Array.getElem?_toList]
  cases s.data[i]? <;> rfl
theorem decode_L (s : ByteArray) (p : Nat) : Utf8.decode s p = decL ((L s).drop p) := by
  unfold Utf8.decode decL
  have h1 : ∀ k, (s.get! (p + k)).toNat = byt ((L s).drop p) k := fun k => by rw [byt_drop, get!_L]; rfl
  have h2 : ∀ k, (decide (p + k < s.size)) = decide (k < ((L s).drop p).length) := fun k => by
    rw [L_size, List.length_drop]
    congr 1
    apply propext
    omega
  simp only [h1, h2, Utf8.runeError]
/-- What is well written there: the character and how many bytes. -/
def okL (l : List UInt8) (c w : Nat) : Prop :=
  (w = 1 ∧ 1 ≤ l.length ∧ byt l 0 = c ∧ c < 128) ∨
  (w = 2 ∧ 2 ≤ l.length ∧ 128 ≤ c ∧ c < 2048 ∧ byt l 0 = 192 + c / 64 ∧ byt l 1 = 128 + c % 64) ∨
  (w = 3 ∧ 3 ≤ l.length ∧ 2048 ≤ c ∧ c < 65536 ∧ ¬ (55296 ≤ c ∧ c ≤ 57343) ∧ byt l 0 = 224 + c / 4096 ∧ byt l 1 = 128 + c / 64 % 64 ∧ byt l 2 = 128 + c % 64) ∨
  (w = 4 ∧ 4 ≤ l.length ∧ 65536 ≤ c ∧ c ≤ 1114111 ∧ byt l 0 = 240 + c / 262144 ∧ byt l 1 = 128 + c / 4096 % 64 ∧ byt l 2 = 128 + c / 64 % 64 ∧ byt l 3 = 128 + c % 64)
theorem okL_one {l : List UInt8} {c w c' w' : Nat} (h : okL l c w) (h' : okL l c' w') : c = c' ∧ w = w' := by
  unfold okL at h h'
  rcases h with ⟨rfl, h⟩ | ⟨rfl, h⟩ | ⟨rfl, h⟩ | ⟨rfl, h⟩ <;> rcases h' with ⟨rfl, h'⟩ | ⟨rfl, h'⟩ | ⟨rfl, h'⟩ | ⟨rfl, h'⟩ <;> omega
theorem valid_nat (c : Nat) : Utf8.valid (c : Int) = true ↔ c ≤ 1114111 ∧ ¬ (55296 ≤ c ∧ c ≤ 57343) := by
  unfold Utf8.valid
  simp only [Bool.or_eq_true, Bool.and_eq_true, decide_eq_true_eq]
  omega
/-- Either something is well written there, or one byte is taken as it is. -/
theorem decL_cases {l : List UInt8} (h0 : 0 < l.length) : okL l (decL l).1 (decL l).2 ∨ (decL l = (65533, 1) ∧ ∀ c w, ¬ okL l c w) := by
  have b0 := byt_lt l 0; have b1 := byt_lt l 1; have b2 := byt_lt l 2; have b3 := byt_lt l 3
  unfold decL
  simp only [Bool.and_eq_true, beq_iff_eq, decide_eq_true_eq, ge_iff_le, valid_nat]
  split
  · left; unfold okL; simp; omega
  · split
    · split
      · left; unfold okL; simp; omega
      · right; refine ⟨rfl, fun c w h => ?_⟩; unfold okL at h; omega
    · split
      · split
        · left; unfold okL; simp; omega
        · right; refine ⟨rfl, fun c w h => ?_⟩; unfold okL at h; omega
      · split
        · split
          · left; unfold okL; simp; omega
          · right; refine ⟨rfl, fun c w h => ?_⟩; unfold okL at h; omega
        · right; refine ⟨rfl, fun c w h => ?_⟩; unfold okL at h; omega
theorem decL_of {l : List UInt8} {c w : Nat} (h : okL l c w) : decL l = (c, w) := by
  have h0 : 0 < l.length := by unfold okL at h; omega
  rcases decL_cases h0 with h' | ⟨_, h'⟩
  · obtain ⟨h1, h2⟩ := okL_one h h'
    exact Prod.ext h1.symm h2.symm
  · exact absurd h (h' c w)
end Go.Q
namespace Go.Q
open Go
set_option linter.unusedVariables false
set_option linter.unusedSimpArgs false
section
variable {P : Program} {cx : Cx} {fr : Fr} {E : Env} {M : Mem} {Q : Ex → Env → Mem → Prop}
/-- The rest of a loop, from the beginning of a round. -/
def WPI (P : Program) (cx : Cx) (fr : Fr) (c : Code) (E : Env) (M : Mem) (Q : Ex → Env → Mem → Prop) : Prop :=
  ∀ a w e, Hold cx e M w → Emb fr.nt e M E a → ∀ (b : Frame) (k : List Item) (cs : List Frame), b.roundOf = (fence P fr.r).round → (fence P fr.r).fn b.fn → (fence P fr.r).room (cs.length + 1 + 0) →
    ∃ x a' w', Sat cx fr Q x a' w' ∧ ArrivesIn (Machine.fenced P (fence P fr.r)) P (lone (b.atR a (.code c :: .inLoop c :: k)) cs w) b k cs x a' w'
theorem WPI.round {c : Code} (h : WP P cx fr c E M (Then (fun E M => WPI P cx fr c E M Q) Q)) : WPI P cx fr c E M Q := by
  intro a w e hh he b k cs hro hb hr
  obtain ⟨x, a1, w1, hq, harr⟩ := h a w e hh he b (.inLoop c :: k) cs hro hb hr
  obtain ⟨y, E', M', e', q, h1, h2, h3⟩ := hq
  cases y with
  | normal =>
    cases h3
    obtain ⟨x2, a2, w2, hq2, harr2⟩ := q a1 w1 e' h1 h2 b k cs hro hb hr
    exact ⟨x2, a2, w2, hq2, .of_steps (StepsIn.trans harr (.one (fenced_calm hb hr rfl) stepR_inLoop)) harr2⟩
  | exit id => cases h3; exact ⟨_, a1, w1, ⟨_, E', M', e', q, h1, h2, rfl⟩, .pass (x := .inLoop c) rfl (fun _ _ => .inl (by simp)) harr⟩
  | goto l => cases h3; exact ⟨_, a1, w1, ⟨_, E', M', e', q, h1, h2, rfl⟩, .pass (x := .inLoop c) rfl (fun _ _ => .inl (by simp)) harr⟩
  | ret => cases h3; exact ⟨_, a1, w1, ⟨_, E', M', e', q, h1, h2, rfl⟩, .pass (x := .inLoop c) rfl (fun _ _ => .inl (by simp)) harr⟩
  | panic v =>
    obtain ⟨u, rfl, hv⟩ := h3
    exact ⟨_, a1, w1, ⟨_, E', M', e', q, h1, h2, u, rfl, hv⟩, .pass (x := .inLoop c) rfl (fun _ _ => .inl (by simp)) harr⟩
end
def EqV (P : Program) (n : Nat) (t : TypeId) (x y : Value) (b : Bool) : Prop := ∀ d w, n ≤ d → (Op.equalIn d t x y).run P w = .ok b w
def EqF (P : Program) (n : Nat) (xs ys : List Value) (fs : List Field) (b : Bool) : Prop := ∀ d w, n ≤ d → (Op.eqFields d xs.toArray ys.toArray fs).run P w = .ok b w
section
variable {P : Program} {n : Nat} {t : TypeId} {xs ys : List Value} {f : Field} {fs : List Field}
theorem EqV.int {k k' : IntKind} {a b : Int} (h : P.underlying t = some (.int k')) : EqV P (n + 1) t (.int k a) (.int k b) (decide (a = b)) := fun d w hd => by
  obtain ⟨m, rfl⟩ : ∃ m, d = m + 1 := ⟨d - 1, by omega⟩
  rw [run_equalIn_int w m t k k' a b h]; rfl
theorem EqV.bool {a b : Bool} (h : P.underlying t = some .bool) : EqV P (n + 1) t (.bool a) (.bool b) (a == b) := fun d w hd => by
  obtain ⟨m, rfl⟩ : ∃ m, d = m + 1 := ⟨d - 1, by omega⟩
  exact run_equalIn_bool' w m t a b h
theorem EqV.str {a b : ByteArray} (h : P.underlying t = some .string) : EqV P (n + 1) t (.string a) (.string b) (a.toList == b.toList) := fun d w hd => by
  obtain ⟨m, rfl⟩ : ∃ m, d = m + 1 := ⟨d - 1, by omega⟩
  exact run_equalIn_string w m t a b h
theorem EqF.nil : EqF P n xs ys [] true := fun d w _ => rfl
theorem part_sc {w : World} {u : Value} {o : Nat} (ht : Sc P t) (h : xs[o]? = some u) : (part t xs.toArray o).run P w = .ok u w := by
  simp [part, ht.isAgg w, h]
theorem EqF.sc {u v : Value} {b c : Bool} (hn : (f.name == "_") = false) (ht : Sc P f.type) (hx : xs[f.offset]? = some u) (hy : ys[f.offset]? = some v) (h : EqV P n f.type u v b) (k : EqF P n xs ys fs c) : EqF P n xs ys (f :: fs) (b && c) := fun d w hd => by
  have hn' : f.name ≠ "_" := by simpa using hn
  rw [Op.eqFields, if_pos hn']
  simp only [Sem.run_bind, part_sc ht hx, part_sc ht hy, Result.andThen_ok, h d w hd]
  cases b with
  | true => simpa using k d w hd
  | false => simp
theorem EqV.struct {b : Bool} {fa : Array Field} (ht : P.underlying t = some (.struct fa)) (hp : P.stoodInHeld t = false) (h : EqF P n xs ys fa.toList b) : EqV P (n + 1) t (.agg xs.toArray) (.agg ys.toArray) b := fun d w hd => by
  obtain ⟨m, rfl⟩ : ∃ m, d = m + 1 := ⟨d - 1, by omega⟩
  have hf : P.fieldsOf t = fa := by simp [Program.fieldsOf, ht]
  rw [run_equalIn_agg w m t _ _ (by rw [hf]; exact ht) hp, hf]
  exact h m w (by omega)
end
theorem W.wk {cx : Cx} {fr : Fr} {Q : Ex → Env → Mem → Prop} {x : Ex} {E E' : Env} {M M' : Mem} {np : Nat} (l : List Nat) (hnp : cx.np = np) (hq : Q x E' M') (hM : LeM l np M M') (hE : LeE l M'.n E E') (hx : x.plain = true) : W cx fr Q x E M :=
  W.cv (Cv.weak l hnp hM hE) hx (W.now hq)
theorem BodyR.mkR {az : List (Nat × Nat)} {rs : List ResultVar} {np : Nat} {Q : Out → Mem → Prop} {E : Env} {M M2 : Mem} {vs : List AVal} {v : AVal} (hm : marksOk M E.d) (hvs : resAll az E (dropMarks M E.d) rs = some vs) (l : List Nat) (hq : Q (.ret v) M2)
    (hl : LeM l np (dropMarks M E.d) M2) (h1 : resOut vs = v.ren (sub l)) (h2 : (v.under M2.n && E.b.isEmpty) = true) : BodyR az rs np Q .ret E M := ⟨hm, vs, hvs, l, v, M2, hl, h1, h2, hq⟩
theorem BodyR.mkN {az : List (Nat × Nat)} {rs : List ResultVar} {np : Nat} {Q : Out → Mem → Prop} {E : Env} {M M2 : Mem} {vs : List AVal} {v : AVal} (hm : marksOk M E.d) (hvs : resAll az E (dropMarks M E.d) rs = some vs) (l : List Nat) (hq : Q (.ret v) M2)
    (hl : LeM l np (dropMarks M E.d) M2) (h1 : resOut vs = v.ren (sub l)) (h2 : (v.under M2.n && E.b.isEmpty) = true) : BodyR az rs np Q .normal E M := ⟨hm, vs, hvs, l, v, M2, hl, h1, h2, hq⟩
end Go.Q
namespace Go.Q
open Go
set_option linter.unusedVariables false
set_option linter.unusedSimpArgs false
section
variable {P : Program} {cx : Cx} {fr : Fr} {ops : Array Oper} {os : List Oper} {E E' : Env} {M M' : Mem} {Q : Ex → Env → Mem → Prop} {op : Op} {ty : TypeId} {pos : String} {after : Array Edge} {dst : Nat} {v : AVal} {tc : List Nat}
theorem Scope.p {u : AVal} (h : Q (.panic u) E M) : (match Ex.panic u with | .goto _ => False | _ => True) ∧ Q (.panic u) E M := ⟨trivial, h⟩
end
end Go.Q
namespace Go.Q
open Go
set_option linter.unusedVariables false
set_option linter.unusedSimpArgs false
end Go.Q
namespace Go.Q
open Go
set_option linter.unusedVariables false
set_option linter.unusedSimpArgs false
end Go.Q
namespace Go.Q
open Go
set_option linter.unusedVariables false
set_option linter.unusedSimpArgs false
set_option linter.unusedSectionVars false
section
variable {K V : Type} [DecidableEq K]
/-- Where a key stands, and its value. -/
def mapIx (k : K) : Nat → List (K × V) → Option (Nat × V)
  | _, [] => none
  | i, p :: l => if k = p.1 then some (i, p.2) else mapIx k (i + 1) l
def mapGet (l : List (K × V)) (k : K) : Option V := (mapIx k 0 l).map (·.2)
end
def ents {K V : Type} (fk : K → Value) (fv : V → Value) : Nat → List (K × V) → List MapEntry
  | _, [] => []
  | n, p :: l => ⟨fk p.1, fv p.2, n⟩ :: ents fk fv (n + 1) l
/-- What the keys of a type are. -/
structure KeyOk (P : Program) (kt : TypeId) {K : Type} [DecidableEq K] (fk : K → Value) : Prop where
  check : ∀ (b : Bool) (k : K) (w : World), (Instr.checkKey b 10000 kt (fk k)).run P w = .ok () w
  stays : ∀ (k : K) (w : World), (Instr.keyThatStays (fk k) (fk k)).run P w = .ok (fk k) w
  kind : ∃ kd, P.underlying kt = some kd ∧ ((∀ a b, Instr.sameNow kd (fk a) (fk b) = some (decide (a = b))) ∨ ((∀ a b, Instr.sameNow kd (fk a) (fk b) = none) ∧ ∀ a b w, (Op.equal kt (fk a) (fk b)).run P w = .ok (decide (a = b)) w))
section
variable {P : Program} {K V : Type} [DecidableEq K] {fk : K → Value} {fv : V → Value} {kt : TypeId}
theorem mapIx_some : ∀ {k : K} {i j : Nat} {l : List (K × V)} {v : V}, mapIx k i l = some (j, v) → i ≤ j ∧ l[j - i]? = some (k, v)
  | k, i, j, [], v, h => by simp [mapIx] at h
  | k, i, j, p :: l, v, h => by
    unfold mapIx at h
    split at h
    · rename_i e
      obtain ⟨rfl, rfl⟩ := Prod.mk.inj (Option.some.inj h)
      refine ⟨Nat.le_refl _, ?_⟩
      rw [Nat.sub_self]; simp [e]
    · obtain ⟨h1, h2⟩ := mapIx_some h
      refine ⟨by omega, ?_⟩
      rw [show j - i = (j - (i + 1)) + 1 by omega]; simpa using h2
theorem KeyOk.findNow {kd : TypeDesc} (h : ∀ a b, Instr.sameNow kd (fk a) (fk b) = some (decide (a = b))) (k : K) : ∀ (l : List (K × V)) (n i : Nat), Instr.findNow kd (fk k) (ents fk fv n l) i = some ((mapIx k i l).map fun p => (p.1, fv p.2))
  | [], _, _ => rfl
  | p :: l, n, i => by
    simp only [ents, Instr.findNow, h, mapIx]
    by_cases e : k = p.1
    · rw [decide_eq_true e, if_pos e]; rfl
    · rw [decide_eq_false e, if_neg e]; exact KeyOk.findNow h k l (n + 1) (i + 1)
theorem KeyOk.findAsk {w : World} (h : ∀ a b w, (Op.equal kt (fk a) (fk b)).run P w = .ok (decide (a = b)) w) (k : K) : ∀ (l : List (K × V)) (n i : Nat), (Instr.findAsking kt (fk k) (ents fk fv n l) i).run P w = .ok ((mapIx k i l).map fun p => (p.1, fv p.2)) w
  | [], _, _ => by simp [ents, Instr.findAsking, mapIx]
  | p :: l, n, i => by
    simp only [ents, Instr.findAsking, Sem.run_bind, h, Result.andThen, mapIx]
    by_cases e : k = p.1
    · rw [decide_eq_true e, if_pos e]; simp
    · rw [decide_eq_false e, if_neg e]; simpa using KeyOk.findAsk h k l (n + 1) (i + 1)
theorem KeyOk.find (h : KeyOk P kt fk) (k : K) (l : List (K × V)) (w : World) : (Instr.findKey kt (fk k) (ents fk fv 0 l)).run P w = .ok ((mapIx k 0 l).map fun p => (p.1, fv p.2)) w := by
  obtain ⟨kd, hk, h1 | ⟨h1, h2⟩⟩ := h.kind
  · exact MapKept.run_findKey hk (KeyOk.findNow h1 k l 0 0)
  · cases l with
    | nil => simp [Instr.findKey, run_underlying hk, ents, Instr.findNow, mapIx]
    | cons p l =>
      have : Instr.findNow kd (fk k) (ents fk fv 0 (p :: l)) 0 = none := by simp [ents, Instr.findNow, h1]
      simp only [Instr.findKey, Sem.run_bind, run_underlying hk, Result.andThen, this]
      exact KeyOk.findAsk h2 k (p :: l) 0 0
theorem alloc_old (w : World) (o : Obj) (i : Nat) (h : i < w.heap.size) : (w.alloc o).heap[i]? = w.heap[i]? := by
  show (w.heap.push o)[i]? = w.heap[i]?
  rw [Array.getElem?_push, if_neg (Nat.ne_of_lt h)]
variable {ty : TypeId} {E : Env} {M : Mem}
theorem zv_of {t : TypeId} {v : Value} (h : ∃ i, P.info? t = some i ∧ i.zero = some v) (w : World) : (zeroValue t).run P w = .ok v w := by
  obtain ⟨i, h1, h2⟩ := h
  simp [zeroValue, typeInfo, h1, h2]
end
section
variable {K V : Type} [DecidableEq K]
theorem mapIx_none : ∀ {k : K} {i : Nat} {l : List (K × V)}, mapIx k i l = none → ∀ p ∈ l, p.1 ≠ k
  | k, i, [], _ => by simp
  | k, i, p :: l, h => by
    unfold mapIx at h
    split at h
    · cases h
    · rename_i e
      intro q hq
      rcases List.mem_cons.1 hq with rfl | hq
      · exact fun h => e h.symm
      · exact mapIx_none h q hq
theorem mapIx_shift : ∀ {k : K} {i : Nat} {l : List (K × V)}, (mapIx k (i + 1) l) = (mapIx k i l).map fun p => (p.1 + 1, p.2)
  | k, i, [] => rfl
  | k, i, p :: l => by
    unfold mapIx
    split
    · rfl
    · exact mapIx_shift
theorem mapGet_nil (k : K) : mapGet ([] : List (K × V)) k = none := rfl
theorem mapGet_cons (p : K × V) (l : List (K × V)) (k : K) : mapGet (p :: l) k = if k = p.1 then some p.2 else mapGet l k := by
  unfold mapGet
  conv => lhs; unfold mapIx
  split
  · rfl
  · rw [mapIx_shift]; cases mapIx k 0 l <;> rfl
end
end Go.Q
namespace Go.Q
open Go
set_option linter.unusedVariables false
set_option linter.unusedSimpArgs false
end Go.Q
namespace Go.Q
open Go
set_option linter.unusedVariables false
set_option linter.unusedSimpArgs false
set_option linter.unusedSectionVars false
section
variable {P : Program} {cx : Cx} {fr : Fr} {nt : Nat} {E E' : Env} {M M' : Mem} {ty : TypeId} {e : Nv} {w : World} {α : Type} {R : Rd α} {l : List α} {a : AVal} {t : TypeId} {i : Nat}
/-- A chunk told otherwise. -/
theorem Hold.tell (h : Hold cx e M w) {c : Chunk} (hi : i < e.n) (hl : c.live e i → (M.at_ i).live e i) (hc : c.ok e w i) (hm : c.mark = false) : Hold cx e (M.set i c) w := by
  have lv : ∀ j, ((M.set i c).at_ j).live e j → (M.at_ j).live e j := by
    intro j hj
    rw [Mem.set_at] at hj
    split at hj
    · rename_i hji; subst hji; exact hl hj
    · exact hj
  have mk : ∀ j, ((M.set i c).at_ j).mark = true → (M.at_ j).mark = true := by
    intro j hj
    rw [Mem.set_at] at hj
    split at hj
    · rw [hm] at hj; cases hj
    · exact hj
  refine ⟨h.bm, h.n, h.size, h.os, h.tape, h.output, h.frame, h.ro, h.bro, h.m0, h.mnew, ?_, fun j hj hlj => h.live j hj (lv j hlj), fun j k hj hk hlj hlk => h.dist j k hj hk (lv j hlj) (lv k hlk), h.np, h.pin,
    ⟨fun j hj hmj => h.bag.nodup j hj (mk j hmj), fun j hj hmj => h.bag.at_ j hj (mk j hmj), fun j hj hmj x hx k hk hlk => h.bag.own j hj (mk j hmj) x hx k hk (lv k hlk), fun j k hj hk hmj hmk => h.bag.dist j k hj hk (mk j hmj) (mk k hmk)⟩,
    h.pool.keep rfl rfl (Ro.le.refl _) (fun x hx => ⟨rfl, (h.pool.isFree hx).1, (h.pool.isFree hx).2.1⟩) (fun x hx j hj hlj => h.pool.notOwn hx hj (lv j hlj)) (fun x hx j hj hmj => h.pool.notBag hx hj (mk j hmj))⟩
  intro j hj
  rw [Mem.set_at]
  split
  · rename_i hji; subst hji; exact hc
  · exact h.ch j hj
end
/-- Both ways come to the same. -/
def both {α : Type} [DecidableEq α] (a b : Option α) : Option α := a.bind fun x => b.bind fun y => if x = y then some x else none
theorem both1 {α : Type} [DecidableEq α] {a b : Option α} {r : α} (h : both a b = some r) : a = some r := by
  unfold both at h
  cases a with
  | none => cases h
  | some x =>
    cases b with
    | none => cases h
    | some y =>
      simp only [Option.bind_some] at h
      split at h
      · exact h
      · cases h
theorem both2 {α : Type} [DecidableEq α] {a b : Option α} {r : α} (h : both a b = some r) : b = some r := by
  unfold both at h
  cases a with
  | none => cases h
  | some x =>
    cases b with
    | none => cases h
    | some y =>
      simp only [Option.bind_some] at h
      split at h
      · rename_i e; rw [← e]; exact h
      · cases h
theorem Le.both {α : Type} [DecidableEq α] {x x' y y' : Option α} (h : Le x x') (k : Le y y') : Le (both x y) (both x' y') := Le.bind h fun _ => Le.bind k fun _ => Le.rfl
end Go.Q
namespace Go.Q
open Go
set_option linter.unusedVariables false
section
universe u
variable {P : Program} {E : Env} {M : Mem} {ty : TypeId}
end
end Go.Q
namespace Go.Q
open Go
set_option linter.unusedVariables false
set_option linter.unusedSimpArgs false
section
variable {P : Program} {E : Env} {M : Mem} {ty : TypeId}
/-- The naming with one object more. -/
def Nv.tabNew (e : Nv) (k a : Nat) : Nv := { e with m := ⟨e.m.f, fun i => if i = k then some a else e.m.tab i⟩ }
theorem Nv.tabNew_le {e : Nv} {k a : Nat} (h : e.m.tab k = none) : Ro.le e.m (e.tabNew k a).m := ⟨fun _ _ h => h, fun i b hb => by
  simp only [Nv.tabNew]
  split
  · rename_i hi; subst hi; rw [h] at hb; cases hb
  · exact hb⟩
theorem Nv.tabNew_mem {e : Nv} {k a : Nat} (h : e.m.tab k = none) (b : Bool) : Ro.le (e.mem b) ((e.tabNew k a).mem b) := ⟨fun _ _ h => h, (Nv.tabNew_le h).tab⟩
theorem Hold.none_new {cx : Cx} {e : Nv} {w : World} (hh : Hold cx e M w) : e.m w.heap.size = none ∧ e.bm w.heap.size = none := by
  have hnone : ∀ {m : Ro}, (∀ b o, m b = some o → w.heap[b]? = some o) → m w.heap.size = none := by
    intro m hm
    cases hx : m w.heap.size with
    | none => rfl
    | some o => have := (Array.getElem?_eq_some_iff.1 (hm _ _ hx)).1; omega
  exact ⟨hnone hh.ro, hnone hh.bro⟩
theorem Hold.poolNew {cx : Cx} {e : Nv} {w : World} (hh : Hold cx e M w) {t : TypeId} {α : Type} {R : Rd α} {l : List α} {d0 : α} {zs : List Value} (hp : M.pool = some ⟨t, α, R, l⟩) (hz : zs.length = R.sz) (hok : R.ok e.m d0 zs) :
    e.m.tab l.length = none ∧ Hold cx (e.tabNew l.length w.heap.size) (M.withP t R (l ++ [d0])) (w.alloc (.cells zs.toArray t)) := by
  have hk : e.m.tab l.length = none := by
    cases h : e.m.tab l.length with
    | none => rfl
    | some a => have := hh.pool.len _ hp _ _ h; simp at this
  have hle : e.le (e.tabNew l.length w.heap.size) := ⟨Nv.tabNew_le hk, Ro.le.refl _, Nat.le_refl _, fun _ _ => rfl, fun _ _ => rfl, fun _ _ => rfl, fun _ _ => rfl, fun _ _ => rfl⟩
  have hold : ∀ {k : Nat} {x : Obj}, w.heap[k]? = some x → (w.alloc (.cells zs.toArray t)).heap[k]? = some x := fun {k x} hk => by
    rw [alloc_old w _ _ (Array.getElem?_eq_some_iff.1 hk).1]; exact hk
  have lv : ∀ i, (M.at_ i).live (e.tabNew l.length w.heap.size) i → (M.at_ i).live e i := fun i h => h
  have ip : ∀ {k a}, e.m.tab k = some a → inPool e M a := fun h => ⟨by rw [hp]; simp, _, h⟩
  have sp : ∀ {k a}, (e.tabNew l.length w.heap.size).m.tab k = some a → (k = l.length ∧ a = w.heap.size) ∨ (k < l.length ∧ e.m.tab k = some a) := fun {k a} h => by
    simp only [Nv.tabNew] at h
    split at h
    · exact .inl ⟨by assumption, (Option.some.inj h).symm⟩
    · exact .inr ⟨hh.pool.len _ hp _ _ h, h⟩
  refine ⟨hk, ⟨hh.bm, hh.n, Nat.le_trans hh.size (by simp), hh.os, hh.tape, hh.output, fun b hb hF => ?_, fun b x hx => hold (hh.ro b x hx), fun b x hx => hold (hh.bro b x hx), hh.m0.trans (Nv.tabNew_le hk), hh.mnew, fun i hi => ?_, fun i hi hl => ?_, hh.dist, hh.np, hh.pin,
    ⟨hh.bag.nodup, fun i hi hm b hb => ?_, hh.bag.own, hh.bag.dist⟩, ⟨fun h => (by cases h), fun p h0 k a h1 => ?_, fun p h0 k d h1 => ?_, fun p h0 k a h1 => ?_, fun p h0 k a h1 j hj hlj => ?_, fun p h0 k a h1 i hi hm => ?_, fun p h0 k k' a h1 h2 => ?_⟩⟩⟩
  · rw [alloc_old w _ _ (Nat.lt_of_lt_of_le hb hh.size)]; exact hh.frame b hb hF
  · exact Chunk.ok_mono hle (Nv.tabNew_mem hk) hi (Chunk.ok_congr (hh.ch i hi) fun hl => alloc_old w _ _ (hh.live i hi hl).1)
  · obtain ⟨h1, h2⟩ := hh.live i hi hl
    exact ⟨Nat.lt_of_lt_of_le h1 (by simp), h2⟩
  · obtain ⟨h1, h2⟩ := hh.bag.at_ i hi hm b hb
    exact ⟨hold h1, h2⟩
  · cases h0
    rw [List.length_append, List.length_cons, List.length_nil]
    rcases sp h1 with ⟨h2, _⟩ | ⟨h2, _⟩ <;> simp only <;> omega
  · cases h0
    simp only at h1 ⊢
    rw [List.getElem?_append] at h1
    split at h1
    · rename_i hlt
      obtain ⟨a, c, g1, g2, g3, g4⟩ := hh.pool.at_ _ hp k d h1
      exact ⟨a, c, by simp only [Nv.tabNew]; rw [if_neg (by omega)]; exact g1, hold g2, g3, R.mono (Nv.tabNew_le hk) g4⟩
    · rename_i hge
      have hkl : k - l.length = 0 := by
        cases hx : k - l.length with
        | zero => rfl
        | succ n => rw [hx] at h1; simp at h1
      rw [hkl] at h1
      simp at h1
      subst h1
      refine ⟨w.heap.size, zs.toArray, by simp only [Nv.tabNew]; rw [if_pos (by omega)], heap_alloc_new w _, by simp [hz], R.mono (Nv.tabNew_le hk) hok⟩
  · rcases sp h1 with ⟨_, rfl⟩ | ⟨_, h2⟩
    · exact ⟨hh.none_new.1, hh.none_new.2, .inr hh.size⟩
    · exact hh.pool.isFree (ip h2)
  · rcases sp h1 with ⟨_, rfl⟩ | ⟨_, h2⟩
    · exact Nat.ne_of_lt (hh.live j hj hlj).1
    · exact hh.pool.notOwn (ip h2) hj hlj
  · rcases sp h1 with ⟨_, rfl⟩ | ⟨_, h2⟩
    · exact hh.bag_new.1 i hi hm
    · exact hh.pool.notBag (ip h2) hi hm
  · rcases sp h1 with ⟨a1, a2⟩ | ⟨a1, a2⟩
    · rcases sp h2 with ⟨b1, b2⟩ | ⟨b1, b2⟩
      · omega
      · exact absurd a2 (Nat.ne_of_lt (hh.pool.lt (ip b2)))
    · rcases sp h2 with ⟨b1, b2⟩ | ⟨b1, b2⟩
      · exact absurd b2 (Nat.ne_of_lt (hh.pool.lt (ip a2)))
      · exact hh.pool.inj _ hp k k' a a2 b2
/-- An object of the pool is written. -/
theorem Hold.poolSet {cx : Cx} {e : Nv} {w w' : World} (hh : Hold cx e M w) {t : TypeId} {α : Type} {R : Rd α} {l : List α} {d' : α} {k a : Nat} {c : Array Value} (hp : M.pool = some ⟨t, α, R, l⟩) (hk : e.m.tab k = some a) (hb : w'.heap[a]? = some (.cells c t (0, 0))) (hc : c.size = R.sz)
    (hok : R.ok e.m d' c.toList) (hsz : w'.heap.size = w.heap.size) (hos : w'.os = w.os) (htape : w'.tape = w.tape) (hout : w'.output = w.output) (hsame : ∀ b, b ≠ a → w'.heap[b]? = w.heap[b]?) : Hold cx e (M.withP t R (l.set k d')) w' := by
  have ip : ∀ {k a}, e.m.tab k = some a → inPool e M a := fun h => ⟨by rw [hp]; simp, _, h⟩
  have hfr := hh.pool.isFree (ip hk)
  refine ⟨hh.bm, hh.n, by rw [hsz]; exact hh.size, hos.trans hh.os, htape.trans hh.tape, hout.trans hh.output, fun b hb' hF => ?_, fun b x hx => ?_, fun b x hx => ?_, hh.m0, hh.mnew, fun i hi => ?_, fun i hi hl => ?_, hh.dist, hh.np, hh.pin,
    ⟨hh.bag.nodup, fun i hi hm b hb' => ?_, hh.bag.own, hh.bag.dist⟩, ⟨fun h => (by cases h), fun p h0 k a h1 => ?_, fun p h0 j d h1 => ?_, fun p h0 k a h1 => ?_, fun p h0 k a h1 j hj hlj => ?_, fun p h0 k a h1 i hi hm => ?_, fun p h0 k k' a h1 h2 => ?_⟩⟩
  · rw [hsame b (by
      rintro rfl
      rcases hfr.2.2 with h | h
      · exact hF h
      · omega)]
    exact hh.frame b hb' hF
  · rw [hsame b (by rintro rfl; rw [hfr.1] at hx; cases hx)]; exact hh.ro b x hx
  · rw [hsame b (by rintro rfl; rw [hfr.2.1] at hx; cases hx)]; exact hh.bro b x hx
  · exact Chunk.ok_congr (hh.ch i hi) fun hl => hsame _ (hh.pool.notOwn (ip hk) hi hl)
  · rw [hsz]; exact hh.live i hi hl
  · obtain ⟨h1, h2⟩ := hh.bag.at_ i hi hm b hb'
    exact ⟨by rw [hsame b (by rintro rfl; exact hh.pool.notBag (ip hk) hi hm hb')]; exact h1, h2⟩
  · cases h0; simp only [List.length_set]; exact hh.pool.len _ hp _ _ h1
  · cases h0
    simp only at h1 ⊢
    rw [List.getElem?_set] at h1
    split at h1
    · rename_i hkj
      subst hkj
      split at h1
      · cases h1; exact ⟨a, c, hk, hb, hc, hok⟩
      · cases h1
    · rename_i hkj
      obtain ⟨a', c', g1, g2, g3, g4⟩ := hh.pool.at_ _ hp j d h1
      refine ⟨a', c', g1, by rw [hsame a' (by rintro rfl; exact hkj (hh.pool.inj _ hp _ _ _ hk g1))]; exact g2, g3, g4⟩
  · exact hh.pool.isFree (ip h1)
  · exact hh.pool.notOwn (ip h1) hj hlj
  · exact hh.pool.notBag (ip h1) hi hm
  · exact hh.pool.inj _ hp k k' a h1 h2
/-- The place of a field of an object. -/
theorem q_fieldAddrP {t : TypeId} {k off n o : Nat} {ft : TypeId} {x : Operand} {b : Bool} {i : Nat} (h : FieldIs P t k off ft n) (hn : Nat.beq n 0 = false) (hx : E.ev x = .ro (Rd.pp o) b (some i)) :
    Quiet P (.fieldAddr t x k) ty E M [] (.ro (Rd.pp (o + off)) b (some i)) :=
  fun _ _ a _ e _ he => by
    have hv := he.ev x; rw [hx] at hv; simp only [Val, Rd.pp] at hv
    obtain ⟨ad, h1, h2⟩ := hv
    simp at h2
    refine ⟨.pointer (some ⟨ad, o + off, Option.none⟩), by simp only [Val, Rd.pp]; exact ⟨ad, h1, rfl⟩, fun w _ => ?_⟩
    have hn' : n ≠ 0 := by intro h0; subst h0; simp at hn
    simp [exec1, execOp, h2, run_fieldAt h hn']
/-- A field of an object is read. -/
theorem q_loadP {α β : Type} {t pt : TypeId} {R : Rd α} {S : Rd β} {l : List α} {d : α} {d' : β} {x : Operand} {o i : Nat} (ht : Sc P t) (hx : E.ev x = .ro (Rd.pp o) false (some i)) (hp : M.pool = some ⟨pt, α, R, l⟩) (hd : l[i]? = some d) (hpt : PartIs R d o S d') (hs : S.sz = 1) (ho : Nat.blt o R.sz = true) :
    Quiet P (.load t x) ty E M [poolIx] (.ro S false d') :=
  fun _ _ a w e hh he => by
    have hv := he.ev x; rw [hx] at hv; simp only [Val, Rd.pp, Nv.mem_false] at hv
    obtain ⟨ad, h1, h2⟩ := hv
    simp at h2
    obtain ⟨a', c, g1, g2, g3, g4⟩ := hh.pool.at_ _ hp i d hd
    rw [h1] at g1; cases g1
    have hq := hpt _ _ g4
    have ho' : o < c.size := by rw [g3]; simpa using ho
    have hlen := S.len hq
    rw [hs] at hlen hq
    have hcell : (c.toList.drop o).take 1 = [c[o]] := by
      rw [List.drop_eq_getElem_cons (by simpa using ho'), List.take_succ_cons, List.take_zero]; simp
    rw [hcell] at hq
    refine ⟨c[o], by simp only [Val, Nv.mem_false]; exact hq, fun w1 hw => ?_⟩
    have hb1 := (hw.pool (by simp) i ad h1).trans g2
    have : w1.cell? ⟨ad, o, Option.none⟩ = some c[o] := by rw [cell_of hb1]; simp [ho']
    simp [exec1, execOp, h2, run_loadAt_sc ht this]
/-- A datum with one cell put anew. -/
def PutIs {α β : Type} (R : Rd α) (d : α) (o : Nat) (S : Rd β) (v : β) (d' : α) : Prop := ∀ m cs u, R.ok m d cs → S.ok m v [u] → R.ok m d' (cs.set o u)
theorem PutIs.here {α β : Type} {A : Rd α} {B : Rd β} {d : α × β} {v : α} (hs : A.sz = 1) : PutIs (Rd.pair A B) d 0 A v (v, d.2) := by
  rintro m cs u ⟨x, y, rfl, h1, h2⟩ hu
  have := A.len h1
  rw [hs] at this
  obtain ⟨x0, rfl⟩ : ∃ x0, x = [x0] := by
    cases x with
    | nil => simp at this
    | cons x0 r => cases r with
      | nil => exact ⟨x0, rfl⟩
      | cons _ _ => simp at this
  exact ⟨[u], y, rfl, hu, h2⟩
theorem PutIs.there {α β γ : Type} {A : Rd α} {B : Rd β} {C : Rd γ} {d : α × β} {v : γ} {d2 : β} {o : Nat} (h : PutIs B d.2 o C v d2) : PutIs (Rd.pair A B) d (A.sz + o) C v (d.1, d2) := by
  rintro m cs u ⟨x, y, rfl, h1, h2⟩ hu
  have := A.len h1
  refine ⟨x, y.set o u, ?_, h1, h m y u h2 hu⟩
  rw [List.set_append, if_neg (by omega), this]
  congr 2
  omega
theorem PutIs.via {α β γ : Type} {A : Rd α} {g : β → α} {C : Rd γ} {d d' : β} {v : γ} {o : Nat} (h : PutIs A (g d) o C v (g d')) : PutIs (Rd.via A g) d o C v d' := h
/-- A field of an object is written. -/
theorem s_storeP {α β : Type} {t pt : TypeId} {R : Rd α} {S : Rd β} {l : List α} {d d2 : α} {v : β} {x y : Operand} {o i : Nat} (ht : SzIs P t 1) (hx : E.ev x = .ro (Rd.pp o) false (some i)) (hp : M.pool = some ⟨pt, α, R, l⟩) (hd : l[i]? = some d) (hj : Joins S false v [E.ev y]) (h1c : (E.ev y).cells = some [E.ev y])
    (hpt : PutIs R d o S v d2) (ho : Nat.blt o R.sz = true) : DoesS P (.store t x y) ty E M [poolIx] (M.withP pt R (l.set i d2)) :=
  fun cx nt a w e hh he => by
    have hv := he.ev x; rw [hx] at hv; simp only [Val, Rd.pp, Nv.mem_false] at hv
    obtain ⟨ad, h1, h2⟩ := hv
    simp at h2
    obtain ⟨a', c, g1, g2, g3, g4⟩ := hh.pool.at_ _ hp i d hd
    rw [h1] at g1; cases g1
    obtain ⟨us, k1, k2, k3⟩ := cells_vals (he.ev y) h1c
    obtain ⟨u, hu⟩ : ∃ u, us = [u] := by
      have := k2.length
      cases us with
      | nil => simp at this
      | cons u r => cases r with
        | nil => exact ⟨u, rfl⟩
        | cons _ _ => simp at this
    subst hu
    have hok := hj e [u] k2 k3
    rw [Nv.mem_false] at hok
    have ho' : o < c.size := by rw [g3]; simpa using ho
    have hcl : c = c.toList.toArray := by simp
    rw [hcl] at g2
    obtain ⟨w', hrun, q1, q2, q3, q4, q5, q6⟩ := run_storeCells_row (P := P) [u] 0 o c.toList w g2 (.inl rfl) (by simp; omega) k3
    have hsa : setAt c.toList (o + 0) [u] = c.toList.set o u := rfl
    refine ⟨w', e, ?_, hh.poolSet (c := (c.toList.set o u).toArray) hp h1 (by rw [q1, hsa]) (by simp [g3]) (by simpa using hpt _ _ _ g4 hok) q2 q3 q4 q5 q6, ⟨Nv.le.refl e, fun _ => Ro.le.refl _⟩, ?_, by rw [q2]; exact Nat.le_refl _⟩
    · have hsz : (a.eval y).cells.size = 1 := by rw [k1]; simp
      simp [exec1, execOp, h2, Instr.storeAt, Instr.sureAddr, storeVar, ht.run, hsz, k1, hrun]
    · intro b hb hne hq
      exact q6 b (fun hba => hq (by simp) (hba ▸ ⟨by rw [hp]; simp, i, h1⟩))
/-- Is it nil? -/
theorem q_eqlpP {t el yt : TypeId} {x : Operand} {b : Bool} {d : Option Nat} (ht : P.underlying t = some (.pointer el)) (hx : E.ev x = .ro (Rd.pp 0) b d) : Quiet P (.binOp .eql t x (.const (.pointer Option.none)) yt) ty E M [] (.lit (.bool d.isNone)) :=
  fun _ _ a _ e _ he => by
    have hv := he.ev x; rw [hx] at hv; simp only [Val, Rd.pp] at hv
    refine ⟨.bool d.isNone, by simp [Val], fun w _ => ?_⟩
    cases d with
    | none =>
      simp at hv
      simp only [exec1, execOp, hv, g_ptr, eval_const, Sem.run_bind, Sem.run_pure, Result.andThen, run_eql_nil ht]
      rfl
    | some k =>
      obtain ⟨ad, h1, h2⟩ := hv
      simp at h2
      simp only [exec1, execOp, h2, g_ptr, eval_const, Sem.run_bind, Sem.run_pure, Result.andThen, run_eql_ptr ht]
      rfl
theorem q_neqpP {t el yt : TypeId} {x : Operand} {b : Bool} {d : Option Nat} (ht : P.underlying t = some (.pointer el)) (hx : E.ev x = .ro (Rd.pp 0) b d) : Quiet P (.binOp .neq t x (.const (.pointer Option.none)) yt) ty E M [] (.lit (.bool d.isSome)) :=
  fun _ _ a _ e _ he => by
    have hv := he.ev x; rw [hx] at hv; simp only [Val, Rd.pp] at hv
    refine ⟨.bool d.isSome, by simp [Val], fun w _ => ?_⟩
    cases d with
    | none =>
      simp at hv
      simp only [exec1, execOp, hv, g_ptr, eval_const, Sem.run_bind, Sem.run_pure, Result.andThen, run_neq_nil ht]
      rfl
    | some k =>
      obtain ⟨ad, h1, h2⟩ := hv
      simp at h2
      simp only [exec1, execOp, h2, g_ptr, eval_const, Sem.run_bind, Sem.run_pure, Result.andThen, run_neq_ptr ht]
      rfl
end
end Go.Q
