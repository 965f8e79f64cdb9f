/- Calls by contract. -/
import Derived.Test.YtnbjdgamindikaaDoorQh
namespace Go.Q
open Go
set_option linter.unusedVariables false
set_option linter.unusedSimpArgs false

mutual
/-- Nothing in it is only borrowed. -/
def AVal.pers (q : Bool) : AVal → Bool
  | .ro _ b _ => q || !b
  | .fn _ l => persL q l
  | .agg l => persL q l
  | .tup l => persL q l
  | .ifc _ a => AVal.pers q a
  | _ => true
def persL (q : Bool) : List AVal → Bool
  | [] => true
  | a :: l => AVal.pers q a && persL q l
end
/-- No marks among them. -/
def noMarks (M : Mem) : Bool := (List.range M.n).all fun i => !(M.at_ i).mark
theorem noMarks_get {M : Mem} (h : noMarks M = true) {i : Nat} (hi : i < M.n) : (M.at_ i).mark = false := by
  have := List.all_eq_true.1 h i (List.mem_range.2 hi)
  simpa using this
def Chunk.pers (q : Bool) : Chunk → Bool
  | .cells _ l => persL q l
  | .obj _ => false
  | .bag => false
  | _ => true

/-- A naming within another. -/
structure Into (e e' : Nv) (q : Bool) (s : Nat → Nat) : Prop where
  mem : q = true → ∀ b, Ro.le (e.mem b) (e'.mem b)
  m : Ro.le e.m e'.m
  lt : ∀ j, j < e.n → s j < e'.n
  own : ∀ j, j < e.n → e'.own (s j) = e.own j
  caps : ∀ j, j < e.n → e'.caps (s j) = e.caps j
  lens : ∀ j, j < e.n → e'.lens (s j) = e.lens j
  vir : ∀ j, j < e.n → e'.vir (s j) = e.vir j

mutual
theorem Val.into {e e' : Nv} {q : Bool} {s : Nat → Nat} (h : Into e e' q s) : ∀ {a : AVal} {v : Value}, Val e a v → a.pers q = true → Val e' (a.ren s) v
  | .any, _, _, _ => by simp [AVal.ren, Val]
  | .lit _, _, k, _ => by simpa [AVal.ren, Val] using k
  | .ptr i off, v, k, _ => by
    simp only [Val] at k
    simp only [AVal.ren, Val, h.own i k.1, h.vir i k.1]
    exact ⟨h.lt i k.1, k.2⟩
  | .opt c i off, v, k, _ => by
    simp only [Val] at k
    simp only [AVal.ren, Val, h.own i k.1, h.vir i k.1]
    exact ⟨h.lt i k.1, k.2⟩
  | .whole i, v, k, _ => by
    simp only [Val] at k
    simp only [AVal.ren, Val, h.own i k.1, h.vir i k.1, h.lens i k.1, h.caps i k.1]
    exact ⟨h.lt i k.1, k.2⟩
  | .sl i sz off len, v, k, _ => by
    simp only [Val] at k
    simp only [AVal.ren, Val, h.own i k.1, h.vir i k.1, h.caps i k.1]
    exact ⟨h.lt i k.1, k.2⟩
  | .ro R b d, v, k, hp => by
    have hb : q = true ∨ b = false := by simpa [AVal.pers] using hp
    rcases hb with hb | hb
    · simp only [Val] at k
      simp only [AVal.ren, Val]
      exact R.mono (h.mem hb b) k
    · subst hb
      simp only [Val, Nv.mem_false] at k
      simp only [AVal.ren, Val, Nv.mem_false]
      exact R.mono h.m k
  | .fn f l, v, k, hp => by
    simp only [AVal.pers] at hp
    simp only [Val] at k
    obtain ⟨vs, h1, h2⟩ := k
    simp only [AVal.ren, Val]
    exact ⟨vs, h1, Vals.into h h2 hp⟩
  | .agg l, v, k, hp => by
    simp only [AVal.pers] at hp
    simp only [Val] at k
    obtain ⟨vs, h1, h2, h3⟩ := k
    simp only [AVal.ren, Val]
    exact ⟨vs, h1, Vals.into h h2 hp, h3⟩
  | .tup l, v, k, hp => by
    simp only [AVal.pers] at hp
    simp only [Val] at k
    obtain ⟨vs, h1, h2⟩ := k
    simp only [AVal.ren, Val]
    exact ⟨vs, h1, Vals.into h h2 hp⟩
  | .ifc t a, v, k, hp => by
    simp only [AVal.pers] at hp
    simp only [Val] at k
    obtain ⟨x, h1, h2⟩ := k
    simp only [AVal.ren, Val]
    exact ⟨x, h1, Val.into h h2 hp⟩
theorem Vals.into {e e' : Nv} {q : Bool} {s : Nat → Nat} (h : Into e e' q s) : ∀ {l : List AVal} {vs : List Value}, Vals e l vs → persL q l = true → Vals e' (renL s l) vs
  | [], _, k, _ => by simpa [renL, Vals] using k
  | a :: l, vs, k, hp => by
    simp only [persL, Bool.and_eq_true] at hp
    simp only [Vals] at k
    obtain ⟨v, ws, h1, h2, h3⟩ := k
    simp only [renL, Vals]
    exact ⟨v, ws, h1, Val.into h h2 hp.1, Vals.into h h3 hp.2⟩
end

theorem Chunk.into {e e' : Nv} {q : Bool} {s : Nat → Nat} {w : World} {j : Nat} {c : Chunk} (h : Into e e' q s) (hj : j < e.n) (k : c.ok e w j) (hp : c.pers q = true) : (c.ren s).ok e' w (s j) := by
  cases c with
  | gone => trivial
  | cells t l =>
    obtain ⟨h0, vs, h1, h2, h3⟩ := k
    exact ⟨(h.vir j hj).trans h0, vs, by rw [h.own j hj]; exact h1, Vals.into h h2 hp, h3⟩
  | row t R l =>
    obtain ⟨h1, h2, h3, h4⟩ := k
    refine ⟨(h.lens j hj).trans h1, by rw [h.caps j hj]; exact h2, by rw [h.caps j hj]; exact h3, ?_⟩
    rw [h.vir j hj, h.own j hj, h.caps j hj]
    cases hv : e.vir j with
    | true => rw [hv] at h4; simpa using h4
    | false =>
      rw [hv] at h4
      simp only [Bool.false_eq_true, if_false] at h4 ⊢
      obtain ⟨c, z, hb, hz, h5, h6⟩ := h4
      exact ⟨c, z, hb, hz, h5, rows_mono h.m h6⟩
  | obj o => exact ⟨(h.vir j hj).trans k.1, by rw [h.own j hj]; exact k.2⟩
  | bag => exact (h.vir j hj).trans k

theorem Chunk.live_into {e e' : Nv} {q : Bool} {s : Nat → Nat} {j : Nat} {c : Chunk} (h : Into e e' q s) (hj : j < e.n) : (c.ren s).live e' (s j) ↔ c.live e j := by
  cases c <;> simp [Chunk.live, Chunk.ren, h.vir j hj]

/-- At which place does a number stand? -/
def findAt : List Nat → Nat → Nat → Option Nat
  | [], _, _ => none
  | x :: l, i, k => bif Nat.beq x i then some k else findAt l i (k + 1)

theorem findAt_some : ∀ {l : List Nat} {i k j : Nat}, findAt l i k = some j → k ≤ j ∧ l[j - k]? = some i
  | [], _, _, _, h => by simp [findAt] at h
  | x :: l, i, k, j, h => by
    simp only [findAt] at h
    cases hb : Nat.beq x i with
    | true =>
      rw [hb] at h
      simp only [cond_true, Option.some.injEq] at h
      subst h
      have := Nat.eq_of_beq_eq_true hb
      subst this
      simp
    | false =>
      rw [hb] at h
      simp only [cond_false] at h
      obtain ⟨h1, h2⟩ := findAt_some h
      refine ⟨by omega, ?_⟩
      rw [show j - k = (j - (k + 1)) + 1 by omega]
      simpa using h2
theorem findAt_none : ∀ {l : List Nat} {i k : Nat}, findAt l i k = none → i ∉ l
  | [], _, _, _ => by simp
  | x :: l, i, k, h => by
    simp only [findAt] at h
    cases hb : Nat.beq x i with
    | true => rw [hb] at h; simp at h
    | false =>
      rw [hb] at h
      simp only [cond_false] at h
      have hx : x ≠ i := by intro hx; subst hx; simp at hb
      simp only [List.mem_cons, not_or]
      exact ⟨fun h => hx h.symm, findAt_none h⟩

/-- The memory behind a call: the callee's chunks under the caller's names. -/
def merge (M : Mem) (s t : List Nat) (M' : Mem) (N : Nat) : Mem :=
  ⟨N, fun i => match findAt t i 0 with
    | some j => (M'.at_ j).ren (sub t)
    | none => bif Nat.blt i M.n && !(findAt s i 0).isSome then M.at_ i else .gone⟩

/-- The names fit: s the caller's of the chunks handed in, t those of the chunks handed back. -/
def tauOk (s t : List Nat) (np n nc nc' N : Nat) : Bool :=
  Nat.beq s.length nc && Nat.beq t.length nc' && decide t.Nodup && Nat.ble np nc && Nat.ble np nc' && ((List.range np).all fun j => Nat.beq (sub t j) (sub s j)) &&
  ((List.range nc').all fun j => Nat.blt j np || Nat.ble n (sub t j)) && ((List.range nc').all fun j => Nat.blt (sub t j) N) && Nat.ble n N

/-- The naming in the callee: some chunks of our own only borrowed. -/
def Nv.lend (e : Nv) (w : World) (bor : List Nat) : Nv :=
  { e with bm := fun b => if (bor.any fun i => e.own i == b) then w.heap[b]? else e.bm b }

theorem sub_mem {l : List Nat} {j : Nat} (h : j < l.length) : sub l j ∈ l := by
  unfold sub
  rw [List.getD_eq_getElem?_getD, List.getElem?_eq_getElem h]
  simp

theorem mem_same {e e' : Nv} (hm : e'.m = e.m) (hb : Ro.le e.bm e'.bm) (b : Bool) : Ro.le (e.mem b) (e'.mem b) := by
  intro k o h
  unfold Nv.mem at *
  rw [hm]
  cases hk : e.m k with
  | some x => rw [hk] at h; exact h
  | none =>
    rw [hk] at h
    simp only at h ⊢
    split at h
    · rename_i hb'; rw [if_pos hb']; exact hb _ _ h
    · cases h

section
variable {cx : Cx} {e : Nv} {M Mc : Mem} {w : World}

/-- The chunks that are lent: those that have a block. -/
def lent (e : Nv) (bor : List Nat) : List Nat := bor.filter fun i => !e.vir i

/-- Of what is lent each is a live chunk, or a row without a block. -/
def borOk (M : Mem) (s bor : List Nat) : Prop := AllLt bor.length fun k => Nat.blt (bor.getD k 0) M.n = true ∧ (findAt s (bor.getD k 0) 0).isNone = true ∧ (match M.at_ (bor.getD k 0) with | .cells .. | .row .. => True | _ => False)

theorem borOk.get {s bor : List Nat} (h : borOk M s bor) {i : Nat} (hi : i ∈ bor) : i < M.n ∧ i ∉ s ∧ (match M.at_ i with | .cells .. | .row .. => True | _ => False) := by
  obtain ⟨k, hk, rfl⟩ := List.mem_iff_getElem.1 hi
  have := AllLt.get h hk
  rw [List.getD_eq_getElem?_getD, List.getElem?_eq_getElem hk] at this
  simp only [Option.getD_some] at this
  exact ⟨by simpa using this.1, findAt_none (by simpa using this.2.1), this.2.2⟩

theorem bor_live (hh : Hold cx e M w) {s bor : List Nat} (h : borOk M s bor) {i : Nat} (hi : i ∈ lent e bor) : i < e.n ∧ i ∉ s ∧ (M.at_ i).live e i := by
  obtain ⟨h1, h2⟩ := List.mem_filter.1 hi
  obtain ⟨g1, g2, g3⟩ := h.get h1
  refine ⟨by rw [hh.n]; exact g1, g2, ?_⟩
  cases hc : M.at_ i with
  | cells t l => trivial
  | row t R l => simpa [Chunk.live] using h2
  | gone => rw [hc] at g3; exact g3.elim
  | obj o => rw [hc] at g3; exact g3.elim
  | bag => rw [hc] at g3; exact g3.elim

/-- The naming in the callee. -/
def calleeNv (e : Nv) (w : World) (s bor : List Nat) (n : Nat) : Nv := (e.lend w (lent e bor)).re (sub s) n

theorem lend_bm (hh : Hold cx e M w) {s bor : List Nat} (h : borOk M s bor) : Ro.le e.bm (e.lend w (lent e bor)).bm := by
  intro b o hb
  simp only [Nv.lend]
  split
  · rename_i hany
    obtain ⟨i, hi, hib⟩ := List.any_eq_true.1 hany
    obtain ⟨g1, _, g3⟩ := bor_live hh h hi
    have := (hh.live i g1 g3).2.2.1
    rw [show e.own i = b by simpa using hib] at this
    rw [this] at hb; cases hb
  · exact hb

/-- The callee's beginning. -/
theorem Hold.enter (hh : Hold cx e M w) {s bor : List Nat} {np : Nat} (hM : LeM s 0 M Mc) (hnp' : (Nat.ble np Mc.n && noMarks Mc) = true) (hbor : borOk M s bor) :
    ∃ cx', Entry cx' np (calleeNv e w s bor Mc.n) Mc w ∧ Hold cx' (calleeNv e w s bor Mc.n) Mc w := by
  have hnp : Nat.ble np Mc.n = true := (Bool.and_eq_true_iff.1 hnp').1
  have hno : noMarks Mc = true := (Bool.and_eq_true_iff.1 hnp').2
  let e1 := calleeNv e w s bor Mc.n
  let cx' : Cx := { w0 := w, F := (fun b => ∃ i, i < Mc.n ∧ (Mc.at_ i).live e1 i ∧ e1.own i = b), m0 := e1.m, bm := e1.bm, np := np, nv0 := e1, tb := (fun g l h => by obtain ⟨c, t, z, h1, h2⟩ := cx.tb g l h; exact ⟨c, t, z, hh.m0 _ _ h1, h2⟩) }
  have slen : s.length = Mc.n := by simpa using hM.len
  have live_of : ∀ i, i < Mc.n → (Mc.at_ i).live e1 i → sub s i < e.n ∧ (M.at_ (sub s i)).live e (sub s i) ∧ sub s i ∈ s := by
    intro i hi hl
    rcases hM.ok.get hi with h0 | ⟨h1, h2, _⟩
    · rw [h0] at hl; exact hl.elim
    · refine ⟨by rw [hh.n]; simpa using h1, ?_, sub_mem (by omega)⟩
      rw [h2]
      have : (Mc.at_ i).live e1 i ↔ ((Mc.at_ i).ren (sub s)).live e (sub s i) := by cases Mc.at_ i <;> exact Iff.rfl
      exact this.1 hl
  have hle : e.le (e.lend w (lent e bor)) := ⟨Ro.le.refl _, lend_bm hh hbor, Nat.le_refl _, fun _ _ => rfl, fun _ _ => rfl, fun _ _ => rfl, fun _ _ => rfl, fun _ _ => rfl⟩
  refine ⟨cx', ⟨rfl, rfl, rfl, rfl, fun b => Iff.rfl⟩, ⟨rfl, rfl, Nat.le_refl _, rfl, rfl, rfl, fun _ _ _ => rfl, hh.ro, ?_, Ro.le.refl _, fun b o h => .inl h, ?_, ?_, ?_, (by show np ≤ Mc.n; simpa using hnp), fun i hi => ⟨rfl, rfl, rfl, rfl⟩,
    ⟨fun i hi hm => absurd hm (by rw [noMarks_get hno hi]; simp), fun i hi hm => absurd hm (by rw [noMarks_get hno hi]; simp), fun i hi hm => absurd hm (by rw [noMarks_get hno hi]; simp), fun i j hi hj hm => absurd hm (by rw [noMarks_get hno hi]; simp)⟩⟩⟩
  · intro b o hb
    have hb' : (if ((lent e bor).any fun i => e.own i == b) then w.heap[b]? else e.bm b) = some o := hb
    split at hb'
    · exact hb'
    · exact hh.bro b o hb'
  · intro i hi
    rcases hM.ok.get hi with h0 | ⟨h1, h2, h3⟩
    · rw [h0]; trivial
    · have h1' : sub s i < e.n := by rw [hh.n]; simpa using h1
      have hk := hh.ch (sub s i) h1'
      rw [h2] at hk
      exact Chunk.re (Chunk.ok_mono hle (mem_same rfl (lend_bm hh hbor)) h1' hk) h3
  · intro i hi hl
    obtain ⟨h1, h2, h3⟩ := live_of i hi hl
    have hli := hh.live _ h1 h2
    refine ⟨hli.1, hli.2.1, ?_, .inl ⟨i, hi, hl, rfl⟩⟩
    show (if ((lent e bor).any fun j => e.own j == e.own (sub s i)) then w.heap[e.own (sub s i)]? else e.bm (e.own (sub s i))) = none
    rw [if_neg, hli.2.2.1]
    intro hany
    obtain ⟨j, hj, hjb⟩ := List.any_eq_true.1 hany
    obtain ⟨g1, g2, g3⟩ := bor_live hh hbor hj
    have := hh.dist j (sub s i) g1 h1 g3 h2 (by simpa using hjb)
    subst this
    exact g2 h3
  · intro i j hi hj hli hlj hij
    obtain ⟨h1, h2, _⟩ := live_of i hi hli
    obtain ⟨h3, h4, _⟩ := live_of j hj hlj
    exact hM.inj' hi hj (hh.dist _ _ h1 h3 h2 h4 hij)

/-- What the caller holds behind the call. -/
theorem Hold.leave (hh : Hold cx e M w) {s t bor : List Nat} {np N : Nat} {cx' : Cx} {Mc' : Mem} {e' : Nv} {w' : World} (hM : LeM s 0 M Mc) (hbor : borOk M s bor) (hent : Entry cx' np (calleeNv e w s bor Mc.n) Mc w) (hin : Hold cx' (calleeNv e w s bor Mc.n) Mc w) (hh' : Hold cx' e' Mc' w')
    (htau : tauOk s t np M.n Mc.n Mc'.n N = true) (hp : AllLt Mc'.n fun j => (Mc'.at_ j).pers bor.isEmpty = true) :
    ∃ e2, Hold cx e2 (merge M s t Mc' N) w' ∧ (e.le e2 ∧ ∀ b, Ro.le (e.mem b) (e2.mem b)) ∧ Into e' e2 bor.isEmpty (sub t) ∧ (∀ b, b < w.heap.size → (∀ i ∈ s, i < e.n → (M.at_ i).live e i → e.own i ≠ b) → w'.heap[b]? = w.heap[b]?) ∧ w.heap.size ≤ w'.heap.size := by
  simp only [tauOk, Bool.and_eq_true, Nat.beq_eq, decide_eq_true_eq, Nat.ble_eq, List.all_eq_true, List.mem_range, Bool.or_eq_true, Nat.blt_eq] at htau
  obtain ⟨⟨⟨⟨⟨⟨⟨⟨t1, t2⟩, t3⟩, t4⟩, t5⟩, t6⟩, t7⟩, t8⟩, t9⟩ := htau
  have hw0 := hent.w0
  have hF := hent.F
  have tinj : ∀ {i j}, i < Mc'.n → j < Mc'.n → sub t i = sub t j → i = j := by
    intro i j hi hj hij
    unfold sub at hij
    rw [List.getD_eq_getElem?_getD, List.getD_eq_getElem?_getD, List.getElem?_eq_getElem (by omega), List.getElem?_eq_getElem (by omega)] at hij
    simp only [Option.getD_some] at hij
    have hp := List.pairwise_iff_getElem.1 t3
    rcases Nat.lt_trichotomy i j with h1 | h1 | h1
    · exact absurd hij (hp i j (by omega) (by omega) h1)
    · exact h1
    · exact absurd hij.symm (hp j i (by omega) (by omega) h1)
  have find_t : ∀ j, j < Mc'.n → findAt t (sub t j) 0 = some j := by
    intro j hj
    cases hf : findAt t (sub t j) 0 with
    | none => exact absurd (sub_mem (by omega)) (findAt_none hf)
    | some k =>
      obtain ⟨_, h2⟩ := findAt_some hf
      have hk : k < Mc'.n := by have := (List.getElem?_eq_some_iff.1 h2).1; omega
      have : sub t k = sub t j := by unfold sub; rw [List.getD_eq_getElem?_getD]; simp only [Nat.sub_zero] at h2; rw [h2]; rfl
      rw [tinj hk hj this]
  have find_lt : ∀ {i j}, findAt t i 0 = some j → j < Mc'.n ∧ sub t j = i := by
    intro i j hf
    obtain ⟨_, h2⟩ := findAt_some hf
    simp only [Nat.sub_zero] at h2
    refine ⟨by have := (List.getElem?_eq_some_iff.1 h2).1; omega, ?_⟩
    unfold sub; rw [List.getD_eq_getElem?_getD, h2]; rfl
  -- blocks of the callee's beginning
  have F_old : ∀ b, cx'.F b → ∃ i, i ∈ s ∧ i < e.n ∧ (M.at_ i).live e i ∧ e.own i = b := by
    intro b hb
    obtain ⟨i, hi, hl, ho⟩ := (hF b).1 hb
    rcases hM.ok.get hi with h0 | ⟨h1, h2, _⟩
    · rw [h0] at hl; exact hl.elim
    · refine ⟨sub s i, sub_mem (by have : s.length = Mc.n := t1; omega), by rw [hh.n]; simpa using h1, ?_, ho⟩
      rw [h2]
      have : (Mc.at_ i).live (calleeNv e w s bor Mc.n) i ↔ ((Mc.at_ i).ren (sub s)).live e (sub s i) := by cases Mc.at_ i <;> exact Iff.rfl
      exact this.1 hl
  have hsz : w.heap.size ≤ w'.heap.size := by have := hh'.size; rw [hw0] at this; exact this
  have hframe : ∀ b, b < w.heap.size → (∀ i ∈ s, i < e.n → (M.at_ i).live e i → e.own i ≠ b) → w'.heap[b]? = w.heap[b]? := by
    intro b hb hne
    have := hh'.frame b (by rw [hw0]; exact hb) (fun hFb => by
      obtain ⟨i, h1, h2, h3, h4⟩ := F_old b hFb
      exact hne i h1 h2 h3 h4)
    rw [hw0] at this; exact this
  have hmle : Ro.le e.m e'.m := by
    have := hh'.m0
    rw [hent.m0] at this
    exact this
  have mnew : ∀ b o, e'.m b = some o → e.m b = some o ∨ (∃ i, i ∈ s ∧ i < e.n ∧ (M.at_ i).live e i ∧ e.own i = b) ∨ w.heap.size ≤ b := by
    intro b o hb
    rcases hh'.mnew b o hb with h | h | h
    · rw [hent.m0] at h; exact .inl h
    · exact .inr (.inl (F_old b h))
    · rw [hw0] at h; exact .inr (.inr h)
  have bmle : ∀ b o, e.bm b = some o → w'.heap[b]? = some o := by
    intro b o hb
    refine hh'.bro b o ?_
    rw [hh'.bm, ← hin.bm]
    exact lend_bm hh hbor b o hb
  let e2 : Nv := { m := e'.m, bm := e.bm, own := fun i => match findAt t i 0 with | some j => e'.own j | none => e.own i, caps := fun i => match findAt t i 0 with | some j => e'.caps j | none => e.caps i,
                   lens := fun i => match findAt t i 0 with | some j => e'.lens j | none => e.lens i, vir := fun i => match findAt t i 0 with | some j => e'.vir j | none => e.vir i, n := N, bag := e.bag }
  have hnp' : cx'.np = np := hent.np
  have pinned : ∀ j, j < np → e'.own j = e.own (sub t j) ∧ e'.caps j = e.caps (sub t j) ∧ e'.lens j = e.lens (sub t j) ∧ e'.vir j = e.vir (sub t j) := by
    intro j hj
    have h := hh'.pin j (by rw [hnp']; exact hj)
    rw [hent.nv0] at h
    have hst : sub t j = sub s j := t6 j hj
    rw [hst]
    exact h
  have same : ∀ i, i < e.n → e2.own i = e.own i ∧ e2.caps i = e.caps i ∧ e2.lens i = e.lens i ∧ e2.vir i = e.vir i := by
    intro i hi
    show (match findAt t i 0 with | some j => e'.own j | none => e.own i) = _ ∧ (match findAt t i 0 with | some j => e'.caps j | none => e.caps i) = _ ∧ (match findAt t i 0 with | some j => e'.lens j | none => e.lens i) = _ ∧ (match findAt t i 0 with | some j => e'.vir j | none => e.vir i) = _
    cases hf : findAt t i 0 with
    | none => exact ⟨rfl, rfl, rfl, rfl⟩
    | some j =>
      obtain ⟨h1, h2⟩ := find_lt hf
      have hj : j < np := by
        rcases t7 j h1 with h | h
        · exact h
        · rw [h2, ← hh.n] at h; omega
      have := pinned j hj
      rw [h2] at this
      exact this
  have hq : bor.isEmpty = true → ∀ b, Ro.le (e'.mem b) (e2.mem b) := by
    intro hb b
    have hb0 : bor = [] := by simpa using hb
    have h1 : e'.bm = e2.bm := by
      have h2 : (calleeNv e w s bor Mc.n).bm = e.bm := by
        subst hb0
        funext k
        simp [calleeNv, Nv.re, Nv.lend, lent]
      show e'.bm = e.bm
      rw [hh'.bm, ← hin.bm, h2]
    exact mem_same (e := e') (e' := e2) rfl (by rw [h1]; exact Ro.le.refl _) b
  have hinto : Into e' e2 bor.isEmpty (sub t) := by
    refine ⟨hq, Ro.le.refl _, fun j hj => t8 j (by rw [← hh'.n]; exact hj), ?_, ?_, ?_, ?_⟩ <;>
      (intro j hj
       have := find_t j (by rw [← hh'.n]; exact hj)
       simp only [e2, this])
  have hle : e.le e2 := ⟨hmle, Ro.le.refl _, by show e.n ≤ N; rw [hh.n]; exact t9, fun i hi => (same i hi).1, fun i hi => (same i hi).2.1, fun i hi => (same i hi).2.2.1, fun i hi => (same i hi).2.2.2, fun _ _ => rfl⟩
  have hmem : ∀ b, Ro.le (e.mem b) (e2.mem b) := fun b => Nv.mem_le hle (fun k x y hx _ hy => by
    have h1 := hh'.ro k x hx
    rw [bmle k y hy] at h1
    cases h1; rfl) b
  -- what is neither lent for good nor handed back stands as it stood
  have keep : ∀ i, i < e.n → i ∉ s → (M.at_ i).live e i → w'.heap[e.own i]? = w.heap[e.own i]? := by
    intro i hi hs hl
    refine hframe _ (hh.live i hi hl).1 fun j hj hjn hjl hij => ?_
    have := hh.dist j i hjn hi hjl hl hij
    subst this
    exact hs hj
  have at_some : ∀ {i j}, findAt t i 0 = some j → (merge M s t Mc' N).at_ i = (Mc'.at_ j).ren (sub t) := by
    intro i j hf; simp only [merge, hf]
  have at_none : ∀ {i}, findAt t i 0 = none → ((merge M s t Mc' N).at_ i = .gone ∨ (i < e.n ∧ i ∉ s ∧ (merge M s t Mc' N).at_ i = M.at_ i)) := by
    intro i hf
    simp only [merge, hf]
    cases hb : (Nat.blt i M.n && !(findAt s i 0).isSome) with
    | false => left; rfl
    | true =>
      right
      simp only [Bool.and_eq_true, Nat.blt_eq, Bool.not_eq_true', Option.isSome_eq_false_iff, Option.isNone_iff_eq_none] at hb
      exact ⟨by rw [hh.n]; exact hb.1, findAt_none hb.2, rfl⟩
  have own_some : ∀ {i j}, findAt t i 0 = some j → e2.own i = e'.own j := by intro i j hf; simp only [e2, hf]
  have live_some : ∀ {i j}, findAt t i 0 = some j → ((merge M s t Mc' N).at_ i).live e2 i → (Mc'.at_ j).live e' j := by
    intro i j hf hl
    obtain ⟨h1, h2⟩ := find_lt hf
    rw [at_some hf, ← h2] at hl
    exact (Chunk.live_into hinto (by rw [hh'.n]; exact h1)).1 hl
  have live_none : ∀ {i}, findAt t i 0 = none → ((merge M s t Mc' N).at_ i).live e2 i → i < e.n ∧ i ∉ s ∧ (M.at_ i).live e i := by
    intro i hf hl
    rcases at_none hf with h | ⟨h1, h2, h3⟩
    · rw [h] at hl; exact hl.elim
    · rw [h3] at hl
      exact ⟨h1, h2, (live_congr (same i h1).2.2.2).1 hl⟩
  have mk : ∀ i, i < N → ((merge M s t Mc' N).at_ i).mark = true → findAt t i 0 = none ∧ i < e.n ∧ i ∉ s ∧ (M.at_ i).mark = true := by
    intro i hi hm
    cases hf : findAt t i 0 with
    | some j =>
      obtain ⟨h1, _⟩ := find_lt hf
      rw [at_some hf] at hm
      have hpj := hp.get h1
      cases hc : Mc'.at_ j with
      | obj o => rw [hc] at hpj; cases hpj
      | bag => rw [hc] at hpj; cases hpj
      | gone => rw [hc] at hm; cases hm
      | cells t l => rw [hc] at hm; cases hm
      | row t R l => rw [hc] at hm; cases hm
    | none =>
      rcases at_none hf with h | ⟨h1, h2, h3⟩
      · rw [h] at hm; cases hm
      · rw [h3] at hm; exact ⟨rfl, h1, h2, hm⟩
  have hbag : BagOk cx e2 (merge M s t Mc' N) w' := by
    refine ⟨fun i hi hm => ?_, fun i hi hm x hx => ?_, fun i hi hm x hx j hj hlj => ?_, fun i j hi hj hmi hmj hij x hx => ?_⟩
    · obtain ⟨_, h1, _, h2⟩ := mk i hi hm
      exact hh.bag.nodup i h1 h2
    · obtain ⟨_, h1, _, h2⟩ := mk i hi hm
      obtain ⟨g1, g2, g3, g4⟩ := hh.bag.at_ i h1 h2 x hx
      have hlt : x < w.heap.size := (Array.getElem?_eq_some_iff.1 g1).1
      refine ⟨?_, ?_, g3, g4⟩
      · rw [hframe x hlt fun k hk hn hl hkx => hh.bag.own i h1 h2 x hx k hn hl hkx]
        exact g1
      · cases hy : e'.m x with
        | none => rfl
        | some o =>
          exfalso
          rcases mnew _ o hy with h5 | ⟨k, hk, hn, hlk, hkb⟩ | h5
          · rw [g2] at h5; cases h5
          · exact hh.bag.own i h1 h2 x hx k hn hlk hkb
          · omega
    · obtain ⟨_, h1, _, h2⟩ := mk i hi hm
      have hlt : x < w.heap.size := (Array.getElem?_eq_some_iff.1 (hh.bag.at_ i h1 h2 x hx).1).1
      cases hf : findAt t j 0 with
      | some j' =>
        obtain ⟨g1, _⟩ := find_lt hf
        rw [own_some hf]
        have h := hh'.live j' (by rw [hh'.n]; exact g1) (live_some hf hlj)
        rcases h.2.2.2 with h5 | h5
        · obtain ⟨k, _, hn, hlk, hkb⟩ := F_old _ h5
          rw [← hkb]; exact hh.bag.own i h1 h2 x hx k hn hlk
        · rw [hw0] at h5; omega
      | none =>
        obtain ⟨g1, g2, g3⟩ := live_none hf hlj
        rw [(same j g1).1]
        exact hh.bag.own i h1 h2 x hx j g1 g3
    · obtain ⟨_, h1, _, h2⟩ := mk i hi hmi
      obtain ⟨_, h3, _, h4⟩ := mk j hj hmj
      exact hh.bag.dist i j h1 h3 h2 h4 hij x hx
  refine ⟨e2, ⟨?_, rfl, ?_, ?_, ?_, ?_, ?_, ?_, ?_, ?_, ?_, ?_, ?_, ?_, ?_, ?_, hbag⟩, ⟨hle, hmem⟩, hinto, fun b hb hne => hframe b hb hne, hsz⟩
  · exact hh.bm
  · exact Nat.le_trans hh.size hsz
  · have := hh'.os; rw [hw0] at this; exact this.trans hh.os
  · have := hh'.tape; rw [hw0] at this; exact this.trans hh.tape
  · have := hh'.output; rw [hw0] at this; exact this.trans hh.output
  · intro b hb hFb
    rw [hframe b (Nat.lt_of_lt_of_le hb hh.size) fun i _ hn hl hib => by
      rcases (hh.live i hn hl).2.2.2 with h | h
      · rw [hib] at h; exact hFb h
      · omega]
    exact hh.frame b hb hFb
  · exact hh'.ro
  · exact bmle
  · exact hh.m0.trans hmle
  · intro b o hb
    rcases mnew b o hb with h | ⟨i, _, hn, hl, hib⟩ | h
    · exact hh.mnew b o h
    · rw [← hib]; exact .inr (hh.live i hn hl).2.2.2
    · exact .inr (.inr (Nat.le_trans hh.size h))
  · intro i hi
    cases hf : findAt t i 0 with
    | some j =>
      obtain ⟨h1, h2⟩ := find_lt hf
      rw [at_some hf, ← h2]
      exact Chunk.into hinto (by rw [hh'.n]; exact h1) (hh'.ch j (by rw [hh'.n]; exact h1)) (hp.get h1)
    | none =>
      rcases at_none hf with h | ⟨h1, h2, h3⟩
      · rw [h]; trivial
      · rw [h3]
        exact Chunk.ok_mono hle hmem h1 (Chunk.ok_congr (hh.ch i h1) fun hl => keep i h1 h2 hl)
  · intro i hi hl
    cases hf : findAt t i 0 with
    | some j =>
      obtain ⟨h1, h2⟩ := find_lt hf
      rw [own_some hf]
      have h := hh'.live j (by rw [hh'.n]; exact h1) (live_some hf hl)
      refine ⟨h.1, h.2.1, ?_, ?_⟩
      · cases hx : e.bm (e'.own j) with
        | none => rfl
        | some o =>
          exfalso
          have h3 := lend_bm hh hbor _ o hx
          have h4 : (calleeNv e w s bor Mc.n).bm (e'.own j) = some o := h3
          rw [hin.bm, ← hh'.bm, h.2.2.1] at h4
          cases h4
      · rcases h.2.2.2 with h5 | h5
        · obtain ⟨k, _, hn, hlk, hkb⟩ := F_old _ h5
          rw [← hkb]; exact (hh.live k hn hlk).2.2.2
        · rw [hw0] at h5; exact .inr (Nat.le_trans hh.size h5)
    | none =>
      obtain ⟨h1, h2, h3⟩ := live_none hf hl
      have h := hh.live i h1 h3
      rw [(same i h1).1]
      refine ⟨Nat.lt_of_lt_of_le h.1 hsz, ?_, h.2.2⟩
      cases hx : e'.m (e.own i) with
      | none => rfl
      | some o =>
        exfalso
        rcases mnew _ o hx with h5 | ⟨k, hk, hn, hlk, hkb⟩ | h5
        · rw [h.2.1] at h5; cases h5
        · have := hh.dist k i hn h1 hlk h3 hkb
          subst this; exact h2 hk
        · omega
  · intro i j hi hj hli hlj hij
    cases hfi : findAt t i 0 with
    | some a =>
      obtain ⟨ha1, ha2⟩ := find_lt hfi
      rw [own_some hfi] at hij
      have hla := live_some hfi hli
      cases hfj : findAt t j 0 with
      | some b =>
        obtain ⟨hb1, hb2⟩ := find_lt hfj
        rw [own_some hfj] at hij
        have := hh'.dist a b (by rw [hh'.n]; exact ha1) (by rw [hh'.n]; exact hb1) hla (live_some hfj hlj) hij
        subst this
        rw [← ha2, ← hb2]
      | none =>
        obtain ⟨h1, h2, h3⟩ := live_none hfj hlj
        rw [(same j h1).1] at hij
        exfalso
        rcases (hh'.live a (by rw [hh'.n]; exact ha1) hla).2.2.2 with h5 | h5
        · obtain ⟨k, hk, hn, hlk, hkb⟩ := F_old _ h5
          have := hh.dist k j hn h1 hlk h3 (hkb.trans hij)
          subst this; exact h2 hk
        · rw [hw0, hij] at h5; have := (hh.live j h1 h3).1; omega
    | none =>
      obtain ⟨g1, g2, g3⟩ := live_none hfi hli
      rw [(same i g1).1] at hij
      cases hfj : findAt t j 0 with
      | some b =>
        obtain ⟨hb1, hb2⟩ := find_lt hfj
        rw [own_some hfj] at hij
        exfalso
        rcases (hh'.live b (by rw [hh'.n]; exact hb1) (live_some hfj hlj)).2.2.2 with h5 | h5
        · obtain ⟨k, hk, hn, hlk, hkb⟩ := F_old _ h5
          have := hh.dist k i hn g1 hlk g3 (hkb.trans hij.symm)
          subst this; exact g2 hk
        · rw [hw0, ← hij] at h5; have := (hh.live i g1 g3).1; omega
      | none =>
        obtain ⟨h1, h2, h3⟩ := live_none hfj hlj
        rw [(same j h1).1] at hij
        exact hh.dist i j g1 h1 g3 h3 hij
  · show cx.np ≤ N
    exact Nat.le_trans hh.np (by rw [hh.n]; exact t9)
  · intro i hi
    have hi' : i < e.n := Nat.lt_of_lt_of_le hi hh.np
    have := same i hi'
    rw [this.1, this.2.1, this.2.2.1, this.2.2.2]
    exact hh.pin i hi
end
end Go.Q
