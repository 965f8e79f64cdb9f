/- Arrays among cells of our own and as data; rows cut; interfaces made; an append of made elements onto nil. -/
import Derived.Test.YtnbjdgamindikaaDoorQq
namespace Go.Q
open Go
set_option linter.unusedVariables false
set_option linter.unusedSimpArgs false

/-- The cells of an array: what stands in them. -/
def arrL.{u} {α : Type u} (f : α → AVal) (d0 : α) (xs : List α) : Nat → Nat → List AVal
  | 0, _ => []
  | n + 1, k => f (xs.getD k d0) :: arrL f d0 xs n (k + 1)
/-- An array's elements, one of them set. -/
def setD.{u} {α : Type u} (d0 : α) (xs : List α) (n j : Nat) (v : α) : List α := (List.range n).map fun i => if i = j then v else xs.getD i d0
/-- An array's elements: just so many. -/
def fixD.{u} {α : Type u} (d0 : α) (xs : List α) (n : Nat) : List α := (List.range n).map fun i => xs.getD i d0

theorem arrL_length.{u} {α : Type u} {f : α → AVal} {d0 : α} {xs : List α} : ∀ {n k : Nat}, (arrL f d0 xs n k).length = n
  | 0, _ => rfl
  | n + 1, k => by simp [arrL, arrL_length]
theorem arrL_get.{u} {α : Type u} {f : α → AVal} {d0 : α} {xs : List α} : ∀ {n k i : Nat}, i < n → (arrL f d0 xs n k)[i]? = some (f (xs.getD (k + i) d0))
  | 0, _, _, h => absurd h (Nat.not_lt_zero _)
  | n + 1, k, 0, _ => by simp [arrL]
  | n + 1, k, i + 1, h => by
    rw [arrL, List.getElem?_cons_succ, arrL_get (by omega), show k + 1 + i = k + (i + 1) by omega]
theorem setD_get.{u} {α : Type u} {d0 : α} {xs : List α} {n j i : Nat} {v : α} (h : i < n) : (setD d0 xs n j v).getD i d0 = if i = j then v else xs.getD i d0 := by
  simp [setD, List.getD_eq_getElem?_getD, List.getElem?_map, List.getElem?_range h]
theorem setD_length.{u} {α : Type u} {d0 : α} {xs : List α} {n j : Nat} {v : α} : (setD d0 xs n j v).length = n := by simp [setD]
theorem fixD_get.{u} {α : Type u} {d0 : α} {xs : List α} {n i : Nat} (h : i < n) : (fixD d0 xs n)[i]? = some (xs.getD i d0) := by simp [fixD, h]
theorem fixD_length.{u} {α : Type u} {d0 : α} {xs : List α} {n : Nat} : (fixD d0 xs n).length = n := by simp [fixD]
theorem setD_eq.{u} {α : Type u} {d0 : α} {xs : List α} {n j : Nat} {v : α} (h : xs.length = n) : setD d0 xs n j v = xs.set j v := by
  apply List.ext_getElem?
  intro i
  rw [List.getElem?_set]
  by_cases hi : i < n
  · simp only [setD, List.getElem?_map, List.getElem?_range hi, Option.map_some]
    by_cases hij : i = j
    · subst hij; simp [h, hi]
    · rw [if_neg hij, if_neg (fun h => hij h.symm), List.getD_eq_getElem?_getD, List.getElem?_eq_getElem (by omega)]; simp
  · rw [List.getElem?_eq_none (by simp [setD]; omega)]
    split
    · split
      · omega
      · rfl
    · rw [List.getElem?_eq_none (by omega)]
theorem fixD_eq.{u} {α : Type u} {d0 : α} {xs : List α} {n : Nat} (h : xs.length = n) : fixD d0 xs n = xs := by
  apply List.ext_getElem?
  intro i
  by_cases hi : i < n
  · rw [fixD_get hi, List.getD_eq_getElem?_getD, List.getElem?_eq_getElem (by omega)]; simp
  · rw [List.getElem?_eq_none (by rw [fixD_length]; omega), List.getElem?_eq_none (by omega)]
theorem arrL_set.{u} {α : Type u} {f : α → AVal} {d0 : α} {xs : List α} {n j : Nat} {v : α} : arrL f d0 (setD d0 xs n j v) n 0 = (arrL f d0 xs n 0).set j (f v) := by
  apply List.ext_getElem?
  intro i
  rw [List.getElem?_set]
  by_cases hi : i < n
  · rw [arrL_get hi, arrL_get hi, Nat.zero_add, setD_get hi]
    by_cases hij : i = j
    · subst hij; simp [arrL_length, hi]
    · rw [if_neg hij, if_neg (fun h => hij h.symm)]
  · rw [List.getElem?_eq_none (by rw [arrL_length]; omega), List.getElem?_eq_none (by rw [arrL_length]; omega)]
    split
    · split
      · rename_i h; rw [arrL_length] at h; omega
      · rfl
    · rfl

theorem addone (a b : Nat) : a + b * 1 = a + b := by rw [Nat.mul_one]
theorem natlt {i : Int} {n : Nat} (h : decide (0 ≤ i ∧ i < (n : Int)) = true) : decide (i.toNat < n) = true := by
  have := of_decide_eq_true h
  exact decide_eq_true (by omega)

section
variable {P : Program} {ty : TypeId} {E : Env} {M : Mem}

theorem run_indexAt_ar {t el : TypeId} {n sz : Nat} (h : ArIs P t el n sz) (b o : Nat) (k : IntKind) (i : Int) (h0 : 0 ≤ i) (h1 : i < n) (w : World) :
    (Instr.indexAt t (.pointer (some ⟨b, o, Option.none⟩)) (.int k i)).run P w = .ok (.pointer (some ⟨b, o + i.toNat * sz, Option.none⟩)) w := by
  simp [Instr.indexAt, run_underlying h.t, h0, h1, h.e.run, add_at, asIntOf, Instr.sureAddr]

/-- The address of an array's element. -/
theorem q_indexArr {t el : TypeId} {n sz i off o : Nat} {x y : Operand} {k : IntKind} {j : Int} (h : ArIs P t el n sz) (hx : E.ev x = .ptr i off) (hy : E.ev y = .lit (.int k j)) (hj : decide (0 ≤ j ∧ j < n) = true) (ho : off + j.toNat * sz = o) :
    Quiet P (.indexAddr t x y) ty E M [] (.ptr i o) :=
  fun _ _ a w e hh he => by
    subst ho
    have hv := he.ev x; rw [hx] at hv; simp only [Val] at hv
    obtain ⟨h0, h1⟩ := of_decide_eq_true hj
    refine ⟨.pointer (some ⟨e.own i, off + j.toNat * sz, Option.none⟩), by simp [Val, hv.1, hv.2.1], fun w1 hw => ?_⟩
    have := run_indexAt_ar h (e.own i) off k j h0 h1 w1
    simp [exec1, execOp, hv.2.2, ev_lit he hy, this]

theorem arr_at.{u} {α : Type u} {f : α → AVal} {d0 : α} {xs : List α} {n off j : Nat} {l : List AVal} (hl : (l.drop off).take n = arrL f d0 xs n 0) (hj : j < n) : l[off + j]? = some (f (xs.getD j d0)) := by
  have := arrL_get (f := f) (d0 := d0) (xs := xs) (k := 0) hj
  rw [← hl, List.getElem?_take_of_lt hj, List.getElem?_drop, Nat.zero_add] at this
  exact this

theorem q_load_arr.{u} {α : Type u} {f : α → AVal} {d0 : α} {xs : List α} {n off o j i : Nat} {t ct : TypeId} {x : Operand} {l : List AVal} (ht : Sc P t) (hx : E.ev x = .ptr i o) (hc : M.at_ i = .cells ct l) (hl : (l.drop off).take n = arrL f d0 xs n 0) (hj : decide (j < n) = true) (ho : o = off + j) :
    Quiet P (.load t x) ty E M [i] (f (xs.getD j d0)) := by
  subst ho
  exact q_load ht hx hc (arr_at hl (of_decide_eq_true hj))

theorem s_store_arr.{u} {α : Type u} {f : α → AVal} {d0 v : α} {xs : List α} {n off o j i : Nat} {t ct : TypeId} {x y : Operand} {l l2 : List AVal} (ht : SzIs P t 1) (hx : E.ev x = .ptr i o) (hc : M.at_ i = .cells ct l) (hr : (E.ev y).cells = some [f v])
    (hl : (l.drop off).take n = arrL f d0 xs n 0) (hl2 : l.take off ++ (arrL f d0 (setD d0 xs n j v) n 0 ++ l.drop (off + n)) = l2) (hj : decide (j < n) = true) (ho : o = off + j) : DoesS P (.store t x y) ty E M [i] (M.set i (.cells ct l2)) := by
  subst ho
  have hj' := of_decide_eq_true hj
  have hlen : off + n ≤ l.length := by
    have := congrArg List.length hl
    rw [arrL_length, List.length_take, List.length_drop] at this
    omega
  have e2 : l2 = setAt l (off + j) [f v] := by
    rw [← hl2, arrL_set, ← hl]
    simp only [setAt]
    apply List.ext_getElem?
    intro q
    rw [List.getElem?_set]
    rcases Nat.lt_or_ge q off with h1 | h1
    · rw [List.getElem?_append_left (by simp; omega), List.getElem?_take_of_lt h1, if_neg (by omega)]
    · rw [List.getElem?_append_right (by simp; omega), List.length_take, Nat.min_eq_left (by omega)]
      rcases Nat.lt_or_ge q (off + n) with h2 | h2
      · rw [List.getElem?_append_left (by rw [List.length_set, List.length_take, List.length_drop]; omega), List.getElem?_set]
        by_cases hq : j = q - off
        · rw [if_pos hq, if_pos (by rw [List.length_take, List.length_drop]; omega), if_pos (by omega), if_pos (by omega)]
        · rw [if_neg hq, if_neg (by omega), List.getElem?_take_of_lt (by omega), List.getElem?_drop]
          congr 1; omega
      · rw [List.getElem?_append_right (by rw [List.length_set, List.length_take, List.length_drop]; omega), if_neg (by omega), List.getElem?_drop, List.length_set, List.length_take, List.length_drop]
        congr 1; omega
  rw [e2]
  exact s_store ht hx hc hr rfl (by rw [Nat.ble_eq]; omega)

/-- An array that is only read. -/
def Rd.array {α : Type} (n : Nat) (A : Rd α) (d0 : α) : Rd (List α) where
  sz := n * A.sz
  ok m l cs := cs.length = n * A.sz ∧ ∀ j, j < n → A.ok m (l.getD j d0) ((cs.drop (j * A.sz)).take A.sz)
  mono hm h := ⟨h.1, fun j hj => A.mono hm (h.2 j hj)⟩
  len h := h.1
  one := by
    rintro m d cs ⟨h1, h2⟩ v hv
    obtain ⟨k, hk, rfl⟩ := List.mem_iff_getElem.1 hv
    have hz : 0 < A.sz := by
      rcases Nat.eq_zero_or_pos A.sz with h | h
      · rw [h1, h] at hk; simp at hk
      · exact h
    have hkn : k / A.sz < n := Nat.div_lt_of_lt_mul (by rw [Nat.mul_comm, ← h1]; exact hk)
    refine A.one (h2 (k / A.sz) hkn) _ ?_
    have hkm := Nat.mod_lt k hz
    have e1 : k / A.sz * A.sz + k % A.sz = k := by rw [Nat.mul_comm]; exact Nat.div_add_mod k A.sz
    refine List.mem_iff_getElem?.2 ⟨k % A.sz, ?_⟩
    rw [List.getElem?_take_of_lt hkm, List.getElem?_drop, e1, List.getElem?_eq_getElem hk]

theorem Rd.flat_array {α : Type} {n : Nat} {A : Rd α} {d0 : α} (h : A.flat) : (Rd.array n A d0).flat := fun m m' d cs k => ⟨k.1, fun j hj => h m m' _ _ (k.2 j hj)⟩

theorem Splits.arr {α : Type} {f : α → Value} {hf : ∀ x, (f x).oneCell' = true} {b : Bool} {n : Nat} {d : List α} {d0 : α} : Splits (Rd.array n (Rd.sc f hf) d0) b d (arrL (fun x => .lit (f x)) d0 d n 0) := fun e cs h => by
  obtain ⟨h1, h2⟩ := h
  have key : ∀ (n k : Nat) (cs : List Value), cs.length = n → (∀ j, j < n → cs[j]? = some (f (d.getD (k + j) d0))) → Vals e (arrL (fun x => .lit (f x)) d0 d n k) cs := by
    intro n
    induction n with
    | zero => intro k cs hc _; have : cs = [] := by simpa using hc
              simp [arrL, Vals, this]
    | succ n ih =>
      intro k cs hc hg
      cases cs with
      | nil => simp at hc
      | cons v cs =>
        simp only [arrL, Vals]
        refine ⟨v, cs, rfl, ?_, ih (k + 1) cs (by simpa using hc) fun j hj => ?_⟩
        · have := hg 0 (by omega); simp at this; simp [Val, this]
        · have := hg (j + 1) (by omega)
          rw [List.getElem?_cons_succ] at this
          rw [this, show k + 1 + j = k + (j + 1) by omega]
  have hz : (Rd.sc f hf).sz = 1 := rfl
  refine key n 0 cs (by rw [h1, hz, Nat.mul_one]) fun j hj => ?_
  have := h2 j hj
  simp only [Rd.sc] at this
  have h3 := congrArg (·[0]?) this
  simp only [List.getElem?_cons_zero] at h3
  rw [List.getElem?_take_of_lt (by decide), List.getElem?_drop] at h3
  rw [Nat.zero_add]
  simpa using h3

theorem Joins.arr {α : Type} {f : α → Value} {hf : ∀ x, (f x).oneCell' = true} {b : Bool} {n : Nat} {d : List α} {d0 : α} : Joins (Rd.array n (Rd.sc f hf) d0) b d (arrL (fun x => .lit (f x)) d0 d n 0) := fun e cs h ho => by
  have hl : cs.length = n := by rw [h.length, arrL_length]
  refine ⟨by rw [hl]; simp [Rd.sc], fun j hj => ?_⟩
  obtain ⟨u, hu, hv⟩ := h.get (arrL_get (f := fun x => AVal.lit (f x)) (d0 := d0) (xs := d) (k := 0) hj)
  rw [Nat.zero_add] at hv
  simp only [Val] at hv
  subst hv
  simp only [Rd.sc]
  rw [Nat.mul_one]
  apply List.ext_getElem?
  intro q
  cases q with
  | zero => rw [List.getElem?_take_of_lt (by decide), List.getElem?_drop]; simpa using hu
  | succ q => rw [List.getElem?_eq_none (by simp; omega), List.getElem?_eq_none (by simp)]

/-- The address of an element of an array that is only read. -/
theorem q_indexArr_ro {α : Type} {A : Rd α} {d0 : α} {l : List α} {b : Bool} {t el : TypeId} {n sz : Nat} {x y : Operand} {k : IntKind} {j : Int} (h : ArIs P t el n sz) (hn : A.sz = sz) (hx : E.ev x = .ro (Rd.ptr (Rd.array n A d0)) b l) (hy : E.ev y = .lit (.int k j)) (hj : decide (0 ≤ j ∧ j < n) = true) :
    Quiet P (.indexAddr t x y) ty E M [] (.ro (Rd.ptr A) b (l.getD j.toNat d0)) :=
  fun _ _ a w e hh he => by
    subst hn
    have hv := he.ev x; rw [hx] at hv; simp only [Val, Rd.ptr] at hv
    obtain ⟨bk, o, c, tt, fr, h1, h2, h3, h4⟩ := hv
    simp at h1
    obtain ⟨h0, h5⟩ := of_decide_eq_true hj
    have hjn : j.toNat < n := by omega
    refine ⟨.pointer (some ⟨bk, o + j.toNat * A.sz, Option.none⟩), ?_, fun w1 hw => ?_⟩
    · simp only [Val, Rd.ptr]
      refine ⟨bk, o + j.toNat * A.sz, c, tt, fr, rfl, h2, ?_⟩
      have := h4 j.toNat hjn
      rw [show (Rd.array n A d0).sz = n * A.sz from rfl, List.drop_take, List.drop_drop, List.take_take, Nat.min_eq_left] at this
      · exact this
      · have h6 : (j.toNat + 1) * A.sz ≤ n * A.sz := Nat.mul_le_mul_right _ hjn
        rw [Nat.add_mul] at h6; omega
    · have := run_indexAt_ar h bk o k j h0 h5 w1
      simp [exec1, execOp, h1, ev_lit he hy, this]

theorem rows_of_array {α : Type} {A : Rd α} {m : Ro} : ∀ {l : List α} {cs : List Value}, (∀ j x, l[j]? = some x → A.ok m x ((cs.drop (j * A.sz)).take A.sz)) → rows A m l cs
  | [], _, _ => trivial
  | x :: l, cs, h => ⟨by simpa using h 0 x rfl, rows_of_array fun j y hy => by
      have := h (j + 1) y (by simpa using hy)
      rw [List.drop_drop]
      rw [Nat.add_mul, Nat.one_mul, Nat.add_comm] at this
      exact this⟩

/-- A slice of an array that is only read. -/
theorem q_sliceArr_ro {α : Type} {A : Rd α} {d0 : α} {l : List α} {b : Bool} {t el : TypeId} {n sz : Nat} {x : Operand} {lo hi : Option Operand} {i j : Int} (h : ArIs P t el n sz) (hn : A.sz = sz) (hx : E.ev x = .ro (Rd.ptr (Rd.array n A d0)) b l)
    (hlo : evOpt E lo 0 i) (hhi : evOpt E hi n j) (hb : decide (0 ≤ i ∧ i ≤ j ∧ j ≤ n) = true) : Quiet P (.slice t x lo hi none) ty E M [] (.ro (Rd.slice A) b (((fixD d0 l n).take j.toNat).drop i.toNat)) :=
  fun cx nt a w e hh he => by
    subst hn
    obtain ⟨b0, b1, b2⟩ := of_decide_eq_true hb
    have hv := he.ev x; rw [hx] at hv; simp only [Val, Rd.ptr] at hv
    obtain ⟨bk, o, c, tt, fr, h1, h2, h3, h4⟩ := hv
    simp at h1
    have hs : ∀ (o' : Option Operand) (d m : Int), evOpt E o' d m → (match o'.map a.eval with | some v => ∃ k, v = .int k m | none => m = d) := by
      intro o' d m ho
      cases o' with
      | none => exact ho
      | some q => obtain ⟨k, hk⟩ := ho; exact ⟨k, ev_lit he hk⟩
    have hlo' := hs lo 0 i hlo
    have hhi' := hs hi n j hhi
    have e1 : ∀ (y : Nat) (code : BoundsCode) (v : Value) (m : Int), (∃ k, v = .int k m) → 0 ≤ m → m ≤ y → ∀ w1, (Instr.sliceBound v y code).run P w1 = .ok m.toNat w1 := by
      rintro y code v m ⟨k, rfl⟩ hm0 hm w1
      simp only [Instr.sliceBound, asIntOf, Sem.run_bind, Sem.run_pure, Result.andThen]
      rw [if_pos ⟨hm0, hm⟩]
      simp
    have hrun : ∀ w1, (exec1 a.eval (.slice t x lo hi none) ty).run P w1 = .ok (.value (.slice (some (if n = i.toNat then ⟨bk, o, none⟩ else ⟨bk, o + i.toNat * A.sz, none⟩)) (j.toNat - i.toNat) (n - i.toNat))) w1 := by
      intro w1
      cases lo with
      | none =>
        simp only [Option.map_none] at hlo'
        subst hlo'
        cases hi with
        | none =>
          simp only [Option.map_none] at hhi'
          subst hhi'
          simp [exec1, execOp, Instr.sliceAt, run_underlying h.t, Instr.sliceBounds, h.e.run, h1, Instr.sureAddr, add_at]
        | some q =>
          have := fun code => e1 n code (a.eval q) j hhi' (by omega) b2 w1
          simp [exec1, execOp, Instr.sliceAt, run_underlying h.t, Instr.sliceBounds, h.e.run, h1, Instr.sureAddr, this, add_at]
      | some p =>
        cases hi with
        | none =>
          simp only [Option.map_none] at hhi'
          subst hhi'
          have := fun code => e1 n code (a.eval p) i hlo' b0 b1 w1
          simp [exec1, execOp, Instr.sliceAt, run_underlying h.t, Instr.sliceBounds, h.e.run, h1, Instr.sureAddr, this, add_at]
        | some q =>
          have k1 := fun code => e1 n code (a.eval q) j hhi' (by omega) b2 w1
          have k2 := fun code => e1 j.toNat code (a.eval p) i hlo' b0 (by omega) w1
          simp [exec1, execOp, Instr.sliceAt, run_underlying h.t, Instr.sliceBounds, h.e.run, h1, Instr.sureAddr, k1, k2, add_at]
    refine ⟨_, ?_, fun w1 _ => hrun w1⟩
    simp only [Val, Rd.slice]
    have hlen : (((fixD d0 l n).take j.toNat).drop i.toNat).length = j.toNat - i.toNat := by simp [fixD_length]; omega
    by_cases h0 : j.toNat - i.toNat = 0
    · exact .inl ⟨List.eq_nil_of_length_eq_zero (by omega), _, _, by rw [h0]⟩
    · have hne : ¬ n = i.toNat := by omega
      refine .inr ⟨bk, o + i.toNat * A.sz, c, tt, fr, n - i.toNat, by rw [if_neg hne, hlen], by omega, h2, ?_⟩
      have hr : rows A (e.mem b) (fixD d0 l n) (c.toList.drop o) := rows_of_array fun q y hy => by
        have hq : q < n := by have := (List.getElem?_eq_some_iff.1 hy).1; rw [fixD_length] at this; exact this
        rw [fixD_get hq] at hy
        cases hy
        have := h4 q hq
        rw [show (Rd.array n A d0).sz = n * A.sz from rfl, List.drop_take, List.drop_drop, List.take_take, Nat.min_eq_left] at this
        · rw [List.drop_drop]; exact this
        · have h6 : (q + 1) * A.sz ≤ n * A.sz := Nat.mul_le_mul_right _ hq
          rw [Nat.add_mul] at h6; omega
      have := rows_drop i.toNat (rows_take j.toNat hr)
      rw [List.drop_drop] at this
      exact this

/-- A value put into an interface. -/
structure Conc (P : Program) (t : TypeId) : Prop where
  h : ∃ d, P.underlying t = some d ∧ (match d with | .interface _ => False | _ => True)
theorem q_mki {t : TypeId} {x : Operand} (h : Conc P t) : Quiet P (.makeInterface t x) ty E M [] (.ifc t (E.ev x)) :=
  fun _ _ a w e hh he => by
    obtain ⟨d, h1, h2⟩ := h.h
    refine ⟨.iface t (a.eval x), by simp only [Val]; exact ⟨_, rfl, he.ev x⟩, fun w1 _ => ?_⟩
    cases d <;> first | exact h2.elim | simp [exec1, execOp, Instr.makeInterface, run_underlying h1]

theorem q_cap_nil {t el : TypeId} {x : Operand} (h : P.underlying t = some (.slice el)) (hx : E.ev x = .lit (.slice none 0 0)) : Quiet P (.call { callee := .builtin .cap, args := #[x], argTypes := #[t] }) ty E M [] (.lit (.int .i64 0)) :=
  fun _ _ a w e hh he => ⟨.int .i64 0, by simp [Val], fun w1 _ => by
    simp [exec1, execOp, resolve, invoke, builtin, Builtin.cap_, ev_lit he hx, run_underlying h, goInt]⟩

theorem q_slice_nil {t el : TypeId} {n : Nat} {x y : Operand} {k : IntKind} (h : SlIs P t el n) (hx : E.ev x = .lit (.slice none 0 0)) (hy : E.ev y = .lit (.int k 0)) : Quiet P (.slice t x none (some y) none) ty E M [] (.lit (.slice none 0 0)) :=
  fun _ _ a w e hh he => ⟨.slice none 0 0, by simp [Val], fun w1 _ => by
    have := run_slice_sl h none 0 0 none (some (.int k 0)) 0 0 w1 rfl ⟨k, rfl⟩ (Nat.le_refl _) (Nat.le_refl _)
    simp [exec1, execOp, ev_lit he hx, ev_lit he hy, this]⟩

/-- Nil cut. -/
theorem q_slice_nilD {α : Type} {R : Rd α} {t el : TypeId} {n : Nat} {x : Operand} {lo hi : Option Operand} {i j : Int} (h : SlIs P t el n) (hx : E.ev x = .lit (.slice none 0 0))
    (hlo : evOpt E lo 0 i) (hhi : evOpt E hi 0 j) (hb : decide (0 ≤ i ∧ i ≤ j ∧ j ≤ 0) = true) : Quiet P (.slice t x lo hi none) ty E M [] (.ro (Rd.slice R) false []) :=
  fun _ _ a w e hh he => by
    obtain ⟨b0, b1, b2⟩ := of_decide_eq_true hb
    have hs : ∀ (o' : Option Operand) (m : Int), m = 0 → evOpt E o' 0 m → (match o'.map a.eval with | some v => ∃ k, v = .int k ((0 : Nat) : Int) | none => 0 = 0) := by
      intro o' m hm ho
      subst hm
      cases o' with
      | none => rfl
      | some q => obtain ⟨k, hk⟩ := ho; exact ⟨k, ev_lit he hk⟩
    have hlo' := hs lo i (by omega) hlo
    have hhi' := hs hi j (by omega) hhi
    refine ⟨.slice none 0 0, by simp only [Val, Rd.slice]; exact .inl ⟨trivial, none, 0, rfl⟩, fun w1 hw => ?_⟩
    have := run_slice_sl h none 0 0 (lo.map a.eval) (hi.map a.eval) 0 0 w1 hlo' hhi' (Nat.le_refl _) (Nat.le_refl _)
    simp [exec1, execOp, ev_lit he hx, this]

/-- A row of our own cut behind a place: its room stays. -/
theorem d_cut {α : Type} {R : Rd α} {l : List α} {t el ct : TypeId} {n i N : Nat} {x y : Operand} {k : IntKind} {j : Int} (h : SlIs P t el n) (hx : E.ev x = .whole i) (hc : M.at_ i = .row ct R l) (hy : E.ev y = .lit (.int k j)) (hb : decide (0 ≤ j ∧ j ≤ l.length) = true) (hN : M.n = N) :
    Does P (.slice t x none (some y) none) ty E M [i] (.whole N) ((M.set i .gone).push (.row ct R (l.take j.toNat))) :=
  fun cx nt a w e hh he => by
    obtain ⟨b0, b1⟩ := of_decide_eq_true hb
    have hv := he.ev x; rw [hx] at hv; simp only [Val] at hv
    have hk := hh.ch i hv.1
    rw [hc] at hk
    obtain ⟨g1, g2, g3, g4⟩ := hk
    have hv3 := hv.2.2
    have hll : (l.take j.toNat).length = j.toNat := by simp; omega
    have hdrop := hh.drop i
    cases hvir : e.vir i with
    | true =>
      rw [hvir] at hv3 g4
      simp only [if_true] at hv3 g4
      subst g4
      have hj0 : j = 0 := by simp at b1; omega
      subst hj0
      refine ⟨.slice none 0 0, w, e.bump 0 0 0 true, ?_, hdrop.bindVir, ⟨e.bump_le 0 0 0 true, fun b => e.bump_mem 0 0 0 true b⟩, ?_, fun _ _ _ => rfl, Nat.le_refl _⟩
      · have h0 : e.lens i = 0 := hv3.2
        rw [h0] at hv3
        have hcap : ∃ c, a.eval x = .slice none 0 c := ⟨0, by rw [hv3.1]⟩
        have := run_slice_sl h none 0 0 none (some (.int k 0)) 0 0 w rfl ⟨k, rfl⟩ (Nat.le_refl _) (Nat.le_refl _)
        simp [exec1, execOp, hv3.1, ev_lit he hy, this]
      · simp only [Val, Nv.bump, ← hN, ← hh.n, if_true]
        exact ⟨Nat.lt_succ_self _, Nat.le_refl _, trivial, trivial⟩
    | false =>
      rw [hvir] at hv3 g4
      simp only [Bool.false_eq_true, if_false] at hv3 g4
      obtain ⟨c, z, hbk, hz, hcs, hrow⟩ := g4
      have hlive : (M.at_ i).live e i := by rw [hc]; exact hvir
      have hli := hh.live i hv.1 hlive
      refine ⟨.slice (some ⟨e.own i, 0, none⟩) j.toNat (e.caps i), w, e.bump (e.own i) (e.caps i) j.toNat, ?_, ?_, ⟨e.bump_le _ _ _ false, fun b => e.bump_mem _ _ _ false b⟩, ?_, fun _ _ _ => rfl, Nat.le_refl _⟩
      · have := run_slice_sl h (some ⟨e.own i, 0, none⟩) (e.lens i) (e.caps i) none (some (.int k j)) 0 j.toNat w rfl ⟨k, by rw [Int.toNat_of_nonneg b0]⟩ (Nat.zero_le _) (by omega)
        simp [exec1, execOp, hv3, ev_lit he hy, this, add_at]
      · refine hdrop.bind rfl rfl rfl (Nat.le_refl _) hli.1 (fun _ _ _ => rfl) (fun q hq hl hqi => ?_) (fun q hq hm hbq => ?_) hli.2.1 hli.2.2.1 hli.2.2.2 ?_
        · rw [Mem.set_at] at hl
          split at hl
          · exact hl.elim
          · rename_i hqi'; exact hqi' (hh.dist q i hq hv.1 hl hlive hqi)
        · rw [Mem.set_at] at hm
          split at hm
          · cases hm
          · exact hh.bag.own q hq hm _ hbq i hv.1 hlive rfl
        · refine ⟨by simp only [Nv.bump, if_true]; exact hll.symm, by simp only [Nv.bump, if_true, hll]; omega, by simpa [Nv.bump] using g3, ?_⟩
          simp only [Nv.bump, if_true, Bool.false_eq_true, if_false]
          exact ⟨c, z, hbk, hz, hcs, rows_take _ hrow⟩
      · simp only [Val, Nv.bump, ← hN, ← hh.n, if_true, Bool.false_eq_true, if_false]
        exact ⟨Nat.lt_succ_self _, by omega, trivial⟩

/-- So many made elements behind nil. -/
theorem d_appendMakeNil {α : Type} {R : Rd α} {t ti el : TypeId} {n bytes N : Nat} {kt : IntKind} {zs : List Value} {s x : Operand} {m : Int} {d : α} (h : LitIs P t el n zs) (hb : ∃ i, P.info? el = some i ∧ i.bytes = bytes) (hti : P.underlying ti = some (.int kt)) (hn : R.sz = n) (hn0 : Nat.blt 0 n = true) (hb0 : Nat.blt 0 bytes = true) (hzl : Nat.beq zs.length n = true)
    (hd : Joins R false d (zs.map AVal.lit)) (hs : E.ev s = .lit (.slice none 0 0)) (hx : E.ev x = .lit (.int .i64 m)) (hlim : decide (0 < m ∧ m * bytes ≤ 140737488355328) = true) (hN : M.n = N) :
    Does P (.call { callee := .builtin .append, args := #[s, x], argTypes := #[t, ti] }) ty E M [] (.whole N) (M.push (.row el R (List.replicate m.toNat d))) :=
  fun cx nt a w e hh he => by
    obtain ⟨i, z, h1, h2, h3, h4⟩ := h.h
    obtain ⟨i', hi', hby⟩ := hb
    rw [h1] at hi'; cases hi'
    have hn0' : 0 < n := by simpa using hn0
    have hb0' : 0 < bytes := by simpa using hb0
    have hzl' : zs.length = n := by simpa using hzl
    obtain ⟨l0, l1⟩ := of_decide_eq_true hlim
    have hmb : m ≤ 140737488355328 := by
      have : m * 1 ≤ m * bytes := Int.mul_le_mul_of_nonneg_left (by omega) (by omega)
      omega
    have hok := hd e zs (vals_lits e zs) h.one
    rw [Nv.mem_false] at hok
    have hwrap : IntKind.i64.wrap m = m := by
      unfold IntKind.wrap
      simp [IntKind.signed, IntKind.bits]
      omega
    have hM : ((m.toNat : Nat) : Int) = m := Int.toNat_of_nonneg (by omega)
    have hnc : Builtin.nextslicecap m.toNat 0 = m.toNat := by
      unfold Builtin.nextslicecap; rw [if_pos (by omega)]
    have hcap := grownCap_ge w m.toNat 0 el
    have hcm := grownCap_le_maxLen w m.toNat 0 el (by simp only [maxLen]; omega)
    have hbn : m.toNat * bytes ≤ 140737488355328 := by
      have : ((m.toNat * bytes : Nat) : Int) = m * bytes := by rw [Int.natCast_mul, hM]
      omega
    have hrun : (Builtin.append_ #[t, ti] ty #[.slice none 0 0, .int .i64 m]).run P w = .ok (.slice (some ⟨w.heap.size, 0, none⟩) m.toNat (grownCap w m.toNat 0 el))
        (w.drew.alloc (.cells (Builtin.zeroCells z.cells m.toNat ++ Builtin.zeroCells z.cells (grownCap w m.toNat 0 el - m.toNat)) el)) := by
      have c1 : ¬ m < 0 := by omega
      have c2 : ¬ (281474976710656 : Int) < m * ((bytes : Nat) : Int) := by omega
      have c3 : ¬ m.toNat = 0 := by omega
      have c4 : ¬ (9223372036854775807 : Int) < ((m.toNat : Nat) : Int) := by omega
      have c5 : ¬ 281474976710656 < m.toNat * bytes := by omega
      have c6 : ¬ n = 0 := by omega
      have c9 : ¬ m ≤ 0 := by omega
      have c10 : ¬ (9223372036854775807 : Int) < max m 0 := by omega
      have c11 : ¬ m.toNat * n = 0 := by have := Nat.mul_pos (show 0 < m.toNat by omega) hn0'; omega
      have c7 : ¬ (9223372036854775807 : Int) < m := by omega
      have c8 : ¬ 9223372036854775807 < m.toNat := by omega
      simp [Builtin.append_, run_underlying h.t, run_underlying hti, sizeOf, typeInfo, zeroValue, h1, h2, h3, hby, asInt, asIntOf, hwrap, c9, c10, c11, c1, c2, c3, c4, c5, c6, c7, c8, hnc, Question.forced, Builtin.firstCells, newRow, grownCap]
    generalize hcc : grownCap w m.toNat 0 el = cap at hrun hcap hcm
    have hz0 : ∀ k, (Builtin.zeroCells z.cells k).toList = (List.replicate k zs).flatten := by
      intro k
      rw [Builtin.zeroCells, h4]
      have := made_list zs n hzl' hn0' k
      rw [List.size_toArray, hzl'] at *
      exact this
    have hfl : ∀ k, ((List.replicate k zs).flatten).length = k * n := by
      intro k
      induction k with
      | zero => simp
      | succ k ih => rw [List.replicate_succ, List.flatten_cons, List.length_append, ih, hzl', Nat.add_mul]; omega
    have hcell : Builtin.zeroCells z.cells m.toNat ++ Builtin.zeroCells z.cells (cap - m.toNat) = ((List.replicate cap zs).flatten).toArray := by
      apply Array.ext'
      rw [Array.toList_append, hz0, hz0, ← List.flatten_append, List.replicate_append_replicate, show m.toNat + (cap - m.toNat) = cap by omega]
    have hnew : Hold cx (e.bump w.heap.size cap m.toNat) (M.push (.row el R (List.replicate m.toNat d))) (w.drew.alloc (.cells ((List.replicate cap zs).flatten).toArray el)) := by
      have hsplit : (List.replicate cap zs).flatten = (List.replicate m.toNat zs).flatten ++ (List.replicate (cap - m.toNat) zs).flatten := by
        rw [← List.flatten_append, List.replicate_append_replicate]
        congr 2; omega
      have := hh.drew.newRow (R := R) (el := el) (ds := List.replicate m.toNat d) (cs := (List.replicate cap zs).flatten) (cap := cap) (by simpa using hcap) hcm (by rw [hfl, hn]) (by rw [hsplit]; exact rows_replicate hok _ _)
      simpa using this
    refine ⟨.slice (some ⟨w.heap.size, 0, none⟩) m.toNat cap, w.drew.alloc (.cells ((List.replicate cap zs).flatten).toArray el), e.bump w.heap.size cap m.toNat, ?_, hnew, ⟨e.bump_le _ _ _ false, fun b => e.bump_mem _ _ _ false b⟩, ?_, fun b hb _ => heap_alloc_old w.drew _ (h := hb), by simp⟩
    · rw [← hcell]
      simp [exec1, execOp, resolve, invoke, builtin, ev_lit he hs, ev_lit he hx, hrun]
    · simp only [Val, Nv.bump, ← hN, ← hh.n, if_true, Bool.false_eq_true, if_false]
      exact ⟨Nat.lt_succ_self _, hcap, trivial⟩
end
theorem PartIs.self {α : Type} {R : Rd α} {d : α} : PartIs R d 0 R d := fun m cs h => by
  rw [List.drop_zero, List.take_of_length_le (by rw [R.len h]; exact Nat.le_refl _)]; exact h

/-- Is a row of our own nil? If so it is empty. -/
theorem WPL.eqlNilW {P : Program} {cx : Cx} {fr : Fr} {E : Env} {M : Mem} {Q : Ex → Env → Mem → Prop} {ops : Array Oper} {os : List Oper} {α : Type} {R : Rd α} {l : List α} {i : Nat} {ct t el yt ty : TypeId} {y : Operand} {dst : Nat} {pos : String} {after : Array Edge} (ht : P.underlying t = some (.slice el)) (hx : E.ev y = .whole i) (hc : M.at_ i = .row ct R l)
    (hd : Nat.blt dst fr.nt = true) (k : ∀ nb : Bool, (nb = true → l = []) → WPL P cx fr ops os (E.upd dst (.lit (.bool nb))) M Q) :
    WPL P cx fr ops ({ dst := some dst, op := .binOp .eql t y (.const (.slice none 0 0)) yt, type := ty, pos := pos, after := after, guard := Option.none } :: os) E M Q := by
  intro a w e hh he
  have hv := he.ev y
  rw [hx] at hv
  simp only [Val] at hv
  have hk := hh.ch i hv.1
  rw [hc] at hk
  have hrun : ∀ (ad : Option Addr) (n c : Nat), (binOp .eql t (.slice ad n c) (.slice none 0 0)).run P w = .ok (.bool ad.isNone) w := by
    intro ad n c
    have h1 : (Op.equal t (.slice ad n c) (.slice none 0 0)).run P w = .ok ad.isNone w := by
      rw [equal_eq, Op.equalIn]
      simp only [Sem.run_bind, run_underlying ht, Result.andThen, Sem.run_pure]
      cases ad <;> rfl
    simp only [binOp, Sem.run_bind, h1, Result.andThen, Sem.run_pure]
  have key : ∀ (ad : Option Addr) (n c : Nat), a.eval y = .slice ad n c → (ad.isNone = true → l = []) → wpListIn (fence fr.r) 0 P ops (Sat cx fr Q) ({ dst := some dst, op := .binOp .eql t y (.const (.slice none 0 0)) yt, type := ty, pos := pos, after := after, guard := Option.none } :: os) a w := by
    intro ad n c hy hn
    unfold wpListIn
    rw [if_pos (by rfl)]
    refine ⟨fun _ _ => trivial, ?_⟩
    rw [semAt_value (x := .bool ad.isNone) (w' := w)]
    · exact k _ hn _ w e hh (he.put hd (by simp [Val]))
    · simp only [exec1, execOp, hy, eval_const, g_slice, Sem.run_bind, Sem.run_pure, Result.andThen, hrun]
  have hv3 := hv.2.2
  cases hvir : e.vir i with
  | true =>
    rw [hvir] at hv3
    simp only [if_true] at hv3
    exact key none 0 0 hv3.1 fun _ => by have := hk.2.2.2; simpa [hvir] using this
  | false =>
    rw [hvir] at hv3
    simp only [Bool.false_eq_true, if_false] at hv3
    exact key _ _ _ hv3 fun h => by simp at h
end Go.Q
