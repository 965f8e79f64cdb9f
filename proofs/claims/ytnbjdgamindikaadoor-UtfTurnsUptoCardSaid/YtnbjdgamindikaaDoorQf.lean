/- Structs and slices that are built; a state told anew: names changed, chunks let go, chunks frozen. -/
import Derived.Test.YtnbjdgamindikaaDoorQe
import Derived.Great.BuildSlice
namespace Go.Q
open Go
set_option linter.unusedVariables false
set_option linter.unusedSimpArgs false

/-- The parts laid into the cells. -/
def fillA (place : Nat → Option (Nat × Nat)) (E : Env) : List AVal → List (Nat × Operand) → Option (List AVal)
  | l, [] => some l
  | l, (i, x) :: ps =>
    match place i, (E.ev x).cells with
    | some (off, size), some r => bif Nat.beq r.length size && Nat.ble (off + size) l.length then fillA place E (setAt l off r) ps else none
    | _, _ => none

theorem foldl_set : ∀ (vs : List Value) (cs : Array Value) (off k : Nat), (vs.zipIdx k).foldl (fun cs (x : Value × Nat) => cs.setIfInBounds (off + x.2) x.1) cs = (setAt cs.toList (off + k) vs).toArray
  | [], cs, off, k => by simp [setAt]
  | v :: vs, cs, off, k => by
    rw [List.zipIdx_cons, List.foldl_cons, foldl_set vs _ off (k + 1), setAt]
    simp [Nat.add_assoc]

theorem fill_ok {P : Program} {nt : Nat} {e : Nv} {M : Mem} {E : Env} {a : Act} (he : Emb nt e M E a) {place : Nat → Option (Nat × Nat)} : ∀ (ps : List (Nat × Operand)) (l l' : List AVal) (cs : List Value), Vals e l cs → (∀ v ∈ cs, v.oneCell' = true) →
    fillA place E l ps = some l' → ∃ cs' : List Value, Instr.fill place cs.toArray (ps.map fun p => (p.1, a.eval p.2)) = some cs'.toArray ∧ Vals e l' cs' ∧ ∀ v ∈ cs', v.oneCell' = true
  | [], l, l', cs, h, ho, hf => by simp [fillA] at hf; subst hf; exact ⟨cs, by simp [Instr.fill], h, ho⟩
  | (i, x) :: ps, l, l', cs, h, ho, hf => by
    simp only [fillA] at hf
    cases hp : place i with
    | none => simp [hp] at hf
    | some os =>
      obtain ⟨off, size⟩ := os
      cases hr : (E.ev x).cells with
      | none => simp [hp, hr] at hf
      | some r =>
        rw [hp, hr] at hf
        simp only at hf
        cases hb : (Nat.beq r.length size && Nat.ble (off + size) l.length) with
        | false => rw [hb] at hf; simp at hf
        | true =>
          rw [hb] at hf
          simp only [cond_true] at hf
          simp only [Bool.and_eq_true, Nat.beq_eq, Nat.ble_eq] at hb
          obtain ⟨us, h1, h2, h3⟩ := cells_vals (he.ev x) hr
          have hul := h2.length
          have ho' : ∀ v ∈ setAt cs off us, v.oneCell' = true := by
            have : ∀ (us vs : List Value) (o : Nat), (∀ v ∈ us, v.oneCell' = true) → (∀ v ∈ vs, v.oneCell' = true) → ∀ v ∈ setAt vs o us, v.oneCell' = true := by
              intro us
              induction us with
              | nil => intro vs o _ h; exact h
              | cons u us ih =>
                intro vs o hu hv
                refine ih _ _ (fun v hv' => hu v (by simp [hv'])) (fun v hv' => ?_)
                rcases List.mem_or_eq_of_mem_set hv' with h | h
                · exact hv v h
                · rw [h]; exact hu u (by simp)
            exact this us cs off h3 ho
          obtain ⟨cs', g1, g2, g3⟩ := fill_ok (P := P) he ps _ l' (setAt cs off us) (h.setAt h2) ho' hf
          refine ⟨cs', ?_, g2, g3⟩
          rw [List.map_cons, Instr.fill, hp]
          simp only
          have hsz : (a.eval x).cells.size = size := by rw [h1]; simp [hul, hb.1]
          have hln := h.length
          rw [if_neg (by
            simp only [hsz, ne_eq, not_true_eq_false, decide_false, Bool.false_or, decide_eq_true_eq]
            simp only [List.size_toArray]
            omega)]
          have : (a.eval x).cells.zipIdx.foldl (fun cs (y : Value × Nat) => cs.setIfInBounds (off + y.2) y.1) cs.toArray = (setAt cs off us).toArray := by
            rw [h1]
            have := foldl_set us cs.toArray off 0
            simp only [List.toList_toArray, Nat.add_zero] at this
            rw [← this]
            simp [← Array.foldl_toList]
          rw [this]
          exact g1

/-- What a composite is built of. -/
structure BuildIs (P : Program) (t : TypeId) (place : Nat → Option (Nat × Nat)) (zs : List Value) : Prop where
  h : ∀ parts cells, Instr.fill place zs.toArray parts = some cells → P.built t parts = some cells
  one : ∀ v ∈ zs, v.oneCell' = true

def placeOf (l : List (Nat × Nat)) (i : Nat) : Option (Nat × Nat) := l[i]?

theorem BuildIs.struct {P : Program} {t : TypeId} {it : TypeInfo} {fs : Array Field} {z : Value} {places : List (Nat × Nat)} {zs : List Value} (hi : P.info? t = some it) (hu : P.underlying t = some (.struct fs)) (hz : it.zero = some z)
    (hp : fs.toList.mapM (fun f => (P.info? f.type).map fun i => (f.offset, i.size)) = some places) (hc : z.cells = zs.toArray) (h1 : ∀ v ∈ zs, v.oneCell' = true) : BuildIs P t (placeOf places) zs :=
  ⟨fun parts cells hf => by
    simp only [Program.built, hi, hu, hz, hp]
    rw [hc]
    have : (fun x => places.toArray[x]?) = placeOf places := by funext i; simp [placeOf]
    rw [this]; exact hf, h1⟩

def placeAt (n i : Nat) : Option (Nat × Nat) := some (i * n, n)

theorem BuildIs.array {P : Program} {t el : TypeId} {len : Nat} {it ie : TypeInfo} {z : Value} {zs : List Value} {n : Nat} (hi : P.info? t = some it) (hu : P.underlying t = some (.array len el)) (hz : it.zero = some z)
    (he : P.info? el = some ie) (hn : ie.size = n) (hc : z.cells = zs.toArray) (h1 : ∀ v ∈ zs, v.oneCell' = true) : BuildIs P t (placeAt n) zs :=
  ⟨fun parts cells hf => by
    simp only [Program.built, hi, hu, hz, he]
    rw [hc, hn]
    exact hf, h1⟩

section
variable {P : Program} {ty : TypeId} {E : Env} {M : Mem}

theorem q_build {t : TypeId} {place : Nat → Option (Nat × Nat)} {zs : List Value} {ps : Array (Nat × Operand)} {l : List AVal} (h : BuildIs P t place zs) (hf : fillA place E (zs.map AVal.lit) ps.toList = some l) :
    Quiet P (.build t ps) ty E M [] (.agg l) :=
  fun cx nt a w e hh he => by
    obtain ⟨cs, h1, h2, h3⟩ := fill_ok (P := P) he ps.toList _ l zs (vals_lits e zs) h.one hf
    refine ⟨.agg cs.toArray, ?_, fun w1 hw => ?_⟩
    · simp only [Val]; exact ⟨cs, rfl, h2, h3⟩
    · have : P.built t (ps.map fun (i, x) => (i, a.eval x)).toList = some cs.toArray := h.h _ _ (by simpa using h1)
      simp [exec1, execOp, run_build w1 t _ _ this]

/-- The cells of a row, datum by datum. -/
def JoinRows {α : Type} (R : Rd α) (ds : List α) (l : List AVal) : Prop := l.length = ds.length * R.sz ∧ ∀ e cs, Vals e l cs → (∀ v ∈ cs, v.oneCell' = true) → rows R e.m ds cs
theorem JoinRows.nil {α : Type} {R : Rd α} : JoinRows R [] [] := ⟨by simp, fun _ _ _ _ => trivial⟩
theorem JoinRows.cons {α : Type} {R : Rd α} {d : α} {ds : List α} {l l' : List AVal} (h : Joins R false d l) (hl : l.length = R.sz) (h' : JoinRows R ds l') : JoinRows R (d :: ds) (l ++ l') := by
  refine ⟨by rw [List.length_append, hl, h'.1, List.length_cons, Nat.add_mul]; omega, fun e cs hk ho => ?_⟩
  have h1 := hk.take l.length
  have h2 := hk.drop l.length
  rw [List.take_left] at h1
  rw [List.drop_left] at h2
  rw [hl] at h1 h2
  have := h e _ h1 (fun v hv => ho v (List.mem_of_mem_take hv))
  rw [Nv.mem_false] at this
  exact ⟨this, h'.2 e _ h2 (fun v hv => ho v (List.mem_of_mem_drop hv))⟩
theorem JoinRows.cons1 {α : Type} {R : Rd α} {d : α} {ds : List α} {a : AVal} {l' : List AVal} (h : Joins R false d [a]) (hl : R.sz = 1) (h' : JoinRows R ds l') : JoinRows R (d :: ds) (a :: l') := JoinRows.cons (l := [a]) h (by simp [hl]) h'

/-- A slice literal. -/
structure LitIs (P : Program) (t el : TypeId) (n : Nat) (zs : List Value) : Prop where
  t : P.underlying t = some (.slice el)
  h : ∃ i z, P.info? el = some i ∧ i.zero = some z ∧ i.size = n ∧ z.cells = zs.toArray
  one : ∀ v ∈ zs, v.oneCell' = true

def zerosA (zs : List Value) : Nat → List AVal
  | 0 => []
  | k + 1 => zs.map AVal.lit ++ zerosA zs k

theorem made_list (zs : List Value) (n : Nat) (hn : zs.length = n) (h0 : 0 < n) : ∀ k, ((Array.range (k * n)).map (zs.toArray[· % zs.toArray.size]!)).toList = (List.replicate k zs).flatten
  | 0 => by simp
  | k + 1 => by
    have ih := made_list zs n hn h0 k
    rw [Array.toList_map, Array.toList_range] at ih ⊢
    rw [Nat.add_mul, Nat.one_mul, List.range_add, List.map_append, ih, List.replicate_succ', List.flatten_append, List.map_map]
    congr 1
    simp only [List.flatten_cons, List.flatten_nil, List.append_nil]
    apply List.ext_getElem
    · simp [hn]
    · intro j h1 h2
      have hj : (k * n + j) % n = j := by rw [Nat.add_comm, Nat.add_mul_mod_self_right, Nat.mod_eq_of_lt (by omega)]
      have hj' : (k * n + j) % zs.toArray.size = j := by rw [List.size_toArray, hn]; exact hj
      simp only [List.getElem_map, List.getElem_range, Function.comp]
      rw [hj', getElem!_pos _ _ (by simpa using h2)]
      simp

theorem zerosA_vals (e : Nv) (zs : List Value) : ∀ k, Vals e (zerosA zs k) (List.replicate k zs).flatten
  | 0 => by simp [zerosA, Vals]
  | k + 1 => by
    rw [zerosA, List.replicate_succ, List.flatten_cons]
    exact (vals_lits e zs).append (zerosA_vals e zs k)

theorem hnone {w : World} {m : Ro} (hm : ∀ b o, m b = some o → w.heap[b]? = some o) : m w.heap.size = none := by
  cases hx : m w.heap.size with
  | none => rfl
  | some o => have := (Array.getElem?_eq_some_iff.1 (hm _ _ hx)).1; omega

/-- A new row at the end of the heap. -/
theorem Hold.newRow {cx : Cx} {e : Nv} {w : World} (hh : Hold cx e M w) {α : Type} {R : Rd α} {el : TypeId} {ds : List α} {cs : List Value} {cap : Nat} (hcap : ds.length ≤ cap) (hmax : cap ≤ maxLen) (hl : cs.length = cap * R.sz) (hr : rows R e.m ds cs) :
    Hold cx (e.bump w.heap.size cap ds.length) (M.push (.row el R ds)) (w.alloc (.cells cs.toArray el)) := by
  refine hh.bind rfl rfl rfl (by simp) (by simp) (fun k hk hlt => heap_alloc_old w _ k hlt) (fun i hi hl => Nat.ne_of_lt (hh.live i hi hl).1) hh.bag_new (hnone hh.ro) (hnone hh.bro) (.inr hh.size) ?_
  refine ⟨by simp [Nv.bump], by simpa [Nv.bump] using hcap, by simpa [Nv.bump] using hmax, ?_⟩
  simp only [Nv.bump, if_true, Bool.false_eq_true, if_false]
  exact ⟨_, _, heap_alloc_new w _, .inl rfl, by simpa using hl, hr⟩

theorem d_buildSlice {α : Type} {R : Rd α} {t el : TypeId} {n len N : Nat} {zs : List Value} {ps : Array (Nat × Operand)} {l : List AVal} {ds : List α} (h : LitIs P t el n zs) (hn : R.sz = n) (hn0 : Nat.blt 0 n = true) (hsmall : Nat.ble (len * n) 16777216 = true) (hzl : Nat.beq zs.length n = true)
    (hf : fillA (placeAt n) E (zerosA zs len) ps.toList = some l) (hj : JoinRows R ds l) (hds : ds.length = len) (hN : M.n = N) :
    Does P (.buildSlice t len ps) ty E M [] (.whole N) (M.push (.row el R ds)) :=
  fun cx nt a w e hh he => by
    obtain ⟨i, z, h1, h2, h3, h4⟩ := h.h
    have hn0' : 0 < n := by simpa using hn0
    have hzl' : zs.length = n := by simpa using hzl
    have hsm' : len * n ≤ 16777216 := by simpa using hsmall
    have hmade := made_list zs n hzl' hn0' len
    have hone : ∀ v ∈ (List.replicate len zs).flatten, v.oneCell' = true := by
      intro v hv
      obtain ⟨l1, hl1, hv1⟩ := List.mem_flatten.1 hv
      rw [List.eq_of_mem_replicate hl1] at hv1
      exact h.one v hv1
    obtain ⟨cs, g1, g2, g3⟩ := fill_ok (P := P) he ps.toList _ l _ (zerosA_vals e zs len) hone hf
    have hcl : cs.length = len * R.sz := by rw [g2.length, hj.1, hds]
    have hle := e.bump_le w.heap.size len len false
    have hm := fun b => e.bump_mem w.heap.size len len false b
    have hlen : len ≤ maxLen := by
      have : len * 1 ≤ len * n := Nat.mul_le_mul_left _ hn0'
      simp only [maxLen]; omega
    have hnew : Hold cx (e.bump w.heap.size len len) (M.push (.row el R ds)) (w.alloc (.cells cs.toArray el)) := by
      have := hh.newRow (R := R) (el := el) (ds := ds) (cs := cs) (cap := len) (by rw [hds]; exact Nat.le_refl _) hlen hcl (hj.2 e cs g2 g3)
      rw [hds] at this; exact this
    have g1' : Instr.fill (fun j => some (j * i.size, i.size)) ((Array.range (len * i.size)).map (z.cells[· % z.cells.size]!)) (ps.map fun (j, x) => (j, a.eval x)).toList = some cs.toArray := by
      rw [h3, h4]
      rw [← hmade] at g1
      have e1 : (ps.map fun (j, x) => (j, a.eval x)).toList = ps.toList.map fun p => (p.1, a.eval p.2) := by simp
      rw [e1]
      exact g1
    refine ⟨.slice (some ⟨w.heap.size, 0, none⟩) len len, w.alloc (.cells cs.toArray el), e.bump w.heap.size len len, ?_, hnew, ⟨hle, hm⟩, ?_, fun b hb _ => heap_alloc_old w _ b hb, by simp⟩
    · have hsm : ¬ (len * i.size > 2 ^ 24) := by rw [h3]; omega
      by_cases h0 : len * i.size = 0
      · have hl0 : len = 0 := by
          rcases Nat.eq_zero_or_pos len with h | h
          · exact h
          · have := Nat.mul_pos h hn0'; rw [h3] at h0; omega
        subst hl0
        simp only [Nat.zero_mul] at g1'
        have e0 : Array.range 0 = #[] := rfl
        rw [e0, Array.map_empty, Array.toList_map] at g1'
        simp only [exec1, execOp, Instr.buildSlice, Sem.run_bind, run_underlying h.t, Result.andThen, sizeOf, typeInfo, run_program, h1, Sem.run_pure, Nat.zero_mul]
        simp [e0, g1', Go.newRow]
      · have := run_buildSlice (P := P) w t el len (ps.map fun (j, x) => (j, a.eval x)) cs.toArray i z h.t h1 h2 hsm h0 g1'
        simp [exec1, execOp, this]
    · simp only [Val, Nv.bump, ← hN, ← hh.n, if_true, Bool.false_eq_true, if_false]
      exact ⟨Nat.lt_succ_self _, Nat.le_refl _, trivial⟩

theorem rows_replicate {α : Type} {R : Rd α} {m : Ro} {d : α} {zs : List Value} (h : R.ok m d zs) : ∀ (k : Nat) (r : List Value), rows R m (List.replicate k d) ((List.replicate k zs).flatten ++ r)
  | 0, _ => trivial
  | k + 1, r => by
    rw [List.replicate_succ, List.replicate_succ, List.flatten_cons, List.append_assoc]
    refine ⟨by rw [List.take_left' (R.len h)]; exact h, ?_⟩
    rw [List.drop_left' (R.len h)]
    exact rows_replicate h k r

/-- make of a slice. -/
theorem d_make {α : Type} {R : Rd α} {t el : TypeId} {n bytes N : Nat} {zs : List Value} {x y : Operand} {kl kc : IntKind} {lN c : Int} {d : α} (h : LitIs P t el n zs) (hb : ∃ i, P.info? el = some i ∧ i.bytes = bytes) (hn : R.sz = n) (hn0 : Nat.blt 0 n = true) (hzl : Nat.beq zs.length n = true)
    (hd : Joins R false d (zs.map AVal.lit)) (hx : E.ev x = .lit (.int kl lN)) (hy : E.ev y = .lit (.int kc c)) (hlim : decide (0 ≤ lN ∧ lN ≤ c ∧ (bytes : Int) * c ≤ 281474976710656 ∧ c ≤ 9223372036854775807) = true) (hN : M.n = N) :
    Does P (.makeSlice t x y) ty E M [] (.whole N) (M.push (.row el R (List.replicate lN.toNat d))) :=
  fun cx nt a w e hh he => by
    obtain ⟨i, z, h1, h2, h3, h4⟩ := h.h
    obtain ⟨i', hi', hby⟩ := hb
    rw [h1] at hi'; cases hi'
    have hn0' : 0 < n := by simpa using hn0
    have hzl' : zs.length = n := by simpa using hzl
    obtain ⟨l0, l1, l2, l3⟩ := of_decide_eq_true hlim
    have hok := hd e zs (vals_lits e zs) h.one
    rw [Nv.mem_false] at hok
    have hcs : (madeCells z.cells (c.toNat * i.size)).toList = (List.replicate c.toNat zs).flatten := by
      rw [madeCells, h4, h3]; exact made_list zs n hzl' hn0' c.toNat
    have hrun := run_make (P := P) w t el i z h.t h1 h2 kl kc lN c l0 l1 (by rw [hby]; exact l2) l3
    have hcell : madeCells z.cells (c.toNat * i.size) = ((List.replicate c.toNat zs).flatten).toArray := by apply Array.ext'; simp only [List.toList_toArray]; exact hcs
    have hle := e.bump_le w.heap.size c.toNat lN.toNat false
    have hm := fun b => e.bump_mem w.heap.size c.toNat lN.toNat false b
    have hnew : Hold cx (e.bump w.heap.size c.toNat lN.toNat) (M.push (.row el R (List.replicate lN.toNat d))) (w.alloc (.cells ((List.replicate c.toNat zs).flatten).toArray el)) := by
      have hsplit : (List.replicate c.toNat zs).flatten = (List.replicate lN.toNat zs).flatten ++ (List.replicate (c.toNat - lN.toNat) zs).flatten := by
        rw [← List.flatten_append, List.replicate_append_replicate]
        congr 2; omega
      have := hh.newRow (R := R) (el := el) (ds := List.replicate lN.toNat d) (cs := (List.replicate c.toNat zs).flatten) (cap := c.toNat) (by simp; omega) (by simp only [maxLen]; omega) (by
        have hfl : ∀ k, ((List.replicate k zs).flatten).length = k * n := by
          intro k
          induction k with
          | zero => simp
          | succ k ih => rw [List.replicate_succ, List.flatten_cons, List.length_append, ih, hzl', Nat.add_mul]; omega
        rw [hfl, hn]) (by rw [hsplit]; exact rows_replicate hok _ _)
      simpa using this
    refine ⟨.slice (some ⟨w.heap.size, 0, none⟩) lN.toNat c.toNat, _, _, ?_, hnew, ⟨hle, hm⟩, ?_, fun b hb _ => heap_alloc_old w _ b hb, by simp⟩
    · rw [← hcell]
      simp [exec1, execOp, ev_lit he hx, ev_lit he hy, hrun]
    · simp only [Val, Nv.bump, ← hN, ← hh.n, if_true, Bool.false_eq_true, if_false]
      exact ⟨Nat.lt_succ_self _, by omega, trivial⟩
end
end Go.Q
