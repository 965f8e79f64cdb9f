/- Slices of our own: append, literals, make. -/
import Derived.Test.YtnbjdgamindikaaDoorQd
namespace Go.Q
open Go
set_option linter.unusedVariables false
set_option linter.unusedSimpArgs false

/-- A slice type, with all that append asks of its elements. -/
structure ApIs (P : Program) (t el : TypeId) (n bytes : Nat) : Prop where
  t : P.underlying t = some (.slice el)
  h : ∃ i z, P.info? el = some i ∧ i.zero = some z ∧ i.size = n ∧ i.bytes = bytes ∧ z.cells.size = n
  n0 : 0 < n
  b0 : 0 < bytes

/-- What the second argument of an append yields. -/
def SrcOf (P : Program) (E : Env) (M : Mem) (x : Operand) (tx : TypeId) {α : Type} (R : Rd α) (xs : List α) : Prop :=
  ∀ cx nt a w e, Hold cx e M w → Emb nt e M E a → ∃ news, Src P R.sz tx (a.eval x) xs.length news w ∧ rows R e.m xs news

/-- A datum that holds no address. -/
def Rd.flat {α : Type} (R : Rd α) : Prop := ∀ m m' d cs, R.ok m d cs → R.ok m' d cs
theorem Rd.flat_sc {α : Type} {f : α → Value} {hf : ∀ x, (f x).oneCell' = true} : (Rd.sc f hf).flat := fun _ _ _ _ h => h
theorem Rd.flat_pair {α β : Type} {A : Rd α} {B : Rd β} (h : A.flat) (k : B.flat) : (Rd.pair A B).flat := fun m m' d cs ⟨x, y, e, h1, h2⟩ => ⟨x, y, e, h m m' _ _ h1, k m m' _ _ h2⟩
theorem Rd.flat_unit : Rd.unit.flat := fun _ _ _ _ h => h
theorem Rd.flat_via {α β : Type} {A : Rd α} {g : β → α} (h : A.flat) : (Rd.via A g).flat := fun m m' d cs k => h m m' _ _ k

theorem rows_flat {α : Type} {R : Rd α} (h : R.flat) {m m' : Ro} : ∀ {l : List α} {cs : List Value}, rows R m l cs → rows R m' l cs
  | [], _, _ => trivial
  | _ :: _, _, k => ⟨h _ _ _ _ k.1, rows_flat h k.2⟩

section
variable {P : Program} {ty : TypeId} {E : Env} {M : Mem} {tx el : TypeId} {x : Operand} {α : Type} {R : Rd α} {xs : List α}

theorem rows_one {m : Ro} : ∀ {l : List α} {cs : List Value}, rows R m l cs → cs.length = l.length * R.sz → ∀ v ∈ cs, v.oneCell' = true
  | [], cs, _, hn => by have : cs = [] := by simpa using hn
                        subst this; intro v hv; cases hv
  | d :: l, cs, h, hn => by
    intro v hv
    rw [← List.take_append_drop R.sz cs, List.mem_append] at hv
    rcases hv with hv | hv
    · exact R.one h.1 v hv
    · exact rows_one h.2 (by rw [List.length_drop, hn, List.length_cons, Nat.add_mul]; omega) v hv

theorem src_ro_core {b : Bool} {n : Nat} (h : SlIs P tx el n) (hb : b = false ∨ R.flat) (hx : E.ev x = .ro (Rd.slice R) b xs) : SrcOf P E M x tx R xs :=
  fun cx nt a w e hh he => by
    have hv := he.ev x; rw [hx] at hv; simp only [Val, Rd.slice] at hv
    rcases hv with ⟨rfl, ad, c, h1⟩ | ⟨bk, o, c, tt, fr, cap, h1, hc, h2, h3⟩
    · simp at h1
      rw [h1]
      refine ⟨[], ?_, trivial⟩
      exact ⟨.inl ⟨_, h.t⟩, fun _ => rfl, by cases ad <;> simp [Builtin.firstCells, loadCells, loadCellsFrom], by cases ad <;> simp [Builtin.firstCells, loadCells, loadCellsFrom], by simp, fun u hu => by cases hu⟩
    · simp at h1
      have hl := rows_len h3
      have hblk : w.heap[bk]? = some (.cells c tt fr) := (Agree.of_hold hh []).mem h2
      refine ⟨(c.toList.drop o).take (xs.length * R.sz), ?_, ?_⟩
      · rw [h1]
        refine Src.ofSlice w h.t ⟨bk, o, none⟩ xs.length cap _ (by simp at hl ⊢; omega) (fun j u hu => ?_) (fun u hu => rows_one (R := R) (l := xs) (rows_cut h3 (by rw [List.take_take, Nat.min_self])) (by simp at hl ⊢; omega) u hu)
        have hj : j < xs.length * R.sz := by
          have := (List.getElem?_eq_some_iff.1 hu).1
          simp at this; omega
        rw [List.getElem?_take_of_lt hj, List.getElem?_drop] at hu
        rw [add_at, cell_of hblk]
        simpa using hu
      · refine rows_cut (cs := c.toList.drop o) ?_ (by rw [List.take_take, Nat.min_self])
        rcases hb with rfl | hf
        · rw [Nv.mem_false] at h3; exact h3
        · exact rows_flat hf h3

theorem src_ro {n : Nat} (h : SlIs P tx el n) (hx : E.ev x = .ro (Rd.slice R) false xs) : SrcOf P E M x tx R xs := src_ro_core h (.inl rfl) hx
theorem src_bor {n : Nat} (h : SlIs P tx el n) (hf : R.flat) (hx : E.ev x = .ro (Rd.slice R) true xs) : SrcOf P E M x tx R xs := src_ro_core h (.inr hf) hx

theorem src_nil {n : Nat} (h : SlIs P tx el n) (hx : E.ev x = .lit (.slice none 0 0)) : SrcOf P E M x tx R [] :=
  fun cx nt a w e hh he => ⟨[], by rw [ev_lit he hx]; exact Src.ofNil w h.t 0, trivial⟩

theorem src_row {n j : Nat} {ct : TypeId} (h : SlIs P tx el n) (hx : E.ev x = .whole j) (hc : M.at_ j = .row ct R xs) : SrcOf P E M x tx R xs :=
  fun cx nt a w e hh he => by
    have hv := he.ev x; rw [hx] at hv; simp only [Val] at hv
    have hk := hh.ch j hv.1
    rw [hc] at hk
    obtain ⟨g1, g2, g3, g4⟩ := hk
    have hv3 := hv.2.2
    cases hvir : e.vir j with
    | true =>
      rw [hvir] at hv3 g4
      simp only [if_true] at hv3 g4
      subst g4
      rw [hv3.1]
      exact ⟨[], Src.ofNil w h.t 0, trivial⟩
    | false =>
      rw [hvir] at hv3 g4
      simp only [Bool.false_eq_true, if_false] at hv3 g4
      obtain ⟨c, z, hb, _, hcs, hrow⟩ := g4
      have hl := rows_len hrow
      refine ⟨c.toList.take (xs.length * R.sz), ?_, rows_cut hrow (by rw [List.take_take, Nat.min_self])⟩
      rw [hv3, g1]
      refine Src.ofSlice w h.t ⟨e.own j, 0, none⟩ xs.length _ _ (by simp at hl ⊢; omega) (fun k u hu => ?_) (fun u hu => rows_one (R := R) (l := xs) (rows_cut hrow (by rw [List.take_take, Nat.min_self])) (by simp at hl ⊢; omega) u hu)
      have hj : k < xs.length * R.sz := by
        have := (List.getElem?_eq_some_iff.1 hu).1
        simp at this; omega
      rw [List.getElem?_take_of_lt hj] at hu
      rw [add_at, cell_of hb]
      simpa using hu

def strInts (s : ByteArray) : List Int := s.data.toList.map fun b => (b.toNat : Int)

theorem src_str {s : ByteArray} (h : P.underlying tx = some .string) (hx : E.ev x = .lit (.string s)) : SrcOf P E M x tx (Rd.int .u8) (strInts s) :=
  fun cx nt a w e hh he => by
    have hz : (strInts s).length = s.size := by rw [strInts, List.length_map, Array.length_toList]; rfl
    refine ⟨byteCells s, ?_, ?_⟩
    · rw [ev_lit he hx, hz]; exact Src.ofString w h s
    · have : ∀ (l : List UInt8), rows (Rd.int .u8) e.m (l.map fun b => (b.toNat : Int)) (l.map fun b => Value.int .u8 b.toNat) := by
        intro l
        induction l with
        | nil => trivial
        | cons b l ih => exact ⟨rfl, ih⟩
      exact this _

/-- Append onto a slice of our own. -/
theorem d_append {s : Operand} {t ct : TypeId} {n bytes i N : Nat} {l : List α} (h : ApIs P t el n bytes) (hn : R.sz = n) (hs : E.ev s = .whole i) (hc : M.at_ i = .row ct R l) (hct : ct = el) (hx : SrcOf P E M x tx R xs)
    (hlim : decide ((l.length + xs.length) * bytes ≤ 140737488355328) = true) (hN : M.n = N) :
    Does P (.call { callee := .builtin .append, args := #[s, x], argTypes := #[t, tx] }) ty E M [i] (.whole N) ((M.set i .gone).push (.row el R (l ++ xs))) :=
  fun cx nt a w e hh he => by
    subst hn hct
    have hlim' := of_decide_eq_true hlim
    obtain ⟨iT, z, hi, hz, hsz, hby, hzc⟩ := h.h
    have hv := he.ev s; rw [hs] at hv; simp only [Val] at hv
    have hk := hh.ch i hv.1
    rw [hc] at hk
    obtain ⟨g1, g2, g3, g4⟩ := hk
    obtain ⟨news, hsrc, hnews⟩ := hx cx nt a w e hh he
    have hnl : news.length = xs.length * R.sz := hsrc.newsLen
    have hsmall : l.length + xs.length ≤ 140737488355328 := by
      have : (l.length + xs.length) * 1 ≤ (l.length + xs.length) * bytes := Nat.mul_le_mul_left _ h.b0
      omega
    have hmax : l.length + xs.length ≤ maxLen := by simp only [maxLen]; omega
    have hnone : ∀ {m : Ro}, (∀ b o, m b = some o → w.heap[b]? = some o) → m w.heap.size = none := by
      intro m hm
      cases hx : m w.heap.size with
      | none => rfl
      | some o => have := (Array.getElem?_eq_some_iff.1 (hm _ _ hx)).1; omega
    have hrun0 : ∀ v r w', (Builtin.append_ #[t, tx] ty #[a.eval s, a.eval x]).run P w = .ok r w' → a.eval s = v → (exec1 a.eval (.call { callee := .builtin .append, args := #[s, x], argTypes := #[t, tx] }) ty).run P w = .ok (.value r) w' := by
      intro v r w' hr _
      simp [exec1, execOp, resolve, invoke, builtin, hr]
    have hdrop := hh.drop i
    -- a new row
    have grown : ∀ (old : Nat) (base : Option Addr) (olds : List Value), a.eval s = .slice base l.length old → old < l.length + xs.length → olds.length = l.length * R.sz → rows R e.m l olds →
        (Builtin.firstCells iT.size l.length (.slice base l.length old)).run P w.drew = .ok olds.toArray w.drew →
        ∃ x' w' e', (exec1 a.eval (.call { callee := .builtin .append, args := #[s, x], argTypes := #[t, tx] }) ty).run P w = .ok (.value x') w' ∧ Hold cx e' ((M.set i .gone).push (.row ct R (l ++ xs))) w' ∧ (e.le e' ∧ ∀ b, Ro.le (e.mem b) (e'.mem b)) ∧ Val e' (.whole N) x' ∧
          (∀ b, b < w.heap.size → (∀ j ∈ [i], j < e.n → (M.at_ j).live e j → e.own j ≠ b) → w'.heap[b]? = w.heap[b]?) ∧ w.heap.size ≤ w'.heap.size := by
      intro old base olds hev hlt hol hro hfc
      have hrun := run_append_grow_src (P := P) w t tx ty ct iT z h.t hi hz base l.length old olds hfc (a.eval x) xs.length news (by rw [hsz]; exact hsrc) (by omega) (by omega) (growslice_fits hlt (by rw [hby]; exact hlim'))
      have hge := grownCap_ge w (l.length + xs.length) old ct
      have hcm := grownCap_le_maxLen w (l.length + xs.length) old ct hmax
      generalize hcap : grownCap w (l.length + xs.length) old ct = cap at hrun hge hcm
      have hle := e.bump_le w.heap.size cap (l.length + xs.length) false
      have hm := fun b => e.bump_mem w.heap.size cap (l.length + xs.length) false b
      refine ⟨_, _, e.bump w.heap.size cap (l.length + xs.length), hrun0 _ _ _ (by rw [hev]; exact hrun) rfl, ?_, ⟨hle, hm⟩, ?_, ?_, by simp⟩
      · refine hdrop.bind rfl rfl rfl (by simp) (by simp) (fun k hk hlt => heap_alloc_old w.drew _ k hlt) (fun j hj hl => Nat.ne_of_lt (hdrop.live j hj hl).1) hdrop.bag_new (hnone hh.ro) (hnone hh.bro) (.inr hh.size) ?_
        refine ⟨by simp [Nv.bump], by simp only [Nv.bump, if_true, List.length_append]; exact hge, by simp only [Nv.bump, if_true]; exact hcm, ?_⟩
        simp only [Nv.bump, if_true, Bool.false_eq_true, if_false]
        refine ⟨_, _, heap_alloc_new w.drew _, .inl rfl, ?_, ?_⟩
        · simp only [Array.size_append, List.size_toArray, List.length_append, size_zeroCells, hzc, hol, hnl, ← Nat.add_mul]
          congr 1; omega
        · rw [Array.toList_append]
          refine rows_cut (cs := olds ++ news) (rows_append hro hol hnews) ?_
          simp only [List.length_append, Nat.add_mul]
          rw [List.take_of_length_le (by simp [hol, hnl]), List.take_left' (by simp [hol, hnl])]
      · simp only [Val, Nv.bump, ← hN, ← hh.n, if_true, Bool.false_eq_true, if_false]
        exact ⟨Nat.lt_succ_self _, hge, trivial⟩
      · exact fun b hb _ => heap_alloc_old w.drew _ b hb
    have hv3 := hv.2.2
    cases hvir : e.vir i with
    | true =>
      rw [hvir] at hv3 g4
      simp only [if_true] at hv3 g4
      subst g4
      by_cases h0 : xs = []
      · subst h0
        have hn0 : news = [] := List.eq_nil_of_length_eq_zero (by simpa using hnl)
        subst hn0
        have hle := e.bump_le 0 0 0 true
        have hm := fun b => e.bump_mem 0 0 0 true b
        refine ⟨.slice none 0 0, w, e.bump 0 0 0 true, hrun0 _ _ _ ?_ rfl, hdrop.bindVir, ⟨hle, hm⟩, ?_, fun b _ _ => rfl, Nat.le_refl _⟩
        · have hlen := hsrc.len
          rw [hv3.1]
          have hcl := hsrc.cells
          rw [← hsz] at hcl
          simp only [List.length_nil] at hcl hlen
          rcases hsrc.kind with ⟨e', hk⟩ | hk <;> simp [Builtin.append_, run_underlying h.t, run_underlying hk, sizeOf, typeInfo, hi, hlen, hcl]
        · simp only [Val, Nv.bump, ← hN, ← hh.n, if_true]
          exact ⟨Nat.lt_succ_self _, Nat.le_refl _, trivial, trivial⟩
      · have hpos : 0 < xs.length := List.length_pos_iff.2 h0
        exact grown 0 none [] (by simpa using hv3.1) (by simp; exact hpos) (by simp) trivial (by simp [Builtin.firstCells])
    | false =>
      rw [hvir] at hv3 g4
      simp only [Bool.false_eq_true, if_false] at hv3 g4
      rw [g1] at hv3
      obtain ⟨c, z, hb, hz, hcs, hrow⟩ := g4
      have hl := rows_len hrow
      by_cases hroom : l.length + xs.length ≤ e.caps i
      · -- in place
        have hfit : l.length * R.sz + news.length ≤ c.size := by rw [hnl, hcs, ← Nat.add_mul]; exact Nat.mul_le_mul_right _ hroom
        obtain ⟨w', hst, k1, k2, k3, k4, k5, k6⟩ := run_storeCells_row (P := P) news 0 (l.length * R.sz) c.toList w (by simpa using hb) (by simpa [thaw] using hz) (by simpa using hfit) hsrc.one
        have hlive : (M.at_ i).live e i := by rw [hc]; exact hvir
        have hli := hh.live i hv.1 hlive
        have hle := e.bump_le (e.own i) (e.caps i) (l.length + xs.length) false
        have hm := fun b => e.bump_mem (e.own i) (e.caps i) (l.length + xs.length) false b
        refine ⟨.slice (some ⟨e.own i, 0, none⟩) (l.length + xs.length) (e.caps i), w', e.bump (e.own i) (e.caps i) (l.length + xs.length), hrun0 _ _ _ ?_ rfl, ?_, ⟨hle, hm⟩, ?_, fun b _ hne => k6 b (fun hbb => hne i (by simp) hv.1 hlive hbb.symm), by rw [k2]; exact Nat.le_refl _⟩
        · rw [hv3]
          have hcl := hsrc.cells
          rw [← hsz] at hcl hst
          rcases hsrc.kind with ⟨e', hk⟩ | hk <;> simp [Builtin.append_, run_underlying h.t, run_underlying hk, sizeOf, typeInfo, hi, hsrc.len, hroom, hcl, Addr.add_lit, hst]
        · refine hdrop.bind k3 k4 k5 (by rw [k2]; exact Nat.le_refl _) (by rw [k2]; exact hli.1) (fun k hk _ => k6 k hk) (fun j hj hlj => ?_) (fun j hj hm hb => hh.bag.own j hj (by rw [Mem.set_at] at hm; split at hm; exact absurd hm (by simp [Chunk.mark]); exact hm) _ hb i hv.1 hlive rfl) hli.2.1 hli.2.2.1 hli.2.2.2 ?_
          · intro hji
            rw [Mem.set_at] at hlj
            split at hlj
            · exact hlj.elim
            · rename_i hne
              exact hne (hh.dist j i hj hv.1 hlj hlive hji)
          · refine ⟨by simp [Nv.bump], by simp only [Nv.bump, if_true, List.length_append]; exact hroom, by simp only [Nv.bump, if_true]; exact g3, ?_⟩
            simp only [Nv.bump, if_true, Bool.false_eq_true, if_false]
            refine ⟨_, _, k1, by simpa [thaw, setAt_length] using hz, by simp [setAt_length, hcs], ?_⟩
            rw [Nat.add_zero, setAt_list news c.toList (l.length * R.sz) (by simpa using hfit)]
            refine rows_cut (cs := c.toList.take (l.length * R.sz) ++ news) (rows_append (rows_cut hrow (by rw [List.take_take, Nat.min_self])) (by simp at hl ⊢; omega) hnews) ?_
            simp only [List.length_append, Nat.add_mul, ← hnl]
            have hlen : (c.toList.take (l.length * R.sz) ++ news).length = l.length * R.sz + news.length := by simp at hl ⊢; omega
            rw [List.take_of_length_le (by omega), ← hlen, List.toList_toArray, List.take_left]
        · simp only [Val, Nv.bump, ← hN, ← hh.n, if_true, Bool.false_eq_true, if_false]
          exact ⟨Nat.lt_succ_self _, hroom, trivial⟩
      · -- a new row
        refine grown (e.caps i) (some ⟨e.own i, 0, none⟩) (c.toList.take (l.length * R.sz)) hv3 (by omega) (by simp at hl ⊢; omega) (rows_cut hrow (by rw [List.take_take, Nat.min_self])) ?_
        refine run_firstCells_some w.drew iT.size l.length ⟨e.own i, 0, none⟩ l.length _ _ (by rw [hsz]; simp at hl ⊢; omega) (fun k u hu => ?_)
        have hj : k < l.length * R.sz := by
          have := (List.getElem?_eq_some_iff.1 hu).1
          simp at this; omega
        rw [List.getElem?_take_of_lt hj] at hu
        have hb' : w.drew.heap[e.own i]? = some (.cells c ct z) := hb
        rw [add_at, cell_of hb']
        simpa using hu

/-- A name for nil: a row of our own that has no block yet. -/
theorem WPL.vir {cx : Cx} {fr : Fr} {ops : Array Oper} {os : List Oper} {Q : Ex → Env → Mem → Prop} (ct : TypeId) (R : Rd α) {N : Nat} (hN : M.n = N) (tt : Nat) (hv : E.v tt = .lit (.slice none 0 0))
    (k : WPL P cx fr ops os (E.upd tt (.whole N)) (M.push (.row ct R [])) Q) : WPL P cx fr ops os E M Q := by
  intro a w e hh he
  refine k a w (e.bump 0 0 0 true) hh.bindVir ?_
  have h1 : Emb fr.nt (e.bump 0 0 0 true) (M.push (.row ct R [])) E a := he.mono (e.bump_le 0 0 0 true) (fun b => e.bump_mem 0 0 0 true b)
  refine ⟨h1.sz, fun u => ?_, h1.d, h1.o⟩
  rw [Env.upd_v]
  split
  · rename_i hu
    subst hu
    have := h1.v u
    rw [hv] at this
    simp only [Val] at this
    rw [this]
    simp only [Val, Nv.bump, ← hN, ← hh.n, if_true]
    exact ⟨Nat.lt_succ_self _, Nat.le_refl _, trivial, trivial⟩
  · exact h1.v u
end
end Go.Q
