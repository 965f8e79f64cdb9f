/- Texts joined: part 3 of what LStoreRoom stands on. -/
import Derived.Test.YtcaeafojgehamaaSStoreRoomb
import Derived.Maps.RangeRun
import Derived.Test.YtcaeafojgehamaaProg
namespace Go.Q
open Go
set_option linter.unusedVariables false
set_option linter.unusedSimpArgs false
set_option linter.unusedSectionVars false
section
variable {K V : Type} [DecidableEq K]
def dDel (l : List (K × V)) (k : K) : List (K × V) := l.filter fun p => !decide (p.1 = k)
def dPut (l : List (K × V)) (k : K) (v : V) : List (K × V) := dDel l k ++ [(k, v)]
theorem dDel_no : ∀ {l : List (K × V)} {k : K}, (∀ p ∈ l, p.1 ≠ k) → dDel l k = l := by
  intro l k h
  unfold dDel
  rw [List.filter_eq_self]
  intro p hp
  simpa using h p hp
theorem dDel_perm {l l' : List (K × V)} (h : l.Perm l') (k : K) : (dDel l k).Perm (dDel l' k) := h.filter _
theorem keys_perm {l l' : List (K × V)} (h : l.Perm l') : (l.map (·.1)).Perm (l'.map (·.1)) := h.map _
theorem dDel_keys {l : List (K × V)} (h : (l.map (·.1)).Nodup) (k : K) : ((dDel l k).map (·.1)).Nodup := h.sublist ((List.filter_sublist).map _)
theorem dPut_keys {l : List (K × V)} (h : (l.map (·.1)).Nodup) (k : K) (v : V) : ((dPut l k v).map (·.1)).Nodup := by
  unfold dPut
  rw [List.map_append, List.map_cons, List.map_nil, List.nodup_append]
  refine ⟨dDel_keys h k, by simp, fun a ha b hb => ?_⟩
  rw [List.mem_singleton] at hb
  subst hb
  rintro rfl
  obtain ⟨p, hp, h1⟩ := List.mem_map.1 ha
  unfold dDel at hp
  rw [List.mem_filter] at hp
  simp [h1] at hp
/-- At the place of a key: around it. -/
theorem at_key : ∀ {l : List (K × V)} {j : Nat} {k : K} {v : V}, (l.map (·.1)).Nodup → l[j]? = some (k, v) → ∃ a b, l = a ++ (k, v) :: b ∧ a.length = j ∧ dDel l k = a ++ b
  | [], j, k, v, _, h => by simp at h
  | p :: l, 0, k, v, hn, h => by
    simp at h; subst h
    refine ⟨[], l, rfl, rfl, ?_⟩
    rw [List.map_cons, List.nodup_cons] at hn
    unfold dDel
    rw [List.filter_cons]
    simp only [decide_true, Bool.not_true, Bool.false_eq_true, if_false, List.nil_append]
    exact dDel_no (fun q hq h => hn.1 (h ▸ List.mem_map_of_mem (f := (·.1)) hq))
  | p :: l, j + 1, k, v, hn, h => by
    rw [List.map_cons, List.nodup_cons] at hn
    obtain ⟨a, b, h1, h2, h3⟩ := at_key hn.2 (by simpa using h)
    refine ⟨p :: a, b, by rw [h1]; rfl, by simp [h2], ?_⟩
    have hp : p.1 ≠ k := by
      rintro rfl
      exact hn.1 (List.mem_map.2 ⟨(p.1, v), by rw [h1]; simp, rfl⟩)
    unfold dDel at h3 ⊢
    rw [List.filter_cons, h3]
    simp [hp]
theorem mapGet_mem : ∀ {l : List (K × V)} {k : K} {v : V}, (l.map (·.1)).Nodup → (mapGet l k = some v ↔ (k, v) ∈ l)
  | [], k, v, _ => by simp [mapGet_nil]
  | p :: l, k, v, hn => by
    rw [List.map_cons, List.nodup_cons] at hn
    rw [mapGet_cons]
    split
    · rename_i h
      subst h
      constructor
      · intro h; cases h; simp
      · intro h
        rcases List.mem_cons.1 h with h | h
        · rw [← h]
        · exact absurd (List.mem_map.2 ⟨_, h, rfl⟩) hn.1
    · rename_i h
      rw [mapGet_mem hn.2]
      constructor
      · exact fun h => List.mem_cons_of_mem _ h
      · intro h'
        rcases List.mem_cons.1 h' with h' | h'
        · exact absurd (by rw [← h']) h
        · exact h'
theorem mapGet_perm {l l' : List (K × V)} (h : l.Perm l') (hn : (l.map (·.1)).Nodup) (k : K) : mapGet l k = mapGet l' k := by
  have hn' : (l'.map (·.1)).Nodup := (keys_perm h).nodup_iff.1 hn
  cases hx : mapGet l k with
  | some v => exact ((mapGet_mem hn').2 (h.mem_iff.1 ((mapGet_mem hn).1 hx))).symm
  | none =>
    cases hy : mapGet l' k with
    | none => rfl
    | some v => rw [(mapGet_mem hn).2 (h.mem_iff.2 ((mapGet_mem hn').1 hy))] at hx; cases hx
/-- Each with the others. -/
def picks {α : Type} : List α → List (α × List α)
  | [] => []
  | a :: l => (a, l) :: (picks l).map fun p => (p.1, a :: p.2)
theorem picks_mem {α : Type} : ∀ {l : List α} {a : α}, a ∈ l → ∃ r, (a, r) ∈ picks l ∧ (a :: r).Perm l
  | [], a, h => by simp at h
  | b :: l, a, h => by
    by_cases hb : a = b
    · subst hb; exact ⟨l, by simp [picks], List.Perm.refl _⟩
    · have ha : a ∈ l := by
        rcases List.mem_cons.1 h with h | h
        · exact absurd h hb
        · exact h
      obtain ⟨r, h1, h2⟩ := picks_mem ha
      exact ⟨b :: r, List.mem_cons_of_mem _ (List.mem_map.2 ⟨(a, r), h1, rfl⟩), (List.Perm.swap b a r).trans (h2.cons b)⟩
end
/-- Keys that are told by a look. -/
structure DKey (P : Program) (kt : TypeId) {K : Type} [DecidableEq K] (fk : K → Value) : Prop where
  h : ∃ kd, P.underlying kt = some kd ∧ (∀ k, MapKept.IsKey kd (fk k)) ∧ ∀ a b, Instr.sameNow kd (fk a) (fk b) = some (decide (a = b))
section
variable {P : Program} {K V : Type} [DecidableEq K] {fk : K → Value} {R : Rd V} {kt : TypeId} {ty : TypeId} {E : Env} {M : Mem}
theorem bytes_beq (a b : ByteArray) : (a == b) = decide (a = b) := by
  cases a with
  | mk x => cases b with
    | mk y =>
      show (x == y) = _
      by_cases h : x = y
      · subst h; simp
      · rw [beq_eq_false_iff_ne.2 h, decide_eq_false (fun e => h (ByteArray.mk.inj e))]
theorem dKey_str (ht : P.underlying kt = some .string) : DKey P kt Value.string := ⟨_, ht, fun _ => trivial, fun a b => by simp only [Instr.sameNow]; rw [bytes_beq]⟩
theorem dKey_int {q : IntKind} (ht : P.underlying kt = some (.int q)) : DKey P kt (Value.int q) := ⟨_, ht, fun _ => rfl, fun a b => by
  simp only [Instr.sameNow, if_true]
  by_cases h : a = b
  · subst h; simp
  · simp [h]⟩
theorem find_es {kd : TypeDesc} (h : ∀ a b, Instr.sameNow kd (fk a) (fk b) = some (decide (a = b))) (k : K) : ∀ (es : List MapEntry) (l : List (K × V)) (n : Nat), l.length = es.length → (∀ (i : Nat) (p : K × V), l[i]? = some p → ∃ x : MapEntry, es[i]? = some x ∧ x.key = fk p.1) →
    match mapIx k n l with
    | none => Instr.findNow kd (fk k) es n = some none
    | some (j, _) => ∃ x : MapEntry, n ≤ j ∧ es[j - n]? = some x ∧ x.key = fk k ∧ Instr.findNow kd (fk k) es n = some (some (j, x.val))
  | [], [], n, _, _ => rfl
  | [], p :: l, n, hl, _ => by simp at hl
  | x :: es, [], n, hl, _ => by simp at hl
  | x :: es, p :: l, n, hl, hk => by
    obtain ⟨x', h1, h2⟩ := hk 0 p (by simp)
    simp at h1
    subst h1
    unfold mapIx
    by_cases e : k = p.1
    · rw [if_pos e]
      exact ⟨x, Nat.le_refl _, by simp, by rw [e]; exact h2, by simp only [Instr.findNow, h2, h, decide_eq_true e]⟩
    · rw [if_neg e]
      have ih := find_es h k es l (n + 1) (by simpa using hl) (fun i q hq => by
        obtain ⟨y, g1, g2⟩ := hk (i + 1) q (by simpa using hq)
        exact ⟨y, by simpa using g1, g2⟩)
      have e1 : Instr.findNow kd (fk k) (x :: es) n = Instr.findNow kd (fk k) es (n + 1) := by simp only [Instr.findNow, h2, h, decide_eq_false e]
      rw [e1]
      cases hm : mapIx k (n + 1) l with
      | none => rw [hm] at ih; exact ih
      | some q =>
        obtain ⟨j, v⟩ := q
        rw [hm] at ih
        obtain ⟨y, g0, g1, g2, g3⟩ := ih
        refine ⟨y, by omega, ?_, g2, g3⟩
        rw [show j - n = (j - (n + 1)) + 1 by omega, List.getElem?_cons_succ]
        exact g1
/-- What is found in a map. -/
theorem dict_find {m : Ro} {es : Array MapEntry} {clock : Nat} {l : List (K × V)} (hk : DKey P kt fk) (hd : dictIs fk R m es clock l) (k : K) :
    (mapGet l k = none ∧ (∀ p ∈ l, p.1 ≠ k) ∧ ∀ w, (Instr.findKey kt (fk k) es.toList).run P w = .ok none w) ∨
    ∃ (v : V) (j : Nat) (x : MapEntry) (l' : List (K × V)), mapGet l k = some v ∧ l'.Perm l ∧ l'.length = es.size ∧ (∀ (i : Nat) (p : K × V), l'[i]? = some p → ∃ x : MapEntry, es.toList[i]? = some x ∧ x.key = fk p.1 ∧ R.ok m p.2 [x.val]) ∧
      l'[j]? = some (k, v) ∧ es.toList[j]? = some x ∧ x.key = fk k ∧ R.ok m v [x.val] ∧ ∀ w, (Instr.findKey kt (fk k) es.toList).run P w = .ok (some (j, x.val)) w := by
  obtain ⟨kd, hkd, hik, hnow⟩ := hk.h
  obtain ⟨h0, h1, h2, h3, l', h4, h5, h6⟩ := hd
  have hn' : (l'.map (·.1)).Nodup := (keys_perm h4).nodup_iff.2 h3
  have hf := find_es (l := l') hnow k es.toList 0 (by simpa using h5) (fun i p hp => by obtain ⟨x, g1, g2, _⟩ := h6 i p hp; exact ⟨x, g1, g2⟩)
  have hg := mapGet_perm h4 hn' k
  cases hm : mapIx k 0 l' with
  | none =>
    rw [hm] at hf
    refine .inl ⟨by rw [← hg]; simp [mapGet, hm], fun p hp => mapIx_none hm p (h4.mem_iff.2 hp), fun w => MapKept.run_findKey hkd hf⟩
  | some q =>
    obtain ⟨j, v⟩ := q
    rw [hm] at hf
    obtain ⟨x, _, g1, g2, g3⟩ := hf
    have hj := (mapIx_some hm).2
    rw [Nat.sub_zero] at g1 hj
    obtain ⟨x', k1, k2, k3⟩ := h6 j _ hj
    rw [g1] at k1
    cases k1
    exact .inr ⟨v, j, x, l', by rw [← hg]; simp [mapGet, hm], h4, h5, h6, hj, g1, g2, k3, fun w => MapKept.run_findKey hkd g3⟩
/-- A new map. -/
theorem d_makeDict {t : TypeId} {N : Nat} (fk : K → Value) (R : Rd V) (hz : R.sz = 1) (hn : M.n = N) : Does P (.makeMap t none) ty E M [] (.mp N) (M.push (.dict fk R ([] : List (K × V)) none)) :=
  fun cx nt a w e hh he => by
    have hle := e.bump_le w.heap.size 0 0 false
    have hm := fun b => e.bump_mem w.heap.size 0 0 false b
    refine ⟨.map (some w.heap.size), w.alloc (.map #[] 0), e.bump w.heap.size 0 0, ?_, ?_, ⟨hle, hm⟩, ?_, ?_, by simp⟩
    · simp [exec1, execOp, Instr.makeMap]
    · refine hh.bind rfl rfl rfl (by simp) (by simp) (fun k hk hlt => alloc_old w _ k hlt) (fun i hi hl => Nat.ne_of_lt (hh.live i hi hl).1) hh.bag_new hh.none_new.1 hh.none_new.2 (.inr hh.size) ?_
      refine ⟨by simp [Nv.bump], #[], 0, ?_, ⟨hz, by simp, by simp, by simp, [], List.Perm.refl _, rfl, fun i p hp => by simp at hp⟩, fun p hp => by cases hp⟩
      simp only [Nv.bump, if_true]
      exact heap_alloc_new w _
    · simp only [Val, Nv.bump, ← hn, ← hh.n, if_true]
      exact ⟨Nat.lt_succ_self _, trivial, trivial⟩
    · exact fun b hb _ => alloc_old w _ b hb
/-- A look into a map. -/
theorem q_lookupD {t el : TypeId} {x y : Operand} {i : Nat} {l : List (K × V)} {g : Option (Array MapEntry × Nat)} {k : K} {z : V} {zv : Value} (hk : DKey P kt fk) (ht : P.underlying t = some (.map kt el)) (hz : ∃ i, P.info? el = some i ∧ i.zero = some zv) (hzo : ∀ m, R.ok m z [zv]) (hx : E.ev x = .mp i) (hc : M.at_ i = .dict fk R l g)
    (hy : E.ev y = .lit (fk k)) : Quiet P (.lookup t x y false) ty E M [i] (.ro R false ((mapGet l k).getD z)) :=
  fun cx nt a w e hh he => by
    have hp := he.ev x; rw [hx] at hp; simp only [Val] at hp
    have hb := hh.ch i hp.1; rw [hc] at hb
    obtain ⟨_, es, clock, hb1, hd, _⟩ := hb
    have hv := he.ev y; rw [hy] at hv; simp only [Val] at hv
    have hchk : ∀ (b : Bool) (w : World), (Instr.checkKey b 10000 kt (fk k)).run P w = .ok () w := fun b w => by
      obtain ⟨kd, hkd, hik, _⟩ := hk.h
      exact MapKept.run_checkKey hkd (hik k) b 9999
    rcases dict_find hk hd k with ⟨h1, _, h3⟩ | ⟨v, j, x', l', h1, _, _, _, _, _, _, hok, h3⟩
    · refine ⟨zv, by simp only [Val, Nv.mem_false]; rw [h1]; exact hzo _, fun w1 hw => ?_⟩
      have hb2 := (hw.own i (by simp) hp.1 hp.2.1).trans hb1
      simp only [exec1, execOp, hp.2.2, hv, Instr.lookup, Sem.run_bind, run_underlying ht, Result.andThen, MapKept.run_getObj_map hb2, hchk, h3, Sem.run_pure, zv_of hz]
      rfl
    · refine ⟨x'.val, by simp only [Val, Nv.mem_false]; rw [h1]; exact hok, fun w1 hw => ?_⟩
      have hb2 := (hw.own i (by simp) hp.1 hp.2.1).trans hb1
      simp only [exec1, execOp, hp.2.2, hv, Instr.lookup, Sem.run_bind, run_underlying ht, Result.andThen, MapKept.run_getObj_map hb2, hchk, h3, Sem.run_pure]
      rfl
theorem q_lenD {t el : TypeId} {x : Operand} {i : Nat} {l : List (K × V)} {g : Option (Array MapEntry × Nat)} (ht : P.underlying t = some (.map kt el)) (hx : E.ev x = .mp i) (hc : M.at_ i = .dict fk R l g) :
    Quiet P (.call { callee := .builtin .len, args := #[x], argTypes := #[t] }) ty E M [i] (.lit (.int .i64 ((l.length : Nat) : Int))) :=
  fun cx nt a w e hh he => by
    have hp := he.ev x; rw [hx] at hp; simp only [Val] at hp
    have hb := hh.ch i hp.1; rw [hc] at hb
    obtain ⟨_, es, clock, hb1, ⟨_, _, _, _, l', h4, h5, _⟩, _⟩ := hb
    refine ⟨.int .i64 ((l.length : Nat) : Int), by simp [Val], fun w1 hw => ?_⟩
    have hb2 := (hw.own i (by simp) hp.1 hp.2.1).trans hb1
    have : es.size = l.length := by rw [← h5, h4.length_eq]
    simp [exec1, execOp, resolve, invoke, builtin, Builtin.len_, hp.2.2, run_underlying ht, MapKept.run_getObj_map hb2, Result.andThen, goInt, this]
theorem mod_map {α β : Type} {f : α → α} {g : α → β} (h : ∀ x, g (f x) = g x) : ∀ (l : List α) (j : Nat), (l.modify j f).map g = l.map g
  | [], j => by simp
  | x :: l, 0 => by simp [h]
  | x :: l, j + 1 => by rw [List.modify_succ_cons, List.map_cons, List.map_cons, mod_map h l j]
/-- A map is written anew. -/
theorem Hold.dictSet {cx : Cx} {e : Nv} {w : World} (hh : Hold cx e M w) {i : Nat} (hi : i < e.n) {l l2 : List (K × V)} {g : Option (Array MapEntry × Nat)} (hc : M.at_ i = .dict fk R l g) {es : Array MapEntry} {clock : Nat} (hd : dictIs fk R e.m es clock l2) :
    Hold cx e (M.set i (.dict fk R l2 none)) (w.putObj (e.own i) (.map es clock)) := by
  have hlive : (M.at_ i).live e i := by rw [hc]; trivial
  have hb := hh.ch i hi; rw [hc] at hb
  refine hh.change hi hlive rfl rfl rfl (by simp [World.putObj]) (fun k hk => World.putObj_heap_other hk) ⟨hb.1, es, clock, World.putObj_heap_same (hh.live i hi hlive).1, hd, fun p hp => by cases hp⟩
theorem s_updD {t el : TypeId} {x y u : Operand} {i : Nat} {l : List (K × V)} {k : K} {v : V} {b : AVal} (hk : DKey P kt fk) (ht : P.underlying t = some (.map kt el)) (hx : E.ev x = .mp i) (hc : M.at_ i = .dict fk R l none) (hy : E.ev y = .lit (fk k)) (hu : E.ev u = b) (hj : Joins R false v [b]) (h1c : b.one = true) :
    DoesS P (.mapUpdate t x y u) ty E M [i] (M.set i (.dict fk R (dPut l k v) none)) :=
  fun cx nt a w e hh he => by
    have hp := he.ev x; rw [hx] at hp; simp only [Val] at hp
    have hb := hh.ch i hp.1; rw [hc] at hb
    obtain ⟨_, es, clock, hb1, hd, _⟩ := hb
    have hv := he.ev y; rw [hy] at hv; simp only [Val] at hv
    have hw := he.ev u; rw [hu] at hw
    obtain ⟨kd, hkd, hik, _⟩ := hk.h
    have hchk : ∀ (b : Bool) (w : World), (Instr.checkKey b 10000 kt (fk k)).run P w = .ok () w := fun b w => MapKept.run_checkKey hkd (hik k) b 9999
    have hok : R.ok e.m v [a.eval u] := by
      have := hj e [a.eval u] (by simp only [Vals]; exact ⟨_, _, rfl, hw, rfl⟩) (fun z hz => by rw [List.mem_singleton] at hz; subst hz; exact hw.one h1c)
      rwa [Nv.mem_false] at this
    have hlive : (M.at_ i).live e i := by rw [hc]; trivial
    have hfr : ∀ (o : Obj) b, b < w.heap.size → (∀ j ∈ [i], j < e.n → (M.at_ j).live e j → e.own j ≠ b) → (w.putObj (e.own i) o).heap[b]? = w.heap[b]? := fun o b _ hne => World.putObj_heap_other (fun h => hne i (by simp) hp.1 hlive h.symm)
    have hd0 := hd
    obtain ⟨d0, d1, d2, d3, _⟩ := hd
    rcases dict_find hk hd0 k with ⟨h1, h2, h3⟩ | ⟨v0, j, x', l', h1, g4, g5, g6, gj, gx, gk, _, h3⟩
    · obtain ⟨l', h4, h5, h6⟩ := hd0.2.2.2.2
      refine ⟨w.putObj (e.own i) (.map (es.push ⟨fk k, a.eval u, clock⟩) (clock + 1)), e, ?_, hh.dictSet hp.1 hc ⟨d0, ?_, ?_, dPut_keys d3 k v, l' ++ [(k, v)], ?_, by simp [h5], ?_⟩, ⟨Nv.le.refl e, fun _ => Ro.le.refl _⟩, fun b hb hne {_} => hfr _ b hb hne, by simp [World.putObj]⟩
      · simp only [exec1, execOp, hp.2.2, hv, Instr.mapUpdate, Sem.run_bind, run_underlying ht, Result.andThen, MapKept.run_getObj_map hb1, hchk, h3, MapKept.run_setObj_map _ hb1, Sem.run_pure]
        simp [World.putObj]
      · simp only [Array.toList_push, List.map_append, List.map_cons, List.map_nil, List.nodup_append]
        refine ⟨d1, by simp, fun p hp' q hq => ?_⟩
        rw [List.mem_singleton] at hq
        subst hq
        obtain ⟨y, hy1, rfl⟩ := List.mem_map.1 hp'
        exact Nat.ne_of_lt (d2 y hy1)
      · intro y hy1
        simp only [Array.toList_push, List.mem_append, List.mem_singleton] at hy1
        rcases hy1 with hy1 | rfl
        · exact Nat.lt_succ_of_lt (d2 y hy1)
        · exact Nat.lt_succ_self _
      · unfold dPut
        rw [dDel_no h2]
        exact h4.append_right _
      · intro q p hq
        rw [List.getElem?_append] at hq
        simp only [Array.toList_push]
        split at hq
        · rename_i hlt
          obtain ⟨y, k1, k2, k3⟩ := h6 q p hq
          exact ⟨y, by rw [List.getElem?_append_left (by simp; omega)]; exact k1, k2, k3⟩
        · rename_i hge
          have : q - l'.length = 0 := by
            cases hx : q - l'.length with
            | zero => rfl
            | succ n => rw [hx] at hq; simp at hq
          rw [this] at hq
          simp at hq
          subst hq
          refine ⟨⟨fk k, a.eval u, clock⟩, ?_, rfl, hok⟩
          have hes : es.toList.length = es.size := by simp
          rw [List.getElem?_append_right (by omega), show q - es.toList.length = 0 by omega]
          rfl
    · have hjs : es[j]? = some x' := by simpa using gx
      have hstay : (Instr.keyThatStays x'.key (fk k)).run P w = .ok (fk k) w := by rw [gk]; exact MapKept.run_keyThatStays (hik k)
      have hn' : (l'.map (·.1)).Nodup := (keys_perm g4).nodup_iff.2 d3
      obtain ⟨p1, p2, e1, e2, e3⟩ := at_key hn' gj
      refine ⟨w.putObj (e.own i) (.map (es.modify j fun y => { y with key := fk k, val := a.eval u }) clock), e, ?_, hh.dictSet hp.1 hc ⟨d0, ?_, ?_, dPut_keys d3 k v, l'.set j (k, v), ?_, by simp [g5], ?_⟩, ⟨Nv.le.refl e, fun _ => Ro.le.refl _⟩, fun b hb hne {_} => hfr _ b hb hne, by simp [World.putObj]⟩
      · simp only [exec1, execOp, hp.2.2, hv, Instr.mapUpdate, Sem.run_bind, run_underlying ht, Result.andThen, MapKept.run_getObj_map hb1, hchk, h3, hjs, Option.map_some, Option.getD_some, hstay, MapKept.run_setObj_map _ hb1, Sem.run_pure]
        simp [World.putObj]
      · rw [Array.toList_modify, show ((es.toList.modify j fun y => { y with key := fk k, val := a.eval u }).map (·.born)) = es.toList.map (·.born) from mod_map (f := fun y : MapEntry => { y with key := fk k, val := a.eval u }) (g := fun y : MapEntry => y.born) (fun _ => rfl) _ _]
        exact d1
      · intro y hy1
        rw [Array.toList_modify] at hy1
        obtain ⟨q, hq, hq2⟩ := List.mem_iff_getElem.1 hy1
        have hq' : q < es.toList.length := by simpa using hq
        rw [List.getElem_modify] at hq2
        split at hq2
        · rw [← hq2]; exact (show es.toList[q].born < clock from d2 _ (List.getElem_mem _))
        · rw [← hq2]; exact d2 _ (List.getElem_mem _)
      · have e4 : l'.set j (k, v) = p1 ++ (k, v) :: p2 := by rw [e1, ← e2]; simp
        rw [e4]
        unfold dPut
        have h7 : (dDel l k).Perm (p1 ++ p2) := by rw [← e3]; exact dDel_perm g4.symm k
        refine List.Perm.trans ?_ (h7.symm.append_right _)
        rw [List.append_assoc]
        exact List.Perm.append_left p1 (List.perm_append_comm (l₁ := [(k, v)]) (l₂ := p2))
      · intro q p hq
        rw [List.getElem?_set] at hq
        rw [Array.toList_modify, List.getElem?_modify]
        split at hq
        · rename_i hjq
          subst hjq
          split at hq
          · cases hq
            refine ⟨{ x' with key := fk k, val := a.eval u }, ?_, rfl, hok⟩
            rw [gx]; simp
          · cases hq
        · rename_i hjq
          obtain ⟨y, k1, k2, k3⟩ := g6 q p hq
          refine ⟨y, ?_, k2, k3⟩
          rw [k1]; simp [hjq]
end
end Go.Q
namespace Go.Q
open Go
set_option linter.unusedVariables false
set_option linter.unusedSimpArgs false
set_option linter.unusedSectionVars false
section
variable {P : Program} {E : Env} {M : Mem} {ty : TypeId}
/-- A value is put into the pool. -/
theorem d_boxP {t : TypeId} {α : Type} {R : Rd α} {l : List α} {d0 : α} {x : Operand} {cs : List AVal} (hx : (E.ev x).cells = some cs) (hj : Joins R false d0 cs) (hp : M.pool = some ⟨t, α, R, l⟩) :
    Does P (.box t x) ty E M [poolIx] (.ro (Rd.pp 0) false (some l.length)) (M.withP t R (l ++ [d0])) :=
  fun cx nt a w e hh he => by
    obtain ⟨vs, h1, h2, h3⟩ := cells_vals (he.ev x) hx
    have hok := hj e vs h2 h3
    rw [Nv.mem_false] at hok
    obtain ⟨hk, hn'⟩ := hh.poolNew hp (R.len hok) hok
    refine ⟨.pointer (some ⟨w.heap.size, 0, none⟩), w.alloc (.cells vs.toArray t), e.tabNew l.length w.heap.size, ?_, hn', ⟨⟨Nv.tabNew_le hk, Ro.le.refl _, Nat.le_refl _, fun _ _ => rfl, fun _ _ => rfl, fun _ _ => rfl, fun _ _ => rfl, fun _ _ => rfl⟩, Nv.tabNew_mem hk⟩, ?_, ?_, by simp⟩
    · simp [exec1, execOp, Instr.box, newVar, newRow, h1]
    · simp only [Val, Rd.pp]
      exact ⟨w.heap.size, by simp [Nv.mem, Nv.tabNew], rfl⟩
    · exact fun b hb _ => alloc_old w _ b hb
theorem q_nilCheckP {x : Operand} {b : Bool} {d : Option Nat} {k : Nat} (hx : E.ev x = .ro (Rd.pp 0) b d) (hd : d = some k) : Quiet P (.nilCheck x) ty E M [] (.ro (Rd.pp 0) b (some k)) :=
  fun _ _ a _ _ _ he => by
    subst hd
    have hv := he.ev x
    rw [hx] at hv
    refine ⟨a.eval x, hv, fun w _ => ?_⟩
    simp only [Val, Rd.pp] at hv
    obtain ⟨ad, h1, h2⟩ := hv
    simp at h2
    simp [exec1, execOp, h2]
theorem Joins.ppNil {b : Bool} : Joins (Rd.pp 0) b none [.lit (.pointer none)] := fun e vs h1 h2 => by
  simp only [Vals, Val] at h1
  obtain ⟨v, ws, rfl, rfl, rfl⟩ := h1
  rfl
/-- Is a map nil? -/
theorem q_eqlMp {t k el yt : TypeId} {x : Operand} {i : Nat} (ht : P.underlying t = some (.map k el)) (hx : E.ev x = .mp i) : Quiet P (.binOp .eql t x (.const (.map none)) yt) ty E M [] (.lit (.bool false)) :=
  fun _ _ a _ e _ he => by
    have hv := he.ev x; rw [hx] at hv; simp only [Val] at hv
    refine ⟨.bool false, by simp [Val], fun w _ => ?_⟩
    have he : (Op.equal t (.map (some (e.own i))) (.map none)).run P w = .ok false w := by
      have h1 : ∀ d : Nat, (Op.equalIn (d + 1) t (.map (some (e.own i))) (.map none)).run P w = .ok false w := fun d => by simp [Op.equalIn, run_underlying ht]
      exact h1 9999
    have hr : (binOp .eql t (.map (some (e.own i))) (.map none)).run P w = .ok (.bool false) w := by
      simp only [binOp, Sem.run_bind, he, Result.andThen, Sem.run_pure]
    simp only [exec1, execOp, hv.2.2, eval_const, g_map, Sem.run_bind, Sem.run_pure, Result.andThen, hr]
theorem q_assertMp {t k el xT : TypeId} {x : Operand} {v : AVal} (ht : P.underlying t = some (.map k el)) (hx : E.ev x = .ifc t v) : Quiet P (.typeAssert x xT t false) ty E M [] v :=
  fun _ _ a _ e _ he => by
    have hv := he.ev x; rw [hx] at hv; simp only [Val] at hv
    obtain ⟨y, h1, h2⟩ := hv
    refine ⟨y, h2, fun w _ => ?_⟩
    have hr : (Instr.typeAssert (.iface t y) xT t false).run P w = .ok y w := by simp [Instr.typeAssert, run_underlying ht, go_sem, Result.andThen]
    simp [exec1, execOp, h1, hr]
variable {K V : Type} [DecidableEq K] {fk : K → Value} {R : Rd V} {kt : TypeId} {fo : Operand} {f : FuncId} {tys : Array TypeId}
theorem dictIs.perm {m : Ro} {es : Array MapEntry} {clock : Nat} {l l2 : List (K × V)} (h : dictIs fk R m es clock l) (hp : l.Perm l2) : dictIs fk R m es clock l2 := by
  obtain ⟨h0, h1, h2, h3, l', h4, h5, h6⟩ := h
  exact ⟨h0, h1, h2, (keys_perm hp).nodup_iff.1 h3, l', h4.trans hp, h5, h6⟩
/-- maps.clone. -/
theorem d_mapsClone {x : Operand} {t : TypeId} {i N : Nat} {l : List (K × V)} {g : Option (Array MapEntry × Nat)} (hfn : ExtIs P f Extern.MapsClone.clone) (hcal : E.ev fo = .fn f []) (hx : E.ev x = .ifc t (.mp i)) (hc : M.at_ i = .dict fk R l g) (hN : M.n = N) :
    Does P (.call { callee := .value fo, args := #[x], argTypes := tys }) ty E M [] (.ifc t (.mp N)) (M.push (.dict fk R l none)) :=
  fun cx nt a w e hh he => by
    have hv := he.ev x; rw [hx] at hv; simp only [Val] at hv
    obtain ⟨y, h1, h2, h2', rfl⟩ := hv
    have hb := hh.ch i h2; rw [hc] at hb
    obtain ⟨_, es, clock, hb1, hd, _⟩ := hb
    have hle := e.bump_le w.heap.size 0 0 false
    have hm := fun b => e.bump_mem w.heap.size 0 0 false b
    refine ⟨.iface t (.map (some w.heap.size)), w.alloc (.map es clock), e.bump w.heap.size 0 0, ?_, ?_, ⟨hle, hm⟩, ?_, ?_, by simp⟩
    · refine run_ext hfn (fn_eval he hcal) ?_
      simp only [List.map_toArray, List.map_cons, List.map_nil, h1]
      have hd : Extern.MapsClone.clone #[.iface t (.map (some (e.own i)))] = (do
        let o ← getObj (e.own i)
        match o with
        | .map entries clock => do
          let n ← newObj (.map entries clock)
          pure (.iface t (.map (some n)))
        | _ => stuck "maps.clone: a map expected") := rfl
      rw [hd]
      simp [MapKept.run_getObj_map hb1, Result.andThen, go_sem]
    · refine hh.bind rfl rfl rfl (by simp) (by simp) (fun k hk hlt => alloc_old w _ k hlt) (fun i hi hl => Nat.ne_of_lt (hh.live i hi hl).1) hh.bag_new hh.none_new.1 hh.none_new.2 (.inr hh.size) ?_
      refine ⟨by simp [Nv.bump], es, clock, ?_, hd.mono (hle.m), fun p hp => by cases hp⟩
      simp only [Nv.bump, if_true]
      exact heap_alloc_new w _
    · simp only [Val, Nv.bump, ← hN, ← hh.n, if_true]
      exact ⟨_, rfl, Nat.lt_succ_self _, trivial, rfl⟩
    · exact fun b hb _ => alloc_old w _ b hb
/-- A key goes. -/
theorem d_delete {t el : TypeId} {x y : Operand} {i : Nat} {l : List (K × V)} {k : K} (hk : DKey P kt fk) (ht : P.underlying t = some (.map kt el)) (hx : E.ev x = .mp i) (hc : M.at_ i = .dict fk R l none) (hy : E.ev y = .lit (fk k)) :
    Does P (.call { callee := .builtin .delete, args := #[x, y], argTypes := #[t, kt] }) ty E M [i] (.tup []) (M.set i (.dict fk R (dDel l k) none)) :=
  fun cx nt a w e hh he => by
    have hp := he.ev x; rw [hx] at hp; simp only [Val] at hp
    have hb := hh.ch i hp.1; rw [hc] at hb
    obtain ⟨_, es, clock, hb1, hd, _⟩ := hb
    have hv := he.ev y; rw [hy] at hv; simp only [Val] at hv
    obtain ⟨kd, hkd, hik, _⟩ := hk.h
    have hchk : ∀ (b : Bool) (w : World), (Instr.checkKey b 10000 kt (fk k)).run P w = .ok () w := fun b w => MapKept.run_checkKey hkd (hik k) b 9999
    have hlive : (M.at_ i).live e i := by rw [hc]; trivial
    have hfr : ∀ (o : Obj) b, b < w.heap.size → (∀ j ∈ [i], j < e.n → (M.at_ j).live e j → e.own j ≠ b) → (w.putObj (e.own i) o).heap[b]? = w.heap[b]? := fun o b _ hne => World.putObj_heap_other (fun h => hne i (by simp) hp.1 hlive h.symm)
    have hd0 := hd
    obtain ⟨d0, d1, d2, d3, _⟩ := hd
    rcases dict_find hk hd0 k with ⟨h1, h2, h3⟩ | ⟨v0, j, x', l', h1, g4, g5, g6, gj, gx, gk, _, h3⟩
    · refine ⟨.tuple #[], w.putObj (e.own i) (.map es clock), e, ?_, hh.dictSet hp.1 hc (by rw [dDel_no h2]; exact hd0), ⟨Nv.le.refl e, fun _ => Ro.le.refl _⟩, by simp [Val, Vals], fun b hb hne {_} => hfr _ b hb hne, by simp [World.putObj]⟩
      simp only [exec1, execOp, resolve, invoke, builtin, List.map_toArray, List.map_cons, List.map_nil, hp.2.2, hv, Builtin.delete_, Sem.run_bind, run_underlying ht, Result.andThen, MapKept.run_getObj_map hb1, hchk, h3, MapKept.run_setObj_map _ hb1, Sem.run_pure]
      simp [World.putObj, hp.2.2, hv, run_underlying ht, MapKept.run_getObj_map hb1, hchk, h3, MapKept.run_setObj_map _ hb1, Result.andThen]
    · have hn' : (l'.map (·.1)).Nodup := (keys_perm g4).nodup_iff.2 d3
      obtain ⟨p1, p2, e1, e2, e3⟩ := at_key hn' gj
      have hjs : j < es.size := by rw [← g5, e1, ← e2]; simp
      have her : (es.eraseIdxIfInBounds j).toList = es.toList.eraseIdx j := by
        unfold Array.eraseIdxIfInBounds
        rw [dif_pos hjs, Array.toList_eraseIdx]
      refine ⟨.tuple #[], w.putObj (e.own i) (.map (es.eraseIdxIfInBounds j) clock), e, ?_, hh.dictSet hp.1 hc ⟨d0, ?_, ?_, dDel_keys d3 k, l'.eraseIdx j, ?_, ?_, ?_⟩, ⟨Nv.le.refl e, fun _ => Ro.le.refl _⟩, by simp [Val, Vals], fun b hb hne {_} => hfr _ b hb hne, by simp [World.putObj]⟩
      · simp [exec1, execOp, resolve, invoke, builtin, Builtin.delete_, World.putObj, hp.2.2, hv, run_underlying ht, MapKept.run_getObj_map hb1, hchk, h3, MapKept.run_setObj_map _ hb1, Result.andThen]
      · rw [her]; exact d1.sublist ((List.eraseIdx_sublist _ _).map _)
      · intro y hy1; rw [her] at hy1; exact d2 y ((List.eraseIdx_sublist _ _).subset hy1)
      · have h7 : l'.eraseIdx j = dDel l' k := by
          rw [e3, e1, ← e2]
          rw [List.eraseIdx_append_of_length_le (Nat.le_refl _)]
          simp
        rw [h7]
        exact dDel_perm g4 k
      · have h9 : j < l'.length := by omega
        have h10 : j < es.toList.length := by simpa using hjs
        have h11 : (es.eraseIdxIfInBounds j).size = es.toList.length - 1 := by rw [← Array.length_toList (xs := es.eraseIdxIfInBounds j), her, List.length_eraseIdx_of_lt h10]
        rw [List.length_eraseIdx_of_lt h9, g5, h11, Array.length_toList]
      · intro q p hq
        rw [her]
        rw [List.getElem?_eraseIdx] at hq ⊢
        split at hq
        · rename_i hlt; rw [if_pos hlt]; exact g6 q p hq
        · rename_i hlt; rw [if_neg hlt]; exact g6 (q + 1) p hq
/-- Every entry that may come next. -/
def demon {α β : Type} [DecidableEq β] (F : α → Option β) : List α → Option β
  | [] => none
  | [a] => F a
  | a :: b :: l => both (F a) (demon F (b :: l))
theorem demon1 {α β : Type} [DecidableEq β] {F : α → Option β} {r : β} : ∀ {l : List α}, demon F l = some r → ∀ {a : α}, a ∈ l → F a = some r
  | [], h, a, ha => by simp at ha
  | [b], h, a, ha => by rw [List.mem_singleton] at ha; subst ha; exact h
  | b :: c :: l, h, a, ha => by
    rcases List.mem_cons.1 ha with rfl | ha
    · exact both1 h
    · exact demon1 (both2 h) ha
theorem both_of {β : Type} [DecidableEq β] {a b : Option β} {r : β} (h1 : a = some r) (h2 : b = some r) : both a b = some r := by
  subst h1 h2; simp [both]
theorem demon_of {α β : Type} [DecidableEq β] {F : α → Option β} {r : β} : ∀ {l : List α}, l ≠ [] → (∀ a ∈ l, F a = some r) → demon F l = some r
  | [], h, _ => absurd rfl h
  | [b], _, h => h b (by simp)
  | b :: c :: l, _, h => both_of (h b (by simp)) (demon_of (by simp) fun a ha => h a (List.mem_cons_of_mem _ ha))
theorem Le.demon {α β : Type} [DecidableEq β] {F F' : α → Option β} (h : ∀ a, Le (F a) (F' a)) : ∀ l, Le (Go.Q.demon F l) (Go.Q.demon F' l)
  | [] => Le.rfl
  | [a] => h a
  | a :: b :: l => Le.both (h a) (Le.demon h (b :: l))
def demonP {α γ β : Type} [DecidableEq β] (F : α → γ → Option β) (l : List (α × γ)) : Option β := demon (fun p => F p.1 p.2) l
theorem demonP1 {α γ β : Type} [DecidableEq β] {F : α → γ → Option β} {r : β} {l : List (α × γ)} (h : demonP F l = some r) {a : α} {c : γ} (ha : (a, c) ∈ l) : F a c = some r := demon1 h ha
theorem demonP_of {α γ β : Type} [DecidableEq β] {F : α → γ → Option β} {r : β} {l : List (α × γ)} (h0 : l ≠ []) (h : ∀ a c, (a, c) ∈ l → F a c = some r) : demonP F l = some r := demon_of h0 fun p hp => h p.1 p.2 hp
theorem Le.demonP {α γ β : Type} [DecidableEq β] {F F' : α → γ → Option β} (h : ∀ a c, Le (F a c) (F' a c)) (l : List (α × γ)) : Le (Go.Q.demonP F l) (Go.Q.demonP F' l) := by
  unfold Go.Q.demonP
  exact Le.demon (F := fun p => F p.1 p.2) (F' := fun p => F' p.1 p.2) (fun p => h p.1 p.2) l
theorem picks_perm {α : Type} : ∀ {l : List α} {p : α × List α}, p ∈ picks l → (p.1 :: p.2).Perm l
  | [], p, h => by simp [picks] at h
  | b :: l, p, h => by
    rcases List.mem_cons.1 h with rfl | h
    · exact List.Perm.refl _
    · obtain ⟨q, h1, rfl⟩ := List.mem_map.1 h
      exact (List.Perm.swap b q.1 q.2).trans ((picks_perm h1).cons b)
theorem picks_ne {α : Type} {l : List α} (h : l ≠ []) : picks l ≠ [] := by
  cases l with
  | nil => exact absurd rfl h
  | cons a l => simp [picks]
theorem remIs.perm {m : Ro} {es : Array MapEntry} {sn : Array Nat} {l l2 : List (K × V)} (h : remIs fk R m es sn l) (hp : l.Perm l2) : remIs fk R m es sn l2 := by
  obtain ⟨r', h1, h2⟩ := h
  exact ⟨r', h1.trans hp, h2⟩
end
section
variable {P : Program} {E : Env} {M : Mem} {ty : TypeId} {cx : Cx} {fr : Fr} {ops : Array Oper} {os : List Oper} {Q : Ex → Env → Mem → Prop}
variable {K V : Type} [DecidableEq K] {fk : K → Value} {R : Rd V} {pos : String} {after : Array Edge} {dst : Nat}
/-- A range over a map begins. -/
theorem WPL.rangeD {t k el : TypeId} {x : Operand} {i N : Nat} {l : List (K × V)} {g : Option (Array MapEntry × Nat)} (ht : P.underlying t = some (.map k el)) (hx : E.ev x = .mp i) (hc : M.at_ i = .dict fk R l g) (hN : M.n = N) (hd : Nat.blt dst fr.nt = true)
    (kk : ∀ es clock, WPL P cx fr ops os (E.upd dst (.ptr N 0)) ((M.set i (.dict fk R l (some (es, clock)))).push (.iter i clock es none fk R l)) Q) :
    WPL P cx fr ops ({ dst := some dst, op := .range t x, type := ty, pos := pos, after := after, guard := Option.none } :: os) E M Q := by
  intro a w e hh he
  have hv := he.ev x; rw [hx] at hv; simp only [Val] at hv
  have hb := hh.ch i hv.1; rw [hc] at hb
  obtain ⟨h0, es, clock, hb1, hdi, hg⟩ := hb
  have hl : (M.at_ i).live e i := by rw [hc]; trivial
  have hh2 : Hold cx e (M.set i (.dict fk R l (some (es, clock)))) w :=
    hh.change hv.1 hl rfl rfl rfl rfl (fun _ _ => rfl) ⟨h0, es, clock, hb1, hdi, fun p hp => by cases hp; rfl⟩
  refine WPL.d (tc := []) (v := .ptr N 0) (M' := (M.set i (.dict fk R l (some (es, clock)))).push (.iter i clock es none fk R l)) (M := M.set i (.dict fk R l (some (es, clock)))) ?_ hd (kk es clock) a w e hh2 he.mem
  intro cx nt a w e hh he
  have hv := he.ev x; rw [hx] at hv; simp only [Val] at hv
  have hb := hh.ch i hv.1
  rw [show (M.set i (.dict fk R l (some (es, clock)))).at_ i = .dict fk R l (some (es, clock)) by rw [Mem.set_at, if_pos rfl]] at hb
  obtain ⟨h0, es', clock', hb1, hdi, hg⟩ := hb
  cases hg _ rfl
  have hle := e.bump_le w.heap.size 0 0 false
  have hm := fun b => e.bump_mem w.heap.size 0 0 false b
  refine ⟨.pointer (some ⟨w.heap.size, 0, none⟩), w.alloc (.mapIter (some (e.own i)) clock #[] clock), e.bump w.heap.size 0 0, ?_, ?_, ⟨hle, hm⟩, ?_, ?_, by simp⟩
  · have hr : (Instr.range t (.map (some (e.own i)))).run P w = .ok (.pointer (some ⟨w.heap.size, 0, none⟩)) (w.alloc (.mapIter (some (e.own i)) clock #[] clock)) := by
      simp [Instr.range, run_underlying ht, MapKept.run_getObj_map hb1, Result.andThen, go_sem]
    simp [exec1, execOp, hv.2.2, hr]
  · refine hh.bind rfl rfl rfl (by simp) (by simp) (fun k hk hlt => alloc_old w _ k hlt) (fun i hi hl => Nat.ne_of_lt (hh.live i hi hl).1) hh.bag_new hh.none_new.1 hh.none_new.2 (.inr hh.size) ?_
    obtain ⟨_, _, _, _, l', h4, h5, h6⟩ := hdi
    have hf : (es.toList.filter fun x => !(#[] : Array Nat).contains x.born) = es.toList := List.filter_eq_self.2 (by simp)
    refine ⟨by simp [Nv.bump], ⟨by simp only [Nv.bump]; omega, by simp only [Nv.bump]; rw [if_neg (by omega)]; exact hv.2.1⟩, #[], ?_, ?_, fun p hp => by cases hp⟩
    · simp only [Nv.bump, if_true]
      rw [if_neg (by omega)]
      exact heap_alloc_new w _
    · refine ⟨l', h4, by rw [hf]; simp [h5], fun j p hp => ?_⟩
      rw [hf]
      exact h6 j p hp
  · have hn : e.n = N := by rw [← hN]; exact hh.n
    simp only [Val, Nv.bump, ← hn, if_true]
    exact ⟨Nat.lt_succ_self _, trivial, trivial⟩
  · exact fun b hb _ => alloc_old w _ b hb
/-- Nothing is left. -/
theorem q_nextEndD {x : Operand} {i j clock : Nat} {es : Array MapEntry} {last : Option (K × V)} {l rem : List (K × V)} (hx : E.ev x = .ptr i 0) (hc : M.at_ i = .iter j clock es last fk R rem) (hd : M.at_ j = .dict fk R l (some (es, clock))) (h : rem.isEmpty = true) :
    Does P (.next x false) ty E M [] (.tup [.lit (.bool false)]) M :=
  fun cx nt a w e hh he => by
    have hp := he.ev x; rw [hx] at hp; simp only [Val] at hp
    have hk := hh.ch i hp.1; rw [hc] at hk
    obtain ⟨k0, ⟨k1, k1'⟩, sn, k2, ⟨r', r1, r2, _⟩, _⟩ := hk
    have hb := hh.ch j k1; rw [hd] at hb
    obtain ⟨_, es', clock', hb1, ⟨_, _, hcl, _⟩, hg⟩ := hb
    cases hg _ rfl
    have h0 : (leftOf es sn).size = 0 := by
      have : r' = [] := by
        have := r1.length_eq
        rw [List.isEmpty_iff.1 h] at this
        exact List.eq_nil_of_length_eq_zero (by simpa using this)
      rw [this] at r2
      rw [← Array.length_toList]
      unfold leftOf
      rw [Array.toList_filter]
      exact r2.symm
    rcases run_next_at (P := P) w ty (e.own i) (e.own j) clock clock sn es clock k2 hb1 (fun x hx => hcl x hx) (Nat.le_refl _) with ⟨_, hr⟩ | ⟨x, hx', _⟩
    · refine ⟨.tuple #[.bool false], w, e, ?_, hh, ⟨Nv.le.refl e, fun _ => Ro.le.refl _⟩, ?_, fun b hb _ {_} => rfl, Nat.le_refl _⟩
      · simp [exec1, execOp, hp.2.2, hr]
      · simp [Val, Vals]
    · have : (leftOf es sn).toList = [] := by rw [← Array.length_toList] at h0; exact List.eq_nil_of_length_eq_zero h0
      rw [this] at hx'; simp at hx'
theorem WPL.of_run {op : Op} {a : Act} {w w' : World} {e e' : Nv} {x : Value} {v : AVal} {M' : Mem} (hr : (exec1 a.eval op ty).run P w = .ok (.value x) w') (he : Emb fr.nt e M E a) (hh' : Hold cx e' M' w') (he' : e.le e' ∧ ∀ b, Ro.le (e.mem b) (e'.mem b)) (hv : Val e' v x) (ht : Nat.blt dst fr.nt = true)
    (k : WPL P cx fr ops os (E.upd dst v) M' Q) : wpListIn (fence P fr.r) 0 P ops (Sat cx fr Q) ({ dst := some dst, op := op, type := ty, pos := pos, after := after, guard := Option.none } :: os) a w := by
  unfold wpListIn
  rw [if_pos (by rfl)]
  refine ⟨about_some hr, ?_⟩
  rw [semAt_value hr]
  exact k _ w' e' hh' ((he.mono he'.1 he'.2).put ht hv)
theorem born_at : ∀ {L : List MapEntry} {q : Nat} {x : MapEntry}, (L.map (·.born)).Nodup → L[q]? = some x → (L.filter fun y => !decide (y.born = x.born)) = L.eraseIdx q
  | [], q, x, _, h => by simp at h
  | y :: L, 0, x, hn, h => by
    simp at h; subst h
    rw [List.map_cons, List.nodup_cons] at hn
    rw [List.filter_cons]
    simp only [decide_true, Bool.not_true, Bool.false_eq_true, if_false, List.eraseIdx_zero, List.tail_cons]
    rw [List.filter_eq_self]
    intro z hz
    simp only [Bool.not_eq_true', decide_eq_false_iff_not]
    intro hb
    exact hn.1 (hb ▸ List.mem_map_of_mem hz)
  | y :: L, q + 1, x, hn, h => by
    rw [List.map_cons, List.nodup_cons] at hn
    have hx : L[q]? = some x := by simpa using h
    have hne : y.born ≠ x.born := fun hb => hn.1 (hb ▸ List.mem_map_of_mem (List.mem_of_getElem? hx))
    rw [List.filter_cons, List.eraseIdx_cons_succ, born_at hn.2 hx]
    simp [hne]
theorem eraseIdx_perm {α : Type} : ∀ {l : List α} {q : Nat} {x : α}, l[q]? = some x → (x :: l.eraseIdx q).Perm l
  | [], q, x, h => by simp at h
  | y :: l, 0, x, h => by simp at h; subst h; exact List.Perm.refl _
  | y :: l, q + 1, x, h => by
    rw [List.eraseIdx_cons_succ]
    exact (List.Perm.swap y x _).trans ((eraseIdx_perm (by simpa using h)).cons y)
/-- One of those that are left. -/
theorem WPL.nextD {x : Operand} {i j clock : Nat} {es : Array MapEntry} {last : Option (K × V)} {l rem : List (K × V)} (hx : E.ev x = .ptr i 0) (hc : M.at_ i = .iter j clock es last fk R rem) (hd : M.at_ j = .dict fk R l (some (es, clock))) (h : rem.isEmpty = false) (ht : Nat.blt dst fr.nt = true)
    (kk : ∀ p rem2, (p, rem2) ∈ picks rem → WPL P cx fr ops os (E.upd dst (.tup [.lit (.bool true), .lit (fk p.1), .ro R false p.2])) (M.set i (.iter j clock es (some p) fk R rem2)) Q) :
    WPL P cx fr ops ({ dst := some dst, op := .next x false, type := ty, pos := pos, after := after, guard := Option.none } :: os) E M Q := by
  intro a w e hh he
  have hp := he.ev x; rw [hx] at hp; simp only [Val] at hp
  have hk := hh.ch i hp.1; rw [hc] at hk
  obtain ⟨k0, ⟨k1, k1'⟩, sn, k2, ⟨r', r1, r2, r3⟩, _⟩ := hk
  have hb := hh.ch j k1; rw [hd] at hb
  obtain ⟨_, es', clock', hb1, ⟨_, hnd, hcl, _⟩, hg⟩ := hb
  cases hg _ rfl
  have hL : (leftOf es sn).toList = es.toList.filter fun x => !sn.contains x.born := by unfold leftOf; rw [Array.toList_filter]
  have hne : r' ≠ [] := by
    intro h0
    have := r1.length_eq
    rw [h0] at this
    have : rem = [] := List.eq_nil_of_length_eq_zero this.symm
    rw [this] at h; cases h
  rcases run_next_at (P := P) w ty (e.own i) (e.own j) clock clock sn es clock k2 hb1 (fun x hx => hcl x hx) (Nat.le_refl _) with ⟨h0, _⟩ | ⟨y, hy, w1, hw1, hr⟩
  · exfalso
    rw [← Array.length_toList, hL, ← r2] at h0
    exact hne (List.eq_nil_of_length_eq_zero h0)
  · rw [hL] at hy
    obtain ⟨q, hq⟩ := List.mem_iff_getElem?.1 hy
    have hql : q < r'.length := by rw [r2]; exact (List.getElem?_eq_some_iff.1 hq).1
    obtain ⟨y', g1, g2, g3⟩ := r3 q r'[q] (List.getElem?_eq_getElem hql)
    rw [hq] at g1; cases g1
    have hpr : r'[q] ∈ rem := r1.mem_iff.1 (List.getElem_mem hql)
    obtain ⟨r, p1, p2⟩ := picks_mem hpr
    have hlive : (M.at_ i).live e i := by rw [hc]; trivial
    have hlt := (hh.live i hp.1 hlive).1
    have hsz : w1.heap = w.heap ∧ w1.os = w.os ∧ w1.tape = w.tape ∧ w1.output = w.output := by rcases hw1 with rfl | rfl <;> exact ⟨rfl, rfl, rfl, rfl⟩
    have hfil : (es.toList.filter fun x => !(sn.push y.born).contains x.born) = (es.toList.filter fun x => !sn.contains x.born).eraseIdx q := by
      rw [← born_at (hnd.sublist ((List.filter_sublist).map _)) hq, List.filter_filter]
      congr 1
      funext z
      simp only [Array.contains_push]
      cases sn.contains z.born <;> simp
      by_cases hz : z.born = y.born
      · simp [hz]
      · simp [hz, beq_eq_false_iff_ne.2 (Ne.symm hz), beq_eq_false_iff_ne.2 hz]
    refine WPL.of_run (x := .tuple #[.bool true, y.key, y.val]) (w' := ChangeMaps.setBlock w1 (e.own i) (.mapIter (some (e.own j)) clock (sn.push y.born) clock)) (e' := e) ?_ he (M' := M.set i (.iter j clock es (some r'[q]) fk R r)) ?_ ⟨Nv.le.refl e, fun _ => Ro.le.refl _⟩ ?_ ht (kk _ _ p1)
    · simp [exec1, execOp, hp.2.2, hr]
    · refine hh.change hp.1 hlive hsz.2.1 hsz.2.2.1 hsz.2.2.2 (by simp [ChangeMaps.setBlock, hsz.1]) (fun k hk => ?_) ⟨k0, ⟨k1, k1'⟩, sn.push y.born, ?_, ⟨r'.eraseIdx q, ?_, ?_, ?_⟩, fun p hp' => ?_⟩
      · simp only [ChangeMaps.setBlock, hsz.1, Array.getElem?_setIfInBounds]
        rw [if_neg (Ne.symm hk)]
      · simp [ChangeMaps.setBlock, hsz.1, Array.getElem?_setIfInBounds, hlt]
      · have := (eraseIdx_perm (List.getElem?_eq_getElem hql)).trans (r1.trans p2.symm)
        exact this.cons_inv
      · rw [hfil, List.length_eraseIdx_of_lt hql, List.length_eraseIdx_of_lt (by rw [← r2]; exact hql), r2]
      · intro t p hp'
        rw [hfil]
        rw [List.getElem?_eraseIdx] at hp' ⊢
        split at hp'
        · rename_i hlt'; rw [if_pos hlt']; exact r3 t p hp'
        · rename_i hlt'; rw [if_neg hlt']; exact r3 (t + 1) p hp'
      · cases hp'
        exact ⟨y, sn, (List.mem_filter.1 hy).1, rfl, g2, g3⟩
    · simp only [Val, Vals, Nv.mem_false]
      exact ⟨[.bool true, y.key, y.val], rfl, _, _, rfl, rfl, _, _, rfl, g2, _, _, rfl, g3, rfl⟩
/-- The entry of the round. -/
theorem q_entryD {x : Operand} {i j clock : Nat} {es : Array MapEntry} {p : K × V} {l rem : List (K × V)} (hx : E.ev x = .ptr i 0) (hc : M.at_ i = .iter j clock es (some p) fk R rem) (hd : M.at_ j = .dict fk R l (some (es, clock))) :
    Quiet P (.entry x) ty E M [i, j] (.tup [.lit (fk p.1), .ro R false p.2]) :=
  fun cx nt a w e hh he => by
    have hp := he.ev x; rw [hx] at hp; simp only [Val] at hp
    have hk := hh.ch i hp.1; rw [hc] at hk
    obtain ⟨k0, ⟨k1, k1'⟩, sn, k2, _, hl⟩ := hk
    have hb := hh.ch j k1; rw [hd] at hb
    obtain ⟨_, es', clock', hb1, ⟨_, hnd, _⟩, hg⟩ := hb
    cases hg _ rfl
    obtain ⟨y, s, g0, rfl, g2, g3⟩ := hl _ rfl
    refine ⟨.tuple #[y.key, y.val], ?_, fun w1 hw => ?_⟩
    · simp only [Val, Vals, Nv.mem_false]
      exact ⟨[y.key, y.val], rfl, _, _, rfl, g2, _, _, rfl, g3, rfl⟩
    · have hr := run_entry_at (P := P) w1 (e.own i) (e.own j) clock s es clock y ((hw.own i (by simp) hp.1 hp.2.1).trans k2) ((hw.own j (by simp) k1 k1').trans hb1) g0 hnd
      simp [exec1, execOp, hp.2.2, hr]
/-- A range over a map is over. -/
theorem Cv.dictN {nt : Nat} {i : Nat} {l : List (K × V)} {g : Option (Array MapEntry × Nat)} (hi : Nat.blt i M.n = true) (hc : M.at_ i = .dict fk R l g) : Cv cx nt E M E (M.set i (.dict fk R l none)) :=
  fun a w e hh he => by
    have hi' : i < e.n := by rw [hh.n]; simpa [Nat.blt_eq] using hi
    have hb := hh.ch i hi'; rw [hc] at hb
    obtain ⟨h0, es, clock, hb1, hdi, hg⟩ := hb
    have hl : (M.at_ i).live e i := by rw [hc]; trivial
    exact ⟨e, hh.change hi' hl rfl rfl rfl rfl (fun _ _ => rfl) ⟨h0, es, clock, hb1, hdi, fun p hp => by cases hp⟩, he.mem⟩
theorem Cv.iterN {nt : Nat} {i j clock : Nat} {es : Array MapEntry} {last : Option (K × V)} {rem : List (K × V)} (hi : Nat.blt i M.n = true) (hc : M.at_ i = .iter j clock es last fk R rem) : Cv cx nt E M E (M.set i (.iter j clock es (none : Option (K × V)) fk R rem)) :=
  fun a w e hh he => by
    have hi' : i < e.n := by rw [hh.n]; simpa [Nat.blt_eq] using hi
    have hb := hh.ch i hi'; rw [hc] at hb
    obtain ⟨h0, h1, sn, h2, h3, h4⟩ := hb
    have hl : (M.at_ i).live e i := by rw [hc]; trivial
    exact ⟨e, hh.change hi' hl rfl rfl rfl rfl (fun _ _ => rfl) ⟨h0, h1, sn, h2, h3, fun p hp => by cases hp⟩, he.mem⟩
/-- A key put into an ordered list. -/
def dIns (lt : K → K → Bool) (l : List (K × V)) (k : K) (v : V) : List (K × V) := (dDel l k).filter (fun p => lt p.1 k) ++ (k, v) :: (dDel l k).filter fun p => !lt p.1 k
theorem dIns_perm (lt : K → K → Bool) (l : List (K × V)) (k : K) (v : V) : (dPut l k v).Perm (dIns lt l k v) := by
  unfold dPut dIns
  refine List.Perm.trans List.perm_append_comm ?_
  refine List.Perm.trans ?_ List.perm_middle.symm
  exact List.Perm.cons _ (List.filter_append_perm _ _).symm
theorem s_updS {t el kt : TypeId} {x y u : Operand} {i : Nat} {l : List (K × V)} {k : K} {v : V} {b : AVal} (lt : K → K → Bool) (hk : DKey P kt fk) (ht : P.underlying t = some (.map kt el)) (hx : E.ev x = .mp i) (hc : M.at_ i = .dict fk R l none) (hy : E.ev y = .lit (fk k)) (hu : E.ev u = b) (hj : Joins R false v [b]) (h1c : b.one = true) :
    DoesS P (.mapUpdate t x y u) ty E M [i] (M.set i (.dict fk R (dIns lt l k v) none)) :=
  fun cx nt a w e hh he => by
    obtain ⟨w', e', h1, h2, h3, h4⟩ := s_updD hk ht hx hc hy hu hj h1c cx nt a w e hh he
    have hi : i < e'.n := by
      have hp := he.ev x; rw [hx] at hp; simp only [Val] at hp
      exact Nat.lt_of_lt_of_le hp.1 h3.1.n
    have hb := h2.ch i hi
    rw [Mem.set_at, if_pos rfl] at hb
    obtain ⟨g0, es, clock, hb1, hdi, hg⟩ := hb
    have hl : ((M.set i (.dict fk R (dPut l k v) none)).at_ i).live e' i := by rw [Mem.set_at, if_pos rfl]; trivial
    have := h2.change (c := .dict fk R (dIns lt l k v) none) hi hl rfl rfl rfl rfl (fun _ _ => rfl) ⟨g0, es, clock, hb1, hdi.perm (dIns_perm lt l k v), fun p hp => by cases hp⟩
    refine ⟨w', e', h1, ?_, h3, h4⟩
    have e1 : (M.set i (.dict fk R (dPut l k v) none)).set i (.dict fk R (dIns lt l k v) none) = M.set i (.dict fk R (dIns lt l k v) none) := by
      simp only [Mem.set]
      congr 1
      funext j
      split <;> rfl
    rw [← e1]
    exact this
def ltStr (a b : ByteArray) : Bool := Op.bytesLess a.toList b.toList
end
end Go.Q
namespace Go.Q
open Go
set_option linter.unusedVariables false
set_option linter.unusedSimpArgs false
set_option linter.unusedSectionVars false
section
variable {K V : Type} [DecidableEq K]
/-- A map that is only read; nil is the empty one. -/
def Rd.map (fk : K → Value) (R : Rd V) : Rd (List (K × V)) where
  sz := 1
  ok m l cs := (l = [] ∧ cs = [.map none]) ∨ ∃ a es clock, cs = [.map (some a)] ∧ m a = some (.map es clock) ∧ dictIs fk R m es clock l
  mono hm h := h.imp id fun ⟨a, es, clock, e, hc, h1⟩ => ⟨a, es, clock, e, hm.f _ _ hc, h1.mono hm⟩
  len h := by
    rcases h with ⟨_, e⟩ | ⟨a, es, clock, e, _⟩ <;> simp [e]
  one h := by
    rcases h with ⟨_, e⟩ | ⟨a, es, clock, e, _⟩ <;> (intro v hv; rw [e] at hv; simp at hv; rw [hv]; rfl)
end
section
variable {P : Program} {E : Env} {M : Mem} {ty : TypeId} {cx : Cx} {nt : Nat} {K V : Type} [DecidableEq K] {fk : K → Value} {R : Rd V}
theorem Cv.nilMapC (fk : K → Value) (R : Rd V) (b : Bool) {i off : Nat} {t : TypeId} {l : List AVal} (hi : Nat.blt i M.n = true) (hc : M.at_ i = .cells t l) (hv : l[off]? = some (.lit (.map none))) :
    Cv cx nt E M E (M.set i (.cells t (l.set off (.ro (Rd.map fk R) b [])))) :=
  fun a w e hh he => by
    have hin : i < e.n := by rw [hh.n]; simpa using hi
    have hlive : (M.at_ i).live e i := by rw [hc]; trivial
    refine ⟨e, hh.change hin hlive rfl rfl rfl rfl (fun _ _ => rfl) ?_, he.mem⟩
    have hk := hh.ch i hin
    rw [hc] at hk
    obtain ⟨g1, vs, g2, g3, g4⟩ := hk
    refine ⟨g1, vs, g2, ?_, g4⟩
    obtain ⟨u, hu, hval⟩ := g3.get hv
    have hset : vs = vs.set off u := by
      apply List.ext_getElem?
      intro j
      rw [List.getElem?_set]
      split
      · rename_i hj; subst hj; split
        · rename_i hlt; rw [hu]
        · rename_i hge; rw [List.getElem?_eq_none (by omega)]
      · rfl
    rw [hset]
    refine g3.set ?_
    simp only [Val] at hval ⊢
    exact .inl ⟨rfl, by rw [hval]⟩
theorem q_lookupR {t el kt : TypeId} {x y : Operand} {b : Bool} {l : List (K × V)} {k : K} {z : V} {zv : Value} (hk : DKey P kt fk) (ht : P.underlying t = some (.map kt el)) (hz : ∃ i, P.info? el = some i ∧ i.zero = some zv) (hzo : ∀ m, R.ok m z [zv]) (hx : E.ev x = .ro (Rd.map fk R) false l)
    (hy : E.ev y = .lit (fk k)) : Quiet P (.lookup t x y false) ty E M [] (.ro R false ((mapGet l k).getD z)) :=
  fun cx nt a w e hh he => by
    have hp := he.ev x; rw [hx] at hp; simp only [Val, Nv.mem_false] at hp
    have hv := he.ev y; rw [hy] at hv; simp only [Val] at hv
    obtain ⟨kd, hkd, hik, _⟩ := hk.h
    have hchk : ∀ (b : Bool) (w : World), (Instr.checkKey b 10000 kt (fk k)).run P w = .ok () w := fun b w => MapKept.run_checkKey hkd (hik k) b 9999
    rcases hp with ⟨rfl, hp⟩ | ⟨ad, es, clock, hp, hm, hd⟩
    · simp at hp
      refine ⟨zv, by simp only [Val, Nv.mem_false]; exact hzo _, fun w1 _ => ?_⟩
      simp only [exec1, execOp, hp, hv, Instr.lookup, Sem.run_bind, run_underlying ht, Result.andThen, Sem.run_pure, hchk, MapKept.run_findKey hkd (show Instr.findNow kd (fk k) (#[] : Array MapEntry).toList 0 = some none from rfl), zv_of hz]
      rfl
    · simp at hp
      rcases dict_find hk hd k with ⟨h1, _, h3⟩ | ⟨v, j, x', l', h1, _, _, _, _, _, _, hok, h3⟩
      · refine ⟨zv, by simp only [Val, Nv.mem_false]; rw [h1]; exact hzo _, fun w1 hw => ?_⟩
        have hb2 := hw.ro ad _ hm
        simp only [exec1, execOp, hp, hv, Instr.lookup, Sem.run_bind, run_underlying ht, Result.andThen, MapKept.run_getObj_map hb2, hchk, h3, Sem.run_pure, zv_of hz]
        rfl
      · refine ⟨x'.val, by simp only [Val, Nv.mem_false]; rw [h1]; exact hok, fun w1 hw => ?_⟩
        have hb2 := hw.ro ad _ hm
        simp only [exec1, execOp, hp, hv, Instr.lookup, Sem.run_bind, run_underlying ht, Result.andThen, MapKept.run_getObj_map hb2, hchk, h3, Sem.run_pure]
        rfl
theorem q_lookupR_sc {f : V → Value} {hf : ∀ x, (f x).oneCell' = true} {t el kt : TypeId} {x y : Operand} {l : List (K × V)} {k : K} {z : V} (hk : DKey P kt fk) (ht : P.underlying t = some (.map kt el)) (hz : ∃ i, P.info? el = some i ∧ i.zero = some (f z)) (hx : E.ev x = .ro (Rd.map fk (Rd.sc f hf)) false l)
    (hy : E.ev y = .lit (fk k)) : Quiet P (.lookup t x y false) ty E M [] (.lit (f ((mapGet l k).getD z))) :=
  fun cx nt a w e hh he => by
    obtain ⟨v, h1, h2⟩ := q_lookupR (b := false) (ty := ty) hk ht hz (fun m => rfl) hx hy cx nt a w e hh he
    simp only [Val, Rd.sc] at h1
    simp at h1
    exact ⟨v, by simp [Val, h1], h2⟩
end
end Go.Q
namespace Go.Q
open Go
set_option linter.unusedVariables false
theorem o3.{u, v, w} {p : Prop} {α : Sort u} {β : Sort v} {γ : Sort w} {a : α} {b : β} {c : γ} : p ∨ (a = a ∧ b = b ∧ c = c) := .inr ⟨rfl, rfl, rfl⟩
theorem r3.{u, v, w} {α : Sort u} {β : Sort v} {γ : Sort w} {a : α} {b : β} {c : γ} : a = a ∧ b = b ∧ c = c := ⟨rfl, rfl, rfl⟩
section
variable {P : Program} {cx : Cx} {fr : Fr} {ops : Array Oper} {E : Env} {M : Mem} {Q : Ex → Env → Mem → Prop}
theorem LeE.u {l : List Nat} {n t : Nat} {E E' : Env} {a : AVal} (k : LeE l n E E') (h : E.v t = a.ren (sub l) := by rfl) (hb : a.under n = true := by rfl) : LeE l n E (E'.upd t a) := LeE.upd h hb k
section
variable {os : List Oper} {op : Op} {ty : TypeId} {pos : String} {after : Array Edge} {dst : Nat} {v : AVal} {tc st : List Nat} {M' : Mem}
variable {X : List Nat} {fuel : Nat} {listed : Array Bool}
theorem WPD.ps (b' : Bool) (i : Nat) {j t : Nat} {b : Bool} {d : Option Nat} (ho : ops[i]? = some { dst := d, op := op, type := ty, pos := pos, after := after, guard := some (j, b) })
    (hj : (ops[j]?).bind (·.dst) = some t) (hv : E.v t = .lit (.bool b')) (k : WPD P cx fr ops st X fuel (listed.setIfInBounds i true) (match (generalizing := false) d with | some d => E.upd d (.lit undef) | none => E) M Q)
    (hb : takeTB ops X listed i = true := by kernel_rfl) (htj : Nat.blt t fr.nt = true := by rfl) (hne : (b' == b) = false := by rfl)
    (hd : (match (generalizing := false) d with | some d => fr.okd d | none => true) = true := by rfl) (hsk : SkipOkE P E op := by first | exact .inl trivial | exact .inl (by simp only [SkipOk]; kernel_rfl)) : WPD P cx fr ops st X (fuel + 1) listed E M Q :=
  WPD.pass i ho hb hj htj hv hne (by cases d <;> exact hd) hsk (by cases d <;> exact k)
end
end
end Go.Q
namespace Go.Proofs.Ytcaeafojgehamaa.W
open Go Go.Q Go.Proofs
set_option linter.unusedVariables false
set_option linter.unusedSimpArgs false
structure S_simfs_file where
  fnow : (List Int)
  fsafe : (List Int)
  deriving Inhabited, DecidableEq
def rdS_simfs_file : Rd S_simfs_file := Rd.via (Rd.pair (Rd.slice (Rd.int .u8)) (Rd.pair (Rd.slice (Rd.int .u8)) Rd.unit)) fun x => (x.fnow, (x.fsafe, ()))
theorem S_simfs_file.p0 {d : S_simfs_file} : PartIs rdS_simfs_file d 0 (Rd.slice (Rd.int .u8)) d.fnow := PartIs.via PartIs.here
theorem S_simfs_file.p1 {d : S_simfs_file} : PartIs rdS_simfs_file d 1 (Rd.slice (Rd.int .u8)) d.fsafe := PartIs.via (PartIs.there PartIs.here)
theorem S_simfs_file.sp {b : Bool} {d : S_simfs_file} : Splits rdS_simfs_file b d [.ro (Rd.slice (Rd.int .u8)) b d.fnow, .ro (Rd.slice (Rd.int .u8)) b d.fsafe] := Splits.via (Splits.pair (Splits.one rfl) (Splits.pair (Splits.one rfl) Splits.unit))
theorem S_simfs_file.u0 {d : S_simfs_file} {v : (List Int)} : PutIs rdS_simfs_file d 0 (Rd.slice (Rd.int .u8)) v ⟨v, d.fsafe⟩ := PutIs.via (PutIs.here rfl)
theorem S_simfs_file.u1 {d : S_simfs_file} {v : (List Int)} : PutIs rdS_simfs_file d 1 (Rd.slice (Rd.int .u8)) v ⟨d.fnow, v⟩ := PutIs.via (PutIs.there (PutIs.here rfl))
structure S_simfs_entry where
  fgone : ByteArray
  fname : ByteArray
  ff : (Option Nat)
  deriving Inhabited, DecidableEq
def rdS_simfs_entry : Rd S_simfs_entry := Rd.via (Rd.pair Rd.str (Rd.pair Rd.str (Rd.pair (Rd.pp 0) Rd.unit))) fun x => (x.fgone, (x.fname, (x.ff, ())))
theorem S_simfs_entry.p0 {d : S_simfs_entry} : PartIs rdS_simfs_entry d 0 Rd.str d.fgone := PartIs.via PartIs.here
theorem S_simfs_entry.p1 {d : S_simfs_entry} : PartIs rdS_simfs_entry d 1 Rd.str d.fname := PartIs.via (PartIs.there PartIs.here)
theorem S_simfs_entry.p2 {d : S_simfs_entry} : PartIs rdS_simfs_entry d 2 (Rd.pp 0) d.ff := PartIs.via (PartIs.there (PartIs.there PartIs.here))
theorem S_simfs_entry.sp {b : Bool} {d : S_simfs_entry} : Splits rdS_simfs_entry b d [.lit (.string d.fgone), .lit (.string d.fname), .ro (Rd.pp 0) b d.ff] := Splits.via (Splits.pair Splits.sc (Splits.pair Splits.sc (Splits.pair (Splits.one rfl) Splits.unit)))
def g_simfs_New (k : Nat) (x26 : Int) : Option (Unit ⊕ Unit) := (((bif (decide (x26 < 0)) then some true else some (decide (1073741824 < x26))) : Option Bool).bind fun x44 => (bif x44 then some (Sum.inl ()) else some (Sum.inr ())))
def g_simfs_Name_1 (k : Nat) (x78 : Int) : Option Bool := (((bif (decide (x78 < 33)) then some true else (bif (decide (126 < x78)) then some true else some (decide (x78 = 47)))) : Option Bool).bind fun x89 => some x89)
def g_strings_indexFunc_l0 (k : Nat) (x74 : ByteArray) (x75 : Bool) : Nat → Nat → Option (Int ⊕ Unit)
  | 0, _ => none
  | n + 1, x109 => (bif (decide (x109 < ByteArray.size x74)) then ((g_simfs_Name_1 k (((Utf8.decode x74 x109).1 : Nat) : Int)).bind fun x117 => (bif (x117 == x75) then some (Sum.inl ((x109 : Nat) : Int)) else (g_strings_indexFunc_l0 k x74 x75 n (x109 + (Utf8.decode x74 x109).2)))) else some (Sum.inr ()))
theorem g_strings_indexFunc_l0_eqs : True := by have := @g_strings_indexFunc_l0.eq_2; trivial
def g_strings_indexFunc (k : Nat) (x74 : ByteArray) (x75 : Bool) : Option Int := (((g_strings_indexFunc_l0 k x74 x75 k 0) : Option (Int ⊕ Unit)).bind fun y120 => match y120 with | (Sum.inl x114) => some x114 | (Sum.inr _) => some (-1))
def g_strings_IndexFunc (k : Nat) (x72 : ByteArray) : Option Int := ((g_strings_indexFunc k x72 true).bind fun x125 => some x125)
def g_strings_ContainsFunc (k : Nat) (x70 : ByteArray) : Option Bool := ((g_strings_IndexFunc k x70).bind fun x130 => some (decide (0 ≤ x130)))
def g_simfs_Name (k : Nat) (x64 : ByteArray) : Option Bool := ((((some (!(x64.toList == (ByteArray.mk #[]).toList))).bind fun x149 => (bif x149 then ((some (decide (((ByteArray.size x64 : Nat) : Int) ≤ 64))).bind fun x151 => (bif x151 then ((g_strings_ContainsFunc k x64).bind fun x154 => some (!x154)) else some false)) else some false)) : Option Bool).bind fun x148 => some x148)
def g_internal_stringslite_HasSuffix (k : Nat) (x164 : ByteArray) (x165 : ByteArray) : Option Bool := ((((some (decide (((ByteArray.size x165 : Nat) : Int) ≤ ((ByteArray.size x164 : Nat) : Int)))).bind fun x186 => (bif x186 then ((some (IntKind.wrap .i64 (((ByteArray.size x164 : Nat) : Int) - ((ByteArray.size x165 : Nat) : Int)))).bind fun x188 => (bif (decide (0 ≤ (x188 : Int) ∧ (x188 : Int) ≤ ((ByteArray.size x164 : Nat) : Int) ∧ ((ByteArray.size x164 : Nat) : Int) ≤ ((ByteArray.size x164 : Nat) : Int))) then ((some (ByteArray.extract x164 (Int.toNat x188) (Int.toNat ((ByteArray.size x164 : Nat) : Int)))).bind fun x190 => some (x190.toList == x165.toList)) else none)) else some false)) : Option Bool).bind fun x185 => some x185)
def g_strings_HasSuffix (k : Nat) (x161 : ByteArray) (x162 : ByteArray) : Option Bool := ((g_internal_stringslite_HasSuffix k x161 x162).bind fun x196 => some x196)
def g_store_Right (k : Nat) (x62 : ByteArray) : Option Bool := ((((g_simfs_Name k x62).bind fun x218 => (bif x218 then ((some (decide (((ByteArray.size x62 : Nat) : Int) ≤ 60))).bind fun x220 => (bif x220 then ((g_strings_HasSuffix k x62 (ByteArray.mk #[46, 116, 109, 112])).bind fun x223 => some (!x223)) else some false)) else some false)) : Option Bool).bind fun x216 => some x216)
def g_store_Temp (k : Nat) (x247 : ByteArray) : Option Unit := (bif (decide (ByteArray.size x247 + ByteArray.size (ByteArray.mk #[46, 116, 109, 112]) ≤ 9223372036854775807)) then some () else none)
def g_store_steps (k : Nat) (x235 : ByteArray) (x236 : (List Int)) (x237 : Int) (x238 : (List (Int × Int))) (x239 : Int) (x240 : Bool) (x241 : (List (ByteArray × (Option Nat)))) (x242 : (List (ByteArray × (Option Nat)))) (x243 : (List (Option Nat))) (x244 : (List S_simfs_entry)) (x245 : (List S_simfs_file)) : Option Unit := ((g_store_Temp k x235).bind fun _ => some ())
def g_simfs_Disk_step_1 (k : Nat) (x285 : ByteArray) : Option Bool := ((g_simfs_Name k x285).bind fun x291 => some (!x291))
def g_slices_IndexFunc_string_string_l0 (k : Nat) (x279 : (List ByteArray)) : Nat → Int → Option (Int ⊕ Unit)
  | 0, _ => none
  | n + 1, x326 => ((some (decide (x326 < ((List.length x279 : Nat) : Int)))).bind fun x339 => (bif x339 then ((ix x279 x326).bind fun x346 => ((g_simfs_Disk_step_1 k x346).bind fun x348 => (bif x348 then some (Sum.inl x326) else (g_slices_IndexFunc_string_string_l0 k x279 n (IntKind.wrap .i64 (x326 + 1)))))) else some (Sum.inr ())))
theorem g_slices_IndexFunc_string_string_l0_eqs : True := by have := @g_slices_IndexFunc_string_string_l0.eq_2; trivial
def g_slices_IndexFunc_string_string (k : Nat) (x279 : (List ByteArray)) : Option Int := (((g_slices_IndexFunc_string_string_l0 k x279 k 0) : Option (Int ⊕ Unit)).bind fun y351 => match y351 with | (Sum.inl x338) => some x338 | (Sum.inr _) => some (-1))
def g_slices_ContainsFunc_string_string (k : Nat) (x277 : (List ByteArray)) : Option Bool := ((g_slices_IndexFunc_string_string k x277).bind fun x356 => some (decide (0 ≤ x356)))
def g_simfs_Disk_step (k : Nat) (x266 : (List ByteArray)) (x267 : Int) (x268 : (List (Int × Int))) (x269 : Int) (x270 : Bool) (x271 : (List (ByteArray × (Option Nat)))) (x272 : (List (ByteArray × (Option Nat)))) (x273 : (List (Option Nat))) (x274 : (List S_simfs_entry)) : Option (Int × Int × Bool) := (bif x270 then some (62, x269, x270) else ((g_slices_ContainsFunc_string_string k x266).bind fun x383 => (bif x383 then some (42, x269, x270) else ((some (Option.getD (mapGet x268 (IntKind.wrap .i64 (x269 + 1))) (0 : Int))).bind fun x391 => (bif (decide (x391 = 1)) then some (61, (IntKind.wrap .i64 (x269 + 1)), x270) else (bif (decide (x391 = 2)) then some (60, (IntKind.wrap .i64 (x269 + 1)), x270) else (bif (decide (x391 = 3)) then some (62, (IntKind.wrap .i64 (x269 + 1)), true) else some (0, (IntKind.wrap .i64 (x269 + 1)), x270))))))))
def g_simfs_entry_to (k : Nat) (x436 : ByteArray) (x437 : ByteArray) (x438 : (Option Nat)) (x439 : (List (ByteArray × (Option Nat)))) : Option ((List (ByteArray × (Option Nat)))) := (bif (Option.isSome x438) then some (dIns ltStr (dDel x439 x436) x437 x438) else some (dDel x439 x436))
def g_simfs_Disk_change (k : Nat) (x424 : ByteArray) (x425 : ByteArray) (x426 : (Option Nat)) (x427 : Int) (x428 : (List (Int × Int))) (x429 : Int) (x430 : Bool) (x431 : (List (ByteArray × (Option Nat)))) (x432 : (List (ByteArray × (Option Nat)))) (x433 : (List (Option Nat))) (x434 : (List S_simfs_entry)) : Option ((List (ByteArray × (Option Nat)))) := ((g_simfs_entry_to k x424 x425 x426 x431).bind fun x455 => (bif (decide (((List.length x434) + (List.length ([(⟨x424, x425, x426⟩ : S_simfs_entry)] : List S_simfs_entry))) * 40 ≤ 140737488355328)) then some x455 else none))
def g_simfs_Disk_Create (k : Nat) (x255 : ByteArray) (x256 : Int) (x257 : (List (Int × Int))) (x258 : Int) (x259 : Bool) (x260 : (List (ByteArray × (Option Nat)))) (x261 : (List (ByteArray × (Option Nat)))) (x262 : (List (Option Nat))) (x263 : (List S_simfs_entry)) (x264 : (List S_simfs_file)) : Option (Int × Int × Bool × (List (ByteArray × (Option Nat))) × (List (Option Nat)) × (List S_simfs_entry) × (List S_simfs_file)) := ((g_simfs_Disk_step k ([x255] : List ByteArray) x256 x257 x258 x259 x260 x261 x262 x263).bind fun (x474, x475, x476) => (bif (!decide (x474 = 0)) then some (x474, x475, x476, x260, x262, x263, x264) else ((((some (Option.isNone (Option.getD (mapGet x260 x255) none))).bind fun x491 => (bif x491 then ((some (decide (8 ≤ ((List.length x260 : Nat) : Int)))).bind fun x493 => some x493) else some false)) : Option Bool).bind fun x490 => (bif x490 then some (3, x475, x476, x260, x262, x263, x264) else (bif (decide (((List.length x262) + (List.length ([(some (List.length x264))] : List (Option Nat)))) * 8 ≤ 140737488355328)) then ((g_simfs_Disk_change k (ByteArray.mk #[]) x255 (some (List.length x264)) x256 x257 x475 x476 x260 x261 (x262 ++ ([(some (List.length x264))] : List (Option Nat))) x263).bind fun x498 => some (0, x475, x476, x498, (x262 ++ ([(some (List.length x264))] : List (Option Nat))), (x263 ++ ([(⟨(ByteArray.mk #[]), x255, (some (List.length x264))⟩ : S_simfs_entry)] : List S_simfs_entry)), (x264 ++ [(⟨[], []⟩ : S_simfs_file)]))) else none)))))
def g_simfs_Disk_there (k : Nat) (x522 : (List ByteArray)) (x523 : Int) (x524 : (List (Int × Int))) (x525 : Int) (x526 : Bool) (x527 : (List (ByteArray × (Option Nat)))) (x528 : (List (ByteArray × (Option Nat)))) (x529 : (List (Option Nat))) (x530 : (List S_simfs_entry)) : Option ((Int × Int × Bool) ⊕ ((Option Nat) × Int × Bool)) := ((g_simfs_Disk_step k x522 x523 x524 x525 x526 x527 x528 x529 x530).bind fun (x562, x563, x564) => (bif (!decide (x562 = 0)) then some (Sum.inl (x562, x563, x564)) else ((ix x522 0).bind fun x569 => ((some (Option.isNone (Option.getD (mapGet x527 x569) none))).bind fun x572 => (bif x572 then some (Sum.inl (63, x563, x564)) else some (Sum.inr ((Option.getD (mapGet x527 x569) none), x563, x564)))))))
def g_slices_Grow_byte_byte (k : Nat) (x664 : Int) : Option (List Int) := (bif (decide (x664 < 0)) then none else ((((some (IntKind.wrap .i64 (x664 - (IntKind.wrap .i64 (0 - 0))))).bind fun x686 => (bif (decide (0 < x686)) then (bif (decide (0 < (x686 : Int) ∧ (x686 : Int) * ((1 : Nat) : Int) ≤ 140737488355328)) then (bif (decide (0 ≤ (0 : Int) ∧ (0 : Int) ≤ ((List.length (List.replicate (Int.toNat x686) (0 : Int)) : Nat) : Int))) then some (List.take (Int.toNat 0) (List.replicate (Int.toNat x686) (0 : Int))) else none) else none) else some ([] : List Int))) : Option (List Int)).bind fun x685 => some x685))
def g_slices_Concat_byte_byte_l0 (k : Nat) (x640 : (List (List Int))) : Nat → Int → Int → Option Int
  | 0, _, _ => none
  | n + 1, x717, x718 => ((some (decide (x718 < ((List.length x640 : Nat) : Int)))).bind fun x729 => (bif x729 then ((ix x640 x718).bind fun x735 => ((some (IntKind.wrap .i64 (x717 + ((List.length x735 : Nat) : Int)))).bind fun x736 => (bif (decide (x736 < 0)) then none else (g_slices_Concat_byte_byte_l0 k x640 n x736 (IntKind.wrap .i64 (x718 + 1)))))) else some x717))
theorem g_slices_Concat_byte_byte_l0_eqs : True := by have := @g_slices_Concat_byte_byte_l0.eq_2; trivial
def g_slices_Concat_byte_byte_l1 (k : Nat) (x640 : (List (List Int))) : Nat → Int → (List Int) → Option (List Int)
  | 0, _, _ => none
  | n + 1, x746, x747 => ((some (decide (x746 < ((List.length x640 : Nat) : Int)))).bind fun x754 => (bif x754 then ((ix x640 x746).bind fun x757 => (bif (decide (((List.length x747) + (List.length x757)) * 1 ≤ 140737488355328)) then (g_slices_Concat_byte_byte_l1 k x640 n (IntKind.wrap .i64 (x746 + 1)) (x747 ++ x757)) else none)) else some x747))
theorem g_slices_Concat_byte_byte_l1_eqs : True := by have := @g_slices_Concat_byte_byte_l1.eq_2; trivial
def g_slices_Concat_byte_byte (k : Nat) (x640 : (List (List Int))) : Option (List Int) := ((g_slices_Concat_byte_byte_l0 k x640 k 0 0).bind fun x728 => ((g_slices_Grow_byte_byte k x728).bind fun x740 => ((g_slices_Concat_byte_byte_l1 k x640 k 0 x740).bind fun x753 => some x753)))
def g_simfs_Disk_Write_l0 (k : Nat) (x520 : (List S_simfs_file)) : Nat → Int → (List (ByteArray × (Option Nat))) → Option Int
  | 0, _, _ => none
  | n + 1, x789, x790 => (bif (List.isEmpty x790) then some x789 else (demonP (fun x802 x803 => (x802.2.bind fun x805 => ((x520[x805]?).bind fun x807 => ((some (IntKind.wrap .i64 (x789 - ((List.length x807.fnow : Nat) : Int)))).bind fun x809 => (g_simfs_Disk_Write_l0 k x520 n x809 x803))))) (picks x790)))
theorem g_simfs_Disk_Write_l0_eqs : True := by have := @g_simfs_Disk_Write_l0.eq_2; trivial
def g_simfs_Disk_Write_l1 (k : Nat) (x520 : (List S_simfs_file)) : Nat → Int → (List (ByteArray × (Option Nat))) → Option Int
  | 0, _, _ => none
  | n + 1, x824, x825 => (bif (List.isEmpty x825) then some x824 else (demonP (fun x837 x838 => (x837.2.bind fun x840 => ((x520[x840]?).bind fun x842 => ((some (IntKind.wrap .i64 (x824 - ((List.length x842.fnow : Nat) : Int)))).bind fun x844 => (g_simfs_Disk_Write_l1 k x520 n x844 x838))))) (picks x825)))
theorem g_simfs_Disk_Write_l1_eqs : True := by have := @g_simfs_Disk_Write_l1.eq_2; trivial
def g_simfs_Disk_Write (k : Nat) (x510 : ByteArray) (x511 : (List Int)) (x512 : Int) (x513 : (List (Int × Int))) (x514 : Int) (x515 : Bool) (x516 : (List (ByteArray × (Option Nat)))) (x517 : (List (ByteArray × (Option Nat)))) (x518 : (List (Option Nat))) (x519 : (List S_simfs_entry)) (x520 : (List S_simfs_file)) : Option (Int × Int × Bool × (List S_simfs_file)) := ((g_simfs_Disk_there k ([x510] : List ByteArray) x512 x513 x514 x515 x516 x517 x518 x519).bind fun y777 => match y777 with | (Sum.inl (x771, x772, x773)) => (bif (!decide (x771 = 0)) then some (x771, x772, x773, x520) else ((g_simfs_Disk_Write_l0 k x520 k x512 x516).bind fun x800 => ((some (decide (x800 < ((List.length x511 : Nat) : Int)))).bind fun x813 => (bif x813 then some (60, x772, x773, x520) else none)))) | (Sum.inr (x774, x775, x776)) => ((g_simfs_Disk_Write_l1 k x520 k x512 x516).bind fun x835 => ((some (decide (x835 < ((List.length x511 : Nat) : Int)))).bind fun x848 => (bif x848 then some (60, x775, x776, x520) else (x774.bind fun x850 => ((x520[x850]?).bind fun x852 => ((g_slices_Concat_byte_byte k ([x852.fnow, x511] : List (List Int))).bind fun x855 => (x774.bind fun x856 => ((x520[x856]?).bind fun x858 => some (0, x775, x776, (List.set x520 x856 (⟨x855, x858.fsafe⟩ : S_simfs_file))))))))))))
def g_simfs_Disk_Fsync (k : Nat) (x868 : ByteArray) (x869 : Int) (x870 : (List (Int × Int))) (x871 : Int) (x872 : Bool) (x873 : (List (ByteArray × (Option Nat)))) (x874 : (List (ByteArray × (Option Nat)))) (x875 : (List (Option Nat))) (x876 : (List S_simfs_entry)) (x877 : (List S_simfs_file)) : Option (Int × Int × Bool × (List S_simfs_file)) := ((g_simfs_Disk_there k ([x868] : List ByteArray) x869 x870 x871 x872 x873 x874 x875 x876).bind fun y916 => match y916 with | (Sum.inl (x910, x911, x912)) => (bif (decide (x910 = 0)) then none else some (x910, x911, x912, x877)) | (Sum.inr (x913, x914, x915)) => (x913.bind fun x927 => ((x877[x927]?).bind fun x929 => (x913.bind fun x931 => ((x877[x931]?).bind fun x933 => some (0, x914, x915, (List.set x877 x931 (⟨x933.fnow, x929.fnow⟩ : S_simfs_file))))))))
def g_simfs_entry_to__b (k : Nat) (x974 : ByteArray) (x975 : ByteArray) (x976 : (List (ByteArray × (Option Nat)))) : Option Unit := some ()
def g_simfs_Disk_change__b (k : Nat) (x963 : ByteArray) (x964 : ByteArray) (x965 : Int) (x966 : (List (Int × Int))) (x967 : Int) (x968 : Bool) (x969 : (List (ByteArray × (Option Nat)))) (x970 : (List (ByteArray × (Option Nat)))) (x971 : (List (Option Nat))) (x972 : (List S_simfs_entry)) : Option Unit := ((g_simfs_entry_to__b k x963 x964 x969).bind fun _ => (bif (decide (((List.length x972) + (List.length ([(⟨x963, x964, none⟩ : S_simfs_entry)] : List S_simfs_entry))) * 40 ≤ 140737488355328)) then some () else none))
def g_simfs_Disk_Rename (k : Nat) (x943 : ByteArray) (x944 : ByteArray) (x945 : Int) (x946 : (List (Int × Int))) (x947 : Int) (x948 : Bool) (x949 : (List (ByteArray × (Option Nat)))) (x950 : (List (ByteArray × (Option Nat)))) (x951 : (List (Option Nat))) (x952 : (List S_simfs_entry)) : Option (Int × Int × Bool × (List (ByteArray × (Option Nat))) × (List S_simfs_entry)) := ((g_simfs_Disk_there k ([x943, x944] : List ByteArray) x945 x946 x947 x948 x949 x950 x951 x952).bind fun y1010 => match y1010 with | (Sum.inl (x1004, x1005, x1006)) => (((bif (decide (x1004 = 0)) then ((g_simfs_Disk_change__b k x943 x944 x945 x946 x1005 x1006 x949 x950 x951 x952).bind fun _ => some ((dDel x949 x943), (x952 ++ ([(⟨x943, x944, none⟩ : S_simfs_entry)] : List S_simfs_entry)))) else some (x949, x952)) : Option ((List (ByteArray × (Option Nat))) × (List S_simfs_entry))).bind fun (x1013, x1014) => some (x1004, x1005, x1006, x1013, x1014)) | (Sum.inr (x1007, x1008, x1009)) => ((g_simfs_Disk_change k x943 x944 x1007 x945 x946 x1008 x1009 x949 x950 x951 x952).bind fun x1021 => some (0, x1008, x1009, x1021, (x952 ++ ([(⟨x943, x944, x1007⟩ : S_simfs_entry)] : List S_simfs_entry)))))
def g_maps_Clone_map_string_simfs_file_string_simfs_file (k : Nat) (x1167 : (List (ByteArray × (Option Nat)))) : Option Unit := some ()
def g_simfs_Disk_Dirsync (k : Nat) (x1031 : Int) (x1032 : (List (Int × Int))) (x1033 : Int) (x1034 : Bool) (x1035 : (List (ByteArray × (Option Nat)))) (x1036 : (List (ByteArray × (Option Nat)))) (x1037 : (List (Option Nat))) (x1038 : (List S_simfs_entry)) : Option ((Int × Int × Bool) ⊕ (Int × Int × Bool)) := ((g_simfs_Disk_step k ([] : List ByteArray) x1031 x1032 x1033 x1034 x1035 x1036 x1037 x1038).bind fun (x1181, x1182, x1183) => (((bif (decide (x1181 = 0)) then ((g_maps_Clone_map_string_simfs_file_string_simfs_file k x1035).bind fun _ => some (Sum.inl ())) else some (Sum.inr ())) : Option (Unit ⊕ Unit)).bind fun y1189 => match y1189 with | (Sum.inl _) => some (Sum.inl (x1181, x1182, x1183)) | (Sum.inr _) => some (Sum.inr (x1181, x1182, x1183))))
def g_simfs_Disk_Remove (k : Nat) (x1205 : ByteArray) (x1206 : Int) (x1207 : (List (Int × Int))) (x1208 : Int) (x1209 : Bool) (x1210 : (List (ByteArray × (Option Nat)))) (x1211 : (List (ByteArray × (Option Nat)))) (x1212 : (List (Option Nat))) (x1213 : (List S_simfs_entry)) : Option (Int × Int × Bool × (List (ByteArray × (Option Nat))) × (List S_simfs_entry)) := ((g_simfs_Disk_there k ([x1205] : List ByteArray) x1206 x1207 x1208 x1209 x1210 x1211 x1212 x1213).bind fun y1244 => match y1244 with | (Sum.inl (x1238, x1239, x1240)) => (((bif (decide (x1238 = 0)) then ((g_simfs_Disk_change__b k x1205 (ByteArray.mk #[]) x1206 x1207 x1239 x1240 x1210 x1211 x1212 x1213).bind fun _ => some ((dDel x1210 x1205), (x1213 ++ ([(⟨x1205, (ByteArray.mk #[]), none⟩ : S_simfs_entry)] : List S_simfs_entry)))) else some (x1210, x1213)) : Option ((List (ByteArray × (Option Nat))) × (List S_simfs_entry))).bind fun (x1247, x1248) => some (x1238, x1239, x1240, x1247, x1248)) | (Sum.inr (x1241, x1242, x1243)) => ((g_simfs_Disk_change__b k x1205 (ByteArray.mk #[]) x1206 x1207 x1242 x1243 x1210 x1211 x1212 x1213).bind fun _ => some (0, x1242, x1243, (dDel x1210 x1205), (x1213 ++ ([(⟨x1205, (ByteArray.mk #[]), none⟩ : S_simfs_entry)] : List S_simfs_entry)))))
def g_store_Save (k : Nat) (x50 : ByteArray) (x51 : (List Int)) (x52 : Int) (x53 : (List (Int × Int))) (x54 : Int) (x55 : Bool) (x56 : (List (ByteArray × (Option Nat)))) (x57 : (List (ByteArray × (Option Nat)))) (x58 : (List (Option Nat))) (x59 : (List S_simfs_entry)) (x60 : (List S_simfs_file)) : Option ((Int × Int × Bool × (List (ByteArray × (Option Nat))) × (List (Option Nat)) × (List S_simfs_entry) × (List S_simfs_file)) ⊕ (Int × Int × Bool × (List (ByteArray × (Option Nat))) × (List (Option Nat)) × (List (ByteArray × (Option Nat))) × (List S_simfs_file))) := ((g_store_Right k x50).bind fun x1383 => (bif (!x1383) then some (Sum.inl (1, x54, x55, x56, x58, x59, x60)) else ((some (decide (1048576 < ((List.length x51 : Nat) : Int)))).bind fun x1387 => (bif x1387 then some (Sum.inl (3, x54, x55, x56, x58, x59, x60)) else ((g_store_steps k x50 x51 x52 x53 x54 x55 x56 x57 x58 x59 x60).bind fun _ => ((g_simfs_Disk_Create k (x50 ++ (ByteArray.mk #[46, 116, 109, 112])) x52 x53 x54 x55 x56 x57 x58 x59 x60).bind fun (x1392, x1393, x1394, x1395, x1396, x1397, x1398) => (bif (decide (x1392 = 0)) then ((g_simfs_Disk_Write k (x50 ++ (ByteArray.mk #[46, 116, 109, 112])) x51 x52 x53 x1393 x1394 x1395 x57 x1396 x1397 x1398).bind fun (x1403, x1404, x1405, x1406) => (bif (decide (x1403 = 0)) then ((g_simfs_Disk_Fsync k (x50 ++ (ByteArray.mk #[46, 116, 109, 112])) x52 x53 x1404 x1405 x1395 x57 x1396 x1397 x1406).bind fun (x1411, x1412, x1413, x1414) => (bif (decide (x1411 = 0)) then ((g_simfs_Disk_Rename k (x50 ++ (ByteArray.mk #[46, 116, 109, 112])) x50 x52 x53 x1412 x1413 x1395 x57 x1396 x1397).bind fun (x1419, x1420, x1421, x1422, x1423) => (bif (decide (x1419 = 0)) then ((g_simfs_Disk_Dirsync k x52 x53 x1420 x1421 x1422 x57 x1396 x1423).bind fun y1434 => match y1434 with | (Sum.inl (x1428, x1429, x1430)) => (bif (decide (x1428 = 0)) then some (Sum.inr (0, x1429, x1430, x1422, x1396, x1422, x1414)) else some (Sum.inr (x1428, x1429, x1430, x1422, x1396, x1422, x1414))) | (Sum.inr (x1431, x1432, x1433)) => (bif (decide (x1431 = 0)) then some (Sum.inl (0, x1432, x1433, x1422, x1396, x1423, x1414)) else some (Sum.inl (x1431, x1432, x1433, x1422, x1396, x1423, x1414)))) else ((g_store_Temp k x50).bind fun _ => ((g_simfs_Disk_Remove k (x50 ++ (ByteArray.mk #[46, 116, 109, 112])) x52 x53 x1420 x1421 x1422 x57 x1396 x1423).bind fun (x1464, x1465, x1466, x1467, x1468) => some (Sum.inl (x1419, x1465, x1466, x1467, x1396, x1468, x1414)))))) else ((g_store_Temp k x50).bind fun _ => ((g_simfs_Disk_Remove k (x50 ++ (ByteArray.mk #[46, 116, 109, 112])) x52 x53 x1412 x1413 x1395 x57 x1396 x1397).bind fun (x1492, x1493, x1494, x1495, x1496) => some (Sum.inl (x1411, x1493, x1494, x1495, x1396, x1496, x1414)))))) else ((g_store_Temp k x50).bind fun _ => ((g_simfs_Disk_Remove k (x50 ++ (ByteArray.mk #[46, 116, 109, 112])) x52 x53 x1404 x1405 x1395 x57 x1396 x1397).bind fun (x1520, x1521, x1522, x1523, x1524) => some (Sum.inl (x1403, x1521, x1522, x1523, x1396, x1524, x1406)))))) else ((g_store_Temp k x50).bind fun _ => ((g_simfs_Disk_Remove k (x50 ++ (ByteArray.mk #[46, 116, 109, 112])) x52 x53 x1393 x1394 x1395 x57 x1396 x1397).bind fun (x1548, x1549, x1550, x1551, x1552) => some (Sum.inl (x1392, x1549, x1550, x1551, x1396, x1552, x1398)))))))))))
def g_simfs_Disk_Steps (k : Nat) (x1569 : Int) (x1570 : (List (Int × Int))) (x1571 : Int) (x1572 : Bool) (x1573 : (List (ByteArray × (Option Nat)))) (x1574 : (List (ByteArray × (Option Nat)))) (x1575 : (List (Option Nat))) (x1576 : (List S_simfs_entry)) : Option Unit := some ()
def g_simfs_Disk_Boot_l0 (k : Nat) (x1588 : (List S_simfs_entry)) (x3002 : Int) (x3004 : Int) : Nat → Int → (List (ByteArray × (Option Nat))) → Option ((List (ByteArray × (Option Nat))))
  | 0, _, _ => none
  | n + 1, x3012, x3013 => (bif (decide (x3012 < x3004)) then ((ix (List.drop (Int.toNat 0) (List.take (Int.toNat x3002) x1588)) x3012).bind fun x3024 => ((g_simfs_entry_to k x3024.fgone x3024.fname x3024.ff x3013).bind fun x3028 => (g_simfs_Disk_Boot_l0 k x1588 x3002 x3004 n (IntKind.wrap .i64 (x3012 + 1)) x3028))) else some x3013)
theorem g_simfs_Disk_Boot_l0_eqs : True := by have := @g_simfs_Disk_Boot_l0.eq_2; trivial
def g_simfs_Disk_Boot_l1 (k : Nat) (x1580 : (List Int)) (x1587 : (List (Option Nat))) : Nat → Int → (List S_simfs_file) → Option (List S_simfs_file)
  | 0, _, _ => none
  | n + 1, x3715, x3716 => ((some (decide (x3715 < ((List.length x1587 : Nat) : Int)))).bind fun x4403 => (bif x4403 then ((ix x1587 x3715).bind fun x4747 => ((((((some (decide (x3715 < ((List.length x1580 : Nat) : Int)))).bind fun x4953 => (bif x4953 then ((ix x1580 x3715).bind fun x4955 => (x4747.bind fun x4956 => ((x3716[x4956]?).bind fun x4958 => ((some (decide (((List.length x4958.fsafe : Nat) : Int) < x4955))).bind fun x4960 => some x4960)))) else some false)) : Option Bool).bind fun x4937 => (bif x4937 then (x4747.bind fun x5048 => ((ix x1580 x3715).bind fun x5056 => (x4747.bind fun x5063 => ((x3716[x5048]?).bind fun x5067 => ((x3716[x5063]?).bind fun x5071 => ((some (if (((List.length x5071.fnow : Nat) : Int) : Int) < x5056 then (((List.length x5071.fnow : Nat) : Int) : Int) else x5056)).bind fun x5073 => (bif (decide (0 ≤ (0 : Int) ∧ (0 : Int) ≤ x5073 ∧ x5073 ≤ ((List.length x5067.fnow : Nat) : Int))) then (x4747.bind fun x5075 => ((x3716[x5075]?).bind fun x5077 => some (List.set x3716 x5075 (⟨x5077.fnow, (List.drop (Int.toNat 0) (List.take (Int.toNat x5073) x5067.fnow))⟩ : S_simfs_file)))) else none))))))) else some x3716)) : Option (List S_simfs_file)).bind fun x4913 => (x4747.bind fun x5080 => ((x4913[x5080]?).bind fun x5082 => (x4747.bind fun x5084 => ((x4913[x5084]?).bind fun x5086 => (g_simfs_Disk_Boot_l1 k x1580 x1587 n (IntKind.wrap .i64 (x3715 + 1)) (List.set x4913 x5084 (⟨x5082.fsafe, x5086.fsafe⟩ : S_simfs_file))))))))) else some x3716))
theorem g_simfs_Disk_Boot_l1_eqs : True := by have := @g_simfs_Disk_Boot_l1.eq_2; trivial
def g_simfs_Disk_Boot (k : Nat) (x1579 : Int) (x1580 : (List Int)) (x1581 : Int) (x1582 : (List (Int × Int))) (x1583 : Int) (x1584 : Bool) (x1585 : (List (ByteArray × (Option Nat)))) (x1586 : (List (ByteArray × (Option Nat)))) (x1587 : (List (Option Nat))) (x1588 : (List S_simfs_entry)) (x1589 : (List S_simfs_file)) : Option ((List (ByteArray × (Option Nat))) × (List (ByteArray × (Option Nat))) × (List S_simfs_file)) := ((some (if (0 : Int) > x1579 then (0 : Int) else x1579)).bind fun x3001 => ((some (if (((List.length x1588 : Nat) : Int) : Int) < x3001 then (((List.length x1588 : Nat) : Int) : Int) else x3001)).bind fun x3002 => (bif (decide (0 ≤ (0 : Int) ∧ (0 : Int) ≤ x3002 ∧ x3002 ≤ ((List.length x1588 : Nat) : Int))) then ((some ((List.length (List.drop (Int.toNat 0) (List.take (Int.toNat x3002) x1588)) : Nat) : Int)).bind fun x3004 => ((g_simfs_Disk_Boot_l0 k x1588 x3002 x3004 k 0 x1586).bind fun x3021 => ((g_simfs_Disk_Boot_l1 k x1580 x1587 k 0 x1589).bind fun x4402 => ((g_maps_Clone_map_string_simfs_file_string_simfs_file k x3021).bind fun _ => some (x3021, x3021, x4402))))) else none)))
def g_slices_Clone_byte_byte (k : Nat) (x5136 : List Int) : Option (List Int) := bif decide ((List.length ([] : List Int) + List.length x5136) * 1 ≤ 140737488355328) then some x5136 else none
def g_simfs_Disk_Read (k : Nat) (x5111 : ByteArray) (x5112 : Int) (x5113 : (List (Int × Int))) (x5114 : Int) (x5115 : Bool) (x5116 : (List (ByteArray × (Option Nat)))) (x5117 : (List (ByteArray × (Option Nat)))) (x5118 : (List (Option Nat))) (x5119 : (List S_simfs_entry)) (x5120 : (List S_simfs_file)) : Option ((List Int) × Int × Int × Bool) := ((g_simfs_Disk_there k ([x5111] : List ByteArray) x5112 x5113 x5114 x5115 x5116 x5117 x5118 x5119).bind fun y5151 => match y5151 with | (Sum.inl (x5145, x5146, x5147)) => (bif (!decide (x5145 = 0)) then some (([] : List Int), x5145, x5146, x5147) else none) | (Sum.inr (x5148, x5149, x5150)) => (x5148.bind fun x5154 => ((x5120[x5154]?).bind fun x5156 => ((g_slices_Clone_byte_byte k x5156.fnow).bind fun x5159 => some (x5159, 0, x5149, x5150)))))
def g_store_Load (k : Nat) (x5094 : ByteArray) (x5095 : Int) (x5096 : (List (Int × Int))) (x5097 : Int) (x5098 : Bool) (x5099 : (List (ByteArray × (Option Nat)))) (x5100 : (List (ByteArray × (Option Nat)))) (x5101 : (List (Option Nat))) (x5102 : (List S_simfs_entry)) (x5103 : (List S_simfs_file)) : Option ((List Int) × Int × Int × Bool) := ((g_store_Right k x5094).bind fun x5173 => (bif (!x5173) then some (([] : List Int), 1, x5097, x5098) else ((g_simfs_Disk_Read k x5094 x5095 x5096 x5097 x5098 x5099 x5100 x5101 x5102 x5103).bind fun (x5176, x5177, x5178, x5179) => some (x5176, x5177, x5178, x5179))))
def g_quirelaw22_alive (k : Nat) (x24 : (List S_simfs_file)) : Option (Bool × (List S_simfs_file)) := ((g_simfs_New k 100).bind fun y5230 => match y5230 with | (Sum.inl _) => some (false, x24) | (Sum.inr _) => ((g_store_Save k (ByteArray.mk #[98]) ([120] : List Int) 100 ([] : List (Int × Int)) 0 false ([] : List (ByteArray × (Option Nat))) ([] : List (ByteArray × (Option Nat))) ([] : List (Option Nat)) ([] : List S_simfs_entry) x24).bind fun y5246 => match y5246 with | (Sum.inl (x5232, x5233, x5234, x5235, x5236, x5237, x5238)) => ((g_simfs_Disk_Steps k 100 ([] : List (Int × Int)) x5233 x5234 x5235 ([] : List (ByteArray × (Option Nat))) x5236 x5237).bind fun _ => ((g_simfs_Disk_Boot k 0 ([] : List Int) 100 ([] : List (Int × Int)) x5233 x5234 x5235 ([] : List (ByteArray × (Option Nat))) x5236 x5237 x5238).bind fun (x5249, x5250, x5251) => ((g_store_Load k (ByteArray.mk #[98]) 100 ([] : List (Int × Int)) x5233 false x5250 x5249 x5236 ([] : List S_simfs_entry) x5251).bind fun (x5253, x5254, x5255, x5256) => (((bif (decide (x5232 = 0)) then (bif (decide (x5233 = 5)) then (bif (decide (x5254 = 0)) then ((some ((strOf x5253).toList == (ByteArray.mk #[120]).toList)).bind fun x5268 => (bif x5268 then ((g_store_Temp k (ByteArray.mk #[98])).bind fun _ => ((some (((ByteArray.mk #[98]) ++ (ByteArray.mk #[46, 116, 109, 112])).toList == (ByteArray.mk #[98, 46, 116, 109, 112]).toList)).bind fun x5271 => some x5271)) else some false)) else some false) else some false) else some false) : Option Bool).bind fun x5264 => some (x5264, x5251))))) | (Sum.inr (x5239, x5240, x5241, x5242, x5243, x5244, x5245)) => ((g_simfs_Disk_Steps k 100 ([] : List (Int × Int)) x5240 x5241 x5242 x5244 x5243 ([] : List S_simfs_entry)).bind fun _ => ((g_simfs_Disk_Boot k 0 ([] : List Int) 100 ([] : List (Int × Int)) x5240 x5241 x5242 x5244 x5243 ([] : List S_simfs_entry) x5245).bind fun (x5275, x5276, x5277) => ((g_store_Load k (ByteArray.mk #[98]) 100 ([] : List (Int × Int)) x5240 false x5276 x5275 x5243 ([] : List S_simfs_entry) x5277).bind fun (x5279, x5280, x5281, x5282) => (((bif (decide (x5239 = 0)) then (bif (decide (x5240 = 5)) then (bif (decide (x5280 = 0)) then ((some ((strOf x5279).toList == (ByteArray.mk #[120]).toList)).bind fun x5294 => (bif x5294 then ((g_store_Temp k (ByteArray.mk #[98])).bind fun _ => ((some (((ByteArray.mk #[98]) ++ (ByteArray.mk #[46, 116, 109, 112])).toList == (ByteArray.mk #[98, 46, 116, 109, 112]).toList)).bind fun x5297 => some x5297)) else some false)) else some false) else some false) else some false) : Option Bool).bind fun x5290 => some (x5290, x5277)))))))
def g_quirelaw01_Same (k : Nat) (x5454 : (List Int)) (x5455 : (List Int)) : Option Bool := ((some ((strOf x5454).toList == (strOf x5455).toList)).bind fun x5459 => some x5459)
def g_quirelaw22_StoreRoom (k : Nat) (x4 : (List Int)) (x5 : (List Int)) (x6 : Int) (x7 : (List S_simfs_file)) : Option (Bool × (List S_simfs_file)) := ((((some (decide (4096 < ((List.length x4 : Nat) : Int)))).bind fun x5607 => (bif x5607 then some true else ((some (decide (4096 < ((List.length x5 : Nat) : Int)))).bind fun x5609 => (bif x5609 then some true else (bif (decide (x6 < 0)) then some true else ((some (decide (((List.length x5 : Nat) : Int) < x6))).bind fun x5612 => some x5612)))))) : Option Bool).bind fun x5606 => (bif x5606 then ((g_quirelaw22_alive k x7).bind fun (x5616, x5617) => some (x5616, x5617)) else ((some (IntKind.wrap .i64 (((List.length x4 : Nat) : Int) + ((List.length x5 : Nat) : Int)))).bind fun x5618 => ((g_simfs_New k (IntKind.wrap .i64 (x5618 - x6))).bind fun y5620 => match y5620 with | (Sum.inl _) => some (false, x7) | (Sum.inr _) => ((((g_store_Save k (ByteArray.mk #[98]) x4 (IntKind.wrap .i64 (x5618 - x6)) ([] : List (Int × Int)) 0 false ([] : List (ByteArray × (Option Nat))) ([] : List (ByteArray × (Option Nat))) ([] : List (Option Nat)) ([] : List S_simfs_entry) x7).bind fun y5693 => match y5693 with | (Sum.inl (x5679, x5680, x5681, x5682, x5683, x5684, x5685)) => (bif (!decide (x5679 = 0)) then ((((some (IntKind.wrap .i64 (((List.length x4 : Nat) : Int) + ((List.length x5 : Nat) : Int)))).bind fun x5703 => ((some (decide ((IntKind.wrap .i64 (x5703 - x6)) < ((List.length x4 : Nat) : Int)))).bind fun x5704 => (bif x5704 then ((g_quirelaw22_alive k x5685).bind fun (x5707, x5708) => some (x5707, x5708)) else some (false, x5685)))) : Option (Bool × (List S_simfs_file))).bind fun (x5701, x5702) => some (Sum.inl (x5701, x5702))) else some (Sum.inr (x5680, x5681, x5683, x5682, ([] : List (ByteArray × (Option Nat))), x5684, x5685))) | (Sum.inr (x5686, x5687, x5688, x5689, x5690, x5691, x5692)) => (bif (!decide (x5686 = 0)) then ((((some (IntKind.wrap .i64 (((List.length x4 : Nat) : Int) + ((List.length x5 : Nat) : Int)))).bind fun x5719 => ((some (decide ((IntKind.wrap .i64 (x5719 - x6)) < ((List.length x4 : Nat) : Int)))).bind fun x5720 => (bif x5720 then ((g_quirelaw22_alive k x5692).bind fun (x5723, x5724) => some (x5723, x5724)) else some (false, x5692)))) : Option (Bool × (List S_simfs_file))).bind fun (x5717, x5718) => some (Sum.inl (x5717, x5718))) else some (Sum.inr (x5687, x5688, x5690, x5689, x5691, ([] : List S_simfs_entry), x5692)))) : Option ((Bool × (List S_simfs_file)) ⊕ (Int × Bool × (List (Option Nat)) × (List (ByteArray × (Option Nat))) × (List (ByteArray × (Option Nat))) × (List S_simfs_entry) × (List S_simfs_file)))).bind fun y5727 => match y5727 with | (Sum.inl (x5669, x5670)) => some (x5669, x5670) | (Sum.inr (x5671, x5672, x5673, x5674, x5675, x5676, x5677)) => ((g_store_Save k (ByteArray.mk #[98]) x5 (IntKind.wrap .i64 (x5618 - x6)) ([] : List (Int × Int)) x5671 x5672 x5674 x5675 x5673 x5676 x5677).bind fun y5743 => match y5743 with | (Sum.inl (x5729, x5730, x5731, x5732, x5733, x5734, x5735)) => ((g_store_Load k (ByteArray.mk #[98]) (IntKind.wrap .i64 (x5618 - x6)) ([] : List (Int × Int)) x5730 x5731 x5732 x5675 x5733 x5734 x5735).bind fun (x5745, x5746, x5747, x5748) => (bif (decide (0 < x6)) then (((bif (decide (x5729 = 60)) then (bif (decide (x5746 = 0)) then ((g_quirelaw01_Same k x5745 x4).bind fun x5783 => (bif x5783 then ((g_quirelaw22_alive k x5735).bind fun (x5786, x5787) => some (x5786, x5787)) else some (false, x5735))) else some (false, x5735)) else some (false, x5735)) : Option (Bool × (List S_simfs_file))).bind fun (x5778, x5779) => some (x5778, x5779)) else (((bif (decide (x5729 = 0)) then (bif (decide (x5746 = 0)) then ((g_quirelaw01_Same k x5745 x5).bind fun x5802 => (bif x5802 then ((g_quirelaw22_alive k x5735).bind fun (x5805, x5806) => some (x5805, x5806)) else some (false, x5735))) else some (false, x5735)) else some (false, x5735)) : Option (Bool × (List S_simfs_file))).bind fun (x5797, x5798) => some (x5797, x5798)))) | (Sum.inr (x5736, x5737, x5738, x5739, x5740, x5741, x5742)) => ((g_store_Load k (ByteArray.mk #[98]) (IntKind.wrap .i64 (x5618 - x6)) ([] : List (Int × Int)) x5737 x5738 x5739 x5741 x5740 ([] : List S_simfs_entry) x5742).bind fun (x5809, x5810, x5811, x5812) => (bif (decide (0 < x6)) then (((bif (decide (x5736 = 60)) then (bif (decide (x5810 = 0)) then ((g_quirelaw01_Same k x5809 x4).bind fun x5847 => (bif x5847 then ((g_quirelaw22_alive k x5742).bind fun (x5850, x5851) => some (x5850, x5851)) else some (false, x5742))) else some (false, x5742)) else some (false, x5742)) : Option (Bool × (List S_simfs_file))).bind fun (x5842, x5843) => some (x5842, x5843)) else (((bif (decide (x5736 = 0)) then (bif (decide (x5810 = 0)) then ((g_quirelaw01_Same k x5809 x5).bind fun x5866 => (bif x5866 then ((g_quirelaw22_alive k x5742).bind fun (x5869, x5870) => some (x5869, x5870)) else some (false, x5742))) else some (false, x5742)) else some (false, x5742)) : Option (Bool × (List S_simfs_file))).bind fun (x5861, x5862) => some (x5861, x5862))))))))))
end Go.Proofs.Ytcaeafojgehamaa.W
namespace Go.Proofs.Ytcaeafojgehamaa.W
open Go Go.Q Go.Proofs
set_option linter.unusedVariables false
set_option linter.unusedSimpArgs false
set_option maxRecDepth 100000
theorem mixed : Try.prog.follows .mixedOrders = true := rfl
theorem sz5 : SzIs Try.prog 5 1 := ⟨Try.t5, rfl, rfl⟩
theorem sl22 : SlIs Try.prog 22 5 1 := ⟨Try.underlying22, sz5⟩
theorem bu41 : BuildIs Try.prog 41 (placeOf [(0, 1), (1, 1), (2, 1), (3, 1), (4, 1), (5, 1), (6, 1), (7, 1)]) [.int .i64 0, .slice none 0 0, .map none, .map none, .slice none 0 0, .map none, .int .i64 0, .bool false] := BuildIs.struct (it := Try.t41) rfl Try.underlying41 rfl rfl rfl (fun v hv => List.all_eq_true.1 (show ([.int .i64 0, .slice none 0 0, .map none, .map none, .slice none 0 0, .map none, .int .i64 0, .bool false] : List Value).all (fun v => v.oneCell') = true from rfl) v hv)
theorem fn5 : FnIs Try.prog 5 := ⟨_, Try.func5, rfl, by kernel_rfl⟩
theorem li22 : LitIs Try.prog 22 5 1 [.int .u8 0] := ⟨Try.underlying22, ⟨Try.t5, _, rfl, rfl, rfl, rfl⟩, fun v hv => List.all_eq_true.1 (show ([.int .u8 0] : List Value).all (fun v => v.oneCell') = true from rfl) v hv⟩
theorem sc9 : Sc Try.prog 9 := ⟨_, Try.t9, Try.underlying9, rfl, rfl, trivial⟩
theorem fn31 : FnIs Try.prog 31 := ⟨_, Try.func31, rfl, by kernel_rfl⟩
theorem fn39 : FnIs Try.prog 39 := ⟨_, Try.func39, rfl, by kernel_rfl⟩
theorem fn35 : FnIs Try.prog 35 := ⟨_, Try.func35, rfl, by kernel_rfl⟩
theorem fn30 : FnIs Try.prog 30 := ⟨_, Try.func30, rfl, by kernel_rfl⟩
theorem fn18 : FnIs Try.prog 18 := ⟨_, Try.func18, rfl, by kernel_rfl⟩
theorem fn32 : FnIs Try.prog 32 := ⟨_, Try.func32, rfl, by kernel_rfl⟩
theorem fn19 : FnIs Try.prog 19 := ⟨_, Try.func19, rfl, by kernel_rfl⟩
theorem fn12 : FnIs Try.prog 12 := ⟨_, Try.func12, rfl, by kernel_rfl⟩
theorem ze25 : ZeroIs Try.prog 25 [.int .i64 0] := ⟨⟨Try.t25, _, rfl, rfl, rfl⟩, fun v hv => List.all_eq_true.1 (show ([.int .i64 0] : List Value).all (fun v => v.oneCell') = true from rfl) v hv⟩
theorem sz25 : SzIs Try.prog 25 1 := ⟨Try.t25, rfl, rfl⟩
theorem sc24 : Sc Try.prog 24 := ⟨_, Try.t24, Try.underlying24, rfl, rfl, trivial⟩
theorem fn11 : FnIs Try.prog 11 := ⟨_, Try.func11, rfl, by kernel_rfl⟩
theorem ze9 : ZeroIs Try.prog 9 [.string (ByteArray.mk #[])] := ⟨⟨Try.t9, _, rfl, rfl, rfl⟩, fun v hv => List.all_eq_true.1 (show ([.string (ByteArray.mk #[])] : List Value).all (fun v => v.oneCell') = true from rfl) v hv⟩
theorem sz9 : SzIs Try.prog 9 1 := ⟨Try.t9, rfl, rfl⟩
theorem fn13 : FnIs Try.prog 13 := ⟨_, Try.func13, rfl, by kernel_rfl⟩
theorem li70 : LitIs Try.prog 70 9 1 [.string (ByteArray.mk #[])] := ⟨Try.underlying70, ⟨Try.t9, _, rfl, rfl, rfl, rfl⟩, fun v hv => List.all_eq_true.1 (show ([.string (ByteArray.mk #[])] : List Value).all (fun v => v.oneCell') = true from rfl) v hv⟩
theorem fi41_7 : FieldIs Try.prog 41 7 7 4 1 := ⟨_, _, Try.t4, Try.underlying41, rfl, rfl, rfl, rfl, rfl⟩
theorem sc4 : Sc Try.prog 4 := ⟨_, Try.t4, Try.underlying4, rfl, rfl, trivial⟩
theorem sl70 : SlIs Try.prog 70 9 1 := ⟨Try.underlying70, sz9⟩
theorem fn37 : FnIs Try.prog 37 := ⟨_, Try.func37, rfl, by kernel_rfl⟩
theorem fn40 : FnIs Try.prog 40 := ⟨_, Try.func40, rfl, by kernel_rfl⟩
theorem fn36 : FnIs Try.prog 36 := ⟨_, Try.func36, rfl, by kernel_rfl⟩
theorem fi41_6 : FieldIs Try.prog 41 6 6 3 1 := ⟨_, _, Try.t3, Try.underlying41, rfl, rfl, rfl, rfl, rfl⟩
theorem sc3 : Sc Try.prog 3 := ⟨_, Try.t3, Try.underlying3, rfl, rfl, trivial⟩
theorem sz3 : SzIs Try.prog 3 1 := ⟨Try.t3, rfl, rfl⟩
theorem fi41_5 : FieldIs Try.prog 41 5 5 39 1 := ⟨_, _, Try.t39, Try.underlying41, rfl, rfl, rfl, rfl, rfl⟩
theorem sc39 : Sc Try.prog 39 := ⟨_, Try.t39, Try.underlying39, rfl, rfl, trivial⟩
theorem dk3 : DKey Try.prog 3 (Value.int .i64) := dKey_int Try.underlying3
theorem iz3 : ∃ i, Try.prog.info? 3 = some i ∧ i.zero = some (.int .i64 0) := ⟨Try.t3, rfl, rfl⟩
theorem sz4 : SzIs Try.prog 4 1 := ⟨Try.t4, rfl, rfl⟩
theorem fn33 : FnIs Try.prog 33 := ⟨_, Try.func33, rfl, by kernel_rfl⟩
theorem fi41_2 : FieldIs Try.prog 41 2 2 36 1 := ⟨_, _, Try.t36, Try.underlying41, rfl, rfl, rfl, rfl, rfl⟩
theorem sc36 : Sc Try.prog 36 := ⟨_, Try.t36, Try.underlying36, rfl, rfl, trivial⟩
theorem dk9 : DKey Try.prog 9 Value.string := dKey_str Try.underlying9
theorem iz49 : ∃ i, Try.prog.info? 49 = some i ∧ i.zero = some (.pointer none) := ⟨Try.t49, rfl, rfl⟩
theorem bu54 : BuildIs Try.prog 54 (placeOf [(0, 1), (1, 1)]) [.slice none 0 0, .slice none 0 0] := BuildIs.struct (it := Try.t54) rfl Try.underlying54 rfl rfl rfl (fun v hv => List.all_eq_true.1 (show ([.slice none 0 0, .slice none 0 0] : List Value).all (fun v => v.oneCell') = true from rfl) v hv)
theorem fi41_1 : FieldIs Try.prog 41 1 1 37 1 := ⟨_, _, Try.t37, Try.underlying41, rfl, rfl, rfl, rfl, rfl⟩
theorem sc37 : Sc Try.prog 37 := ⟨_, Try.t37, Try.underlying37, rfl, rfl, trivial⟩
theorem sz49 : SzIs Try.prog 49 1 := ⟨Try.t49, rfl, rfl⟩
theorem li37 : LitIs Try.prog 37 49 1 [.pointer none] := ⟨Try.underlying37, ⟨Try.t49, _, rfl, rfl, rfl, rfl⟩, fun v hv => List.all_eq_true.1 (show ([.pointer none] : List Value).all (fun v => v.oneCell') = true from rfl) v hv⟩
theorem ap37 : ApIs Try.prog 37 49 1 8 := ⟨Try.underlying37, ⟨Try.t49, _, rfl, rfl, rfl, rfl, rfl⟩, by decide, by decide⟩
theorem sl37 : SlIs Try.prog 37 49 1 := ⟨Try.underlying37, sz49⟩
theorem sz37 : SzIs Try.prog 37 1 := ⟨Try.t37, rfl, rfl⟩
theorem bu51 : BuildIs Try.prog 51 (placeOf [(0, 1), (1, 1), (2, 1)]) [.string (ByteArray.mk #[]), .string (ByteArray.mk #[]), .pointer none] := BuildIs.struct (it := Try.t51) rfl Try.underlying51 rfl rfl rfl (fun v hv => List.all_eq_true.1 (show ([.string (ByteArray.mk #[]), .string (ByteArray.mk #[]), .pointer none] : List Value).all (fun v => v.oneCell') = true from rfl) v hv)
theorem ag51 : Ag Try.prog 51 3 := ⟨_, Try.t51, Try.underlying51, rfl, rfl, trivial⟩
theorem fi51_0 : FieldIs Try.prog 51 0 0 9 1 := ⟨_, _, Try.t9, Try.underlying51, rfl, rfl, rfl, rfl, rfl⟩
theorem fi51_2 : FieldIs Try.prog 51 2 2 49 1 := ⟨_, _, Try.t49, Try.underlying51, rfl, rfl, rfl, rfl, rfl⟩
theorem sc49 : Sc Try.prog 49 := ⟨_, Try.t49, Try.underlying49, rfl, rfl, trivial⟩
theorem fi51_1 : FieldIs Try.prog 51 1 1 9 1 := ⟨_, _, Try.t9, Try.underlying51, rfl, rfl, rfl, rfl, rfl⟩
theorem fn16 : FnIs Try.prog 16 := ⟨_, Try.func16, rfl, by kernel_rfl⟩
theorem fi41_4 : FieldIs Try.prog 41 4 4 38 1 := ⟨_, _, Try.t38, Try.underlying41, rfl, rfl, rfl, rfl, rfl⟩
theorem sc38 : Sc Try.prog 38 := ⟨_, Try.t38, Try.underlying38, rfl, rfl, trivial⟩
theorem sz51 : SzIs Try.prog 51 3 := ⟨Try.t51, rfl, rfl⟩
theorem li38 : LitIs Try.prog 38 51 3 [.string (ByteArray.mk #[]), .string (ByteArray.mk #[]), .pointer none] := ⟨Try.underlying38, ⟨Try.t51, _, rfl, rfl, rfl, rfl⟩, fun v hv => List.all_eq_true.1 (show ([.string (ByteArray.mk #[]), .string (ByteArray.mk #[]), .pointer none] : List Value).all (fun v => v.oneCell') = true from rfl) v hv⟩
theorem ap38 : ApIs Try.prog 38 51 3 40 := ⟨Try.underlying38, ⟨Try.t51, _, rfl, rfl, rfl, rfl, rfl⟩, by decide, by decide⟩
theorem sl38 : SlIs Try.prog 38 51 3 := ⟨Try.underlying38, sz51⟩
theorem sz38 : SzIs Try.prog 38 1 := ⟨Try.t38, rfl, rfl⟩
theorem fn27 : FnIs Try.prog 27 := ⟨_, Try.func27, rfl, by kernel_rfl⟩
theorem fn21 : FnIs Try.prog 21 := ⟨_, Try.func21, rfl, by kernel_rfl⟩
theorem sc22 : Sc Try.prog 22 := ⟨_, Try.t22, Try.underlying22, rfl, rfl, trivial⟩
theorem fn26 : FnIs Try.prog 26 := ⟨_, Try.func26, rfl, by kernel_rfl⟩
theorem fi41_0 : FieldIs Try.prog 41 0 0 3 1 := ⟨_, _, Try.t3, Try.underlying41, rfl, rfl, rfl, rfl, rfl⟩
theorem fi54_0 : FieldIs Try.prog 54 0 0 22 1 := ⟨_, _, Try.t22, Try.underlying54, rfl, rfl, rfl, rfl, rfl⟩
theorem sz22 : SzIs Try.prog 22 1 := ⟨Try.t22, rfl, rfl⟩
theorem li73 : LitIs Try.prog 73 22 1 [.slice none 0 0] := ⟨Try.underlying73, ⟨Try.t22, _, rfl, rfl, rfl, rfl⟩, fun v hv => List.all_eq_true.1 (show ([.slice none 0 0] : List Value).all (fun v => v.oneCell') = true from rfl) v hv⟩
theorem sl73 : SlIs Try.prog 73 22 1 := ⟨Try.underlying73, sz22⟩
theorem cn9 : Conc Try.prog 9 := ⟨_, Try.underlying9, trivial⟩
theorem ap22 : ApIs Try.prog 22 5 1 1 := ⟨Try.underlying22, ⟨Try.t5, _, rfl, rfl, rfl, rfl, rfl⟩, by decide, by decide⟩
theorem by5 : ∃ i, Try.prog.info? 5 = some i ∧ i.bytes = 1 := ⟨Try.t5, rfl, rfl⟩
theorem fn38 : FnIs Try.prog 38 := ⟨_, Try.func38, rfl, by kernel_rfl⟩
theorem fn34 : FnIs Try.prog 34 := ⟨_, Try.func34, rfl, by kernel_rfl⟩
theorem fn22 : FnIs Try.prog 22 := ⟨_, Try.func22, rfl, by kernel_rfl⟩
theorem fi54_1 : FieldIs Try.prog 54 1 1 22 1 := ⟨_, _, Try.t22, Try.underlying54, rfl, rfl, rfl, rfl, rfl⟩
theorem fn23 : FnIs Try.prog 23 := ⟨_, Try.func23, rfl, by kernel_rfl⟩
theorem fn24 : FnIs Try.prog 24 := ⟨_, Try.func24, rfl, by kernel_rfl⟩
theorem cn36 : Conc Try.prog 36 := ⟨_, Try.underlying36, trivial⟩
theorem ex29 : ExtIs Try.prog 29 Extern.MapsClone.clone := ⟨_, Try.func29, rfl, by kernel_rfl, by kernel_rfl, by kernel_rfl⟩
theorem fn17 : FnIs Try.prog 17 := ⟨_, Try.func17, rfl, by kernel_rfl⟩
theorem fi41_3 : FieldIs Try.prog 41 3 3 36 1 := ⟨_, _, Try.t36, Try.underlying41, rfl, rfl, rfl, rfl, rfl⟩
theorem sz36 : SzIs Try.prog 36 1 := ⟨Try.t36, rfl, rfl⟩
theorem fn25 : FnIs Try.prog 25 := ⟨_, Try.func25, rfl, by kernel_rfl⟩
theorem sc25 : Sc Try.prog 25 := ⟨_, Try.t25, Try.underlying25, rfl, rfl, trivial⟩
theorem fn14 : FnIs Try.prog 14 := ⟨_, Try.func14, rfl, by kernel_rfl⟩
theorem fn6 : FnIs Try.prog 6 := ⟨_, Try.func6, rfl, by kernel_rfl⟩
theorem fn9 : FnIs Try.prog 9 := ⟨_, Try.func9, rfl, by kernel_rfl⟩
theorem ze51 : ZeroIs Try.prog 51 [.string (ByteArray.mk #[]), .string (ByteArray.mk #[]), .pointer none] := ⟨⟨Try.t51, _, rfl, rfl, rfl⟩, fun v hv => List.all_eq_true.1 (show ([.string (ByteArray.mk #[]), .string (ByteArray.mk #[]), .pointer none] : List Value).all (fun v => v.oneCell') = true from rfl) v hv⟩
theorem sl48 : SlIs Try.prog 48 3 1 := ⟨Try.underlying48, sz3⟩
theorem sz39 : SzIs Try.prog 39 1 := ⟨Try.t39, rfl, rfl⟩
theorem fn10 : FnIs Try.prog 10 := ⟨_, Try.func10, rfl, by kernel_rfl⟩
theorem fn28 : FnIs Try.prog 28 := ⟨_, Try.func28, rfl, by kernel_rfl⟩
theorem fn15 : FnIs Try.prog 15 := ⟨_, Try.func15, rfl, by kernel_rfl⟩
theorem fn7 : FnIs Try.prog 7 := ⟨_, Try.func7, rfl, by kernel_rfl⟩
theorem fn4 : FnIs Try.prog 4 := ⟨_, Try.func4, rfl, by kernel_rfl⟩
theorem fn8 : FnIs Try.prog 8 := ⟨_, Try.func8, rfl, by kernel_rfl⟩
end Go.Proofs.Ytcaeafojgehamaa.W
namespace Go.Proofs.Ytcaeafojgehamaa.W
open Go Go.Q Go.Proofs
set_option linter.unusedVariables false
set_option linter.unusedSimpArgs false
set_option maxRecDepth 100000 in
set_option maxHeartbeats 4000000 in
theorem s_simfs_New (k : Nat) (x26 : Int) (r : (Unit ⊕ Unit)) (H : g_simfs_New k x26 = some r) : Go.Q.Spec Try.prog 5 0 [.lit (.int .i64 x26)] Mem.nil (fun o M => match (generalizing := false) r with | (Sum.inl _) => o = .ret (.tup [.lit (.pointer none), .lit (.int .i64 1)]) ∧ M = Mem.nil | (Sum.inr _) => o = .ret (.tup [.ptr 0 0, .lit (.int .i64 0)]) ∧ M = (((((Mem.nil.push (.cells 41 [.lit (.int .i64 x26), .whole 1, .mp 2, .mp 3, .whole 4, .ro (Rd.map (Value.int .i64) (Rd.int .i64)) false ([] : List (Int × Int)), .lit (.int .i64 0), .lit (.bool false)])).push (.row 49 (Rd.pp 0) ([] : List (Option Nat)))).push (.dict Value.string (Rd.pp 0) ([] : List (ByteArray × (Option Nat))) none)).push (.dict Value.string (Rd.pp 0) ([] : List (ByteArray × (Option Nat))) none)).push (.row 51 rdS_simfs_entry ([] : List S_simfs_entry)))) := by
 unfold g_simfs_New at H
 refine Go.Q.Spec.of_bodyR (az := []) (rs := [.tmp 2, .tmp 3]) (nt := 15) Try.func5 rfl rfl (by intro t T h; simp at h) rfl rfl fun cx hnp => ?_
 refine WP.seq ?_
 refine WP.region ?_
 refine WPL.q (q_as (v := .lit _) rfl) rfl ?_
 refine WPL.q (q_as (v := .lit (.int _ _)) rfl) rfl ?_
 refine WPL.nilW ?_
 refine W.now ?_
 refine Then.n ?_
 refine WP.seq ?_
 refine WP.seq ?_
 obtain ⟨x44, H45, H⟩ := bnd H
 refine WP.monoW (Q := fun x E M => x = .normal ∧ E = ((Env.none.upd 0 (.lit (.int .i64 x26))).upd 9 (.lit (.bool x44))) ∧ M = Mem.nil) ?_ ?_
 · clear H
   have H := H45
   clear H45
   refine WP.region ?_
   refine WPL.q (q_mv (v := .lit (.int _ _)) rfl) rfl ?_
   refine WPL.q (q_lss rfl rfl) rfl ?_
   refine WPL.q (q_mv (v := .lit (.bool _)) rfl) rfl ?_
   refine WPL.split (t := 6) (b := (decide (x26 < 0))) rfl (fun hb44 => ?_) (fun hb44 => ?_)
   · replace H := cnt hb44 H
     refine WPL.skipg (b' := true) rfl rfl (lb hb44) rfl rfl (.inl trivial) ?_
     refine WPL.skipg (b' := true) rfl rfl (lb hb44) rfl rfl (.inl trivial) ?_
     refine WPL.q (q_pickT (v := .lit (.bool _)) (lb hb44) rfl) rfl ?_
     refine WPL.nilW ?_
     have q0 := (Option.some.inj H)
     subst q0
     exact W.wk [] hnp ⟨rfl, rfl, rfl⟩ ⟨rfl, trivial, by decide, rfl, trivial, rfl⟩ (LeE.upd rfl rfl (LeE.upd rfl rfl (LeE.none rfl rfl))) rfl
   replace H := cnf hb44 H
   refine WPL.qg rfl rfl (lb hb44) (q_mv (v := .lit (.int _ _)) rfl) rfl ?_
   refine WPL.qg rfl rfl (lb hb44) (q_gtr rfl rfl) rfl ?_
   refine WPL.q (q_pickF (v := .lit (.bool _)) (lb hb44) rfl) rfl ?_
   refine WPL.nilW ?_
   have q0 := (Option.some.inj H)
   subst q0
   exact W.wk [] hnp ⟨rfl, rfl, rfl⟩ ⟨rfl, trivial, by decide, rfl, trivial, rfl⟩ (LeE.upd rfl rfl (LeE.upd rfl rfl (LeE.none rfl rfl))) rfl
 rintro _ _ _ ⟨rfl, rfl, rfl⟩
 refine W.now ?_
 refine Then.n ?_
 refine WP.cond (t := x44) rfl (fun hb46 => ?_) (fun hb46 => ?_)
 · replace H := cnt hb46 H
   refine WP.seq ?_
   refine WP.region ?_
   refine WPL.q (q_as (v := .lit _) rfl) rfl ?_
   refine WPL.q (q_as (v := .lit (.int _ _)) rfl) rfl ?_
   refine WPL.nilW ?_
   refine W.now ?_
   refine Then.n ?_
   refine WP.retW ?_
   have q0 := Option.some.inj H
   subst q0
   exact W.now (Then.r (BodyR.mkR trivial rfl [] ⟨rfl, rfl⟩ ⟨rfl, trivial, by decide, rfl, trivial, rfl⟩ rfl rfl))
 replace H := cnf hb46 H
 refine WP.skipW ?_
 refine W.now ?_
 refine Then.n ?_
 refine WP.seq ?_
 refine WP.region ?_
 refine WPL.q (q_mv (v := .lit (.int _ _)) rfl) rfl ?_
 refine WPL.d (d_makeDict (N := 0) Value.string (Rd.pp 0) rfl rfl) rfl ?_
 refine WPL.d (d_makeDict (N := 1) Value.string (Rd.pp 0) rfl rfl) rfl ?_
 refine WPL.q (q_build bu41 rfl) rfl ?_
 refine WPL.d (d_box rfl rfl) rfl ?_
 refine WPL.cv (Cv.nilMapC (Value.int .i64) (Rd.int .i64) false (i := 2) (off := 5) rfl rfl rfl) ?_
 refine WPL.cv (Cv.virC 49 (Rd.pp 0) (N := 3) rfl (i := 2) rfl (off := 1) rfl rfl) ?_
 refine WPL.cv (Cv.virC 51 rdS_simfs_entry (N := 4) rfl (i := 2) rfl (off := 4) rfl rfl) ?_
 refine WPL.q (q_as (v := .ptr _ _) rfl) rfl ?_
 refine WPL.q (q_as (v := .lit (.int _ _)) rfl) rfl ?_
 refine WPL.nilW ?_
 refine W.now ?_
 refine Then.n ?_
 refine WP.retW ?_
 have q0 := Option.some.inj H
 subst q0
 exact W.now (BodyR.mkR trivial rfl [2, 3, 0, 1, 4] ⟨rfl, rfl⟩ ⟨rfl, ⟨⟨⟨⟨⟨trivial, .inr ⟨rfl, rfl, rfl⟩⟩, .inr ⟨rfl, rfl, rfl⟩⟩, .inr ⟨rfl, rfl, rfl⟩⟩, .inr ⟨rfl, rfl, rfl⟩⟩, .inr ⟨rfl, rfl, rfl⟩⟩, by decide, rfl, trivial, rfl⟩ rfl rfl)
set_option maxRecDepth 100000 in
set_option maxHeartbeats 4000000 in
theorem s_simfs_Name_1 (k : Nat) (x78 : Int) (x86 : Bool) (H : g_simfs_Name_1 k x78 = some x86) : Go.Q.Spec Try.prog 31 0 [.lit (.int .i32 x78)] Mem.nil (fun o M => o = .ret (.lit (.bool x86)) ∧ M = Mem.nil) := by
 unfold g_simfs_Name_1 at H
 refine Go.Q.Spec.of_bodyR (az := []) (rs := [.tmp 2]) (nt := 13) Try.func31 rfl rfl (by intro t T h; simp at h) rfl rfl fun cx hnp => ?_
 refine WP.seq ?_
 refine WP.region ?_
 refine WPL.q (q_as (v := .lit (.bool _)) rfl) rfl ?_
 refine WPL.nilW ?_
 refine W.now ?_
 refine Then.n ?_
 refine WP.seq ?_
 obtain ⟨x89, H91, H⟩ := bnd H
 refine WP.monoW (Q := fun x E M => x = .normal ∧ E = (Env.none.upd 2 (.lit (.bool x89))) ∧ M = Mem.nil) ?_ ?_
 · clear H
   have H := H91
   clear H91
   refine WP.region ?_
   refine WPL.q (q_mv (v := .lit (.int _ _)) rfl) rfl ?_
   refine WPL.q (q_lss rfl rfl) rfl ?_
   refine WPL.q (q_mv (v := .lit (.bool _)) rfl) rfl ?_
   refine WPL.split (t := 5) (b := (decide (x78 < 33))) rfl (fun hb89 => ?_) (fun hb89 => ?_)
   · replace H := cnt hb89 H
     refine WPL.skipg (b' := true) rfl rfl (lb hb89) rfl rfl (.inl trivial) ?_
     refine WPL.skipg (b' := true) rfl rfl (lb hb89) rfl rfl (.inl trivial) ?_
     refine WPL.q (q_pickT (v := .lit (.bool _)) (lb hb89) rfl) rfl ?_
     refine WPL.q (q_mv (v := .lit (.bool _)) rfl) rfl ?_
     refine WPL.skipg (b' := true) rfl rfl rfl rfl rfl (.inl trivial) ?_
     refine WPL.skipg (b' := true) rfl rfl rfl rfl rfl (.inl trivial) ?_
     refine WPL.q (q_pickT (v := .lit (.bool _)) rfl rfl) rfl ?_
     refine WPL.q (q_as (v := .lit (.bool _)) rfl) rfl ?_
     refine WPL.nilW ?_
     have q0 := (Option.some.inj H)
     subst q0
     exact W.wk [] hnp ⟨rfl, rfl, rfl⟩ ⟨rfl, trivial, by decide, rfl, trivial, rfl⟩ (LeE.upd rfl rfl (LeE.none rfl rfl)) rfl
   replace H := cnf hb89 H
   refine WPL.qg rfl rfl (lb hb89) (q_mv (v := .lit (.int _ _)) rfl) rfl ?_
   refine WPL.qg rfl rfl (lb hb89) (q_gtr rfl rfl) rfl ?_
   refine WPL.q (q_pickF (v := .lit (.bool _)) (lb hb89) rfl) rfl ?_
   refine WPL.q (q_mv (v := .lit (.bool _)) rfl) rfl ?_
   refine WPL.split (t := 9) (b := (decide (126 < x78))) rfl (fun hb90 => ?_) (fun hb90 => ?_)
   · replace H := cnt hb90 H
     refine WPL.skipg (b' := true) rfl rfl (lb hb90) rfl rfl (.inl trivial) ?_
     refine WPL.skipg (b' := true) rfl rfl (lb hb90) rfl rfl (.inl trivial) ?_
     refine WPL.q (q_pickT (v := .lit (.bool _)) (lb hb90) rfl) rfl ?_
     refine WPL.q (q_as (v := .lit (.bool _)) rfl) rfl ?_
     refine WPL.nilW ?_
     have q0 := (Option.some.inj H)
     subst q0
     exact W.wk [] hnp ⟨rfl, rfl, rfl⟩ ⟨rfl, trivial, by decide, rfl, trivial, rfl⟩ (LeE.upd rfl rfl (LeE.none rfl rfl)) rfl
   replace H := cnf hb90 H
   refine WPL.qg rfl rfl (lb hb90) (q_mv (v := .lit (.int _ _)) rfl) rfl ?_
   refine WPL.qg rfl rfl (lb hb90) (q_eql rfl rfl) rfl ?_
   refine WPL.q (q_pickF (v := .lit (.bool _)) (lb hb90) rfl) rfl ?_
   refine WPL.q (q_as (v := .lit (.bool _)) rfl) rfl ?_
   refine WPL.nilW ?_
   have q0 := (Option.some.inj H)
   subst q0
   exact W.wk [] hnp ⟨rfl, rfl, rfl⟩ ⟨rfl, trivial, by decide, rfl, trivial, rfl⟩ (LeE.upd rfl rfl (LeE.none rfl rfl)) rfl
 rintro _ _ _ ⟨rfl, rfl, rfl⟩
 refine W.now ?_
 refine Then.n ?_
 refine WP.retW ?_
 have q0 := (Option.some.inj H)
 subst q0
 exact W.now (BodyR.mkR trivial rfl [] ⟨rfl, rfl⟩ ⟨rfl, trivial, by decide, rfl, trivial, rfl⟩ rfl rfl)
set_option maxRecDepth 100000 in
set_option maxHeartbeats 4000000 in
theorem s_strings_indexFunc (k : Nat) (x74 : ByteArray) (x75 : Bool) (x104 : Int) (H : g_strings_indexFunc k x74 x75 = some x104) : Go.Q.Spec Try.prog 39 0 [.lit (.string x74), .fn 31 [], .lit (.bool x75)] Mem.nil (fun o M => o = .ret (.lit (.int .i64 x104)) ∧ M = Mem.nil) := by
 unfold g_strings_indexFunc at H
 refine Go.Q.Spec.of_bodyR (az := []) (rs := [.tmp 6]) (nt := 21) Try.func39 rfl rfl (by intro t T h; simp at h) rfl rfl fun cx hnp => ?_
 refine WP.seq ?_
 refine WP.region ?_
 refine WPL.q (q_as (v := .lit (.int _ _)) rfl) rfl ?_
 refine WPL.nilW ?_
 refine W.now ?_
 refine Then.n ?_
 refine WP.seq ?_
 refine WP.seq ?_
 refine WP.region ?_
 refine WPL.q (q_mv (v := .lit (.string _)) rfl) rfl ?_
 refine WPL.d (d_range Try.underlying9 rfl rfl) rfl ?_
 refine WPL.nilW ?_
 refine W.now ?_
 refine Then.n ?_
 refine WP.block ?_
 refine WP.cv (Cv.weak (E' := (((Env.none.upd 1 (.fn 31 [])).upd 2 (.lit (.bool x75))).upd 10 (.ptr 0 0))) (M' := (Mem.nil.push (.obj (.stringIter x74 0)))) [0] hnp ⟨rfl, ⟨trivial, .inr ⟨rfl, rfl, rfl⟩⟩, by decide, rfl, trivial, rfl⟩ (LeE.upd rfl rfl (LeE.upd rfl rfl (LeE.upd rfl rfl (LeE.none rfl rfl))))) ?_
 obtain ⟨y120, H118, H⟩ := bnd H
 refine WP.monoW (Q := fun x E M => match (generalizing := false) y120 with | (Sum.inl x114) => x = .ret ∧ E = (Env.none.upd 6 (.lit (.int .i64 x114))) ∧ M = Mem.nil | (Sum.inr _) => x = .exit 0 ∧ E = Env.none ∧ M = Mem.nil) ?_ ?_
 · refine WP.loop (β := Nat) (fun n b => g_strings_indexFunc_l0 k x74 x75 n b = some y120) (fun b => (((Env.none.upd 1 (.fn 31 [])).upd 2 (.lit (.bool x75))).upd 10 (.ptr 0 0))) (fun b => (Mem.nil.push (.obj (.stringIter x74 b)))) k 0 H118 rfl rfl ?_
   rintro n x109 H
   obtain _ | n := n
   · exact nf rfl H
   rw [g_strings_indexFunc_l0.eq_2] at H
   show WP _ _ _ _ (((Env.none.upd 1 (.fn 31 [])).upd 2 (.lit (.bool x75))).upd 10 (.ptr 0 0)) (Mem.nil.push (.obj (.stringIter x74 x109))) _
   refine WP.seq ?_
   refine WP.region ?_
   refine WPL.splitB (decide (x109 < ByteArray.size x74)) (fun hb114 => ?_) (fun hb114 => ?_)
   · replace H := cnt hb114 H
     refine WPL.d (d_next rfl rfl hb114) rfl ?_
     refine WPL.q (q_extract rfl rfl) rfl ?_
     refine WPL.nilW ?_
     refine W.now ?_
     refine Then.n ?_
     refine WP.seq ?_
     refine WP.condT rfl ?_
     refine WP.skipW ?_
     refine W.now ?_
     refine Then.n ?_
     refine WP.block ?_
     refine WP.seq ?_
     refine WP.region ?_
     refine WPL.q (q_extract rfl rfl) rfl ?_
     refine WPL.q (q_extract rfl rfl) rfl ?_
     refine WPL.q (q_as (v := .lit (.int _ _)) rfl) rfl ?_
     refine WPL.q (q_as (v := .lit (.int _ _)) rfl) rfl ?_
     refine WPL.nilW ?_
     refine W.now ?_
     refine Then.n ?_
     refine WP.seq ?_
     refine WP.region ?_
     refine WPL.q (q_mv (v := .fn _ _) rfl) rfl ?_
     refine WPL.q (q_mv (v := .lit (.int _ _)) rfl) rfl ?_
     obtain ⟨x117, h115, H⟩ := bnd H
     refine WPL.c (runs_call (s := []) (t := []) (N := 1) (bor := []) fn31 rfl (s_simfs_Name_1 k (((Utf8.decode x74 x109).1 : Nat) : Int) x117 h115) ⟨rfl, trivial, by decide, rfl, trivial, rfl⟩ rfl trivial (.ren rfl rfl .nil) rfl trivial rfl) rfl ?_
     refine WPL.q (q_mv (v := .lit (.bool _)) rfl) rfl ?_
     refine WPL.q (q_eqlb Try.underlying4 rfl rfl) rfl ?_
     refine WPL.nilW ?_
     refine W.now ?_
     refine Then.n ?_
     refine WP.cond (t := (x117 == x75)) rfl (fun hb117 => ?_) (fun hb117 => ?_)
     · replace H := cnt hb117 H
       refine WP.seq ?_
       refine WP.region ?_
       refine WPL.q (q_mv (v := .lit (.int _ _)) rfl) rfl ?_
       refine WPL.q (q_as (v := .lit (.int _ _)) rfl) rfl ?_
       refine WPL.nilW ?_
       refine W.now ?_
       refine Then.n ?_
       refine WP.retW ?_
       have q0 := Option.some.inj H
       subst q0
       exact W.wk [] hnp (InBlock.r (Then.r ⟨rfl, rfl, rfl⟩)) ⟨rfl, trivial, by decide, rfl, trivial, rfl⟩ (LeE.upd rfl rfl (LeE.none rfl rfl)) rfl
     replace H := cnf hb117 H
     refine WP.skipW ?_
     exact W.wk [0] hnp (InBlock.n (Then.n ⟨n, (x109 + (Utf8.decode x74 x109).2), Nat.lt_succ_self n, H, rfl, rfl⟩)) ⟨rfl, ⟨trivial, .inr ⟨rfl, rfl, rfl⟩⟩, by decide, rfl, trivial, rfl⟩ (LeE.upd rfl rfl (LeE.upd rfl rfl (LeE.upd rfl rfl (LeE.none rfl rfl)))) rfl
   replace H := cnf hb114 H
   refine WPL.q (q_nextEnd rfl rfl hb114) rfl ?_
   refine WPL.q (q_extract rfl rfl) rfl ?_
   refine WPL.nilW ?_
   refine W.now ?_
   refine Then.n ?_
   refine WP.seq ?_
   refine WP.condF rfl ?_
   refine WP.exitW ?_
   have q0 := Option.some.inj H
   subst q0
   exact W.wk [] hnp (Then.x (Then.x ⟨rfl, rfl, rfl⟩)) ⟨rfl, trivial, by decide, rfl, trivial, rfl⟩ (LeE.none rfl rfl) rfl
 rcases y120 with x114 | _
 · rintro _ _ _ ⟨rfl, rfl, rfl⟩
   have q0 := (Option.some.inj H)
   subst q0
   exact W.now (InBlock.r (Then.r (BodyR.mkR trivial rfl [] ⟨rfl, rfl⟩ ⟨rfl, trivial, by decide, rfl, trivial, rfl⟩ rfl rfl)))
 rintro _ _ _ ⟨rfl, rfl, rfl⟩
 refine W.now ?_
 refine InBlock.x0 ?_
 refine Then.n ?_
 refine WP.seq ?_
 refine WP.region ?_
 refine WPL.q (q_as (v := .lit (.int _ _)) rfl) rfl ?_
 refine WPL.nilW ?_
 refine W.now ?_
 refine Then.n ?_
 refine WP.retW ?_
 have q0 := (Option.some.inj H)
 subst q0
 exact W.now (BodyR.mkR trivial rfl [] ⟨rfl, rfl⟩ ⟨rfl, trivial, by decide, rfl, trivial, rfl⟩ rfl rfl)
set_option maxRecDepth 100000 in
set_option maxHeartbeats 4000000 in
theorem s_strings_IndexFunc (k : Nat) (x72 : ByteArray) (x123 : Int) (H : g_strings_IndexFunc k x72 = some x123) : Go.Q.Spec Try.prog 35 0 [.lit (.string x72), .fn 31 []] Mem.nil (fun o M => o = .ret (.lit (.int .i64 x123)) ∧ M = Mem.nil) := by
 unfold g_strings_IndexFunc at H
 refine Go.Q.Spec.of_bodyR (az := []) (rs := [.tmp 4]) (nt := 8) Try.func35 rfl rfl (by intro t T h; simp at h) rfl rfl fun cx hnp => ?_
 refine WP.seq ?_
 refine WP.region ?_
 refine WPL.q (q_as (v := .lit (.int _ _)) rfl) rfl ?_
 refine WPL.nilW ?_
 refine W.now ?_
 refine Then.n ?_
 refine WP.seq ?_
 refine WP.region ?_
 refine WPL.q (q_mv (v := .lit (.string _)) rfl) rfl ?_
 refine WPL.q (q_mv (v := .fn _ _) rfl) rfl ?_
 obtain ⟨x125, h123, H⟩ := bnd H
 refine WPL.c (runs_call (s := []) (t := []) (N := 0) (bor := []) fn39 rfl (s_strings_indexFunc k x72 true x125 h123) ⟨rfl, trivial, by decide, rfl, trivial, rfl⟩ rfl trivial (.ren rfl rfl (.ren rfl rfl (.ren rfl rfl .nil))) rfl trivial rfl) rfl ?_
 refine WPL.q (q_as (v := .lit (.int _ _)) rfl) rfl ?_
 refine WPL.nilW ?_
 refine W.now ?_
 refine Then.n ?_
 refine WP.retW ?_
 have q0 := (Option.some.inj H)
 subst q0
 exact W.now (BodyR.mkR trivial rfl [] ⟨rfl, rfl⟩ ⟨rfl, trivial, by decide, rfl, trivial, rfl⟩ rfl rfl)
set_option maxRecDepth 100000 in
set_option maxHeartbeats 4000000 in
theorem s_strings_ContainsFunc (k : Nat) (x70 : ByteArray) (x128 : Bool) (H : g_strings_ContainsFunc k x70 = some x128) : Go.Q.Spec Try.prog 30 0 [.lit (.string x70), .fn 31 []] Mem.nil (fun o M => o = .ret (.lit (.bool x128)) ∧ M = Mem.nil) := by
 unfold g_strings_ContainsFunc at H
 refine Go.Q.Spec.of_bodyR (az := []) (rs := [.tmp 4]) (nt := 9) Try.func30 rfl rfl (by intro t T h; simp at h) rfl rfl fun cx hnp => ?_
 refine WP.seq ?_
 refine WP.region ?_
 refine WPL.q (q_as (v := .lit (.bool _)) rfl) rfl ?_
 refine WPL.nilW ?_
 refine W.now ?_
 refine Then.n ?_
 refine WP.seq ?_
 refine WP.region ?_
 refine WPL.q (q_mv (v := .lit (.string _)) rfl) rfl ?_
 refine WPL.q (q_mv (v := .fn _ _) rfl) rfl ?_
 obtain ⟨x130, h128, H⟩ := bnd H
 refine WPL.c (runs_call (s := []) (t := []) (N := 0) (bor := []) fn35 rfl (s_strings_IndexFunc k x70 x130 h128) ⟨rfl, trivial, by decide, rfl, trivial, rfl⟩ rfl trivial (.ren rfl rfl (.ren rfl rfl .nil)) rfl trivial rfl) rfl ?_
 refine WPL.q (q_geq rfl rfl) rfl ?_
 refine WPL.q (q_as (v := .lit (.bool _)) rfl) rfl ?_
 refine WPL.nilW ?_
 refine W.now ?_
 refine Then.n ?_
 refine WP.retW ?_
 have q0 := (Option.some.inj H)
 subst q0
 exact W.now (BodyR.mkR trivial rfl [] ⟨rfl, rfl⟩ ⟨rfl, trivial, by decide, rfl, trivial, rfl⟩ rfl rfl)
set_option maxRecDepth 100000 in
set_option maxHeartbeats 4000000 in
theorem s_simfs_Name (k : Nat) (x64 : ByteArray) (x141 : Bool) (H : g_simfs_Name k x64 = some x141) : Go.Q.Spec Try.prog 18 0 [.lit (.string x64)] Mem.nil (fun o M => o = .ret (.lit (.bool x141)) ∧ M = Mem.nil) := by
 unfold g_simfs_Name at H
 refine Go.Q.Spec.of_bodyR (az := []) (rs := [.tmp 2]) (nt := 15) Try.func18 rfl rfl (by intro t T h; simp at h) rfl rfl fun cx hnp => ?_
 refine WP.seq ?_
 refine WP.region ?_
 refine WPL.q (q_as (v := .lit (.bool _)) rfl) rfl ?_
 refine WPL.nilW ?_
 refine W.now ?_
 refine Then.n ?_
 refine WP.seq ?_
 obtain ⟨x148, H154, H⟩ := bnd H
 refine WP.monoW (Q := fun x E M => x = .normal ∧ E = (Env.none.upd 2 (.lit (.bool x148))) ∧ M = Mem.nil) ?_ ?_
 · clear H
   have H := H154
   clear H154
   refine WP.region ?_
   refine WPL.q (q_mv (v := .lit (.string _)) rfl) rfl ?_
   obtain ⟨x149, h149, H⟩ := bnd H
   refine WPL.q (q_nm (q_neqs rfl rfl) (nm_bool h149)) rfl ?_
   refine WPL.q (q_mv (v := .lit (.bool _)) rfl) rfl ?_
   refine WPL.split (t := 5) (b := x149) rfl (fun hb149 => ?_) (fun hb149 => ?_)
   · replace H := cnt hb149 H
     refine WPL.qg rfl rfl (lb hb149) (q_mv (v := .lit (.string _)) rfl) rfl ?_
     refine WPL.qg rfl rfl (lb hb149) (q_len_str Try.underlying9 rfl) rfl ?_
     obtain ⟨x151, h151, H⟩ := bnd H
     refine WPL.qg rfl rfl (lb hb149) (q_nm (q_leq rfl rfl) (nm_bool h151)) rfl ?_
     refine WPL.q (q_pickT (v := .lit (.bool _)) (lb hb149) rfl) rfl ?_
     refine WPL.q (q_mv (v := .lit (.bool _)) rfl) rfl ?_
     refine WPL.split (t := 10) (b := x151) rfl (fun hb151 => ?_) (fun hb151 => ?_)
     · replace H := cnt hb151 H
       refine WPL.qg rfl rfl (lb hb151) (q_mv (v := .lit (.string _)) rfl) rfl ?_
       obtain ⟨x154, h152, H⟩ := bnd H
       refine WPL.cg rfl rfl (lb hb151) (runs_call (s := []) (t := []) (N := 0) (bor := []) fn30 rfl (s_strings_ContainsFunc k x64 x154 h152) ⟨rfl, trivial, by decide, rfl, trivial, rfl⟩ rfl trivial (.ren rfl rfl (.ren rfl rfl .nil)) rfl trivial rfl) rfl ?_
       refine WPL.qg rfl rfl (lb hb151) (q_not rfl) rfl ?_
       refine WPL.q (q_pickT (v := .lit (.bool _)) (lb hb151) rfl) rfl ?_
       refine WPL.q (q_as (v := .lit (.bool _)) rfl) rfl ?_
       refine WPL.nilW ?_
       have q0 := (Option.some.inj H)
       subst q0
       exact W.wk [] hnp ⟨rfl, rfl, rfl⟩ ⟨rfl, trivial, by decide, rfl, trivial, rfl⟩ (LeE.upd rfl rfl (LeE.none rfl rfl)) rfl
     replace H := cnf hb151 H
     refine WPL.skipg (b' := false) rfl rfl (lb hb151) rfl rfl (.inl trivial) ?_
     refine WPL.skipg (b' := false) rfl rfl (lb hb151) rfl rfl (.inl (by simp only [SkipOk]; kernel_rfl)) ?_
     refine WPL.skipg (b' := false) rfl rfl (lb hb151) rfl rfl (.inl trivial) ?_
     refine WPL.q (q_pickF (v := .lit (.bool _)) (lb hb151) rfl) rfl ?_
     refine WPL.q (q_as (v := .lit (.bool _)) rfl) rfl ?_
     refine WPL.nilW ?_
     have q0 := (Option.some.inj H)
     subst q0
     exact W.wk [] hnp ⟨rfl, rfl, rfl⟩ ⟨rfl, trivial, by decide, rfl, trivial, rfl⟩ (LeE.upd rfl rfl (LeE.none rfl rfl)) rfl
   replace H := cnf hb149 H
   refine WPL.skipg (b' := false) rfl rfl (lb hb149) rfl rfl (.inl trivial) ?_
   refine WPL.skipg (b' := false) rfl rfl (lb hb149) rfl rfl (.inl trivial) ?_
   refine WPL.skipg (b' := false) rfl rfl (lb hb149) rfl rfl (.inl trivial) ?_
   refine WPL.q (q_pickF (v := .lit (.bool _)) (lb hb149) rfl) rfl ?_
   refine WPL.q (q_mv (v := .lit (.bool _)) rfl) rfl ?_
   refine WPL.skipg (b' := false) rfl rfl rfl rfl rfl (.inl trivial) ?_
   refine WPL.skipg (b' := false) rfl rfl rfl rfl rfl (.inl (by simp only [SkipOk]; kernel_rfl)) ?_
   refine WPL.skipg (b' := false) rfl rfl rfl rfl rfl (.inl trivial) ?_
   refine WPL.q (q_pickF (v := .lit (.bool _)) rfl rfl) rfl ?_
   refine WPL.q (q_as (v := .lit (.bool _)) rfl) rfl ?_
   refine WPL.nilW ?_
   have q0 := (Option.some.inj H)
   subst q0
   exact W.wk [] hnp ⟨rfl, rfl, rfl⟩ ⟨rfl, trivial, by decide, rfl, trivial, rfl⟩ (LeE.upd rfl rfl (LeE.none rfl rfl)) rfl
 rintro _ _ _ ⟨rfl, rfl, rfl⟩
 refine W.now ?_
 refine Then.n ?_
 refine WP.retW ?_
 have q0 := (Option.some.inj H)
 subst q0
 exact W.now (BodyR.mkR trivial rfl [] ⟨rfl, rfl⟩ ⟨rfl, trivial, by decide, rfl, trivial, rfl⟩ rfl rfl)
set_option maxRecDepth 100000 in
set_option maxHeartbeats 4000000 in
theorem s_internal_stringslite_HasSuffix (k : Nat) (x164 : ByteArray) (x165 : ByteArray) (x179 : Bool) (H : g_internal_stringslite_HasSuffix k x164 x165 = some x179) : Go.Q.Spec Try.prog 32 0 [.lit (.string x164), .lit (.string x165)] Mem.nil (fun o M => o = .ret (.lit (.bool x179)) ∧ M = Mem.nil) := by
 unfold g_internal_stringslite_HasSuffix at H
 refine Go.Q.Spec.of_bodyR (az := []) (rs := [.tmp 4]) (nt := 21) Try.func32 rfl rfl (by intro t T h; simp at h) rfl rfl fun cx hnp => ?_
 refine WP.seq ?_
 refine WP.region ?_
 refine WPL.q (q_as (v := .lit (.bool _)) rfl) rfl ?_
 refine WPL.nilW ?_
 refine W.now ?_
 refine Then.n ?_
 refine WP.seq ?_
 obtain ⟨x185, H190, H⟩ := bnd H
 refine WP.monoW (Q := fun x E M => x = .normal ∧ E = (Env.none.upd 4 (.lit (.bool x185))) ∧ M = Mem.nil) ?_ ?_
 · clear H
   have H := H190
   clear H190
   refine WP.region ?_
   refine WPL.q (q_mv (v := .lit (.string _)) rfl) rfl ?_
   refine WPL.q (q_len_str Try.underlying9 rfl) rfl ?_
   refine WPL.q (q_mv (v := .lit (.string _)) rfl) rfl ?_
   refine WPL.q (q_len_str Try.underlying9 rfl) rfl ?_
   obtain ⟨x186, h186, H⟩ := bnd H
   refine WPL.q (q_nm (q_geq rfl rfl) (nm_bool h186)) rfl ?_
   refine WPL.q (q_mv (v := .lit (.bool _)) rfl) rfl ?_
   refine WPL.split (t := 10) (b := x186) rfl (fun hb186 => ?_) (fun hb186 => ?_)
   · replace H := cnt hb186 H
     refine WPL.qg rfl rfl (lb hb186) (q_mv (v := .lit (.string _)) rfl) rfl ?_
     refine WPL.qg rfl rfl (lb hb186) (q_mv (v := .lit (.string _)) rfl) rfl ?_
     refine WPL.qg rfl rfl (lb hb186) (q_len_str Try.underlying9 rfl) rfl ?_
     refine WPL.qg rfl rfl (lb hb186) (q_mv (v := .lit (.string _)) rfl) rfl ?_
     refine WPL.qg rfl rfl (lb hb186) (q_len_str Try.underlying9 rfl) rfl ?_
     obtain ⟨x188, h188, H⟩ := bnd H
     refine WPL.qg rfl rfl (lb hb186) (q_nm (q_sub rfl rfl) (nm_int h188)) rfl ?_
     obtain ⟨h188, H⟩ := grd H
     obtain ⟨x190, h190, H⟩ := bnd H
     refine WPL.qg rfl rfl (lb hb186) (q_nm (q_slice_str (i := x188) (j := ((ByteArray.size x164 : Nat) : Int)) Try.underlying9 rfl ⟨_, rfl⟩ rfl h188) (nm_str h190)) rfl ?_
     refine WPL.qg rfl rfl (lb hb186) (q_mv (v := .lit (.string _)) rfl) rfl ?_
     refine WPL.qg rfl rfl (lb hb186) (q_eqls rfl rfl) rfl ?_
     refine WPL.q (q_pickT (v := .lit (.bool _)) (lb hb186) rfl) rfl ?_
     refine WPL.q (q_as (v := .lit (.bool _)) rfl) rfl ?_
     refine WPL.nilW ?_
     have q0 := (Option.some.inj H)
     subst q0
     exact W.wk [] hnp ⟨rfl, rfl, rfl⟩ ⟨rfl, trivial, by decide, rfl, trivial, rfl⟩ (LeE.upd rfl rfl (LeE.none rfl rfl)) rfl
   replace H := cnf hb186 H
   refine WPL.skipg (b' := false) rfl rfl (lb hb186) rfl rfl (.inl trivial) ?_
   refine WPL.skipg (b' := false) rfl rfl (lb hb186) rfl rfl (.inl trivial) ?_
   refine WPL.skipg (b' := false) rfl rfl (lb hb186) rfl rfl (.inl trivial) ?_
   refine WPL.skipg (b' := false) rfl rfl (lb hb186) rfl rfl (.inl trivial) ?_
   refine WPL.skipg (b' := false) rfl rfl (lb hb186) rfl rfl (.inl trivial) ?_
   refine WPL.skipg (b' := false) rfl rfl (lb hb186) rfl rfl (.inl trivial) ?_
   refine WPL.skipg (b' := false) rfl rfl (lb hb186) rfl rfl (.inl trivial) ?_
   refine WPL.skipg (b' := false) rfl rfl (lb hb186) rfl rfl (.inl trivial) ?_
   refine WPL.skipg (b' := false) rfl rfl (lb hb186) rfl rfl (.inl trivial) ?_
   refine WPL.q (q_pickF (v := .lit (.bool _)) (lb hb186) rfl) rfl ?_
   refine WPL.q (q_as (v := .lit (.bool _)) rfl) rfl ?_
   refine WPL.nilW ?_
   have q0 := (Option.some.inj H)
   subst q0
   exact W.wk [] hnp ⟨rfl, rfl, rfl⟩ ⟨rfl, trivial, by decide, rfl, trivial, rfl⟩ (LeE.upd rfl rfl (LeE.none rfl rfl)) rfl
 rintro _ _ _ ⟨rfl, rfl, rfl⟩
 refine W.now ?_
 refine Then.n ?_
 refine WP.retW ?_
 have q0 := (Option.some.inj H)
 subst q0
 exact W.now (BodyR.mkR trivial rfl [] ⟨rfl, rfl⟩ ⟨rfl, trivial, by decide, rfl, trivial, rfl⟩ rfl rfl)
set_option maxRecDepth 100000 in
set_option maxHeartbeats 4000000 in
theorem s_strings_HasSuffix (k : Nat) (x161 : ByteArray) (x162 : ByteArray) (x194 : Bool) (H : g_strings_HasSuffix k x161 x162 = some x194) : Go.Q.Spec Try.prog 19 0 [.lit (.string x161), .lit (.string x162)] Mem.nil (fun o M => o = .ret (.lit (.bool x194)) ∧ M = Mem.nil) := by
 unfold g_strings_HasSuffix at H
 refine Go.Q.Spec.of_bodyR (az := []) (rs := [.tmp 4]) (nt := 8) Try.func19 rfl rfl (by intro t T h; simp at h) rfl rfl fun cx hnp => ?_
 refine WP.seq ?_
 refine WP.region ?_
 refine WPL.q (q_as (v := .lit (.bool _)) rfl) rfl ?_
 refine WPL.nilW ?_
 refine W.now ?_
 refine Then.n ?_
 refine WP.seq ?_
 refine WP.region ?_
 refine WPL.q (q_mv (v := .lit (.string _)) rfl) rfl ?_
 refine WPL.q (q_mv (v := .lit (.string _)) rfl) rfl ?_
 obtain ⟨x196, h194, H⟩ := bnd H
 refine WPL.c (runs_call (s := []) (t := []) (N := 0) (bor := []) fn32 rfl (s_internal_stringslite_HasSuffix k x161 x162 x196 h194) ⟨rfl, trivial, by decide, rfl, trivial, rfl⟩ rfl trivial (.ren rfl rfl (.ren rfl rfl .nil)) rfl trivial rfl) rfl ?_
 refine WPL.q (q_as (v := .lit (.bool _)) rfl) rfl ?_
 refine WPL.nilW ?_
 refine W.now ?_
 refine Then.n ?_
 refine WP.retW ?_
 have q0 := (Option.some.inj H)
 subst q0
 exact W.now (BodyR.mkR trivial rfl [] ⟨rfl, rfl⟩ ⟨rfl, trivial, by decide, rfl, trivial, rfl⟩ rfl rfl)
set_option maxRecDepth 100000 in
set_option maxHeartbeats 4000000 in
theorem s_store_Right (k : Nat) (x62 : ByteArray) (x208 : Bool) (H : g_store_Right k x62 = some x208) : Go.Q.Spec Try.prog 12 0 [.lit (.string x62)] Mem.nil (fun o M => o = .ret (.lit (.bool x208)) ∧ M = Mem.nil) := by
 unfold g_store_Right at H
 refine Go.Q.Spec.of_bodyR (az := []) (rs := [.tmp 2]) (nt := 15) Try.func12 rfl rfl (by intro t T h; simp at h) rfl rfl fun cx hnp => ?_
 refine WP.seq ?_
 refine WP.region ?_
 refine WPL.q (q_as (v := .lit (.bool _)) rfl) rfl ?_
 refine WPL.nilW ?_
 refine W.now ?_
 refine Then.n ?_
 refine WP.seq ?_
 obtain ⟨x216, H223, H⟩ := bnd H
 refine WP.monoW (Q := fun x E M => x = .normal ∧ E = (Env.none.upd 2 (.lit (.bool x216))) ∧ M = Mem.nil) ?_ ?_
 · clear H
   have H := H223
   clear H223
   refine WP.region ?_
   refine WPL.q (q_mv (v := .lit (.string _)) rfl) rfl ?_
   obtain ⟨x218, h216, H⟩ := bnd H
   refine WPL.c (runs_call (s := []) (t := []) (N := 0) (bor := []) fn18 rfl (s_simfs_Name k x62 x218 h216) ⟨rfl, trivial, by decide, rfl, trivial, rfl⟩ rfl trivial (.ren rfl rfl .nil) rfl trivial rfl) rfl ?_
   refine WPL.q (q_mv (v := .lit (.bool _)) rfl) rfl ?_
   refine WPL.split (t := 5) (b := x218) rfl (fun hb218 => ?_) (fun hb218 => ?_)
   · replace H := cnt hb218 H
     refine WPL.qg rfl rfl (lb hb218) (q_mv (v := .lit (.string _)) rfl) rfl ?_
     refine WPL.qg rfl rfl (lb hb218) (q_len_str Try.underlying9 rfl) rfl ?_
     obtain ⟨x220, h220, H⟩ := bnd H
     refine WPL.qg rfl rfl (lb hb218) (q_nm (q_leq rfl rfl) (nm_bool h220)) rfl ?_
     refine WPL.q (q_pickT (v := .lit (.bool _)) (lb hb218) rfl) rfl ?_
     refine WPL.q (q_mv (v := .lit (.bool _)) rfl) rfl ?_
     refine WPL.split (t := 10) (b := x220) rfl (fun hb220 => ?_) (fun hb220 => ?_)
     · replace H := cnt hb220 H
       refine WPL.qg rfl rfl (lb hb220) (q_mv (v := .lit (.string _)) rfl) rfl ?_
       obtain ⟨x223, h221, H⟩ := bnd H
       refine WPL.cg rfl rfl (lb hb220) (runs_call (s := []) (t := []) (N := 0) (bor := []) fn19 rfl (s_strings_HasSuffix k x62 (ByteArray.mk #[46, 116, 109, 112]) x223 h221) ⟨rfl, trivial, by decide, rfl, trivial, rfl⟩ rfl trivial (.ren rfl rfl (.ren rfl rfl .nil)) rfl trivial rfl) rfl ?_
       refine WPL.qg rfl rfl (lb hb220) (q_not rfl) rfl ?_
       refine WPL.q (q_pickT (v := .lit (.bool _)) (lb hb220) rfl) rfl ?_
       refine WPL.q (q_as (v := .lit (.bool _)) rfl) rfl ?_
       refine WPL.nilW ?_
       have q0 := (Option.some.inj H)
       subst q0
       exact W.wk [] hnp ⟨rfl, rfl, rfl⟩ ⟨rfl, trivial, by decide, rfl, trivial, rfl⟩ (LeE.upd rfl rfl (LeE.none rfl rfl)) rfl
     replace H := cnf hb220 H
     refine WPL.skipg (b' := false) rfl rfl (lb hb220) rfl rfl (.inl trivial) ?_
     refine WPL.skipg (b' := false) rfl rfl (lb hb220) rfl rfl (.inl (by simp only [SkipOk]; kernel_rfl)) ?_
     refine WPL.skipg (b' := false) rfl rfl (lb hb220) rfl rfl (.inl trivial) ?_
     refine WPL.q (q_pickF (v := .lit (.bool _)) (lb hb220) rfl) rfl ?_
     refine WPL.q (q_as (v := .lit (.bool _)) rfl) rfl ?_
     refine WPL.nilW ?_
     have q0 := (Option.some.inj H)
     subst q0
     exact W.wk [] hnp ⟨rfl, rfl, rfl⟩ ⟨rfl, trivial, by decide, rfl, trivial, rfl⟩ (LeE.upd rfl rfl (LeE.none rfl rfl)) rfl
   replace H := cnf hb218 H
   refine WPL.skipg (b' := false) rfl rfl (lb hb218) rfl rfl (.inl trivial) ?_
   refine WPL.skipg (b' := false) rfl rfl (lb hb218) rfl rfl (.inl trivial) ?_
   refine WPL.skipg (b' := false) rfl rfl (lb hb218) rfl rfl (.inl trivial) ?_
   refine WPL.q (q_pickF (v := .lit (.bool _)) (lb hb218) rfl) rfl ?_
   refine WPL.q (q_mv (v := .lit (.bool _)) rfl) rfl ?_
   refine WPL.skipg (b' := false) rfl rfl rfl rfl rfl (.inl trivial) ?_
   refine WPL.skipg (b' := false) rfl rfl rfl rfl rfl (.inl (by simp only [SkipOk]; kernel_rfl)) ?_
   refine WPL.skipg (b' := false) rfl rfl rfl rfl rfl (.inl trivial) ?_
   refine WPL.q (q_pickF (v := .lit (.bool _)) rfl rfl) rfl ?_
   refine WPL.q (q_as (v := .lit (.bool _)) rfl) rfl ?_
   refine WPL.nilW ?_
   have q0 := (Option.some.inj H)
   subst q0
   exact W.wk [] hnp ⟨rfl, rfl, rfl⟩ ⟨rfl, trivial, by decide, rfl, trivial, rfl⟩ (LeE.upd rfl rfl (LeE.none rfl rfl)) rfl
 rintro _ _ _ ⟨rfl, rfl, rfl⟩
 refine W.now ?_
 refine Then.n ?_
 refine WP.retW ?_
 have q0 := (Option.some.inj H)
 subst q0
 exact W.now (BodyR.mkR trivial rfl [] ⟨rfl, rfl⟩ ⟨rfl, trivial, by decide, rfl, trivial, rfl⟩ rfl rfl)
set_option maxRecDepth 100000 in
set_option maxHeartbeats 4000000 in
theorem s_store_Temp (k : Nat) (x247 : ByteArray) (H : g_store_Temp k x247 = some ()) : Go.Q.Spec Try.prog 11 0 [.lit (.string x247)] Mem.nil (fun o M => o = .ret (.lit (.string (x247 ++ (ByteArray.mk #[46, 116, 109, 112])))) ∧ M = Mem.nil) := by
 unfold g_store_Temp at H
 refine Go.Q.Spec.of_bodyR (az := []) (rs := [.tmp 2]) (nt := 5) Try.func11 rfl rfl (by intro t T h; simp at h) rfl rfl fun cx hnp => ?_
 refine WP.seq ?_
 refine WP.region ?_
 refine WPL.q (q_as (v := .lit (.string _)) rfl) rfl ?_
 refine WPL.nilW ?_
 refine W.now ?_
 refine Then.n ?_
 refine WP.seq ?_
 refine WP.region ?_
 refine WPL.q (q_mv (v := .lit (.string _)) rfl) rfl ?_
 obtain ⟨h249, H⟩ := grd H
 refine WPL.q (q_concat rfl rfl h249) rfl ?_
 refine WPL.q (q_as (v := .lit (.string _)) rfl) rfl ?_
 refine WPL.nilW ?_
 refine W.now ?_
 refine Then.n ?_
 refine WP.retW ?_
 exact W.now (BodyR.mkR trivial rfl [] ⟨rfl, rfl⟩ ⟨rfl, trivial, by decide, rfl, trivial, rfl⟩ rfl rfl)
set_option maxRecDepth 100000 in
set_option maxHeartbeats 4000000 in
theorem s_store_steps (k : Nat) (x235 : ByteArray) (x236 : (List Int)) (x237 : Int) (x238 : (List (Int × Int))) (x239 : Int) (x240 : Bool) (x241 : (List (ByteArray × (Option Nat)))) (x242 : (List (ByteArray × (Option Nat)))) (x243 : (List (Option Nat))) (x244 : (List S_simfs_entry)) (x245 : (List S_simfs_file)) (H : g_store_steps k x235 x236 x237 x238 x239 x240 x241 x242 x243 x244 x245 = some ()) : Go.Q.Spec Try.prog 13 3 [.ptr 0 0, .lit (.string x235), .ro (Rd.slice (Rd.int .u8)) false x236] ((((((Mem.nil.withP 54 rdS_simfs_file x245).push (.cells 41 [.lit (.int .i64 x237), .whole 3, .mp 1, .mp 2, .whole 4, .ro (Rd.map (Value.int .i64) (Rd.int .i64)) false x238, .lit (.int .i64 x239), .lit (.bool x240)])).push (.dict Value.string (Rd.pp 0) x241 none)).push (.dict Value.string (Rd.pp 0) x242 none)).push (.row 49 (Rd.pp 0) x243)).push (.row 51 rdS_simfs_entry x244)) (fun o M => o = .ret (.fn 20 [.ptr 5 0, .ptr 6 0, .ptr 7 0, .ptr 8 0]) ∧ M = ((((((((((Mem.nil.withP 54 rdS_simfs_file x245).push (.cells 41 [.lit (.int .i64 x237), .whole 3, .mp 1, .mp 2, .whole 4, .ro (Rd.map (Value.int .i64) (Rd.int .i64)) false x238, .lit (.int .i64 x239), .lit (.bool x240)])).push (.dict Value.string (Rd.pp 0) x241 none)).push (.dict Value.string (Rd.pp 0) x242 none)).push (.row 49 (Rd.pp 0) x243)).push (.row 51 rdS_simfs_entry x244)).push (.cells 24 [.ptr 0 0])).push (.cells 9 [.lit (.string (x235 ++ (ByteArray.mk #[46, 116, 109, 112])))])).push (.cells 22 [.ro (Rd.slice (Rd.int .u8)) false x236])).push (.cells 9 [.lit (.string x235)]))) := by
 unfold g_store_steps at H
 refine Go.Q.Spec.of_bodyR (az := []) (rs := [.tmp 6]) (nt := 11) Try.func13 rfl rfl (by intro t T h; simp at h) rfl rfl fun cx hnp => ?_
 refine WP.seq ?_
 refine WP.region ?_
 refine WPL.d (d_box rfl rfl) rfl ?_
 refine WPL.d (d_box rfl rfl) rfl ?_
 refine WPL.d (d_box rfl rfl) rfl ?_
 refine WPL.q (q_as (v := .lit _) rfl) rfl ?_
 refine WPL.nilW ?_
 refine W.now ?_
 refine Then.n ?_
 refine WP.seq ?_
 refine WP.region ?_
 refine WPL.q (q_load sc9 rfl rfl rfl) rfl ?_
 obtain ⟨_, h251, H⟩ := bnd H
 refine WPL.c (runs_call (s := []) (t := []) (N := 8) (bor := []) fn11 rfl (s_store_Temp k x235 h251) ⟨rfl, trivial, by decide, rfl, trivial, rfl⟩ rfl trivial (.ren rfl rfl .nil) rfl trivial rfl) rfl ?_
 refine WPL.d (d_alloc ze9 rfl) rfl ?_
 refine WPL.s (s_store sz9 rfl rfl rfl rfl rfl) ?_
 refine WPL.nilW ?_
 refine W.now ?_
 refine Then.n ?_
 refine WP.seq ?_
 refine WP.region ?_
 refine WPL.q (q_makeFunc) rfl ?_
 refine WPL.q (q_as (v := .fn _ _) rfl) rfl ?_
 refine WPL.nilW ?_
 refine W.now ?_
 refine Then.n ?_
 refine WP.retW ?_
 exact W.now (BodyR.mkR trivial rfl [0, 1, 2, 3, 4, 5, 8, 7, 6] ⟨rfl, rfl⟩ ⟨rfl, ⟨⟨⟨⟨⟨⟨⟨⟨⟨trivial, .inr ⟨rfl, rfl, rfl⟩⟩, .inr ⟨rfl, rfl, rfl⟩⟩, .inr ⟨rfl, rfl, rfl⟩⟩, .inr ⟨rfl, rfl, rfl⟩⟩, .inr ⟨rfl, rfl, rfl⟩⟩, .inr ⟨rfl, rfl, rfl⟩⟩, .inr ⟨rfl, rfl, rfl⟩⟩, .inr ⟨rfl, rfl, rfl⟩⟩, .inr ⟨rfl, rfl, rfl⟩⟩, by decide, rfl, ⟨⟨⟨trivial, rfl⟩, rfl⟩, rfl⟩, rfl⟩ rfl rfl)
set_option maxRecDepth 100000 in
set_option maxHeartbeats 4000000 in
theorem s_simfs_Disk_step_1 (k : Nat) (x285 : ByteArray) (x289 : Bool) (H : g_simfs_Disk_step_1 k x285 = some x289) : Go.Q.Spec Try.prog 37 0 [.lit (.string x285)] Mem.nil (fun o M => o = .ret (.lit (.bool x289)) ∧ M = Mem.nil) := by
 unfold g_simfs_Disk_step_1 at H
 refine Go.Q.Spec.of_bodyR (az := []) (rs := [.tmp 2]) (nt := 6) Try.func37 rfl rfl (by intro t T h; simp at h) rfl rfl fun cx hnp => ?_
 refine WP.seq ?_
 refine WP.region ?_
 refine WPL.q (q_as (v := .lit (.bool _)) rfl) rfl ?_
 refine WPL.nilW ?_
 refine W.now ?_
 refine Then.n ?_
 refine WP.seq ?_
 refine WP.region ?_
 refine WPL.q (q_mv (v := .lit (.string _)) rfl) rfl ?_
 obtain ⟨x291, h289, H⟩ := bnd H
 refine WPL.c (runs_call (s := []) (t := []) (N := 0) (bor := []) fn18 rfl (s_simfs_Name k x285 x291 h289) ⟨rfl, trivial, by decide, rfl, trivial, rfl⟩ rfl trivial (.ren rfl rfl .nil) rfl trivial rfl) rfl ?_
 refine WPL.q (q_not rfl) rfl ?_
 refine WPL.q (q_as (v := .lit (.bool _)) rfl) rfl ?_
 refine WPL.nilW ?_
 refine W.now ?_
 refine Then.n ?_
 refine WP.retW ?_
 have q0 := (Option.some.inj H)
 subst q0
 exact W.now (BodyR.mkR trivial rfl [] ⟨rfl, rfl⟩ ⟨rfl, trivial, by decide, rfl, trivial, rfl⟩ rfl rfl)
set_option maxRecDepth 100000 in
set_option maxHeartbeats 4000000 in
theorem s_slices_IndexFunc_string_string (k : Nat) (x279 : (List ByteArray)) (x314 : Int) (H : g_slices_IndexFunc_string_string k x279 = some x314) : Go.Q.Spec Try.prog 40 0 [.ro (Rd.slice Rd.str) true x279, .fn 37 []] Mem.nil (fun o M => o = .ret (.lit (.int .i64 x314)) ∧ M = Mem.nil) := by
 unfold g_slices_IndexFunc_string_string at H
 refine Go.Q.Spec.of_bodyR (az := []) (rs := [.tmp 4]) (nt := 19) Try.func40 rfl rfl (by intro t T h; simp at h) rfl rfl fun cx hnp => ?_
 refine WP.seq ?_
 refine WP.region ?_
 refine WPL.q (q_as (v := .lit (.int _ _)) rfl) rfl ?_
 refine WPL.nilW ?_
 refine W.now ?_
 refine Then.n ?_
 refine WP.seq ?_
 refine WP.seq ?_
 refine WP.region ?_
 refine WPL.q (q_mv (v := .ro _ _ _) rfl) rfl ?_
 refine WPL.q (q_len_ro sl70 rfl) rfl ?_
 refine WPL.q (q_mv (v := .lit (.int _ _)) rfl) rfl ?_
 refine WPL.nilW ?_
 refine W.now ?_
 refine Then.n ?_
 refine WP.block ?_
 refine WP.cv (Cv.weak (E' := ((((Env.none.upd 0 (.ro (Rd.slice Rd.str) true x279)).upd 1 (.fn 37 [])).upd 7 (.lit (.int .i64 ((List.length x279 : Nat) : Int)))).upd 8 (.lit (.int .i64 0)))) (M' := Mem.nil) [] hnp ⟨rfl, trivial, by decide, rfl, trivial, rfl⟩ (LeE.upd rfl rfl (LeE.upd rfl rfl (LeE.upd rfl rfl (LeE.upd rfl rfl (LeE.none rfl rfl)))))) ?_
 obtain ⟨y351, H349, H⟩ := bnd H
 refine WP.monoW (Q := fun x E M => match (generalizing := false) y351 with | (Sum.inl x338) => x = .ret ∧ E = (Env.none.upd 4 (.lit (.int .i64 x338))) ∧ M = Mem.nil | (Sum.inr _) => x = .exit 0 ∧ E = Env.none ∧ M = Mem.nil) ?_ ?_
 · refine WP.loop (β := Int) (fun n b => g_slices_IndexFunc_string_string_l0 k x279 n b = some y351) (fun b => ((((Env.none.upd 0 (.ro (Rd.slice Rd.str) true x279)).upd 1 (.fn 37 [])).upd 7 (.lit (.int .i64 ((List.length x279 : Nat) : Int)))).upd 8 (.lit (.int .i64 b)))) (fun b => Mem.nil) k 0 H349 rfl rfl ?_
   rintro n x326 H
   obtain _ | n := n
   · exact nf rfl H
   rw [g_slices_IndexFunc_string_string_l0.eq_2] at H
   show WP _ _ _ _ ((((Env.none.upd 0 (.ro (Rd.slice Rd.str) true x279)).upd 1 (.fn 37 [])).upd 7 (.lit (.int .i64 ((List.length x279 : Nat) : Int)))).upd 8 (.lit (.int .i64 x326))) Mem.nil _
   refine WP.seq ?_
   refine WP.region ?_
   obtain ⟨x339, h339, H⟩ := bnd H
   refine WPL.q (q_nm (q_lss rfl rfl) (nm_bool h339)) rfl ?_
   refine WPL.nilW ?_
   refine W.now ?_
   refine Then.n ?_
   refine WP.seq ?_
   refine WP.cond (t := x339) rfl (fun hb340 => ?_) (fun hb340 => ?_)
   · replace H := cnt hb340 H
     refine WP.skipW ?_
     refine W.now ?_
     refine Then.n ?_
     refine WP.seq ?_
     refine WP.block ?_
     refine WP.seq ?_
     refine WP.region ?_
     refine WPL.q (q_mv (v := .lit (.int _ _)) rfl) rfl ?_
     refine WPL.q (q_as (v := .lit (.int _ _)) rfl) rfl ?_
     refine WPL.nilW ?_
     refine W.now ?_
     refine Then.n ?_
     refine WP.seq ?_
     refine WP.region ?_
     refine WPL.q (q_mv (v := .fn _ _) rfl) rfl ?_
     refine WPL.q (q_mv (v := .ro _ _ _) rfl) rfl ?_
     refine WPL.q (q_mv (v := .lit (.int _ _)) rfl) rfl ?_
     obtain ⟨x346, h346, H⟩ := bnd H
     refine WPL.q (q_index_ro sl70 rfl rfl rfl h346) rfl ?_
     refine WPL.q (q_load_sc sc9 rfl) rfl ?_
     obtain ⟨x348, h346, H⟩ := bnd H
     refine WPL.c (runs_call (s := []) (t := []) (N := 0) (bor := []) fn37 rfl (s_simfs_Disk_step_1 k x346 x348 h346) ⟨rfl, trivial, by decide, rfl, trivial, rfl⟩ rfl trivial (.ren rfl rfl .nil) rfl trivial rfl) rfl ?_
     refine WPL.nilW ?_
     refine W.now ?_
     refine Then.n ?_
     refine WP.cond (t := x348) rfl (fun hb348 => ?_) (fun hb348 => ?_)
     · replace H := cnt hb348 H
       refine WP.seq ?_
       refine WP.region ?_
       refine WPL.q (q_mv (v := .lit (.int _ _)) rfl) rfl ?_
       refine WPL.q (q_as (v := .lit (.int _ _)) rfl) rfl ?_
       refine WPL.nilW ?_
       refine W.now ?_
       refine Then.n ?_
       refine WP.retW ?_
       have q0 := Option.some.inj H
       subst q0
       exact W.wk [] hnp (InBlock.r (Then.r (Then.r ⟨rfl, rfl, rfl⟩))) ⟨rfl, trivial, by decide, rfl, trivial, rfl⟩ (LeE.upd rfl rfl (LeE.none rfl rfl)) rfl
     replace H := cnf hb348 H
     refine WP.skipW ?_
     refine W.now ?_
     refine InBlock.n ?_
     refine Then.n ?_
     refine WP.region ?_
     refine WPL.q (q_add rfl rfl) rfl ?_
     refine WPL.q (q_mv (v := .lit (.int _ _)) rfl) rfl ?_
     refine WPL.nilW ?_
     exact W.wk [] hnp (Then.n ⟨n, (IntKind.wrap .i64 (x326 + 1)), Nat.lt_succ_self n, H, rfl, rfl⟩) ⟨rfl, trivial, by decide, rfl, trivial, rfl⟩ (LeE.upd rfl rfl (LeE.upd rfl rfl (LeE.upd rfl rfl (LeE.upd rfl rfl (LeE.none rfl rfl))))) rfl
   replace H := cnf hb340 H
   refine WP.exitW ?_
   have q0 := Option.some.inj H
   subst q0
   exact W.wk [] hnp (Then.x (Then.x ⟨rfl, rfl, rfl⟩)) ⟨rfl, trivial, by decide, rfl, trivial, rfl⟩ (LeE.none rfl rfl) rfl
 rcases y351 with x338 | _
 · rintro _ _ _ ⟨rfl, rfl, rfl⟩
   have q0 := (Option.some.inj H)
   subst q0
   exact W.now (InBlock.r (Then.r (BodyR.mkR trivial rfl [] ⟨rfl, rfl⟩ ⟨rfl, trivial, by decide, rfl, trivial, rfl⟩ rfl rfl)))
 rintro _ _ _ ⟨rfl, rfl, rfl⟩
 refine W.now ?_
 refine InBlock.x0 ?_
 refine Then.n ?_
 refine WP.seq ?_
 refine WP.region ?_
 refine WPL.q (q_as (v := .lit (.int _ _)) rfl) rfl ?_
 refine WPL.nilW ?_
 refine W.now ?_
 refine Then.n ?_
 refine WP.retW ?_
 have q0 := (Option.some.inj H)
 subst q0
 exact W.now (BodyR.mkR trivial rfl [] ⟨rfl, rfl⟩ ⟨rfl, trivial, by decide, rfl, trivial, rfl⟩ rfl rfl)
set_option maxRecDepth 100000 in
set_option maxHeartbeats 4000000 in
theorem s_slices_ContainsFunc_string_string (k : Nat) (x277 : (List ByteArray)) (x354 : Bool) (H : g_slices_ContainsFunc_string_string k x277 = some x354) : Go.Q.Spec Try.prog 36 0 [.ro (Rd.slice Rd.str) true x277, .fn 37 []] Mem.nil (fun o M => o = .ret (.lit (.bool x354)) ∧ M = Mem.nil) := by
 unfold g_slices_ContainsFunc_string_string at H
 refine Go.Q.Spec.of_bodyR (az := []) (rs := [.tmp 4]) (nt := 9) Try.func36 rfl rfl (by intro t T h; simp at h) rfl rfl fun cx hnp => ?_
 refine WP.seq ?_
 refine WP.region ?_
 refine WPL.q (q_as (v := .lit (.bool _)) rfl) rfl ?_
 refine WPL.nilW ?_
 refine W.now ?_
 refine Then.n ?_
 refine WP.seq ?_
 refine WP.region ?_
 refine WPL.q (q_mv (v := .ro _ _ _) rfl) rfl ?_
 refine WPL.q (q_mv (v := .fn _ _) rfl) rfl ?_
 obtain ⟨x356, h354, H⟩ := bnd H
 refine WPL.c (runs_call (s := []) (t := []) (N := 0) (bor := []) fn40 rfl (s_slices_IndexFunc_string_string k x277 x356 h354) ⟨rfl, trivial, by decide, rfl, trivial, rfl⟩ rfl trivial (.ren rfl rfl (.ren rfl rfl .nil)) rfl trivial rfl) rfl ?_
 refine WPL.q (q_geq rfl rfl) rfl ?_
 refine WPL.q (q_as (v := .lit (.bool _)) rfl) rfl ?_
 refine WPL.nilW ?_
 refine W.now ?_
 refine Then.n ?_
 refine WP.retW ?_
 have q0 := (Option.some.inj H)
 subst q0
 exact W.now (BodyR.mkR trivial rfl [] ⟨rfl, rfl⟩ ⟨rfl, trivial, by decide, rfl, trivial, rfl⟩ rfl rfl)
set_option maxRecDepth 100000 in
set_option maxHeartbeats 4000000 in
theorem s_simfs_Disk_step (k : Nat) (x266 : (List ByteArray)) (x267 : Int) (x268 : (List (Int × Int))) (x269 : Int) (x270 : Bool) (x271 : (List (ByteArray × (Option Nat)))) (x272 : (List (ByteArray × (Option Nat)))) (x273 : (List (Option Nat))) (x274 : (List S_simfs_entry)) (x374 : Int) (x375 : Int) (x376 : Bool) (H : g_simfs_Disk_step k x266 x267 x268 x269 x270 x271 x272 x273 x274 = some (x374, x375, x376)) : Go.Q.Spec Try.prog 33 3 [.ptr 0 0, .ro (Rd.slice Rd.str) true x266] (((((Mem.nil.push (.cells 41 [.lit (.int .i64 x267), .whole 3, .mp 1, .mp 2, .whole 4, .ro (Rd.map (Value.int .i64) (Rd.int .i64)) false x268, .lit (.int .i64 x269), .lit (.bool x270)])).push (.dict Value.string (Rd.pp 0) x271 none)).push (.dict Value.string (Rd.pp 0) x272 none)).push (.row 49 (Rd.pp 0) x273)).push (.row 51 rdS_simfs_entry x274)) (fun o M => o = .ret (.lit (.int .i64 x374)) ∧ M = (((((Mem.nil.push (.cells 41 [.lit (.int .i64 x267), .whole 3, .mp 1, .mp 2, .whole 4, .ro (Rd.map (Value.int .i64) (Rd.int .i64)) false x268, .lit (.int .i64 x375), .lit (.bool x376)])).push (.dict Value.string (Rd.pp 0) x271 none)).push (.dict Value.string (Rd.pp 0) x272 none)).push (.row 49 (Rd.pp 0) x273)).push (.row 51 rdS_simfs_entry x274))) := by
 unfold g_simfs_Disk_step at H
 refine Go.Q.Spec.of_bodyR (az := []) (rs := [.tmp 4]) (nt := 41) Try.func33 rfl rfl (by intro t T h; simp at h) rfl rfl fun cx hnp => ?_
 refine WP.seq ?_
 refine WP.region ?_
 refine WPL.q (q_as (v := .lit (.int _ _)) rfl) rfl ?_
 refine WPL.nilW ?_
 refine W.now ?_
 refine Then.n ?_
 refine WP.seq ?_
 refine WP.block ?_
 refine WP.seq ?_
 refine WP.region ?_
 refine WPL.q (q_mv (v := .ptr _ _) rfl) rfl ?_
 refine WPL.q (q_eqlp Try.underlying24 rfl) rfl ?_
 refine WPL.q (q_as (v := .lit (.bool _)) rfl) rfl ?_
 refine WPL.nilW ?_
 refine W.now ?_
 refine Then.n ?_
 refine WP.condF rfl ?_
 refine WP.seq ?_
 refine WP.region ?_
 refine WPL.q (q_mv (v := .ptr _ _) rfl) rfl ?_
 refine WPL.q (q_nilCheck rfl) rfl ?_
 refine WPL.q (q_fieldAddr fi41_7 rfl rfl) rfl ?_
 refine WPL.q (q_load sc4 rfl rfl rfl) rfl ?_
 refine WPL.q (q_as (v := .lit (.bool _)) rfl) rfl ?_
 refine WPL.nilW ?_
 refine W.now ?_
 refine Then.n ?_
 refine WP.cond (t := x270) rfl (fun hb380 => ?_) (fun hb380 => ?_)
 · replace H := cnt hb380 H
   refine WP.seq ?_
   refine WP.region ?_
   refine WPL.q (q_as (v := .lit (.int _ _)) rfl) rfl ?_
   refine WPL.nilW ?_
   refine W.now ?_
   refine Then.n ?_
   refine WP.retW ?_
   have q0 := (Prod.mk.inj (Option.some.inj H)).1
   have q1 := (Prod.mk.inj (Prod.mk.inj (Option.some.inj H)).2).1
   have q2 := (Prod.mk.inj (Prod.mk.inj (Option.some.inj H)).2).2
   subst q0
   subst q1
   subst q2
   exact W.now (InBlock.r (Then.r (BodyR.mkR trivial rfl [0, 1, 2, 3, 4] ⟨rfl, rfl⟩ ⟨rfl, ⟨⟨⟨⟨⟨trivial, .inr ⟨rfl, rfl, rfl⟩⟩, .inr ⟨rfl, rfl, rfl⟩⟩, .inr ⟨rfl, rfl, rfl⟩⟩, .inr ⟨rfl, rfl, rfl⟩⟩, .inr ⟨rfl, rfl, rfl⟩⟩, by decide, rfl, ⟨⟨⟨trivial, rfl⟩, rfl⟩, rfl⟩, rfl⟩ rfl rfl)))
 replace H := cnf hb380 H
 refine WP.seq ?_
 refine WP.region ?_
 refine WPL.q (q_mv (v := .ro _ _ _) rfl) rfl ?_
 obtain ⟨x383, h381, H⟩ := bnd H
 refine WPL.c (runs_call (s := []) (t := []) (N := 5) (bor := []) fn36 rfl (s_slices_ContainsFunc_string_string k x266 x383 h381) ⟨rfl, trivial, by decide, rfl, trivial, rfl⟩ rfl trivial (.ren rfl rfl (.ren rfl rfl .nil)) rfl trivial rfl) rfl ?_
 refine WPL.q (q_as (v := .lit (.bool _)) rfl) rfl ?_
 refine WPL.nilW ?_
 refine W.now ?_
 refine Then.n ?_
 refine WP.cond (t := x383) rfl (fun hb383 => ?_) (fun hb383 => ?_)
 · replace H := cnt hb383 H
   refine WP.seq ?_
   refine WP.region ?_
   refine WPL.q (q_as (v := .lit (.int _ _)) rfl) rfl ?_
   refine WPL.nilW ?_
   refine W.now ?_
   refine Then.n ?_
   refine WP.retW ?_
   have q0 := (Prod.mk.inj (Option.some.inj H)).1
   have q1 := (Prod.mk.inj (Prod.mk.inj (Option.some.inj H)).2).1
   have q2 := (Prod.mk.inj (Prod.mk.inj (Option.some.inj H)).2).2
   subst q0
   subst q1
   subst q2
   exact W.now (InBlock.r (Then.r (BodyR.mkR trivial rfl [0, 1, 2, 3, 4] ⟨rfl, rfl⟩ ⟨rfl, ⟨⟨⟨⟨⟨trivial, .inr ⟨rfl, rfl, rfl⟩⟩, .inr ⟨rfl, rfl, rfl⟩⟩, .inr ⟨rfl, rfl, rfl⟩⟩, .inr ⟨rfl, rfl, rfl⟩⟩, .inr ⟨rfl, rfl, rfl⟩⟩, by decide, rfl, ⟨⟨⟨trivial, rfl⟩, rfl⟩, rfl⟩, rfl⟩ rfl rfl)))
 replace H := cnf hb383 H
 refine WP.skipW ?_
 refine W.now ?_
 refine InBlock.n ?_
 refine Then.n ?_
 refine WP.seq ?_
 refine WP.region ?_
 refine WPL.q (q_mv (v := .ptr _ _) rfl) rfl ?_
 refine WPL.q (q_nilCheck rfl) rfl ?_
 refine WPL.q (q_fieldAddr fi41_6 rfl rfl) rfl ?_
 refine WPL.q (q_load sc3 rfl rfl rfl) rfl ?_
 refine WPL.q (q_add rfl rfl) rfl ?_
 refine WPL.q (q_nilCheck rfl) rfl ?_
 refine WPL.q (q_fieldAddr fi41_6 rfl rfl) rfl ?_
 refine WPL.s (s_store sz3 rfl rfl rfl rfl rfl) ?_
 refine WPL.nilW ?_
 refine W.now ?_
 refine Then.n ?_
 refine WP.seq ?_
 refine WP.seq ?_
 refine WP.regionD' 9 [0] [] mixed rfl ?_
 refine WPD.takeT 0 rfl (by kernel_rfl) (q_mv (v := .ptr _ _) rfl) rfl ?_
 refine WPD.takeT 1 rfl (by kernel_rfl) (q_nilCheck rfl) rfl ?_
 refine WPD.takeT 2 rfl (by kernel_rfl) (q_fieldAddr fi41_5 rfl rfl) rfl ?_
 refine WPD.takeT 4 rfl (by kernel_rfl) (q_mv (v := .ptr _ _) rfl) rfl ?_
 refine WPD.takeT 5 rfl (by kernel_rfl) (q_nilCheck rfl) rfl ?_
 refine WPD.takeT 6 rfl (by kernel_rfl) (q_fieldAddr fi41_6 rfl rfl) rfl ?_
 refine WPD.take 3 rfl (by kernel_rfl) (q_load sc39 rfl rfl rfl) rfl rfl ?_
 refine WPD.take 7 rfl (by kernel_rfl) (q_load sc3 rfl rfl rfl) rfl rfl ?_
 obtain ⟨x391, h391, H⟩ := bnd H
 refine WPD.takeT 8 rfl (by kernel_rfl) (q_nm (q_lookupR_sc (k := (IntKind.wrap .i64 (x269 + 1))) (z := (0 : Int)) dk3 Try.underlying39 iz3 rfl rfl) (nm_int h391)) rfl ?_
 refine WPD.doneW (by kernel_rfl) ?_
 refine W.now ?_
 refine Then.n ?_
 refine WP.block ?_
 refine WP.seq ?_
 refine WP.region ?_
 refine WPL.q (q_eql rfl rfl) rfl ?_
 refine WPL.q (q_as (v := .lit (.bool _)) rfl) rfl ?_
 refine WPL.nilW ?_
 refine W.now ?_
 refine Then.n ?_
 refine WP.cond (t := (decide (x391 = 1))) rfl (fun hb391 => ?_) (fun hb391 => ?_)
 · replace H := cnt hb391 H
   refine WP.seq ?_
   refine WP.region ?_
   refine WPL.q (q_as (v := .lit (.int _ _)) rfl) rfl ?_
   refine WPL.nilW ?_
   refine W.now ?_
   refine Then.n ?_
   refine WP.retW ?_
   have q0 := (Prod.mk.inj (Option.some.inj H)).1
   have q1 := (Prod.mk.inj (Prod.mk.inj (Option.some.inj H)).2).1
   have q2 := (Prod.mk.inj (Prod.mk.inj (Option.some.inj H)).2).2
   subst q0
   subst q1
   subst q2
   exact W.now (InBlock.r (Then.r (BodyR.mkR trivial rfl [0, 1, 2, 3, 4] ⟨rfl, rfl⟩ ⟨rfl, ⟨⟨⟨⟨⟨trivial, .inr ⟨rfl, rfl, rfl⟩⟩, .inr ⟨rfl, rfl, rfl⟩⟩, .inr ⟨rfl, rfl, rfl⟩⟩, .inr ⟨rfl, rfl, rfl⟩⟩, .inr ⟨rfl, rfl, rfl⟩⟩, by decide, rfl, ⟨⟨⟨trivial, rfl⟩, rfl⟩, rfl⟩, rfl⟩ rfl rfl)))
 replace H := cnf hb391 H
 refine WP.seq ?_
 refine WP.region ?_
 refine WPL.q (q_eql rfl rfl) rfl ?_
 refine WPL.q (q_as (v := .lit (.bool _)) rfl) rfl ?_
 refine WPL.nilW ?_
 refine W.now ?_
 refine Then.n ?_
 refine WP.cond (t := (decide (x391 = 2))) rfl (fun hb392 => ?_) (fun hb392 => ?_)
 · replace H := cnt hb392 H
   refine WP.seq ?_
   refine WP.region ?_
   refine WPL.q (q_as (v := .lit (.int _ _)) rfl) rfl ?_
   refine WPL.nilW ?_
   refine W.now ?_
   refine Then.n ?_
   refine WP.retW ?_
   have q0 := (Prod.mk.inj (Option.some.inj H)).1
   have q1 := (Prod.mk.inj (Prod.mk.inj (Option.some.inj H)).2).1
   have q2 := (Prod.mk.inj (Prod.mk.inj (Option.some.inj H)).2).2
   subst q0
   subst q1
   subst q2
   exact W.now (InBlock.r (Then.r (BodyR.mkR trivial rfl [0, 1, 2, 3, 4] ⟨rfl, rfl⟩ ⟨rfl, ⟨⟨⟨⟨⟨trivial, .inr ⟨rfl, rfl, rfl⟩⟩, .inr ⟨rfl, rfl, rfl⟩⟩, .inr ⟨rfl, rfl, rfl⟩⟩, .inr ⟨rfl, rfl, rfl⟩⟩, .inr ⟨rfl, rfl, rfl⟩⟩, by decide, rfl, ⟨⟨⟨trivial, rfl⟩, rfl⟩, rfl⟩, rfl⟩ rfl rfl)))
 replace H := cnf hb392 H
 refine WP.seq ?_
 refine WP.region ?_
 refine WPL.q (q_eql rfl rfl) rfl ?_
 refine WPL.q (q_as (v := .lit (.bool _)) rfl) rfl ?_
 refine WPL.nilW ?_
 refine W.now ?_
 refine Then.n ?_
 refine WP.cond (t := (decide (x391 = 3))) rfl (fun hb393 => ?_) (fun hb393 => ?_)
 · replace H := cnt hb393 H
   refine WP.seq ?_
   refine WP.region ?_
   refine WPL.q (q_mv (v := .ptr _ _) rfl) rfl ?_
   refine WPL.q (q_nilCheck rfl) rfl ?_
   refine WPL.q (q_fieldAddr fi41_7 rfl rfl) rfl ?_
   refine WPL.s (s_store sz4 rfl rfl rfl rfl rfl) ?_
   refine WPL.nilW ?_
   refine W.now ?_
   refine Then.n ?_
   refine WP.seq ?_
   refine WP.region ?_
   refine WPL.q (q_as (v := .lit (.int _ _)) rfl) rfl ?_
   refine WPL.nilW ?_
   refine W.now ?_
   refine Then.n ?_
   refine WP.retW ?_
   have q0 := (Prod.mk.inj (Option.some.inj H)).1
   have q1 := (Prod.mk.inj (Prod.mk.inj (Option.some.inj H)).2).1
   have q2 := (Prod.mk.inj (Prod.mk.inj (Option.some.inj H)).2).2
   subst q0
   subst q1
   subst q2
   exact W.now (InBlock.r (Then.r (BodyR.mkR trivial rfl [0, 1, 2, 3, 4] ⟨rfl, rfl⟩ ⟨rfl, ⟨⟨⟨⟨⟨trivial, .inr ⟨rfl, rfl, rfl⟩⟩, .inr ⟨rfl, rfl, rfl⟩⟩, .inr ⟨rfl, rfl, rfl⟩⟩, .inr ⟨rfl, rfl, rfl⟩⟩, .inr ⟨rfl, rfl, rfl⟩⟩, by decide, rfl, ⟨⟨⟨trivial, rfl⟩, rfl⟩, rfl⟩, rfl⟩ rfl rfl)))
 replace H := cnf hb393 H
 refine WP.skipW ?_
 refine W.now ?_
 refine InBlock.n ?_
 refine Then.n ?_
 refine WP.seq ?_
 refine WP.region ?_
 refine WPL.q (q_as (v := .lit (.int _ _)) rfl) rfl ?_
 refine WPL.nilW ?_
 refine W.now ?_
 refine Then.n ?_
 refine WP.retW ?_
 have q0 := (Prod.mk.inj (Option.some.inj H)).1
 have q1 := (Prod.mk.inj (Prod.mk.inj (Option.some.inj H)).2).1
 have q2 := (Prod.mk.inj (Prod.mk.inj (Option.some.inj H)).2).2
 subst q0
 subst q1
 subst q2
 exact W.now (BodyR.mkR trivial rfl [0, 1, 2, 3, 4] ⟨rfl, rfl⟩ ⟨rfl, ⟨⟨⟨⟨⟨trivial, .inr ⟨rfl, rfl, rfl⟩⟩, .inr ⟨rfl, rfl, rfl⟩⟩, .inr ⟨rfl, rfl, rfl⟩⟩, .inr ⟨rfl, rfl, rfl⟩⟩, .inr ⟨rfl, rfl, rfl⟩⟩, by decide, rfl, ⟨⟨⟨trivial, rfl⟩, rfl⟩, rfl⟩, rfl⟩ rfl rfl)
set_option maxRecDepth 100000 in
set_option maxHeartbeats 4000000 in
theorem s_simfs_entry_to (k : Nat) (x436 : ByteArray) (x437 : ByteArray) (x438 : (Option Nat)) (x439 : (List (ByteArray × (Option Nat)))) (x442 : (List (ByteArray × (Option Nat)))) (H : g_simfs_entry_to k x436 x437 x438 x439 = some x442) : Go.Q.Spec Try.prog 16 1 [.agg [.lit (.string x436), .lit (.string x437), .ro (Rd.pp 0) false x438], .mp 0] (Mem.nil.push (.dict Value.string (Rd.pp 0) x439 none)) (fun o M => o = .ret (.tup []) ∧ M = (Mem.nil.push (.dict Value.string (Rd.pp 0) x442 none))) := by
 unfold g_simfs_entry_to at H
 refine Go.Q.Spec.of_bodyR (az := []) (rs := []) (nt := 15) Try.func16 rfl rfl (by intro t T h; simp at h) rfl rfl fun cx hnp => ?_
 refine WP.seq ?_
 refine WP.region ?_
 refine WPL.d (d_box rfl rfl) rfl ?_
 refine WPL.nilW ?_
 refine W.now ?_
 refine Then.n ?_
 refine WP.seq ?_
 refine WP.region ?_
 refine WPL.q (q_mv (v := .mp _) rfl) rfl ?_
 refine WPL.q (q_fieldAddr fi51_0 rfl rfl) rfl ?_
 refine WPL.q (q_load sc9 rfl rfl rfl) rfl ?_
 refine WPL.dN (d_delete (k := x436) dk9 Try.underlying36 rfl rfl rfl) ?_
 refine WPL.nilW ?_
 refine W.now ?_
 refine Then.n ?_
 refine WP.seq ?_
 refine WP.region ?_
 refine WPL.q (q_fieldAddr fi51_2 rfl rfl) rfl ?_
 refine WPL.q (q_load sc49 rfl rfl rfl) rfl ?_
 refine WPL.q (q_neqpP Try.underlying49 rfl) rfl ?_
 refine WPL.nilW ?_
 refine W.now ?_
 refine Then.n ?_
 refine WP.cond (t := (Option.isSome x438)) rfl (fun hb442 => ?_) (fun hb442 => ?_)
 · replace H := cnt hb442 H
   refine WP.region ?_
   refine WPL.q (q_mv (v := .mp _) rfl) rfl ?_
   refine WPL.q (q_fieldAddr fi51_1 rfl rfl) rfl ?_
   refine WPL.q (q_load sc9 rfl rfl rfl) rfl ?_
   refine WPL.q (q_fieldAddr fi51_2 rfl rfl) rfl ?_
   refine WPL.q (q_load sc49 rfl rfl rfl) rfl ?_
   refine WPL.s (s_updS (k := x437) (v := x438) ltStr dk9 Try.underlying36 rfl rfl rfl rfl Joins.one rfl) ?_
   refine WPL.nilW ?_
   have q0 := (Option.some.inj H)
   subst q0
   exact W.now (BodyR.mkN trivial rfl [0] ⟨rfl, rfl⟩ ⟨rfl, ⟨trivial, .inr ⟨rfl, rfl, rfl⟩⟩, by decide, rfl, ⟨trivial, rfl⟩, rfl⟩ rfl rfl)
 replace H := cnf hb442 H
 refine WP.skipW ?_
 have q0 := (Option.some.inj H)
 subst q0
 exact W.now (BodyR.mkN trivial rfl [0] ⟨rfl, rfl⟩ ⟨rfl, ⟨trivial, .inr ⟨rfl, rfl, rfl⟩⟩, by decide, rfl, ⟨trivial, rfl⟩, rfl⟩ rfl rfl)
set_option maxRecDepth 100000 in
set_option maxHeartbeats 4000000 in
theorem s_simfs_Disk_change (k : Nat) (x424 : ByteArray) (x425 : ByteArray) (x426 : (Option Nat)) (x427 : Int) (x428 : (List (Int × Int))) (x429 : Int) (x430 : Bool) (x431 : (List (ByteArray × (Option Nat)))) (x432 : (List (ByteArray × (Option Nat)))) (x433 : (List (Option Nat))) (x434 : (List S_simfs_entry)) (x451 : (List (ByteArray × (Option Nat)))) (H : g_simfs_Disk_change k x424 x425 x426 x427 x428 x429 x430 x431 x432 x433 x434 = some x451) : Go.Q.Spec Try.prog 27 3 [.ptr 0 0, .agg [.lit (.string x424), .lit (.string x425), .ro (Rd.pp 0) false x426]] (((((Mem.nil.push (.cells 41 [.lit (.int .i64 x427), .whole 3, .mp 1, .mp 2, .whole 4, .ro (Rd.map (Value.int .i64) (Rd.int .i64)) false x428, .lit (.int .i64 x429), .lit (.bool x430)])).push (.dict Value.string (Rd.pp 0) x431 none)).push (.dict Value.string (Rd.pp 0) x432 none)).push (.row 49 (Rd.pp 0) x433)).push (.row 51 rdS_simfs_entry x434)) (fun o M => o = .ret (.tup []) ∧ M = (((((Mem.nil.push (.cells 41 [.lit (.int .i64 x427), .whole 3, .mp 1, .mp 2, .whole 4, .ro (Rd.map (Value.int .i64) (Rd.int .i64)) false x428, .lit (.int .i64 x429), .lit (.bool x430)])).push (.dict Value.string (Rd.pp 0) x451 none)).push (.dict Value.string (Rd.pp 0) x432 none)).push (.row 49 (Rd.pp 0) x433)).push (.row 51 rdS_simfs_entry (x434 ++ ([(⟨x424, x425, x426⟩ : S_simfs_entry)] : List S_simfs_entry))))) := by
 unfold g_simfs_Disk_change at H
 refine Go.Q.Spec.of_bodyR (az := []) (rs := []) (nt := 20) Try.func27 rfl rfl (by intro t T h; simp at h) rfl rfl fun cx hnp => ?_
 refine WP.seq ?_
 refine WP.region ?_
 refine WPL.d (d_box rfl rfl) rfl ?_
 refine WPL.nilW ?_
 refine W.now ?_
 refine Then.n ?_
 refine WP.seq ?_
 refine WP.regionD' 6 [0, 5] [] mixed rfl ?_
 refine WPD.takeT 1 rfl (by kernel_rfl) (q_mv (v := .ptr _ _) rfl) rfl ?_
 refine WPD.takeT 2 rfl (by kernel_rfl) (q_nilCheck rfl) rfl ?_
 refine WPD.takeT 3 rfl (by kernel_rfl) (q_fieldAddr fi41_2 rfl rfl) rfl ?_
 refine WPD.take 0 rfl (by kernel_rfl) (q_load_ag ag51 rfl rfl (Nat.le_of_ble_eq_true rfl)) rfl rfl ?_
 refine WPD.take 4 rfl (by kernel_rfl) (q_load sc36 rfl rfl rfl) rfl rfl ?_
 obtain ⟨x455, h453, H⟩ := bnd H
 refine WPD.eff 5 [0, 5] [] rfl (by kernel_rfl) (runs_call (s := [1]) (t := [1]) (N := 6) (bor := []) fn16 rfl (s_simfs_entry_to k x424 x425 x426 x431 x455 h453) ⟨rfl, ⟨trivial, .inr ⟨rfl, rfl, rfl⟩⟩, by decide, rfl, trivial, rfl⟩ rfl trivial (.ren rfl rfl (.ren rfl rfl .nil)) rfl ⟨trivial, rfl⟩ rfl) rfl rfl ?_
 refine WPD.doneW (by kernel_rfl) ?_
 refine W.now ?_
 refine Then.n ?_
 refine WP.regionD' 11 [0, 5] [10] mixed rfl ?_
 refine WPD.takeT 0 rfl (by kernel_rfl) (q_mv (v := .ptr _ _) rfl) rfl ?_
 refine WPD.takeT 1 rfl (by kernel_rfl) (q_mv (v := .ptr _ _) rfl) rfl ?_
 refine WPD.takeT 2 rfl (by kernel_rfl) (q_nilCheck rfl) rfl ?_
 refine WPD.takeT 3 rfl (by kernel_rfl) (q_fieldAddr fi41_4 rfl rfl) rfl ?_
 refine WPD.take 4 rfl (by kernel_rfl) (q_load sc38 rfl rfl rfl) rfl rfl ?_
 refine WPD.take 5 rfl (by kernel_rfl) (q_load_ag ag51 rfl rfl (Nat.le_of_ble_eq_true rfl)) rfl rfl ?_
 refine WPD.eff 6 [0, 5] [10] rfl (by kernel_rfl) (Does.runs (d_buildSlice (ds := ([(⟨x424, x425, x426⟩ : S_simfs_entry)] : List S_simfs_entry)) (R := rdS_simfs_entry) li38 rfl rfl rfl rfl rfl (JoinRows.cons (l := [.lit (.string x424), .lit (.string x425), .ro (Rd.pp 0) false x426]) (Joins.via (Joins.cons Joins.sc (Joins.cons Joins.sc (Joins.cons Joins.one Joins.unit)))) rfl JoinRows.nil) rfl rfl)) rfl rfl ?_
 obtain ⟨h457, H⟩ := grd H
 refine WPD.eff 7 [0, 5] [10] rfl (by kernel_rfl) (Does.runs (d_append ap38 rfl rfl rfl rfl (src_row sl38 rfl rfl) h457 rfl)) rfl rfl ?_
 refine WPD.takeT 8 rfl (by kernel_rfl) (q_nilCheck rfl) rfl ?_
 refine WPD.takeT 9 rfl (by kernel_rfl) (q_fieldAddr fi41_4 rfl rfl) rfl ?_
 refine WPD.effS 10 [] [] rfl (by kernel_rfl) (s_store sz38 rfl rfl rfl rfl rfl) rfl ?_
 refine WPD.doneW (by kernel_rfl) ?_
 have q0 := (Option.some.inj H)
 subst q0
 exact W.now (BodyR.mkN trivial rfl [0, 1, 2, 3, 7] ⟨rfl, rfl⟩ ⟨rfl, ⟨⟨⟨⟨⟨trivial, .inr ⟨rfl, rfl, rfl⟩⟩, .inr ⟨rfl, rfl, rfl⟩⟩, .inr ⟨rfl, rfl, rfl⟩⟩, .inr ⟨rfl, rfl, rfl⟩⟩, .inr ⟨rfl, rfl, rfl⟩⟩, by decide, rfl, ⟨⟨⟨trivial, rfl⟩, rfl⟩, rfl⟩, rfl⟩ rfl rfl)
set_option maxRecDepth 100000 in
set_option maxHeartbeats 4000000 in
theorem s_simfs_Disk_Create (k : Nat) (x255 : ByteArray) (x256 : Int) (x257 : (List (Int × Int))) (x258 : Int) (x259 : Bool) (x260 : (List (ByteArray × (Option Nat)))) (x261 : (List (ByteArray × (Option Nat)))) (x262 : (List (Option Nat))) (x263 : (List S_simfs_entry)) (x264 : (List S_simfs_file)) (x461 : Int) (x462 : Int) (x463 : Bool) (x464 : (List (ByteArray × (Option Nat)))) (x465 : (List (Option Nat))) (x466 : (List S_simfs_entry)) (x467 : (List S_simfs_file)) (H : g_simfs_Disk_Create k x255 x256 x257 x258 x259 x260 x261 x262 x263 x264 = some (x461, x462, x463, x464, x465, x466, x467)) : Go.Q.Spec Try.prog 21 3 [.ptr 0 0, .lit (.string x255)] ((((((Mem.nil.withP 54 rdS_simfs_file x264).push (.cells 41 [.lit (.int .i64 x256), .whole 3, .mp 1, .mp 2, .whole 4, .ro (Rd.map (Value.int .i64) (Rd.int .i64)) false x257, .lit (.int .i64 x258), .lit (.bool x259)])).push (.dict Value.string (Rd.pp 0) x260 none)).push (.dict Value.string (Rd.pp 0) x261 none)).push (.row 49 (Rd.pp 0) x262)).push (.row 51 rdS_simfs_entry x263)) (fun o M => o = .ret (.lit (.int .i64 x461)) ∧ M = ((((((Mem.nil.withP 54 rdS_simfs_file x467).push (.cells 41 [.lit (.int .i64 x256), .whole 3, .mp 1, .mp 2, .whole 4, .ro (Rd.map (Value.int .i64) (Rd.int .i64)) false x257, .lit (.int .i64 x462), .lit (.bool x463)])).push (.dict Value.string (Rd.pp 0) x464 none)).push (.dict Value.string (Rd.pp 0) x261 none)).push (.row 49 (Rd.pp 0) x465)).push (.row 51 rdS_simfs_entry x466))) := by
 unfold g_simfs_Disk_Create at H
 refine Go.Q.Spec.of_bodyR (az := []) (rs := [.tmp 4]) (nt := 46) Try.func21 rfl rfl (by intro t T h; simp at h) rfl rfl fun cx hnp => ?_
 refine WP.seq ?_
 refine WP.region ?_
 refine WPL.q (q_as (v := .lit (.int _ _)) rfl) rfl ?_
 refine WPL.nilW ?_
 refine W.now ?_
 refine Then.n ?_
 refine WP.seq ?_
 refine WP.seq ?_
 refine WP.region ?_
 refine WPL.q (q_mv (v := .ptr _ _) rfl) rfl ?_
 refine WPL.q (q_mv (v := .lit (.string _)) rfl) rfl ?_
 refine WPL.d (d_buildSlice (ds := ([x255] : List ByteArray)) (R := Rd.str) li70 rfl rfl rfl rfl rfl (JoinRows.cons1 Joins.sc rfl JoinRows.nil) rfl rfl) rfl ?_
 obtain ⟨⟨x474, x475, x476⟩, h472, H⟩ := bnd H
 refine WPL.c (runs_call (s := [0, 1, 2, 3, 4]) (t := [0, 1, 2, 6, 7]) (N := 8) (bor := [5]) fn33 rfl (s_simfs_Disk_step k ([x255] : List ByteArray) x256 x257 x258 x259 x260 x261 x262 x263 x474 x475 x476 h472) ⟨rfl, ⟨⟨⟨⟨⟨trivial, .inr ⟨rfl, rfl, rfl⟩⟩, .inr ⟨rfl, rfl, rfl⟩⟩, .inr ⟨rfl, rfl, rfl⟩⟩, .inr ⟨rfl, rfl, rfl⟩⟩, .inr ⟨rfl, rfl, rfl⟩⟩, by decide, rfl, trivial, rfl⟩ rfl ⟨trivial, rfl, rfl, trivial⟩ (.ren rfl rfl (.row rfl rfl .nil)) rfl ⟨⟨⟨⟨⟨trivial, rfl⟩, rfl⟩, rfl⟩, rfl⟩, rfl⟩ rfl) rfl ?_
 refine WPL.q (q_as (v := .lit (.int _ _)) rfl) rfl ?_
 refine WPL.nilW ?_
 refine W.now ?_
 refine Then.n ?_
 refine WP.seq ?_
 refine WP.region ?_
 refine WPL.q (q_mv (v := .lit (.int _ _)) rfl) rfl ?_
 refine WPL.q (q_neq rfl rfl) rfl ?_
 refine WPL.nilW ?_
 refine W.now ?_
 refine Then.n ?_
 refine WP.cond (t := (!decide (x474 = 0))) rfl (fun hb476 => ?_) (fun hb476 => ?_)
 · replace H := cnt hb476 H
   refine WP.seq ?_
   refine WP.region ?_
   refine WPL.q (q_mv (v := .lit (.int _ _)) rfl) rfl ?_
   refine WPL.q (q_as (v := .lit (.int _ _)) rfl) rfl ?_
   refine WPL.nilW ?_
   refine W.now ?_
   refine Then.n ?_
   refine WP.retW ?_
   have q0 := (Prod.mk.inj (Option.some.inj H)).1
   have q1 := (Prod.mk.inj (Prod.mk.inj (Option.some.inj H)).2).1
   have q2 := (Prod.mk.inj (Prod.mk.inj (Prod.mk.inj (Option.some.inj H)).2).2).1
   have q3 := (Prod.mk.inj (Prod.mk.inj (Prod.mk.inj (Prod.mk.inj (Option.some.inj H)).2).2).2).1
   have q4 := (Prod.mk.inj (Prod.mk.inj (Prod.mk.inj (Prod.mk.inj (Prod.mk.inj (Option.some.inj H)).2).2).2).2).1
   have q5 := (Prod.mk.inj (Prod.mk.inj (Prod.mk.inj (Prod.mk.inj (Prod.mk.inj (Prod.mk.inj (Option.some.inj H)).2).2).2).2).2).1
   have q6 := (Prod.mk.inj (Prod.mk.inj (Prod.mk.inj (Prod.mk.inj (Prod.mk.inj (Prod.mk.inj (Option.some.inj H)).2).2).2).2).2).2
   subst q0
   subst q1
   subst q2
   subst q3
   subst q4
   subst q5
   subst q6
   exact W.now (Then.r (BodyR.mkR trivial rfl [0, 1, 2, 6, 7] ⟨rfl, rfl⟩ ⟨rfl, ⟨⟨⟨⟨⟨trivial, .inr ⟨rfl, rfl, rfl⟩⟩, .inr ⟨rfl, rfl, rfl⟩⟩, .inr ⟨rfl, rfl, rfl⟩⟩, .inr ⟨rfl, rfl, rfl⟩⟩, .inr ⟨rfl, rfl, rfl⟩⟩, by decide, rfl, ⟨⟨⟨trivial, rfl⟩, rfl⟩, rfl⟩, rfl⟩ rfl rfl))
 replace H := cnf hb476 H
 refine WP.skipW ?_
 refine W.now ?_
 refine Then.n ?_
 refine WP.seq ?_
 refine WP.seq ?_
 obtain ⟨x490, H493, H⟩ := bnd H
 refine WP.monoW (Q := fun x E M => x = .normal ∧ E = (((Env.none.upd 0 (.ptr 0 0)).upd 1 (.lit (.string x255))).upd 28 (.lit (.bool x490))) ∧ M = ((((((Mem.nil.withP 54 rdS_simfs_file x264).push (.cells 41 [.lit (.int .i64 x256), .whole 3, .mp 1, .mp 2, .whole 4, .ro (Rd.map (Value.int .i64) (Rd.int .i64)) false x257, .lit (.int .i64 x475), .lit (.bool x476)])).push (.dict Value.string (Rd.pp 0) x260 none)).push (.dict Value.string (Rd.pp 0) x261 none)).push (.row 49 (Rd.pp 0) x262)).push (.row 51 rdS_simfs_entry x263))) ?_ ?_
 · clear H
   have H := H493
   clear H493
   refine WP.region ?_
   refine WPL.q (q_mv (v := .ptr _ _) rfl) rfl ?_
   refine WPL.q (q_nilCheck rfl) rfl ?_
   refine WPL.q (q_fieldAddr fi41_2 rfl rfl) rfl ?_
   refine WPL.q (q_load sc36 rfl rfl rfl) rfl ?_
   refine WPL.q (q_mv (v := .lit (.string _)) rfl) rfl ?_
   refine WPL.q (q_lookupD (k := x255) (z := none) dk9 Try.underlying36 iz49 (fun _ => rfl) rfl rfl rfl) rfl ?_
   obtain ⟨x491, h491, H⟩ := bnd H
   refine WPL.q (q_nm (q_eqlpP Try.underlying49 rfl) (nm_bool h491)) rfl ?_
   refine WPL.q (q_mv (v := .lit (.bool _)) rfl) rfl ?_
   refine WPL.split (t := 21) (b := x491) rfl (fun hb491 => ?_) (fun hb491 => ?_)
   · replace H := cnt hb491 H
     refine WPL.qg rfl rfl (lb hb491) (q_mv (v := .ptr _ _) rfl) rfl ?_
     refine WPL.qg rfl rfl (lb hb491) (q_nilCheck rfl) rfl ?_
     refine WPL.qg rfl rfl (lb hb491) (q_fieldAddr fi41_2 rfl rfl) rfl ?_
     refine WPL.qg rfl rfl (lb hb491) (q_load sc36 rfl rfl rfl) rfl ?_
     refine WPL.qg rfl rfl (lb hb491) (q_lenD Try.underlying36 rfl rfl) rfl ?_
     obtain ⟨x493, h493, H⟩ := bnd H
     refine WPL.qg rfl rfl (lb hb491) (q_nm (q_geq rfl rfl) (nm_bool h493)) rfl ?_
     refine WPL.q (q_pickT (v := .lit (.bool _)) (lb hb491) rfl) rfl ?_
     refine WPL.nilW ?_
     have q0 := (Option.some.inj H)
     subst q0
     exact W.wk [0, 1, 2, 6, 7] hnp ⟨rfl, rfl, rfl⟩ ⟨rfl, ⟨⟨⟨⟨⟨trivial, .inr ⟨rfl, rfl, rfl⟩⟩, .inr ⟨rfl, rfl, rfl⟩⟩, .inr ⟨rfl, rfl, rfl⟩⟩, .inr ⟨rfl, rfl, rfl⟩⟩, .inr ⟨rfl, rfl, rfl⟩⟩, by decide, rfl, ⟨⟨⟨trivial, rfl⟩, rfl⟩, rfl⟩, rfl⟩ (LeE.upd rfl rfl (LeE.upd rfl rfl (LeE.upd rfl rfl (LeE.none rfl rfl)))) rfl
   replace H := cnf hb491 H
   refine WPL.skipg (b' := false) rfl rfl (lb hb491) rfl rfl (.inl trivial) ?_
   refine WPL.skipg (b' := false) rfl rfl (lb hb491) rfl rfl (.inl trivial) ?_
   refine WPL.skipg (b' := false) rfl rfl (lb hb491) rfl rfl (.inl trivial) ?_
   refine WPL.skipg (b' := false) rfl rfl (lb hb491) rfl rfl (.inl trivial) ?_
   refine WPL.skipg (b' := false) rfl rfl (lb hb491) rfl rfl (.inl trivial) ?_
   refine WPL.skipg (b' := false) rfl rfl (lb hb491) rfl rfl (.inl trivial) ?_
   refine WPL.q (q_pickF (v := .lit (.bool _)) (lb hb491) rfl) rfl ?_
   refine WPL.nilW ?_
   have q0 := (Option.some.inj H)
   subst q0
   exact W.wk [0, 1, 2, 6, 7] hnp ⟨rfl, rfl, rfl⟩ ⟨rfl, ⟨⟨⟨⟨⟨trivial, .inr ⟨rfl, rfl, rfl⟩⟩, .inr ⟨rfl, rfl, rfl⟩⟩, .inr ⟨rfl, rfl, rfl⟩⟩, .inr ⟨rfl, rfl, rfl⟩⟩, .inr ⟨rfl, rfl, rfl⟩⟩, by decide, rfl, ⟨⟨⟨trivial, rfl⟩, rfl⟩, rfl⟩, rfl⟩ (LeE.upd rfl rfl (LeE.upd rfl rfl (LeE.upd rfl rfl (LeE.none rfl rfl)))) rfl
 rintro _ _ _ ⟨rfl, rfl, rfl⟩
 refine W.now ?_
 refine Then.n ?_
 refine WP.cond (t := x490) rfl (fun hb494 => ?_) (fun hb494 => ?_)
 · replace H := cnt hb494 H
   refine WP.seq ?_
   refine WP.region ?_
   refine WPL.q (q_as (v := .lit (.int _ _)) rfl) rfl ?_
   refine WPL.nilW ?_
   refine W.now ?_
   refine Then.n ?_
   refine WP.retW ?_
   have q0 := (Prod.mk.inj (Option.some.inj H)).1
   have q1 := (Prod.mk.inj (Prod.mk.inj (Option.some.inj H)).2).1
   have q2 := (Prod.mk.inj (Prod.mk.inj (Prod.mk.inj (Option.some.inj H)).2).2).1
   have q3 := (Prod.mk.inj (Prod.mk.inj (Prod.mk.inj (Prod.mk.inj (Option.some.inj H)).2).2).2).1
   have q4 := (Prod.mk.inj (Prod.mk.inj (Prod.mk.inj (Prod.mk.inj (Prod.mk.inj (Option.some.inj H)).2).2).2).2).1
   have q5 := (Prod.mk.inj (Prod.mk.inj (Prod.mk.inj (Prod.mk.inj (Prod.mk.inj (Prod.mk.inj (Option.some.inj H)).2).2).2).2).2).1
   have q6 := (Prod.mk.inj (Prod.mk.inj (Prod.mk.inj (Prod.mk.inj (Prod.mk.inj (Prod.mk.inj (Option.some.inj H)).2).2).2).2).2).2
   subst q0
   subst q1
   subst q2
   subst q3
   subst q4
   subst q5
   subst q6
   exact W.now (Then.r (BodyR.mkR trivial rfl [0, 1, 2, 3, 4] ⟨rfl, rfl⟩ ⟨rfl, ⟨⟨⟨⟨⟨trivial, .inr ⟨rfl, rfl, rfl⟩⟩, .inr ⟨rfl, rfl, rfl⟩⟩, .inr ⟨rfl, rfl, rfl⟩⟩, .inr ⟨rfl, rfl, rfl⟩⟩, .inr ⟨rfl, rfl, rfl⟩⟩, by decide, rfl, ⟨⟨⟨trivial, rfl⟩, rfl⟩, rfl⟩, rfl⟩ rfl rfl))
 replace H := cnf hb494 H
 refine WP.skipW ?_
 refine W.now ?_
 refine Then.n ?_
 refine WP.seq ?_
 refine WP.region ?_
 refine WPL.q (q_build bu54 rfl) rfl ?_
 refine WPL.d (d_boxP (R := rdS_simfs_file) (d0 := (⟨[], []⟩ : S_simfs_file)) (l := x264) rfl (Joins.via (Joins.cons Joins.nil (Joins.cons Joins.nil Joins.unit))) rfl) rfl ?_
 refine WPL.q (q_as (v := .ro _ _ _) rfl) rfl ?_
 refine WPL.nilW ?_
 refine W.now ?_
 refine Then.n ?_
 refine WP.seq ?_
 refine WP.region ?_
 refine WPL.q (q_mv (v := .ptr _ _) rfl) rfl ?_
 refine WPL.q (q_mv (v := .ptr _ _) rfl) rfl ?_
 refine WPL.q (q_nilCheck rfl) rfl ?_
 refine WPL.q (q_fieldAddr fi41_1 rfl rfl) rfl ?_
 refine WPL.q (q_load sc37 rfl rfl rfl) rfl ?_
 refine WPL.q (q_mv (v := .ro _ _ _) rfl) rfl ?_
 refine WPL.d (d_buildSlice (ds := ([(some (List.length x264))] : List (Option Nat))) (R := (Rd.pp 0)) li37 rfl rfl rfl rfl rfl (JoinRows.cons (l := [.ro (Rd.pp 0) false (some (List.length x264))]) Joins.one rfl JoinRows.nil) rfl rfl) rfl ?_
 obtain ⟨h495, H⟩ := grd H
 refine WPL.d (d_append ap37 rfl rfl rfl rfl (src_row sl37 rfl rfl) h495 rfl) rfl ?_
 refine WPL.q (q_nilCheck rfl) rfl ?_
 refine WPL.q (q_fieldAddr fi41_1 rfl rfl) rfl ?_
 refine WPL.s (s_store sz37 rfl rfl rfl rfl rfl) ?_
 refine WPL.nilW ?_
 refine W.now ?_
 refine Then.n ?_
 refine WP.seq ?_
 refine WP.region ?_
 refine WPL.q (q_mv (v := .ptr _ _) rfl) rfl ?_
 refine WPL.q (q_mv (v := .lit (.string _)) rfl) rfl ?_
 refine WPL.q (q_mv (v := .ro _ _ _) rfl) rfl ?_
 refine WPL.q (q_build bu51 rfl) rfl ?_
 obtain ⟨x498, h496, H⟩ := bnd H
 refine WPL.c (runs_call (s := [0, 1, 2, 6, 4]) (t := [0, 1, 2, 7, 8]) (N := 9) (bor := []) fn27 rfl (s_simfs_Disk_change k (ByteArray.mk #[]) x255 (some (List.length x264)) x256 x257 x475 x476 x260 x261 (x262 ++ ([(some (List.length x264))] : List (Option Nat))) x263 x498 h496) ⟨rfl, ⟨⟨⟨⟨⟨trivial, .inr ⟨rfl, rfl, rfl⟩⟩, .inr ⟨rfl, rfl, rfl⟩⟩, .inr ⟨rfl, rfl, rfl⟩⟩, .inr ⟨rfl, rfl, rfl⟩⟩, .inr ⟨rfl, rfl, rfl⟩⟩, by decide, rfl, trivial, rfl⟩ rfl trivial (.ren rfl rfl (.ren rfl rfl .nil)) rfl ⟨⟨⟨⟨⟨trivial, rfl⟩, rfl⟩, rfl⟩, rfl⟩, rfl⟩ rfl) rfl ?_
 refine WPL.nilW ?_
 refine W.now ?_
 refine Then.n ?_
 refine WP.seq ?_
 refine WP.region ?_
 refine WPL.q (q_as (v := .lit (.int _ _)) rfl) rfl ?_
 refine WPL.nilW ?_
 refine W.now ?_
 refine Then.n ?_
 refine WP.retW ?_
 have q0 := (Prod.mk.inj (Option.some.inj H)).1
 have q1 := (Prod.mk.inj (Prod.mk.inj (Option.some.inj H)).2).1
 have q2 := (Prod.mk.inj (Prod.mk.inj (Prod.mk.inj (Option.some.inj H)).2).2).1
 have q3 := (Prod.mk.inj (Prod.mk.inj (Prod.mk.inj (Prod.mk.inj (Option.some.inj H)).2).2).2).1
 have q4 := (Prod.mk.inj (Prod.mk.inj (Prod.mk.inj (Prod.mk.inj (Prod.mk.inj (Option.some.inj H)).2).2).2).2).1
 have q5 := (Prod.mk.inj (Prod.mk.inj (Prod.mk.inj (Prod.mk.inj (Prod.mk.inj (Prod.mk.inj (Option.some.inj H)).2).2).2).2).2).1
 have q6 := (Prod.mk.inj (Prod.mk.inj (Prod.mk.inj (Prod.mk.inj (Prod.mk.inj (Prod.mk.inj (Option.some.inj H)).2).2).2).2).2).2
 subst q0
 subst q1
 subst q2
 subst q3
 subst q4
 subst q5
 subst q6
 exact W.now (BodyR.mkR trivial rfl [0, 1, 2, 7, 8] ⟨rfl, rfl⟩ ⟨rfl, ⟨⟨⟨⟨⟨trivial, .inr ⟨rfl, rfl, rfl⟩⟩, .inr ⟨rfl, rfl, rfl⟩⟩, .inr ⟨rfl, rfl, rfl⟩⟩, .inr ⟨rfl, rfl, rfl⟩⟩, .inr ⟨rfl, rfl, rfl⟩⟩, by decide, rfl, ⟨⟨⟨trivial, rfl⟩, rfl⟩, rfl⟩, rfl⟩ rfl rfl)
end Go.Proofs.Ytcaeafojgehamaa.W
