/- Bytes and strings. -/
import Derived.Test.YtnbjdgamindikaaDoorQm
import Derived.Laws.BytesString
namespace Go.Q
open Go
set_option linter.unusedVariables false
set_option linter.unusedSimpArgs false

def strOf (l : List Int) : ByteArray := l.foldl (fun r n => r.push (UInt8.ofNat n.toNat)) ByteArray.empty

theorem rows_u8 {m : Ro} : ∀ {l : List Int} {cs : List Value}, rows (Rd.int .u8) m l cs → cs.take l.length = l.map (Value.int .u8)
  | [], _, _ => by simp
  | d :: l, cs, h => by
    obtain ⟨h1, h2⟩ := h
    have h3 := rows_u8 h2
    simp only [Rd.int, Rd.sc] at h1 h3
    cases cs with
    | nil => simp at h1
    | cons c cs =>
      simp at h1 h3
      simp [h1, h3]

section
variable {P : Program} {E : Env} {M : Mem} {ty : TypeId}
theorem run_firstBytes (w : World) (bk o len : Nat) {c : Array Value} {tt : TypeId} {fr : Nat × Nat} {m : Ro} {l : List Int} (hb : w.heap[bk]? = some (.cells c tt fr)) (hr : rows (Rd.int .u8) m l (c.toList.drop o)) (hl : len = l.length) :
    (loadCells ⟨bk, o, none⟩ len).run P w = .ok (l.map (Value.int .u8)).toArray w := by
  have h1 := rows_u8 hr
  have h2 := rows_len hr
  simp only [Rd.int, Rd.sc, Nat.mul_one] at h2
  have := run_loadCells_list (P := P) w ⟨bk, o, none⟩ (l.map (Value.int .u8)) (by
    intro j v hj
    rw [add_at, cell_of hb]
    rw [← h1] at hj
    have hjl : j < l.length := by
      have := (List.getElem?_eq_some_iff.1 hj).1
      simp at this; omega
    rw [List.getElem?_take_of_lt hjl, List.getElem?_drop] at hj
    simpa using hj)
  rw [List.length_map] at this
  rw [hl]; exact this

/-- A string of the bytes of a slice that is only read. -/
theorem q_bytes_str {src dst e : TypeId} {x : Operand} {b : Bool} {l : List Int} (hs : P.underlying src = some (.slice e)) (he : P.underlying e = some (.int .u8)) (hd : P.underlying dst = some .string) (hx : E.ev x = .ro (Rd.slice (Rd.int .u8)) b l) :
    Quiet P (.convert src dst x) ty E M [] (.lit (.string (strOf l))) :=
  fun cx nt a w e' hh hem => ⟨.string (strOf l), by simp [Val], fun w1 hw => by
    have hv := hem.ev x; rw [hx] at hv; simp only [Val, Rd.slice] at hv
    rcases hv with ⟨rfl, ad, c, h1⟩ | ⟨bk, o, c, tt, fr, cap, h1, hc, h2, h3⟩
    · simp at h1
      have : (Conv.bytesToString (.slice ad 0 c)).run P w1 = .ok (.string ByteArray.empty) w1 := by
        cases ad with
        | none => simp [Conv.bytesToString]
        | some ad => exact run_bytesToString w1 ad 0 c [] (by simp [loadCells, loadCellsFrom])
      simp only [exec1, execOp, h1, Sem.run_bind, run_convert_bytes_string w1 src dst e ad 0 c hs he hd, this, Result.andThen, Sem.run_pure]
      rfl
    · simp at h1
      have := run_bytesToString (P := P) w1 ⟨bk, o, none⟩ l.length cap l (run_firstBytes w1 bk o l.length (hw.mem h2) h3 rfl)
      simp only [exec1, execOp, h1, Sem.run_bind, run_convert_bytes_string w1 src dst e _ _ _ hs he hd, this, Result.andThen, Sem.run_pure]
      rfl⟩

/-- A string of the bytes of a row of our own. -/
theorem q_bytes_str_row {src dst e ct : TypeId} {x : Operand} {i : Nat} {l : List Int} (hs : P.underlying src = some (.slice e)) (he : P.underlying e = some (.int .u8)) (hd : P.underlying dst = some .string) (hx : E.ev x = .whole i) (hc : M.at_ i = .row ct (Rd.int .u8) l) :
    Quiet P (.convert src dst x) ty E M [i] (.lit (.string (strOf l))) :=
  fun cx nt a w e' hh hem => ⟨.string (strOf l), by simp [Val], fun w1 hw => by
    have hv := hem.ev x; rw [hx] at hv; simp only [Val] at hv
    have hk := hh.ch i hv.1
    rw [hc] at hk
    obtain ⟨g1, g2, g3, g4⟩ := hk
    have hv3 := hv.2.2
    cases hvir : e'.vir i with
    | true =>
      rw [hvir] at hv3 g4
      simp only [if_true] at hv3 g4
      subst g4
      have : (Conv.bytesToString (.slice none 0 0)).run P w1 = .ok (.string ByteArray.empty) w1 := by simp [Conv.bytesToString]
      simp only [exec1, execOp, hv3.1, Sem.run_bind, run_convert_bytes_string w1 src dst e none 0 0 hs he hd, this, Result.andThen, Sem.run_pure]
      rfl
    | false =>
      rw [hvir] at hv3 g4
      simp only [Bool.false_eq_true, if_false] at hv3 g4
      obtain ⟨c, z, hb, _, hcs, hrow⟩ := g4
      have := run_bytesToString (P := P) w1 ⟨e'.own i, 0, none⟩ l.length (e'.caps i) l (run_firstBytes w1 (e'.own i) 0 l.length ((hw.own i (by simp) hvir).trans hb) (by simpa using hrow) rfl)
      simp only [exec1, execOp, hv3, g1, Sem.run_bind, run_convert_bytes_string w1 src dst e _ _ _ hs he hd, this, Result.andThen, Sem.run_pure]
      rfl⟩

theorem run_mark {w : World} {b : Nat} {c : Array Value} {t : TypeId} {z : Nat × Nat} (hb : w.heap[b]? = some (.cells c t z)) (hz : thaw c z) (P : Program) :
    ∃ w' z', (markStringish ⟨b, 0, none⟩).run P w = .ok () w' ∧ w'.heap[b]? = some (.cells c t z') ∧ thaw c z' ∧ w'.heap.size = w.heap.size ∧ w'.os = w.os ∧ w'.tape = w.tape ∧ w'.output = w.output ∧ ∀ k, k ≠ b → w'.heap[k]? = w.heap[k]? := by
  have hsh : w.shape? b = some (t, c.size) := by unfold World.shape?; rw [hb]
  obtain ⟨lo, hi⟩ := z
  refine ⟨w.freeze ⟨b, c.size, none⟩ 1, if lo == hi then (c.size, c.size + 1) else (min lo c.size, max hi (c.size + 1)), by simp [markStringish, hsh], ?_, ?_, ?_, ?_, ?_, ?_, ?_⟩
  · unfold World.freeze
    rw [if_neg (by decide)]
    simp [Array.getElem?_modify, hb]
  · by_cases h : lo = hi
    · simp [h, thaw]
    · have hz' : c.size ≤ lo := by
        rcases hz with h' | h'
        · exact absurd h' h
        · exact h'
      simp only [beq_iff_eq, if_neg h, thaw]
      right; omega
  all_goals (unfold World.freeze; rw [if_neg (by decide)])
  · simp
  · intro k hk
    simp only [Array.getElem?_modify]
    rw [if_neg (Ne.symm hk)]

theorem wantg {fr : Fr} {ops : Array Oper} {d : Option Nat} {op : Op} {pos : String} {after : Array Edge} {j t : Nat} {b : Bool} (hj : (ops[j]?).bind (·.dst) = some t) (htj : Nat.blt t fr.nt = true) (hv : E.v t = .lit (.bool b)) :
    ∀ a e, Emb fr.nt e M E a → Region.wanted { dst := d, op := op, type := ty, pos := pos, after := after, guard := some (j, b) } (yielded ops a.tmps) = true := fun a e he => by
  simp [Region.wanted, yields he hj htj hv]

/-- '[]byte("..")' of a constant string. -/
theorem d_bytesConst {t e ct : TypeId} {x : Operand} {i : Nat} {l : List Int} (ht : P.underlying t = some (.slice e)) (he : P.underlying e = some (.int .u8)) (hx : E.ev x = .whole i) (hc : M.at_ i = .row ct (Rd.int .u8) l) (hne : l.isEmpty = false) :
    Does P (.convert t t x) ty E M [i] (.whole i) M :=
  fun cx nt a w e' hh hem => by
  have hv := hem.ev x; rw [hx] at hv
  have hv0 := hv
  simp only [Val] at hv
  have hk := hh.ch i hv.1
  rw [hc] at hk
  obtain ⟨g1, g2, g3, g4⟩ := hk
  have hv3 := hv.2.2
  have hvir : e'.vir i = false := by
    cases hvir : e'.vir i with
    | false => rfl
    | true => rw [hvir] at g4; simp only [if_true] at g4; subst g4; cases hne
  rw [hvir] at hv3 g4
  simp only [Bool.false_eq_true, if_false] at hv3 g4
  obtain ⟨c, z, hb, hz, hcs, hrow⟩ := g4
  obtain ⟨w', z', hm, k1, kz, k2, k3, k4, k5, k6⟩ := run_mark hb hz P
  have hlive : (M.at_ i).live e' i := by rw [hc]; exact hvir
  refine ⟨a.eval x, w', e', ?_, ?_, ⟨Nv.le.refl e', fun _ => Ro.le.refl _⟩, hv0, fun b _ hne => k6 b (fun hb => hne i (by simp) hv.1 hlive hb.symm), by rw [k2]; exact Nat.le_refl _⟩
  · rw [hv3]
    simp only [exec1, execOp, hv3, convert, run_underlying ht, run_underlying he, hm, Sem.run_bind, Result.andThen, Sem.run_pure, beq_self_eq_true]
  · have h := hh.change hv.1 hlive (c := .row ct (Rd.int .u8) l) k3 k4 k5 k2 k6 ⟨g1, g2, g3, by rw [hvir]; simp only [Bool.false_eq_true, if_false]; exact ⟨c, z', k1, kz, hcs, hrow⟩⟩
    have hM : M.set i (.row ct (Rd.int .u8) l) = M := by
      unfold Mem.set
      cases M with | mk n f => 
      congr 1
      funext j
      cases hj : Nat.beq j i with
      | true => rw [Nat.eq_of_beq_eq_true hj]; exact hc.symm
      | false => rfl
    rw [hM] at h
    exact h
end
end Go.Q
