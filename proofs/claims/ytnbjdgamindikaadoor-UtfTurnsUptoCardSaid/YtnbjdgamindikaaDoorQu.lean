/- Strings made and cut; iterators over strings; what the model stands in for; the operations of strings.Builder. -/
import Derived.Test.YtnbjdgamindikaaDoorQt
import Derived.Lib.ConvBytes
import Derived.Lib.MakeNoZero
import Derived.Lib.UnsafeStr
import Derived.Lib.Builder
namespace Go.Q
open Go
set_option linter.unusedVariables false
set_option linter.unusedSimpArgs false
section
variable {P : Program} {E : Env} {M : Mem} {ty : TypeId}

theorem alloc_old4 (w : World) (o : Obj) (i : Nat) (h : i < w.heap.size) : (w.alloc o).heap[i]? = w.heap[i]? := by
  simp [World.alloc, Array.getElem?_push, -World.alloc_eq]
  omega

/-- Two strings, one behind the other. -/
theorem q_concat {t yt : TypeId} {x y : Operand} {p s : ByteArray} (hx : E.ev x = .lit (.string p)) (hy : E.ev y = .lit (.string s)) (hlim : decide (p.size + s.size ≤ 9223372036854775807) = true) :
    Quiet P (.binOp .add t x y yt) ty E M [] (.lit (.string (p ++ s))) :=
  q_bin hx hy g_str fun w => by
    have h := of_decide_eq_true hlim
    have hmax : IntKind.i64.max = 9223372036854775807 := rfl
    have h' : ¬ (9223372036854775807 : Int) < (p.size : Int) + (s.size : Int) := by omega
    simp [binOp, Op.stringOp, hmax, h']

theorem strInts_length (s : ByteArray) : (strInts s).length = s.size := by rw [strInts, List.length_map, Array.length_toList]; rfl

/-- The bytes of a string, as a row of our own. -/
theorem d_strBytes {src dst el : TypeId} {x : Operand} {s : ByteArray} {N : Nat} (hs : P.underlying src = some .string) (hd : P.underlying dst = some (.slice el)) (he : P.underlying el = some (.int .u8)) (hx : E.ev x = .lit (.string s)) (hlim : decide (s.size ≤ 140737488355328) = true) (hN : M.n = N) :
    Does P (.convert src dst x) ty E M [] (.whole N) (M.push (.row el (Rd.int .u8) (strInts s))) :=
  fun cx nt a w e hh hem => by
    have hl := of_decide_eq_true hlim
    have hsl := strInts_length s
    have hcap := grownCap_ge w s.size 0 el
    have hcm := grownCap_le_maxLen w s.size 0 el (by simp only [maxLen]; omega)
    have hsz : (Lib.bytesCells w el s).size = grownCap w s.size 0 el := by
      have : s.data.size = s.size := rfl
      simp [Lib.bytesCells, this]; omega
    refine ⟨.slice (some ⟨w.heap.size, 0, none⟩) s.size (grownCap w s.size 0 el), Lib.bytesWorld w el s, e.bump w.heap.size (grownCap w s.size 0 el) s.size, ?_, ?_, ⟨e.bump_le _ _ _ false, fun b => e.bump_mem _ _ _ false b⟩, ?_, fun b hb _ => Lib.bytesWorld_at_old w el s b hb, by rw [Lib.bytesWorld_size]; omega⟩
    · simp only [exec1, execOp, ev_lit hem hx, Sem.run_bind, Lib.run_convert_string_bytes w src dst el s hs hd he, Result.andThen, Sem.run_pure]
    · refine hh.bind ?_ ?_ ?_ (by rw [Lib.bytesWorld_size]; omega) (by rw [Lib.bytesWorld_size]; omega) (fun k hk hlt => Lib.bytesWorld_at_old w el s k hlt) (fun i hi hl => Nat.ne_of_lt (hh.live i hi hl).1) hh.bag_new (hnone hh.ro) (hnone hh.bro) (.inr hh.size) ?_
      · simp [Lib.bytesWorld, World.freeze]; rfl
      · simp [Lib.bytesWorld, World.freeze]; try rfl
      · simp [Lib.bytesWorld, World.freeze]; rfl
      · refine ⟨by simp [Nv.bump, hsl], by simp only [Nv.bump, if_true, hsl]; exact hcap, by simpa [Nv.bump] using hcm, ?_⟩
        simp only [Nv.bump, if_true, Bool.false_eq_true, if_false]
        refine ⟨_, _, Lib.bytesWorld_at_new w el s, .inr (Nat.le_refl _), by rw [hsz]; simp [Rd.int, Rd.sc], ?_⟩
        have : ∀ (l : List UInt8) (r : List Value), rows (Rd.int .u8) e.m (l.map fun b => (b.toNat : Int)) ((l.map fun b => Value.int .u8 b.toNat) ++ r) := by
          intro l r
          induction l with
          | nil => trivial
          | cons b l ih => exact ⟨rfl, ih⟩
        have h2 := this s.data.toList (List.replicate (grownCap w s.size 0 el - s.size) (.int .u8 0))
        simpa [Lib.bytesCells, strInts] using h2
    · simp only [Val, Nv.bump, ← hN, ← hh.n, if_true, Bool.false_eq_true, if_false]
      exact ⟨Nat.lt_succ_self _, hcap, trivial⟩

/-- A range over a string begins. -/
theorem d_range {t : TypeId} {x : Operand} {s : ByteArray} {N : Nat} (ht : P.underlying t = some .string) (hx : E.ev x = .lit (.string s)) (hN : M.n = N) :
    Does P (.range t x) ty E M [] (.ptr N 0) (M.push (.obj (.stringIter s 0))) :=
  fun cx nt a w e hh hem => by
    refine ⟨.pointer (some ⟨w.heap.size, 0, none⟩), w.alloc (.stringIter s 0), e.bump w.heap.size 0 0, ?_, ?_, ⟨e.bump_le _ _ _ false, fun b => e.bump_mem _ _ _ false b⟩, ?_, fun b hb _ => alloc_old4 w _ b hb, by simp⟩
    · simp [exec1, execOp, ev_lit hem hx, Instr.range, run_underlying ht]
    · refine hh.bind rfl rfl rfl (by simp) (by simp) (fun k hk hlt => alloc_old4 w _ k hlt) (fun i hi hl => Nat.ne_of_lt (hh.live i hi hl).1) hh.bag_new (hnone hh.ro) (hnone hh.bro) (.inr hh.size) ?_
      exact ⟨by simp [Nv.bump], by simp only [Nv.bump, if_true]; exact heap_alloc_new w _⟩
    · simp only [Val, Nv.bump, ← hN, ← hh.n, if_true]
      exact ⟨Nat.lt_succ_self _, trivial, trivial⟩

/-- .. comes to its end .. -/
theorem q_nextEnd {x : Operand} {i pos : Nat} {s : ByteArray} (hx : E.ev x = .ptr i 0) (hc : M.at_ i = .obj (.stringIter s pos)) (h : decide (pos < s.size) = false) :
    Quiet P (.next x true) ty E M [i] (.tup [.lit (.bool false)]) :=
  fun cx nt a w e hh hem => ⟨.tuple #[.bool false], by simp [Val, Vals], fun w1 hw => by
    have hp := hem.ev x; rw [hx] at hp; simp only [Val] at hp
    have hk := hh.ch i hp.1
    rw [hc] at hk
    have h1 := (hw.own i (by simp) hk.1).trans hk.2
    have hn : ¬ pos < s.size := of_decide_eq_false h
    have hr : (Instr.next (a.eval x) true ty).run P w1 = .ok (.tuple #[.bool false]) w1 := by
      simp [hp.2.2, Instr.next, getObj, Sem.run, h1, hn]
    simp [exec1, execOp, hr]⟩

/-- .. or goes on. -/
theorem d_next {x : Operand} {i pos : Nat} {s : ByteArray} (hx : E.ev x = .ptr i 0) (hc : M.at_ i = .obj (.stringIter s pos)) (h : decide (pos < s.size) = true) :
    Does P (.next x true) ty E M [i] (.tup [.lit (.bool true), .lit (.int .i64 (pos : Int)), .lit (.int .i32 (((Utf8.decode s pos).1 : Nat) : Int))]) (M.set i (.obj (.stringIter s (pos + (Utf8.decode s pos).2)))) :=
  fun cx nt a w e hh hem => by
    have hp := hem.ev x; rw [hx] at hp; simp only [Val] at hp
    have hk := hh.ch i hp.1
    rw [hc] at hk
    have hn : pos < s.size := of_decide_eq_true h
    have hlive : (M.at_ i).live e i := by rw [hc]; trivial
    have hlt := (hh.live i hp.1 hlive).1
    have hset : ∀ o : Obj, ({ w with heap := w.heap.setIfInBounds (e.own i) o } : World).heap[e.own i]? = some o := fun o => by
      simp [Array.getElem?_setIfInBounds, hlt]
    refine ⟨.tuple #[.bool true, .int .i64 pos, .int .i32 ((Utf8.decode s pos).1 : Nat)], { w with heap := w.heap.setIfInBounds (e.own i) (.stringIter s (pos + (Utf8.decode s pos).2)) }, e, ?_, ?_, ⟨Nv.le.refl e, fun _ => Ro.le.refl _⟩, by simp [Val, Vals], fun b _ hne => ?_, ?_⟩
    · have hr : (Instr.next (a.eval x) true ty).run P w = .ok (.tuple #[.bool true, .int .i64 pos, .int .i32 ((Utf8.decode s pos).1 : Nat)]) { w with heap := w.heap.setIfInBounds (e.own i) (.stringIter s (pos + (Utf8.decode s pos).2)) } := by
        simp only [hp.2.2, Instr.next, getObj, setObj, Sem.run_bind, Sem.run, hk.2, Result.andThen, hn, if_true]
        simp [goInt]
      simp [exec1, execOp, hr]
    · refine hh.change hp.1 hlive rfl rfl rfl (by simp) (fun k hk => ?_) ⟨hk.1, hset _⟩
      simp only [Array.getElem?_setIfInBounds]
      rw [if_neg (Ne.symm hk)]
    · have hb : e.own i ≠ b := hne i (by simp) hp.1 hlive
      simp only [Array.getElem?_setIfInBounds]
      rw [if_neg hb]
    · simp
end
end Go.Q
