/- What the model stands in for; the operations of strings.Builder; tables. -/
import Derived.Test.YtnbjdgamindikaaDoorQu
namespace Go.Q
open Go
set_option linter.unusedVariables false
set_option linter.unusedSimpArgs false

/-- A function that the model stands in for. -/
structure ExtIs (P : Program) (f : FuncId) (g : Array Value → Sem Value) : Prop where
  h : ∃ fn, P.funcs[f]? = some fn ∧ fn.body.isNone = true ∧ (fn.name == "runtime.NumGoroutine") = false ∧ (Extern.findNext fn).isNone = true ∧ Extern.find fn = some g

section
variable {P : Program} {E : Env} {M : Mem} {ty : TypeId} {fo : Operand} {f : FuncId} {g : Array Value → Sem Value} {args : Array Operand} {tys : Array TypeId}

theorem run_ext {ρ : Operand → Value} {w w' : World} {r : Value} (hfn : ExtIs P f g) (hf : ρ fo = .func (.func f) #[] #[]) (hr : (g (args.map ρ)).run P w = .ok r w') :
    (exec1 ρ (.call { callee := .value fo, args := args, argTypes := tys }) ty).run P w = .ok (.value r) w' := by
  obtain ⟨fn, h1, h2, h3, h4, h5⟩ := hfn.h
  have h3' : ¬ fn.name = "runtime.NumGoroutine" := by simpa using h3
  have h4' : Extern.findNext fn = none := by simpa using h4
  have h2' : fn.body = none := by simpa using h2
  simp [exec1, execOp, resolve, Deferred.ofValue, hf, invoke, callFunc, h1, h2', h3', h4', h5, hr]

theorem fn_eval {nt : Nat} {e : Nv} {a : Act} (he : Emb nt e M E a) (hcal : E.ev fo = .fn f []) : a.eval fo = .func (.func f) #[] #[] := by
  have hv := he.ev fo
  rw [hcal] at hv
  simp only [Val, Vals] at hv
  obtain ⟨us, h1, rfl⟩ := hv
  exact h1

/-- abi.NoEscape. -/
theorem q_noEscape {x : Operand} {v : AVal} (hfn : ExtIs P f Extern.AbiNoEscape.same) (hcal : E.ev fo = .fn f []) (hx : E.ev x = v) :
    Quiet P (.call { callee := .value fo, args := #[x], argTypes := tys }) ty E M [] v :=
  fun cx nt a w e hh he => ⟨a.eval x, hx ▸ he.ev x, fun w1 hw => run_ext hfn (fn_eval he hcal) (by simp only [List.map_toArray, List.map_cons, List.map_nil]; rfl)⟩

/-- Where a byte first stands in a string, or -1. -/
def ixByte (s : ByteArray) (c : Int) : Int := match (List.range s.size).find? fun i => s[i]! == c.toNat.toUInt8 with
  | some i => (i : Int)
  | none => -1
theorem q_indexByteString {x y : Operand} {s : ByteArray} {c : Int} (hfn : ExtIs P f Extern.BytealgIndexByte.indexByte) (hcal : E.ev fo = .fn f []) (hx : E.ev x = .lit (.string s)) (hy : E.ev y = .lit (.int .u8 c)) :
    Quiet P (.call { callee := .value fo, args := #[x, y], argTypes := tys }) ty E M [] (.lit (.int .i64 (ixByte s c))) :=
  fun cx nt a w e hh he => ⟨.int .i64 (ixByte s c), by simp [Val], fun w1 hw => run_ext hfn (fn_eval he hcal) (by
    simp only [List.map_toArray, List.map_cons, List.map_nil, ev_lit he hx, ev_lit he hy]
    have hdef : Extern.BytealgIndexByte.indexByte #[.string s, .int .u8 c] =
      (do
        let b ← Extern.Bytes.bytesOf (.string s)
        let c ← Extern.Bytes.asByte (.int .u8 c)
        match (List.range b.size).find? fun i => b[i]! == c with
        | some i => pure (goInt i)
        | none => pure (goInt (-1))) := rfl
    rw [hdef]
    simp only [Extern.Bytes.bytesOf, Extern.Bytes.asByte, ixByte]
    cases h : (List.range s.size).find? fun i => s[i]! == c.toNat.toUInt8 with
    | some i => simp [h, goInt]
    | none => simp [h, goInt])⟩

/-- One byte, whichever. -/
def Rd.junk : Rd Unit where
  sz := 1
  ok _ _ cs := ∃ v : Int, cs = [.int .u8 v]
  mono _ h := h
  len := by rintro m d cs ⟨v, rfl⟩; rfl
  one := by rintro m d cs ⟨v, rfl⟩ u hu; simp at hu; subst hu; rfl

theorem digits_all : ∀ (n t : Nat) (acc : Array Value), (∀ v ∈ acc.toList, ∃ z : Int, v = .int .u8 z) → ∀ v ∈ (Extern.BytealgMakeNoZero.digits n t acc).toList, ∃ z : Int, v = .int .u8 z
  | 0, _, _, h => h
  | n + 1, t, acc, h => by
    rw [Extern.BytealgMakeNoZero.digits]
    refine digits_all n _ _ fun v hv => ?_
    simp at hv
    rcases hv with hv | rfl
    · exact h v (by simpa using hv)
    · exact ⟨_, rfl⟩

theorem rows_junk {m : Ro} : ∀ (n : Nat) {cs : List Value}, n ≤ cs.length → (∀ v ∈ cs, ∃ z : Int, v = .int .u8 z) → rows Rd.junk m (List.replicate n ()) cs
  | 0, _, _, _ => trivial
  | n + 1, [], h, _ => by simp at h
  | n + 1, c :: cs, h, hc => by
    rw [List.replicate_succ]
    obtain ⟨z, rfl⟩ := hc c (by simp)
    have := rows_junk (m := m) n (cs := cs) (by simpa using h) fun v hv => hc v (by simp [hv])
    exact ⟨⟨z, rfl⟩, this⟩

/-- bytealg.MakeNoZero: so many bytes, whichever. -/
theorem d_makeNoZero {ps : Array TypeId} {t el : TypeId} {x : Operand} {n : Int} {N : Nat} (hfn : ExtIs P f (Extern.BytealgMakeNoZero.makeNoZero ps #[t])) (ht : P.underlying t = some (.slice el)) (hcal : E.ev fo = .fn f []) (hx : E.ev x = .lit (.int .i64 n))
    (hlim : decide (0 ≤ n ∧ n ≤ 140737488355328) = true) (hN : M.n = N) :
    Does P (.call { callee := .value fo, args := #[x], argTypes := tys }) ty E M [] (.whole N) (M.push (.row el Rd.junk (List.replicate n.toNat ()))) :=
  fun cx nt a w e hh he => by
    obtain ⟨l0, l1⟩ := of_decide_eq_true hlim
    obtain ⟨k, rfl⟩ : ∃ k : Nat, n = (k : Int) := ⟨n.toNat, by omega⟩
    have hdef : Extern.BytealgMakeNoZero.makeNoZero ps #[t] #[.int .i64 (k : Int)] =
      (do
        let .slice elem ← underlying t | stuck "bytealg.MakeNoZero: slice type expected"
        if (k : Int) < 0 || (k : Int) > 2 ^ 48 then runtimePanic (.error "makeslice: len out of range")
        let cap ← choose (.appendCap (k : Int).toNat 0 elem)
        askRoom cap
        let bytes ← choose (.extern "internal/bytealg.MakeNoZero.bytes" 0)
        let a ← newRow elem (Extern.BytealgMakeNoZero.digits cap bytes #[])
        pure (.slice (some a) (k : Int).toNat cap)) := rfl
    have h1 : ¬ (k : Int) < 0 := by omega
    have h2 : ¬ (281474976710656 : Int) < (k : Int) := by omega
    obtain ⟨cs, hcs⟩ : ∃ cs, cs = Extern.BytealgMakeNoZero.digits (grownCap w k 0 el) ((Question.extern "internal/bytealg.MakeNoZero.bytes" 0).cut (w.tape (w.drawn + 1) (.extern "internal/bytealg.MakeNoZero.bytes" 0))) #[] := ⟨_, rfl⟩
    have hsz : cs.size = grownCap w k 0 el := by rw [hcs, Lib.size_digits]; simp
    have hrun : (Extern.BytealgMakeNoZero.makeNoZero ps #[t] #[.int .i64 (k : Int)]).run P w = .ok (.slice (some ⟨w.heap.size, 0, none⟩) k (grownCap w k 0 el)) (w.drew.drew.alloc (.cells cs el)) := by
      rw [hdef, hcs]
      simp [run_underlying ht, h1, h2, Question.forced, newRow, grownCap]
    have hall : ∀ v ∈ cs.toList, ∃ z : Int, v = .int .u8 z := by rw [hcs]; exact digits_all _ _ _ (by simp)
    have hge := grownCap_ge w k 0 el
    have hcm := grownCap_le_maxLen w k 0 el (by simp only [maxLen]; omega)
    refine ⟨.slice (some ⟨w.heap.size, 0, none⟩) k (grownCap w k 0 el), w.drew.drew.alloc (.cells cs el), e.bump w.heap.size (grownCap w k 0 el) k, ?_, ?_, ⟨e.bump_le _ _ _ false, fun b => e.bump_mem _ _ _ false b⟩, ?_, fun b hb _ => alloc_old4 w.drew.drew _ b hb, by simp⟩
    · refine run_ext hfn (fn_eval he hcal) ?_
      simp only [List.map_toArray, List.map_cons, List.map_nil, ev_lit he hx]
      exact hrun
    · refine hh.bind rfl rfl rfl (by simp) (by simp) (fun k hk hlt => alloc_old4 w.drew.drew _ k hlt) (fun i hi hl => Nat.ne_of_lt (hh.live i hi hl).1) hh.bag_new (hnone hh.ro) (hnone hh.bro) (.inr hh.size) ?_
      refine ⟨by simp [Nv.bump], by simp only [Nv.bump, if_true, List.length_replicate]; exact hge, by simpa [Nv.bump] using hcm, ?_⟩
      simp only [Nv.bump, if_true, Bool.false_eq_true, if_false]
      have hnew : (w.drew.drew.alloc (.cells cs el)).heap[w.heap.size]? = some (.cells cs el) := by
        exact heap_alloc_new w.drew.drew _
      refine ⟨cs, _, hnew, .inl rfl, by rw [hsz]; simp [Rd.junk], ?_⟩
      exact rows_junk _ (by simp [hsz]; exact hge) hall
    · simp only [Val, Nv.bump, ← hN, ← hh.n, if_true, Bool.false_eq_true, if_false]
      exact ⟨Nat.lt_succ_self _, hge, trivial⟩

theorem Hold.reset {cx : Cx} {e : Nv} {w : World} (h : Hold cx e M w) {i : Nat} {c : Chunk} (hc : c.ok e w i) (hl : c.live e i → (M.at_ i).live e i) (hm : c.mark = true → (M.at_ i).mark = true) : Hold cx e (M.set i c) w := by
  refine ⟨h.bm, h.n, h.size, h.os, h.tape, h.output, h.frame, h.ro, h.bro, h.m0, h.mnew, ?_, ?_, ?_, h.np, h.pin, ?_⟩
  · intro j hj
    rw [Mem.set_at]
    split
    · rename_i hji; subst hji; exact hc
    · exact h.ch j hj
  · intro j hj hlj
    rw [Mem.set_at] at hlj
    split at hlj
    · rename_i hji; subst hji; exact h.live j hj (hl hlj)
    · exact h.live j hj hlj
  · intro j k hj hk hlj hlk hjk
    have lv : ∀ j, ((M.set i c).at_ j).live e j → (M.at_ j).live e j := by
      intro j hj
      rw [Mem.set_at] at hj
      split at hj
      · rename_i hji; subst hji; exact hl hj
      · exact hj
    exact h.dist j k hj hk (lv j hlj) (lv k hlk) hjk
  · have mk : ∀ j, ((M.set i c).at_ j).mark = true → (M.at_ j).mark = true := by
      intro j hj
      rw [Mem.set_at] at hj
      split at hj
      · rename_i hji; subst hji; exact hm hj
      · exact hj
    have lv : ∀ j, ((M.set i c).at_ j).live e j → (M.at_ j).live e j := by
      intro j hj
      rw [Mem.set_at] at hj
      split at hj
      · rename_i hji; subst hji; exact hl hj
      · exact hj
    exact ⟨fun j hj hm => h.bag.nodup j hj (mk j hm), fun j hj hm x hx => h.bag.at_ j hj (mk j hm) x hx, fun j hj hm x hx k hk hlk => h.bag.own j hj (mk j hm) x hx k hk (lv k hlk), fun j k hj hk hmj hmk' hjk x hx => h.bag.dist j k hj hk (mk j hmj) (mk k hmk') hjk x hx⟩

/-- A further block that nobody looks at. -/
theorem Hold.extra {cx : Cx} {e : Nv} {w : World} (h : Hold cx e M w) (o : Obj) : Hold cx e M (w.alloc o) := by
  have hold : ∀ {k : Nat} {x : Obj}, w.heap[k]? = some x → (w.alloc o).heap[k]? = some x := fun {k x} hk => by
    rw [alloc_old4 w o k (Array.getElem?_eq_some_iff.1 hk).1]; exact hk
  refine ⟨h.bm, h.n, Nat.le_trans h.size (by simp), h.os, h.tape, h.output, fun b hb hF => ?_, fun b x hx => hold (h.ro b x hx), fun b x hx => hold (h.bro b x hx), h.m0, h.mnew, fun i hi => ?_, fun i hi hl => ?_, h.dist, h.np, h.pin, ⟨h.bag.nodup, fun i hi hm b hb => ?_, h.bag.own, h.bag.dist⟩⟩
  · rw [alloc_old4 w o b (Nat.lt_of_lt_of_le hb h.size)]; exact h.frame b hb hF
  · exact Chunk.ok_congr (h.ch i hi) fun hl => alloc_old4 w o _ (h.live i hi hl).1
  · obtain ⟨h1, h2⟩ := h.live i hi hl
    exact ⟨Nat.lt_of_lt_of_le h1 (by simp), h2⟩
  · obtain ⟨h1, h2⟩ := h.bag.at_ i hi hm b hb
    exact ⟨hold h1, h2⟩

/-- A row is overwritten, all of it. -/
theorem d_copyAll {α β : Type} {R0 : Rd β} {R : Rd α} {l0 : List β} {xs : List α} {t tx el ct : TypeId} {n i : Nat} {s x : Operand} (h : SlIs P t el n) (hn : R.sz = n) (hn0 : R0.sz = n) (hs : E.ev s = .whole i) (hc : M.at_ i = .row ct R0 l0) (hx : SrcOf P E M x tx R xs)
    (hlim : decide (l0.length = xs.length) = true) :
    Does P (.call { callee := .builtin .copy, args := #[s, x], argTypes := #[t, tx] }) ty E M [i] (.lit (.int .i64 (xs.length : Int))) (M.set i (.row ct R xs)) :=
  fun cx nt a w e hh he => by
    subst hn
    have hl0 := of_decide_eq_true hlim
    have hv := he.ev s; rw [hs] at hv; simp only [Val] at hv
    have hk := hh.ch i hv.1
    rw [hc] at hk
    obtain ⟨g1, g2, g3, g4⟩ := hk
    obtain ⟨news, hsrc, hnews⟩ := hx cx nt a w e hh he
    have hnl : news.length = xs.length * R.sz := hsrc.newsLen
    have hv3 := hv.2.2
    have hrun0 : ∀ (r : Value) (w' : World), (Builtin.copy_ #[t, tx] ty #[a.eval s, a.eval x]).run P w = .ok r w' → (exec1 a.eval (.call { callee := .builtin .copy, args := #[s, x], argTypes := #[t, tx] }) ty).run P w = .ok (.value r) w' := by
      intro r w' hr
      simp [exec1, execOp, resolve, invoke, builtin, hr]
    cases hvir : e.vir i with
    | true =>
      rw [hvir] at hv3 g4
      simp only [if_true] at hv3 g4
      subst g4
      have hxs : xs = [] := by simpa using hl0.symm
      subst hxs
      refine ⟨.int .i64 0, w, e, hrun0 _ _ ?_, ?_, ⟨Nv.le.refl e, fun _ => Ro.le.refl _⟩, by simp [Val], fun _ _ _ => rfl, Nat.le_refl _⟩
      · have hcl := hsrc.cells
        simp at hcl
        rw [hv3.1]
        simp [Builtin.copy_, run_underlying h.t, hsrc.len, h.e.run, hcl, goInt]
      · refine hh.reset ⟨g1, g2, g3, by rw [hvir]; rfl⟩ (fun hl => ?_) (fun h => by cases h)
        rw [hc]; exact hl
    | false =>
      rw [hvir] at hv3 g4
      simp only [Bool.false_eq_true, if_false] at hv3 g4
      rw [g1] at hv3
      obtain ⟨c, z, hb, hz, hcs, hrow⟩ := g4
      have hfit : 0 + 0 + news.length ≤ c.toList.length := by
        have h1 : c.toList.length = c.size := Array.length_toList
        rw [h1, hcs, hnl, hn0, ← hl0]
        simpa using Nat.mul_le_mul_right R.sz g2
      obtain ⟨w', hst, k1, k2, k3, k4, k5, k6⟩ := run_storeCells_row (P := P) news 0 0 c.toList w (by simpa using hb) (by simpa [thaw] using hz) hfit hsrc.one
      have hlive : (M.at_ i).live e i := by rw [hc]; exact hvir
      refine ⟨.int .i64 (xs.length : Int), w', e, hrun0 _ _ ?_, ?_, ⟨Nv.le.refl e, fun _ => Ro.le.refl _⟩, by simp [Val], fun b _ hne => k6 b (fun hbb => hne i (by simp) hv.1 hlive hbb.symm), by rw [k2]; exact Nat.le_refl _⟩
      · have hcl := hsrc.cells
        rw [hv3]
        simp [Builtin.copy_, run_underlying h.t, hsrc.len, h.e.run, hl0, hcl, goInt, hst]
      · refine hh.change hv.1 hlive k3 k4 k5 k2 k6 ⟨g1.trans hl0, by rw [← hl0]; exact g2, g3, ?_⟩
        rw [hvir]
        simp only [Bool.false_eq_true, if_false]
        refine ⟨_, _, k1, by simpa [thaw, setAt_length] using hz, by simp [setAt_length, hcs, hn0], ?_⟩
        rw [Nat.add_zero, setAt_list news c.toList 0 (by simpa using hfit)]
        refine rows_cut (cs := news) hnews ?_
        simp [hnl]
        exact List.take_of_length_le (by omega)

/-- *T as an unsafe.Pointer .. -/
theorem q_toUnsafe {src dst t ct : TypeId} {x : Operand} {i : Nat} {l : List AVal} (hs : P.underlying src = some (.pointer t)) (hd : P.underlying dst = some .unsafePointer) (ht : ∃ j, P.info? t = some j ∧ (j.size == 0) = false) (hx : E.ev x = .ptr i 0) (hc : M.at_ i = .cells ct l) (hl : Nat.blt 0 l.length = true) :
    Quiet P (.convert src dst x) ty E M [i] (.ptr i 0) :=
  fun cx nt a w e hh he => by
    have hp := he.ev x; rw [hx] at hp
    have hp0 := hp
    simp only [Val] at hp
    have hk := hh.ch i hp.1
    rw [hc] at hk
    obtain ⟨hvir, vs, hb, hvs, ho⟩ := hk
    obtain ⟨j, hj1, hj2⟩ := ht
    refine ⟨a.eval x, hp0, fun w1 hw => ?_⟩
    have hb1 := (hw.own i (by simp) hvir).trans hb
    have hsh : w1.shape? (⟨e.own i, 0, none⟩ : Addr).block = some (ct, vs.length) := by simp [World.shape?, hb1]
    have hlen : 0 < vs.length := by rw [hvs.length]; simpa using hl
    have := Lib.run_to_unsafe (P := P) w1 ⟨e.own i, 0, none⟩ hs hd hj1 (by simpa using hj2) hsh hlen
    rw [hp.2.2]
    simp [exec1, execOp, hp.2.2, this]

/-- .. and back. -/
theorem q_fromUnsafe {src dst u ct : TypeId} {x : Operand} {i : Nat} {l : List AVal} (hs : P.underlying src = some .unsafePointer) (hd : P.underlying dst = some (.pointer u)) (hu : ∃ j, P.info? u = some j) (hx : E.ev x = .ptr i 0) (hc : M.at_ i = .cells ct l) (hlies : liesAt P P.depth ct (l.length / P.cellsOf ct) 0 u 1 = true) :
    Quiet P (.convert src dst x) ty E M [i] (.ptr i 0) :=
  fun cx nt a w e hh he => by
    have hp := he.ev x; rw [hx] at hp
    have hp0 := hp
    simp only [Val] at hp
    have hk := hh.ch i hp.1
    rw [hc] at hk
    obtain ⟨hvir, vs, hb, hvs, ho⟩ := hk
    obtain ⟨j, hj1⟩ := hu
    refine ⟨a.eval x, hp0, fun w1 hw => ?_⟩
    have hb1 := (hw.own i (by simp) hvir).trans hb
    have hsh : w1.shape? (⟨e.own i, 0, none⟩ : Addr).block = some (ct, vs.length) := by simp [World.shape?, hb1]
    have := Lib.run_from_unsafe (P := P) w1 ⟨e.own i, 0, none⟩ hs hd hj1 hsh (by rw [hvs.length]; exact hlies)
    rw [hp.2.2]
    simp [exec1, execOp, hp.2.2, this]

/-- A pointer of our own and itself. -/
theorem q_neqpSelf {t te yt : TypeId} {x y : Operand} {i o : Nat} (ht : P.underlying t = some (.pointer te)) (hte : ∃ j, P.info? te = some j) (hx : E.ev x = .ptr i o) (hy : E.ev y = .ptr i o) : Quiet P (.binOp .neq t x y yt) ty E M [] (.lit (.bool false)) :=
  fun cx nt a w e hh he => by
    have hp := he.ev x; rw [hx] at hp; simp only [Val] at hp
    have hq := he.ev y; rw [hy] at hq; simp only [Val] at hq
    obtain ⟨j, hj⟩ := hte
    refine ⟨.bool false, by simp [Val], fun w1 hw => ?_⟩
    have := Lib.run_neq_ptr_same (P := P) w1 (⟨e.own i, o, none⟩ : Addr) ht hj
    simp only [exec1, execOp, hp.2.2, hq.2.2, g_ptr, Sem.run_bind, Sem.run_pure, Result.andThen, this]

/-- Some pointer. -/
def Rd.anyPtr : Rd Unit where
  sz := 1
  ok _ _ cs := ∃ p, cs = [.pointer p]
  mono _ h := h
  len := by rintro m d cs ⟨v, rfl⟩; rfl
  one := by rintro m d cs ⟨v, rfl⟩ u hu; simp at hu; subst hu; rfl

/-- The address of a row's first byte .. -/
theorem q_sliceData {α : Type} {R : Rd α} {t ct : TypeId} {x : Operand} {i : Nat} {l : List α} (hx : E.ev x = .whole i) (hc : M.at_ i = .row ct R l) (h : decide (l.length = 0) = false) :
    Quiet P (.call { callee := .builtin .unsafeSliceData, args := #[x], argTypes := #[t] }) ty E M [] (.ptr i 0) :=
  fun cx nt a w e hh he => by
    have hl : l.length ≠ 0 := of_decide_eq_false h
    have hv := he.ev x; rw [hx] at hv; simp only [Val] at hv
    have hk := hh.ch i hv.1
    rw [hc] at hk
    obtain ⟨g1, g2, g3, g4⟩ := hk
    have hv3 := hv.2.2
    have hvir : e.vir i = false := by
      cases hvir : e.vir i with
      | false => rfl
      | true => rw [hvir] at g4; simp only [if_true] at g4; subst g4; exact absurd rfl hl
    rw [hvir] at hv3
    simp only [Bool.false_eq_true, if_false] at hv3
    refine ⟨.pointer (some ⟨e.own i, 0, none⟩), by simp only [Val]; exact ⟨hv.1, hvir, trivial⟩, fun w1 hw => ?_⟩
    have := Lib.run_unsafeSliceData_row (P := P) w1 #[t] ty ⟨e.own i, 0, none⟩ (e.lens i) (e.caps i) (by omega)
    simp [exec1, execOp, resolve, invoke, builtin, hv3, this]

/-- .. some address, where there is none .. -/
theorem d_sliceData0 {α : Type} {R : Rd α} {t ct te : TypeId} {x : Operand} {i : Nat} {l : List α} (ht : P.underlying ty = some (.pointer te)) (hx : E.ev x = .whole i) (hc : M.at_ i = .row ct R l) (h : decide (l.length = 0) = true) :
    Does P (.call { callee := .builtin .unsafeSliceData, args := #[x], argTypes := #[t] }) ty E M [] (.ro Rd.anyPtr false ()) M :=
  fun cx nt a w e hh he => by
    have hl : l.length = 0 := of_decide_eq_true h
    have hv := he.ev x; rw [hx] at hv; simp only [Val] at hv
    have hk := hh.ch i hv.1
    rw [hc] at hk
    obtain ⟨g1, g2, g3, g4⟩ := hk
    have hv3 := hv.2.2
    have hrun0 : ∀ (r : Value) (w' : World), (Builtin.unsafeSliceData_ #[t] ty #[a.eval x]).run P w = .ok r w' → (exec1 a.eval (.call { callee := .builtin .unsafeSliceData, args := #[x], argTypes := #[t] }) ty).run P w = .ok (.value r) w' := by
      intro r w' hr
      simp [exec1, execOp, resolve, invoke, builtin, hr]
    cases hvir : e.vir i with
    | true =>
      rw [hvir] at hv3
      simp only [if_true] at hv3
      refine ⟨.pointer none, w, e, hrun0 _ _ ?_, hh, ⟨Nv.le.refl e, fun _ => Ro.le.refl _⟩, by simp only [Val, Rd.anyPtr]; exact ⟨none, rfl⟩, fun _ _ _ => rfl, Nat.le_refl _⟩
      rw [hv3.1]; exact Lib.run_unsafeSliceData_nil w _ _ _ _
    | false =>
      rw [hvir] at hv3 g4
      simp only [Bool.false_eq_true, if_false] at hv3 g4
      obtain ⟨c, z, hb, hz, hcs, hrow⟩ := g4
      by_cases hcap : e.caps i = 0
      · refine ⟨.pointer (some ⟨w.heap.size, 0, none⟩), w.alloc (.view ⟨e.own i, 0, none⟩ te), e, hrun0 _ _ ?_, hh.extra _, ⟨Nv.le.refl e, fun _ => Ro.le.refl _⟩, by simp only [Val, Rd.anyPtr]; exact ⟨_, rfl⟩, fun b hb' _ => alloc_old4 w _ b hb', by simp⟩
        rw [hv3, hcap]
        exact Lib.run_unsafeSliceData_zero w _ _ te ht _ _ (ct, c.size) (by simp [World.shape?, hb])
      · refine ⟨.pointer (some ⟨e.own i, 0, none⟩), w, e, hrun0 _ _ ?_, hh, ⟨Nv.le.refl e, fun _ => Ro.le.refl _⟩, by simp only [Val, Rd.anyPtr]; exact ⟨_, rfl⟩, fun _ _ _ => rfl, Nat.le_refl _⟩
        rw [hv3]; exact Lib.run_unsafeSliceData_row w _ _ _ _ _ hcap
theorem q_sliceDataNil {t : TypeId} {x : Operand} (hx : E.ev x = .lit (.slice none 0 0)) :
    Quiet P (.call { callee := .builtin .unsafeSliceData, args := #[x], argTypes := #[t] }) ty E M [] (.lit (.pointer none)) :=
  fun cx nt a w e hh he => ⟨.pointer none, by simp [Val], fun w1 hw => by
    have := Lib.run_unsafeSliceData_nil (P := P) w1 #[t] ty 0 0
    simp [exec1, execOp, resolve, invoke, builtin, ev_lit he hx, this]⟩

/-- .. and the string of so many bytes there. -/
theorem q_unsafeStr0 {t t' : TypeId} {x y : Operand} {n : Int} (hx : E.ev x = .ro Rd.anyPtr false ()) (hy : E.ev y = .lit (.int .i64 n)) (hn : n = 0) :
    Quiet P (.call { callee := .builtin .unsafeString, args := #[x, y], argTypes := #[t, t'] }) ty E M [] (.lit (.string ByteArray.empty)) :=
  fun cx nt a w e hh he => ⟨.string ByteArray.empty, by simp [Val], fun w1 hw => by
    have hv := he.ev x; rw [hx] at hv; simp only [Val, Rd.anyPtr] at hv
    obtain ⟨p, hp⟩ := hv
    simp at hp
    subst hn
    have := Lib.run_unsafeString_none (P := P) w1 t t' ty p
    simp [exec1, execOp, resolve, invoke, builtin, hp, ev_lit he hy, this]⟩
theorem q_unsafeStrNil {t t' : TypeId} {x y : Operand} {n : Int} (hx : E.ev x = .lit (.pointer none)) (hy : E.ev y = .lit (.int .i64 n)) (hn : n = 0) :
    Quiet P (.call { callee := .builtin .unsafeString, args := #[x, y], argTypes := #[t, t'] }) ty E M [] (.lit (.string ByteArray.empty)) :=
  fun cx nt a w e hh he => ⟨.string ByteArray.empty, by simp [Val], fun w1 hw => by
    subst hn
    have := Lib.run_unsafeString_none (P := P) w1 t t' ty none
    simp [exec1, execOp, resolve, invoke, builtin, ev_lit he hx, ev_lit he hy, this]⟩

theorem run_loadBytesI (w : World) : ∀ (l : List Int) (a : Addr) (acc : ByteArray), (∀ j x, l[j]? = some x → w.cell? (a.add j) = some (.int .u8 x)) →
    (loadBytes a acc l.length).run P w = .ok (l.foldl (fun r n => r.push (UInt8.ofNat n.toNat)) acc) w
  | [], a, acc, _ => by simp [loadBytes]
  | x :: l, a, acc, h => by
    have h0 : w.cell? a = some (.int .u8 x) := by
      have := h 0 x rfl
      simpa [Addr.add] using this
    have ih := run_loadBytesI w l (a.add 1) (acc.push x.toNat.toUInt8) (fun j y hy => by
      have := h (j + 1) y (by simpa using hy)
      have e : (a.add 1).add j = a.add (j + 1) := by
        unfold Addr.add
        by_cases hj : j = 0
        · subst hj; simp
        · simp [hj]; omega
      rw [e]; exact this)
    simp only [List.length_cons, loadBytes, Sem.run_bind, run_load, h0, Result.andThen, List.foldl_cons]
    exact ih

theorem d_unsafeStr {t t' te : TypeId} {x y : Operand} {n : Int} {i : Nat} {l : List Int} (ht : P.underlying t = some (.pointer te)) (hcs : P.cellsOf te = 1) (hx : E.ev x = .ptr i 0) (hy : E.ev y = .lit (.int .i64 n)) (hc : M.at_ i = .row te (Rd.int .u8) l) (h0 : decide (l.length = 0) = false) (hn : n = (l.length : Int)) :
    Does P (.call { callee := .builtin .unsafeString, args := #[x, y], argTypes := #[t, t'] }) ty E M [i] (.lit (.string (strOf l))) (M.set i .gone) :=
  fun cx nt a w e hh he => by
    subst hn
    have hl : l.length ≠ 0 := of_decide_eq_false h0
    have hp := he.ev x; rw [hx] at hp; simp only [Val] at hp
    have hk := hh.ch i hp.1
    rw [hc] at hk
    obtain ⟨g1, g2, g3, g4⟩ := hk
    rw [hp.2.1] at g4
    simp only [Bool.false_eq_true, if_false] at g4
    obtain ⟨c, z, hb, hz, hsz, hrow⟩ := g4
    have hlive : (M.at_ i).live e i := by rw [hc]; exact hp.2.1
    have hsh : w.shape? (e.own i) = some (te, c.size) := by simp [World.shape?, hb]
    have hcsz : l.length ≤ c.size := by rw [hsz]; simpa [Rd.int, Rd.sc] using g2
    have hcell : ∀ j x, l[j]? = some x → w.cell? ((⟨e.own i, 0, none⟩ : Addr).add j) = some (.int .u8 x) := by
      intro j x hj
      have hg := rows_get hrow hj
      rw [add_at, Nat.zero_add, cell_of hb]
      simp only [Rd.int, Rd.sc, Nat.mul_one] at hg
      have := congrArg (·[0]?) hg
      simpa [List.getElem?_take, List.getElem?_drop] using this
    have hlb := run_loadBytesI (P := P) w l ⟨e.own i, 0, none⟩ .empty hcell
    have hlies := Lib.liesAt_bytes (P := P) hcs (c.size / P.cellsOf te) l.length (by rw [hcs]; simpa using hcsz)
    have hmax : IntKind.i64.max = 9223372036854775807 := rfl
    have h63' : ¬ (9223372036854775807 : Int) < (l.length : Int) := by simp only [maxLen] at g3; omega
    have hneg : ¬ (l.length : Int) < 0 := by omega
    have hdef : Builtin.unsafeString_ #[t, t'] ty #[.pointer (some ⟨e.own i, 0, none⟩), .int .i64 l.length] =
      (do
        let n ← asInt (.int .i64 l.length)
        if n < 0 then runtimePanic (.error "unsafe.String: len out of range")
        if n > IntKind.i64.max then unsupported (.unsafePointer "String: a length above the largest int")
        if n = 0 then pure (.string .empty)
        else if ← variablesAt ⟨e.own i, 0, none⟩ (← elemOf t) n.toNat then do
          let s ← loadBytes ⟨e.own i, 0, none⟩ .empty n.toNat
          freeze ⟨e.own i, 0, none⟩ n.toNat
          pure (.string s)
        else unsupported (.unsafePointer "String: not so many bytes at ptr")) := rfl
    have hrun : (Builtin.unsafeString_ #[t, t'] ty #[.pointer (some ⟨e.own i, 0, none⟩), .int .i64 l.length]).run P w = .ok (.string (strOf l)) (w.freeze ⟨e.own i, 0, none⟩ l.length) := by
      rw [hdef]
      simp [asInt, asIntOf, hmax, h63', hneg, hl, variablesAt, hsh, elemOf, run_underlying ht, hlies, hlb, strOf]
    have hfsame : ∀ k, k ≠ e.own i → (w.freeze ⟨e.own i, 0, none⟩ l.length).heap[k]? = w.heap[k]? := by
      intro k hk
      unfold World.freeze
      rw [if_neg hl]
      simp only [Array.getElem?_modify]
      rw [if_neg (Ne.symm hk)]
    have hfsz : (w.freeze ⟨e.own i, 0, none⟩ l.length).heap.size = w.heap.size := by
      unfold World.freeze
      rw [if_neg hl]
      simp
    refine ⟨.string (strOf l), w.freeze ⟨e.own i, 0, none⟩ l.length, e, ?_, ?_, ⟨Nv.le.refl e, fun _ => Ro.le.refl _⟩, by simp [Val], fun b _ hne => hfsame b (fun hbb => hne i (by simp) hp.1 hlive hbb.symm), by rw [hfsz]; exact Nat.le_refl _⟩
    · simp [exec1, execOp, resolve, invoke, builtin, hp.2.2, ev_lit he hy, hrun]
    · have := hh.change hp.1 hlive (c := .gone) (w' := w.freeze ⟨e.own i, 0, none⟩ l.length) (by unfold World.freeze; split <;> rfl) (by unfold World.freeze; split <;> rfl) (by unfold World.freeze; split <;> rfl) hfsz hfsame trivial
      exact this

/-- A table among the program's variables: an element of it. -/
theorem q_indexTab {α : Type} {A : Rd α} {d0 : α} {l : List α} {vs : List Value} {t el : TypeId} {n sz g : Nat} {y : Operand} {k : IntKind} {j : Int} (h : ArIs P t el n sz) (hn : A.sz = sz) (hg : tabs g = some vs) (hR : ∀ m : Ro, (Rd.array n A d0).ok m l vs) (hy : E.ev y = .lit (.int k j)) (hj : decide (0 ≤ j ∧ j < n) = true) :
    Quiet P (.indexAddr t (.global g) y) ty E M [] (.ro (Rd.ptr A) false (l.getD j.toNat d0)) :=
  fun cx _ a w e hh he => by
    subst hn
    obtain ⟨c, tt, fr, hm0, htk⟩ := cx.tb g vs hg
    have h2 := hh.m0 _ _ hm0
    obtain ⟨h3, h4⟩ := hR e.m
    obtain ⟨h0, h5⟩ := of_decide_eq_true hj
    have hjn : j.toNat < n := by omega
    refine ⟨.pointer (some ⟨g, 0 + j.toNat * A.sz, Option.none⟩), ?_, fun w1 hw => ?_⟩
    · simp only [Val, Rd.ptr]
      refine ⟨g, 0 + j.toNat * A.sz, c, tt, fr, rfl, by rw [Nv.mem_false]; exact h2, ?_⟩
      have := h4 j.toNat hjn
      rw [← htk, h3] at this
      rw [List.drop_take, List.take_take, Nat.min_eq_left] at this
      · rw [Nv.mem_false, Nat.zero_add]; exact this
      · have h6 : (j.toNat + 1) * A.sz ≤ n * A.sz := Nat.mul_le_mul_right _ hjn
        rw [Nat.add_mul] at h6; omega
    · have := run_indexAt_ar h g 0 k j h0 h5 w1
      have hg' : a.eval (.global g) = .pointer (some ⟨g, 0, Option.none⟩) := rfl
      simp [exec1, execOp, hg', ev_lit he hy, this]
end
end Go.Q
