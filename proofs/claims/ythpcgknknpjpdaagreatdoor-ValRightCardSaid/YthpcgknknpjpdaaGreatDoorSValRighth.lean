/- Texts joined: part 8 of what LValRight stands on. -/
import Derived.Test.YthpcgknknpjpdaaGreatDoorSValRightg
import Derived.Test.YthpcgknknpjpdaaGreatDoorRows
import Derived.Lib.LaidTab
import Derived.MakeChecks
import Derived.ChangeSame
namespace Go.Proofs.YthpcgknknpjpdaaGreatDoor.W
open Go Go.Q Go.Proofs
set_option linter.unusedVariables false
set_option linter.unusedSimpArgs false
set_option maxRecDepth 100000
theorem var_heap {P : Program} {w : World} {n : String} {g : Nat} {cs : Array Value} (hg : P.globalNamed n = some g) (h : w.var? P n = some cs) : ∃ t z, w.heap[g]? = some (.cells cs t z) := by
  simp only [World.var?, hg, Option.bind_some] at h
  split at h
  · rename_i c t z hx
    simp only [Option.some.injEq] at h
    subst h
    exact ⟨_, _, hx⟩
  · cases h
/-- An array of structs of two whole numbers. -/
theorem cells_of_tab2 {H : Type} {enc : TypeId × Value → H} {P : Program} {w : World} {base : Nat} {sp : Nat → Bool} {held : Bool} {fuel : Nat} {t e : TypeId} {f0 f1 : Field} {n : Nat} {k0 k1 : IntKind} {cs : List Value} {zs : List (Int × Int)} {p : List MemPlace}
    (ht : P.underlying t = some (.array n e)) (he : P.underlying e = some (.struct #[f0, f1])) (h0 : P.underlying f0.type = some (.int k0)) (h1 : P.underlying f1.type = some (.int k1)) (o0 : f0.offset = 0) (o1 : f1.offset = 1) (c0 : P.cellsOf f0.type = 1) (c1 : P.cellsOf f1.type = 1) (hce : P.cellsOf e = 2) (hct : P.cellsOf t = n * 2)
    (h : DataW.trod enc P w base sp held fuel t cs = some (.agg (zs.map fun z => .agg [.lit (.int k0 z.1), .lit (.int k1 z.2)]), p)) : cs = zs.flatMap fun z => [Value.int k0 z.1, Value.int k1 z.2] := by
  cases fuel with
  | zero => simp [DataW.trod] at h
  | succ fuel =>
    simp only [DataW.trod, ht, hce, hct] at h
    split at h
    · rename_i hl
      obtain ⟨xs, hm, hx⟩ := Option.map_eq_some_iff.1 h
      have hxs : xs.map (·.1) = zs.map fun z => (DataW.agg [.lit (.int k0 z.1), .lit (.int k1 z.2)] : DataW H) := by
        have := congrArg Prod.fst hx
        simpa using this
      have hxl : xs.length = n := by simpa using Lib.mapM_length hm
      have hzl : zs.length = n := by
        have := congrArg List.length hxs
        simp at this
        omega
      have key : ∀ i, i < n → ∃ z, zs[i]? = some z ∧ (cs.drop (i * 2)).take 2 = [Value.int k0 z.1, Value.int k1 z.2] := by
        intro i hi
        obtain ⟨b, hb, hf⟩ := Lib.mapM_at hm i i (by simp [hi])
        obtain ⟨y0, y1, m, rfl, hlen, g0, g1⟩ := Go.ChangeShapes.trod_struct2 he hf
        rw [o0, c0] at g0
        rw [o1, c1] at g1
        obtain ⟨z0, hc0, e0, _⟩ := DataW.trod_int h0 g0
        obtain ⟨z1, hc1, e1, _⟩ := DataW.trod_int h1 g1
        subst e0 e1
        have h2 : (xs.map (·.1))[i]? = some (DataW.agg [.lit (.int k0 z0), .lit (.int k1 z1)] : DataW H) := by simp [hb]
        rw [hxs, List.getElem?_map, Option.map_eq_some_iff] at h2
        obtain ⟨z, hz, he2⟩ := h2
        simp at he2
        refine ⟨z, hz, ?_⟩
        rw [he2.1, he2.2]
        rw [hce] at hlen
        generalize (cs.drop (i * 2)).take 2 = u at *
        match u, hlen with
        | [a, b], _ =>
          simp at hc0 hc1
          rw [hc0, hc1]
      have all : ∀ (m : Nat) (zs : List (Int × Int)) (cs : List Value), zs.length = m → cs.length = m * 2 → (∀ i, i < m → ∃ z, zs[i]? = some z ∧ (cs.drop (i * 2)).take 2 = [Value.int k0 z.1, Value.int k1 z.2]) → cs = zs.flatMap fun z => [Value.int k0 z.1, Value.int k1 z.2] := by
        intro m
        induction m with
        | zero =>
          intro zs cs hz hc _
          have : zs = [] := List.eq_nil_of_length_eq_zero hz
          subst this
          simpa using List.eq_nil_of_length_eq_zero hc
        | succ m ih =>
          intro zs cs hz hc hk
          match zs, hz with
          | z :: zs, hz =>
            obtain ⟨z', hz', hk0⟩ := hk 0 (by omega)
            simp at hz' hk0
            subst hz'
            match cs, hc with
            | a :: b :: cs, hc =>
              simp at hk0
              rw [hk0.1, hk0.2, List.flatMap_cons, ← ih zs cs (by simpa using hz) (by simp at hc; omega) fun i hi => ?_]
              · rfl
              · obtain ⟨y, hy1, hy2⟩ := hk (i + 1) (by omega)
                refine ⟨y, by simpa using hy1, ?_⟩
                rw [show (i + 1) * 2 = i * 2 + 1 + 1 by omega] at hy2
                simpa using hy2
            | [], hc => simp at hc
            | [a], hc => simp at hc; omega
      exact all n zs cs hzl hl key
    · cases h
theorem gAcc : Tryz.prog.globalNamed "unicode/utf8.acceptRanges" = some 1 := by kernel_rfl
theorem gFirst : Tryz.prog.globalNamed "unicode/utf8.first" = some 0 := by kernel_rfl
theorem tAcc : (Tryz.prog.globals[1]?).map (·.type) = some 136 := by kernel_rfl
theorem tFirst : (Tryz.prog.globals[0]?).map (·.type) = some 133 := by kernel_rfl
theorem htb {W : World} (h : laidMetH Tryz.prog [("unicode/utf8.acceptRanges", Rows.laid_unicode_utf8_acceptRanges), ("unicode/utf8.first", Rows.laid_unicode_utf8_first)] W) :
    ∀ g l, tabs g = some l → ∃ c t z, W.heap[g]? = some (.cells c t z) ∧ c.toList.take l.length = l := by
  rw [MakeChecks.laidMetH_plain _ _ _ (by kernel_rfl)] at h
  obtain ⟨ps, ⟨g0, t0, cs0, f0, p0, q0, hg0, ht0, hv0, hd0, ⟨g1, t1, cs1, f1, p1, q1, hg1, ht1, hv1, hd1, _, _⟩, _⟩, _, _⟩ := h
  obtain rfl := Option.some.inj (gAcc.symm.trans hg0)
  obtain rfl := Option.some.inj (gFirst.symm.trans hg1)
  obtain rfl := Option.some.inj (tAcc.symm.trans ht0)
  obtain rfl := Option.some.inj (tFirst.symm.trans ht1)
  have e0 : cs0.toList = vs1 := cells_of_tab2 (zs := tab1) Tryz.underlying136 Tryz.underlying135 Tryz.underlying5 Tryz.underlying5 rfl rfl (by kernel_rfl) (by kernel_rfl) (by kernel_rfl) (by kernel_rfl) hd0
  have hf : Rows.laid_unicode_utf8_first = Lib.tabData .u8 tab0 := by kernel_rfl
  rw [hf] at hd1
  have e1 : cs1.toList = tab0.map (Value.int .u8) := Lib.cells_of_tab Tryz.underlying133 Tryz.underlying5 (by kernel_rfl) (by kernel_rfl) hd1
  obtain ⟨ta, za, ha⟩ := var_heap gAcc hv0
  obtain ⟨tf, zf, hf⟩ := var_heap gFirst hv1
  intro g l hl
  unfold tabs at hl
  split at hl
  · rename_i hg; subst hg
    cases hl
    exact ⟨cs1, tf, zf, hf, by rw [e1, List.take_length]⟩
  · split at hl
    · rename_i hg; subst hg
      cases hl
      exact ⟨cs0, ta, za, ha, by rw [e0, List.take_length]⟩
    · cases hl
end Go.Proofs.YthpcgknknpjpdaaGreatDoor.W
