/- BitsWrites. -/
import Derived.Test.YticbhcccdfcogaaGe
namespace Go.Proofs.Yticbhcccdfcogaa.W
open Go Go.Q Go.Proofs
set_option linter.unusedVariables false
set_option linter.unusedSimpArgs false

def cost (o : S34Op) : Nat := 40 + 8 * o.fB.length
def costs : List S34Op → Nat
  | [] => 0
  | o :: l => cost o + costs l
theorem costs_drop (l : List S34Op) {i : Nat} (h : i < l.length) : costs (l.drop i) = cost l[i] + costs (l.drop (i + 1)) := by
  rw [List.drop_eq_getElem_cons h]; rfl

theorem f5_l0_eq {k : Nat} (hk : 1000000001 ≤ k) (l : List S34Op) (hl : l.length ≤ 1048576) (hok : ∀ o ∈ l, okOp o ∧ okB o.fB ∧ o.fB.length ≤ 1048576) : ∀ (m i : Nat) (n : Int) (b : List Int) (B : List Bool), Wr n b B → i ≤ l.length → l.length - i < m → B.length + costs (l.drop i) ≤ 1000000000 →
    ∃ r, f5_l0 k l m (i : Int) n b (B.map ib) = some (Sum.inr r) := by
  intro m
  induction m with
  | zero => intro i n b B _ _ h; omega
  | succ m ih =>
    intro i n b B hw hi hm hB
    rw [f5_l0.eq_2]
    by_cases h : i < l.length
    · rw [dt (show (i : Int) < ((l.length : Nat) : Int) by omega), ix_nat h]
      simp only [cond_true, Option.bind_some]
      rw [costs_drop l h] at hB
      unfold cost at hB
      obtain ⟨hop, hob, hol⟩ := hok _ (List.getElem_mem h)
      have hstep : ∀ (n' : Int) (b' : List Int) (B' : List Bool), Wr n' b' B' → B'.length + costs (l.drop (i + 1)) ≤ 1000000000 →
          ∃ r, (((f23 k n' b').bind fun _ => ((some (!decide (n' = ((List.length (B'.map ib) : Nat) : Int)))).bind fun x => (bif x then some true else ((f15 k n' b').bind fun y => ((f25 k (B'.map ib)).bind fun z => ((f24 k y z).bind fun u => some (!u))))))).bind fun x => (bif x then some (Sum.inl ()) else (f5_l0 k l m (IntKind.wrap .i64 ((i : Int) + 1)) n' b' (B'.map ib)))) = some (Sum.inr r) := by
        intro n' b' B' hw' hB'
        have hl' := hw'.l
        have hn' := hw'.n
        simp only [f23, Option.bind_some, List.length_map, ← hn', decide_true, Bool.not_true, cond_false, f15, f34]
        rw [dt (show (List.length ([] : List Int) + List.length b') * 1 ≤ 140737488355328 by simp; omega)]
        simp only [cond_true, Option.bind_some]
        rw [f25_eq hw' (by omega) (by omega)]
        simp only [Option.bind_some, f24_refl, Bool.not_true, cond_false]
        rw [wi (by omega) (by omega)]
        exact ih (i + 1) n' b' B' hw' (by omega) (by omega) hB'
      by_cases k1 : l[i].fKind = 1
      · simp only [k1, decide_true, cond_true]
        by_cases hn : 0 ≤ l[i].fN ∧ l[i].fN ≤ 32
        · obtain ⟨v, hv⟩ := u32_bv hop
          obtain ⟨c, hc⟩ : ∃ c : Nat, l[i].fN = (c : Int) := ⟨l[i].fN.toNat, by omega⟩
          obtain ⟨n', b', h1, h2⟩ := f13_ok (k := k) (by omega) v c (by omega) hw (by omega)
          rw [hv, hc, h1, f18_ok (by omega) v c (by omega) (by omega)]
          simp only [Option.bind_some, decide_true, Bool.not_true, cond_false]
          exact hstep n' b' _ h2 (by simp [bitsOf_length]; omega)
        · rw [f13_bad k _ _ n b hn, f18_bad k _ _ _ hn]
          simp only [Option.bind_some, decide_true, Bool.not_true, cond_false]
          exact hstep n b B hw (by omega)
      · rw [df k1]
        have hl0 := hw.l
        have hp := hw.pad
        have hpl := pad_le B
        by_cases k2 : l[i].fKind = 2
        · simp only [k2, decide_true, cond_true, cond_false, f19, Option.bind_some]
          rw [f20_eq (by omega) (by omega), wi (by omega) (by omega)]
          simp only [Option.bind_some]
          exact hstep ((8 * b.length : Nat) : Int) b _ hp (by omega)
        · rw [df k2]
          by_cases k3 : l[i].fKind = 3
          · simp only [k3, decide_true, cond_true, cond_false, f21, f22]
            rw [dt (show (List.length b + List.length l[i].fB) * 1 ≤ 140737488355328 by omega), f20_eq (by omega) (by omega)]
            simp only [cond_true, Option.bind_some]
            rw [wi (by simp; omega) (by simp; omega), show f22_l0 k l[i].fB k 0 ((pad B).map ib) = _ from f22_l0_eq (by omega) l[i].fB hol k 0 (pad B) (by omega) (by omega) (by omega)]
            simp only [Option.bind_some]
            exact hstep ((8 * (b ++ l[i].fB).length : Nat) : Int) (b ++ l[i].fB) _ (hp.bytes hob) (by simp [bob_length]; omega)
          · rw [df k3]
            simp only [cond_false, Option.bind_some]
            exact hstep n b B hw (by omega)
    · rw [df (show ¬ (i : Int) < ((l.length : Nat) : Int) by omega)]
      exact ⟨(), rfl⟩

theorem msum_one {α : Type} (l : List α) : msum (fun _ => 1) l = l.length := by
  induction l with
  | nil => rfl
  | cons x l ih => simp only [msum, ih, List.length_cons]; omega
theorem costs_le (l : List S34Op) : costs l ≤ 40 * msum (fun x : S34Op => (1) + ((1) + ((1) + ((msum (fun y => 1) x.fB + 1) + (0)))) + 1) l ∧ l.length ≤ msum (fun x : S34Op => (1) + ((1) + ((1) + ((msum (fun y => 1) x.fB + 1) + (0)))) + 1) l ∧
    ∀ o ∈ l, o.fB.length ≤ msum (fun x : S34Op => (1) + ((1) + ((1) + ((msum (fun y => 1) x.fB + 1) + (0)))) + 1) l := by
  induction l with
  | nil => simp [costs]
  | cons x l ih =>
    obtain ⟨h1, h2, h3⟩ := ih
    simp only [costs, cost, msum, msum_one, List.length_cons] at *
    refine ⟨by omega, by omega, fun o ho => ?_⟩
    rcases List.mem_cons.1 ho with rfl | ho
    · omega
    · have := h3 o ho; omega

theorem bitsWrites (l : List S34Op) (h : l.length ≤ maxLen ∧ ∀ x ∈ l, ((Lit.int .i64 x.fKind).wf = true) ∧ ((Lit.int .i64 x.fN).wf = true) ∧ ((Lit.int .u32 x.fV).wf = true) ∧ (x.fB.length ≤ maxLen ∧ ∀ y ∈ x.fB, (Lit.int .u8 y).wf = true) ∧ True)
    (hm : msum (fun x : S34Op => (1) + ((1) + ((1) + ((msum (fun y => 1) x.fB + 1) + (0)))) + 1) l + 1 ≤ 1048576) : ∃ k, f5 k l = some true := by
  obtain ⟨c1, c2, c3⟩ := costs_le l
  refine ⟨1000000001, ?_⟩
  obtain ⟨r, h1⟩ := f5_l0_eq (Nat.le_refl _) l (by omega) (fun o ho => ⟨(h.2 o ho).2.2.1, fun y hy => by
    obtain ⟨v, rfl⟩ := u8_bv ((h.2 o ho).2.2.2.1.2 y hy)
    exact ok_toNat v, by have := c3 o ho; omega⟩) 1000000001 0 0 [] [] Wr.nil (by omega) (by omega) (by simp; omega)
  unfold f5
  simp only [f12, alive (show 64 ≤ 1000000001 by omega), Option.bind_some, Bool.not_true, cond_false]
  rw [show f5_l0 1000000001 l 1000000001 0 0 [] [] = _ from h1]
  rfl
end Go.Proofs.Yticbhcccdfcogaa.W
