/- Texts joined: part 7 of what LValBack stands on. -/
import Derived.Test.YthpcgknknpjpdaaGreatDoorSValBackf
import Derived.Test.YthpcgknknpjpdaaGreatDoorRows
import Derived.Lib.LaidTab
import Derived.MakeChecks
import Derived.ChangeSame
namespace Go.Proofs.YthpcgknknpjpdaaGreatDoor.W
open Go Go.Q Go.Proofs Go.Dz
set_option linter.unusedVariables false
set_option linter.unusedSimpArgs false
def ref_pt (k : Nat) (x2105 : ByteArray) (x3880 : Int) (x3881 : List Int) : Option (Unit ⊕ (Int × Int × (List Int))) := ((((some (decide (x3880 < ((ByteArray.size x2105 : Nat) : Int)))).bind fun x3998 => (bif x3998 then ((ix (strInts x2105) x3880).bind fun x4000 => some (decide (x4000 = 46))) else some false)) : Option Bool).bind fun x3997 => (bif x3997 then ((g_r9_Parse_l1 k x2105 k (IntKind.wrap .i64 (x3880 + 1)) 0 x3881).bind fun (x4065, x4066, x4067) => ((some (decide (x4065 = (IntKind.wrap .i64 (x3880 + 1))))).bind fun x4098 => (bif x4098 then some (Sum.inl ()) else some (Sum.inr (x4065, x4066, x4067))))) else some (Sum.inr (x3880, 0, x3881))))
def ref_exp (k : Nat) (x2105 : ByteArray) (x3991 x3992 : Int) : Option (Unit ⊕ (Int × Int)) := ((((some (decide (x3991 < ((ByteArray.size x2105 : Nat) : Int)))).bind fun x4235 => (bif x4235 then ((ix (strInts x2105) x3991).bind fun x4237 => (bif (decide (x4237 = 101)) then some true else ((ix (strInts x2105) x3991).bind fun x4239 => some (decide (x4239 = 69))))) else some false)) : Option Bool).bind fun x4234 => (bif x4234 then ((((some (decide ((IntKind.wrap .i64 (x3991 + 1)) < ((ByteArray.size x2105 : Nat) : Int)))).bind fun x4246 => (bif x4246 then ((ix (strInts x2105) (IntKind.wrap .i64 (x3991 + 1))).bind fun x4248 => some (decide (x4248 = 45))) else some false)) : Option Bool).bind fun x4245 => ((((((some (decide ((IntKind.wrap .i64 (x3991 + 1)) < ((ByteArray.size x2105 : Nat) : Int)))).bind fun x4271 => (bif x4271 then ((ix (strInts x2105) (IntKind.wrap .i64 (x3991 + 1))).bind fun x4273 => (bif (decide (x4273 = 45)) then some true else ((ix (strInts x2105) (IntKind.wrap .i64 (x3991 + 1))).bind fun x4275 => some (decide (x4275 = 43))))) else some false)) : Option Bool).bind fun x4270 => (bif x4270 then ((some (IntKind.wrap .i64 ((IntKind.wrap .i64 (x3991 + 1)) + 1))).bind fun x4278 => some x4278) else some (IntKind.wrap .i64 (x3991 + 1)))) : Option Int).bind fun x4264 => (((g_r9_Parse_l2 k x2105 x4264 k x4264 0) : Option (Unit ⊕ (Int × Int))).bind fun y4378 => match y4378 with | (Sum.inl _) => some (Sum.inl ()) | (Sum.inr (x4344, x4345)) => (bif (decide (x4344 = x4264)) then some (Sum.inl ()) else (((bif x4245 then some (IntKind.wrap .i64 (0 - x4345)) else some x4345) : Option Int).bind fun x4382 => some (Sum.inr (x4344, (IntKind.wrap .i64 (x3992 + x4382))))))))) else some (Sum.inr (x3991, x3992))))
def ref_tail (k : Nat) (x2105 : ByteArray) (x3782 : Bool) (x3993 : List Int) (x4227 x4228 : Int) : Option (Int × Int × Int) := ((some (decide (x4227 < ((ByteArray.size x2105 : Nat) : Int)))).bind fun x4389 => (bif x4389 then some (40, 0, 0) else ((some (IntKind.wrap .i64 (((List.length x3993 : Nat) : Int) - 1))).bind fun x4391 => ((g_r9_Parse_l3 k x3993 k x4391 ([] : List Int)).bind fun x4424 => ((g_r9_trim k x3782 x4424).bind fun (x4437, x4438) => ((g_r9_Tell k x4437 x4438 x4228).bind fun (x4440, x4441, x4442) => some (x4440, x4441, x4442)))))))
theorem ref_Parse_is (k : Nat) (x2105 : ByteArray) : g_r9_Parse k x2105 = ((some (decide (255 < ((ByteArray.size x2105 : Nat) : Int)))).bind fun x3777 => (bif x3777 then some (40, 0, 0) else ((((some (decide (0 < ((ByteArray.size x2105 : Nat) : Int)))).bind fun x3783 => (bif x3783 then ((ix (strInts x2105) 0).bind fun x3785 => some (decide (x3785 = 45))) else some false)) : Option Bool).bind fun x3782 => (((bif x3782 then some 1 else some 0) : Option Int).bind fun x3788 => ((g_r9_Parse_l0 k x2105 k x3788 ([] : List Int)).bind fun (x3880, x3881) => (bif (decide (x3880 = x3788)) then some (40, 0, 0) else (((ref_pt k x2105 x3880 x3881) : Option (Unit ⊕ (Int × Int × (List Int)))).bind fun y4101 => match y4101 with | (Sum.inl _) => some (40, 0, 0) | (Sum.inr (x3991, x3992, x3993)) => (((ref_exp k x2105 x3991 x3992) : Option (Unit ⊕ (Int × Int))).bind fun y4386 => match y4386 with | (Sum.inl _) => some (40, 0, 0) | (Sum.inr (x4227, x4228)) => (ref_tail k x2105 x3782 x3993 x4227 x4228))))))))) := rfl
theorem u8_45 (b : UInt8) : (decide ((b.toNat : Int) = 45)) = decide (b = 45) := u8_eq b 45
theorem u8_46 (b : UInt8) : (decide ((b.toNat : Int) = 46)) = decide (b = 46) := u8_eq b 46
theorem u8_43 (b : UInt8) : (decide ((b.toNat : Int) = 43)) = decide (b = 43) := u8_eq b 43
theorem u8_101 (b : UInt8) : (decide ((b.toNat : Int) = 101)) = decide (b = 101) := u8_eq b 101
theorem u8_69 (b : UInt8) : (decide ((b.toNat : Int) = 69)) = decide (b = 69) := u8_eq b 69
theorem drop_add_tw (l : List UInt8) (i : Nat) : l.drop (i + (tw (l.drop i)).length) = dw (l.drop i) := by rw [← List.drop_drop, drop_tw]
theorem tw_drop_le (l : List UInt8) {i : Nat} (hi : i ≤ l.length) : i + (tw (l.drop i)).length ≤ l.length := by have := tw_le (l.drop i); rw [List.length_drop] at this; omega
theorem isEmpty_len {l : List UInt8} : l.isEmpty = decide (l.length = 0) := by cases l <;> rfl
theorem ref_pt_eq (k : Nat) {l : List UInt8} (hl : l.length ≤ 255) (hk : 300 ≤ k) {i : Nat} (hi : i ≤ l.length) {W : List UInt8} (hW : W.length ≤ i) :
    ∃ j : Nat, j ≤ l.length ∧ l.drop j = (PP true (l.drop i)).2.2 ∧ ref_pt k (B l) (i : Int) (dgs W) = some (if (PP true (l.drop i)).2.1 = true then Sum.inr ((j : Int), -((PP true (l.drop i)).1.length : Int), dgs (W ++ (PP true (l.drop i)).1)) else Sum.inl ()) := by
  unfold ref_pt
  simp only [B_size, B_ints, Option.bind_some]
  rcases drop_cases l i hi with ⟨e, e'⟩ | ⟨e, b, e1, e2⟩
  · rw [decide_eq_false (by omega), e']
    exact ⟨i, hi, e', by simp [PP, cut1]⟩
  · rw [decide_eq_true (by omega), cond_true, e2, e1]
    simp only [Option.bind_some, u8_46]
    unfold PP
    dsimp only
    rw [cut1]
    by_cases hb : b = 46
    · rw [if_pos hb, decide_eq_true hb]
      simp only [cond_true, if_true, Bool.true_and]
      have h1 := ref_l1 k l hl k (i + 1) 0 (dgs W) (by omega) (by omega) (by rw [dgs_len]; omega) (by omega) (by omega)
      rw [wi (by omega) (by omega), show (i : Int) + 1 = ((i + 1 : Nat) : Int) by omega, h1]
      simp only [Option.bind_some]
      refine ⟨i + 1 + (tw (l.drop (i + 1))).length, tw_drop_le l (by omega), drop_add_tw l (i + 1), ?_⟩
      rw [isEmpty_len, dgs_app]
      generalize tw (l.drop (i + 1)) = P
      by_cases h0 : P.length = 0
      · rw [decide_eq_true (by omega), decide_eq_true h0]; rfl
      · rw [decide_eq_false (by omega), decide_eq_false h0]
        simp
    · rw [if_neg hb, decide_eq_false hb]
      exact ⟨i, hi, e1, by simp⟩
theorem ref_exp_eq (k : Nat) {l : List UInt8} (hl : l.length ≤ 255) (hk : 300 ≤ k) {i : Nat} (hi : i ≤ l.length) {e0 : Int} (he : -300 ≤ e0 ∧ e0 ≤ 0) :
    ∃ j : Nat, j ≤ l.length ∧ ((PX (PE (l.drop i)).1 true (PE (l.drop i)).2).1 = true → l.drop j = (PX (PE (l.drop i)).1 true (PE (l.drop i)).2).2.1) ∧
      ref_exp k (B l) (i : Int) e0 = some (if (PX (PE (l.drop i)).1 true (PE (l.drop i)).2).1 = true then Sum.inr ((j : Int), e0 + (PX (PE (l.drop i)).1 true (PE (l.drop i)).2).2.2) else Sum.inl ()) := by
  unfold ref_exp
  simp only [B_size, B_ints, Option.bind_some]
  rcases drop_cases l i hi with ⟨e, e'⟩ | ⟨e, b, e1, e2⟩
  · rw [decide_eq_false (by omega), e']
    exact ⟨i, hi, fun _ => e', by simp [PE, PX, cut1]⟩
  · rw [decide_eq_true (by omega), cond_true, e2, e1]
    simp only [Option.bind_some, u8_101, u8_69]
    have hPE : PE (b :: l.drop (i + 1)) = if b = 101 ∨ b = 69 then (true, l.drop (i + 1)) else (false, b :: l.drop (i + 1)) := by
      unfold PE
      rw [cut1]
      by_cases h1 : b = 101
      · simp [h1]
      · by_cases h2 : b = 69
        · simp [h1, h2, cut1]
        · simp [h1, h2, cut1]
    have hgd : (bif decide (b = 101) then some true else some (decide (b = 69))) = some (decide (b = 101 ∨ b = 69)) := by
      by_cases h1 : b = 101 <;> by_cases h2 : b = 69 <;> simp [h1, h2]
    rw [hgd, hPE]
    simp only [Option.bind_some]
    by_cases hb : b = 101 ∨ b = 69
    · rw [if_pos hb, decide_eq_true hb, cond_true]
      rw [wi (n := (i : Int) + 1) (by omega) (by omega), show (i : Int) + 1 = ((i + 1 : Nat) : Int) by omega]
      obtain ⟨s, hs, hsd, hg1, hg2⟩ : ∃ s : Nat, s ≤ l.length ∧ l.drop s = (if (cut1 45 (l.drop (i + 1))).1 = true then (cut1 45 (l.drop (i + 1))).2 else (cut1 43 (cut1 45 (l.drop (i + 1))).2).2) ∧
          (bif decide (((i + 1 : Nat) : Int) < ((l.length : Nat) : Int)) then ((ix (I l) ((i + 1 : Nat) : Int)).bind fun x4248 => some (decide (x4248 = 45))) else some false) = some (cut1 45 (l.drop (i + 1))).1 ∧
          ((bif decide (((i + 1 : Nat) : Int) < ((l.length : Nat) : Int)) then ((ix (I l) ((i + 1 : Nat) : Int)).bind fun x4273 => (bif (decide (x4273 = 45)) then some true else ((ix (I l) ((i + 1 : Nat) : Int)).bind fun x4275 => some (decide (x4275 = 43))))) else some false).bind fun x4270 => (bif x4270 then some (IntKind.wrap .i64 (((i + 1 : Nat) : Int) + 1)) else some ((i + 1 : Nat) : Int))) = some (s : Int) := by
        rcases drop_cases l (i + 1) (by omega) with ⟨f, f'⟩ | ⟨f, c, f1, f2⟩
        · rw [decide_eq_false (by omega), f']
          exact ⟨i + 1, by omega, by rw [f']; simp [cut1], rfl, rfl⟩
        · rw [decide_eq_true (by omega), f2, f1]
          simp only [cond_true, Option.bind_some, u8_45, u8_43, cut1]
          rw [wi (by omega) (by omega)]
          by_cases h1 : c = 45
          · exact ⟨i + 1 + 1, by omega, by simp [h1], by simp [h1], by simp [h1]⟩
          · by_cases h2 : c = 43
            · exact ⟨i + 1 + 1, by omega, by simp [h1, h2], by simp [h1], by simp [h1, h2]⟩
            · exact ⟨i + 1, by omega, by simp [h1, h2, f1], by simp [h1], by simp [h1, h2]⟩
      rw [hg1]
      simp only [Option.bind_some] at hg2 ⊢
      rw [hg2]
      simp only [Option.bind_some]
      unfold PX
      dsimp only
      rw [if_pos rfl, ← hsd]
      dsimp only
      generalize (cut1 45 (l.drop (i + 1))).1 = mi
      have hl2 := ref_l2 k l hl s k s 0 hs (by omega) (by omega) (by omega) (by rw [Nat.sub_self]; decide)
      rw [show ((0 : Nat) : Int) = 0 from rfl] at hl2
      rw [hl2]
      refine ⟨s + (tw (l.drop s)).length, tw_drop_le l hs, fun _ => drop_add_tw l s, ?_⟩
      have hdd := tw_digs (l.drop s)
      generalize tw (l.drop s) = D at *
      rw [show dvf 0 D = dv D from rfl, Bool.true_and]
      by_cases h3 : D.length ≤ 3
      · have h9 := dv3 hdd h3
        rw [if_pos (show s + D.length ≤ s + 3 by omega), decide_eq_true h3]
        simp only [Option.bind_some, Bool.and_true]
        by_cases h1 : 1 ≤ D.length
        · rw [decide_eq_true h1, if_pos rfl, if_pos rfl, decide_eq_false (by omega)]
          cases mi
          · simp only [cond_false, Option.bind_some]
            rw [wi (by omega) (by omega)]
            rfl
          · simp only [cond_false, cond_true, Option.bind_some, if_true]
            rw [wi (n := 0 - ((dv D : Nat) : Int)) (by omega) (by omega), wi (by omega) (by omega), Int.zero_sub]
        · rw [decide_eq_false h1, decide_eq_true (by omega)]
          rfl
      · rw [if_neg (show ¬ s + D.length ≤ s + 3 by omega), decide_eq_false h3]
        simp
    · rw [if_neg hb, decide_eq_false hb]
      exact ⟨i, hi, fun _ => e1, by simp [PX]⟩
theorem dgs_dig {l : List UInt8} (h : Digs l) : Dig (dgs l) := fun d hd => by
  unfold dgs at hd
  rw [List.mem_map] at hd
  obtain ⟨b, hb, rfl⟩ := hd
  have := isd_le (h b hb)
  omega
theorem Dig.rev {l : List Int} (h : Dig l) : Dig l.reverse := fun d hd => h d (List.mem_reverse.1 hd)
theorem nval_rev : ∀ l : List UInt8, nval (dgs l).reverse = dv l
  | [] => rfl
  | b :: r => by
    have : (dgs (b :: r)).reverse = (dgs r).reverse ++ [((dg b : Nat) : Int)] := by simp [dgs]
    rw [this, nval_app, nval_rev r, dv_cons, List.length_reverse, dgs_len, Nat.mul_comm]
    have h1 : nval [((dg b : Nat) : Int)] = dg b := by simp [nval]
    rw [h1]
    omega
theorem ref_tail_eq (k : Nat) (hk : 30000 ≤ k) {l : List UInt8} (hl : l.length ≤ 255) {neg : Bool} {ds : List UInt8} (hd : Digs ds) (hn : ds.length ≤ 255) {j : Nat} (hj : j ≤ l.length) {e : Int} (he : -2000 ≤ e ∧ e ≤ 2000) :
    Says (ref_tail k (B l) neg (dgs ds) (j : Int) e) (if (l.drop j).isEmpty = true then some (neg, ds, e) else none) := by
  unfold ref_tail
  simp only [B_size, Option.bind_some]
  rcases drop_cases l j hj with ⟨f, f'⟩ | ⟨f, c, f1, f2⟩
  · rw [decide_eq_false (by omega), f', cond_false]
    have hr := rev_l3 k (d := dgs ds) (by rw [dgs_len]; omega) k ds.length [] (by rw [dgs_len]; exact Nat.le_refl _) (by omega) (by simp; omega)
    rw [dgs_len, wi (by omega) (by omega), hr]
    have hrd : Dig (dgs ds).reverse := Dig.rev (dgs_dig hd)
    simp only [Option.bind_some, List.nil_append, List.isEmpty_nil, if_true]
    rw [show (dgs ds).take ds.length = dgs ds from List.take_of_length_le (by rw [dgs_len]; exact Nat.le_refl _)]
    rw [trim k (by rw [List.length_reverse, dgs_len]; omega) hrd (by rw [List.length_reverse, dgs_len]; omega), nval_rev]
    simp only [Option.bind_some]
    have hlt := dv_lt hd
    have hx : (neg && decide (dv ds ≠ 0)) = decide (sgn neg (dv ds) < 0) := by
      rw [Bool.eq_iff_iff, Bool.and_eq_true, decide_eq_true_iff, decide_eq_true_iff]
      cases neg <;> simp [sgn] <;> omega
    have hT := Tell k (x := sgn neg (dv ds)) (e := e) (by
      show (digs _).length ≤ 9000
      rw [sgn_abs]
      exact Nat.le_trans (digs_len_le hlt) (by omega)) (by omega) (by omega) hk
    obtain ⟨er, c, y, h1, h2⟩ := hT
    rw [sgn_abs] at h1
    rw [hx, h1]
    exact ⟨er, c, y, rfl, h2⟩
  · rw [decide_eq_true (by omega), f1]
    exact rfl
theorem ref_Parse (k : Nat) (l : List UInt8) (hk : 30000 ≤ k) : Says (g_r9_Parse k (B l)) (PL l) := by
  rw [ref_Parse_is]
  simp only [B_size, B_ints, Option.bind_some]
  by_cases hl : l.length ≤ 255
  · rw [decide_eq_false (by omega), cond_false]
    obtain ⟨s, hs, hs1, hsd, hg⟩ : ∃ s : Nat, s ≤ l.length ∧ s ≤ 1 ∧ l.drop s = (cut1 45 l).2 ∧ ∀ {α : Type} (F : Bool → Int → Option α), ((bif decide ((0 : Int) < ((l.length : Nat) : Int)) then ((ix (I l) 0).bind fun x3785 => some (decide (x3785 = 45))) else some false).bind fun x3782 => ((bif x3782 then some 1 else some 0).bind fun x3788 => F x3782 x3788)) = F (cut1 45 l).1 (s : Int) := by
      cases l with
      | nil => exact ⟨0, by simp, by omega, by simp [cut1], fun F => by simp [cut1]⟩
      | cons b r =>
        have h0 : ix (I (b :: r)) 0 = some (b.toNat : Int) := rfl
        simp only [h0, Option.bind_some, u8_45]
        rw [decide_eq_true (by simp only [List.length_cons]; omega)]
        simp only [cond_true, Option.bind_some, cut1]
        by_cases hb : b = 45
        · exact ⟨1, by simp, by omega, by simp [hb], fun F => by simp [hb]⟩
        · exact ⟨0, by simp, by omega, by simp [hb], fun F => by simp [hb]⟩
    rw [hg fun x3782 x3788 => _]
    have h0 := ref_l0 k l hl k s [] hs (by omega) (by simp)
    rw [h0]
    simp only [Option.bind_some, List.nil_append]
    have hj1 := tw_drop_le l hs
    have hd1 := drop_add_tw l s
    unfold PL
    dsimp only
    rw [← hsd, decide_eq_true hl, Bool.true_and]
    have hWd := tw_digs (l.drop s)
    generalize tw (l.drop s) = W at *
    generalize (cut1 45 l).1 = neg at *
    by_cases hW : W.length = 0
    · have hn : (!W.isEmpty) = false := by rw [isEmpty_len, decide_eq_true hW]; rfl
      rw [decide_eq_true (by omega), cond_true, hn]
      have h1 : ∀ l2, (PP false l2).2.1 = false := fun l2 => by unfold PP; dsimp only; split <;> rfl
      have h2 : ∀ ex l5, (PX ex false l5).1 = false := fun ex l5 => by unfold PX; dsimp only; split <;> rfl
      rw [h1, h2]
      exact rfl
    · have hn : (!W.isEmpty) = true := by rw [isEmpty_len, decide_eq_false hW]; rfl
      rw [decide_eq_false (by omega), cond_false, hn]
      obtain ⟨j, hj, hjd, hp⟩ := ref_pt_eq k hl (by omega) hj1 (W := W) (by omega)
      rw [hd1] at hjd hp
      have hpl := PP_len true (dw (l.drop s))
      have hpd := PP_digs true (dw (l.drop s))
      have hwl := tw_len (l.drop s)
      have hdl : (dw (l.drop s)).length + W.length + s = l.length := by
        rw [← hd1, List.length_drop]; omega
      rw [hp]
      simp only [Option.bind_some]
      rw [← hjd]
      generalize (PP true (dw (l.drop s))).1 = P at *
      generalize (PP true (dw (l.drop s))).2.1 = ok2 at *
      cases ok2 with
      | false =>
        have h2 : ∀ ex l5, (PX ex false l5).1 = false := fun ex l5 => by unfold PX; dsimp only; split <;> rfl
        rw [h2]
        exact rfl
      | true =>
        rw [if_pos rfl]
        simp only
        obtain ⟨m, hm, hmd, hx⟩ := ref_exp_eq k hl (by omega) hj (e0 := -(P.length : Int)) (by omega)
        rw [hx]
        have hpx := PX_e (PE (l.drop j)).1 true (PE (l.drop j)).2
        generalize PX (PE (l.drop j)).1 true (PE (l.drop j)).2 = z at *
        simp only [Option.bind_some]
        by_cases hz : z.1 = true
        · rw [if_pos hz, hz, Bool.true_and, ← hmd hz]
          simp only
          have := ref_tail_eq k hk hl (neg := neg) (ds := W ++ P) (fun b hb => (List.mem_append.1 hb).elim (hWd b) (hpd b)) (by rw [List.length_append]; omega) hm (e := -(P.length : Int) + z.2.2) (by omega)
          rw [show z.2.2 - (P.length : Int) = -(P.length : Int) + z.2.2 by omega]
          exact this
        · rw [if_neg hz]
          rw [Bool.not_eq_true] at hz
          rw [hz]
          exact rfl
  · rw [decide_eq_true (by omega), cond_true]
    have : PL l = none := by
      unfold PL
      dsimp only
      rw [decide_eq_false hl, Bool.false_and]
      have h1 : ∀ l2, (PP false l2).2.1 = false := fun l2 => by unfold PP; dsimp only; split <;> rfl
      have h2 : ∀ ex l5, (PX ex false l5).1 = false := fun ex l5 => by unfold PX; dsimp only; split <;> rfl
      rw [h1, h2]
      rfl
    rw [this]
    exact rfl
/-- Both read a text alike. -/
theorem same_Parse (k : Nat) (s : ByteArray) (hs : s.size ≤ 140737488351232) (hk : s.size < k) (hk2 : 30000 ≤ k) : ∃ r, g_dec_Parse k s = some r ∧ g_r9_Parse k s = some r := by
  have h1 := dec_Parse k (L s) (by rw [← L_size]; exact hs) (by rw [← L_size]; exact hk) (by omega)
  have h2 := ref_Parse k (L s) hk2
  rw [B_L] at h1 h2
  exact h1.eq h2
end Go.Proofs.YthpcgknknpjpdaaGreatDoor.W
namespace Go.Proofs.YthpcgknknpjpdaaGreatDoor.W
open Go Go.Q Go.Proofs Go.Dz
set_option linter.unusedVariables false
set_option linter.unusedSimpArgs false
/-- The byte of a digit. -/
def db (d : Nat) : UInt8 := UInt8.ofNat (48 + d % 10)
theorem db_nat (d : Nat) : (db d).toNat = 48 + d % 10 := by
  unfold db
  rw [UInt8.toNat_ofNat']
  omega
theorem db_dg (d : Nat) : dg (db d) = d % 10 := by unfold dg; rw [db_nat]; omega
theorem db_isd (d : Nat) : isd (db d) = true := by
  unfold isd
  rw [db_nat, decide_eq_true (by omega), decide_eq_true (by omega)]
  rfl
/-- The last t digits of n. -/
def dt (n : Nat) : Nat → List UInt8
  | 0 => []
  | t + 1 => db (n / 10 ^ t) :: dt n t
theorem dt_len (n : Nat) : ∀ t, (dt n t).length = t
  | 0 => rfl
  | t + 1 => by rw [dt, List.length_cons, dt_len n t]
theorem dt_digs (n : Nat) : ∀ t, Digs (dt n t)
  | 0 => fun b hb => by cases hb
  | t + 1 => fun b hb => by
    rw [dt] at hb
    rcases List.mem_cons.1 hb with rfl | h
    · exact db_isd _
    · exact dt_digs n t b h
theorem dt_app (n b : Nat) : ∀ a, dt n (a + b) = dt (n / 10 ^ b) a ++ dt n b
  | 0 => by rw [Nat.zero_add]; rfl
  | a + 1 => by
    rw [show a + 1 + b = a + b + 1 by omega, dt, dt, dt_app n b a, Nat.div_div_eq_div_mul, Nat.pow_add, Nat.mul_comm]
    rfl
theorem dt_dv (n : Nat) : ∀ t, dv (dt n t) = n % 10 ^ t
  | 0 => by rw [Nat.pow_zero, Nat.mod_one]; rfl
  | t + 1 => by
    rw [dt, dv_cons, dt_len, dt_dv n t, db_dg, Nat.pow_succ, Nat.mod_mul, Nat.mul_comm, Nat.add_comm]
theorem dt_zeros {n : Nat} : ∀ t, n = 0 → dt n t = List.replicate t 48
  | 0, _ => rfl
  | t + 1, h => by
    subst h
    rw [dt, dt_zeros t rfl, List.replicate_succ]
    congr 1
    rw [Nat.zero_div]
    rfl
theorem dt_mul (n b : Nat) : ∀ t, t ≤ b → dt (n * 10 ^ b) t = List.replicate t 48
  | 0, _ => rfl
  | t + 1, h => by
    rw [dt, dt_mul n b t (by omega), List.replicate_succ]
    congr 1
    apply UInt8.toNat_inj.1
    have : n * 10 ^ b / 10 ^ t = n * 10 ^ (b - t - 1) * 10 := by
      rw [show b = b - t - 1 + 1 + t by omega, Nat.pow_add, ← Nat.mul_assoc, Nat.mul_div_cancel _ (Nat.pow_pos (by decide)), Nat.pow_succ, ← Nat.mul_assoc, show b - t - 1 + 1 + t - t - 1 = b - t - 1 by omega]
    rw [this, db_nat, Nat.mul_mod_left]
    rfl
theorem digs_len_div {n : Nat} (h : n ≠ 0) : (digs n).length = (digs (n / 10)).length + 1 := by rw [digs_pos h, List.length_cons]
theorem strOf_one {d : Nat} (h : d < 256) : strOf ([(d : Int)] : List Int) = B [UInt8.ofNat d] := L_ext (by rw [L_strOf, L_B]; simp)
theorem print_l0 (k : Nat) : ∀ (m n : Nat) (s : List UInt8), n < 18446744073709551616 → (digs n).length < m → (digs n).length + s.length ≤ 1000 → g_dec_Print_l0 k m (B s) (n : Int) = some (B (dt n (digs n).length ++ s))
  | 0, n, s, _, h, _ => by omega
  | m + 1, n, s, hn, h, hs => by
    unfold g_dec_Print_l0
    by_cases h0 : n = 0
    · subst h0
      rw [decide_eq_false (by omega), digs_zero]
      rfl
    · have hl := digs_len_div h0
      rw [decide_eq_true (by omega), cond_true, show Int.tmod (n : Int) 10 = ((n % 10 : Nat) : Int) from rfl, show Int.tdiv (n : Int) 10 = ((n / 10 : Nat) : Int) from rfl, show (48 : Int) + ((n % 10 : Nat) : Int) = ((48 + n % 10 : Nat) : Int) by omega, w64d (by omega), w64d (by omega)]
      simp only [Option.bind_some]
      rw [w8d (by omega), strOf_one (by omega), B_app, B_size, B_size]
      rw [decide_eq_true (by simp only [List.length_cons, List.length_nil]; omega), cond_true, print_l0 k m (n / 10) _ (by omega) (by omega) (by simp only [List.length_append, List.length_cons, List.length_nil]; omega)]
      congr 2
      rw [hl, dt_app n 1]
      simp only [Nat.pow_one, dt, Nat.pow_zero, Nat.div_one, List.append_assoc, List.cons_append, List.nil_append]
      congr 2
theorem Print_l0 (k : Nat) {n : Nat} (hn : n < 18446744073709551616) (hk : 60 ≤ k) : g_dec_Print_l0 k k (B []) (n : Int) = some (B (dt n (digs n).length)) := by
  have h20 : (digs n).length ≤ 20 := digs_len_le (Nat.lt_of_lt_of_le hn (by decide))
  rw [print_l0 k k n [] hn (by omega) (by simp; omega), List.append_nil]
theorem rep_all : ((List.range 65).all fun n => match g_st_Repeat 70 (B [48]) (n : Int) with | some s => s.toList == List.replicate n 48 | none => false) = true := by decide +kernel
/-- Noughts, repeated. -/
theorem rep_eq (k : Nat) (hk : 70 ≤ k) {n : Nat} (hn : n ≤ 64) : g_st_Repeat k (B [48]) (n : Int) = some (B (List.replicate n 48)) := by
  have h := List.all_eq_true.1 rep_all n (List.mem_range.2 (by omega))
  refine (g_st_Repeat_mono hk).h _ ?_
  cases hg : g_st_Repeat 70 (B [48]) (n : Int) with
  | none => rw [hg] at h; cases h
  | some s =>
    rw [hg] at h
    have h' : s.toList = List.replicate n 48 := by simpa using h
    rw [L_toList] at h'
    rw [← h', B_L]
end Go.Proofs.YthpcgknknpjpdaaGreatDoor.W
namespace Go.Proofs.YthpcgknknpjpdaaGreatDoor.W
open Go Go.Q Go.Proofs Go.Dz
set_option linter.unusedVariables false
set_option linter.unusedSimpArgs false
/-- m, with a point ahead of the last j digits. -/
def TX (m j : Nat) : List UInt8 := dt (m / 10 ^ j) (max (digs m).length (1 + j) - j) ++ (if j = 0 then [] else 46 :: dt m j)
/-- A number, written. -/
def NX (c e : Int) : List UInt8 := (if c < 0 then [45] else []) ++ TX (c.natAbs * 10 ^ e.toNat) (-e).toNat
theorem digs_mul {n : Nat} (h : n ≠ 0) : ∀ t, (digs (n * 10 ^ t)).length = (digs n).length + t
  | 0 => by rw [Nat.pow_zero, Nat.mul_one]; rfl
  | t + 1 => by
    have h0 : n * 10 ^ t ≠ 0 := Nat.mul_ne_zero h (Nat.ne_of_gt (Nat.pow_pos (by decide)))
    rw [Nat.pow_succ, ← Nat.mul_assoc, digs_len_div (Nat.mul_ne_zero h0 (by decide)), Nat.mul_div_cancel _ (by decide), digs_mul h t]
    rfl
theorem dt_pad {n : Nat} (a : Nat) : dt n (a + (digs n).length) = List.replicate a 48 ++ dt n (digs n).length := by
  rw [dt_app, dt_zeros a (Nat.div_eq_of_lt digs_lt)]
def pr_body (k : Nat) (x5106 : ByteArray) (x5090 x5091 : Int) : Option ByteArray := (bif (decide (x5090 = 0)) then some (ByteArray.mk #[48]) else (bif (decide (0 < x5091)) then ((g_st_Repeat k (ByteArray.mk #[48]) x5091).bind fun x5145 => (bif (decide (ByteArray.size x5106 + ByteArray.size x5145 ≤ 9223372036854775807)) then some (x5106 ++ x5145) else none)) else (bif (decide (x5091 < 0)) then ((some (IntKind.wrap .i64 ((IntKind.wrap .i64 (1 - x5091)) - ((ByteArray.size x5106 : Nat) : Int)))).bind fun x5148 => ((some (if (0 : Int) > x5148 then (0 : Int) else x5148)).bind fun x5149 => ((g_st_Repeat k (ByteArray.mk #[48]) x5149).bind fun x5151 => (bif (decide (ByteArray.size x5151 + ByteArray.size x5106 ≤ 9223372036854775807)) then ((some ((ByteArray.size (x5151 ++ x5106) : Nat) : Int)).bind fun x5163 => ((some ((ByteArray.size (x5151 ++ x5106) : Nat) : Int)).bind fun x5164 => (bif (decide (0 ≤ (0 : Int) ∧ (0 : Int) ≤ (IntKind.wrap .i64 (x5163 + x5091)) ∧ (IntKind.wrap .i64 (x5163 + x5091)) ≤ ((ByteArray.size (x5151 ++ x5106) : Nat) : Int))) then ((some (ByteArray.extract (x5151 ++ x5106) (Int.toNat 0) (Int.toNat (IntKind.wrap .i64 (x5163 + x5091))))).bind fun x5166 => (bif (decide (ByteArray.size x5166 + ByteArray.size (ByteArray.mk #[46]) ≤ 9223372036854775807)) then (bif (decide (0 ≤ ((IntKind.wrap .i64 (x5164 + x5091)) : Int) ∧ ((IntKind.wrap .i64 (x5164 + x5091)) : Int) ≤ ((ByteArray.size (x5151 ++ x5106) : Nat) : Int) ∧ ((ByteArray.size (x5151 ++ x5106) : Nat) : Int) ≤ ((ByteArray.size (x5151 ++ x5106) : Nat) : Int))) then ((some (ByteArray.extract (x5151 ++ x5106) (Int.toNat (IntKind.wrap .i64 (x5164 + x5091))) (Int.toNat ((ByteArray.size (x5151 ++ x5106) : Nat) : Int)))).bind fun x5169 => (bif (decide (ByteArray.size (x5166 ++ (ByteArray.mk #[46])) + ByteArray.size x5169 ≤ 9223372036854775807)) then some ((x5166 ++ (ByteArray.mk #[46])) ++ x5169) else none)) else none) else none)) else none))) else none)))) else some x5106)))
theorem dec_Print_is (k : Nat) (x4453 x4454 : Int) : g_dec_Print k x4453 x4454 = ((g_dec_clean__b k x4453 x4454).bind fun (x5089, x5090, x5091) => (bif (!x5089) then some (ByteArray.mk #[63]) else ((g_dec_size k x5090).bind fun x5094 => ((g_dec_Print_l0 k k (ByteArray.mk #[]) x5094).bind fun x5106 => (((pr_body k x5106 x5090 x5091) : Option ByteArray).bind fun x5141 => (((bif (decide (x5090 < 0)) then (bif (decide (ByteArray.size (ByteArray.mk #[45]) + ByteArray.size x5141 ≤ 9223372036854775807)) then some ((ByteArray.mk #[45]) ++ x5141) else none) else some x5141) : Option ByteArray).bind fun x5174 => some x5174)))))) := rfl
theorem print_tail (k : Nat) (hk : 100 ≤ k) {n : Nat} {c e : Int} (hn : n = c.natAbs) (hc : Canon c e) : pr_body k (B (dt n (digs n).length)) c e = some (B (TX (n * 10 ^ e.toNat) (-e).toNat)) := by
  unfold pr_body
  simp only [e48, e46]
  have hr := hc.rng
  have h20 : (digs n).length ≤ 20 := digs_len_le (by have := hc.i64; unfold I64 at this; omega)
  by_cases h0 : c = 0
  · have he : e = 0 := by rcases hc with ⟨_, h⟩ | ⟨h, _⟩ <;> simp_all
    subst h0 he
    have : n = 0 := by rw [hn]; rfl
    subst this
    rw [decide_eq_true rfl, cond_true]
    unfold TX
    rw [show (0 : Nat) * 10 ^ (0 : Int).toNat = 0 from Nat.zero_mul _, digs_zero]
    rfl
  · have hn0 : n ≠ 0 := by omega
    have hlp := len_pos hn0
    rw [decide_eq_false h0, cond_false]
    by_cases h1 : 0 < e
    · obtain ⟨t, rfl⟩ : ∃ t : Nat, e = (t : Int) := ⟨e.toNat, by omega⟩
      rw [decide_eq_true h1, cond_true, rep_eq k (by omega) (by omega)]
      simp only [Option.bind_some, B_size, B_app]
      rw [decide_eq_true (by rw [dt_len, List.length_replicate]; omega), cond_true]
      congr 2
      unfold TX
      rw [show (-(t : Int)).toNat = 0 by omega, Int.toNat_natCast, digs_mul hn0, if_pos rfl, Nat.pow_zero, Nat.div_one, List.append_nil, show max ((digs n).length + t) (1 + 0) - 0 = (digs n).length + t by omega, dt_app, dt_mul n t t (Nat.le_refl _), Nat.mul_div_cancel _ (Nat.pow_pos (by decide))]
    · rw [decide_eq_false h1, cond_false]
      by_cases h2 : e < 0
      · obtain ⟨j, rfl⟩ : ∃ j : Nat, e = -(j : Int) := ⟨(-e).toNat, by omega⟩
        obtain ⟨a, ha, ha', hz⟩ : ∃ a : Nat, max (digs n).length (1 + j) = a + (digs n).length ∧ a ≤ 30 ∧ (if (0 : Int) > 1 - -(j : Int) - ((digs n).length : Int) then (0 : Int) else 1 - -(j : Int) - ((digs n).length : Int)) = (a : Int) := by
          refine ⟨max (digs n).length (1 + j) - (digs n).length, by omega, by omega, ?_⟩
          split <;> omega
        rw [decide_eq_true h2, cond_true, B_size, dt_len, wi (n := 1 - -(j : Int)) (by omega) (by omega), wi (by omega) (by omega)]
        simp only [Option.bind_some]
        rw [hz, rep_eq k (by omega) (by omega)]
        simp only [Option.bind_some, B_app, ← dt_pad, B_size, dt_len, List.length_replicate, B_ext]
        rw [decide_eq_true (by omega), cond_true, ← ha]
        generalize hm : max (digs n).length (1 + j) = t at *
        rw [wi (by omega) (by omega), show (t : Int) + -(j : Int) = ((t - j : Nat) : Int) by omega, decide_eq_true (by omega), cond_true]
        rw [decide_eq_true (by simp [dt_len]; omega), cond_true, decide_eq_true (by omega), cond_true, decide_eq_true (by simp [dt_len]; omega), cond_true]
        congr 2
        unfold TX
        rw [show (-(j : Int)).toNat = 0 by omega, show (-(-(j : Int))).toNat = j by omega, Nat.pow_zero, Nat.mul_one, hm, if_neg (by omega)]
        simp only [Int.toNat_natCast, Int.toNat_zero, Nat.sub_zero, List.drop_zero]
        have hsp : dt n t = dt (n / 10 ^ j) (t - j) ++ dt n j := by rw [← dt_app, show t - j + j = t by omega]
        rw [hsp, List.take_left' (dt_len _ _), List.drop_left' (dt_len _ _), List.take_of_length_le (by rw [dt_len]; omega), List.append_assoc]
        rfl
      · have he : e = 0 := by omega
        subst he
        rw [decide_eq_false h2, cond_false]
        congr 2
        unfold TX
        rw [show (-(0 : Int)).toNat = 0 from rfl, show (0 : Int).toNat = 0 from rfl, Nat.pow_zero, Nat.mul_one, Nat.div_one, if_pos rfl, List.append_nil, show max (digs n).length (1 + 0) - 0 = (digs n).length by omega]
theorem TX_len {c e : Int} (h : Canon c e) : (TX (c.natAbs * 10 ^ e.toNat) (-e).toNat).length ≤ 39 := by
  have hr := h.rng
  have h20 : (digs c.natAbs).length ≤ 19 := digs_len_le (by have := h.i64; unfold I64 at this; omega)
  unfold TX
  rw [List.length_append, dt_len]
  by_cases h0 : c = 0
  · have he : e = 0 := by rcases h with ⟨_, h⟩ | ⟨h, _⟩ <;> simp_all
    subst h0 he
    rw [show (0 : Int).natAbs * 10 ^ (0 : Int).toNat = 0 from Nat.zero_mul _, digs_zero]
    decide
  · rw [digs_mul (by omega)]
    split
    · rw [List.length_nil]; omega
    · rw [List.length_cons, dt_len]; omega
theorem dec_Print (k : Nat) (hk : 100 ≤ k) {c e : Int} (hc : I64 c) : if Rng e then ∃ c' e' : Int, Canon c' e' ∧ val c' e' = val c e ∧ g_dec_Print k c e = some (B (NX c' e')) else g_dec_Print k c e = some (B [63]) := by
  have h := clean1 k (by omega) (c := c) (e := e) hc
  rw [dec_Print_is]
  split
  · rename_i hr
    rw [if_pos hr] at h
    obtain ⟨c', e', h1, h2, h3⟩ := h
    refine ⟨c', e', h2, h3, ?_⟩
    have hlt := abs_lt h2.i64
    have h20 : (digs c'.natAbs).length ≤ 20 := digs_len_le (by have := h2.i64; unfold I64 at this; omega)
    have hrg := h2.rng
    rw [h1]
    simp only [Option.bind_some, Bool.not_true, cond_false]
    rw [size_eq k h2.i64]
    simp only [Option.bind_some, B_nil, e48, e46, e45]
    rw [Print_l0 k hlt (by omega)]
    simp only [Option.bind_some]
    rw [print_tail k hk (n := c'.natAbs) rfl h2]
    simp only [Option.bind_some, B_size, B_app]
    unfold NX
    by_cases hn : c' < 0
    · rw [decide_eq_true hn, if_pos hn, cond_true]
      have := TX_len h2
      rw [decide_eq_true (by simp only [List.length_cons, List.length_nil]; omega)]
      rfl
    · rw [decide_eq_false hn, if_neg hn]
      rfl
  · rename_i hr
    rw [if_neg hr] at h
    obtain ⟨r, h1⟩ := h
    rw [h1]
    rfl
end Go.Proofs.YthpcgknknpjpdaaGreatDoor.W
namespace Go.Proofs.YthpcgknknpjpdaaGreatDoor.W
open Go Go.Q Go.Proofs Go.Dz
set_option linter.unusedVariables false
set_option linter.unusedSimpArgs false
theorem tw_app {A r : List UInt8} (hA : Digs A) (hr : r = [] ∨ ∃ b t, r = b :: t ∧ isd b = false) : tw (A ++ r) = A ∧ dw (A ++ r) = r := by
  induction A with
  | nil =>
    rcases hr with rfl | ⟨b, t, rfl, hb⟩
    · exact ⟨rfl, rfl⟩
    · rw [List.nil_append, tw_cons, dw_cons, hb]; exact ⟨rfl, rfl⟩
  | cons a A ih =>
    have ha := hA a (List.mem_cons_self ..)
    obtain ⟨h1, h2⟩ := ih fun b hb => hA b (List.mem_cons_of_mem _ hb)
    rw [List.cons_append, tw_cons, dw_cons, ha, if_pos rfl, if_pos rfl, h1, h2]
    exact ⟨rfl, rfl⟩
theorem cut1_dig {c : UInt8} (hc : isd c = false) {A r : List UInt8} (hA : Digs A) (h0 : A ≠ []) : cut1 c (A ++ r) = (false, A ++ r) := by
  cases A with
  | nil => exact absurd rfl h0
  | cons a A =>
    rw [List.cons_append, cut1, if_neg]
    rintro rfl
    rw [hA a (List.mem_cons_self ..)] at hc
    cases hc
theorem dt_ne {n t : Nat} (h : 0 < t) : dt n t ≠ [] := fun e => by have := dt_len n t; rw [e] at this; simp at this; omega
theorem NX_len {c e : Int} (h : Canon c e) : (NX c e).length ≤ 40 ∧ 0 < (NX c e).length := by
  have h1 := TX_len h
  have h2 : 0 < (TX (c.natAbs * 10 ^ e.toNat) (-e).toNat).length := by
    unfold TX
    rw [List.length_append, dt_len]
    omega
  unfold NX
  rw [List.length_append]
  split <;> simp only [List.length_cons, List.length_nil] <;> omega
theorem PL_NX {c e : Int} (h : Canon c e) : ∃ ds : List UInt8, PL (NX c e) = some (decide (c < 0), ds, -(((-e).toNat : Nat) : Int)) ∧ dv ds = c.natAbs * 10 ^ e.toNat := by
  have hlen := (NX_len h).1
  unfold PL
  have hlt := digs_lt (n := c.natAbs * 10 ^ e.toNat)
  have hN : NX c e = (if c < 0 then [45] else []) ++ TX (c.natAbs * 10 ^ e.toNat) (-e).toNat := rfl
  generalize c.natAbs * 10 ^ e.toNat = m at *
  generalize (-e).toNat = j at *
  unfold TX at hN
  have ht : 0 < max (digs m).length (1 + j) - j := by omega
  have hmt : m < 10 ^ max (digs m).length (1 + j) := Nat.lt_of_lt_of_le hlt (Nat.pow_le_pow_right (by decide) (by omega))
  have hjt : max (digs m).length (1 + j) - j + j = max (digs m).length (1 + j) := by omega
  generalize hT : max (digs m).length (1 + j) = t at *
  have hW : Digs (dt (m / 10 ^ j) (t - j)) := dt_digs _ _
  have hW0 : dt (m / 10 ^ j) (t - j) ≠ [] := dt_ne ht
  have hcut : cut1 45 (NX c e) = (decide (c < 0), dt (m / 10 ^ j) (t - j) ++ (if j = 0 then [] else 46 :: dt m j)) := by
    rw [hN]
    by_cases hc : c < 0
    · rw [if_pos hc, decide_eq_true hc]
      rfl
    · rw [if_neg hc, decide_eq_false hc, List.nil_append, cut1_dig (by decide) hW hW0]
  dsimp only
  rw [hcut]
  dsimp only
  have hsp := tw_app (A := dt (m / 10 ^ j) (t - j)) (r := if j = 0 then [] else 46 :: dt m j) hW (by
    by_cases hj : j = 0
    · exact .inl (if_pos hj)
    · rw [if_neg hj]; exact .inr ⟨46, _, rfl, by decide⟩)
  rw [hsp.1, hsp.2, decide_eq_true (show (NX c e).length ≤ 255 by omega), isEmpty_len, decide_eq_false (by rw [dt_len]; omega)]
  simp only [Bool.not_false, Bool.and_true]
  by_cases hj : j = 0
  · subst hj
    rw [if_pos rfl]
    refine ⟨dt (m / 10 ^ 0) (t - 0), ?_, ?_⟩
    · have : PP true [] = ([], true, []) := rfl
      rw [this]
      have h2 : PE [] = (false, []) := rfl
      dsimp only
      rw [h2]
      simp [PX]
    · rw [dt_dv, Nat.pow_zero, Nat.div_one, Nat.sub_zero, Nat.mod_eq_of_lt hmt]
  · rw [if_neg hj]
    refine ⟨dt (m / 10 ^ j) (t - j) ++ dt m j, ?_, ?_⟩
    · have hj2 := tw_app (A := dt m j) (r := []) (dt_digs _ _) (.inl rfl)
      rw [List.append_nil] at hj2
      have : PP true (46 :: dt m j) = (dt m j, true, []) := by
        unfold PP
        dsimp only
        rw [cut1, if_pos rfl]
        dsimp only
        rw [if_pos rfl, hj2.1, hj2.2, isEmpty_len, decide_eq_false (by rw [dt_len]; omega)]
        rfl
      rw [this]
      have h2 : PE [] = (false, []) := rfl
      dsimp only
      rw [h2]
      simp [PX, dt_len]
    · rw [← dt_app, hjt, dt_dv, Nat.mod_eq_of_lt hmt]
theorem NX_back (k : Nat) (hk : 30000 ≤ k) {c e : Int} (h : Canon c e) : g_dec_Parse k (B (NX c e)) = some (0, c, e) := by
  have hl := (NX_len h).1
  obtain ⟨ds, h1, h2⟩ := PL_NX h
  have hp := dec_Parse k (NX c e) (by omega) (by omega) (by omega)
  rw [h1] at hp
  obtain ⟨er, c2, y, h3, h4⟩ := hp
  have hrg := h.rng
  have hv : val (sgn (decide (c < 0)) (dv ds)) (-(((-e).toNat : Nat) : Int)) = val c e := by
    rw [h2, sgn_mul, sgn_self, show ((10 ^ e.toNat : Nat) : Int) = (10 : Int) ^ e.toNat by simp, val_shift (by omega)]
    congr 1
    omega
  rw [hv] at h4
  have := Tells.uniq (fun a b ha hb => ha.trans hb.symm) h4 (.inl ⟨rfl, h, rfl⟩ : Tells (· = val c e) ((c, e), 0))
  simp only [Prod.mk.injEq] at this
  obtain ⟨⟨rfl, rfl⟩, rfl⟩ := this
  exact h3
/-- What a written number is made of. -/
def chr (b : UInt8) : Prop := b = 45 ∨ b = 46 ∨ isd b = true
theorem NX_chr {c e : Int} : ∀ b ∈ NX c e, chr b := by
  intro b hb
  unfold NX TX at hb
  rcases List.mem_append.1 hb with h | h
  · split at h
    · left; simpa using h
    · cases h
  · rcases List.mem_append.1 h with h | h
    · exact .inr (.inr (dt_digs _ _ b h))
    · split at h
      · cases h
      · rcases List.mem_cons.1 h with h | h
        · exact .inr (.inl h)
        · exact .inr (.inr (dt_digs _ _ b h))
end Go.Proofs.YthpcgknknpjpdaaGreatDoor.W
namespace Go.Proofs.YthpcgknknpjpdaaGreatDoor.W
open Go Go.Q Go.Proofs Go.Dz
set_option linter.unusedVariables false
set_option linter.unusedSimpArgs false
instance (c x : Int) : Decidable (Canon c x) := by unfold Canon; infer_instance
theorem tell_l0_any (k : Nat) (hk : 3 ≤ k) : ∀ (d n v : Nat) (e : Int), d ≤ n → v ≠ 0 → v < UU → v < 10 ^ d → -9223372036854775808 ≤ e → e ≤ 9223372036854775807 → ∃ (w : Nat) (e' : Int), w < UU ∧ -9223372036854775808 ≤ e' ∧ e' ≤ 9223372036854775807 ∧
    g_dec_num_tell_l0 k n ((v % 10 : Nat) : Int) (wh v) (wl v) e (wh (v / 10)) (wl (v / 10)) = some (wh w, wl w, e') := by
  intro d
  induction d with
  | zero => intro n v e _ h0 _ h; simp at h; omega
  | succ d ih =>
    intro n v e hdn h0 hU h he1 he2
    obtain ⟨n, rfl⟩ : ∃ n', n = n' + 1 := ⟨n - 1, by omega⟩
    rw [g_dec_num_tell_l0.eq_2]
    simp only [bd]
    by_cases hr : v % 10 = 0
    · rw [if_pos (by omega), wide_by k hk (v := v / 10) (by unfold UU at *; omega), Option.bind_some]
      rw [Nat.pow_succ] at h
      exact ih n (v / 10) (IntKind.wrap .i64 (e + 1)) (by omega) (by omega) (by unfold UU at *; omega) (by omega) (by rw [IntKind.wrap_i64]; omega) (by rw [IntKind.wrap_i64]; omega)
    · rw [if_neg (by omega)]
      exact ⟨v, e, hU, he1, he2, rfl⟩
theorem tot3 {x : Option (Int × Int × Int)} (h : ∃ r, x = some r) : ∃ a b c, x = some (a, b, c) := by
  obtain ⟨⟨a, b, c⟩, h⟩ := h
  exact ⟨a, b, c, h⟩
theorem tot_if {p q : Prop} [Decidable p] [Decidable q] (b : Bool) (u v : Int × Int × Int) : ∃ r, ((if p then some true else if q then some true else some b).bind fun x => (bif x then some u else some v)) = some r := by
  by_cases hp : p
  · rw [if_pos hp]; exact ⟨_, rfl⟩
  · rw [if_neg hp]
    by_cases hq : q
    · rw [if_pos hq]; exact ⟨_, rfl⟩
    · rw [if_neg hq]; cases b <;> exact ⟨_, rfl⟩
theorem tell_any (k : Nat) (hk : 60 ≤ k) (neg : Bool) {v : Nat} (hv : v < UU) (e : Int) (he : I64 e) : ∃ a b c, g_dec_num_tell k neg (wh v) (wl v) e = some (a, b, c) := by
  unfold g_dec_num_tell
  simp only [wide_zero, Option.bind_some, bd]
  by_cases h0 : v = 0
  · rw [if_pos ((wide_or hv).2 h0)]; exact ⟨_, _, _, rfl⟩
  · rw [if_neg (fun h => h0 ((wide_or hv).1 h)), wide_by k (by omega) hv, Option.bind_some]
    obtain ⟨w, e', hw, h1, h2, h4⟩ := tell_l0_any k (by omega) 39 k v e (by omega) h0 hv (Nat.lt_of_lt_of_le hv (by decide)) he.1 he.2
    simp only
    rw [h4, Option.bind_some]
    simp only
    by_cases h18 : 18 < e'
    · rw [if_pos h18, wi (n := e' - 18) (by omega) (by omega)]
      obtain ⟨m, hm, hm2⟩ : ∃ m : Nat, (if (40 : Int) < e' - 18 then (40 : Int) else e' - 18) = (m : Int) ∧ m ≤ 40 := by
        split
        · exact ⟨40, rfl, by omega⟩
        · exact ⟨(e' - 18).toNat, by omega, by omega⟩
      obtain ⟨b, x, y, ht, _⟩ := wide_tens k hw (m := m) (by omega) (by omega)
      simp only [Option.bind_some, hm, ht]
      by_cases h58 : (58 : Int) < e'
      · rw [if_pos h58]
        refine tot3 ?_
        cases neg <;> simp [Option.bind_some]
      · rw [if_neg h58]
        refine tot3 ?_
        cases neg <;> simp only [Option.bind_some, cond_true, cond_false] <;> cases b <;> simp only [Bool.not_true, Bool.not_false, cond_true, cond_false, Option.bind_some] <;> (try exact ⟨_, rfl⟩) <;> exact tot_if _ _ _
    · rw [if_neg h18]
      refine tot3 ?_
      cases neg <;> simp only [Option.bind_some, cond_true, cond_false, Bool.not_true] <;> exact tot_if _ _ _
theorem right_dec (k : Nat) (hk : 60 ≤ k) {c e : Int} (hc : I64 c) (he : I64 e) : g_dec_Right k c e = some (decide (Canon c e)) := by
  by_cases hcan : Canon c e
  · rw [dec_Right k hk hcan, Go.Q.dt hcan]
  · rw [df hcan]
    unfold g_dec_Right
    rw [of_eq k hc, Option.bind_some]
    by_cases hr : Rng e
    · obtain ⟨c', e', h1, h2, h3⟩ := tell_ok k hk hc hr
      rw [h1, Option.bind_some]
      simp only
      rw [ranged_eq k (by omega), Go.Q.dt hr, Option.bind_some, bt]
      simp only [decide_true, cond_true, Option.bind_some, Bool.and_true]
      have : ¬ (c' = c ∧ e' = e) := fun ⟨a, b⟩ => hcan (a ▸ b ▸ h2)
      have : (decide (c' = c) && decide (e' = e)) = false := by simpa using this
      rw [this]
    · obtain ⟨a, b, d, h1⟩ := tell_any k hk (decide (c < 0)) (v := c.natAbs) (by have := abs_lt hc; unfold UU; omega) e he
      rw [wh_small (abs_lt hc), wl_small (abs_lt hc)] at h1
      rw [h1, Option.bind_some]
      simp only
      rw [ranged_eq k (by omega), df hr, Option.bind_some, bf]
      rfl
end Go.Proofs.YthpcgknknpjpdaaGreatDoor.W
namespace Go.Proofs.YthpcgknknpjpdaaGreatDoor.W
open Go Go.Q Go.Proofs Go.Dz
set_option linter.unusedVariables false
set_option linter.unusedSimpArgs false
abbrev V := Int × Int × Int × ByteArray × Bool × Int
abbrev E0 : ByteArray := ByteArray.mk #[]
abbrev NM : List ByteArray := [(ByteArray.mk #[]), (ByteArray.mk #[35, 68, 73, 86, 47, 48, 33]), (ByteArray.mk #[35, 86, 65, 76, 85, 69, 33]), (ByteArray.mk #[35, 82, 69, 70, 33]), (ByteArray.mk #[35, 78, 65, 77, 69, 63]), (ByteArray.mk #[35, 78, 85, 77, 33]), (ByteArray.mk #[35, 78, 47, 65]), (ByteArray.mk #[35, 67, 89, 67, 76, 69, 33])]
theorem beqL (a b : ByteArray) : (a.toList == b.toList) = decide (a = b) := by
  rw [L_toList, L_toList]
  by_cases h : a = b
  · subst h; simp
  · rw [decide_eq_false h]
    have : ¬ L a = L b := fun k => h (L_ext k)
    simpa using this
def errV (code : Int) : Int := if 1 ≤ code ∧ code ≤ 7 then code else 2
def eV (code : Int) : V := (4, 0, 0, E0, false, errV code)
theorem val_ErrName (k : Nat) (code : Int) : g_val_ErrName k code = some (if 0 ≤ code ∧ code ≤ 7 then NM.getD code.toNat E0 else E0) := by
  unfold g_val_ErrName
  by_cases h0 : code < 0
  · rw [decide_eq_true h0, if_neg (by omega)]; rfl
  · rw [decide_eq_false h0, bf]
    simp only [g_val_names, Option.bind_some]
    by_cases h8 : 7 < code
    · rw [decide_eq_true (show ((List.length NM : Nat) : Int) ≤ code by show (8 : Int) ≤ code; omega), if_neg (by omega)]; rfl
    · rw [decide_eq_false (show ¬ ((List.length NM : Nat) : Int) ≤ code by show ¬ (8 : Int) ≤ code; omega), if_pos (by omega)]
      simp only [cond_false]
      obtain ⟨n, rfl⟩ : ∃ n : Nat, code = (n : Int) := ⟨code.toNat, by omega⟩
      rw [ix_nat (show n < NM.length by show n < 8; omega)]
      simp only [Option.bind_some, Int.toNat_natCast]
      rw [List.getD_eq_getElem?_getD, List.getElem?_eq_getElem (show n < NM.length by show n < 8; omega)]
      rfl
theorem nm_nil {n : Nat} (h : n ≤ 7) : NM.getD n E0 = E0 ↔ n = 0 := by
  have : ∀ n, n < 8 → (decide (L (NM.getD n E0) = []) = decide (n = 0)) := by
    intro n hn
    match n, hn with
    | 0, _ => rfl
    | 1, _ => rfl
    | 2, _ => rfl
    | 3, _ => rfl
    | 4, _ => rfl
    | 5, _ => rfl
    | 6, _ => rfl
    | 7, _ => rfl
  have := decide_eq_decide.1 (this n (by omega))
  exact ⟨fun k => this.1 (by rw [k]; rfl), fun k => L_ext (by rw [this.2 k]; rfl)⟩
theorem val_Err (k : Nat) (code : Int) : g_val_Err k code = some (errV code) := by
  unfold g_val_Err errV
  rw [val_ErrName]
  by_cases h : 0 ≤ code ∧ code ≤ 7
  · rw [if_pos h]
    simp only [Option.bind_some]
    obtain ⟨n, rfl⟩ : ∃ n : Nat, code = (n : Int) := ⟨code.toNat, by omega⟩
    rw [Int.toNat_natCast, beqL]
    by_cases hn : n = 0
    · rw [decide_eq_true ((nm_nil (by omega)).2 hn), if_neg (by omega)]; rfl
    · rw [decide_eq_false (fun k => hn ((nm_nil (by omega)).1 k)), if_pos (by omega)]
      rfl
  · rw [if_neg h, if_neg (by omega)]
    simp only [Option.bind_some]
    rw [beqL, decide_eq_true rfl]
    rfl
def codeV (s : ByteArray) : Int × Bool :=
  if s = NM.getD 1 E0 then (1, true) else if s = NM.getD 2 E0 then (2, true) else if s = NM.getD 3 E0 then (3, true) else if s = NM.getD 4 E0 then (4, true)
  else if s = NM.getD 5 E0 then (5, true) else if s = NM.getD 6 E0 then (6, true) else if s = NM.getD 7 E0 then (7, true) else (0, false)
theorem val_ErrCode (k : Nat) (hk : 20 ≤ k) (s : ByteArray) : g_val_ErrCode k s = some (codeV s) := by
  obtain ⟨k, rfl⟩ : ∃ k', k = k' + 9 := ⟨k - 9, by omega⟩
  have key : ∀ (n : Nat) (i : Nat), i ≤ 7 → g_sc_Index_string_string_l0 (k + 9) NM s (n + 1) (i : Int) = if s = NM.getD i E0 then some (.inl (i : Int)) else g_sc_Index_string_string_l0 (k + 9) NM s n ((i + 1 : Nat) : Int) := by
    intro n i h7
    rw [g_sc_Index_string_string_l0.eq_2]
    simp only [Option.bind_some, bd]
    rw [if_pos (show (i : Int) < ((List.length NM : Nat) : Int) by show (i : Int) < 8; omega), ix_nat (show i < NM.length by show i < 8; omega)]
    simp only [Option.bind_some]
    rw [beqL, bd, wi (by omega) (by omega), show (i : Int) + 1 = ((i + 1 : Nat) : Int) by omega]
    rw [List.getD_eq_getElem?_getD, List.getElem?_eq_getElem (show i < NM.length by show i < 8; omega)]
    simp only [Option.getD_some]
  have last : ∀ n, g_sc_Index_string_string_l0 (k + 9) NM s (n + 1) 8 = some (.inr ()) := fun n => rfl
  unfold g_val_ErrCode g_sc_Index_string_string codeV
  rw [show g_val_names (k + 9) = some () from rfl, Option.bind_some]
  rw [show (0 : Int) = ((0 : Nat) : Int) from rfl, key _ 0 (by omega), key _ 1 (by omega), key _ 2 (by omega), key _ 3 (by omega), key _ 4 (by omega), key _ 5 (by omega), key _ 6 (by omega), key _ 7 (by omega), show ((7 + 1 : Nat) : Int) = 8 from rfl, last]
  by_cases h0 : s = NM.getD 0 E0
  · subst h0; rfl
  rw [if_neg h0]
  split
  · rfl
  split
  · rfl
  split
  · rfl
  split
  · rfl
  split
  · rfl
  split
  · rfl
  split
  · rfl
  rfl
def ofV (c e er : Int) : Int × Int × Int × Int := if er = 31 then (4, 0, 0, 1) else if er ≠ 0 ∨ ¬ Canon c e then (4, 0, 0, 5) else (1, c, e, 0)
theorem val_Of (k : Nat) (hk : 60 ≤ k) {c e : Int} (er : Int) (hc : I64 c) (he : I64 e) : g_val_Of k c e er = some (ofV c e er) := by
  unfold g_val_Of ofV
  rw [right_dec k hk hc he, val_Err, val_Err]
  by_cases h1 : er = 31
  · rw [decide_eq_true h1, if_pos h1]; rfl
  · rw [decide_eq_false h1, if_neg h1]
    by_cases h2 : er = 0
    · by_cases h3 : Canon c e
      · simp [h2, h3]
      · simp [h2, h3]; rfl
    · simp [h2]; rfl
def okS (s : ByteArray) : Bool := decide (s.size ≤ 255) && decide (xmlL (L s) = 0)
def strV (s : ByteArray) : Int × ByteArray × Int := if okS s then (2, s, 0) else (4, E0, 2)
theorem val_Str (k : Nat) (hk : 300 ≤ k) (s : ByteArray) : g_val_Str k s = some (strV s) := by
  unfold g_val_Str strV okS
  rw [val_Err]
  by_cases h : s.size ≤ 255
  · rw [decide_eq_false (show ¬ (255 : Int) < ((s.size : Nat) : Int) by omega), utfXml (by rw [← L_size]; omega)]
    by_cases hx : xmlL (L s) = 0
    · simp [h, hx]
    · simp [h, hx]; rfl
  · rw [decide_eq_true (show (255 : Int) < ((s.size : Nat) : Int) by omega)]
    simp [h]; rfl
inductive Rt : V → Prop where
  | empty : Rt (0, 0, 0, E0, false, 0)
  | num {c e : Int} (h : Canon c e) : Rt (1, c, e, E0, false, 0)
  | text {s : ByteArray} (h : okS s = true) : Rt (2, 0, 0, s, false, 0)
  | bool (b : Bool) : Rt (3, 0, 0, E0, b, 0)
  | err {r : Int} (h : 1 ≤ r ∧ r ≤ 7) : Rt (4, 0, 0, E0, false, r)
def rightV (v : V) : Bool :=
  if v.1 = 0 then decide (v = (0, 0, 0, E0, false, 0)) else if v.1 = 1 then decide (Canon v.2.1 v.2.2.1) && decide (v = (1, v.2.1, v.2.2.1, E0, false, 0))
  else if v.1 = 2 then okS v.2.2.2.1 && decide (v = (2, 0, 0, v.2.2.2.1, false, 0)) else if v.1 = 3 then decide (v = (3, 0, 0, E0, v.2.2.2.2.1, 0))
  else if v.1 = 4 then decide (1 ≤ v.2.2.2.2.2 ∧ v.2.2.2.2.2 ≤ 7) && decide (v = (4, 0, 0, E0, false, v.2.2.2.2.2)) else false
theorem Rt.right {v : V} (h : Rt v) : rightV v = true := by
  cases h with
  | empty => rfl
  | num h => simp [rightV, h]
  | text h => simp [rightV, h]
  | bool b => simp [rightV]
  | err h => simp [rightV, h]
theorem rightV_rt {v : V} (h : rightV v = true) : Rt v := by
  obtain ⟨k, c, e, s, b, r⟩ := v
  unfold rightV at h
  simp only at h
  split at h
  · rw [decide_eq_true_eq] at h; rw [h]; exact .empty
  split at h
  · rw [Bool.and_eq_true, decide_eq_true_eq, decide_eq_true_eq] at h; rw [h.2]; exact .num h.1
  split at h
  · rw [Bool.and_eq_true, decide_eq_true_eq] at h; rw [h.2]; exact .text h.1
  split at h
  · rw [decide_eq_true_eq] at h; rw [h]; exact .bool _
  split at h
  · rw [Bool.and_eq_true, decide_eq_true_eq, decide_eq_true_eq] at h; rw [h.2]; exact .err h.1
  · cases h
def cleanV (v : V) : V := if rightV v then v else eV 2
theorem clean_rt (v : V) : Rt (cleanV v) := by
  unfold cleanV
  by_cases h : rightV v = true
  · rw [if_pos h]; exact rightV_rt h
  · rw [if_neg h]; exact .err (by decide)
theorem Rt.clean {v : V} (h : Rt v) : cleanV v = v := by unfold cleanV; rw [if_pos h.right]
end Go.Proofs.YthpcgknknpjpdaaGreatDoor.W
namespace Go.Proofs.YthpcgknknpjpdaaGreatDoor.W
open Go Go.Q Go.Proofs Go.Dz
set_option linter.unusedVariables false
set_option linter.unusedSimpArgs false
theorem eqB (k c e : Int) (s : ByteArray) (b : Bool) (r k' c' e' : Int) (s' : ByteArray) (b' : Bool) (r' : Int) : ((decide (k = k')) && (((decide (c = c')) && ((decide (e = e')) && true)) && ((ByteArray.toList s == ByteArray.toList s') && ((b == b') && ((decide (r = r')) && true))))) = decide (((k, c, e, s, b, r) : V) = (k', c', e', s', b', r')) := by
  rw [beqL, Bool.eq_iff_iff]
  simp [and_assoc]
theorem val_Right (n : Nat) (hn : 300 ≤ n) {k c e : Int} {s : ByteArray} {b : Bool} {r : Int} (hc : I64 c) (he : I64 e) : g_val_Right n k c e s b r = some (rightV (k, c, e, s, b, r)) := by
  unfold g_val_Right rightV
  simp only [beqL, val_Err, val_Str n hn, right_dec n (by omega) hc he, Option.bind_some]
  by_cases h0 : k = 0
  · subst h0
    cases b <;> simp [Bool.and_assoc]
  by_cases h3 : k = 3
  · subst h3
    cases b <;> simp [Bool.and_assoc]
  by_cases h1 : k = 1
  · subst h1
    by_cases hcan : Canon c e <;> simp [hcan, Bool.and_assoc]
  by_cases h2 : k = 2
  · subst h2
    unfold strV
    cases hs : okS s <;> simp [hs, Bool.and_assoc]
  by_cases h4 : k = 4
  · subst h4
    unfold errV
    by_cases hr : 1 ≤ r ∧ r ≤ 7
    · simp [hr, Bool.and_assoc]
    · simp [hr, Bool.and_assoc]
      omega
  · simp [h0, h1, h2, h3, h4]
theorem val_clean (n : Nat) (hn : 300 ≤ n) {k c e : Int} {s : ByteArray} {b : Bool} {r : Int} (hc : I64 c) (he : I64 e) : g_val_clean n k c e s b r = some (cleanV (k, c, e, s, b, r)) := by
  unfold g_val_clean cleanV
  rw [val_Right n hn hc he, val_Err, Option.bind_some]
  cases rightV (k, c, e, s, b, r) <;> rfl
/-- What comes of numbers is right. -/
def vOf (q : Int × Int × Int × Int) : V := (q.1, q.2.1, q.2.2.1, E0, false, q.2.2.2)
def vStr (q : Int × ByteArray × Int) : V := (q.1, 0, 0, q.2.1, false, q.2.2)
theorem canon0 : Canon 0 0 := .inl ⟨rfl, rfl⟩
theorem ofV_num {c e : Int} (h : Canon c e) : ofV c e 0 = (1, c, e, 0) := by
  unfold ofV
  rw [if_neg (by decide), if_neg (by simp [h])]
end Go.Proofs.YthpcgknknpjpdaaGreatDoor.W
namespace Go.Proofs.YthpcgknknpjpdaaGreatDoor.W
open Go Go.Q Go.Proofs Go.Dz
set_option linter.unusedVariables false
set_option linter.unusedSimpArgs false
def parseV (s : ByteArray) : Int × Int × Int := (g_dec_Parse (s.size + 30000) s).getD (0, 0, 0)
theorem val_Parse (k : Nat) (s : ByteArray) (hl : s.size ≤ 140737488351232) (hk : s.size + 30000 ≤ k) : g_dec_Parse k s = some (parseV s) := by
  obtain ⟨r, h, _⟩ := same_Parse (s.size + 30000) s hl (by omega) (by omega)
  have := (g_dec_Parse_mono hk).h _ h
  rw [this, parseV, h]; rfl
theorem parse_ok (s : ByteArray) (hl : s.size ≤ 140737488351232) : Canon (parseV s).2.1 (parseV s).2.2 := by
  have h0 := L_size s
  have h := dec_Parse (s.size + 30000) (L s) (by omega) (by omega) (by omega)
  rw [B_L] at h
  unfold parseV
  cases hp : PL (L s) with
  | none => rw [hp] at h; have h' : g_dec_Parse (s.size + 30000) s = some (40, 0, 0) := h; rw [h']; exact canon0
  | some q =>
    obtain ⟨neg, ds, e⟩ := q
    rw [hp] at h
    obtain ⟨er, c, y, h1, h2⟩ := h
    rw [h1]
    rcases h2 with ⟨_, h3, _⟩ | ⟨h3, _⟩
    · exact h3
    · simp only [Prod.mk.injEq] at h3
      obtain ⟨⟨rfl, rfl⟩, _⟩ := h3
      exact canon0
end Go.Proofs.YthpcgknknpjpdaaGreatDoor.W
namespace Go.Proofs.YthpcgknknpjpdaaGreatDoor.W
open Go Go.Q Go.Proofs Go.Dz
set_option linter.unusedVariables false
set_option linter.unusedSimpArgs false
theorem alive {k : Nat} (hk : 40000 ≤ k) : g_quirelaw13_alive k = some true := (g_quirelaw13_alive_mono hk).h _ (by kernel_rfl)
theorem okS_size {s : ByteArray} (h : okS s = true) : s.size ≤ 255 := by
  unfold okS at h
  rw [Bool.and_eq_true, decide_eq_true_eq] at h
  exact h.1
theorem L_app (a b : ByteArray) : L (a ++ b) = L a ++ L b := L_append a b
theorem app_E0 (a : ByteArray) : a ++ E0 = a := L_ext (by rw [L_app]; simp [L])
theorem E0_app (a : ByteArray) : E0 ++ a = a := L_ext (by rw [L_app]; simp [L])
def tB : ByteArray := ByteArray.mk #[84, 82, 85, 69]
def fB : ByteArray := ByteArray.mk #[70, 65, 76, 83, 69]
def showV (v : V) : ByteArray := if v.1 = 1 then B (NX v.2.1 v.2.2.1) else if v.1 = 3 then (if v.2.2.2.2.1 then tB else fB) else if v.1 = 4 then NM.getD v.2.2.2.2.2.toNat E0 else v.2.2.2.1
theorem val_Print (n : Nat) (hn : 100 ≤ n) {c e : Int} (h : Canon c e) : g_dec_Print n c e = some (B (NX c e)) := by
  have := dec_Print n hn (c := c) (e := e) h.i64
  rw [if_pos h.rg] at this
  obtain ⟨c', e', h1, h2, h3⟩ := this
  obtain ⟨rfl, rfl⟩ := h1.uniq h h2
  exact h3
theorem val_Show (n : Nat) (hn : 40000 ≤ n) {k c e : Int} {s : ByteArray} {b : Bool} {r : Int} (hc : I64 c) (he : I64 e) : g_val_Show n k c e s b r = some (showV (cleanV (k, c, e, s, b, r))) := by
  unfold g_val_Show
  rw [val_clean n (by omega) hc he]
  have hr := clean_rt (k, c, e, s, b, r)
  generalize cleanV (k, c, e, s, b, r) = w at hr ⊢
  cases hr with
  | empty =>
    simp [showV, val_ErrName, app_E0]
    rfl
  | num h => simp [showV, val_Print n (by omega) h]
  | bool b => cases b <;> simp [showV, tB, fB]
  | @err r h =>
    simp only [Option.bind_some, showV, val_ErrName]
    rw [if_pos (by omega)]
    simp [E0_app]
    have hlt : (NM.getD r.toNat E0).size ≤ 10 := by
      have : ∀ m : Nat, m < 8 → (NM.getD m E0).size ≤ 10 := by decide
      exact this _ (by omega)
    have e0 : (ByteArray.mk #[]).size = 0 := rfl
    rw [List.getD_eq_getElem?_getD] at hlt
    rw [decide_eq_true (show E0.size + (NM[r.toNat]?.getD E0).size ≤ 9223372036854775807 by rw [show E0.size = 0 from rfl]; omega), cond_true]
  | @text s h =>
    have hs := okS_size h
    simp only [Option.bind_some, showV, val_ErrName]
    have e0 : (NM.getD (Int.toNat 0) E0) = E0 := rfl
    rw [if_pos (by decide), e0]
    simp [app_E0]
    rw [decide_eq_true (show s.size + E0.size ≤ 9223372036854775807 by rw [show E0.size = 0 from rfl]; omega), cond_true]
theorem xml_ascii : ∀ {l : List UInt8}, (∀ b ∈ l, 32 ≤ b.toNat ∧ b.toNat < 127) → xmlL l = 0 := by
  intro l h
  have key : ∀ {l : List UInt8}, (∀ b ∈ l, 32 ≤ b.toNat ∧ b.toNat < 127) → validL l = true ∧ (sufs l).any badX = false := by
    intro l
    induction l with
    | nil => intro _; exact ⟨validL_nil, by rw [sufs_nil]; rfl⟩
    | cons b l ih =>
      intro h
      have hb := h b (by simp)
      have hd : decL (b :: l) = (b.toNat, 1) := dec1 (by simp) (by show b.toNat < 128; omega)
      have ih := ih fun x hx => h x (by simp [hx])
      have hdrop : (b :: l).drop (decL (b :: l)).2 = l := by rw [hd]; rfl
      rw [validL_cons (by simp), sufs_cons (by simp), hdrop, ih.1, List.any_cons, ih.2]
      refine ⟨?_, ?_⟩
      · unfold isL
        rw [hd]
        simp
        omega
      · unfold badX
        rw [hd]
        simp
        omega
  unfold xmlL
  rw [(key h).1, (key h).2]
  rfl
theorem okS_of {l : List UInt8} (h : ∀ b ∈ l, 32 ≤ b.toNat ∧ b.toNat < 127) (hl : l.length ≤ 255) : okS (B l) = true := by
  unfold okS
  rw [B_size, L_B, xml_ascii h]
  simp [hl]
theorem nx_ok {c e : Int} (h : Canon c e) : okS (B (NX c e)) = true := okS_of (fun b hb => by
  rcases NX_chr b hb with rfl | rfl | hd
  · decide
  · decide
  · unfold isd at hd
    simp at hd
    omega) (by have := (NX_len h).1; omega)
theorem show_ok {v : V} (h : Rt v) (h4 : v.1 ≠ 4) : okS (showV v) = true := by
  cases h with
  | empty => exact okS_of (l := []) (by simp) (by simp)
  | num h => exact nx_ok h
  | bool b => cases b; exact okS_of (l := [70, 65, 76, 83, 69]) (by decide) (by decide); exact okS_of (l := [84, 82, 85, 69]) (by decide) (by decide)
  | text h => exact h
  | err h => exact absurd rfl h4
end Go.Proofs.YthpcgknknpjpdaaGreatDoor.W
namespace Go.Proofs.YthpcgknknpjpdaaGreatDoor.W
open Go Go.Q Go.Proofs Go.Dz
set_option linter.unusedVariables false
set_option linter.unusedSimpArgs false
theorem tf_ne : tB ≠ fB := fun h => by have := congrArg L h; exact absurd this (by decide)
end Go.Proofs.YthpcgknknpjpdaaGreatDoor.W
namespace Go.Proofs.YthpcgknknpjpdaaGreatDoor.W
open Go Go.Q Go.Proofs Go.Dz
set_option linter.unusedVariables false
set_option linter.unusedSimpArgs false
def cutQ (s : ByteArray) : ByteArray := B (match L s with | [] => [] | b :: r => if b = 39 then r else b :: r)
def typedV (s : ByteArray) : V :=
  if s = E0 then (0, 0, 0, E0, false, 0) else if s = tB ∨ s = fB then (3, 0, 0, E0, decide (s = tB), 0)
  else if (codeV s).2 = true then (4, 0, 0, E0, false, errV (codeV s).1)
  else if (parseV s).1 = 0 then vOf (ofV (parseV s).2.1 (parseV s).2.2 (parseV s).1)
  else vStr (strV (cutQ s))
theorem val_prefix (k : Nat) (s : ByteArray) (hs : s.size ≤ 140737488351232) : g_st_TrimPrefix k s (ByteArray.mk #[39]) = some (cutQ s) := by
  have e : s = B (L s) := (B_L s).symm
  have hsz := L_size s
  unfold g_st_TrimPrefix g_sl_TrimPrefix g_sl_HasPrefix cutQ
  have s1 : ByteArray.size (ByteArray.mk #[39]) = 1 := rfl
  simp only [s1, Option.bind_some, beqL]
  cases hl : L s with
  | nil =>
    rw [hl] at hsz
    have : s = E0 := L_ext hl
    subst this
    rfl
  | cons b r =>
    rw [hl] at hsz e
    simp only [List.length_cons] at hsz
    rw [decide_eq_true (by omega), cond_true, decide_eq_true (by omega), cond_true]
    simp only [Option.bind_some]
    have ex : ByteArray.extract s (Int.toNat 0) (Int.toNat ((1 : Nat) : Int)) = B [b] := by rw [e, B_ext]; rfl
    rw [ex]
    have hb : (B [b] = ByteArray.mk #[39]) = (b = 39) := by
      apply propext
      constructor
      · intro h
        have := congrArg L h
        rw [L_B] at this
        exact (List.cons.inj this).1
      · rintro rfl; rfl
    by_cases h39 : b = 39
    · rw [decide_eq_true (show B [b] = ByteArray.mk #[39] by rw [hb]; exact h39), if_pos h39]
      simp only [cond_true]
      rw [decide_eq_true (by omega), cond_true]
      simp only [Option.bind_some]
      rw [e, B_ext]
      simp [B_size]
    · rw [decide_eq_false (show ¬ B [b] = ByteArray.mk #[39] by rw [hb]; exact h39), if_neg h39]
      simp only [cond_false]
      rw [e]
      rfl
theorem val_Typed (n : Nat) (s : ByteArray) (hs : s.size ≤ 140737488351232) (hn : s.size + 40000 ≤ n) : g_val_Typed n s = some (typedV s) := by
  unfold g_val_Typed typedV
  have hp := parse_ok s hs
  have hi : I64 (parseV s).2.1 ∧ I64 (parseV s).2.2 := by have := hp.rng; unfold I64; omega
  rw [val_ErrCode n (by omega), val_Parse n s hs (by omega)]
  simp only [Option.bind_some, beqL, val_Err, val_prefix n s hs, val_Str n (by omega), val_Of n (by omega) (parseV s).1 hi.1 hi.2, g_val_Truth]
  show (bif decide (s = E0) then _ else ((bif decide (s = tB) then some true else some (decide (s = fB)) : Option Bool).bind fun x => bif x then some (3, 0, 0, E0, decide (s = tB), 0) else _)) = _
  by_cases h0 : s = E0
  · rw [decide_eq_true h0, if_pos h0]; rfl
  rw [decide_eq_false h0, if_neg h0]
  by_cases h1 : s = tB
  · rw [decide_eq_true h1, if_pos (.inl h1)]; rfl
  rw [decide_eq_false h1]
  by_cases h2 : s = fB
  · rw [decide_eq_true h2, if_pos (.inr h2)]; rfl
  rw [decide_eq_false h2, if_neg (by simp [h1, h2])]
  simp only [cond_false, Option.bind_some]
  cases hc : (codeV s).2 with
  | true => rfl
  | false =>
    simp only [cond_false]
    rw [if_neg (by simp)]
    by_cases h40 : (parseV s).1 = 0
    · rw [decide_eq_true h40, if_pos h40]; rfl
    · rw [decide_eq_false h40, if_neg h40]; rfl
end Go.Proofs.YthpcgknknpjpdaaGreatDoor.W
namespace Go.Proofs.YthpcgknknpjpdaaGreatDoor.W
open Go Go.Q Go.Proofs Go.Dz
set_option linter.unusedVariables false
set_option linter.unusedSimpArgs false
theorem parse_tB : (parseV tB).1 = 40 := by kernel_rfl
theorem parse_fB : (parseV fB).1 = 40 := by kernel_rfl
theorem parse_E0 : (parseV E0).1 = 40 := by kernel_rfl
theorem parse_nm : ((List.range 8).all fun i => decide ((parseV (NM.getD i E0)).1 = 40)) = true := by kernel_rfl
theorem typed_nm : ((List.range 8).all fun i => decide (i = 0) || decide (typedV (NM.getD i E0) = ((4, 0, 0, E0, false, (i : Int)) : V))) = true := by kernel_rfl
theorem parse_nx {c e : Int} (h : Canon c e) : parseV (B (NX c e)) = (0, c, e) := by
  unfold parseV
  rw [NX_back _ (by omega) h]
  rfl
theorem typed_show {v : V} (h : Rt v) (h2 : v.1 ≠ 2) : typedV (showV v) = v := by
  cases h with
  | empty => rfl
  | @num c e h =>
    have hp := parse_nx h
    have h0 : showV (1, c, e, E0, false, 0) = B (NX c e) := rfl
    rw [h0]
    have ne : ∀ {t : ByteArray}, (parseV t).1 = 40 → ¬ B (NX c e) = t := fun ht k => by rw [← k, hp] at ht; exact absurd (show (0 : Int) = 40 from ht) (by decide)
    have nn : ∀ i, i < 8 → ¬ B (NX c e) = NM.getD i E0 := fun i hi => ne (of_decide_eq_true (List.all_eq_true.1 parse_nm i (List.mem_range.2 hi)))
    have hcode : (codeV (B (NX c e))).2 = false := by
      unfold codeV
      rw [if_neg (nn 1 (by omega)), if_neg (nn 2 (by omega)), if_neg (nn 3 (by omega)), if_neg (nn 4 (by omega)), if_neg (nn 5 (by omega)), if_neg (nn 6 (by omega)), if_neg (nn 7 (by omega))]
    unfold typedV
    rw [if_neg (ne parse_E0), if_neg (by rintro (k | k); exact ne parse_tB k; exact ne parse_fB k), hcode, if_neg (by decide), hp]
    simp only
    rw [if_pos trivial, ofV_num h]
    rfl
  | bool b =>
    cases b
    · show typedV fB = _
      unfold typedV
      rw [if_neg (fun k => by have := congrArg L k; exact absurd this (by decide)), if_pos (.inr rfl), decide_eq_false (fun k => tf_ne k.symm)]
    · show typedV tB = _
      unfold typedV
      rw [if_neg (fun k => by have := congrArg L k; exact absurd this (by decide)), if_pos (.inl rfl), decide_eq_true rfl]
  | text h => exact absurd rfl h2
  | @err r h =>
    obtain ⟨m, rfl⟩ : ∃ m : Nat, r = (m : Int) := ⟨r.toNat, by omega⟩
    have := List.all_eq_true.1 typed_nm m (List.mem_range.2 (by omega))
    rw [decide_eq_false (show ¬ m = 0 by omega), Bool.false_or] at this
    exact of_decide_eq_true this
theorem back (k c e : Int) (s : ByteArray) (b : Bool) (r : Int) (hc : I64 c) (he : I64 e) : g_quirelaw13_ValBack 41000 k c e s b r = some true := by
  unfold g_quirelaw13_ValBack
  rw [val_Right 41000 (by decide) hc he]
  simp only [Option.bind_some]
  cases hr : rightV (k, c, e, s, b, r) with
  | false =>
    simp only [Bool.not_false, cond_true, Option.bind_some, alive (show 40000 ≤ 41000 by decide)]
  | true =>
    simp only [Bool.not_true, cond_false, Option.bind_some]
    by_cases h2 : k = 2
    · rw [decide_eq_true h2]
      simp only [cond_true, Option.bind_some, alive (show 40000 ≤ 41000 by decide)]
    · rw [decide_eq_false h2]
      have ht := rightV_rt hr
      have hsz := okS_size (s := showV (k, c, e, s, b, r))
      simp only [cond_false]
      rw [val_Show 41000 (by decide) hc he, ht.clean]
      simp only [Option.bind_some]
      have hlen : (showV (k, c, e, s, b, r)).size ≤ 255 := by
        by_cases h4 : k = 4
        · subst h4
          cases ht with
          | @err r h =>
            show (NM.getD r.toNat E0).size ≤ 255
            have : ∀ m : Nat, m < 8 → (NM.getD m E0).size ≤ 255 := by decide
            exact this _ (by omega)
        · exact okS_size (show_ok ht h4)
      rw [val_Typed 41000 _ (by omega) (by omega), typed_show ht h2]
      simp only [Option.bind_some, eqB, decide_true, cond_true, alive (show 40000 ≤ 41000 by decide)]
theorem valBack (v : S_api_Value) (h : ((Lit.int .i64 v.fKind).wf = true) ∧ (((Lit.int .i64 v.fN.fC).wf = true) ∧ ((Lit.int .i64 v.fN.fE).wf = true) ∧ True) ∧ (v.fS.size ≤ maxLen) ∧ (True) ∧ ((Lit.int .i64 v.fE).wf = true) ∧ True) : ∃ k, g_quirelaw13_ValBack k v.fKind v.fN.fC v.fN.fE v.fS v.fB v.fE = some true := ⟨_, back _ _ _ _ _ _ (i64_I h.2.1.1) (i64_I h.2.1.2.1)⟩
end Go.Proofs.YthpcgknknpjpdaaGreatDoor.W
namespace Go.Proofs.YthpcgknknpjpdaaGreatDoor.W
open Go Go.Q Go.Proofs
set_option linter.unusedVariables false
set_option linter.unusedSimpArgs false
set_option maxRecDepth 100000
theorem var_heap {P : Program} {w : World} {n : String} {g : Nat} {cs : Array Value} (hg : P.globalNamed n = some g) (h : w.var? P n = some cs) : ∃ t z, w.heap[g]? = some (.cells cs t z) := by
  simp only [World.var?, hg, Option.bind_some] at h
  split at h
  · rename_i c t z hx
    simp only [Option.some.injEq] at h
    subst h
    exact ⟨_, _, hx⟩
  · cases h
/-- An array of structs of two whole numbers. -/
theorem cells_of_tab2 {H : Type} {enc : TypeId × Value → H} {P : Program} {w : World} {base : Nat} {sp : Nat → Bool} {held : Bool} {fuel : Nat} {t e : TypeId} {f0 f1 : Field} {n : Nat} {k0 k1 : IntKind} {cs : List Value} {zs : List (Int × Int)} {p : List MemPlace}
    (ht : P.underlying t = some (.array n e)) (he : P.underlying e = some (.struct #[f0, f1])) (h0 : P.underlying f0.type = some (.int k0)) (h1 : P.underlying f1.type = some (.int k1)) (o0 : f0.offset = 0) (o1 : f1.offset = 1) (c0 : P.cellsOf f0.type = 1) (c1 : P.cellsOf f1.type = 1) (hce : P.cellsOf e = 2) (hct : P.cellsOf t = n * 2)
    (h : DataW.trod enc P w base sp held fuel t cs = some (.agg (zs.map fun z => .agg [.lit (.int k0 z.1), .lit (.int k1 z.2)]), p)) : cs = zs.flatMap fun z => [Value.int k0 z.1, Value.int k1 z.2] := by
  cases fuel with
  | zero => simp [DataW.trod] at h
  | succ fuel =>
    simp only [DataW.trod, ht, hce, hct] at h
    split at h
    · rename_i hl
      obtain ⟨xs, hm, hx⟩ := Option.map_eq_some_iff.1 h
      have hxs : xs.map (·.1) = zs.map fun z => (DataW.agg [.lit (.int k0 z.1), .lit (.int k1 z.2)] : DataW H) := by
        have := congrArg Prod.fst hx
        simpa using this
      have hxl : xs.length = n := by simpa using Lib.mapM_length hm
      have hzl : zs.length = n := by
        have := congrArg List.length hxs
        simp at this
        omega
      have key : ∀ i, i < n → ∃ z, zs[i]? = some z ∧ (cs.drop (i * 2)).take 2 = [Value.int k0 z.1, Value.int k1 z.2] := by
        intro i hi
        obtain ⟨b, hb, hf⟩ := Lib.mapM_at hm i i (by simp [hi])
        obtain ⟨y0, y1, m, rfl, hlen, g0, g1⟩ := Go.ChangeShapes.trod_struct2 he hf
        rw [o0, c0] at g0
        rw [o1, c1] at g1
        obtain ⟨z0, hc0, e0, _⟩ := DataW.trod_int h0 g0
        obtain ⟨z1, hc1, e1, _⟩ := DataW.trod_int h1 g1
        subst e0 e1
        have h2 : (xs.map (·.1))[i]? = some (DataW.agg [.lit (.int k0 z0), .lit (.int k1 z1)] : DataW H) := by simp [hb]
        rw [hxs, List.getElem?_map, Option.map_eq_some_iff] at h2
        obtain ⟨z, hz, he2⟩ := h2
        simp at he2
        refine ⟨z, hz, ?_⟩
        rw [he2.1, he2.2]
        rw [hce] at hlen
        generalize (cs.drop (i * 2)).take 2 = u at *
        match u, hlen with
        | [a, b], _ =>
          simp at hc0 hc1
          rw [hc0, hc1]
      have all : ∀ (m : Nat) (zs : List (Int × Int)) (cs : List Value), zs.length = m → cs.length = m * 2 → (∀ i, i < m → ∃ z, zs[i]? = some z ∧ (cs.drop (i * 2)).take 2 = [Value.int k0 z.1, Value.int k1 z.2]) → cs = zs.flatMap fun z => [Value.int k0 z.1, Value.int k1 z.2] := by
        intro m
        induction m with
        | zero =>
          intro zs cs hz hc _
          have : zs = [] := List.eq_nil_of_length_eq_zero hz
          subst this
          simpa using List.eq_nil_of_length_eq_zero hc
        | succ m ih =>
          intro zs cs hz hc hk
          match zs, hz with
          | z :: zs, hz =>
            obtain ⟨z', hz', hk0⟩ := hk 0 (by omega)
            simp at hz' hk0
            subst hz'
            match cs, hc with
            | a :: b :: cs, hc =>
              simp at hk0
              rw [hk0.1, hk0.2, List.flatMap_cons, ← ih zs cs (by simpa using hz) (by simp at hc; omega) fun i hi => ?_]
              · rfl
              · obtain ⟨y, hy1, hy2⟩ := hk (i + 1) (by omega)
                refine ⟨y, by simpa using hy1, ?_⟩
                rw [show (i + 1) * 2 = i * 2 + 1 + 1 by omega] at hy2
                simpa using hy2
            | [], hc => simp at hc
            | [a], hc => simp at hc; omega
      exact all n zs cs hzl hl key
    · cases h
theorem gAcc : Tryz.prog.globalNamed "unicode/utf8.acceptRanges" = some 1 := by kernel_rfl
theorem gFirst : Tryz.prog.globalNamed "unicode/utf8.first" = some 0 := by kernel_rfl
theorem tAcc : (Tryz.prog.globals[1]?).map (·.type) = some 136 := by kernel_rfl
theorem tFirst : (Tryz.prog.globals[0]?).map (·.type) = some 133 := by kernel_rfl
theorem htb {W : World} (h : laidMetH Tryz.prog [("unicode/utf8.acceptRanges", Rows.laid_unicode_utf8_acceptRanges), ("unicode/utf8.first", Rows.laid_unicode_utf8_first)] W) :
    ∀ g l, tabs g = some l → ∃ c t z, W.heap[g]? = some (.cells c t z) ∧ c.toList.take l.length = l := by
  rw [MakeChecks.laidMetH_plain _ _ _ (by kernel_rfl)] at h
  obtain ⟨ps, ⟨g0, t0, cs0, f0, p0, q0, hg0, ht0, hv0, hd0, ⟨g1, t1, cs1, f1, p1, q1, hg1, ht1, hv1, hd1, _, _⟩, _⟩, _, _⟩ := h
  obtain rfl := Option.some.inj (gAcc.symm.trans hg0)
  obtain rfl := Option.some.inj (gFirst.symm.trans hg1)
  obtain rfl := Option.some.inj (tAcc.symm.trans ht0)
  obtain rfl := Option.some.inj (tFirst.symm.trans ht1)
  have e0 : cs0.toList = vs1 := cells_of_tab2 (zs := tab1) Tryz.underlying136 Tryz.underlying135 Tryz.underlying5 Tryz.underlying5 rfl rfl (by kernel_rfl) (by kernel_rfl) (by kernel_rfl) (by kernel_rfl) hd0
  have hf : Rows.laid_unicode_utf8_first = Lib.tabData .u8 tab0 := by kernel_rfl
  rw [hf] at hd1
  have e1 : cs1.toList = tab0.map (Value.int .u8) := Lib.cells_of_tab Tryz.underlying133 Tryz.underlying5 (by kernel_rfl) (by kernel_rfl) hd1
  obtain ⟨ta, za, ha⟩ := var_heap gAcc hv0
  obtain ⟨tf, zf, hf⟩ := var_heap gFirst hv1
  intro g l hl
  unfold tabs at hl
  split at hl
  · rename_i hg; subst hg
    cases hl
    exact ⟨cs1, tf, zf, hf, by rw [e1, List.take_length]⟩
  · split at hl
    · rename_i hg; subst hg
      cases hl
      exact ⟨cs0, ta, za, ha, by rw [e0, List.take_length]⟩
    · cases hl
end Go.Proofs.YthpcgknknpjpdaaGreatDoor.W
