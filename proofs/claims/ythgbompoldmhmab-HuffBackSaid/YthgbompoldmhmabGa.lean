/- HuffBack: the pure part. -/
import Derived.Test.YthgbompoldmhmabPh4
import Derived.Test.YthgbompoldmhmabPb1
namespace Go.Proofs.Ythgbompoldmhmab.W
open Go Go.Q Go.Proofs
set_option linter.unusedVariables false
set_option linter.unusedSimpArgs false

theorem alive {k : Nat} (hk : 64 ≤ k) : g_quirelaw02_alive k = some true := (g_quirelaw02_alive_mono hk).h _ (by kernel_rfl)

/-- The bits of a symbol's code, as they are written. -/
def codeBits (l : List Int) (s : Int) : List Bool := (List.range (l.getD s.toNat 0).toNat).map fun j => (cd l s.toNat).testBit ((l.getD s.toNat 0).toNat - 1 - j)
theorem codeBits_length (l : List Int) (s : Int) : (codeBits l s).length = (l.getD s.toNat 0).toNat := by simp [codeBits]
def allCodes (l : List Int) (p : List Int) : List Bool := (p.map (codeBits l)).flatten
/-- Symbols that have codes. -/
def okSyms (l p : List Int) : Prop := ∀ s ∈ p, 0 ≤ s ∧ s < l.length ∧ 0 < l.getD s.toNat 0

theorem len_le {l : List Int} (h : (judge l).2 = 0) (i : Nat) : (l.getD i 0).toNat ≤ 15 := by
  obtain ⟨hl, hb, _⟩ := judge_ok h
  rw [List.getD_eq_getElem?_getD]
  cases hi : l[i]? with
  | none => simp
  | some x =>
    have : ¬ badX x := fun hx => hb ⟨x, List.mem_of_getElem? hi, hx⟩
    unfold badX at this
    simp only [Option.getD_some]; omega

theorem back_l2 (k : Nat) (hk : 400 ≤ k) (l : List Int) (h : (judge l).2 = 0) (sy : List Int) (hsy : ∀ x ∈ sy, (Lit.int .i64 x).wf = true) (ul : sy.length ≤ 17592186043904) : ∀ (n i : Nat) (m : Int) (b p : List Int), i ≤ sy.length → sy.length - i < n → Wr m b (allCodes l p) → okSyms l p → p.length ≤ i →
    ∃ m' b' p', g_quirelaw02_HuffBack_l2 k l sy (codesL l).1 n i m b p = some (m', b', p') ∧ Wr m' b' (allCodes l p') ∧ okSyms l p' ∧ p'.length ≤ sy.length := by
  obtain ⟨hl, hb, _⟩ := judge_ok h
  have bound : ∀ p : List Int, (allCodes l p).length ≤ 15 * p.length := by
    intro p
    induction p with
    | nil => simp [allCodes]
    | cons s p ih =>
      have := len_le h s.toNat
      have e : allCodes l (s :: p) = codeBits l s ++ allCodes l p := rfl
      rw [e, List.length_append, codeBits_length, List.length_cons]; omega
  intro n
  induction n with
  | zero => intro i m b p _ h; omega
  | succ n ih =>
    intro i m b p hi hn hw hp hpl
    rw [g_quirelaw02_HuffBack_l2.eq_2]
    simp only [Option.bind_some, bd]
    by_cases hil : i < sy.length
    · have ei : ix sy (i : Int) = some sy[i] := ix_nat hil
      rw [if_pos (by omega), ei, wsucc (by omega)]
      simp only [Option.bind_some]
      generalize hs : sy[i] = s
      have hsw := i64_wf (hsy _ (List.getElem_mem hil))
      rw [hs] at hsw
      by_cases hok : 0 ≤ s ∧ s < l.length ∧ 0 < l.getD s.toNat 0
      · obtain ⟨h0, h1, h2⟩ := hok
        have hsl : s.toNat < l.length := by omega
        have eg : l.getD s.toNat 0 = l[s.toNat] := by rw [List.getD_eq_getElem?_getD, List.getElem?_eq_getElem hsl]; rfl
        have el : ix l s = some l[s.toNat] := ix_int h0 h1
        have ec : ix (codesL l).1 s = some (cd l s.toNat : Int) := by
          unfold ix
          rw [if_pos h0]
          exact codesL_get h hsl (by rw [← eg]; exact h2)
        rw [if_pos h0, if_pos h1, el]
        rw [eg] at h2
        have h15 := len_le h s.toNat
        rw [eg] at h15
        obtain ⟨L, hL⟩ : ∃ L : Nat, l[s.toNat] = (L : Int) := ⟨l[s.toNat].toNat, by omega⟩
        have hcdl : cd l s.toNat < 4294967296 := by
          have hs16 := tot_le h
          have h3 := (cd_lt hsl (c := L) (by omega) hL (by omega)).2
          have h4 := sr_mono l 16 (L + 1) (by omega)
          have h5 : 1 ≤ 2 ^ (15 - L) := Nat.one_le_two_pow
          have h6 := Nat.mul_le_mul_left (cd l s.toNat + 1) h5
          simp only [tot] at hs16; omega
        have ebv : (cd l s.toNat : Int) = ((BitVec.ofNat 32 (cd l s.toNat)).toNat : Int) := by
          rw [BitVec.toNat_ofNat, Nat.mod_eq_of_lt (by omega)]
        obtain ⟨r, r1, r2⟩ := g_bits_Reverse_bits k (BitVec.ofNat 32 (cd l s.toNat)) (L : Int)
        have hcut : cut (L : Int) = L := by unfold cut; rw [if_neg (by omega), if_neg (by omega)]; omega
        rw [hcut] at r2
        have hlen := bound p
        obtain ⟨m', b', g1, g2⟩ := g_bits_Writer_Put__b_ok (k := k) (by omega) r L (by omega) hw (by omega)
        have hbits : bitsOf r L = codeBits l s := by
          unfold bitsOf codeBits
          rw [eg, hL, Int.toNat_natCast]
          apply List.map_congr_left
          intro j hj
          have hj' : j < L := by simpa using hj
          rw [r2 j, decide_eq_true hj', Bool.true_and, BitVec.getLsbD_ofNat]
          simp; omega
        have hp' : allCodes l (p ++ [s]) = allCodes l p ++ codeBits l s := by simp [allCodes]
        rw [hL] at h2 ⊢
        simp only [Option.bind_some, ec, dt h2, bt]
        rw [ebv, r1]
        simp only [Option.bind_some, g1]
        rw [if_pos (by simp; omega)]
        simp only [Option.bind_some]
        rw [hbits, ← hp'] at g2
        refine ih (i + 1) m' b' (p ++ [s]) (by omega) (by omega) g2 (fun x hx => ?_) (by simp; omega)
        rcases List.mem_append.1 hx with hx | hx
        · exact hp x hx
        · have : x = s := by simpa using hx
          subst this
          exact ⟨h0, h1, by rw [eg, hL]; exact h2⟩
      · have e : ((if 0 ≤ s then if s < (l.length : Int) then (ix l s).bind fun x => some (decide (0 < x)) else some false else some false) : Option Bool) = some false := by
          by_cases h0 : 0 ≤ s
          · rw [if_pos h0]
            by_cases h1 : s < (l.length : Int)
            · have hsl : s.toNat < l.length := by omega
              have eg : l.getD s.toNat 0 = l[s.toNat] := by rw [List.getD_eq_getElem?_getD, List.getElem?_eq_getElem hsl]; rfl
              rw [if_pos h1, ix_int h0 h1, Option.bind_some, df]
              intro h2
              exact hok ⟨h0, h1, by rw [eg]; exact h2⟩
            · rw [if_neg h1]
          · rw [if_neg h0]
        rw [e]
        simp only [Option.bind_some, bf]
        exact ih (i + 1) m b p (by omega) (by omega) hw hp (by omega)
    · rw [if_neg (by omega)]
      exact ⟨m, b, p, rfl, hw, hp, by omega⟩

/-- A written bit, as it is taken. -/
theorem tk_bit {b : List Int} (hb : okB b) (a : Nat) : tk b a = (bitAt b a).toNat := by
  unfold tk bitAt
  have h : 0 ≤ b.getD (a / 8) 0 ∧ b.getD (a / 8) 0 ≤ 255 := by
    rw [List.getD_eq_getElem?_getD]
    cases hx : b[a / 8]? with
    | none => simp
    | some x => simpa using hb x (List.mem_of_getElem? hx)
  generalize b.getD (a / 8) 0 = x at *
  obtain ⟨v, rfl⟩ : ∃ v : Nat, x = (v : Int) := ⟨x.toNat, by omega⟩
  rw [BitVec.ofInt_natCast, BitVec.getLsbD_ofNat, Int.toNat_natCast, Nat.testBit_eq_decide_div_mod_eq]
  have : a % 8 < 8 := Nat.mod_lt _ (by decide)
  simp only [this, decide_true, Bool.true_and]
  by_cases hq : v / 2 ^ (a % 8) % 2 = 1
  · simp [hq]
  · simp [hq]; omega

theorem back_l3 (k : Nat) (hk : 400 ≤ k) (l : List Int) (h : (judge l).2 = 0) (cs sy : List Int) (hd : Dec l cs sy) (p : List Int) (hp : okSyms l p) (hpl : p.length ≤ 17592186043904) (m : Int) (b : List Int) (hw : Wr m b (allCodes l p)) (hbl : b.length ≤ 140737488355328) :
    ∀ (n i a : Nat), i ≤ p.length → p.length - i < n → a = (allCodes l (p.take i)).length →
    ∃ a', g_quirelaw02_HuffBack_l3 k cs sy p n i (b.drop (a / 8)) ((a % 8 : Nat) : Int) = some (Sum.inr (b.drop (a' / 8), ((a' % 8 : Nat) : Int))) ∧ a' = (allCodes l p).length := by
  intro n
  induction n with
  | zero => intro i a _ h; omega
  | succ n ih =>
    intro i a hi hn ha
    rw [g_quirelaw02_HuffBack_l3.eq_2]
    simp only [Option.bind_some, bd, bnd']
    by_cases hil : i < p.length
    · have ei : ix p (i : Int) = some p[i] := ix_nat hil
      obtain ⟨h0, h1, h2⟩ := hp _ (List.getElem_mem hil)
      have hsl : p[i].toNat < l.length := by omega
      have eg : l.getD p[i].toNat 0 = l[p[i].toNat] := by rw [List.getD_eq_getElem?_getD, List.getElem?_eq_getElem hsl]; rfl
      have h15 := len_le h p[i].toNat
      rw [eg] at h2 h15
      obtain ⟨L, hL⟩ : ∃ L : Nat, l[p[i].toNat] = (L : Int) := ⟨l[p[i].toNat].toNat, by omega⟩
      have hcb : (codeBits l p[i]).length = L := by rw [codeBits_length, eg, hL]; rfl
      -- where its bits stand
      have hall : allCodes l p = allCodes l (p.take i) ++ (codeBits l p[i] ++ allCodes l (p.drop (i + 1))) := by
        have e : p = p.take i ++ p[i] :: p.drop (i + 1) := by rw [← drop_cons hil, List.take_append_drop]
        have e2 : ∀ x y : List Int, allCodes l (x ++ y) = allCodes l x ++ allCodes l y := by intro x y; simp [allCodes]
        have e3 : ∀ x y, allCodes l (x :: y) = codeBits l x ++ allCodes l y := fun _ _ => rfl
        rw [← e3, ← e2, ← e]
      have hlen : (allCodes l p).length = a + (L + (allCodes l (p.drop (i + 1))).length) := by rw [hall, List.length_append, List.length_append, hcb, ← ha]
      have hbits : ∀ j, j < L → tk b (a + j) = ((cd l p[i].toNat).testBit (L - 1 - j)).toNat := by
        intro j hj
        rw [tk_bit hw.ok, hw.bit, hall, List.getD_eq_getElem?_getD, List.getElem?_append_right (by omega), ← ha, List.getElem?_append_left (by omega), show a + j - a = j by omega]
        unfold codeBits
        rw [eg, hL, Int.toNat_natCast, List.getElem?_map, List.getElem?_range hj]
        rfl
      have hl8 : a + L ≤ 8 * b.length := by have := hw.l; omega
      have key := dec_next k hk l h cs sy hd b hw.ok hbl p[i].toNat L a hsl hL (by omega) hl8 hbits
      have es : ((p[i].toNat : Nat) : Int) = p[i] := by omega
      rw [if_pos (by omega), key, wsucc (by omega)]
      simp only [Option.bind_some, if_true, ei, es, decide_true, Bool.not_true, bf]
      exact ih (i + 1) (a + L) (by omega) (by omega) (by
        have e : p.take (i + 1) = p.take i ++ [p[i]] := by rw [List.take_succ_eq_append_getElem hil]
        rw [e]
        simp only [allCodes, List.map_append, List.flatten_append, List.length_append, List.map_cons, List.map_nil, List.flatten_cons, List.flatten_nil, List.append_nil] at *
        omega)
    · rw [if_neg (by omega)]
      refine ⟨a, rfl, ?_⟩
      rw [ha, List.take_of_length_le (by omega)]

theorem huffBack (l sy : List Int) (hl : l.length ≤ maxLen ∧ ∀ x ∈ l, (Lit.int .i64 x).wf = true) (hs : sy.length ≤ maxLen ∧ ∀ x ∈ sy, (Lit.int .i64 x).wf = true) (ul : l.length * 8 ≤ 140737488351232) (us : sy.length * 8 ≤ 140737488351232) : ∃ k, g_quirelaw02_HuffBack k l sy = some true := by
  refine ⟨sy.length + 500, ?_⟩
  have hk : 400 ≤ sy.length + 500 := by omega
  have h64 : 64 ≤ sy.length + 500 := by omega
  have h330 : 330 ≤ sy.length + 500 := by omega
  have hkn : sy.length - 0 < sy.length + 500 := by omega
  have hkk : sy.length + 1 ≤ sy.length + 500 := by omega
  generalize sy.length + 500 = k at *
  have h19 := g_huff_New_ok (k := k) h330 (l := l)
  unfold g_quirelaw02_HuffBack
  by_cases h : (judge l).2 = 0
  · rw [if_pos h] at h19
    obtain ⟨cs, syms, e19, hd⟩ := h19
    have hc : (codesL l).2 = 0 := by unfold codesL; rw [if_pos h]
    obtain ⟨m, b, p, e2, hw, hp, hpl⟩ := back_l2 k hk l h sy hs.2 (by omega) k 0 0 [] [] (by omega) hkn Wr.nil (by simp [okSyms]) (by simp)
    have e2' : g_quirelaw02_HuffBack_l2 k l sy (codesL l).1 k 0 0 [] [] = _ := e2
    have hB : (allCodes l p).length ≤ 15 * p.length := by
      clear e2 e2' hw hp hpl
      induction p with
      | nil => simp [allCodes]
      | cons s p ih =>
        have := len_le h s.toNat
        have e : allCodes l (s :: p) = codeBits l s ++ allCodes l p := rfl
        rw [e, List.length_append, codeBits_length, List.length_cons]; omega
    have hbl : b.length ≤ 140737488355328 := by have := hw.l; omega
    have ed : g_bits_Writer_Done k m b = some b := by
      unfold g_bits_Writer_Done g_slices_Clone_byte_byte
      rw [dt (show (List.length ([] : List Int) + List.length b) * 1 ≤ 140737488355328 by simp; omega)]
      rfl
    have en : g_bits_NewReader k b = some b := by
      unfold g_bits_NewReader g_slices_Clone_byte_byte__b
      rw [dt (show (List.length ([] : List Int) + List.length b) * 1 ≤ 140737488355328 by simp; omega)]
      rfl
    obtain ⟨a', e3, ha'⟩ := back_l3 k hk l h cs syms hd p hp (by omega) m b hw hbl k 0 0 (by omega) (by omega) (by simp [allCodes])
    have e3' : g_quirelaw02_HuffBack_l3 k cs syms p k 0 b 0 = _ := e3
    have hwl := hw.l
    have el : g_bits_Reader_Left k (b.drop (a' / 8)) ((a' % 8 : Nat) : Int) = some ((8 * b.length - a' : Nat) : Int) := by
      unfold g_bits_Reader_Left
      rw [List.length_drop]
      simp only [Option.bind_some]
      rw [wi (n := 8 * ((b.length - a' / 8 : Nat) : Int)) (by omega) (by omega), wi (by omega) (by omega)]
      congr 1; omega
    rw [g_huff_Codes_eq h330, e19]
    simp only [Option.bind_some, hc, decide_true, Bool.not_true, bf, alive h64, g_bits_NewWriter, e2', ed, en, e3', el]
    rw [dt (by omega)]
  · rw [if_neg h] at h19
    have hc : (codesL l).2 = (judge l).2 := by unfold codesL; rw [if_neg h]
    rw [g_huff_Codes_eq h330, h19]
    simp only [Option.bind_some, hc, decide_true, Bool.not_true, bf, df h, Bool.not_false, bt, alive h64]
end Go.Proofs.Ythgbompoldmhmab.W
