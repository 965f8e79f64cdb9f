/- DEFLATE: what rows of lengths and lists of items tell. -/
import Derived.Test.YtbknkbenbccabaaFm
import Derived.Test.YtbknkbenbccabaaQt
import Derived.KernelRfl
namespace Go.Proofs.Ytbknkbenbccabaa.W
open Go Go.Q Go.Proofs
set_option linter.unusedVariables false
set_option linter.unusedSimpArgs false

theorem alive {k : Nat} (hk : 64 ≤ k) : g_quirelaw04_alive k = some true := (g_quirelaw04_alive_mono hk).h _ (by kernel_rfl)

/-! ### Items -/
def conv (x : S_quireref04_Item) : S_deflate_Item := ⟨x.fByte, x.fLen, x.fDist⟩
theorem u1_eq (k : Nat) (x : S_quireref04_Item) : ∀ (n : Nat) (i : Int) (o : List Int), g_quireref04_Unparse_l1 k x n i o = g_deflate_Unparse_l1 k (conv x) n i o
  | 0, _, _ => rfl
  | n + 1, i, o => by
    rw [g_quireref04_Unparse_l1.eq_2, g_deflate_Unparse_l1.eq_2]
    simp only [u1_eq k x n]
    rfl
theorem u1 (k : Nat) (x : S_deflate_Item) (hd : 1 ≤ x.fDist) (hl : x.fLen ≤ 258) : ∀ (n : Nat) (i : Int) (o : List Int), 0 ≤ i → i ≤ x.fLen → x.fLen - i < n → x.fDist ≤ o.length → o.length + (x.fLen - i) ≤ 1048576 →
    Ret (g_deflate_Unparse_l1 k x n i o) fun r => r.length ≤ 1048576 := by
  intro n
  induction n with
  | zero => intro i o _ _ h; omega
  | succ n ih =>
    intro i o h0 h1 h2 h3 h4
    rw [g_deflate_Unparse_l1.eq_2]
    simp only [bd]
    by_cases hi : i < x.fLen
    · rw [if_pos hi, wi (by omega) (by omega)]
      simp only [Option.bind_some]
      rw [ix_int (by omega) (by omega)]
      simp only [Option.bind_some]
      rw [if_pos (by simp; omega), wi (by omega) (by omega)]
      exact ih _ _ (by omega) (by omega) (by omega) (by simp; omega) (by simp; omega)
    · rw [if_neg hi]
      exact Ret.pure (by omega)

theorem u0 (k : Nat) (hk : 300 ≤ k) (l : List S_quireref04_Item) (ul : l.length * 24 ≤ 140737488351232) : ∀ (n i : Nat) (o : List Int), i ≤ l.length → l.length - i < n → o.length ≤ 1048576 →
    ∃ r, g_deflate_Unparse_l0 k (l.map conv) n i o = some r ∧ g_quireref04_Unparse_l0 k l n i o = some r := by
  intro n
  induction n with
  | zero => intro i o _ h; omega
  | succ n ih =>
    intro i o hi hn ho
    rw [g_deflate_Unparse_l0.eq_2, g_quireref04_Unparse_l0.eq_2]
    simp only [Option.bind_some, aS, oS, naS, noS, List.length_map]
    by_cases hil : i < l.length
    · have hc : (i : Int) < (l.length : Int) := by omega
      rw [dt hc, bt, bt, ix_nat hil, ix_nat (by simpa using hil), List.getElem_map]
      generalize l[i] = x
      rw [wi (n := (i : Int) + 1) (by omega) (by omega), wi (n := 1048576 - (o.length : Int)) (by omega) (by omega)]
      have es : ((i : Int) + 1) = ((i + 1 : Nat) : Int) := by omega
      simp only [Option.bind_some, conv, es, bP, Bool.and_eq_true, Bool.or_eq_true, decide_eq_true_eq, Bool.not_eq_true', decide_eq_false_iff_not]
      have r1 := fun (h1 : 1 ≤ x.fDist) (h2 : x.fLen ≤ 258) (h3 : 0 ≤ x.fLen) (h4 : x.fDist ≤ o.length) (h5 : x.fLen ≤ 1048576 - (o.length : Int)) => u1 k (conv x) h1 h2 k 0 o (by omega) (by show 0 ≤ x.fLen; omega) (by show x.fLen - 0 < k; omega) h4 (by show _ + (x.fLen - 0) ≤ _; omega)
      simp only [u1_eq]
      have g1 : (o.length + [IntKind.wrap .u8 x.fByte].length) * 1 ≤ 140737488355328 := by simp; omega
      obtain ⟨mn, hmn⟩ : ∃ mn : Int, (if (o.length : Int) < 32768 then (o.length : Int) else 32768) = mn := ⟨_, rfl⟩
      have hmn2 : mn ≤ o.length ∧ mn ≤ 32768 ∧ (mn = o.length ∨ mn = 32768) := by rw [← hmn]; split <;> omega
      simp only [hmn]
      by_cases hA : x.fLen = 0 ∧ 0 ≤ x.fByte ∧ x.fByte < 256 ∧ x.fDist = 0 ∧ (o.length : Int) < 1048576
      · rw [if_pos hA, if_pos hA.1, if_neg (show ¬ (x.fByte < 0 ∨ 255 < x.fByte ∨ ¬x.fDist = 0 ∨ (1048576 : Int) ≤ o.length) by omega), if_pos g1, if_pos g1]
        simp only [Option.bind_some]
        exact ih (i + 1) _ (by omega) (by omega) (by simp; omega)
      · rw [if_neg hA]
        by_cases hL : x.fLen = 0
        · rw [if_neg (show ¬ (x.fByte = 0 ∧ 3 ≤ x.fLen ∧ x.fLen ≤ 258 ∧ 1 ≤ x.fDist ∧ x.fDist ≤ mn ∧ x.fLen ≤ 1048576 - (o.length : Int)) by omega), if_pos hL,
            if_pos (show (x.fByte < 0 ∨ 255 < x.fByte ∨ ¬x.fDist = 0 ∨ (1048576 : Int) ≤ o.length) by omega)]
          exact ⟨_, rfl, rfl⟩
        · rw [if_neg hL]
          by_cases hB : x.fByte = 0 ∧ 3 ≤ x.fLen ∧ x.fLen ≤ 258 ∧ 1 ≤ x.fDist ∧ x.fDist ≤ mn ∧ x.fLen ≤ 1048576 - (o.length : Int)
          · rw [if_pos hB, if_neg (show ¬ (¬x.fByte = 0 ∨ x.fLen < 3 ∨ 258 < x.fLen ∨ x.fDist < 1 ∨ 32768 < x.fDist ∨ (o.length : Int) < x.fDist ∨ 1048576 - (o.length : Int) < x.fLen) by omega)]
            obtain ⟨r, r2, r3⟩ := r1 (by omega) (by omega) (by omega) (by omega) (by omega)
            have r2' : g_deflate_Unparse_l1 k ⟨x.fByte, x.fLen, x.fDist⟩ k 0 o = some r := r2
            simp only [r2, r2', Option.bind_some]
            exact ih (i + 1) _ (by omega) (by omega) r3
          · rw [if_neg hB, if_pos (show (¬x.fByte = 0 ∨ x.fLen < 3 ∨ 258 < x.fLen ∨ x.fDist < 1 ∨ 32768 < x.fDist ∨ (o.length : Int) < x.fDist ∨ 1048576 - (o.length : Int) < x.fLen) by omega)]
            exact ⟨_, rfl, rfl⟩
    · have hc : ¬ (i : Int) < (l.length : Int) := by omega
      rw [df hc]
      exact ⟨_, rfl, rfl⟩

theorem d0 (k : Nat) (l : List S_quireref04_Item) (ul : l.length * 24 ≤ 140737488351232) : ∀ (n i : Nat) (o : List S_deflate_Item), i ≤ l.length → l.length - i < n → o = (l.take i).map conv →
    g_quirelaw04_DeflateUnparse_l0 k l n i o = some (l.map conv) := by
  intro n
  induction n with
  | zero => intro i o _ h; omega
  | succ n ih =>
    intro i o hi hn ho
    rw [g_quirelaw04_DeflateUnparse_l0.eq_2]
    simp only [Option.bind_some, bd]
    by_cases hil : i < l.length
    · rw [if_pos (by omega), ix_nat hil]
      simp only [Option.bind_some]
      have hol : o.length = i := by rw [ho]; simp; omega
      rw [if_pos (by simp; omega), wi (n := (i : Int) + 1) (by omega) (by omega), show ((i : Int) + 1) = ((i + 1 : Nat) : Int) by omega]
      refine ih (i + 1) _ (by omega) (by omega) ?_
      rw [ho, List.take_succ_eq_append_getElem hil, List.map_append]
      rfl
    · rw [if_neg (by omega), ho, List.take_of_length_le (by omega)]

theorem same (k : Nat) (a : List Int) : g_quirelaw01_Same k a a = some true := by
  unfold g_quirelaw01_Same
  simp

theorem deflateUnparse (l : List S_quireref04_Item) (hl : l.length ≤ maxLen ∧ ∀ x ∈ l, ((Lit.int .i64 x.fByte).wf = true) ∧ ((Lit.int .i64 x.fLen).wf = true) ∧ ((Lit.int .i64 x.fDist).wf = true) ∧ True) (ul : l.length * 24 ≤ 140737488351232) : ∃ k, g_quirelaw04_DeflateUnparse k l = some true := by
  obtain ⟨k, hk⟩ : ∃ k : Nat, k = l.length + 400 := ⟨_, rfl⟩
  refine ⟨k, ?_⟩
  unfold g_quirelaw04_DeflateUnparse g_deflate_Unparse g_quireref04_Unparse
  have e1 := d0 k l ul k 0 [] (by omega) (by omega) (by simp)
  obtain ⟨r, e2, e3⟩ := u0 k (by omega) l ul k 0 [] (by omega) (by omega) (by simp)
  have e1' : g_quirelaw04_DeflateUnparse_l0 k l k 0 [] = some (l.map conv) := e1
  have e2' : g_deflate_Unparse_l0 k (l.map conv) k 0 [] = some r := e2
  have e3' : g_quireref04_Unparse_l0 k l k 0 [] = some r := e3
  rw [e1', Option.bind_some, e2', e3']
  rcases r with _ | o
  · simp [same, alive (show 64 ≤ k by omega)]
  · simp [same, alive (show 64 ≤ k by omega)]

/-! ### Rows of lengths -/
def cl (x : Int) : Int := if x < 0 ∨ 15 < x then 0 else x
theorem cl_le (x : Int) : 0 ≤ cl x ∧ cl x ≤ 15 := by unfold cl; split <;> omega
theorem clean {k : Nat} {l : List Int} {i : Nat} (h : i < l.length) : g_deflate_Lengths_2 k i l = some (cl l[i]) := by
  unfold g_deflate_Lengths_2 cl
  rw [ix_nat h]
  simp only [Option.bind_some, bd]
  by_cases h1 : l[i] < 0
  · rw [if_pos h1, if_pos (.inl h1)]; rfl
  · by_cases h2 : 15 < l[i]
    · rw [if_neg h1, if_pos (.inr h2), dt h2]; rfl
    · rw [if_neg h1, if_neg (by omega), df h2]; rfl

def more (r : List Int) (p : Int × Int) : List Int :=
  if p.1 = 16 then List.replicate (3 + p.2).toNat (r.getD (r.length - 1) 0) else if p.1 = 17 then List.replicate (3 + p.2).toNat 0 else if p.1 = 18 then List.replicate (11 + p.2).toNat 0 else [p.1]
def rowOf (p : List (Int × Int)) : List Int := p.foldl (fun r q => r ++ more r q) []
theorem rowOf_app (p : List (Int × Int)) (q : Int × Int) : rowOf (p ++ [q]) = rowOf p ++ more (rowOf p) q := by simp [rowOf]
def okQ (r : List Int) (q : Int × Int) : Prop := 0 ≤ q.1 ∧ q.1 ≤ 18 ∧ 0 ≤ q.2 ∧ (q.1 < 16 → q.2 = 0) ∧ (q.1 = 16 → q.2 ≤ 3 ∧ 0 < r.length) ∧ (q.1 = 17 → q.2 ≤ 7) ∧ (q.1 = 18 → q.2 ≤ 127)
def okP (p : List (Int × Int)) : Prop := ∀ j (h : j < p.length), okQ (rowOf (p.take j)) p[j]
theorem okP_nil : okP [] := by intro j h; simp at h
theorem okP_app {p : List (Int × Int)} {q : Int × Int} (h : okP p) (hq : okQ (rowOf p) q) : okP (p ++ [q]) := by
  intro j hj
  by_cases hp : j < p.length
  · rw [List.take_append_of_le_length (by omega), List.getElem_append_left hp]
    exact h j hp
  · have : j = p.length := by simp at hj; omega
    subst this
    simpa using hq
theorem run_app {l : List Int} {v : Int} {i : Nat} : ∀ (m : Nat), i + m ≤ l.length → (∀ t, t < m → cl (l.getD (i + t) 0) = v) → (l.take (i + m)).map cl = (l.take i).map cl ++ List.replicate m v
  | 0, _, _ => by simp
  | m + 1, h1, h2 => by
    rw [← Nat.add_assoc, List.take_succ_eq_append_getElem (by omega), List.map_append, run_app m (by omega) (fun t ht => h2 t (by omega)), List.replicate_succ', ← List.append_assoc]
    have := h2 m (by omega)
    rw [List.getD_eq_getElem?_getD, List.getElem?_eq_getElem (by omega)] at this
    simp only [Option.getD_some] at this
    simp [this]

theorem r1 (k : Nat) (l : List Int) (ul : l.length * 8 ≤ 140737488351232) (i : Nat) (v : Int) : ∀ (n m : Nat), i + m ≤ l.length → l.length - (i + m) < n → (∀ t, t < m → cl (l.getD (i + t) 0) = v) →
    Ret (g_deflate_Lengths_l1 k l i v n m) fun r => ∃ m' : Nat, r = m' ∧ m ≤ m' ∧ i + m' ≤ l.length ∧ ∀ t, t < m' → cl (l.getD (i + t) 0) = v := by
  intro n
  induction n with
  | zero => intro m _ h; omega
  | succ n ih =>
    intro m h1 h2 h3
    rw [g_deflate_Lengths_l1.eq_2, wi (n := (i : Int) + m) (by omega) (by omega)]
    simp only [Option.bind_some, bd]
    by_cases hi : i + m < l.length
    · rw [if_pos (by omega), show ((i : Int) + m) = ((i + m : Nat) : Int) by omega, clean hi]
      simp only [Option.bind_some]
      by_cases hv : cl l[i + m] = v
      · rw [dt hv, wi (by omega) (by omega)]
        simp only [bt]
        rw [show ((m : Int) + 1) = ((m + 1 : Nat) : Int) by omega]
        refine Ret.mono (ih (m + 1) (by omega) (by omega) fun t ht => ?_) fun r ⟨m', e1, e2, e3, e4⟩ => ⟨m', e1, by omega, e3, e4⟩
        by_cases htm : t < m
        · exact h3 t htm
        · have : t = m := by omega
          subst this
          rw [List.getD_eq_getElem?_getD, List.getElem?_eq_getElem hi]
          exact hv
      · rw [df hv]
        exact Ret.pure ⟨m, rfl, by omega, h1, h3⟩
    · rw [if_neg (by omega)]
      exact Ret.pure ⟨m, rfl, by omega, h1, h3⟩

theorem add1 {k : Nat} {a b : Int} {s x : List Int} (hs : (s.length + 1) * 8 ≤ 140737488355328) (hx : (x.length + 1) * 8 ≤ 140737488355328) : g_deflate_Lengths_1__b k a b s x = some () := by
  unfold g_deflate_Lengths_1__b
  rw [dt (by simpa using hs), dt (by simpa using hx)]
  rfl

theorem lens (k : Nat) (l : List Int) (hk : l.length + 1 < k) (ul : l.length * 8 ≤ 140737488351232) : ∀ (n i : Nat) (p : List (Int × Int)), i ≤ l.length → l.length - i < n → rowOf p = (l.take i).map cl → okP p → p.length ≤ i →
    Ret (g_deflate_Lengths_l0 k l n i (p.map (·.1)) (p.map (·.2))) fun r => ∃ q : List (Int × Int), r = (q.map (·.1), q.map (·.2)) ∧ rowOf q = l.map cl ∧ okP q ∧ q.length ≤ l.length := by
  intro n
  induction n with
  | zero => intro i p _ h; omega
  | succ n ih =>
    intro i p hi hn hr hp hpl
    rw [g_deflate_Lengths_l0.eq_2]
    simp only [Option.bind_some, bd]
    by_cases hil : i < l.length
    · rw [if_pos (by omega), clean hil]
      simp only [Option.bind_some]
      have hcl := cl_le l[i]
      have h0 : ∀ t, t < 1 → cl (l.getD (i + t) 0) = cl l[i] := by
        intro t ht
        obtain rfl : t = 0 := by omega
        rw [List.getD_eq_getElem?_getD, Nat.add_zero, List.getElem?_eq_getElem hil]
        rfl
      generalize cl l[i] = v at *
      obtain ⟨_, e1, m, rfl, hm, him, hall⟩ := r1 k l ul i v k 1 (by omega) (by omega) h0
      have e1' : g_deflate_Lengths_l1 k l i v k 1 = some (m : Int) := e1
      rw [e1']
      simp only [Option.bind_some]
      have key : ∀ (m' : Nat) (q : List (Int × Int)) , m' ≤ m → 1 ≤ m' → rowOf q = (l.take i).map cl ++ List.replicate m' v → okP q → q.length ≤ i + m' →
          Ret (g_deflate_Lengths_l0 k l n (IntKind.wrap .i64 (i + (m' : Int))) (q.map (·.1)) (q.map (·.2))) fun r => ∃ q : List (Int × Int), r = (q.map (·.1), q.map (·.2)) ∧ rowOf q = l.map cl ∧ okP q ∧ q.length ≤ l.length := by
        intro m' q h1 h2 h3 h4 h5
        rw [wi (by omega) (by omega), show ((i : Int) + m') = ((i + m' : Nat) : Int) by omega]
        exact ih (i + m') q (by omega) (by omega) (by rw [h3, run_app m' (by omega) fun t ht => hall t (by omega)]) h4 h5
      have hrl : (rowOf p).length = i := by rw [hr]; simp; omega
      by_cases hv : v = 0
      · subst hv
        by_cases h11 : 11 ≤ m
        · obtain ⟨m', hm'⟩ : ∃ m' : Nat, m' = min m 138 := ⟨_, rfl⟩
          have emin : (if (138 : Int) < m then (138 : Int) else m) = (m' : Int) := by split <;> omega
          rw [if_pos rfl, dt (show (11 : Int) ≤ m by omega)]
          simp only [Option.bind_some, bt, emin]
          rw [wi (n := (m' : Int) - 11) (by omega) (by omega), add1 (by simp; omega) (by simp; omega)]
          simp only [Option.bind_some]
          have := key m' (p ++ [(18, (m' : Int) - 11)]) (by omega) (by omega) (by rw [rowOf_app, hr]; congr 1; unfold more; simp; omega) (okP_app hp ⟨by simp, by simp, by simp; omega, by simp, by simp, by simp, by simp; omega⟩) (by simp; omega)
          simpa using this
        · by_cases h3 : 3 ≤ m
          · rw [if_pos rfl, df (show ¬ (11 : Int) ≤ m by omega)]
            simp only [Option.bind_some, bf, if_true]
            rw [dt (show (3 : Int) ≤ m by omega)]
            simp only [Option.bind_some, bt]
            rw [wi (n := (m : Int) - 3) (by omega) (by omega), add1 (by simp; omega) (by simp; omega)]
            simp only [Option.bind_some]
            have := key m (p ++ [(17, (m : Int) - 3)]) (by omega) (by omega) (by rw [rowOf_app, hr]; congr 1; unfold more; simp; omega) (okP_app hp ⟨by simp, by simp, by simp; omega, by simp, by simp, by simp; omega, by simp⟩) (by simp; omega)
            simpa using this
          · rw [if_pos rfl, df (show ¬ (11 : Int) ≤ m by omega)]
            simp only [Option.bind_some, bf, if_true]
            rw [df (show ¬ (3 : Int) ≤ m by omega)]
            simp only [Option.bind_some, bf, decide_true, Bool.not_true]
            rw [add1 (by simp; omega) (by simp; omega)]
            simp only [Option.bind_some]
            have := key 1 (p ++ [(0, 0)]) (by omega) (by omega) (by rw [rowOf_app, hr]; congr 1) (okP_app hp ⟨by simp, by simp, by simp, by simp, by simp, by simp, by simp⟩) (by simp; omega)
            simpa using this
      · rw [if_neg hv]
        simp only [Option.bind_some, bf]
        rw [if_neg hv]
        simp only [Option.bind_some, bf, df hv, Bool.not_false, bt]
        have eone : more (rowOf p) (v, 0) = [v] := by
          unfold more
          rw [if_neg (by simp; omega), if_neg (by simp; omega), if_neg (by simp; omega)]
        have ok1 : okP (p ++ [(v, 0)]) := okP_app hp ⟨by simp; omega, by simp; omega, by simp, by simp, by simp; omega, by simp, by simp⟩
        by_cases h4 : 4 ≤ m
        · obtain ⟨m', hm'⟩ : ∃ m' : Nat, m' = min m 7 := ⟨_, rfl⟩
          have emin : (if (7 : Int) < m then (7 : Int) else m) = (m' : Int) := by split <;> omega
          rw [dt (show (4 : Int) ≤ m by omega)]
          simp only [Option.bind_some, bt, emin]
          rw [add1 (by simp; omega) (by simp; omega), Option.bind_some, wi (n := (m' : Int) - 4) (by omega) (by omega), add1 (by simp; omega) (by simp; omega)]
          simp only [Option.bind_some]
          have er : rowOf (p ++ [(v, 0)]) = rowOf p ++ [v] := by rw [rowOf_app, eone]
          have := key m' (p ++ [(v, 0)] ++ [(16, (m' : Int) - 4)]) (by omega) (by omega) (by
              rw [rowOf_app, er, hr, List.append_assoc]; congr 1; unfold more
              have e3 : (3 + ((m' : Int) - 4)).toNat = m' - 1 := by omega
              simp [e3]
              rw [← List.replicate_succ]; congr 1; omega)
            (okP_app ok1 ⟨by simp, by simp, by simp; omega, by simp, by rw [er]; simp; omega, by simp, by simp⟩) (by simp; omega)
          simpa using this
        · rw [df (show ¬ (4 : Int) ≤ m by omega)]
          simp only [Option.bind_some, bf]
          rw [add1 (by simp; omega) (by simp; omega)]
          simp only [Option.bind_some]
          have := key 1 (p ++ [(v, 0)]) (by omega) (by omega) (by rw [rowOf_app, hr, ← hr, eone]; rfl) ok1 (by simp; omega)
          simpa using this
    · rw [if_neg (by omega)]
      refine Ret.pure ⟨p, rfl, ?_, hp, by omega⟩
      rw [hr, List.take_of_length_le (by omega)]

theorem q1 (k : Nat) (N v : Int) : ∀ (n t : Nat) (o : List Int), (t : Int) ≤ N → N - t < n → N ≤ 200 → ((o.length : Int) + (N - t)) * 8 ≤ 140737488355328 → g_quireref04_Row_l1 k N v n t o = some (o ++ List.replicate (N - t).toNat v) := by
  intro n
  induction n with
  | zero => intro t o _ h; omega
  | succ n ih =>
    intro t o h1 h2 h3 h4
    rw [g_quireref04_Row_l1.eq_2]
    simp only [bd]
    by_cases h : (t : Int) < N
    · rw [if_pos h, if_pos (by simp; omega), wi (by omega) (by omega), show ((t : Int) + 1) = ((t + 1 : Nat) : Int) by omega, ih (t + 1) _ (by omega) (by omega) h3 (by simp; omega)]
      congr 1
      have : (N - t).toNat = (N - ((t + 1 : Nat) : Int)).toNat + 1 := by omega
      rw [this, List.replicate_succ]
      simp
    · rw [if_neg h, show (N - t).toNat = 0 by omega]
      simp

theorem row0 (k : Nat) (p : List (Int × Int)) (hp : okP p) (hpl : p.length * 8 ≤ 140737488351232) (hk : 300 ≤ k) (hrl : (rowOf p).length * 8 ≤ 140737488351232) : ∀ (n j : Nat), j ≤ p.length → p.length - j < n →
    g_quireref04_Row_l0 k (p.map (·.1)) (p.map (·.2)) n j (rowOf (p.take j)) = some (Sum.inr (rowOf p)) := by
  have mono : ∀ j, (rowOf (p.take j)).length ≤ (rowOf p).length := by
    intro j
    have : ∀ (q r : List (Int × Int)), (rowOf q).length ≤ (rowOf (q ++ r)).length := by
      intro q r
      induction r generalizing q with
      | nil => simp
      | cons a r ih =>
        rw [show q ++ a :: r = (q ++ [a]) ++ r by simp]
        refine Nat.le_trans ?_ (ih (q ++ [a]))
        rw [rowOf_app]; simp
    have h := this (p.take j) (p.drop j)
    rwa [List.take_append_drop] at h
  intro n
  induction n with
  | zero => intro j _ h; omega
  | succ n ih =>
    intro j hj hn
    rw [g_quireref04_Row_l0.eq_2]
    simp only [Option.bind_some, bd, bnd', List.length_map]
    by_cases hjl : j < p.length
    · rw [if_pos (by omega), ix_nat (by simpa using hjl), ix_nat (by simpa using hjl), List.getElem_map, List.getElem_map]
      obtain ⟨c1, c2, c3, c4, c5, c6, c7⟩ := hp j hjl
      have hnext : rowOf (p.take (j + 1)) = rowOf (p.take j) ++ more (rowOf (p.take j)) p[j] := by rw [List.take_succ_eq_append_getElem hjl, rowOf_app]
      have hm := mono (j + 1)
      rw [hnext] at hm
      have hih := ih (j + 1) (by omega) (by omega)
      rw [hnext] at hih
      generalize rowOf (p.take j) = r at *
      generalize p[j] = q at *
      obtain ⟨s, x⟩ := q
      simp only at c1 c2 c3 c4 c5 c6 c7 ⊢
      simp only [Option.bind_some]
      rw [if_neg (by omega), if_neg (by omega), if_neg (by omega), wi (n := (j : Int) + 1) (by omega) (by omega), show ((j : Int) + 1) = ((j + 1 : Nat) : Int) by omega]
      simp only [List.length_append] at hm
      by_cases h16 : s < 16
      · have hx := c4 h16
        subst hx
        have em : more r (s, 0) = [s] := by unfold more; rw [if_neg (by simp; omega), if_neg (by simp; omega), if_neg (by simp; omega)]
        rw [em] at hih hm
        have e1 := q1 k 1 s k 0 r (by omega) (by omega) (by omega) (by simp at hm; omega)
        have e1' : g_quireref04_Row_l1 k 1 s k 0 r = some (r ++ [s]) := e1
        rw [if_pos h16, if_pos rfl, if_neg (by omega), if_neg (by omega), if_neg (by omega)]
        simp only [Option.bind_some, df (show ¬ s = 18 by omega), df (show ¬ s = 16 by omega), df (show ¬ s = 17 by omega), if_neg (show ¬ s = 16 by omega), if_neg (show ¬ s = 17 by omega), if_neg (show ¬ s = 18 by omega), bf, e1']
        exact hih
      · rw [if_neg h16]
        by_cases e16 : s = 16
        · subst e16
          obtain ⟨x3, r0⟩ := c5 rfl
          have em : more r (16, x) = List.replicate (3 + x).toNat (r.getD (r.length - 1) 0) := by unfold more; rw [if_pos rfl]
          rw [em] at hih hm
          have eix : ix r (IntKind.wrap .i64 ((r.length : Int) - 1)) = some (r.getD (r.length - 1) 0) := by
            simp at hm
            rw [wi (by omega) (by omega), ix_int (by omega) (by omega), List.getD_eq_getElem?_getD, List.getElem?_eq_getElem (by omega)]
            simp
          have e1 := q1 k (3 + x) (r.getD (r.length - 1) 0) k 0 r (by omega) (by omega) (by omega) (by simp at hm; omega)
          have e1' : g_quireref04_Row_l1 k (3 + x) (r.getD (r.length - 1) 0) k 0 r = some (r ++ List.replicate (3 + x).toNat (r.getD (r.length - 1) 0)) := by simpa using e1
          generalize r.getD (r.length - 1) 0 = v at *
          rw [if_pos rfl, if_neg (by omega)]
          simp only [Option.bind_some, df (show ¬ ((r.length : Int) = 0) by omega), bf, if_pos, eix]
          rw [wi (n := 3 + x) (by omega) (by omega)]
          simp [e1', show ¬ r = [] from fun h => by subst h; simp at r0]
          exact hih
        · by_cases e17 : s = 17
          · subst e17
            have x7 := c6 rfl
            have em : more r (17, x) = List.replicate (3 + x).toNat 0 := by unfold more; rw [if_neg (by simp), if_pos rfl]
            rw [em] at hih hm
            have e1 := q1 k (3 + x) 0 k 0 r (by omega) (by omega) (by omega) (by simp at hm; omega)
            have e1' : g_quireref04_Row_l1 k (3 + x) 0 k 0 r = some (r ++ List.replicate (3 + x).toNat 0) := by simpa using e1
            rw [wi (n := 3 + x) (by omega) (by omega)]
            simp [e1', show ¬ 7 < x by omega]
            exact hih
          · have e18 : s = 18 := by omega
            subst e18
            have x127 := c7 rfl
            have em : more r (18, x) = List.replicate (11 + x).toNat 0 := by unfold more; rw [if_neg (by simp), if_neg (by simp), if_pos rfl]
            rw [em] at hih hm
            have e1 := q1 k (11 + x) 0 k 0 r (by omega) (by omega) (by omega) (by simp at hm; omega)
            have e1' : g_quireref04_Row_l1 k (11 + x) 0 k 0 r = some (r ++ List.replicate (11 + x).toNat 0) := by simpa using e1
            rw [wi (n := 11 + x) (by omega) (by omega)]
            simp [e1', show ¬ 127 < x by omega]
            exact hih
    · rw [if_neg (by omega), List.take_of_length_le (by omega)]

theorem chk (k : Nat) (l : List Int) (ul : l.length * 8 ≤ 140737488351232) : ∀ (n i : Nat), i ≤ l.length → l.length - i < n → g_quirelaw04_DeflateRow_l0 k l (l.map cl) n i = some (Sum.inr ()) := by
  intro n
  induction n with
  | zero => intro i _ h; omega
  | succ n ih =>
    intro i hi hn
    rw [g_quirelaw04_DeflateRow_l0.eq_2]
    simp only [Option.bind_some, bd, bnd']
    by_cases hil : i < l.length
    · rw [if_pos (by omega), ix_nat hil, ix_nat (by simpa using hil), List.getElem_map, wi (n := (i : Int) + 1) (by omega) (by omega), show ((i : Int) + 1) = ((i + 1 : Nat) : Int) by omega]
      have := ih (i + 1) (by omega) (by omega)
      by_cases h1 : l[i] < 0
      · simp [h1, show cl l[i] = 0 by simp [cl, h1]]
        exact this
      · by_cases h2 : 15 < l[i]
        · simp [h1, h2, show cl l[i] = 0 by simp [cl, h2]]
          exact this
        · simp [h1, h2, show cl l[i] = l[i] by simp [cl, h1, h2]]
          exact this
    · rw [if_neg (by omega)]

theorem deflateRow (l : List Int) (hl : l.length ≤ maxLen ∧ ∀ x ∈ l, (Lit.int .i64 x).wf = true) (ul : l.length * 8 ≤ 140737488351232) : ∃ k, g_quirelaw04_DeflateRow k l = some true := by
  obtain ⟨k, hk⟩ : ∃ k : Nat, k = l.length + 400 := ⟨_, rfl⟩
  refine ⟨k, ?_⟩
  unfold g_quirelaw04_DeflateRow g_deflate_Lengths g_quireref04_Row
  obtain ⟨_, e1, q, rfl, e2, e3, e4⟩ := lens k l (by omega) ul k 0 [] (by omega) (by omega) rfl okP_nil (by simp)
  have e1' : g_deflate_Lengths_l0 k l k 0 [] [] = some (q.map (·.1), q.map (·.2)) := e1
  have hrl : (rowOf q).length = l.length := by rw [e2]; simp
  have e5 := row0 k q e3 (by omega) (by omega) (by omega) k 0 (by omega) (by omega)
  have e5' : g_quireref04_Row_l0 k (q.map (·.1)) (q.map (·.2)) k 0 [] = some (Sum.inr (rowOf q)) := e5
  have e6 := chk k l ul k 0 (by omega) (by omega)
  have e6' : g_quirelaw04_DeflateRow_l0 k l (l.map cl) k 0 = some (Sum.inr ()) := e6
  rw [e1']
  simp [e5', e2, e6', alive (show 64 ≤ k by omega)]
end Go.Proofs.Ytbknkbenbccabaa.W
