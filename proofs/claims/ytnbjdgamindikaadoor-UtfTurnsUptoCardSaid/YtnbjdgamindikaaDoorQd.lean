/- What turns memory: new blocks, stores, appends; how a state is told anew. -/
import Derived.Test.YtnbjdgamindikaaDoorQc
import Derived.Deep.AppendSrc
import Derived.Laws.MakeOwn
namespace Go.Q
open Go
set_option linter.unusedVariables false
set_option linter.unusedSimpArgs false

theorem Chunk.ok_congr {e : Nv} {w w' : World} {i : Nat} {c : Chunk} (h : c.ok e w i) (hl : c.live e i → w'.heap[e.own i]? = w.heap[e.own i]?) : c.ok e w' i := by
  cases c with
  | gone => trivial
  | cells t l =>
    obtain ⟨h0, vs, h1, h2⟩ := h
    exact ⟨h0, vs, by rw [hl trivial]; exact h1, h2⟩
  | row t R l =>
    obtain ⟨h1, h2, h3, h4⟩ := h
    refine ⟨h1, h2, h3, ?_⟩
    cases hv : e.vir i with
    | true => rw [hv] at h4; simpa using h4
    | false =>
      rw [hv] at h4
      simp only [Bool.false_eq_true, if_false] at h4 ⊢
      obtain ⟨c, z, hb, h5⟩ := h4
      exact ⟨c, z, by rw [hl hv]; exact hb, h5⟩
  | obj o => exact ⟨h.1, (hl trivial).trans h.2⟩
  | bag => exact h

theorem Chunk.ok_mono {e e' : Nv} {w : World} {i : Nat} {c : Chunk} (hle : e.le e') (hb : ∀ b, Ro.le (e.mem b) (e'.mem b)) (hi : i < e.n) (h : c.ok e w i) : c.ok e' w i := by
  cases c with
  | gone => trivial
  | cells t l =>
    obtain ⟨h0, vs, h1, h2, h3⟩ := h
    exact ⟨by rw [hle.vir i hi]; exact h0, vs, by rw [hle.own i hi]; exact h1, h2.mono hle hb, h3⟩
  | row t R l =>
    obtain ⟨h1, h2, h3, h4⟩ := h
    refine ⟨by rw [hle.lens i hi]; exact h1, by rw [hle.caps i hi]; exact h2, by rw [hle.caps i hi]; exact h3, ?_⟩
    rw [hle.vir i hi, hle.own i hi, hle.caps i hi]
    cases hv : e.vir i with
    | true => rw [hv] at h4; simpa using h4
    | false =>
      rw [hv] at h4
      simp only [Bool.false_eq_true, if_false] at h4 ⊢
      obtain ⟨c, z, hb, hz, h5, h6⟩ := h4
      exact ⟨c, z, hb, hz, h5, rows_mono hle.m h6⟩
  | obj o => exact ⟨(hle.vir i hi).trans h.1, by rw [hle.own i hi]; exact h.2⟩
  | bag => exact (hle.vir i hi).trans h

theorem live_congr {e e' : Nv} {i : Nat} {c : Chunk} (h : e'.vir i = e.vir i) : c.live e' i ↔ c.live e i := by
  cases c <;> simp [Chunk.live, h]

/-- One name more. -/
def Nv.bump (e : Nv) (b cap len : Nat) (vir : Bool := false) : Nv :=
  { e with own := fun i => if i = e.n then b else e.own i, caps := fun i => if i = e.n then cap else e.caps i, lens := fun i => if i = e.n then len else e.lens i,
           vir := fun i => if i = e.n then vir else e.vir i, n := e.n + 1, bag := fun i => if i = e.n then [] else e.bag i }

theorem Nv.bump_le (e : Nv) (b cap len : Nat) (vir : Bool) : e.le (e.bump b cap len vir) :=
  ⟨Ro.le.refl _, Ro.le.refl _, Nat.le_succ _, fun i hi => by simp [Nv.bump, Nat.ne_of_lt hi], fun i hi => by simp [Nv.bump, Nat.ne_of_lt hi], fun i hi => by simp [Nv.bump, Nat.ne_of_lt hi], fun i hi => by simp [Nv.bump, Nat.ne_of_lt hi], fun i hi => by simp [Nv.bump, Nat.ne_of_lt hi]⟩
theorem Nv.bump_mem (e : Nv) (b cap len : Nat) (vir : Bool) (x : Bool) : Ro.le (e.mem x) ((e.bump b cap len vir).mem x) := Ro.le.refl _

section
variable {cx : Cx} {e : Nv} {M : Mem} {w : World}

/-- A new chunk that lies at block b. -/
theorem Hold.bind (h : Hold cx e M w) {b cap len : Nat} {c : Chunk} {w' : World} (hos : w'.os = w.os) (htape : w'.tape = w.tape) (hout : w'.output = w.output)
    (hsz : w.heap.size ≤ w'.heap.size) (hb : b < w'.heap.size) (hsame : ∀ k, k ≠ b → k < w.heap.size → w'.heap[k]? = w.heap[k]?)
    (hfree : ∀ i, i < e.n → (M.at_ i).live e i → e.own i ≠ b) (hbag : ∀ i, i < e.n → (M.at_ i).mark = true → b ∉ e.bag i) (hm : e.m b = none) (hbm : e.bm b = none) (hF : cx.F b ∨ cx.w0.heap.size ≤ b)
    (hc : c.ok (e.bump b cap len) w' e.n) : Hold cx (e.bump b cap len) (M.push c) w' := by
  have hle := e.bump_le b cap len false
  have lt_of : ∀ {k : Nat} {o : Obj}, w.heap[k]? = some o → k < w.heap.size := fun hk => (Array.getElem?_eq_some_iff.1 hk).1
  have hat : ∀ i, i < e.n → (M.push c).at_ i = M.at_ i := fun i hi => by rw [Mem.push_at, if_neg (by rw [← h.n]; omega)]
  have hatn : (M.push c).at_ e.n = c := by rw [Mem.push_at, if_pos h.n]
  refine ⟨h.bm, by simp [Nv.bump, Mem.push, h.n], Nat.le_trans h.size hsz, hos.trans h.os, htape.trans h.tape, hout.trans h.output, ?_, ?_, ?_, h.m0, h.mnew, ?_, ?_, ?_, Nat.le_succ_of_le h.np, ?_, ?_⟩
  · intro k hk hF'
    have hkb : k ≠ b := by
      intro hkb; subst hkb
      rcases hF with hF | hF
      · exact hF' hF
      · omega
    rw [hsame k hkb (Nat.lt_of_lt_of_le hk h.size)]
    exact h.frame k hk hF'
  · intro k o hk
    have h1 := h.ro k o hk
    rw [hsame k (by intro hkb; subst hkb; simp only [Nv.bump] at hk; rw [hm] at hk; cases hk) (lt_of h1)]
    exact h1
  · intro k o hk
    have h1 := h.bro k o hk
    rw [hsame k (by intro hkb; subst hkb; simp only [Nv.bump] at hk; rw [hbm] at hk; cases hk) (lt_of h1)]
    exact h1
  · intro i hi
    by_cases hin : i = e.n
    · subst hin; rw [hatn]; exact hc
    · have hi' : i < e.n := by simp only [Nv.bump] at hi; omega
      rw [hat i hi']
      refine Chunk.ok_mono hle (fun x => e.bump_mem b cap len false x) hi' ?_
      refine Chunk.ok_congr (h.ch i hi') fun hl => hsame _ (hfree i hi' hl) (h.live i hi' hl).1
  · intro i hi hl
    by_cases hin : i = e.n
    · subst hin
      simp only [Nv.bump, if_true]
      exact ⟨hb, hm, hbm, hF⟩
    · have hi' : i < e.n := by simp only [Nv.bump] at hi; omega
      rw [hat i hi'] at hl
      have := h.live i hi' ((live_congr (hle.vir i hi')).1 hl)
      simp only [Nv.bump, if_neg hin]
      exact ⟨Nat.lt_of_lt_of_le this.1 hsz, this.2⟩
  · intro i j hi hj hli hlj hij
    by_cases hin : i = e.n
    · by_cases hjn : j = e.n
      · rw [hin, hjn]
      · have hj' : j < e.n := by simp only [Nv.bump] at hj; omega
        rw [hat j hj'] at hlj
        have hlj' := (live_congr (hle.vir j hj')).1 hlj
        simp only [Nv.bump, if_pos hin, if_neg hjn] at hij
        exact absurd hij.symm (hfree j hj' hlj')
    · have hi' : i < e.n := by simp only [Nv.bump] at hi; omega
      rw [hat i hi'] at hli
      have hli' := (live_congr (hle.vir i hi')).1 hli
      by_cases hjn : j = e.n
      · simp only [Nv.bump, if_neg hin, if_pos hjn] at hij
        exact absurd hij (hfree i hi' hli')
      · have hj' : j < e.n := by simp only [Nv.bump] at hj; omega
        rw [hat j hj'] at hlj
        simp only [Nv.bump, if_neg hin, if_neg hjn] at hij
        exact h.dist i j hi' hj' hli' ((live_congr (hle.vir j hj')).1 hlj) hij
  · intro i hi
    have : i ≠ e.n := by have := h.np; omega
    simp only [Nv.bump, if_neg this]
    exact h.pin i hi
  · have sp : ∀ i, i < (e.bump b cap len).n → i = e.n ∨ i < e.n := fun i hi => by simp only [Nv.bump] at hi; omega
    have bn : (e.bump b cap len).bag e.n = [] := by simp [Nv.bump]
    have bo : ∀ i, i < e.n → (e.bump b cap len).bag i = e.bag i := hle.bag
    refine ⟨fun i hi hmk => ?_, fun i hi hmk x hx => ?_, fun i hi hmk x hx j hj hlj => ?_, fun i j hi hj hmi hmj hij x hx => ?_⟩
    · rcases sp i hi with rfl | hi'
      · rw [bn]; exact List.nodup_nil
      · rw [hat i hi'] at hmk; rw [bo i hi']; exact h.bag.nodup i hi' hmk
    · rcases sp i hi with rfl | hi'
      · rw [bn] at hx; cases hx
      · rw [hat i hi'] at hmk; rw [bo i hi'] at hx
        obtain ⟨h1, h2⟩ := h.bag.at_ i hi' hmk x hx
        refine ⟨?_, h2⟩
        rw [hsame x (fun hxb => hbag i hi' hmk (hxb ▸ hx)) (lt_of h1)]
        exact h1
    · rcases sp i hi with rfl | hi'
      · rw [bn] at hx; cases hx
      · rw [hat i hi'] at hmk; rw [bo i hi'] at hx
        rcases sp j hj with rfl | hj'
        · simp only [Nv.bump, if_true]
          exact fun hbx => hbag i hi' hmk (hbx ▸ hx)
        · rw [hat j hj'] at hlj
          rw [hle.own j hj']
          exact h.bag.own i hi' hmk x hx j hj' ((live_congr (hle.vir j hj')).1 hlj)
    · rcases sp i hi with rfl | hi'
      · rw [bn] at hx; cases hx
      · rcases sp j hj with rfl | hj'
        · rw [bn]; simp
        · rw [hat i hi'] at hmi; rw [hat j hj'] at hmj; rw [bo i hi'] at hx; rw [bo j hj']
          exact h.bag.dist i j hi' hj' hmi hmj hij x hx

theorem Hold.bag_lt (h : Hold cx e M w) {i b : Nat} (hi : i < e.n) (hm : (M.at_ i).mark = true) (hb : b ∈ e.bag i) : b < w.heap.size := (Array.getElem?_eq_some_iff.1 (h.bag.at_ i hi hm b hb).1).1
theorem Hold.bag_new (h : Hold cx e M w) : ∀ i, i < e.n → (M.at_ i).mark = true → w.heap.size ∉ e.bag i := fun i hi hm hb => Nat.lt_irrefl _ (h.bag_lt hi hm hb)

/-- A name for what has no block: an empty row. -/
theorem Hold.bindVir (h : Hold cx e M w) {α : Type} {t : TypeId} {R : Rd α} : Hold cx (e.bump 0 0 0 true) (M.push (.row t R [])) w := by
  have hle := e.bump_le 0 0 0 true
  have hat : ∀ i, i < e.n → (M.push (.row t R [])).at_ i = M.at_ i := fun i hi => by rw [Mem.push_at, if_neg (by rw [← h.n]; omega)]
  have hatn : (M.push (.row t R [])).at_ e.n = .row t R [] := by rw [Mem.push_at, if_pos h.n]
  have hdead : ¬ ((M.push (.row t R [])).at_ e.n).live (e.bump 0 0 0 true) e.n := by rw [hatn]; simp [Chunk.live, Nv.bump]
  have split : ∀ i, i < (e.bump 0 0 0 true).n → i = e.n ∨ i < e.n := fun i hi => by simp only [Nv.bump] at hi; omega
  refine ⟨h.bm, by simp [Nv.bump, Mem.push, h.n], h.size, h.os, h.tape, h.output, h.frame, h.ro, h.bro, h.m0, h.mnew, ?_, ?_, ?_, Nat.le_succ_of_le h.np, ?_, ?_⟩
  · intro i hi
    rcases split i hi with rfl | hi'
    · rw [hatn]; simp [Chunk.ok, Nv.bump]
    · rw [hat i hi']
      exact Chunk.ok_mono hle (fun x => e.bump_mem 0 0 0 true x) hi' (h.ch i hi')
  · intro i hi hl
    rcases split i hi with rfl | hi'
    · exact absurd hl hdead
    · rw [hat i hi'] at hl
      have := h.live i hi' ((live_congr (hle.vir i hi')).1 hl)
      have hne : i ≠ e.n := by omega
      simp only [Nv.bump, if_neg hne]
      exact this
  · intro i j hi hj hli hlj hij
    rcases split i hi with rfl | hi'
    · exact absurd hli hdead
    rcases split j hj with rfl | hj'
    · exact absurd hlj hdead
    rw [hat i hi'] at hli
    rw [hat j hj'] at hlj
    have h1 : i ≠ e.n := by omega
    have h2 : j ≠ e.n := by omega
    simp only [Nv.bump, if_neg h1, if_neg h2] at hij
    exact h.dist i j hi' hj' ((live_congr (hle.vir i hi')).1 hli) ((live_congr (hle.vir j hj')).1 hlj) hij
  · intro i hi
    have : i ≠ e.n := by have := h.np; omega
    simp only [Nv.bump, if_neg this]
    exact h.pin i hi
  · have bn : (e.bump 0 0 0 true).bag e.n = [] := by simp [Nv.bump]
    have bo : ∀ i, i < e.n → (e.bump 0 0 0 true).bag i = e.bag i := hle.bag
    refine ⟨fun i hi hmk => ?_, fun i hi hmk x hx => ?_, fun i hi hmk x hx j hj hlj => ?_, fun i j hi hj hmi hmj hij x hx => ?_⟩
    · rcases split i hi with rfl | hi'
      · rw [bn]; exact List.nodup_nil
      · rw [hat i hi'] at hmk; rw [bo i hi']; exact h.bag.nodup i hi' hmk
    · rcases split i hi with rfl | hi'
      · rw [bn] at hx; cases hx
      · rw [hat i hi'] at hmk; rw [bo i hi'] at hx
        exact h.bag.at_ i hi' hmk x hx
    · rcases split i hi with rfl | hi'
      · rw [bn] at hx; cases hx
      · rw [hat i hi'] at hmk; rw [bo i hi'] at hx
        rcases split j hj with rfl | hj'
        · exact absurd hlj hdead
        · rw [hat j hj'] at hlj
          rw [hle.own j hj']
          exact h.bag.own i hi' hmk x hx j hj' ((live_congr (hle.vir j hj')).1 hlj)
    · rcases split i hi with rfl | hi'
      · rw [bn] at hx; cases hx
      · rcases split j hj with rfl | hj'
        · rw [bn]; simp
        · rw [hat i hi'] at hmi; rw [hat j hj'] at hmj; rw [bo i hi'] at hx; rw [bo j hj']
          exact h.bag.dist i j hi' hj' hmi hmj hij x hx

/-- A chunk is told anew, its block written. -/
theorem Hold.change (h : Hold cx e M w) {i : Nat} {c : Chunk} {w' : World} (hi : i < e.n) (hlive : (M.at_ i).live e i) (hos : w'.os = w.os) (htape : w'.tape = w.tape) (hout : w'.output = w.output)
    (hsz : w'.heap.size = w.heap.size) (hsame : ∀ k, k ≠ e.own i → w'.heap[k]? = w.heap[k]?) (hc : c.ok e w' i) (hmk : c.mark = true → (M.at_ i).mark = true := by first | exact (fun h => by cases h) | (intro h; simp_all [Chunk.mark])) : Hold cx e (M.set i c) w' := by
  have hl := h.live i hi hlive
  refine ⟨h.bm, h.n, by rw [hsz]; exact h.size, hos.trans h.os, htape.trans h.tape, hout.trans h.output, ?_, ?_, ?_, h.m0, h.mnew, ?_, ?_, ?_, h.np, h.pin, ?_⟩
  · intro k hk hF'
    have hkb : k ≠ e.own i := by
      intro hkb; subst hkb
      rcases hl.2.2.2 with hF | hF
      · exact hF' hF
      · omega
    rw [hsame k hkb]
    exact h.frame k hk hF'
  · intro k o hk
    rw [hsame k (by intro hkb; subst hkb; rw [hl.2.1] at hk; cases hk)]
    exact h.ro k o hk
  · intro k o hk
    rw [hsame k (by intro hkb; subst hkb; rw [hl.2.2.1] at hk; cases hk)]
    exact h.bro k o hk
  · intro j hj
    rw [Mem.set_at]
    split
    · rename_i hji; subst hji; exact hc
    · rename_i hji
      refine Chunk.ok_congr (h.ch j hj) fun hlj => hsame _ fun he => hji (h.dist j i hj hi hlj hlive he)
  · intro j hj hlj
    rw [Mem.set_at] at hlj
    split at hlj
    · rename_i hji; subst hji; rw [hsz]; exact hl
    · rw [hsz]; exact h.live j hj hlj
  · intro j k hj hk hlj hlk hjk
    rw [Mem.set_at] at hlj hlk
    have hlj' : (M.at_ j).live e j := by split at hlj <;> first | (rename_i hji; subst hji; exact hlive) | exact hlj
    have hlk' : (M.at_ k).live e k := by split at hlk <;> first | (rename_i hji; subst hji; exact hlive) | exact hlk
    exact h.dist j k hj hk hlj' hlk' hjk
  · have mk : ∀ j, ((M.set i c).at_ j).mark = true → (M.at_ j).mark = true := by
      intro j hj
      rw [Mem.set_at] at hj
      split at hj
      · rename_i hji; subst hji; exact hmk hj
      · exact hj
    have lv : ∀ j, ((M.set i c).at_ j).live e j → (M.at_ j).live e j := by
      intro j hj
      rw [Mem.set_at] at hj
      split at hj
      · rename_i hji; subst hji; exact hlive
      · exact hj
    refine ⟨fun j hj hm => h.bag.nodup j hj (mk j hm), fun j hj hm x hx => ?_, fun j hj hm x hx k hk hlk => h.bag.own j hj (mk j hm) x hx k hk (lv k hlk), fun j k hj hk hmj hmk' hjk x hx => h.bag.dist j k hj hk (mk j hmj) (mk k hmk') hjk x hx⟩
    obtain ⟨h1, h2⟩ := h.bag.at_ j hj (mk j hm) x hx
    refine ⟨?_, h2⟩
    rw [hsame x (fun hxo => h.bag.own j hj (mk j hm) x hx i hi hlive hxo.symm)]
    exact h1

/-- A chunk is let go. -/
theorem Hold.drop (h : Hold cx e M w) (i : Nat) : Hold cx e (M.set i .gone) w := by
  refine ⟨h.bm, h.n, h.size, h.os, h.tape, h.output, h.frame, h.ro, h.bro, h.m0, h.mnew, ?_, ?_, ?_, h.np, h.pin, ?_⟩
  · intro j hj
    rw [Mem.set_at]
    split
    · trivial
    · exact h.ch j hj
  · intro j hj hl
    rw [Mem.set_at] at hl
    split at hl
    · exact hl.elim
    · exact h.live j hj hl
  · intro j k hj hk hlj hlk hjk
    rw [Mem.set_at] at hlj hlk
    split at hlj
    · exact hlj.elim
    split at hlk
    · exact hlk.elim
    exact h.dist j k hj hk hlj hlk hjk
  · have mk : ∀ j, ((M.set i .gone).at_ j).mark = true → (M.at_ j).mark = true := by
      intro j hj
      rw [Mem.set_at] at hj
      split at hj
      · cases hj
      · exact hj
    have lv : ∀ j, ((M.set i .gone).at_ j).live e j → (M.at_ j).live e j := by
      intro j hj
      rw [Mem.set_at] at hj
      split at hj
      · exact hj.elim
      · exact hj
    exact ⟨fun j hj hm => h.bag.nodup j hj (mk j hm), fun j hj hm x hx => h.bag.at_ j hj (mk j hm) x hx, fun j hj hm x hx k hk hlk => h.bag.own j hj (mk j hm) x hx k hk (lv k hlk), fun j k hj hk hmj hmk' hjk x hx => h.bag.dist j k hj hk (mk j hmj) (mk k hmk') hjk x hx⟩

theorem Hold.drew (h : Hold cx e M w) : Hold cx e M { w with drawn := w.drawn + 1 } :=
  ⟨h.bm, h.n, h.size, h.os, h.tape, h.output, h.frame, h.ro, h.bro, h.m0, h.mnew, fun i hi => Chunk.ok_congr (h.ch i hi) fun _ => rfl, h.live, h.dist, h.np, h.pin, ⟨h.bag.nodup, h.bag.at_, h.bag.own, h.bag.dist⟩⟩

theorem Emb.mem {nt : Nat} {E : Env} {a : Act} {M' : Mem} (h : Emb nt e M E a) : Emb nt e M' E a := h.mono (Nv.le.refl e) fun _ => Ro.le.refl _

end

/-- May it stand in one cell? -/
def AVal.one : AVal → Bool
  | .lit v => v.oneCell'
  | .any | .agg _ | .tup _ => false
  | _ => true

theorem Val.one {e : Nv} {a : AVal} {v : Value} (h : Val e a v) (ha : a.one = true) : v.oneCell' = true := by
  cases a with
  | any => simp [AVal.one] at ha
  | lit x => simp only [Val] at h; subst h; exact ha
  | ptr i off => simp only [Val] at h; rw [h.2.2]; rfl
  | opt c i off => simp only [Val] at h; rw [h.2.2]; cases c <;> rfl
  | whole i =>
    simp only [Val] at h
    have h3 := h.2.2
    split at h3
    · rw [h3.1]; rfl
    · rw [h3]; rfl
  | sl i sz off len => simp only [Val] at h; obtain ⟨_, _, _, o, h3, _⟩ := h; rw [h3]; rfl
  | ro R b d => simp only [Val] at h; exact R.one h v (by simp)
  | fn f l => simp only [Val] at h; obtain ⟨vs, h1, _⟩ := h; rw [h1]; rfl
  | agg l => simp [AVal.one] at ha
  | tup l => simp [AVal.one] at ha
  | ifc t a => simp only [Val] at h; obtain ⟨x, h1, _⟩ := h; rw [h1]; rfl

theorem cells_one {v : Value} (h : v.oneCell' = true) : v.cells = #[v] := by cases v <;> first | rfl | simp [Value.oneCell'] at h

section
variable {P : Program} {ty : TypeId} {E : Env} {M : Mem}

/-- The cells of a value that is stored. -/
def AVal.cells : AVal → Option (List AVal)
  | .agg l => some l
  | a => if a.one then some [a] else none

theorem cells_vals {e : Nv} {a : AVal} {v : Value} {l : List AVal} (h : Val e a v) (hl : a.cells = some l) : ∃ vs : List Value, v.cells = vs.toArray ∧ Vals e l vs ∧ ∀ x ∈ vs, x.oneCell' = true := by
  have single : a.one = true → a.cells = some [a] → l = [a] → ∃ vs : List Value, v.cells = vs.toArray ∧ Vals e l vs ∧ ∀ x ∈ vs, x.oneCell' = true := by
    rintro h1 - rfl
    have := h.one h1
    exact ⟨[v], cells_one this, by simp [Vals, h], by simpa using this⟩
  cases a with
  | agg l' =>
    simp only [AVal.cells, Option.some.injEq] at hl
    subst hl
    simp only [Val] at h
    obtain ⟨vs, h1, h2, h3⟩ := h
    exact ⟨vs, by rw [h1]; rfl, h2, h3⟩
  | any => simp [AVal.cells, AVal.one] at hl
  | tup l' => simp [AVal.cells, AVal.one] at hl
  | _ =>
    simp only [AVal.cells] at hl
    split at hl
    · rename_i h1
      simp only [Option.some.injEq] at hl
      exact single h1 (by simp [AVal.cells, h1]) hl.symm
    · cases hl

/-- A new variable that holds a value. -/
theorem d_box {t : TypeId} {x : Operand} {l : List AVal} {n : Nat} (hl : (E.ev x).cells = some l) (hn : M.n = n) : Does P (.box t x) ty E M [] (.ptr n 0) (M.push (.cells t l)) :=
  fun cx nt a w e hh he => by
    obtain ⟨vs, h1, h2, h3⟩ := cells_vals (he.ev x) hl
    have hle := e.bump_le w.heap.size 0 0 false
    have hm := fun b => e.bump_mem w.heap.size 0 0 false b
    have hnone : ∀ {m : Ro}, (∀ b o, m b = some o → w.heap[b]? = some o) → m w.heap.size = none := by
      intro m hm
      cases hx : m w.heap.size with
      | none => rfl
      | some o => have := (Array.getElem?_eq_some_iff.1 (hm _ _ hx)).1; omega
    refine ⟨.pointer (some ⟨w.heap.size, 0, none⟩), w.alloc (.cells vs.toArray t), e.bump w.heap.size 0 0, ?_, ?_, ⟨hle, hm⟩, ?_, ?_, by simp⟩
    · simp [exec1, execOp, Instr.box, newVar, newRow, h1]
    · refine hh.bind rfl rfl rfl (by simp) (by simp) (fun k hk hlt => heap_alloc_old w _ k hlt) (fun i hi hl => Nat.ne_of_lt (hh.live i hi hl).1) hh.bag_new (hnone hh.ro) (hnone hh.bro) (.inr hh.size) ?_
      refine ⟨by simp [Nv.bump], vs, ?_, h2.mono hle hm, h3⟩
      simp only [Nv.bump, if_true]
      exact heap_alloc_new w _
    · simp only [Val, Nv.bump, ← hn, ← hh.n, if_true]
      exact ⟨Nat.lt_succ_self _, trivial, trivial⟩
    · exact fun b hb _ => heap_alloc_old w _ b hb

/-- What a type's zero is, cell by cell. -/
structure ZeroIs (P : Program) (t : TypeId) (l : List Value) : Prop where
  h : ∃ i z, P.info? t = some i ∧ i.zero = some z ∧ z.cells = l.toArray
  one : ∀ v ∈ l, v.oneCell' = true

theorem ZeroIs.run {t : TypeId} {l : List Value} (h : ZeroIs P t l) (w : World) : ∃ z, (zeroValue t).run P w = .ok z w ∧ z.cells = l.toArray := by
  obtain ⟨i, z, h1, h2, h3⟩ := h.h
  exact ⟨z, by simp [zeroValue, typeInfo, h1, h2], h3⟩

theorem vals_lits (e : Nv) : ∀ (l : List Value), Vals e (l.map AVal.lit) l
  | [] => by simp [Vals]
  | v :: l => by simp only [List.map_cons, Vals]; exact ⟨v, l, rfl, by simp [Val], vals_lits e l⟩

/-- A new variable, at its zero. -/
theorem d_alloc {t : TypeId} {l : List Value} {n : Nat} (hz : ZeroIs P t l) (hn : M.n = n) : Does P (.alloc t) ty E M [] (.ptr n 0) (M.push (.cells t (l.map AVal.lit))) :=
  fun cx nt a w e hh he => by
    obtain ⟨z, hr, hc⟩ := hz.run w
    have hle := e.bump_le w.heap.size 0 0 false
    have hm := fun b => e.bump_mem w.heap.size 0 0 false b
    have hnone : ∀ {m : Ro}, (∀ b o, m b = some o → w.heap[b]? = some o) → m w.heap.size = none := by
      intro m hm
      cases hx : m w.heap.size with
      | none => rfl
      | some o => have := (Array.getElem?_eq_some_iff.1 (hm _ _ hx)).1; omega
    refine ⟨.pointer (some ⟨w.heap.size, 0, none⟩), w.alloc (.cells l.toArray t), e.bump w.heap.size 0 0, ?_, ?_, ⟨hle, hm⟩, ?_, ?_, by simp⟩
    · simp [exec1, execOp, Instr.alloc, hr, newVar, newRow, hc]
    · refine hh.bind rfl rfl rfl (by simp) (by simp) (fun k hk hlt => heap_alloc_old w _ k hlt) (fun i hi hl => Nat.ne_of_lt (hh.live i hi hl).1) hh.bag_new (hnone hh.ro) (hnone hh.bro) (.inr hh.size) ?_
      refine ⟨by simp [Nv.bump], l, ?_, vals_lits _ l, hz.one⟩
      simp only [Nv.bump, if_true]
      exact heap_alloc_new w _
    · simp only [Val, Nv.bump, ← hn, ← hh.n, if_true]
      exact ⟨Nat.lt_succ_self _, trivial, trivial⟩
    · exact fun b hb _ => heap_alloc_old w _ b hb

/-- Cells from a place on are set. -/
def setAt.{u} {α : Type u} (l : List α) (o : Nat) : List α → List α
  | [] => l
  | x :: r => setAt (l.set o x) (o + 1) r

theorem setAt_length.{u} {α : Type u} : ∀ (r : List α) (l : List α) (o : Nat), (setAt l o r).length = l.length
  | [], _, _ => rfl
  | x :: r, l, o => by rw [setAt, setAt_length r]; simp

theorem Vals.set {e : Nv} : ∀ {l : List AVal} {vs : List Value} {o : Nat} {a : AVal} {v : Value}, Vals e l vs → Val e a v → Vals e (l.set o a) (vs.set o v)
  | [], vs, o, a, v, h, _ => by simp only [Vals] at h; simp [h, Vals]
  | x :: l, vs, 0, a, v, h, hv => by
    simp only [Vals] at h
    obtain ⟨u, ws, rfl, h1, h2⟩ := h
    simp only [List.set_cons_zero, Vals]
    exact ⟨v, ws, rfl, hv, h2⟩
  | x :: l, vs, o + 1, a, v, h, hv => by
    simp only [Vals] at h
    obtain ⟨u, ws, rfl, h1, h2⟩ := h
    simp only [List.set_cons_succ, Vals]
    exact ⟨u, _, rfl, h1, h2.set hv⟩

theorem Vals.setAt {e : Nv} : ∀ {r : List AVal} {us : List Value} {l : List AVal} {vs : List Value} {o : Nat}, Vals e l vs → Vals e r us → Vals e (setAt l o r) (setAt vs o us)
  | [], us, l, vs, o, h, hr => by simp only [Vals] at hr; subst hr; exact h
  | x :: r, us, l, vs, o, h, hr => by
    simp only [Vals] at hr
    obtain ⟨u, ws, rfl, h1, h2⟩ := hr
    simp only [Q.setAt]
    exact Vals.setAt (h.set h1) h2

theorem run_storeCells_row {P : Program} {g : Nat} {t : TypeId} {z : Nat × Nat} : ∀ (us : List Value) (i o : Nat) (vs : List Value) (w : World), w.heap[g]? = some (.cells vs.toArray t z) → (z.1 = z.2 ∨ vs.length ≤ z.1) → o + i + us.length ≤ vs.length → (∀ v ∈ us, v.oneCell' = true) →
    ∃ w', (storeCells ⟨g, o, none⟩ us i).run P w = .ok () w' ∧ w'.heap[g]? = some (.cells (setAt vs (o + i) us).toArray t z) ∧ w'.heap.size = w.heap.size ∧ w'.os = w.os ∧ w'.tape = w.tape ∧ w'.output = w.output ∧ ∀ k, k ≠ g → w'.heap[k]? = w.heap[k]?
  | [], i, o, vs, w, hg, _, _, _ => ⟨w, by simp [storeCells], by simpa [setAt] using hg, rfl, rfl, rfl, rfl, fun _ _ => rfl⟩
  | u :: us, i, o, vs, w, hg, hz, hle, h1 => by
    have hcell : (w.cell? ⟨g, o + i, none⟩).isSome = true := by
      rw [cell_of hg]
      have : o + i < vs.length := by simp at hle; omega
      simp [this]
    have hfr : w.frozen? ⟨g, o + i, none⟩ = false := by
      obtain ⟨lo, hi⟩ := z
      simp only [List.length_cons] at hle
      simp only [World.frozen?, hg, Bool.and_eq_false_iff, decide_eq_false_iff_not]
      simp only at hz
      omega
    obtain ⟨v0, hv0⟩ := Option.isSome_iff_exists.1 hcell
    have hst : (store ⟨g, o + i, none⟩ u).run P w = .ok () (w.setCell ⟨g, o + i, none⟩ u) := by
      rw [run_store P w _ u _ (h1 u (by simp))]
      simp [hv0, hfr]
    have hg' : (w.setCell ⟨g, o + i, none⟩ u).heap[g]? = some (.cells (vs.set (o + i) u).toArray t z) := by
      simp [World.setCell, Array.getElem?_modify, hg]
    obtain ⟨w', hr, h2, h3, h4, h5, h6, h7⟩ := run_storeCells_row (P := P) us (i + 1) o (vs.set (o + i) u) (w.setCell ⟨g, o + i, none⟩ u) hg' (by simpa using hz) (by simp at hle ⊢; omega) (fun v hv => h1 v (by simp [hv]))
    refine ⟨w', ?_, by simpa [setAt, Nat.add_assoc] using h2, by rw [h3]; simp, h4, h5, h6, fun k hk => (h7 k hk).trans (RowKit.Below.heap_setCell w _ u k hk)⟩
    simp only [storeCells, Sem.run_bind, add_at, hst, Result.andThen]
    exact hr

/-- A store into cells of our own. -/
theorem s_store {t ct : TypeId} {x y : Operand} {i o n : Nat} {l r : List AVal} (ht : SzIs P t n) (hx : E.ev x = .ptr i o) (hc : M.at_ i = .cells ct l) (hr : (E.ev y).cells = some r) (hrn : r.length = n) (hin : Nat.ble (o + n) l.length = true) :
    DoesS P (.store t x y) ty E M [i] (M.set i (.cells ct (setAt l o r))) :=
  fun cx nt a w e hh he => by
    have hp := he.ev x; rw [hx] at hp; simp only [Val] at hp
    have hk := hh.ch i hp.1
    rw [hc] at hk
    obtain ⟨hvir, vs, hb, hvs, ho⟩ := hk
    obtain ⟨us, h1, h2, h3⟩ := cells_vals (he.ev y) hr
    have hlen : o + 0 + us.length ≤ vs.length := by
      rw [h2.length, hvs.length, hrn]
      simpa using hin
    obtain ⟨w', hrun, g1, g2, g3, g4, g5, g6⟩ := run_storeCells_row (P := P) us 0 o vs w hb (.inl rfl) hlen h3
    refine ⟨w', e, ?_, ?_, ⟨Nv.le.refl e, fun _ => Ro.le.refl _⟩, fun b _ hne => g6 b (fun hb => hne i (by simp) hp.1 (by rw [hc]; trivial) hb.symm), by rw [g2]; exact Nat.le_refl _⟩
    · have hsz : (a.eval y).cells.size = n := by rw [h1]; simp [h2.length, hrn]
      have hul : us.length = n := by rw [h2.length, hrn]
      simp [exec1, hul, execOp, hp.2.2, Instr.storeAt, Instr.sureAddr, storeVar, ht.run, hsz, h1, hrun]
    · refine hh.change hp.1 (by rw [hc]; trivial) g3 g4 g5 g2 g6 ⟨hvir, setAt vs o us, by simpa using g1, hvs.setAt h2, ?_⟩
      have : ∀ (us vs : List Value) (o : Nat), (∀ v ∈ us, v.oneCell' = true) → (∀ v ∈ vs, v.oneCell' = true) → ∀ v ∈ setAt vs o us, v.oneCell' = true := by
        intro us
        induction us with
        | nil => intro vs o _ h; exact h
        | cons u us ih =>
          intro vs o hu hv
          refine ih _ _ (fun v hv' => hu v (by simp [hv'])) (fun v hv' => ?_)
          rcases List.mem_or_eq_of_mem_set hv' with h | h
          · exact hv v h
          · rw [h]; exact hu u (by simp)
      exact this us vs o h3 ho

theorem rows_set {α : Type} {A : Rd α} {m : Ro} : ∀ {l : List α} {cs : List Value} {j : Nat} {d : α} {us : List Value}, rows A m l cs → A.ok m d us → j < l.length → rows A m (l.set j d) (cs.take (j * A.sz) ++ us ++ cs.drop (j * A.sz + A.sz))
  | [], _, j, _, _, _, _, hj => by simp at hj
  | x :: l, cs, 0, d, us, h, hu, _ => by
    have := A.len hu
    simp only [Nat.zero_mul, List.take_zero, List.nil_append, Nat.zero_add, List.set_cons_zero]
    refine ⟨?_, ?_⟩
    · rw [List.take_left' this]; exact hu
    · rw [List.drop_left' this]; exact h.2
  | x :: l, cs, j + 1, d, us, h, hu, hj => by
    have hl := A.len h.1
    have hz : (j + 1) * A.sz = A.sz + j * A.sz := by rw [Nat.add_mul]; omega
    have hsz : A.sz ≤ cs.length := by simp at hl; omega
    have hz' : A.sz ≤ (j + 1) * A.sz := by rw [hz]; omega
    simp only [List.set_cons_succ]
    have ih := rows_set (us := us) h.2 hu (by simpa using hj)
    rw [List.drop_drop] at ih
    have e1 : (cs.take ((j + 1) * A.sz) ++ us ++ cs.drop ((j + 1) * A.sz + A.sz)).take A.sz = cs.take A.sz := by
      rw [List.append_assoc, List.take_append_of_le_length (by simp; omega), List.take_take, Nat.min_eq_left (by omega)]
    have e2 : (cs.take ((j + 1) * A.sz) ++ us ++ cs.drop ((j + 1) * A.sz + A.sz)).drop A.sz = (cs.drop A.sz).take (j * A.sz) ++ us ++ cs.drop (A.sz + (j * A.sz + A.sz)) := by
      have e3 : (j + 1) * A.sz + A.sz = A.sz + (j * A.sz + A.sz) := by rw [hz]; omega
      have e4 : (j + 1) * A.sz - A.sz = j * A.sz := by rw [hz]; omega
      rw [List.append_assoc, List.drop_append_of_le_length (by simp; omega), ← List.append_assoc, e3, List.drop_take, e4]
    refine ⟨?_, ?_⟩
    · rw [e1]; exact h.1
    · rw [e2]; exact ih

theorem setAt_list.{u} {α : Type u} : ∀ (us : List α) (cs : List α) (o : Nat), o + us.length ≤ cs.length → setAt cs o us = cs.take o ++ us ++ cs.drop (o + us.length)
  | [], cs, o, _ => by simp [setAt]
  | u :: us, cs, o, h => by
    have ho : o < cs.length := by simp at h; omega
    rw [setAt, setAt_list us _ _ (by simp at h ⊢; omega)]
    rw [List.take_set, List.drop_set_of_lt (by omega)]
    rw [show (cs.take (o + 1)).set o u = cs.take o ++ [u] by
      rw [List.take_succ_eq_append_getElem ho, List.set_append_right _ _ (by simp; omega)]
      simp [Nat.min_eq_left (Nat.le_of_lt ho)]]
    simp [Nat.add_comm, Nat.add_left_comm]

/-- A store into a row of our own. -/
theorem s_store_row {α : Type} {R : Rd α} {t ct : TypeId} {x y : Operand} {i j n : Nat} {l : List α} {r : List AVal} {d : α} (ht : SzIs P t n) (hn : R.sz = n) (hx : E.ev x = .ptr i (j * n)) (hc : M.at_ i = .row ct R l) (hr : (E.ev y).cells = some r)
    (hj : Joins R false d r) (hin : decide (j < l.length) = true) : DoesS P (.store t x y) ty E M [i] (M.set i (.row ct R (l.set j d))) :=
  fun cx nt a w e hh he => by
    have hp := he.ev x; rw [hx] at hp; simp only [Val] at hp
    have hk := hh.ch i hp.1
    rw [hc] at hk
    obtain ⟨g1, g2, g3, g4⟩ := hk
    rw [hp.2.1] at g4
    simp only [Bool.false_eq_true, if_false] at g4
    obtain ⟨c, z, hb, hz, hcs, hrow⟩ := g4
    obtain ⟨us, h1, h2, h3⟩ := cells_vals (he.ev y) hr
    have hu := hj e us h2 h3
    rw [Nv.mem_false] at hu
    have hul := R.len hu
    have hin' : j < l.length := of_decide_eq_true hin
    have hfit : j * R.sz + R.sz ≤ e.caps i * R.sz := by
      have : (j + 1) * R.sz ≤ e.caps i * R.sz := Nat.mul_le_mul_right _ (by omega)
      rw [Nat.add_mul] at this; omega
    have hlen : j * n + 0 + us.length ≤ c.toList.length := by
      rw [hul, Array.length_toList, hcs, ← hn]; omega
    obtain ⟨w', hrun, k1, k2, k3, k4, k5, k6⟩ := run_storeCells_row (P := P) us 0 (j * n) c.toList w (by simpa using hb) (by simpa [thaw] using hz) hlen h3
    refine ⟨w', e, ?_, ?_, ⟨Nv.le.refl e, fun _ => Ro.le.refl _⟩, fun b _ hne => k6 b (fun hb => hne i (by simp) hp.1 (by rw [hc]; exact hp.2.1) hb.symm), by rw [k2]; exact Nat.le_refl _⟩
    · have hsz : (a.eval y).cells.size = n := by rw [h1, ← hn]; simpa using hul
      have hul' : us.length = n := by rw [hul, hn]
      simp [exec1, hul', execOp, hp.2.2, Instr.storeAt, Instr.sureAddr, storeVar, ht.run, hsz, h1, hrun]
    · refine hh.change hp.1 (by rw [hc]; exact hp.2.1) k3 k4 k5 k2 k6 ⟨by simpa using g1, by simpa using g2, g3, ?_⟩
      rw [hp.2.1]
      simp only [Bool.false_eq_true, if_false]
      refine ⟨_, _, k1, by simpa [thaw, setAt_length] using hz, ?_, ?_⟩
      · simp [setAt_length, hcs]
      · rw [Nat.add_zero, setAt_list us c.toList (j * n) (by simpa using hlen), hul, ← hn]
        simpa using rows_set hrow hu hin'
end
end Go.Q
