/- A state told anew (names changed, chunks let go); contracts; calls; drawn regions. -/
import Derived.Test.YtnbjdgamindikaaDoorQf
namespace Go.Q
open Go
set_option linter.unusedVariables false
set_option linter.unusedSimpArgs false

mutual
/-- Names changed. -/
def AVal.ren (s : Nat → Nat) : AVal → AVal
  | .any => .any
  | .lit v => .lit v
  | .ptr i off => .ptr (s i) off
  | .opt c i off => .opt c (s i) off
  | .whole i => .whole (s i)
  | .sl i sz off len => .sl (s i) sz off len
  | .ro R b d => .ro R b d
  | .fn f l => .fn f (renL s l)
  | .agg l => .agg (renL s l)
  | .tup l => .tup (renL s l)
  | .ifc t a => .ifc t (AVal.ren s a)
def renL (s : Nat → Nat) : List AVal → List AVal
  | [] => []
  | a :: l => AVal.ren s a :: renL s l
end

mutual
/-- All names are below a bound. -/
def AVal.under (n : Nat) : AVal → Bool
  | .ptr i _ => Nat.blt i n
  | .opt _ i _ => Nat.blt i n
  | .whole i => Nat.blt i n
  | .sl i _ _ _ => Nat.blt i n
  | .fn _ l => underL n l
  | .agg l => underL n l
  | .tup l => underL n l
  | .ifc _ a => AVal.under n a
  | _ => true
def underL (n : Nat) : List AVal → Bool
  | [] => true
  | a :: l => AVal.under n a && underL n l
end

/-- The naming under changed names. -/
def Nv.re (e : Nv) (s : Nat → Nat) (n : Nat) : Nv :=
  { e with own := fun i => e.own (s i), caps := fun i => e.caps (s i), lens := fun i => e.lens (s i), vir := fun i => e.vir (s i), n := n, bag := fun i => e.bag (s i) }

mutual
theorem Val.re {e : Nv} {s : Nat → Nat} {n : Nat} : ∀ {a : AVal} {v : Value}, Val e (a.ren s) v → a.under n = true → Val (e.re s n) a v
  | .any, _, _, _ => by simp [Val]
  | .lit _, _, h, _ => by simpa [Val, AVal.ren] using h
  | .ptr i off, v, h, hb => by
    simp only [AVal.ren, Val] at h
    simp only [AVal.under, Nat.blt_eq] at hb
    simp only [Val, Nv.re]
    exact ⟨hb, h.2⟩
  | .opt c i off, v, h, hb => by
    simp only [AVal.ren, Val] at h
    simp only [AVal.under, Nat.blt_eq] at hb
    simp only [Val, Nv.re]
    exact ⟨hb, h.2⟩
  | .whole i, v, h, hb => by
    simp only [AVal.ren, Val] at h
    simp only [AVal.under, Nat.blt_eq] at hb
    simp only [Val, Nv.re]
    exact ⟨hb, h.2⟩
  | .sl i sz off len, v, h, hb => by
    simp only [AVal.ren, Val] at h
    simp only [AVal.under, Nat.blt_eq] at hb
    simp only [Val, Nv.re]
    exact ⟨hb, h.2⟩
  | .ro R b d, v, h, _ => by
    simp only [AVal.ren, Val] at h
    simp only [Val]
    exact h
  | .fn f l, v, h, hb => by
    simp only [AVal.ren, Val] at h
    simp only [AVal.under] at hb
    obtain ⟨vs, h1, h2⟩ := h
    simp only [Val]
    exact ⟨vs, h1, Vals.re h2 hb⟩
  | .agg l, v, h, hb => by
    simp only [AVal.ren, Val] at h
    simp only [AVal.under] at hb
    obtain ⟨vs, h1, h2, h3⟩ := h
    simp only [Val]
    exact ⟨vs, h1, Vals.re h2 hb, h3⟩
  | .tup l, v, h, hb => by
    simp only [AVal.ren, Val] at h
    simp only [AVal.under] at hb
    obtain ⟨vs, h1, h2⟩ := h
    simp only [Val]
    exact ⟨vs, h1, Vals.re h2 hb⟩
  | .ifc t a, v, h, hb => by
    simp only [AVal.ren, Val] at h
    simp only [AVal.under] at hb
    obtain ⟨x, h1, h2⟩ := h
    simp only [Val]
    exact ⟨x, h1, Val.re h2 hb⟩
theorem Vals.re {e : Nv} {s : Nat → Nat} {n : Nat} : ∀ {l : List AVal} {vs : List Value}, Vals e (renL s l) vs → underL n l = true → Vals (e.re s n) l vs
  | [], _, h, _ => by simpa [Vals, renL] using h
  | a :: l, vs, h, hb => by
    simp only [renL, Vals] at h
    simp only [underL, Bool.and_eq_true] at hb
    obtain ⟨v, ws, h1, h2, h3⟩ := h
    simp only [Vals]
    exact ⟨v, ws, h1, Val.re h2 hb.1, Vals.re h3 hb.2⟩
end

def Chunk.ren (s : Nat → Nat) : Chunk → Chunk
  | .gone => .gone
  | .cells t l => .cells t (renL s l)
  | .row t R l => .row t R l
  | .obj o => .obj o
  | .bag => .bag
def Chunk.under (n : Nat) : Chunk → Bool
  | .cells _ l => underL n l
  | _ => true

theorem Chunk.re {e : Nv} {s : Nat → Nat} {n : Nat} {w : World} {i : Nat} {c : Chunk} (h : (c.ren s).ok e w (s i)) (hb : c.under n = true) : c.ok (e.re s n) w i := by
  cases c with
  | gone => trivial
  | cells t l =>
    obtain ⟨h0, vs, h1, h2, h3⟩ := h
    exact ⟨h0, vs, h1, Vals.re h2 hb, h3⟩
  | row t R l => exact h
  | obj o => exact h
  | bag => exact h

theorem Chunk.live_re {e : Nv} {s : Nat → Nat} {n : Nat} {i : Nat} {c : Chunk} : c.live (e.re s n) i ↔ (c.ren s).live e (s i) := by
  cases c <;> simp [Chunk.live, Chunk.ren, Nv.re]

def AllLt : Nat → (Nat → Prop) → Prop
  | 0, _ => True
  | n + 1, p => AllLt n p ∧ p n
theorem AllLt.get {p : Nat → Prop} : ∀ {n i : Nat}, AllLt n p → i < n → p i
  | 0, i, _, h => absurd h (Nat.not_lt_zero _)
  | n + 1, i, h, hi => by
    rcases Nat.lt_or_ge i n with h1 | h1
    · exact AllLt.get h.1 h1
    · have : i = n := by omega
      subst this; exact h.2

def sub (l : List Nat) (i : Nat) : Nat := l.getD i 0

/-- How chunks are told anew. -/
structure LeM (l : List Nat) (p : Nat) (M M' : Mem) : Prop where
  len : Nat.beq l.length M'.n = true
  ok : AllLt M'.n fun i => M'.at_ i = .gone ∨ (Nat.blt (sub l i) M.n = true ∧ M.at_ (sub l i) = (M'.at_ i).ren (sub l) ∧ (M'.at_ i).under M'.n = true)
  inj : l.Nodup
  np : Nat.ble p M'.n = true
  pin : AllLt p fun i => sub l i = i

/-- How what is in temporaries is told anew. -/
def LeV (l : List Nat) (n : Nat) (f f' : Nat → AVal) : Prop := ∀ t, f' t = .any ∨ (f t = (f' t).ren (sub l) ∧ (f' t).under n = true)
structure LeP (l : List Nat) (n : Nat) (p p' : OEnv) : Prop where
  a : p'.a = p.a
  v : LeV l n p.v p'.v
  d : p.d = p'.d.map (sub l)
  db : (p'.d.all fun i => Nat.blt i n) = true
  lk : p.lk = p'.lk.map fun x => (sub l x.1, x.2)
  lkb : (match p'.lk with | some x => Nat.blt x.1 n | none => true) = true
inductive LeO (l : List Nat) (n : Nat) : List OEnv → List OEnv → Prop
  | nil : LeO l n [] []
  | cons {p p' : OEnv} {r r' : List OEnv} : LeP l n p p' → LeO l n r r' → LeO l n (p :: r) (p' :: r')

structure LeE (l : List Nat) (n : Nat) (E E' : Env) : Prop where
  v : LeV l n E.v E'.v
  d : E.d = E'.d.map (sub l)
  db : (E'.d.all fun i => Nat.blt i n) = true
  o : LeO l n E.o E'.o

theorem LeV.none {l : List Nat} {n : Nat} {f : Nat → AVal} : LeV l n f fun _ => .any := fun _ => .inl rfl
theorem LeE.none {l : List Nat} {n : Nat} {E : Env} (h : E.d = []) (ho : E.o = []) : LeE l n E Env.none := ⟨LeV.none, by rw [h]; rfl, rfl, by rw [ho]; exact .nil⟩
theorem LeE.noneD {l d : List Nat} {n : Nat} {E : Env} {o : List OEnv} (h : E.d = d.map (sub l)) (hb : (d.all fun i => Nat.blt i n) = true) (ho : LeO l n E.o o) : LeE l n E ⟨fun _ => .any, d, o⟩ :=
  ⟨LeV.none, h, hb, ho⟩
theorem LeV.upd {l : List Nat} {n t : Nat} {f : Nat → AVal} {E' : Env} {a : AVal} (h : f t = a.ren (sub l)) (hb : a.under n = true) (k : LeV l n f E'.v) : LeV l n f (E'.upd t a).v := by
  intro u
  rw [Env.upd_v]
  split
  · rename_i hu; subst hu; exact .inr ⟨h, hb⟩
  · exact k u
theorem LeE.upd {l : List Nat} {n t : Nat} {E E' : Env} {a : AVal} (h : E.v t = a.ren (sub l)) (hb : a.under n = true) (k : LeE l n E E') : LeE l n E (E'.upd t a) :=
  ⟨LeV.upd h hb k.v, k.d, k.db, k.o⟩

theorem marks_re {e : Nv} {M M' : Mem} {l : List Nat} {n : Nat} : ∀ {d : List Nat} {ds : List Deferred}, marks e M (d.map (sub l)) ds → (d.all fun i => Nat.blt i n) = true → marks (e.re (sub l) n) M' d ds
  | [], _, h, _ => h
  | i :: d, ds, h, hb => by
    obtain ⟨r, h1, h2, h3⟩ := h
    simp only [List.all_cons, Bool.and_eq_true, Nat.blt_eq] at hb
    exact ⟨r, h1, hb.1, marks_re h3 hb.2⟩

theorem okO_re {e : Nv} {M M' : Mem} {l : List Nat} {n : Nat} {p p' : OEnv} (h : okO e M p) (k : LeP l n p p') : okO (e.re (sub l) n) M' p' := by
  refine ⟨fun t => ?_, ?_, fun i b hi => ?_⟩
  · rcases k.v t with h0 | ⟨h1, h2⟩
    · rw [h0]; simp [Val]
    · have := h.v t
      rw [h1] at this
      rw [k.a]
      exact this.re h2
  · rw [k.a]
    have := h.d
    rw [k.d] at this
    exact marks_re this k.db
  · have h1 := k.lk
    have h2 := k.lkb
    rw [hi] at h1 h2
    simp only [Option.map_some] at h1
    exact ⟨(by show i < n; simpa using h2), (h.lk _ _ h1).2⟩

theorem okOs_re {e : Nv} {M M' : Mem} {l : List Nat} {n : Nat} {o o' : List OEnv} (k : LeO l n o o') : (∀ p ∈ o, okO e M p) → ∀ p ∈ o', okO (e.re (sub l) n) M' p := by
  induction k with
  | nil => intro _ p hp; cases hp
  | cons hp _ ih =>
    intro h q hq
    rcases List.mem_cons.1 hq with rfl | hq
    · exact okO_re (h _ (by simp)) hp
    · exact ih (fun x hx => h x (by simp [hx])) q hq

section
variable {cx : Cx} {e : Nv} {M M' : Mem} {w : World} {E E' : Env} {nt : Nat} {a : Act} {l : List Nat}

theorem LeM.inj' {np : Nat} (h : LeM l np M M') {i j : Nat} (hi : i < M'.n) (hj : j < M'.n) (hij : sub l i = sub l j) : i = j := by
  have hl : l.length = M'.n := by simpa using h.len
  unfold sub at hij
  rw [List.getD_eq_getElem?_getD, List.getD_eq_getElem?_getD, List.getElem?_eq_getElem (by omega), List.getElem?_eq_getElem (by omega)] at hij
  simp only [Option.getD_some] at hij
  have hp := List.pairwise_iff_getElem.1 h.inj
  rcases Nat.lt_trichotomy i j with h1 | h1 | h1
  · exact absurd hij (hp i j (by omega) (by omega) h1)
  · exact h1
  · exact absurd hij.symm (hp j i (by omega) (by omega) h1)

theorem Hold.re {np : Nat} (h : Hold cx e M w) (hnp : cx.np = np) (hM : LeM l np M M') : Hold cx (e.re (sub l) M'.n) M' w := by
  have live_of : ∀ i, i < M'.n → (M'.at_ i).live (e.re (sub l) M'.n) i → sub l i < e.n ∧ (M.at_ (sub l i)).live e (sub l i) := by
    intro i hi hl
    rcases hM.ok.get hi with h0 | ⟨h1, h2, _⟩
    · rw [h0] at hl; exact hl.elim
    · refine ⟨by rw [h.n]; simpa using h1, ?_⟩
      rw [h2]
      exact Chunk.live_re.1 hl
  refine ⟨h.bm, rfl, h.size, h.os, h.tape, h.output, h.frame, h.ro, h.bro, h.m0, h.mnew, ?_, ?_, ?_, ?_, ?_, ?_⟩
  · intro i hi
    rcases hM.ok.get hi with h0 | ⟨h1, h2, h3⟩
    · rw [h0]; trivial
    · refine Chunk.re ?_ h3
      rw [← h2]
      exact h.ch _ (by rw [h.n]; simpa using h1)
  · intro i hi hl
    obtain ⟨h1, h2⟩ := live_of i hi hl
    exact h.live _ h1 h2
  · intro i j hi hj hli hlj hij
    obtain ⟨h1, h2⟩ := live_of i hi hli
    obtain ⟨h3, h4⟩ := live_of j hj hlj
    exact hM.inj' hi hj (h.dist _ _ h1 h3 h2 h4 hij)
  · rw [hnp]; show np ≤ M'.n; simpa using hM.np
  · intro i hi
    have := hM.pin.get (i := i) (by rw [← hnp]; exact hi)
    simp only [Nv.re, this]
    exact h.pin i hi
  · have mk : ∀ i, i < M'.n → (M'.at_ i).mark = true → sub l i < e.n ∧ (M.at_ (sub l i)).mark = true := by
      intro i hi hm
      rcases hM.ok.get hi with h0 | ⟨h1, h2, _⟩
      · rw [h0] at hm; cases hm
      · refine ⟨by rw [h.n]; simpa using h1, ?_⟩
        rw [h2]
        cases hc : M'.at_ i <;> rw [hc] at hm <;> first | exact hm | cases hm
    refine ⟨fun i hi hm => ?_, fun i hi hm x hx => ?_, fun i hi hm x hx j hj hlj => ?_, fun i j hi hj hmi hmj hij x hx => ?_⟩
    · obtain ⟨h1, h2⟩ := mk i hi hm
      exact h.bag.nodup _ h1 h2
    · obtain ⟨h1, h2⟩ := mk i hi hm
      exact h.bag.at_ _ h1 h2 x hx
    · obtain ⟨h1, h2⟩ := mk i hi hm
      obtain ⟨h3, h4⟩ := live_of j hj hlj
      exact h.bag.own _ h1 h2 x hx _ h3 h4
    · obtain ⟨h1, h2⟩ := mk i hi hmi
      obtain ⟨h3, h4⟩ := mk j hj hmj
      exact h.bag.dist _ _ h1 h3 h2 h4 (fun he => hij (hM.inj' hi hj he)) x hx

theorem Emb.re {np : Nat} (he : Emb nt e M E a) (hM : LeM l np M M') (hE : LeE l M'.n E E') : Emb nt (e.re (sub l) M'.n) M' E' a := by
  refine ⟨he.sz, fun t => ?_, ?_, okOs_re hE.o he.o⟩
  · rcases hE.v t with h0 | ⟨h1, h2⟩
    · rw [h0]; simp [Val]
    · have := he.v t
      rw [h1] at this
      exact this.re h2
  · have := he.d
    rw [hE.d] at this
    exact marks_re this hE.db
end

section
variable {P : Program} {cx : Cx} {fr : Fr} {ops : Array Oper} {os : List Oper} {E E' : Env} {M M' : Mem} {Q : Ex → Env → Mem → Prop} {c : Code}

/-- The state told anew. -/
theorem WPL.weak {np : Nat} (l : List Nat) (hnp : cx.np = np) (hM : LeM l np M M') (hE : LeE l M'.n E E') (k : WPL P cx fr ops os E' M' Q) : WPL P cx fr ops os E M Q :=
  fun a w e hh he => k a w _ (hh.re hnp hM) (he.re hM hE)
theorem WP.weak {np : Nat} (l : List Nat) (hnp : cx.np = np) (hM : LeM l np M M') (hE : LeE l M'.n E E') (k : WP P cx fr c E' M' Q) : WP P cx fr c E M Q :=
  fun a w e hh he => k a w _ (hh.re hnp hM) (he.re hM hE)
end

/-! ### Freezing -/
theorem nbeq_false {i j : Nat} (h : j ≠ i) : Nat.beq j i = false := by
  cases hb : Nat.beq j i with
  | true => exact absurd (Nat.eq_of_beq_eq_true hb) h
  | false => rfl

mutual
def frzA (i : Nat) (wh pt : AVal) : AVal → AVal
  | .any => .any
  | .lit v => .lit v
  | .ptr j off => bif Nat.beq j i then (bif Nat.beq off 0 then pt else .any) else .ptr j off
  | .opt c j off => bif Nat.beq j i then .any else .opt c j off
  | .whole j => bif Nat.beq j i then wh else .whole j
  | .sl j sz off len => bif Nat.beq j i then .any else .sl j sz off len
  | .ro R b d => .ro R b d
  | .fn f l => .fn f (frzL i wh pt l)
  | .agg l => .agg (frzL i wh pt l)
  | .tup l => .tup (frzL i wh pt l)
  | .ifc t a => .ifc t (frzA i wh pt a)
def frzL (i : Nat) (wh pt : AVal) : List AVal → List AVal
  | [] => []
  | a :: l => frzA i wh pt a :: frzL i wh pt l
end

def Chunk.frz (i : Nat) (wh pt : AVal) : Chunk → Chunk
  | .cells t l => .cells t (frzL i wh pt l)
  | c => c

def OEnv.frz (p : OEnv) (i : Nat) (wh pt : AVal) : OEnv := ⟨p.a, fun t => frzA i wh pt (p.v t), p.d, p.lk⟩
def Env.frz (E : Env) (i : Nat) (wh pt : AVal) : Env := ⟨fun t => frzA i wh pt (E.v t), E.d, E.o.map fun p => p.frz i wh pt⟩
def Mem.frz (M : Mem) (i : Nat) (wh pt : AVal) : Mem := ⟨M.n, fun j => bif Nat.beq j i then .gone else (M.at_ j).frz i wh pt⟩

/-- The naming with block b read only. -/
def Nv.froze (e : Nv) (b : Nat) (o : Option Obj) : Nv := { e with m := fun k => if k = b then (match o with | some x => some x | none => e.m k) else e.m k }

mutual
theorem Val.frz {e e' : Nv} {i : Nat} {wh pt : AVal} (hle : e.le e') (hb : ∀ b, Ro.le (e.mem b) (e'.mem b)) (hw : ∀ v, Val e (.whole i) v → Val e' wh v) (hp : ∀ v, Val e (.ptr i 0) v → Val e' pt v) : ∀ {a : AVal} {v : Value}, Val e a v → Val e' (frzA i wh pt a) v
  | .any, _, _ => by simp [frzA, Val]
  | .lit _, _, h => by simpa [frzA, Val] using h
  | .ptr j off, v, h => by
    simp only [frzA]
    cases h1 : Nat.beq j i with
    | true =>
      have : j = i := by simpa using h1
      subst this
      cases h2 : Nat.beq off 0 with
      | true =>
        have : off = 0 := by simpa using h2
        subst this
        exact hp v h
      | false => simp [Val]
    | false => exact h.mono hle hb
  | .opt c j off, v, h => by
    simp only [frzA]
    cases h1 : Nat.beq j i with
    | true => simp [Val]
    | false => exact h.mono hle hb
  | .whole j, v, h => by
    simp only [frzA]
    cases h1 : Nat.beq j i with
    | true =>
      have : j = i := by simpa using h1
      subst this
      exact hw v h
    | false => exact h.mono hle hb
  | .sl j sz off len, v, h => by
    simp only [frzA]
    cases h1 : Nat.beq j i with
    | true => simp [Val]
    | false => exact h.mono hle hb
  | .ro R b d, v, h => by
    simp only [frzA]
    exact h.mono hle hb
  | .fn f l, v, h => by
    simp only [Val] at h
    obtain ⟨vs, h1, h2⟩ := h
    simp only [frzA, Val]
    exact ⟨vs, h1, Vals.frz hle hb hw hp h2⟩
  | .agg l, v, h => by
    simp only [Val] at h
    obtain ⟨vs, h1, h2, h3⟩ := h
    simp only [frzA, Val]
    exact ⟨vs, h1, Vals.frz hle hb hw hp h2, h3⟩
  | .tup l, v, h => by
    simp only [Val] at h
    obtain ⟨vs, h1, h2⟩ := h
    simp only [frzA, Val]
    exact ⟨vs, h1, Vals.frz hle hb hw hp h2⟩
  | .ifc t a, v, h => by
    simp only [Val] at h
    obtain ⟨x, h1, h2⟩ := h
    simp only [frzA, Val]
    exact ⟨x, h1, Val.frz hle hb hw hp h2⟩
theorem Vals.frz {e e' : Nv} {i : Nat} {wh pt : AVal} (hle : e.le e') (hb : ∀ b, Ro.le (e.mem b) (e'.mem b)) (hw : ∀ v, Val e (.whole i) v → Val e' wh v) (hp : ∀ v, Val e (.ptr i 0) v → Val e' pt v) : ∀ {l : List AVal} {vs : List Value}, Vals e l vs → Vals e' (frzL i wh pt l) vs
  | [], _, h => by simpa [frzL, Vals] using h
  | a :: l, vs, h => by
    simp only [Vals] at h
    obtain ⟨v, ws, h1, h2, h3⟩ := h
    simp only [frzL, Vals]
    exact ⟨v, ws, h1, Val.frz hle hb hw hp h2, Vals.frz hle hb hw hp h3⟩
end

section
variable {cx : Cx} {e : Nv} {M : Mem} {w : World} {E : Env} {nt : Nat} {a : Act}

/-- The core of freezing: block o of chunk i is read only from here on. -/
theorem freeze_core (hh : Hold cx e M w) (he : Emb nt e M E a) {i : Nat} (hi : i < e.n) (hlive : (M.at_ i).live e i) (hnp : cx.np ≤ i) (hd : (E.d.all fun j => !Nat.beq j i) = true) {o : Obj} (ho : w.heap[e.own i]? = some o) {wh pt : AVal}
    (hw : ∀ v, Val e (.whole i) v → Val (e.froze (e.own i) (some o)) wh v) (hp : ∀ v, Val e (.ptr i 0) v → Val (e.froze (e.own i) (some o)) pt v) :
    Hold cx (e.froze (e.own i) (some o)) (M.frz i wh pt) w ∧ Emb nt (e.froze (e.own i) (some o)) (M.frz i wh pt) (E.frz i wh pt) a ∧ e.le (e.froze (e.own i) (some o)) := by
  have hli := hh.live i hi hlive
  have hm : Ro.le e.m (e.froze (e.own i) (some o)).m := by
    intro k x hk
    simp only [Nv.froze]
    split
    · rename_i hkb; subst hkb; rw [hli.2.1] at hk; cases hk
    · exact hk
  have hle : e.le (e.froze (e.own i) (some o)) := ⟨hm, Ro.le.refl _, Nat.le_refl _, fun _ _ => rfl, fun _ _ => rfl, fun _ _ => rfl, fun _ _ => rfl, fun _ _ => rfl⟩
  have hmb : ∀ b, Ro.le (e.mem b) ((e.froze (e.own i) (some o)).mem b) := by
    intro b
    refine Nv.mem_le hle (fun k x y hx hk hy => ?_) b
    simp only [Nv.froze] at hx
    split at hx
    · rename_i hkb; subst hkb; rw [hli.2.2.1] at hy; cases hy
    · rw [hk] at hx; cases hx
  have hat : ∀ j, j ≠ i → (M.frz i wh pt).at_ j = (M.at_ j).frz i wh pt := by
    intro j hj
    have : Nat.beq j i = false := nbeq_false hj
    simp only [Mem.frz, this, cond_false]
  have hati : (M.frz i wh pt).at_ i = .gone := by simp [Mem.frz]
  have live_of : ∀ j, ((M.frz i wh pt).at_ j).live (e.froze (e.own i) (some o)) j → j ≠ i ∧ (M.at_ j).live e j := by
    intro j hl
    by_cases hj : j = i
    · subst hj; rw [hati] at hl; exact hl.elim
    · rw [hat j hj] at hl
      refine ⟨hj, ?_⟩
      cases hc : M.at_ j <;> rw [hc] at hl <;> exact hl
  constructor
  · have mk : ∀ j, ((M.frz i wh pt).at_ j).mark = true → j ≠ i ∧ (M.at_ j).mark = true := by
      intro j hj
      by_cases hji : j = i
      · subst hji; rw [hati] at hj; cases hj
      · rw [hat j hji] at hj
        refine ⟨hji, ?_⟩
        cases hc : M.at_ j <;> rw [hc] at hj <;> first | exact hj | cases hj
    refine ⟨hh.bm, hh.n, hh.size, hh.os, hh.tape, hh.output, hh.frame, ?_, hh.bro, hh.m0.trans hm, ?_, ?_, ?_, ?_, hh.np, hh.pin,
      ⟨fun j hj hm' => hh.bag.nodup j hj (mk j hm').2, fun j hj hm' x hx => ?_, fun j hj hm' x hx k hk hlk => hh.bag.own j hj (mk j hm').2 x hx k hk (live_of k hlk).2, fun j k hj hk hmj hmk hjk x hx => hh.bag.dist j k hj hk (mk j hmj).2 (mk k hmk).2 hjk x hx⟩⟩
    · intro k x hk
      simp only [Nv.froze] at hk
      split at hk
      · rename_i hkb; subst hkb; cases hk; exact ho
      · exact hh.ro k x hk
    · intro k x hk
      simp only [Nv.froze] at hk
      split at hk
      · rename_i hkb; subst hkb; exact .inr hli.2.2.2
      · exact hh.mnew k x hk
    · intro j hj
      by_cases hji : j = i
      · subst hji; rw [hati]; trivial
      · rw [hat j hji]
        have hk := hh.ch j hj
        cases hc : M.at_ j with
        | gone => trivial
        | cells t l =>
          rw [hc] at hk
          obtain ⟨h0, vs, h1, h2, h3⟩ := hk
          exact ⟨h0, vs, h1, Vals.frz hle hmb hw hp h2, h3⟩
        | row t R l =>
          rw [hc] at hk
          exact Chunk.ok_mono hle hmb hj hk
        | obj x => rw [hc] at hk; exact hk
        | bag => rw [hc] at hk; exact hk
    · intro j hj hl
      obtain ⟨h1, h2⟩ := live_of j hl
      have h3 := hh.live j hj h2
      refine ⟨h3.1, ?_, h3.2.2⟩
      simp only [Nv.froze]
      rw [if_neg (fun hjj => h1 (hh.dist j i hj hi h2 hlive hjj))]
      exact h3.2.1
    · intro j k hj hk hlj hlk hjk
      exact hh.dist j k hj hk (live_of j hlj).2 (live_of k hlk).2 hjk
    · obtain ⟨h1, h2, h3⟩ := hh.bag.at_ j hj (mk j hm').2 x hx
      refine ⟨h1, ?_, h3⟩
      simp only [Nv.froze]
      rw [if_neg (fun hxo => hh.bag.own j hj (mk j hm').2 x hx i hi hlive hxo.symm)]
      exact h2
  · refine ⟨⟨he.sz, fun t => Val.frz hle hmb hw hp (he.v t), he.d.mono hle, fun p hp' => ?_⟩, hle⟩
    obtain ⟨q, hq, rfl⟩ := List.mem_map.1 hp'
    have hk := he.o q hq
    exact ⟨fun t => Val.frz hle hmb hw hp (hk.v t), hk.d.mono hle, hk.lk⟩

/-- An empty row without a block is let go. -/
theorem freeze_vir (hh : Hold cx e M w) (he : Emb nt e M E a) {i : Nat} {wh pt : AVal} (hw : ∀ v, Val e (.whole i) v → Val e wh v) (hp : ∀ v, Val e (.ptr i 0) v → Val e pt v) :
    Hold cx e (M.frz i wh pt) w ∧ Emb nt e (M.frz i wh pt) (E.frz i wh pt) a ∧ e.le e := by
  have hle := Nv.le.refl e
  have hmb : ∀ b, Ro.le (e.mem b) (e.mem b) := fun b => Ro.le.refl _
  have hat : ∀ j, j ≠ i → (M.frz i wh pt).at_ j = (M.at_ j).frz i wh pt := by
    intro j hj
    have : Nat.beq j i = false := nbeq_false hj
    simp only [Mem.frz, this, cond_false]
  have hati : (M.frz i wh pt).at_ i = .gone := by simp [Mem.frz]
  have live_of : ∀ j, ((M.frz i wh pt).at_ j).live e j → (M.at_ j).live e j := by
    intro j hl
    by_cases hj : j = i
    · subst hj; rw [hati] at hl; exact hl.elim
    · rw [hat j hj] at hl
      cases hc : M.at_ j <;> rw [hc] at hl <;> exact hl
  have mk : ∀ j, ((M.frz i wh pt).at_ j).mark = true → (M.at_ j).mark = true := by
    intro j hj
    by_cases hji : j = i
    · subst hji; rw [hati] at hj; cases hj
    · rw [hat j hji] at hj
      cases hc : M.at_ j <;> rw [hc] at hj <;> first | exact hj | cases hj
  constructor
  · refine ⟨hh.bm, hh.n, hh.size, hh.os, hh.tape, hh.output, hh.frame, hh.ro, hh.bro, hh.m0, hh.mnew, ?_, fun j hj hl => hh.live j hj (live_of j hl), fun j k hj hk hlj hlk hjk => hh.dist j k hj hk (live_of j hlj) (live_of k hlk) hjk, hh.np, hh.pin,
      ⟨fun j hj hm' => hh.bag.nodup j hj (mk j hm'), fun j hj hm' => hh.bag.at_ j hj (mk j hm'), fun j hj hm' x hx k hk hlk => hh.bag.own j hj (mk j hm') x hx k hk (live_of k hlk), fun j k hj hk hmj hmk hjk x hx => hh.bag.dist j k hj hk (mk j hmj) (mk k hmk) hjk x hx⟩⟩
    intro j hj
    by_cases hji : j = i
    · subst hji; rw [hati]; trivial
    · rw [hat j hji]
      have hk := hh.ch j hj
      cases hc : M.at_ j with
      | gone => trivial
      | cells t l =>
        rw [hc] at hk
        obtain ⟨h0, vs, h1, h2, h3⟩ := hk
        exact ⟨h0, vs, h1, Vals.frz hle hmb hw hp h2, h3⟩
      | row t R l => rw [hc] at hk; exact hk
      | obj x => rw [hc] at hk; exact hk
      | bag => rw [hc] at hk; exact hk
  · refine ⟨⟨he.sz, fun t => Val.frz hle hmb hw hp (he.v t), he.d.mono hle, fun p hp' => ?_⟩, hle⟩
    obtain ⟨q, hq, rfl⟩ := List.mem_map.1 hp'
    have hk := he.o q hq
    exact ⟨fun t => Val.frz hle hmb hw hp (hk.v t), hk.d.mono hle, hk.lk⟩

/-- A row of our own becomes a slice that is only read. -/
theorem freeze_row (hh : Hold cx e M w) (he : Emb nt e M E a) {i np : Nat} {t : TypeId} {α : Type} {R : Rd α} {l : List α} (hi : Nat.blt i M.n = true) (hc : M.at_ i = .row t R l) (hnp : cx.np = np) (hni : Nat.ble np i = true) (hd : (E.d.all fun j => !Nat.beq j i) = true) :
    ∃ e', Hold cx e' (M.frz i (.ro (Rd.slice R) false l) .any) w ∧ Emb nt e' (M.frz i (.ro (Rd.slice R) false l) .any) (E.frz i (.ro (Rd.slice R) false l) .any) a ∧ e.le e' := by
  have hi' : i < e.n := by rw [hh.n]; simpa using hi
  have hk := hh.ch i hi'
  rw [hc] at hk
  obtain ⟨g1, g2, g3, g4⟩ := hk
  cases hvir : e.vir i with
  | true =>
    rw [hvir] at g4
    simp only [if_true] at g4
    subst g4
    refine ⟨e, freeze_vir hh he (fun v hv => ?_) (fun v _ => by simp [Val])⟩
    simp only [Val, hvir, if_true] at hv
    simp only [Val, Rd.slice]
    exact .inl ⟨trivial, none, 0, by rw [hv.2.2.1]⟩
  | false =>
    rw [hvir] at g4
    simp only [Bool.false_eq_true, if_false] at g4
    obtain ⟨c, z, hb, hz, hcs, hrow⟩ := g4
    have hlive : (M.at_ i).live e i := by rw [hc]; exact hvir
    refine ⟨_, freeze_core hh he hi' hlive (by rw [hnp]; simpa using hni) hd hb (fun v hv => ?_) (fun v _ => by simp [Val])⟩
    simp only [Val, hvir, Bool.false_eq_true, if_false] at hv
    simp only [Val, Rd.slice, Nv.mem_false]
    refine .inr ⟨e.own i, 0, c, t, z, e.caps i, by rw [hv.2.2, g1], g2, by simp [Nv.froze], ?_⟩
    rw [List.drop_zero]
    refine rows_mono ?_ hrow
    intro k x hk
    simp only [Nv.froze]
    split
    · rename_i hkb; subst hkb; rw [(hh.live i hi' hlive).2.1] at hk; cases hk
    · exact hk

/-- Cells of our own become a struct behind a pointer that is only read. -/
theorem freeze_cells (hh : Hold cx e M w) (he : Emb nt e M E a) {i np : Nat} {t : TypeId} {α : Type} {R : Rd α} {d : α} {l : List AVal} (hi : Nat.blt i M.n = true) (hc : M.at_ i = .cells t l) (hj : Joins R false d l) (hl : Nat.beq l.length R.sz = true) (hnp : cx.np = np) (hni : Nat.ble np i = true) (hd : (E.d.all fun j => !Nat.beq j i) = true) :
    ∃ e', Hold cx e' (M.frz i .any (.ro (Rd.ptr R) false d)) w ∧ Emb nt e' (M.frz i .any (.ro (Rd.ptr R) false d)) (E.frz i .any (.ro (Rd.ptr R) false d)) a ∧ e.le e' := by
  have hi' : i < e.n := by rw [hh.n]; simpa using hi
  have hk := hh.ch i hi'
  rw [hc] at hk
  obtain ⟨hvir, vs, hb, hvs, ho⟩ := hk
  have hlive : (M.at_ i).live e i := by rw [hc]; trivial
  refine ⟨_, freeze_core hh he hi' hlive (by rw [hnp]; simpa using hni) hd hb (fun v _ => by simp [Val]) (fun v hv => ?_)⟩
  simp only [Val] at hv
  simp only [Val, Rd.ptr, Nv.mem_false]
  refine ⟨e.own i, 0, vs.toArray, t, (0, 0), by rw [hv.2.2], by simp [Nv.froze], ?_⟩
  have hok := hj e vs hvs ho
  rw [Nv.mem_false] at hok
  have hlen : vs.length = R.sz := by rw [hvs.length]; simpa using hl
  rw [List.drop_zero, List.toList_toArray, List.take_of_length_le (by omega)]
  refine R.mono ?_ hok
  intro k x hk
  simp only [Nv.froze]
  split
  · rename_i hkb; subst hkb; rw [(hh.live i hi' hlive).2.1] at hk; cases hk
  · exact hk
end

section
variable {P : Program} {cx : Cx} {fr : Fr} {ops : Array Oper} {os : List Oper} {E : Env} {M : Mem} {Q : Ex → Env → Mem → Prop} {c : Code}
theorem WPL.frzRow {i np : Nat} {t : TypeId} {α : Type} {R : Rd α} {l : List α} (hi : Nat.blt i M.n = true) (hc : M.at_ i = .row t R l) (hnp : cx.np = np) (hni : Nat.ble np i = true) (hd : (E.d.all fun j => !Nat.beq j i) = true)
    (k : WPL P cx fr ops os (E.frz i (.ro (Rd.slice R) false l) .any) (M.frz i (.ro (Rd.slice R) false l) .any) Q) : WPL P cx fr ops os E M Q :=
  fun a w e hh he => let ⟨e', h1, h2, _⟩ := freeze_row hh he hi hc hnp hni hd; k a w e' h1 h2
theorem WPL.frzCells {i np : Nat} {t : TypeId} {α : Type} {R : Rd α} {d : α} {l : List AVal} (hi : Nat.blt i M.n = true) (hc : M.at_ i = .cells t l) (hj : Joins R false d l) (hl : Nat.beq l.length R.sz = true) (hnp : cx.np = np) (hni : Nat.ble np i = true) (hd : (E.d.all fun j => !Nat.beq j i) = true)
    (k : WPL P cx fr ops os (E.frz i .any (.ro (Rd.ptr R) false d)) (M.frz i .any (.ro (Rd.ptr R) false d)) Q) : WPL P cx fr ops os E M Q :=
  fun a w e hh he => let ⟨e', h1, h2, _⟩ := freeze_cells hh he hi hc hj hl hnp hni hd; k a w e' h1 h2
theorem WP.frzRow {i np : Nat} {t : TypeId} {α : Type} {R : Rd α} {l : List α} (hi : Nat.blt i M.n = true) (hc : M.at_ i = .row t R l) (hnp : cx.np = np) (hni : Nat.ble np i = true) (hd : (E.d.all fun j => !Nat.beq j i) = true)
    (k : WP P cx fr c (E.frz i (.ro (Rd.slice R) false l) .any) (M.frz i (.ro (Rd.slice R) false l) .any) Q) : WP P cx fr c E M Q :=
  fun a w e hh he => let ⟨e', h1, h2, _⟩ := freeze_row hh he hi hc hnp hni hd; k a w e' h1 h2
theorem WP.frzCells {i np : Nat} {t : TypeId} {α : Type} {R : Rd α} {d : α} {l : List AVal} (hi : Nat.blt i M.n = true) (hc : M.at_ i = .cells t l) (hj : Joins R false d l) (hl : Nat.beq l.length R.sz = true) (hnp : cx.np = np) (hni : Nat.ble np i = true) (hd : (E.d.all fun j => !Nat.beq j i) = true)
    (k : WP P cx fr c (E.frz i .any (.ro (Rd.ptr R) false d)) (M.frz i .any (.ro (Rd.ptr R) false d)) Q) : WP P cx fr c E M Q :=
  fun a w e hh he => let ⟨e', h1, h2, _⟩ := freeze_cells hh he hi hc hj hl hnp hni hd; k a w e' h1 h2
end
end Go.Q
