/- Texts joined: part 6 of what LDeflateBack stands on. -/
import Derived.Test.YtmmeanjjfhimjaaSDeflateBacke
namespace Go.Proofs.Ytmmeanjjfhimjaa.W
open Go Go.Q Go.Proofs Go.Proofs.Ytmmeanjjfhimjaa.HB
set_option linter.unusedVariables false
set_option linter.unusedSimpArgs false
theorem sim_mv {A1 A2 B1 B2:List Co} (h:∀ x∈A2,∀ y∈B1,y.ffreq<x.ffreq):Sim kf ((A1++A2)++(B1++B2)) ((A1++B1)++(A2++B2)):=by
  rw [show (A1++A2)++(B1++B2)=A1++((A2++B1)++B2) by simp,show (A1++B1)++(A2++B2)=A1++((B1++A2)++B2) by simp]
  exact Sim.app (Sim.refl _) (Sim.app (Sim.swap fun x hx y hy e=>absurd e.symm (Int.ne_of_lt (h x hx y hy))) (Sim.refl _))
theorem sorts_nil1 {A B:List Co} (hA:A=[]) (hB:Srt kf B):Sorts (A++B) (A++B):=by subst hA;exact ⟨hB,Sim.refl _,rfl⟩
theorem sorts_nil2 {A B:List Co} (hB:B=[]) (hA:Srt kf A):Sorts (A++B) (A++B):=by subst hB;exact ⟨by simpa using hA,Sim.refl _,rfl⟩
theorem symm:∀ (k:Nat) (P A B Q:List Co) (a m b:Nat),a=P.length→m=a+A.length→b=m+B.length→0<A.length→0<B.length→Srt kf A→Srt kf B→2*(A.length+B.length)+2≤k→b+Q.length≤1000000 →
    ∃ M,g_sc_symMergeCmpFunc_huff_coin k (a:Int) (m:Int) (b:Int) (P++A++B++Q)=some (P++M++Q)∧Sorts (A++B) M:=by
  intro k
  induction k with
  | zero=>intro P A B Q a m b _ _ _ _ _ _ _ h;omega
  | succ k ih =>
    intro P A B Q a m b ha hm hb hA hB sA sB hk hl
    have hX:(P++A++B++Q).length=b+Q.length:=by simp;omega
    have kA:∀ c d,a≤c→c≤d→d<m→ky (P++A++B++Q) c≤ky (P++A++B++Q) d:=by
      intro c d h1 h2 h3
      rw [show P++A++B++Q=P++A++(B++Q) by simp,ky_mid (U:=P) (V:=A) (c:=c - a) (by omega) (by omega),ky_mid (U:=P) (V:=A) (c:=d - a) (by omega) (by omega)]
      exact srt_ky sA _ _ (by omega) (by omega)
    have kB:∀ c d,m≤c→c≤d→d<b→ky (P++A++B++Q) c≤ky (P++A++B++Q) d:=by
      intro c d h1 h2 h3
      rw [ky_mid (U:=P++A) (V:=B) (c:=c - m) (by omega) (by simp;omega),ky_mid (U:=P++A) (V:=B) (c:=d - m) (by omega) (by simp;omega)]
      exact srt_ky sB _ _ (by omega) (by omega)
    rw [g_sc_symMergeCmpFunc_huff_coin]
    unfold h_sc_symMergeCmpFunc_huff_coin
    simp only [Option.bind_some,bd]
    rw [wi (n:=(m:Int) - a) (by omega) (by omega),wi (n:=(b:Int) - m) (by omega) (by omega)]
    by_cases h1:A.length=1
    · rw [if_pos (by omega)]
      obtain ⟨u,rfl⟩:=List.length_eq_one_iff.1 h1
      obtain ⟨r,e,r1,r2,r3,r4⟩:=bis0 k (P++[u]++B++Q) a m b (by omega) (by omega) (by omega) kB k m b (Nat.le_refl _) (by omega) (Nat.le_refl _) (by simp at hk;omega) (fun c h1 h2=>by omega) (fun c h1 h2=>by omega)
      rw [e]
      simp only [Option.bind_some]
      have hsp:B=B.take (r - m)++B.drop (r - m):=(List.take_append_drop _ _).symm
      generalize hB1:B.take (r - m)=B1 at hsp
      generalize hB2:B.drop (r - m)=B2 at hsp
      have l1:B1.length=r - m:=by rw [← hB1];simp;omega
      have hu:ky (P++[u]++B++Q) a=u.ffreq:=by
        rw [show P++[u]++B++Q=P++[u]++(B++Q) by simp,ky_mid (U:=P) (V:=[u]) (c:=0) (by simp) (by omega)];rfl
      have w:=wander1 k k P B1 (B2++Q) u (r:Int) (by simp at hm;omega) (by simp at hk;omega) (by omega)
      refine ⟨B1++u::B2,?_,?_⟩
      · rw [show P++[u]++B++Q=P++u::B1++(B2++Q) by rw [hsp];simp,ha,w];simp
      · have q1:∀ x∈B1,x.ffreq<u.ffreq:=by
          intro x hx
          obtain ⟨c,hc,e⟩:=mem_ky hx
          have:=r3 (m+c) (by omega) (by omega)
          rw [hu,show P++[u]++B++Q=(P++[u])++B1++(B2++Q) by rw [hsp];simp,ky_mid (U:=P++[u]) (V:=B1) (c:=c) hc (by simp at hm ⊢;omega),e] at this
          exact this
        have q2:∀ x∈B2,u.ffreq≤x.ffreq:=by
          intro x hx
          obtain ⟨c,hc,e⟩:=mem_ky hx
          have l2:B2.length=B.length - (r - m):=by rw [← hB2];simp
          have:=r4 (r+c) (by omega) (by omega)
          rw [hu,show P++[u]++B++Q=(P++[u]++B1)++B2++Q by rw [hsp];simp,ky_mid (U:=P++[u]++B1) (V:=B2) (c:=c) hc (by simp at hm ⊢;omega),e] at this
          exact Int.not_lt.1 this
        rw [hsp] at sB
        have sB':=Srt.sub sB
        refine ⟨Srt.mk sB'.1 (List.pairwise_cons.2 ⟨q2,sB'.2.1⟩) ?_,?_,by rw [hsp];simp;omega⟩
        · intro x hx y hy
          rcases List.mem_cons.1 hy with q | q
          · rw [q];exact Int.le_of_lt (q1 x hx)
          · exact sB'.2.2 x hx y q
        · have:=sim_mv (A1:=[]) (A2:=[u]) (B1:=B1) (B2:=B2) (fun x hx y hy=>by rw [List.mem_singleton] at hx;rw [hx];exact q1 y hy)
          rw [hsp];simpa using this
    · rw [if_neg (by omega)]
      by_cases h2:B.length=1
      · rw [if_pos (by omega)]
        obtain ⟨u,rfl⟩:=List.length_eq_one_iff.1 h2
        obtain ⟨r,e,r1,r2,r3,r4⟩:=bis2 k (P++A++[u]++Q) m a m (by omega) (by omega) (by omega) kA k a m (Nat.le_refl _) (by omega) (Nat.le_refl _) (by simp at hk;omega) (fun c h1 h2=>by omega) (fun c h1 h2=>by omega)
        rw [e]
        simp only [Option.bind_some]
        have hsp:A=A.take (r - a)++A.drop (r - a):=(List.take_append_drop _ _).symm
        generalize hA1:A.take (r - a)=A1 at hsp
        generalize hA2:A.drop (r - a)=A2 at hsp
        have l1:A1.length=r - a:=by rw [← hA1];simp;omega
        have l2:A2.length=A.length - (r - a):=by rw [← hA2];simp
        have hu:ky (P++A++[u]++Q) m=u.ffreq:=by
          rw [ky_mid (U:=P++A) (V:=[u]) (c:=0) (by simp) (by simp;omega)];rfl
        have w:=wander3 k k A2 (P++A1) Q u (r:Int) (by simp;omega) (by simp at hk;omega) (by simp;omega)
        refine ⟨A1++u::A2,?_,?_⟩
        · rw [show P++A++[u]++Q=(P++A1)++A2++u::Q by rw [hsp];simp,show (m:Int)=((P++A1).length:Int)+A2.length by simp;omega,w];simp
        · have q1:∀ x∈A1,x.ffreq≤u.ffreq:=by
            intro x hx
            obtain ⟨c,hc,e⟩:=mem_ky hx
            have:=r3 (a+c) (by omega) (by omega)
            rw [hu,show P++A++[u]++Q=P++A1++(A2++[u]++Q) by rw [hsp];simp,ky_mid (U:=P) (V:=A1) (c:=c) hc (by omega),e] at this
            exact Int.not_lt.1 this
          have q2:∀ x∈A2,u.ffreq<x.ffreq:=by
            intro x hx
            obtain ⟨c,hc,e⟩:=mem_ky hx
            have:=r4 (r+c) (by omega) (by omega)
            rw [hu,show P++A++[u]++Q=(P++A1)++A2++([u]++Q) by rw [hsp];simp,ky_mid (U:=P++A1) (V:=A2) (c:=c) hc (by simp;omega),e] at this
            exact this
          rw [hsp] at sA
          have sA':=Srt.sub sA
          refine ⟨Srt.mk sA'.1 (List.pairwise_cons.2 ⟨fun x hx=>Int.le_of_lt (q2 x hx),sA'.2.1⟩) ?_,?_,by rw [hsp];simp⟩
          · intro x hx y hy
            rcases List.mem_cons.1 hy with q | q
            · rw [q];exact q1 x hx
            · exact sA'.2.2 x hx y q
          · have:=sim_mv (A1:=A1) (A2:=A2) (B1:=[u]) (B2:=[]) (fun x hx y hy=>by rw [List.mem_singleton] at hy;rw [hy];exact q2 x hx)
            rw [hsp];simpa using this
      · rw [if_neg (by omega),half a b (by omega) (by omega)]
        obtain ⟨mid,hmid⟩:∃ mid,mid=(a+b) / 2:=⟨_,rfl⟩
        rw [← hmid,wi (n:=(mid:Int)+m) (by omega) (by omega)]
        have hsr:∃ s0 r0:Nat,(if (mid:Int)<m then some (IntKind.wrap .i64 ((mid:Int)+m - b),(mid:Int)) else some ((a:Int),(m:Int)))=some ((s0:Int),(r0:Int))∧a≤s0∧s0≤r0∧r0≤m∧r0≤mid∧mid≤s0+B.length∧(s0=a∨mid+m=s0+b)∧(r0=m∨r0=mid):=by
          by_cases h3:mid<m
          · rw [if_pos (by omega),wi (by omega) (by omega)]
            exact ⟨mid+m - b,mid,by rw [show (mid:Int)+m - b=((mid+m - b:Nat):Int) by omega],by omega,by omega,by omega,by omega,by omega,.inr (by omega),.inr rfl⟩
          · rw [if_neg (by omega)]
            exact ⟨a,m,rfl,by omega,by omega,by omega,by omega,by omega,.inl rfl,.inl rfl⟩
        obtain ⟨s0,r0,e0,g1,g2,g3,g4,g5,g6,g7⟩:=hsr
        rw [e0]
        simp only [Option.bind_some]
        rw [show (mid:Int)+m=((mid+m:Nat):Int) by omega]
        obtain ⟨s,e,b1,b2,b3,b4⟩:=bis4 k (P++A++B++Q) (mid+m) s0 r0 (by omega) (by omega) (by omega) (fun c h1 h2=>⟨by omega,by omega,by omega⟩)
          (fun c d h1 h2 h3=>⟨kA c d (by omega) h2 (by omega),kB _ _ (by omega) (by omega) (by omega)⟩) k s0 r0 (Nat.le_refl _) g2 (Nat.le_refl _) (by omega) (fun c h1 h2=>by omega) (fun c h1 h2=>by omega)
        rw [e]
        simp only [Option.bind_some]
        have hsA:A=A.take (s - a)++A.drop (s - a):=(List.take_append_drop _ _).symm
        generalize hA1:A.take (s - a)=A1 at hsA
        generalize hA2:A.drop (s - a)=A2 at hsA
        have lA1:A1.length=s - a:=by rw [← hA1];simp;omega
        have lA2:A2.length=m - s:=by rw [← hA2];simp;omega
        have hsB:B=B.take (mid - s)++B.drop (mid - s):=(List.take_append_drop _ _).symm
        generalize hB1:B.take (mid - s)=B1 at hsB
        generalize hB2:B.drop (mid - s)=B2 at hsB
        have lB1:B1.length=mid - s:=by rw [← hB1];simp;omega
        have lB2:B2.length=B.length - (mid - s):=by rw [← hB2];simp
        have kA1:∀ x∈A1,x.ffreq≤ky (P++A++B++Q) (s - 1)∧a<s:=by
          intro x hx
          obtain ⟨c,hc,e⟩:=mem_ky hx
          have:=kA (a+c) (s - 1) (by omega) (by omega) (by omega)
          rw [← e,show ky A1 c=ky (P++A++B++Q) (a+c) by rw [show P++A++B++Q=P++A1++(A2++B++Q) by rw [hsA];simp,ky_mid (U:=P) (V:=A1) (c:=c) hc (by omega)]]
          exact ⟨this,by omega⟩
        have kA2:∀ x∈A2,ky (P++A++B++Q) s≤x.ffreq∧s<m:=by
          intro x hx
          obtain ⟨c,hc,e⟩:=mem_ky hx
          have:=kA s (s+c) (by omega) (by omega) (by omega)
          rw [← e,show ky A2 c=ky (P++A++B++Q) (s+c) by rw [show P++A++B++Q=(P++A1)++A2++(B++Q) by rw [hsA];simp,ky_mid (U:=P++A1) (V:=A2) (c:=c) hc (by simp;omega)]]
          exact ⟨this,by omega⟩
        have kB1:∀ x∈B1,x.ffreq≤ky (P++A++B++Q) (mid+m - 1 - s)∧s<mid:=by
          intro x hx
          obtain ⟨c,hc,e⟩:=mem_ky hx
          have:=kB (m+c) (mid+m - 1 - s) (by omega) (by omega) (by omega)
          rw [← e,show ky B1 c=ky (P++A++B++Q) (m+c) by rw [show P++A++B++Q=(P++A)++B1++(B2++Q) by rw [hsB];simp,ky_mid (U:=P++A) (V:=B1) (c:=c) hc (by simp;omega)]]
          exact ⟨this,by omega⟩
        have kB2:∀ x∈B2,ky (P++A++B++Q) (mid+m - s)≤x.ffreq∧mid - s<B.length:=by
          intro x hx
          obtain ⟨c,hc,e⟩:=mem_ky hx
          have:=kB (mid+m - s) (mid+m - s+c) (by omega) (by omega) (by omega)
          rw [← e,show ky B2 c=ky (P++A++B++Q) (mid+m - s+c) by rw [show P++A++B++Q=(P++A++B1)++B2++Q by rw [hsB];simp,ky_mid (U:=P++A++B1) (V:=B2) (c:=c) hc (by simp;omega)]]
          exact ⟨this,by omega⟩
        have h12:∀ x∈A1,∀ y∈B2,x.ffreq≤y.ffreq:=by
          intro x hx y hy
          have ⟨x1,x2⟩:=kA1 x hx
          have ⟨y1,y2⟩:=kB2 y hy
          have:=b3 (s - 1) (by omega) (by omega)
          rw [show mid+m - 1 - (s - 1)=mid+m - s by omega] at this
          omega
        have h21:∀ x∈A2,∀ y∈B1,y.ffreq<x.ffreq:=by
          intro x hx y hy
          have ⟨x1,x2⟩:=kA2 x hx
          have ⟨y1,y2⟩:=kB1 y hy
          have:=b4 s (Nat.le_refl _) (by omega)
          omega
        have sA':=Srt.sub (show Srt kf (A1++A2) by rw [← hsA];exact sA)
        have sB':=Srt.sub (show Srt kf (B1++B2) by rw [← hsB];exact sB)
        rw [wi (n:=((mid+m:Nat):Int) - s) (by omega) (by omega),show ((mid+m:Nat):Int) - s=((mid+m - s:Nat):Int) by omega]
        have hrot:(((if (s:Int)<m then some (decide ((m:Int)<((mid+m - s:Nat):Int))) else some false):Option Bool).bind fun x2486=>(bif x2486 then (g_sc_rotateCmpFunc_huff_coin k (s:Int) (m:Int) ((mid+m - s:Nat):Int) (P++A++B++Q)).bind fun x2492=>some x2492 else some (P++A++B++Q)))=some (P++(A1++B1)++A2++B2++Q):=by
          by_cases c1:s<m
          · rw [if_pos (by omega)]
            by_cases c2:s<mid
            · rw [dt (by omega)]
              simp only [Option.bind_some,bt]
              have:=rotate k (P++A1) A2 B1 (B2++Q) (a:=(s:Int)) (m:=(m:Int)) (b:=((mid+m - s:Nat):Int)) (by simp;omega) (by simp;omega) (by simp;omega) (by omega) (by omega) (by simp;omega) (by omega)
              rw [show P++A++B++Q=P++A1++A2++B1++(B2++Q) by rw [hsA,hsB];simp,this];simp
            · rw [df (by omega)]
              have:B1=[]:=List.length_eq_zero_iff.1 (by omega)
              simp only [Option.bind_some,bf]
              rw [hsA,hsB,this];simp
          · rw [if_neg (by omega)]
            have:A2=[]:=List.length_eq_zero_iff.1 (by omega)
            simp only [Option.bind_some,bf]
            rw [hsA,hsB,this];simp
        rw [hrot]
        simp only [Option.bind_some]
        have hm1:∃ M1,(((if (a:Int)<s then some (decide ((s:Int)<(mid:Int))) else some false):Option Bool).bind fun x2506=>(bif x2506 then (g_sc_symMergeCmpFunc_huff_coin k (a:Int) (s:Int) (mid:Int) (P++(A1++B1)++A2++B2++Q)).bind fun x2512=>some x2512 else some (P++(A1++B1)++A2++B2++Q)))=some (P++M1++A2++B2++Q)∧Sorts (A1++B1) M1:=by
          by_cases c1:a<s
          · rw [if_pos (by omega)]
            by_cases c2:s<mid
            · rw [dt (by omega)]
              simp only [Option.bind_some,bt]
              obtain ⟨M,m1,m2⟩:=ih P A1 B1 (A2++B2++Q) a s mid ha (by omega) (by omega) (by omega) (by omega) sA'.1 sB'.1 (by omega) (by simp;omega)
              refine ⟨M,?_,m2⟩
              rw [show P++(A1++B1)++A2++B2++Q=P++A1++B1++(A2++B2++Q) by simp,m1];simp
            · rw [df (by omega)]
              exact ⟨A1++B1,rfl,sorts_nil2 (List.length_eq_zero_iff.1 (by omega)) sA'.1⟩
          · rw [if_neg (by omega)]
            exact ⟨A1++B1,rfl,sorts_nil1 (List.length_eq_zero_iff.1 (by omega)) sB'.1⟩
        obtain ⟨M1,e1,o1⟩:=hm1
        rw [e1]
        simp only [Option.bind_some]
        have lM1:M1.length=mid - a:=by rw [o1.len];simp;omega
        have hm2:∃ M2,(((if (mid:Int)<((mid+m - s:Nat):Int) then some (decide (((mid+m - s:Nat):Int)<(b:Int))) else some false):Option Bool).bind fun x2517=>(bif x2517 then (g_sc_symMergeCmpFunc_huff_coin k (mid:Int) ((mid+m - s:Nat):Int) (b:Int) (P++M1++A2++B2++Q)).bind fun x2524=>some x2524 else some (P++M1++A2++B2++Q)))=some (P++M1++M2++Q)∧Sorts (A2++B2) M2:=by
          by_cases c1:s<m
          · rw [if_pos (by omega)]
            by_cases c2:mid+m - s<b
            · rw [dt (by omega)]
              simp only [Option.bind_some,bt]
              obtain ⟨M,m1,m2⟩:=ih (P++M1) A2 B2 Q mid (mid+m - s) b (by simp;omega) (by omega) (by omega) (by omega) (by omega) sA'.2.1 sB'.2.1 (by omega) hl
              exact ⟨M,by rw [m1];rfl,m2⟩
            · rw [df (by omega)]
              exact ⟨A2++B2,by simp,sorts_nil2 (List.length_eq_zero_iff.1 (by omega)) sA'.2.1⟩
          · rw [if_neg (by omega)]
            exact ⟨A2++B2,by simp,sorts_nil1 (List.length_eq_zero_iff.1 (by omega)) sB'.2.1⟩
        obtain ⟨M2,e2,o2⟩:=hm2
        refine ⟨M1++M2,?_,Srt.mk o1.srt o2.srt ?_,?_,?_⟩
        · rw [e2];simp
        · intro x hx y hy
          rcases List.mem_append.1 (o1.sim.symm.mem hx) with q | q <;> rcases List.mem_append.1 (o2.sim.symm.mem hy) with w | w
          · exact sA'.2.2 x q y w
          · exact h12 x q y w
          · exact Int.le_of_lt (h21 y w x q)
          · exact sB'.2.2 x q y w
        · refine Sim.trans ?_ (Sim.app o1.sim o2.sim)
          rw [hsA,hsB];exact sim_mv h21
        · simp only [List.length_append,o1.len,o2.len];rw [hsA,hsB];simp only [List.length_append];omega
inductive Runs (w:Nat):List Co→Prop
  | last (l:List Co) (h:l.length≤w) (s:Srt kf l):Runs w l
  | cons (B l:List Co) (h:B.length=w) (s:Srt kf B) (r:Runs w l):Runs w (B++l)
theorem Runs.one {w:Nat} {l:List Co} (h:Runs w l) (hl:l.length≤w) (hw:0<w):Srt kf l:=by
  cases h with
  | last _ _ s=>exact s
  | cons B l h s r =>
    have:l=[]:=List.length_eq_zero_iff.1 (by simp at hl;omega)
    subst this;simpa using s
theorem Runs.two {w:Nat} {l:List Co} (h:Runs w l) (hl:w<l.length):∃ A l',l=A++l'∧A.length=w∧Srt kf A∧Runs w l'∧0<l'.length:=by
  cases h with
  | last _ h _=>omega
  | cons B l h s r=>exact ⟨B,l,rfl,h,s,r,by simp at hl;omega⟩
theorem Runs.head {w:Nat} {l:List Co} (h:Runs w l) (hl:w≤l.length) (hw:0<w):∃ A l',l=A++l'∧A.length=w∧Srt kf A∧Runs w l':=by
  cases h with
  | last _ h s=>exact ⟨l,[],by simp,by omega,s,.last _ (by simp) List.Pairwise.nil⟩
  | cons B l h s r=>exact ⟨B,l,rfl,h,s,r⟩
def Done (w:Nat) (D:List Co):Prop:=∀ T,Runs w T→Runs w (D++T)
theorem Done.nil {w:Nat}:Done w []:=fun T h=>h
theorem Done.snoc {w:Nat} {D B:List Co} (h:Done w D) (hB:B.length=w) (s:Srt kf B):Done w (D++B):=fun T hT=>by
  rw [List.append_assoc];exact h _ (.cons B T hB s hT)
theorem blocks (k:Nat) (N:Int) (hN:N≤100000) (hk:100≤k):∀ (n:Nat) (D R:List Co),Done 20 D→N=(D.length:Int)+R.length→R.length<n →
    ∃ D' R',g_sc_stableCmpFunc_huff_coin_l0 k N n (D.length:Int) ((D.length:Int)+20) (D++R)=some ((D'.length:Int),D'++R')∧Done 20 D'∧R'.length<20∧Sim kf (D++R) (D'++R')∧N=(D'.length:Int)+R'.length:=by
  intro n
  induction n with
  | zero=>intro D R _ _ h;omega
  | succ n ih =>
    intro D R hD hL hn
    rw [g_sc_stableCmpFunc_huff_coin_l0.eq_2]
    simp only [bd]
    by_cases h:20≤R.length
    · rw [if_pos (by omega)]
      have hsp:R=R.take 20++R.drop 20:=(List.take_append_drop _ _).symm
      generalize hR1:R.take 20=R1 at hsp
      generalize hR2:R.drop 20=R2 at hsp
      have l1:R1.length=20:=by rw [← hR1];simp;omega
      have l2:R2.length=R.length - 20:=by rw [← hR2];simp
      obtain ⟨M,m1,m2⟩:=insertion k D R1 R2 (by omega) (by omega) (by omega) (b:=(D.length:Int)+20) (by omega)
      rw [show D++R=D++R1++R2 by rw [hsp];simp,m1]
      simp only [Option.bind_some]
      have lM:M.length=20:=by rw [m2.len];exact l1
      obtain ⟨D',R',r1,r2,r3,r4,r5⟩:=ih (D++M) R2 (hD.snoc lM m2.srt) (by simp;omega) (by omega)
      refine ⟨D',R',?_,r2,r3,?_,r5⟩
      · rw [wi (by omega) (by omega),← r1];congr 1 <;> simp <;> omega
      · exact Sim.trans (Sim.app (Sim.app (Sim.refl _) m2.sim) (Sim.refl _)) r4
    · rw [if_neg (by omega)]
      exact ⟨D,R,rfl,hD,by omega,Sim.refl _,hL⟩
theorem merges (k:Nat) (N:Int) (w:Nat) (hw:0<w) (hw2:w≤100000) (hN:N≤100000) (hk:210000≤k):∀ (n:Nat) (D R:List Co),Done (2*w) D→Runs w R→N=(D.length:Int)+R.length→R.length<n →
    ∃ D' R',g_sc_stableCmpFunc_huff_coin_l2 k N (w:Int) n (D.length:Int) ((D.length:Int)+(2*w:Nat)) (D++R)=some ((D'.length:Int),D'++R')∧Done (2*w) D'∧Runs w R'∧R'.length<2*w∧Sim kf (D++R) (D'++R')∧N=(D'.length:Int)+R'.length:=by
  intro n
  induction n with
  | zero=>intro D R _ _ _ h;omega
  | succ n ih =>
    intro D R hD hR hL hn
    rw [g_sc_stableCmpFunc_huff_coin_l2.eq_2]
    simp only [bd]
    by_cases h:2*w≤R.length
    · rw [if_pos (by omega)]
      obtain ⟨A,R1,rfl,lA,sA,rR⟩:=hR.head (by omega) hw
      obtain ⟨B,R2,rfl,lB,sB,rR⟩:=rR.head (by simp at h;omega) hw
      simp only [List.length_append] at h hL hn
      obtain ⟨M,m1,m2⟩:=symm k D A B R2 D.length (D.length+w) (D.length+2*w) rfl (by omega) (by omega) (by omega) (by omega) sA sB (by omega) (by omega)
      rw [wi (n:=(D.length:Int)+w) (by omega) (by omega),show (D.length:Int)+w=((D.length+w:Nat):Int) by omega,show (D.length:Int)+((2*w:Nat):Int)=((D.length+2*w:Nat):Int) by omega,show D++(A++(B++R2))=D++A++B++R2 by simp,m1]
      simp only [Option.bind_some]
      have lM:M.length=2*w:=by rw [m2.len];simp;omega
      obtain ⟨D',R',r1,r2,r3,r4,r5,r6⟩:=ih (D++M) R2 (hD.snoc lM m2.srt) rR (by simp;omega) (by omega)
      refine ⟨D',R',?_,r2,r3,r4,?_,r6⟩
      · rw [wi (n:=2*(w:Int)) (by omega) (by omega),wi (by omega) (by omega),← r1];congr 1 <;> simp <;> omega
      · refine Sim.trans ?_ r5
        rw [List.append_assoc D A B]
        exact Sim.app (Sim.app (Sim.refl _) m2.sim) (Sim.refl _)
    · rw [if_neg (by omega)]
      exact ⟨D,R,rfl,hD,hR,by omega,Sim.refl _,hL⟩
theorem doubling (k:Nat) (N:Int) (hN:N≤100000) (hk:210000≤k):∀ (n:Nat) (w:Nat) (R:List Co),0<w→w≤200000→Runs w R→N=(R.length:Int)→R.length<n+w →
    ∃ M,g_sc_stableCmpFunc_huff_coin_l1 k N (n+1) (w:Int) R=some M∧Sorts R M:=by
  intro n
  induction n with
  | zero =>
    intro w R hw hw2 hR hL h
    rw [g_sc_stableCmpFunc_huff_coin_l1.eq_2]
    simp only [bd]
    rw [if_neg (by omega)]
    exact ⟨R,rfl,hR.one (by omega) hw,Sim.refl _,rfl⟩
  | succ n ih =>
    intro w R hw hw2 hR hL hn
    rw [g_sc_stableCmpFunc_huff_coin_l1.eq_2]
    simp only [bd]
    by_cases h:w<R.length
    · rw [if_pos (by omega),wi (n:=2*(w:Int)) (by omega) (by omega)]
      obtain ⟨D,S,r1,r2,r3,r4,r5,r6⟩:=merges k N w hw (by omega) hN hk k [] R Done.nil hR (by simpa using hL) (by omega)
      simp only [List.nil_append,List.length_nil] at r1 r5
      rw [show ((0:Nat):Int)+((2*w:Nat):Int)=2*(w:Int) by omega,show ((0:Nat):Int)=0 from rfl] at r1
      rw [r1]
      simp only [Option.bind_some]
      rw [wi (n:=(D.length:Int)+w) (by omega) (by omega),wi (n:=(w:Int)*2) (by omega) (by omega)]
      have hfin:∃ S',(bif decide ((D.length:Int)+w<N) then (g_sc_symMergeCmpFunc_huff_coin k (D.length:Int) ((D.length:Int)+w) N (D++S)).bind fun x2700=>some x2700 else some (D++S))=some (D++S')∧Sorts S S':=by
        rw [bd]
        by_cases c:w<S.length
        · rw [if_pos (by omega)]
          obtain ⟨A,B,rfl,lA,sA,rB,hB⟩:=r3.two c
          simp only [List.length_append] at r4 r6
          have sB:=rB.one (by omega) hw
          obtain ⟨M,m1,m2⟩:=symm k D A B [] D.length (D.length+w) (D.length+w+B.length) rfl (by omega) (by omega) (by omega) hB sA sB (by omega) (by simp;omega)
          refine ⟨M,?_,m2⟩
          rw [show (D.length:Int)+w=((D.length+w:Nat):Int) by omega,show N=((D.length+w+B.length:Nat):Int) by omega,show D++(A++B)=D++A++B++[] by simp,m1];simp
        · rw [if_neg (by omega)]
          exact ⟨S,rfl,r3.one (by omega) hw,Sim.refl _,rfl⟩
      obtain ⟨S',s1,s2⟩:=hfin
      rw [s1]
      simp only [Option.bind_some]
      have hr:Runs (2*w) (D++S'):=r2 _ (.last _ (by rw [s2.len];omega) s2.srt)
      obtain ⟨M,m1,m2⟩:=ih (2*w) (D++S') (by omega) (by omega) hr (by simp [s2.len];omega) (by simp [s2.len];omega)
      refine ⟨M,?_,m2.srt,Sim.trans r5 (Sim.trans (Sim.app (Sim.refl _) s2.sim) m2.sim),by rw [m2.len];simp [s2.len];omega⟩
      rw [← m1,show (w:Int)*2=((2*w:Nat):Int) by omega]
    · rw [if_neg (by omega)]
      exact ⟨R,rfl,hR.one (by omega) hw,Sim.refl _,rfl⟩
theorem sortStable (k:Nat) (x:List Co) (hk:210000≤k) (hx:x.length≤100000):∃ M,g_sc_SortStableFunc_huff_coin_huff_coin k x=some M∧Sorts x M:=by
  unfold g_sc_SortStableFunc_huff_coin_huff_coin g_sc_stableCmpFunc_huff_coin
  obtain ⟨D,R,r1,r2,r3,r4,r5⟩:=blocks k (x.length:Int) (by omega) (by omega) k [] x Done.nil (by simp) (by omega)
  simp only [List.nil_append,List.length_nil] at r1 r4
  rw [show ((0:Nat):Int)+20=20 from rfl,show ((0:Nat):Int)=0 from rfl] at r1
  rw [r1]
  simp only [Option.bind_some]
  obtain ⟨M,m1,m2⟩:=insertion k D R [] (by omega) (by omega) (by omega) (b:=(x.length:Int)) (by omega)
  simp only [List.append_nil] at m1
  rw [m1]
  simp only [Option.bind_some]
  obtain ⟨k,rfl⟩:∃ j,k=j+1:=⟨k - 1,by omega⟩
  have hr:Runs 20 (D++M):=r2 _ (.last _ (by rw [m2.len];omega) m2.srt)
  have hl:(D++M).length=x.length:=by simp [m2.len];omega
  obtain ⟨M',e1,e2⟩:=doubling (k+1) (x.length:Int) (by omega) (by omega) k 20 (D++M) (by decide) (by decide) hr (by rw [hl]) (by omega)
  refine ⟨M',?_,e2.srt,Sim.trans r4 (Sim.trans (Sim.app (Sim.refl _) m2.sim) e2.sim),by rw [e2.len,hl]⟩
  rw [show (20:Int)=((20:Nat):Int) from rfl,e1];rfl
theorem Sim.perm {α:Type} [DecidableEq α] {f:α→Int} {l r:List α} (h:Sim f l r):l.Perm r:=by
  rw [List.perm_iff_count]
  intro a
  have e:∀ l:List α,l.count a=(l.filter (fun x=>f x==f a)).count a:=fun l=>(List.count_filter (p:=fun x=>f x==f a) (by simp)).symm
  rw [e l,e r,h]
theorem Sim.map {α β:Type} {f:α→Int} {g:β→Int} {m:α→β} (hm:∀ a,g (m a)=f a) {l r:List α} (h:Sim f l r):Sim g (l.map m) (r.map m):=fun k=>by
  rw [List.filter_map,List.filter_map]
  have:((fun x=>g x==k) ∘ m)=fun x=>f x==k:=by funext x;simp [hm]
  rw [this,h]
theorem Srt.map {α β:Type} {f:α→Int} {g:β→Int} {m:α→β} (hm:∀ a,g (m a)=f a) {l:List α} (h:Srt f l):Srt g (l.map m):=by
  unfold Srt at *
  rw [List.pairwise_map]
  exact h.imp fun {a b} q=>by rw [hm,hm];exact q
theorem st_of {α:Type} {f:α→Int} {m:α→C} (hm:∀ a,key (m a)=f a) {l r:List α} (hs:Srt f r) (h:Sim f l r):r.map m=st (l.map m):=st_eq (Srt.map hm hs) (Sim.map hm h)
theorem lev_bd (base:List C) (hb:∀ x∈base,0≤x.1∧x.1≤1073741824∧x.2.length≤1):∀ j,(∀ x∈lev base j,0≤x.1∧x.1≤1073741824*(2^j:Nat)∧x.2.length≤2^j)∧(lev base j).length≤2*base.length
  | 0=>⟨by intro x hx;simp [lev] at hx,by simp [lev]⟩
  | j+1=>by
    obtain ⟨h1,h2⟩:=lev_bd base hb j
    refine ⟨fun x hx=>?_,by rw [lev_len];omega⟩
    rcases List.mem_append.1 (st_mem.1 hx) with e | e
    · have:=hb x e
      have hp:1≤2^(j+1):=Nat.pow_pos (by decide)
      refine ⟨this.1,?_,by omega⟩
      have:(1:Int)≤((2^(j+1):Nat):Int):=by omega
      omega
    · have hp:∀ l:List C,(∀ x∈l,0≤x.1∧x.1≤1073741824*(2^j:Nat)∧x.2.length≤2^j)→∀ x∈pairs l,0≤x.1∧x.1≤1073741824*(2^(j+1):Nat)∧x.2.length≤2^(j+1):=by
        intro l
        induction l using pairs.induct with
        | case1 a b l ih =>
          intro hl x hx
          rcases List.mem_cons.1 hx with e | e
          · subst e
            have q1:=hl a (by simp);have q2:=hl b (by simp)
            refine ⟨by show 0≤a.1+b.1;omega,?_,?_⟩
            · show a.1+b.1≤_
              have:((2^(j+1):Nat):Int)=2*((2^j:Nat):Int):=by rw [Nat.pow_succ];omega
              omega
            · show (a.2++b.2).length≤_
              rw [List.length_append,Nat.pow_succ];omega
          · exact ih (fun z hz=>hl z (by simp [hz])) x e
        | case2 l hl =>
          intro _ x hx
          unfold pairs at hx;split at hx
          · exact absurd rfl (hl _ _ _)
          · simp at hx
      exact hp _ h1 x e
abbrev toC:Co→C:=fun c=>(c.ffreq,c.fsyms)
def prs:List Co→List Co
  | x::y::l=>⟨x.ffreq+y.ffreq,x.fsyms++y.fsyms⟩::prs l
  | _=>[]
theorem prs_map:∀ l:List Co,(prs l).map toC=pairs (l.map toC)
  | []=>rfl
  | [_]=>rfl
  | x::y::l=>by simp only [prs,List.map_cons,pairs,prs_map l]
theorem concat (n:Nat) (a b:List Int) (ha:a.length≤100000) (hb:b.length≤100000):g_sc_Concat_int_int (n+3) [a,b]=some (Sum.inr (a++b)):=by
  unfold g_sc_Concat_int_int
  have i0:ix [a,b] 0=some a:=rfl
  have i1:ix [a,b] 1=some b:=rfl
  have e0:g_sc_Concat_int_int_l0 (n+3) [a,b] (n+3) 0 0=some (Sum.inr (((a.length+b.length:Nat):Int))):=by
    rw [g_sc_Concat_int_int_l0.eq_2]
    simp only [bd,Option.bind_some,List.length_cons,List.length_nil,i0]
    rw [if_pos (by decide),wi (n:=(0:Int)+(a.length:Int)) (by omega) (by omega),if_neg (by omega),wi (n:=(0:Int)+1) (by omega) (by omega),show (0:Int)+1=1 from rfl,g_sc_Concat_int_int_l0.eq_2]
    simp only [bd,Option.bind_some,List.length_cons,List.length_nil,i1]
    rw [if_pos (by decide),wi (n:=(0:Int)+(a.length:Int)+b.length) (by omega) (by omega),if_neg (by omega),wi (n:=(1:Int)+1) (by omega) (by omega),g_sc_Concat_int_int_l0.eq_2]
    simp only [bd,Option.bind_some,List.length_cons,List.length_nil]
    rw [if_neg (by decide)]
    congr 2;omega
  have e1:∀ x:Int,0≤x→x≤200000→g_sc_Grow_int_int (n+3) x=some (Sum.inr []):=by
    intro x h0 h1
    unfold g_sc_Grow_int_int
    simp only [bd,Option.bind_some]
    rw [if_neg (by omega),wi (n:=(0:Int) - 0) (by omega) (by omega),wi (n:=x - (0 - 0)) (by omega) (by omega)]
    by_cases h:0<x
    · rw [if_pos (by omega),if_pos (by omega),if_pos (by omega)];rfl
    · rw [if_neg (by omega)];rfl
  have e2:g_sc_Concat_int_int_l1 (n+3) [a,b] (n+3) 0 []=some (a++b):=by
    rw [g_sc_Concat_int_int_l1.eq_2]
    simp only [bd,Option.bind_some,List.length_cons,List.length_nil,i0]
    rw [if_pos (by decide),if_pos (by omega),wi (n:=(0:Int)+1) (by omega) (by omega),show (0:Int)+1=1 from rfl,g_sc_Concat_int_int_l1.eq_2]
    simp only [bd,Option.bind_some,List.length_cons,List.length_nil,i1,List.nil_append]
    rw [if_pos (by decide),if_pos (by omega),wi (n:=(1:Int)+1) (by omega) (by omega),g_sc_Concat_int_int_l1.eq_2]
    simp only [bd,Option.bind_some,List.length_cons,List.length_nil]
    rw [if_neg (by decide)]
  rw [e0]
  simp only [Option.bind_some]
  rw [e1 _ (by omega) (by omega)]
  simp only [Option.bind_some]
  rw [e2];rfl
theorem len_l2 (k:Nat) (hk:3≤k) (L:List Co) (hL:L.length≤100000) (hb:∀ x∈L,0≤x.ffreq∧x.ffreq≤1125899906842624∧x.fsyms.length≤100000):∀ (n:Nat) (dn rest acc:List Co),L=dn++rest→rest.length<n→acc.length+rest.length≤1000000 →
    g_huff_Lengths_l2 k L n (dn.length:Int) acc=some (Sum.inr (acc++prs rest)):=by
  obtain ⟨k,rfl⟩:∃ j,k=j+3:=⟨k - 3,by omega⟩
  intro n
  induction n with
  | zero=>intro dn rest acc _ h;omega
  | succ n ih =>
    intro dn rest acc hd hn hl
    subst hd
    rw [g_huff_Lengths_l2.eq_2]
    simp only [bd,Option.bind_some]
    rw [List.length_append] at hL
    rw [wi (n:=(dn.length:Int)+1) (by omega) (by omega)]
    match rest,hn,hl,hb with
    | [],_,_,_=>rw [if_neg (by simp;omega)];simp [prs]
    | [x],_,_,_=>rw [if_neg (by simp)];simp [prs]
    | x::y::r,hn,hl,hb =>
      simp only [List.length_cons] at hn hl hL
      rw [if_pos (by simp;omega),ix_at dn x (y::r) rfl,show dn++x::y::r=(dn++[x])++y::r by simp,ix_at (dn++[x]) y r (by simp)]
      simp only [Option.bind_some]
      have b1:=hb x (by simp);have b2:=hb y (by simp)
      rw [wi (n:=x.ffreq+y.ffreq) (by omega) (by omega),concat k _ _ b1.2.2 b2.2.2]
      simp only [Option.bind_some]
      rw [if_pos (by simp;omega),wi (n:=(dn.length:Int)+2) (by omega) (by omega)]
      have:=ih (dn++[x]++[y]) r (acc++[⟨x.ffreq+y.ffreq,x.fsyms++y.fsyms⟩]) (by simp) (by omega) (by simp;omega)
      rw [show (dn.length:Int)+2=((dn++[x]++[y]).length:Int) by simp only [List.length_append,List.length_cons,List.length_nil];omega,show dn++[x]++y::r=dn++x::y::r by simp,this]
      simp [prs]
theorem clone (k:Nat) (x:List Co) (h:x.length≤1000000):g_sc_Clone_huff_coin_huff_coin k x=some x:=by
  unfold g_sc_Clone_huff_coin_huff_coin
  rw [bd,if_pos (by simp;omega)]
theorem len_l1 (k:Nat) (hk:210000≤k) (base:List Co) (hB:base.length≤1000) (hb:∀ x∈base,0≤x.ffreq∧x.ffreq≤1073741824∧x.fsyms.length≤1) (m:Nat) (hm:m≤15):∀ (n j:Nat) (L:List Co),j≤m→m - j<n→L.map toC=lev (base.map toC) j →
    ∃ M,g_huff_Lengths_l1 k (m:Int) base n (j:Int) L=some (Sum.inr M)∧M.map toC=lev (base.map toC) m:=by
  have hbd:=lev_bd (base.map toC) (by intro x hx;obtain ⟨c,hc,rfl⟩:=List.mem_map.1 hx;exact hb c hc)
  intro n
  induction n with
  | zero=>intro j L _ h;omega
  | succ n ih =>
    intro j L hj hn hL
    rw [g_huff_Lengths_l1.eq_2]
    simp only [bd]
    by_cases h:j<m
    · rw [if_pos (by omega),clone k base (by omega)]
      simp only [Option.bind_some]
      obtain ⟨h1,h2⟩:=hbd j
      have lL:L.length≤2000:=by
        have:=congrArg List.length hL;rw [List.length_map] at this;rw [this];rw [List.length_map] at h2;omega
      have p1:2^j≤32768:=Nat.le_trans (Nat.pow_le_pow_right (by decide) (show j≤15 by omega)) (by decide)
      have bL:∀ x∈L,0≤x.ffreq∧x.ffreq≤1125899906842624∧x.fsyms.length≤100000:=by
        intro x hx
        have:=h1 (toC x) (by rw [← hL];exact List.mem_map_of_mem hx)
        have e1:(toC x).1=x.ffreq:=rfl
        have e2:(toC x).2=x.fsyms:=rfl
        rw [e1,e2] at this
        exact ⟨this.1,by omega,by omega⟩
      have:=len_l2 k (by omega) L (by omega) bL k [] L base rfl (by omega) (by omega)
      rw [show (([]:List Co).length:Int)=0 from rfl] at this
      rw [this]
      simp only [Option.bind_some]
      have lp:(prs L).length≤2000:=by
        have:=congrArg List.length (prs_map L);rw [List.length_map,pairs_len,List.length_map] at this;omega
      obtain ⟨M,m1,m2⟩:=sortStable k (base++prs L) hk (by simp;omega)
      rw [m1]
      simp only [Option.bind_some]
      have hM:M.map toC=lev (base.map toC) (j+1):=by
        rw [st_of (m:=toC) (fun _=>rfl) m2.srt m2.sim,List.map_append,prs_map,hL];rfl
      rw [wi (by omega) (by omega)]
      exact ih (j+1) M (by omega) (by omega) hM
    · rw [if_neg (by omega)]
      obtain rfl:j=m:=by omega
      exact ⟨L,rfl,hL⟩
def outOf (N:Nat) (l:List Int):List Int:=(List.range N).map fun (i:Nat)=>((l.count (i:Int):Nat):Int)
theorem outOf_len (N:Nat) (l:List Int):(outOf N l).length=N:=by simp [outOf]
theorem outOf_get {N:Nat} {l:List Int} {i:Nat} (h:i<N):(outOf N l)[i]'(by rw [outOf_len];exact h)=((l.count (i:Int):Nat):Int):=by simp [outOf]
theorem outOf_nil (N:Nat):outOf N []=List.replicate N 0:=by
  apply List.ext_getElem (by simp [outOf])
  intro i h1 h2;simp [outOf]
theorem outOf_set {N:Nat} {l:List Int} {s:Int} (h0:0≤s) (h1:s<N):List.set (outOf N l) s.toNat (((l.count s:Nat):Int)+1)=outOf N (l++[s]):=by
  apply List.ext_getElem (by simp [outOf])
  intro i h2 h3
  rw [List.getElem_set]
  rw [List.length_set,outOf_len] at h2
  rw [outOf_get h2,outOf_get h2,List.count_append]
  by_cases e:s.toNat=i
  · rw [if_pos e,show (i:Int)=s by omega];simp
  · rw [if_neg e]
    have:List.count (i:Int) [s]=0:=List.count_eq_zero.2 (by simp;omega)
    rw [this];omega
theorem len_l4 (k N:Nat) (hN:N≤1000) (c:Co) (hc:c.fsyms.length≤100000) (hs:∀ s∈c.fsyms,0≤s∧s<(N:Int)):∀ (n:Nat) (l dn rest:List Int),c.fsyms=dn++rest→rest.length<n→l.length+rest.length≤1000000000 →
    g_huff_Lengths_l4 k c n (dn.length:Int) (outOf N l)=some (outOf N (l++rest)):=by
  intro n
  induction n with
  | zero=>intro l dn rest _ h;omega
  | succ n ih =>
    intro l dn rest hd hn hl
    rw [g_huff_Lengths_l4.eq_2]
    simp only [bd,Option.bind_some]
    have hlen:=congrArg List.length hd
    rw [List.length_append] at hlen
    cases rest with
    | nil=>rw [if_neg (by simp at hlen;omega)];simp
    | cons s r =>
      simp only [List.length_cons] at hn hl hlen
      have q:=hs s (by rw [hd];simp)
      rw [if_pos (by omega),hd,ix_at dn s r rfl]
      simp only [Option.bind_some]
      rw [ix_int q.1 (by rw [outOf_len];exact q.2)]
      simp only [Option.bind_some]
      rw [outOf_get (by omega),show ((s.toNat:Nat):Int)=s by omega]
      have hcnt:l.count s≤l.length:=List.count_le_length
      rw [wi (n:=((l.count s:Nat):Int)+1) (by omega) (by omega),outOf_set q.1 q.2,wi (by omega) (by omega)]
      have:=ih (l++[s]) (dn++[s]) r (by simp [hd]) (by omega) (by simp;omega)
      rw [show (dn.length:Int)+1=((dn++[s]).length:Int) by simp,this];simp
theorem len_l3 (k N:Nat) (hk:210000≤k) (hN:N≤1000) (base L:List Co) (hB:base.length≤1000) (T:Nat) (hT:T=2*base.length - 2) (hTL:T≤L.length) (hb:∀ c∈L,c.fsyms.length≤32768∧∀ s∈c.fsyms,0≤s∧s<(N:Int)):∀ (n:Nat) (l:List Int) (i:Nat),i≤T→T - i<n→l.length≤32768*i →
    g_huff_Lengths_l3 k base L n (i:Int) (outOf N l)=some (outOf N (l++syms (((L.take T).drop i).map toC))):=by
  intro n
  induction n with
  | zero=>intro l i _ h;omega
  | succ n ih =>
    intro l i hi hn hl
    rw [g_huff_Lengths_l3.eq_2]
    simp only [bd,Option.bind_some]
    rw [wi (n:=2*(base.length:Int)) (by omega) (by omega),wi (n:=2*(base.length:Int) - 2) (by omega) (by omega)]
    by_cases h:i<T
    · have hiL:i<L.length:=by omega
      rw [if_pos (by omega),ix_nat hiL]
      simp only [Option.bind_some]
      have q:=hb L[i] (List.getElem_mem hiL)
      have:=len_l4 k N hN L[i] (by omega) q.2 k l [] L[i].fsyms rfl (by omega) (by omega)
      rw [show (([]:List Int).length:Int)=0 from rfl] at this
      rw [this]
      simp only [Option.bind_some]
      rw [wi (by omega) (by omega)]
      have:=ih (l++L[i].fsyms) (i+1) (by omega) (by omega) (by rw [List.length_append];omega)
      rw [show (i:Int)+1=((i+1:Nat):Int) by omega,this]
      have e:(L.take T).drop i=L[i]::(L.take T).drop (i+1):=by
        rw [List.drop_eq_getElem_cons (by simp;omega)];simp
      rw [e];simp
    · rw [if_neg (by omega)]
      obtain rfl:i=T:=by omega
      have:(L.take i).drop i=[]:=List.drop_eq_nil_of_le (by simp;omega)
      rw [this];simp
def symsF:List Int→Nat→List Int
  | [],_=>[]
  | f::l,i=>if 0<f then (i:Int)::symsF l (i+1) else symsF l (i+1)
def coinsF:List Int→Nat→List Co
  | [],_=>[]
  | f::l,i=>if 0<f then ⟨f,[(i:Int)]⟩::coinsF l (i+1) else coinsF l (i+1)
def badF (l:List Int):Prop:=∃ f∈l,f<0∨1073741824<f
instance (l:List Int):Decidable (badF l):=by unfold badF;infer_instance
theorem badF_cons {x:Int} {l:List Int}:badF (x::l)↔(x<0∨1073741824<x)∨badF l:=by simp [badF]
theorem coinsF_cons (f:Int) (l:List Int) (i:Nat):coinsF (f::l) i=if 0<f then ⟨f,[(i:Int)]⟩::coinsF l (i+1) else coinsF l (i+1):=rfl
theorem symsF_cons (f:Int) (l:List Int) (i:Nat):symsF (f::l) i=if 0<f then (i:Int)::symsF l (i+1) else symsF l (i+1):=rfl
theorem coinsF_len:∀ (l:List Int) (i:Nat),(coinsF l i).length=(symsF l i).length∧(coinsF l i).length≤l.length
  | [],i=>⟨rfl,Nat.le_refl _⟩
  | f::l,i=>by
    have:=coinsF_len l (i+1)
    unfold coinsF symsF
    split
    · simp only [List.length_cons];omega
    · simp only [List.length_cons];omega
theorem len_l0 (k:Nat) (x:List Int) (hx:x.length≤320):∀ (n i:Nat) (acc:List Co),i≤x.length→x.length - i<n→acc.length≤i →
    g_huff_Lengths_l0 k x n (i:Int) acc=some (if badF (x.drop i) then Sum.inl () else Sum.inr (acc++coinsF (x.drop i) i)):=by
  intro n
  induction n with
  | zero=>intro i acc _ h;omega
  | succ n ih =>
    intro i acc hi hn ha
    rw [g_huff_Lengths_l0.eq_2]
    simp only [bd,Option.bind_some]
    by_cases h:i<x.length
    · rw [if_pos (by omega),ix_nat h,List.drop_eq_getElem_cons h]
      simp only [Option.bind_some,badF_cons]
      generalize x[i]=f
      by_cases hb:f<0∨1073741824<f
      · have:(if f<0 then some true else some (decide (1073741824<f)))=some true:=by
          split
          · rfl
          · rw [dt (by omega)]
        rw [this]
        simp only [Option.bind_some,bt]
        rw [if_pos (show (f<0∨1073741824<f)∨badF (x.drop (i+1)) from .inl hb)]
      · have:(if f<0 then some true else some (decide (1073741824<f)))=some false:=by
          rw [if_neg (by omega),df (by omega)]
        rw [this]
        simp only [Option.bind_some,bf]
        by_cases hf:0<f
        · rw [if_pos hf,if_pos (by simp;omega)]
          simp only [Option.bind_some]
          rw [wi (by omega) (by omega),show (i:Int)+1=((i+1:Nat):Int) by omega,ih (i+1) _ (by omega) (by omega) (by simp;omega)]
          by_cases hb2:badF (x.drop (i+1))
          · rw [if_pos hb2,if_pos (.inr hb2)]
          · rw [if_neg hb2,if_neg (fun q=>q.elim hb hb2)]
            rw [coinsF_cons,if_pos hf];simp
        · rw [if_neg hf]
          simp only [Option.bind_some]
          rw [wi (by omega) (by omega),show (i:Int)+1=((i+1:Nat):Int) by omega,ih (i+1) _ (by omega) (by omega) (by omega)]
          by_cases hb2:badF (x.drop (i+1))
          · rw [if_pos hb2,if_pos (.inr hb2)]
          · rw [if_neg hb2,if_neg (fun q=>q.elim hb hb2)]
            rw [coinsF_cons,if_neg hf]
    · rw [if_neg (by omega),List.drop_of_length_le (by omega),if_neg (by simp [badF])]
      simp [coinsF]
theorem shl1b {b:Nat} (h:b≤15):shlI .i64 1 (b:Int)=((2^b:Nat):Int):=by
  obtain rfl | rfl | rfl | rfl | rfl | rfl | rfl | rfl | rfl | rfl | rfl | rfl | rfl | rfl | rfl | rfl:b=0∨b=1∨b=2∨b=3∨b=4∨b=5∨b=6∨b=7∨b=8∨b=9∨b=10∨b=11∨b=12∨b=13∨b=14∨b=15:=by omega
  all_goals rfl
def Fq (x:List Int) (s:Int):Int:=if 0≤s∧0<x.getD s.toNat 0 then x.getD s.toNat 0 else 0
theorem Fq_nn (x:List Int) (s:Int):0≤Fq x s:=by unfold Fq;split <;> omega
theorem symsF_in:∀ (l:List Int) (i:Nat) (s:Int),s∈symsF l i↔∃ j:Nat,s=(j:Int)∧i≤j∧j<i+l.length∧0<l.getD (j - i) 0
  | [], i, s => by constructor
                   · intro h;simp [symsF] at h
                   · rintro ⟨j,_,h1,h2,_⟩;simp at h2;omega
  | f::l,i,s=>by
    have ih:=symsF_in l (i+1) s
    have hs:∀ j,i+1≤j→(f::l).getD (j - i) 0=l.getD (j - (i+1)) 0:=by
      intro j hj;rw [show j - i=(j - (i+1))+1 by omega];simp
    rw [symsF_cons]
    constructor
    · intro h
      have h':(s=(i:Int)∧0<f)∨s∈symsF l (i+1):=by
        split at h
        · rcases List.mem_cons.1 h with e | e
          · exact .inl ⟨e,by assumption⟩
          · exact .inr e
        · exact .inr h
      rcases h' with ⟨e,hf⟩ | e
      · exact ⟨i,e,Nat.le_refl _,by simp,by simpa using hf⟩
      · obtain ⟨j,e1,h1,h2,h3⟩:=ih.1 e
        exact ⟨j,e1,by omega,by simp;omega,by rw [hs j h1];exact h3⟩
    · rintro ⟨j,e1,h1,h2,h3⟩
      rcases Nat.lt_or_eq_of_le h1 with q | q
      · have:=ih.2 ⟨j,e1,q,by simp at h2;omega,by rw [← hs j q];exact h3⟩
        split
        · exact List.mem_cons_of_mem _ this
        · exact this
      · subst q
        rw [if_pos (by simpa using h3)];rw [e1];exact List.mem_cons_self
theorem symsF_nodup:∀ (l:List Int) (i:Nat),(symsF l i).Nodup
  | [],_=>List.nodup_nil
  | f::l,i=>by
    rw [symsF_cons];split
    · refine List.nodup_cons.2 ⟨fun h=>?_,symsF_nodup l (i+1)⟩
      obtain ⟨j,e,h1,_⟩:=(symsF_in l (i+1) _).1 h
      omega
    · exact symsF_nodup l (i+1)
theorem coins_form (x:List Int):∀ (n i:Nat),x.length - i≤n→(coinsF (x.drop i) i).map toC=(symsF (x.drop i) i).map fun s=>((Fq x s,[s]):C):=by
  intro n
  induction n with
  | zero=>intro i h;rw [List.drop_of_length_le (by omega)];rfl
  | succ n ih =>
    intro i h
    by_cases hi:i<x.length
    · rw [List.drop_eq_getElem_cons hi,coinsF_cons,symsF_cons]
      by_cases hf:0<x[i]
      · rw [if_pos hf,if_pos hf,List.map_cons,List.map_cons,ih (i+1) (by omega)]
        congr 1
        have:Fq x (i:Int)=x[i]:=by
          unfold Fq
          have:x.getD (i:Int).toNat 0=x[i]:=by simp [List.getD_eq_getElem?_getD,List.getElem?_eq_getElem hi]
          rw [this,if_pos ⟨by omega,hf⟩]
        show (x[i],[(i:Int)])=_
        rw [this]
      · rw [if_neg hf,if_neg hf,ih (i+1) (by omega)]
    · rw [List.drop_of_length_le (by omega)];rfl
theorem form_syms {F:Int→Int}:∀ l:List C,(∀ e∈l,∃ s,e=(F s,[s]))→l=(syms l).map fun s=>((F s,[s]):C)
  | [],_=>rfl
  | e::l,h=>by
    obtain ⟨s,rfl⟩:=h e (by simp)
    have:=form_syms l fun e he=>h e (by simp [he])
    show _=((syms ([(F s,[s])]:List C))++syms l).map _
    rw [List.map_append,← this];rfl
theorem syms_form {F:Int→Int} (S:List Int):syms (S.map fun s=>((F s,[s]):C))=S:=by
  have:=base_syms F S S.length
  rw [List.take_of_length_le (by simp),List.take_of_length_le (Nat.le_refl _)] at this
  exact this
theorem base_form (x:List Int):∃ S:List Int,st ((coinsF x 0).map toC)=S.map (fun s=>((Fq x s,[s]):C))∧S.Perm (symsF x 0)∧S.Nodup∧Srt key (S.map fun s=>((Fq x s,[s]):C)):=by
  have e0:=coins_form x x.length 0 (by omega)
  rw [List.drop_zero] at e0
  have h1:=form_syms (F:=Fq x) (st ((coinsF x 0).map toC)) (by
    intro e he
    have:=st_mem.1 he
    rw [e0] at this
    obtain ⟨s,_,rfl⟩:=List.mem_map.1 this
    exact ⟨s,rfl⟩)
  have hp:(syms (st ((coinsF x 0).map toC))).Perm (symsF x 0):=by
    have:=List.Perm.flatMap_right (fun x:C=>x.2) (Sim.perm (st_sim ((coinsF x 0).map toC))).symm
    refine this.trans (List.Perm.of_eq ?_)
    rw [e0];exact syms_form _
  refine ⟨_,h1,hp,hp.nodup_iff.2 (symsF_nodup x 0),?_⟩
  rw [← h1];exact st_srt _
theorem lev_syms (base:List C):∀ j,∀ y∈lev base j,∀ s∈y.2,s∈syms base
  | 0,y,hy,_,_=>by simp [lev] at hy
  | j+1,y,hy,s,hs=>by
    rcases List.mem_append.1 (st_mem.1 hy) with e | e
    · exact List.mem_flatMap.2 ⟨y,e,hs⟩
    · have hp:∀ l:List C,(∀ y∈l,∀ s∈y.2,s∈syms base)→∀ y∈pairs l,∀ s∈y.2,s∈syms base:=by
        intro l
        induction l using pairs.induct with
        | case1 a b l ih =>
          intro hl y hy s hs
          rcases List.mem_cons.1 hy with e | e
          · subst e
            rcases List.mem_append.1 (show s∈a.2++b.2 from hs) with q | q
            · exact hl a (by simp) s q
            · exact hl b (by simp) s q
          · exact ih (fun z hz=>hl z (by simp [hz])) y e s hs
        | case2 l hl =>
          intro _ y hy
          unfold pairs at hy;split at hy
          · exact absurd rfl (hl _ _ _)
          · simp at hy
      exact hp _ (fun y hy s hs=>lev_syms base j y hy s hs) y e s hs
def itemsR (x:List Int) (m:Nat):List Int :=
  if (coinsF x 0).length=1 then symsF x 0 else syms ((lev (st ((coinsF x 0).map toC)) m).take (2*(coinsF x 0).length - 2))
def badA (x:List Int) (m:Int):Prop:=320<x.length∨m<1∨15<m
instance (x:List Int) (m:Int):Decidable (badA x m):=by unfold badA;infer_instance
theorem bad3 (x:List Int) (m:Int):((some (decide (320<((List.length x:Nat):Int)))).bind fun x3056=>(bif x3056 then some true else (bif (decide (m<1)) then some true else some (decide (15<m)))))=some (decide (badA x m)):=by
  simp only [Option.bind_some,bd]
  by_cases h1:320<x.length
  · rw [if_pos (by omega),dt (show badA x m from .inl h1)]
  · rw [if_neg (by omega)]
    by_cases h2:m<1
    · rw [if_pos h2,dt (show badA x m from .inr (.inl h2))]
    · rw [if_neg h2]
      by_cases h3:15<m
      · rw [dt h3,dt (show badA x m from .inr (.inr h3))]
      · rw [df h3,df (show ¬ badA x m by unfold badA;omega)]
theorem coins_bd (x:List Int) (hx:x.length≤320) (hb:¬ badF x):∀ (n i:Nat),x.length - i≤n→∀ c∈coinsF (x.drop i) i,0≤c.ffreq∧c.ffreq≤1073741824∧c.fsyms.length≤1:=by
  intro n
  induction n with
  | zero=>intro i h c hc;rw [List.drop_of_length_le (by omega)] at hc;simp [coinsF] at hc
  | succ n ih =>
    intro i h c hc
    by_cases hi:i<x.length
    · rw [List.drop_eq_getElem_cons hi,coinsF_cons] at hc
      have hni:¬ (x[i]<0∨1073741824<x[i]):=fun q=>hb ⟨x[i],List.getElem_mem hi,q⟩
      split at hc
      · rcases List.mem_cons.1 hc with e | e
        · subst e;exact ⟨by show 0≤x[i];omega,by show x[i]≤_;omega,by simp⟩
        · exact ih (i+1) (by omega) c e
      · exact ih (i+1) (by omega) c hc
    · rw [List.drop_of_length_le (by omega)] at hc;simp [coinsF] at hc
theorem lengths_ok (k:Nat) (hk:210000≤k) (x:List Int) (m:Int) (h1:¬ badA x m) (h2:¬ badF x) (h3:(coinsF x 0).length≤2^m.toNat):g_huff_Lengths k x m=some (Sum.inl (outOf x.length (itemsR x m.toNat),0)):=by
  unfold g_huff_Lengths
  rw [bad3]
  simp only [Option.bind_some,bd]
  rw [if_neg h1]
  unfold badA at h1
  have e:=len_l0 k x (by omega) k 0 [] (by omega) (by omega) (by simp)
  rw [show ((0:Nat):Int)=0 from rfl,List.drop_zero] at e
  rw [e]
  simp only [Option.bind_some]
  rw [if_neg h2]
  simp only [List.nil_append]
  have es:shlI .i64 1 m=((2^m.toNat:Nat):Int):=by
    have:=shl1b (b:=m.toNat) (by omega)
    rw [show ((m.toNat:Nat):Int)=m by omega] at this
    exact this
  rw [if_pos (by omega),es,if_neg (by omega),if_pos (by omega),Int.toNat_natCast]
  have hcl:=coinsF_len x 0
  have hform:=coins_form x x.length 0 (by omega)
  rw [List.drop_zero] at hform
  unfold itemsR
  by_cases h4:(coinsF x 0).length=1
  · rw [if_pos (by omega),if_pos h4]
    obtain ⟨c,hc⟩:=List.length_eq_one_iff.1 h4
    obtain ⟨s,hs⟩:=List.length_eq_one_iff.1 (show (symsF x 0).length=1 by omega)
    rw [hc,hs] at hform
    have hcs:c.fsyms=[s]:=by
      have:=(List.cons.inj hform).1
      exact (Prod.mk.inj this).2
    obtain ⟨j,ej,_,hj,_⟩:=(symsF_in x 0 s).1 (by rw [hs];simp)
    rw [hc,show ix [c] 0=some c from rfl]
    simp only [Option.bind_some]
    rw [hcs,show ix [s] 0=some s from rfl]
    simp only [Option.bind_some]
    have:=outOf_set (N:=x.length) (l:=[]) (s:=s) (by omega) (by omega)
    rw [outOf_nil] at this
    rw [ix_int (by omega) (by rw [List.length_replicate];omega)]
    simp only [Option.bind_some]
    rw [hs]
    rw [show (((List.count s []):Nat):Int)+1=1 from by simp] at this
    rw [this];simp
  · rw [if_neg (by omega),if_neg h4]
    obtain ⟨B,b1,b2⟩:=sortStable k (coinsF x 0) hk (by omega)
    rw [b1]
    simp only [Option.bind_some]
    have eB:B.map toC=st ((coinsF x 0).map toC):=st_of (m:=toC) (fun _=>rfl) b2.srt b2.sim
    have hcb:=coins_bd x (by omega) h2 x.length 0 (by omega)
    rw [List.drop_zero] at hcb
    have bB:∀ c∈B,0≤c.ffreq∧c.ffreq≤1073741824∧c.fsyms.length≤1:=fun c hc=>hcb c (b2.sim.symm.mem hc)
    obtain ⟨L,l1,l2⟩:=len_l1 k hk B (by rw [b2.len];omega) bB m.toNat (by omega) k 0 [] (by omega) (by omega) rfl
    rw [show ((m.toNat:Nat):Int)=m by omega,show ((0:Nat):Int)=0 from rfl] at l1
    rw [l1]
    simp only [Option.bind_some]
    have lBm:(B.map toC).length=(coinsF x 0).length:=by rw [List.length_map,b2.len]
    have hmany:=lev_many (B.map toC) m.toNat (by rw [lBm];exact h3) m.toNat (Nat.le_refl _)
    rw [show m.toNat+1 - m.toNat=1 by omega,← l2,List.length_map,List.length_map,b2.len] at hmany
    have hTL:2*B.length - 2≤L.length:=by rw [b2.len];omega
    have hcx:∀ c∈L,c.fsyms.length≤32768∧∀ s∈c.fsyms,0≤s∧s<(x.length:Int):=by
      intro c hc
      have hm:toC c∈lev (B.map toC) m.toNat:=by rw [← l2];exact List.mem_map_of_mem hc
      have hbd:=lev_bd (B.map toC) (by intro y hy;obtain ⟨c,hc,rfl⟩:=List.mem_map.1 hy;exact bB c hc) m.toNat
      have p1:2^m.toNat≤32768:=Nat.le_trans (Nat.pow_le_pow_right (by decide) (show m.toNat≤15 by omega)) (by decide)
      refine ⟨Nat.le_trans (hbd.1 _ hm).2.2 p1,fun s hs=>?_⟩
      have:=lev_syms (B.map toC) m.toNat _ hm s hs
      obtain ⟨y,hy,hsy⟩:=List.mem_flatMap.1 this
      rw [eB] at hy
      have:=st_mem.1 hy
      rw [hform] at this
      obtain ⟨s',hs',rfl⟩:=List.mem_map.1 this
      have:s=s':=by simpa using hsy
      subst this
      obtain ⟨j,ej,_,hj,_⟩:=(symsF_in x 0 s).1 hs'
      omega
    have:=len_l3 k x.length hk (by omega) B L (by rw [b2.len];omega) (2*B.length - 2) rfl hTL hcx k [] 0 (by omega) (by rw [b2.len];omega) (by simp)
    rw [show ((0:Nat):Int)=0 from rfl,outOf_nil] at this
    rw [this]
    simp only [Option.bind_some,List.nil_append,List.drop_zero]
    rw [List.map_take,l2,eB,b2.len]
theorem sum_perm0 {S T:List Int} (h:S.Perm T) (g:Int→Nat):(S.map g).sum=(T.map g).sum:=by
  induction h with
  | nil=>rfl
  | cons x _ ih=>simp only [List.map_cons,List.sum_cons,ih]
  | swap x y l=>simp only [List.map_cons,List.sum_cons];omega
  | trans _ _ a b=>rw [a,b]
theorem items_ok0 (x:List Int) (m:Nat) (hm:1≤m) (hm2:m≤15) (h3:(coinsF x 0).length≤2^m):(∀ s,(itemsR x m).count s≤m)∧(∀ s∈symsF x 0,1≤(itemsR x m).count s)∧(∀ s,s∉symsF x 0→(itemsR x m).count s=0) ∧
    ((symsF x 0).length=0∨(symsF x 0).length=1∧((symsF x 0).map fun s=>2^(15 - (itemsR x m).count s)).sum=16384∨((symsF x 0).map fun s=>2^(15 - (itemsR x m).count s)).sum=32768):=by
  have hcl:=coinsF_len x 0
  by_cases h4:(coinsF x 0).length=1
  · obtain ⟨s,hs⟩:=List.length_eq_one_iff.1 (show (symsF x 0).length=1 by omega)
    have hi:itemsR x m=[s]:=by unfold itemsR;rw [if_pos h4,hs]
    rw [hi,hs]
    refine ⟨fun t=>Nat.le_trans List.count_le_length (by simpa using hm),fun t ht=>?_,fun t ht=>List.count_eq_zero.2 ht,.inr (.inl ⟨rfl,by simp⟩)⟩
    rw [List.mem_singleton] at ht;subst ht;simp
  · obtain ⟨S,e,hp,hnd,hsrt⟩:=base_form x
    have hlen:S.length=(coinsF x 0).length:=by rw [hp.length_eq];omega
    have hi:∀ s,(itemsR x m).count s=lenS (Fq x) S m s:=by
      intro s;unfold itemsR lenS;rw [if_neg h4,e,hlen]
    by_cases h0:(coinsF x 0).length=0
    · have hS:S=[]:=List.length_eq_zero_iff.1 (by omega)
      have hz:symsF x 0=[]:=List.length_eq_zero_iff.1 (by omega)
      have hi0:itemsR x m=[]:=by unfold itemsR;rw [if_neg h4,h0];simp
      rw [hi0,hz]
      exact ⟨fun s=>by simp,fun s hs=>by simp at hs,fun s _=>by simp,.inl rfl⟩
    · obtain ⟨l1,l2,l3,l4,l5⟩:=lens_ok (F:=Fq x) (Fq_nn x) S hnd hsrt m hm (by omega) (by omega)
      refine ⟨fun s=>by rw [hi];exact l2 s,fun s hs=>by rw [hi];exact l3 s (hp.mem_iff.2 hs),fun s hs=>by rw [hi];exact l4 s fun q=>hs (hp.mem_iff.1 q),.inr (.inr ?_)⟩
      have:=l5 15 hm2
      rw [sum_perm0 hp] at this
      rw [show (fun s=>2^(15 - (itemsR x m).count s))=fun s=>2^(15 - lenS (Fq x) S m s) from funext fun s=>by rw [hi],this]
end Go.Proofs.Ytmmeanjjfhimjaa.W
namespace Go.Proofs.Ytmmeanjjfhimjaa.W
open Go Go.Q Go.Proofs
set_option linter.unusedVariables false
set_option linter.unusedSimpArgs false
set_option linter.unusedSectionVars false
abbrev It:=S_deflate_Item
def byA (b:List Int) (i:Nat):Int:=b.getD i 0
def tri (b:List Int) (i:Nat):Int × Int × Int:=(byA b i,byA b (i+1),byA b (i+2))
theorem ix_by {b:List Int} {i:Nat} (h:i<b.length):ix b (i:Int)=some (byA b i):=by
  rw [ix_nat h];simp [byA,List.getD_eq_getElem?_getD,List.getElem?_eq_getElem h]
theorem by_cut {b:List Int} {i n:Nat} (j:Nat) (hj:j<n):(List.drop i (List.take (i+n) b)).getD j 0=byA b (i+j):=by
  unfold byA
  rw [List.getD_eq_getElem?_getD,List.getD_eq_getElem?_getD,List.getElem?_drop,List.getElem?_take_of_lt (by omega)]
structure Mt (b:List Int) (nx:Nat) (h:List ((Int × Int × Int) × Int)) (p:List Int):Prop where
  le:nx≤b.length
  len:p.length=b.length
  head:∀ k v,mapGet h k=some v→0≤v∧v<nx∧v+3≤b.length∧tri b v.toNat=k
  all:∀ i,i<nx→∃ v,mapGet h (tri b i)=some v∧(i:Int)≤v
  prev:∀ i (hi:i<p.length),i<nx → -1≤p[i]∧p[i]<i
theorem mt_zero (b:List Int):Mt b 0 [] (List.replicate b.length 0):=⟨Nat.zero_le _,by simp,fun k v h=>by simp [mapGet_nil] at h,fun i h=>absurd h (Nat.not_lt_zero _),fun i _ h=>absurd h (Nat.not_lt_zero _)⟩
theorem learn_l0 (k:Nat) (b:List Int) (hb:b.length≤100000000) (to:Nat) (hto:to≤b.length):∀ (n nx:Nat) (h:List ((Int × Int × Int) × Int)) (p:List Int),Mt b nx h p→b.length - nx<n →
    ∃ (nx':Nat) (h':List ((Int × Int × Int) × Int)) (p':List Int),g_deflate_matcher_learn_l0 k (to:Int) b n (nx:Int) h p=some ((nx':Int),h',p')∧Mt b nx' h' p'∧nx≤nx'∧(nx≤to→nx'≤to)∧(to≤nx'∨b.length<nx'+3):=by
  intro n
  induction n with
  | zero=>intro nx h p _ hn;omega
  | succ n ih =>
    intro nx h p hm hn
    have hnx:=hm.le
    rw [g_deflate_matcher_learn_l0.eq_2]
    simp only [bd,Option.bind_some]
    by_cases h1:nx<to
    · rw [if_pos (by omega),wi (n:=(nx:Int)+3) (by omega) (by omega)]
      by_cases h2:nx+3≤b.length
      · rw [dt (by omega)]
        simp only [Option.bind_some,bt]
        rw [if_pos (by omega),show (nx:Int)+3=((nx+3:Nat):Int) by omega,Int.toNat_natCast,Int.toNat_natCast]
        rw [by_cut 0 (by omega),by_cut 1 (by omega),by_cut 2 (by omega),if_pos (by rw [List.length_drop,List.length_take];omega)]
        rw [show (byA b (nx+0),byA b (nx+1),byA b (nx+2))=tri b nx from rfl]
        have hat:∃ q:Int,(bif !(mapGet h (tri b nx)).isSome then some (-1) else some ((mapGet h (tri b nx)).getD 0))=some q ∧ -1≤q∧q<nx:=by
          cases hg:mapGet h (tri b nx) with
          | none=>exact ⟨-1,rfl,by omega,by omega⟩
          | some v =>
            have:=hm.head _ _ hg
            exact ⟨v,rfl,by omega,by omega⟩
        obtain ⟨q,q1,q2,q3⟩:=hat
        rw [q1]
        simp only [Option.bind_some]
        rw [ix_nat (l:=p) (by rw [hm.len];omega)]
        simp only [Option.bind_some]
        rw [wi (n:=(nx:Int)+1) (by omega) (by omega),show (nx:Int)+1=((nx+1:Nat):Int) by omega]
        have hm':Mt b (nx+1) (mapPut h (tri b nx) (nx:Int)) (p.set nx q):=by
          refine ⟨by omega,by rw [List.length_set,hm.len],fun key v hv=>?_,fun i hi=>?_,fun i hi hin=>?_⟩
          · rw [mapGet_put] at hv
            split at hv
            · rename_i e
              obtain rfl:=Option.some.inj hv
              exact ⟨by omega,by omega,by omega,by rw [e,Int.toNat_natCast]⟩
            · have:=hm.head _ _ hv
              exact ⟨this.1,by omega,this.2.2⟩
          · rw [mapGet_put]
            by_cases e:tri b i=tri b nx
            · rw [if_pos e];exact ⟨_,rfl,by omega⟩
            · rw [if_neg e]
              exact hm.all i (by
                rcases Nat.lt_or_eq_of_le (Nat.le_of_lt_succ hi) with w | w
                · exact w
                · rw [w] at e;exact absurd rfl e)
          · rw [List.getElem_set]
            by_cases e:nx=i
            · rw [if_pos e];omega
            · rw [if_neg e];rw [List.length_set] at hi;exact hm.prev i hi (by omega)
        obtain ⟨nx',h',p',r1,r2,r3,r4,r5⟩:=ih (nx+1) _ _ hm' (by omega)
        exact ⟨nx',h',p',r1,r2,by omega,fun _=>r4 (by omega),r5⟩
      · rw [df (by omega)]
        exact ⟨nx,h,p,rfl,hm,Nat.le_refl _,id,.inr (by omega)⟩
    · rw [if_neg (by omega)]
      exact ⟨nx,h,p,rfl,hm,Nat.le_refl _,id,.inl (by omega)⟩
theorem longest_l1 (k:Nat) (b:List Int) (hb:b.length≤100000000) (at_ fr:Nat) (hf:fr<at_) (ha:at_≤b.length):∀ (n m:Nat),m≤258→258 - m<n→at_+m≤b.length→(∀ j,j<m→byA b (fr+j)=byA b (at_+j)) →
    ∃ m':Nat,g_deflate_matcher_longest_l1 k (at_:Int) b (fr:Int) n (m:Int)=some (m':Int)∧m'≤258∧at_+m'≤b.length∧(∀ j,j<m'→byA b (fr+j)=byA b (at_+j))∧(∀ l,l≤258→at_+l≤b.length→(∀ j,j<l→byA b (fr+j)=byA b (at_+j))→l≤m'):=by
  intro n
  induction n with
  | zero=>intro m _ h;omega
  | succ n ih =>
    intro m hm hn hl hj
    rw [g_deflate_matcher_longest_l1.eq_2]
    simp only [bd,Option.bind_some]
    by_cases h1:m<258
    · rw [if_pos (by omega),wi (n:=(at_:Int)+m) (by omega) (by omega)]
      by_cases h2:at_+m<b.length
      · rw [if_pos (by omega),wi (n:=(fr:Int)+m) (by omega) (by omega),show (fr:Int)+m=((fr+m:Nat):Int) by omega,show (at_:Int)+m=((at_+m:Nat):Int) by omega,ix_by (by omega),ix_by h2]
        simp only [Option.bind_some]
        by_cases h3:byA b (fr+m)=byA b (at_+m)
        · rw [dt h3,bt,wi (n:=(m:Int)+1) (by omega) (by omega),show (m:Int)+1=((m+1:Nat):Int) by omega]
          exact ih (m+1) (by omega) (by omega) (by omega) (fun j hj'=>by
            rcases Nat.lt_or_eq_of_le (Nat.le_of_lt_succ hj') with w | w
            · exact hj j w
            · rw [w];exact h3)
        · rw [df h3]
          refine ⟨m,rfl,hm,hl,hj,fun l hl1 hl2 hl3=>Nat.le_of_not_lt fun w=>h3 (hl3 m w)⟩
      · rw [if_neg (by omega)]
        exact ⟨m,rfl,hm,hl,hj,fun l _ hl2 _=>by omega⟩
    · rw [if_neg (by omega)]
      exact ⟨m,rfl,hm,hl,hj,fun l hl1 _ _=>by omega⟩
def Cp (b:List Int) (at_ n d:Nat):Prop:=n≤258∧at_+n≤b.length∧1≤d∧d≤at_∧d≤32768∧∀ j,j<n→byA b (at_ - d+j)=byA b (at_+j)
theorem longest_l0 (k:Nat) (hk:300≤k) (b:List Int) (hb:b.length≤100000000) (at_:Nat) (ha:at_≤b.length) (p:List Int) (hp:p.length=b.length) (nx:Nat) (hnx:nx≤at_) (hpv:∀ i (hi:i<p.length),i<nx → -1≤p[i]∧p[i]<i):∀ (n c:Nat) (fr:Int) (bst dst:Nat),c≤32→32 - c<n → -1≤fr→fr<nx→(0<bst→Cp b at_ bst dst)→(bst=0→dst=0) →
    ∃ bst' dst':Nat,g_deflate_matcher_longest_l0 k (at_:Int) b p n fr (bst:Int) (dst:Int) (c:Int)=some ((bst':Int),(dst':Int))∧(0<bst'→Cp b at_ bst' dst')∧(bst'=0→dst'=0)∧bst≤bst' ∧
      (c<32→0≤fr→(at_:Int) - fr≤32768→∀ l,l≤258→at_+l≤b.length→(∀ j,j<l→byA b (fr.toNat+j)=byA b (at_+j))→l≤bst'):=by
  intro n
  induction n with
  | zero=>intro c fr bst dst _ h;omega
  | succ n ih =>
    intro c fr bst dst hc hn hf1 hf2 hcp hz
    rw [g_deflate_matcher_longest_l0.eq_2]
    simp only [bd,Option.bind_some]
    by_cases h1:c<32
    · rw [if_pos (by omega)]
      by_cases h2:fr<0
      · rw [if_pos h2]
        exact ⟨bst,dst,rfl,hcp,hz,Nat.le_refl _,fun _ h=>by omega⟩
      · rw [if_neg h2,wi (n:=(at_:Int) - fr) (by omega) (by omega)]
        by_cases h3:32768<(at_:Int) - fr
        · rw [dt h3]
          exact ⟨bst,dst,rfl,hcp,hz,Nat.le_refl _,fun _ _ h=>by omega⟩
        · rw [df h3]
          simp only [Option.bind_some,bf]
          obtain ⟨f,rfl⟩:∃ f:Nat,fr=(f:Int):=⟨fr.toNat,by omega⟩
          obtain ⟨m,m1,m2,m3,m4,m5⟩:=longest_l1 k b hb at_ f (by omega) ha k 0 (by omega) (by omega) (by omega) (fun j h=>by omega)
          rw [show ((0:Nat):Int)=0 from rfl] at m1
          rw [m1]
          simp only [Option.bind_some]
          have hq:∃ bq dq:Nat,(if (bst:Int)<m then some ((m:Int),(at_:Int) - (f:Int)) else some ((bst:Int),(dst:Int)))=some ((bq:Int),(dq:Int))∧(0<bq→Cp b at_ bq dq)∧(bq=0→dq=0)∧bst≤bq∧m≤bq:=by
            by_cases h4:bst<m
            · rw [if_pos (by omega)]
              refine ⟨m,at_ - f,by rw [show ((at_ - f:Nat):Int)=(at_:Int) - f by omega],fun _=>⟨m2,m3,by omega,by omega,by omega,fun j hj=>?_⟩,fun h=>by omega,by omega,Nat.le_refl _⟩
              rw [show at_ - (at_ - f)=f by omega];exact m4 j hj
            · rw [if_neg (by omega)]
              exact ⟨bst,dst,rfl,hcp,hz,Nat.le_refl _,by omega⟩
          obtain ⟨bq,dq,q1,q2,q3,q4,q5⟩:=hq
          rw [q1]
          simp only [Option.bind_some]
          have hfp:f<p.length:=by omega
          rw [ix_nat hfp]
          simp only [Option.bind_some]
          have hpf:=hpv f hfp (by omega)
          rw [wi (n:=(c:Int)+1) (by omega) (by omega),show (c:Int)+1=((c+1:Nat):Int) by omega]
          obtain ⟨b',d',r1,r2,r3,r4,_⟩:=ih (c+1) p[f] bq dq (by omega) (by omega) hpf.1 (by omega) q2 q3
          refine ⟨b',d',r1,r2,r3,by omega,fun _ _ _ l l1 l2 l3=>?_⟩
          have:=m5 l l1 l2 (by simpa using l3)
          omega
    · rw [if_neg (by omega)]
      exact ⟨bst,dst,rfl,hcp,hz,Nat.le_refl _,fun h=>by omega⟩
theorem longest (k:Nat) (b:List Int) (hb:b.length≤100000000) (hk:b.length+300≤k) (at_:Nat) (ha:at_<b.length) (nx:Nat) (h:List ((Int × Int × Int) × Int)) (p:List Int) (hm:Mt b nx h p) (hnx:nx≤at_) :
    ∃ (bst dst nx':Nat) (h':List ((Int × Int × Int) × Int)) (p':List Int),g_deflate_matcher_longest k (at_:Int) b (nx:Int) h p=some ((bst:Int),(dst:Int),(nx':Int),h',p')∧Mt b nx' h' p'∧nx'≤at_∧(0<bst→Cp b at_ bst dst) ∧
      (1≤at_→at_+3≤b.length→byA b (at_ - 1)=byA b at_→byA b at_=byA b (at_+1)→byA b (at_+1)=byA b (at_+2)→3≤bst):=by
  unfold g_deflate_matcher_longest
  simp only [bd,Option.bind_some]
  rw [wi (n:=(at_:Int)+3) (by omega) (by omega)]
  by_cases h1:b.length<at_+3
  · rw [if_pos (by omega)]
    exact ⟨0,0,nx,h,p,rfl,hm,hnx,fun h=>by omega,fun _ h=>by omega⟩
  · rw [if_neg (by omega)]
    unfold g_deflate_matcher_learn
    obtain ⟨nx',h',p',r1,r2,r3,r4,r5⟩:=learn_l0 k b hb at_ (by omega) k nx h p hm (by omega)
    rw [r1]
    simp only [Option.bind_some]
    rw [if_pos (by omega),show (at_:Int)+3=((at_+3:Nat):Int) by omega,Int.toNat_natCast,Int.toNat_natCast]
    rw [by_cut 0 (by omega),by_cut 1 (by omega),by_cut 2 (by omega),if_pos (by rw [List.length_drop,List.length_take];omega)]
    rw [show (byA b (at_+0),byA b (at_+1),byA b (at_+2))=tri b at_ from rfl]
    have hx:=r4 hnx
    have hge:at_≤nx':=by rcases r5 with q | q <;> omega
    obtain rfl:nx'=at_:=by omega
    have hrun:1≤nx'→nx'+3≤b.length→byA b (nx' - 1)=byA b nx'→byA b nx'=byA b (nx'+1)→byA b (nx'+1)=byA b (nx'+2)→mapGet h' (tri b nx')=some (((nx' - 1:Nat):Int)):=by
      intro e0 _ e1 e2 e3
      obtain ⟨v,v1,v2⟩:=r2.all (nx' - 1) (by omega)
      have:tri b (nx' - 1)=tri b nx':=by
        unfold tri
        rw [show nx' - 1+1=nx' by omega,show nx' - 1+2=nx'+1 by omega,e1,e2,e3]
      rw [this] at v1
      have:=r2.head _ _ v1
      rw [v1];congr 1;omega
    cases hg:mapGet h' (tri b nx') with
    | none =>
      refine ⟨0,0,nx',h',p',rfl,r2,Nat.le_refl _,fun h=>by omega,fun e0 e e1 e2 e3=>?_⟩
      rw [hrun e0 e e1 e2 e3] at hg;cases hg
    | some v =>
      simp only [Option.isSome_some,Bool.not_true,bf,Option.getD_some]
      have hv:=r2.head _ _ hg
      obtain ⟨b',d',s1,s2,s3,s4,s5⟩:=longest_l0 k (by omega) b hb nx' (by omega) p' r2.len nx' (Nat.le_refl _) r2.prev k 0 v 0 0 (by omega) (by omega) (by omega) (by omega) (fun h=>by omega) (fun _=>rfl)
      rw [show ((0:Nat):Int)=0 from rfl] at s1
      rw [s1]
      refine ⟨b',d',nx',h',p',rfl,r2,Nat.le_refl _,s2,fun e0 e e1 e2 e3=>?_⟩
      have hvv:=hrun e0 e e1 e2 e3
      rw [hg] at hvv
      have hvn:v=((nx' - 1:Nat):Int):=Option.some.inj hvv
      refine s5 (by decide) hv.1 (by omega) 3 (by decide) (by omega) fun j hj=>?_
      rw [hvn,Int.toNat_natCast]
      obtain rfl | rfl | rfl:j=0∨j=1∨j=2:=by omega
      · exact e1
      · rw [show nx' - 1+1=nx' by omega];exact e2
      · rw [show nx' - 1+2=nx'+1 by omega];exact e3
def PI (b:List Int):Nat→List It→Prop
  | at_,[]=>at_=b.length
  | at_,x::l=>(at_<b.length∧x=⟨byA b at_,0,0⟩∧¬ (1≤at_∧at_+3≤b.length∧byA b (at_ - 1)=byA b at_∧byA b at_=byA b (at_+1)∧byA b (at_+1)=byA b (at_+2))∧PI b (at_+1) l) ∨
      ∃ n d:Nat,3≤n∧x=⟨0,n,d⟩∧Cp b at_ n d∧PI b (at_+n) l
def Bytes (b:List Int):Prop:=∀ x∈b,0≤x∧x≤255
theorem by_rng {b:List Int} (hb:Bytes b) (i:Nat):0≤byA b i∧byA b i≤255:=by
  unfold byA
  by_cases h:i<b.length
  · have e:b.getD i 0=b[i]:=by simp [List.getD_eq_getElem?_getD,List.getElem?_eq_getElem h]
    rw [e];exact hb _ (List.getElem_mem h)
  · have e:b.getD i 0=0:=by simp [List.getD_eq_getElem?_getD,List.getElem?_eq_none (Nat.le_of_not_lt h)]
    rw [e];omega
theorem collect_l0 (k:Nat) (b:List Int) (hb:b.length≤100000000) (hB:Bytes b) (hk:b.length+300≤k):∀ (n at_ nx:Nat) (h:List ((Int × Int × Int) × Int)) (p:List Int) (acc:List It),at_≤b.length→b.length - at_<n→Mt b nx h p→nx≤at_→acc.length≤at_ →
    ∃ l,g_sc_AppendSeq_deflate_Item_deflate_Item_l0 k b n (at_:Int) (nx:Int) h p acc=some (acc++l)∧PI b at_ l:=by
  intro n
  induction n with
  | zero=>intro at_ nx h p acc _ hn;omega
  | succ n ih =>
    intro at_ nx h p acc ha hn hm hnx hacc
    rw [g_sc_AppendSeq_deflate_Item_deflate_Item_l0.eq_2]
    simp only [bd,Option.bind_some]
    by_cases h1:at_<b.length
    · rw [if_pos (by omega),ix_by h1]
      simp only [Option.bind_some]
      obtain ⟨bst,dst,nx',h',p',r1,r2,r3,r4,r5⟩:=longest k b hb hk at_ h1 nx h p hm hnx
      rw [r1]
      simp only [Option.bind_some]
      by_cases h2:3≤bst
      · have hcp:=r4 (by omega)
        have hcp':=hcp
        unfold Cp at hcp'
        rw [if_pos (by omega)]
        simp only [Option.bind_some]
        rw [if_pos (by simp;omega),wi (n:=(at_:Int)+bst) (by omega) (by omega),show (at_:Int)+bst=((at_+bst:Nat):Int) by omega]
        obtain ⟨l,l1,l2⟩:=ih (at_+bst) nx' h' p' (acc++[⟨0,bst,dst⟩]) (by omega) (by omega) r2 (by omega) (by simp;omega)
        exact ⟨⟨0,bst,dst⟩::l,by rw [l1];simp,.inr ⟨bst,dst,h2,rfl,hcp,l2⟩⟩
      · rw [if_neg (by omega)]
        simp only [Option.bind_some]
        have hby:=by_rng hB at_
        rw [wi (n:=byA b at_) (by omega) (by omega),if_pos (by simp;omega),wi (n:=(at_:Int)+1) (by omega) (by omega),show (at_:Int)+1=((at_+1:Nat):Int) by omega]
        obtain ⟨l,l1,l2⟩:=ih (at_+1) nx' h' p' (acc++[⟨byA b at_,0,0⟩]) (by omega) (by omega) r2 (by omega) (by simp;omega)
        exact ⟨⟨byA b at_,0,0⟩::l,by rw [l1];simp,.inl ⟨h1,rfl,fun ⟨e0,e,e1,e2,e3⟩=>h2 (r5 e0 e e1 e2 e3),l2⟩⟩
    · rw [if_neg (by omega)]
      exact ⟨[],by simp,by show at_=b.length;omega⟩
theorem parse_ok (k:Nat) (b:List Int) (hb:b.length≤100000000) (hB:Bytes b) (hk:b.length+300≤k):∃ l,g_deflate_Parse k b=some l∧PI b 0 l:=by
  unfold g_deflate_Parse g_deflate_items g_sc_Collect_deflate_Item g_sc_AppendSeq_deflate_Item_deflate_Item
  simp only [Option.bind_some,bd]
  rw [if_pos (by omega),Int.toNat_natCast]
  obtain ⟨l,l1,l2⟩:=collect_l0 k b hb hB hk k 0 0 [] (List.replicate b.length 0) [] (by omega) (by omega) (mt_zero b) (Nat.le_refl _) (Nat.le_refl _)
  rw [show ((0:Nat):Int)=0 from rfl] at l1
  simp only [Option.bind_some]
  rw [l1]
  exact ⟨l,rfl,l2⟩
theorem take_by {b:List Int} {i:Nat} (h:i<b.length):b.take i++[byA b i]=b.take (i+1):=by
  rw [List.take_add_one,List.getElem?_eq_getElem h]
  congr 1
  simp [byA,List.getD_eq_getElem?_getD,List.getElem?_eq_getElem h]
theorem by_take {b:List Int} {i n:Nat} (h:i<n):byA (b.take n) i=byA b i:=by
  unfold byA;rw [List.getD_eq_getElem?_getD,List.getD_eq_getElem?_getD,List.getElem?_take_of_lt h]
theorem wi8 {x:Int} (h:0≤x∧x≤255):IntKind.wrap .u8 x=x:=by
  have:IntKind.wrap .u8 x=x%256:=by simp [IntKind.wrap,IntKind.bits,IntKind.signed]
  rw [this];omega
theorem pi_len {b:List Int}:∀ {l:List It} {at_:Nat},PI b at_ l→at_+l.length≤b.length
  | [],at_,h=>by have:at_=b.length:=h;simp;omega
  | x::l,at_,h=>by
    rcases h with ⟨h1,_,_,h3⟩ | ⟨n,d,h1,_,h2,h3⟩
    · have:=pi_len h3;simp only [List.length_cons];omega
    · have:=pi_len h3;simp only [List.length_cons];omega
theorem alive4 (n:Nat):g_quirelaw04_alive (n+300)=some (Sum.inl true):=by kernel_rfl
theorem bytes_wf {b:List Int} (h:∀ z∈b,(Lit.int .u8 z).wf=true):Bytes b:=fun x hx=>by
  have:=h x hx
  simp [Lit.wf,IntKind.min,IntKind.max,IntKind.signed,IntKind.bits] at this
  omega
theorem same_self (k:Nat) (b:List Int):g_quirelaw01_Same k b b=some true:=by
  unfold g_quirelaw01_Same;simp
def cl (x:Int):Int:=if x<0∨15<x then 0 else x
theorem cl_le (x:Int):0≤cl x∧cl x≤15:=by unfold cl;split <;> omega
theorem clean {k:Nat} {l:List Int} {i:Nat} (h:i<l.length):g_deflate_Lengths_2 k i l=some (cl l[i]):=by
  unfold g_deflate_Lengths_2 cl
  rw [ix_nat h]
  simp only [Option.bind_some,bd]
  by_cases h1:l[i]<0
  · rw [if_pos h1,if_pos (.inl h1)];rfl
  · by_cases h2:15<l[i]
    · rw [if_neg h1,if_pos (.inr h2),dt h2];rfl
    · rw [if_neg h1,if_neg (by omega),df h2];rfl
def more (r:List Int) (p:Int × Int):List Int :=
  if p.1=16 then List.replicate (3+p.2).toNat (r.getD (r.length - 1) 0) else if p.1=17 then List.replicate (3+p.2).toNat 0 else if p.1=18 then List.replicate (11+p.2).toNat 0 else [p.1]
def rowOf (p:List (Int × Int)):List Int:=p.foldl (fun r q=>r++more r q) []
theorem rowOf_app (p:List (Int × Int)) (q:Int × Int):rowOf (p++[q])=rowOf p++more (rowOf p) q:=by simp [rowOf]
def okQ (r:List Int) (q:Int × Int):Prop:=0≤q.1∧q.1≤18∧0≤q.2∧(q.1<16→q.2=0)∧(q.1=16→q.2≤3∧0<r.length)∧(q.1=17→q.2≤7)∧(q.1=18→q.2≤127)
def okP (p:List (Int × Int)):Prop:=∀ j (h:j<p.length),okQ (rowOf (p.take j)) p[j]
theorem okP_nil:okP []:=by intro j h;simp at h
theorem okP_app {p:List (Int × Int)} {q:Int × Int} (h:okP p) (hq:okQ (rowOf p) q):okP (p++[q]):=by
  intro j hj
  by_cases hp:j<p.length
  · rw [List.take_append_of_le_length (by omega),List.getElem_append_left hp]
    exact h j hp
  · have:j=p.length:=by simp at hj;omega
    subst this
    simpa using hq
theorem run_app {l:List Int} {v:Int} {i:Nat}:∀ (m:Nat),i+m≤l.length→(∀ t,t<m→cl (l.getD (i+t) 0)=v)→(l.take (i+m)).map cl=(l.take i).map cl++List.replicate m v
  | 0,_,_=>by simp
  | m+1,h1,h2=>by
    rw [← Nat.add_assoc,List.take_succ_eq_append_getElem (by omega),List.map_append,run_app m (by omega) (fun t ht=>h2 t (by omega)),List.replicate_succ',← List.append_assoc]
    have:=h2 m (by omega)
    rw [List.getD_eq_getElem?_getD,List.getElem?_eq_getElem (by omega)] at this
    simp only [Option.getD_some] at this
    simp [this]
theorem r1 (k:Nat) (l:List Int) (ul:l.length*8≤140737488351232) (i:Nat) (v:Int):∀ (n m:Nat),i+m≤l.length→l.length - (i+m)<n→(∀ t,t<m→cl (l.getD (i+t) 0)=v) →
    Ret (g_deflate_Lengths_l1 k l i v n m) fun r=>∃ m':Nat,r=m'∧m≤m'∧i+m'≤l.length∧∀ t,t<m'→cl (l.getD (i+t) 0)=v:=by
  intro n
  induction n with
  | zero=>intro m _ h;omega
  | succ n ih =>
    intro m h1 h2 h3
    rw [g_deflate_Lengths_l1.eq_2,wi (n:=(i:Int)+m) (by omega) (by omega)]
    simp only [Option.bind_some,bd]
    by_cases hi:i+m<l.length
    · rw [if_pos (by omega),show ((i:Int)+m)=((i+m:Nat):Int) by omega,clean hi]
      simp only [Option.bind_some]
      by_cases hv:cl l[i+m]=v
      · rw [dt hv,wi (by omega) (by omega)]
        simp only [bt]
        rw [show ((m:Int)+1)=((m+1:Nat):Int) by omega]
        refine Ret.mono (ih (m+1) (by omega) (by omega) fun t ht=>?_) fun r ⟨m',e1,e2,e3,e4⟩=>⟨m',e1,by omega,e3,e4⟩
        by_cases htm:t<m
        · exact h3 t htm
        · have:t=m:=by omega
          subst this
          rw [List.getD_eq_getElem?_getD,List.getElem?_eq_getElem hi]
          exact hv
      · rw [df hv]
        exact Ret.pure ⟨m,rfl,by omega,h1,h3⟩
    · rw [if_neg (by omega)]
      exact Ret.pure ⟨m,rfl,by omega,h1,h3⟩
theorem add1 {k:Nat} {a b:Int} {s x:List Int} (hs:(s.length+1)*8≤140737488355328) (hx:(x.length+1)*8≤140737488355328):g_deflate_Lengths_1__b k a b s x=some ():=by
  unfold g_deflate_Lengths_1__b
  rw [dt (by simpa using hs),dt (by simpa using hx)]
  rfl
theorem lens (k:Nat) (l:List Int) (hk:l.length+1<k) (ul:l.length*8≤140737488351232):∀ (n i:Nat) (p:List (Int × Int)),i≤l.length→l.length - i<n→rowOf p=(l.take i).map cl→okP p→p.length≤i →
    Ret (g_deflate_Lengths_l0 k l n i (p.map (·.1)) (p.map (·.2))) fun r=>∃ q:List (Int × Int),r=(q.map (·.1),q.map (·.2))∧rowOf q=l.map cl∧okP q∧q.length≤l.length:=by
  intro n
  induction n with
  | zero=>intro i p _ h;omega
  | succ n ih =>
    intro i p hi hn hr hp hpl
    rw [g_deflate_Lengths_l0.eq_2]
    simp only [Option.bind_some,bd]
    by_cases hil:i<l.length
    · rw [if_pos (by omega),clean hil]
      simp only [Option.bind_some]
      have hcl:=cl_le l[i]
      have h0:∀ t,t<1→cl (l.getD (i+t) 0)=cl l[i]:=by
        intro t ht
        obtain rfl:t=0:=by omega
        rw [List.getD_eq_getElem?_getD,Nat.add_zero,List.getElem?_eq_getElem hil]
        rfl
      generalize cl l[i]=v at *
      obtain ⟨_,e1,m,rfl,hm,him,hall⟩:=r1 k l ul i v k 1 (by omega) (by omega) h0
      have e1':g_deflate_Lengths_l1 k l i v k 1=some (m:Int):=e1
      rw [e1']
      simp only [Option.bind_some]
      have key:∀ (m':Nat) (q:List (Int × Int)) ,m'≤m→1≤m'→rowOf q=(l.take i).map cl++List.replicate m' v→okP q→q.length≤i+m' →
          Ret (g_deflate_Lengths_l0 k l n (IntKind.wrap .i64 (i+(m':Int))) (q.map (·.1)) (q.map (·.2))) fun r=>∃ q:List (Int × Int),r=(q.map (·.1),q.map (·.2))∧rowOf q=l.map cl∧okP q∧q.length≤l.length:=by
        intro m' q h1 h2 h3 h4 h5
        rw [wi (by omega) (by omega),show ((i:Int)+m')=((i+m':Nat):Int) by omega]
        exact ih (i+m') q (by omega) (by omega) (by rw [h3,run_app m' (by omega) fun t ht=>hall t (by omega)]) h4 h5
      have hrl:(rowOf p).length=i:=by rw [hr];simp;omega
      by_cases hv:v=0
      · subst hv
        by_cases h11:11≤m
        · obtain ⟨m',hm'⟩:∃ m':Nat,m'=min m 138:=⟨_,rfl⟩
          have emin:(if (138:Int)<m then (138:Int) else m)=(m':Int):=by split <;> omega
          rw [if_pos rfl,dt (show (11:Int)≤m by omega)]
          simp only [Option.bind_some,bt,emin]
          rw [wi (n:=(m':Int) - 11) (by omega) (by omega),add1 (by simp;omega) (by simp;omega)]
          simp only [Option.bind_some]
          have:=key m' (p++[(18,(m':Int) - 11)]) (by omega) (by omega) (by rw [rowOf_app,hr];congr 1;unfold more;simp;omega) (okP_app hp ⟨by simp,by simp,by simp;omega,by simp,by simp,by simp,by simp;omega⟩) (by simp;omega)
          simpa using this
        · by_cases h3:3≤m
          · rw [if_pos rfl,df (show ¬ (11:Int)≤m by omega)]
            simp only [Option.bind_some,bf,if_true]
            rw [dt (show (3:Int)≤m by omega)]
            simp only [Option.bind_some,bt]
            rw [wi (n:=(m:Int) - 3) (by omega) (by omega),add1 (by simp;omega) (by simp;omega)]
            simp only [Option.bind_some]
            have:=key m (p++[(17,(m:Int) - 3)]) (by omega) (by omega) (by rw [rowOf_app,hr];congr 1;unfold more;simp;omega) (okP_app hp ⟨by simp,by simp,by simp;omega,by simp,by simp,by simp;omega,by simp⟩) (by simp;omega)
            simpa using this
          · rw [if_pos rfl,df (show ¬ (11:Int)≤m by omega)]
            simp only [Option.bind_some,bf,if_true]
            rw [df (show ¬ (3:Int)≤m by omega)]
            simp only [Option.bind_some,bf,decide_true,Bool.not_true]
            rw [add1 (by simp;omega) (by simp;omega)]
            simp only [Option.bind_some]
            have:=key 1 (p++[(0,0)]) (by omega) (by omega) (by rw [rowOf_app,hr];congr 1) (okP_app hp ⟨by simp,by simp,by simp,by simp,by simp,by simp,by simp⟩) (by simp;omega)
            simpa using this
      · rw [if_neg hv]
        simp only [Option.bind_some,bf]
        rw [if_neg hv]
        simp only [Option.bind_some,bf,df hv,Bool.not_false,bt]
        have eone:more (rowOf p) (v,0)=[v]:=by
          unfold more
          rw [if_neg (by simp;omega),if_neg (by simp;omega),if_neg (by simp;omega)]
        have ok1:okP (p++[(v,0)]):=okP_app hp ⟨by simp;omega,by simp;omega,by simp,by simp,by simp;omega,by simp,by simp⟩
        by_cases h4:4≤m
        · obtain ⟨m',hm'⟩:∃ m':Nat,m'=min m 7:=⟨_,rfl⟩
          have emin:(if (7:Int)<m then (7:Int) else m)=(m':Int):=by split <;> omega
          rw [dt (show (4:Int)≤m by omega)]
          simp only [Option.bind_some,bt,emin]
          rw [add1 (by simp;omega) (by simp;omega),Option.bind_some,wi (n:=(m':Int) - 4) (by omega) (by omega),add1 (by simp;omega) (by simp;omega)]
          simp only [Option.bind_some]
          have er:rowOf (p++[(v,0)])=rowOf p++[v]:=by rw [rowOf_app,eone]
          have:=key m' (p++[(v,0)]++[(16,(m':Int) - 4)]) (by omega) (by omega) (by
              rw [rowOf_app,er,hr,List.append_assoc];congr 1;unfold more
              have e3:(3+((m':Int) - 4)).toNat=m' - 1:=by omega
              simp [e3]
              rw [← List.replicate_succ];congr 1;omega)
            (okP_app ok1 ⟨by simp,by simp,by simp;omega,by simp,by rw [er];simp;omega,by simp,by simp⟩) (by simp;omega)
          simpa using this
        · rw [df (show ¬ (4:Int)≤m by omega)]
          simp only [Option.bind_some,bf]
          rw [add1 (by simp;omega) (by simp;omega)]
          simp only [Option.bind_some]
          have:=key 1 (p++[(v,0)]) (by omega) (by omega) (by rw [rowOf_app,hr,← hr,eone];rfl) ok1 (by simp;omega)
          simpa using this
    · rw [if_neg (by omega)]
      refine Ret.pure ⟨p,rfl,?_,hp,by omega⟩
      rw [hr,List.take_of_length_le (by omega)]
theorem getD_al {α:Type} (a b:List α) (i:Nat) (d:α) (h:i<a.length):(a++b).getD i d=a.getD i d:=by
  rw [List.getD_eq_getElem?_getD,List.getD_eq_getElem?_getD,List.getElem?_append_left h]
theorem getD_ar {α:Type} (a b:List α) (i:Nat) (d:α) (h:a.length≤i):(a++b).getD i d=b.getD (i - a.length) d:=by
  rw [List.getD_eq_getElem?_getD,List.getD_eq_getElem?_getD,List.getElem?_append_right h]
def vb (v c:Nat):List Bool:=(List.range c).map fun j=>v.testBit j
def cb (v c:Nat):List Bool:=(List.range c).map fun j=>v.testBit (c - 1 - j)
theorem vb_length (v c:Nat):(vb v c).length=c:=by simp [vb]
theorem cb_length (v c:Nat):(cb v c).length=c:=by simp [cb]
theorem bitsOf_vb {v:Nat} (hv:v<4294967296) (c:Nat):bitsOf (BitVec.ofNat 32 v) c=vb v c:=by
  unfold bitsOf vb
  apply List.map_congr_left
  intro j _
  rw [BitVec.getLsbD_ofNat]
  by_cases h:j<32
  · simp [h]
  · have:v.testBit j=false:=Nat.testBit_lt_two_pow (Nat.lt_of_lt_of_le hv (by
      have:=Nat.pow_le_pow_right (show 0<2 by decide) (show 32≤j by omega)
      omega))
    simp [h,this]
theorem putv {k:Nat} (hk:40≤k) {v c:Nat} (hv:v<4294967296) (hc:c≤32) {n:Int} {b:List Int} {B:List Bool} (hw:Wr n b B) (hB:B.length+c≤1125899906842000) :
    ∃ n' b',g_bits_Writer_Put__b k (v:Int) (c:Int) n b=some (0,n',b')∧Wr n' b' (B++vb v c):=by
  obtain ⟨n',b',h1,h2⟩:=g_bits_Writer_Put__b_ok hk (BitVec.ofNat 32 v) c hc hw hB
  have:((BitVec.ofNat 32 v).toNat:Int)=(v:Int):=by rw [BitVec.toNat_ofNat,Nat.mod_eq_of_lt hv]
  rw [this] at h1
  rw [bitsOf_vb hv] at h2
  exact ⟨n',b',h1,h2⟩
theorem put_l0_same (k:Nat) (v c:Int):∀ (n:Nat) (i m:Int) (b:List Int),g_bits_Writer_Put_l0 k v c n i m b=g_bits_Writer_Put__b_l0 k v c n i m b
  | 0,_,_,_=>rfl
  | n+1,i,m,b=>by rw [g_bits_Writer_Put_l0.eq_2,g_bits_Writer_Put__b_l0.eq_2];simp only [put_l0_same k v c n]
theorem put_same (k:Nat) (v c m:Int):g_bits_Writer_Put k v c m=g_bits_Writer_Put__b k v c m []:=by
  unfold g_bits_Writer_Put g_bits_Writer_Put__b
  simp only [put_l0_same]
theorem put_code {k:Nat} (hk:40≤k) {v c:Nat} (hv:v<4294967296) (hc:c≤32) {n:Int} {b:List Int} {B:List Bool} (hw:Wr n b B) (hB:B.length+c≤1125899906842000) :
    ∃ n' b',g_deflate_put k (v:Int) (c:Int) n b=some (n',b')∧Wr n' b' (B++cb v c):=by
  unfold g_deflate_put
  obtain ⟨r,r1,r2⟩:=g_bits_Reverse_bits k (BitVec.ofNat 32 v) (c:Int)
  have:((BitVec.ofNat 32 v).toNat:Int)=(v:Int):=by rw [BitVec.toNat_ofNat,Nat.mod_eq_of_lt hv]
  rw [this] at r1
  rw [r1]
  simp only [Option.bind_some]
  obtain ⟨n',b',h1,h2⟩:=g_bits_Writer_Put__b_ok hk r c hc hw hB
  rw [h1]
  have hcut:cut (c:Int)=c:=by unfold cut;rw [if_neg (by omega),if_neg (by omega)];omega
  have:bitsOf r c=cb v c:=by
    unfold bitsOf cb
    apply List.map_congr_left
    intro j hj
    have hj':=List.mem_range.1 hj
    rw [r2,hcut,BitVec.getLsbD_ofNat,decide_eq_true hj',decide_eq_true (show c - 1 - j<32 by omega)]
    simp
  rw [this] at h2
  exact ⟨n',b',rfl,h2⟩
theorem testBit_byte (x:Int) (h:0≤x∧x≤255) (j:Nat) (hj:j<8):(BitVec.ofInt 8 x).getLsbD j=x.toNat.testBit j:=by
  obtain ⟨n,rfl⟩:∃ n:Nat,x=(n:Int):=⟨x.toNat,by omega⟩
  rw [show BitVec.ofInt 8 (n:Int)=BitVec.ofNat 8 n from by simp,BitVec.getLsbD_ofNat]
  simp [hj]
def bytesB (x:List Int):List Bool:=x.flatMap fun v=>vb v.toNat 8
theorem bytesB_length:∀ x:List Int,(bytesB x).length=8*x.length
  | []=>rfl
  | v::x=>by
    have:=bytesB_length x
    unfold bytesB at *
    simp only [List.flatMap_cons,List.length_append,vb_length,List.length_cons];omega
theorem bytesB_get:∀ (x:List Int) (i:Nat),i<8*x.length→(bytesB x).getD i false=(x.getD (i / 8) 0).toNat.testBit (i%8)
  | [],i,h=>by simp at h
  | v::x,i,h=>by
    have e:bytesB (v::x)=vb v.toNat 8++bytesB x:=rfl
    rw [e]
    by_cases hi:i<8
    · rw [getD_al _ _ _ _ (by rw [vb_length];exact hi),show i / 8=0 by omega,show i%8=i by omega]
      simp [vb,List.getD_eq_getElem?_getD,hi]
    · rw [getD_ar _ _ _ _ (by rw [vb_length];omega),vb_length,bytesB_get x (i - 8) (by simp only [List.length_cons] at h;omega),show i / 8=(i - 8) / 8+1 by omega,show i%8=(i - 8)%8 by omega]
      rfl
theorem Wr.align {n:Int} {b:List Int} {B:List Bool} (h:Wr n b B):Wr (8*(b.length:Int)) b (B++List.replicate (8*b.length - B.length) false):=by
  have hl:=h.l
  refine ⟨by rw [List.length_append,List.length_replicate];omega,by rw [List.length_append,List.length_replicate];omega,h.ok,fun i=>?_⟩
  rw [h.bit]
  by_cases hi:i<B.length
  · rw [getD_al _ _ _ _ hi]
  · rw [getD_ar _ _ _ _ (by omega),List.getD_eq_getElem?_getD,List.getD_eq_getElem?_getD,List.getElem?_eq_none (by omega)]
    by_cases hr:i - B.length<8*b.length - B.length
    · simp [hr]
    · simp [List.getElem?_eq_none (show (List.replicate (8*b.length - B.length) false).length≤i - B.length by simp;omega)]
theorem Wr.bytes {b:List Int} {B:List Bool} {n:Int} (h:Wr n b B) (h8:B.length=8*b.length) {x:List Int} (hx:okB x):Wr (8*((b++x).length:Int)) (b++x) (B++bytesB x):=by
  refine ⟨by rw [List.length_append,List.length_append,bytesB_length];omega,by rw [List.length_append,List.length_append,bytesB_length];omega,?_,fun i=>?_⟩
  · intro v hv
    rcases List.mem_append.1 hv with q | q
    · exact h.ok v q
    · exact hx v q
  · by_cases hi:i<B.length
    · rw [getD_al _ _ _ _ hi,← h.bit]
      unfold bitAt
      rw [getD_al _ _ _ _ (by omega)]
    · rw [getD_ar _ _ _ _ (by omega)]
      unfold bitAt
      rw [getD_ar _ _ _ _ (by omega)]
      by_cases hx2:i - B.length<8*x.length
      · rw [bytesB_get x _ hx2,show (i - B.length) / 8=i / 8 - b.length by omega,show (i - B.length)%8=i%8 by omega]
        have hlt:i / 8 - b.length<x.length:=by omega
        have e:x.getD (i / 8 - b.length) 0=x[i / 8 - b.length]:=by simp [List.getD_eq_getElem?_getD,List.getElem?_eq_getElem hlt]
        rw [e]
        exact testBit_byte _ (hx _ (List.getElem_mem hlt)) _ (by omega)
      · rw [List.getD_eq_getElem?_getD (l:=bytesB x),List.getElem?_eq_none (by rw [bytesB_length];omega),List.getD_eq_getElem?_getD,List.getElem?_eq_none (by omega)]
        simp
theorem wu32 {n:Nat} (h:n<4294967296):IntKind.wrap .u32 (n:Int)=(n:Int):=by
  have:IntKind.wrap .u32 (n:Int)=(n:Int)%4294967296:=by simp [IntKind.wrap,IntKind.bits,IntKind.signed]
  rw [this];omega
theorem com32 {n:Nat} (h:n<4294967296):bits .xor .u32 (if IntKind.signed .u32 then -1 else IntKind.max .u32) (n:Int)=((4294967295 - n:Nat):Int):=by
  have e1:(if IntKind.signed .u32 then (-1:Int) else IntKind.max .u32)=((BitVec.allOnes 32).toNat:Int):=by rfl
  have e2:(n:Int)=((BitVec.ofNat 32 n).toNat:Int):=by rw [BitVec.toNat_ofNat,Nat.mod_eq_of_lt h]
  rw [e1,e2,u32_xor]
  congr 1
  have:BitVec.allOnes 32 ^^^ BitVec.ofNat 32 n = ~~~ BitVec.ofNat 32 n:=by rw [BitVec.allOnes_xor]
  rw [this,BitVec.toNat_not,BitVec.toNat_ofNat,Nat.mod_eq_of_lt h]
def blkB (last:Bool) (x:List Int):List Bool:=[last,false,false]++(List.replicate 5 false++(vb x.length 16++(vb (4294967295 - x.length) 16++bytesB x)))
def storedB:Nat→List Int→List Bool
  | 0,_=>[]
  | n+1,x=>if x.length≤65535 then blkB true x else blkB false (x.take 65535)++storedB n (x.drop 65535)
theorem vb3 (b:Bool):vb (if b then 1 else 0) 3=[b,false,false]:=by cases b <;> rfl
theorem blk_len (last:Bool) (x:List Int):(blkB last x).length=8*(5+x.length):=by
  unfold blkB;simp only [List.length_append,vb_length,bytesB_length,List.length_replicate,List.length_cons,List.length_nil];omega
theorem stored_step (k:Nat) (hk:40≤k) (x:List Int) (hx:okB x) (hl:x.length≤65535) (last:Bool) {w:Int} {out:List Int} {B:List Bool} (hw:Wr w out B) (h8:B.length=8*out.length) (hs:out.length≤100000000) (K:Int→List Int→Option (Int × List Int)) :
    ∃ w' out',((g_bits_Writer_Put__b k (if last then 1 else 0) 3 w out).bind fun (x1280,x1281,x1282)=>((g_bits_Writer_Align k x1281 x1282).bind fun x1284=>((g_bits_Writer_Put__b k (IntKind.wrap .u32 (x.length:Int)) 16 x1284 x1282).bind fun (x1286,x1287,x1288)=>((some (bits .xor .u32 (if IntKind.signed .u32 then -1 else IntKind.max .u32) (IntKind.wrap .u32 (x.length:Int)))).bind fun x1289=>((g_bits_Writer_Put__b k x1289 16 x1287 x1288).bind fun (x1291,x1292,x1293)=>((g_bits_Writer_Bytes k x x1292 x1293).bind fun x1296=>K x1296 (x1293++x)))))))=K w' out'∧Wr w' out' (B++blkB last x)∧out'.length=out.length+5+x.length:=by
  obtain ⟨n1,b1,e1,w1⟩:=putv hk (v:=if last then 1 else 0) (c:=3) (by split <;> decide) (by decide) hw (by omega)
  have c1:((if last then 1 else 0:Nat):Int)=(if last then 1 else 0:Int):=by cases last <;> rfl
  rw [c1] at e1
  rw [show (3:Int)=((3:Nat):Int) from rfl,e1]
  simp only [Option.bind_some]
  unfold g_bits_Writer_Align
  simp only [Option.bind_some]
  have l1:=w1.l
  rw [List.length_append,vb_length] at l1
  rw [wi (n:=8*(b1.length:Int)) (by omega) (by omega),wu32 (by omega)]
  have w2:=w1.align
  rw [List.length_append,vb_length,show 8*b1.length - (B.length+3)=5 by omega,vb3] at w2
  obtain ⟨n3,b3,e3,w3⟩:=putv hk (v:=x.length) (c:=16) (by omega) (by decide) w2 (by simp;omega)
  rw [show (16:Int)=((16:Nat):Int) from rfl,e3]
  simp only [Option.bind_some]
  rw [com32 (by omega)]
  obtain ⟨n4,b4,e4,w4⟩:=putv hk (v:=4294967295 - x.length) (c:=16) (by omega) (by decide) w3 (by simp [vb_length];omega)
  rw [e4]
  simp only [Option.bind_some]
  have l4:=w4.l
  simp only [List.length_append,vb_length,List.length_replicate,List.length_cons,List.length_nil] at l4
  have w5:=w4.bytes (by simp only [List.length_append,vb_length,List.length_replicate,List.length_cons,List.length_nil];omega) hx
  unfold g_bits_Writer_Bytes
  rw [bd,if_pos (by omega),wi (by rw [List.length_append];omega) (by rw [List.length_append];omega)]
  simp only [Option.bind_some]
  refine ⟨_,_,rfl,?_,by rw [List.length_append];omega⟩
  have:B++blkB last x=B++[last,false,false]++List.replicate 5 false++vb x.length 16++vb (4294967295 - x.length) 16++bytesB x:=by unfold blkB;simp
  rw [this];exact w5
theorem stored_l0 (k:Nat) (hk:40≤k):∀ (n m:Nat) (x:List Int) (first:Bool) (w:Int) (out:List Int) (B:List Bool),okB x→x.length<65535*m→m<n→(first=true∨0<x.length)→Wr w out B→B.length=8*out.length→out.length+x.length+5*m≤10000000 →
    ∃ w' out',g_deflate_stored_l0 k n x first w out=some (w',out')∧Wr w' out' (B++storedB m x):=by
  intro n
  induction n with
  | zero=>intro m x first w out B _ _ h;omega
  | succ n ih =>
    intro m x first w out B hx hm hn hf hw h8 hs
    obtain ⟨m,rfl⟩:∃ j,m=j+1:=⟨m - 1,by omega⟩
    rw [g_deflate_stored_l0.eq_2]
    have hcond:((bif first then some true else ((some (decide (0<((List.length x:Nat):Int)))).bind fun x1243=>some x1243)):Option Bool)=some true:=by
      cases first with
      | true=>rfl
      | false => have : 0 < x.length := by simpa using hf
                 simp only [bf,Option.bind_some];rw [dt (by omega)]
    rw [hcond]
    simp only [Option.bind_some,bt]
    by_cases h:x.length≤65535
    · rw [if_neg (show ¬ (65535:Int)<((x.length:Nat):Int) by omega),dt rfl]
      simp only [Option.bind_some,bt]
      have ht:List.drop (Int.toNat 0) (List.take (Int.toNat ((x.length:Nat):Int)) x)=x:=by rw [Int.toNat_natCast];simp
      have hd:List.drop (Int.toNat ((x.length:Nat):Int)) (List.take (Int.toNat ((x.length:Nat):Int)) x)=[]:=by rw [Int.toNat_natCast];simp
      simp only [ht,hd]
      rw [dt (show (0≤(0:Int)∧(0:Int)≤(x.length:Int)∧(x.length:Int)≤(x.length:Int)) by omega),dt (show (0≤(x.length:Int)∧(x.length:Int)≤(x.length:Int)∧(x.length:Int)≤(x.length:Int)) by omega)]
      simp only [bt]
      obtain ⟨w',out',e,q1,q2⟩:=stored_step k hk x hx h true hw h8 (by omega) (fun a b=>g_deflate_stored_l0 k n [] false a b)
      refine ⟨w',out',?_,?_⟩
      · refine Eq.trans e ?_
        obtain ⟨n,rfl⟩:∃ j,n=j+1:=⟨n - 1,by omega⟩
        show g_deflate_stored_l0 k (n+1) [] false w' out'=_
        rw [g_deflate_stored_l0.eq_2];rfl
      · show Wr w' out' (B++(if x.length≤65535 then blkB true x else blkB false (x.take 65535)++storedB m (x.drop 65535)))
        rw [if_pos h];exact q1
    · rw [if_pos (show (65535:Int)<((x.length:Nat):Int) by omega),df (show ¬ (65535:Int)=((x.length:Nat):Int) by omega)]
      simp only [Option.bind_some,bf]
      have ht:List.drop (Int.toNat 0) (List.take (Int.toNat 65535) x)=x.take 65535:=rfl
      have hd:List.drop (Int.toNat 65535) (List.take (Int.toNat ((x.length:Nat):Int)) x)=x.drop 65535:=by rw [Int.toNat_natCast,List.take_of_length_le (Nat.le_refl _)];rfl
      simp only [ht,hd]
      rw [dt (show (0≤(0:Int)∧(0:Int)≤65535∧65535≤(x.length:Int)) by omega),dt (show (0≤(65535:Int)∧(65535:Int)≤(x.length:Int)∧(x.length:Int)≤(x.length:Int)) by omega)]
      simp only [bt]
      have hl:(x.take 65535).length=65535:=by rw [List.length_take];omega
      obtain ⟨w',out',e,q1,q2⟩:=stored_step k hk (x.take 65535) (fun v hv=>hx v (List.mem_of_mem_take hv)) (by omega) false hw h8 (by omega) (fun a b=>g_deflate_stored_l0 k n (x.drop 65535) false a b)
      rw [hl] at e
      have hB':(B++blkB false (x.take 65535)).length=8*out'.length:=by rw [List.length_append,blk_len];omega
      obtain ⟨w2,out2,r1,r2⟩:=ih m (x.drop 65535) false w' out' _ (fun v hv=>hx v (List.mem_of_mem_drop hv)) (by rw [List.length_drop];omega) (by omega) (.inr (by rw [List.length_drop];omega)) q1 hB' (by rw [List.length_drop];omega)
      refine ⟨w2,out2,Eq.trans e r1,?_⟩
      show Wr w2 out2 (B++(if x.length≤65535 then blkB true x else blkB false (x.take 65535)++storedB m (x.drop 65535)))
      rw [if_neg h,← List.append_assoc];exact r2
theorem stored_ok (k:Nat) (hk:200≤k) (x:List Int) (hx:okB x) (hl:x.length≤1048576):∃ n s,g_deflate_stored k x=some s∧Wr n s (storedB 20 x):=by
  unfold g_deflate_stored g_bits_NewWriter
  simp only [Option.bind_some]
  obtain ⟨w,s,e,h⟩:=stored_l0 k (by omega) k 20 x true 0 [] [] hx (by omega) (by omega) (.inl rfl) Wr.nil rfl (by simp;omega)
  rw [e]
  simp only [Option.bind_some]
  unfold g_bits_Writer_Done g_sc_Clone_byte_byte
  rw [List.nil_append] at h
  have hsl:=h.l
  have hbl:∀ (m:Nat) (x:List Int),(storedB m x).length≤8*(5*m+x.length):=by
    intro m
    induction m with
    | zero=>intro x;simp [storedB]
    | succ m ih =>
      intro x
      unfold storedB
      split
      · rw [blk_len];omega
      · rw [List.length_append,blk_len]
        have:=ih (x.drop 65535)
        rw [List.length_drop] at this
        rw [List.length_take];omega
  have:=hbl 20 x
  rw [bd,if_pos (by simp;omega)]
  exact ⟨w,s,rfl,h⟩
def okLit (i:Nat):Bool:=match g_deflate_lit 40 ((i+3:Nat):Int) with
  | some (s,v,e)=>decide (257≤s∧s≤285∧0≤v∧v<2^e.toNat∧0≤e∧e≤5)
  | none=>false
theorem okLits:∀ i:Fin 256,okLit i.val=true:=by decide +kernel
theorem lit_ok (k:Nat) (hk:40≤k) (n:Nat) (h1:3≤n) (h2:n≤258):∃ s v e:Nat,g_deflate_lit k (n:Int)=some ((s:Int),(v:Int),(e:Int))∧g_deflate_lit 40 (n:Int)=some ((s:Int),(v:Int),(e:Int))∧257≤s∧s≤285∧v<2^e∧e≤5:=by
  have h:=okLits ⟨n - 3,by omega⟩
  unfold okLit at h
  simp only [show n - 3+3=n by omega] at h
  cases hg:g_deflate_lit 40 (n:Int) with
  | none=>rw [hg] at h;cases h
  | some p =>
    obtain ⟨s,v,e⟩:=p
    rw [hg] at h
    have h:=of_decide_eq_true h
    obtain ⟨q1,q2,q3,q4,q5,q6⟩:=h
    obtain ⟨s,rfl⟩:∃ m:Nat,s=(m:Int):=⟨s.toNat,by omega⟩
    obtain ⟨v,rfl⟩:∃ m:Nat,v=(m:Int):=⟨v.toNat,by omega⟩
    obtain ⟨e,rfl⟩:∃ m:Nat,e=(m:Int):=⟨e.toNat,by omega⟩
    refine ⟨s,v,e,(g_deflate_lit_mono hk).h _ hg,rfl,by omega,by omega,?_,by omega⟩
    rw [Int.toNat_natCast] at q4
    have:((2^e:Nat):Int)=(2:Int)^e:=by simp
    omega
def bD (s:Nat):Nat:=if s<4 then s+1 else (2+s%2)*2^(s / 2 - 1)+1
def eD (s:Nat):Nat:=if s<4 then 0 else s / 2 - 1
theorem distT0:∀ s:Fin 30,g_inflate_Dist 0 ((s.val:Nat):Int)=some (((bD s.val:Nat):Int),((eD s.val:Nat):Int),true):=by decide +kernel
theorem distT (k:Nat) {s:Nat} (h:s<30):g_inflate_Dist k (s:Int)=some (((bD s:Nat):Int),((eD s:Nat):Int),true):=distT0 ⟨s,h⟩
theorem bD_next:∀ s:Fin 29,bD (s.val+1)=bD s.val+2^eD s.val:=by decide +kernel
theorem bD_le:∀ s:Fin 30,bD s.val≤24577∧1≤bD s.val∧eD s.val≤13:=by decide +kernel
theorem dist_l0 (k d:Nat) (hd:d≤32768):∀ (s n:Nat),s<30→s<n →
    (∃ t:Nat,g_deflate_symbol__b_l0 k 0 (d:Int) n (s:Int)=some (Sum.inl ((t:Int),((d - bD t:Nat):Int),((eD t:Nat):Int)))∧1≤t∧t≤s∧bD t≤d∧(t<s→d<bD (t+1))) ∨
    (g_deflate_symbol__b_l0 k 0 (d:Int) n (s:Int)=some (Sum.inr ())∧(0<s→d<bD 1)):=by
  intro s
  induction s with
  | zero =>
    intro n _ hn
    obtain ⟨n,rfl⟩:∃ j,n=j+1:=⟨n - 1,by omega⟩
    refine .inr ⟨?_,fun h=>by omega⟩
    rw [g_deflate_symbol__b_l0.eq_2,bd,if_neg (by omega)]
  | succ s ih =>
    intro n hs hn
    obtain ⟨n,rfl⟩:∃ j,n=j+1:=⟨n - 1,by omega⟩
    rw [g_deflate_symbol__b_l0.eq_2]
    simp only [bd]
    rw [if_pos (by omega),distT k hs]
    simp only [Option.bind_some]
    have hb:=bD_le ⟨s+1,hs⟩
    simp only at hb
    by_cases h:bD (s+1)≤d
    · rw [if_pos (by omega),wi (by omega) (by omega),show (d:Int) - ((bD (s+1):Nat):Int)=((d - bD (s+1):Nat):Int) by omega]
      exact .inl ⟨s+1,rfl,by omega,Nat.le_refl _,h,fun h=>by omega⟩
    · rw [if_neg (by omega),wi (by omega) (by omega),show (((s+1:Nat):Int)) - 1=(s:Int) by omega]
      rcases ih n (by omega) (by omega) with ⟨t,e1,e2,e3,e4,e5⟩ | ⟨e1,e2⟩
      · refine .inl ⟨t,e1,e2,by omega,e4,fun h'=>?_⟩
        by_cases hts:t<s
        · exact e5 hts
        · have:t=s:=by omega
          subst this;omega
      · refine .inr ⟨e1,fun _=>?_⟩
        by_cases h0:0<s
        · exact e2 h0
        · have:s=0:=by omega
          subst this;exact Nat.lt_of_not_le h
theorem dist_ok (k:Nat) (hk:40≤k) (d:Nat) (h1:1≤d) (h2:d≤32768):∃ t:Nat,g_deflate_dist k (d:Int)=some ((t:Int),((d - bD t:Nat):Int),((eD t:Nat):Int))∧t<30∧bD t≤d∧d - bD t<2^eD t∧eD t≤13∧(t<29→d<bD (t+1)):=by
  unfold g_deflate_dist g_deflate_symbol__b
  have fin:∀ t:Nat,t<30→bD t≤d→(t<29→d<bD (t+1))→d - bD t<2^eD t∧eD t≤13:=by
    intro t ht hb hn
    refine ⟨?_,(bD_le ⟨t,ht⟩).2.2⟩
    by_cases h:t<29
    · have:=bD_next ⟨t,h⟩
      simp only at this
      have:=hn h
      omega
    · have:t=29:=by omega
      subst this
      have e1:bD 29=24577:=by decide
      have e2:2^eD 29=8192:=by decide
      omega
  rcases dist_l0 k d h2 29 k (by decide) (by omega) with ⟨t,e1,e2,e3,e4,e5⟩ | ⟨e1,e2⟩
  · rw [show (29:Int)=((29:Nat):Int) from rfl,e1]
    obtain ⟨f1,f2⟩:=fin t (by omega) e4 e5
    exact ⟨t,rfl,by omega,e4,f1,f2,e5⟩
  · have hd1:d<bD 1:=e2 (by decide)
    have hb0:bD 0=1:=rfl
    rw [show (29:Int)=((29:Nat):Int) from rfl,e1]
    simp only [Option.bind_some]
    rw [show (0:Int)=((0:Nat):Int) from rfl,distT k (by decide)]
    simp only [Option.bind_some]
    rw [wi (by omega) (by omega),show (d:Int) - ((bD 0:Nat):Int)=((d - bD 0:Nat):Int) by omega]
    obtain ⟨f1,f2⟩:=fin 0 (by decide) (by omega) (fun _=>hd1)
    exact ⟨0,rfl,by decide,by omega,f1,f2,fun _=>hd1⟩
def Us (l:List Int) (s:Nat):Prop:=s<l.length∧0<l.getD s 0
def codeB (l:List Int) (s:Nat):List Bool:=cb (cd l s) (l.getD s 0).toNat
theorem len15 {l:List Int} (h:(judge l).2=0) (s:Nat):(l.getD s 0).toNat≤15:=by
  obtain ⟨hl,hb,hk⟩:=judge_ok h
  by_cases hs:s<l.length
  · have e:l.getD s 0=l[s]:=by simp [List.getD_eq_getElem?_getD,List.getElem?_eq_getElem hs]
    have:¬ badX l[s]:=fun q=>hb ⟨_,List.getElem_mem hs,q⟩
    unfold badX at this
    rw [e];omega
  · have e:l.getD s 0=0:=by simp [List.getD_eq_getElem?_getD,List.getElem?_eq_none (Nat.le_of_not_lt hs)]
    rw [e];decide
theorem cd_small {l:List Int} (h:(judge l).2=0) {s:Nat} (hu:Us l s):cd l s≤32768:=by
  obtain ⟨hl,hb,hk⟩:=judge_ok h
  have hs:sr l 16≤32768:=by
    have:=sr_all hb
    have h16:=(sumW_le hb).2
    rcases hk with q | q | q
    · omega
    · have:∀ l:List Int,¬ badL l→cntL l=0→sumW l=0:=by
        intro l
        induction l with
        | nil=>intro _ _;rfl
        | cons x l ih =>
          intro hb h0
          rw [badL_cons,not_or] at hb
          have h1:=there_le x
          have h2:=cntL_le l
          simp only [cntL] at h0
          have:=ih hb.2 (by omega)
          simp only [sumW,this]
          unfold wt
          unfold there at h0 h1
          split
          · rename_i hx;rw [if_pos hx] at h0;omega
          · rfl
      have:=this l hb q
      omega
    · omega
  have h15:=len15 h s
  have:=hf_small hs (c:=(l.getD s 0).toNat) (by have:=hu.2;omega) h15
  unfold cd
  have hc:(l.take s).count (l.getD s 0)≤cn l (l.getD s 0).toNat:=by
    have:=count_take_le l s (l.getD s 0)
    unfold cn
    rw [show (((l.getD s 0).toNat:Nat):Int)=l.getD s 0 by have:=hu.2;omega]
    exact this
  omega
theorem code_ix {k:Nat} {l:List Int} (h:(judge l).2=0) {s:Nat} (hu:Us l s):ix (codesL l).1 (s:Int)=some ((cd l s:Nat):Int)∧ix l (s:Int)=some (((l.getD s 0).toNat:Nat):Int):=by
  have e:l.getD s 0=l[s]'hu.1:=by simp [List.getD_eq_getElem?_getD,List.getElem?_eq_getElem hu.1]
  have h0:0<l[s]'hu.1:=by rw [← e];exact hu.2
  have:=codesL_get h hu.1 h0
  refine ⟨by simp [ix,this],?_⟩
  rw [ix_nat hu.1]
  congr 1;omega
theorem put_sym {k:Nat} (hk:40≤k) {l:List Int} (h:(judge l).2=0) {s:Nat} (hu:Us l s) {n:Int} {b:List Int} {B:List Bool} (hw:Wr n b B) (hB:B.length≤1000000000) :
    ∃ n' b',g_deflate_put k ((cd l s:Nat):Int) (((l.getD s 0).toNat:Nat):Int) n b=some (n',b')∧Wr n' b' (B++codeB l s)∧(codeB l s).length≤15:=by
  have h15:=len15 h s
  have hc:=cd_small h hu
  obtain ⟨n',b',e,w⟩:=put_code hk (v:=cd l s) (c:=(l.getD s 0).toNat) (by omega) (by omega) hw (by omega)
  exact ⟨n',b',e,w,by unfold codeB;rw [cb_length];exact h15⟩
def symL (n:Int):Nat × Nat × Nat:=match g_deflate_lit 40 n with
  | some (s,v,e)=>(s.toNat,v.toNat,e.toNat)
  | none=>(0,0,0)
theorem symL_ok (k:Nat) (hk:40≤k) (n:Nat) (h1:3≤n) (h2:n≤258):g_deflate_lit k (n:Int)=some (((symL n).1:Int),((symL n).2.1:Int),((symL n).2.2:Int))∧257≤(symL n).1∧(symL n).1≤285∧(symL n).2.1<2^(symL n).2.2∧(symL n).2.2≤5:=by
  obtain ⟨s,v,e,q1,q2,q3⟩:=lit_ok k hk n h1 h2
  have:symL n=(s,v,e):=by unfold symL;rw [q2];simp
  rw [this];exact ⟨q1,q3⟩
def symD (n:Int):Nat:=match g_deflate_dist 40 n with
  | some (s,_,_)=>s.toNat
  | none=>0
theorem symD_ok (k:Nat) (hk:40≤k) (d:Nat) (h1:1≤d) (h2:d≤32768):g_deflate_dist k (d:Int)=some ((symD d:Int),((d - bD (symD d):Nat):Int),((eD (symD d):Nat):Int))∧symD d<30∧bD (symD d)≤d∧d - bD (symD d)<2^eD (symD d)∧eD (symD d)≤13:=by
  obtain ⟨t0,p1,p2⟩:=dist_ok 40 (by decide) d h1 h2
  have hs:symD d=t0:=by unfold symD;rw [p1];simp
  obtain ⟨t,q1,q2,q3,q4,q5,q6⟩:=dist_ok k hk d h1 h2
  have:t=t0:=by
    have:=(g_deflate_dist_mono (k:=40) (k':=k) hk).h _ p1
    rw [q1] at this
    have:=Option.some.inj this
    have:=(Prod.mk.inj this).1
    omega
  subst this
  rw [hs];exact ⟨q1,q2,q3,q4,q5⟩
def OkI (ll dl:List Int) (x:It):Prop:=(∃ c:Nat,x=⟨c,0,0⟩∧c≤255∧Us ll c)∨∃ n d:Nat,x=⟨0,n,d⟩∧3≤n∧n≤258∧1≤d∧d≤32768∧Us ll (symL n).1∧Us dl (symD d)
def itB (ll dl:List Int) (x:It):List Bool :=
  if x.fLen=0 then codeB ll x.fByte.toNat else codeB ll (symL x.fLen).1++(vb (symL x.fLen).2.1 (symL x.fLen).2.2++(codeB dl (symD x.fDist)++vb (x.fDist.toNat - bD (symD x.fDist)) (eD (symD x.fDist))))
theorem all_l0 (k:Nat) (hk:400≤k) (ll dl:List Int) (hll:(judge ll).2=0) (hdl:(judge dl).2=0):∀ (n:Nat) (dn l:List It) (w:Int) (b:List Int) (B:List Bool),l.length<n→(∀ x∈l,OkI ll dl x)→dn.length+l.length≤10000000→Wr w b B→B.length+48*l.length≤1000000000 →
    ∃ w' b',g_deflate_coder_all_l0 k (dn++l) ll dl (codesL ll).1 (codesL dl).1 n (dn.length:Int) w b=some (w',b')∧Wr w' b' (B++l.flatMap (itB ll dl))∧(l.flatMap (itB ll dl)).length≤48*l.length:=by
  intro n
  induction n with
  | zero=>intro dn l w b B h;omega
  | succ n ih =>
    intro dn l w b B hn hl hd hw hB
    rw [g_deflate_coder_all_l0.eq_2]
    simp only [bd,Option.bind_some]
    cases l with
    | nil=>rw [if_neg (by simp)];exact ⟨w,b,rfl,by simpa using hw,by simp⟩
    | cons x l =>
      simp only [List.length_cons] at hn hd hB
      have hx:ix (dn++x::l) (dn.length:Int)=some x:=by rw [ix_nat (by simp)];simp
      rw [if_pos (by simp;omega),hx]
      simp only [Option.bind_some]
      have key:∃ w1 b1,(if x.fLen=0 then ((ix (codesL ll).1 x.fByte).bind fun x5096=>((ix ll x.fByte).bind fun x5097=>((g_deflate_put k x5096 x5097 w b).bind fun (x5099,x5100)=>some (x5099,x5100)))) else ((g_deflate_lit k x.fLen).bind fun (x5102,x5103,x5104)=>((ix (codesL ll).1 x5102).bind fun x5110=>((ix ll x5102).bind fun x5111=>((g_deflate_put k x5110 x5111 w b).bind fun (x5113,x5114)=>((g_bits_Writer_Put__b k (IntKind.wrap .u32 x5103) x5104 x5113 x5114).bind fun (x5116,x5117,x5118)=>((g_deflate_dist k x.fDist).bind fun (x5120,x5121,x5122)=>((ix (codesL dl).1 x5120).bind fun x5128=>((ix dl x5120).bind fun x5129=>((g_deflate_put k x5128 x5129 x5117 x5118).bind fun (x5131,x5132)=>((g_bits_Writer_Put__b k (IntKind.wrap .u32 x5121) x5122 x5131 x5132).bind fun (x5134,x5135,x5136)=>some (x5135,x5136))))))))))))=some (w1,b1)∧Wr w1 b1 (B++itB ll dl x)∧(itB ll dl x).length≤48:=by
        rcases hl x (by simp) with ⟨c,rfl,hc,hu⟩ | ⟨m,d,rfl,h1,h2,h3,h4,hu,hv⟩
        · rw [if_pos rfl]
          obtain ⟨c1,c2⟩:=code_ix (k:=k) hll hu
          rw [show (⟨(c:Int),0,0⟩:It).fByte=(c:Int) from rfl,c1,c2]
          simp only [Option.bind_some]
          obtain ⟨w1,b1,e,q,q2⟩:=put_sym (k:=k) (by omega) hll hu hw (by omega)
          rw [e]
          have hit:itB ll dl ⟨(c:Int),0,0⟩=codeB ll c:=by unfold itB;rw [if_pos rfl,Int.toNat_natCast]
          exact ⟨w1,b1,rfl,by rw [hit];exact q,by rw [hit];omega⟩
        · have hm:¬ ((⟨0,(m:Int),(d:Int)⟩:It).fLen=0):=by show ¬ ((m:Int)=0);omega
          rw [if_neg hm]
          obtain ⟨s1,s2,s3,s4,s5⟩:=symL_ok k (by omega) m h1 h2
          obtain ⟨t1,t2,t3,t4,t5⟩:=symD_ok k (by omega) d h3 h4
          rw [show (⟨0,(m:Int),(d:Int)⟩:It).fLen=(m:Int) from rfl,show (⟨0,(m:Int),(d:Int)⟩:It).fDist=(d:Int) from rfl,s1,t1]
          simp only [Option.bind_some]
          obtain ⟨c1,c2⟩:=code_ix (k:=k) hll hu
          obtain ⟨c3,c4⟩:=code_ix (k:=k) hdl hv
          rw [c1,c2]
          simp only [Option.bind_some]
          obtain ⟨w1,b1,e1,q1,p1⟩:=put_sym (k:=k) (by omega) hll hu hw (by omega)
          rw [e1]
          simp only [Option.bind_some]
          have b5:2^(symL (m:Int)).2.2≤2^5:=Nat.pow_le_pow_right (by decide) s5
          have b13:2^eD (symD (d:Int))≤2^13:=Nat.pow_le_pow_right (by decide) t5
          rw [wu32 (show (symL (m:Int)).2.1<4294967296 by omega)]
          obtain ⟨w2,b2,e2,q2⟩:=putv (show 40≤k by omega) (v:=(symL (m:Int)).2.1) (c:=(symL (m:Int)).2.2) (by omega) (by omega) q1 (by rw [List.length_append];omega)
          rw [e2]
          simp only [Option.bind_some]
          rw [c3,c4]
          simp only [Option.bind_some]
          obtain ⟨w3,b3,e3,q3,p3⟩:=put_sym (k:=k) (by omega) hdl hv q2 (by rw [List.length_append,List.length_append,vb_length];omega)
          rw [e3]
          simp only [Option.bind_some]
          rw [wu32 (show d - bD (symD (d:Int))<4294967296 by omega)]
          obtain ⟨w4,b4,e4,q4⟩:=putv (show 40≤k by omega) (v:=d - bD (symD (d:Int))) (c:=eD (symD (d:Int))) (by omega) (by omega) q3 (by rw [List.length_append,List.length_append,List.length_append,vb_length];omega)
          rw [e4]
          have hit:itB ll dl ⟨0,(m:Int),(d:Int)⟩=codeB ll (symL m).1++(vb (symL m).2.1 (symL m).2.2++(codeB dl (symD d)++vb (d - bD (symD d)) (eD (symD d)))):=by
            unfold itB;rw [if_neg hm];rfl
          refine ⟨w4,b4,rfl,?_,?_⟩
          · rw [hit]
            simpa [List.append_assoc] using q4
          · rw [hit];simp only [List.length_append,vb_length];omega
      obtain ⟨w1,b1,e1,q1,p1⟩:=key
      refine Exists.imp (fun w'=>Exists.imp fun b'=>fun h=>?_) (ih (dn++[x]) l w1 b1 (B++itB ll dl x) (by omega) (fun y hy=>hl y (by simp [hy])) (by simp;omega) q1 (by rw [List.length_append];omega))
      obtain ⟨h1,h2,h3⟩:=h
      refine ⟨?_,?_,?_⟩
      · rw [← h1,e1]
        simp only [Option.bind_some]
        rw [wi (by omega) (by omega)]
        congr 1
        · simp
        · simp
      · rw [List.flatMap_cons,← List.append_assoc];exact h2
      · rw [List.flatMap_cons,List.length_append,List.length_cons];omega
theorem all_ok (k:Nat) (ll dl:List Int) (hll:(judge ll).2=0) (hdl:(judge dl).2=0) (l:List It) (hk:l.length+400≤k) (hl:∀ x∈l,OkI ll dl x) (hu:Us ll 256) (hn:l.length≤1048576) {w:Int} {b:List Int} {B:List Bool} (hw:Wr w b B) (hB:B.length≤1000000) :
    ∃ w' b',g_deflate_coder_all k l ll dl (codesL ll).1 (codesL dl).1 w b=some (w',b')∧Wr w' b' (B++(l.flatMap (itB ll dl)++codeB ll 256))∧(l.flatMap (itB ll dl)++codeB ll 256).length≤48*l.length+15:=by
  unfold g_deflate_coder_all
  obtain ⟨w1,b1,e1,q1,p1⟩:=all_l0 k (by omega) ll dl hll hdl k [] l w b B (by omega) hl (by simp;omega) hw (by omega)
  rw [List.nil_append,show (([]:List It).length:Int)=0 from rfl] at e1
  rw [e1]
  simp only [Option.bind_some]
  obtain ⟨c1,c2⟩:=code_ix (k:=k) hll hu
  rw [show (256:Int)=((256:Nat):Int) from rfl,c1,c2]
  simp only [Option.bind_some]
  obtain ⟨w2,b2,e2,q2,p2⟩:=put_sym (k:=k) (by omega) hll hu q1 (by rw [List.length_append];omega)
  rw [e2]
  exact ⟨w2,b2,rfl,by rw [← List.append_assoc];exact q2,by rw [List.length_append];omega⟩
def lfix:List Int:=List.replicate 144 8++List.replicate 112 9++List.replicate 24 7++List.replicate 8 8
def dfix:List Int:=List.replicate 32 5
theorem fixedLit0:g_inflate_FixedLit 300=some lfix:=by decide +kernel
theorem fixedDist0:g_inflate_FixedDist 300=some dfix:=by decide +kernel
theorem fixedLit (n:Nat):g_inflate_FixedLit (n+300)=some lfix:=(g_inflate_FixedLit_mono (k:=300) (Nat.le_add_left _ _)).h _ fixedLit0
theorem fixedDist (n:Nat):g_inflate_FixedDist (n+300)=some dfix:=(g_inflate_FixedDist_mono (k:=300) (Nat.le_add_left _ _)).h _ fixedDist0
theorem lfix_len:lfix.length=288:=by decide +kernel
theorem dfix_len:dfix.length=32:=by decide +kernel
theorem lfix_judge:(judge lfix).2=0:=by decide +kernel
theorem dfix_judge:(judge dfix).2=0:=by decide +kernel
theorem lfix_us0:∀ s:Fin 286,0<lfix.getD s.val 0:=by decide +kernel
theorem dfix_us0:∀ s:Fin 30,0<dfix.getD s.val 0:=by decide +kernel
theorem lfix_us {s:Nat} (h:s≤285):Us lfix s:=⟨by rw [lfix_len];omega,lfix_us0 ⟨s,by omega⟩⟩
theorem dfix_us {s:Nat} (h:s<30):Us dfix s:=⟨by rw [dfix_len];omega,dfix_us0 ⟨s,h⟩⟩
theorem pi_ok {b:List Int} (hB:Bytes b) {ll dl:List Int} (hl:∀ s,s≤285→Us ll s) (hd:∀ s,s<30→Us dl s):∀ {l:List It} {at_:Nat},PI b at_ l→∀ x∈l,OkI ll dl x
  | [],_,_,x,hx=>by simp at hx
  | y::l,at_,h,x,hx=>by
    rcases h with ⟨h1,rfl,_,h3⟩ | ⟨n,d,h1,rfl,h2,h3⟩
    · rcases List.mem_cons.1 hx with e | e
      · subst e
        have hb:=by_rng hB at_
        obtain ⟨c,hc⟩:∃ c:Nat,byA b at_=(c:Int):=⟨(byA b at_).toNat,by omega⟩
        exact .inl ⟨c,by rw [hc],by omega,hl c (by omega)⟩
      · exact pi_ok hB hl hd h3 x e
    · rcases List.mem_cons.1 hx with e | e
      · subst e
        obtain ⟨c1,c2,c3,c4,c5,c6⟩:=h2
        exact .inr ⟨n,d,rfl,h1,c1,c3,c5,hl _ (symL_ok 40 (by decide) n h1 c1).2.2.1,hd _ (symD_ok 40 (by decide) d c3 c5).2.1⟩
      · exact pi_ok hB hl hd h3 x e
theorem done_ok {k:Nat} {n:Int} {b:List Int} {B:List Bool} (hw:Wr n b B) (hB:B.length≤1000000000):g_bits_Writer_Done k n b=some b:=by
  unfold g_bits_Writer_Done g_sc_Clone_byte_byte
  have:=hw.l
  rw [bd,if_pos (by simp;omega)];rfl
theorem coded_ok {k:Nat} (hk:330≤k) (ll dl:List Int) (n:Int) (b:List Int):g_deflate_coded k ll dl n b=some ((codesL ll).1,(codesL dl).1):=by
  unfold g_deflate_coded
  rw [g_huff_Codes_eq hk,g_huff_Codes_eq hk];rfl
def fixedB (l:List It):List Bool:=[true,true,false]++(l.flatMap (itB lfix dfix)++codeB lfix 256)
theorem fixed_ok (k:Nat) (l:List It) (hk:l.length+700≤k) (hl:∀ x∈l,OkI lfix dfix x) (hn:l.length≤1048576):∃ n s,g_deflate_fixed k l=some s∧Wr n s (fixedB l):=by
  obtain ⟨m,rfl⟩:∃ m,k=m+300:=⟨k - 300,by omega⟩
  unfold g_deflate_fixed g_bits_NewWriter
  simp only [Option.bind_some]
  rw [put_same]
  obtain ⟨n1,b1,e1,w1⟩:=putv (show 40≤m+300 by omega) (v:=3) (c:=3) (by decide) (by decide) Wr.nil (by decide)
  rw [show (3:Int)=((3:Nat):Int) from rfl,e1]
  simp only [Option.bind_some]
  rw [fixedLit,fixedDist]
  simp only [Option.bind_some]
  rw [coded_ok (by omega)]
  simp only [Option.bind_some]
  obtain ⟨n2,b2,e2,w2,p2⟩:=all_ok (m+300) lfix dfix lfix_judge dfix_judge l (by omega) hl (lfix_us (by decide)) hn w1 (by decide)
  rw [e2]
  simp only [Option.bind_some]
  have hw:Wr n2 b2 (fixedB l):=w2
  rw [done_ok hw (by unfold fixedB;rw [List.length_append];simp only [List.length_cons,List.length_nil];omega)]
  exact ⟨n2,b2,rfl,hw⟩
end Go.Proofs.Ytmmeanjjfhimjaa.W
namespace Go.Proofs.Ytmmeanjjfhimjaa.W
open Go Go.Q Go.Proofs Go.Proofs.Ytmmeanjjfhimjaa.HB
set_option linter.unusedVariables false
set_option linter.unusedSimpArgs false
def RgI (x:It):Prop:=(∃ c:Nat,x=⟨c,0,0⟩∧c≤255)∨∃ n d:Nat,x=⟨0,n,d⟩∧3≤n∧n≤258∧1≤d∧d≤32768
theorem pi_rg {b:List Int} (hB:Bytes b):∀ {l:List It} {at_:Nat},PI b at_ l→∀ x∈l,RgI x
  | [],_,_,x,hx=>by simp at hx
  | y::l,at_,h,x,hx=>by
    rcases h with ⟨h1,rfl,_,h3⟩ | ⟨n,d,h1,rfl,h2,h3⟩
    · rcases List.mem_cons.1 hx with e | e
      · subst e
        have hb:=by_rng hB at_
        obtain ⟨c,hc⟩:∃ c:Nat,byA b at_=(c:Int):=⟨(byA b at_).toNat,by omega⟩
        exact .inl ⟨c,by rw [hc],by omega⟩
      · exact pi_rg hB h3 x e
    · rcases List.mem_cons.1 hx with e | e
      · subst e
        obtain ⟨c1,c2,c3,c4,c5,c6⟩:=h2
        exact .inr ⟨n,d,rfl,h1,c1,c3,c5⟩
      · exact pi_rg hB h3 x e
def sL (x:It):List Int:=if x.fLen=0 then [x.fByte] else [((symL x.fLen).1:Int)]
def sD (x:It):List Int:=if x.fLen=0 then [] else [((symD x.fDist:Nat):Int)]
theorem dyn_l0 (k:Nat) (hk:400≤k):∀ (n:Nat) (dn l:List It) (A D:List Int),l.length<n→(∀ x∈l,RgI x)→dn.length+l.length≤10000000→A.length+l.length≤10000000→D.length+l.length≤10000000 →
    g_deflate_dynamic_l0 k (dn++l) n (dn.length:Int) (outOf 286 A) (outOf 30 D)=some (outOf 286 (A++l.flatMap sL),outOf 30 (D++l.flatMap sD)):=by
  intro n
  induction n with
  | zero=>intro dn l A D h;omega
  | succ n ih =>
    intro dn l A D hn hl hd hA hD
    rw [g_deflate_dynamic_l0.eq_2]
    simp only [bd,Option.bind_some]
    cases l with
    | nil=>rw [if_neg (by simp)];simp
    | cons x l =>
      simp only [List.length_cons] at hn hd hA hD
      have hx:ix (dn++x::l) (dn.length:Int)=some x:=by rw [ix_nat (by simp)];simp
      rw [if_pos (by simp;omega),hx]
      simp only [Option.bind_some]
      have tick:∀ (N:Nat) (L:List Int) (s:Nat),s<N→L.length≤10000000→ix (outOf N L) (s:Int)=some ((L.count (s:Int):Nat):Int)∧List.set (outOf N L) (Int.toNat (s:Int)) (IntKind.wrap .i64 (((L.count (s:Int):Nat):Int)+1))=outOf N (L++[(s:Int)]):=by
        intro N L s hs hL
        have hcnt:L.count (s:Int)≤L.length:=List.count_le_length
        refine ⟨by rw [ix_nat (by rw [outOf_len];exact hs),outOf_get hs],?_⟩
        rw [wi (by omega) (by omega)]
        exact outOf_set (by omega) (by omega)
      rcases hl x (by simp) with ⟨c,rfl,hc⟩ | ⟨m,d,rfl,h1,h2,h3,h4⟩
      · rw [if_pos rfl]
        obtain ⟨t1,t2⟩:=tick 286 A c (by omega) (by omega)
        rw [show (⟨(c:Int),0,0⟩:It).fByte=(c:Int) from rfl,t1]
        simp only [Option.bind_some]
        rw [t2,wi (by omega) (by omega)]
        have:=ih (dn++[⟨(c:Int),0,0⟩]) l (A++[(c:Int)]) D (by omega) (fun y hy=>hl y (by simp [hy])) (by simp;omega) (by simp;omega) (by omega)
        rw [show (dn.length:Int)+1=((dn++[(⟨(c:Int),0,0⟩:It)]).length:Int) by simp,show dn++(⟨(c:Int),0,0⟩:It)::l=(dn++[⟨(c:Int),0,0⟩])++l by simp,this,List.flatMap_cons,List.flatMap_cons,
          show sL ⟨(c:Int),0,0⟩=[(c:Int)] from rfl,show sD ⟨(c:Int),0,0⟩=[] from rfl,List.append_assoc,List.nil_append]
      · have hm:¬ ((⟨0,(m:Int),(d:Int)⟩:It).fLen=0):=by show ¬ ((m:Int)=0);omega
        rw [if_neg hm]
        obtain ⟨s1,s2,s3,s4,s5⟩:=symL_ok k (by omega) m h1 h2
        obtain ⟨q1,q2,q3,q4,q5⟩:=symD_ok k (by omega) d h3 h4
        rw [show (⟨0,(m:Int),(d:Int)⟩:It).fLen=(m:Int) from rfl,show (⟨0,(m:Int),(d:Int)⟩:It).fDist=(d:Int) from rfl,s1,q1]
        simp only [Option.bind_some]
        obtain ⟨t1,t2⟩:=tick 286 A (symL m).1 (by omega) (by omega)
        obtain ⟨t3,t4⟩:=tick 30 D (symD d) (by omega) (by omega)
        rw [t1,t3]
        simp only [Option.bind_some]
        rw [t2,t4,wi (by omega) (by omega)]
        have:=ih (dn++[⟨0,(m:Int),(d:Int)⟩]) l (A++[((symL m).1:Int)]) (D++[((symD d:Nat):Int)]) (by omega) (fun y hy=>hl y (by simp [hy])) (by simp;omega) (by simp;omega) (by simp;omega)
        rw [show (dn.length:Int)+1=((dn++[(⟨0,(m:Int),(d:Int)⟩:It)]).length:Int) by simp,show dn++(⟨0,(m:Int),(d:Int)⟩:It)::l=(dn++[⟨0,(m:Int),(d:Int)⟩])++l by simp,this,List.flatMap_cons,List.flatMap_cons,
          show sL ⟨0,(m:Int),(d:Int)⟩=[((symL m).1:Int)] from by unfold sL;rw [if_neg hm],show sD ⟨0,(m:Int),(d:Int)⟩=[((symD d:Nat):Int)] from by unfold sD;rw [if_neg hm],List.append_assoc,List.append_assoc]
theorem out_sums {x I:List Int} (hc:∀ s,I.count s≤15) (h1:∀ i (h:i<x.length),0<x[i]→1≤I.count (i:Int)) (h0:∀ i (h:i<x.length),¬ 0<x[i]→I.count (i:Int)=0):∀ (n i:Nat),x.length - i≤n →
    sumW ((outOf x.length I).drop i)=((((symsF (x.drop i) i).map fun s=>2^(15 - I.count s)).sum:Nat):Int)∧cntL ((outOf x.length I).drop i)=(((symsF (x.drop i) i).length:Nat):Int):=by
  intro n
  induction n with
  | zero=>intro i h;rw [List.drop_of_length_le (by rw [outOf_len];omega),List.drop_of_length_le (by omega)];exact ⟨rfl,rfl⟩
  | succ n ih =>
    intro i hi
    by_cases h:i<x.length
    · obtain ⟨e1,e2⟩:=ih (i+1) (by omega)
      rw [List.drop_eq_getElem_cons (by rw [outOf_len];exact h),outOf_get h,List.drop_eq_getElem_cons h,symsF_cons]
      simp only [sumW,cntL]
      rw [e1,e2]
      by_cases hf:0<x[i]
      · have:=h1 i h hf
        rw [if_pos hf]
        unfold wt there
        rw [if_pos (by omega),if_pos (by omega),Int.toNat_natCast]
        simp only [List.map_cons,List.sum_cons,List.length_cons]
        refine ⟨by rw [Int.natCast_add];simp,by omega⟩
      · have:=h0 i h hf
        rw [if_neg hf]
        unfold wt there
        rw [if_neg (by omega),if_neg (by omega)]
        exact ⟨by omega,by omega⟩
    · rw [List.drop_of_length_le (by rw [outOf_len];omega),List.drop_of_length_le (by omega)];exact ⟨rfl,rfl⟩
theorem lens_judge {x:List Int} (m:Nat) (hm:1≤m) (hm2:m≤15) (hx:x.length≤320) (h3:(coinsF x 0).length≤2^m):(judge (outOf x.length (itemsR x m))).2=0∧(2≤(symsF x 0).length→(judge (outOf x.length (itemsR x m))).1=true) ∧
    (∀ s (h:s<x.length),0<x[s]→Us (outOf x.length (itemsR x m)) s)∧(∀ s,(outOf x.length (itemsR x m)).getD s 0≤m)∧(∀ s,0≤(outOf x.length (itemsR x m)).getD s 0):=by
  obtain ⟨i1,i2,i3,i4⟩:=items_ok0 x m hm hm2 h3
  have hh1:∀ i (h:i<x.length),0<x[i]→1≤(itemsR x m).count (i:Int):=fun i h hf=>i2 _ ((symsF_in x 0 _).2 ⟨i,rfl,by omega,by omega,by simpa [List.getD_eq_getElem?_getD,List.getElem?_eq_getElem h] using hf⟩)
  have hh0:∀ i (h:i<x.length),¬ 0<x[i]→(itemsR x m).count (i:Int)=0:=fun i h hf=>i3 _ fun q=>by
    obtain ⟨j,e,_,_,q⟩:=(symsF_in x 0 _).1 q
    obtain rfl:i=j:=by omega
    exact hf (by simpa [List.getD_eq_getElem?_getD,List.getElem?_eq_getElem h] using q)
  obtain ⟨e1,e2⟩:=out_sums (fun s=>Nat.le_trans (i1 s) hm2) hh1 hh0 x.length 0 (by omega)
  rw [List.drop_zero,List.drop_zero] at e1 e2
  have hg:∀ s,(outOf x.length (itemsR x m)).getD s 0=if s<x.length then (((itemsR x m).count (s:Int):Nat):Int) else 0:=by
    intro s
    by_cases h:s<x.length
    · rw [if_pos h,List.getD_eq_getElem?_getD,List.getElem?_eq_getElem (by rw [outOf_len];exact h)]
      exact outOf_get h
    · rw [if_neg h,List.getD_eq_getElem?_getD,List.getElem?_eq_none (by rw [outOf_len];omega)];rfl
  have hb:¬ badL (outOf x.length (itemsR x m)):=by
    rintro ⟨v,hv,q⟩
    obtain ⟨s,hs,e⟩:=List.mem_iff_getElem.1 hv
    rw [outOf_len] at hs
    rw [outOf_get hs] at e
    have:=i1 (s:Int)
    unfold badX at q
    omega
  refine ⟨?_,fun h2=>?_,fun s h hf=>⟨by rw [outOf_len];exact h,?_⟩,fun s=>?_,fun s=>?_⟩
  · unfold judge
    rw [outOf_len,if_neg (by omega),if_neg hb,e1,e2]
    rcases i4 with q | ⟨q1,q2⟩ | q
    · rw [if_neg (by rw [List.length_eq_zero_iff.1 q];simp only [List.map_nil,List.sum_nil];decide),if_pos (.inl (by omega))]
    · rw [q2,if_neg (by decide),if_pos (.inr ⟨by omega,rfl⟩)]
    · rw [q,if_pos (show (((32768:Nat):Int))=32768 from rfl)]
  · unfold judge
    rw [outOf_len,if_neg (by omega),if_neg hb,e1,e2]
    rcases i4 with q | ⟨q1,q2⟩ | q
    · omega
    · omega
    · rw [q,if_pos (show (((32768:Nat):Int))=32768 from rfl)]
  · rw [hg,if_pos h];have:=hh1 s h hf;omega
  · rw [hg];have:=i1 (s:Int);split <;> omega
  · rw [hg];split <;> omega
theorem shorter_l0 (k:Nat) (L:List Int) (hL:L.length≤100000) (least:Nat):∀ (n m:Nat),m≤L.length→least≤m→m - least<n→(∀ j,m≤j→L.getD j 0=0) →
    ∃ m':Nat,g_deflate_shorter_l0 k (least:Int) n (L.take m)=some (L.take m')∧least≤m'∧m'≤L.length∧∀ j,m'≤j→L.getD j 0=0:=by
  intro n
  induction n with
  | zero=>intro m _ _ h;omega
  | succ n ih =>
    intro m hm hle hn hz
    rw [g_deflate_shorter_l0.eq_2]
    have hl:(L.take m).length=m:=by rw [List.length_take];omega
    simp only [bd,Option.bind_some,hl]
    by_cases h:least<m
    · have hix:ix (L.take m) (IntKind.wrap .i64 ((m:Int) - 1))=some (L.getD (m - 1) 0):=by
        rw [wi (by omega) (by omega),show (m:Int) - 1=((m - 1:Nat):Int) by omega,ix_nat (by rw [hl];omega),List.getElem_take]
        simp [List.getD_eq_getElem?_getD,List.getElem?_eq_getElem (show m - 1<L.length by omega)]
      rw [if_pos (by omega),hix]
      simp only [Option.bind_some]
      by_cases h0:L.getD (m - 1) 0=0
      · rw [dt h0,bt,wi (by omega) (by omega),show (m:Int) - 1=((m - 1:Nat):Int) by omega,if_pos (by omega),Int.toNat_natCast,List.take_take,Nat.min_eq_left (by omega)]
        exact ih (m - 1) (by omega) (by omega) (by omega) fun j hj=>by
          rcases Nat.lt_or_eq_of_le hj with q | q
          · exact hz j (by omega)
          · rw [← q];exact h0
      · rw [df h0]
        exact ⟨m,rfl,hle,hm,hz⟩
    · rw [if_neg (by omega)]
      exact ⟨m,rfl,hle,hm,hz⟩
theorem sumW_zero:∀ {l:List Int},(∀ x∈l,x=0)→sumW l=0∧cntL l=0∧¬ badL l
  | [],_=>⟨rfl,rfl,by simp [badL]⟩
  | x::l,h=>by
    obtain ⟨h1,h2,h3⟩:=sumW_zero (l:=l) fun y hy=>h y (by simp [hy])
    have:=h x (by simp)
    subst this
    refine ⟨by simp only [sumW,h1];rfl,by simp only [cntL,h2];rfl,?_⟩
    rw [badL_cons,not_or];exact ⟨by unfold badX;omega,h3⟩
theorem sumW_app:∀ (a b:List Int),sumW (a++b)=sumW a+sumW b∧cntL (a++b)=cntL a+cntL b∧(badL (a++b)↔badL a∨badL b)
  | [],b=>⟨by simp [sumW],by simp [cntL],by simp [badL]⟩
  | x::a,b=>by
    obtain ⟨h1,h2,h3⟩:=sumW_app a b
    refine ⟨by simp only [List.cons_append,sumW,h1];omega,by simp only [List.cons_append,cntL,h2];omega,?_⟩
    rw [List.cons_append,badL_cons,badL_cons,h3,or_assoc]
theorem judge_take {L:List Int} {m:Nat} (hm:m≤L.length) (hL:L.length≤320) (hz:∀ j,m≤j→L.getD j 0=0):judge (L.take m)=judge L:=by
  obtain ⟨h1,h2,h3⟩:=sumW_app (L.take m) (L.drop m)
  rw [List.take_append_drop] at h1 h2 h3
  obtain ⟨z1,z2,z3⟩:=sumW_zero (l:=L.drop m) fun x hx=>by
    obtain ⟨j,hj,e⟩:=List.mem_iff_getElem.1 hx
    rw [List.length_drop] at hj
    rw [← e,List.getElem_drop]
    have:=hz (m+j) (by omega)
    rw [List.getD_eq_getElem?_getD,List.getElem?_eq_getElem (by omega)] at this
    exact this
  have hb:badL (L.take m)↔badL L:=by rw [h3];exact ⟨.inl,fun q=>q.resolve_right z3⟩
  have c1:¬ 320<(L.take m).length:=by rw [List.length_take];omega
  have c2:¬ 320<L.length:=by omega
  rw [z1,Int.add_zero] at h1
  rw [z2,Int.add_zero] at h2
  unfold judge
  rw [if_neg c1,if_neg c2,← h1,← h2]
  by_cases q:badL L
  · rw [if_pos q,if_pos (hb.2 q)]
  · rw [if_neg q,if_neg (fun w=>q (hb.1 w))]
theorem us_take {L:List Int} {m s:Nat} (hz:∀ j,m≤j→L.getD j 0=0) (h:Us L s):Us (L.take m) s:=by
  have hs:s<m:=Nat.lt_of_not_le fun q=>by have:=hz s q;have:=h.2;omega
  refine ⟨by rw [List.length_take];have:=h.1;omega,?_⟩
  rw [List.getD_eq_getElem?_getD,List.getElem?_take_of_lt hs,← List.getD_eq_getElem?_getD];exact h.2
def pos (l:List Int):Nat:=l.countP fun x=>decide (0<x)
theorem syms_pos:∀ (l:List Int) (i:Nat),(symsF l i).length=pos l
  | [],_=>rfl
  | f::l,i=>by
    rw [symsF_cons]
    unfold pos
    rw [List.countP_cons]
    have:=syms_pos l (i+1)
    unfold pos at this
    by_cases h:0<f
    · rw [if_pos h,List.length_cons,this];simp [h]
    · rw [if_neg h,this];simp [h]
theorem row_l1 (k:Nat) (L:List Int) (hL:L.length≤1000):∀ (n i a:Nat),i≤L.length→L.length - i<n→a≤i→g_deflate_row_l1 k L n (a:Int) (i:Int)=some (((a+pos (L.drop i):Nat):Int)):=by
  intro n
  induction n with
  | zero=>intro i a _ h;omega
  | succ n ih =>
    intro i a hi hn ha
    rw [g_deflate_row_l1.eq_2]
    simp only [bd,Option.bind_some]
    by_cases h:i<L.length
    · rw [if_pos (by omega),ix_nat h,List.drop_eq_getElem_cons h]
      simp only [Option.bind_some]
      unfold pos
      rw [List.countP_cons]
      by_cases hf:0<L[i]
      · rw [if_pos hf,wi (by omega) (by omega),wi (by omega) (by omega),show (a:Int)+1=((a+1:Nat):Int) by omega,show (i:Int)+1=((i+1:Nat):Int) by omega]
        simp only [Option.bind_some]
        rw [ih (i+1) (a+1) (by omega) (by omega) (by omega)]
        unfold pos
        rw [if_pos (by simpa using hf)]
        congr 2;omega
      · rw [if_neg hf,wi (by omega) (by omega),show (i:Int)+1=((i+1:Nat):Int) by omega]
        simp only [Option.bind_some]
        rw [ih (i+1) a (by omega) (by omega) (by omega)]
        unfold pos
        rw [if_neg (by simpa using hf)]
        rfl
    · rw [if_neg (by omega),List.drop_of_length_le (by omega)];rfl
def Ups (L R:List Int):Prop:=R.length=L.length∧∀ j,R.getD j 0=L.getD j 0∨L.getD j 0=0∧R.getD j 0=1
theorem pos2:∀ (L:List Int),0<L.getD 0 0→0<L.getD 1 0→2≤pos L
  | [],h,_=>by simp at h
  | [_],_,h=>by simp at h
  | a::b::L,h1,h2=>by
    have h1:0<a:=by simpa using h1
    have h2:0<b:=by simpa using h2
    unfold pos
    rw [List.countP_cons,List.countP_cons,if_pos (by simpa using h2),if_pos (by simpa using h1)];omega
theorem row_l0 (k:Nat) (hk:100≤k) (L:List Int) (h19:L.length=19) (hnn:∀ j,0≤L.getD j 0):∀ (n s many:Nat) (R:List Int),s≤19→19 - s<n→Ups L R→(many<2→∀ j,j<s→0<R.getD j 0)→(2≤many→2≤pos R) →
    ∃ R',g_deflate_row_l0 k n (s:Int) (many:Int) R=some R'∧Ups L R'∧2≤pos R':=by
  intro n
  induction n with
  | zero=>intro s many R _ h;omega
  | succ n ih =>
    intro s many R hs hn hu h1 h2
    rw [g_deflate_row_l0.eq_2]
    simp only [bd,Option.bind_some]
    have hlen:=hu.1
    by_cases hm:many<2
    · rw [if_pos (by omega)]
      by_cases hs2:s<19
      · rw [dt (by omega)]
        simp only [Option.bind_some,bt]
        have e:=row_l1 k R (by omega) k 0 0 (by omega) (by omega) (by omega)
        rw [List.drop_zero,Nat.zero_add,show ((0:Nat):Int)=0 from rfl] at e
        rw [e]
        simp only [Option.bind_some]
        have hR:ix R (s:Int)=some (R.getD s 0):=by
          rw [ix_nat (by omega)];simp [List.getD_eq_getElem?_getD,List.getElem?_eq_getElem (show s<R.length by omega)]
        have hRn:0≤R.getD s 0:=by rcases hu.2 s with q | q <;> have:=hnn s <;> omega
        by_cases hp:pos R<2
        · rw [if_pos (by omega),hR]
          simp only [Option.bind_some]
          by_cases h0:R.getD s 0=0
          · rw [dt h0]
            simp only [Option.bind_some,bt,Int.toNat_natCast]
            rw [wi (by omega) (by omega),show (s:Int)+1=((s+1:Nat):Int) by omega]
            have hset:∀ j,(R.set s 1).getD j 0=if s=j then 1 else R.getD j 0:=by
              intro j
              rw [List.getD_eq_getElem?_getD,List.getElem?_set]
              by_cases e:s=j
              · rw [if_pos e,if_pos e,if_pos (by omega)];rfl
              · rw [if_neg e,if_neg e,List.getD_eq_getElem?_getD]
            refine ih (s+1) (pos R) (R.set s 1) (by omega) (by omega) ⟨by rw [List.length_set];exact hlen,fun j=>?_⟩ (fun _ j hj=>?_) (fun h=>by omega)
            · rw [hset]
              by_cases e:s=j
              · rw [if_pos e]
                subst e
                rcases hu.2 s with q | q
                · exact .inr ⟨by omega,rfl⟩
                · omega
              · rw [if_neg e];exact hu.2 j
            · rw [hset]
              by_cases e:s=j
              · rw [if_pos e];decide
              · rw [if_neg e];exact h1 hm j (by omega)
          · rw [df h0]
            simp only [Option.bind_some,bf]
            rw [wi (by omega) (by omega),show (s:Int)+1=((s+1:Nat):Int) by omega]
            refine ih (s+1) (pos R) R (by omega) (by omega) hu (fun _ j hj=>?_) (fun h=>by omega)
            by_cases e:s=j
            · subst e;omega
            · exact h1 hm j (by omega)
        · rw [if_neg (by omega)]
          simp only [Option.bind_some,bf]
          rw [wi (by omega) (by omega),show (s:Int)+1=((s+1:Nat):Int) by omega]
          exact ih (s+1) (pos R) R (by omega) (by omega) hu (fun h=>absurd h hp) (fun _=>by omega)
      · rw [df (by omega)]
        exact ⟨R,rfl,hu,pos2 R (h1 hm 0 (by omega)) (h1 hm 1 (by omega))⟩
    · rw [if_neg (by omega)]
      exact ⟨R,rfl,hu,h2 (by omega)⟩
def ordL:List Int:=[16,17,18,0,8,7,9,6,10,5,11,4,12,3,13,2,14,1,15]
theorem ord_rng:∀ i:Fin 19,0≤ordL.getD i.val 0∧ordL.getD i.val 0≤18:=by decide
def clB (L:List Int) (s:Int):List Bool:=vb (L.getD s.toNat 0).toNat 3
theorem dyn_l2 (k:Nat) (hk:100≤k) (L:List Int) (h19:L.length=19) (hr:∀ s,0≤L.getD s 0∧L.getD s 0≤7):∀ (n i:Nat) (w:Int) (b:List Int) (B:List Bool),i≤19→19 - i<n→Wr w b B→B.length≤100000 - 3*(19 - i) →
    ∃ w' b',g_deflate_dynamic_l2 k L n (i:Int) w b=some (w',b')∧Wr w' b' (B++(ordL.drop i).flatMap (clB L)):=by
  intro n
  induction n with
  | zero=>intro i w b B _ h;omega
  | succ n ih =>
    intro i w b B hi hn hw hB
    rw [g_deflate_dynamic_l2.eq_2]
    simp only [bd,Option.bind_some]
    by_cases h:i<19
    · rw [if_pos (by omega),if_pos (by omega),Int.toNat_natCast]
      have ho:=ord_rng ⟨i,h⟩
      simp only at ho
      rw [show ([16,17,18,0,8,7,9,6,10,5,11,4,12,3,13,2,14,1,15]:List Int)=ordL from rfl]
      generalize hx:ordL.getD i 0=x at ho ⊢
      obtain ⟨s,rfl⟩:∃ s:Nat,x=(s:Int):=⟨x.toNat,by omega⟩
      have hix:ix L (s:Int)=some ((((L.getD s 0).toNat:Nat):Int)):=by
        rw [ix_nat (by omega)]
        have:=hr s
        have e:L.getD s 0=L[s]'(by omega):=by simp [List.getD_eq_getElem?_getD,List.getElem?_eq_getElem (show s<L.length by omega)]
        congr 1;omega
      rw [hix]
      simp only [Option.bind_some]
      have:=hr s
      rw [wu32 (by omega)]
      obtain ⟨w1,b1,e1,q1⟩:=putv (show 40≤k by omega) (v:=(L.getD s 0).toNat) (c:=3) (by omega) (by decide) hw (by omega)
      rw [show (3:Int)=((3:Nat):Int) from rfl,e1]
      simp only [Option.bind_some]
      rw [wi (by omega) (by omega),show (i:Int)+1=((i+1:Nat):Int) by omega]
      obtain ⟨w2,b2,e2,q2⟩:=ih (i+1) w1 b1 _ (by omega) (by omega) q1 (by rw [List.length_append,vb_length];omega)
      refine ⟨w2,b2,e2,?_⟩
      have hd:ordL.drop i=(s:Int)::ordL.drop (i+1):=by
        have hl:ordL.length=19:=rfl
        rw [List.drop_eq_getElem_cons (by omega)]
        congr 1
        rw [← hx];simp [List.getD_eq_getElem?_getD,List.getElem?_eq_getElem (show i<ordL.length by omega)]
      rw [hd,List.flatMap_cons,← List.append_assoc]
      exact q2
    · rw [if_neg (by omega)]
      exact ⟨w,b,rfl,by rw [List.drop_of_length_le (by show 19≤i;omega)];simpa using hw⟩
def moreN (s:Int):Nat:=if s=16 then 2 else if s=17 then 3 else if s=18 then 7 else 0
def syB (L:List Int) (q:Int × Int):List Bool:=codeB L q.1.toNat++vb q.2.toNat (moreN q.1)
theorem more_tab:∀ i:Fin 19,([0,0,0,0,0,0,0,0,0,0,0,0,0,0,0,0,2,3,7]:List Int).getD i.val 0=((moreN ((i.val:Nat):Int):Nat):Int):=by decide
theorem dyn_l3 (k:Nat) (hk:400≤k) (L:List Int) (hj:(judge L).2=0) (q:List (Int × Int)) (hq:∀ p∈q,0≤p.1∧p.1≤18∧0≤p.2∧p.2≤127∧Us L p.1.toNat) (hl:q.length≤1000):∀ (n i:Nat) (w:Int) (b:List Int) (B:List Bool),i≤q.length→q.length - i<n→Wr w b B→B.length≤1000+22*i →
    ∃ w' b',g_deflate_dynamic_l3 k (q.map (·.1)) (q.map (·.2)) L (codesL L).1 n (i:Int) w b=some (w',b')∧Wr w' b' (B++(q.drop i).flatMap (syB L))∧((q.drop i).flatMap (syB L)).length≤22*(q.length - i):=by
  intro n
  induction n with
  | zero=>intro i w b B _ h;omega
  | succ n ih =>
    intro i w b B hi hn hw hB
    rw [g_deflate_dynamic_l3.eq_2]
    simp only [bd,Option.bind_some,List.length_map]
    by_cases h:i<q.length
    · rw [if_pos (by omega),ix_nat (by rw [List.length_map];exact h),List.getElem_map]
      simp only [Option.bind_some]
      obtain ⟨p1,p2,p3,p4,p5⟩:=hq q[i] (List.getElem_mem h)
      have hq2:ix (q.map (·.2)) (i:Int)=some q[i].2:=by rw [ix_nat (by rw [List.length_map];exact h),List.getElem_map]
      rw [List.drop_eq_getElem_cons h,List.flatMap_cons]
      generalize q[i]=p at p1 p2 p3 p4 p5 hq2 ⊢
      obtain ⟨s,v⟩:=p
      simp only at p1 p2 p3 p4 p5 hq2 ⊢
      obtain ⟨s,rfl⟩:∃ m:Nat,s=(m:Int):=⟨s.toNat,by omega⟩
      obtain ⟨v,rfl⟩:∃ m:Nat,v=(m:Int):=⟨v.toNat,by omega⟩
      rw [Int.toNat_natCast] at p5
      obtain ⟨c1,c2⟩:=code_ix (k:=k) hj p5
      rw [c1,c2]
      simp only [Option.bind_some]
      obtain ⟨w1,b1,e1,q1,l1⟩:=put_sym (k:=k) (by omega) hj p5 hw (by omega)
      rw [e1]
      simp only [Option.bind_some]
      rw [hq2]
      simp only [Option.bind_some]
      rw [if_pos (by omega),wu32 (by omega),Int.toNat_natCast]
      have hmt:=more_tab ⟨s,by omega⟩
      simp only at hmt
      rw [hmt]
      have hm7:moreN (s:Int)≤7:=by unfold moreN;split <;> (try split) <;> (try split) <;> omega
      obtain ⟨w2,b2,e2,q2⟩:=putv (show 40≤k by omega) (v:=v) (c:=moreN (s:Int)) (by omega) (by omega) q1 (by rw [List.length_append];omega)
      rw [e2]
      simp only [Option.bind_some]
      rw [wi (by omega) (by omega),show (i:Int)+1=((i+1:Nat):Int) by omega]
      have hsy:syB L ((s:Int),(v:Int))=codeB L s++vb v (moreN (s:Int)):=rfl
      obtain ⟨w3,b3,e3,q3,l3⟩:=ih (i+1) w2 b2 _ (by omega) (by omega) q2 (by rw [List.length_append,List.length_append,vb_length];omega)
      refine ⟨w3,b3,e3,?_,?_⟩
      · rw [hsy];simpa [List.append_assoc] using q3
      · rw [hsy,List.length_append,List.length_append,vb_length];omega
    · rw [if_neg (by omega)]
      exact ⟨w,b,rfl,by rw [List.drop_of_length_le (by omega)];simpa using hw,by rw [List.drop_of_length_le (by omega)];simp⟩
theorem dyn_l1 (k:Nat) (y:List Int) (hy:∀ s∈y,0≤s∧s≤18) (hl:y.length≤1000):∀ (n:Nat) (dn r:List Int),y=dn++r→r.length<n →
    g_deflate_dynamic_l1 k y n (dn.length:Int) (outOf 19 dn)=some (outOf 19 y):=by
  intro n
  induction n with
  | zero=>intro dn r _ h;omega
  | succ n ih =>
    intro dn r hd hn
    rw [g_deflate_dynamic_l1.eq_2]
    simp only [bd,Option.bind_some]
    have hlen:=congrArg List.length hd
    rw [List.length_append] at hlen
    cases r with
    | nil=>rw [if_neg (by simp at hlen;omega)];rw [List.append_nil] at hd;rw [hd]
    | cons s r =>
      simp only [List.length_cons] at hn hlen
      have q:=hy s (by rw [hd];simp)
      rw [if_pos (by omega)]
      have hx:ix y (dn.length:Int)=some s:=by rw [hd,ix_nat (by simp)];simp
      rw [hx]
      simp only [Option.bind_some]
      rw [ix_int q.1 (by rw [outOf_len];omega)]
      simp only [Option.bind_some]
      rw [outOf_get (by omega),show ((s.toNat:Nat):Int)=s by omega]
      have hcnt:dn.count s≤dn.length:=List.count_le_length
      rw [wi (n:=((dn.count s:Nat):Int)+1) (by omega) (by omega),outOf_set q.1 (by omega),wi (by omega) (by omega)]
      have:=ih (dn++[s]) r (by simp [hd]) (by omega)
      rw [show (dn.length:Int)+1=((dn++[s]).length:Int) by simp,this]
def DynB (l:List It) (B:List Bool):Prop:=∃ (ll dl CL:List Int) (q:List (Int × Int)),(judge ll).2=0∧(judge dl).2=0∧((judge CL).2=0∧(judge CL).1=true)∧CL.length=19∧(∀ s,0≤CL.getD s 0∧CL.getD s 0≤7)∧(257≤ll.length∧ll.length≤286)∧(1≤dl.length∧dl.length≤30) ∧
  rowOf q=ll++dl∧okP q∧(∀ p∈q,Us CL p.1.toNat)∧(∀ x∈l,OkI ll dl x)∧Us ll 256 ∧
  B=[true,false,true]++vb (ll.length - 257) 5++vb (dl.length - 1) 5++vb 15 4++ordL.flatMap (clB CL)++q.flatMap (syB CL)++(l.flatMap (itB ll dl)++codeB ll 256)
theorem outOf_pos {N:Nat} {L:List Int} {s:Nat} (hs:s<N) (h:(s:Int)∈L):0<(outOf N L)[s]'(by rw [outOf_len];exact hs):=by
  rw [outOf_get hs];have:=List.count_pos_iff.2 h;omega
theorem outOf_bad {N:Nat} {L:List Int} (h:L.length≤1073741824):¬ badF (outOf N L):=by
  rintro ⟨v,hv,q⟩
  obtain ⟨s,hs,e⟩:=List.mem_iff_getElem.1 hv
  rw [outOf_len] at hs
  rw [outOf_get hs] at e
  have:L.count (s:Int)≤L.length:=List.count_le_length
  omega
theorem len_lens (k:Nat) (hk:210000≤k) (x:List Int) (m:Nat) (hm:1≤m) (hm2:m≤15) (hx:x.length≤320) (hb:¬ badF x) (h3:x.length≤2^m):g_huff_Lengths k x (m:Int)=some (Sum.inl (outOf x.length (itemsR x m),0)):=by
  have:=lengths_ok k hk x (m:Int) (by unfold badA;omega) hb (by rw [Int.toNat_natCast];exact Nat.le_trans (coinsF_len x 0).2 h3)
  rw [Int.toNat_natCast] at this
  exact this
theorem flat_len {α β:Type} (f:α→List β) (c:Nat):∀ (l:List α),(∀ x∈l,(f x).length≤c)→(l.flatMap f).length≤c*l.length
  | [],_=>by simp
  | x::l,h=>by
    have:=flat_len f c l fun y hy=>h y (by simp [hy])
    have:=h x (by simp)
    simp only [List.flatMap_cons,List.length_append,List.length_cons,Nat.mul_succ];omega
theorem cl_map {l:List Int} (h:¬ badL l):l.map cl=l:=by
  have:∀ x∈l,cl x=x:=fun x hx=>by
    have:¬ badX x:=fun q=>h ⟨x,hx,q⟩
    unfold badX at this
    unfold cl;rw [if_neg this]
  rw [List.map_congr_left this];simp
theorem dyn_ok (k:Nat) (l:List It) (hk:l.length+300000≤k) (hl:∀ x∈l,RgI x) (hn:l.length≤1048576):∃ n s B,g_deflate_dynamic k l=some (Sum.inr s)∧Wr n s B∧DynB l B∧B.length≤100000000:=by
  unfold g_deflate_dynamic
  simp only [bd]
  rw [if_pos (by omega),if_pos (by omega)]
  simp only [Option.bind_some]
  rw [show Int.toNat 286=286 from rfl,show Int.toNat 256=256 from rfl,show Int.toNat 30=30 from rfl,show Int.toNat 19=19 from rfl,← outOf_nil 286,← outOf_nil 30,← outOf_nil 19]
  have h256:ix (outOf 286 []) 256=some 0:=by rw [show (256:Int)=((256:Nat):Int) from rfl,ix_nat (by rw [outOf_len];decide),outOf_get (by decide)];rfl
  have hs256:List.set (outOf 286 []) 256 1=outOf 286 [256]:=by
    have:=outOf_set (N:=286) (l:=[]) (s:=256) (by decide) (by decide)
    exact this
  rw [h256]
  simp only [Option.bind_some]
  rw [hs256]
  have lsL:(l.flatMap sL).length≤1*l.length:=flat_len sL 1 l fun x _=>by unfold sL;split <;> simp
  have lsD:(l.flatMap sD).length≤1*l.length:=flat_len sD 1 l fun x _=>by unfold sD;split <;> simp
  have e0:=dyn_l0 k (by omega) k [] l [256] [] (by omega) hl (by simp;omega) (by simp;omega) (by simp;omega)
  rw [List.nil_append,show (([]:List It).length:Int)=0 from rfl,List.nil_append] at e0
  rw [e0]
  simp only [Option.bind_some]
  obtain ⟨lf,hlf⟩:∃ lf,lf=outOf 286 ([256]++l.flatMap sL):=⟨_,rfl⟩
  obtain ⟨df',hdf⟩:∃ df',df'=outOf 30 (l.flatMap sD):=⟨_,rfl⟩
  rw [← hlf,← hdf]
  have llf:lf.length=286:=by rw [hlf,outOf_len]
  have ldf:df'.length=30:=by rw [hdf,outOf_len]
  have b1:¬ badF lf:=by rw [hlf];exact outOf_bad (by rw [List.length_append,List.length_singleton];omega)
  have b2:¬ badF df':=by rw [hdf];exact outOf_bad (by omega)
  have p15:(2:Nat)^15=32768:=by decide
  rw [show (15:Int)=((15:Nat):Int) from rfl,len_lens k (by omega) lf 15 (by decide) (by decide) (by omega) b1 (by omega),len_lens k (by omega) df' 15 (by decide) (by decide) (by omega) b2 (by omega)]
  simp only [Option.bind_some]
  obtain ⟨j1,_,u1,_,_⟩:=lens_judge (x:=lf) 15 (by decide) (by decide) (by omega) (Nat.le_trans (coinsF_len lf 0).2 (by omega))
  obtain ⟨j2,_,u2,_,_⟩:=lens_judge (x:=df') 15 (by decide) (by decide) (by omega) (Nat.le_trans (coinsF_len df' 0).2 (by omega))
  generalize hL0:outOf lf.length (itemsR lf 15)=L0 at *
  generalize hD0:outOf df'.length (itemsR df' 15)=D0 at *
  have lL0:L0.length=286:=by rw [← hL0,outOf_len,llf]
  have lD0:D0.length=30:=by rw [← hD0,outOf_len,ldf]
  unfold g_deflate_shorter
  obtain ⟨m1,s1,s2,s3,s4⟩:=shorter_l0 k L0 (by omega) 257 k L0.length (Nat.le_refl _) (by omega) (by omega) (fun j hj=>by rw [List.getD_eq_getElem?_getD,List.getElem?_eq_none hj];rfl)
  obtain ⟨m2,t1,t2,t3,t4⟩:=shorter_l0 k D0 (by omega) 1 k D0.length (Nat.le_refl _) (by omega) (by omega) (fun j hj=>by rw [List.getD_eq_getElem?_getD,List.getElem?_eq_none hj];rfl)
  rw [List.take_length] at s1 t1
  rw [show (257:Int)=((257:Nat):Int) from rfl,s1]
  simp only [Option.bind_some]
  rw [show (g_deflate_shorter_l0 k 1 k D0)=some (D0.take m2) from t1]
  simp only [Option.bind_some]
  have jl:(judge (L0.take m1)).2=0:=by rw [judge_take s3 (by omega) s4];exact j1
  have jd:(judge (D0.take m2)).2=0:=by rw [judge_take t3 (by omega) t4];exact j2
  have lll:(L0.take m1).length=m1:=by rw [List.length_take];omega
  have ldl:(D0.take m2).length=m2:=by rw [List.length_take];omega
  have us1:∀ s:Nat,s<286→(s:Int)∈[256]++l.flatMap sL→Us (L0.take m1) s:=fun s hs hm=>by
    refine us_take s4 (u1 s (by omega) ?_)
    have:=outOf_pos (N:=286) hs hm
    simp only [hlf];exact this
  have us2:∀ s:Nat,s<30→(s:Int)∈l.flatMap sD→Us (D0.take m2) s:=fun s hs hm=>by
    refine us_take t4 (u2 s (by omega) ?_)
    have:=outOf_pos (N:=30) hs hm
    simp only [hdf];exact this
  have u256:Us (L0.take m1) 256:=us1 256 (by decide) (by simp)
  have hok:∀ x∈l,OkI (L0.take m1) (D0.take m2) x:=fun x hx=>by
    rcases hl x hx with ⟨c,rfl,hc⟩ | ⟨n,d,rfl,h1,h2,h3,h4⟩
    · exact .inl ⟨c,rfl,hc,us1 c (by omega) (List.mem_append_right _ (List.mem_flatMap.2 ⟨_,hx,by show (c:Int)∈[(c:Int)];simp⟩))⟩
    · have hm:¬ ((⟨0,(n:Int),(d:Int)⟩:It).fLen=0):=by show ¬ ((n:Int)=0);omega
      have q1:=symL_ok 40 (by decide) n h1 h2
      have q2:=symD_ok 40 (by decide) d h3 h4
      refine .inr ⟨n,d,rfl,h1,h2,h3,h4,us1 _ (by omega) (List.mem_append_right _ (List.mem_flatMap.2 ⟨_,hx,?_⟩)),us2 _ q2.2.1 (List.mem_flatMap.2 ⟨_,hx,?_⟩)⟩
      · unfold sL;rw [if_neg hm];exact List.mem_singleton.2 rfl
      · unfold sD;rw [if_neg hm];exact List.mem_singleton.2 rfl
  generalize L0.take m1=ll at *
  generalize D0.take m2=dl at *
  obtain ⟨k,rfl⟩:∃ j,k=j+3:=⟨k - 3,by omega⟩
  rw [concat k ll dl (by omega) (by omega)]
  simp only [Option.bind_some]
  unfold g_deflate_Lengths
  have hlen2:(ll++dl).length≤316:=by rw [List.length_append];omega
  obtain ⟨_,r1,q,rfl,r2,r3,r4⟩:=lens (k+3) (ll++dl) (by omega) (by omega) (k+3) 0 [] (by omega) (by omega) rfl okP_nil (by simp)
  have r1':g_deflate_Lengths_l0 (k+3) (ll++dl) (k+3) 0 [] []=some (q.map (·.1),q.map (·.2)):=r1
  rw [r1']
  simp only [Option.bind_some]
  rw [if_pos (by omega)]
  have hqr:∀ p∈q,0≤p.1∧p.1≤18∧0≤p.2∧p.2≤127:=fun p hp=>by
    obtain ⟨j,hj,e⟩:=List.mem_iff_getElem.1 hp
    obtain ⟨a1,a2,a3,a4,a5,a6,a7⟩:=r3 j hj
    rw [e] at a1 a2 a3 a4 a5 a6 a7
    refine ⟨a1,a2,a3,?_⟩
    by_cases w:p.1<16
    · have:=a4 w;omega
    · by_cases w6:p.1=16
      · have:=a5 w6;omega
      · by_cases w7:p.1=17
        · have:=a6 w7;omega
        · have:=a7 (by omega);omega
  have c1:=dyn_l1 (k+3) (q.map (·.1)) (fun s hs=>by
    obtain ⟨p,hp,rfl⟩:=List.mem_map.1 hs
    have:=hqr p hp;omega) (by rw [List.length_map];omega) (k+3) [] (q.map (·.1)) rfl (by rw [List.length_map];omega)
  rw [show (([]:List Int).length:Int)=0 from rfl] at c1
  rw [c1]
  simp only [Option.bind_some]
  obtain ⟨cf,hcf⟩:∃ cf,cf=outOf 19 (q.map (·.1)):=⟨_,rfl⟩
  rw [← hcf]
  have lcf:cf.length=19:=by rw [hcf,outOf_len]
  have gcf:∀ j,cf.getD j 0=if j<19 then (((q.map (·.1)).count (j:Int):Nat):Int) else 0:=by
    intro j
    by_cases h:j<19
    · rw [if_pos h,List.getD_eq_getElem?_getD,List.getElem?_eq_getElem (by omega)]
      simp only [hcf];exact outOf_get h
    · rw [if_neg h,List.getD_eq_getElem?_getD,List.getElem?_eq_none (by omega)];rfl
  unfold g_deflate_row
  obtain ⟨R,ro1,ro2,ro3⟩:=row_l0 (k+3) (by omega) cf lcf (fun j=>by rw [gcf];split <;> omega) (k+3) 0 0 cf (by omega) (by omega) ⟨rfl,fun j=>.inl rfl⟩ (fun _ j h=>by omega) (fun h=>by omega)
  rw [show ((0:Nat):Int)=0 from rfl] at ro1
  rw [ro1]
  simp only [Option.bind_some]
  have lR:R.length=19:=by rw [ro2.1,lcf]
  have bR:¬ badF R:=by
    rintro ⟨v,hv,w⟩
    obtain ⟨j,hj,e⟩:=List.mem_iff_getElem.1 hv
    have ej:R.getD j 0=v:=by rw [List.getD_eq_getElem?_getD,List.getElem?_eq_getElem hj];exact e
    have hg:=gcf j
    have hcnt:(q.map (·.1)).count (j:Int)≤(q.map (·.1)).length:=List.count_le_length
    rw [List.length_map] at hcnt
    rcases ro2.2 j with h | h
    · rw [ej,hg] at h;split at h <;> omega
    · omega
  have p7:(2:Nat)^7=128:=by decide
  rw [show (7:Int)=((7:Nat):Int) from rfl,len_lens (k+3) (by omega) R 7 (by decide) (by decide) (by omega) bR (by omega)]
  simp only [Option.bind_some]
  obtain ⟨j3,f3,u3,v3,w3⟩:=lens_judge (x:=R) 7 (by decide) (by decide) (by omega) (Nat.le_trans (coinsF_len R 0).2 (by omega))
  have f3':=f3 (by rw [syms_pos];exact ro3)
  have lCL:(outOf R.length (itemsR R 7)).length=19:=by rw [outOf_len,lR]
  generalize outOf R.length (itemsR R 7)=CL at *
  unfold g_huff_Full
  rw [g_huff_judged_eq (by omega)]
  simp only [Option.bind_some]
  rw [f3']
  simp only [Bool.not_true,bf]
  have usq:∀ p∈q,Us CL p.1.toNat:=fun p hp=>by
    have h:=hqr p hp
    refine u3 p.1.toNat (by omega) ?_
    have hc:0<(q.map (·.1)).count ((p.1.toNat:Nat):Int):=List.count_pos_iff.2 (List.mem_map.2 ⟨p,hp,by omega⟩)
    have hg:=gcf p.1.toNat
    rw [if_pos (by omega)] at hg
    have e:R.getD p.1.toNat 0=R[p.1.toNat]'(by omega):=by simp [List.getD_eq_getElem?_getD,List.getElem?_eq_getElem (show p.1.toNat<R.length by omega)]
    rw [← e]
    rcases ro2.2 p.1.toNat with w | w
    · rw [w,hg];omega
    · omega
  unfold g_bits_NewWriter
  simp only [Option.bind_some]
  rw [put_same]
  obtain ⟨n1,x1,e1,w1⟩:=putv (show 40≤k+3 by omega) (v:=5) (c:=3) (by decide) (by decide) Wr.nil (by decide)
  rw [show (5:Int)=((5:Nat):Int) from rfl,show (3:Int)=((3:Nat):Int) from rfl,e1]
  simp only [Option.bind_some]
  rw [wi (n:=((ll.length:Nat):Int) - ((257:Nat):Int)) (by omega) (by omega),show ((ll.length:Nat):Int) - ((257:Nat):Int)=((ll.length - 257:Nat):Int) by omega,wu32 (by omega)]
  obtain ⟨n2,x2,e2,w2⟩:=putv (show 40≤k+3 by omega) (v:=ll.length - 257) (c:=5) (by omega) (by decide) w1 (by decide)
  rw [e2]
  simp only [Option.bind_some]
  rw [wi (n:=((dl.length:Nat):Int) - 1) (by omega) (by omega),show ((dl.length:Nat):Int) - 1=((dl.length - 1:Nat):Int) by omega,wu32 (by omega)]
  obtain ⟨n3,x3,e3,w3'⟩:=putv (show 40≤k+3 by omega) (v:=dl.length - 1) (c:=5) (by omega) (by decide) w2 (by rw [List.length_append,vb_length];decide)
  rw [e3]
  simp only [Option.bind_some]
  obtain ⟨n4,x4,e4,w4⟩:=putv (show 40≤k+3 by omega) (v:=15) (c:=4) (by decide) (by decide) w3' (by simp only [List.length_append,vb_length,List.length_nil];decide)
  rw [show (4:Int)=((4:Nat):Int) from rfl,e4]
  simp only [Option.bind_some]
  obtain ⟨n5,x5,e5,w5⟩:=dyn_l2 (k+3) (by omega) CL lCL (fun s=>⟨w3 s,v3 s⟩) (k+3) 0 n4 x4 _ (by omega) (by omega) w4 (by simp only [List.length_append,vb_length,List.length_nil];decide)
  rw [show ((0:Nat):Int)=0 from rfl] at e5
  rw [e5]
  simp only [Option.bind_some]
  rw [g_huff_Codes_eq (by omega)]
  simp only [Option.bind_some]
  have lord:(ordL.flatMap (clB CL)).length≤3*ordL.length:=flat_len (clB CL) 3 ordL fun s _=>by unfold clB;rw [vb_length];exact Nat.le_refl _
  have lo19:ordL.length=19:=rfl
  rw [List.drop_zero] at w5
  obtain ⟨n6,x6,e6,w6,l6⟩:=dyn_l3 (k+3) (by omega) CL j3 q (fun p hp=>⟨(hqr p hp).1,(hqr p hp).2.1,(hqr p hp).2.2.1,(hqr p hp).2.2.2,usq p hp⟩) (by omega) (k+3) 0 n5 x5 _ (by omega) (by omega) w5 (by simp only [List.length_append,vb_length,List.length_nil];omega)
  rw [show ((0:Nat):Int)=0 from rfl] at e6
  rw [e6]
  simp only [Option.bind_some]
  rw [coded_ok (by omega)]
  simp only [Option.bind_some]
  rw [List.drop_zero] at w6 l6
  obtain ⟨n7,x7,e7,w7,l7⟩:=all_ok (k+3) ll dl jl jd l (by omega) hok u256 hn w6 (by simp only [List.length_append,vb_length,List.length_nil];omega)
  rw [e7]
  simp only [Option.bind_some]
  have hB:∀ B:List Bool,Wr n7 x7 B→B.length≤100000000→g_bits_Writer_Done (k+3) n7 x7=some x7:=fun B hw hB=>done_ok hw (by omega)
  have hBl:([]++vb 5 3++vb (ll.length - 257) 5++vb (dl.length - 1) 5++vb 15 4++ordL.flatMap (clB CL)++q.flatMap (syB CL)++(l.flatMap (itB ll dl)++codeB ll 256)).length≤100000000:=by
    rw [List.length_append]
    simp only [List.length_append,vb_length,List.length_nil] at l7 ⊢
    omega
  rw [hB _ w7 hBl]
  refine ⟨n7,x7,_,rfl,w7,⟨ll,dl,CL,q,jl,jd,⟨j3,f3'⟩,lCL,fun s=>⟨w3 s,v3 s⟩,by omega,by omega,?_,r3,usq,hok,u256,?_⟩,hBl⟩
  · rw [r2]
    refine cl_map ?_
    rw [(sumW_app ll dl).2.2]
    exact fun w=>w.elim (judge_ok jl).2.1 (judge_ok jd).2.1
  · rw [show vb 5 3=[true,false,true] from rfl,List.nil_append]
end Go.Proofs.Ytmmeanjjfhimjaa.W
namespace Go.Proofs.Ytmmeanjjfhimjaa.W
open Go Go.Q Go.Proofs
set_option linter.unusedVariables false
set_option linter.unusedSimpArgs false
def StB (b:List Int) (level:Int) (B:List Bool):Prop:=B=storedB 20 b∨(1≤level∧∃ l,PI b 0 l∧B=fixedB l)∨(level=2∧∃ l,PI b 0 l∧DynB l B)
theorem deflate_ok2 (k:Nat) (b:List Int) (hB:Bytes b) (hb:b.length≤1048576) (hk:b.length+400000≤k) (level:Int) (h0:0≤level) (h2:level≤2) :
    ∃ n s B,g_deflate_Deflate k b level=some (Sum.inl (s,0))∧Wr n s B∧StB b level B∧s.length≤((storedB 20 b).length+7) / 8∧(1≤level→∃ l,g_deflate_Parse k b=some l∧s.length≤((fixedB l).length+7) / 8):=by
  unfold g_deflate_Deflate
  simp only [bd]
  rw [if_neg (by omega),df (by omega)]
  simp only [Option.bind_some,bf,bd]
  rw [if_neg (by omega)]
  obtain ⟨n0,s0,e0,w0⟩:=stored_ok k (by omega) b hB hb
  rw [e0]
  simp only [Option.bind_some,bd]
  have z0:=w0.l
  by_cases hl0:level=0
  · rw [if_pos hl0]
    exact ⟨n0,s0,_,rfl,w0,.inl rfl,by omega,fun h=>by omega⟩
  · rw [if_neg hl0]
    obtain ⟨l,l1,l2⟩:=parse_ok k b (by omega) hB (by omega)
    have hlen:=pi_len l2
    rw [l1]
    simp only [Option.bind_some,bd]
    obtain ⟨n1,s1,e1,w1⟩:=fixed_ok k l (by omega) (pi_ok hB (fun s hs=>lfix_us hs) (fun s hs=>dfix_us hs) l2) (by omega)
    rw [e1]
    simp only [Option.bind_some,bd]
    have z1:=w1.l
    have hbest:∃ n s B,(if ((s1.length:Nat):Int)<((s0.length:Nat):Int) then some s1 else some s0)=some s∧Wr n s B∧StB b level B∧s.length≤s0.length∧s.length≤s1.length:=by
      by_cases h:s1.length<s0.length
      · rw [if_pos (by omega)];exact ⟨n1,s1,_,rfl,w1,.inr (.inl ⟨by omega,l,l2,rfl⟩),by omega,Nat.le_refl _⟩
      · rw [if_neg (by omega)];exact ⟨n0,s0,_,rfl,w0,.inl rfl,Nat.le_refl _,by omega⟩
    obtain ⟨n,s,B,e,w,hs,y0,y1⟩:=hbest
    rw [e]
    simp only [Option.bind_some,bd]
    by_cases hl2:level=2
    · rw [if_pos hl2]
      obtain ⟨n3,s3,B3,e3,w3,d3,_⟩:=dyn_ok k l (by omega) (pi_rg hB l2) (by omega)
      rw [e3]
      simp only [Option.bind_some,bd]
      have hpos:0<s3.length:=by
        obtain ⟨ll,dl,CL,q,_,_,_,_,_,_,_,_,_,_,_,_,hBB⟩:=d3
        have:=w3.l
        rw [hBB] at this
        simp only [List.length_append,List.length_cons] at this
        omega
      rw [if_pos hpos]
      by_cases h:s3.length<s.length
      · rw [if_pos (by omega)]
        exact ⟨n3,s3,B3,rfl,w3,.inr (.inr ⟨hl2,l,l2,d3⟩),by omega,fun _=>⟨l,rfl,by omega⟩⟩
      · rw [if_neg (by omega)]
        exact ⟨n,s,B,rfl,w,hs,by omega,fun _=>⟨l,rfl,by omega⟩⟩
    · rw [if_neg hl2]
      exact ⟨n,s,B,rfl,w,hs,by omega,fun _=>⟨l,rfl,by omega⟩⟩
theorem deflate_bad (k:Nat) (b:List Int) (level:Int) (h:level<0∨2<level):g_deflate_Deflate k b level=some (Sum.inl ([],1)):=by
  unfold g_deflate_Deflate
  have:(bif decide (level<0) then some true else some (decide (2<level)))=some true:=by
    by_cases h0:level<0
    · rw [dt h0];rfl
    · rw [df h0,dt (by omega)];rfl
  rw [this];rfl
theorem deflate_big (k:Nat) (b:List Int) (level:Int) (h0:0≤level) (h2:level≤2) (hb:1048576<b.length):g_deflate_Deflate k b level=some (Sum.inl ([],3)):=by
  unfold g_deflate_Deflate
  simp only [bd]
  rw [if_neg (by omega),df (by omega)]
  simp only [Option.bind_some,bf,bd]
  rw [if_pos (by omega)]
theorem g_quireref02_space_l0_eq (k:Nat) (l:List Int) (hl:l.length≤320) (hb:¬ badL l):∀ (n i:Nat) (a m:Int),i≤l.length→l.length - i<n→0≤a→a≤16384*i→0≤m→m≤i →
    g_quireref02_space_l0 k l n a m i=some (a+sumW (l.drop i),m+cntL (l.drop i)):=by
  intro n
  induction n with
  | zero=>intro i a m _ h;omega
  | succ n ih =>
    intro i a m hi hn ha1 ha2 hm0 hm
    rw [g_quireref02_space_l0.eq_2]
    simp only [Option.bind_some,bd]
    by_cases h:i<l.length
    · have e:ix l (i:Int)=some l[i]:=ix_nat h
      have hx':¬ badX l[i]:=fun hx=>hb ⟨_,List.getElem_mem h,hx⟩
      rw [if_pos (by omega),drop_cons h]
      simp only [e,Option.bind_some,sumW,cntL]
      generalize hx:l[i]=x at *
      have hw:=wt_le hx'
      unfold badX at hx'
      unfold wt there at *
      by_cases h0:0<x
      · rw [if_pos h0] at hw
        rw [if_pos h0,wi (n:=15 - x) (by omega) (by omega),wu64 (by omega) (by omega),if_pos (by omega),shlw h0 (by omega),if_pos h0,if_pos h0]
        rw [wi (n:=a+2^(15 - x.toNat)) (by omega) (by omega),wi (n:=m+1) (by omega) (by omega),wsucc (by omega)]
        simp only [Option.bind_some]
        rw [ih (i+1) _ _ (by omega) (by omega) (by omega) (by omega) (by omega) (by omega)]
        simp only [Int.add_assoc]
      · rw [if_neg h0,if_neg h0,if_neg h0,wsucc (by omega)]
        simp only [Option.bind_some]
        rw [ih (i+1) _ _ (by omega) (by omega) (by omega) (by omega) (by omega) (by omega)]
        simp only [Int.zero_add]
    · rw [if_neg (by omega),List.drop_of_length_le (by omega)]
      simp [sumW,cntL]
theorem g_quireref02_space_eq {k:Nat} {l:List Int} (hk:330≤k) (hl:l.length≤320) (hb:¬ badL l):g_quireref02_space k l=some (sumW l,cntL l):=by
  unfold g_quireref02_space
  have e:=g_quireref02_space_l0_eq k l hl hb k 0 0 0 (by omega) (by omega) (by omega) (by omega) (by omega) (by omega)
  rw [List.drop_zero] at e
  have e':g_quireref02_space_l0 k l k 0 0 0=_:=e
  rw [e']
  simp
theorem g_quireref02_Right_l0_eq (k:Nat) (l:List Int) (hl:l.length≤320):∀ (n i:Nat),i≤l.length→l.length - i<n→g_quireref02_Right_l0 k l n i=some (if badL (l.drop i) then Sum.inl () else Sum.inr ()):=by
  intro n
  induction n with
  | zero=>intro i _ h;omega
  | succ n ih =>
    intro i hi hn
    rw [g_quireref02_Right_l0.eq_2]
    simp only [Option.bind_some,bd]
    by_cases h:i<l.length
    · have e:ix l (i:Int)=some l[i]:=ix_nat h
      rw [if_pos (by omega),drop_cons h]
      simp only [e,Option.bind_some,badL_cons]
      generalize hx:l[i]=x
      by_cases hb:badX x
      · have hb':(if x<0 then some true else some (decide (15<x)))=some true:=by
          unfold badX at hb
          split
          · rfl
          · rw [dt (by omega)]
        rw [hb',if_pos (Or.inl hb:badX x∨badL (l.drop (i+1)))]
        rfl
      · have hb':(if x<0 then some true else some (decide (15<x)))=some false:=by
          unfold badX at hb
          rw [if_neg (by omega),df (by omega)]
        rw [hb',wsucc (by omega)]
        simp only [Option.bind_some,bf,or_iff_right hb]
        exact ih (i+1) (by omega) (by omega)
    · rw [if_neg (by omega),List.drop_of_length_le (by omega),if_neg (by simp [badL])]
theorem g_quireref02_Right_eq {k:Nat} {l:List Int} (hk:330≤k):g_quireref02_Right k l=some (judge l).2:=by
  unfold g_quireref02_Right judge
  simp only [Option.bind_some,bd]
  by_cases h:320<l.length
  · rw [if_pos (by omega),if_pos h]
  · rw [if_neg (by omega),if_neg h]
    have e:=g_quireref02_Right_l0_eq k l (by omega) k 0 (by omega) (by omega)
    rw [List.drop_zero] at e
    have e':g_quireref02_Right_l0 k l k 0=_:=e
    rw [e']
    by_cases hb:badL l
    · rw [if_pos hb,if_pos hb];rfl
    · rw [if_neg hb,if_neg hb]
      simp only [Option.bind_some,g_quireref02_space_eq hk (show l.length≤320 by omega) hb]
      by_cases h1:sumW l=32768
      · rw [if_pos h1,if_pos h1];rfl
      · rw [if_neg h1,if_neg h1]
        by_cases h2:cntL l=0
        · rw [if_pos h2,if_pos (.inl h2)];rfl
        · rw [if_neg h2]
          by_cases h3:cntL l=1
          · rw [if_pos h3]
            by_cases h4:sumW l=16384
            · rw [dt h4,if_pos (.inr ⟨h3,h4⟩)];rfl
            · rw [df h4,if_neg (by omega)];rfl
          · rw [if_neg h3,if_neg (by omega)];rfl
theorem g_quireref02_Full_eq {k:Nat} {l:List Int} (hk:330≤k):g_quireref02_Full k l=some (judge l).1:=by
  unfold g_quireref02_Full
  rw [g_quireref02_Right_eq hk]
  simp only [Option.bind_some,bnd']
  unfold judge
  by_cases h:320<l.length
  · rw [if_pos h];rfl
  · rw [if_neg h]
    by_cases hb:badL l
    · rw [if_pos hb];rfl
    · rw [if_neg hb,g_quireref02_space_eq hk (by omega) hb]
      by_cases h1:sumW l=32768
      · rw [if_pos h1];simp [h1]
      · rw [if_neg h1]
        by_cases h2:cntL l=0∨cntL l=1∧sumW l=16384
        · rw [if_pos h2];simp [h1]
        · rw [if_neg h2];rfl
theorem g_quireref02_Codes_l1_eq (k:Nat) (l:List Int) (hl:l.length≤320) (c:Int):∀ (n i:Nat) (out:List Int) (nx:Int),out.length=l.length→i≤l.length→l.length - i<n →
    g_quireref02_Codes_l1 k l c n nx i out=some (codesOf c (l.drop i) nx i out):=by
  intro n
  induction n with
  | zero=>intro i out nx _ _ h;omega
  | succ n ih =>
    intro i out nx ho hi hn
    rw [g_quireref02_Codes_l1.eq_2]
    simp only [Option.bind_some,bd]
    by_cases h:i<l.length
    · have e:ix l (i:Int)=some l[i]:=ix_nat h
      have e2:ix out (i:Int)=some (out[i]'(by omega)):=ix_nat (by omega)
      rw [if_pos (by omega),drop_cons h,e]
      simp only [Option.bind_some,e2]
      by_cases hc:l[i]=c
      · rw [if_pos hc]
        simp only [Option.bind_some,Int.toNat_natCast]
        rw [wsucc (by omega),ih (i+1) _ _ (by simpa using ho) (by omega) (by omega)]
        simp only [codesOf,if_pos hc]
      · rw [if_neg hc]
        simp only [Option.bind_some]
        rw [wsucc (by omega),ih (i+1) _ _ ho (by omega) (by omega)]
        simp only [codesOf,if_neg hc]
    · rw [if_neg (by omega),List.drop_of_length_le (by omega)]
      rfl
theorem g_quireref02_Codes_l0_eq (k:Nat) (l:List Int) (hl:l.length≤320) (hk:330≤k):∀ (n m:Nat) (c nx:Int) (out:List Int),out.length=l.length→c+m=16→m≤15→m<n→g_quireref02_Codes_l0 k l n nx c out=some (codesFrom l m c nx out):=by
  intro n
  induction n with
  | zero=>intro m c nx out _ _ _ h;omega
  | succ n ih =>
    intro m c nx out ho hc h15 hm
    rw [g_quireref02_Codes_l0.eq_2]
    cases m with
    | zero=>rw [bd,if_neg (by omega)];rfl
    | succ m =>
      have e:=g_quireref02_Codes_l1_eq k l hl c k 0 out (shlI .u32 nx 1) ho (by omega) (by omega)
      rw [List.drop_zero] at e
      have e':g_quireref02_Codes_l1 k l c k (shlI .u32 nx 1) 0 out=_:=e
      rw [bd,if_pos (by omega),e']
      simp only [Option.bind_some]
      rw [wi (by omega) (by omega),ih m (c+1) _ _ (by rw [codesOf_length];exact ho) (by omega) (by omega) (by omega)]
      rfl
theorem g_quireref02_Codes_eq {k:Nat} {l:List Int} (hk:330≤k):g_quireref02_Codes k l=some (codesL l):=by
  unfold g_quireref02_Codes codesL
  rw [g_quireref02_Right_eq hk]
  simp only [Option.bind_some,bnd',bd]
  by_cases h:(judge l).2=0
  · have hl:=(judge_ok h).1
    have e:=g_quireref02_Codes_l0_eq k l hl hk k 15 1 0 (List.replicate l.length 0) (by simp) (by omega) (by omega) (by omega)
    rw [if_pos h,if_pos h,if_pos (by omega),Int.toNat_natCast,e]
    rfl
  · rw [if_neg h,if_neg h]
theorem f22_l1_ok (k:Nat) (l:List Int) (h:(judge l).2=0) (n v:Nat) (h1:1≤n) (h15:n≤15):∀ (f i:Nat) (b:Bool),i≤l.length→l.length - i<f →
    ∃ b',g_quireref02_Next_l1 k l (codesL l).1 v n f b i=some b'∧(b'=true↔b=true∨∃ j,i≤j∧∃ h:j<l.length,(n:Int)≤l[j]∧cd l j / 2^(l[j].toNat - n+1)=v):=by
  obtain ⟨hl,hb,hk⟩:=judge_ok h
  intro f
  induction f with
  | zero=>intro i b _ h;omega
  | succ f ih =>
    intro i b hi hn
    rw [g_quireref02_Next_l1.eq_2]
    simp only [Option.bind_some,bd]
    by_cases hil:i<l.length
    · have ei:ix l (i:Int)=some l[i]:=ix_nat hil
      have hx:¬ badX l[i]:=fun hx=>hb ⟨_,List.getElem_mem hil,hx⟩
      unfold badX at hx
      rw [if_pos (by omega),ei,wsucc (by omega)]
      simp only [Option.bind_some]
      have split:(∃ j,i≤j∧∃ h:j<l.length,(n:Int)≤l[j]∧cd l j / 2^(l[j].toNat - n+1)=v)↔((n:Int)≤l[i]∧cd l i / 2^(l[i].toNat - n+1)=v)∨∃ j,i+1≤j∧∃ h:j<l.length,(n:Int)≤l[j]∧cd l j / 2^(l[j].toNat - n+1)=v:=by
        constructor
        · rintro ⟨j,hij,hj,g⟩
          rcases Nat.eq_or_lt_of_le hij with rfl | h2
          · exact .inl g
          · exact .inr ⟨j,h2,hj,g⟩
        · rintro (g | ⟨j,hij,hj,g⟩)
          · exact ⟨i,Nat.le_refl _,hil,g⟩
          · exact ⟨j,by omega,hj,g⟩
      cases b with
      | true =>
        obtain ⟨b',g1,g2⟩:=ih (i+1) true (by omega) (by omega)
        refine ⟨b',by simpa using g1,?_⟩
        rw [g2];simp
      | false =>
        simp only [bf]
        by_cases hle:(n:Int)≤l[i]
        · have ec:ix (codesL l).1 (i:Int)=some (cd l i:Int):=by
            unfold ix;rw [if_pos (by omega),Int.toNat_natCast];exact codesL_get h hil (by omega)
          have e1:IntKind.wrap .u64 (IntKind.wrap .i64 (IntKind.wrap .i64 (l[i] - n)+1))=((l[i].toNat - n+1:Nat):Int):=by
            rw [wi (n:=l[i] - n) (by omega) (by omega),wi (n:=l[i] - n+1) (by omega) (by omega),wu64 (by omega) (by omega)];omega
          rw [if_pos hle,ec]
          simp only [Option.bind_some,e1]
          rw [if_pos (by omega),shr32 (by omega)]
          simp only [Option.bind_some]
          obtain ⟨b',g1,g2⟩:=ih (i+1) (decide (((cd l i / 2^(l[i].toNat - n+1):Nat):Int)=(v:Int))) (by omega) (by omega)
          refine ⟨b',g1,?_⟩
          rw [g2,split,decide_eq_true_eq,Int.ofNat_inj]
          simp [hle]
        · rw [if_neg hle]
          simp only [Option.bind_some]
          obtain ⟨b',g1,g2⟩:=ih (i+1) false (by omega) (by omega)
          refine ⟨b',g1,?_⟩
          rw [g2,split]
          simp [hle]
    · rw [if_neg (by omega)]
      refine ⟨b,rfl,?_⟩
      constructor
      · exact .inl
      · rintro (g | ⟨j,h1,h2,_⟩)
        · exact g
        · omega
theorem f22_l2_ok (k:Nat) (l:List Int) (h:(judge l).2=0) (n v b w:Nat) (h1:1≤n) (hw:bits .or .u32 (shlI .u32 (v:Int) 1) (b:Int)=(w:Int)):∀ (f i:Nat),i≤l.length→l.length - i<f→(∀ j (hj:j<l.length),j<i→¬ (l[j]=(n:Int)∧cd l j=w)) →
    (∃ j,∃ hj:j<l.length,l[j]=(n:Int)∧cd l j=w∧g_quireref02_Next_l2 k l (codesL l).1 v n b f i=some (Sum.inl (j:Int)))∨((∀ j (hj:j<l.length),¬ (l[j]=(n:Int)∧cd l j=w))∧g_quireref02_Next_l2 k l (codesL l).1 v n b f i=some (Sum.inr ())):=by
  obtain ⟨hl,hb,hk⟩:=judge_ok h
  intro f
  induction f with
  | zero=>intro i _ h;omega
  | succ f ih =>
    intro i hi hn hno
    rw [g_quireref02_Next_l2.eq_2]
    simp only [Option.bind_some,bd]
    by_cases hil:i<l.length
    · have ei:ix l (i:Int)=some l[i]:=ix_nat hil
      rw [if_pos (by omega),ei,wsucc (by omega)]
      simp only [Option.bind_some]
      have next:¬ (l[i]=(n:Int)∧cd l i=w)→∀ j (hj:j<l.length),j<i+1→¬ (l[j]=(n:Int)∧cd l j=w):=by
        intro hni j hj hji
        rcases Nat.eq_or_lt_of_le (Nat.le_of_lt_succ hji) with rfl | h2
        · exact hni
        · exact hno j hj h2
      by_cases hle:l[i]=(n:Int)
      · have ec:ix (codesL l).1 (i:Int)=some (cd l i:Int):=by
          unfold ix;rw [if_pos (by omega),Int.toNat_natCast];exact codesL_get h hil (by omega)
        rw [if_pos hle,ec]
        simp only [Option.bind_some,hw]
        by_cases he:cd l i=w
        · rw [dt (by omega)]
          exact .inl ⟨i,hil,hle,he,rfl⟩
        · rw [df (by omega)]
          exact ih (i+1) (by omega) (by omega) (next fun h=>he h.2)
      · rw [if_neg hle]
        simp only [Option.bind_some,bf]
        exact ih (i+1) (by omega) (by omega) (next fun h=>hle h.1)
    · rw [if_neg (by omega)]
      exact .inr ⟨fun j hj=>hno j hj (by omega),rfl⟩
def Sit (B:List Bool) (a:Nat) (L:List Bool):Prop:=L <+: B.drop a
theorem Sit.l {B L1 L2:List Bool} {a:Nat} (h:Sit B a (L1++L2)):Sit B a L1:=List.IsPrefix.trans (List.prefix_append _ _) h
theorem Sit.r {B L1 L2:List Bool} {a:Nat} (h:Sit B a (L1++L2)):Sit B (a+L1.length) L2:=by
  obtain ⟨t,e⟩:=h
  refine ⟨t,?_⟩
  rw [← List.drop_drop,← e,List.append_assoc,List.drop_left]
theorem Sit.get {B L:List Bool} {a:Nat} (h:Sit B a L) {j:Nat} (hj:j<L.length):B.getD (a+j) false=L.getD j false:=by
  obtain ⟨t,e⟩:=h
  rw [List.getD_eq_getElem?_getD,List.getD_eq_getElem?_getD,← List.getElem?_drop,← e,List.getElem?_append_left hj]
theorem Sit.len' {B L:List Bool} {a:Nat} (h:Sit B a L) (h0:a≤B.length):a+L.length≤B.length:=by
  have:=h.length_le
  rw [List.length_drop] at this
  omega
theorem vb_get {v c j:Nat} (h:j<c):(vb v c).getD j false=v.testBit j:=by
  unfold vb
  rw [List.getD_eq_getElem?_getD,List.getElem?_map,List.getElem?_range h];rfl
theorem cb_get {v c j:Nat} (h:j<c):(cb v c).getD j false=v.testBit (c - 1 - j):=by
  unfold cb
  rw [List.getD_eq_getElem?_getD,List.getElem?_map,List.getElem?_range h];rfl
theorem byte_tb {x:Int} (h:0≤x∧x≤255) {p:Nat} (hp:p≤7):(x.toNat / 2^p%2:Nat)=((BitVec.ofInt 8 x).getLsbD p).toNat:=by
  rw [testBit_byte x h p (by omega),Nat.toNat_testBit]
theorem ref_bit (k:Nat) {n:Int} {b:List Int} {B:List Bool} (hw:Wr n b B) (hl:b.length≤140737488355328) (w:Int) {i:Nat} (hi:i<B.length):g_quireref01_Reader_bit k (i:Int) b w=some ((B.getD i false).toNat:Int):=by
  have hbl:=hw.l
  have hi8:i / 8<b.length:=by omega
  have hok:=hw.ok _ (List.getElem_mem hi8)
  unfold g_quireref01_Reader_bit
  rw [show Int.tdiv (i:Int) 8=((i / 8:Nat):Int) from rfl,wi (by omega) (by omega),ix_nat hi8,show Int.tmod (i:Int) 8=((i%8:Nat):Int) from rfl,wu64 (by omega) (by omega)]
  simp only [Option.bind_some,bd]
  rw [if_pos (by omega),byte_bit hok (by omega),byte_tb hok (by omega),← hw.bit i]
  unfold bitAt
  rw [List.getD_eq_getElem?_getD,List.getElem?_eq_getElem hi8];rfl
theorem or32 {x y:Nat} (hx:x<4294967296) (hy:y<4294967296):bits .or .u32 (x:Int) (y:Int)=((x ||| y:Nat):Int):=by
  have e:bits .or .u32 (x:Int) (y:Int)=IntKind.wrap .u32 ((BitVec.ofInt 32 (x:Int) ||| BitVec.ofInt 32 (y:Int)).toNat:Int):=rfl
  have h:x ||| y<2^32:=Nat.or_lt_two_pow hx hy
  rw [e,BitVec.ofInt_natCast,BitVec.ofInt_natCast,BitVec.toNat_or,BitVec.toNat_ofNat,BitVec.toNat_ofNat,Nat.mod_eq_of_lt hx,Nat.mod_eq_of_lt hy,wu32 (by omega)]
theorem or_top {V i:Nat}:(V%2^i) ||| ((V.testBit i).toNat*2^i)=V%2^(i+1):=by
  apply Nat.eq_of_testBit_eq
  intro j
  rw [Nat.testBit_or,Nat.testBit_mod_two_pow,Nat.testBit_mod_two_pow]
  have h2:((V.testBit i).toNat*2^i).testBit j=(decide (i≤j)&&((V.testBit i).toNat).testBit (j - i)):=Nat.testBit_mul_two_pow ..
  rw [h2]
  by_cases hj:j<i
  · simp [hj,show ¬ i≤j by omega,show j<i+1 by omega]
  · by_cases he:j=i
    · subst he;cases V.testBit j <;> simp
    · have:((V.testBit i).toNat).testBit (j - i)=false:=by
        obtain ⟨m,hm⟩:∃ m,j - i=m+1:=⟨j - i - 1,by omega⟩
        rw [hm];cases V.testBit i <;> simp [Nat.testBit_succ]
      rw [this];simp [hj,show ¬ j<i+1 by omega]
theorem take_l0 (k:Nat) {n:Int} {b:List Int} {B:List Bool} (hw:Wr n b B) (hl:b.length≤1000000000) {a V c:Nat} (hc:c≤30) (ha:a+c≤B.length) (hb:∀ j,j<c→B.getD (a+j) false=V.testBit j):∀ (f i:Nat),i≤c→c - i<f →
    g_quireref01_Reader_Take_l0 k (c:Int) b (a:Int) f ((V%2^i:Nat):Int) (i:Int)=some ((V%2^c:Nat):Int):=by
  have hbl:=hw.l
  intro f
  induction f with
  | zero=>intro i _ h;omega
  | succ f ih =>
    intro i hi hf
    rw [g_quireref01_Reader_Take_l0.eq_2]
    simp only [bd]
    by_cases h:i<c
    · rw [if_pos (by omega),show (a:Int)+(i:Int)=((a+i:Nat):Int) by omega,wi (by omega) (by omega),ref_bit k hw (by omega) _ (by omega),hb i h]
      simp only [Option.bind_some]
      rw [show IntKind.wrap .u64 (i:Int)=(i:Int) from wu64 (by omega) (by omega),if_pos (by omega),wi (by omega) (by omega),show (i:Int)+1=((i+1:Nat):Int) by omega]
      have hp:2^i≤2^29:=Nat.pow_le_pow_right (by decide) (by omega)
      have hp2:(2:Nat)^29=536870912:=by decide
      have hm:(V.testBit i).toNat*2^i<4294967296:=by
        have:(V.testBit i).toNat*2^i≤1*2^i:=Nat.mul_le_mul_right _ (by cases V.testBit i <;> decide)
        omega
      have hs:shlI .u32 (((V.testBit i).toNat:Nat):Int) (i:Int)=(((V.testBit i).toNat*2^i:Nat):Int):=by
        have e:shlI .u32 (((V.testBit i).toNat:Nat):Int) (i:Int)=IntKind.wrap .u32 ((((V.testBit i).toNat:Nat):Int)*2^i):=by
          unfold shlI
          rw [Int.toNat_natCast,show min i IntKind.u32.bits=i by simp [IntKind.bits];omega]
        rw [e,show ((((V.testBit i).toNat:Nat):Int)*2^i)=(((V.testBit i).toNat*2^i:Nat):Int) by rw [Int.natCast_mul,Int.natCast_pow];rfl,wu32 hm]
      have hv:V%2^i<4294967296:=by have:=Nat.mod_lt V (Nat.two_pow_pos i);omega
      rw [hs,or32 hv hm,or_top]
      exact ih (i+1) (by omega) (by omega)
    · have:i=c:=by omega
      subst this
      rw [if_neg (by omega)]
theorem take_ok (k:Nat) (hk:40≤k) {n:Int} {b:List Int} {B:List Bool} (hw:Wr n b B) (hl:b.length≤1000000000) {a v c:Nat} (ha:a≤B.length) (hc:c≤30) (hv:v<2^c) (h:Sit B a (vb v c)) :
    g_quireref01_Reader_Take k (c:Int) b (a:Int)=some ((v:Int),0,((a+c:Nat):Int)):=by
  have hbl:=hw.l
  have hL:=h.len' ha
  rw [vb_length] at hL
  have e:=take_l0 k hw hl hc hL (V:=v) (fun j hj=>by rw [h.get (by rw [vb_length];exact hj),vb_get hj]) k 0 (Nat.zero_le _) (by omega)
  rw [show v%2^0=0 by simp [Nat.mod_one],Nat.mod_eq_of_lt hv] at e
  unfold g_quireref01_Reader_Take g_quireref01_Reader_Left
  simp only [bd]
  rw [if_neg (by omega),df (by omega)]
  simp only [Option.bind_some,bf,bd]
  rw [wi (n:=8*(b.length:Int)) (by omega) (by omega),wi (by omega) (by omega),if_neg (by omega),show g_quireref01_Reader_Take_l0 k (c:Int) b (a:Int) k 0 0=some (v:Int) from e]
  simp only [Option.bind_some]
  rw [wi (by omega) (by omega),show (a:Int)+(c:Int)=((a+c:Nat):Int) by omega]
theorem bit_ok (k:Nat) (hk:40≤k) {n:Int} {b:List Int} {B:List Bool} (hw:Wr n b B) (hl:b.length≤1000000000) {a:Nat} {t:Bool} (ha:a<B.length) (h:B.getD a false=t) :
    g_quireref01_Reader_Take k 1 b (a:Int)=some ((t.toNat:Int),0,((a+1:Nat):Int)):=by
  refine take_ok k hk hw hl (v:=t.toNat) (c:=1) (by omega) (by decide) (by cases t <;> decide) ⟨B.drop (a+1),?_⟩
  rw [List.drop_eq_getElem_cons ha]
  have:B[a]=t:=by rw [← h,List.getD_eq_getElem?_getD,List.getElem?_eq_getElem ha];rfl
  rw [this];cases t <;> rfl
theorem or_bit32 {v b:Nat} (hv:v≤65536) (hb:b≤1):bits .or .u32 (shlI .u32 (v:Int) 1) (b:Int)=((2*v+b:Nat):Int):=by
  rw [shl32 hv,or32 (by omega) (by omega),or_bit hb]
theorem half_bit (v m:Nat):2*(v / 2^(m+1))+(v.testBit m).toNat=v / 2^m:=by
  rw [Nat.toNat_testBit,Nat.pow_succ,← Nat.div_div_eq_div_mul];omega
theorem cd_lt2 {l:List Int} (h:(judge l).2=0) {s:Nat} (hu:Us l s):cd l s<2^(l.getD s 0).toNat:=by
  obtain ⟨hl,hb,hk⟩:=judge_ok h
  have hs:sr l 16≤32768:=by
    have:=sr_all hb
    have h16:=(sumW_le hb).2
    rcases hk with q | q | q
    · omega
    · have hu0:=hu.2
      have:∀ (l:List Int) (s:Nat),0<l.getD s 0→0<cntL l:=by
        intro l
        induction l with
        | nil=>intro s h;simp at h
        | cons x l ih =>
          intro s h
          have h1:=there_le x
          have h2:=cntL_le l
          simp only [cntL]
          cases s with
          | zero => have : 0 < x := by simpa using h
                    have:there x=1:=by unfold there;rw [if_pos this]
                    omega
          | succ s=>have:=ih s (by simpa using h);omega
      have:=this l s hu0
      omega
    · omega
  have h15:=len15 h s
  have h0:=hu.2
  have hle:=hf_le hs (c:=(l.getD s 0).toNat) (by omega) h15
  have e:(32768:Nat)=2^(l.getD s 0).toNat*2^(15 - (l.getD s 0).toNat):=by
    rw [← Nat.pow_add,show (l.getD s 0).toNat+(15 - (l.getD s 0).toNat)=15 by omega]
  have h2:2*hf l (l.getD s 0).toNat+cn l (l.getD s 0).toNat≤2^(l.getD s 0).toNat:=by
    refine Nat.le_of_mul_le_mul_right ?_ (Nat.two_pow_pos (15 - (l.getD s 0).toNat))
    rw [← e];exact hle
  have hc:(l.take s).count (l.getD s 0)<cn l (l.getD s 0).toNat:=by
    have h3:=count_take_le l (s+1) (l.getD s 0)
    have es:l.getD s 0=l[s]'hu.1:=by simp [List.getD_eq_getElem?_getD,List.getElem?_eq_getElem hu.1]
    rw [List.take_succ_eq_append_getElem hu.1,List.count_append,← es,List.count_singleton_self] at h3
    unfold cn
    rw [show (((l.getD s 0).toNat:Nat):Int)=l.getD s 0 by omega]
    omega
  unfold cd
  omega
theorem next_l0 (k:Nat) (hk:400≤k) {l:List Int} (h:(judge l).2=0) {s:Nat} (hu:Us l s) {w:Int} {b:List Int} {B:List Bool} (hw:Wr w b B) (hl:b.length≤1000000000) {a:Nat} (ha:a≤B.length) (hs:Sit B a (codeB l s)) (a0:Int) :
    ∀ (f n:Nat),1≤n→n≤(l.getD s 0).toNat→(l.getD s 0).toNat - n<f→g_quireref02_Next_l0 k l (codesL l).1 b a0 f ((cd l s / 2^((l.getD s 0).toNat - (n - 1)):Nat):Int) (n:Int) ((a+(n - 1):Nat):Int)=some (Sum.inl ((s:Int),0,((a+(l.getD s 0).toNat:Nat):Int))):=by
  obtain ⟨jl,jb,jk⟩:=judge_ok h
  have h15:=len15 h s
  have hcs:=cd_small h hu
  have hL:=hs.len' ha
  unfold codeB at hL hs
  rw [cb_length] at hL
  have es:l.getD s 0=l[s]'hu.1:=by simp [List.getD_eq_getElem?_getD,List.getElem?_eq_getElem hu.1]
  have h0:0<l.getD s 0:=hu.2
  obtain ⟨c,hc⟩:∃ c:Nat,l.getD s 0=(c:Int):=⟨(l.getD s 0).toNat,by omega⟩
  rw [hc] at hL hs h15 h0
  have ec:l[s]'hu.1=(c:Int):=by rw [← es,hc]
  rw [hc]
  simp only [Int.toNat_natCast] at hL hs h15 h0 ⊢
  intro f
  induction f with
  | zero=>intro n _ _ hf;omega
  | succ f ih =>
    intro n hn hnc hf
    rw [g_quireref02_Next_l0.eq_2,bd,if_pos (by omega)]
    obtain ⟨t,e1,e2⟩:=f22_l1_ok k l h n (cd l s / 2^(c - (n - 1))) hn (by omega) k 0 false (Nat.zero_le _) (by omega)
    have:t=true:=e2.2 (.inr ⟨s,Nat.zero_le _,hu.1,by rw [ec];omega,by rw [ec,Int.toNat_natCast];congr 2;omega⟩)
    subst this
    rw [show ((0:Nat):Int)=0 from rfl] at e1
    rw [e1]
    simp only [Option.bind_some,Bool.not_true,bf]
    have hbit:B.getD (a+(n - 1)) false=(cd l s).testBit (c - n):=by rw [hs.get (by rw [cb_length];omega),cb_get (by omega)];congr 1;omega
    rw [bit_ok k (by omega) hw hl (by omega) hbit]
    simp only [Option.bind_some,bnd',bd]
    rw [if_pos trivial]
    have hv:cd l s / 2^(c - (n - 1))≤32768:=Nat.le_trans (Nat.div_le_self _ _) hcs
    have hor:=or_bit32 (v:=cd l s / 2^(c - (n - 1))) (b:=((cd l s).testBit (c - n)).toNat) (by omega) (by cases (cd l s).testBit (c - n) <;> decide)
    have hh:=half_bit (cd l s) (c - n)
    rw [show c - n+1=c - (n - 1) by omega] at hh
    rw [hh] at hor
    rcases f22_l2_ok k l h n _ _ _ hn hor k 0 (Nat.zero_le _) (by omega) (fun j _ hj=>by omega) with ⟨j,hj,q1,q2,q3⟩ | ⟨q1,q2⟩
    · rw [show ((0:Nat):Int)=0 from rfl] at q3
      rw [q3]
      simp only [Option.bind_some]
      have hjs:j=s:=by
        by_cases w:j=s
        · exact w
        · exact absurd (by rw [ec,q1,Int.toNat_natCast,Int.toNat_natCast];exact q2.symm) (cd_prefix hj hu.1 w (by rw [q1];omega) (by rw [q1,ec];omega) (by rw [ec];omega))
      subst hjs
      have:n=c:=by rw [ec] at q1;omega
      rw [show a+(n - 1)+1=a+c by omega]
    · rw [show ((0:Nat):Int)=0 from rfl] at q2
      rw [q2]
      simp only [Option.bind_some]
      have hlt:n<c:=by
        by_cases w:n<c
        · exact w
        · have:n=c:=by omega
          subst this
          exact absurd ⟨ec,by rw [Nat.sub_self,Nat.pow_zero,Nat.div_one]⟩ (q1 s hu.1)
      rw [hor,wi (by omega) (by omega),show (n:Int)+1=((n+1:Nat):Int) by omega]
      have:=ih (n+1) (by omega) (by omega) (by omega)
      rw [show n+1 - 1=n by omega] at this
      rw [show a+(n - 1)+1=a+n by omega]
      exact this
theorem next_code (k:Nat) (hk:400≤k) {l:List Int} (h:(judge l).2=0) {s:Nat} (hu:Us l s) {w:Int} {b:List Int} {B:List Bool} (hw:Wr w b B) (hl:b.length≤1000000000) {a:Nat} (ha:a≤B.length) (hs:Sit B a (codeB l s)) :
    g_quireref02_Next k l (codesL l).1 b (a:Int)=some ((s:Int),0,((a+(codeB l s).length:Nat):Int)):=by
  have h15:=len15 h s
  have hcs:=cd_small h hu
  have h0:=hu.2
  have:=next_l0 k hk h hu hw hl ha hs (a:Int) k 1 (Nat.le_refl _) (by omega) (by omega)
  have hz:cd l s / 2^((l.getD s 0).toNat - (1 - 1))=0:=by
    apply Nat.div_eq_of_lt
    obtain ⟨jl,jb,jk⟩:=judge_ok h
    have:=cd_lt2 h hu
    simpa using this
  rw [hz] at this
  unfold g_quireref02_Next
  rw [show g_quireref02_Next_l0 k l (codesL l).1 b (a:Int) k 0 1 (a:Int)=_ from this]
  simp only [Option.bind_some]
  rw [show (codeB l s).length=(l.getD s 0).toNat from cb_length _ _]
def okLit3 (i:Nat):Bool:=decide (g_quireref03_Lit 40 ((symL ((i+3:Nat):Int)).1:Int)=some (((i+3:Nat):Int) - ((symL ((i+3:Nat):Int)).2.1:Int),((symL ((i+3:Nat):Int)).2.2:Int),true))
theorem okLit3s:∀ i:Fin 256,okLit3 i.val=true:=by decide +kernel
theorem ref_lit (k:Nat) (hk:40≤k) (n:Nat) (h1:3≤n) (h2:n≤258):g_quireref03_Lit k ((symL n).1:Int)=some ((n:Int) - ((symL n).2.1:Int),((symL n).2.2:Int),true):=by
  have h:=okLit3s ⟨n - 3,by omega⟩
  unfold okLit3 at h
  simp only [show n - 3+3=n by omega,decide_eq_true_eq] at h
  exact (g_quireref03_Lit_mono hk).h _ h
theorem ref_dist0:∀ s:Fin 30,g_quireref03_Dist 40 ((s.val:Nat):Int)=some (((bD s.val:Nat):Int),((eD s.val:Nat):Int),true):=by decide +kernel
theorem ref_dist (k:Nat) (hk:40≤k) {s:Nat} (h:s<30):g_quireref03_Dist k (s:Int)=some (((bD s:Nat):Int),((eD s:Nat):Int),true):=(g_quireref03_Dist_mono hk).h _ (ref_dist0 ⟨s,h⟩)
theorem ref_copied_l0 (k:Nat) (b:List Int) (hb:b.length≤1048576) (at_ n d:Nat) (hc:Cp b at_ n d):∀ (m j:Nat),j≤n→n - j<m →
    g_quireref03_stream_copied_l0 k (n:Int) (d:Int) m (j:Int) (b.take (at_+j))=some (b.take (at_+n)):=by
  obtain ⟨c1,c2,c3,c4,c5,c6⟩:=hc
  intro m
  induction m with
  | zero=>intro j _ h;omega
  | succ m ih =>
    intro j hj hm
    rw [g_quireref03_stream_copied_l0.eq_2]
    simp only [bd,Option.bind_some]
    by_cases h:j<n
    · have hl:(b.take (at_+j)).length=at_+j:=by rw [List.length_take];omega
      rw [if_pos (by omega),hl,wi (n:=((at_+j:Nat):Int) - d) (by omega) (by omega),show ((at_+j:Nat):Int) - d=((at_ - d+j:Nat):Int) by omega,ix_by (by omega),by_take (by omega),c6 j h]
      simp only [Option.bind_some]
      rw [if_pos (by simp;omega),take_by (by omega),wi (by omega) (by omega),show (j:Int)+1=((j+1:Nat):Int) by omega]
      exact ih (j+1) (by omega) (by omega)
    · rw [if_neg (by omega)]
      obtain rfl:j=n:=by omega
      rfl
theorem ref_copied (k:Nat) (hk:700≤k) {b:List Int} (hb:b.length≤1048576) {at_ n d:Nat} (h3:3≤n) (hc:Cp b at_ n d) {dl:List Int} (hdl:(judge dl).2=0) (hu:Us dl (symD d)) {w:Int} {s:List Int} {B:List Bool} (hw:Wr w s B) (hl:s.length≤1000000000) {a:Nat} (ha:a≤B.length)
    (hs:Sit B a (vb (symL n).2.1 (symL n).2.2++(codeB dl (symD d)++vb (d - bD (symD d)) (eD (symD d))))) :
    g_quireref03_stream_copied k ((symL n).1:Int) dl (codesL dl).1 (b.length:Int) s (a:Int) (b.take at_)=some (0,((a+(vb (symL n).2.1 (symL n).2.2++(codeB dl (symD d)++vb (d - bD (symD d)) (eD (symD d)))).length:Nat):Int),b.take (at_+n)):=by
  have hc0:=hc
  obtain ⟨c1,c2,c3,c4,c5,c6⟩:=hc
  have q1:=symL_ok 40 (by decide) n h3 c1
  have q2:=symD_ok 40 (by decide) d c3 c5
  have hlen:(b.take at_).length=at_:=by rw [List.length_take];omega
  have hbl:=hw.l
  have s1:=hs.l
  have s2:=hs.r
  have s3:=s2.l
  have s4:=s2.r
  have a1:=s1.len' ha
  have a2:=s3.len' a1
  have a3:=s4.len' a2
  rw [vb_length] at a1 s2 s3 s4 a2 a3
  rw [vb_length] at a3
  unfold g_quireref03_stream_copied
  rw [ref_lit k (by omega) n h3 c1]
  simp only [Option.bind_some,Bool.not_true,bf]
  rw [take_ok k (by omega) hw hl ha (by omega) q1.2.2.2.1 s1]
  simp only [Option.bind_some,bnd',bd]
  rw [if_pos trivial,wi (n:=((symL n).2.1:Int)) (by omega) (by have:2^(symL n).2.2≤2^5:=Nat.pow_le_pow_right (by decide) q1.2.2.2.2;omega),wi (n:=(n:Int) - ((symL n).2.1:Int)+((symL n).2.1:Int)) (by omega) (by omega),show (n:Int) - ((symL n).2.1:Int)+((symL n).2.1:Int)=(n:Int) by omega]
  rw [next_code k (by omega) hdl hu hw hl a1 s3]
  simp only [Option.bind_some,bnd',bd]
  rw [if_pos trivial,ref_dist k (by omega) q2.2.1]
  simp only [Option.bind_some,Bool.not_true,bf]
  rw [take_ok k (by omega) hw hl a2 (by omega) q2.2.2.2.1 s4]
  simp only [Option.bind_some,bnd',bd]
  rw [if_pos trivial,wi (n:=((d - bD (symD d):Nat):Int)) (by omega) (by omega),wi (n:=((bD (symD d):Nat):Int)+((d - bD (symD d):Nat):Int)) (by omega) (by omega),show ((bD (symD d):Nat):Int)+((d - bD (symD d):Nat):Int)=(d:Int) by omega]
  rw [hlen,if_neg (by omega),wi (by omega) (by omega),if_neg (by omega)]
  have:=ref_copied_l0 k b hb at_ n d hc0 k 0 (by omega) (by omega)
  rw [Nat.add_zero,show ((0:Nat):Int)=0 from rfl] at this
  rw [this]
  simp only [Option.bind_some]
  congr 3
  simp only [List.length_append,vb_length]
  omega
theorem ref_symbols (k:Nat) (hk:700≤k) {b:List Int} (hb:b.length≤1048576) (hB:Bytes b) {ll dl:List Int} (hll:(judge ll).2=0) (hdl:(judge dl).2=0) (h256:Us ll 256) {w:Int} {s:List Int} {B:List Bool} (hw:Wr w s B) (hl:s.length≤1000000000) :
    ∀ (l:List It) (at_:Nat),PI b at_ l→at_≤b.length→(∀ x∈l,OkI ll dl x)→∀ (f a:Nat),l.length<f→a≤B.length→Sit B a (l.flatMap (itB ll dl)++codeB ll 256) →
    g_quireref03_stream_symbols_l0 k ll (codesL ll).1 dl (codesL dl).1 (b.length:Int) s f (a:Int) (b.take at_)=some (0,((a+(l.flatMap (itB ll dl)++codeB ll 256).length:Nat):Int),b):=by
  intro l
  induction l with
  | nil =>
    intro at_ hp ha hok f a hf haB hs
    obtain ⟨f,rfl⟩:∃ j,f=j+1:=⟨f - 1,by omega⟩
    have:at_=b.length:=hp
    rw [g_quireref03_stream_symbols_l0.eq_2,next_code k (by omega) hll h256 hw hl haB hs]
    simp only [Option.bind_some,bnd',bd]
    rw [if_pos trivial,if_pos (by rfl),this,List.take_of_length_le (Nat.le_refl _)]
    rfl
  | cons x l ih =>
    intro at_ hp ha hok f a hf haB hs
    simp only [List.length_cons] at hf
    obtain ⟨f,rfl⟩:∃ j,f=j+1:=⟨f - 1,by omega⟩
    have hlen:(b.take at_).length=at_:=by rw [List.length_take];omega
    have hx:=hok x (List.mem_cons_self ..)
    rw [List.flatMap_cons,List.append_assoc] at hs ⊢
    rw [List.length_append]
    have s1:=hs.l
    have s2:=hs.r
    have a1:=s1.len' haB
    rw [g_quireref03_stream_symbols_l0.eq_2]
    rcases hp with ⟨h1,rfl,_,h3⟩ | ⟨m,d,h1,rfl,h2,h3⟩
    · have hby:=by_rng hB at_
      have e:itB ll dl ⟨byA b at_,0,0⟩=codeB ll (byA b at_).toNat:=by unfold itB;rw [if_pos rfl]
      have hu:Us ll (byA b at_).toNat:=by
        rcases hx with ⟨c,hc,_,q⟩ | ⟨n,d,hc,q,_⟩
        · have:byA b at_=(c:Int):=congrArg (·.fByte) hc
          rw [this,Int.toNat_natCast];exact q
        · have:(0:Int)=(n:Int):=congrArg (·.fLen) hc
          omega
      rw [e] at s1 s2 a1 ⊢
      rw [next_code k (by omega) hll hu hw hl haB s1]
      simp only [Option.bind_some,bnd',bd]
      rw [if_pos trivial,if_neg (by omega),if_pos (by omega),show (((byA b at_).toNat:Nat):Int)=byA b at_ by omega,wi8 hby]
      unfold g_quireref03_stream_put
      simp only [Option.bind_some,bd]
      rw [hlen,if_neg (by omega),if_pos (by simp;omega),take_by h1]
      simp only [Option.bind_some,bnd',bd]
      rw [if_pos trivial,ih (at_+1) h3 (by omega) (fun y hy=>hok y (List.mem_cons_of_mem _ hy)) f _ (by omega) a1 s2]
      rw [Nat.add_assoc]
    · have hc:=h2
      obtain ⟨c1,c2,c3,c4,c5,c6⟩:=h2
      obtain ⟨hu1,hu2⟩:Us ll (symL m).1∧Us dl (symD d):=by
        rcases hx with ⟨c,hc,_,q⟩ | ⟨n',d',hc,q1,q2,q3,q4,q5,q6⟩
        · have:(m:Int)=0:=congrArg (·.fLen) hc
          omega
        · have e1:(m:Int)=(n':Int):=congrArg (·.fLen) hc
          have e2:(d:Int)=(d':Int):=congrArg (·.fDist) hc
          rw [e1,e2];exact ⟨q5,q6⟩
      have q1:=symL_ok 40 (by decide) m h1 c1
      have e:itB ll dl ⟨0,(m:Int),(d:Int)⟩=codeB ll (symL m).1++(vb (symL m).2.1 (symL m).2.2++(codeB dl (symD d)++vb (d - bD (symD d)) (eD (symD d)))):=by
        unfold itB;rw [if_neg (show ¬ ((m:Int)=0) by omega)];rfl
      rw [e] at s1 s2 a1 ⊢
      have t1:=s1.l
      have t2:=s1.r
      have b1:=t1.len' haB
      rw [next_code k (by omega) hll hu1 hw hl haB t1]
      simp only [Option.bind_some,bnd',bd]
      rw [if_pos trivial,if_neg (by omega),if_neg (by omega),ref_copied k hk hb h1 hc hdl hu2 hw hl b1 t2]
      simp only [Option.bind_some,bnd',bd]
      rw [if_pos trivial]
      have:=ih (at_+m) h3 (by omega) (fun y hy=>hok y (List.mem_cons_of_mem _ hy)) f _ (by omega) a1 s2
      rw [List.length_append,← Nat.add_assoc] at this
      rw [this]
      congr 3
      simp only [List.length_append]
      omega
theorem codesL_2 {l:List Int} (h:(judge l).2=0):(codesL l).2=0:=by unfold codesL;rw [if_pos h]
theorem ref_coded (k:Nat) (hk:330≤k) {l:List Int} (h:(judge l).2=0):g_quireref03_coded k l=some (0,(codesL l).1):=by
  unfold g_quireref03_coded
  rw [g_quireref02_Codes_eq hk]
  simp only [Option.bind_some]
  rw [codesL_2 h]
theorem rowOf_pre (a b:List (Int × Int)):rowOf a <+: rowOf (a++b):=by
  have:∀ (b:List (Int × Int)) (r:List Int),r <+: b.foldl (fun r q=>r++more r q) r:=by
    intro b
    induction b with
    | nil=>intro r;exact List.prefix_refl _
    | cons x b ih=>intro r;exact List.IsPrefix.trans (List.prefix_append _ _) (ih _)
  unfold rowOf
  rw [List.foldl_append]
  exact this b _
theorem ref_row_l1 (k:Nat) (v:Int) (n:Nat) (hn:n≤1000):∀ (f i:Nat) (r:List Int),i≤n→n - i<f→r.length+(n - i)≤100000→g_quireref03_stream_row_l1 k v (n:Int) f (i:Int) r=some (r++List.replicate (n - i) v):=by
  intro f
  induction f with
  | zero=>intro i r _ h;omega
  | succ f ih =>
    intro i r hi hf hr
    rw [g_quireref03_stream_row_l1.eq_2]
    simp only [bd]
    by_cases h:i<n
    · rw [if_pos (by omega),if_pos (by simp;omega),wi (by omega) (by omega),show (i:Int)+1=((i+1:Nat):Int) by omega]
      rw [ih (i+1) _ (by omega) (by omega) (by simp;omega),show n - i=n - (i+1)+1 by omega,List.replicate_succ,List.append_assoc]
      rfl
    · rw [if_neg (by omega),show n - i=0 by omega];simp
theorem ref_row (k:Nat) (hk:700≤k) {CL:List Int} (hCL:(judge CL).2=0) {w:Int} {s:List Int} {B:List Bool} (hw:Wr w s B) (hl:s.length≤1000000000) (many:Nat) (hmany:many≤400) :
    ∀ (l dn:List (Int × Int)),okP (dn++l)→(∀ p∈l,Us CL p.1.toNat)→(rowOf (dn++l)).length=many→∀ (f a:Nat),l.length<f→a≤B.length→Sit B a (l.flatMap (syB CL)) →
    g_quireref03_stream_row_l0 k CL (codesL CL).1 (many:Int) s f (a:Int) (rowOf dn)=some (Sum.inr (((a+(l.flatMap (syB CL)).length:Nat):Int),rowOf (dn++l))):=by
  have hbl:=hw.l
  intro l
  induction l with
  | nil =>
    intro dn hok hu hm f a hf ha hs
    obtain ⟨f,rfl⟩:∃ j,f=j+1:=⟨f - 1,by omega⟩
    rw [List.append_nil] at hm ⊢
    rw [g_quireref03_stream_row_l0.eq_2]
    simp only [Option.bind_some,bd]
    rw [if_neg (by omega)]
    rfl
  | cons x l ih =>
    intro dn hok hu hm f a hf ha hs
    simp only [List.length_cons] at hf
    obtain ⟨f,rfl⟩:∃ j,f=j+1:=⟨f - 1,by omega⟩
    have e0:dn++x::l=(dn++[x])++l:=by simp
    have hq:okQ (rowOf dn) x:=by
      have:=hok dn.length (by simp)
      rw [List.take_left] at this
      simpa using this
    have hpre:=(rowOf_pre (dn++[x]) l).length_le
    rw [← e0,hm,rowOf_app,List.length_append] at hpre
    have ux:=hu x (List.mem_cons_self ..)
    rw [List.flatMap_cons] at hs ⊢
    have s1:=hs.l
    have s2:=hs.r
    have a1:=s1.len' ha
    unfold syB at s1
    have t1:=s1.l
    have t2:=s1.r
    have b1:=t1.len' ha
    obtain ⟨c0,c18,c2,c3,c4,c5,c6⟩:=hq
    obtain ⟨sy,v⟩:=x
    simp only at c0 c18 c2 c3 c4 c5 c6 ux t1 t2 b1
    have IH:=ih (dn++[(sy,v)]) (by rw [← e0];exact hok) (fun p hp=>hu p (List.mem_cons_of_mem _ hp)) (by rw [← e0];exact hm) f _ (by omega) a1 s2
    rw [← e0,rowOf_app] at IH
    have fin:(a+(syB CL (sy,v)).length)+(l.flatMap (syB CL)).length=a+(syB CL (sy,v)++l.flatMap (syB CL)).length:=by rw [List.length_append];omega
    rw [fin] at IH
    have esy:((sy.toNat:Nat):Int)=sy:=by omega
    have ev:((v.toNat:Nat):Int)=v:=by omega
    have elen:a+(syB CL (sy,v)).length=a+(codeB CL sy.toNat).length+moreN sy:=by
      have:syB CL (sy,v)=codeB CL sy.toNat++vb v.toNat (moreN sy):=rfl
      rw [this,List.length_append,vb_length];omega
    rw [elen] at IH
    rw [g_quireref03_stream_row_l0.eq_2]
    simp only [Option.bind_some,bd]
    have hlt:(rowOf dn).length<many:=by
      have:0<(more (rowOf dn) (sy,v)).length:=by
        unfold more
        split
        · simp only [List.length_replicate];simp only at *;omega
        · split
          · simp only [List.length_replicate];simp only at *;omega
          · split
            · simp only [List.length_replicate];simp only at *;omega
            · simp
      omega
    rw [if_pos (by omega),next_code k (by omega) hCL ux hw hl ha t1]
    simp only [Option.bind_some,bnd',bd]
    rw [if_pos trivial,esy]
    by_cases h16:sy<16
    · rw [if_pos h16,if_pos (by simp;omega)]
      have em:more (rowOf dn) (sy,v)=[sy]:=by unfold more;simp only;rw [if_neg (by omega),if_neg (by omega),if_neg (by omega)]
      rw [em,show moreN sy=0 by unfold moreN;rw [if_neg (by omega),if_neg (by omega),if_neg (by omega)],Nat.add_zero] at IH
      exact IH
    · rw [if_neg h16]
      have key:∀ (bits_ base:Nat) (val:Int),moreN sy=bits_→bits_≤7→v.toNat<2^bits_→base≤11→more (rowOf dn) (sy,v)=List.replicate (base+v.toNat) val →
          ((g_quireref01_Reader_Take k (bits_:Int) s ((a+(codeB CL sy.toNat).length:Nat):Int)).bind fun (x20647,x20648,x20649)=>if x20648=0 then ((some (IntKind.wrap .i64 ((base:Int)+(IntKind.wrap .i64 x20647)))).bind fun x20652=>((some (IntKind.wrap .i64 ((many:Int) - ((List.length (rowOf dn):Nat):Int)))).bind fun x20655=>(if x20655<x20652 then some (Sum.inl (12,x20649)) else ((g_quireref03_stream_row_l1 k val x20652 k 0 (rowOf dn)).bind fun x20665=>(g_quireref03_stream_row_l0 k CL (codesL CL).1 (many:Int) s f x20649 x20665))))) else some (Sum.inl (x20648,x20649)))=some (Sum.inr (((a+(syB CL (sy,v)++l.flatMap (syB CL)).length:Nat):Int),rowOf (dn++(sy,v)::l))):=by
        intro bits_ base val e1 e2 e3 e4 e5
        have hp:2^bits_≤2^7:=Nat.pow_le_pow_right (by decide) e2
        rw [e1] at t2
        rw [take_ok k (by omega) hw hl b1 (by omega) e3 t2]
        simp only [Option.bind_some]
        rw [if_pos trivial,wi (n:=((v.toNat:Nat):Int)) (by omega) (by omega),wi (n:=(base:Int)+((v.toNat:Nat):Int)) (by omega) (by omega),wi (n:=(many:Int) - ((rowOf dn).length:Int)) (by omega) (by omega)]
        rw [e5,List.length_replicate] at hpre
        rw [if_neg (by omega),show (base:Int)+((v.toNat:Nat):Int)=((base+v.toNat:Nat):Int) by omega]
        have:=ref_row_l1 k val (base+v.toNat) (by omega) k 0 (rowOf dn) (by omega) (by omega) (by omega)
        rw [show ((0:Nat):Int)=0 from rfl] at this
        rw [this]
        simp only [Option.bind_some]
        rw [e5,e1] at IH
        exact IH
      by_cases h:sy=16
      · obtain ⟨d1,d2⟩:=c4 h
        have hr:ix (rowOf dn) (((rowOf dn).length:Int) - 1)=some ((rowOf dn).getD ((rowOf dn).length - 1) 0):=by
          rw [show ((rowOf dn).length:Int) - 1=(((rowOf dn).length - 1:Nat):Int) by omega,ix_nat (by omega)]
          simp [List.getD_eq_getElem?_getD,List.getElem?_eq_getElem (show (rowOf dn).length - 1<(rowOf dn).length by omega)]
        rw [if_pos h,df (show ¬ (((rowOf dn).length:Nat):Int)=0 by omega)]
        simp only [Option.bind_some,bf]
        rw [if_pos h,wi (n:=((rowOf dn).length:Int) - 1) (by omega) (by omega),hr]
        simp only [Option.bind_some]
        rw [if_neg (show ¬ sy=17 by omega)]
        simp only [Option.bind_some]
        rw [if_neg (show ¬ sy=18 by omega)]
        simp only [Option.bind_some]
        refine key 2 3 _ (by unfold moreN;rw [if_pos h]) (by decide) (by omega) (by decide) ?_
        unfold more;simp only;rw [if_pos h,show (3+v).toNat=3+v.toNat by omega]
      · rw [if_neg h]
        simp only [Option.bind_some,bf]
        rw [if_neg h]
        simp only [Option.bind_some]
        by_cases h7:sy=17
        · have d1:=c5 h7
          rw [if_pos h7]
          simp only [Option.bind_some]
          rw [if_neg (show ¬ sy=18 by omega)]
          simp only [Option.bind_some]
          refine key 3 3 _ (by unfold moreN;rw [if_neg h,if_pos h7]) (by decide) (by omega) (by decide) ?_
          unfold more;simp only;rw [if_neg h,if_pos h7,show (3+v).toNat=3+v.toNat by omega]
        · have h8:sy=18:=by omega
          have d1:=c6 h8
          rw [if_neg h7]
          simp only [Option.bind_some]
          rw [if_pos h8]
          simp only [Option.bind_some]
          refine key 7 11 _ (by unfold moreN;rw [if_neg h,if_neg h7,if_pos h8]) (by decide) (by omega) (by decide) ?_
          unfold more;simp only;rw [if_neg h,if_neg h7,if_pos h8,show (11+v).toNat=11+v.toNat by omega]
theorem ord_all:∀ p:Fin 19,((p.val:Nat):Int)∈ordL:=by decide
theorem ref_dyn_l0 (k:Nat) (hk:40≤k) {CL:List Int} (h19:CL.length=19) (hr:∀ s,0≤CL.getD s 0∧CL.getD s 0≤7) {w:Int} {s:List Int} {B:List Bool} (hw:Wr w s B) (hl:s.length≤1000000000) :
    ∀ (f i a:Nat) (R:List Int),i≤19→19 - i<f→a≤B.length→Sit B a ((ordL.drop i).flatMap (clB CL))→R.length=19→(∀ p,p<19→R.getD p 0=CL.getD p 0∨((p:Nat):Int)∈ordL.drop i) →
    g_quireref03_stream_dynamic_l0 k s 15 f (i:Int) (a:Int) R=some (Sum.inr (((a+((ordL.drop i).flatMap (clB CL)).length:Nat):Int),CL)):=by
  intro f
  induction f with
  | zero=>intro i a R _ h;omega
  | succ f ih =>
    intro i a R hi hf ha hs hR hp
    rw [g_quireref03_stream_dynamic_l0.eq_2]
    simp only [Option.bind_some,bd]
    rw [show IntKind.wrap .i64 (4+IntKind.wrap .i64 15)=19 from rfl]
    have ho:ordL.length=19:=rfl
    by_cases h:i<19
    · rw [if_pos (by omega)]
      have ed:ordL.drop i=ordL[i]::ordL.drop (i+1):=List.drop_eq_getElem_cons (by omega)
      rw [ed,List.flatMap_cons] at hs ⊢
      have s1:=hs.l
      have s2:=hs.r
      have a1:=s1.len' ha
      have e3:(clB CL ordL[i]).length=3:=by unfold clB;rw [vb_length]
      rw [e3] at a1 s2
      obtain ⟨o,ho1⟩:∃ o:Nat,ordL[i]=(o:Int)∧o≤18:=by
        have:=ord_rng ⟨i,h⟩
        rw [List.getD_eq_getElem?_getD,List.getElem?_eq_getElem (show i<ordL.length by omega)] at this
        simp only [Option.getD_some] at this
        exact ⟨ordL[i].toNat,by omega,by omega⟩
      have hv:=hr o
      unfold clB at s1
      rw [ho1.1,Int.toNat_natCast] at s1
      have ht:=take_ok k hk hw hl (c:=3) ha (by decide) (by omega) s1
      rw [show ((3:Nat):Int)=3 from rfl] at ht
      rw [ht]
      simp only [Option.bind_some,bnd',bd]
      have hix:ix ([16,17,18,0,8,7,9,6,10,5,11,4,12,3,13,2,14,1,15]:List Int) (i:Int)=some (o:Int):=by
        rw [show ([16,17,18,0,8,7,9,6,10,5,11,4,12,3,13,2,14,1,15]:List Int)=ordL from rfl,ix_nat (by omega)]
        exact congrArg some ho1.1
      rw [if_pos trivial,hix]
      simp only [Option.bind_some]
      rw [ix_nat (show o<R.length by omega)]
      simp only [Option.bind_some]
      rw [Int.toNat_natCast,show (((CL.getD o 0).toNat:Nat):Int)=CL.getD o 0 by omega,wi (n:=CL.getD o 0) (by omega) (by omega),wi (by omega) (by omega),show (i:Int)+1=((i+1:Nat):Int) by omega]
      rw [ih (i+1) (a+3) (R.set o (CL.getD o 0)) (by omega) (by omega) a1 s2 (by rw [List.length_set];exact hR) ?_]
      · congr 3
        rw [List.length_append,e3];omega
      · intro p hp19
        by_cases e:p=o
        · subst e
          exact .inl (by rw [List.getD_eq_getElem?_getD,List.getElem?_set_self (by omega)];rfl)
        · rcases hp p hp19 with q | q
          · exact .inl (by rw [List.getD_eq_getElem?_getD,List.getElem?_set_ne (by omega),← List.getD_eq_getElem?_getD];exact q)
          · rw [ed,ho1.1] at q
            rcases List.mem_cons.1 q with q | q
            · omega
            · exact .inr q
    · rw [if_neg (by omega)]
      have:i=19:=by omega
      subst this
      have eR:R=CL:=by
        refine List.ext_getElem (by omega) fun p h1 h2=>?_
        rcases hp p (by omega) with q | q
        · rw [List.getD_eq_getElem?_getD,List.getD_eq_getElem?_getD,List.getElem?_eq_getElem h1,List.getElem?_eq_getElem h2] at q
          exact q
        · rw [show ordL.drop 19=[] from rfl] at q;simp at q
      rw [eR];rfl
theorem vb_add (v c d:Nat):vb v (c+d)=vb (v%2^c) c++vb (v / 2^c) d:=by
  refine List.ext_getElem (by simp [vb_length]) fun i h1 h2=>?_
  rw [vb_length] at h1
  have e1:(vb v (c+d))[i]=v.testBit i:=by simp [vb]
  rw [e1]
  by_cases h:i<c
  · rw [List.getElem_append_left (by rw [vb_length];exact h)]
    simp [vb,Nat.testBit_mod_two_pow,h]
  · rw [List.getElem_append_right (by rw [vb_length];omega)]
    simp only [vb,List.getElem_map,List.getElem_range,List.length_map,List.length_range,Nat.testBit_div_two_pow]
    congr 1;omega
theorem byte_at {n:Int} {s:List Int} {B:List Bool} (hw:Wr n s B) {i v:Nat} (hi:8*i+8≤B.length) (hv:v<256) (h:Sit B (8*i) (vb v 8)):s[i]? = some (v:Int):=by
  have hl:=hw.l
  have hi':i<s.length:=by omega
  have hok:=hw.ok _ (List.getElem_mem hi')
  rw [List.getElem?_eq_getElem hi']
  congr 1
  have:BitVec.ofInt 8 s[i]=BitVec.ofNat 8 v:=by
    apply BitVec.eq_of_getLsbD_eq
    intro j hj
    have h1:=hw.bit (8*i+j)
    rw [h.get (by rw [vb_length];exact hj),vb_get hj] at h1
    unfold bitAt at h1
    rw [show (8*i+j) / 8=i by omega,show (8*i+j)%8=j by omega,List.getD_eq_getElem?_getD,List.getElem?_eq_getElem hi'] at h1
    simp only [Option.getD_some] at h1
    rw [h1,BitVec.getLsbD_ofNat];simp [hj]
  have e:=okB_bv hok
  rw [this,BitVec.toNat_ofNat,Nat.mod_eq_of_lt (by omega)] at e
  exact e
theorem bytes_at {n:Int} {s:List Int} {B:List Bool} (hw:Wr n s B):∀ (x:List Int) (i:Nat),okB x→8*i+8*x.length≤B.length→Sit B (8*i) (bytesB x)→List.drop i (List.take (i+x.length) s)=x
  | [],i,_,_,_=>by simp
  | v::x,i,hx,hi,h=>by
    have hl:=hw.l
    simp only [List.length_cons] at hi ⊢
    have e:bytesB (v::x)=vb v.toNat 8++bytesB x:=rfl
    rw [e] at h
    have hv:=hx v (List.mem_cons_self ..)
    have h1:=byte_at hw (by omega) (by omega) h.l
    have h2:=h.r
    rw [vb_length,show 8*i+8=8*(i+1) by omega] at h2
    have ih:=bytes_at hw x (i+1) (fun y hy=>hx y (List.mem_cons_of_mem _ hy)) (by omega) h2
    have hi':i<s.length:=by omega
    rw [List.getElem?_eq_getElem hi'] at h1
    rw [show i+(x.length+1)=i+1+x.length by omega,List.drop_eq_getElem_cons (by rw [List.length_take];omega),ih,List.getElem_take]
    congr 1
    have:=Option.some.inj h1
    omega
theorem ref_bytes (k:Nat) {n:Int} {s:List Int} {B:List Bool} (hw:Wr n s B) (hl:s.length≤1000000000) {x:List Int} (hx:okB x) {a i:Nat} (hi:(a+7) / 8=i) (hB:8*i+8*x.length≤B.length) (h:Sit B (8*i) (bytesB x)) :
    g_quireref01_Reader_Bytes k (x.length:Int) s (a:Int)=some (x,0,((8*i+8*x.length:Nat):Int)):=by
  have hbl:=hw.l
  unfold g_quireref01_Reader_Bytes g_quireref01_Reader_Align g_quireref01_Reader_Left
  simp only [Option.bind_some,bd]
  rw [if_neg (by omega),wi (n:=(a:Int)+7) (by omega) (by omega),show Int.tdiv ((a:Int)+7) 8=(i:Int) by rw [show (a:Int)+7=((a+7:Nat):Int) by omega,← hi];rfl,wi (n:=(i:Int)) (by omega) (by omega),wi (n:=(i:Int)*8) (by omega) (by omega),wi (n:=8*(s.length:Int)) (by omega) (by omega),wi (n:=8*(s.length:Int) - (i:Int)*8) (by omega) (by omega),
    show 8*(s.length:Int) - (i:Int)*8=((8*(s.length - i):Nat):Int) by omega,show Int.tdiv ((8*(s.length - i):Nat):Int) 8=((s.length - i:Nat):Int) by rw [show ((s.length - i:Nat):Int)=(((8*(s.length - i)) / 8:Nat):Int) by omega];rfl,wi (n:=((s.length - i:Nat):Int)) (by omega) (by omega)]
  rw [if_neg (by omega),show (i:Int)*8=((8*i:Nat):Int) by omega,show Int.tdiv ((8*i:Nat):Int) 8=(i:Int) by rw [show (i:Int)=(((8*i) / 8:Nat):Int) by omega];rfl,wi (n:=(i:Int)) (by omega) (by omega),wi (n:=(i:Int)+(x.length:Int)) (by omega) (by omega),wi (n:=8*(x.length:Int)) (by omega) (by omega),wi (n:=((8*i:Nat):Int)+8*(x.length:Int)) (by omega) (by omega)]
  rw [if_pos (by omega),Int.toNat_natCast,show ((i:Int)+(x.length:Int)).toNat=i+x.length by omega,bytes_at hw x i hx hB h,if_pos (by simp;omega)]
  rw [List.nil_append]
  congr 3
theorem or64n {x y:Nat} (hx:x<4294967296) (hy:y<4294967296):bits .or .i64 (x:Int) (y:Int)=((x ||| y:Nat):Int):=by
  have e:bits .or .i64 (x:Int) (y:Int)=IntKind.wrap .i64 ((BitVec.ofInt 64 (x:Int) ||| BitVec.ofInt 64 (y:Int)).toNat:Int):=rfl
  have h:x ||| y<2^32:=Nat.or_lt_two_pow hx hy
  rw [e,BitVec.ofInt_natCast,BitVec.ofInt_natCast,BitVec.toNat_or,BitVec.toNat_ofNat,BitVec.toNat_ofNat,Nat.mod_eq_of_lt (by omega),Nat.mod_eq_of_lt (by omega),wi (by omega) (by omega)]
theorem and64n {x y:Nat} (hx:x<4294967296) (hy:y<4294967296):bits .and .i64 (x:Int) (y:Int)=((x &&& y:Nat):Int):=by
  have e:bits .and .i64 (x:Int) (y:Int)=IntKind.wrap .i64 ((BitVec.ofInt 64 (x:Int) &&& BitVec.ofInt 64 (y:Int)).toNat:Int):=rfl
  have h:x &&& y≤x:=Nat.and_le_left
  rw [e,BitVec.ofInt_natCast,BitVec.ofInt_natCast,BitVec.toNat_and,BitVec.toNat_ofNat,BitVec.toNat_ofNat,Nat.mod_eq_of_lt (by omega),Nat.mod_eq_of_lt (by omega),wi (by omega) (by omega)]
theorem word {n:Nat} (hn:n≤65535):bits .or .i64 (IntKind.wrap .i64 ((n%256:Nat):Int)) (shlI .i64 (IntKind.wrap .i64 ((n / 256:Nat):Int)) 8)=(n:Int):=by
  have e:shlI .i64 ((n / 256:Nat):Int) 8=((n / 256*256:Nat):Int):=by
    show IntKind.wrap .i64 (((n / 256:Nat):Int)*256)=_
    rw [wi (by omega) (by omega)];omega
  rw [wi (n:=((n%256:Nat):Int)) (by omega) (by omega),wi (n:=((n / 256:Nat):Int)) (by omega) (by omega),e,or64n (by omega) (by omega)]
  have:=Nat.two_pow_add_eq_or_of_lt (i:=8) (b:=n%256) (by omega) (n / 256)
  rw [Nat.or_comm,show n / 256*256=2^8*(n / 256) by omega,← this]
  omega
theorem and_com {n:Nat} (hn:n≤65535):n &&& (65535 - n)=0:=by
  apply Nat.eq_of_testBit_eq
  intro j
  have:=Nat.testBit_two_pow_sub_succ (n:=16) (x:=n) (by omega) j
  rw [Nat.testBit_and,show 65535 - n=2^16 - (n+1) by omega,this,Nat.zero_testBit]
  cases n.testBit j <;> simp
theorem vb16 (v:Nat):vb v 16=vb (v%256) 8++vb (v / 256) 8:=vb_add v 8 8
theorem vb_mod (v c:Nat):vb (v%2^c) c=vb v c:=by
  refine List.ext_getElem (by simp [vb_length]) fun i h1 h2=>?_
  rw [vb_length] at h1
  simp [vb,Nat.testBit_mod_two_pow,h1]
theorem vb_eqm {v w c:Nat} (h:v%2^c=w%2^c):vb v c=vb w c:=by
  have h1:=vb_mod v c
  have h2:=vb_mod w c
  rw [h] at h1
  exact h1.symm.trans h2
theorem com_mod {n m:Nat} (hm:m=4294967295) (hn:n≤65535):(m - n)%2^16=(65535 - n)%2^16:=by
  have e:(2:Nat)^16=65536:=by decide
  rw [e]
  omega
theorem vb_comm {n m:Nat} (hm:m=4294967295) (hn:n≤65535):vb (m - n) 16=vb (65535 - n) 16:=vb_eqm (com_mod hm hn)
set_option maxRecDepth 20000 in
theorem vb_com {n:Nat} (hn:n≤65535):vb (4294967295 - n) 16=vb (65535 - n) 16:=vb_comm rfl hn
theorem bytes4 (a b c d:Nat):bytesB [(a:Int),b,c,d]=vb a 8++(vb b 8++(vb c 8++vb d 8)):=by
  simp [bytesB]
theorem stored0 (k:Nat) {s:List Int} {a p p2:Int} {b0 b1 b2 b3:Int} {N M:Int} {x out:List Int} {most:Nat} (r1:g_quireref01_Reader_Bytes k 4 s a=some ([b0,b1,b2,b3],0,p))
    (w1:bits .or .i64 (IntKind.wrap .i64 b0) (shlI .i64 (IntKind.wrap .i64 b1) 8)=N) (w2:bits .or .i64 (IntKind.wrap .i64 b2) (shlI .i64 (IntKind.wrap .i64 b3) 8)=M) (hs:IntKind.wrap .i64 (N+M)=65535) (ha:bits .and .i64 N M=0)
    (hm:most≤1048576) (ho:out.length+x.length≤most) (hN:N=(x.length:Int)) (r2:g_quireref01_Reader_Bytes k N s p=some (x,0,p2)) :
    g_quireref03_stream_stored k (most:Int) s a out=some (0,p2,out++x):=by
  unfold g_quireref03_stream_stored
  rw [r1]
  rw [Option.bind_some]
  simp only [bnd']
  rw [if_pos trivial]
  have g0:ix [b0,b1,b2,b3] 0=some b0:=rfl
  have g1:ix [b0,b1,b2,b3] 1=some b1:=rfl
  have g2:ix [b0,b1,b2,b3] 2=some b2:=rfl
  have g3:ix [b0,b1,b2,b3] 3=some b3:=rfl
  rw [g0,Option.bind_some,g1,Option.bind_some,w1,Option.bind_some,g2,Option.bind_some,g3,Option.bind_some,w2,Option.bind_some,hs,ha]
  rw [show (!decide ((65535:Int)=65535))=false by decide,Option.bind_some,cond_false,show (!decide ((0:Int)=0))=false by decide,Option.bind_some,Option.bind_some,cond_false,Option.bind_some]
  rw [wi (n:=(most:Int) - (out.length:Int)) (by omega) (by omega),df (show ¬ (most:Int) - (out.length:Int)<N by omega),cond_false,r2,Option.bind_some]
  simp only []
  rw [dt trivial,cond_true,dt (by omega),cond_true,Option.bind_some]
theorem ref_stored (k:Nat) {n:Int} {s:List Int} {B:List Bool} (hw:Wr n s B) (hl:s.length≤1000000000) {x:List Int} (hx:okB x) (hx2:x.length≤65535) {i:Nat} {last:Bool} (hB:8*i+(blkB last x).length≤B.length) (h:Sit B (8*i) (blkB last x)) {most:Nat} {out:List Int} (ho:out.length+x.length≤most) (hm:most≤1048576) :
    g_quireref03_stream_stored k (most:Int) s ((8*i+3:Nat):Int) out=some (0,((8*(i+5+x.length):Nat):Int),out++x):=by
  rw [blk_len] at hB
  unfold blkB at h
  have h1:=h.r
  have h2:=h1.r
  rw [vb_com hx2,← List.append_assoc,vb16 x.length,vb16 (65535 - x.length)] at h2
  have h3:=h2.l
  have h4:=h2.r
  simp only [List.length_cons,List.length_nil,List.length_replicate,List.length_append,vb_length] at h3 h4
  rw [show 8*i+(0+1+1+1)+5=8*(i+1) by omega] at h3 h4
  rw [show 8*(i+1)+(8+8+(8+8))=8*(i+5) by omega] at h4
  have e4:=bytes4 (x.length%256) (x.length / 256) ((65535 - x.length)%256) ((65535 - x.length) / 256)
  rw [List.append_assoc,← e4] at h3
  have r1:=ref_bytes k hw hl (x:=[((x.length%256:Nat):Int),((x.length / 256:Nat):Int),(((65535 - x.length)%256:Nat):Int),(((65535 - x.length) / 256:Nat):Int)]) (by
    intro v hv
    simp only [List.mem_cons,List.not_mem_nil,or_false] at hv
    rcases hv with rfl | rfl | rfl | rfl <;> omega) (a:=8*i+3) (i:=i+1) (by omega) (by simp only [List.length_cons,List.length_nil];omega) h3
  rw [show (([((x.length%256:Nat):Int),((x.length / 256:Nat):Int),(((65535 - x.length)%256:Nat):Int),(((65535 - x.length) / 256:Nat):Int)]:List Int).length)=4 from rfl,show ((4:Nat):Int)=4 from rfl] at r1
  have r2:=ref_bytes k hw hl hx (a:=8*(i+1)+8*4) (i:=i+5) (by omega) (by omega) h4
  have:=stored0 k r1 (word hx2) (word (n:=65535 - x.length) (by omega)) (by rw [wi (by omega) (by omega)];omega) (by rw [and64n (by omega) (by omega),and_com hx2];rfl) hm ho rfl r2
  rw [this]
  rw [show 8*(i+5)+8*x.length=8*(i+5+x.length) by omega]
theorem Sit.all {B:List Bool}:Sit B 0 B:=by unfold Sit;rw [List.drop_zero];exact List.prefix_refl _
theorem ref_dynamic (k:Nat) {b:List Int} (hb:b.length≤1048576) (hB:Bytes b) {l:List It} (hk:l.length+1000≤k) (hp:PI b 0 l) {w:Int} {s:List Int} {B:List Bool} (hd:DynB l B) (hw:Wr w s B) (hl:s.length≤1000000000) :
    B.take 3=[true,false,true]∧3≤B.length∧g_quireref03_stream_dynamic k (b.length:Int) s (3:Int) []=some (0,(B.length:Int),b):=by
  obtain ⟨ll,dl,CL,q,jl,jd,⟨jc,fc⟩,c19,cr,l1,d1,hq,okq,usq,okl,u256,e⟩:=hd
  obtain ⟨X,hX⟩:∃ X,X=vb (ll.length - 257) 5++(vb (dl.length - 1) 5++(vb 15 4++(ordL.flatMap (clB CL)++(q.flatMap (syB CL)++(l.flatMap (itB ll dl)++codeB ll 256))))):=⟨_,rfl⟩
  have eB:B=[true,false,true]++X:=by rw [e,hX];simp only [List.append_assoc]
  have hbl:=hw.l
  have s0:Sit B 3 X:=⟨[],by rw [eB];simp⟩
  have lB:B.length=3+X.length:=by rw [eB];simp;omega
  refine ⟨by rw [eB];rfl,by omega,?_⟩
  rw [hX] at s0 lB
  have t1:=s0.l
  have s1:=s0.r
  have t2:=s1.l
  have s2:=s1.r
  have t3:=s2.l
  have s3:=s2.r
  have t4:=s3.l
  have s4:=s3.r
  have t5:=s4.l
  have t6:=s4.r
  have b0:3≤B.length:=by omega
  have b1:=t1.len' b0
  have b2:=t2.len' b1
  have b3:=t3.len' b2
  have b4:=t4.len' b3
  have b5:=t5.len' b4
  simp only [List.length_append] at lB
  rw [vb_length] at lB b1 b2 b3 b4 b5 t2 t3 t4 t5 t6
  rw [vb_length] at lB b2 b3 b4 b5 t3 t4 t5 t6
  rw [vb_length] at lB b3 b4 b5 t4 t5 t6
  unfold g_quireref03_stream_dynamic
  have r1:=take_ok k (by omega) hw hl (c:=5) b0 (by decide) (by omega) t1
  have r2:=take_ok k (by omega) hw hl (c:=5) b1 (by decide) (by omega) t2
  have r3:=take_ok k (by omega) hw hl (c:=4) b2 (by decide) (by decide) t3
  rw [show ((5:Nat):Int)=5 from rfl,show ((3:Nat):Int)=3 from rfl] at r1
  rw [show ((5:Nat):Int)=5 from rfl] at r2
  rw [show ((4:Nat):Int)=4 from rfl,show ((15:Nat):Int)=15 from rfl] at r3
  rw [r1]
  simp only [Option.bind_some,bnd',bd]
  rw [if_pos trivial,r2]
  simp only [Option.bind_some,bnd',bd]
  rw [if_pos trivial,r3]
  simp only [Option.bind_some,bnd',bd]
  rw [if_pos trivial,wi (n:=((ll.length - 257:Nat):Int)) (by omega) (by omega),wi (n:=((dl.length - 1:Nat):Int)) (by omega) (by omega),wi (n:=(257:Int)+((ll.length - 257:Nat):Int)) (by omega) (by omega),wi (n:=(1:Int)+((dl.length - 1:Nat):Int)) (by omega) (by omega),show (257:Int)+((ll.length - 257:Nat):Int)=(ll.length:Int) by omega,show (1:Int)+((dl.length - 1:Nat):Int)=(dl.length:Int) by omega]
  rw [if_neg (by omega),df (by omega)]
  simp only [Option.bind_some,bf]
  unfold g_quireref03_Order
  simp only [Option.bind_some]
  rw [if_pos (by decide),show Int.toNat 19=19 from rfl]
  have r4:=ref_dyn_l0 k (by omega) c19 cr hw hl k 0 _ (List.replicate 19 0) (by decide) (by omega) b3 (by rw [List.drop_zero];exact t4) (by simp) (fun p hp=>.inr (by rw [List.drop_zero];exact ord_all ⟨p,hp⟩))
  rw [show ((0:Nat):Int)=0 from rfl,List.drop_zero] at r4
  rw [r4]
  simp only [Option.bind_some]
  rw [g_quireref02_Full_eq (by omega),fc]
  simp only [Option.bind_some,Bool.not_true,bf]
  rw [ref_coded k (by omega) jc]
  simp only [Option.bind_some]
  have lq:(rowOf q).length=ll.length+dl.length:=by rw [hq,List.length_append]
  have r5:=ref_row k (by omega) jc hw hl (ll.length+dl.length) (by omega) q [] okq usq lq k _ (by
    have:=lq
    have hle:∀ (q:List (Int × Int)) (dn:List (Int × Int)),okP (dn++q)→(rowOf dn).length+q.length≤(rowOf (dn++q)).length:=by
      intro q
      induction q with
      | nil=>intro dn _;simp
      | cons x q ih =>
        intro dn ho
        have e0:dn++x::q=(dn++[x])++q:=by simp
        have:=ih (dn++[x]) (by rw [← e0];exact ho)
        rw [e0]
        rw [rowOf_app,List.length_append] at this
        have hx:okQ (rowOf dn) x:=by
          have:=ho dn.length (by simp)
          rw [List.take_left] at this
          simpa using this
        obtain ⟨c0,c18,c2,c3,c4,c5,c6⟩:=hx
        have:0<(more (rowOf dn) x).length:=by
          unfold more
          split
          · simp only [List.length_replicate];omega
          · split
            · simp only [List.length_replicate];omega
            · split
              · simp only [List.length_replicate];omega
              · simp
        simp only [List.length_cons]
        omega
    have:=hle q [] okq
    simp only [List.nil_append] at this
    omega) b4 t5
  rw [List.nil_append] at r5
  unfold g_quireref03_stream_row
  rw [wi (n:=(ll.length:Int)+(dl.length:Int)) (by omega) (by omega),show (ll.length:Int)+(dl.length:Int)=((ll.length+dl.length:Nat):Int) by omega,show (([]:List Int))=rowOf [] from rfl,r5]
  simp only [Option.bind_some,bnd',bd]
  rw [if_pos trivial,hq,show (256:Int)=((256:Nat):Int) from rfl,ix_nat (by rw [List.length_append];omega),List.getElem_append_left (by omega)]
  simp only [Option.bind_some,bd]
  have h256:ll[256]'(by omega)≠0:=by
    have:=u256.2
    rw [List.getD_eq_getElem?_getD,List.getElem?_eq_getElem (by omega)] at this
    simp only [Option.getD_some] at this
    omega
  rw [if_neg h256,List.length_append,if_pos (by omega),Int.toNat_natCast,Int.toNat_natCast,Int.toNat_zero,List.drop_zero,List.take_left',ref_coded k (by omega) jl]
  simp only [Option.bind_some,bnd',bd]
  rw [if_pos trivial,if_pos (by omega),List.take_of_length_le (by rw [List.length_append];exact Nat.le_refl _),List.drop_left',ref_coded k (by omega) jd]
  simp only [Option.bind_some,bnd',bd]
  rw [if_pos trivial]
  unfold g_quireref03_stream_symbols
  have r6:=ref_symbols k (by omega) hb hB jl jd u256 hw hl l 0 hp (Nat.zero_le _) okl k _ (by omega) b5 t6
  rw [List.take_zero] at r6
  rw [show rowOf []=([]:List Int) from rfl,r6]
  simp only [Option.bind_some]
  congr 3
  simp only [List.length_append] at *
  omega
  all_goals rfl
theorem rfixedLit0:g_quireref03_FixedLit 300=some lfix:=by decide +kernel
theorem rfixedDist0:g_quireref03_FixedDist 300=some dfix:=by decide +kernel
theorem ref_fixed (k:Nat) {b:List Int} (hb:b.length≤1048576) (hB:Bytes b) {l:List It} (hk:l.length+1000≤k) (hp:PI b 0 l) {w:Int} {s:List Int} {B:List Bool} (he:B=fixedB l) (hw:Wr w s B) (hl:s.length≤1000000000) :
    B.take 3=[true,true,false]∧3≤B.length∧g_quireref03_stream_block k 1 (b.length:Int) s (3:Int) []=some (0,(B.length:Int),b):=by
  unfold fixedB at he
  obtain ⟨X,hX⟩:∃ X,X=l.flatMap (itB lfix dfix)++codeB lfix 256:=⟨_,rfl⟩
  rw [← hX] at he
  have s0:Sit B 3 X:=⟨[],by rw [he];simp⟩
  have lB:B.length=3+X.length:=by rw [he];simp;omega
  refine ⟨by rw [he];rfl,by omega,?_⟩
  rw [hX] at s0
  have hok:=pi_ok hB (fun s hs=>lfix_us hs) (fun s hs=>dfix_us hs) hp
  unfold g_quireref03_stream_block g_quireref03_stream_symbols
  rw [df (show ¬ (1:Int)=0 by decide),cond_false,dt (show (1:Int)=1 from rfl),cond_true,(g_quireref03_FixedLit_mono (show 300≤k by omega)).h _ rfixedLit0,Option.bind_some,ref_coded k (by omega) lfix_judge,Option.bind_some]
  simp only []
  rw [(g_quireref03_FixedDist_mono (show 300≤k by omega)).h _ rfixedDist0,Option.bind_some,ref_coded k (by omega) dfix_judge,Option.bind_some]
  simp only []
  have r6:=ref_symbols k (by omega) hb hB lfix_judge dfix_judge (lfix_us (by decide)) hw hl l 0 hp (Nat.zero_le _) hok k 3 (by omega) (by omega) s0
  rw [List.take_zero,show ((3:Nat):Int)=3 from rfl] at r6
  rw [r6,Option.bind_some]
  simp only []
  rw [Option.bind_some]
  simp only []
  rw [lB,hX]
theorem inf_last (k:Nat) (hk:40≤k) {w:Int} {s:List Int} {B:List Bool} (hw:Wr w s B) (hl:s.length≤1000000000) {y z:Bool} (h3:B.take 3=[true,y,z]) (hB:3≤B.length) {most:Int} {b:List Int} (f:Nat)
    (hblk:g_quireref03_stream_block k ((y.toNat+2*z.toNat:Nat):Int) most s 3 []=some (0,(B.length:Int),b)) :
    g_quireref03_Inflate_l0 k s most (f+1) 0 []=some ((s.length:Int),0,b):=by
  have hbl:=hw.l
  have hsit:Sit B 0 [true,y,z]:=by unfold Sit;rw [List.drop_zero,← h3];exact List.take_prefix _ _
  have g0:B.getD 0 false=true:=by have:=hsit.get (j:=0) (by simp);simpa using this
  have hs2:Sit B 1 (vb (y.toNat+2*z.toNat) 2):=by
    have:vb (y.toNat+2*z.toNat) 2=[y,z]:=by cases y <;> cases z <;> decide
    rw [this]
    exact Sit.r (L1:=[true]) (L2:=[y,z]) hsit
  have e1:=bit_ok k hk hw hl (a:=0) (by omega) g0
  have e2:=take_ok k hk hw hl (a:=1) (c:=2) (by omega) (by decide) (by cases y <;> cases z <;> decide) hs2
  rw [show ((0:Nat):Int)=0 from rfl,show ((0+1:Nat):Int)=((1:Nat):Int) from rfl] at e1
  rw [show ((2:Nat):Int)=2 from rfl,show ((1+2:Nat):Int)=3 from rfl] at e2
  rw [g_quireref03_Inflate_l0.eq_2,e1,Option.bind_some]
  simp only []
  rw [show (!decide True)=false from rfl,cond_false,e2,Option.bind_some]
  simp only []
  rw [show (!decide True)=false from rfl,cond_false,hblk,Option.bind_some]
  simp only []
  rw [show (!decide True)=false from rfl,cond_false,dt (show ((true.toNat:Nat):Int)=1 from rfl),cond_true,wi (n:=(B.length:Int)+7) (by omega) (by omega),show Int.tdiv ((B.length:Int)+7) 8=(s.length:Int) by rw [show (B.length:Int)+7=((B.length+7:Nat):Int) by omega,hbl];rfl,wi (by omega) (by omega),Option.bind_some]
theorem inf_stored (k:Nat) (hk:100≤k) {w:Int} {s:List Int} {B:List Bool} (hw:Wr w s B) (hl:s.length≤1000000000) {most:Nat} (hm:most≤1048576):∀ (m i f:Nat) (x out:List Int),okB x→x.length<65535*m→m≤f→8*i+(storedB m x).length=B.length→Sit B (8*i) (storedB m x)→out.length+x.length≤most →
    g_quireref03_Inflate_l0 k s (most:Int) f ((8*i:Nat):Int) out=some ((s.length:Int),0,out++x):=by
  have hbl:=hw.l
  intro m
  induction m with
  | zero=>intro i f x out _ h;omega
  | succ m ih =>
    intro i f x out hx hxl hf hB hs ho
    obtain ⟨f,rfl⟩:∃ j,f=j+1:=⟨f - 1,by omega⟩
    have head:∀ (last:Bool) (y:List Int),Sit B (8*i) (blkB last y)→8*i+3≤B.length→okB y→y.length≤65535→8*i+(blkB last y).length≤B.length→out.length+y.length≤most →
        g_quireref03_Inflate_l0 k s (most:Int) (f+1) ((8*i:Nat):Int) out=bif last then some (((i+5+y.length:Nat):Int),0,out++y) else g_quireref03_Inflate_l0 k s (most:Int) f ((8*(i+5+y.length):Nat):Int) (out++y):=by
      intro last y h h3 hy hy2 hB2 ho2
      have g0:B.getD (8*i) false=last:=by
        have:=h.get (j:=0) (by rw [blk_len];omega)
        rw [Nat.add_zero] at this
        rw [this];rfl
      have hs2:Sit B (8*i+1) (vb 0 2):=by
        have:blkB last y=[last]++([false,false]++(List.replicate 5 false++(vb y.length 16++(vb (4294967295 - y.length) 16++bytesB y)))):=rfl
        rw [this] at h
        exact (h.r).l
      have e1:=bit_ok k (by omega) hw hl (a:=8*i) (by omega) g0
      have e2:=take_ok k (by omega) hw hl (a:=8*i+1) (c:=2) (v:=0) (by omega) (by decide) (by decide) hs2
      rw [show ((2:Nat):Int)=2 from rfl,show 8*i+1+2=8*i+3 from rfl] at e2
      have e3:=ref_stored k hw hl hy hy2 hB2 h ho2 hm
      rw [g_quireref03_Inflate_l0.eq_2,e1,Option.bind_some]
      simp only []
      rw [show (!decide True)=false from rfl,cond_false,e2,Option.bind_some]
      simp only []
      rw [show (!decide True)=false from rfl,cond_false]
      unfold g_quireref03_stream_block
      rw [dt (show ((0:Nat):Int)=0 from rfl),cond_true,e3,Option.bind_some]
      simp only []
      rw [Option.bind_some]
      simp only []
      rw [show (!decide True)=false from rfl,cond_false]
      rw [blk_len] at hB2
      cases last with
      | true =>
        rw [dt (show ((true.toNat:Nat):Int)=1 from rfl),cond_true,cond_true,wi (n:=((8*(i+5+y.length):Nat):Int)+7) (by omega) (by omega),show Int.tdiv (((8*(i+5+y.length):Nat):Int)+7) 8=((i+5+y.length:Nat):Int) by rw [show ((8*(i+5+y.length):Nat):Int)+7=((8*(i+5+y.length)+7:Nat):Int) by omega,show ((i+5+y.length:Nat):Int)=(((8*(i+5+y.length)+7) / 8:Nat):Int) by omega];rfl,wi (by omega) (by omega),Option.bind_some]
      | false=>rw [df (show ¬ ((false.toNat:Nat):Int)=1 by decide),cond_false,cond_false]
    unfold storedB at hB hs
    by_cases h:x.length≤65535
    · rw [if_pos h] at hB hs
      have hB':=hB
      rw [blk_len] at hB
      rw [head true x hs (by omega) hx h (by omega) ho,cond_true]
      congr 2
      omega
    · rw [if_neg h] at hB hs
      rw [List.length_append] at hB
      have hB':=hB
      have lt:(x.take 65535).length=65535:=by rw [List.length_take];omega
      rw [blk_len,lt] at hB
      have h2:=hs.r
      rw [blk_len,lt,show 8*i+8*(5+65535)=8*(i+5+65535) by omega] at h2
      rw [head false (x.take 65535) hs.l (by omega) (fun v hv=>hx v (List.mem_of_mem_take hv)) (by omega) (by omega) (by omega),cond_false,lt]
      rw [ih (i+5+65535) f (x.drop 65535) _ (fun v hv=>hx v (List.mem_of_mem_drop hv)) (by rw [List.length_drop];omega) (by omega) (by omega) h2 (by rw [List.length_append,lt,List.length_drop];omega),List.append_assoc,List.take_append_drop]
theorem ref_inflate (k:Nat) {b:List Int} (hb:b.length≤1048576) (hB:Bytes b) (hk:b.length+1000≤k) {level:Int} {w:Int} {s:List Int} {B:List Bool} (hw:Wr w s B) (hl:s.length≤1000000000) (hs:StB b level B) :
    g_quireref03_Inflate k s (b.length:Int)=some (b,(s.length:Int),0):=by
  unfold g_quireref03_Inflate
  rw [df (by omega),cond_false]
  have key:g_quireref03_Inflate_l0 k s (b.length:Int) k 0 []=some ((s.length:Int),0,b):=by
    obtain ⟨k',hk'⟩:∃ j,k=j+1:=⟨k - 1,by omega⟩
    rcases hs with h | ⟨_,l,hp,h⟩ | ⟨_,l,hp,h⟩
    · have:=inf_stored k (by omega) hw hl hb 20 0 k b [] hB (by omega) (by omega) (by rw [h];omega) (by rw [h,Nat.mul_zero];exact Sit.all) (by simp)
      rw [Nat.mul_zero,show ((0:Nat):Int)=0 from rfl,List.nil_append] at this
      exact this
    · have hlen:=pi_len hp
      obtain ⟨h1,h2,h3⟩:=ref_fixed k hb hB (by omega) hp h hw hl
      have:=inf_last k (by omega) hw hl h1 h2 k' h3
      rw [← hk'] at this
      exact this
    · have hlen:=pi_len hp
      obtain ⟨h1,h2,h3⟩:=ref_dynamic k hb hB (by omega) hp h hw hl
      have:=inf_last k (by omega) hw hl h1 h2 k' (most:=(b.length:Int)) (b:=b) (by
        unfold g_quireref03_stream_block
        rw [show ((false.toNat+2*true.toNat:Nat):Int)=2 from rfl,df (show ¬ (2:Int)=0 by decide),cond_false,df (show ¬ (2:Int)=1 by decide),cond_false,dt (show (2:Int)=2 from rfl),cond_true,h3,Option.bind_some])
      rw [← hk'] at this
      exact this
  rw [key,Option.bind_some]
theorem stored_most:∀ (m:Nat) (x:List Int),(storedB m x).length≤8*(x.length+5*((x.length+65534) / 65535)+5)
  | 0,x=>by unfold storedB;simp
  | m+1,x=>by
    unfold storedB
    by_cases h:x.length≤65535
    · rw [if_pos h,blk_len];omega
    · rw [if_neg h,List.length_append,blk_len]
      have:=stored_most m (x.drop 65535)
      rw [List.length_drop] at this
      rw [List.length_take]
      omega
theorem deflateBack (b:List Int) (level:Int) (wb:b.length≤maxLen∧∀ z∈b,(Lit.int .u8 z).wf=true) (wl:(Lit.int .i64 level).wf=true):∃ k,g_quirelaw04_DeflateBack k b level=some (Sum.inl true):=by
  refine ⟨(b.length+400000)+300,?_⟩
  unfold g_quirelaw04_DeflateBack
  by_cases h:level<0∨2<level
  · rw [deflate_bad _ b level h,Option.bind_some]
    simp only []
    have:(bif decide (level<0) then some true else some (decide (2<level)))=some true:=by
      by_cases h0:level<0
      · rw [dt h0];rfl
      · rw [df h0,dt (by omega)];rfl
    rw [this,Option.bind_some,cond_true,alive4];rfl
  · have:(bif decide (level<0) then some true else some (decide (2<level)))=some false:=by
      rw [df (by omega),df (by omega)];rfl
    by_cases hb:1048576<b.length
    · rw [deflate_big _ b level (by omega) (by omega) hb,Option.bind_some]
      simp only []
      rw [this,Option.bind_some,cond_false,dt (by omega),Option.bind_some,cond_true,alive4];rfl
    · obtain ⟨n,s,B,e,w,hs,hst,_⟩:=deflate_ok2 (b.length+400000+300) b (bytes_wf wb.2) (by omega) (by omega) level (by omega) (by omega)
      have hmost:=stored_most 20 b
      rw [e,Option.bind_some]
      simp only []
      rw [this,Option.bind_some,cond_false,df (by omega),Option.bind_some,cond_false,ref_inflate _ (by omega) (bytes_wf wb.2) (by omega) w (by omega) hs,Option.bind_some]
      simp only []
      have em:∀ k,g_quireref04_Most k (b.length:Int)=some (((b.length+5*((b.length+65534) / 65535)+6:Nat)):Int):=by
        intro k
        unfold g_quireref04_Most
        rw [wi (n:=(b.length:Int)+65534) (by omega) (by omega),show Int.tdiv ((b.length:Int)+65534) 65535=(((b.length+65534) / 65535:Nat):Int) by rw [show (b.length:Int)+65534=((b.length+65534:Nat):Int) by omega];rfl,wi (by omega) (by omega),Option.bind_some,wi (n:=5*(((b.length+65534) / 65535:Nat):Int)) (by omega) (by omega),wi (by omega) (by omega),Option.bind_some,wi (by omega) (by omega)]
        congr 1
      rw [dt trivial,cond_true,cond_true,Option.bind_some,cond_true,same_self,Option.bind_some,cond_true,em,Option.bind_some,Option.bind_some,dt (by omega),cond_true,alive4]
      rfl
end Go.Proofs.Ytmmeanjjfhimjaa.W
