/- Texts joined: part 6 of what LNumfmtSigns stands on. -/
import Derived.Test.YtcmmdlgjinankaaGreatDoorSNumfmtSignse
import Derived.Test.YtcmmdlgjinankaaGreatDoorRows
import Derived.Lib.LaidTab
import Derived.MakeChecks
import Derived.ChangeSame
namespace Go.Proofs.YtcmmdlgjinankaaGreatDoor.W
open Go Go.Q Go.Proofs Go.Dz
set_option linter.unusedVariables false
set_option linter.unusedSimpArgs false
def cmpI (A B:Int):Int:=if A=B then 0 else if A<B then -1 else 1
theorem cmpI_self {A:Int}:cmpI A A=0:=by unfold cmpI;rw [if_pos rfl]
theorem cmpI_rng {A B:Int} : -1≤cmpI A B∧cmpI A B≤1:=by
  unfold cmpI;split
  · omega
  · split <;> omega
theorem cmpI_le {A B:Int}:cmpI A B≤0↔A≤B:=by
  unfold cmpI
  by_cases h:A=B
  · rw [if_pos h];omega
  · rw [if_neg h];by_cases h2:A<B
    · rw [if_pos h2];omega
    · rw [if_neg h2];omega
theorem cmpI_lt {A B:Int}:cmpI A B<0↔A<B:=by
  unfold cmpI
  by_cases h:A=B
  · rw [if_pos h];omega
  · rw [if_neg h];by_cases h2:A<B
    · rw [if_pos h2];omega
    · rw [if_neg h2];omega
theorem cmpI_zero {A B:Int}:cmpI A B=0↔A=B:=by
  unfold cmpI
  by_cases h:A=B
  · rw [if_pos h];simp [h]
  · rw [if_neg h];by_cases h2:A<B
    · rw [if_pos h2];omega
    · rw [if_neg h2];omega
theorem digits_l0 (k:Nat):∀ (m n v c:Nat),(digs v).length=m→m<n→c+m≤1000→v<18446744073709551616→g_dec_digits_l0 k n (v:Int) (c:Int)=some ((c+m:Nat):Int):=by
  intro m
  induction m with
  | zero =>
    intro n v c hl hn hc hv
    obtain ⟨n,rfl⟩:∃ n',n=n'+1:=⟨n - 1,by omega⟩
    have:v=0:=digs_len0.1 hl
    subst this
    rw [g_dec_digits_l0.eq_2,df (by omega)];rfl
  | succ m ih =>
    intro n v c hl hn hc hv
    obtain ⟨n,rfl⟩:∃ n',n=n'+1:=⟨n - 1,by omega⟩
    have h0:v≠0:=by intro h;rw [h,digs_zero] at hl;simp at hl
    rw [digs_pos h0,List.length_cons] at hl
    rw [g_dec_digits_l0.eq_2,dt (by omega),bt,show (10:Int)=((10:Nat):Int) from rfl,td,wUl (by omega),wi (by omega) (by omega),show ((c:Int)+1)=((c+1:Nat):Int) by omega]
    rw [ih n (v / 10) (c+1) (by omega) (by omega) (by omega) (by omega)]
    congr 2
    omega
theorem digits (k:Nat) (hk:100≤k) {v:Nat} (hv:v<18446744073709551616):g_dec_digits k (v:Int)=some (((digs v).length:Nat):Int):=by
  unfold g_dec_digits
  have hl:(digs v).length≤20:=digs_len_le (by omega)
  have:=digits_l0 k (digs v).length k v 0 rfl (by omega) (by omega) hv
  rw [show ((0:Nat):Int)=0 from rfl,Nat.zero_add] at this
  rw [this];rfl
theorem sign_eq (k:Nat) {c e:Int}:g_dec_sign k c e=some (cmpI c 0):=by
  unfold g_dec_sign cmpI
  simp only [bd]
  by_cases h:c<0
  · rw [if_pos h,if_neg (by omega),if_pos h]
  · rw [if_neg h]
    by_cases h2:0<c
    · rw [if_pos h2,if_neg (by omega),if_neg h]
    · rw [if_neg h2,if_pos (by omega)]
theorem cmp_val {c d g:Int}:cmpI (val c g) (val d g)=cmpI c d:=by
  unfold cmpI
  by_cases h:c=d
  · rw [if_pos h,if_pos (by rw [h])]
  · rw [if_neg h,if_neg (fun k=>h (val_inj k))]
    by_cases h2:c<d
    · rw [if_pos h2,if_pos (val_lt.2 h2)]
    · rw [if_neg h2,if_neg (fun k=>h2 (val_lt.1 k))]
theorem val_sign {c e:Int}:cmpI (val c e) 0=cmpI c 0:=by
  have:=@cmp_val c 0 e
  rwa [val_zero] at this
theorem clamp {x:Int} (h : -1000000≤x∧x≤1000000):(if (1:Int)<(if (-1:Int) > x then (-1:Int) else x) then (1:Int) else (if (-1:Int) > x then (-1:Int) else x))=cmpI x 0:=by
  unfold cmpI
  by_cases h2:(-1:Int) > x
  · simp only [if_pos h2]
    rw [if_neg (by omega),if_neg (by omega),if_pos (by omega)]
  · simp only [if_neg h2]
    by_cases h3:(1:Int)<x
    · rw [if_pos h3,if_neg (by omega),if_neg (by omega)]
    · rw [if_neg h3]
      by_cases h4:x=0
      · rw [if_pos h4];exact h4
      · rw [if_neg h4]
        by_cases h5:x<0
        · rw [if_pos h5];omega
        · rw [if_neg h5];omega
theorem cmp_size {A B:Int} {s:Int} (hA:cmpI A 0=s) (hB:cmpI B 0=s) (h0:s≠0):cmpI A B=s*cmpI A.natAbs B.natAbs:=by
  have a1:=@cmpI_lt A 0
  have b1:=@cmpI_lt B 0
  have a0:=@cmpI_zero A 0
  have b0:=@cmpI_zero B 0
  have ar:=@cmpI_rng A 0
  have e1:=@cmpI_lt A B
  have e0:=@cmpI_zero A B
  have er:=@cmpI_rng A B
  have f1:=@cmpI_lt (A.natAbs:Int) (B.natAbs:Int)
  have f0:=@cmpI_zero (A.natAbs:Int) (B.natAbs:Int)
  have fr:=@cmpI_rng (A.natAbs:Int) (B.natAbs:Int)
  generalize cmpI A 0=p at *
  generalize cmpI B 0=q at *
  generalize cmpI A B=r at *
  generalize cmpI (A.natAbs:Int) (B.natAbs:Int)=t at *
  rcases (by omega:s=1∨s = -1) with h | h
  · rw [h,Int.one_mul];omega
  · rw [h];omega
theorem cmpN_I {a b:Nat}:cmpN a b=cmpI (a:Int) (b:Int):=by
  unfold cmpN cmpI
  by_cases h:a=b
  · rw [if_pos h,if_pos (show (a:Int)=b by omega)]
  · rw [if_neg h,if_neg (show ¬ (a:Int)=b by omega)]
    by_cases h2:a<b
    · rw [if_pos h2,if_pos (show (a:Int)<b by omega)]
    · rw [if_neg h2,if_neg (show ¬ (a:Int)<b by omega)]
theorem size_gt {c e d f:Int} (hc:c≠0) (he : -200000≤e) (hf : -200000≤f) (h:((digs d.natAbs).length:Int)+f<(digs c.natAbs).length+e):(val d f).natAbs<(val c e).natAbs:=by
  rw [val_abs,val_abs]
  have h1:=digs_ge (n:=c.natAbs) (by omega)
  have h2:=digs_lt (n:=d.natAbs)
  have hp:=len_pos (n:=c.natAbs) (by omega)
  have a1:d.natAbs*10^(f+500000).toNat<10^(digs d.natAbs).length*10^(f+500000).toNat:=Nat.mul_lt_mul_of_pos_right h2 (Nat.pow_pos (by decide))
  have a2:10^((digs c.natAbs).length - 1)*10^(e+500000).toNat≤c.natAbs*10^(e+500000).toNat:=Nat.mul_le_mul_right _ h1
  rw [← Nat.pow_add] at a1 a2
  have a3:10^((digs d.natAbs).length+(f+500000).toNat)≤10^((digs c.natAbs).length - 1+(e+500000).toNat):=Nat.pow_le_pow_right (by decide) (by omega)
  exact Nat.lt_of_lt_of_le a1 (Nat.le_trans a3 a2)
theorem dec_Cmp (k:Nat) (hk:100≤k) {c e d f:Int} (hc:I64 c) (hd:I64 d):g_dec_Cmp k c e d f=some (if Rng e∧Rng f then cmpI (val c e) (val d f) else 0):=by
  unfold g_dec_Cmp
  have hcl:=clean k (by omega) (e:=e) (f:=f) hc hd
  by_cases hR:Rng e∧Rng f
  · rw [if_pos hR] at hcl ⊢
    obtain ⟨c',e',d',f',h1,h2,h3,h4,h5⟩:=hcl
    rw [h1,← h3,← h5]
    simp only [Option.bind_some,Bool.not_true,cond_false]
    rw [sign_eq,sign_eq]
    simp only [Option.bind_some]
    have r1:=@cmpI_rng c' 0
    have r2:=@cmpI_rng d' 0
    have re:=h2.rng
    have rf:=h4.rng
    have ac:=abs_lt h2.i64
    have ad:=abs_lt h4.i64
    have s1:=@val_sign c' e'
    have s2:=@val_sign d' f'
    have l1:=@cmpI_lt c' 0
    have l2:=@cmpI_lt d' 0
    have z1:=@cmpI_zero c' 0
    have z2:=@cmpI_zero d' 0
    by_cases hst:cmpI c' 0=cmpI d' 0
    · rw [dt hst,Bool.not_true,bf,Option.bind_some]
      by_cases h0:cmpI c' 0=0
      · rw [dt h0,bt,wi (by omega) (by omega),clamp (by omega)]
        congr 1
        have:c'=0:=z1.1 h0
        have hd0:d'=0:=z2.1 (by omega)
        rw [this,hd0,val_zero,val_zero,cmpI_self];rfl
      · rw [df h0,bf,size_eq k h2.i64,size_eq k h4.i64]
        simp only [Option.bind_some]
        rw [digits k hk ac,digits k hk ad]
        simp only [Option.bind_some]
        have n1:(digs c'.natAbs).length≤20:=digs_len_le (by omega)
        have n2:(digs d'.natAbs).length≤20:=digs_len_le (by omega)
        rw [wi (n:=(((digs c'.natAbs).length:Nat):Int)+e') (by omega) (by omega),wi (n:=(((digs d'.natAbs).length:Nat):Int)+f') (by omega) (by omega)]
        have hc0:c'≠0:=fun h=>h0 (z1.2 h)
        have hd0:d'≠0:=fun h=>h0 (by rw [hst];exact z2.2 h)
        have hcs:=cmp_size (A:=val c' e') (B:=val d' f') s1 (by rw [s2,← hst]) h0
        rw [hcs]
        by_cases hpq:(((digs c'.natAbs).length:Nat):Int)+e'=(((digs d'.natAbs).length:Nat):Int)+f'
        · rw [dt hpq,Bool.not_true,bf]
          rcases even k (by omega) h2 h4 with ⟨X,Y,g,g1,g2⟩ | ⟨r,g1,hne,_,_,b1,b2,_⟩
          · rw [g1]
            simp only [Option.bind_some]
            rw [wide_cmp k g2.hx g2.hy,Option.bind_some]
            have hr : -1≤cmpN X Y∧cmpN X Y≤1:=by rw [cmpN_I];exact cmpI_rng
            have hsz:cmpI ((val c' e').natAbs:Int) ((val d' f').natAbs:Int)=cmpN X Y:=by
              rw [← g2.vx,← g2.vy,val_abs,val_abs,sgn_abs,sgn_abs,cmpN_I]
              have:=@cmp_val (X:Int) (Y:Int) g
              unfold val at this
              rw [← this]
              simp
            rw [hsz]
            generalize cmpN X Y=t at *
            generalize cmpI c' 0=s at *
            congr 1
            rw [wi]
            · rcases (by omega:s = -1∨s=0∨s=1) with rfl | rfl | rfl <;> omega
            · rcases (by omega:s = -1∨s=0∨s=1) with rfl | rfl | rfl <;> omega
          · exfalso
            have h1':=digs_lt (n:=c'.natAbs)
            have h2':=digs_lt (n:=d'.natAbs)
            have p20:(10:Nat)^20=100000000000000000000:=by decide
            rcases (by omega:f'<e'∨e'<f') with hlt | hlt
            · have b:=b1 hlt
              have:c'.natAbs*10^(e' - f').toNat<10^(digs c'.natAbs).length*10^(e' - f').toNat:=Nat.mul_lt_mul_of_pos_right h1' (Nat.pow_pos (by decide))
              rw [← Nat.pow_add] at this
              have h3':10^((digs c'.natAbs).length+(e' - f').toNat)≤10^20:=Nat.pow_le_pow_right (by decide) (by omega)
              unfold UU at b
              omega
            · have b:=b2 hlt
              have:d'.natAbs*10^(f' - e').toNat<10^(digs d'.natAbs).length*10^(f' - e').toNat:=Nat.mul_lt_mul_of_pos_right h2' (Nat.pow_pos (by decide))
              rw [← Nat.pow_add] at this
              have h3':10^((digs d'.natAbs).length+(f' - e').toNat)≤10^20:=Nat.pow_le_pow_right (by decide) (by omega)
              unfold UU at b
              omega
        · rw [df hpq,Bool.not_false,bt,wi (n:=(((digs c'.natAbs).length:Nat):Int)+e' - ((((digs d'.natAbs).length:Nat):Int)+f')) (by omega) (by omega),clamp (by omega)]
          congr 1
          have hsz:cmpI ((val c' e').natAbs:Int) ((val d' f').natAbs:Int)=cmpI ((((digs c'.natAbs).length:Nat):Int)+e' - ((((digs d'.natAbs).length:Nat):Int)+f')) 0:=by
            by_cases hgt:(((digs d'.natAbs).length:Nat):Int)+f'<(((digs c'.natAbs).length:Nat):Int)+e'
            · have:=size_gt hc0 (by omega) (by omega) hgt
              have x1:=@cmpI_le ((val c' e').natAbs:Int) ((val d' f').natAbs:Int)
              have x2:=@cmpI_rng ((val c' e').natAbs:Int) ((val d' f').natAbs:Int)
              have y1:=@cmpI_le ((((digs c'.natAbs).length:Nat):Int)+e' - ((((digs d'.natAbs).length:Nat):Int)+f')) 0
              have y2:=@cmpI_rng ((((digs c'.natAbs).length:Nat):Int)+e' - ((((digs d'.natAbs).length:Nat):Int)+f')) 0
              omega
            · have:=size_gt (c:=d') (e:=f') (d:=c') (f:=e') hd0 (by omega) (by omega) (by omega)
              have x1:=@cmpI_lt ((val c' e').natAbs:Int) ((val d' f').natAbs:Int)
              have x2:=@cmpI_rng ((val c' e').natAbs:Int) ((val d' f').natAbs:Int)
              have y1:=@cmpI_lt ((((digs c'.natAbs).length:Nat):Int)+e' - ((((digs d'.natAbs).length:Nat):Int)+f')) 0
              have y2:=@cmpI_rng ((((digs c'.natAbs).length:Nat):Int)+e' - ((((digs d'.natAbs).length:Nat):Int)+f')) 0
              omega
          rw [hsz]
          have hr:=@cmpI_rng ((((digs c'.natAbs).length:Nat):Int)+e' - ((((digs d'.natAbs).length:Nat):Int)+f')) 0
          generalize cmpI ((((digs c'.natAbs).length:Nat):Int)+e' - ((((digs d'.natAbs).length:Nat):Int)+f')) 0=t at *
          generalize cmpI c' 0=s at *
          rw [wi]
          · rcases (by omega:s = -1∨s=0∨s=1) with rfl | rfl | rfl <;> omega
          · rcases (by omega:s = -1∨s=0∨s=1) with rfl | rfl | rfl <;> omega
    · rw [df hst,Bool.not_false,bt,Option.bind_some,bt,wi (by omega) (by omega),clamp (by omega)]
      congr 1
      have v1:=@cmpI_lt (val c' e') 0
      have v2:=@cmpI_lt (val d' f') 0
      have v3:=@cmpI_zero (val c' e') 0
      have v4:=@cmpI_zero (val d' f') 0
      rw [s1] at v1 v3
      rw [s2] at v2 v4
      have w1:=@cmpI_lt (cmpI c' 0 - cmpI d' 0) 0
      have w2:=@cmpI_zero (cmpI c' 0 - cmpI d' 0) 0
      have w3:=@cmpI_rng (cmpI c' 0 - cmpI d' 0) 0
      have u1:=@cmpI_lt (val c' e') (val d' f')
      have u2:=@cmpI_zero (val c' e') (val d' f')
      have u3:=@cmpI_rng (val c' e') (val d' f')
      omega
  · rw [if_neg hR] at hcl ⊢
    obtain ⟨r,h1⟩:=hcl
    rw [h1]
    rfl
theorem cut (k:Nat) (hk:2000≤k) {c:Int} {m:Nat} (hc:I64 c) (hm:m≤1000):∃ q r p:Nat,g_dec_cut k c (m:Int)=some ((q:Int),(r:Int),(p:Int))∧p<18446744073709551616∧r<18446744073709551616∧q≤9223372036854775808∧(p=0→q=0∧18446744073709551616≤10^m)∧(0<p→p=10^m∧q=c.natAbs / p∧r=c.natAbs%p):=by
  unfold g_dec_cut
  obtain ⟨b,x,y,t1,t2,t3⟩:=wide_tens k (v:=1) (m:=m) (by decide) (by omega) (by omega)
  rw [wh_small (by decide),wl_small (by decide),show ((1:Nat):Int)=1 from rfl] at t1
  rw [t1,Option.bind_some]
  simp only [Nat.one_mul] at t2 t3 ⊢
  have ac:=abs_lt hc
  have ac':c.natAbs≤9223372036854775808:=by unfold I64 at hc;omega
  rw [size_eq k hc]
  simp only [Option.bind_some]
  have none:18446744073709551616≤10^m→∃ q r p:Nat,(some (0,((c.natAbs:Nat):Int),0):Option (Int × Int × Int))=some ((q:Int),(r:Int),(p:Int))∧p<18446744073709551616∧r<18446744073709551616∧q≤9223372036854775808∧(p=0→q=0∧18446744073709551616≤10^m)∧(0<p→p=10^m∧q=c.natAbs / p∧r=c.natAbs%p):=fun h =>
    ⟨0,c.natAbs,0,rfl,by decide,ac,by omega,fun _=>⟨rfl,h⟩,fun h=>by omega⟩
  cases b with
  | false =>
    simp only [Bool.not_false,cond_true,Option.bind_some]
    exact none (by have:=t3 rfl;unfold UU at this;omega)
  | true =>
    obtain ⟨u1,u2,u3⟩:=t2 rfl
    simp only [Bool.not_true,cond_false,Option.bind_some]
    rw [u2,u3]
    by_cases hU:10^m<18446744073709551616
    · have hp:=Nat.pow_pos (n:=m) (show 0<10 by decide)
      have e0:(((10^m:Nat):Int)==0)=false:=by rw [beq_eq_false_iff_ne];omega
      rw [wh_small hU,wl_small hU,df (by omega),bf,e0,Bool.not_false,bt,bt,td,tm]
      have hle:c.natAbs / 10^m≤c.natAbs:=Nat.div_le_self _ _
      rw [wUl (by omega)]
      exact ⟨_,_,_,rfl,hU,Nat.lt_trans (Nat.mod_lt _ hp) hU,by omega,fun h=>by omega,fun _=>⟨rfl,rfl,rfl⟩⟩
    · have:0<wh (10^m):=by unfold wh;omega
      rw [dt this,bt]
      exact none (by omega)
theorem dec_Right (k:Nat) (hk:60≤k) {c e:Int} (hc:Canon c e):g_dec_Right k c e=some true:=by
  unfold g_dec_Right
  obtain ⟨c',e',h1,h2,h3⟩:=tell_ok k hk hc.i64 hc.rg
  obtain ⟨rfl,rfl⟩:=h2.uniq hc h3
  rw [of_eq k hc.i64,Option.bind_some,h1,Option.bind_some]
  simp only
  rw [ranged_eq k (by omega),dt hc.rg,Option.bind_some,bt]
  simp
theorem canon_is {R:Prop} [Decidable R] {v c e:Int} {g:Option (Int × Int × Int)} (h:Sp R (·=v) g) (hR:R) (hc:Canon c e) (hv:val c e=v):g=some (0,c,e):=by
  unfold Sp at h
  rw [if_pos hR] at h
  obtain ⟨er,c',x',h1,h2⟩:=h
  rcases h2 with ⟨h3,h4,h5⟩ | ⟨_,h4⟩
  · simp only at h3 h4 h5
    obtain ⟨rfl,rfl⟩:=h4.uniq hc (by rw [h5,hv])
    rw [h1,h3]
  · exact absurd hv (h4 _ _ hc)
def B (l:List UInt8):ByteArray:=ByteArray.mk l.toArray
theorem L_B (l:List UInt8):L (B l)=l:=L_mk l
theorem B_L (s:ByteArray):B (L s)=s:=L_ext (L_B _)
theorem B_size (l:List UInt8):(B l).size=l.length:=by rw [L_size,L_B]
theorem B_list (l:List UInt8):(B l).toList=l:=by rw [L_toList,L_B]
theorem B_ext (l:List UInt8) (i j:Nat):(B l).extract i j=B ((l.drop i).take (j - i)):=L_ext (by rw [L_extract,L_B,L_B])
theorem B_app (a b:List UInt8):B a++B b=B (a++b):=L_ext (by rw [L_append,L_B,L_B,L_B])
theorem B_nil:ByteArray.mk #[]=B []:=rfl
theorem w8d {n:Nat} (h:n<256):IntKind.wrap .u8 (n:Int)=(n:Int):=by
  have:IntKind.wrap .u8 (n:Int)=(n:Int)%256:=by simp [IntKind.wrap,IntKind.bits,IntKind.signed]
  rw [this];omega
theorem w64d {n:Nat} (h:n<18446744073709551616):IntKind.wrap .u64 (n:Int)=(n:Int):=by
  rw [wU];omega
theorem e45:(ByteArray.mk #[45]:ByteArray)=B [45]:=rfl
theorem e46:(ByteArray.mk #[46]:ByteArray)=B [46]:=rfl
theorem e48:(ByteArray.mk #[48]:ByteArray)=B [48]:=rfl
def db (d:Nat):UInt8:=UInt8.ofNat (48+d%10)
theorem db_nat (d:Nat):(db d).toNat=48+d%10:=by
  unfold db
  rw [UInt8.toNat_ofNat']
  omega
def dt (n:Nat):Nat→List UInt8
  | 0=>[]
  | t+1=>db (n / 10^t)::dt n t
theorem dt_len (n:Nat):∀ t,(dt n t).length=t
  | 0=>rfl
  | t+1=>by rw [dt,List.length_cons,dt_len n t]
theorem dt_app (n b:Nat):∀ a,dt n (a+b)=dt (n / 10^b) a++dt n b
  | 0=>by rw [Nat.zero_add];rfl
  | a+1=>by
    rw [show a+1+b=a+b+1 by omega,dt,dt,dt_app n b a,Nat.div_div_eq_div_mul,Nat.pow_add,Nat.mul_comm]
    rfl
theorem dt_zeros {n:Nat}:∀ t,n=0→dt n t=List.replicate t 48
  | 0,_=>rfl
  | t+1,h=>by
    subst h
    rw [dt,dt_zeros t rfl,List.replicate_succ]
    congr 1
    rw [Nat.zero_div]
    rfl
theorem dt_mul (n b:Nat):∀ t,t≤b→dt (n*10^b) t=List.replicate t 48
  | 0,_=>rfl
  | t+1,h=>by
    rw [dt,dt_mul n b t (by omega),List.replicate_succ]
    congr 1
    apply UInt8.toNat_inj.1
    have:n*10^b / 10^t=n*10^(b - t - 1)*10:=by
      rw [show b=b - t - 1+1+t by omega,Nat.pow_add,← Nat.mul_assoc,Nat.mul_div_cancel _ (Nat.pow_pos (by decide)),Nat.pow_succ,← Nat.mul_assoc,show b - t - 1+1+t - t - 1=b - t - 1 by omega]
    rw [this,db_nat,Nat.mul_mod_left]
    rfl
theorem digs_len_div {n:Nat} (h:n≠0):(digs n).length=(digs (n / 10)).length+1:=by rw [digs_pos h,List.length_cons]
theorem strOf_one {d:Nat} (h:d<256):strOf ([(d:Int)]:List Int)=B [UInt8.ofNat d]:=L_ext (by rw [L_strOf,L_B];simp)
theorem print_l0 (k:Nat):∀ (m n:Nat) (s:List UInt8),n<18446744073709551616→(digs n).length<m→(digs n).length+s.length≤1000→g_dec_Print_l0 k m (B s) (n:Int)=some (B (dt n (digs n).length++s))
  | 0,n,s,_,h,_=>by omega
  | m+1,n,s,hn,h,hs=>by
    unfold g_dec_Print_l0
    by_cases h0:n=0
    · subst h0
      rw [decide_eq_false (by omega),digs_zero]
      rfl
    · have hl:=digs_len_div h0
      rw [decide_eq_true (by omega),cond_true,show Int.tmod (n:Int) 10=((n%10:Nat):Int) from rfl,show Int.tdiv (n:Int) 10=((n / 10:Nat):Int) from rfl,show (48:Int)+((n%10:Nat):Int)=((48+n%10:Nat):Int) by omega,w64d (by omega),w64d (by omega)]
      simp only [Option.bind_some]
      rw [w8d (by omega),strOf_one (by omega),B_app,B_size,B_size]
      rw [decide_eq_true (by simp only [List.length_cons,List.length_nil];omega),cond_true,print_l0 k m (n / 10) _ (by omega) (by omega) (by simp only [List.length_append,List.length_cons,List.length_nil];omega)]
      congr 2
      rw [hl,dt_app n 1]
      simp only [Nat.pow_one,dt,Nat.pow_zero,Nat.div_one,List.append_assoc,List.cons_append,List.nil_append]
      congr 2
theorem Print_l0 (k:Nat) {n:Nat} (hn:n<18446744073709551616) (hk:60≤k):g_dec_Print_l0 k k (B []) (n:Int)=some (B (dt n (digs n).length)):=by
  have h20:(digs n).length≤20:=digs_len_le (Nat.lt_of_lt_of_le hn (by decide))
  rw [print_l0 k k n [] hn (by omega) (by simp;omega),List.append_nil]
theorem rep_all:((List.range 65).all fun n=>match g_st_Repeat 70 (B [48]) (n:Int) with | some s=>s.toList==List.replicate n 48 | none=>false)=true:=by decide +kernel
theorem rep_eq (k:Nat) (hk:70≤k) {n:Nat} (hn:n≤64):g_st_Repeat k (B [48]) (n:Int)=some (B (List.replicate n 48)):=by
  have h:=List.all_eq_true.1 rep_all n (List.mem_range.2 (by omega))
  refine (g_st_Repeat_mono hk).h _ ?_
  cases hg:g_st_Repeat 70 (B [48]) (n:Int) with
  | none=>rw [hg] at h;cases h
  | some s =>
    rw [hg] at h
    have h':s.toList=List.replicate n 48:=by simpa using h
    rw [L_toList] at h'
    rw [← h',B_L]
def TX (m j:Nat):List UInt8:=dt (m / 10^j) (max (digs m).length (1+j) - j)++(if j=0 then [] else 46::dt m j)
def NX (c e:Int):List UInt8:=(if c<0 then [45] else [])++TX (c.natAbs*10^e.toNat) (-e).toNat
theorem digs_mul {n:Nat} (h:n≠0):∀ t,(digs (n*10^t)).length=(digs n).length+t
  | 0=>by rw [Nat.pow_zero,Nat.mul_one];rfl
  | t+1=>by
    have h0:n*10^t≠0:=Nat.mul_ne_zero h (Nat.ne_of_gt (Nat.pow_pos (by decide)))
    rw [Nat.pow_succ,← Nat.mul_assoc,digs_len_div (Nat.mul_ne_zero h0 (by decide)),Nat.mul_div_cancel _ (by decide),digs_mul h t]
    rfl
theorem dt_pad {n:Nat} (a:Nat):dt n (a+(digs n).length)=List.replicate a 48++dt n (digs n).length:=by
  rw [dt_app,dt_zeros a (Nat.div_eq_of_lt digs_lt)]
def pr_body (k:Nat) (x5106:ByteArray) (x5090 x5091:Int):Option ByteArray:=(bif (decide (x5090=0)) then some (ByteArray.mk #[48]) else (bif (decide (0<x5091)) then ((g_st_Repeat k (ByteArray.mk #[48]) x5091).bind fun x5145=>(bif (decide (ByteArray.size x5106+ByteArray.size x5145≤9223372036854775807)) then some (x5106++x5145) else none)) else (bif (decide (x5091<0)) then ((some (IntKind.wrap .i64 ((IntKind.wrap .i64 (1 - x5091)) - ((ByteArray.size x5106:Nat):Int)))).bind fun x5148=>((some (if (0:Int) > x5148 then (0:Int) else x5148)).bind fun x5149=>((g_st_Repeat k (ByteArray.mk #[48]) x5149).bind fun x5151=>(bif (decide (ByteArray.size x5151+ByteArray.size x5106≤9223372036854775807)) then ((some ((ByteArray.size (x5151++x5106):Nat):Int)).bind fun x5163=>((some ((ByteArray.size (x5151++x5106):Nat):Int)).bind fun x5164=>(bif (decide (0≤(0:Int)∧(0:Int)≤(IntKind.wrap .i64 (x5163+x5091))∧(IntKind.wrap .i64 (x5163+x5091))≤((ByteArray.size (x5151++x5106):Nat):Int))) then ((some (ByteArray.extract (x5151++x5106) (Int.toNat 0) (Int.toNat (IntKind.wrap .i64 (x5163+x5091))))).bind fun x5166=>(bif (decide (ByteArray.size x5166+ByteArray.size (ByteArray.mk #[46])≤9223372036854775807)) then (bif (decide (0≤((IntKind.wrap .i64 (x5164+x5091)):Int)∧((IntKind.wrap .i64 (x5164+x5091)):Int)≤((ByteArray.size (x5151++x5106):Nat):Int)∧((ByteArray.size (x5151++x5106):Nat):Int)≤((ByteArray.size (x5151++x5106):Nat):Int))) then ((some (ByteArray.extract (x5151++x5106) (Int.toNat (IntKind.wrap .i64 (x5164+x5091))) (Int.toNat ((ByteArray.size (x5151++x5106):Nat):Int)))).bind fun x5169=>(bif (decide (ByteArray.size (x5166++(ByteArray.mk #[46]))+ByteArray.size x5169≤9223372036854775807)) then some ((x5166++(ByteArray.mk #[46]))++x5169) else none)) else none) else none)) else none))) else none)))) else some x5106)))
theorem dec_Print_is (k:Nat) (x4453 x4454:Int):g_dec_Print k x4453 x4454=((g_dec_clean__b k x4453 x4454).bind fun (x5089,x5090,x5091)=>(bif (!x5089) then some (ByteArray.mk #[63]) else ((g_dec_size k x5090).bind fun x5094=>((g_dec_Print_l0 k k (ByteArray.mk #[]) x5094).bind fun x5106=>(((pr_body k x5106 x5090 x5091):Option ByteArray).bind fun x5141=>(((bif (decide (x5090<0)) then (bif (decide (ByteArray.size (ByteArray.mk #[45])+ByteArray.size x5141≤9223372036854775807)) then some ((ByteArray.mk #[45])++x5141) else none) else some x5141):Option ByteArray).bind fun x5174=>some x5174)))))):=rfl
theorem print_tail (k:Nat) (hk:100≤k) {n:Nat} {c e:Int} (hn:n=c.natAbs) (hc:Canon c e):pr_body k (B (dt n (digs n).length)) c e=some (B (TX (n*10^e.toNat) (-e).toNat)):=by
  unfold pr_body
  simp only [e48,e46]
  have hr:=hc.rng
  have h20:(digs n).length≤20:=digs_len_le (by have:=hc.i64;unfold I64 at this;omega)
  by_cases h0:c=0
  · have he:e=0:=by rcases hc with ⟨_,h⟩ | ⟨h,_⟩ <;> simp_all
    subst h0 he
    have:n=0:=by rw [hn];rfl
    subst this
    rw [decide_eq_true rfl,cond_true]
    unfold TX
    rw [show (0:Nat)*10^(0:Int).toNat=0 from Nat.zero_mul _,digs_zero]
    rfl
  · have hn0:n≠0:=by omega
    have hlp:=len_pos hn0
    rw [decide_eq_false h0,cond_false]
    by_cases h1:0<e
    · obtain ⟨t,rfl⟩:∃ t:Nat,e=(t:Int):=⟨e.toNat,by omega⟩
      rw [decide_eq_true h1,cond_true,rep_eq k (by omega) (by omega)]
      simp only [Option.bind_some,B_size,B_app]
      rw [decide_eq_true (by rw [dt_len,List.length_replicate];omega),cond_true]
      congr 2
      unfold TX
      rw [show (-(t:Int)).toNat=0 by omega,Int.toNat_natCast,digs_mul hn0,if_pos rfl,Nat.pow_zero,Nat.div_one,List.append_nil,show max ((digs n).length+t) (1+0) - 0=(digs n).length+t by omega,dt_app,dt_mul n t t (Nat.le_refl _),Nat.mul_div_cancel _ (Nat.pow_pos (by decide))]
    · rw [decide_eq_false h1,cond_false]
      by_cases h2:e<0
      · obtain ⟨j,rfl⟩:∃ j:Nat,e = -(j:Int):=⟨(-e).toNat,by omega⟩
        obtain ⟨a,ha,ha',hz⟩:∃ a:Nat,max (digs n).length (1+j)=a+(digs n).length∧a≤30∧(if (0:Int) > 1 - -(j:Int) - ((digs n).length:Int) then (0:Int) else 1 - -(j:Int) - ((digs n).length:Int))=(a:Int):=by
          refine ⟨max (digs n).length (1+j) - (digs n).length,by omega,by omega,?_⟩
          split <;> omega
        rw [decide_eq_true h2,cond_true,B_size,dt_len,wi (n:=1 - -(j:Int)) (by omega) (by omega),wi (by omega) (by omega)]
        simp only [Option.bind_some]
        rw [hz,rep_eq k (by omega) (by omega)]
        simp only [Option.bind_some,B_app,← dt_pad,B_size,dt_len,List.length_replicate,B_ext]
        rw [decide_eq_true (by omega),cond_true,← ha]
        generalize hm:max (digs n).length (1+j)=t at *
        rw [wi (by omega) (by omega),show (t:Int) + -(j:Int)=((t - j:Nat):Int) by omega,decide_eq_true (by omega),cond_true]
        rw [decide_eq_true (by simp [dt_len];omega),cond_true,decide_eq_true (by omega),cond_true,decide_eq_true (by simp [dt_len];omega),cond_true]
        congr 2
        unfold TX
        rw [show (-(j:Int)).toNat=0 by omega,show (-(-(j:Int))).toNat=j by omega,Nat.pow_zero,Nat.mul_one,hm,if_neg (by omega)]
        simp only [Int.toNat_natCast,Int.toNat_zero,Nat.sub_zero,List.drop_zero]
        have hsp:dt n t=dt (n / 10^j) (t - j)++dt n j:=by rw [← dt_app,show t - j+j=t by omega]
        rw [hsp,List.take_left' (dt_len _ _),List.drop_left' (dt_len _ _),List.take_of_length_le (by rw [dt_len];omega),List.append_assoc]
        rfl
      · have he:e=0:=by omega
        subst he
        rw [decide_eq_false h2,cond_false]
        congr 2
        unfold TX
        rw [show (-(0:Int)).toNat=0 from rfl,show (0:Int).toNat=0 from rfl,Nat.pow_zero,Nat.mul_one,Nat.div_one,if_pos rfl,List.append_nil,show max (digs n).length (1+0) - 0=(digs n).length by omega]
theorem TX_len {c e:Int} (h:Canon c e):(TX (c.natAbs*10^e.toNat) (-e).toNat).length≤39:=by
  have hr:=h.rng
  have h20:(digs c.natAbs).length≤19:=digs_len_le (by have:=h.i64;unfold I64 at this;omega)
  unfold TX
  rw [List.length_append,dt_len]
  by_cases h0:c=0
  · have he:e=0:=by rcases h with ⟨_,h⟩ | ⟨h,_⟩ <;> simp_all
    subst h0 he
    rw [show (0:Int).natAbs*10^(0:Int).toNat=0 from Nat.zero_mul _,digs_zero]
    decide
  · rw [digs_mul (by omega)]
    split
    · rw [List.length_nil];omega
    · rw [List.length_cons,dt_len];omega
theorem dec_Print (k:Nat) (hk:100≤k) {c e:Int} (hc:I64 c):if Rng e then ∃ c' e':Int,Canon c' e'∧val c' e'=val c e∧g_dec_Print k c e=some (B (NX c' e')) else g_dec_Print k c e=some (B [63]):=by
  have h:=clean1 k (by omega) (c:=c) (e:=e) hc
  rw [dec_Print_is]
  split
  · rename_i hr
    rw [if_pos hr] at h
    obtain ⟨c',e',h1,h2,h3⟩:=h
    refine ⟨c',e',h2,h3,?_⟩
    have hlt:=abs_lt h2.i64
    have h20:(digs c'.natAbs).length≤20:=digs_len_le (by have:=h2.i64;unfold I64 at this;omega)
    have hrg:=h2.rng
    rw [h1]
    simp only [Option.bind_some,Bool.not_true,cond_false]
    rw [size_eq k h2.i64]
    simp only [Option.bind_some,B_nil,e48,e46,e45]
    rw [Print_l0 k hlt (by omega)]
    simp only [Option.bind_some]
    rw [print_tail k hk (n:=c'.natAbs) rfl h2]
    simp only [Option.bind_some,B_size,B_app]
    unfold NX
    by_cases hn:c'<0
    · rw [decide_eq_true hn,if_pos hn,cond_true]
      have:=TX_len h2
      rw [decide_eq_true (by simp only [List.length_cons,List.length_nil];omega)]
      rfl
    · rw [decide_eq_false hn,if_neg hn]
      rfl
  · rename_i hr
    rw [if_neg hr] at h
    obtain ⟨r,h1⟩:=h
    rw [h1]
    rfl
theorem dtr {p:Prop} [Decidable p] (h:p):decide p=true:=decide_eq_true h
theorem ref_MakeC (k:Nat) (hk:30000≤k) {c e:Int} (hc:I64 c):∃ er c' e':Int,g_r9_Make k c e=some (er,c',e')∧(er=0→Canon c' e'):=by
  unfold g_r9_Make
  by_cases h0:c=0
  · subst h0
    rw [decide_eq_true rfl,cond_true]
    exact ⟨0,0,0,rfl,fun _=>.inl ⟨rfl,rfl⟩⟩
  · rw [decide_eq_false h0,cond_false]
    by_cases h1:e < -100
    · rw [decide_eq_true h1]
      exact ⟨30,0,0,rfl,fun h=>by omega⟩
    · by_cases h2:100<e
      · rw [decide_eq_false h1,decide_eq_true h2]
        exact ⟨30,0,0,rfl,fun h=>by omega⟩
      · rw [decide_eq_false h1,decide_eq_false h2]
        simp only [cond_false,Option.bind_some]
        rw [of_ k (by omega) hc.1 hc.2]
        obtain ⟨er,c',y,h3,h4⟩:=Tell k (x:=c) (e:=e) (Nat.le_trans (nd_i64 hc.1 hc.2) (by decide)) (by omega) (by omega) hk
        simp only [Option.bind_some]
        rw [h3]
        refine ⟨er,c',y,rfl,fun he=>?_⟩
        rcases h4 with ⟨h5,h6,h7⟩ | ⟨h5,h6⟩
        · exact h6
        · simp only [Prod.mk.injEq] at h5
          omega
theorem round2 (k:Nat) (hk:2000≤k) {c e:Int} (h:Canon c e):∃ C X:Int,g_dec_Round k c e 2=some (0,C,X)∧Canon C X:=by
  unfold g_dec_Round
  have hcl:=clean1 k (by omega) (e:=e) h.i64
  have hR:=h.rg
  rw [if_pos hR] at hcl
  obtain ⟨c',e',h1,h2,h3⟩:=hcl
  obtain ⟨rfl,rfl⟩:=h2.uniq h h3
  rw [h1]
  have re:=h2.rng
  simp only [Option.bind_some,Bool.not_true,cond_false]
  rw [df (show ¬ (2:Int) < -18 by omega),df (show ¬ (18:Int)<2 by omega),bf,Option.bind_some]
  simp only [cond_false]
  rw [wi (n:=0 - 2) (by omega) (by omega),wi (n:=0 - 2 - e') (by omega) (by omega)]
  by_cases hle:0 - 2 - e'≤0
  · rw [dtr hle,bt]
    exact ⟨c',e',rfl,h⟩
  · rw [df hle,bf]
    obtain ⟨m,hm⟩:∃ m:Nat,0 - 2 - e'=(m:Int):=⟨(0 - 2 - e').toNat,by omega⟩
    rw [hm]
    obtain ⟨q,r,p,t1,p1,r1,q1,t2,t3⟩:=cut k hk (c:=c') (m:=m) h2.i64 (by omega)
    rw [t1,Option.bind_some]
    simp only
    have ac':c'.natAbs≤9223372036854775808:=by have:=h2.i64;unfold I64 at this;omega
    have hm16:m≤16:=by omega
    have hm1:1≤m:=by omega
    have h10:(10:Nat)^m≤10^16:=Nat.pow_le_pow_right (by decide) hm16
    have h101:(10:Nat)^1≤10^m:=Nat.pow_le_pow_right (by decide) hm1
    have hq:∃ w:Nat,(((bif (decide ((0:Int)<(p:Int))) then some (decide ((IntKind.wrap .u64 ((p:Int) - (r:Int)))≤(r:Int))) else some false):Option Bool).bind fun x10837=>(bif x10837 then some (IntKind.wrap .u64 ((q:Int)+1)) else some (q:Int)))=some (w:Int)∧w≤1000000000000000000:=by
      by_cases hp0:0<p
      · obtain ⟨s1,s2,s3⟩:=t3 hp0
        have hq':q≤922337203685477581:=by
          rw [s2,s1]
          have:c'.natAbs / 10^m≤c'.natAbs / 10^1:=Nat.div_le_div_left h101 (by decide)
          omega
        have hr:r<p:=by rw [s3];exact Nat.mod_lt _ hp0
        rw [dtr (by omega),bt,Option.bind_some,show ((p:Int) - (r:Int))=((p - r:Nat):Int) by omega,wUl (by omega)]
        by_cases h:p≤2*r
        · rw [dtr (by omega),bt,show ((q:Int)+1)=((q+1:Nat):Int) by omega,wUl (by omega)]
          exact ⟨q+1,rfl,by omega⟩
        · rw [df (by omega),bf]
          exact ⟨q,rfl,by omega⟩
      · obtain ⟨s1,s2⟩:=t2 (by omega)
        rw [df (by omega),bf,Option.bind_some,bf]
        exact ⟨q,rfl,by omega⟩
    obtain ⟨w,w1,w3⟩:=hq
    rw [w1,Option.bind_some]
    obtain ⟨er,C,X,s1,s2⟩:=tell_abs k (by omega) (neg:=decide (c'<0)) (n:=w) (e:=0 - 2) (by omega) (by omega)
    rw [s1]
    rcases s2 with ⟨s3,s4,_⟩ | ⟨_,s4⟩
    · simp only at s3 s4
      subst s3
      exact ⟨C,X,rfl,s4⟩
    · exfalso
      have hi:I64 (sgn (decide (c'<0)) w):=by unfold I64 sgn;split <;> omega
      obtain ⟨c2,x2,h7,h8⟩:=canon_exists hi _ (0 - 2) rfl (by unfold Rng;omega) _ hi
      exact s4 _ _ h7 h8
theorem cut_ok (k:Nat) {l:List UInt8} (hl:l.length≤100):∃ a b:List UInt8,∃ o,g_st_Cut k (B l) (B [46])=some (B a,B b,o)∧a.length≤100∧b.length≤100:=by
  have hix:∃ j:Int,g_sl_Index k (B l) (B [46])=some j∧(0≤j→j+1≤l.length):=by
    unfold g_sl_Index
    simp only [Option.bind_some,B_size,B_list,List.length_cons,List.length_nil]
    rw [df (by omega),bf,Option.bind_some]
    by_cases h1:([46]:List UInt8)=l
    · subst h1
      exact ⟨0,rfl,fun _=>by decide⟩
    · rw [show (([46]:List UInt8)==l)=false from beq_eq_false_iff_ne.2 h1,bf,dtr (by omega),bt]
      rw [show ix (strInts (B [46])) 0=some 46 from rfl,Option.bind_some,show g_sl_IndexByte k (B l) 46=some () from rfl,Option.bind_some]
      refine ⟨_,rfl,fun h=>?_⟩
      unfold ixByte at h ⊢
      split
      · rename_i i hi
        have:=List.mem_of_find?_eq_some hi
        rw [List.mem_range,B_size] at this
        omega
      · rename_i hi
        rw [hi] at h
        simp at h
  obtain ⟨j,h1,h2⟩:=hix
  unfold g_st_Cut g_sl_Cut
  rw [h1,Option.bind_some]
  by_cases hj:0≤j
  · have hj2:=h2 hj
    rw [dtr hj,bt,dtr (by rw [B_size];omega),bt]
    simp only [B_size,List.length_cons,List.length_nil,Option.bind_some]
    rw [wi (by omega) (by omega),dtr (by omega),bt]
    simp only [Option.bind_some,B_ext]
    exact ⟨_,_,_,rfl,by rw [List.length_take,List.length_drop];omega,by rw [List.length_take,List.length_drop];omega⟩
  · rw [df hj,bf]
    exact ⟨l,[],false,rfl,hl,by simp⟩
theorem trim_ok (k:Nat) {l:List UInt8} (hl:l.length≤100):∃ a:List UInt8,g_st_TrimPrefix k (B l) (B [48])=some (B a)∧a.length≤100:=by
  unfold g_st_TrimPrefix g_sl_TrimPrefix g_sl_HasPrefix
  simp only [B_size,List.length_cons,List.length_nil,Option.bind_some]
  by_cases h:((0+1:Nat):Int)≤((l.length:Nat):Int)
  · rw [dtr h,bt,dtr (by omega),bt]
    simp only [Option.bind_some]
    cases (ByteArray.toList (ByteArray.extract (B l) (Int.toNat 0) (Int.toNat ((0+1:Nat):Int)))==(B [48]).toList)
    · exact ⟨l,rfl,hl⟩
    · rw [bt,dtr (by omega),bt]
      simp only [Option.bind_some,B_ext]
      exact ⟨_,rfl,by rw [List.length_take,List.length_drop];omega⟩
  · rw [df h,bf]
    exact ⟨l,rfl,hl⟩
theorem number_ok (k:Nat) (hk:100≤k) {C X:Int} (hC:Canon C X):∃ w p:List UInt8,w.length≤300∧p.length≤300∧∀ b a:List UInt8,b.length≤10→a.length≤10→g_numfmt_Section_number k (B b) (B a) 1 1 true 2 1 false 0 true false C X=some (B (b++w++p++a)):=by
  have hp:=dec_Print k hk (e:=X) hC.i64
  rw [if_pos hC.rg] at hp
  obtain ⟨c',e',g1,g2,g3⟩:=hp
  have hlen:(NX c' e').length≤100:=by
    have:=TX_len g1
    unfold NX
    rw [List.length_append]
    split <;> simp <;> omega
  obtain ⟨a0,b0,o0,h1,h2,h3⟩:=cut_ok k hlen
  obtain ⟨a1,h4,h5⟩:=trim_ok k h2
  have rz:∀ z:Int,z≤1 → -1000≤z→∃ r:List UInt8,g_st_Repeat k (B [48]) (if (0:Int) > z then (0:Int) else z)=some (B r)∧r.length≤1:=by
    intro z hz hz2
    by_cases h:(0:Int) > z
    · rw [if_pos h];exact ⟨_,rep_eq k (by omega) (n:=0) (by omega),by simp⟩
    · rw [if_neg h]
      have e:z=((z.toNat:Nat):Int):=by omega
      rw [e]
      exact ⟨_,rep_eq k (by omega) (by omega),by simp;omega⟩
  obtain ⟨r1,h6,h7⟩:=rz (1 - (a1.length:Int)) (by omega) (by omega)
  obtain ⟨r2,h8,h9⟩:=rz (1 - (b0.length:Int)) (by omega) (by omega)
  refine ⟨r1++a1++[46],b0++r2,by simp;omega,by simp;omega,fun b a hb ha=>?_⟩
  unfold g_numfmt_Section_number
  rw [show (ByteArray.mk #[46]:ByteArray)=B [46] from rfl,show (ByteArray.mk #[48]:ByteArray)=B [48] from rfl]
  rw [Bool.not_true,bf,g3,Option.bind_some,h1,Option.bind_some]
  simp only
  rw [h4,Option.bind_some,Option.bind_some,B_size,wi (by omega) (by omega),Option.bind_some,h6,Option.bind_some,dtr (by simp only [B_size];omega),bt,Option.bind_some,B_size,wi (by omega) (by omega),Option.bind_some,h8,Option.bind_some,
    dtr (by simp only [B_size];omega),bt]
  simp only [bf,bt,Option.bind_some,B_app,B_size]
  rw [dtr (by simp only [List.length_append,List.length_cons,List.length_nil];omega),bt,Option.bind_some,B_app,dtr (by simp only [B_size,List.length_append,List.length_cons,List.length_nil];omega),bt,B_app,dtr (by simp only [B_size,List.length_append,List.length_cons,List.length_nil];omega),bt,B_app,dtr (by simp only [B_size,List.length_append,List.length_cons,List.length_nil];omega),bt]
def sec1:S_numfmt_Section:=⟨B [],B [],1,1,true,2,1,false,0,true,false⟩
def sec2:S_numfmt_Section:=⟨B [40],B [41],1,1,true,2,1,false,0,true,false⟩
theorem parse1 (k:Nat):g_numfmt_Parse (k+300) (ByteArray.mk #[48,46,48,35])=some ([sec1],0):=by kernel_rfl
theorem parse2 (k:Nat):g_numfmt_Parse (k+300) (ByteArray.mk #[48,46,48,35,59,40,48,46,48,35,41])=some ([sec1,sec2],0):=by kernel_rfl
theorem aliveN (k:Nat):g_quirelaw14_alive (k+300)=some true:=by kernel_rfl
theorem right_num (k:Nat) (hk:60≤k) {c e:Int} (h:Canon c e):g_val_Right k 1 c e (ByteArray.mk #[]) false 0=some true:=by
  unfold g_val_Right
  simp [dec_Right k hk h]
theorem sign_num (k:Nat) (hk:100≤k) {c e:Int} (h:Canon c e):g_dec_Sign k c e=some (cmpI c 0):=by
  unfold g_dec_Sign
  rw [dec_Cmp k hk h.i64 (by unfold I64;omega),Option.bind_some,if_pos ⟨h.rg,by unfold Rng;omega⟩]
  rw [show val 0 0=0 from val_zero,val_sign]
theorem rounded_pos (k:Nat) (hk:2000≤k) {c e:Int} (h:Canon c e) (hc:0<c) (b a:ByteArray) {C X:Int} (hr:g_dec_Round k c e 2=some (0,C,X)):g_numfmt_Section_rounded k b a 1 1 true 2 1 false 0 true false c e=some (0,C,X):=by
  unfold g_numfmt_Section_rounded
  rw [df (by omega),bf,Option.bind_some]
  simp only
  obtain ⟨n,rfl⟩:∃ n,k=n+1:=⟨k - 1,by omega⟩
  rw [g_numfmt_Section_rounded_l0,df (by omega),bf,Option.bind_some]
  simp [hr]
theorem rounded_neg (k:Nat) (hk:2000≤k) {c e c' e':Int} (hc:c<0) (hn:g_dec_Neg k c e=some (0,c',e')) (b a:ByteArray) {C X:Int} (hr:g_dec_Round k c' e' 2=some (0,C,X)):g_numfmt_Section_rounded k b a 1 1 true 2 1 false 0 true false c e=some (0,C,X):=by
  unfold g_numfmt_Section_rounded
  rw [dtr hc,bt,hn]
  simp only [Option.bind_some]
  obtain ⟨n,rfl⟩:∃ n,k=n+1:=⟨k - 1,by omega⟩
  rw [g_numfmt_Section_rounded_l0,df (by omega),bf,Option.bind_some]
  simp [hr]
theorem numfmtSigns (c e:Int) (hc:(Lit.int .i64 c).wf=true) (he:(Lit.int .i64 e).wf=true):∃ k,g_quirelaw14_NumfmtSigns k c e=some true:=by
  refine ⟨30000+300,?_⟩
  have ic:=i64_I hc
  obtain ⟨er,d,x,h1,h2⟩:=ref_MakeC (30000+300) (by decide) (e:=e) ic
  have al:=aliveN 30000
  unfold g_quirelaw14_NumfmtSigns
  rw [h1,Option.bind_some]
  simp only
  by_cases h0:er=0
  · have hd:=h2 h0
    rw [dtr h0,Bool.not_true,bf]
    by_cases hneg:d<0
    · rw [dtr hneg,Option.bind_some,bt,al];rfl
    · rw [df hneg,Option.bind_some,bf]
      have hn:=ref_Neg (30000+300) (by decide) (c:=d) (e:=x) hd.i64
      unfold Sp at hn
      rw [if_pos hd.rg] at hn
      obtain ⟨er',n,y,h3,h4⟩:=hn
      rw [h3,Option.bind_some]
      simp only
      by_cases h5:er'=0
      · rw [dtr h5,Bool.not_true,bf]
        by_cases hz:d=0
        · rw [dtr hz,Option.bind_some,bt,al];rfl
        · rw [df hz,Option.bind_some,bf]
          rcases h4 with ⟨_,h6,h7⟩ | ⟨h6,_⟩
          · simp only at h6 h7
            -- the opposite of the opposite
            have hback:g_dec_Neg (30000+300) n y=some (0,d,x):=canon_is (dec_Neg (30000+300) (by decide) h6.i64) h6.rg hd (by rw [h7];omega)
            have hnn:n<0:=by
              have:cmpI (val n y) 0=cmpI n 0:=val_sign
              have k2:cmpI (val d x) 0=cmpI d 0:=val_sign
              have k3:0<val d x:=by
                have:cmpI (val d x) 0=1:=by rw [k2];unfold cmpI;rw [if_neg (by omega),if_neg (by omega)]
                unfold cmpI at this
                split at this
                · omega
                · split at this <;> omega
              rw [h7] at this
              have k4:cmpI (- val d x) 0 = -1:=by unfold cmpI;rw [if_neg (by omega),if_pos (by omega)]
              rw [k4] at this
              unfold cmpI at this
              split at this
              · omega
              · split at this <;> omega
            obtain ⟨C,X,r1,r2⟩:=round2 (30000+300) (by decide) hd
            obtain ⟨w,p,s1,s2,s3⟩:=number_ok (30000+300) (by decide) r2
            have hpos:0<d:=by omega
            have ra:g_numfmt_Render (30000+300) (ByteArray.mk #[48,46,48,35]) 1 d x (ByteArray.mk #[]) false 0=some (B (w++p)):=by
              unfold g_numfmt_Render
              rw [parse1,Option.bind_some]
              simp only
              rw [right_num _ (by decide) hd,Option.bind_some,Bool.not_true,bf]
              simp only [List.length_cons,List.length_nil,Option.bind_some]
              rw [df (by omega),bf,df (by omega),bf,Option.bind_some,bf]
              simp only [decide_true,Bool.not_true,cond_false]
              rw [sign_num _ (by decide) hd]
              rw [show cmpI d 0=1 by unfold cmpI;rw [if_neg (by omega),if_neg (by omega)]]
              simp only [Option.bind_some]
              rw [df (by omega),bf,df (by omega),bf,Option.bind_some,bf,Option.bind_some]
              rw [show ix [sec1] 0=some sec1 from rfl,Option.bind_some]
              simp only [sec1]
              rw [rounded_pos _ (by decide) hd hpos _ _ r1]
              simp only [Option.bind_some]
              simp only [decide_true,Bool.not_true,cond_false]
              rw [s3 [] [] (by simp) (by simp)]
              simp only [Option.bind_some]
              rw [dtr (by omega),bt,df (by omega),bf,Option.bind_some,bf,Option.bind_some]
              simp
            have rp:g_numfmt_Render (30000+300) (ByteArray.mk #[48,46,48,35,59,40,48,46,48,35,41]) 1 d x (ByteArray.mk #[]) false 0=some (B (w++p)):=by
              unfold g_numfmt_Render
              rw [parse2,Option.bind_some]
              simp only
              rw [right_num _ (by decide) hd,Option.bind_some,Bool.not_true,bf]
              simp only [List.length_cons,List.length_nil,Option.bind_some]
              rw [df (by omega),bf,df (by omega),bf,Option.bind_some,bf]
              simp only [decide_true,Bool.not_true,cond_false]
              rw [sign_num _ (by decide) hd]
              rw [show cmpI d 0=1 by unfold cmpI;rw [if_neg (by omega),if_neg (by omega)]]
              simp only [Option.bind_some]
              rw [df (by omega),bf,df (by omega),bf,Option.bind_some,bf,Option.bind_some]
              rw [show ix [sec1,sec2] 0=some sec1 from rfl,Option.bind_some]
              simp only [sec1]
              rw [rounded_pos _ (by decide) hd hpos _ _ r1]
              simp only [Option.bind_some]
              simp only [decide_true,Bool.not_true,cond_false]
              rw [s3 [] [] (by simp) (by simp)]
              simp only [Option.bind_some]
              rw [df (by omega),bf,Option.bind_some,bf,Option.bind_some]
              simp
            have rb:g_numfmt_Render (30000+300) (ByteArray.mk #[48,46,48,35,59,40,48,46,48,35,41]) 1 n y (ByteArray.mk #[]) false 0=some (B (40::(w++p++[41]))):=by
              unfold g_numfmt_Render
              rw [parse2,Option.bind_some]
              simp only
              rw [right_num _ (by decide) h6,Option.bind_some,Bool.not_true,bf]
              simp only [List.length_cons,List.length_nil,Option.bind_some]
              rw [df (by omega),bf,df (by omega),bf,Option.bind_some,bf]
              simp only [decide_true,Bool.not_true,cond_false]
              rw [sign_num _ (by decide) h6]
              rw [show cmpI n 0 = -1 by unfold cmpI;rw [if_neg (by omega),if_pos (by omega)]]
              simp only [Option.bind_some]
              rw [dtr (by omega),bt,Option.bind_some]
              rw [show (if ((IntKind.wrap .i64 (((0+1+1:Nat):Int) - 1)):Int)<1 then (IntKind.wrap .i64 (((0+1+1:Nat):Int) - 1):Int) else 1)=1 from rfl]
              rw [show ix [sec1,sec2] 1=some sec2 from rfl,Option.bind_some]
              simp only [sec2]
              rw [rounded_neg _ (by decide) hnn hback _ _ r1]
              simp only [Option.bind_some]
              simp only [decide_true,Bool.not_true,cond_false]
              rw [s3 [40] [41] (by simp) (by simp)]
              simp only [Option.bind_some]
              rw [df (by omega),bf,Option.bind_some,bf,Option.bind_some]
              simp
            rw [ra,rb,rp]
            simp only [Option.bind_some]
            rw [show ((B (w++p)).toList==(B (w++p)).toList)=true from beq_self_eq_true _,bt]
            rw [show (ByteArray.mk #[40]:ByteArray)=B [40] from rfl,show (ByteArray.mk #[41]:ByteArray)=B [41] from rfl]
            rw [dtr (by rw [B_size,B_size];simp;omega),bt,B_app,dtr (by rw [B_size,B_size];simp;omega),bt,B_app]
            rw [show ((B (40::(w++p++[41]))).toList==(B ([40]++(w++p)++[41])).toList)=true from by simp]
            rw [bt,al]
            rfl
          · simp only [Prod.mk.injEq] at h6
            omega
      · rw [df h5,Bool.not_false,bt,Option.bind_some,bt,al];rfl
  · rw [df h0,Bool.not_false,bt,Option.bind_some,bt,al];rfl
end Go.Proofs.YtcmmdlgjinankaaGreatDoor.W
namespace Go.Proofs.YtcmmdlgjinankaaGreatDoor.W
open Go Go.Q Go.Proofs
set_option linter.unusedVariables false
set_option linter.unusedSimpArgs false
set_option maxRecDepth 100000
theorem var_heap {P:Program} {w:World} {n:String} {g:Nat} {cs:Array Value} (hg:P.globalNamed n=some g) (h:w.var? P n=some cs):∃ t z,w.heap[g]? = some (.cells cs t z):=by
  simp only [World.var?,hg,Option.bind_some] at h
  split at h
  · rename_i c t z hx
    simp only [Option.some.injEq] at h
    subst h
    exact ⟨_,_,hx⟩
  · cases h
theorem cells_of_tab2 {H:Type} {enc:TypeId × Value→H} {P:Program} {w:World} {base:Nat} {sp:Nat→Bool} {held:Bool} {fuel:Nat} {t e:TypeId} {f0 f1:Field} {n:Nat} {k0 k1:IntKind} {cs:List Value} {zs:List (Int × Int)} {p:List MemPlace}
    (ht:P.underlying t=some (.array n e)) (he:P.underlying e=some (.struct #[f0,f1])) (h0:P.underlying f0.type=some (.int k0)) (h1:P.underlying f1.type=some (.int k1)) (o0:f0.offset=0) (o1:f1.offset=1) (c0:P.cellsOf f0.type=1) (c1:P.cellsOf f1.type=1) (hce:P.cellsOf e=2) (hct:P.cellsOf t=n*2)
    (h:DataW.trod enc P w base sp held fuel t cs=some (.agg (zs.map fun z=>.agg [.lit (.int k0 z.1),.lit (.int k1 z.2)]),p)):cs=zs.flatMap fun z=>[Value.int k0 z.1,Value.int k1 z.2]:=by
  cases fuel with
  | zero=>simp [DataW.trod] at h
  | succ fuel =>
    simp only [DataW.trod,ht,hce,hct] at h
    split at h
    · rename_i hl
      obtain ⟨xs,hm,hx⟩:=Option.map_eq_some_iff.1 h
      have hxs:xs.map (·.1)=zs.map fun z=>(DataW.agg [.lit (.int k0 z.1),.lit (.int k1 z.2)]:DataW H):=by
        have:=congrArg Prod.fst hx
        simpa using this
      have hxl:xs.length=n:=by simpa using Lib.mapM_length hm
      have hzl:zs.length=n:=by
        have:=congrArg List.length hxs
        simp at this
        omega
      have key:∀ i,i<n→∃ z,zs[i]? = some z∧(cs.drop (i*2)).take 2=[Value.int k0 z.1,Value.int k1 z.2]:=by
        intro i hi
        obtain ⟨b,hb,hf⟩:=Lib.mapM_at hm i i (by simp [hi])
        obtain ⟨y0,y1,m,rfl,hlen,g0,g1⟩:=Go.ChangeShapes.trod_struct2 he hf
        rw [o0,c0] at g0
        rw [o1,c1] at g1
        obtain ⟨z0,hc0,e0,_⟩:=DataW.trod_int h0 g0
        obtain ⟨z1,hc1,e1,_⟩:=DataW.trod_int h1 g1
        subst e0 e1
        have h2:(xs.map (·.1))[i]? = some (DataW.agg [.lit (.int k0 z0),.lit (.int k1 z1)]:DataW H):=by simp [hb]
        rw [hxs,List.getElem?_map,Option.map_eq_some_iff] at h2
        obtain ⟨z,hz,he2⟩:=h2
        simp at he2
        refine ⟨z,hz,?_⟩
        rw [he2.1,he2.2]
        rw [hce] at hlen
        generalize (cs.drop (i*2)).take 2=u at *
        match u,hlen with
        | [a,b],_ =>
          simp at hc0 hc1
          rw [hc0,hc1]
      have all:∀ (m:Nat) (zs:List (Int × Int)) (cs:List Value),zs.length=m→cs.length=m*2→(∀ i,i<m→∃ z,zs[i]? = some z∧(cs.drop (i*2)).take 2=[Value.int k0 z.1,Value.int k1 z.2])→cs=zs.flatMap fun z=>[Value.int k0 z.1,Value.int k1 z.2]:=by
        intro m
        induction m with
        | zero =>
          intro zs cs hz hc _
          have:zs=[]:=List.eq_nil_of_length_eq_zero hz
          subst this
          simpa using List.eq_nil_of_length_eq_zero hc
        | succ m ih =>
          intro zs cs hz hc hk
          match zs,hz with
          | z::zs,hz =>
            obtain ⟨z',hz',hk0⟩:=hk 0 (by omega)
            simp at hz' hk0
            subst hz'
            match cs,hc with
            | a::b::cs,hc =>
              simp at hk0
              rw [hk0.1,hk0.2,List.flatMap_cons,← ih zs cs (by simpa using hz) (by simp at hc;omega) fun i hi=>?_]
              · rfl
              · obtain ⟨y,hy1,hy2⟩:=hk (i+1) (by omega)
                refine ⟨y,by simpa using hy1,?_⟩
                rw [show (i+1)*2=i*2+1+1 by omega] at hy2
                simpa using hy2
            | [],hc=>simp at hc
            | [a],hc=>simp at hc;omega
      exact all n zs cs hzl hl key
    · cases h
theorem gAcc : Tryz.prog.globalNamed "unicode/utf8.acceptRanges" = some 1 := by kernel_rfl
theorem gFirst : Tryz.prog.globalNamed "unicode/utf8.first" = some 0 := by kernel_rfl
theorem tAcc:(Tryz.prog.globals[1]?).map (·.type)=some 180:=by kernel_rfl
theorem tFirst:(Tryz.prog.globals[0]?).map (·.type)=some 177:=by kernel_rfl
theorem htb {W : World} (h : laidMetH Tryz.prog [("unicode/utf8.acceptRanges", Rows.laid_unicode_utf8_acceptRanges), ("unicode/utf8.first", Rows.laid_unicode_utf8_first)] W) :
    ∀ g l,tabs g=some l→∃ c t z,W.heap[g]? = some (.cells c t z)∧c.toList.take l.length=l:=by
  rw [MakeChecks.laidMetH_plain _ _ _ (by kernel_rfl)] at h
  obtain ⟨ps,⟨g0,t0,cs0,f0,p0,q0,hg0,ht0,hv0,hd0,⟨g1,t1,cs1,f1,p1,q1,hg1,ht1,hv1,hd1,_,_⟩,_⟩,_,_⟩:=h
  obtain rfl:=Option.some.inj (gAcc.symm.trans hg0)
  obtain rfl:=Option.some.inj (gFirst.symm.trans hg1)
  obtain rfl:=Option.some.inj (tAcc.symm.trans ht0)
  obtain rfl:=Option.some.inj (tFirst.symm.trans ht1)
  have e0:cs0.toList=vs1:=cells_of_tab2 (zs:=tab1) Tryz.underlying180 Tryz.underlying179 Tryz.underlying5 Tryz.underlying5 rfl rfl (by kernel_rfl) (by kernel_rfl) (by kernel_rfl) (by kernel_rfl) hd0
  have hf:Rows.laid_unicode_utf8_first=Lib.tabData .u8 tab0:=by kernel_rfl
  rw [hf] at hd1
  have e1:cs1.toList=tab0.map (Value.int .u8):=Lib.cells_of_tab Tryz.underlying177 Tryz.underlying5 (by kernel_rfl) (by kernel_rfl) hd1
  obtain ⟨ta,za,ha⟩:=var_heap gAcc hv0
  obtain ⟨tf,zf,hf⟩:=var_heap gFirst hv1
  intro g l hl
  unfold tabs at hl
  split at hl
  · rename_i hg;subst hg
    cases hl
    exact ⟨cs1,tf,zf,hf,by rw [e1,List.take_length]⟩
  · split at hl
    · rename_i hg;subst hg
      cases hl
      exact ⟨cs0,ta,za,ha,by rw [e0,List.take_length]⟩
    · cases hl
theorem lens:(begin Tryz.prog (fun _ _=>0) default).world.heap[2]?.bind Obj.row? = some (#[Value.int .i64 0],3):=by kernel_rfl
theorem hop {W:World} (h:W.ShapedOpen Tryz.prog):∀ g,opens.contains g=true→∃ x,Open1 (fun b=>W.heap[b]?) g x:=by
  intro g hg
  have hg2:g=2:=by simpa [opens] using hg
  subst hg2
  obtain ⟨cs,h1,h2,h3⟩:=h.1 2 _ _ (of_decide_eq_true (by kernel_rfl)) lens
  obtain ⟨ts,h4,_,h6⟩:=h3 (by kernel_rfl)
  have ht:ts=[3]:=Option.some.inj (h4.symm.trans (show Tryz.prog.cellTypes Tryz.prog.depth 3=some [3] by kernel_rfl))
  subst ht
  have hs:cs.size=1:=h2
  obtain ⟨v,hv⟩:∃ v,cs[0]? = some v:=⟨cs[0],by rw [Array.getElem?_eq_getElem]⟩
  obtain ⟨u,hu,hc⟩:=h6 0 v hv
  have hu3:u=3:=by simpa using hu.symm
  subst hu3
  unfold Cell.ok at hc
  rw [Tryz.underlying3] at hc
  cases v with
  | int k' n =>
    simp only at hc
    obtain ⟨rfl,_⟩:=hc
    exact ⟨n,cs,3,(0,0),h1,by simpa using hv⟩
  | _=>exact hc.elim
end Go.Proofs.YtcmmdlgjinankaaGreatDoor.W
