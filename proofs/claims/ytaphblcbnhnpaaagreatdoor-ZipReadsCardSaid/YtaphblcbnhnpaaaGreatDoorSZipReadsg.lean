/- Texts joined: part 7 of what LZipReads stands on. -/
import Derived.Test.YtaphblcbnhnpaaaGreatDoorSZipReadsf
namespace Go.Proofs.YtaphblcbnhnpaaaGreatDoor.W
open Go Go.Q Go.Proofs
set_option linter.unusedVariables false
set_option linter.unusedSimpArgs false
abbrev dR (B:List Int) (a:Nat):List Int:=B.drop (a / 8)
abbrev gR (a:Nat):Int:=((a%8:Nat):Int)
theorem relR {B:List Int} {a:Nat} (h:a≤8*B.length):Rel B (dR B a) (a%8) a:=⟨⟨a / 8,rfl,by omega,by omega⟩,by omega,h⟩
theorem Rel.eq {B b:List Int} {p a:Nat} (h:Rel B b p a):b=dR B a∧p=a%8:=by
  obtain ⟨q,rfl,_,h2⟩:=h.q
  have:=h.lt
  exact ⟨by unfold dR;congr 1;omega,by omega⟩
theorem nz {e:Int} (h:e≠0):(!decide (e=0))=true:=by rw [df h];rfl
theorem zz:(!decide ((0:Int)=0))=false:=rfl
theorem must_e {k:Nat} {e:Int} (h:e≠0):g_inflate_must k e=some (Sum.inl ()):=by unfold g_inflate_must;rw [nz h];rfl
theorem must_0 {k:Nat}:g_inflate_must k 0=some (Sum.inr ()):=rfl
theorem ask_t {k:Nat} {c:Bool} {e:Int} (h:c=true):g_inflate_ask k c e=some (Sum.inr ()):=by subst h;rfl
theorem ask_f {k:Nat} {c:Bool} {e:Int} (h:c=false) (he:e≠0):g_inflate_ask k c e=some (Sum.inl ()):=by subst h;unfold g_inflate_ask;rw [Bool.not_false,bt,must_e he];rfl
section
variable {k:Nat} {B:List Int}
theorem take_bk (hk:400≤k) (hB:okB B) (hBl:B.length≤140737488351232) (c:Nat) (hc:c≤30) {a:Nat} (ha:a≤8*B.length) (m:Int) (o:List Int) {c':Int} (hc':c'=(c:Int)) :
    (∃ (e x y:Int),e≠0∧g_inflate_stream_take k c' m (dR B a) (gR a) o=some (Sum.inl e)∧g_quireref01_Reader_Take k c' B (a:Int)=some (x,e,y)) ∨
    ∃ v a':Nat,v<2^c∧a≤a'∧(0<c→a<a')∧a'≤8*B.length∧g_inflate_stream_take k c' m (dR B a) (gR a) o=some (Sum.inr ((v:Int),dR B a',gR a'))∧g_quireref01_Reader_Take k c' B (a:Int)=some ((v:Int),0,(a':Int)):=by
  subst hc'
  have h:=relR ha
  have hrr:=h.rr hB
  have hb:(dR B a).length≤140737488355328:=by unfold dR;rw [List.length_drop];omega
  unfold g_inflate_stream_take
  by_cases hl:8*B.length - a<c
  · left
    refine ⟨10,0,a,by decide,?_,g_quireref01_Reader_Take_less k c (by omega) ha hBl hl⟩
    rw [g_bits_Reader_Take_less k c (by omega) hrr hb (by simp [bob_length];omega),Option.bind_some]
    dsimp only
    rw [must_e (by decide),Option.bind_some]
  · right
    obtain ⟨r,b',p',h1,h2,h3,h4,h5⟩:=g_bits_Reader_Take_ok (by omega:40≤k) (c:=c) (by omega) hrr hb (by simp [bob_length];omega)
    obtain ⟨r',g1,g2⟩:=g_quireref01_Reader_Take_ok (by omega:40≤k) (c:=c) (by omega) (d:=B) (pos:=a) (by omega) hBl hB
    rw [List.drop_drop] at h2
    have hr:r=r':=by
      apply BitVec.eq_of_getLsbD_eq
      intro j hj
      rw [h4,g2]
      by_cases hjc:j<c
      · have:=bob_getD B (a+j) (by omega)
        simp only [List.getD_eq_getElem?_getD,List.getElem?_drop] at this ⊢
        rw [this]
      · simp [hjc]
    subst hr
    have hrl:r.toNat<2^c:=by
      apply Nat.lt_pow_two_of_testBit
      intro i hi
      have:=g2 i
      rw [show r.getLsbD i=r.toNat.testBit i from rfl] at this
      rw [this,df (by omega)];rfl
    obtain ⟨q1,q2⟩:=(h.of h2 (by omega) h5).eq
    have hp30:2^c≤2^30:=Nat.pow_le_pow_right (by omega) hc
    refine ⟨r.toNat,a+c,hrl,by omega,by omega,by omega,?_,g1⟩
    rw [h1,Option.bind_some]
    dsimp only
    rw [must_0,Option.bind_some]
    dsimp only
    rw [wi (by omega) (by omega),q1,q2]
theorem sym_bk (hk:400≤k) {l:List Int} (hj:(judge l).2=0) {cs sy:List Int} (hd:Dec l cs sy) (hB:okB B) (hBl:B.length≤140737488351232) {a:Nat} (ha:a≤8*B.length) (m:Int) (o:List Int) :
    (∃ (e x y:Int),e≠0∧g_inflate_stream_sym k m (dR B a) (gR a) cs o sy=some (Sum.inl e)∧g_quireref02_Next k l (codesL l).1 B (a:Int)=some (x,e,y)) ∨
    ∃ s a':Nat,s<l.length∧(a≤a'∧a'≤8*B.length)∧g_inflate_stream_sym k m (dR B a) (gR a) cs o sy=some (Sum.inr ((s:Int),dR B a',gR a'))∧g_quireref02_Next k l (codesL l).1 B (a:Int)=some ((s:Int),0,(a':Int)):=by
  unfold g_inflate_stream_sym
  rcases next_top k hk l hj cs sy hd B hB (by omega) a ha with ⟨e,he,h1,h2⟩ | ⟨s,a',hs,ha',h1,h2⟩
  · left
    refine ⟨e,0,a,he,?_,h2⟩
    rw [h1,Option.bind_some]
    dsimp only
    rw [must_e he,Option.bind_some]
  · right
    refine ⟨s,a',hs,ha',?_,h2⟩
    rw [h1,Option.bind_some]
    dsimp only
    rw [must_0,Option.bind_some]
theorem bytes_bk (hB:okB B) (hBl:B.length≤140737488351232) {c:Int} (hc:0≤c) {a:Nat} (ha:a≤8*B.length) (m:Int) (o:List Int) :
    (∃ (e y:Int) (x:List Int),e≠0∧g_inflate_stream_bytes k c m (dR B a) (gR a) o=some (Sum.inl e)∧g_quireref01_Reader_Bytes k c B (a:Int)=some (x,e,y)) ∨
    ∃ (v:List Int) (a':Nat),(v.length:Int)=c∧okB v∧(a≤a'∧a'≤8*B.length)∧g_inflate_stream_bytes k c m (dR B a) (gR a) o=some (Sum.inr (v,dR B a',gR a'))∧g_quireref01_Reader_Bytes k c B (a:Int)=some (v,0,(a':Int)):=by
  obtain ⟨v,e,b',p',a',h1,h2,h3,h4⟩:=bytes_same (k:=k) (relR ha) hBl c
  unfold g_inflate_stream_bytes
  by_cases he:e=0
  · subst he
    obtain ⟨q1,q2⟩:=h3.eq
    obtain ⟨h5,h7,h6⟩:=h4 rfl
    right
    refine ⟨v,a',h5,fun x hx=>hB x (h6 x hx),⟨h7,h3.le⟩,?_,h2⟩
    rw [h1,Option.bind_some]
    dsimp only
    rw [must_0,Option.bind_some]
    dsimp only
    rw [q1,q2]
  · left
    refine ⟨e,_,v,he,?_,h2⟩
    rw [h1,Option.bind_some]
    dsimp only
    rw [must_e he,Option.bind_some]
theorem room_bk {most n:Int} {o:List Int} {b:List Int} {g:Int} (hm : -1000000000≤most) (hm2:most≤1073741824) (ho:o.length≤1073741824) :
    (most - (o.length:Int)<n∧g_inflate_stream_room k n most b g o=some (Sum.inl ()))∨(¬ most - (o.length:Int)<n∧g_inflate_stream_room k n most b g o=some (Sum.inr ())):=by
  unfold g_inflate_stream_room
  rw [wi (by omega) (by omega),Option.bind_some]
  by_cases h:most - (o.length:Int)<n
  · left
    refine ⟨h,?_⟩
    rw [ask_f (df (by omega)) (by decide)];rfl
  · right
    refine ⟨h,?_⟩
    rw [ask_t (dt (by omega))];rfl
def SK (B:List Int) (a0:Nat) (most:Int) (lo:Nat) (X:Option (Int ⊕ (List Int × Int × List Int))) (Y:Option (Int × Int × List Int)):Prop :=
  (∃ (e y:Int) (o:List Int),e≠0∧X=some (Sum.inl e)∧Y=some (e,y,o)) ∨
  ∃ (a':Nat) (o:List Int),(a0≤a'∧a'≤8*B.length)∧lo≤o.length∧(o.length:Int)≤most∧okB o∧X=some (Sum.inr (dR B a',gR a',o))∧Y=some (0,(a':Int),o)
theorem okB_app {x y:List Int} (h:okB x) (g:okB y):okB (x++y):=fun z hz=>(List.mem_append.1 hz).elim (h z) (g z)
theorem and_comp {n:Nat} (hn:n≤65535):n &&& (65535 - n)=0∧n ^^^ 65535=65535 - n:=by
  have e1:(BitVec.ofNat 16 n) ^^^ (BitVec.allOnes 16) = ~~~ (BitVec.ofNat 16 n):=by rw [BitVec.xor_allOnes]
  have e2:=congrArg BitVec.toNat e1
  rw [BitVec.toNat_xor,BitVec.toNat_allOnes,BitVec.toNat_not,BitVec.toNat_ofNat,Nat.mod_eq_of_lt (by omega)] at e2
  have e3:(BitVec.ofNat 16 n) &&& ~~~ (BitVec.ofNat 16 n)=0#16:=by simp
  have e4:=congrArg BitVec.toNat e3
  rw [BitVec.toNat_and,BitVec.toNat_not,BitVec.toNat_ofNat,Nat.mod_eq_of_lt (by omega)] at e4
  exact ⟨by simpa using e4,by simpa using e2⟩
theorem or64r {x y:Nat} (hx:x<4294967296) (hy:y<4294967296):bits .or .i64 (x:Int) (y:Int)=((x ||| y:Nat):Int):=by
  have e:bits .or .i64 (x:Int) (y:Int)=IntKind.wrap .i64 ((BitVec.ofInt 64 (x:Int) ||| BitVec.ofInt 64 (y:Int)).toNat:Int):=rfl
  have h:x ||| y<2^32:=Nat.or_lt_two_pow hx hy
  rw [e,BitVec.ofInt_natCast,BitVec.ofInt_natCast,BitVec.toNat_or,BitVec.toNat_ofNat,BitVec.toNat_ofNat,Nat.mod_eq_of_lt (by omega),Nat.mod_eq_of_lt (by omega),wi (by omega) (by omega)]
theorem and64r {x y:Nat} (hx:x<4294967296) (hy:y<4294967296):bits .and .i64 (x:Int) (y:Int)=((x &&& y:Nat):Int):=by
  have e:bits .and .i64 (x:Int) (y:Int)=IntKind.wrap .i64 ((BitVec.ofInt 64 (x:Int) &&& BitVec.ofInt 64 (y:Int)).toNat:Int):=rfl
  have h:x &&& y≤x:=Nat.and_le_left
  rw [e,BitVec.ofInt_natCast,BitVec.ofInt_natCast,BitVec.toNat_and,BitVec.toNat_ofNat,BitVec.toNat_ofNat,Nat.mod_eq_of_lt (by omega),Nat.mod_eq_of_lt (by omega),wi (by omega) (by omega)]
theorem xor64r {x y:Nat} (hx:x<4294967296) (hy:y<4294967296):bits .xor .i64 (x:Int) (y:Int)=((x ^^^ y:Nat):Int):=by
  have e:bits .xor .i64 (x:Int) (y:Int)=IntKind.wrap .i64 ((BitVec.ofInt 64 (x:Int) ^^^ BitVec.ofInt 64 (y:Int)).toNat:Int):=rfl
  have h:x ^^^ y<2^32:=Nat.xor_lt_two_pow hx hy
  rw [e,BitVec.ofInt_natCast,BitVec.ofInt_natCast,BitVec.toNat_xor,BitVec.toNat_ofNat,BitVec.toNat_ofNat,Nat.mod_eq_of_lt (by omega),Nat.mod_eq_of_lt (by omega),wi (by omega) (by omega)]
theorem wordR {x y:Int} (hx:0≤x∧x≤255) (hy:0≤y∧y≤255):∃ n:Nat,n≤65535∧bits .or .i64 (IntKind.wrap .i64 x) (shlI .i64 (IntKind.wrap .i64 y) 8)=(n:Int):=by
  obtain ⟨p,rfl⟩:∃ p:Nat,x=(p:Int):=⟨x.toNat,by omega⟩
  obtain ⟨q,rfl⟩:∃ q:Nat,y=(q:Int):=⟨y.toNat,by omega⟩
  have e:shlI .i64 (q:Int) 8=((q*256:Nat):Int):=by
    unfold shlI
    rw [show ((2:Int)^(min (Int.toNat 8) (IntKind.bits .i64)))=256 from rfl,wi (by omega) (by omega)]
    omega
  have h:p ||| q*256<2^16:=Nat.or_lt_two_pow (by omega) (by omega)
  exact ⟨p ||| q*256,by omega,by rw [wi (by omega) (by omega),wi (by omega) (by omega),e,or64r (by omega) (by omega)]⟩
theorem comp_same {n m:Nat} (hn:n≤65535) (hm:m≤65535):(n ^^^ 65535=m)↔(n+m=65535∧n &&& m=0):=by
  obtain ⟨h1,h2⟩:=and_comp hn
  rw [h2]
  constructor
  · rintro rfl;exact ⟨by omega,h1⟩
  · rintro ⟨h3,_⟩;omega
theorem stored_bk (hB:okB B) (hBl:B.length≤1048576) {most:Int} (hm:0≤most) (hm2:most≤1073741824) {a:Nat} (ha:a≤8*B.length) {o:List Int} (ho:okB o) (hol:(o.length:Int)≤most) :
    SK B a most o.length (g_inflate_stream_stored k most (dR B a) (gR a) o) (g_quireref03_stream_stored k most B (a:Int) o):=by
  unfold g_inflate_stream_stored g_quireref03_stream_stored
  rcases bytes_bk (k:=k) hB (by omega) (c:=4) (by decide) ha most o with ⟨e,y,x,he,h1,h2⟩ | ⟨v,a1,hv,hvo,⟨hx1,ha1⟩,h1,h2⟩
  · rw [h1,h2,Option.bind_some,Option.bind_some]
    dsimp only
    rw [nz he]
    exact .inl ⟨e,_,_,he,rfl,rfl⟩
  · rw [h1,h2,Option.bind_some,Option.bind_some]
    dsimp only
    rw [zz,bf]
    obtain ⟨b0,b1,b2,b3,rfl⟩:∃ b0 b1 b2 b3,v=[b0,b1,b2,b3]:=by
      match v,hv with
      | [b0,b1,b2,b3],_=>exact ⟨b0,b1,b2,b3,rfl⟩
      | [],h=>simp at h
      | [_],h=>simp at h
      | [_,_],h=>simp at h
      | [_,_,_],h=>simp at h
      | _::_::_::_::_::_,h=>simp at h;omega
    rw [show ix [b0,b1,b2,b3] 0=some b0 from rfl,show ix [b0,b1,b2,b3] 1=some b1 from rfl,show ix [b0,b1,b2,b3] 2=some b2 from rfl,show ix [b0,b1,b2,b3] 3=some b3 from rfl]
    obtain ⟨n,hn,en⟩:=wordR (hvo b0 (by simp)) (hvo b1 (by simp))
    obtain ⟨m,hmm,em⟩:=wordR (hvo b2 (by simp)) (hvo b3 (by simp))
    repeat rw [Option.bind_some]
    rw [en,em,show (65535:Int)=((65535:Nat):Int) from rfl,xor64r (by omega) (by omega),and64r (by omega) (by omega),wi (n:=(n:Int)+(m:Int)) (by omega) (by omega)]
    have hcmp:=comp_same hn hmm
    by_cases hc:n ^^^ 65535=m
    · obtain ⟨c1,c2⟩:=hcmp.1 hc
      rw [ask_t (dt (show ((n ^^^ 65535:Nat):Int)=(m:Int) by omega)),show (!decide ((n:Int)+(m:Int)=((65535:Nat):Int)))=false by rw [dt (by omega)];rfl,show (!decide (((n &&& m:Nat):Int)=0))=false by rw [dt (by omega)];rfl]
      repeat (first | rw [Option.bind_some] | rw [bf])
      dsimp only
      rw [wi (n:=most - (o.length:Int)) (by omega) (by omega)]
      rcases room_bk (k:=k) (b:=dR B a1) (g:=gR a1) (n:=(n:Int)) (o:=o) (most:=most) (by omega) hm2 (by omega) with ⟨r1,r2⟩ | ⟨r1,r2⟩
      · rw [r2,dt r1]
        exact .inl ⟨3,_,_,by decide,rfl,rfl⟩
      · rw [r2,df r1,Option.bind_some,bf]
        dsimp only
        rcases bytes_bk (k:=k) hB (by omega) (c:=(n:Int)) (by omega) ha1 most o with ⟨e,y,x,he,h3,h4⟩ | ⟨w,a2,hw,hwo,⟨hx2,ha2⟩,h3,h4⟩
        · rw [h3,h4,Option.bind_some,Option.bind_some]
          dsimp only
          rw [df he]
          exact .inl ⟨e,_,_,he,rfl,rfl⟩
        · rw [h3,h4,Option.bind_some,Option.bind_some]
          dsimp only
          rw [show decide ((0:Int)=0)=true from rfl,dt (show (o.length+w.length)*1≤140737488355328 by omega),bt,bt]
          exact .inr ⟨a2,o++w,⟨by omega,ha2⟩,by rw [List.length_append];omega,by rw [List.length_append];omega,okB_app ho hwo,rfl,rfl⟩
    · rw [ask_f (df (show ¬ ((n ^^^ 65535:Nat):Int)=(m:Int) by omega)) (by decide)]
      refine .inl ⟨12,(a1:Int),o,by decide,rfl,?_⟩
      by_cases c1:n+m=65535
      · have c2:¬ n &&& m=0:=fun h=>hc (hcmp.2 ⟨c1,h⟩)
        rw [show (!decide ((n:Int)+(m:Int)=((65535:Nat):Int)))=false by rw [dt (by omega)];rfl,show (!decide (((n &&& m:Nat):Int)=0))=true by rw [df (by omega)];rfl]
        rfl
      · rw [show (!decide ((n:Int)+(m:Int)=((65535:Nat):Int)))=true by rw [df (by omega)];rfl]
        rfl
def litC (s:Nat):Bool:=match g_inflate_Lit 0 (s:Int) with
  | some (b,e,ok)=>decide (g_quireref03_Lit 40 (s:Int)=some (b,e,ok))&&decide (0≤b∧b≤258∧0≤e∧e≤13∧(ok=true→3≤b))
  | none=>false
def distC (s:Nat):Bool:=match g_inflate_Dist 0 (s:Int) with
  | some (b,e,ok)=>decide (g_quireref03_Dist 40 (s:Int)=some (b,e,ok))&&decide (0≤b∧b≤32768∧0≤e∧e≤13∧(ok=true→1≤b))
  | none=>false
theorem litCs:∀ s:Fin 320,litC s.val=true:=by decide +kernel
theorem distCs:∀ s:Fin 320,distC s.val=true:=by decide +kernel
theorem lit_bk (hk:40≤k) {s:Nat} (h:s<320):∃ (b e:Nat) (ok:Bool),g_inflate_Lit k (s:Int)=some ((b:Int),(e:Int),ok)∧g_quireref03_Lit k (s:Int)=some ((b:Int),(e:Int),ok)∧b≤258∧e≤13∧(ok=true→3≤b):=by
  have h1:=litCs ⟨s,h⟩
  unfold litC at h1
  have e0:g_inflate_Lit k (s:Int)=g_inflate_Lit 0 (s:Int):=rfl
  rw [e0]
  cases hx:g_inflate_Lit 0 ((⟨s,h⟩:Fin 320).val:Int) with
  | none=>rw [hx] at h1;cases h1
  | some p =>
    obtain ⟨b,e,ok⟩:=p
    rw [hx] at h1
    simp only [Bool.and_eq_true,decide_eq_true_eq] at h1
    obtain ⟨q1,q2,q3,q4,q5,q6⟩:=h1
    obtain ⟨b,rfl⟩:∃ n:Nat,b=(n:Int):=⟨b.toNat,by omega⟩
    obtain ⟨e,rfl⟩:∃ n:Nat,e=(n:Int):=⟨e.toNat,by omega⟩
    exact ⟨b,e,ok,rfl,(g_quireref03_Lit_mono hk).h _ q1,by omega,by omega,fun h=>by have:=q6 h;omega⟩
theorem dist_bk (hk:40≤k) {s:Nat} (h:s<320):∃ (b e:Nat) (ok:Bool),g_inflate_Dist k (s:Int)=some ((b:Int),(e:Int),ok)∧g_quireref03_Dist k (s:Int)=some ((b:Int),(e:Int),ok)∧b≤32768∧e≤13∧(ok=true→1≤b):=by
  have h1:=distCs ⟨s,h⟩
  unfold distC at h1
  have e0:g_inflate_Dist k (s:Int)=g_inflate_Dist 0 (s:Int):=rfl
  rw [e0]
  cases hx:g_inflate_Dist 0 ((⟨s,h⟩:Fin 320).val:Int) with
  | none=>rw [hx] at h1;cases h1
  | some p =>
    obtain ⟨b,e,ok⟩:=p
    rw [hx] at h1
    simp only [Bool.and_eq_true,decide_eq_true_eq] at h1
    obtain ⟨q1,q2,q3,q4,q5,q6⟩:=h1
    obtain ⟨b,rfl⟩:∃ n:Nat,b=(n:Int):=⟨b.toNat,by omega⟩
    obtain ⟨e,rfl⟩:∃ n:Nat,e=(n:Int):=⟨e.toNat,by omega⟩
    exact ⟨b,e,ok,rfl,(g_quireref03_Dist_mono hk).h _ q1,by omega,by omega,fun h=>by have:=q6 h;omega⟩
theorem copy_bk (b1 v1 b2 v2 n far:Nat) (hn:n=b1+v1) (hf:far=b2+v2) (hn2:n≤1073741824) (hf1:1≤far) (hf2:far≤1073741824):∀ (f j:Nat) (o:List Int),j≤n→n - j<f→far≤o.length→o.length+(n - j)≤1073741824→okB o →
    ∃ o':List Int,o'.length=o.length+(n - j)∧okB o'∧g_inflate_stream_copied_l0 k (b1:Int) (v1:Int) (b2:Int) (v2:Int) f (j:Int) o=some o'∧g_quireref03_stream_copied_l0 k (n:Int) (far:Int) f (j:Int) o=some o':=by
  intro f
  induction f with
  | zero=>intro j o _ h;omega
  | succ f ih =>
    intro j o hj hf3 hfo hol ho
    rw [g_inflate_stream_copied_l0.eq_2,g_quireref03_stream_copied_l0.eq_2,wi (n:=(b1:Int)+(v1:Int)) (by omega) (by omega),wi (n:=(b2:Int)+(v2:Int)) (by omega) (by omega),show (b1:Int)+(v1:Int)=(n:Int) by omega,show (b2:Int)+(v2:Int)=(far:Int) by omega]
    by_cases h:j<n
    · rw [dt (show (j:Int)<(n:Int) by omega),Option.bind_some,bt,bt,wi (n:=(o.length:Int) - (far:Int)) (by omega) (by omega),Option.bind_some,Option.bind_some,show (o.length:Int) - (far:Int)=((o.length - far:Nat):Int) by omega,ix_nat (by omega),Option.bind_some,Option.bind_some,dt (show _≤(140737488355328:Nat) by rw [List.length_cons,List.length_nil];omega),bt,bt,wi (n:=(j:Int)+1) (by omega) (by omega),show (j:Int)+1=((j+1:Nat):Int) by omega]
      have hlt:o.length - far<o.length:=by omega
      obtain ⟨o',h1,h2,h3,h4⟩:=ih (j+1) (o++[o[o.length - far]]) (by omega) (by omega) (by rw [List.length_append];omega) (by rw [List.length_append,List.length_cons,List.length_nil];omega) (okB_app ho (fun x hx=>by rw [List.mem_singleton.1 hx];exact ho _ (List.getElem_mem hlt)))
      refine ⟨o',?_,h2,h3,h4⟩
      rw [h1,List.length_append,List.length_cons,List.length_nil];omega
    · rw [df (show ¬ (j:Int)<(n:Int) by omega)]
      exact ⟨o,by omega,ho,rfl,rfl⟩
theorem copied_bk (hk:2000000≤k) {dl:List Int} (hj:(judge dl).2=0) {cs sy:List Int} (hd:Dec dl cs sy) (hB:okB B) (hBl:B.length≤1048576) {most:Int} (hm:0≤most) (hm2:most≤1048576) {s:Nat} (hs:s<320) {a:Nat} (ha:a≤8*B.length) {o:List Int} (ho:okB o) (hol:(o.length:Int)≤most) :
    SK B a most (o.length+1) (g_inflate_stream_copied k (s:Int) most (dR B a) (gR a) cs o sy) (g_quireref03_stream_copied k (s:Int) dl (codesL dl).1 most B (a:Int) o):=by
  unfold g_inflate_stream_copied g_quireref03_stream_copied
  have hdl:=(judge_ok hj).1
  obtain ⟨b1,e1,ok1,l1,l2,hb1,he1,hok1⟩:=lit_bk (k:=k) (by omega) hs
  rw [l1,l2,Option.bind_some,Option.bind_some]
  dsimp only
  cases ok1 with
  | false =>
    rw [ask_f rfl (by decide)]
    exact .inl ⟨12,_,_,by decide,rfl,rfl⟩
  | true =>
    have hb3:=hok1 rfl
    rw [ask_t rfl,Bool.not_true,bf,Option.bind_some]
    dsimp only
    rcases take_bk (k:=k) (by omega) hB (by omega) e1 (by omega) ha most o rfl with ⟨e,x,y,he,h1,h2⟩ | ⟨v1,a1,hv1,_,_,ha1,h1,h2⟩
    · rw [h1,h2,Option.bind_some,Option.bind_some]
      dsimp only
      rw [nz he]
      exact .inl ⟨e,_,_,he,rfl,rfl⟩
    rw [h1,h2,Option.bind_some,Option.bind_some]
    dsimp only
    have hp1:2^e1≤2^13:=Nat.pow_le_pow_right (by omega) he1
    rw [zz,bf,wi (n:=(v1:Int)) (by omega) (by omega),wi (n:=(b1:Int)+(v1:Int)) (by omega) (by omega),Option.bind_some]
    rcases sym_bk (k:=k) (by omega) hj hd hB (by omega) ha1 most o with ⟨e,x,y,he,h1,h2⟩ | ⟨t,a2,ht,⟨hx2,ha2⟩,h1,h2⟩
    · rw [h1,h2,Option.bind_some,Option.bind_some]
      dsimp only
      rw [nz he]
      exact .inl ⟨e,_,_,he,rfl,rfl⟩
    rw [h1,h2,Option.bind_some,Option.bind_some]
    dsimp only
    rw [zz,bf]
    obtain ⟨b2,e2,ok2,l1,l2,hb2,he2,hok2⟩:=dist_bk (k:=k) (by omega) (show t<320 by omega)
    rw [l1,l2,Option.bind_some,Option.bind_some]
    dsimp only
    cases ok2 with
    | false =>
      rw [ask_f rfl (by decide)]
      exact .inl ⟨12,_,_,by decide,rfl,rfl⟩
    | true =>
      have hb4:=hok2 rfl
      rw [ask_t rfl,Bool.not_true,bf,Option.bind_some]
      dsimp only
      rcases take_bk (k:=k) (by omega) hB (by omega) e2 (by omega) ha2 most o rfl with ⟨e,x,y,he,h1,h2⟩ | ⟨v2,a3,hv2,_,_,ha3,h1,h2⟩
      · rw [h1,h2,Option.bind_some,Option.bind_some]
        dsimp only
        rw [nz he]
        exact .inl ⟨e,_,_,he,rfl,rfl⟩
      rw [h1,h2,Option.bind_some,Option.bind_some]
      dsimp only
      have hp2:2^e2≤2^13:=Nat.pow_le_pow_right (by omega) he2
      rw [zz,bf,wi (n:=(v2:Int)) (by omega) (by omega),wi (n:=(b2:Int)+(v2:Int)) (by omega) (by omega),Option.bind_some,Option.bind_some,Option.bind_some]
      by_cases hfar:b2+v2≤o.length
      · rw [ask_t (dt (show (b2:Int)+(v2:Int)≤(o.length:Int) by omega)),df (show ¬ (o.length:Int)<(b2:Int)+(v2:Int) by omega),bf,Option.bind_some]
        dsimp only
        rw [wi (n:=most - (o.length:Int)) (by omega) (by omega),Option.bind_some]
        rcases room_bk (k:=k) (b:=dR B a3) (g:=gR a3) (n:=(b1:Int)+(v1:Int)) (o:=o) (most:=most) (by omega) (by omega) (by omega) with ⟨r1,r2⟩ | ⟨r1,r2⟩
        · rw [r2,dt r1]
          exact .inl ⟨3,_,_,by decide,rfl,rfl⟩
        · rw [r2,df r1,Option.bind_some,bf]
          dsimp only
          obtain ⟨o',q1,q2,q3,q4⟩:=copy_bk (k:=k) b1 v1 b2 v2 (b1+v1) (b2+v2) rfl rfl (by omega) (by omega) (by omega) k 0 o (by omega) (by omega) hfar (by omega) ho
          rw [show g_inflate_stream_copied_l0 k (b1:Int) (v1:Int) (b2:Int) (v2:Int) k 0 o=some o' from q3,show g_quireref03_stream_copied_l0 k ((b1:Int)+(v1:Int)) ((b2:Int)+(v2:Int)) k 0 o=some o' from q4,Option.bind_some,Option.bind_some]
          exact .inr ⟨a3,o',⟨by omega,ha3⟩,by omega,by omega,q2,rfl,rfl⟩
      · rw [ask_f (df (show ¬ (b2:Int)+(v2:Int)≤(o.length:Int) by omega)) (by decide),dt (show (o.length:Int)<(b2:Int)+(v2:Int) by omega)]
        exact .inl ⟨12,_,_,by decide,rfl,rfl⟩
def cpost (y:Int ⊕ (Unit ⊕ (Int ⊕ (List Int × Int × List Int)))):Option (Int ⊕ (List Int × Int × List Int)):=match y with
  | .inl e=>some (.inl e)
  | .inr (.inl _)=>some (.inl 3)
  | .inr (.inr (.inl e))=>some (.inl e)
  | .inr (.inr (.inr (b,g,o)))=>some (.inr (b,g,o))
theorem coded_post {m:Int} {b:List Int} {g:Int} {c1 c2 o s1 s2:List Int}:g_inflate_stream_coded k m b g c1 c2 o s1 s2=(g_inflate_stream_coded_l0 k m c1 c2 s1 s2 k b g o).bind cpost:=by
  unfold g_inflate_stream_coded
  cases g_inflate_stream_coded_l0 k m c1 c2 s1 s2 k b g o with
  | none=>rfl
  | some y=>rcases y with e | u | e | ⟨b,g,o⟩ <;> rfl
theorem symbols_go (hk:2000000≤k) {ll dl:List Int} (hj1:(judge ll).2=0) (hj2:(judge dl).2=0) {c1 s1 c2 s2:List Int} (hd1:Dec ll c1 s1) (hd2:Dec dl c2 s2) (hB:okB B) (hBl:B.length≤1048576) {most:Int} (hm:0≤most) (hm2:most≤1048576):∀ (f n1 n2 a:Nat) (o:List Int),most - (o.length:Int)<f→f≤n1→f≤n2→a≤8*B.length→okB o→(o.length:Int)≤most →
    SK B a most o.length ((g_inflate_stream_coded_l0 k most c1 c2 s1 s2 n1 (dR B a) (gR a) o).bind cpost) (g_quireref03_stream_symbols_l0 k ll (codesL ll).1 dl (codesL dl).1 most B n2 (a:Int) o):=by
  have hll:=(judge_ok hj1).1
  intro f
  induction f with
  | zero=>intro n1 n2 a o h _ _ _ _ h2;omega
  | succ f ih =>
    intro n1 n2 a o hf h1 h2 ha ho hol
    obtain ⟨n1,rfl⟩:∃ n,n1=n+1:=⟨n1 - 1,by omega⟩
    obtain ⟨n2,rfl⟩:∃ n,n2=n+1:=⟨n2 - 1,by omega⟩
    rw [g_inflate_stream_coded_l0.eq_2,g_quireref03_stream_symbols_l0.eq_2]
    rcases sym_bk (k:=k) (by omega) hj1 hd1 hB (by omega) ha most o with ⟨e,x,y,he,q1,q2⟩ | ⟨t,a1,ht,⟨hx1,ha1⟩,q1,q2⟩
    · rw [q1,q2]
      repeat rw [Option.bind_some]
      dsimp only
      rw [nz he]
      exact .inl ⟨e,_,_,he,rfl,rfl⟩
    rw [q1,q2]
    repeat rw [Option.bind_some]
    dsimp only
    rw [zz,bf]
    by_cases h256:t=256
    · subst h256
      exact .inr ⟨a1,o,⟨hx1,ha1⟩,Nat.le_refl _,hol,ho,rfl,rfl⟩
    rw [df (show ¬ (t:Int)=256 by omega),bf]
    by_cases hlt:t<256
    · rw [dt (show (t:Int)<256 by omega),bt,bt]
      unfold g_quireref03_stream_put
      rcases room_bk (k:=k) (b:=dR B a1) (g:=gR a1) (n:=1) (o:=o) (most:=most) (by omega) (by omega) (by omega) with ⟨r1,r2⟩ | ⟨r1,r2⟩
      · rw [r2,dt (show most≤(o.length:Int) by omega)]
        exact .inl ⟨3,_,_,by decide,rfl,rfl⟩
      · rw [r2,df (show ¬ most≤(o.length:Int) by omega),wu8 (n:=(t:Int)) (by omega) (by omega),dt (show _≤(140737488355328:Nat) by rw [List.length_cons,List.length_nil];omega)]
        repeat (first | rw [Option.bind_some] | rw [bf] | rw [bt])
        dsimp only
        repeat (first | rw [Option.bind_some] | rw [bf] | rw [bt])
        rw [zz,bf]
        have:=ih n1 n2 a1 (o++[(t:Int)]) (by rw [List.length_append,List.length_cons,List.length_nil];omega) (by omega) (by omega) ha1 (okB_app ho (fun x hx=>by rw [List.mem_singleton.1 hx];omega)) (by rw [List.length_append,List.length_cons,List.length_nil];omega)
        rcases this with h | ⟨a',o',g1,g2,g3⟩
        · exact .inl h
        · exact .inr ⟨a',o',⟨by omega,g1.2⟩,by rw [List.length_append] at g2;omega,g3⟩
    · rw [df (show ¬ (t:Int)<256 by omega),bf,bf]
      rcases copied_bk (k:=k) hk hj2 hd2 hB hBl hm hm2 (s:=t) (by omega) ha1 ho hol with ⟨e,y,o',he,q3,q4⟩ | ⟨a2,o',⟨hx2,ha2⟩,g1,g2,g3,q3,q4⟩
      · rw [q3,q4]
        repeat (first | rw [Option.bind_some] | rw [bf] | rw [bt])
        dsimp only
        repeat (first | rw [Option.bind_some] | rw [bf] | rw [bt])
        rw [nz he]
        exact .inl ⟨e,_,_,he,rfl,rfl⟩
      · rw [q3,q4]
        repeat (first | rw [Option.bind_some] | rw [bf] | rw [bt])
        dsimp only
        repeat (first | rw [Option.bind_some] | rw [bf] | rw [bt])
        rw [zz,bf]
        rcases ih n1 n2 a2 o' (by omega) (by omega) (by omega) ha2 g3 g2 with h | ⟨a',o2,p1,p2,p3⟩
        · exact .inl h
        · exact .inr ⟨a',o2,⟨by omega,p1.2⟩,by omega,p3⟩
theorem symbols_bk (hk:2000000≤k) {ll dl:List Int} (hj1:(judge ll).2=0) (hj2:(judge dl).2=0) {c1 s1 c2 s2:List Int} (hd1:Dec ll c1 s1) (hd2:Dec dl c2 s2) (hB:okB B) (hBl:B.length≤1048576) {most:Int} (hm:0≤most) (hm2:most≤1048576) {a:Nat} (ha:a≤8*B.length) {o:List Int} (ho:okB o) (hol:(o.length:Int)≤most) :
    SK B a most o.length (g_inflate_stream_coded k most (dR B a) (gR a) c1 c2 o s1 s2) (g_quireref03_stream_symbols k ll (codesL ll).1 dl (codesL dl).1 most B (a:Int) o):=by
  rw [coded_post]
  have:=symbols_go hk hj1 hj2 hd1 hd2 hB hBl hm hm2 1048577 k k a o (by omega) (by omega) (by omega) ha ho hol
  unfold g_quireref03_stream_symbols
  rcases this with ⟨e,y,o',he,q1,q2⟩ | ⟨a',o',g1,g2,g3,g4,q1,q2⟩
  · rw [q1,q2];exact .inl ⟨e,_,_,he,rfl,rfl⟩
  · rw [q1,q2];exact .inr ⟨a',o',g1,g2,g3,g4,rfl,rfl⟩
end
def lfixR:List Int:=List.replicate 144 8++List.replicate 112 9++List.replicate 24 7++List.replicate 8 8
def dfixR:List Int:=List.replicate 32 5
theorem fixedLitR:g_inflate_FixedLit 300=some lfixR:=by decide +kernel
theorem fixedDistR:g_inflate_FixedDist 300=some dfixR:=by decide +kernel
theorem rfixedLitR:g_quireref03_FixedLit 300=some lfixR:=by decide +kernel
theorem rfixedDistR:g_quireref03_FixedDist 300=some dfixR:=by decide +kernel
theorem lfixR_judge:(judge lfixR).2=0:=by decide +kernel
theorem dfixR_judge:(judge dfixR).2=0:=by decide +kernel
theorem judge_12 {l:List Int} (h:(judge l).1=true):(judge l).2=0:=by
  unfold judge at *
  split at h
  · cases h
  rename_i h1
  split at h
  · cases h
  rename_i h2
  split at h
  · rename_i h3;rw [if_neg h1,if_neg h2,if_pos h3]
  split at h <;> cases h
theorem codesL_0 {l:List Int} (h:(judge l).2=0):(codesL l).2=0:=by unfold codesL;rw [if_pos h]
theorem codesL_n {l:List Int} (h:(judge l).2≠0):(codesL l).2=(judge l).2:=by unfold codesL;rw [if_neg h]
section
variable {k:Nat} {B:List Int}
theorem laidR (hk:2000000≤k) (n:Nat) (hn:n≤1000) (v:Int):g_inflate_laid k ([(⟨(n:Int),v⟩:S_inflate_run)]:List S_inflate_run)=some (List.replicate n v):=by
  have h1:∀ (f i:Nat) (l:List Int),i≤n→n - i<f→l.length+(n - i)≤1000000→g_inflate_laid_l1 k ⟨(n:Int),v⟩ f (i:Int) l=some (l++List.replicate (n - i) v):=by
    intro f
    induction f with
    | zero=>intro i l _ h;omega
    | succ f ih =>
      intro i l hi hf hl
      rw [g_inflate_laid_l1.eq_2]
      by_cases hc:i<n
      · rw [dt (show (i:Int)<(n:Int) by omega),bt,dt (show _≤(140737488355328:Nat) by rw [List.length_cons,List.length_nil];omega),bt,wi (n:=(i:Int)+1) (by omega) (by omega),show (i:Int)+1=((i+1:Nat):Int) by omega]
        rw [ih (i+1) _ (by omega) (by omega) (by rw [List.length_append,List.length_cons,List.length_nil];omega),List.append_assoc,show n - i=(n - (i+1))+1 by omega,List.replicate_succ]
        rfl
      · rw [df (show ¬ (i:Int)<(n:Int) by omega),show n - i=0 by omega];simp
  obtain ⟨k',rfl⟩:∃ k',k=k'+2:=⟨k - 2,by omega⟩
  have h2:=h1 (k'+2) 0 [] (by omega) (by omega) (by simp;omega)
  unfold g_inflate_laid
  rw [g_inflate_laid_l0.eq_2,show decide ((0:Int)<(([(⟨(n:Int),v⟩:S_inflate_run)]:List S_inflate_run).length:Int))=true from rfl,Option.bind_some,bt,show ix ([(⟨(n:Int),v⟩:S_inflate_run)]:List S_inflate_run) 0=some ⟨(n:Int),v⟩ from rfl,Option.bind_some,show g_inflate_laid_l1 (k'+2) ⟨(n:Int),v⟩ (k'+2) 0 []=_ from h2,Option.bind_some,show IntKind.wrap .i64 (0+1)=1 from rfl,g_inflate_laid_l0.eq_2,show decide ((1:Int)<(([(⟨(n:Int),v⟩:S_inflate_run)]:List S_inflate_run).length:Int))=false from rfl,Option.bind_some,bf,Option.bind_some]
  simp
theorem rlaidR (v:Int) (n:Nat) (hn:n≤1000):∀ (f i:Nat) (r:List Int),i≤n→n - i<f→r.length+(n - i)≤100000→g_quireref03_stream_row_l1 k v (n:Int) f (i:Int) r=some (r++List.replicate (n - i) v):=by
  intro f
  induction f with
  | zero=>intro i r _ h;omega
  | succ f ih =>
    intro i r hi hf hr
    rw [g_quireref03_stream_row_l1.eq_2]
    by_cases h:i<n
    · rw [dt (show (i:Int)<(n:Int) by omega),bt,dt (show _≤(140737488355328:Nat) by rw [List.length_cons,List.length_nil];omega),bt,wi (n:=(i:Int)+1) (by omega) (by omega),show (i:Int)+1=((i+1:Nat):Int) by omega]
      rw [ih (i+1) _ (by omega) (by omega) (by rw [List.length_append,List.length_cons,List.length_nil];omega),show n - i=n - (i+1)+1 by omega,List.replicate_succ,List.append_assoc]
      rfl
    · rw [df (show ¬ (i:Int)<(n:Int) by omega),show n - i=0 by omega];simp
theorem code_bk (hk:2000000≤k) (l:List Int) :
    (∃ (e:Int) (x:List Int),e≠0∧g_inflate_code k l=some (Sum.inl e)∧g_quireref03_coded k l=some (e,x)) ∨
    ((judge l).2=0∧∃ cs sy,Dec l cs sy∧g_inflate_code k l=some (Sum.inr (cs,sy))∧g_quireref03_coded k l=some (0,(codesL l).1)):=by
  have h:=g_huff_New_ok (k:=k) (by omega) (l:=l)
  have hc:g_quireref03_coded k l=some ((codesL l).2,(codesL l).1):=by
    unfold g_quireref03_coded
    rw [g_quireref02_Codes_eq (by omega),Option.bind_some]
  unfold g_inflate_code
  by_cases hj:(judge l).2=0
  · right
    rw [if_pos hj] at h
    obtain ⟨cs,sy,h1,h2⟩:=h
    refine ⟨hj,cs,sy,h2,?_,by rw [hc,codesL_0 hj]⟩
    rw [h1,Option.bind_some]
    dsimp only
    rw [must_0,Option.bind_some]
  · left
    rw [if_neg hj] at h
    refine ⟨(judge l).2,_,hj,?_,by rw [hc,codesL_n hj]⟩
    rw [h,Option.bind_some]
    dsimp only
    rw [must_e hj,Option.bind_some]
def rpost (y:(Int × List Int) ⊕ ((List Int × Int × List Int) ⊕ ((Int × List Int) ⊕ ((List Int × Int × List Int) ⊕ (List Int × Int × List Int))))):Option (Int ⊕ (List Int × Int × List Int)):=match y with
  | .inl (e,_)=>some (.inl e)
  | .inr (.inl _)=>some (.inl 12)
  | .inr (.inr (.inl (e,_)))=>some (.inl e)
  | .inr (.inr (.inr (.inl _)))=>some (.inl 12)
  | .inr (.inr (.inr (.inr p)))=>some (.inr p)
def rq (y:(Int × Int) ⊕ (Int × List Int)):Option (List Int × Int × Int):=match y with
  | .inl (e,a)=>some ([],e,a)
  | .inr (a,r)=>some (r,0,a)
def RK (B:List Int) (a0:Nat) (many:Nat) (X:Option (Int ⊕ (List Int × Int × List Int))) (Y:Option (List Int × Int × Int)):Prop :=
  (∃ (e y:Int) (x:List Int),e≠0∧X=some (Sum.inl e)∧Y=some (x,e,y)) ∨
  ∃ (a':Nat) (r:List Int),(a0≤a'∧a'≤8*B.length)∧r.length=many∧(∀ x∈r,0≤x)∧X=some (Sum.inr (dR B a',gR a',r))∧Y=some (r,0,(a':Int))
theorem last_bk {r:List Int} (hr:r.length≤1000):(r=[]∧g_inflate_stream_dynamic_1__b k r=some (0,false))∨∃ v,v∈r∧0<r.length∧ix r ((r.length - 1:Nat):Int)=some v∧g_inflate_stream_dynamic_1__b k r=some (v,true):=by
  unfold g_inflate_stream_dynamic_1__b
  rw [Option.bind_some]
  by_cases h:r.length=0
  · left
    rw [dt (show ((r.length:Nat):Int)=0 by omega)]
    exact ⟨List.length_eq_zero_iff.1 h,rfl⟩
  · right
    have hlt:r.length - 1<r.length:=by omega
    refine ⟨r[r.length - 1],List.getElem_mem hlt,by omega,ix_nat hlt,?_⟩
    rw [df (show ¬ ((r.length:Nat):Int)=0 by omega),bf,wi (by omega) (by omega),Option.bind_some,show ((r.length:Nat):Int) - 1=((r.length - 1:Nat):Int) by omega,ix_nat hlt,Option.bind_some]
theorem row_go (hk:2000000≤k) {CL:List Int} (hj:(judge CL).2=0) (h19:CL.length=19) {cs sy:List Int} (hd:Dec CL cs sy) (hB:okB B) (hBl:B.length≤1048576) (most:Int) (o:List Int) (p q many:Nat) (hp:p≤40) (hq:q≤40) (hmany:many=258+p+q):∀ (f n1 n2 a:Nat) (r:List Int),many - r.length<f→f≤n1→f+1≤n2→a≤8*B.length→r.length<many→(∀ x∈r,0≤x) →
    RK B a many ((g_inflate_stream_dynamic_l1 k most o (p:Int) (q:Int) cs sy n1 (dR B a) (gR a) r).bind rpost) ((g_quireref03_stream_row_l0 k CL (codesL CL).1 (many:Int) B n2 (a:Int) r).bind rq):=by
  have hw:IntKind.wrap .i64 ((IntKind.wrap .i64 (257+(p:Int)))+(IntKind.wrap .i64 (1+(q:Int))))=(many:Int):=by
    rw [wi (n:=257+(p:Int)) (by omega) (by omega),wi (n:=1+(q:Int)) (by omega) (by omega),wi (by omega) (by omega)];omega
  intro f
  induction f with
  | zero=>intro n1 n2 a r h;omega
  | succ f ih =>
    intro n1 n2 a r hf h1 h2 ha hr hr0
    obtain ⟨n1,rfl⟩:∃ n,n1=n+1:=⟨n1 - 1,by omega⟩
    obtain ⟨n2,rfl⟩:∃ n,n2=n+1:=⟨n2 - 1,by omega⟩
    -- a run more
    have next:∀ (n a2:Nat) (v:Int),1≤n→n≤many - r.length→0≤v→a≤a2→a2≤8*B.length →
        RK B a many ((bif decide (((r++List.replicate n v).length:Int)=(many:Int)) then some (Sum.inr (Sum.inr (Sum.inr (Sum.inr (dR B a2,gR a2,r++List.replicate n v))))) else g_inflate_stream_dynamic_l1 k most o (p:Int) (q:Int) cs sy n1 (dR B a2) (gR a2) (r++List.replicate n v)).bind rpost) ((g_quireref03_stream_row_l0 k CL (codesL CL).1 (many:Int) B n2 (a2:Int) (r++List.replicate n v)).bind rq):=by
      intro n a2 v hn1 hn2 hv haa ha2
      have hl:(r++List.replicate n v).length=r.length+n:=by rw [List.length_append,List.length_replicate]
      have hall:∀ x∈r++List.replicate n v,0≤x:=fun x hx=>by
        rcases List.mem_append.1 hx with hx | hx
        · exact hr0 x hx
        · rw [List.eq_of_mem_replicate hx];exact hv
      by_cases he:r.length+n=many
      · obtain ⟨n2,rfl⟩:∃ n,n2=n+1:=⟨n2 - 1,by omega⟩
        rw [dt (by rw [hl];omega),g_quireref03_stream_row_l0.eq_2,df (show ¬ ((r++List.replicate n v).length:Int)<(many:Int) by rw [hl];omega)]
        exact .inr ⟨a2,_,⟨haa,ha2⟩,by rw [hl];exact he,hall,rfl,rfl⟩
      · rw [df (by rw [hl];omega),bf]
        rcases ih n1 n2 a2 _ (by rw [hl];omega) (by omega) (by omega) ha2 (by rw [hl];omega) hall with g | ⟨a',r',g1,g2⟩
        · exact .inl g
        · exact .inr ⟨a',r',⟨by omega,g1.2⟩,g2⟩
    rw [g_inflate_stream_dynamic_l1.eq_2,g_quireref03_stream_row_l0.eq_2,dt (show (r.length:Int)<(many:Int) by omega)]
    repeat (first | rw [Option.bind_some] | rw [bt])
    rw [wi (n:=(many:Int) - (r.length:Int)) (by omega) (by omega)]
    rcases sym_bk (k:=k) (by omega) hj hd hB (by omega) ha most o with ⟨e,x,y,he,q1,q2⟩ | ⟨t,a1,ht,⟨hx1,ha1⟩,q1,q2⟩
    · rw [q1,q2]
      repeat rw [Option.bind_some]
      dsimp only
      rw [nz he]
      exact .inl ⟨e,_,_,he,rfl,rfl⟩
    rw [q1,q2]
    repeat rw [Option.bind_some]
    dsimp only
    rw [zz,bf,hw]
    by_cases h16:t<16
    · -- a length
      rw [df (show ¬ (t:Int)=16 by omega),df (show ¬ (t:Int)=17 by omega),df (show ¬ (t:Int)=18 by omega),dt (show (t:Int)<16 by omega)]
      repeat (first | rw [Option.bind_some] | rw [bf] | rw [bt])
      rw [wi (n:=(many:Int) - (r.length:Int)) (by omega) (by omega),ask_t (dt (show (1:Int)≤(many:Int) - (r.length:Int) by omega))]
      repeat (first | rw [Option.bind_some] | rw [bf] | rw [bt])
      dsimp only
      have hla:=laidR (k:=k) hk 1 (by omega) (t:Int)
      rw [show g_inflate_laid k ([(⟨1,(t:Int)⟩:S_inflate_run)]:List S_inflate_run)=_ from hla,Option.bind_some,dt (show _≤(140737488355328:Nat) by rw [List.length_replicate];omega),dt (show _≤(140737488355328:Nat) by rw [List.length_cons,List.length_nil];omega)]
      repeat (first | rw [Option.bind_some] | rw [bf] | rw [bt])
      exact next 1 a1 (t:Int) (by omega) (by omega) (by omega) hx1 ha1
    · have h19':t=16∨t=17∨t=18:=by omega
      rw [df (show ¬ (t:Int)<16 by omega)]
      -- what stands behind a run's number is alike
      have run:∀ (c base:Nat) (v:Int),c≤7→1≤base→base≤11→0≤v →
          RK B a many (((g_inflate_stream_take k (c:Int) most (dR B a1) (gR a1) o).bind fun y=>match y with | (Sum.inl e)=>some (Sum.inr (Sum.inr (Sum.inl (e,r)))) | (Sum.inr (x1,x2,x3))=>((some (many:Int)).bind fun x5=>((some (IntKind.wrap .i64 (x5 - ((List.length r:Nat):Int)))).bind fun x6=>((some (decide ((IntKind.wrap .i64 ((base:Int)+x1))≤x6))).bind fun x7=>((g_inflate_ask k x7 12).bind fun y=>match y with | (Sum.inl _)=>some (Sum.inr (Sum.inr (Sum.inr (Sum.inl (x2,x3,r))))) | (Sum.inr _)=>((g_inflate_laid k ([(⟨(IntKind.wrap .i64 ((base:Int)+x1)),v⟩:S_inflate_run)]:List S_inflate_run)).bind fun x9=>(bif (decide (((List.length r)+(List.length x9))*8≤140737488355328)) then ((some (many:Int)).bind fun x10=>((some (decide (((List.length (r++x9):Nat):Int)=x10))).bind fun x11=>(bif x11 then some (Sum.inr (Sum.inr (Sum.inr (Sum.inr (x2,x3,(r++x9)))))) else (g_inflate_stream_dynamic_l1 k most o (p:Int) (q:Int) cs sy n1 x2 x3 (r++x9))))) else none))))))).bind rpost)
            (((g_quireref01_Reader_Take k (c:Int) B (a1:Int)).bind fun (x1,x2,x3)=>(bif (!decide (x2=0)) then some (Sum.inl (x2,x3)) else ((some (IntKind.wrap .i64 ((base:Int)+(IntKind.wrap .i64 x1)))).bind fun x4=>((some ((many:Int) - ((List.length r:Nat):Int))).bind fun x5=>(bif (decide (x5<x4)) then some (Sum.inl (12,x3)) else ((g_quireref03_stream_row_l1 k v x4 k 0 r).bind fun x6=>(g_quireref03_stream_row_l0 k CL (codesL CL).1 (many:Int) B n2 x3 x6))))))).bind rq):=by
        intro c base v hc hb1 hb2 hv
        rcases take_bk (k:=k) (by omega) hB (by omega) c (by omega) ha1 most o rfl with ⟨e,x,y,he,q3,q4⟩ | ⟨w,a2,hw2,_,_,ha2,q3,q4⟩
        · rw [q3,q4]
          repeat rw [Option.bind_some]
          dsimp only
          rw [nz he]
          exact .inl ⟨e,_,_,he,rfl,rfl⟩
        · have hpw:2^c≤2^7:=Nat.pow_le_pow_right (by omega) hc
          rw [q3,q4]
          repeat rw [Option.bind_some]
          dsimp only
          rw [zz,bf]
          repeat rw [Option.bind_some]
          rw [wi (n:=(w:Int)) (by omega) (by omega),wi (n:=(base:Int)+(w:Int)) (by omega) (by omega),wi (n:=(many:Int) - (r.length:Int)) (by omega) (by omega)]
          by_cases hle:base+w≤many - r.length
          · rw [ask_t (dt (show (base:Int)+(w:Int)≤(many:Int) - (r.length:Int) by omega)),df (show ¬ (many:Int) - (r.length:Int)<(base:Int)+(w:Int) by omega)]
            repeat (first | rw [Option.bind_some] | rw [bf])
            dsimp only
            have hla:=laidR (k:=k) hk (base+w) (by omega) v
            have hrl:=rlaidR (k:=k) v (base+w) (by omega) k 0 r (by omega) (by omega) (by omega)
            rw [show (base:Int)+(w:Int)=((base+w:Nat):Int) by omega,hla,show g_quireref03_stream_row_l1 k v ((base+w:Nat):Int) k 0 r=_ from hrl,Nat.sub_zero]
            repeat rw [Option.bind_some]
            rw [dt (show _≤(140737488355328:Nat) by rw [List.length_replicate];omega)]
            repeat (first | rw [Option.bind_some] | rw [bt])
            exact next (base+w) a2 v (by omega) hle hv (by omega) ha2
          · rw [ask_f (df (show ¬ (base:Int)+(w:Int)≤(many:Int) - (r.length:Int) by omega)) (by decide),dt (show (many:Int) - (r.length:Int)<(base:Int)+(w:Int) by omega)]
            exact .inl ⟨12,_,_,by decide,rfl,rfl⟩
      rcases h19' with rfl | rfl | rfl
      · rw [show decide (((16:Nat):Int)=16)=true from rfl,show decide (((16:Nat):Int)=17)=false from rfl,show decide (((16:Nat):Int)=18)=false from rfl]
        repeat (first | rw [Option.bind_some] | rw [bf] | rw [bt])
        rcases last_bk (k:=k) (r:=r) (by omega) with ⟨rfl,l1⟩ | ⟨v,hv,hpos,l2,l1⟩
        · rw [l1]
          repeat rw [Option.bind_some]
          dsimp only
          rw [ask_f rfl (by decide)]
          exact .inl ⟨12,_,_,by decide,rfl,rfl⟩
        · rw [l1]
          repeat rw [Option.bind_some]
          dsimp only
          rw [ask_t rfl,df (show ¬ ((r.length:Nat):Int)=0 by omega),wi (n:=(r.length:Int) - 1) (by omega) (by omega),show (r.length:Int) - 1=((r.length - 1:Nat):Int) by omega,l2]
          repeat (first | rw [Option.bind_some] | rw [bf] | rw [bt])
          dsimp only
          exact run 2 3 v (by omega) (by omega) (by omega) (hr0 v hv)
      · rw [show decide (((17:Nat):Int)=16)=false from rfl,show decide (((17:Nat):Int)=17)=true from rfl,show decide (((17:Nat):Int)=18)=false from rfl]
        repeat (first | rw [Option.bind_some] | rw [bf] | rw [bt])
        dsimp only
        exact run 3 3 0 (by omega) (by omega) (by omega) (by omega)
      · rw [show decide (((18:Nat):Int)=16)=false from rfl,show decide (((18:Nat):Int)=17)=false from rfl,show decide (((18:Nat):Int)=18)=true from rfl]
        repeat (first | rw [Option.bind_some] | rw [bf] | rw [bt])
        dsimp only
        exact run 7 11 0 (by omega) (by omega) (by omega) (by omega)
end
def ordR:List Int:=[16,17,18,0,8,7,9,6,10,5,11,4,12,3,13,2,14,1,15]
theorem ordR_fix:fixD (0:Int) ([16,17,18,0,8,7,9,6,10,5,11,4,12,3,13,2,14,1,15]:List Int) 19=ordR:=by decide
theorem ordR_get:∀ i:Fin 19,∃ x:Nat,x<19∧ordR[i.val]? = some (x:Int):=by
  intro i
  have h:(ordR.all fun x=>decide (0≤x)&&decide (x<19))=true:=by decide
  have hl:i.val<ordR.length:=i.isLt
  have:=List.all_eq_true.1 h _ (List.getElem_mem hl)
  simp only [Bool.and_eq_true,decide_eq_true_eq] at this
  exact ⟨(ordR[i.val]'hl).toNat,by omega,by rw [List.getElem?_eq_getElem hl,Int.toNat_of_nonneg this.1]⟩
theorem setD_set {l:List Int} (hl:l.length=19) {j:Nat} (hj:j<19) (v:Int):setD (0:Int) l 19 j v=l.set j v:=by
  unfold setD
  apply List.ext_getElem
  · simp [hl]
  · intro i h1 h2
    simp only [List.length_map,List.length_range] at h1
    rw [List.getElem_map,List.getElem_range,List.getElem_set]
    by_cases h:j=i
    · rw [if_pos h,if_pos h.symm]
    · rw [if_neg h,if_neg (fun e=>h e.symm),List.getD_eq_getElem?_getD,List.getElem?_eq_getElem (by omega)];rfl
theorem fixD_self {l:List Int} (hl:l.length=19):List.drop (Int.toNat 0) (List.take (Int.toNat (19:Int)) (fixD (0:Int) l 19))=l:=by
  have e:fixD (0:Int) l 19=l:=by
    unfold fixD
    apply List.ext_getElem
    · simp [hl]
    · intro i h1 h2
      rw [List.getElem_map,List.getElem_range,List.getD_eq_getElem?_getD,List.getElem?_eq_getElem (by omega)];rfl
  rw [e,show Int.toNat (19:Int)=19 from rfl,show Int.toNat 0=0 from rfl,List.drop_zero,List.take_of_length_le (by omega)]
section
variable {k:Nat} {B:List Int}
def LK (B:List Int) (a0:Nat) (X:Option (Int ⊕ (List Int × Int × List Int))) (Y:Option ((Int × Int) ⊕ (Int × List Int))):Prop :=
  (∃ (e y:Int),e≠0∧X=some (Sum.inl e)∧Y=some (Sum.inl (e,y))) ∨
  ∃ (a':Nat) (l:List Int),(a0≤a'∧a'≤8*B.length)∧l.length=19∧X=some (Sum.inr (dR B a',gR a',l))∧Y=some (Sum.inr ((a':Int),l))
theorem lens_go (hk:2000000≤k) (hB:okB B) (hBl:B.length≤1048576) (most:Int) (o:List Int) (w:Nat) (hw:w≤15):∀ (f n1 n2 i a:Nat) (l:List Int),4+w - i<f→f≤n1→f≤n2→i≤4+w→a≤8*B.length→l.length=19 →
    LK B a (g_inflate_stream_dynamic_l0 k most o (w:Int) ((4+w:Nat):Int) n1 (i:Int) (dR B a) (gR a) l) (g_quireref03_stream_dynamic_l0 k B (w:Int) n2 (i:Int) (a:Int) l):=by
  intro f
  induction f with
  | zero=>intro n1 n2 i a l h;omega
  | succ f ih =>
    intro n1 n2 i a l hf h1 h2 hi ha hl
    obtain ⟨n1,rfl⟩:∃ n,n1=n+1:=⟨n1 - 1,by omega⟩
    obtain ⟨n2,rfl⟩:∃ n,n2=n+1:=⟨n2 - 1,by omega⟩
    rw [g_inflate_stream_dynamic_l0.eq_2,g_quireref03_stream_dynamic_l0.eq_2,wi (n:=(w:Int)) (by omega) (by omega),wi (n:=4+(w:Int)) (by omega) (by omega),Option.bind_some]
    by_cases h:i<4+w
    · rw [dt (show (i:Int)<((4+w:Nat):Int) by omega),dt (show (i:Int)<4+(w:Int) by omega),bt,bt,ordR_fix,show Int.toNat (4+(w:Int))=4+w by omega,show Int.toNat 0=0 from rfl,List.drop_zero]
      obtain ⟨x,hx,ex⟩:=ordR_get ⟨i,by omega⟩
      have hil:i<ordR.length:=by show i<19;omega
      have ei:ordR[i]=(x:Int):=Option.some.inj ((List.getElem?_eq_getElem hil).symm.trans ex)
      have hit:i<(ordR.take (4+w)).length:=by rw [List.length_take];omega
      rw [ix_nat hit,List.getElem_take,ei,Option.bind_some]
      rcases take_bk (k:=k) (by omega) hB (by omega) 3 (by omega) ha most o rfl with ⟨e,y,z,he,q1,q2⟩ | ⟨v,a1,hv,_,_,ha1,q1,q2⟩
      · rw [show g_inflate_stream_take k 3 most (dR B a) (gR a) o=_ from q1,show g_quireref01_Reader_Take k 3 B (a:Int)=_ from q2]
        repeat rw [Option.bind_some]
        dsimp only
        rw [nz he]
        exact .inl ⟨e,_,he,rfl,rfl⟩
      · rw [show g_inflate_stream_take k 3 most (dR B a) (gR a) o=_ from q1,show g_quireref01_Reader_Take k 3 B (a:Int)=_ from q2]
        repeat rw [Option.bind_some]
        dsimp only
        have hxl:x<l.length:=by omega
        rw [zz,bf,show ix ([16,17,18,0,8,7,9,6,10,5,11,4,12,3,13,2,14,1,15]:List Int) (i:Int)=some (x:Int) from by rw [← ei];exact ix_nat hil,Option.bind_some,ix_nat hxl,Option.bind_some,dt (show (0:Int)≤(x:Int)∧(x:Int)<19 by omega),bt,wi (n:=(v:Int)) (by omega) (by omega),Int.toNat_natCast,setD_set hl hx,wi (n:=(i:Int)+1) (by omega) (by omega),show (i:Int)+1=((i+1:Nat):Int) by omega]
        rcases ih n1 n2 (i+1) a1 (l.set x (v:Int)) (by omega) (by omega) (by omega) (by omega) ha1 (by rw [List.length_set];exact hl) with g | ⟨a',l',g1,g2⟩
        · exact .inl g
        · exact .inr ⟨a',l',⟨by omega,g1.2⟩,g2⟩
    · rw [df (show ¬ (i:Int)<((4+w:Nat):Int) by omega),df (show ¬ (i:Int)<4+(w:Int) by omega)]
      exact .inr ⟨a,l,⟨Nat.le_refl _,ha⟩,hl,rfl,rfl⟩
theorem full_bk (hk:2000000≤k) (l:List Int):g_huff_Full k l=some (judge l).1∧g_quireref02_Full k l=some (judge l).1:=by
  refine ⟨?_,g_quireref02_Full_eq (by omega)⟩
  unfold g_huff_Full
  rw [g_huff_judged_eq (by omega),Option.bind_some]
theorem rpost_err {X:Option ((Int × List Int) ⊕ ((List Int × Int × List Int) ⊕ ((Int × List Int) ⊕ ((List Int × Int × List Int) ⊕ (List Int × Int × List Int)))))} {e:Int} (h:X.bind rpost=some (.inl e)) :
    (∃ r,X=some (.inl (e,r)))∨(e=12∧∃ p,X=some (.inr (.inl p)))∨(∃ r,X=some (.inr (.inr (.inl (e,r)))))∨(e=12∧∃ p,X=some (.inr (.inr (.inr (.inl p))))):=by
  cases X with
  | none=>cases h
  | some y =>
    rcases y with ⟨x,r⟩ | p | ⟨x,r⟩ | p | p
    · cases h;exact .inl ⟨r,rfl⟩
    · cases h;exact .inr (.inl ⟨rfl,p,rfl⟩)
    · cases h;exact .inr (.inr (.inl ⟨r,rfl⟩))
    · cases h;exact .inr (.inr (.inr ⟨rfl,p,rfl⟩))
    · cases h
theorem rpost_ok {X:Option ((Int × List Int) ⊕ ((List Int × Int × List Int) ⊕ ((Int × List Int) ⊕ ((List Int × Int × List Int) ⊕ (List Int × Int × List Int)))))} {p:List Int × Int × List Int} (h:X.bind rpost=some (.inr p)):X=some (.inr (.inr (.inr (.inr p)))):=by
  cases X with
  | none=>cases h
  | some y =>
    rcases y with ⟨x,r⟩ | p | ⟨x,r⟩ | p | p <;> cases h
    rfl
theorem row_post {CL c:List Int} {many:Int} {m:Int} {a:Int} {o:List Int}:g_quireref03_stream_row k CL c many m B a o=(g_quireref03_stream_row_l0 k CL c many B k a []).bind rq:=by
  unfold g_quireref03_stream_row
  cases g_quireref03_stream_row_l0 k CL c many B k a [] with
  | none=>rfl
  | some y=>rcases y with ⟨_,_⟩ | ⟨_,_⟩ <;> rfl
theorem dynamic_bk (hk:2000000≤k) (hB:okB B) (hBl:B.length≤1048576) {most:Int} (hm:0≤most) (hm2:most≤1048576) {a:Nat} (ha:a≤8*B.length) {o:List Int} (ho:okB o) (hol:(o.length:Int)≤most) :
    SK B a most o.length (g_inflate_stream_dynamic k most (dR B a) (gR a) o) (g_quireref03_stream_dynamic k most B (a:Int) o):=by
  unfold g_inflate_stream_dynamic g_quireref03_stream_dynamic
  rcases take_bk (k:=k) (c':=5) (by omega) hB (by omega) 5 (by omega) ha most o rfl with ⟨e,y,z,he,q1,q2⟩ | ⟨p,a1,hp,_,_,ha1,q1,q2⟩
  · rw [q1,q2]
    repeat rw [Option.bind_some]
    dsimp only
    rw [nz he]
    exact .inl ⟨e,_,_,he,rfl,rfl⟩
  rw [q1,q2]
  repeat rw [Option.bind_some]
  dsimp only
  rw [zz,bf]
  rcases take_bk (k:=k) (c':=5) (by omega) hB (by omega) 5 (by omega) ha1 most o rfl with ⟨e,y,z,he,q1,q2⟩ | ⟨q,a2,hq,_,_,ha2,q1,q2⟩
  · rw [q1,q2]
    repeat rw [Option.bind_some]
    dsimp only
    rw [nz he]
    exact .inl ⟨e,_,_,he,rfl,rfl⟩
  rw [q1,q2]
  repeat rw [Option.bind_some]
  dsimp only
  rw [zz,bf]
  rcases take_bk (k:=k) (c':=4) (by omega) hB (by omega) 4 (by omega) ha2 most o rfl with ⟨e,y,z,he,q1,q2⟩ | ⟨w,a3,hw,_,_,ha3,q1,q2⟩
  · rw [q1,q2]
    repeat rw [Option.bind_some]
    dsimp only
    rw [nz he]
    exact .inl ⟨e,_,_,he,rfl,rfl⟩
  rw [q1,q2]
  repeat rw [Option.bind_some]
  dsimp only
  rw [show (2:Nat)^5=32 from rfl] at hp hq
  rw [show (2:Nat)^4=16 from rfl] at hw
  rw [zz,bf,wi (n:=(p:Int)) (by omega) (by omega),wi (n:=(q:Int)) (by omega) (by omega),wi (n:=257+(p:Int)) (by omega) (by omega),wi (n:=1+(q:Int)) (by omega) (by omega),wi (n:=4+(w:Int)) (by omega) (by omega)]
  repeat rw [Option.bind_some]
  have hbad:(p≤29∧q≤29)∨¬ (p≤29∧q≤29):=Classical.em _
  rcases hbad with ⟨hp2,hq2⟩ | hbad
  · rw [dt (show 257+(p:Int)≤286 by omega),dt (show 1+(q:Int)≤30 by omega),df (show ¬ (286:Int)<257+(p:Int) by omega),df (show ¬ (30:Int)<1+(q:Int) by omega),ask_t rfl]
    repeat (first | rw [Option.bind_some] | rw [bf] | rw [bt])
    dsimp only
    repeat (first | rw [Option.bind_some] | rw [bf] | rw [bt])
    have e19:(List.length (List.drop (Int.toNat 0) (List.take (Int.toNat (4+(w:Int))) (fixD (0:Int) ([16,17,18,0,8,7,9,6,10,5,11,4,12,3,13,2,14,1,15]:List Int) 19))):Nat)=4+w:=by
      rw [ordR_fix,show Int.toNat (4+(w:Int))=4+w by omega,show Int.toNat 0=0 from rfl,List.drop_zero,List.length_take,show ordR.length=19 from rfl];omega
    rw [dt (show (0:Int)≤0∧(0:Int)≤4+(w:Int)∧4+(w:Int)≤(19:Int) by omega),e19,show decide ((0:Int)≤0∧(0:Int)≤19∧(19:Int)≤19)=true from by decide,show decide ((0:Int)≤(19:Int)∧(19:Int)≤19∧(8:Int)*19≤281474976710656∧(19:Int)≤9223372036854775807)=true from by decide]
    unfold g_quireref03_Order
    repeat (first | rw [Option.bind_some] | rw [bf] | rw [bt])
    rcases lens_go hk hB hBl most o w (by omega) 20 k k 0 a3 (List.replicate 19 (0:Int)) (by omega) (by omega) (by omega) (by omega) ha3 (by rw [List.length_replicate]) with ⟨e,y,he,q1,q2⟩ | ⟨a4,CL,⟨hx4,ha4⟩,h19,q1,q2⟩
    · rw [show g_inflate_stream_dynamic_l0 k most o (w:Int) ((4+w:Nat):Int) k 0 (dR B a3) (gR a3) (List.replicate 19 (0:Int))=_ from q1,show g_quireref03_stream_dynamic_l0 k B (w:Int) k 0 (a3:Int) (List.replicate (Int.toNat 19) (0:Int))=_ from q2]
      exact .inl ⟨e,_,_,he,rfl,rfl⟩
    rw [show g_inflate_stream_dynamic_l0 k most o (w:Int) ((4+w:Nat):Int) k 0 (dR B a3) (gR a3) (List.replicate 19 (0:Int))=_ from q1,show g_quireref03_stream_dynamic_l0 k B (w:Int) k 0 (a3:Int) (List.replicate (Int.toNat 19) (0:Int))=_ from q2]
    repeat (first | rw [Option.bind_some] | rw [bf] | rw [bt])
    dsimp only
    rw [fixD_self h19,(full_bk hk CL).1,(full_bk hk CL).2]
    repeat (first | rw [Option.bind_some] | rw [bf] | rw [bt])
    cases hf:(judge CL).1 with
    | false =>
      rw [ask_f rfl (by decide)]
      exact .inl ⟨11,_,_,by decide,rfl,rfl⟩
    | true =>
      have hj:=judge_12 hf
      rw [ask_t rfl,Bool.not_true]
      repeat (first | rw [Option.bind_some] | rw [bf] | rw [bt])
      dsimp only
      rcases code_bk hk CL with ⟨e,x,he,q1,q2⟩ | ⟨_,cs,sy,hd,q1,q2⟩
      · exfalso
        have hc:g_quireref03_coded k CL=some ((codesL CL).2,(codesL CL).1):=by
          unfold g_quireref03_coded
          rw [g_quireref02_Codes_eq (by omega),Option.bind_some]
        rw [hc,codesL_0 hj] at q2
        exact he (Prod.mk.inj (Option.some.inj q2)).1.symm
      rw [q1,q2]
      repeat (first | rw [Option.bind_some] | rw [bf] | rw [bt])
      dsimp only
      unfold g_inflate_stream_runs
      rw [Option.bind_some,row_post,wi (n:=257+(p:Int)+(1+(q:Int))) (by omega) (by omega)]
      have hrow:=row_go hk hj h19 hd hB hBl most o p q (258+p+q) (by omega) (by omega) rfl (259+p+q) k k a4 [] (by simp) (by omega) (by omega) ha4 (by simp;omega) (by simp)
      rw [show 257+(p:Int)+(1+(q:Int))=((258+p+q:Nat):Int) by omega]
      rcases hrow with ⟨e,y,x,he,q3,q4⟩ | ⟨a5,row,⟨hx5,ha5⟩,hrl,hr0,q3,q4⟩
      · rw [q4]
        repeat rw [Option.bind_some]
        dsimp only
        rw [nz he]
        rcases rpost_err q3 with ⟨r,q5⟩ | ⟨rfl,r,q5⟩ | ⟨r,q5⟩ | ⟨rfl,r,q5⟩ <;> rw [q5] <;> exact .inl ⟨_,_,_,he,rfl,rfl⟩
      rw [rpost_ok q3,q4]
      repeat rw [Option.bind_some]
      dsimp only
      have h256:256<row.length:=by omega
      rw [zz,bf,show ix row 256=some row[256] from ix_nat (i:=256) h256,Option.bind_some,Option.bind_some]
      have hr256:=hr0 _ (List.getElem_mem h256)
      by_cases hz:row[256]=0
      · rw [ask_f (df (show ¬ (0:Int)<row[256] by omega)) (by decide),dt hz]
        exact .inl ⟨12,_,_,by decide,rfl,rfl⟩
      rw [ask_t (dt (show (0:Int)<row[256] by omega)),df hz,dt (show (0:Int)≤0∧(0:Int)≤257+(p:Int)∧257+(p:Int)≤(row.length:Int) by omega),dt (show (0:Int)≤257+(p:Int)∧257+(p:Int)≤(row.length:Int)∧(row.length:Int)≤(row.length:Int) by omega)]
      repeat (first | rw [Option.bind_some] | rw [bf] | rw [bt])
      dsimp only
      rcases code_bk hk (List.drop (Int.toNat 0) (List.take (Int.toNat (257+(p:Int))) row)) with ⟨e,x,he,q5,q6⟩ | ⟨hj1,c1,s1,hd1,q5,q6⟩
      · rw [q5,q6]
        repeat rw [Option.bind_some]
        dsimp only
        rw [nz he]
        exact .inl ⟨e,_,_,he,rfl,rfl⟩
      rw [q5,q6]
      repeat rw [Option.bind_some]
      dsimp only
      rw [zz,bf]
      rcases code_bk hk (List.drop (Int.toNat (257+(p:Int))) (List.take (Int.toNat (row.length:Int)) row)) with ⟨e,x,he,q7,q8⟩ | ⟨hj2,c2,s2,hd2,q7,q8⟩
      · rw [q7,q8]
        repeat (first | rw [Option.bind_some] | rw [bt])
        dsimp only
        rw [nz he]
        exact .inl ⟨e,_,_,he,rfl,rfl⟩
      rw [q7,q8]
      repeat (first | rw [Option.bind_some] | rw [bt])
      dsimp only
      rw [zz]
      repeat (first | rw [Option.bind_some] | rw [bf] | rw [bt])
      rcases symbols_bk hk hj1 hj2 hd1 hd2 hB hBl hm hm2 ha5 ho hol with ⟨e,y,o',he,q9,q10⟩ | ⟨a6,o',g1,g2,g3,g4,q9,q10⟩
      · rw [q9,q10];exact .inl ⟨e,_,_,he,rfl,rfl⟩
      · rw [q9,q10];exact .inr ⟨a6,o',⟨by omega,g1.2⟩,g2,g3,g4,rfl,rfl⟩
  · by_cases h1:p≤29
    · rw [dt (show 257+(p:Int)≤286 by omega),ask_f (df (show ¬ 1+(q:Int)≤30 by omega)) (by decide),df (show ¬ (286:Int)<257+(p:Int) by omega),dt (show (30:Int)<1+(q:Int) by omega)]
      exact .inl ⟨12,_,_,by decide,rfl,rfl⟩
    · rw [df (show ¬ 257+(p:Int)≤286 by omega),ask_f rfl (by decide),dt (show (286:Int)<257+(p:Int) by omega)]
      exact .inl ⟨12,_,_,by decide,rfl,rfl⟩
def apost (y:Int ⊕ ((Int × List Int × Int × List Int) ⊕ (List Int × Int × List Int))):Option (Int ⊕ (List Int × Int × List Int)):=match y with
  | .inl e=>some (.inl e)
  | .inr (.inl (e,_,_,_))=>some (.inl e)
  | .inr (.inr p)=>some (.inr p)
theorem all_post {m:Int} {b:List Int} {g:Int} {o:List Int}:g_inflate_stream_all k m b g o=(g_inflate_stream_all_l0 k m k 0 b g o).bind apost:=by
  unfold g_inflate_stream_all
  cases g_inflate_stream_all_l0 k m k 0 b g o with
  | none=>rfl
  | some y=>rcases y with _ | ⟨_,_,_,_⟩ | ⟨_,_,_⟩ <;> rfl
theorem all_done {m:Int} {n:Nat} {b:List Int} {g:Int} {o:List Int} {last:Int} (h:last≠0):g_inflate_stream_all_l0 k m (n+1) last b g o=some (Sum.inr (Sum.inr (b,g,o))):=by
  rw [g_inflate_stream_all_l0.eq_2,df h];rfl
theorem fixed_bk (hk:2000000≤k) (hB:okB B) (hBl:B.length≤1048576) {most:Int} (hm:0≤most) (hm2:most≤1048576) {a:Nat} (ha:a≤8*B.length) {o:List Int} (ho:okB o) (hol:(o.length:Int)≤most) :
    ∃ c1 s1 c2 s2,g_inflate_FixedLit k=some lfixR∧g_inflate_code k lfixR=some (Sum.inr (c1,s1))∧g_inflate_FixedDist k=some dfixR∧g_inflate_code k dfixR=some (Sum.inr (c2,s2)) ∧
      SK B a most o.length (g_inflate_stream_coded k most (dR B a) (gR a) c1 c2 o s1 s2) (g_quireref03_stream_block k 1 most B (a:Int) o):=by
  have f1:=(g_inflate_FixedLit_mono (show 300≤k by omega)).h _ fixedLitR
  have f2:=(g_inflate_FixedDist_mono (show 300≤k by omega)).h _ fixedDistR
  have f3:=(g_quireref03_FixedLit_mono (show 300≤k by omega)).h _ rfixedLitR
  have f4:=(g_quireref03_FixedDist_mono (show 300≤k by omega)).h _ rfixedDistR
  have ok:∀ l,(judge l).2=0→∃ cs sy,Dec l cs sy∧g_inflate_code k l=some (Sum.inr (cs,sy))∧g_quireref03_coded k l=some (0,(codesL l).1):=by
    intro l hj
    rcases code_bk hk l with ⟨e,x,he,q1,q2⟩ | ⟨_,h⟩
    · exfalso
      have hc:g_quireref03_coded k l=some ((codesL l).2,(codesL l).1):=by
        unfold g_quireref03_coded
        rw [g_quireref02_Codes_eq (by omega),Option.bind_some]
      rw [hc,codesL_0 hj] at q2
      exact he (Prod.mk.inj (Option.some.inj q2)).1.symm
    · exact h
  obtain ⟨c1,s1,d1,e1,r1⟩:=ok lfixR lfixR_judge
  obtain ⟨c2,s2,d2,e2,r2⟩:=ok dfixR dfixR_judge
  refine ⟨c1,s1,c2,s2,f1,e1,f2,e2,?_⟩
  unfold g_quireref03_stream_block
  rw [show decide ((1:Int)=0)=false from rfl,show decide ((1:Int)=1)=true from rfl,bf,bt,f3,Option.bind_some,r1,Option.bind_some]
  dsimp only
  rw [f4,Option.bind_some,r2,Option.bind_some]
  dsimp only
  rcases symbols_bk hk lfixR_judge dfixR_judge d1 d2 hB hBl hm hm2 ha ho hol with ⟨e,y,o',he,q9,q10⟩ | ⟨a6,o',g1,g2,g3,g4,q9,q10⟩
  · rw [q9,q10];exact .inl ⟨e,_,_,he,rfl,rfl⟩
  · rw [q9,q10];exact .inr ⟨a6,o',⟨by omega,g1.2⟩,g2,g3,g4,rfl,rfl⟩
def IK (B:List Int) (most:Int) (X:Option (Int ⊕ (List Int × Int × List Int))) (Y:Option (Int × Int × List Int)):Prop :=
  (∃ (e x:Int) (o:List Int),e≠0∧X=some (Sum.inl e)∧Y=some (x,e,o)) ∨
  ∃ (a':Nat) (o:List Int),a'≤8*B.length∧(o.length:Int)≤most∧okB o∧X=some (Sum.inr (dR B a',gR a',o))∧Y=some ((((a'+7) / 8:Nat):Int),0,o)
theorem all_go (hk:2000000≤k) (hB:okB B) (hBl:B.length≤1048576) {most:Int} (hm:0≤most) (hm2:most≤1048576):∀ (f n1 n2 a:Nat) (o:List Int),8*B.length - a<f→f+1≤n1→f≤n2→a≤8*B.length→okB o→(o.length:Int)≤most →
    IK B most ((g_inflate_stream_all_l0 k most n1 0 (dR B a) (gR a) o).bind apost) (g_quireref03_Inflate_l0 k B most n2 (a:Int) o):=by
  intro f
  induction f with
  | zero=>intro n1 n2 a o h;omega
  | succ f ih =>
    intro n1 n2 a o hf h1 h2 ha ho hol
    obtain ⟨n1,rfl⟩:∃ n,n1=n+1:=⟨n1 - 1,by omega⟩
    obtain ⟨n2,rfl⟩:∃ n,n2=n+1:=⟨n2 - 1,by omega⟩
    rw [g_inflate_stream_all_l0.eq_2,g_quireref03_Inflate_l0.eq_2,show decide ((0:Int)=0)=true from rfl,bt]
    rcases take_bk (k:=k) (c':=1) (by omega) hB (by omega) 1 (by omega) ha most o rfl with ⟨e,y,z,he,q1,q2⟩ | ⟨h,a1,hh,_,hlt,ha1,q1,q2⟩
    · rw [q1,q2]
      repeat rw [Option.bind_some]
      dsimp only
      rw [nz he]
      exact .inl ⟨e,_,_,he,rfl,rfl⟩
    rw [q1,q2]
    repeat rw [Option.bind_some]
    dsimp only
    rw [zz,bf]
    rcases take_bk (k:=k) (c':=2) (by omega) hB (by omega) 2 (by omega) ha1 most o rfl with ⟨e,y,z,he,q3,q4⟩ | ⟨t,a2,ht,hle,_,ha2,q3,q4⟩
    · rw [q3,q4]
      repeat rw [Option.bind_some]
      dsimp only
      rw [nz he]
      exact .inl ⟨e,_,_,he,rfl,rfl⟩
    rw [q3,q4]
    repeat rw [Option.bind_some]
    dsimp only
    rw [zz,bf]
    have ha12:a<a1:=hlt (by omega)
    have hh2:h=0∨h=1:=by omega
    -- behind a block
    have next:∀ (a3:Nat) (o':List Int),a2≤a3→a3≤8*B.length→okB o'→(o'.length:Int)≤most →
        IK B most ((g_inflate_stream_all_l0 k most n1 (h:Int) (dR B a3) (gR a3) o').bind apost) (bif (decide ((h:Int)=1)) then ((some (IntKind.wrap .i64 (Int.tdiv (IntKind.wrap .i64 ((a3:Int)+7)) 8))).bind fun x20450=>some (x20450,0,o')) else (g_quireref03_Inflate_l0 k B most n2 (a3:Int) o')):=by
      intro a3 o' h23 ha3 ho' hol'
      rcases hh2 with rfl | rfl
      · exact ih n1 n2 a3 o' (by omega) (by omega) (by omega) ha3 ho' hol'
      · obtain ⟨n1,rfl⟩:∃ n,n1=n+1:=⟨n1 - 1,by omega⟩
        rw [all_done (by decide),wi (n:=(a3:Int)+7) (by omega) (by omega),show Int.tdiv ((a3:Int)+7) 8=(((a3+7) / 8:Nat):Int) from rfl,wi (by omega) (by omega)]
        exact .inr ⟨a3,o',ha3,hol',ho',rfl,rfl⟩
    have h4:t=0∨t=1∨t=2∨t=3:=by omega
    -- a block's answers,put together
    have blk:∀ (X:Option (Int ⊕ (List Int × Int × List Int))) (Y:Option (Int × Int × List Int)),SK B a2 most o.length X Y →
        IK B most ((X.bind fun y=>match y with | (Sum.inl e)=>some (Sum.inl e) | (Sum.inr (b,g,o'))=>(g_inflate_stream_all_l0 k most n1 (h:Int) b g o')).bind apost)
          (Y.bind fun (x1,x2,x3)=>(bif (!decide (x1=0)) then some (0,x1,([]:List Int)) else (bif (decide ((h:Int)=1)) then ((some (IntKind.wrap .i64 (Int.tdiv (IntKind.wrap .i64 (x2+7)) 8))).bind fun x20450=>some (x20450,0,x3)) else (g_quireref03_Inflate_l0 k B most n2 x2 x3)))):=by
      intro X Y hs
      rcases hs with ⟨e,y,o',he,g1,g2⟩ | ⟨a',o',g1,g2,g3,g4,g5,g6⟩
      · rw [g1,g2]
        repeat rw [Option.bind_some]
        dsimp only
        rw [nz he]
        exact .inl ⟨e,_,_,he,rfl,rfl⟩
      · rw [g5,g6]
        repeat rw [Option.bind_some]
        dsimp only
        rw [zz,bf]
        exact next a' o' g1.1 g1.2 g4 g3
    -- the same,a block told by its three parts
    have three:∀ (Y:Option (Int × Int × List Int)),(Y.bind fun (x,y,z)=>some (x,y,z))=Y:=fun Y=>by cases Y <;> rfl
    rcases h4 with rfl | rfl | rfl | rfl
    · rw [show decide (((0:Nat):Int)=0)=true from rfl,bt]
      refine blk _ _ ?_
      have hs:=stored_bk (k:=k) hB hBl hm (by omega) ha2 ho hol
      unfold g_quireref03_stream_block
      rw [show decide (((0:Nat):Int)=0)=true from rfl,bt]
      rcases hs with ⟨e,y,o',he,g1,g2⟩ | ⟨a',o',g1,g2,g3,g4,g5,g6⟩
      · rw [g1,g2];exact .inl ⟨e,_,_,he,rfl,rfl⟩
      · rw [g5,g6];exact .inr ⟨a',o',g1,g2,g3,g4,rfl,rfl⟩
    · rw [show decide (((1:Nat):Int)=0)=false from rfl,show decide (((1:Nat):Int)=1)=true from rfl,bf,bt]
      obtain ⟨c1,s1,c2,s2,f1,e1,f2,e2,hs⟩:=fixed_bk hk hB hBl hm hm2 ha2 ho hol
      rw [f1,Option.bind_some,e1,Option.bind_some]
      dsimp only
      rw [f2,Option.bind_some,e2,Option.bind_some]
      exact blk _ _ hs
    · rw [show decide (((2:Nat):Int)=0)=false from rfl,show decide (((2:Nat):Int)=1)=false from rfl,show decide (((2:Nat):Int)=2)=true from rfl,bf,bf,bt]
      refine blk _ _ ?_
      have hs:=dynamic_bk (k:=k) hk hB hBl hm hm2 ha2 ho hol
      unfold g_quireref03_stream_block
      rw [show decide (((2:Nat):Int)=0)=false from rfl,show decide (((2:Nat):Int)=1)=false from rfl,show decide (((2:Nat):Int)=2)=true from rfl,bf,bf,bt]
      rcases hs with ⟨e,y,o',he,g1,g2⟩ | ⟨a',o',g1,g2,g3,g4,g5,g6⟩
      · rw [g1,g2];exact .inl ⟨e,_,_,he,rfl,rfl⟩
      · rw [g5,g6];exact .inr ⟨a',o',g1,g2,g3,g4,rfl,rfl⟩
    · rw [show decide (((3:Nat):Int)=0)=false from rfl,show decide (((3:Nat):Int)=1)=false from rfl,show decide (((3:Nat):Int)=2)=false from rfl,bf,bf,bf,must_e (by decide)]
      unfold g_quireref03_stream_block
      exact .inl ⟨12,_,_,by decide,rfl,rfl⟩
theorem inflate_bk (hk:20000000≤k) (hB:okB B) (hBl:B.length≤1048576) {most:Int} (hm:0≤most) (hm2:most≤1048576) :
    (∃ (e x:Int) (o:List Int),e≠0∧g_inflate_Inflate k B most=some ([],0,e)∧g_quireref03_Inflate k B most=some (o,x,e)) ∨
    ∃ (o:List Int) (u:Nat),(o.length:Int)≤most∧okB o∧g_inflate_Inflate k B most=some (o,(u:Int),0)∧g_quireref03_Inflate k B most=some (o,(u:Int),0):=by
  have ha:=all_go (k:=k) (by omega) hB hBl hm hm2 (8*B.length+1) k k 0 [] (by omega) (by omega) (by omega) (by omega) (fun x h=>by cases h) (by simpa using hm)
  unfold g_inflate_Inflate g_quireref03_Inflate g_bits_NewReader
  have hcl:g_sc_Clone_byte_byte k B=some B:=by
    unfold g_sc_Clone_byte_byte
    rw [dt (show (([]:List Int).length+B.length)*1≤140737488355328 by rw [List.length_nil];omega)];rfl
  have hall:g_inflate_stream_all k most B 0 []=(g_inflate_stream_all_l0 k most k 0 (dR B 0) (gR 0) []).bind apost:=all_post
  rw [df (show ¬ most<0 by omega),bf,bf,hcl,Option.bind_some,Option.bind_some,hall]
  rcases ha with ⟨e,x,o,he,q1,q2⟩ | ⟨a',o,ha',hol,ho,q1,q2⟩
  · left
    refine ⟨e,x,o,he,?_,?_⟩
    · rw [q1];rfl
    · rw [show g_quireref03_Inflate_l0 k B most k 0 []=_ from q2];rfl
  · right
    refine ⟨o,(a'+7) / 8,hol,ho,?_,?_⟩
    · rw [q1,Option.bind_some]
      dsimp only
      unfold g_bits_Reader_Left
      have hl:(dR B a').length=B.length - a' / 8:=List.length_drop
      rw [Option.bind_some,hl,wi (n:=8*((B.length - a' / 8:Nat):Int)) (by omega) (by omega),wi (n:=8*((B.length - a' / 8:Nat):Int) - gR a') (by unfold gR;omega) (by unfold gR;omega),Option.bind_some,show 8*((B.length - a' / 8:Nat):Int) - gR a'=((8*B.length - a':Nat):Int) by unfold gR;omega,show Int.tdiv ((8*B.length - a':Nat):Int) 8=(((8*B.length - a') / 8:Nat):Int) from rfl,wi (n:=(((8*B.length - a') / 8:Nat):Int)) (by omega) (by omega),wi (n:=(B.length:Int) - (((8*B.length - a') / 8:Nat):Int)) (by omega) (by omega),Option.bind_some]
      congr 3
      omega
    · rw [show g_quireref03_Inflate_l0 k B most k 0 []=_ from q2];rfl
end
theorem aliveZ (k:Nat):g_quirelaw05_alive (k+300)=some true:=by kernel_rfl
theorem tS {b x:Bool}:(bif b then some true else some x)=some (b||x):=by cases b <;> rfl
def badC (c:Nat):Bool:=decide (c<32)||(decide (126<c)||(decide (c=92)||decide (c=58)))
theorem right1 (k c:Nat):g_zip_Right_1 k (c:Int)=some (badC c):=by
  unfold g_zip_Right_1 badC
  rw [show decide ((c:Int)<32)=decide (c<32) by congr 1;exact propext (by omega),show decide ((126:Int)<c)=decide (126<c) by congr 1;exact propext (by omega),show decide ((c:Int)=92)=decide (c=92) by congr 1;exact propext (by omega),show decide ((c:Int)=58)=decide (c=58) by congr 1;exact propext (by omega)]
  simp only [tS,Option.bind_some]
theorem decL_bad {l:List UInt8} (h0:0<l.length):if byt l 0<128 then decL l=(byt l 0,1) else 126<(decL l).1:=by
  split
  · rename_i h
    exact decL_of (.inl ⟨rfl,by omega,rfl,h⟩)
  · rename_i h
    rcases decL_cases h0 with q | ⟨q,_⟩
    · unfold okL at q;omega
    · rw [q];decide
theorem index_go (k:Nat) (x:ByteArray):∀ (n p:Nat),p≤(L x).length→(L x).length - p<n →
    (∃ j:Nat,g_st_indexFunc_l0 k x true n p=some (Sum.inl (j:Int))∧∃ c∈(L x).drop p,badC c.toNat=true)∨(g_st_indexFunc_l0 k x true n p=some (Sum.inr ())∧∀ c∈(L x).drop p,badC c.toNat=false):=by
  intro n
  induction n with
  | zero=>intro p _ h;omega
  | succ n ih =>
    intro p hp hn
    rw [g_st_indexFunc_l0.eq_2,decode_L,L_size]
    by_cases h:p<(L x).length
    · have hl:0<((L x).drop p).length:=by rw [List.length_drop];omega
      have hb:=decL_bad hl
      have e0:byt ((L x).drop p) 0=(L x)[p].toNat:=by simp [byt_drop,byt,List.getD_eq_getElem?_getD,List.getElem?_eq_getElem h]
      have ed:(L x).drop p=(L x)[p]::(L x).drop (p+1):=List.drop_eq_getElem_cons h
      rw [dt h,right1]
      simp only [bt,Option.bind_some]
      by_cases hbd:badC (L x)[p].toNat=true
      · have:badC (decL ((L x).drop p)).1=true:=by
          split at hb
          · rw [hb,e0];exact hbd
          · unfold badC;simp [hb]
        rw [this]
        simp only [beq_self_eq_true,bt]
        exact .inl ⟨p,rfl,_,by rw [ed];exact List.mem_cons_self ..,hbd⟩
      · have hlt:byt ((L x).drop p) 0<128:=by
          by_cases hc:byt ((L x).drop p) 0<128
          · exact hc
          · exfalso;apply hbd;unfold badC;rw [← e0];simp;omega
        rw [if_pos hlt] at hb
        have hbf:badC (L x)[p].toNat=false:=by simpa using hbd
        rw [hb,e0,hbf]
        simp only [show (false==true)=false from rfl,bf]
        rcases ih (p+1) (by omega) (by omega) with ⟨j,q1,c,q2,q3⟩ | ⟨q1,q2⟩
        · exact .inl ⟨j,q1,c,by rw [ed];exact List.mem_cons_of_mem _ q2,q3⟩
        · refine .inr ⟨q1,fun c hc=>?_⟩
          rw [ed] at hc
          rcases List.mem_cons.1 hc with rfl | hc
          · exact hbf
          · exact q2 c hc
    · rw [df h]
      exact .inr ⟨rfl,fun c hc=>by rw [List.drop_of_length_le (by omega)] at hc;simp at hc⟩
def anyBad (l:List UInt8):Bool:=l.any fun c=>badC c.toNat
theorem contains_eq (k:Nat) (x:ByteArray) (hk:(L x).length<k):g_st_ContainsFunc k x=some (anyBad (L x)):=by
  unfold g_st_ContainsFunc g_st_IndexFunc g_st_indexFunc
  rcases index_go k x k 0 (Nat.zero_le _) (by omega) with ⟨j,q1,c,q2,q3⟩ | ⟨q1,q2⟩
  · rw [q1]
    simp only [Option.bind_some]
    rw [dt (by omega)]
    congr 1;symm
    exact List.any_eq_true.2 ⟨c,by simpa using q2,q3⟩
  · rw [q1]
    simp only [Option.bind_some]
    rw [df (by decide)]
    congr 1;symm
    rw [anyBad,List.any_eq_false]
    intro c hc
    rw [q2 c (by simpa using hc)];decide
theorem zgetB (s:ByteArray) (i:Nat):s[i]! = (L s).getD i 0:=by
  by_cases h:i<s.size
  · have h':i<(L s).length:=by rw [← L_size];exact h
    rw [getElem!_pos s i h,List.getD_eq_getElem?_getD,List.getElem?_eq_getElem h']
    rfl
  · have h':¬ i<(L s).length:=by rw [← L_size];exact h
    rw [getElem!_neg s i h,List.getD_eq_getElem?_getD,List.getElem?_eq_none (by omega)]
    rfl
theorem zix_none {s:ByteArray} (h:∀ c∈L s,c≠47):ixByte s 47 = -1:=by
  unfold ixByte
  have:(List.range s.size).find? (fun i=>s[i]! == (47:Int).toNat.toUInt8)=none:=by
    rw [List.find?_eq_none]
    intro i hi
    have hi':i<(L s).length:=by rw [← L_size];simpa using hi
    rw [zgetB,List.getD_eq_getElem?_getD,List.getElem?_eq_getElem hi']
    have:=h _ (List.getElem_mem hi')
    simpa using this
  rw [this]
theorem zix_some {s:ByteArray} {a b:List UInt8} (h:L s=a++47::b) (ha:∀ c∈a,c≠47):ixByte s 47=(a.length:Int):=by
  unfold ixByte
  have:(List.range s.size).find? (fun i=>s[i]! == (47:Int).toNat.toUInt8)=some a.length:=by
    rw [List.find?_range_eq_some]
    refine ⟨?_,?_,?_⟩
    · rw [zgetB,h];simp
    · simp [L_size,h]
    · intro j hj
      rw [zgetB,h,List.getD_eq_getElem?_getD,List.getElem?_append_left hj,List.getElem?_eq_getElem hj]
      have:=ha _ (List.getElem_mem hj)
      simpa using this
  rw [this]
theorem zindex_eq {k:Nat} {s:ByteArray}:g_st_Index k s (ByteArray.mk #[47])=some (ixByte s 47):=by
  unfold g_st_Index g_sl_Index
  rw [show (decide (((ByteArray.size (ByteArray.mk #[47]):Nat):Int)=0))=false from rfl,show (decide (((ByteArray.size (ByteArray.mk #[47]):Nat):Int)=1))=true from rfl]
  simp only [Option.bind_some,bf,bt,beq_toList]
  by_cases h:L (ByteArray.mk #[47])=L s
  · rw [dt h]
    have:ixByte s 47=((([]:List UInt8).length:Nat):Int):=zix_some (b:=[]) (by rw [← h];rfl) (by simp)
    simp only [Option.bind_some,bt,this]
    rfl
  · rw [df h]
    simp only [bf]
    rw [show ix (strInts (ByteArray.mk #[47])) 0=some 47 from rfl]
    rfl
theorem first47:∀ (l:List UInt8),(∀ c∈l,c≠47)∨∃ a b,l=a++47::b∧∀ c∈a,c≠47
  | []=>.inl (by simp)
  | c::l=>by
    by_cases h:c=47
    · subst h;exact .inr ⟨[],l,rfl,by simp⟩
    · rcases first47 l with q | ⟨a,b,rfl,q⟩
      · exact .inl fun d hd=>by
          rcases List.mem_cons.1 hd with rfl | hd
          · exact h
          · exact q d hd
      · exact .inr ⟨c::a,b,rfl,fun d hd=>by
          rcases List.mem_cons.1 hd with rfl | hd
          · exact h
          · exact q d hd⟩
def bd (p:List UInt8):Bool:=decide (p=[])||(decide (p=[46])||decide (p=[46,46]))
theorem bd_eq (x:ByteArray):(bif x.toList==(ByteArray.mk #[]).toList then some true else (bif x.toList==(ByteArray.mk #[46]).toList then some true else some (x.toList==(ByteArray.mk #[46,46]).toList)))=some (bd (L x)):=by
  simp only [beq_toList,show L (ByteArray.mk #[])=[] from rfl,show L (ByteArray.mk #[46])=[46] from rfl,show L (ByteArray.mk #[46,46])=[46,46] from rfl,tS,bd]
def rgt:List UInt8→List UInt8→Bool
  | p,[]=>!bd p
  | p,c::l=>if c=47 then !bd p&&rgt [] l else if badC c.toNat then false else rgt (p++[c]) l
theorem rgt_no:∀ (a p:List UInt8),(∀ c∈a,c≠47)→anyBad a=false→rgt p a=!bd (p++a)
  | [],p,_,_=>by rw [rgt,List.append_nil]
  | c::a,p,h,hb=>by
    rw [anyBad,List.any_cons,Bool.or_eq_false_iff] at hb
    rw [rgt,if_neg (h c (List.mem_cons_self ..)),hb.1]
    simp only [Bool.false_eq_true,if_false]
    rw [rgt_no a _ (fun d hd=>h d (List.mem_cons_of_mem _ hd)) hb.2,List.append_assoc];rfl
theorem rgt_at:∀ (a p b:List UInt8),(∀ c∈a,c≠47)→anyBad a=false→rgt p (a++47::b)=(!bd (p++a)&&rgt [] b)
  | [],p,b,_,_=>by rw [List.nil_append,rgt,if_pos rfl,List.append_nil]
  | c::a,p,b,h,hb=>by
    rw [anyBad,List.any_cons,Bool.or_eq_false_iff] at hb
    rw [List.cons_append,rgt,if_neg (h c (List.mem_cons_self ..)),hb.1]
    simp only [Bool.false_eq_true,if_false]
    rw [rgt_at a _ b (fun d hd=>h d (List.mem_cons_of_mem _ hd)) hb.2,List.append_assoc];rfl
theorem bad47:badC (47:UInt8).toNat=false:=by decide
theorem rgt_bad:∀ (l p:List UInt8),anyBad l=true→rgt p l=false
  | [],_,h=>by simp [anyBad] at h
  | c::l,p,h=>by
    rw [rgt]
    rw [anyBad,List.any_cons,Bool.or_eq_true] at h
    split
    · rename_i hc
      subst hc
      rw [bad47] at h
      rw [rgt_bad l [] (h.resolve_left (by decide)),Bool.and_false]
    · split
      · rfl
      · rename_i hb
        exact rgt_bad l _ (h.resolve_left (by simpa using hb))
theorem parts_go (k:Nat):∀ (n:Nat) (s:ByteArray),(L s).length<n→(L s).length≤1000000→anyBad (L s)=false →
    (∃ x,g_zip_Right_l1 k n s=some (Sum.inl x)∧rgt [] (L s)=!bd (L x))∨(∃ x,g_zip_Right_l1 k n s=some (Sum.inr x)∧rgt [] (L s)=false):=by
  intro n
  induction n with
  | zero=>intro s h;omega
  | succ n ih =>
    intro s hn hl hb
    rw [g_zip_Right_l1.eq_2,zindex_eq]
    simp only [Option.bind_some]
    simp only [bd_eq]
    rcases first47 (L s) with q | ⟨a,b,e,q⟩
    · rw [zix_none q,dt (by decide)]
      exact .inl ⟨s,rfl,by rw [rgt_no _ _ q hb];rfl⟩
    · have hlen:(L s).length=a.length+1+b.length:=by rw [e];simp;omega
      have hab:anyBad a=false∧anyBad b=false:=by
        rw [e,anyBad,List.any_append,List.any_cons,Bool.or_eq_false_iff,Bool.or_eq_false_iff] at hb
        exact ⟨hb.1,hb.2.2⟩
      have hx:L (ByteArray.extract s (Int.toNat 0) (Int.toNat (a.length:Int)))=a:=by
        rw [L_extract,e];simp
      have hy:L (ByteArray.extract s (Int.toNat (((a.length+1:Nat):Int))) (Int.toNat ((ByteArray.size s:Nat):Int)))=b:=by
        rw [L_extract,Int.toNat_natCast,Int.toNat_natCast,L_size,hlen,e,List.drop_append,List.drop_of_length_le (by omega),show a.length+1 - a.length=1 by omega]
        simp only [List.nil_append,List.drop_succ_cons,List.drop_zero]
        rw [List.take_of_length_le (by omega)]
      rw [zix_some e q,df (by omega),wi (n:=(a.length:Int)+0) (by omega) (by omega),Int.add_zero,dt (by rw [L_size];omega)]
      simp only [bf,bt]
      rw [hx]
      rw [e,rgt_at a [] b q hab.1,List.nil_append]
      cases hbd:bd a with
      | true=>exact .inr ⟨s,rfl,rfl⟩
      | false =>
        simp only [bf,Option.bind_some]
        rw [show ((ByteArray.size (ByteArray.mk #[47]):Nat):Int)=1 from rfl,wi (n:=(a.length:Int)+1) (by omega) (by omega),dt (by rw [L_size];omega),show (a.length:Int)+1=((a.length+1:Nat):Int) by omega]
        simp only [bt]
        rcases ih _ (by rw [hy];omega) (by rw [hy];omega) (by rw [hy];exact hab.2) with ⟨x,q1,q2⟩ | ⟨x,q1,q2⟩
        · rw [hy] at q2
          exact .inl ⟨x,q1,by rw [q2];simp⟩
        · rw [hy] at q2
          exact .inr ⟨x,q1,by rw [q2];simp⟩
def okName (l:List UInt8):Bool:=decide (l.length≤255)&&rgt [] l
theorem right_eq (k:Nat) (x:ByteArray) (hk:300≤k):g_zip_Right k x=some (okName (L x)):=by
  unfold g_zip_Right okName
  rw [L_size]
  by_cases h:255<(L x).length
  · rw [dt (by omega),df (by omega)];rfl
  · rw [df (by omega),dt (by omega)]
    simp only [Option.bind_some,bf]
    rw [contains_eq k x (by omega)]
    simp only [Option.bind_some]
    cases hb:anyBad (L x) with
    | true=>rw [rgt_bad _ _ hb];rfl
    | false =>
      simp only [bf]
      unfold g_st_SplitSeq g_st_splitSeq
      simp only [Option.bind_some]
      rw [show decide (((ByteArray.size (ByteArray.mk #[47]):Nat):Int)=0)=false from rfl]
      simp only [bf,Option.bind_some]
      simp only [bd_eq]
      rcases parts_go k k x (by omega) (by omega) hb with ⟨y,q1,q2⟩ | ⟨y,q1,q2⟩
      · rw [q1,q2]
        simp only [Option.bind_some]
        cases bd (L y) <;> rfl
      · rw [q1,q2];rfl
theorem strOf1 (c:Nat) (h:c<256):L (strOf ([(c:Int)]:List Int))=[UInt8.ofNat c]:=by
  rw [L_strOf];simp
theorem ref_go (k:Nat) (x:ByteArray) (hx:(L x).length≤255):∀ (n p:Nat) (part:ByteArray),p≤(L x).length→(L x).length+1 - p<n→(L part).length≤p →
    (g_quireref05_Right_l0 k x n part (p:Int)=some (Sum.inr ())∧rgt (L part) ((L x).drop p)=true)∨(g_quireref05_Right_l0 k x n part (p:Int)=some (Sum.inl ())∧rgt (L part) ((L x).drop p)=false):=by
  intro n
  induction n with
  | zero=>intro p part _ h;omega
  | succ n ih =>
    intro p part hp hn hpl
    have hend:g_quireref05_Right_l0 k x (n+1) part (p:Int)=g_quireref05_Right_l0 k x (n+1) part (p:Int):=rfl
    rw [g_quireref05_Right_l0.eq_2,L_size]
    simp only [Option.bind_some]
    simp only [bd_eq]
    rw [dt (by omega)]
    simp only [bt]
    by_cases h:p=(L x).length
    · subst h
      rw [dt rfl]
      simp only [Option.bind_some,bt,List.drop_length,rgt]
      cases hb:bd (L part) with
      | true=>exact .inr ⟨rfl,rfl⟩
      | false =>
        simp only [bf,Option.bind_some]
        rw [wi (by omega) (by omega),show ((L x).length:Int)+1=(((L x).length+1:Nat):Int) by omega]
        obtain ⟨n,rfl⟩:∃ m,n=m+1:=⟨n - 1,by omega⟩
        rw [g_quireref05_Right_l0.eq_2,L_size]
        simp only [Option.bind_some]
        rw [df (by omega)]
        exact .inl ⟨rfl,rfl⟩
    · have hlt:p<(L x).length:=by omega
      have ed:(L x).drop p=(L x)[p]::(L x).drop (p+1):=List.drop_eq_getElem_cons hlt
      have eb:byt (L x) p=(L x)[p].toNat:=by simp [byt,List.getD_eq_getElem?_getD,List.getElem?_eq_getElem hlt]
      have h256:=byt_lt (L x) p
      rw [df (by omega),strInts_L,ix_I hlt,eb]
      rw [eb] at h256
      simp only [Option.bind_some,bf]
      rw [ed,rgt]
      by_cases h47:(L x)[p]=47
      · rw [dt (by rw [h47];rfl),if_pos h47]
        simp only [Option.bind_some,bt]
        cases hb:bd (L part) with
        | true=>exact .inr ⟨rfl,rfl⟩
        | false =>
          simp only [bf,Option.bind_some]
          rw [wi (by omega) (by omega),show (p:Int)+1=((p+1:Nat):Int) by omega]
          have:=ih (p+1) (ByteArray.mk #[]) (by omega) (by omega) (by rw [show L (ByteArray.mk #[])=[] from rfl];simp)
          rw [show L (ByteArray.mk #[])=[] from rfl] at this
          simpa using this
      · have hne:¬ ((L x)[p].toNat:Int)=47:=fun q=>h47 (UInt8.toNat_inj.1 (by rw [show (47:UInt8).toNat=47 from rfl];omega))
        rw [df hne,if_neg h47]
        simp only [Option.bind_some,bf]
        have er:(bif (decide (((L x)[p].toNat:Int)<32)) then some true else (bif (decide (126<((L x)[p].toNat:Int))) then some true else (bif (decide (((L x)[p].toNat:Int)=92)) then some true else some (decide (((L x)[p].toNat:Int)=58)))))=some (badC (L x)[p].toNat):=by
          have:=right1 0 (L x)[p].toNat
          unfold g_zip_Right_1 at this
          have hbs:∀ o:Option Bool,(o.bind fun x=>some x)=o:=fun o=>by cases o <;> rfl
          rw [hbs] at this
          exact this
        rw [er]
        simp only [Option.bind_some]
        cases hb:badC (L x)[p].toNat with
        | true=>simp only [bt,Option.bind_some,if_true];exact .inr ⟨trivial,trivial⟩
        | false =>
          have e1:=strOf1 (L x)[p].toNat h256
          simp only [bf,Bool.false_eq_true,if_false]
          rw [dt (by rw [L_size,L_size,e1];simp;omega)]
          simp only [bt,Option.bind_some]
          rw [wi (by omega) (by omega),show (p:Int)+1=((p+1:Nat):Int) by omega]
          have:=ih (p+1) (part++strOf ([((L x)[p].toNat:Int)]:List Int)) (by omega) (by omega) (by rw [L_append,e1];simp;omega)
          rw [L_append,e1,UInt8.ofNat_toNat] at this
          exact this
theorem ref_right (k:Nat) (x:ByteArray) (hk:300≤k):g_quireref05_Right k x=some (okName (L x)):=by
  unfold g_quireref05_Right okName
  rw [L_size]
  by_cases h0:(L x).length=0
  · rw [dt (by omega)]
    have:L x=[]:=List.eq_nil_of_length_eq_zero h0
    simp only [Option.bind_some,bt]
    rw [this];rfl
  · rw [df (by omega)]
    simp only [Option.bind_some,bf]
    by_cases h:255<(L x).length
    · rw [dt (by omega),df (by omega)];rfl
    · rw [df (by omega),dt (by omega)]
      simp only [bf]
      have:=ref_go k x (by omega) k 0 (ByteArray.mk #[]) (by omega) (by omega) (by rw [show L (ByteArray.mk #[])=[] from rfl];simp)
      rw [show L (ByteArray.mk #[])=[] from rfl,List.drop_zero,show ((0:Nat):Int)=0 from rfl] at this
      rcases this with ⟨q1,q2⟩ | ⟨q1,q2⟩ <;> rw [q1,q2] <;> rfl
end Go.Proofs.YtaphblcbnhnpaaaGreatDoor.W
namespace Go.Q
set_option linter.unusedVariables false
def zle:Nat→Nat→List UInt8
  | 0,_=>[]
  | n+1,v=>UInt8.ofNat v::zle n (v / 256)
def zlv:List UInt8→Nat
  | []=>0
  | b::l=>b.toNat+256*zlv l
theorem zle_len:∀ (n v:Nat),(zle n v).length=n
  | 0,_=>rfl
  | n+1,v=>by rw [zle,List.length_cons,zle_len]
theorem zlv_lt:∀ (l:List UInt8),zlv l<256^l.length
  | []=>by simp [zlv]
  | b::l=>by
    have hb:=b.toNat_lt
    have:=zlv_lt l
    rw [zlv,List.length_cons,Nat.pow_succ]
    omega
structure Ent where
  meth:Nat
  crc:Nat
  packed:Nat
  size:Nat
  name:List UInt8
  at_:Nat
structure Ent.ok (e:Ent):Prop where
  meth:e.meth<65536
  crc:e.crc<4294967296
  packed:e.packed<4294967296
  size:e.size<4294967296
  name:e.name.length<65536
  at_:e.at_<4294967296
def sumsB (e:Ent):List UInt8:=zle 2 0++(zle 2 e.meth++(zle 2 0++(zle 2 33++(zle 4 e.crc++(zle 4 e.packed++(zle 4 e.size++zle 2 e.name.length))))))
def localB (e:Ent):List UInt8:=[80,75,3,4]++(zle 2 20++(sumsB e++(zle 2 0++e.name)))
def centralB (e:Ent):List UInt8:=[80,75,1,2]++(zle 2 20++(zle 2 20++(sumsB e++(zle 2 0++(zle 2 0++(zle 2 0++(zle 2 0++(zle 4 0++(zle 4 e.at_++e.name)))))))))
def endB (many size at_:Nat):List UInt8:=[80,75,5,6]++(zle 2 0++(zle 2 0++(zle 2 many++(zle 2 many++(zle 4 size++(zle 4 at_++zle 2 0))))))
theorem sums_len (e:Ent):(sumsB e).length=22:=by simp [sumsB,zle_len]
theorem local_len (e:Ent):(localB e).length=30+e.name.length:=by simp [localB,sums_len,zle_len];omega
theorem central_len (e:Ent):(centralB e).length=46+e.name.length:=by simp [centralB,sums_len,zle_len];omega
theorem end_len (a b c:Nat):(endB a b c).length=22:=by simp [endB,zle_len]
def zfld (l:List UInt8) (o n:Nat):Nat:=zlv ((l.drop o).take n)
def crcStep (x:BitVec 32):BitVec 32:=(x >>> 1) ^^^ (3988292384#32 &&& -(x &&& 1#32))
def crcIt:Nat→BitVec 32→BitVec 32
  | 0,x=>x
  | n+1,x=>crcIt n (crcStep x)
def crcRow:List Int→BitVec 32→BitVec 32
  | [],x=>x
  | c::l,x=>crcRow l (crcIt 8 (x ^^^ BitVec.ofInt 32 c))
theorem one_and (x:BitVec 32):(x &&& 1#32=0#32∧x.getLsbD 0=false)∨(x &&& 1#32=1#32∧x.getLsbD 0=true):=by
  rcases Nat.mod_two_eq_zero_or_one x.toNat with h | h
  · left;exact ⟨by apply BitVec.eq_of_toNat_eq;simp [Nat.and_one_is_mod,h],by simp [BitVec.getLsbD,h]⟩
  · right;exact ⟨by apply BitVec.eq_of_toNat_eq;simp [Nat.and_one_is_mod,h],by simp [BitVec.getLsbD,h]⟩
theorem step0 {x:BitVec 32} (h:x &&& 1#32=0#32):crcStep x=x >>> 1:=by unfold crcStep;rw [h];simp
theorem step1 {x:BitVec 32} (h:x &&& 1#32=1#32):crcStep x=(x >>> 1) ^^^ 3988292384#32:=by
  unfold crcStep;rw [h,show -(1#32)=BitVec.allOnes 32 from by decide,BitVec.and_allOnes]
end Go.Q
namespace Go.Proofs.YtaphblcbnhnpaaaGreatDoor.W
open Go Go.Q Go.Proofs
set_option linter.unusedVariables false
set_option linter.unusedSimpArgs false
theorem zt8 (a:Nat):Int.tmod (a:Int) 8=((a%8:Nat):Int):=rfl
theorem zbit {v:BitVec 32} {i:Nat}:bits .and .u8 (IntKind.wrap .u8 (shrI .u32 (v.toNat:Int) (i:Int))) 1=(((v >>> i).setWidth 8 &&& 1#8).toNat:Int):=by
  rw [u32_shr,u8_of_u32,show (1:Int)=((1#8).toNat:Int) from rfl,u8_and];rfl
theorem zacc {v:BitVec 32} {i:Nat} {a:BitVec 8} (hi:i<8) (ha:∀ j,j<8→a.getLsbD j=(decide (j<i)&&v.getLsbD j)) :
    ∀ j,j<8→(a ||| (((v >>> i).setWidth 8 &&& 1#8) <<< i)).getLsbD j=(decide (j<i+1)&&v.getLsbD j):=by
  intro j hj
  rw [BitVec.getLsbD_or,ha j hj,BitVec.getLsbD_shiftLeft,BitVec.getLsbD_and,BitVec.getLsbD_one,BitVec.getLsbD_setWidth,BitVec.getLsbD_ushiftRight]
  rcases Nat.lt_trichotomy j i with h | h | h
  · simp [h,show j<i+1 by omega,hj]
  · subst h;simp [hj]
  · simp [show ¬ j<i by omega,show ¬ j<i+1 by omega,show ¬ (j - i=0) by omega]
theorem put8_go (k:Nat) (v:BitVec 32) (l:List Int) (hl:l.length≤1099511627776):∀ (m i:Nat) (a:BitVec 8),1≤i→i≤8→8 - i<m→(∀ j,j<8→a.getLsbD j=(decide (j<i)&&v.getLsbD j)) →
    g_bits_Writer_Put_l0 k (v.toNat:Int) 8 m (i:Int) ((8*l.length+i:Nat):Int) (l++[(a.toNat:Int)])=some (((8*(l.length+1):Nat):Int),l++[((v.setWidth 8).toNat:Int)]):=by
  intro m
  induction m with
  | zero=>intro i a _ _ h;omega
  | succ m ih =>
    intro i a h1 h8 hm ha
    rw [g_bits_Writer_Put_l0.eq_2]
    by_cases h:i<8
    · rw [dt (show (i:Int)<8 by omega),dt (show (0:Int)≤(i:Int) by omega),zbit,zt8,show (8*l.length+i)%8=i by omega,df (show ¬ ((i:Nat):Int)=0 by omega)]
      simp only [cond_true,cond_false,Option.bind_some]
      have hx:(l++[(a.toNat:Int)]).length=l.length+1:=by simp
      rw [hx,wi (n:=((l.length+1:Nat):Int) - 1) (by omega) (by omega),show ((l.length+1:Nat):Int) - 1=((l.length:Nat):Int) by omega,ix_nat (by rw [hx];omega),List.getElem_append_right (Nat.le_refl _)]
      simp only [Nat.sub_self,List.getElem_cons_zero,Option.bind_some]
      rw [dt (show (0:Int)≤((i:Nat):Int) by omega)]
      simp only [cond_true,Option.bind_some]
      rw [u8_shl,u8_or,wi (by omega) (by omega),wi (by omega) (by omega),Int.toNat_natCast,Int.toNat_natCast,List.set_append_right _ _ (Nat.le_refl _)]
      simp only [Nat.sub_self,List.set_cons_zero]
      exact ih (i+1) _ (by omega) (by omega) (by omega) (zacc h ha)
    · obtain rfl:i=8:=by omega
      rw [df (show ¬ ((8:Nat):Int)<8 by omega)]
      simp only [cond_false]
      have:a=v.setWidth 8:=by
        apply BitVec.eq_of_getLsbD_eq
        intro j hj
        rw [ha j hj,BitVec.getLsbD_setWidth]
      rw [this];rfl
theorem put8 {k:Nat} (hk:12≤k) (v:BitVec 32) (l:List Int) (hl:l.length≤1099511627776) :
    g_bits_Writer_Put k (v.toNat:Int) 8 ((8*l.length:Nat):Int) l=some (0,((8*(l.length+1):Nat):Int),l++[((v.setWidth 8).toNat:Int)]):=by
  obtain ⟨k',rfl⟩:∃ k',k=k'+1:=⟨k - 1,by omega⟩
  unfold g_bits_Writer_Put
  rw [show decide ((8:Int)<0)=false from rfl,show decide ((32:Int)<8)=false from rfl]
  simp only [cond_false,Option.bind_some,g_bits_each]
  have e0:=zbit (v:=v) (i:=0)
  rw [show (((0:Nat)):Int)=0 from rfl] at e0
  rw [g_bits_Writer_Put_l0.eq_2,show decide ((0:Int)<8)=true from rfl,show decide ((0:Int)≤0)=true from rfl,e0,zt8,show (8*l.length)%8=0 by omega,show decide (((0:Nat):Int)=0)=true from rfl,dt (show (l.length+([0]:List Int).length)*1≤140737488355328 by simp;omega)]
  simp only [cond_true,Option.bind_some]
  have hx:(l++[(0:Int)]).length=l.length+1:=by simp
  rw [hx,wi (n:=((l.length+1:Nat):Int) - 1) (by omega) (by omega),show ((l.length+1:Nat):Int) - 1=((l.length:Nat):Int) by omega,ix_nat (by rw [hx];omega),List.getElem_append_right (Nat.le_refl _)]
  simp only [Nat.sub_self,List.getElem_cons_zero,Option.bind_some]
  rw [show decide ((0:Int)≤((0:Nat):Int))=true from rfl]
  simp only [cond_true,Option.bind_some]
  rw [show (0:Int)=((0#8).toNat:Int) from rfl,u8_shl,u8_or,wi (by simp) (by simp),wi (by omega) (by omega),Int.toNat_natCast,List.set_append_right _ _ (Nat.le_refl _)]
  simp only [Nat.sub_self,List.set_cons_zero]
  have:=put8_go (k'+1) v l hl k' 1 _ (by omega) (by omega) (by omega) (zacc (v:=v) (i:=0) (a:=0#8) (by omega) (fun j hj=>by simp))
  refine (congrArg (Option.bind · _) this).trans rfl
theorem shr64n {v n:Nat} (h:n≤64):shrI .i64 (v:Int) (n:Int)=((v / 2^n:Nat):Int):=by
  unfold shrI
  rw [Int.toNat_natCast,show min n (IntKind.bits .i64)=n from Nat.min_eq_left h,show ((2:Int)^n)=((2^n:Nat):Int) by norm_cast,Int.fdiv_eq_ediv_of_nonneg _ (Int.natCast_nonneg _)]
  norm_cast
theorem zle_step (m v:Nat):∀ i,i<m→(zle m v).drop i=UInt8.ofNat (v / 256^i)::(zle m v).drop (i+1):=by
  induction m generalizing v with
  | zero=>intro i h;omega
  | succ m ih =>
    intro i h
    cases i with
    | zero=>simp [zle]
    | succ i =>
      rw [zle,List.drop_succ_cons,List.drop_succ_cons,ih (v / 256) i (by omega),Nat.div_div_eq_div_mul,← Nat.pow_succ']
theorem nums1 {k:Nat} (hk:12≤k) (m v:Nat) (hm:m≤8) (hv:v<9223372036854775808):∀ (n i:Nat) (l:List Int) (q:Nat),l.length=q→i≤m→m - i<n→q+(m - i)≤1099511627776 →
    g_zip_writer_nums_l1 k (m:Int) (v:Int) n (i:Int) ((8*q:Nat):Int) l=some (((8*(q+(m - i)):Nat):Int),l++I ((zle m v).drop i)):=by
  intro n
  induction n with
  | zero=>intro i l q _ _ h;omega
  | succ n ih =>
    intro i l q hq hi hn hl
    rw [g_zip_writer_nums_l1.eq_2]
    by_cases h:i<m
    · rw [dt (show (i:Int)<(m:Int) by omega),wi (n:=8*(i:Int)) (by omega) (by omega),dt (show (0:Int)≤8*(i:Int) by omega),show 8*(i:Int)=((8*i:Nat):Int) by omega,shr64n (by omega)]
      simp only [cond_true,Option.bind_some]
      have e:IntKind.wrap .u32 ((v / 2^(8*i):Nat):Int)=((BitVec.ofNat 32 (v / 2^(8*i))).toNat:Int):=by
        rw [wrap_ofInt (k:=.u32) rfl,BitVec.ofInt_natCast];rfl
      subst hq
      rw [e,put8 hk _ l (by omega)]
      simp only [Option.bind_some]
      rw [wi (by omega) (by omega),show ((i:Int)+1)=((i+1:Nat):Int) by omega,ih (i+1) _ (l.length+1) (by simp) (by omega) (by omega) (by omega)]
      rw [zle_step m v i h,show l.length+1+(m - (i+1))=l.length+(m - i) by omega,List.append_assoc]
      have e8:(((BitVec.ofNat 32 (v / 2^(8*i))).setWidth 8).toNat)=(UInt8.ofNat (v / 256^i)).toNat:=by
        rw [BitVec.toNat_setWidth,BitVec.toNat_ofNat,UInt8.toNat_ofNat',show 256^i=2^(8*i) by rw [Nat.pow_mul]]
        omega
      rw [e8];rfl
    · obtain rfl:i=m:=by omega
      rw [df (show ¬ (i:Int)<(i:Int) by omega),List.drop_of_length_le (by rw [zle_len];omega)]
      simp [I]
theorem nums_go {k:Nat} (hk:12≤k) (m:Nat) (hm:m≤8) (vs:List Nat) (hv:∀ v∈vs,v<9223372036854775808) (hvl:vs.length≤64):∀ (n i:Nat) (l:List Int) (q:Nat),l.length=q→i≤vs.length→vs.length - i<n→q+8*(vs.length - i)≤1099511627768 →
    g_zip_writer_nums_l0 k (m:Int) (vs.map Int.ofNat) n (i:Int) ((8*q:Nat):Int) l=some (((8*(l++I ((vs.drop i).flatMap (zle m))).length:Nat):Int),l++I ((vs.drop i).flatMap (zle m))):=by
  intro n
  induction n with
  | zero=>intro i l q _ _ h;omega
  | succ n ih =>
    intro i l q hq hi hn hl
    rw [g_zip_writer_nums_l0.eq_2,List.length_map]
    by_cases h:i<vs.length
    · rw [dt (show (i:Int)<((vs.length:Nat):Int) by omega),ix_nat (by rw [List.length_map];exact h),List.getElem_map]
      simp only [cond_true,Option.bind_some]
      have e:=nums1 hk m vs[i] hm (hv _ (List.getElem_mem h)) k 0 l q hq (by omega) (by omega) (by omega)
      rw [show Int.ofNat vs[i]=((vs[i]:Nat):Int) from rfl]
      rw [show g_zip_writer_nums_l1 k (m:Int) ((vs[i]:Nat):Int) k 0 ((8*q:Nat):Int) l=_ from e]
      simp only [Option.bind_some,List.drop_zero,Nat.sub_zero]
      rw [wi (by omega) (by omega),show ((i:Int)+1)=((i+1:Nat):Int) by omega,ih (i+1) _ (q+m) (by simp [I_length,zle_len,hq]) (by omega) (by omega) (by omega),List.drop_eq_getElem_cons h,List.flatMap_cons,I_append,List.append_assoc]
    · rw [df (show ¬ (i:Int)<((vs.length:Nat):Int) by omega),List.drop_of_length_le (by omega)]
      simp [I,hq]
theorem nums {k:Nat} (hk:80≤k) (m:Nat) (hm:m≤8) (vs:List Nat) (hv:∀ v∈vs,v<9223372036854775808) (hvl:vs.length≤64) (l:List Int) (hl:l.length≤1099511627000) {zs:List Int} (hz:zs=vs.map Int.ofNat) {p:Int} (hp:p=8*(l.length:Int)) :
    g_zip_writer_nums k (m:Int) zs p l=some (((8*(l++I (vs.flatMap (zle m))).length:Nat):Int),l++I (vs.flatMap (zle m))):=by
  subst hz hp
  have e:=nums_go (k:=k) (by omega) m hm vs hv hvl k 0 l l.length rfl (by omega) (by omega) (by omega)
  unfold g_zip_writer_nums
  rw [show (8*(l.length:Int))=((8*l.length:Nat):Int) by omega,show g_zip_writer_nums_l0 k (m:Int) (vs.map Int.ofNat) k 0 ((8*l.length:Nat):Int) l=_ from e]
  rfl
theorem sums_eq {k:Nat} (hk:80≤k) (meth crc packed size:Nat) (name:ByteArray) (at_:Int) (h1:meth<9223372036854775808) (h2:crc<9223372036854775808) (h3:packed<9223372036854775808) (h4:size<9223372036854775808) (h5:name.size<9223372036854775808) (l:List Int) (hl:l.length≤1099511626000) {p:Int} (hp:p=8*(l.length:Int)) (a:Nat) :
    g_zip_writer_sums k meth crc packed size name at_ p l=some (((8*(l++I (sumsB ⟨meth,crc,packed,size,L name,a⟩)).length:Nat):Int),l++I (sumsB ⟨meth,crc,packed,size,L name,a⟩)):=by
  unfold g_zip_writer_sums
  rw [show (2:Int)=((2:Nat):Int) from rfl,nums (zs:=([0,(meth:Int),0,33]:List Int)) hk 2 (by omega) [0,meth,0,33] (by simp;omega) (by simp) l (by omega) rfl hp]
  simp only [Option.bind_some]
  rw [show (4:Int)=((4:Nat):Int) from rfl,nums (zs:=([(crc:Int),(packed:Int),(size:Int)]:List Int)) hk 4 (by omega) [crc,packed,size] (by simp;omega) (by simp) _ (by simp [I_length,zle_len];omega) rfl (by omega)]
  simp only [Option.bind_some]
  rw [nums (zs:=([((name.size:Nat):Int)]:List Int)) hk 2 (by omega) [name.size] (by simp;omega) (by simp) _ (by simp [I_length,zle_len];omega) rfl (by omega)]
  simp only [Option.bind_some]
  simp only [List.append_assoc,← I_append,sumsB,List.flatMap_cons,List.flatMap_nil,List.append_nil,L_size]
theorem wbytes {k:Nat} (l z:List Int) (p:Int) (h:l.length+z.length≤1099511627776):g_bits_Writer_Bytes__b k z p l=some (((8*(l++z).length:Nat):Int)):=by
  unfold g_bits_Writer_Bytes__b
  rw [dt (show (l.length+z.length)*1≤140737488355328 by omega),wi (by omega) (by simp;omega)]
  simp only [cond_true,Option.bind_some]
  congr 1
theorem wfirst {k:Nat} (z:List Int) (p:Int) (h:z.length≤1099511627776):g_bits_Writer_Bytes k z p=some (((8*(([]:List Int)++z).length:Nat):Int)):=by
  unfold g_bits_Writer_Bytes
  rw [dt (show (([]:List Int).length+z.length)*1≤140737488355328 by simp;omega),wi (by omega) (by simp;omega)]
  simp only [cond_true,Option.bind_some]
  congr 1
theorem clone_eq {k:Nat} {l:List Int} (h:l.length≤1099511627776):g_bits_Writer_Done k 0 l=some l∧∀ p,g_bits_Writer_Done k p l=some l:=by
  have:∀ p,g_bits_Writer_Done k p l=some l:=by
    intro p
    unfold g_bits_Writer_Done g_sc_Clone_byte_byte
    rw [dt (show (([]:List Int).length+l.length)*1≤140737488355328 by simp;omega)]
    rfl
  exact ⟨this 0,this⟩
theorem local_eq {k:Nat} (hk:80≤k) (meth crc packed size a:Nat) (name:ByteArray) (at_:Int) (h1:meth<9223372036854775808) (h2:crc<9223372036854775808) (h3:packed<9223372036854775808) (h4:size<9223372036854775808) (h5:name.size≤1073741824) :
    g_zip_local k meth crc packed size name at_=some (I (localB ⟨meth,crc,packed,size,L name,a⟩)):=by
  unfold g_zip_local g_zip_bytes__c g_zip_local_1 g_bits_NewWriter
  simp only [Option.bind_some]
  rw [wfirst _ _ (by simp),show (2:Int)=((2:Nat):Int) from rfl]
  simp only [Option.bind_some]
  rw [nums (zs:=([20]:List Int)) hk 2 (by omega) [20] (by simp) (by simp) _ (by simp) rfl (by omega)]
  simp only [Option.bind_some]
  rw [sums_eq hk meth crc packed size name at_ h1 h2 h3 h4 (by omega) _ (by simp [I_length,zle_len]) (by omega) a]
  simp only [Option.bind_some]
  rw [nums (zs:=([0]:List Int)) hk 2 (by omega) [0] (by simp) (by simp) _ (by simp [I_length,zle_len,sums_len]) rfl (by omega)]
  simp only [Option.bind_some]
  have hs:=strInts_length name
  rw [dt (show name.size≤140737488355328 by omega),wbytes _ _ _ (by simp [I_length,zle_len,sums_len,hs];omega)]
  simp only [cond_true,Option.bind_some]
  rw [(clone_eq (by simp [I_length,zle_len,sums_len,hs];omega)).2]
  simp only [Option.bind_some]
  simp only [List.append_assoc,strInts_L,← I_append,localB,List.flatMap_cons,List.flatMap_nil,List.append_nil,List.nil_append]
  rw [I_append];rfl
theorem central_eq {k:Nat} (hk:80≤k) (meth crc packed size a:Nat) (name:ByteArray) (h1:meth<9223372036854775808) (h2:crc<9223372036854775808) (h3:packed<9223372036854775808) (h4:size<9223372036854775808) (h5:name.size≤1073741824) (h6:a<9223372036854775808) :
    g_zip_central k meth crc packed size name (a:Int)=some (I (centralB ⟨meth,crc,packed,size,L name,a⟩)):=by
  unfold g_zip_central g_zip_bytes__b g_zip_central_1 g_bits_NewWriter
  simp only [Option.bind_some]
  rw [wfirst _ _ (by simp),show (2:Int)=((2:Nat):Int) from rfl]
  simp only [Option.bind_some]
  rw [nums (zs:=([20,20]:List Int)) hk 2 (by omega) [20,20] (by simp) (by simp) _ (by simp) rfl (by omega)]
  simp only [Option.bind_some]
  rw [sums_eq hk meth crc packed size name a h1 h2 h3 h4 (by omega) _ (by simp [I_length,zle_len]) (by omega) a]
  simp only [Option.bind_some]
  rw [nums (zs:=([0,0,0,0]:List Int)) hk 2 (by omega) [0,0,0,0] (by simp) (by simp) _ (by simp [I_length,zle_len,sums_len]) rfl (by omega)]
  simp only [Option.bind_some]
  rw [show (4:Int)=((4:Nat):Int) from rfl,nums (zs:=([0,(a:Int)]:List Int)) hk 4 (by omega) [0,a] (by simp;omega) (by simp) _ (by simp [I_length,zle_len,sums_len]) rfl (by omega)]
  simp only [Option.bind_some]
  have hs:=strInts_length name
  rw [dt (show name.size≤140737488355328 by omega),wbytes _ _ _ (by simp [I_length,zle_len,sums_len,hs];omega)]
  simp only [cond_true,Option.bind_some]
  rw [(clone_eq (by simp [I_length,zle_len,sums_len,hs];omega)).2]
  simp only [Option.bind_some]
  simp only [List.append_assoc,strInts_L,← I_append,centralB,List.flatMap_cons,List.flatMap_nil,List.append_nil,List.nil_append]
  rw [I_append];rfl
theorem end_eq {k:Nat} (hk:80≤k) (many size a:Nat) (h1:many<9223372036854775808) (h2:size<9223372036854775808) (h3:a<9223372036854775808) :
    g_zip_end k many size a=some (I (endB many size a)):=by
  unfold g_zip_end g_zip_bytes g_zip_end_1 g_bits_NewWriter
  simp only [Option.bind_some]
  rw [wfirst _ _ (by simp),show (2:Int)=((2:Nat):Int) from rfl]
  simp only [Option.bind_some]
  rw [nums (zs:=([0,0,(many:Int),(many:Int)]:List Int)) hk 2 (by omega) [0,0,many,many] (by simp;omega) (by simp) _ (by simp) rfl (by omega)]
  simp only [Option.bind_some]
  rw [show (4:Int)=((4:Nat):Int) from rfl,nums (zs:=([(size:Int),(a:Int)]:List Int)) hk 4 (by omega) [size,a] (by simp;omega) (by simp) _ (by simp [I_length,zle_len]) rfl (by omega)]
  simp only [Option.bind_some]
  rw [nums (zs:=([0]:List Int)) hk 2 (by omega) [0] (by simp) (by simp) _ (by simp [I_length,zle_len]) rfl (by omega)]
  simp only [Option.bind_some]
  rw [(clone_eq (by simp [I_length,zle_len])).2]
  simp only [Option.bind_some]
  simp only [List.append_assoc,← I_append,endB,List.flatMap_cons,List.flatMap_nil,List.append_nil,List.nil_append]
  rw [I_append];rfl
end Go.Proofs.YtaphblcbnhnpaaaGreatDoor.W
namespace Go.Q
set_option linter.unusedVariables false
abbrev Zf:=List UInt8 × List UInt8
section
variable (cz:List UInt8→Nat)
def dirZ (l:List Ent):List UInt8:=l.flatMap centralB
variable {cz}
end
end Go.Q
namespace Go.Proofs.YtaphblcbnhnpaaaGreatDoor.W
open Go Go.Q Go.Proofs
set_option linter.unusedVariables false
set_option linter.unusedSimpArgs false
def zB (l:List UInt8):ByteArray:=ByteArray.mk l.toArray
theorem L_zB (l:List UInt8):L (zB l)=l:=L_mk l
theorem zB_size (l:List UInt8):(zB l).size=l.length:=by rw [L_size,L_zB]
theorem zstrOf (l:List UInt8):strOf (I l)=zB l:=L_ext (by rw [L_strOf_I,L_zB])
theorem zstrInts (l:List UInt8):strInts (zB l)=I l:=by rw [strInts_L,L_zB]
theorem I_get {l:List UInt8} {i:Nat} (h:i<l.length):(I l)[i]'(by rw [I_length];exact h)=(l[i].toNat:Int):=by simp [I]
theorem ixI {l:List UInt8} {i:Nat} (h:i<l.length):ix (I l) (i:Int)=some (l[i].toNat:Int):=by
  rw [ix_nat (by rw [I_length];exact h),I_get h]
theorem I_drop (l:List UInt8) (n:Nat):(I l).drop n=I (l.drop n):=by simp [I]
theorem I_take (l:List UInt8) (n:Nat):(I l).take n=I (l.take n):=by simp [I]
def crcN (d:List UInt8):Nat:=(4294967295#32 ^^^ crcRow (I d) 4294967295#32).toNat
theorem crcN_lt (d:List UInt8):crcN d<4294967296:=BitVec.isLt _
theorem u32_wrapz (c:Int):IntKind.wrap .u32 c=((BitVec.ofInt 32 c).toNat:Int):=wrap_ofInt (k:=.u32) rfl c
theorem crc1 (k:Nat):∀ (m i:Nat) (x:BitVec 32),i≤8→8 - i<m→g_bits_Crc_l1 k m (x.toNat:Int) (i:Int)=some ((crcIt (8 - i) x).toNat:Int)
  | 0,_,_,_,h=>by omega
  | m+1,i,x,hi,hm=>by
    rw [g_bits_Crc_l1.eq_2]
    by_cases h:i<8
    · rw [dt (show (i:Int)<8 by omega),show (3988292384:Int)=((3988292384#32).toNat:Int) from rfl,show bits .and .u32 (x.toNat:Int) 1=bits .and .u32 (x.toNat:Int) ((1#32).toNat:Int) from rfl]
      simp only [cond_true,Option.bind_some,u32_and,u32_neg,u32_shr,u32_xor]
      rw [wi (by omega) (by omega),show (i:Int)+1=((i+1:Nat):Int) from rfl]
      rw [crc1 k m (i+1) _ (by omega) (by omega),show 8 - i=(8 - (i+1))+1 by omega]
      rfl
    · rw [df (show ¬ (i:Int)<8 by omega),show 8 - i=0 by omega]
      rfl
theorem crc0 (k:Nat) (l:List Int) (hk:9≤k) (hl:l.length≤9223372036854775807):∀ (m i:Nat) (x:BitVec 32),i≤l.length→l.length - i<m→g_bits_Crc_l0 k l m (x.toNat:Int) (i:Int)=some ((crcRow (l.drop i) x).toNat:Int)
  | 0,_,_,_,h=>by omega
  | m+1,i,x,hi,hm=>by
    rw [g_bits_Crc_l0.eq_2]
    by_cases h:i<l.length
    · rw [dt (show (i:Int)<((l.length:Nat):Int) by omega),ix_nat h]
      simp only [cond_true,Option.bind_some,u32_wrapz,u32_xor]
      rw [show g_bits_Crc_l1 k k _ 0=_ from crc1 k k 0 _ (by omega) (by omega)]
      simp only [Option.bind_some]
      rw [wi (by omega) (by omega),show (i:Int)+1=((i+1:Nat):Int) from rfl,crc0 k l hk hl m (i+1) _ (by omega) (by omega),List.drop_eq_getElem_cons h]
      rfl
    · rw [df (show ¬ (i:Int)<((l.length:Nat):Int) by omega),List.drop_of_length_le (by omega)]
      rfl
theorem crc_prog {k:Nat} {d:List UInt8} (hk:9≤k) (h:d.length<k) (hl:d.length≤1099511627776):g_bits_Crc k (I d)=some ((crcN d:Nat):Int):=by
  unfold g_bits_Crc
  rw [show g_bits_Crc_l0 k (I d) k 4294967295 0=_ from crc0 k (I d) hk (by rw [I_length];omega) k 0 4294967295#32 (by omega) (by rw [I_length];omega)]
  simp only [Option.bind_some,List.drop_zero]
  rw [show (if IntKind.signed .u32 then (-1:Int) else IntKind.max .u32)=((4294967295#32).toNat:Int) from rfl,u32_xor]
  rfl
theorem zor64 {x y:Nat} (hx:x<4294967296) (hy:y<4294967296):bits .or .i64 (x:Int) (y:Int)=((x ||| y:Nat):Int):=by
  have e:bits .or .i64 (x:Int) (y:Int)=IntKind.wrap .i64 ((BitVec.ofInt 64 (x:Int) ||| BitVec.ofInt 64 (y:Int)).toNat:Int):=rfl
  have h:x ||| y<2^32:=Nat.or_lt_two_pow hx hy
  rw [e,BitVec.ofInt_natCast,BitVec.ofInt_natCast,BitVec.toNat_or,BitVec.toNat_ofNat,BitVec.toNat_ofNat,Nat.mod_eq_of_lt (by omega),Nat.mod_eq_of_lt (by omega),wi (by omega) (by omega)]
theorem zbyte {v:Nat} {c:UInt8} (hv:v<16777216):bits .or .i64 (shlI .i64 (v:Int) 8) (IntKind.wrap .i64 (c.toNat:Int))=((c.toNat+256*v:Nat):Int):=by
  have hc:=c.toNat_lt
  have e:shlI .i64 (v:Int) 8=((256*v:Nat):Int):=by
    unfold shlI
    rw [show ((2:Int)^(min (Int.toNat 8) (IntKind.bits .i64)))=256 from rfl,wi (by omega) (by omega)]
    omega
  rw [e,wi (by omega) (by omega),zor64 (by omega) (by omega)]
  congr 1
  have:=Nat.two_pow_add_eq_or_of_lt (i:=8) (b:=c.toNat) (by omega) v
  rw [show (2:Nat)^8=256 from rfl] at this
  omega
theorem num_go (k:Nat) (b:List UInt8) (a n:Nat) (hn:n≤4) (hb:a+n≤b.length) (hbl:b.length≤1099511627776):∀ (m i:Nat),i≤n→i<m →
    g_zip_num_l0 k (I b) (a:Int) m ((zlv ((b.drop (a+i)).take (n - i)):Nat):Int) ((i:Int) - 1)=some ((zfld b a n:Nat):Int):=by
  intro m
  induction m with
  | zero=>intro i _ h;omega
  | succ m ih =>
    intro i hi hm
    rw [g_zip_num_l0.eq_2]
    cases i with
    | zero=>rfl
    | succ i =>
      have hlt:a+i<b.length:=by omega
      rw [show (((i+1:Nat):Int) - 1)=(i:Int) by omega,dt (show (0:Int)≤(i:Int) by omega),wi (by omega) (by omega),show ((a:Int)+(i:Int))=((a+i:Nat):Int) by omega,ixI hlt]
      simp only [cond_true,Option.bind_some]
      have hz:=zlv_lt ((b.drop (a+(i+1))).take (n - (i+1)))
      have hz2:256^((b.drop (a+(i+1))).take (n - (i+1))).length≤256^3:=Nat.pow_le_pow_right (by omega) (by rw [List.length_take];omega)
      rw [zbyte (by omega),wi (by omega) (by omega)]
      have e:(b.drop (a+i)).take (n - i)=b[a+i]::(b.drop (a+(i+1))).take (n - (i+1)):=by
        rw [List.drop_eq_getElem_cons hlt,show n - i=(n - (i+1))+1 by omega,List.take_succ_cons];rfl
      have:=ih i (by omega) (by omega)
      rw [e,zlv] at this
      exact this
theorem num_eq {k:Nat} (hk:10≤k) {b:List UInt8} {a n:Nat} (hn:n≤4) (hb:a+n≤b.length) (hbl:b.length≤1099511627776):g_zip_num k (I b) (a:Int) (n:Int)=some ((zfld b a n:Nat):Int):=by
  unfold g_zip_num
  have:=num_go k b a n hn hb hbl k n (by omega) (by omega)
  rw [Nat.sub_self,List.take_zero] at this
  rw [wi (by omega) (by omega),show g_zip_num_l0 k (I b) (a:Int) k 0 ((n:Int) - 1)=_ from this]
  rfl
theorem begins_eq {k:Nat} {b w:List UInt8}:g_zip_begins k (I b) (I w)=some (decide (w <+: b)):=by
  unfold g_zip_begins g_st_HasPrefix g_sl_HasPrefix
  rw [zstrOf,zstrOf,zB_size,zB_size]
  by_cases h:w.length≤b.length
  · rw [dt (show (w.length:Int)≤(b.length:Int) by omega),dt (show (0:Int)≤0∧(0:Int)≤(w.length:Int)∧(w.length:Int)≤(b.length:Int) by omega)]
    simp only [Option.bind_some,bt]
    rw [L_toList,L_toList,L_extract,L_zB,L_zB]
    congr 1
    rw [show Int.toNat 0=0 from rfl,List.drop_zero,Int.toNat_natCast,Nat.sub_zero]
    rw [Bool.eq_iff_iff,beq_iff_eq,decide_eq_true_iff,List.prefix_iff_eq_take]
    exact eq_comm
  · rw [df (show ¬ (w.length:Int)≤(b.length:Int) by omega)]
    simp only [Option.bind_some,bf]
    rw [df]
    intro hp
    exact h hp.length_le
def lowN (n:Nat):Nat:=if 65≤n∧n≤90 then n+32 else n
def likeZ (a b:List UInt8):Bool:=decide (a.map (fun c=>lowN c.toNat)=b.map (fun c=>lowN c.toNat))
def asc (l:List UInt8):Prop:=∀ c∈l,c.toNat<128
theorem okName_asc {l:List UInt8} (h:okName l=true):asc l∧l.length≤255:=by
  unfold okName at h
  rw [Bool.and_eq_true,decide_eq_true_eq] at h
  refine ⟨fun c hc=>?_,h.1⟩
  have hb:anyBad l=false:=by
    cases hb:anyBad l with
    | false=>rfl
    | true=>rw [rgt_bad _ _ hb] at h;cases h.2
  unfold anyBad at hb
  rw [List.any_eq_false] at hb
  have:=hb c hc
  unfold badC at this
  simp at this
  omega
theorem or128 {x y:UInt8} (hx:x.toNat<128) (hy:y.toNat<128):decide ((128:Int)≤bits .or .u8 (x.toNat:Int) (y.toNat:Int))=false:=by
  have h:x.toNat ||| y.toNat<2^7:=Nat.or_lt_two_pow hx hy
  have e:bits .or .u8 (x.toNat:Int) (y.toNat:Int)=((x.toNat ||| y.toNat:Nat):Int):=u8_or x.toBitVec y.toBitVec
  rw [e]
  exact df (by omega)
theorem foldStep {x y:Nat} (hx:x<128) (hy:y<128) :
    (bif decide ((y:Int)=(x:Int)) then some (Sum.inl ()) else (((bif (decide ((y:Int)<(x:Int))) then some ((y:Int),(x:Int)) else some ((x:Int),(y:Int))):Option (Int × Int)).bind fun x=>(((bif (decide (65≤x.1)) then (bif (decide (x.1≤90)) then some (decide (x.2=IntKind.wrap .u8 ((IntKind.wrap .u8 (x.1+97)) - 65))) else some false) else some false):Option Bool).bind fun x2254=>(bif x2254 then some (Sum.inl ()) else some (Sum.inr ())))))=some (if lowN x=lowN y then Sum.inl () else Sum.inr ():Unit ⊕ Unit):=by
  by_cases h:y=x
  · subst h;rw [dt rfl,if_pos rfl];rfl
  · rw [df (show ¬ (y:Int)=(x:Int) by omega)]
    have key:∀ u v:Nat,u<v→v<128→(((bif (decide (65≤(u:Int))) then (bif (decide ((u:Int)≤90)) then some (decide ((v:Int)=IntKind.wrap .u8 ((IntKind.wrap .u8 ((u:Int)+97)) - 65))) else some false) else some false):Option Bool).bind fun x2254=>(bif x2254 then some (Sum.inl ()) else some (Sum.inr ())))=some (if lowN u=lowN v then Sum.inl () else Sum.inr ():Unit ⊕ Unit):=by
      intro u v huv hv
      by_cases h1:65≤u
      · rw [dt (show (65:Int)≤(u:Int) by omega)]
        by_cases h2:u≤90
        · rw [dt (show (u:Int)≤90 by omega),wu8 (n:=(u:Int)+97) (by omega) (by omega),wu8 (by omega) (by omega)]
          simp only [bt,Option.bind_some]
          by_cases h3:v=u+32
          · rw [dt (by omega),if_pos (by unfold lowN;rw [if_pos ⟨h1,h2⟩,if_neg (by omega)];omega)];rfl
          · rw [df (by omega),if_neg (by unfold lowN;rw [if_pos ⟨h1,h2⟩];split <;> omega)];rfl
        · rw [df (show ¬ (u:Int)≤90 by omega),if_neg (by unfold lowN;rw [if_neg (by omega),if_neg (by omega)];omega)];rfl
      · rw [df (show ¬ (65:Int)≤(u:Int) by omega),if_neg (by unfold lowN;rw [if_neg (by omega)];split <;> omega)];rfl
    rcases Nat.lt_or_gt_of_ne h with h1 | h1
    · rw [dt (show (y:Int)<(x:Int) by omega)]
      refine (key y x h1 hx).trans ?_
      simp only [eq_comm]
    · rw [df (show ¬ (y:Int)<(x:Int) by omega)]
      exact key x y h1 hy
theorem fold_go (k:Nat) (a b:List UInt8) (ha:asc a) (hb:asc b) (m:Nat) (hma:m≤a.length) (hmb:m≤b.length) (hal:m≤1099511627776):∀ (n i:Nat),i≤m→m - i<n →
    g_st_EqualFold_l0 k (zB a) (zB b) (m:Int) n (i:Int)=some (if ((a.take m).drop i).map (fun c=>lowN c.toNat)=((b.take m).drop i).map (fun c=>lowN c.toNat) then Sum.inr () else Sum.inl ()):=by
  intro n
  induction n with
  | zero=>intro i _ h;omega
  | succ n ih =>
    intro i hi hn
    rw [g_st_EqualFold_l0.eq_2]
    by_cases h:i<m
    · have h1:i<a.length:=by omega
      have h2:i<b.length:=by omega
      rw [dt (show (i:Int)<(m:Int) by omega),zstrInts,zstrInts,ixI h1,ixI h2]
      simp only [bt,Option.bind_some]
      rw [or128 (ha _ (List.getElem_mem h1)) (hb _ (List.getElem_mem h2))]
      simp only [bf]
      rw [foldStep (ha _ (List.getElem_mem h1)) (hb _ (List.getElem_mem h2))]
      have e1:(a.take m).drop i=a[i]::(a.take m).drop (i+1):=by
        rw [List.drop_eq_getElem_cons (by rw [List.length_take];omega),List.getElem_take]
      have e2:(b.take m).drop i=b[i]::(b.take m).drop (i+1):=by
        rw [List.drop_eq_getElem_cons (by rw [List.length_take];omega),List.getElem_take]
      rw [e1,e2,List.map_cons,List.map_cons]
      by_cases hl:lowN a[i].toNat=lowN b[i].toNat
      · rw [if_pos hl]
        simp only [Option.bind_some]
        rw [wi (by omega) (by omega),show ((i:Int)+1)=((i+1:Nat):Int) by omega,ih (i+1) (by omega) (by omega)]
        simp only [List.cons.injEq,hl,true_and]
      · rw [if_neg hl,if_neg (by simp only [List.cons.injEq];exact fun q=>hl q.1)]
        rfl
    · rw [df (show ¬ (i:Int)<(m:Int) by omega),if_pos (by rw [List.drop_of_length_le (by rw [List.length_take];omega),List.drop_of_length_le (by rw [List.length_take];omega)])]
      rfl
theorem fold_eq {k:Nat} {a b:List UInt8} (ha:asc a) (hb:asc b) (hal:a.length≤255) (hbl:b.length≤255) (hk:300≤k):g_st_EqualFold k (zB a) (zB b)=some (likeZ a b):=by
  unfold g_st_EqualFold
  rw [zB_size,zB_size]
  have em:(if (((b.length:Nat):Int):Int)<((a.length:Nat):Int) then (((b.length:Nat):Int):Int) else ((a.length:Nat):Int))=((min b.length a.length:Nat):Int):=by
    split <;> omega
  rw [em]
  simp only [Option.bind_some]
  rw [show g_st_EqualFold_l0 k (zB a) (zB b) ((min b.length a.length:Nat):Int) k 0=_ from fold_go k a b ha hb (min b.length a.length) (by omega) (by omega) (by omega) k 0 (by omega) (by omega)]
  simp only [Option.bind_some,List.drop_zero]
  unfold likeZ
  by_cases hl:a.length=b.length
  · rw [← hl,Nat.min_self,List.take_length,show b.take a.length=b by rw [hl,List.take_length]]
    by_cases h:a.map (fun c=>lowN c.toNat)=b.map (fun c=>lowN c.toNat)
    · rw [if_pos h,dt h]
      simp
    · rw [if_neg h,df h]
  · have:¬ a.map (fun c=>lowN c.toNat)=b.map (fun c=>lowN c.toNat):=fun h=>hl (by have:=congrArg List.length h;simpa using this)
    rw [df this]
    split
    · rfl
    · rename_i heq
      rw [show decide (((a.length:Nat):Int)=((b.length:Nat):Int))=false from df (by omega)]
def mkF (f:Zf):S_api_File:=⟨zB f.1,I f.2⟩
theorem ixM {α β:Type} {f:α→β} {l:List α} {i:Nat} (h:i<l.length):ix (l.map f) (i:Int)=some (f l[i]):=by
  rw [ix_nat (by rw [List.length_map];exact h),List.getElem_map]
def mkE (e:Ent):S_zip_entry:=⟨e.meth,e.crc,e.packed,e.size,zB e.name,e.at_⟩
def atZ (b:List UInt8):Ent:=⟨zfld b 10 2,zfld b 16 4,zfld b 20 4,zfld b 24 4,(b.drop 46).take (zfld b 28 2),zfld b 42 4⟩
def prsZ:Nat→List UInt8→Option (List Ent × List UInt8)
  | 0,b=>some ([],b)
  | n+1,b=>if b.length<46 then none else if b.length<46+zfld b 28 2 then none else
    if centralB (atZ b) <+: b then (prsZ n (b.drop (46+zfld b 28 2))).map fun x=>(atZ b::x.1,x.2) else none
theorem zfld_lt (b:List UInt8) (o n:Nat):zfld b o n<256^n:=by
  unfold zfld
  refine Nat.lt_of_lt_of_le (zlv_lt _) (Nat.pow_le_pow_right (by omega) ?_)
  rw [List.length_take];omega
theorem atZ_ok (b:List UInt8):(atZ b).ok:=⟨zfld_lt b 10 2,zfld_lt b 16 4,zfld_lt b 20 4,zfld_lt b 24 4,by
  have:=zfld_lt b 28 2
  show ((b.drop 46).take (zfld b 28 2)).length<_
  rw [List.length_take];omega,zfld_lt b 42 4⟩
theorem prsZ_ok:∀ (n:Nat) (b:List UInt8) (es:List Ent) (r:List UInt8),prsZ n b=some (es,r)→es.length=n∧b=dirZ es++r∧∀ e∈es,e.ok
  | 0,b,es,r,h=>by
    simp only [prsZ,Option.some.injEq,Prod.mk.injEq] at h
    obtain ⟨rfl,rfl⟩:=h
    exact ⟨rfl,rfl,fun e h=>by cases h⟩
  | n+1,b,es,r,h=>by
    rw [prsZ] at h
    split at h
    · cases h
    split at h
    · cases h
    rename_i h1 h2
    split at h
    · rename_i hp
      cases hq:prsZ n (b.drop (46+zfld b 28 2)) with
      | none=>rw [hq] at h;cases h
      | some x =>
        rw [hq] at h
        simp only [Option.map_some,Option.some.injEq,Prod.mk.injEq] at h
        obtain ⟨rfl,rfl⟩:=h
        obtain ⟨a1,a2,a3⟩:=prsZ_ok n _ x.1 x.2 hq
        refine ⟨by rw [List.length_cons,a1],?_,fun e he=>?_⟩
        · rw [dirZ,List.flatMap_cons,List.append_assoc]
          have hl:(centralB (atZ b)).length=46+zfld b 28 2:=by
            rw [central_len]
            show 46+((b.drop 46).take (zfld b 28 2)).length=_
            rw [List.length_take,List.length_drop];omega
          rw [List.prefix_iff_eq_take,hl] at hp
          show b=centralB (atZ b)++(dirZ x.1++x.2)
          rw [← a2]
          conv=>lhs;rw [← List.take_append_drop (46+zfld b 28 2) b,← hp]
        · rcases List.mem_cons.1 he with rfl | he
          · exact atZ_ok b
          · exact a3 e he
    · cases h
theorem numL {k:Nat} (hk:10≤k) {b:List UInt8} {x y:Int} (a n:Nat) (hx:x=(a:Int)) (hy:y=(n:Int)) (hn:n≤4) (hb:a+n≤b.length) (hbl:b.length≤1099511627776):g_zip_num k (I b) x y=some ((zfld b a n:Nat):Int):=by
  subst hx hy;exact num_eq hk hn hb hbl
theorem entries_go (k:Nat) (hk:300≤k) (many:Nat) (hm:many≤64):∀ (n i:Nat) (b:List UInt8) (acc:List S_zip_entry),i≤many→many - i<n→acc.length=i→b.length≤1048576 →
    (prsZ (many - i) b=none∧∃ x,g_zip_directory_l0 k (many:Int) n (i:Int) (I b) acc=some (Sum.inl x)) ∨
    ∃ es r,prsZ (many - i) b=some (es,r)∧g_zip_directory_l0 k (many:Int) n (i:Int) (I b) acc=some (Sum.inr (I r,acc++es.map mkE)):=by
  intro n
  induction n with
  | zero=>intro i b acc _ h;omega
  | succ n ih =>
    intro i b acc hi hn hacc hb
    rw [g_zip_directory_l0.eq_2]
    by_cases h:i<many
    · obtain ⟨q,hq⟩:∃ q,many - i=q+1:=⟨many - i - 1,by omega⟩
      have hq2:many - (i+1)=q:=by omega
      rw [hq,prsZ,dt (show (i:Int)<(many:Int) by omega),I_length]
      simp only [bt]
      by_cases h46:b.length<46
      · rw [dt (show (b.length:Int)<46 by omega),if_pos h46]
        exact .inl ⟨rfl,_,rfl⟩
      rw [df (show ¬ (b.length:Int)<46 by omega),if_neg h46,numL (k:=k) (b:=b) (x:=28) (y:=2) (by omega) 28 2 rfl rfl (by omega) (by omega) (by omega)]
      have hz:=zfld_lt b 28 2
      rw [show (256:Nat)^2=65536 from rfl] at hz
      simp only [bf,Option.bind_some]
      rw [wi (n:=46+((zfld b 28 2:Nat):Int)) (by omega) (by omega)]
      by_cases hl:b.length<46+zfld b 28 2
      · rw [dt (show (b.length:Int)<46+((zfld b 28 2:Nat):Int) by omega),if_pos hl]
        exact .inl ⟨rfl,_,rfl⟩
      rw [df (show ¬ (b.length:Int)<46+((zfld b 28 2:Nat):Int) by omega),if_neg hl,dt (show (0:Int)≤46∧(46:Int)≤46+((zfld b 28 2:Nat):Int)∧46+((zfld b 28 2:Nat):Int)≤(b.length:Int) by omega)]
      simp only [bf,bt,Option.bind_some]
      rw [numL (k:=k) (b:=b) (x:=10) (y:=2) (by omega) 10 2 rfl rfl (by omega) (by omega) (by omega),numL (k:=k) (b:=b) (x:=16) (y:=4) (by omega) 16 4 rfl rfl (by omega) (by omega) (by omega),numL (k:=k) (b:=b) (x:=20) (y:=4) (by omega) 20 4 rfl rfl (by omega) (by omega) (by omega),numL (k:=k) (b:=b) (x:=24) (y:=4) (by omega) 24 4 rfl rfl (by omega) (by omega) (by omega),numL (k:=k) (b:=b) (x:=42) (y:=4) (by omega) 42 4 rfl rfl (by omega) (by omega) (by omega)]
      simp only [Option.bind_some]
      have en:strOf (List.drop (Int.toNat 46) (List.take (Int.toNat (46+((zfld b 28 2:Nat):Int))) (I b)))=zB (atZ b).name:=by
        rw [I_take,I_drop,zstrOf,show Int.toNat (46+((zfld b 28 2:Nat):Int))=46+zfld b 28 2 by omega,show Int.toNat 46=46 from rfl,List.drop_take,Nat.add_sub_cancel_left]
        rfl
      have ho:=atZ_ok b
      have hnl:=ho.name
      have hc:=central_eq (k:=k) (by omega) (atZ b).meth (atZ b).crc (atZ b).packed (atZ b).size (atZ b).at_ (zB (atZ b).name) (by have:=ho.meth;omega) (by have:=ho.crc;omega) (by have:=ho.packed;omega) (by have:=ho.size;omega) (by rw [zB_size];omega) (by have:=ho.at_;omega)
      rw [L_zB] at hc
      have hc':g_zip_central k ((zfld b 10 2:Nat):Int) ((zfld b 16 4:Nat):Int) ((zfld b 20 4:Nat):Int) ((zfld b 24 4:Nat):Int) (zB (atZ b).name) ((zfld b 42 4:Nat):Int)=some (I (centralB (atZ b))):=hc
      rw [en,hc']
      simp only [Option.bind_some]
      rw [begins_eq]
      simp only [Option.bind_some]
      by_cases hp:centralB (atZ b) <+: b
      · rw [if_pos hp,show (!decide (centralB (atZ b) <+: b))=false from by rw [dt hp];rfl]
        simp only [bf]
        rw [dt (show _≤(140737488355328:Nat) by rw [hacc];simp;omega),dt (show (0:Int)≤_∧_∧_ by refine ⟨?_,?_,?_⟩ <;> omega)]
        simp only [bt]
        rw [wi (by omega) (by omega),show ((i:Int)+1)=((i+1:Nat):Int) by omega,Int.toNat_natCast,List.take_of_length_le (l:=I b) (by rw [I_length];omega),show Int.toNat (46+((zfld b 28 2:Nat):Int))=46+zfld b 28 2 by omega,I_drop]
        rcases ih (i+1) (b.drop (46+zfld b 28 2)) (acc++[mkE (atZ b)]) (by omega) (by omega) (by simp [hacc]) (by rw [List.length_drop];omega) with ⟨q1,x,q3⟩ | ⟨es,r,q1,q3⟩
        · rw [hq2] at q1
          exact .inl ⟨by rw [q1];rfl,x,q3⟩
        · rw [hq2] at q1
          refine .inr ⟨atZ b::es,r,by rw [q1];rfl,?_⟩
          refine q3.trans ?_
          rw [List.map_cons,List.append_assoc];rfl
      · rw [if_neg hp,show (!decide (centralB (atZ b) <+: b))=true from by rw [df hp];rfl]
        exact .inl ⟨rfl,_,rfl⟩
    · rw [df (show ¬ (i:Int)<(many:Int) by omega),show many - i=0 by omega]
      exact .inr ⟨[],b,rfl,by simp⟩
def dirS (b:List UInt8):Option (List Ent × Nat) :=
  if b.length<22 then none else
  if ¬ endB (zfld b (b.length - 22+8) 2) (zfld b (b.length - 22+12) 4) (zfld b (b.length - 22+16) 4) <+: b.drop (b.length - 22)∨zfld b (b.length - 22+8) 2 > 64∨zfld b (b.length - 22+16) 4+zfld b (b.length - 22+12) 4≠b.length - 22 then none else
  match prsZ (zfld b (b.length - 22+8) 2) ((b.drop (zfld b (b.length - 22+16) 4)).take (zfld b (b.length - 22+12) 4)) with
  | some (es,[])=>some (es,zfld b (b.length - 22+16) 4)
  | _=>none
theorem dirS_ok {b:List UInt8} {es:List Ent} {a:Nat} (h:dirS b=some (es,a)):∃ o,b=o++(dirZ es++endB es.length (dirZ es).length o.length)∧a=o.length∧(∀ e∈es,e.ok)∧es.length≤64:=by
  unfold dirS at h
  split at h
  · cases h
  rename_i h22
  split at h
  · cases h
  rename_i hc
  split at h
  · rename_i es' heq
    simp only [Option.some.injEq,Prod.mk.injEq] at h
    obtain ⟨rfl,rfl⟩:=h
    obtain ⟨a1,a2,a3⟩:=prsZ_ok _ _ _ _ heq
    have c1:endB (zfld b (b.length - 22+8) 2) (zfld b (b.length - 22+12) 4) (zfld b (b.length - 22+16) 4) <+: b.drop (b.length - 22):=Decidable.byContradiction fun h=>hc (.inl h)
    have c2:¬ zfld b (b.length - 22+8) 2 > 64:=fun h=>hc (.inr (.inl h))
    have c3:zfld b (b.length - 22+16) 4+zfld b (b.length - 22+12) 4=b.length - 22:=Decidable.byContradiction fun h=>hc (.inr (.inr h))
    have c4:endB (zfld b (b.length - 22+8) 2) (zfld b (b.length - 22+12) 4) (zfld b (b.length - 22+16) 4)=b.drop (b.length - 22):=c1.eq_of_length (by rw [end_len,List.length_drop];omega)
    have hdl:(dirZ es').length=zfld b (b.length - 22+12) 4:=by
      have:=congrArg List.length a2
      rw [List.append_nil,List.length_take,List.length_drop] at this
      omega
    have hol:(b.take (zfld b (b.length - 22+16) 4)).length=zfld b (b.length - 22+16) 4:=by rw [List.length_take];omega
    refine ⟨b.take (zfld b (b.length - 22+16) 4),?_,hol.symm,a3,by omega⟩
    rw [hol,hdl,a1,c4]
    rw [List.append_nil] at a2
    rw [← a2]
    generalize zfld b (b.length - 22+16) 4=x at c3 ⊢
    generalize zfld b (b.length - 22+12) 4=y at c3 ⊢
    rw [← c3,← List.drop_drop,List.take_append_drop,List.take_append_drop]
  · cases h
theorem directory_eq {k:Nat} (hk:300≤k) (b:List UInt8) (hb:b.length≤1048576):g_zip_directory k (I b)=some (match dirS b with | some (es,a)=>(es.map mkE,(a:Int),0) | none=>([],0,14)):=by
  unfold g_zip_directory dirS
  rw [I_length,df (show ¬ (1048576:Int)<((b.length:Nat):Int) by omega)]
  simp only [Option.bind_some,bf]
  by_cases h22:b.length<22
  · rw [dt (show ((b.length:Nat):Int)<22 by omega),if_pos h22];rfl
  rw [df (show ¬ ((b.length:Nat):Int)<22 by omega),if_neg h22]
  simp only [bf]
  have et:((b.length:Nat):Int) - 22=((b.length - 22:Nat):Int):=by omega
  rw [wi (n:=((b.length:Nat):Int) - 22) (by omega) (by omega),et,wi (n:=((b.length - 22:Nat):Int)+8) (by omega) (by omega),wi (n:=((b.length - 22:Nat):Int)+12) (by omega) (by omega),wi (n:=((b.length - 22:Nat):Int)+16) (by omega) (by omega)]
  rw [numL (k:=k) (b:=b) (x:=((b.length - 22:Nat):Int)+8) (y:=2) (by omega) (b.length - 22+8) 2 (by omega) rfl (by omega) (by omega) (by omega),numL (k:=k) (b:=b) (x:=((b.length - 22:Nat):Int)+12) (y:=4) (by omega) (b.length - 22+12) 4 (by omega) rfl (by omega) (by omega) (by omega),numL (k:=k) (b:=b) (x:=((b.length - 22:Nat):Int)+16) (y:=4) (by omega) (b.length - 22+16) 4 (by omega) rfl (by omega) (by omega) (by omega)]
  have z1:=zfld_lt b (b.length - 22+8) 2
  have z2:=zfld_lt b (b.length - 22+12) 4
  have z3:=zfld_lt b (b.length - 22+16) 4
  generalize zfld b (b.length - 22+8) 2=many at *
  generalize zfld b (b.length - 22+12) 4=size at *
  generalize zfld b (b.length - 22+16) 4=a at *
  simp only [Option.bind_some]
  rw [dt (show (0:Int)≤((b.length - 22:Nat):Int)∧((b.length - 22:Nat):Int)≤((b.length:Nat):Int)∧((b.length:Nat):Int)≤((b.length:Nat):Int) by omega),end_eq (by omega) _ _ _ (by omega) (by omega) (by omega)]
  simp only [bt,Option.bind_some]
  rw [Int.toNat_natCast,Int.toNat_natCast,List.take_of_length_le (l:=I b) (by rw [I_length];omega),I_drop,begins_eq]
  simp only [Option.bind_some]
  by_cases h1:endB many size a <+: b.drop (b.length - 22)
  · rw [dt h1]
    simp only [Bool.not_true,bf]
    by_cases h2:many > 64
    · rw [dt (show (64:Int)<(many:Int) by omega),if_pos (.inr (.inl h2))];rfl
    rw [df (show ¬ (64:Int)<(many:Int) by omega)]
    simp only [bf]
    rw [wi (by omega) (by omega)]
    by_cases h3:a+size=b.length - 22
    · rw [dt (show (a:Int)+(size:Int)=((b.length - 22:Nat):Int) by omega),if_neg (by rintro (h | h | h) <;> contradiction)]
      simp only [Bool.not_true,bf,Option.bind_some]
      rw [dt (show (0:Int)≤(a:Int)∧(a:Int)≤((b.length - 22:Nat):Int)∧((b.length - 22:Nat):Int)≤((b.length:Nat):Int) by omega)]
      simp only [bt,Option.bind_some,g_zip_entries,Int.toNat_natCast]
      have es:List.drop a (List.take (b.length - 22) (I b))=I ((b.drop a).take size):=by
        rw [I_take,I_drop,List.drop_take,show b.length - 22 - a=size by omega]
      rw [es]
      rcases entries_go k hk many (by omega) k 0 ((b.drop a).take size) [] (by omega) (by omega) rfl (by rw [List.length_take,List.length_drop];omega) with ⟨q1,x,q3⟩ | ⟨l,r,q1,q3⟩
      · rw [Nat.sub_zero] at q1
        rw [q1,show g_zip_directory_l0 k (many:Int) k 0 _ []=_ from q3]
        rfl
      · rw [Nat.sub_zero] at q1
        rw [q1,show g_zip_directory_l0 k (many:Int) k 0 _ []=_ from q3]
        simp only [Option.bind_some,List.nil_append]
        rw [I_length]
        cases r with
        | nil=>rfl
        | cons c r=>rw [df (show ¬ (((c::r).length:Nat):Int)=0 by simp;omega)];rfl
    · rw [df (show ¬ (a:Int)+(size:Int)=((b.length - 22:Nat):Int) by omega),if_pos (.inr (.inr h3))];rfl
  · rw [df h1,if_pos (.inl h1)];rfl
theorem rcrc1 (k:Nat):∀ (m i:Nat) (x:BitVec 32),i≤8→8 - i<m→g_quireref01_Crc_l1 k m (x.toNat:Int) (i:Int)=some ((crcIt (8 - i) x).toNat:Int)
  | 0,_,_,_,h=>by omega
  | m+1,i,x,hi,hm=>by
    rw [g_quireref01_Crc_l1.eq_2]
    by_cases h:i<8
    · rw [dt (show (i:Int)<8 by omega),show bits .and .u32 (x.toNat:Int) 1=bits .and .u32 (x.toNat:Int) ((1#32).toNat:Int) from rfl,show (3988292384:Int)=((3988292384#32).toNat:Int) from rfl]
      simp only [cond_true,Option.bind_some,u32_and,u32_shr,u32_xor]
      rw [wi (by omega) (by omega),show (i:Int)+1=((i+1:Nat):Int) from rfl]
      have key:(bif decide (((x &&& 1#32).toNat:Int)=1) then some (((x >>> (1:Int).toNat) ^^^ 3988292384#32).toNat:Int) else some ((x >>> (1:Int).toNat).toNat:Int))=some ((crcStep x).toNat:Int):=by
        rcases one_and x with ⟨h1,_⟩ | ⟨h1,_⟩
        · rw [step0 h1,h1];rfl
        · rw [step1 h1,h1];rfl
      rw [key]
      simp only [Option.bind_some]
      rw [rcrc1 k m (i+1) _ (by omega) (by omega),show 8 - i=(8 - (i+1))+1 by omega]
      rfl
    · rw [df (show ¬ (i:Int)<8 by omega),show 8 - i=0 by omega]
      rfl
theorem rcrc0 (k:Nat) (l:List Int) (hk:9≤k) (hl:l.length≤9223372036854775807):∀ (m i:Nat) (x:BitVec 32),i≤l.length→l.length - i<m→g_quireref01_Crc_l0 k l m (x.toNat:Int) (i:Int)=some ((crcRow (l.drop i) x).toNat:Int)
  | 0,_,_,_,h=>by omega
  | m+1,i,x,hi,hm=>by
    rw [g_quireref01_Crc_l0.eq_2]
    by_cases h:i<l.length
    · rw [dt (show (i:Int)<((l.length:Nat):Int) by omega),ix_nat h]
      simp only [cond_true,Option.bind_some,u32_wrapz,u32_xor]
      rw [show g_quireref01_Crc_l1 k k _ 0=_ from rcrc1 k k 0 _ (by omega) (by omega)]
      simp only [Option.bind_some]
      rw [wi (by omega) (by omega),show (i:Int)+1=((i+1:Nat):Int) from rfl,rcrc0 k l hk hl m (i+1) _ (by omega) (by omega),List.drop_eq_getElem_cons h]
      rfl
    · rw [df (show ¬ (i:Int)<((l.length:Nat):Int) by omega),List.drop_of_length_le (by omega)]
      rfl
theorem crc_ref {k:Nat} {d:List UInt8} (hk:9≤k) (h:d.length<k) (hl:d.length≤1099511627776):g_quireref05_Crc k (I d)=some ((crcN d:Nat):Int):=by
  have hcr:=crcN_lt d
  unfold g_quireref05_Crc g_quireref01_Crc
  rw [show g_quireref01_Crc_l0 k (I d) k 4294967295 0=_ from rcrc0 k (I d) hk (by rw [I_length];omega) k 0 4294967295#32 (by omega) (by rw [I_length];omega)]
  simp only [Option.bind_some,List.drop_zero]
  rw [show (if IntKind.signed .u32 then (-1:Int) else IntKind.max .u32)=((4294967295#32).toNat:Int) from rfl,u32_xor]
  rw [show (4294967295#32 ^^^ crcRow (I d) 4294967295#32).toNat=crcN d from rfl,wi (by omega) (by omega)]
theorem wrap8 (n:Nat):IntKind.wrap .u8 (n:Int)=((UInt8.ofNat n).toNat:Int):=by
  have:IntKind.wrap .u8 (n:Int)=(n:Int)%256:=by simp [IntKind.wrap,IntKind.bits,IntKind.signed]
  rw [this,UInt8.toNat_ofNat'];omega
theorem rnum_go (k:Nat) (v m:Nat) (hv:v<9223372036854775808) (hm:m≤8):∀ (n i:Nat),i≤m→m - i<n →
    g_quireref05_num_l0 k (v:Int) (m:Int) n (i:Int) (I ((zle m v).take i))=some (I (zle m v)):=by
  intro n
  induction n with
  | zero=>intro i _ h;omega
  | succ n ih =>
    intro i hi hn
    rw [g_quireref05_num_l0.eq_2]
    by_cases h:i<m
    · have hl:=zle_len m v
      rw [dt (show (i:Int)<(m:Int) by omega),bt,wi (n:=8*(i:Int)) (by omega) (by omega),wu64 (n:=8*(i:Int)) (by omega) (by omega),Option.bind_some,dt (show (0:Int)≤8*(i:Int) by omega),bt,show 8*(i:Int)=((8*i:Nat):Int) by omega,shr64n (by omega),wrap8,dt (show _≤(140737488355328:Nat) by rw [I_length,List.length_take];simp;omega),bt,wi (by omega) (by omega),show (i:Int)+1=((i+1:Nat):Int) by omega]
      have e:(zle m v).take (i+1)=(zle m v).take i++[UInt8.ofNat (v / 2^(8*i))]:=by
        have h2:=zle_step m v i h
        rw [List.drop_eq_getElem_cons (by omega)] at h2
        have h3:=(List.cons.inj h2).1
        rw [List.take_add_one,List.getElem?_eq_getElem (by omega),h3,show 256^i=2^(8*i) by rw [Nat.pow_mul]]
        rfl
      have:=ih (i+1) (by omega) (by omega)
      rw [e,I_append] at this
      exact this
    · rw [df (show ¬ (i:Int)<(m:Int) by omega),List.take_of_length_le (by rw [zle_len];omega)];rfl
theorem rnum {k:Nat} (hk:10≤k) {x y:Int} (v m:Nat) (hx:x=(v:Int)) (hy:y=(m:Int)) (hv:v<9223372036854775808) (hm:m≤8):g_quireref05_num k x y=some (I (zle m v)):=by
  subst hx hy
  unfold g_quireref05_num
  rw [show g_quireref05_num_l0 k (v:Int) (m:Int) k 0 []=_ from rnum_go k v m hv hm k 0 (by omega) (by omega)]
  rfl
theorem zlen {m v:Nat}:(I (zle m v)).length=m:=by rw [I_length,zle_len]
theorem common_eq {k:Nat} (hk:10≤k) (meth crc packed size a:Nat) (name:List UInt8) (h1:meth<9223372036854775808) (h2:crc<9223372036854775808) (h3:packed<9223372036854775808) (h4:size<9223372036854775808) (h5:name.length<9223372036854775808) :
    g_quireref05_common k meth crc packed size (zB name)=some (I (sumsB ⟨meth,crc,packed,size,name,a⟩)):=by
  unfold g_quireref05_common
  rw [rnum (x:=0) (y:=2) hk 0 2 rfl rfl (by omega) (by omega),Option.bind_some,rnum (x:=((meth:Nat):Int)) (y:=2) hk meth 2 rfl rfl h1 (by omega),Option.bind_some,dt (show _≤(140737488355328:Nat) by rw [zlen,zlen];omega),bt,Option.bind_some,dt (show _≤(140737488355328:Nat) by simp only [List.length_append,zlen];omega),bt]
  rw [rnum (x:=33) (y:=2) hk 33 2 rfl rfl (by omega) (by omega),Option.bind_some,dt (show _≤(140737488355328:Nat) by simp only [List.length_append,zlen];omega),bt]
  rw [rnum (x:=((crc:Nat):Int)) (y:=4) hk crc 4 rfl rfl h2 (by omega),Option.bind_some,dt (show _≤(140737488355328:Nat) by simp only [List.length_append,zlen];omega),bt]
  rw [rnum (x:=((packed:Nat):Int)) (y:=4) hk packed 4 rfl rfl h3 (by omega),Option.bind_some,dt (show _≤(140737488355328:Nat) by simp only [List.length_append,zlen];omega),bt]
  rw [rnum (x:=((size:Nat):Int)) (y:=4) hk size 4 rfl rfl h4 (by omega),Option.bind_some,dt (show _≤(140737488355328:Nat) by simp only [List.length_append,zlen];omega),bt]
  rw [zB_size,rnum (x:=((name.length:Nat):Int)) (y:=2) hk name.length 2 rfl rfl h5 (by omega),Option.bind_some,dt (show _≤(140737488355328:Nat) by simp only [List.length_append,zlen];omega),bt]
  simp only [List.append_assoc,← I_append,sumsB]
theorem sumsI_len (e:Ent):(I (sumsB e)).length=22:=by rw [I_length,sums_len]
theorem rlocal {k:Nat} (hk:10≤k) (meth crc packed size a:Nat) (name:List UInt8) (h1:meth<9223372036854775808) (h2:crc<9223372036854775808) (h3:packed<9223372036854775808) (h4:size<9223372036854775808) (h5:name.length<1073741824) :
    g_quireref05_Local k meth crc packed size (zB name)=some (I (localB ⟨meth,crc,packed,size,name,a⟩)):=by
  unfold g_quireref05_Local
  rw [rnum (x:=20) (y:=2) hk 20 2 rfl rfl (by omega) (by omega),Option.bind_some,dt (show _≤(140737488355328:Nat) by simp only [List.length_append,zlen,List.length_cons,List.length_nil];omega),bt]
  rw [common_eq hk meth crc packed size a name h1 h2 h3 h4 (by omega),Option.bind_some,dt (show _≤(140737488355328:Nat) by simp only [List.length_append,zlen,sumsI_len,List.length_cons,List.length_nil];omega),bt]
  rw [rnum (x:=0) (y:=2) hk 0 2 rfl rfl (by omega) (by omega),Option.bind_some,dt (show _≤(140737488355328:Nat) by simp only [List.length_append,zlen,sumsI_len,List.length_cons,List.length_nil];omega),bt]
  rw [zstrInts,dt (show _≤(140737488355328:Nat) by simp only [List.length_append,I_length,zle_len,sums_len,List.length_cons,List.length_nil];omega),bt]
  simp only [List.append_assoc,← I_append,localB]
  rw [I_append];rfl
theorem rcentral {k:Nat} (hk:10≤k) (meth crc packed size a:Nat) (name:List UInt8) (h1:meth<9223372036854775808) (h2:crc<9223372036854775808) (h3:packed<9223372036854775808) (h4:size<9223372036854775808) (h5:name.length<1073741824) (h6:a<9223372036854775808) :
    g_quireref05_Central k meth crc packed size (zB name) (a:Int)=some (I (centralB ⟨meth,crc,packed,size,name,a⟩)):=by
  unfold g_quireref05_Central
  rw [rnum (x:=20) (y:=2) hk 20 2 rfl rfl (by omega) (by omega),Option.bind_some,dt (show _≤(140737488355328:Nat) by simp only [List.length_append,zlen,List.length_cons,List.length_nil];omega),bt,Option.bind_some,dt (show _≤(140737488355328:Nat) by simp only [List.length_append,zlen,List.length_cons,List.length_nil];omega),bt]
  rw [common_eq hk meth crc packed size a name h1 h2 h3 h4 (by omega),Option.bind_some,dt (show _≤(140737488355328:Nat) by simp only [List.length_append,zlen,sumsI_len,List.length_cons,List.length_nil];omega),bt]
  rw [rnum (x:=0) (y:=8) hk 0 8 rfl rfl (by omega) (by omega),Option.bind_some,dt (show _≤(140737488355328:Nat) by simp only [List.length_append,zlen,sumsI_len,List.length_cons,List.length_nil];omega),bt]
  rw [rnum (x:=0) (y:=4) hk 0 4 rfl rfl (by omega) (by omega),Option.bind_some,dt (show _≤(140737488355328:Nat) by simp only [List.length_append,zlen,sumsI_len,List.length_cons,List.length_nil];omega),bt]
  rw [rnum (x:=((a:Nat):Int)) (y:=4) hk a 4 rfl rfl h6 (by omega),Option.bind_some,dt (show _≤(140737488355328:Nat) by simp only [List.length_append,zlen,sumsI_len,List.length_cons,List.length_nil];omega),bt]
  rw [zstrInts,dt (show _≤(140737488355328:Nat) by simp only [List.length_append,I_length,zle_len,sums_len,List.length_cons,List.length_nil];omega),bt]
  simp only [List.append_assoc,← I_append,centralB,show zle 8 0=zle 2 0++(zle 2 0++(zle 2 0++zle 2 0)) from rfl]
  rw [I_append];rfl
theorem rend {k:Nat} (hk:10≤k) (many size a:Nat) (h1:many<9223372036854775808) (h2:size<9223372036854775808) (h3:a<9223372036854775808) :
    g_quireref05_End k many size a=some (I (endB many size a)):=by
  unfold g_quireref05_End
  rw [rnum (x:=0) (y:=4) hk 0 4 rfl rfl (by omega) (by omega),Option.bind_some,dt (show _≤(140737488355328:Nat) by simp only [List.length_append,zlen,List.length_cons,List.length_nil];omega),bt]
  rw [rnum (x:=((many:Nat):Int)) (y:=2) hk many 2 rfl rfl h1 (by omega),Option.bind_some,dt (show _≤(140737488355328:Nat) by simp only [List.length_append,zlen,List.length_cons,List.length_nil];omega),bt,Option.bind_some,dt (show _≤(140737488355328:Nat) by simp only [List.length_append,zlen,List.length_cons,List.length_nil];omega),bt]
  rw [rnum (x:=((size:Nat):Int)) (y:=4) hk size 4 rfl rfl h2 (by omega),Option.bind_some,dt (show _≤(140737488355328:Nat) by simp only [List.length_append,zlen,List.length_cons,List.length_nil];omega),bt]
  rw [rnum (x:=((a:Nat):Int)) (y:=4) hk a 4 rfl rfl h3 (by omega),Option.bind_some,dt (show _≤(140737488355328:Nat) by simp only [List.length_append,zlen,List.length_cons,List.length_nil];omega),bt]
  rw [rnum (x:=0) (y:=2) hk 0 2 rfl rfl (by omega) (by omega),Option.bind_some,dt (show _≤(140737488355328:Nat) by simp only [List.length_append,zlen,List.length_cons,List.length_nil];omega),bt]
  simp only [List.append_assoc,← I_append,endB,show zle 4 0=zle 2 0++zle 2 0 from rfl]
  rw [I_append];rfl
def lowU (c:UInt8):UInt8:=UInt8.ofNat (lowN c.toNat)
theorem lowN_lt {n:Nat} (h:n<256):lowN n<256:=by unfold lowN;split <;> omega
theorem lowU_nat (c:UInt8):(lowU c).toNat=lowN c.toNat:=by
  have:=lowN_lt c.toNat_lt
  unfold lowU;rw [UInt8.toNat_ofNat'];omega
theorem low_go (k:Nat) (a:List UInt8) (ha:a.length≤255):∀ (n i:Nat),i≤a.length→a.length - i<n →
    g_quireref05_low_l0 k (zB a) n (i:Int) (I ((a.take i).map lowU))=some (I (a.map lowU)):=by
  intro n
  induction n with
  | zero=>intro i _ h;omega
  | succ n ih =>
    intro i hi hn
    rw [g_quireref05_low_l0.eq_2,zB_size]
    by_cases h:i<a.length
    · rw [dt (show (i:Int)<((a.length:Nat):Int) by omega),Option.bind_some,bt,zstrInts,ixI h,Option.bind_some]
      have hc:=a[i].toNat_lt
      have key:(((((bif (decide (65≤(a[i].toNat:Int))) then some (decide ((a[i].toNat:Int)≤90)) else some false):Option Bool).bind fun x15012=>(bif x15012 then some (IntKind.wrap .u8 ((a[i].toNat:Int)+32)) else some (a[i].toNat:Int))):Option Int))=some ((lowU a[i]).toNat:Int):=by
        rw [lowU_nat]
        by_cases h1:65≤a[i].toNat
        · rw [dt (show (65:Int)≤(a[i].toNat:Int) by omega)]
          by_cases h2:a[i].toNat≤90
          · rw [dt (show (a[i].toNat:Int)≤90 by omega),wu8 (by omega) (by omega),lowN,if_pos ⟨h1,h2⟩];rfl
          · rw [df (show ¬ (a[i].toNat:Int)≤90 by omega),lowN,if_neg (by omega)];rfl
        · rw [df (show ¬ (65:Int)≤(a[i].toNat:Int) by omega),lowN,if_neg (by omega)];rfl
      rw [key,Option.bind_some,dt (show _≤(140737488355328:Nat) by rw [I_length,List.length_map,List.length_take];simp;omega),bt,wi (by omega) (by omega),show (i:Int)+1=((i+1:Nat):Int) by omega]
      have:=ih (i+1) (by omega) (by omega)
      rw [List.take_add_one,List.getElem?_eq_getElem h,Option.toList_some,List.map_append,I_append] at this
      exact this
    · rw [df (show ¬ (i:Int)<((a.length:Nat):Int) by omega),List.take_of_length_le (by omega)];rfl
theorem low_eq {k:Nat} (hk:300≤k) {a:List UInt8} (ha:a.length≤255):g_quireref05_low k (zB a)=some (zB (a.map lowU)):=by
  unfold g_quireref05_low
  rw [show g_quireref05_low_l0 k (zB a) k 0 []=_ from low_go k a ha k 0 (by omega) (by omega),Option.bind_some,zstrOf]
theorem rlike {k:Nat} (hk:300≤k) {a b:List UInt8} (ha:a.length≤255) (hb:b.length≤255):g_quireref05_Like k (zB a) (zB b)=some (likeZ a b):=by
  unfold g_quireref05_Like
  rw [low_eq hk ha,low_eq hk hb,Option.bind_some,Option.bind_some,L_toList,L_toList,L_zB,L_zB]
  congr 1
  unfold likeZ
  rw [Bool.eq_iff_iff,beq_iff_eq,decide_eq_true_iff]
  constructor
  · intro h
    have:=congrArg (List.map UInt8.toNat) h
    rw [List.map_map,List.map_map] at this
    simpa only [Function.comp_def,lowU_nat] using this
  · intro h
    have:=congrArg (List.map UInt8.ofNat) h
    rw [List.map_map,List.map_map] at this
    exact this
theorem read1 (k:Nat) (hk:300≤k) (es:List Ent) (hl:es.length≤64) (i:Nat) (hi:i≤es.length) (hok:∀ f∈es.take i,okName f.name=true) (e:Ent) (he:okName e.name=true):∀ (n j:Nat),j≤i→i - j<n →
    g_zip_Read_l1 k (es.map mkE) (i:Int) (mkE e) (i:Int) n (j:Int)=some (if (((es.take i).drop j).map (·.name)).any (likeZ e.name) then Sum.inl () else Sum.inr ()):=by
  intro n
  induction n with
  | zero=>intro j _ h;omega
  | succ n ih =>
    intro j hj hn
    rw [g_zip_Read_l1.eq_2,Int.toNat_natCast,show Int.toNat 0=0 from rfl,List.drop_zero,← List.map_take]
    have htl:(es.take i).length=i:=by rw [List.length_take];omega
    by_cases h:j<i
    · have hj2:j<(es.take i).length:=by omega
      rw [dt (show (j:Int)<(i:Int) by omega),ixM hj2,List.drop_eq_getElem_cons hj2,List.map_cons,List.any_cons]
      simp only [bt,Option.bind_some]
      have hg:okName (es.take i)[j].name=true:=hok _ (List.getElem_mem hj2)
      rw [show (mkE e).fname=zB e.name from rfl,show (mkE (es.take i)[j]).fname=zB (es.take i)[j].name from rfl,fold_eq (okName_asc he).1 (okName_asc hg).1 (okName_asc he).2 (okName_asc hg).2 hk]
      simp only [Option.bind_some]
      cases hc:likeZ e.name (es.take i)[j].name with
      | true=>rfl
      | false =>
        simp only [bf,Bool.false_or]
        rw [wi (by omega) (by omega),show ((j:Int)+1)=((j+1:Nat):Int) by omega,ih (j+1) (by omega) (by omega)]
    · rw [df (show ¬ (j:Int)<(i:Int) by omega),List.drop_of_length_le (l:=es.take i) (by omega)];rfl
def unY (l:List Int):List UInt8:=l.map fun n=>UInt8.ofNat n.toNat
theorem I_unY:∀ {l:List Int},(∀ y∈l,0≤y∧y≤255)→I (unY l)=l
  | [],_=>rfl
  | x::l,h=>by
    have hx:=h x (List.mem_cons_self ..)
    have:=I_unY (l:=l) fun y hy=>h y (List.mem_cons_of_mem _ hy)
    unfold unY I at *
    rw [List.map_cons,List.map_cons,this,UInt8.toNat_ofNat']
    congr 1
    omega
theorem I_okB (d:List UInt8):okB (I d):=fun x hx=>by
  unfold I at hx
  obtain ⟨c,_,rfl⟩:=List.mem_map.1 hx
  have:=c.toNat_lt
  omega
def infY (k:Nat) (d:List UInt8) (size:Nat):Option (List UInt8 × Int) :=
  (g_quireref03_Inflate k (I d) (size:Int)).bind fun y=>some (if y.2.2=3 then ([],12) else if y.2.2≠0 then ([],y.2.2) else if y.2.1≠(d.length:Int)∨y.1.length≠size then ([],12) else (unY y.1,0))
def unpY (inf:List UInt8→Nat→Option (List UInt8 × Int)) (e:Ent) (d:List UInt8):Option (List UInt8 × Int) :=
  if e.meth=0∧e.packed≠e.size then some ([],14) else
  (if e.meth=8 then inf d e.size else some (d,0)).bind fun x =>
    if x.2≠0 then some ([],x.2) else if crcN x.1≠e.crc then some ([],13) else some (x.1,0)
def rdY (inf:List UInt8→Nat→Option (List UInt8 × Int)) (b:List UInt8) (dir:Nat) :
    List Ent→List (List UInt8)→Nat→Nat→List Zf→Option (Int ⊕ (Nat × List Zf))
  | [],_,_,a,acc=>some (.inr (a,acc))
  | e::l,seen,most,a,acc =>
    if okName e.name=false then some (.inl 42) else
    if seen.any (likeZ e.name)=true then some (.inl 43) else
    if (e.meth≠0∧e.meth≠8)∨e.at_≠a∨¬ localB e <+: b.drop a then some (.inl 14) else
    if e.size > min 262144 most then some (.inl 3) else
    if a+(30+e.name.length)+e.packed > dir then some (.inl 14) else
    (unpY inf e ((b.drop (a+(30+e.name.length))).take e.packed)).bind fun x =>
      if x.2≠0 then some (.inl x.2) else rdY inf b dir l (seen++[e.name]) (most - e.size) (a+(30+e.name.length+e.packed)) (acc++[(e.name,x.1)])
section
variable {inf:List UInt8→Nat→Option (List UInt8 × Int)} {b:List UInt8} {dir:Nat} {e:Ent} {l:List Ent} {seen:List (List UInt8)} {most a:Nat} {acc:List Zf}
theorem rdY_name (h:okName e.name=false):rdY inf b dir (e::l) seen most a acc=some (.inl 42):=by rw [rdY,if_pos h]
theorem rdY_seen (h:okName e.name=true) (h1:seen.any (likeZ e.name)=true):rdY inf b dir (e::l) seen most a acc=some (.inl 43):=by rw [rdY,if_neg (by rw [h];decide),if_pos h1]
theorem rdY_bad (h:okName e.name=true) (h1:seen.any (likeZ e.name)=false) (h2:(e.meth≠0∧e.meth≠8)∨e.at_≠a∨¬ localB e <+: b.drop a):rdY inf b dir (e::l) seen most a acc=some (.inl 14):=by rw [rdY,if_neg (by rw [h];decide),if_neg (by rw [h1];decide),if_pos h2]
theorem rdY_big (h:okName e.name=true) (h1:seen.any (likeZ e.name)=false) (h2:¬ ((e.meth≠0∧e.meth≠8)∨e.at_≠a∨¬ localB e <+: b.drop a)) (h3:e.size > min 262144 most):rdY inf b dir (e::l) seen most a acc=some (.inl 3):=by rw [rdY,if_neg (by rw [h];decide),if_neg (by rw [h1];decide),if_neg h2,if_pos h3]
theorem rdY_far (h:okName e.name=true) (h1:seen.any (likeZ e.name)=false) (h2:¬ ((e.meth≠0∧e.meth≠8)∨e.at_≠a∨¬ localB e <+: b.drop a)) (h3:¬ e.size > min 262144 most) (h4:a+(30+e.name.length)+e.packed > dir):rdY inf b dir (e::l) seen most a acc=some (.inl 14):=by rw [rdY,if_neg (by rw [h];decide),if_neg (by rw [h1];decide),if_neg h2,if_neg h3,if_pos h4]
theorem rdY_step (h:okName e.name=true) (h1:seen.any (likeZ e.name)=false) (h2:¬ ((e.meth≠0∧e.meth≠8)∨e.at_≠a∨¬ localB e <+: b.drop a)) (h3:¬ e.size > min 262144 most) (h4:¬ a+(30+e.name.length)+e.packed > dir):rdY inf b dir (e::l) seen most a acc=(unpY inf e ((b.drop (a+(30+e.name.length))).take e.packed)).bind fun x =>
      if x.2≠0 then some (.inl x.2) else rdY inf b dir l (seen++[e.name]) (most - e.size) (a+(30+e.name.length+e.packed)) (acc++[(e.name,x.1)]):=by rw [rdY,if_neg (by rw [h];decide),if_neg (by rw [h1];decide),if_neg h2,if_neg h3,if_neg h4]
end
theorem infY_cases {k:Nat} (hk:20000000≤k) {d:List UInt8} (hd:d.length≤1048576) {size:Nat} (hs:size≤1048576) :
    (∃ (e x:Int) (o:List Int),e≠0∧g_inflate_Inflate k (I d) (size:Int)=some ([],0,e)∧g_quireref03_Inflate k (I d) (size:Int)=some (o,x,e)∧infY k d size=some ([],if e=3 then 12 else e)) ∨
    ∃ (y:List UInt8) (u:Nat),y.length≤size∧g_inflate_Inflate k (I d) (size:Int)=some (I y,(u:Int),0)∧g_quireref03_Inflate k (I d) (size:Int)=some (I y,(u:Int),0)∧infY k d size=some (if u≠d.length∨y.length≠size then ([],12) else (y,0)):=by
  unfold infY
  rcases inflate_bk (k:=k) hk (I_okB d) (by rw [I_length];exact hd) (most:=(size:Int)) (by omega) (by omega) with ⟨e,x,o,he,h1,h2⟩ | ⟨o,u,hl,ho,h1,h2⟩
  · left
    refine ⟨e,x,o,he,h1,h2,?_⟩
    rw [h2,Option.bind_some]
    dsimp only
    by_cases h3:e=3
    · rw [if_pos h3,if_pos h3]
    · rw [if_neg h3,if_pos he,if_neg h3]
  · right
    obtain ⟨y,rfl⟩:∃ y:List UInt8,o=I y:=⟨unY o,(I_unY ho).symm⟩
    rw [I_length] at hl
    refine ⟨y,u,by omega,h1,h2,?_⟩
    have hy:unY (I y)=y:=by
      unfold unY I
      rw [List.map_map]
      conv=>rhs;rw [← List.map_id y]
      refine List.map_congr_left fun c _=>?_
      show UInt8.ofNat ((c.toNat:Int)).toNat=c
      rw [Int.toNat_natCast,UInt8.ofNat_toNat]
    rw [h2,Option.bind_some]
    dsimp only
    rw [if_neg (by decide),if_neg (by decide),hy,I_length]
    by_cases hc:u≠d.length∨y.length≠size
    · rw [if_pos hc,if_pos (hc.imp (fun h=>by omega) id)]
    · rw [if_neg hc,if_neg (fun h=>hc (h.imp (fun h=>by omega) id))]
theorem unp_eq {k:Nat} (hk:20000000≤k) (e:Ent) (he:e.ok) (nm:ByteArray) (d:List UInt8) (hd:d.length≤1048576) (hsz:e.size≤262144) :
    g_zip_entry_unpacked k (e.meth:Int) (e.crc:Int) (e.packed:Int) (e.size:Int) nm (e.at_:Int) (I d)=(unpY (infY k) e d).map fun x=>(I x.1,x.2):=by
  unfold g_zip_entry_unpacked unpY
  rw [zstrOf,zB_size,zstrInts,dt (show d.length≤140737488355328 by omega),bt]
  by_cases h0:e.meth=0∧e.packed≠e.size
  · rw [if_pos h0,dt (show (e.meth:Int)=0 by omega),df (show ¬ (e.packed:Int)=(e.size:Int) by omega)];rfl
  rw [if_neg h0]
  have e1:((bif (decide ((e.meth:Int)=0)) then some (!decide ((e.packed:Int)=(e.size:Int))) else some false):Option Bool)=some false:=by
    by_cases hm:e.meth=0
    · have:e.packed=e.size:=Decidable.byContradiction fun h=>h0 ⟨hm,h⟩
      rw [dt (show (e.meth:Int)=0 by omega),dt (show (e.packed:Int)=(e.size:Int) by omega)];rfl
    · rw [df (show ¬ (e.meth:Int)=0 by omega)];rfl
  rw [e1,Option.bind_some,bf]
  -- the check sum,at the end
  have fin:∀ y:List UInt8,y.length≤1048576→((g_bits_Crc k (I y)).bind fun x10371=>((some (!decide ((IntKind.wrap .i64 x10371)=(e.crc:Int)))).bind fun x10372=>(bif x10372 then some (([]:List Int),(13:Int)) else some (I y,0))))=(if crcN y≠e.crc then some (([]:List UInt8),(13:Int)) else some (y,0)).map fun x=>(I x.1,x.2):=by
    intro y hy
    have hcr:=crcN_lt y
    rw [crc_prog (by omega) (by omega) (by omega),Option.bind_some,wi (by omega) (by omega)]
    by_cases hc:crcN y=e.crc
    · rw [dt (show ((crcN y:Nat):Int)=(e.crc:Int) by omega),if_neg (by simpa using hc)];rfl
    · rw [df (show ¬ ((crcN y:Nat):Int)=(e.crc:Int) by omega),if_pos hc];rfl
  by_cases h8:e.meth=8
  · rw [if_pos h8,dt (show (e.meth:Int)=8 by omega),bt]
    rcases infY_cases hk hd (show e.size≤1048576 by omega) with ⟨c,x,o,hc,h1,_,h3⟩ | ⟨y,u,hy,h1,_,h3⟩
    · rw [h1,h3]
      repeat rw [Option.bind_some]
      dsimp only
      by_cases h4:c=3
      · rw [dt h4,if_pos h4,if_pos (by decide)];rfl
      · rw [df h4,if_neg h4,if_pos hc,df hc];rfl
    · by_cases hcnd:u≠d.length∨y.length≠e.size
      · rw [if_pos hcnd] at h3
        rw [h1,h3]
        repeat rw [Option.bind_some]
        dsimp only
        rw [show decide ((0:Int)=3)=false from rfl,show (!decide ((0:Int)=0))=false from rfl,bf,bf,I_length,I_length,if_pos (show (12:Int)≠0 by decide)]
        by_cases hu:u=d.length
        · rw [dt (show (u:Int)=(d.length:Int) by omega),df (show ¬ (y.length:Int)=(e.size:Int) by omega)];rfl
        · rw [df (show ¬ (u:Int)=(d.length:Int) by omega)];rfl
      · rw [if_neg hcnd] at h3
        rw [h1,h3]
        repeat rw [Option.bind_some]
        dsimp only
        rw [show decide ((0:Int)=3)=false from rfl,show (!decide ((0:Int)=0))=false from rfl,bf,bf,I_length,I_length,dt (show (u:Int)=(d.length:Int) by omega),dt (show (y.length:Int)=(e.size:Int) by omega),if_neg (show ¬ (0:Int)≠0 by decide)]
        exact fin y (by omega)
  rw [if_neg h8,df (show ¬ (e.meth:Int)=8 by omega),bf,Option.bind_some,Option.bind_some]
  dsimp only
  rw [if_neg (by decide)]
  exact fin d hd
def resR:Int ⊕ (Nat × List Zf)→Int ⊕ (Int × List S_api_File)
  | .inl e=>.inl e
  | .inr (a,acc)=>.inr ((a:Int),acc.map mkF)
theorem read_bad {k:Nat} (hk:300≤k) (b:List UInt8) (e:Ent) (a:Nat) (o1:e.meth<65536) (o2:e.crc<4294967296) (o3:e.packed<4294967296) (o4:e.size<4294967296) (o5:e.name.length<65536) (hab:a≤b.length) :
    ((bif (!decide ((mkE e).fmethod=0)) then (bif (!decide ((mkE e).fmethod=8)) then some true else (bif (!decide ((mkE e).fat=(a:Int))) then some true else (bif (decide (0≤((a:Int):Int)∧((a:Int):Int)≤((List.length (I b):Nat):Int)∧((List.length (I b):Nat):Int)≤((List.length (I b):Nat):Int))) then ((g_zip_local k (mkE e).fmethod (mkE e).fcrc (mkE e).fpacked (mkE e).fsize (zB e.name) (mkE e).fat).bind fun x10327=>((g_zip_begins k (List.drop (Int.toNat (a:Int)) (List.take (Int.toNat ((List.length (I b):Nat):Int)) (I b))) x10327).bind fun x10329=>some (!x10329))) else none))) else (bif (!decide ((mkE e).fat=(a:Int))) then some true else (bif (decide (0≤((a:Int):Int)∧((a:Int):Int)≤((List.length (I b):Nat):Int)∧((List.length (I b):Nat):Int)≤((List.length (I b):Nat):Int))) then ((g_zip_local k (mkE e).fmethod (mkE e).fcrc (mkE e).fpacked (mkE e).fsize (zB e.name) (mkE e).fat).bind fun x10333=>((g_zip_begins k (List.drop (Int.toNat (a:Int)) (List.take (Int.toNat ((List.length (I b):Nat):Int)) (I b))) x10333).bind fun x10335=>some (!x10335))) else none))):Option Bool)=some (decide ((e.meth≠0∧e.meth≠8)∨e.at_≠a∨¬ localB e <+: b.drop a)):=by
  have hlo:=local_eq (k:=k) (by omega) e.meth e.crc e.packed e.size e.at_ (zB e.name) (e.at_:Int) (by omega) (by omega) (by omega) (by omega) (by rw [zB_size];omega)
  rw [L_zB] at hlo
  have hlo':g_zip_local k (mkE e).fmethod (mkE e).fcrc (mkE e).fpacked (mkE e).fsize (zB e.name) (mkE e).fat=some (I (localB e)):=hlo
  rw [hlo',I_length,dt (show (0:Int)≤(a:Int)∧(a:Int)≤((b.length:Nat):Int)∧((b.length:Nat):Int)≤((b.length:Nat):Int) by omega),Int.toNat_natCast,Int.toNat_natCast,List.take_of_length_le (l:=I b) (by rw [I_length];omega),I_drop]
  simp only [Option.bind_some,begins_eq,bt]
  rw [show (mkE e).fmethod=(e.meth:Int) from rfl,show (mkE e).fat=(e.at_:Int) from rfl]
  by_cases m0:e.meth=0 <;> by_cases m8:e.meth=8 <;> by_cases ma:e.at_=a <;> by_cases mp:localB e <+: b.drop a
  all_goals (first | (exfalso;omega) | skip)
  all_goals simp only [m0,m8,ma,mp,decide_true,decide_false,Bool.not_true,Bool.not_false,bt,bf,ne_eq,not_true_eq_false,not_false_eq_true,false_and,and_false,true_and,false_or,true_or,or_true,or_false,or_self,and_self,show ((0:Nat):Int)=0 from rfl,show ((8:Nat):Int)=8 from rfl,Int.natCast_eq_zero,Int.ofNat_inj,show decide ((8:Int)=0)=false from rfl,show (8:Nat)=0↔False from by decide]
  all_goals (try (rw [show decide ((e.meth:Int)=8)=false from df (by omega)];simp))
  all_goals (try simp_all)
theorem read_go (k:Nat) (hk:20000000≤k) (b:List UInt8) (hb:b.length≤1048576) (dir:Nat) (hdir:dir≤b.length) (es:List Ent) (hl:es.length≤64) (heo:∀ e∈es,e.ok):∀ (n i:Nat) (most a:Nat) (acc:List Zf),i≤es.length→es.length - i<n→most≤9223372036854775807→a≤dir→acc.length≤i→(∀ f∈es.take i,okName f.name=true) →
    g_zip_Read_l0 k (I b) (es.map mkE) (dir:Int) n (most:Int) (a:Int) (i:Int) (acc.map mkF)=(rdY (infY k) b dir (es.drop i) ((es.take i).map (·.name)) most a acc).map resR:=by
  intro n
  induction n with
  | zero=>intro i most a acc _ h;omega
  | succ n ih =>
    intro i most a acc hi hn hmost ha hacc hnm
    rw [g_zip_Read_l0.eq_2,List.length_map]
    by_cases h:i<es.length
    · rw [List.drop_eq_getElem_cons h,dt (show (i:Int)<((es.length:Nat):Int) by omega),ixM h]
      have heok:=heo es[i] (List.getElem_mem h)
      generalize hE:es[i]=e at heok ⊢
      have o1:=heok.meth
      have o2:=heok.crc
      have o3:=heok.packed
      have o4:=heok.size
      have o5:=heok.name
      have o6:=heok.at_
      rw [Option.bind_some,bt,Option.bind_some]
      rw [show (mkE e).fname=zB e.name from rfl,right_eq k _ (by omega),L_zB]
      rw [Option.bind_some]
      cases hr:okName e.name with
      | false=>rw [rdY_name hr];rfl
      | true =>
        rw [Bool.not_true,bf]
        rw [dt (show (0:Int)≤0∧(0:Int)≤(i:Int)∧(i:Int)≤((es.length:Nat):Int) by omega)]
        rw [bt,Option.bind_some]
        have e1:((List.drop (Int.toNat 0) (List.take (Int.toNat (i:Int)) (es.map mkE))).length:Nat)=i:=by
          rw [Int.toNat_natCast,show Int.toNat 0=0 from rfl,List.drop_zero,List.length_take,List.length_map];omega
        rw [e1,show g_zip_Read_l1 k (es.map mkE) (i:Int) (mkE e) (i:Int) k 0=_ from read1 k (by omega) es hl i hi hnm e hr k 0 (by omega) (by omega),List.drop_zero]
        rw [Option.bind_some]
        cases hany:((es.take i).map (·.name)).any (likeZ e.name) with
        | true=>rw [rdY_seen hr hany];rfl
        | false =>
          rw [if_neg (show ¬ (false=true) by decide)]
          dsimp only
          have ebig:=read_bad (k:=k) (by omega) b e a o1 o2 o3 o4 o5 (by omega)
          rw [ebig]
          rw [Option.bind_some]
          by_cases hc:(e.meth≠0∧e.meth≠8)∨e.at_≠a∨¬ localB e <+: b.drop a
          · rw [dt hc,rdY_bad hr hany hc];rfl
          rw [df hc]
          rw [bf,Option.bind_some]
          rw [show (mkE e).fsize=(e.size:Int) from rfl,show (mkE e).fpacked=(e.packed:Int) from rfl,zB_size]
          have em:(if (most:Int)<262144 then (most:Int) else 262144)=((min 262144 most:Nat):Int):=by split <;> omega
          rw [em]
          by_cases hs:e.size > min 262144 most
          · rw [dt (show ((min 262144 most:Nat):Int)<(e.size:Int) by omega),rdY_big hr hany hc hs];rfl
          rw [df (show ¬ ((min 262144 most:Nat):Int)<(e.size:Int) by omega)]
          rw [bf,Option.bind_some,Option.bind_some]
          rw [wi (n:=30+((e.name.length:Nat):Int)) (by omega) (by omega),wi (n:=(a:Int)+(30+((e.name.length:Nat):Int))) (by omega) (by omega),wi (n:=(dir:Int) - ((a:Int)+(30+((e.name.length:Nat):Int)))) (by omega) (by omega)]
          by_cases hp:a+(30+e.name.length)+e.packed > dir
          · rw [dt (show (dir:Int) - ((a:Int)+(30+((e.name.length:Nat):Int)))<(e.packed:Int) by omega),rdY_far hr hany hc hs hp];rfl
          rw [df (show ¬ (dir:Int) - ((a:Int)+(30+((e.name.length:Nat):Int)))<(e.packed:Int) by omega),rdY_step hr hany hc hs hp]
          rw [Option.bind_some,bf,Option.bind_some]
          rw [wi (n:=(a:Int)+(30+((e.name.length:Nat):Int))+(e.packed:Int)) (by omega) (by omega),I_length,dt (show (0:Int)≤(a:Int)+(30+((e.name.length:Nat):Int))∧(a:Int)+(30+((e.name.length:Nat):Int))≤(a:Int)+(30+((e.name.length:Nat):Int))+(e.packed:Int)∧(a:Int)+(30+((e.name.length:Nat):Int))+(e.packed:Int)≤((b.length:Nat):Int) by omega)]
          rw [bt]
          rw [show Int.toNat ((a:Int)+(30+((e.name.length:Nat):Int)))=a+(30+e.name.length) by omega,show Int.toNat ((a:Int)+(30+((e.name.length:Nat):Int))+(e.packed:Int))=a+(30+e.name.length)+e.packed by omega,I_take,I_drop,List.drop_take,Nat.add_sub_cancel_left]
          have hu:=unp_eq hk e heok (zB e.name) ((b.drop (a+(30+e.name.length))).take e.packed) (by rw [List.length_take,List.length_drop];omega) (by omega)
          rw [show g_zip_entry_unpacked k (mkE e).fmethod (mkE e).fcrc (e.packed:Int) (e.size:Int) (zB e.name) (mkE e).fat _=_ from hu]
          cases hq:unpY (infY k) e ((b.drop (a+(30+e.name.length))).take e.packed) with
          | none=>rfl
          | some x =>
            rw [Option.map_some,Option.bind_some,Option.bind_some]
            dsimp only
            rw [Option.bind_some]
            by_cases hx:x.2=0
            · rw [dt hx,if_neg (show ¬ x.2≠0 from fun h=>h hx)]
              rw [Bool.not_true,bf]
              rw [dt (show _≤(140737488355328:Nat) by rw [List.length_map];simp;omega)]
              rw [bt]
              have ha2:(a:Int)+(30+((e.name.length:Nat):Int))+(e.packed:Int)=((a+(30+e.name.length+e.packed):Nat):Int):=by omega
              rw [wi (n:=(most:Int) - (e.size:Int)) (by omega) (by omega),wi (n:=(i:Int)+1) (by omega) (by omega),ha2,show (most:Int) - (e.size:Int)=((most - e.size:Nat):Int) by omega,show (i:Int)+1=((i+1:Nat):Int) by omega]
              have hacc2:acc.map mkF++([(⟨zB e.name,I x.1⟩:S_api_File)]:List S_api_File)=(acc++[(e.name,x.1)]).map mkF:=by rw [List.map_append];rfl
              have htake:es.take (i+1)=es.take i++[e]:=by rw [List.take_add_one,List.getElem?_eq_getElem h,hE];rfl
              rw [hacc2,ih (i+1) (most - e.size) (a+(30+e.name.length+e.packed)) (acc++[(e.name,x.1)]) (by omega) (by omega) (by omega) (by omega) (by simp;omega) (fun f hf=>by
                rw [htake] at hf
                rcases List.mem_append.1 hf with hf | hf
                · exact hnm f hf
                · rw [List.mem_singleton.1 hf];exact hr)]
              rw [htake,List.map_append]
              rfl
            · rw [df hx,if_pos hx];rfl
    · rw [df (show ¬ (i:Int)<((es.length:Nat):Int) by omega),List.drop_of_length_le (l:=es) (by omega)]
      rfl
theorem zlv_snoc:∀ (l:List UInt8) (c:UInt8),zlv (l++[c])=zlv l+256^l.length*c.toNat
  | [],c=>by simp [zlv]
  | x::l,c=>by
    rw [List.cons_append,zlv,zlv_snoc l c,zlv,List.length_cons,Nat.pow_succ]
    rw [Nat.mul_add,← Nat.mul_assoc,Nat.mul_comm 256 (256^l.length)]
    omega
theorem rbyte {v i:Nat} {c:UInt8} (hi:i≤3) (hv:v<256^i):bits .or .i64 (v:Int) (shlI .i64 (IntKind.wrap .i64 (c.toNat:Int)) ((8*i:Nat):Int))=((v+256^i*c.toNat:Nat):Int):=by
  have hc:=c.toNat_lt
  have h8:(256:Nat)^i=2^(8*i):=by rw [Nat.pow_mul]
  have hp:(256:Nat)^i≤256^3:=Nat.pow_le_pow_right (by omega) hi
  have hm:256^i*c.toNat≤256^i*255:=Nat.mul_le_mul_left _ (by omega)
  have e:shlI .i64 (c.toNat:Int) ((8*i:Nat):Int)=((256^i*c.toNat:Nat):Int):=by
    unfold shlI
    rw [Int.toNat_natCast,show min (8*i) (IntKind.bits .i64)=8*i from Nat.min_eq_left (by show 8*i≤64;omega),show ((2:Int)^(8*i))=((256^i:Nat):Int) by rw [h8];norm_cast]
    rw [show (c.toNat:Int)*((256^i:Nat):Int)=((256^i*c.toNat:Nat):Int) by rw [Nat.mul_comm];norm_cast,wi (by omega) (by omega)]
  rw [wi (by omega) (by omega),e,zor64 (by omega) (by omega)]
  congr 1
  have:=Nat.two_pow_add_eq_or_of_lt (i:=8*i) (b:=v) (by rw [← h8];exact hv) c.toNat
  rw [← h8] at this
  rw [Nat.add_comm,this,Nat.or_comm]
theorem get_go (k:Nat) (b:List UInt8) (a n:Nat) (hn:n≤4) (hb:a+n≤b.length) (hbl:b.length≤1099511627776):∀ (m i:Nat),i≤n→n - i<m →
    g_quireref05_get_l0 k (I b) (a:Int) (n:Int) m ((zlv ((b.drop a).take i):Nat):Int) (i:Int)=some ((zfld b a n:Nat):Int):=by
  intro m
  induction m with
  | zero=>intro i _ h;omega
  | succ m ih =>
    intro i hi hm
    rw [g_quireref05_get_l0.eq_2]
    by_cases h:i<n
    · have hlt:a+i<b.length:=by omega
      rw [dt (show (i:Int)<(n:Int) by omega),bt,wi (n:=(a:Int)+(i:Int)) (by omega) (by omega),show (a:Int)+(i:Int)=((a+i:Nat):Int) by omega,ixI hlt,Option.bind_some,wi (n:=8*(i:Int)) (by omega) (by omega),wu64 (n:=8*(i:Int)) (by omega) (by omega),Option.bind_some,dt (show (0:Int)≤8*(i:Int) by omega),bt,Option.bind_some,show 8*(i:Int)=((8*i:Nat):Int) by omega]
      have hz:=zlv_lt ((b.drop a).take i)
      have hl:((b.drop a).take i).length=i:=by rw [List.length_take,List.length_drop];omega
      rw [hl] at hz
      rw [rbyte (by omega) hz,wi (n:=(i:Int)+1) (by omega) (by omega),show (i:Int)+1=((i+1:Nat):Int) by omega]
      have e:(b.drop a).take (i+1)=(b.drop a).take i++[b[a+i]]:=by
        rw [List.take_add_one,List.getElem?_drop,List.getElem?_eq_getElem hlt];rfl
      have:=ih (i+1) (by omega) (by omega)
      rw [e,zlv_snoc,hl] at this
      exact this
    · obtain rfl:i=n:=by omega
      rw [df (show ¬ (i:Int)<(i:Int) by omega)];rfl
theorem getL {k:Nat} (hk:10≤k) {b:List UInt8} {x y:Int} (a n:Nat) (hx:x=(a:Int)) (hy:y=(n:Int)) (hn:n≤4) (hb:a+n≤b.length) (hbl:b.length≤1099511627776):g_quireref05_get k (I b) x y=some ((zfld b a n:Nat):Int):=by
  subst hx hy
  unfold g_quireref05_get
  have:=get_go k b a n hn hb hbl k 0 (by omega) (by omega)
  rw [List.take_zero] at this
  rw [show g_quireref05_get_l0 k (I b) (a:Int) (n:Int) k 0 0=_ from this]
  rfl
theorem same_eq {k:Nat} {b w:List UInt8} {x:Int} (a:Nat) (hx:x=(a:Int)) (ha:a≤b.length) (hbl:b.length≤1099511627776) (hwl:w.length≤1099511627776):g_quireref05_same k (I b) x (I w)=some (decide (w <+: b.drop a)):=by
  subst hx
  unfold g_quireref05_same
  rw [dt (show (0:Int)≤(a:Int) by omega),bt,I_length,I_length,wi (n:=(b.length:Int) - (w.length:Int)) (by omega) (by omega),Option.bind_some]
  by_cases h:a+w.length≤b.length
  · rw [dt (show (a:Int)≤(b.length:Int) - (w.length:Int) by omega),bt,wi (n:=(a:Int)+(w.length:Int)) (by omega) (by omega),Option.bind_some,dt (show (0:Int)≤(a:Int)∧(a:Int)≤(a:Int)+(w.length:Int)∧(a:Int)+(w.length:Int)≤(b.length:Int) by omega),bt,Option.bind_some,Option.bind_some]
    congr 1
    rw [show Int.toNat ((a:Int)+(w.length:Int))=a+w.length by omega,Int.toNat_natCast,I_take,I_drop,zstrOf,zstrOf,L_toList,L_toList,L_zB,L_zB,List.drop_take,Nat.add_sub_cancel_left]
    rw [Bool.eq_iff_iff,beq_iff_eq,decide_eq_true_iff,List.prefix_iff_eq_take]
    exact eq_comm
  · rw [df (show ¬ (a:Int)≤(b.length:Int) - (w.length:Int) by omega),bf,Option.bind_some]
    congr 1
    rw [df]
    intro hp
    have:=hp.length_le
    rw [List.length_drop] at this
    omega
def mkR (e:Ent):S_quireref05_Entry:=⟨e.meth,e.crc,e.packed,e.size,zB e.name⟩
theorem fld_drop (b:List UInt8) (p n o m:Nat) (h:o+m≤n):zfld ((b.drop p).take n) o m=zfld b (p+o) m:=by
  unfold zfld
  rw [List.drop_take,List.take_take,List.drop_drop,Nat.min_eq_left (by omega)]
theorem pre_take {w l:List UInt8} {m:Nat} (h:w.length≤m):w <+: l.take m↔w <+: l:=by
  rw [List.prefix_iff_eq_take,List.prefix_iff_eq_take,List.take_take,Nat.min_eq_left h]
theorem rent_go (k:Nat) (hk:300≤k) (b:List UInt8) (hb:b.length≤1048576) (en:Nat) (hen:en≤b.length) (many:Nat) (hm:many≤64):∀ (n i p:Nat) (l:List S_quireref05_Entry) (pl:List Int),i≤many→many - i<n→p≤en→l.length=i→pl.length=i →
    (prsZ (many - i) ((b.drop p).take (en - p))=none∧g_quireref05_directory_l0 k (I b) (en:Int) (many:Int) n (p:Int) (i:Int) l pl=some (Sum.inl ())) ∨
    ∃ (es:List Ent) (r:List UInt8),prsZ (many - i) ((b.drop p).take (en - p))=some (es,r)∧r.length≤en∧g_quireref05_directory_l0 k (I b) (en:Int) (many:Int) n (p:Int) (i:Int) l pl=some (Sum.inr (((en - r.length:Nat):Int),l++es.map mkR,pl++es.map fun e=>(e.at_:Int))):=by
  intro n
  induction n with
  | zero=>intro i p l pl _ h;omega
  | succ n ih =>
    intro i p l pl hi hn hp hl hpl
    rw [g_quireref05_directory_l0.eq_2]
    have hlen:((b.drop p).take (en - p)).length=en - p:=by rw [List.length_take,List.length_drop];omega
    by_cases h:i<many
    · obtain ⟨q,hq⟩:∃ q,many - i=q+1:=⟨many - i - 1,by omega⟩
      have hq2:many - (i+1)=q:=by omega
      rw [hq,prsZ,dt (show (i:Int)<(many:Int) by omega),bt,wi (n:=(en:Int) - (p:Int)) (by omega) (by omega),Option.bind_some,hlen]
      by_cases h46:en - p<46
      · rw [dt (show (en:Int) - (p:Int)<46 by omega),if_pos h46]
        exact .inl ⟨rfl,rfl⟩
      rw [df (show ¬ (en:Int) - (p:Int)<46 by omega),if_neg h46,bf,wi (n:=(p:Int)+28) (by omega) (by omega),getL (k:=k) (b:=b) (x:=(p:Int)+28) (y:=2) (by omega) (p+28) 2 (by omega) rfl (by omega) (by omega) (by omega),Option.bind_some,fld_drop b p (en - p) 28 2 (by omega)]
      have hz:=zfld_lt b (p+28) 2
      rw [show (256:Nat)^2=65536 from rfl] at hz
      rw [wi (n:=46+((zfld b (p+28) 2:Nat):Int)) (by omega) (by omega),Option.bind_some]
      by_cases hl2:en - p<46+zfld b (p+28) 2
      · rw [dt (show (en:Int) - (p:Int)<46+((zfld b (p+28) 2:Nat):Int) by omega),if_pos hl2]
        exact .inl ⟨rfl,rfl⟩
      have ea:atZ ((b.drop p).take (en - p))=⟨zfld b (p+10) 2,zfld b (p+16) 4,zfld b (p+20) 4,zfld b (p+24) 4,(b.drop (p+46)).take (zfld b (p+28) 2),zfld b (p+42) 4⟩:=by
        unfold atZ
        rw [fld_drop b p (en - p) 10 2 (by omega),fld_drop b p (en - p) 16 4 (by omega),fld_drop b p (en - p) 20 4 (by omega),fld_drop b p (en - p) 24 4 (by omega),fld_drop b p (en - p) 28 2 (by omega),fld_drop b p (en - p) 42 4 (by omega),List.drop_take,List.take_take,List.drop_drop,Nat.min_eq_left (by omega)]
      rw [df (show ¬ (en:Int) - (p:Int)<46+((zfld b (p+28) 2:Nat):Int) by omega),if_neg hl2,bf,wi (n:=(p:Int)+46) (by omega) (by omega),wi (n:=(p:Int)+46+((zfld b (p+28) 2:Nat):Int)) (by omega) (by omega),Option.bind_some,dt (show (0:Int)≤(p:Int)+46∧(p:Int)+46≤(p:Int)+46+((zfld b (p+28) 2:Nat):Int)∧(p:Int)+46+((zfld b (p+28) 2:Nat):Int)≤((I b).length:Int) by rw [I_length];omega),bt]
      rw [wi (n:=(p:Int)+10) (by omega) (by omega),wi (n:=(p:Int)+16) (by omega) (by omega),wi (n:=(p:Int)+20) (by omega) (by omega),wi (n:=(p:Int)+24) (by omega) (by omega),wi (n:=(p:Int)+42) (by omega) (by omega)]
      rw [getL (k:=k) (b:=b) (x:=(p:Int)+10) (y:=2) (by omega) (p+10) 2 (by omega) rfl (by omega) (by omega) (by omega),Option.bind_some,getL (k:=k) (b:=b) (x:=(p:Int)+16) (y:=4) (by omega) (p+16) 4 (by omega) rfl (by omega) (by omega) (by omega),Option.bind_some,getL (k:=k) (b:=b) (x:=(p:Int)+20) (y:=4) (by omega) (p+20) 4 (by omega) rfl (by omega) (by omega) (by omega),Option.bind_some,getL (k:=k) (b:=b) (x:=(p:Int)+24) (y:=4) (by omega) (p+24) 4 (by omega) rfl (by omega) (by omega) (by omega),Option.bind_some,Option.bind_some]
      dsimp only
      rw [getL (k:=k) (b:=b) (x:=(p:Int)+42) (y:=4) (by omega) (p+42) 4 (by omega) rfl (by omega) (by omega) (by omega),Option.bind_some]
      rw [show Int.toNat ((p:Int)+46)=p+46 by omega,show Int.toNat ((p:Int)+46+((zfld b (p+28) 2:Nat):Int))=p+46+zfld b (p+28) 2 by omega,I_take,I_drop,zstrOf,show (b.take (p+46+zfld b (p+28) 2)).drop (p+46)=(b.drop (p+46)).take (zfld b (p+28) 2) by rw [List.drop_take,Nat.add_sub_cancel_left]]
      have hnl:((b.drop (p+46)).take (zfld b (p+28) 2)).length=zfld b (p+28) 2:=by rw [List.length_take,List.length_drop];omega
      have z1:=zfld_lt b (p+10) 2
      have z2:=zfld_lt b (p+16) 4
      have z3:=zfld_lt b (p+20) 4
      have z4:=zfld_lt b (p+24) 4
      have z5:=zfld_lt b (p+42) 4
      have hc:=rcentral (k:=k) (by omega) (zfld b (p+10) 2) (zfld b (p+16) 4) (zfld b (p+20) 4) (zfld b (p+24) 4) (zfld b (p+42) 4) ((b.drop (p+46)).take (zfld b (p+28) 2)) (by omega) (by omega) (by omega) (by omega) (by omega) (by omega)
      rw [hc,Option.bind_some,← ea]
      have hcl:(centralB (atZ ((b.drop p).take (en - p)))).length=46+zfld b (p+28) 2:=by rw [central_len,ea];show 46+((b.drop (p+46)).take (zfld b (p+28) 2)).length=_;rw [hnl]
      rw [same_eq (k:=k) p rfl (by omega) (by omega) (by rw [hcl];omega),Option.bind_some]
      have hpre:=pre_take (w:=centralB (atZ ((b.drop p).take (en - p)))) (l:=b.drop p) (m:=en - p) (by rw [hcl];omega)
      by_cases hw:centralB (atZ ((b.drop p).take (en - p))) <+: b.drop p
      · rw [dt hw,if_pos (hpre.2 hw),Bool.not_true,bf,dt (show _≤(140737488355328:Nat) by rw [hl];simp;omega),bt,dt (show _≤(140737488355328:Nat) by rw [hpl];simp;omega),bt,Option.bind_some,wi (n:=(i:Int)+1) (by omega) (by omega),show (i:Int)+1=((i+1:Nat):Int) by omega,show (p:Int)+46+((zfld b (p+28) 2:Nat):Int)=((p+(46+zfld b (p+28) 2):Nat):Int) by omega]
        have ed:((b.drop p).take (en - p)).drop (46+zfld b (p+28) 2)=(b.drop (p+(46+zfld b (p+28) 2))).take (en - (p+(46+zfld b (p+28) 2))):=by
          rw [List.drop_take,List.drop_drop,Nat.sub_sub]
        rw [ed]
        have emk:(⟨((zfld b (p+10) 2:Nat):Int),((zfld b (p+16) 4:Nat):Int),((zfld b (p+20) 4:Nat):Int),((zfld b (p+24) 4:Nat):Int),zB ((b.drop (p+46)).take (zfld b (p+28) 2))⟩:S_quireref05_Entry)=mkR (atZ ((b.drop p).take (en - p))):=by rw [ea];rfl
        have eat:((zfld b (p+42) 4:Nat):Int)=((atZ ((b.drop p).take (en - p))).at_:Int):=by rw [ea]
        rw [emk,eat]
        rcases ih (i+1) (p+(46+zfld b (p+28) 2)) (l++[mkR (atZ ((b.drop p).take (en - p)))]) (pl++[((atZ ((b.drop p).take (en - p))).at_:Int)]) (by omega) (by omega) (by omega) (by simp [hl]) (by simp [hpl]) with ⟨q1,q3⟩ | ⟨es,r,q1,q2,q3⟩
        · rw [hq2] at q1
          exact .inl ⟨by rw [q1];rfl,q3⟩
        · rw [hq2] at q1
          refine .inr ⟨atZ ((b.drop p).take (en - p))::es,r,by rw [q1];rfl,q2,q3.trans ?_⟩
          rw [List.map_cons,List.map_cons,List.append_assoc,List.append_assoc];rfl
      · rw [df hw,if_neg (fun h=>hw (hpre.1 h))]
        exact .inl ⟨rfl,rfl⟩
    · rw [df (show ¬ (i:Int)<(many:Int) by omega),show many - i=0 by omega]
      refine .inr ⟨[],(b.drop p).take (en - p),rfl,by rw [hlen];omega,?_⟩
      rw [hlen,show en - (en - p)=p by omega]
      simp
theorem rdirectory_eq {k:Nat} (hk:300≤k) (b:List UInt8) (hb:b.length≤1048576):g_quireref05_directory k (I b)=some (match dirS b with | some (es,a)=>(es.map mkR,es.map fun e=>(e.at_:Int),(a:Int),0) | none=>([],[],0,14)):=by
  unfold g_quireref05_directory dirS
  rw [I_length,df (show ¬ (1048576:Int)<((b.length:Nat):Int) by omega),Option.bind_some,bf,Option.bind_some]
  by_cases h22:b.length<22
  · rw [dt (show ((b.length:Nat):Int)<22 by omega),if_pos h22];rfl
  have et:((b.length:Nat):Int) - 22=((b.length - 22:Nat):Int):=by omega
  rw [df (show ¬ ((b.length:Nat):Int)<22 by omega),if_neg h22,bf,wi (n:=((b.length:Nat):Int) - 22) (by omega) (by omega),et,Option.bind_some,wi (n:=((b.length - 22:Nat):Int)+8) (by omega) (by omega),wi (n:=((b.length - 22:Nat):Int)+12) (by omega) (by omega),wi (n:=((b.length - 22:Nat):Int)+16) (by omega) (by omega)]
  rw [getL (k:=k) (b:=b) (x:=((b.length - 22:Nat):Int)+8) (y:=2) (by omega) (b.length - 22+8) 2 (by omega) rfl (by omega) (by omega) (by omega),Option.bind_some,getL (k:=k) (b:=b) (x:=((b.length - 22:Nat):Int)+12) (y:=4) (by omega) (b.length - 22+12) 4 (by omega) rfl (by omega) (by omega) (by omega),Option.bind_some,getL (k:=k) (b:=b) (x:=((b.length - 22:Nat):Int)+16) (y:=4) (by omega) (b.length - 22+16) 4 (by omega) rfl (by omega) (by omega) (by omega),Option.bind_some]
  have z1:=zfld_lt b (b.length - 22+8) 2
  have z2:=zfld_lt b (b.length - 22+12) 4
  have z3:=zfld_lt b (b.length - 22+16) 4
  generalize zfld b (b.length - 22+8) 2=many at *
  generalize zfld b (b.length - 22+12) 4=size at *
  generalize zfld b (b.length - 22+16) 4=a at *
  rw [rend (by omega) _ _ _ (by omega) (by omega) (by omega),Option.bind_some,same_eq (k:=k) (b.length - 22) rfl (by omega) (by omega) (by rw [end_len];omega),Option.bind_some]
  by_cases h1:endB many size a <+: b.drop (b.length - 22)
  · rw [dt h1,Bool.not_true,bf]
    by_cases h2:many > 64
    · rw [dt (show (64:Int)<(many:Int) by omega),if_pos (.inr (.inl h2))];rfl
    rw [df (show ¬ (64:Int)<(many:Int) by omega),bf,wi (n:=(a:Int)+(size:Int)) (by omega) (by omega)]
    by_cases h3:a+size=b.length - 22
    · rw [dt (show (a:Int)+(size:Int)=((b.length - 22:Nat):Int) by omega),if_neg (by rintro (h | h | h) <;> contradiction),Bool.not_true,Option.bind_some,Option.bind_some,bf]
      rcases rent_go k hk b hb (b.length - 22) (by omega) many (by omega) k 0 a [] [] (by omega) (by omega) (by omega) rfl rfl with ⟨q1,q3⟩ | ⟨l,r,q1,q2,q3⟩
      · rw [Nat.sub_zero,show b.length - 22 - a=size by omega] at q1
        rw [q1,show g_quireref05_directory_l0 k (I b) ((b.length - 22:Nat):Int) (many:Int) k (a:Int) 0 [] []=_ from q3]
        rfl
      · rw [Nat.sub_zero,show b.length - 22 - a=size by omega] at q1
        rw [q1,show g_quireref05_directory_l0 k (I b) ((b.length - 22:Nat):Int) (many:Int) k (a:Int) 0 [] []=_ from q3,Option.bind_some]
        dsimp only
        cases r with
        | nil=>rw [List.length_nil,Nat.sub_zero,dt rfl];rfl
        | cons c r=>rw [df (show ¬ ((b.length - 22 - (c::r).length:Nat):Int)=((b.length - 22:Nat):Int) by rw [List.length_cons] at *;omega)];rfl
    · rw [df (show ¬ (a:Int)+(size:Int)=((b.length - 22:Nat):Int) by omega),if_pos (.inr (.inr h3))];rfl
  · rw [df h1,if_pos (.inl h1)];rfl
theorem likeZ_comm (a b:List UInt8):likeZ a b=likeZ b a:=by
  unfold likeZ
  rw [Bool.eq_iff_iff,decide_eq_true_iff,decide_eq_true_iff]
  exact eq_comm
theorem rread1 (k:Nat) (hk:300≤k) (es:List Ent) (hl:es.length≤64) (i:Nat) (hi:i≤es.length) (hok:∀ f∈es.take i,okName f.name=true) (e:Ent) (he:okName e.name=true):∀ (n j:Nat),j≤i→i - j<n →
    g_quireref05_Read_l1 k (es.map mkR) (i:Int) (mkR e) n (j:Int)=some (if (((es.take i).drop j).map (·.name)).any (likeZ e.name) then Sum.inl () else Sum.inr ()):=by
  intro n
  induction n with
  | zero=>intro j _ h;omega
  | succ n ih =>
    intro j hj hn
    rw [g_quireref05_Read_l1.eq_2]
    have htl:(es.take i).length=i:=by rw [List.length_take];omega
    by_cases h:j<i
    · have hj2:j<(es.take i).length:=by omega
      have hj3:j<es.length:=by omega
      rw [dt (show (j:Int)<(i:Int) by omega),bt,ixM hj3,Option.bind_some,List.drop_eq_getElem_cons hj2,List.map_cons,List.any_cons,List.getElem_take]
      have hg:okName es[j].name=true:=hok _ (by have:=List.getElem_mem hj2;rw [List.getElem_take] at this;exact this)
      rw [show (mkR e).fName=zB e.name from rfl,show (mkR es[j]).fName=zB es[j].name from rfl,rlike hk (okName_asc hg).2 (okName_asc he).2,likeZ_comm,Option.bind_some]
      cases hc:likeZ e.name es[j].name with
      | true=>rfl
      | false =>
        rw [bf,Bool.false_or,wi (by omega) (by omega),show ((j:Int)+1)=((j+1:Nat):Int) by omega,ih (j+1) (by omega) (by omega)]
    · rw [df (show ¬ (j:Int)<(i:Int) by omega),List.drop_of_length_le (l:=es.take i) (by omega)];rfl
theorem runp_eq {k:Nat} (hk:20000000≤k) (e:Ent) (he:e.ok) (nm:ByteArray) (d:List UInt8) (hd:d.length≤1048576) (hsz:e.size≤262144) :
    g_quireref05_unpack k (e.meth:Int) (e.crc:Int) (e.packed:Int) (e.size:Int) nm (I d)=(unpY (infY k) e d).map fun x=>(I x.1,x.2):=by
  unfold g_quireref05_unpack unpY
  rw [I_length,dt (show (([]:List Int).length+d.length)*1≤140737488355328 by rw [List.length_nil];omega),bt]
  by_cases h0:e.meth=0∧e.packed≠e.size
  · rw [if_pos h0,dt (show (e.meth:Int)=0 by omega),df (show ¬ (e.packed:Int)=(e.size:Int) by omega)];rfl
  rw [if_neg h0]
  have e1:((bif (decide ((e.meth:Int)=0)) then some (!decide ((e.packed:Int)=(e.size:Int))) else some false):Option Bool)=some false:=by
    by_cases hm:e.meth=0
    · have:e.packed=e.size:=Decidable.byContradiction fun h=>h0 ⟨hm,h⟩
      rw [dt (show (e.meth:Int)=0 by omega),dt (show (e.packed:Int)=(e.size:Int) by omega)];rfl
    · rw [df (show ¬ (e.meth:Int)=0 by omega)];rfl
  rw [e1,Option.bind_some,bf]
  have fin:∀ y:List UInt8,y.length≤1048576→((g_quireref05_Crc k (I y)).bind fun x20912=>(bif (!decide (x20912=(e.crc:Int))) then some (([]:List Int),(13:Int)) else some (I y,0)))=(if crcN y≠e.crc then some (([]:List UInt8),(13:Int)) else some (y,0)).map fun x=>(I x.1,x.2):=by
    intro y hy
    rw [crc_ref (by omega) (by omega) (by omega),Option.bind_some]
    by_cases hc:crcN y=e.crc
    · rw [dt (show ((crcN y:Nat):Int)=(e.crc:Int) by omega),if_neg (by simpa using hc)];rfl
    · rw [df (show ¬ ((crcN y:Nat):Int)=(e.crc:Int) by omega),if_pos hc];rfl
  by_cases h8:e.meth=8
  · rw [if_pos h8,dt (show (e.meth:Int)=8 by omega),bt]
    rcases infY_cases hk hd (show e.size≤1048576 by omega) with ⟨c,x,o,hc,_,h1,h3⟩ | ⟨y,u,hy,_,h1,h3⟩
    · rw [h1,h3]
      repeat rw [Option.bind_some]
      dsimp only
      by_cases h4:c=3
      · rw [dt h4,if_pos h4,if_pos (show (12:Int)≠0 by decide)];rfl
      · rw [df h4,if_neg h4,if_pos hc,bf,Option.bind_some,df hc];rfl
    · by_cases hcnd:u≠d.length∨y.length≠e.size
      · rw [if_pos hcnd] at h3
        rw [h1,h3]
        repeat rw [Option.bind_some]
        dsimp only
        rw [show decide ((0:Int)=3)=false from rfl,bf,Option.bind_some,show (!decide ((0:Int)=0))=false from rfl,bf,I_length,if_pos (show (12:Int)≠0 by decide)]
        by_cases hu:u=d.length
        · rw [dt (show (u:Int)=(d.length:Int) by omega),df (show ¬ (y.length:Int)=(e.size:Int) by omega)];rfl
        · rw [df (show ¬ (u:Int)=(d.length:Int) by omega)];rfl
      · rw [if_neg hcnd] at h3
        rw [h1,h3]
        repeat rw [Option.bind_some]
        dsimp only
        rw [show decide ((0:Int)=3)=false from rfl,bf,Option.bind_some,show (!decide ((0:Int)=0))=false from rfl,bf,I_length,dt (show (u:Int)=(d.length:Int) by omega),dt (show (y.length:Int)=(e.size:Int) by omega),if_neg (show ¬ (0:Int)≠0 by decide)]
        exact fin y (by omega)
  rw [if_neg h8,df (show ¬ (e.meth:Int)=8 by omega),bf,Option.bind_some,Option.bind_some]
  dsimp only
  rw [if_neg (show ¬ (0:Int)≠0 by decide),List.nil_append]
  exact fin d hd
theorem rread_bad {k:Nat} (hk:300≤k) (b:List UInt8) (es:List Ent) (i:Nat) (hi:i<es.length) (a:Nat) (o1:es[i].meth<65536) (o2:es[i].crc<4294967296) (o3:es[i].packed<4294967296) (o4:es[i].size<4294967296) (o5:es[i].name.length<65536) (hab:a≤b.length) (hbl:b.length≤1048576) :
    ((bif (!decide ((mkR es[i]).fMethod=0)) then (bif (!decide ((mkR es[i]).fMethod=8)) then some true else ((ix (es.map fun e=>(e.at_:Int)) (i:Int)).bind fun x22738=>(bif (!decide (x22738=(a:Int))) then some true else ((g_quireref05_Local k (mkR es[i]).fMethod (mkR es[i]).fCrc (mkR es[i]).fPacked (mkR es[i]).fSize (mkR es[i]).fName).bind fun x22741=>((g_quireref05_same k (I b) (a:Int) x22741).bind fun x22743=>some (!x22743)))))) else ((ix (es.map fun e=>(e.at_:Int)) (i:Int)).bind fun x22744=>(bif (!decide (x22744=(a:Int))) then some true else ((g_quireref05_Local k (mkR es[i]).fMethod (mkR es[i]).fCrc (mkR es[i]).fPacked (mkR es[i]).fSize (mkR es[i]).fName).bind fun x22747=>((g_quireref05_same k (I b) (a:Int) x22747).bind fun x22749=>some (!x22749)))))):Option Bool)=some (decide ((es[i].meth≠0∧es[i].meth≠8)∨es[i].at_≠a∨¬ localB es[i] <+: b.drop a)):=by
  have hix:ix (es.map fun e=>(e.at_:Int)) (i:Int)=some (es[i].at_:Int):=ixM hi
  rw [hix]
  generalize hE:es[i]=e at *
  have hlo:=rlocal (k:=k) (by omega) e.meth e.crc e.packed e.size e.at_ e.name (by omega) (by omega) (by omega) (by omega) (by omega)
  have hlo':g_quireref05_Local k (mkR e).fMethod (mkR e).fCrc (mkR e).fPacked (mkR e).fSize (mkR e).fName=some (I (localB e)):=hlo
  rw [Option.bind_some,hlo',Option.bind_some,same_eq (k:=k) a rfl hab (by omega) (by rw [local_len];omega),Option.bind_some,show (mkR e).fMethod=(e.meth:Int) from rfl]
  by_cases ma:e.at_=a
  · rw [dt (show (e.at_:Int)=(a:Int) by omega)]
    by_cases m0:e.meth=0
    · rw [dt (show (e.meth:Int)=0 by omega)]
      simp [m0,ma]
    · rw [df (show ¬ (e.meth:Int)=0 by omega)]
      by_cases m8:e.meth=8
      · rw [dt (show (e.meth:Int)=8 by omega)]
        simp [m8,ma]
      · rw [df (show ¬ (e.meth:Int)=8 by omega)]
        simp [m0,m8]
  · rw [df (show ¬ (e.at_:Int)=(a:Int) by omega)]
    by_cases m0:e.meth=0
    · rw [dt (show (e.meth:Int)=0 by omega)]
      simp [ma]
    · rw [df (show ¬ (e.meth:Int)=0 by omega)]
      by_cases m8:e.meth=8
      · rw [dt (show (e.meth:Int)=8 by omega)]
        simp [ma]
      · rw [df (show ¬ (e.meth:Int)=8 by omega)]
        simp [ma]
theorem rread_go (k:Nat) (hk:20000000≤k) (b:List UInt8) (hb:b.length≤1048576) (dir:Nat) (hdir:dir≤b.length) (es:List Ent) (hl:es.length≤64) (heo:∀ e∈es,e.ok):∀ (n i:Nat) (most a:Nat) (acc:List Zf),i≤es.length→es.length - i<n→most≤9223372036854775807→a≤dir→acc.length≤i→(∀ f∈es.take i,okName f.name=true) →
    g_quireref05_Read_l0 k (I b) (es.map mkR) (es.map fun e=>(e.at_:Int)) (dir:Int) n (most:Int) (a:Int) (i:Int) (acc.map mkF)=(rdY (infY k) b dir (es.drop i) ((es.take i).map (·.name)) most a acc).map resR:=by
  intro n
  induction n with
  | zero=>intro i most a acc _ h;omega
  | succ n ih =>
    intro i most a acc hi hn hmost ha hacc hnm
    rw [g_quireref05_Read_l0.eq_2,List.length_map]
    by_cases h:i<es.length
    · rw [List.drop_eq_getElem_cons h,dt (show (i:Int)<((es.length:Nat):Int) by omega),ixM h]
      have heok:=heo es[i] (List.getElem_mem h)
      have ebig:=rread_bad (k:=k) (by omega) b es i h a heok.meth heok.crc heok.packed heok.size heok.name (by omega) hb
      have htake0:es.take (i+1)=es.take i++[es[i]]:=by rw [List.take_add_one,List.getElem?_eq_getElem h];rfl
      have o3:=heok.packed
      have o4:=heok.size
      have o5:=heok.name
      rw [Option.bind_some,bt,Option.bind_some]
      rw [show (mkR es[i]).fName=zB es[i].name from rfl,ref_right k _ (by omega),L_zB]
      rw [Option.bind_some]
      cases hr:okName es[i].name with
      | false=>rw [rdY_name hr];rfl
      | true =>
        rw [Bool.not_true,bf,show g_quireref05_Read_l1 k (es.map mkR) (i:Int) (mkR es[i]) k 0=_ from rread1 k (by omega) es hl i hi hnm es[i] hr k 0 (by omega) (by omega),List.drop_zero]
        rw [Option.bind_some]
        cases hany:((es.take i).map (·.name)).any (likeZ es[i].name) with
        | true=>rw [rdY_seen hr hany];rfl
        | false =>
          rw [if_neg (show ¬ (false=true) by decide)]
          dsimp only
          rw [show zB es[i].name=(mkR es[i]).fName from rfl,ebig]
          rw [Option.bind_some]
          by_cases hc:(es[i].meth≠0∧es[i].meth≠8)∨es[i].at_≠a∨¬ localB es[i] <+: b.drop a
          · rw [dt hc,rdY_bad hr hany hc];rfl
          rw [df hc,bf]
          rw [show (mkR es[i]).fSize=(es[i].size:Int) from rfl,show (mkR es[i]).fPacked=(es[i].packed:Int) from rfl,show (mkR es[i]).fName=zB es[i].name from rfl,zB_size]
          have em:((bif (decide ((262144:Int)<(es[i].size:Int))) then some true else some (decide ((most:Int)<(es[i].size:Int)))):Option Bool)=some (decide (es[i].size > min 262144 most)):=by
            by_cases h1:es[i].size > 262144
            · rw [dt (show (262144:Int)<(es[i].size:Int) by omega),dt (show es[i].size > min 262144 most by omega)];rfl
            · rw [df (show ¬ (262144:Int)<(es[i].size:Int) by omega),bf]
              congr 1
              rw [decide_eq_decide];omega
          rw [em,Option.bind_some]
          by_cases hs:es[i].size > min 262144 most
          · rw [dt hs,rdY_big hr hany hc hs];rfl
          rw [df hs,bf,Option.bind_some]
          rw [wi (n:=(a:Int)+30) (by omega) (by omega),wi (n:=(a:Int)+30+((es[i].name.length:Nat):Int)) (by omega) (by omega),Option.bind_some,wi (n:=(dir:Int) - ((a:Int)+30+((es[i].name.length:Nat):Int))) (by omega) (by omega),Option.bind_some]
          by_cases hp:a+(30+es[i].name.length)+es[i].packed > dir
          · rw [dt (show (dir:Int) - ((a:Int)+30+((es[i].name.length:Nat):Int))<(es[i].packed:Int) by omega),rdY_far hr hany hc hs hp];rfl
          rw [df (show ¬ (dir:Int) - ((a:Int)+30+((es[i].name.length:Nat):Int))<(es[i].packed:Int) by omega),rdY_step hr hany hc hs hp,bf]
          rw [wi (n:=(a:Int)+30+((es[i].name.length:Nat):Int)+(es[i].packed:Int)) (by omega) (by omega),Option.bind_some,I_length,dt (show (0:Int)≤(a:Int)+30+((es[i].name.length:Nat):Int)∧(a:Int)+30+((es[i].name.length:Nat):Int)≤(a:Int)+30+((es[i].name.length:Nat):Int)+(es[i].packed:Int)∧(a:Int)+30+((es[i].name.length:Nat):Int)+(es[i].packed:Int)≤((b.length:Nat):Int) by omega),bt]
          rw [show Int.toNat ((a:Int)+30+((es[i].name.length:Nat):Int))=a+(30+es[i].name.length) by omega,show Int.toNat ((a:Int)+30+((es[i].name.length:Nat):Int)+(es[i].packed:Int))=a+(30+es[i].name.length)+es[i].packed by omega,I_take,I_drop,List.drop_take,Nat.add_sub_cancel_left]
          have hu:=runp_eq hk es[i] heok (zB es[i].name) ((b.drop (a+(30+es[i].name.length))).take es[i].packed) (by rw [List.length_take,List.length_drop];omega) (by omega)
          rw [show g_quireref05_unpack k (mkR es[i]).fMethod (mkR es[i]).fCrc (es[i].packed:Int) (es[i].size:Int) (zB es[i].name) _=_ from hu]
          cases hq:unpY (infY k) es[i] ((b.drop (a+(30+es[i].name.length))).take es[i].packed) with
          | none=>rfl
          | some x =>
            rw [Option.map_some]
            repeat rw [Option.bind_some]
            dsimp only
            by_cases hx:x.2=0
            · rw [dt hx,if_neg (show ¬ x.2≠0 from fun h=>h hx),Bool.not_true,bf]
              rw [dt (show _≤(140737488355328:Nat) by rw [List.length_map];simp;omega),bt]
              have ha2:(a:Int)+30+((es[i].name.length:Nat):Int)+(es[i].packed:Int)=((a+(30+es[i].name.length+es[i].packed):Nat):Int):=by omega
              rw [wi (n:=(most:Int) - (es[i].size:Int)) (by omega) (by omega),wi (n:=(i:Int)+1) (by omega) (by omega),ha2,show (most:Int) - (es[i].size:Int)=((most - es[i].size:Nat):Int) by omega,show (i:Int)+1=((i+1:Nat):Int) by omega]
              have hacc2:acc.map mkF++([(⟨zB es[i].name,I x.1⟩:S_api_File)]:List S_api_File)=(acc++[(es[i].name,x.1)]).map mkF:=by rw [List.map_append];rfl
              rw [hacc2,ih (i+1) (most - es[i].size) (a+(30+es[i].name.length+es[i].packed)) (acc++[(es[i].name,x.1)]) (by omega) (by omega) (by omega) (by omega) (by simp;omega) (fun f hf=>by
                rw [htake0] at hf
                rcases List.mem_append.1 hf with hf | hf
                · exact hnm f hf
                · rw [List.mem_singleton.1 hf];exact hr)]
              rw [htake0,List.map_append]
              rfl
            · rw [df hx,if_pos hx];rfl
    · rw [df (show ¬ (i:Int)<((es.length:Nat):Int) by omega),List.drop_of_length_le (l:=es) (by omega)]
      rfl
theorem rdY_acc {inf:List UInt8→Nat→Option (List UInt8 × Int)} {b:List UInt8} {dir:Nat}:∀ (l:List Ent) (seen:List (List UInt8)) (most a:Nat) (acc:List Zf) (x:Nat) (acc':List Zf),rdY inf b dir l seen most a acc=some (.inr (x,acc'))→acc'.length=acc.length+l.length
  | [],_,_,_,acc,x,acc',h=>by
    rw [rdY] at h
    cases h;rfl
  | e::l,seen,most,a,acc,x,acc',h=>by
    rw [rdY] at h
    split at h
    · cases h
    split at h
    · cases h
    split at h
    · cases h
    split at h
    · cases h
    split at h
    · cases h
    cases hu:unpY inf e ((b.drop (a+(30+e.name.length))).take e.packed) with
    | none=>rw [hu] at h;cases h
    | some y =>
      rw [hu,Option.bind_some] at h
      split at h
      · cases h
      · have:=rdY_acc l _ _ _ _ x acc' h
        rw [this,List.length_append,List.length_cons,List.length_cons,List.length_nil];omega
theorem read_same (k:Nat) (hk:20000000≤k) (b:List UInt8) (most:Int) (hm:most≤9223372036854775807) :
    (g_zip_Read k (I b) most=none∧g_quireref05_Read k (I b) most=none)∨∃ (l:List Zf) (e:Int),l.length≤64∧g_zip_Read k (I b) most=some (l.map mkF,e)∧g_quireref05_Read k (I b) most=some (l.map mkF,e):=by
  unfold g_zip_Read g_quireref05_Read
  by_cases h0:most<0
  · rw [dt h0];exact .inr ⟨[],1,by simp,rfl,rfl⟩
  rw [df h0,bf,bf]
  obtain ⟨mo,rfl⟩:∃ n:Nat,most=(n:Int):=⟨most.toNat,by omega⟩
  by_cases hb:b.length≤1048576
  · rw [directory_eq (by omega) b hb,rdirectory_eq (by omega) b hb,Option.bind_some,Option.bind_some]
    cases hd:dirS b with
    | none=>exact .inr ⟨[],14,by simp,rfl,rfl⟩
    | some p =>
      obtain ⟨es,a⟩:=p
      obtain ⟨o,hbo,hao,heo,hel⟩:=dirS_ok hd
      have hal:a≤b.length:=by rw [hbo,hao,List.length_append];omega
      have hg:=read_go k hk b hb a hal es hel heo k 0 mo 0 [] (by omega) (by omega) (by omega) (by omega) (by simp) (by simp)
      have hg2:=rread_go k hk b hb a hal es hel heo k 0 mo 0 [] (by omega) (by omega) (by omega) (by omega) (by simp) (by simp)
      rw [List.drop_zero,List.take_zero,List.map_nil,List.map_nil] at hg hg2
      dsimp only
      rw [show (!decide ((0:Int)=0))=false from rfl,bf,bf,show g_zip_Read_l0 k (I b) (es.map mkE) (a:Int) k (mo:Int) 0 0 []=_ from hg,show g_quireref05_Read_l0 k (I b) (es.map mkR) (es.map fun e=>(e.at_:Int)) (a:Int) k (mo:Int) 0 0 []=_ from hg2]
      cases hr:rdY (infY k) b a es [] mo 0 [] with
      | none=>exact .inl ⟨rfl,rfl⟩
      | some r =>
        rw [Option.map_some,Option.bind_some]
        cases r with
        | inl e=>exact .inr ⟨[],e,by simp,rfl,rfl⟩
        | inr y =>
          obtain ⟨x,acc⟩:=y
          have hacc:=rdY_acc _ _ _ _ _ _ _ hr
          by_cases h:x=a
          · refine .inr ⟨acc,0,by rw [hacc];simpa using hel,?_,?_⟩
            · show (bif (!decide ((x:Int)=(a:Int))) then some (([]:List S_api_File),(14:Int)) else some (acc.map mkF,0))=_
              rw [dt (show (x:Int)=(a:Int) by omega)];rfl
            · show (bif (!decide ((x:Int)=(a:Int))) then some (([]:List S_api_File),(14:Int)) else some (acc.map mkF,0))=_
              rw [dt (show (x:Int)=(a:Int) by omega)];rfl
          · refine .inr ⟨[],14,by simp,?_,?_⟩
            · show (bif (!decide ((x:Int)=(a:Int))) then some (([]:List S_api_File),(14:Int)) else some (acc.map mkF,0))=_
              rw [df (show ¬ (x:Int)=(a:Int) by omega)];rfl
            · show (bif (!decide ((x:Int)=(a:Int))) then some (([]:List S_api_File),(14:Int)) else some (acc.map mkF,0))=_
              rw [df (show ¬ (x:Int)=(a:Int) by omega)];rfl
  · refine .inr ⟨[],3,by simp,?_,?_⟩
    · unfold g_zip_directory
      rw [I_length,dt (show (1048576:Int)<((b.length:Nat):Int) by omega)];rfl
    · unfold g_quireref05_directory
      rw [I_length,dt (show (1048576:Int)<((b.length:Nat):Int) by omega)];rfl
theorem rsame_go (k:Nat) (fs:List Zf) (hl:fs.length≤64):∀ (n i:Nat),i≤fs.length→fs.length - i<n→g_quireref05_Same_l0 k (fs.map mkF) (fs.map mkF) n (i:Int)=some (Sum.inr ()):=by
  intro n
  induction n with
  | zero=>intro i _ h;omega
  | succ n ih =>
    intro i hi hn
    rw [g_quireref05_Same_l0.eq_2,List.length_map]
    by_cases h:i<fs.length
    · rw [dt (show (i:Int)<((fs.length:Nat):Int) by omega),ixM h]
      repeat (first | rw [Option.bind_some] | rw [bt])
      rw [beq_self_eq_true,beq_self_eq_true]
      repeat (first | rw [Option.bind_some] | rw [Bool.not_true] | rw [bf])
      rw [wi (by omega) (by omega),show ((i:Int)+1)=((i+1:Nat):Int) by omega]
      exact ih (i+1) (by omega) (by omega)
    · rw [df (show ¬ (i:Int)<((fs.length:Nat):Int) by omega)];rfl
theorem rsame_eq {k:Nat} (hk:300≤k) (fs:List Zf) (hl:fs.length≤64):g_quireref05_Same k (fs.map mkF) (fs.map mkF)=some true:=by
  unfold g_quireref05_Same
  rw [dt rfl,show g_quireref05_Same_l0 k (fs.map mkF) (fs.map mkF) k 0=_ from rsame_go k fs hl k 0 (by omega) (by omega)]
  rfl
theorem names_go (k:Nat) (fs:List Zf) (hl:fs.length≤64):∀ (n i:Nat),i≤fs.length→fs.length - i<n→g_zip_Names_l0 k (fs.map mkF) n (i:Int) ((fs.take i).map fun f=>zB f.1)=some (fs.map fun f=>zB f.1):=by
  intro n
  induction n with
  | zero=>intro i _ h;omega
  | succ n ih =>
    intro i hi hn
    rw [g_zip_Names_l0.eq_2,List.length_map]
    by_cases h:i<fs.length
    · rw [dt (show (i:Int)<((fs.length:Nat):Int) by omega),Option.bind_some,bt,ixM h,Option.bind_some,dt (show _≤(140737488355328:Nat) by rw [List.length_map,List.length_take];simp;omega),bt,wi (by omega) (by omega),show ((i:Int)+1)=((i+1:Nat):Int) by omega]
      have:=ih (i+1) (by omega) (by omega)
      rw [List.take_add_one,List.getElem?_eq_getElem h,Option.toList_some,List.map_append] at this
      exact this
    · rw [df (show ¬ (i:Int)<((fs.length:Nat):Int) by omega),List.take_of_length_le (by omega)];rfl
theorem law_go (k:Nat) (fs:List Zf) (hl:fs.length≤64):∀ (n i:Nat),i≤fs.length→fs.length - i<n→g_quirelaw05_ZipReads_l0 k (fs.map fun f=>zB f.1) (fs.map mkF) n (i:Int)=some (Sum.inr ()):=by
  intro n
  induction n with
  | zero=>intro i _ h;omega
  | succ n ih =>
    intro i hi hn
    rw [g_quirelaw05_ZipReads_l0.eq_2,List.length_map]
    by_cases h:i<fs.length
    · rw [dt (show (i:Int)<((fs.length:Nat):Int) by omega),Option.bind_some,bt,ixM h,ixM h,Option.bind_some,Option.bind_some,show (mkF fs[i]).fName=zB fs[i].1 from rfl,beq_self_eq_true,Bool.not_true,bf,wi (by omega) (by omega),show ((i:Int)+1)=((i+1:Nat):Int) by omega]
      exact ih (i+1) (by omega) (by omega)
    · rw [df (show ¬ (i:Int)<((fs.length:Nat):Int) by omega)];rfl
theorem unpY_some {k:Nat} (hk:20000000≤k) (e:Ent) (d:List UInt8) (hd:d.length≤1048576) (hsz:e.size≤262144):∃ x,unpY (infY k) e d=some x:=by
  unfold unpY
  split
  · exact ⟨_,rfl⟩
  by_cases h8:e.meth=8
  · rw [if_pos h8]
    have:∃ y,infY k d e.size=some y:=by
      rcases infY_cases hk hd (show e.size≤1048576 by omega) with ⟨c,x,o,hc,_,h1,h3⟩ | ⟨y,u,hy,_,h1,h3⟩
      · exact ⟨_,h3⟩
      · exact ⟨_,h3⟩
    obtain ⟨y,hy⟩:=this
    rw [hy,Option.bind_some]
    split
    · exact ⟨_,rfl⟩
    split <;> exact ⟨_,rfl⟩
  · rw [if_neg h8,Option.bind_some]
    split
    · exact ⟨_,rfl⟩
    split <;> exact ⟨_,rfl⟩
theorem rdY_some {k:Nat} (hk:20000000≤k) {b:List UInt8} (hb:b.length≤1048576) {dir:Nat}:∀ (l:List Ent) (seen:List (List UInt8)) (most a:Nat) (acc:List Zf),∃ r,rdY (infY k) b dir l seen most a acc=some r
  | [],_,_,_,_=>⟨_,rfl⟩
  | e::l,seen,most,a,acc=>by
    rw [rdY]
    split
    · exact ⟨_,rfl⟩
    split
    · exact ⟨_,rfl⟩
    split
    · exact ⟨_,rfl⟩
    split
    · exact ⟨_,rfl⟩
    split
    · exact ⟨_,rfl⟩
    obtain ⟨x,hx⟩:=unpY_some hk e ((b.drop (a+(30+e.name.length))).take e.packed) (by rw [List.length_take,List.length_drop];omega) (by omega)
    rw [hx,Option.bind_some]
    split
    · exact ⟨_,rfl⟩
    · exact rdY_some hk hb l _ _ _ _
theorem read_some (k:Nat) (hk:20000000≤k) (b:List UInt8) (most:Int) (hm:most≤9223372036854775807):g_zip_Read k (I b) most≠none:=by
  unfold g_zip_Read
  by_cases h0:most<0
  · rw [dt h0];exact fun h=>by cases h
  rw [df h0,bf]
  obtain ⟨mo,rfl⟩:∃ n:Nat,most=(n:Int):=⟨most.toNat,by omega⟩
  by_cases hb:b.length≤1048576
  · rw [directory_eq (by omega) b hb,Option.bind_some]
    cases hd:dirS b with
    | none=>exact fun h=>by cases h
    | some p =>
      obtain ⟨es,a⟩:=p
      obtain ⟨o,hbo,hao,heo,hel⟩:=dirS_ok hd
      have hal:a≤b.length:=by rw [hbo,hao,List.length_append];omega
      have hg:=read_go k hk b hb a hal es hel heo k 0 mo 0 [] (by omega) (by omega) (by omega) (by omega) (by simp) (by simp)
      rw [List.drop_zero,List.take_zero,List.map_nil,List.map_nil] at hg
      dsimp only
      rw [show (!decide ((0:Int)=0))=false from rfl,bf,show g_zip_Read_l0 k (I b) (es.map mkE) (a:Int) k (mo:Int) 0 0 []=_ from hg]
      obtain ⟨r,hr⟩:=rdY_some hk hb (dir:=a) es [] mo 0 []
      rw [hr,Option.map_some,Option.bind_some]
      cases r with
      | inl e=>exact fun h=>by cases h
      | inr y =>
        obtain ⟨x,acc⟩:=y
        show (bif (!decide ((x:Int)=(a:Int))) then some (([]:List S_api_File),(14:Int)) else some (acc.map mkF,0))≠none
        cases (!decide ((x:Int)=(a:Int))) <;> exact fun h=>by cases h
  · unfold g_zip_directory
    rw [I_length,dt (show (1048576:Int)<((b.length:Nat):Int) by omega)]
    exact fun h=>by cases h
theorem u8wfY {n:Int} (h:(Lit.int .u8 n).wf=true):0≤n∧n≤255:=by
  simp only [Lit.wf,IntKind.min,IntKind.max,IntKind.signed,IntKind.bits,Bool.and_eq_true,decide_eq_true_eq] at h
  simpa using h
theorem zipReads (l:List Int) (most:Int) (hl:l.length≤maxLen∧∀ x∈l,(Lit.int .u8 x).wf=true) (hm:(Lit.int .i64 most).wf=true):∃ k,g_quirelaw05_ZipReads k l most=some true:=by
  obtain ⟨b,rfl⟩:∃ b:List UInt8,l=I b:=⟨unY l,(I_unY fun y hy=>u8wfY (hl.2 y hy)).symm⟩
  have hm:=(i64_wf hm).2
  generalize hk:(20000000:Nat)=q
  refine ⟨q+300,?_⟩
  have hal:=aliveZ q
  generalize hkk:q+300=k at *
  have hk2:20000000≤k:=by omega
  unfold g_quirelaw05_ZipReads g_zip_Names
  rcases read_same k hk2 b most hm with ⟨h1,_⟩ | ⟨fs,e,hfl,h1,h2⟩
  · exact absurd h1 (read_some k hk2 b most hm)
  rcases read_same k hk2 b 1073741824 (by decide) with ⟨h3,_⟩ | ⟨gs,f,hgl,h3,h4⟩
  · exact absurd h3 (read_some k hk2 b 1073741824 (by decide))
  rw [h1,h2,h3,h4,hal]
  repeat (first | rw [Option.bind_some] | dsimp only)
  rw [dt rfl,rsame_eq (by omega) fs hfl]
  have hn:=names_go k gs hgl k 0 (by omega) (by omega)
  rw [List.take_zero,List.map_nil] at hn
  rw [show g_zip_Names_l0 k (gs.map mkF) k 0 []=_ from hn]
  repeat (first | rw [Bool.not_true] | rw [bf] | rw [Option.bind_some] | dsimp only)
  rw [dt rfl,List.length_map,List.length_map,dt rfl]
  repeat (first | rw [Bool.not_true] | rw [bf] | rw [Option.bind_some] | dsimp only)
  rw [show g_quirelaw05_ZipReads_l0 k (gs.map fun f=>zB f.1) (gs.map mkF) k 0=_ from law_go k gs hgl k 0 (by omega) (by omega)]
  rfl
end Go.Proofs.YtaphblcbnhnpaaaGreatDoor.W
