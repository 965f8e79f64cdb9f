/- Texts joined: part 6 of what LZipWrites stands on. -/
import Derived.Test.YtaphblcbnhnpaaaGreatDoorSZipWritese
namespace Go.Proofs.YtaphblcbnhnpaaaGreatDoor.W
open Go Go.Q Go.Proofs
set_option linter.unusedVariables false
set_option linter.unusedSimpArgs false
theorem wu32 {n:Nat} (h:n<4294967296):IntKind.wrap .u32 (n:Int)=(n:Int):=by
  have:IntKind.wrap .u32 (n:Int)=(n:Int)%4294967296:=by simp [IntKind.wrap,IntKind.bits,IntKind.signed]
  rw [this];omega
theorem com32 {n:Nat} (h:n<4294967296):bits .xor .u32 (if IntKind.signed .u32 then -1 else IntKind.max .u32) (n:Int)=((4294967295 - n:Nat):Int):=by
  have e1:(if IntKind.signed .u32 then (-1:Int) else IntKind.max .u32)=((BitVec.allOnes 32).toNat:Int):=by rfl
  have e2:(n:Int)=((BitVec.ofNat 32 n).toNat:Int):=by rw [BitVec.toNat_ofNat,Nat.mod_eq_of_lt h]
  rw [e1,e2,u32_xor]
  congr 1
  have:BitVec.allOnes 32 ^^^ BitVec.ofNat 32 n = ~~~ BitVec.ofNat 32 n:=by rw [BitVec.allOnes_xor]
  rw [this,BitVec.toNat_not,BitVec.toNat_ofNat,Nat.mod_eq_of_lt h]
def blkB (last:Bool) (x:List Int):List Bool:=[last,false,false]++(List.replicate 5 false++(vb x.length 16++(vb (4294967295 - x.length) 16++bytesB x)))
def storedB:Nat→List Int→List Bool
  | 0,_=>[]
  | n+1,x=>if x.length≤65535 then blkB true x else blkB false (x.take 65535)++storedB n (x.drop 65535)
theorem vb3 (b:Bool):vb (if b then 1 else 0) 3=[b,false,false]:=by cases b <;> rfl
theorem blk_len (last:Bool) (x:List Int):(blkB last x).length=8*(5+x.length):=by
  unfold blkB;simp only [List.length_append,vb_length,bytesB_length,List.length_replicate,List.length_cons,List.length_nil];omega
theorem stored_step (k:Nat) (hk:40≤k) (x:List Int) (hx:okB x) (hl:x.length≤65535) (last:Bool) {w:Int} {out:List Int} {B:List Bool} (hw:Wr w out B) (h8:B.length=8*out.length) (hs:out.length≤100000000) (K:Int→List Int→Option (Int × List Int)) :
    ∃ w' out',((g_bits_Writer_Put__b k (if last then 1 else 0) 3 w out).bind fun (x1280,x1281,x1282)=>((g_bits_Writer_Align k x1281 x1282).bind fun x1284=>((g_bits_Writer_Put__b k (IntKind.wrap .u32 (x.length:Int)) 16 x1284 x1282).bind fun (x1286,x1287,x1288)=>((some (bits .xor .u32 (if IntKind.signed .u32 then -1 else IntKind.max .u32) (IntKind.wrap .u32 (x.length:Int)))).bind fun x1289=>((g_bits_Writer_Put__b k x1289 16 x1287 x1288).bind fun (x1291,x1292,x1293)=>((g_bits_Writer_Bytes k x x1292 x1293).bind fun x1296=>K x1296 (x1293++x)))))))=K w' out'∧Wr w' out' (B++blkB last x)∧out'.length=out.length+5+x.length:=by
  obtain ⟨n1,b1,e1,w1⟩:=putv hk (v:=if last then 1 else 0) (c:=3) (by split <;> decide) (by decide) hw (by omega)
  have c1:((if last then 1 else 0:Nat):Int)=(if last then 1 else 0:Int):=by cases last <;> rfl
  rw [c1] at e1
  rw [show (3:Int)=((3:Nat):Int) from rfl,e1]
  simp only [Option.bind_some]
  unfold g_bits_Writer_Align
  simp only [Option.bind_some]
  have l1:=w1.l
  rw [List.length_append,vb_length] at l1
  rw [wi (n:=8*(b1.length:Int)) (by omega) (by omega),wu32 (by omega)]
  have w2:=w1.align
  rw [List.length_append,vb_length,show 8*b1.length - (B.length+3)=5 by omega,vb3] at w2
  obtain ⟨n3,b3,e3,w3⟩:=putv hk (v:=x.length) (c:=16) (by omega) (by decide) w2 (by simp;omega)
  rw [show (16:Int)=((16:Nat):Int) from rfl,e3]
  simp only [Option.bind_some]
  rw [com32 (by omega)]
  obtain ⟨n4,b4,e4,w4⟩:=putv hk (v:=4294967295 - x.length) (c:=16) (by omega) (by decide) w3 (by simp [vb_length];omega)
  rw [e4]
  simp only [Option.bind_some]
  have l4:=w4.l
  simp only [List.length_append,vb_length,List.length_replicate,List.length_cons,List.length_nil] at l4
  have w5:=w4.bytes (by simp only [List.length_append,vb_length,List.length_replicate,List.length_cons,List.length_nil];omega) hx
  unfold g_bits_Writer_Bytes
  rw [bd,if_pos (by omega),wi (by rw [List.length_append];omega) (by rw [List.length_append];omega)]
  simp only [Option.bind_some]
  refine ⟨_,_,rfl,?_,by rw [List.length_append];omega⟩
  have:B++blkB last x=B++[last,false,false]++List.replicate 5 false++vb x.length 16++vb (4294967295 - x.length) 16++bytesB x:=by unfold blkB;simp
  rw [this];exact w5
theorem stored_l0 (k:Nat) (hk:40≤k):∀ (n m:Nat) (x:List Int) (first:Bool) (w:Int) (out:List Int) (B:List Bool),okB x→x.length<65535*m→m<n→(first=true∨0<x.length)→Wr w out B→B.length=8*out.length→out.length+x.length+5*m≤10000000 →
    ∃ w' out',g_deflate_stored_l0 k n x first w out=some (w',out')∧Wr w' out' (B++storedB m x):=by
  intro n
  induction n with
  | zero=>intro m x first w out B _ _ h;omega
  | succ n ih =>
    intro m x first w out B hx hm hn hf hw h8 hs
    obtain ⟨m,rfl⟩:∃ j,m=j+1:=⟨m - 1,by omega⟩
    rw [g_deflate_stored_l0.eq_2]
    have hcond:((bif first then some true else ((some (decide (0<((List.length x:Nat):Int)))).bind fun x1243=>some x1243)):Option Bool)=some true:=by
      cases first with
      | true=>rfl
      | false => have : 0 < x.length := by simpa using hf
                 simp only [bf,Option.bind_some];rw [dt (by omega)]
    rw [hcond]
    simp only [Option.bind_some,bt]
    by_cases h:x.length≤65535
    · rw [if_neg (show ¬ (65535:Int)<((x.length:Nat):Int) by omega),dt rfl]
      simp only [Option.bind_some,bt]
      have ht:List.drop (Int.toNat 0) (List.take (Int.toNat ((x.length:Nat):Int)) x)=x:=by rw [Int.toNat_natCast];simp
      have hd:List.drop (Int.toNat ((x.length:Nat):Int)) (List.take (Int.toNat ((x.length:Nat):Int)) x)=[]:=by rw [Int.toNat_natCast];simp
      simp only [ht,hd]
      rw [dt (show (0≤(0:Int)∧(0:Int)≤(x.length:Int)∧(x.length:Int)≤(x.length:Int)) by omega),dt (show (0≤(x.length:Int)∧(x.length:Int)≤(x.length:Int)∧(x.length:Int)≤(x.length:Int)) by omega)]
      simp only [bt]
      obtain ⟨w',out',e,q1,q2⟩:=stored_step k hk x hx h true hw h8 (by omega) (fun a b=>g_deflate_stored_l0 k n [] false a b)
      refine ⟨w',out',?_,?_⟩
      · refine Eq.trans e ?_
        obtain ⟨n,rfl⟩:∃ j,n=j+1:=⟨n - 1,by omega⟩
        show g_deflate_stored_l0 k (n+1) [] false w' out'=_
        rw [g_deflate_stored_l0.eq_2];rfl
      · show Wr w' out' (B++(if x.length≤65535 then blkB true x else blkB false (x.take 65535)++storedB m (x.drop 65535)))
        rw [if_pos h];exact q1
    · rw [if_pos (show (65535:Int)<((x.length:Nat):Int) by omega),df (show ¬ (65535:Int)=((x.length:Nat):Int) by omega)]
      simp only [Option.bind_some,bf]
      have ht:List.drop (Int.toNat 0) (List.take (Int.toNat 65535) x)=x.take 65535:=rfl
      have hd:List.drop (Int.toNat 65535) (List.take (Int.toNat ((x.length:Nat):Int)) x)=x.drop 65535:=by rw [Int.toNat_natCast,List.take_of_length_le (Nat.le_refl _)];rfl
      simp only [ht,hd]
      rw [dt (show (0≤(0:Int)∧(0:Int)≤65535∧65535≤(x.length:Int)) by omega),dt (show (0≤(65535:Int)∧(65535:Int)≤(x.length:Int)∧(x.length:Int)≤(x.length:Int)) by omega)]
      simp only [bt]
      have hl:(x.take 65535).length=65535:=by rw [List.length_take];omega
      obtain ⟨w',out',e,q1,q2⟩:=stored_step k hk (x.take 65535) (fun v hv=>hx v (List.mem_of_mem_take hv)) (by omega) false hw h8 (by omega) (fun a b=>g_deflate_stored_l0 k n (x.drop 65535) false a b)
      rw [hl] at e
      have hB':(B++blkB false (x.take 65535)).length=8*out'.length:=by rw [List.length_append,blk_len];omega
      obtain ⟨w2,out2,r1,r2⟩:=ih m (x.drop 65535) false w' out' _ (fun v hv=>hx v (List.mem_of_mem_drop hv)) (by rw [List.length_drop];omega) (by omega) (.inr (by rw [List.length_drop];omega)) q1 hB' (by rw [List.length_drop];omega)
      refine ⟨w2,out2,Eq.trans e r1,?_⟩
      show Wr w2 out2 (B++(if x.length≤65535 then blkB true x else blkB false (x.take 65535)++storedB m (x.drop 65535)))
      rw [if_neg h,← List.append_assoc];exact r2
theorem stored_ok (k:Nat) (hk:200≤k) (x:List Int) (hx:okB x) (hl:x.length≤1048576):∃ n s,g_deflate_stored k x=some s∧Wr n s (storedB 20 x):=by
  unfold g_deflate_stored g_bits_NewWriter
  simp only [Option.bind_some]
  obtain ⟨w,s,e,h⟩:=stored_l0 k (by omega) k 20 x true 0 [] [] hx (by omega) (by omega) (.inl rfl) Wr.nil rfl (by simp;omega)
  rw [e]
  simp only [Option.bind_some]
  unfold g_bits_Writer_Done g_sc_Clone_byte_byte
  rw [List.nil_append] at h
  have hsl:=h.l
  have hbl:∀ (m:Nat) (x:List Int),(storedB m x).length≤8*(5*m+x.length):=by
    intro m
    induction m with
    | zero=>intro x;simp [storedB]
    | succ m ih =>
      intro x
      unfold storedB
      split
      · rw [blk_len];omega
      · rw [List.length_append,blk_len]
        have:=ih (x.drop 65535)
        rw [List.length_drop] at this
        rw [List.length_take];omega
  have:=hbl 20 x
  rw [bd,if_pos (by simp;omega)]
  exact ⟨w,s,rfl,h⟩
def okLit (i:Nat):Bool:=match g_deflate_lit 40 ((i+3:Nat):Int) with
  | some (s,v,e)=>decide (257≤s∧s≤285∧0≤v∧v<2^e.toNat∧0≤e∧e≤5)
  | none=>false
theorem okLits:∀ i:Fin 256,okLit i.val=true:=by decide +kernel
theorem lit_ok (k:Nat) (hk:40≤k) (n:Nat) (h1:3≤n) (h2:n≤258):∃ s v e:Nat,g_deflate_lit k (n:Int)=some ((s:Int),(v:Int),(e:Int))∧g_deflate_lit 40 (n:Int)=some ((s:Int),(v:Int),(e:Int))∧257≤s∧s≤285∧v<2^e∧e≤5:=by
  have h:=okLits ⟨n - 3,by omega⟩
  unfold okLit at h
  simp only [show n - 3+3=n by omega] at h
  cases hg:g_deflate_lit 40 (n:Int) with
  | none=>rw [hg] at h;cases h
  | some p =>
    obtain ⟨s,v,e⟩:=p
    rw [hg] at h
    have h:=of_decide_eq_true h
    obtain ⟨q1,q2,q3,q4,q5,q6⟩:=h
    obtain ⟨s,rfl⟩:∃ m:Nat,s=(m:Int):=⟨s.toNat,by omega⟩
    obtain ⟨v,rfl⟩:∃ m:Nat,v=(m:Int):=⟨v.toNat,by omega⟩
    obtain ⟨e,rfl⟩:∃ m:Nat,e=(m:Int):=⟨e.toNat,by omega⟩
    refine ⟨s,v,e,(g_deflate_lit_mono hk).h _ hg,rfl,by omega,by omega,?_,by omega⟩
    rw [Int.toNat_natCast] at q4
    have:((2^e:Nat):Int)=(2:Int)^e:=by simp
    omega
def bD (s:Nat):Nat:=if s<4 then s+1 else (2+s%2)*2^(s / 2 - 1)+1
def eD (s:Nat):Nat:=if s<4 then 0 else s / 2 - 1
theorem distT0:∀ s:Fin 30,g_inflate_Dist 0 ((s.val:Nat):Int)=some (((bD s.val:Nat):Int),((eD s.val:Nat):Int),true):=by decide +kernel
theorem distT (k:Nat) {s:Nat} (h:s<30):g_inflate_Dist k (s:Int)=some (((bD s:Nat):Int),((eD s:Nat):Int),true):=distT0 ⟨s,h⟩
theorem bD_next:∀ s:Fin 29,bD (s.val+1)=bD s.val+2^eD s.val:=by decide +kernel
theorem bD_le:∀ s:Fin 30,bD s.val≤24577∧1≤bD s.val∧eD s.val≤13:=by decide +kernel
theorem dist_l0 (k d:Nat) (hd:d≤32768):∀ (s n:Nat),s<30→s<n →
    (∃ t:Nat,g_deflate_symbol__b_l0 k 0 (d:Int) n (s:Int)=some (Sum.inl ((t:Int),((d - bD t:Nat):Int),((eD t:Nat):Int)))∧1≤t∧t≤s∧bD t≤d∧(t<s→d<bD (t+1))) ∨
    (g_deflate_symbol__b_l0 k 0 (d:Int) n (s:Int)=some (Sum.inr ())∧(0<s→d<bD 1)):=by
  intro s
  induction s with
  | zero =>
    intro n _ hn
    obtain ⟨n,rfl⟩:∃ j,n=j+1:=⟨n - 1,by omega⟩
    refine .inr ⟨?_,fun h=>by omega⟩
    rw [g_deflate_symbol__b_l0.eq_2,bd,if_neg (by omega)]
  | succ s ih =>
    intro n hs hn
    obtain ⟨n,rfl⟩:∃ j,n=j+1:=⟨n - 1,by omega⟩
    rw [g_deflate_symbol__b_l0.eq_2]
    simp only [bd]
    rw [if_pos (by omega),distT k hs]
    simp only [Option.bind_some]
    have hb:=bD_le ⟨s+1,hs⟩
    simp only at hb
    by_cases h:bD (s+1)≤d
    · rw [if_pos (by omega),wi (by omega) (by omega),show (d:Int) - ((bD (s+1):Nat):Int)=((d - bD (s+1):Nat):Int) by omega]
      exact .inl ⟨s+1,rfl,by omega,Nat.le_refl _,h,fun h=>by omega⟩
    · rw [if_neg (by omega),wi (by omega) (by omega),show (((s+1:Nat):Int)) - 1=(s:Int) by omega]
      rcases ih n (by omega) (by omega) with ⟨t,e1,e2,e3,e4,e5⟩ | ⟨e1,e2⟩
      · refine .inl ⟨t,e1,e2,by omega,e4,fun h'=>?_⟩
        by_cases hts:t<s
        · exact e5 hts
        · have:t=s:=by omega
          subst this;omega
      · refine .inr ⟨e1,fun _=>?_⟩
        by_cases h0:0<s
        · exact e2 h0
        · have:s=0:=by omega
          subst this;exact Nat.lt_of_not_le h
theorem dist_ok (k:Nat) (hk:40≤k) (d:Nat) (h1:1≤d) (h2:d≤32768):∃ t:Nat,g_deflate_dist k (d:Int)=some ((t:Int),((d - bD t:Nat):Int),((eD t:Nat):Int))∧t<30∧bD t≤d∧d - bD t<2^eD t∧eD t≤13∧(t<29→d<bD (t+1)):=by
  unfold g_deflate_dist g_deflate_symbol__b
  have fin:∀ t:Nat,t<30→bD t≤d→(t<29→d<bD (t+1))→d - bD t<2^eD t∧eD t≤13:=by
    intro t ht hb hn
    refine ⟨?_,(bD_le ⟨t,ht⟩).2.2⟩
    by_cases h:t<29
    · have:=bD_next ⟨t,h⟩
      simp only at this
      have:=hn h
      omega
    · have:t=29:=by omega
      subst this
      have e1:bD 29=24577:=by decide
      have e2:2^eD 29=8192:=by decide
      omega
  rcases dist_l0 k d h2 29 k (by decide) (by omega) with ⟨t,e1,e2,e3,e4,e5⟩ | ⟨e1,e2⟩
  · rw [show (29:Int)=((29:Nat):Int) from rfl,e1]
    obtain ⟨f1,f2⟩:=fin t (by omega) e4 e5
    exact ⟨t,rfl,by omega,e4,f1,f2,e5⟩
  · have hd1:d<bD 1:=e2 (by decide)
    have hb0:bD 0=1:=rfl
    rw [show (29:Int)=((29:Nat):Int) from rfl,e1]
    simp only [Option.bind_some]
    rw [show (0:Int)=((0:Nat):Int) from rfl,distT k (by decide)]
    simp only [Option.bind_some]
    rw [wi (by omega) (by omega),show (d:Int) - ((bD 0:Nat):Int)=((d - bD 0:Nat):Int) by omega]
    obtain ⟨f1,f2⟩:=fin 0 (by decide) (by omega) (fun _=>hd1)
    exact ⟨0,rfl,by decide,by omega,f1,f2,fun _=>hd1⟩
set_option linter.unusedSectionVars false
abbrev It:=S_deflate_Item
def byA (b:List Int) (i:Nat):Int:=b.getD i 0
def tri (b:List Int) (i:Nat):Int × Int × Int:=(byA b i,byA b (i+1),byA b (i+2))
theorem ix_by {b:List Int} {i:Nat} (h:i<b.length):ix b (i:Int)=some (byA b i):=by
  rw [ix_nat h];simp [byA,List.getD_eq_getElem?_getD,List.getElem?_eq_getElem h]
theorem by_cut {b:List Int} {i n:Nat} (j:Nat) (hj:j<n):(List.drop i (List.take (i+n) b)).getD j 0=byA b (i+j):=by
  unfold byA
  rw [List.getD_eq_getElem?_getD,List.getD_eq_getElem?_getD,List.getElem?_drop,List.getElem?_take_of_lt (by omega)]
structure Mt (b:List Int) (nx:Nat) (h:List ((Int × Int × Int) × Int)) (p:List Int):Prop where
  le:nx≤b.length
  len:p.length=b.length
  head:∀ k v,mapGet h k=some v→0≤v∧v<nx∧v+3≤b.length∧tri b v.toNat=k
  all:∀ i,i<nx→∃ v,mapGet h (tri b i)=some v∧(i:Int)≤v
  prev:∀ i (hi:i<p.length),i<nx → -1≤p[i]∧p[i]<i
theorem mt_zero (b:List Int):Mt b 0 [] (List.replicate b.length 0):=⟨Nat.zero_le _,by simp,fun k v h=>by simp [mapGet_nil] at h,fun i h=>absurd h (Nat.not_lt_zero _),fun i _ h=>absurd h (Nat.not_lt_zero _)⟩
theorem learn_l0 (k:Nat) (b:List Int) (hb:b.length≤100000000) (to:Nat) (hto:to≤b.length):∀ (n nx:Nat) (h:List ((Int × Int × Int) × Int)) (p:List Int),Mt b nx h p→b.length - nx<n →
    ∃ (nx':Nat) (h':List ((Int × Int × Int) × Int)) (p':List Int),g_deflate_matcher_learn_l0 k (to:Int) b n (nx:Int) h p=some ((nx':Int),h',p')∧Mt b nx' h' p'∧nx≤nx'∧(nx≤to→nx'≤to)∧(to≤nx'∨b.length<nx'+3):=by
  intro n
  induction n with
  | zero=>intro nx h p _ hn;omega
  | succ n ih =>
    intro nx h p hm hn
    have hnx:=hm.le
    rw [g_deflate_matcher_learn_l0.eq_2]
    simp only [bd,Option.bind_some]
    by_cases h1:nx<to
    · rw [if_pos (by omega),wi (n:=(nx:Int)+3) (by omega) (by omega)]
      by_cases h2:nx+3≤b.length
      · rw [dt (by omega)]
        simp only [Option.bind_some,bt]
        rw [if_pos (by omega),show (nx:Int)+3=((nx+3:Nat):Int) by omega,Int.toNat_natCast,Int.toNat_natCast]
        rw [by_cut 0 (by omega),by_cut 1 (by omega),by_cut 2 (by omega),if_pos (by rw [List.length_drop,List.length_take];omega)]
        rw [show (byA b (nx+0),byA b (nx+1),byA b (nx+2))=tri b nx from rfl]
        have hat:∃ q:Int,(bif !(mapGet h (tri b nx)).isSome then some (-1) else some ((mapGet h (tri b nx)).getD 0))=some q ∧ -1≤q∧q<nx:=by
          cases hg:mapGet h (tri b nx) with
          | none=>exact ⟨-1,rfl,by omega,by omega⟩
          | some v =>
            have:=hm.head _ _ hg
            exact ⟨v,rfl,by omega,by omega⟩
        obtain ⟨q,q1,q2,q3⟩:=hat
        rw [q1]
        simp only [Option.bind_some]
        rw [ix_nat (l:=p) (by rw [hm.len];omega)]
        simp only [Option.bind_some]
        rw [wi (n:=(nx:Int)+1) (by omega) (by omega),show (nx:Int)+1=((nx+1:Nat):Int) by omega]
        have hm':Mt b (nx+1) (mapPut h (tri b nx) (nx:Int)) (p.set nx q):=by
          refine ⟨by omega,by rw [List.length_set,hm.len],fun key v hv=>?_,fun i hi=>?_,fun i hi hin=>?_⟩
          · rw [mapGet_put] at hv
            split at hv
            · rename_i e
              obtain rfl:=Option.some.inj hv
              exact ⟨by omega,by omega,by omega,by rw [e,Int.toNat_natCast]⟩
            · have:=hm.head _ _ hv
              exact ⟨this.1,by omega,this.2.2⟩
          · rw [mapGet_put]
            by_cases e:tri b i=tri b nx
            · rw [if_pos e];exact ⟨_,rfl,by omega⟩
            · rw [if_neg e]
              exact hm.all i (by
                rcases Nat.lt_or_eq_of_le (Nat.le_of_lt_succ hi) with w | w
                · exact w
                · rw [w] at e;exact absurd rfl e)
          · rw [List.getElem_set]
            by_cases e:nx=i
            · rw [if_pos e];omega
            · rw [if_neg e];rw [List.length_set] at hi;exact hm.prev i hi (by omega)
        obtain ⟨nx',h',p',r1,r2,r3,r4,r5⟩:=ih (nx+1) _ _ hm' (by omega)
        exact ⟨nx',h',p',r1,r2,by omega,fun _=>r4 (by omega),r5⟩
      · rw [df (by omega)]
        exact ⟨nx,h,p,rfl,hm,Nat.le_refl _,id,.inr (by omega)⟩
    · rw [if_neg (by omega)]
      exact ⟨nx,h,p,rfl,hm,Nat.le_refl _,id,.inl (by omega)⟩
theorem longest_l1 (k:Nat) (b:List Int) (hb:b.length≤100000000) (at_ fr:Nat) (hf:fr<at_) (ha:at_≤b.length):∀ (n m:Nat),m≤258→258 - m<n→at_+m≤b.length→(∀ j,j<m→byA b (fr+j)=byA b (at_+j)) →
    ∃ m':Nat,g_deflate_matcher_longest_l1 k (at_:Int) b (fr:Int) n (m:Int)=some (m':Int)∧m'≤258∧at_+m'≤b.length∧(∀ j,j<m'→byA b (fr+j)=byA b (at_+j))∧(∀ l,l≤258→at_+l≤b.length→(∀ j,j<l→byA b (fr+j)=byA b (at_+j))→l≤m'):=by
  intro n
  induction n with
  | zero=>intro m _ h;omega
  | succ n ih =>
    intro m hm hn hl hj
    rw [g_deflate_matcher_longest_l1.eq_2]
    simp only [bd,Option.bind_some]
    by_cases h1:m<258
    · rw [if_pos (by omega),wi (n:=(at_:Int)+m) (by omega) (by omega)]
      by_cases h2:at_+m<b.length
      · rw [if_pos (by omega),wi (n:=(fr:Int)+m) (by omega) (by omega),show (fr:Int)+m=((fr+m:Nat):Int) by omega,show (at_:Int)+m=((at_+m:Nat):Int) by omega,ix_by (by omega),ix_by h2]
        simp only [Option.bind_some]
        by_cases h3:byA b (fr+m)=byA b (at_+m)
        · rw [dt h3,bt,wi (n:=(m:Int)+1) (by omega) (by omega),show (m:Int)+1=((m+1:Nat):Int) by omega]
          exact ih (m+1) (by omega) (by omega) (by omega) (fun j hj'=>by
            rcases Nat.lt_or_eq_of_le (Nat.le_of_lt_succ hj') with w | w
            · exact hj j w
            · rw [w];exact h3)
        · rw [df h3]
          refine ⟨m,rfl,hm,hl,hj,fun l hl1 hl2 hl3=>Nat.le_of_not_lt fun w=>h3 (hl3 m w)⟩
      · rw [if_neg (by omega)]
        exact ⟨m,rfl,hm,hl,hj,fun l _ hl2 _=>by omega⟩
    · rw [if_neg (by omega)]
      exact ⟨m,rfl,hm,hl,hj,fun l hl1 _ _=>by omega⟩
def Cp (b:List Int) (at_ n d:Nat):Prop:=n≤258∧at_+n≤b.length∧1≤d∧d≤at_∧d≤32768∧∀ j,j<n→byA b (at_ - d+j)=byA b (at_+j)
theorem longest_l0 (k:Nat) (hk:300≤k) (b:List Int) (hb:b.length≤100000000) (at_:Nat) (ha:at_≤b.length) (p:List Int) (hp:p.length=b.length) (nx:Nat) (hnx:nx≤at_) (hpv:∀ i (hi:i<p.length),i<nx → -1≤p[i]∧p[i]<i):∀ (n c:Nat) (fr:Int) (bst dst:Nat),c≤32→32 - c<n → -1≤fr→fr<nx→(0<bst→Cp b at_ bst dst)→(bst=0→dst=0) →
    ∃ bst' dst':Nat,g_deflate_matcher_longest_l0 k (at_:Int) b p n fr (bst:Int) (dst:Int) (c:Int)=some ((bst':Int),(dst':Int))∧(0<bst'→Cp b at_ bst' dst')∧(bst'=0→dst'=0)∧bst≤bst' ∧
      (c<32→0≤fr→(at_:Int) - fr≤32768→∀ l,l≤258→at_+l≤b.length→(∀ j,j<l→byA b (fr.toNat+j)=byA b (at_+j))→l≤bst'):=by
  intro n
  induction n with
  | zero=>intro c fr bst dst _ h;omega
  | succ n ih =>
    intro c fr bst dst hc hn hf1 hf2 hcp hz
    rw [g_deflate_matcher_longest_l0.eq_2]
    simp only [bd,Option.bind_some]
    by_cases h1:c<32
    · rw [if_pos (by omega)]
      by_cases h2:fr<0
      · rw [if_pos h2]
        exact ⟨bst,dst,rfl,hcp,hz,Nat.le_refl _,fun _ h=>by omega⟩
      · rw [if_neg h2,wi (n:=(at_:Int) - fr) (by omega) (by omega)]
        by_cases h3:32768<(at_:Int) - fr
        · rw [dt h3]
          exact ⟨bst,dst,rfl,hcp,hz,Nat.le_refl _,fun _ _ h=>by omega⟩
        · rw [df h3]
          simp only [Option.bind_some,bf]
          obtain ⟨f,rfl⟩:∃ f:Nat,fr=(f:Int):=⟨fr.toNat,by omega⟩
          obtain ⟨m,m1,m2,m3,m4,m5⟩:=longest_l1 k b hb at_ f (by omega) ha k 0 (by omega) (by omega) (by omega) (fun j h=>by omega)
          rw [show ((0:Nat):Int)=0 from rfl] at m1
          rw [m1]
          simp only [Option.bind_some]
          have hq:∃ bq dq:Nat,(if (bst:Int)<m then some ((m:Int),(at_:Int) - (f:Int)) else some ((bst:Int),(dst:Int)))=some ((bq:Int),(dq:Int))∧(0<bq→Cp b at_ bq dq)∧(bq=0→dq=0)∧bst≤bq∧m≤bq:=by
            by_cases h4:bst<m
            · rw [if_pos (by omega)]
              refine ⟨m,at_ - f,by rw [show ((at_ - f:Nat):Int)=(at_:Int) - f by omega],fun _=>⟨m2,m3,by omega,by omega,by omega,fun j hj=>?_⟩,fun h=>by omega,by omega,Nat.le_refl _⟩
              rw [show at_ - (at_ - f)=f by omega];exact m4 j hj
            · rw [if_neg (by omega)]
              exact ⟨bst,dst,rfl,hcp,hz,Nat.le_refl _,by omega⟩
          obtain ⟨bq,dq,q1,q2,q3,q4,q5⟩:=hq
          rw [q1]
          simp only [Option.bind_some]
          have hfp:f<p.length:=by omega
          rw [ix_nat hfp]
          simp only [Option.bind_some]
          have hpf:=hpv f hfp (by omega)
          rw [wi (n:=(c:Int)+1) (by omega) (by omega),show (c:Int)+1=((c+1:Nat):Int) by omega]
          obtain ⟨b',d',r1,r2,r3,r4,_⟩:=ih (c+1) p[f] bq dq (by omega) (by omega) hpf.1 (by omega) q2 q3
          refine ⟨b',d',r1,r2,r3,by omega,fun _ _ _ l l1 l2 l3=>?_⟩
          have:=m5 l l1 l2 (by simpa using l3)
          omega
    · rw [if_neg (by omega)]
      exact ⟨bst,dst,rfl,hcp,hz,Nat.le_refl _,fun h=>by omega⟩
theorem longest (k:Nat) (b:List Int) (hb:b.length≤100000000) (hk:b.length+300≤k) (at_:Nat) (ha:at_<b.length) (nx:Nat) (h:List ((Int × Int × Int) × Int)) (p:List Int) (hm:Mt b nx h p) (hnx:nx≤at_) :
    ∃ (bst dst nx':Nat) (h':List ((Int × Int × Int) × Int)) (p':List Int),g_deflate_matcher_longest k (at_:Int) b (nx:Int) h p=some ((bst:Int),(dst:Int),(nx':Int),h',p')∧Mt b nx' h' p'∧nx'≤at_∧(0<bst→Cp b at_ bst dst) ∧
      (1≤at_→at_+3≤b.length→byA b (at_ - 1)=byA b at_→byA b at_=byA b (at_+1)→byA b (at_+1)=byA b (at_+2)→3≤bst):=by
  unfold g_deflate_matcher_longest
  simp only [bd,Option.bind_some]
  rw [wi (n:=(at_:Int)+3) (by omega) (by omega)]
  by_cases h1:b.length<at_+3
  · rw [if_pos (by omega)]
    exact ⟨0,0,nx,h,p,rfl,hm,hnx,fun h=>by omega,fun _ h=>by omega⟩
  · rw [if_neg (by omega)]
    unfold g_deflate_matcher_learn
    obtain ⟨nx',h',p',r1,r2,r3,r4,r5⟩:=learn_l0 k b hb at_ (by omega) k nx h p hm (by omega)
    rw [r1]
    simp only [Option.bind_some]
    rw [if_pos (by omega),show (at_:Int)+3=((at_+3:Nat):Int) by omega,Int.toNat_natCast,Int.toNat_natCast]
    rw [by_cut 0 (by omega),by_cut 1 (by omega),by_cut 2 (by omega),if_pos (by rw [List.length_drop,List.length_take];omega)]
    rw [show (byA b (at_+0),byA b (at_+1),byA b (at_+2))=tri b at_ from rfl]
    have hx:=r4 hnx
    have hge:at_≤nx':=by rcases r5 with q | q <;> omega
    obtain rfl:nx'=at_:=by omega
    have hrun:1≤nx'→nx'+3≤b.length→byA b (nx' - 1)=byA b nx'→byA b nx'=byA b (nx'+1)→byA b (nx'+1)=byA b (nx'+2)→mapGet h' (tri b nx')=some (((nx' - 1:Nat):Int)):=by
      intro e0 _ e1 e2 e3
      obtain ⟨v,v1,v2⟩:=r2.all (nx' - 1) (by omega)
      have:tri b (nx' - 1)=tri b nx':=by
        unfold tri
        rw [show nx' - 1+1=nx' by omega,show nx' - 1+2=nx'+1 by omega,e1,e2,e3]
      rw [this] at v1
      have:=r2.head _ _ v1
      rw [v1];congr 1;omega
    cases hg:mapGet h' (tri b nx') with
    | none =>
      refine ⟨0,0,nx',h',p',rfl,r2,Nat.le_refl _,fun h=>by omega,fun e0 e e1 e2 e3=>?_⟩
      rw [hrun e0 e e1 e2 e3] at hg;cases hg
    | some v =>
      simp only [Option.isSome_some,Bool.not_true,bf,Option.getD_some]
      have hv:=r2.head _ _ hg
      obtain ⟨b',d',s1,s2,s3,s4,s5⟩:=longest_l0 k (by omega) b hb nx' (by omega) p' r2.len nx' (Nat.le_refl _) r2.prev k 0 v 0 0 (by omega) (by omega) (by omega) (by omega) (fun h=>by omega) (fun _=>rfl)
      rw [show ((0:Nat):Int)=0 from rfl] at s1
      rw [s1]
      refine ⟨b',d',nx',h',p',rfl,r2,Nat.le_refl _,s2,fun e0 e e1 e2 e3=>?_⟩
      have hvv:=hrun e0 e e1 e2 e3
      rw [hg] at hvv
      have hvn:v=((nx' - 1:Nat):Int):=Option.some.inj hvv
      refine s5 (by decide) hv.1 (by omega) 3 (by decide) (by omega) fun j hj=>?_
      rw [hvn,Int.toNat_natCast]
      obtain rfl | rfl | rfl:j=0∨j=1∨j=2:=by omega
      · exact e1
      · rw [show nx' - 1+1=nx' by omega];exact e2
      · rw [show nx' - 1+2=nx'+1 by omega];exact e3
def PI (b:List Int):Nat→List It→Prop
  | at_,[]=>at_=b.length
  | at_,x::l=>(at_<b.length∧x=⟨byA b at_,0,0⟩∧¬ (1≤at_∧at_+3≤b.length∧byA b (at_ - 1)=byA b at_∧byA b at_=byA b (at_+1)∧byA b (at_+1)=byA b (at_+2))∧PI b (at_+1) l) ∨
      ∃ n d:Nat,3≤n∧x=⟨0,n,d⟩∧Cp b at_ n d∧PI b (at_+n) l
def Bytes (b:List Int):Prop:=∀ x∈b,0≤x∧x≤255
theorem by_rng {b:List Int} (hb:Bytes b) (i:Nat):0≤byA b i∧byA b i≤255:=by
  unfold byA
  by_cases h:i<b.length
  · have e:b.getD i 0=b[i]:=by simp [List.getD_eq_getElem?_getD,List.getElem?_eq_getElem h]
    rw [e];exact hb _ (List.getElem_mem h)
  · have e:b.getD i 0=0:=by simp [List.getD_eq_getElem?_getD,List.getElem?_eq_none (Nat.le_of_not_lt h)]
    rw [e];omega
theorem collect_l0 (k:Nat) (b:List Int) (hb:b.length≤100000000) (hB:Bytes b) (hk:b.length+300≤k):∀ (n at_ nx:Nat) (h:List ((Int × Int × Int) × Int)) (p:List Int) (acc:List It),at_≤b.length→b.length - at_<n→Mt b nx h p→nx≤at_→acc.length≤at_ →
    ∃ l,g_sc_AppendSeq_deflate_Item_deflate_Item_l0 k b n (at_:Int) (nx:Int) h p acc=some (acc++l)∧PI b at_ l:=by
  intro n
  induction n with
  | zero=>intro at_ nx h p acc _ hn;omega
  | succ n ih =>
    intro at_ nx h p acc ha hn hm hnx hacc
    rw [g_sc_AppendSeq_deflate_Item_deflate_Item_l0.eq_2]
    simp only [bd,Option.bind_some]
    by_cases h1:at_<b.length
    · rw [if_pos (by omega),ix_by h1]
      simp only [Option.bind_some]
      obtain ⟨bst,dst,nx',h',p',r1,r2,r3,r4,r5⟩:=longest k b hb hk at_ h1 nx h p hm hnx
      rw [r1]
      simp only [Option.bind_some]
      by_cases h2:3≤bst
      · have hcp:=r4 (by omega)
        have hcp':=hcp
        unfold Cp at hcp'
        rw [if_pos (by omega)]
        simp only [Option.bind_some]
        rw [if_pos (by simp;omega),wi (n:=(at_:Int)+bst) (by omega) (by omega),show (at_:Int)+bst=((at_+bst:Nat):Int) by omega]
        obtain ⟨l,l1,l2⟩:=ih (at_+bst) nx' h' p' (acc++[⟨0,bst,dst⟩]) (by omega) (by omega) r2 (by omega) (by simp;omega)
        exact ⟨⟨0,bst,dst⟩::l,by rw [l1];simp,.inr ⟨bst,dst,h2,rfl,hcp,l2⟩⟩
      · rw [if_neg (by omega)]
        simp only [Option.bind_some]
        have hby:=by_rng hB at_
        rw [wi (n:=byA b at_) (by omega) (by omega),if_pos (by simp;omega),wi (n:=(at_:Int)+1) (by omega) (by omega),show (at_:Int)+1=((at_+1:Nat):Int) by omega]
        obtain ⟨l,l1,l2⟩:=ih (at_+1) nx' h' p' (acc++[⟨byA b at_,0,0⟩]) (by omega) (by omega) r2 (by omega) (by simp;omega)
        exact ⟨⟨byA b at_,0,0⟩::l,by rw [l1];simp,.inl ⟨h1,rfl,fun ⟨e0,e,e1,e2,e3⟩=>h2 (r5 e0 e e1 e2 e3),l2⟩⟩
    · rw [if_neg (by omega)]
      exact ⟨[],by simp,by show at_=b.length;omega⟩
theorem parse_ok (k:Nat) (b:List Int) (hb:b.length≤100000000) (hB:Bytes b) (hk:b.length+300≤k):∃ l,g_deflate_Parse k b=some l∧PI b 0 l:=by
  unfold g_deflate_Parse g_deflate_items g_sc_Collect_deflate_Item g_sc_AppendSeq_deflate_Item_deflate_Item
  simp only [Option.bind_some,bd]
  rw [if_pos (by omega),Int.toNat_natCast]
  obtain ⟨l,l1,l2⟩:=collect_l0 k b hb hB hk k 0 0 [] (List.replicate b.length 0) [] (by omega) (by omega) (mt_zero b) (Nat.le_refl _) (Nat.le_refl _)
  rw [show ((0:Nat):Int)=0 from rfl] at l1
  simp only [Option.bind_some]
  rw [l1]
  exact ⟨l,rfl,l2⟩
def Us (l:List Int) (s:Nat):Prop:=s<l.length∧0<l.getD s 0
def codeB (l:List Int) (s:Nat):List Bool:=cb (cd l s) (l.getD s 0).toNat
theorem len15 {l:List Int} (h:(judge l).2=0) (s:Nat):(l.getD s 0).toNat≤15:=by
  obtain ⟨hl,hb,hk⟩:=judge_ok h
  by_cases hs:s<l.length
  · have e:l.getD s 0=l[s]:=by simp [List.getD_eq_getElem?_getD,List.getElem?_eq_getElem hs]
    have:¬ badX l[s]:=fun q=>hb ⟨_,List.getElem_mem hs,q⟩
    unfold badX at this
    rw [e];omega
  · have e:l.getD s 0=0:=by simp [List.getD_eq_getElem?_getD,List.getElem?_eq_none (Nat.le_of_not_lt hs)]
    rw [e];decide
theorem cd_small {l:List Int} (h:(judge l).2=0) {s:Nat} (hu:Us l s):cd l s≤32768:=by
  obtain ⟨hl,hb,hk⟩:=judge_ok h
  have hs:sr l 16≤32768:=by
    have:=sr_all hb
    have h16:=(sumW_le hb).2
    rcases hk with q | q | q
    · omega
    · have:∀ l:List Int,¬ badL l→cntL l=0→sumW l=0:=by
        intro l
        induction l with
        | nil=>intro _ _;rfl
        | cons x l ih =>
          intro hb h0
          rw [badL_cons,not_or] at hb
          have h1:=there_le x
          have h2:=cntL_le l
          simp only [cntL] at h0
          have:=ih hb.2 (by omega)
          simp only [sumW,this]
          unfold wt
          unfold there at h0 h1
          split
          · rename_i hx;rw [if_pos hx] at h0;omega
          · rfl
      have:=this l hb q
      omega
    · omega
  have h15:=len15 h s
  have:=hf_small hs (c:=(l.getD s 0).toNat) (by have:=hu.2;omega) h15
  unfold cd
  have hc:(l.take s).count (l.getD s 0)≤cn l (l.getD s 0).toNat:=by
    have:=count_take_le l s (l.getD s 0)
    unfold cn
    rw [show (((l.getD s 0).toNat:Nat):Int)=l.getD s 0 by have:=hu.2;omega]
    exact this
  omega
theorem code_ix {k:Nat} {l:List Int} (h:(judge l).2=0) {s:Nat} (hu:Us l s):ix (codesL l).1 (s:Int)=some ((cd l s:Nat):Int)∧ix l (s:Int)=some (((l.getD s 0).toNat:Nat):Int):=by
  have e:l.getD s 0=l[s]'hu.1:=by simp [List.getD_eq_getElem?_getD,List.getElem?_eq_getElem hu.1]
  have h0:0<l[s]'hu.1:=by rw [← e];exact hu.2
  have:=codesL_get h hu.1 h0
  refine ⟨by simp [ix,this],?_⟩
  rw [ix_nat hu.1]
  congr 1;omega
theorem put_sym {k:Nat} (hk:40≤k) {l:List Int} (h:(judge l).2=0) {s:Nat} (hu:Us l s) {n:Int} {b:List Int} {B:List Bool} (hw:Wr n b B) (hB:B.length≤1000000000) :
    ∃ n' b',g_deflate_put k ((cd l s:Nat):Int) (((l.getD s 0).toNat:Nat):Int) n b=some (n',b')∧Wr n' b' (B++codeB l s)∧(codeB l s).length≤15:=by
  have h15:=len15 h s
  have hc:=cd_small h hu
  obtain ⟨n',b',e,w⟩:=put_code hk (v:=cd l s) (c:=(l.getD s 0).toNat) (by omega) (by omega) hw (by omega)
  exact ⟨n',b',e,w,by unfold codeB;rw [cb_length];exact h15⟩
def symL (n:Int):Nat × Nat × Nat:=match g_deflate_lit 40 n with
  | some (s,v,e)=>(s.toNat,v.toNat,e.toNat)
  | none=>(0,0,0)
theorem symL_ok (k:Nat) (hk:40≤k) (n:Nat) (h1:3≤n) (h2:n≤258):g_deflate_lit k (n:Int)=some (((symL n).1:Int),((symL n).2.1:Int),((symL n).2.2:Int))∧257≤(symL n).1∧(symL n).1≤285∧(symL n).2.1<2^(symL n).2.2∧(symL n).2.2≤5:=by
  obtain ⟨s,v,e,q1,q2,q3⟩:=lit_ok k hk n h1 h2
  have:symL n=(s,v,e):=by unfold symL;rw [q2];simp
  rw [this];exact ⟨q1,q3⟩
def symD (n:Int):Nat:=match g_deflate_dist 40 n with
  | some (s,_,_)=>s.toNat
  | none=>0
theorem symD_ok (k:Nat) (hk:40≤k) (d:Nat) (h1:1≤d) (h2:d≤32768):g_deflate_dist k (d:Int)=some ((symD d:Int),((d - bD (symD d):Nat):Int),((eD (symD d):Nat):Int))∧symD d<30∧bD (symD d)≤d∧d - bD (symD d)<2^eD (symD d)∧eD (symD d)≤13:=by
  obtain ⟨t0,p1,p2⟩:=dist_ok 40 (by decide) d h1 h2
  have hs:symD d=t0:=by unfold symD;rw [p1];simp
  obtain ⟨t,q1,q2,q3,q4,q5,q6⟩:=dist_ok k hk d h1 h2
  have:t=t0:=by
    have:=(g_deflate_dist_mono (k:=40) (k':=k) hk).h _ p1
    rw [q1] at this
    have:=Option.some.inj this
    have:=(Prod.mk.inj this).1
    omega
  subst this
  rw [hs];exact ⟨q1,q2,q3,q4,q5⟩
def OkI (ll dl:List Int) (x:It):Prop:=(∃ c:Nat,x=⟨c,0,0⟩∧c≤255∧Us ll c)∨∃ n d:Nat,x=⟨0,n,d⟩∧3≤n∧n≤258∧1≤d∧d≤32768∧Us ll (symL n).1∧Us dl (symD d)
def itB (ll dl:List Int) (x:It):List Bool :=
  if x.fLen=0 then codeB ll x.fByte.toNat else codeB ll (symL x.fLen).1++(vb (symL x.fLen).2.1 (symL x.fLen).2.2++(codeB dl (symD x.fDist)++vb (x.fDist.toNat - bD (symD x.fDist)) (eD (symD x.fDist))))
theorem all_l0 (k:Nat) (hk:400≤k) (ll dl:List Int) (hll:(judge ll).2=0) (hdl:(judge dl).2=0):∀ (n:Nat) (dn l:List It) (w:Int) (b:List Int) (B:List Bool),l.length<n→(∀ x∈l,OkI ll dl x)→dn.length+l.length≤10000000→Wr w b B→B.length+48*l.length≤1000000000 →
    ∃ w' b',g_deflate_coder_all_l0 k (dn++l) ll dl (codesL ll).1 (codesL dl).1 n (dn.length:Int) w b=some (w',b')∧Wr w' b' (B++l.flatMap (itB ll dl))∧(l.flatMap (itB ll dl)).length≤48*l.length:=by
  intro n
  induction n with
  | zero=>intro dn l w b B h;omega
  | succ n ih =>
    intro dn l w b B hn hl hd hw hB
    rw [g_deflate_coder_all_l0.eq_2]
    simp only [bd,Option.bind_some]
    cases l with
    | nil=>rw [if_neg (by simp)];exact ⟨w,b,rfl,by simpa using hw,by simp⟩
    | cons x l =>
      simp only [List.length_cons] at hn hd hB
      have hx:ix (dn++x::l) (dn.length:Int)=some x:=by rw [ix_nat (by simp)];simp
      rw [if_pos (by simp;omega),hx]
      simp only [Option.bind_some]
      have key:∃ w1 b1,(if x.fLen=0 then ((ix (codesL ll).1 x.fByte).bind fun x5096=>((ix ll x.fByte).bind fun x5097=>((g_deflate_put k x5096 x5097 w b).bind fun (x5099,x5100)=>some (x5099,x5100)))) else ((g_deflate_lit k x.fLen).bind fun (x5102,x5103,x5104)=>((ix (codesL ll).1 x5102).bind fun x5110=>((ix ll x5102).bind fun x5111=>((g_deflate_put k x5110 x5111 w b).bind fun (x5113,x5114)=>((g_bits_Writer_Put__b k (IntKind.wrap .u32 x5103) x5104 x5113 x5114).bind fun (x5116,x5117,x5118)=>((g_deflate_dist k x.fDist).bind fun (x5120,x5121,x5122)=>((ix (codesL dl).1 x5120).bind fun x5128=>((ix dl x5120).bind fun x5129=>((g_deflate_put k x5128 x5129 x5117 x5118).bind fun (x5131,x5132)=>((g_bits_Writer_Put__b k (IntKind.wrap .u32 x5121) x5122 x5131 x5132).bind fun (x5134,x5135,x5136)=>some (x5135,x5136))))))))))))=some (w1,b1)∧Wr w1 b1 (B++itB ll dl x)∧(itB ll dl x).length≤48:=by
        rcases hl x (by simp) with ⟨c,rfl,hc,hu⟩ | ⟨m,d,rfl,h1,h2,h3,h4,hu,hv⟩
        · rw [if_pos rfl]
          obtain ⟨c1,c2⟩:=code_ix (k:=k) hll hu
          rw [show (⟨(c:Int),0,0⟩:It).fByte=(c:Int) from rfl,c1,c2]
          simp only [Option.bind_some]
          obtain ⟨w1,b1,e,q,q2⟩:=put_sym (k:=k) (by omega) hll hu hw (by omega)
          rw [e]
          have hit:itB ll dl ⟨(c:Int),0,0⟩=codeB ll c:=by unfold itB;rw [if_pos rfl,Int.toNat_natCast]
          exact ⟨w1,b1,rfl,by rw [hit];exact q,by rw [hit];omega⟩
        · have hm:¬ ((⟨0,(m:Int),(d:Int)⟩:It).fLen=0):=by show ¬ ((m:Int)=0);omega
          rw [if_neg hm]
          obtain ⟨s1,s2,s3,s4,s5⟩:=symL_ok k (by omega) m h1 h2
          obtain ⟨t1,t2,t3,t4,t5⟩:=symD_ok k (by omega) d h3 h4
          rw [show (⟨0,(m:Int),(d:Int)⟩:It).fLen=(m:Int) from rfl,show (⟨0,(m:Int),(d:Int)⟩:It).fDist=(d:Int) from rfl,s1,t1]
          simp only [Option.bind_some]
          obtain ⟨c1,c2⟩:=code_ix (k:=k) hll hu
          obtain ⟨c3,c4⟩:=code_ix (k:=k) hdl hv
          rw [c1,c2]
          simp only [Option.bind_some]
          obtain ⟨w1,b1,e1,q1,p1⟩:=put_sym (k:=k) (by omega) hll hu hw (by omega)
          rw [e1]
          simp only [Option.bind_some]
          have b5:2^(symL (m:Int)).2.2≤2^5:=Nat.pow_le_pow_right (by decide) s5
          have b13:2^eD (symD (d:Int))≤2^13:=Nat.pow_le_pow_right (by decide) t5
          rw [wu32 (show (symL (m:Int)).2.1<4294967296 by omega)]
          obtain ⟨w2,b2,e2,q2⟩:=putv (show 40≤k by omega) (v:=(symL (m:Int)).2.1) (c:=(symL (m:Int)).2.2) (by omega) (by omega) q1 (by rw [List.length_append];omega)
          rw [e2]
          simp only [Option.bind_some]
          rw [c3,c4]
          simp only [Option.bind_some]
          obtain ⟨w3,b3,e3,q3,p3⟩:=put_sym (k:=k) (by omega) hdl hv q2 (by rw [List.length_append,List.length_append,vb_length];omega)
          rw [e3]
          simp only [Option.bind_some]
          rw [wu32 (show d - bD (symD (d:Int))<4294967296 by omega)]
          obtain ⟨w4,b4,e4,q4⟩:=putv (show 40≤k by omega) (v:=d - bD (symD (d:Int))) (c:=eD (symD (d:Int))) (by omega) (by omega) q3 (by rw [List.length_append,List.length_append,List.length_append,vb_length];omega)
          rw [e4]
          have hit:itB ll dl ⟨0,(m:Int),(d:Int)⟩=codeB ll (symL m).1++(vb (symL m).2.1 (symL m).2.2++(codeB dl (symD d)++vb (d - bD (symD d)) (eD (symD d)))):=by
            unfold itB;rw [if_neg hm];rfl
          refine ⟨w4,b4,rfl,?_,?_⟩
          · rw [hit]
            simpa [List.append_assoc] using q4
          · rw [hit];simp only [List.length_append,vb_length];omega
      obtain ⟨w1,b1,e1,q1,p1⟩:=key
      refine Exists.imp (fun w'=>Exists.imp fun b'=>fun h=>?_) (ih (dn++[x]) l w1 b1 (B++itB ll dl x) (by omega) (fun y hy=>hl y (by simp [hy])) (by simp;omega) q1 (by rw [List.length_append];omega))
      obtain ⟨h1,h2,h3⟩:=h
      refine ⟨?_,?_,?_⟩
      · rw [← h1,e1]
        simp only [Option.bind_some]
        rw [wi (by omega) (by omega)]
        congr 1
        · simp
        · simp
      · rw [List.flatMap_cons,← List.append_assoc];exact h2
      · rw [List.flatMap_cons,List.length_append,List.length_cons];omega
theorem all_ok (k:Nat) (ll dl:List Int) (hll:(judge ll).2=0) (hdl:(judge dl).2=0) (l:List It) (hk:l.length+400≤k) (hl:∀ x∈l,OkI ll dl x) (hu:Us ll 256) (hn:l.length≤1048576) {w:Int} {b:List Int} {B:List Bool} (hw:Wr w b B) (hB:B.length≤1000000) :
    ∃ w' b',g_deflate_coder_all k l ll dl (codesL ll).1 (codesL dl).1 w b=some (w',b')∧Wr w' b' (B++(l.flatMap (itB ll dl)++codeB ll 256))∧(l.flatMap (itB ll dl)++codeB ll 256).length≤48*l.length+15:=by
  unfold g_deflate_coder_all
  obtain ⟨w1,b1,e1,q1,p1⟩:=all_l0 k (by omega) ll dl hll hdl k [] l w b B (by omega) hl (by simp;omega) hw (by omega)
  rw [List.nil_append,show (([]:List It).length:Int)=0 from rfl] at e1
  rw [e1]
  simp only [Option.bind_some]
  obtain ⟨c1,c2⟩:=code_ix (k:=k) hll hu
  rw [show (256:Int)=((256:Nat):Int) from rfl,c1,c2]
  simp only [Option.bind_some]
  obtain ⟨w2,b2,e2,q2,p2⟩:=put_sym (k:=k) (by omega) hll hu q1 (by rw [List.length_append];omega)
  rw [e2]
  exact ⟨w2,b2,rfl,by rw [← List.append_assoc];exact q2,by rw [List.length_append];omega⟩
def lfix:List Int:=List.replicate 144 8++List.replicate 112 9++List.replicate 24 7++List.replicate 8 8
def dfix:List Int:=List.replicate 32 5
theorem fixedLit0:g_inflate_FixedLit 300=some lfix:=by decide +kernel
theorem fixedDist0:g_inflate_FixedDist 300=some dfix:=by decide +kernel
theorem fixedLit (n:Nat):g_inflate_FixedLit (n+300)=some lfix:=(g_inflate_FixedLit_mono (k:=300) (Nat.le_add_left _ _)).h _ fixedLit0
theorem fixedDist (n:Nat):g_inflate_FixedDist (n+300)=some dfix:=(g_inflate_FixedDist_mono (k:=300) (Nat.le_add_left _ _)).h _ fixedDist0
theorem lfix_len:lfix.length=288:=by decide +kernel
theorem dfix_len:dfix.length=32:=by decide +kernel
theorem lfix_judge:(judge lfix).2=0:=by decide +kernel
theorem dfix_judge:(judge dfix).2=0:=by decide +kernel
theorem lfix_us0:∀ s:Fin 286,0<lfix.getD s.val 0:=by decide +kernel
theorem dfix_us0:∀ s:Fin 30,0<dfix.getD s.val 0:=by decide +kernel
theorem lfix_us {s:Nat} (h:s≤285):Us lfix s:=⟨by rw [lfix_len];omega,lfix_us0 ⟨s,by omega⟩⟩
theorem dfix_us {s:Nat} (h:s<30):Us dfix s:=⟨by rw [dfix_len];omega,dfix_us0 ⟨s,h⟩⟩
theorem pi_ok {b:List Int} (hB:Bytes b) {ll dl:List Int} (hl:∀ s,s≤285→Us ll s) (hd:∀ s,s<30→Us dl s):∀ {l:List It} {at_:Nat},PI b at_ l→∀ x∈l,OkI ll dl x
  | [],_,_,x,hx=>by simp at hx
  | y::l,at_,h,x,hx=>by
    rcases h with ⟨h1,rfl,_,h3⟩ | ⟨n,d,h1,rfl,h2,h3⟩
    · rcases List.mem_cons.1 hx with e | e
      · subst e
        have hb:=by_rng hB at_
        obtain ⟨c,hc⟩:∃ c:Nat,byA b at_=(c:Int):=⟨(byA b at_).toNat,by omega⟩
        exact .inl ⟨c,by rw [hc],by omega,hl c (by omega)⟩
      · exact pi_ok hB hl hd h3 x e
    · rcases List.mem_cons.1 hx with e | e
      · subst e
        obtain ⟨c1,c2,c3,c4,c5,c6⟩:=h2
        exact .inr ⟨n,d,rfl,h1,c1,c3,c5,hl _ (symL_ok 40 (by decide) n h1 c1).2.2.1,hd _ (symD_ok 40 (by decide) d c3 c5).2.1⟩
      · exact pi_ok hB hl hd h3 x e
theorem done_ok {k:Nat} {n:Int} {b:List Int} {B:List Bool} (hw:Wr n b B) (hB:B.length≤1000000000):g_bits_Writer_Done k n b=some b:=by
  unfold g_bits_Writer_Done g_sc_Clone_byte_byte
  have:=hw.l
  rw [bd,if_pos (by simp;omega)];rfl
theorem coded_ok {k:Nat} (hk:330≤k) (ll dl:List Int) (n:Int) (b:List Int):g_deflate_coded k ll dl n b=some ((codesL ll).1,(codesL dl).1):=by
  unfold g_deflate_coded
  rw [g_huff_Codes_eq hk,g_huff_Codes_eq hk];rfl
def fixedB (l:List It):List Bool:=[true,true,false]++(l.flatMap (itB lfix dfix)++codeB lfix 256)
theorem fixed_ok (k:Nat) (l:List It) (hk:l.length+700≤k) (hl:∀ x∈l,OkI lfix dfix x) (hn:l.length≤1048576):∃ n s,g_deflate_fixed k l=some s∧Wr n s (fixedB l):=by
  obtain ⟨m,rfl⟩:∃ m,k=m+300:=⟨k - 300,by omega⟩
  unfold g_deflate_fixed g_bits_NewWriter
  simp only [Option.bind_some]
  rw [put_same]
  obtain ⟨n1,b1,e1,w1⟩:=putv (show 40≤m+300 by omega) (v:=3) (c:=3) (by decide) (by decide) Wr.nil (by decide)
  rw [show (3:Int)=((3:Nat):Int) from rfl,e1]
  simp only [Option.bind_some]
  rw [fixedLit,fixedDist]
  simp only [Option.bind_some]
  rw [coded_ok (by omega)]
  simp only [Option.bind_some]
  obtain ⟨n2,b2,e2,w2,p2⟩:=all_ok (m+300) lfix dfix lfix_judge dfix_judge l (by omega) hl (lfix_us (by decide)) hn w1 (by decide)
  rw [e2]
  simp only [Option.bind_some]
  have hw:Wr n2 b2 (fixedB l):=w2
  rw [done_ok hw (by unfold fixedB;rw [List.length_append];simp only [List.length_cons,List.length_nil];omega)]
  exact ⟨n2,b2,rfl,hw⟩
end Go.Proofs.YtaphblcbnhnpaaaGreatDoor.W
namespace Go.Proofs.YtaphblcbnhnpaaaGreatDoor.HB
def Sim {α:Type} (f:α→Int) (l r:List α):Prop:=∀ k,l.filter (fun x=>f x==k)=r.filter (fun x=>f x==k)
def Srt {α:Type} (f:α→Int) (l:List α):Prop:=l.Pairwise (fun x y=>f x≤f y)
section
variable {α:Type} {f:α→Int} {l r l' r' s:List α}
theorem Sim.refl (l:List α):Sim f l l:=fun _=>rfl
theorem Sim.symm (h:Sim f l r):Sim f r l:=fun k=>(h k).symm
theorem Sim.trans (h:Sim f l r) (g:Sim f r s):Sim f l s:=fun k=>(h k).trans (g k)
theorem Sim.app (h:Sim f l l') (g:Sim f r r'):Sim f (l++r) (l'++r'):=fun k=>by rw [List.filter_append,List.filter_append,h k,g k]
theorem Sim.cons (x:α) (h:Sim f l l'):Sim f (x::l) (x::l'):=Sim.app (Sim.refl [x]) h
theorem Sim.swap (h:∀ x∈l,∀ y∈r,f x≠f y):Sim f (l++r) (r++l):=fun k=>by
  rw [List.filter_append,List.filter_append]
  by_cases hl:l.filter (fun x=>f x==k)=[]
  · simp [hl]
  · obtain ⟨x,hx⟩:=List.exists_mem_of_ne_nil _ hl
    have hx':=List.mem_filter.1 hx
    have hr:r.filter (fun x=>f x==k)=[]:=by
      rw [List.filter_eq_nil_iff]
      intro y hy hk
      have h1:f x=k:=by simpa using hx'.2
      have h2:f y=k:=by simpa using hk
      exact h x hx'.1 y hy (h1.trans h2.symm)
    simp [hr]
theorem Sim.mem (h:Sim f l r) {x:α} (hx:x∈l):x∈r:=by
  have:x∈l.filter (fun y=>f y==f x):=List.mem_filter.2 ⟨hx,by simp⟩
  rw [h] at this
  exact (List.mem_filter.1 this).1
theorem Srt.uniq:∀ {l r:List α},Srt f l→Srt f r→Sim f l r→l=r
  | [],[],_,_,_=>rfl
  | [],y::r,_,_,h=>absurd (h.symm.mem (List.mem_cons_self)) (by simp)
  | x::l,[],_,_,h=>absurd (h.mem (List.mem_cons_self)) (by simp)
  | x::l,y::r,hl,hr,h=>by
    have hl':=List.pairwise_cons.1 hl
    have hr':=List.pairwise_cons.1 hr
    have h1:f x≤f y:=by
      rcases List.mem_cons.1 (h.symm.mem (List.mem_cons_self (a:=y))) with e | e
      · rw [e];exact Int.le_refl _
      · exact hl'.1 _ e
    have h2:f y≤f x:=by
      rcases List.mem_cons.1 (h.mem (List.mem_cons_self (a:=x))) with e | e
      · rw [e];exact Int.le_refl _
      · exact hr'.1 _ e
    have he:f x=f y:=Int.le_antisymm h1 h2
    have hk:=h (f x)
    rw [List.filter_cons_of_pos (by simp),List.filter_cons_of_pos (by simp [he])] at hk
    have hxy:x=y:=(List.cons.inj hk).1
    subst hxy
    have:Sim f l r:=fun k=>by
      have hk:=h k
      by_cases hc:f x=k
      · rw [List.filter_cons_of_pos (by simp [hc]),List.filter_cons_of_pos (by simp [hc])] at hk
        exact (List.cons.inj hk).2
      · rwa [List.filter_cons_of_neg (by simp [hc]),List.filter_cons_of_neg (by simp [hc])] at hk
    rw [Srt.uniq hl'.2 hr'.2 this]
end
abbrev C:=Int × List Int
def ins (x:C):List C→List C
  | []=>[x]
  | y::l=>if y.1<x.1 then y::ins x l else x::y::l
def st:List C→List C
  | []=>[]
  | x::l=>ins x (st l)
abbrev key:C→Int:=fun c=>c.1
theorem ins_sim (x:C):∀ l,Sim key (x::l) (ins x l)
  | []=>Sim.refl _
  | y::l=>by
    unfold ins
    split
    · rename_i h
      refine Sim.trans ?_ (Sim.cons y (ins_sim x l))
      exact Sim.app (l:=[x]++[y]) (l':=[y]++[x]) (Sim.swap (by intro a ha b hb;simp at ha hb;subst ha;subst hb;exact fun e=>absurd e.symm (Int.ne_of_lt h))) (Sim.refl l)
    · exact Sim.refl _
theorem ins_srt (x:C):∀ l,Srt key l→Srt key (ins x l)
  | [],_=>List.pairwise_singleton _ _
  | y::l,h=>by
    have h':=List.pairwise_cons.1 h
    unfold ins
    split
    · rename_i hc
      refine List.pairwise_cons.2 ⟨fun z hz=>?_,ins_srt x l h'.2⟩
      rcases List.mem_cons.1 ((ins_sim x l).symm.mem hz) with e | e
      · rw [e];exact Int.le_of_lt hc
      · exact h'.1 z e
    · rename_i hc
      refine List.pairwise_cons.2 ⟨fun z hz=>?_,h⟩
      rcases List.mem_cons.1 hz with e | e
      · rw [e];exact Int.not_lt.1 hc
      · exact Int.le_trans (Int.not_lt.1 hc) (h'.1 z e)
theorem st_sim:∀ l,Sim key l (st l)
  | []=>Sim.refl _
  | x::l=>Sim.trans (Sim.cons x (st_sim l)) (ins_sim x (st l))
theorem st_srt:∀ l,Srt key (st l)
  | []=>List.Pairwise.nil
  | x::l=>ins_srt x _ (st_srt l)
theorem st_eq {l r:List C} (h:Srt key r) (g:Sim key l r):r=st l:=h.uniq (st_srt l) (g.symm.trans (st_sim l))
theorem st_len:∀ l,(st l).length=l.length:=by
  have hi:∀ (x:C) l,(ins x l).length=l.length+1:=by
    intro x l
    induction l with
    | nil=>rfl
    | cons y l ih=>unfold ins;split <;> simp [ih]
  intro l
  induction l with
  | nil=>rfl
  | cons x l ih=>show (ins x (st l)).length=_;rw [hi,ih];rfl
theorem st_mem {l:List C} {x:C}:x∈st l↔x∈l:=⟨(st_sim l).symm.mem,(st_sim l).mem⟩
def mg:List C→List C→List C
  | [],r=>r
  | x::l,[]=>x::l
  | x::l,y::r=>if y.1<x.1 then y::mg (x::l) r else x::mg l (y::r)
termination_by l r=>l.length+r.length
theorem mg_sim:∀ (l r:List C),Srt key l→Sim key (l++r) (mg l r)
  | [],r,_=>by rw [mg];exact Sim.refl _
  | x::l,[],_=>by rw [mg,List.append_nil];exact Sim.refl _
  | x::l,y::r,h=>by
    rw [mg]
    have h':=List.pairwise_cons.1 h
    split
    · rename_i hc
      refine Sim.trans ?_ (Sim.cons y (mg_sim (x::l) r h))
      have e1:x::l++y::r=((x::l)++[y])++r:=by simp
      have e2:y::(x::l++r)=([y]++(x::l))++r:=by simp
      rw [e1,e2]
      refine Sim.app (Sim.swap ?_) (Sim.refl r)
      intro a ha b hb e
      rw [List.mem_singleton] at hb;subst hb
      have:x.1≤a.1:=by
        rcases List.mem_cons.1 ha with q | q
        · rw [q];exact Int.le_refl _
        · exact h'.1 _ q
      have e':a.1=b.1:=e
      omega
    · exact Sim.cons x (mg_sim l (y::r) h'.2)
termination_by l r=>l.length+r.length
theorem mg_srt:∀ (l r:List C),Srt key l→Srt key r→Srt key (mg l r)
  | [],r,_,h=>by rw [mg];exact h
  | x::l,[],h,_=>by rw [mg];exact h
  | x::l,y::r,h,g=>by
    have h':=List.pairwise_cons.1 h
    have g':=List.pairwise_cons.1 g
    rw [mg]
    split
    · rename_i hc
      refine List.pairwise_cons.2 ⟨fun z hz=>?_,mg_srt (x::l) r h g'.2⟩
      rcases List.mem_append.1 ((mg_sim (x::l) r h).symm.mem hz) with e | e
      · rcases List.mem_cons.1 e with q | q
        · rw [q];exact Int.le_of_lt hc
        · exact Int.le_trans (Int.le_of_lt hc) (h'.1 z q)
      · exact g'.1 z e
    · rename_i hc
      refine List.pairwise_cons.2 ⟨fun z hz=>?_,mg_srt l (y::r) h'.2 g⟩
      rcases List.mem_append.1 ((mg_sim l (y::r) h'.2).symm.mem hz) with e | e
      · exact h'.1 z e
      · rcases List.mem_cons.1 e with q | q
        · rw [q];exact Int.not_lt.1 hc
        · exact Int.le_trans (Int.not_lt.1 hc) (g'.1 z q)
termination_by l r=>l.length+r.length
theorem mg_pre:∀ (t:Nat) (l r:List C),Srt key l→t≤l.length+r.length →
    ∃ a b,a≤l.length∧b≤r.length∧a+b=t∧((mg l r).take t).Perm (l.take a++r.take b)∧∀ y∈r.take b,∀ x∈l.drop a,y.1<x.1
  | 0,l,r,_,_=>⟨0,0,Nat.zero_le _,Nat.zero_le _,rfl,by simp,by simp⟩
  | t+1,[],r,_,ht=>⟨0,t+1,Nat.le_refl _,by simpa using ht,by omega,by rw [mg];simp,by simp⟩
  | t+1,x::l,[],_,ht=>⟨t+1,0,by simpa using ht,Nat.le_refl _,rfl,by rw [mg];simp,by simp⟩
  | t+1,x::l,y::r,h,ht=>by
    have h':=List.pairwise_cons.1 h
    rw [mg]
    split
    · rename_i hc
      obtain ⟨a,b,ha,hb,hab,hp,hlt⟩:=mg_pre t (x::l) r h (by simp at ht ⊢;omega)
      refine ⟨a,b+1,ha,by simp;omega,by omega,?_,?_⟩
      · rw [List.take_succ_cons,List.take_succ_cons]
        exact (List.Perm.cons y hp).trans List.perm_middle.symm
      · intro z hz w hw
        rw [List.take_succ_cons] at hz
        rcases List.mem_cons.1 hz with e | e
        · subst e
          have:w∈x::l:=List.mem_of_mem_drop hw
          rcases List.mem_cons.1 this with q | q
          · rw [q];exact hc
          · exact Int.lt_of_lt_of_le hc (h'.1 w q)
        · exact hlt z e w hw
    · rename_i hc
      obtain ⟨a,b,ha,hb,hab,hp,hlt⟩:=mg_pre t l (y::r) h'.2 (by simp at ht ⊢;omega)
      refine ⟨a+1,b,by simp;omega,hb,by omega,?_,?_⟩
      · rw [List.take_succ_cons,List.take_succ_cons]
        exact List.Perm.cons x hp
      · intro z hz w hw
        rw [List.drop_succ_cons] at hw
        exact hlt z hz w hw
def pairs:List C→List C
  | x::y::l=>(x.1+y.1,x.2++y.2)::pairs l
  | _=>[]
theorem pairs_len:∀ l,(pairs l).length=l.length / 2
  | []=>rfl
  | [_]=>by simp [pairs]
  | _::_::l=>by simp only [pairs,List.length_cons,pairs_len l];omega
theorem pairs_srt:∀ l,Srt key l→Srt key (pairs l)
  | [],_=>List.Pairwise.nil
  | [_],_=>List.Pairwise.nil
  | x::y::l,h=>by
    have h1:=List.pairwise_cons.1 h
    have h2:=List.pairwise_cons.1 h1.2
    refine List.pairwise_cons.2 ⟨?_,pairs_srt l h2.2⟩
    have:∀ l:List C,(∀ z∈l,x.1≤z.1∧y.1≤z.1)→∀ z∈pairs l,x.1+y.1≤z.1:=by
      intro l
      induction l using pairs.induct with
      | case1 a b l ih =>
        intro hz z hm
        rcases List.mem_cons.1 hm with e | e
        · subst e
          have:=(hz a (by simp)).1;have:=(hz b (by simp)).2
          show x.1+y.1≤a.1+b.1;omega
        · exact ih (fun z hz'=>hz z (by simp [hz'])) z e
      | case2 l hl =>
        intro _ z hm
        unfold pairs at hm;split at hm
        · exact absurd rfl (hl _ _ _)
        · simp at hm
    exact fun z hz=>this l (fun z hz=>⟨h1.1 z (by simp [hz]),h2.1 z hz⟩) z hz
abbrev syms (l:List C):List Int:=l.flatMap (·.2)
theorem syms_pairs:∀ (b:Nat) (l:List C),2*b≤l.length→syms ((pairs l).take b)=syms (l.take (2*b))
  | 0,l,_=>by simp
  | b+1,[],h=>by simp at h
  | b+1,[x],h=>by simp at h;omega
  | b+1,x::y::l,h=>by
    have ih:=syms_pairs b l (by simp at h;omega)
    have e:2*(b+1)=(2*b)+1+1:=by omega
    rw [e]
    simp only [pairs,List.take_succ_cons,List.flatMap_cons,List.append_assoc]
    rw [show List.flatMap (fun x:C=>x.2) (List.take b (pairs l))=List.flatMap (fun x:C=>x.2) (List.take (2*b) l) from ih]
def lev (base:List C):Nat→List C
  | 0=>[]
  | j+1=>st (base++pairs (lev base j))
theorem lev_srt (base:List C):∀ j,Srt key (lev base j)
  | 0=>List.Pairwise.nil
  | _+1=>st_srt _
theorem lev_len (base:List C) (j:Nat):(lev base (j+1)).length=base.length+(lev base j).length / 2:=by
  rw [lev,st_len,List.length_append,pairs_len]
theorem lev_many (base:List C) (m:Nat) (h:base.length≤2^m):∀ j,j≤m→2*base.length≤(lev base j).length+2^(m+1 - j)
  | 0,_=>by simp [lev,Nat.pow_succ];omega
  | j+1,hj=>by
    have ih:=lev_many base m h j (by omega)
    rw [lev_len]
    have e:m+1 - j=(m+1 - (j+1))+1:=by omega
    rw [e,Nat.pow_succ] at ih
    omega
theorem lev_mg (base:List C) (hb:Srt key base) (j:Nat):lev base (j+1)=mg base (pairs (lev base j)) :=
  (st_eq (mg_srt _ _ hb (pairs_srt _ (lev_srt base j))) (mg_sim _ _ hb)).symm
def Wt (F:Int→Int) (x:C):Prop:=x.1=(x.2.map F).sum
theorem sum_app (F:Int→Int) (a b:List Int):((a++b).map F).sum=(a.map F).sum+(b.map F).sum:=by rw [List.map_append,List.sum_append]
theorem pairs_wt {F:Int→Int}:∀ (l:List C),(∀ x∈l,Wt F x)→∀ x∈pairs l,Wt F x
  | [],_,x,hx=>by simp [pairs] at hx
  | [_],_,x,hx=>by simp [pairs] at hx
  | a::b::l,h,x,hx=>by
    rcases List.mem_cons.1 hx with e | e
    · subst e
      show a.1+b.1=((a.2++b.2).map F).sum
      rw [sum_app,← show a.1=_ from h a (by simp),← show b.1=_ from h b (by simp)]
    · exact pairs_wt l (fun x hx=>h x (by simp [hx])) x e
theorem lev_wt {F:Int→Int} (base:List C) (hw:∀ x∈base,Wt F x):∀ j,∀ x∈lev base j,Wt F x
  | 0,x,hx=>by simp [lev] at hx
  | j+1,x,hx=>by
    rcases List.mem_append.1 (st_mem.1 hx) with e | e
    · exact hw x e
    · exact pairs_wt _ (lev_wt base hw j) x e
theorem le_sum {F:Int→Int} (h:∀ s,0≤F s):∀ (l:List Int) (s:Int),s∈l→F s≤(l.map F).sum∧0≤(l.map F).sum:=by
  have h0:∀ l:List Int,0≤(l.map F).sum:=by
    intro l
    induction l with
    | nil=>simp
    | cons x l ih=>simp only [List.map_cons,List.sum_cons];have:=h x;omega
  intro l
  induction l with
  | nil=>intro s hs;simp at hs
  | cons x l ih =>
    intro s hs
    refine ⟨?_,h0 _⟩
    simp only [List.map_cons,List.sum_cons]
    rcases List.mem_cons.1 hs with e | e
    · subst e;have:=h0 l;omega
    · have:=(ih s e).1;have:=h x;omega
abbrev cnt (s:Int) (l:List C):Nat:=(syms l).count s
theorem cnt_perm {l r:List C} (h:l.Perm r) (s:Int):cnt s l=cnt s r:=(List.Perm.flatMap_right _ h).count_eq s
def term (j c:Nat):Nat:=2^j - 2^(j - c)
theorem term0 (j:Nat):term j 0=0:=by simp [term]
theorem term1 (j c:Nat) (h:c≤j):term (j+1) (1+c)=2^j+term j c:=by
  unfold term
  have e:j+1 - (1+c)=j - c:=by omega
  have:2^(j - c)≤2^j:=Nat.pow_le_pow_right (by decide) (by omega)
  rw [e,Nat.pow_succ];omega
theorem base_syms (F:Int→Int) (S:List Int) (a:Nat):syms ((S.map fun s=>((F s,[s]):C)).take a)=S.take a:=by
  rw [← List.map_take]
  induction S.take a with
  | nil=>rfl
  | cons x l ih=>simp only [List.map_cons,List.flatMap_cons];rw [show List.flatMap (fun x:C=>x.2) (List.map (fun s=>((F s,[s]):C)) l)=l from ih];rfl
theorem sum_add (S:List Int) (f g:Int→Nat):(S.map fun s=>f s+g s).sum=(S.map f).sum+(S.map g).sum:=by
  induction S with
  | nil=>rfl
  | cons x l ih=>simp only [List.map_cons,List.sum_cons,ih];omega
theorem sum_const (S:List Int) (k:Nat):(S.map fun _=>k).sum=S.length*k:=by
  induction S with
  | nil=>simp
  | cons x l ih=>simp only [List.map_cons,List.sum_cons,ih,List.length_cons];rw [Nat.succ_mul];omega
theorem sum_congr (S:List Int) (f g:Int→Nat) (h:∀ s∈S,f s=g s):(S.map f).sum=(S.map g).sum:=by
  induction S with
  | nil=>rfl
  | cons x l ih=>simp only [List.map_cons,List.sum_cons];rw [h x (by simp),ih (fun s hs=>h s (by simp [hs]))]
theorem fills {F:Int→Int} (hF:∀ s,0≤F s) (S:List Int) (hS:S.Nodup) (hs:Srt key (S.map fun s=>((F s,[s]):C))) :
    ∀ j t,t≤(lev (S.map fun s=>((F s,[s]):C)) j).length →
      (∀ s,cnt s ((lev (S.map fun s=>((F s,[s]):C)) j).take t)≤j)∧(∀ s,s∉S→cnt s ((lev (S.map fun s=>((F s,[s]):C)) j).take t)=0) ∧
      2*(S.map fun s=>term j (cnt s ((lev (S.map fun s=>((F s,[s]):C)) j).take t))).sum=t*2^j:=by
  generalize hB:(S.map fun s=>((F s,[s]):C))=base at hs
  have hbw:∀ x∈base,Wt F x:=by
    subst hB;intro x hx
    obtain ⟨s,_,rfl⟩:=List.mem_map.1 hx
    show F s=_;simp
  intro j
  induction j with
  | zero =>
    intro t ht
    have:t=0:=by simpa [lev] using ht
    subst this
    have z:∀ s,cnt s ([]:List C)=0:=fun s=>rfl
    refine ⟨fun s=>Nat.le_of_eq (z s),fun s _=>z s,?_⟩
    rw [List.take_zero,sum_congr S _ (fun _=>0) (fun s _=>by rw [z s];exact term0 _),sum_const];simp
  | succ j ih =>
    intro t ht
    rw [lev_mg base hs] at ht ⊢
    have hlen:(mg base (pairs (lev base j))).length=base.length+(pairs (lev base j)).length:=by rw [← lev_mg base hs,lev,st_len,List.length_append]
    obtain ⟨a,b,ha,hb,hab,hp,hlt⟩:=mg_pre t base (pairs (lev base j)) hs (by omega)
    have hb2:2*b≤(lev base j).length:=by rw [pairs_len] at hb;omega
    obtain ⟨i1,i2,i3⟩:=ih (2*b) hb2
    have hla:syms (base.take a)=S.take a:=by subst hB;exact base_syms F S a
    have haS:a≤S.length:=by subst hB;simpa using ha
    have hc:∀ s,cnt s ((mg base (pairs (lev base j))).take t)=(S.take a).count s+cnt s ((lev base j).take (2*b)):=by
      intro s
      rw [cnt_perm hp]
      show (syms (base.take a++(pairs (lev base j)).take b)).count s=_
      rw [show syms (base.take a++(pairs (lev base j)).take b)=syms (base.take a)++syms ((pairs (lev base j)).take b) from List.flatMap_append,List.count_append,hla,syms_pairs b _ hb2]
    -- what is within a package is ahead of it
    have hz:∀ s∈S.drop a,cnt s ((lev base j).take (2*b))=0:=by
      intro s hsd
      refine Nat.eq_zero_of_not_pos fun hpos=>?_
      have hm:s∈syms ((lev base j).take (2*b)):=List.count_pos_iff.1 hpos
      rw [← syms_pairs b _ hb2] at hm
      obtain ⟨y,hy,hsy⟩:=List.mem_flatMap.1 hm
      have hyw:Wt F y:=pairs_wt _ (lev_wt base hbw j) y (List.mem_of_mem_take hy)
      have h1:=hlt y hy (F s,[s]) (by subst hB;rw [← List.map_drop];exact List.mem_map.2 ⟨s,hsd,rfl⟩)
      have h2:=(le_sum hF y.2 s hsy).1
      rw [← show y.1=_ from hyw] at h2
      exact absurd h1 (Int.not_lt.2 h2)
    have hsp:S=S.take a++S.drop a:=(List.take_append_drop a S).symm
    have hnd:(S.take a++S.drop a).Nodup:=by rw [← hsp];exact hS
    have hdis:=(List.nodup_append.1 hnd)
    have h1:∀ s∈S.take a,(S.take a).count s=1:=fun s hs=>by rw [hdis.1.count,if_pos hs]
    have h0:∀ s,s∉S.take a→(S.take a).count s=0:=fun s hs=>List.count_eq_zero.2 hs
    have hd0:∀ s∈S.drop a,(S.take a).count s=0:=fun s hs=>h0 s fun hq=>hdis.2.2 s hq s hs rfl
    refine ⟨fun s=>?_,fun s hn=>?_,?_⟩
    · rw [hc]
      by_cases q:s∈S.take a
      · rw [h1 s q];have:=i1 s;omega
      · rw [h0 s q];have:=i1 s;omega
    · rw [hc,i2 s hn,h0 s fun q=>hn (List.mem_of_mem_take q)]
    · have key1:(S.map fun s=>term (j+1) (cnt s ((mg base (pairs (lev base j))).take t))).sum=a*2^j+(S.map fun s=>term j (cnt s ((lev base j).take (2*b)))).sum:=by
        generalize hcc:(fun s=>cnt s ((lev base j).take (2*b)))=c at *
        have hc':∀ s,cnt s ((mg base (pairs (lev base j))).take t)=(S.take a).count s+c s:=by intro s;rw [hc s,← hcc]
        have hz':∀ s∈S.drop a,c s=0:=by intro s hs;rw [← hcc];exact hz s hs
        have i1':∀ s,c s≤j:=by intro s;rw [← hcc];exact i1 s
        rw [sum_congr S _ (fun s=>term (j+1) ((S.take a).count s+c s)) (fun s _=>by rw [hc' s])]
        have e1:(S.map fun s=>term (j+1) ((S.take a).count s+c s)).sum=((S.take a).map fun s=>2^j+term j (c s)).sum+((S.drop a).map fun _=>0).sum:=by
          conv=>lhs;rw [hsp]
          rw [List.map_append,List.sum_append]
          congr 1
          · exact sum_congr _ _ _ fun s hs=>by
              rw [List.take_append_drop,h1 s hs,term1 _ _ (i1' s)]
          · exact sum_congr _ _ _ fun s hs=>by
              rw [List.take_append_drop,hd0 s hs,hz' s hs];exact term0 _
        have e2:(S.map fun s=>term j (c s)).sum=((S.take a).map fun s=>term j (c s)).sum+((S.drop a).map fun _=>0).sum:=by
          conv=>lhs;rw [hsp]
          rw [List.map_append,List.sum_append]
          congr 1
          exact sum_congr _ _ _ fun s hs=>by rw [hz' s hs];exact term0 _
        rw [e1,show (fun s=>term j (cnt s ((lev base j).take (2*b))))=fun s=>term j (c s) from by rw [← hcc],e2,sum_add,sum_const,List.length_take,Nat.min_eq_left haS]
        omega
      rw [key1,Nat.mul_add,i3,← hab,Nat.pow_succ,Nat.add_mul]
      have:2*(a*2^j)=a*(2^j*2):=by rw [Nat.mul_comm (2^j),← Nat.mul_assoc,← Nat.mul_assoc,Nat.mul_comm 2 a]
      have:2*b*2^j=b*(2^j*2):=by rw [Nat.mul_comm (2^j),← Nat.mul_assoc,Nat.mul_comm 2 b]
      omega
def lenS (F:Int→Int) (S:List Int) (m:Nat) (s:Int):Nat:=cnt s ((lev (S.map fun s=>((F s,[s]):C)) m).take (2*S.length - 2))
theorem sum_pos:∀ (S:List Int) (g:Int→Nat) (s:Int),s∈S→(∀ s,0<g s)→2≤S.length→g s<(S.map g).sum
  | [],_,_,h,_,_=>absurd h (by simp)
  | [_],_,_,_,_,h=>by simp at h
  | x::y::l,g,s,hs,hg,_=>by
    have hle:∀ (l:List Int) s,s∈l→g s≤(l.map g).sum:=by
      intro l
      induction l with
      | nil=>intro s hs;simp at hs
      | cons a l ih => intro s hs; simp only [List.map_cons, List.sum_cons]; rcases List.mem_cons.1 hs with e | e
                       · subst e;omega
                       · have:=ih s e;omega
    simp only [List.map_cons,List.sum_cons]
    have h1:=hg x;have h2:=hg y
    rcases List.mem_cons.1 hs with e | e
    · subst e;omega
    · have:=hle (y::l) s e
      simp only [List.map_cons,List.sum_cons] at this;omega
theorem lens_ok {F:Int→Int} (hF:∀ s,0≤F s) (S:List Int) (hS:S.Nodup) (hs:Srt key (S.map fun s=>((F s,[s]):C))) (m:Nat) (hm:1≤m) (h2:2≤S.length) (hmany:S.length≤2^m) :
    2*S.length - 2≤(lev (S.map fun s=>((F s,[s]):C)) m).length∧(∀ s,lenS F S m s≤m)∧(∀ s∈S,1≤lenS F S m s)∧(∀ s,s∉S→lenS F S m s=0)∧∀ M,m≤M→(S.map fun s=>2^(M - lenS F S m s)).sum=2^M:=by
  have hl:2*S.length - 2≤(lev (S.map fun s=>((F s,[s]):C)) m).length:=by
    have:=lev_many (S.map fun s=>((F s,[s]):C)) m (by simpa using hmany) m (Nat.le_refl m)
    rw [show m+1 - m=1 by omega,List.length_map] at this;omega
  obtain ⟨f1,f2,f3⟩:=fills hF S hS hs m _ hl
  have f1':∀ s,lenS F S m s≤m:=f1
  have f2':∀ s,s∉S→lenS F S m s=0:=f2
  have f3':2*(S.map fun s=>term m (lenS F S m s)).sum=(2*S.length - 2)*2^m:=f3
  have hsum:(S.map fun s=>2^(m - lenS F S m s)).sum=2^m:=by
    have e:=sum_add S (fun s=>term m (lenS F S m s)) (fun s=>2^(m - lenS F S m s))
    rw [sum_congr S _ (fun _=>2^m) (fun s _=>by
      have:2^(m - lenS F S m s)≤2^m:=Nat.pow_le_pow_right (by decide) (by omega)
      show 2^m - _+_=_;omega),sum_const] at e
    have e2:(2*S.length - 2)*2^m=2*(S.length*2^m) - 2*2^m:=by rw [Nat.sub_mul,Nat.mul_assoc]
    have e3:2*2^m≤S.length*2^m:=Nat.mul_le_mul_right _ h2
    omega
  refine ⟨hl,f1',fun s hs=>?_,f2',fun M hM=>?_⟩
  · refine Nat.pos_of_ne_zero fun h0=>?_
    have:=sum_pos S (fun s=>2^(m - lenS F S m s)) s hs (fun s=>Nat.pow_pos (by decide)) h2
    rw [hsum] at this
    simp only [h0,Nat.sub_zero] at this
    exact absurd this (Nat.lt_irrefl _)
  · rw [sum_congr S _ (fun s=>2^(M - m)*2^(m - lenS F S m s)) (fun s _=>by
      rw [← Nat.pow_add];congr 1;have:=f1' s;omega)]
    have hmul:∀ (k:Nat) (g:Int→Nat) (l:List Int),(l.map fun s=>k*g s).sum=k*(l.map g).sum:=by
      intro k g l
      induction l with
      | nil=>rfl
      | cons a l ih=>simp only [List.map_cons,List.sum_cons,ih,Nat.mul_add]
    rw [hmul,hsum,← Nat.pow_add];congr 1;omega
end Go.Proofs.YtaphblcbnhnpaaaGreatDoor.HB
namespace Go.Proofs.YtaphblcbnhnpaaaGreatDoor.W
open Go Go.Q Go.Proofs Go.Proofs.YtaphblcbnhnpaaaGreatDoor.HB
set_option linter.unusedVariables false
set_option linter.unusedSimpArgs false
abbrev Co:=S_huff_coin
abbrev kf:Co→Int:=fun c=>c.ffreq
theorem co_eta (c:Co):(⟨c.ffreq,c.fsyms⟩:Co)=c:=rfl
def cmpI (a b:Int):Int:=if a<b then -1 else if b<a then 1 else 0
theorem g_cmp_eq (k:Nat) (a b:Int) (s t:List Int):g_huff_Lengths_1 k a s b t=some (cmpI a b):=by
  unfold g_huff_Lengths_1 g_cmp_Compare_int g_cmp_isNaN_int cmpI
  by_cases h:a<b
  · simp [h]
  · by_cases h2:b<a <;> simp [h,h2]
theorem cmp_lt (a b:Int):(cmpI a b<0)↔a<b:=by
  unfold cmpI;split
  · simp_all
  · split <;> simp_all
theorem ix_at {α:Type} (P:List α) (x:α) (Q:List α) {i:Int} (h:i=(P.length:Int)):ix (P++x::Q) i=some x:=by
  subst h;rw [ix_nat (by simp)];simp
theorem set_at {α:Type} (P:List α) (x y:α) (Q:List α) {i:Int} (h:i=(P.length:Int)):List.set (P++x::Q) i.toNat y=P++y::Q:=by
  subst h;simp
structure Sorts (A A':List Co):Prop where
  srt:Srt kf A'
  sim:Sim kf A A'
  len:A'.length=A.length
theorem Srt.sub {α:Type} {f:α→Int} {a b:List α} (h:Srt f (a++b)):Srt f a∧Srt f b∧∀ x∈a,∀ y∈b,f x≤f y:=List.pairwise_append.1 h
theorem Srt.mk {α:Type} {f:α→Int} {a b:List α} (h1:Srt f a) (h2:Srt f b) (h:∀ x∈a,∀ y∈b,f x≤f y):Srt f (a++b):=List.pairwise_append.2 ⟨h1,h2,h⟩
theorem ins1 (k:Nat) (P:List Co) (hP:P.length≤100000):∀ (n:Nat) (L:List Co) (x:Co) (R:List Co),Srt kf L→L.length<n→L.length≤100000 →
    ∃ L',g_sc_insertionSortCmpFunc_huff_coin_l1 k (P.length:Int) n ((P.length:Int)+L.length) (P++L++x::R)=some (P++L'++R)∧Sorts (L++[x]) L':=by
  intro n
  induction n with
  | zero=>intro L x R _ h;omega
  | succ n ih =>
    intro L x R hs hn hl
    rw [g_sc_insertionSortCmpFunc_huff_coin_l1.eq_2]
    simp only [bd]
    rcases List.eq_nil_or_concat L with e | ⟨L0,y,e⟩
    · subst e
      refine ⟨[x],?_,?_,Sim.refl _,rfl⟩
      · rw [if_neg (by simp)];simp
      · exact List.pairwise_singleton _ _
    · rw [List.concat_eq_append] at e;subst e
      have hlen:(L0++[y]).length=L0.length+1:=by simp
      rw [hlen] at hn hl ⊢
      have hd:=Srt.sub hs
      rw [if_pos (by omega),ix_at (P++(L0++[y])) x R (by simp only [List.length_append,List.length_singleton];omega)]
      have e2:P++(L0++[y])++x::R=(P++L0)++y::(x::R):=by simp
      have w1:IntKind.wrap .i64 ((P.length:Int)+((L0.length+1:Nat):Int) - 1)=((P++L0).length:Int):=by rw [wi (by omega) (by omega)];simp only [List.length_append];omega
      rw [w1,e2,ix_at (P++L0) y (x::R) rfl]
      simp only [Option.bind_some,g_cmp_eq,cmp_lt,bd]
      by_cases hc:x.ffreq<y.ffreq
      · rw [if_pos hc]
        have e3:(P++L0)++y::(x::R)=(P++L0++[y])++x::R:=by simp
        rw [e3,set_at (P++L0++[y]) x y R (by simp only [List.length_append,List.length_singleton];omega)]
        have e4:(P++L0++[y])++y::R=(P++L0)++y::(y::R):=by simp
        rw [e4,ix_at (P++L0) y (y::R) rfl]
        simp only [Option.bind_some]
        rw [set_at (P++L0) y x (y::R) rfl]
        obtain ⟨L',h1,h2⟩:=ih L0 x (y::R) hd.1 (by omega) (by omega)
        refine ⟨L'++[y],?_,?_,?_,?_⟩
        · rw [show ((P++L0).length:Int)=(P.length:Int)+L0.length by simp,h1];simp
        · refine Srt.mk h2.srt (List.pairwise_singleton _ _) ?_
          intro z hz w hw
          rw [List.mem_singleton] at hw;subst hw
          rcases List.mem_append.1 (h2.sim.symm.mem hz) with q | q
          · exact hd.2.2 z q w (by simp)
          · rw [List.mem_singleton] at q;subst q;exact Int.le_of_lt hc
        · refine Sim.trans (l:=(L0++[y])++[x]) (r:=(L0++[x])++[y]) ?_ (Sim.app h2.sim (Sim.refl _))
          rw [List.append_assoc,List.append_assoc]
          refine Sim.app (Sim.refl _) (Sim.swap ?_)
          intro a ha b hb;rw [List.mem_singleton] at ha hb;subst ha;subst hb
          exact fun e=>absurd e.symm (Int.ne_of_lt hc)
        · simp [h2.len]
      · rw [if_neg hc]
        refine ⟨L0++[y]++[x],by simp,?_,Sim.refl _,rfl⟩
        refine Srt.mk hs (List.pairwise_singleton _ _) ?_
        intro z hz w hw
        rw [List.mem_singleton] at hw;subst hw
        rcases List.mem_append.1 hz with q | q
        · exact Int.le_trans (hd.2.2 z q y (by simp)) (Int.not_lt.1 hc)
        · rw [List.mem_singleton] at q;subst q;exact Int.not_lt.1 hc
theorem ins0 (k:Nat) (P:List Co) (hP:P.length≤100000):∀ (n:Nat) (L L' R Q:List Co),Sorts L L'→R.length<n→L.length+R.length≤100000→L.length+R.length<k →
    ∃ M,g_sc_insertionSortCmpFunc_huff_coin_l0 k (P.length:Int) ((P.length:Int)+L.length+R.length) n ((P.length:Int)+L.length) (P++L'++R++Q)=some (P++M++Q)∧Sorts (L++R) M:=by
  intro n
  induction n with
  | zero=>intro L L' R Q _ h;omega
  | succ n ih =>
    intro L L' R Q hs hn hl hk
    rw [g_sc_insertionSortCmpFunc_huff_coin_l0.eq_2]
    simp only [bd]
    cases R with
    | nil =>
      rw [if_neg (by simp)]
      exact ⟨L',by simp,by simpa using hs⟩
    | cons x R =>
      simp only [List.length_cons] at hn hl hk ⊢
      rw [if_pos (by omega)]
      obtain ⟨M,h1,h2⟩:=ins1 k P hP k L' x (R++Q) hs.srt (by rw [hs.len];omega) (by rw [hs.len];omega)
      rw [hs.len] at h1
      rw [show P++L'++x::R++Q=P++L'++x::(R++Q) by simp,h1]
      simp only [Option.bind_some]
      have h3:Sorts (L++[x]) M:=⟨h2.srt,Sim.trans (Sim.app hs.sim (Sim.refl _)) h2.sim,by rw [h2.len];simp [hs.len]⟩
      obtain ⟨M',h4,h5⟩:=ih (L++[x]) M R Q h3 (by omega) (by simp;omega) (by simp;omega)
      refine ⟨M',?_,by simpa using h5⟩
      rw [wi (by omega) (by omega)]
      rw [← h4]
      congr 1
      · simp;omega
      · simp;omega
      · simp
theorem insertion (k:Nat) (P R Q:List Co) (hP:P.length≤100000) (hl:R.length≤100000) (hk:R.length<k) {b:Int} (hb:b=(P.length:Int)+R.length) :
    ∃ M,g_sc_insertionSortCmpFunc_huff_coin k (P.length:Int) b (P++R++Q)=some (P++M++Q)∧Sorts R M:=by
  unfold g_sc_insertionSortCmpFunc_huff_coin
  subst hb
  cases R with
  | nil =>
    refine ⟨[],?_,List.Pairwise.nil,Sim.refl _,rfl⟩
    obtain ⟨k,rfl⟩:∃ j,k=j+1:=⟨k - 1,by simp at hk;omega⟩
    rw [g_sc_insertionSortCmpFunc_huff_coin_l0.eq_2,wi (by omega) (by omega)]
    simp only [bd]
    rw [if_neg (by simp only [List.length_nil];omega)];rfl
  | cons x R =>
    simp only [List.length_cons] at hl hk
    obtain ⟨M,h1,h2⟩:=ins0 k P hP k [x] [x] R Q ⟨List.pairwise_singleton _ _,Sim.refl _,rfl⟩ (by omega) (by simp;omega) (by simp;omega)
    refine ⟨M,?_,h2⟩
    rw [wi (by omega) (by omega)]
    have:(P.length:Int)+((x::R).length:Int)=(P.length:Int)+([x]:List Co).length+R.length:=by simp;omega
    rw [this,show P++x::R++Q=P++[x]++R++Q by simp,show (P.length:Int)+1=(P.length:Int)+([x]:List Co).length by simp,h1]
    rfl
theorem swap0 (k:Nat) (X M Y:List Co) (a b m:Int) (ha:a=X.length):∀ (n:Nat) (A1 B1 A2 B2:List Co),A1.length=B1.length→A2.length=B2.length→b=(X.length:Int)+A1.length+A2.length+M.length→m=(A1.length:Int)+A2.length →
    A2.length<n→X.length+A1.length+A2.length+M.length+B1.length+B2.length≤1000000 →
    g_sc_swapRangeCmpFunc_huff_coin_l0 k a b m n (A1.length:Int) (X++B1++A2++M++A1++B2++Y)=some (X++B1++B2++M++A1++A2++Y):=by
  subst ha
  intro n
  induction n with
  | zero=>intro A1 B1 A2 B2 _ _ _ _ h;omega
  | succ n ih =>
    intro A1 B1 A2 B2 h1 h2 hb hm hn hl
    rw [g_sc_swapRangeCmpFunc_huff_coin_l0.eq_2]
    simp only [bd]
    cases A2 with
    | nil =>
      cases B2 with
      | nil=>rw [if_neg (by simp at hm;omega)]
      | cons v B2=>simp at h2
    | cons u A2 =>
      cases B2 with
      | nil=>simp at h2
      | cons v B2 =>
        simp only [List.length_cons] at h2 hb hm hn hl
        rw [if_pos (by omega)]
        have w1:IntKind.wrap .i64 (b+(A1.length:Int))=((X++B1++u::A2++M++A1).length:Int):=by rw [wi (by omega) (by omega)];simp only [List.length_append,List.length_cons];omega
        have w2:IntKind.wrap .i64 ((X.length:Int)+(A1.length:Int))=((X++B1).length:Int):=by rw [wi (by omega) (by omega)];simp only [List.length_append];omega
        rw [w1,w2]
        have e1:X++B1++u::A2++M++A1++v::B2++Y=(X++B1++u::A2++M++A1)++v::(B2++Y):=by simp
        have e2:X++B1++u::A2++M++A1++v::B2++Y=(X++B1)++u::(A2++M++A1++v::B2++Y):=by simp
        rw [e1,ix_at _ v _ rfl,← e1]
        simp only [Option.bind_some]
        rw [e2,ix_at (X++B1) u _ rfl]
        simp only [Option.bind_some,co_eta]
        rw [set_at (X++B1) u v _ rfl]
        have e3:(X++B1)++v::(A2++M++A1++v::B2++Y)=(X++B1++v::A2++M++A1)++v::(B2++Y):=by simp
        have l3:((X++B1++u::A2++M++A1).length:Int)=((X++B1++v::A2++M++A1).length:Int):=by simp
        rw [l3,e3,ix_at _ v _ rfl]
        simp only [Option.bind_some]
        rw [set_at _ v u _ rfl,wi (by omega) (by omega)]
        have:=ih (A1++[u]) (B1++[v]) A2 B2 (by simp [h1]) (by omega) (by simp;omega) (by simp;omega) (by omega) (by simp;omega)
        rw [show ((A1++[u]).length:Int)=(A1.length:Int)+1 by simp] at this
        rw [show (X++B1++v::A2++M++A1)++u::(B2++Y)=X++(B1++[v])++A2++M++(A1++[u])++B2++Y by simp,this]
        simp
theorem swapR (k:Nat) (X A M B Y:List Co) {a b n:Int} (ha:a=X.length) (hb:b=(X.length:Int)+A.length+M.length) (hn:n=A.length) (hAB:A.length=B.length) (hl:X.length+A.length+M.length+B.length≤1000000) (hk:A.length<k) :
    g_sc_swapRangeCmpFunc_huff_coin k a b n (X++A++M++B++Y)=some (X++B++M++A++Y):=by
  unfold g_sc_swapRangeCmpFunc_huff_coin
  have:=swap0 k X M Y a b n ha k [] [] A B rfl hAB (by simp;omega) (by simp;omega) hk (by simp;omega)
  simp only [List.append_nil,List.length_nil] at this
  rw [show ((0:Nat):Int)=0 from rfl] at this
  rw [this];rfl
theorem rot0 (k:Nat) (m:Int):∀ (n:Nat) (X A B Y:List Co),m=(X.length:Int)+A.length→0<A.length→0<B.length→A.length+B.length≤n→X.length+A.length+B.length≤1000000→A.length+B.length<k →
    ∃ X' A' B' Y',g_sc_rotateCmpFunc_huff_coin_l0 k m n (A.length:Int) (B.length:Int) (X++A++B++Y)=some ((A'.length:Int),X'++A'++B'++Y')∧A'.length=B'.length∧m=(X'.length:Int)+A'.length∧X'++B'++A'++Y'=X++B++A++Y∧X'.length+A'.length+B'.length≤1000000∧A'.length<k:=by
  intro n
  induction n with
  | zero=>intro X A B Y _ h1 h2 h;omega
  | succ n ih =>
    intro X A B Y hm hA hB hn hl hk
    rw [g_sc_rotateCmpFunc_huff_coin_l0.eq_2]
    simp only [bnd',bd]
    by_cases h:A.length=B.length
    · rw [if_pos (by omega)]
      exact ⟨X,A,B,Y,rfl,h,hm,rfl,hl,by omega⟩
    · rw [if_neg (by omega)]
      by_cases hc:B.length<A.length
      · rw [if_pos (by omega)]
        -- the left one is longer: its beginning changes places with the right one
        have hsp:A=A.take B.length++A.drop B.length:=(List.take_append_drop _ _).symm
        generalize hA1:A.take B.length=A1 at hsp
        generalize hA2:A.drop B.length=A2 at hsp
        have l1:A1.length=B.length:=by rw [← hA1];simp;omega
        have l2:A2.length=A.length - B.length:=by rw [← hA2];simp
        rw [wi (n:=m - A.length) (by omega) (by omega),wi (n:=(A.length:Int) - B.length) (by omega) (by omega)]
        have:=swapR k X A1 A2 B Y (a:=m - A.length) (b:=m) (n:=(B.length:Int)) (by omega) (by omega) (by omega) l1 (by omega) (by omega)
        rw [show X++A++B++Y=X++A1++A2++B++Y by rw [hsp];simp,this]
        simp only [Option.bind_some]
        obtain ⟨X',A',B',Y',r1,r2,r3,r4,r5,r6⟩:=ih (X++B) A2 A1 Y (by simp;omega) (by omega) (by omega) (by omega) (by simp;omega) (by omega)
        refine ⟨X',A',B',Y',?_,r2,r3,?_,r5,r6⟩
        · rw [show (A.length:Int) - B.length=(A2.length:Int) by omega,← l1,← r1]
        · rw [r4,hsp];simp
      · rw [if_neg (by omega)]
        have hsp:B=B.take (B.length - A.length)++B.drop (B.length - A.length):=(List.take_append_drop _ _).symm
        generalize hB1:B.take (B.length - A.length)=B1 at hsp
        generalize hB2:B.drop (B.length - A.length)=B2 at hsp
        have l1:B1.length=B.length - A.length:=by rw [← hB1];simp
        have l2:B2.length=A.length:=by rw [← hB2];simp;omega
        rw [wi (n:=m+B.length) (by omega) (by omega),wi (n:=m - A.length) (by omega) (by omega),wi (n:=(B.length:Int) - A.length) (by omega) (by omega),wi (by omega) (by omega)]
        simp only [Option.bind_some]
        have:=swapR k X A B1 B2 Y (a:=m - A.length) (b:=m+B.length - A.length) (n:=(A.length:Int)) (by omega) (by omega) rfl l2.symm (by omega) (by omega)
        rw [show X++A++B++Y=X++A++B1++B2++Y by rw [hsp];simp,this]
        simp only [Option.bind_some]
        obtain ⟨X',A',B',Y',r1,r2,r3,r4,r5,r6⟩:=ih X B2 B1 (A++Y) (by omega) (by omega) (by omega) (by omega) (by omega) (by omega)
        refine ⟨X',A',B',Y',?_,r2,r3,?_,r5,r6⟩
        · rw [show (B.length:Int) - A.length=(B1.length:Int) by omega,← l2,← r1];simp
        · rw [r4,hsp];simp
theorem rotate (k:Nat) (X A B Y:List Co) {a m b:Int} (ha:a=X.length) (hm:m=(X.length:Int)+A.length) (hb:b=(X.length:Int)+A.length+B.length) (hA:0<A.length) (hB:0<B.length) (hl:X.length+A.length+B.length≤1000000) (hk:A.length+B.length<k) :
    g_sc_rotateCmpFunc_huff_coin k a m b (X++A++B++Y)=some (X++B++A++Y):=by
  unfold g_sc_rotateCmpFunc_huff_coin
  obtain ⟨X',A',B',Y',r1,r2,r3,r4,r5,r6⟩:=rot0 k m k X A B Y hm hA hB (by omega) hl hk
  rw [wi (n:=m - a) (by omega) (by omega),wi (n:=b - m) (by omega) (by omega),show m - a=(A.length:Int) by omega,show b - m=(B.length:Int) by omega,r1]
  simp only [Option.bind_some]
  rw [wi (n:=m - A'.length) (by omega) (by omega)]
  have:=swapR k X' A' [] B' Y' (a:=m - A'.length) (b:=m) (n:=(A'.length:Int)) (by omega) (by simp;omega) rfl r2 (by simp;omega) r6
  simp only [List.append_nil] at this
  rw [this,← r4];rfl
abbrev ky (x:List Co) (c:Nat):Int:=(x.getD c default).ffreq
theorem ixk {x:List Co} {c:Nat} (h:c<x.length):ix x (c:Int)=some (x.getD c default):=by
  rw [ix_nat h];simp [List.getD_eq_getElem?_getD,List.getElem?_eq_getElem h]
theorem wUh (n:Int):IntKind.wrap .u64 n=n%18446744073709551616:=by
  simp [IntKind.wrap,IntKind.bits,IntKind.signed]
theorem half (i j:Nat) (hi:i≤1000000) (hj:j≤1000000):IntKind.wrap .i64 (shrI .u64 (IntKind.wrap .u64 (IntKind.wrap .i64 ((i:Int)+j))) 1)=(((i+j) / 2:Nat):Int):=by
  have h1:IntKind.wrap .i64 ((i:Int)+j)=(i:Int)+j:=wi (by omega) (by omega)
  have h2:IntKind.wrap .u64 ((i:Int)+j)=(i:Int)+j:=by rw [wUh];omega
  have h3:shrI .u64 ((i:Int)+j) 1=(((i+j) / 2:Nat):Int):=by
    show ((i:Int)+j).fdiv 2=_
    rw [Int.fdiv_eq_ediv_of_nonneg _ (by decide)];omega
  rw [h1,h2,h3,wi (by omega) (by omega)]
theorem halfw (i j:Nat) (hi:i≤1000000) (hj:j≤1000000):shrI .u64 (IntKind.wrap .u64 (IntKind.wrap .i64 ((i:Int)+j))) 1=(((i+j) / 2:Nat):Int):=by
  have h1:IntKind.wrap .i64 ((i:Int)+j)=(i:Int)+j:=wi (by omega) (by omega)
  have h2:IntKind.wrap .u64 ((i:Int)+j)=(i:Int)+j:=by rw [wUh];omega
  have h3:shrI .u64 ((i:Int)+j) 1=(((i+j) / 2:Nat):Int):=by
    show ((i:Int)+j).fdiv 2=_
    rw [Int.fdiv_eq_ediv_of_nonneg _ (by decide)];omega
  rw [h1,h2,h3]
theorem bis0 (k:Nat) (x:List Co) (a m b:Nat) (ha:a<x.length) (hb:b≤x.length) (hl:x.length≤1000000) (hs:∀ c d,m≤c→c≤d→d<b→ky x c≤ky x d) :
    ∀ (n i j:Nat),m≤i→i≤j→j≤b→j - i<n→(∀ c,m≤c→c<i→ky x c<ky x a)→(∀ c,j≤c→c<b→¬ ky x c<ky x a) →
    ∃ r:Nat,g_sc_symMergeCmpFunc_huff_coin_l0 k a x n i j=some (r:Int)∧m≤r∧r≤b∧(∀ c,m≤c→c<r→ky x c<ky x a)∧(∀ c,r≤c→c<b→¬ ky x c<ky x a):=by
  intro n
  induction n with
  | zero=>intro i j _ _ _ h;omega
  | succ n ih =>
    intro i j hi hij hj hn h1 h2
    rw [g_sc_symMergeCmpFunc_huff_coin_l0.eq_2]
    simp only [bd,Option.bind_some]
    by_cases h:i<j
    · rw [if_pos (by omega),halfw i j (by omega) (by omega),wi (n:=(((i+j) / 2:Nat):Int)) (by omega) (by omega),ixk (c:=(i+j) / 2) (by omega),ixk ha]
      simp only [Option.bind_some,g_cmp_eq,cmp_lt]
      by_cases hc:ky x ((i+j) / 2)<ky x a
      · rw [if_pos hc,wi (by omega) (by omega)]
        obtain ⟨r,e,q⟩:=ih ((i+j) / 2+1) j (by omega) (by omega) hj (by omega) (fun c hc1 hc2=>Int.lt_of_le_of_lt (hs c ((i+j) / 2) hc1 (by omega) (by omega)) hc) h2
        exact ⟨r,by rw [← e];congr 1,q⟩
      · rw [if_neg hc]
        exact ih i ((i+j) / 2) hi (by omega) (by omega) (by omega) h1 (fun c hc1 hc2 hlt=>hc (Int.lt_of_le_of_lt (hs ((i+j) / 2) c (by omega) hc1 hc2) hlt))
    · rw [if_neg (by omega)]
      obtain rfl:i=j:=by omega
      exact ⟨i,rfl,hi,hj,h1,h2⟩
theorem bis2 (k:Nat) (x:List Co) (a m b:Nat) (ha:a<x.length) (hb:b≤x.length) (hl:x.length≤1000000) (hs:∀ c d,m≤c→c≤d→d<b→ky x c≤ky x d) :
    ∀ (n i j:Nat),m≤i→i≤j→j≤b→j - i<n→(∀ c,m≤c→c<i→¬ ky x a<ky x c)→(∀ c,j≤c→c<b→ky x a<ky x c) →
    ∃ r:Nat,g_sc_symMergeCmpFunc_huff_coin_l2 k a x n i j=some (r:Int)∧m≤r∧r≤b∧(∀ c,m≤c→c<r→¬ ky x a<ky x c)∧(∀ c,r≤c→c<b→ky x a<ky x c):=by
  intro n
  induction n with
  | zero=>intro i j _ _ _ h;omega
  | succ n ih =>
    intro i j hi hij hj hn h1 h2
    rw [g_sc_symMergeCmpFunc_huff_coin_l2.eq_2]
    simp only [bd,Option.bind_some]
    by_cases h:i<j
    · rw [if_pos (by omega),halfw i j (by omega) (by omega),wi (n:=(((i+j) / 2:Nat):Int)) (by omega) (by omega),ixk (c:=(i+j) / 2) (by omega),ixk ha]
      simp only [Option.bind_some,g_cmp_eq,cmp_lt,bnd']
      by_cases hc:ky x a<ky x ((i+j) / 2)
      · rw [if_pos hc]
        exact ih i ((i+j) / 2) hi (by omega) (by omega) (by omega) h1 (fun c hc1 hc2=>Int.lt_of_lt_of_le hc (hs ((i+j) / 2) c (by omega) hc1 hc2))
      · rw [if_neg hc,wi (by omega) (by omega)]
        obtain ⟨r,e,q⟩:=ih ((i+j) / 2+1) j (by omega) (by omega) hj (by omega) (fun c hc1 hc2 hlt=>hc (Int.lt_of_lt_of_le hlt (hs c ((i+j) / 2) hc1 (by omega) (by omega)))) h2
        exact ⟨r,by rw [← e];congr 1,q⟩
    · rw [if_neg (by omega)]
      obtain rfl:i=j:=by omega
      exact ⟨i,rfl,hi,hj,h1,h2⟩
theorem bis4 (k:Nat) (x:List Co) (p1 s0 r0:Nat) (hp:p1≤2000000) (hl:x.length≤1000000) (hr:r0≤x.length) (hb:∀ c,s0≤c→c<r0→c<x.length∧c+1≤p1∧p1 - 1 - c<x.length)
    (hs:∀ c d,s0≤c→c≤d→d<r0→ky x c≤ky x d∧ky x (p1 - 1 - d)≤ky x (p1 - 1 - c)) :
    ∀ (n i j:Nat),s0≤i→i≤j→j≤r0→j - i<n→(∀ c,s0≤c→c<i→¬ ky x (p1 - 1 - c)<ky x c)→(∀ c,j≤c→c<r0→ky x (p1 - 1 - c)<ky x c) →
    ∃ r:Nat,g_sc_symMergeCmpFunc_huff_coin_l4 k x (p1:Int) n i j=some (r:Int)∧s0≤r∧r≤r0∧(∀ c,s0≤c→c<r→¬ ky x (p1 - 1 - c)<ky x c)∧(∀ c,r≤c→c<r0→ky x (p1 - 1 - c)<ky x c):=by
  intro n
  induction n with
  | zero=>intro i j _ _ _ h;omega
  | succ n ih =>
    intro i j hi hij hj hn h1 h2
    rw [g_sc_symMergeCmpFunc_huff_coin_l4.eq_2]
    simp only [bd,Option.bind_some]
    by_cases h:i<j
    · have hm:=hb ((i+j) / 2) (by omega) (by omega)
      rw [if_pos (by omega),halfw i j (by omega) (by omega),wi (n:=(((i+j) / 2:Nat):Int)) (by omega) (by omega),wi (n:=(p1:Int) - 1) (by omega) (by omega),wi (n:=(p1:Int) - 1 - (((i+j) / 2:Nat):Int)) (by omega) (by omega),
        show (p1:Int) - 1 - (((i+j) / 2:Nat):Int)=((p1 - 1 - (i+j) / 2:Nat):Int) by omega,ixk (c:=(i+j) / 2) hm.1,ixk hm.2.2]
      simp only [Option.bind_some,g_cmp_eq,cmp_lt,bnd']
      by_cases hc:ky x (p1 - 1 - (i+j) / 2)<ky x ((i+j) / 2)
      · rw [if_pos hc]
        refine ih i ((i+j) / 2) hi (by omega) (by omega) (by omega) h1 (fun c hc1 hc2=>?_)
        have:=hs ((i+j) / 2) c (by omega) hc1 hc2
        omega
      · rw [if_neg hc,wi (by omega) (by omega)]
        obtain ⟨r,e,q⟩:=ih ((i+j) / 2+1) j (by omega) (by omega) hj (by omega) (fun c hc1 hc2 hlt=>by
          have:=hs c ((i+j) / 2) hc1 (by omega) (by omega)
          omega) h2
        exact ⟨r,by rw [← e];congr 1,q⟩
    · rw [if_neg (by omega)]
      obtain rfl:i=j:=by omega
      exact ⟨i,rfl,hi,hj,h1,h2⟩
theorem wander1 (k:Nat):∀ (n:Nat) (X L Y:List Co) (u:Co) (i:Int),i=(X.length:Int)+L.length+1→L.length<n→X.length+L.length≤1000000 →
    g_sc_symMergeCmpFunc_huff_coin_l1 k i n (X.length:Int) (X++u::L++Y)=some (X++L++u::Y):=by
  intro n
  induction n with
  | zero=>intro X L Y u i _ h;omega
  | succ n ih =>
    intro X L Y u i hi hn hl
    rw [g_sc_symMergeCmpFunc_huff_coin_l1.eq_2]
    simp only [bd,Option.bind_some]
    cases L with
    | nil=>rw [wi (by omega) (by omega),if_neg (by simp at hi;omega)];simp
    | cons v L =>
      simp only [List.length_cons] at hi hn hl
      rw [wi (n:=i - 1) (by omega) (by omega),if_pos (by omega)]
      have w:IntKind.wrap .i64 ((X.length:Int)+1)=((X++[u]).length:Int):=by rw [wi (by omega) (by omega)];simp
      rw [w]
      have e1:X++u::v::L++Y=(X++[u])++v::(L++Y):=by simp
      have e2:X++u::v::L++Y=X++u::(v::L++Y):=by simp
      rw [e1,ix_at (X++[u]) v _ rfl,← e1,e2,ix_at X u _ rfl]
      simp only [Option.bind_some,co_eta]
      rw [set_at X u v _ rfl]
      have e3:X++v::(v::L++Y)=(X++[v])++v::(L++Y):=by simp
      have l3:((X++[u]).length:Int)=((X++[v]).length:Int):=by simp
      rw [l3,e3,ix_at (X++[v]) v _ rfl]
      simp only [Option.bind_some]
      rw [set_at (X++[v]) v u _ rfl]
      have:=ih (X++[v]) L Y u i (by simp;omega) (by omega) (by simp;omega)
      rw [show (X++[v])++u::(L++Y)=(X++[v])++u::L++Y by simp,this];simp
theorem wander3 (k:Nat):∀ (n:Nat) (L X Y:List Co) (u:Co) (i:Int),i=(X.length:Int)→L.length<n→X.length+L.length≤1000000 →
    g_sc_symMergeCmpFunc_huff_coin_l3 k i n ((X.length:Int)+L.length) (X++L++u::Y)=some (X++u::L++Y):=by
  intro n
  induction n with
  | zero=>intro L X Y u i _ h;omega
  | succ n ih =>
    intro L X Y u i hi hn hl
    rw [g_sc_symMergeCmpFunc_huff_coin_l3.eq_2]
    simp only [bd]
    rcases List.eq_nil_or_concat L with e | ⟨L,v,e⟩
    · subst e
      rw [if_neg (by simp;omega)];simp
    · rw [List.concat_eq_append] at e;subst e
      have hlen:(L++[v]).length=L.length+1:=by simp
      rw [hlen] at hn hl ⊢
      rw [if_pos (by omega)]
      have w:IntKind.wrap .i64 ((X.length:Int)+((L.length+1:Nat):Int) - 1)=((X++L).length:Int):=by rw [wi (by omega) (by omega)];simp only [List.length_append];omega
      rw [w]
      have e1:X++(L++[v])++u::Y=(X++L)++v::(u::Y):=by simp
      have e2:X++(L++[v])++u::Y=(X++L++[v])++u::Y:=by simp
      rw [e1,ix_at (X++L) v _ rfl,← e1,e2,ix_at (X++L++[v]) u _ (by simp only [List.length_append,List.length_singleton];omega)]
      simp only [Option.bind_some,co_eta]
      rw [set_at (X++L++[v]) u v _ (by simp only [List.length_append,List.length_singleton];omega)]
      have e3:(X++L++[v])++v::Y=(X++L)++v::(v::Y):=by simp
      rw [e3,ix_at (X++L) v _ rfl]
      simp only [Option.bind_some]
      rw [set_at (X++L) v u _ rfl]
      have:=ih L X (v::Y) u i hi (by omega) (by omega)
      rw [show ((X++L).length:Int)=(X.length:Int)+L.length by simp,this];simp
theorem ky_app {P Q:List Co} {c:Nat}:ky (P++Q) (P.length+c)=ky Q c:=by
  have:(P++Q)[P.length+c]? = Q[c]? := by rw [List.getElem?_append_right (by omega)];simp
  simp only [ky,List.getD_eq_getElem?_getD,this]
theorem ky_l {P Q:List Co} {c:Nat} (h:c<P.length):ky (P++Q) c=ky P c:=by simp [ky,List.getD_eq_getElem?_getD,List.getElem?_append_left h]
theorem mem_ky {P:List Co} {x:Co} (h:x∈P):∃ c,c<P.length∧ky P c=x.ffreq:=by
  obtain ⟨c,hc,e⟩:=List.mem_iff_getElem.1 h
  exact ⟨c,hc,by simp [ky,List.getD_eq_getElem?_getD,List.getElem?_eq_getElem hc,e]⟩
theorem srt_ky {P:List Co} (h:Srt kf P):∀ c d,c≤d→d<P.length→ky P c≤ky P d:=by
  intro c d hcd hd
  rcases Nat.lt_or_eq_of_le hcd with q | q
  · have:=List.pairwise_iff_getElem.1 h c d (by omega) hd q
    simpa [ky,List.getD_eq_getElem?_getD,List.getElem?_eq_getElem hd,List.getElem?_eq_getElem (show c<P.length by omega)] using this
  · subst q;exact Int.le_refl _
theorem ky_mid {U V W:List Co} {c d:Nat} (h:c<V.length) (e:d=U.length+c):ky (U++V++W) d=ky V c:=by
  subst e;rw [List.append_assoc,ky_app,ky_l h]
theorem sim_mv {A1 A2 B1 B2:List Co} (h:∀ x∈A2,∀ y∈B1,y.ffreq<x.ffreq):Sim kf ((A1++A2)++(B1++B2)) ((A1++B1)++(A2++B2)):=by
  rw [show (A1++A2)++(B1++B2)=A1++((A2++B1)++B2) by simp,show (A1++B1)++(A2++B2)=A1++((B1++A2)++B2) by simp]
  exact Sim.app (Sim.refl _) (Sim.app (Sim.swap fun x hx y hy e=>absurd e.symm (Int.ne_of_lt (h x hx y hy))) (Sim.refl _))
theorem sorts_nil1 {A B:List Co} (hA:A=[]) (hB:Srt kf B):Sorts (A++B) (A++B):=by subst hA;exact ⟨hB,Sim.refl _,rfl⟩
theorem sorts_nil2 {A B:List Co} (hB:B=[]) (hA:Srt kf A):Sorts (A++B) (A++B):=by subst hB;exact ⟨by simpa using hA,Sim.refl _,rfl⟩
theorem symm:∀ (k:Nat) (P A B Q:List Co) (a m b:Nat),a=P.length→m=a+A.length→b=m+B.length→0<A.length→0<B.length→Srt kf A→Srt kf B→2*(A.length+B.length)+2≤k→b+Q.length≤1000000 →
    ∃ M,g_sc_symMergeCmpFunc_huff_coin k (a:Int) (m:Int) (b:Int) (P++A++B++Q)=some (P++M++Q)∧Sorts (A++B) M:=by
  intro k
  induction k with
  | zero=>intro P A B Q a m b _ _ _ _ _ _ _ h;omega
  | succ k ih =>
    intro P A B Q a m b ha hm hb hA hB sA sB hk hl
    have hX:(P++A++B++Q).length=b+Q.length:=by simp;omega
    have kA:∀ c d,a≤c→c≤d→d<m→ky (P++A++B++Q) c≤ky (P++A++B++Q) d:=by
      intro c d h1 h2 h3
      rw [show P++A++B++Q=P++A++(B++Q) by simp,ky_mid (U:=P) (V:=A) (c:=c - a) (by omega) (by omega),ky_mid (U:=P) (V:=A) (c:=d - a) (by omega) (by omega)]
      exact srt_ky sA _ _ (by omega) (by omega)
    have kB:∀ c d,m≤c→c≤d→d<b→ky (P++A++B++Q) c≤ky (P++A++B++Q) d:=by
      intro c d h1 h2 h3
      rw [ky_mid (U:=P++A) (V:=B) (c:=c - m) (by omega) (by simp;omega),ky_mid (U:=P++A) (V:=B) (c:=d - m) (by omega) (by simp;omega)]
      exact srt_ky sB _ _ (by omega) (by omega)
    rw [g_sc_symMergeCmpFunc_huff_coin]
    unfold h_sc_symMergeCmpFunc_huff_coin
    simp only [Option.bind_some,bd]
    rw [wi (n:=(m:Int) - a) (by omega) (by omega),wi (n:=(b:Int) - m) (by omega) (by omega)]
    by_cases h1:A.length=1
    · rw [if_pos (by omega)]
      obtain ⟨u,rfl⟩:=List.length_eq_one_iff.1 h1
      obtain ⟨r,e,r1,r2,r3,r4⟩:=bis0 k (P++[u]++B++Q) a m b (by omega) (by omega) (by omega) kB k m b (Nat.le_refl _) (by omega) (Nat.le_refl _) (by simp at hk;omega) (fun c h1 h2=>by omega) (fun c h1 h2=>by omega)
      rw [e]
      simp only [Option.bind_some]
      have hsp:B=B.take (r - m)++B.drop (r - m):=(List.take_append_drop _ _).symm
      generalize hB1:B.take (r - m)=B1 at hsp
      generalize hB2:B.drop (r - m)=B2 at hsp
      have l1:B1.length=r - m:=by rw [← hB1];simp;omega
      have hu:ky (P++[u]++B++Q) a=u.ffreq:=by
        rw [show P++[u]++B++Q=P++[u]++(B++Q) by simp,ky_mid (U:=P) (V:=[u]) (c:=0) (by simp) (by omega)];rfl
      have w:=wander1 k k P B1 (B2++Q) u (r:Int) (by simp at hm;omega) (by simp at hk;omega) (by omega)
      refine ⟨B1++u::B2,?_,?_⟩
      · rw [show P++[u]++B++Q=P++u::B1++(B2++Q) by rw [hsp];simp,ha,w];simp
      · have q1:∀ x∈B1,x.ffreq<u.ffreq:=by
          intro x hx
          obtain ⟨c,hc,e⟩:=mem_ky hx
          have:=r3 (m+c) (by omega) (by omega)
          rw [hu,show P++[u]++B++Q=(P++[u])++B1++(B2++Q) by rw [hsp];simp,ky_mid (U:=P++[u]) (V:=B1) (c:=c) hc (by simp at hm ⊢;omega),e] at this
          exact this
        have q2:∀ x∈B2,u.ffreq≤x.ffreq:=by
          intro x hx
          obtain ⟨c,hc,e⟩:=mem_ky hx
          have l2:B2.length=B.length - (r - m):=by rw [← hB2];simp
          have:=r4 (r+c) (by omega) (by omega)
          rw [hu,show P++[u]++B++Q=(P++[u]++B1)++B2++Q by rw [hsp];simp,ky_mid (U:=P++[u]++B1) (V:=B2) (c:=c) hc (by simp at hm ⊢;omega),e] at this
          exact Int.not_lt.1 this
        rw [hsp] at sB
        have sB':=Srt.sub sB
        refine ⟨Srt.mk sB'.1 (List.pairwise_cons.2 ⟨q2,sB'.2.1⟩) ?_,?_,by rw [hsp];simp;omega⟩
        · intro x hx y hy
          rcases List.mem_cons.1 hy with q | q
          · rw [q];exact Int.le_of_lt (q1 x hx)
          · exact sB'.2.2 x hx y q
        · have:=sim_mv (A1:=[]) (A2:=[u]) (B1:=B1) (B2:=B2) (fun x hx y hy=>by rw [List.mem_singleton] at hx;rw [hx];exact q1 y hy)
          rw [hsp];simpa using this
    · rw [if_neg (by omega)]
      by_cases h2:B.length=1
      · rw [if_pos (by omega)]
        obtain ⟨u,rfl⟩:=List.length_eq_one_iff.1 h2
        obtain ⟨r,e,r1,r2,r3,r4⟩:=bis2 k (P++A++[u]++Q) m a m (by omega) (by omega) (by omega) kA k a m (Nat.le_refl _) (by omega) (Nat.le_refl _) (by simp at hk;omega) (fun c h1 h2=>by omega) (fun c h1 h2=>by omega)
        rw [e]
        simp only [Option.bind_some]
        have hsp:A=A.take (r - a)++A.drop (r - a):=(List.take_append_drop _ _).symm
        generalize hA1:A.take (r - a)=A1 at hsp
        generalize hA2:A.drop (r - a)=A2 at hsp
        have l1:A1.length=r - a:=by rw [← hA1];simp;omega
        have l2:A2.length=A.length - (r - a):=by rw [← hA2];simp
        have hu:ky (P++A++[u]++Q) m=u.ffreq:=by
          rw [ky_mid (U:=P++A) (V:=[u]) (c:=0) (by simp) (by simp;omega)];rfl
        have w:=wander3 k k A2 (P++A1) Q u (r:Int) (by simp;omega) (by simp at hk;omega) (by simp;omega)
        refine ⟨A1++u::A2,?_,?_⟩
        · rw [show P++A++[u]++Q=(P++A1)++A2++u::Q by rw [hsp];simp,show (m:Int)=((P++A1).length:Int)+A2.length by simp;omega,w];simp
        · have q1:∀ x∈A1,x.ffreq≤u.ffreq:=by
            intro x hx
            obtain ⟨c,hc,e⟩:=mem_ky hx
            have:=r3 (a+c) (by omega) (by omega)
            rw [hu,show P++A++[u]++Q=P++A1++(A2++[u]++Q) by rw [hsp];simp,ky_mid (U:=P) (V:=A1) (c:=c) hc (by omega),e] at this
            exact Int.not_lt.1 this
          have q2:∀ x∈A2,u.ffreq<x.ffreq:=by
            intro x hx
            obtain ⟨c,hc,e⟩:=mem_ky hx
            have:=r4 (r+c) (by omega) (by omega)
            rw [hu,show P++A++[u]++Q=(P++A1)++A2++([u]++Q) by rw [hsp];simp,ky_mid (U:=P++A1) (V:=A2) (c:=c) hc (by simp;omega),e] at this
            exact this
          rw [hsp] at sA
          have sA':=Srt.sub sA
          refine ⟨Srt.mk sA'.1 (List.pairwise_cons.2 ⟨fun x hx=>Int.le_of_lt (q2 x hx),sA'.2.1⟩) ?_,?_,by rw [hsp];simp⟩
          · intro x hx y hy
            rcases List.mem_cons.1 hy with q | q
            · rw [q];exact q1 x hx
            · exact sA'.2.2 x hx y q
          · have:=sim_mv (A1:=A1) (A2:=A2) (B1:=[u]) (B2:=[]) (fun x hx y hy=>by rw [List.mem_singleton] at hy;rw [hy];exact q2 x hx)
            rw [hsp];simpa using this
      · rw [if_neg (by omega),half a b (by omega) (by omega)]
        obtain ⟨mid,hmid⟩:∃ mid,mid=(a+b) / 2:=⟨_,rfl⟩
        rw [← hmid,wi (n:=(mid:Int)+m) (by omega) (by omega)]
        have hsr:∃ s0 r0:Nat,(if (mid:Int)<m then some (IntKind.wrap .i64 ((mid:Int)+m - b),(mid:Int)) else some ((a:Int),(m:Int)))=some ((s0:Int),(r0:Int))∧a≤s0∧s0≤r0∧r0≤m∧r0≤mid∧mid≤s0+B.length∧(s0=a∨mid+m=s0+b)∧(r0=m∨r0=mid):=by
          by_cases h3:mid<m
          · rw [if_pos (by omega),wi (by omega) (by omega)]
            exact ⟨mid+m - b,mid,by rw [show (mid:Int)+m - b=((mid+m - b:Nat):Int) by omega],by omega,by omega,by omega,by omega,by omega,.inr (by omega),.inr rfl⟩
          · rw [if_neg (by omega)]
            exact ⟨a,m,rfl,by omega,by omega,by omega,by omega,by omega,.inl rfl,.inl rfl⟩
        obtain ⟨s0,r0,e0,g1,g2,g3,g4,g5,g6,g7⟩:=hsr
        rw [e0]
        simp only [Option.bind_some]
        rw [show (mid:Int)+m=((mid+m:Nat):Int) by omega]
        obtain ⟨s,e,b1,b2,b3,b4⟩:=bis4 k (P++A++B++Q) (mid+m) s0 r0 (by omega) (by omega) (by omega) (fun c h1 h2=>⟨by omega,by omega,by omega⟩)
          (fun c d h1 h2 h3=>⟨kA c d (by omega) h2 (by omega),kB _ _ (by omega) (by omega) (by omega)⟩) k s0 r0 (Nat.le_refl _) g2 (Nat.le_refl _) (by omega) (fun c h1 h2=>by omega) (fun c h1 h2=>by omega)
        rw [e]
        simp only [Option.bind_some]
        have hsA:A=A.take (s - a)++A.drop (s - a):=(List.take_append_drop _ _).symm
        generalize hA1:A.take (s - a)=A1 at hsA
        generalize hA2:A.drop (s - a)=A2 at hsA
        have lA1:A1.length=s - a:=by rw [← hA1];simp;omega
        have lA2:A2.length=m - s:=by rw [← hA2];simp;omega
        have hsB:B=B.take (mid - s)++B.drop (mid - s):=(List.take_append_drop _ _).symm
        generalize hB1:B.take (mid - s)=B1 at hsB
        generalize hB2:B.drop (mid - s)=B2 at hsB
        have lB1:B1.length=mid - s:=by rw [← hB1];simp;omega
        have lB2:B2.length=B.length - (mid - s):=by rw [← hB2];simp
        have kA1:∀ x∈A1,x.ffreq≤ky (P++A++B++Q) (s - 1)∧a<s:=by
          intro x hx
          obtain ⟨c,hc,e⟩:=mem_ky hx
          have:=kA (a+c) (s - 1) (by omega) (by omega) (by omega)
          rw [← e,show ky A1 c=ky (P++A++B++Q) (a+c) by rw [show P++A++B++Q=P++A1++(A2++B++Q) by rw [hsA];simp,ky_mid (U:=P) (V:=A1) (c:=c) hc (by omega)]]
          exact ⟨this,by omega⟩
        have kA2:∀ x∈A2,ky (P++A++B++Q) s≤x.ffreq∧s<m:=by
          intro x hx
          obtain ⟨c,hc,e⟩:=mem_ky hx
          have:=kA s (s+c) (by omega) (by omega) (by omega)
          rw [← e,show ky A2 c=ky (P++A++B++Q) (s+c) by rw [show P++A++B++Q=(P++A1)++A2++(B++Q) by rw [hsA];simp,ky_mid (U:=P++A1) (V:=A2) (c:=c) hc (by simp;omega)]]
          exact ⟨this,by omega⟩
        have kB1:∀ x∈B1,x.ffreq≤ky (P++A++B++Q) (mid+m - 1 - s)∧s<mid:=by
          intro x hx
          obtain ⟨c,hc,e⟩:=mem_ky hx
          have:=kB (m+c) (mid+m - 1 - s) (by omega) (by omega) (by omega)
          rw [← e,show ky B1 c=ky (P++A++B++Q) (m+c) by rw [show P++A++B++Q=(P++A)++B1++(B2++Q) by rw [hsB];simp,ky_mid (U:=P++A) (V:=B1) (c:=c) hc (by simp;omega)]]
          exact ⟨this,by omega⟩
        have kB2:∀ x∈B2,ky (P++A++B++Q) (mid+m - s)≤x.ffreq∧mid - s<B.length:=by
          intro x hx
          obtain ⟨c,hc,e⟩:=mem_ky hx
          have:=kB (mid+m - s) (mid+m - s+c) (by omega) (by omega) (by omega)
          rw [← e,show ky B2 c=ky (P++A++B++Q) (mid+m - s+c) by rw [show P++A++B++Q=(P++A++B1)++B2++Q by rw [hsB];simp,ky_mid (U:=P++A++B1) (V:=B2) (c:=c) hc (by simp;omega)]]
          exact ⟨this,by omega⟩
        have h12:∀ x∈A1,∀ y∈B2,x.ffreq≤y.ffreq:=by
          intro x hx y hy
          have ⟨x1,x2⟩:=kA1 x hx
          have ⟨y1,y2⟩:=kB2 y hy
          have:=b3 (s - 1) (by omega) (by omega)
          rw [show mid+m - 1 - (s - 1)=mid+m - s by omega] at this
          omega
        have h21:∀ x∈A2,∀ y∈B1,y.ffreq<x.ffreq:=by
          intro x hx y hy
          have ⟨x1,x2⟩:=kA2 x hx
          have ⟨y1,y2⟩:=kB1 y hy
          have:=b4 s (Nat.le_refl _) (by omega)
          omega
        have sA':=Srt.sub (show Srt kf (A1++A2) by rw [← hsA];exact sA)
        have sB':=Srt.sub (show Srt kf (B1++B2) by rw [← hsB];exact sB)
        rw [wi (n:=((mid+m:Nat):Int) - s) (by omega) (by omega),show ((mid+m:Nat):Int) - s=((mid+m - s:Nat):Int) by omega]
        have hrot:(((if (s:Int)<m then some (decide ((m:Int)<((mid+m - s:Nat):Int))) else some false):Option Bool).bind fun x2486=>(bif x2486 then (g_sc_rotateCmpFunc_huff_coin k (s:Int) (m:Int) ((mid+m - s:Nat):Int) (P++A++B++Q)).bind fun x2492=>some x2492 else some (P++A++B++Q)))=some (P++(A1++B1)++A2++B2++Q):=by
          by_cases c1:s<m
          · rw [if_pos (by omega)]
            by_cases c2:s<mid
            · rw [dt (by omega)]
              simp only [Option.bind_some,bt]
              have:=rotate k (P++A1) A2 B1 (B2++Q) (a:=(s:Int)) (m:=(m:Int)) (b:=((mid+m - s:Nat):Int)) (by simp;omega) (by simp;omega) (by simp;omega) (by omega) (by omega) (by simp;omega) (by omega)
              rw [show P++A++B++Q=P++A1++A2++B1++(B2++Q) by rw [hsA,hsB];simp,this];simp
            · rw [df (by omega)]
              have:B1=[]:=List.length_eq_zero_iff.1 (by omega)
              simp only [Option.bind_some,bf]
              rw [hsA,hsB,this];simp
          · rw [if_neg (by omega)]
            have:A2=[]:=List.length_eq_zero_iff.1 (by omega)
            simp only [Option.bind_some,bf]
            rw [hsA,hsB,this];simp
        rw [hrot]
        simp only [Option.bind_some]
        have hm1:∃ M1,(((if (a:Int)<s then some (decide ((s:Int)<(mid:Int))) else some false):Option Bool).bind fun x2506=>(bif x2506 then (g_sc_symMergeCmpFunc_huff_coin k (a:Int) (s:Int) (mid:Int) (P++(A1++B1)++A2++B2++Q)).bind fun x2512=>some x2512 else some (P++(A1++B1)++A2++B2++Q)))=some (P++M1++A2++B2++Q)∧Sorts (A1++B1) M1:=by
          by_cases c1:a<s
          · rw [if_pos (by omega)]
            by_cases c2:s<mid
            · rw [dt (by omega)]
              simp only [Option.bind_some,bt]
              obtain ⟨M,m1,m2⟩:=ih P A1 B1 (A2++B2++Q) a s mid ha (by omega) (by omega) (by omega) (by omega) sA'.1 sB'.1 (by omega) (by simp;omega)
              refine ⟨M,?_,m2⟩
              rw [show P++(A1++B1)++A2++B2++Q=P++A1++B1++(A2++B2++Q) by simp,m1];simp
            · rw [df (by omega)]
              exact ⟨A1++B1,rfl,sorts_nil2 (List.length_eq_zero_iff.1 (by omega)) sA'.1⟩
          · rw [if_neg (by omega)]
            exact ⟨A1++B1,rfl,sorts_nil1 (List.length_eq_zero_iff.1 (by omega)) sB'.1⟩
        obtain ⟨M1,e1,o1⟩:=hm1
        rw [e1]
        simp only [Option.bind_some]
        have lM1:M1.length=mid - a:=by rw [o1.len];simp;omega
        have hm2:∃ M2,(((if (mid:Int)<((mid+m - s:Nat):Int) then some (decide (((mid+m - s:Nat):Int)<(b:Int))) else some false):Option Bool).bind fun x2517=>(bif x2517 then (g_sc_symMergeCmpFunc_huff_coin k (mid:Int) ((mid+m - s:Nat):Int) (b:Int) (P++M1++A2++B2++Q)).bind fun x2524=>some x2524 else some (P++M1++A2++B2++Q)))=some (P++M1++M2++Q)∧Sorts (A2++B2) M2:=by
          by_cases c1:s<m
          · rw [if_pos (by omega)]
            by_cases c2:mid+m - s<b
            · rw [dt (by omega)]
              simp only [Option.bind_some,bt]
              obtain ⟨M,m1,m2⟩:=ih (P++M1) A2 B2 Q mid (mid+m - s) b (by simp;omega) (by omega) (by omega) (by omega) (by omega) sA'.2.1 sB'.2.1 (by omega) hl
              exact ⟨M,by rw [m1];rfl,m2⟩
            · rw [df (by omega)]
              exact ⟨A2++B2,by simp,sorts_nil2 (List.length_eq_zero_iff.1 (by omega)) sA'.2.1⟩
          · rw [if_neg (by omega)]
            exact ⟨A2++B2,by simp,sorts_nil1 (List.length_eq_zero_iff.1 (by omega)) sB'.2.1⟩
        obtain ⟨M2,e2,o2⟩:=hm2
        refine ⟨M1++M2,?_,Srt.mk o1.srt o2.srt ?_,?_,?_⟩
        · rw [e2];simp
        · intro x hx y hy
          rcases List.mem_append.1 (o1.sim.symm.mem hx) with q | q <;> rcases List.mem_append.1 (o2.sim.symm.mem hy) with w | w
          · exact sA'.2.2 x q y w
          · exact h12 x q y w
          · exact Int.le_of_lt (h21 y w x q)
          · exact sB'.2.2 x q y w
        · refine Sim.trans ?_ (Sim.app o1.sim o2.sim)
          rw [hsA,hsB];exact sim_mv h21
        · simp only [List.length_append,o1.len,o2.len];rw [hsA,hsB];simp only [List.length_append];omega
inductive Runs (w:Nat):List Co→Prop
  | last (l:List Co) (h:l.length≤w) (s:Srt kf l):Runs w l
  | cons (B l:List Co) (h:B.length=w) (s:Srt kf B) (r:Runs w l):Runs w (B++l)
theorem Runs.one {w:Nat} {l:List Co} (h:Runs w l) (hl:l.length≤w) (hw:0<w):Srt kf l:=by
  cases h with
  | last _ _ s=>exact s
  | cons B l h s r =>
    have:l=[]:=List.length_eq_zero_iff.1 (by simp at hl;omega)
    subst this;simpa using s
theorem Runs.two {w:Nat} {l:List Co} (h:Runs w l) (hl:w<l.length):∃ A l',l=A++l'∧A.length=w∧Srt kf A∧Runs w l'∧0<l'.length:=by
  cases h with
  | last _ h _=>omega
  | cons B l h s r=>exact ⟨B,l,rfl,h,s,r,by simp at hl;omega⟩
theorem Runs.head {w:Nat} {l:List Co} (h:Runs w l) (hl:w≤l.length) (hw:0<w):∃ A l',l=A++l'∧A.length=w∧Srt kf A∧Runs w l':=by
  cases h with
  | last _ h s=>exact ⟨l,[],by simp,by omega,s,.last _ (by simp) List.Pairwise.nil⟩
  | cons B l h s r=>exact ⟨B,l,rfl,h,s,r⟩
def Done (w:Nat) (D:List Co):Prop:=∀ T,Runs w T→Runs w (D++T)
theorem Done.nil {w:Nat}:Done w []:=fun T h=>h
theorem Done.snoc {w:Nat} {D B:List Co} (h:Done w D) (hB:B.length=w) (s:Srt kf B):Done w (D++B):=fun T hT=>by
  rw [List.append_assoc];exact h _ (.cons B T hB s hT)
theorem blocks (k:Nat) (N:Int) (hN:N≤100000) (hk:100≤k):∀ (n:Nat) (D R:List Co),Done 20 D→N=(D.length:Int)+R.length→R.length<n →
    ∃ D' R',g_sc_stableCmpFunc_huff_coin_l0 k N n (D.length:Int) ((D.length:Int)+20) (D++R)=some ((D'.length:Int),D'++R')∧Done 20 D'∧R'.length<20∧Sim kf (D++R) (D'++R')∧N=(D'.length:Int)+R'.length:=by
  intro n
  induction n with
  | zero=>intro D R _ _ h;omega
  | succ n ih =>
    intro D R hD hL hn
    rw [g_sc_stableCmpFunc_huff_coin_l0.eq_2]
    simp only [bd]
    by_cases h:20≤R.length
    · rw [if_pos (by omega)]
      have hsp:R=R.take 20++R.drop 20:=(List.take_append_drop _ _).symm
      generalize hR1:R.take 20=R1 at hsp
      generalize hR2:R.drop 20=R2 at hsp
      have l1:R1.length=20:=by rw [← hR1];simp;omega
      have l2:R2.length=R.length - 20:=by rw [← hR2];simp
      obtain ⟨M,m1,m2⟩:=insertion k D R1 R2 (by omega) (by omega) (by omega) (b:=(D.length:Int)+20) (by omega)
      rw [show D++R=D++R1++R2 by rw [hsp];simp,m1]
      simp only [Option.bind_some]
      have lM:M.length=20:=by rw [m2.len];exact l1
      obtain ⟨D',R',r1,r2,r3,r4,r5⟩:=ih (D++M) R2 (hD.snoc lM m2.srt) (by simp;omega) (by omega)
      refine ⟨D',R',?_,r2,r3,?_,r5⟩
      · rw [wi (by omega) (by omega),← r1];congr 1 <;> simp <;> omega
      · exact Sim.trans (Sim.app (Sim.app (Sim.refl _) m2.sim) (Sim.refl _)) r4
    · rw [if_neg (by omega)]
      exact ⟨D,R,rfl,hD,by omega,Sim.refl _,hL⟩
theorem merges (k:Nat) (N:Int) (w:Nat) (hw:0<w) (hw2:w≤100000) (hN:N≤100000) (hk:210000≤k):∀ (n:Nat) (D R:List Co),Done (2*w) D→Runs w R→N=(D.length:Int)+R.length→R.length<n →
    ∃ D' R',g_sc_stableCmpFunc_huff_coin_l2 k N (w:Int) n (D.length:Int) ((D.length:Int)+(2*w:Nat)) (D++R)=some ((D'.length:Int),D'++R')∧Done (2*w) D'∧Runs w R'∧R'.length<2*w∧Sim kf (D++R) (D'++R')∧N=(D'.length:Int)+R'.length:=by
  intro n
  induction n with
  | zero=>intro D R _ _ _ h;omega
  | succ n ih =>
    intro D R hD hR hL hn
    rw [g_sc_stableCmpFunc_huff_coin_l2.eq_2]
    simp only [bd]
    by_cases h:2*w≤R.length
    · rw [if_pos (by omega)]
      obtain ⟨A,R1,rfl,lA,sA,rR⟩:=hR.head (by omega) hw
      obtain ⟨B,R2,rfl,lB,sB,rR⟩:=rR.head (by simp at h;omega) hw
      simp only [List.length_append] at h hL hn
      obtain ⟨M,m1,m2⟩:=symm k D A B R2 D.length (D.length+w) (D.length+2*w) rfl (by omega) (by omega) (by omega) (by omega) sA sB (by omega) (by omega)
      rw [wi (n:=(D.length:Int)+w) (by omega) (by omega),show (D.length:Int)+w=((D.length+w:Nat):Int) by omega,show (D.length:Int)+((2*w:Nat):Int)=((D.length+2*w:Nat):Int) by omega,show D++(A++(B++R2))=D++A++B++R2 by simp,m1]
      simp only [Option.bind_some]
      have lM:M.length=2*w:=by rw [m2.len];simp;omega
      obtain ⟨D',R',r1,r2,r3,r4,r5,r6⟩:=ih (D++M) R2 (hD.snoc lM m2.srt) rR (by simp;omega) (by omega)
      refine ⟨D',R',?_,r2,r3,r4,?_,r6⟩
      · rw [wi (n:=2*(w:Int)) (by omega) (by omega),wi (by omega) (by omega),← r1];congr 1 <;> simp <;> omega
      · refine Sim.trans ?_ r5
        rw [List.append_assoc D A B]
        exact Sim.app (Sim.app (Sim.refl _) m2.sim) (Sim.refl _)
    · rw [if_neg (by omega)]
      exact ⟨D,R,rfl,hD,hR,by omega,Sim.refl _,hL⟩
theorem doubling (k:Nat) (N:Int) (hN:N≤100000) (hk:210000≤k):∀ (n:Nat) (w:Nat) (R:List Co),0<w→w≤200000→Runs w R→N=(R.length:Int)→R.length<n+w →
    ∃ M,g_sc_stableCmpFunc_huff_coin_l1 k N (n+1) (w:Int) R=some M∧Sorts R M:=by
  intro n
  induction n with
  | zero =>
    intro w R hw hw2 hR hL h
    rw [g_sc_stableCmpFunc_huff_coin_l1.eq_2]
    simp only [bd]
    rw [if_neg (by omega)]
    exact ⟨R,rfl,hR.one (by omega) hw,Sim.refl _,rfl⟩
  | succ n ih =>
    intro w R hw hw2 hR hL hn
    rw [g_sc_stableCmpFunc_huff_coin_l1.eq_2]
    simp only [bd]
    by_cases h:w<R.length
    · rw [if_pos (by omega),wi (n:=2*(w:Int)) (by omega) (by omega)]
      obtain ⟨D,S,r1,r2,r3,r4,r5,r6⟩:=merges k N w hw (by omega) hN hk k [] R Done.nil hR (by simpa using hL) (by omega)
      simp only [List.nil_append,List.length_nil] at r1 r5
      rw [show ((0:Nat):Int)+((2*w:Nat):Int)=2*(w:Int) by omega,show ((0:Nat):Int)=0 from rfl] at r1
      rw [r1]
      simp only [Option.bind_some]
      rw [wi (n:=(D.length:Int)+w) (by omega) (by omega),wi (n:=(w:Int)*2) (by omega) (by omega)]
      have hfin:∃ S',(bif decide ((D.length:Int)+w<N) then (g_sc_symMergeCmpFunc_huff_coin k (D.length:Int) ((D.length:Int)+w) N (D++S)).bind fun x2700=>some x2700 else some (D++S))=some (D++S')∧Sorts S S':=by
        rw [bd]
        by_cases c:w<S.length
        · rw [if_pos (by omega)]
          obtain ⟨A,B,rfl,lA,sA,rB,hB⟩:=r3.two c
          simp only [List.length_append] at r4 r6
          have sB:=rB.one (by omega) hw
          obtain ⟨M,m1,m2⟩:=symm k D A B [] D.length (D.length+w) (D.length+w+B.length) rfl (by omega) (by omega) (by omega) hB sA sB (by omega) (by simp;omega)
          refine ⟨M,?_,m2⟩
          rw [show (D.length:Int)+w=((D.length+w:Nat):Int) by omega,show N=((D.length+w+B.length:Nat):Int) by omega,show D++(A++B)=D++A++B++[] by simp,m1];simp
        · rw [if_neg (by omega)]
          exact ⟨S,rfl,r3.one (by omega) hw,Sim.refl _,rfl⟩
      obtain ⟨S',s1,s2⟩:=hfin
      rw [s1]
      simp only [Option.bind_some]
      have hr:Runs (2*w) (D++S'):=r2 _ (.last _ (by rw [s2.len];omega) s2.srt)
      obtain ⟨M,m1,m2⟩:=ih (2*w) (D++S') (by omega) (by omega) hr (by simp [s2.len];omega) (by simp [s2.len];omega)
      refine ⟨M,?_,m2.srt,Sim.trans r5 (Sim.trans (Sim.app (Sim.refl _) s2.sim) m2.sim),by rw [m2.len];simp [s2.len];omega⟩
      rw [← m1,show (w:Int)*2=((2*w:Nat):Int) by omega]
    · rw [if_neg (by omega)]
      exact ⟨R,rfl,hR.one (by omega) hw,Sim.refl _,rfl⟩
theorem sortStable (k:Nat) (x:List Co) (hk:210000≤k) (hx:x.length≤100000):∃ M,g_sc_SortStableFunc_huff_coin_huff_coin k x=some M∧Sorts x M:=by
  unfold g_sc_SortStableFunc_huff_coin_huff_coin g_sc_stableCmpFunc_huff_coin
  obtain ⟨D,R,r1,r2,r3,r4,r5⟩:=blocks k (x.length:Int) (by omega) (by omega) k [] x Done.nil (by simp) (by omega)
  simp only [List.nil_append,List.length_nil] at r1 r4
  rw [show ((0:Nat):Int)+20=20 from rfl,show ((0:Nat):Int)=0 from rfl] at r1
  rw [r1]
  simp only [Option.bind_some]
  obtain ⟨M,m1,m2⟩:=insertion k D R [] (by omega) (by omega) (by omega) (b:=(x.length:Int)) (by omega)
  simp only [List.append_nil] at m1
  rw [m1]
  simp only [Option.bind_some]
  obtain ⟨k,rfl⟩:∃ j,k=j+1:=⟨k - 1,by omega⟩
  have hr:Runs 20 (D++M):=r2 _ (.last _ (by rw [m2.len];omega) m2.srt)
  have hl:(D++M).length=x.length:=by simp [m2.len];omega
  obtain ⟨M',e1,e2⟩:=doubling (k+1) (x.length:Int) (by omega) (by omega) k 20 (D++M) (by decide) (by decide) hr (by rw [hl]) (by omega)
  refine ⟨M',?_,e2.srt,Sim.trans r4 (Sim.trans (Sim.app (Sim.refl _) m2.sim) e2.sim),by rw [e2.len,hl]⟩
  rw [show (20:Int)=((20:Nat):Int) from rfl,e1];rfl
theorem Sim.perm {α:Type} [DecidableEq α] {f:α→Int} {l r:List α} (h:Sim f l r):l.Perm r:=by
  rw [List.perm_iff_count]
  intro a
  have e:∀ l:List α,l.count a=(l.filter (fun x=>f x==f a)).count a:=fun l=>(List.count_filter (p:=fun x=>f x==f a) (by simp)).symm
  rw [e l,e r,h]
theorem Sim.map {α β:Type} {f:α→Int} {g:β→Int} {m:α→β} (hm:∀ a,g (m a)=f a) {l r:List α} (h:Sim f l r):Sim g (l.map m) (r.map m):=fun k=>by
  rw [List.filter_map,List.filter_map]
  have:((fun x=>g x==k) ∘ m)=fun x=>f x==k:=by funext x;simp [hm]
  rw [this,h]
theorem Srt.map {α β:Type} {f:α→Int} {g:β→Int} {m:α→β} (hm:∀ a,g (m a)=f a) {l:List α} (h:Srt f l):Srt g (l.map m):=by
  unfold Srt at *
  rw [List.pairwise_map]
  exact h.imp fun {a b} q=>by rw [hm,hm];exact q
theorem st_of {α:Type} {f:α→Int} {m:α→C} (hm:∀ a,key (m a)=f a) {l r:List α} (hs:Srt f r) (h:Sim f l r):r.map m=st (l.map m):=st_eq (Srt.map hm hs) (Sim.map hm h)
theorem lev_bd (base:List C) (hb:∀ x∈base,0≤x.1∧x.1≤1073741824∧x.2.length≤1):∀ j,(∀ x∈lev base j,0≤x.1∧x.1≤1073741824*(2^j:Nat)∧x.2.length≤2^j)∧(lev base j).length≤2*base.length
  | 0=>⟨by intro x hx;simp [lev] at hx,by simp [lev]⟩
  | j+1=>by
    obtain ⟨h1,h2⟩:=lev_bd base hb j
    refine ⟨fun x hx=>?_,by rw [lev_len];omega⟩
    rcases List.mem_append.1 (st_mem.1 hx) with e | e
    · have:=hb x e
      have hp:1≤2^(j+1):=Nat.pow_pos (by decide)
      refine ⟨this.1,?_,by omega⟩
      have:(1:Int)≤((2^(j+1):Nat):Int):=by omega
      omega
    · have hp:∀ l:List C,(∀ x∈l,0≤x.1∧x.1≤1073741824*(2^j:Nat)∧x.2.length≤2^j)→∀ x∈pairs l,0≤x.1∧x.1≤1073741824*(2^(j+1):Nat)∧x.2.length≤2^(j+1):=by
        intro l
        induction l using pairs.induct with
        | case1 a b l ih =>
          intro hl x hx
          rcases List.mem_cons.1 hx with e | e
          · subst e
            have q1:=hl a (by simp);have q2:=hl b (by simp)
            refine ⟨by show 0≤a.1+b.1;omega,?_,?_⟩
            · show a.1+b.1≤_
              have:((2^(j+1):Nat):Int)=2*((2^j:Nat):Int):=by rw [Nat.pow_succ];omega
              omega
            · show (a.2++b.2).length≤_
              rw [List.length_append,Nat.pow_succ];omega
          · exact ih (fun z hz=>hl z (by simp [hz])) x e
        | case2 l hl =>
          intro _ x hx
          unfold pairs at hx;split at hx
          · exact absurd rfl (hl _ _ _)
          · simp at hx
      exact hp _ h1 x e
abbrev toC:Co→C:=fun c=>(c.ffreq,c.fsyms)
def prs:List Co→List Co
  | x::y::l=>⟨x.ffreq+y.ffreq,x.fsyms++y.fsyms⟩::prs l
  | _=>[]
theorem prs_map:∀ l:List Co,(prs l).map toC=pairs (l.map toC)
  | []=>rfl
  | [_]=>rfl
  | x::y::l=>by simp only [prs,List.map_cons,pairs,prs_map l]
theorem concat (n:Nat) (a b:List Int) (ha:a.length≤100000) (hb:b.length≤100000):g_sc_Concat_int_int (n+3) [a,b]=some (Sum.inr (a++b)):=by
  unfold g_sc_Concat_int_int
  have i0:ix [a,b] 0=some a:=rfl
  have i1:ix [a,b] 1=some b:=rfl
  have e0:g_sc_Concat_int_int_l0 (n+3) [a,b] (n+3) 0 0=some (Sum.inr (((a.length+b.length:Nat):Int))):=by
    rw [g_sc_Concat_int_int_l0.eq_2]
    simp only [bd,Option.bind_some,List.length_cons,List.length_nil,i0]
    rw [if_pos (by decide),wi (n:=(0:Int)+(a.length:Int)) (by omega) (by omega),if_neg (by omega),wi (n:=(0:Int)+1) (by omega) (by omega),show (0:Int)+1=1 from rfl,g_sc_Concat_int_int_l0.eq_2]
    simp only [bd,Option.bind_some,List.length_cons,List.length_nil,i1]
    rw [if_pos (by decide),wi (n:=(0:Int)+(a.length:Int)+b.length) (by omega) (by omega),if_neg (by omega),wi (n:=(1:Int)+1) (by omega) (by omega),g_sc_Concat_int_int_l0.eq_2]
    simp only [bd,Option.bind_some,List.length_cons,List.length_nil]
    rw [if_neg (by decide)]
    congr 2;omega
  have e1:∀ x:Int,0≤x→x≤200000→g_sc_Grow_int_int (n+3) x=some (Sum.inr []):=by
    intro x h0 h1
    unfold g_sc_Grow_int_int
    simp only [bd,Option.bind_some]
    rw [if_neg (by omega),wi (n:=(0:Int) - 0) (by omega) (by omega),wi (n:=x - (0 - 0)) (by omega) (by omega)]
    by_cases h:0<x
    · rw [if_pos (by omega),if_pos (by omega),if_pos (by omega)];rfl
    · rw [if_neg (by omega)];rfl
  have e2:g_sc_Concat_int_int_l1 (n+3) [a,b] (n+3) 0 []=some (a++b):=by
    rw [g_sc_Concat_int_int_l1.eq_2]
    simp only [bd,Option.bind_some,List.length_cons,List.length_nil,i0]
    rw [if_pos (by decide),if_pos (by omega),wi (n:=(0:Int)+1) (by omega) (by omega),show (0:Int)+1=1 from rfl,g_sc_Concat_int_int_l1.eq_2]
    simp only [bd,Option.bind_some,List.length_cons,List.length_nil,i1,List.nil_append]
    rw [if_pos (by decide),if_pos (by omega),wi (n:=(1:Int)+1) (by omega) (by omega),g_sc_Concat_int_int_l1.eq_2]
    simp only [bd,Option.bind_some,List.length_cons,List.length_nil]
    rw [if_neg (by decide)]
  rw [e0]
  simp only [Option.bind_some]
  rw [e1 _ (by omega) (by omega)]
  simp only [Option.bind_some]
  rw [e2];rfl
theorem len_l2 (k:Nat) (hk:3≤k) (L:List Co) (hL:L.length≤100000) (hb:∀ x∈L,0≤x.ffreq∧x.ffreq≤1125899906842624∧x.fsyms.length≤100000):∀ (n:Nat) (dn rest acc:List Co),L=dn++rest→rest.length<n→acc.length+rest.length≤1000000 →
    g_huff_Lengths_l2 k L n (dn.length:Int) acc=some (Sum.inr (acc++prs rest)):=by
  obtain ⟨k,rfl⟩:∃ j,k=j+3:=⟨k - 3,by omega⟩
  intro n
  induction n with
  | zero=>intro dn rest acc _ h;omega
  | succ n ih =>
    intro dn rest acc hd hn hl
    subst hd
    rw [g_huff_Lengths_l2.eq_2]
    simp only [bd,Option.bind_some]
    rw [List.length_append] at hL
    rw [wi (n:=(dn.length:Int)+1) (by omega) (by omega)]
    match rest,hn,hl,hb with
    | [],_,_,_=>rw [if_neg (by simp;omega)];simp [prs]
    | [x],_,_,_=>rw [if_neg (by simp)];simp [prs]
    | x::y::r,hn,hl,hb =>
      simp only [List.length_cons] at hn hl hL
      rw [if_pos (by simp;omega),ix_at dn x (y::r) rfl,show dn++x::y::r=(dn++[x])++y::r by simp,ix_at (dn++[x]) y r (by simp)]
      simp only [Option.bind_some]
      have b1:=hb x (by simp);have b2:=hb y (by simp)
      rw [wi (n:=x.ffreq+y.ffreq) (by omega) (by omega),concat k _ _ b1.2.2 b2.2.2]
      simp only [Option.bind_some]
      rw [if_pos (by simp;omega),wi (n:=(dn.length:Int)+2) (by omega) (by omega)]
      have:=ih (dn++[x]++[y]) r (acc++[⟨x.ffreq+y.ffreq,x.fsyms++y.fsyms⟩]) (by simp) (by omega) (by simp;omega)
      rw [show (dn.length:Int)+2=((dn++[x]++[y]).length:Int) by simp only [List.length_append,List.length_cons,List.length_nil];omega,show dn++[x]++y::r=dn++x::y::r by simp,this]
      simp [prs]
theorem clone (k:Nat) (x:List Co) (h:x.length≤1000000):g_sc_Clone_huff_coin_huff_coin k x=some x:=by
  unfold g_sc_Clone_huff_coin_huff_coin
  rw [bd,if_pos (by simp;omega)]
theorem len_l1 (k:Nat) (hk:210000≤k) (base:List Co) (hB:base.length≤1000) (hb:∀ x∈base,0≤x.ffreq∧x.ffreq≤1073741824∧x.fsyms.length≤1) (m:Nat) (hm:m≤15):∀ (n j:Nat) (L:List Co),j≤m→m - j<n→L.map toC=lev (base.map toC) j →
    ∃ M,g_huff_Lengths_l1 k (m:Int) base n (j:Int) L=some (Sum.inr M)∧M.map toC=lev (base.map toC) m:=by
  have hbd:=lev_bd (base.map toC) (by intro x hx;obtain ⟨c,hc,rfl⟩:=List.mem_map.1 hx;exact hb c hc)
  intro n
  induction n with
  | zero=>intro j L _ h;omega
  | succ n ih =>
    intro j L hj hn hL
    rw [g_huff_Lengths_l1.eq_2]
    simp only [bd]
    by_cases h:j<m
    · rw [if_pos (by omega),clone k base (by omega)]
      simp only [Option.bind_some]
      obtain ⟨h1,h2⟩:=hbd j
      have lL:L.length≤2000:=by
        have:=congrArg List.length hL;rw [List.length_map] at this;rw [this];rw [List.length_map] at h2;omega
      have p1:2^j≤32768:=Nat.le_trans (Nat.pow_le_pow_right (by decide) (show j≤15 by omega)) (by decide)
      have bL:∀ x∈L,0≤x.ffreq∧x.ffreq≤1125899906842624∧x.fsyms.length≤100000:=by
        intro x hx
        have:=h1 (toC x) (by rw [← hL];exact List.mem_map_of_mem hx)
        have e1:(toC x).1=x.ffreq:=rfl
        have e2:(toC x).2=x.fsyms:=rfl
        rw [e1,e2] at this
        exact ⟨this.1,by omega,by omega⟩
      have:=len_l2 k (by omega) L (by omega) bL k [] L base rfl (by omega) (by omega)
      rw [show (([]:List Co).length:Int)=0 from rfl] at this
      rw [this]
      simp only [Option.bind_some]
      have lp:(prs L).length≤2000:=by
        have:=congrArg List.length (prs_map L);rw [List.length_map,pairs_len,List.length_map] at this;omega
      obtain ⟨M,m1,m2⟩:=sortStable k (base++prs L) hk (by simp;omega)
      rw [m1]
      simp only [Option.bind_some]
      have hM:M.map toC=lev (base.map toC) (j+1):=by
        rw [st_of (m:=toC) (fun _=>rfl) m2.srt m2.sim,List.map_append,prs_map,hL];rfl
      rw [wi (by omega) (by omega)]
      exact ih (j+1) M (by omega) (by omega) hM
    · rw [if_neg (by omega)]
      obtain rfl:j=m:=by omega
      exact ⟨L,rfl,hL⟩
def outOf (N:Nat) (l:List Int):List Int:=(List.range N).map fun (i:Nat)=>((l.count (i:Int):Nat):Int)
theorem outOf_len (N:Nat) (l:List Int):(outOf N l).length=N:=by simp [outOf]
theorem outOf_get {N:Nat} {l:List Int} {i:Nat} (h:i<N):(outOf N l)[i]'(by rw [outOf_len];exact h)=((l.count (i:Int):Nat):Int):=by simp [outOf]
theorem outOf_nil (N:Nat):outOf N []=List.replicate N 0:=by
  apply List.ext_getElem (by simp [outOf])
  intro i h1 h2;simp [outOf]
theorem outOf_set {N:Nat} {l:List Int} {s:Int} (h0:0≤s) (h1:s<N):List.set (outOf N l) s.toNat (((l.count s:Nat):Int)+1)=outOf N (l++[s]):=by
  apply List.ext_getElem (by simp [outOf])
  intro i h2 h3
  rw [List.getElem_set]
  rw [List.length_set,outOf_len] at h2
  rw [outOf_get h2,outOf_get h2,List.count_append]
  by_cases e:s.toNat=i
  · rw [if_pos e,show (i:Int)=s by omega];simp
  · rw [if_neg e]
    have:List.count (i:Int) [s]=0:=List.count_eq_zero.2 (by simp;omega)
    rw [this];omega
theorem len_l4 (k N:Nat) (hN:N≤1000) (c:Co) (hc:c.fsyms.length≤100000) (hs:∀ s∈c.fsyms,0≤s∧s<(N:Int)):∀ (n:Nat) (l dn rest:List Int),c.fsyms=dn++rest→rest.length<n→l.length+rest.length≤1000000000 →
    g_huff_Lengths_l4 k c n (dn.length:Int) (outOf N l)=some (outOf N (l++rest)):=by
  intro n
  induction n with
  | zero=>intro l dn rest _ h;omega
  | succ n ih =>
    intro l dn rest hd hn hl
    rw [g_huff_Lengths_l4.eq_2]
    simp only [bd,Option.bind_some]
    have hlen:=congrArg List.length hd
    rw [List.length_append] at hlen
    cases rest with
    | nil=>rw [if_neg (by simp at hlen;omega)];simp
    | cons s r =>
      simp only [List.length_cons] at hn hl hlen
      have q:=hs s (by rw [hd];simp)
      rw [if_pos (by omega),hd,ix_at dn s r rfl]
      simp only [Option.bind_some]
      rw [ix_int q.1 (by rw [outOf_len];exact q.2)]
      simp only [Option.bind_some]
      rw [outOf_get (by omega),show ((s.toNat:Nat):Int)=s by omega]
      have hcnt:l.count s≤l.length:=List.count_le_length
      rw [wi (n:=((l.count s:Nat):Int)+1) (by omega) (by omega),outOf_set q.1 q.2,wi (by omega) (by omega)]
      have:=ih (l++[s]) (dn++[s]) r (by simp [hd]) (by omega) (by simp;omega)
      rw [show (dn.length:Int)+1=((dn++[s]).length:Int) by simp,this];simp
theorem len_l3 (k N:Nat) (hk:210000≤k) (hN:N≤1000) (base L:List Co) (hB:base.length≤1000) (T:Nat) (hT:T=2*base.length - 2) (hTL:T≤L.length) (hb:∀ c∈L,c.fsyms.length≤32768∧∀ s∈c.fsyms,0≤s∧s<(N:Int)):∀ (n:Nat) (l:List Int) (i:Nat),i≤T→T - i<n→l.length≤32768*i →
    g_huff_Lengths_l3 k base L n (i:Int) (outOf N l)=some (outOf N (l++syms (((L.take T).drop i).map toC))):=by
  intro n
  induction n with
  | zero=>intro l i _ h;omega
  | succ n ih =>
    intro l i hi hn hl
    rw [g_huff_Lengths_l3.eq_2]
    simp only [bd,Option.bind_some]
    rw [wi (n:=2*(base.length:Int)) (by omega) (by omega),wi (n:=2*(base.length:Int) - 2) (by omega) (by omega)]
    by_cases h:i<T
    · have hiL:i<L.length:=by omega
      rw [if_pos (by omega),ix_nat hiL]
      simp only [Option.bind_some]
      have q:=hb L[i] (List.getElem_mem hiL)
      have:=len_l4 k N hN L[i] (by omega) q.2 k l [] L[i].fsyms rfl (by omega) (by omega)
      rw [show (([]:List Int).length:Int)=0 from rfl] at this
      rw [this]
      simp only [Option.bind_some]
      rw [wi (by omega) (by omega)]
      have:=ih (l++L[i].fsyms) (i+1) (by omega) (by omega) (by rw [List.length_append];omega)
      rw [show (i:Int)+1=((i+1:Nat):Int) by omega,this]
      have e:(L.take T).drop i=L[i]::(L.take T).drop (i+1):=by
        rw [List.drop_eq_getElem_cons (by simp;omega)];simp
      rw [e];simp
    · rw [if_neg (by omega)]
      obtain rfl:i=T:=by omega
      have:(L.take i).drop i=[]:=List.drop_eq_nil_of_le (by simp;omega)
      rw [this];simp
def symsF:List Int→Nat→List Int
  | [],_=>[]
  | f::l,i=>if 0<f then (i:Int)::symsF l (i+1) else symsF l (i+1)
def coinsF:List Int→Nat→List Co
  | [],_=>[]
  | f::l,i=>if 0<f then ⟨f,[(i:Int)]⟩::coinsF l (i+1) else coinsF l (i+1)
def badF (l:List Int):Prop:=∃ f∈l,f<0∨1073741824<f
instance (l:List Int):Decidable (badF l):=by unfold badF;infer_instance
theorem badF_cons {x:Int} {l:List Int}:badF (x::l)↔(x<0∨1073741824<x)∨badF l:=by simp [badF]
theorem coinsF_cons (f:Int) (l:List Int) (i:Nat):coinsF (f::l) i=if 0<f then ⟨f,[(i:Int)]⟩::coinsF l (i+1) else coinsF l (i+1):=rfl
theorem symsF_cons (f:Int) (l:List Int) (i:Nat):symsF (f::l) i=if 0<f then (i:Int)::symsF l (i+1) else symsF l (i+1):=rfl
theorem coinsF_len:∀ (l:List Int) (i:Nat),(coinsF l i).length=(symsF l i).length∧(coinsF l i).length≤l.length
  | [],i=>⟨rfl,Nat.le_refl _⟩
  | f::l,i=>by
    have:=coinsF_len l (i+1)
    unfold coinsF symsF
    split
    · simp only [List.length_cons];omega
    · simp only [List.length_cons];omega
theorem len_l0 (k:Nat) (x:List Int) (hx:x.length≤320):∀ (n i:Nat) (acc:List Co),i≤x.length→x.length - i<n→acc.length≤i →
    g_huff_Lengths_l0 k x n (i:Int) acc=some (if badF (x.drop i) then Sum.inl () else Sum.inr (acc++coinsF (x.drop i) i)):=by
  intro n
  induction n with
  | zero=>intro i acc _ h;omega
  | succ n ih =>
    intro i acc hi hn ha
    rw [g_huff_Lengths_l0.eq_2]
    simp only [bd,Option.bind_some]
    by_cases h:i<x.length
    · rw [if_pos (by omega),ix_nat h,List.drop_eq_getElem_cons h]
      simp only [Option.bind_some,badF_cons]
      generalize x[i]=f
      by_cases hb:f<0∨1073741824<f
      · have:(if f<0 then some true else some (decide (1073741824<f)))=some true:=by
          split
          · rfl
          · rw [dt (by omega)]
        rw [this]
        simp only [Option.bind_some,bt]
        rw [if_pos (show (f<0∨1073741824<f)∨badF (x.drop (i+1)) from .inl hb)]
      · have:(if f<0 then some true else some (decide (1073741824<f)))=some false:=by
          rw [if_neg (by omega),df (by omega)]
        rw [this]
        simp only [Option.bind_some,bf]
        by_cases hf:0<f
        · rw [if_pos hf,if_pos (by simp;omega)]
          simp only [Option.bind_some]
          rw [wi (by omega) (by omega),show (i:Int)+1=((i+1:Nat):Int) by omega,ih (i+1) _ (by omega) (by omega) (by simp;omega)]
          by_cases hb2:badF (x.drop (i+1))
          · rw [if_pos hb2,if_pos (.inr hb2)]
          · rw [if_neg hb2,if_neg (fun q=>q.elim hb hb2)]
            rw [coinsF_cons,if_pos hf];simp
        · rw [if_neg hf]
          simp only [Option.bind_some]
          rw [wi (by omega) (by omega),show (i:Int)+1=((i+1:Nat):Int) by omega,ih (i+1) _ (by omega) (by omega) (by omega)]
          by_cases hb2:badF (x.drop (i+1))
          · rw [if_pos hb2,if_pos (.inr hb2)]
          · rw [if_neg hb2,if_neg (fun q=>q.elim hb hb2)]
            rw [coinsF_cons,if_neg hf]
    · rw [if_neg (by omega),List.drop_of_length_le (by omega),if_neg (by simp [badF])]
      simp [coinsF]
theorem shl1b {b:Nat} (h:b≤15):shlI .i64 1 (b:Int)=((2^b:Nat):Int):=by
  obtain rfl | rfl | rfl | rfl | rfl | rfl | rfl | rfl | rfl | rfl | rfl | rfl | rfl | rfl | rfl | rfl:b=0∨b=1∨b=2∨b=3∨b=4∨b=5∨b=6∨b=7∨b=8∨b=9∨b=10∨b=11∨b=12∨b=13∨b=14∨b=15:=by omega
  all_goals rfl
def Fq (x:List Int) (s:Int):Int:=if 0≤s∧0<x.getD s.toNat 0 then x.getD s.toNat 0 else 0
theorem Fq_nn (x:List Int) (s:Int):0≤Fq x s:=by unfold Fq;split <;> omega
theorem symsF_in:∀ (l:List Int) (i:Nat) (s:Int),s∈symsF l i↔∃ j:Nat,s=(j:Int)∧i≤j∧j<i+l.length∧0<l.getD (j - i) 0
  | [], i, s => by constructor
                   · intro h;simp [symsF] at h
                   · rintro ⟨j,_,h1,h2,_⟩;simp at h2;omega
  | f::l,i,s=>by
    have ih:=symsF_in l (i+1) s
    have hs:∀ j,i+1≤j→(f::l).getD (j - i) 0=l.getD (j - (i+1)) 0:=by
      intro j hj;rw [show j - i=(j - (i+1))+1 by omega];simp
    rw [symsF_cons]
    constructor
    · intro h
      have h':(s=(i:Int)∧0<f)∨s∈symsF l (i+1):=by
        split at h
        · rcases List.mem_cons.1 h with e | e
          · exact .inl ⟨e,by assumption⟩
          · exact .inr e
        · exact .inr h
      rcases h' with ⟨e,hf⟩ | e
      · exact ⟨i,e,Nat.le_refl _,by simp,by simpa using hf⟩
      · obtain ⟨j,e1,h1,h2,h3⟩:=ih.1 e
        exact ⟨j,e1,by omega,by simp;omega,by rw [hs j h1];exact h3⟩
    · rintro ⟨j,e1,h1,h2,h3⟩
      rcases Nat.lt_or_eq_of_le h1 with q | q
      · have:=ih.2 ⟨j,e1,q,by simp at h2;omega,by rw [← hs j q];exact h3⟩
        split
        · exact List.mem_cons_of_mem _ this
        · exact this
      · subst q
        rw [if_pos (by simpa using h3)];rw [e1];exact List.mem_cons_self
theorem symsF_nodup:∀ (l:List Int) (i:Nat),(symsF l i).Nodup
  | [],_=>List.nodup_nil
  | f::l,i=>by
    rw [symsF_cons];split
    · refine List.nodup_cons.2 ⟨fun h=>?_,symsF_nodup l (i+1)⟩
      obtain ⟨j,e,h1,_⟩:=(symsF_in l (i+1) _).1 h
      omega
    · exact symsF_nodup l (i+1)
theorem coins_form (x:List Int):∀ (n i:Nat),x.length - i≤n→(coinsF (x.drop i) i).map toC=(symsF (x.drop i) i).map fun s=>((Fq x s,[s]):C):=by
  intro n
  induction n with
  | zero=>intro i h;rw [List.drop_of_length_le (by omega)];rfl
  | succ n ih =>
    intro i h
    by_cases hi:i<x.length
    · rw [List.drop_eq_getElem_cons hi,coinsF_cons,symsF_cons]
      by_cases hf:0<x[i]
      · rw [if_pos hf,if_pos hf,List.map_cons,List.map_cons,ih (i+1) (by omega)]
        congr 1
        have:Fq x (i:Int)=x[i]:=by
          unfold Fq
          have:x.getD (i:Int).toNat 0=x[i]:=by simp [List.getD_eq_getElem?_getD,List.getElem?_eq_getElem hi]
          rw [this,if_pos ⟨by omega,hf⟩]
        show (x[i],[(i:Int)])=_
        rw [this]
      · rw [if_neg hf,if_neg hf,ih (i+1) (by omega)]
    · rw [List.drop_of_length_le (by omega)];rfl
theorem form_syms {F:Int→Int}:∀ l:List C,(∀ e∈l,∃ s,e=(F s,[s]))→l=(syms l).map fun s=>((F s,[s]):C)
  | [],_=>rfl
  | e::l,h=>by
    obtain ⟨s,rfl⟩:=h e (by simp)
    have:=form_syms l fun e he=>h e (by simp [he])
    show _=((syms ([(F s,[s])]:List C))++syms l).map _
    rw [List.map_append,← this];rfl
theorem syms_form {F:Int→Int} (S:List Int):syms (S.map fun s=>((F s,[s]):C))=S:=by
  have:=base_syms F S S.length
  rw [List.take_of_length_le (by simp),List.take_of_length_le (Nat.le_refl _)] at this
  exact this
theorem base_form (x:List Int):∃ S:List Int,st ((coinsF x 0).map toC)=S.map (fun s=>((Fq x s,[s]):C))∧S.Perm (symsF x 0)∧S.Nodup∧Srt key (S.map fun s=>((Fq x s,[s]):C)):=by
  have e0:=coins_form x x.length 0 (by omega)
  rw [List.drop_zero] at e0
  have h1:=form_syms (F:=Fq x) (st ((coinsF x 0).map toC)) (by
    intro e he
    have:=st_mem.1 he
    rw [e0] at this
    obtain ⟨s,_,rfl⟩:=List.mem_map.1 this
    exact ⟨s,rfl⟩)
  have hp:(syms (st ((coinsF x 0).map toC))).Perm (symsF x 0):=by
    have:=List.Perm.flatMap_right (fun x:C=>x.2) (Sim.perm (st_sim ((coinsF x 0).map toC))).symm
    refine this.trans (List.Perm.of_eq ?_)
    rw [e0];exact syms_form _
  refine ⟨_,h1,hp,hp.nodup_iff.2 (symsF_nodup x 0),?_⟩
  rw [← h1];exact st_srt _
theorem lev_syms (base:List C):∀ j,∀ y∈lev base j,∀ s∈y.2,s∈syms base
  | 0,y,hy,_,_=>by simp [lev] at hy
  | j+1,y,hy,s,hs=>by
    rcases List.mem_append.1 (st_mem.1 hy) with e | e
    · exact List.mem_flatMap.2 ⟨y,e,hs⟩
    · have hp:∀ l:List C,(∀ y∈l,∀ s∈y.2,s∈syms base)→∀ y∈pairs l,∀ s∈y.2,s∈syms base:=by
        intro l
        induction l using pairs.induct with
        | case1 a b l ih =>
          intro hl y hy s hs
          rcases List.mem_cons.1 hy with e | e
          · subst e
            rcases List.mem_append.1 (show s∈a.2++b.2 from hs) with q | q
            · exact hl a (by simp) s q
            · exact hl b (by simp) s q
          · exact ih (fun z hz=>hl z (by simp [hz])) y e s hs
        | case2 l hl =>
          intro _ y hy
          unfold pairs at hy;split at hy
          · exact absurd rfl (hl _ _ _)
          · simp at hy
      exact hp _ (fun y hy s hs=>lev_syms base j y hy s hs) y e s hs
def itemsR (x:List Int) (m:Nat):List Int :=
  if (coinsF x 0).length=1 then symsF x 0 else syms ((lev (st ((coinsF x 0).map toC)) m).take (2*(coinsF x 0).length - 2))
def badA (x:List Int) (m:Int):Prop:=320<x.length∨m<1∨15<m
instance (x:List Int) (m:Int):Decidable (badA x m):=by unfold badA;infer_instance
theorem bad3 (x:List Int) (m:Int):((some (decide (320<((List.length x:Nat):Int)))).bind fun x3056=>(bif x3056 then some true else (bif (decide (m<1)) then some true else some (decide (15<m)))))=some (decide (badA x m)):=by
  simp only [Option.bind_some,bd]
  by_cases h1:320<x.length
  · rw [if_pos (by omega),dt (show badA x m from .inl h1)]
  · rw [if_neg (by omega)]
    by_cases h2:m<1
    · rw [if_pos h2,dt (show badA x m from .inr (.inl h2))]
    · rw [if_neg h2]
      by_cases h3:15<m
      · rw [dt h3,dt (show badA x m from .inr (.inr h3))]
      · rw [df h3,df (show ¬ badA x m by unfold badA;omega)]
theorem coins_bd (x:List Int) (hx:x.length≤320) (hb:¬ badF x):∀ (n i:Nat),x.length - i≤n→∀ c∈coinsF (x.drop i) i,0≤c.ffreq∧c.ffreq≤1073741824∧c.fsyms.length≤1:=by
  intro n
  induction n with
  | zero=>intro i h c hc;rw [List.drop_of_length_le (by omega)] at hc;simp [coinsF] at hc
  | succ n ih =>
    intro i h c hc
    by_cases hi:i<x.length
    · rw [List.drop_eq_getElem_cons hi,coinsF_cons] at hc
      have hni:¬ (x[i]<0∨1073741824<x[i]):=fun q=>hb ⟨x[i],List.getElem_mem hi,q⟩
      split at hc
      · rcases List.mem_cons.1 hc with e | e
        · subst e;exact ⟨by show 0≤x[i];omega,by show x[i]≤_;omega,by simp⟩
        · exact ih (i+1) (by omega) c e
      · exact ih (i+1) (by omega) c hc
    · rw [List.drop_of_length_le (by omega)] at hc;simp [coinsF] at hc
theorem lengths_ok (k:Nat) (hk:210000≤k) (x:List Int) (m:Int) (h1:¬ badA x m) (h2:¬ badF x) (h3:(coinsF x 0).length≤2^m.toNat):g_huff_Lengths k x m=some (Sum.inl (outOf x.length (itemsR x m.toNat),0)):=by
  unfold g_huff_Lengths
  rw [bad3]
  simp only [Option.bind_some,bd]
  rw [if_neg h1]
  unfold badA at h1
  have e:=len_l0 k x (by omega) k 0 [] (by omega) (by omega) (by simp)
  rw [show ((0:Nat):Int)=0 from rfl,List.drop_zero] at e
  rw [e]
  simp only [Option.bind_some]
  rw [if_neg h2]
  simp only [List.nil_append]
  have es:shlI .i64 1 m=((2^m.toNat:Nat):Int):=by
    have:=shl1b (b:=m.toNat) (by omega)
    rw [show ((m.toNat:Nat):Int)=m by omega] at this
    exact this
  rw [if_pos (by omega),es,if_neg (by omega),if_pos (by omega),Int.toNat_natCast]
  have hcl:=coinsF_len x 0
  have hform:=coins_form x x.length 0 (by omega)
  rw [List.drop_zero] at hform
  unfold itemsR
  by_cases h4:(coinsF x 0).length=1
  · rw [if_pos (by omega),if_pos h4]
    obtain ⟨c,hc⟩:=List.length_eq_one_iff.1 h4
    obtain ⟨s,hs⟩:=List.length_eq_one_iff.1 (show (symsF x 0).length=1 by omega)
    rw [hc,hs] at hform
    have hcs:c.fsyms=[s]:=by
      have:=(List.cons.inj hform).1
      exact (Prod.mk.inj this).2
    obtain ⟨j,ej,_,hj,_⟩:=(symsF_in x 0 s).1 (by rw [hs];simp)
    rw [hc,show ix [c] 0=some c from rfl]
    simp only [Option.bind_some]
    rw [hcs,show ix [s] 0=some s from rfl]
    simp only [Option.bind_some]
    have:=outOf_set (N:=x.length) (l:=[]) (s:=s) (by omega) (by omega)
    rw [outOf_nil] at this
    rw [ix_int (by omega) (by rw [List.length_replicate];omega)]
    simp only [Option.bind_some]
    rw [hs]
    rw [show (((List.count s []):Nat):Int)+1=1 from by simp] at this
    rw [this];simp
  · rw [if_neg (by omega),if_neg h4]
    obtain ⟨B,b1,b2⟩:=sortStable k (coinsF x 0) hk (by omega)
    rw [b1]
    simp only [Option.bind_some]
    have eB:B.map toC=st ((coinsF x 0).map toC):=st_of (m:=toC) (fun _=>rfl) b2.srt b2.sim
    have hcb:=coins_bd x (by omega) h2 x.length 0 (by omega)
    rw [List.drop_zero] at hcb
    have bB:∀ c∈B,0≤c.ffreq∧c.ffreq≤1073741824∧c.fsyms.length≤1:=fun c hc=>hcb c (b2.sim.symm.mem hc)
    obtain ⟨L,l1,l2⟩:=len_l1 k hk B (by rw [b2.len];omega) bB m.toNat (by omega) k 0 [] (by omega) (by omega) rfl
    rw [show ((m.toNat:Nat):Int)=m by omega,show ((0:Nat):Int)=0 from rfl] at l1
    rw [l1]
    simp only [Option.bind_some]
    have lBm:(B.map toC).length=(coinsF x 0).length:=by rw [List.length_map,b2.len]
    have hmany:=lev_many (B.map toC) m.toNat (by rw [lBm];exact h3) m.toNat (Nat.le_refl _)
    rw [show m.toNat+1 - m.toNat=1 by omega,← l2,List.length_map,List.length_map,b2.len] at hmany
    have hTL:2*B.length - 2≤L.length:=by rw [b2.len];omega
    have hcx:∀ c∈L,c.fsyms.length≤32768∧∀ s∈c.fsyms,0≤s∧s<(x.length:Int):=by
      intro c hc
      have hm:toC c∈lev (B.map toC) m.toNat:=by rw [← l2];exact List.mem_map_of_mem hc
      have hbd:=lev_bd (B.map toC) (by intro y hy;obtain ⟨c,hc,rfl⟩:=List.mem_map.1 hy;exact bB c hc) m.toNat
      have p1:2^m.toNat≤32768:=Nat.le_trans (Nat.pow_le_pow_right (by decide) (show m.toNat≤15 by omega)) (by decide)
      refine ⟨Nat.le_trans (hbd.1 _ hm).2.2 p1,fun s hs=>?_⟩
      have:=lev_syms (B.map toC) m.toNat _ hm s hs
      obtain ⟨y,hy,hsy⟩:=List.mem_flatMap.1 this
      rw [eB] at hy
      have:=st_mem.1 hy
      rw [hform] at this
      obtain ⟨s',hs',rfl⟩:=List.mem_map.1 this
      have:s=s':=by simpa using hsy
      subst this
      obtain ⟨j,ej,_,hj,_⟩:=(symsF_in x 0 s).1 hs'
      omega
    have:=len_l3 k x.length hk (by omega) B L (by rw [b2.len];omega) (2*B.length - 2) rfl hTL hcx k [] 0 (by omega) (by rw [b2.len];omega) (by simp)
    rw [show ((0:Nat):Int)=0 from rfl,outOf_nil] at this
    rw [this]
    simp only [Option.bind_some,List.nil_append,List.drop_zero]
    rw [List.map_take,l2,eB,b2.len]
theorem sum_perm0 {S T:List Int} (h:S.Perm T) (g:Int→Nat):(S.map g).sum=(T.map g).sum:=by
  induction h with
  | nil=>rfl
  | cons x _ ih=>simp only [List.map_cons,List.sum_cons,ih]
  | swap x y l=>simp only [List.map_cons,List.sum_cons];omega
  | trans _ _ a b=>rw [a,b]
theorem items_ok0 (x:List Int) (m:Nat) (hm:1≤m) (hm2:m≤15) (h3:(coinsF x 0).length≤2^m):(∀ s,(itemsR x m).count s≤m)∧(∀ s∈symsF x 0,1≤(itemsR x m).count s)∧(∀ s,s∉symsF x 0→(itemsR x m).count s=0) ∧
    ((symsF x 0).length=0∨(symsF x 0).length=1∧((symsF x 0).map fun s=>2^(15 - (itemsR x m).count s)).sum=16384∨((symsF x 0).map fun s=>2^(15 - (itemsR x m).count s)).sum=32768):=by
  have hcl:=coinsF_len x 0
  by_cases h4:(coinsF x 0).length=1
  · obtain ⟨s,hs⟩:=List.length_eq_one_iff.1 (show (symsF x 0).length=1 by omega)
    have hi:itemsR x m=[s]:=by unfold itemsR;rw [if_pos h4,hs]
    rw [hi,hs]
    refine ⟨fun t=>Nat.le_trans List.count_le_length (by simpa using hm),fun t ht=>?_,fun t ht=>List.count_eq_zero.2 ht,.inr (.inl ⟨rfl,by simp⟩)⟩
    rw [List.mem_singleton] at ht;subst ht;simp
  · obtain ⟨S,e,hp,hnd,hsrt⟩:=base_form x
    have hlen:S.length=(coinsF x 0).length:=by rw [hp.length_eq];omega
    have hi:∀ s,(itemsR x m).count s=lenS (Fq x) S m s:=by
      intro s;unfold itemsR lenS;rw [if_neg h4,e,hlen]
    by_cases h0:(coinsF x 0).length=0
    · have hS:S=[]:=List.length_eq_zero_iff.1 (by omega)
      have hz:symsF x 0=[]:=List.length_eq_zero_iff.1 (by omega)
      have hi0:itemsR x m=[]:=by unfold itemsR;rw [if_neg h4,h0];simp
      rw [hi0,hz]
      exact ⟨fun s=>by simp,fun s hs=>by simp at hs,fun s _=>by simp,.inl rfl⟩
    · obtain ⟨l1,l2,l3,l4,l5⟩:=lens_ok (F:=Fq x) (Fq_nn x) S hnd hsrt m hm (by omega) (by omega)
      refine ⟨fun s=>by rw [hi];exact l2 s,fun s hs=>by rw [hi];exact l3 s (hp.mem_iff.2 hs),fun s hs=>by rw [hi];exact l4 s fun q=>hs (hp.mem_iff.1 q),.inr (.inr ?_)⟩
      have:=l5 15 hm2
      rw [sum_perm0 hp] at this
      rw [show (fun s=>2^(15 - (itemsR x m).count s))=fun s=>2^(15 - lenS (Fq x) S m s) from funext fun s=>by rw [hi],this]
def RgI (x:It):Prop:=(∃ c:Nat,x=⟨c,0,0⟩∧c≤255)∨∃ n d:Nat,x=⟨0,n,d⟩∧3≤n∧n≤258∧1≤d∧d≤32768
theorem pi_rg {b:List Int} (hB:Bytes b):∀ {l:List It} {at_:Nat},PI b at_ l→∀ x∈l,RgI x
  | [],_,_,x,hx=>by simp at hx
  | y::l,at_,h,x,hx=>by
    rcases h with ⟨h1,rfl,_,h3⟩ | ⟨n,d,h1,rfl,h2,h3⟩
    · rcases List.mem_cons.1 hx with e | e
      · subst e
        have hb:=by_rng hB at_
        obtain ⟨c,hc⟩:∃ c:Nat,byA b at_=(c:Int):=⟨(byA b at_).toNat,by omega⟩
        exact .inl ⟨c,by rw [hc],by omega⟩
      · exact pi_rg hB h3 x e
    · rcases List.mem_cons.1 hx with e | e
      · subst e
        obtain ⟨c1,c2,c3,c4,c5,c6⟩:=h2
        exact .inr ⟨n,d,rfl,h1,c1,c3,c5⟩
      · exact pi_rg hB h3 x e
def sL (x:It):List Int:=if x.fLen=0 then [x.fByte] else [((symL x.fLen).1:Int)]
def sD (x:It):List Int:=if x.fLen=0 then [] else [((symD x.fDist:Nat):Int)]
theorem dyn_l0 (k:Nat) (hk:400≤k):∀ (n:Nat) (dn l:List It) (A D:List Int),l.length<n→(∀ x∈l,RgI x)→dn.length+l.length≤10000000→A.length+l.length≤10000000→D.length+l.length≤10000000 →
    g_deflate_dynamic_l0 k (dn++l) n (dn.length:Int) (outOf 286 A) (outOf 30 D)=some (outOf 286 (A++l.flatMap sL),outOf 30 (D++l.flatMap sD)):=by
  intro n
  induction n with
  | zero=>intro dn l A D h;omega
  | succ n ih =>
    intro dn l A D hn hl hd hA hD
    rw [g_deflate_dynamic_l0.eq_2]
    simp only [bd,Option.bind_some]
    cases l with
    | nil=>rw [if_neg (by simp)];simp
    | cons x l =>
      simp only [List.length_cons] at hn hd hA hD
      have hx:ix (dn++x::l) (dn.length:Int)=some x:=by rw [ix_nat (by simp)];simp
      rw [if_pos (by simp;omega),hx]
      simp only [Option.bind_some]
      have tick:∀ (N:Nat) (L:List Int) (s:Nat),s<N→L.length≤10000000→ix (outOf N L) (s:Int)=some ((L.count (s:Int):Nat):Int)∧List.set (outOf N L) (Int.toNat (s:Int)) (IntKind.wrap .i64 (((L.count (s:Int):Nat):Int)+1))=outOf N (L++[(s:Int)]):=by
        intro N L s hs hL
        have hcnt:L.count (s:Int)≤L.length:=List.count_le_length
        refine ⟨by rw [ix_nat (by rw [outOf_len];exact hs),outOf_get hs],?_⟩
        rw [wi (by omega) (by omega)]
        exact outOf_set (by omega) (by omega)
      rcases hl x (by simp) with ⟨c,rfl,hc⟩ | ⟨m,d,rfl,h1,h2,h3,h4⟩
      · rw [if_pos rfl]
        obtain ⟨t1,t2⟩:=tick 286 A c (by omega) (by omega)
        rw [show (⟨(c:Int),0,0⟩:It).fByte=(c:Int) from rfl,t1]
        simp only [Option.bind_some]
        rw [t2,wi (by omega) (by omega)]
        have:=ih (dn++[⟨(c:Int),0,0⟩]) l (A++[(c:Int)]) D (by omega) (fun y hy=>hl y (by simp [hy])) (by simp;omega) (by simp;omega) (by omega)
        rw [show (dn.length:Int)+1=((dn++[(⟨(c:Int),0,0⟩:It)]).length:Int) by simp,show dn++(⟨(c:Int),0,0⟩:It)::l=(dn++[⟨(c:Int),0,0⟩])++l by simp,this,List.flatMap_cons,List.flatMap_cons,
          show sL ⟨(c:Int),0,0⟩=[(c:Int)] from rfl,show sD ⟨(c:Int),0,0⟩=[] from rfl,List.append_assoc,List.nil_append]
      · have hm:¬ ((⟨0,(m:Int),(d:Int)⟩:It).fLen=0):=by show ¬ ((m:Int)=0);omega
        rw [if_neg hm]
        obtain ⟨s1,s2,s3,s4,s5⟩:=symL_ok k (by omega) m h1 h2
        obtain ⟨q1,q2,q3,q4,q5⟩:=symD_ok k (by omega) d h3 h4
        rw [show (⟨0,(m:Int),(d:Int)⟩:It).fLen=(m:Int) from rfl,show (⟨0,(m:Int),(d:Int)⟩:It).fDist=(d:Int) from rfl,s1,q1]
        simp only [Option.bind_some]
        obtain ⟨t1,t2⟩:=tick 286 A (symL m).1 (by omega) (by omega)
        obtain ⟨t3,t4⟩:=tick 30 D (symD d) (by omega) (by omega)
        rw [t1,t3]
        simp only [Option.bind_some]
        rw [t2,t4,wi (by omega) (by omega)]
        have:=ih (dn++[⟨0,(m:Int),(d:Int)⟩]) l (A++[((symL m).1:Int)]) (D++[((symD d:Nat):Int)]) (by omega) (fun y hy=>hl y (by simp [hy])) (by simp;omega) (by simp;omega) (by simp;omega)
        rw [show (dn.length:Int)+1=((dn++[(⟨0,(m:Int),(d:Int)⟩:It)]).length:Int) by simp,show dn++(⟨0,(m:Int),(d:Int)⟩:It)::l=(dn++[⟨0,(m:Int),(d:Int)⟩])++l by simp,this,List.flatMap_cons,List.flatMap_cons,
          show sL ⟨0,(m:Int),(d:Int)⟩=[((symL m).1:Int)] from by unfold sL;rw [if_neg hm],show sD ⟨0,(m:Int),(d:Int)⟩=[((symD d:Nat):Int)] from by unfold sD;rw [if_neg hm],List.append_assoc,List.append_assoc]
theorem out_sums {x I:List Int} (hc:∀ s,I.count s≤15) (h1:∀ i (h:i<x.length),0<x[i]→1≤I.count (i:Int)) (h0:∀ i (h:i<x.length),¬ 0<x[i]→I.count (i:Int)=0):∀ (n i:Nat),x.length - i≤n →
    sumW ((outOf x.length I).drop i)=((((symsF (x.drop i) i).map fun s=>2^(15 - I.count s)).sum:Nat):Int)∧cntL ((outOf x.length I).drop i)=(((symsF (x.drop i) i).length:Nat):Int):=by
  intro n
  induction n with
  | zero=>intro i h;rw [List.drop_of_length_le (by rw [outOf_len];omega),List.drop_of_length_le (by omega)];exact ⟨rfl,rfl⟩
  | succ n ih =>
    intro i hi
    by_cases h:i<x.length
    · obtain ⟨e1,e2⟩:=ih (i+1) (by omega)
      rw [List.drop_eq_getElem_cons (by rw [outOf_len];exact h),outOf_get h,List.drop_eq_getElem_cons h,symsF_cons]
      simp only [sumW,cntL]
      rw [e1,e2]
      by_cases hf:0<x[i]
      · have:=h1 i h hf
        rw [if_pos hf]
        unfold wt there
        rw [if_pos (by omega),if_pos (by omega),Int.toNat_natCast]
        simp only [List.map_cons,List.sum_cons,List.length_cons]
        refine ⟨by rw [Int.natCast_add];simp,by omega⟩
      · have:=h0 i h hf
        rw [if_neg hf]
        unfold wt there
        rw [if_neg (by omega),if_neg (by omega)]
        exact ⟨by omega,by omega⟩
    · rw [List.drop_of_length_le (by rw [outOf_len];omega),List.drop_of_length_le (by omega)];exact ⟨rfl,rfl⟩
theorem lens_judge {x:List Int} (m:Nat) (hm:1≤m) (hm2:m≤15) (hx:x.length≤320) (h3:(coinsF x 0).length≤2^m):(judge (outOf x.length (itemsR x m))).2=0∧(2≤(symsF x 0).length→(judge (outOf x.length (itemsR x m))).1=true) ∧
    (∀ s (h:s<x.length),0<x[s]→Us (outOf x.length (itemsR x m)) s)∧(∀ s,(outOf x.length (itemsR x m)).getD s 0≤m)∧(∀ s,0≤(outOf x.length (itemsR x m)).getD s 0):=by
  obtain ⟨i1,i2,i3,i4⟩:=items_ok0 x m hm hm2 h3
  have hh1:∀ i (h:i<x.length),0<x[i]→1≤(itemsR x m).count (i:Int):=fun i h hf=>i2 _ ((symsF_in x 0 _).2 ⟨i,rfl,by omega,by omega,by simpa [List.getD_eq_getElem?_getD,List.getElem?_eq_getElem h] using hf⟩)
  have hh0:∀ i (h:i<x.length),¬ 0<x[i]→(itemsR x m).count (i:Int)=0:=fun i h hf=>i3 _ fun q=>by
    obtain ⟨j,e,_,_,q⟩:=(symsF_in x 0 _).1 q
    obtain rfl:i=j:=by omega
    exact hf (by simpa [List.getD_eq_getElem?_getD,List.getElem?_eq_getElem h] using q)
  obtain ⟨e1,e2⟩:=out_sums (fun s=>Nat.le_trans (i1 s) hm2) hh1 hh0 x.length 0 (by omega)
  rw [List.drop_zero,List.drop_zero] at e1 e2
  have hg:∀ s,(outOf x.length (itemsR x m)).getD s 0=if s<x.length then (((itemsR x m).count (s:Int):Nat):Int) else 0:=by
    intro s
    by_cases h:s<x.length
    · rw [if_pos h,List.getD_eq_getElem?_getD,List.getElem?_eq_getElem (by rw [outOf_len];exact h)]
      exact outOf_get h
    · rw [if_neg h,List.getD_eq_getElem?_getD,List.getElem?_eq_none (by rw [outOf_len];omega)];rfl
  have hb:¬ badL (outOf x.length (itemsR x m)):=by
    rintro ⟨v,hv,q⟩
    obtain ⟨s,hs,e⟩:=List.mem_iff_getElem.1 hv
    rw [outOf_len] at hs
    rw [outOf_get hs] at e
    have:=i1 (s:Int)
    unfold badX at q
    omega
  refine ⟨?_,fun h2=>?_,fun s h hf=>⟨by rw [outOf_len];exact h,?_⟩,fun s=>?_,fun s=>?_⟩
  · unfold judge
    rw [outOf_len,if_neg (by omega),if_neg hb,e1,e2]
    rcases i4 with q | ⟨q1,q2⟩ | q
    · rw [if_neg (by rw [List.length_eq_zero_iff.1 q];simp only [List.map_nil,List.sum_nil];decide),if_pos (.inl (by omega))]
    · rw [q2,if_neg (by decide),if_pos (.inr ⟨by omega,rfl⟩)]
    · rw [q,if_pos (show (((32768:Nat):Int))=32768 from rfl)]
  · unfold judge
    rw [outOf_len,if_neg (by omega),if_neg hb,e1,e2]
    rcases i4 with q | ⟨q1,q2⟩ | q
    · omega
    · omega
    · rw [q,if_pos (show (((32768:Nat):Int))=32768 from rfl)]
  · rw [hg,if_pos h];have:=hh1 s h hf;omega
  · rw [hg];have:=i1 (s:Int);split <;> omega
  · rw [hg];split <;> omega
theorem shorter_l0 (k:Nat) (L:List Int) (hL:L.length≤100000) (least:Nat):∀ (n m:Nat),m≤L.length→least≤m→m - least<n→(∀ j,m≤j→L.getD j 0=0) →
    ∃ m':Nat,g_deflate_shorter_l0 k (least:Int) n (L.take m)=some (L.take m')∧least≤m'∧m'≤L.length∧∀ j,m'≤j→L.getD j 0=0:=by
  intro n
  induction n with
  | zero=>intro m _ _ h;omega
  | succ n ih =>
    intro m hm hle hn hz
    rw [g_deflate_shorter_l0.eq_2]
    have hl:(L.take m).length=m:=by rw [List.length_take];omega
    simp only [bd,Option.bind_some,hl]
    by_cases h:least<m
    · have hix:ix (L.take m) (IntKind.wrap .i64 ((m:Int) - 1))=some (L.getD (m - 1) 0):=by
        rw [wi (by omega) (by omega),show (m:Int) - 1=((m - 1:Nat):Int) by omega,ix_nat (by rw [hl];omega),List.getElem_take]
        simp [List.getD_eq_getElem?_getD,List.getElem?_eq_getElem (show m - 1<L.length by omega)]
      rw [if_pos (by omega),hix]
      simp only [Option.bind_some]
      by_cases h0:L.getD (m - 1) 0=0
      · rw [dt h0,bt,wi (by omega) (by omega),show (m:Int) - 1=((m - 1:Nat):Int) by omega,if_pos (by omega),Int.toNat_natCast,List.take_take,Nat.min_eq_left (by omega)]
        exact ih (m - 1) (by omega) (by omega) (by omega) fun j hj=>by
          rcases Nat.lt_or_eq_of_le hj with q | q
          · exact hz j (by omega)
          · rw [← q];exact h0
      · rw [df h0]
        exact ⟨m,rfl,hle,hm,hz⟩
    · rw [if_neg (by omega)]
      exact ⟨m,rfl,hle,hm,hz⟩
theorem sumW_zero:∀ {l:List Int},(∀ x∈l,x=0)→sumW l=0∧cntL l=0∧¬ badL l
  | [],_=>⟨rfl,rfl,by simp [badL]⟩
  | x::l,h=>by
    obtain ⟨h1,h2,h3⟩:=sumW_zero (l:=l) fun y hy=>h y (by simp [hy])
    have:=h x (by simp)
    subst this
    refine ⟨by simp only [sumW,h1];rfl,by simp only [cntL,h2];rfl,?_⟩
    rw [badL_cons,not_or];exact ⟨by unfold badX;omega,h3⟩
theorem sumW_app:∀ (a b:List Int),sumW (a++b)=sumW a+sumW b∧cntL (a++b)=cntL a+cntL b∧(badL (a++b)↔badL a∨badL b)
  | [],b=>⟨by simp [sumW],by simp [cntL],by simp [badL]⟩
  | x::a,b=>by
    obtain ⟨h1,h2,h3⟩:=sumW_app a b
    refine ⟨by simp only [List.cons_append,sumW,h1];omega,by simp only [List.cons_append,cntL,h2];omega,?_⟩
    rw [List.cons_append,badL_cons,badL_cons,h3,or_assoc]
theorem judge_take {L:List Int} {m:Nat} (hm:m≤L.length) (hL:L.length≤320) (hz:∀ j,m≤j→L.getD j 0=0):judge (L.take m)=judge L:=by
  obtain ⟨h1,h2,h3⟩:=sumW_app (L.take m) (L.drop m)
  rw [List.take_append_drop] at h1 h2 h3
  obtain ⟨z1,z2,z3⟩:=sumW_zero (l:=L.drop m) fun x hx=>by
    obtain ⟨j,hj,e⟩:=List.mem_iff_getElem.1 hx
    rw [List.length_drop] at hj
    rw [← e,List.getElem_drop]
    have:=hz (m+j) (by omega)
    rw [List.getD_eq_getElem?_getD,List.getElem?_eq_getElem (by omega)] at this
    exact this
  have hb:badL (L.take m)↔badL L:=by rw [h3];exact ⟨.inl,fun q=>q.resolve_right z3⟩
  have c1:¬ 320<(L.take m).length:=by rw [List.length_take];omega
  have c2:¬ 320<L.length:=by omega
  rw [z1,Int.add_zero] at h1
  rw [z2,Int.add_zero] at h2
  unfold judge
  rw [if_neg c1,if_neg c2,← h1,← h2]
  by_cases q:badL L
  · rw [if_pos q,if_pos (hb.2 q)]
  · rw [if_neg q,if_neg (fun w=>q (hb.1 w))]
theorem us_take {L:List Int} {m s:Nat} (hz:∀ j,m≤j→L.getD j 0=0) (h:Us L s):Us (L.take m) s:=by
  have hs:s<m:=Nat.lt_of_not_le fun q=>by have:=hz s q;have:=h.2;omega
  refine ⟨by rw [List.length_take];have:=h.1;omega,?_⟩
  rw [List.getD_eq_getElem?_getD,List.getElem?_take_of_lt hs,← List.getD_eq_getElem?_getD];exact h.2
end Go.Proofs.YtaphblcbnhnpaaaGreatDoor.W
namespace Go.Proofs.YtaphblcbnhnpaaaGreatDoor.W
open Go Go.Q Go.Proofs
set_option linter.unusedVariables false
set_option linter.unusedSimpArgs false
def cl (x:Int):Int:=if x<0∨15<x then 0 else x
theorem cl_le (x:Int):0≤cl x∧cl x≤15:=by unfold cl;split <;> omega
theorem clean {k:Nat} {l:List Int} {i:Nat} (h:i<l.length):g_deflate_Lengths_2 k i l=some (cl l[i]):=by
  unfold g_deflate_Lengths_2 cl
  rw [ix_nat h]
  simp only [Option.bind_some,bd]
  by_cases h1:l[i]<0
  · rw [if_pos h1,if_pos (.inl h1)];rfl
  · by_cases h2:15<l[i]
    · rw [if_neg h1,if_pos (.inr h2),dt h2];rfl
    · rw [if_neg h1,if_neg (by omega),df h2];rfl
def more (r:List Int) (p:Int × Int):List Int :=
  if p.1=16 then List.replicate (3+p.2).toNat (r.getD (r.length - 1) 0) else if p.1=17 then List.replicate (3+p.2).toNat 0 else if p.1=18 then List.replicate (11+p.2).toNat 0 else [p.1]
def rowOf (p:List (Int × Int)):List Int:=p.foldl (fun r q=>r++more r q) []
theorem rowOf_app (p:List (Int × Int)) (q:Int × Int):rowOf (p++[q])=rowOf p++more (rowOf p) q:=by simp [rowOf]
def okQ (r:List Int) (q:Int × Int):Prop:=0≤q.1∧q.1≤18∧0≤q.2∧(q.1<16→q.2=0)∧(q.1=16→q.2≤3∧0<r.length)∧(q.1=17→q.2≤7)∧(q.1=18→q.2≤127)
def okP (p:List (Int × Int)):Prop:=∀ j (h:j<p.length),okQ (rowOf (p.take j)) p[j]
theorem okP_nil:okP []:=by intro j h;simp at h
theorem okP_app {p:List (Int × Int)} {q:Int × Int} (h:okP p) (hq:okQ (rowOf p) q):okP (p++[q]):=by
  intro j hj
  by_cases hp:j<p.length
  · rw [List.take_append_of_le_length (by omega),List.getElem_append_left hp]
    exact h j hp
  · have:j=p.length:=by simp at hj;omega
    subst this
    simpa using hq
theorem run_app {l:List Int} {v:Int} {i:Nat}:∀ (m:Nat),i+m≤l.length→(∀ t,t<m→cl (l.getD (i+t) 0)=v)→(l.take (i+m)).map cl=(l.take i).map cl++List.replicate m v
  | 0,_,_=>by simp
  | m+1,h1,h2=>by
    rw [← Nat.add_assoc,List.take_succ_eq_append_getElem (by omega),List.map_append,run_app m (by omega) (fun t ht=>h2 t (by omega)),List.replicate_succ',← List.append_assoc]
    have:=h2 m (by omega)
    rw [List.getD_eq_getElem?_getD,List.getElem?_eq_getElem (by omega)] at this
    simp only [Option.getD_some] at this
    simp [this]
theorem r1 (k:Nat) (l:List Int) (ul:l.length*8≤140737488351232) (i:Nat) (v:Int):∀ (n m:Nat),i+m≤l.length→l.length - (i+m)<n→(∀ t,t<m→cl (l.getD (i+t) 0)=v) →
    Ret (g_deflate_Lengths_l1 k l i v n m) fun r=>∃ m':Nat,r=m'∧m≤m'∧i+m'≤l.length∧∀ t,t<m'→cl (l.getD (i+t) 0)=v:=by
  intro n
  induction n with
  | zero=>intro m _ h;omega
  | succ n ih =>
    intro m h1 h2 h3
    rw [g_deflate_Lengths_l1.eq_2,wi (n:=(i:Int)+m) (by omega) (by omega)]
    simp only [Option.bind_some,bd]
    by_cases hi:i+m<l.length
    · rw [if_pos (by omega),show ((i:Int)+m)=((i+m:Nat):Int) by omega,clean hi]
      simp only [Option.bind_some]
      by_cases hv:cl l[i+m]=v
      · rw [dt hv,wi (by omega) (by omega)]
        simp only [bt]
        rw [show ((m:Int)+1)=((m+1:Nat):Int) by omega]
        refine Ret.mono (ih (m+1) (by omega) (by omega) fun t ht=>?_) fun r ⟨m',e1,e2,e3,e4⟩=>⟨m',e1,by omega,e3,e4⟩
        by_cases htm:t<m
        · exact h3 t htm
        · have:t=m:=by omega
          subst this
          rw [List.getD_eq_getElem?_getD,List.getElem?_eq_getElem hi]
          exact hv
      · rw [df hv]
        exact Ret.pure ⟨m,rfl,by omega,h1,h3⟩
    · rw [if_neg (by omega)]
      exact Ret.pure ⟨m,rfl,by omega,h1,h3⟩
theorem add1 {k:Nat} {a b:Int} {s x:List Int} (hs:(s.length+1)*8≤140737488355328) (hx:(x.length+1)*8≤140737488355328):g_deflate_Lengths_1__b k a b s x=some ():=by
  unfold g_deflate_Lengths_1__b
  rw [dt (by simpa using hs),dt (by simpa using hx)]
  rfl
theorem lens (k:Nat) (l:List Int) (hk:l.length+1<k) (ul:l.length*8≤140737488351232):∀ (n i:Nat) (p:List (Int × Int)),i≤l.length→l.length - i<n→rowOf p=(l.take i).map cl→okP p→p.length≤i →
    Ret (g_deflate_Lengths_l0 k l n i (p.map (·.1)) (p.map (·.2))) fun r=>∃ q:List (Int × Int),r=(q.map (·.1),q.map (·.2))∧rowOf q=l.map cl∧okP q∧q.length≤l.length:=by
  intro n
  induction n with
  | zero=>intro i p _ h;omega
  | succ n ih =>
    intro i p hi hn hr hp hpl
    rw [g_deflate_Lengths_l0.eq_2]
    simp only [Option.bind_some,bd]
    by_cases hil:i<l.length
    · rw [if_pos (by omega),clean hil]
      simp only [Option.bind_some]
      have hcl:=cl_le l[i]
      have h0:∀ t,t<1→cl (l.getD (i+t) 0)=cl l[i]:=by
        intro t ht
        obtain rfl:t=0:=by omega
        rw [List.getD_eq_getElem?_getD,Nat.add_zero,List.getElem?_eq_getElem hil]
        rfl
      generalize cl l[i]=v at *
      obtain ⟨_,e1,m,rfl,hm,him,hall⟩:=r1 k l ul i v k 1 (by omega) (by omega) h0
      have e1':g_deflate_Lengths_l1 k l i v k 1=some (m:Int):=e1
      rw [e1']
      simp only [Option.bind_some]
      have key:∀ (m':Nat) (q:List (Int × Int)) ,m'≤m→1≤m'→rowOf q=(l.take i).map cl++List.replicate m' v→okP q→q.length≤i+m' →
          Ret (g_deflate_Lengths_l0 k l n (IntKind.wrap .i64 (i+(m':Int))) (q.map (·.1)) (q.map (·.2))) fun r=>∃ q:List (Int × Int),r=(q.map (·.1),q.map (·.2))∧rowOf q=l.map cl∧okP q∧q.length≤l.length:=by
        intro m' q h1 h2 h3 h4 h5
        rw [wi (by omega) (by omega),show ((i:Int)+m')=((i+m':Nat):Int) by omega]
        exact ih (i+m') q (by omega) (by omega) (by rw [h3,run_app m' (by omega) fun t ht=>hall t (by omega)]) h4 h5
      have hrl:(rowOf p).length=i:=by rw [hr];simp;omega
      by_cases hv:v=0
      · subst hv
        by_cases h11:11≤m
        · obtain ⟨m',hm'⟩:∃ m':Nat,m'=min m 138:=⟨_,rfl⟩
          have emin:(if (138:Int)<m then (138:Int) else m)=(m':Int):=by split <;> omega
          rw [if_pos rfl,dt (show (11:Int)≤m by omega)]
          simp only [Option.bind_some,bt,emin]
          rw [wi (n:=(m':Int) - 11) (by omega) (by omega),add1 (by simp;omega) (by simp;omega)]
          simp only [Option.bind_some]
          have:=key m' (p++[(18,(m':Int) - 11)]) (by omega) (by omega) (by rw [rowOf_app,hr];congr 1;unfold more;simp;omega) (okP_app hp ⟨by simp,by simp,by simp;omega,by simp,by simp,by simp,by simp;omega⟩) (by simp;omega)
          simpa using this
        · by_cases h3:3≤m
          · rw [if_pos rfl,df (show ¬ (11:Int)≤m by omega)]
            simp only [Option.bind_some,bf,if_true]
            rw [dt (show (3:Int)≤m by omega)]
            simp only [Option.bind_some,bt]
            rw [wi (n:=(m:Int) - 3) (by omega) (by omega),add1 (by simp;omega) (by simp;omega)]
            simp only [Option.bind_some]
            have:=key m (p++[(17,(m:Int) - 3)]) (by omega) (by omega) (by rw [rowOf_app,hr];congr 1;unfold more;simp;omega) (okP_app hp ⟨by simp,by simp,by simp;omega,by simp,by simp,by simp;omega,by simp⟩) (by simp;omega)
            simpa using this
          · rw [if_pos rfl,df (show ¬ (11:Int)≤m by omega)]
            simp only [Option.bind_some,bf,if_true]
            rw [df (show ¬ (3:Int)≤m by omega)]
            simp only [Option.bind_some,bf,decide_true,Bool.not_true]
            rw [add1 (by simp;omega) (by simp;omega)]
            simp only [Option.bind_some]
            have:=key 1 (p++[(0,0)]) (by omega) (by omega) (by rw [rowOf_app,hr];congr 1) (okP_app hp ⟨by simp,by simp,by simp,by simp,by simp,by simp,by simp⟩) (by simp;omega)
            simpa using this
      · rw [if_neg hv]
        simp only [Option.bind_some,bf]
        rw [if_neg hv]
        simp only [Option.bind_some,bf,df hv,Bool.not_false,bt]
        have eone:more (rowOf p) (v,0)=[v]:=by
          unfold more
          rw [if_neg (by simp;omega),if_neg (by simp;omega),if_neg (by simp;omega)]
        have ok1:okP (p++[(v,0)]):=okP_app hp ⟨by simp;omega,by simp;omega,by simp,by simp,by simp;omega,by simp,by simp⟩
        by_cases h4:4≤m
        · obtain ⟨m',hm'⟩:∃ m':Nat,m'=min m 7:=⟨_,rfl⟩
          have emin:(if (7:Int)<m then (7:Int) else m)=(m':Int):=by split <;> omega
          rw [dt (show (4:Int)≤m by omega)]
          simp only [Option.bind_some,bt,emin]
          rw [add1 (by simp;omega) (by simp;omega),Option.bind_some,wi (n:=(m':Int) - 4) (by omega) (by omega),add1 (by simp;omega) (by simp;omega)]
          simp only [Option.bind_some]
          have er:rowOf (p++[(v,0)])=rowOf p++[v]:=by rw [rowOf_app,eone]
          have:=key m' (p++[(v,0)]++[(16,(m':Int) - 4)]) (by omega) (by omega) (by
              rw [rowOf_app,er,hr,List.append_assoc];congr 1;unfold more
              have e3:(3+((m':Int) - 4)).toNat=m' - 1:=by omega
              simp [e3]
              rw [← List.replicate_succ];congr 1;omega)
            (okP_app ok1 ⟨by simp,by simp,by simp;omega,by simp,by rw [er];simp;omega,by simp,by simp⟩) (by simp;omega)
          simpa using this
        · rw [df (show ¬ (4:Int)≤m by omega)]
          simp only [Option.bind_some,bf]
          rw [add1 (by simp;omega) (by simp;omega)]
          simp only [Option.bind_some]
          have:=key 1 (p++[(v,0)]) (by omega) (by omega) (by rw [rowOf_app,hr,← hr,eone];rfl) ok1 (by simp;omega)
          simpa using this
    · rw [if_neg (by omega)]
      refine Ret.pure ⟨p,rfl,?_,hp,by omega⟩
      rw [hr,List.take_of_length_le (by omega)]
end Go.Proofs.YtaphblcbnhnpaaaGreatDoor.W
namespace Go.Proofs.YtaphblcbnhnpaaaGreatDoor.W
open Go Go.Q Go.Proofs Go.Proofs.YtaphblcbnhnpaaaGreatDoor.HB
set_option linter.unusedVariables false
set_option linter.unusedSimpArgs false
def pos (l:List Int):Nat:=l.countP fun x=>decide (0<x)
theorem syms_pos:∀ (l:List Int) (i:Nat),(symsF l i).length=pos l
  | [],_=>rfl
  | f::l,i=>by
    rw [symsF_cons]
    unfold pos
    rw [List.countP_cons]
    have:=syms_pos l (i+1)
    unfold pos at this
    by_cases h:0<f
    · rw [if_pos h,List.length_cons,this];simp [h]
    · rw [if_neg h,this];simp [h]
theorem row_l1 (k:Nat) (L:List Int) (hL:L.length≤1000):∀ (n i a:Nat),i≤L.length→L.length - i<n→a≤i→g_deflate_row_l1 k L n (a:Int) (i:Int)=some (((a+pos (L.drop i):Nat):Int)):=by
  intro n
  induction n with
  | zero=>intro i a _ h;omega
  | succ n ih =>
    intro i a hi hn ha
    rw [g_deflate_row_l1.eq_2]
    simp only [bd,Option.bind_some]
    by_cases h:i<L.length
    · rw [if_pos (by omega),ix_nat h,List.drop_eq_getElem_cons h]
      simp only [Option.bind_some]
      unfold pos
      rw [List.countP_cons]
      by_cases hf:0<L[i]
      · rw [if_pos hf,wi (by omega) (by omega),wi (by omega) (by omega),show (a:Int)+1=((a+1:Nat):Int) by omega,show (i:Int)+1=((i+1:Nat):Int) by omega]
        simp only [Option.bind_some]
        rw [ih (i+1) (a+1) (by omega) (by omega) (by omega)]
        unfold pos
        rw [if_pos (by simpa using hf)]
        congr 2;omega
      · rw [if_neg hf,wi (by omega) (by omega),show (i:Int)+1=((i+1:Nat):Int) by omega]
        simp only [Option.bind_some]
        rw [ih (i+1) a (by omega) (by omega) (by omega)]
        unfold pos
        rw [if_neg (by simpa using hf)]
        rfl
    · rw [if_neg (by omega),List.drop_of_length_le (by omega)];rfl
def Ups (L R:List Int):Prop:=R.length=L.length∧∀ j,R.getD j 0=L.getD j 0∨L.getD j 0=0∧R.getD j 0=1
theorem pos2:∀ (L:List Int),0<L.getD 0 0→0<L.getD 1 0→2≤pos L
  | [],h,_=>by simp at h
  | [_],_,h=>by simp at h
  | a::b::L,h1,h2=>by
    have h1:0<a:=by simpa using h1
    have h2:0<b:=by simpa using h2
    unfold pos
    rw [List.countP_cons,List.countP_cons,if_pos (by simpa using h2),if_pos (by simpa using h1)];omega
theorem row_l0 (k:Nat) (hk:100≤k) (L:List Int) (h19:L.length=19) (hnn:∀ j,0≤L.getD j 0):∀ (n s many:Nat) (R:List Int),s≤19→19 - s<n→Ups L R→(many<2→∀ j,j<s→0<R.getD j 0)→(2≤many→2≤pos R) →
    ∃ R',g_deflate_row_l0 k n (s:Int) (many:Int) R=some R'∧Ups L R'∧2≤pos R':=by
  intro n
  induction n with
  | zero=>intro s many R _ h;omega
  | succ n ih =>
    intro s many R hs hn hu h1 h2
    rw [g_deflate_row_l0.eq_2]
    simp only [bd,Option.bind_some]
    have hlen:=hu.1
    by_cases hm:many<2
    · rw [if_pos (by omega)]
      by_cases hs2:s<19
      · rw [dt (by omega)]
        simp only [Option.bind_some,bt]
        have e:=row_l1 k R (by omega) k 0 0 (by omega) (by omega) (by omega)
        rw [List.drop_zero,Nat.zero_add,show ((0:Nat):Int)=0 from rfl] at e
        rw [e]
        simp only [Option.bind_some]
        have hR:ix R (s:Int)=some (R.getD s 0):=by
          rw [ix_nat (by omega)];simp [List.getD_eq_getElem?_getD,List.getElem?_eq_getElem (show s<R.length by omega)]
        have hRn:0≤R.getD s 0:=by rcases hu.2 s with q | q <;> have:=hnn s <;> omega
        by_cases hp:pos R<2
        · rw [if_pos (by omega),hR]
          simp only [Option.bind_some]
          by_cases h0:R.getD s 0=0
          · rw [dt h0]
            simp only [Option.bind_some,bt,Int.toNat_natCast]
            rw [wi (by omega) (by omega),show (s:Int)+1=((s+1:Nat):Int) by omega]
            have hset:∀ j,(R.set s 1).getD j 0=if s=j then 1 else R.getD j 0:=by
              intro j
              rw [List.getD_eq_getElem?_getD,List.getElem?_set]
              by_cases e:s=j
              · rw [if_pos e,if_pos e,if_pos (by omega)];rfl
              · rw [if_neg e,if_neg e,List.getD_eq_getElem?_getD]
            refine ih (s+1) (pos R) (R.set s 1) (by omega) (by omega) ⟨by rw [List.length_set];exact hlen,fun j=>?_⟩ (fun _ j hj=>?_) (fun h=>by omega)
            · rw [hset]
              by_cases e:s=j
              · rw [if_pos e]
                subst e
                rcases hu.2 s with q | q
                · exact .inr ⟨by omega,rfl⟩
                · omega
              · rw [if_neg e];exact hu.2 j
            · rw [hset]
              by_cases e:s=j
              · rw [if_pos e];decide
              · rw [if_neg e];exact h1 hm j (by omega)
          · rw [df h0]
            simp only [Option.bind_some,bf]
            rw [wi (by omega) (by omega),show (s:Int)+1=((s+1:Nat):Int) by omega]
            refine ih (s+1) (pos R) R (by omega) (by omega) hu (fun _ j hj=>?_) (fun h=>by omega)
            by_cases e:s=j
            · subst e;omega
            · exact h1 hm j (by omega)
        · rw [if_neg (by omega)]
          simp only [Option.bind_some,bf]
          rw [wi (by omega) (by omega),show (s:Int)+1=((s+1:Nat):Int) by omega]
          exact ih (s+1) (pos R) R (by omega) (by omega) hu (fun h=>absurd h hp) (fun _=>by omega)
      · rw [df (by omega)]
        exact ⟨R,rfl,hu,pos2 R (h1 hm 0 (by omega)) (h1 hm 1 (by omega))⟩
    · rw [if_neg (by omega)]
      exact ⟨R,rfl,hu,h2 (by omega)⟩
def ordL:List Int:=[16,17,18,0,8,7,9,6,10,5,11,4,12,3,13,2,14,1,15]
theorem ord_rng:∀ i:Fin 19,0≤ordL.getD i.val 0∧ordL.getD i.val 0≤18:=by decide
def clB (L:List Int) (s:Int):List Bool:=vb (L.getD s.toNat 0).toNat 3
theorem dyn_l2 (k:Nat) (hk:100≤k) (L:List Int) (h19:L.length=19) (hr:∀ s,0≤L.getD s 0∧L.getD s 0≤7):∀ (n i:Nat) (w:Int) (b:List Int) (B:List Bool),i≤19→19 - i<n→Wr w b B→B.length≤100000 - 3*(19 - i) →
    ∃ w' b',g_deflate_dynamic_l2 k L n (i:Int) w b=some (w',b')∧Wr w' b' (B++(ordL.drop i).flatMap (clB L)):=by
  intro n
  induction n with
  | zero=>intro i w b B _ h;omega
  | succ n ih =>
    intro i w b B hi hn hw hB
    rw [g_deflate_dynamic_l2.eq_2]
    simp only [bd,Option.bind_some]
    by_cases h:i<19
    · rw [if_pos (by omega),if_pos (by omega),Int.toNat_natCast]
      have ho:=ord_rng ⟨i,h⟩
      simp only at ho
      rw [show ([16,17,18,0,8,7,9,6,10,5,11,4,12,3,13,2,14,1,15]:List Int)=ordL from rfl]
      generalize hx:ordL.getD i 0=x at ho ⊢
      obtain ⟨s,rfl⟩:∃ s:Nat,x=(s:Int):=⟨x.toNat,by omega⟩
      have hix:ix L (s:Int)=some ((((L.getD s 0).toNat:Nat):Int)):=by
        rw [ix_nat (by omega)]
        have:=hr s
        have e:L.getD s 0=L[s]'(by omega):=by simp [List.getD_eq_getElem?_getD,List.getElem?_eq_getElem (show s<L.length by omega)]
        congr 1;omega
      rw [hix]
      simp only [Option.bind_some]
      have:=hr s
      rw [wu32 (by omega)]
      obtain ⟨w1,b1,e1,q1⟩:=putv (show 40≤k by omega) (v:=(L.getD s 0).toNat) (c:=3) (by omega) (by decide) hw (by omega)
      rw [show (3:Int)=((3:Nat):Int) from rfl,e1]
      simp only [Option.bind_some]
      rw [wi (by omega) (by omega),show (i:Int)+1=((i+1:Nat):Int) by omega]
      obtain ⟨w2,b2,e2,q2⟩:=ih (i+1) w1 b1 _ (by omega) (by omega) q1 (by rw [List.length_append,vb_length];omega)
      refine ⟨w2,b2,e2,?_⟩
      have hd:ordL.drop i=(s:Int)::ordL.drop (i+1):=by
        have hl:ordL.length=19:=rfl
        rw [List.drop_eq_getElem_cons (by omega)]
        congr 1
        rw [← hx];simp [List.getD_eq_getElem?_getD,List.getElem?_eq_getElem (show i<ordL.length by omega)]
      rw [hd,List.flatMap_cons,← List.append_assoc]
      exact q2
    · rw [if_neg (by omega)]
      exact ⟨w,b,rfl,by rw [List.drop_of_length_le (by show 19≤i;omega)];simpa using hw⟩
def moreN (s:Int):Nat:=if s=16 then 2 else if s=17 then 3 else if s=18 then 7 else 0
def syB (L:List Int) (q:Int × Int):List Bool:=codeB L q.1.toNat++vb q.2.toNat (moreN q.1)
theorem more_tab:∀ i:Fin 19,([0,0,0,0,0,0,0,0,0,0,0,0,0,0,0,0,2,3,7]:List Int).getD i.val 0=((moreN ((i.val:Nat):Int):Nat):Int):=by decide
theorem dyn_l3 (k:Nat) (hk:400≤k) (L:List Int) (hj:(judge L).2=0) (q:List (Int × Int)) (hq:∀ p∈q,0≤p.1∧p.1≤18∧0≤p.2∧p.2≤127∧Us L p.1.toNat) (hl:q.length≤1000):∀ (n i:Nat) (w:Int) (b:List Int) (B:List Bool),i≤q.length→q.length - i<n→Wr w b B→B.length≤1000+22*i →
    ∃ w' b',g_deflate_dynamic_l3 k (q.map (·.1)) (q.map (·.2)) L (codesL L).1 n (i:Int) w b=some (w',b')∧Wr w' b' (B++(q.drop i).flatMap (syB L))∧((q.drop i).flatMap (syB L)).length≤22*(q.length - i):=by
  intro n
  induction n with
  | zero=>intro i w b B _ h;omega
  | succ n ih =>
    intro i w b B hi hn hw hB
    rw [g_deflate_dynamic_l3.eq_2]
    simp only [bd,Option.bind_some,List.length_map]
    by_cases h:i<q.length
    · rw [if_pos (by omega),ix_nat (by rw [List.length_map];exact h),List.getElem_map]
      simp only [Option.bind_some]
      obtain ⟨p1,p2,p3,p4,p5⟩:=hq q[i] (List.getElem_mem h)
      have hq2:ix (q.map (·.2)) (i:Int)=some q[i].2:=by rw [ix_nat (by rw [List.length_map];exact h),List.getElem_map]
      rw [List.drop_eq_getElem_cons h,List.flatMap_cons]
      generalize q[i]=p at p1 p2 p3 p4 p5 hq2 ⊢
      obtain ⟨s,v⟩:=p
      simp only at p1 p2 p3 p4 p5 hq2 ⊢
      obtain ⟨s,rfl⟩:∃ m:Nat,s=(m:Int):=⟨s.toNat,by omega⟩
      obtain ⟨v,rfl⟩:∃ m:Nat,v=(m:Int):=⟨v.toNat,by omega⟩
      rw [Int.toNat_natCast] at p5
      obtain ⟨c1,c2⟩:=code_ix (k:=k) hj p5
      rw [c1,c2]
      simp only [Option.bind_some]
      obtain ⟨w1,b1,e1,q1,l1⟩:=put_sym (k:=k) (by omega) hj p5 hw (by omega)
      rw [e1]
      simp only [Option.bind_some]
      rw [hq2]
      simp only [Option.bind_some]
      rw [if_pos (by omega),wu32 (by omega),Int.toNat_natCast]
      have hmt:=more_tab ⟨s,by omega⟩
      simp only at hmt
      rw [hmt]
      have hm7:moreN (s:Int)≤7:=by unfold moreN;split <;> (try split) <;> (try split) <;> omega
      obtain ⟨w2,b2,e2,q2⟩:=putv (show 40≤k by omega) (v:=v) (c:=moreN (s:Int)) (by omega) (by omega) q1 (by rw [List.length_append];omega)
      rw [e2]
      simp only [Option.bind_some]
      rw [wi (by omega) (by omega),show (i:Int)+1=((i+1:Nat):Int) by omega]
      have hsy:syB L ((s:Int),(v:Int))=codeB L s++vb v (moreN (s:Int)):=rfl
      obtain ⟨w3,b3,e3,q3,l3⟩:=ih (i+1) w2 b2 _ (by omega) (by omega) q2 (by rw [List.length_append,List.length_append,vb_length];omega)
      refine ⟨w3,b3,e3,?_,?_⟩
      · rw [hsy];simpa [List.append_assoc] using q3
      · rw [hsy,List.length_append,List.length_append,vb_length];omega
    · rw [if_neg (by omega)]
      exact ⟨w,b,rfl,by rw [List.drop_of_length_le (by omega)];simpa using hw,by rw [List.drop_of_length_le (by omega)];simp⟩
theorem dyn_l1 (k:Nat) (y:List Int) (hy:∀ s∈y,0≤s∧s≤18) (hl:y.length≤1000):∀ (n:Nat) (dn r:List Int),y=dn++r→r.length<n →
    g_deflate_dynamic_l1 k y n (dn.length:Int) (outOf 19 dn)=some (outOf 19 y):=by
  intro n
  induction n with
  | zero=>intro dn r _ h;omega
  | succ n ih =>
    intro dn r hd hn
    rw [g_deflate_dynamic_l1.eq_2]
    simp only [bd,Option.bind_some]
    have hlen:=congrArg List.length hd
    rw [List.length_append] at hlen
    cases r with
    | nil=>rw [if_neg (by simp at hlen;omega)];rw [List.append_nil] at hd;rw [hd]
    | cons s r =>
      simp only [List.length_cons] at hn hlen
      have q:=hy s (by rw [hd];simp)
      rw [if_pos (by omega)]
      have hx:ix y (dn.length:Int)=some s:=by rw [hd,ix_nat (by simp)];simp
      rw [hx]
      simp only [Option.bind_some]
      rw [ix_int q.1 (by rw [outOf_len];omega)]
      simp only [Option.bind_some]
      rw [outOf_get (by omega),show ((s.toNat:Nat):Int)=s by omega]
      have hcnt:dn.count s≤dn.length:=List.count_le_length
      rw [wi (n:=((dn.count s:Nat):Int)+1) (by omega) (by omega),outOf_set q.1 (by omega),wi (by omega) (by omega)]
      have:=ih (dn++[s]) r (by simp [hd]) (by omega)
      rw [show (dn.length:Int)+1=((dn++[s]).length:Int) by simp,this]
def DynB (l:List It) (B:List Bool):Prop:=∃ (ll dl CL:List Int) (q:List (Int × Int)),(judge ll).2=0∧(judge dl).2=0∧((judge CL).2=0∧(judge CL).1=true)∧CL.length=19∧(∀ s,0≤CL.getD s 0∧CL.getD s 0≤7)∧(257≤ll.length∧ll.length≤286)∧(1≤dl.length∧dl.length≤30) ∧
  rowOf q=ll++dl∧okP q∧(∀ p∈q,Us CL p.1.toNat)∧(∀ x∈l,OkI ll dl x)∧Us ll 256 ∧
  B=[true,false,true]++vb (ll.length - 257) 5++vb (dl.length - 1) 5++vb 15 4++ordL.flatMap (clB CL)++q.flatMap (syB CL)++(l.flatMap (itB ll dl)++codeB ll 256)
theorem outOf_pos {N:Nat} {L:List Int} {s:Nat} (hs:s<N) (h:(s:Int)∈L):0<(outOf N L)[s]'(by rw [outOf_len];exact hs):=by
  rw [outOf_get hs];have:=List.count_pos_iff.2 h;omega
theorem outOf_bad {N:Nat} {L:List Int} (h:L.length≤1073741824):¬ badF (outOf N L):=by
  rintro ⟨v,hv,q⟩
  obtain ⟨s,hs,e⟩:=List.mem_iff_getElem.1 hv
  rw [outOf_len] at hs
  rw [outOf_get hs] at e
  have:L.count (s:Int)≤L.length:=List.count_le_length
  omega
theorem len_lens (k:Nat) (hk:210000≤k) (x:List Int) (m:Nat) (hm:1≤m) (hm2:m≤15) (hx:x.length≤320) (hb:¬ badF x) (h3:x.length≤2^m):g_huff_Lengths k x (m:Int)=some (Sum.inl (outOf x.length (itemsR x m),0)):=by
  have:=lengths_ok k hk x (m:Int) (by unfold badA;omega) hb (by rw [Int.toNat_natCast];exact Nat.le_trans (coinsF_len x 0).2 h3)
  rw [Int.toNat_natCast] at this
  exact this
theorem flat_len {α β:Type} (f:α→List β) (c:Nat):∀ (l:List α),(∀ x∈l,(f x).length≤c)→(l.flatMap f).length≤c*l.length
  | [],_=>by simp
  | x::l,h=>by
    have:=flat_len f c l fun y hy=>h y (by simp [hy])
    have:=h x (by simp)
    simp only [List.flatMap_cons,List.length_append,List.length_cons,Nat.mul_succ];omega
theorem cl_map {l:List Int} (h:¬ badL l):l.map cl=l:=by
  have:∀ x∈l,cl x=x:=fun x hx=>by
    have:¬ badX x:=fun q=>h ⟨x,hx,q⟩
    unfold badX at this
    unfold cl;rw [if_neg this]
  rw [List.map_congr_left this];simp
theorem dyn_ok (k:Nat) (l:List It) (hk:l.length+300000≤k) (hl:∀ x∈l,RgI x) (hn:l.length≤1048576):∃ n s B,g_deflate_dynamic k l=some (Sum.inr s)∧Wr n s B∧DynB l B∧B.length≤100000000:=by
  unfold g_deflate_dynamic
  simp only [bd]
  rw [if_pos (by omega),if_pos (by omega)]
  simp only [Option.bind_some]
  rw [show Int.toNat 286=286 from rfl,show Int.toNat 256=256 from rfl,show Int.toNat 30=30 from rfl,show Int.toNat 19=19 from rfl,← outOf_nil 286,← outOf_nil 30,← outOf_nil 19]
  have h256:ix (outOf 286 []) 256=some 0:=by rw [show (256:Int)=((256:Nat):Int) from rfl,ix_nat (by rw [outOf_len];decide),outOf_get (by decide)];rfl
  have hs256:List.set (outOf 286 []) 256 1=outOf 286 [256]:=by
    have:=outOf_set (N:=286) (l:=[]) (s:=256) (by decide) (by decide)
    exact this
  rw [h256]
  simp only [Option.bind_some]
  rw [hs256]
  have lsL:(l.flatMap sL).length≤1*l.length:=flat_len sL 1 l fun x _=>by unfold sL;split <;> simp
  have lsD:(l.flatMap sD).length≤1*l.length:=flat_len sD 1 l fun x _=>by unfold sD;split <;> simp
  have e0:=dyn_l0 k (by omega) k [] l [256] [] (by omega) hl (by simp;omega) (by simp;omega) (by simp;omega)
  rw [List.nil_append,show (([]:List It).length:Int)=0 from rfl,List.nil_append] at e0
  rw [e0]
  simp only [Option.bind_some]
  obtain ⟨lf,hlf⟩:∃ lf,lf=outOf 286 ([256]++l.flatMap sL):=⟨_,rfl⟩
  obtain ⟨df',hdf⟩:∃ df',df'=outOf 30 (l.flatMap sD):=⟨_,rfl⟩
  rw [← hlf,← hdf]
  have llf:lf.length=286:=by rw [hlf,outOf_len]
  have ldf:df'.length=30:=by rw [hdf,outOf_len]
  have b1:¬ badF lf:=by rw [hlf];exact outOf_bad (by rw [List.length_append,List.length_singleton];omega)
  have b2:¬ badF df':=by rw [hdf];exact outOf_bad (by omega)
  have p15:(2:Nat)^15=32768:=by decide
  rw [show (15:Int)=((15:Nat):Int) from rfl,len_lens k (by omega) lf 15 (by decide) (by decide) (by omega) b1 (by omega),len_lens k (by omega) df' 15 (by decide) (by decide) (by omega) b2 (by omega)]
  simp only [Option.bind_some]
  obtain ⟨j1,_,u1,_,_⟩:=lens_judge (x:=lf) 15 (by decide) (by decide) (by omega) (Nat.le_trans (coinsF_len lf 0).2 (by omega))
  obtain ⟨j2,_,u2,_,_⟩:=lens_judge (x:=df') 15 (by decide) (by decide) (by omega) (Nat.le_trans (coinsF_len df' 0).2 (by omega))
  generalize hL0:outOf lf.length (itemsR lf 15)=L0 at *
  generalize hD0:outOf df'.length (itemsR df' 15)=D0 at *
  have lL0:L0.length=286:=by rw [← hL0,outOf_len,llf]
  have lD0:D0.length=30:=by rw [← hD0,outOf_len,ldf]
  unfold g_deflate_shorter
  obtain ⟨m1,s1,s2,s3,s4⟩:=shorter_l0 k L0 (by omega) 257 k L0.length (Nat.le_refl _) (by omega) (by omega) (fun j hj=>by rw [List.getD_eq_getElem?_getD,List.getElem?_eq_none hj];rfl)
  obtain ⟨m2,t1,t2,t3,t4⟩:=shorter_l0 k D0 (by omega) 1 k D0.length (Nat.le_refl _) (by omega) (by omega) (fun j hj=>by rw [List.getD_eq_getElem?_getD,List.getElem?_eq_none hj];rfl)
  rw [List.take_length] at s1 t1
  rw [show (257:Int)=((257:Nat):Int) from rfl,s1]
  simp only [Option.bind_some]
  rw [show (g_deflate_shorter_l0 k 1 k D0)=some (D0.take m2) from t1]
  simp only [Option.bind_some]
  have jl:(judge (L0.take m1)).2=0:=by rw [judge_take s3 (by omega) s4];exact j1
  have jd:(judge (D0.take m2)).2=0:=by rw [judge_take t3 (by omega) t4];exact j2
  have lll:(L0.take m1).length=m1:=by rw [List.length_take];omega
  have ldl:(D0.take m2).length=m2:=by rw [List.length_take];omega
  have us1:∀ s:Nat,s<286→(s:Int)∈[256]++l.flatMap sL→Us (L0.take m1) s:=fun s hs hm=>by
    refine us_take s4 (u1 s (by omega) ?_)
    have:=outOf_pos (N:=286) hs hm
    simp only [hlf];exact this
  have us2:∀ s:Nat,s<30→(s:Int)∈l.flatMap sD→Us (D0.take m2) s:=fun s hs hm=>by
    refine us_take t4 (u2 s (by omega) ?_)
    have:=outOf_pos (N:=30) hs hm
    simp only [hdf];exact this
  have u256:Us (L0.take m1) 256:=us1 256 (by decide) (by simp)
  have hok:∀ x∈l,OkI (L0.take m1) (D0.take m2) x:=fun x hx=>by
    rcases hl x hx with ⟨c,rfl,hc⟩ | ⟨n,d,rfl,h1,h2,h3,h4⟩
    · exact .inl ⟨c,rfl,hc,us1 c (by omega) (List.mem_append_right _ (List.mem_flatMap.2 ⟨_,hx,by show (c:Int)∈[(c:Int)];simp⟩))⟩
    · have hm:¬ ((⟨0,(n:Int),(d:Int)⟩:It).fLen=0):=by show ¬ ((n:Int)=0);omega
      have q1:=symL_ok 40 (by decide) n h1 h2
      have q2:=symD_ok 40 (by decide) d h3 h4
      refine .inr ⟨n,d,rfl,h1,h2,h3,h4,us1 _ (by omega) (List.mem_append_right _ (List.mem_flatMap.2 ⟨_,hx,?_⟩)),us2 _ q2.2.1 (List.mem_flatMap.2 ⟨_,hx,?_⟩)⟩
      · unfold sL;rw [if_neg hm];exact List.mem_singleton.2 rfl
      · unfold sD;rw [if_neg hm];exact List.mem_singleton.2 rfl
  generalize L0.take m1=ll at *
  generalize D0.take m2=dl at *
  obtain ⟨k,rfl⟩:∃ j,k=j+3:=⟨k - 3,by omega⟩
  rw [concat k ll dl (by omega) (by omega)]
  simp only [Option.bind_some]
  unfold g_deflate_Lengths
  have hlen2:(ll++dl).length≤316:=by rw [List.length_append];omega
  obtain ⟨_,r1,q,rfl,r2,r3,r4⟩:=lens (k+3) (ll++dl) (by omega) (by omega) (k+3) 0 [] (by omega) (by omega) rfl okP_nil (by simp)
  have r1':g_deflate_Lengths_l0 (k+3) (ll++dl) (k+3) 0 [] []=some (q.map (·.1),q.map (·.2)):=r1
  rw [r1']
  simp only [Option.bind_some]
  rw [if_pos (by omega)]
  have hqr:∀ p∈q,0≤p.1∧p.1≤18∧0≤p.2∧p.2≤127:=fun p hp=>by
    obtain ⟨j,hj,e⟩:=List.mem_iff_getElem.1 hp
    obtain ⟨a1,a2,a3,a4,a5,a6,a7⟩:=r3 j hj
    rw [e] at a1 a2 a3 a4 a5 a6 a7
    refine ⟨a1,a2,a3,?_⟩
    by_cases w:p.1<16
    · have:=a4 w;omega
    · by_cases w6:p.1=16
      · have:=a5 w6;omega
      · by_cases w7:p.1=17
        · have:=a6 w7;omega
        · have:=a7 (by omega);omega
  have c1:=dyn_l1 (k+3) (q.map (·.1)) (fun s hs=>by
    obtain ⟨p,hp,rfl⟩:=List.mem_map.1 hs
    have:=hqr p hp;omega) (by rw [List.length_map];omega) (k+3) [] (q.map (·.1)) rfl (by rw [List.length_map];omega)
  rw [show (([]:List Int).length:Int)=0 from rfl] at c1
  rw [c1]
  simp only [Option.bind_some]
  obtain ⟨cf,hcf⟩:∃ cf,cf=outOf 19 (q.map (·.1)):=⟨_,rfl⟩
  rw [← hcf]
  have lcf:cf.length=19:=by rw [hcf,outOf_len]
  have gcf:∀ j,cf.getD j 0=if j<19 then (((q.map (·.1)).count (j:Int):Nat):Int) else 0:=by
    intro j
    by_cases h:j<19
    · rw [if_pos h,List.getD_eq_getElem?_getD,List.getElem?_eq_getElem (by omega)]
      simp only [hcf];exact outOf_get h
    · rw [if_neg h,List.getD_eq_getElem?_getD,List.getElem?_eq_none (by omega)];rfl
  unfold g_deflate_row
  obtain ⟨R,ro1,ro2,ro3⟩:=row_l0 (k+3) (by omega) cf lcf (fun j=>by rw [gcf];split <;> omega) (k+3) 0 0 cf (by omega) (by omega) ⟨rfl,fun j=>.inl rfl⟩ (fun _ j h=>by omega) (fun h=>by omega)
  rw [show ((0:Nat):Int)=0 from rfl] at ro1
  rw [ro1]
  simp only [Option.bind_some]
  have lR:R.length=19:=by rw [ro2.1,lcf]
  have bR:¬ badF R:=by
    rintro ⟨v,hv,w⟩
    obtain ⟨j,hj,e⟩:=List.mem_iff_getElem.1 hv
    have ej:R.getD j 0=v:=by rw [List.getD_eq_getElem?_getD,List.getElem?_eq_getElem hj];exact e
    have hg:=gcf j
    have hcnt:(q.map (·.1)).count (j:Int)≤(q.map (·.1)).length:=List.count_le_length
    rw [List.length_map] at hcnt
    rcases ro2.2 j with h | h
    · rw [ej,hg] at h;split at h <;> omega
    · omega
  have p7:(2:Nat)^7=128:=by decide
  rw [show (7:Int)=((7:Nat):Int) from rfl,len_lens (k+3) (by omega) R 7 (by decide) (by decide) (by omega) bR (by omega)]
  simp only [Option.bind_some]
  obtain ⟨j3,f3,u3,v3,w3⟩:=lens_judge (x:=R) 7 (by decide) (by decide) (by omega) (Nat.le_trans (coinsF_len R 0).2 (by omega))
  have f3':=f3 (by rw [syms_pos];exact ro3)
  have lCL:(outOf R.length (itemsR R 7)).length=19:=by rw [outOf_len,lR]
  generalize outOf R.length (itemsR R 7)=CL at *
  unfold g_huff_Full
  rw [g_huff_judged_eq (by omega)]
  simp only [Option.bind_some]
  rw [f3']
  simp only [Bool.not_true,bf]
  have usq:∀ p∈q,Us CL p.1.toNat:=fun p hp=>by
    have h:=hqr p hp
    refine u3 p.1.toNat (by omega) ?_
    have hc:0<(q.map (·.1)).count ((p.1.toNat:Nat):Int):=List.count_pos_iff.2 (List.mem_map.2 ⟨p,hp,by omega⟩)
    have hg:=gcf p.1.toNat
    rw [if_pos (by omega)] at hg
    have e:R.getD p.1.toNat 0=R[p.1.toNat]'(by omega):=by simp [List.getD_eq_getElem?_getD,List.getElem?_eq_getElem (show p.1.toNat<R.length by omega)]
    rw [← e]
    rcases ro2.2 p.1.toNat with w | w
    · rw [w,hg];omega
    · omega
  unfold g_bits_NewWriter
  simp only [Option.bind_some]
  rw [put_same]
  obtain ⟨n1,x1,e1,w1⟩:=putv (show 40≤k+3 by omega) (v:=5) (c:=3) (by decide) (by decide) Wr.nil (by decide)
  rw [show (5:Int)=((5:Nat):Int) from rfl,show (3:Int)=((3:Nat):Int) from rfl,e1]
  simp only [Option.bind_some]
  rw [wi (n:=((ll.length:Nat):Int) - ((257:Nat):Int)) (by omega) (by omega),show ((ll.length:Nat):Int) - ((257:Nat):Int)=((ll.length - 257:Nat):Int) by omega,wu32 (by omega)]
  obtain ⟨n2,x2,e2,w2⟩:=putv (show 40≤k+3 by omega) (v:=ll.length - 257) (c:=5) (by omega) (by decide) w1 (by decide)
  rw [e2]
  simp only [Option.bind_some]
  rw [wi (n:=((dl.length:Nat):Int) - 1) (by omega) (by omega),show ((dl.length:Nat):Int) - 1=((dl.length - 1:Nat):Int) by omega,wu32 (by omega)]
  obtain ⟨n3,x3,e3,w3'⟩:=putv (show 40≤k+3 by omega) (v:=dl.length - 1) (c:=5) (by omega) (by decide) w2 (by rw [List.length_append,vb_length];decide)
  rw [e3]
  simp only [Option.bind_some]
  obtain ⟨n4,x4,e4,w4⟩:=putv (show 40≤k+3 by omega) (v:=15) (c:=4) (by decide) (by decide) w3' (by simp only [List.length_append,vb_length,List.length_nil];decide)
  rw [show (4:Int)=((4:Nat):Int) from rfl,e4]
  simp only [Option.bind_some]
  obtain ⟨n5,x5,e5,w5⟩:=dyn_l2 (k+3) (by omega) CL lCL (fun s=>⟨w3 s,v3 s⟩) (k+3) 0 n4 x4 _ (by omega) (by omega) w4 (by simp only [List.length_append,vb_length,List.length_nil];decide)
  rw [show ((0:Nat):Int)=0 from rfl] at e5
  rw [e5]
  simp only [Option.bind_some]
  rw [g_huff_Codes_eq (by omega)]
  simp only [Option.bind_some]
  have lord:(ordL.flatMap (clB CL)).length≤3*ordL.length:=flat_len (clB CL) 3 ordL fun s _=>by unfold clB;rw [vb_length];exact Nat.le_refl _
  have lo19:ordL.length=19:=rfl
  rw [List.drop_zero] at w5
  obtain ⟨n6,x6,e6,w6,l6⟩:=dyn_l3 (k+3) (by omega) CL j3 q (fun p hp=>⟨(hqr p hp).1,(hqr p hp).2.1,(hqr p hp).2.2.1,(hqr p hp).2.2.2,usq p hp⟩) (by omega) (k+3) 0 n5 x5 _ (by omega) (by omega) w5 (by simp only [List.length_append,vb_length,List.length_nil];omega)
  rw [show ((0:Nat):Int)=0 from rfl] at e6
  rw [e6]
  simp only [Option.bind_some]
  rw [coded_ok (by omega)]
  simp only [Option.bind_some]
  rw [List.drop_zero] at w6 l6
  obtain ⟨n7,x7,e7,w7,l7⟩:=all_ok (k+3) ll dl jl jd l (by omega) hok u256 hn w6 (by simp only [List.length_append,vb_length,List.length_nil];omega)
  rw [e7]
  simp only [Option.bind_some]
  have hB:∀ B:List Bool,Wr n7 x7 B→B.length≤100000000→g_bits_Writer_Done (k+3) n7 x7=some x7:=fun B hw hB=>done_ok hw (by omega)
  have hBl:([]++vb 5 3++vb (ll.length - 257) 5++vb (dl.length - 1) 5++vb 15 4++ordL.flatMap (clB CL)++q.flatMap (syB CL)++(l.flatMap (itB ll dl)++codeB ll 256)).length≤100000000:=by
    rw [List.length_append]
    simp only [List.length_append,vb_length,List.length_nil] at l7 ⊢
    omega
  rw [hB _ w7 hBl]
  refine ⟨n7,x7,_,rfl,w7,⟨ll,dl,CL,q,jl,jd,⟨j3,f3'⟩,lCL,fun s=>⟨w3 s,v3 s⟩,by omega,by omega,?_,r3,usq,hok,u256,?_⟩,hBl⟩
  · rw [r2]
    refine cl_map ?_
    rw [(sumW_app ll dl).2.2]
    exact fun w=>w.elim (judge_ok jl).2.1 (judge_ok jd).2.1
  · rw [show vb 5 3=[true,false,true] from rfl,List.nil_append]
end Go.Proofs.YtaphblcbnhnpaaaGreatDoor.W
namespace Go.Proofs.YtaphblcbnhnpaaaGreatDoor.W
open Go Go.Q Go.Proofs
set_option linter.unusedVariables false
set_option linter.unusedSimpArgs false
theorem pi_len {b:List Int}:∀ {l:List It} {at_:Nat},PI b at_ l→at_+l.length≤b.length
  | [],at_,h=>by have:at_=b.length:=h;simp;omega
  | x::l,at_,h=>by
    rcases h with ⟨h1,_,_,h3⟩ | ⟨n,d,h1,_,h2,h3⟩
    · have:=pi_len h3;simp only [List.length_cons];omega
    · have:=pi_len h3;simp only [List.length_cons];omega
def StB (b:List Int) (level:Int) (B:List Bool):Prop:=B=storedB 20 b∨(1≤level∧∃ l,PI b 0 l∧B=fixedB l)∨(level=2∧∃ l,PI b 0 l∧DynB l B)
theorem deflate_ok2 (k:Nat) (b:List Int) (hB:Bytes b) (hb:b.length≤1048576) (hk:b.length+400000≤k) (level:Int) (h0:0≤level) (h2:level≤2) :
    ∃ n s B,g_deflate_Deflate k b level=some (Sum.inl (s,0))∧Wr n s B∧StB b level B∧s.length≤((storedB 20 b).length+7) / 8∧(1≤level→∃ l,g_deflate_Parse k b=some l∧s.length≤((fixedB l).length+7) / 8):=by
  unfold g_deflate_Deflate
  simp only [bd]
  rw [if_neg (by omega),df (by omega)]
  simp only [Option.bind_some,bf,bd]
  rw [if_neg (by omega)]
  obtain ⟨n0,s0,e0,w0⟩:=stored_ok k (by omega) b hB hb
  rw [e0]
  simp only [Option.bind_some,bd]
  have z0:=w0.l
  by_cases hl0:level=0
  · rw [if_pos hl0]
    exact ⟨n0,s0,_,rfl,w0,.inl rfl,by omega,fun h=>by omega⟩
  · rw [if_neg hl0]
    obtain ⟨l,l1,l2⟩:=parse_ok k b (by omega) hB (by omega)
    have hlen:=pi_len l2
    rw [l1]
    simp only [Option.bind_some,bd]
    obtain ⟨n1,s1,e1,w1⟩:=fixed_ok k l (by omega) (pi_ok hB (fun s hs=>lfix_us hs) (fun s hs=>dfix_us hs) l2) (by omega)
    rw [e1]
    simp only [Option.bind_some,bd]
    have z1:=w1.l
    have hbest:∃ n s B,(if ((s1.length:Nat):Int)<((s0.length:Nat):Int) then some s1 else some s0)=some s∧Wr n s B∧StB b level B∧s.length≤s0.length∧s.length≤s1.length:=by
      by_cases h:s1.length<s0.length
      · rw [if_pos (by omega)];exact ⟨n1,s1,_,rfl,w1,.inr (.inl ⟨by omega,l,l2,rfl⟩),by omega,Nat.le_refl _⟩
      · rw [if_neg (by omega)];exact ⟨n0,s0,_,rfl,w0,.inl rfl,Nat.le_refl _,by omega⟩
    obtain ⟨n,s,B,e,w,hs,y0,y1⟩:=hbest
    rw [e]
    simp only [Option.bind_some,bd]
    by_cases hl2:level=2
    · rw [if_pos hl2]
      obtain ⟨n3,s3,B3,e3,w3,d3,_⟩:=dyn_ok k l (by omega) (pi_rg hB l2) (by omega)
      rw [e3]
      simp only [Option.bind_some,bd]
      have hpos:0<s3.length:=by
        obtain ⟨ll,dl,CL,q,_,_,_,_,_,_,_,_,_,_,_,_,hBB⟩:=d3
        have:=w3.l
        rw [hBB] at this
        simp only [List.length_append,List.length_cons] at this
        omega
      rw [if_pos hpos]
      by_cases h:s3.length<s.length
      · rw [if_pos (by omega)]
        exact ⟨n3,s3,B3,rfl,w3,.inr (.inr ⟨hl2,l,l2,d3⟩),by omega,fun _=>⟨l,rfl,by omega⟩⟩
      · rw [if_neg (by omega)]
        exact ⟨n,s,B,rfl,w,hs,by omega,fun _=>⟨l,rfl,by omega⟩⟩
    · rw [if_neg hl2]
      exact ⟨n,s,B,rfl,w,hs,by omega,fun _=>⟨l,rfl,by omega⟩⟩
theorem aliveZ (k:Nat):g_quirelaw05_alive (k+300)=some true:=by kernel_rfl
theorem tS {b x:Bool}:(bif b then some true else some x)=some (b||x):=by cases b <;> rfl
def badC (c:Nat):Bool:=decide (c<32)||(decide (126<c)||(decide (c=92)||decide (c=58)))
theorem right1 (k c:Nat):g_zip_Right_1 k (c:Int)=some (badC c):=by
  unfold g_zip_Right_1 badC
  rw [show decide ((c:Int)<32)=decide (c<32) by congr 1;exact propext (by omega),show decide ((126:Int)<c)=decide (126<c) by congr 1;exact propext (by omega),show decide ((c:Int)=92)=decide (c=92) by congr 1;exact propext (by omega),show decide ((c:Int)=58)=decide (c=58) by congr 1;exact propext (by omega)]
  simp only [tS,Option.bind_some]
theorem decL_bad {l:List UInt8} (h0:0<l.length):if byt l 0<128 then decL l=(byt l 0,1) else 126<(decL l).1:=by
  split
  · rename_i h
    exact decL_of (.inl ⟨rfl,by omega,rfl,h⟩)
  · rename_i h
    rcases decL_cases h0 with q | ⟨q,_⟩
    · unfold okL at q;omega
    · rw [q];decide
theorem index_go (k:Nat) (x:ByteArray):∀ (n p:Nat),p≤(L x).length→(L x).length - p<n →
    (∃ j:Nat,g_st_indexFunc_l0 k x true n p=some (Sum.inl (j:Int))∧∃ c∈(L x).drop p,badC c.toNat=true)∨(g_st_indexFunc_l0 k x true n p=some (Sum.inr ())∧∀ c∈(L x).drop p,badC c.toNat=false):=by
  intro n
  induction n with
  | zero=>intro p _ h;omega
  | succ n ih =>
    intro p hp hn
    rw [g_st_indexFunc_l0.eq_2,decode_L,L_size]
    by_cases h:p<(L x).length
    · have hl:0<((L x).drop p).length:=by rw [List.length_drop];omega
      have hb:=decL_bad hl
      have e0:byt ((L x).drop p) 0=(L x)[p].toNat:=by simp [byt_drop,byt,List.getD_eq_getElem?_getD,List.getElem?_eq_getElem h]
      have ed:(L x).drop p=(L x)[p]::(L x).drop (p+1):=List.drop_eq_getElem_cons h
      rw [dt h,right1]
      simp only [bt,Option.bind_some]
      by_cases hbd:badC (L x)[p].toNat=true
      · have:badC (decL ((L x).drop p)).1=true:=by
          split at hb
          · rw [hb,e0];exact hbd
          · unfold badC;simp [hb]
        rw [this]
        simp only [beq_self_eq_true,bt]
        exact .inl ⟨p,rfl,_,by rw [ed];exact List.mem_cons_self ..,hbd⟩
      · have hlt:byt ((L x).drop p) 0<128:=by
          by_cases hc:byt ((L x).drop p) 0<128
          · exact hc
          · exfalso;apply hbd;unfold badC;rw [← e0];simp;omega
        rw [if_pos hlt] at hb
        have hbf:badC (L x)[p].toNat=false:=by simpa using hbd
        rw [hb,e0,hbf]
        simp only [show (false==true)=false from rfl,bf]
        rcases ih (p+1) (by omega) (by omega) with ⟨j,q1,c,q2,q3⟩ | ⟨q1,q2⟩
        · exact .inl ⟨j,q1,c,by rw [ed];exact List.mem_cons_of_mem _ q2,q3⟩
        · refine .inr ⟨q1,fun c hc=>?_⟩
          rw [ed] at hc
          rcases List.mem_cons.1 hc with rfl | hc
          · exact hbf
          · exact q2 c hc
    · rw [df h]
      exact .inr ⟨rfl,fun c hc=>by rw [List.drop_of_length_le (by omega)] at hc;simp at hc⟩
def anyBad (l:List UInt8):Bool:=l.any fun c=>badC c.toNat
theorem contains_eq (k:Nat) (x:ByteArray) (hk:(L x).length<k):g_st_ContainsFunc k x=some (anyBad (L x)):=by
  unfold g_st_ContainsFunc g_st_IndexFunc g_st_indexFunc
  rcases index_go k x k 0 (Nat.zero_le _) (by omega) with ⟨j,q1,c,q2,q3⟩ | ⟨q1,q2⟩
  · rw [q1]
    simp only [Option.bind_some]
    rw [dt (by omega)]
    congr 1;symm
    exact List.any_eq_true.2 ⟨c,by simpa using q2,q3⟩
  · rw [q1]
    simp only [Option.bind_some]
    rw [df (by decide)]
    congr 1;symm
    rw [anyBad,List.any_eq_false]
    intro c hc
    rw [q2 c (by simpa using hc)];decide
theorem zgetB (s:ByteArray) (i:Nat):s[i]! = (L s).getD i 0:=by
  by_cases h:i<s.size
  · have h':i<(L s).length:=by rw [← L_size];exact h
    rw [getElem!_pos s i h,List.getD_eq_getElem?_getD,List.getElem?_eq_getElem h']
    rfl
  · have h':¬ i<(L s).length:=by rw [← L_size];exact h
    rw [getElem!_neg s i h,List.getD_eq_getElem?_getD,List.getElem?_eq_none (by omega)]
    rfl
theorem zix_none {s:ByteArray} (h:∀ c∈L s,c≠47):ixByte s 47 = -1:=by
  unfold ixByte
  have:(List.range s.size).find? (fun i=>s[i]! == (47:Int).toNat.toUInt8)=none:=by
    rw [List.find?_eq_none]
    intro i hi
    have hi':i<(L s).length:=by rw [← L_size];simpa using hi
    rw [zgetB,List.getD_eq_getElem?_getD,List.getElem?_eq_getElem hi']
    have:=h _ (List.getElem_mem hi')
    simpa using this
  rw [this]
theorem zix_some {s:ByteArray} {a b:List UInt8} (h:L s=a++47::b) (ha:∀ c∈a,c≠47):ixByte s 47=(a.length:Int):=by
  unfold ixByte
  have:(List.range s.size).find? (fun i=>s[i]! == (47:Int).toNat.toUInt8)=some a.length:=by
    rw [List.find?_range_eq_some]
    refine ⟨?_,?_,?_⟩
    · rw [zgetB,h];simp
    · simp [L_size,h]
    · intro j hj
      rw [zgetB,h,List.getD_eq_getElem?_getD,List.getElem?_append_left hj,List.getElem?_eq_getElem hj]
      have:=ha _ (List.getElem_mem hj)
      simpa using this
  rw [this]
theorem zindex_eq {k:Nat} {s:ByteArray}:g_st_Index k s (ByteArray.mk #[47])=some (ixByte s 47):=by
  unfold g_st_Index g_sl_Index
  rw [show (decide (((ByteArray.size (ByteArray.mk #[47]):Nat):Int)=0))=false from rfl,show (decide (((ByteArray.size (ByteArray.mk #[47]):Nat):Int)=1))=true from rfl]
  simp only [Option.bind_some,bf,bt,beq_toList]
  by_cases h:L (ByteArray.mk #[47])=L s
  · rw [dt h]
    have:ixByte s 47=((([]:List UInt8).length:Nat):Int):=zix_some (b:=[]) (by rw [← h];rfl) (by simp)
    simp only [Option.bind_some,bt,this]
    rfl
  · rw [df h]
    simp only [bf]
    rw [show ix (strInts (ByteArray.mk #[47])) 0=some 47 from rfl]
    rfl
theorem first47:∀ (l:List UInt8),(∀ c∈l,c≠47)∨∃ a b,l=a++47::b∧∀ c∈a,c≠47
  | []=>.inl (by simp)
  | c::l=>by
    by_cases h:c=47
    · subst h;exact .inr ⟨[],l,rfl,by simp⟩
    · rcases first47 l with q | ⟨a,b,rfl,q⟩
      · exact .inl fun d hd=>by
          rcases List.mem_cons.1 hd with rfl | hd
          · exact h
          · exact q d hd
      · exact .inr ⟨c::a,b,rfl,fun d hd=>by
          rcases List.mem_cons.1 hd with rfl | hd
          · exact h
          · exact q d hd⟩
def bd (p:List UInt8):Bool:=decide (p=[])||(decide (p=[46])||decide (p=[46,46]))
theorem bd_eq (x:ByteArray):(bif x.toList==(ByteArray.mk #[]).toList then some true else (bif x.toList==(ByteArray.mk #[46]).toList then some true else some (x.toList==(ByteArray.mk #[46,46]).toList)))=some (bd (L x)):=by
  simp only [beq_toList,show L (ByteArray.mk #[])=[] from rfl,show L (ByteArray.mk #[46])=[46] from rfl,show L (ByteArray.mk #[46,46])=[46,46] from rfl,tS,bd]
def rgt:List UInt8→List UInt8→Bool
  | p,[]=>!bd p
  | p,c::l=>if c=47 then !bd p&&rgt [] l else if badC c.toNat then false else rgt (p++[c]) l
theorem rgt_no:∀ (a p:List UInt8),(∀ c∈a,c≠47)→anyBad a=false→rgt p a=!bd (p++a)
  | [],p,_,_=>by rw [rgt,List.append_nil]
  | c::a,p,h,hb=>by
    rw [anyBad,List.any_cons,Bool.or_eq_false_iff] at hb
    rw [rgt,if_neg (h c (List.mem_cons_self ..)),hb.1]
    simp only [Bool.false_eq_true,if_false]
    rw [rgt_no a _ (fun d hd=>h d (List.mem_cons_of_mem _ hd)) hb.2,List.append_assoc];rfl
theorem rgt_at:∀ (a p b:List UInt8),(∀ c∈a,c≠47)→anyBad a=false→rgt p (a++47::b)=(!bd (p++a)&&rgt [] b)
  | [],p,b,_,_=>by rw [List.nil_append,rgt,if_pos rfl,List.append_nil]
  | c::a,p,b,h,hb=>by
    rw [anyBad,List.any_cons,Bool.or_eq_false_iff] at hb
    rw [List.cons_append,rgt,if_neg (h c (List.mem_cons_self ..)),hb.1]
    simp only [Bool.false_eq_true,if_false]
    rw [rgt_at a _ b (fun d hd=>h d (List.mem_cons_of_mem _ hd)) hb.2,List.append_assoc];rfl
theorem bad47:badC (47:UInt8).toNat=false:=by decide
theorem rgt_bad:∀ (l p:List UInt8),anyBad l=true→rgt p l=false
  | [],_,h=>by simp [anyBad] at h
  | c::l,p,h=>by
    rw [rgt]
    rw [anyBad,List.any_cons,Bool.or_eq_true] at h
    split
    · rename_i hc
      subst hc
      rw [bad47] at h
      rw [rgt_bad l [] (h.resolve_left (by decide)),Bool.and_false]
    · split
      · rfl
      · rename_i hb
        exact rgt_bad l _ (h.resolve_left (by simpa using hb))
theorem parts_go (k:Nat):∀ (n:Nat) (s:ByteArray),(L s).length<n→(L s).length≤1000000→anyBad (L s)=false →
    (∃ x,g_zip_Right_l1 k n s=some (Sum.inl x)∧rgt [] (L s)=!bd (L x))∨(∃ x,g_zip_Right_l1 k n s=some (Sum.inr x)∧rgt [] (L s)=false):=by
  intro n
  induction n with
  | zero=>intro s h;omega
  | succ n ih =>
    intro s hn hl hb
    rw [g_zip_Right_l1.eq_2,zindex_eq]
    simp only [Option.bind_some]
    simp only [bd_eq]
    rcases first47 (L s) with q | ⟨a,b,e,q⟩
    · rw [zix_none q,dt (by decide)]
      exact .inl ⟨s,rfl,by rw [rgt_no _ _ q hb];rfl⟩
    · have hlen:(L s).length=a.length+1+b.length:=by rw [e];simp;omega
      have hab:anyBad a=false∧anyBad b=false:=by
        rw [e,anyBad,List.any_append,List.any_cons,Bool.or_eq_false_iff,Bool.or_eq_false_iff] at hb
        exact ⟨hb.1,hb.2.2⟩
      have hx:L (ByteArray.extract s (Int.toNat 0) (Int.toNat (a.length:Int)))=a:=by
        rw [L_extract,e];simp
      have hy:L (ByteArray.extract s (Int.toNat (((a.length+1:Nat):Int))) (Int.toNat ((ByteArray.size s:Nat):Int)))=b:=by
        rw [L_extract,Int.toNat_natCast,Int.toNat_natCast,L_size,hlen,e,List.drop_append,List.drop_of_length_le (by omega),show a.length+1 - a.length=1 by omega]
        simp only [List.nil_append,List.drop_succ_cons,List.drop_zero]
        rw [List.take_of_length_le (by omega)]
      rw [zix_some e q,df (by omega),wi (n:=(a.length:Int)+0) (by omega) (by omega),Int.add_zero,dt (by rw [L_size];omega)]
      simp only [bf,bt]
      rw [hx]
      rw [e,rgt_at a [] b q hab.1,List.nil_append]
      cases hbd:bd a with
      | true=>exact .inr ⟨s,rfl,rfl⟩
      | false =>
        simp only [bf,Option.bind_some]
        rw [show ((ByteArray.size (ByteArray.mk #[47]):Nat):Int)=1 from rfl,wi (n:=(a.length:Int)+1) (by omega) (by omega),dt (by rw [L_size];omega),show (a.length:Int)+1=((a.length+1:Nat):Int) by omega]
        simp only [bt]
        rcases ih _ (by rw [hy];omega) (by rw [hy];omega) (by rw [hy];exact hab.2) with ⟨x,q1,q2⟩ | ⟨x,q1,q2⟩
        · rw [hy] at q2
          exact .inl ⟨x,q1,by rw [q2];simp⟩
        · rw [hy] at q2
          exact .inr ⟨x,q1,by rw [q2];simp⟩
def okName (l:List UInt8):Bool:=decide (l.length≤255)&&rgt [] l
theorem right_eq (k:Nat) (x:ByteArray) (hk:300≤k):g_zip_Right k x=some (okName (L x)):=by
  unfold g_zip_Right okName
  rw [L_size]
  by_cases h:255<(L x).length
  · rw [dt (by omega),df (by omega)];rfl
  · rw [df (by omega),dt (by omega)]
    simp only [Option.bind_some,bf]
    rw [contains_eq k x (by omega)]
    simp only [Option.bind_some]
    cases hb:anyBad (L x) with
    | true=>rw [rgt_bad _ _ hb];rfl
    | false =>
      simp only [bf]
      unfold g_st_SplitSeq g_st_splitSeq
      simp only [Option.bind_some]
      rw [show decide (((ByteArray.size (ByteArray.mk #[47]):Nat):Int)=0)=false from rfl]
      simp only [bf,Option.bind_some]
      simp only [bd_eq]
      rcases parts_go k k x (by omega) (by omega) hb with ⟨y,q1,q2⟩ | ⟨y,q1,q2⟩
      · rw [q1,q2]
        simp only [Option.bind_some]
        cases bd (L y) <;> rfl
      · rw [q1,q2];rfl
theorem strOf1 (c:Nat) (h:c<256):L (strOf ([(c:Int)]:List Int))=[UInt8.ofNat c]:=by
  rw [L_strOf];simp
theorem ref_go (k:Nat) (x:ByteArray) (hx:(L x).length≤255):∀ (n p:Nat) (part:ByteArray),p≤(L x).length→(L x).length+1 - p<n→(L part).length≤p →
    (g_quireref05_Right_l0 k x n part (p:Int)=some (Sum.inr ())∧rgt (L part) ((L x).drop p)=true)∨(g_quireref05_Right_l0 k x n part (p:Int)=some (Sum.inl ())∧rgt (L part) ((L x).drop p)=false):=by
  intro n
  induction n with
  | zero=>intro p part _ h;omega
  | succ n ih =>
    intro p part hp hn hpl
    have hend:g_quireref05_Right_l0 k x (n+1) part (p:Int)=g_quireref05_Right_l0 k x (n+1) part (p:Int):=rfl
    rw [g_quireref05_Right_l0.eq_2,L_size]
    simp only [Option.bind_some]
    simp only [bd_eq]
    rw [dt (by omega)]
    simp only [bt]
    by_cases h:p=(L x).length
    · subst h
      rw [dt rfl]
      simp only [Option.bind_some,bt,List.drop_length,rgt]
      cases hb:bd (L part) with
      | true=>exact .inr ⟨rfl,rfl⟩
      | false =>
        simp only [bf,Option.bind_some]
        rw [wi (by omega) (by omega),show ((L x).length:Int)+1=(((L x).length+1:Nat):Int) by omega]
        obtain ⟨n,rfl⟩:∃ m,n=m+1:=⟨n - 1,by omega⟩
        rw [g_quireref05_Right_l0.eq_2,L_size]
        simp only [Option.bind_some]
        rw [df (by omega)]
        exact .inl ⟨rfl,rfl⟩
    · have hlt:p<(L x).length:=by omega
      have ed:(L x).drop p=(L x)[p]::(L x).drop (p+1):=List.drop_eq_getElem_cons hlt
      have eb:byt (L x) p=(L x)[p].toNat:=by simp [byt,List.getD_eq_getElem?_getD,List.getElem?_eq_getElem hlt]
      have h256:=byt_lt (L x) p
      rw [df (by omega),strInts_L,ix_I hlt,eb]
      rw [eb] at h256
      simp only [Option.bind_some,bf]
      rw [ed,rgt]
      by_cases h47:(L x)[p]=47
      · rw [dt (by rw [h47];rfl),if_pos h47]
        simp only [Option.bind_some,bt]
        cases hb:bd (L part) with
        | true=>exact .inr ⟨rfl,rfl⟩
        | false =>
          simp only [bf,Option.bind_some]
          rw [wi (by omega) (by omega),show (p:Int)+1=((p+1:Nat):Int) by omega]
          have:=ih (p+1) (ByteArray.mk #[]) (by omega) (by omega) (by rw [show L (ByteArray.mk #[])=[] from rfl];simp)
          rw [show L (ByteArray.mk #[])=[] from rfl] at this
          simpa using this
      · have hne:¬ ((L x)[p].toNat:Int)=47:=fun q=>h47 (UInt8.toNat_inj.1 (by rw [show (47:UInt8).toNat=47 from rfl];omega))
        rw [df hne,if_neg h47]
        simp only [Option.bind_some,bf]
        have er:(bif (decide (((L x)[p].toNat:Int)<32)) then some true else (bif (decide (126<((L x)[p].toNat:Int))) then some true else (bif (decide (((L x)[p].toNat:Int)=92)) then some true else some (decide (((L x)[p].toNat:Int)=58)))))=some (badC (L x)[p].toNat):=by
          have:=right1 0 (L x)[p].toNat
          unfold g_zip_Right_1 at this
          have hbs:∀ o:Option Bool,(o.bind fun x=>some x)=o:=fun o=>by cases o <;> rfl
          rw [hbs] at this
          exact this
        rw [er]
        simp only [Option.bind_some]
        cases hb:badC (L x)[p].toNat with
        | true=>simp only [bt,Option.bind_some,if_true];exact .inr ⟨trivial,trivial⟩
        | false =>
          have e1:=strOf1 (L x)[p].toNat h256
          simp only [bf,Bool.false_eq_true,if_false]
          rw [dt (by rw [L_size,L_size,e1];simp;omega)]
          simp only [bt,Option.bind_some]
          rw [wi (by omega) (by omega),show (p:Int)+1=((p+1:Nat):Int) by omega]
          have:=ih (p+1) (part++strOf ([((L x)[p].toNat:Int)]:List Int)) (by omega) (by omega) (by rw [L_append,e1];simp;omega)
          rw [L_append,e1,UInt8.ofNat_toNat] at this
          exact this
theorem ref_right (k:Nat) (x:ByteArray) (hk:300≤k):g_quireref05_Right k x=some (okName (L x)):=by
  unfold g_quireref05_Right okName
  rw [L_size]
  by_cases h0:(L x).length=0
  · rw [dt (by omega)]
    have:L x=[]:=List.eq_nil_of_length_eq_zero h0
    simp only [Option.bind_some,bt]
    rw [this];rfl
  · rw [df (by omega)]
    simp only [Option.bind_some,bf]
    by_cases h:255<(L x).length
    · rw [dt (by omega),df (by omega)];rfl
    · rw [df (by omega),dt (by omega)]
      simp only [bf]
      have:=ref_go k x (by omega) k 0 (ByteArray.mk #[]) (by omega) (by omega) (by rw [show L (ByteArray.mk #[])=[] from rfl];simp)
      rw [show L (ByteArray.mk #[])=[] from rfl,List.drop_zero,show ((0:Nat):Int)=0 from rfl] at this
      rcases this with ⟨q1,q2⟩ | ⟨q1,q2⟩ <;> rw [q1,q2] <;> rfl
end Go.Proofs.YtaphblcbnhnpaaaGreatDoor.W
namespace Go.Q
set_option linter.unusedVariables false
def zle:Nat→Nat→List UInt8
  | 0,_=>[]
  | n+1,v=>UInt8.ofNat v::zle n (v / 256)
theorem zle_len:∀ (n v:Nat),(zle n v).length=n
  | 0,_=>rfl
  | n+1,v=>by rw [zle,List.length_cons,zle_len]
structure Ent where
  meth:Nat
  crc:Nat
  packed:Nat
  size:Nat
  name:List UInt8
  at_:Nat
def sumsB (e:Ent):List UInt8:=zle 2 0++(zle 2 e.meth++(zle 2 0++(zle 2 33++(zle 4 e.crc++(zle 4 e.packed++(zle 4 e.size++zle 2 e.name.length))))))
def localB (e:Ent):List UInt8:=[80,75,3,4]++(zle 2 20++(sumsB e++(zle 2 0++e.name)))
def centralB (e:Ent):List UInt8:=[80,75,1,2]++(zle 2 20++(zle 2 20++(sumsB e++(zle 2 0++(zle 2 0++(zle 2 0++(zle 2 0++(zle 4 0++(zle 4 e.at_++e.name)))))))))
def endB (many size at_:Nat):List UInt8:=[80,75,5,6]++(zle 2 0++(zle 2 0++(zle 2 many++(zle 2 many++(zle 4 size++(zle 4 at_++zle 2 0))))))
theorem sums_len (e:Ent):(sumsB e).length=22:=by simp [sumsB,zle_len]
theorem local_len (e:Ent):(localB e).length=30+e.name.length:=by simp [localB,sums_len,zle_len];omega
theorem central_len (e:Ent):(centralB e).length=46+e.name.length:=by simp [centralB,sums_len,zle_len];omega
theorem end_len (a b c:Nat):(endB a b c).length=22:=by simp [endB,zle_len]
def crcStep (x:BitVec 32):BitVec 32:=(x >>> 1) ^^^ (3988292384#32 &&& -(x &&& 1#32))
def crcIt:Nat→BitVec 32→BitVec 32
  | 0,x=>x
  | n+1,x=>crcIt n (crcStep x)
def crcRow:List Int→BitVec 32→BitVec 32
  | [],x=>x
  | c::l,x=>crcRow l (crcIt 8 (x ^^^ BitVec.ofInt 32 c))
theorem one_and (x:BitVec 32):(x &&& 1#32=0#32∧x.getLsbD 0=false)∨(x &&& 1#32=1#32∧x.getLsbD 0=true):=by
  rcases Nat.mod_two_eq_zero_or_one x.toNat with h | h
  · left;exact ⟨by apply BitVec.eq_of_toNat_eq;simp [Nat.and_one_is_mod,h],by simp [BitVec.getLsbD,h]⟩
  · right;exact ⟨by apply BitVec.eq_of_toNat_eq;simp [Nat.and_one_is_mod,h],by simp [BitVec.getLsbD,h]⟩
theorem step0 {x:BitVec 32} (h:x &&& 1#32=0#32):crcStep x=x >>> 1:=by unfold crcStep;rw [h];simp
theorem step1 {x:BitVec 32} (h:x &&& 1#32=1#32):crcStep x=(x >>> 1) ^^^ 3988292384#32:=by
  unfold crcStep;rw [h,show -(1#32)=BitVec.allOnes 32 from by decide,BitVec.and_allOnes]
end Go.Q
namespace Go.Proofs.YtaphblcbnhnpaaaGreatDoor.W
open Go Go.Q Go.Proofs
set_option linter.unusedVariables false
set_option linter.unusedSimpArgs false
theorem zt8 (a:Nat):Int.tmod (a:Int) 8=((a%8:Nat):Int):=rfl
theorem zbit {v:BitVec 32} {i:Nat}:bits .and .u8 (IntKind.wrap .u8 (shrI .u32 (v.toNat:Int) (i:Int))) 1=(((v >>> i).setWidth 8 &&& 1#8).toNat:Int):=by
  rw [u32_shr,u8_of_u32,show (1:Int)=((1#8).toNat:Int) from rfl,u8_and];rfl
theorem zacc {v:BitVec 32} {i:Nat} {a:BitVec 8} (hi:i<8) (ha:∀ j,j<8→a.getLsbD j=(decide (j<i)&&v.getLsbD j)) :
    ∀ j,j<8→(a ||| (((v >>> i).setWidth 8 &&& 1#8) <<< i)).getLsbD j=(decide (j<i+1)&&v.getLsbD j):=by
  intro j hj
  rw [BitVec.getLsbD_or,ha j hj,BitVec.getLsbD_shiftLeft,BitVec.getLsbD_and,BitVec.getLsbD_one,BitVec.getLsbD_setWidth,BitVec.getLsbD_ushiftRight]
  rcases Nat.lt_trichotomy j i with h | h | h
  · simp [h,show j<i+1 by omega,hj]
  · subst h;simp [hj]
  · simp [show ¬ j<i by omega,show ¬ j<i+1 by omega,show ¬ (j - i=0) by omega]
theorem put8_go (k:Nat) (v:BitVec 32) (l:List Int) (hl:l.length≤1099511627776):∀ (m i:Nat) (a:BitVec 8),1≤i→i≤8→8 - i<m→(∀ j,j<8→a.getLsbD j=(decide (j<i)&&v.getLsbD j)) →
    g_bits_Writer_Put__b_l0 k (v.toNat:Int) 8 m (i:Int) ((8*l.length+i:Nat):Int) (l++[(a.toNat:Int)])=some (((8*(l.length+1):Nat):Int),l++[((v.setWidth 8).toNat:Int)]):=by
  intro m
  induction m with
  | zero=>intro i a _ _ h;omega
  | succ m ih =>
    intro i a h1 h8 hm ha
    rw [g_bits_Writer_Put__b_l0.eq_2]
    by_cases h:i<8
    · rw [dt (show (i:Int)<8 by omega),dt (show (0:Int)≤(i:Int) by omega),zbit,zt8,show (8*l.length+i)%8=i by omega,df (show ¬ ((i:Nat):Int)=0 by omega)]
      simp only [cond_true,cond_false,Option.bind_some]
      have hx:(l++[(a.toNat:Int)]).length=l.length+1:=by simp
      rw [hx,wi (n:=((l.length+1:Nat):Int) - 1) (by omega) (by omega),show ((l.length+1:Nat):Int) - 1=((l.length:Nat):Int) by omega,ix_nat (by rw [hx];omega),List.getElem_append_right (Nat.le_refl _)]
      simp only [Nat.sub_self,List.getElem_cons_zero,Option.bind_some]
      rw [dt (show (0:Int)≤((i:Nat):Int) by omega)]
      simp only [cond_true,Option.bind_some]
      rw [u8_shl,u8_or,wi (by omega) (by omega),wi (by omega) (by omega),Int.toNat_natCast,Int.toNat_natCast,List.set_append_right _ _ (Nat.le_refl _)]
      simp only [Nat.sub_self,List.set_cons_zero]
      exact ih (i+1) _ (by omega) (by omega) (by omega) (zacc h ha)
    · obtain rfl:i=8:=by omega
      rw [df (show ¬ ((8:Nat):Int)<8 by omega)]
      simp only [cond_false]
      have:a=v.setWidth 8:=by
        apply BitVec.eq_of_getLsbD_eq
        intro j hj
        rw [ha j hj,BitVec.getLsbD_setWidth]
      rw [this];rfl
theorem put8 {k:Nat} (hk:12≤k) (v:BitVec 32) (l:List Int) (hl:l.length≤1099511627776) :
    g_bits_Writer_Put__b k (v.toNat:Int) 8 ((8*l.length:Nat):Int) l=some (0,((8*(l.length+1):Nat):Int),l++[((v.setWidth 8).toNat:Int)]):=by
  obtain ⟨k',rfl⟩:∃ k',k=k'+1:=⟨k - 1,by omega⟩
  unfold g_bits_Writer_Put__b
  rw [show decide ((8:Int)<0)=false from rfl,show decide ((32:Int)<8)=false from rfl]
  simp only [cond_false,Option.bind_some,g_bits_each]
  have e0:=zbit (v:=v) (i:=0)
  rw [show (((0:Nat)):Int)=0 from rfl] at e0
  rw [g_bits_Writer_Put__b_l0.eq_2,show decide ((0:Int)<8)=true from rfl,show decide ((0:Int)≤0)=true from rfl,e0,zt8,show (8*l.length)%8=0 by omega,show decide (((0:Nat):Int)=0)=true from rfl,dt (show (l.length+([0]:List Int).length)*1≤140737488355328 by simp;omega)]
  simp only [cond_true,Option.bind_some]
  have hx:(l++[(0:Int)]).length=l.length+1:=by simp
  rw [hx,wi (n:=((l.length+1:Nat):Int) - 1) (by omega) (by omega),show ((l.length+1:Nat):Int) - 1=((l.length:Nat):Int) by omega,ix_nat (by rw [hx];omega),List.getElem_append_right (Nat.le_refl _)]
  simp only [Nat.sub_self,List.getElem_cons_zero,Option.bind_some]
  rw [show decide ((0:Int)≤((0:Nat):Int))=true from rfl]
  simp only [cond_true,Option.bind_some]
  rw [show (0:Int)=((0#8).toNat:Int) from rfl,u8_shl,u8_or,wi (by simp) (by simp),wi (by omega) (by omega),Int.toNat_natCast,List.set_append_right _ _ (Nat.le_refl _)]
  simp only [Nat.sub_self,List.set_cons_zero]
  have:=put8_go (k'+1) v l hl k' 1 _ (by omega) (by omega) (by omega) (zacc (v:=v) (i:=0) (a:=0#8) (by omega) (fun j hj=>by simp))
  refine (congrArg (Option.bind · _) this).trans rfl
theorem shr64n {v n:Nat} (h:n≤64):shrI .i64 (v:Int) (n:Int)=((v / 2^n:Nat):Int):=by
  unfold shrI
  rw [Int.toNat_natCast,show min n (IntKind.bits .i64)=n from Nat.min_eq_left h,show ((2:Int)^n)=((2^n:Nat):Int) by norm_cast,Int.fdiv_eq_ediv_of_nonneg _ (Int.natCast_nonneg _)]
  norm_cast
theorem zle_step (m v:Nat):∀ i,i<m→(zle m v).drop i=UInt8.ofNat (v / 256^i)::(zle m v).drop (i+1):=by
  induction m generalizing v with
  | zero=>intro i h;omega
  | succ m ih =>
    intro i h
    cases i with
    | zero=>simp [zle]
    | succ i =>
      rw [zle,List.drop_succ_cons,List.drop_succ_cons,ih (v / 256) i (by omega),Nat.div_div_eq_div_mul,← Nat.pow_succ']
theorem nums1 {k:Nat} (hk:12≤k) (m v:Nat) (hm:m≤8) (hv:v<9223372036854775808):∀ (n i:Nat) (l:List Int) (q:Nat),l.length=q→i≤m→m - i<n→q+(m - i)≤1099511627776 →
    g_zip_writer_nums_l1 k (m:Int) (v:Int) n (i:Int) ((8*q:Nat):Int) l=some (((8*(q+(m - i)):Nat):Int),l++I ((zle m v).drop i)):=by
  intro n
  induction n with
  | zero=>intro i l q _ _ h;omega
  | succ n ih =>
    intro i l q hq hi hn hl
    rw [g_zip_writer_nums_l1.eq_2]
    by_cases h:i<m
    · rw [dt (show (i:Int)<(m:Int) by omega),wi (n:=8*(i:Int)) (by omega) (by omega),dt (show (0:Int)≤8*(i:Int) by omega),show 8*(i:Int)=((8*i:Nat):Int) by omega,shr64n (by omega)]
      simp only [cond_true,Option.bind_some]
      have e:IntKind.wrap .u32 ((v / 2^(8*i):Nat):Int)=((BitVec.ofNat 32 (v / 2^(8*i))).toNat:Int):=by
        rw [wrap_ofInt (k:=.u32) rfl,BitVec.ofInt_natCast];rfl
      subst hq
      rw [e,put8 hk _ l (by omega)]
      simp only [Option.bind_some]
      rw [wi (by omega) (by omega),show ((i:Int)+1)=((i+1:Nat):Int) by omega,ih (i+1) _ (l.length+1) (by simp) (by omega) (by omega) (by omega)]
      rw [zle_step m v i h,show l.length+1+(m - (i+1))=l.length+(m - i) by omega,List.append_assoc]
      have e8:(((BitVec.ofNat 32 (v / 2^(8*i))).setWidth 8).toNat)=(UInt8.ofNat (v / 256^i)).toNat:=by
        rw [BitVec.toNat_setWidth,BitVec.toNat_ofNat,UInt8.toNat_ofNat',show 256^i=2^(8*i) by rw [Nat.pow_mul]]
        omega
      rw [e8];rfl
    · obtain rfl:i=m:=by omega
      rw [df (show ¬ (i:Int)<(i:Int) by omega),List.drop_of_length_le (by rw [zle_len];omega)]
      simp [I]
theorem nums_go {k:Nat} (hk:12≤k) (m:Nat) (hm:m≤8) (vs:List Nat) (hv:∀ v∈vs,v<9223372036854775808) (hvl:vs.length≤64):∀ (n i:Nat) (l:List Int) (q:Nat),l.length=q→i≤vs.length→vs.length - i<n→q+8*(vs.length - i)≤1099511627768 →
    g_zip_writer_nums_l0 k (m:Int) (vs.map Int.ofNat) n (i:Int) ((8*q:Nat):Int) l=some (((8*(l++I ((vs.drop i).flatMap (zle m))).length:Nat):Int),l++I ((vs.drop i).flatMap (zle m))):=by
  intro n
  induction n with
  | zero=>intro i l q _ _ h;omega
  | succ n ih =>
    intro i l q hq hi hn hl
    rw [g_zip_writer_nums_l0.eq_2,List.length_map]
    by_cases h:i<vs.length
    · rw [dt (show (i:Int)<((vs.length:Nat):Int) by omega),ix_nat (by rw [List.length_map];exact h),List.getElem_map]
      simp only [cond_true,Option.bind_some]
      have e:=nums1 hk m vs[i] hm (hv _ (List.getElem_mem h)) k 0 l q hq (by omega) (by omega) (by omega)
      rw [show Int.ofNat vs[i]=((vs[i]:Nat):Int) from rfl]
      rw [show g_zip_writer_nums_l1 k (m:Int) ((vs[i]:Nat):Int) k 0 ((8*q:Nat):Int) l=_ from e]
      simp only [Option.bind_some,List.drop_zero,Nat.sub_zero]
      rw [wi (by omega) (by omega),show ((i:Int)+1)=((i+1:Nat):Int) by omega,ih (i+1) _ (q+m) (by simp [I_length,zle_len,hq]) (by omega) (by omega) (by omega),List.drop_eq_getElem_cons h,List.flatMap_cons,I_append,List.append_assoc]
    · rw [df (show ¬ (i:Int)<((vs.length:Nat):Int) by omega),List.drop_of_length_le (by omega)]
      simp [I,hq]
theorem nums {k:Nat} (hk:80≤k) (m:Nat) (hm:m≤8) (vs:List Nat) (hv:∀ v∈vs,v<9223372036854775808) (hvl:vs.length≤64) (l:List Int) (hl:l.length≤1099511627000) {zs:List Int} (hz:zs=vs.map Int.ofNat) {p:Int} (hp:p=8*(l.length:Int)) :
    g_zip_writer_nums k (m:Int) zs p l=some (((8*(l++I (vs.flatMap (zle m))).length:Nat):Int),l++I (vs.flatMap (zle m))):=by
  subst hz hp
  have e:=nums_go (k:=k) (by omega) m hm vs hv hvl k 0 l l.length rfl (by omega) (by omega) (by omega)
  unfold g_zip_writer_nums
  rw [show (8*(l.length:Int))=((8*l.length:Nat):Int) by omega,show g_zip_writer_nums_l0 k (m:Int) (vs.map Int.ofNat) k 0 ((8*l.length:Nat):Int) l=_ from e]
  rfl
theorem sums_eq {k:Nat} (hk:80≤k) (meth crc packed size:Nat) (name:ByteArray) (at_:Int) (h1:meth<9223372036854775808) (h2:crc<9223372036854775808) (h3:packed<9223372036854775808) (h4:size<9223372036854775808) (h5:name.size<9223372036854775808) (l:List Int) (hl:l.length≤1099511626000) {p:Int} (hp:p=8*(l.length:Int)) (a:Nat) :
    g_zip_writer_sums k meth crc packed size name at_ p l=some (((8*(l++I (sumsB ⟨meth,crc,packed,size,L name,a⟩)).length:Nat):Int),l++I (sumsB ⟨meth,crc,packed,size,L name,a⟩)):=by
  unfold g_zip_writer_sums
  rw [show (2:Int)=((2:Nat):Int) from rfl,nums (zs:=([0,(meth:Int),0,33]:List Int)) hk 2 (by omega) [0,meth,0,33] (by simp;omega) (by simp) l (by omega) rfl hp]
  simp only [Option.bind_some]
  rw [show (4:Int)=((4:Nat):Int) from rfl,nums (zs:=([(crc:Int),(packed:Int),(size:Int)]:List Int)) hk 4 (by omega) [crc,packed,size] (by simp;omega) (by simp) _ (by simp [I_length,zle_len];omega) rfl (by omega)]
  simp only [Option.bind_some]
  rw [nums (zs:=([((name.size:Nat):Int)]:List Int)) hk 2 (by omega) [name.size] (by simp;omega) (by simp) _ (by simp [I_length,zle_len];omega) rfl (by omega)]
  simp only [Option.bind_some]
  simp only [List.append_assoc,← I_append,sumsB,List.flatMap_cons,List.flatMap_nil,List.append_nil,L_size]
theorem wbytes {k:Nat} (l z:List Int) (p:Int) (h:l.length+z.length≤1099511627776):g_bits_Writer_Bytes k z p l=some (((8*(l++z).length:Nat):Int)):=by
  unfold g_bits_Writer_Bytes
  rw [dt (show (l.length+z.length)*1≤140737488355328 by omega),wi (by omega) (by simp;omega)]
  simp only [cond_true,Option.bind_some]
  congr 1
theorem wfirst {k:Nat} (z:List Int) (p:Int) (h:z.length≤1099511627776):g_bits_Writer_Bytes__b k z p=some (((8*(([]:List Int)++z).length:Nat):Int)):=by
  unfold g_bits_Writer_Bytes__b
  rw [dt (show (([]:List Int).length+z.length)*1≤140737488355328 by simp;omega),wi (by omega) (by simp;omega)]
  simp only [cond_true,Option.bind_some]
  congr 1
theorem clone_eq {k:Nat} {l:List Int} (h:l.length≤1099511627776):g_bits_Writer_Done k 0 l=some l∧∀ p,g_bits_Writer_Done k p l=some l:=by
  have:∀ p,g_bits_Writer_Done k p l=some l:=by
    intro p
    unfold g_bits_Writer_Done g_sc_Clone_byte_byte
    rw [dt (show (([]:List Int).length+l.length)*1≤140737488355328 by simp;omega)]
    rfl
  exact ⟨this 0,this⟩
theorem local_eq {k:Nat} (hk:80≤k) (meth crc packed size a:Nat) (name:ByteArray) (at_:Int) (h1:meth<9223372036854775808) (h2:crc<9223372036854775808) (h3:packed<9223372036854775808) (h4:size<9223372036854775808) (h5:name.size≤1073741824) :
    g_zip_local k meth crc packed size name at_=some (I (localB ⟨meth,crc,packed,size,L name,a⟩)):=by
  unfold g_zip_local g_zip_bytes__b g_zip_local_1 g_bits_NewWriter
  simp only [Option.bind_some]
  rw [wfirst _ _ (by simp),show (2:Int)=((2:Nat):Int) from rfl]
  simp only [Option.bind_some]
  rw [nums (zs:=([20]:List Int)) hk 2 (by omega) [20] (by simp) (by simp) _ (by simp) rfl (by omega)]
  simp only [Option.bind_some]
  rw [sums_eq hk meth crc packed size name at_ h1 h2 h3 h4 (by omega) _ (by simp [I_length,zle_len]) (by omega) a]
  simp only [Option.bind_some]
  rw [nums (zs:=([0]:List Int)) hk 2 (by omega) [0] (by simp) (by simp) _ (by simp [I_length,zle_len,sums_len]) rfl (by omega)]
  simp only [Option.bind_some]
  have hs:=strInts_length name
  rw [dt (show name.size≤140737488355328 by omega),wbytes _ _ _ (by simp [I_length,zle_len,sums_len,hs];omega)]
  simp only [cond_true,Option.bind_some]
  rw [(clone_eq (by simp [I_length,zle_len,sums_len,hs];omega)).2]
  simp only [Option.bind_some]
  simp only [List.append_assoc,strInts_L,← I_append,localB,List.flatMap_cons,List.flatMap_nil,List.append_nil,List.nil_append]
  rw [I_append];rfl
theorem central_eq {k:Nat} (hk:80≤k) (meth crc packed size a:Nat) (name:ByteArray) (h1:meth<9223372036854775808) (h2:crc<9223372036854775808) (h3:packed<9223372036854775808) (h4:size<9223372036854775808) (h5:name.size≤1073741824) (h6:a<9223372036854775808) :
    g_zip_central k meth crc packed size name (a:Int)=some (I (centralB ⟨meth,crc,packed,size,L name,a⟩)):=by
  unfold g_zip_central g_zip_bytes g_zip_central_1 g_bits_NewWriter
  simp only [Option.bind_some]
  rw [wfirst _ _ (by simp),show (2:Int)=((2:Nat):Int) from rfl]
  simp only [Option.bind_some]
  rw [nums (zs:=([20,20]:List Int)) hk 2 (by omega) [20,20] (by simp) (by simp) _ (by simp) rfl (by omega)]
  simp only [Option.bind_some]
  rw [sums_eq hk meth crc packed size name a h1 h2 h3 h4 (by omega) _ (by simp [I_length,zle_len]) (by omega) a]
  simp only [Option.bind_some]
  rw [nums (zs:=([0,0,0,0]:List Int)) hk 2 (by omega) [0,0,0,0] (by simp) (by simp) _ (by simp [I_length,zle_len,sums_len]) rfl (by omega)]
  simp only [Option.bind_some]
  rw [show (4:Int)=((4:Nat):Int) from rfl,nums (zs:=([0,(a:Int)]:List Int)) hk 4 (by omega) [0,a] (by simp;omega) (by simp) _ (by simp [I_length,zle_len,sums_len]) rfl (by omega)]
  simp only [Option.bind_some]
  have hs:=strInts_length name
  rw [dt (show name.size≤140737488355328 by omega),wbytes _ _ _ (by simp [I_length,zle_len,sums_len,hs];omega)]
  simp only [cond_true,Option.bind_some]
  rw [(clone_eq (by simp [I_length,zle_len,sums_len,hs];omega)).2]
  simp only [Option.bind_some]
  simp only [List.append_assoc,strInts_L,← I_append,centralB,List.flatMap_cons,List.flatMap_nil,List.append_nil,List.nil_append]
  rw [I_append];rfl
theorem end_eq {k:Nat} (hk:80≤k) (many size a:Nat) (h1:many<9223372036854775808) (h2:size<9223372036854775808) (h3:a<9223372036854775808) :
    g_zip_end k many size a=some (I (endB many size a)):=by
  unfold g_zip_end g_zip_bytes__c g_zip_end_1 g_bits_NewWriter
  simp only [Option.bind_some]
  rw [wfirst _ _ (by simp),show (2:Int)=((2:Nat):Int) from rfl]
  simp only [Option.bind_some]
  rw [nums (zs:=([0,0,(many:Int),(many:Int)]:List Int)) hk 2 (by omega) [0,0,many,many] (by simp;omega) (by simp) _ (by simp) rfl (by omega)]
  simp only [Option.bind_some]
  rw [show (4:Int)=((4:Nat):Int) from rfl,nums (zs:=([(size:Int),(a:Int)]:List Int)) hk 4 (by omega) [size,a] (by simp;omega) (by simp) _ (by simp [I_length,zle_len]) rfl (by omega)]
  simp only [Option.bind_some]
  rw [nums (zs:=([0]:List Int)) hk 2 (by omega) [0] (by simp) (by simp) _ (by simp [I_length,zle_len]) rfl (by omega)]
  simp only [Option.bind_some]
  rw [(clone_eq (by simp [I_length,zle_len])).2]
  simp only [Option.bind_some]
  simp only [List.append_assoc,← I_append,endB,List.flatMap_cons,List.flatMap_nil,List.append_nil,List.nil_append]
  rw [I_append];rfl
end Go.Proofs.YtaphblcbnhnpaaaGreatDoor.W
namespace Go.Q
set_option linter.unusedVariables false
abbrev Zf:=List UInt8 × List UInt8
section
variable (cz:List UInt8→Nat)
def entZ (f:Zf) (a:Nat):Ent:=⟨0,cz f.2,f.2.length,f.2.length,f.1,a⟩
def entsZ:Nat→List Zf→List Ent
  | _,[]=>[]
  | a,f::l=>entZ cz f a::entsZ (a+(30+f.1.length+f.2.length)) l
def outZ:Nat→List Zf→List UInt8
  | _,[]=>[]
  | a,f::l=>localB (entZ cz f a)++(f.2++outZ (a+(30+f.1.length+f.2.length)) l)
def dirZ (l:List Ent):List UInt8:=l.flatMap centralB
def allZ (l:List Zf):List UInt8:=outZ cz 0 l++(dirZ (entsZ cz 0 l)++endB l.length (dirZ (entsZ cz 0 l)).length (outZ cz 0 l).length)
variable {cz}
end
end Go.Q
