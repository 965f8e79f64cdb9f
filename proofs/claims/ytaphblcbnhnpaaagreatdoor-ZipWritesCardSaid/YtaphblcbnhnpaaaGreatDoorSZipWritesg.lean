/- Texts joined: part 7 of what LZipWrites stands on. -/
import Derived.Test.YtaphblcbnhnpaaaGreatDoorSZipWritesf
namespace Go.Proofs.YtaphblcbnhnpaaaGreatDoor.W
open Go Go.Q Go.Proofs
set_option linter.unusedVariables false
set_option linter.unusedSimpArgs false
def zB (l:List UInt8):ByteArray:=ByteArray.mk l.toArray
theorem L_zB (l:List UInt8):L (zB l)=l:=L_mk l
theorem zB_L (s:ByteArray):zB (L s)=s:=L_ext (L_zB _)
theorem zB_size (l:List UInt8):(zB l).size=l.length:=by rw [L_size,L_zB]
theorem zstrOf (l:List UInt8):strOf (I l)=zB l:=L_ext (by rw [L_strOf_I,L_zB])
theorem zstrInts (l:List UInt8):strInts (zB l)=I l:=by rw [strInts_L,L_zB]
theorem I_get {l:List UInt8} {i:Nat} (h:i<l.length):(I l)[i]'(by rw [I_length];exact h)=(l[i].toNat:Int):=by simp [I]
theorem ixI {l:List UInt8} {i:Nat} (h:i<l.length):ix (I l) (i:Int)=some (l[i].toNat:Int):=by
  rw [ix_nat (by rw [I_length];exact h),I_get h]
def crcN (d:List UInt8):Nat:=(4294967295#32 ^^^ crcRow (I d) 4294967295#32).toNat
theorem crcN_lt (d:List UInt8):crcN d<4294967296:=BitVec.isLt _
theorem u32_wrapz (c:Int):IntKind.wrap .u32 c=((BitVec.ofInt 32 c).toNat:Int):=wrap_ofInt (k:=.u32) rfl c
theorem crc1 (k:Nat):∀ (m i:Nat) (x:BitVec 32),i≤8→8 - i<m→g_bits_Crc_l1 k m (x.toNat:Int) (i:Int)=some ((crcIt (8 - i) x).toNat:Int)
  | 0,_,_,_,h=>by omega
  | m+1,i,x,hi,hm=>by
    rw [g_bits_Crc_l1.eq_2]
    by_cases h:i<8
    · rw [dt (show (i:Int)<8 by omega),show (3988292384:Int)=((3988292384#32).toNat:Int) from rfl,show bits .and .u32 (x.toNat:Int) 1=bits .and .u32 (x.toNat:Int) ((1#32).toNat:Int) from rfl]
      simp only [cond_true,Option.bind_some,u32_and,u32_neg,u32_shr,u32_xor]
      rw [wi (by omega) (by omega),show (i:Int)+1=((i+1:Nat):Int) from rfl]
      rw [crc1 k m (i+1) _ (by omega) (by omega),show 8 - i=(8 - (i+1))+1 by omega]
      rfl
    · rw [df (show ¬ (i:Int)<8 by omega),show 8 - i=0 by omega]
      rfl
theorem crc0 (k:Nat) (l:List Int) (hk:9≤k) (hl:l.length≤9223372036854775807):∀ (m i:Nat) (x:BitVec 32),i≤l.length→l.length - i<m→g_bits_Crc_l0 k l m (x.toNat:Int) (i:Int)=some ((crcRow (l.drop i) x).toNat:Int)
  | 0,_,_,_,h=>by omega
  | m+1,i,x,hi,hm=>by
    rw [g_bits_Crc_l0.eq_2]
    by_cases h:i<l.length
    · rw [dt (show (i:Int)<((l.length:Nat):Int) by omega),ix_nat h]
      simp only [cond_true,Option.bind_some,u32_wrapz,u32_xor]
      rw [show g_bits_Crc_l1 k k _ 0=_ from crc1 k k 0 _ (by omega) (by omega)]
      simp only [Option.bind_some]
      rw [wi (by omega) (by omega),show (i:Int)+1=((i+1:Nat):Int) from rfl,crc0 k l hk hl m (i+1) _ (by omega) (by omega),List.drop_eq_getElem_cons h]
      rfl
    · rw [df (show ¬ (i:Int)<((l.length:Nat):Int) by omega),List.drop_of_length_le (by omega)]
      rfl
theorem crc_prog {k:Nat} {d:List UInt8} (hk:9≤k) (h:d.length<k) (hl:d.length≤1099511627776):g_bits_Crc k (I d)=some ((crcN d:Nat):Int):=by
  unfold g_bits_Crc
  rw [show g_bits_Crc_l0 k (I d) k 4294967295 0=_ from crc0 k (I d) hk (by rw [I_length];omega) k 0 4294967295#32 (by omega) (by rw [I_length];omega)]
  simp only [Option.bind_some,List.drop_zero]
  rw [show (if IntKind.signed .u32 then (-1:Int) else IntKind.max .u32)=((4294967295#32).toNat:Int) from rfl,u32_xor]
  rfl
def lowN (n:Nat):Nat:=if 65≤n∧n≤90 then n+32 else n
def likeZ (a b:List UInt8):Bool:=decide (a.map (fun c=>lowN c.toNat)=b.map (fun c=>lowN c.toNat))
def asc (l:List UInt8):Prop:=∀ c∈l,c.toNat<128
theorem okName_asc {l:List UInt8} (h:okName l=true):asc l∧l.length≤255:=by
  unfold okName at h
  rw [Bool.and_eq_true,decide_eq_true_eq] at h
  refine ⟨fun c hc=>?_,h.1⟩
  have hb:anyBad l=false:=by
    cases hb:anyBad l with
    | false=>rfl
    | true=>rw [rgt_bad _ _ hb] at h;cases h.2
  unfold anyBad at hb
  rw [List.any_eq_false] at hb
  have:=hb c hc
  unfold badC at this
  simp at this
  omega
theorem or128 {x y:UInt8} (hx:x.toNat<128) (hy:y.toNat<128):decide ((128:Int)≤bits .or .u8 (x.toNat:Int) (y.toNat:Int))=false:=by
  have h:x.toNat ||| y.toNat<2^7:=Nat.or_lt_two_pow hx hy
  have e:bits .or .u8 (x.toNat:Int) (y.toNat:Int)=((x.toNat ||| y.toNat:Nat):Int):=u8_or x.toBitVec y.toBitVec
  rw [e]
  exact df (by omega)
theorem foldStep {x y:Nat} (hx:x<128) (hy:y<128) :
    (bif decide ((y:Int)=(x:Int)) then some (Sum.inl ()) else (((bif (decide ((y:Int)<(x:Int))) then some ((y:Int),(x:Int)) else some ((x:Int),(y:Int))):Option (Int × Int)).bind fun x=>(((bif (decide (65≤x.1)) then (bif (decide (x.1≤90)) then some (decide (x.2=IntKind.wrap .u8 ((IntKind.wrap .u8 (x.1+97)) - 65))) else some false) else some false):Option Bool).bind fun x2254=>(bif x2254 then some (Sum.inl ()) else some (Sum.inr ())))))=some (if lowN x=lowN y then Sum.inl () else Sum.inr ():Unit ⊕ Unit):=by
  by_cases h:y=x
  · subst h;rw [dt rfl,if_pos rfl];rfl
  · rw [df (show ¬ (y:Int)=(x:Int) by omega)]
    have key:∀ u v:Nat,u<v→v<128→(((bif (decide (65≤(u:Int))) then (bif (decide ((u:Int)≤90)) then some (decide ((v:Int)=IntKind.wrap .u8 ((IntKind.wrap .u8 ((u:Int)+97)) - 65))) else some false) else some false):Option Bool).bind fun x2254=>(bif x2254 then some (Sum.inl ()) else some (Sum.inr ())))=some (if lowN u=lowN v then Sum.inl () else Sum.inr ():Unit ⊕ Unit):=by
      intro u v huv hv
      by_cases h1:65≤u
      · rw [dt (show (65:Int)≤(u:Int) by omega)]
        by_cases h2:u≤90
        · rw [dt (show (u:Int)≤90 by omega),wu8 (n:=(u:Int)+97) (by omega) (by omega),wu8 (by omega) (by omega)]
          simp only [bt,Option.bind_some]
          by_cases h3:v=u+32
          · rw [dt (by omega),if_pos (by unfold lowN;rw [if_pos ⟨h1,h2⟩,if_neg (by omega)];omega)];rfl
          · rw [df (by omega),if_neg (by unfold lowN;rw [if_pos ⟨h1,h2⟩];split <;> omega)];rfl
        · rw [df (show ¬ (u:Int)≤90 by omega),if_neg (by unfold lowN;rw [if_neg (by omega),if_neg (by omega)];omega)];rfl
      · rw [df (show ¬ (65:Int)≤(u:Int) by omega),if_neg (by unfold lowN;rw [if_neg (by omega)];split <;> omega)];rfl
    rcases Nat.lt_or_gt_of_ne h with h1 | h1
    · rw [dt (show (y:Int)<(x:Int) by omega)]
      refine (key y x h1 hx).trans ?_
      simp only [eq_comm]
    · rw [df (show ¬ (y:Int)<(x:Int) by omega)]
      exact key x y h1 hy
theorem fold_go (k:Nat) (a b:List UInt8) (ha:asc a) (hb:asc b) (m:Nat) (hma:m≤a.length) (hmb:m≤b.length) (hal:m≤1099511627776):∀ (n i:Nat),i≤m→m - i<n →
    g_st_EqualFold_l0 k (zB a) (zB b) (m:Int) n (i:Int)=some (if ((a.take m).drop i).map (fun c=>lowN c.toNat)=((b.take m).drop i).map (fun c=>lowN c.toNat) then Sum.inr () else Sum.inl ()):=by
  intro n
  induction n with
  | zero=>intro i _ h;omega
  | succ n ih =>
    intro i hi hn
    rw [g_st_EqualFold_l0.eq_2]
    by_cases h:i<m
    · have h1:i<a.length:=by omega
      have h2:i<b.length:=by omega
      rw [dt (show (i:Int)<(m:Int) by omega),zstrInts,zstrInts,ixI h1,ixI h2]
      simp only [bt,Option.bind_some]
      rw [or128 (ha _ (List.getElem_mem h1)) (hb _ (List.getElem_mem h2))]
      simp only [bf]
      rw [foldStep (ha _ (List.getElem_mem h1)) (hb _ (List.getElem_mem h2))]
      have e1:(a.take m).drop i=a[i]::(a.take m).drop (i+1):=by
        rw [List.drop_eq_getElem_cons (by rw [List.length_take];omega),List.getElem_take]
      have e2:(b.take m).drop i=b[i]::(b.take m).drop (i+1):=by
        rw [List.drop_eq_getElem_cons (by rw [List.length_take];omega),List.getElem_take]
      rw [e1,e2,List.map_cons,List.map_cons]
      by_cases hl:lowN a[i].toNat=lowN b[i].toNat
      · rw [if_pos hl]
        simp only [Option.bind_some]
        rw [wi (by omega) (by omega),show ((i:Int)+1)=((i+1:Nat):Int) by omega,ih (i+1) (by omega) (by omega)]
        simp only [List.cons.injEq,hl,true_and]
      · rw [if_neg hl,if_neg (by simp only [List.cons.injEq];exact fun q=>hl q.1)]
        rfl
    · rw [df (show ¬ (i:Int)<(m:Int) by omega),if_pos (by rw [List.drop_of_length_le (by rw [List.length_take];omega),List.drop_of_length_le (by rw [List.length_take];omega)])]
      rfl
theorem fold_eq {k:Nat} {a b:List UInt8} (ha:asc a) (hb:asc b) (hal:a.length≤255) (hbl:b.length≤255) (hk:300≤k):g_st_EqualFold k (zB a) (zB b)=some (likeZ a b):=by
  unfold g_st_EqualFold
  rw [zB_size,zB_size]
  have em:(if (((b.length:Nat):Int):Int)<((a.length:Nat):Int) then (((b.length:Nat):Int):Int) else ((a.length:Nat):Int))=((min b.length a.length:Nat):Int):=by
    split <;> omega
  rw [em]
  simp only [Option.bind_some]
  rw [show g_st_EqualFold_l0 k (zB a) (zB b) ((min b.length a.length:Nat):Int) k 0=_ from fold_go k a b ha hb (min b.length a.length) (by omega) (by omega) (by omega) k 0 (by omega) (by omega)]
  simp only [Option.bind_some,List.drop_zero]
  unfold likeZ
  by_cases hl:a.length=b.length
  · rw [← hl,Nat.min_self,List.take_length,show b.take a.length=b by rw [hl,List.take_length]]
    by_cases h:a.map (fun c=>lowN c.toNat)=b.map (fun c=>lowN c.toNat)
    · rw [if_pos h,dt h]
      simp
    · rw [if_neg h,df h]
  · have:¬ a.map (fun c=>lowN c.toNat)=b.map (fun c=>lowN c.toNat):=fun h=>hl (by have:=congrArg List.length h;simpa using this)
    rw [df this]
    split
    · rfl
    · rename_i heq
      rw [show decide (((a.length:Nat):Int)=((b.length:Nat):Int))=false from df (by omega)]
def mkF (f:Zf):S_api_File:=⟨zB f.1,I f.2⟩
def twiceZ:List (List UInt8)→List (List UInt8)→Bool
  | _,[]=>false
  | seen,n::l=>seen.any (likeZ n)||twiceZ (seen++[n]) l
def chkZ (fs:List Zf) (meth:Int):Nat :=
  if meth≠0∧meth≠8 then 1 else if fs.length > 64 then 3 else if fs.any (fun f=>decide (f.2.length > 262144)) then 3 else
  if fs.any (fun f=>!okName f.1) then 42 else if twiceZ [] (fs.map (·.1)) then 43 else 0
theorem ixM {α β:Type} {f:α→β} {l:List α} {i:Nat} (h:i<l.length):ix (l.map f) (i:Int)=some (f l[i]):=by
  rw [ix_nat (by rw [List.length_map];exact h),List.getElem_map]
theorem chk0 (k:Nat) (fs:List Zf) (hl:fs.length≤64):∀ (n i:Nat),i≤fs.length→fs.length - i<n →
    g_zip_check_l0 k (fs.map mkF) n (i:Int)=some (if (fs.drop i).any (fun f=>decide (f.2.length > 262144)) then Sum.inl () else Sum.inr ()):=by
  intro n
  induction n with
  | zero=>intro i _ h;omega
  | succ n ih =>
    intro i hi hn
    rw [g_zip_check_l0.eq_2,List.length_map]
    by_cases h:i<fs.length
    · rw [dt (show (i:Int)<((fs.length:Nat):Int) by omega),ixM h,List.drop_eq_getElem_cons h,List.any_cons]
      simp only [bt,Option.bind_some]
      rw [show (mkF fs[i]).fData=I fs[i].2 from rfl,I_length]
      by_cases hc:fs[i].2.length > 262144
      · rw [dt (by omega),dt hc];rfl
      · rw [df (by omega),df hc,Bool.false_or]
        simp only [bf]
        rw [wi (by omega) (by omega),show ((i:Int)+1)=((i+1:Nat):Int) by omega,ih (i+1) (by omega) (by omega)]
    · rw [df (show ¬ (i:Int)<((fs.length:Nat):Int) by omega),List.drop_of_length_le (by omega)];rfl
theorem chk1 (k:Nat) (hk:300≤k) (fs:List Zf) (hl:fs.length≤64):∀ (n i:Nat),i≤fs.length→fs.length - i<n →
    g_zip_check_l1 k (fs.map mkF) n (i:Int)=some (if (fs.drop i).any (fun f=>!okName f.1) then Sum.inl () else Sum.inr ()):=by
  intro n
  induction n with
  | zero=>intro i _ h;omega
  | succ n ih =>
    intro i hi hn
    rw [g_zip_check_l1.eq_2,List.length_map]
    by_cases h:i<fs.length
    · rw [dt (show (i:Int)<((fs.length:Nat):Int) by omega),ixM h,List.drop_eq_getElem_cons h,List.any_cons]
      simp only [bt,Option.bind_some]
      rw [show (mkF fs[i]).fName=zB fs[i].1 from rfl,right_eq k _ hk,L_zB]
      simp only [Option.bind_some]
      cases hc:okName fs[i].1 with
      | false=>rfl
      | true =>
        simp only [Bool.not_true,bf,Bool.false_or]
        rw [wi (by omega) (by omega),show ((i:Int)+1)=((i+1:Nat):Int) by omega,ih (i+1) (by omega) (by omega)]
    · rw [df (show ¬ (i:Int)<((fs.length:Nat):Int) by omega),List.drop_of_length_le (by omega)];rfl
theorem chk3 (k:Nat) (hk:300≤k) (fs:List Zf) (hl:fs.length≤64) (hok:∀ f∈fs,okName f.1=true) (i:Nat) (hi:i≤fs.length) (f:Zf) (hf:okName f.1=true):∀ (n j:Nat),j≤i→i - j<n →
    g_zip_check_l3 k (fs.map mkF) (i:Int) (mkF f) (i:Int) n (j:Int)=some (if (((fs.take i).drop j).map (·.1)).any (likeZ f.1) then Sum.inl () else Sum.inr ()):=by
  intro n
  induction n with
  | zero=>intro j _ h;omega
  | succ n ih =>
    intro j hj hn
    rw [g_zip_check_l3.eq_2,Int.toNat_natCast,show Int.toNat 0=0 from rfl,List.drop_zero,← List.map_take]
    have htl:(fs.take i).length=i:=by rw [List.length_take];omega
    by_cases h:j<i
    · have hj2:j<(fs.take i).length:=by omega
      rw [dt (show (j:Int)<(i:Int) by omega),ixM hj2,List.drop_eq_getElem_cons hj2,List.map_cons,List.any_cons]
      simp only [bt,Option.bind_some]
      have hg:okName (fs.take i)[j].1=true:=hok _ (List.mem_of_mem_take (List.getElem_mem hj2))
      rw [show (mkF f).fName=zB f.1 from rfl,show (mkF (fs.take i)[j]).fName=zB (fs.take i)[j].1 from rfl,fold_eq (okName_asc hf).1 (okName_asc hg).1 (okName_asc hf).2 (okName_asc hg).2 hk]
      simp only [Option.bind_some]
      cases hc:likeZ f.1 (fs.take i)[j].1 with
      | true=>rfl
      | false =>
        simp only [bf,Bool.false_or]
        rw [wi (by omega) (by omega),show ((j:Int)+1)=((j+1:Nat):Int) by omega,ih (j+1) (by omega) (by omega)]
    · rw [df (show ¬ (j:Int)<(i:Int) by omega),List.drop_of_length_le (by omega)];rfl
theorem chk2 (k:Nat) (hk:300≤k) (fs:List Zf) (hl:fs.length≤64) (hok:∀ f∈fs,okName f.1=true):∀ (n i:Nat),i≤fs.length→fs.length - i<n →
    g_zip_check_l2 k (fs.map mkF) n (i:Int)=some (twiceZ ((fs.take i).map (·.1)) ((fs.drop i).map (·.1))):=by
  intro n
  induction n with
  | zero=>intro i _ h;omega
  | succ n ih =>
    intro i hi hn
    rw [g_zip_check_l2.eq_2,List.length_map]
    by_cases h:i<fs.length
    · rw [dt (show (i:Int)<((fs.length:Nat):Int) by omega),ixM h,dt (show (0:Int)≤0∧(0:Int)≤(i:Int)∧(i:Int)≤((fs.length:Nat):Int) by omega)]
      simp only [bt,Option.bind_some]
      have e1:((List.drop (Int.toNat 0) (List.take (Int.toNat (i:Int)) (fs.map mkF))).length:Nat)=i:=by
        rw [Int.toNat_natCast,show Int.toNat 0=0 from rfl,List.drop_zero,List.length_take,List.length_map];omega
      rw [e1,show g_zip_check_l3 k (fs.map mkF) (i:Int) (mkF fs[i]) (i:Int) k 0=_ from chk3 k hk fs hl hok i hi fs[i] (hok _ (List.getElem_mem h)) k 0 (by omega) (by omega)]
      simp only [Option.bind_some,List.drop_zero]
      rw [List.drop_eq_getElem_cons h,List.map_cons,twiceZ]
      cases hc:((fs.take i).map (·.1)).any (likeZ fs[i].1) with
      | true=>rfl
      | false =>
        simp only [if_false,Bool.false_or,Bool.false_eq_true]
        rw [wi (by omega) (by omega),show ((i:Int)+1)=((i+1:Nat):Int) by omega,ih (i+1) (by omega) (by omega),List.take_add_one,List.getElem?_eq_getElem h,Option.toList_some,List.map_append]
        rfl
    · rw [df (show ¬ (i:Int)<((fs.length:Nat):Int) by omega),List.drop_of_length_le (l:=fs) (by omega)];rfl
theorem check_eq {k:Nat} (hk:300≤k) (fs:List Zf) (meth:Int):g_zip_check k (fs.map mkF) meth=some ((chkZ fs meth:Nat):Int):=by
  unfold g_zip_check chkZ
  rw [List.length_map]
  have e:((bif (!decide (meth=0)) then some (!decide (meth=8)) else some false):Option Bool)=some (decide (meth≠0∧meth≠8)):=by
    by_cases h0:meth=0
    · simp [h0]
    · simp [h0]
  rw [e]
  simp only [Option.bind_some]
  by_cases h0:meth≠0∧meth≠8
  · rw [dt h0,if_pos h0];rfl
  rw [df h0,if_neg h0]
  simp only [bf]
  by_cases h1:fs.length > 64
  · rw [dt (by omega),if_pos h1];rfl
  rw [df (by omega),if_neg h1]
  simp only [bf]
  rw [show g_zip_check_l0 k (fs.map mkF) k 0=_ from chk0 k fs (by omega) k 0 (by omega) (by omega),List.drop_zero]
  simp only [Option.bind_some]
  cases h2:fs.any (fun f=>decide (f.2.length > 262144)) with
  | true=>rfl
  | false =>
    simp only [if_false,Bool.false_eq_true]
    rw [show g_zip_check_l1 k (fs.map mkF) k 0=_ from chk1 k hk fs (by omega) k 0 (by omega) (by omega),List.drop_zero]
    simp only [Option.bind_some]
    cases h3:fs.any (fun f=>!okName f.1) with
    | true=>rfl
    | false =>
      simp only [if_false,Bool.false_eq_true]
      have hok:∀ f∈fs,okName f.1=true:=fun f hf=>by
        have:=(List.any_eq_false.1 h3) f hf
        simpa using this
      rw [show g_zip_check_l2 k (fs.map mkF) k 0=_ from chk2 k hk fs (by omega) hok k 0 (by omega) (by omega),List.drop_zero,List.take_zero]
      simp only [Option.bind_some,List.map_nil]
      cases twiceZ [] (fs.map (·.1)) <;> rfl
theorem chk_zero {fs:List Zf} {meth:Int} (h:chkZ fs meth=0):(meth=0∨meth=8)∧fs.length≤64∧(∀ f∈fs,f.2.length≤262144∧okName f.1=true):=by
  unfold chkZ at h
  split at h
  · cases h
  rename_i h0
  split at h
  · cases h
  rename_i h1
  split at h
  · cases h
  rename_i h2
  split at h
  · cases h
  rename_i h3
  refine ⟨by by_cases hm : meth = 0
             · exact .inl hm
             · exact .inr (Decidable.byContradiction fun h8=>h0 ⟨hm,h8⟩),by omega,fun f hf=>?_⟩
  simp only [List.any_eq_true,not_exists,not_and,decide_eq_true_eq,Bool.not_eq_true] at h2 h3
  have a:=h2 f hf
  have b:=h3 f hf
  exact ⟨by omega,by simpa using b⟩
abbrev Zp:=Zf × List UInt8
def entP (meth:Nat) (x:Zp) (a:Nat):Ent:=⟨meth,crcN x.1.2,x.2.length,x.1.2.length,x.1.1,a⟩
def entsP (meth:Nat):Nat→List Zp→List Ent
  | _,[]=>[]
  | a,x::l=>entP meth x a::entsP meth (a+(30+x.1.1.length+x.2.length)) l
def outP (meth:Nat):Nat→List Zp→List UInt8
  | _,[]=>[]
  | a,x::l=>localB (entP meth x a)++(x.2++outP meth (a+(30+x.1.1.length+x.2.length)) l)
def allP (meth:Nat) (l:List Zp):List UInt8:=outP meth 0 l++(dirZ (entsP meth 0 l)++endB l.length (dirZ (entsP meth 0 l)).length (outP meth 0 l).length)
def Pkd (k meth:Nat) (x:Zp):Prop:=(meth=0∧x.2=x.1.2)∨(meth=8∧g_deflate_Deflate k (I x.1.2) 2=some (Sum.inl (I x.2,0)))
theorem writeP_go (k:Nat) (hk:2000000≤k) (meth:Nat) (ps:List Zp) (hl:ps.length≤64) (hok:∀ x∈ps,x.1.2.length≤262144∧x.1.1.length≤255∧x.2.length≤300000∧Pkd k meth x) (hm:meth=0∨meth=8):∀ (n i:Nat) (O D:List UInt8),i≤ps.length→ps.length - i<n→O.length+(ps.length - i)*301000≤20000000→D.length+(ps.length - i)*400≤20000000 →
    g_zip_Write_l0 k ((ps.map (·.1)).map mkF) (meth:Int) n (i:Int) (I O) (I D)=some (I (O++outP meth O.length (ps.drop i)),I (D++dirZ (entsP meth O.length (ps.drop i)))):=by
  intro n
  induction n with
  | zero=>intro i O D _ h;omega
  | succ n ih =>
    intro i O D hi hn hO hD
    rw [g_zip_Write_l0.eq_2,List.length_map,List.length_map]
    by_cases h:i<ps.length
    · obtain ⟨f1,f2,f3,f4⟩:=hok ps[i] (List.getElem_mem h)
      have hcr:=crcN_lt ps[i].1.2
      obtain ⟨q,hq⟩:∃ q,ps.length - i=q+1:=⟨ps.length - i - 1,by omega⟩
      rw [hq] at hO hD
      rw [dt (show (i:Int)<((ps.length:Nat):Int) by omega),ixM (by rw [List.length_map];exact h),List.getElem_map]
      rw [Option.bind_some,bt,Option.bind_some]
      rw [show (mkF ps[i].1).fData=I ps[i].1.2 from rfl,show (mkF ps[i].1).fName=zB ps[i].1.1 from rfl]
      have hpk:(((bif (decide ((meth:Int)=8)) then ((g_deflate_Deflate_n k (I ps[i].1.2) 2).bind fun (x13682,x13683)=>some x13682) else some (I ps[i].1.2)):Option (List Int)))=some (I ps[i].2):=by
        rcases f4 with ⟨rfl,e⟩ | ⟨rfl,e⟩
        · rw [e];rfl
        · unfold g_deflate_Deflate_n
          rw [e];rfl
      rw [hpk,Option.bind_some,crc_prog (by omega) (by omega) (by omega),Option.bind_some,Option.bind_some]
      rw [wi (by omega) (by omega),I_length,I_length,I_length]
      have hc:=central_eq (k:=k) (by omega) meth (crcN ps[i].1.2) ps[i].2.length ps[i].1.2.length O.length (zB ps[i].1.1) (by omega) (by omega) (by omega) (by omega) (by rw [zB_size];omega) (by omega)
      have hlo:=local_eq (k:=k) (by omega) meth (crcN ps[i].1.2) ps[i].2.length ps[i].1.2.length O.length (zB ps[i].1.1) (O.length:Int) (by omega) (by omega) (by omega) (by omega) (by rw [zB_size];omega)
      rw [L_zB] at hc hlo
      rw [hc,Option.bind_some,hlo,Option.bind_some]
      have e1:(centralB ⟨meth,crcN ps[i].1.2,ps[i].2.length,ps[i].1.2.length,ps[i].1.1,O.length⟩).length=46+ps[i].1.1.length:=central_len _
      have e2:(localB ⟨meth,crcN ps[i].1.2,ps[i].2.length,ps[i].1.2.length,ps[i].1.1,O.length⟩).length=30+ps[i].1.1.length:=local_len _
      rw [dt (show _≤(140737488355328:Nat) by rw [I_length,I_length,e1];omega)]
      rw [bt]
      rw [dt (show _≤(140737488355328:Nat) by rw [I_length,e2];omega),dt (show _≤(140737488355328:Nat) by rw [List.length_append,I_length,I_length,e2];omega)]
      rw [bt,bt]
      rw [wi (by omega) (by omega),show ((i:Int)+1)=((i+1:Nat):Int) by omega,← I_append,← I_append,← I_append,ih (i+1) _ _ (by omega) (by omega) (by rw [List.length_append,List.length_append,e2,show ps.length - (i+1)=q by omega];omega) (by rw [List.length_append,e1,show ps.length - (i+1)=q by omega];omega)]
      rw [List.drop_eq_getElem_cons h,outP,entsP,List.length_append,List.length_append,e2]
      rw [show O.length+(30+ps[i].1.1.length)+ps[i].2.length=O.length+(30+ps[i].1.1.length+ps[i].2.length) by omega]
      simp only [dirZ,List.flatMap_cons,List.append_assoc]
      rfl
    · rw [df (show ¬ (i:Int)<((ps.length:Nat):Int) by omega),List.drop_of_length_le (l:=ps) (by omega)]
      simp [outP,entsP,dirZ]
theorem outP_len {meth:Nat}:∀ (ps:List Zp) (a:Nat),(∀ x∈ps,x.1.1.length≤255∧x.2.length≤300000)→(outP meth a ps).length≤ps.length*301000
  | [],_,_=>by simp [outP]
  | f::fs,a,h=>by
    have:=outP_len (meth:=meth) fs (a+(30+f.1.1.length+f.2.length)) (fun x hx=>h x (List.mem_cons_of_mem _ hx))
    have hf:=h f (List.mem_cons_self ..)
    rw [outP,List.length_append,List.length_append,local_len,List.length_cons]
    simp only [entP]
    omega
theorem dirP_len {meth:Nat}:∀ (ps:List Zp) (a:Nat),(∀ x∈ps,x.1.1.length≤255∧x.2.length≤300000)→(dirZ (entsP meth a ps)).length≤ps.length*400
  | [],_,_=>by simp [dirZ,entsP]
  | f::fs,a,h=>by
    have:=dirP_len (meth:=meth) fs (a+(30+f.1.1.length+f.2.length)) (fun x hx=>h x (List.mem_cons_of_mem _ hx))
    have hf:=h f (List.mem_cons_self ..)
    rw [entsP,dirZ,List.flatMap_cons,List.length_append,central_len,List.length_cons]
    simp only [entP]
    simp only [dirZ] at this
    omega
theorem storedB_len:∀ (m:Nat) (x:List Int),(storedB m x).length≤8*(5*m+x.length)
  | 0,x=>by simp [storedB]
  | m+1,x=>by
    rw [storedB]
    split
    · rw [blk_len];omega
    · have:=storedB_len m (x.drop 65535)
      rw [List.length_append,blk_len,List.length_take]
      rw [List.length_drop] at this
      omega
def unW (l:List Int):List UInt8:=l.map fun n=>UInt8.ofNat n.toNat
theorem I_unW:∀ {l:List Int},(∀ y∈l,0≤y∧y≤255)→I (unW l)=l
  | [],_=>rfl
  | x::l,h=>by
    have hx:=h x (List.mem_cons_self ..)
    have:=I_unW (l:=l) fun y hy=>h y (List.mem_cons_of_mem _ hy)
    unfold unW I at *
    rw [List.map_cons,List.map_cons,this,UInt8.toNat_ofNat']
    congr 1
    omega
theorem packed (k:Nat) (hk:2000000≤k) (d:List UInt8) (hd:d.length≤262144):∃ p:List UInt8,p.length≤300000∧g_deflate_Deflate k (I d) 2=some (Sum.inl (I p,0)):=by
  have hb:Bytes (I d):=fun x hx=>by
    unfold I at hx
    obtain ⟨c,_,rfl⟩:=List.mem_map.1 hx
    have:=c.toNat_lt
    omega
  obtain ⟨n,s,B,e,w,_,hs,_⟩:=deflate_ok2 k (I d) hb (by rw [I_length];omega) (by rw [I_length];omega) 2 (by decide) (by decide)
  have hl:=storedB_len 20 (I d)
  rw [I_length] at hl
  have hu:=I_unW (l:=s) fun y hy=>w.ok y hy
  refine ⟨unW s,?_,by rw [hu];exact e⟩
  have:=congrArg List.length hu
  rw [I_length] at this
  omega
theorem pkd_all (k:Nat) (hk:2000000≤k) (meth:Nat) (hm:meth=0∨meth=8):∀ (fs:List Zf),(∀ f∈fs,f.2.length≤262144)→∃ ps:List Zp,ps.map (·.1)=fs∧∀ x∈ps,x.2.length≤300000∧Pkd k meth x
  | [],_=>⟨[],rfl,fun x h=>by cases h⟩
  | f::fs,h=>by
    obtain ⟨ps,h1,h2⟩:=pkd_all k hk meth hm fs fun x hx=>h x (List.mem_cons_of_mem _ hx)
    have hf:=h f (List.mem_cons_self ..)
    obtain ⟨p,hp1,hp2⟩:∃ p:List UInt8,p.length≤300000∧Pkd k meth (f,p):=by
      rcases hm with rfl | rfl
      · exact ⟨f.2,by omega,.inl ⟨rfl,rfl⟩⟩
      · obtain ⟨p,a,b⟩:=packed k hk f.2 hf
        exact ⟨p,a,.inr ⟨rfl,b⟩⟩
    refine ⟨(f,p)::ps,by rw [List.map_cons,h1],fun x hx=>?_⟩
    rcases List.mem_cons.1 hx with rfl | hx
    · exact ⟨hp1,hp2⟩
    · exact h2 x hx
theorem writeP_eq (k:Nat) (hk:2000000≤k) (fs:List Zf) (meth:Int):(chkZ fs meth≠0∧g_zip_Write k (fs.map mkF) meth=some (((chkZ fs meth:Nat):Int),[])) ∨
    (chkZ fs meth=0∧∃ (m:Nat) (ps:List Zp),meth=(m:Int)∧(m=0∨m=8)∧ps.map (·.1)=fs∧(∀ x∈ps,x.2.length≤300000∧Pkd k m x)∧g_zip_Write k (fs.map mkF) meth=some (0,I (allP m ps))):=by
  unfold g_zip_Write
  rw [check_eq (by omega),Option.bind_some]
  by_cases h0:chkZ fs meth=0
  · right
    refine ⟨h0,?_⟩
    obtain ⟨hm,hl,hf⟩:=chk_zero h0
    obtain ⟨m,rfl,hm2⟩:∃ m:Nat,meth=(m:Int)∧(m=0∨m=8):=by
      rcases hm with rfl | rfl
      · exact ⟨0,rfl,.inl rfl⟩
      · exact ⟨8,rfl,.inr rfl⟩
    obtain ⟨ps,rfl,hps⟩:=pkd_all k hk m hm2 fs fun f h=>(hf f h).1
    refine ⟨m,ps,rfl,hm2,rfl,hps,?_⟩
    have hnm:∀ x∈ps,x.1.1.length≤255∧x.2.length≤300000:=fun x hx=>⟨(okName_asc (hf x.1 (List.mem_map.2 ⟨x,hx,rfl⟩)).2).2,(hps x hx).1⟩
    rw [List.length_map] at hl
    have hg:=writeP_go k hk m ps hl (fun x hx=>⟨(hf x.1 (List.mem_map.2 ⟨x,hx,rfl⟩)).1,(hnm x hx).1,(hnm x hx).2,(hps x hx).2⟩) hm2 k 0 [] [] (by omega) (by omega) (by simp;omega) (by simp;omega)
    have ho:=outP_len (meth:=m) ps 0 hnm
    have hd:=dirP_len (meth:=m) ps 0 hnm
    rw [h0,show (!decide (((0:Nat):Int)=0))=false from rfl,bf]
    rw [show g_zip_Write_l0 k ((ps.map (·.1)).map mkF) (m:Int) k 0 [] []=_ from hg,Option.bind_some]
    dsimp only
    rw [List.nil_append,List.nil_append,List.drop_zero,List.length_nil]
    rw [I_length,I_length,dt (show _≤(140737488355328:Nat) by omega),List.length_map,List.length_map,end_eq (by omega) _ _ _ (by omega) (by omega) (by omega),bt,Option.bind_some]
    rw [← I_append,I_length,I_length,List.length_append,end_len,dt (show _≤(140737488355328:Nat) by omega),bt]
    rw [← I_append,List.append_assoc]
    rfl
  · left
    refine ⟨h0,?_⟩
    rw [show (!decide (((chkZ fs meth:Nat):Int)=0))=true by rw [df (by omega)];rfl]
    rfl
theorem outP_zero:∀ (ps:List Zp) (a:Nat),(∀ x∈ps,x.2=x.1.2)→outP 0 a ps=outZ crcN a (ps.map (·.1))∧entsP 0 a ps=entsZ crcN a (ps.map (·.1))
  | [],_,_=>⟨rfl,rfl⟩
  | x::ps,a,h=>by
    have hx:=h x (List.mem_cons_self ..)
    obtain ⟨h1,h2⟩:=outP_zero ps (a+(30+x.1.1.length+x.2.length)) fun y hy=>h y (List.mem_cons_of_mem _ hy)
    have e:entP 0 x a=entZ crcN x.1 a:=by unfold entP entZ;rw [hx]
    rw [outP,entsP,List.map_cons,outZ,entsZ,h1,h2,e,hx]
    exact ⟨rfl,rfl⟩
theorem allP_zero {ps:List Zp} (h:∀ x∈ps,x.2=x.1.2):allP 0 ps=allZ crcN (ps.map (·.1)):=by
  unfold allP allZ
  rw [(outP_zero ps 0 h).1,(outP_zero ps 0 h).2,List.length_map]
theorem rcrc1 (k:Nat):∀ (m i:Nat) (x:BitVec 32),i≤8→8 - i<m→g_quireref01_Crc_l1 k m (x.toNat:Int) (i:Int)=some ((crcIt (8 - i) x).toNat:Int)
  | 0,_,_,_,h=>by omega
  | m+1,i,x,hi,hm=>by
    rw [g_quireref01_Crc_l1.eq_2]
    by_cases h:i<8
    · rw [dt (show (i:Int)<8 by omega),show bits .and .u32 (x.toNat:Int) 1=bits .and .u32 (x.toNat:Int) ((1#32).toNat:Int) from rfl,show (3988292384:Int)=((3988292384#32).toNat:Int) from rfl]
      simp only [cond_true,Option.bind_some,u32_and,u32_shr,u32_xor]
      rw [wi (by omega) (by omega),show (i:Int)+1=((i+1:Nat):Int) from rfl]
      have key:(bif decide (((x &&& 1#32).toNat:Int)=1) then some (((x >>> (1:Int).toNat) ^^^ 3988292384#32).toNat:Int) else some ((x >>> (1:Int).toNat).toNat:Int))=some ((crcStep x).toNat:Int):=by
        rcases one_and x with ⟨h1,_⟩ | ⟨h1,_⟩
        · rw [step0 h1,h1];rfl
        · rw [step1 h1,h1];rfl
      rw [key]
      simp only [Option.bind_some]
      rw [rcrc1 k m (i+1) _ (by omega) (by omega),show 8 - i=(8 - (i+1))+1 by omega]
      rfl
    · rw [df (show ¬ (i:Int)<8 by omega),show 8 - i=0 by omega]
      rfl
theorem rcrc0 (k:Nat) (l:List Int) (hk:9≤k) (hl:l.length≤9223372036854775807):∀ (m i:Nat) (x:BitVec 32),i≤l.length→l.length - i<m→g_quireref01_Crc_l0 k l m (x.toNat:Int) (i:Int)=some ((crcRow (l.drop i) x).toNat:Int)
  | 0,_,_,_,h=>by omega
  | m+1,i,x,hi,hm=>by
    rw [g_quireref01_Crc_l0.eq_2]
    by_cases h:i<l.length
    · rw [dt (show (i:Int)<((l.length:Nat):Int) by omega),ix_nat h]
      simp only [cond_true,Option.bind_some,u32_wrapz,u32_xor]
      rw [show g_quireref01_Crc_l1 k k _ 0=_ from rcrc1 k k 0 _ (by omega) (by omega)]
      simp only [Option.bind_some]
      rw [wi (by omega) (by omega),show (i:Int)+1=((i+1:Nat):Int) from rfl,rcrc0 k l hk hl m (i+1) _ (by omega) (by omega),List.drop_eq_getElem_cons h]
      rfl
    · rw [df (show ¬ (i:Int)<((l.length:Nat):Int) by omega),List.drop_of_length_le (by omega)]
      rfl
theorem crc_ref {k:Nat} {d:List UInt8} (hk:9≤k) (h:d.length<k) (hl:d.length≤1099511627776):g_quireref05_Crc k (I d)=some ((crcN d:Nat):Int):=by
  have hcr:=crcN_lt d
  unfold g_quireref05_Crc g_quireref01_Crc
  rw [show g_quireref01_Crc_l0 k (I d) k 4294967295 0=_ from rcrc0 k (I d) hk (by rw [I_length];omega) k 0 4294967295#32 (by omega) (by rw [I_length];omega)]
  simp only [Option.bind_some,List.drop_zero]
  rw [show (if IntKind.signed .u32 then (-1:Int) else IntKind.max .u32)=((4294967295#32).toNat:Int) from rfl,u32_xor]
  rw [show (4294967295#32 ^^^ crcRow (I d) 4294967295#32).toNat=crcN d from rfl,wi (by omega) (by omega)]
theorem wrap8 (n:Nat):IntKind.wrap .u8 (n:Int)=((UInt8.ofNat n).toNat:Int):=by
  have:IntKind.wrap .u8 (n:Int)=(n:Int)%256:=by simp [IntKind.wrap,IntKind.bits,IntKind.signed]
  rw [this,UInt8.toNat_ofNat'];omega
theorem rnum_go (k:Nat) (v m:Nat) (hv:v<9223372036854775808) (hm:m≤8):∀ (n i:Nat),i≤m→m - i<n →
    g_quireref05_num_l0 k (v:Int) (m:Int) n (i:Int) (I ((zle m v).take i))=some (I (zle m v)):=by
  intro n
  induction n with
  | zero=>intro i _ h;omega
  | succ n ih =>
    intro i hi hn
    rw [g_quireref05_num_l0.eq_2]
    by_cases h:i<m
    · have hl:=zle_len m v
      rw [dt (show (i:Int)<(m:Int) by omega),bt,wi (n:=8*(i:Int)) (by omega) (by omega),wu64 (n:=8*(i:Int)) (by omega) (by omega),Option.bind_some,dt (show (0:Int)≤8*(i:Int) by omega),bt,show 8*(i:Int)=((8*i:Nat):Int) by omega,shr64n (by omega),wrap8,dt (show _≤(140737488355328:Nat) by rw [I_length,List.length_take];simp;omega),bt,wi (by omega) (by omega),show (i:Int)+1=((i+1:Nat):Int) by omega]
      have e:(zle m v).take (i+1)=(zle m v).take i++[UInt8.ofNat (v / 2^(8*i))]:=by
        have h2:=zle_step m v i h
        rw [List.drop_eq_getElem_cons (by omega)] at h2
        have h3:=(List.cons.inj h2).1
        rw [List.take_add_one,List.getElem?_eq_getElem (by omega),h3,show 256^i=2^(8*i) by rw [Nat.pow_mul]]
        rfl
      have:=ih (i+1) (by omega) (by omega)
      rw [e,I_append] at this
      exact this
    · rw [df (show ¬ (i:Int)<(m:Int) by omega),List.take_of_length_le (by rw [zle_len];omega)];rfl
theorem rnum {k:Nat} (hk:10≤k) {x y:Int} (v m:Nat) (hx:x=(v:Int)) (hy:y=(m:Int)) (hv:v<9223372036854775808) (hm:m≤8):g_quireref05_num k x y=some (I (zle m v)):=by
  subst hx hy
  unfold g_quireref05_num
  rw [show g_quireref05_num_l0 k (v:Int) (m:Int) k 0 []=_ from rnum_go k v m hv hm k 0 (by omega) (by omega)]
  rfl
theorem zlen {m v:Nat}:(I (zle m v)).length=m:=by rw [I_length,zle_len]
theorem common_eq {k:Nat} (hk:10≤k) (meth crc packed size a:Nat) (name:List UInt8) (h1:meth<9223372036854775808) (h2:crc<9223372036854775808) (h3:packed<9223372036854775808) (h4:size<9223372036854775808) (h5:name.length<9223372036854775808) :
    g_quireref05_common k meth crc packed size (zB name)=some (I (sumsB ⟨meth,crc,packed,size,name,a⟩)):=by
  unfold g_quireref05_common
  rw [rnum (x:=0) (y:=2) hk 0 2 rfl rfl (by omega) (by omega),Option.bind_some,rnum (x:=((meth:Nat):Int)) (y:=2) hk meth 2 rfl rfl h1 (by omega),Option.bind_some,dt (show _≤(140737488355328:Nat) by rw [zlen,zlen];omega),bt,Option.bind_some,dt (show _≤(140737488355328:Nat) by simp only [List.length_append,zlen];omega),bt]
  rw [rnum (x:=33) (y:=2) hk 33 2 rfl rfl (by omega) (by omega),Option.bind_some,dt (show _≤(140737488355328:Nat) by simp only [List.length_append,zlen];omega),bt]
  rw [rnum (x:=((crc:Nat):Int)) (y:=4) hk crc 4 rfl rfl h2 (by omega),Option.bind_some,dt (show _≤(140737488355328:Nat) by simp only [List.length_append,zlen];omega),bt]
  rw [rnum (x:=((packed:Nat):Int)) (y:=4) hk packed 4 rfl rfl h3 (by omega),Option.bind_some,dt (show _≤(140737488355328:Nat) by simp only [List.length_append,zlen];omega),bt]
  rw [rnum (x:=((size:Nat):Int)) (y:=4) hk size 4 rfl rfl h4 (by omega),Option.bind_some,dt (show _≤(140737488355328:Nat) by simp only [List.length_append,zlen];omega),bt]
  rw [zB_size,rnum (x:=((name.length:Nat):Int)) (y:=2) hk name.length 2 rfl rfl h5 (by omega),Option.bind_some,dt (show _≤(140737488355328:Nat) by simp only [List.length_append,zlen];omega),bt]
  simp only [List.append_assoc,← I_append,sumsB]
theorem sumsI_len (e:Ent):(I (sumsB e)).length=22:=by rw [I_length,sums_len]
theorem rlocal {k:Nat} (hk:10≤k) (meth crc packed size a:Nat) (name:List UInt8) (h1:meth<9223372036854775808) (h2:crc<9223372036854775808) (h3:packed<9223372036854775808) (h4:size<9223372036854775808) (h5:name.length<1073741824) :
    g_quireref05_Local k meth crc packed size (zB name)=some (I (localB ⟨meth,crc,packed,size,name,a⟩)):=by
  unfold g_quireref05_Local
  rw [rnum (x:=20) (y:=2) hk 20 2 rfl rfl (by omega) (by omega),Option.bind_some,dt (show _≤(140737488355328:Nat) by simp only [List.length_append,zlen,List.length_cons,List.length_nil];omega),bt]
  rw [common_eq hk meth crc packed size a name h1 h2 h3 h4 (by omega),Option.bind_some,dt (show _≤(140737488355328:Nat) by simp only [List.length_append,zlen,sumsI_len,List.length_cons,List.length_nil];omega),bt]
  rw [rnum (x:=0) (y:=2) hk 0 2 rfl rfl (by omega) (by omega),Option.bind_some,dt (show _≤(140737488355328:Nat) by simp only [List.length_append,zlen,sumsI_len,List.length_cons,List.length_nil];omega),bt]
  rw [zstrInts,dt (show _≤(140737488355328:Nat) by simp only [List.length_append,I_length,zle_len,sums_len,List.length_cons,List.length_nil];omega),bt]
  simp only [List.append_assoc,← I_append,localB]
  rw [I_append];rfl
theorem rcentral {k:Nat} (hk:10≤k) (meth crc packed size a:Nat) (name:List UInt8) (h1:meth<9223372036854775808) (h2:crc<9223372036854775808) (h3:packed<9223372036854775808) (h4:size<9223372036854775808) (h5:name.length<1073741824) (h6:a<9223372036854775808) :
    g_quireref05_Central k meth crc packed size (zB name) (a:Int)=some (I (centralB ⟨meth,crc,packed,size,name,a⟩)):=by
  unfold g_quireref05_Central
  rw [rnum (x:=20) (y:=2) hk 20 2 rfl rfl (by omega) (by omega),Option.bind_some,dt (show _≤(140737488355328:Nat) by simp only [List.length_append,zlen,List.length_cons,List.length_nil];omega),bt,Option.bind_some,dt (show _≤(140737488355328:Nat) by simp only [List.length_append,zlen,List.length_cons,List.length_nil];omega),bt]
  rw [common_eq hk meth crc packed size a name h1 h2 h3 h4 (by omega),Option.bind_some,dt (show _≤(140737488355328:Nat) by simp only [List.length_append,zlen,sumsI_len,List.length_cons,List.length_nil];omega),bt]
  rw [rnum (x:=0) (y:=8) hk 0 8 rfl rfl (by omega) (by omega),Option.bind_some,dt (show _≤(140737488355328:Nat) by simp only [List.length_append,zlen,sumsI_len,List.length_cons,List.length_nil];omega),bt]
  rw [rnum (x:=0) (y:=4) hk 0 4 rfl rfl (by omega) (by omega),Option.bind_some,dt (show _≤(140737488355328:Nat) by simp only [List.length_append,zlen,sumsI_len,List.length_cons,List.length_nil];omega),bt]
  rw [rnum (x:=((a:Nat):Int)) (y:=4) hk a 4 rfl rfl h6 (by omega),Option.bind_some,dt (show _≤(140737488355328:Nat) by simp only [List.length_append,zlen,sumsI_len,List.length_cons,List.length_nil];omega),bt]
  rw [zstrInts,dt (show _≤(140737488355328:Nat) by simp only [List.length_append,I_length,zle_len,sums_len,List.length_cons,List.length_nil];omega),bt]
  simp only [List.append_assoc,← I_append,centralB,show zle 8 0=zle 2 0++(zle 2 0++(zle 2 0++zle 2 0)) from rfl]
  rw [I_append];rfl
theorem rend {k:Nat} (hk:10≤k) (many size a:Nat) (h1:many<9223372036854775808) (h2:size<9223372036854775808) (h3:a<9223372036854775808) :
    g_quireref05_End k many size a=some (I (endB many size a)):=by
  unfold g_quireref05_End
  rw [rnum (x:=0) (y:=4) hk 0 4 rfl rfl (by omega) (by omega),Option.bind_some,dt (show _≤(140737488355328:Nat) by simp only [List.length_append,zlen,List.length_cons,List.length_nil];omega),bt]
  rw [rnum (x:=((many:Nat):Int)) (y:=2) hk many 2 rfl rfl h1 (by omega),Option.bind_some,dt (show _≤(140737488355328:Nat) by simp only [List.length_append,zlen,List.length_cons,List.length_nil];omega),bt,Option.bind_some,dt (show _≤(140737488355328:Nat) by simp only [List.length_append,zlen,List.length_cons,List.length_nil];omega),bt]
  rw [rnum (x:=((size:Nat):Int)) (y:=4) hk size 4 rfl rfl h2 (by omega),Option.bind_some,dt (show _≤(140737488355328:Nat) by simp only [List.length_append,zlen,List.length_cons,List.length_nil];omega),bt]
  rw [rnum (x:=((a:Nat):Int)) (y:=4) hk a 4 rfl rfl h3 (by omega),Option.bind_some,dt (show _≤(140737488355328:Nat) by simp only [List.length_append,zlen,List.length_cons,List.length_nil];omega),bt]
  rw [rnum (x:=0) (y:=2) hk 0 2 rfl rfl (by omega) (by omega),Option.bind_some,dt (show _≤(140737488355328:Nat) by simp only [List.length_append,zlen,List.length_cons,List.length_nil];omega),bt]
  simp only [List.append_assoc,← I_append,endB,show zle 4 0=zle 2 0++zle 2 0 from rfl]
  rw [I_append];rfl
theorem outZ_lenW:∀ (fs:List Zf) (a:Nat),(∀ f∈fs,f.2.length≤262144∧f.1.length≤255)→(outZ crcN a fs).length≤fs.length*263000
  | [],_,_=>by simp [outZ]
  | f::fs,a,h=>by
    have:=outZ_lenW fs (a+(30+f.1.length+f.2.length)) (fun x hx=>h x (List.mem_cons_of_mem _ hx))
    have hf:=h f (List.mem_cons_self ..)
    rw [outZ,List.length_append,List.length_append,local_len,List.length_cons]
    simp only [entZ]
    omega
theorem dirZ_lenW:∀ (fs:List Zf) (a:Nat),(∀ f∈fs,f.2.length≤262144∧f.1.length≤255)→(dirZ (entsZ crcN a fs)).length≤fs.length*400
  | [],_,_=>by simp [dirZ,entsZ]
  | f::fs,a,h=>by
    have:=dirZ_lenW fs (a+(30+f.1.length+f.2.length)) (fun x hx=>h x (List.mem_cons_of_mem _ hx))
    have hf:=h f (List.mem_cons_self ..)
    rw [entsZ,dirZ,List.flatMap_cons,List.length_append,central_len,List.length_cons]
    simp only [entZ]
    simp only [dirZ] at this
    omega
theorem stored_go (k:Nat) (hk:300000≤k) (fs:List Zf) (hl:fs.length≤64) (hok:∀ f∈fs,f.2.length≤262144∧f.1.length≤255):∀ (n i:Nat) (O D:List UInt8),i≤fs.length→fs.length - i<n→O.length+(fs.length - i)*263000≤20000000→D.length+(fs.length - i)*400≤20000000 →
    g_quireref05_Stored_l0 k (fs.map mkF) n (i:Int) (I O) (I D)=some (I (O++outZ crcN O.length (fs.drop i)),I (D++dirZ (entsZ crcN O.length (fs.drop i)))):=by
  intro n
  induction n with
  | zero=>intro i O D _ h;omega
  | succ n ih =>
    intro i O D hi hn hO hD
    rw [g_quireref05_Stored_l0.eq_2,List.length_map]
    by_cases h:i<fs.length
    · have hf:=hok fs[i] (List.getElem_mem h)
      have hcr:=crcN_lt fs[i].2
      obtain ⟨q,hq⟩:∃ q,fs.length - i=q+1:=⟨fs.length - i - 1,by omega⟩
      rw [hq] at hO hD
      rw [dt (show (i:Int)<((fs.length:Nat):Int) by omega),ixM h]
      rw [Option.bind_some,bt,Option.bind_some,Option.bind_some,Option.bind_some,Option.bind_some,show (mkF fs[i]).fData=I fs[i].2 from rfl,show (mkF fs[i]).fName=zB fs[i].1 from rfl,crc_ref (by omega) (by omega) (by omega),Option.bind_some,Option.bind_some]
      rw [I_length,I_length]
      have hc:=rcentral (k:=k) (by omega) 0 (crcN fs[i].2) fs[i].2.length fs[i].2.length O.length fs[i].1 (by omega) (by omega) (by omega) (by omega) (by omega) (by omega)
      have hlo:=rlocal (k:=k) (by omega) 0 (crcN fs[i].2) fs[i].2.length fs[i].2.length O.length fs[i].1 (by omega) (by omega) (by omega) (by omega) (by omega)
      dsimp only
      rw [show g_quireref05_Central k 0 _ _ _ _ _=_ from hc,Option.bind_some]
      have e1:(centralB ⟨0,crcN fs[i].2,fs[i].2.length,fs[i].2.length,fs[i].1,O.length⟩).length=46+fs[i].1.length:=central_len _
      have e2:(localB ⟨0,crcN fs[i].2,fs[i].2.length,fs[i].2.length,fs[i].1,O.length⟩).length=30+fs[i].1.length:=local_len _
      rw [dt (show _≤(140737488355328:Nat) by rw [I_length,I_length,e1];omega),bt,Option.bind_some,show g_quireref05_Local k 0 _ _ _ _=_ from hlo,Option.bind_some]
      rw [dt (show _≤(140737488355328:Nat) by rw [I_length,e2];omega),bt,show (mkF fs[i]).fData=I fs[i].2 from rfl,dt (show _≤(140737488355328:Nat) by rw [List.length_append,I_length,I_length,I_length,e2];omega),bt]
      rw [wi (by omega) (by omega),show ((i:Int)+1)=((i+1:Nat):Int) by omega,← I_append,← I_append,← I_append,ih (i+1) _ _ (by omega) (by omega) (by rw [List.length_append,List.length_append,e2,show fs.length - (i+1)=q by omega];omega) (by rw [List.length_append,e1,show fs.length - (i+1)=q by omega];omega)]
      rw [List.drop_eq_getElem_cons h,outZ,entsZ,List.length_append,List.length_append,e2]
      rw [show O.length+(30+fs[i].1.length)+fs[i].2.length=O.length+(30+fs[i].1.length+fs[i].2.length) by omega]
      simp only [dirZ,List.flatMap_cons,List.append_assoc]
      rfl
    · rw [df (show ¬ (i:Int)<((fs.length:Nat):Int) by omega),List.drop_of_length_le (l:=fs) (by omega)]
      simp [outZ,entsZ,dirZ]
theorem stored_eq (k:Nat) (hk:300000≤k) (fs:List Zf) (hl:fs.length≤64) (hok:∀ f∈fs,f.2.length≤262144∧f.1.length≤255):g_quireref05_Stored k (fs.map mkF)=some (I (allZ crcN fs)):=by
  unfold g_quireref05_Stored
  have hg:=stored_go k hk fs hl hok k 0 [] [] (by omega) (by omega) (by simp;omega) (by simp;omega)
  have ho:=outZ_lenW fs 0 hok
  have hd:=dirZ_lenW fs 0 hok
  rw [show g_quireref05_Stored_l0 k (fs.map mkF) k 0 [] []=_ from hg,Option.bind_some]
  dsimp only
  rw [List.nil_append,List.nil_append,List.drop_zero,List.length_nil]
  rw [I_length,I_length,dt (show _≤(140737488355328:Nat) by omega),bt,List.length_map,rend (by omega) _ _ _ (by omega) (by omega) (by omega),Option.bind_some]
  rw [← I_append,I_length,I_length,List.length_append,end_len,dt (show _≤(140737488355328:Nat) by omega),bt]
  rw [← I_append,List.append_assoc]
  rfl
def lowU (c:UInt8):UInt8:=UInt8.ofNat (lowN c.toNat)
theorem lowN_lt {n:Nat} (h:n<256):lowN n<256:=by unfold lowN;split <;> omega
theorem lowU_nat (c:UInt8):(lowU c).toNat=lowN c.toNat:=by
  have:=lowN_lt c.toNat_lt
  unfold lowU;rw [UInt8.toNat_ofNat'];omega
theorem low_go (k:Nat) (a:List UInt8) (ha:a.length≤255):∀ (n i:Nat),i≤a.length→a.length - i<n →
    g_quireref05_low_l0 k (zB a) n (i:Int) (I ((a.take i).map lowU))=some (I (a.map lowU)):=by
  intro n
  induction n with
  | zero=>intro i _ h;omega
  | succ n ih =>
    intro i hi hn
    rw [g_quireref05_low_l0.eq_2,zB_size]
    by_cases h:i<a.length
    · rw [dt (show (i:Int)<((a.length:Nat):Int) by omega),Option.bind_some,bt,zstrInts,ixI h,Option.bind_some]
      have hc:=a[i].toNat_lt
      have key:(((((bif (decide (65≤(a[i].toNat:Int))) then some (decide ((a[i].toNat:Int)≤90)) else some false):Option Bool).bind fun x15012=>(bif x15012 then some (IntKind.wrap .u8 ((a[i].toNat:Int)+32)) else some (a[i].toNat:Int))):Option Int))=some ((lowU a[i]).toNat:Int):=by
        rw [lowU_nat]
        by_cases h1:65≤a[i].toNat
        · rw [dt (show (65:Int)≤(a[i].toNat:Int) by omega)]
          by_cases h2:a[i].toNat≤90
          · rw [dt (show (a[i].toNat:Int)≤90 by omega),wu8 (by omega) (by omega),lowN,if_pos ⟨h1,h2⟩];rfl
          · rw [df (show ¬ (a[i].toNat:Int)≤90 by omega),lowN,if_neg (by omega)];rfl
        · rw [df (show ¬ (65:Int)≤(a[i].toNat:Int) by omega),lowN,if_neg (by omega)];rfl
      rw [key,Option.bind_some,dt (show _≤(140737488355328:Nat) by rw [I_length,List.length_map,List.length_take];simp;omega),bt,wi (by omega) (by omega),show (i:Int)+1=((i+1:Nat):Int) by omega]
      have:=ih (i+1) (by omega) (by omega)
      rw [List.take_add_one,List.getElem?_eq_getElem h,Option.toList_some,List.map_append,I_append] at this
      exact this
    · rw [df (show ¬ (i:Int)<((a.length:Nat):Int) by omega),List.take_of_length_le (by omega)];rfl
theorem low_eq {k:Nat} (hk:300≤k) {a:List UInt8} (ha:a.length≤255):g_quireref05_low k (zB a)=some (zB (a.map lowU)):=by
  unfold g_quireref05_low
  rw [show g_quireref05_low_l0 k (zB a) k 0 []=_ from low_go k a ha k 0 (by omega) (by omega),Option.bind_some,zstrOf]
theorem rlike {k:Nat} (hk:300≤k) {a b:List UInt8} (ha:a.length≤255) (hb:b.length≤255):g_quireref05_Like k (zB a) (zB b)=some (likeZ a b):=by
  unfold g_quireref05_Like
  rw [low_eq hk ha,low_eq hk hb,Option.bind_some,Option.bind_some,L_toList,L_toList,L_zB,L_zB]
  congr 1
  unfold likeZ
  rw [Bool.eq_iff_iff,beq_iff_eq,decide_eq_true_iff]
  constructor
  · intro h
    have:=congrArg (List.map UInt8.toNat) h
    rw [List.map_map,List.map_map] at this
    simpa only [Function.comp_def,lowU_nat] using this
  · intro h
    have:=congrArg (List.map UInt8.ofNat) h
    rw [List.map_map,List.map_map] at this
    exact this
theorem rchk0 (k:Nat) (fs:List Zf) (hl:fs.length≤64):∀ (n i:Nat),i≤fs.length→fs.length - i<n →
    g_quireref05_Check_l0 k (fs.map mkF) n (i:Int)=some (if (fs.drop i).any (fun f=>decide (f.2.length > 262144)) then Sum.inl () else Sum.inr ()):=by
  intro n
  induction n with
  | zero=>intro i _ h;omega
  | succ n ih =>
    intro i hi hn
    rw [g_quireref05_Check_l0.eq_2,List.length_map]
    by_cases h:i<fs.length
    · rw [dt (show (i:Int)<((fs.length:Nat):Int) by omega),ixM h,List.drop_eq_getElem_cons h,List.any_cons]
      simp only [bt,Option.bind_some]
      rw [show (mkF fs[i]).fData=I fs[i].2 from rfl,I_length]
      by_cases hc:fs[i].2.length > 262144
      · rw [dt (by omega),dt hc];rfl
      · rw [df (by omega),df hc,Bool.false_or]
        simp only [bf]
        rw [wi (by omega) (by omega),show ((i:Int)+1)=((i+1:Nat):Int) by omega,ih (i+1) (by omega) (by omega)]
    · rw [df (show ¬ (i:Int)<((fs.length:Nat):Int) by omega),List.drop_of_length_le (by omega)];rfl
theorem rchk1 (k:Nat) (hk:300≤k) (fs:List Zf) (hl:fs.length≤64):∀ (n i:Nat),i≤fs.length→fs.length - i<n →
    g_quireref05_Check_l1 k (fs.map mkF) n (i:Int)=some (if (fs.drop i).any (fun f=>!okName f.1) then Sum.inl () else Sum.inr ()):=by
  intro n
  induction n with
  | zero=>intro i _ h;omega
  | succ n ih =>
    intro i hi hn
    rw [g_quireref05_Check_l1.eq_2,List.length_map]
    by_cases h:i<fs.length
    · rw [dt (show (i:Int)<((fs.length:Nat):Int) by omega),ixM h,List.drop_eq_getElem_cons h,List.any_cons]
      simp only [bt,Option.bind_some]
      rw [show (mkF fs[i]).fName=zB fs[i].1 from rfl,ref_right k _ hk,L_zB]
      simp only [Option.bind_some]
      cases hc:okName fs[i].1 with
      | false=>rfl
      | true =>
        simp only [Bool.not_true,bf,Bool.false_or]
        rw [wi (by omega) (by omega),show ((i:Int)+1)=((i+1:Nat):Int) by omega,ih (i+1) (by omega) (by omega)]
    · rw [df (show ¬ (i:Int)<((fs.length:Nat):Int) by omega),List.drop_of_length_le (by omega)];rfl
theorem rchk3 (k:Nat) (hk:300≤k) (fs:List Zf) (hl:fs.length≤64) (hok:∀ f∈fs,okName f.1=true) (i:Nat) (hi:i<fs.length):∀ (n j:Nat),j≤i→i - j<n →
    g_quireref05_Check_l3 k (fs.map mkF) (i:Int) n (j:Int)=some (if (((fs.take i).drop j).map (·.1)).any (likeZ fs[i].1) then Sum.inl () else Sum.inr ()):=by
  intro n
  induction n with
  | zero=>intro j _ h;omega
  | succ n ih =>
    intro j hj hn
    rw [g_quireref05_Check_l3.eq_2]
    have htl:(fs.take i).length=i:=by rw [List.length_take];omega
    by_cases h:j<i
    · have hj2:j<(fs.take i).length:=by omega
      have hj3:j<fs.length:=by omega
      rw [dt (show (j:Int)<(i:Int) by omega),ixM hi,ixM hj3,List.drop_eq_getElem_cons hj2,List.map_cons,List.any_cons,List.getElem_take]
      simp only [bt,Option.bind_some]
      have hf:=okName_asc (hok _ (List.getElem_mem hi))
      have hg:=okName_asc (hok _ (List.getElem_mem hj3))
      rw [show (mkF fs[i]).fName=zB fs[i].1 from rfl,show (mkF fs[j]).fName=zB fs[j].1 from rfl,rlike hk hf.2 hg.2]
      simp only [Option.bind_some]
      cases hc:likeZ fs[i].1 fs[j].1 with
      | true=>rfl
      | false =>
        simp only [bf,Bool.false_or]
        rw [wi (by omega) (by omega),show ((j:Int)+1)=((j+1:Nat):Int) by omega,ih (j+1) (by omega) (by omega)]
    · rw [df (show ¬ (j:Int)<(i:Int) by omega),List.drop_of_length_le (by omega)];rfl
theorem rchk2 (k:Nat) (hk:300≤k) (fs:List Zf) (hl:fs.length≤64) (hok:∀ f∈fs,okName f.1=true):∀ (n i:Nat),i≤fs.length→fs.length - i<n →
    g_quireref05_Check_l2 k (fs.map mkF) n (i:Int)=some (if twiceZ ((fs.take i).map (·.1)) ((fs.drop i).map (·.1)) then Sum.inl () else Sum.inr ()):=by
  intro n
  induction n with
  | zero=>intro i _ h;omega
  | succ n ih =>
    intro i hi hn
    rw [g_quireref05_Check_l2.eq_2,List.length_map]
    by_cases h:i<fs.length
    · rw [dt (show (i:Int)<((fs.length:Nat):Int) by omega)]
      simp only [bt,Option.bind_some]
      rw [show g_quireref05_Check_l3 k (fs.map mkF) (i:Int) k 0=_ from rchk3 k hk fs hl hok i h k 0 (by omega) (by omega)]
      simp only [Option.bind_some,List.drop_zero]
      rw [List.drop_eq_getElem_cons h,List.map_cons,twiceZ]
      cases hc:((fs.take i).map (·.1)).any (likeZ fs[i].1) with
      | true=>rfl
      | false =>
        simp only [if_false,Bool.false_or,Bool.false_eq_true]
        rw [wi (by omega) (by omega),show ((i:Int)+1)=((i+1:Nat):Int) by omega,ih (i+1) (by omega) (by omega),List.take_add_one,List.getElem?_eq_getElem h,Option.toList_some,List.map_append]
        rfl
    · rw [df (show ¬ (i:Int)<((fs.length:Nat):Int) by omega),List.drop_of_length_le (l:=fs) (by omega)];rfl
theorem rcheck_eq {k:Nat} (hk:300≤k) (fs:List Zf) (meth:Int):g_quireref05_Check k (fs.map mkF) meth=some ((chkZ fs meth:Nat):Int):=by
  unfold g_quireref05_Check chkZ
  rw [List.length_map]
  have e:((bif (!decide (meth=0)) then some (!decide (meth=8)) else some false):Option Bool)=some (decide (meth≠0∧meth≠8)):=by
    by_cases h0:meth=0
    · simp [h0]
    · simp [h0]
  rw [e]
  simp only [Option.bind_some]
  by_cases h0:meth≠0∧meth≠8
  · rw [dt h0,if_pos h0];rfl
  rw [df h0,if_neg h0]
  simp only [bf]
  by_cases h1:fs.length > 64
  · rw [dt (by omega),if_pos h1];rfl
  rw [df (by omega),if_neg h1]
  simp only [bf]
  rw [show g_quireref05_Check_l0 k (fs.map mkF) k 0=_ from rchk0 k fs (by omega) k 0 (by omega) (by omega),List.drop_zero]
  simp only [Option.bind_some]
  cases h2:fs.any (fun f=>decide (f.2.length > 262144)) with
  | true=>rfl
  | false =>
    simp only [if_false,Bool.false_eq_true]
    rw [show g_quireref05_Check_l1 k (fs.map mkF) k 0=_ from rchk1 k hk fs (by omega) k 0 (by omega) (by omega),List.drop_zero]
    simp only [Option.bind_some]
    cases h3:fs.any (fun f=>!okName f.1) with
    | true=>rfl
    | false =>
      simp only [if_false,Bool.false_eq_true]
      have hok:∀ f∈fs,okName f.1=true:=fun f hf=>by
        have:=(List.any_eq_false.1 h3) f hf
        simpa using this
      rw [show g_quireref05_Check_l2 k (fs.map mkF) k 0=_ from rchk2 k hk fs (by omega) hok k 0 (by omega) (by omega),List.drop_zero,List.take_zero]
      simp only [Option.bind_some,List.map_nil]
      cases twiceZ [] (fs.map (·.1)) <;> rfl
theorem u8wfW {n:Int} (h:(Lit.int .u8 n).wf=true):0≤n∧n≤255:=by
  simp only [Lit.wf,IntKind.min,IntKind.max,IntKind.signed,IntKind.bits,Bool.and_eq_true,decide_eq_true_eq] at h
  simpa using h
theorem asW {l:List S_api_File} (hl:∀ x∈l,(x.fName.size≤maxLen)∧(x.fData.length≤maxLen∧∀ y∈x.fData,(Lit.int .u8 y).wf=true)∧True):∃ fs:List Zf,l=fs.map mkF:=by
  refine ⟨l.map fun x=>(L x.fName,unW x.fData),?_⟩
  rw [List.map_map]
  conv=>lhs;rw [← List.map_id l]
  refine List.map_congr_left fun x hx=>?_
  have h:=(hl x hx).2.1.2
  cases x with
  | mk nm d =>
    show (⟨nm,d⟩:S_api_File)=⟨zB (L nm),I (unW d)⟩
    rw [zB_L,I_unW fun y hy=>u8wfW (h y hy)]
theorem zipWrites (l:List S_api_File) (meth:Int) (hl:l.length≤maxLen∧∀ x∈l,(x.fName.size≤maxLen)∧(x.fData.length≤maxLen∧∀ y∈x.fData,(Lit.int .u8 y).wf=true)∧True) (hm:(Lit.int .i64 meth).wf=true) :
    ∃ k,g_quirelaw05_ZipWrites k l meth=some true:=by
  obtain ⟨fs,rfl⟩:=asW hl.2
  generalize hk:(2000000:Nat)=q
  refine ⟨q+300,?_⟩
  have hal:=aliveZ q
  generalize hkk:q+300=k at *
  have hk2:2000000≤k:=by omega
  unfold g_quirelaw05_ZipWrites
  rw [hal,rcheck_eq (by omega) fs meth]
  rcases writeP_eq k hk2 fs meth with ⟨h0,hw⟩ | ⟨h0,m,ps,rfl,hm2,rfl,hps,hw⟩
  · rw [hw,Option.bind_some]
    dsimp only
    rw [Option.bind_some,dt rfl,show (!decide (((chkZ fs meth:Nat):Int)=0))=true by rw [df (by omega)];rfl]
    rfl
  · obtain ⟨_,hl64,hf⟩:=chk_zero h0
    rw [hw,Option.bind_some]
    dsimp only
    rw [Option.bind_some,h0]
    rw [show (!decide ((0:Int)=((0:Nat):Int)))=false from rfl,show (!decide (((0:Nat):Int)=0))=false from rfl,bf,bf,Option.bind_some,bf,bf]
    rcases hm2 with rfl | rfl
    · rw [show (!decide (((0:Nat):Int)=0))=false from rfl,bf,stored_eq k (by omega) (ps.map (·.1)) hl64 (fun f hfm=>⟨(hf f hfm).1,(okName_asc (hf f hfm).2).2⟩),Option.bind_some]
      have e:allP 0 ps=allZ crcN (ps.map (·.1)):=allP_zero fun x hx=>by
        rcases (hps x hx).2 with ⟨_,e⟩ | ⟨e,_⟩
        · exact e
        · cases e
      rw [e]
      unfold g_quirelaw01_Same
      rw [Option.bind_some,beq_self_eq_true]
      rfl
    · rw [show (!decide (((8:Nat):Int)=0))=true from rfl]
      rfl
end Go.Proofs.YtaphblcbnhnpaaaGreatDoor.W
