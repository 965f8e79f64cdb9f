/- Texts joined: part 4 of what LZipTurned stands on. -/
import Derived.Test.YtaphblcbnhnpaaaGreatDoorSZipTurnedc
namespace Go.Proofs.YtaphblcbnhnpaaaGreatDoor.W
open Go Go.Q Go.Proofs
set_option linter.unusedVariables false
set_option linter.unusedSimpArgs false
def noInf:List UInt8→Nat→Option (List UInt8 × Nat):=fun _ _=>none
theorem read1 (k:Nat) (hk:300≤k) (es:List Ent) (hl:es.length≤64) (i:Nat) (hi:i≤es.length) (hok:∀ f∈es.take i,okName f.name=true) (e:Ent) (he:okName e.name=true):∀ (n j:Nat),j≤i→i - j<n →
    g_zip_Read_l1 k (es.map mkE) (i:Int) (mkE e) (i:Int) n (j:Int)=some (if (((es.take i).drop j).map (·.name)).any (likeZ e.name) then Sum.inl () else Sum.inr ()):=by
  intro n
  induction n with
  | zero=>intro j _ h;omega
  | succ n ih =>
    intro j hj hn
    rw [g_zip_Read_l1.eq_2,Int.toNat_natCast,show Int.toNat 0=0 from rfl,List.drop_zero,← List.map_take]
    have htl:(es.take i).length=i:=by rw [List.length_take];omega
    by_cases h:j<i
    · have hj2:j<(es.take i).length:=by omega
      rw [dt (show (j:Int)<(i:Int) by omega),ixM hj2,List.drop_eq_getElem_cons hj2,List.map_cons,List.any_cons]
      simp only [bt,Option.bind_some]
      have hg:okName (es.take i)[j].name=true:=hok _ (List.getElem_mem hj2)
      rw [show (mkE e).fname=zB e.name from rfl,show (mkE (es.take i)[j]).fname=zB (es.take i)[j].name from rfl,fold_eq (okName_asc he).1 (okName_asc hg).1 (okName_asc he).2 (okName_asc hg).2 hk]
      simp only [Option.bind_some]
      cases hc:likeZ e.name (es.take i)[j].name with
      | true=>rfl
      | false =>
        simp only [bf,Bool.false_or]
        rw [wi (by omega) (by omega),show ((j:Int)+1)=((j+1:Nat):Int) by omega,ih (j+1) (by omega) (by omega)]
    · rw [df (show ¬ (j:Int)<(i:Int) by omega),List.drop_of_length_le (l:=es.take i) (by omega)];rfl
theorem unp_eq {k:Nat} (hk:2000000≤k) (e:Ent) (he:e.ok) (nm:ByteArray) (d:List UInt8) (hd:d.length≤1048576) :
    g_zip_entry_unpacked k (e.meth:Int) (e.crc:Int) (e.packed:Int) (e.size:Int) nm (e.at_:Int) (I d)=(unpZ crcN noInf e d).map fun x=>(I x.1,(x.2:Int)):=by
  unfold g_zip_entry_unpacked unpZ
  rw [zstrOf,zB_size,zstrInts,dt (show d.length≤140737488355328 by omega)]
  simp only [bt]
  by_cases h0:e.meth=0∧e.packed≠e.size
  · rw [if_pos h0,dt (show (e.meth:Int)=0 by omega),df (show ¬ (e.packed:Int)=(e.size:Int) by omega)];rfl
  rw [if_neg h0]
  have e1:((bif (decide ((e.meth:Int)=0)) then some (!decide ((e.packed:Int)=(e.size:Int))) else some false):Option Bool)=some false:=by
    by_cases hm:e.meth=0
    · have:e.packed=e.size:=Decidable.byContradiction fun h=>h0 ⟨hm,h⟩
      rw [dt (show (e.meth:Int)=0 by omega),dt (show (e.packed:Int)=(e.size:Int) by omega)];rfl
    · rw [df (show ¬ (e.meth:Int)=0 by omega)];rfl
  rw [e1]
  simp only [Option.bind_some,bf]
  by_cases h8:e.meth=8
  · rw [if_pos h8,dt (show (e.meth:Int)=8 by omega)];rfl
  rw [if_neg h8,df (show ¬ (e.meth:Int)=8 by omega),crc_prog (by omega) (by omega) (by omega)]
  have hcr:=crcN_lt d
  simp only [bf,Option.bind_some]
  rw [wi (by omega) (by omega)]
  by_cases hc:crcN d=e.crc
  · rw [dt (show ((crcN d:Nat):Int)=(e.crc:Int) by omega)]
    simp [hc]
  · rw [df (show ¬ ((crcN d:Nat):Int)=(e.crc:Int) by omega)]
    simp [hc,I]
def resR:Nat ⊕ (Nat × List Zf)→Int ⊕ (Int × List S_api_File)
  | .inl e=>.inl (e:Int)
  | .inr (a,acc)=>.inr ((a:Int),acc.map mkF)
theorem read_bad {k:Nat} (hk:300≤k) (b:List UInt8) (e:Ent) (a:Nat) (o1:e.meth<65536) (o2:e.crc<4294967296) (o3:e.packed<4294967296) (o4:e.size<4294967296) (o5:e.name.length<65536) (hab:a≤b.length) :
    ((bif (!decide ((mkE e).fmethod=0)) then (bif (!decide ((mkE e).fmethod=8)) then some true else (bif (!decide ((mkE e).fat=(a:Int))) then some true else (bif (decide (0≤((a:Int):Int)∧((a:Int):Int)≤((List.length (I b):Nat):Int)∧((List.length (I b):Nat):Int)≤((List.length (I b):Nat):Int))) then ((g_zip_local k (mkE e).fmethod (mkE e).fcrc (mkE e).fpacked (mkE e).fsize (zB e.name) (mkE e).fat).bind fun x10327=>((g_zip_begins k (List.drop (Int.toNat (a:Int)) (List.take (Int.toNat ((List.length (I b):Nat):Int)) (I b))) x10327).bind fun x10329=>some (!x10329))) else none))) else (bif (!decide ((mkE e).fat=(a:Int))) then some true else (bif (decide (0≤((a:Int):Int)∧((a:Int):Int)≤((List.length (I b):Nat):Int)∧((List.length (I b):Nat):Int)≤((List.length (I b):Nat):Int))) then ((g_zip_local k (mkE e).fmethod (mkE e).fcrc (mkE e).fpacked (mkE e).fsize (zB e.name) (mkE e).fat).bind fun x10333=>((g_zip_begins k (List.drop (Int.toNat (a:Int)) (List.take (Int.toNat ((List.length (I b):Nat):Int)) (I b))) x10333).bind fun x10335=>some (!x10335))) else none))):Option Bool)=some (decide ((e.meth≠0∧e.meth≠8)∨e.at_≠a∨¬ localB e <+: b.drop a)):=by
  have hlo:=local_eq (k:=k) (by omega) e.meth e.crc e.packed e.size e.at_ (zB e.name) (e.at_:Int) (by omega) (by omega) (by omega) (by omega) (by rw [zB_size];omega)
  rw [L_zB] at hlo
  have hlo':g_zip_local k (mkE e).fmethod (mkE e).fcrc (mkE e).fpacked (mkE e).fsize (zB e.name) (mkE e).fat=some (I (localB e)):=hlo
  rw [hlo',I_length,dt (show (0:Int)≤(a:Int)∧(a:Int)≤((b.length:Nat):Int)∧((b.length:Nat):Int)≤((b.length:Nat):Int) by omega),Int.toNat_natCast,Int.toNat_natCast,List.take_of_length_le (l:=I b) (by rw [I_length];omega),I_drop]
  simp only [Option.bind_some,begins_eq,bt]
  rw [show (mkE e).fmethod=(e.meth:Int) from rfl,show (mkE e).fat=(e.at_:Int) from rfl]
  by_cases m0:e.meth=0 <;> by_cases m8:e.meth=8 <;> by_cases ma:e.at_=a <;> by_cases mp:localB e <+: b.drop a
  all_goals (first | (exfalso;omega) | skip)
  all_goals simp only [m0,m8,ma,mp,decide_true,decide_false,Bool.not_true,Bool.not_false,bt,bf,ne_eq,not_true_eq_false,not_false_eq_true,false_and,and_false,true_and,false_or,true_or,or_true,or_false,or_self,and_self,show ((0:Nat):Int)=0 from rfl,show ((8:Nat):Int)=8 from rfl,Int.natCast_eq_zero,Int.ofNat_inj,show decide ((8:Int)=0)=false from rfl,show (8:Nat)=0↔False from by decide]
  all_goals (try (rw [show decide ((e.meth:Int)=8)=false from df (by omega)];simp))
  all_goals (try simp_all)
theorem read_go (k:Nat) (hk:2000000≤k) (b:List UInt8) (hb:b.length≤1048576) (dir:Nat) (hdir:dir≤b.length) (es:List Ent) (hl:es.length≤64) (heo:∀ e∈es,e.ok):∀ (n i:Nat) (most a:Nat) (acc:List Zf),i≤es.length→es.length - i<n→most≤1073741824→a≤dir→acc.length≤i→(∀ f∈es.take i,okName f.name=true) →
    g_zip_Read_l0 k (I b) (es.map mkE) (dir:Int) n (most:Int) (a:Int) (i:Int) (acc.map mkF)=(rdZ crcN okName noInf likeZ b dir (es.drop i) ((es.take i).map (·.name)) most a acc).map resR:=by
  intro n
  induction n with
  | zero=>intro i most a acc _ h;omega
  | succ n ih =>
    intro i most a acc hi hn hmost ha hacc hnm
    rw [g_zip_Read_l0.eq_2,List.length_map]
    by_cases h:i<es.length
    · rw [List.drop_eq_getElem_cons h,dt (show (i:Int)<((es.length:Nat):Int) by omega),ixM h]
      have heok:=heo es[i] (List.getElem_mem h)
      generalize hE:es[i]=e at heok ⊢
      have o1:=heok.meth
      have o2:=heok.crc
      have o3:=heok.packed
      have o4:=heok.size
      have o5:=heok.name
      have o6:=heok.at_
      rw [Option.bind_some,bt,Option.bind_some]
      rw [show (mkE e).fname=zB e.name from rfl,right_eq k _ (by omega),L_zB]
      rw [Option.bind_some]
      cases hr:okName e.name with
      | false=>rw [rdZ_name hr];rfl
      | true =>
        rw [Bool.not_true,bf]
        rw [dt (show (0:Int)≤0∧(0:Int)≤(i:Int)∧(i:Int)≤((es.length:Nat):Int) by omega)]
        rw [bt,Option.bind_some]
        have e1:((List.drop (Int.toNat 0) (List.take (Int.toNat (i:Int)) (es.map mkE))).length:Nat)=i:=by
          rw [Int.toNat_natCast,show Int.toNat 0=0 from rfl,List.drop_zero,List.length_take,List.length_map];omega
        rw [e1,show g_zip_Read_l1 k (es.map mkE) (i:Int) (mkE e) (i:Int) k 0=_ from read1 k (by omega) es hl i hi hnm e hr k 0 (by omega) (by omega),List.drop_zero]
        rw [Option.bind_some]
        cases hany:((es.take i).map (·.name)).any (likeZ e.name) with
        | true=>rw [rdZ_seen hr hany];rfl
        | false =>
          rw [if_neg (show ¬ (false=true) by decide)]
          dsimp only
          have ebig:=read_bad (k:=k) (by omega) b e a o1 o2 o3 o4 o5 (by omega)
          rw [ebig]
          rw [Option.bind_some]
          by_cases hc:(e.meth≠0∧e.meth≠8)∨e.at_≠a∨¬ localB e <+: b.drop a
          · rw [dt hc,rdZ_bad hr hany hc];rfl
          rw [df hc]
          rw [bf,Option.bind_some]
          rw [show (mkE e).fsize=(e.size:Int) from rfl,show (mkE e).fpacked=(e.packed:Int) from rfl,zB_size]
          have em:(if (most:Int)<262144 then (most:Int) else 262144)=((min 262144 most:Nat):Int):=by split <;> omega
          rw [em]
          by_cases hs:e.size > min 262144 most
          · rw [dt (show ((min 262144 most:Nat):Int)<(e.size:Int) by omega),rdZ_big hr hany hc hs];rfl
          rw [df (show ¬ ((min 262144 most:Nat):Int)<(e.size:Int) by omega)]
          rw [bf,Option.bind_some,Option.bind_some]
          rw [wi (n:=30+((e.name.length:Nat):Int)) (by omega) (by omega),wi (n:=(a:Int)+(30+((e.name.length:Nat):Int))) (by omega) (by omega),wi (n:=(dir:Int) - ((a:Int)+(30+((e.name.length:Nat):Int)))) (by omega) (by omega)]
          by_cases hp:a+(30+e.name.length)+e.packed > dir
          · rw [dt (show (dir:Int) - ((a:Int)+(30+((e.name.length:Nat):Int)))<(e.packed:Int) by omega),rdZ_far hr hany hc hs hp];rfl
          rw [df (show ¬ (dir:Int) - ((a:Int)+(30+((e.name.length:Nat):Int)))<(e.packed:Int) by omega),rdZ_step hr hany hc hs hp]
          rw [Option.bind_some,bf,Option.bind_some]
          rw [wi (n:=(a:Int)+(30+((e.name.length:Nat):Int))+(e.packed:Int)) (by omega) (by omega),I_length,dt (show (0:Int)≤(a:Int)+(30+((e.name.length:Nat):Int))∧(a:Int)+(30+((e.name.length:Nat):Int))≤(a:Int)+(30+((e.name.length:Nat):Int))+(e.packed:Int)∧(a:Int)+(30+((e.name.length:Nat):Int))+(e.packed:Int)≤((b.length:Nat):Int) by omega)]
          rw [bt]
          rw [show Int.toNat ((a:Int)+(30+((e.name.length:Nat):Int)))=a+(30+e.name.length) by omega,show Int.toNat ((a:Int)+(30+((e.name.length:Nat):Int))+(e.packed:Int))=a+(30+e.name.length)+e.packed by omega,I_take,I_drop,List.drop_take,Nat.add_sub_cancel_left]
          have hu:=unp_eq hk e heok (zB e.name) ((b.drop (a+(30+e.name.length))).take e.packed) (by rw [List.length_take,List.length_drop];omega)
          rw [show g_zip_entry_unpacked k (mkE e).fmethod (mkE e).fcrc (e.packed:Int) (e.size:Int) (zB e.name) (mkE e).fat _=_ from hu]
          cases hq:unpZ crcN noInf e ((b.drop (a+(30+e.name.length))).take e.packed) with
          | none=>rfl
          | some x =>
            rw [Option.map_some,Option.bind_some,Option.bind_some]
            dsimp only
            rw [Option.bind_some]
            by_cases hx:x.2=0
            · rw [dt (show (x.2:Int)=0 by omega),if_neg (show ¬ x.2≠0 from fun h=>h hx)]
              rw [Bool.not_true,bf]
              rw [dt (show _≤(140737488355328:Nat) by rw [List.length_map];simp;omega)]
              rw [bt]
              have ha2:(a:Int)+(30+((e.name.length:Nat):Int))+(e.packed:Int)=((a+(30+e.name.length+e.packed):Nat):Int):=by omega
              rw [wi (n:=(most:Int) - (e.size:Int)) (by omega) (by omega),wi (n:=(i:Int)+1) (by omega) (by omega),ha2,show (most:Int) - (e.size:Int)=((most - e.size:Nat):Int) by omega,show (i:Int)+1=((i+1:Nat):Int) by omega]
              have hacc2:acc.map mkF++([(⟨zB e.name,I x.1⟩:S_api_File)]:List S_api_File)=(acc++[(e.name,x.1)]).map mkF:=by rw [List.map_append];rfl
              have htake:es.take (i+1)=es.take i++[e]:=by rw [List.take_add_one,List.getElem?_eq_getElem h,hE];rfl
              rw [hacc2,ih (i+1) (most - e.size) (a+(30+e.name.length+e.packed)) (acc++[(e.name,x.1)]) (by omega) (by omega) (by omega) (by omega) (by simp;omega) (fun f hf=>by
                rw [htake] at hf
                rcases List.mem_append.1 hf with hf | hf
                · exact hnm f hf
                · rw [List.mem_singleton.1 hf];exact hr)]
              rw [htake,List.map_append]
              rfl
            · rw [df (show ¬ (x.2:Int)=0 by omega),if_pos hx];rfl
    · rw [df (show ¬ (i:Int)<((es.length:Nat):Int) by omega),List.drop_of_length_le (l:=es) (by omega)]
      rfl
theorem read_eq (k:Nat) (hk:2000000≤k) (b:List UInt8) (hb:b.length≤1048576) (most:Nat) (hm:most≤1073741824) :
    g_zip_Read k (I b) (most:Int)=match dirS b with
      | none=>some ([],14)
      | some (es,a)=>match rdZ crcN okName noInf likeZ b a es [] most 0 [] with
        | none=>none
        | some (.inl e)=>some ([],(e:Int))
        | some (.inr (x,acc))=>if x=a then some (acc.map mkF,0) else some ([],14):=by
  unfold g_zip_Read
  rw [show decide ((most:Int)<0)=false from df (by omega),bf,directory_eq (by omega) b hb,Option.bind_some]
  cases hd:dirS b with
  | none=>rfl
  | some p =>
    obtain ⟨es,a⟩:=p
    obtain ⟨o,hbo,hao,heo,hel⟩:=dirS_ok hd
    have hal:a≤b.length:=by rw [hbo,hao,List.length_append];omega
    have hg:=read_go k hk b hb a hal es hel heo k 0 most 0 [] (by omega) (by omega) hm (by omega) (by simp) (by simp)
    rw [List.drop_zero,List.take_zero,List.map_nil,List.map_nil] at hg
    dsimp only
    rw [show (!decide ((0:Int)=0))=false from rfl,bf,show g_zip_Read_l0 k (I b) (es.map mkE) (a:Int) k (most:Int) 0 0 []=_ from hg]
    cases hr:rdZ crcN okName noInf likeZ b a es [] most 0 [] with
    | none=>rfl
    | some r =>
      rw [Option.map_some,Option.bind_some]
      cases r with
      | inl e=>rfl
      | inr y =>
        obtain ⟨x,acc⟩:=y
        show (bif (!decide ((x:Int)=(a:Int))) then some (([]:List S_api_File),(14:Int)) else some (acc.map mkF,0))=if x=a then some (acc.map mkF,0) else some ([],14)
        by_cases h:x=a
        · rw [dt (show (x:Int)=(a:Int) by omega),if_pos h];rfl
        · rw [df (show ¬ (x:Int)=(a:Int) by omega),if_neg h];rfl
theorem read_turned (k:Nat) (hk:2000000≤k) (fs:List Zf) (h0:chkZ fs 0=0) (b:List UInt8) (hb:b.length≤1048576) (hl:b.length=(allZ crcN fs).length) (hh:ham b (allZ crcN fs)=1) :
    ∃ e:Int,e≠0∧g_zip_Read k (I b) 1073741824=some ([],e):=by
  obtain ⟨_,hl64,hf⟩:=chk_zero h0
  rw [show (1073741824:Int)=((1073741824:Nat):Int) from rfl,read_eq k hk b hb _ (Nat.le_refl _)]
  cases hd:dirS b with
  | none=>exact ⟨14,by decide,rfl⟩
  | some p =>
    obtain ⟨es,a⟩:=p
    obtain ⟨o,hbo,rfl,heo,hel⟩:=dirS_ok hd
    have ht:=turned (cz:=crcN) (okN:=okName) (inf:=noInf) (like:=likeZ) (b:=b) crcN_lt crcN_inj (fs:=fs) (fun f hfm=>⟨by have:=(okName_asc (hf f hfm).2).2;omega,by have:=(hf f hfm).1;omega⟩) (by omega) hbo heo (by omega) hl (by omega) hh 1073741824
    dsimp only
    rcases ht.bad with ⟨e,h1,h2⟩ | ⟨x,acc,h1,h2⟩
    · rw [h1];exact ⟨(e:Int),by omega,rfl⟩
    · rw [h1];dsimp only;rw [if_neg h2];exact ⟨14,by decide,rfl⟩
def unI (l:List Int):List UInt8:=l.map fun n=>UInt8.ofNat n.toNat
theorem I_unI:∀ {l:List Int},(∀ y∈l,0≤y∧y≤255)→I (unI l)=l
  | [],_=>rfl
  | x::l,h=>by
    have hx:=h x (List.mem_cons_self ..)
    have:=I_unI (l:=l) fun y hy=>h y (List.mem_cons_of_mem _ hy)
    unfold unI I at *
    rw [List.map_cons,List.map_cons,this,UInt8.toNat_ofNat']
    congr 1
    omega
theorem u8wf {n:Int} (h:(Lit.int .u8 n).wf=true):0≤n∧n≤255:=by
  simp only [Lit.wf,IntKind.min,IntKind.max,IntKind.signed,IntKind.bits,Bool.and_eq_true,decide_eq_true_eq] at h
  simpa using h
theorem asZ {l:List S_api_File} (hl:∀ x∈l,(x.fName.size≤maxLen)∧(x.fData.length≤maxLen∧∀ y∈x.fData,(Lit.int .u8 y).wf=true)∧True):∃ fs:List Zf,l=fs.map mkF:=by
  refine ⟨l.map fun x=>(L x.fName,unI x.fData),?_⟩
  rw [List.map_map]
  conv=>lhs;rw [← List.map_id l]
  refine List.map_congr_left fun x hx=>?_
  have h:=(hl x hx).2.1.2
  cases x with
  | mk nm d =>
    show (⟨nm,d⟩:S_api_File)=⟨zB (L nm),I (unI d)⟩
    rw [zB_L,I_unI fun y hy=>u8wf (h y hy)]
theorem xor_ne {c d:UInt8} (h:d≠0):c ^^^ d≠c:=by
  intro e
  apply h
  have:=congrArg (c ^^^ ·) e
  simp only [← UInt8.xor_assoc,UInt8.xor_self,UInt8.zero_xor] at this
  exact this
theorem zipTurned (l:List S_api_File) (t z:Int) (hl:l.length≤maxLen∧∀ x∈l,(x.fName.size≤maxLen)∧(x.fData.length≤maxLen∧∀ y∈x.fData,(Lit.int .u8 y).wf=true)∧True) (ht:(Lit.int .i64 t).wf=true) (hz:(Lit.int .u8 z).wf=true) :
    ∃ k,g_quirelaw05_ZipTurned k l t z=some true:=by
  obtain ⟨fs,rfl⟩:=asZ hl.2
  have hz:=u8wf hz
  generalize hk:(2000000:Nat)=q
  refine ⟨q+300,?_⟩
  have hal:=aliveZ q
  generalize hkk:q+300=k at *
  have hk2:2000000≤k:=by omega
  unfold g_quirelaw05_ZipTurned
  rw [hal]
  obtain ⟨e,hw,he⟩:=write_eq k (by omega) fs
  rw [hw,Option.bind_some]
  dsimp only
  by_cases h0:e=0
  · rw [if_pos h0,show (!decide ((e:Int)=0))=false by rw [dt (by omega)];rfl,bf]
    by_cases hz0:z=0
    · rw [dt hz0];rfl
    rw [df hz0,bf]
    by_cases ht0:t<0
    · rw [dt ht0];rfl
    rw [df ht0,bf,I_length]
    by_cases htl:((allZ crcN fs).length:Int)≤t
    · rw [dt htl];rfl
    rw [df htl,Option.bind_some,bf]
    by_cases hbig:(1048576:Int)<((allZ crcN fs).length:Int)
    · rw [dt hbig];rfl
    rw [df hbig,Option.bind_some,Option.bind_some,bf]
    obtain ⟨n,rfl⟩:∃ n:Nat,t=(n:Int):=⟨t.toNat,by omega⟩
    have hn:n<(allZ crcN fs).length:=by omega
    obtain ⟨d,hd⟩:∃ d:UInt8,z=(d.toNat:Int):=⟨UInt8.ofNat z.toNat,by rw [UInt8.toNat_ofNat'];omega⟩
    subst hd
    have hd0:d≠0:=fun h=>hz0 (by rw [h];rfl)
    rw [ixI hn,Option.bind_some,Option.bind_some,Int.toNat_natCast]
    have hx:bits .xor .u8 ((allZ crcN fs)[n].toNat:Int) (d.toNat:Int)=(((allZ crcN fs)[n] ^^^ d).toNat:Int):=u8_xor (allZ crcN fs)[n].toBitVec d.toBitVec
    have hset:(I (allZ crcN fs)).set n (((allZ crcN fs)[n] ^^^ d).toNat:Int)=I ((allZ crcN fs).set n ((allZ crcN fs)[n] ^^^ d)):=by
      unfold I;rw [List.map_set]
    rw [hx,hset]
    have e1:allZ crcN fs=(allZ crcN fs).take n++(allZ crcN fs)[n]::(allZ crcN fs).drop (n+1):=by
      conv=>lhs;rw [← List.take_append_drop n (allZ crcN fs),List.drop_eq_getElem_cons hn]
    have hham:ham ((allZ crcN fs).set n ((allZ crcN fs)[n] ^^^ d)) (allZ crcN fs)=1:=by
      rw [List.set_eq_take_append_cons_drop,if_pos hn]
      conv=>lhs;arg 2;rw [e1]
      exact ham_one _ _ (xor_ne hd0)
    obtain ⟨r,hr0,hr⟩:=read_turned k hk2 fs (by omega) _ (by rw [List.length_set];omega) (by rw [List.length_set]) hham
    rw [hr,Option.bind_some]
    dsimp only
    rw [df hr0]
    rfl
  · rw [if_neg h0,show (!decide ((e:Int)=0))=true by rw [df (by omega)];rfl]
    rfl
end Go.Proofs.YtaphblcbnhnpaaaGreatDoor.W
