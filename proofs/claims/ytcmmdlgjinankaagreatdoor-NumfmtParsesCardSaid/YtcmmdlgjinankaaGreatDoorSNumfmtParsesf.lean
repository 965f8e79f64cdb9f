/- Texts joined: part 6 of what LNumfmtParses stands on. -/
import Derived.Test.YtcmmdlgjinankaaGreatDoorSNumfmtParsese
import Derived.Test.YtcmmdlgjinankaaGreatDoorRows
import Derived.Lib.LaidTab
import Derived.MakeChecks
import Derived.ChangeSame
namespace Go.Proofs.YtcmmdlgjinankaaGreatDoor.W
open Go Go.Q Go.Proofs
set_option linter.unusedVariables false
set_option linter.unusedSimpArgs false
def noc (l:List UInt8):List UInt8:=l.filter (·≠44)
theorem noc_none:∀ {l:List UInt8},44∉l→noc l=l:=by
  intro l h
  unfold noc
  rw [List.filter_eq_self]
  intro a ha
  have:a≠44:=fun e=>h (e ▸ ha)
  simpa using this
theorem noc_at {p q:List UInt8} (h:44∉p):noc (p++44::q)=p++noc q:=by
  unfold noc
  rw [List.filter_append,show p.filter (·≠44)=p from noc_none h]
  simp
theorem ws_c (k:Nat) (l:List UInt8) (acc:List Int) (h:acc.length+l.length≤1000):g_st_Builder_WriteString__c k (B l) acc=some ():=by
  unfold g_st_Builder_WriteString__c g_st_Builder_copyCheck__c
  rw [Option.bind_some,B_ints,I_length,dt (by omega),bt]
theorem repl_l0 (k:Nat) (w:List UInt8) (hw:w.length≤64):∀ (n:Nat) (pre rest:List UInt8),w=pre++rest→rest.length<n →
    ∃ pre' rest':List UInt8,w=pre'++rest'∧44∉rest'∧g_st_Replace_l0 k (B w) (B [44]) (B []) ((w.count 44:Nat):Int) n (pre.length:Int) ((pre.count 44:Nat):Int) (I (noc pre))=some ((pre'.length:Int),I (noc pre')):=by
  intro n
  induction n with
  | zero=>intro pre rest _ h;omega
  | succ n ih =>
    intro pre rest hd hn
    have hl:w.length=pre.length+rest.length:=by rw [hd,List.length_append]
    have hc:w.count 44=pre.count 44+rest.count 44:=by rw [hd,List.count_append]
    rw [g_st_Replace_l0]
    rcases parts1 44 rest with h | ⟨p,q,rfl,h⟩
    · rw [List.count_eq_zero.2 h] at hc
      rw [df (by omega),bf]
      exact ⟨pre,rest,hd,h,rfl⟩
    · have hq:(p++44::q).count 44=1+q.count 44:=by
        rw [List.count_append,List.count_eq_zero.2 h,List.count_cons_self];omega
      have cl:pre.count 44≤pre.length:=List.count_le_length
      simp only [List.length_append,List.length_cons] at hl hn
      rw [dt (by omega),bt,B_size,dt (by omega),bt,B_ext,Option.bind_some]
      rw [show (w.drop ((pre.length:Nat):Int).toNat).take (((w.length:Nat):Int).toNat - ((pre.length:Nat):Int).toNat)=p++44::q by
        rw [toN,toN,hd,List.drop_left,List.take_of_length_le (by simp)]]
      unfold g_st_Index
      rw [index1,show ((44:UInt8).toNat:Int)=44 from rfl,ixb_some (v:=44) (c:=44) rfl h]
      simp only [Option.bind_some]
      have e1:IntKind.wrap .i64 ((pre.length:Int)+(p.length:Int))=((pre.length+p.length:Nat):Int):=by rw [wi (by omega) (by omega)];omega
      simp only [e1,B_size]
      rw [dt (by omega),bt,B_ext,show (w.drop ((pre.length:Nat):Int).toNat).take (((pre.length+p.length:Nat):Int).toNat - ((pre.length:Nat):Int).toNat)=p by
        rw [toN,toN,hd,List.drop_left,show pre.length+p.length - pre.length=p.length by omega,List.take_left]]
      have nl:(noc pre).length≤pre.length:=List.length_filter_le _ _
      rw [ws_c k p _ (by rw [I_length];omega),Option.bind_some,ws_c k [] _ (by rw [B_ints,List.length_append,I_length,I_length];simp;omega),Option.bind_some]
      have e2:IntKind.wrap .i64 (((pre.length+p.length:Nat):Int)+(([44]:List UInt8).length:Int))=(((pre++(p++[44])).length:Nat):Int):=by
        rw [show (([44]:List UInt8).length:Int)=1 from rfl,wi (by omega) (by omega)];simp;omega
      have e3:IntKind.wrap .i64 (((pre.count 44:Nat):Int)+1)=(((pre++(p++[44])).count 44:Nat):Int):=by
        rw [List.count_append,List.count_append,List.count_eq_zero.2 h,wi (by omega) (by omega)];simp
      have e4:(I (noc pre)++strInts (B p))++strInts (B [])=I (noc (pre++(p++[44]))):=by
        rw [B_ints,B_ints,← I_append,← I_append]
        congr 1
        rw [show noc (pre++(p++[44]))=noc pre++noc (p++[44]) from List.filter_append ..,noc_at h]
        simp [noc]
      rw [e2,e3,e4]
      exact ih (pre++(p++[44])) q (by rw [hd];simp) (by omega)
theorem replace_eq (k:Nat) (hk:100≤k) (w:List UInt8) (hw:w.length≤64):g_st_ReplaceAll k (B w) (B [44]) (B [])=some (Sum.inl (B (noc w))):=by
  unfold g_st_ReplaceAll g_st_Replace
  rw [count1,B_list,B_list,show (([44]:List UInt8)==[])=false from rfl,bf]
  simp only [Option.bind_some]
  rw [df (by omega),bf]
  by_cases hc:w.count 44=0
  · rw [dt (by omega),bt]
    simp only [Option.bind_some]
    rw [noc_none (List.count_eq_zero.1 hc)]
  · have cl:w.count 44≤w.length:=List.count_le_length
    rw [df (by omega),bf,dt (by omega),bt]
    simp only [Option.bind_some,bt,B_size]
    have e1:IntKind.wrap .i64 (((w.count 44:Nat):Int)*IntKind.wrap .i64 ((([]:List UInt8).length:Int) - (([44]:List UInt8).length:Int))) = -((w.count 44:Nat):Int):=by
      rw [show IntKind.wrap .i64 ((([]:List UInt8).length:Int) - (([44]:List UInt8).length:Int)) = -1 from rfl,wi (by omega) (by omega)];omega
    have e2:IntKind.wrap .i64 (((w.length:Nat):Int) + -((w.count 44:Nat):Int))=((w.length - w.count 44:Nat):Int):=by rw [wi (by omega) (by omega)];omega
    rw [e1,e2]
    have hg:g_st_Builder_Grow k ((w.length - w.count 44:Nat):Int)=some (Sum.inr ()):=by
      unfold g_st_Builder_Grow g_st_Builder_copyCheck
      rw [Option.bind_some,df (by omega),bf,Option.bind_some]
      by_cases h:IntKind.wrap .i64 (0 - 0)<((w.length - w.count 44:Nat):Int)
      · rw [dt h,bt]
        unfold g_st_Builder_grow
        rw [Option.bind_some,show IntKind.wrap .i64 (IntKind.wrap .i64 (2*0)+((w.length - w.count 44:Nat):Int))=((w.length - w.count 44:Nat):Int) by
          rw [show IntKind.wrap .i64 (2*0)=0 from rfl,wi (by omega) (by omega)];omega]
        rw [dt (by omega),bt,dt (by omega),bt,dt (by rw [show Int.toNat 0=0 from rfl,List.take_zero];rfl),bt,Option.bind_some]
      · rw [df h,bf]
    rw [hg,Option.bind_some]
    simp only
    rw [dt (by simp),bt]
    obtain ⟨pre,rest,h1,h2,h3⟩:=repl_l0 k w hw k [] w rfl (by omega)
    rw [show ((([]:List UInt8).length:Nat):Int)=0 from rfl,show (((([]:List UInt8).count 44):Nat):Int)=0 from rfl,show I (noc [])=[] from rfl] at h3
    rw [h3]
    simp only [Option.bind_some]
    have hl:w.length=pre.length+rest.length:=by rw [h1,List.length_append]
    have nl:(noc pre).length≤pre.length:=List.length_filter_le _ _
    rw [dt (by omega),bt,B_ext,show (w.drop ((pre.length:Nat):Int).toNat).take (((w.length:Nat):Int).toNat - ((pre.length:Nat):Int).toNat)=rest by
      rw [toN,toN,h1,List.drop_left,List.take_of_length_le (by simp)]]
    rw [ws_c k rest _ (by rw [I_length];omega),Option.bind_some,B_ints,← I_append]
    have hn:noc pre++rest=noc w:=by
      rw [h1,show noc (pre++rest)=noc pre++noc rest from List.filter_append ..,noc_none h2]
    rw [hn]
    unfold g_st_Builder_String__b
    by_cases h0:noc w=[]
    · rw [h0,dt (show (I ([]:List UInt8)).length=0 from rfl),bt]
      rfl
    · rw [df (by rw [I_length];intro e;exact h0 (List.eq_nil_of_length_eq_zero e)),bf,strOf_I]
      rfl
def pcs:UInt8→Bool:=fun c=>c==44||c==46
def cset:List Bool:=(List.range 256).map fun i=>i==44||i==46
theorem mk_set (k n:Nat):g_st_makeASCIISet_l0 k (B [44,46]) (n+4) 0 (List.replicate 256 false)=some (Sum.inr cset):=by kernel_rfl
theorem any_l0 (k:Nat) (l:List UInt8) (hl:l.length≤64):∀ (n i:Nat),i≤l.length→l.length<n+i →
    (∃ j:Nat,g_st_IndexAny_l0 k (B l) cset n (i:Int)=some (Sum.inl (j:Int))∧(l.drop i).any pcs=true)∨(g_st_IndexAny_l0 k (B l) cset n (i:Int)=some (Sum.inr ())∧(l.drop i).any pcs=false)
  | 0,i,hi,hn=>by omega
  | n+1,i,hi,hn=>by
    rw [g_st_IndexAny_l0,Option.bind_some,B_size]
    by_cases h:i<l.length
    · have hb:=byt_lt l i
      have ed:l.drop i=l[i]::l.drop (i+1):=List.drop_eq_getElem_cons h
      have eb:byt l i=l[i].toNat:=by simp [byt,List.getD_eq_getElem?_getD,List.getElem?_eq_getElem h]
      rw [dt (by omega),bt,B_ints,ix_I h,Option.bind_some]
      unfold g_st_asciiSet_contains
      rw [dt (by omega),bt,Option.bind_some,toN]
      have hg:cset.getD (byt l i) false=pcs l[i]:=by
        unfold cset pcs
        rw [List.getD_eq_getElem?_getD,List.getElem?_map,List.getElem?_range hb,eb]
        have u:∀ c d:UInt8,(c.toNat==d.toNat)=(c==d):=fun c d=>by
          by_cases e:c=d
          · simp [e]
          · rw [beq_eq_false_iff_ne.2 e,beq_eq_false_iff_ne.2 (fun h=>e (UInt8.toNat_inj.1 h))]
        show (l[i].toNat==(44:UInt8).toNat||l[i].toNat==(46:UInt8).toNat)=_
        rw [u,u]
      rw [hg,ed,List.any_cons]
      cases hp:pcs l[i] with
      | true=>exact .inl ⟨i,rfl,by simp⟩
      | false =>
        rw [bf,show IntKind.wrap .i64 ((i:Int)+1)=((i+1:Nat):Int) by rw [wi (by omega) (by omega)];omega,Bool.false_or]
        exact any_l0 k l hl n (i+1) (by omega) (by omega)
    · rw [df (by omega),bf]
      exact .inr ⟨rfl,by rw [List.drop_of_length_le (by omega)];rfl⟩
def dgt (c:UInt8):Prop:=c=48∨c=35∨c=44∨c=46
theorem rune_in (k:Nat) {c:UInt8} (h:dgt c):∃ j:Int,g_st_IndexRune k (B [44,46]) (c.toNat:Int)=some j∧decide (0≤j)=pcs c:=by
  rcases h with rfl | rfl | rfl | rfl
  · exact ⟨-1,by kernel_rfl,rfl⟩
  · exact ⟨-1,by kernel_rfl,rfl⟩
  · exact ⟨0,by kernel_rfl,rfl⟩
  · exact ⟨1,by kernel_rfl,rfl⟩
theorem any_l1 (k:Nat) (l:List UInt8) (hl:l.length≤64) (hd:∀ c∈l,dgt c):∀ (n i:Nat),i≤l.length→l.length<n+i →
    (∃ j:Nat,g_st_IndexAny_l1 k (B l) (B [44,46]) n i=some (Sum.inl (j:Int))∧(l.drop i).any pcs=true)∨(g_st_IndexAny_l1 k (B l) (B [44,46]) n i=some (Sum.inr ())∧(l.drop i).any pcs=false)
  | 0,i,hi,hn=>by omega
  | n+1,i,hi,hn=>by
    rw [g_st_IndexAny_l1,B_size]
    by_cases h:i<l.length
    · have ed:l.drop i=l[i]::l.drop (i+1):=List.drop_eq_getElem_cons h
      have eb:byt (l.drop i) 0=l[i].toNat:=by rw [ed];rfl
      have hdi:=hd l[i] (List.getElem_mem h)
      have hdec:decL (l.drop i)=(l[i].toNat,1):=by
        refine decL_of (.inl ⟨rfl,by rw [List.length_drop];omega,eb,?_⟩)
        rcases hdi with e | e | e | e <;> rw [e] <;> decide
      rw [dt h,bt,decode_L,L_B,hdec]
      obtain ⟨j,h1,h2⟩:=rune_in k hdi
      simp only
      rw [h1,Option.bind_some,h2,ed,List.any_cons]
      cases hp:pcs l[i] with
      | true=>exact .inl ⟨i,rfl,by simp⟩
      | false =>
        rw [bf,Bool.false_or]
        exact any_l1 k l hl hd n (i+1) (by omega) (by omega)
    · rw [df h,bf]
      exact .inr ⟨rfl,by rw [List.drop_of_length_le (by omega)];rfl⟩
theorem containsAny_eq (k:Nat) (hk:100≤k) (l:List UInt8) (hl:l.length≤64) (hd:∀ c∈l,dgt c):g_st_ContainsAny k (B l) (B [44,46])=some (l.any pcs):=by
  have h1:∃ j:Int,g_st_IndexAny k (B l) (B [44,46])=some j∧decide (0≤j)=l.any pcs:=by
    unfold g_st_IndexAny g_st_shouldUseASCIISet
    rw [B_list,show (([44,46]:List UInt8)==(ByteArray.mk #[]).toList)=false by rw [show (ByteArray.mk #[])=B [] from rfl,B_list];rfl,Option.bind_some,bf,B_size,show decide ((([44,46]:List UInt8).length:Int)=1)=false from rfl,Option.bind_some,bf,Option.bind_some,B_size]
    have l1:∃ j:Int,(((g_st_IndexAny_l1 k (B l) (B [44,46]) k 0):Option (Int ⊕ Unit)).bind fun y3657=>match y3657 with | (Sum.inl x3651)=>some x3651 | (Sum.inr _)=>some (-1))=some j∧decide (0≤j)=l.any pcs:=by
      rcases any_l1 k l hl hd k 0 (by omega) (by omega) with ⟨j,a,b⟩ | ⟨a,b⟩
      · rw [a];rw [List.drop_zero] at b;exact ⟨j,rfl,by rw [b,dt (by omega)]⟩
      · rw [a];rw [List.drop_zero] at b;exact ⟨-1,rfl,by rw [b];rfl⟩
    by_cases h8:(8:Int)<((l.length:Nat):Int)
    · rw [dt h8,bt]
      unfold g_st_makeASCIISet
      obtain ⟨n,hn⟩:∃ n,k=n+4:=⟨k - 4,by omega⟩
      have:=mk_set k n
      rw [← hn] at this
      rw [this,Option.bind_some]
      simp only [Option.bind_some,bt]
      rcases any_l0 k l hl k 0 (by omega) (by omega) with ⟨j,a,b⟩ | ⟨a,b⟩
      · rw [show ((0:Nat):Int)=0 from rfl] at a
        rw [a];rw [List.drop_zero] at b;exact ⟨j,rfl,by rw [b,dt (by omega)]⟩
      · rw [show ((0:Nat):Int)=0 from rfl] at a
        rw [a];rw [List.drop_zero] at b;exact ⟨-1,rfl,by rw [b];rfl⟩
    · rw [df h8,bf,Option.bind_some]
      exact l1
  obtain ⟨j,h2,h3⟩:=h1
  unfold g_st_ContainsAny
  rw [h2,Option.bind_some,h3]
def badC (c:Nat):Bool:=decide (c<32)||decide (126<c)
theorem tS {b x:Bool}:(bif b then some true else some x)=some (b||x):=by cases b <;> rfl
theorem parse1_eq (k c:Nat):g_numfmt_Parse_1 k (c:Int)=some (badC c):=by
  unfold g_numfmt_Parse_1 badC
  rw [show decide ((c:Int)<32)=decide (c<32) by congr 1;exact propext (by omega),show decide ((126:Int)<c)=decide (126<c) by congr 1;exact propext (by omega)]
  simp only [tS,Option.bind_some]
theorem decL_bad {l:List UInt8} (h0:0<l.length):if byt l 0<128 then decL l=(byt l 0,1) else 126<(decL l).1:=by
  split
  · rename_i h
    exact decL_of (.inl ⟨rfl,by omega,rfl,h⟩)
  · rename_i h
    rcases decL_cases h0 with q | ⟨q,_⟩
    · unfold okL at q;omega
    · rw [q];decide
def anyBad (l:List UInt8):Bool:=l.any fun c=>badC c.toNat
theorem func_l0 (k:Nat) (l:List UInt8):∀ (n i:Nat),i≤l.length→l.length<n+i →
    (∃ j:Nat,g_st_indexFunc_l0 k (B l) true n i=some (Sum.inl (j:Int))∧anyBad (l.drop i)=true)∨(g_st_indexFunc_l0 k (B l) true n i=some (Sum.inr ())∧anyBad (l.drop i)=false)
  | 0,i,hi,hn=>by omega
  | n+1,i,hi,hn=>by
    rw [g_st_indexFunc_l0,B_size]
    by_cases h:i<l.length
    · have ed:l.drop i=l[i]::l.drop (i+1):=List.drop_eq_getElem_cons h
      have eb:byt (l.drop i) 0=l[i].toNat:=by rw [ed];rfl
      have hb:=decL_bad (l:=l.drop i) (by rw [List.length_drop];omega)
      rw [dt h,bt,decode_L,L_B,parse1_eq,Option.bind_some]
      have ea:anyBad (l.drop i)=(badC l[i].toNat||anyBad (l.drop (i+1))):=by rw [ed];exact List.any_cons
      rw [ea]
      by_cases hc:badC l[i].toNat=true
      · have:badC (decL (l.drop i)).1=true:=by
          split at hb
          · rw [hb,eb];exact hc
          · unfold badC;simp [hb]
        rw [this,hc]
        exact .inl ⟨i,rfl,rfl⟩
      · have hc':badC l[i].toNat=false:=by simpa using hc
        have hlt:byt (l.drop i) 0<128:=by
          have:¬ 126<l[i].toNat:=by intro h;unfold badC at hc';simp at hc';omega
          omega
        rw [if_pos hlt,eb] at hb
        rw [hb,hc',Bool.false_or]
        exact func_l0 k l n (i+1) (by omega) (by omega)
    · rw [df h,bf]
      exact .inr ⟨rfl,by rw [List.drop_of_length_le (by omega)];rfl⟩
theorem containsFunc_eq (k:Nat) (l:List UInt8) (hk:l.length<k):g_st_ContainsFunc k (B l)=some (anyBad l):=by
  unfold g_st_ContainsFunc g_st_IndexFunc g_st_indexFunc
  rcases func_l0 k l k 0 (by omega) (by omega) with ⟨j,a,b⟩ | ⟨a,b⟩
  · rw [List.drop_zero] at b
    rw [a,b];simp
  · rw [List.drop_zero] at b
    rw [a,b];rfl
theorem ref_l0 (k:Nat) (l:List UInt8) (hl:l.length≤64):∀ (n i:Nat),i≤l.length→l.length<n+i →
    g_quireref14_Parse_l0 k (B l) n (i:Int)=some (bif anyBad (l.drop i) then Sum.inl () else Sum.inr ())
  | 0,i,hi,hn=>by omega
  | n+1,i,hi,hn=>by
    rw [g_quireref14_Parse_l0,Option.bind_some,B_size]
    by_cases h:i<l.length
    · have ed:l.drop i=l[i]::l.drop (i+1):=List.drop_eq_getElem_cons h
      have eb:byt l i=l[i].toNat:=by simp [byt,List.getD_eq_getElem?_getD,List.getElem?_eq_getElem h]
      have ea:anyBad (l.drop i)=(badC l[i].toNat||anyBad (l.drop (i+1))):=by rw [ed];exact List.any_cons
      rw [dt (by omega),bt,B_ints,ix_I h,Option.bind_some,eb,Option.bind_some]
      rw [show decide (((l[i].toNat:Nat):Int)<32)=decide (l[i].toNat<32) by congr 1;exact propext (by omega),show decide ((126:Int)<((l[i].toNat:Nat):Int))=decide (126<l[i].toNat) by congr 1;exact propext (by omega),tS,Option.bind_some,
        show (decide (l[i].toNat<32)||decide (126<l[i].toNat))=badC l[i].toNat from rfl,ea]
      cases badC l[i].toNat with
      | true=>rfl
      | false =>
        rw [bf,Bool.false_or,show IntKind.wrap .i64 ((i:Int)+1)=((i+1:Nat):Int) by rw [wi (by omega) (by omega)];omega]
        exact ref_l0 k l hl n (i+1) (by omega) (by omega)
    · rw [df (by omega),bf,List.drop_of_length_le (by omega)]
      rfl
def plc (l:List UInt8):Bool:=decide (l.head? = some 48)||decide (l.head? = some 35)
def dW:Nat→Nat→Bool→List UInt8→Option (Nat × Nat × Bool × List UInt8)
  | w,z,g,[]=>some (w,z,g,[])
  | w,z,g,c::r=>if c=44 then (if plc r then dW w z true r else none) else if c=35 then (if 0<z then none else dW (w+1) z g r) else if c=48 then dW (w+1) (z+1) g r else some (w,z,g,c::r)
def dPt:Nat→Nat→List UInt8→Option (Nat × Nat × List UInt8)
  | p,q,[]=>some (p,q,[])
  | p,q,c::r=>if c=48 then (if q<p then none else dPt (p+1) (q+1) r) else if c=35 then dPt (p+1) q r else some (p,q,c::r)
theorem pos2_all {a b:UInt8} (hab:a≠b):∀ (m:List UInt8),(∀ c∈m,c=a∨c=b)→(pos2 a b (a::m)=none↔b∉m)
  | [],_=>by simp [pos2]
  | c::m,h=>by
    rw [pos2_cons]
    have hm:∀ c∈m,c=a∨c=b:=fun c hc=>h c (List.mem_cons_of_mem _ hc)
    rcases h c (List.mem_cons_self ..) with rfl | rfl
    · rw [if_neg (by simp [hab]),Option.map_eq_none_iff,pos2_all hab m hm]
      simp only [List.mem_cons,not_or]
      exact ⟨fun h=>⟨fun e=>hab e.symm,h⟩,fun h=>h.2⟩
    · rw [if_pos (by simp)]
      simp
theorem pos2_tail {a b x:UInt8} {m:List UInt8} (h:pos2 a b (x::m)=none):pos2 a b m=none:=by
  rw [pos2_cons] at h
  split at h
  · cases h
  · exact Option.map_eq_none_iff.1 h
theorem pos2_ne {a b x:UInt8} {m:List UInt8} (hx:x≠a):(pos2 a b (x::m)=none↔pos2 a b m=none):=by
  rw [pos2_cons,if_neg (fun h=>hx h.1),Option.map_eq_none_iff]
def okW (z:Nat) (w:List UInt8):Prop:=w.getLast? ≠ some 44∧pos2 44 44 w=none∧(0<z→35∉w)∧pos2 48 35 (noc w)=none
theorem noc_cons (c:UInt8) (w:List UInt8):noc (c::w)=if c=44 then noc w else c::noc w:=by
  unfold noc
  rw [List.filter_cons]
  by_cases h:c=44 <;> simp [h]
theorem noc_mem {w:List UInt8} {c:UInt8} (h:c∈noc w):c∈w∧c≠44:=by
  unfold noc at h;rw [List.mem_filter] at h;exact ⟨h.1,by simpa using h.2⟩
theorem mem_noc {w:List UInt8} {c:UInt8} (h:c∈w) (hc:c≠44):c∈noc w:=by
  unfold noc;rw [List.mem_filter];exact ⟨h,by simpa using hc⟩
theorem dW_eq {x:List UInt8} (hx:plc x=false) (hx2:x.head? ≠ some 44):∀ (w:List UInt8) (W z:Nat) (g:Bool),(∀ c∈w,c=48∨c=35∨c=44) →
    (okW z w→dW W z g (w++x)=some (W+(noc w).length,z+w.count 48,g||decide (44∈w),x))∧(¬ okW z w→dW W z g (w++x)=none):=by
  intro w
  induction w with
  | nil =>
    intro W z g _
    refine ⟨fun _=>?_,fun h=>absurd ⟨by simp,rfl,by simp,rfl⟩ h⟩
    cases x with
    | nil=>simp [dW,noc]
    | cons c r =>
      unfold plc at hx
      simp at hx hx2
      rw [List.nil_append,dW,if_neg hx2,if_neg hx.2,if_neg hx.1]
      simp [noc]
  | cons c w ih =>
    intro W z g h
    have hw:∀ c∈w,c=48∨c=35∨c=44:=fun c hc=>h c (List.mem_cons_of_mem _ hc)
    have nocw:∀ c∈noc w,c=48∨c=35:=fun c hc=>by
      obtain ⟨h1,h2⟩:=noc_mem hc
      rcases hw c h1 with e | e | e
      · exact .inl e
      · exact .inr e
      · exact absurd e h2
    rw [List.cons_append,dW]
    rcases h c (List.mem_cons_self ..) with rfl | rfl | rfl
    · -- 48
      rw [if_neg (by decide),if_neg (by decide),if_pos rfl]
      obtain ⟨i1,i2⟩:=ih (W+1) (z+1) g hw
      have e35:35∉noc w↔35∉w:=⟨fun h hm=>h (mem_noc hm (by decide)),fun h hm=>h (noc_mem hm).1⟩
      have key:okW z (48::w)↔okW (z+1) w:=by
        unfold okW
        rw [noc_cons,if_neg (by decide),pos2_ne (by decide)]
        constructor
        · rintro ⟨h1,h2,h3,h4⟩
          have h5:=(pos2_all (by decide) _ nocw).1 h4
          refine ⟨?_,h2,fun _=>e35.1 h5,pos2_tail h4⟩
          intro e
          apply h1
          rw [List.getLast?_cons,e];rfl
        · rintro ⟨h1,h2,h3,h4⟩
          refine ⟨?_,h2,fun _=>by simpa using h3 (by omega),(pos2_all (by decide) _ nocw).2 (e35.2 (h3 (by omega)))⟩
          rw [List.getLast?_cons]
          cases hl:w.getLast? with
          | none=>simp
          | some d=>rw [hl] at h1;simpa using h1
      refine ⟨fun hk=>?_,fun hk=>i2 (fun h=>hk (key.2 h))⟩
      rw [i1 (key.1 hk),noc_cons,if_neg (by decide)]
      simp
      omega
    · -- 35
      rw [if_neg (by decide),if_pos rfl]
      by_cases hz:0<z
      · rw [if_pos hz]
        exact ⟨fun hk=>absurd (List.mem_cons_self ..) (hk.2.2.1 hz),fun _=>rfl⟩
      · rw [if_neg hz]
        obtain ⟨i1,i2⟩:=ih (W+1) z g hw
        have key:okW z (35::w)↔okW z w:=by
          unfold okW
          rw [noc_cons,if_neg (by decide),pos2_ne (by decide),pos2_ne (a:=48) (by decide)]
          constructor
          · rintro ⟨h1,h2,h3,h4⟩
            refine ⟨?_,h2,fun h=>absurd h hz,h4⟩
            intro e
            apply h1
            rw [List.getLast?_cons,e];rfl
          · rintro ⟨h1,h2,h3,h4⟩
            refine ⟨?_,h2,fun h=>absurd h hz,h4⟩
            rw [List.getLast?_cons]
            cases hl:w.getLast? with
            | none=>simp
            | some d=>rw [hl] at h1;simpa using h1
        refine ⟨fun hk=>?_,fun hk=>i2 (fun h=>hk (key.2 h))⟩
        rw [i1 (key.1 hk),noc_cons,if_neg (by decide)]
        simp
        omega
    · -- 44
      rw [if_pos rfl]
      obtain ⟨i1,i2⟩:=ih W z true hw
      cases w with
      | nil =>
        rw [List.nil_append,hx]
        exact ⟨fun hk=>absurd rfl hk.1,fun _=>rfl⟩
      | cons d w =>
        have key:okW z (44::d::w)↔d≠44∧okW z (d::w):=by
          unfold okW
          rw [noc_cons,if_pos rfl,List.getLast?_cons_cons,show pos2 44 44 (44::d::w)=if (44:UInt8)=44∧d=44 then some 0 else (pos2 44 44 (d::w)).map (·+1) from rfl]
          by_cases hd:d=44
          · simp [hd]
          · simp [hd]
        have hp:plc ((d::w)++x)=decide (d≠44):=by
          unfold plc
          rcases hw d (List.mem_cons_self ..) with rfl | rfl | rfl <;> simp
        rw [hp]
        by_cases hd:d=44
        · rw [if_neg (by simp [hd])]
          exact ⟨fun hk=>absurd hd (key.1 hk).1,fun _=>rfl⟩
        · rw [if_pos (by simp [hd])]
          refine ⟨fun hk=>?_,fun hk=>i2 (fun h=>hk (key.2 ⟨hd,h⟩))⟩
          rw [i1 (key.1 hk).2,noc_cons 44,if_pos rfl]
          simp
theorem dP_eq {x:List UInt8} (hx:plc x=false):∀ (p:List UInt8) (P Q:Nat),(∀ c∈p,c=48∨c=35)→Q≤P →
    (((Q<P→48∉p)∧pos2 35 48 p=none)→dPt P Q (p++x)=some (P+p.length,Q+p.count 48,x))∧(¬ ((Q<P→48∉p)∧pos2 35 48 p=none)→dPt P Q (p++x)=none):=by
  intro p
  induction p with
  | nil =>
    intro P Q _ _
    refine ⟨fun _=>?_,fun h=>absurd ⟨by simp,rfl⟩ h⟩
    cases x with
    | nil=>simp [dPt]
    | cons c r =>
      unfold plc at hx
      simp at hx
      rw [List.nil_append,dPt,if_neg hx.1,if_neg hx.2]
      simp
  | cons c p ih =>
    intro P Q h hQ
    have hp:∀ c∈p,c=48∨c=35:=fun c hc=>h c (List.mem_cons_of_mem _ hc)
    rw [List.cons_append,dPt]
    rcases h c (List.mem_cons_self ..) with rfl | rfl
    · rw [if_pos rfl]
      by_cases hlt:Q<P
      · rw [if_pos hlt]
        exact ⟨fun hk=>absurd (List.mem_cons_self ..) (hk.1 hlt),fun _=>rfl⟩
      · rw [if_neg hlt]
        obtain ⟨i1,i2⟩:=ih (P+1) (Q+1) hp (by omega)
        have key:((Q<P→48∉48::p)∧pos2 35 48 (48::p)=none)↔((Q+1<P+1→48∉p)∧pos2 35 48 p=none):=by
          rw [pos2_ne (by decide)]
          exact ⟨fun h=>⟨fun e=>absurd e (by omega),h.2⟩,fun h=>⟨fun e=>absurd e hlt,h.2⟩⟩
        refine ⟨fun hk=>?_,fun hk=>i2 (fun h=>hk (key.2 h))⟩
        rw [i1 (key.1 hk)]
        simp
        omega
    · rw [if_neg (by decide),if_pos rfl]
      obtain ⟨i1,i2⟩:=ih (P+1) Q hp (by omega)
      have key:((Q<P→48∉35::p)∧pos2 35 48 (35::p)=none)↔((Q<P+1→48∉p)∧pos2 35 48 p=none):=by
        have h3:=pos2_all (a:=35) (b:=48) (by decide) p (fun c hc=>(hp c hc).symm)
        constructor
        · rintro ⟨_,h2⟩
          exact ⟨fun _=>h3.1 h2,pos2_tail h2⟩
        · rintro ⟨h1,_⟩
          have:=h1 (by omega)
          exact ⟨fun _=>by simpa using this,h3.2 this⟩
      refine ⟨fun hk=>?_,fun hk=>i2 (fun h=>hk (key.2 h))⟩
      rw [i1 (key.1 hk)]
      simp
      omega
structure Dg where
  whole:Nat
  zeros:Nat
  point:Bool
  part:Nat
  pz:Nat
  group:Bool
def halves:List UInt8→List UInt8 × List UInt8 × Bool
  | []=>([],[],false)
  | c::r=>if c=46 then ([],r,true) else (c::(halves r).1,(halves r).2.1,(halves r).2.2)
theorem halves_no:∀ {s:List UInt8},46∉s→halves s=(s,[],false)
  | [],_=>rfl
  | c::r,h=>by
    simp only [List.mem_cons,not_or] at h
    rw [halves,if_neg (fun e=>h.1 e.symm),halves_no h.2]
theorem halves_at:∀ {a b:List UInt8},46∉a→halves (a++46::b)=(a,b,true)
  | [],b,_=>by rw [List.nil_append,halves,if_pos rfl]
  | c::a,b,h=>by
    simp only [List.mem_cons,not_or] at h
    rw [List.cons_append,halves,if_neg (fun e=>h.1 e.symm),halves_at h.2]
def okD (w p:List UInt8):Prop:=noc w≠[]∧w.head? ≠ some 44∧w.getLast? ≠ some 44∧pos2 44 44 w=none∧p.any pcs=false∧pos2 48 35 (noc w)=none∧pos2 35 48 p=none
instance (w p:List UInt8):Decidable (okD w p):=by unfold okD;exact inferInstance
def dgP (s:List UInt8):Option Dg :=
  if okD (halves s).1 (halves s).2.1 then some ⟨(noc (halves s).1).length,(halves s).1.count 48,(halves s).2.2,(halves s).2.1.length,(halves s).2.1.count 48,decide (44∈(halves s).1)⟩ else none
def dgD (s:List UInt8):Option (Dg × List UInt8) :=
  match dW 0 0 false s with
  | none=>none
  | some (w,z,g,r)=>if r.head? = some 46 then (dPt 0 0 r.tail).map fun (p,q,u)=>(⟨w,z,true,p,q,g⟩,u) else some (⟨w,z,false,0,0,g⟩,r)
theorem dP_run:∀ (p:List UInt8),(∀ c∈p,dgt c)→∃ p1 x1,p=p1++x1∧(∀ c∈p1,c=48∨c=35)∧(x1=[]∨∃ c r,x1=c::r∧(c=44∨c=46))
  | [],_=>⟨[],[],rfl,by simp,.inl rfl⟩
  | c::p,h=>by
    have hc:=h c (List.mem_cons_self ..)
    obtain ⟨p1,x1,h1,h2,h3⟩:=dP_run p fun d hd=>h d (List.mem_cons_of_mem _ hd)
    by_cases h4:c=44∨c=46
    · exact ⟨[],c::p,rfl,by simp,.inr ⟨c,p,rfl,h4⟩⟩
    · refine ⟨c::p1,x1,by rw [h1];rfl,fun d hd=>?_,h3⟩
      rcases List.mem_cons.1 hd with rfl | hd
      · rcases hc with e | e | e | e
        · exact .inl e
        · exact .inr e
        · exact absurd (.inl e) h4
        · exact absurd (.inr e) h4
      · exact h2 d hd
theorem plc_no {l:List UInt8} (h:∀ c,l.head? = some c→¬ dgt c):plc l=false∧l.head? ≠ some 44:=by
  refine ⟨?_,fun e=>h _ e (by unfold dgt;simp)⟩
  unfold plc
  rw [df (fun e=>h _ e (by unfold dgt;simp)),df (fun e=>h _ e (by unfold dgt;simp))];rfl
theorem dg_same {s l2:List UInt8} (hs:∀ c∈s,dgt c) (h2:∀ c,l2.head? = some c→¬ dgt c) (hp:plc s=true) :
    (∀ v,dgP s=some v→dgD (s++l2)=some (v,l2))∧(dgP s=none→dgD (s++l2)=none∨∃ v c r,dgD (s++l2)=some (v,c::r)∧dgt c):=by
  obtain ⟨q1,q2⟩:=plc_no h2
  have hw0:∀ w p:List UInt8,s=w++p→46∉w→∀ c∈w,c=48∨c=35∨c=44:=fun w p e hn c hc=>by
    rcases hs c (by rw [e];exact List.mem_append_left _ hc) with e | e | e | e
    · exact .inl e
    · exact .inr (.inl e)
    · exact .inr (.inr e)
    · exact absurd (e ▸ hc) hn
  have hd0:∀ w:List UInt8,plc w=true→w.head? ≠ some 44∧noc w≠[]:=fun w hw=>by
    cases w with
    | nil=>simp [plc] at hw
    | cons c r =>
      unfold plc at hw
      simp at hw
      have:c≠44:=by rintro rfl;simp at hw
      refine ⟨by simpa using this,?_⟩
      rw [noc_cons,if_neg this];simp
  rcases parts1 46 s with h | ⟨w,p,rfl,h⟩
  · have hd:=dW_eq q1 q2 s 0 0 false (hw0 s [] (by simp) h)
    have hok:okD s []↔okW 0 s:=by
      unfold okD okW
      obtain ⟨a,b⟩:=hd0 s hp
      constructor
      · rintro ⟨_,_,h3,h4,_,h6,_⟩;exact ⟨h3,h4,by simp,h6⟩
      · rintro ⟨h3,h4,_,h6⟩;exact ⟨b,a,h3,h4,rfl,h6,rfl⟩
    unfold dgP
    rw [halves_no h]
    by_cases hk:okW 0 s
    · rw [if_pos (hok.2 hk)]
      refine ⟨fun v hv=>?_,fun hv=>by cases hv⟩
      cases hv
      unfold dgD
      rw [hd.1 hk]
      simp only
      rw [if_neg (fun e=>h2 46 e (by unfold dgt;simp))]
      simp
    · rw [if_neg (fun h=>hk (hok.1 h))]
      refine ⟨fun v hv=>(by cases hv),fun _=>.inl ?_⟩
      unfold dgD
      rw [hd.2 hk]
  · have hw:plc w=true:=by
      cases w with
      | nil=>simp [plc] at hp
      | cons c r=>simpa [plc] using hp
    have hd:=dW_eq (x:=46::(p++l2)) (by simp [plc]) (by simp) w 0 0 false (hw0 w (46::p) rfl h)
    obtain ⟨a,b⟩:=hd0 w hw
    unfold dgP
    rw [halves_at h,List.append_assoc,List.cons_append]
    by_cases hk:okW 0 w
    · have e0:dgD (w++46::(p++l2))=(dPt 0 0 (p++l2)).map fun (p,q,u)=>(⟨0+(noc w).length,0+w.count 48,true,p,q,false||decide (44∈w)⟩,u):=by
        unfold dgD
        rw [hd.1 hk]
        simp only
        rw [if_pos (show (46::(p++l2)).head? = some 46 from rfl)]
        rfl
      obtain ⟨p1,x1,hp1,hp2,hp3⟩:=dP_run p (fun c hc=>hs c (by simp [hc]))
      have hx:plc (x1++l2)=false:=by
        rcases hp3 with rfl | ⟨c,r,rfl,hc⟩
        · exact q1
        · unfold plc;rcases hc with rfl | rfl <;> simp
      obtain ⟨d1,d2⟩:=dP_eq hx p1 0 0 hp2 (by omega)
      rw [e0,hp1,List.append_assoc]
      rcases hp3 with rfl | ⟨c,r,rfl,hc⟩
      · have hany:p1.any pcs=false:=by
          rw [List.any_eq_false]
          intro c hc
          rcases hp2 c hc with rfl | rfl <;> decide
        rw [List.append_nil]
        by_cases hq:pos2 35 48 p1=none
        · rw [if_pos ⟨b,a,hk.1,hk.2.1,hany,hk.2.2.2,hq⟩,d1 ⟨by simp,hq⟩]
          refine ⟨fun v hv=>?_,fun hv=>by cases hv⟩
          cases hv
          simp
        · rw [if_neg (fun h=>hq h.2.2.2.2.2.2),d2 (fun h=>hq h.2)]
          exact ⟨fun v hv=>(by cases hv),fun _=>.inl rfl⟩
      · have hany:¬ (p1++c::r).any pcs=false:=by
          rw [List.any_append,List.any_cons]
          rcases hc with rfl | rfl <;> simp [pcs]
        rw [if_neg (fun h=>hany h.2.2.2.2.1)]
        refine ⟨fun v hv=>(by cases hv),fun _=>?_⟩
        by_cases hq:pos2 35 48 p1=none
        · rw [d1 ⟨by simp,hq⟩]
          exact .inr ⟨_,c,r++l2,rfl,by unfold dgt;rcases hc with rfl | rfl <;> simp⟩
        · rw [d2 (fun h=>hq h.2)]
          exact .inl rfl
    · rw [if_neg (fun h=>hk ⟨h.2.2.1,h.2.2.2.1,by simp,h.2.2.2.2.2.1⟩)]
      refine ⟨fun v hv=>(by cases hv),fun _=>.inl ?_⟩
      unfold dgD
      rw [hd.2 hk]
theorem dgP_no {s:List UInt8} (hs:∀ c∈s,dgt c) (h0:s≠[]) (hp:plc s=false):dgP s=none:=by
  unfold dgP
  rw [if_neg]
  intro h
  cases s with
  | nil=>exact h0 rfl
  | cons c r =>
    unfold plc at hp
    simp at hp
    rcases hs c (List.mem_cons_self ..) with rfl | rfl | rfl | rfl
    · exact hp.1 rfl
    · exact hp.2 rfl
    · rw [halves,if_neg (by decide)] at h
      exact h.2.1 rfl
    · rw [halves,if_pos rfl] at h
      exact h.1 rfl
inductive Pc where
  | lit (t:List UInt8)
  | sym (c:UInt8)
  deriving DecidableEq
def Pc.bytes:Pc→List UInt8
  | .lit t=>t
  | .sym c=>[c]
def Pc.mk:Pc→S_numfmt_piece
  | .lit t=>⟨B t,true⟩
  | .sym c=>⟨B [c],false⟩
def isL (c:UInt8):Bool:=c∈([32,36,45,43,40,41,47,58]:List UInt8)
def tokE:List UInt8→Option (Pc × List UInt8)
  | []=>none
  | d::r=>some (.lit [d],r)
def tok1:List UInt8→Option (Pc × List UInt8)
  | []=>none
  | c::r=>if c=92 then tokE r else if c=34 then (if 34∈r then some (.lit (r.takeWhile (·≠34)),(r.dropWhile (·≠34)).tail) else none)
    else if isL c then some (.lit [c],r) else some (.sym c,r)
inductive Tks:List UInt8→List Pc→Bool→Prop
  | nil:Tks [] [] true
  | bad {l}:l≠[]→tok1 l=none→Tks l [] false
  | step {l p r ts e}:tok1 l=some (p,r)→Tks r ts e→Tks l (p::ts) e
theorem take_drop34 {r:List UInt8} (h:34∈r):∃ a b,r=a++34::b∧34∉a∧r.takeWhile (·≠34)=a∧(r.dropWhile (·≠34)).tail=b:=by
  rcases parts1 34 r with q | ⟨a,b,rfl,q⟩
  · exact absurd h q
  · refine ⟨a,b,rfl,q,?_,?_⟩
    · rw [List.takeWhile_append_of_pos]
      · simp
      · intro c hc;have:c≠34:=fun e=>q (e ▸ hc);simpa using this
    · rw [List.dropWhile_append_of_pos]
      · simp
      · intro c hc;have:c≠34:=fun e=>q (e ▸ hc);simpa using this
theorem tok1_cases {l:List UInt8} (h:l≠[]) :
    (∃ d r,l=92::d::r∧tok1 l=some (.lit [d],r))∨(l=[92]∧tok1 l=none)∨(∃ a b,l=34::(a++34::b)∧34∉a∧tok1 l=some (.lit a,b))∨(∃ r,l=34::r∧34∉r∧tok1 l=none)
    ∨ (∃ c r,l=c::r∧c≠92∧c≠34∧isL c=true∧tok1 l=some (.lit [c],r))∨(∃ c r,l=c::r∧c≠92∧c≠34∧isL c=false∧tok1 l=some (.sym c,r)):=by
  cases l with
  | nil=>exact absurd rfl h
  | cons c r =>
    by_cases h1:c=92
    · subst h1
      cases r with
      | nil=>exact .inr (.inl ⟨rfl,rfl⟩)
      | cons d r=>exact .inl ⟨d,r,rfl,rfl⟩
    · by_cases h2:c=34
      · subst h2
        by_cases h3:34∈r
        · obtain ⟨a,b,rfl,q,e1,e2⟩:=take_drop34 h3
          refine .inr (.inr (.inl ⟨a,b,rfl,q,?_⟩))
          rw [tok1,if_neg h1,if_pos rfl,if_pos h3,e1,e2]
        · refine .inr (.inr (.inr (.inl ⟨r,rfl,h3,?_⟩)))
          rw [tok1,if_neg h1,if_pos rfl,if_neg h3]
      · cases h3:isL c with
        | true=>exact .inr (.inr (.inr (.inr (.inl ⟨c,r,rfl,h1,h2,h3,by rw [tok1,if_neg h1,if_neg h2,if_pos h3]⟩))))
        | false=>exact .inr (.inr (.inr (.inr (.inr ⟨c,r,rfl,h1,h2,h3,by rw [tok1,if_neg h1,if_neg h2,h3];rfl⟩))))
theorem tok1_len {l r:List UInt8} {p:Pc} (h:tok1 l=some (p,r)):p.bytes.length+r.length≤l.length∧r.length<l.length:=by
  have hn:l≠[]:=by rintro rfl;cases h
  rcases tok1_cases hn with ⟨d,q,rfl,e⟩ | ⟨rfl,e⟩ | ⟨a,b,rfl,_,e⟩ | ⟨q,rfl,_,e⟩ | ⟨c,q,rfl,_,_,_,e⟩ | ⟨c,q,rfl,_,_,_,e⟩ <;> rw [e] at h <;> cases h <;> simp [Pc.bytes] <;> omega
theorem tks_any:∀ (n:Nat) (l:List UInt8),l.length<n→∃ ts e,Tks l ts e
  | 0,l,h=>by omega
  | n+1,l,h=>by
    by_cases hn:l=[]
    · subst hn;exact ⟨_,_,.nil⟩
    · cases ht:tok1 l with
      | none=>exact ⟨_,_,.bad hn ht⟩
      | some q =>
        obtain ⟨p,r⟩:=q
        have:=tok1_len ht
        obtain ⟨ts,e,h1⟩:=tks_any n r (by omega)
        exact ⟨_,_,.step ht h1⟩
theorem tks_len {l:List UInt8} {ts:List Pc} {e:Bool} (h:Tks l ts e):ts.length≤l.length:=by
  induction h with
  | nil=>exact Nat.le_refl _
  | bad h1 h2=>exact Nat.zero_le _
  | step h1 h2 ih=>have:=tok1_len h1;rw [List.length_cons];omega
def splitP (acc:List (List Pc)) (tail:List Pc):List Pc→List (List Pc)
  | []=>acc++[tail]
  | p::ts=>if p=.sym 59 then splitP (acc++[tail]) [] ts else splitP acc (tail++[p]) ts
theorem litC (k:Nat) (c:UInt8):g_st_Contains k (ByteArray.mk #[32,36,45,43,40,41,47,58]) (B [c])=some (isL c):=contains1 k [32,36,45,43,40,41,47,58] c
theorem dgtC (k:Nat) (c:UInt8):g_st_Contains k (ByteArray.mk #[48,35,44,46]) (B [c])=some (decide (c∈([48,35,44,46]:List UInt8))):=contains1 k [48,35,44,46] c
theorem parted_ok (k:Nat) {l:List UInt8} {ts:List Pc} {e:Bool} (h:Tks l ts e):∀ (n:Nat) (acc:List (List Pc)) (tail:List Pc),l.length<n→l.length≤64→acc.length+tail.length+l.length≤1000 →
    (e=false→∃ z,g_numfmt_parted_l0 k n (B l) (acc.map (·.map Pc.mk)) (tail.map Pc.mk)=some (Sum.inl z)) ∧
    (e=true→∃ A t z,g_numfmt_parted_l0 k n (B l) (acc.map (·.map Pc.mk)) (tail.map Pc.mk)=some (Sum.inr (A,t,z))∧A++[t]=(splitP acc tail ts).map (·.map Pc.mk)):=by
  have hlast:∀ {α:Type} {n:Nat} (hn:n≤1000),IntKind.wrap .i64 (((n+1:Nat):Int) - 1)=((n:Nat):Int):=fun hn=>by rw [wi (by omega) (by omega)];omega
  induction h with
  | nil =>
    intro n acc tail hn _ _
    obtain ⟨n,rfl⟩:∃ m,n=m+1:=⟨n - 1,by omega⟩
    refine ⟨fun h=>by (cases h),fun _=>⟨acc.map (·.map Pc.mk),tail.map Pc.mk,B [],?_,?_⟩⟩
    · rw [g_numfmt_parted_l0,Option.bind_some,B_size,df (by simp),bf]
    · simp [splitP]
  | @bad l h1 h2 =>
    intro n acc tail hn hl _
    obtain ⟨n,rfl⟩:∃ m,n=m+1:=⟨n - 1,by omega⟩
    refine ⟨fun _=>?_,fun h=>by (cases h)⟩
    have hpos:0<l.length:=by cases l with | nil=>exact absurd rfl h1 | cons c r=>simp
    rw [g_numfmt_parted_l0,Option.bind_some,B_size,dt (by omega),bt,dt (p:=(0:Int)≤0∧(0:Int)≤1∧(1:Int)≤((l.length:Nat):Int)) (by omega),bt,bt,B_ext]
    rcases tok1_cases h1 with ⟨d,q,rfl,e⟩ | ⟨rfl,e⟩ | ⟨a,b,rfl,_,e⟩ | ⟨q,rfl,hq,e⟩ | ⟨c,q,rfl,_,_,_,e⟩ | ⟨c,q,rfl,_,_,_,e⟩ <;> rw [e] at h2 <;> try cases h2
    · rw [show (([92]:List UInt8).drop (Int.toNat 0)).take (Int.toNat 1 - Int.toNat 0)=[92] from rfl,litC,Option.bind_some,Option.bind_some,show ix (strInts (B [92])) 0=some 92 from rfl,Option.bind_some,show decide ((92:Int)=92)=true from rfl,bt]
      exact ⟨_,rfl⟩
    · rw [show ((34::q).drop (Int.toNat 0)).take (Int.toNat 1 - Int.toNat 0)=[34] from rfl,litC,Option.bind_some,Option.bind_some,show ix (strInts (B (34::q))) 0=some 34 by rw [B_ints];rfl,Option.bind_some,show decide ((34:Int)=92)=false from rfl,bf,show decide ((34:Int)=34)=true from rfl,bt]
      simp only [List.length_cons] at hpos hl ⊢
      rw [dt (by omega),bt,B_ext,Option.bind_some,show ((34::q).drop (Int.toNat 1)).take (((q.length+1:Nat):Int).toNat - Int.toNat 1)=q by
        rw [toN,show Int.toNat 1=1 from rfl,List.drop_succ_cons,List.drop_zero,List.take_of_length_le (by omega)]]
      rw [show g_st_IndexByte k (B q) 34=some () from rfl,Option.bind_some,ixb_none (v:=34) (c:=34) rfl hq]
      exact ⟨_,rfl⟩
  | @step l p r ts e h1 h2 ih =>
    intro n acc tail hn hl hb
    obtain ⟨n,rfl⟩:∃ m,n=m+1:=⟨n - 1,by omega⟩
    have hlen:=tok1_len h1
    have hpos:0<l.length:=by omega
    have hne:l≠[]:=by rintro rfl;simp at hpos
    -- the next state
    have key:∀ (A':List (List Pc)) (t':List Pc),splitP acc tail (p::ts)=splitP A' t' ts→A'.length+t'.length≤acc.length+tail.length+1 →
        g_numfmt_parted_l0 k (n+1) (B l) (acc.map (·.map Pc.mk)) (tail.map Pc.mk)=g_numfmt_parted_l0 k n (B r) (A'.map (·.map Pc.mk)) (t'.map Pc.mk) →
        (e=false→∃ z,g_numfmt_parted_l0 k (n+1) (B l) (acc.map (·.map Pc.mk)) (tail.map Pc.mk)=some (Sum.inl z)) ∧
        (e=true→∃ A t z,g_numfmt_parted_l0 k (n+1) (B l) (acc.map (·.map Pc.mk)) (tail.map Pc.mk)=some (Sum.inr (A,t,z))∧A++[t]=(splitP acc tail (p::ts)).map (·.map Pc.mk)):=by
      intro A' t' e1 e2 e3
      rw [e3,e1]
      exact ih n A' t' (by omega) (by omega) (by omega)
    have app1:(acc.map (·.map Pc.mk))++[tail.map Pc.mk]=(acc++[tail]).map (·.map Pc.mk):=by simp
    -- the step,from what the switch gives
    have fin:∀ (x1716:Int) (hx:0≤x1716∧x1716≤((l.length:Nat):Int)) (hr:(l.drop x1716.toNat)=r),
        g_numfmt_parted_l0 k (n+1) (B l) (acc.map (·.map Pc.mk)) (tail.map Pc.mk)=((((some ((ByteArray.toList p.mk.ftext==ByteArray.toList (ByteArray.mk #[59]))&&((p.mk.fliteral==false)&&true))).bind fun x1771=>(bif x1771 then (bif (decide ((List.length ((acc.map (·.map Pc.mk))++[(tail.map Pc.mk)])+1)*24≤140737488355328)) then some (((acc.map (·.map Pc.mk))++[(tail.map Pc.mk)]),([]:List S_numfmt_piece)) else none) else ((some (IntKind.wrap .i64 (((List.length (acc.map (·.map Pc.mk))+1:Nat):Int) - 1))).bind fun x1790=>((some (IntKind.wrap .i64 (((List.length (acc.map (·.map Pc.mk))+1:Nat):Int) - 1))).bind fun x1791=>(bif (decide ((x1791:Int)=((List.length (acc.map (·.map Pc.mk)):Nat):Int))) then (bif (decide (((List.length (tail.map Pc.mk))+(List.length ([p.mk]:List S_numfmt_piece)))*24≤140737488355328)) then (bif (decide ((x1790:Int)=((List.length (acc.map (·.map Pc.mk)):Nat):Int))) then some ((acc.map (·.map Pc.mk)),((tail.map Pc.mk)++([p.mk]:List S_numfmt_piece))) else none) else none) else none))))):Option ((List (List S_numfmt_piece)) × (List S_numfmt_piece))).bind fun (x1765,x1766)=>(bif (decide (0≤(x1716:Int)∧(x1716:Int)≤((ByteArray.size (B l):Nat):Int)∧((ByteArray.size (B l):Nat):Int)≤((ByteArray.size (B l):Nat):Int))) then ((some (ByteArray.extract (B l) (Int.toNat x1716) (Int.toNat ((ByteArray.size (B l):Nat):Int)))).bind fun x1797=>(g_numfmt_parted_l0 k n x1797 x1765 x1766)) else none))→(e=false→∃ z,g_numfmt_parted_l0 k (n+1) (B l) (acc.map (·.map Pc.mk)) (tail.map Pc.mk)=some (Sum.inl z)) ∧
        (e=true→∃ A t z,g_numfmt_parted_l0 k (n+1) (B l) (acc.map (·.map Pc.mk)) (tail.map Pc.mk)=some (Sum.inr (A,t,z))∧A++[t]=(splitP acc tail (p::ts)).map (·.map Pc.mk)):=by
      intro x hx hr hstep
      have hcut:ByteArray.extract (B l) (Int.toNat x) (Int.toNat ((ByteArray.size (B l):Nat):Int))=B r:=by
        rw [B_ext,B_size,toN,hr,List.take_of_length_le (by rw [← hr,List.length_drop];omega)]
      rw [hcut,B_size,dt (p:=0≤x∧x≤((l.length:Nat):Int)∧((l.length:Nat):Int)≤((l.length:Nat):Int)) (by omega)] at hstep
      by_cases hs:p=.sym 59
      · subst hs
        refine key (acc++[tail]) [] (by rw [splitP,if_pos rfl]) (by simp) ?_
        rw [hstep,show (ByteArray.toList (Pc.mk (.sym 59)).ftext==ByteArray.toList (ByteArray.mk #[59])&&((Pc.mk (.sym 59)).fliteral==false&&true))=true from by
          rw [show (Pc.mk (.sym 59)).ftext=B [59] from rfl,show (ByteArray.mk #[59])=B [59] from rfl,beq_self_eq_true];rfl]
        rw [Option.bind_some,bt,dt (by rw [app1,List.length_map,List.length_append,List.length_cons,List.length_nil];omega),bt,Option.bind_some,app1]
        rfl
      · refine key acc (tail++[p]) (by rw [splitP,if_neg hs]) (by simp;omega) ?_
        have hb:(ByteArray.toList p.mk.ftext==ByteArray.toList (ByteArray.mk #[59])&&(p.mk.fliteral==false&&true))=false:=by
          cases p with
          | lit t=>simp [Pc.mk]
          | sym c =>
            have:c≠59:=fun e=>hs (by rw [e])
            rw [show (Pc.mk (.sym c)).ftext=B [c] from rfl,show (ByteArray.mk #[59])=B [59] from rfl,B_list,B_list,show ([c]==[59])=false from beq_eq_false_iff_ne.2 (by simpa using this)];rfl
        rw [hstep,hb,Option.bind_some,bf,List.length_map,Option.bind_some,Option.bind_some,List.length_map,hlast (α:=Unit) (by omega),dt rfl,bt,dt (by simp only [List.length_cons,List.length_nil];omega),bt,bt,Option.bind_some]
        simp only [bt,Option.bind_some,List.map_append,List.map_cons,List.map_nil]
    rcases tok1_cases hne with ⟨d,q,rfl,e1⟩ | ⟨rfl,e1⟩ | ⟨a,b,rfl,ha,e1⟩ | ⟨q,rfl,hq,e1⟩ | ⟨c,q,rfl,c1,c2,c3,e1⟩ | ⟨c,q,rfl,c1,c2,c3,e1⟩ <;> rw [e1] at h1 <;> cases h1
    · refine fin 2 (by simp;omega) (by simp) ?_
      simp only [List.length_cons] at hpos
      rw [g_numfmt_parted_l0,Option.bind_some,B_size,dt (by simp only [List.length_cons];omega),bt,dt (by simp only [List.length_cons];omega),bt,bt,B_ext]
      rw [show ((92::d::r).drop (Int.toNat 0)).take (Int.toNat 1 - Int.toNat 0)=[92] from rfl,litC,Option.bind_some,Option.bind_some,show ix (strInts (B (92::d::r))) 0=some 92 by rw [B_ints];rfl,Option.bind_some,show decide ((92:Int)=92)=true from rfl,bt,
        Option.bind_some,df (by simp only [List.length_cons];omega),bf,dt (by simp only [List.length_cons];omega),bt,B_ext]
      rfl
    · have hl2:(34::(a++34::r)).length=a.length+r.length+2:=by simp;omega
      refine fin (a.length+2:Nat) (by rw [hl2];omega) ?_ ?_
      · rw [toN,show 34::(a++34::r)=(34::a++[34])++r by simp,show a.length+2=(34::a++[34]).length by simp,List.drop_left]
      rw [g_numfmt_parted_l0,Option.bind_some,B_size,dt (by omega),bt,dt (by omega),bt,bt,B_ext]
      rw [show ((34::(a++34::r)).drop (Int.toNat 0)).take (Int.toNat 1 - Int.toNat 0)=[34] from rfl,litC,Option.bind_some,Option.bind_some,show ix (strInts (B (34::(a++34::r)))) 0=some 34 by rw [B_ints];rfl,Option.bind_some,show decide ((34:Int)=92)=false from rfl,bf,show decide ((34:Int)=34)=true from rfl,bt,
        dt (by omega),bt,Option.bind_some,B_ext]
      rw [show ((34::(a++34::r)).drop (Int.toNat 1)).take ((((34::(a++34::r)).length:Nat):Int).toNat - Int.toNat 1)=a++34::r by
        rw [toN,show Int.toNat 1=1 from rfl,List.drop_succ_cons,List.drop_zero,List.take_of_length_le (by rw [hl2];simp;omega)]]
      rw [show g_st_IndexByte k (B (a++34::r)) 34=some () from rfl,Option.bind_some,ixb_some (v:=34) (c:=34) rfl ha,df (by omega),bf,Option.bind_some,wi (n:=(a.length:Int)+1) (by omega) (by omega),dt (by omega),bt,Option.bind_some,Option.bind_some,B_ext,
        wi (n:=(a.length:Int)+2) (by omega) (by omega)]
      rw [show ((34::(a++34::r)).drop (Int.toNat 1)).take (((a.length:Int)+1).toNat - Int.toNat 1)=a by
        rw [show Int.toNat 1=1 from rfl,List.drop_succ_cons,List.drop_zero,show ((a.length:Int)+1).toNat - 1=a.length by omega,List.take_left]]
      rfl
    · refine fin 1 (by simp;omega) (by simp) ?_
      rw [g_numfmt_parted_l0,Option.bind_some,B_size,dt (by simp only [List.length_cons];omega),bt,dt (by simp only [List.length_cons];omega),bt,bt,B_ext]
      rw [show ((c::r).drop (Int.toNat 0)).take (Int.toNat 1 - Int.toNat 0)=[c] from rfl,litC,Option.bind_some,Option.bind_some,show ix (strInts (B (c::r))) 0=some (c.toNat:Int) by rw [B_ints];rfl,Option.bind_some,
        show decide ((c.toNat:Int)=92)=false by rw [show (92:Int)=((92:UInt8).toNat:Int) from rfl,u8_eq,df c1],bf,show decide ((c.toNat:Int)=34)=false by rw [show (34:Int)=((34:UInt8).toNat:Int) from rfl,u8_eq,df c2],bf,Option.bind_some,c3]
      rfl
    · refine fin 1 (by simp;omega) (by simp) ?_
      rw [g_numfmt_parted_l0,Option.bind_some,B_size,dt (by simp only [List.length_cons];omega),bt,dt (by simp only [List.length_cons];omega),bt,bt,B_ext]
      rw [show ((c::r).drop (Int.toNat 0)).take (Int.toNat 1 - Int.toNat 0)=[c] from rfl,litC,Option.bind_some,Option.bind_some,show ix (strInts (B (c::r))) 0=some (c.toNat:Int) by rw [B_ints];rfl,Option.bind_some,
        show decide ((c.toNat:Int)=92)=false by rw [show (92:Int)=((92:UInt8).toNat:Int) from rfl,u8_eq,df c1],bf,show decide ((c.toNat:Int)=34)=false by rw [show (34:Int)=((34:UInt8).toNat:Int) from rfl,u8_eq,df c2],bf,Option.bind_some,c3]
      rfl
def spn:List Pc→List UInt8 × Nat × List Pc
  | []=>([],0,[])
  | .lit t::ts=>(t++(spn ts).1,(spn ts).2.1,(spn ts).2.2)
  | .sym c::ts=>if c=37 then (37::(spn ts).1,(spn ts).2.1+1,(spn ts).2.2) else ([],0,.sym c::ts)
def spd:List Pc→List UInt8 × List Pc
  | []=>([],[])
  | .lit t::ts=>([],.lit t::ts)
  | .sym c::ts=>if c∈([48,35,44,46]:List UInt8) then (c::(spd ts).1,(spd ts).2) else ([],.sym c::ts)
def spt:List Pc→List UInt8 × List Pc
  | []=>([],[])
  | .lit t::ts=>(t++(spt ts).1,(spt ts).2)
  | .sym c::ts=>if c=64 then (0::(spt ts).1,(spt ts).2) else ([],.sym c::ts)
structure Sec where
  before:List UInt8
  after:List UInt8
  d:Dg
  pct:Nat
  dig:Bool
  text:Bool
def dz:Dg:=⟨0,0,false,0,0,false⟩
def secT (text:Bool) (ts:List Pc):Option (Sec × List Pc) :=
  if text then some (⟨(spt ts).1,[],dz,0,false,true⟩,(spt ts).2)
  else (if (spd (spn ts).2.2).1=[] then some dz else dgP (spd (spn ts).2.2).1).map fun d =>
    (⟨(spn ts).1,(spn (spd (spn ts).2.2).2).1,d,(spn ts).2.1+(spn (spd (spn ts).2.2).2).2.1,decide ((spd (spn ts).2.2).1≠[]),false⟩,(spn (spd (spn ts).2.2).2).2.2)
def tot:List Pc→Nat
  | []=>0
  | p::ts=>p.bytes.length+tot ts
theorem tks_tot {l:List UInt8} {ts:List Pc} {e:Bool} (h:Tks l ts e):tot ts≤l.length:=by
  induction h with
  | nil=>exact Nat.le_refl _
  | bad h1 h2=>exact Nat.zero_le _
  | step h1 h2 ih=>have:=tok1_len h1;rw [tot];omega
theorem sp_len:∀ ts:List Pc,(spn ts).1.length+tot (spn ts).2.2=tot ts∧(spn ts).2.2.length≤ts.length∧(spn ts).2.1≤ts.length
  | []=>⟨rfl,Nat.le_refl _,Nat.le_refl _⟩
  | .lit t::ts=>by
    obtain ⟨a,b,c⟩:=sp_len ts
    rw [spn,tot,Pc.bytes,List.length_append,List.length_cons]
    exact ⟨by dsimp only;omega,by dsimp only;omega,by dsimp only;omega⟩
  | .sym c::ts=>by
    obtain ⟨a,b,c'⟩:=sp_len ts
    rw [spn]
    split
    · rw [tot,Pc.bytes,List.length_cons,List.length_cons,List.length_cons,List.length_nil]
      exact ⟨by simp only;omega,by simp only;omega,by simp only;omega⟩
    · exact ⟨by simp,Nat.le_refl _,Nat.zero_le _⟩
theorem spd_len:∀ ts:List Pc,(spd ts).1.length+tot (spd ts).2=tot ts∧(spd ts).1.length+(spd ts).2.length=ts.length
  | []=>⟨rfl,rfl⟩
  | .lit t::ts=>by rw [spd];exact ⟨by simp,by simp⟩
  | .sym c::ts=>by
    obtain ⟨a,b⟩:=spd_len ts
    rw [spd]
    split
    · rw [tot,Pc.bytes,List.length_cons,List.length_cons,List.length_cons,List.length_nil]
      exact ⟨by dsimp only;omega,by dsimp only;omega⟩
    · exact ⟨by simp,by simp⟩
theorem spd_dgt:∀ ts:List Pc,∀ c∈(spd ts).1,dgt c
  | []=>by simp [spd]
  | .lit t::ts=>by simp [spd]
  | .sym c::ts=>by
    have ih:=spd_dgt ts
    rw [spd]
    split
    · rename_i h
      intro d hd
      rcases List.mem_cons.1 hd with rfl | hd
      · simpa [dgt] using h
      · exact ih d hd
    · simp
theorem spd_drop:∀ ts:List Pc,ts.drop (spd ts).1.length=(spd ts).2
  | []=>rfl
  | .lit t::ts=>rfl
  | .sym c::ts=>by
    rw [spd]
    split
    · exact spd_drop ts
    · rfl
theorem ix_map {ts pre rest:List Pc} (h:ts=pre++rest):ix (ts.map Pc.mk) (pre.length:Int)=rest.head?.map Pc.mk:=by
  subst h
  unfold ix
  cases rest with
  | nil=>simp
  | cons p r=>simp
theorem ix_at {ts pre rest:List Pc} {p:Pc} (h:ts=pre++p::rest):ix (ts.map Pc.mk) (pre.length:Int)=some p.mk:=by
  rw [ix_map h];rfl
theorem inc {i:Nat} (h:i≤1000000):IntKind.wrap .i64 ((i:Int)+1)=((i+1:Nat):Int):=by rw [wi (by omega) (by omega)];omega
theorem bsym (c d:UInt8):((Pc.mk (.sym c)).ftext.toList==(B [d]).toList)=decide (c=d):=by
  rw [show (Pc.mk (.sym c)).ftext=B [c] from rfl,B_list,B_list]
  simp
  rfl
theorem side_l0 (k:Nat) (ts:List Pc) (hts:ts.length≤1000):∀ (n:Nat) (pre rest:List Pc) (acc:List UInt8) (pct:Nat),ts=pre++rest→rest.length<n→acc.length+tot rest≤1000→pct+rest.length≤10000 →
    g_numfmt_Section_side_l0 k (ts.map Pc.mk) n (B acc) (pre.length:Int) (pre.length:Int) (pct:Int)=some (B (acc++(spn rest).1),((ts.length - (spn rest).2.2.length:Nat):Int),((pct+(spn rest).2.1:Nat):Int))
  | 0,pre,rest,acc,pct,h,hn,hb,hp=>by omega
  | n+1,pre,rest,acc,pct,h,hn,hb,hp=>by
    have hl:ts.length=pre.length+rest.length:=by rw [h,List.length_append]
    rw [g_numfmt_Section_side_l0,Option.bind_some,List.length_map]
    cases rest with
    | nil =>
      rw [df (by simp at hl;omega),bf,spn]
      simp at hl
      simp [hl]
    | cons p r =>
      rw [List.length_cons] at hl hn hp
      rw [dt (by omega),bt,ix_at h,Option.bind_some]
      rw [tot] at hb
      have h':ts=(pre++[p])++r:=by rw [h];simp
      have e1:((pre++[p]).length:Nat)=pre.length+1:=by simp
      cases p with
      | lit t =>
        have ih:=side_l0 k ts hts n (pre++[.lit t]) r (acc++t) pct h' (by omega) (by rw [List.length_append];simp only [Pc.bytes] at hb;omega) (by omega)
        rw [e1] at ih
        rw [show (Pc.mk (.lit t)).fliteral=true from rfl,show (Pc.mk (.lit t)).ftext=B t from rfl,bt,Option.bind_some]
        simp only [B_size]
        rw [dt (by simp only [Pc.bytes] at hb;omega),bt,B_app,inc (by omega),ih,spn,List.append_assoc]
      | sym c =>
        rw [show (Pc.mk (.sym c)).fliteral=false from rfl,bf,show (ByteArray.mk #[37])=B [37] from rfl,bsym,Option.bind_some]
        by_cases hc:c=37
        · subst hc
          have ih:=side_l0 k ts hts n (pre++[.sym 37]) r (acc++[37]) (pct+1) h' (by omega) (by rw [List.length_append,List.length_cons,List.length_nil];simp only [Pc.bytes,List.length_cons,List.length_nil] at hb;omega) (by omega)
          rw [e1] at ih
          rw [dt rfl,bt,Option.bind_some]
          simp only [show (Pc.mk (.sym 37)).ftext=B [37] from rfl,B_size]
          rw [dt (by simp only [List.length_cons,List.length_nil];omega),bt,B_app,inc (by omega),inc (by omega),ih,spn,if_pos rfl]
          simp
          omega
        · rw [df hc,bf,Option.bind_some,spn,if_neg hc]
          simp
          omega
theorem side_ok (k:Nat) (hk:2000≤k) {ts:List Pc} (hts:ts.length≤1000) (hb:tot ts≤1000) (b a:ByteArray) (w z:Int) (pt:Bool) (p pz:Int) (g:Bool) {pct:Nat} (hp:pct≤1000) (dig txt:Bool) :
    g_numfmt_Section_side k (ts.map Pc.mk) b a w z pt p pz g (pct:Int) dig txt=some (B (spn ts).1,(spn ts).2.2.map Pc.mk,((pct+(spn ts).2.1:Nat):Int)):=by
  obtain ⟨h1,h2,h3⟩:=sp_len ts
  have h:=side_l0 k ts hts k [] ts [] pct rfl (by omega) (by simpa using hb) (by omega)
  rw [show ((([]:List Pc).length:Nat):Int)=0 from rfl] at h
  unfold g_numfmt_Section_side
  rw [show (ByteArray.mk #[])=B [] from rfl,h,Option.bind_some]
  simp only [List.length_map,List.nil_append]
  rw [dt (by omega),bt,toN,toN,List.take_of_length_le (by simp),← List.map_drop]
  congr 3
  have hd:∀ ts:List Pc,ts.drop (ts.length - (spn ts).2.2.length)=(spn ts).2.2:=by
    intro ts
    induction ts with
    | nil=>rfl
    | cons q ts ih =>
      have:=sp_len ts
      cases q with
      | lit t =>
        rw [spn,List.length_cons,show ts.length+1 - (spn ts).2.2.length=(ts.length - (spn ts).2.2.length)+1 by omega,List.drop_succ_cons]
        exact ih
      | sym c =>
        rw [spn]
        split
        · rw [List.length_cons,show ts.length+1 - (spn ts).2.2.length=(ts.length - (spn ts).2.2.length)+1 by omega,List.drop_succ_cons]
          exact ih
        · simp
  rw [hd]
theorem digs_l0 (k:Nat) (ts:List Pc) (hts:ts.length≤1000):∀ (n:Nat) (pre rest:List Pc) (f:Bool) (acc:List UInt8),ts=pre++rest→rest.length<n→acc.length+rest.length≤1000 →
    ∃ f',g_numfmt_Section_digits_l0 k (ts.map Pc.mk) n (pre.length:Int) f (I acc)=some (f',I (acc++(spd rest).1))
  | 0,pre,rest,f,acc,h,hn,hb=>by omega
  | n+1,pre,rest,f,acc,h,hn,hb=>by
    have hl:ts.length=pre.length+rest.length:=by rw [h,List.length_append]
    rw [g_numfmt_Section_digits_l0,Option.bind_some,List.length_map]
    cases rest with
    | nil =>
      rw [df (by simp at hl;omega),bf]
      exact ⟨f,by simp [spd]⟩
    | cons p r =>
      rw [List.length_cons] at hl hn hb
      rw [dt (by omega),bt,ix_at h,Option.bind_some]
      have h':ts=(pre++[p])++r:=by rw [h];simp
      have e1:((pre++[p]).length:Nat)=pre.length+1:=by simp
      cases p with
      | lit t =>
        rw [show (Pc.mk (.lit t)).fliteral=true from rfl,bt,Option.bind_some,bt]
        exact ⟨f,by simp [spd]⟩
      | sym c =>
        rw [show (Pc.mk (.sym c)).fliteral=false from rfl,bf,show (Pc.mk (.sym c)).ftext=B [c] from rfl,dgtC,Option.bind_some,Option.bind_some,spd]
        by_cases hc:c∈([48,35,44,46]:List UInt8)
        · rw [if_pos hc,dt hc,Bool.not_true,bf]
          have hw:∃ f',g_st_Builder_WriteString__b k (B [c]) f (I acc)=some f':=by
            unfold g_st_Builder_WriteString__b g_st_Builder_copyCheck__b
            rw [I_length,B_ints,I_length]
            cases f
            · rw [Bool.not_false,bt,Option.bind_some,dt (by simp only [List.length_cons,List.length_nil];omega),bt];exact ⟨_,rfl⟩
            · rw [Bool.not_true,bf,Option.bind_some,dt (by simp only [List.length_cons,List.length_nil];omega),bt];exact ⟨_,rfl⟩
          obtain ⟨f',hf⟩:=hw
          obtain ⟨f2,ih⟩:=digs_l0 k ts hts n (pre++[.sym c]) r f' (acc++[c]) h' (by omega) (by rw [List.length_append,List.length_cons,List.length_nil];omega)
          rw [e1] at ih
          rw [hf,Option.bind_some,inc (by omega),B_ints,← I_append,ih]
          exact ⟨f2,by simp⟩
        · rw [if_neg hc,df hc,Bool.not_false,bt]
          exact ⟨f,by simp⟩
theorem halves_mem:∀ (s:List UInt8) (c:UInt8),(c∈(halves s).1→c∈s)∧(c∈(halves s).2.1→c∈s)
  | [],c=>by simp [halves]
  | d::r,c=>by
    obtain ⟨a,b⟩:=halves_mem r c
    rw [halves]
    split
    · exact ⟨by simp,fun h=>List.mem_cons_of_mem _ h⟩
    · refine ⟨fun h=>?_,fun h=>List.mem_cons_of_mem _ (b h)⟩
      rcases List.mem_cons.1 h with rfl | h
      · exact List.mem_cons_self ..
      · exact List.mem_cons_of_mem _ (a h)
theorem halves_len:∀ s:List UInt8,(halves s).1.length+(halves s).2.1.length≤s.length
  | []=>Nat.le_refl _
  | d::r=>by
    have:=halves_len r
    rw [halves]
    split
    · simp
    · simp only [List.length_cons];omega
theorem cut_halves (k:Nat) {s:List UInt8} (hs:s.length≤100):g_st_Cut k (B s) (B [46])=some (B (halves s).1,B (halves s).2.1,(halves s).2.2):=by
  rcases parts1 46 s with h | ⟨a,b,rfl,h⟩
  · rw [Cut_no k h,halves_no h]
  · rw [List.length_append,List.length_cons] at hs
    rw [Cut_at k h (by omega),halves_at h]
theorem need_no (k:Nat) (e:Int):g_numfmt_need k false e=some (Sum.inl ()):=rfl
theorem need_yes (k:Nat) (e:Int):g_numfmt_need k true e=some (Sum.inr ()):=rfl
def secD (ts:List Pc):Option Dg:=if (spd ts).1=[] then some dz else dgP (spd ts).1
theorem digits_ok (k:Nat) (hk:2000≤k) {ts:List Pc} (hts:ts.length≤64) (b a:ByteArray) (pct:Int) (txt:Bool) :
    g_numfmt_Section_digits k (ts.map Pc.mk) b a 0 0 false 0 0 false pct false txt=some (match secD ts with
      | some d=>Sum.inl ((spd ts).2.map Pc.mk,(d.whole:Int),(d.zeros:Int),d.point,(d.part:Int),(d.pz:Int),d.group,decide ((spd ts).1≠[]))
      | none=>Sum.inr (Sum.inl ())):=by
  obtain ⟨f,h0⟩:=digs_l0 k ts (by omega) k [] ts false [] rfl (by omega) (by simp;omega)
  rw [show ((([]:List Pc).length:Nat):Int)=0 from rfl,show I []=([]:List Int) from rfl,List.nil_append] at h0
  obtain ⟨q1,q2⟩:=spd_len ts
  have hd:=spd_dgt ts
  have hdrop:=spd_drop ts
  unfold g_numfmt_Section_digits secD
  rw [h0]
  simp only [Option.bind_some]
  unfold g_st_Builder_String
  generalize hs:(spd ts).1=s at *
  by_cases hn:s=[]
  · subst hn
    rw [dt (show (I ([]:List UInt8)).length=0 from rfl),bt,if_pos rfl]
    simp only [Option.bind_some]
    rw [show ByteArray.empty=B [] from rfl,show (ByteArray.mk #[])=B [] from rfl,beq_self_eq_true,bt]
    have:(spd ts).2=ts:=by rw [← hdrop];rfl
    rw [this]
    rfl
  · rw [df (by rw [I_length];intro e;exact hn (List.eq_nil_of_length_eq_zero e)),bf,if_neg hn]
    simp only [Option.bind_some]
    rw [strOf_I,show (ByteArray.mk #[])=B [] from rfl,show (ByteArray.mk #[46])=B [46] from rfl,show (ByteArray.mk #[44])=B [44] from rfl,show (ByteArray.mk #[48])=B [48] from rfl,
      show (ByteArray.mk #[44,44])=B [44,44] from rfl,show (ByteArray.mk #[44,46])=B [44,46] from rfl,show (ByteArray.mk #[48,35])=B [48,35] from rfl,show (ByteArray.mk #[35,48])=B [35,48] from rfl]
    have hsl:s.length≤64:=by omega
    have hl:=halves_len s
    rw [B_list,B_list,show (s==[])=false from beq_eq_false_iff_ne.2 hn,bf,cut_halves k (by omega),Option.bind_some]
    unfold dgP
    have hdp:∀ c∈(halves s).2.1,dgt c:=fun c hc=>hd c ((halves_mem s c).2 hc)
    have hw:(halves s).1.length≤64:=by omega
    have hp:(halves s).2.1.length≤64:=by omega
    generalize (halves s).1=w at *
    generalize (halves s).2.1=p at *
    generalize (halves s).2.2=pt at *
    have hnw:(noc w).length≤w.length:=List.length_filter_le _ _
    simp only
    rw [contains1,Option.bind_some,replace_eq k (by omega) w (by omega),Option.bind_some]
    simp only
    rw [count1,Option.bind_some,count1,Option.bind_some,prefix1,suffix1 k w 44 (by omega),contains2 k (by omega) hw,containsAny_eq k (by omega) p (by omega) hdp,contains2 k (by omega) (by omega),contains2 k (by omega) hp,B_list]
    simp only [Option.bind_some,B_size]
    have fin:∀ b:Bool,decide (okD w p)=b→(((if b=true then some (Sum.inr ()) else some (Sum.inl ())):Option (Unit ⊕ Unit)).bind fun y3927=>match y3927 with | (Sum.inl _)=>some (Sum.inr (Sum.inl ())) | (Sum.inr _)=>(bif (decide (0≤((s.length:Nat):Int)∧((s.length:Nat):Int)≤((List.length (ts.map Pc.mk):Nat):Int)∧((List.length (ts.map Pc.mk):Nat):Int)≤((List.length (ts.map Pc.mk):Nat):Int))) then some (Sum.inl ((List.drop (Int.toNat ((s.length:Nat):Int)) (List.take (Int.toNat ((List.length (ts.map Pc.mk):Nat):Int)) (ts.map Pc.mk))),(((noc w).length:Nat):Int),((w.count 48:Nat):Int),pt,((p.length:Nat):Int),((p.count 48:Nat):Int),decide (44∈w),true)) else none):Option (((List S_numfmt_piece) × Int × Int × Bool × Int × Int × Bool × Bool) ⊕ (Unit ⊕ Unit)))
        = some (match (if okD w p then some ⟨(noc w).length,w.count 48,pt,p.length,p.count 48,decide (44∈w)⟩ else none:Option Dg) with
          | some d=>Sum.inl ((spd ts).2.map Pc.mk,(d.whole:Int),(d.zeros:Int),d.point,(d.part:Int),(d.pz:Int),d.group,decide (s≠[]))
          | none=>Sum.inr (Sum.inl ())):=by
      intro b hb
      cases b with
      | false =>
        rw [if_neg (by simp),if_neg (of_decide_eq_false hb)]
        rfl
      | true =>
        rw [if_pos rfl,if_pos (of_decide_eq_true hb),Option.bind_some]
        simp only [List.length_map]
        rw [dt (by omega),bt,toN,toN,List.take_of_length_le (by simp),← List.map_drop,hdrop,dt hn]
    have e1:((noc w)==[])=decide (noc w=[]):=by by_cases h:noc w=[] <;> simp [h]
    have no:¬ okD w p→decide (okD w p)=false:=fun h=>df h
    rw [e1]
    unfold okD at no
    cases h1:decide (noc w=[]) with
    | true =>
      have f:=fin false (no (by simp [of_decide_eq_true h1]))
      cases decide (w.head? = some 44) <;> cases decide (w.getLast? = some 44) <;> cases (pos2 44 44 w).isSome <;> exact f
    | false =>
      have n1:=of_decide_eq_false h1
      cases h2:decide (w.head? = some 44) with
      | true=>exact fin false (no (by simp [of_decide_eq_true h2]))
      | false =>
        have n2:=of_decide_eq_false h2
        cases h3:decide (w.getLast? = some 44) with
        | true=>exact fin false (no (by simp [of_decide_eq_true h3]))
        | false =>
          have n3:=of_decide_eq_false h3
          cases h4:pos2 44 44 w with
          | some q=>exact fin false (no (by simp [h4]))
          | none =>
            cases h5:p.any pcs with
            | true=>exact fin false (no (by simp [h5]))
            | false =>
              cases h6:pos2 48 35 (noc w) with
              | some q=>exact fin false (no (by simp [h6]))
              | none =>
                cases h7:pos2 35 48 p with
                | some q=>exact fin false (no (by simp [h7]))
                | none=>exact fin true (dt ⟨n1,n2,n3,h4,h5,h6,h7⟩)
theorem text_l0 (k:Nat) (ts:List Pc) (hts:ts.length≤1000):∀ (n:Nat) (pre rest:List Pc) (acc:List UInt8),ts=pre++rest→rest.length<n→acc.length+tot rest≤1000 →
    g_numfmt_section_l0 k (ts.map Pc.mk) n (pre.length:Int) (B acc)=some (if (spt rest).2=[] then Sum.inr (B (acc++(spt rest).1)) else Sum.inl ())
  | 0,pre,rest,acc,h,hn,hb=>by omega
  | n+1,pre,rest,acc,h,hn,hb=>by
    have hl:ts.length=pre.length+rest.length:=by rw [h,List.length_append]
    rw [g_numfmt_section_l0,Option.bind_some,List.length_map]
    cases rest with
    | nil =>
      rw [df (by simp at hl;omega),bf]
      simp [spt]
    | cons p r =>
      rw [List.length_cons] at hl hn
      rw [dt (by omega),bt,ix_at h,Option.bind_some]
      rw [tot] at hb
      have h':ts=(pre++[p])++r:=by rw [h];simp
      have e1:((pre++[p]).length:Nat)=pre.length+1:=by simp
      cases p with
      | lit t =>
        have ih:=text_l0 k ts hts n (pre++[.lit t]) r (acc++t) h' (by omega) (by rw [List.length_append];simp only [Pc.bytes] at hb;omega)
        rw [e1] at ih
        rw [show (Pc.mk (.lit t)).fliteral=true from rfl,show (Pc.mk (.lit t)).ftext=B t from rfl,bt,need_yes,Option.bind_some,Option.bind_some]
        simp only
        rw [Bool.not_true,bf,Option.bind_some]
        simp only [B_size]
        rw [dt (by simp only [Pc.bytes] at hb;omega),bt,B_app,inc (by omega),ih,spt,List.append_assoc]
      | sym c =>
        rw [show (Pc.mk (.sym c)).fliteral=false from rfl,bf,show (ByteArray.mk #[64])=B [64] from rfl,bsym,Option.bind_some]
        by_cases hc:c=64
        · subst hc
          have ih:=text_l0 k ts hts n (pre++[.sym 64]) r (acc++[0]) h' (by omega) (by rw [List.length_append,List.length_cons,List.length_nil];simp only [Pc.bytes,List.length_cons,List.length_nil] at hb;omega)
          rw [e1] at ih
          rw [dt rfl,need_yes,Option.bind_some,Option.bind_some]
          simp only
          rw [Bool.not_false,bt,Option.bind_some,show (ByteArray.mk #[0])=B [0] from rfl]
          simp only [B_size]
          rw [dt (by simp only [List.length_cons,List.length_nil];omega),bt,B_app,inc (by omega),ih,spt,if_pos rfl]
          simp
        · rw [df hc,need_no,Option.bind_some,Option.bind_some,spt,if_neg hc]
          simp
def secP (text:Bool) (ts:List Pc):Option Sec:=(secT text ts).bind fun x=>if x.2=[] then some x.1 else none
def Sec.toP (x:Sec):S_numfmt_Section:=⟨B x.before,B x.after,x.d.whole,x.d.zeros,x.d.point,x.d.part,x.d.pz,x.d.group,x.pct,x.dig,x.text⟩
def Sec.toD (x:Sec):S_quireref14_Section:=⟨B x.before,B x.after,x.d.whole,x.d.zeros,x.d.point,x.d.part,x.d.pz,x.d.group,x.pct,x.dig,x.text⟩
theorem secT_text {text:Bool} {ts:List Pc} {x:Sec × List Pc} (h:secT text ts=some x):x.1.text=text:=by
  unfold secT at h
  cases text with
  | true=>simp at h;rw [← h]
  | false =>
    rw [if_neg (by simp)] at h
    cases hq:(if (spd (spn ts).2.2).1=[] then some dz else dgP (spd (spn ts).2.2).1) with
    | none=>rw [hq] at h;cases h
    | some d=>rw [hq] at h;cases h;rfl
theorem section_ok (k:Nat) (hk:2000≤k) {ts:List Pc} (hts:ts.length≤64) (hb:tot ts≤64) (text:Bool) :
    g_numfmt_section k (ts.map Pc.mk) text=some (match secP text ts with
      | some x=>Sum.inr (Sum.inr (x.toP.fBefore,x.toP.fAfter,x.toP.fWhole,x.toP.fZeros,x.toP.fPoint,x.toP.fPart,x.toP.fPartZero,x.toP.fGroup,x.toP.fPercent,x.toP.fDigits))
      | none=>Sum.inl ()):=by
  unfold g_numfmt_section secP secT
  cases text with
  | true =>
    have h:=text_l0 k ts (by omega) k [] ts [] rfl (by omega) (by simp;omega)
    rw [show ((([]:List Pc).length:Nat):Int)=0 from rfl,List.nil_append] at h
    rw [bt,show (ByteArray.mk #[])=B [] from rfl,h,if_pos rfl,Option.bind_some,Option.bind_some]
    by_cases hn:(spt ts).2=[]
    · simp only [if_pos hn];rfl
    · simp only [if_neg hn]
  | false =>
    obtain ⟨a1,a2,a3⟩:=sp_len ts
    have h1:=side_ok k hk (ts:=ts) (by omega) (by omega) (B []) (B []) 0 0 false 0 0 false (pct:=0) (by omega) false false
    rw [show ((0:Nat):Int)=0 from rfl] at h1
    rw [bf,show (ByteArray.mk #[])=B [] from rfl,h1,Option.bind_some,if_neg (by simp)]
    simp only
    generalize hts1:(spn ts).2.2=ts1 at *
    obtain ⟨b1,b2⟩:=spd_len ts1
    rw [digits_ok k hk (ts:=ts1) (by omega)]
    unfold secD
    rw [Option.bind_some]
    cases hq:(if (spd ts1).1=[] then some dz else dgP (spd ts1).1) with
    | none=>rfl
    | some d =>
      simp only [Option.map_some,Option.bind_some]
      have h2:=side_ok k hk (ts:=(spd ts1).2) (by omega) (by omega) (B (spn ts).1) (B []) d.whole d.zeros d.point d.part d.pz d.group (pct:=0+(spn ts).2.1) (by omega) (decide ((spd ts1).1≠[])) false
      rw [h2,Option.bind_some]
      simp only [Option.bind_some,List.length_map]
      by_cases hn:(spn (spd ts1).2).2.2=[]
      · rw [hn,show decide (((([]:List Pc).length:Nat):Int)=0)=true from rfl,need_yes,if_pos rfl,Option.bind_some]
        simp [Sec.toP]
      · rw [df (by intro e;exact hn (List.eq_nil_of_length_eq_zero (by omega))),need_no,if_neg hn]
        rfl
def progAll:Nat→List (List Pc)→Option (List Sec)
  | _,[]=>some []
  | n,q::qs=>(secP (decide (n=3)) q).bind fun x=>(progAll (n+1) qs).map (x::·)
def bigS (x:Sec):Bool:=decide (18<x.d.part)||(decide (20<x.d.whole)||decide (4<x.pct))
def outP (ts:List Pc) (e:Bool):List Sec × Int :=
  if e=false then ([],40) else if 4<(splitP [] [] ts).length then ([],40) else match progAll 0 (splitP [] [] ts) with
    | none=>([],40)
    | some xs=>if xs.any bigS then ([],3) else (xs,0)
theorem mem_splitP:∀ (ts:List Pc) (acc:List (List Pc)) (tail:List Pc),∀ q∈splitP acc tail ts,q∈acc∨(q.length≤tail.length+ts.length∧tot q≤tot tail+tot ts)
  | [],acc,tail,q,h=>by
    rw [splitP] at h
    rcases List.mem_append.1 h with h | h
    · exact .inl h
    · rw [List.mem_singleton] at h;subst h;exact .inr ⟨by simp,by simp [tot]⟩
  | p::ts,acc,tail,q,h=>by
    rw [splitP] at h
    have tap:∀ a b:List Pc,tot (a++b)=tot a+tot b:=by
      intro a b
      induction a with
      | nil=>simp [tot]
      | cons x a ih=>rw [List.cons_append,tot,tot,ih];omega
    split at h
    · rcases mem_splitP ts _ _ q h with h | ⟨h1,h2⟩
      · rcases List.mem_append.1 h with h | h
        · exact .inl h
        · rw [List.mem_singleton] at h;subst h;exact .inr ⟨by simp,by omega⟩
      · rw [tot] at h2
        exact .inr ⟨by simp at h1 ⊢;omega,by rw [tot];omega⟩
    · rcases mem_splitP ts _ _ q h with h | ⟨h1,h2⟩
      · exact .inl h
      · rw [tap] at h2
        exact .inr ⟨by simp at h1 ⊢;omega,by simp only [tot] at h2 ⊢;omega⟩
theorem text_of {text:Bool} {ts:List Pc} {x:Sec} (h:secP text ts=some x):x.text=text:=by
  unfold secP at h
  cases hq:secT text ts with
  | none=>rw [hq] at h;cases h
  | some y =>
    rw [hq,Option.bind_some] at h
    split at h
    · cases h;exact secT_text hq
    · cases h
theorem d3 (n:Nat):decide ((n:Int)=3)=decide (n=3):=by congr 1;exact propext (by omega)
theorem parse_l0 (k:Nat) (hk:2000≤k) (qs:List (List Pc)) (hq:∀ q∈qs,q.length≤64∧tot q≤64) (hn4:qs.length≤100):∀ (n:Nat) (pre rest:List (List Pc)) (xs:List Sec),qs=pre++rest→rest.length<n→xs.length=pre.length →
    (∀ ys,progAll pre.length rest=some ys→g_numfmt_Parse_l0 k (qs.map (·.map Pc.mk)) n (pre.length:Int) (xs.map Sec.toP)=some (Sum.inr (Sum.inr ((xs++ys).map Sec.toP)))) ∧
    (progAll pre.length rest=none→∃ z,g_numfmt_Parse_l0 k (qs.map (·.map Pc.mk)) n (pre.length:Int) (xs.map Sec.toP)=some (Sum.inl z))
  | 0,pre,rest,xs,h,hn,hx=>by omega
  | n+1,pre,rest,xs,h,hn,hx=>by
    have hl:qs.length=pre.length+rest.length:=by rw [h,List.length_append]
    rw [g_numfmt_Parse_l0,Option.bind_some,List.length_map]
    cases rest with
    | nil =>
      rw [df (by simp at hl;omega),bf]
      refine ⟨fun ys hy=>?_,fun hy=>by cases hy⟩
      cases hy
      simp
    | cons q r =>
      rw [List.length_cons] at hl hn
      have hix:ix (qs.map (·.map Pc.mk)) (pre.length:Int)=some (q.map Pc.mk):=by
        subst h
        unfold ix
        simp
      have hqq:=hq q (by rw [h];simp)
      rw [dt (by omega),bt,hix,Option.bind_some,d3,section_ok k hk hqq.1 hqq.2,Option.bind_some,progAll]
      have h':qs=(pre++[q])++r:=by rw [h];simp
      have e1:((pre++[q]).length:Nat)=pre.length+1:=by simp
      cases hs:secP (decide (pre.length=3)) q with
      | none=>exact ⟨fun ys hy=>(by cases hy),fun _=>⟨_,rfl⟩⟩
      | some x =>
        obtain ⟨i1,i2⟩:=parse_l0 k hk qs hq hn4 n (pre++[q]) r (xs++[x]) h' (by omega) (by simp [hx])
        rw [e1] at i1 i2
        simp only [Option.bind_some,List.length_map,List.length_cons,List.length_nil]
        rw [dt (by omega),bt,inc (by omega)]
        have et:(⟨x.toP.fBefore,x.toP.fAfter,x.toP.fWhole,x.toP.fZeros,x.toP.fPoint,x.toP.fPart,x.toP.fPartZero,x.toP.fGroup,x.toP.fPercent,x.toP.fDigits,decide (pre.length=3)⟩:S_numfmt_Section)=x.toP:=by
          rw [← text_of hs];rfl
        rw [et,show xs.map Sec.toP++[x.toP]=(xs++[x]).map Sec.toP by simp]
        refine ⟨fun ys hy=>?_,fun hy=>?_⟩
        · cases hp:progAll (pre.length+1) r with
          | none=>rw [hp] at hy;cases hy
          | some zs =>
            rw [hp] at hy
            cases hy
            rw [i1 zs hp]
            simp
        · cases hp:progAll (pre.length+1) r with
          | none=>exact i2 hp
          | some zs=>rw [hp] at hy;cases hy
theorem parse3_eq (k:Nat) (x:Sec):g_numfmt_Parse_3 k x.toP.fBefore x.toP.fAfter x.toP.fWhole x.toP.fZeros x.toP.fPoint x.toP.fPart x.toP.fPartZero x.toP.fGroup x.toP.fPercent x.toP.fDigits x.toP.fText=some (bigS x):=by
  unfold g_numfmt_Parse_3 bigS
  rw [show decide ((18:Int)<x.toP.fPart)=decide (18<x.d.part) by congr 1;exact propext (by show (18:Int)<(x.d.part:Int)↔_;omega),
    show decide ((20:Int)<x.toP.fWhole)=decide (20<x.d.whole) by congr 1;exact propext (by show (20:Int)<(x.d.whole:Int)↔_;omega),
    show decide ((4:Int)<x.toP.fPercent)=decide (4<x.pct) by congr 1;exact propext (by show (4:Int)<(x.pct:Int)↔_;omega),tS,tS,Option.bind_some]
theorem large_l0 (k:Nat) (xs:List Sec) (hl:xs.length≤100):∀ (n i:Nat),i≤xs.length→xs.length<n+i →
    (∃ j:Nat,g_sc_IndexFunc_numfmt_Section_numfmt_Section_l0 k (xs.map Sec.toP) n (i:Int)=some (Sum.inl (j:Int))∧(xs.drop i).any bigS=true)∨(g_sc_IndexFunc_numfmt_Section_numfmt_Section_l0 k (xs.map Sec.toP) n (i:Int)=some (Sum.inr ())∧(xs.drop i).any bigS=false)
  | 0,i,hi,hn=>by omega
  | n+1,i,hi,hn=>by
    rw [g_sc_IndexFunc_numfmt_Section_numfmt_Section_l0,Option.bind_some,List.length_map]
    by_cases h:i<xs.length
    · have ed:xs.drop i=xs[i]::xs.drop (i+1):=List.drop_eq_getElem_cons h
      have hix:ix (xs.map Sec.toP) (i:Int)=some xs[i].toP:=by
        unfold ix
        simp [List.getElem?_eq_getElem h]
      rw [dt (by omega),bt,hix,Option.bind_some,parse3_eq,Option.bind_some,ed,List.any_cons]
      cases hb:bigS xs[i] with
      | true=>exact .inl ⟨i,rfl,rfl⟩
      | false =>
        rw [bf,inc (by omega),Bool.false_or]
        exact large_l0 k xs hl n (i+1) (by omega) (by omega)
    · rw [df (by omega),bf]
      exact .inr ⟨rfl,by rw [List.drop_of_length_le (by omega)];rfl⟩
theorem large_eq (k:Nat) (hk:2000≤k) (xs:List Sec) (hl:xs.length≤100):g_sc_ContainsFunc_numfmt_Section_numfmt_Section k (xs.map Sec.toP)=some (xs.any bigS):=by
  unfold g_sc_ContainsFunc_numfmt_Section_numfmt_Section g_sc_IndexFunc_numfmt_Section_numfmt_Section
  rcases large_l0 k xs hl k 0 (by omega) (by omega) with ⟨j,a,b⟩ | ⟨a,b⟩
  · rw [show ((0:Nat):Int)=0 from rfl] at a
    rw [List.drop_zero] at b
    rw [a,b];simp
  · rw [show ((0:Nat):Int)=0 from rfl] at a
    rw [List.drop_zero] at b
    rw [a,b];rfl
theorem progAll_len:∀ (qs:List (List Pc)) (n:Nat) (xs:List Sec),progAll n qs=some xs→xs.length=qs.length
  | [],n,xs,h=>by cases h;rfl
  | q::qs,n,xs,h=>by
    rw [progAll] at h
    cases hs:secP (decide (n=3)) q with
    | none=>rw [hs] at h;cases h
    | some x =>
      rw [hs,Option.bind_some] at h
      cases hp:progAll (n+1) qs with
      | none=>rw [hp] at h;cases h
      | some zs=>rw [hp] at h;cases h;simp [progAll_len qs _ zs hp]
def general:List UInt8:=[71,101,110,101,114,97,108]
theorem Parse_ok (k:Nat) (hk:2000≤k) {l:List UInt8} {ts:List Pc} {e:Bool} (hl:l.length≤64) (h:Tks l ts e) (hb:anyBad l=false) (hg:l≠general) :
    g_numfmt_Parse k (B l)=some ((outP ts e).1.map Sec.toP,(outP ts e).2):=by
  unfold g_numfmt_Parse outP
  rw [B_size,Option.bind_some,df (by omega),bf,containsFunc_eq k l (by omega),hb,Option.bind_some,bf,show (ByteArray.mk #[71,101,110,101,114,97,108])=B general from rfl,B_list,B_list,show (l==general)=false from beq_eq_false_iff_ne.2 hg,Option.bind_some,bf]
  unfold g_numfmt_parted g_numfmt_pieces
  rw [Option.bind_some]
  obtain ⟨p1,p2⟩:=parted_ok k h k [] [] (by omega) hl (by simp;omega)
  rw [List.map_nil,List.map_nil] at p1 p2
  have hts:=tks_len h
  have htt:=tks_tot h
  cases e with
  | false =>
    obtain ⟨z,hz⟩:=p1 rfl
    rw [hz,if_pos rfl]
    rfl
  | true =>
    obtain ⟨A,t,z,hz,hA⟩:=p2 rfl
    rw [hz,if_neg (by simp)]
    simp only [Option.bind_some]
    have hm:∀ q∈splitP [] [] ts,q.length≤64∧tot q≤64:=fun q hq=>by
      rcases mem_splitP ts [] [] q hq with h | ⟨h1,h2⟩
      · simp at h
      · simp [tot] at h1 h2;exact ⟨by omega,by omega⟩
    rw [hA,List.length_map]
    by_cases h4:4<(splitP [] [] ts).length
    · rw [df (by omega),need_no,if_pos h4]
      rfl
    · rw [dt (by omega),need_yes,if_neg h4]
      simp only [Option.bind_some]
      obtain ⟨q1,q2⟩:=parse_l0 k hk (splitP [] [] ts) hm (by omega) k [] (splitP [] [] ts) [] rfl (by omega) rfl
      rw [show ((([]:List (List Pc)).length:Nat):Int)=0 from rfl] at q1 q2
      rw [show (([]:List (List Pc)).length:Nat)=0 from rfl,List.map_nil] at q1 q2
      cases hp:progAll 0 (splitP [] [] ts) with
      | none =>
        obtain ⟨z,hz⟩:=q2 hp
        rw [hz]
        rfl
      | some xs =>
        have hxl:=progAll_len _ _ _ hp
        rw [q1 xs hp,List.nil_append]
        simp only [Option.bind_some]
        rw [large_eq k hk xs (by omega),Option.bind_some]
        cases xs.any bigS <;> rfl
def hd (l:List UInt8):UInt8:=l.head?.getD 0
theorem ix_byte {s pre:List UInt8} {c:UInt8} {r:List UInt8} (h:s=pre++c::r):ix (I s) (pre.length:Int)=some (c.toNat:Int):=by
  subst h
  unfold ix I
  simp
theorem here_ok (k:Nat) {s pre l:List UInt8} (h:s=pre++l) (bad big:Bool):g_quireref14_reader_here k (B s) (pre.length:Int) bad big=some ((hd l).toNat:Int):=by
  unfold g_quireref14_reader_here
  rw [B_size,Option.bind_some,B_ints]
  cases l with
  | nil =>
    rw [df (by rw [h];simp),bf]
    rfl
  | cons c r =>
    rw [dt (by rw [h];simp;omega),bt,ix_byte h]
    rfl
theorem u8c (c d:UInt8) {v:Int} (hv:v=(d.toNat:Int)):decide ((c.toNat:Int)=v)=decide (c=d):=by rw [hv,u8_eq]
theorem isL_or (c:UInt8):isL c=(decide (c=32)||(decide (c=36)||(decide (c=45)||(decide (c=43)||(decide (c=40)||(decide (c=41)||(decide (c=47)||decide (c=58)))))))):=by
  unfold isL
  simp
theorem drop1 (p:List UInt8) (x:UInt8) (t:List UInt8):(p++x::t).drop (p.length+1)=t:=by rw [← List.drop_drop,List.drop_left];rfl
theorem lit_l0 (k:Nat) (s:List UInt8) (hs:s.length≤1000) (pre:List UInt8):∀ (n:Nat) (a0 rest:List UInt8),s=pre++34::(a0++rest)→rest.length<n →
    (34∉rest→g_quireref14_reader_literal_l0 k (B s) (pre.length:Int) n ((pre.length+1+a0.length:Nat):Int)=some (Sum.inr ())) ∧
    (∀ a b,rest=a++34::b→34∉a→g_quireref14_reader_literal_l0 k (B s) (pre.length:Int) n ((pre.length+1+a0.length:Nat):Int)=some (Sum.inl (B (a0++a),((s.length - b.length:Nat):Int))))
  | 0,a0,rest,h,hn=>by omega
  | n+1,a0,rest,h,hn=>by
    have hl:s.length=pre.length+(a0.length+rest.length+1):=by rw [h];simp
    rw [g_quireref14_reader_literal_l0,B_size,Option.bind_some,B_ints]
    cases rest with
    | nil =>
      rw [df (by simp at hl;omega),bf]
      exact ⟨fun _=>rfl,fun a b h=>by simp at h⟩
    | cons c r =>
      rw [List.length_cons] at hl hn
      have hx:ix (I s) ((pre.length+1+a0.length:Nat):Int)=some (c.toNat:Int):=by
        have h2:s=(pre++34::a0)++c::r:=by rw [h];simp
        have:=ix_byte h2
        rw [show (pre++34::a0).length=pre.length+1+a0.length by simp;omega] at this
        exact this
      rw [dt (by omega),bt,hx,Option.bind_some,u8c (v:=34) c 34 rfl]
      by_cases hc:c=34
      · subst hc
        rw [dt rfl,bt,inc (by omega),dt (by omega),bt,Option.bind_some,B_ext,toN,toN,inc (by omega)]
        refine ⟨fun h=>absurd (List.mem_cons_self ..) h,fun a b hab ha=>?_⟩
        cases a with
        | nil =>
          simp at hab
          subst hab
          have:(s.drop (pre.length+1)).take (pre.length+1+a0.length - (pre.length+1))=a0:=by
            rw [show pre.length+1+a0.length - (pre.length+1)=a0.length by omega,h,drop1,List.take_left]
          rw [this,List.append_nil]
          congr 3
          congr 1
          omega
        | cons x a=>simp at hab;rw [← hab.1] at ha;simp at ha
      · rw [df hc,bf,inc (by omega)]
        obtain ⟨i1,i2⟩:=lit_l0 k s hs pre n (a0++[c]) r (by rw [h];simp) (by omega)
        rw [show pre.length+1+(a0++[c]).length=pre.length+1+a0.length+1 by simp;omega] at i1 i2
        refine ⟨fun h=>i1 (by simp at h;exact h.2),fun a b hab ha=>?_⟩
        cases a with
        | nil=>simp at hab;exact absurd hab.1 hc
        | cons x a =>
          simp at hab
          obtain ⟨rfl,rfl⟩:=hab
          rw [i2 a b rfl (by simp at ha;exact ha.2)]
          simp
def litR (s pre l:List UInt8) (bad:Bool):ByteArray × Bool × Int × Bool :=
  match tok1 l with
  | some (.lit t,r)=>(B t,true,((s.length - r.length:Nat):Int),bad)
  | some (.sym _,_)=>(B [],false,(pre.length:Int),bad)
  | none=>(B [],false,(pre.length:Int),bif l.isEmpty then bad else true)
theorem literal_ok (k:Nat) (hk:2000≤k) {s pre l:List UInt8} (h:s=pre++l) (hs:s.length≤1000) (bad big:Bool):g_quireref14_reader_literal k (B s) (pre.length:Int) bad big=some (litR s pre l bad):=by
  have hl:s.length=pre.length+l.length:=by rw [h,List.length_append]
  unfold g_quireref14_reader_literal litR
  rw [here_ok k h,Option.bind_some,show (ByteArray.mk #[])=B [] from rfl]
  have chain:∀ c:UInt8,(bif (decide ((c.toNat:Int)=32)) then some (decide ((c.toNat:Int)=32)) else (bif (decide ((c.toNat:Int)=36)) then some (decide ((c.toNat:Int)=36)) else (bif (decide ((c.toNat:Int)=45)) then some (decide ((c.toNat:Int)=45)) else (bif (decide ((c.toNat:Int)=43)) then some (decide ((c.toNat:Int)=43)) else (bif (decide ((c.toNat:Int)=40)) then some (decide ((c.toNat:Int)=40)) else (bif (decide ((c.toNat:Int)=41)) then some (decide ((c.toNat:Int)=41)) else (bif (decide ((c.toNat:Int)=47)) then some (decide ((c.toNat:Int)=47)) else some (decide ((c.toNat:Int)=58)))))))))=some (isL c):=by
    intro c
    rw [u8c (v:=32) c 32 rfl,u8c (v:=36) c 36 rfl,u8c (v:=45) c 45 rfl,u8c (v:=43) c 43 rfl,u8c (v:=40) c 40 rfl,u8c (v:=41) c 41 rfl,u8c (v:=47) c 47 rfl,u8c (v:=58) c 58 rfl,isL_or]
    cases decide (c=32)
    · cases decide (c=36)
      · cases decide (c=45)
        · cases decide (c=43)
          · cases decide (c=40)
            · cases decide (c=41)
              · cases decide (c=47) <;> rfl
              · rfl
            · rfl
          · rfl
        · rfl
      · rfl
    · rfl
  rw [chain,Option.bind_some]
  by_cases hn:l=[]
  · subst hn
    rfl
  · rcases tok1_cases hn with ⟨d,q,rfl,e⟩ | ⟨rfl,e⟩ | ⟨a,b,rfl,ha,e⟩ | ⟨q,rfl,hq,e⟩ | ⟨c,q,rfl,c1,c2,c3,e⟩ | ⟨c,q,rfl,c1,c2,c3,e⟩ <;> rw [e]
    · simp only [List.length_cons] at hl
      rw [show hd (92::d::q)=92 from rfl,show isL 92=false from rfl,bf,u8c (v:=92) 92 92 rfl,dt rfl,bt,B_size,inc (by omega),Option.bind_some,df (by omega),bf]
      rw [show IntKind.wrap .i64 ((pre.length:Int)+2)=((pre.length+2:Nat):Int) by rw [wi (by omega) (by omega)];omega,show IntKind.wrap .i64 (((pre.length+2:Nat):Int) - 1)=((pre.length+1:Nat):Int) by rw [wi (by omega) (by omega)];omega,
        Option.bind_some,dt (by omega),bt,Option.bind_some,Option.bind_some,B_ext,toN,toN]
      rw [show (s.drop (pre.length+1)).take (pre.length+2 - (pre.length+1))=[d] by
        rw [show pre.length+2 - (pre.length+1)=1 by omega,h,drop1];rfl]
      rw [show pre.length+2=s.length - q.length by omega]
    · simp only [List.length_cons,List.length_nil] at hl
      rw [show hd [92]=92 from rfl,show isL 92=false from rfl,bf,u8c (v:=92) 92 92 rfl,dt rfl,bt,B_size,inc (by omega),Option.bind_some,dt (by omega),bt]
      rfl
    · rw [show hd (34::(a++34::b))=34 from rfl,show isL 34=false from rfl,bf,u8c (v:=92) 34 92 rfl,df (by decide),bf,u8c (v:=34) 34 34 rfl,dt rfl,bt,inc (by omega)]
      have:=(lit_l0 k s hs pre k [] (a++34::b) h (by simp at hl ⊢;omega)).2 a b rfl ha
      rw [show pre.length+1+([]:List UInt8).length=pre.length+1 from rfl,List.nil_append] at this
      rw [this]
      rfl
    · simp only [List.length_cons] at hl
      rw [show hd (34::q)=34 from rfl,show isL 34=false from rfl,bf,u8c (v:=92) 34 92 rfl,df (by decide),bf,u8c (v:=34) 34 34 rfl,dt rfl,bt,inc (by omega)]
      have:=(lit_l0 k s hs pre k [] q h (by omega)).1 hq
      rw [show pre.length+1+([]:List UInt8).length=pre.length+1 from rfl] at this
      rw [this]
      rfl
    · simp only [List.length_cons] at hl
      rw [show hd (c::q)=c from rfl,c3,bt,Option.bind_some,inc (by omega),show ([(c.toNat:Int)]:List Int)=I [c] from rfl,strOf_I,show pre.length+1=s.length - q.length by omega]
    · rw [show hd (c::q)=c from rfl,c3,bf,u8c (v:=92) c 92 rfl,df c1,bf,u8c (v:=34) c 34 rfl,df c2,bf]
      rfl
def mrg {α:Type}:α ⊕ α→α
  | Sum.inl x=>x
  | Sum.inr x=>x
theorem hd_tok {l r:List UInt8} {p:Pc} (h:tok1 l=some (p,r)):(∃ t,p=.lit t∧(hd l=92∨hd l=34∨isL (hd l)=true))∨(∃ c,p=.sym c∧l=c::r∧c≠92∧c≠34∧isL c=false):=by
  have hn:l≠[]:=by rintro rfl;cases h
  rcases tok1_cases hn with ⟨d,q,rfl,e⟩ | ⟨rfl,e⟩ | ⟨a,b,rfl,ha,e⟩ | ⟨q,rfl,hq,e⟩ | ⟨c,q,rfl,c1,c2,c3,e⟩ | ⟨c,q,rfl,c1,c2,c3,e⟩ <;> rw [e] at h <;> cases h
  · exact .inl ⟨_,rfl,.inl rfl⟩
  · exact .inl ⟨_,rfl,.inr (.inl rfl)⟩
  · exact .inl ⟨_,rfl,.inr (.inr c3)⟩
  · exact .inr ⟨c,rfl,rfl,c1,c2,c3⟩
theorem hd_bad {l:List UInt8} (hn:l≠[]) (h:tok1 l=none):hd l=92∨hd l=34:=by
  rcases tok1_cases hn with ⟨d,q,rfl,e⟩ | ⟨rfl,e⟩ | ⟨a,b,rfl,ha,e⟩ | ⟨q,rfl,hq,e⟩ | ⟨c,q,rfl,c1,c2,c3,e⟩ | ⟨c,q,rfl,c1,c2,c3,e⟩ <;> rw [e] at h <;> try cases h
  · exact .inl rfl
  · exact .inr rfl
theorem lit_ne {c:UInt8} (h:c=92∨c=34∨isL c=true):c≠37∧c≠59∧c≠64∧¬ dgt c:=by
  have:∀ d:UInt8,(d≠92∧d≠34∧isL d=false)→c≠d:=by
    rintro d ⟨h1,h2,h3⟩ rfl
    rcases h with h | h | h
    · exact h1 h
    · exact h2 h
    · rw [h3] at h;cases h
  refine ⟨this 37 (by decide),this 59 (by decide),this 64 (by decide),?_⟩
  rintro (h | h | h | h)
  · exact this 48 (by decide) h
  · exact this 35 (by decide) h
  · exact this 44 (by decide) h
  · exact this 46 (by decide) h
theorem ref_side0 (k:Nat) (hk:2000≤k) {s:List UInt8} (hs:s.length≤64) (big:Bool) {l:List UInt8} {ts:List Pc} {e:Bool} (ht:Tks l ts e):∀ (n:Nat) (pre acc:List UInt8) (pct:Nat),s=pre++l→l.length<n→acc.length+l.length≤1000→pct+l.length≤1000 →
    ∃ y pre' r',g_quireref14_reader_side_l0 k (B s) big n (B acc) (pre.length:Int) false (pct:Int)=some y∧s=pre'++r'∧Tks r' (spn ts).2.2 e∧mrg y=(B (acc++(spn ts).1),(pre'.length:Int),(spn ts).2.2.isEmpty&&!e,((pct+(spn ts).2.1:Nat):Int)):=by
  induction ht with
  | nil =>
    intro n pre acc pct h hn hb hp
    obtain ⟨n,rfl⟩:∃ m,n=m+1:=⟨n - 1,by omega⟩
    refine ⟨Sum.inl (B acc,(pre.length:Int),false,(pct:Int)),pre,[],?_,h,.nil,?_⟩
    · rw [g_quireref14_reader_side_l0,Bool.not_false,bt,here_ok k h,Option.bind_some,u8c (v:=37) _ 37 rfl,df (by decide),bf,literal_ok k hk h (by omega),Option.bind_some]
      rfl
    · simp [mrg,spn]
  | @bad l h1 h2 =>
    intro n pre acc pct h hn hb hp
    obtain ⟨n,rfl⟩:∃ m,n=m+1:=⟨n - 1,by omega⟩
    have hne:hd l≠37:=(lit_ne (by rcases hd_bad h1 h2 with e | e;exact .inl e;exact .inr (.inl e))).1
    refine ⟨Sum.inl (B acc,(pre.length:Int),true,(pct:Int)),pre,l,?_,h,.bad h1 h2,?_⟩
    · rw [g_quireref14_reader_side_l0,Bool.not_false,bt,here_ok k h,Option.bind_some,u8c (v:=37) _ 37 rfl,df hne,bf,literal_ok k hk h (by omega),Option.bind_some]
      unfold litR
      rw [h2]
      have:l.isEmpty=false:=by cases l with | nil=>exact absurd rfl h1 | cons c r=>rfl
      simp only [this]
      rfl
    · simp [mrg,spn]
  | @step l p r ts e h1 h2 ih =>
    intro n pre acc pct h hn hb hp
    obtain ⟨n,rfl⟩:∃ m,n=m+1:=⟨n - 1,by omega⟩
    have hlen:=tok1_len h1
    have hl:s.length=pre.length+l.length:=by rw [h,List.length_append]
    rw [g_quireref14_reader_side_l0,Bool.not_false,bt,here_ok k h,Option.bind_some,u8c (v:=37) _ 37 rfl]
    rcases hd_tok h1 with ⟨t,rfl,hh⟩ | ⟨c,rfl,hl2,c1,c2,c3⟩
    · rw [df (lit_ne hh).1,bf,literal_ok k hk h (by omega),Option.bind_some]
      unfold litR
      rw [h1]
      simp only
      rw [Bool.not_true,bf,B_size,B_size]
      simp only [Pc.bytes] at hlen
      rw [dt (by omega),bt,B_app]
      have hs':s=s.take (s.length - r.length)++r:=by
        have hsuf:r=s.drop (s.length - r.length):=by
          have hr:l.drop (l.length - r.length)=r:=by
            rcases tok1_cases (l:=l) (by rintro rfl;cases h1) with ⟨d,q,rfl,e⟩ | ⟨rfl,e⟩ | ⟨a,b,rfl,ha,e⟩ | ⟨q,rfl,hq,e⟩ | ⟨c,q,rfl,c1,c2,c3,e⟩ | ⟨c,q,rfl,c1,c2,c3,e⟩ <;> rw [e] at h1 <;> cases h1
            · rw [show (92::_::r).length - r.length=2 by simp;omega];rfl
            · rw [show (34::(t++34::r)).length - r.length=(34::t++[34]).length by simp;omega,show 34::(t++34::r)=(34::t++[34])++r by simp,List.drop_left]
            · rw [show (_::r).length - r.length=1 by simp];rfl
          rw [h,List.length_append,show pre.length+l.length - r.length=pre.length+(l.length - r.length) by omega,← List.drop_drop,List.drop_left,hr]
        conv=>lhs;rw [← List.take_append_drop (s.length - r.length) s]
        rw [← hsuf]
      have hp':(s.take (s.length - r.length)).length=s.length - r.length:=by rw [List.length_take];omega
      obtain ⟨y,pre',r',i1,i2,i3,i4⟩:=ih n (s.take (s.length - r.length)) (acc++t) pct hs' (by omega) (by rw [List.length_append];omega) (by omega)
      rw [hp'] at i1
      refine ⟨y,pre',r',i1,i2,?_,?_⟩
      · rw [spn];exact i3
      · rw [i4,spn,List.append_assoc]
    · have hhd:hd l=c:=by rw [hl2];rfl
      rw [hhd]
      by_cases hc:c=37
      · subst hc
        rw [dt rfl,bt,show (ByteArray.mk #[37])=B [37] from rfl,B_size,B_size,dt (by simp only [List.length_cons,List.length_nil];omega),bt,B_app,inc (by omega),inc (by omega)]
        have hs':s=(pre++[37])++r:=by rw [h,hl2];simp
        obtain ⟨y,pre',r',i1,i2,i3,i4⟩:=ih n (pre++[37]) (acc++[37]) (pct+1) hs' (by omega) (by rw [List.length_append,List.length_cons,List.length_nil];omega) (by omega)
        have e37:(pre++[37]:List UInt8).length=pre.length+1:=by simp
        rw [e37] at i1
        refine ⟨y,pre',r',i1,i2,?_,?_⟩
        · rw [spn,if_pos rfl];exact i3
        · rw [i4,spn,if_pos rfl]
          simp
          omega
      · rw [df hc,bf,literal_ok k hk h (by omega),Option.bind_some]
        unfold litR
        rw [h1]
        refine ⟨_,pre,l,rfl,h,?_,?_⟩
        · rw [spn,if_neg hc];exact .step h1 h2
        · rw [spn,if_neg hc];simp [mrg]
theorem ref_side (k:Nat) (hk:2000≤k) {s pre l:List UInt8} (hs:s.length≤64) (h:s=pre++l) (big:Bool) {ts:List Pc} {e:Bool} (ht:Tks l ts e) (b a:ByteArray) (w z:Int) (pt:Bool) (p pz:Int) (g:Bool) {pct:Nat} (hp:pct≤500) (dig txt:Bool) :
    ∃ pre' r',g_quireref14_reader_side k (B s) (pre.length:Int) false big b a w z pt p pz g (pct:Int) dig txt=some (B (spn ts).1,(pre'.length:Int),(spn ts).2.2.isEmpty&&!e,((pct+(spn ts).2.1:Nat):Int))∧s=pre'++r'∧Tks r' (spn ts).2.2 e:=by
  have hl:s.length=pre.length+l.length:=by rw [h,List.length_append]
  obtain ⟨y,pre',r',h1,h2,h3,h4⟩:=ref_side0 k hk hs big ht k pre [] pct h (by omega) (by simp;omega) (by omega)
  refine ⟨pre',r',?_,h2,h3⟩
  unfold g_quireref14_reader_side
  rw [show (ByteArray.mk #[])=B [] from rfl,h1,Option.bind_some,← List.nil_append (spn ts).1,← h4]
  cases y <;> rfl
theorem ref_side_bad (k:Nat) (hk:2000≤k) (s:ByteArray) (at_:Int) (big:Bool) (b a:ByteArray) (w z:Int) (pt:Bool) (p pz:Int) (g:Bool) (pct:Int) (dig txt:Bool) :
    g_quireref14_reader_side k s at_ true big b a w z pt p pz g pct dig txt=some (B [],at_,true,pct):=by
  unfold g_quireref14_reader_side
  obtain ⟨n,rfl⟩:∃ m,k=m+1:=⟨k - 1,by omega⟩
  rw [g_quireref14_reader_side_l0]
  rfl
theorem place_ok (k:Nat) (c:UInt8):g_quireref14_place k (c.toNat:Int)=some (decide (c=48)||decide (c=35)):=by
  unfold g_quireref14_place
  rw [u8c (v:=48) c 48 rfl,u8c (v:=35) c 35 rfl,tS,Option.bind_some]
theorem plc_hd (l:List UInt8):plc l=(decide (hd l=48)||decide (hd l=35)):=by
  unfold plc hd
  cases l with
  | nil=>rfl
  | cons c r=>exact congr (congrArg or (decide_eq_decide.2 (by simp))) (decide_eq_decide.2 (by simp))
theorem ref_l0d (k:Nat) {s:List UInt8} (hs:s.length≤64) (bad big:Bool):∀ (n:Nat) (pre l:List UInt8) (w z:Nat) (g:Bool),s=pre++l→l.length<n→w+l.length≤1000→z+l.length≤1000 →
    (l.head? = some 44→∃ p c,pre=p++[c]∧(c=48∨c=35)) →
    (∀ w' z' g' r,dW w z g l=some (w',z',g',r)→∃ pre',s=pre'++r∧g_quireref14_reader_digits_l0 k (B s) bad big n (pre.length:Int) (w:Int) (z:Int) g=some (Sum.inr ((pre'.length:Int),(w':Int),(z':Int),g'))) ∧
    (dW w z g l=none→∃ q,g_quireref14_reader_digits_l0 k (B s) bad big n (pre.length:Int) (w:Int) (z:Int) g=some (Sum.inl q))
  | 0,pre,l,w,z,g,h,hn,hw,hz,hi=>by omega
  | n+1,pre,l,w,z,g,h,hn,hw,hz,hi=>by
    have hl:s.length=pre.length+l.length:=by rw [h,List.length_append]
    rw [g_quireref14_reader_digits_l0,here_ok k h,Option.bind_some,place_ok,← plc_hd,Option.bind_some,Option.bind_some,tS,Option.bind_some,u8c (v:=44) _ 44 rfl]
    cases l with
    | nil =>
      rw [show plc []=false from rfl,show decide (hd []=44)=false from rfl,Bool.or_self,bf]
      refine ⟨fun w' z' g' r e=>?_,fun e=>by cases e⟩
      cases e
      exact ⟨pre,h,rfl⟩
    | cons c r =>
      rw [List.length_cons] at hl hn hw hz
      rw [show hd (c::r)=c from rfl,show plc (c::r)=(decide (c=48)||decide (c=35)) from plc_hd _,dW,Option.bind_some,u8c (v:=44) c 44 rfl]
      have h':s=(pre++[c])++r:=by rw [h];simp
      have e1:((pre++[c]:List UInt8).length:Nat)=pre.length+1:=by simp
      by_cases c44:c=44
      · subst c44
        rw [if_pos rfl,show (decide ((44:UInt8)=48)||decide ((44:UInt8)=35)||decide ((44:UInt8)=44))=true from rfl,bt,dt rfl,bt,B_size,inc (by omega),Option.bind_some,B_ints]
        have hpl:((bif (decide (((s.length:Nat):Int)≤((pre.length+1:Nat):Int))) then some true else ((ix (I s) ((pre.length+1:Nat):Int)).bind fun x6536=>((g_quireref14_place k x6536).bind fun x6538=>(bif (!x6538) then some true else ((ix (I s) (IntKind.wrap .i64 ((pre.length:Int) - 1))).bind fun x6540=>((g_quireref14_place k x6540).bind fun x6542=>some (!x6542))))))):Option Bool)=some (!plc r):=by
          cases r with
          | nil=>rw [dt (by simp at hl;omega),bt];rfl
          | cons d r =>
            have hx:ix (I s) ((pre.length+1:Nat):Int)=some (d.toNat:Int):=by rw [← e1];exact ix_byte h'
            rw [df (by simp at hl;omega),bf,hx,Option.bind_some,place_ok,Option.bind_some,show plc (d::r)=(decide (d=48)||decide (d=35)) from plc_hd _]
            cases hp:(decide (d=48)||decide (d=35)) with
            | false=>rw [Bool.not_false,bt]
            | true =>
              obtain ⟨p,c0,rfl,hc0⟩:=hi rfl
              have hx0:ix (I s) (p.length:Int)=some (c0.toNat:Int):=ix_byte (r:=44::d::r) (by rw [h];simp)
              rw [Bool.not_true,bf,show IntKind.wrap .i64 (((p++[c0]:List UInt8).length:Int) - 1)=(p.length:Int) by
                rw [List.length_append,List.length_cons,List.length_nil,wi (by simp at hl;omega) (by simp at hl;omega)];omega,hx0,Option.bind_some,place_ok,Option.bind_some]
              rcases hc0 with rfl | rfl <;> rfl
        rw [hpl,Option.bind_some]
        cases hp:plc r with
        | false =>
          rw [if_neg (by simp)]
          exact ⟨fun w' z' g' r e=>(by cases e),fun _=>⟨_,rfl⟩⟩
        | true =>
          rw [if_pos rfl,Bool.not_true,bf,← e1]
          exact ref_l0d k hs bad big n (pre++[44]) r w z true h' (by omega) (by omega) (by omega) (fun e=>by unfold plc at hp;rw [e] at hp;simp at hp)
      · rw [if_neg c44,df c44,Bool.or_false,bf,Option.bind_some,Option.bind_some,u8c (v:=35) c 35 rfl,u8c (v:=48) c 48 rfl]
        by_cases c35:c=35
        · subst c35
          rw [if_pos rfl,show (decide ((35:UInt8)=48)||decide ((35:UInt8)=35))=true from rfl,bt,dt rfl,bt,Option.bind_some]
          by_cases hz0:0<z
          · rw [if_pos hz0,dt (by omega),bt]
            exact ⟨fun w' z' g' r e=>(by cases e),fun _=>⟨_,rfl⟩⟩
          · rw [if_neg hz0,df (by omega),bf,show decide ((35:UInt8)=48)=false from rfl,bf,Option.bind_some,inc (by omega),inc (by omega),← e1]
            exact ref_l0d k hs bad big n (pre++[35]) r (w+1) z g h' (by omega) (by omega) (by omega) (fun _=>⟨pre,35,rfl,.inr rfl⟩)
        · rw [if_neg c35]
          by_cases c48:c=48
          · subst c48
            rw [if_pos rfl,show (decide ((48:UInt8)=48)||decide ((48:UInt8)=35))=true from rfl,bt,show decide ((48:UInt8)=35)=false from rfl,bf,Option.bind_some,bf,dt rfl,bt,Option.bind_some,inc (by omega),inc (by omega),inc (by omega),← e1]
            exact ref_l0d k hs bad big n (pre++[48]) r (w+1) (z+1) g h' (by omega) (by omega) (by omega) (fun _=>⟨pre,48,rfl,.inl rfl⟩)
          · rw [if_neg c48,df c48,df c35,Bool.or_self,bf]
            refine ⟨fun w' z' g' r e=>?_,fun e=>by cases e⟩
            cases e
            exact ⟨pre,h,rfl⟩
theorem ref_l1d (k:Nat) {s:List UInt8} (hs:s.length≤64) (bad big:Bool):∀ (n:Nat) (pre l:List UInt8) (p q:Nat),s=pre++l→l.length<n→p+l.length≤1000→q+l.length≤1000 →
    (∀ p' q' r,dPt p q l=some (p',q',r)→∃ pre',s=pre'++r∧g_quireref14_reader_digits_l1 k (B s) bad big n (pre.length:Int) (p:Int) (q:Int)=some (Sum.inr ((pre'.length:Int),(p':Int),(q':Int)))) ∧
    (dPt p q l=none→∃ y,g_quireref14_reader_digits_l1 k (B s) bad big n (pre.length:Int) (p:Int) (q:Int)=some (Sum.inl y))
  | 0,pre,l,p,q,h,hn,hp,hq=>by omega
  | n+1,pre,l,p,q,h,hn,hp,hq=>by
    have hl:s.length=pre.length+l.length:=by rw [h,List.length_append]
    rw [g_quireref14_reader_digits_l1,here_ok k h,Option.bind_some,place_ok,← plc_hd,Option.bind_some,Option.bind_some,u8c (v:=48) _ 48 rfl]
    cases l with
    | nil =>
      rw [show plc []=false from rfl,bf]
      refine ⟨fun p' q' r e=>?_,fun e=>by cases e⟩
      cases e
      exact ⟨pre,h,rfl⟩
    | cons c r =>
      rw [List.length_cons] at hl hn hp hq
      rw [show hd (c::r)=c from rfl,show plc (c::r)=(decide (c=48)||decide (c=35)) from plc_hd _,dPt]
      have h':s=(pre++[c])++r:=by rw [h];simp
      have e1:((pre++[c]:List UInt8).length:Nat)=pre.length+1:=by simp
      by_cases c48:c=48
      · subst c48
        rw [if_pos rfl,show (decide ((48:UInt8)=48)||decide ((48:UInt8)=35))=true from rfl,bt,dt rfl,bt]
        by_cases hqp:q<p
        · rw [if_pos hqp,dt (by omega),bt,Option.bind_some]
          exact ⟨fun p' q' r e=>(by cases e),fun _=>⟨_,rfl⟩⟩
        · rw [if_neg hqp,df (by omega),bf,Option.bind_some]
          simp only
          rw [inc (by omega),inc (by omega),inc (by omega),← e1]
          exact ref_l1d k hs bad big n (pre++[48]) r (p+1) (q+1) h' (by omega) (by omega) (by omega)
      · rw [if_neg c48,df c48]
        by_cases c35:c=35
        · subst c35
          rw [if_pos rfl,show (false||decide ((35:UInt8)=35))=true from rfl,bt,bf,Option.bind_some]
          simp only
          rw [inc (by omega),inc (by omega),← e1]
          exact ref_l1d k hs bad big n (pre++[35]) r (p+1) q h' (by omega) (by omega) (by omega)
        · rw [if_neg c35,df c35,Bool.or_self,bf]
          refine ⟨fun p' q' r e=>?_,fun e=>by cases e⟩
          cases e
          exact ⟨pre,h,rfl⟩
theorem dW_small:∀ (l:List UInt8) (w z:Nat) (g:Bool) (w' z':Nat) (g':Bool) (r:List UInt8),dW w z g l=some (w',z',g',r)→r.length≤l.length
  | [],w,z,g,w',z',g',r,h=>by cases h;exact Nat.le_refl _
  | c::l,w,z,g,w',z',g',r,h=>by
    rw [dW] at h
    rw [List.length_cons]
    split at h
    · split at h
      · have:=dW_small l _ _ _ _ _ _ _ h;omega
      · cases h
    · split at h
      · split at h
        · cases h
        · have:=dW_small l _ _ _ _ _ _ _ h;omega
      · split at h
        · have:=dW_small l _ _ _ _ _ _ _ h;omega
        · cases h;simp
theorem ref_dig_no (k:Nat) {s pre l:List UInt8} (h:s=pre++l) (bad big:Bool) (b a:ByteArray) (pct:Int) (hp:plc l=false) :
    g_quireref14_reader_digits k (B s) (pre.length:Int) bad big b a 0 0 false 0 0 false pct false false=some ((pre.length:Int),bad,0,0,false,0,0,false,false):=by
  unfold g_quireref14_reader_digits
  rw [here_ok k h,Option.bind_some,place_ok,← plc_hd,hp,Option.bind_some,Bool.not_false,bt]
theorem ref_dig (k:Nat) (hk:2000≤k) {s pre l:List UInt8} (hs:s.length≤64) (h:s=pre++l) (bad big:Bool) (b a:ByteArray) (pct:Int) (hp:plc l=true) :
    (∀ d r,dgD l=some (d,r)→∃ pre',s=pre'++r∧g_quireref14_reader_digits k (B s) (pre.length:Int) bad big b a 0 0 false 0 0 false pct false false=some ((pre'.length:Int),bad,(d.whole:Int),(d.zeros:Int),d.point,(d.part:Int),(d.pz:Int),d.group,true)) ∧
    (dgD l=none→∃ at_ w z pt p q g,g_quireref14_reader_digits k (B s) (pre.length:Int) bad big b a 0 0 false 0 0 false pct false false=some (at_,true,w,z,pt,p,q,g,true)):=by
  have hl:s.length=pre.length+l.length:=by rw [h,List.length_append]
  unfold g_quireref14_reader_digits
  rw [here_ok k h,Option.bind_some,place_ok,← plc_hd,hp,Option.bind_some,Bool.not_true,bf]
  obtain ⟨i1,i2⟩:=ref_l0d k hs bad big k pre l 0 0 false h (by omega) (by omega) (by omega) (fun e=>by unfold plc at hp;rw [e] at hp;simp at hp)
  rw [show ((0:Nat):Int)=0 from rfl] at i1 i2
  unfold dgD
  cases hw:dW 0 0 false l with
  | none =>
    obtain ⟨⟨q1,q2,q3,q4⟩,hq⟩:=i2 hw
    rw [hq]
    exact ⟨fun d r e=>(by cases e),fun _=>⟨_,_,_,_,_,_,_,rfl⟩⟩
  | some y =>
    obtain ⟨w,z,g,r⟩:=y
    obtain ⟨pre1,h1,e1⟩:=i1 w z g r hw
    have hr:=dW_small _ _ _ _ _ _ _ _ hw
    rw [e1]
    simp only [Option.bind_some]
    rw [here_ok k h1,Option.bind_some,u8c (v:=46) _ 46 rfl]
    by_cases h46:r.head? = some 46
    · rw [if_pos h46]
      obtain ⟨t,rfl⟩:∃ t,r=46::t:=by
        cases r with
        | nil=>cases h46
        | cons c t=>simp at h46;exact ⟨t,by rw [h46]⟩
      rw [List.length_cons] at hr
      have hl1:s.length=pre1.length+(t.length+1):=by rw [h1];simp
      rw [show hd (46::t)=46 from rfl,dt rfl,Bool.not_true,bf,inc (by omega)]
      have h2:s=(pre1++[46])++t:=by rw [h1];simp
      obtain ⟨j1,j2⟩:=ref_l1d k hs bad big k (pre1++[46]) t 0 0 h2 (by omega) (by omega) (by omega)
      have e46:(pre1++[46]:List UInt8).length=pre1.length+1:=by simp
      rw [e46,show ((0:Nat):Int)=0 from rfl] at j1 j2
      rw [List.tail_cons]
      cases hq:dPt 0 0 t with
      | none =>
        obtain ⟨⟨q1,q2,q3⟩,hy⟩:=j2 hq
        rw [hy]
        exact ⟨fun d r e=>(by cases e),fun _=>⟨_,_,_,_,_,_,_,rfl⟩⟩
      | some y =>
        obtain ⟨p,q,u⟩:=y
        obtain ⟨pre2,h3,e3⟩:=j1 p q u hq
        rw [e3]
        refine ⟨fun d r e=>?_,fun e=>by cases e⟩
        cases e
        exact ⟨pre2,h3,rfl⟩
    · rw [if_neg h46]
      have:hd r≠46:=by
        cases r with
        | nil=>decide
        | cons c t=>intro e;exact h46 (by simpa [hd] using e)
      rw [df this,Bool.not_false,bt]
      refine ⟨fun d r' e=>?_,fun e=>by cases e⟩
      cases e
      exact ⟨pre1,h1,rfl⟩
theorem tks_spd {l:List UInt8} {ts:List Pc} {e:Bool} (h:Tks l ts e):∃ l2,l=(spd ts).1++l2∧Tks l2 (spd ts).2 e∧∀ c,l2.head? = some c→¬ dgt c:=by
  have hh:∀ {l:List UInt8} {c:UInt8},l.head? = some c→hd l=c:=fun h=>by unfold hd;rw [h];rfl
  induction h with
  | nil=>exact ⟨[],rfl,.nil,fun c h=>by cases h⟩
  | @bad l h1 h2=>exact ⟨l,rfl,.bad h1 h2,fun c hc=>(lit_ne (by rw [← hh hc];rcases hd_bad h1 h2 with e | e;exact .inl e;exact .inr (.inl e))).2.2.2⟩
  | @step l p r ts e h1 h2 ih =>
    rcases hd_tok h1 with ⟨t,rfl,q⟩ | ⟨c,rfl,hl2,c1,c2,c3⟩
    · exact ⟨l,rfl,.step h1 h2,fun c hc=>(lit_ne (by rw [← hh hc];exact q)).2.2.2⟩
    · rw [spd]
      split
      · obtain ⟨l2,a,b,c'⟩:=ih
        exact ⟨l2,by rw [hl2,a];rfl,b,c'⟩
      · rename_i hc
        refine ⟨l,rfl,.step h1 h2,fun d hd'=>?_⟩
        rw [hl2] at hd'
        cases hd'
        simpa [dgt] using hc
theorem suff {s pre l r:List UInt8} {p:Pc} (h1:tok1 l=some (p,r)) (h:s=pre++l):s=s.take (s.length - r.length)++r∧(s.take (s.length - r.length)).length=s.length - r.length:=by
  have hlen:=tok1_len h1
  have hl:s.length=pre.length+l.length:=by rw [h,List.length_append]
  have hr:l.drop (l.length - r.length)=r:=by
    rcases tok1_cases (l:=l) (by rintro rfl;cases h1) with ⟨d,q,rfl,e⟩ | ⟨rfl,e⟩ | ⟨a,b,rfl,ha,e⟩ | ⟨q,rfl,hq,e⟩ | ⟨c,q,rfl,c1,c2,c3,e⟩ | ⟨c,q,rfl,c1,c2,c3,e⟩ <;> rw [e] at h1 <;> cases h1
    · rw [show (92::d::r).length - r.length=2 by simp;omega];rfl
    · rw [show (34::(a++34::r)).length - r.length=(34::a++[34]).length by simp;omega,show 34::(a++34::r)=(34::a++[34])++r by simp,List.drop_left]
    · rw [show (c::r).length - r.length=1 by simp];rfl
    · rw [show (c::r).length - r.length=1 by simp];rfl
  have hsuf:s.drop (s.length - r.length)=r:=by
    rw [h,List.length_append,show pre.length+l.length - r.length=pre.length+(l.length - r.length) by omega,← List.drop_drop,List.drop_left,hr]
  refine ⟨?_,by rw [List.length_take];omega⟩
  conv=>lhs;rw [← List.take_append_drop (s.length - r.length) s]
  rw [hsuf]
theorem ref_text0 (k:Nat) (hk:2000≤k) {s:List UInt8} (hs:s.length≤64) (big:Bool) {l:List UInt8} {ts:List Pc} {e:Bool} (ht:Tks l ts e):∀ (n:Nat) (pre acc:List UInt8),s=pre++l→l.length<n→acc.length+l.length≤1000 →
    ∃ y pre' r',g_quireref14_reader_section_l0 k (B s) big n (pre.length:Int) false (B acc)=some y∧s=pre'++r'∧Tks r' (spt ts).2 e∧mrg y=((pre'.length:Int),(spt ts).2.isEmpty&&!e,B (acc++(spt ts).1)):=by
  induction ht with
  | nil =>
    intro n pre acc h hn hb
    obtain ⟨n,rfl⟩:∃ m,n=m+1:=⟨n - 1,by omega⟩
    refine ⟨Sum.inl ((pre.length:Int),false,B acc),pre,[],?_,h,.nil,?_⟩
    · rw [g_quireref14_reader_section_l0,Bool.not_false,bt,here_ok k h,Option.bind_some,u8c (v:=64) _ 64 rfl,df (by decide),bf,literal_ok k hk h (by omega),Option.bind_some]
      rfl
    · simp [mrg,spt]
  | @bad l h1 h2 =>
    intro n pre acc h hn hb
    obtain ⟨n,rfl⟩:∃ m,n=m+1:=⟨n - 1,by omega⟩
    have hne:hd l≠64:=(lit_ne (by rcases hd_bad h1 h2 with e | e;exact .inl e;exact .inr (.inl e))).2.2.1
    refine ⟨Sum.inl ((pre.length:Int),true,B acc),pre,l,?_,h,.bad h1 h2,?_⟩
    · rw [g_quireref14_reader_section_l0,Bool.not_false,bt,here_ok k h,Option.bind_some,u8c (v:=64) _ 64 rfl,df hne,bf,literal_ok k hk h (by omega),Option.bind_some]
      unfold litR
      rw [h2]
      have:l.isEmpty=false:=by cases l with | nil=>exact absurd rfl h1 | cons c r=>rfl
      simp only [this]
      rfl
    · simp [mrg,spt]
  | @step l p r ts e h1 h2 ih =>
    intro n pre acc h hn hb
    obtain ⟨n,rfl⟩:∃ m,n=m+1:=⟨n - 1,by omega⟩
    have hlen:=tok1_len h1
    have hl:s.length=pre.length+l.length:=by rw [h,List.length_append]
    rw [g_quireref14_reader_section_l0,Bool.not_false,bt,here_ok k h,Option.bind_some,u8c (v:=64) _ 64 rfl]
    rcases hd_tok h1 with ⟨t,rfl,hh⟩ | ⟨c,rfl,hl2,c1,c2,c3⟩
    · rw [df (lit_ne hh).2.2.1,bf,literal_ok k hk h (by omega),Option.bind_some]
      unfold litR
      rw [h1]
      simp only
      rw [Bool.not_true,bf,B_size,B_size]
      simp only [Pc.bytes] at hlen
      rw [dt (by omega),bt,B_app]
      obtain ⟨hs',hp'⟩:=suff h1 h
      obtain ⟨y,pre',r',i1,i2,i3,i4⟩:=ih n (s.take (s.length - r.length)) (acc++t) hs' (by omega) (by rw [List.length_append];omega)
      rw [hp'] at i1
      refine ⟨y,pre',r',i1,i2,?_,?_⟩
      · rw [spt];exact i3
      · rw [i4,spt,List.append_assoc]
    · have hhd:hd l=c:=by rw [hl2];rfl
      rw [hhd]
      by_cases hc:c=64
      · subst hc
        rw [dt rfl,bt,show (ByteArray.mk #[0])=B [0] from rfl,B_size,B_size,dt (by simp only [List.length_cons,List.length_nil];omega),bt,B_app,inc (by omega)]
        have hs':s=(pre++[64])++r:=by rw [h,hl2];simp
        obtain ⟨y,pre',r',i1,i2,i3,i4⟩:=ih n (pre++[64]) (acc++[0]) hs' (by omega) (by rw [List.length_append,List.length_cons,List.length_nil];omega)
        have e64:(pre++[64]:List UInt8).length=pre.length+1:=by simp
        rw [e64] at i1
        refine ⟨y,pre',r',i1,i2,?_,?_⟩
        · rw [spt,if_pos rfl];exact i3
        · rw [i4,spt,if_pos rfl]
          simp
      · rw [df hc,bf,literal_ok k hk h (by omega),Option.bind_some]
        unfold litR
        rw [h1]
        refine ⟨_,pre,l,rfl,h,?_,?_⟩
        · rw [spt,if_neg hc];exact .step h1 h2
        · rw [spt,if_neg hc];simp [mrg]
theorem big_expr (p w c:Int) (big:Bool):((((bif (decide (18<p)) then some true else (bif (decide (20<w)) then some true else some (decide (4<c)))):Option Bool).bind fun x6849=>(bif x6849 then some true else some big)):Option Bool)=some ((decide (18<p)||(decide (20<w)||decide (4<c)))||big):=by
  rw [tS,tS,Option.bind_some,tS]
def DocR (s:List UInt8) (text:Bool) (e:Bool) (big:Bool) (o:Option (Sec × List Pc)) (y:Int × Bool × Bool × ByteArray × ByteArray × Int × Int × Bool × Int × Int × Bool × Int × Bool × Bool):Prop :=
  match o with
  | some (x,ts3)=>y.2.1=(ts3.isEmpty&&!e)∧(y.2.1=false→y.2.2.1=(bigS x||big)∧(y.2.2.2=(x.toD.fBefore,x.toD.fAfter,x.toD.fWhole,x.toD.fZeros,x.toD.fPoint,x.toD.fPart,x.toD.fPartZero,x.toD.fGroup,x.toD.fPercent,x.toD.fDigits,x.toD.fText))∧∃ pre' r',s=pre'++r'∧y.1=(pre'.length:Int)∧Tks r' ts3 e)
  | none=>y.2.1=true∨(y.2.1=false∧∃ pre' r',s=pre'++r'∧y.1=(pre'.length:Int)∧r'≠[]∧hd r'≠59)
theorem bigS_int (x:Sec):(decide ((18:Int)<x.d.part)||(decide ((20:Int)<x.d.whole)||decide ((4:Int)<x.pct)))=bigS x:=by
  unfold bigS
  rw [show decide ((18:Int)<x.d.part)=decide (18<x.d.part) by congr 1;exact propext (by omega),show decide ((20:Int)<x.d.whole)=decide (20<x.d.whole) by congr 1;exact propext (by omega),show decide ((4:Int)<x.pct)=decide (4<x.pct) by congr 1;exact propext (by omega)]
theorem dgt_sym {c:UInt8} (h:dgt c):isL c=false∧c≠92∧c≠34∧c≠37∧c≠59:=by
  rcases h with rfl | rfl | rfl | rfl <;> decide
theorem ref_side_dgt (k:Nat) (hk:2000≤k) {s pre r:List UInt8} {c:UInt8} (hs:s.length≤64) (h:s=pre++c::r) (hc:dgt c) (big:Bool) (b a:ByteArray) (w z:Int) (pt:Bool) (p pz:Int) (g:Bool) (pct:Int) (dig txt:Bool) :
    g_quireref14_reader_side k (B s) (pre.length:Int) false big b a w z pt p pz g pct dig txt=some (B [],(pre.length:Int),false,pct):=by
  obtain ⟨h1,h2,h3,h4,h5⟩:=dgt_sym hc
  unfold g_quireref14_reader_side
  obtain ⟨n,rfl⟩:∃ m,k=m+1:=⟨k - 1,by omega⟩
  rw [g_quireref14_reader_side_l0,Bool.not_false,bt,here_ok _ h,Option.bind_some,show hd (c::r)=c from rfl,u8c (v:=37) c 37 rfl,df h4,bf,literal_ok _ hk h (by omega),Option.bind_some]
  have e:tok1 (c::r)=some (.sym c,r):=by rw [tok1,if_neg h2,if_neg h3,h1];rfl
  unfold litR
  rw [e]
  rfl
theorem section_doc (k:Nat) (hk:2000≤k) {s pre l:List UInt8} (hs:s.length≤64) (h:s=pre++l) (big:Bool) {ts:List Pc} {e:Bool} (ht:Tks l ts e) (text:Bool) :
    ∃ y,g_quireref14_reader_section k text (B s) (pre.length:Int) false big=some y∧DocR s text e big (secT text ts) y:=by
  have hl:s.length=pre.length+l.length:=by rw [h,List.length_append]
  have htl:=tks_len ht
  unfold g_quireref14_reader_section
  cases text with
  | true =>
    obtain ⟨y,pre',r',h1,h2,h3,h4⟩:=ref_text0 k hk hs big ht k pre [] h (by omega) (by simp;omega)
    rw [bt,show (ByteArray.mk #[])=B [] from rfl,h1,Option.bind_some]
    rw [List.nil_append] at h4
    unfold secT
    rw [if_pos rfl]
    rcases y with y | y
    · obtain rfl:y=_:=h4
      exact ⟨_,rfl,rfl,fun _=>⟨rfl,rfl,pre',r',h2,rfl,h3⟩⟩
    · obtain rfl:y=_:=h4
      exact ⟨_,rfl,rfl,fun _=>⟨rfl,rfl,pre',r',h2,rfl,h3⟩⟩
  | false =>
    rw [bf,show (ByteArray.mk #[])=B [] from rfl]
    obtain ⟨pre1,r1,h1,h2,h3⟩:=ref_side k hk hs h big ht (B []) (B []) 0 0 false 0 0 false (pct:=0) (by omega) false false
    rw [show ((0:Nat):Int)=0 from rfl] at h1
    rw [h1,Option.bind_some]
    simp only
    obtain ⟨a1,a2,a3⟩:=sp_len ts
    unfold secT
    rw [if_neg (by simp)]
    generalize hb0:(spn ts).1=b0 at *
    generalize hn0:(spn ts).2.1=n0 at *
    generalize hts1:(spn ts).2.2=ts1 at *
    -- what is always told in the end
    have fin:∀ (at_:Int) (w z:Int) (pt:Bool) (p q:Int) (g dig:Bool) (o:Option (Sec × List Pc)) (bad1:Bool),
        (∃ aft at2 bad2 pct2,g_quireref14_reader_side k (B s) at_ bad1 big (B b0) (B []) w z pt p q g ((0+n0:Nat):Int) dig false=some (aft,at2,bad2,pct2)∧DocR s false e big o (at2,bad2,(decide (18<p)||(decide (20<w)||decide (4<pct2)))||big,B b0,aft,w,z,pt,p,q,g,pct2,dig,false)) →
        ∃ y,((g_quireref14_reader_side k (B s) at_ bad1 big (B b0) (B []) w z pt p q g ((0+n0:Nat):Int) dig false).bind fun x=>match x with | (x6835,x6836,x6837,x6838)=>(((((bif (decide (18<p)) then some true else (bif (decide (20<w)) then some true else some (decide (4<x6838)))):Option Bool).bind fun x6849=>(bif x6849 then some true else some big)):Option Bool).bind fun x6846=>some (x6836,x6837,x6846,B b0,x6835,w,z,pt,p,q,g,x6838,dig,false)))=some y∧DocR s false e big o y:=by
      rintro at_ w z pt p q g dig o bad1 ⟨aft,at2,bad2,pct2,e1,e2⟩
      refine ⟨_,?_,e2⟩
      rw [e1,Option.bind_some]
      simp only
      rw [big_expr,Option.bind_some]
    by_cases hbad:(ts1.isEmpty&&!e)=true
    · -- the code ends badly ahead of any digit
      have he:ts1=[]∧e=false:=by simpa using hbad
      obtain ⟨rfl,rfl⟩:=he
      have hp:plc r1=false:=by
        cases h3 with
        | bad g1 g2 =>
          have:=(lit_ne (c:=hd r1) (by rcases hd_bad g1 g2 with e | e;exact .inl e;exact .inr (.inl e))).2.2.2
          rw [plc_hd,df (fun e=>this (.inl e)),df (fun e=>this (.inr (.inl e)))];rfl
      rw [hbad,ref_dig_no k h2 true big _ _ _ hp,Option.bind_some]
      refine fin _ _ _ _ _ _ _ _ _ _ ⟨_,_,_,_,ref_side_bad k hk _ _ _ _ _ _ _ _ _ _ _ _ _ _,?_⟩
      rw [show (spd []).1=[] from rfl,if_pos rfl]
      exact ⟨rfl,fun h=>by cases h⟩
    · have hbad':(ts1.isEmpty&&!e)=false:=by simpa using hbad
      rw [hbad']
      obtain ⟨l2,hr1,ht2,hl2⟩:=tks_spd h3
      have hdg:=spd_dgt ts1
      obtain ⟨b1,b2⟩:=spd_len ts1
      have hl1:s.length=pre1.length+r1.length:=by rw [h2,List.length_append]
      generalize hs1:(spd ts1).1=s1 at *
      generalize hts2:(spd ts1).2=ts2 at *
      obtain ⟨q1,q2⟩:=plc_no hl2
      -- the side behind the digits
      have after:∀ (d:Dg) (pre2:List UInt8) (h5:s=pre2++l2) (dig:Bool),DocR s false e big (some (⟨b0,(spn ts2).1,d,n0+(spn ts2).2.1,dig,false⟩,(spn ts2).2.2)) (0,(spn ts2).2.2.isEmpty&&!e,bigS ⟨b0,(spn ts2).1,d,n0+(spn ts2).2.1,dig,false⟩||big,B b0,B (spn ts2).1,(d.whole:Int),(d.zeros:Int),d.point,(d.part:Int),(d.pz:Int),d.group,((0+n0+(spn ts2).2.1:Nat):Int),dig,false)∨True →
          ∃ aft at2 bad2 pct2,g_quireref14_reader_side k (B s) (pre2.length:Int) false big (B b0) (B []) (d.whole:Int) (d.zeros:Int) d.point (d.part:Int) (d.pz:Int) d.group ((0+n0:Nat):Int) dig false=some (aft,at2,bad2,pct2) ∧
            DocR s false e big (some (⟨b0,(spn ts2).1,d,n0+(spn ts2).2.1,dig,false⟩,(spn ts2).2.2)) (at2,bad2,(decide ((18:Int)<d.part)||(decide ((20:Int)<d.whole)||decide (4<pct2)))||big,B b0,aft,(d.whole:Int),(d.zeros:Int),d.point,(d.part:Int),(d.pz:Int),d.group,pct2,dig,false):=by
        intro d pre2 h5 dig _
        obtain ⟨pre3,r3,g1,g2,g3⟩:=ref_side k hk hs h5 big ht2 (B b0) (B []) d.whole d.zeros d.point d.part d.pz d.group (pct:=0+n0) (by omega) dig false
        refine ⟨_,_,_,_,g1,rfl,fun _=>⟨?_,?_,pre3,r3,g2,rfl,g3⟩⟩
        · have:=bigS_int ⟨b0,(spn ts2).1,d,n0+(spn ts2).2.1,dig,false⟩
          simp only at this
          rw [← this,Nat.zero_add]
        · rw [Nat.zero_add];rfl
      by_cases hn:s1=[]
      · subst hn
        rw [List.nil_append] at hr1
        subst hr1
        rw [ref_dig_no k h2 false big _ _ _ q1,Option.bind_some,if_pos rfl]
        exact fin _ _ _ _ _ _ _ _ _ _ (after dz pre1 h2 false (.inr trivial))
      · rw [if_neg hn]
        obtain ⟨c,s1',rfl⟩:∃ c s1',s1=c::s1':=by
          cases s1 with
          | nil=>exact absurd rfl hn
          | cons c t=>exact ⟨c,t,rfl⟩
        have hc:=hdg c (List.mem_cons_self ..)
        have hplc:plc r1=plc (c::s1'):=by rw [hr1];rfl
        cases hp:plc (c::s1') with
        | false =>
          rw [dgP_no hdg hn hp,ref_dig_no k h2 false big _ _ _ (by rw [hplc,hp]),Option.bind_some]
          have h6:s=pre1++c::(s1'++l2):=by rw [h2,hr1];rfl
          refine fin _ _ _ _ _ _ _ _ _ _ ⟨_,_,_,_,ref_side_dgt k hk hs h6 hc _ _ _ _ _ _ _ _ _ _ _ _,?_⟩
          exact .inr ⟨rfl,pre1,c::(s1'++l2),h6,rfl,by simp,(dgt_sym hc).2.2.2.2⟩
        | true =>
          obtain ⟨i1,i2⟩:=dg_same hdg hl2 hp
          rw [← hr1] at i1 i2
          obtain ⟨j1,j2⟩:=ref_dig k hk hs h2 false big (B b0) (B []) ((0+n0:Nat):Int) (by rw [hplc,hp])
          cases hd:dgP (c::s1') with
          | some d =>
            obtain ⟨pre2,h5,h6⟩:=j1 d l2 (i1 d hd)
            rw [h6,Option.bind_some]
            have:=after d pre2 h5 true (.inr trivial)
            exact fin _ _ _ _ _ _ _ _ _ _ this
          | none =>
            rcases i2 hd with h5 | ⟨v,c',r',h5,hc'⟩
            · obtain ⟨at_,w,z,pt,p,q,g,h6⟩:=j2 h5
              rw [h6,Option.bind_some]
              refine fin _ _ _ _ _ _ _ _ _ _ ⟨_,_,_,_,ref_side_bad k hk _ _ _ _ _ _ _ _ _ _ _ _ _ _,?_⟩
              exact .inl rfl
            · obtain ⟨pre2,h6,h7⟩:=j1 v _ h5
              rw [h7,Option.bind_some]
              refine fin _ _ _ _ _ _ _ _ _ _ ⟨_,_,_,_,ref_side_dgt k hk hs h6 hc' _ _ _ _ _ _ _ _ _ _ _ _,?_⟩
              exact .inr ⟨rfl,pre2,c'::r',h6,rfl,by simp,(dgt_sym hc').2.2.2.2⟩
def joinP:List (List Pc)→List Pc
  | []=>[]
  | [q]=>q
  | q::qs=>q++.sym 59::joinP qs
theorem splitP_acc:∀ (ts:List Pc) (acc:List (List Pc)) (tail:List Pc),splitP acc tail ts=acc++splitP [] tail ts
  | [],acc,tail=>by simp [splitP]
  | p::ts,acc,tail=>by
    rw [splitP,splitP]
    split
    · rw [splitP_acc ts (acc++[tail]),splitP_acc ts ([]++[tail])];simp
    · rw [splitP_acc ts acc]
theorem splitP_join:∀ (ts:List Pc) (tail:List Pc),.sym 59∉tail→∃ q qs,splitP [] tail ts=q::qs∧joinP (q::qs)=tail++ts∧∀ x∈q::qs,.sym 59∉x
  | [],tail,h=>⟨tail,[],rfl,by simp [joinP],by simpa using h⟩
  | p::ts,tail,h=>by
    rw [splitP]
    split
    · rename_i hp
      obtain ⟨q,qs,h1,h2,h3⟩:=splitP_join ts [] (by simp)
      refine ⟨tail,q::qs,?_,?_,?_⟩
      · rw [splitP_acc,h1];rfl
      · rw [joinP,h2,hp];rfl
        simp
      · intro x hx
        rcases List.mem_cons.1 hx with rfl | hx
        · exact h
        · exact h3 x hx
    · rename_i hp
      obtain ⟨q,qs,h1,h2,h3⟩:=splitP_join ts (tail++[p]) (by
        intro hm
        rcases List.mem_append.1 hm with hm | hm
        · exact h hm
        · rw [List.mem_singleton] at hm;exact hp hm.symm)
      exact ⟨q,qs,h1,by rw [h2];simp,h3⟩
def Stop (rest:List Pc):Prop:=rest=[]∨∃ r,rest=.sym 59::r
theorem sp_app {rest:List Pc} (hr:Stop rest):∀ q:List Pc,spn (q++rest)=((spn q).1,(spn q).2.1,(spn q).2.2++rest)
  | []=>by
    rcases hr with rfl | ⟨r,rfl⟩
    · rfl
    · show spn (.sym 59::r)=([],0,.sym 59::r)
      rw [spn,if_neg (by decide)]
  | .lit t::q=>by rw [List.cons_append,spn,spn,sp_app hr q]
  | .sym c::q=>by
    rw [List.cons_append,spn,spn,sp_app hr q]
    split <;> rfl
theorem spd_app {rest:List Pc} (hr:Stop rest):∀ q:List Pc,spd (q++rest)=((spd q).1,(spd q).2++rest)
  | []=>by
    rcases hr with rfl | ⟨r,rfl⟩
    · rfl
    · show spd (.sym 59::r)=([],.sym 59::r)
      rw [spd,if_neg (by decide)]
  | .lit t::q=>by rw [List.cons_append,spd,spd];rfl
  | .sym c::q=>by
    rw [List.cons_append,spd,spd,spd_app hr q]
    split <;> rfl
theorem spt_app {rest:List Pc} (hr:Stop rest):∀ q:List Pc,spt (q++rest)=((spt q).1,(spt q).2++rest)
  | []=>by
    rcases hr with rfl | ⟨r,rfl⟩
    · rfl
    · show spt (.sym 59::r)=([],.sym 59::r)
      rw [spt,if_neg (by decide)]
  | .lit t::q=>by rw [List.cons_append,spt,spt,spt_app hr q]
  | .sym c::q=>by
    rw [List.cons_append,spt,spt,spt_app hr q]
    split <;> rfl
theorem secT_app {rest:List Pc} (hr:Stop rest) (text:Bool) (q:List Pc):secT text (q++rest)=(secT text q).map fun x=>(x.1,x.2++rest):=by
  unfold secT
  cases text with
  | true=>rw [if_pos rfl,if_pos rfl,spt_app hr];rfl
  | false =>
    rw [if_neg Bool.false_ne_true,if_neg Bool.false_ne_true,sp_app hr]
    dsimp only
    rw [spd_app hr]
    dsimp only
    rw [sp_app hr]
    dsimp only
    cases (if (spd (spn q).2.2).1=[] then some dz else dgP (spd (spn q).2.2).1) with
    | none=>rfl
    | some d=>rfl
theorem sp_sub:∀ (q:List Pc) (p:Pc),p∈(spn q).2.2→p∈q
  | [],p,h=>by simp [spn] at h
  | .lit t::q,p,h=>by rw [spn] at h;exact List.mem_cons_of_mem _ (sp_sub q p h)
  | .sym c::q,p,h=>by
    rw [spn] at h
    split at h
    · exact List.mem_cons_of_mem _ (sp_sub q p h)
    · exact h
theorem spd_sub:∀ (q:List Pc) (p:Pc),p∈(spd q).2→p∈q
  | [],p,h=>by simp [spd] at h
  | .lit t::q,p,h=>by rw [spd] at h;exact h
  | .sym c::q,p,h=>by
    rw [spd] at h
    split at h
    · exact List.mem_cons_of_mem _ (spd_sub q p h)
    · exact h
theorem spt_sub:∀ (q:List Pc) (p:Pc),p∈(spt q).2→p∈q
  | [],p,h=>by simp [spt] at h
  | .lit t::q,p,h=>by rw [spt] at h;exact List.mem_cons_of_mem _ (spt_sub q p h)
  | .sym c::q,p,h=>by
    rw [spt] at h
    split at h
    · exact List.mem_cons_of_mem _ (spt_sub q p h)
    · exact h
theorem secT_sub {text:Bool} {q r:List Pc} {x:Sec} (h:secT text q=some (x,r)) (p:Pc) (hp:p∈r):p∈q:=by
  unfold secT at h
  cases text with
  | true=>simp at h;rw [← h.2] at hp;exact spt_sub q p hp
  | false =>
    rw [if_neg (by simp)] at h
    cases hq:(if (spd (spn q).2.2).1=[] then some dz else dgP (spd (spn q).2.2).1) with
    | none=>rw [hq] at h;cases h
    | some d =>
      rw [hq] at h
      cases h
      exact sp_sub q p (spd_sub _ p (sp_sub _ p hp))
theorem hd_ne59 {l:List UInt8} {p:Pc} {ts:List Pc} {e:Bool} (h:Tks l (p::ts) e) (hp:p≠.sym 59):l≠[]∧hd l≠59:=by
  cases h with
  | step h1 h2 =>
    refine ⟨(by rintro rfl;cases h1),?_⟩
    rcases hd_tok h1 with ⟨t,rfl,hh⟩ | ⟨c,rfl,hl2,c1,c2,c3⟩
    · exact (lit_ne hh).2.1
    · rw [hl2]
      intro e
      exact hp (by rw [show c=59 from e])
theorem ix_hd {s pre r:List UInt8} (h:s=pre++r) (hr:r≠[]):ix (I s) (pre.length:Int)=some ((hd r).toNat:Int):=by
  cases r with
  | nil=>exact absurd rfl hr
  | cons c r=>exact ix_byte h
theorem doc_l1 (k:Nat) (hk:2000≤k) {s:List UInt8} (hs:s.length≤64) {e:Bool}:∀ (qs:List (List Pc)) (q:List Pc) (n:Nat) (pre l:List UInt8) (big:Bool) (xs:List Sec) (L0:List S_quireref14_Section),s=pre++l→Tks l (joinP (q::qs)) e→(∀ x∈q::qs,.sym 59∉x)→qs.length<n→xs.length≤3→L0=xs.map Sec.toD →
    ∃ at_ bad big' L',g_quireref14_Parse_l1 k (B s) n (pre.length:Int) false big L0=some (at_,bad,big',L') ∧
      (match (if e=false then none else if 4<xs.length+(qs.length+1) then none else progAll xs.length (q::qs)) with
        | none=>bad=true
        | some ys=>bad=false∧big'=(big||ys.any bigS)∧L'=(xs++ys).map Sec.toD):=by
  intro qs
  induction qs with
  | nil =>
    intro q n pre l big xs L0 h ht hq hn hx hL
    subst hL
    obtain ⟨n,rfl⟩:∃ m,n=m+1:=⟨n - 1,by simp at hn;omega⟩
    obtain ⟨y,h1,h2⟩:=section_doc k hk hs h big ht (decide (xs.length=3))
    rw [g_quireref14_Parse_l1,List.length_map,Option.bind_some,d3,h1,Option.bind_some]
    obtain ⟨y1,y2,y3,y4,y5,y6,y7,y8,y9,y10,y11,y12,y13,y14⟩:=y
    simp only [List.length_map,List.length_cons,List.length_nil]
    rw [dt (by omega),bt]
    rw [show joinP [q]=q from rfl] at h2 ht
    cases hsec:secT (decide (xs.length=3)) q with
    | none =>
      rw [hsec] at h2
      have hp:progAll xs.length [q]=none:=by unfold progAll secP;rw [hsec];rfl
      have hm:(match (if e=false then none else if 4<xs.length+(([]:List (List Pc)).length+1) then none else progAll xs.length [q]) with
        | none=>True
        | some ys=>False):=by
        rw [hp]
        split <;> rename_i heq <;> first | trivial | (split at heq <;> first | cases heq | (split at heq <;> cases heq))
      have bad:∀ a c d,∃ at_ bad big' L',(some (a,true,c,d):Option (Int × Bool × Bool × List S_quireref14_Section))=some (at_,bad,big',L') ∧
          (match (if e=false then none else if 4<xs.length+(([]:List (List Pc)).length+1) then none else progAll xs.length [q]) with
          | none=>bad=true
          | some ys=>bad=false∧big'=(big||ys.any bigS)∧L'=(xs++ys).map Sec.toD):=by
        intro a c d
        refine ⟨_,_,_,_,rfl,?_⟩
        split
        · rfl
        · rename_i heq;rw [heq] at hm;exact hm.elim
      rcases h2 with h2 | ⟨h2,pre',r',g1,g2,g3,g4⟩
      · simp only at h2
        subst h2
        rw [bt,Option.bind_some,bt]
        exact bad _ _ _
      · simp only at h2 g2
        subst h2 g2
        have hl:s.length=pre'.length+r'.length:=by rw [g1,List.length_append]
        have hpos:0<r'.length:=by cases r' with | nil=>exact absurd rfl g3 | cons c t=>simp
        rw [bf,B_size,Option.bind_some,Option.bind_some,df (by omega),bf,B_ints,ix_hd g1 g3,Option.bind_some,u8c (v:=59) _ 59 rfl,df g4,Bool.not_false,bt,Option.bind_some,bt]
        exact bad _ _ _
    | some x =>
      obtain ⟨x,r⟩:=x
      rw [hsec] at h2
      obtain ⟨h2,h3⟩:=h2
      simp only at h2 h3
      have hprog:progAll xs.length [q]=if r=[] then some [x] else none:=by
        unfold progAll secP
        rw [hsec,Option.bind_some]
        simp only
        split <;> rfl
      rw [hprog]
      cases hb:y2 with
      | true =>
        rw [hb] at h2
        have hr:r=[]∧e=false:=by simpa using h2.symm
        rw [bt,Option.bind_some,bt,hr.2]
        exact ⟨_,_,_,_,rfl,rfl⟩
      | false =>
        rw [hb] at h2
        obtain ⟨h4,h5,pre',r',g1,g2,g3⟩:=h3 hb
        subst g2
        have hl:s.length=pre'.length+r'.length:=by rw [g1,List.length_append]
        cases r with
        | nil =>
          have he:e=true:=by simpa using h2
          subst he
          have hr':r'=[]:=by cases g3;rfl
          subst hr'
          simp at hl
          rw [bf,B_size,Option.bind_some,Option.bind_some,dt (by omega),bt,if_neg (by simp),if_neg (by simp;omega),if_pos rfl]
          refine ⟨_,_,_,_,rfl,rfl,?_,?_⟩
          · rw [h4];simp [Bool.or_comm]
          · simp only [Prod.mk.injEq] at h5
            obtain ⟨e1,e2,e3,e4,e5,e6,e7,e8,e9,e10,e11⟩:=h5
            rw [List.map_append]
            congr 1
            rw [e1,e2,e3,e4,e5,e6,e7,e8,e9,e10,e11]
            rfl
        | cons p r =>
          have hp59:p≠.sym 59:=fun e=>hq q (List.mem_cons_self ..) (e ▸ secT_sub hsec p (List.mem_cons_self ..))
          obtain ⟨n1,n2⟩:=hd_ne59 g3 hp59
          have hpos:0<r'.length:=by cases r' with | nil=>exact absurd rfl n1 | cons c t=>simp
          rw [bf,B_size,Option.bind_some,Option.bind_some,df (by omega),bf,B_ints,ix_hd g1 n1,Option.bind_some,u8c (v:=59) _ 59 rfl,df n2,Bool.not_false,bt,Option.bind_some,bt,if_neg (List.cons_ne_nil _ _)]
          refine ⟨_,_,_,_,rfl,?_⟩
          split
          · rfl
          · rename_i heq;split at heq <;> first | cases heq | (split at heq <;> cases heq)
  | cons q' qs ih =>
    intro q n pre l big xs L0 h ht hq hn hx hL
    subst hL
    obtain ⟨n,rfl⟩:∃ m,n=m+1:=⟨n - 1,by simp at hn;omega⟩
    obtain ⟨y,h1,h2⟩:=section_doc k hk hs h big ht (decide (xs.length=3))
    rw [g_quireref14_Parse_l1,List.length_map,Option.bind_some,d3,h1,Option.bind_some]
    obtain ⟨y1,y2,y3,y4,y5,y6,y7,y8,y9,y10,y11,y12,y13,y14⟩:=y
    simp only [List.length_map,List.length_cons,List.length_nil]
    rw [dt (by omega),bt]
    have hjoin:joinP (q::q'::qs)=q++.sym 59::joinP (q'::qs):=rfl
    rw [hjoin,secT_app (.inr ⟨_,rfl⟩)] at h2
    cases hsec:secT (decide (xs.length=3)) q with
    | none =>
      rw [hsec] at h2
      have hp:progAll xs.length (q::q'::qs)=none:=by unfold progAll secP;rw [hsec];rfl
      rw [hp]
      have bad:∀ a c d,∃ at_ bad big' L',(some (a,true,c,d):Option (Int × Bool × Bool × List S_quireref14_Section))=some (at_,bad,big',L') ∧
          (match (if e=false then none else if 4<xs.length+((qs.length+1)+1) then none else (none:Option (List Sec))) with
          | none=>bad=true
          | some ys=>bad=false∧big'=(big||ys.any bigS)∧L'=(xs++ys).map Sec.toD):=by
        intro a c d
        refine ⟨_,_,_,_,rfl,?_⟩
        split
        · rfl
        · rename_i heq;split at heq <;> first | cases heq | (split at heq <;> cases heq)
      rcases h2 with h2 | ⟨h2,pre',r',g1,g2,g3,g4⟩
      · simp only at h2
        subst h2
        rw [bt,Option.bind_some,bt]
        exact bad _ _ _
      · simp only at h2 g2
        subst h2 g2
        have hl:s.length=pre'.length+r'.length:=by rw [g1,List.length_append]
        have hpos:0<r'.length:=by cases r' with | nil=>exact absurd rfl g3 | cons c t=>simp
        rw [bf,B_size,Option.bind_some,Option.bind_some,df (by omega),bf,B_ints,ix_hd g1 g3,Option.bind_some,u8c (v:=59) _ 59 rfl,df g4,Bool.not_false,bt,Option.bind_some,bt]
        exact bad _ _ _
    | some x =>
      obtain ⟨x,r⟩:=x
      rw [hsec,Option.map_some] at h2
      obtain ⟨h2,h3⟩:=h2
      simp only at h2 h3
      have hy2:y2=false:=by
        rw [h2]
        cases r <;> rfl
      obtain ⟨h4,h5,pre',r',g1,g2,g3⟩:=h3 hy2
      subst g2 hy2
      have hl:s.length=pre'.length+r'.length:=by rw [g1,List.length_append]
      cases r with
      | nil =>
        rw [List.nil_append] at g3
        cases g3 with
        | @step _ _ r2 _ _ t1 t2 =>
        rcases hd_tok t1 with ⟨t,hh,_⟩ | ⟨c,hc,hl2,_,_,_⟩
        · cases hh
        · cases hc
          rw [hl2] at g1 hl
          rw [List.length_cons] at hl
          have hx59:ix (I s) (pre'.length:Int)=some ((59:UInt8).toNat:Int):=ix_byte g1
          rw [bf,B_size,Option.bind_some,Option.bind_some,df (by omega),bf,B_ints,hx59,Option.bind_some,u8c (v:=59) 59 59 rfl,dt rfl,Bool.not_true,bf,Option.bind_some,Option.bind_some]
          have hprog:progAll xs.length (q::q'::qs)=(progAll (xs.length+1) (q'::qs)).map (x::·):=by
            conv=>lhs;unfold progAll secP
            rw [hsec,Option.bind_some,if_pos rfl,Option.bind_some]
          simp only [List.length_append,List.length_map,List.length_cons,List.length_nil]
          by_cases h3':xs.length=3
          · rw [dt (by omega),bt]
            refine ⟨_,_,_,_,rfl,?_⟩
            split
            · rfl
            · rename_i heq
              split at heq
              · cases heq
              · rw [if_pos (by omega)] at heq;cases heq
          · rw [df (by omega),bf,inc (by omega)]
            simp only [Prod.mk.injEq] at h5
            obtain ⟨e1,e2,e3,e4,e5,e6,e7,e8,e9,e10,e11⟩:=h5
            have hs':s=(pre'++[59])++r2:=by rw [g1];simp
            have e59:(pre'++[59]:List UInt8).length=pre'.length+1:=by simp
            obtain ⟨at_,bad,big',L',i1,i2⟩:=ih q' n (pre'++[59]) r2 y3 (xs++[x]) (xs.map Sec.toD++[(⟨y4,y5,y6,y7,y8,y9,y10,y11,y12,y13,y14⟩:S_quireref14_Section)]) hs' t2 (fun z hz=>hq z (List.mem_cons_of_mem _ hz)) (by simp at hn;omega) (by simp;omega) (by
              rw [List.map_append]
              congr 1
              rw [e1,e2,e3,e4,e5,e6,e7,e8,e9,e10,e11]
              rfl)
            rw [e59] at i1
            rw [i1]
            refine ⟨_,_,_,_,rfl,?_⟩
            rw [hprog]
            rw [List.length_append,List.length_cons,List.length_nil,show xs.length+(0+1)+(qs.length+1)=xs.length+(qs.length+1+1) by omega] at i2
            by_cases he:e=false
            · rw [if_pos he] at i2 ⊢;exact i2
            · rw [if_neg he] at i2 ⊢
              by_cases h4':4<xs.length+(qs.length+1+1)
              · rw [if_pos h4'] at i2 ⊢;exact i2
              · rw [if_neg h4',Nat.zero_add] at i2
                rw [if_neg h4']
                cases hp:progAll (xs.length+1) (q'::qs) with
                | none=>rw [hp] at i2;exact i2
                | some ys =>
                  rw [hp] at i2
                  obtain ⟨k1,k2,k3⟩:=i2
                  refine ⟨k1,?_,by rw [k3];simp⟩
                  rw [k2,h4,List.any_cons]
                  cases bigS x <;> cases big <;> rfl
      | cons p r =>
        have hp59:p≠.sym 59:=fun e=>hq q (List.mem_cons_self ..) (e ▸ secT_sub hsec p (List.mem_cons_self ..))
        obtain ⟨n1,n2⟩:=hd_ne59 g3 hp59
        have hpos:0<r'.length:=by cases r' with | nil=>exact absurd rfl n1 | cons c t=>simp
        have hprog:progAll xs.length (q::q'::qs)=none:=by
          conv=>lhs;unfold progAll secP
          rw [hsec,Option.bind_some,if_neg (List.cons_ne_nil _ _)];rfl
        rw [bf,B_size,Option.bind_some,Option.bind_some,df (by omega),bf,B_ints,ix_hd g1 n1,Option.bind_some,u8c (v:=59) _ 59 rfl,df n2,Bool.not_false,bt,Option.bind_some,bt,hprog]
        refine ⟨_,_,_,_,rfl,?_⟩
        split
        · rfl
        · rename_i heq;split at heq <;> first | cases heq | (split at heq <;> cases heq)
theorem RParse_ok (k:Nat) (hk:2000≤k) {l:List UInt8} {ts:List Pc} {e:Bool} (hl:l.length≤64) (h:Tks l ts e) (hb:anyBad l=false) (hg:l≠general) :
    g_quireref14_Parse k (B l)=some ((outP ts e).1.map Sec.toD,(outP ts e).2):=by
  unfold g_quireref14_Parse outP
  have h0:=ref_l0 k l hl k 0 (by omega) (by omega)
  rw [show ((0:Nat):Int)=0 from rfl,List.drop_zero,hb,bf] at h0
  rw [B_size,Option.bind_some,df (by omega),bf,h0,Option.bind_some,show (ByteArray.mk #[71,101,110,101,114,97,108])=B general from rfl,B_list,B_list,show (l==general)=false from beq_eq_false_iff_ne.2 hg]
  simp only [Option.bind_some,bf]
  obtain ⟨q,qs,h1,h2,h3⟩:=splitP_join ts [] (by simp)
  have hql:(q::qs).length≤1000:=by
    have hts:=tks_len h
    have:∀ (ts:List Pc) (acc:List (List Pc)) (tail:List Pc),(splitP acc tail ts).length≤acc.length+ts.length+1:=by
      intro ts
      induction ts with
      | nil=>intro acc tail;simp [splitP]
      | cons p ts ih =>
        intro acc tail
        rw [splitP]
        split
        · have:=ih (acc++[tail]) [];simp at this ⊢;omega
        · have:=ih acc (tail++[p]);simp at this ⊢;omega
    have:=this ts [] []
    rw [h1] at this
    simp at this ⊢;omega
  rw [List.length_cons] at hql
  rw [List.nil_append] at h2
  obtain ⟨at_,bad,big',L',g1,g2⟩:=doc_l1 k hk hl (e:=e) qs q k [] l false [] [] (by simp) (by rw [h2];exact h) h3 (by omega) (by simp) rfl
  rw [show ((([]:List UInt8).length:Nat):Int)=0 from rfl] at g1
  rw [g1,h1]
  simp only [Option.bind_some,List.length_cons]
  rw [show (([]:List Sec).length:Nat)=0 from rfl,Nat.zero_add] at g2
  by_cases he:e=false
  · rw [if_pos he] at g2
    rw [if_pos he]
    simp only at g2
    rw [g2];rfl
  · rw [if_neg he] at g2 ⊢
    by_cases h4:4<qs.length+1
    · rw [if_pos h4] at g2 ⊢
      simp only at g2
      rw [g2];rfl
    · rw [if_neg h4] at g2 ⊢
      cases hp:progAll 0 (q::qs) with
      | none =>
        rw [hp] at g2
        simp only at g2
        rw [g2];rfl
      | some ys =>
        rw [hp] at g2
        obtain ⟨k1,k2,k3⟩:=g2
        rw [k1,k2,k3,bf,Bool.false_or,List.nil_append]
        dsimp only
        cases ys.any bigS <;> rfl
theorem outP_len {ts:List Pc} {e:Bool}:(outP ts e).1.length≤100:=by
  unfold outP
  split
  · simp
  · split
    · simp
    · rename_i h4
      split
      · simp
      · rename_i xs hp
        have:=progAll_len _ _ _ hp
        split
        · simp
        · simp only;omega
theorem both_parse (k:Nat) (hk:2000≤k) (l:List UInt8):∃ (xs:List Sec) (er:Int),xs.length≤100∧g_numfmt_Parse k (B l)=some (xs.map Sec.toP,er)∧g_quireref14_Parse k (B l)=some (xs.map Sec.toD,er):=by
  by_cases hl:l.length≤64
  · by_cases hb:anyBad l=true
    · refine ⟨[],40,by simp,?_,?_⟩
      · unfold g_numfmt_Parse
        rw [B_size,Option.bind_some,df (by omega),bf,containsFunc_eq k l (by omega),hb,Option.bind_some,bt];rfl
      · unfold g_quireref14_Parse
        have h0:=ref_l0 k l hl k 0 (by omega) (by omega)
        rw [show ((0:Nat):Int)=0 from rfl,List.drop_zero,hb,bt] at h0
        rw [B_size,Option.bind_some,df (by omega),bf,h0];rfl
    · have hb':anyBad l=false:=by simpa using hb
      by_cases hg:l=general
      · subst hg
        refine ⟨[],0,by simp,?_,?_⟩
        · unfold g_numfmt_Parse
          rw [B_size,Option.bind_some,df (by decide),bf,containsFunc_eq k general (by rw [show general.length=7 from rfl];omega),hb',Option.bind_some,bf,show (ByteArray.mk #[71,101,110,101,114,97,108])=B general from rfl,beq_self_eq_true,Option.bind_some,bt];rfl
        · unfold g_quireref14_Parse
          have h0:=ref_l0 k general hl k 0 (by omega) (by rw [show general.length=7 from rfl];omega)
          rw [show ((0:Nat):Int)=0 from rfl,List.drop_zero,hb',bf] at h0
          rw [B_size,Option.bind_some,df (by decide),bf,h0,Option.bind_some,show (ByteArray.mk #[71,101,110,101,114,97,108])=B general from rfl,beq_self_eq_true];rfl
      · obtain ⟨ts,e,h⟩:=tks_any (l.length+1) l (by omega)
        exact ⟨(outP ts e).1,(outP ts e).2,outP_len,Parse_ok k hk hl h hb' hg,RParse_ok k hk hl h hb' hg⟩
  · refine ⟨[],3,by simp,?_,?_⟩
    · unfold g_numfmt_Parse
      rw [B_size,Option.bind_some,dt (by omega),bt];rfl
    · unfold g_quireref14_Parse
      rw [B_size,Option.bind_some,dt (by omega),bt];rfl
theorem same_l0 (k:Nat) (xs:List Sec) (hl:xs.length≤100):∀ (n i:Nat),i≤xs.length→xs.length<n+i→g_quirelaw14_NumfmtParses_l0 k (xs.map Sec.toP) (xs.map Sec.toD) n (i:Int)=some (Sum.inr ())
  | 0,i,hi,hn=>by omega
  | n+1,i,hi,hn=>by
    rw [g_quirelaw14_NumfmtParses_l0,Option.bind_some,List.length_map]
    by_cases h:i<xs.length
    · have i1:ix (xs.map Sec.toP) (i:Int)=some xs[i].toP:=by unfold ix;simp [List.getElem?_eq_getElem h]
      have i2:ix (xs.map Sec.toD) (i:Int)=some xs[i].toD:=by unfold ix;simp [List.getElem?_eq_getElem h]
      rw [dt (by omega),bt,i1,Option.bind_some,i2,Option.bind_some,Option.bind_some]
      simp only [show xs[i].toP.fBefore=xs[i].toD.fBefore from rfl,show xs[i].toP.fAfter=xs[i].toD.fAfter from rfl,show xs[i].toP.fWhole=xs[i].toD.fWhole from rfl,show xs[i].toP.fZeros=xs[i].toD.fZeros from rfl,show xs[i].toP.fPoint=xs[i].toD.fPoint from rfl,
        show xs[i].toP.fPart=xs[i].toD.fPart from rfl,show xs[i].toP.fPartZero=xs[i].toD.fPartZero from rfl,show xs[i].toP.fGroup=xs[i].toD.fGroup from rfl,show xs[i].toP.fPercent=xs[i].toD.fPercent from rfl,show xs[i].toP.fDigits=xs[i].toD.fDigits from rfl,show xs[i].toP.fText=xs[i].toD.fText from rfl,
        beq_self_eq_true,decide_true,Bool.not_true,cond_false,Option.bind_some]
      rw [inc (by omega)]
      exact same_l0 k xs hl n (i+1) (by omega) (by omega)
    · rw [df (by omega),bf]
theorem aliveP (k:Nat):g_quirelaw14_alive (k+300)=some (Sum.inl true):=by kernel_rfl
theorem built_l0 (k n:Nat) (id:Int):g_numfmt_Builtin_l0 k id 7 (n+10) 0=(bif decide (0=id) then some (Sum.inl (ByteArray.mk #[71,101,110,101,114,97,108])) else bif decide (1=id) then some (Sum.inl (ByteArray.mk #[48])) else bif decide (2=id) then some (Sum.inl (ByteArray.mk #[48,46,48,48])) else bif decide (3=id) then some (Sum.inl (ByteArray.mk #[35,44,35,35,48])) else bif decide (4=id) then some (Sum.inl (ByteArray.mk #[35,44,35,35,48,46,48,48])) else bif decide (9=id) then some (Sum.inl (ByteArray.mk #[48,37])) else bif decide (10=id) then some (Sum.inl (ByteArray.mk #[48,46,48,48,37])) else some (Sum.inr ())):=by kernel_rfl
theorem built_eq (k:Nat) (id:Int):∃ s b,g_numfmt_Builtin (k+10) id=some (s,b)∧g_quireref14_Builtin (k+10) id=some (s,b):=by
  unfold g_numfmt_Builtin g_quireref14_Builtin g_numfmt_all
  simp only [Option.bind_some]
  rw [show (((([(⟨0,(ByteArray.mk #[71,101,110,101,114,97,108])⟩:S_numfmt_known),(⟨1,(ByteArray.mk #[48])⟩:S_numfmt_known),(⟨2,(ByteArray.mk #[48,46,48,48])⟩:S_numfmt_known),(⟨3,(ByteArray.mk #[35,44,35,35,48])⟩:S_numfmt_known),(⟨4,(ByteArray.mk #[35,44,35,35,48,46,48,48])⟩:S_numfmt_known),(⟨9,(ByteArray.mk #[48,37])⟩:S_numfmt_known),(⟨10,(ByteArray.mk #[48,46,48,48,37])⟩:S_numfmt_known)]:List S_numfmt_known)).length:Nat):Int)=7 from rfl,built_l0]
  by_cases h0:id=0
  · subst h0;exact ⟨_,_,rfl,rfl⟩
  · rw [df (show ¬ (0=id) from fun e=>h0 e.symm),df h0,bf,bf]
    by_cases h1:id=1
    · subst h1;exact ⟨_,_,rfl,rfl⟩
    · rw [df (show ¬ (1=id) from fun e=>h1 e.symm),df h1,bf,bf]
      by_cases h2:id=2
      · subst h2;exact ⟨_,_,rfl,rfl⟩
      · rw [df (show ¬ (2=id) from fun e=>h2 e.symm),df h2,bf,bf]
        by_cases h3:id=3
        · subst h3;exact ⟨_,_,rfl,rfl⟩
        · rw [df (show ¬ (3=id) from fun e=>h3 e.symm),df h3,bf,bf]
          by_cases h4:id=4
          · subst h4;exact ⟨_,_,rfl,rfl⟩
          · rw [df (show ¬ (4=id) from fun e=>h4 e.symm),df h4,bf,bf]
            by_cases h9:id=9
            · subst h9;exact ⟨_,_,rfl,rfl⟩
            · rw [df (show ¬ (9=id) from fun e=>h9 e.symm),df h9,bf,bf]
              by_cases h10:id=10
              · subst h10;exact ⟨_,_,rfl,rfl⟩
              · rw [df (show ¬ (10=id) from fun e=>h10 e.symm),df h10,bf,bf]
                exact ⟨_,_,rfl,rfl⟩
theorem id_some (k:Nat) (x:ByteArray):∃ v,g_numfmt_Id (k+20) x=some v:=by
  have key:∀ (n i:Nat),i≤7→7<n+i→∃ y,g_numfmt_Id_l0 (k+20) x 7 n (i:Int)=some y:=by
    intro n
    induction n with
    | zero=>intro i h1 h2;omega
    | succ n ih =>
      intro i h1 h2
      rw [g_numfmt_Id_l0]
      by_cases h:(i:Int)<7
      · rw [dt h,bt]
        generalize hL:([(⟨0,(ByteArray.mk #[71,101,110,101,114,97,108])⟩:S_numfmt_known),(⟨1,(ByteArray.mk #[48])⟩:S_numfmt_known),(⟨2,(ByteArray.mk #[48,46,48,48])⟩:S_numfmt_known),(⟨3,(ByteArray.mk #[35,44,35,35,48])⟩:S_numfmt_known),(⟨4,(ByteArray.mk #[35,44,35,35,48,46,48,48])⟩:S_numfmt_known),(⟨9,(ByteArray.mk #[48,37])⟩:S_numfmt_known),(⟨10,(ByteArray.mk #[48,46,48,48,37])⟩:S_numfmt_known)]:List S_numfmt_known)=LL
        have hlen:LL.length=7:=by rw [← hL];rfl
        have:ix LL (i:Int)=some (LL[i]'(by omega)):=by
          unfold ix
          simp [List.getElem?_eq_getElem (show i<LL.length by omega)]
        rw [this,Option.bind_some]
        cases (LL[i]'(by omega)).fcode.toList==x.toList with
        | true=>exact ⟨_,rfl⟩
        | false=>rw [bf,inc (by omega)];exact ih (i+1) (by omega) (by omega)
      · rw [df h,bf];exact ⟨_,rfl⟩
  obtain ⟨y,hy⟩:=key (k+20) 0 (by omega) (by omega)
  rw [show ((0:Nat):Int)=0 from rfl] at hy
  unfold g_numfmt_Id g_numfmt_all
  simp only [Option.bind_some]
  rw [show (((([(⟨0,(ByteArray.mk #[71,101,110,101,114,97,108])⟩:S_numfmt_known),(⟨1,(ByteArray.mk #[48])⟩:S_numfmt_known),(⟨2,(ByteArray.mk #[48,46,48,48])⟩:S_numfmt_known),(⟨3,(ByteArray.mk #[35,44,35,35,48])⟩:S_numfmt_known),(⟨4,(ByteArray.mk #[35,44,35,35,48,46,48,48])⟩:S_numfmt_known),(⟨9,(ByteArray.mk #[48,37])⟩:S_numfmt_known),(⟨10,(ByteArray.mk #[48,46,48,48,37])⟩:S_numfmt_known)]:List S_numfmt_known)).length:Nat):Int)=7 from rfl,hy]
  cases y <;> exact ⟨_,rfl⟩
theorem id_same (k:Nat) (x:ByteArray):g_numfmt_Id (k+20) x=g_quireref14_Id (k+20) x:=by kernel_rfl
theorem numfmtParses (s:ByteArray) (id:Int) (hs:s.size≤maxLen) (hi:(Lit.int .i64 id).wf=true):∃ k,g_quirelaw14_NumfmtParses k s id=some (Sum.inl true):=by
  refine ⟨2000+300,?_⟩
  obtain ⟨xs,er,h0,h1,h2⟩:=both_parse (2000+300) (by decide) (L s)
  rw [B_L] at h1 h2
  obtain ⟨t,b,h3,h4⟩:=built_eq (2290) id
  obtain ⟨v,h5⟩:=id_some 2280 s
  have h6:=id_same 2280 s
  rw [h5] at h6
  unfold g_quirelaw14_NumfmtParses
  rw [h1,Option.bind_some]
  dsimp only
  rw [h2,Option.bind_some]
  dsimp only
  rw [show g_numfmt_Builtin (2000+300) id=some (t,b) from h3,Option.bind_some]
  dsimp only
  rw [show g_quireref14_Builtin (2000+300) id=some (t,b) from h4,Option.bind_some]
  dsimp only
  rw [dt rfl,Bool.not_true,bf,Option.bind_some,List.length_map,List.length_map,dt rfl,Bool.not_true,bf,beq_self_eq_true,Bool.not_true,bf,beq_self_eq_true,Bool.not_true,bf,show g_numfmt_Id (2000+300) s=some v from h5,Option.bind_some,show g_quireref14_Id (2000+300) s=some v from h6.symm,Option.bind_some,dt rfl,Bool.not_true,Option.bind_some,bf]
  have h7:=same_l0 (2000+300) xs h0 (2000+300) 0 (by omega) (by omega)
  rw [show ((0:Nat):Int)=0 from rfl] at h7
  rw [h7,Option.bind_some]
  simp only
  rw [aliveP 2000]
  rfl
set_option maxRecDepth 100000
theorem var_heap {P:Program} {w:World} {n:String} {g:Nat} {cs:Array Value} (hg:P.globalNamed n=some g) (h:w.var? P n=some cs):∃ t z,w.heap[g]? = some (.cells cs t z):=by
  simp only [World.var?,hg,Option.bind_some] at h
  split at h
  · rename_i c t z hx
    simp only [Option.some.injEq] at h
    subst h
    exact ⟨_,_,hx⟩
  · cases h
theorem cells_of_tab2 {H:Type} {enc:TypeId × Value→H} {P:Program} {w:World} {base:Nat} {sp:Nat→Bool} {held:Bool} {fuel:Nat} {t e:TypeId} {f0 f1:Field} {n:Nat} {k0 k1:IntKind} {cs:List Value} {zs:List (Int × Int)} {p:List MemPlace}
    (ht:P.underlying t=some (.array n e)) (he:P.underlying e=some (.struct #[f0,f1])) (h0:P.underlying f0.type=some (.int k0)) (h1:P.underlying f1.type=some (.int k1)) (o0:f0.offset=0) (o1:f1.offset=1) (c0:P.cellsOf f0.type=1) (c1:P.cellsOf f1.type=1) (hce:P.cellsOf e=2) (hct:P.cellsOf t=n*2)
    (h:DataW.trod enc P w base sp held fuel t cs=some (.agg (zs.map fun z=>.agg [.lit (.int k0 z.1),.lit (.int k1 z.2)]),p)):cs=zs.flatMap fun z=>[Value.int k0 z.1,Value.int k1 z.2]:=by
  cases fuel with
  | zero=>simp [DataW.trod] at h
  | succ fuel =>
    simp only [DataW.trod,ht,hce,hct] at h
    split at h
    · rename_i hl
      obtain ⟨xs,hm,hx⟩:=Option.map_eq_some_iff.1 h
      have hxs:xs.map (·.1)=zs.map fun z=>(DataW.agg [.lit (.int k0 z.1),.lit (.int k1 z.2)]:DataW H):=by
        have:=congrArg Prod.fst hx
        simpa using this
      have hxl:xs.length=n:=by simpa using Lib.mapM_length hm
      have hzl:zs.length=n:=by
        have:=congrArg List.length hxs
        simp at this
        omega
      have key:∀ i,i<n→∃ z,zs[i]? = some z∧(cs.drop (i*2)).take 2=[Value.int k0 z.1,Value.int k1 z.2]:=by
        intro i hi
        obtain ⟨b,hb,hf⟩:=Lib.mapM_at hm i i (by simp [hi])
        obtain ⟨y0,y1,m,rfl,hlen,g0,g1⟩:=Go.ChangeShapes.trod_struct2 he hf
        rw [o0,c0] at g0
        rw [o1,c1] at g1
        obtain ⟨z0,hc0,e0,_⟩:=DataW.trod_int h0 g0
        obtain ⟨z1,hc1,e1,_⟩:=DataW.trod_int h1 g1
        subst e0 e1
        have h2:(xs.map (·.1))[i]? = some (DataW.agg [.lit (.int k0 z0),.lit (.int k1 z1)]:DataW H):=by simp [hb]
        rw [hxs,List.getElem?_map,Option.map_eq_some_iff] at h2
        obtain ⟨z,hz,he2⟩:=h2
        simp at he2
        refine ⟨z,hz,?_⟩
        rw [he2.1,he2.2]
        rw [hce] at hlen
        generalize (cs.drop (i*2)).take 2=u at *
        match u,hlen with
        | [a,b],_ =>
          simp at hc0 hc1
          rw [hc0,hc1]
      have all:∀ (m:Nat) (zs:List (Int × Int)) (cs:List Value),zs.length=m→cs.length=m*2→(∀ i,i<m→∃ z,zs[i]? = some z∧(cs.drop (i*2)).take 2=[Value.int k0 z.1,Value.int k1 z.2])→cs=zs.flatMap fun z=>[Value.int k0 z.1,Value.int k1 z.2]:=by
        intro m
        induction m with
        | zero =>
          intro zs cs hz hc _
          have:zs=[]:=List.eq_nil_of_length_eq_zero hz
          subst this
          simpa using List.eq_nil_of_length_eq_zero hc
        | succ m ih =>
          intro zs cs hz hc hk
          match zs,hz with
          | z::zs,hz =>
            obtain ⟨z',hz',hk0⟩:=hk 0 (by omega)
            simp at hz' hk0
            subst hz'
            match cs,hc with
            | a::b::cs,hc =>
              simp at hk0
              rw [hk0.1,hk0.2,List.flatMap_cons,← ih zs cs (by simpa using hz) (by simp at hc;omega) fun i hi=>?_]
              · rfl
              · obtain ⟨y,hy1,hy2⟩:=hk (i+1) (by omega)
                refine ⟨y,by simpa using hy1,?_⟩
                rw [show (i+1)*2=i*2+1+1 by omega] at hy2
                simpa using hy2
            | [],hc=>simp at hc
            | [a],hc=>simp at hc;omega
      exact all n zs cs hzl hl key
    · cases h
theorem gAcc : Tryz.prog.globalNamed "unicode/utf8.acceptRanges" = some 1 := by kernel_rfl
theorem gFirst : Tryz.prog.globalNamed "unicode/utf8.first" = some 0 := by kernel_rfl
theorem tAcc:(Tryz.prog.globals[1]?).map (·.type)=some 180:=by kernel_rfl
theorem tFirst:(Tryz.prog.globals[0]?).map (·.type)=some 177:=by kernel_rfl
theorem htb {W : World} (h : laidMetH Tryz.prog [("unicode/utf8.acceptRanges", Rows.laid_unicode_utf8_acceptRanges), ("unicode/utf8.first", Rows.laid_unicode_utf8_first)] W) :
    ∀ g l,tabs g=some l→∃ c t z,W.heap[g]? = some (.cells c t z)∧c.toList.take l.length=l:=by
  rw [MakeChecks.laidMetH_plain _ _ _ (by kernel_rfl)] at h
  obtain ⟨ps,⟨g0,t0,cs0,f0,p0,q0,hg0,ht0,hv0,hd0,⟨g1,t1,cs1,f1,p1,q1,hg1,ht1,hv1,hd1,_,_⟩,_⟩,_,_⟩:=h
  obtain rfl:=Option.some.inj (gAcc.symm.trans hg0)
  obtain rfl:=Option.some.inj (gFirst.symm.trans hg1)
  obtain rfl:=Option.some.inj (tAcc.symm.trans ht0)
  obtain rfl:=Option.some.inj (tFirst.symm.trans ht1)
  have e0:cs0.toList=vs1:=cells_of_tab2 (zs:=tab1) Tryz.underlying180 Tryz.underlying179 Tryz.underlying5 Tryz.underlying5 rfl rfl (by kernel_rfl) (by kernel_rfl) (by kernel_rfl) (by kernel_rfl) hd0
  have hf:Rows.laid_unicode_utf8_first=Lib.tabData .u8 tab0:=by kernel_rfl
  rw [hf] at hd1
  have e1:cs1.toList=tab0.map (Value.int .u8):=Lib.cells_of_tab Tryz.underlying177 Tryz.underlying5 (by kernel_rfl) (by kernel_rfl) hd1
  obtain ⟨ta,za,ha⟩:=var_heap gAcc hv0
  obtain ⟨tf,zf,hf⟩:=var_heap gFirst hv1
  intro g l hl
  unfold tabs at hl
  split at hl
  · rename_i hg;subst hg
    cases hl
    exact ⟨cs1,tf,zf,hf,by rw [e1,List.take_length]⟩
  · split at hl
    · rename_i hg;subst hg
      cases hl
      exact ⟨cs0,ta,za,ha,by rw [e0,List.take_length]⟩
    · cases hl
theorem lens:(begin Tryz.prog (fun _ _=>0) default).world.heap[2]?.bind Obj.row? = some (#[Value.int .i64 0],3):=by kernel_rfl
theorem hop {W:World} (h:W.ShapedOpen Tryz.prog):∀ g,opens.contains g=true→∃ x,Open1 (fun b=>W.heap[b]?) g x:=by
  intro g hg
  have hg2:g=2:=by simpa [opens] using hg
  subst hg2
  obtain ⟨cs,h1,h2,h3⟩:=h.1 2 _ _ (of_decide_eq_true (by kernel_rfl)) lens
  obtain ⟨ts,h4,_,h6⟩:=h3 (by kernel_rfl)
  have ht:ts=[3]:=Option.some.inj (h4.symm.trans (show Tryz.prog.cellTypes Tryz.prog.depth 3=some [3] by kernel_rfl))
  subst ht
  have hs:cs.size=1:=h2
  obtain ⟨v,hv⟩:∃ v,cs[0]? = some v:=⟨cs[0],by rw [Array.getElem?_eq_getElem]⟩
  obtain ⟨u,hu,hc⟩:=h6 0 v hv
  have hu3:u=3:=by simpa using hu.symm
  subst hu3
  unfold Cell.ok at hc
  rw [Tryz.underlying3] at hc
  cases v with
  | int k' n =>
    simp only at hc
    obtain ⟨rfl,_⟩:=hc
    exact ⟨n,cs,3,(0,0),h1,by simpa using hv⟩
  | _=>exact hc.elim
end Go.Proofs.YtcmmdlgjinankaaGreatDoor.W
