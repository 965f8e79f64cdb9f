/- Texts joined: part 2 of what LNumfmtParses stands on. -/
import Derived.Test.YtcmmdlgjinankaaGreatDoorSNumfmtParsesa
import Derived.Laws.BytesString
import Derived.ChangeArms
import Derived.Carry
import Derived.Lib.ConvBytes
import Derived.Lib.MakeNoZero
import Derived.Lib.UnsafeStr
import Derived.Lib.Builder
import Derived.Laws.Strings
import Derived.Laws.StructEq
import Derived.RecoverIn
import Derived.WideLaws
import Derived.MapKept
import Derived.WideKeyRuns
namespace Go.Q
open Go
set_option linter.unusedVariables false
set_option linter.unusedSimpArgs false
def roundPostP (P:Program) (l:Nat) (R:Ending→World→Prop):Exit→Act→World→Prop
  | .panic chain,a,w=>a.defers=[]∧R (.panicked chain) w
  | x,a,w=>roundPost P l R x a w
theorem roundIn_of_wpInP {F:Fence} {n:Nat} {P:Program} {l:Nat} {f:FuncId} {tmps:Array Value} {assign body:Code} {w:World} {R:Ending→World→Prop} (hF:F.fn f) (hf:(P.funcs[f]?).isSome=true)
    (h:assign.wpIn (F.inRound l) n P (Exit.then (fun a₁ w₁=>∃ w₂,(Instr.beginRound l).run P w₁=.ok () w₂∧body.wpIn (F.inRound l) n P (roundPostP P l R) a₁ w₂) (fun _ _ _=>False))
      { tmps:=tmps,defers:=[] } w) :
    RoundIn F n P l f tmps assign body w R:=by
  refine ⟨hF,fun c cs hr=>?_⟩
  let b:Frame:={ (default:Frame) with fn:=f,kind:=.normal,roundOf:=some l }
  have hb0:Frame.round l f tmps assign body .normal=b.atR { tmps:=tmps,defers:=[] } [.code assign,.beginRound,.code body]:=by
    simp [Frame.round,Frame.atR,b]
  have hr':(F.inRound l).room ((c::cs).length+1+n):=hr
  have hF':(F.inRound l).fn b.fn:=hF
  obtain ⟨e,a₁,w₁,hq,harr⟩:=h b [.beginRound,.code body] (c::cs) rfl hF' hr'
  rw [← hb0] at harr
  cases e with
  | normal =>
    obtain ⟨w₂,hbr,hbody⟩:=hq
    have s1:StepsIn (Machine.fenced P (F.inRound l)) P (lone (b.atR a₁ [.beginRound,.code body]) (c::cs) w₁) (lone (b.atR a₁ [.code body]) (c::cs) w₂) :=
      .one (fenced_calm (fr:=b.atR a₁ [.beginRound,.code body]) hF' hr' rfl) (stepR_beginRound rfl hbr)
    obtain ⟨e₂,a₂,w₃,hq₂,harr₂⟩:=hbody b [] (c::cs) rfl hF' hr'
    cases e₂ with
    | normal =>
      obtain ⟨v,w₄,hend,hR⟩:=hq₂
      exact ⟨.returned v,w₄,hR,(StepsIn.trans harr s1).trans (StepsIn.trans harr₂ (.one (fenced_calm (fr:=b.atR a₂ []) hF' hr' rfl) (stepR_round_end rfl rfl hend)))⟩
    | ret =>
      obtain ⟨v,w₄,hend,hR⟩:=hq₂
      obtain ⟨k₁,hs⟩:=harr₂.2 rfl
      exact ⟨.returned v,w₄,hR,(StepsIn.trans harr s1).trans (StepsIn.trans hs (.one (fenced_calm (fr:=b.atR a₂ (.code .ret::k₁)) hF' hr' rfl) (stepR_round_ret rfl rfl hend)))⟩
    | exit id =>
      obtain ⟨v,w₄,hend,hR⟩:=hq₂
      obtain ⟨k₁,hk,hs⟩:=harr₂.2 rfl rfl
      exact ⟨.returned v,w₄,hR,(StepsIn.trans harr s1).trans (StepsIn.trans hs (.one (fenced_calm (fr:=b.atR a₂ (.code (.exit id)::k₁)) hF' hr' rfl) (stepR_round_exit rfl rfl hk hend)))⟩
    | goto t =>
      obtain ⟨v,w₄,hend,hR⟩:=hq₂
      obtain ⟨k₁,hk,hs⟩:=harr₂.2 rfl rfl
      exact ⟨.returned v,w₄,hR,(StepsIn.trans harr s1).trans (StepsIn.trans hs (.one (fenced_calm (fr:=b.atR a₂ (.code (.goto t)::k₁)) hF' hr' rfl) (stepR_round_goto rfl rfl hk hend)))⟩
    | panic chain =>
      obtain ⟨hd,hR⟩:=hq₂
      obtain ⟨todo,hs⟩:=harr₂
      obtain ⟨fn,hfn⟩:=Option.isSome_iff_exists.1 hf
      refine ⟨.panicked chain,w₃,hR,(StepsIn.trans harr s1).trans (StepsIn.trans hs (.one (fenced_calm (n:=n) hF' hr' (by simp [Frame.about,Frame.atR,hd])) (step_leave_panicked ⟨rfl,hd,fn,hfn⟩)))⟩
    | outgrown=>exact hq₂.elim
  | exit id=>exact hq.elim
  | goto t=>exact hq.elim
  | ret=>exact hq.elim
  | panic chain=>exact hq.elim
  | outgrown=>exact hq.elim
def lp (r:Loop) (s:LoopState) (p:Option Code):Obj:=.loop { r with state:=s,pending:=p }
def jumpOf:Ex→Option (Option Code)
  | .normal=>some none
  | .ret=>some (some .ret)
  | .exit id=>some (some (.exit id))
  | .goto l=>some (some (.goto l))
  | .panic _=>none
def RangeQ (P:Program) (cx:Cx) (fr:Fr) (aC:Act) (r:Loop) (l:Nat) (Q:Ex→Env→Mem→Prop) (x:Ex) (E:Env) (M:Mem):Prop :=
  marksOk M E.d∧∃ v d os lid,(E.o,E.b)=(⟨aC,v,d,some (lid,l)⟩::os,[]) ∧
    match x with
    | .normal | .ret=>∃ s j,(dropMarks M E.d).at_ lid=.obj (lp r s j)∧s≠.busy ∧
        (match j with
         | none=>W cx fr Q .normal ⟨v,d,os,[]⟩ ((dropMarks M E.d).set lid .gone)
         | some c=>WP P cx fr c ⟨v,d,os,[]⟩ ((dropMarks M E.d).set lid .gone) Q)
    | .panic u=>W cx fr Q (.panic u) ⟨v,d,os,[]⟩ (dropMarks M E.d)
    | _=>False
theorem okO_mem {e:Nv} {M M':Mem} {p:OEnv} (h:okO e M p):okO e M' p:=h.mono (Nv.le.refl e) fun _=>Ro.le.refl _
section
variable {P:Program} {cx:Cx} {fr:Fr} {E:Env} {M:Mem} {Q:Ex→Env→Mem→Prop}
theorem WP.range {g:Operand} {ps:Array Tmp} {assign body c:Code} {f:FuncId} {fn:Func} {cap:List AVal} {nti n:Nat} (hr:fr.r=none) (hg:E.ev g=.fn f cap) (hf:P.funcs[f]? = some fn) (hb:fn.body=some c)
    (hnm : (fn.name == "runtime.NumGoroutine") = false) (hres : fn.results = #[]) (hnt : fn.ntmps = nti) (ha : Nat.ble (cap.length + 1) nti = true) (hn : (M.n, E.b) = (n, []))
    (h:∀ (l:Nat) (r:Loop) (aC:Act),r.params=ps→r.assign=assign→r.body=body→r.tmps=aC.tmps→aC.tmps.size=fr.nt→(P.funcs[r.fn]?).isSome=true →
      WP P cx ⟨nti,none,[]⟩ c ⟨fun t=>(AVal.lit (.func (.yield l) #[] #[])::cap).getD t .any,[],⟨aC,E.v,n::E.d,some (n+1,l)⟩::E.o,[]⟩
        ((M.push (.obj (.deferred (some [])))).push (.obj (lp r .ready none))) (RangeQ P cx fr aC r l Q)):WP P cx fr (.rangeFunc g ps assign body) E M Q:=by
  intro a w e hh he
  have hb0:E.b=[]:=(Prod.mk.inj hn).2
  have hn:=(Prod.mk.inj hn).1
  have hed:marks e M E.d a.defers:=by have:=he.d;rw [hb0] at this;exact marksB.nil.1 this
  have hgv:=he.ev g
  rw [hg] at hgv
  simp only [Val] at hgv
  obtain ⟨us,hgv,hus⟩:=hgv
  have hul:=hus.length
  refine wpIn_rangeFunc fun fnid hfnid=>?_
  rw [show (fence P fr.r).round=none from hr]
  let w1:=w.alloc (.deferred (some []))
  let r:Loop:={ state:=.ready,pending:=none,fn:=fnid,tmps:=a.tmps,params:=ps,assign:=assign,body:=body,defers:=w.heap.size }
  let w2:=w1.alloc (.loop r)
  let l:=w.heap.size+1
  let mark:List Deferred:=[{ target:=.collected w.heap.size,args:=#[] }]
  have hres':(resolve a.eval (rangeCall g l) 0).run P w2=.ok { target:=.fn (.func f) us.toArray,args:=#[.func (.yield l) #[] #[]] } w2:=by
    simp [resolve,Deferred.ofValue,hgv,eval_const]
  have hinv:(invoke (.fn (.func f) us.toArray) #[Value.func (.yield l) #[] #[]]).run P w2=.ok (.enter f (#[Value.func (.yield l) #[] #[]]++us.toArray)) w2:=by
    have h3' : ¬ fn.name = "runtime.NumGoroutine" := by simpa using hnm
    simp [invoke,callFunc,hf,h3',hb]
  refine ⟨l,mark,w2,_,w2,f,_,w2,run_enterLoop_outer fnid a.tmps ps assign body,hres',fun g hg'=>by simp [Target.leads] at hg';subst hg';exact Option.isSome_iff_exists.2 ⟨_,hf⟩,hinv,fun h=>by simp at h,?_⟩
  -- the memory with the two blocks
  let e1:=e.bump w.heap.size 0 0
  let e2:=e1.bump (w.heap.size+1) 0 0
  have hle1:=e.bump_le w.heap.size 0 0 false
  have hle2:=e1.bump_le (w.heap.size+1) 0 0 false
  have hm1:=fun b=>e.bump_mem w.heap.size 0 0 false b
  have hm2:=fun b=>e1.bump_mem (w.heap.size+1) 0 0 false b
  have hh1:Hold cx e1 (M.push (.obj (.deferred (some [])))) w1:=by
    refine hh.bind rfl rfl rfl (by simp [w1]) (by simp [w1]) (fun k hk hlt=>RowKit.Below.heap_alloc w _ k hlt) (fun i hi hl=>Nat.ne_of_lt (hh.live i hi hl).1) hh.bag_new (hnone hh.ro) (hnone hh.bro) (.inr hh.size) ?_
    refine ⟨by simp [Nv.bump],?_⟩
    simp only [Nv.bump,if_true]
    exact heap_alloc_new w _
  have hsz1:w1.heap.size=w.heap.size+1:=by simp [w1]
  have hh2:Hold cx e2 ((M.push (.obj (.deferred (some [])))).push (.obj (lp r .ready none))) w2:=by
    have key:Hold cx (e1.bump w1.heap.size 0 0) ((M.push (.obj (.deferred (some [])))).push (.obj (lp r .ready none))) w2:=by
      refine hh1.bind rfl rfl rfl (by simp [w2]) (by simp [w2]) (fun k hk hlt=>RowKit.Below.heap_alloc w1 _ k hlt) (fun i hi hl=>Nat.ne_of_lt (hh1.live i hi hl).1) hh1.bag_new (hnone hh1.ro) (hnone hh1.bro) (.inr hh1.size) ?_
      refine ⟨by simp [Nv.bump],?_⟩
      simp only [Nv.bump,if_true]
      exact heap_alloc_new w1 _
    rw [hsz1] at key
    exact key
  let aC:Act:={ a with defers:=mark++a.defers }
  have hownn:e2.own n=w.heap.size:=by
    have h1:n=e.n:=by rw [← hn,hh.n]
    subst h1
    have h2:e.n≠e1.n:=by simp [e1,Nv.bump]
    simp only [e2,Nv.bump,if_neg h2]
    simp [e1,Nv.bump]
  have hmarkn:markBlocks e2 n=[w.heap.size]:=by
    have h1:n=e.n:=by rw [← hn,hh.n]
    have h2:n≠e1.n:=by rw [h1];simp [e1,Nv.bump]
    unfold markBlocks
    rw [hownn]
    have h3:e2.vir n=false:=by
      simp only [e2,Nv.bump,if_neg h2];subst h1;simp [e1,Nv.bump]
    have h4:e2.bag n=[]:=by
      simp only [e2,Nv.bump,if_neg h2];subst h1;simp [e1,Nv.bump]
    rw [h3,h4];rfl
  have hownl:e2.own (n+1)=l:=by
    have h1:n+1=e1.n:=by rw [← hn];simp [e1,Nv.bump,hh.n]
    simp only [e2,Nv.bump,if_pos h1]
    rfl
  have hn2:e2.n=n+2:=by rw [← hn];simp [e2,e1,Nv.bump,hh.n]
  have hoC:okO e2 ((M.push (.obj (.deferred (some [])))).push (.obj (lp r .ready none))) ⟨aC,E.v,n::E.d,some (n+1,l)⟩:=by
    refine ⟨fun t=>((he.v t).mono hle1 hm1).mono hle2 hm2,⟨a.defers,by rw [hmarkn];rfl,by omega,(hed.mono (M':=M) hle1).mono hle2⟩,?_⟩
    rintro i l' hil
    cases hil
    exact ⟨by omega,hownl⟩
  refine callsIn_of_wp_marks (F:=fence P fr.r) hf hb (Option.isSome_iff_exists.2 ⟨_,hf⟩) ?_ hr
  have hemb:Emb nti e2 ((M.push (.obj (.deferred (some [])))).push (.obj (lp r .ready none))) ⟨fun t=>(AVal.lit (.func (.yield l) #[] #[])::cap).getD t .any,[],⟨aC,E.v,n::E.d,some (n+1,l)⟩::E.o,[]⟩
      { tmps:=(#[Value.func (.yield l) #[] #[]]++us.toArray)++Array.replicate (fn.ntmps - (#[Value.func (.yield l) #[] #[]]++us.toArray).size) undef,defers:=[] }:=by
    have ha':cap.length+1≤nti:=by simpa using ha
    refine ⟨by simp [hnt,hul];omega,fun t=>?_,⟨[],rfl,rfl⟩,fun p hp=>?_⟩
    · have hvals:Vals e2 (AVal.lit (.func (.yield l) #[] #[])::cap) (Value.func (.yield l) #[] #[]::us):=by
        simp only [Vals]
        exact ⟨_,_,rfl,by simp [Val],(hus.mono hle1 hm1).mono hle2 hm2⟩
      have hlen:=hvals.length
      have harr:(#[Value.func (.yield l) #[] #[]]++us.toArray)=(Value.func (.yield l) #[] #[]::us).toArray:=by simp
      rw [harr]
      simp only [List.getD_eq_getElem?_getD]
      by_cases ht:t<(AVal.lit (.func (.yield l) #[] #[])::cap).length
      · rw [List.getElem?_eq_getElem ht]
        obtain ⟨v,h1,h2⟩:=hvals.get (List.getElem?_eq_getElem ht)
        have hs:((Value.func (.yield l) #[] #[]::us).toArray++Array.replicate (fn.ntmps - (Value.func (.yield l) #[] #[]::us).toArray.size) undef).getD t undef=v:=by
          rw [Array.getD_eq_getD_getElem?,Array.getElem?_append_left (by simpa [hlen] using ht)]
          simp only [List.getElem?_toArray,h1,Option.getD_some]
        rw [hs]
        exact h2
      · rw [List.getElem?_eq_none (by omega)]
        simp [Val]
    · rcases List.mem_cons.1 hp with rfl | hp
      · exact hoC
      · exact ((he.o p hp).mono (M':=M) hle1 hm1).mono hle2 hm2
  have hwp:=h l r aC rfl rfl rfl rfl he.sz hfnid _ w2 e2 hh2 hemb
  rw [show (fence P (⟨nti,none,[]⟩:Fr).r)=fence P fr.r by rw [hr]] at hwp
  refine Go.wpIn_mono hwp fun x a' w' k=>?_
  obtain ⟨y,E',M',e',q,g1,g2,g3⟩:=k
  obtain ⟨q1,v',d',os',lid,q2,q3⟩:=q
  have qb:E'.b=[]:=(Prod.mk.inj q2).2
  have q2:=(Prod.mk.inj q2).1
  have fin:Emb nti e' M' E' a'→(∃ s j,(dropMarks M' E'.d).at_ lid=.obj (lp r s j)∧s≠.busy ∧
        (match j with
         | none=>W cx fr Q .normal ⟨v',d',os',[]⟩ ((dropMarks M' E'.d).set lid .gone)
         | some c=>WP P cx fr c ⟨v',d',os',[]⟩ ((dropMarks M' E'.d).set lid .gone) Q)) →
      LeavesInM (fence P fr.r) 0 P fn a'.tmps (rangePost (fence P fr.r) 0 P l (Sat cx fr Q) aC) a'.defers .returning w':=by
    rintro g2 ⟨s,j,q4,q5,q6⟩
    have hfr:fence P fr.r=fence P none:=by rw [hr]
    rw [hfr]
    have hd2:=g2.d
    rw [qb] at hd2
    refine leave_marks (by simp) E'.d M' w' a'.defers g1 (marksB.nil.1 hd2) q1 fun w'' hh''=>?_
    have hp:=g2.o ⟨aC,v',d',some (lid,l)⟩ (by rw [q2];simp)
    obtain ⟨hlid,hownlid⟩:=hp.lk lid l rfl
    have hb':=hh''.ch lid hlid
    rw [q4] at hb'
    have hbl:w''.heap[l]? = some (.loop { r with state:=s,pending:=j }):=by rw [← hownlid];exact hb'.2
    have hlive:((dropMarks M' E'.d).at_ lid).live e' lid:=by rw [q4];trivial
    have hlt:l<w''.heap.size:=(Array.getElem?_eq_some_iff.1 hbl).1
    refine ⟨.tuple #[],by simp [results,hres],?_⟩
    refine ⟨j,_,run_endLoop (r:={ r with state:=s,pending:=j }) hbl q5,?_⟩
    have hh3:Hold cx e' ((dropMarks M' E'.d).set lid .gone) (w''.putObj l (.loop { ({ r with state:=s,pending:=j }:Loop) with state:=.exhausted })) :=
      hh''.change hlid hlive rfl rfl rfl (by simp [World.putObj]) (fun k hk=>World.putObj_heap_other (by rw [hownlid] at hk;exact hk)) trivial
    have hemb3:Emb fr.nt e' ((dropMarks M' E'.d).set lid .gone) ⟨v',d',os',[]⟩ aC :=
      ⟨he.sz,hp.v,marksB.nil.2 (hp.d.mono (Nv.le.refl e')),fun p hp'=>okO_mem (g2.o p (by rw [q2];simp [hp']))⟩
    cases j with
    | none=>exact q6 _ _ e' _ hh3 hemb3 rfl
    | some c =>
      have:=q6 aC _ e' hh3 hemb3
      rw [hr] at this
      simpa [hr] using this
  cases y with
  | normal=>cases g3;exact fin g2 q3
  | ret=>cases g3;exact fin g2 q3
  | exit id=>exact q3.elim
  | goto l=>exact q3.elim
  | panic v =>
    obtain ⟨u,rfl,hu⟩:=g3
    show LeavesInM (fence P fr.r) 0 P fn a'.tmps (rangePost (fence P fr.r) 0 P l (Sat cx fr Q) aC) a'.defers (.panicking [{ v:=u,recovered:=false }]) w'
    have hfr:fence P fr.r=fence P none:=by rw [hr]
    rw [hfr]
    have hd2:=g2.1.1
    rw [qb] at hd2
    refine leave_marks (u:=.panicking [{ v:=u,recovered:=false }]) (by simp) E'.d M' w' a'.defers g1 (marksB.nil.1 hd2) q1 fun w'' hh''=>?_
    have hp:=g2.2 ⟨aC,v',d',some (lid,l)⟩ (by rw [q2];simp)
    exact q3 aC w'' e' _ hh'' ⟨⟨marksB.nil.2 (hp.d.mono (Nv.le.refl e')),fun t _=>hp.v t⟩,fun p hp'=>okO_mem (g2.2 p (by rw [q2];simp [hp']))⟩ ⟨u,rfl,hu⟩
def paramsV (f:Nat→AVal):List Tmp→List AVal→(Nat→AVal)
  | t::ts,a::l=>paramsV (fun u=>if Nat.beq u t=true then a else f u) ts l
  | _,_=>f
theorem params_ok {e:Nv}:∀ (ts:List Tmp) (axs:List AVal) (vs:List Value) (f:Nat→AVal) (tm:Array Value),Vals e axs vs→(∀ t∈ts,t<tm.size)→ts.length=axs.length→(∀ t,Val e (f t) (tm.getD t undef)) →
    ∀ t,Val e (paramsV f ts axs t) (((ts.zip vs).foldl (fun tmps (x:Tmp × Value)=>tmps.setIfInBounds x.1 x.2) tm).getD t undef)
  | [],axs,vs,f,tm,_,_,_,hf=>by simpa [paramsV] using hf
  | t::ts,[],vs,f,tm,_,_,hl,_=>by simp at hl
  | t::ts,a::axs,vs,f,tm,h,hb,hl,hf=>by
    simp only [Vals] at h
    obtain ⟨v,ws,rfl,h1,h2⟩:=h
    simp only [paramsV,List.zip_cons_cons,List.foldl_cons]
    refine params_ok ts axs ws _ _ h2 (fun x hx=>by simpa using hb x (by simp [hx])) (by simpa using hl) fun u=>?_
    have ht:t<tm.size:=hb t (by simp)
    simp only [Array.getD_eq_getD_getElem?]
    by_cases hu:u=t
    · subst hu
      simp [ht,h1]
    · rw [if_neg (by simpa using hu),Array.getElem?_setIfInBounds_ne (Ne.symm hu)]
      have:=hf u
      rwa [Array.getD_eq_getD_getElem?] at this
theorem foldl_size:∀ (l:List (Tmp × Value)) (tm:Array Value),(l.foldl (fun tmps (x:Tmp × Value)=>tmps.setIfInBounds x.1 x.2) tm).size=tm.size
  | [],_=>rfl
  | x::l,tm=>by rw [List.foldl_cons,foldl_size l];simp
def RoundQ (lid:Nat) (l:Nat) (r:Loop) (aI aC:Act) (K:Option Code→Env→Mem→Prop) (KP:AVal→Env→Mem→Prop) (x:Ex) (E:Env) (M:Mem):Prop :=
  E.d=[]∧∃ v d v' d' os' lid',(E.o,E.b)=(⟨aI,v,d,none⟩::⟨aC,v',d',some (lid',l)⟩::os',[])∧M.at_ lid'=.obj (lp r .busy none) ∧
    match x with
    | .panic u=>KP u ⟨v,d,⟨aC,v',d',some (lid',l)⟩::os',[]⟩ M
    | x=>∃ j,jumpOf x=some j∧K j ⟨v,d,⟨aC,v',d',some (lid',l)⟩::os',[]⟩ (M.set lid' (.obj (lp r (if j.isNone then .ready else .done) j)))
def AssignQ (P:Program) (cx:Cx) (ntc l:Nat) (body:Code) (r:Loop) (aI aC:Act) (K:Option Code→Env→Mem→Prop) (KP:AVal→Env→Mem→Prop) (x:Ex) (E:Env) (M:Mem):Prop :=
  x=.normal∧E.d=[]∧∃ v d v' d' os' lid',(E.o,E.b)=(⟨aI,v,d,none⟩::⟨aC,v',d',some (lid',l)⟩::os',[])∧M.at_ lid'=.obj (lp r .ready none) ∧
    WP P cx ⟨ntc,some l,[]⟩ body E (M.set lid' (.obj (lp r .busy none))) (RoundQ lid' l r aI aC K KP)
variable {ops:Array Oper} {os:List Oper} {ty:TypeId} {pos:String} {after:Array Edge} {dst:Nat}
theorem putObj_hold {e:Nv} {w:World} (hh:Hold cx e M w) {i l:Nat} {o o':Obj} (hi:i<e.n) (hl:e.own i=l) (hc:M.at_ i=.obj o) (hmk:(Chunk.obj o').mark=true→(M.at_ i).mark=true):Hold cx e (M.set i (.obj o')) (w.putObj l o'):=by
  subst hl
  have hlive:(M.at_ i).live e i:=by rw [hc];trivial
  have hb:=hh.ch i hi
  rw [hc] at hb
  have hlt:e.own i<w.heap.size:=(hh.live i hi hlive).1
  exact hh.change hi hlive rfl rfl rfl (by simp [World.putObj]) (fun k hk=>World.putObj_heap_other hk) ⟨hb.1,World.putObj_heap_same hlt⟩ hmk
theorem WPL.ycore {g:Option (Nat × Bool)} {fo:Operand} {args:Array Operand} {tys:Array TypeId} {l lid ntc:Nat} {r:Loop} {aC:Act} {vC:Nat→AVal} {dC:List Nat} {oC:List OEnv} {ps:Array Tmp} {assign body:Code} (hfr:fr.r=none) (hfo:E.ev fo=.lit (.func (.yield l) #[] #[]))
    (ho:(E.o,E.b)=(⟨aC,vC,dC,some (lid,l)⟩::oC,[])) (hM:M.at_ lid=.obj (lp r .ready none)) (hrp:r.params=ps) (hra:r.assign=assign) (hrb:r.body=body) (hrt:r.tmps=aC.tmps) (hsz:aC.tmps.size=ntc) (hrf:(P.funcs[r.fn]?).isSome=true)
    (hps:Nat.beq ps.size args.size=true) (hpl:(ps.toList.all fun t=>Nat.blt t ntc)=true) (ht:Nat.blt dst fr.nt=true)
    (hg:∀ nt a e,Emb nt e M E a→nt=fr.nt→Region.wanted { dst:=some dst,op:=.call { callee:=.value fo,args:=args,argTypes:=tys },type:=ty,pos:=pos,after:=after,guard:=g } (yielded ops a.tmps)=true)
    (hround:∀ aI:Act,WP P cx ⟨ntc,some l,[]⟩ assign ⟨paramsV vC ps.toList (args.toList.map E.ev),[],⟨aI,E.v,E.d,none⟩::E.o,[]⟩ M
      (AssignQ P cx ntc l body r aI aC (fun j E M=>WPL P cx fr ops os (E.upd dst (.lit (.bool j.isNone))) M Q) (fun u E M=>W cx fr Q (.panic u) E M))) :
    WPL P cx fr ops ({ dst:=some dst,op:=.call { callee:=.value fo,args:=args,argTypes:=tys },type:=ty,pos:=pos,after:=after,guard:=g }::os) E M Q:=by
  intro a w e hh he
  have hb0:E.b=[]:=(Prod.mk.inj ho).2
  have ho:=(Prod.mk.inj ho).1
  have hed:marks e M E.d a.defers:=by have:=he.d;rw [hb0] at this;exact marksB.nil.1 this
  have hv:=ev_lit he hfo
  have hpO:=he.o ⟨aC,vC,dC,some (lid,l)⟩ (by rw [ho];simp)
  obtain ⟨hlid,hown⟩:=hpO.lk lid l rfl
  have hb:=hh.ch lid hlid
  rw [hM] at hb
  have hbl:w.heap[l]? = some (.loop { r with state:=.ready,pending:=none }):=by rw [← hown];exact hb.2
  have hps':ps.size=args.size:=by simpa using hps
  unfold wpListIn
  rw [if_pos (hg _ _ _ he rfl)]
  refine ⟨fun f hf=>by simp [Oper.about,resolve,Deferred.ofValue,hv,Target.leads] at hf,?_⟩
  rw [Oper.semAt_eq _ _ _ (by intro c hc;cases hc),execOp_one]
  have hrun:(exec1 a.eval (.call { callee:=.value fo,args:=args,argTypes:=tys }) ty).run P w=.ok (.round l r.fn ((ps.zip (args.map a.eval)).foldl (fun tmps (t,a)=>tmps.setIfInBounds t a) r.tmps) assign body) w:=by
    have hy:=run_yield (P:=P) (args:=args.map a.eval) hbl (by simp [hrp,hps'])
    simp only [hrp,hra,hrb] at hy
    simp [exec1,execOp,resolve,Deferred.ofValue,hv,invoke,hy]
  rw [hrun]
  refine ⟨fun h=>by simp at h,?_⟩
  have hfold:(ps.zip (args.map a.eval)).foldl (fun tmps (t,a)=>tmps.setIfInBounds t a) r.tmps=(ps.toList.zip (args.toList.map a.eval)).foldl (fun tmps (x:Tmp × Value)=>tmps.setIfInBounds x.1 x.2) aC.tmps:=by
    rw [hrt,← Array.foldl_toList]
    simp [Array.toList_zip]
  rw [hfold,hfr]
  refine roundIn_of_wpInP hrf hrf ?_
  let aR:Act:={ tmps:=(ps.toList.zip (args.toList.map a.eval)).foldl (fun tmps (x:Tmp × Value)=>tmps.setIfInBounds x.1 x.2) aC.tmps,defers:=[] }
  have hembR:Emb ntc e M ⟨paramsV vC ps.toList (args.toList.map E.ev),[],⟨a,E.v,E.d,none⟩::E.o,[]⟩ aR:=by
    refine ⟨by simp only [aR];rw [foldl_size,hsz],fun t=>?_,⟨[],rfl,rfl⟩,fun p hp=>?_⟩
    · exact params_ok ps.toList _ _ vC aC.tmps (evs he args.toList) (fun t ht'=>by have:=List.all_eq_true.1 hpl t ht';rw [hsz];simpa using this) (by simpa using hps') hpO.v t
    · rcases List.mem_cons.1 hp with rfl | hp
      · exact ⟨he.v,hed,fun i l' hil=>by cases hil⟩
      · exact he.o p hp
  refine Go.wpIn_mono (hround a aR w e hh hembR) fun x a1 w1 k=>?_
  obtain ⟨y,E1,M1,e1,q,g1,g2,g3⟩:=k
  obtain ⟨rfl,hd1,v1,d1,v1',d1',os1,lid1,ho1,hM1,hbody⟩:=q
  have ho1:=(Prod.mk.inj ho1).1
  cases g3
  have hp1:=g2.o ⟨aC,v1',d1',some (lid1,l)⟩ (by rw [ho1];simp)
  obtain ⟨hlid1,hown1⟩:=hp1.lk lid1 l rfl
  have hb1:=g1.ch lid1 hlid1
  rw [hM1] at hb1
  have hbl1:w1.heap[l]? = some (.loop { r with state:=.ready,pending:=none }):=by rw [← hown1];exact hb1.2
  refine ⟨_,run_beginRound hbl1 rfl,?_⟩
  have hh1:Hold cx e1 (M1.set lid1 (.obj (lp r .busy none))) (w1.putObj l (.loop { ({ r with state:=.ready,pending:=none }:Loop) with state:=.busy })):=putObj_hold g1 hlid1 hown1 hM1 (fun h=>by cases h)
  have hemb1:Emb ntc e1 (M1.set lid1 (.obj (lp r .busy none))) E1 a1:=Emb.mono (E:=E1) g2 (Nv.le.refl e1) fun _=>Ro.le.refl _
  refine Go.wpIn_mono (hbody a1 _ e1 hh1 hemb1) fun x2 a2 w2 k2=>?_
  obtain ⟨y2,E2,M2,e2,q2,k1,k3,k4⟩:=k2
  obtain ⟨hd2,v2,d2,v2',d2',os2,lid2,ho2,hM2,hK0⟩:=q2
  have hb2':E2.b=[]:=(Prod.mk.inj ho2).2
  have ho2:=(Prod.mk.inj ho2).1
  have fin:Emb ntc e2 M2 E2 a2→∀ j,WPL P cx fr ops os (Env.upd ⟨v2,d2,⟨aC,v2',d2',some (lid2,l)⟩::os2,[]⟩ dst (.lit (.bool (Option.isNone j)))) (M2.set lid2 (.obj (lp r (if Option.isNone j then .ready else .done) j))) Q→∃ v w',(Instr.endRound l j).run P w2=.ok v w'∧wpListIn (fence P fr.r) 0 P ops (Sat cx fr Q) os (a.put (some dst) v) w':=by
    intro k3 j hK
    have hp2:=k3.o ⟨aC,v2',d2',some (lid2,l)⟩ (by rw [ho2];simp)
    have hpI:=k3.o ⟨a,v2,d2,none⟩ (by rw [ho2];simp)
    obtain ⟨hlid2,hown2⟩:=hp2.lk lid2 l rfl
    have hb2:=k1.ch lid2 hlid2
    rw [hM2] at hb2
    have hbl2:w2.heap[l]? = some (.loop { r with state:=.busy,pending:=none }):=by rw [← hown2];exact hb2.2
    refine ⟨_,_,run_endRound j hbl2,?_⟩
    have hh2:Hold cx e2 (M2.set lid2 (.obj (lp r (if j.isNone then .ready else .done) j))) (w2.putObj l (.loop { ({ r with state:=.busy,pending:=none }:Loop) with state:=if j.isNone then .ready else .done,pending:=j })):=putObj_hold k1 hlid2 hown2 hM2 (fun h=>by cases h)
    have hembI:Emb fr.nt e2 (M2.set lid2 (.obj (lp r (if j.isNone then .ready else .done) j))) ⟨v2,d2,⟨aC,v2',d2',some (lid2,l)⟩::os2,[]⟩ a :=
      ⟨he.sz,hpI.v,marksB.nil.2 (hpI.d.mono (Nv.le.refl e2)),fun p hp=>okO_mem (k3.o p (by rw [ho2];simp at hp ⊢;exact .inr hp))⟩
    exact hK _ _ e2 hh2 (hembI.put ht (by simp [Val]))
  have conv:∀ {v:Value} {w':World},wpListIn (fence P fr.r) 0 P ops (Sat cx fr Q) os (a.put (some dst) v) w'→wpListIn (fence P none) 0 P ops (Sat cx fr Q) os (a.put (some dst) v) w':=by
    intro v w' h;rw [hfr] at h;exact h
  cases y2 with
  | normal=>cases k4;obtain ⟨j,hj,hK⟩:=hK0;cases hj;obtain ⟨v,w',h1,h2⟩:=fin k3 _ hK;exact ⟨v,w',h1,conv h2⟩
  | ret=>cases k4;obtain ⟨j,hj,hK⟩:=hK0;cases hj;obtain ⟨v,w',h1,h2⟩:=fin k3 _ hK;exact ⟨v,w',h1,conv h2⟩
  | exit id=>cases k4;obtain ⟨j,hj,hK⟩:=hK0;cases hj;obtain ⟨v,w',h1,h2⟩:=fin k3 _ hK;exact ⟨v,w',h1,conv h2⟩
  | goto t=>cases k4;obtain ⟨j,hj,hK⟩:=hK0;cases hj;obtain ⟨v,w',h1,h2⟩:=fin k3 _ hK;exact ⟨v,w',h1,conv h2⟩
  | panic u =>
    obtain ⟨x,rfl,hx⟩:=k4
    have hpI:=k3.2 ⟨a,v2,d2,none⟩ (by rw [ho2];simp)
    have hdf:a2.defers=[]:=by
      have:=k3.1.1
      rw [hb2',hd2] at this
      exact marksB.nil.1 this
    exact ⟨hdf,hK0 a w2 e2 _ k1 ⟨⟨marksB.nil.2 (hpI.d.mono (Nv.le.refl e2)),fun t _=>hpI.v t⟩,fun p hp=>okO_mem (k3.2 p (by rw [ho2];simp at hp ⊢;exact .inr hp))⟩ ⟨x,rfl,hx⟩⟩
theorem WPL.y {fo:Operand} {args:Array Operand} {tys:Array TypeId} {l lid ntc:Nat} {r:Loop} {aC:Act} {vC:Nat→AVal} {dC:List Nat} {oC:List OEnv} {ps:Array Tmp} {assign body:Code} (hfr:fr.r=none) (hfo:E.ev fo=.lit (.func (.yield l) #[] #[]))
    (ho:(E.o,E.b)=(⟨aC,vC,dC,some (lid,l)⟩::oC,[])) (hM:M.at_ lid=.obj (lp r .ready none)) (hrp:r.params=ps) (hra:r.assign=assign) (hrb:r.body=body) (hrt:r.tmps=aC.tmps) (hsz:aC.tmps.size=ntc) (hrf:(P.funcs[r.fn]?).isSome=true)
    (hps:Nat.beq ps.size args.size=true) (hpl:(ps.toList.all fun t=>Nat.blt t ntc)=true) (ht:Nat.blt dst fr.nt=true)
    (hround:∀ aI:Act,WP P cx ⟨ntc,some l,[]⟩ assign ⟨paramsV vC ps.toList (args.toList.map E.ev),[],⟨aI,E.v,E.d,none⟩::E.o,[]⟩ M
      (AssignQ P cx ntc l body r aI aC (fun j E M=>WPL P cx fr ops os (E.upd dst (.lit (.bool j.isNone))) M Q) (fun u E M=>W cx fr Q (.panic u) E M))) :
    WPL P cx fr ops ({ dst:=some dst,op:=.call { callee:=.value fo,args:=args,argTypes:=tys },type:=ty,pos:=pos,after:=after,guard:=Option.none }::os) E M Q :=
  WPL.ycore hfr hfo ho hM hrp hra hrb hrt hsz hrf hps hpl ht (fun _ _ _ _ _=>rfl) hround
end
theorem grd {α:Type} {b:Bool} {x:Option α} {r:α} (h:(bif b then x else none)=some r):b=true∧x=some r:=by
  cases b with
  | true=>exact ⟨rfl,h⟩
  | false=>cases h
theorem bnd {α β:Type} {x:Option α} {f:α→Option β} {r:β} (h:x.bind f=some r):∃ a,x=some a∧f a=some r:=Option.bind_eq_some_iff.1 h
theorem cnt {α:Type} {b:Bool} {x y:Option α} {r:α} (hb:b=true) (h:(bif b then x else y)=some r):x=some r:=by subst hb;exact h
theorem cnf {α:Type} {b:Bool} {x y:Option α} {r:α} (hb:b=false) (h:(bif b then x else y)=some r):y=some r:=by subst hb;exact h
section
variable {P:Program} {cx:Cx} {fr:Fr} {E:Env} {M:Mem} {Q:Ex→Env→Mem→Prop} {next:Env→Mem→Prop} {ty:TypeId}
theorem Then.n (h:next E M):Then next Q .normal E M:=h
theorem Then.r (h:Q .ret E M):Then next Q .ret E M:=h
theorem Then.x {id:Nat} (h:Q (.exit id) E M):Then next Q (.exit id) E M:=h
theorem Then.p {v:AVal} (h:Q (.panic v) E M):Then next Q (.panic v) E M:=h
theorem InBlock.n {id:Nat} (h:Q .normal E M):InBlock id Q .normal E M:=h
theorem InBlock.r {id:Nat} (h:Q .ret E M):InBlock id Q .ret E M:=h
theorem InBlock.p {id:Nat} {v:AVal} (h:Q (.panic v) E M):InBlock id Q (.panic v) E M:=h
theorem InBlock.x0 {id:Nat} (h:Q .normal E M):InBlock id Q (.exit id) E M:=by simp only [InBlock,Nat.beq_eq,if_true];exact h
theorem InBlock.x {id id':Nat} (hi:Nat.beq id' id=false) (h:Q (.exit id') E M):InBlock id Q (.exit id') E M:=by
  simp only [InBlock]
  rw [if_neg (by rw [hi];simp)]
  exact h
theorem WP.condT {c:Operand} {x y:Code} (hc:E.ev c=.lit (.bool true)) (h:WP P cx fr x E M Q):WP P cx fr (.cond c x y) E M Q:=WP.cond hc (fun _=>h) (fun h=>by cases h)
theorem WP.condF {c:Operand} {x y:Code} (hc:E.ev c=.lit (.bool false)) (h:WP P cx fr y E M Q):WP P cx fr (.cond c x y) E M Q:=WP.cond hc (fun h=>by cases h) (fun _=>h)
theorem q_mv {x:Operand} {v:AVal} (h:E.ev x=v):Quiet P (.move x) ty E M [] v:=h ▸ q_move x
theorem q_as {x:Operand} {v:AVal} (h:E.ev x=v):Quiet P (.assign x) ty E M [] v:=h ▸ q_assign x
theorem q_pickT {c x y:Operand} {v:AVal} (hc:E.ev c=.lit (.bool true)) (h:E.ev x=v):Quiet P (.pick c x y) ty E M [] v:=by
  have:=q_pick (P:=P) (ty:=ty) (M:=M) (x:=x) (y:=y) hc
  simp only [cond_true] at this
  exact h ▸ this
theorem q_pickF {c x y:Operand} {v:AVal} (hc:E.ev c=.lit (.bool false)) (h:E.ev y=v):Quiet P (.pick c x y) ty E M [] v:=by
  have:=q_pick (P:=P) (ty:=ty) (M:=M) (x:=x) (y:=y) hc
  simp only [cond_false] at this
  exact h ▸ this
theorem WPL.split {ops:Array Oper} {os:List Oper} {t:Nat} {b:Bool} (hv:E.v t=.lit (.bool b)) (h1:b=true→WPL P cx fr ops os E M Q) (h2:b=false→WPL P cx fr ops os E M Q):WPL P cx fr ops os E M Q:=by
  cases b with
  | true=>exact h1 rfl
  | false=>exact h2 rfl
theorem Hold.virCell {e:Nv} {w:World} (hh:Hold cx e M w) {α:Type} {ct R} {i off N:Nat} {t:TypeId} {l:List AVal} (hN:M.n=N) (hi:i<N) (hc:M.at_ i=.cells t l) (hv:l[off]? = some (.lit (.slice none 0 0))) :
    Hold cx (e.bump 0 0 0 true) ((M.push (.row ct (R:Rd α) [])).set i (.cells t (l.set off (.whole N)))) w:=by
  have h1:=hh.bindVir (t:=ct) (R:=R)
  have hin:i<(e.bump 0 0 0 true).n:=by simp only [Nv.bump,hh.n,hN];omega
  have hat:(M.push (.row ct R [])).at_ i=.cells t l:=by rw [Mem.push_at,if_neg (by omega)];exact hc
  have hlive:((M.push (.row ct R [])).at_ i).live (e.bump 0 0 0 true) i:=by rw [hat];trivial
  refine h1.change hin hlive rfl rfl rfl rfl (fun _ _=>rfl) ?_
  have hk:=h1.ch i hin
  rw [hat] at hk
  obtain ⟨g1,vs,g2,g3,g4⟩:=hk
  refine ⟨g1,vs,g2,?_,g4⟩
  obtain ⟨u,hu,hval⟩:=g3.get hv
  simp only [Val] at hval
  have hset:vs=vs.set off u:=by
    apply List.ext_getElem?
    intro j
    rw [List.getElem?_set]
    split
    · rename_i hj;subst hj;split
      · rename_i hlt;rw [hu]
      · rename_i hge;rw [List.getElem?_eq_none (by omega)]
    · rfl
  rw [hset]
  refine g3.set ?_
  rw [hval]
  simp only [Val,Nv.bump,← hN,← hh.n,if_true]
  exact ⟨Nat.lt_succ_self _,Nat.le_refl _,trivial,trivial⟩
end
section
variable {P:Program} {E:Env} {M:Mem} {ty:TypeId}
theorem run_slice_sl {t el:TypeId} {n:Nat} (h:SlIs P t el n) (a:Option Addr) (len cap:Nat) (lo hi:Option Value) (l r:Nat) (w:World)
    (hl:(match lo with | some v=>∃ k,v=.int k (l:Int) | none=>l=0)) (hr:(match hi with | some v=>∃ k,v=.int k (r:Int) | none=>r=len)) (hlr:l≤r) (hrc:r≤cap) :
    (Instr.sliceAt t (.slice a len cap) lo hi none).run P w=.ok (.slice (if cap=l then a else a.map (·.add (l*n))) (r - l) (cap - l)) w:=by
  have e1:∀ (y:Nat) (code:BoundsCode) (v:Value) (m:Nat),(∃ k,v=.int k (m:Int))→m≤y→(Instr.sliceBound v y code).run P w=.ok m w:=by
    rintro y code v m ⟨k,rfl⟩ hm
    have h1:(0:Int)≤(m:Int)∧(m:Int)≤(y:Int):=⟨by omega,by omega⟩
    simp only [Instr.sliceBound,asIntOf,Sem.run_bind,Sem.run_pure,Result.andThen]
    rw [if_pos h1]
    simp
  cases lo with
  | none =>
    simp only at hl
    cases hi with
    | none =>
      simp only at hr
      subst hl hr
      simp [Instr.sliceAt,Instr.slice,run_underlying h.t,Instr.sliceBounds,h.e.run]
    | some v =>
      simp only at hr
      subst hl
      simp [Instr.sliceAt,Instr.slice,run_underlying h.t,Instr.sliceBounds,h.e.run,e1 cap _ v r hr hrc]
  | some u =>
    simp only at hl
    cases hi with
    | none =>
      simp only at hr
      subst hr
      simp [Instr.sliceAt,Instr.slice,run_underlying h.t,Instr.sliceBounds,h.e.run,e1 r _ u l hl hlr]
    | some v =>
      simp only at hr
      simp [Instr.sliceAt,Instr.slice,run_underlying h.t,Instr.sliceBounds,h.e.run,e1 cap _ v r hr hrc,e1 r _ u l hl hlr]
def evOpt (E:Env) (x:Option Operand) (d:Int) (i:Int):Prop:=match x with | some o=>∃ k,E.ev o=.lit (.int k i) | none=>i=d
theorem q_slice_ro {α:Type} {R:Rd α} {b:Bool} {l:List α} {t el:TypeId} {n:Nat} {x:Operand} {lo hi:Option Operand} {i j:Int} (h:SlIs P t el n) (hn:R.sz=n) (hx:E.ev x=.ro (Rd.slice R) b l)
    (hlo:evOpt E lo 0 i) (hhi:evOpt E hi l.length j) (hb:decide (0≤i∧i≤j∧j≤l.length)=true):Quiet P (.slice t x lo hi none) ty E M [] (.ro (Rd.slice R) b ((l.take j.toNat).drop i.toNat)) :=
  fun cx nt a w e hh he=>by
    obtain ⟨b0,b1,b2⟩:=of_decide_eq_true hb
    have hv:=he.ev x;rw [hx] at hv;simp only [Val,Rd.slice] at hv
    have hlo':(match lo.map a.eval with | some v=>∃ k,v=.int k (i.toNat:Int) | none=>i.toNat=0):=by
      cases lo with
      | none=>simp only [evOpt] at hlo;subst hlo;rfl
      | some o =>
        obtain ⟨k,hk⟩:=hlo
        exact ⟨k,by rw [ev_lit he hk,Int.toNat_of_nonneg b0]⟩
    have hhi':(match hi.map a.eval with | some v=>∃ k,v=.int k (j.toNat:Int) | none=>j.toNat=l.length):=by
      cases hi with
      | none=>simp only [evOpt] at hhi;subst hhi;exact Int.toNat_natCast _
      | some o =>
        obtain ⟨k,hk⟩:=hhi
        exact ⟨k,by rw [ev_lit he hk,Int.toNat_of_nonneg (by omega)]⟩
    have hlr:i.toNat≤j.toNat:=by omega
    have hjl:j.toNat≤l.length:=by omega
    have hlen:((l.take j.toNat).drop i.toNat).length=j.toNat - i.toNat:=by simp;omega
    rcases hv with ⟨rfl,ad,c,h1⟩ | ⟨bk,o,c,tt,fr,cap,h1,hc,h2,h3⟩
    · simp at h1
      have hj0:j.toNat=0:=by simpa using hjl
      have hi0:i.toNat=0:=by omega
      refine ⟨.slice (if c=i.toNat then ad else ad.map (·.add (i.toNat*n))) (j.toNat - i.toNat) (c - i.toNat),?_,fun w1 hw=>?_⟩
      · simp only [Val,Rd.slice]
        exact .inl ⟨by simp,_,_,by rw [hj0,hi0]⟩
      · have:=run_slice_sl h ad 0 c (lo.map a.eval) (hi.map a.eval) i.toNat j.toNat w1 hlo' (by simpa using hhi') hlr (by omega)
        simp [exec1,execOp,h1,this]
    · simp at h1
      refine ⟨.slice (if cap=i.toNat then some ⟨bk,o,none⟩ else (some (⟨bk,o,none⟩:Addr)).map (·.add (i.toNat*n))) (j.toNat - i.toNat) (cap - i.toNat),?_,fun w1 hw=>?_⟩
      · simp only [Val,Rd.slice]
        by_cases h0:j.toNat - i.toNat=0
        · exact .inl ⟨List.eq_nil_of_length_eq_zero (by omega),_,_,by rw [h0]⟩
        · have hne:¬ cap=i.toNat:=by omega
          refine .inr ⟨bk,o+i.toNat*n,c,tt,fr,cap - i.toNat,by rw [if_neg hne,hlen];simp [add_at],by omega,h2,?_⟩
          rw [← hn]
          have:=rows_drop i.toNat (rows_take j.toNat h3)
          rw [List.drop_drop] at this
          exact this
      · have:=run_slice_sl h (some ⟨bk,o,none⟩) l.length cap (lo.map a.eval) (hi.map a.eval) i.toNat j.toNat w1 hlo' hhi' hlr (by omega)
        simp [exec1,execOp,h1,this]
theorem q_index_str {t:TypeId} {x y:Operand} {s:ByteArray} {k:IntKind} {i c:Int} (h:P.underlying t=some .string) (hx:E.ev x=.lit (.string s)) (hy:E.ev y=.lit (.int k i)) (hc:ix (strInts s) i=some c):Quiet P (.index t x y) ty E M [] (.lit (.int .u8 c)) :=
  fun _ _ a w e hh he=>by
    obtain ⟨h0,h1,h2⟩:=ix_some hc
    refine ⟨.int .u8 c,by simp [Val],fun w1 hw=>?_⟩
    have hsz:(strInts s).length=s.size:=by rw [strInts,List.length_map,Array.length_toList];rfl
    have hlt:i.toNat<s.size:=by omega
    have hget:c=((s[i.toNat]'hlt).toNat:Int):=by
      simp only [strInts,List.getElem?_map] at h1
      have e2:s.data.toList[i.toNat]? = some (s[i.toNat]'hlt):=by
        rw [Array.getElem?_toList]
        exact Array.getElem?_eq_getElem (by simpa using hlt)
      rw [e2] at h1
      simpa using h1.symm
    subst hget
    simp [exec1,execOp,ev_lit he hx,ev_lit he hy,Instr.index,run_underlying h,asIntOf,h0,hlt,getElem?_pos]
theorem q_slice_str {t:TypeId} {x:Operand} {s:ByteArray} {lo hi:Option Operand} {i j:Int} (h:P.underlying t=some .string) (hx:E.ev x=.lit (.string s))
    (hlo:evOpt E lo 0 i) (hhi:evOpt E hi s.size j) (hb:decide (0≤i∧i≤j∧j≤s.size)=true):Quiet P (.slice t x lo hi none) ty E M [] (.lit (.string (s.extract i.toNat j.toNat))) :=
  fun cx nt a w e hh he=>by
    obtain ⟨b0,b1,b2⟩:=of_decide_eq_true hb
    refine ⟨.string (s.extract i.toNat j.toNat),by simp [Val],fun w1 hw=>?_⟩
    have e1:∀ (y:Nat) (code:BoundsCode) (k:IntKind) (m:Int),0≤m→m≤y→(Instr.sliceBound (.int k m) y code).run P w1=.ok m.toNat w1:=by
      intro y code k m h0 hm
      simp only [Instr.sliceBound,asIntOf,Sem.run_bind,Sem.run_pure,Result.andThen]
      rw [if_pos ⟨h0,hm⟩]
      simp
    have hjs:j.toNat≤s.size:=by omega
    cases lo with
    | none =>
      simp only [evOpt] at hlo
      subst hlo
      cases hi with
      | none =>
        simp only [evOpt] at hhi
        subst hhi
        simp [exec1,execOp,ev_lit he hx,Instr.sliceAt,Instr.slice,run_underlying h,Instr.sliceBounds]
      | some v =>
        obtain ⟨k,hk⟩:=hhi
        simp [exec1,execOp,ev_lit he hx,ev_lit he hk,Instr.sliceAt,Instr.slice,run_underlying h,Instr.sliceBounds,e1 s.size _ k j (by omega) b2]
    | some u =>
      obtain ⟨k',hk'⟩:=hlo
      cases hi with
      | none =>
        simp only [evOpt] at hhi
        subst hhi
        simp [exec1,execOp,ev_lit he hx,ev_lit he hk',Instr.sliceAt,Instr.slice,run_underlying h,Instr.sliceBounds,e1 s.size _ k' i b0 b1]
      | some v =>
        obtain ⟨k,hk⟩:=hhi
        simp [exec1,execOp,ev_lit he hx,ev_lit he hk,ev_lit he hk',Instr.sliceAt,Instr.slice,run_underlying h,Instr.sliceBounds,e1 s.size _ k j (by omega) b2,e1 j.toNat _ k' i b0 (by omega)]
end
def Cv (cx:Cx) (nt:Nat) (E:Env) (M:Mem) (E':Env) (M':Mem):Prop :=
  ∀ a w e,Hold cx e M w→Emb nt e M E a→∃ e',Hold cx e' M' w∧Emb nt e' M' E' a
def Ex.plain:Ex→Bool
  | .panic _=>false
  | _=>true
section
variable {P:Program} {cx:Cx} {fr:Fr} {nt:Nat} {E E' E'':Env} {M M' M'':Mem} {Q Q':Ex→Env→Mem→Prop} {x:Ex} {c:Code} {ops:Array Oper} {os:List Oper}
theorem W.cv (k:Cv cx fr.nt E M E' M') (hx:x.plain=true) (h:W cx fr Q x E' M'):W cx fr Q x E M:=fun a w e X hh he hX=>by
  cases x with
  | panic v=>cases hx
  | normal=>obtain ⟨e',h1,h2⟩:=k a w e hh he;exact h a w e' X h1 h2 hX
  | exit id=>obtain ⟨e',h1,h2⟩:=k a w e hh he;exact h a w e' X h1 h2 hX
  | goto l=>obtain ⟨e',h1,h2⟩:=k a w e hh he;exact h a w e' X h1 h2 hX
  | ret=>obtain ⟨e',h1,h2⟩:=k a w e hh he;exact h a w e' X h1 h2 hX
theorem WP.cv (k:Cv cx fr.nt E M E' M') (h:WP P cx fr c E' M' Q):WP P cx fr c E M Q:=fun a w e hh he=>let ⟨e',h1,h2⟩:=k a w e hh he;h a w e' h1 h2
theorem WPL.cv (k:Cv cx fr.nt E M E' M') (h:WPL P cx fr ops os E' M' Q):WPL P cx fr ops os E M Q:=fun a w e hh he=>let ⟨e',h1,h2⟩:=k a w e hh he;h a w e' h1 h2
theorem WPL.nilW (h:W cx fr Q .normal E M):WPL P cx fr ops [] E M Q:=fun a w e hh he=>h a w e _ hh he rfl
theorem WP.skipW (h:W cx fr Q .normal E M):WP P cx fr .skip E M Q:=fun a w e hh he=>wpIn_skip (h a w e _ hh he rfl)
theorem WP.labelW {l:Nat} (h:W cx fr Q .normal E M):WP P cx fr (.label l) E M Q:=fun a w e hh he=>wpIn_label (h a w e _ hh he rfl)
theorem WP.exitW {id:Nat} (h:W cx fr Q (.exit id) E M):WP P cx fr (.exit id) E M Q:=fun a w e hh he=>wpIn_exit (h a w e _ hh he rfl)
theorem WP.retW (h:W cx fr Q .ret E M):WP P cx fr .ret E M Q:=fun a w e hh he=>wpIn_ret (h a w e _ hh he rfl)
theorem WPD.doneW {st X:List Nat} {fuel:Nat} {listed:Array Bool} (hb:readyNo ops listed=true) (h:W cx fr Q .normal E M):WPD P cx fr ops st X fuel listed E M Q:=by
  intro a w e hh he
  have hready:Region.ready .any ops listed=[]:=by simpa [readyNo,List.isEmpty_iff] using hb
  have hs:Sat cx fr Q .normal a w:=h a w e _ hh he rfl
  cases fuel with
  | zero=>exact ⟨hready,hs⟩
  | succ n=>exact ⟨fun _=>hs,by rw [hready];simp⟩
theorem WPD.split {st X:List Nat} {fuel:Nat} {listed:Array Bool} {t:Nat} {b:Bool} (hv:E.v t=.lit (.bool b)) (h1:b=true→WPD P cx fr ops st X fuel listed E M Q) (h2:b=false→WPD P cx fr ops st X fuel listed E M Q):WPD P cx fr ops st X fuel listed E M Q:=by
  cases b with
  | true=>exact h1 rfl
  | false=>exact h2 rfl
theorem WP.regionD' (n:Nat) (st X:List Nat) {id:Nat} (hm:P.follows .mixedOrders=true) (hn:ops.size=n) (h:WPD P cx fr ops st X n (Array.replicate n false) E M Q):WP P cx fr (.region id ops true) E M Q:=by
  subst hn;exact WP.regionD st X hm h
theorem WP.monoW (h:WP P cx fr c E M Q) (hq:∀ x E M,Q x E M→W cx fr Q' x E M):WP P cx fr c E M Q' :=
  fun a w e hh he=>Go.wpIn_mono (h a w e hh he) fun X a' w' k=>by
    obtain ⟨y,E',M',e',q,h1,h2,h3⟩:=k
    exact hq y E' M' q a' w' e' X h1 h2 h3
theorem Cv.weak {np:Nat} (l:List Nat) (hnp:cx.np=np) (hM:LeM l np M M') (hE:LeE l M'.n E E'):Cv cx nt E M E' M' :=
  fun a w e hh he=>⟨_,hh.re hnp hM,he.re hM hE⟩
def CvL (cx:Cx) (nt:Nat) (E:Env) (M:Mem) (E':Env) (M':Mem):Prop :=
  ∀ a w e,Hold cx e M w→Emb nt e M E a→∃ e',Hold cx e' M' w∧Emb nt e' M' E' a∧e.le e'
theorem CvL.cv (h:CvL cx nt E M E' M'):Cv cx nt E M E' M':=fun a w e hh he=>let ⟨e',h1,h2,_⟩:=h a w e hh he;⟨e',h1,h2⟩
theorem CvL.vir {α:Type} (ct:TypeId) (R:Rd α) {N:Nat} (hN:M.n=N) (tt:Nat) (hv:E.v tt=.lit (.slice none 0 0)):CvL cx nt E M (E.upd tt (.whole N)) (M.push (.row ct R [])):=by
  intro a w e hh he
  refine ⟨e.bump 0 0 0 true,hh.bindVir,?_,e.bump_le 0 0 0 true⟩
  have h1:Emb nt (e.bump 0 0 0 true) (M.push (.row ct R [])) E a:=he.mono (e.bump_le 0 0 0 true) (fun b=>e.bump_mem 0 0 0 true b)
  refine ⟨h1.sz,fun u=>?_,h1.d,h1.o⟩
  rw [Env.upd_v]
  split
  · rename_i hu
    subst hu
    have:=h1.v u
    rw [hv] at this
    simp only [Val] at this
    rw [this]
    simp only [Val,Nv.bump,← hN,← hh.n,if_true]
    exact ⟨Nat.lt_succ_self _,Nat.le_refl _,trivial,trivial⟩
  · exact h1.v u
theorem Cv.vir {α:Type} (ct:TypeId) (R:Rd α) {N:Nat} (hN:M.n=N) (tt:Nat) (hv:E.v tt=.lit (.slice none 0 0)):Cv cx nt E M (E.upd tt (.whole N)) (M.push (.row ct R [])):=CvL.cv (CvL.vir ct R hN tt hv)
theorem CvL.virC {α:Type} (ct:TypeId) (R:Rd α) {i off N:Nat} {t:TypeId} {l:List AVal} (hN:M.n=N) (hi:Nat.blt i N=true) (hc:M.at_ i=.cells t l) (hv:l[off]? = some (.lit (.slice none 0 0))) :
    CvL cx nt E M E ((M.push (.row ct R [])).set i (.cells t (l.set off (.whole N)))) :=
  fun a w e hh he=>⟨_,hh.virCell hN (by simpa using hi) hc hv,he.mono (e.bump_le 0 0 0 true) (fun b=>e.bump_mem 0 0 0 true b),e.bump_le 0 0 0 true⟩
theorem Cv.virC {α:Type} (ct:TypeId) (R:Rd α) {i off N:Nat} {t:TypeId} {l:List AVal} (hN:M.n=N) (hi:Nat.blt i N=true) (hc:M.at_ i=.cells t l) (hv:l[off]? = some (.lit (.slice none 0 0))) :
    Cv cx nt E M E ((M.push (.row ct R [])).set i (.cells t (l.set off (.whole N)))):=CvL.cv (CvL.virC ct R hN hi hc hv)
theorem Cv.frzRow {i np:Nat} {t:TypeId} {α:Type} {R:Rd α} {l:List α} (hi:Nat.blt i M.n=true) (hc:M.at_ i=.row t R l) (hnp:cx.np=np) (hni:Nat.ble np i=true) (hd:(E.d.all fun j=>!Nat.beq j i)=true) :
    Cv cx nt E M (E.frz i (.ro (Rd.slice R) false l) .any) (M.frz i (.ro (Rd.slice R) false l) .any) :=
  fun a w e hh he=>let ⟨e',h1,h2,_⟩:=freeze_row hh he hi hc hnp hni hd;⟨e',h1,h2⟩
theorem nil_ro {e:Nv} {α:Type} (R:Rd α) (b:Bool) {v:Value} (h:Val e (.lit (.slice none 0 0)) v):Val e (.ro (Rd.slice R) b []) v:=by
  simp only [Val] at h ⊢
  exact .inl ⟨rfl,none,0,by rw [h]⟩
theorem Cv.nilRo {α:Type} (R:Rd α) (b:Bool) (tt:Nat) (hv:E.v tt=.lit (.slice none 0 0)):Cv cx nt E M (E.upd tt (.ro (Rd.slice R) b [])) M:=by
  intro a w e hh he
  refine ⟨e,hh,he.sz,fun u=>?_,he.d,he.o⟩
  rw [Env.upd_v]
  split
  · rename_i hu
    subst hu
    have:=he.v u
    rw [hv] at this
    exact nil_ro R b this
  · exact he.v u
theorem Cv.nilRoC {α:Type} (R:Rd α) (b:Bool) {i off:Nat} {t:TypeId} {l:List AVal} (hi:Nat.blt i M.n=true) (hc:M.at_ i=.cells t l) (hv:l[off]? = some (.lit (.slice none 0 0))) :
    Cv cx nt E M E (M.set i (.cells t (l.set off (.ro (Rd.slice R) b [])))) :=
  fun a w e hh he=>by
    have hin:i<e.n:=by rw [hh.n];simpa using hi
    have hlive:(M.at_ i).live e i:=by rw [hc];trivial
    refine ⟨e,hh.change hin hlive rfl rfl rfl rfl (fun _ _=>rfl) ?_,he.mem⟩
    have hk:=hh.ch i hin
    rw [hc] at hk
    obtain ⟨g1,vs,g2,g3,g4⟩:=hk
    refine ⟨g1,vs,g2,?_,g4⟩
    obtain ⟨u,hu,hval⟩:=g3.get hv
    have hset:vs=vs.set off u:=by
      apply List.ext_getElem?
      intro j
      rw [List.getElem?_set]
      split
      · rename_i hj;subst hj;split
        · rename_i hlt;rw [hu]
        · rename_i hge;rw [List.getElem?_eq_none (by omega)]
      · rfl
    rw [hset]
    exact g3.set (nil_ro R b hval)
theorem q_nm {op:Op} {ty:TypeId} {st:List Nat} {v v':AVal} (h:Quiet P op ty E M st v) (hv:v=v'):Quiet P op ty E M st v':=hv ▸ h
theorem nm_int {k:IntKind} {a b:Int} (h:some a=some b):AVal.lit (.int k a)=AVal.lit (.int k b):=by cases h;rfl
theorem nm_bool {a b:Bool} (h:some a=some b):AVal.lit (.bool a)=AVal.lit (.bool b):=by cases h;rfl
theorem nf {α:Type} {x:Option α} {r:α} {p:Prop} (e:x=none) (h:x=some r):p:=by rw [e] at h;cases h
end
theorem lb {a b:Bool} (h:a=b):AVal.lit (.bool a)=AVal.lit (.bool b):=by rw [h]
theorem bnot {a:Bool} (h:(!a)=true):a=false:=by cases a <;> first | rfl | cases h
theorem Joins.nil {α:Type} {R:Rd α} {b:Bool}:Joins (Rd.slice R) b [] [.lit (.slice none 0 0)]:=fun e cs hk ho=>by
  simp only [Vals,Val] at hk
  obtain ⟨v,ws,rfl,rfl,rfl⟩:=hk
  exact .inl ⟨rfl,none,0,rfl⟩
def BodyR (az:List (Nat × Nat)) (rs:List ResultVar) (np:Nat) (Q:Out→Mem→Prop) (x:Ex) (E:Env) (M:Mem):Prop :=
  match x with
  | .normal | .ret=>marksOk M E.d∧∃ vs,resAll az E (dropMarks M E.d) rs=some vs∧∃ (l:List Nat) (v:AVal) (M2:Mem),LeM l np (dropMarks M E.d) M2∧resOut vs=v.ren (sub l)∧(v.under M2.n&&E.b.isEmpty)=true∧Q (.ret v) M2
  | .panic u=>marksOk M E.d∧∃ (l:List Nat) (v:AVal) (M2:Mem),LeM l np (dropMarks M E.d) M2∧u=v.ren (sub l)∧(v.under M2.n&&E.b.isEmpty)=true∧Q (.pan v) M2
  | _=>False
theorem Spec.of_bodyR {az:List (Nat × Nat)} {P:Program} {f:FuncId} {fn:Func} {c:Code} {np nt:Nat} {args:List AVal} {M:Mem} {Q:Out→Mem→Prop} {rs:List ResultVar} (hf:P.funcs[f]? = some fn) (hb:fn.body=some c) (hr:fn.results.toList=rs) (hsc:∀ t T,ResultVar.cell t T∈rs→CellOk P az T)
    (hnt:fn.ntmps=nt) (ha:Nat.ble args.length nt=true) (h:∀ cx,cx.np=np→WP P cx ⟨nt,none,[]⟩ c (argsEnv args) M (BodyR az rs np Q)):Spec P f np args M Q:=by
  have h1:Spec P f np args M fun o M'=>match o with
      | .ret u=>∃ (l:List Nat) (v:AVal) (M2:Mem),LeM l np M' M2∧u=v.ren (sub l)∧v.under M2.n=true∧Q (.ret v) M2
      | .pan u=>∃ (l:List Nat) (v:AVal) (M2:Mem),LeM l np M' M2∧u=v.ren (sub l)∧v.under M2.n=true∧Q (.pan v) M2:=by
    refine Spec.of_body hf hb hr hsc hnt ha fun cx hnp=>(h cx hnp).mono fun x E M q=>?_
    cases x with
    | normal=>obtain ⟨q1,vs,q2,l,v,M2,g1,g2,g3,g4⟩:=q;rw [Bool.and_eq_true] at g3;exact ⟨by simpa using g3.2,q1,vs,q2,l,v,M2,g1,g2,g3.1,g4⟩
    | ret=>obtain ⟨q1,vs,q2,l,v,M2,g1,g2,g3,g4⟩:=q;rw [Bool.and_eq_true] at g3;exact ⟨by simpa using g3.2,q1,vs,q2,l,v,M2,g1,g2,g3.1,g4⟩
    | panic u=>obtain ⟨q1,l,v,M2,g1,g2,g3,g4⟩:=q;rw [Bool.and_eq_true] at g3;exact ⟨by simpa using g3.2,q1,l,v,M2,g1,g2,g3.1,g4⟩
    | exit id=>exact q
    | goto l=>exact q
  intro cx e w vs k1 k2 k3
  refine (h1 cx e w vs k1 k2 k3).mono fun x w' ⟨o,M',e',q,g1,g2⟩=>?_
  cases o with
  | ret u =>
    obtain ⟨l,v,M2,hM,rfl,hu,hq⟩:=q
    obtain ⟨y,rfl,hy⟩:=g2
    exact ⟨.ret v,M2,_,hq,g1.re k1.np hM,y,rfl,hy.re hu⟩
  | pan u =>
    obtain ⟨l,v,M2,hM,rfl,hu,hq⟩:=q
    obtain ⟨y,rfl,hy⟩:=g2
    exact ⟨.pan v,M2,_,hq,g1.re k1.np hM,y,rfl,hy.re hu⟩
section
variable {P:Program} {b:Frame} {a:Act} {k:List Item} {cs:List Frame} {w:World}
theorem stepR_scope {c:Code}:step P (lone (b.atR a (.code (.scope c)::k)) cs w)=.next (lone (b.atR a (.code c::.inScope c::k)) cs w) :=
  step_lone_go (by simp [stepG,stepG.exec,Frame.atR])
theorem stepR_inScope {c:Code}:step P (lone (b.atR a (.inScope c::k)) cs w)=.next (lone (b.atR a k) cs w) :=
  step_lone_go (by simp [stepG,stepG.exec,Frame.atR])
end
theorem WP.scope {P:Program} {cx:Cx} {fr:Fr} {c:Code} {E:Env} {M:Mem} {Q:Ex→Env→Mem→Prop} (h:WP P cx fr c E M fun x E M=>(match x with | .goto _=>False | _=>True)∧Q x E M):WP P cx fr (.scope c) E M Q:=by
  intro a w e hh he b k cs hro hb hr
  obtain ⟨x,a1,w1,hq,harr⟩:=h a w e hh he b (.inScope c::k) cs hro hb hr
  have h0:(lone (b.atR a (.code (.scope c)::k)) cs w).fenced P (fence P fr.r):=fenced_calm hb hr rfl
  obtain ⟨y,E',M',e',⟨q1,q2⟩,g1,g2,g3⟩:=hq
  have hs:Sat cx fr Q x a1 w1:=⟨y,E',M',e',q2,g1,g2,g3⟩
  cases y with
  | normal=>cases g3;exact ⟨.normal,a1,w1,hs,.head h0 stepR_scope (StepsIn.trans harr (.one (fenced_calm hb hr rfl) stepR_inScope))⟩
  | exit id =>
    cases g3
    have hx:exitTo id (.inScope c::k)=exitTo id k:=by simp [exitTo]
    exact ⟨.exit id,a1,w1,hs,fun k' hk=>.head h0 stepR_scope (harr.1 k' (by rw [hx];exact hk)),fun hr' hk=>let ⟨k1,h1,h2⟩:=harr.2 hr' (by rw [hx];exact hk);⟨k1,h1,.head h0 stepR_scope h2⟩⟩
  | goto l=>exact q1.elim
  | ret=>cases g3;exact ⟨_,a1,w1,hs,.of_steps (.one h0 stepR_scope) harr⟩
  | panic u =>
    obtain ⟨v,rfl,hv⟩:=g3
    exact ⟨_,a1,w1,hs,.of_steps (.one h0 stepR_scope) harr⟩
theorem Scope.r {Q:Ex→Env→Mem→Prop} {E:Env} {M:Mem} (h:Q .ret E M):(match Ex.ret with | .goto _=>False | _=>True)∧Q .ret E M:=⟨trivial,h⟩
section
variable {cx:Cx} {e:Nv} {M:Mem} {w:World} {E:Env} {nt:Nat}
theorem Hold.bindBag (h:Hold cx e M w):Hold cx (e.bump 0 0 0 true) (M.push .bag) w:=by
  have h1:=h.bindVir (t:=0) (R:=Rd.unit)
  have hat:∀ i,((M.push .bag).at_ i)=if i=M.n then .bag else (M.push (.row 0 Rd.unit [])).at_ i:=by
    intro i;rw [Mem.push_at,Mem.push_at];split <;> rfl
  have hatn:(M.push (.row 0 Rd.unit [])).at_ M.n=.row 0 Rd.unit []:=by rw [Mem.push_at,if_pos rfl]
  have hvn:(e.bump 0 0 0 true).vir M.n=true:=by simp [Nv.bump,h.n]
  have hbn:(e.bump 0 0 0 true).bag M.n=[]:=by simp [Nv.bump,h.n]
  have lv:∀ i,((M.push .bag).at_ i).live (e.bump 0 0 0 true) i→((M.push (.row 0 Rd.unit [])).at_ i).live (e.bump 0 0 0 true) i:=by
    intro i hl
    rw [hat] at hl
    split at hl
    · exact hl.elim
    · exact hl
  have mk:∀ i,((M.push .bag).at_ i).mark=true→i=M.n∨((M.push (.row 0 Rd.unit [])).at_ i).mark=true:=by
    intro i hm
    rw [hat] at hm
    split at hm
    · exact .inl (by assumption)
    · exact .inr hm
  refine ⟨h1.bm,h1.n,h1.size,h1.os,h1.tape,h1.output,h1.frame,h1.ro,h1.bro,h1.m0,h1.mnew,?_,fun i hi hl=>h1.live i hi (lv i hl),fun i j hi hj hli hlj=>h1.dist i j hi hj (lv i hli) (lv j hlj),h1.np,h1.pin,⟨?_,?_,?_,?_⟩⟩
  · intro i hi
    rw [hat]
    split
    · rename_i hin;subst hin;exact hvn
    · exact h1.ch i hi
  · intro i hi hm
    rcases mk i hm with rfl | hm
    · rw [hbn];exact List.nodup_nil
    · exact h1.bag.nodup i hi hm
  · intro i hi hm x hx
    rcases mk i hm with rfl | hm
    · rw [hbn] at hx;cases hx
    · exact h1.bag.at_ i hi hm x hx
  · intro i hi hm x hx j hj hlj
    rcases mk i hm with rfl | hm
    · rw [hbn] at hx;cases hx
    · exact h1.bag.own i hi hm x hx j hj (lv j hlj)
  · intro i j hi hj hmi hmj hij x hx
    rcases mk i hmi with rfl | hmi
    · rw [hbn] at hx;cases hx
    · rcases mk j hmj with rfl | hmj
      · rw [hbn];simp
      · exact h1.bag.dist i j hi hj hmi hmj hij x hx
theorem Cv.nullMark {N:Nat} (hN:M.n=N) (hd:E.d=[]):Cv cx nt E M ⟨E.v,[N],E.o,E.b⟩ (M.push .bag):=by
  intro a w e hh he
  have h1:Emb nt (e.bump 0 0 0 true) (M.push .bag) E a:=he.mono (e.bump_le 0 0 0 true) (fun b=>e.bump_mem 0 0 0 true b)
  refine ⟨_,hh.bindBag,h1.sz,h1.v,?_,h1.o⟩
  have hd1:=h1.d
  rw [hd] at hd1
  obtain ⟨r,hr,hm⟩:=hd1
  have hr0:r=[]:=hm
  subst hr0
  refine ⟨[],hr,[],?_,by simp [Nv.bump,hh.n,hN],rfl⟩
  have:markBlocks (e.bump 0 0 0 true) N=[]:=by simp [markBlocks,Nv.bump,hh.n,hN]
  rw [this]
  rfl
end
def Nv.bumpBag (e:Nv) (bs:List Nat):Nv:={ e.bump 0 0 0 true with bag:=fun k=>if k=e.n then bs else e.bag k }
theorem Nv.bumpBag_le (e:Nv) (bs:List Nat):e.le (e.bumpBag bs) :=
  ⟨Ro.le.refl _,Ro.le.refl _,Nat.le_succ _,(e.bump_le 0 0 0 true).own,(e.bump_le 0 0 0 true).caps,(e.bump_le 0 0 0 true).lens,(e.bump_le 0 0 0 true).vir,fun i hi=>by simp [Nv.bumpBag,Nat.ne_of_lt hi]⟩
theorem Nv.bumpBag_mem (e:Nv) (bs:List Nat) (x:Bool):Ro.le (e.mem x) ((e.bumpBag bs).mem x):=Ro.le.refl _
section
variable {cx:Cx} {e:Nv} {M:Mem} {w:World} {E:Env} {nt:Nat}
theorem Hold.bindBagL (h:Hold cx e M w) {bs:List Nat} (hn:bs.Nodup) (hb:∀ b∈bs,w.heap[b]? = some (.deferred (some []))∧Trash cx e M b):Hold cx (e.bumpBag bs) (M.push .bag) w:=by
  have hle:=e.bumpBag_le bs
  have hat:∀ i,i<e.n→(M.push .bag).at_ i=M.at_ i:=fun i hi=>by rw [Mem.push_at,if_neg (by rw [← h.n];omega)]
  have hatn:(M.push .bag).at_ e.n=.bag:=by rw [Mem.push_at,if_pos h.n]
  have split:∀ i,i<(e.bumpBag bs).n→i=e.n∨i<e.n:=fun i hi=>by simp only [Nv.bumpBag,Nv.bump] at hi;omega
  have bn:(e.bumpBag bs).bag e.n=bs:=by simp [Nv.bumpBag]
  have bo:∀ i,i<e.n→(e.bumpBag bs).bag i=e.bag i:=hle.bag
  have hdead:¬ ((M.push .bag).at_ e.n).live (e.bumpBag bs) e.n:=by rw [hatn];exact fun h=>h
  refine ⟨h.bm,by simp [Nv.bumpBag,Nv.bump,Mem.push,h.n],h.size,h.os,h.tape,h.output,h.frame,h.ro,h.bro,h.m0,h.mnew,?_,?_,?_,Nat.le_succ_of_le h.np,?_,?_⟩
  · intro i hi
    rcases split i hi with rfl | hi'
    · rw [hatn];simp [Chunk.ok,Nv.bumpBag,Nv.bump]
    · rw [hat i hi']
      exact Chunk.ok_mono hle (fun x=>e.bumpBag_mem bs x) hi' (h.ch i hi')
  · intro i hi hl
    rcases split i hi with rfl | hi'
    · exact absurd hl hdead
    · rw [hat i hi'] at hl
      have:=h.live i hi' ((live_congr (hle.vir i hi')).1 hl)
      rw [hle.own i hi']
      exact this
  · intro i j hi hj hli hlj hij
    rcases split i hi with rfl | hi'
    · exact absurd hli hdead
    rcases split j hj with rfl | hj'
    · exact absurd hlj hdead
    rw [hat i hi'] at hli
    rw [hat j hj'] at hlj
    rw [hle.own i hi',hle.own j hj'] at hij
    exact h.dist i j hi' hj' ((live_congr (hle.vir i hi')).1 hli) ((live_congr (hle.vir j hj')).1 hlj) hij
  · intro i hi
    have hi':i<e.n:=by have:=h.np;omega
    rw [hle.own i hi',hle.caps i hi',hle.lens i hi',hle.vir i hi']
    exact h.pin i hi
  · refine ⟨fun i hi hmk=>?_,fun i hi hmk x hx=>?_,fun i hi hmk x hx j hj hlj=>?_,fun i j hi hj hmi hmj hij x hx=>?_⟩
    · rcases split i hi with rfl | hi'
      · rw [bn];exact hn
      · rw [hat i hi'] at hmk;rw [bo i hi'];exact h.bag.nodup i hi' hmk
    · rcases split i hi with rfl | hi'
      · rw [bn] at hx
        obtain ⟨h1,h2⟩:=hb x hx
        exact ⟨h1,h2.m,h2.bm,h2.F⟩
      · rw [hat i hi'] at hmk;rw [bo i hi'] at hx
        exact h.bag.at_ i hi' hmk x hx
    · rcases split j hj with rfl | hj'
      · exact absurd hlj hdead
      · rw [hat j hj'] at hlj
        rw [hle.own j hj']
        have hlj':=(live_congr (hle.vir j hj')).1 hlj
        rcases split i hi with rfl | hi'
        · rw [bn] at hx;exact (hb x hx).2.own j hj' hlj'
        · rw [hat i hi'] at hmk;rw [bo i hi'] at hx
          exact h.bag.own i hi' hmk x hx j hj' hlj'
    · rcases split i hi with rfl | hi'
      · rw [bn] at hx
        rcases split j hj with rfl | hj'
        · exact absurd rfl hij
        · rw [hat j hj'] at hmj;rw [bo j hj']
          exact (hb x hx).2.bag j hj' hmj
      · rw [hat i hi'] at hmi;rw [bo i hi'] at hx
        rcases split j hj with rfl | hj'
        · rw [bn]
          exact fun hxb=>(hb x hxb).2.bag i hi' hmi hx
        · rw [hat j hj'] at hmj;rw [bo j hj']
          exact h.bag.dist i j hi' hj' hmi hmj hij x hx
theorem Cv.absorb {N i j:Nat} {l:List Nat} (hN:M.n=N) (hd:E.d=j::i::l) (hj:M.at_ j=.obj (.deferred (some []))) (hi:M.at_ i=.bag):Cv cx nt E M ⟨E.v,N::l,E.o,E.b⟩ (((M.set j .gone).set i .gone).push .bag):=by
  intro a w e hh he
  have hdm:=he.d
  rw [hd] at hdm
  obtain ⟨r0,hr0,r1,hr1,hjn,i1,hi1,hin,hr2⟩:=hdm
  have hij:j≠i:=by rintro rfl;rw [hj] at hi;cases hi
  have hjm:(M.at_ j).mark=true:=by rw [hj];rfl
  have him:(M.at_ i).mark=true:=by rw [hi];rfl
  have hjl:(M.at_ j).live e j:=by rw [hj];trivial
  have hcj:=hh.ch j hjn
  rw [hj] at hcj
  obtain ⟨hvj,hbj⟩:=hcj
  have hci:=hh.ch i hin
  rw [hi] at hci
  have hvi:e.vir i=true:=hci
  have hlj:=hh.live j hjn hjl
  let bs:=e.own j::(e.bag j++e.bag i)
  have hh2:Hold cx e ((M.set j .gone).set i .gone) w:=(hh.drop j).drop i
  have at2:∀ k,((M.set j .gone).set i .gone).at_ k=if k=i then .gone else if k=j then .gone else M.at_ k:=by
    intro k;rw [Mem.set_at];split
    · rfl
    · rw [Mem.set_at]
  have lv:∀ k,(((M.set j .gone).set i .gone).at_ k).live e k→k≠j∧(M.at_ k).live e k:=by
    intro k hk
    rw [at2] at hk
    split at hk
    · exact hk.elim
    · split at hk
      · exact hk.elim
      · exact ⟨by assumption,hk⟩
  have mk:∀ k,(((M.set j .gone).set i .gone).at_ k).mark=true→k≠j∧k≠i∧(M.at_ k).mark=true:=by
    intro k hk
    rw [at2] at hk
    split at hk
    · cases hk
    · split at hk
      · cases hk
      · exact ⟨by assumption,by assumption,hk⟩
  have hnd:bs.Nodup:=by
    refine List.nodup_cons.2 ⟨?_,List.nodup_append.2 ⟨hh.bag.nodup j hjn hjm,hh.bag.nodup i hin him,?_⟩⟩
    · intro hm
      rcases List.mem_append.1 hm with hm | hm
      · exact hh.bag.own j hjn hjm _ hm j hjn hjl rfl
      · exact hh.bag.own i hin him _ hm j hjn hjl rfl
    · intro x hx y hy hxy
      subst hxy
      exact hh.bag.dist j i hjn hin hjm him hij x hx hy
  have htr:∀ b∈bs,w.heap[b]? = some (.deferred (some []))∧Trash cx e ((M.set j .gone).set i .gone) b:=by
    intro b hb
    rcases List.mem_cons.1 hb with rfl | hb
    · refine ⟨hbj,hlj.2.1,hlj.2.2.1,hlj.2.2.2,fun k hk hl=>?_,fun k hk hm hx=>?_⟩
      · obtain ⟨h1,h2⟩:=lv k hl
        exact fun he=>h1 (hh.dist k j hk hjn h2 hjl he)
      · exact hh.bag.own k hk (mk k hm).2.2 _ hx j hjn hjl rfl
    · have key:∀ q,q<e.n→(M.at_ q).mark=true→(q=j∨q=i)→b∈e.bag q→w.heap[b]? = some (.deferred (some []))∧Trash cx e ((M.set j .gone).set i .gone) b:=by
        intro q hq hqm hqji hbq
        obtain ⟨g1,g2,g3,g4⟩:=hh.bag.at_ q hq hqm b hbq
        refine ⟨g1,g2,g3,g4,fun k hk hl=>hh.bag.own q hq hqm b hbq k hk (lv k hl).2,fun k hk hm=>?_⟩
        obtain ⟨m1,m2,m3⟩:=mk k hm
        refine hh.bag.dist q k hq hk hqm m3 ?_ b hbq
        rcases hqji with rfl | rfl
        · exact fun h=>m1 h.symm
        · exact fun h=>m2 h.symm
      rcases List.mem_append.1 hb with hb | hb
      · exact key j hjn hjm (.inl rfl) hb
      · exact key i hin him (.inr rfl) hb
  have hle:=e.bumpBag_le bs
  have h1:Emb nt (e.bumpBag bs) (((M.set j .gone).set i .gone).push .bag) E a:=he.mono hle (fun b=>e.bumpBag_mem bs b)
  have hNe:N=e.n:=by rw [← hN,hh.n]
  refine ⟨_,hh2.bindBagL hnd htr,h1.sz,h1.v,?_,h1.o⟩
  refine ⟨r0,hr0,i1,?_,by rw [hNe];simp [Nv.bumpBag,Nv.bump],hr2.mono hle⟩
  have e1:markBlocks (e.bumpBag bs) N=bs:=by
    subst hNe;simp [markBlocks,Nv.bumpBag,Nv.bump]
  have e2:markBlocks e j=e.own j::e.bag j:=by simp [markBlocks,hvj]
  have e3:markBlocks e i=e.bag i:=by simp [markBlocks,hvi]
  rw [hr1,hi1,e1,e2,e3]
  simp [bs]
end
def strOf (l:List Int):ByteArray:=l.foldl (fun r n=>r.push (UInt8.ofNat n.toNat)) ByteArray.empty
theorem rows_u8 {m:Ro}:∀ {l:List Int} {cs:List Value},rows (Rd.int .u8) m l cs→cs.take l.length=l.map (Value.int .u8)
  | [],_,_=>by simp
  | d::l,cs,h=>by
    obtain ⟨h1,h2⟩:=h
    have h3:=rows_u8 h2
    simp only [Rd.int,Rd.sc] at h1 h3
    cases cs with
    | nil=>simp at h1
    | cons c cs =>
      simp at h1 h3
      simp [h1,h3]
section
variable {P:Program} {E:Env} {M:Mem} {ty:TypeId}
theorem run_firstBytes (w:World) (bk o len:Nat) {c:Array Value} {tt:TypeId} {fr:Nat × Nat} {m:Ro} {l:List Int} (hb:w.heap[bk]? = some (.cells c tt fr)) (hr:rows (Rd.int .u8) m l (c.toList.drop o)) (hl:len=l.length) :
    (loadCells ⟨bk,o,none⟩ len).run P w=.ok (l.map (Value.int .u8)).toArray w:=by
  have h1:=rows_u8 hr
  have h2:=rows_len hr
  simp only [Rd.int,Rd.sc,Nat.mul_one] at h2
  have:=run_loadCells_list (P:=P) w ⟨bk,o,none⟩ (l.map (Value.int .u8)) (by
    intro j v hj
    rw [add_at,cell_of hb]
    rw [← h1] at hj
    have hjl:j<l.length:=by
      have:=(List.getElem?_eq_some_iff.1 hj).1
      simp at this;omega
    rw [List.getElem?_take_of_lt hjl,List.getElem?_drop] at hj
    simpa using hj)
  rw [List.length_map] at this
  rw [hl];exact this
theorem q_bytes_str_row {src dst e ct:TypeId} {x:Operand} {i:Nat} {l:List Int} (hs:P.underlying src=some (.slice e)) (he:P.underlying e=some (.int .u8)) (hd:P.underlying dst=some .string) (hx:E.ev x=.whole i) (hc:M.at_ i=.row ct (Rd.int .u8) l) :
    Quiet P (.convert src dst x) ty E M [i] (.lit (.string (strOf l))) :=
  fun cx nt a w e' hh hem=>⟨.string (strOf l),by simp [Val],fun w1 hw=>by
    have hv:=hem.ev x;rw [hx] at hv;simp only [Val] at hv
    have hk:=hh.ch i hv.1
    rw [hc] at hk
    obtain ⟨g1,g2,g3,g4⟩:=hk
    have hv3:=hv.2.2
    cases hvir:e'.vir i with
    | true =>
      rw [hvir] at hv3 g4
      simp only [if_true] at hv3 g4
      subst g4
      have:(Conv.bytesToString (.slice none 0 0)).run P w1=.ok (.string ByteArray.empty) w1:=by simp [Conv.bytesToString]
      simp only [exec1,execOp,hv3.1,Sem.run_bind,run_convert_bytes_string w1 src dst e none 0 0 hs he hd,this,Result.andThen,Sem.run_pure]
      rfl
    | false =>
      rw [hvir] at hv3 g4
      simp only [Bool.false_eq_true,if_false] at hv3 g4
      obtain ⟨c,z,hb,_,hcs,hrow⟩:=g4
      have:=run_bytesToString (P:=P) w1 ⟨e'.own i,0,none⟩ l.length (e'.caps i) l (run_firstBytes w1 (e'.own i) 0 l.length ((hw.own i (by simp) hvir).trans hb) (by simpa using hrow) rfl)
      simp only [exec1,execOp,hv3,g1,Sem.run_bind,run_convert_bytes_string w1 src dst e _ _ _ hs he hd,this,Result.andThen,Sem.run_pure]
      rfl⟩
end
def heapRo (W:World):Ro:=fun b=>W.heap[b]?
def nvAll (W:World):Nv:=⟨heapRo W,fun _=>none,fun _=>0,fun _=>0,fun _=>0,fun _=>false,0,fun _=>[]⟩
theorem Spec.law {P:Program} {f:FuncId} {args:List AVal} {x:Value} (h:Spec P f 0 args Mem.nil fun o M=>o=.ret (.lit x)∧M=Mem.nil) {W:World} {vs:List Value} (hv:Vals (nvAll W) args vs)
    (htb:∀ g l,tabs g=some l→∃ c t z,heapRo W g=some (.cells c t z)∧c.toList.take l.length=l:=by exact tabs_none)
    (hop:∀ g,opens.contains g=true→∃ x,Open1 (heapRo W) g x:=by exact opens_none) :
    Calls P f vs.toArray W fun e W'=>e=.returned x∧RowKit.Below W.heap.size W W':=by
  have hent:Entry ⟨W,fun _=>False,heapRo W,fun _=>none,0,nvAll W,htb,hop⟩ 0 (nvAll W) Mem.nil W :=
    ⟨rfl,rfl,rfl,rfl,fun b=>⟨fun h=>h.elim,fun ⟨i,hi,_⟩=>absurd hi (Nat.not_lt_zero _)⟩⟩
  have hh:Hold ⟨W,fun _=>False,heapRo W,fun _=>none,0,nvAll W,htb,hop⟩ (nvAll W) Mem.nil W :=
    ⟨rfl, rfl, Nat.le_refl _, rfl, rfl, rfl, fun _ _ _ => rfl, fun _ _ h => h, fun _ _ h => (by cases h), Ro.le.refl _, fun _ _ h => .inl h, fun i hi => absurd hi (Nat.not_lt_zero _), fun i hi => absurd hi (Nat.not_lt_zero _),
     fun i j hi=>absurd hi (Nat.not_lt_zero _),Nat.le_refl _,fun i hi=>absurd hi (Nat.not_lt_zero _),
     ⟨fun i hi=>absurd hi (Nat.not_lt_zero _),fun i hi=>absurd hi (Nat.not_lt_zero _),fun i hi=>absurd hi (Nat.not_lt_zero _),fun i j hi=>absurd hi (Nat.not_lt_zero _)⟩⟩
  refine Calls.mono (CallsIn.calls (h _ _ W vs hent hh hv) (fence_room _)) ?_
  rintro e W' ⟨o,M',e',⟨rfl,rfl⟩,k1,u,rfl,k2⟩
  simp only [Val] at k2
  subst k2
  exact ⟨rfl,k1.os,k1.tape,k1.output,k1.size,fun k hk=>k1.frame k hk (fun h=>h)⟩
theorem add_at' {a:Addr} {b off:Nat}:(a.add 0=⟨b,off,none⟩)=(a=⟨b,off,none⟩):=by
  obtain ⟨b',o',sp⟩:=a
  cases sp <;> simp [Addr.add]
structure Meas (H:Type) where
  u:DataW H→Nat
  ua:List (DataW H)→Nat
  nil:1≤u .nil
  lit:∀ l,1≤u (.lit l)
  str:∀ b,b.length+1≤u (.lit (.string b))
  ptr:∀ d,u d+1≤u (.ptr d)
  slice:∀ e s,ua e+1≤u (.slice e s)
  agg:∀ l,ua l+1≤u (.agg l)
  cons:∀ d r,u d+ua r≤ua (d::r)
def Opn (P:Program) (t:TypeId) {α:Type} (R:Rd α) (wf:α→Prop) (ms:α→Nat):Prop :=
  R.sz=P.cellsOf t∧∀ (H:Type) (enc:TypeId × Value→H) (W:World) (fuel:Nat) (cs:List Value) (x:DataW H × List MemPlace),
    DataW.trod enc P W 0 (fun _=>true) true fuel t cs=some x→∃ d,R.ok (heapRo W) d cs∧wf d∧∀ μ:Meas H,ms d≤μ.u x.1
section
variable {P:Program} {t e:TypeId}
theorem Opn.int {k:IntKind} (ht:P.underlying t=some (.int k)) (hc:P.cellsOf t=1):Opn P t (Rd.int k) (fun n=>(Lit.int k n).wf=true) (fun _=>1) :=
  ⟨hc.symm,fun H enc W fuel cs x h=>by
    obtain ⟨n,rfl,rfl,hw⟩:=DataW.trod_int ht h
    exact ⟨n,rfl,hw,fun μ=>μ.lit _⟩⟩
theorem Opn.bool (ht:P.underlying t=some .bool) (hc:P.cellsOf t=1):Opn P t Rd.bool (fun _=>True) (fun _=>1) :=
  ⟨hc.symm,fun H enc W fuel cs x h=>by
    obtain ⟨n,rfl,rfl⟩:=DataW.trod_bool ht h
    exact ⟨n,rfl,trivial,fun μ=>μ.lit _⟩⟩
def msum {α:Type} (ms:α→Nat):List α→Nat
  | []=>0
  | x::l=>ms x+msum ms l
theorem rows_mk {H:Type} {α:Type} {R:Rd α} {m:Ro} {wf:α→Prop} {ms:α→Nat}:∀ (xs:List (DataW H × List MemPlace)) (cs:List Value),(∀ i x,xs[i]? = some x→∃ d,R.ok m d ((cs.drop (i*R.sz)).take R.sz)∧wf d∧∀ μ:Meas H,ms d≤μ.u x.1) →
    ∃ l:List α,l.length=xs.length∧rows R m l cs∧(∀ x∈l,wf x)∧∀ μ:Meas H,msum ms l≤μ.ua (xs.map (·.1))
  | [],_,_=>⟨[],rfl,trivial,by simp,fun μ=>Nat.zero_le _⟩
  | x::xs,cs,h=>by
    obtain ⟨d,h1,h2,h0⟩:=h 0 x rfl
    obtain ⟨l,h3,h4,h5,h6⟩:=rows_mk xs (cs.drop R.sz) (fun i y hi=>by
      obtain ⟨d,h1,h2,h0⟩:=h (i+1) y (by simpa using hi)
      refine ⟨d,?_,h2,h0⟩
      rw [List.drop_drop]
      rw [Nat.add_mul,Nat.one_mul,Nat.add_comm] at h1
      exact h1)
    refine ⟨d::l,by simp [h3],⟨by simpa using h1,h4⟩,?_,fun μ=>?_⟩
    · intro x hx
      rcases List.mem_cons.1 hx with rfl | hx
      · exact h2
      · exact h5 x hx
    · exact Nat.le_trans (Nat.add_le_add (h0 μ) (h6 μ)) (μ.cons _ _)
theorem cells?_block {W:World} {a:Addr} {n:Nat} {cs:List Value} (h:W.cells? 0 a n=some cs) (hn:0<n):∃ b off c tt fr,a=⟨b,off,none⟩∧W.heap[b]? = some (.cells c tt fr)∧cs=(c.toList.drop off).take n:=by
  obtain ⟨_,hlen,hget⟩:=World.cells?_some h
  obtain ⟨b,off,spot⟩:=a
  have h0:=hget 0 hn
  rw [List.getElem?_eq_getElem (by omega)] at h0
  have hspot:spot=none:=by simpa [Addr.add] using World.cell?_spot h0
  subst hspot
  rw [add_at] at h0
  cases hb:W.heap[b]? with
  | none=>simp [World.cell?,hb] at h0
  | some o =>
    cases o with
    | cells c tt fr =>
      refine ⟨b,off,c,tt,fr,rfl,hb,?_⟩
      apply List.ext_getElem?
      intro i
      by_cases hi:i<n
      · rw [← hget i hi,add_at,cell_of hb,List.getElem?_take_of_lt hi,List.getElem?_drop];simp
      · rw [List.getElem?_eq_none (by omega),List.getElem?_eq_none (by simp;omega)]
    | _=>simp [World.cell?,hb] at h0
theorem Opn.slice {α:Type} {R:Rd α} {wf:α→Prop} {ms:α→Nat} (ht:P.underlying t=some (.slice e)) (hc:P.cellsOf t=1) (he:Opn P e R wf ms) (hpos:Nat.blt 0 R.sz=true):Opn P t (Rd.slice R) (fun l=>l.length≤maxLen∧∀ x∈l,wf x) (fun l=>msum ms l+1) :=
  ⟨hc.symm,fun H enc W fuel cs x h=>by
    have hpos':0<R.sz:=by simpa using hpos
    rcases DataW.trod_slice ht h with ⟨rfl,rfl⟩ | ⟨a,len,cap,elems,rest,n,_,rfl,rfl,_,hl,hm,hlen,hel,_⟩
    · exact ⟨[],.inl ⟨rfl,none,0,rfl⟩,⟨Nat.zero_le _,by simp⟩,fun μ=>μ.nil⟩
    · have each:∀ i x,elems[i]? = some x→∃ cs',W.cells? 0 (a.add (i*R.sz)) R.sz=some cs'∧∃ d,R.ok (heapRo W) d cs'∧wf d∧∀ μ:Meas H,ms d≤μ.u x.1:=by
        intro i x hi
        have hil:i<len:=by rw [← hlen];exact (List.getElem?_eq_some_iff.1 hi).1
        have h1:=hel i hil
        rw [← he.1,hi,Option.bind_eq_some_iff] at h1
        obtain ⟨cs',h2,h3⟩:=h1
        exact ⟨cs',h2,he.2 H enc W n cs' _ h3⟩
      rcases Nat.eq_zero_or_pos len with h0 | h0
      · subst h0
        refine ⟨[],.inl ⟨rfl,some a,cap,rfl⟩,⟨Nat.zero_le _,by simp⟩,fun μ=>?_⟩
        have:=μ.slice (elems.map (·.1)) (rest.map (·.1))
        simp only [msum];omega
      · obtain ⟨cs0,h2,_⟩:=each 0 elems[0] (List.getElem?_eq_getElem (by omega))
        rw [Nat.zero_mul] at h2
        obtain ⟨b,off,c,tt,fr,ha,hb,_⟩:=cells?_block h2 hpos'
        rw [add_at'] at ha
        subst ha
        obtain ⟨l,k1,k2,k3,k4⟩:=rows_mk (R:=R) (m:=heapRo W) (wf:=wf) (ms:=ms) elems (c.toList.drop off) (fun i x hi=>by
          obtain ⟨cs',h2,d,h3,h4⟩:=each i x hi
          rw [add_at] at h2
          obtain ⟨b',off',c',tt',fr',ha',hb',hcs⟩:=cells?_block h2 hpos'
          simp only [Addr.mk.injEq,and_true] at ha'
          obtain ⟨rfl,rfl⟩:=ha'
          rw [hb] at hb'
          cases hb'
          refine ⟨d,?_,h4⟩
          rw [List.drop_drop,← hcs]
          exact h3)
        exact ⟨l,.inr ⟨b,off,c,tt,fr,cap,by rw [k1,hlen],by omega,hb,k2⟩,⟨by omega,k3⟩,fun μ=>Nat.le_trans (Nat.succ_le_succ (k4 μ)) (μ.slice _ _)⟩⟩
def OpnP (P:Program) (l:List (Nat × TypeId)) (o:Nat) {α:Type} (R:Rd α) (wf:α→Prop) (ms:α→Nat):Prop :=
  ∀ (H:Type) (enc:TypeId × Value→H) (W:World) (fuel:Nat) (cs:List Value) (xs:List (DataW H × List MemPlace)),xs.length=l.length→(∀ (i:Nat) (p:Nat × TypeId),l[i]? = some p→DataW.trod enc P W 0 (fun _=>true) true fuel p.2 ((cs.drop p.1).take (P.cellsOf p.2))=xs[i]?)→cs.length=o+R.sz →
    ∃ d,R.ok (heapRo W) d (cs.drop o)∧wf d∧∀ μ:Meas H,ms d≤μ.ua (xs.map (·.1))
theorem OpnP.nil {o:Nat}:OpnP P [] o Rd.unit (fun _=>True) (fun _=>0):=fun H enc W fuel cs xs _ _ hl=>⟨(),by
  show cs.drop o=[]
  exact List.drop_of_length_le (by simp [Rd.unit] at hl;omega),trivial,fun μ=>Nat.zero_le _⟩
theorem OpnP.cons {o o':Nat} {l:List (Nat × TypeId)} {α β:Type} {R:Rd α} {S:Rd β} {wf:α→Prop} {wf':β→Prop} {ms:α→Nat} {ms':β→Nat} (h:Opn P t R wf ms) (ho:o+R.sz=o') (k:OpnP P l o' S wf' ms') :
    OpnP P ((o,t)::l) o (Rd.pair R S) (fun d=>wf d.1∧wf' d.2) (fun d=>ms d.1+ms' d.2):=fun H enc W fuel cs xs hx ha hl=>by
  subst ho
  cases xs with
  | nil=>simp at hx
  | cons x xs =>
    have hx1:=ha 0 (o,t) rfl
    obtain ⟨d,h1,h2,h5⟩:=h.2 H enc W fuel _ x hx1
    obtain ⟨d',h3,h4,h6⟩:=k H enc W fuel cs xs (by simpa using hx) (fun i p hp=>ha (i+1) p (by simpa using hp)) (by simp only [Rd.pair] at hl;omega)
    refine ⟨(d,d'),⟨(cs.drop o).take R.sz,cs.drop (o+R.sz),?_,by rw [h.1];exact h1,h3⟩,⟨h2,h4⟩,fun μ=>Nat.le_trans (Nat.add_le_add (h5 μ) (h6 μ)) (μ.cons _ _)⟩
    rw [← List.drop_drop]
    exact (List.take_append_drop _ _).symm
end
theorem wi {n:Int} (h1 : -9223372036854775808≤n) (h2:n≤9223372036854775807):IntKind.wrap .i64 n=n:=by
  rw [IntKind.wrap_i64];omega
theorem ix_nat {α:Type} {l:List α} {i:Nat} (h:i<l.length):ix l (i:Int)=some l[i]:=by
  simp [ix,h]
theorem dt {p:Prop} [Decidable p] (h:p):decide p=true:=decide_eq_true h
theorem df {p:Prop} [Decidable p] (h:¬ p):decide p=false:=decide_eq_false h
def arrL.{u} {α:Type u} (f:α→AVal) (d0:α) (xs:List α):Nat→Nat→List AVal
  | 0,_=>[]
  | n+1,k=>f (xs.getD k d0)::arrL f d0 xs n (k+1)
def setD.{u} {α:Type u} (d0:α) (xs:List α) (n j:Nat) (v:α):List α:=(List.range n).map fun i=>if i=j then v else xs.getD i d0
theorem arrL_length.{u} {α:Type u} {f:α→AVal} {d0:α} {xs:List α}:∀ {n k:Nat},(arrL f d0 xs n k).length=n
  | 0,_=>rfl
  | n+1,k=>by simp [arrL,arrL_length]
theorem arrL_get.{u} {α:Type u} {f:α→AVal} {d0:α} {xs:List α}:∀ {n k i:Nat},i<n→(arrL f d0 xs n k)[i]? = some (f (xs.getD (k+i) d0))
  | 0,_,_,h=>absurd h (Nat.not_lt_zero _)
  | n+1,k,0,_=>by simp [arrL]
  | n+1,k,i+1,h=>by
    rw [arrL,List.getElem?_cons_succ,arrL_get (by omega),show k+1+i=k+(i+1) by omega]
theorem setD_get.{u} {α:Type u} {d0:α} {xs:List α} {n j i:Nat} {v:α} (h:i<n):(setD d0 xs n j v).getD i d0=if i=j then v else xs.getD i d0:=by
  simp [setD,List.getD_eq_getElem?_getD,List.getElem?_map,List.getElem?_range h]
theorem arrL_set.{u} {α:Type u} {f:α→AVal} {d0:α} {xs:List α} {n j:Nat} {v:α}:arrL f d0 (setD d0 xs n j v) n 0=(arrL f d0 xs n 0).set j (f v):=by
  apply List.ext_getElem?
  intro i
  rw [List.getElem?_set]
  by_cases hi:i<n
  · rw [arrL_get hi,arrL_get hi,Nat.zero_add,setD_get hi]
    by_cases hij:i=j
    · subst hij;simp [arrL_length,hi]
    · rw [if_neg hij,if_neg (fun h=>hij h.symm)]
  · rw [List.getElem?_eq_none (by rw [arrL_length];omega),List.getElem?_eq_none (by rw [arrL_length];omega)]
    split
    · split
      · rename_i h;rw [arrL_length] at h;omega
      · rfl
    · rfl
theorem addone (a b:Nat):a+b*1=a+b:=by rw [Nat.mul_one]
theorem natlt {i:Int} {n:Nat} (h:decide (0≤i∧i<(n:Int))=true):decide (i.toNat<n)=true:=by
  have:=of_decide_eq_true h
  exact decide_eq_true (by omega)
section
variable {P:Program} {ty:TypeId} {E:Env} {M:Mem}
theorem run_indexAt_ar {t el:TypeId} {n sz:Nat} (h:ArIs P t el n sz) (b o:Nat) (k:IntKind) (i:Int) (h0:0≤i) (h1:i<n) (w:World) :
    (Instr.indexAt t (.pointer (some ⟨b,o,Option.none⟩)) (.int k i)).run P w=.ok (.pointer (some ⟨b,o+i.toNat*sz,Option.none⟩)) w:=by
  simp [Instr.indexAt,run_underlying h.t,h0,h1,h.e.run,add_at,asIntOf,Instr.sureAddr]
theorem q_indexArr {t el:TypeId} {n sz i off o:Nat} {x y:Operand} {k:IntKind} {j:Int} (h:ArIs P t el n sz) (hx:E.ev x=.ptr i off) (hy:E.ev y=.lit (.int k j)) (hj:decide (0≤j∧j<n)=true) (ho:off+j.toNat*sz=o) :
    Quiet P (.indexAddr t x y) ty E M [] (.ptr i o) :=
  fun _ _ a w e hh he=>by
    subst ho
    have hv:=he.ev x;rw [hx] at hv;simp only [Val] at hv
    obtain ⟨h0,h1⟩:=of_decide_eq_true hj
    refine ⟨.pointer (some ⟨e.own i,off+j.toNat*sz,Option.none⟩),by simp [Val,hv.1,hv.2.1],fun w1 hw=>?_⟩
    have:=run_indexAt_ar h (e.own i) off k j h0 h1 w1
    simp [exec1,execOp,hv.2.2,ev_lit he hy,this]
theorem arr_at.{u} {α:Type u} {f:α→AVal} {d0:α} {xs:List α} {n off j:Nat} {l:List AVal} (hl:(l.drop off).take n=arrL f d0 xs n 0) (hj:j<n):l[off+j]? = some (f (xs.getD j d0)):=by
  have:=arrL_get (f:=f) (d0:=d0) (xs:=xs) (k:=0) hj
  rw [← hl,List.getElem?_take_of_lt hj,List.getElem?_drop,Nat.zero_add] at this
  exact this
theorem q_load_arr.{u} {α:Type u} {f:α→AVal} {d0:α} {xs:List α} {n off o j i:Nat} {t ct:TypeId} {x:Operand} {l:List AVal} (ht:Sc P t) (hx:E.ev x=.ptr i o) (hc:M.at_ i=.cells ct l) (hl:(l.drop off).take n=arrL f d0 xs n 0) (hj:decide (j<n)=true) (ho:o=off+j) :
    Quiet P (.load t x) ty E M [i] (f (xs.getD j d0)):=by
  subst ho
  exact q_load ht hx hc (arr_at hl (of_decide_eq_true hj))
theorem s_store_arr.{u} {α:Type u} {f:α→AVal} {d0 v:α} {xs:List α} {n off o j i:Nat} {t ct:TypeId} {x y:Operand} {l l2:List AVal} (ht:SzIs P t 1) (hx:E.ev x=.ptr i o) (hc:M.at_ i=.cells ct l) (hr:(E.ev y).cells=some [f v])
    (hl:(l.drop off).take n=arrL f d0 xs n 0) (hl2:l.take off++(arrL f d0 (setD d0 xs n j v) n 0++l.drop (off+n))=l2) (hj:decide (j<n)=true) (ho:o=off+j):DoesS P (.store t x y) ty E M [i] (M.set i (.cells ct l2)):=by
  subst ho
  have hj':=of_decide_eq_true hj
  have hlen:off+n≤l.length:=by
    have:=congrArg List.length hl
    rw [arrL_length,List.length_take,List.length_drop] at this
    omega
  have e2:l2=setAt l (off+j) [f v]:=by
    rw [← hl2,arrL_set,← hl]
    simp only [setAt]
    apply List.ext_getElem?
    intro q
    rw [List.getElem?_set]
    rcases Nat.lt_or_ge q off with h1 | h1
    · rw [List.getElem?_append_left (by simp;omega),List.getElem?_take_of_lt h1,if_neg (by omega)]
    · rw [List.getElem?_append_right (by simp;omega),List.length_take,Nat.min_eq_left (by omega)]
      rcases Nat.lt_or_ge q (off+n) with h2 | h2
      · rw [List.getElem?_append_left (by rw [List.length_set,List.length_take,List.length_drop];omega),List.getElem?_set]
        by_cases hq:j=q - off
        · rw [if_pos hq,if_pos (by rw [List.length_take,List.length_drop];omega),if_pos (by omega),if_pos (by omega)]
        · rw [if_neg hq,if_neg (by omega),List.getElem?_take_of_lt (by omega),List.getElem?_drop]
          congr 1;omega
      · rw [List.getElem?_append_right (by rw [List.length_set,List.length_take,List.length_drop];omega),if_neg (by omega),List.getElem?_drop,List.length_set,List.length_take,List.length_drop]
        congr 1;omega
  rw [e2]
  exact s_store ht hx hc hr rfl (by rw [Nat.ble_eq];omega)
def Rd.array {α:Type} (n:Nat) (A:Rd α) (d0:α):Rd (List α) where
  sz:=n*A.sz
  ok m l cs:=cs.length=n*A.sz∧∀ j,j<n→A.ok m (l.getD j d0) ((cs.drop (j*A.sz)).take A.sz)
  mono hm h:=⟨h.1,fun j hj=>A.mono hm (h.2 j hj)⟩
  len h:=h.1
  one:=by
    rintro m d cs ⟨h1,h2⟩ v hv
    obtain ⟨k,hk,rfl⟩:=List.mem_iff_getElem.1 hv
    have hz:0<A.sz:=by
      rcases Nat.eq_zero_or_pos A.sz with h | h
      · rw [h1,h] at hk;simp at hk
      · exact h
    have hkn:k / A.sz<n:=Nat.div_lt_of_lt_mul (by rw [Nat.mul_comm,← h1];exact hk)
    refine A.one (h2 (k / A.sz) hkn) _ ?_
    have hkm:=Nat.mod_lt k hz
    have e1:k / A.sz*A.sz+k%A.sz=k:=by rw [Nat.mul_comm];exact Nat.div_add_mod k A.sz
    refine List.mem_iff_getElem?.2 ⟨k%A.sz,?_⟩
    rw [List.getElem?_take_of_lt hkm,List.getElem?_drop,e1,List.getElem?_eq_getElem hk]
structure Conc (P:Program) (t:TypeId):Prop where
  h:∃ d,P.underlying t=some d∧(match d with | .interface _=>False | _=>True)
theorem q_mki {t:TypeId} {x:Operand} (h:Conc P t):Quiet P (.makeInterface t x) ty E M [] (.ifc t (E.ev x)) :=
  fun _ _ a w e hh he=>by
    obtain ⟨d,h1,h2⟩:=h.h
    refine ⟨.iface t (a.eval x),by simp only [Val];exact ⟨_,rfl,he.ev x⟩,fun w1 _=>?_⟩
    cases d <;> first | exact h2.elim | simp [exec1,execOp,Instr.makeInterface,run_underlying h1]
theorem q_cap_nil {t el:TypeId} {x:Operand} (h:P.underlying t=some (.slice el)) (hx:E.ev x=.lit (.slice none 0 0)):Quiet P (.call { callee:=.builtin .cap,args:=#[x],argTypes:=#[t] }) ty E M [] (.lit (.int .i64 0)) :=
  fun _ _ a w e hh he=>⟨.int .i64 0,by simp [Val],fun w1 _=>by
    simp [exec1,execOp,resolve,invoke,builtin,Builtin.cap_,ev_lit he hx,run_underlying h,goInt]⟩
theorem d_cut {α:Type} {R:Rd α} {l:List α} {t el ct:TypeId} {n i N:Nat} {x y:Operand} {k:IntKind} {j:Int} (h:SlIs P t el n) (hx:E.ev x=.whole i) (hc:M.at_ i=.row ct R l) (hy:E.ev y=.lit (.int k j)) (hb:decide (0≤j∧j≤l.length)=true) (hN:M.n=N) :
    Does P (.slice t x none (some y) none) ty E M [i] (.whole N) ((M.set i .gone).push (.row ct R (l.take j.toNat))) :=
  fun cx nt a w e hh he=>by
    obtain ⟨b0,b1⟩:=of_decide_eq_true hb
    have hv:=he.ev x;rw [hx] at hv;simp only [Val] at hv
    have hk:=hh.ch i hv.1
    rw [hc] at hk
    obtain ⟨g1,g2,g3,g4⟩:=hk
    have hv3:=hv.2.2
    have hll:(l.take j.toNat).length=j.toNat:=by simp;omega
    have hdrop:=hh.drop i
    cases hvir:e.vir i with
    | true =>
      rw [hvir] at hv3 g4
      simp only [if_true] at hv3 g4
      subst g4
      have hj0:j=0:=by simp at b1;omega
      subst hj0
      refine ⟨.slice none 0 0,w,e.bump 0 0 0 true,?_,hdrop.bindVir,⟨e.bump_le 0 0 0 true,fun b=>e.bump_mem 0 0 0 true b⟩,?_,fun _ _ _=>rfl,Nat.le_refl _⟩
      · have h0:e.lens i=0:=hv3.2
        rw [h0] at hv3
        have hcap:∃ c,a.eval x=.slice none 0 c:=⟨0,by rw [hv3.1]⟩
        have:=run_slice_sl h none 0 0 none (some (.int k 0)) 0 0 w rfl ⟨k,rfl⟩ (Nat.le_refl _) (Nat.le_refl _)
        simp [exec1,execOp,hv3.1,ev_lit he hy,this]
      · simp only [Val,Nv.bump,← hN,← hh.n,if_true]
        exact ⟨Nat.lt_succ_self _,Nat.le_refl _,trivial,trivial⟩
    | false =>
      rw [hvir] at hv3 g4
      simp only [Bool.false_eq_true,if_false] at hv3 g4
      obtain ⟨c,z,hbk,hz,hcs,hrow⟩:=g4
      have hlive:(M.at_ i).live e i:=by rw [hc];exact hvir
      have hli:=hh.live i hv.1 hlive
      refine ⟨.slice (some ⟨e.own i,0,none⟩) j.toNat (e.caps i),w,e.bump (e.own i) (e.caps i) j.toNat,?_,?_,⟨e.bump_le _ _ _ false,fun b=>e.bump_mem _ _ _ false b⟩,?_,fun _ _ _=>rfl,Nat.le_refl _⟩
      · have:=run_slice_sl h (some ⟨e.own i,0,none⟩) (e.lens i) (e.caps i) none (some (.int k j)) 0 j.toNat w rfl ⟨k,by rw [Int.toNat_of_nonneg b0]⟩ (Nat.zero_le _) (by omega)
        simp [exec1,execOp,hv3,ev_lit he hy,this,add_at]
      · refine hdrop.bind rfl rfl rfl (Nat.le_refl _) hli.1 (fun _ _ _=>rfl) (fun q hq hl hqi=>?_) (fun q hq hm hbq=>?_) hli.2.1 hli.2.2.1 hli.2.2.2 ?_
        · rw [Mem.set_at] at hl
          split at hl
          · exact hl.elim
          · rename_i hqi';exact hqi' (hh.dist q i hq hv.1 hl hlive hqi)
        · rw [Mem.set_at] at hm
          split at hm
          · cases hm
          · exact hh.bag.own q hq hm _ hbq i hv.1 hlive rfl
        · refine ⟨by simp only [Nv.bump,if_true];exact hll.symm,by simp only [Nv.bump,if_true,hll];omega,by simpa [Nv.bump] using g3,?_⟩
          simp only [Nv.bump,if_true,Bool.false_eq_true,if_false]
          exact ⟨c,z,hbk,hz,hcs,rows_take _ hrow⟩
      · simp only [Val,Nv.bump,← hN,← hh.n,if_true,Bool.false_eq_true,if_false]
        exact ⟨Nat.lt_succ_self _,by omega,trivial⟩
end
section
universe u v
variable {α:Type u} {β:Type v} {x y:Option α} {p q:α→Prop} {r:α}
end
theorem bt {α:Type} {x y:α}:(bif true then x else y)=x:=rfl
theorem bf {α:Type} {x y:α}:(bif false then x else y)=y:=rfl
section
variable {P:Program} {cx:Cx} {fr:Fr} {ops:Array Oper} {os:List Oper} {E:Env} {M M':Mem} {Q:Ex→Env→Mem→Prop} {op:Op} {ty:TypeId} {pos:String} {after:Array Edge} {dst:Nat} {v:AVal} {tc:List Nat}
variable {st st' X X':List Nat} {fuel:Nat} {listed:Array Bool} {i:Nat}
def WPD1 (P:Program) (cx:Cx) (fr:Fr) (ops:Array Oper) (st X:List Nat) (fuel:Nat) (listed:Array Bool) (i:Nat) (E:Env) (M:Mem) (Q:Ex→Env→Mem→Prop):Prop :=
  ∀ a w e,Hold cx e M w→Emb fr.nt e M E a→wpOpIn (fence P fr.r) 0 P ops (Sat cx fr Q) i
    (fun a' w'=>(X.contains i=true∧Agree e [] w w'∧wpAnyG P fr.r .any ops (Sat cx fr Q) (Agree e [] w) fuel (listed.setIfInBounds i true) a' w') ∨
      (X.contains i=false∧Agree e st w w'∧wpAnyF P fr.r .any ops (Sat cx fr Q) (Agree e [] w) (Agree e st w) X fuel (listed.setIfInBounds i true) a' w')) a w
def readyAre (ops:Array Oper) (listed:Array Bool) (l:List Nat):Bool:=Region.ready .any ops listed==l&&!l.isEmpty
theorem WPD.ofL (l:List Nat) (hb:readyAre ops listed l=true) (h:∀ i∈l,WPD1 P cx fr ops st X fuel listed i E M Q):WPD P cx fr ops st X (fuel+1) listed E M Q:=by
  intro a w e hh he
  simp only [readyAre,Bool.and_eq_true,beq_iff_eq,Bool.not_eq_true'] at hb
  refine ⟨fun h0=>?_,fun j hj=>?_⟩
  · rw [hb.1] at h0;subst h0;simp at hb
  · rw [hb.1] at hj
    exact h j hj a w e hh he
theorem WPD.of2 (i j:Nat) (hb:readyAre ops listed [i,j]=true) (h1:WPD1 P cx fr ops st X fuel listed i E M Q) (h2:WPD1 P cx fr ops st X fuel listed j E M Q):WPD P cx fr ops st X (fuel+1) listed E M Q :=
  WPD.ofL [i,j] hb fun k hk=>by
    simp only [List.mem_cons,List.not_mem_nil,or_false] at hk
    rcases hk with rfl | rfl
    · exact h1
    · exact h2
theorem WPD.of3 (i j k:Nat) (hb:readyAre ops listed [i,j,k]=true) (h1:WPD1 P cx fr ops st X fuel listed i E M Q) (h2:WPD1 P cx fr ops st X fuel listed j E M Q) (h3:WPD1 P cx fr ops st X fuel listed k E M Q):WPD P cx fr ops st X (fuel+1) listed E M Q :=
  WPD.ofL [i,j,k] hb fun m hk=>by
    simp only [List.mem_cons,List.not_mem_nil,or_false] at hk
    rcases hk with rfl | rfl | rfl
    · exact h1
    · exact h2
    · exact h3
theorem WPD1.eff_core (i:Nat) (st' X':List Nat) {o:Oper} {E':Env} (ho:ops[i]? = some o)
    (hg:∀ a e,Emb fr.nt e M E a→Region.wanted o (yielded ops a.tmps)=true)
    (hs:(X.contains i||(X'.all X.contains&&st.all fun j=>st'.contains j&&Nat.blt j M.n&&(M.at_ j).isOwn&&!(tc.contains j)))=true)
    (hstep:∀ a w e,Hold cx e M w→Emb fr.nt e M E a→∀ (next:Act→World→Prop) (Q:Exit→Act→World→Prop),
      (∀ a' w' e',Hold cx e' M' w'→e.le e'→Emb fr.nt e' M' E' a'→(∀ b,b<w.heap.size→(∀ i∈tc,i<e.n→(M.at_ i).live e i→e.own i≠b)→w'.heap[b]? = w.heap[b]?)→next a' w') →
      o.wpIn (fence P fr.r) 0 P a w next Q)
    (k:WPD P cx fr ops st' X' fuel (listed.setIfInBounds i true) E' M' Q):WPD1 P cx fr ops st X fuel listed i E M Q:=by
  intro a w e hh he
  unfold wpOpIn
  simp only [ho]
  rw [if_pos (hg _ _ he)]
  refine hstep a w e hh he _ _ fun a' w' e' hh' hle he' hfr=>?_
  have hk:=k a' w' e' hh' he'
  have hag:∀ {st'':List Nat} w1,Agree e' st'' w' w1→Agree e [] w w1:=fun w1 hw=>⟨fun b o hb=>hw.ro b o (hle.m b o hb),fun b o hb=>hw.bro b o (hle.bm b o hb),fun _ hi=>by cases hi⟩
  cases hx:X.contains i with
  | true=>exact .inl ⟨rfl,hag _ (Agree.of_hold hh' st'),wpAnyG_of_F (fun w1 h=>hag w1 h) (fun w1 h=>hag w1 h) _ _ _ _ hk⟩
  | false =>
    rw [hx,Bool.false_or,Bool.and_eq_true] at hs
    have hst:∀ x∈st,e.vir x=false→x<e.n∧w'.heap[e.own x]? = w.heap[e.own x]? ∧ x∈st':=by
      intro x hx hvx
      have h:=List.all_eq_true.1 hs.2 x hx
      simp only [Bool.and_eq_true,Nat.blt_eq,Bool.not_eq_true'] at h
      obtain ⟨⟨⟨h1,h2⟩,h3⟩,h4⟩:=h
      have hxn:x<e.n:=by rw [hh.n];exact h2
      have hlx:(M.at_ x).live e x:=by
        cases hc:M.at_ x with
        | cells t l=>trivial
        | row t R l=>exact hvx
        | rowt t R l a=>trivial
        | gone=>rw [hc] at h3;simp [Chunk.isOwn] at h3
        | obj o=>rw [hc] at h3;simp [Chunk.isOwn] at h3
        | bag=>rw [hc] at h3;simp [Chunk.isOwn] at h3
      refine ⟨hxn,hfr _ (hh.live x hxn hlx).1 fun y hy hyn hly hxy=>?_,by simpa using h1⟩
      have:=hh.dist y x hyn hxn hly hlx hxy
      subst this
      rw [List.contains_eq_mem] at h4
      simp [hy] at h4
    have hmono:∀ w1,Agree e' st' w' w1→Agree e st w w1:=by
      intro w1 hw
      refine ⟨fun b o hb=>hw.ro b o (hle.m b o hb),fun b o hb=>hw.bro b o (hle.bm b o hb),fun x hx hvx=>?_⟩
      obtain ⟨h1,h2,h3⟩:=hst x hx hvx
      have:=hw.own x h3 ((hle.vir x h1).trans hvx)
      rw [hle.own x h1] at this
      exact this.trans h2
    refine .inr ⟨rfl,hmono _ (Agree.of_hold hh' st'),wpAnyF_mono (fun w1 h=>hag w1 h) (fun w1 h=>hag w1 h) hmono (fun y hy=>?_) _ _ _ _ hk⟩
    exact List.all_eq_true.1 hs.1 y (by simpa using hy)
theorem WPD1.eff (i:Nat) (st' X':List Nat) (ho:ops[i]? = some { dst:=some dst,op:=op,type:=ty,pos:=pos,after:=after,guard:=Option.none })
    (h:Runs P op ty E M tc v M') (hs:(X.contains i||(X'.all X.contains&&st.all fun j=>st'.contains j&&Nat.blt j M.n&&(M.at_ j).isOwn&&!(tc.contains j)))=true) (ht:Nat.blt dst fr.nt=true)
    (k:WPD P cx fr ops st' X' fuel (listed.setIfInBounds i true) (E.upd dst v) M' Q):WPD1 P cx fr ops st X fuel listed i E M Q :=
  WPD1.eff_core (tc:=tc) (M':=M') i st' X' ho (fun _ _ _=>rfl) hs (fun a w e hh he next Q' hk=>h cx fr a w e hh he _ rfl rfl _ _ fun x w' e' hh' hle hv hfr _ =>
    hk _ w' e' hh' hle.1 ((he.mono hle.1 hle.2).put ht hv) hfr) k
end
section
variable {P:Program} {E:Env} {M:Mem} {ty:TypeId}
theorem alloc_old4 (w:World) (o:Obj) (i:Nat) (h:i<w.heap.size):(w.alloc o).heap[i]? = w.heap[i]? := by
  simp [World.alloc,Array.getElem?_push,-World.alloc_eq]
  omega
theorem q_concat {t yt:TypeId} {x y:Operand} {p s:ByteArray} (hx:E.ev x=.lit (.string p)) (hy:E.ev y=.lit (.string s)) (hlim:decide (p.size+s.size≤9223372036854775807)=true) :
    Quiet P (.binOp .add t x y yt) ty E M [] (.lit (.string (p++s))) :=
  q_bin hx hy g_str fun w=>by
    have h:=of_decide_eq_true hlim
    have hmax:IntKind.i64.max=9223372036854775807:=rfl
    have h':¬ (9223372036854775807:Int)<(p.size:Int)+(s.size:Int):=by omega
    simp [binOp,Op.stringOp,hmax,h']
theorem d_range {t:TypeId} {x:Operand} {s:ByteArray} {N:Nat} (ht:P.underlying t=some .string) (hx:E.ev x=.lit (.string s)) (hN:M.n=N) :
    Does P (.range t x) ty E M [] (.ptr N 0) (M.push (.obj (.stringIter s 0))) :=
  fun cx nt a w e hh hem=>by
    refine ⟨.pointer (some ⟨w.heap.size,0,none⟩),w.alloc (.stringIter s 0),e.bump w.heap.size 0 0,?_,?_,⟨e.bump_le _ _ _ false,fun b=>e.bump_mem _ _ _ false b⟩,?_,fun b hb _=>alloc_old4 w _ b hb,by simp⟩
    · simp [exec1,execOp,ev_lit hem hx,Instr.range,run_underlying ht]
    · refine hh.bind rfl rfl rfl (by simp) (by simp) (fun k hk hlt=>alloc_old4 w _ k hlt) (fun i hi hl=>Nat.ne_of_lt (hh.live i hi hl).1) hh.bag_new (hnone hh.ro) (hnone hh.bro) (.inr hh.size) ?_
      exact ⟨by simp [Nv.bump],by simp only [Nv.bump,if_true];exact heap_alloc_new w _⟩
    · simp only [Val,Nv.bump,← hN,← hh.n,if_true]
      exact ⟨Nat.lt_succ_self _,trivial,trivial⟩
theorem q_nextEnd {x:Operand} {i pos:Nat} {s:ByteArray} (hx:E.ev x=.ptr i 0) (hc:M.at_ i=.obj (.stringIter s pos)) (h:decide (pos<s.size)=false) :
    Quiet P (.next x true) ty E M [i] (.tup [.lit (.bool false)]) :=
  fun cx nt a w e hh hem=>⟨.tuple #[.bool false],by simp [Val,Vals],fun w1 hw=>by
    have hp:=hem.ev x;rw [hx] at hp;simp only [Val] at hp
    have hk:=hh.ch i hp.1
    rw [hc] at hk
    have h1:=(hw.own i (by simp) hk.1).trans hk.2
    have hn:¬ pos<s.size:=of_decide_eq_false h
    have hr:(Instr.next (a.eval x) true ty).run P w1=.ok (.tuple #[.bool false]) w1:=by
      simp [hp.2.2,Instr.next,getObj,Sem.run,h1,hn]
    simp [exec1,execOp,hr]⟩
theorem d_next {x:Operand} {i pos:Nat} {s:ByteArray} (hx:E.ev x=.ptr i 0) (hc:M.at_ i=.obj (.stringIter s pos)) (h:decide (pos<s.size)=true) :
    Does P (.next x true) ty E M [i] (.tup [.lit (.bool true),.lit (.int .i64 (pos:Int)),.lit (.int .i32 (((Utf8.decode s pos).1:Nat):Int))]) (M.set i (.obj (.stringIter s (pos+(Utf8.decode s pos).2)))) :=
  fun cx nt a w e hh hem=>by
    have hp:=hem.ev x;rw [hx] at hp;simp only [Val] at hp
    have hk:=hh.ch i hp.1
    rw [hc] at hk
    have hn:pos<s.size:=of_decide_eq_true h
    have hlive:(M.at_ i).live e i:=by rw [hc];trivial
    have hlt:=(hh.live i hp.1 hlive).1
    have hset:∀ o:Obj,({ w with heap:=w.heap.setIfInBounds (e.own i) o }:World).heap[e.own i]? = some o:=fun o=>by
      simp [Array.getElem?_setIfInBounds,hlt]
    refine ⟨.tuple #[.bool true,.int .i64 pos,.int .i32 ((Utf8.decode s pos).1:Nat)],{ w with heap:=w.heap.setIfInBounds (e.own i) (.stringIter s (pos+(Utf8.decode s pos).2)) },e,?_,?_,⟨Nv.le.refl e,fun _=>Ro.le.refl _⟩,by simp [Val,Vals],fun b _ hne=>?_,?_⟩
    · have hr:(Instr.next (a.eval x) true ty).run P w=.ok (.tuple #[.bool true,.int .i64 pos,.int .i32 ((Utf8.decode s pos).1:Nat)]) { w with heap:=w.heap.setIfInBounds (e.own i) (.stringIter s (pos+(Utf8.decode s pos).2)) }:=by
        simp only [hp.2.2,Instr.next,getObj,setObj,Sem.run_bind,Sem.run,hk.2,Result.andThen,hn,if_true]
        simp [goInt]
      simp [exec1,execOp,hr]
    · refine hh.change hp.1 hlive rfl rfl rfl (by simp) (fun k hk=>?_) ⟨hk.1,hset _⟩
      simp only [Array.getElem?_setIfInBounds]
      rw [if_neg (Ne.symm hk)]
    · have hb:e.own i≠b:=hne i (by simp) hp.1 hlive
      simp only [Array.getElem?_setIfInBounds]
      rw [if_neg hb]
    · simp
end
structure ExtIs (P:Program) (f:FuncId) (g:Array Value→Sem Value):Prop where
  h : ∃ fn, P.funcs[f]? = some fn ∧ fn.body.isNone = true ∧ (fn.name == "runtime.NumGoroutine") = false ∧ (Extern.findNext fn).isNone = true ∧ Extern.find fn = some g
section
variable {P:Program} {E:Env} {M:Mem} {ty:TypeId} {fo:Operand} {f:FuncId} {g:Array Value→Sem Value} {args:Array Operand} {tys:Array TypeId}
theorem run_ext {ρ:Operand→Value} {w w':World} {r:Value} (hfn:ExtIs P f g) (hf:ρ fo=.func (.func f) #[] #[]) (hr:(g (args.map ρ)).run P w=.ok r w') :
    (exec1 ρ (.call { callee:=.value fo,args:=args,argTypes:=tys }) ty).run P w=.ok (.value r) w':=by
  obtain ⟨fn,h1,h2,h3,h4,h5⟩:=hfn.h
  have h3' : ¬ fn.name = "runtime.NumGoroutine" := by simpa using h3
  have h4':Extern.findNext fn=none:=by simpa using h4
  have h2':fn.body=none:=by simpa using h2
  simp [exec1,execOp,resolve,Deferred.ofValue,hf,invoke,callFunc,h1,h2',h3',h4',h5,hr]
theorem fn_eval {nt:Nat} {e:Nv} {a:Act} (he:Emb nt e M E a) (hcal:E.ev fo=.fn f []):a.eval fo=.func (.func f) #[] #[]:=by
  have hv:=he.ev fo
  rw [hcal] at hv
  simp only [Val,Vals] at hv
  obtain ⟨us,h1,rfl⟩:=hv
  exact h1
theorem q_noEscape {x:Operand} {v:AVal} (hfn:ExtIs P f Extern.AbiNoEscape.same) (hcal:E.ev fo=.fn f []) (hx:E.ev x=v) :
    Quiet P (.call { callee:=.value fo,args:=#[x],argTypes:=tys }) ty E M [] v :=
  fun cx nt a w e hh he=>⟨a.eval x,hx ▸ he.ev x,fun w1 hw=>run_ext hfn (fn_eval he hcal) (by simp only [List.map_toArray,List.map_cons,List.map_nil];rfl)⟩
def ixByte (s:ByteArray) (c:Int):Int:=match (List.range s.size).find? fun i=>s[i]! == c.toNat.toUInt8 with
  | some i=>(i:Int)
  | none => -1
theorem q_indexByteString {x y:Operand} {s:ByteArray} {c:Int} (hfn:ExtIs P f Extern.BytealgIndexByte.indexByte) (hcal:E.ev fo=.fn f []) (hx:E.ev x=.lit (.string s)) (hy:E.ev y=.lit (.int .u8 c)) :
    Quiet P (.call { callee:=.value fo,args:=#[x,y],argTypes:=tys }) ty E M [] (.lit (.int .i64 (ixByte s c))) :=
  fun cx nt a w e hh he=>⟨.int .i64 (ixByte s c),by simp [Val],fun w1 hw=>run_ext hfn (fn_eval he hcal) (by
    simp only [List.map_toArray,List.map_cons,List.map_nil,ev_lit he hx,ev_lit he hy]
    have hdef:Extern.BytealgIndexByte.indexByte #[.string s,.int .u8 c] =
      (do
        let b ← Extern.Bytes.bytesOf (.string s)
        let c ← Extern.Bytes.asByte (.int .u8 c)
        match (List.range b.size).find? fun i=>b[i]! == c with
        | some i=>pure (goInt i)
        | none=>pure (goInt (-1))):=rfl
    rw [hdef]
    simp only [Extern.Bytes.bytesOf,Extern.Bytes.asByte,ixByte]
    cases h:(List.range s.size).find? fun i=>s[i]! == c.toNat.toUInt8 with
    | some i=>simp [h,goInt]
    | none=>simp [h,goInt])⟩
def Rd.junk:Rd Unit where
  sz:=1
  ok _ _ cs:=∃ v:Int,cs=[.int .u8 v]
  mono _ h:=h
  len:=by rintro m d cs ⟨v,rfl⟩;rfl
  one:=by rintro m d cs ⟨v,rfl⟩ u hu;simp at hu;subst hu;rfl
theorem digits_all:∀ (n t:Nat) (acc:Array Value),(∀ v∈acc.toList,∃ z:Int,v=.int .u8 z)→∀ v∈(Extern.BytealgMakeNoZero.digits n t acc).toList,∃ z:Int,v=.int .u8 z
  | 0,_,_,h=>h
  | n+1,t,acc,h=>by
    rw [Extern.BytealgMakeNoZero.digits]
    refine digits_all n _ _ fun v hv=>?_
    simp at hv
    rcases hv with hv | rfl
    · exact h v (by simpa using hv)
    · exact ⟨_,rfl⟩
theorem rows_junk {m:Ro}:∀ (n:Nat) {cs:List Value},n≤cs.length→(∀ v∈cs,∃ z:Int,v=.int .u8 z)→rows Rd.junk m (List.replicate n ()) cs
  | 0,_,_,_=>trivial
  | n+1,[],h,_=>by simp at h
  | n+1,c::cs,h,hc=>by
    rw [List.replicate_succ]
    obtain ⟨z,rfl⟩:=hc c (by simp)
    have:=rows_junk (m:=m) n (cs:=cs) (by simpa using h) fun v hv=>hc v (by simp [hv])
    exact ⟨⟨z,rfl⟩,this⟩
theorem d_makeNoZero {ps:Array TypeId} {t el:TypeId} {x:Operand} {n:Int} {N:Nat} (hfn:ExtIs P f (Extern.BytealgMakeNoZero.makeNoZero ps #[t])) (ht:P.underlying t=some (.slice el)) (hcal:E.ev fo=.fn f []) (hx:E.ev x=.lit (.int .i64 n))
    (hlim:decide (0≤n∧n≤140737488355328)=true) (hN:M.n=N) :
    Does P (.call { callee:=.value fo,args:=#[x],argTypes:=tys }) ty E M [] (.whole N) (M.push (.row el Rd.junk (List.replicate n.toNat ()))) :=
  fun cx nt a w e hh he=>by
    obtain ⟨l0,l1⟩:=of_decide_eq_true hlim
    obtain ⟨k,rfl⟩:∃ k:Nat,n=(k:Int):=⟨n.toNat,by omega⟩
    have hdef:Extern.BytealgMakeNoZero.makeNoZero ps #[t] #[.int .i64 (k:Int)] =
      (do
        let .slice elem ← underlying t | stuck "bytealg.MakeNoZero: slice type expected"
        if (k : Int) < 0 || (k : Int) > 2 ^ 48 then runtimePanic (.error "makeslice: len out of range")
        let cap ← choose (.appendCap (k:Int).toNat 0 elem)
        askRoom cap
        let bytes ← choose (.extern "internal/bytealg.MakeNoZero.bytes" 0)
        let a ← newRow elem (Extern.BytealgMakeNoZero.digits cap bytes #[])
        pure (.slice (some a) (k:Int).toNat cap)):=rfl
    have h1:¬ (k:Int)<0:=by omega
    have h2:¬ (281474976710656:Int)<(k:Int):=by omega
    obtain ⟨cs, hcs⟩ : ∃ cs, cs = Extern.BytealgMakeNoZero.digits (grownCap w k 0 el) ((Question.extern "internal/bytealg.MakeNoZero.bytes" 0).cut (w.tape (w.drawn + 1) (.extern "internal/bytealg.MakeNoZero.bytes" 0))) #[] := ⟨_, rfl⟩
    have hsz:cs.size=grownCap w k 0 el:=by rw [hcs,Lib.size_digits];simp
    have hrun:(Extern.BytealgMakeNoZero.makeNoZero ps #[t] #[.int .i64 (k:Int)]).run P w=.ok (.slice (some ⟨w.heap.size,0,none⟩) k (grownCap w k 0 el)) (w.drew.drew.alloc (.cells cs el)):=by
      rw [hdef,hcs]
      simp [run_underlying ht,h1,h2,Question.forced,newRow,grownCap]
    have hall:∀ v∈cs.toList,∃ z:Int,v=.int .u8 z:=by rw [hcs];exact digits_all _ _ _ (by simp)
    have hge:=grownCap_ge w k 0 el
    have hcm:=grownCap_le_maxLen w k 0 el (by simp only [maxLen];omega)
    refine ⟨.slice (some ⟨w.heap.size,0,none⟩) k (grownCap w k 0 el),w.drew.drew.alloc (.cells cs el),e.bump w.heap.size (grownCap w k 0 el) k,?_,?_,⟨e.bump_le _ _ _ false,fun b=>e.bump_mem _ _ _ false b⟩,?_,fun b hb _=>alloc_old4 w.drew.drew _ b hb,by simp⟩
    · refine run_ext hfn (fn_eval he hcal) ?_
      simp only [List.map_toArray,List.map_cons,List.map_nil,ev_lit he hx]
      exact hrun
    · refine hh.bind rfl rfl rfl (by simp) (by simp) (fun k hk hlt=>alloc_old4 w.drew.drew _ k hlt) (fun i hi hl=>Nat.ne_of_lt (hh.live i hi hl).1) hh.bag_new (hnone hh.ro) (hnone hh.bro) (.inr hh.size) ?_
      refine ⟨by simp [Nv.bump],by simp only [Nv.bump,if_true,List.length_replicate];exact hge,by simpa [Nv.bump] using hcm,?_⟩
      simp only [Nv.bump,if_true,Bool.false_eq_true,if_false]
      have hnew:(w.drew.drew.alloc (.cells cs el)).heap[w.heap.size]? = some (.cells cs el):=by
        exact heap_alloc_new w.drew.drew _
      refine ⟨cs,_,hnew,.inl rfl,by rw [hsz];simp [Rd.junk],?_⟩
      exact rows_junk _ (by simp [hsz];exact hge) hall
    · simp only [Val,Nv.bump,← hN,← hh.n,if_true,Bool.false_eq_true,if_false]
      exact ⟨Nat.lt_succ_self _,hge,trivial⟩
theorem Hold.reset {cx:Cx} {e:Nv} {w:World} (h:Hold cx e M w) {i:Nat} {c:Chunk} (hc:c.ok e w i) (hl:c.live e i→(M.at_ i).live e i) (hm:c.mark=true→(M.at_ i).mark=true):Hold cx e (M.set i c) w:=by
  refine ⟨h.bm,h.n,h.size,h.os,h.tape,h.output,h.frame,h.ro,h.bro,h.m0,h.mnew,?_,?_,?_,h.np,h.pin,?_⟩
  · intro j hj
    rw [Mem.set_at]
    split
    · rename_i hji;subst hji;exact hc
    · exact h.ch j hj
  · intro j hj hlj
    rw [Mem.set_at] at hlj
    split at hlj
    · rename_i hji;subst hji;exact h.live j hj (hl hlj)
    · exact h.live j hj hlj
  · intro j k hj hk hlj hlk hjk
    have lv:∀ j,((M.set i c).at_ j).live e j→(M.at_ j).live e j:=by
      intro j hj
      rw [Mem.set_at] at hj
      split at hj
      · rename_i hji;subst hji;exact hl hj
      · exact hj
    exact h.dist j k hj hk (lv j hlj) (lv k hlk) hjk
  · have mk:∀ j,((M.set i c).at_ j).mark=true→(M.at_ j).mark=true:=by
      intro j hj
      rw [Mem.set_at] at hj
      split at hj
      · rename_i hji;subst hji;exact hm hj
      · exact hj
    have lv:∀ j,((M.set i c).at_ j).live e j→(M.at_ j).live e j:=by
      intro j hj
      rw [Mem.set_at] at hj
      split at hj
      · rename_i hji;subst hji;exact hl hj
      · exact hj
    exact ⟨fun j hj hm=>h.bag.nodup j hj (mk j hm),fun j hj hm x hx=>h.bag.at_ j hj (mk j hm) x hx,fun j hj hm x hx k hk hlk=>h.bag.own j hj (mk j hm) x hx k hk (lv k hlk),fun j k hj hk hmj hmk' hjk x hx=>h.bag.dist j k hj hk (mk j hmj) (mk k hmk') hjk x hx⟩
theorem Hold.extra {cx:Cx} {e:Nv} {w:World} (h:Hold cx e M w) (o:Obj):Hold cx e M (w.alloc o):=by
  have hold:∀ {k:Nat} {x:Obj},w.heap[k]? = some x→(w.alloc o).heap[k]? = some x:=fun {k x} hk=>by
    rw [alloc_old4 w o k (Array.getElem?_eq_some_iff.1 hk).1];exact hk
  refine ⟨h.bm,h.n,Nat.le_trans h.size (by simp),h.os,h.tape,h.output,fun b hb hF=>?_,fun b x hx=>hold (h.ro b x hx),fun b x hx=>hold (h.bro b x hx),h.m0,h.mnew,fun i hi=>?_,fun i hi hl=>?_,h.dist,h.np,h.pin,⟨h.bag.nodup,fun i hi hm b hb=>?_,h.bag.own,h.bag.dist⟩⟩
  · rw [alloc_old4 w o b (Nat.lt_of_lt_of_le hb h.size)];exact h.frame b hb hF
  · exact Chunk.ok_congr (h.ch i hi) fun hl=>alloc_old4 w o _ (h.live i hi hl).1
  · obtain ⟨h1,h2⟩:=h.live i hi hl
    exact ⟨Nat.lt_of_lt_of_le h1 (by simp),h2⟩
  · obtain ⟨h1,h2⟩:=h.bag.at_ i hi hm b hb
    exact ⟨hold h1,h2⟩
theorem d_copyAll {α β:Type} {R0:Rd β} {R:Rd α} {l0:List β} {xs:List α} {t tx el ct:TypeId} {n i:Nat} {s x:Operand} (h:SlIs P t el n) (hn:R.sz=n) (hn0:R0.sz=n) (hs:E.ev s=.whole i) (hc:M.at_ i=.row ct R0 l0) (hx:SrcOf P E M x tx R xs)
    (hlim:decide (l0.length=xs.length)=true) :
    Does P (.call { callee:=.builtin .copy,args:=#[s,x],argTypes:=#[t,tx] }) ty E M [i] (.lit (.int .i64 (xs.length:Int))) (M.set i (.row ct R xs)) :=
  fun cx nt a w e hh he=>by
    subst hn
    have hl0:=of_decide_eq_true hlim
    have hv:=he.ev s;rw [hs] at hv;simp only [Val] at hv
    have hk:=hh.ch i hv.1
    rw [hc] at hk
    obtain ⟨g1,g2,g3,g4⟩:=hk
    obtain ⟨news,hsrc,hnews⟩:=hx cx nt a w e hh he
    have hnl:news.length=xs.length*R.sz:=hsrc.newsLen
    have hv3:=hv.2.2
    have hrun0:∀ (r:Value) (w':World),(Builtin.copy_ #[t,tx] ty #[a.eval s,a.eval x]).run P w=.ok r w'→(exec1 a.eval (.call { callee:=.builtin .copy,args:=#[s,x],argTypes:=#[t,tx] }) ty).run P w=.ok (.value r) w':=by
      intro r w' hr
      simp [exec1,execOp,resolve,invoke,builtin,hr]
    cases hvir:e.vir i with
    | true =>
      rw [hvir] at hv3 g4
      simp only [if_true] at hv3 g4
      subst g4
      have hxs:xs=[]:=by simpa using hl0.symm
      subst hxs
      refine ⟨.int .i64 0,w,e,hrun0 _ _ ?_,?_,⟨Nv.le.refl e,fun _=>Ro.le.refl _⟩,by simp [Val],fun _ _ _=>rfl,Nat.le_refl _⟩
      · have hcl:=hsrc.cells
        simp at hcl
        rw [hv3.1]
        simp [Builtin.copy_,run_underlying h.t,hsrc.len,h.e.run,hcl,goInt]
      · refine hh.reset ⟨g1,g2,g3,by rw [hvir];rfl⟩ (fun hl=>?_) (fun h=>by cases h)
        rw [hc];exact hl
    | false =>
      rw [hvir] at hv3 g4
      simp only [Bool.false_eq_true,if_false] at hv3 g4
      rw [g1] at hv3
      obtain ⟨c,z,hb,hz,hcs,hrow⟩:=g4
      have hfit:0+0+news.length≤c.toList.length:=by
        have h1:c.toList.length=c.size:=Array.length_toList
        rw [h1,hcs,hnl,hn0,← hl0]
        simpa using Nat.mul_le_mul_right R.sz g2
      obtain ⟨w',hst,k1,k2,k3,k4,k5,k6⟩:=run_storeCells_row (P:=P) news 0 0 c.toList w (by simpa using hb) (by simpa [thaw] using hz) hfit hsrc.one
      have hlive:(M.at_ i).live e i:=by rw [hc];exact hvir
      refine ⟨.int .i64 (xs.length:Int),w',e,hrun0 _ _ ?_,?_,⟨Nv.le.refl e,fun _=>Ro.le.refl _⟩,by simp [Val],fun b _ hne=>k6 b (fun hbb=>hne i (by simp) hv.1 hlive hbb.symm),by rw [k2];exact Nat.le_refl _⟩
      · have hcl:=hsrc.cells
        rw [hv3]
        simp [Builtin.copy_,run_underlying h.t,hsrc.len,h.e.run,hl0,hcl,goInt,hst]
      · refine hh.change hv.1 hlive k3 k4 k5 k2 k6 ⟨g1.trans hl0,by rw [← hl0];exact g2,g3,?_⟩
        rw [hvir]
        simp only [Bool.false_eq_true,if_false]
        refine ⟨_,_,k1,by simpa [thaw,setAt_length] using hz,by simp [setAt_length,hcs,hn0],?_⟩
        rw [Nat.add_zero,setAt_list news c.toList 0 (by simpa using hfit)]
        refine rows_cut (cs:=news) hnews ?_
        simp [hnl]
        exact List.take_of_length_le (by omega)
theorem q_toUnsafe {src dst t ct:TypeId} {x:Operand} {i:Nat} {l:List AVal} (hs:P.underlying src=some (.pointer t)) (hd:P.underlying dst=some .unsafePointer) (ht:∃ j,P.info? t=some j∧(j.size==0)=false) (hx:E.ev x=.ptr i 0) (hc:M.at_ i=.cells ct l) (hl:Nat.blt 0 l.length=true) :
    Quiet P (.convert src dst x) ty E M [i] (.ptr i 0) :=
  fun cx nt a w e hh he=>by
    have hp:=he.ev x;rw [hx] at hp
    have hp0:=hp
    simp only [Val] at hp
    have hk:=hh.ch i hp.1
    rw [hc] at hk
    obtain ⟨hvir,vs,hb,hvs,ho⟩:=hk
    obtain ⟨j,hj1,hj2⟩:=ht
    refine ⟨a.eval x,hp0,fun w1 hw=>?_⟩
    have hb1:=(hw.own i (by simp) hvir).trans hb
    have hsh:w1.shape? (⟨e.own i,0,none⟩:Addr).block=some (ct,vs.length):=by simp [World.shape?,hb1]
    have hlen:0<vs.length:=by rw [hvs.length];simpa using hl
    have:=Lib.run_to_unsafe (P:=P) w1 ⟨e.own i,0,none⟩ hs hd hj1 (by simpa using hj2) hsh hlen
    rw [hp.2.2]
    simp [exec1,execOp,hp.2.2,this]
theorem q_fromUnsafe {src dst u ct:TypeId} {x:Operand} {i:Nat} {l:List AVal} (hs:P.underlying src=some .unsafePointer) (hd:P.underlying dst=some (.pointer u)) (hu:∃ j,P.info? u=some j) (hx:E.ev x=.ptr i 0) (hc:M.at_ i=.cells ct l) (hlies:liesAt P P.depth ct (l.length / P.cellsOf ct) 0 u 1=true) :
    Quiet P (.convert src dst x) ty E M [i] (.ptr i 0) :=
  fun cx nt a w e hh he=>by
    have hp:=he.ev x;rw [hx] at hp
    have hp0:=hp
    simp only [Val] at hp
    have hk:=hh.ch i hp.1
    rw [hc] at hk
    obtain ⟨hvir,vs,hb,hvs,ho⟩:=hk
    obtain ⟨j,hj1⟩:=hu
    refine ⟨a.eval x,hp0,fun w1 hw=>?_⟩
    have hb1:=(hw.own i (by simp) hvir).trans hb
    have hsh:w1.shape? (⟨e.own i,0,none⟩:Addr).block=some (ct,vs.length):=by simp [World.shape?,hb1]
    have:=Lib.run_from_unsafe (P:=P) w1 ⟨e.own i,0,none⟩ hs hd hj1 hsh (by rw [hvs.length];exact hlies)
    rw [hp.2.2]
    simp [exec1,execOp,hp.2.2,this]
theorem q_neqpSelf {t te yt:TypeId} {x y:Operand} {i o:Nat} (ht:P.underlying t=some (.pointer te)) (hte:∃ j,P.info? te=some j) (hx:E.ev x=.ptr i o) (hy:E.ev y=.ptr i o):Quiet P (.binOp .neq t x y yt) ty E M [] (.lit (.bool false)) :=
  fun cx nt a w e hh he=>by
    have hp:=he.ev x;rw [hx] at hp;simp only [Val] at hp
    have hq:=he.ev y;rw [hy] at hq;simp only [Val] at hq
    obtain ⟨j,hj⟩:=hte
    refine ⟨.bool false,by simp [Val],fun w1 hw=>?_⟩
    have:=Lib.run_neq_ptr_same (P:=P) w1 (⟨e.own i,o,none⟩:Addr) ht hj
    simp only [exec1,execOp,hp.2.2,hq.2.2,g_ptr,Sem.run_bind,Sem.run_pure,Result.andThen,this]
def Rd.anyPtr:Rd Unit where
  sz:=1
  ok _ _ cs:=∃ p,cs=[.pointer p]
  mono _ h:=h
  len:=by rintro m d cs ⟨v,rfl⟩;rfl
  one:=by rintro m d cs ⟨v,rfl⟩ u hu;simp at hu;subst hu;rfl
theorem q_sliceData {α:Type} {R:Rd α} {t ct:TypeId} {x:Operand} {i:Nat} {l:List α} (hx:E.ev x=.whole i) (hc:M.at_ i=.row ct R l) (h:decide (l.length=0)=false) :
    Quiet P (.call { callee:=.builtin .unsafeSliceData,args:=#[x],argTypes:=#[t] }) ty E M [] (.ptr i 0) :=
  fun cx nt a w e hh he=>by
    have hl:l.length≠0:=of_decide_eq_false h
    have hv:=he.ev x;rw [hx] at hv;simp only [Val] at hv
    have hk:=hh.ch i hv.1
    rw [hc] at hk
    obtain ⟨g1,g2,g3,g4⟩:=hk
    have hv3:=hv.2.2
    have hvir:e.vir i=false:=by
      cases hvir:e.vir i with
      | false=>rfl
      | true=>rw [hvir] at g4;simp only [if_true] at g4;subst g4;exact absurd rfl hl
    rw [hvir] at hv3
    simp only [Bool.false_eq_true,if_false] at hv3
    refine ⟨.pointer (some ⟨e.own i,0,none⟩),by simp only [Val];exact ⟨hv.1,hvir,trivial⟩,fun w1 hw=>?_⟩
    have:=Lib.run_unsafeSliceData_row (P:=P) w1 #[t] ty ⟨e.own i,0,none⟩ (e.lens i) (e.caps i) (by omega)
    simp [exec1,execOp,resolve,invoke,builtin,hv3,this]
theorem d_sliceData0 {α:Type} {R:Rd α} {t ct te:TypeId} {x:Operand} {i:Nat} {l:List α} (ht:P.underlying ty=some (.pointer te)) (hx:E.ev x=.whole i) (hc:M.at_ i=.row ct R l) (h:decide (l.length=0)=true) :
    Does P (.call { callee:=.builtin .unsafeSliceData,args:=#[x],argTypes:=#[t] }) ty E M [] (.ro Rd.anyPtr false ()) M :=
  fun cx nt a w e hh he=>by
    have hl:l.length=0:=of_decide_eq_true h
    have hv:=he.ev x;rw [hx] at hv;simp only [Val] at hv
    have hk:=hh.ch i hv.1
    rw [hc] at hk
    obtain ⟨g1,g2,g3,g4⟩:=hk
    have hv3:=hv.2.2
    have hrun0:∀ (r:Value) (w':World),(Builtin.unsafeSliceData_ #[t] ty #[a.eval x]).run P w=.ok r w'→(exec1 a.eval (.call { callee:=.builtin .unsafeSliceData,args:=#[x],argTypes:=#[t] }) ty).run P w=.ok (.value r) w':=by
      intro r w' hr
      simp [exec1,execOp,resolve,invoke,builtin,hr]
    cases hvir:e.vir i with
    | true =>
      rw [hvir] at hv3
      simp only [if_true] at hv3
      refine ⟨.pointer none,w,e,hrun0 _ _ ?_,hh,⟨Nv.le.refl e,fun _=>Ro.le.refl _⟩,by simp only [Val,Rd.anyPtr];exact ⟨none,rfl⟩,fun _ _ _=>rfl,Nat.le_refl _⟩
      rw [hv3.1];exact Lib.run_unsafeSliceData_nil w _ _ _ _
    | false =>
      rw [hvir] at hv3 g4
      simp only [Bool.false_eq_true,if_false] at hv3 g4
      obtain ⟨c,z,hb,hz,hcs,hrow⟩:=g4
      by_cases hcap:e.caps i=0
      · refine ⟨.pointer (some ⟨w.heap.size,0,none⟩),w.alloc (.view ⟨e.own i,0,none⟩ te),e,hrun0 _ _ ?_,hh.extra _,⟨Nv.le.refl e,fun _=>Ro.le.refl _⟩,by simp only [Val,Rd.anyPtr];exact ⟨_,rfl⟩,fun b hb' _=>alloc_old4 w _ b hb',by simp⟩
        rw [hv3,hcap]
        exact Lib.run_unsafeSliceData_zero w _ _ te ht _ _ (ct,c.size) (by simp [World.shape?,hb])
      · refine ⟨.pointer (some ⟨e.own i,0,none⟩),w,e,hrun0 _ _ ?_,hh,⟨Nv.le.refl e,fun _=>Ro.le.refl _⟩,by simp only [Val,Rd.anyPtr];exact ⟨_,rfl⟩,fun _ _ _=>rfl,Nat.le_refl _⟩
        rw [hv3];exact Lib.run_unsafeSliceData_row w _ _ _ _ _ hcap
theorem q_unsafeStr0 {t t':TypeId} {x y:Operand} {n:Int} (hx:E.ev x=.ro Rd.anyPtr false ()) (hy:E.ev y=.lit (.int .i64 n)) (hn:n=0) :
    Quiet P (.call { callee:=.builtin .unsafeString,args:=#[x,y],argTypes:=#[t,t'] }) ty E M [] (.lit (.string ByteArray.empty)) :=
  fun cx nt a w e hh he=>⟨.string ByteArray.empty,by simp [Val],fun w1 hw=>by
    have hv:=he.ev x;rw [hx] at hv;simp only [Val,Rd.anyPtr] at hv
    obtain ⟨p,hp⟩:=hv
    simp at hp
    subst hn
    have:=Lib.run_unsafeString_none (P:=P) w1 t t' ty p
    simp [exec1,execOp,resolve,invoke,builtin,hp,ev_lit he hy,this]⟩
theorem run_loadBytesI (w:World):∀ (l:List Int) (a:Addr) (acc:ByteArray),(∀ j x,l[j]? = some x→w.cell? (a.add j)=some (.int .u8 x)) →
    (loadBytes a acc l.length).run P w=.ok (l.foldl (fun r n=>r.push (UInt8.ofNat n.toNat)) acc) w
  | [],a,acc,_=>by simp [loadBytes]
  | x::l,a,acc,h=>by
    have h0:w.cell? a=some (.int .u8 x):=by
      have:=h 0 x rfl
      simpa [Addr.add] using this
    have ih:=run_loadBytesI w l (a.add 1) (acc.push x.toNat.toUInt8) (fun j y hy=>by
      have:=h (j+1) y (by simpa using hy)
      have e:(a.add 1).add j=a.add (j+1):=by
        unfold Addr.add
        by_cases hj:j=0
        · subst hj;simp
        · simp [hj];omega
      rw [e];exact this)
    simp only [List.length_cons,loadBytes,Sem.run_bind,run_load,h0,Result.andThen,List.foldl_cons]
    exact ih
theorem d_unsafeStr {t t' te:TypeId} {x y:Operand} {n:Int} {i:Nat} {l:List Int} (ht:P.underlying t=some (.pointer te)) (hcs:P.cellsOf te=1) (hx:E.ev x=.ptr i 0) (hy:E.ev y=.lit (.int .i64 n)) (hc:M.at_ i=.row te (Rd.int .u8) l) (h0:decide (l.length=0)=false) (hn:n=(l.length:Int)) :
    Does P (.call { callee:=.builtin .unsafeString,args:=#[x,y],argTypes:=#[t,t'] }) ty E M [i] (.lit (.string (strOf l))) (M.set i .gone) :=
  fun cx nt a w e hh he=>by
    subst hn
    have hl:l.length≠0:=of_decide_eq_false h0
    have hp:=he.ev x;rw [hx] at hp;simp only [Val] at hp
    have hk:=hh.ch i hp.1
    rw [hc] at hk
    obtain ⟨g1,g2,g3,g4⟩:=hk
    rw [hp.2.1] at g4
    simp only [Bool.false_eq_true,if_false] at g4
    obtain ⟨c,z,hb,hz,hsz,hrow⟩:=g4
    have hlive:(M.at_ i).live e i:=by rw [hc];exact hp.2.1
    have hsh:w.shape? (e.own i)=some (te,c.size):=by simp [World.shape?,hb]
    have hcsz:l.length≤c.size:=by rw [hsz];simpa [Rd.int,Rd.sc] using g2
    have hcell:∀ j x,l[j]? = some x→w.cell? ((⟨e.own i,0,none⟩:Addr).add j)=some (.int .u8 x):=by
      intro j x hj
      have hg:=rows_get hrow hj
      rw [add_at,Nat.zero_add,cell_of hb]
      simp only [Rd.int,Rd.sc,Nat.mul_one] at hg
      have:=congrArg (·[0]?) hg
      simpa [List.getElem?_take,List.getElem?_drop] using this
    have hlb:=run_loadBytesI (P:=P) w l ⟨e.own i,0,none⟩ .empty hcell
    have hlies:=Lib.liesAt_bytes (P:=P) hcs (c.size / P.cellsOf te) l.length (by rw [hcs];simpa using hcsz)
    have hmax:IntKind.i64.max=9223372036854775807:=rfl
    have h63':¬ (9223372036854775807:Int)<(l.length:Int):=by simp only [maxLen] at g3;omega
    have hneg:¬ (l.length:Int)<0:=by omega
    have hdef:Builtin.unsafeString_ #[t,t'] ty #[.pointer (some ⟨e.own i,0,none⟩),.int .i64 l.length] =
      (do
        let n ← asInt (.int .i64 l.length)
        if n < 0 then runtimePanic (.error "unsafe.String: len out of range")
        if n > IntKind.i64.max then unsupported (.unsafePointer "String: a length above the largest int")
        if n=0 then pure (.string .empty)
        else if ← variablesAt ⟨e.own i,0,none⟩ (← elemOf t) n.toNat then do
          let s ← loadBytes ⟨e.own i,0,none⟩ .empty n.toNat
          freeze ⟨e.own i,0,none⟩ n.toNat
          pure (.string s)
        else unsupported (.unsafePointer "String: not so many bytes at ptr")) := rfl
    have hrun:(Builtin.unsafeString_ #[t,t'] ty #[.pointer (some ⟨e.own i,0,none⟩),.int .i64 l.length]).run P w=.ok (.string (strOf l)) (w.freeze ⟨e.own i,0,none⟩ l.length):=by
      rw [hdef]
      simp [asInt,asIntOf,hmax,h63',hneg,hl,variablesAt,hsh,elemOf,run_underlying ht,hlies,hlb,strOf]
    have hfsame:∀ k,k≠e.own i→(w.freeze ⟨e.own i,0,none⟩ l.length).heap[k]? = w.heap[k]? := by
      intro k hk
      unfold World.freeze
      rw [if_neg hl]
      simp only [Array.getElem?_modify]
      rw [if_neg (Ne.symm hk)]
    have hfsz:(w.freeze ⟨e.own i,0,none⟩ l.length).heap.size=w.heap.size:=by
      unfold World.freeze
      rw [if_neg hl]
      simp
    refine ⟨.string (strOf l),w.freeze ⟨e.own i,0,none⟩ l.length,e,?_,?_,⟨Nv.le.refl e,fun _=>Ro.le.refl _⟩,by simp [Val],fun b _ hne=>hfsame b (fun hbb=>hne i (by simp) hp.1 hlive hbb.symm),by rw [hfsz];exact Nat.le_refl _⟩
    · simp [exec1,execOp,resolve,invoke,builtin,hp.2.2,ev_lit he hy,hrun]
    · have:=hh.change hp.1 hlive (c:=.gone) (w':=w.freeze ⟨e.own i,0,none⟩ l.length) (by unfold World.freeze;split <;> rfl) (by unfold World.freeze;split <;> rfl) (by unfold World.freeze;split <;> rfl) hfsz hfsame trivial
      exact this
theorem q_indexTab {α:Type} {A:Rd α} {d0:α} {l:List α} {vs:List Value} {t el:TypeId} {n sz g:Nat} {y:Operand} {k:IntKind} {j:Int} (h:ArIs P t el n sz) (hn:A.sz=sz) (hg:tabs g=some vs) (hR:∀ m:Ro,(Rd.array n A d0).ok m l vs) (hy:E.ev y=.lit (.int k j)) (hj:decide (0≤j∧j<n)=true) :
    Quiet P (.indexAddr t (.global g) y) ty E M [] (.ro (Rd.ptr A) false (l.getD j.toNat d0)) :=
  fun cx _ a w e hh he=>by
    subst hn
    obtain ⟨c,tt,fr,hm0,htk⟩:=cx.tb g vs hg
    have h2:=hh.m0 _ _ hm0
    obtain ⟨h3,h4⟩:=hR e.m
    obtain ⟨h0,h5⟩:=of_decide_eq_true hj
    have hjn:j.toNat<n:=by omega
    refine ⟨.pointer (some ⟨g,0+j.toNat*A.sz,Option.none⟩),?_,fun w1 hw=>?_⟩
    · simp only [Val,Rd.ptr]
      refine ⟨g,0+j.toNat*A.sz,c,tt,fr,rfl,by rw [Nv.mem_false];exact h2,?_⟩
      have:=h4 j.toNat hjn
      rw [← htk,h3] at this
      rw [List.drop_take,List.take_take,Nat.min_eq_left] at this
      · rw [Nv.mem_false,Nat.zero_add];exact this
      · have h6:(j.toNat+1)*A.sz≤n*A.sz:=Nat.mul_le_mul_right _ hjn
        rw [Nat.add_mul] at h6;omega
    · have:=run_indexAt_ar h g 0 k j h0 h5 w1
      have hg':a.eval (.global g)=.pointer (some ⟨g,0,Option.none⟩):=rfl
      simp [exec1,execOp,hg',ev_lit he hy,this]
end
section
variable {P:Program} {cx:Cx} {fr:Fr} {nt:Nat} {E E':Env} {M M':Mem} {Q:Ex→Env→Mem→Prop} {ty:TypeId}
theorem Cv.cellTo {i off:Nat} {t:TypeId} {l:List AVal} {v v':AVal} (hi:Nat.blt i M.n=true) (hc:M.at_ i=.cells t l) (hv:l[off]? = some v) (h:∀ w e u,Hold cx e M w→Val e v u→Val e v' u) :
    Cv cx nt E M E (M.set i (.cells t (l.set off v'))) :=
  fun a w e hh he=>by
    have hin:i<e.n:=by rw [hh.n];simpa using hi
    have hlive:(M.at_ i).live e i:=by rw [hc];trivial
    refine ⟨e,hh.change hin hlive rfl rfl rfl rfl (fun _ _=>rfl) ?_,he.mem⟩
    have hk:=hh.ch i hin
    rw [hc] at hk
    obtain ⟨g1,vs,g2,g3,g4⟩:=hk
    refine ⟨g1,vs,g2,?_,g4⟩
    obtain ⟨u,hu,hval⟩:=g3.get hv
    have hset:vs=vs.set off u:=by
      apply List.ext_getElem?
      intro j
      rw [List.getElem?_set]
      split
      · rename_i hj;subst hj;split
        · rename_i hlt;rw [hu]
        · rename_i hge;rw [List.getElem?_eq_none (by omega)]
      · rfl
    rw [hset]
    exact g3.set (h w e u hh hval)
theorem Cv.optC0 {i off j o:Nat} {t tj:TypeId} {l lj:List AVal} (hi:Nat.blt i M.n=true) (hc:M.at_ i=.cells t l) (hv:l[off]? = some (.lit (.pointer none))) (hj:Nat.blt j M.n=true) (hcj:M.at_ j=.cells tj lj) :
    Cv cx nt E M E (M.set i (.cells t (l.set off (.opt false j o)))) :=
  Cv.cellTo hi hc hv fun w e u hh h=>by
    simp only [Val] at h ⊢
    have hjn:j<e.n:=by rw [hh.n];simpa using hj
    have hk:=hh.ch j hjn
    rw [hcj] at hk
    exact ⟨hjn,hk.1,h⟩
theorem Cv.optC1 {i off j o:Nat} {t:TypeId} {l:List AVal} (hi:Nat.blt i M.n=true) (hc:M.at_ i=.cells t l) (hv:l[off]? = some (.ptr j o)) :
    Cv cx nt E M E (M.set i (.cells t (l.set off (.opt true j o)))) :=
  Cv.cellTo hi hc hv fun w e u hh h=>by
    simp only [Val] at h ⊢
    exact h
theorem q_eqlpOpt {t el yt:TypeId} {x:Operand} {c:Bool} {i o:Nat} (ht:P.underlying t=some (.pointer el)) (hx:E.ev x=.opt c i o):Quiet P (.binOp .eql t x (.const (.pointer Option.none)) yt) ty E M [] (.lit (.bool (!c))) :=
  fun _ _ a w e _ he=>⟨.bool (!c),by simp [Val],fun w1 _=>by
    have hv:=he.ev x;rw [hx] at hv;simp only [Val] at hv
    cases c with
    | true =>
      simp only [cond_true] at hv
      simp only [exec1,execOp,hv.2.2,g_ptr,eval_const,Sem.run_bind,Sem.run_pure,Result.andThen,run_eql_ptr ht]
      rfl
    | false =>
      simp only [cond_false] at hv
      simp only [exec1,execOp,hv.2.2,g_ptr,eval_const,Sem.run_bind,Sem.run_pure,Result.andThen,run_eql_nil ht]
      rfl⟩
theorem opt_ptr {e:Nv} {c:Bool} {i o:Nat} {v:Value} (hc:c=true) (h:Val e (.opt c i o) v):Val e (.ptr i o) v:=by
  subst hc
  simpa only [Val,cond_true] using h
theorem q_neqpOptSelf {t te yt:TypeId} {x y:Operand} {c:Bool} {i o:Nat} (ht:P.underlying t=some (.pointer te)) (hte:∃ j,P.info? te=some j) (hc:c=true) (hx:E.ev x=.opt c i o) (hy:E.ev y=.ptr i o):Quiet P (.binOp .neq t x y yt) ty E M [] (.lit (.bool false)) :=
  fun cx nt a w e hh he=>by
    have hp:=he.ev x;rw [hx] at hp
    have hp:=opt_ptr hc hp
    simp only [Val] at hp
    have hq:=he.ev y;rw [hy] at hq;simp only [Val] at hq
    obtain ⟨j,hj⟩:=hte
    refine ⟨.bool false,by simp [Val],fun w1 hw=>?_⟩
    have:=Lib.run_neq_ptr_same (P:=P) w1 (⟨e.own i,o,none⟩:Addr) ht hj
    simp only [exec1,execOp,hp.2.2,hq.2.2,g_ptr,Sem.run_bind,Sem.run_pure,Result.andThen,this]
theorem WPL.splitB {ops:Array Oper} {os:List Oper} (b:Bool) (h1:b=true→WPL P cx fr ops os E M Q) (h2:b=false→WPL P cx fr ops os E M Q):WPL P cx fr ops os E M Q:=by
  cases b with
  | true=>exact h1 rfl
  | false=>exact h2 rfl
theorem WPD.splitB {ops:Array Oper} {st X:List Nat} {fuel:Nat} {listed:Array Bool} (b:Bool) (h1:b=true→WPD P cx fr ops st X fuel listed E M Q) (h2:b=false→WPD P cx fr ops st X fuel listed E M Q):WPD P cx fr ops st X fuel listed E M Q:=by
  cases b with
  | true=>exact h1 rfl
  | false=>exact h2 rfl
theorem WP.condFB {c:Operand} {x y:Code} {t:Bool} (hc:E.ev c=.lit (.bool t)) (hb:t=false) (h:WP P cx fr y E M Q):WP P cx fr (.cond c x y) E M Q:=WP.condF (hb ▸ hc) h
theorem notT {b:Bool} (h:(!b)=true):b=false:=by cases b <;> simp_all
theorem notF {b:Bool} (h:(!b)=false):b=true:=by cases b <;> simp_all
theorem len0 {α:Type} {l:List α} (h:decide (l.length=0)=true):((l.length:Nat):Int)=0:=by
  have:=of_decide_eq_true h
  omega
end
theorem array_rows {α:Type} {A:Rd α} {d0:α} {n:Nat} {m:Ro} {l:List α} {cs:List Value} (h:rows A m l cs) (hl:l.length=n) (hc:cs.length=n*A.sz):(Rd.array n A d0).ok m l cs :=
  ⟨hc,fun j hj=>by
    have hj':j<l.length:=by omega
    have:=rows_get h (i:=j) (d:=l[j]) (List.getElem?_eq_getElem hj')
    rw [List.getD_eq_getElem?_getD,List.getElem?_eq_getElem hj']
    exact this⟩
theorem rows_ints {k:IntKind} {m:Ro}:∀ (l:List Int),rows (Rd.int k) m l (l.map (Value.int k))
  | []=>trivial
  | x::l=>⟨rfl,rows_ints l⟩
section
variable {P:Program} {cx:Cx} {fr:Fr} {E:Env} {M M':Mem} {Q:Ex→Env→Mem→Prop} {ty:TypeId}
theorem nm_str {a b:ByteArray} (h:some a=some b):AVal.lit (.string a)=AVal.lit (.string b):=by cases h;rfl
end
def L (s:ByteArray):List UInt8:=s.data.toList
theorem L_ext {a b:ByteArray} (h:L a=L b):a=b:=by
  apply ByteArray.ext
  exact Array.ext' h
theorem L_size (s:ByteArray):s.size=(L s).length:=by rw [L,Array.length_toList];rfl
theorem L_toList (s:ByteArray):s.toList=L s:=ByteArray.toList_eq s
theorem L_extract (s:ByteArray) (i j:Nat):L (s.extract i j)=((L s).drop i).take (j - i):=by simp [L]
theorem L_append (a b:ByteArray):L (a++b)=L a++L b:=by simp [L]
theorem L_empty:L ByteArray.empty=[]:=rfl
theorem L_mk (l:List UInt8):L (ByteArray.mk l.toArray)=l:=by simp [L]
theorem L_strOf (l:List Int):L (strOf l)=l.map fun n=>UInt8.ofNat n.toNat:=by
  have:∀ (l:List Int) (acc:ByteArray),L (l.foldl (fun r n=>r.push (UInt8.ofNat n.toNat)) acc)=L acc++l.map fun n=>UInt8.ofNat n.toNat:=by
    intro l
    induction l with
    | nil=>intro acc;simp
    | cons x l ih=>intro acc;rw [List.foldl_cons,ih];simp [L,ByteArray.push]
  rw [strOf,this,L_empty,List.nil_append]
def I (l:List UInt8):List Int:=l.map fun b=>(b.toNat:Int)
theorem strInts_L (s:ByteArray):strInts s=I (L s):=rfl
theorem I_length (l:List UInt8):(I l).length=l.length:=by simp [I]
theorem I_append (a b:List UInt8):I (a++b)=I a++I b:=by simp [I]
theorem L_strOf_I (l:List UInt8):L (strOf (I l))=l:=by
  rw [L_strOf,I,List.map_map]
  have:((fun n:Int=>UInt8.ofNat n.toNat) ∘ fun b:UInt8=>(b.toNat:Int))=id:=by
    funext b
    simp
  rw [this,List.map_id]
def byt (l:List UInt8) (k:Nat):Nat:=(l.getD k 0).toNat
theorem byt_lt (l:List UInt8) (k:Nat):byt l k<256:=(l.getD k 0).toNat_lt
theorem byt_drop (l:List UInt8) (p k:Nat):byt (l.drop p) k=byt l (p+k):=by
  simp [byt,List.getD_eq_getElem?_getD,List.getElem?_drop]
theorem ix_I {l:List UInt8} {i:Nat} (h:i<l.length):ix (I l) (i:Int)=some (byt l i:Int):=by
  rw [ix_nat (by simpa [I] using h)]
  simp [I,byt,List.getD_eq_getElem?_getD,List.getElem?_eq_getElem h]
def decL (l:List UInt8):Nat × Nat :=
  let cont (k:Nat):Bool:=decide (k<l.length)&&byt l k / 64==2
  if byt l 0<0x80 then (byt l 0,1)
  else if byt l 0 / 32==6&&cont 1 then
    let c:=(byt l 0%32)*64+byt l 1%64
    if c≥0x80 then (c,2) else (65533,1)
  else if byt l 0 / 16==14&&cont 1&&cont 2 then
    let c:=(byt l 0%16)*4096+(byt l 1%64)*64+byt l 2%64
    if c≥0x800&&Utf8.valid c then (c,3) else (65533,1)
  else if byt l 0 / 8==30&&cont 1&&cont 2&&cont 3 then
    let c:=(byt l 0%8)*262144+(byt l 1%64)*4096+(byt l 2%64)*64+byt l 3%64
    if c≥0x10000&&Utf8.valid c then (c,4) else (65533,1)
  else (65533,1)
theorem get!_L (s:ByteArray) (i:Nat):s.get! i=(L s).getD i 0:=by
  show s.data[i]! = _
  rw [getElem!_def,L,List.getD_eq_getElem?_getD,Array.getElem?_toList]
  cases s.data[i]? <;> rfl
theorem decode_L (s:ByteArray) (p:Nat):Utf8.decode s p=decL ((L s).drop p):=by
  unfold Utf8.decode decL
  have h1:∀ k,(s.get! (p+k)).toNat=byt ((L s).drop p) k:=fun k=>by rw [byt_drop,get!_L];rfl
  have h2:∀ k,(decide (p+k<s.size))=decide (k<((L s).drop p).length):=fun k=>by
    rw [L_size,List.length_drop]
    congr 1
    apply propext
    omega
  simp only [h1,h2,Utf8.runeError]
def okL (l:List UInt8) (c w:Nat):Prop :=
  (w=1∧1≤l.length∧byt l 0=c∧c<128) ∨
  (w=2∧2≤l.length∧128≤c∧c<2048∧byt l 0=192+c / 64∧byt l 1=128+c%64) ∨
  (w=3∧3≤l.length∧2048≤c∧c<65536∧¬ (55296≤c∧c≤57343)∧byt l 0=224+c / 4096∧byt l 1=128+c / 64%64∧byt l 2=128+c%64) ∨
  (w=4∧4≤l.length∧65536≤c∧c≤1114111∧byt l 0=240+c / 262144∧byt l 1=128+c / 4096%64∧byt l 2=128+c / 64%64∧byt l 3=128+c%64)
theorem okL_one {l:List UInt8} {c w c' w':Nat} (h:okL l c w) (h':okL l c' w'):c=c'∧w=w':=by
  unfold okL at h h'
  rcases h with ⟨rfl,h⟩ | ⟨rfl,h⟩ | ⟨rfl,h⟩ | ⟨rfl,h⟩ <;> rcases h' with ⟨rfl,h'⟩ | ⟨rfl,h'⟩ | ⟨rfl,h'⟩ | ⟨rfl,h'⟩ <;> omega
theorem valid_nat (c:Nat):Utf8.valid (c:Int)=true↔c≤1114111∧¬ (55296≤c∧c≤57343):=by
  unfold Utf8.valid
  simp only [Bool.or_eq_true,Bool.and_eq_true,decide_eq_true_eq]
  omega
theorem decL_cases {l:List UInt8} (h0:0<l.length):okL l (decL l).1 (decL l).2∨(decL l=(65533,1)∧∀ c w,¬ okL l c w):=by
  have b0:=byt_lt l 0;have b1:=byt_lt l 1;have b2:=byt_lt l 2;have b3:=byt_lt l 3
  unfold decL
  simp only [Bool.and_eq_true,beq_iff_eq,decide_eq_true_eq,ge_iff_le,valid_nat]
  split
  · left;unfold okL;simp;omega
  · split
    · split
      · left;unfold okL;simp;omega
      · right;refine ⟨rfl,fun c w h=>?_⟩;unfold okL at h;omega
    · split
      · split
        · left;unfold okL;simp;omega
        · right;refine ⟨rfl,fun c w h=>?_⟩;unfold okL at h;omega
      · split
        · split
          · left;unfold okL;simp;omega
          · right;refine ⟨rfl,fun c w h=>?_⟩;unfold okL at h;omega
        · right;refine ⟨rfl,fun c w h=>?_⟩;unfold okL at h;omega
theorem decL_of {l:List UInt8} {c w:Nat} (h:okL l c w):decL l=(c,w):=by
  have h0:0<l.length:=by unfold okL at h;omega
  rcases decL_cases h0 with h' | ⟨_,h'⟩
  · obtain ⟨h1,h2⟩:=okL_one h h'
    exact Prod.ext h1.symm h2.symm
  · exact absurd h (h' c w)
def isL (l:List UInt8):Bool:=!(decide (decL l=(65533,1)))
section
variable {P:Program} {E:Env} {M:Mem} {ty:TypeId}
theorem d_buildCells {t el:TypeId} {n len N:Nat} {zs:List Value} {ps:Array (Nat × Operand)} {l:List AVal} (h:LitIs P t el n zs) (hn0:Nat.blt 0 n=true) (hsmall:Nat.ble (len*n) 16777216=true) (hzl:Nat.beq zs.length n=true)
    (hf:fillA (placeAt n) E (zerosA zs len) ps.toList=some l) (hN:M.n=N) :
    Does P (.buildSlice t len ps) ty E M [] (.sl N n 0 len) (M.push (.cells el l)) :=
  fun cx nt a w e hh he=>by
    obtain ⟨i,z,h1,h2,h3,h4⟩:=h.h
    have hn0':0<n:=by simpa using hn0
    have hzl':zs.length=n:=by simpa using hzl
    have hsm':len*n≤16777216:=by simpa using hsmall
    have hmade:=made_list zs n hzl' hn0' len
    have hone:∀ v∈(List.replicate len zs).flatten,v.oneCell'=true:=by
      intro v hv
      obtain ⟨l1,hl1,hv1⟩:=List.mem_flatten.1 hv
      rw [List.eq_of_mem_replicate hl1] at hv1
      exact h.one v hv1
    obtain ⟨cs,g1,g2,g3⟩:=fill_ok (P:=P) he ps.toList _ l _ (zerosA_vals e zs len) hone hf
    have hle:=e.bump_le w.heap.size len len false
    have hm:=fun b=>e.bump_mem w.heap.size len len false b
    have hnone:∀ {m:Ro},(∀ b o,m b=some o→w.heap[b]? = some o)→m w.heap.size=none:=by
      intro m hm
      cases hx:m w.heap.size with
      | none=>rfl
      | some o=>have:=(Array.getElem?_eq_some_iff.1 (hm _ _ hx)).1;omega
    have hnew:Hold cx (e.bump w.heap.size len len) (M.push (.cells el l)) (w.alloc (.cells cs.toArray el)):=by
      refine hh.bind rfl rfl rfl (by simp) (by simp) (fun k hk hlt=>q_alloc_old w _ _ hlt) (fun i hi hl=>Nat.ne_of_lt (hh.live i hi hl).1) hh.bag_new (hnone hh.ro) (hnone hh.bro) (.inr hh.size) ?_
      refine ⟨by simp [Nv.bump],cs,?_,g2.mono hle hm,g3⟩
      simp only [Nv.bump,if_true]
      exact heap_alloc_new w _
    have g1':Instr.fill (fun j=>some (j*i.size,i.size)) ((Array.range (len*i.size)).map (z.cells[·%z.cells.size]!)) (ps.map fun (j,x)=>(j,a.eval x)).toList=some cs.toArray:=by
      rw [h3,h4]
      rw [← hmade] at g1
      have e1:(ps.map fun (j,x)=>(j,a.eval x)).toList=ps.toList.map fun p=>(p.1,a.eval p.2):=by simp
      rw [e1]
      exact g1
    refine ⟨.slice (some ⟨w.heap.size,0,none⟩) len len,w.alloc (.cells cs.toArray el),e.bump w.heap.size len len,?_,hnew,⟨hle,hm⟩,?_,fun b hb _=>q_alloc_old w _ _ hb,by simp⟩
    · have hsm:¬ (len*i.size > 2^24):=by rw [h3];omega
      by_cases h0:len*i.size=0
      · have hl0:len=0:=by
          rcases Nat.eq_zero_or_pos len with h | h
          · exact h
          · have:=Nat.mul_pos h hn0';rw [h3] at h0;omega
        subst hl0
        simp only [Nat.zero_mul] at g1'
        have e0:Array.range 0=#[]:=rfl
        rw [e0,Array.map_empty,Array.toList_map] at g1'
        simp only [exec1,execOp,Instr.buildSlice,Sem.run_bind,run_underlying h.t,Result.andThen,sizeOf,typeInfo,run_program,h1,Sem.run_pure,Nat.zero_mul]
        simp [e0,g1',Go.newRow]
      · have:=run_buildSlice (P:=P) w t el len (ps.map fun (j,x)=>(j,a.eval x)) cs.toArray i z h.t h1 h2 hsm h0 g1'
        simp [exec1,execOp,this]
    · simp only [Val,Nv.bump,← hN,← hh.n,if_true,Bool.false_eq_true,if_false]
      exact ⟨Nat.lt_succ_self _,by omega,trivial,0,by simp,fun _=>by simp⟩
theorem q_len_sl {t el:TypeId} {n i sz off len:Nat} {x:Operand} {k:Int} (h:SlIs P t el n) (hx:E.ev x=.sl i sz off len) (hk:(len:Int)=k) :
    Quiet P (.call { callee:=.builtin .len,args:=#[x],argTypes:=#[t] }) ty E M [] (.lit (.int .i64 k)) :=
  fun _ _ a w e hh he=>by
    have hv:=he.ev x;rw [hx] at hv;simp only [Val] at hv
    obtain ⟨_,_,_,o,h1,_⟩:=hv
    refine ⟨.int .i64 (len:Int),by simp [Val,hk],fun w1 hw=>?_⟩
    simp [exec1,execOp,resolve,invoke,builtin,Builtin.len_,h1,run_underlying h.t,goInt]
theorem q_index_sl {t el:TypeId} {n i off len j o:Nat} {x y:Operand} {k:IntKind} (h:SlIs P t el n) (hx:E.ev x=.sl i n off len) (hy:E.ev y=.lit (.int k (j:Int))) (hj:Nat.blt j len=true) (ho:(off+j)*n=o) :
    Quiet P (.indexAddr t x y) ty E M [] (.ptr i o) :=
  fun _ _ a w e hh he=>by
    have hv:=he.ev x;rw [hx] at hv;simp only [Val] at hv
    obtain ⟨h1,h2,h3,o',h4,h5⟩:=hv
    have hj':j<len:=by simpa using hj
    have h6:=h5 (by omega)
    subst h6
    refine ⟨.pointer (some ⟨e.own i,o,none⟩),by simp [Val,h1,h3],fun w1 hw=>?_⟩
    have:=run_indexAt_sl h (e.own i) (off*n) len (e.caps i - off) k (j:Int) (by omega) (by omega) w1
    rw [Int.toNat_natCast,← Nat.add_mul,ho] at this
    simp [exec1,execOp,h4,ev_lit he hy,this]
end
section
variable {P:Program} {cx:Cx} {fr:Fr} {E:Env} {M:Mem} {Q:Ex→Env→Mem→Prop}
def WPI (P:Program) (cx:Cx) (fr:Fr) (c:Code) (E:Env) (M:Mem) (Q:Ex→Env→Mem→Prop):Prop :=
  ∀ a w e,Hold cx e M w→Emb fr.nt e M E a→∀ (b:Frame) (k:List Item) (cs:List Frame),b.roundOf=(fence P fr.r).round→(fence P fr.r).fn b.fn→(fence P fr.r).room (cs.length+1+0) →
    ∃ x a' w',Sat cx fr Q x a' w'∧ArrivesIn (Machine.fenced P (fence P fr.r)) P (lone (b.atR a (.code c::.inLoop c::k)) cs w) b k cs x a' w'
theorem WP.loopU {c:Code} (h:WPI P cx fr c E M Q):WP P cx fr (.loop c) E M Q:=by
  intro a w e hh he b k cs hro hb hr
  obtain ⟨x,a',w',hq,harr⟩:=h a w e hh he b k cs hro hb hr
  exact ⟨x,a',w',hq,.of_steps (.one (fenced_calm hb hr rfl) stepR_loop) harr⟩
theorem WPI.round {c:Code} (h:WP P cx fr c E M (Then (fun E M=>WPI P cx fr c E M Q) Q)):WPI P cx fr c E M Q:=by
  intro a w e hh he b k cs hro hb hr
  obtain ⟨x,a1,w1,hq,harr⟩:=h a w e hh he b (.inLoop c::k) cs hro hb hr
  obtain ⟨y,E',M',e',q,h1,h2,h3⟩:=hq
  cases y with
  | normal =>
    cases h3
    obtain ⟨x2,a2,w2,hq2,harr2⟩:=q a1 w1 e' h1 h2 b k cs hro hb hr
    exact ⟨x2,a2,w2,hq2,.of_steps (StepsIn.trans harr (.one (fenced_calm hb hr rfl) stepR_inLoop)) harr2⟩
  | exit id=>cases h3;exact ⟨_,a1,w1,⟨_,E',M',e',q,h1,h2,rfl⟩,.pass (x:=.inLoop c) rfl (fun _ _=>.inl (by simp)) harr⟩
  | goto l=>cases h3;exact ⟨_,a1,w1,⟨_,E',M',e',q,h1,h2,rfl⟩,.pass (x:=.inLoop c) rfl (fun _ _=>.inl (by simp)) harr⟩
  | ret=>cases h3;exact ⟨_,a1,w1,⟨_,E',M',e',q,h1,h2,rfl⟩,.pass (x:=.inLoop c) rfl (fun _ _=>.inl (by simp)) harr⟩
  | panic v =>
    obtain ⟨u,rfl,hv⟩:=h3
    exact ⟨_,a1,w1,⟨_,E',M',e',q,h1,h2,u,rfl,hv⟩,.pass (x:=.inLoop c) rfl (fun _ _=>.inl (by simp)) harr⟩
end
def add64S:Array Value→Sem Value:=fun args=>do
  let (x, y, c) ← Extern.MathBitsCarry.three "Add64" args
  pure (Extern.MathBitsCarry.pair ((x+y+c)%Extern.MathBitsCarry.m64) ((x+y+c) / Extern.MathBitsCarry.m64))
theorem three_eq (name:String) (x y c:Value):Extern.MathBitsCarry.three name #[x,y,c]=(do
    let c:=(← asInt c).toNat
    if c > 1 then unsupported (.noEntry ("extern/math/bits." ++ name ++ ": a carry that is neither 0 nor 1"))
    pure ((← asInt x).toNat,(← asInt y).toNat,c)):=rfl
def add64 (a b c:Int):Int × Int:=(Int.ofNat ((a.toNat+b.toNat+c.toNat)%Extern.MathBitsCarry.m64),Int.ofNat ((a.toNat+b.toNat+c.toNat) / Extern.MathBitsCarry.m64))
theorem three_run {P:Program} {w:World} {name:String} {k k' k'':IntKind} {a b c:Int} (h:decide (Int.toNat c≤1)=true):(Extern.MathBitsCarry.three name #[.int k a,.int k' b,.int k'' c]).run P w=.ok (a.toNat,b.toNat,c.toNat) w:=by
  have h':¬ (c.toNat > 1):=by have:=of_decide_eq_true h;omega
  rw [three_eq]
  simp only [asInt,asIntOf,pure_bind,if_neg h']
  rfl
section
variable {P:Program} {E:Env} {M:Mem} {ty:TypeId} {fo:Operand} {f:FuncId} {tys:Array TypeId} {x y z:Operand} {a b c:Int}
theorem q_add64 (hfn:ExtIs P f add64S) (hcal:E.ev fo=.fn f []) (hx:E.ev x=.lit (.int .u64 a)) (hy:E.ev y=.lit (.int .u64 b)) (hz:E.ev z=.lit (.int .u64 c)) (h:decide (Int.toNat c≤1)=true) :
    Quiet P (.call { callee:=.value fo,args:=#[x,y,z],argTypes:=tys }) ty E M [] (.tup [.lit (.int .u64 (add64 a b c).1),.lit (.int .u64 (add64 a b c).2)]) :=
  fun cx nt ac w e hh he=>⟨.tuple #[.int .u64 (add64 a b c).1,.int .u64 (add64 a b c).2],by simp [Val,Vals],fun w1 hw=>run_ext hfn (fn_eval he hcal) (by
    simp only [List.map_toArray,List.map_cons,List.map_nil,ev_lit he hx,ev_lit he hy,ev_lit he hz]
    unfold add64S
    rw [Sem.run_bind,three_run h]
    rfl)⟩
end
def EqV (P:Program) (n:Nat) (t:TypeId) (x y:Value) (b:Bool):Prop:=∀ d w,n≤d→(Op.equalIn d t x y).run P w=.ok b w
def EqF (P:Program) (n:Nat) (xs ys:List Value) (fs:List Field) (b:Bool):Prop:=∀ d w,n≤d→(Op.eqFields d xs.toArray ys.toArray fs).run P w=.ok b w
section
variable {P:Program} {n:Nat} {t:TypeId} {xs ys:List Value} {f:Field} {fs:List Field}
theorem EqV.int {k k':IntKind} {a b:Int} (h:P.underlying t=some (.int k')):EqV P (n+1) t (.int k a) (.int k b) (decide (a=b)):=fun d w hd=>by
  obtain ⟨m,rfl⟩:∃ m,d=m+1:=⟨d - 1,by omega⟩
  rw [run_equalIn_int w m t k k' a b h];rfl
theorem EqV.bool {a b:Bool} (h:P.underlying t=some .bool):EqV P (n+1) t (.bool a) (.bool b) (a==b):=fun d w hd=>by
  obtain ⟨m,rfl⟩:∃ m,d=m+1:=⟨d - 1,by omega⟩
  exact run_equalIn_bool' w m t a b h
theorem EqV.str {a b:ByteArray} (h:P.underlying t=some .string):EqV P (n+1) t (.string a) (.string b) (a.toList==b.toList):=fun d w hd=>by
  obtain ⟨m,rfl⟩:∃ m,d=m+1:=⟨d - 1,by omega⟩
  exact run_equalIn_string w m t a b h
theorem EqF.nil:EqF P n xs ys [] true:=fun d w _=>rfl
theorem part_sc {w:World} {u:Value} {o:Nat} (ht:Sc P t) (h:xs[o]? = some u):(part t xs.toArray o).run P w=.ok u w:=by
  simp [part,ht.isAgg w,h]
theorem EqF.sc {u v : Value} {b c : Bool} (hn : (f.name == "_") = false) (ht : Sc P f.type) (hx : xs[f.offset]? = some u) (hy : ys[f.offset]? = some v) (h : EqV P n f.type u v b) (k : EqF P n xs ys fs c) : EqF P n xs ys (f :: fs) (b && c) := fun d w hd => by
  have hn' : f.name ≠ "_" := by simpa using hn
  rw [Op.eqFields,if_pos hn']
  simp only [Sem.run_bind,part_sc ht hx,part_sc ht hy,Result.andThen_ok,h d w hd]
  cases b with
  | true=>simpa using k d w hd
  | false=>simp
theorem EqF.ag {m : Nat} {us vs : List Value} {b c : Bool} (hn : (f.name == "_") = false) (ht : Ag P f.type m) (hx : xs.toArray.extract f.offset (f.offset + m) = us.toArray) (hy : ys.toArray.extract f.offset (f.offset + m) = vs.toArray) (h : EqV P n f.type (.agg us.toArray) (.agg vs.toArray) b) (k : EqF P n xs ys fs c) : EqF P n xs ys (f :: fs) (b && c) := fun d w hd => by
  have hn' : f.name ≠ "_" := by simpa using hn
  have e1:(part f.type xs.toArray f.offset).run P w=.ok (.agg us.toArray) w:=by simp only [part,Sem.run_bind,ht.isAgg w,Result.andThen_ok,if_true,ht.sz.run w,Sem.run_pure,hx]
  have e2:(part f.type ys.toArray f.offset).run P w=.ok (.agg vs.toArray) w:=by simp only [part,Sem.run_bind,ht.isAgg w,Result.andThen_ok,if_true,ht.sz.run w,Sem.run_pure,hy]
  rw [Op.eqFields,if_pos hn']
  simp only [Sem.run_bind,e1,e2,Result.andThen_ok,h d w hd]
  cases b with
  | true=>simpa using k d w hd
  | false=>simp
theorem EqV.struct {b:Bool} {fa:Array Field} (ht:P.underlying t=some (.struct fa)) (hp:P.stoodInHeld t=false) (h:EqF P n xs ys fa.toList b):EqV P (n+1) t (.agg xs.toArray) (.agg ys.toArray) b:=fun d w hd=>by
  obtain ⟨m,rfl⟩:∃ m,d=m+1:=⟨d - 1,by omega⟩
  have hf:P.fieldsOf t=fa:=by simp [Program.fieldsOf,ht]
  rw [run_equalIn_agg w m t _ _ (by rw [hf];exact ht) hp,hf]
  exact h m w (by omega)
end
section
variable {P:Program} {E:Env} {M:Mem} {ty t yt:TypeId} {x y:Operand} {xs ys:List Value} {b:Bool} {n:Nat}
theorem agg_lits {nt:Nat} {e:Nv} {a:Act} (he:Emb nt e M E a) (hx:E.ev x=.agg (xs.map AVal.lit)):a.eval x=.agg xs.toArray:=by
  have hv:=he.ev x
  rw [hx] at hv
  simp only [Val] at hv
  obtain ⟨vs,h1,h2,_⟩:=hv
  have:∀ {l us:List Value},Vals e (l.map AVal.lit) us→us=l:=by
    intro l
    induction l with
    | nil=>intro us h;simpa [Vals] using h
    | cons v l ih =>
      intro us h
      simp only [List.map_cons,Vals,Val] at h
      obtain ⟨u,ws,rfl,rfl,h⟩:=h
      rw [ih h]
  rw [h1,this h2]
theorem q_eqlAg (hn:Nat.ble n 10000=true) (hg:P.eqGuardType P.depth t=false) (hx:E.ev x=.agg (xs.map AVal.lit)) (hy:E.ev y=.agg (ys.map AVal.lit)) (h:EqV P n t (.agg xs.toArray) (.agg ys.toArray) b) :
    Quiet P (.binOp .eql t x y yt) ty E M [] (.lit (.bool b)) :=
  fun _ _ a w e hh he=>⟨.bool b,by simp [Val],fun w1 hw=>by
    have h1:=run_eqGuard_agg (P:=P) w1 .eql t x y xs.toArray ys.toArray hg
    have h2:=run_eql_struct (P:=P) w1 t xs.toArray ys.toArray
    rw [h 10000 w1 (Nat.le_of_ble_eq_true hn)] at h2
    simp [exec1,execOp,agg_lits he hx,agg_lits he hy,h1,h2]⟩
end
section
variable {P:Program} {E:Env} {M:Mem} {ty:TypeId} {x y z:Operand} {k:IntKind} {a b c m:Int} {tys:Array TypeId}
theorem min2_int:Builtin.min2 (.int k a) (.int k b)=pure (.int k (if b<a then b else a)):=rfl
theorem q_min3 (hx:E.ev x=.lit (.int k a)) (hy:E.ev y=.lit (.int k b)) (hz:E.ev z=.lit (.int k c)) (hm:(if b<a then b else a)=m) :
    Quiet P (.call { callee:=.builtin .min,args:=#[x,y,z],argTypes:=tys }) ty E M [] (.lit (.int k (if c<m then c else m))) :=
  fun _ _ _ _ _ _ he=>⟨.int k (if c<m then c else m),by simp [Val],fun w _=>by
    simp only [exec1,execOp,resolve,invoke,builtin,Builtin.min_,List.map_toArray,List.map_cons,List.map_nil,ev_lit he hx,ev_lit he hy,ev_lit he hz,List.foldlM_cons,List.foldlM_nil,min2_int,hm,pure_bind,bind_pure]
    rfl⟩
end
theorem W.wk {cx:Cx} {fr:Fr} {Q:Ex→Env→Mem→Prop} {x:Ex} {E E':Env} {M M':Mem} {np:Nat} (l:List Nat) (hnp:cx.np=np) (hq:Q x E' M') (hM:LeM l np M M') (hE:LeE l M'.n E E') (hx:x.plain=true):W cx fr Q x E M :=
  W.cv (Cv.weak l hnp hM hE) hx (W.now hq)
theorem BodyR.mkR {az:List (Nat × Nat)} {rs:List ResultVar} {np:Nat} {Q:Out→Mem→Prop} {E:Env} {M M2:Mem} {vs:List AVal} {v:AVal} (hm:marksOk M E.d) (hvs:resAll az E (dropMarks M E.d) rs=some vs) (l:List Nat) (hq:Q (.ret v) M2)
    (hl:LeM l np (dropMarks M E.d) M2) (h1:resOut vs=v.ren (sub l)) (h2:(v.under M2.n&&E.b.isEmpty)=true):BodyR az rs np Q .ret E M:=⟨hm,vs,hvs,l,v,M2,hl,h1,h2,hq⟩
theorem BodyR.mkN {az:List (Nat × Nat)} {rs:List ResultVar} {np:Nat} {Q:Out→Mem→Prop} {E:Env} {M M2:Mem} {vs:List AVal} {v:AVal} (hm:marksOk M E.d) (hvs:resAll az E (dropMarks M E.d) rs=some vs) (l:List Nat) (hq:Q (.ret v) M2)
    (hl:LeM l np (dropMarks M E.d) M2) (h1:resOut vs=v.ren (sub l)) (h2:(v.under M2.n&&E.b.isEmpty)=true):BodyR az rs np Q .normal E M:=⟨hm,vs,hvs,l,v,M2,hl,h1,h2,hq⟩
theorem fold_int {k:IntKind} {a b:Int} (h:a=b):AVal.lit (.int k a)=.lit (.int k b):=by rw [h]
section
variable {P:Program} {cx:Cx} {fr:Fr} {ops:Array Oper} {os:List Oper} {E E':Env} {M M':Mem} {Q:Ex→Env→Mem→Prop} {op:Op} {ty:TypeId} {pos:String} {after:Array Edge} {dst:Nat} {v:AVal} {tc:List Nat}
theorem W.wkP {u u':AVal} {np:Nat} (l:List Nat) (hnp:cx.np=np) (hq:Q (.panic u') E' M') (hM:LeM l np M M') (hE:LeE l M'.n E E') (hu:u=u'.ren (sub l)) (hun:u'.under M'.n=true):W cx fr Q (.panic u) E M:=by
  intro a w e X hh he hx
  obtain ⟨x,rfl,hx⟩:=hx
  subst hu
  refine ⟨.panic u',E',M',e.re (sub l) M'.n,hq,hh.re hnp hM,⟨⟨?_,fun t ht=>?_⟩,okOs_re hE.o he.2⟩,x,rfl,hx.re hun⟩
  · obtain ⟨r,h1,h2⟩:=he.1.1
    rw [hE.d] at h2
    exact ⟨r,by rw [← hE.b];exact h1,marks_re h2 hE.db⟩
  · rcases hE.v t with h0 | ⟨h1,h2⟩
    · rw [h0];simp [Val]
    · have:=he.1.2 t ht
      rw [h1] at this
      exact this.re h2
theorem BodyR.mkP {az:List (Nat × Nat)} {rs:List ResultVar} {np:Nat} {Q:Out→Mem→Prop} {E:Env} {M M2:Mem} {u v:AVal} (hm:marksOk M E.d) (l:List Nat) (hq:Q (.pan v) M2)
    (hl:LeM l np (dropMarks M E.d) M2) (h1:u=v.ren (sub l)) (h2:(v.under M2.n&&E.b.isEmpty)=true):BodyR az rs np Q (.panic u) E M:=⟨hm,l,v,M2,hl,h1,h2,hq⟩
theorem runs_panic {x:Operand} {t:TypeId} {a:AVal} (hx:E.ev x=.ifc t a):RunsP P (.panic x) ty E M (.ifc t a) M:=by
  intro cx fr a' w e hh he o ho hty next Q k
  have hv:=he.ev x
  rw [hx] at hv
  have hv0:=hv
  simp only [Val] at hv
  obtain ⟨y,hy,_⟩:=hv
  refine ⟨fun f hf=>by simp [Oper.about,ho] at hf,?_⟩
  rw [Oper.semAt_eq _ _ _ (by rw [ho];intro c hc;cases hc),execOp_one,ho]
  have hrun:(exec1 a'.eval (.panic x) o.type).run P w=.halt (.panic (.iface t y)) w:=by
    simp [exec1,execOp,hy,Instr.panic]
  rw [hrun]
  exact k _ w e hh ⟨Nv.le.refl e,fun _=>Ro.le.refl _⟩ (hy ▸ hv0)
theorem WPL.pW {d:Option Nat} (h:RunsP P op ty E M v M') (k:W cx fr Q (.panic v) E M') :
    WPL P cx fr ops ({ dst:=d,op:=op,type:=ty,pos:=pos,after:=after,guard:=Option.none }::os) E M Q:=by
  intro a w e hh he
  unfold wpListIn
  rw [if_pos (by rfl)]
  refine h cx fr a w e hh he _ rfl rfl _ _ fun x w' e' hh' hle hv=>?_
  exact k a w' e' _ hh' ⟨⟨he.d.mono hle.1,fun t _=>(he.v t).mono hle.1 hle.2⟩,fun p hp=>(he.o p hp).mono hle.1 hle.2⟩ ⟨x,rfl,hv⟩
theorem WPL.pgW {d:Option Nat} {j t:Nat} {b:Bool} (hj:(ops[j]?).bind (·.dst)=some t) (htj:Nat.blt t fr.nt=true) (hv:E.v t=.lit (.bool b)) (h:RunsP P op ty E M v M') (k:W cx fr Q (.panic v) E M') :
    WPL P cx fr ops ({ dst:=d,op:=op,type:=ty,pos:=pos,after:=after,guard:=some (j,b) }::os) E M Q:=by
  intro a w e hh he
  have hw:Region.wanted { dst:=d,op:=op,type:=ty,pos:=pos,after:=after,guard:=some (j,b) } (yielded ops a.tmps)=true:=by
    simp [Region.wanted,yields he hj htj hv]
  unfold wpListIn
  rw [if_pos hw]
  refine h cx fr a w e hh he _ rfl rfl _ _ fun x w' e' hh' hle hv=>?_
  exact k a w' e' _ hh' ⟨⟨he.d.mono hle.1,fun t _=>(he.v t).mono hle.1 hle.2⟩,fun p hp=>(he.o p hp).mono hle.1 hle.2⟩ ⟨x,rfl,hv⟩
theorem WPD.pW {st X:List Nat} {fuel:Nat} {listed:Array Bool} (i:Nat) {d:Option Nat} (ho:ops[i]? = some { dst:=d,op:=op,type:=ty,pos:=pos,after:=after,guard:=Option.none }) (hb:readyIs ops listed i=true)
    (h:RunsP P op ty E M v M') (k:W cx fr Q (.panic v) E M'):WPD P cx fr ops st X (fuel+1) listed E M Q:=by
  intro a w e hh he
  have hready:Region.ready .any ops listed=[i]:=by simpa [readyIs] using hb
  refine ⟨fun h=>(by rw [hready] at h;cases h),fun j hj=>?_⟩
  rw [hready] at hj
  obtain rfl:j=i:=by simpa using hj
  unfold wpOpIn
  simp only [ho]
  rw [if_pos (by rfl)]
  refine h cx fr a w e hh he _ rfl rfl _ _ fun x w' e' hh' hle hv=>?_
  exact k a w' e' _ hh' ⟨⟨he.d.mono hle.1,fun t _=>(he.v t).mono hle.1 hle.2⟩,fun p hp=>(he.o p hp).mono hle.1 hle.2⟩ ⟨x,rfl,hv⟩
end
section
variable {P:Program} {cx:Cx} {fr:Fr} {ops:Array Oper} {os:List Oper} {E E':Env} {M M':Mem} {Q:Ex→Env→Mem→Prop} {op:Op} {ty:TypeId} {pos:String} {after:Array Edge} {dst:Nat} {v:AVal} {tc:List Nat}
def dfd (f:FuncId) (aD:Act):Deferred:={ target:=.fn (.func f) aD.tmps,args:=#[] }
theorem WPL.dfr {fo:Operand} {f:FuncId} {cap:List AVal} {tys:Array TypeId} (hr:fr.r=none) (hfo:E.ev fo=.fn f cap) (hd:(E.d,E.b)=([],[]))
    (k:∀ aD:Act,aD.tmps.size=cap.length→WPL P cx fr ops os ⟨E.v,[],⟨aD,fun t=>cap.getD t .any,[],none⟩::E.o,[dfd f aD]⟩ M Q) :
    WPL P cx fr ops ({ dst:=Option.none,op:=.defer { callee:=.value fo,args:=#[],argTypes:=tys },type:=ty,pos:=pos,after:=after,guard:=Option.none }::os) E M Q:=by
  intro a w e hh he
  have hv:=he.ev fo
  rw [hfo] at hv
  simp only [Val] at hv
  obtain ⟨us,h1,h2⟩:=hv
  have had:a.defers=[]:=by
    have:=he.d
    rw [(Prod.mk.inj hd).1,(Prod.mk.inj hd).2] at this
    exact marksB.nil.1 this
  unfold wpListIn
  rw [if_pos (by rfl)]
  refine ⟨fun f hf=>by simp [Oper.about] at hf,?_⟩
  rw [hr]
  have hrun:(Oper.semAt none a.eval { dst:=Option.none,op:=.defer { callee:=.value fo,args:=#[],argTypes:=tys },type:=ty,pos:=pos,after:=after,guard:=Option.none }).run P w=.ok (.defer (dfd f { tmps:=us.toArray,defers:=[] })) w:=by
    simp [Oper.semAt,execOp,resolve,Deferred.ofValue,h1,dfd]
  rw [hrun]
  have hk:=k { tmps:=us.toArray,defers:=[] } (by simpa using h2.length) { a with defers:=[dfd f { tmps:=us.toArray,defers:=[] }] } w e hh ⟨he.sz,he.v,⟨[],rfl,rfl⟩,fun p hp=>?_⟩
  · rw [hr] at hk
    simpa [Oper.uponIn,Act.put,had] using hk
  · rcases List.mem_cons.1 hp with rfl | hp
    · refine ⟨fun t=>?_,rfl,fun i l hil=>by cases hil⟩
      simp only [List.getD_eq_getElem?_getD]
      by_cases ht:t<cap.length
      · rw [List.getElem?_eq_getElem ht]
        obtain ⟨v,g1,g2⟩:=h2.get (List.getElem?_eq_getElem ht)
        have hs:us.toArray.getD t undef=v:=by rw [Array.getD_eq_getD_getElem?];simp [g1]
        rw [hs]
        exact g2
      · rw [List.getElem?_eq_none (by omega)]
        simp [Val]
    · exact he.o p hp
theorem wpOps_recover {F:Fence} {n d0 d1:Nat} {P:Program} {Q:Exit→Act→List Frame→World→Prop} {a:Act} {cs cs':List Frame} {w:World} {xv:Value} {t0 t1:TypeId} {p0 p1:String} {af0 af1:Array Edge} (hd:d0<a.tmps.size)
    (hrec:recoverD cs=some (xv,cs')∨(recoverD cs=none∧xv=.nilIface∧cs'=cs)) (h:Q .normal ((a.put (some d0) xv).put (some d1) xv) cs' w) :
    wpOpsSIn F n P #[{ dst:=some d0,op:=.call { callee:=.builtin .recover,args:=#[],argTypes:=#[] },type:=t0,pos:=p0,after:=af0,guard:=Option.none },{ dst:=some d1,op:=.assign (.tmp d0),type:=t1,pos:=p1,after:=af1,guard:=Option.none }] Q [0,1] a cs w:=by
  have hrun:(execOp a.eval { dst:=some d0,op:=.call { callee:=.builtin .recover,args:=#[],argTypes:=#[] },type:=t0,pos:=p0,after:=af0,guard:=Option.none }).run P w=.ok .recover w:=by
    simp [execOp,resolve,invoke,builtin]
  have hev:(a.put (some d0) xv).eval (.tmp d0)=xv:=by
    simp [Act.put,Act.eval,hd]
  have h2:wpOpsSIn F n P #[{ dst:=some d0,op:=.call { callee:=.builtin .recover,args:=#[],argTypes:=#[] },type:=t0,pos:=p0,after:=af0,guard:=Option.none },{ dst:=some d1,op:=.assign (.tmp d0),type:=t1,pos:=p1,after:=af1,guard:=Option.none }] Q [1] (a.put (some d0) xv) cs' w:=by
    unfold wpOpsSIn
    simp only [List.getElem?_toArray,List.getElem?_cons_succ,List.getElem?_cons_zero]
    refine ⟨fun f hf=>by simp [Oper.about] at hf,?_⟩
    rw [if_pos (by rfl)]
    simp only [execOp,Sem.run_pure,hev]
    exact h
  unfold wpOpsSIn
  simp only [List.getElem?_toArray,List.getElem?_cons_zero]
  refine ⟨fun f hf=>by simp [Oper.about,resolve,Target.leads] at hf,?_⟩
  rw [if_pos (by rfl),hrun]
  rcases hrec with hr | ⟨hr,rfl,rfl⟩
  · simp only [hr];exact h2
  · simp only [hr];exact h2
def BodyF (az:List (Nat × Nat)) (rs:List ResultVar) (np:Nat) (Q:Out→Mem→Prop) (aF:Act) (x:Ex) (E:Env) (M:Mem):Prop :=
  (x=.normal∨x=.ret)∧(E.d,E.b)=([],[])∧∃ vF,E.o=[⟨aF,vF,[],none⟩]∧BodyR az rs np Q .ret ⟨vF,[],[],[]⟩ M
def BodyD (P:Program) (cx:Cx) (fc:FuncId) (ntc d0 d1 nc:Nat) (rest:Code) (az:List (Nat × Nat)) (rs:List ResultVar) (np:Nat) (pin:List Nat) (Q:Out→Mem→Prop) (x:Ex) (E:Env) (M:Mem):Prop :=
  (E.d=[]∧BodyR az rs np Q x E M) ∨
  ∃ u,(x=.panic u∨((x=.normal∨x=.ret)∧u=.lit .nilIface))∧E.d=[]∧∃ aD vc,aD.tmps.size=nc∧E.b=[dfd fc aD]∧E.o=[⟨aD,vc,[],none⟩] ∧
    ∀ aF:Act,WP P cx ⟨ntc,none,[]⟩ rest (((⟨vc,[],[⟨aF,fun t=>if pin.contains t then E.v t else .any,[],none⟩],[]⟩:Env).upd d0 u).upd d1 u) M (BodyF az rs np Q aF)
theorem Spec.of_bodyD {az:List (Nat × Nat)} {f fc:FuncId} {fn fnc:Func} {c rest:Code} {id d0 d1 ntc nc np nt:Nat} {pin:List Nat} {args:List AVal} {Q:Out→Mem→Prop} {rs:List ResultVar} {t0 t1:TypeId} {p0 p1:String} {af0 af1:Array Edge}
    (hf:P.funcs[f]? = some fn) (hb:fn.body=some c) (hr:fn.results.toList=rs) (hsc:∀ t T,ResultVar.cell t T∈rs→CellOk P az T) (hnt:fn.ntmps=nt) (ha:Nat.ble args.length nt=true)
    (hfc:P.funcs[fc]? = some fnc) (hbc:fnc.body=some (.seq (.region id #[{ dst:=some d0,op:=.call { callee:=.builtin .recover,args:=#[],argTypes:=#[] },type:=t0,pos:=p0,after:=af0,guard:=Option.none },{ dst:=some d1,op:=.assign (.tmp d0),type:=t1,pos:=p1,after:=af1,guard:=Option.none }] false) rest))
    (hntc : fnc.ntmps = ntc) (hrc : fnc.results = #[]) (hnm : (fnc.name == "runtime.NumGoroutine") = false) (hd : (Nat.blt d0 ntc && Nat.blt d1 ntc && Nat.ble nc ntc) = true)
    (h:∀ cx,cx.np=np→WP P cx ⟨nt,none,pin⟩ c (argsEnv args) M (BodyD P cx fc ntc d0 d1 nc rest az rs np pin Q)):Spec P f np args M Q:=by
  intro cx e w vs hent hh hv
  have hlen:=hv.length
  have ha':args.length≤nt:=by simpa using ha
  refine callsIn_of_wp_defers hf hb (Option.isSome_iff_exists.2 ⟨_,hf⟩) ?_ rfl
  have hemb:Emb nt e M (argsEnv args) { tmps:=vs.toArray++Array.replicate (fn.ntmps - vs.toArray.size) undef,defers:=[] }:=by
    refine ⟨by simp [hnt,hlen];omega,fun t=>?_,⟨[],rfl,rfl⟩,fun p hp=>by cases hp⟩
    simp only [argsEnv,List.getD_eq_getElem?_getD]
    by_cases ht:t<args.length
    · rw [List.getElem?_eq_getElem ht]
      obtain ⟨v,h1,h2⟩:=hv.get (List.getElem?_eq_getElem ht)
      have hs:(vs.toArray++Array.replicate (fn.ntmps - vs.toArray.size) undef).getD t undef=v:=by
        rw [Array.getD_eq_getD_getElem?,Array.getElem?_append_left (by simpa [hlen] using ht)]
        simp [h1]
      rw [hs]
      exact h2
    · rw [List.getElem?_eq_none (by omega)]
      simp [Val]
  refine Go.wpIn_mono (h cx hent.np _ w e hh hemb) fun x a' w' k=>?_
  obtain ⟨y,E',M',e',q,h1,h2,h3⟩:=k
  let R:Ending→World→Prop:=fun x w'=>∃ o M' e',Q o M'∧Hold cx e' M' w'∧o.is e' x
  have hfinR:∀ {E1:Env} {M1:Mem} {e1:Nv} {w1:World} {am:Act},Hold cx e1 M1 w1→(∀ t,Val e1 (E1.v t) (am.tmps.getD t undef))→E1.d=[]→BodyR az rs np Q .ret E1 M1 →
      LeavesIn (fence P none) 0 P fn am.tmps R [] .returning w1:=by
    intro E1 M1 e1 w1 am g1 g2 g0 q
    obtain ⟨_,vs',q2,l,v,M2,q3,q4,q5,q6⟩:=q
    rw [g0] at q2 q3
    obtain ⟨u,r1,r2⟩:=run_results (a:=am) g1 g2 hr hsc q2
    rw [Bool.and_eq_true] at q5
    rw [q4] at r2
    exact ⟨u,r1,.ret v,M2,_,q6,g1.re hent.np q3,u,rfl,r2.re q5.1⟩
  rcases q with ⟨q0,q⟩ | ⟨u,hu,hd0,aD,vc,hsz,hbD,hoD,hk⟩
  · have hdef:marksB e' M' E'.b E'.d a'.defers→E'.b=[]→a'.defers=[]:=by
      intro g1 g2
      rw [q0,g2] at g1
      exact marksB.nil.1 g1
    have hbn:∀ {b:Bool},(b&&E'.b.isEmpty)=true→E'.b=[]:=by
      intro b hb'
      rw [Bool.and_eq_true] at hb'
      simpa using hb'.2
    cases y with
    | normal =>
      cases h3
      have had:=hdef (Emb.d h2) (by obtain ⟨_,vs',q2,l,v,M2,q3,q4,q5,q6⟩:=q;exact hbn q5)
      show LeavesIn (fence P none) 0 P fn a'.tmps R a'.defers .returning w'
      rw [had]
      exact hfinR h1 (Emb.v h2) q0 q
    | ret =>
      cases h3
      have had:=hdef (Emb.d h2) (by obtain ⟨_,vs',q2,l,v,M2,q3,q4,q5,q6⟩:=q;exact hbn q5)
      show LeavesIn (fence P none) 0 P fn a'.tmps R a'.defers .returning w'
      rw [had]
      exact hfinR h1 (Emb.v h2) q0 q
    | exit id=>exact q.elim
    | goto l=>exact q.elim
    | panic v =>
      obtain ⟨x,rfl,hx⟩:=h3
      obtain ⟨_,l,v',M2,q3,q4,q5,q6⟩:=q
      have had:=hdef h2.1.1 (hbn q5)
      show LeavesIn (fence P none) 0 P fn a'.tmps R a'.defers (.panicking [{ v:=x,recovered:=false }]) w'
      rw [had]
      rw [q0] at q3
      rw [Bool.and_eq_true] at q5
      rw [q4] at hx
      exact ⟨.pan v',M2,_,q6,h1.re hent.np q3,x,rfl,hx.re q5.1⟩
  · have core:∀ (um:FrameMode) (xv:Value),(um=.returning∧xv=.nilIface)∨um=.panicking [{ v:=xv,recovered:=false }]→Val e' u xv→(∀ t,pin.contains t=true→Val e' (E'.v t) (a'.tmps.getD t undef))→okO e' M' ⟨aD,vc,[],none⟩ →
        LeavesIn (fence P none) 0 P fn a'.tmps R [dfd fc aD] um w':=by
      intro um xv hum hxv hpin hoc
      refine ⟨by rcases hum with ⟨rfl,_⟩ | rfl <;> simp,fun h=>by simp at h,.func fc,aD.tmps,fc,#[]++aD.tmps,rfl,?_,?_,?_⟩
      · have hnm' : ¬ fnc.name = "runtime.NumGoroutine" := by simpa using hnm
        simp [dfd,invoke,callFunc,hfc,hbc,hnm']
      · intro g hg
        simp [dfd,Target.leads] at hg
        subst hg
        exact Option.isSome_iff_exists.2 ⟨_,hfc⟩
      · refine callsDIn_of_wpSIn hfc hbc (Option.isSome_iff_exists.2 ⟨_,hfc⟩) fun c₀ cs hmode=>?_
        refine wpSIn_seq (wpSIn_region ?_)
        have hcs:∃ cs' u',cs'.length=cs.length+1∧cs'={ c₀ with mode:=u' }::cs∧settle u'=.returning∧((recoverD (c₀::cs)=some (xv,cs'))∨(recoverD (c₀::cs)=none∧xv=.nilIface∧cs'=c₀::cs)):=by
          rcases hum with ⟨rfl,rfl⟩ | rfl
          · refine ⟨c₀::cs,.returning,rfl,?_,rfl,.inr ⟨by simp [recoverD,hmode],rfl,rfl⟩⟩
            rw [← hmode]
          · exact ⟨{ c₀ with mode:=.panicking [{ v:=xv,recovered:=true }] }::cs,_,rfl,rfl,rfl,.inl (by simp [recoverD,hmode])⟩
        obtain ⟨cs',u',hlen',hcs',hset,hrec⟩:=hcs
        have key:(Exit.thenS (Code.wpSIn (fence P none) (0 - 1) P rest (bodyPostS P fnc c₀ cs fun x u' w'=>match x with
            | .returned _=>LeavesIn (fence P none) 0 P fn a'.tmps R [] (settle u') w'
            | .panicked chain=>LeavesIn (fence P none) 0 P fn a'.tmps R [] (raised u' chain) w'
            | .outgrown=>R .outgrown w')) (bodyPostS P fnc c₀ cs fun x u' w'=>match x with
            | .returned _=>LeavesIn (fence P none) 0 P fn a'.tmps R [] (settle u') w'
            | .panicked chain=>LeavesIn (fence P none) 0 P fn a'.tmps R [] (raised u' chain) w'
            | .outgrown=>R .outgrown w')) .normal (({ tmps:=(#[]++aD.tmps)++Array.replicate (fnc.ntmps - (#[]++aD.tmps).size) undef,defers:=[] }:Act).put (some d0) xv |>.put (some d1) xv) cs' w':=by
          have hd3:=hd
          simp only [Bool.and_eq_true,Nat.ble_eq] at hd3
          have hsame:∀ t,((#[]++aD.tmps)++Array.replicate (fnc.ntmps - (#[]++aD.tmps).size) undef).getD t undef=aD.tmps.getD t undef:=by
            intro t
            simp only [Array.getD_eq_getD_getElem?,Array.empty_append]
            by_cases ht:t<aD.tmps.size
            · rw [Array.getElem?_append_left ht]
            · rw [Array.getElem?_append_right (by omega)]
              rw [Array.getElem?_eq_none (show aD.tmps.size≤t by omega)]
              by_cases h4:t - aD.tmps.size<fnc.ntmps - aD.tmps.size
              · rw [Array.getElem?_replicate,if_pos h4];rfl
              · rw [Array.getElem?_replicate,if_neg h4]
          let aF:Act:={ tmps:=a'.tmps,defers:=[] }
          have hemb0:Emb ntc e' M' ⟨vc,[],[⟨aF,fun t=>if pin.contains t then E'.v t else .any,[],none⟩],[]⟩ { tmps:=(#[]++aD.tmps)++Array.replicate (fnc.ntmps - (#[]++aD.tmps).size) undef,defers:=[] }:=by
            refine ⟨by simp [hntc,hsz];omega,fun t=>?_,⟨[],rfl,rfl⟩,fun p hp=>?_⟩
            · show Val e' (vc t) (((#[]++aD.tmps)++Array.replicate (fnc.ntmps - (#[]++aD.tmps).size) undef).getD t undef)
              rw [hsame]
              exact hoc.v t
            · simp only [List.mem_singleton] at hp
              subst hp
              refine ⟨fun t=>?_,rfl,fun i l hil=>by cases hil⟩
              show Val e' (if pin.contains t then E'.v t else .any) (a'.tmps.getD t undef)
              by_cases hp:pin.contains t=true
              · rw [if_pos hp];exact hpin t hp
              · rw [if_neg hp];simp [Val]
          have hemb2:=(hemb0.put hd3.1.1 hxv).put hd3.1.2 hxv
          refine wpSIn_of_wpIn rfl (Go.wpIn_mono (hk aF _ w' e' h1 hemb2) fun x2 a3 w3 k3=>?_)
          obtain ⟨y2,E3,M3,e3,⟨hy,hdb,vF,ho3,hB⟩,g1,g2,g3⟩:=k3
          have fin3:Emb ntc e3 M3 E3 a3→a3.defers=[]∧∃ u'',cs'={ c₀ with mode:=u'' }::cs∧∃ v,(results fnc a3.tmps).run P w3=.ok v w3∧LeavesIn (fence P none) 0 P fn a'.tmps R [] (settle u'') w3:=by
            intro g2
            have hd4:=g2.d
            rw [(Prod.mk.inj hdb).1,(Prod.mk.inj hdb).2] at hd4
            have hp:=g2.o ⟨aF,vF,[],none⟩ (by rw [ho3];simp)
            refine ⟨marksB.nil.1 hd4,u',hcs',.tuple #[],by simp [results,hrc],?_⟩
            rw [hset]
            exact hfinR (E1:=⟨vF,[],[],[]⟩) (am:=aF) g1 hp.v rfl hB
          rcases hy with rfl | rfl
          · cases g3;exact fin3 g2
          · cases g3;exact fin3 g2
        have hds:d0<({ tmps:=(#[]++aD.tmps)++Array.replicate (fnc.ntmps - (#[]++aD.tmps).size) undef,defers:=[] }:Act).tmps.size:=by
          simp only [Bool.and_eq_true,Nat.blt_eq,Nat.ble_eq] at hd
          simp
          omega
        refine wpOps_recover (cs':=cs') (xv:=xv) hds ?_ key
        rcases hrec with h | ⟨h,g1,g2⟩
        · exact .inl h
        · exact .inr ⟨h,g1,g2⟩
    have hdef:marksB e' M' E'.b E'.d a'.defers→a'.defers=[dfd fc aD]:=by
      rintro ⟨r,g1,g2⟩
      rw [hd0] at g2
      have:r=[]:=g2
      subst this
      rw [g1,hbD]
      rfl
    rcases hu with rfl | ⟨hy,rfl⟩
    · obtain ⟨x,rfl,hx⟩:=h3
      show LeavesIn (fence P none) 0 P fn a'.tmps R a'.defers (.panicking [{ v:=x,recovered:=false }]) w'
      rw [hdef h2.1.1]
      exact core _ x (.inr rfl) hx h2.1.2 (h2.2 _ (by rw [hoD];simp))
    · rcases hy with rfl | rfl
      · cases h3
        show LeavesIn (fence P none) 0 P fn a'.tmps R a'.defers .returning w'
        rw [hdef (Emb.d h2)]
        exact core _ _ (.inl ⟨rfl,rfl⟩) rfl (fun t _=>Emb.v h2 t) (Emb.o h2 _ (by rw [hoD];simp))
      · cases h3
        show LeavesIn (fence P none) 0 P fn a'.tmps R a'.defers .returning w'
        rw [hdef (Emb.d h2)]
        exact core _ _ (.inl ⟨rfl,rfl⟩) rfl (fun t _=>Emb.v h2 t) (Emb.o h2 _ (by rw [hoD];simp))
end
section
variable {P:Program} {E:Env} {M:Mem} {ty t yt:TypeId} {x:Operand}
theorem g_iface {op:BinOp} {t:TypeId} {x y:Operand} {u:TypeId} {a v:Value}:eqGuard op t x y (.iface u a) v=pure ():=by cases op <;> rfl
theorem g_nilc {op:BinOp} {t:TypeId} {x:Operand} {c:Value}:eqGuard op t x (.const c) .nilIface .nilIface=pure ():=by cases op <;> cases x <;> rfl
theorem q_neqIfc {u:TypeId} {a:AVal} (ht:P.underlying t=some (.interface (P.methodsAt t))) (hx:E.ev x=.ifc u a):Quiet P (.binOp .neq t x (.const .nilIface) yt) ty E M [] (.lit (.bool true)) :=
  fun _ _ ac _ _ _ he=>⟨.bool true,by simp [Val],fun w _=>by
    have hv:=he.ev x;rw [hx] at hv;simp only [Val] at hv
    obtain ⟨y,hy,_⟩:=hv
    simp only [exec1,execOp,hy,g_iface,eval_const,Sem.run_bind,Sem.run_pure,Result.andThen,run_neq_held_nil _ _ _ _ ht]⟩
theorem q_neqNilIfc (ht:P.underlying t=some (.interface (P.methodsAt t))) (hx:E.ev x=.lit .nilIface):Quiet P (.binOp .neq t x (.const .nilIface) yt) ty E M [] (.lit (.bool false)) :=
  fun _ _ ac _ _ _ he=>⟨.bool false,by simp [Val],fun w _=>by
    have hv:=he.ev x;rw [hx] at hv;simp only [Val] at hv
    simp only [exec1,execOp,hv,g_nilc,eval_const,Sem.run_bind,Sem.run_pure,Result.andThen,run_neq_nil_nil _ _ ht]⟩
theorem q_assertIs {u T:TypeId} {a:AVal} (h:Conc P T) (hx:E.ev x=.ifc T a):Quiet P (.typeAssert x u T true) ty E M [] (.tup [a,.lit (.bool true)]) :=
  fun _ _ ac w e hh he=>by
    have hv:=he.ev x;rw [hx] at hv;simp only [Val] at hv
    obtain ⟨y,hy,hya⟩:=hv
    obtain ⟨d,h1,h2⟩:=h.h
    refine ⟨.tuple #[y,.bool true],⟨[y,.bool true],by simp,by simp [Vals,Val,hya]⟩,fun w1 _=>?_⟩
    cases d <;> first | exact h2.elim | simp [exec1,execOp,hy,Instr.typeAssert,run_underlying h1]
end
set_option linter.unusedSectionVars false
section
variable {P:Program} {K V:Type} [DecidableEq K] {fk:K→Value} {fv:V→Value} {kt:TypeId}
variable {ty:TypeId} {E:Env} {M:Mem}
theorem vals_lit {e:Nv}:∀ {l:List Value} {vs:List Value},Vals e (l.map AVal.lit) vs→vs=l
  | [],vs,h=>by simpa [Vals] using h
  | x::l,vs,h=>by
    simp only [List.map_cons,Vals,Val] at h
    obtain ⟨v,ws,rfl,rfl,h⟩:=h
    rw [vals_lit h]
end
def Rd.orIs {α:Type} (R:Rd α) (v:Value) (hv:v.oneCell'=true) (h1:R.sz=1):Rd (Option α) where
  sz:=1
  ok m d cs:=match d with | some d=>R.ok m d cs | none=>cs=[v]
  mono {m m' d cs} hm h:=by cases d with | none=>exact h | some d=>exact R.mono hm h
  len {m d cs} h:=by cases d with | none=>simp [show cs=[v] from h] | some d=>rw [R.len h,h1]
  one {m d cs} h:=by
    cases d with
    | none=>intro u hu;rw [show cs=[v] from h] at hu;simp at hu;rw [hu];exact hv
    | some d=>exact R.one h
section
variable {α:Type} {R:Rd α} {v:Value} {hv:v.oneCell'=true} {h1:R.sz=1} {m:Ro}
theorem rows_orIs:∀ {l:List α} {cs:List Value},rows R m l cs→rows (R.orIs v hv h1) m (l.map some) cs
  | [],_,_=>trivial
  | d::l,cs,h=>by
    refine ⟨?_,rows_orIs ?_⟩
    · have:=h.1;rw [h1] at this;exact this
    · have:=h.2;rw [h1] at this;exact this
theorem rows_orIs':∀ {l:List α} {x:List (Option α)} {cs:List Value},rows (R.orIs v hv h1) m (l.map some++x) cs→rows R m l cs
  | [],_,_,_=>trivial
  | d::l,x,cs,h=>by
    refine ⟨?_,rows_orIs' (x:=x) ?_⟩
    · rw [h1];exact h.1
    · rw [h1];exact h.2
theorem rows_orIs_last {l:List α} {cs:List Value} (h:rows (R.orIs v hv h1) m (l.map some++[none]) cs):cs[l.length]? = some v:=by
  have:=rows_get (i:=l.length) (d:=none) h (by rw [List.getElem?_append_right (by simp)];simp)
  have h2:(cs.drop (l.length*1)).take 1=[v]:=this
  rw [Nat.mul_one] at h2
  have h3:=congrArg (fun x=>x[0]?) h2
  simpa [List.getElem?_take,List.getElem?_drop] using h3
theorem rows_orIs_all:∀ {l:List α} {cs:List Value},rows R m l cs→cs[l.length]? = some v→rows (R.orIs v hv h1) m (l.map some++[none]) cs
  | [],cs,_,h=>by
    refine ⟨?_,trivial⟩
    cases cs with
    | nil=>simp at h
    | cons c cs=>simp at h;subst h;rfl
  | d::l,cs,h,hl=>by
    refine ⟨?_,rows_orIs_all ?_ ?_⟩
    · have:=h.1;rw [h1] at this;exact this
    · have:=h.2;rw [h1] at this;exact this
    · show (cs.drop 1)[l.length]? = some v
      rw [List.getElem?_drop,Nat.add_comm];simpa using hl
end
section
variable {P:Program} {cx:Cx} {fr:Fr} {nt:Nat} {E E':Env} {M M':Mem} {ty:TypeId} {e:Nv} {w:World} {α:Type} {R:Rd α} {l:List α} {a:AVal} {t:TypeId} {i:Nat}
theorem Hold.tell (h:Hold cx e M w) {c:Chunk} (hi:i<e.n) (hl:c.live e i→(M.at_ i).live e i) (hc:c.ok e w i) (hm:c.mark=false):Hold cx e (M.set i c) w:=by
  have lv:∀ j,((M.set i c).at_ j).live e j→(M.at_ j).live e j:=by
    intro j hj
    rw [Mem.set_at] at hj
    split at hj
    · rename_i hji;subst hji;exact hl hj
    · exact hj
  have mk:∀ j,((M.set i c).at_ j).mark=true→(M.at_ j).mark=true:=by
    intro j hj
    rw [Mem.set_at] at hj
    split at hj
    · rw [hm] at hj;cases hj
    · exact hj
  refine ⟨h.bm,h.n,h.size,h.os,h.tape,h.output,h.frame,h.ro,h.bro,h.m0,h.mnew,?_,fun j hj hlj=>h.live j hj (lv j hlj),fun j k hj hk hlj hlk=>h.dist j k hj hk (lv j hlj) (lv k hlk),h.np,h.pin,
    ⟨fun j hj hmj=>h.bag.nodup j hj (mk j hmj),fun j hj hmj=>h.bag.at_ j hj (mk j hmj),fun j hj hmj x hx k hk hlk=>h.bag.own j hj (mk j hmj) x hx k hk (lv k hlk),fun j k hj hk hmj hmk=>h.bag.dist j k hj hk (mk j hmj) (mk k hmk)⟩⟩
  intro j hj
  rw [Mem.set_at]
  split
  · rename_i hji;subst hji;exact hc
  · exact h.ch j hj
theorem rowt_row (h:Chunk.ok e w i (.rowt t R l a)):∃ v,∃ hv:v.oneCell'=true,∃ h1:R.sz=1,Val e a v∧e.vir i=false∧Chunk.ok e w i (.row t (R.orIs v hv h1) (l.map some++[none])):=by
  obtain ⟨g1,g2,g3,g4,g5,c,z,g6,g7,g8,g9,v,g10,g11,g12⟩:=h
  refine ⟨v,g12,g5,g11,g1,by simp [g2],by simp;omega,g4,?_⟩
  rw [g1]
  simp only [Bool.false_eq_true,if_false]
  exact ⟨c,z,g6,g7,by rw [g8];exact (Nat.mul_one _).symm,rows_orIs_all g9 g10⟩
theorem row_rowt {v:Value} {hv:v.oneCell'=true} {h1:R.sz=1} (hvir:e.vir i=false) (ha:Val e a v) (h:Chunk.ok e w i (.row t (R.orIs v hv h1) (l.map some++[none]))):Chunk.ok e w i (.rowt t R l a):=by
  obtain ⟨g1,g2,g3,g4⟩:=h
  rw [hvir] at g4
  simp only [Bool.false_eq_true,if_false] at g4
  obtain ⟨c,z,g5,g6,g7,g8⟩:=g4
  simp only [List.length_append,List.length_map,List.length_cons,List.length_nil,Nat.zero_add] at g1 g2
  exact ⟨hvir,g1,g2,g3,h1,c,z,g5,g6,by rw [g7];exact Nat.mul_one _,rows_orIs' g8,v,rows_orIs_last g8,ha,hv⟩
theorem set_self_at (M:Mem) (i:Nat) (c:Chunk):(M.set i c).at_ i=c:=by rw [Mem.set_at,if_pos rfl]
theorem q_len_rowt {el ct:TypeId} {n:Nat} {x:Operand} (h:SlIs P t el n) (hx:E.ev x=.whole i) (hc:M.at_ i=.rowt ct R l a) :
    Quiet P (.call { callee:=.builtin .len,args:=#[x],argTypes:=#[t] }) ty E M [] (.lit (.int .i64 ((l.length+1:Nat):Int))) :=
  fun cx nt ac w e hh he=>by
    have hv:=he.ev x;rw [hx] at hv;simp only [Val] at hv
    have hk:=hh.ch i hv.1;rw [hc] at hk
    obtain ⟨v,hv1,h1,hva,hvir,hok⟩:=rowt_row hk
    have hh':=hh.tell hv.1 (fun _=>by rw [hc];trivial) hok rfl
    have:=q_len_row (P:=P) (ty:=ty) (E:=E) h hx (set_self_at M i _) cx nt ac w e hh' he.mem
    simpa using this
theorem q_index_rowt {el:TypeId} {x y:Operand} {k:IntKind} {j:Int} {ct:TypeId} (h:SlIs P t el 1) (hx:E.ev x=.whole i) (hc:M.at_ i=.rowt ct R l a) (hy:E.ev y=.lit (.int k j)) (hd:decide (j=(l.length:Int))=true) :
    Quiet P (.indexAddr t x y) ty E M [] (.ptr i l.length) :=
  fun cx nt ac w e hh he=>by
    have hd':=of_decide_eq_true hd
    subst hd'
    have hv:=he.ev x;rw [hx] at hv;simp only [Val] at hv
    have hk:=hh.ch i hv.1;rw [hc] at hk
    obtain ⟨v,hv1,h1,hva,hvir,hok⟩:=rowt_row hk
    have hh':=hh.tell hv.1 (fun _=>by rw [hc];trivial) hok rfl
    have:=q_index_row (P:=P) (ty:=ty) (E:=E) h hx (set_self_at M i _) hy (by simp [ix]) cx nt ac w e hh' he.mem
    simpa using this
theorem q_load_rowt {ct:TypeId} {x:Operand} (ht:Sc P t) (hx:E.ev x=.ptr i l.length) (hc:M.at_ i=.rowt ct R l a):Quiet P (.load t x) ty E M [i] a :=
  fun cx nt ac w e hh he=>by
    have hv:=he.ev x;rw [hx] at hv;simp only [Val] at hv
    have hk:=hh.ch i hv.1;rw [hc] at hk
    obtain ⟨g1,g2,g3,g4,g5,c,z,g6,g7,g8,g9,v,g10,g11,g12⟩:=hk
    refine ⟨v,g11,fun w1 hw=>?_⟩
    have h2:w1.cell? ⟨e.own i,l.length,none⟩=some v:=by
      have h3:w1.heap[e.own i]? = some (.cells c ct z):=by rw [hw.own i (by simp) hv.2.1];exact g6
      rw [cell_of h3];simpa using g10
    simp [exec1,execOp,hv.2.2,run_loadAt_sc ht h2]
theorem s_store_rowt {ct:TypeId} {x y:Operand} {b:AVal} (ht:SzIs P t 1) (hx:E.ev x=.ptr i l.length) (hc:M.at_ i=.rowt ct R l a) (hy:E.ev y=b) (hr:b.cells=some [b]):DoesS P (.store t x y) ty E M [i] (M.set i (.rowt ct R l b)) :=
  fun cx nt ac w e hh he=>by
    have hp:=he.ev x;rw [hx] at hp;simp only [Val] at hp
    have hk:=hh.ch i hp.1;rw [hc] at hk
    obtain ⟨g1,g2,g3,g4,g5,c,z,g6,g7,g8,g9,v,g10,g11,g12⟩:=hk
    have hb:=he.ev y;rw [hy] at hb
    obtain ⟨us,k1,k2,k3⟩:=cells_vals hb hr
    obtain ⟨u,ws,rfl,hu,hws⟩:∃ u ws,us=u::ws∧Val e b u∧Vals e [] ws:=by simpa only [Vals] using k2
    simp only [Vals] at hws;subst hws
    have hin:l.length<c.toList.length:=(List.getElem?_eq_some_iff.1 g10).1
    obtain ⟨w',hrun,h1,h2,h3,h4,h5,h6⟩:=run_storeCells_row (P:=P) [u] 0 l.length c.toList w (by simpa using g6) (by simpa [thaw] using g7) (by simp at hin ⊢;omega) k3
    refine ⟨w',e,?_,?_,⟨Nv.le.refl e,fun _=>Ro.le.refl _⟩,fun b _ hne=>h6 b (fun hb=>hne i (by simp) hp.1 (by rw [hc];trivial) hb.symm),by rw [h2];exact Nat.le_refl _⟩
    · simp [exec1,execOp,hp.2.2,Instr.storeAt,Instr.sureAddr,storeVar,ht.run,k1,hrun]
    · refine hh.change hp.1 (by rw [hc];trivial) h3 h4 h5 h2 h6 ⟨g1,g2,g3,g4,g5,_,_,h1,by simpa [thaw,setAt_length] using g7,by simp [setAt_length,g8],?_,u,?_,hu,k3 u (by simp)⟩
      · refine rows_cut g9 ?_
        simp only [setAt,Nat.add_zero,List.toList_toArray,g5,Nat.mul_one]
        rw [List.take_set_of_le (Nat.le_refl _)]
      · simp only [setAt,Nat.add_zero,List.toList_toArray]
        rw [List.getElem?_set_self hin]
theorem push_set (M:Mem) (b c:Chunk):(M.push b).set M.n c=M.push c:=by
  simp only [Mem.push,Mem.set]
  congr 1
  funext i
  cases Nat.beq i M.n <;> rfl
theorem d_buildTail {el:TypeId} {N:Nat} {x:Operand} {zs:List Value} {v:Value} (R:Rd α) (h1:R.sz=1) (h:LitIs P t el 1 zs) (hzl:Nat.beq zs.length 1=true) (hx:E.ev x=.lit v) (hv:v.oneCell'=true) (hN:M.n=N) :
    Does P (.buildSlice t 1 #[(0,x)]) ty E M [] (.whole N) (M.push (.rowt el R [] (.lit v))) :=
  fun cx nt ac w e hh he=>by
    have hz1:zs.length=1:=by simpa using hzl
    have hj:JoinRows (R.orIs v hv h1) [none] [.lit v]:=⟨rfl,fun e cs hk _=>⟨by
      have h2:=vals_lit (l:=[v]) hk
      subst h2;rfl,trivial⟩⟩
    have hf:fillA (placeAt 1) E (zerosA zs 1) [(0,x)]=some [.lit v]:=by
      obtain ⟨z,rfl⟩:∃ z,zs=[z]:=by
        match zs,hz1 with
        | [z],_=>exact ⟨z,rfl⟩
      simp only [fillA,placeAt,zerosA,hx,AVal.cells,AVal.one,hv]
      rfl
    obtain ⟨x',w',e',k1,k2,k3,k4,k5,k6⟩:=d_buildSlice (P:=P) (ty:=ty) (E:=E) (M:=M) (R:=R.orIs v hv h1) (len:=1) (N:=N) (ps:=#[(0,x)]) (l:=[.lit v]) (ds:=[none]) h rfl rfl rfl hzl hf hj rfl hN cx nt ac w e hh he
    have hNe:N<e'.n:=by simp only [Val] at k4;exact k4.1
    have hok:=k2.ch N hNe
    have hat:(M.push (.row el (R.orIs v hv h1) [none])).at_ N=.row el (R.orIs v hv h1) [none]:=by rw [Mem.push_at,if_pos hN.symm]
    rw [hat] at hok
    have hvir:e'.vir N=false:=by
      cases hvi:e'.vir N with
      | false=>rfl
      | true=>obtain ⟨_,_,_,g⟩:=hok;rw [hvi] at g;simp at g
    have k2':=k2.tell (c:=.rowt el R [] (.lit v)) hNe (fun _=>by rw [hat];exact hvir) (row_rowt (l:=[]) hvir (by simp [Val]) hok) rfl
    rw [← hN,push_set] at k2'
    exact ⟨x',w',e',k1,k2',k3,k4,k5,k6⟩
theorem d_appendTail {s x:Operand} {ct ct' tx el:TypeId} {bytes j N:Nat} (h:ApIs P t el 1 bytes) (hsx:SlIs P tx el 1) (hs:E.ev s=.whole i) (hc:M.at_ i=.row ct R l) (hct:ct=el) (hx:E.ev x=.whole j) (hcj:M.at_ j=.rowt ct' R [] a) (hij:Nat.beq i j=false)
    (hlim:decide ((l.length+1)*bytes≤140737488355328)=true) (hN:M.n=N) :
    Does P (.call { callee:=.builtin .append,args:=#[s,x],argTypes:=#[t,tx] }) ty E M [i] (.whole N) (((M.set j .gone).set i .gone).push (.rowt el R l a)) :=
  fun cx nt ac w e hh he=>by
    have hij':i≠j:=fun hE=>by subst hE;simp at hij
    have hvi:=he.ev s;rw [hs] at hvi;simp only [Val] at hvi
    have hvj:=he.ev x;rw [hx] at hvj;simp only [Val] at hvj
    have hkj:=hh.ch j hvj.1;rw [hcj] at hkj
    obtain ⟨v,hv1,h1,hva,hvirj,hokj⟩:=rowt_row hkj
    have hk:=hh.ch i hvi.1;rw [hc] at hk
    -- the row told otherwise
    have hoki:Chunk.ok e w i (.row ct (R.orIs v hv1 h1) (l.map some)):=by
      obtain ⟨g1,g2,g3,g4⟩:=hk
      refine ⟨by simpa using g1,by simpa using g2,g3,?_⟩
      cases hvir:e.vir i with
      | true=>rw [hvir] at g4;simp at g4;subst g4;rfl
      | false =>
        rw [hvir] at g4
        simp only [Bool.false_eq_true,if_false] at g4 ⊢
        obtain ⟨c,z,g5,g6,g7,g8⟩:=g4
        exact ⟨c,z,g5,g6,by rw [g7,h1];rfl,rows_orIs g8⟩
    have hh1:=hh.tell (c:=.row ct (R.orIs v hv1 h1) (l.map some)) hvi.1 (fun hl=>by rw [hc];exact hl) hoki rfl
    have hat1:(M.set i (.row ct (R.orIs v hv1 h1) (l.map some))).at_ j=.rowt ct' R [] a:=by rw [Mem.set_at,if_neg (Ne.symm hij')];exact hcj
    have hh2:=hh1.tell (c:=.row ct' (R.orIs v hv1 h1) [none]) hvj.1 (fun _=>by rw [hat1];trivial) hokj rfl
    have hati:((M.set i (.row ct (R.orIs v hv1 h1) (l.map some))).set j (.row ct' (R.orIs v hv1 h1) [none])).at_ i=.row ct (R.orIs v hv1 h1) (l.map some):=by
      rw [Mem.set_at,if_neg hij',Mem.set_at,if_pos rfl]
    obtain ⟨x',w',e',k1,k2,k3,k4,k5,k6⟩:=d_append (P:=P) (ty:=ty) (E:=E) (tx:=tx) (x:=x) (xs:=[none]) (N:=N) (R:=R.orIs v hv1 h1) h rfl hs hati hct (src_row hsx hx (set_self_at _ j _)) (by simpa using hlim) hN cx nt ac w e hh2 he.mem
    have hNe:N<e'.n:=by simp only [Val] at k4;exact k4.1
    have hmn:(((M.set i (.row ct (R.orIs v hv1 h1) (l.map some))).set j (.row ct' (R.orIs v hv1 h1) [none])).set i .gone).n=N:=hN
    have hat:((((M.set i (.row ct (R.orIs v hv1 h1) (l.map some))).set j (.row ct' (R.orIs v hv1 h1) [none])).set i .gone).push (.row el (R.orIs v hv1 h1) (l.map some++[none]))).at_ N=.row el (R.orIs v hv1 h1) (l.map some++[none]):=by
      rw [Mem.push_at,if_pos hmn.symm]
    have hok:=k2.ch N hNe
    rw [hat] at hok
    have hvir:e'.vir N=false:=by
      cases hvi:e'.vir N with
      | false=>rfl
      | true=>obtain ⟨_,_,_,g⟩:=hok;rw [hvi] at g;simp at g
    have k2':=k2.tell (c:=.rowt el R l a) hNe (fun _=>by rw [hat];exact hvir) (row_rowt hvir (hva.mono k3.1 k3.2) hok) rfl
    have hmn':=hmn
    rw [← hmn',push_set] at k2'
    have k2'':=k2'.drop j
    have hjN:j≠N:=by rw [← hN,← hh.n];omega
    have heq:((((M.set i (.row ct (R.orIs v hv1 h1) (l.map some))).set j (.row ct' (R.orIs v hv1 h1) [none])).set i .gone).push (.rowt el R l a)).set j .gone=((M.set j .gone).set i .gone).push (.rowt el R l a):=by
      simp only [Mem.set,Mem.push]
      congr 1
      funext q
      have hjN':Nat.beq j M.n=false:=nbeq_false (by rw [hN];exact hjN)
      by_cases hq:q=j
      · subst hq
        simp [hjN',nbeq_false (Ne.symm hij')]
      · simp only [nbeq_false hq,Bool.false_eq_true,if_false]
        by_cases e2:Nat.beq q i=true
        · simp only [e2,if_true]
        · simp only [e2,Bool.false_eq_true,if_false]
    rw [heq] at k2''
    refine ⟨x',w',e',k1,k2'',k3,k4,fun b hb hne=>k5 b hb fun q hq hqn hql=>hne q hq hqn ?_,k6⟩
    simp only [List.mem_singleton] at hq;subst hq
    rw [hati] at hql
    rw [hc];exact hql
theorem Hold.virT (hh:Hold cx e M w) {β:Type} {S:Rd β} {ct:TypeId} {N:Nat} (hN:M.n=N) (hi:i<e.n) (hc:M.at_ i=.rowt t R l (.lit (.slice none 0 0))):Hold cx (e.bump 0 0 0 true) ((M.push (.row ct S [])).set i (.rowt t R l (.whole N))) w:=by
  have hb:=hh.bindVir (t:=ct) (R:=S)
  have hiN:i≠M.n:=by rw [← hh.n];omega
  have hat:(M.push (.row ct S [])).at_ i=.rowt t R l (.lit (.slice none 0 0)):=by rw [Mem.push_at,if_neg hiN];exact hc
  have hi':i<(e.bump 0 0 0 true).n:=Nat.lt_succ_of_lt hi
  refine hb.tell hi' (fun _=>by rw [hat];trivial) ?_ rfl
  have hk:=hb.ch i hi'
  rw [hat] at hk
  obtain ⟨g1,g2,g3,g4,g5,c,z,g6,g7,g8,g9,v,g10,g11,g12⟩:=hk
  refine ⟨g1,g2,g3,g4,g5,c,z,g6,g7,g8,g9,v,g10,?_,g12⟩
  simp only [Val] at g11
  subst g11
  simp only [Val,Nv.bump,← hN,← hh.n,if_true]
  exact ⟨Nat.lt_succ_self _,Nat.le_refl _,trivial,trivial⟩
theorem CvL.virT {β:Type} (ct:TypeId) (S:Rd β) {N:Nat} (hN:M.n=N) (hi:Nat.blt i N=true) (hc:M.at_ i=.rowt t R l (.lit (.slice none 0 0))) :
    CvL cx nt E M E ((M.push (.row ct S [])).set i (.rowt t R l (.whole N))) :=
  fun a w e hh he=>⟨_,hh.virT hN (by rw [hh.n,hN];simpa using hi) hc,he.mono (e.bump_le 0 0 0 true) (fun b=>e.bump_mem 0 0 0 true b),e.bump_le 0 0 0 true⟩
theorem Cv.virT {β:Type} (ct:TypeId) (S:Rd β) {N:Nat} (hN:M.n=N) (hi:Nat.blt i N=true) (hc:M.at_ i=.rowt t R l (.lit (.slice none 0 0))) :
    Cv cx nt E M E ((M.push (.row ct S [])).set i (.rowt t R l (.whole N))):=CvL.cv (CvL.virT ct S hN hi hc)
theorem CvL.rowOf {d:α} (hi:Nat.blt i M.n=true) (hc:M.at_ i=.rowt t R l (.ro R false d)):CvL cx nt E M E (M.set i (.row t R (l++[d]))) :=
  fun a w e hh he=>by
    have hi':i<e.n:=by rw [hh.n];simpa using hi
    refine ⟨e,hh.tell hi' (fun _=>by rw [hc];trivial) ?_ rfl,he.mem,Nv.le.refl e⟩
    have hk:=hh.ch i hi';rw [hc] at hk
    obtain ⟨g1,g2,g3,g4,g5,c,z,g6,g7,g8,g9,v,g10,g11,g12⟩:=hk
    refine ⟨by simpa using g2,by simpa using g3,g4,?_⟩
    rw [g1]
    simp only [Bool.false_eq_true,if_false]
    refine ⟨c,z,g6,g7,by rw [g8,g5,Nat.mul_one],?_⟩
    simp only [Val,Nv.mem_false] at g11
    have key:∀ (l:List α) (cs:List Value),rows R e.m l cs→cs[l.length]? = some v→rows R e.m (l++[d]) cs:=by
      intro l
      induction l with
      | nil =>
        intro cs _ h
        cases cs with
        | nil=>simp at h
        | cons c cs=>simp at h;subst h;exact ⟨by rw [g5];exact g11,trivial⟩
      | cons x l ih =>
        intro cs h h2
        refine ⟨h.1,ih _ h.2 ?_⟩
        rw [g5,List.getElem?_drop,Nat.add_comm];simpa using h2
    exact key l c.toList g9 g10
theorem Cv.rowOf {d:α} (hi:Nat.blt i M.n=true) (hc:M.at_ i=.rowt t R l (.ro R false d)):Cv cx nt E M E (M.set i (.row t R (l++[d]))):=CvL.cv (CvL.rowOf hi hc)
end
def cntByte (s:ByteArray) (c:Int):Int:=s.foldl (fun n x=>if x==c.toNat.toUInt8 then n+1 else n) (0:Int)
theorem q_countString {P:Program} {E:Env} {M:Mem} {ty:TypeId} {f:FuncId} {fo:Operand} {tys:Array TypeId} {x y:Operand} {s:ByteArray} {c:Int} (hfn:ExtIs P f Extern.BytealgCount.count) (hcal:E.ev fo=.fn f []) (hx:E.ev x=.lit (.string s)) (hy:E.ev y=.lit (.int .u8 c)) :
    Quiet P (.call { callee:=.value fo,args:=#[x,y],argTypes:=tys }) ty E M [] (.lit (.int .i64 (cntByte s c))) :=
  fun cx nt a w e hh he=>⟨.int .i64 (cntByte s c),by simp [Val],fun w1 hw=>run_ext hfn (fn_eval he hcal) (by
    simp only [List.map_toArray,List.map_cons,List.map_nil,ev_lit he hx,ev_lit he hy]
    have hdef:Extern.BytealgCount.count #[.string s,.int .u8 c] =
      (do
        let b ← Extern.Bytes.bytesOf (.string s)
        let c ← Extern.Bytes.asByte (.int .u8 c)
        pure (goInt (b.foldl (fun n x=>if x==c then n+1 else n) ((0:Nat):Int)))):=rfl
    rw [hdef]
    simp [Extern.Bytes.bytesOf,Extern.Bytes.asByte,cntByte,goInt])⟩
theorem ltF {a b:Int} (h:decide (a≤b)=true):decide (b<a)=false:=by simp at h ⊢;omega
theorem ltT {a b:Int} (h:decide (a≤b)=false):decide (b<a)=true:=by simp at h ⊢;omega
def both {α:Type} [DecidableEq α] (a b:Option α):Option α:=a.bind fun x=>b.bind fun y=>if x=y then some x else none
theorem both1 {α:Type} [DecidableEq α] {a b:Option α} {r:α} (h:both a b=some r):a=some r:=by
  unfold both at h
  cases a with
  | none=>cases h
  | some x =>
    cases b with
    | none=>cases h
    | some y =>
      simp only [Option.bind_some] at h
      split at h
      · exact h
      · cases h
theorem both2 {α:Type} [DecidableEq α] {a b:Option α} {r:α} (h:both a b=some r):b=some r:=by
  unfold both at h
  cases a with
  | none=>cases h
  | some x =>
    cases b with
    | none=>cases h
    | some y =>
      simp only [Option.bind_some] at h
      split at h
      · rename_i e;rw [← e];exact h
      · cases h
section
variable {P:Program} {cx:Cx} {fr:Fr} {ops:Array Oper} {os:List Oper} {E:Env} {M:Mem} {Q:Ex→Env→Mem→Prop} {ty:TypeId} {pos:String} {after:Array Edge}
theorem WPL.openInt {g d:Nat} {t:TypeId} (hg:opens.contains g=true) (ht:Sc P t) (hd:Nat.blt d fr.nt=true) (k:∀ x:Int,Open1 cx.m0 g x→WPL P cx fr ops os (E.upd d (.lit (.int .i64 x))) M Q) :
    WPL P cx fr ops ({ dst:=some d,op:=.load t (.global g),type:=ty,pos:=pos,after:=after,guard:=Option.none }::os) E M Q:=by
  intro a w e hh he
  obtain ⟨x,hx⟩:=cx.op g hg
  have hx':=hx
  obtain ⟨c,tt,z,h1,h2⟩:=hx'
  have hb:w.heap[g]? = some (.cells c tt z):=hh.ro _ _ (hh.m0 _ _ h1)
  have hc:w.cell? ⟨g,0,none⟩=some (.int .i64 x):=by rw [cell_of hb];simpa using h2
  have hg':a.eval (.global g)=.pointer (some ⟨g,0,Option.none⟩):=rfl
  have hr:(exec1 a.eval (.load t (.global g)) ty).run P w=.ok (.value (.int .i64 x)) w:=by simp [exec1,execOp,hg',run_loadAt_sc ht hc]
  unfold wpListIn
  rw [if_pos (show Region.wanted _ _=true from rfl)]
  refine ⟨about_some hr,?_⟩
  rw [semAt_value hr]
  exact k x hx _ w e hh (he.put hd (by simp [Val]))
theorem WPL.openSame {g d:Nat} {t:TypeId} {x:Int} (hx:Open1 cx.m0 g x) (ht:Sc P t) (hd:Nat.blt d fr.nt=true) (k:WPL P cx fr ops os (E.upd d (.lit (.int .i64 x))) M Q) :
    WPL P cx fr ops ({ dst:=some d,op:=.load t (.global g),type:=ty,pos:=pos,after:=after,guard:=Option.none }::os) E M Q:=by
  intro a w e hh he
  obtain ⟨c,tt,z,h1,h2⟩:=hx
  have hb:w.heap[g]? = some (.cells c tt z):=hh.ro _ _ (hh.m0 _ _ h1)
  have hc:w.cell? ⟨g,0,none⟩=some (.int .i64 x):=by rw [cell_of hb];simpa using h2
  have hg':a.eval (.global g)=.pointer (some ⟨g,0,Option.none⟩):=rfl
  have hr:(exec1 a.eval (.load t (.global g)) ty).run P w=.ok (.value (.int .i64 x)) w:=by simp [exec1,execOp,hg',run_loadAt_sc ht hc]
  unfold wpListIn
  rw [if_pos (show Region.wanted _ _=true from rfl)]
  refine ⟨about_some hr,?_⟩
  rw [semAt_value hr]
  exact k _ w e hh (he.put hd (by simp [Val]))
def ixStr (s u:ByteArray):Int:=match (List.range (s.size+1 - u.size)).find? fun i=>s.extract i (i+u.size)==u with
  | some i=>(i:Int)
  | none => -1
theorem run_globalAddr {n:String} {g:Nat} (h:P.globals.findIdx? (fun x=>x.name==n)=some g) (w:World):(globalAddr n).run P w=.ok ⟨g,0,none⟩ w:=by
  simp [globalAddr,h]
theorem WPL.indexString {g d f : Nat} {fo x y : Operand} {tys : Array TypeId} {s u : ByteArray} {n : Int} (hn : P.globals.findIdx? (fun x => x.name == "internal/bytealg.MaxLen") = some g) (ho : Open1 cx.m0 g n) (hfn : ExtIs P f Extern.BytealgIndex.index) (hcal : E.ev fo = .fn f [])
    (hx:E.ev x=.lit (.string s)) (hy:E.ev y=.lit (.string u)) (hle:decide (((u.size:Nat):Int)≤n)=true) (h2:decide (2≤u.size∧s.size<4294967281)=true) (hd:Nat.blt d fr.nt=true) (k:WPL P cx fr ops os (E.upd d (.lit (.int .i64 (ixStr s u)))) M Q) :
    WPL P cx fr ops ({ dst:=some d,op:=.call { callee:=.value fo,args:=#[x,y],argTypes:=tys },type:=ty,pos:=pos,after:=after,guard:=Option.none }::os) E M Q:=by
  intro a w e hh he
  obtain ⟨c,tt,z,h1,h3⟩:=ho
  have hb:w.heap[g]? = some (.cells c tt z):=hh.ro _ _ (hh.m0 _ _ h1)
  have hc:w.cell? ⟨g,0,none⟩=some (.int .i64 n):=by rw [cell_of hb];simpa using h3
  have hl:=of_decide_eq_true hle
  obtain ⟨g2,g3⟩:=of_decide_eq_true h2
  have hr:(exec1 a.eval (.call { callee:=.value fo,args:=#[x,y],argTypes:=tys }) ty).run P w=.ok (.value (.int .i64 (ixStr s u))) w:=run_ext hfn (fn_eval he hcal) (by
    simp only [List.map_toArray,List.map_cons,List.map_nil,ev_lit he hx,ev_lit he hy]
    have hdef:Extern.BytealgIndex.index #[.string s,.string u] =
      (do
        let a ← Extern.Bytes.bytesOf (.string s)
        let b ← Extern.Bytes.bytesOf (.string u)
        if b.size<2||(b.size:Int) > (← Extern.BytealgIndex.maxLen) then
          unsupported (.noEntry "extern/internal/bytealg.Index.length")
        if a.size≥2^32 - 15 then
          unsupported (.noEntry "extern/internal/bytealg.Index: a haystack of 2^32 - 15 bytes or more")
        match (List.range (a.size+1 - b.size)).find? fun i=>a.extract i (i+b.size)==b with
        | some i=>pure (goInt i)
        | none=>pure (goInt (-1))):=rfl
    rw [hdef]
    have hm:Extern.BytealgIndex.maxLen.run P w=.ok n w:=by
      simp only [Extern.BytealgIndex.maxLen,Sem.run_bind,run_globalAddr hn,Result.andThen,run_load,hc]
      simp [asInt,asIntOf]
    have e1:(decide (u.size<2)||decide ((u.size:Int) > n))=false:=by simp;omega
    have e2:¬ (s.size≥2^32 - 15):=by omega
    simp only [Extern.Bytes.bytesOf,Sem.run_bind,Sem.run_pure,Result.andThen,hm,e1,e2,if_false,ixStr,Bool.false_eq_true]
    cases h:(List.range (s.size+1 - u.size)).find? fun i=>s.extract i (i+u.size)==u with
    | some i=>simp [goInt]
    | none=>simp [goInt])
  unfold wpListIn
  rw [if_pos (show Region.wanted _ _=true from rfl)]
  refine ⟨about_some hr,?_⟩
  rw [semAt_value hr]
  exact k _ w e hh (he.put hd (by simp [Val]))
end
section
universe u
variable {P:Program} {E:Env} {M:Mem} {ty:TypeId}
theorem arrL_rep {α:Type u} {f:α→AVal} {d0:α} (m:Nat):∀ n k:Nat,arrL f d0 (List.replicate m d0) n k=List.replicate n (f d0)
  | 0,k=>rfl
  | n+1,k=>by
    rw [arrL,arrL_rep m n (k+1),List.replicate_succ,List.getD_eq_getElem?_getD]
    congr 2
    rw [List.getElem?_replicate]
    split <;> rfl
theorem setAt_all {α:Type u}:∀ (r p l:List α),l.length=r.length→setAt (p++l) p.length r=p++r
  | [],p,l,h=>by
    have:l=[]:=List.eq_nil_of_length_eq_zero h
    rw [this];rfl
  | x::r,p,[],h=>by simp at h
  | x::r,p,y::l,h=>by
    rw [setAt,show (p++y::l).set p.length x=(p++[x])++l by simp,show p.length+1=(p++[x]).length by simp,setAt_all r (p++[x]) l (by simpa using h)]
    simp
theorem d_alloc_arr {α:Type u} {f:α→AVal} {d0:α} {t:TypeId} {n m:Nat} {v0:Value} (hz:ZeroIs P t (List.replicate n v0)) (hf:f d0=.lit v0) (hn:M.n=m):Does P (.alloc t) ty E M [] (.ptr m 0) (M.push (.cells t (arrL f d0 (List.replicate n d0) n 0))):=by
  have:=d_alloc (E:=E) (ty:=ty) hz hn
  rwa [List.map_replicate,← hf,← arrL_rep n n 0] at this
theorem q_load_ag0 {α:Type u} {f:α→AVal} {d0:α} {xs:List α} {t ct:TypeId} {x:Operand} {i n:Nat} (ht:Ag P t n) (hx:E.ev x=.ptr i 0) (hc:M.at_ i=.cells ct (arrL f d0 xs n 0)):Quiet P (.load t x) ty E M [i] (.agg (arrL f d0 xs n 0)):=by
  have:=q_load_ag (ty:=ty) ht hx hc (by rw [Nat.zero_add,arrL_length];exact Nat.le_refl _)
  rwa [List.drop_zero,List.take_of_length_le (by rw [arrL_length];exact Nat.le_refl _)] at this
theorem s_store_ag0 {α:Type u} {f:α→AVal} {d0:α} {xs ys:List α} {t ct:TypeId} {x y:Operand} {i n:Nat} (ht:SzIs P t n) (hx:E.ev x=.ptr i 0) (hc:M.at_ i=.cells ct (arrL f d0 xs n 0)) (hr:E.ev y=.agg (arrL f d0 ys n 0)) :
    DoesS P (.store t x y) ty E M [i] (M.set i (.cells ct (arrL f d0 ys n 0))):=by
  have:=s_store (ty:=ty) ht hx hc (r:=arrL f d0 ys n 0) (by rw [hr];rfl) arrL_length (Nat.ble_eq_true_of_le (by rw [Nat.zero_add,arrL_length];exact Nat.le_refl _))
  have e:=setAt_all (arrL f d0 ys n 0) [] (arrL f d0 xs n 0) (by rw [arrL_length,arrL_length])
  rw [List.nil_append,List.nil_append,List.length_nil] at e
  rwa [e] at this
theorem s_store_arr0 {α:Type u} {f:α→AVal} {d0 v:α} {xs:List α} {n j i:Nat} {t ct:TypeId} {x y:Operand} (ht:SzIs P t 1) (hx:E.ev x=.ptr i (0+j*1)) (hc:M.at_ i=.cells ct (arrL f d0 xs n 0)) (hr:(E.ev y).cells=some [f v])
    (hj:decide (j<n)=true):DoesS P (.store t x y) ty E M [i] (M.set i (.cells ct (arrL f d0 (setD d0 xs n j v) n 0))):=by
  refine s_store_arr (off:=0) ht hx hc hr (by rw [List.drop_zero,List.take_of_length_le (Nat.le_of_eq arrL_length)]) ?_ hj (addone _ _)
  rw [List.take_zero,List.nil_append,Nat.zero_add,List.drop_of_length_le (Nat.le_of_eq arrL_length),List.append_nil]
theorem q_load_arr0 {α:Type u} {f:α→AVal} {d0:α} {xs:List α} {n j i:Nat} {t ct:TypeId} {x:Operand} (ht:Sc P t) (hx:E.ev x=.ptr i (0+j*1)) (hc:M.at_ i=.cells ct (arrL f d0 xs n 0)) (hj:decide (j<n)=true):Quiet P (.load t x) ty E M [i] (f (List.getD xs j d0)) :=
  q_load_arr (off:=0) ht hx hc (by rw [List.drop_zero,List.take_of_length_le (Nat.le_of_eq arrL_length)]) hj (addone _ _)
end
theorem j1 {α:Type} {a b:α} (h:some a=some b):a=b:=Option.some.inj h
theorem j2 {α0 α1:Type} {a0 b0:α0} {a1 b1:α1} (h:some (a0,a1)=some (b0,b1)):a0=b0∧a1=b1:=by
  cases h
  exact ⟨rfl,rfl⟩
theorem j3 {α0 α1 α2:Type} {a0 b0:α0} {a1 b1:α1} {a2 b2:α2} (h:some (a0,a1,a2)=some (b0,b1,b2)):a0=b0∧a1=b1∧a2=b2:=by
  cases h
  exact ⟨rfl,rfl,rfl⟩
theorem j4 {α0 α1 α2 α3:Type} {a0 b0:α0} {a1 b1:α1} {a2 b2:α2} {a3 b3:α3} (h:some (a0,a1,a2,a3)=some (b0,b1,b2,b3)):a0=b0∧a1=b1∧a2=b2∧a3=b3:=by
  cases h
  exact ⟨rfl,rfl,rfl,rfl⟩
theorem j5 {α0 α1 α2 α3 α4:Type} {a0 b0:α0} {a1 b1:α1} {a2 b2:α2} {a3 b3:α3} {a4 b4:α4} (h:some (a0,a1,a2,a3,a4)=some (b0,b1,b2,b3,b4)):a0=b0∧a1=b1∧a2=b2∧a3=b3∧a4=b4:=by
  cases h
  exact ⟨rfl,rfl,rfl,rfl,rfl⟩
theorem j6 {α0 α1 α2 α3 α4 α5:Type} {a0 b0:α0} {a1 b1:α1} {a2 b2:α2} {a3 b3:α3} {a4 b4:α4} {a5 b5:α5} (h:some (a0,a1,a2,a3,a4,a5)=some (b0,b1,b2,b3,b4,b5)):a0=b0∧a1=b1∧a2=b2∧a3=b3∧a4=b4∧a5=b5:=by
  cases h
  exact ⟨rfl,rfl,rfl,rfl,rfl,rfl⟩
theorem j7 {α0 α1 α2 α3 α4 α5 α6:Type} {a0 b0:α0} {a1 b1:α1} {a2 b2:α2} {a3 b3:α3} {a4 b4:α4} {a5 b5:α5} {a6 b6:α6} (h:some (a0,a1,a2,a3,a4,a5,a6)=some (b0,b1,b2,b3,b4,b5,b6)):a0=b0∧a1=b1∧a2=b2∧a3=b3∧a4=b4∧a5=b5∧a6=b6:=by
  cases h
  exact ⟨rfl,rfl,rfl,rfl,rfl,rfl,rfl⟩
theorem j9 {α0 α1 α2 α3 α4 α5 α6 α7 α8:Type} {a0 b0:α0} {a1 b1:α1} {a2 b2:α2} {a3 b3:α3} {a4 b4:α4} {a5 b5:α5} {a6 b6:α6} {a7 b7:α7} {a8 b8:α8} (h:some (a0,a1,a2,a3,a4,a5,a6,a7,a8)=some (b0,b1,b2,b3,b4,b5,b6,b7,b8)):a0=b0∧a1=b1∧a2=b2∧a3=b3∧a4=b4∧a5=b5∧a6=b6∧a7=b7∧a8=b8:=by
  cases h
  exact ⟨rfl,rfl,rfl,rfl,rfl,rfl,rfl,rfl,rfl⟩
theorem j14 {α0 α1 α2 α3 α4 α5 α6 α7 α8 α9 α10 α11 α12 α13:Type} {a0 b0:α0} {a1 b1:α1} {a2 b2:α2} {a3 b3:α3} {a4 b4:α4} {a5 b5:α5} {a6 b6:α6} {a7 b7:α7} {a8 b8:α8} {a9 b9:α9} {a10 b10:α10} {a11 b11:α11} {a12 b12:α12} {a13 b13:α13} (h:some (a0,a1,a2,a3,a4,a5,a6,a7,a8,a9,a10,a11,a12,a13)=some (b0,b1,b2,b3,b4,b5,b6,b7,b8,b9,b10,b11,b12,b13)):a0=b0∧a1=b1∧a2=b2∧a3=b3∧a4=b4∧a5=b5∧a6=b6∧a7=b7∧a8=b8∧a9=b9∧a10=b10∧a11=b11∧a12=b12∧a13=b13:=by
  cases h
  exact ⟨rfl,rfl,rfl,rfl,rfl,rfl,rfl,rfl,rfl,rfl,rfl,rfl,rfl,rfl⟩
theorem o3.{u,v,w} {p:Prop} {α:Sort u} {β:Sort v} {γ:Sort w} {a:α} {b:β} {c:γ}:p∨(a=a∧b=b∧c=c):=.inr ⟨rfl,rfl,rfl⟩
theorem r3.{u,v,w} {α:Sort u} {β:Sort v} {γ:Sort w} {a:α} {b:β} {c:γ}:a=a∧b=b∧c=c:=⟨rfl,rfl,rfl⟩
section
variable {P:Program} {cx:Cx} {fr:Fr} {ops:Array Oper} {E:Env} {M:Mem} {Q:Ex→Env→Mem→Prop}
theorem WPL.nx {next:Env→Mem→Prop} (h:next E M):WPL P cx fr ops [] E M (Then next Q):=WPL.nilW (W.now (Then.n h))
theorem WP.sr {id:Nat} {l:List Oper} {d:Code} (h:WPL P cx fr l.toArray l E M (Then (fun E M=>WP P cx fr d E M Q) Q)):WP P cx fr (.seq (.region id l.toArray false) d) E M Q:=WP.seq (WP.region h)
theorem LeE.u {l:List Nat} {n t:Nat} {E E':Env} {a:AVal} (k:LeE l n E E') (h:E.v t=a.ren (sub l):=by rfl) (hb:a.under n=true:=by rfl):LeE l n E (E'.upd t a):=LeE.upd h hb k
section
variable {os:List Oper} {op:Op} {ty:TypeId} {pos:String} {after:Array Edge} {dst:Nat} {v:AVal} {tc st:List Nat} {M':Mem}
theorem WPL.qq (h:Quiet P op ty E M st v) (k:WPL P cx fr ops os (E.upd dst v) M Q) (ht:Nat.blt dst fr.nt=true:=by rfl) :
    WPL P cx fr ops ({ dst:=some dst,op:=op,type:=ty,pos:=pos,after:=after,guard:=Option.none }::os) E M Q:=WPL.q h ht k
theorem WPL.gq {j t:Nat} {b:Bool} (hj:(ops[j]?).bind (·.dst)=some t) (hv:E.v t=.lit (.bool b)) (h:Quiet P op ty E M st v) (k:WPL P cx fr ops os (E.upd dst v) M Q) (htj:Nat.blt t fr.nt=true:=by rfl) (ht:Nat.blt dst fr.nt=true:=by rfl) :
    WPL P cx fr ops ({ dst:=some dst,op:=op,type:=ty,pos:=pos,after:=after,guard:=some (j,b) }::os) E M Q:=WPL.qg hj htj hv h ht k
theorem WPL.sg (b':Bool) {j t:Nat} {b:Bool} (hj:(ops[j]?).bind (·.dst)=some t) (hv:E.v t=.lit (.bool b')) (k:WPL P cx fr ops os (E.upd dst (.lit undef)) M Q) (htj:Nat.blt t fr.nt=true:=by rfl) (hne:(b'==b)=false:=by rfl) (ht:Nat.blt dst fr.nt=true:=by rfl)
    (hsk:SkipOkE P E op:=by first | exact .inl trivial | exact .inl (by simp only [SkipOk];kernel_rfl)) :
    WPL P cx fr ops ({ dst:=some dst,op:=op,type:=ty,pos:=pos,after:=after,guard:=some (j,b) }::os) E M Q:=WPL.skipg hj htj hv hne ht hsk k
variable {X:List Nat} {fuel:Nat} {listed:Array Bool}
theorem WPD.tT (i:Nat) (ho:ops[i]? = some { dst:=some dst,op:=op,type:=ty,pos:=pos,after:=after,guard:=Option.none }) (h:Quiet P op ty E M [] v)
    (k:WPD P cx fr ops st X fuel (listed.setIfInBounds i true) (E.upd dst v) M Q) (hb:takeTB ops X listed i=true:=by kernel_rfl) (ht:fr.okd dst=true:=by rfl):WPD P cx fr ops st X (fuel+1) listed E M Q:=WPD.takeT i ho hb h ht k
theorem WPD.ef (i:Nat) (st' X':List Nat) (ho:ops[i]? = some { dst:=some dst,op:=op,type:=ty,pos:=pos,after:=after,guard:=Option.none })
    (h:Runs P op ty E M tc v M') (k:WPD P cx fr ops st' X' fuel (listed.setIfInBounds i true) (E.upd dst v) M' Q) (hb:readyIs ops listed i=true:=by kernel_rfl)
    (hs:(X.contains i||(X'.all X.contains&&st.all fun j=>st'.contains j&&Nat.blt j M.n&&(M.at_ j).isOwn&&!(tc.contains j)))=true:=by rfl) (ht:Nat.blt dst fr.nt=true:=by rfl):WPD P cx fr ops st X (fuel+1) listed E M Q:=WPD.eff i st' X' ho hb h hs ht k
theorem WPD.ps (b':Bool) (i:Nat) {j t:Nat} {b:Bool} {d:Option Nat} (ho:ops[i]? = some { dst:=d,op:=op,type:=ty,pos:=pos,after:=after,guard:=some (j,b) })
    (hj:(ops[j]?).bind (·.dst)=some t) (hv:E.v t=.lit (.bool b')) (k:WPD P cx fr ops st X fuel (listed.setIfInBounds i true) (match (generalizing:=false) d with | some d=>E.upd d (.lit undef) | none=>E) M Q)
    (hb:takeTB ops X listed i=true:=by kernel_rfl) (htj:Nat.blt t fr.nt=true:=by rfl) (hne:(b'==b)=false:=by rfl)
    (hd:(match (generalizing:=false) d with | some d=>fr.okd d | none=>true)=true:=by rfl) (hsk:SkipOkE P E op:=by first | exact .inl trivial | exact .inl (by simp only [SkipOk];kernel_rfl)):WPD P cx fr ops st X (fuel+1) listed E M Q :=
  WPD.pass i ho hb hj htj hv hne (by cases d <;> exact hd) hsk (by cases d <;> exact k)
end
end
theorem AA1.{u0,v0,w0} {p0:Prop} {α0:Sort u0} {a0:α0} {β0:Sort v0} {b0:β0} {γ0:Sort w0} {c0:γ0}:True∧(p0∨(a0=a0∧b0=b0∧c0=c0)):=⟨trivial,o3⟩
theorem BB1.{u0} {α0:Sort u0} {a0:α0}:True∧a0=a0:=⟨trivial,rfl⟩
theorem AA2.{u0,v0,w0,u1,v1,w1} {p0:Prop} {α0:Sort u0} {a0:α0} {β0:Sort v0} {b0:β0} {γ0:Sort w0} {c0:γ0} {p1:Prop} {α1:Sort u1} {a1:α1} {β1:Sort v1} {b1:β1} {γ1:Sort w1} {c1:γ1}:(True∧(p0∨(a0=a0∧b0=b0∧c0=c0)))∧(p1∨(a1=a1∧b1=b1∧c1=c1)):=⟨⟨trivial,o3⟩,o3⟩
theorem BB2.{u0,u1} {α0:Sort u0} {a0:α0} {α1:Sort u1} {a1:α1}:(True∧a0=a0)∧a1=a1:=⟨⟨trivial,rfl⟩,rfl⟩
theorem AA3.{u0,v0,w0,u1,v1,w1,u2,v2,w2} {p0:Prop} {α0:Sort u0} {a0:α0} {β0:Sort v0} {b0:β0} {γ0:Sort w0} {c0:γ0} {p1:Prop} {α1:Sort u1} {a1:α1} {β1:Sort v1} {b1:β1} {γ1:Sort w1} {c1:γ1} {p2:Prop} {α2:Sort u2} {a2:α2} {β2:Sort v2} {b2:β2} {γ2:Sort w2} {c2:γ2}:((True∧(p0∨(a0=a0∧b0=b0∧c0=c0)))∧(p1∨(a1=a1∧b1=b1∧c1=c1)))∧(p2∨(a2=a2∧b2=b2∧c2=c2)):=⟨⟨⟨trivial,o3⟩,o3⟩,o3⟩
theorem AA7.{u0,v0,w0,u1,v1,w1,u2,v2,w2,u3,v3,w3,u4,v4,w4,u5,v5,w5,u6,v6,w6} {p0:Prop} {α0:Sort u0} {a0:α0} {β0:Sort v0} {b0:β0} {γ0:Sort w0} {c0:γ0} {p1:Prop} {α1:Sort u1} {a1:α1} {β1:Sort v1} {b1:β1} {γ1:Sort w1} {c1:γ1} {p2:Prop} {α2:Sort u2} {a2:α2} {β2:Sort v2} {b2:β2} {γ2:Sort w2} {c2:γ2} {p3:Prop} {α3:Sort u3} {a3:α3} {β3:Sort v3} {b3:β3} {γ3:Sort w3} {c3:γ3} {p4:Prop} {α4:Sort u4} {a4:α4} {β4:Sort v4} {b4:β4} {γ4:Sort w4} {c4:γ4} {p5:Prop} {α5:Sort u5} {a5:α5} {β5:Sort v5} {b5:β5} {γ5:Sort w5} {c5:γ5} {p6:Prop} {α6:Sort u6} {a6:α6} {β6:Sort v6} {b6:β6} {γ6:Sort w6} {c6:γ6}:((((((True∧(p0∨(a0=a0∧b0=b0∧c0=c0)))∧(p1∨(a1=a1∧b1=b1∧c1=c1)))∧(p2∨(a2=a2∧b2=b2∧c2=c2)))∧(p3∨(a3=a3∧b3=b3∧c3=c3)))∧(p4∨(a4=a4∧b4=b4∧c4=c4)))∧(p5∨(a5=a5∧b5=b5∧c5=c5)))∧(p6∨(a6=a6∧b6=b6∧c6=c6)):=⟨⟨⟨⟨⟨⟨⟨trivial,o3⟩,o3⟩,o3⟩,o3⟩,o3⟩,o3⟩,o3⟩
theorem AA8.{u0,v0,w0,u1,v1,w1,u2,v2,w2,u3,v3,w3,u4,v4,w4,u5,v5,w5,u6,v6,w6,u7,v7,w7} {p0:Prop} {α0:Sort u0} {a0:α0} {β0:Sort v0} {b0:β0} {γ0:Sort w0} {c0:γ0} {p1:Prop} {α1:Sort u1} {a1:α1} {β1:Sort v1} {b1:β1} {γ1:Sort w1} {c1:γ1} {p2:Prop} {α2:Sort u2} {a2:α2} {β2:Sort v2} {b2:β2} {γ2:Sort w2} {c2:γ2} {p3:Prop} {α3:Sort u3} {a3:α3} {β3:Sort v3} {b3:β3} {γ3:Sort w3} {c3:γ3} {p4:Prop} {α4:Sort u4} {a4:α4} {β4:Sort v4} {b4:β4} {γ4:Sort w4} {c4:γ4} {p5:Prop} {α5:Sort u5} {a5:α5} {β5:Sort v5} {b5:β5} {γ5:Sort w5} {c5:γ5} {p6:Prop} {α6:Sort u6} {a6:α6} {β6:Sort v6} {b6:β6} {γ6:Sort w6} {c6:γ6} {p7:Prop} {α7:Sort u7} {a7:α7} {β7:Sort v7} {b7:β7} {γ7:Sort w7} {c7:γ7}:(((((((True∧(p0∨(a0=a0∧b0=b0∧c0=c0)))∧(p1∨(a1=a1∧b1=b1∧c1=c1)))∧(p2∨(a2=a2∧b2=b2∧c2=c2)))∧(p3∨(a3=a3∧b3=b3∧c3=c3)))∧(p4∨(a4=a4∧b4=b4∧c4=c4)))∧(p5∨(a5=a5∧b5=b5∧c5=c5)))∧(p6∨(a6=a6∧b6=b6∧c6=c6)))∧(p7∨(a7=a7∧b7=b7∧c7=c7)):=⟨⟨⟨⟨⟨⟨⟨⟨trivial,o3⟩,o3⟩,o3⟩,o3⟩,o3⟩,o3⟩,o3⟩,o3⟩
end Go.Q
