/- Texts for LTreeMem, part 15. -/
import Derived.RangeFuncRecord
import Derived.RangeFuncLeaves
import Derived.Test.YtcamoanigdfihaaGreatQm14
namespace Go.V
def RfSt(l:Nat)(rf:Loop)(st:LoopState)(p:Option Code)(w:Wd):Prop:=w.heap[l]? = some (.loop { rf with state:=st,pending:=p })
def rfPut(l:Nat)(rf:Loop)(st:LoopState)(p:Option Code)(w:Wd):Wd:=w.putObj l (.loop { rf with state:=st,pending:=p })
structure RfNew(w:Wd)(rf:Loop)(Dk l:Nat)(w1:Wd):Prop where
 d:Dk=w.heap.size
 l:l=w.heap.size+1
 is:w1=(World.pushBlk (World.pushBlk w (.deferred (some []))) (.loop { rf with state := .ready,pending:=none }))
def DefSt(Dk:Nat)(w:Wd):Prop:=w.heap[Dk]? = some (.deferred (some []))
def defShut(Dk:Nat)(w:Wd):Wd:=w.putObj Dk (.deferred none)
def jumpC:Option Nat->Code
 | none => .ret
 | some i => .exit i
def jumpX:Option Nat->Exit
 | none => .ret
 | some i => .exit i
def eqJ:Option Nat->Option Nat->Bool
 | none,none=>true
 | some i,some j=>Nat.beq i j
 | _,_=>false
def hasJ:List (Option Nat)->Option Nat->Bool
 | [],_=>false
 | j::r,i=>bif eqJ j i then true else hasJ r i
def jumpE(l:Nat)(rf:Loop)(js:List (Option Nat))(K':Bool->Wd->Prop)(j:Option Nat)(w:Wd):Prop :=
 bif hasJ js j then RfSt l rf .busy none w/\K' false (rfPut l rf .done (some (jumpC j)) w) else False
def roundE(l:Nat)(rf:Loop)(js:List (Option Nat))(K':Bool->Wd->Prop):Exit->Env->Wd->Prop
 | .normal,_,w=>RfSt l rf .busy none w/\K' true (rfPut l rf .ready none w)
 | .ret,_,w=>jumpE l rf js K' none w
 | .exit i,_,w=>jumpE l rf js K' (some i) w
 | _,_,_=>False
def noE:Exit->Env->Wd->Prop:=fun _ _ _=>False
def rfEnd(l:Nat)(rf:Loop)(Q:Exit->Env->Wd->Prop)(ρ:Env)(w3:Wd):List (Option Nat)->Prop
 | []=>RfSt l rf .ready none w3/\Q .normal ρ (rfPut l rf .exhausted none w3)
 | j::r=>(RfSt l rf .done (some (jumpC j)) w3/\Q (jumpX j) ρ (rfPut l rf .exhausted (some (jumpC j)) w3))∨rfEnd l rf Q ρ w3 r
def allS:List Seg->(List Value->Prop)->Prop
 | [],F=>F []
 | .one s::r,F=>∀ x:s.T,allS r fun vs=>F (s.mk x::vs)
 | .row k n::r,F=>∀ l:List Int,l.length=n->allS r fun vs=>F (l.map (Value.int k)++vs)
def allTy:Ty->(Value->Prop)->Prop
 | .one s,F=>∀ x:s.T,F (s.mk x)
 | .agg l,F=>allS l fun vs=>F (.agg vs.toArray)
 | .bad,F=>∀ v,F v
theorem allS_of:∀(l:List Seg){F:List Value->Prop},(∀ vs,F vs)->allS l F
 | [],_,h=>h []
 | .one _::r,_,h=>fun _=>allS_of r fun _=>h _
 | .row _ _::r,_,h=>fun _ _=>allS_of r fun _=>h _
theorem allTy_of:∀(y:Ty){F:Value->Prop},(∀ v,F v)->allTy y F
 | .one _,_,h=>fun _=>h _
 | .agg l,_,h=>allS_of l fun _=>h _
 | .bad,_,h=>h
def rndA:List (Nat×Ty)->Env->(List Value->Env->Prop)->Prop
 | [],ρ,F=>F [] ρ
 | (t,y)::r,ρ,F=>allTy y fun v=>rndA r (put ρ t v) (fun vs ρ'=>F (v::vs) ρ')
structure RfA where
 psh:List (Nat×Ty)
 js:List (Option Nat)
 annA:Ann
 annB:Ann
def rfW(P:Program)(pk:Nat)(A:RfA)(g:Operand)(ars bd:Code)(Q:Nat->Exit->Env->Wd->Prop)(ρ:Env)(w:Wd):Prop :=
 ∀(rf:Loop)(Dk l:Nat)(w1:Wd),RfNew w rf Dk l w1 ->
  (rndA A.psh ρ fun args ρ'=>∀(W:Wd)(K':Bool->Wd->Prop),RfSt l rf .ready none W->wpc P pk (fun _ _=>False) A.annA ars (thenE (fun ρ2 W2=>RfSt l rf .ready none W2/\wpc P pk (fun _ _=>False) A.annB bd (roundE l rf A.js K') ρ2 (rfPut l rf .busy none W2)) noE) ρ' W ->
   dynV P true (.func (.yield l) #[] #[]) args [.one .bool] K' (fun _ _=>False) W) ->
  dynV P false (ev ρ g) [.func (.yield l) #[] #[]] [] (fun w3=>rfEnd l rf (Q Dk) ρ w3 A.js) (fun _ _=>False) w1
inductive Sp where
 | next (a:Ann) (s:Sp)
 | here (r:Ann) (A:RfA) (p:Ann)
def wpSp(P:Program)(pk:Nat):Sp->Code->(Exit->Env->Wd->Prop)->(Nat->Exit->Env->Wd->Prop)->Env->Wd->Prop
 | .next a s, .seq c1 c2,Q,QM,ρ,w=>wpc P pk (fun _ _=>False) a c1 (thenE (fun ρ w=>wpSp P pk s c2 Q QM ρ w) Q) ρ w
 | .here r A p, .seq (.seq rc (.block id (.rangeFunc g _ ars bd))) rest,Q,QM,ρ,w =>
  wpc P pk (fun _ _=>False) r rc (thenE (fun ρ w=>rfW P pk A g ars bd (fun Dk=>blockE id (thenE (fun ρ w=>wpc P pk (fun _ _=>False) p rest (QM Dk) ρ w) (QM Dk))) ρ w) Q) ρ w
 | _,_,_,_,_,_=>False
def eqPs:List Nat->List (Nat×Ty)->Bool
 | [],[]=>true
 | t::r,p::q=>Nat.beq t p.1 && eqPs r q
 | _,_=>false
def rfOk(P:Program)(n:Nat)(A:RfA)(ps:Array Tmp)(ars bd:Code):Bool:=eqPs ps.toList A.psh && chk P n A.annA ars && chk P n A.annB bd && noDraw ars && noScope ars && noDraw bd && noScope bd && ps.toList.all fun t=>Nat.blt t n
def spOk(P:Program)(n:Nat):Sp->Code->Bool
 | .next a s, .seq c1 c2=>chk P n a c1 && spOk P n s c2
 | .here r A p, .seq (.seq rc (.block _ (.rangeFunc _ ps ars bd))) rest=>chk P n r rc && rfOk P n A ps ars bd && chk P n p rest
 | _,_=>false
section sound
variable {P:Program} {n pk:Nat}
abbrev markD(Dk:Nat):Deferred:={ target := .collected Dk,args:=#[] }
def SpE(n:Nat)(Q:Exit->Env->Wd->Prop)(QM:Nat->Exit->Env->Wd->Prop):Exit->Act->Wd->Prop
 | .panic _,_,_=>False
 | .outgrown,_,_=>False
 | e,a,w=>(∃ ρ,Rep [] n a ρ/\Q e ρ w)∨∃ Dk ρ,Rep [markD Dk] n a ρ/\QM Dk e ρ w
theorem PostE.out{D:List Deferred}{Q:Exit->Env->Wd->Prop}{M:Nat->Bool}{ρ0:Env}{e:Exit}{a:Act}{w:Wd}(h:PostE D n Q (fun _ _=>False) M ρ0 e a w):(∃ ρ,Rep D n a ρ/\Q e ρ w)/\(∀ c,e ≠ .panic c)/\e ≠ .outgrown:=by
 cases e with
 | panic c=>exact h.1.elim
 | outgrown=>exact h.elim
 | _=>obtain ⟨ρ',h1,h2,_⟩:=h; exact ⟨⟨ρ',h1,h2⟩,(fun c h=>by cases h),(fun h=>by cases h)⟩
theorem SpE.mk{Q:Exit->Env->Wd->Prop}{QM:Nat->Exit->Env->Wd->Prop}{e:Exit}{a:Act}{w:Wd}(h:(∃ ρ,Rep [] n a ρ/\Q e ρ w)∨∃ Dk ρ,Rep [markD Dk] n a ρ/\QM Dk e ρ w)(h1:∀ c,e ≠ .panic c)(h2:e ≠ .outgrown):SpE n Q QM e a w:=by
 cases e with
 | panic c=>exact (h1 c rfl).elim
 | outgrown=>exact (h2 rfl).elim
 | _=>exact h
theorem eqPs_eq:∀{l:List Nat}{p:List (Nat×Ty)},eqPs l p=true->l=p.map Prod.fst
 | [],[],_=>rfl
 | t::r,p::q,h=>by
  simp only [eqPs,Bool.and_eq_true] at h
  rw [List.map_cons,<- Nat.eq_of_beq_eq_true h.1,eqPs_eq h.2]
 | [],_::_,h=>by simp [eqPs] at h
 | _::_,[],h=>by simp [eqPs] at h
theorem rnd_rep{D:List Deferred}{F:List Value->Env->Prop}:∀(psh:List (Nat×Ty))(ρ:Env)(a:Act),(∀ p∈psh,p.1 < n)->Rep D n a ρ->(∀ args ρ',args.length=psh.length->Rep D n { a with tmps:=((psh.map Prod.fst).zip args).foldl (fun (t:Array Value) (p:Nat×Value)=>t.setIfInBounds p.1 p.2) a.tmps } ρ'->F args ρ')->rndA psh ρ F
 | [],ρ,a,_,hr,h=>h [] ρ rfl hr
 | (t,y)::r,ρ,a,hp,hr,h=>allTy_of y fun v=>by
  refine rnd_rep r _ { a with tmps:=a.tmps.setIfInBounds t v } (fun p hq=>hp p (List.mem_cons_of_mem _ hq)) ?_ fun args ρ' hl hr'=>h _ ρ' (by simp [hl]) hr'
  exact hr.put (hp _ List.mem_cons_self) _
theorem zip_foldl(ps:Array Nat)(args:List Value)(t0:Array Value):(ps.zip args.toArray).foldl (fun t (p,v)=>t.setIfInBounds p v) t0=(ps.toList.zip args).foldl (fun (t:Array Value) (p:Nat×Value)=>t.setIfInBounds p.1 p.2) t0:=by
 rw [<- Array.foldl_toList,Array.toList_zip]
theorem wide_round(l:Nat):Fence.wide.inRound l=wideR (some l):=rfl
theorem rfW_sound{A:RfA}{g:Operand}{ps:Array Tmp}{ars bd:Code}{Q:Nat->Exit->Env->Wd->Prop}{ρ:Env}{w:Wd}{a:Act}(hok:rfOk P n A ps ars bd=true)(hr:Rep [] n a ρ)(h:rfW P pk A g ars bd Q ρ w) :
    (Code.rangeFunc g ps ars bd).wpIn Fence.wide 0 P (fun e a' w'=>∃ Dk,(∃ ρ',Rep [markD Dk] n a' ρ'/\Q Dk e ρ' w')/\(∀ c,e ≠ .panic c)/\e ≠ .outgrown) a w:=by
  simp only [rfOk,Bool.and_eq_true,List.all_eq_true] at hok
  obtain ⟨⟨⟨⟨⟨⟨⟨o1,o2⟩,o3⟩,o4⟩,o5⟩,o6⟩,o7⟩,o8⟩:=hok
  have ep:=eqPs_eq o1
  refine wpIn_rangeFunc fun fn _=>?_
  let rf:Loop:={ state := .ready,pending:=none,fn:=fn,tmps:=a.tmps,params:=ps,assign:=ars,body:=bd,defers:=w.heap.size }
  let w1:=(w.alloc (.deferred (some []))).alloc (.loop rf)
  have hd:=h rf w.heap.size (w.heap.size+1) w1 ⟨rfl,rfl,rfl⟩ ?_
  rotate_left
  · refine rnd_rep A.psh ρ { a with defers:=[] } (fun p hp=>?_) (by have:=hr; exact ⟨rfl,this.size,this.get⟩) fun args ρ' hl hr'=>?_
    · have:=o8 p.1 (by rw [ep]; exact List.mem_map.2 ⟨p,hp,rfl⟩)
      simpa using this
    intro W K' hst hw
    have hsz:args.toArray.size=ps.size:=by
      have:=congrArg List.length ep
      simp only [List.length_map,Array.length_toList] at this
      rw [List.size_toArray,hl,this]
    have hst':W.heap[w.heap.size+1]? = some (.loop rf):=hst
    have hy:=run_yield (P:=P) (args:=args.toArray) hst' hsz
    unfold dynV Invk
    have e1:(dynS (.func (.yield (w.heap.size+1)) #[] #[]) args).run P W = .ok (.round (w.heap.size+1) fn ((ps.zip args.toArray).foldl (fun tmps (t,a)=>tmps.setIfInBounds t a) a.tmps) ars bd) W:=by
      simp only [dynS,Deferred.ofValue,pure_bind]
      simp [invoke,hy,rf]
    rw [e1]
    refine ⟨rfl,roundIn_of_wpIn (F:=Fence.wide) trivial ?_⟩
    rw [zip_foldl,ep,wide_round]
    have hA:=wpc_sound (ro:=some (w.heap.size+1)) (n:=n) (D:=[]) A.annA ars _ _ W _ (.inr ⟨o4,o5⟩) o2 hw hr'
    refine wpIn_mono hA fun e1 a1 W1 hp=>?_
    obtain ⟨⟨ρ1,r1,q1⟩,q2,q3⟩:=hp.out
    cases e1 with
    | panic c=>exact (q2 c rfl).elim
    | outgrown=>exact (q3 rfl).elim
    | exit i=>exact q1.elim
    | goto i=>exact q1.elim
    | ret=>exact q1.elim
    | normal =>
    obtain ⟨st1,hb⟩:=q1
    have st1':W1.heap[w.heap.size+1]? = some (.loop rf):=st1
    refine ⟨_,run_beginRound st1' rfl,?_⟩
    have hB:=wpc_sound (ro:=some (w.heap.size+1)) (n:=n) (D:=[]) A.annB bd _ _ _ _ (.inr ⟨o6,o7⟩) o3 hb r1
    refine wpIn_mono hB fun e2 a2 W2 hp2=>?_
    obtain ⟨⟨ρ2,r2,s1⟩,s2,s3⟩:=hp2.out
    have fin:∀{j:Option Nat},jumpE (w.heap.size+1) rf A.js K' j W2->∃ v w',(Instr.endRound (w.heap.size+1) (some (jumpC j))).run P W2 = .ok v w'/\callR [.one .bool] K' (fun _ _=>False) (.returned v) w':=fun {j} hj=>by
      unfold jumpE at hj
      cases hh:hasJ A.js j with
      | false=>rw [hh] at hj; exact hj.elim
      | true =>
        rw [hh] at hj
        have st:W2.heap[w.heap.size+1]? = some (.loop { rf with state := .busy,pending:=none }):=hj.1
        refine ⟨_,_,run_endRound (some (jumpC j)) st, .inl ⟨false,rfl,hj.2⟩⟩
    cases e2 with
    | panic c=>exact (s2 c rfl).elim
    | outgrown=>exact (s3 rfl).elim
    | normal =>
      have st:W2.heap[w.heap.size+1]? = some (.loop { rf with state := .busy,pending:=none }):=s1.1
      exact ⟨_,_,run_endRound none st, .inl ⟨true,rfl,s1.2⟩⟩
    | ret=>exact fin (j:=none) s1
    | exit i=>exact fin (j:=some i) s1
    | goto i=>exact s1.elim
  have hrep:Rep [markD w.heap.size] n { a with defers:=[markD w.heap.size]++a.defers } ρ:=⟨by simp [hr.defers],hr.size,hr.get⟩
  have hend:∀{js:List (Option Nat)}{w3:Wd},rfEnd (w.heap.size+1) rf (Q w.heap.size) ρ w3 js ->
      ∃ jump w4,(Instr.endLoop (w.heap.size+1)).run P w3 = .ok jump w4/\(match jump with
       | none=>∃ Dk,(∃ ρ',Rep [markD Dk] n { a with defers:=[markD w.heap.size]++a.defers } ρ'/\Q Dk .normal ρ' w4)/\(∀ c,Exit.normal ≠ .panic c)/\Exit.normal ≠ .outgrown
       | some c=>c.wpIn Fence.wide 0 P (fun e a' w'=>∃ Dk,(∃ ρ',Rep [markD Dk] n a' ρ'/\Q Dk e ρ' w')/\(∀ c,e ≠ .panic c)/\e ≠ .outgrown) { a with defers:=[markD w.heap.size]++a.defers } w4):=by
    intro js
    induction js with
    | nil =>
      intro w3 h3
      have st:w3.heap[w.heap.size+1]? = some (.loop { rf with state := .ready,pending:=none }):=h3.1
      exact ⟨_,_,run_endLoop st (by simp),_,⟨ρ,hrep,h3.2⟩,(fun c h=>by cases h),(fun h=>by cases h)⟩
    | cons j r ih =>
      intro w3 h3
      rcases h3 with h3 | h3
      · have st:w3.heap[w.heap.size+1]? = some (.loop { rf with state := .done,pending:=some (jumpC j) }):=h3.1
        refine ⟨_,_,run_endLoop st (by simp),?_⟩
        cases j with
        | none=>exact wpIn_ret ⟨_,⟨ρ,hrep,h3.2⟩,(fun c h=>by cases h),(fun h=>by cases h)⟩
        | some i=>exact wpIn_exit ⟨_,⟨ρ,hrep,h3.2⟩,(fun c h=>by cases h),(fun h=>by cases h)⟩
      · exact ih h3
  unfold dynV Invk dynS at hd
  cases hg:ev ρ g with
  | func fv first cap =>
    rw [hg] at hd
    simp only [Deferred.ofValue,pure_bind] at hd
    split at hd
    · rename_i f ars w2 he
      refine ⟨w.heap.size+1,[markD w.heap.size],w1,{ target := .fn fv cap,args:=first++#[.func (.yield (w.heap.size+1)) #[] #[]] },w1,f,ars,w2,run_enterLoop_outer _ _ _ _ _,?_,fun _ _=>trivial,he,(fun h=>by cases h),callsIn_wide.2 ?_⟩
      · have:a.eval g = .func fv first cap:=by rw [hr.eval]; exact hg
        simp [resolve,this,Deferred.ofValue]
        rfl
      · refine Calls.mono hd fun e w3 h3=>?_
        rcases h3 with ⟨he3,h3⟩ | ⟨c,_,h3⟩
        · subst he3; exact hend h3
        · exact h3.elim
    · exact absurd hd.1 (by decide)
    · exact hd.elim
  | nilFunc =>
    rw [hg] at hd
    simp [Deferred.ofValue,invoke,runtimePanic,program,Sem.run] at hd
  | _ =>
    rw [hg] at hd
    simp [Deferred.ofValue,stuck] at hd
theorem sp_sound:∀(s:Sp)(c:Code)(Q:Exit->Env->Wd->Prop)(QM:Nat->Exit->Env->Wd->Prop)(ρ:Env)(w:Wd)(a:Act),spOk P n s c=true->wpSp P pk s c Q QM ρ w->Rep [] n a ρ->c.wpIn Fence.wide 0 P (SpE n Q QM) a w:=by
 intro s
 induction s with
 | next ann s ih =>
  intro c Q QM ρ w a hok h hr
  cases c <;> simp only [wpSp] at h
  rename_i c1 c2
  simp only [spOk,Bool.and_eq_true] at hok
  refine wpIn_seq (wpIn_mono (wpc_sound (ro:=none) (n:=n) (D:=[]) ann c1 _ ρ w a (.inl rfl) hok.1 h hr) fun e a' w' hp=>?_)
  obtain ⟨⟨ρ',r',q'⟩,q2,q3⟩:=hp.out
  cases e with
  | normal=>exact ih c2 Q QM ρ' w' a' hok.2 q' r'
  | panic c=>exact (q2 c rfl).elim
  | outgrown=>exact (q3 rfl).elim
  | exit i=>exact .inl ⟨ρ',r',q'⟩
  | goto i=>exact .inl ⟨ρ',r',q'⟩
  | ret=>exact .inl ⟨ρ',r',q'⟩
 | here rA A p =>
  intro c Q QM ρ w a hok h hr
  have none_:∀{c:Code},(∀ rc id g ps ars bd rest,c ≠ .seq (.seq rc (.block id (.rangeFunc g ps ars bd))) rest)->spOk P n (.here rA A p) c=true->False:=fun {c} hne hk=>by
   unfold spOk at hk
   split at hk
   .cases ‹Sp.here _ _ _=Sp.next _ _›
   .exact hne _ _ _ _ _ _ _ rfl
   .cases hk
  have dec:(∃ rc id g ps ars bd rest,c = .seq (.seq rc (.block id (.rangeFunc g ps ars bd))) rest):=Classical.byContradiction fun hc=>none_ (fun rc id g ps ars bd rest e=>hc ⟨rc,id,g,ps,ars,bd,rest,e⟩) hok
  obtain ⟨rc,id,g,ps,ars,bd,rest,rfl⟩:=dec
  simp only [wpSp] at h
  simp only [spOk,Bool.and_eq_true] at hok
  refine wpIn_seq (wpIn_mono (wpIn_seq (Q:=fun e a' w'=>match e with
   | .normal=>∃ Dk ρ',Rep [markD Dk] n a' ρ'/\wpc P pk (fun _ _=>False) p rest (QM Dk) ρ' w'
   | e=>SpE n Q QM e a' w') (wpIn_mono (wpc_sound (ro:=none) (n:=n) (D:=[]) _ rc _ ρ w a (.inl rfl) hok.1.1 h hr) fun e a' w' hp=>?_)) fun e a' w' hp=>?_)
  .obtain ⟨⟨ρ1,r1,q1⟩,q2,q3⟩:=hp.out
   cases e with
   | panic c=>exact (q2 c rfl).elim
   | outgrown=>exact (q3 rfl).elim
   | exit i=>exact .inl ⟨ρ1,r1,q1⟩
   | goto i=>exact .inl ⟨ρ1,r1,q1⟩
   | ret=>exact .inl ⟨ρ1,r1,q1⟩
   | normal =>
    refine wpIn_block (wpIn_mono (rfW_sound hok.1.2 r1 q1) fun e2 a2 w2 hp2=>?_)
    obtain ⟨Dk,⟨ρ2,r2,s2⟩,s3,s4⟩:=hp2
    cases e2 with
    | panic c=>exact (s3 c rfl).elim
    | outgrown=>exact (s4 rfl).elim
    | normal=>exact ⟨Dk,ρ2,r2,s2⟩
    | goto i=>exact .inr ⟨Dk,ρ2,r2,s2⟩
    | ret=>exact .inr ⟨Dk,ρ2,r2,s2⟩
    | exit i =>
     simp only [blockE] at s2
     simp only [Exit.inBlock]
     cases hb:Nat.beq i id with
     | true =>
      have:=Nat.eq_of_beq_eq_true hb
      subst this
      rw [hb] at s2
      rw [if_pos rfl]; exact ⟨Dk,ρ2,r2,s2⟩
     | false =>
      rw [hb] at s2
      rw [if_neg (fun e=>by subst e; simp at hb)]; exact .inr ⟨Dk,ρ2,r2,s2⟩
  .cases e with
   | normal =>
    obtain ⟨Dk,ρ1,r1,q1⟩:=hp
    refine wpIn_mono (wpc_sound (ro:=none) (n:=n) (D:=[markD Dk]) p rest _ ρ1 w' a' (.inl rfl) hok.2 q1 r1) fun e2 a2 w2 hp2=>?_
    obtain ⟨⟨ρ2,r2,s2⟩,s3,s4⟩:=hp2.out
    exact SpE.mk (.inr ⟨Dk,ρ2,r2,s2⟩) s3 s4
   | panic c=>exact hp
   | outgrown=>exact hp
   | exit i=>exact hp
   | goto i=>exact hp
   | ret=>exact hp
def mapC(Dk:Nat):(l:List Ty)->CurT l->CurT l
 | [],K=>fun w=>K (defShut Dk w)
 | .one _::r,K=>fun x=>mapC Dk r (K x)
 | .agg l::r,K=>mapS Dk r l K
 | .bad::r,K=>fun v=>mapC Dk r (K v)
where
 mapS (Dk:Nat) (r:List Ty):(l:List Seg)->CurS l (CurT r)->CurS l (CurT r)
 | [],K=>mapC Dk r K
 | .one _::q,K=>fun x=>mapS Dk r q (K x)
 | .row _ _::q,K=>fun x=>mapS Dk r q (K x)
def retKM(P:Program)(tys:List Ty)(rs:List ResultVar)(K:CurT tys)(Dk:Nat):Exit->Env->Wd->Prop
 | .ret,ρ,w=>DefSt Dk w/\resW P rs ρ (defShut Dk w) (fun vs=>getC tys vs K (defShut Dk w))
 | .normal,ρ,w=>DefSt Dk w/\resW P rs ρ (defShut Dk w) (fun vs=>getC tys vs K (defShut Dk w))
 | _,_,_=>False
theorem mkR{f:FuncId}{fn:Func}{s:Sp}{args:List Value}{tys:List Ty}{K:CurT tys}{w:Wd}{F C:Prop}(hf:P.funcs[f]? = some fn)
  (hF:F=wpSp P pk s (fn.body.getD .skip) (retK P tys fn.results.toList K) (retKM P tys fn.results.toList K) (argEnv args) w) (hc:(fn.body.isSome && Nat.ble args.length fn.ntmps && spOk P fn.ntmps s (fn.body.getD .skip))=true)
  (hC:callK P f args.toArray tys K w=C) (h:F):C:=by
 simp only [Bool.and_eq_true] at hc
 obtain ⟨c,hb⟩:=Option.isSome_iff_exists.1 hc.1.1
 have e:fn.body.getD .skip=c:=by rw [hb]; rfl
 rw [e] at hF hc
 rw [<- hC]
 refine callsIn_wide.1 (callsIn_of_wp_marks (F:=Fence.wide) (n:=0) hf hb trivial (wpIn_mono (sp_sound s c _ _ _ w _ hc.2 (hF ▸ h) (args_rep hc.1.2)) fun e a' w' hp=>?_) rfl)
 have fin:∀{D:List Deferred}{ρ':Env}{w'':Wd},Rep D fn.ntmps a' ρ'->resW P fn.results.toList ρ' w'' (fun vs=>getC tys vs K w'')->∃ v,(results fn a'.tmps).run P w'' = .ok v w''/\exC tys K (fun vs Y=>Ending.returned v = .returned (tup vs)/\Y w''):=fun hr' hq=>by
  obtain ⟨vs,h1,h2⟩:=results_run hr' hq
  exact ⟨_,h1,exC_mono tys K (fun us X hh=>⟨by rw [hh.1],hh.2⟩) (getC_elim tys vs K _ h2)⟩
 have main:((∃ ρ,Rep [] fn.ntmps a' ρ/\resW P fn.results.toList ρ w' (fun vs=>getC tys vs K w'))∨∃ Dk ρ,Rep [markD Dk] fn.ntmps a' ρ/\(DefSt Dk w'/\resW P fn.results.toList ρ (defShut Dk w') (fun vs=>getC tys vs K (defShut Dk w')))) ->
   LeavesInM Fence.wide 0 P fn a'.tmps (fun e w'=>exC tys K (fun vs Y=>e = .returned (tup vs)/\Y w')) a'.defers .returning w':=by
  rintro (⟨ρ,r,q⟩ | ⟨Dk,ρ,r,q0,q⟩)
  .rw [r.defers]; exact fin r q
  .rw [r.defers]
   exact ⟨by simp, .inl ⟨Dk,_,rfl,run_takeDeferred q0,fin r q⟩⟩
 cases e with
 | normal=>exact main hp
 | ret=>exact main hp
 | panic c=>exact hp.elim
 | outgrown=>exact hp.elim
 | exit i=>rcases hp with ⟨_,_,h⟩ | ⟨_,_,_,h⟩ <;> exact h.elim
 | goto i=>rcases hp with ⟨_,_,h⟩ | ⟨_,_,_,h⟩ <;> exact h.elim
end sound
end Go.V
set_option maxRecDepth 100000
namespace Go.Proofs.YtcamoanigdfihaaGreat
open Go.V
def F_slices_AppendSeq_string_string(s:Sl)(seq:Value)(w:Wd)(K:Sl->Wd->Prop):Prop:=NewW w (.cells [.slice s.a s.len s.cap].toArray 156) fun f l=>∀(a:Loop)(dk lp:Nat)(w2:Wd),RfNew l a dk lp w2->(∀(j:ByteArray)(b:Wd)(h:Bool->Wd->Prop),RfSt lp a .ready none b->(RfSt lp a .ready none b/\∃ c:Sl,Cell (rfPut lp a .busy none b) (A0 f) (.slice c.a c.len c.cap)/\NewW (rfPut lp a .busy none b) (.cells [.string j].toArray 9) fun k m=>AppW pz 156 156 c (.slice (some (A0 k)) 1 1) (fun g n=>St1 n (A0 f) (.slice g.a g.len g.cap) fun i=>RfSt lp a .busy none i/\h true (rfPut lp a .ready none i)) m)->dynV pz true (.func (.yield lp) #[] #[]) [.string j] [.one .bool] h NoX b)->dynV pz false (seq) [.func (.yield lp) #[] #[]] [] (fun e=>(RfSt lp a .ready none e/\∃ d:Sl,Cell (rfPut lp a .exhausted none e) (A0 f) (.slice d.a d.len d.cap)/\DefSt dk ((rfPut lp a .exhausted none e))/\K d ((defShut dk ((rfPut lp a .exhausted none e)))))) NoX w2
def A_slices_AppendSeq_string_string:Sp:=(.next n0 (.here n0 ⟨[(7, .one (.str))],[],n0,(.block n0)⟩ (qz n0)))
theorem S_slices_AppendSeq_string_string{s:Sl}{seq:Value}{w:Wd}{K:Sl->Wd->Prop}(h:F_slices_AppendSeq_string_string s seq w K):C_slices_AppendSeq_string_string s seq w K :=
 mkR (pk:=PK) (s:=A_slices_AppendSeq_string_string) (args:=[.slice s.a s.len s.cap,seq]) (tys:=[.one (.sl)]) (K:=K) (w:=w) Tryz.func163 (by kernel_rfl) (by kernel_rfl) (by kernel_rfl) h
def F_tree_grove_store(g0:Value)(g1:Int)(key value:Sl)(w:Wd)(K:Sl->Sl->Int->Int->Int->Int->Int->Int->Int->Int->Wd->Prop):Prop:=NewW w (.cells [g0, .int .u32 g1].toArray 163) fun c3 h4=>NewW h4 (.cells [.slice none 0 0, .slice none 0 0, .int .i64 0, .int .u32 0, .int .u64 0, .int .u16 0, .int .u32 0, .int .u64 0, .int .u16 0].toArray 133) fun b h8=>NewW h8 (.cells [.int .i64 0].toArray 50) fun m i2=>C_bytes_Clone key i2 fun z i3=>NewW i3 (.cells [.slice none 0 0, .slice none 0 0, .int .i64 0, .int .u32 0, .int .u64 0, .int .u16 0, .int .u32 0, .int .u64 0, .int .u16 0].toArray 133) fun a i4=>StL i4 (A0 a) 9 [.slice z.a z.len z.cap, .slice none 0 0, .int .i64 0, .int .u32 0, .int .u64 0, .int .u16 0, .int .u32 0, .int .u64 0, .int .u16 0] fun h1=>If (decide (((value.len:Int))<=64)) (C_bytes_Clone value h1 fun c2 i5=>St1 i5 ((A0 a).add 1) (.slice c2.a c2.len c2.cap) fun l=>∃ n:Sl,Cell l (A0 a) (.slice n.a n.len n.cap)/\∃ o:Sl,Cell l ((A0 a).add 1) (.slice o.a o.len o.cap)/\∃ L:Int,Cell l ((A0 a).add 2) (.int .i64 L)/\∃ T:Int,Cell l ((A0 a).add 3) (.int .u32 T)/\∃ U:Int,Cell l ((A0 a).add 4) (.int .u64 U)/\∃ a3:Int,Cell l ((A0 a).add 5) (.int .u16 a3)/\∃ b1:Int,Cell l ((A0 a).add 6) (.int .u32 b1)/\∃ b4:Int,Cell l ((A0 a).add 7) (.int .u64 b4)/\∃ c0:Int,Cell l ((A0 a).add 8) (.int .u16 c0)/\StL l (A0 b) 9 [.slice n.a n.len n.cap, .slice o.a o.len o.cap, .int .i64 L, .int .u32 T, .int .u64 U, .int .u16 a3, .int .u32 b1, .int .u64 b4, .int .u16 c0] fun i6=>St1 i6 (A0 m) (.int .i64 0) fun h=>∃ I:Sl,Cell h (A0 b) (.slice I.a I.len I.cap)/\∃ B:Sl,Cell h ((A0 b).add 1) (.slice B.a B.len B.cap)/\∃ c4:Int,Cell h ((A0 b).add 2) (.int .i64 c4)/\∃ c5:Int,Cell h ((A0 b).add 3) (.int .u32 c5)/\∃ c6:Int,Cell h ((A0 b).add 4) (.int .u64 c6)/\∃ c7:Int,Cell h ((A0 b).add 5) (.int .u16 c7)/\∃ c8:Int,Cell h ((A0 b).add 6) (.int .u32 c8)/\∃ c9:Int,Cell h ((A0 b).add 7) (.int .u64 c9)/\∃ d0:Int,Cell h ((A0 b).add 8) (.int .u16 d0)/\∃ g3:Int,Cell h (A0 m) (.int .i64 g3)/\K I B c4 c5 c6 c7 c8 c9 d0 g3 h) (C_chain_Cut value h1 fun h2 f8 i=>If (f8 != 0) (∃ p:Sl,Cell i (A0 a) (.slice p.a p.len p.cap)/\∃ q:Sl,Cell i ((A0 a).add 1) (.slice q.a q.len q.cap)/\∃ M:Int,Cell i ((A0 a).add 2) (.int .i64 M)/\∃ N:Int,Cell i ((A0 a).add 3) (.int .u32 N)/\∃ O:Int,Cell i ((A0 a).add 4) (.int .u64 O)/\∃ P:Int,Cell i ((A0 a).add 5) (.int .u16 P)/\∃ Q:Int,Cell i ((A0 a).add 6) (.int .u32 Q)/\∃ R:Int,Cell i ((A0 a).add 7) (.int .u64 R)/\∃ S:Int,Cell i ((A0 a).add 8) (.int .u16 S)/\StL i (A0 b) 9 [.slice p.a p.len p.cap, .slice q.a q.len q.cap, .int .i64 M, .int .u32 N, .int .u64 O, .int .u16 P, .int .u32 Q, .int .u64 R, .int .u16 S] fun h5=>St1 h5 (A0 m) (.int .i64 f8) fun j=>∃ C:Sl,Cell j (A0 b) (.slice C.a C.len C.cap)/\∃ D:Sl,Cell j ((A0 b).add 1) (.slice D.a D.len D.cap)/\∃ d1:Int,Cell j ((A0 b).add 2) (.int .i64 d1)/\∃ d2:Int,Cell j ((A0 b).add 3) (.int .u32 d2)/\∃ d3:Int,Cell j ((A0 b).add 4) (.int .u64 d3)/\∃ d4:Int,Cell j ((A0 b).add 5) (.int .u16 d4)/\∃ d5:Int,Cell j ((A0 b).add 6) (.int .u32 d5)/\∃ d6:Int,Cell j ((A0 b).add 7) (.int .u64 d6)/\∃ d7:Int,Cell j ((A0 b).add 8) (.int .u16 d7)/\∃ g4:Int,Cell j (A0 m) (.int .i64 g4)/\K C D d1 d2 d3 d4 d5 d6 d7 g4 j) (C_slices_Backward_byte_byte h2 i fun h3 h6=>∀(c:Loop)(dk lp:Nat)(w15:Wd),RfNew h6 c dk lp w15->(∀(i7:Value)(J:Sl)(y:Wd)(A:Bool->Wd->Prop),RfSt lp c .ready none y->(RfSt lp c .ready none y/\∃ d8:Int,Cell (rfPut lp c .busy none y) ((A0 a).add 3) (.int .u32 d8)/\∃ d9:Int,Cell (rfPut lp c .busy none y) (((A0 a).add 3).add 1) (.int .u64 d9)/\∃ e0:Int,Cell (rfPut lp c .busy none y) (((A0 a).add 3).add 2) (.int .u16 e0)/\C_chain_Page J d8 d9 e0 (rfPut lp c .busy none y) fun c1 f9 e=>If (f9 != 0) (∃ r:Sl,Cell e (A0 a) (.slice r.a r.len r.cap)/\∃ s:Sl,Cell e ((A0 a).add 1) (.slice s.a s.len s.cap)/\∃ V:Int,Cell e ((A0 a).add 2) (.int .i64 V)/\∃ W:Int,Cell e ((A0 a).add 3) (.int .u32 W)/\∃ Y:Int,Cell e ((A0 a).add 4) (.int .u64 Y)/\∃ Z:Int,Cell e ((A0 a).add 5) (.int .u16 Z)/\∃ a0:Int,Cell e ((A0 a).add 6) (.int .u32 a0)/\∃ a1:Int,Cell e ((A0 a).add 7) (.int .u64 a1)/\∃ a2:Int,Cell e ((A0 a).add 8) (.int .u16 a2)/\StL e (A0 b) 9 [.slice r.a r.len r.cap, .slice s.a s.len s.cap, .int .i64 V, .int .u32 W, .int .u64 Y, .int .u16 Z, .int .u32 a0, .int .u64 a1, .int .u16 a2] fun h7=>St1 h7 (A0 m) (.int .i64 f9) fun g9=>RfSt lp c .busy none g9/\A false (rfPut lp c .done (some .ret) g9)) (∃ g5:Value,Cell e (A0 c3) (g5)/\∃ g6:Int,Cell e ((A0 c3).add 1) (.int .u32 g6)/\invV pz g5 "Put" [.int .u32 g6, .int .u8 3, .int .u8 0, .slice c1.a c1.len c1.cap] [.agg [.one (.int .u32), .one (.int .u64), .one (.int .u16)], .one (.int .i64)] (fun f5 f6 f7 g2 h9=>StL h9 ((A0 a).add 3) 3 [.int .u32 f5, .int .u64 f6, .int .u16 f7] fun f=>If (g2 != 0) (∃ t:Sl,Cell f (A0 a) (.slice t.a t.len t.cap)/\∃ u:Sl,Cell f ((A0 a).add 1) (.slice u.a u.len u.cap)/\∃ a4:Int,Cell f ((A0 a).add 2) (.int .i64 a4)/\∃ a5:Int,Cell f ((A0 a).add 3) (.int .u32 a5)/\∃ a6:Int,Cell f ((A0 a).add 4) (.int .u64 a6)/\∃ a7:Int,Cell f ((A0 a).add 5) (.int .u16 a7)/\∃ a8:Int,Cell f ((A0 a).add 6) (.int .u32 a8)/\∃ a9:Int,Cell f ((A0 a).add 7) (.int .u64 a9)/\∃ b0:Int,Cell f ((A0 a).add 8) (.int .u16 b0)/\StL f (A0 b) 9 [.slice t.a t.len t.cap, .slice u.a u.len u.cap, .int .i64 a4, .int .u32 a5, .int .u64 a6, .int .u16 a7, .int .u32 a8, .int .u64 a9, .int .u16 b0] fun i0=>St1 i0 (A0 m) (.int .i64 g2) fun h0=>RfSt lp c .busy none h0/\A false (rfPut lp c .done (some .ret) h0)) (RfSt lp c .busy none f/\A true (rfPut lp c .ready none f))) NoX e))->dynV pz true (.func (.yield lp) #[] #[]) [i7, .slice J.a J.len J.cap] [.one .bool] A NoX y)->dynV pz false (h3) [.func (.yield lp) #[] #[]] [] (fun d=>(RfSt lp c .done (some .ret) d/\DefSt dk ((rfPut lp c .exhausted (some .ret) d))/\∃ E:Sl,Cell ((defShut dk ((rfPut lp c .exhausted (some .ret) d)))) (A0 b) (.slice E.a E.len E.cap)/\∃ F:Sl,Cell ((defShut dk ((rfPut lp c .exhausted (some .ret) d)))) ((A0 b).add 1) (.slice F.a F.len F.cap)/\∃ e1:Int,Cell ((defShut dk ((rfPut lp c .exhausted (some .ret) d)))) ((A0 b).add 2) (.int .i64 e1)/\∃ e2:Int,Cell ((defShut dk ((rfPut lp c .exhausted (some .ret) d)))) ((A0 b).add 3) (.int .u32 e2)/\∃ e3:Int,Cell ((defShut dk ((rfPut lp c .exhausted (some .ret) d)))) ((A0 b).add 4) (.int .u64 e3)/\∃ e4:Int,Cell ((defShut dk ((rfPut lp c .exhausted (some .ret) d)))) ((A0 b).add 5) (.int .u16 e4)/\∃ e5:Int,Cell ((defShut dk ((rfPut lp c .exhausted (some .ret) d)))) ((A0 b).add 6) (.int .u32 e5)/\∃ e6:Int,Cell ((defShut dk ((rfPut lp c .exhausted (some .ret) d)))) ((A0 b).add 7) (.int .u64 e6)/\∃ e7:Int,Cell ((defShut dk ((rfPut lp c .exhausted (some .ret) d)))) ((A0 b).add 8) (.int .u16 e7)/\∃ g7:Int,Cell ((defShut dk ((rfPut lp c .exhausted (some .ret) d)))) (A0 m) (.int .i64 g7)/\K E F e1 e2 e3 e4 e5 e6 e7 g7 ((defShut dk ((rfPut lp c .exhausted (some .ret) d))))) ∨  (RfSt lp c .ready none d/\St1 (rfPut lp c .exhausted none d) ((A0 a).add 2) (.int .i64 ((value.len:Int))) fun k=>∃ v:Sl,Cell k (A0 a) (.slice v.a v.len v.cap)/\∃ x:Sl,Cell k ((A0 a).add 1) (.slice x.a x.len x.cap)/\∃ b2:Int,Cell k ((A0 a).add 2) (.int .i64 b2)/\∃ b3:Int,Cell k ((A0 a).add 3) (.int .u32 b3)/\∃ b5:Int,Cell k ((A0 a).add 4) (.int .u64 b5)/\∃ b6:Int,Cell k ((A0 a).add 5) (.int .u16 b6)/\∃ b7:Int,Cell k ((A0 a).add 6) (.int .u32 b7)/\∃ b8:Int,Cell k ((A0 a).add 7) (.int .u64 b8)/\∃ b9:Int,Cell k ((A0 a).add 8) (.int .u16 b9)/\StL k (A0 b) 9 [.slice v.a v.len v.cap, .slice x.a x.len x.cap, .int .i64 b2, .int .u32 b3, .int .u64 b5, .int .u16 b6, .int .u32 b7, .int .u64 b8, .int .u16 b9] fun i1=>St1 i1 (A0 m) (.int .i64 0) fun g=>DefSt dk g/\∃ G:Sl,Cell ((defShut dk g)) (A0 b) (.slice G.a G.len G.cap)/\∃ H:Sl,Cell ((defShut dk g)) ((A0 b).add 1) (.slice H.a H.len H.cap)/\∃ e8:Int,Cell ((defShut dk g)) ((A0 b).add 2) (.int .i64 e8)/\∃ e9:Int,Cell ((defShut dk g)) ((A0 b).add 3) (.int .u32 e9)/\∃ f0:Int,Cell ((defShut dk g)) ((A0 b).add 4) (.int .u64 f0)/\∃ f1:Int,Cell ((defShut dk g)) ((A0 b).add 5) (.int .u16 f1)/\∃ f2:Int,Cell ((defShut dk g)) ((A0 b).add 6) (.int .u32 f2)/\∃ f3:Int,Cell ((defShut dk g)) ((A0 b).add 7) (.int .u64 f3)/\∃ f4:Int,Cell ((defShut dk g)) ((A0 b).add 8) (.int .u16 f4)/\∃ g8:Int,Cell ((defShut dk g)) (A0 m) (.int .i64 g8)/\K G H e8 e9 f0 f1 f2 f3 f4 g8 ((defShut dk g)))) NoX w15))
def A_tree_grove_store:Sp:=(.next n0 (.next n0 (.next (qz (.cond (qz (qz n0)) n0)) (.next n0 (.next (qz (.cond (qz n0) n0)) (.here n0 ⟨[(36, .one (.val)),(37, .one (.sl))],[none],n0,(.block (qz (.seq (qz (.cond (qz n0) n0)) (qz (qz (.cond (qz n0) n0))))))⟩ (qz (qz n0))))))))
theorem S_tree_grove_store{g0:Value}{g1:Int}{key value:Sl}{w:Wd}{K:Sl->Sl->Int->Int->Int->Int->Int->Int->Int->Int->Wd->Prop}(h:F_tree_grove_store g0 g1 key value w K):C_tree_grove_store g0 g1 key value w K :=
 mkR (pk:=PK) (s:=A_tree_grove_store) (args:=[.agg ([g0, .int .u32 g1]).toArray, .slice key.a key.len key.cap, .slice value.a value.len value.cap]) (tys:=[.agg [.one (.sl), .one (.sl), .one (.int .i64), .one (.int .u32), .one (.int .u64), .one (.int .u16), .one (.int .u32), .one (.int .u64), .one (.int .u16)], .one (.int .i64)]) (K:=K) (w:=w) Tryz.func122 (by kernel_rfl) (by kernel_rfl) (by kernel_rfl) h
def F_slices_AppendSeq_uint32_uint32(s:Sl)(seq:Value)(w:Wd)(K:Sl->Wd->Prop):Prop:=NewW w (.cells [.slice s.a s.len s.cap].toArray 238) fun f l=>∀(a:Loop)(dk lp:Nat)(w2:Wd),RfNew l a dk lp w2->(∀(j:Int)(b:Wd)(h:Bool->Wd->Prop),RfSt lp a .ready none b->(RfSt lp a .ready none b/\∃ c:Sl,Cell (rfPut lp a .busy none b) (A0 f) (.slice c.a c.len c.cap)/\NewW (rfPut lp a .busy none b) (.cells [.int .u32 j].toArray 33) fun k m=>AppW pz 238 238 c (.slice (some (A0 k)) 1 1) (fun g n=>St1 n (A0 f) (.slice g.a g.len g.cap) fun i=>RfSt lp a .busy none i/\h true (rfPut lp a .ready none i)) m)->dynV pz true (.func (.yield lp) #[] #[]) [.int .u32 j] [.one .bool] h NoX b)->dynV pz false (seq) [.func (.yield lp) #[] #[]] [] (fun e=>(RfSt lp a .ready none e/\∃ d:Sl,Cell (rfPut lp a .exhausted none e) (A0 f) (.slice d.a d.len d.cap)/\DefSt dk ((rfPut lp a .exhausted none e))/\K d ((defShut dk ((rfPut lp a .exhausted none e)))))) NoX w2
def A_slices_AppendSeq_uint32_uint32:Sp:=(.next n0 (.here n0 ⟨[(7, .one (.int .u32))],[],n0,(.block n0)⟩ (qz n0)))
theorem S_slices_AppendSeq_uint32_uint32{s:Sl}{seq:Value}{w:Wd}{K:Sl->Wd->Prop}(h:F_slices_AppendSeq_uint32_uint32 s seq w K):C_slices_AppendSeq_uint32_uint32 s seq w K :=
 mkR (pk:=PK) (s:=A_slices_AppendSeq_uint32_uint32) (args:=[.slice s.a s.len s.cap,seq]) (tys:=[.one (.sl)]) (K:=K) (w:=w) Tryz.func200 (by kernel_rfl) (by kernel_rfl) (by kernel_rfl) h
end Go.Proofs.YtcamoanigdfihaaGreat
namespace Go.V
def Sub(ps:List Rf)(M:Mm):Prop:=∀ q,ps.count q<=(live M.pages).count q
theorem Sub.left{a b:List Rf}{M:Mm}(h:Sub (a++b) M):Sub a M:=fun q=>by have:=h q; rw [List.count_append] at this; omega
theorem Sub.right{a b:List Rf}{M:Mm}(h:Sub (a++b) M):Sub b M:=fun q=>by have:=h q; rw [List.count_append] at this; omega
theorem Sub.mem{ps:List Rf}{M:Mm}{q:Rf}(h:Sub ps M)(hq:q∈ps):q∈live M.pages:=by
 have:=h q; have h2:=List.count_pos_iff.2 hq; exact List.count_pos_iff.1 (by omega)
theorem Sub.apart{a b:List Rf}{M:Mm}(S:Sane M)(h:Sub (a++b) M){q:Rf}(ha:q∈a):q ∉ b:=fun hb=>by
 have h1:=h q
 rw [List.count_append] at h1
 have h2:=List.count_pos_iff.2 ha
 have h3:=List.count_pos_iff.2 hb
 have h4:=List.nodup_iff_count.1 (live_nodup S) q
 omega
theorem Sub.chg{M M':Mm}{k:Nat}{ds ns a b:List Rf}(h:Sub (a++b) M)(c:Chg M M' k ds ns)(hd:∀ q,ds.count q<=a.count q):Sub b M':=fun q=>by
 have:=h q; have:=c.cnt q; have:=hd q; rw [List.count_append] at *; omega
end Go.V
namespace Go.Proofs.YtcamoanigdfihaaGreat
open Go.V
section
variable {w:Wd} {T:Nat->Option Nat} {m:MemV} {M:Mm}
theorem rfCs_len(l:List Rf):∀ x∈l,(Rf.cs x).length=3:=fun _ _=>rfl
def GotF(bv:Nat)(base:Nat)(cs:List (Rf×List Int))(j:Nat)(w:Wd)(B:Nat->Prop):Prop :=
 ∃ (sl:Sl),w.heap[bv]? = some (.cells [.slice sl.a sl.len sl.cap].toArray 27 (0,0))/\Own w.heap base 36 3 sl (((cs.take j).map Prod.fst).flatMap Rf.cs)/\(bv < base/\base<=w.heap.size)/\(∀ q,B q ↔ q=bv∨sl.blk=some q)
theorem GotF.mono{bv base:Nat}{cs:List (Rf×List Int)}{j:Nat}{w1 w2:Wd}{B S:Nat->Prop}(h:GotF bv base cs j w1 B)(x:Ext S w1 w2)(hS:∀ q,B q->¬ S q):GotF bv base cs j w2 B:=by
 obtain ⟨sl,h1,h2,h3,h4⟩:=h
 exact ⟨sl,get_ext h1 x (hS _ ((h4 _).2 (.inl rfl))),h2.ext x (fun q hq=>hS _ ((h4 _).2 (.inr hq))),⟨h3.1,Nat.le_trans h3.2 x.size⟩,h4⟩
theorem GotF.step{bv base:Nat}{cs:List (Rf×List Int)}{j:Nat}{w1:Wd}{B:Nat->Prop}{s:Sl}{K':Wd->Prop}(hl:cs.length<=5)(hj:j < cs.length)(h:GotF bv base cs j w1 B)
  (k:∀ w' B',GotF bv base cs (j+1) w' B'->Ext B w1 w'->(∀ q,B' q->B q∨w1.heap.size<=q/\q < w'.heap.size)->K' w') :
  dynV pz true (.func (.func 195) #[] #[.pointer (some (A1 bv))]) [.agg ([.int .u32 cs[j].1.p, .int .u64 cs[j].1.c, .int .u16 cs[j].1.g]).toArray, .slice s.a s.len s.cap] [] K' NoX w1:=by
 obtain ⟨sl,h1,h2,h3,h6⟩:=h
 refine V_tree_grove_forget_1 (c0:=A1 bv) (S_tree_grove_forget_1 ?_)
 refine NewW.mk fun b w2 n2=>⟨_,Cell.lst (get_no h1 n2.ext) rfl,_,Cell.lst n2.get rfl,_,Cell.lst n2.get rfl,_,Cell.lst n2.get rfl,NewW.mk fun b1 w3 n3=>?_⟩
 have x3:=n2.ext.no n3.ext
 have z2:=n2.size; have z3:=n3.size
 have o3:=h2.no x3
 have e3:Own w3.heap w2.heap.size 36 3 ⟨some ⟨b1,0,none⟩,1,1⟩ (Rf.cs cs[j].1):=Own.new (n:=1) (sz:=3) n3 rfl (by simp [oneC,Rf.cs])
 have hsl:sl.len=j:=by have:=h2.len; rw [flat_len' (rfCs_len _)] at this; simp at this; omega
 have slb:∀ q,sl.blk=some q->B q:=fun q hq=>(h6 q).2 (.inr hq)
 have hbv:B bv:=(h6 bv).2 (.inl rfl)
 have nbv:sl.blk≠some bv:=fun h=>by have:=(h2.lt h).1; omega
 refine app_api_Ref o3 (by omega) e3.rd.src (by simp only; omega) fun s' w4 o4 _ x4 hbl=>?_
 have y4:=x4.size
 have s'b:∀ q,s'.blk=some q->B q∨w1.heap.size<=q/\q < w4.heap.size:=fun q hq=>by
  rcases hbl with h | ⟨c,h,hc⟩
  .exact .inl (slb q (h ▸ hq))
  .rw [h] at hq; cases hq; exact .inr ⟨by omega,(o4.lt h).2⟩
 have g4:=get_ext (get_no h1 x3) x4 nbv
 refine St1.b1 g4 rfl fun w5 h5'=>?_
 have z5:=h5'.size
 have x5:Ext (·=bv) w4 w5:=h5'.ext
 have x15:Ext B w1 w5:=((x3.of_no).trans x4 fun q _ hq=>slb q hq).trans x5 fun q _ hq=>by rw [hq]; exact hbv
 refine k w5 (fun q=>q=bv∨s'.blk=some q) ⟨s',h5'.get g4,?_,⟨h3.1,by have:=x15.size; omega⟩,fun q=>Iff.rfl⟩ x15 fun q hq=>?_
 .have:((cs.take (j+1)).map Prod.fst).flatMap Rf.cs=((cs.take j).map Prod.fst).flatMap Rf.cs++Rf.cs cs[j].1:=by
   rw [List.take_add_one,List.getElem?_eq_getElem hj]; simp only [Option.toList_some,List.map_append,List.map_cons,List.map_nil,List.flatMap_append,List.flatMap_cons,List.flatMap_nil,List.append_nil]
  rw [this]
  exact o4.ext x5 fun q hq h=>by have:=(o4.lt hq).1; omega
 .rcases hq with h | h
  .exact .inl (h ▸ hbv)
  .rcases s'b q h with h' | h'
   .exact .inl h'
   .exact .inr ⟨h'.1,by omega⟩
set_option maxHeartbeats 1000000 in
theorem forget_spec{t:Int}{x:EntV}{e:Ent}{cs:List (Rf×List Int)}{K:Int->Wd->Prop}(R:MemR w.heap T m M)(hx:x.ch=e.ch)(hc:ChainP M.f t e.ch cs)(hl:cs.length<=5)(hs:Sub (cs.map Prod.fst) M)
  (k:∀ M' w',MemR w'.heap T m M'->Chg M M' 0 (cs.map Prod.fst) []->Ext (Ts T) w w'->K 0 w'):C_tree_grove_forget (srcV m) t x.k x.v x.n x.ch.p x.ch.c x.ch.g x.cd.p x.cd.c x.cd.g w K:=by
 apply S_tree_grove_forget
 refine NewW.mk fun b w1 n1=>NewW.mk fun b1 w2 n2=>NewW.mk fun b2 w3 n3=>?_
 have hb:=n1.at_; have hb1:=n2.at_; have hb2:=n3.at_; have z1:=n1.size; have z2:=n2.size; have z3:=n3.size
 have x03:Ext No w w3:=(n1.ext.no n2.ext).no n3.ext
 have g3:=get_no (get_no n1.get n2.ext) n3.ext
 have g13:w3.heap[b1]? = some (.cells x.cs.toArray 133 (0,0)):=get_no n2.get n3.ext
 have sup:∀ q,w.heap.size<=q->T q=none:=fun q hq=>by
  cases h:T q with
  | none=>rfl
  | some t=>have:=R.sup q (by rw [h]; simp); omega
 refine ⟨_,Cell.lst g3 rfl,_,Cell.lst g3 rfl,_,Cell.lst g13 rfl,_,Cell.lst g13 rfl,_,Cell.lst g13 rfl,?_⟩
 rw [hx]
 refine links_spec (J:=GotF b2 w3.heap.size cs) (B:=fun q=>q=b2) (R.no x03) hc hl ⟨⟨none,0,0⟩,n3.get,Own.nil _ _ _ _,⟨by omega,Nat.le_refl _⟩,fun q=>by simp [Sl.blk]⟩ (fun q hq=>⟨sup q (by omega),by omega⟩) (fun h x hS=>h.mono x hS)
  (fun j w5 B' s base hj K' hJ o hb hB kk=>GotF.step hl hj hJ fun w' B'' h1 h2 h3=>kk w' B'' h1 h2 fun q hq=>(h3 q hq).imp id fun h=>⟨by omega,h.2⟩) fun w4 B4 J4 x4 R4 hB4=>If.bne (fun h=>(h rfl).elim) fun _=>?_
 obtain ⟨sl,q1,q2,q3,q4⟩:=J4
 rw [List.take_length] at q2
 have hpl5:(cs.map Prod.fst).length<=5:=by simpa using hl
 generalize hps:cs.map Prod.fst=ps at *
 have hlen:sl.len=ps.length:=by have:=q2.len; rw [flat_len' (rfCs_len _)] at this; omega
 have x04:Ext No w w4:=x03.trans x4 fun q hq h=>by omega
 have s4:=x4.size
 have slb:∀ q,sl.blk=some q->w.heap.size<=q/\q < w4.heap.size:=fun q hq=>by have:=q2.lt hq; omega
 have g4:=get_ext g3 x4 (by omega)
 refine ⟨sl,Cell.lst q1 rfl,fun mm t w'=>∃ (j:Nat) (Mj:Mm),t=j/\j<=ps.length/\mm=ps.length - j/\MemR w'.heap T m Mj/\Chg M Mj 0 (ps.take j) []/\Ext (Ts T) w4 w',⟨ps.length,0,M,rfl,by omega,by omega,R4,by simpa using Chg.refl M,Ext.refl _ _⟩,?_⟩
 rintro _ m0 t w5 ⟨j,Mj,rfl,hj,hm,R5,c5,x5⟩
 have nT:∀ q,w.heap.size<=q->¬ Ts T q:=fun q hq h=>h (sup q hq)
 have g5:=get_ext g4 x5 (nT b (by omega))
 have q25:=q2.ext x5 fun q hq=>nT q (slb q hq).1
 refine If.dec (fun h=>?_) fun h=>?_
 .refine Ix.elem q25.rd (rfCs_len _) (by decide) (by omega) (by omega) fun bb o hi _ hcell=>?_
  simp only [Int.toNat_natCast] at hi hcell
  refine ⟨_,hcell 0 _ rfl,_,hcell 1 _ rfl,_,hcell 2 _ rfl,new_set rfl rfl (by simp [oneC]) fun b3 w7 g7 hb3 z7 x7=>?_⟩
  have hlive:ps[j]∈live Mj.pages:=by
   have h1:=c5.cnt ps[j]
   have h2:=hs ps[j]
   have h3:ps.count ps[j]=(ps.take j).count ps[j]+(ps.drop j).count ps[j]:=by
    rw [<- List.count_append,List.take_append_drop]
   have h4:0 < (ps.drop j).count ps[j]:=List.count_pos_iff.2 (by rw [List.drop_eq_getElem_cons hi]; exact List.mem_cons_self)
   exact List.count_pos_iff.1 (by simp only [List.count_nil] at h1; omega)
  obtain ⟨d0,dc⟩:=Chg.drop R5.sane hlive
  refine ⟨_,Cell.lst (get_no g5 x7) rfl,_,Cell.lst g7 rfl,_,Cell.lst g7 rfl,_,Cell.lst g7 rfl,I_tree_Mem_Drop (memDrop_spec (r:=ps[j]) (R5.no x7) fun w8 R8 x8=>?_)⟩
  rw [d0]
  refine If.bne (fun h=>(h rfl).elim) fun _=>Ar.i64 (by omega) ⟨ps.length - (j+1),by omega,j+1,_,by omega,by omega,rfl,R8,?_,(x5.no x7).trans x8 fun _ _ h=>h⟩
  have:=c5.trans dc
  rw [List.take_add_one,List.getElem?_eq_getElem hi]
  exact this
 .have e:j=ps.length:=by omega
  rw [e,List.take_length] at c5
  exact k Mj w5 R5 c5 (x04.of_no.trans x5 fun _ _ h=>h)
theorem cut_spec{vs:Sl}{v:List Int}{K:Sl->Int->Wd->Prop}(hv:RdB w.heap vs v)(hl:v.length<=1024)
  (k:∀ sl (ps:List (Sl×List Int)) w',Rd w'.heap sl 1 (ps.map fun p=>p.1.v)->(∀ p∈ps,RdB w'.heap p.1 p.2/\∀ q,p.1.blk=some q->w.heap.size<=q/\q < w'.heap.size)->(∀ q,sl.blk=some q->w.heap.size<=q/\q < w'.heap.size)->(ps.map Prod.snd).flatten=v->ps.length=(v.length+207) / 208 ->
   (∀ j (h:j < ps.length),1<=ps[j].2.length/\ps[j].2.length<=208/\(j+1 < ps.length->ps[j].2.length=208))->Ext No w w'->K sl 0 w'):C_chain_Cut vs w K:=by
 apply S_chain_Cut
 have hvl:=RdB.len hv
 refine pieces_spec (by omega) (by omega) (If.bne (fun h=>(h rfl).elim) fun _=>NewW.mk fun b w2 n2=>?_)
 have hb:=n2.at_; have z2:=n2.size
 refine appQ (w0:=w) (Q:=fun q=>w.heap.size<=q) n2.ext.of_no (fun i hi=>by simp [Sl.blk] at hi; omega) (fun i hi=>hi) (OwnB.new (l:=[]) (n:=0) n2 rfl) (by omega) (Rd.no hv n2.ext) (by simp; omega) fun s w3 o3 q3 x3=>?_
 rw [List.nil_append] at o3
 have hsl:=OwnB.len o3
 have x03:Ext No w w3:=x3.mono fun q hq h=>by omega
 have s3:=x3.size
 rw [hvl]
 refine MkW.mk (Int.le_refl _) (by omega) (by omega) (by omega) fun b4 w4 n4=>?_
 have o4:=Own.make (l:=(0:Int).toNat) n4 (by omega) (fun v hv=>by rw [List.mem_singleton] at hv; subst hv; rfl)
 have hb4:=n4.at_; have z4:=n4.size
 have sb:∀ q,s.blk=some q->w.heap.size<=q/\q < w3.heap.size:=fun q hq=>⟨q3 q hq,(o3.lt hq).2⟩
 refine ⟨fun mm out fr w'=>∃ (j:Nat) (ps:List (Sl×List Int)),fr=208 * j/\208 * j<=v.length+207/\mm=v.length+207 - 208 * j/\Own w'.heap w3.heap.size 40 1 out (ps.map fun p=>p.1.v)/\(∀ p∈ps,RdB w'.heap p.1 p.2/\p.1.blk=s.blk)/\(ps.map Prod.snd).flatten=v.take (208 * j)/\ps.length=j/\(∀ i (h:i < ps.length),1<=ps[i].2.length/\ps[i].2.length<=208/\(i+1 < ps.length∨208 * j<=v.length->ps[i].2.length=208))/\Ext No w3 w',
  ⟨v.length+207,0,[],rfl,by omega,by omega,by simpa using o4,by simp,by simp,rfl,by simp,n4.ext⟩,?_⟩
 rintro _ m0 out fr w5 ⟨j,ps,rfl,hj,hm,o5,hps,hfl,hpl,hsz,x5⟩
 have s5:=x5.size
 refine If.dec (fun h=>?_) fun h=>?_
 .have hjl:208 * j < v.length:=by omega
  refine Ar.i64 (by omega) (Nm.mk ?_)
  have hmin:iMin (208 * (j:Int)+208) (s.len:Int)=((min (208 * j+208) v.length:Nat):Int):=by unfold iMin; split <;> omega
  rw [hmin]
  have r5:=(o3.no x5).rd
  have hcap:=r5.cap
  have hcut:=Rd.cut r5 (lo:=208 * j) (hi:=min (208 * j+208) v.length) (mx:=min (208 * j+208) v.length) (by omega) (by omega) (Nat.le_refl _)
  simp only [Nat.mul_one] at hcut
  rw [<- List.map_drop,<- List.map_take] at hcut
  refine Cut.mk (by omega) (by omega) (Int.le_refl _) (by omega) ?_
  rw [show (((min (208 * j+208) v.length:Nat):Int)).toNat=min (208 * j+208) v.length from rfl,show (208 * (j:Int)).toNat=208 * j by omega,show (((min (208 * j+208) v.length:Nat):Int) - 208 * (j:Int)).toNat=min (208 * j+208) v.length - 208 * j by omega]
  generalize hs2:(⟨cutA s.a (min (208 * j+208) v.length) (208 * j) 1,min (208 * j+208) v.length - 208 * j,min (208 * j+208) v.length - 208 * j⟩ : Sl)=s2 at *
  have hblk:s2.blk=s.blk:=by
   rw [<- hs2]
   simp only [Sl.blk,cutA]
   split
   .rfl
   .cases s.a with
    | none=>rfl
    | some a=>simp only [Option.map_some]; congr 1; unfold Addr.add; split <;> rfl
  refine NewW.mk fun b6 w6 n6=>?_
  have o6:=o5.no n6.ext
  have e6:Own w6.heap w5.heap.size 40 1 ⟨some ⟨b6,0,none⟩,1,1⟩ [s2.v]:=Own.new (n:=1) (sz:=1) n6 rfl (by simp [oneC,Sl.v])
  have hol:out.len=j:=by have:=o6.len; simp at this; omega
  refine app_sl_uint8 o6 (by have:=n6.size; omega) e6.rd.src (by simp only; omega) fun out' w7 o7 _ x7 hbl=>?_
  have ob:∀ q,out.blk=some q->w3.heap.size<=q:=fun q hq=>(o5.lt hq).1
  have x67:Ext No w3 w7:=(x5.no n6.ext).trans x7 fun q hq h=>by have:=ob q h; omega
  have keepP:∀{p:Sl×List Int},RdB w5.heap p.1 p.2->p.1.blk=s.blk->RdB w7.heap p.1 p.2:=fun {p} h hb=>(Rd.no h n6.ext).ext x7 fun a q ha hq e=>by
   have h1:p.1.blk=some q:=by simp [Sl.blk,ha,hq]
   rw [hb] at h1
   have:=sb q h1; have:=ob q e; omega
  refine Ar.i64 (by omega) ⟨v.length+207 - 208 * (j+1),by omega,j+1,ps++[(s2,(v.drop (208 * j)).take (min (208 * j+208) v.length - 208 * j))],by omega,by omega,rfl,by simpa using o7,fun p hp=>?_,?_,by simp [hpl],fun i hi=>?_,x67⟩
  .rcases List.mem_append.1 hp with h | h
   .exact ⟨keepP (hps p h).1 (hps p h).2,(hps p h).2⟩
   .rw [List.mem_singleton] at h; subst h; exact ⟨keepP hcut hblk,hblk⟩
  .rw [List.map_append,List.flatten_append,hfl]
   simp only [List.map_cons,List.map_nil,List.flatten_cons,List.flatten_nil,List.append_nil]
   rw [show 208 * (j+1)=208 * j+208 by omega,List.take_add]
   congr 1
   rw [List.take_eq_take_iff,List.length_drop]; omega
  .simp only [List.length_append,List.length_cons,List.length_nil] at hi ⊢
   rcases Nat.lt_or_ge i ps.length with h2 | h2
   .rw [List.getElem_append_left h2]
    have:=hsz i h2
    refine ⟨this.1,this.2.1,fun _=>this.2.2 (.inr (by omega))⟩
   .have:i=ps.length:=by omega
    subst this
    simp only [List.getElem_append_right (Nat.le_refl _),Nat.sub_self,List.getElem_cons_zero,List.length_take,List.length_drop]
    omega
 .have hjl:v.length<=208 * j:=by omega
  refine k out ps w5 o5.rd (fun p hp=>⟨(hps p hp).1,fun q hq=>?_⟩) (fun q hq=>?_) (by rw [hfl,List.take_of_length_le hjl]) (by omega) (fun i hi=>?_) (x03.no x5)
  .rw [(hps p hp).2] at hq; have:=sb q hq; omega
  .have:=o5.lt hq; omega
  .have:=hsz i hi
   exact ⟨this.1,this.2.1,fun h=>this.2.2 (.inl h)⟩
theorem backward_spec{bv:Nat}{sl:Sl}{ps:List (Sl×List Int)}{yield:Value}{J:Nat->Wd->Prop}{K:Wd->Prop}(hn:ps.length<=65536)(hJ:∀ j w',J j w'->w'.heap[bv]? = some (.cells [.slice sl.a sl.len sl.cap].toArray 29 (0,0))/\Rd w'.heap sl 1 (ps.map fun p=>p.1.v))(h0:J 0 w)
  (step:∀ j w1 (hj:j < ps.length) (K':Bool->Wd->Prop),J j w1->(∀ w',J (j+1) w'->K' true w')->dynV pz true yield [.int .i64 ((ps.length - 1 - j:Nat):Int), .slice ps[ps.length - 1 - j].1.a ps[ps.length - 1 - j].1.len ps[ps.length - 1 - j].1.cap] [.one .bool] K' NoX w1)
  (k:∀ w',J ps.length w'->K w'):C_slices_Backward_byte_byte_1 yield (A1 bv) w K:=by
 apply S_slices_Backward_byte_byte_1
 obtain ⟨g,r⟩:=hJ 0 w h0
 have hl:sl.len=ps.length:=by have:=r.len; simp at this; exact this.symm
 refine ⟨sl,Cell.lst g rfl,Ar.i64 (by omega) ⟨fun mm i w'=>∃ j:Nat,i=(ps.length:Int) - 1 - j/\j<=ps.length/\mm=ps.length - j/\J j w',⟨ps.length,0,by omega,by omega,by omega,h0⟩,?_⟩⟩
 rintro _ m0 i w1 ⟨j,rfl,hj,hm,Jj⟩
 obtain ⟨g1,r1⟩:=hJ j w1 Jj
 refine If.dec (fun h=>?_) fun h=>?_
 .refine ⟨sl,Cell.lst g1 rfl,Ix.cell r1 (by omega) (by omega) fun bb o v _ hv hc=>?_⟩
  have e:((ps.length:Int) - 1 - j).toNat=ps.length - 1 - j:=by omega
  rw [e,List.getElem?_map,List.getElem?_eq_getElem (by omega)] at hv
  simp only [Option.map_some,Option.some.injEq] at hv
  subst hv
  have e2:((ps.length:Int) - 1 - j)=((ps.length - 1 - j:Nat):Int):=by omega
  rw [e2]
  refine ⟨_,hc,step j w1 (by omega) _ Jj fun w' J'=>If.not (If.yes (Ar.i64 (by omega) ⟨ps.length - (j+1),by omega,j+1,by omega,by omega,rfl,J'⟩))⟩
 .have:j=ps.length:=by omega
  subst this; exact k w1 Jj
end
end Go.Proofs.YtcamoanigdfihaaGreat
namespace Go.V
theorem rfPut_ext{l:Nat}{rf:Loop}{st:LoopState}{p:Option Code}{w:Wd}:Ext (fun q=>q=l) w (rfPut l rf st p w):=Wrt.ext (o := .loop { rf with state:=st,pending:=p }) rfl
theorem RfSt.lt{l:Nat}{rf:Loop}{st:LoopState}{p:Option Code}{w:Wd}(h:RfSt l rf st p w):l < w.heap.size:=by
 rcases Nat.lt_or_ge l w.heap.size with k | k
 .exact k
 .unfold RfSt at h; rw [Array.getElem?_eq_none k] at h; cases h
theorem RfSt.put{l:Nat}{rf:Loop}{st st':LoopState}{p p':Option Code}{w:Wd}(h:RfSt l rf st p w):RfSt l rf st' p' (rfPut l rf st' p' w):=World.putObj_heap_same h.lt
theorem rfPut_size{l:Nat}{rf:Loop}{st:LoopState}{p:Option Code}{w:Wd}:(rfPut l rf st p w).heap.size=w.heap.size:=by simp [rfPut,World.putObj]
theorem RfSt.ext{S:Nat->Prop}{l:Nat}{rf:Loop}{st:LoopState}{p:Option Code}{w w':Wd}(h:RfSt l rf st p w)(x:Ext S w w')(hS:¬ S l):RfSt l rf st p w':=by
 unfold RfSt; rw [x.blk l h.lt hS]; exact h
theorem defShut_ext{dk:Nat}{w:Wd}:Ext (fun q=>q=dk) w (defShut dk w):=Wrt.ext (o := .deferred none) rfl
theorem DefSt.lt{dk:Nat}{w:Wd}(h:DefSt dk w):dk < w.heap.size:=by
 rcases Nat.lt_or_ge dk w.heap.size with k | k
 .exact k
 .unfold DefSt at h; rw [Array.getElem?_eq_none k] at h; cases h
theorem DefSt.ext{S:Nat->Prop}{dk:Nat}{w w':Wd}(h:DefSt dk w)(x:Ext S w w')(hS:¬ S dk):DefSt dk w':=by
 unfold DefSt; rw [x.blk dk h.lt hS]; exact h
theorem RfNew.facts{w w1:Wd}{rf:Loop}{dk l:Nat}(n:RfNew w rf dk l w1):Ext No w w1/\w1.heap.size=w.heap.size+2/\RfSt l rf .ready none w1/\DefSt dk w1:=by
 obtain ⟨rfl,rfl,rfl⟩:=n
 refine ⟨⟨rfl,rfl,rfl,?_,fun b hb _=>?_⟩,?_,?_,?_⟩
 .show w.heap.size<=((w.heap.push _).push _).size
  rw [Array.size_push,Array.size_push]; omega
 .show ((w.heap.push _).push _)[b]? = _
  rw [heap_push _ _ _ (by rw [Array.size_push]; omega),heap_push _ _ _ hb]
 .show ((w.heap.push _).push _).size=_
  rw [Array.size_push,Array.size_push]
 .show ((w.heap.push _).push _)[w.heap.size+1]? = _
  rw [Array.getElem?_push,if_pos (by rw [Array.size_push])]
 .show ((w.heap.push _).push _)[w.heap.size]? = _
  rw [heap_push _ _ _ (by rw [Array.size_push]; omega),Array.getElem?_push,if_pos rfl]
theorem st_part{w:Wd}{b off n:Nat}{zs vs:List Value}{T:TypeId}{K:Wd->Prop}(hb:w.heap[b]? = some (.cells zs.toArray T (0,0)))(hl:vs.length=n)(hz:off+n<=zs.length)(hv:∀ v∈vs,oneC v=true)
  (k:∀ w',w'.heap[b]? = some (.cells (setL zs off vs).toArray T (0,0))->Ext (·=b) w w'->w'.heap.size=w.heap.size->K w'):List.length (α:=Value) vs=n/\StN w (Addr.mk b off none) vs K:=by
 refine ⟨hl,zs.toArray,T,(0,0),hb,rfl,by simp only [List.size_toArray]; omega, .inr (.inr (Nat.le_refl _)),hv,fun w2 hw=>?_⟩
 have hw':Wrt w b (.cells (setL zs off vs).toArray T (0,0)) w2:=hw
 exact k w2 (hw'.get hb) hw'.ext hw'.size
end Go.V
namespace Go.Proofs.YtcamoanigdfihaaGreat
open Go.V
section
variable {w:Wd} {T:Nat->Option Nat} {m:MemV} {M:Mm}
structure Stored(w w':Wd)(T T':Nat->Option Nat)(m m':MemV)(M M':Mm)(t:Int)(key val:List Int)(x:EntV)(e:Ent)(ps:List Rf):Prop where
 mem:MemR w'.heap T' m' M'
 bm:m'.bm=m.bm
 tg:Tg w T T'
 ext:Ext (Ts T) w w'
 er:EntR w'.heap x e
 keyE:e.key=key
 leaf:LeafE M'.f t e (key,val) ps
 ent:entP 1 0 e
 chg:Chg M M' 5 [] ps
 blk:∀ q,(x.k.blk=some q∨x.v.blk=some q)->w.heap.size<=q/\q < w'.heap.size/\T' q=none
set_option maxHeartbeats 4000000 in
theorem store_spec{t:Int}{ks vs:Sl}{key val:List Int}{K:Sl->Sl->Int->Int->Int->Int->Int->Int->Int->Int->Wd->Prop}(R:MemR w.heap T m M)(hk:RdB w.heap ks key)(hv:RdB w.heap vs val)(k8:B8 key)(v8:B8 val)(kl:1<=key.length/\key.length<=32)(vl:val.length<=1024)(hn:M.pages.length<=1000000)
  (k:∀ x e ps T' m' M' w',Stored w w' T T' m m' M M' t key val x e ps->K x.k x.v x.n x.ch.p x.ch.c x.ch.g x.cd.p x.cd.c x.cd.g 0 w'):C_tree_grove_store (srcV m) t ks vs w K:=by
 apply S_tree_grove_store
 have hkl:=RdB.len hk; have hvl:=RdB.len hv
 have sup:∀ q,w.heap.size<=q->T q=none:=fun q hq=>by
  cases h:T q with
  | none=>rfl
  | some t=>have:=R.sup q (by rw [h]; simp); omega
 refine NewW.mk fun b w1 n1=>NewW.mk fun b1 w2 n2=>NewW.mk fun b2 w3 n3=>?_
 have hb:=n1.at_; have hb1:=n2.at_; have hb2:=n3.at_; have z1:=n1.size; have z2:=n2.size; have z3:=n3.size
 have x03:Ext No w w3:=(n1.ext.no n2.ext).no n3.ext
 have g3:=get_no (get_no n1.get n2.ext) n3.ext
 have g13:=get_no n2.get n3.ext
 have g23:=n3.get
 refine clone_spec (Rd.no hk x03) (by omega) fun kS w4 kO x4=>?_
 refine new_set (vs:=EntV.cs ⟨kS,⟨none,0,0⟩,0, .z, .z⟩) rfl rfl (entCs_one _) fun b3 w6 g36 hb3 z6 x6=>?_
 have x36:Ext No w3 w6:=x4.no x6
 have s4:=x4.size
 have kO6:=kO.no x6
 have kb:∀ q,kS.blk=some q->w3.heap.size<=q/\q < w4.heap.size:=fun q hq=>kO.lt hq
 rw [hvl]
 refine If.dec (fun h64=>?_) fun h64=>?_
 .refine clone_spec (Rd.no hv (x03.no x36)) (by omega) fun vS w7 vO x7=>St1.mk (get_no g36 x7) (by simp [EntV.cs]) rfl fun w8 h8=>?_
  have g8:w8.heap[b3]? = some (.cells (EntV.cs ⟨kS,vS,0, .z, .z⟩).toArray 133 (0,0)):=h8.get (get_no g36 x7)
  have x8:Ext (·=b3) w7 w8:=h8.ext
  have z8:w8.heap.size=w7.heap.size:=h8.size
  have s7:=x7.size
  have vb:∀ q,vS.blk=some q->w6.heap.size<=q/\q < w7.heap.size:=fun q hq=>vO.lt hq
  refine ent_read g8 (st_all (get_ext (get_no g13 (x36.no x7)) x8 (by omega)) rfl rfl (entCs_one _) fun w9 g9 x9 z9=>?_)
  refine St1.b1 (get_ext (get_ext (get_no g23 (x36.no x7)) x8 (by omega)) x9 (by omega)) rfl fun w10 h10=>?_
  have x10:Ext (·=b2) w9 w10:=h10.ext
  have z10:w10.heap.size=w9.heap.size:=h10.size
  refine ent_read (x:=⟨kS,vS,0, .z, .z⟩) (get_ext g9 x10 (by omega)) ⟨_,Cell.lst (h10.get (get_ext (get_ext (get_no g23 (x36.no x7)) x8 (by omega)) x9 (by omega))) rfl,?_⟩
  have x710:Ext (fun q=>q=b3∨q=b1∨q=b2) w7 w10:=((x8.mono fun _ _ h => .inl h).trans x9 fun _ _ h => .inr (.inl h)).trans x10 fun _ _ h => .inr (.inr h)
  have xf:Ext No w w10:=((x03.no x36).no x7).trans x710 fun q hq h=>by omega
  refine k ⟨kS,vS,0, .z, .z⟩ ⟨key,val,0, .z, .z⟩ [] T m M w10 ⟨R.no xf,rfl,fun _ _=>rfl,xf.of_no,⟨?_,?_,rfl,rfl,rfl,k8,v8,⟨by show (-9223372036854775808:Int)<=0; decide,by show (0:Int)<=9223372036854775807; decide⟩,by show Rf.z.ok; decide,by show Rf.z.ok; decide⟩,rfl,⟨rfl,by simp⟩,?_,(Chg.refl M).as (by omega) (by simp) (by simp),fun q hq=>?_⟩
  .exact (kO6.rd.no x7).ext x710 fun a q ha hq h=>by have:=kb q (by simp [Sl.blk,ha,hq]); omega
  .exact vO.rd.ext x710 fun a q ha hq h=>by have:=vb q (by simp [Sl.blk,ha,hq]); omega
  .exact ⟨by unfold keyP; rw [if_neg (by decide)]; simp only; omega,by simp; omega⟩
  .have:=x710.size
   rcases hq with hq | hq
   .have:=kb q hq; exact ⟨by omega,by omega,sup q (by omega)⟩
   .have:=vb q hq; exact ⟨by omega,by omega,sup q (by omega)⟩
 .refine cut_spec (Rd.no hv (x03.no x36)) vl fun sl ps w11 rsl hps slb hfl hcnt hsz x11=>If.bne (fun h=>(h rfl).elim) fun _=>?_
  apply S_slices_Backward_byte_byte
  refine NewW.mk fun bv w14 n14=>?_
  intro rf dk lp w15 hnew hround
  obtain ⟨x15,z15,st15,df15⟩:=hnew.facts
  have hdk:=hnew.d; have hlp:=hnew.l
  have hbv:=n14.at_; have z14:=n14.size; have s11:=x11.size
  have x615:Ext No w6 w15:=(x11.no n14.ext).no x15
  have x1115:Ext No w11 w15:=n14.ext.no x15
  have x015:Ext No w w15:=(x03.no x36).no x615
  have x315:Ext No w3 w15:=x36.no x615
  let S:Nat->Prop:=fun q=>Ts T q∨q=b3∨q=lp
  have nS:∀{q},w.heap.size<=q->q≠b3->q≠lp->¬ S q:=fun {q} h1 h2 h3 h=>by
   rcases h with h | h | h
   .exact h (sup q h1)
   .exact h2 h
   .exact h3 h
  have hpn:ps.length<=5:=by omega
  have n8:∀ p∈ps,B8 p.2:=fun p hp=>v8.sub fun y hy=>by rw [<- hfl]; exact List.mem_flatten.2 ⟨p.2,List.mem_map.2 ⟨p,hp,rfl⟩,hy⟩
  let J:Nat->Wd->Prop:=fun j w'=>∃ (M':Mm) (T':Nat->Option Nat) (m':MemV) (cs:List (Rf×List Int)) (r:Rf),MemR w'.heap T' m' M'/\m'.bm=m.bm/\Tg w15 T T'/\Ext S w15 w'/\Chg M M' j [] (cs.map Prod.fst)/\ChainP M'.f t r cs/\cs.map Prod.snd=(ps.drop (ps.length - j)).map Prod.snd/\j<=ps.length /\
   w'.heap[b3]? = some (.cells (EntV.cs ⟨kS,⟨none,0,0⟩,0,r, .z⟩).toArray 133 (0,0))/\RfSt lp rf .ready none w'
  refine V_slices_Backward_byte_byte_1 (c0:=A1 bv) (backward_spec (J:=J) (sl:=sl) (ps:=ps) (by omega) (fun j w' hJ=>?_) ?_ (fun j w1' hj K' hJ hK'=>?_) fun w' hJ=>?_)
  .obtain ⟨M',T',m',cs,r,_,_,_,xJ,_⟩:=hJ
   refine ⟨get_ext (get_no n14.get x15) xJ (nS (by omega) (by omega) (by omega)),(rsl.no x1115).ext xJ fun a q ha hq=>?_⟩
   have:=slb q (by simp [Sl.blk,ha,hq])
   exact nS (by omega) (by omega) (by omega)
  .exact ⟨M,T,m,[], .z,R.no x015,rfl,fun _ _=>rfl,Ext.refl _ _,(Chg.refl M), .nil,by simp,by omega,get_no g36 x615,st15⟩
  .obtain ⟨M',T',m',cs,r,RJ,hbm,tgJ,xJ,cJ,chJ,eJ,hjl,gJ,stJ⟩:=hJ
   have hi:ps.length - 1 - j < ps.length:=by omega
   have hcl:cs.length=j:=by have:=congrArg List.length eJ; simp only [List.length_map,List.length_drop] at this; omega
   generalize hw2:rfPut lp rf .busy none w1'=w2' at *
   have hlt:=stJ.lt
   have x2:Ext (fun q=>q=lp) w1' w2':=hw2 ▸ rfPut_ext
   have st2:RfSt lp rf .busy none w2':=hw2 ▸ stJ.put
   have z2':w2'.heap.size=w1'.heap.size:=hw2 ▸ rfPut_size
   have nlp:T' lp=none:=by rw [tgJ lp (by omega)]; exact sup lp (by omega)
   have nb3:T' b3=none:=by rw [tgJ b3 (by omega)]; exact sup b3 (by omega)
   have R2:MemR w2'.heap T' m' M':=RJ.ext x2 fun q hq=>by rw [hq]; exact nlp
   have g2:=get_ext gJ x2 (by omega)
   have hpp:=hps _ (List.getElem_mem hi)
   have xJ2:Ext S w15 w2':=xJ.trans x2 fun _ _ h => .inr (.inr h)
   have pr:RdB w2'.heap ps[ps.length - 1 - j].1 ps[ps.length - 1 - j].2:=(Rd.no hpp.1 x1115).ext xJ2 fun a q ha hq=>by
    have:=hpp.2 q (by simp [Sl.blk,ha,hq])
    exact nS (by omega) (by omega) (by omega)
   have hsz1:=hsz _ hi
   refine hround _ ps[ps.length - 1 - j].1 w1' K' stJ ⟨stJ,?_⟩
   rw [hw2]
   refine ⟨_,Cell.lst g2 rfl,_,Cell.lst g2 rfl,_,Cell.lst g2 rfl,page_spec pr hsz1.1 hsz1.2.1 chJ.ok fun tS w3' tO x3'=>If.bne (fun h=>(h rfl).elim) fun _=>?_⟩
   have gb2:=get_ext (get_no g3 x315) xJ2 (nS (by omega) (by omega) (by omega))
   have h8p:B8 (chB ps[ps.length - 1 - j].2 r):=chB_b8 (n8 _ (List.getElem_mem hi))
   have hlen':M'.pages.length<=1048576:=by have:=cJ.len; omega
   have hsrc:srcV m=srcV m':=by show Value.iface 24 (.pointer (some ⟨m.bm,0,none⟩))=Value.iface 24 (.pointer (some ⟨m'.bm,0,none⟩)); rw [hbm]
   rw [hsrc] at gb2
   refine ⟨_,Cell.lst (get_no gb2 x3') rfl,_,Cell.lst (get_no gb2 x3') rfl,I_tree_Mem_Put (memPut_spec (R2.no x3') tO.rd h8p hlen' (fun n T'' m'' w4' _ hfree R4 hbm' tg' x4'=>?_) fun w4' hne _=>(hne (chB_len hsz1.2.1)).elim)⟩
   have g4:=get_ext (get_no g2 x3') x4' (fun h=>h nb3)
   have s15J:=xJ.size
   have s3':=x3'.size
   have s4':=x4'.size
   refine st_part (off:=3) g4 rfl (by simp [EntV.cs]) (by simp [oneC]) fun w5' g5 x5a z5'=>If.bne (fun h=>(h rfl).elim) fun _=>?_
   have x5':Ext (·=b3) w4' w5':=x5a
   have g5:w5'.heap[b3]? = _:=g5
   have st5:RfSt lp rf .busy none w5':=((st2.ext x3' (fun h=>h)).ext x4' (fun h=>h nlp)).ext x5' (by omega)
   refine ⟨st5,hK' _ ?_⟩
   have x56:Ext (fun q=>q=lp) w5' (rfPut lp rf .ready none w5'):=rfPut_ext
   have hTs:∀ q,q < w15.heap.size->Ts T' q->Ts T q:=fun q hq h=>by rw [show Ts T' q=(T' q≠none) from rfl,tgJ q hq] at h; exact h
   have xall:Ext S w15 (rfPut lp rf .ready none w5'):=(((xJ2.no x3').trans x4' fun q hq h => .inl (hTs q hq h)).trans x5' fun q _ h => .inr (.inl h)).trans x56 fun q _ h => .inr (.inr h)
   have tg2:Tg w15 T T'':=fun q hq=>by rw [tg' q (by have:=xJ2.size; omega),tgJ q hq]
   have hput:=Chg.put (M:=M') (n:=n) (t:=t) (k:=3) (v:=0) (pay:=chB ps[ps.length - 1 - j].2 r)
   have hpn2:=hfree.lo
   refine ⟨putM M' n t 3 0 (chB ps[ps.length - 1 - j].2 r),T'',m'',(⟨n,M'.commit,M'.gen⟩,ps[ps.length - 1 - j].2)::cs,⟨n,M'.commit,M'.gen⟩,(R4.ext x5' fun q hq=>?_).ext x56 fun q hq=>?_,hbm'.trans hbm,tg2,xall,?_,?_,?_,by omega,get_ext g5 x56 (by omega),st5.put⟩
   .rw [hq,tg2 b3 (by omega)]; exact sup b3 (by omega)
   .rw [hq,tg2 lp (by omega)]; exact sup lp (by omega)
   .refine (cJ.trans hput).as (by omega) (by simp) fun q=>?_
    simp only [List.nil_append,List.map_cons,List.count_append,List.count_cons,List.count_nil]; omega
   .refine .cons (fun h=>by have:=congrArg Rf.p h; simp only [Rf.z] at this; omega) ((at_lo R4 (putM_at hfree)).2) (putM_at hfree) hsz1.1 hsz1.2.1 (fun hne=>hsz1.2.2 ?_) (n8 _ (List.getElem_mem hi)) (chJ.keep (hput.keep fun q _ => .inl (by simp)))
    have:cs.length≠0:=fun h=>hne (List.eq_nil_of_length_eq_zero h)
    omega
   .rw [List.map_cons,eJ,show ps.length - j=ps.length - 1 - j+1 by omega,show ps.length - (j+1)=ps.length - 1 - j by omega,List.drop_eq_getElem_cons hi,List.map_cons]
  .obtain ⟨M',T',m',cs,r,RJ,hbm,tgJ,xJ,cJ,chJ,eJ,hjl,gJ,stJ⟩:=hJ
   refine .inr ⟨stJ,?_⟩
   generalize hw2:rfPut lp rf .exhausted none w'=w2' at *
   have x2:Ext (fun q=>q=lp) w' w2':=hw2 ▸ rfPut_ext
   have z2':w2'.heap.size=w'.heap.size:=hw2 ▸ rfPut_size
   have hlt:=stJ.lt
   have sJ:=xJ.size
   have nlp:T' lp=none:=by rw [tgJ lp (by omega)]; exact sup lp (by omega)
   have nb3:T' b3=none:=by rw [tgJ b3 (by omega)]; exact sup b3 (by omega)
   have hcl:cs.length=ps.length:=by have:=congrArg List.length eJ; simp only [List.length_map,List.length_drop] at this; omega
   rw [Nat.sub_self,List.drop_zero] at eJ
   have gX:=get_ext gJ x2 (by omega)
   refine St1.mk gX (by simp [EntV.cs]) rfl fun w25 h25=>?_
   have g25:w25.heap[b3]? = some (.cells (EntV.cs ⟨kS,⟨none,0,0⟩,val.length,r, .z⟩).toArray 133 (0,0)):=h25.get gX
   have x25:Ext (·=b3) w2' w25:=h25.ext
   have z25:w25.heap.size=w2'.heap.size:=h25.size
   have xJ25:Ext S w15 w25:=(xJ.trans x2 fun _ _ h => .inr (.inr h)).trans x25 fun _ _ h => .inr (.inl h)
   refine ent_read g25 (st_all (get_ext (get_no g13 x315) xJ25 (nS (by omega) (by omega) (by omega))) rfl rfl (entCs_one _) fun w26 g26 x26 z26=>?_)
   have g2b:=get_ext (get_ext (get_no g23 x315) xJ25 (nS (by omega) (by omega) (by omega))) x26 (by omega)
   refine St1.b1 g2b rfl fun w27 h27=>?_
   have x27:Ext (·=b2) w26 w27:=h27.ext
   have z27:w27.heap.size=w26.heap.size:=h27.size
   have d27:DefSt dk w27:=(((df15.ext xJ25 (nS (by omega) (by omega) (by omega))).ext x26 (by omega)).ext x27 (by omega))
   refine ⟨d27,?_⟩
   generalize hw28:defShut dk w27=w28 at *
   have x28:Ext (fun q=>q=dk) w27 w28:=hw28 ▸ defShut_ext
   have x2528:Ext (fun q=>q=b1∨q=b2∨q=dk) w25 w28:=((x26.mono fun _ _ h => .inl h).trans x27 fun _ _ h => .inr (.inl h)).trans x28 fun _ _ h => .inr (.inr h)
   have s28:=x2528.size
   refine ent_read (x:=⟨kS,⟨none,0,0⟩,val.length,r, .z⟩) (get_ext (get_ext g26 x27 (by omega)) x28 (by omega)) ⟨_,Cell.lst (get_ext (h27.get g2b) x28 (by omega)) rfl,?_⟩
   have xf:Ext (fun q=>Ts T q∨q=b3∨q=lp∨q=b1∨q=b2∨q=dk) w15 w28:=(xJ25.mono fun q _ h=>h.imp id fun h=>h.imp id .inl).trans x2528 fun q _ h => .inr (.inr (.inr h))
   have hcne:cs≠[]:=fun h=>by rw [h] at hcl; simp at hcl; omega
   have hrz:r ≠ .z:=by
    cases chJ with
    | nil=>exact (hcne rfl).elim
    | cons hz=>exact hz
   have hcv:chV cs=val:=by show (cs.map Prod.snd).flatten=val; rw [eJ,hfl]
   have tgn:∀ q,w.heap.size<=q->q < w15.heap.size->T' q=none:=fun q h1 h2=>by rw [tgJ q h2]; exact sup q h1
   have s15:=x015.size
   refine k ⟨kS,⟨none,0,0⟩,val.length,r, .z⟩ ⟨key,[],val.length,r, .z⟩ (cs.map Prod.fst) T' m' M' w28 ⟨?_,hbm,fun q hq=>tgJ q (by omega),?_,⟨?_,Rd.nil _ _,rfl,rfl,rfl,k8,B8.nil,⟨by show (-9223372036854775808:Int)<=val.length; omega,by show (val.length:Int)<=9223372036854775807; omega⟩,chJ.ok,by show Rf.z.ok; decide⟩,rfl,⟨rfl,?_⟩,?_,cJ.as (by omega) (by simp) (by simp),fun q hq=>?_⟩
   .refine (((RJ.ext x2 fun q hq=>by rw [hq]; exact nlp).ext x25 fun q hq=>by rw [hq]; exact nb3)).ext x2528 fun q hq=>?_
    exact tgn q (by omega) (by omega)
   .refine (x015.of_no).trans xf fun q hq h=>?_
    rcases h with h | h
    .exact h
    .omega
   .refine (kO6.rd.no x615).ext xf fun a q ha hq h=>?_
    have:=kb q (by simp [Sl.blk,ha,hq])
    rcases h with h | h
    .exact h (sup q (by omega))
    .omega
   .rw [if_neg (by simp only; omega)]
    exact ⟨rfl,cs,chJ,hcv,rfl⟩
   .refine ⟨by unfold keyP; rw [if_neg (by decide)]; simp only; omega,?_⟩
    rw [if_neg (by decide),if_neg (by simp only; omega)]
    exact ⟨rfl,by simp only; omega,by simp only; omega,hrz,rfl⟩
   .rcases hq with hq | hq
    .have:=kb q hq; have:=xf.size; exact ⟨by omega,by omega,tgn q (by omega) (by omega)⟩
    .simp [Sl.blk] at hq
end
end Go.Proofs.YtcamoanigdfihaaGreat
namespace Go.V
def kof:Value->ByteArray
 | .string s=>s
 | _=>ByteArray.empty
theorem born_inj{l:List MapEntry}(hn:(l.map (·.born)).Nodup){e e':MapEntry}(h:e∈l)(h':e'∈l)(hb:e.born=e'.born):e=e':=by
 induction l with
 | nil=>cases h
 | cons x l ih =>
  simp only [List.map_cons,List.nodup_cons] at hn
  rcases List.mem_cons.1 h with h1 | h1 <;> rcases List.mem_cons.1 h' with h2 | h2
  .rw [h1,h2]
  .exact absurd (List.mem_map.2 ⟨e',h2,by rw [<- hb,h1]⟩) hn.1
  .exact absurd (List.mem_map.2 ⟨e,h1,by rw [hb,h2]⟩) hn.1
  .exact ih hn.2 h1 h2
theorem nodup_of_map{α β:Type}(f:α->β){l:List α}(h:(l.map f).Nodup):l.Nodup:=List.Pairwise.of_map f (fun a b h e=>h (by rw [e])) h
end Go.V
namespace Go.Proofs.YtcamoanigdfihaaGreat
open Go.V
section
variable {w:Wd}
theorem map155:∃ kt et,Tryz.prog.underlying 155=some (.map kt et)/\Tryz.prog.underlying kt=some .string:=⟨9,58,by kernel_rfl,by kernel_rfl⟩
theorem keys1_spec{bc r:Nat}{m:List (ByteArray×Value)}{Inv:Nat->List ByteArray->Wd->Prop}{yield:Value}{K:Wd->Prop}
  (g:w.heap[bc]? = some (.cells [.map (some r)].toArray 155 (0,0))) (hm:MapR w.heap Value.string r m) (h0:∀ w',Ext No w w'->w'.heap.size=w.heap.size+1->Inv w.heap.size [] w')
  (hit:∀ it ks w' w'',Inv it ks w'->Ext (·=it) w' w''->Inv it ks w'')
  (step:∀ it ks k w' Kr,ks.length < m.length->it < w'.heap.size->Inv it ks w'->(∀ w'',Inv it (ks++[k]) w''->w''.heap[it]? = w'.heap[it]?->w''.heap[r]? = w'.heap[r]?->Kr true w'')->dynV pz true yield [.string k] [.one .bool] Kr NoX w')
  (k:∀ it ks w',ks.Perm (m.map Prod.fst)->Inv it ks w'->K w'):C_maps_Keys_map_string_api_Op_string_api_Op_1 yield ⟨bc,0,none⟩ w K:=by
 apply S_maps_Keys_map_string_api_Op_string_api_Op_1
 obtain ⟨kt,et,ht,_⟩:=map155
 obtain ⟨es,clock,hr,he,hB⟩:=hm
 obtain ⟨w1,hrun,hnew⟩:=run_range (P:=pz) ht hr
 have hes:es.toList.length=m.length:=by have:=congrArg List.length he; simpa using this
 have hrlt:r < w.heap.size:=blt hr
 have hn1:=hnew.size
 refine ⟨some r,Cell.lst g rfl,some ⟨w.heap.size,0,none⟩,w1,hrun,?_⟩
 refine ⟨fun q w'=>∃ seen:List MapEntry,q=es.toList.length - seen.length/\(∀ e∈seen,e∈es.toList)/\(seen.map (·.born)).Nodup/\w'.heap[w.heap.size]? = some (.mapIter (some r) clock (seen.map (·.born)).toArray clock)/\w'.heap[r]? = some (.map es clock)/\Inv w.heap.size (seen.map fun e=>kof e.key) w',⟨_,[],rfl,by simp,by simp,hnew.get,get_no hr hnew.ext,h0 w1 hnew.ext hnew.size⟩,?_⟩
 rintro _ m0 w2 ⟨seen,hq,hsub,hnd,hi,hmr,hI⟩
 have hperm:seen.length<=es.toList.length:=by
  have h1:seen.Nodup:=nodup_of_map _ hnd
  exact List.Nodup.length_le_of_subset h1 hsub
 rcases run_next (P:=pz) hi hmr hB with ⟨hall,w',hrun',hx⟩ | ⟨e,hem,hes',w',hrun',hi',hx⟩
 .refine .inl ⟨w',hrun',k w.heap.size _ w' ?_ (hit _ _ _ _ hI (hx.of_no))⟩
  have hp:seen.Perm es.toList:=(List.perm_ext_iff_of_nodup (nodup_of_map _ hnd) (nodup_of_map _ hB.1)).2 fun x=>⟨hsub x,fun hx'=>by
   have:=hall x hx'
   simp only [List.mem_map] at this
   obtain ⟨y,hy,hb⟩:=this
   exact born_inj hB.1 (hsub y hy) hx' hb ▸ hy⟩
  have h2:es.toList.map (fun e=>kof e.key)=m.map Prod.fst:=by
   have:=congrArg (List.map fun p:Value×Value=>kof p.1) he
   simpa [List.map_map,Function.comp_def,kof] using this
  rw [<- h2]; exact hp.map _
 .have hmr':w'.heap[r]? = some (.map es clock):=get_ext hmr hx (by omega)
  have hkey:∃ s,e.key = .string s:=by
   have:(e.key,e.val)∈es.toList.map (fun e=>(e.key,e.val)):=List.mem_map.2 ⟨e,hem,rfl⟩
   rw [he] at this
   obtain ⟨p,_,hp⟩:=List.mem_map.1 this
   exact ⟨p.1,(congrArg Prod.fst hp).symm⟩
  obtain ⟨ks,hks⟩:=hkey
  have hsz:seen.length < es.toList.length:=by
   have h1:(e::seen).Nodup:=List.nodup_cons.2 ⟨fun h=>hes' (by simpa using List.mem_map.2 ⟨e,h,rfl⟩),nodup_of_map _ hnd⟩
   have:=List.Nodup.length_le_of_subset h1 (l₂:=es.toList) fun x hx=>by
    rcases List.mem_cons.1 hx with h | h
    .rw [h]; exact hem
    .exact hsub x h
   simp only [List.length_cons] at this; omega
  refine .inr ⟨e.key,e.val,w',hrun',e.key,e.val,w',run_entry hi' hmr' hB hem,?_⟩
  rw [hks]
  refine step _ _ ks w' _ (by rw [List.length_map]; omega) (blt hi') (hit _ _ _ _ hI hx) fun w'' hI' h1 h2=>If.not (If.yes ?_)
  refine ⟨_,?_,seen++[e],rfl,fun x hx=>?_,?_,?_,by rw [h2]; exact hmr',by simpa [hks,kof] using hI'⟩
  .simp only [List.length_append,List.length_cons,List.length_nil]; omega
  .rcases List.mem_append.1 hx with h | h
   .exact hsub x h
   .rw [List.mem_singleton] at h; rw [h]; exact hem
  .rw [List.map_append]
   refine List.nodup_append.2 ⟨hnd,by simp,fun a ha b hb=>?_⟩
   simp only [List.map_cons,List.map_nil,List.mem_singleton] at hb
   intro hab
   exact hes' (by rw [hab,hb] at ha; simpa using ha)
  .rw [h1,hi']; simp
theorem appendKeys_spec{bc r:Nat}{m:List (ByteArray×Value)}{K:Sl->Wd->Prop}(g:w.heap[bc]? = some (.cells [.map (some r)].toArray 155 (0,0)))(hm:MapR w.heap Value.string r m)(hl:m.length<=65535)
  (k:∀ s ks w',ks.Perm (m.map Prod.fst)->Own w'.heap w.heap.size 9 1 s (strs ks)->Ext No w w'->K s w'):C_slices_AppendSeq_string_string ⟨none,0,0⟩ (.func (.func 120) #[] #[.pointer (some ⟨bc,0,none⟩)]) w K:=by
 apply S_slices_AppendSeq_string_string
 refine NewW.mk fun b w1 n1=>?_
 have hb:=n1.at_; have z1:=n1.size
 intro rf dk lp w2 hnew hyield
 obtain ⟨x12,z2,hrf,hdf⟩:=hnew.facts
 have hlp:lp=w1.heap.size+1:=hnew.l
 have hdk:dk=w1.heap.size:=hnew.d
 have x02:Ext No w w2:=n1.ext.no x12
 have g2:=get_no g x02
 have gb2:=get_no n1.get x12
 have hm2:=hm.ext x02 fun h=>h
 have hrlt:r < w.heap.size:=by obtain ⟨es,c,h,_⟩:=hm; exact blt h
 refine V_maps_Keys_map_string_api_Op_string_api_Op_1 (keys1_spec (Inv:=fun it ks w'=>RfSt lp rf .ready none w'/\DefSt dk w'/\Ext No w w'/\∃ s:Sl,w'.heap[b]? = some (.cells [.slice s.a s.len s.cap].toArray 156 (0,0))/\Own w'.heap (it+1) 9 1 s (strs ks)/\it=w2.heap.size) g2 hm2 (fun w' x' z'=>⟨hrf.ext x' fun h=>h,hdf.ext x' fun h=>h,x02.no x',⟨none,0,0⟩,get_no gb2 x',Own.nil _ _ _ _,rfl⟩) ?_ ?_ ?_)
 .rintro it ks w' w'' ⟨h1,h2,h3,s,h4,h5,rfl⟩ x
  exact ⟨h1.ext x (by omega),h2.ext x (by omega),h3.trans x fun q hq h=>by have:=x02.size; omega,s,get_ext h4 x (by omega),h5.ext x fun q hq h=>by have:=h5.lt hq; omega,rfl⟩
 .rintro it ks y w' Kr hks hlt ⟨h1,h2,h3,s,h4,h5,rfl⟩ hk
  have hle:=h3.size
  have slt:∀ q,s.blk=some q->w2.heap.size+1<=q/\q < w'.heap.size:=fun q hq=>h5.lt hq
  have xb:Ext (·=lp) w' (rfPut lp rf .busy none w'):=rfPut_ext
  have zb:(rfPut lp rf .busy none w').heap.size=w'.heap.size:=rfPut_size
  refine hyield y w' Kr h1 ⟨h1,s,Cell.lst (get_ext h4 xb (by omega)) rfl,NewW.mk fun b1 w4 n4=>?_⟩
  have hb1:=n4.at_; have z4:=n4.size
  have x4:Ext (·=lp) w' w4:=xb.no n4.ext
  have o4:=h5.ext x4 fun q hq h=>by have:=slt q hq; omega
  have g4:=get_ext h4 x4 (by omega)
  have hsl:=o4.len
  simp only [List.length_map,Nat.mul_one] at hsl
  have oy:Own w4.heap (rfPut lp rf .busy none w').heap.size 9 1 ⟨some ⟨b1,0,none⟩,1,1⟩ [.string y]:=Own.new n4 rfl (by simp [oneC])
  refine app_string o4 (by omega) oy.rd.src (by show (s.len+1) * 16<=_; omega) fun s1 w5 o5 l5 x5 hbl=>?_
  have z5:=x5.size
  have x45:Ext (fun q=>s.blk=some q) w4 w5:=x5
  have g5:=get_ext g4 x45 fun h=>by have:=slt b h; omega
  refine St1.mk g5 (by simp) rfl fun w6 h6=>?_
  have x56:Ext (·=b) w5 w6:=h6.ext
  have z6:=x56.size
  have x46:Ext (fun q=>q=lp∨s.blk=some q∨q=b) w' w6:=((x4.mono fun _ _ h => .inl h).trans x45 fun _ _ h => .inr (.inl h)).trans x56 fun _ _ h => .inr (.inr h)
  have hst6:RfSt lp rf .busy none w6:=by
   have ha:RfSt lp rf .busy none (rfPut lp rf .busy none w'):=h1.put
   exact (((ha.ext n4.ext fun h=>h).ext x45 fun h=>by have:=slt lp h; omega).ext x56 (by omega))
  have x6r:Ext (·=lp) w6 (rfPut lp rf .ready none w6):=rfPut_ext
  have xall:Ext (fun q=>q=lp∨s.blk=some q∨q=b) w' (rfPut lp rf .ready none w6):=x46.trans x6r fun _ _ h => .inl h
  have s1b:∀ q,s1.blk=some q->w2.heap.size+1<=q:=fun q hq=>(o5.lt hq).1
  refine ⟨hst6,hk _ ⟨hst6.put,h2.ext xall fun h=>?_,h3.trans xall fun q hq h=>?_,s1,get_ext (h6.get g5) x6r (by omega),?_,rfl⟩ (xall.blk _ hlt fun h=>?_) (xall.blk _ (by omega) fun h=>?_)⟩
  .rcases h with h | h | h
   .omega
   .have:=slt dk h; omega
   .omega
  .rcases h with h | h | h
   .omega
   .have:=slt q h; omega
   .omega
  .have o6:=((o5.ext x56 fun q hq h=>by have:=s1b q hq; omega).ext x6r fun q hq h=>by have:=s1b q hq; omega)
   rw [show strs (ks++[y])=strs ks++[Value.string y] by simp]
   exact o6
  .rcases h with h | h | h
   .omega
   .have:=slt _ h; omega
   .omega
  .rcases h with h | h | h
   .omega
   .have:=slt _ h; omega
   .omega
 .rintro it ks w' hp ⟨h1,h2,h3,s,h4,h5,rfl⟩
  have xp:Ext (·=lp) w' (rfPut lp rf .exhausted none w'):=rfPut_ext
  have xd:Ext (·=dk) (rfPut lp rf .exhausted none w') (defShut dk (rfPut lp rf .exhausted none w')):=defShut_ext
  refine ⟨h1,s,Cell.lst (get_ext h4 xp (by omega)) rfl,h2.ext xp (by omega),k s ks _ hp ?_ ?_⟩
  .exact (((h5.mono (by omega)).ext xp fun q hq h=>by have:=h5.lt hq; omega).ext xd fun q hq h=>by have:=h5.lt hq; omega)
  .exact (h3.trans xp fun q hq h=>by omega).trans xd fun q hq h=>by omega
end
end Go.Proofs.YtcamoanigdfihaaGreat
namespace Go.V
def kofU:Value->Int
 | .int _ n=>n
 | _=>0
end Go.V
namespace Go.Proofs.YtcamoanigdfihaaGreat
open Go.V
section
variable {w:Wd}
theorem map134:∃ kt et,Tryz.prog.underlying 134=some (.map kt et):=⟨33,187,by kernel_rfl⟩
theorem keys1U_spec{bc r:Nat}{m:List (Int×Value)}{Inv:Nat->List Int->Wd->Prop}{yield:Value}{K:Wd->Prop}
  (g:w.heap[bc]? = some (.cells [.map (some r)].toArray 134 (0,0))) (hm:MapR w.heap (fun a:Int=>Value.int .u32 a) r m) (h0:∀ w',Ext No w w'->w'.heap.size=w.heap.size+1->Inv w.heap.size [] w')
  (hit:∀ it ks w' w'',Inv it ks w'->Ext (·=it) w' w''->Inv it ks w'')
  (step:∀ it ks k w' Kr,ks.length < m.length->it < w'.heap.size->Inv it ks w'->(∀ w'',Inv it (ks++[k]) w''->w''.heap[it]? = w'.heap[it]?->w''.heap[r]? = w'.heap[r]?->Kr true w'')->dynV pz true yield [.int .u32 k] [.one .bool] Kr NoX w')
  (k:∀ it ks w',ks.Perm (m.map Prod.fst)->Inv it ks w'->K w'):C_maps_Keys_map_uint32_tree_page_uint32_tree_page_1 yield ⟨bc,0,none⟩ w K:=by
 apply S_maps_Keys_map_uint32_tree_page_uint32_tree_page_1
 obtain ⟨kt,et,ht⟩:=map134
 obtain ⟨es,clock,hr,he,hB⟩:=hm
 obtain ⟨w1,hrun,hnew⟩:=run_range (P:=pz) ht hr
 have hes:es.toList.length=m.length:=by have:=congrArg List.length he; simpa using this
 have hrlt:r < w.heap.size:=blt hr
 have hn1:=hnew.size
 refine ⟨some r,Cell.lst g rfl,some ⟨w.heap.size,0,none⟩,w1,hrun,?_⟩
 refine ⟨fun q w'=>∃ seen:List MapEntry,q=es.toList.length - seen.length/\(∀ e∈seen,e∈es.toList)/\(seen.map (·.born)).Nodup/\w'.heap[w.heap.size]? = some (.mapIter (some r) clock (seen.map (·.born)).toArray clock)/\w'.heap[r]? = some (.map es clock)/\Inv w.heap.size (seen.map fun e=>kofU e.key) w',⟨_,[],rfl,by simp,by simp,hnew.get,get_no hr hnew.ext,h0 w1 hnew.ext hnew.size⟩,?_⟩
 rintro _ m0 w2 ⟨seen,hq,hsub,hnd,hi,hmr,hI⟩
 have hperm:seen.length<=es.toList.length:=by
  have h1:seen.Nodup:=nodup_of_map _ hnd
  exact List.Nodup.length_le_of_subset h1 hsub
 rcases run_next (P:=pz) hi hmr hB with ⟨hall,w',hrun',hx⟩ | ⟨e,hem,hes',w',hrun',hi',hx⟩
 .refine .inl ⟨w',hrun',k w.heap.size _ w' ?_ (hit _ _ _ _ hI (hx.of_no))⟩
  have hp:seen.Perm es.toList:=(List.perm_ext_iff_of_nodup (nodup_of_map _ hnd) (nodup_of_map _ hB.1)).2 fun x=>⟨hsub x,fun hx'=>by
   have:=hall x hx'
   simp only [List.mem_map] at this
   obtain ⟨y,hy,hb⟩:=this
   exact born_inj hB.1 (hsub y hy) hx' hb ▸ hy⟩
  have h2:es.toList.map (fun e=>kofU e.key)=m.map Prod.fst:=by
   have:=congrArg (List.map fun p:Value×Value=>kofU p.1) he
   simpa [List.map_map,Function.comp_def,kofU] using this
  rw [<- h2]; exact hp.map _
 .have hmr':w'.heap[r]? = some (.map es clock):=get_ext hmr hx (by omega)
  have hkey:∃ s,e.key = .int .u32 s:=by
   have:(e.key,e.val)∈es.toList.map (fun e=>(e.key,e.val)):=List.mem_map.2 ⟨e,hem,rfl⟩
   rw [he] at this
   obtain ⟨p,_,hp⟩:=List.mem_map.1 this
   exact ⟨p.1,(congrArg Prod.fst hp).symm⟩
  obtain ⟨ks,hks⟩:=hkey
  have hsz:seen.length < es.toList.length:=by
   have h1:(e::seen).Nodup:=List.nodup_cons.2 ⟨fun h=>hes' (by simpa using List.mem_map.2 ⟨e,h,rfl⟩),nodup_of_map _ hnd⟩
   have:=List.Nodup.length_le_of_subset h1 (l₂:=es.toList) fun x hx=>by
    rcases List.mem_cons.1 hx with h | h
    .rw [h]; exact hem
    .exact hsub x h
   simp only [List.length_cons] at this; omega
  refine .inr ⟨e.key,e.val,w',hrun',e.key,e.val,w',run_entry hi' hmr' hB hem,?_⟩
  rw [hks]
  refine step _ _ ks w' _ (by rw [List.length_map]; omega) (blt hi') (hit _ _ _ _ hI hx) fun w'' hI' h1 h2=>If.not (If.yes ?_)
  refine ⟨_,?_,seen++[e],rfl,fun x hx=>?_,?_,?_,by rw [h2]; exact hmr',by simpa [hks,kofU] using hI'⟩
  .simp only [List.length_append,List.length_cons,List.length_nil]; omega
  .rcases List.mem_append.1 hx with h | h
   .exact hsub x h
   .rw [List.mem_singleton] at h; rw [h]; exact hem
  .rw [List.map_append]
   refine List.nodup_append.2 ⟨hnd,by simp,fun a ha b hb=>?_⟩
   simp only [List.map_cons,List.map_nil,List.mem_singleton] at hb
   intro hab
   exact hes' (by rw [hab,hb] at ha; simpa using ha)
  .rw [h1,hi']; simp
theorem appendKeysU_spec{bc r:Nat}{m:List (Int×Value)}{K:Sl->Wd->Prop}(g:w.heap[bc]? = some (.cells [.map (some r)].toArray 134 (0,0)))(hm:MapR w.heap (fun a:Int=>Value.int .u32 a) r m)(hl:m.length<=65535)
  (k:∀ s ks w',ks.Perm (m.map Prod.fst)->Own w'.heap w.heap.size 33 1 s (strsU ks)->Ext No w w'->K s w'):C_slices_AppendSeq_uint32_uint32 ⟨none,0,0⟩ (.func (.func 178) #[] #[.pointer (some ⟨bc,0,none⟩)]) w K:=by
 apply S_slices_AppendSeq_uint32_uint32
 refine NewW.mk fun b w1 n1=>?_
 have hb:=n1.at_; have z1:=n1.size
 intro rf dk lp w2 hnew hyield
 obtain ⟨x12,z2,hrf,hdf⟩:=hnew.facts
 have hlp:lp=w1.heap.size+1:=hnew.l
 have hdk:dk=w1.heap.size:=hnew.d
 have x02:Ext No w w2:=n1.ext.no x12
 have g2:=get_no g x02
 have gb2:=get_no n1.get x12
 have hm2:=hm.ext x02 fun h=>h
 have hrlt:r < w.heap.size:=by obtain ⟨es,c,h,_⟩:=hm; exact blt h
 refine V_maps_Keys_map_uint32_tree_page_uint32_tree_page_1 (keys1U_spec (Inv:=fun it ks w'=>RfSt lp rf .ready none w'/\DefSt dk w'/\Ext No w w'/\∃ s:Sl,w'.heap[b]? = some (.cells [.slice s.a s.len s.cap].toArray 238 (0,0))/\Own w'.heap (it+1) 33 1 s (strsU ks)/\it=w2.heap.size) g2 hm2 (fun w' x' z'=>⟨hrf.ext x' fun h=>h,hdf.ext x' fun h=>h,x02.no x',⟨none,0,0⟩,get_no gb2 x',Own.nil _ _ _ _,rfl⟩) ?_ ?_ ?_)
 .rintro it ks w' w'' ⟨h1,h2,h3,s,h4,h5,rfl⟩ x
  exact ⟨h1.ext x (by omega),h2.ext x (by omega),h3.trans x fun q hq h=>by have:=x02.size; omega,s,get_ext h4 x (by omega),h5.ext x fun q hq h=>by have:=h5.lt hq; omega,rfl⟩
 .rintro it ks y w' Kr hks hlt ⟨h1,h2,h3,s,h4,h5,rfl⟩ hk
  have hle:=h3.size
  have slt:∀ q,s.blk=some q->w2.heap.size+1<=q/\q < w'.heap.size:=fun q hq=>h5.lt hq
  have xb:Ext (·=lp) w' (rfPut lp rf .busy none w'):=rfPut_ext
  have zb:(rfPut lp rf .busy none w').heap.size=w'.heap.size:=rfPut_size
  refine hyield y w' Kr h1 ⟨h1,s,Cell.lst (get_ext h4 xb (by omega)) rfl,NewW.mk fun b1 w4 n4=>?_⟩
  have hb1:=n4.at_; have z4:=n4.size
  have x4:Ext (·=lp) w' w4:=xb.no n4.ext
  have o4:=h5.ext x4 fun q hq h=>by have:=slt q hq; omega
  have g4:=get_ext h4 x4 (by omega)
  have hsl:=o4.len
  simp only [List.length_map,Nat.mul_one] at hsl
  have oy:Own w4.heap (rfPut lp rf .busy none w').heap.size 33 1 ⟨some ⟨b1,0,none⟩,1,1⟩ [.int .u32 y]:=Own.new n4 rfl (by simp [oneC])
  refine app_uint32 o4 (by omega) oy.rd.src (by show (s.len+1) * 4<=_; omega) fun s1 w5 o5 l5 x5 hbl=>?_
  have z5:=x5.size
  have x45:Ext (fun q=>s.blk=some q) w4 w5:=x5
  have g5:=get_ext g4 x45 fun h=>by have:=slt b h; omega
  refine St1.mk g5 (by simp) rfl fun w6 h6=>?_
  have x56:Ext (·=b) w5 w6:=h6.ext
  have z6:=x56.size
  have x46:Ext (fun q=>q=lp∨s.blk=some q∨q=b) w' w6:=((x4.mono fun _ _ h => .inl h).trans x45 fun _ _ h => .inr (.inl h)).trans x56 fun _ _ h => .inr (.inr h)
  have hst6:RfSt lp rf .busy none w6:=by
   have ha:RfSt lp rf .busy none (rfPut lp rf .busy none w'):=h1.put
   exact (((ha.ext n4.ext fun h=>h).ext x45 fun h=>by have:=slt lp h; omega).ext x56 (by omega))
  have x6r:Ext (·=lp) w6 (rfPut lp rf .ready none w6):=rfPut_ext
  have xall:Ext (fun q=>q=lp∨s.blk=some q∨q=b) w' (rfPut lp rf .ready none w6):=x46.trans x6r fun _ _ h => .inl h
  have s1b:∀ q,s1.blk=some q->w2.heap.size+1<=q:=fun q hq=>(o5.lt hq).1
  refine ⟨hst6,hk _ ⟨hst6.put,h2.ext xall fun h=>?_,h3.trans xall fun q hq h=>?_,s1,get_ext (h6.get g5) x6r (by omega),?_,rfl⟩ (xall.blk _ hlt fun h=>?_) (xall.blk _ (by omega) fun h=>?_)⟩
  .rcases h with h | h | h
   .omega
   .have:=slt dk h; omega
   .omega
  .rcases h with h | h | h
   .omega
   .have:=slt q h; omega
   .omega
  .have o6:=((o5.ext x56 fun q hq h=>by have:=s1b q hq; omega).ext x6r fun q hq h=>by have:=s1b q hq; omega)
   rw [show strsU (ks++[y])=strsU ks++[Value.int .u32 y] by simp]
   exact o6
  .rcases h with h | h | h
   .omega
   .have:=slt _ h; omega
   .omega
  .rcases h with h | h | h
   .omega
   .have:=slt _ h; omega
   .omega
 .rintro it ks w' hp ⟨h1,h2,h3,s,h4,h5,rfl⟩
  have xp:Ext (·=lp) w' (rfPut lp rf .exhausted none w'):=rfPut_ext
  have xd:Ext (·=dk) (rfPut lp rf .exhausted none w') (defShut dk (rfPut lp rf .exhausted none w')):=defShut_ext
  refine ⟨h1,s,Cell.lst (get_ext h4 xp (by omega)) rfl,h2.ext xp (by omega),k s ks _ hp ?_ ?_⟩
  .exact (((h5.mono (by omega)).ext xp fun q hq h=>by have:=h5.lt hq; omega).ext xd fun q hq h=>by have:=h5.lt hq; omega)
  .exact (h3.trans xp fun q hq h=>by omega).trans xd fun q hq h=>by omega
end
end Go.Proofs.YtcamoanigdfihaaGreat
namespace Go.V
theorem kvOp_nil(k:List Int)(o:Option (List Int)):kvOp k o []=(o.map fun v=>(k,v)).toList:=by simp [kvOp,kvLo,kvHi]
theorem kvOp_one(k:List Int)(o:Option (List Int))(v:List Int):kvOp k o [(k,v)]=(o.map fun v=>(k,v)).toList:=by
 have h:decide (LtB k k)=false:=decide_eq_false fun h=>h.irrefl
 simp [kvOp,kvLo,kvHi,h]
theorem leafE_chain{f:Pages}{t:Int}{e:Ent}{kv:KV}{ps:List Rf}{i:Int}(h:LeafE f t e kv ps)(he:entP 1 i e):∃ cs,ChainP f t e.ch cs/\cs.map Prod.fst=ps/\cs.length<=5:=by
 have h2:=he.2
 rw [if_neg (by decide)] at h2
 obtain ⟨_,h2⟩:=h2
 have h3:=h.2
 split at h3
 .rename_i h0
  rw [if_pos h0] at h2
  refine ⟨[],?_,by rw [h3.2]; rfl,by simp⟩
  rw [h2.1]; exact .nil
 .rename_i h0
  rw [if_neg h0] at h2
  obtain ⟨hn,cs,hc,hcv,hps⟩:=h3
  obtain ⟨_,c2,_⟩:=Go.Proofs.YtcamoanigdfihaaGreat.chain_sizes hc
  refine ⟨cs,hc,hps,?_⟩
  rw [hcv] at c2; omega
structure OpIn(w:Wd)(T:Nat->Option Nat)(oK oV:Sl)(key val:List Int):Prop where
 kR:Rd w.heap oK 1 (key.map (Value.int .u8))
 vR:Rd w.heap oV 1 (val.map (Value.int .u8))
 k8:B8 key
 v8:B8 val
 kl:1<=key.length/\key.length<=32
 vl:val.length<=1024
 ku:key≠[]->∀ q,oK.blk=some q->T q=none
 vu:val≠[]->∀ q,oV.blk=some q->T q=none
theorem Rd.extE{S:Nat->Prop}{w w':Wd}{s:Sl}{l:List Int}(h:Rd w.heap s 1 (l.map (Value.int .u8)))(x:Ext S w w')(hS:l≠[]->∀ q,q < w.heap.size->s.blk=some q->¬ S q):Rd w'.heap s 1 (l.map (Value.int .u8)):=by
 rcases Classical.em (l=[]) with h2 | h2
 .rw [h2] at h ⊢
  exact ⟨h.len,h.cap,fun h=>(h rfl).elim,h.cells⟩
 .refine h.ext x fun a q ha hq=>?_
  have h1:s.blk=some q:=by simp [Sl.blk,ha,hq]
  exact hS h2 q (h.lt (by simpa using h2) h1) h1
theorem OpIn.ext{S:Nat->Prop}{w w':Wd}{T:Nat->Option Nat}{oK oV:Sl}{key val:List Int}(o:OpIn w T oK oV key val)(x:Ext S w w')(hS:∀ q,q < w.heap.size->S q->T q≠none):OpIn w' T oK oV key val :=
 ⟨o.kR.extE x fun hn q hl hq h=>hS q hl h (o.ku hn q hq),o.vR.extE x fun hn q hl hq h=>hS q hl h (o.vu hn q hq),o.k8,o.v8,o.kl,o.vl,o.ku,o.vu⟩
abbrev opV(d:Bool)(val:List Int):Option (List Int):=if d then none else some val
structure AltS(base:Nat)(w w':Wd)(T T':Nat->Option Nat)(m m':MemV)(M M':Mm)(t:Int)(lev:Nat)(kvs':List KV)(ps ps':List Rf)(sl:Sl)(ls:List LimbV):Prop where
 mem:MemR w'.heap T' m' M'
 bm:m'.bm=m.bm
 tg:Tg w T T'
 ext:Ext (fun q=>Ts T q∨base<=q) w w'
 lm:LimbsR w'.heap (fun q=>base<=q/\T' q=none) (kindL lev) lev sl ls
 lp:LimbsP M'.f t lev (limbsOf ls) kvs' ps'
 chg:Chg M M' (5+2 * lev) ps ps'
theorem kind_eq(lev:Nat):(if ((lev:Nat):Int)=0 then (1:Int) else 2)=kindL lev:=by
 unfold kindL; split <;> split <;> omega
theorem MemR.supT{h:Array Obj}{T:Nat->Option Nat}{m:MemV}{M:Mm}(R:MemR h T m M){q:Nat}(hq:h.size<=q):T q=none:=by
 cases e:T q with
 | none=>rfl
 | some t=>have:=R.sup q (by rw [e]; simp); omega
end Go.V
namespace Go.Proofs.YtcamoanigdfihaaGreat
open Go.V
def AlterOK(t:Int)(lev:Nat):Prop:=∀{w:Wd}{T:Nat->Option Nat}{m:MemV}{M:Mm}{r:Rf}{kvs:List KV}{ps:List Rf}{oK oV:Sl}{key val:List Int}{d:Bool}{K:Sl->Int->Wd->Prop},MemR w.heap T m M->SubT M.f t lev r kvs ps->Sub ps M->OpIn w T oK oV key val->M.pages.length<=1000000 ->
 (∀ sl ls ps' T' m' M' w',AltS w.heap.size w w' T T' m m' M M' t lev (kvOp key (opV d val) kvs) ps ps' sl ls->K sl 0 w')->C_tree_grove_alter (srcV m) t r.p r.c r.g lev oK oV d w K
def BranchOK(t:Int)(lev:Nat):Prop:=∀{w:Wd}{T:Nat->Option Nat}{m:MemV}{M:Mm}{base:Nat}{s:Sl}{L:List (EntV×Ent)}{kvs:List KV}{ps:List Rf}{oK oV:Sl}{key val:List Int}{d:Bool}{K:Sl->Int->Wd->Prop},MemR w.heap T m M->NdQ w.heap (fun q=>base<=q/\T q=none) s L->base<=w.heap.size ->
 RightP 2 ((lev+1:Nat):Int) (ents L)->(wr 2 ((lev+1:Nat):Int) (ents L)).length<=224->EOk (ents L)->2<=L.length->KidsP (SubT M.f t lev) (ents L) kvs ps->Sub ps M->OpIn w T oK oV key val->M.pages.length<=1000000 ->
 (∀ sl ls ps' T' m' M' w',AltS base w w' T T' m m' M M' t (lev+1) (kvOp key (opV d val) kvs) ps ps' sl ls->K sl 0 w')->C_tree_grove_branch (srcV m) t 2 ((lev+1:Nat):Int) s oK oV d w K
section
variable {w:Wd} {T:Nat->Option Nat} {m:MemV} {M:Mm}
set_option maxHeartbeats 4000000 in
theorem alter_spec{t:Int}:∀{lev:Nat},(∀ l',lev=l'+1->BranchOK t l')->AlterOK t lev:=by
 intro lev hbr w T m M r kvs ps oK oV key val d K R hT hs ho hn k
 apply S_tree_grove_alter
 obtain ⟨l,ps',hN,hne,h2,hB,rfl⟩:=hT.open_
 have sup:∀ q,w.heap.size<=q->T q=none:=fun q hq=>R.supT hq
 refine NewW.mk fun b w1 n1=>NewW.mk fun b1 w2 n2=>NewW.mk fun b2 w3 n3=>?_
 have hb:=n1.at_; have hb1:=n2.at_; have hb2:=n3.at_; have z1:=n1.size; have z2:=n2.size; have z3:=n3.size
 have x03:Ext No w w3:=(n1.ext.no n2.ext).no n3.ext
 have g3:=get_no (get_no n1.get n2.ext) n3.ext
 have g13:=get_no n2.get n3.ext
 have g23:=n3.get
 refine ⟨_,Cell.lst g3 rfl,_,Cell.lst g3 rfl,_,Cell.lst g13 rfl,_,Cell.lst g13 rfl,_,Cell.lst g13 rfl,_,Cell.lst g13 rfl,?_⟩
 have hkl:kindOf ((lev:Nat):Int)=kindL lev:=kind_eq lev
 refine node_at (R.no x03) (by rw [hkl]; exact hN) hne fun s L w4 oL eL x4=>NewW.mk fun b3 w5 n5=>st3 n5.get rfl fun w6 g6 x6 z6=>If.bne (fun h=>(h rfl).elim) fun _=>?_
 have hb3:=n5.at_; have z5:=n5.size; have s4:=x4.size
 have x46:Ext No w4 w6:=n5.ext.trans x6 fun q hq h=>by omega
 have x36:Ext No w3 w6:=x4.no x46
 have x06:Ext No w w6:=x03.no x36
 have oL6:NdO w6.heap w3.heap.size s L:=oL.no x46
 have slt:∀ q,s.blk=some q->q < b3:=fun q hq=>by have:=oL.own.lt hq; omega
 have hsr:=hs.mem (q:=r) List.mem_cons_self
 obtain ⟨d0,dc⟩:=Chg.drop R.sane hsr
 refine ⟨_,Cell.lst (get_no g3 x36) rfl,_,Cell.lst (get_no g13 x36) rfl,_,Cell.lst (get_no g13 x36) rfl,_,Cell.lst (get_no g13 x36) rfl,I_tree_Mem_Drop (memDrop_spec (r:=r) (R.no x06) fun w7 R7 x7=>?_)⟩
 rw [d0]
 generalize hM1:(dropM M r).2=M1 at *
 have nT:∀ q,w.heap.size<=q->¬ Ts T q:=fun q hq h=>h (sup q hq)
 have g7:=get_ext (get_no g3 x36) x7 (nT b (by omega))
 have g17:=get_ext (get_no g13 x36) x7 (nT b1 (by omega))
 have g27:=get_ext (get_no g23 x36) x7 (nT b2 (by omega))
 have g37:=get_ext g6 x7 (nT b3 (by omega))
 have x07:Ext (Ts T) w w7:=x06.of_no.trans x7 fun _ _ h=>h
 have ho7:OpIn w7 T oK oV key val:=ho.ext x07 fun q _ h=>h
 have s7:=x07.size
 have Bq:∀{q},w.heap.size<=q->(w.heap.size<=q/\T q=none):=fun h=>⟨h,sup _ h⟩
 have nd7:NdQ w7.heap (fun q=>w.heap.size<=q/\T q=none) s L:=(oL6.q fun q h _=>Bq (by omega)).ext x7 fun q hq _ h=>h hq.2
 have hsub':Sub ps' M1:=Sub.chg (a:=[r]) hs dc fun q=>Nat.le_refl _
 have hap:∀ q∈ps',q ∉ [r]:=fun q hq h=>Sub.apart (a:=[r]) R.sane hs h hq
 have hB1:Body M1.f t lev l kvs ps':=hB.keep (dc.keep fun q hq => .inl (hap q hq))
 have hcnt:=wr_count hN.short
 have hL:=ents_len eL
 have hok:EOk l:=hN.ok
 have hlen1:M1.pages.length<=1000000:=by have:=dc.len; omega
 refine If.bne (fun h=>(h rfl).elim) fun _=>⟨_,Cell.lst g17 rfl,If.dec (fun hpos=>?_) fun hpos=>?_⟩
 .-- an inner node
  obtain ⟨l',rfl⟩ : ∃ l',lev=l'+1:=⟨lev - 1,by omega⟩
  have e2:kindOf (((l'+1:Nat)):Int)=2:=by rw [hkl]; exact if_neg (by omega)
  rw [e2] at g37
  refine ⟨_,Cell.lst g7 rfl,_,Cell.lst g7 rfl,ld3 g37 ⟨_,Cell.lst g27 rfl,_,Cell.lst g27 rfl,_,Cell.lst g27 rfl,?_⟩⟩
  have hN2:RightP 2 ((l'+1:Nat):Int) (ents L):=by rw [eL]; exact hN.right
  refine hbr l' rfl R7 nd7 (by omega) hN2 (by rw [eL]; exact hN.short) (by rw [eL]; exact hok) (by rw [hL]; exact h2 (by omega)) (by rw [eL]; exact hB1) hsub' ho7 hlen1 fun sl ls ps'' T' m' M' w8 A=>k sl ls ps'' T' m' M' w8 ⟨A.mem,A.bm,fun q hq=>A.tg q (by omega),?_,A.lm,A.lp,?_⟩
  .exact (x07.mono fun _ _ h => .inl h).trans A.ext fun q _ h=>h
  .refine (dc.trans A.chg).as (by omega) (by simp) fun q=>?_
   simp only [List.count_append,List.count_cons,List.count_nil]; omega
 .-- a leaf
  have h0:lev=0:=by omega
  subst h0
  have e1:kindOf (((0:Nat)):Int)=1:=rfl
  rw [e1] at g37
  have hLf:LeafL M1.f t l kvs ps':=hB1
  have hri:RiseP l:=rise_iff.1 hN.right.ord
  have hlef:LefP l:=RightP.lef (lev:=0) hN.right
  refine ld3 g37 ⟨_,Cell.lst g27 rfl,find_spec nd7.nd ho7.kR ho.k8 (by omega) fun i fd w9 hf x9=>?_⟩
  rw [eL] at hf
  obtain ⟨f1,f2,f3⟩:=find_cut hf hri
  have hile:=hf.le
  have R9:=R7.no x9
  have g9:=get_no g7 x9
  have g29:=get_no g27 x9
  have g39:=get_no g37 x9
  have nd9:NdQ w9.heap (fun q=>w.heap.size<=q/\T q=none/\q≠b3) s L:=(((oL.q (B:=fun q=>w.heap.size<=q/\T q=none/\q≠b3) fun q h h'=>⟨by omega,sup q (by omega),by omega⟩).ext (n5.ext.of_no.trans (S:=fun q=>q=b3) x6 fun _ _ h=>h) fun q hq _ h=>hq.2.2 h).ext x7 fun q hq _ h=>h hq.2.1).no x9
  have x09:Ext (Ts T) w w9:=x07.no x9
  have ho9:OpIn w9 T oK oV key val:=ho.ext x09 fun q _ h=>h
  have s9:=x09.size
  -- the list without the key
  have spl:∃ ka km kb pa pm pb,LeafL M1.f t (l.take i) ka pa/\LeafL M1.f t (l.drop (if fd then i+1 else i)) kb pb/\kvs=ka++(km++kb)/\ps'=pa++(pm++pb)/\kvOp key (opV d val) km=((opV d val).map fun v=>(key,v)).toList/\(fd=true->∃ (hi:i < l.length) (kv:KV),LeafE M1.f t l[i] kv pm)/\(fd=false->pm=[]):=by
   cases fd with
   | false =>
    have e:l=l.take i++l.drop i:=(List.take_append_drop i l).symm
    have h:=hLf
    rw [e] at h
    obtain ⟨ka,kb,pa,pb,a1,a2,a3,a4⟩:=h.split
    exact ⟨ka,[],kb,pa,[],pb,a1,by simpa using a2,by simpa using a3,by simpa using a4,kvOp_nil _ _,fun h=>absurd h (by decide),fun _=>rfl⟩
   | true =>
    have hi:=f3 rfl
    have e:l=l.take i++([l[i]]++l.drop (i+1)):=by
     conv=>lhs; rw [<- List.take_append_drop i l,List.drop_eq_getElem_cons hi]
     rfl
    have h:=hLf
    rw [e] at h
    obtain ⟨ka,k2,pa,p2,a1,a2,rfl,rfl⟩:=h.split
    obtain ⟨km,kb,pm,pb,b1',b2',rfl,rfl⟩:=a2.split
    cases b1' with
    | @cons _ _ kv kvs0 p ps0 he hr0 =>
     cases hr0
     refine ⟨ka,[kv],kb,pa,p,pb,a1,by simpa using b2',by simp,by simp,?_,fun _=>⟨hi,kv,he⟩,fun h=>absurd h (by decide)⟩
     have hk:kv.1=key:=by rw [<- he.1]; exact (hf.eq.1 rfl).2
     obtain ⟨kv1,kv2⟩:=kv
     simp only at hk
     subst hk
     exact kvOp_one _ _ _
  obtain ⟨ka,km,kb,pa,pm,pb,sa,sb,rfl,rfl,hkm,hfd,hfd0⟩:=spl
  have hka:∀ x∈ka,LtB x.1 key:=fun x hx=>by obtain ⟨e,he,h⟩:=sa.mem hx; rw [<- h]; exact f1 e he
  have hkb:∀ x∈kb,LtB key x.1:=fun x hx=>by obtain ⟨e,he,h⟩:=sb.mem hx; rw [<- h]; exact f2 e he
  have hop:kvOp key (opV d val) (ka++(km++kb))=ka++(((opV d val).map fun v=>(key,v)).toList++kb):=by rw [kvOp_mid hka hkb,hkm]
  have hsm:Sub pm M1:=Sub.left (Sub.right hsub')
  have nb3s:¬ s.blk=some b3:=fun h=>by have:=slt b3 h; omega
  have nbs:∀ q,q < b3->w3.heap.size > q->¬ s.blk=some q:=fun q _ h2 h=>by have:=oL.own.lt h; omega
  have tB:∀{q},s.blk=some q->T q=none:=fun h=>(nd7.sb _ h).2
  have sw:∀{q},s.blk=some q->w.heap.size<=q:=fun h=>(nd7.sb _ h).1
  refine ⟨fun w'=>∃ (M2:Mm) (s2:Sl) (L2:List (EntV×Ent)),MemR w'.heap T m M2/\Ext (fun q=>Ts T q∨s.blk=some q∨q=b3) w9 w'/\NdB w'.heap b3 1 0 s2/\NdQ w'.heap (fun q=>w.heap.size<=q/\T q=none/\q≠b3) s2 L2/\ents L2=l.take i++l.drop (if fd then i+1 else i)/\s2.blk=s.blk/\Chg M1 M2 0 pm [],If.cases (fun hfb=>?_) (fun hfb=>?_),?_⟩
  .subst hfb
   obtain ⟨hi,kv,hE⟩:=hfd rfl
   have hiL:i < L.length:=by omega
   have hLi:L[i].2=l[i]:=by
    have:=congrArg (fun l=>l[i]?) eL
    simp only [List.getElem?_map,List.getElem?_eq_getElem hiL,List.getElem?_eq_getElem hi,Option.map_some,Option.some.injEq] at this
    exact this
   have nl9:=nd9.nd.len
   obtain ⟨cs,hcs,hcps,hcl⟩:=leafE_chain hE (hlef.ent _ (List.getElem_mem hi))
   refine ⟨Ext (Ts T) w9,(Ext.refl _ _).drew,_,Held.but (Cell.lst g9 rfl) (nT b (by omega)),_,Held.but (Cell.lst g9 rfl) (nT b (by omega)),s,Held.but (Cell.lst g39 rfl) (nT b3 (by omega)),Ix.elem nd9.nd.rd (entCs_len L) (by decide) (by omega) (by omega) fun bb o hi3 hsb hc=>?_⟩
   have nbb:¬ Ts T bb:=fun h=>h (tB hsb)
   simp only [Int.toNat_natCast] at hi3 hc
   refine ⟨_,Held.but (hc 0 _ rfl) nbb,_,Held.but (hc 1 _ rfl) nbb,_,Held.but (hc 2 _ rfl) nbb,_,Held.but (hc 3 _ rfl) nbb,_,Held.but (hc 4 _ rfl) nbb,_,Held.but (hc 5 _ rfl) nbb,_,Held.but (hc 6 _ rfl) nbb,_,Held.but (hc 7 _ rfl) nbb,_,Held.but (hc 8 _ rfl) nbb,?_⟩
   have er:=nd9.nd.get hi3
   rw [hLi] at er
   refine forget_spec (w:=drewW w9) R9 er.ch hcs hcl (by rw [hcps]; exact hsm) fun M2 w10 R10 c10 x10=>⟨x10.drew_left,If.bne (fun h=>(h rfl).elim) fun _=>?_⟩
   rw [hcps] at c10
   have x10':Ext (Ts T) w9 w10:=x10.drew_left
   have g310:=get_ext g39 x10' (nT b3 (by omega))
   have nd10:NdQ w10.heap (fun q=>w.heap.size<=q/\T q=none/\q≠b3) s L:=nd9.ext x10' fun q hq _ h=>h hq.2.1
   refine ⟨s,Cell.lst g310 rfl,Ar.i64 (by omega) (delete_spec nd10 (by omega) (by simpa using hiL) (by omega) fun s' w11 nd11 hblk x11=>?_)⟩
   have g311:=get_ext g310 x11 nb3s
   refine St1.mk g311 (by simp) rfl fun w12 h12=>?_
   have x12:Ext (·=b3) w11 w12:=h12.ext
   have xx:Ext (fun q=>s.blk=some q∨q=b3) w10 w12:=(x11.mono fun _ _ h => .inl h).trans x12 fun _ _ h => .inr h
   refine ⟨M2,s',L.take i++L.drop (i+1),R10.ext xx fun q hq=>?_,(x10'.mono fun _ _ h => .inl h).trans xx fun _ _ h => .inr h,h12.get g311,?_,?_,hblk,c10⟩
   .rcases hq with h | h
    .exact tB h
    .rw [h]; exact sup b3 (by omega)
   .exact nd11.ext x12 fun q hq _ h=>hq.2.2 h
   .show (L.take i++L.drop (i+1)).map Prod.snd=_
    rw [List.map_append,List.map_take,List.map_drop,show L.map Prod.snd=l from eL,if_pos rfl]
  .subst hfb
   refine ⟨M1,s,L,R9,Ext.refl _ _,g39,nd9,?_,rfl,?_⟩
   .rw [eL,if_neg (by decide),List.take_append_drop]
   .rw [hfd0 rfl]; exact Chg.refl M1
  rintro _ w13 ⟨M2,s2,L2,R13,x13,g313,nd13,eL2,hs2,c2⟩
  have s13:=x13.size
  have b3lt:=blt g313
  have nX:∀ q,w.heap.size<=q->q < w3.heap.size->¬ (Ts T q∨s.blk=some q∨q=b3):=fun q h1 h2 h=>by
   rcases h with h | h | h
   .exact nT q h1 h
   .have:=oL.own.lt h; omega
   .omega
  have g13b:=get_ext g9 x13 (nX b (by omega) (by omega))
  have g213:=get_ext g29 x13 (nX b2 (by omega) (by omega))
  have x013:Ext (Ts T) w w13:=x09.trans x13 fun q hq h=>by
   rcases h with h | h | h
   .exact h
   .have:=sw h; omega
   .omega
  have ho13:OpIn w13 T oK oV key val:=ho.ext x013 fun q _ h=>h
  have hlen2:M2.pages.length<=1000000:=by have:=c2.len; omega
  have hap2:∀{a b:List Rf},Sub (a++b) M1->(∀ q∈pm,q∈a)->∀ q∈b,q ∉ pm:=fun h h1 q hq h2=>Sub.apart R7.sane h (h1 q h2) hq
  have kpa:Keep M1.f M2.f pa:=c2.keep fun q hq => .inl fun h=>by
   have h3:Sub (pa++(pm++pb)) M1:=hsub'
   exact Sub.apart R7.sane h3 hq (List.mem_append_left _ h)
  have kpb:Keep M1.f M2.f pb:=c2.keep fun q hq => .inl fun h=>Sub.apart (a:=pm) R7.sane (Sub.right hsub') h hq
  have sa2:=sa.keep kpa
  have sb2:=sb.keep kpb
  have hl2len:L2.length=i+(l.drop (if fd then i+1 else i)).length:=by have:=congrArg List.length eL2; simp only [List.length_map,List.length_append,List.length_take] at this; omega
  have hdl:(l.drop (if fd then i+1 else i)).length<=l.length - i:=by rw [List.length_drop]; split <;> omega
  have hlef2:LefP (l.take i++l.drop (if fd then i+1 else i)):=by
   cases fd with
   | false=>simpa using hlef
   | true =>
    have hi:=f3 rfl
    refine LefP.sub (b:=[l[i]]) ?_
    have e:l.take i++([l[i]]++l.drop (if true then i+1 else i))=l:=by
     rw [if_pos rfl]
     conv=>rhs; rw [<- List.take_append_drop i l,List.drop_eq_getElem_cons hi]
     rfl
    rw [e]; exact hlef
  have hok2:EOk (l.take i++l.drop (if fd then i+1 else i)):=hok.take.append fun e he=>hok e (List.mem_of_mem_drop he)
  have hsz2:szL 1 (l.take i++l.drop (if fd then i+1 else i))<=szL 1 l:=by
   rw [szL_append]
   have h1:=szL_split 1 l i
   have h2:szL 1 (l.drop (if fd then i+1 else i))<=szL 1 (l.drop i):=by
    split
    .have:=szL_split 1 (l.drop i) 1
     rw [List.drop_drop] at this; omega
    .exact Nat.le_refl _
   omega
  have hsh:=hN.short
  rw [wr_len] at hsh
  have hsh':3+szL 1 l<=224:=hsh
  generalize hl2:l.drop (if fd then i+1 else i)=lr at *
  have chg0:∀{M':Mm}{ns:List Rf},Chg M2 M' 5 [] ns->Chg M M' (5+2 * 0) (r::(pa++(pm++pb))) (pa++(ns++pb)):=fun {M' ns} c=>by
   refine ((dc.trans c2).trans c).as (by omega) (fun q hq=>?_) fun q=>?_
   .simp only [List.append_nil,List.singleton_append,List.mem_cons,List.mem_append] at hq ⊢
    rcases hq with h | h
    .exact .inl h
    .exact .inr (.inr (.inl h))
   .simp only [List.count_append,List.count_cons,List.count_nil]; omega
  refine ⟨d,Cell.lst g213 rfl,?_⟩
  rw [hop] at k
  cases d with
  | true =>
   refine If.not (If.yes (ld3 g313 ?_))
   have hl2n:ents L2≠[]->RightP 1 0 (ents L2):=fun _=>by rw [eL2]; exact hlef2.right
   refine parts_spec (B:=fun q=>w.heap.size<=q/\T q=none) (nd13.mono fun q _ h=>⟨h.1,h.2.1⟩) (fun q hq=>Bq (by omega)) hl2n (by omega) (fun hb=>?_) fun ls sl w14 lm lp x14=>?_
   .rw [wr_len,eL2] at hb; omega
   .rw [eL2] at lp
    refine k sl ls (pa++([]++pb)) T m M2 w14 ⟨R13.no x14,rfl,fun _ _=>rfl,((x013.no x14).mono fun _ _ h => .inl h),lm,PartsP.limbs (lev:=0) lp hok2 (show LeafL M2.f t (l.take i++lr) (ka++([]++kb)) (pa++([]++pb)) from LeafL.append sa2 sb2),chg0 ((Chg.refl M2).as (by omega) (by simp) (by simp))⟩
  | false =>
   refine If.not (If.no ⟨_,Cell.lst g13b rfl,_,Cell.lst g13b rfl,_,Cell.lst g213 rfl,_,Cell.lst g213 rfl,?_⟩)
   refine store_spec R13 ho13.kR ho13.vR ho.k8 ho.v8 ho.kl ho.vl hlen2 fun x e psn T' m' M3 w14 St=>?_
   have s14:=St.ext.size
   have sup':∀ q,w14.heap.size<=q->T' q=none:=fun q hq=>St.mem.supT hq
   have tT:∀ q,q < w13.heap.size->T' q=T q:=St.tg
   refine new_set (vs:=x.cs) rfl rfl (entCs_one _) fun b4 w16 g16 hb4 z16 x16=>If.bne (fun h=>(h rfl).elim) fun _=>?_
   have g316:=get_no (get_ext g313 St.ext (nT b3 (by omega))) x16
   refine ⟨s2,Cell.lst g316 rfl,ent_read g16 (NewW.mk fun b5 w17 n17=>?_)⟩
   have hb5:=n17.at_; have z17:=n17.size
   have x1417:Ext No w14 w17:=x16.no n17.ext
   have nd13':NdQ w13.heap (fun q=>w.heap.size<=q/\T' q=none/\q≠b3) s2 L2:=nd13.mono fun q h' h=>⟨h.1,by rw [tT q h']; exact h.2.1,h.2.2⟩
   have nd17:NdQ w17.heap (fun q=>w.heap.size<=q/\T' q=none/\q≠b3) s2 L2:=(nd13'.ext St.ext fun q hq h' h=>h (by rw [<- tT q h']; exact hq.2.1)).no x1417
   have s2lt:∀ q,s2.blk=some q->q < w13.heap.size:=fun q hq=>(nd13.own.lt hq).2
   have ne17:NewE w17 (fun q=>w.heap.size<=q/\T' q=none/\q≠b3) s2 ⟨some ⟨b5,0,none⟩,1,1⟩ [(x,e)]:=by
    refine ⟨by have:=entOwn (y:=x) n17; simpa using this.mono (Nat.zero_le _),fun p hp=>?_,fun p hp q hq=>?_,fun q hq h=>?_⟩
    .rw [List.mem_singleton] at hp; subst hp; exact St.er.no x1417
    .rw [List.mem_singleton] at hp; subst hp
     have:=St.blk q hq
     exact ⟨⟨by omega,this.2.2,by omega⟩,by omega,fun h=>by have:=s2lt q h; omega⟩
    .simp [Sl.blk] at hq; have:=s2lt q h; omega
   refine insert_spec (i:=(i:Int)) nd17 ne17 (by simp) (by omega) (by simp only [Int.toNat_natCast]; omega) (by omega) (by simp) (fun q hq=>⟨by omega,sup' q (by omega),by omega⟩) fun s3 w18 nd18 hs3 x18=>?_
   rw [Int.toNat_natCast] at nd18
   have nb32:¬ s2.blk=some b3:=fun h=>by rw [hs2] at h; exact nb3s h
   have g318:=get_ext (get_no g316 n17.ext) x18 nb32
   refine St1.mk g318 (by simp) rfl fun w19 h19=>?_
   have x19:Ext (·=b3) w18 w19:=h19.ext
   have g319:NdB w19.heap b3 1 0 s3:=h19.get g318
   have z19:w19.heap.size=w18.heap.size:=h19.size
   have s18:=x18.size
   have nd19:=nd18.ext x19 fun q hq _ h=>hq.2.2 h
   have eL3:ents (L2.take i++([(x,e)]++L2.drop i))=l.take i++(e::lr):=by
    show (L2.take i++([(x,e)]++L2.drop i)).map Prod.snd=_
    rw [List.map_append,List.map_append,List.map_take,List.map_drop,show L2.map Prod.snd=_ from eL2]
    have h1:(l.take i).length=i:=by rw [List.length_take]; omega
    rw [List.take_left' h1,List.drop_left' h1]; rfl
   have hke:e.key=key:=St.keyE
   have hlef3:LefP (l.take i++(e::lr)):=hlef2.insert St.ent (fun y hy=>by rw [hke]; exact f1 y hy) (fun y hy=>by rw [hke]; exact f2 y hy)
   have hsz3:(wr 1 0 (l.take i++(e::lr))).length<=323:=by
    have h1:=szE_le St.ent
    rw [wr_len,szL_append,szL_cons]
    rw [szL_append] at hsz2
    omega
   have nX2:∀{q},(s2.blk=some q∨q=b3)->T' q=none:=fun {q} h=>by
    rcases h with h | h
    .rw [hs2] at h
     rw [tT q (by have:=oL.own.lt h; omega)]; exact tB h
    .rw [h,tT b3 (by omega)]; exact sup b3 (by omega)
   have x1719:Ext (fun q=>s2.blk=some q∨q=b3) w17 w19:=(x18.mono fun _ _ h => .inl h).trans x19 fun _ _ h => .inr h
   have R19:MemR w19.heap T' m' M3:=(St.mem.no x1417).ext x1719 fun q hq=>nX2 hq
   have hok3:EOk (l.take i++(e::lr)):=(EOk.take hok).append fun y hy=>by
    rcases List.mem_cons.1 hy with h | h
    .subst h; exact ⟨⟨St.er.cho,St.er.cdo⟩,St.er.k8,St.er.v8⟩
    .exact hok2 y (List.mem_append_right _ h)
   refine ld3 g319 (parts_spec (B:=fun q=>w.heap.size<=q/\T' q=none) (nd19.mono fun q _ h=>⟨h.1,h.2.1⟩) (fun q hq=>⟨by omega,sup' q (by omega)⟩) (fun _=>by rw [eL3]; exact hlef3.right) (by simp only [List.length_append,List.length_take,List.length_cons,List.length_nil,List.length_drop]; omega) (fun hb=>?_) fun ls sl w20 lm lp x20=>?_)
   .rw [eL3] at hb ⊢; exact valid_ex hlef3.right hb (by omega)
   .rw [eL3] at lp
    have ksa:Keep M2.f M3.f pa:=St.chg.keep fun q _ => .inl (by simp)
    have ksb:Keep M2.f M3.f pb:=St.chg.keep fun q _ => .inl (by simp)
    have x1320:Ext (fun q=>Ts T q∨w.heap.size<=q) w13 w20:=((St.ext.mono fun _ _ h => .inl h).trans ((x1417.of_no).trans x1719 fun _ _ h=>h) fun q hq h => .inr (by
     rcases h with h | h
     .rw [hs2] at h; exact sw h
     .omega)).no x20
    refine k sl ls (pa++(psn++pb)) T' m' M3 w20 ⟨R19.no x20,St.bm,fun q hq=>tT q (by omega),(x013.mono fun _ _ h => .inl h).trans x1320 fun q _ h=>h,lm,PartsP.limbs (lev:=0) lp hok3 (LeafL.append (sa2.keep ksa) (.cons ?_ (sb2.keep ksb))),chg0 St.chg⟩
    exact St.leaf
end
section
variable {w:Wd} {T:Nat->Option Nat} {m:MemV} {M:Mm}
def FreshTail(b b_1:Nat)(i:Int)(l first:Sl)(K:Sl->Int->Wd->Prop)(w:Wd):Prop :=
 ∃ I0:Nat->Sl->Int->Wd->Prop,(∃ m,I0 m ⟨none,0,0⟩ 0 w)/\∀(_:Env)(m0:Nat)(fresh:Sl)(t_1:Int)(w34:Wd),I0 m0 fresh t_1 w34 ->
 If (decide (t_1 < ((l.len:Int)))) (
 Ix l.a l.len t_1 4 fun a_16 =>
 ∃ c_46:Sl,Cell w34 a_16 (.slice c_46.a c_46.len c_46.cap) /\
 ∃ c_47:Int,Cell w34 (a_16.add 1) (.int .u8 c_47) /\
 ∃ c_48:Int,Cell w34 (a_16.add 2) (.int .u8 c_48) /\
 ∃ c_49:Sl,Cell w34 (a_16.add 3) (.slice c_49.a c_49.len c_49.cap) /\
 NewW w34 (.cells [.slice none 0 0, .int .u8 0, .int .u8 0, .slice none 0 0].toArray 277) fun b_6 w35 =>
 List.length (α:=Value) [.slice c_46.a c_46.len c_46.cap, .int .u8 c_47, .int .u8 c_48, .slice c_49.a c_49.len c_49.cap]=4/\StN w35 (Addr.mk b_6 0 none) [.slice c_46.a c_46.len c_46.cap, .int .u8 c_47, .int .u8 c_48, .slice c_49.a c_49.len c_49.cap] fun w36 =>
 ∃ c_50:Value,Cell w36 (Addr.mk b 0 none) (c_50) /\
 ∃ c_51:Int,Cell w36 ((Addr.mk b 0 none).add 1) (.int .u32 c_51) /\
 ∃ c_52:Int,Cell w36 ((Addr.mk b_6 0 none).add 1) (.int .u8 c_52) /\
 ∃ c_53:Int,Cell w36 (((Addr.mk b_6 0 none).add 1).add 1) (.int .u8 c_53) /\
 ∃ c_54:Sl,Cell w36 (((Addr.mk b_6 0 none).add 1).add 2) (.slice c_54.a c_54.len c_54.cap) /\
 C_tree_grove_write c_50 c_51 c_52 c_53 c_54 w36 fun r00_3 r01_3 r02_3 r03 r1_11 w37 =>
 NewW w37 (.cells [.int .u32 0, .int .u64 0, .int .u16 0, .int .u8 0].toArray 47) fun b_7 w38 =>
 List.length (α:=Value) [.int .u32 r00_3, .int .u64 r01_3, .int .u16 r02_3, .int .u8 r03]=4/\StN w38 (Addr.mk b_7 0 none) [.int .u32 r00_3, .int .u64 r01_3, .int .u16 r02_3, .int .u8 r03] fun w39 =>
 If (r1_11 != 0) (
 K ⟨none,0,0⟩ r1_11 w39) (
 ∃ vv_27:Sl,Cell w39 (Addr.mk b_6 0 none) (.slice vv_27.a vv_27.len vv_27.cap) /\
 ∃ c_55:Int,Cell w39 (Addr.mk b_7 0 none) (.int .u32 c_55) /\
 ∃ c_56:Int,Cell w39 ((Addr.mk b_7 0 none).add 1) (.int .u64 c_56) /\
 ∃ c_57:Int,Cell w39 ((Addr.mk b_7 0 none).add 2) (.int .u16 c_57) /\
 NewW w39 (.cells [.slice none 0 0, .slice none 0 0, .int .i64 0, .int .u32 0, .int .u64 0, .int .u16 0, .int .u32 0, .int .u64 0, .int .u16 0].toArray 133) fun b_8 w40 =>
 List.length (α:=Value) [.slice vv_27.a vv_27.len vv_27.cap, .slice none 0 0, .int .i64 0, .int .u32 0, .int .u64 0, .int .u16 0, .int .u32 c_55, .int .u64 c_56, .int .u16 c_57]=9/\StN w40 (Addr.mk b_8 0 none) [.slice vv_27.a vv_27.len vv_27.cap, .slice none 0 0, .int .i64 0, .int .u32 0, .int .u64 0, .int .u16 0, .int .u32 c_55, .int .u64 c_56, .int .u16 c_57] fun w41 =>
 If (t_1 == 0) (
 St1 w41 (Addr.mk b_8 0 none) (.slice first.a first.len first.cap) fun w42 =>
 ∃ c_58:Sl,Cell w42 (Addr.mk b_8 0 none) (.slice c_58.a c_58.len c_58.cap) /\
 ∃ c_59:Sl,Cell w42 ((Addr.mk b_8 0 none).add 1) (.slice c_59.a c_59.len c_59.cap) /\
 ∃ c_60:Int,Cell w42 ((Addr.mk b_8 0 none).add 2) (.int .i64 c_60) /\
 ∃ c_61:Int,Cell w42 ((Addr.mk b_8 0 none).add 3) (.int .u32 c_61) /\
 ∃ c_62:Int,Cell w42 ((Addr.mk b_8 0 none).add 4) (.int .u64 c_62) /\
 ∃ c_63:Int,Cell w42 ((Addr.mk b_8 0 none).add 5) (.int .u16 c_63) /\
 ∃ c_64:Int,Cell w42 ((Addr.mk b_8 0 none).add 6) (.int .u32 c_64) /\
 ∃ c_65:Int,Cell w42 ((Addr.mk b_8 0 none).add 7) (.int .u64 c_65) /\
 ∃ c_66:Int,Cell w42 ((Addr.mk b_8 0 none).add 8) (.int .u16 c_66) /\
 NewW w42 (.cells [.slice c_58.a c_58.len c_58.cap, .slice c_59.a c_59.len c_59.cap, .int .i64 c_60, .int .u32 c_61, .int .u64 c_62, .int .u16 c_63, .int .u32 c_64, .int .u64 c_65, .int .u16 c_66].toArray 133) fun b_9 w43 =>
 AppW pz 37 37 fresh (.slice (some (Addr.mk b_9 0 none)) 1 1) (fun s w44 =>
 Ar .i64 (t_1+1) fun z_20 =>
 ∃ m1,m1 < m0/\I0 m1 s z_20 w44) w43) (
 ∃ c_67:Sl,Cell w41 (Addr.mk b_8 0 none) (.slice c_67.a c_67.len c_67.cap) /\
 ∃ c_68:Sl,Cell w41 ((Addr.mk b_8 0 none).add 1) (.slice c_68.a c_68.len c_68.cap) /\
 ∃ c_69:Int,Cell w41 ((Addr.mk b_8 0 none).add 2) (.int .i64 c_69) /\
 ∃ c_70:Int,Cell w41 ((Addr.mk b_8 0 none).add 3) (.int .u32 c_70) /\
 ∃ c_71:Int,Cell w41 ((Addr.mk b_8 0 none).add 4) (.int .u64 c_71) /\
 ∃ c_72:Int,Cell w41 ((Addr.mk b_8 0 none).add 5) (.int .u16 c_72) /\
 ∃ c_73:Int,Cell w41 ((Addr.mk b_8 0 none).add 6) (.int .u32 c_73) /\
 ∃ c_74:Int,Cell w41 ((Addr.mk b_8 0 none).add 7) (.int .u64 c_74) /\
 ∃ c_75:Int,Cell w41 ((Addr.mk b_8 0 none).add 8) (.int .u16 c_75) /\
 NewW w41 (.cells [.slice c_67.a c_67.len c_67.cap, .slice c_68.a c_68.len c_68.cap, .int .i64 c_69, .int .u32 c_70, .int .u64 c_71, .int .u16 c_72, .int .u32 c_73, .int .u64 c_74, .int .u16 c_75].toArray 133) fun b_10 w45 =>
 AppW pz 37 37 fresh (.slice (some (Addr.mk b_10 0 none)) 1 1) (fun s_1 w46 =>
 Ar .i64 (t_1+1) fun z_21 =>
 ∃ m1,m1 < m0/\I0 m1 s_1 z_21 w46) w45))) (
 ∃ vv_28:Sl,Cell w34 ((Addr.mk b_1 0 none).add 2) (.slice vv_28.a vv_28.len vv_28.cap) /\
 Ar .i64 (i+1) fun z_22 =>
 C_slices_Replace_api_Entry_api_Entry vv_28 i z_22 fresh w34 fun r_8 w47 =>
 St1 w47 ((Addr.mk b_1 0 none).add 2) (.slice r_8.a r_8.len r_8.cap) fun w48 =>
 ∃ vv_29:Sl,Cell w48 ((Addr.mk b_1 0 none).add 2) (.slice vv_29.a vv_29.len vv_29.cap) /\
 If (decide (((vv_29.len:Int)) > 0)) (
 ∃ vv_30:Sl,Cell w48 ((Addr.mk b_1 0 none).add 2) (.slice vv_30.a vv_30.len vv_30.cap) /\
 Ix vv_30.a vv_30.len 0 9 fun a_17 =>
 St1 w48 a_17 (.slice none 0 0) fun w49 =>
 ∃ c_76:Int,Cell w49 (Addr.mk b_1 0 none) (.int .u8 c_76) /\
 ∃ c_77:Int,Cell w49 ((Addr.mk b_1 0 none).add 1) (.int .u8 c_77) /\
 ∃ c_78:Sl,Cell w49 ((Addr.mk b_1 0 none).add 2) (.slice c_78.a c_78.len c_78.cap) /\
 C_tree_parts c_76 c_77 c_78 w49 fun r0_8 r1_12 w50 =>
 K r0_8 r1_12 w50) (
 ∃ c_79:Int,Cell w48 (Addr.mk b_1 0 none) (.int .u8 c_79) /\
 ∃ c_80:Int,Cell w48 ((Addr.mk b_1 0 none).add 1) (.int .u8 c_80) /\
 ∃ c_81:Sl,Cell w48 ((Addr.mk b_1 0 none).add 2) (.slice c_81.a c_81.len c_81.cap) /\
 C_tree_parts c_79 c_80 c_81 w48 fun r0_9 r1_13 w51 =>
 K r0_9 r1_13 w51))
theorem srcV_eq{m m':MemV}(h:m'.bm=m.bm):srcV m'=srcV m:=by show Value.iface 24 (.pointer (some ⟨m'.bm,0,none⟩))=Value.iface 24 (.pointer (some ⟨m.bm,0,none⟩)); rw [h]
theorem ents_set0{L:List (EntV×Ent)}(h:0 < L.length):ents (L.set 0 (setK ⟨none,0,0⟩ [] L[0]))=nilK (ents L):=by
 cases L with
 | nil=>simp at h
 | cons p L=>rfl
set_option maxHeartbeats 4000000 in
theorem fresh_tail{t:Int}{lev base b b1:Nat}{i:Int}{l first s:Sl}{L:List (EntV×Ent)}{lsV:List LimbV}{a c:List Ent}{mid:Ent}{ka kvm kc:List KV}{pa pm pc:List Rf}{K:Sl->Int->Wd->Prop}
    (R:MemR w.heap T m M) (g:w.heap[b]? = some (.cells [srcV m, .int .u32 t].toArray 163 (0,0))) (g1:NdB w.heap b1 2 ((lev+1:Nat):Int) s) (tb:T b=none) (tb1:T b1=none) (hb1:base<=b1)
    (nd:NdQ w.heap (fun q=>base<=q/\T q=none/\q≠b/\q≠b1) s L) (lm:LimbsR w.heap (fun q=>base<=q/\T q=none/\q≠b/\q≠b1) (kindL lev) lev l lsV) (lp:LimbsP M.f t lev (limbsOf lsV) kvm pm)
    (eL:ents L=a++(mid::c)) (hi:i=a.length) (hfr:RdB w.heap first mid.key) (hfb:∀ q,first.blk=some q->(base<=q/\T q=none/\q≠b/\q≠b1)/\q < w.heap.size/\s.blk≠some q) (hsn:∀ x∈lsV,∀ q,x.sep.blk=some q->s.blk≠some q)
    (inn:InnP (a++(mid::c))) (ok:EOk (a++(mid::c))) (hlev:lev+1<=30) (hsz:szL 2 (a++(mid::c))<=297) (hLl:L.length<=1000)
    (ba:KidsP (SubT M.f t lev) a ka pa) (bc:KidsP (SubT M.f t lev) c kc pc) (hka:∀ x∈ka,LtB x.1 mid.key) (lo:∀ x∈kvm,¬ LtB x.1 mid.key) (hc:∀ e∈c,∀ x∈kvm,LtB x.1 e.key)
    (h2l:0 < lev->∀ x∈limbsOf lsV,2<=x.2.length) (hn:M.pages.length<=1048000)
    (k:∀ sl ls ps' rs T' m' M' w',MemR w'.heap T' m' M'->m'.bm=m.bm->Tg w T T'->Ext (fun q=>Ts T q∨base<=q) w w'->LimbsR w'.heap (fun q=>base<=q/\T' q=none) (kindL (lev+1)) ((lev+1:Nat):Int) sl ls->LimbsP M'.f t (lev+1) (limbsOf ls) (ka++(kvm++kc)) ps' ->
      Chg M M' 2 [] rs->(∀ q,ps'.count q=(pa++(pm++pc)).count q+rs.count q)->K sl 0 w'):FreshTail b b1 i l first K w:=by
  unfold FreshTail
  obtain ⟨D,eD,hkv,hp,hDl,hD2,hDt⟩:=lp.data
  have hll:l.len=lsV.length:=lm.len
  have hDn:D.length=lsV.length:=by have:=congrArg List.length eD; simpa [limbsOf] using this
  have hDi:∀ j (h:j < D.length) (h':j < lsV.length),D[j].k=lsV[j].key/\D[j].l=ents lsV[j].L:=fun j h h'=>by
    have:=congrArg (fun l=>l[j]?) eD
    simp only [limbsOf,List.getElem?_map,List.getElem?_eq_getElem h,List.getElem?_eq_getElem h',Option.map_some,Option.some.injEq,Prod.mk.injEq] at this
    exact this
  have sup:∀ q,w.heap.size<=q->T q=none:=fun q hq=>R.supT hq
  have blt1:=blt g; have blt2:=blt g1
  have lmem:=inn.ent mid (by simp)
  refine ⟨fun mm fresh t1 w'=>∃ (j:Nat) (Tj:Nat->Option Nat) (mj:MemV) (Mj:Mm) (rs:List Rf) (V:List (EntV×Ent)),t1=j/\j<=lsV.length/\mm=lsV.length - j/\MemR w'.heap Tj mj Mj/\mj.bm=m.bm/\Tg w T Tj/\Ext (Ts T) w w'/\Chg M Mj j [] rs/\rs.length=j /\
      (∀ i (h:i < D.length) (h':i < rs.length),SubT Mj.f t lev rs[i] D[i].kv (rs[i]::D[i].p))/\(∀ r∈rs,r.ok/\r ≠ .z)/\Own w'.heap w.heap.size 133 9 fresh (V.flatMap entCs)/\ents V=freshE mid.key (limbsOf lsV) rs/\(∀ q,fresh.blk=some q->Tj q=none) /\
      (∀ p∈V,EntR w'.heap p.1 p.2/\∀ q,(p.1.k.blk=some q∨p.1.v.blk=some q)->(base<=q/\T q=none/\q≠b/\q≠b1)/\q < w.heap.size/\s.blk≠some q),
    ⟨lsV.length,0,T,m,M,[],[],rfl,by omega,by omega,R,rfl,fun _ _=>rfl,Ext.refl _ _,Chg.refl M,rfl,fun i h h'=>by simp at h',by simp,Own.nil _ _ _ _,by cases limbsOf lsV <;> rfl,by simp [Sl.blk],by simp⟩,?_⟩
  rintro _ m0 fresh t1 w34 ⟨j,Tj,mj,Mj,rs,V,rfl,hj,hm,Rj,hbm,tgj,xj,cj,hrl,hsub,hrz,oV,eV,tfr,hV⟩
  have sj:=xj.size
  have nT:∀{q},T q=none->¬ Ts T q:=fun h h'=>h' h
  have gj:=get_ext g xj (nT tb)
  have g1j:=get_ext g1 xj (nT tb1)
  have lmj:=lm.ext xj fun q hq _=>nT hq.2.1
  have Vl:V.length=j:=by have:=congrArg List.length eV; rw [freshE_len (by simp only [limbsOf,List.length_map]; omega)] at this; simpa [hrl] using this
  refine If.dec (fun h=>?_) fun h=>?_
  · have hjl:j < lsV.length:=by omega
    refine Ix.elem lmj.rd (limbCs_len _ _ _) (by decide) (by omega) h fun bb o hi2 _ hcell=>?_
    simp only [Int.toNat_natCast] at hi2 hcell
    have hmem:lsV[j]∈lsV:=List.getElem_mem hjl
    refine ⟨_,hcell 0 _ rfl,_,hcell 1 _ rfl,_,hcell 2 _ rfl,_,hcell 3 _ rfl,new_set (vs:=limbCs (kindL lev) lev lsV[j]) rfl rfl (by simp [limbCs,oneC]) fun b6 w36 g6 hb6 z6 x6=>?_⟩
    have hjD:j < D.length:=by omega
    obtain ⟨e1,e2⟩:=hDi j hjD hjl
    have hlimb:Limb Mj.f t lev D[j].l D[j].kv D[j].p:=(hDl _ (List.getElem_mem hjD)).keep (cj.keep fun q _ => .inl (by simp))
    rw [e2] at hlimb
    have ndj:=((lmj.nd _ hmem).no x6).nd
    refine ⟨_,Cell.lst (get_no gj x6) rfl,_,Cell.lst (get_no gj x6) rfl,_,Cell.lst g6 rfl,_,Cell.lst g6 rfl,_,Cell.lst g6 rfl,?_⟩
    rw [<- srcV_eq hbm]
    have hcntj:=wr_count hlimb.short
    have hlj:lsV[j].L.length<=65536:=by simp only [List.length_map] at hcntj; omega
    refine gwrite_spec (Rj.no x6) ndj hlj hlimb.right hlimb.short (by have:=cj.len; omega) fun n T' m' w37 hfree R37 hbm' tg' x37=>?_
    refine new_set rfl rfl (by simp [oneC]) fun b7 w39 g7 hb7 z7 x7=>If.bne (fun h=>(h rfl).elim) fun _=>?_
    have nTj:∀{q},q < w34.heap.size->T q=none->q < w.heap.size->¬ Ts Tj q:=fun _ h1 h2 h=>h (by rw [tgj _ h2]; exact h1)
    have s6:=x6.size; have s37:=x37.size; have s7:=x7.size
    have nb6:Tj b6=none:=(Rj).supT (by omega)
    have g69:=get_no (get_ext g6 x37 (fun h=>h nb6)) x7
    refine ⟨_,Cell.lst g69 rfl,_,Cell.lst g7 rfl,_,Cell.lst g7 rfl,_,Cell.lst g7 rfl,new_set (vs:=EntV.cs ⟨lsV[j].sep,⟨none,0,0⟩,0, .z,⟨n,Mj.commit,Mj.gen⟩⟩) rfl rfl (entCs_one _) fun b8 w41 g8 hb8 z8 x8=>?_⟩
    have x3741:Ext No w37 w41:=x7.no x8
    have x3441:Ext (Ts Tj) w34 w41:=((x6.of_no).trans x37 fun _ _ h=>h).no x3741
    have xw41:Ext (Ts T) w w41:=xj.trans x3441 fun q hq h=>by rw [show Ts Tj q=(Tj q≠none) from rfl,tgj q hq] at h; exact h
    have hr0:(⟨n,Mj.commit,Mj.gen⟩ : Rf) ≠ .z:=fun h=>by have:=hfree.lo; have:=congrArg Rf.p h; simp only [Rf.z] at this; omega
    have hput:=Chg.put (M:=Mj) (n:=n) (t:=t) (k:=kindL lev) (v:=((lev:Nat):Int)) (pay:=pad (wr (kindL lev) lev (ents lsV[j].L)))
    have hat:=putM_at (t:=t) (k:=kindL lev) (v:=((lev:Nat):Int)) (pay:=pad (wr (kindL lev) lev (ents lsV[j].L))) hfree
    have hrok:=(at_lo R37 hat).2
    have kpj:∀(qs:List Rf),Keep Mj.f (putM Mj n t (kindL lev) lev (pad (wr (kindL lev) lev (ents lsV[j].L)))).f qs:=fun qs=>hput.keep fun q _ => .inl (by simp)
    have hsubj:SubT (putM Mj n t (kindL lev) lev (pad (wr (kindL lev) lev (ents lsV[j].L)))).f t lev ⟨n,Mj.commit,Mj.gen⟩ D[j].kv (⟨n,Mj.commit,Mj.gen⟩::D[j].p) :=
      SubT.shut ⟨hat,hlimb.right,hlimb.short,hlimb.ok⟩ hlimb.ne (fun h=>by have:=h2l h (lsV[j].key,ents lsV[j].L) (List.mem_map.2 ⟨_,hmem,rfl⟩); exact this) (hlimb.body.keep (kpj _))
    -- on,whatever key the entry has
    have on:∀{kk:Sl}{key:List Int}{w42:Wd}{bx:Nat},w42.heap[bx]? = some (.cells (EntV.cs ⟨kk,⟨none,0,0⟩,0, .z,⟨n,Mj.commit,Mj.gen⟩⟩).toArray 133 (0,0))->Ext (fun q=>q=b8) w41 w42->RdB w.heap kk key->B8 key->(∀ q,kk.blk=some q->(base<=q/\T q=none/\q≠b/\q≠b1)/\q < w.heap.size/\s.blk≠some q)->key=(if j=0 then mid.key else lsV[j].key) ->
        (NewW w42 (.cells (EntV.cs ⟨kk,⟨none,0,0⟩,0, .z,⟨n,Mj.commit,Mj.gen⟩⟩).toArray 133) fun b9 w43=>AppW pz 37 37 fresh (.slice (some (Addr.mk b9 0 none)) 1 1) (fun s1 w44=>Ar .i64 ((j:Int)+1) fun z=>∃ m1,m1 < m0/\∃ (j:Nat) (Tj:Nat->Option Nat) (mj:MemV) (Mj:Mm) (rs:List Rf) (V:List (EntV×Ent)),z=j/\j<=lsV.length/\m1=lsV.length - j/\MemR w44.heap Tj mj Mj/\mj.bm=m.bm/\Tg w T Tj/\Ext (Ts T) w w44/\Chg M Mj j [] rs/\rs.length=j /\
      (∀ i (h:i < D.length) (h':i < rs.length),SubT Mj.f t lev rs[i] D[i].kv (rs[i]::D[i].p))/\(∀ r∈rs,r.ok/\r ≠ .z)/\Own w44.heap w.heap.size 133 9 s1 (V.flatMap entCs)/\ents V=freshE mid.key (limbsOf lsV) rs/\(∀ q,s1.blk=some q->Tj q=none) /\
      (∀ p∈V,EntR w44.heap p.1 p.2/\∀ q,(p.1.k.blk=some q∨p.1.v.blk=some q)->(base<=q/\T q=none/\q≠b/\q≠b1)/\q < w.heap.size/\s.blk≠some q)) w43):=by
      intro kk key w42 bx gx x42 hkk k8 kkb hkey
      refine NewW.mk fun b9 w43 n9=>?_
      have x4143:Ext (fun q=>q=b8) w41 w43:=x42.no n9.ext
      have s42:=x42.size; have z9:=n9.size; have hb9:=n9.at_
      have frl:∀ q,fresh.blk=some q->w.heap.size<=q/\q < w34.heap.size:=fun q hq=>oV.lt hq
      have oV43:=(oV.ext x3441 fun q hq h=>h (tfr q hq)).ext x4143 fun q hq h=>by have:=frl q hq; omega
      have ol:fresh.len=V.length:=by have:=oV.len; rw [flat9] at this; omega
      refine app_api_Entry oV43 (by omega) (entOwn n9).rd.src (by simp only; omega) fun s1 w44 o44 _ x44 hbl=>Ar.i64 (by omega) ?_
      have x44w:Ext (Ts T) w w44:=((xw41.trans x4143 fun q hq h=>by omega)).trans x44 fun q hq h=>by have:=frl q h; omega
      have tT':∀ q,q < w34.heap.size->T' q=Tj q:=fun q hq=>tg' q (by omega)
      have nb8:T' b8=none:=R37.supT (by omega)
      have x3744:Ext (fun q=>q=b8∨fresh.blk=some q) w37 w44:=((x3741.of_no).trans x4143 fun _ _ h => .inl h).trans x44 fun _ _ h => .inr h
      have x3444:Ext (fun q=>Ts Tj q∨q=b8∨fresh.blk=some q) w34 w44:=((x3441.mono fun _ _ h => .inl h).trans x4143 fun _ _ h => .inr (.inl h)).trans x44 fun _ _ h => .inr (.inr h)
      refine ⟨lsV.length - (j+1),by omega,j+1,T',m',putM Mj n t (kindL lev) lev (pad (wr (kindL lev) lev (ents lsV[j].L))),rs++[⟨n,Mj.commit,Mj.gen⟩],V++[(⟨kk,⟨none,0,0⟩,0, .z,⟨n,Mj.commit,Mj.gen⟩⟩,mkE key ⟨n,Mj.commit,Mj.gen⟩)],by omega,by omega,rfl,R37.ext x3744 fun q hq=>?_,hbm'.trans hbm,fun q hq=>by rw [tT' q (by omega)]; exact tgj q hq,x44w,?_,by simp [hrl],fun i' h' h''=>?_,fun r hr=>?_,by rw [List.flatMap_append]; simpa using o44,?_,fun q hq=>?_,fun p hp=>?_⟩
      · rcases hq with h | h
        · rw [h]; exact nb8
        · rw [tT' q (frl q h).2]; exact tfr q h
      · refine (cj.trans hput).as (by omega) (by simp) fun q=>?_
        simp only [List.nil_append]
      · rcases Nat.lt_or_ge i' rs.length with h3 | h3
        · rw [List.getElem_append_left h3]; exact (hsub i' h' h3).keep (kpj _)
        · have:i'=j:=by simp only [List.length_append,List.length_cons,List.length_nil] at h''; omega
          subst this
          have:(rs++[(⟨n,Mj.commit,Mj.gen⟩ : Rf)])[i']=⟨n,Mj.commit,Mj.gen⟩:=by rw [List.getElem_append_right h3]; simp [hrl]
          rw [this]; exact hsubj
      · rcases List.mem_append.1 hr with h3 | h3
        · exact hrz r h3
        · rw [List.mem_singleton] at h3; subst h3; exact ⟨hrok,hr0⟩
      · rw [freshE_snoc (by simp only [limbsOf,List.length_map]; omega)]
        show List.map Prod.snd (V++_)=_
        rw [List.map_append,show List.map Prod.snd V=_ from eV]
        congr 1
        have e5:(limbsOf lsV)[rs.length]'(by simp only [limbsOf,List.length_map]; omega)=(lsV[j].key,ents lsV[j].L):=by simp [limbsOf,hrl]
        rw [e5,hkey,hrl]; rfl
      · rcases hbl with h3 | ⟨c',h3,h4⟩
        · rw [h3] at hq; rw [tT' q (frl q hq).2]; exact tfr q hq
        · rw [h3] at hq; cases hq; exact R37.supT (by have:=x3741.size; omega)
      · rcases List.mem_append.1 hp with h3 | h3
        · have hp':=hV p h3
          have nn:∀ q,(p.1.k.blk=some q∨p.1.v.blk=some q)->¬ (Ts Tj q∨q=b8∨fresh.blk=some q):=fun q hq h=>by
            have:=hp'.2 q hq
            rcases h with h | h | h
            · exact nTj (by omega) this.1.2.1 this.2.1 h
            · omega
            · have:=frl q h; omega
          exact ⟨hp'.1.ext x3444 (fun q hq=>nn q (.inl hq)) (fun q hq=>nn q (.inr hq)),hp'.2⟩
        · rw [List.mem_singleton] at h3; subst h3
          refine ⟨⟨Rd.ext hkk x44w fun a q ha hq=>nT (kkb q (by have h:kk.a=some a:=ha; simp [Sl.blk,h,hq])).1.2.1,Rd.nil _ _,rfl,rfl,rfl,k8,B8.nil,⟨by show (-9223372036854775808:Int)<=0; decide,by show (0:Int)<=9223372036854775807; decide⟩,by show Rf.z.ok; decide,hrok⟩,fun q hq=>?_⟩
          rcases hq with h4 | h4
          · exact kkb q h4
          · simp [Sl.blk] at h4
    have hsep:=lm.sep _ hmem
    refine If.beq (fun hj0=>St1.mk g8 (by simp [EntV.cs]) rfl fun w42 h42=>?_) fun hj0=>?_
    · have g42:w42.heap[b8]? = some (.cells (EntV.cs ⟨first,⟨none,0,0⟩,0, .z,⟨n,Mj.commit,Mj.gen⟩⟩).toArray 133 (0,0)):=h42.get g8
      have x42:Ext (fun q=>q=b8) w41 w42:=h42.ext
      refine ent_read g42 (on g42 x42 hfr ?_ hfb (by rw [if_pos (by omega)]))
      exact (ok mid (by simp)).2.1
    · refine ent_read g8 (on g8 (Ext.refl _ _) hsep.1 hsep.2.1 (fun q hq=>⟨(hsep.2.2 q hq).1,(hsep.2.2 q hq).2,hsn _ hmem q hq⟩) (by rw [if_neg (by omega)]))
  · have ejl:j=lsV.length:=by omega
    have ndj:NdQ w34.heap (fun q=>base<=q/\Tj q=none/\q≠b/\q≠b1) s L:=(nd.mono fun q hq h=>⟨h.1,by rw [tgj q hq]; exact h.2.1,h.2.2⟩).ext xj fun q hq hl h=>h (by rw [<- tgj q hl]; exact hq.2.1)
    have slt:∀ q,s.blk=some q->q < w.heap.size:=fun q hq=>(nd.own.lt hq).2
    have frl:∀ q,fresh.blk=some q->w.heap.size<=q/\q < w34.heap.size:=fun q hq=>oV.lt hq
    have nej:NewE w34 (fun q=>base<=q/\Tj q=none/\q≠b/\q≠b1) s fresh V:=⟨oV.mono (Nat.zero_le _),fun p hp=>(hV p hp).1,fun p hp q hq=>by
      have:=(hV p hp).2 q hq
      exact ⟨⟨this.1.1,by rw [tgj q this.2.1]; exact this.1.2.1,this.1.2.2⟩,by omega,this.2.2⟩,fun q hq h=>by have:=frl q hq; have:=slt q h; omega⟩
    have supj:∀ q,w34.heap.size<=q->Tj q=none:=fun q hq=>Rj.supT hq
    have hLlen:L.length=a.length+(c.length+1):=by have:=congrArg List.length eL; simpa using this
    have law:=branch_law (f:=Mj.f) (t:=t) (lev:=lev) (D:=D) (rs:=rs) inn ok hlev (ba.keep (R:=fun p=>Keep M.f Mj.f p) (fun h=>⟨h.sub fun _ h=>List.mem_append_left _ h,h.sub fun _ h=>List.mem_append_right _ h⟩) (fun h hk=>SubT.keep h hk) (cj.keep fun q _ => .inl (by simp)))
      (bc.keep (R:=fun p=>Keep M.f Mj.f p) (fun h=>⟨h.sub fun _ h=>List.mem_append_left _ h,h.sub fun _ h=>List.mem_append_right _ h⟩) (fun h hk=>SubT.keep h hk) (cj.keep fun q _ => .inl (by simp))) hka hsub (by omega) hrz hD2
      (fun d1 d2 h=>by obtain ⟨a1,a2,a3,a4,a5,_⟩:=hDt d1 d2 h; exact ⟨a1,a2,a3,a4,a5⟩)
      (fun d hd x hx=>lo x (by rw [<- hkv]; exact List.mem_flatten.2 ⟨d.kv,List.mem_map.2 ⟨d,hd,rfl⟩,hx⟩))
      (fun e he d hd x hx=>hc e he x (by rw [<- hkv]; exact List.mem_flatten.2 ⟨d.kv,List.mem_map.2 ⟨d,hd,rfl⟩,hx⟩))
    rw [eD,hkv,hp] at law
    obtain ⟨l1,l2,⟨pm',l3,l3c⟩,l4⟩:=law
    subst hi
    refine ⟨s,Cell.lst g1j rfl,Ar.i64 (by omega) (replace_spec ndj nej (by omega) (by simp only [Int.toNat_natCast]; omega) (by omega) (by omega) (fun q hq=>⟨by omega,supj q hq,by omega,by omega⟩) fun s' w47 nd47 hb47 x47=>?_)⟩
    rw [Int.toNat_natCast] at nd47
    have nb1s:¬ s.blk=some b1:=fun h=>(nd.sb _ h).2.2.2 rfl
    have g147:=get_ext g1j x47 nb1s
    refine St1.mk g147 (by simp) rfl fun w48 h48=>?_
    have x48:Ext (·=b1) w47 w48:=h48.ext
    have g148:NdB w48.heap b1 2 ((lev+1:Nat):Int) s':=h48.get g147
    have z48:w48.heap.size=w47.heap.size:=h48.size
    have s47:=x47.size
    have nd48:=nd47.ext x48 fun q hq _ h=>hq.2.2.2 h
    have eL':ents (L.take a.length++(V++L.drop (a.length+1)))=a++(freshE mid.key (limbsOf lsV) rs++c):=by
      show List.map Prod.snd _=_
      rw [List.map_append,List.map_append,List.map_take,List.map_drop,show List.map Prod.snd L=_ from eL,show List.map Prod.snd V=_ from eV,List.take_left' rfl]
      congr 2
      rw [show a++(mid::c)=(a++[mid])++c by simp]
      exact List.drop_left' (by simp)
    generalize hL':L.take a.length++(V++L.drop (a.length+1))=L' at *
    have hL'l:L'.length<=4000:=by rw [<- hL']; simp only [List.length_append,List.length_take,List.length_drop]; omega
    have nS1:∀{q},s.blk=some q->Tj q=none:=fun h=>by rw [tgj _ (slt _ h)]; exact (nd.sb _ h).2.1
    have tb1j:Tj b1=none:=by rw [tgj b1 blt2]; exact tb1
    have R48:MemR w48.heap Tj mj Mj:=(Rj.ext x47 fun q hq=>nS1 hq).ext x48 fun q hq=>by rw [hq]; exact tb1j
    have x48w:Ext (fun q=>Ts T q∨base<=q) w w48:=((xj.mono fun _ _ h => .inl h).trans x47 fun q hq h => .inr (nd.sb _ h).1).trans x48 fun q hq h => .inr (by omega)
    have s'b:∀ q,s'.blk=some q->base<=q/\Tj q=none:=fun q hq=>by have:=nd48.sb q hq; exact ⟨this.1,this.2.1⟩
    have nl':=nd48.nd.len
    -- the end,with a list in which the first key is none
    have fin:∀{L3:List (EntV×Ent)}{w49:Wd},NdQ w49.heap (fun q=>base<=q/\Tj q=none/\q≠b/\q≠b1) s' L3->ents L3=nilK (a++(freshE mid.key (limbsOf lsV) rs++c))->Ext (fun q=>s'.blk=some q) w48 w49->L3.length<=4000->C_tree_parts 2 ((lev+1:Nat):Int) s' w49 fun r0 r1 w50=>K r0 r1 w50:=fun {L3 w49} nd49 e3 x49 hl3=>by
      have s49:=x49.size
      refine parts_spec (B:=fun q=>base<=q/\Tj q=none) (nd49.mono fun q _ h=>⟨h.1,h.2.1⟩) (fun q hq=>⟨by omega,supj q (by omega)⟩) (fun h=>by rw [e3] at h ⊢; exact l1 h) (by omega) (fun hb=>?_) fun ls sl w50 lm' lp' x50=>?_
      · rw [e3] at hb ⊢
        refine valid_ex (l1 fun h=>?_) hb ?_
        · rw [h,wr_len,szL_nil] at hb; omega
        · rw [wr_len]; omega
      · rw [e3] at lp'
        have R50:MemR w50.heap Tj mj Mj:=(R48.ext x49 fun q hq=>(s'b q hq).2).no x50
        have lp2:LimbsP Mj.f t (lev+1) (limbsOf ls) (ka++(kvm++kc)) (pa++(pm'++pc)):=PartsP.limbs (lev:=lev+1) lp' l2 l3
        refine k sl ls (pa++(pm'++pc)) rs Tj mj Mj w50 R50 hbm tgj (((x48w.trans x49 fun q hq h => .inr (s'b q h).1).no x50)) lm' lp2 (cj.as (by omega) (by simp) (by simp)) fun q=>?_
        simp only [List.count_append]
        have:=l3c q; omega
    refine ⟨s',Cell.lst g148 rfl,If.dec (fun hpos=>?_) fun hpos=>?_⟩
    · refine ⟨s',Cell.lst g148 rfl,NdQ.key (t:=⟨none,0,0⟩) (key:=[]) nd48 (by omega) (by simp only [Int.toNat_zero]; omega) (Rd.nil _ _) B8.nil (fun q hq=>by simp [Sl.blk] at hq) fun w49 nd49 x49 z49=>?_⟩
      have nb1':¬ s'.blk=some b1:=fun h=>(nd48.sb _ h).2.2.2 rfl
      have g149:=get_ext g148 x49 nb1'
      refine ld3 g149 (fin nd49 ?_ x49 (by rw [List.length_set]; exact hL'l))
      rw [<- eL']
      exact ents_set0 (by omega)
    · have hnil:L'=[]:=List.eq_nil_of_length_eq_zero (by omega)
      refine ld3 g148 (fin nd48 ?_ (Ext.refl _ _) hL'l)
      rw [<- eL',hnil]; rfl
end
end Go.Proofs.YtcamoanigdfihaaGreat
namespace Go.V
theorem InnP.del{a c:List Ent}{e1 e2:Ent}(h:InnP (a++(e1::e2::c))):InnP (a++(e1::c)):=by
 have hm:∀ e∈a++(e1::c),e∈a++(e1::e2::c):=fun e he=>by
  simp only [List.mem_append,List.mem_cons] at he ⊢
  rcases he with h | h | h
  .exact .inl h
  .exact .inr (.inl h)
  .exact .inr (.inr (.inr h))
 refine ⟨fun e he=>h.ent e (hm e he),?_,fun e l' hl=>?_⟩
 .have hr:=riseP_app.1 h.rise
  have h2:=List.pairwise_cons.1 hr.2.1
  refine riseP_app.2 ⟨hr.1,List.pairwise_cons.2 ⟨fun y hy=>h2.1 y (List.mem_cons_of_mem _ hy),(List.pairwise_cons.1 h2.2).2⟩,fun x hx y hy=>hr.2.2 x hx y ?_⟩
  rcases List.mem_cons.1 hy with h | h
  .rw [h]; exact List.mem_cons_self
  .exact List.mem_cons_of_mem _ (List.mem_cons_of_mem _ h)
 .cases a with
  | nil=>simp only [List.nil_append,List.cons.injEq] at hl; exact hl.1 ▸ h.hd e1 _ rfl
  | cons x a=>simp only [List.cons_append,List.cons.injEq] at hl; exact hl.1 ▸ h.hd x _ rfl
theorem PartsP.two_each{lev:Int}{l:List Ent}{ls:List (List Int×List Ent)}(p:PartsP 2 lev l ls)(h:2<=l.length):∀ x∈ls,2<=x.2.length:=by
 cases p with
 | nil=>simp at h
 | one hne hr hs=>intro x hx; rw [List.mem_singleton] at hx; subst hx; exact h
 | @two l k hr hb hk hlt =>
  have:=split_two hr hb hk
  intro x hx
  simp only [List.mem_cons,List.not_mem_nil,or_false] at hx
  rcases hx with h | h <;> subst h
  .simp only [List.length_take]; omega
  .simp only [cutR_len,List.length_drop]; omega
end Go.V
namespace Go.Proofs.YtcamoanigdfihaaGreat
open Go.V
section
variable {w:Wd} {T:Nat->Option Nat} {m:MemV} {M:Mm}
def PairTail(b b_1 b_3:Nat)(r j:Int)(r0_2:Sl)(J2:Int->Sl->Sl->Wd->Prop)(K:Sl->Int->Wd->Prop)(e:Int)(w:Wd):Prop :=
  If (e != 0) (
  K ⟨none,0,0⟩ e w) (
  ∃ S:Wd->Prop,S (drewW w) /\
  ∃ vv_6:Value,Held S (Addr.mk b 0 none) (vv_6) /\
  ∃ vv_7:Sl,Held S ((Addr.mk b_1 0 none).add 2) (.slice vv_7.a vv_7.len vv_7.cap) /\
  Ix vv_7.a vv_7.len j 9 fun a_4 =>
  ∃ c_19:Int,Held S (a_4.add 6) (.int .u32 c_19) /\
  ∃ c_20:Int,Held S ((a_4.add 6).add 1) (.int .u64 c_20) /\
  ∃ c_21:Int,Held S ((a_4.add 6).add 2) (.int .u16 c_21) /\
  nilP vv_6 fun _y =>
  invV pz vv_6 "Drop" [.agg ([.int .u32 c_19, .int .u64 c_20, .int .u16 c_21]).toArray] [.one (.int .i64)] (fun r_2 w14 =>
  S w14 /\
  If (r_2 != 0) (
  K ⟨none,0,0⟩ r_2 w14) (
  ∃ S:Wd->Prop,S (drewW w14) /\
  Ix r0_2.a r0_2.len 0 4 fun a_5 =>
  ∃ c_22:Int,Held S (a_5.add 1) (.int .u8 c_22) /\
  ∃ c_23:Int,Held S ((a_5.add 1).add 1) (.int .u8 c_23) /\
  ∃ c_24:Sl,Held S ((a_5.add 1).add 2) (.slice c_24.a c_24.len c_24.cap) /\
  ∃ c_25:Int,Held S (Addr.mk b_3 0 none) (.int .u8 c_25) /\
  ∃ c_26:Int,Held S ((Addr.mk b_3 0 none).add 1) (.int .u8 c_26) /\
  ∃ c_27:Sl,Held S ((Addr.mk b_3 0 none).add 2) (.slice c_27.a c_27.len c_27.cap) /\
  ∃ vv_8:Sl,Held S ((Addr.mk b_1 0 none).add 2) (.slice vv_8.a vv_8.len vv_8.cap) /\
  Nm (iMax r j) fun z_2 =>
  Ix vv_8.a vv_8.len z_2 9 fun a_6 =>
  ∃ vv_9:Sl,Held S a_6 (.slice vv_9.a vv_9.len vv_9.cap) /\
  C_tree_pair c_22 c_23 c_24 c_25 c_26 c_27 vv_9 (decide (j < r)) (drewW w14) fun r0_4 r1_5 w15 =>
  S w15 /\
  If (r1_5 != 0) (
  K ⟨none,0,0⟩ r1_5 w15) (
  ∃ vv_10:Sl,Cell w15 ((Addr.mk b_1 0 none).add 2) (.slice vv_10.a vv_10.len vv_10.cap) /\
  Nm (iMin r j) fun z_3 =>
  Ix vv_10.a vv_10.len z_3 9 fun a_7 =>
  ∃ vv_11:Sl,Cell w15 a_7 (.slice vv_11.a vv_11.len vv_11.cap) /\
  ∃ vv_12:Sl,Cell w15 ((Addr.mk b_1 0 none).add 2) (.slice vv_12.a vv_12.len vv_12.cap) /\
  Nm (iMax r j) fun z_4 =>
  Nm (iMax r j) fun z_5 =>
  Ar .i64 (z_5+1) fun z_6 =>
  C_slices_Delete_api_Entry_api_Entry vv_12 z_4 z_6 w15 fun r_3 w16 =>
  St1 w16 ((Addr.mk b_1 0 none).add 2) (.slice r_3.a r_3.len r_3.cap) fun w17 =>
  Nm (iMin r j) fun z_7 =>
  J2 z_7 r0_4 vv_11 w17))) NoX (drewW w))
theorem nilP_src{K:Value->Prop}(h:K (srcV m)):nilP (srcV m) K:=h
set_option maxHeartbeats 4000000 in
theorem pair_tail{t:Int}{lev base b b1 b3 i j p:Nat}{l0 s sn:Sl}{L Ln:List (EntV×Ent)}{x:LimbV}{a c l1 l2:List Ent}{e1 e2:Ent}{lft:Bool}{rj:Rf}{ka k1 k2 kc:List KV}{pa p1 p2 pc:List Rf}{K:Sl->Int->Wd->Prop}
    (R:MemR w.heap T m M) (g:w.heap[b]? = some (.cells [srcV m, .int .u32 t].toArray 163 (0,0))) (g1:NdB w.heap b1 2 ((lev+1:Nat):Int) s) (g3:NdB w.heap b3 (kindL lev) lev sn) (tb:T b=none) (tb1:T b1=none) (tb3:T b3=none) (hb1:base<=b1)
    (nd:NdQ w.heap (fun q=>base<=q/\T q=none/\q≠b/\q≠b1) s L) (nn:NdQ w.heap (fun q=>T q=none) sn Ln) (lm:LimbsR w.heap (fun q=>base<=q/\T q=none) (kindL lev) lev l0 [x])
    (eL:ents L=a++(e1::e2::c)) (hp:p=a.length)
    (hl:(lft=true/\l1=ents Ln/\l2=ents x.L/\i=p+1/\j=p/\rj=e1.cd)∨(lft=false/\l1=ents x.L/\l2=ents Ln/\i=p/\j=p+1/\rj=e2.cd))
    (h1:Limb M.f t lev l1 k1 p1) (h2:Limb M.f t lev l2 k2 p2) (low:3 * (wr (kindL lev) lev (ents x.L)).length < 224)
    (hrj:rj∈live M.pages) (hap:∀ q∈pa++(p1++(p2++pc)),q≠rj)
    (inn:InnP (ents L)) (ok:EOk (ents L)) (hlev:lev+1<=30) (hsz:szL 2 (ents L)<=297) (hLl:L.length<=1000)
    (ba:KidsP (SubT M.f t lev) a ka pa) (bc:KidsP (SubT M.f t lev) c kc pc) (hka:∀ x∈ka,LtB x.1 e1.key) (lo1:∀ x∈k1,¬ LtB x.1 e1.key) (mid1:∀ x∈k1,LtB x.1 e2.key) (lo2:∀ x∈k2,¬ LtB x.1 e2.key) (hc:∀ e∈c,∀ x∈k2,LtB x.1 e.key)
    (hn:M.pages.length<=1048000)
    (k:∀ sl ls ps' rs T' m' M' w',MemR w'.heap T' m' M'->m'.bm=m.bm->Tg w T T'->Ext (fun q=>Ts T q∨base<=q) w w'->LimbsR w'.heap (fun q=>base<=q/\T' q=none) (kindL (lev+1)) ((lev+1:Nat):Int) sl ls->LimbsP M'.f t (lev+1) (limbsOf ls) (ka++((k1++k2)++kc)) ps' ->
      Chg M M' 2 [rj] rs->(∀ q,ps'.count q=(pa++((p1++p2)++pc)).count q+rs.count q)->K sl 0 w'):PairTail b b1 b3 i j l0 (fun i l first w'=>FreshTail b b1 i l first K w') K 0 w:=by
  unfold PairTail
  have nT:∀{q},T q=none->¬ Ts T q:=fun h h'=>h' h
  have blt0:=blt g; have blt1:=blt g1; have blt3:=blt g3
  have hLlen:L.length=a.length+(c.length+2):=by have:=congrArg List.length eL; simpa using this
  have nl:=nd.nd.len
  have hjL:j < L.length:=by rcases hl with h | h <;> omega
  have hLj:(L[j]'hjL).2.cd=rj:=by
    have h3:=congrArg (fun l=>l[j]?) eL
    simp only [List.getElem?_map,List.getElem?_eq_getElem hjL,Option.map_some] at h3
    rcases hl with ⟨_,_,_,_,h4,h5⟩ | ⟨_,_,_,_,h4,h5⟩
    · rw [List.getElem?_append_right (by omega),show j - a.length=0 by omega] at h3
      simp only [List.getElem?_cons_zero,Option.some.injEq] at h3
      rw [h3,h5]
    · rw [List.getElem?_append_right (by omega),show j - a.length=1 by omega] at h3
      simp only [List.getElem?_cons_succ,List.getElem?_cons_zero,Option.some.injEq] at h3
      rw [h3,h5]
  have hp1:p+1 < L.length:=by omega
  have hLp:(L[p]'(by omega)).2=e1:=by
    have h3:=congrArg (fun l=>l[p]?) eL
    simp only [List.getElem?_map,List.getElem?_eq_getElem (show p < L.length by omega),Option.map_some] at h3
    rw [List.getElem?_append_right (by omega),show p - a.length=0 by omega] at h3
    simpa using h3
  have hLp1:(L[p+1]'hp1).2=e2:=by
    have h3:=congrArg (fun l=>l[p+1]?) eL
    simp only [List.getElem?_map,List.getElem?_eq_getElem hp1,Option.map_some] at h3
    rw [List.getElem?_append_right (by omega),show p+1 - a.length=1 by omega] at h3
    simpa using h3
  have hij : (lft = true ∧ i = p + 1 ∧ j = p) ∨ (lft = false ∧ i = p ∧ j = p + 1) := by rcases hl with h | h
                                                                                        · exact .inl ⟨h.1,h.2.2.2.1,h.2.2.2.2.1⟩
                                                                                        · exact .inr ⟨h.1,h.2.2.2.1,h.2.2.2.2.1⟩
  have hmax:iMax (i:Int) (j:Int)=((p+1:Nat):Int):=by unfold iMax; split <;> omega
  have hmin:iMin (i:Int) (j:Int)=((p:Nat):Int):=by unfold iMin; split <;> omega
  have hdec:decide ((j:Int) < (i:Int))=lft:=by
    rcases hij with ⟨h,_,_⟩ | ⟨h,_,_⟩ <;> rw [h]
    · exact decide_eq_true (by omega)
    · exact decide_eq_false (by omega)
  refine If.bne (fun h=>(h rfl).elim) fun _=>?_
  refine ⟨Ext (Ts T) w,(Ext.refl _ _).drew,srcV m,Held.but (Cell.lst g rfl) (nT tb),s,Held.but (Cell.lst g1 rfl) (nT tb1),Ix.elem nd.nd.rd (entCs_len L) (by decide) (by omega) (by omega) fun bb o hi3 hsb hcell=>?_⟩
  have nbb:¬ Ts T bb:=nT (nd.sb _ hsb).2.1
  simp only [Int.toNat_natCast] at hi3 hcell
  refine ⟨_,Held.but (hcell 6 _ rfl) nbb,_,Held.but (hcell 7 _ rfl) nbb,_,Held.but (hcell 8 _ rfl) nbb,nilP_src ?_⟩
  have er:=nd.nd.get hi3
  have hcd:L[j].1.cd=rj:=er.cd.trans hLj
  obtain ⟨d0,dc⟩:=Chg.drop R.sane hrj
  rw [hcd]
  refine I_tree_Mem_Drop (memDrop_spec (w:=drewW w) (r:=rj) R fun w14 R14 x14=>?_)
  rw [d0]
  generalize hM1:(dropM M rj).2=M1 at *
  have x14':Ext (Ts T) w w14:=x14.drew_left
  refine ⟨x14',If.bne (fun h=>(h rfl).elim) fun _=>?_⟩
  have g14:=get_ext g x14' (nT tb)
  have g114:=get_ext g1 x14' (nT tb1)
  have g314:=get_ext g3 x14' (nT tb3)
  have nd14:=nd.ext x14' fun q hq _ h=>h hq.2.1
  have nn14:=nn.ext x14' fun q hq _ h=>h hq
  have lm14:=lm.ext x14' fun q hq _ h=>h hq.2
  have s14:=x14'.size
  have sup:∀ q,w14.heap.size<=q->T q=none:=fun q hq=>R14.supT hq
  have ll:l0.len=1:=lm14.len
  refine ⟨Ext No w14,(Ext.refl _ _).drew,Ix.elem lm14.rd (limbCs_len _ _ _) (by decide) (by decide) (by omega) fun bb2 o2 hi4 _ hcell2=>?_⟩
  replace hcell2:∀ jj v,(limbCs (kindL lev) lev x)[jj]? = some v->Cell w14 ⟨bb2,o2+jj,none⟩ v:=hcell2
  refine ⟨_,Held.cell (hcell2 1 _ rfl),_,Held.cell (hcell2 2 _ rfl),_,Held.cell (hcell2 3 _ rfl),_,Held.cell (Cell.lst g314 rfl),_,Held.cell (Cell.lst g314 rfl),_,Held.cell (Cell.lst g314 rfl),_,Held.cell (Cell.lst g114 rfl),Nm.as hmax (Ix.elem nd14.nd.rd (entCs_len L) (by decide) (by omega) (by omega) fun bb3 o3 hi5 _ hcell3=>?_)⟩
  simp only [Int.toNat_natCast] at hi5 hcell3
  refine ⟨_,Held.cell (hcell3 0 _ rfl),?_⟩
  have er1:=nd14.nd.get hi5
  have hok2:=ok e2 (by rw [eL]; simp)
  have hent2:=inn.ent e2 (by rw [eL]; simp)
  have kpq:∀{ps:List Rf},(∀ q∈ps,q∈pa++(p1++(p2++pc)))->Keep M.f M1.f ps:=fun hs=>dc.keep fun q hq => .inl fun h=>hap q (hs q hq) (List.mem_singleton.1 h)
  have h1':=h1.keep (kpq (ps:=p1) fun q hq=>by simp [hq])
  have h2':=h2.keep (kpq (ps:=p2) fun q hq=>by simp [hq])
  obtain ⟨j1,j2,j3⟩:=join_body (above:=e2.key) h1'.right h2'.right h1'.ok h2'.ok hok2.2.1 hent2.2.2.2.2 h1'.body h2'.body mid1 lo2
  have jsz:=joinL_size (kind:=kindL lev) (lev:=lev) (la:=l1) (lb:=l2) (above:=e2.key)
  have jlen:=joinL_len (kindL lev) l1 e2.key l2
  have n1:=List.length_pos_iff.2 h1.ne; have n2:=List.length_pos_iff.2 h2.ne
  have s1:=h1.short; have s2:=h2.short
  have hx:EntR w14.heap L[p+1].1 L[p+1].2:=er1
  have hxn:(ents x.L).length<=1000/\(ents Ln).length<=1000:=by
    have c1:=wr_count h1.short; have c2:=wr_count h2.short
    rcases hl with h | h
    · rw [<- h.2.1,<- h.2.2.1]; omega
    · rw [<- h.2.1,<- h.2.2.1]; omega
  have hxr:RightP (kindL lev) lev (ents x.L)/\RightP (kindL lev) lev (ents Ln):=by
    rcases hl with h | h
    · rw [<- h.2.1,<- h.2.2.1]; exact ⟨h2.right,h1.right⟩
    · rw [<- h.2.1,<- h.2.2.1]; exact ⟨h1.right,h2.right⟩
  have hsmall:(wr (kindL lev) lev l1).length+(wr (kindL lev) lev l2).length<=300:=by
    rcases hl with h | h
    · rw [h.2.2.1] at s2 ⊢; omega
    · rw [h.2.1] at s1 ⊢; omega
  rw [hdec]
  refine pair_spec (B:=fun q=>(base<=q/\T q=none/\q≠b/\q≠b1)/\w14.heap.size<=q) (w:=drewW w14) (J:=joinL (kindL lev) l1 e2.key l2) (above:=e2.key) (lm14.nd x (by simp)).nd nn14.nd (by rw [<- hLp1]; exact er1.k) hok2.2.1 hxr.1 hxr.2 (by have:=hxn.1; simp only [List.length_map] at this; omega) (by have:=hxn.2; simp only [List.length_map] at this; omega) (by omega) (fun q hq=>?_) ?_ j1 (by intro h; rw [h] at jlen; simp at jlen; omega) (fun hb=>valid_ex j1 hb (by omega)) fun ls sl w15 lm15 pp x15=>⟨x15.drew_left,If.bne (fun h=>(h rfl).elim) fun _=>?_⟩
  · exact ⟨⟨by have:w14.heap.size<=q:=hq; omega,sup q hq,by have:w14.heap.size<=q:=hq; omega,by have:w14.heap.size<=q:=hq; omega⟩,hq⟩
  · rcases hl with h | h
    · rw [h.1,h.2.1,h.2.2.1]; rfl
    · rw [h.1,h.2.1,h.2.2.1]; rfl
  have x15':Ext No w14 w15:=x15.drew_left
  have s15:=x15'.size
  have g15:=get_no g14 x15'
  have g115:=get_no g114 x15'
  have nd15:=nd14.no x15'
  refine ⟨s,Cell.lst g115 rfl,Nm.as hmin (Ix.elem nd15.nd.rd (entCs_len L) (by decide) (by omega) (by omega) fun bb4 o4 hi6 _ hcell4=>?_)⟩
  simp only [Int.toNat_natCast] at hi6 hcell4
  refine ⟨_,hcell4 0 _ rfl,s,Cell.lst g115 rfl,Nm.as hmax (Nm.as hmax (Ar.i64 (by omega) ?_))⟩
  have hfk:=nd15.kb _ (List.getElem_mem hi6)
  have efk:=nd15.nd.get hi6
  refine delete_spec nd15 (by omega) (by simpa using hp1) (by omega) fun s' w16 nd16 hblk x16=>?_
  rw [Int.toNat_natCast] at nd16
  have nb1s:¬ s.blk=some b1:=fun h=>(nd.sb _ h).2.2.2 rfl
  have nbs:¬ s.blk=some b:=fun h=>(nd.sb _ h).2.2.1 rfl
  have g116:=get_ext g115 x16 nb1s
  refine St1.mk g116 (by simp) rfl fun w17 h17=>?_
  have x17:Ext (·=b1) w16 w17:=h17.ext
  have g117:NdB w17.heap b1 2 ((lev+1:Nat):Int) s':=h17.get g116
  have xx:Ext (fun q=>s.blk=some q∨q=b1) w15 w17:=(x16.mono fun _ _ h => .inl h).trans x17 fun _ _ h => .inr h
  have slt:∀ q,s.blk=some q->q < w.heap.size/\base<=q/\T q=none:=fun q hq=>⟨(nd.own.lt hq).2,(nd.sb q hq).1,(nd.sb q hq).2.1⟩
  have bne:b≠b1:=fun h=>by
    have e:=g; rw [h,g1] at e
    simp only [Option.some.injEq,Obj.cells.injEq] at e
    exact absurd e.2.1 (by decide)
  refine Nm.as hmin ?_
  have g17:=get_ext (get_ext g15 x16 nbs) x17 bne
  have nd17:=nd16.ext x17 fun q hq _ h=>hq.2.2.2 h
  have lm17:LimbsR w17.heap (fun q=>(base<=q/\T q=none/\q≠b/\q≠b1)/\w14.heap.size<=q) (kindL lev) lev sl ls:=lm15.ext xx fun q hq _ h=>by
    rcases h with h | h
    · have:=slt q h; omega
    · omega
  have R17:MemR w17.heap T m M1:=(R14.no x15').ext xx fun q hq=>by
    rcases hq with h | h
    · exact (slt q h).2.2
    · rw [h]; exact tb1
  have x1417:Ext (fun q=>Ts T q∨base<=q) w w17:=((x14'.mono fun _ _ h => .inl h).no x15').trans xx fun q hq h=>by
    rcases h with h | h
    · exact .inr (slt q h).2.1
    · exact .inr (by omega)
  have eL':ents (L.take (p+1)++L.drop (p+1+1))=a++(e1::c):=by
    show List.map Prod.snd _=_
    rw [List.map_append,List.map_take,List.map_drop,show List.map Prod.snd L=_ from eL]
    rw [show a++(e1::e2::c)=(a++[e1])++(e2::c) by simp,List.take_left' (by simp [hp]),show p+1+1=(a++[e1]).length+1 by simp [hp],List.drop_append]
    simp
  have lp17:LimbsP M1.f t lev (limbsOf ls) (k1++k2) (p1++p2):=PartsP.limbs pp j2 j3
  have hrr:=riseP_app.1 (eL ▸ inn.rise)
  have hr2:=List.pairwise_cons.1 hrr.2.1
  have hr3:=List.pairwise_cons.1 hr2.2
  have l12:LtB e1.key e2.key:=hr2.1 e2 (by simp)
  have inn':InnP (a++(e1::e2::c)):=eL ▸ inn
  have ok':EOk (a++(e1::e2::c)):=eL ▸ ok
  have hLfl:(L.take (p+1)++L.drop (p+1+1)).length<=1000:=by simp only [List.length_append,List.length_take,List.length_drop]; omega
  have hkx:L[p].1.k.blk=L[p].1.k.blk:=rfl
  refine fresh_tail (i:=(p:Int)) (mid:=e1) R17 g17 g117 tb tb1 hb1 nd17 (lm17.mono fun q _ h=>h.1) lp17 eL' (by rw [hp]) ?_ (fun q hq=>?_) (fun y hy q hq=>?_) inn'.del (fun e he=>ok' e ?_) hlev ?_ hLfl (ba.keep (R:=fun p=>Keep M.f M1.f p) (fun h=>⟨h.sub fun _ h=>List.mem_append_left _ h,h.sub fun _ h=>List.mem_append_right _ h⟩) (fun h hk=>SubT.keep h hk) (kpq fun q hq=>by simp [hq]))
    (bc.keep (R:=fun p=>Keep M.f M1.f p) (fun h=>⟨h.sub fun _ h=>List.mem_append_left _ h,h.sub fun _ h=>List.mem_append_right _ h⟩) (fun h hk=>SubT.keep h hk) (kpq fun q hq=>by simp [hq])) hka (fun y hy=>?_) (fun e he y hy=>?_) (fun h0=>?_) (by have:=dc.len; omega) fun sl' ls' ps' rs T' m' M' w' R' hbm tg x lm' lp' chg cnt=>k sl' ls' ps' rs T' m' M' w' R' hbm (fun q hq=>tg q (Nat.lt_of_lt_of_le hq x1417.size)) (x1417.trans x fun q _ h=>h) lm' lp' ((dc.trans chg).as (by omega) (by simp) (by simp)) cnt
  · have:=efk.k
    rw [show L[p].2.key=e1.key by rw [hLp]] at this
    exact Rd.ext this xx fun a' q ha hq h=>by
      have h4:=hfk q (.inl (by have h9:L[p].1.k.a=some a':=ha; simp [Sl.blk,h9,hq]))
      rcases h with h | h
      · exact h4.2.2 h
      · exact h4.1.2.2.2 h
  · have h4:=hfk q (.inl hq)
    exact ⟨h4.1,by have:=xx.size; omega,by rw [hblk]; exact h4.2.2⟩
  · have:=(lm17.sep y hy).2.2 q hq
    rw [hblk]; intro h; have:=slt q h; omega
  · simp only [List.mem_append,List.mem_cons] at he ⊢
    rcases he with h | h | h
    · exact .inl h
    · exact .inr (.inl h)
    · exact .inr (.inr (.inr h))
  · rw [eL,szL_append,szL_cons,szL_cons] at hsz
    rw [szL_append,szL_cons]; omega
  · rcases List.mem_append.1 hy with h | h
    · exact lo1 y h
    · intro h5; exact lo2 y h (h5.trans l12)
  · rcases List.mem_append.1 hy with h | h
    · exact (mid1 y h).trans (hr3.1 e he)
    · exact hc e he y h
  · have e2':kindL lev=2:=if_neg (by omega)
    rw [e2'] at pp jlen
    exact pp.two_each (by omega)
end
end Go.Proofs.YtcamoanigdfihaaGreat
namespace Go.V
theorem kvOp_mem{k:List Int}{o:Option (List Int)}{l:List KV}{x:KV}(h:x∈kvOp k o l):x.1=k∨x∈l:=by
 unfold kvOp at h
 rcases List.mem_append.1 h with h | h
 .exact .inr (List.mem_filter.1 h).1
 .rcases List.mem_append.1 h with h | h
  .cases o with
   | none=>simp at h
   | some v=>simp at h; exact .inl (by rw [h])
  .exact .inr (List.mem_filter.1 h).1
end Go.V
namespace Go.Proofs.YtcamoanigdfihaaGreat
open Go.V
theorem limbs_sole{f:Pages}{t:Int}{lev:Nat}{x:LimbV}{kvs:List KV}{ps:List Rf}(h:LimbsP f t lev (limbsOf [x]) kvs ps):Limb f t lev (ents x.L) kvs ps:=by
 have e:limbsOf [x]=[(x.key,ents x.L)]:=rfl
 rw [e] at h
 generalize x.key=k at h
 cases h with
 | one h=>exact h
section
variable {w:Wd} {T:Nat->Option Nat} {m:MemV} {M:Mm}
def PairHead(b b_1:Nat)(r j:Int)(r0_2:Sl)(J2:Int->Sl->Sl->Wd->Prop)(K:Sl->Int->Wd->Prop)(w:Wd):Prop :=
  ∃ S:Wd->Prop,S (drewW w) /\
  ∃ c_14:Value,Held S (Addr.mk b 0 none) (c_14) /\
  ∃ c_15:Int,Held S ((Addr.mk b 0 none).add 1) (.int .u32 c_15) /\
  ∃ c_16:Int,Held S (Addr.mk b_1 0 none) (.int .u8 c_16) /\
  ∃ c_17:Int,Held S ((Addr.mk b_1 0 none).add 1) (.int .u8 c_17) /\
  ∃ c_18:Sl,Held S ((Addr.mk b_1 0 none).add 2) (.slice c_18.a c_18.len c_18.cap) /\
  (
  C_tree_below c_16 c_17 c_18 j (drewW w) fun r0_3 r1_3 r2_1 r3_1 w10 =>
  S w10 /\
  (
  C_tree_grove_node c_14 c_15 r0_3 r1_3 r2_1 r3_1 w10 fun r00 r01 r02 r1_4 w11 =>
  S w11 /\
  NewW w11 (.cells [.int .u8 0, .int .u8 0, .slice none 0 0].toArray 39) fun b_3 w12 =>
  S w12 /\
  List.length (α:=Value) [.int .u8 r00, .int .u8 r01, .slice r02.a r02.len r02.cap]=3/\StN w12 (Addr.mk b_3 0 none) [.int .u8 r00, .int .u8 r01, .slice r02.a r02.len r02.cap] fun w13 =>
  S w13 /\
  If (r1_4 != 0) (
  K ⟨none,0,0⟩ r1_4 w13) (
  ∃ S:Wd->Prop,S (drewW w13) /\
  ∃ vv_6:Value,Held S (Addr.mk b 0 none) (vv_6) /\
  ∃ vv_7:Sl,Held S ((Addr.mk b_1 0 none).add 2) (.slice vv_7.a vv_7.len vv_7.cap) /\
  Ix vv_7.a vv_7.len j 9 fun a_4 =>
  ∃ c_19:Int,Held S (a_4.add 6) (.int .u32 c_19) /\
  ∃ c_20:Int,Held S ((a_4.add 6).add 1) (.int .u64 c_20) /\
  ∃ c_21:Int,Held S ((a_4.add 6).add 2) (.int .u16 c_21) /\
  nilP vv_6 fun _y =>
  invV pz vv_6 "Drop" [.agg ([.int .u32 c_19, .int .u64 c_20, .int .u16 c_21]).toArray] [.one (.int .i64)] (fun r_2 w14 =>
  S w14 /\
  If (r_2 != 0) (
  K ⟨none,0,0⟩ r_2 w14) (
  ∃ S:Wd->Prop,S (drewW w14) /\
  Ix r0_2.a r0_2.len 0 4 fun a_5 =>
  ∃ c_22:Int,Held S (a_5.add 1) (.int .u8 c_22) /\
  ∃ c_23:Int,Held S ((a_5.add 1).add 1) (.int .u8 c_23) /\
  ∃ c_24:Sl,Held S ((a_5.add 1).add 2) (.slice c_24.a c_24.len c_24.cap) /\
  ∃ c_25:Int,Held S (Addr.mk b_3 0 none) (.int .u8 c_25) /\
  ∃ c_26:Int,Held S ((Addr.mk b_3 0 none).add 1) (.int .u8 c_26) /\
  ∃ c_27:Sl,Held S ((Addr.mk b_3 0 none).add 2) (.slice c_27.a c_27.len c_27.cap) /\
  ∃ vv_8:Sl,Held S ((Addr.mk b_1 0 none).add 2) (.slice vv_8.a vv_8.len vv_8.cap) /\
  Nm (iMax r j) fun z_2 =>
  Ix vv_8.a vv_8.len z_2 9 fun a_6 =>
  ∃ vv_9:Sl,Held S a_6 (.slice vv_9.a vv_9.len vv_9.cap) /\
  C_tree_pair c_22 c_23 c_24 c_25 c_26 c_27 vv_9 (decide (j < r)) (drewW w14) fun r0_4 r1_5 w15 =>
  S w15 /\
  If (r1_5 != 0) (
  K ⟨none,0,0⟩ r1_5 w15) (
  ∃ vv_10:Sl,Cell w15 ((Addr.mk b_1 0 none).add 2) (.slice vv_10.a vv_10.len vv_10.cap) /\
  Nm (iMin r j) fun z_3 =>
  Ix vv_10.a vv_10.len z_3 9 fun a_7 =>
  ∃ vv_11:Sl,Cell w15 a_7 (.slice vv_11.a vv_11.len vv_11.cap) /\
  ∃ vv_12:Sl,Cell w15 ((Addr.mk b_1 0 none).add 2) (.slice vv_12.a vv_12.len vv_12.cap) /\
  Nm (iMax r j) fun z_4 =>
  Nm (iMax r j) fun z_5 =>
  Ar .i64 (z_5+1) fun z_6 =>
  C_slices_Delete_api_Entry_api_Entry vv_12 z_4 z_6 w15 fun r_3 w16 =>
  St1 w16 ((Addr.mk b_1 0 none).add 2) (.slice r_3.a r_3.len r_3.cap) fun w17 =>
  Nm (iMin r j) fun z_7 =>
  J2 z_7 r0_4 vv_11 w17))) NoX ((drewW w13))))/\(
  NewW w10 (.cells [.int .u8 0, .int .u8 0, .slice none 0 0].toArray 39) fun b_4 w18 =>
  S w18 /\
  C_tree_grove_node c_14 c_15 r0_3 r1_3 r2_1 r3_1 w18 fun r00_1 r01_1 r02_1 r1_6 w19 =>
  S w19 /\
  List.length (α:=Value) [.int .u8 r00_1, .int .u8 r01_1, .slice r02_1.a r02_1.len r02_1.cap]=3/\StN w19 (Addr.mk b_4 0 none) [.int .u8 r00_1, .int .u8 r01_1, .slice r02_1.a r02_1.len r02_1.cap] fun w20 =>
  S w20 /\
  If (r1_6 != 0) (
  K ⟨none,0,0⟩ r1_6 w20) (
  ∃ S:Wd->Prop,S (drewW w20) /\
  ∃ vv_13:Value,Held S (Addr.mk b 0 none) (vv_13) /\
  ∃ vv_14:Sl,Held S ((Addr.mk b_1 0 none).add 2) (.slice vv_14.a vv_14.len vv_14.cap) /\
  Ix vv_14.a vv_14.len j 9 fun a_8 =>
  ∃ c_28:Int,Held S (a_8.add 6) (.int .u32 c_28) /\
  ∃ c_29:Int,Held S ((a_8.add 6).add 1) (.int .u64 c_29) /\
  ∃ c_30:Int,Held S ((a_8.add 6).add 2) (.int .u16 c_30) /\
  nilP vv_13 fun _y_1 =>
  invV pz vv_13 "Drop" [.agg ([.int .u32 c_28, .int .u64 c_29, .int .u16 c_30]).toArray] [.one (.int .i64)] (fun r_4 w21 =>
  S w21 /\
  If (r_4 != 0) (
  K ⟨none,0,0⟩ r_4 w21) (
  ∃ S:Wd->Prop,S (drewW w21) /\
  Ix r0_2.a r0_2.len 0 4 fun a_9 =>
  ∃ c_31:Int,Held S (a_9.add 1) (.int .u8 c_31) /\
  ∃ c_32:Int,Held S ((a_9.add 1).add 1) (.int .u8 c_32) /\
  ∃ c_33:Sl,Held S ((a_9.add 1).add 2) (.slice c_33.a c_33.len c_33.cap) /\
  ∃ c_34:Int,Held S (Addr.mk b_4 0 none) (.int .u8 c_34) /\
  ∃ c_35:Int,Held S ((Addr.mk b_4 0 none).add 1) (.int .u8 c_35) /\
  ∃ c_36:Sl,Held S ((Addr.mk b_4 0 none).add 2) (.slice c_36.a c_36.len c_36.cap) /\
  ∃ vv_15:Sl,Held S ((Addr.mk b_1 0 none).add 2) (.slice vv_15.a vv_15.len vv_15.cap) /\
  Nm (iMax r j) fun z_8 =>
  Ix vv_15.a vv_15.len z_8 9 fun a_10 =>
  ∃ vv_16:Sl,Held S a_10 (.slice vv_16.a vv_16.len vv_16.cap) /\
  C_tree_pair c_31 c_32 c_33 c_34 c_35 c_36 vv_16 (decide (j < r)) (drewW w21) fun r0_5 r1_7 w22 =>
  S w22 /\
  If (r1_7 != 0) (
  K ⟨none,0,0⟩ r1_7 w22) (
  ∃ vv_17:Sl,Cell w22 ((Addr.mk b_1 0 none).add 2) (.slice vv_17.a vv_17.len vv_17.cap) /\
  Nm (iMin r j) fun z_9 =>
  Ix vv_17.a vv_17.len z_9 9 fun a_11 =>
  ∃ vv_18:Sl,Cell w22 a_11 (.slice vv_18.a vv_18.len vv_18.cap) /\
  ∃ vv_19:Sl,Cell w22 ((Addr.mk b_1 0 none).add 2) (.slice vv_19.a vv_19.len vv_19.cap) /\
  Nm (iMax r j) fun z_10 =>
  Nm (iMax r j) fun z_11 =>
  Ar .i64 (z_11+1) fun z_12 =>
  C_slices_Delete_api_Entry_api_Entry vv_19 z_10 z_12 w22 fun r_5 w23 =>
  St1 w23 ((Addr.mk b_1 0 none).add 2) (.slice r_5.a r_5.len r_5.cap) fun w24 =>
  Nm (iMin r j) fun z_13 =>
  J2 z_13 r0_5 vv_18 w24))) NoX ((drewW w20)))))/\(
  NewW (drewW w) (.cells [.int .u8 0, .int .u8 0, .slice none 0 0].toArray 39) fun b_5 w25 =>
  S w25 /\
  C_tree_below c_16 c_17 c_18 j w25 fun r0_6 r1_8 r2_2 r3_2 w26 =>
  S w26 /\
  C_tree_grove_node c_14 c_15 r0_6 r1_8 r2_2 r3_2 w26 fun r00_2 r01_2 r02_2 r1_9 w27 =>
  S w27 /\
  List.length (α:=Value) [.int .u8 r00_2, .int .u8 r01_2, .slice r02_2.a r02_2.len r02_2.cap]=3/\StN w27 (Addr.mk b_5 0 none) [.int .u8 r00_2, .int .u8 r01_2, .slice r02_2.a r02_2.len r02_2.cap] fun w28 =>
  S w28 /\
  If (r1_9 != 0) (
  K ⟨none,0,0⟩ r1_9 w28) (
  ∃ S:Wd->Prop,S (drewW w28) /\
  ∃ vv_20:Value,Held S (Addr.mk b 0 none) (vv_20) /\
  ∃ vv_21:Sl,Held S ((Addr.mk b_1 0 none).add 2) (.slice vv_21.a vv_21.len vv_21.cap) /\
  Ix vv_21.a vv_21.len j 9 fun a_12 =>
  ∃ c_37:Int,Held S (a_12.add 6) (.int .u32 c_37) /\
  ∃ c_38:Int,Held S ((a_12.add 6).add 1) (.int .u64 c_38) /\
  ∃ c_39:Int,Held S ((a_12.add 6).add 2) (.int .u16 c_39) /\
  nilP vv_20 fun _y_2 =>
  invV pz vv_20 "Drop" [.agg ([.int .u32 c_37, .int .u64 c_38, .int .u16 c_39]).toArray] [.one (.int .i64)] (fun r_6 w29 =>
  S w29 /\
  If (r_6 != 0) (
  K ⟨none,0,0⟩ r_6 w29) (
  ∃ S:Wd->Prop,S (drewW w29) /\
  Ix r0_2.a r0_2.len 0 4 fun a_13 =>
  ∃ c_40:Int,Held S (a_13.add 1) (.int .u8 c_40) /\
  ∃ c_41:Int,Held S ((a_13.add 1).add 1) (.int .u8 c_41) /\
  ∃ c_42:Sl,Held S ((a_13.add 1).add 2) (.slice c_42.a c_42.len c_42.cap) /\
  ∃ c_43:Int,Held S (Addr.mk b_5 0 none) (.int .u8 c_43) /\
  ∃ c_44:Int,Held S ((Addr.mk b_5 0 none).add 1) (.int .u8 c_44) /\
  ∃ c_45:Sl,Held S ((Addr.mk b_5 0 none).add 2) (.slice c_45.a c_45.len c_45.cap) /\
  ∃ vv_22:Sl,Held S ((Addr.mk b_1 0 none).add 2) (.slice vv_22.a vv_22.len vv_22.cap) /\
  Nm (iMax r j) fun z_14 =>
  Ix vv_22.a vv_22.len z_14 9 fun a_14 =>
  ∃ vv_23:Sl,Held S a_14 (.slice vv_23.a vv_23.len vv_23.cap) /\
  C_tree_pair c_40 c_41 c_42 c_43 c_44 c_45 vv_23 (decide (j < r)) (drewW w29) fun r0_7 r1_10 w30 =>
  S w30 /\
  If (r1_10 != 0) (
  K ⟨none,0,0⟩ r1_10 w30) (
  ∃ vv_24:Sl,Cell w30 ((Addr.mk b_1 0 none).add 2) (.slice vv_24.a vv_24.len vv_24.cap) /\
  Nm (iMin r j) fun z_15 =>
  Ix vv_24.a vv_24.len z_15 9 fun a_15 =>
  ∃ vv_25:Sl,Cell w30 a_15 (.slice vv_25.a vv_25.len vv_25.cap) /\
  ∃ vv_26:Sl,Cell w30 ((Addr.mk b_1 0 none).add 2) (.slice vv_26.a vv_26.len vv_26.cap) /\
  Nm (iMax r j) fun z_16 =>
  Nm (iMax r j) fun z_17 =>
  Ar .i64 (z_17+1) fun z_18 =>
  C_slices_Delete_api_Entry_api_Entry vv_26 z_16 z_18 w30 fun r_7 w31 =>
  St1 w31 ((Addr.mk b_1 0 none).add 2) (.slice r_7.a r_7.len r_7.cap) fun w32 =>
  Nm (iMin r j) fun z_19 =>
  J2 z_19 r0_7 vv_25 w32))) NoX ((drewW w28))))
theorem pair_head{t i:Int}{lev b b1 j:Nat}{l0 s:Sl}{L:List (EntV×Ent)}{ln:List Ent}{J2:Int->Sl->Sl->Wd->Prop}{K:Sl->Int->Wd->Prop}
  (R:MemR w.heap T m M) (g:w.heap[b]? = some (.cells [srcV m, .int .u32 t].toArray 163 (0,0))) (g1:NdB w.heap b1 2 ((lev+1:Nat):Int) s) (nd:NdR w.heap s L) (hj:j < L.length) (hlv:lev+1<=30) (hN:NodeAt M.f t (kindL lev) lev L[j].2.cd ln) (hne:ln≠[])
  (k:∀ w' b3 sn Ln,Ext No w w'->w.heap.size<=b3->NdB w'.heap b3 (kindL lev) lev sn->NdO w'.heap w.heap.size sn Ln->ents Ln=ln->PairTail b b1 b3 i j l0 J2 K 0 w'):PairHead b b1 i j l0 J2 K w:=by
 unfold PairHead
 have ek:kindOf ((lev:Nat):Int)=kindL lev:=kind_eq lev
 have el:(((lev+1:Nat):Int) - 1)=lev:=by omega
 rw [<- ek] at hN
 refine ⟨Ext No w,(Ext.refl _ _).drew,_,Held.cell (Cell.lst g rfl),_,Held.cell (Cell.lst g rfl),_,Held.cell (Cell.lst g1 rfl),_,Held.cell (Cell.lst g1 rfl),_,Held.cell (Cell.lst g1 rfl),?_,?_⟩
 .refine below_spec (w:=drewW w) nd (by omega) (by simpa using hj) (by omega) fun w10 x10=>⟨x10.drew_left,?_,?_⟩
  .simp only [Int.toNat_natCast,el]
   have x10':=x10.drew_left
   have s10:=x10'.size
   refine node_at (R.no x10') hN hne fun sn Ln w11 oL eL x11=>⟨x10'.no x11,?_⟩
   have s11:=x11.size
   refine NewW.mk fun b3 w12 n12=>⟨(x10'.no x11).no n12.ext,st3 n12.get rfl fun w13 g13 x13 z13=>?_⟩
   have h3:=n12.at_
   have x1113:Ext No w11 w13:=n12.ext.trans x13 fun q hq h=>by omega
   have x13':Ext No w w13:=(x10'.no x11).no x1113
   rw [ek] at g13
   exact ⟨x13',k w13 b3 sn Ln x13' (by omega) g13 ((oL.no x1113).mono s10) eL⟩
  .simp only [Int.toNat_natCast,el]
   have x10':=x10.drew_left
   have s10:=x10'.size
   refine NewW.mk fun b3 w18 n18=>⟨x10'.no n18.ext,?_⟩
   have h3:=n18.at_; have z18:=n18.size
   have x18:=x10'.no n18.ext
   refine node_at (R.no x18) hN hne fun sn Ln w11 oL eL x11=>⟨x18.no x11,?_⟩
   refine st3 (get_no n18.get x11) rfl fun w13 g13 x13 z13=>?_
   have x1813:Ext (·=b3) w11 w13:=x13
   have x13':Ext No w w13:=(x18.no x11).trans x13 fun q hq h=>by omega
   rw [ek] at g13
   exact ⟨x13',k w13 b3 sn Ln x13' (by omega) g13 ((oL.ext x1813 fun q hq _ h=>by omega).mono (by omega)) eL⟩
 .refine NewW.mk fun b3 w25 n25=>⟨n25.ext.drew_left,?_⟩
  have h3:=n25.at_; have z25:=n25.size
  have h3':b3=w.heap.size:=h3
  have z25':w25.heap.size=w.heap.size+1:=z25
  have x25:Ext No w w25:=n25.ext.drew_left
  refine below_spec (nd.no x25) (by omega) (by simpa using hj) (by omega) fun w26 x26=>⟨x25.no x26,?_⟩
  simp only [Int.toNat_natCast,el]
  have s26:=x26.size
  have x26':=x25.no x26
  refine node_at (R.no x26') hN hne fun sn Ln w11 oL eL x11=>⟨x26'.no x11,?_⟩
  refine st3 (get_no (get_no n25.get x26) x11) rfl fun w13 g13 x13 z13=>?_
  have x1813:Ext (·=b3) w11 w13:=x13
  have x13':Ext No w w13:=(x26'.no x11).trans x13 fun q hq h=>by omega
  rw [ek] at g13
  exact ⟨x13',k w13 b3 sn Ln x13' (by omega) g13 ((oL.ext x1813 fun q hq _ h=>by omega).mono (by omega)) eL⟩
end
section
variable {w:Wd} {T:Nat->Option Nat} {m:MemV} {M:Mm}
set_option maxHeartbeats 8000000 in
theorem branch_spec{t:Int}{lev:Nat}(ih:AlterOK t lev):BranchOK t lev:=by
 intro w T m M base s L kvs ps oK oV key val d K R nd hbase hr hsh hok h2 hk hs ho hn k
 apply S_tree_grove_branch
 have sup:∀ q,w.heap.size<=q->T q=none:=fun q hq=>R.supT hq
 have sh:=hr.shape
 unfold shapeP at sh
 have hlev:lev+1<=30:=by rcases sh with h | h <;> omega
 have inn:InnP (ents L):=hr.inn
 have hcnt:=wr_count hsh
 have hLl:L.length<=1000:=by have:=ents_len (L:=L) rfl; omega
 have nl:=nd.nd.len
 refine NewW.mk fun b w1 n1=>NewW.mk fun b1 w2 n2=>NewW.mk fun b2 w3 n3=>?_
 have hb:=n1.at_; have hb1:=n2.at_; have hb2:=n3.at_; have z1:=n1.size; have z2:=n2.size; have z3:=n3.size
 have x03:Ext No w w3:=(n1.ext.no n2.ext).no n3.ext
 have g3:=get_no (get_no n1.get n2.ext) n3.ext
 have g13:=get_no n2.get n3.ext
 have g23:=n3.get
 have nd3:=nd.no x03
 have h0e:∃ e l,ents L=e::l/\e.key=[]:=by
  cases hL:ents L with
  | nil=>exact absurd (by have:=congrArg List.length hL; rwa [List.length_map] at this) (show L.length≠0 by omega)
  | cons e l=>exact ⟨e,l,rfl,inn.hd e l hL⟩
 refine ⟨_,Cell.lst g13 rfl,_,Cell.lst g13 rfl,_,Cell.lst g13 rfl,_,Cell.lst g23 rfl,child_spec nd3.nd (Rd.no ho.kR x03) ho.k8 (by omega) hr.ord h0e fun i w4 hci x4=>?_⟩
 have x04:Ext No w w4:=x03.no x4
 have s4:=x4.size; have s04:=x04.size
 have g4:=get_no g3 x4
 have g14:NdB w4.heap b1 2 ((lev+1:Nat):Int) s:=get_no g13 x4
 have g24:=get_no g23 x4
 have nd4:=nd3.no x4
 -- the child
 have hiL:i < L.length:=by have:=hci.lt; simpa using this
 obtain ⟨a,mid,c,eL,hia,hLi⟩ : ∃ a mid c,ents L=a++(mid::c)/\i=a.length/\L[i].2=mid:=by
  refine ⟨(ents L).take i,L[i].2,(ents L).drop (i+1),?_,?_,rfl⟩
  .conv=>lhs; rw [<- List.take_append_drop i (ents L),List.drop_eq_getElem_cons hci.lt]
   simp
  .rw [List.length_take]; have:=hci.lt; omega
 have hL2:L.length=a.length+(c.length+1):=by have:=congrArg List.length eL; simpa using this
 have cle:∀ e∈a++[mid],¬ LtB key e.key:=fun e he=>by
  obtain ⟨j,hj,rfl⟩:=List.getElem_of_mem he
  have hj':j < (ents L).length:=by rw [eL]; simp at hj ⊢; omega
  have:=hci.le j hj' (by simp at hj; omega)
  have e2:(ents L)[j]=(a++[mid])[j]:=by
   have e3:ents L=(a++[mid])++c:=by rw [eL]; simp
   simp only [e3]; rw [List.getElem_append_left hj]
  rw [<- e2]; exact this
 have cgt:∀ e∈c,LtB key e.key:=fun e he=>by
  obtain ⟨j,hj,rfl⟩:=List.getElem_of_mem he
  have hj':i+1+j < (ents L).length:=by rw [eL]; simp; omega
  have:=hci.gt (i+1+j) hj' (by omega)
  have e2:(ents L)[i+1+j]=c[j]:=by
   have e3:ents L=(a++[mid])++c:=by rw [eL]; simp
   simp only [e3]; rw [List.getElem_append_right (by simp; omega)]
   congr 1; simp; omega
  rw [<- e2]; exact this
 have hrise:RiseP (a++(mid::c)):=eL ▸ inn.rise
 rw [eL] at hk
 obtain ⟨ka,kb',pa,pb',ba,hb',rfl,rfl,hka⟩:=KidsP.split hk hrise
 cases hb' with
 | @cons _ _ kvm kc pm pc hT lo hi bc =>
 have hrc:=List.pairwise_cons.1 (riseP_app.1 hrise).2.1
 have hcm:∀ e∈c,∀ x∈kvm,LtB x.1 e.key:=fun e he x hx=>by
  cases c with
  | nil=>cases he
  | cons e0 c' =>
   have h1:=hi e0 c' rfl x hx
   rcases List.mem_cons.1 he with h | h
   .rw [h]; exact h1
   .exact h1.trans ((List.pairwise_cons.1 hrc.2).1 e h)
 have kca:∀ x∈ka,LtB x.1 key:=fun x hx=>(hka mid (by simp) x hx).lt_le (cle mid (by simp))
 have kcc:∀ x∈kc,LtB key x.1:=fun x hx=>by
  cases c with
  | nil=>cases bc; cases hx
  | cons e0 c'=>exact (cgt e0 (by simp)).lt_le (kids_lo bc (rise_iff.2 hrc.2) _ _ rfl x hx)
 have hop:kvOp key (opV d val) (ka++(kvm++kc))=ka++(kvOp key (opV d val) kvm++kc):=kvOp_mid kca kcc
 rw [hop] at k
 generalize hkm:kvOp key (opV d val) kvm=kvm' at *
 have lo':∀ x∈kvm',¬ LtB x.1 mid.key:=fun x hx=>by
  rw [<- hkm] at hx
  rcases kvOp_mem hx with h | h
  .rw [h]; exact cle mid (by simp)
  .exact lo x h
 have hc':∀ e∈c,∀ x∈kvm',LtB x.1 e.key:=fun e he x hx=>by
  rw [<- hkm] at hx
  rcases kvOp_mem hx with h | h
  .rw [h]; exact cgt e he
  .exact hcm e he x h
 have hsm:Sub pm M:=Sub.left (Sub.right hs)
 have nS:∀{q},q < w4.heap.size->T q=none->¬ (Ts T q∨w4.heap.size<=q):=fun h1 h2 h=>by
  rcases h with h | h
  .exact h h2
  .omega
 have nSb:=nS (q:=b) (by omega) (sup b (by omega))
 have nSb1:=nS (q:=b1) (by omega) (sup b1 (by omega))
 have nSb2:=nS (q:=b2) (by omega) (sup b2 (by omega))
 refine ⟨Ext (fun q=>Ts T q∨w4.heap.size<=q) w4,(Ext.refl _ _).drew,srcV m,Held.but (Cell.lst g4 rfl) nSb,_,Held.but (Cell.lst g4 rfl) nSb,_,Held.but (Cell.lst g14 rfl) nSb1,_,Held.but (Cell.lst g14 rfl) nSb1,_,Held.but (Cell.lst g14 rfl) nSb1,_,Held.but (Cell.lst g24 rfl) nSb2,_,Held.but (Cell.lst g24 rfl) nSb2,_,Held.but (Cell.lst g24 rfl) nSb2,?_⟩
 refine below_spec (w:=drewW w4) nd4.nd (by omega) (by simpa using hiL) (by omega) fun w5 x5=>⟨x5.drew_left.of_no.mono fun _ _ h=>h,?_⟩
 have x45:Ext No w4 w5:=x5.drew_left
 have x05:Ext No w w5:=x04.no x45
 have s5:=x45.size
 have el:(((lev+1:Nat):Int) - 1)=lev:=by omega
 simp only [Int.toNat_natCast,el,hLi]
 refine ih (R.no x05) hT hsm (ho.ext x05.of_no fun _ _ h=>h) hn fun l0 lsA pm' T' m' M' w6 A=>?_
 rw [hkm] at A
 obtain ⟨R6,hbm,tg,x56,lm6,lp6,cg⟩:=A
 have x46:Ext (fun q=>Ts T q∨w4.heap.size<=q) w4 w6:=x45.of_no.trans x56 fun q hq h=>by
  rcases h with h | h
  .exact .inl h
  .exact .inr (by omega)
 have s6:=x56.size
 have g6:=get_ext g4 x46 nSb
 have g16:NdB w6.heap b1 2 ((lev+1:Nat):Int) s:=get_ext g14 x46 nSb1
 have tg':∀ q,q < w5.heap.size->T' q=T q:=tg
 have tb':T' b=none:=by rw [tg' b (by omega)]; exact sup b (by omega)
 have tb1':T' b1=none:=by rw [tg' b1 (by omega)]; exact sup b1 (by omega)
 rw [<- srcV_eq hbm] at g6
 have nd6:NdQ w6.heap (fun q=>base<=q/\T' q=none/\q≠b/\q≠b1) s L:=((nd.mono (B':=fun q=>base<=q/\T' q=none/\q≠b/\q≠b1/\q < w.heap.size) fun q hq h=>⟨h.1,by rw [tg' q (by omega)]; exact h.2,by omega,by omega,hq⟩).ext (x04.of_no.trans x46 fun _ _ h=>h) fun q hq _ h=>by
  have:=tg' q (by omega)
  rcases h with h | h
  .exact h (by rw [<- this]; exact hq.2.1)
  .omega).mono fun q _ h=>⟨h.1,h.2.1,h.2.2.1,h.2.2.2.1⟩
 have lm6':LimbsR w6.heap (fun q=>(base<=q/\T' q=none/\q≠b/\q≠b1)/\w5.heap.size<=q) (kindL lev) lev l0 lsA:=lm6.mono fun q _ h=>⟨⟨by omega,h.2,by omega,by omega⟩,h.1⟩
 have hll:l0.len=lsA.length:=lm6.len
 have slt:∀ q,s.blk=some q->q < w.heap.size:=fun q hq=>(nd.own.lt hq).2
 refine ⟨x46,If.bne (fun h=>(h rfl).elim) fun _=>⟨s,Cell.lst g16 rfl,Ix.elem nd6.nd.rd (entCs_len L) (by decide) (by omega) (by omega) fun bb o hi3 hsb hcell=>?_⟩⟩
 simp only [Int.toNat_natCast] at hi3 hcell
 have x06:Ext (fun q=>Ts T q∨base<=q) w w6:=x04.of_no.trans x46 fun q hq h=>by
  rcases h with h | h
  .exact .inl h
  .exact .inr (by omega)
 refine ⟨_,hcell 0 _ rfl,fun i l first w'=>FreshTail b b1 i l first K w',⟨fun t' w'=>Ext No w6 w'/\(t'=true->∃ x,lsA=[x]/\3 * (wr (kindL lev) lev (ents x.L)).length < 224)/\(t'=false->0 < lev->∀ x∈limbsOf lsA,2<=x.2.length),?_,?_⟩,fun _ i l first w' h=>h⟩
 .refine If.beq (fun h1=>⟨s,Cell.lst g16 rfl,If.dec (fun _=>?_) fun h=>by omega⟩) fun h1=>?_
  .obtain ⟨x,rfl⟩ : ∃ x,lsA=[x]:=List.length_eq_one_iff.1 (by omega)
   have lx:=limbs_sole lp6
   have hxc:=wr_count lx.short
   refine Ix.elem lm6.rd (limbCs_len _ _ _) (by decide) (by decide) (by omega) fun bb2 o2 hi4 _ hcell2=>?_
   replace hcell2:∀ jj v,(limbCs (kindL lev) lev x)[jj]? = some v->Cell w6 ⟨bb2,o2+jj,none⟩ v:=hcell2
   refine ⟨_,hcell2 1 _ rfl,_,hcell2 2 _ rfl,_,hcell2 3 _ rfl,low_spec (lm6.nd x (by simp)).nd lx.right (by simp only [List.length_map] at hxc; omega) fun w7 x7=>If.dec (fun hlow=>⟨x7,fun _=>⟨x,rfl,hlow⟩,fun h=>absurd h (by decide)⟩) fun hlow=>?_⟩
   refine Ix.elem (lm6.no x7).rd (limbCs_len _ _ _) (by decide) (by decide) (by omega) fun bb3 o3 hi5 _ hcell3=>?_
   replace hcell3:∀ jj v,(limbCs (kindL lev) lev x)[jj]? = some v->Cell w7 ⟨bb3,o3+jj,none⟩ v:=hcell3
   have h2x:0 < lev->2<=(ents x.L).length:=fun h0=>by
    have e2:kindL lev=2:=if_neg (by omega)
    have hh:=lx.right
    rw [e2] at hh hlow
    rw [wr_len] at hlow
    have hi2:=hh.inn
    cases hx:ents x.L with
    | nil=>exact (lx.ne hx).elim
    | cons e l =>
     cases l with
     | nil =>
      have:=hi2.hd e [] hx
      rw [hx,szL_cons,szE_inn,this,szL_nil] at hlow
      simp at hlow
     | cons e2 l=>simp
   have fin:∀ q∈limbsOf [x],0 < lev->2<=q.2.length:=fun q hq h0=>by
    have:q=(x.key,ents x.L):=by simpa [limbsOf] using hq
    rw [this]; exact h2x h0
   refine ⟨_,hcell3 1 _ rfl,If.beq (fun hk2=>Ix.elem (lm6.no x7).rd (limbCs_len _ _ _) (by decide) (by decide) (by omega) fun bb4 o4 hi6 _ hcell4=>?_) fun hk2=>⟨x7,fun h=>absurd h (by decide),fun _ h0 q hq=>fin q hq h0⟩⟩
   replace hcell4:∀ jj v,(limbCs (kindL lev) lev x)[jj]? = some v->Cell w7 ⟨bb4,o4+jj,none⟩ v:=hcell4
   have h0:0 < lev:=by
    rcases Nat.eq_zero_or_pos lev with h | h
    .subst h; exact absurd hk2 (by decide)
    .exact h
   have hxl:=(lm6.nd x (by simp)).nd.len
   have:=h2x h0
   simp only [List.length_map] at this
   refine ⟨_,hcell4 3 _ rfl,x7,fun h=>?_,fun _ h0 q hq=>fin q hq h0⟩
   have h':((x.s.len:Int) == 1)=true:=h
   have:=of_decide_eq_true h'
   omega
  .refine ⟨Ext.refl _ _,fun h=>absurd h (by decide),fun _ h0 x hx=>?_⟩
   have hl1:(limbsOf lsA).length≠1:=by simp only [limbsOf,List.length_map]; omega
   revert hx hl1
   generalize limbsOf lsA=lo at lp6
   intro hx hl1
   cases lp6 with
   | nil=>cases hx
   | one h=>simp at hl1
   | two _ _ _ _ _ _ _ n1 n2 =>
    simp only [List.mem_cons,List.not_mem_nil,or_false] at hx
    rcases hx with h | h <;> subst h
    .exact n1 h0
    .exact n2 h0
 rintro _ t' w8 ⟨x8,ht1,ht2⟩
 have x68:=x8.size
 have R8:=R6.no x8
 have g8:=get_no g6 x8
 have g18:NdB w8.heap b1 2 ((lev+1:Nat):Int) s:=get_no g16 x8
 have nd8:=nd6.no x8
 have lm8:=lm6'.no x8
 have hsz:szL 2 (ents L)<=297:=by rw [wr_len] at hsh; omega
 have hn':M'.pages.length<=1000100:=by have:=cg.len; omega
 have x08:Ext (fun q=>Ts T q∨base<=q) w w8:=x06.no x8
 have ts:∀{q},q < w.heap.size->(Ts T' q∨base<=q)->(Ts T q∨base<=q):=fun {q} hq h=>by
  rcases h with h | h
  .exact .inl (by show T q≠none; rw [<- tg' q (by omega)]; exact h)
  .exact .inr h
 have kpa:Keep M.f M'.f pa:=cg.keep fun q hq => .inl fun h=>Sub.apart R.sane hs hq (List.mem_append_left _ h)
 have kpc:Keep M.f M'.f pc:=cg.keep fun q hq => .inl fun h=>Sub.apart R.sane (Sub.right hs) h hq
 have ba':KidsP (SubT M'.f t lev) a ka pa:=ba.keep (R:=fun p=>Keep M.f M'.f p) (fun h=>⟨h.sub fun _ h=>List.mem_append_left _ h,h.sub fun _ h=>List.mem_append_right _ h⟩) (fun h hk=>SubT.keep h hk) kpa
 have bc':KidsP (SubT M'.f t lev) c kc pc:=bc.keep (R:=fun p=>Keep M.f M'.f p) (fun h=>⟨h.sub fun _ h=>List.mem_append_left _ h,h.sub fun _ h=>List.mem_append_right _ h⟩) (fun h hk=>SubT.keep h hk) kpc
 -- the pages that are there
 have hsub':Sub (pm'++(pa++pc)) M':=fun q=>by
  have h1:=hs q; have h2:=cg.cnt q
  simp only [List.count_append] at h1 h2 ⊢; omega
 refine If.cases (fun h=>?_) fun h=>?_
 .subst h
  obtain ⟨x,rfl,hlow⟩:=ht1 rfl
  have lx:=limbs_sole lp6
  have big:∀{jn:Nat}(hj:jn < L.length){nb:Ent}{kj:List KV}{pj:List Rf},L[jn].2=nb->SubT M'.f t lev nb.cd kj pj->(∀{w9:Wd},Ext No w8 w9->(∀ w13 b3 sn Ln ln pj',Ext No w9 w13->w9.heap.size<=b3->NdB w13.heap b3 (kindL lev) lev sn->NdO w13.heap w9.heap.size sn Ln->ents Ln=ln->Limb M'.f t lev ln kj pj'->pj=nb.cd::pj'->PairTail b b1 b3 i jn l0 (fun i l first w'=>FreshTail b b1 i l first K w') K 0 w13)->PairHead b b1 i jn l0 (fun i l first w'=>FreshTail b b1 i l first K w') K w9):=fun {jn} hj {nb kj pj} hnb hS {w9} x9 hk=>by
   obtain ⟨ln,pj',hN,hne,h2n,hB,epj⟩:=hS.open_
   refine pair_head (R8.no x9) (get_no g8 x9) (get_no g18 x9) (nd8.no x9).nd hj hlev (by rw [hnb]; exact hN) hne fun w13 b3 sn Ln x13 hb3 g13 o13 e13=>hk w13 b3 sn Ln ln pj' x13 hb3 g13 o13 e13 ⟨hN.right,hN.short,hN.ok,hB,hne⟩ epj
  have fin:∀{w9 w13:Wd}{b3 jn p:Nat}{sn:Sl}{Ln:List (EntV×Ent)}{a' c' l1 l2:List Ent}{e1 e2:Ent}{lft:Bool}{rj:Rf}{ka' k1 k2 kc':List KV}{pa' p1 p2 pc':List Rf},Ext No w8 w9->Ext No w9 w13->w9.heap.size<=b3->NdB w13.heap b3 (kindL lev) lev sn->NdO w13.heap w9.heap.size sn Ln->ents L=a'++(e1::e2::c')->p=a'.length ->
    ((lft=true/\l1=ents Ln/\l2=ents x.L/\i=p+1/\jn=p/\rj=e1.cd)∨(lft=false/\l1=ents x.L/\l2=ents Ln/\i=p/\jn=p+1/\rj=e2.cd))->Limb M'.f t lev l1 k1 p1->Limb M'.f t lev l2 k2 p2->KidsP (SubT M'.f t lev) a' ka' pa'->KidsP (SubT M'.f t lev) c' kc' pc' ->
    (∀ x∈ka',LtB x.1 e1.key)->(∀ x∈k1,¬ LtB x.1 e1.key)->(∀ x∈k1,LtB x.1 e2.key)->(∀ x∈k2,¬ LtB x.1 e2.key)->(∀ e∈c',∀ x∈k2,LtB x.1 e.key)->ka'++((k1++k2)++kc')=ka++(kvm'++kc)->(∀ q,(pm'++(pa++pc)).count q=([rj]++(pa'++(p1++(p2++pc')))).count q)->rj∈pa++(pm++pc) ->
    PairTail b b1 b3 i jn l0 (fun i l first w'=>FreshTail b b1 i l first K w') K 0 w13:=fun {w9 w13 b3 jn p sn Ln a' c' l1 l2 e1 e2 lft rj ka' k1 k2 kc' pa' p1 p2 pc'} x9 x13 hb3 g13 o13 eL' hp hl h1 h2 ba2 bc2 o1 o2 o3 o4 o5 ekv ecnt hrm=>by
   have x813:=x9.no x13
   have z9:=x9.size; have z13:=x13.size
   have sup':∀ q,w8.heap.size<=q->T' q=none:=fun q hq=>R8.supT hq
   have hsubj:Sub ([rj]++(pa'++(p1++(p2++pc')))) M':=fun q=>by rw [<- ecnt q]; exact hsub' q
   refine pair_tail (R8.no x813) (get_no g8 x813) (get_no g18 x813) g13 tb' tb1' (sup' b3 (by omega)) (by omega) (nd8.no x813) (o13.q fun q hq _=>sup' q (by omega)) ((lm8.no x813).mono fun q _ h=>⟨h.1.1,h.1.2.1⟩) eL' hp hl h1 h2 hlow (Sub.mem hsubj (by simp)) (fun q hq h=>Sub.apart R8.sane hsubj (q:=rj) (by simp) (by rw [<- h]; exact hq)) inn hok hlev hsz hLl ba2 bc2 o1 o2 o3 o4 o5 (by omega) fun sl ls ps' rs T2 m2 M2 w2 R2 hbm2 tg2 x2 lm2 lp2 chg2 cnt2=>?_
   refine k sl ls ps' T2 m2 M2 w2 ⟨R2,hbm2.trans hbm,fun q hq=>by rw [tg2 q (by have:=x813.size; omega)]; exact tg' q (by omega),(x08.no x813).trans x2 fun q hq h=>ts hq h,lm2,ekv ▸ lp2,?_⟩
   refine (cg.trans chg2).as (by omega) (fun q hq=>?_) fun q=>?_
   .rcases List.mem_append.1 hq with h | h
    .simp [h]
    .rw [List.mem_singleton] at h; subst h
     exact hrm
   .have h5:=ecnt q; have h6:=cnt2 q
    simp only [List.count_append] at h5 h6 ⊢; omega
  have at_:∀{jn:Nat}{l1 l2:List Ent}{nb:Ent}(hj:jn < L.length),ents L=l1++(nb::l2)->jn=l1.length->L[jn].2=nb:=fun {jn l1 l2 nb} hj e1 e2=>by
   have h3:=congrArg (fun l=>l[jn]?) e1
   simp only [List.getElem?_map,List.getElem?_eq_getElem hj,Option.map_some] at h3
   rw [List.getElem?_append_right (by omega),show jn - l1.length=0 by omega] at h3
   simpa using h3
  refine Ar.i64 (by omega) ⟨fun j w'=>Ext No w8 w'/\(0 < i->j=((i - 1:Nat):Int))/\(i=0->j=((1:Nat):Int)),If.dec (fun h=>Ar.i64 (by omega) ⟨Ext.refl _ _,fun _=>by omega,fun h=>by omega⟩) fun h=>⟨Ext.refl _ _,fun h=>by omega,fun h=>by omega⟩,?_⟩
  rintro _ j w9 ⟨x9,hj1,hj2⟩
  rcases Nat.eq_zero_or_pos i with h0 | h0
  .have ha:a=[]:=List.eq_nil_of_length_eq_zero (by omega)
   subst ha
   cases ba with
   | nil =>
   cases c with
   | nil=>simp only [List.length_nil] at hL2; omega
   | cons nb c =>
   cases bc' with
   | @cons _ _ kj kc2 pj pc2 hT2 lo2 hi2 bc2 =>
   rw [hj2 h0]
   have hrc3:=List.pairwise_cons.1 hrc.2
   refine big (jn:=1) (nb:=nb) (by omega) (at_ (l1:=[mid]) (l2:=c) (by omega) eL rfl) hT2 x9 fun w13 b3 sn Ln ln pj' x13 hb3 g13 o13 e13 hL5 epj=>?_
   subst epj
   refine fin (p:=0) (a':=[]) (lft:=false) (rj:=nb.cd) (ka':=[]) (pa':=[]) x9 x13 hb3 g13 o13 eL rfl (.inr ⟨rfl,rfl,e13.symm,h0,rfl,rfl⟩) lx hL5 .nil bc2 (fun x hx=>by cases hx) lo' (fun x hx=>hc' nb (by simp) x hx) lo2 (fun e he x hx=>?_) (by simp) (fun q=>?_) (by simp)
   .cases c with
    | nil=>cases he
    | cons e0 c' =>
     have h1:=hi2 e0 c' rfl x hx
     rcases List.mem_cons.1 he with h | h
     .rw [h]; exact h1
     .exact h1.trans ((List.pairwise_cons.1 hrc3.2).1 e h)
   .simp only [List.count_append,List.count_cons,List.count_nil]; omega
  .have hane:a≠[]:=fun h=>by rw [h] at hia; simp at hia; omega
   obtain ⟨a2,nb,rfl⟩ : ∃ a2 nb,a=a2++[nb]:=⟨a.dropLast,a.getLast hane,(List.dropLast_concat_getLast hane).symm⟩
   have hal:i=a2.length+1:=by simpa using hia
   have eL2:ents L=a2++(nb::mid::c):=by rw [eL]; simp
   obtain ⟨ka2,kb2,pa2,pb2,bb1,bb2,rfl,rfl,hk3⟩:=KidsP.split ba' (riseP_app.1 hrise).1
   cases bb2 with
   | @cons _ _ kj kx pj px hT2 lo2 hi2 bx =>
   cases bx
   rw [hj1 h0]
   refine big (jn:=i - 1) (nb:=nb) (by omega) (at_ (l1:=a2) (l2:=mid::c) (by omega) eL2 (by omega)) hT2 x9 fun w13 b3 sn Ln ln pj' x13 hb3 g13 o13 e13 hL5 epj=>?_
   subst epj
   refine fin (p:=a2.length) (a':=a2) (lft:=true) (rj:=nb.cd) x9 x13 hb3 g13 o13 eL2 rfl (.inl ⟨rfl,e13.symm,rfl,hal,by omega,rfl⟩) hL5 lx bb1 bc' (fun x hx=>hk3 nb (by simp) x hx) lo2 (fun x hx=>hka mid (by simp) x (by simp [hx])) lo' (fun e he x hx=>hc' e he x hx) (by simp) (fun q=>?_) (by simp)
   simp only [List.count_append,List.count_cons,List.count_nil]; omega
 .subst h
  have efk:=nd8.nd.get (L:=L) hiL
  have hfk:=nd8.kb _ (List.getElem_mem hiL)
  refine fresh_tail R8 g8 g18 tb' tb1' (by omega) nd8 (lm8.mono fun q _ h=>h.1) lp6 eL (by rw [hia]) (by have:=efk.k; rw [hLi] at this; exact this) (fun q hq=>hfk q (.inl hq)) (fun y hy q hq h=>by have:=(lm8.sep y hy).2.2 q hq; have:=slt q h; omega) (eL ▸ inn) (eL ▸ hok) hlev (by rw [<- eL]; exact hsz) hLl ba' bc' (fun x hx=>hka mid (by simp) x hx) lo' hc' (ht2 rfl) (by omega) fun sl ls ps' rs T2 m2 M2 w2 R2 hbm2 tg2 x2 lm2 lp2 chg2 cnt2=>?_
  refine k sl ls ps' T2 m2 M2 w2 ⟨R2,hbm2.trans hbm,fun q hq=>by rw [tg2 q (by omega)]; exact tg' q (by omega),x08.trans x2 fun q hq h=>ts hq h,lm2,lp2,?_⟩
  refine (cg.trans chg2).as (by omega) (fun q hq=>?_) fun q=>?_
  .rw [List.append_nil] at hq; simp [hq]
  have:=cnt2 q
  simp only [List.count_append,List.count_nil] at this ⊢; omega
theorem alter_all{t:Int}:∀ lev:Nat,AlterOK t lev
 | 0=>alter_spec fun l' h=>absurd h (by omega)
 | lev+1=>alter_spec fun l' h=>by cases h; exact branch_spec (alter_all lev)
end
end Go.Proofs.YtcamoanigdfihaaGreat
namespace Go.V
section
variable {f:Pages} {t:Int}
theorem root_law{lev:Nat}{D:List LD}{rs:List Rf}(hlev:lev+1<=30)(hl2:D.length=2)(hlen:rs.length=D.length)(hD:∀ i (h:i < D.length) (h':i < rs.length),SubT f t lev rs[i] D[i].kv (rs[i]::D[i].p))(hr:∀ r∈rs,r.ok/\r ≠ .z)
  (two:∀ d1 d2,D=[d1,d2]->1<=d2.k.length/\d2.k.length<=32/\B8 d2.k/\(∀ x∈d1.kv,LtB x.1 d2.k)/\(∀ x∈d2.kv,¬ LtB x.1 d2.k)) :
  ∃ l,freshE [] (D.map fun d=>(d.k,d.l)) rs=l/\RightP 2 ((lev+1:Nat):Int) l/\EOk l/\l.length=2/\(wr 2 ((lev+1:Nat):Int) l).length<=224/\∃ pm,KidsP (SubT f t lev) l ((D.map LD.kv).flatten) pm/\∀ q,pm.count q=rs.count q+(D.map LD.p).flatten.count q:=by
 obtain ⟨d1,d2,r1,r2,rfl,rfl⟩ : ∃ d1 d2 r1 r2,D=[d1,d2]/\rs=[r1,r2]:=by
  match D,rs,hlen,hl2 with
  | [d1,d2],[r1,r2],_,_=>exact ⟨d1,d2,r1,r2,rfl,rfl⟩
 have hs1:SubT f t lev r1 d1.kv (r1::d1.p):=hD 0 (by simp) (by simp)
 have hs2:SubT f t lev r2 d2.kv (r2::d2.p):=hD 1 (by simp) (by simp)
 have h1:=hr r1 (by simp)
 have h2:=hr r2 (by simp)
 obtain ⟨t1,t2,t3,t4,t5⟩:=two d1 d2 rfl
 refine ⟨[mkE [] r1,mkE d2.k r2],rfl,InnP.right ⟨fun e he=>?_,List.pairwise_cons.2 ⟨fun y hy=>?_,List.pairwise_singleton _ _⟩,fun e l' h=>?_⟩ (by simp) (by omega),fun e he=>?_,rfl,?_,(r1::d1.p)++(r2::d2.p),?_,fun q=>?_⟩
 .simp only [List.mem_cons,List.not_mem_nil,or_false] at he
  rcases he with h | h <;> subst h
  .exact ⟨h1.2,rfl,rfl,rfl,Nat.zero_le _⟩
  .exact ⟨h2.2,rfl,rfl,rfl,t2⟩
 .rw [List.mem_singleton] at hy; subst hy
  obtain ⟨u,hu⟩:=List.exists_mem_of_ne_nil _ hs1.ne
  exact LtB.of_le (not_LtB_nil u.1) (t4 u hu)
 .simp only [List.cons.injEq] at h; rw [<- h.1]
 .simp only [List.mem_cons,List.not_mem_nil,or_false] at he
  rcases he with h | h <;> subst h
  .exact ⟨⟨by show Rf.z.ok; decide,h1.1⟩,B8.nil,B8.nil⟩
  .exact ⟨⟨by show Rf.z.ok; decide,h2.1⟩,t3,B8.nil⟩
 .rw [wr_len,szL_cons,szL_cons,szE_inn,szE_inn,szL_nil]; simp only [List.length_nil]; omega
 .have k1:KidsP (SubT f t lev) [mkE [] r1] d1.kv (r1::d1.p):=KidsP.one hs1 fun x _=>not_LtB_nil _
  have k2:KidsP (SubT f t lev) [mkE d2.k r2] d2.kv (r2::d2.p):=KidsP.one hs2 t5
  have:=KidsP.append k1 k2 (fun e b' h x hx=>by simp only [List.cons.injEq] at h; rw [<- h.1]; exact t4 x hx)
  simpa using this
 .simp only [List.map_cons,List.map_nil,List.flatten_cons,List.flatten_nil,List.append_nil,List.count_cons,List.count_nil,List.count_append]; omega
end
end Go.V
namespace Go.Proofs.YtcamoanigdfihaaGreat
open Go.V
section
variable {w:Wd} {T:Nat->Option Nat} {m:MemV} {M:Mm}
theorem ret4{b:Nat}{p c g v:Int}{zs:List Value}{K:Int->Int->Int->Int->Wd->Prop}(hb:w.heap[b]? = some (.cells zs.toArray 47 (0,0)))(hz:zs.length=4)(k:∀ w',Ext (·=b) w w'->w'.heap.size=w.heap.size->K p c g v w') :
  List.length (α:=Value) [.int .u32 p, .int .u64 c, .int .u16 g, .int .u8 v]=4/\StN w (Addr.mk b 0 none) [.int .u32 p, .int .u64 c, .int .u16 g, .int .u8 v] fun w3 =>
 ∃ c:Int,Cell w3 (Addr.mk b 0 none) (.int .u32 c) /\
 ∃ c_1:Int,Cell w3 ((Addr.mk b 0 none).add 1) (.int .u64 c_1) /\
 ∃ c_2:Int,Cell w3 ((Addr.mk b 0 none).add 2) (.int .u16 c_2) /\
 ∃ c_3:Int,Cell w3 ((Addr.mk b 0 none).add 3) (.int .u8 c_3) /\
 K c c_1 c_2 c_3 w3:=st_all hb rfl hz (by simp [oneC]) fun w' g x z=>⟨_,Cell.lst g rfl,_,Cell.lst g rfl,_,Cell.lst g rfl,_,Cell.lst g rfl,k w' x z⟩
set_option maxHeartbeats 4000000 in
theorem crown_spec{t:Int}{lev:Nat}{l:Sl}{lsV:List LimbV}{kvm:List KV}{pm:List Rf}{K:Int->Int->Int->Int->Int->Wd->Prop}
  (R:MemR w.heap T m M) (lm:LimbsR w.heap (fun q=>T q=none) (kindL lev) lev l lsV) (lp:LimbsP M.f t lev (limbsOf lsV) kvm pm) (hlev:lev+1<=30) (hn:M.pages.length<=1048000) (hone:∀ x,lsV=[x]->0 < lev->(ents x.L).length≠1->2<=(ents x.L).length)
  (k:∀(r:Rf)(lv:Nat) ps' rs T' m' M' w',MemR w'.heap T' m' M'->m'.bm=m.bm->Tg w T T'->Ext (Ts T) w w'->TreeT M'.f t r lv kvm ps'->lv<=30->Chg M M' 3 [] rs->(∀ q,ps'.count q=pm.count q+rs.count q)->K r.p r.c r.g lv 0 w'):C_tree_grove_crown (srcV m) t l lev w K:=by
 apply S_tree_grove_crown
 obtain ⟨D,eD,hkv,hp,hDl,hD2,hDt⟩:=lp.data
 have sup:∀ q,w.heap.size<=q->T q=none:=fun q hq=>R.supT hq
 have nT:∀{q},T q=none->¬ Ts T q:=fun h h'=>h' h
 have hll:l.len=lsV.length:=lm.len
 have hDn:D.length=lsV.length:=by have:=congrArg List.length eD; simpa [limbsOf] using this
 refine NewW.mk fun b w1 n1=>NewW.mk fun b1 w2 n2=>?_
 have hb:=n1.at_; have hb1:=n2.at_; have z1:=n1.size; have z2:=n2.size
 have x02:Ext No w w2:=n1.ext.no n2.ext
 have g2:=get_no n1.get n2.ext
 have g12:=n2.get
 have lm2:=lm.no x02
 refine If.beq (fun h0=>ret4 g12 rfl fun w3 x3 z3=>?_) fun h0=>If.beq (fun h1=>?_) fun h1=>?_
 .-- no limb
  have hl0:lsV=[]:=List.eq_nil_of_length_eq_zero (by omega)
  subst hl0
  have x03:Ext No w w3:=x02.trans x3 fun q hq h=>by omega
  cases lp
  exact k .z 0 [] [] T m M w3 (R.no x03) rfl (fun _ _=>rfl) x03.of_no (.inl ⟨rfl,rfl,rfl,rfl⟩) (by omega) ((Chg.refl M).as (by omega) (by simp) (by simp)) (fun q=>rfl)
 .-- one
  obtain ⟨x,rfl⟩ : ∃ x,lsV=[x]:=List.length_eq_one_iff.1 (by omega)
  have lx:=limbs_sole lp
  have hxc:=wr_count lx.short
  have hxl:=(lm2.nd x (by simp)).nd.len
  have two:=hone x rfl
  refine ⟨fun w'=>w'=w2/\(0 < lev->2<=(ents x.L).length),⟨fun t' w'=>w'=w2/\(t'=true->0 < lev/\(ents x.L).length=1)/\(t'=false->0 < lev->2<=(ents x.L).length),Ix.elem lm2.rd (limbCs_len _ _ _) (by decide) (by decide) (by omega) fun bb2 o2 hi4 _ hcell2=>?_,?_⟩,?_⟩
  .replace hcell2:∀ jj v,(limbCs (kindL lev) lev x)[jj]? = some v->Cell w2 ⟨bb2,o2+jj,none⟩ v:=hcell2
   refine ⟨_,hcell2 1 _ rfl,If.beq (fun hk2=>Ix.elem lm2.rd (limbCs_len _ _ _) (by decide) (by decide) (by omega) fun bb3 o3 hi5 _ hcell3=>?_) fun hk2=>⟨rfl,fun h=>absurd h (by decide),fun _ h0=>absurd (show kindL lev=2 from if_neg (by omega)) hk2⟩⟩
   replace hcell3:∀ jj v,(limbCs (kindL lev) lev x)[jj]? = some v->Cell w2 ⟨bb3,o3+jj,none⟩ v:=hcell3
   have h0:0 < lev:=by
    rcases Nat.eq_zero_or_pos lev with h | h
    .subst h; exact absurd hk2 (by decide)
    .exact h
   refine ⟨_,hcell3 3 _ rfl,rfl,fun h=>⟨h0,?_⟩,fun h h0=>two h0 fun h2=>?_⟩
   .have h':((x.s.len:Int) == 1)=true:=h
    have:=of_decide_eq_true h'
    simp only [List.length_map]; omega
   .have h':((x.s.len:Int) == 1)=false:=h
    have:=of_decide_eq_false h'
    simp only [List.length_map] at h2; omega
  .rintro _ t' w4 ⟨rfl,ht1,ht2⟩
   refine If.cases (fun h=>?_) fun h=>?_
   .subst h
    obtain ⟨h0,hx1⟩:=ht1 rfl
    obtain ⟨l',rfl⟩ : ∃ l',lev=l'+1:=⟨lev - 1,by omega⟩
    have e2:kindL (l'+1)=2:=if_neg (by omega)
    refine Ix.elem lm2.rd (limbCs_len _ _ _) (by decide) (by decide) (by omega) fun bb2 o2 hi4 _ hcell2=>?_
    replace hcell2:∀ jj v,(limbCs (kindL (l'+1)) ((l'+1:Nat):Int) x)[jj]? = some v->Cell w4 ⟨bb2,o2+jj,none⟩ v:=hcell2
    have hx1':x.L.length=1:=by simpa using hx1
    refine ⟨_,hcell2 1 _ rfl,_,hcell2 2 _ rfl,_,hcell2 3 _ rfl,below_spec (lm2.nd x (by simp)).nd (by omega) (by simp only [Int.toNat_zero]; omega) (by omega) fun w5 x5=>ret4 (get_no g12 x5) rfl fun w6 x6 z6=>?_⟩
    obtain ⟨y,hy⟩:=List.length_eq_one_iff.1 hx1'
    have hbd:KidsP (SubT M.f t l') (ents x.L) kvm pm:=lx.body
    have hr2:RightP 2 ((l'+1:Nat):Int) (ents x.L):=by have:=lx.right; rwa [e2] at this
    have hent:=hr2.inn.ent y.2 (by rw [hy]; simp)
    have hS:SubT M.f t l' y.2.cd kvm pm:=by
     rw [hy] at hbd
     cases hbd with
     | cons h _ _ r=>cases r; simpa using h
    have ey:∀ h,(x.L[(0:Int).toNat]'h).2.cd=y.2.cd:=fun h=>by simp only [hy,Int.toNat_zero,List.getElem_cons_zero]
    rw [ey]
    rw [show (((l'+1:Nat):Int) - 1)=(l':Int) by omega]
    have s5:=x5.size
    have x06:Ext No w w6:=(x02.no x5).trans x6 fun q hq h=>by omega
    exact k y.2.cd l' pm [] T m M w6 (R.no x06) rfl (fun _ _=>rfl) x06.of_no (.inr ⟨hent.1,by omega,by simpa using hS⟩) (by omega) ((Chg.refl M).as (by omega) (by simp) (by simp)) (fun q=>rfl)
   .subst h; exact ⟨rfl,ht2 rfl⟩
  .rintro _ w7 ⟨rfl,h2⟩
   have nb:¬ (Ts T b∨b=b1):=fun h=>h.elim (nT (sup b (by omega))) (by omega)
   refine ⟨Ext (fun q=>Ts T q∨q=b1) w7,(Ext.refl _ _).drew,_,Held.but (Cell.lst g2 rfl) nb,_,Held.but (Cell.lst g2 rfl) nb,Ix.elem lm2.rd (limbCs_len _ _ _) (by decide) (by decide) (by omega) fun bb2 o2 hi4 hbl hcell2=>?_⟩
   replace hcell2:∀ jj v,(limbCs (kindL lev) lev x)[jj]? = some v->Cell w7 ⟨bb2,o2+jj,none⟩ v:=hcell2
   have nbb:¬ (Ts T bb2∨bb2=b1):=fun h=>h.elim (nT (lm2.sb _ hbl).1) (by have:=(lm.sb _ hbl).2; omega)
   refine ⟨_,Held.but (hcell2 1 _ rfl) nbb,_,Held.but (hcell2 2 _ rfl) nbb,_,Held.but (hcell2 3 _ rfl) nbb,?_⟩
   refine gwrite_spec (w:=drewW w7) (show MemR w7.heap T m M from R.no x02) (lm2.nd x (by simp)).nd (by simp only [List.length_map] at hxc; omega) lx.right lx.short (by omega) fun n T' m' w8 hfree R8 hbm' tg' x8=>⟨x8.drew_left.mono fun _ _ h => .inl h,?_⟩
   have x8':Ext (Ts T) w7 w8:=x8.drew_left
   have s8:=x8'.size
   have hput:=Chg.put (M:=M) (n:=n) (t:=t) (k:=kindL lev) (v:=((lev:Nat):Int)) (pay:=pad (wr (kindL lev) lev (ents x.L)))
   have hat:=putM_at (t:=t) (k:=kindL lev) (v:=((lev:Nat):Int)) (pay:=pad (wr (kindL lev) lev (ents x.L))) hfree
   have hr0:(⟨n,M.commit,M.gen⟩ : Rf) ≠ .z:=fun h=>by have:=hfree.lo; have:=congrArg Rf.p h; simp only [Rf.z] at this; omega
   have g18:=get_ext g12 x8' (nT (sup b1 (by omega)))
   refine st_all g18 rfl rfl (by simp [oneC]) fun w9 g9 x9 z9=>?_
   have x9':Ext (·=b1) w8 w9:=x9
   have tb1:T' b1=none:=by rw [tg' b1 (by show b1 < w7.heap.size; omega)]; exact sup b1 (by omega)
   have x79:Ext (fun q=>Ts T q∨q=b1) w7 w9:=(x8'.mono fun _ _ h => .inl h).trans x9' fun _ _ h => .inr h
   have x09:Ext (Ts T) w w9:=x02.of_no.trans x79 fun q hq h=>by
    rcases h with h | h
    .exact h
    .omega
   refine ⟨x79,_,Cell.lst g9 rfl,_,Cell.lst g9 rfl,_,Cell.lst g9 rfl,_,Cell.lst g9 rfl,?_⟩
   .refine k ⟨n,M.commit,M.gen⟩ lev (⟨n,M.commit,M.gen⟩::pm) [⟨n,M.commit,M.gen⟩] T' m' (putM M n t (kindL lev) lev (pad (wr (kindL lev) lev (ents x.L)))) w9 (R8.ext x9' fun q hq=>by rw [hq]; exact tb1) hbm' (fun q hq=>tg' q (Nat.lt_of_lt_of_le hq x02.size)) x09 (.inr ⟨hr0,by omega,?_⟩) (by omega) (hput.as (by omega) (by simp) (by simp)) (fun q=>by simp only [List.count_cons,List.count_nil]; omega)
    simp only [Int.toNat_natCast]
    exact SubT.shut ⟨hat,lx.right,lx.short,lx.ok⟩ lx.ne h2 (lx.body.keep (hput.keep fun q _ => .inl (by simp)))
 .-- two
  have hl2:lsV.length=2:=by omega
  have el:((lev:Nat):Int)+1=((lev+1:Nat):Int):=by omega
  rw [el]
  refine Ar.u8 (by omega) (new_set rfl rfl (by simp [oneC]) fun b2 w11 g11 hb2 z11 x11=>?_)
  have x0:Ext No w w11:=x02.no x11
  have g0:=get_no g2 x11
  have g10:=get_no g12 x11
  have lm0:=lm2.no x11
  have tb:T b=none:=sup b (by omega)
  have tb1:T b1=none:=sup b1 (by omega)
  have tb2:T b2=none:=sup b2 (by omega)
  have hDi:∀ j (h:j < D.length) (h':j < lsV.length),D[j].k=lsV[j].key/\D[j].l=ents lsV[j].L:=fun j h h'=>by
   have:=congrArg (fun l=>l[j]?) eD
   simp only [limbsOf,List.getElem?_map,List.getElem?_eq_getElem h,List.getElem?_eq_getElem h',Option.map_some,Option.some.injEq,Prod.mk.injEq] at this
   exact this
  have h2l:∀ d∈D,0 < lev->2<=d.l.length:=fun d hd h0=>by
   obtain ⟨d1,d2,hDD⟩ : ∃ d1 d2,D=[d1,d2]:=by
    match D,hDn.trans hl2 with
    | [d1,d2],_=>exact ⟨d1,d2,rfl⟩
   have:=(hDt d1 d2 hDD).2.2.2.2.2 h0
   rw [hDD] at hd
   simp only [List.mem_cons,List.not_mem_nil,or_false] at hd
   rcases hd with h | h <;> subst h
   .exact this.1
   .exact this.2
  refine ⟨fun mm t1 w'=>∃ (j:Nat) (Tj:Nat->Option Nat) (mj:MemV) (Mj:Mm) (rs:List Rf) (V:List (EntV×Ent)) (s:Sl),t1=j/\j<=lsV.length/\mm=lsV.length - j/\MemR w'.heap Tj mj Mj/\mj.bm=m.bm/\Tg w11 T Tj/\Ext (fun q=>Ts T q∨q=b2) w11 w'/\Chg M Mj j [] rs/\rs.length=j /\
    (∀ i (h:i < D.length) (h':i < rs.length),SubT Mj.f t lev rs[i] D[i].kv (rs[i]::D[i].p))/\(∀ r∈rs,r.ok/\r ≠ .z)/\NdB w'.heap b2 2 ((lev+1:Nat):Int) s/\Own w'.heap w11.heap.size 133 9 s (V.flatMap entCs)/\ents V=freshE [] (limbsOf lsV) rs/\(∀ q,s.blk=some q->Tj q=none) /\
    (∀ p∈V,EntR w'.heap p.1 p.2/\∀ q,(p.1.k.blk=some q∨p.1.v.blk=some q)->T q=none/\q < w.heap.size),
   ⟨lsV.length,0,T,m,M,[],[],⟨none,0,0⟩,rfl,by omega,by omega,R.no x0,rfl,fun _ _=>rfl,Ext.refl _ _,Chg.refl M,rfl,fun i h h'=>by simp at h',by simp,g11,Own.nil _ _ _ _,by cases limbsOf lsV <;> rfl,by simp [Sl.blk],by simp⟩,?_⟩
  rintro _ m0 t1 w34 ⟨j,Tj,mj,Mj,rs,V,s,rfl,hj,hm,Rj,hbm,tgj,xj,cj,hrl,hsub,hrz,gbj,oV,eV,tfr,hV⟩
  have sj:=xj.size
  have nS:∀{q},T q=none->q≠b2->¬ (Ts T q∨q=b2):=fun h h2 h'=>h'.elim (fun h'=>h' h) h2
  have gj:=get_ext g0 xj (nS tb (by omega))
  have lmj:=lm0.mono (B':=fun q=>T q=none/\q < w11.heap.size) fun q h hq=>⟨hq,h⟩
  have lmq:LimbsR w11.heap (fun q=>T q=none/\q≠b2) (kindL lev) lev l lsV:=(lm.mono (B':=fun q=>T q=none/\q≠b2) fun q h hq=>⟨hq,by omega⟩).no x0
  have lmj:=lmq.ext xj fun q hq _=>nS hq.1 hq.2
  have Vl:V.length=j:=by have:=congrArg List.length eV; rw [freshE_len (by simp only [limbsOf,List.length_map]; omega)] at this; simpa [hrl] using this
  have frl:∀ q,s.blk=some q->w11.heap.size<=q/\q < w34.heap.size:=fun q hq=>oV.lt hq
  refine If.dec (fun h=>?_) fun h=>?_
  .have hjl:j < lsV.length:=by omega
   refine Ix.elem lmj.rd (limbCs_len _ _ _) (by decide) (by omega) h fun bb o hi2 _ hcell=>?_
   simp only [Int.toNat_natCast] at hi2 hcell
   have hmem:lsV[j]∈lsV:=List.getElem_mem hjl
   refine ⟨_,hcell 0 _ rfl,_,hcell 1 _ rfl,_,hcell 2 _ rfl,_,hcell 3 _ rfl,new_set (vs:=limbCs (kindL lev) lev lsV[j]) rfl rfl (by simp [limbCs,oneC]) fun b6 w36 g6 hb6 z6 x6=>?_⟩
   have hjD:j < D.length:=by omega
   obtain ⟨e1,e2⟩:=hDi j hjD hjl
   have hlimb:Limb Mj.f t lev D[j].l D[j].kv D[j].p:=(hDl _ (List.getElem_mem hjD)).keep (cj.keep fun q _ => .inl (by simp))
   have h2lj:=h2l _ (List.getElem_mem hjD)
   rw [e2] at hlimb h2lj
   have ndj:=((lmj.nd _ hmem).no x6).nd
   refine ⟨_,Cell.lst (get_no gj x6) rfl,_,Cell.lst (get_no gj x6) rfl,_,Cell.lst g6 rfl,_,Cell.lst g6 rfl,_,Cell.lst g6 rfl,?_⟩
   rw [<- srcV_eq hbm]
   have hcntj:=wr_count hlimb.short
   have hlj:lsV[j].L.length<=65536:=by simp only [List.length_map] at hcntj; omega
   refine gwrite_spec (Rj.no x6) ndj hlj hlimb.right hlimb.short (by have:=cj.len; omega) fun n T' m' w37 hfree R37 hbm' tg' x37=>?_
   refine new_set rfl rfl (by simp [oneC]) fun b7 w39 g7 hb7 z7 x7=>If.bne (fun h=>(h rfl).elim) fun _=>?_
   have tT:∀ q,q < w36.heap.size->T' q=Tj q:=tg'
   have s6:=x6.size; have s37:=x37.size; have s7:=x7.size
   have nb6:Tj b6=none:=Rj.supT (by omega)
   have g69:=get_no (get_ext g6 x37 (fun h=>h nb6)) x7
   refine ⟨_,Cell.lst g7 rfl,_,Cell.lst g7 rfl,_,Cell.lst g7 rfl,new_set (vs:=EntV.cs ⟨⟨none,0,0⟩,⟨none,0,0⟩,0, .z,⟨n,Mj.commit,Mj.gen⟩⟩) rfl rfl (entCs_one _) fun b8 w41 g8 hb8 z8 x8=>?_⟩
   have x3741:Ext No w37 w41:=x7.no x8
   have x3441:Ext (Ts Tj) w34 w41:=((x6.of_no).trans x37 fun _ _ h=>h).no x3741
   have s41:=x3741.size
   have hr0:(⟨n,Mj.commit,Mj.gen⟩ : Rf) ≠ .z:=fun h=>by have:=hfree.lo; have:=congrArg Rf.p h; simp only [Rf.z] at this; omega
   have hput:=Chg.put (M:=Mj) (n:=n) (t:=t) (k:=kindL lev) (v:=((lev:Nat):Int)) (pay:=pad (wr (kindL lev) lev (ents lsV[j].L)))
   have hat:=putM_at (t:=t) (k:=kindL lev) (v:=((lev:Nat):Int)) (pay:=pad (wr (kindL lev) lev (ents lsV[j].L))) hfree
   have hrok:=(at_lo R37 hat).2
   have kpj:∀(qs:List Rf),Keep Mj.f (putM Mj n t (kindL lev) lev (pad (wr (kindL lev) lev (ents lsV[j].L)))).f qs:=fun qs=>hput.keep fun q _ => .inl (by simp)
   have hsubj:SubT (putM Mj n t (kindL lev) lev (pad (wr (kindL lev) lev (ents lsV[j].L)))).f t lev ⟨n,Mj.commit,Mj.gen⟩ D[j].kv (⟨n,Mj.commit,Mj.gen⟩::D[j].p) :=
    SubT.shut ⟨hat,hlimb.right,hlimb.short,hlimb.ok⟩ hlimb.ne h2lj (hlimb.body.keep (kpj _))
   have hsep:=lm.sep _ hmem
   have sb2:∀ q,s.blk=some q->q≠b2:=fun q hq=>by have:=frl q hq; have:b2 < w11.heap.size:=blt g11; omega
   have tjb2:Tj b2=none:=by rw [tgj b2 (blt g11)]; exact tb2
   refine ⟨fun w22=>∃ kk key,w22.heap[b8]? = some (.cells (EntV.cs ⟨kk,⟨none,0,0⟩,0, .z,⟨n,Mj.commit,Mj.gen⟩⟩).toArray 133 (0,0))/\Ext (fun q=>q=b8) w41 w22/\RdB w.heap kk key/\B8 key/\(∀ q,kk.blk=some q->T q=none/\q < w.heap.size)/\key=(if j=0 then [] else lsV[j].key),If.dec (fun hj0=>⟨_,Cell.lst (get_no g69 x8) rfl,St1.mk g8 (by simp [EntV.cs]) rfl fun w42 h42=>⟨lsV[j].sep,lsV[j].key,h42.get g8,h42.ext,hsep.1,hsep.2.1,fun q hq=>hsep.2.2 q hq,by rw [if_neg (by omega)]⟩⟩) fun hj0=>⟨⟨none,0,0⟩,[],g8,Ext.refl _ _,Rd.nil _ _,B8.nil,fun q hq=>by simp [Sl.blk] at hq,by rw [if_pos (by omega)]⟩,?_⟩
   rintro _ w42 ⟨kk,key,gx,x42,hkk,k8,kkb,hkey⟩
   have x42':Ext (fun q=>q=b8) w41 w42:=x42
   have s42:=x42'.size
   have gb42:NdB w42.heap b2 2 ((lev+1:Nat):Int) s:=get_ext (get_ext gbj x3441 (fun h=>h tjb2)) x42' (by have:=blt gbj; omega)
   refine ⟨s,Cell.lst gb42 rfl,ent_read gx (NewW.mk fun b9 w43 n9=>?_)⟩
   have x4143:Ext (fun q=>q=b8) w41 w43:=x42'.no n9.ext
   have z9:=n9.size; have hb9:=n9.at_
   have oV43:=(oV.ext x3441 fun q hq h=>h (tfr q hq)).ext x4143 fun q hq h=>by have:=frl q hq; omega
   have ol:s.len=V.length:=by have:=oV.len; rw [flat9] at this; omega
   refine app_api_Entry oV43 (by omega) (entOwn n9).rd.src (by simp only; omega) fun s1 w44 o44 _ x44 hbl=>?_
   have s44:=x44.size
   have gb44:NdB w44.heap b2 2 ((lev+1:Nat):Int) s:=get_ext (get_no gb42 n9.ext) x44 (fun h=>sb2 b2 h rfl)
   refine St1.mk gb44 (by simp) rfl fun w45 h45=>Ar.i64 (by omega) ?_
   have x45:Ext (·=b2) w44 w45:=h45.ext
   have gb45:NdB w45.heap b2 2 ((lev+1:Nat):Int) s1:=h45.get gb44
   have nb8:T' b8=none:=R37.supT (by omega)
   have x3745:Ext (fun q=>q=b8∨s.blk=some q∨q=b2) w37 w45:=(((x3741.of_no).trans x4143 fun _ _ h => .inl h).trans x44 fun _ _ h => .inr (.inl h)).trans x45 fun _ _ h => .inr (.inr h)
   have x3445:Ext (fun q=>Ts Tj q∨q=b8∨s.blk=some q∨q=b2) w34 w45:=(((x3441.mono fun _ _ h => .inl h).trans x4143 fun _ _ h => .inr (.inl h)).trans x44 fun _ _ h => .inr (.inr (.inl h))).trans x45 fun _ _ h => .inr (.inr (.inr h))
   have x1145:Ext (fun q=>Ts T q∨q=b2) w11 w45:=xj.trans x3445 fun q hq h=>by
    rcases h with h | h | h | h
    .exact .inl (by show T q≠none; rw [<- tgj q hq]; exact h)
    .omega
    .have:=frl q h; omega
    .exact .inr h
   have s1b:∀ q,s1.blk=some q->w11.heap.size<=q/\T' q=none:=fun q hq=>by
    rcases hbl with h3 | ⟨c',h3,h4⟩
    .rw [h3] at hq; exact ⟨(frl q hq).1,by rw [tT q (by have:=frl q hq; omega)]; exact tfr q hq⟩
    .rw [h3] at hq; cases hq; exact ⟨by omega,R37.supT (by omega)⟩
   have hbw:b2 < w11.heap.size:=blt g11
   refine ⟨lsV.length - (j+1),by omega,j+1,T',m',putM Mj n t (kindL lev) lev (pad (wr (kindL lev) lev (ents lsV[j].L))),rs++[⟨n,Mj.commit,Mj.gen⟩],V++[(⟨kk,⟨none,0,0⟩,0, .z,⟨n,Mj.commit,Mj.gen⟩⟩,mkE key ⟨n,Mj.commit,Mj.gen⟩)],s1,by omega,by omega,rfl,R37.ext x3745 fun q hq=>?_,hbm'.trans hbm,fun q hq=>by rw [tT q (by omega)]; exact tgj q hq,x1145,(cj.trans hput).as (by omega) (by simp) (by simp),by simp [hrl],fun i' h' h''=>?_,fun r hr=>?_,gb45,(by rw [List.flatMap_append]; simpa using o44:Own w44.heap w11.heap.size 133 9 s1 _).ext x45 fun q hq h=>by have:=s1b q hq; omega,?_,fun q hq=>(s1b q hq).2,fun p hp=>?_⟩
   .rcases hq with h | h | h
    .rw [h]; exact nb8
    .rw [tT q (by have:=frl q h; omega)]; exact tfr q h
    .rw [h,tT b2 (by omega)]; exact tjb2
   .rcases Nat.lt_or_ge i' rs.length with h3 | h3
    .rw [List.getElem_append_left h3]; exact (hsub i' h' h3).keep (kpj _)
    .have:i'=j:=by simp only [List.length_append,List.length_cons,List.length_nil] at h''; omega
     subst this
     have:(rs++[(⟨n,Mj.commit,Mj.gen⟩ : Rf)])[i']=⟨n,Mj.commit,Mj.gen⟩:=by rw [List.getElem_append_right h3]; simp [hrl]
     rw [this]; exact hsubj
   .rcases List.mem_append.1 hr with h3 | h3
    .exact hrz r h3
    .rw [List.mem_singleton] at h3; subst h3; exact ⟨hrok,hr0⟩
   .rw [freshE_snoc (by simp only [limbsOf,List.length_map]; omega)]
    show List.map Prod.snd (V++_)=_
    rw [List.map_append,show List.map Prod.snd V=_ from eV]
    congr 1
    have e5:(limbsOf lsV)[rs.length]'(by simp only [limbsOf,List.length_map]; omega)=(lsV[j].key,ents lsV[j].L):=by simp [limbsOf,hrl]
    rw [e5,hkey,hrl]; rfl
   .rcases List.mem_append.1 hp with h3 | h3
    .have hp':=hV p h3
     have nn:∀ q,(p.1.k.blk=some q∨p.1.v.blk=some q)->¬ (Ts Tj q∨q=b8∨s.blk=some q∨q=b2):=fun q hq h=>by
      have:=hp'.2 q hq
      have sx:=x0.size
      rcases h with h | h | h | h
      .exact h (by rw [tgj q (by omega)]; exact this.1)
      .omega
      .have:=frl q h; omega
      .omega
     exact ⟨hp'.1.ext x3445 (fun q hq=>nn q (.inl hq)) (fun q hq=>nn q (.inr hq)),hp'.2⟩
    .rw [List.mem_singleton] at h3; subst h3
     refine ⟨⟨Rd.ext hkk (x0.of_no.trans x1145 fun _ _ h=>h) fun a q ha hq=>?_,Rd.nil _ _,rfl,rfl,rfl,k8,B8.nil,⟨by show (-9223372036854775808:Int)<=0; decide,by show (0:Int)<=9223372036854775807; decide⟩,by show Rf.z.ok; decide,hrok⟩,fun q hq=>?_⟩
     .have h5:=kkb q (by have h:kk.a=some a:=ha; simp [Sl.blk,h,hq])
      exact nS h5.1 (by omega)
     .rcases hq with h4 | h4
      .exact kkb q h4
      .simp [Sl.blk] at h4
  .have ejl:j=lsV.length:=by omega
   have tjb2:Tj b2=none:=by rw [tgj b2 (blt g11)]; exact tb2
   obtain ⟨l9,f1,f2,f3,f4,f5,pm',f6,f7⟩:=root_law (f:=Mj.f) (t:=t) (D:=D) (rs:=rs) hlev (by omega) (by omega) hsub hrz (fun d1 d2 h=>by obtain ⟨a1,a2,a3,a4,a5,_⟩:=hDt d1 d2 h; exact ⟨a1,a2,a3,a4,a5⟩)
   rw [eD,<- eV] at f1
   rw [hkv] at f6
   rw [hp] at f7
   subst f1
   have hVn:NdR w34.heap s V:=⟨oV.rd,fun p hp=>(hV p hp).1⟩
   refine ⟨_,Cell.lst gj rfl,_,Cell.lst gj rfl,_,Cell.lst gbj rfl,_,Cell.lst gbj rfl,_,Cell.lst gbj rfl,?_⟩
   rw [<- srcV_eq hbm]
   refine gwrite_spec Rj hVn (by omega) f2 f5 (by have:=cj.len; omega) fun n T' m' w8 hfree R8 hbm' tg' x8=>?_
   have tT:∀ q,q < w34.heap.size->T' q=Tj q:=tg'
   have hput:=Chg.put (M:=Mj) (n:=n) (t:=t) (k:=2) (v:=((lev+1:Nat):Int)) (pay:=pad (wr 2 ((lev+1:Nat):Int) (ents V)))
   have hat:=putM_at (t:=t) (k:=2) (v:=((lev+1:Nat):Int)) (pay:=pad (wr 2 ((lev+1:Nat):Int) (ents V))) hfree
   have hr0:(⟨n,Mj.commit,Mj.gen⟩ : Rf) ≠ .z:=fun h=>by have:=hfree.lo; have:=congrArg Rf.p h; simp only [Rf.z] at this; omega
   have tjb1:Tj b1=none:=by rw [tgj b1 (blt g10)]; exact tb1
   have g1j:=get_ext (get_ext g10 xj (nS tb1 (by omega))) x8 (fun h=>h tjb1)
   have sx:=x0.size
   have s8:=x8.size
   refine ret4 g1j rfl fun w9 x9 z9=>?_
   have x9':Ext (·=b1) w8 w9:=x9
   have x09:Ext (Ts T) w w9:=((x0.of_no.trans xj fun q hq h=>?_).trans x8 fun q hq h=>?_).trans x9' fun q hq h=>?_
   .refine k ⟨n,Mj.commit,Mj.gen⟩ (lev+1) (⟨n,Mj.commit,Mj.gen⟩::pm') (rs++[⟨n,Mj.commit,Mj.gen⟩]) T' m' (putM Mj n t 2 ((lev+1:Nat):Int) (pad (wr 2 ((lev+1:Nat):Int) (ents V)))) w9 (R8.ext x9' fun q hq=>by rw [hq,tT b1 (by have:=blt g10; omega)]; exact tjb1) (hbm'.trans hbm) (fun q hq=>by rw [tT q (by omega)]; exact tgj q (by omega)) x09 (.inr ⟨hr0,by omega,?_⟩) hlev ((cj.trans hput).as (by omega) (by simp) (by simp)) (fun q=>?_)
    .simp only [Int.toNat_natCast]
     exact SubT.shut (lev:=lev+1) ⟨hat,f2,f5,f3⟩ (by intro h; rw [h] at f4; simp at f4) (fun _=>by omega) ((show Body Mj.f t (lev+1) (ents V) kvm pm' from f6).keep (hput.keep fun q _ => .inl (by simp)))
    .have:=f7 q
     simp only [List.count_cons,List.count_append,List.count_nil] at this ⊢; omega
   .rcases h with h | h
    .exact h
    .omega
   .show T q≠none
    rw [<- tgj q (by omega)]; exact h
   .omega
end
end Go.Proofs.YtcamoanigdfihaaGreat
namespace Go.V
theorem count_len{α:Type}[DecidableEq α]:∀{a b:List α},(∀ q,a.count q<=b.count q)->a.length<=b.length
 | [],_,_=>Nat.zero_le _
 | x::a,b,h=>by
  have hx:x∈b:=List.count_pos_iff.1 (by have:=h x; rw [List.count_cons_self] at this; omega)
  have:=count_len (a:=a) (b:=b.erase x) fun q=>by
   have:=h q
   rw [List.count_erase]
   rw [List.count_cons] at this
   by_cases hq:q=x
   .subst hq; simp at this ⊢; omega
   .rw [if_neg (by simpa using fun h=>hq h.symm)] at this ⊢; omega
  rw [List.length_erase_of_mem hx] at this
  have:=List.length_pos_of_mem hx
  simp only [List.length_cons]; omega
theorem live_len(l:List (Int×Pg)):(live l).length<=l.length:=by unfold live; rw [List.length_map]; exact List.length_filter_le _ _
theorem Sub.len{ps:List Rf}{M:Mm}(h:Sub ps M):ps.length<=M.pages.length:=Nat.le_trans (count_len h) (live_len _)
section
variable {f:Pages} {t:Int}
theorem KidsP.count{Q:Rf->List KV->List Rf->Prop}{n:Nat}(hQ:∀ r kv p,Q r kv p->n<=p.length){l:List Ent}{kvs:List KV}{ps:List Rf}(h:KidsP Q l kvs ps):l.length * n<=ps.length:=by
 induction h with
 | nil=>simp
 | cons h lo hi r ih=>have:=hQ _ _ _ h; simp only [List.length_cons,List.length_append,Nat.succ_mul]; omega
theorem SubT.pow:∀{lev:Nat}{r:Rf}{kvs:List KV}{ps:List Rf},SubT f t lev r kvs ps->2 ^ lev<=ps.length
 | 0,r,kvs,ps,h=>by obtain ⟨l,ps',_,_,_,rfl⟩:=h; simp
 | lev+1,r,kvs,ps,h=>by
  obtain ⟨l,ps',_,h2,hk,rfl⟩:=h
  have:=KidsP.count (fun _ _ _ h=>SubT.pow h) hk
  have h3:2 * 2 ^ lev<=l.length * 2 ^ lev:=Nat.mul_le_mul_right _ h2
  simp only [List.length_cons,Nat.pow_succ]; omega
theorem SubT.low{lev:Nat}{r:Rf}{kvs:List KV}{ps:List Rf}(h:SubT f t lev r kvs ps)(hl:ps.length<=1000000):lev<=19:=by
 have h1:=h.pow
 rcases Nat.lt_or_ge lev 20 with h2 | h2
 .omega
 .have:2 ^ 20<=2 ^ lev:=Nat.pow_le_pow_right (by omega) h2
  omega
abbrev SortK(l:List KV):Prop:=l.Pairwise fun a b=>LtB a.1 b.1
theorem LeafL.sort{l:List Ent}{kvs:List KV}{ps:List Rf}(h:LeafL f t l kvs ps)(hr:RiseP l):SortK kvs:=by
 have e:=h.keys
 have h2:(l.map Ent.key).Pairwise LtB:=List.pairwise_map.2 hr
 rw [<- e] at h2
 exact List.pairwise_map.1 h2
theorem KidsP.sort{Q:Rf->List KV->List Rf->Prop}(hQ:∀ r kv p,Q r kv p->SortK kv){l:List Ent}{kvs:List KV}{ps:List Rf}(h:KidsP Q l kvs ps):RiseP l->SortK kvs:=by
 induction h with
 | nil=>intro _; exact .nil
 | @cons e l kv kvs p ps h lo hi r ih =>
  intro hr
  have hr2:=List.pairwise_cons.1 hr
  refine List.pairwise_append.2 ⟨hQ _ _ _ h,ih hr2.2,fun x hx y hy=>?_⟩
  cases l with
  | nil=>cases r; cases hy
  | cons e' l'=>exact (hi e' l' rfl x hx).lt_le (kids_lo r (rise_iff.2 hr2.2) _ _ rfl y hy)
theorem SubT.sort:∀{lev:Nat}{r:Rf}{kvs:List KV}{ps:List Rf},SubT f t lev r kvs ps->SortK kvs
 | 0,r,kvs,ps,h=>by obtain ⟨l,ps',hN,_,hL,rfl⟩:=h; exact LeafL.sort hL (rise_iff.1 hN.right.ord)
 | lev+1,r,kvs,ps,h=>by
  obtain ⟨l,ps',hN,h2,hk,rfl⟩:=h
  exact KidsP.sort (fun _ _ _ h=>SubT.sort h) hk (rise_iff.1 hN.right.ord)
theorem TreeT.sort{r:Rf}{lev:Int}{kvs:List KV}{ps:List Rf}(h:TreeT f t r lev kvs ps):SortK kvs:=by
 rcases h with ⟨_,_,rfl,_⟩ | ⟨_,_,h⟩
 .exact .nil
 .exact h.sort
end
theorem kvGet_none_mem{kvs:List KV}{key:List Int}(h:kvGet kvs key=none):∀ x∈kvs,x.1≠key:=fun x hx e=>by
 unfold kvGet at h
 rw [Option.map_eq_none_iff,List.find?_eq_none] at h
 have:=h x hx
 simp [e] at this
theorem kvOp_id{k:List Int}:∀{l:List KV},SortK l->(∀ x∈l,x.1≠k)->kvOp k none l=l
  | [],_,_=>rfl
  | x::l,hs,hn=>by
    have h2:=List.pairwise_cons.1 hs
    have ih:=kvOp_id (k:=k) h2.2 fun y hy=>hn y (List.mem_cons_of_mem _ hy)
    rcases LtB.total x.1 k with h | h | h
    · have:=kvOp_mid (k:=k) (o:=none) (a:=[x]) (b:=l) (c:=[]) (by simpa using h) (by simp)
      simp only [List.append_nil,List.singleton_append] at this
      rw [this,ih]
    · exact (hn x (by simp) h).elim
    · have:=kvOp_mid (k:=k) (o:=none) (a:=[]) (b:=[]) (c:=x::l) (by simp) (fun y hy=>by
        rcases List.mem_cons.1 hy with h5 | h5
        · rw [h5]; exact h
        · exact h.trans (h2.1 y h5))
      simp only [List.nil_append] at this
      rw [this]; rfl
end Go.V
namespace Go.Proofs.YtcamoanigdfihaaGreat
open Go.V
section
variable {w:Wd} {T:Nat->Option Nat} {m:MemV} {M:Mm}
structure ChS(w w':Wd)(T T':Nat->Option Nat)(m m':MemV)(M M':Mm)(t:Int)(kvs':List KV)(ps ps':List Rf)(r':Rf)(lv':Nat):Prop where
 mem:MemR w'.heap T' m' M'
 bm:m'.bm=m.bm
 tg:Tg w T T'
 ext:Ext (Ts T) w w'
 tree:TreeT M'.f t r' lv' kvs' ps'
 lv:lv'<=30
 chg:Chg M M' 60 ps ps'
set_option maxHeartbeats 4000000 in
theorem change_spec{t:Int}{lev:Nat}{r:Rf}{kvs:List KV}{ps:List Rf}{oK oV:Sl}{key val:List Int}{d:Bool}{K:Int->Int->Int->Int->Int->Wd->Prop}(R:MemR w.heap T m M)(hT:TreeT M.f t r lev kvs ps)(hs:Sub ps M)(ho:OpIn w T oK oV key val)(hn:M.pages.length<=1000000)
  (k:∀(r':Rf)(lv':Nat) ps' T' m' M' w',ChS w w' T T' m m' M M' t (kvOp key (opV d val) kvs) ps ps' r' lv'->K r'.p r'.c r'.g lv' 0 w'):C_tree_grove_change (srcV m) t r.p r.c r.g lev oK oV d w K:=by
 apply S_tree_grove_change
 have sup:∀ q,w.heap.size<=q->T q=none:=fun q hq=>R.supT hq
 have nT:∀{q},T q=none->¬ Ts T q:=fun h h'=>h' h
 refine NewW.mk fun b w1 n1=>NewW.mk fun b1 w2 n2=>NewW.mk fun b2 w3 n3=>NewW.mk fun b3 w4 n4=>?_
 have hb:=n1.at_; have hb1:=n2.at_; have hb2:=n3.at_; have hb3:=n4.at_; have z1:=n1.size; have z2:=n2.size; have z3:=n3.size; have z4:=n4.size
 have x04:Ext No w w4:=((n1.ext.no n2.ext).no n3.ext).no n4.ext
 have g4:=get_no (get_no (get_no n1.get n2.ext) n3.ext) n4.ext
 have g14:=get_no (get_no n2.get n3.ext) n4.ext
 have g24:=get_no n3.get n4.ext
 have g34:=n4.get
 have tb3:T b3=none:=sup b3 (by omega)
 have keep:∀{w5:Wd}{b':Nat},Ext (·=b3) w4 w5->Ext (Ts T) w w5:=fun x=>x04.of_no.trans x fun q hq h=>by omega
 have hlv:lev<=19:=by
  rcases hT with ⟨_,h,_⟩ | ⟨_,_,h⟩
  .omega
  .have:=h.low (by have:=hs.len; omega); simpa using this
 have same:∀ w5:Wd,Ext (·=b3) w4 w5->kvOp key (opV d val) kvs=kvs->K r.p r.c r.g lev 0 w5:=fun w5 x5 hk =>
  k r lev ps T m M w5 ⟨(R.no x04).ext x5 fun q hq=>by rw [hq]; exact tb3,rfl,fun _ _=>rfl,keep (b':=0) x5,by rw [hk]; exact hT,by omega,(Chg.refl M).as (by omega) (by simp) (by simp)⟩
 have ho4:OpIn w4 T oK oV key val:=ho.ext x04.of_no fun q _ h=>h
 refine ⟨_,Cell.lst g14 rfl,_,Cell.lst g14 rfl,_,Cell.lst g14 rfl,_,Cell.lst g14 rfl,If.cases (fun hz=>?_) fun hz=>?_⟩
 .have hr:r = .z:=by
   simp only [Bool.and_eq_true,beq_iff_eq,Bool.and_true] at hz
   obtain ⟨p,c,g⟩:=r
   simp only at hz
   show Rf.mk p c g=Rf.mk 0 0 0
   rw [hz.1.1,hz.1.2.1,hz.1.2.2]
  rcases hT with ⟨_,h0,rfl,rfl⟩ | ⟨h,_⟩
  rotate_left
  .exact (h hr).elim
  refine ⟨d,Cell.lst g24 rfl,If.cases (fun hd=>?_) fun hd=>?_⟩
  .subst hd
   exact ⟨_,Cell.lst g14 rfl,_,Cell.lst g14 rfl,_,Cell.lst g14 rfl,_,Cell.lst g14 rfl,ret4 g34 rfl fun w5 x5 _=>same w5 x5 (kvOp_nil _ _)⟩
  .subst hd
   refine ⟨_,Cell.lst g4 rfl,_,Cell.lst g4 rfl,_,Cell.lst g24 rfl,_,Cell.lst g24 rfl,?_⟩
   refine store_spec (R.no x04) ho4.kR ho4.vR ho.k8 ho.v8 ho.kl ho.vl hn fun x e psn T' m' M3 w6 St=>?_
   refine new_set (vs:=x.cs) rfl rfl (entCs_one _) fun b4 w8 g8 hb4 z8 x8=>If.bne (fun h=>(h rfl).elim) fun _=>?_
   have s6:=St.ext.size
   have tT:∀ q,q < w4.heap.size->T' q=T q:=St.tg
   have g6:=get_no (get_ext g4 St.ext (nT (sup b (by omega)))) x8
   have g36:=get_no (get_ext g34 St.ext (nT tb3)) x8
   refine ⟨_,Cell.lst g6 rfl,_,Cell.lst g6 rfl,ent_read g8 (NewW.mk fun b5 w10 n10=>?_)⟩
   have hb5:=n10.at_; have z10:=n10.size
   have x610:Ext No w6 w10:=x8.no n10.ext
   have er:=St.er.no x610
   have nd:NdR w10.heap ⟨some ⟨b5,0,none⟩,1,1⟩ [(x,e)]:=⟨by have:=(entOwn (y:=x) n10).rd; simpa using this,fun p hp=>by rw [List.mem_singleton] at hp; subst hp; exact er⟩
   have hlef:LefP [e]:=⟨fun y hy=>by rw [List.mem_singleton] at hy; subst hy; exact St.ent,List.pairwise_singleton _ _⟩
   have hsz:(wr 1 0 [e]).length<=224:=by rw [wr_len,szL_cons,szL_nil]; have:=szE_le St.ent; omega
   rw [<- srcV_eq St.bm]
   refine gwrite_spec (R:=St.mem.no x610) nd (by simp) (show RightP 1 0 (ents [(x,e)]) from hlef.right) hsz (by have:=St.chg.len; omega) fun n T2 m2 w11 hfree R11 hbm2 tg2 x11=>?_
   have hput:=Chg.put (M:=M3) (n:=n) (t:=t) (k:=1) (v:=0) (pay:=pad (wr 1 0 [e]))
   have hat:=putM_at (t:=t) (k:=1) (v:=0) (pay:=pad (wr 1 0 [e])) hfree
   have hr0:(⟨n,M3.commit,M3.gen⟩ : Rf) ≠ .z:=fun h=>by have:=hfree.lo; have:=congrArg Rf.p h; simp only [Rf.z] at this; omega
   have s8:=x610.size
   have tb3':T' b3=none:=by rw [tT b3 (by omega)]; exact tb3
   have tb32:T2 b3=none:=by rw [tg2 b3 (by omega)]; exact tb3'
   have g311:=get_ext (get_no g36 n10.ext) x11 (fun h=>h tb3')
   refine ret4 g311 rfl fun w12 x12 z12=>?_
   have x12':Ext (·=b3) w11 w12:=x12
   refine k ⟨n,M3.commit,M3.gen⟩ 0 (⟨n,M3.commit,M3.gen⟩::psn) T2 m2 (putM M3 n t 1 0 (pad (wr 1 0 [e]))) w12 ⟨R11.ext x12' fun q hq=>by rw [hq]; exact tb32,hbm2.trans St.bm,fun q hq=>by rw [tg2 q (by omega)]; exact tT q (by omega),?_, .inr ⟨hr0,by omega,?_⟩,by omega,?_⟩
   .exact ((((x04.of_no.trans St.ext fun q hq h=>h).no x610)).trans x11 fun q hq h=>by show T q≠none; rw [<- tT q (by omega)]; exact h).trans x12' fun q hq h=>by omega
   .have hkv:kvOp key (opV false val) []=[(key,val)]:=kvOp_nil _ _
    rw [hkv]
    refine SubT.shut (lev:=0) ⟨hat,hlef.right,hsz,fun y hy=>?_⟩ (by simp) (fun h=>absurd h (by omega)) ?_
    .rw [List.mem_singleton] at hy; subst hy; exact ⟨⟨er.cho,er.cdo⟩,er.k8,er.v8⟩
    .have h1:LeafL M3.f t [e] [(key,val)] psn:=by simpa using LeafL.cons St.leaf .nil
     exact (show Body M3.f t 0 [e] [(key,val)] psn from h1).keep (hput.keep fun q _ => .inl (by simp))
   .refine (St.chg.trans hput).as (by omega) (by simp) fun q=>?_
    simp only [List.count_append,List.count_cons,List.count_nil]; omega
 .have hS:r ≠ .z/\SubT M.f t lev r kvs ps:=by
   rcases hT with ⟨hr,h0,_⟩ | ⟨hr,_,h⟩
   .subst hr
    have:lev=0:=by omega
    subst this
    exact absurd hz (by decide)
   .exact ⟨hr,by simpa using h⟩
  refine ⟨fun w'=>Ext No w4 w',⟨d,Cell.lst g24 rfl,If.cases (fun hd=>?_) fun hd=>Ext.refl _ _⟩,?_⟩
  .subst hd
   refine ⟨_,Cell.lst g4 rfl,_,Cell.lst g4 rfl,_,Cell.lst g14 rfl,_,Cell.lst g14 rfl,_,Cell.lst g14 rfl,_,Cell.lst g14 rfl,_,Cell.lst g24 rfl,?_⟩
   refine treeGet_spec (R.no x04) hT (by omega) ho4.kR ho.k8 (fun w' h _=>by have:=ho.kl; omega) (fun w' _ _ hg x'=>If.beq (fun _=>?_) fun h=>(h rfl).elim) (fun v s' w' _ _ _ _ x'=>If.beq (fun h=>by omega) fun _=>If.beq (fun _=>x') fun h=>(h rfl).elim)
   have g1':=get_no g14 x'
   refine ⟨_,Cell.lst g1' rfl,_,Cell.lst g1' rfl,_,Cell.lst g1' rfl,_,Cell.lst g1' rfl,ret4 (get_no g34 x') rfl fun w5 x5 _=>same w5 (x'.of_no.trans x5 fun _ _ h=>h) (kvOp_id hT.sort (kvGet_none_mem hg))⟩
  .rintro _ w16 x16
   have x16':Ext No w4 w16:=x16
   have x016:=x04.no x16'
   have s16:=x16'.size
   have g16:=get_no g4 x16'; have g116:=get_no g14 x16'; have g216:=get_no g24 x16'; have g316:=get_no g34 x16'
   refine ⟨_,Cell.lst g16 rfl,_,Cell.lst g16 rfl,_,Cell.lst g116 rfl,_,Cell.lst g116 rfl,_,Cell.lst g116 rfl,_,Cell.lst g116 rfl,_,Cell.lst g216 rfl,_,Cell.lst g216 rfl,_,Cell.lst g216 rfl,?_⟩
   refine alter_all lev (R.no x016) hS.2 hs (ho.ext x016.of_no fun q _ h=>h) hn fun sl ls pm' T' m' M' w17 A=>If.bne (fun h=>(h rfl).elim) fun _=>?_
   obtain ⟨R17,hbm,tg,x17,lm17,lp17,cg⟩:=A
   have x17':Ext (Ts T) w16 w17:=x17.mono fun q hq h=>by
    rcases h with h | h
    .exact h
    .omega
   have s17:=x17'.size
   have g17:=get_ext g16 x17' (nT (sup b (by omega)))
   have g117:=get_ext g116 x17' (nT (sup b1 (by omega)))
   have g317:=get_ext g316 x17' (nT tb3)
   refine ⟨_,Cell.lst g17 rfl,_,Cell.lst g17 rfl,_,Cell.lst g117 rfl,?_⟩
   rw [<- srcV_eq hbm]
   have tT:∀ q,q < w16.heap.size->T' q=T q:=tg
   refine crown_spec R17 (lm17.mono fun q _ h=>h.2) lp17 (by omega) (by have:=cg.len; omega) (fun x hx _ h1=>?_) fun r' lv' ps' rs T2 m2 M2 w19 R19 hbm2 tg2 x19 tr hl cg2 cnt=>?_
   .subst hx
    have:=List.length_pos_iff.2 (limbs_sole lp17).ne
    omega
   have tb3':T' b3=none:=by rw [tT b3 (by omega)]; exact tb3
   have g319:=get_ext g317 x19 (fun h=>h tb3')
   refine ret4 g319 rfl fun w20 x20 z20=>?_
   have x20':Ext (·=b3) w19 w20:=x20
   refine k r' lv' ps' T2 m2 M2 w20 ⟨R19.ext x20' fun q hq=>by rw [hq,tg2 b3 (by omega)]; exact tb3',hbm2.trans hbm,fun q hq=>by rw [tg2 q (by omega)]; exact tT q (by omega),?_,tr,hl,?_⟩
   .exact ((x016.of_no.trans x17' fun _ _ h=>h).trans x19 fun q hq h=>by show T q≠none; rw [<- tT q (by omega)]; exact h).trans x20' fun q hq h=>by omega
   .refine (cg.trans cg2).as (by omega) (fun q hq=>by simpa using hq) fun q=>?_
    have:=cnt q
    simp only [List.count_append,List.count_nil]; omega
end
end Go.Proofs.YtcamoanigdfihaaGreat
namespace Go.V
structure OpV where
 k:Sl
 v:Sl
 d:Bool
 key:List Int
 val:List Int
def OpV.cs(x:OpV):List Value:=[.slice x.k.a x.k.len x.k.cap, .slice x.v.a x.v.len x.v.cap, .bool x.d]
abbrev OpV.agg(x:OpV):Value := .agg x.cs.toArray
def strK(l:List Int):ByteArray:=⟨(toB l).toArray⟩
theorem strK_inj{l m:List Int}(hl:B8 l)(hm:B8 m)(h:strK l=strK m):l=m:=by
 refine (toB_inj hl hm).1 ?_
 have:=congrArg ByteArray.toList h
 simpa [strK,toList_mk] using this
def OpV.fit(x:OpV):Prop:=(1<=x.key.length/\x.key.length<=32)/\x.val.length<=1024/\(x.d=true->x.val.length=0)
instance (x:OpV):Decidable x.fit:=by unfold OpV.fit; infer_instance
structure OpR(h:Array Obj)(T:Nat->Option Nat)(x:OpV):Prop where
 k:Rd h x.k 1 (x.key.map (Value.int .u8))
 v:Rd h x.v 1 (x.val.map (Value.int .u8))
 k8:B8 x.key
 v8:B8 x.val
 ku:x.key≠[]->∀ q,x.k.blk=some q->T q=none/\q < h.size
 vu:x.val≠[]->∀ q,x.v.blk=some q->T q=none/\q < h.size
theorem OpR.ext{S:Nat->Prop}{w w':Wd}{T:Nat->Option Nat}{x:OpV}(r:OpR w.heap T x)(e:Ext S w w')(hS:∀ q,q < w.heap.size->S q->T q≠none):OpR w'.heap T x :=
  ⟨Rd.extE r.k e fun hn q hl hq h=>hS q hl h (r.ku hn q hq).1,Rd.extE r.v e fun hn q hl hq h=>hS q hl h (r.vu hn q hq).1,r.k8,r.v8,
   fun hn q hq=>⟨(r.ku hn q hq).1,Nat.lt_of_lt_of_le (r.ku hn q hq).2 e.size⟩,fun hn q hq=>⟨(r.vu hn q hq).1,Nat.lt_of_lt_of_le (r.vu hn q hq).2 e.size⟩⟩
theorem OpR.tg{w:Wd}{T T':Nat->Option Nat}{x:OpV}(r:OpR w.heap T x)(h:∀ q,q < w.heap.size->T' q=T q):OpR w.heap T' x :=
 ⟨r.k,r.v,r.k8,r.v8,fun hn q hq=>⟨by rw [h q (r.ku hn q hq).2]; exact (r.ku hn q hq).1,(r.ku hn q hq).2⟩,fun hn q hq=>⟨by rw [h q (r.vu hn q hq).2]; exact (r.vu hn q hq).1,(r.vu hn q hq).2⟩⟩
abbrev opM(l:List (ByteArray×OpV)):List (ByteArray×Value):=l.map fun p=>(p.1,p.2.agg)
def oPut(a:ByteArray)(x:OpV):List (ByteArray×OpV)->List (ByteArray×OpV)
 | []=>[(a,x)]
 | p::m=>if a=p.1 then (a,x)::m else p::oPut a x m
def oGet(a:ByteArray):List (ByteArray×OpV)->Option OpV
 | []=>none
 | p::m=>if a=p.1 then some p.2 else oGet a m
theorem oPut_M(a:ByteArray)(x:OpV):∀ l,putA a x.agg (opM l)=opM (oPut a x l)
 | []=>rfl
 | p::l=>by
  simp only [opM,List.map_cons,putA,oPut]
  split
  .simp
  .simp only [List.map_cons,List.cons.injEq,true_and]; exact oPut_M a x l
theorem oGet_M(a:ByteArray):∀ l,getA a (opM l)=(oGet a l).map OpV.agg
 | []=>rfl
 | p::l=>by
  simp only [opM,List.map_cons,getA,oGet]
  split
  .rfl
  .exact oGet_M a l
theorem oGet_put(a b:ByteArray)(x:OpV):∀ l,oGet b (oPut a x l)=if b=a then some x else oGet b l
 | []=>by simp only [oPut,oGet]
 | p::l=>by
  simp only [oPut]
  split
  .rename_i h
   simp only [oGet,<- h]
   split
   .rfl
   .rfl
  .rename_i h
   simp only [oGet]
   split
   .rename_i h2
    rw [if_neg (show ¬ b=a from fun e=>h (e.symm.trans h2))]
   .exact oGet_put a b x l
theorem oPut_keys(a:ByteArray)(x:OpV):∀{l:List (ByteArray×OpV)},(l.map Prod.fst).Nodup->((oPut a x l).map Prod.fst).Nodup/\(∀ b,b∈(oPut a x l).map Prod.fst->b=a∨b∈l.map Prod.fst)/\(oPut a x l).length<=l.length+1
 | [],_=>by simp [oPut]
 | p::l,h=>by
  simp only [List.map_cons,List.nodup_cons] at h
  simp only [oPut]
  split
  .rename_i e
   refine ⟨?_,fun b hb=>?_,by simp⟩
   .simp only [List.map_cons,List.nodup_cons]; exact e ▸ h
   .simp only [List.map_cons,List.mem_cons] at hb ⊢
    rcases hb with hb | hb
    .exact .inl hb
    .exact .inr (.inr hb)
  .rename_i e
   obtain ⟨h1,h2,h3⟩:=oPut_keys a x (l:=l) h.2
   refine ⟨?_,fun b hb=>?_,by simp; omega⟩
   .simp only [List.map_cons,List.nodup_cons]
    refine ⟨fun hm=>?_,h1⟩
    rcases h2 _ hm with h' | h'
    .exact e h'.symm
    .exact h.1 h'
   .simp only [List.map_cons,List.mem_cons] at hb ⊢
    rcases hb with hb | hb
    .exact .inr (.inl hb)
    .rcases h2 _ hb with h' | h'
     .exact .inl h'
     .exact .inr (.inr h')
theorem oGet_some{a:ByteArray}:∀{l:List (ByteArray×OpV)},a∈l.map Prod.fst->∃ x,oGet a l=some x/\(a,x)∈l
 | [],h=>by cases h
 | p::l,h=>by
  simp only [oGet]
  split
  .rename_i e; exact ⟨p.2,rfl,by rw [e]; simp⟩
  .rename_i e
   simp only [List.map_cons,List.mem_cons] at h
   obtain ⟨x,h1,h2⟩:=oGet_some (h.resolve_left e)
   exact ⟨x,h1,List.mem_cons_of_mem _ h2⟩
theorem kvGet_op{k k':List Int}{o:Option (List Int)}{l:List KV}:kvGet (kvOp k o l) k'=if k'=k then o else kvGet l k':=by
 have lo:∀{p:KV->Bool},(∀ x,x.1=k'->p x=true)->kvGet (l.filter p) k'=kvGet l k':=fun {p} h=>by
  unfold kvGet; rw [List.find?_filter]; congr 2; funext x
  by_cases hx:x.1=k'
  .simp [hx,h x hx]
  .simp [hx]
 have no:∀{p:KV->Bool},(∀ x,x.1=k'->p x=false)->kvGet (l.filter p) k'=none:=fun {p} h=>kvGet_none fun x hx e=>by
  have:=(List.mem_filter.1 hx).2; rw [h x e] at this; cases this
 unfold kvOp
 rw [kvGet_append,kvGet_append]
 have mid:∀ v,kvGet (((some v:Option (List Int)).map fun v=>(k,v)).toList) k'=if k'=k then some v else none:=fun v=>by
  unfold kvGet
  by_cases h:k'=k
  .subst h; simp
  .simp [h,Ne.symm h]
 rcases LtB.total k' k with h | h | h
 .have h1:kvGet (kvLo k l) k'=kvGet l k':=lo fun x hx=>by rw [hx]; exact decide_eq_true h
  have h2:kvGet (kvHi k l) k'=none:=no fun x hx=>by rw [hx]; exact decide_eq_false fun h'=>(h.trans h').irrefl
  have hne:k'≠k:=fun e=>(e ▸ h).irrefl
  rw [h1,h2,if_neg hne]
  cases o with
  | none=>cases kvGet l k' <;> rfl
  | some v=>rw [mid v,if_neg hne]; cases kvGet l k' <;> rfl
 .subst h
  have h1:kvGet (kvLo k' l) k'=none:=no fun x hx=>by rw [hx]; exact decide_eq_false fun h'=>h'.irrefl
  have h2:kvGet (kvHi k' l) k'=none:=no fun x hx=>by rw [hx]; exact decide_eq_false fun h'=>h'.irrefl
  rw [h1,h2,if_pos rfl]
  cases o with
  | none=>rfl
  | some v=>rw [mid v,if_pos rfl]; rfl
 .have h1:kvGet (kvLo k l) k'=none:=no fun x hx=>by rw [hx]; exact decide_eq_false fun h'=>(h.trans h').irrefl
  have h2:kvGet (kvHi k l) k'=kvGet l k':=lo fun x hx=>by rw [hx]; exact decide_eq_true h
  have hne:k'≠k:=fun e=>(e ▸ h).irrefl
  rw [h1,h2,if_neg hne]
  cases o with
  | none=>rfl
  | some v=>rw [mid v,if_neg hne]; rfl
end Go.V
namespace Go.Proofs.YtcamoanigdfihaaGreat
open Go.V
section
variable {w:Wd} {T:Nat->Option Nat} {m:MemV} {M:Mm}
theorem opRight_spec{x:OpV}{K:Bool->Wd->Prop}(hk:x.k.len=x.key.length)(hv:x.v.len=x.val.length)(k:∀ w',Ext No w w'->K (decide x.fit) w'):C_tree_right x.k x.v x.d w K:=by
 apply S_tree_right
 refine NewW.mk fun b w1 n1=>⟨_,Cell.lst n1.get rfl,?_⟩
 have kk:∀ p:Bool,(p=decide x.fit)->K p w1:=fun p hp=>by rw [hp]; exact k w1 n1.ext
 have no:¬ x.fit->K false w1:=fun h=>kk _ (by rw [decide_eq_false h])
 refine If.dec (fun h1=>⟨_,Cell.lst n1.get rfl,If.dec (fun h2=>⟨_,Cell.lst n1.get rfl,If.dec (fun h3=>⟨_,Cell.lst n1.get rfl,If.cases (fun hd=>⟨_,Cell.lst n1.get rfl,kk _ ?_⟩) fun hd=>kk _ ?_⟩) fun h=>no fun f=>by have:=f.2.1; omega⟩) fun h=>no fun f=>by have:=f.1; omega⟩) fun h=>no fun f=>by have:=f.1; omega
 .rw [<- decide_not]
  refine decide_eq_decide.2 ⟨fun h=>⟨by omega,by omega,fun _=>by omega⟩,fun f=>by have:=f.2.2 hd; omega⟩
 .exact (decide_eq_true ⟨by omega,by omega,fun h=>by rw [hd] at h; cases h⟩).symm
theorem scmp_spec{a b:ByteArray}{K:Int->Wd->Prop}(k:∀ r,K r w):C_strings_Compare a b w K:=by
 apply S_strings_Compare
 apply S_internal_bytealg_CompareString
 refine ⟨Extern.BytealgCompare.cmp a b,w,?_,k _⟩
 rw [run_callFunc_extern (e:=Extern.BytealgCompare.compare) Tryz.func166 (by kernel_rfl) (by kernel_rfl) (by kernel_rfl) (by kernel_rfl)]
 rfl
theorem str9:KeyOK pz 9 Value.string:=str_key (by kernel_rfl)
theorem opLook{r:Nat}{l:List (ByteArray×OpV)}(h:MapR w.heap Value.string r (opM l))(a:ByteArray):Sem.run pz (Instr.lookup 155 (.map (some r)) (.string a) false) w = .ok (((oGet a l).getD ⟨⟨none,0,0⟩,⟨none,0,0⟩,false,[],[]⟩).agg) w:=by
 have:=run_lookup (mt:=155) (et:=58) (a:=a) (z:=OpV.agg ⟨⟨none,0,0⟩,⟨none,0,0⟩,false,[],[]⟩) str9 (by kernel_rfl) (run_zero (i:=Tryz.t58) (by kernel_rfl) (by kernel_rfl)) h
 rw [this,oGet_M]
 cases oGet a l <;> rfl
theorem cmp_ok{bc r:Nat}{s:Sl}{l:List (ByteArray×OpV)}{w0:Wd}(g:w0.heap[bc]? = some (.cells [.map (some r)].toArray 155 (0,0)))(h:MapR w0.heap Value.string r (opM l))(nb:s.blk≠some bc)(nr:s.blk≠some r):CmpP w0 s (.func (.func 71) #[] #[.pointer (some ⟨bc,0,none⟩)]):=by
 intro w x y K hx hk
 refine V_tree_Apply_1 (S_tree_Apply_1 ?_)
 have g1:=get_ext g hx nb
 have h1:=h.ext hx nr
 have h1':∀{w'},Ext No w w'->MapR w'.heap Value.string r (opM l):=fun e=>h1.ext e fun h=>h
 have xd:Ext No w (drewW w):=(Ext.refl _ _).drew
 refine ⟨Ext No w,xd,_,Held.cell (Cell.lst g1 rfl),_,Held.cell (Cell.lst g1 rfl),⟨_,_,_,_,opLook (h1' xd) x,xd,_,_,_,_,opLook (h1' xd) y,xd,?_⟩,⟨_,_,_,_,opLook (h1' xd) y,xd,_,_,_,_,opLook (h1' xd) x,xd,?_⟩⟩
 all_goals exact If.cases (fun _=>If.cases (fun _=>hk _ _ xd) fun _=>hk _ _ xd) fun _=>scmp_spec fun r=>hk _ _ xd
end
end Go.Proofs.YtcamoanigdfihaaGreat
namespace Go.V
def opsL(l:List OpV)(kvs:List KV):List KV:=l.foldl (fun a x=>kvOp x.key (opV x.d x.val) a) kvs
def lastOp(l:List OpV)(key:List Int):Option OpV:=l.foldl (fun o x=>if x.key=key then some x else o) none
theorem lastOp_snoc(l:List OpV)(x:OpV)(key:List Int):lastOp (l++[x]) key=if x.key=key then some x else lastOp l key:=by simp [lastOp]
theorem opsL_snoc(l:List OpV)(x:OpV)(kvs:List KV):opsL (l++[x]) kvs=kvOp x.key (opV x.d x.val) (opsL l kvs):=by simp [opsL]
theorem snoc_ind{α:Type}{P:List α->Prop}(h0:P [])(h1:∀ l x,P l->P (l++[x]))(l:List α):P l:=by
 have:∀ n (l:List α),l.length=n->P l:=by
  intro n
  induction n with
  | zero=>intro l h; rw [List.eq_nil_of_length_eq_zero h]; exact h0
  | succ n ih =>
   intro l h
   have hne:l≠[]:=by intro e; rw [e] at h; simp at h
   rw [<- List.dropLast_concat_getLast hne]
   exact h1 _ _ (ih _ (by simp [h]))
 exact this _ l rfl
theorem kvGet_opsL(kvs:List KV)(key:List Int)(l:List OpV):kvGet (opsL l kvs) key=match lastOp l key with | some x=>opV x.d x.val | none=>kvGet kvs key:=by
 refine snoc_ind (P:=fun l=>kvGet (opsL l kvs) key=match lastOp l key with | some x=>opV x.d x.val | none=>kvGet kvs key) rfl (fun l x ih=>?_) l
 rw [opsL_snoc,kvGet_op,lastOp_snoc]
 by_cases h:x.key=key
 .rw [if_pos h.symm,if_pos h]
 .rw [if_neg (fun e=>h e.symm),if_neg h]; exact ih
theorem kvOp_sort{k:List Int}{o:Option (List Int)}{l:List KV}(h:SortK l):SortK (kvOp k o l):=by
 unfold kvOp
 refine List.pairwise_append.2 ⟨h.sublist List.filter_sublist,List.pairwise_append.2 ⟨?_,h.sublist List.filter_sublist,fun x hx y hy=>?_⟩,fun x hx y hy=>?_⟩
 .cases o <;> simp
 .have h2:=of_decide_eq_true (List.mem_filter.1 hy).2
  cases o with
  | none=>simp at hx
  | some v=>simp at hx; rw [hx]; exact h2
 .have h1:=of_decide_eq_true (List.mem_filter.1 hx).2
  rcases List.mem_append.1 hy with h' | h'
  .cases o with
   | none=>simp at h'
   | some v=>simp at h'; rw [h']; exact h1
  .exact h1.trans (of_decide_eq_true (List.mem_filter.1 h').2)
theorem opsL_sort{l:List OpV}{kvs:List KV}(h:SortK kvs):SortK (opsL l kvs) :=
 snoc_ind (P:=fun l=>SortK (opsL l kvs)) h (fun l x ih=>by rw [opsL_snoc]; exact kvOp_sort ih) l
theorem kvGet_mem{l:List KV}(h:SortK l){x:KV}:x∈l ↔ kvGet l x.1=some x.2:=by
 induction l with
 | nil=>simp [kvGet]
 | cons y l ih =>
  have h2:=List.pairwise_cons.1 h
  have e:kvGet (y::l) x.1=if y.1=x.1 then some y.2 else kvGet l x.1:=by
   unfold kvGet; by_cases hh:y.1=x.1 <;> simp [hh]
  rw [e,List.mem_cons]
  by_cases hh:y.1=x.1
  .rw [if_pos hh]
   constructor
   .rintro (h' | h')
    .rw [h']
    .exact absurd (h2.1 x h') (by rw [hh]; exact fun h=>h.irrefl)
   .intro h'; left
    simp only [Option.some.injEq] at h'
    exact Prod.ext hh.symm h'.symm
  .rw [if_neg hh,<- ih h2.2]
   exact ⟨fun h'=>h'.resolve_left fun e=>hh (by rw [e]), .inr⟩
theorem sort_ext{a b:List KV}(ha:SortK a)(hb:SortK b)(h:∀ k,kvGet a k=kvGet b k):a=b:=by
 have nd:∀{l:List KV},SortK l->l.Nodup:=fun h=>h.imp fun {x y} h e=>by rw [e] at h; exact h.irrefl
 have hp:a.Perm b:=(List.perm_ext_iff_of_nodup (nd ha) (nd hb)).2 fun x=>by rw [kvGet_mem ha,kvGet_mem hb,h]
 exact hp.eq_of_pairwise (fun x y _ _ h1 h2=>absurd (h1.trans h2) (fun h=>h.irrefl)) ha hb
theorem lastOp_mem{l:List OpV}{key:List Int}{x:OpV}(h:lastOp l key=some x):x∈l/\x.key=key:=by
 revert h
 refine snoc_ind (P:=fun l=>lastOp l key=some x->x∈l/\x.key=key) (fun h=>by cases h) (fun l y ih h=>?_) l
 rw [lastOp_snoc] at h
 split at h
 .rename_i hy; cases h; exact ⟨by simp,hy⟩
 .obtain ⟨a,b⟩:=ih h; exact ⟨by simp [a],b⟩
theorem lastOp_some{l:List OpV}{key:List Int}{x:OpV}(hx:x∈l)(hk:x.key=key):∃ y,lastOp l key=some y:=by
 revert hx
 refine snoc_ind (P:=fun l=>x∈l->∃ y,lastOp l key=some y) (fun h=>by cases h) (fun l y ih h=>?_) l
 rw [lastOp_snoc]
 split
 .exact ⟨_,rfl⟩
 .rename_i hy
  rcases List.mem_append.1 h with h | h
  .exact ih h
  .rw [List.mem_singleton] at h; subst h; exact (hy hk).elim
theorem oGet_mem{a:ByteArray}{x:OpV}:∀{l:List (ByteArray×OpV)},(l.map Prod.fst).Nodup->(a,x)∈l->oGet a l=some x
 | [],_,h=>by cases h
 | p::l,hn,h=>by
  simp only [List.map_cons,List.nodup_cons] at hn
  simp only [oGet]
  rcases List.mem_cons.1 h with h' | h'
  .rw [<- h']; simp
  .rw [if_neg (show ¬ a=p.1 from fun e=>hn.1 (by rw [<- e]; exact List.mem_map.2 ⟨_,h',rfl⟩))]
   exact oGet_mem hn.2 h'
theorem ops_perm{xs done:List OpV}{l:List (ByteArray×OpV)}{kvs:List KV}(hs:SortK kvs)(h8:∀ x∈xs,B8 x.key)(hl:∀ key,B8 key->oGet (strK key) l=lastOp xs key)(hn:(l.map Prod.fst).Nodup)(hk:∀ p∈l,p.1=strK p.2.key/\p.2∈xs)
  (hd:∀ x∈done,(strK x.key,x)∈l) (hp:(done.map fun x=>strK x.key).Perm (l.map Prod.fst)):opsL done kvs=opsL xs kvs:=by
 refine sort_ext (opsL_sort hs) (opsL_sort hs) fun key=>?_
 rw [kvGet_opsL,kvGet_opsL]
 have:lastOp done key=lastOp xs key:=by
  cases h1:lastOp done key with
  | some x =>
   obtain ⟨a,rfl⟩:=lastOp_mem h1
   have hm:=hd x a
   have hb:=h8 x (hk _ hm).2
   rw [<- hl x.key hb,oGet_mem hn hm]
  | none =>
   cases h2:lastOp xs key with
   | none=>rfl
   | some y =>
    obtain ⟨a,rfl⟩:=lastOp_mem h2
    have hb:=h8 y a
    have h3:=hl y.key hb
    rw [h2] at h3
    have hm:strK y.key∈l.map Prod.fst:=by
     refine Classical.byContradiction fun hc=>?_
     have:oGet (strK y.key) l=none:=by
      clear hl hn hk hd hp h3
      induction l with
      | nil=>rfl
      | cons p l ih =>
       simp only [List.map_cons,List.mem_cons,not_or] at hc
       simp only [oGet]; rw [if_neg hc.1]; exact ih hc.2
     rw [this] at h3; cases h3
    obtain ⟨x,hx,he⟩:=List.mem_map.1 (hp.mem_iff.2 hm)
    have hxk:x.key=y.key:=strK_inj (h8 x (hk _ (hd x hx)).2) hb he
    obtain ⟨z,hz⟩:=lastOp_some hx hxk
    rw [h1] at hz; cases hz
 rw [this]
structure ChgW(M M':Mm)(k:Nat)(ds ns:List Rf):Prop where
 commit:M'.commit=M.commit
 gen:M'.gen=M.gen
 cnt:∀ q,(live M'.pages).count q+ds.count q=(live M.pages).count q+ns.count q
 kp:∀ n p,M.f n=some p->p.r.c≠M.commit->∃ p',M'.f n=some p'/\p'.r=p.r/\p'.t=p.t/\p'.k=p.k/\p'.v=p.v/\p'.pay=p.pay
 len:M'.pages.length<=M.pages.length+k
theorem Chg.w{M M':Mm}{k:Nat}{ds ns:List Rf}(h:Chg M M' k ds ns):ChgW M M' k ds ns:=⟨h.commit,h.gen,h.cnt,fun n p hp hc=>h.kp n p hp (.inr hc),h.len⟩
theorem ChgW.trans{M0 M1 M2:Mm}{k1 k2:Nat}{a b c:List Rf}(h1:ChgW M0 M1 k1 a b)(h2:ChgW M1 M2 k2 b c):ChgW M0 M2 (k1+k2) a c:=by
 refine ⟨h2.commit.trans h1.commit,h2.gen.trans h1.gen,fun q=>by have:=h1.cnt q; have:=h2.cnt q; omega,fun n p hp hc=>?_,by have:=h1.len; have:=h2.len; omega⟩
 obtain ⟨p1,e1,e2,e3,e4,e5,e6⟩:=h1.kp n p hp hc
 obtain ⟨p2,f1,f2,f3,f4,f5,f6⟩:=h2.kp n p1 e1 (by rw [e2,h1.commit]; exact hc)
 exact ⟨p2,f1,f2.trans e2,f3.trans e3,f4.trans e4,f5.trans e5,f6.trans e6⟩
theorem ChgW.le{M M':Mm}{k k':Nat}{ds ns:List Rf}(h:ChgW M M' k ds ns)(hk:k<=k'):ChgW M M' k' ds ns:=⟨h.commit,h.gen,h.cnt,h.kp,by have:=h.len; omega⟩
theorem ChgW.sub{M M':Mm}{k:Nat}{ds ns:List Rf}(h:ChgW M M' k ds ns)(hs:Sub ds M):Sub ns M':=fun q=>by have:=h.cnt q; have:=hs q; omega
end Go.V
namespace Go.Proofs.YtcamoanigdfihaaGreat
open Go.V
section
variable {w:Wd} {T:Nat->Option Nat} {m:MemV} {M:Mm}
structure ApS(w w':Wd)(T T':Nat->Option Nat)(m m':MemV)(M M':Mm)(t:Int)(n:Nat)(kvs':List KV)(ps ps':List Rf)(r':Rf)(lv':Nat):Prop where
 mem:MemR w'.heap T' m' M'
 bm:m'.bm=m.bm
 tg:Tg w T T'
 ext:Ext (Ts T) w w'
 tree:TreeT M'.f t r' lv' kvs' ps'
 lv:lv'<=30
 chg:ChgW M M' (60 * n) ps ps'
theorem opCs_len(l:List OpV):∀ x∈l,(OpV.cs x).length=3:=fun _ _=>rfl
set_option maxHeartbeats 4000000 in
theorem apply_spec{t:Int}{lev:Nat}{r:Rf}{kvs:List KV}{ps:List Rf}{ops:Sl}{xs:List OpV}{K:Int->Int->Int->Int->Int->Wd->Prop}(R:MemR w.heap T m M)(hT:TreeT M.f t r lev kvs ps)(hl30:lev<=30)(hs:Sub ps M)(hops:Rd w.heap ops 3 (xs.flatMap OpV.cs))(hx:∀ x∈xs,OpR w.heap T x)(hl:xs.length<=1000)(hn:M.pages.length<=900000)
  (kbad:∀ w',(∃ x∈xs,¬ x.fit)->Ext No w w'->K 0 0 0 0 2 w')
  (k:∀(r':Rf)(lv':Nat) ps' T' m' M' w',(∀ x∈xs,x.fit)->ApS w w' T T' m m' M M' t xs.length (opsL xs kvs) ps ps' r' lv'->K r'.p r'.c r'.g lv' 0 w'):C_tree_Apply (srcV m) t r.p r.c r.g lev ops w K:=by
 apply S_tree_Apply
 have sup:∀ q,w.heap.size<=q->T q=none:=fun q hq=>R.supT hq
 have nT:∀{q},T q=none->¬ Ts T q:=fun h h'=>h' h
 refine NewW.mk fun b w1 n1=>NewW.mk fun b1 w2 n2=>⟨trivial,If.no ?_⟩
 refine NewW.mk fun b2 w4 n4=>NewW.mk fun b3 w5 n5=>St1.mk n5.get (by simp) rfl fun w6 h6=>?_
 have hb:=n1.at_; have hb1:=n2.at_; have hb2:=n4.at_; have hb3:=n5.at_
 have z1:=n1.size; have z2:=n2.size; have z4:=n4.size; have z5:=n5.size
 have x56:Ext (·=b3) w5 w6:=h6.ext
 have z6:w6.heap.size=w5.heap.size:=h6.size
 have x05:Ext No w w5:=((n1.ext.no n2.ext).no n4.ext).no n5.ext
 have x06:Ext No w w6:=x05.trans x56 fun q hq h=>by omega
 have g6:=get_ext (get_no (get_no (get_no n1.get n2.ext) n4.ext) n5.ext) x56 (by omega)
 have g16:=get_ext (get_no (get_no n2.get n4.ext) n5.ext) x56 (by omega)
 have gm6:=get_ext (get_no n4.get n5.ext) x56 (by omega)
 have g36:w6.heap[b3]? = some (.cells [.map (some b2)].toArray 155 (0,0)):=h6.get n5.get
 have hops6:=hops.no x06
 have hol:ops.len=xs.length:=by have:=hops.len; rw [flat_len' (opCs_len xs)] at this; omega
 refine ⟨fun q tt w'=>∃ (j:Nat) (l:List (ByteArray×OpV)),tt=j/\j<=xs.length/\q=xs.length - j/\MapR w'.heap Value.string b2 (opM l)/\(l.map Prod.fst).Nodup/\l.length<=j/\Ext (·=b2) w6 w'/\(∀ x∈xs.take j,x.fit)/\(∀ key,B8 key->oGet (strK key) l=lastOp (xs.take j) key)/\(∀ p∈l,p.1=strK p.2.key/\p.2∈xs),
  ⟨xs.length,0,[],rfl,by omega,by omega,⟨#[],0,gm6,rfl,BornOK.nil⟩, .nil,by simp,Ext.refl _ _,by simp,fun key _=>by simp [oGet,lastOp],by simp⟩,?_⟩
 rintro _ m0 tt w7 ⟨j,l,rfl,hj,hq,hm,hnd,hlj,x67,hfit,hlast,hmem⟩
 have x07:Ext No w w7:=x06.trans x67 fun q hq h=>by omega
 have g7:=get_ext g6 x67 (by omega)
 have g17:=get_ext g16 x67 (by omega)
 have g37:=get_ext g36 x67 (by omega)
 have z67:=x67.size
 refine If.dec (fun h=>?_) fun h=>?_
 .have hjl:j < xs.length:=by omega
  have hops7:=hops.no x07
  refine Ix.elem hops7 (opCs_len xs) (by decide) (by omega) h fun bb o hi2 _ hcell=>?_
  simp only [Int.toNat_natCast] at hi2 hcell
  have hxj:xs[j]∈xs:=List.getElem_mem hjl
  refine ⟨_,hcell 0 _ rfl,_,hcell 1 _ rfl,_,hcell 2 _ rfl,new_set (vs:=OpV.cs xs[j]) rfl rfl (by simp [OpV.cs,oneC]) fun b4 w9 g9 hb4 z9 x9=>?_⟩
  have r9:=(hx _ hxj).ext (x07.no x9) fun q _ h=>h.elim
  refine ⟨_,Cell.lst g9 rfl,_,Cell.lst g9 rfl,_,Cell.lst g9 rfl,opRight_spec (RdB.len r9.k) (RdB.len r9.v) fun w10 x10=>If.not (If.dec (fun hft=>?_) fun hft=>?_)⟩
  .have g10:=get_no g9 x10
   have x710:Ext No w7 w10:=x9.no x10
   have g310:=get_no g37 x710
   have r10:=r9.ext x10 fun q _ h=>h.elim
   have hm10:=hm.ext x710 fun h=>h
   obtain ⟨w12,hup,hm12,x12,z12⟩:=run_mapUpdate (P:=pz) (mt:=155) (kt:=9) (et:=58) (a:=strK xs[j].key) (v:=xs[j].agg) str9 (by kernel_rfl) hm10
   rw [oPut_M] at hm12
   have hkeys:=oPut_keys (strK xs[j].key) xs[j] hnd
   refine ⟨_,Cell.lst g310 rfl,_,Cell.lst g10 rfl,StrC.mk r10.k (fun bb o v hv=>by show w10.cell? _=_; rw [cell_eq]; exact hv) ⟨_,Cell.lst g10 rfl,_,Cell.lst g10 rfl,_,Cell.lst g10 rfl,w12,hup,Ar.i64 (by omega) ⟨xs.length - (j+1),by omega,j+1,oPut (strK xs[j].key) xs[j] l,by omega,by omega,rfl,hm12,hkeys.1,by have:=hkeys.2.2; omega,?_,fun x hx'=>?_,fun key hk=>?_,fun p hp=>?_⟩⟩⟩
   .exact (x67.no x710).trans x12 fun q _ h=>h
   .rw [List.take_add_one,List.getElem?_eq_getElem hjl] at hx'
    rcases List.mem_append.1 hx' with h' | h'
    .exact hfit x h'
    .simp at h'; rw [h']; exact hft
   .rw [oGet_put,List.take_add_one,List.getElem?_eq_getElem hjl,Option.toList_some,lastOp_snoc]
    by_cases he:xs[j].key=key
    .rw [if_pos he,if_pos (by rw [he])]
    .rw [if_neg he,if_neg fun e=>he (strK_inj hk r9.k8 e).symm]; exact hlast key hk
   .have:∀{l:List (ByteArray×OpV)}{p},p∈oPut (strK xs[j].key) xs[j] l->p=(strK xs[j].key,xs[j])∨p∈l:=fun {l p}=>by
     induction l with
     | nil=>intro h; simp [oPut] at h; exact .inl h
     | cons y l ih =>
      intro h
      simp only [oPut] at h
      split at h
      .rcases List.mem_cons.1 h with h | h
       .exact .inl h
       .exact .inr (List.mem_cons_of_mem _ h)
      .rcases List.mem_cons.1 h with h | h
       .exact .inr (by rw [h]; exact List.mem_cons_self)
       .exact (ih h).imp id (List.mem_cons_of_mem _)
    rcases this hp with h' | h'
    .rw [h']; exact ⟨rfl,hxj⟩
    .exact hmem p h'
  .have x710:Ext No w7 w10:=x9.no x10
   refine ret4 (get_no g17 x710) rfl fun w11 x11 z11=>kbad w11 ⟨_,hxj,hft⟩ ?_
   exact (x07.no x710).trans x11 fun q hq h=>by omega
 .have hjl:j=xs.length:=by omega
  rw [List.take_of_length_le (by omega)] at hfit hlast
  refine ⟨_,Cell.lst g37 rfl,?_⟩
  apply S_maps_Keys_map_string_api_Op_string_api_Op
  refine NewW.mk fun bk w13 n13=>?_
  have hbk:=n13.at_; have z13:=n13.size
  apply S_slices_SortedFunc_string
  apply S_slices_Collect_string
  refine appendKeys_spec n13.get (hm.ext n13.ext fun h=>h) (by rw [List.length_map]; omega) fun s ks w14 hks o14 x14=>?_
  have hks':ks.Perm (l.map Prod.fst):=by simpa [opM,List.map_map,Function.comp_def] using hks
  have x714:Ext No w7 w14:=n13.ext.no x14
  have slt:∀ q,s.blk=some q->w13.heap.size<=q/\q < w14.heap.size:=fun q hq=>o14.lt hq
  have g314:=get_no g37 x714
  have hm14:=hm.ext x714 fun h=>h
  have hcmp:CmpP w14 s (.func (.func 71) #[] #[.pointer (some ⟨b3,0,none⟩)]):=cmp_ok g314 hm14 (fun h=>by have:=slt _ h; omega) (fun h=>by have:=slt _ h; omega)
  refine sortFunc_spec hcmp o14 (by have:=hks'.length_eq; rw [List.length_map] at this; omega) fun L w15 hL o15 x15=>⟨rfl,new_set rfl rfl (by simp [oneC]) fun b5 w16 g516 hb5 z16 x16=>?_⟩
  have x15':Ext (fun q=>s.blk=some q) w14 w15:=x15
  have s15:=x15'.size; have s14:=x714.size
  have nbs:∀ q,q < w13.heap.size->¬ s.blk=some q:=fun q hq h=>by have:=slt q h; omega
  have x016:Ext No w w16:=((x07.no x714).trans x15' fun q hq h=>by have:=slt q h; have:=x07.size; omega).no x16
  have g16':=get_no (get_ext (get_no g7 x714) x15' (nbs _ (by omega))) x16
  have g116:=get_no (get_ext (get_no g17 x714) x15' (nbs _ (by omega))) x16
  have g316:=get_no (get_ext g314 x15' (nbs _ (by omega))) x16
  have hm16:=(hm14.ext x15' (nbs _ (by omega))).ext x16 fun h=>h
  have o16:=o15.no x16
  have hLp:L.Perm (l.map Prod.fst):=hL.trans hks'
  have hLl:L.length<=xs.length:=by have:=hLp.length_eq; rw [List.length_map] at this; omega
  have hsl:s.len=L.length:=by have:=o15.len; simp only [List.length_map,Nat.mul_one] at this; omega
  have s016:=x016.size
  refine ⟨fun q tt w'=>∃ (j:Nat) (done:List OpV) (T':Nat->Option Nat) (m':MemV) (M':Mm) (r':Rf) (lv':Nat) (ps':List Rf),tt=j/\j<=L.length/\q=L.length - j/\done.map (fun x=>strK x.key)=L.take j/\(∀ x∈done,(strK x.key,x)∈l)/\MemR w'.heap T' m' M'/\m'.bm=m.bm/\Tg w16 T T'/\Ext (fun q=>Ts T q∨q=b) w16 w'/\w'.heap[b]? = some (.cells [.int .u32 r'.p, .int .u64 r'.c, .int .u16 r'.g, .int .u8 lv'].toArray 47 (0,0))/\TreeT M'.f t r' lv' (opsL done kvs) ps'/\lv'<=30/\ChgW M M' (60 * j) ps ps',
   ⟨L.length,0,[],T,m,M,r,lev,ps,rfl,by omega,by omega,rfl,by simp,R.no x016,rfl,fun _ _=>rfl,Ext.refl _ _,g16',hT,hl30,((Chg.refl M).as (by omega) (by simp) (by simp)).w⟩,?_⟩
  rintro _ m0 tt w17 ⟨j2,done,T',m',M',r',lv',ps',rfl,hj2,hq2,hdone,hdl,R17,hbm,tg,x17,gb17,tr,hlv,cg⟩
  have nS:∀{q},w.heap.size<=q->q≠b->¬ (Ts T q∨q=b):=fun h1 h2 h=>h.elim (nT (sup _ h1)) h2
  have g517:=get_ext g516 x17 (nS (by omega) (by omega))
  have g117:=get_ext g116 x17 (nS (by omega) (by omega))
  have g317:=get_ext g316 x17 (nS (by omega) (by omega))
  have hm17:=hm16.ext x17 (nS (by omega) (by omega))
  have o17:=o16.ext x17 fun q hq=>nS (by have:=slt q hq; omega) (by have:=slt q hq; omega)
  have s17:=x17.size
  have tT:∀ q,q < w16.heap.size->T' q=T q:=tg
  refine If.dec (fun h2=>?_) fun h2=>?_
  .have hjL:j2 < L.length:=by omega
   refine Ix.str o17 (by omega) (by simpa using hjL) fun bb _ hc=>?_
   simp only [Int.toNat_natCast] at hc
   have hin:L[j2]∈l.map Prod.fst:=hLp.mem_iff.1 (List.getElem_mem hjL)
   obtain ⟨x,hox,hxl⟩:=oGet_some hin
   have hpx:=hmem _ hxl
   have hxx:x∈xs:=hpx.2
   have hkey:L[j2]=strK x.key:=hpx.1
   have hlook:=opLook hm17 L[j2]
   rw [hox] at hlook
   have x017:Ext (fun q=>Ts T q∨q=b) w w17:=x016.of_no.trans x17 fun _ _ h=>h
   have rx:=((hx x hxx).tg (T':=T') fun q hq=>tT q (by omega)).ext x017 fun q hq h=>by rw [tT q (by omega)]; exact h.elim id (by omega)
   have hf:=hfit x hxx
   refine ⟨_,hc,_,Cell.lst g517 rfl,_,Cell.lst g517 rfl,_,Cell.lst gb17 rfl,_,Cell.lst gb17 rfl,_,Cell.lst gb17 rfl,_,Cell.lst gb17 rfl,_,Cell.lst g317 rfl,x.k,x.v,x.d,w17,hlook,?_⟩
   rw [<- srcV_eq hbm]
   have tb':T' b=none:=by rw [tT b (by omega)]; exact sup b (by omega)
   refine change_spec R17 tr (cg.sub hs) ⟨rx.k,rx.v,rx.k8,rx.v8,hf.1,hf.2.1,fun hn q hq=>(rx.ku hn q hq).1,fun hn q hq=>(rx.vu hn q hq).1⟩ (by have:=cg.len; omega) fun r2 lv2 ps2 T2 m2 M2 w19 C=>?_
   have gb19:=get_ext gb17 C.ext (fun h=>h tb')
   have s19:=C.ext.size
   have tb2:T2 b=none:=by rw [C.tg b (by omega)]; exact tb'
   refine st_all gb19 rfl rfl (by simp [oneC]) fun w20 g20 x20 z20=>If.bne (fun h=>(h rfl).elim) fun _=>Ar.i64 (by omega) ?_
   have x20':Ext (·=b) w19 w20:=x20
   refine ⟨L.length - (j2+1),by omega,j2+1,done++[x],T2,m2,M2,r2,lv2,ps2,by omega,by omega,rfl,?_,fun y hy=>?_,C.mem.ext x20' fun q hq=>by rw [hq]; exact tb2,C.bm.trans hbm,fun q hq=>by rw [C.tg q (by omega)]; exact tT q hq,?_,g20,by rw [opsL_snoc]; exact C.tree,C.lv,?_⟩
   .rw [List.map_append,hdone,List.take_add_one,List.getElem?_eq_getElem hjL,Option.toList_some]
    simp [hkey]
   .rcases List.mem_append.1 hy with h' | h'
    .exact hdl y h'
    .rw [List.mem_singleton] at h'; rw [h',<- hkey]; exact hxl
   .exact (x17.trans C.ext fun q hq h => .inl (by show T q≠none; rw [<- tT q hq]; exact h)).trans x20' fun q hq h => .inr h
   .exact (cg.trans C.chg.w).le (by omega)
  .have hjL:j2=L.length:=by omega
   rw [hjL,List.take_length] at hdone
   have heq:opsL done kvs=opsL xs kvs:=ops_perm hT.sort (fun x hx'=>(hx x hx').k8) hlast hnd hmem hdl (by rw [hdone]; exact hLp)
   rw [heq] at tr
   refine ⟨_,Cell.lst gb17 rfl,_,Cell.lst gb17 rfl,_,Cell.lst gb17 rfl,_,Cell.lst gb17 rfl,ret4 g117 rfl fun w22 x22 z22=>?_⟩
   have x22':Ext (·=b1) w17 w22:=x22
   refine k r' lv' ps' T' m' M' w22 hfit ⟨R17.ext x22' fun q hq=>by rw [hq,tT b1 (by omega)]; exact sup b1 (by omega),hbm,fun q hq=>tT q (by omega),?_,tr,hlv,cg.le (by omega)⟩
   exact (x016.of_no.trans x17 fun q hq h=>h.elim id fun h=>by omega).trans x22' fun q hq h=>by omega
end
end Go.Proofs.YtcamoanigdfihaaGreat
namespace Go.V
def refCs(r:Rf):List Value:=[.int .u32 r.p, .int .u64 r.c, .int .u16 r.g]
theorem refCs_len(l:List Rf):∀ x∈l,(refCs x).length=3:=fun _ _=>rfl
def refsM(M:Mm)(b:Bool):List Rf:=(M.pages.filter fun p=>p.2.waits == b).map fun p=>p.2.r
theorem refsM_live(M:Mm):refsM M false=live M.pages:=by
 unfold refsM live; congr 2; funext p; cases p.2.waits <;> rfl
def refG(l:List (Int×Pg))(b:Bool)(n:Int):Option Rf:=(pgA n l).bind fun p=>if p.waits == b then some p.r else none
theorem refG_all{M:Mm}(hn:(M.pages.map Prod.fst).Nodup)(b:Bool):(M.pages.map Prod.fst).filterMap (refG M.pages b)=refsM M b:=by
 have h:∀ p∈M.pages,refG M.pages b p.1=if p.2.waits == b then some p.2.r else none:=fun p hp=>by
  unfold refG; rw [pgA_of_mem hn hp]; rfl
 unfold refsM
 revert h
 generalize refG M.pages b=g
 generalize M.pages=l
 intro h
 induction l with
 | nil=>rfl
 | cons p l ih =>
  have h1:=h p (by simp)
  have h2:=ih fun q hq=>h q (List.mem_cons_of_mem _ hq)
  rw [List.map_cons,List.filter_cons]
  cases hw:(p.2.waits == b) with
  | true=>rw [hw,if_pos rfl] at h1; rw [List.filterMap_cons,h1,if_pos rfl,List.map_cons,h2]
  | false=>rw [hw] at h1; rw [List.filterMap_cons,h1]; simpa using h2
end Go.V
namespace Go.Proofs.YtcamoanigdfihaaGreat
open Go.V
section
variable {w:Wd} {T:Nat->Option Nat} {m:MemV} {M:Mm}
set_option maxHeartbeats 2000000 in
theorem refs_spec{waits:Bool}{K:Sl->Wd->Prop}(R:MemR w.heap T m M)(hn:M.pages.length<=65535)
  (k:∀ s (rs:List Rf) w',rs.Perm (refsM M waits)->Own w'.heap w.heap.size 36 3 s (rs.flatMap refCs)->Ext No w w'->K s w'):C_tree_Mem_refs (some ⟨m.bm,0,none⟩) waits w K:=by
 apply S_tree_Mem_refs
 refine If.no ⟨_,rfl,some m.r,Cell.lst R.mem rfl,?_⟩
 apply S_maps_Keys_map_uint32_tree_page_uint32_tree_page
 refine NewW.mk fun bk w1 n1=>?_
 apply S_slices_Sorted_uint32
 apply S_slices_Collect_uint32
 refine appendKeysU_spec n1.get (R.map.ext n1.ext fun h=>h) (by rw [List.length_map]; omega) fun s ks w2 hks o2 x2=>?_
 have hks':ks.Perm (M.pages.map Prod.fst):=by simpa [MemV.vals,List.map_map,Function.comp_def] using hks
 have x02:Ext No w w2:=n1.ext.no x2
 have s1:=n1.size; have s2:=x2.size
 have hkl:ks.length=M.pages.length:=by have:=hks'.length_eq; rwa [List.length_map] at this
 refine sortFunc_specU o2 (by omega) fun L w3 hL o3 x3=>?_
 have x3':Ext (fun q=>s.blk=some q) w2 w3:=x3
 have slt:∀ q,s.blk=some q->w1.heap.size<=q/\q < w2.heap.size:=fun q hq=>o2.lt hq
 have x03:Ext No w w3:=x02.trans x3' fun q hq h=>by have:=slt q h; omega
 have hLp:L.Perm (M.pages.map Prod.fst):=hL.trans hks'
 have hLl:L.length=M.pages.length:=by have:=hLp.length_eq; rwa [List.length_map] at this
 have hsl:s.len=L.length:=by have:=o3.len; simp only [List.length_map,Nat.mul_one] at this; omega
 have s03:=x03.size
 refine ⟨fun q out tt w'=>∃ (j:Nat) (rs:List Rf),tt=j/\j<=L.length/\q=L.length - j/\rs=(L.take j).filterMap (refG M.pages waits)/\rs.length<=j/\Own w'.heap w.heap.size 36 3 out (rs.flatMap refCs)/\(∀ q,out.blk=some q->w3.heap.size<=q)/\Ext No w3 w',⟨L.length,0,[],rfl,by omega,by omega,by simp,by simp,Own.nil _ _ _ _,by simp [Sl.blk],Ext.refl _ _⟩,?_⟩
 rintro _ m0 out tt w4 ⟨j,rs,rfl,hj,hq,hrs,hrl,oo,ob,x34⟩
 have x04:=x03.no x34
 have R4:=R.no x04
 have o4:=o3.no x34
 have s34:=x34.size
 refine If.dec (fun h=>?_) fun h=>?_
 .have hjL:j < L.length:=by omega
  refine Ix.u32 o4 (by omega) (by simpa using hjL) fun bb _ hc=>?_
  simp only [Int.toNat_natCast] at hc
  have hin:L[j]∈M.pages.map Prod.fst:=hLp.mem_iff.1 (List.getElem_mem hjL)
  obtain ⟨p,hp,hpn⟩:=List.mem_map.1 hin
  have hpg:pgA L[j] M.pages=some p.2:=by rw [<- hpn]; exact pgA_of_mem R.nd hp
  have hlook:=mem_look R4 L[j]
  rw [hpg] at hlook
  have hP:=R4.find hpg
  have hg:refG M.pages waits L[j]=if p.2.waits == waits then some p.2.r else none:=by unfold refG; rw [hpg]; rfl
  have htk:(L.take (j+1)).filterMap (refG M.pages waits)=rs++(if p.2.waits == waits then [p.2.r] else []):=by
   rw [List.take_add_one,List.getElem?_eq_getElem hjL,Option.toList_some,List.filterMap_append,<- hrs,List.filterMap_cons,hg]
   cases p.2.waits == waits <;> rfl
  refine ⟨_,hc,_,rfl,some m.r,Cell.lst R4.mem rfl,_,w4,hlook,_,rfl,_,Cell.lst hP.blk rfl,If.cases (fun hw=>?_) fun hw=>?_⟩
  .rw [hw] at htk
   refine ⟨_,rfl,some m.r,Cell.lst R4.mem rfl,_,w4,hlook,_,rfl,_,Cell.lst hP.blk rfl,_,Cell.lst hP.blk rfl,_,Cell.lst hP.blk rfl,NewW.mk fun b w6 n6=>?_⟩
   have oo6:=oo.no n6.ext
   have hol:out.len=rs.length:=by have:=oo6.len; rw [flat_len' (refCs_len rs)] at this; omega
   have oy:Own w6.heap w4.heap.size 36 3 ⟨some ⟨b,0,none⟩,1,1⟩ (refCs p.2.r):=Own.new n6 rfl (by simp [refCs,oneC])
   have z6:=n6.size
   refine app_api_Ref oo6 (by omega) oy.rd.src (by show (out.len+1) * 24<=_; omega) fun s7 w7 o7 l7 x7 hbl=>Ar.i64 (by omega) ?_
   have x7':Ext (fun q=>out.blk=some q) w6 w7:=x7
   refine ⟨L.length - (j+1),by omega,j+1,rs++[p.2.r],by omega,by omega,rfl,by rw [htk]; rfl,by simp; omega,by rw [List.flatMap_append]; simpa using o7,fun q hq=>?_,(x34.no n6.ext).trans x7' fun q hq h=>by have:=ob q h; omega⟩
   rcases hbl with h3 | ⟨c',h3,h4⟩
   .rw [h3] at hq; exact ob q hq
   .rw [h3] at hq; cases hq; omega
  .rw [hw] at htk
   exact Ar.i64 (by omega) ⟨L.length - (j+1),by omega,j+1,rs,by omega,by omega,rfl,by rw [htk]; simp,by omega,oo,ob,x34⟩
 .have hjL:j=L.length:=by omega
  refine k out rs w4 ?_ oo x04
  rw [hrs,hjL,List.take_length,<- refG_all R.nd waits]
  exact hLp.filterMap _
theorem pages_spec{K:Sl->Wd->Prop}(R:MemR w.heap T m M)(hn:M.pages.length<=65535)
  (k:∀ s (rs:List Rf) w',rs.Perm (live M.pages)->Own w'.heap w.heap.size 36 3 s (rs.flatMap refCs)->Ext No w w'->K s w'):C_tree_Mem_Pages (some ⟨m.bm,0,none⟩) w K :=
 S_tree_Mem_Pages (refs_spec R hn fun s rs w' h1 h2 h3=>k s rs w' (refsM_live M ▸ h1) h2 h3)
end
end Go.Proofs.YtcamoanigdfihaaGreat
namespace Go.V
structure Lab where
 t:Int
 k:Int
 v:Int
 r:Rf
def Lab.cs(x:Lab):List Value:=[.int .u32 x.t, .int .u8 x.k, .int .u8 x.v, .int .u32 x.r.p, .int .u64 x.r.c, .int .u16 x.r.g]
theorem labCs_len(l:List Lab):∀ x∈l,(Lab.cs x).length=6:=fun _ _=>rfl
abbrev Lab.agg(x:Lab):Value := .agg ([.int .u32 x.t, .int .u8 x.k, .int .u8 x.v, .int .u32 x.r.p, .int .u64 x.r.c, .int .u16 x.r.g]).toArray
end Go.V
namespace Go.Proofs.YtcamoanigdfihaaGreat
open Go.V
section
variable {w:Wd} {T:Nat->Option Nat} {m:MemV} {M:Mm}
end
end Go.Proofs.YtcamoanigdfihaaGreat
namespace Go.V
abbrev scrubM(M:Mm):Mm:={ M with pages:=M.pages.filter fun p=>!p.2.waits }
abbrev beginM(M:Mm)(c g:Int):Mm:={ M with commit:=c,gen:=g }
section
variable {α:Type} [DecidableEq α] {P:Program} {w:Wd} {mt kt et:TypeId} {enc:α->Value} {r:Nat} {m:List (α×Value)} {a:α}
theorem run_delete_at(K:KeyOK P kt enc)(ht:P.underlying mt=some (.map kt et)){t:TypeId}{es:Array MapEntry}{clock:Nat}(hb:w.heap[r]? = some (.map es clock))(he:es.toList.map (fun e=>(e.key,e.val))=m.map (fun p=>(enc p.1,p.2))) :
  ∃ w' es',(Builtin.delete_ #[mt,kt] t #[.map (some r),enc a]).run P w = .ok (.tuple #[]) w'/\w'.heap[r]? = some (.map es' clock)/\es'.toList.map (fun e=>(e.key,e.val))=(delA a m).map (fun p=>(enc p.1,p.2))/\es'.toList.Sublist es.toList/\Ext (·=r) w w'/\w'.heap.size=w.heap.size:=by
 have hf:=K.fk a es.toList m w he
 cases hfa:findA a m 0 with
 | none =>
  refine ⟨World.setBlk w r (.map es clock),es,?_,heap_setBlk hb,?_,List.Sublist.refl _,Wrt.ext rfl,Wrt.size rfl⟩
  .rw [hfa] at hf
   simp [Builtin.delete_,run_und ht,run_getMap hb,K.ck,hf,run_setMap _ hb]
  .rw [(findA_none (v := .nilFunc) hfa).2]; exact he
 | some p =>
  obtain ⟨j,u⟩:=p
  obtain ⟨_,h2,_,h4,_⟩:=findA_some (v := .nilFunc) hfa
  simp only [Nat.sub_zero] at h2 h4
  refine ⟨World.setBlk w r (.map (es.eraseIdxIfInBounds j) clock),es.eraseIdxIfInBounds j,?_,heap_setBlk hb,?_,by rw [Array.toList_eraseIdxIfInBounds]; exact List.eraseIdx_sublist _ _,Wrt.ext rfl,Wrt.size rfl⟩
  .rw [hfa] at hf
   simp [Builtin.delete_,run_und ht,run_getMap hb,K.ck,hf,run_setMap _ hb]
  .rw [h4,Array.toList_eraseIdxIfInBounds,map_eraseIdx',he,map_eraseIdx']
end
theorem delP_filter{n:Int}{p:Pg}:∀{l:List (Int×Pg)},pgA n l=some p->p.waits=true->(delP n l).filter (fun p=>!p.2.waits)=l.filter fun p=>!p.2.waits
 | [],h,_=>by cases h
 | q::l,h,hw=>by
  unfold pgA at h
  unfold delP
  split at h
  .rename_i h1
   cases h
   rw [if_pos h1,List.filter_cons,hw]; rfl
  .rename_i h1
   rw [if_neg h1,List.filter_cons,List.filter_cons,delP_filter h hw]
end Go.V
namespace Go.Proofs.YtcamoanigdfihaaGreat
open Go.V
section
variable {w:Wd} {T:Nat->Option Nat} {m:MemV} {M:Mm}
theorem memBegin_spec{c g:Int}{K:Int->Wd->Prop}(R:MemR w.heap T m M)(hc:0<=c/\c<=18446744073709551615)(hg:0<=g/\g<=65535)(k2:c<=M.commit->K 2 w)
  (k:∀ w',M.commit < c->MemR w'.heap T m (beginM M c g)->Ext (Ts T) w w'->K 0 w'):C_tree_Mem_Begin (some ⟨m.bm,0,none⟩) c g w K:=by
 apply S_tree_Mem_Begin
 refine If.no (Nn.mk ⟨_,Cell.lst R.mem rfl,If.dec (fun h=>k2 h) fun h=>Nn.mk (St1.mk R.mem (by show 1 < 3; decide) rfl fun w1 h1=>Nn.mk ?_)⟩)
 have g1:w1.heap[m.bm]? = some (.cells [.map (some m.r), .int .u64 c, .int .u16 M.gen].toArray 136 (0,0)):=h1.get R.mem
 refine St1.mk g1 (by show 2 < 3; decide) rfl fun w2 h2=>?_
 have g2:w2.heap[m.bm]? = some (.cells [.map (some m.r), .int .u64 c, .int .u16 g].toArray 136 (0,0)):=h2.get g1
 have x2:Ext (·=m.bm) w w2:=(h1.ext).trans h2.ext fun _ _ h=>h
 have nS:∀{q t},T q=some t->t≠0->¬ (q=m.bm):=fun h ht h'=>by rw [h',R.tm] at h; cases h; exact ht rfl
 refine k w2 (by omega) ⟨g2,R.map.ext x2 (nS R.tr (by decide)),fun p hp=>(R.pg p hp).ext x2 (nS (R.pg p hp).tb (by omega)) (fun b h=>nS ((R.pg p hp).ts b h) (by omega)),R.nd,R.lo,R.tm,R.tr,fun q h=>Nat.lt_of_lt_of_le (R.sup q h) x2.size,hc,hg,fun p hp=>?_⟩ (x2.mono fun q _ h=>by rw [h]; show T m.bm≠none; rw [R.tm]; simp)
 have:=R.cm p hp
 show p.2.r.c<=c
 omega
set_option maxHeartbeats 1000000 in
theorem memScrub_spec{K:Int->Wd->Prop}(R:MemR w.heap T m M)(k:∀ w',MemR w'.heap T m (scrubM M)->Ext (Ts T) w w'->K 0 w'):C_tree_Mem_Scrub (some ⟨m.bm,0,none⟩) w K:=by
 apply S_tree_Mem_Scrub
 refine If.no (Nn.mk ⟨_,Cell.lst R.mem rfl,?_⟩)
 apply S_maps_DeleteFunc_map_uint32_tree_page_uint32_tree_page
 obtain ⟨kt,et,ht⟩:=map134
 obtain ⟨es,clock,hr,he,hB⟩:=R.map
 obtain ⟨w1,hrun,hnew⟩:=run_range (P:=pz) ht hr
 have hn1:=hnew.size
 have hsup:T w.heap.size=none:=R.supT (Nat.le_refl _)
 refine ⟨some ⟨w.heap.size,0,none⟩,w1,hrun,?_⟩
 refine ⟨fun q w'=>∃ (es':Array MapEntry) (seen:List Nat) (pg:List (Int×Pg)),q=es.toList.length - seen.length/\w'.heap[w.heap.size]? = some (.mapIter (some m.r) clock seen.toArray clock)/\w'.heap[m.r]? = some (.map es' clock)/\es'.toList.map (fun e=>(e.key,e.val))=(m.vals pg).map (fun p=>(Value.int .u32 p.1,p.2))/\es'.toList.Sublist es.toList /\
   (∀ b∈seen,b∈es.toList.map (·.born))/\seen.Nodup/\pg.Sublist M.pages/\pg.filter (fun p=>!p.2.waits)=M.pages.filter (fun p=>!p.2.waits)/\(∀ e∈es'.toList,e.born∈seen->∀ p∈pg,e.key = .int .u32 p.1->p.2.waits=false)/\MemR w'.heap T m { M with pages:=pg }/\Ext (fun q=>q=m.r∨q=w.heap.size) w w',
  ⟨_,es,[],M.pages,rfl,hnew.get,get_no hr hnew.ext,he,List.Sublist.refl _,by simp,by simp,List.Sublist.refl _,rfl,by simp,R.no hnew.ext,hnew.ext.of_no⟩,?_⟩
 rintro _ m0 w2 ⟨es',seen,pg,hq,hi,hr2,he2,hsub,hsn,hnd,hpg,hfl,hse,R2,x2⟩
 have hB2:BornOK es'.toList clock:=hB.sub hsub
 have hlt:m.r < w.heap.size:=R.sup _ (by rw [R.tr]; simp)
 rcases run_next (P:=pz) hi hr2 hB2 with ⟨hall,w',hrun',hx⟩ | ⟨e,hem,hes',w',hrun',hi',hx⟩
 .refine .inl ⟨w',hrun',?_⟩
  have hpw:∀ p∈pg,p.2.waits=false:=fun p hp=>by
   have:(Value.int .u32 p.1,Value.pointer (some ⟨m.bl p.1,0,none⟩))∈(m.vals pg).map (fun p=>(Value.int .u32 p.1,p.2)):=List.mem_map.2 ⟨_,List.mem_map.2 ⟨p,hp,rfl⟩,rfl⟩
   rw [<- he2] at this
   obtain ⟨e,he,h⟩:=List.mem_map.1 this
   exact hse e he (hall e he) p hp (congrArg Prod.fst h)
  have hpe:pg=M.pages.filter fun p=>!p.2.waits:=by
   rw [<- hfl,List.filter_eq_self.2 fun p hp=>by rw [hpw p hp]; rfl]
  have R2':=R2.no hx
  rw [hpe] at R2'
  refine k w' R2' ((x2.no hx).mono fun q hq h=>?_)
  rcases h with h | h
  .rw [h]; show T m.r≠none; rw [R.tr]; simp
  .omega
 .have z2:=x2.size
  have hr3:w'.heap[m.r]? = some (.map es' clock):=get_ext hr2 hx (by omega)
  have hkv:(e.key,e.val)∈(m.vals pg).map (fun p=>(Value.int .u32 p.1,p.2)):=by
   rw [<- he2]; exact List.mem_map.2 ⟨e,hem,rfl⟩
  obtain ⟨v,hv,hkv⟩:=List.mem_map.1 hkv
  obtain ⟨p,hp,rfl⟩:=List.mem_map.1 hv
  have hkey:e.key = .int .u32 p.1:=(congrArg Prod.fst hkv).symm
  have hval:e.val = .pointer (some ⟨m.bl p.1,0,none⟩):=(congrArg Prod.snd hkv).symm
  have hsz:seen.length < es.toList.length:=by
   have hbe:e.born∈es.toList.map (·.born):=List.mem_map.2 ⟨e,hsub.subset hem,rfl⟩
   have h1:(e.born::seen).Nodup:=List.nodup_cons.2 ⟨fun h=>hes' (by simpa using h),hnd⟩
   have:=List.Nodup.length_le_of_subset h1 (l₂:=es.toList.map (·.born)) fun x hx=>by
    rcases List.mem_cons.1 hx with h | h
    .rw [h]; exact hbe
    .exact hsn x h
   simp only [List.length_cons,List.length_map] at this; omega
  refine .inr ⟨e.key,e.val,w',hrun',e.key,e.val,w',run_entry hi' hr3 hB2 hem,?_⟩
  rw [hkey,hval]
  have R3:MemR w'.heap T m { M with pages:=pg }:=R2.ext hx fun q hq=>by rw [hq]; exact hsup
  have P3:=R3.pg p hp
  have x3:Ext (fun q=>q=m.r∨q=w.heap.size) w w':=x2.trans hx fun q hq h => .inr h
  have hsn':∀ b∈seen++[e.born],b∈es.toList.map (·.born):=fun b hb=>by
   rcases List.mem_append.1 hb with h | h
   .exact hsn b h
   .rw [List.mem_singleton] at h; rw [h]; exact List.mem_map.2 ⟨e,hsub.subset hem,rfl⟩
  have hnd':(seen++[e.born]).Nodup:=List.nodup_append.2 ⟨hnd,by simp,fun a ha b hb hab=>by
   rw [List.mem_singleton] at hb
   exact hes' (by rw [<- hb,<- hab]; simpa using ha)⟩
  have ndp:(pg.map Prod.fst).Nodup:=R2.nd
  have hpa:pgA p.1 pg=some p.2:=pgA_of_mem ndp hp
  refine V_tree_Mem_Scrub_1 (S_tree_Mem_Scrub_1 (Nn.mk ⟨_,Cell.lst P3.blk rfl,If.cases (fun hw=>?_) fun hw=>?_⟩))
  .obtain ⟨w4,es4,hdel,g4,he4,hs4,x4,z4⟩:=run_delete_at (a:=p.1) (mt:=134) (et:=187) (t:=0) u32_key (by kernel_rfl) hr3 he2
   rw [delA_vals] at he4
   refine ⟨w4,hdel,es.toList.length - (seen++[e.born]).length,by simp only [List.length_append,List.length_cons,List.length_nil]; omega,es4,seen++[e.born],delP p.1 pg,rfl,?_,g4,he4,hs4.trans hsub,hsn',hnd',(delP_sub _ _).trans hpg,by rw [delP_filter hpa hw,hfl],fun e' he' hb' q hq hkq=>?_,?_,x3.trans x4 fun q hq h => .inl h⟩
   .rw [get_ext hi' x4 (by omega)]; simp
   .have hq':=(delP_sub _ _).subset hq
    rcases List.mem_append.1 hb' with h | h
    .exact hse e' (hs4.subset he') h q hq' hkq
    .rw [List.mem_singleton] at h
     have hee:e'=e:=born_inj hB2.1 (hs4.subset he') hem h
     rw [hee,hkey] at hkq
     have hqp:q.1=p.1:=(Value.int.inj hkq).2.symm
     exfalso
     have:∀{l:List (Int×Pg)}{n:Int},(l.map Prod.fst).Nodup->n ∉ (delP n l).map Prod.fst:=fun {l n} hl=>by
      induction l with
      | nil=>simp [delP]
      | cons x l ih =>
       simp only [List.map_cons,List.nodup_cons] at hl
       unfold delP
       split
       .rename_i hx; rw [hx]; exact hl.1
       .rename_i hx
        simp only [List.map_cons,List.mem_cons,not_or]
        exact ⟨hx,ih hl.2⟩
     exact this ndp (List.mem_map.2 ⟨q,hq,hqp⟩)
   .have nS:∀{q t},T q=some t->t≠1->¬ (q=m.r):=fun h ht h'=>by rw [h',R.tr] at h; cases h; exact ht rfl
    refine ⟨get_ext R3.mem x4 (nS R.tm (by decide)),⟨es4,clock,g4,he4,hB2.sub hs4⟩,fun q hq=>?_,?_,fun q hq=>R3.lo q ((delP_sub _ _).subset hq),R.tm,R.tr,fun q h=>Nat.lt_of_lt_of_le (R3.sup q h) x4.size,R.co,R.go,fun q hq=>R3.cm q ((delP_sub _ _).subset hq)⟩
    .have:=R3.pg q ((delP_sub _ _).subset hq)
     exact this.ext x4 (nS this.tb (by omega)) (fun c hc=>nS (this.ts c hc) (by omega))
    .exact R3.nd.sublist ((delP_sub _ _).map _)
  .refine ⟨es.toList.length - (seen++[e.born]).length,by simp only [List.length_append,List.length_cons,List.length_nil]; omega,es',seen++[e.born],pg,rfl,by rw [hi']; simp,hr3,he2,hsub,hsn',hnd',hpg,hfl,fun e' he' hb' q hq hkq=>?_,R3,x3⟩
   rcases List.mem_append.1 hb' with h | h
   .exact hse e' he' h q hq hkq
   .rw [List.mem_singleton] at h
    have hee:e'=e:=born_inj hB2.1 he' hem h
    rw [hee,hkey] at hkq
    have hqp:q.1=p.1:=(Value.int.inj hkq).2.symm
    have h2:pgA q.1 pg=some q.2:=pgA_of_mem ndp hq
    rw [hqp,hpa] at h2
    rw [<- Option.some.inj h2]; exact hw
end
section
variable {w:Wd} {T:Nat->Option Nat} {m:MemV} {M:Mm}
theorem conv40{b n c:Nat}{cs:Array Value}{t:TypeId}{fz:Nat×Nat}(hb:w.heap[b]? = some (.cells cs t fz)):∃ w',Sem.run pz (convert 40 40 (.slice (some ⟨b,0,none⟩) n c)) w = .ok (.slice (some ⟨b,0,none⟩) n c) w'/\Ext (·=b) w w'/\w'.heap.size=w.heap.size/\∃ fz',w'.heap[b]? = some (.cells cs t fz'):=by
 have h40:Tryz.prog.underlying 40=some (.slice 5):=by kernel_rfl
 have h5:Tryz.prog.underlying 5=some (.int .u8):=by kernel_rfl
 have hsh:w.shape? b=some (t,cs.size):=by simp [World.shape?,hb]
 refine ⟨w.freeze { block:=b,off:=cs.size } 1,?_,⟨rfl,rfl,rfl,?_,fun i hi hne=>?_⟩,?_,?_⟩
 .simp [convert,run_und h40,run_und h5,markStringish,shape,Sem.run,hsh,freeze]
 .simp [World.freeze]
 .have hne':¬ b=i:=fun e=>hne e.symm
  simp [World.freeze,Array.getElem?_modify,hne']
 .simp [World.freeze]
 .obtain ⟨lo,hi⟩:=fz
  simp [World.freeze,Array.getElem?_modify,hb]
end
end Go.Proofs.YtcamoanigdfihaaGreat
namespace Go.V
end Go.V
namespace Go.Proofs.YtcamoanigdfihaaGreat
open Go.V
section
variable {w:Wd} {T:Nat->Option Nat} {m:MemV} {M:Mm}
end
end Go.Proofs.YtcamoanigdfihaaGreat
namespace Go.V
section
variable {f:Pages} {t:Int}
theorem KidsP.fewer{Q:Rf->List KV->List Rf->Prop}(hQ:∀ r kv p,Q r kv p->kv≠[]){l:List Ent}{kvs:List KV}{ps:List Rf}(h:KidsP Q l kvs ps):l.length<=kvs.length:=by
 induction h with
 | nil=>simp
 | cons h lo hi r ih=>have:=List.length_pos_iff.2 (hQ _ _ _ h); simp only [List.length_cons,List.length_append]; omega
theorem one_page{lev:Nat}{r:Rf}{x:KV}{ps:List Rf}(h:SubT f t lev r [x] ps)(hv:x.2.length<=64):ps=[r]:=by
 cases lev with
 | zero =>
  obtain ⟨l,ps',hN,_,hL,rfl⟩:=h
  cases hL with
  | @cons e _ _ _ p _ he hr =>
   cases hr
   have h2:=he.2
   have h3:RightP 1 0 [e]:=hN.right
   have h4:=(h3.lef.ent e (by simp)).2
   rw [if_neg (by decide)] at h4
   split at h2
   .rw [h2.2]; rfl
   .rename_i h0
    rw [if_neg h0] at h4
    have h5:=h4.2.1; have h6:=h2.1; omega
 | succ lev =>
  obtain ⟨l,ps',_,h2,hk,_⟩:=h
  have:=KidsP.fewer (fun r kv p h=>SubT.ne h) hk
  simp at this; omega
end
end Go.V
namespace Go.Proofs.YtcamoanigdfihaaGreat
open Go.V
section
variable {w:Wd} {T:Nat->Option Nat} {m:MemV} {M:Mm}
theorem lit1{c:Int}{K:Sl->Wd->Prop}(k:∀ b w',RdB w'.heap ⟨some ⟨b,0,none⟩,1,1⟩ [c]->w.heap.size<=b->b < w'.heap.size->Ext No w w'->K ⟨some ⟨b,0,none⟩,1,1⟩ w') :
  NewW w (.cells [.int .u8 c].toArray 5) fun b w2=>∃ r:Sl,∃ w3,Sem.run pz (convert 40 40 (.slice (some (Addr.mk b 0 none)) 1 1)) w2 = .ok (.slice r.a r.len r.cap) w3/\K r w3:=by
 refine NewW.mk fun b w2 n2=>?_
 obtain ⟨w3,h1,x3,z3,fz,g3⟩:=conv40 (n:=1) (c:=1) n2.get
 have hb:=n2.at_; have z2:=n2.size
 refine ⟨⟨some ⟨b,0,none⟩,1,1⟩,w3,h1,k b w3 ⟨rfl,by simp,fun _=>⟨b,0,rfl,fun i hi=>?_⟩,by simp [oneC]⟩ (by omega) (by omega) (n2.ext.trans x3 fun q hq h=>by omega)⟩
 unfold hcell; rw [g3]
 simp only [List.map_cons,List.map_nil,List.length_cons,List.length_nil] at hi
 have:i=0:=by omega
 subst this; rfl
theorem known15{K:Bool->Wd->Prop}(k:∀ w',Ext No w w'->K true w'):C_law15_known w K:=by
 apply S_law15_known
 refine newMem_spec (by omega) fun T m w1 R1 hT x1=>lit1 fun c1 w2 r1 hc1 hl1 x2=>lit1 fun c2 w3 r2 hc2 hl2 x3=>lit1 fun c3 w4 r3 hc3 hl3 x4=>lit1 fun c4 w5 r4 hc4 hl4 x5=>lit1 fun c5 w6 r5 hc5 hl5 x6=>NewW.mk fun b5 w12 n12=>?_
 have sup:∀ q,w1.heap.size<=q->T q=none:=fun q hq=>R1.supT hq
 have s2:=x2.size; have s3:=x3.size; have s4:=x4.size; have s5:=x5.size; have s6:=x6.size; have z12:=n12.size
 have x612:=n12.ext
 have R12:=R1.no (((((x2.no x3).no x4).no x5).no x6).no x612)
 have x112:Ext No w1 w12:=((((x2.no x3).no x4).no x5).no x6).no x612
 generalize hxs:([⟨⟨some ⟨c1,0,none⟩,1,1⟩,⟨some ⟨c2,0,none⟩,1,1⟩,false,[97],[49]⟩,⟨⟨some ⟨c3,0,none⟩,1,1⟩,⟨some ⟨c4,0,none⟩,1,1⟩,false,[98],[50]⟩,⟨⟨some ⟨c5,0,none⟩,1,1⟩,⟨none,0,0⟩,true,[97],[]⟩]:List OpV)=xs
 have hops:Rd w12.heap ⟨some ⟨b5,0,none⟩,3,3⟩ 3 (xs.flatMap OpV.cs):=by
  rw [<- hxs]; exact (Own.new n12 rfl (by simp [oneC])).rd
 have hlen:xs.length=3:=by rw [<- hxs]; rfl
 have hx:∀ x∈xs,OpR w12.heap T x:=fun x hx=>by
  rw [<- hxs] at hx
  simp only [List.mem_cons,List.not_mem_nil,or_false] at hx
  have b8:∀ c:Int,0<=c->c<=255->B8 [c]:=fun c h1 h2=>by intro y hy; rw [List.mem_singleton] at hy; subst hy; omega
  have bl:∀{c:Nat},w1.heap.size<=c->c < w12.heap.size->∀ q,(⟨some ⟨c,0,none⟩,1,1⟩ : Sl).blk=some q->T q=none/\q < w12.heap.size:=fun {c} h1 h2 q hq=>by
   simp [Sl.blk] at hq; subst hq; exact ⟨sup _ h1,h2⟩
  rcases hx with h | h | h <;> subst h
  .exact ⟨Rd.no r1 ((((x3.no x4).no x5).no x6).no x612),Rd.no r2 (((x4.no x5).no x6).no x612),b8 _ (by decide) (by decide),b8 _ (by decide) (by decide),fun _=>bl (by omega) (by omega),fun _=>bl (by omega) (by omega)⟩
  .exact ⟨Rd.no r3 ((x5.no x6).no x612),Rd.no r4 (x6.no x612),b8 _ (by decide) (by decide),b8 _ (by decide) (by decide),fun _=>bl (by omega) (by omega),fun _=>bl (by omega) (by omega)⟩
  .exact ⟨Rd.no r5 x612,Rd.nil _ _,b8 _ (by decide) (by decide),B8.nil,fun _=>bl (by omega) (by omega),fun _ q hq=>by simp [Sl.blk] at hq⟩
 have hkv:opsL xs []=[([98],[50])]:=by
  rw [<- hxs]; show kvOp [97] none (kvOp [98] (some [50]) (kvOp [97] (some [49]) []))=_; decide
 refine apply_spec (t:=7) (lev:=0) (r := .z) (kvs:=[]) (ps:=[]) R12 (.inl ⟨rfl,rfl,rfl,rfl⟩) (by omega) (fun q=>by simp) hops hx (by omega) (by simp) (fun w' hb _=>?_) fun r' lv' ps' T' m' M' w13 _ A=>?_
 .exfalso
  obtain ⟨x,hx',hf⟩:=hb
  rw [<- hxs] at hx'
  simp only [List.mem_cons,List.not_mem_nil,or_false] at hx'
  rcases hx' with h | h | h <;> subst h <;> exact hf (by simp [OpV.fit])
 obtain ⟨R13,hbm,tg,x13,tr,hlv,cg⟩:=A
 rw [hkv] at tr
 have x13':Ext No w w13:=(x1.no x112).of_no.trans x13 fun q hq h=>h (hT q hq)
 refine new_set rfl rfl (by simp [oneC]) fun b6 w15 g15 hb6 z15 x15=>⟨_,Cell.lst g15 rfl,_,Cell.lst g15 rfl,_,Cell.lst g15 rfl,_,Cell.lst g15 rfl,?_⟩
 refine lit1 fun c6 w17 r6 _ _ x17=>?_
 have b8:∀ c:Int,0<=c->c<=255->B8 [c]:=fun c h1 h2=>by intro y hy; rw [List.mem_singleton] at hy; subst hy; omega
 have hsrc:(Value.iface 24 (.pointer (some ⟨m.bm,0,none⟩)))=srcV m':=(srcV_eq hbm).symm
 have ng1:kvGet [(([98]:List Int),([50]:List Int))] [98]=some [50]:=by decide
 have ng2:kvGet [(([98]:List Int),([50]:List Int))] [97]=none:=by decide
 have x1317:Ext No w13 w17:=x15.no x17
 rw [hsrc]
 refine treeGet_spec (R13.no x1317) tr (by omega) r6 (b8 _ (by decide) (by decide)) (fun w' h _=>by simp at h) (fun w' _ _ h _=>by rw [ng1] at h; cases h) fun v s w18 _ _ hv o18 x18=>?_
 rw [ng1] at hv
 cases hv
 have g18:=get_no (get_no g15 x17) x18
 refine ⟨_,Cell.lst g18 rfl,_,Cell.lst g18 rfl,_,Cell.lst g18 rfl,_,Cell.lst g18 rfl,lit1 fun c7 w20 r7 _ _ x20=>?_⟩
 have x1320:=(x1317.no x18).no x20
 refine treeGet_spec (R13.no x1320) tr (by omega) r7 (b8 _ (by decide) (by decide)) (fun w' h _=>by simp at h) (fun w21 _ _ _ x21=>?_) (fun v s' w21 _ _ h _ _=>by rw [ng2] at h; cases h)
 refine If.beq (fun _=>If.beq (fun _=>If.beq (fun _=>?_) fun h=>(h rfl).elim) fun h=>(h rfl).elim) fun h=>(h rfl).elim
 refine StrC.mk ((o18.no x20).no x21).rd (fun bb o v hv=>by show w21.cell? _=_; rw [cell_eq]; exact hv) ?_
 have e1:ByteArray.toList ⟨(toB [50]).toArray⟩=[50]:=by rw [toList_mk]; rfl
 have e2:ByteArray.toList (⟨#[50]⟩ : ByteArray)=[50]:=e1
 rw [e1,e2]
 refine If.yes ?_
 have x1321:=x1320.no x21
 have hps:ps'=[r']:=by
  rcases tr with ⟨_,_,h,_⟩ | ⟨_,_,h⟩
  .cases h
  .exact one_page h (by decide)
 have hlive:∀ q,(live M'.pages).count q=([r']:List Rf).count q:=fun q=>by
  have:=cg.cnt q
  rw [hps] at this
  have h0:live ([]:List (Int×Pg))=[]:=rfl
  simp only [h0,List.count_nil] at this ⊢; omega
 have hll:(live M'.pages).length=1:=by
  have h1:=count_len (a:=live M'.pages) (b:=[r']) fun q=>by rw [hlive q]; exact Nat.le_refl _
  have h2:=count_len (a:=[r']) (b:=live M'.pages) fun q=>by rw [hlive q]; exact Nat.le_refl _
  simp at h1 h2; omega
 rw [<- hbm]
 refine pages_spec (R13.no x1321) (by have:=cg.len; rw [hlen] at this; simp at this; omega) fun s8 rs w22 hrs o22 x22=>?_
 have hlr:s8.len=1:=by
  have h1:=o22.len
  rw [flat_len' (refCs_len rs)] at h1
  have:=hrs.length_eq; omega
 rw [hlr]
 exact k w22 ((x13'.no x1321).no x22)
end
end Go.Proofs.YtcamoanigdfihaaGreat
namespace Go.V
end Go.V
namespace Go.Proofs.YtcamoanigdfihaaGreat
open Go.V
section
variable {w:Wd} {T:Nat->Option Nat} {m:MemV} {M:Mm}
end
section
variable {w:Wd} {T:Nat->Option Nat} {m:MemV} {M:Mm}
theorem Rd.pre{h:Array Obj}{s:Sl}{n:Nat}{α:Type}{f:α->List Value}{l:List α}(r:Rd h s n (l.flatMap f))(hf:∀ x∈l,(f x).length=n)(hl:s.len=l.length){lo hi:Nat}(h1:lo<=hi)(h2:hi<=l.length):Rd h ⟨cutA s.a s.cap lo n,hi - lo,s.cap - lo⟩ n (((l.drop lo).take (hi - lo)).flatMap f):=by
 have rc:=r.cut (lo:=lo) (hi:=hi) (mx:=s.cap) h1 (by omega) (by have:=r.cap; omega)
 have e:((l.flatMap f).drop (lo * n)).take ((hi - lo) * n)=((l.drop lo).take (hi - lo)).flatMap f:=by
  have hd:(l.flatMap f).drop (lo * n)=(l.drop lo).flatMap f:=by
   conv=>lhs; rw [<- List.take_append_drop lo l]
   rw [List.flatMap_append,List.drop_append]
   have hl3:((l.take lo).flatMap f).length=lo * n:=by rw [flat_len' fun x hx=>hf x (List.mem_of_mem_take hx),List.length_take,Nat.min_eq_left (by omega)]
   rw [hl3,List.drop_eq_nil_of_le (by omega),Nat.sub_self,List.drop_zero,List.nil_append]
  rw [hd]
  conv=>lhs; rw [<- List.take_append_drop (hi - lo) (l.drop lo)]
  rw [List.flatMap_append,List.take_append]
  have hl3:(((l.drop lo).take (hi - lo)).flatMap f).length=(hi - lo) * n:=by rw [flat_len' fun x hx=>hf x (List.mem_of_mem_drop (List.mem_of_mem_take hx)),List.length_take,List.length_drop,Nat.min_eq_left (by omega)]
  rw [hl3,Nat.sub_self,List.take_zero,List.append_nil,List.take_of_length_le (by omega)]
 rw [e] at rc; exact rc
theorem Cut.pre{h:Array Obj}{s:Sl}{n:Nat}{α:Type}{f:α->List Value}{l:List α}{lo hi mx:Int}{K:Sl->Prop}(r:Rd h s n (l.flatMap f))(hf:∀ x∈l,(f x).length=n)(hl:s.len=l.length)(h0:0<=lo)(h1:lo<=hi)(h2:hi<=(l.length:Int))(hm:mx=s.cap)
  (k:∀ s':Sl,Rd h s' n (((l.drop lo.toNat).take (hi.toNat - lo.toNat)).flatMap f)->s'.len=hi.toNat - lo.toNat->K s'):Cut s lo hi mx n K:=by
 have rc:=Rd.pre r hf hl (lo:=lo.toNat) (hi:=hi.toNat) (by omega) (by omega)
 have hc:=r.cap
 subst hm
 refine Cut.mk h0 h1 (by omega) (Int.le_refl _) ?_
 have e1:(hi - lo).toNat=hi.toNat - lo.toNat:=by omega
 have e2:((s.cap:Int) - lo).toNat=s.cap - lo.toNat:=by omega
 rw [e1,e2,Int.toNat_natCast]
 exact k _ rc rfl
end
end Go.Proofs.YtcamoanigdfihaaGreat
