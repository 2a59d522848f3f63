/- Texts for LWitnessNone, part 14. -/
import Derived.RangeFuncRecord
import Derived.RangeFuncLeaves
import Derived.Test.YtmbckodpbdlblaaGreatQw13
namespace Go.V
def RfSt(l:Nat)(rf:Loop)(st:LoopState)(p:Option Code)(w:Wd):Prop:=w.heap[l]? = some (.loop { rf with state:=st,pending:=p })
def rfPut(l:Nat)(rf:Loop)(st:LoopState)(p:Option Code)(w:Wd):Wd:=w.putObj l (.loop { rf with state:=st,pending:=p })
structure RfNew(w:Wd)(rf:Loop)(Dk l:Nat)(w1:Wd):Prop where
 d:Dk=w.heap.size
 l:l=w.heap.size+1
 is:w1=(World.pushBlk (World.pushBlk w (.deferred (some []))) (.loop { rf with state := .ready,pending:=none }))
def DefSt(Dk:Nat)(w:Wd):Prop:=w.heap[Dk]? = some (.deferred (some []))
def defShut(Dk:Nat)(w:Wd):Wd:=w.putObj Dk (.deferred none)
def jumpC:Option Nat->Code
 | none => .ret
 | some i => .exit i
def jumpX:Option Nat->Exit
 | none => .ret
 | some i => .exit i
def eqJ:Option Nat->Option Nat->Bool
 | none,none=>true
 | some i,some j=>Nat.beq i j
 | _,_=>false
def hasJ:List (Option Nat)->Option Nat->Bool
 | [],_=>false
 | j::r,i=>bif eqJ j i then true else hasJ r i
def jumpE(l:Nat)(rf:Loop)(js:List (Option Nat))(K':Bool->Wd->Prop)(j:Option Nat)(w:Wd):Prop :=
 bif hasJ js j then RfSt l rf .busy none w/\K' false (rfPut l rf .done (some (jumpC j)) w) else False
def roundE(l:Nat)(rf:Loop)(js:List (Option Nat))(K':Bool->Wd->Prop):Exit->Env->Wd->Prop
 | .normal,_,w=>RfSt l rf .busy none w/\K' true (rfPut l rf .ready none w)
 | .ret,_,w=>jumpE l rf js K' none w
 | .exit i,_,w=>jumpE l rf js K' (some i) w
 | _,_,_=>False
def noE:Exit->Env->Wd->Prop:=fun _ _ _=>False
def rfEnd(l:Nat)(rf:Loop)(Q:Exit->Env->Wd->Prop)(ρ:Env)(w3:Wd):List (Option Nat)->Prop
 | []=>RfSt l rf .ready none w3/\Q .normal ρ (rfPut l rf .exhausted none w3)
 | j::r=>(RfSt l rf .done (some (jumpC j)) w3/\Q (jumpX j) ρ (rfPut l rf .exhausted (some (jumpC j)) w3))∨rfEnd l rf Q ρ w3 r
def allS:List Seg->(List Value->Prop)->Prop
 | [],F=>F []
 | .one s::r,F=>∀ x:s.T,allS r fun vs=>F (s.mk x::vs)
 | .row k n::r,F=>∀ l:List Int,l.length=n->allS r fun vs=>F (l.map (Value.int k)++vs)
def allTy:Ty->(Value->Prop)->Prop
 | .one s,F=>∀ x:s.T,F (s.mk x)
 | .agg l,F=>allS l fun vs=>F (.agg vs.toArray)
 | .bad,F=>∀ v,F v
theorem allS_of:∀(l:List Seg){F:List Value->Prop},(∀ vs,F vs)->allS l F
 | [],_,h=>h []
 | .one _::r,_,h=>fun _=>allS_of r fun _=>h _
 | .row _ _::r,_,h=>fun _ _=>allS_of r fun _=>h _
theorem allTy_of:∀(y:Ty){F:Value->Prop},(∀ v,F v)->allTy y F
 | .one _,_,h=>fun _=>h _
 | .agg l,_,h=>allS_of l fun _=>h _
 | .bad,_,h=>h
def rndA:List (Nat×Ty)->Env->(List Value->Env->Prop)->Prop
 | [],ρ,F=>F [] ρ
 | (t,y)::r,ρ,F=>allTy y fun v=>rndA r (put ρ t v) (fun vs ρ'=>F (v::vs) ρ')
structure RfA where
 psh:List (Nat×Ty)
 js:List (Option Nat)
 annA:Ann
 annB:Ann
def rfW(P:Program)(pk:Nat)(A:RfA)(g:Operand)(ars bd:Code)(Q:Nat->Exit->Env->Wd->Prop)(ρ:Env)(w:Wd):Prop :=
 ∀(rf:Loop)(Dk l:Nat)(w1:Wd),RfNew w rf Dk l w1 ->
  (rndA A.psh ρ fun args ρ'=>∀(W:Wd)(K':Bool->Wd->Prop),RfSt l rf .ready none W->wpc P pk (fun _ _=>False) A.annA ars (thenE (fun ρ2 W2=>RfSt l rf .ready none W2/\wpc P pk (fun _ _=>False) A.annB bd (roundE l rf A.js K') ρ2 (rfPut l rf .busy none W2)) noE) ρ' W ->
   dynV P true (.func (.yield l) #[] #[]) args [.one .bool] K' (fun _ _=>False) W) ->
  dynV P false (ev ρ g) [.func (.yield l) #[] #[]] [] (fun w3=>rfEnd l rf (Q Dk) ρ w3 A.js) (fun _ _=>False) w1
inductive Sp where
 | next (a:Ann) (s:Sp)
 | here (r:Ann) (A:RfA) (p:Ann)
def wpSp(P:Program)(pk:Nat):Sp->Code->(Exit->Env->Wd->Prop)->(Nat->Exit->Env->Wd->Prop)->Env->Wd->Prop
 | .next a s, .seq c1 c2,Q,QM,ρ,w=>wpc P pk (fun _ _=>False) a c1 (thenE (fun ρ w=>wpSp P pk s c2 Q QM ρ w) Q) ρ w
 | .here r A p, .seq (.seq rc (.block id (.rangeFunc g _ ars bd))) rest,Q,QM,ρ,w =>
  wpc P pk (fun _ _=>False) r rc (thenE (fun ρ w=>rfW P pk A g ars bd (fun Dk=>blockE id (thenE (fun ρ w=>wpc P pk (fun _ _=>False) p rest (QM Dk) ρ w) (QM Dk))) ρ w) Q) ρ w
 | _,_,_,_,_,_=>False
def eqPs:List Nat->List (Nat×Ty)->Bool
 | [],[]=>true
 | t::r,p::q=>Nat.beq t p.1 && eqPs r q
 | _,_=>false
def rfOk(P:Program)(n:Nat)(A:RfA)(ps:Array Tmp)(ars bd:Code):Bool:=eqPs ps.toList A.psh && chk P n A.annA ars && chk P n A.annB bd && noDrawA A.annA ars && noScope ars && noDrawA A.annB bd && noScope bd && ps.toList.all fun t=>Nat.blt t n
def spOk(P:Program)(n:Nat):Sp->Code->Bool
 | .next a s, .seq c1 c2=>chk P n a c1 && spOk P n s c2
 | .here r A p, .seq (.seq rc (.block _ (.rangeFunc _ ps ars bd))) rest=>chk P n r rc && rfOk P n A ps ars bd && chk P n p rest
 | _,_=>false
section sound
variable {P:Program} {n pk:Nat}
abbrev markD(Dk:Nat):Deferred:={ target := .collected Dk,args:=#[] }
def SpE(n:Nat)(Q:Exit->Env->Wd->Prop)(QM:Nat->Exit->Env->Wd->Prop):Exit->Act->Wd->Prop
 | .panic _,_,_=>False
 | .outgrown,_,_=>False
 | e,a,w=>(∃ ρ,Rep [] n a ρ/\Q e ρ w)∨∃ Dk ρ,Rep [markD Dk] n a ρ/\QM Dk e ρ w
theorem PostE.out{D:List Deferred}{Q:Exit->Env->Wd->Prop}{M:Nat->Bool}{ρ0:Env}{e:Exit}{a:Act}{w:Wd}(h:PostE D n Q (fun _ _=>False) M ρ0 e a w):(∃ ρ,Rep D n a ρ/\Q e ρ w)/\(∀ c,e ≠ .panic c)/\e ≠ .outgrown:=by
 cases e with
 | panic c=>exact h.1.elim
 | outgrown=>exact h.elim
 | _=>obtain ⟨ρ',h1,h2,_⟩:=h; exact ⟨⟨ρ',h1,h2⟩,(fun c h=>by cases h),(fun h=>by cases h)⟩
theorem SpE.mk{Q:Exit->Env->Wd->Prop}{QM:Nat->Exit->Env->Wd->Prop}{e:Exit}{a:Act}{w:Wd}(h:(∃ ρ,Rep [] n a ρ/\Q e ρ w)∨∃ Dk ρ,Rep [markD Dk] n a ρ/\QM Dk e ρ w)(h1:∀ c,e ≠ .panic c)(h2:e ≠ .outgrown):SpE n Q QM e a w:=by
 cases e with
 | panic c=>exact (h1 c rfl).elim
 | outgrown=>exact (h2 rfl).elim
 | _=>exact h
theorem eqPs_eq:∀{l:List Nat}{p:List (Nat×Ty)},eqPs l p=true->l=p.map Prod.fst
 | [],[],_=>rfl
 | t::r,p::q,h=>by
  simp only [eqPs,Bool.and_eq_true] at h
  rw [List.map_cons,<- Nat.eq_of_beq_eq_true h.1,eqPs_eq h.2]
 | [],_::_,h=>by simp [eqPs] at h
 | _::_,[],h=>by simp [eqPs] at h
theorem rnd_rep{D:List Deferred}{F:List Value->Env->Prop}:∀(psh:List (Nat×Ty))(ρ:Env)(a:Act),(∀ p∈psh,p.1 < n)->Rep D n a ρ->(∀ args ρ',args.length=psh.length->Rep D n { a with tmps:=((psh.map Prod.fst).zip args).foldl (fun (t:Array Value) (p:Nat×Value)=>t.setIfInBounds p.1 p.2) a.tmps } ρ'->F args ρ')->rndA psh ρ F
 | [],ρ,a,_,hr,h=>h [] ρ rfl hr
 | (t,y)::r,ρ,a,hp,hr,h=>allTy_of y fun v=>by
  refine rnd_rep r _ { a with tmps:=a.tmps.setIfInBounds t v } (fun p hq=>hp p (List.mem_cons_of_mem _ hq)) ?_ fun args ρ' hl hr'=>h _ ρ' (by simp [hl]) hr'
  exact hr.put (hp _ List.mem_cons_self) _
theorem zip_foldl(ps:Array Nat)(args:List Value)(t0:Array Value):(ps.zip args.toArray).foldl (fun t (p,v)=>t.setIfInBounds p v) t0=(ps.toList.zip args).foldl (fun (t:Array Value) (p:Nat×Value)=>t.setIfInBounds p.1 p.2) t0:=by
 rw [<- Array.foldl_toList,Array.toList_zip]
theorem wide_round(l:Nat):Fence.wide.inRound l=wideR (some l):=rfl
theorem rfW_sound{A:RfA}{g:Operand}{ps:Array Tmp}{ars bd:Code}{Q:Nat->Exit->Env->Wd->Prop}{ρ:Env}{w:Wd}{a:Act}(hok:rfOk P n A ps ars bd=true)(hr:Rep [] n a ρ)(h:rfW P pk A g ars bd Q ρ w) :
    (Code.rangeFunc g ps ars bd).wpIn Fence.wide 0 P (fun e a' w'=>∃ Dk,(∃ ρ',Rep [markD Dk] n a' ρ'/\Q Dk e ρ' w')/\(∀ c,e ≠ .panic c)/\e ≠ .outgrown) a w:=by
  simp only [rfOk,Bool.and_eq_true,List.all_eq_true] at hok
  obtain ⟨⟨⟨⟨⟨⟨⟨o1,o2⟩,o3⟩,o4⟩,o5⟩,o6⟩,o7⟩,o8⟩:=hok
  have ep:=eqPs_eq o1
  refine wpIn_rangeFunc fun fn _=>?_
  let rf:Loop:={ state := .ready,pending:=none,fn:=fn,tmps:=a.tmps,params:=ps,assign:=ars,body:=bd,defers:=w.heap.size }
  let w1:=(w.alloc (.deferred (some []))).alloc (.loop rf)
  have hd:=h rf w.heap.size (w.heap.size+1) w1 ⟨rfl,rfl,rfl⟩ ?_
  rotate_left
  · refine rnd_rep A.psh ρ { a with defers:=[] } (fun p hp=>?_) (by have:=hr; exact ⟨rfl,this.size,this.get⟩) fun args ρ' hl hr'=>?_
    · have:=o8 p.1 (by rw [ep]; exact List.mem_map.2 ⟨p,hp,rfl⟩)
      simpa using this
    intro W K' hst hw
    have hsz:args.toArray.size=ps.size:=by
      have:=congrArg List.length ep
      simp only [List.length_map,Array.length_toList] at this
      rw [List.size_toArray,hl,this]
    have hst':W.heap[w.heap.size+1]? = some (.loop rf):=hst
    have hy:=run_yield (P:=P) (args:=args.toArray) hst' hsz
    unfold dynV Invk
    have e1:(dynS (.func (.yield (w.heap.size+1)) #[] #[]) args).run P W = .ok (.round (w.heap.size+1) fn ((ps.zip args.toArray).foldl (fun tmps (t,a)=>tmps.setIfInBounds t a) a.tmps) ars bd) W:=by
      simp only [dynS,Deferred.ofValue,pure_bind]
      simp [invoke,hy,rf]
    rw [e1]
    refine ⟨rfl,roundIn_of_wpIn (F:=Fence.wide) trivial ?_⟩
    rw [zip_foldl,ep,wide_round]
    have hA:=wpc_sound (ro:=some (w.heap.size+1)) (n:=n) (D:=[]) A.annA ars _ _ W _ (.inr ⟨o4,o5⟩) o2 hw hr'
    refine wpIn_mono hA fun e1 a1 W1 hp=>?_
    obtain ⟨⟨ρ1,r1,q1⟩,q2,q3⟩:=hp.out
    cases e1 with
    | panic c=>exact (q2 c rfl).elim
    | outgrown=>exact (q3 rfl).elim
    | exit i=>exact q1.elim
    | goto i=>exact q1.elim
    | ret=>exact q1.elim
    | normal =>
    obtain ⟨st1,hb⟩:=q1
    have st1':W1.heap[w.heap.size+1]? = some (.loop rf):=st1
    refine ⟨_,run_beginRound st1' rfl,?_⟩
    have hB:=wpc_sound (ro:=some (w.heap.size+1)) (n:=n) (D:=[]) A.annB bd _ _ _ _ (.inr ⟨o6,o7⟩) o3 hb r1
    refine wpIn_mono hB fun e2 a2 W2 hp2=>?_
    obtain ⟨⟨ρ2,r2,s1⟩,s2,s3⟩:=hp2.out
    have fin:∀{j:Option Nat},jumpE (w.heap.size+1) rf A.js K' j W2->∃ v w',(Instr.endRound (w.heap.size+1) (some (jumpC j))).run P W2 = .ok v w'/\callR [.one .bool] K' (fun _ _=>False) (.returned v) w':=fun {j} hj=>by
      unfold jumpE at hj
      cases hh:hasJ A.js j with
      | false=>rw [hh] at hj; exact hj.elim
      | true =>
        rw [hh] at hj
        have st:W2.heap[w.heap.size+1]? = some (.loop { rf with state := .busy,pending:=none }):=hj.1
        refine ⟨_,_,run_endRound (some (jumpC j)) st, .inl ⟨false,rfl,hj.2⟩⟩
    cases e2 with
    | panic c=>exact (s2 c rfl).elim
    | outgrown=>exact (s3 rfl).elim
    | normal =>
      have st:W2.heap[w.heap.size+1]? = some (.loop { rf with state := .busy,pending:=none }):=s1.1
      exact ⟨_,_,run_endRound none st, .inl ⟨true,rfl,s1.2⟩⟩
    | ret=>exact fin (j:=none) s1
    | exit i=>exact fin (j:=some i) s1
    | goto i=>exact s1.elim
  have hrep:Rep [markD w.heap.size] n { a with defers:=[markD w.heap.size]++a.defers } ρ:=⟨by simp [hr.defers],hr.size,hr.get⟩
  have hend:∀{js:List (Option Nat)}{w3:Wd},rfEnd (w.heap.size+1) rf (Q w.heap.size) ρ w3 js ->
      ∃ jump w4,(Instr.endLoop (w.heap.size+1)).run P w3 = .ok jump w4/\(match jump with
       | none=>∃ Dk,(∃ ρ',Rep [markD Dk] n { a with defers:=[markD w.heap.size]++a.defers } ρ'/\Q Dk .normal ρ' w4)/\(∀ c,Exit.normal ≠ .panic c)/\Exit.normal ≠ .outgrown
       | some c=>c.wpIn Fence.wide 0 P (fun e a' w'=>∃ Dk,(∃ ρ',Rep [markD Dk] n a' ρ'/\Q Dk e ρ' w')/\(∀ c,e ≠ .panic c)/\e ≠ .outgrown) { a with defers:=[markD w.heap.size]++a.defers } w4):=by
    intro js
    induction js with
    | nil =>
      intro w3 h3
      have st:w3.heap[w.heap.size+1]? = some (.loop { rf with state := .ready,pending:=none }):=h3.1
      exact ⟨_,_,run_endLoop st (by simp),_,⟨ρ,hrep,h3.2⟩,(fun c h=>by cases h),(fun h=>by cases h)⟩
    | cons j r ih =>
      intro w3 h3
      rcases h3 with h3 | h3
      · have st:w3.heap[w.heap.size+1]? = some (.loop { rf with state := .done,pending:=some (jumpC j) }):=h3.1
        refine ⟨_,_,run_endLoop st (by simp),?_⟩
        cases j with
        | none=>exact wpIn_ret ⟨_,⟨ρ,hrep,h3.2⟩,(fun c h=>by cases h),(fun h=>by cases h)⟩
        | some i=>exact wpIn_exit ⟨_,⟨ρ,hrep,h3.2⟩,(fun c h=>by cases h),(fun h=>by cases h)⟩
      · exact ih h3
  unfold dynV Invk dynS at hd
  cases hg:ev ρ g with
  | func fv first cap =>
    rw [hg] at hd
    simp only [Deferred.ofValue,pure_bind] at hd
    split at hd
    · rename_i f ars w2 he
      refine ⟨w.heap.size+1,[markD w.heap.size],w1,{ target := .fn fv cap,args:=first++#[.func (.yield (w.heap.size+1)) #[] #[]] },w1,f,ars,w2,run_enterLoop_outer _ _ _ _ _,?_,fun _ _=>trivial,he,(fun h=>by cases h),callsIn_wide.2 ?_⟩
      · have:a.eval g = .func fv first cap:=by rw [hr.eval]; exact hg
        simp [resolve,this,Deferred.ofValue]
        rfl
      · refine Calls.mono hd fun e w3 h3=>?_
        rcases h3 with ⟨he3,h3⟩ | ⟨c,_,h3⟩
        · subst he3; exact hend h3
        · exact h3.elim
    · exact absurd hd.1 (by decide)
    · exact hd.elim
  | nilFunc =>
    rw [hg] at hd
    simp [Deferred.ofValue,invoke,runtimePanic,program,Sem.run] at hd
  | _ =>
    rw [hg] at hd
    simp [Deferred.ofValue,stuck] at hd
theorem sp_sound:∀(s:Sp)(c:Code)(Q:Exit->Env->Wd->Prop)(QM:Nat->Exit->Env->Wd->Prop)(ρ:Env)(w:Wd)(a:Act),spOk P n s c=true->wpSp P pk s c Q QM ρ w->Rep [] n a ρ->c.wpIn Fence.wide 0 P (SpE n Q QM) a w:=by
 intro s
 induction s with
 | next ann s ih =>
  intro c Q QM ρ w a hok h hr
  cases c <;> simp only [wpSp] at h
  rename_i c1 c2
  simp only [spOk,Bool.and_eq_true] at hok
  refine wpIn_seq (wpIn_mono (wpc_sound (ro:=none) (n:=n) (D:=[]) ann c1 _ ρ w a (.inl rfl) hok.1 h hr) fun e a' w' hp=>?_)
  obtain ⟨⟨ρ',r',q'⟩,q2,q3⟩:=hp.out
  cases e with
  | normal=>exact ih c2 Q QM ρ' w' a' hok.2 q' r'
  | panic c=>exact (q2 c rfl).elim
  | outgrown=>exact (q3 rfl).elim
  | exit i=>exact .inl ⟨ρ',r',q'⟩
  | goto i=>exact .inl ⟨ρ',r',q'⟩
  | ret=>exact .inl ⟨ρ',r',q'⟩
 | here rA A p =>
  intro c Q QM ρ w a hok h hr
  have none_:∀{c:Code},(∀ rc id g ps ars bd rest,c ≠ .seq (.seq rc (.block id (.rangeFunc g ps ars bd))) rest)->spOk P n (.here rA A p) c=true->False:=fun {c} hne hk=>by
   unfold spOk at hk
   split at hk
   .cases ‹Sp.here _ _ _=Sp.next _ _›
   .exact hne _ _ _ _ _ _ _ rfl
   .cases hk
  have dec:(∃ rc id g ps ars bd rest,c = .seq (.seq rc (.block id (.rangeFunc g ps ars bd))) rest):=Classical.byContradiction fun hc=>none_ (fun rc id g ps ars bd rest e=>hc ⟨rc,id,g,ps,ars,bd,rest,e⟩) hok
  obtain ⟨rc,id,g,ps,ars,bd,rest,rfl⟩:=dec
  simp only [wpSp] at h
  simp only [spOk,Bool.and_eq_true] at hok
  refine wpIn_seq (wpIn_mono (wpIn_seq (Q:=fun e a' w'=>match e with
   | .normal=>∃ Dk ρ',Rep [markD Dk] n a' ρ'/\wpc P pk (fun _ _=>False) p rest (QM Dk) ρ' w'
   | e=>SpE n Q QM e a' w') (wpIn_mono (wpc_sound (ro:=none) (n:=n) (D:=[]) _ rc _ ρ w a (.inl rfl) hok.1.1 h hr) fun e a' w' hp=>?_)) fun e a' w' hp=>?_)
  .obtain ⟨⟨ρ1,r1,q1⟩,q2,q3⟩:=hp.out
   cases e with
   | panic c=>exact (q2 c rfl).elim
   | outgrown=>exact (q3 rfl).elim
   | exit i=>exact .inl ⟨ρ1,r1,q1⟩
   | goto i=>exact .inl ⟨ρ1,r1,q1⟩
   | ret=>exact .inl ⟨ρ1,r1,q1⟩
   | normal =>
    refine wpIn_block (wpIn_mono (rfW_sound hok.1.2 r1 q1) fun e2 a2 w2 hp2=>?_)
    obtain ⟨Dk,⟨ρ2,r2,s2⟩,s3,s4⟩:=hp2
    cases e2 with
    | panic c=>exact (s3 c rfl).elim
    | outgrown=>exact (s4 rfl).elim
    | normal=>exact ⟨Dk,ρ2,r2,s2⟩
    | goto i=>exact .inr ⟨Dk,ρ2,r2,s2⟩
    | ret=>exact .inr ⟨Dk,ρ2,r2,s2⟩
    | exit i =>
     simp only [blockE] at s2
     simp only [Exit.inBlock]
     cases hb:Nat.beq i id with
     | true =>
      have:=Nat.eq_of_beq_eq_true hb
      subst this
      rw [hb] at s2
      rw [if_pos rfl]; exact ⟨Dk,ρ2,r2,s2⟩
     | false =>
      rw [hb] at s2
      rw [if_neg (fun e=>by subst e; simp at hb)]; exact .inr ⟨Dk,ρ2,r2,s2⟩
  .cases e with
   | normal =>
    obtain ⟨Dk,ρ1,r1,q1⟩:=hp
    refine wpIn_mono (wpc_sound (ro:=none) (n:=n) (D:=[markD Dk]) p rest _ ρ1 w' a' (.inl rfl) hok.2 q1 r1) fun e2 a2 w2 hp2=>?_
    obtain ⟨⟨ρ2,r2,s2⟩,s3,s4⟩:=hp2.out
    exact SpE.mk (.inr ⟨Dk,ρ2,r2,s2⟩) s3 s4
   | panic c=>exact hp
   | outgrown=>exact hp
   | exit i=>exact hp
   | goto i=>exact hp
   | ret=>exact hp
def mapC(Dk:Nat):(l:List Ty)->CurT l->CurT l
 | [],K=>fun w=>K (defShut Dk w)
 | .one _::r,K=>fun x=>mapC Dk r (K x)
 | .agg l::r,K=>mapS Dk r l K
 | .bad::r,K=>fun v=>mapC Dk r (K v)
where
 mapS (Dk:Nat) (r:List Ty):(l:List Seg)->CurS l (CurT r)->CurS l (CurT r)
 | [],K=>mapC Dk r K
 | .one _::q,K=>fun x=>mapS Dk r q (K x)
 | .row _ _::q,K=>fun x=>mapS Dk r q (K x)
def retKM(P:Program)(tys:List Ty)(rs:List ResultVar)(K:CurT tys)(Dk:Nat):Exit->Env->Wd->Prop
 | .ret,ρ,w=>DefSt Dk w/\resW P rs ρ (defShut Dk w) (fun vs=>getC tys vs K (defShut Dk w))
 | .normal,ρ,w=>DefSt Dk w/\resW P rs ρ (defShut Dk w) (fun vs=>getC tys vs K (defShut Dk w))
 | _,_,_=>False
theorem mkR{f:FuncId}{fn:Func}{s:Sp}{args:List Value}{tys:List Ty}{K:CurT tys}{w:Wd}{F C:Prop}(hf:P.funcs[f]? = some fn)
  (hF:F=wpSp P pk s (fn.body.getD .skip) (retK P tys fn.results.toList K) (retKM P tys fn.results.toList K) (argEnv args) w) (hc:(fn.body.isSome && Nat.ble args.length fn.ntmps && spOk P fn.ntmps s (fn.body.getD .skip))=true)
  (hC:callK P f args.toArray tys K w=C) (h:F):C:=by
 simp only [Bool.and_eq_true] at hc
 obtain ⟨c,hb⟩:=Option.isSome_iff_exists.1 hc.1.1
 have e:fn.body.getD .skip=c:=by rw [hb]; rfl
 rw [e] at hF hc
 rw [<- hC]
 refine callsIn_wide.1 (callsIn_of_wp_marks (F:=Fence.wide) (n:=0) hf hb trivial (wpIn_mono (sp_sound s c _ _ _ w _ hc.2 (hF ▸ h) (args_rep hc.1.2)) fun e a' w' hp=>?_) rfl)
 have fin:∀{D:List Deferred}{ρ':Env}{w'':Wd},Rep D fn.ntmps a' ρ'->resW P fn.results.toList ρ' w'' (fun vs=>getC tys vs K w'')->∃ v,(results fn a'.tmps).run P w'' = .ok v w''/\exC tys K (fun vs Y=>Ending.returned v = .returned (tup vs)/\Y w''):=fun hr' hq=>by
  obtain ⟨vs,h1,h2⟩:=results_run hr' hq
  exact ⟨_,h1,exC_mono tys K (fun us X hh=>⟨by rw [hh.1],hh.2⟩) (getC_elim tys vs K _ h2)⟩
 have main:((∃ ρ,Rep [] fn.ntmps a' ρ/\resW P fn.results.toList ρ w' (fun vs=>getC tys vs K w'))∨∃ Dk ρ,Rep [markD Dk] fn.ntmps a' ρ/\(DefSt Dk w'/\resW P fn.results.toList ρ (defShut Dk w') (fun vs=>getC tys vs K (defShut Dk w')))) ->
   LeavesInM Fence.wide 0 P fn a'.tmps (fun e w'=>exC tys K (fun vs Y=>e = .returned (tup vs)/\Y w')) a'.defers .returning w':=by
  rintro (⟨ρ,r,q⟩ | ⟨Dk,ρ,r,q0,q⟩)
  .rw [r.defers]; exact fin r q
  .rw [r.defers]
   exact ⟨by simp, .inl ⟨Dk,_,rfl,run_takeDeferred q0,fin r q⟩⟩
 cases e with
 | normal=>exact main hp
 | ret=>exact main hp
 | panic c=>exact hp.elim
 | outgrown=>exact hp.elim
 | exit i=>rcases hp with ⟨_,_,h⟩ | ⟨_,_,_,h⟩ <;> exact h.elim
 | goto i=>rcases hp with ⟨_,_,h⟩ | ⟨_,_,_,h⟩ <;> exact h.elim
end sound
end Go.V
set_option maxRecDepth 100000
namespace Go.V
theorem rfPut_ext{l:Nat}{rf:Loop}{st:LoopState}{p:Option Code}{w:Wd}:Ext (fun q=>q=l) w (rfPut l rf st p w):=Wrt.ext (o := .loop { rf with state:=st,pending:=p }) rfl
theorem RfSt.lt{l:Nat}{rf:Loop}{st:LoopState}{p:Option Code}{w:Wd}(h:RfSt l rf st p w):l < w.heap.size:=by
 rcases Nat.lt_or_ge l w.heap.size with k | k
 .exact k
 .unfold RfSt at h; rw [Array.getElem?_eq_none k] at h; cases h
theorem RfSt.put{l:Nat}{rf:Loop}{st st':LoopState}{p p':Option Code}{w:Wd}(h:RfSt l rf st p w):RfSt l rf st' p' (rfPut l rf st' p' w):=World.putObj_heap_same h.lt
theorem rfPut_size{l:Nat}{rf:Loop}{st:LoopState}{p:Option Code}{w:Wd}:(rfPut l rf st p w).heap.size=w.heap.size:=by simp [rfPut,World.putObj]
theorem RfSt.ext{S:Nat->Prop}{l:Nat}{rf:Loop}{st:LoopState}{p:Option Code}{w w':Wd}(h:RfSt l rf st p w)(x:Ext S w w')(hS:¬ S l):RfSt l rf st p w':=by
 unfold RfSt; rw [x.blk l h.lt hS]; exact h
theorem defShut_ext{dk:Nat}{w:Wd}:Ext (fun q=>q=dk) w (defShut dk w):=Wrt.ext (o := .deferred none) rfl
theorem DefSt.lt{dk:Nat}{w:Wd}(h:DefSt dk w):dk < w.heap.size:=by
 rcases Nat.lt_or_ge dk w.heap.size with k | k
 .exact k
 .unfold DefSt at h; rw [Array.getElem?_eq_none k] at h; cases h
theorem DefSt.ext{S:Nat->Prop}{dk:Nat}{w w':Wd}(h:DefSt dk w)(x:Ext S w w')(hS:¬ S dk):DefSt dk w':=by
 unfold DefSt; rw [x.blk dk h.lt hS]; exact h
theorem RfNew.facts{w w1:Wd}{rf:Loop}{dk l:Nat}(n:RfNew w rf dk l w1):Ext No w w1/\w1.heap.size=w.heap.size+2/\RfSt l rf .ready none w1/\DefSt dk w1:=by
 obtain ⟨rfl,rfl,rfl⟩:=n
 refine ⟨⟨rfl,rfl,rfl,?_,fun b hb _=>?_⟩,?_,?_,?_⟩
 .show w.heap.size<=((w.heap.push _).push _).size
  rw [Array.size_push,Array.size_push]; omega
 .show ((w.heap.push _).push _)[b]? = _
  rw [heap_push _ _ _ (by rw [Array.size_push]; omega),heap_push _ _ _ hb]
 .show ((w.heap.push _).push _).size=_
  rw [Array.size_push,Array.size_push]
 .show ((w.heap.push _).push _)[w.heap.size+1]? = _
  rw [Array.getElem?_push,if_pos (by rw [Array.size_push])]
 .show ((w.heap.push _).push _)[w.heap.size]? = _
  rw [heap_push _ _ _ (by rw [Array.size_push]; omega),Array.getElem?_push,if_pos rfl]
end Go.V
namespace Go.Proofs.YtmbckodpbdlblaaGreat
open Go.V
def F_slices_AppendSeq_uint32_uint32(s:Sl)(seq:Value)(w:Wd)(K:Sl->Wd->Prop):Prop:=NewW w (.cells [.slice s.a s.len s.cap].toArray 68) fun f l=>∀(a:Loop)(dk lp:Nat)(w2:Wd),RfNew l a dk lp w2->(∀(j:Int)(b:Wd)(h:Bool->Wd->Prop),RfSt lp a .ready none b->(RfSt lp a .ready none b/\∃ c:Sl,Cell (rfPut lp a .busy none b) (A0 f) (.slice c.a c.len c.cap)/\NewW (rfPut lp a .busy none b) (.cells [.int .u32 j].toArray 33) fun k m=>AppW pz 68 68 c (.slice (some (A0 k)) 1 1) (fun g n=>St1 n (A0 f) (.slice g.a g.len g.cap) fun i=>RfSt lp a .busy none i/\h true (rfPut lp a .ready none i)) m)->dynV pz true (.func (.yield lp) #[] #[]) [.int .u32 j] [.one .bool] h NoX b)->dynV pz false (seq) [.func (.yield lp) #[] #[]] [] (fun e=>(RfSt lp a .ready none e/\∃ d:Sl,Cell (rfPut lp a .exhausted none e) (A0 f) (.slice d.a d.len d.cap)/\DefSt dk ((rfPut lp a .exhausted none e))/\K d ((defShut dk ((rfPut lp a .exhausted none e)))))) NoX w2
def A_slices_AppendSeq_uint32_uint32:Sp:=(.next n0 (.here n0 ⟨[(7, .one (.int .u32))],[],n0,(.block n0)⟩ (qz n0)))
theorem S_slices_AppendSeq_uint32_uint32{s:Sl}{seq:Value}{w:Wd}{K:Sl->Wd->Prop}(h:F_slices_AppendSeq_uint32_uint32 s seq w K):C_slices_AppendSeq_uint32_uint32 s seq w K :=
 mkR (pk:=PK) (s:=A_slices_AppendSeq_uint32_uint32) (args:=[.slice s.a s.len s.cap,seq]) (tys:=[.one (.sl)]) (K:=K) (w:=w) Tryz.func137 (by kernel_rfl) (by kernel_rfl) (by kernel_rfl) h
def F_slices_AppendSeq_uint64_uint64(s:Sl)(seq:Value)(w:Wd)(K:Sl->Wd->Prop):Prop:=NewW w (.cells [.slice s.a s.len s.cap].toArray 118) fun f l=>∀(a:Loop)(dk lp:Nat)(w2:Wd),RfNew l a dk lp w2->(∀(j:Int)(b:Wd)(h:Bool->Wd->Prop),RfSt lp a .ready none b->(RfSt lp a .ready none b/\∃ c:Sl,Cell (rfPut lp a .busy none b) (A0 f) (.slice c.a c.len c.cap)/\NewW (rfPut lp a .busy none b) (.cells [.int .u64 j].toArray 24) fun k m=>AppW pz 118 118 c (.slice (some (A0 k)) 1 1) (fun g n=>St1 n (A0 f) (.slice g.a g.len g.cap) fun i=>RfSt lp a .busy none i/\h true (rfPut lp a .ready none i)) m)->dynV pz true (.func (.yield lp) #[] #[]) [.int .u64 j] [.one .bool] h NoX b)->dynV pz false (seq) [.func (.yield lp) #[] #[]] [] (fun e=>(RfSt lp a .ready none e/\∃ d:Sl,Cell (rfPut lp a .exhausted none e) (A0 f) (.slice d.a d.len d.cap)/\DefSt dk ((rfPut lp a .exhausted none e))/\K d ((defShut dk ((rfPut lp a .exhausted none e)))))) NoX w2
def A_slices_AppendSeq_uint64_uint64:Sp:=(.next n0 (.here n0 ⟨[(7, .one (.int .u64))],[],n0,(.block n0)⟩ (qz n0)))
theorem S_slices_AppendSeq_uint64_uint64{s:Sl}{seq:Value}{w:Wd}{K:Sl->Wd->Prop}(h:F_slices_AppendSeq_uint64_uint64 s seq w K):C_slices_AppendSeq_uint64_uint64 s seq w K :=
 mkR (pk:=PK) (s:=A_slices_AppendSeq_uint64_uint64) (args:=[.slice s.a s.len s.cap,seq]) (tys:=[.one (.sl)]) (K:=K) (w:=w) Tryz.func139 (by kernel_rfl) (by kernel_rfl) (by kernel_rfl) h
def F_scan_Range(s:Value)(tenant t0:Int)(t1 t2 t3:Int)(fromv to:Sl)(most:Int)(back:Bool)(w:Wd)(K:Sl->Int->Wd->Prop):Prop:=NewW w (.cells [.int .u32 t0, .int .u64 t1, .int .u16 t2, .int .u8 t3].toArray 38) fun p a2=>NewW a2 (.cells [.int .i64 most].toArray 3) fun I a8=>NewW a8 (.cells [.slice none 0 0].toArray 67) fun c b1=>NewW b1 (.cells [.int .i64 0].toArray 48) fun d n=>∃ J:Int,Cell n (A0 p) (.int .u32 J)/\∃ L:Int,Cell n ((A0 p).add 1) (.int .u64 L)/\∃ M:Int,Cell n ((A0 p).add 2) (.int .u16 M)/\∃ N:Int,Cell n ((A0 p).add 3) (.int .u8 N)/\C_scan_Open s tenant J L M N n fun a1 O Y=>If (O != 0) (St1 Y (A0 c) (.slice none 0 0) fun b2=>St1 b2 (A0 d) (.int .i64 O) fun F=>∃ q:Sl,Cell F (A0 c) (.slice q.a q.len q.cap)/\∃ P:Int,Cell F (A0 d) (.int .i64 P)/\K q P F) (NewW Y (.cells [.slice none 0 0].toArray 67) fun m G=>∃ S:Int,Cell G (A0 I) (.int .i64 S)/\If (decide (S < 1)) (St1 G (A0 c) (.slice none 0 0) fun b3=>St1 b3 (A0 d) (.int .i64 0) fun D=>∃ u:Sl,Cell D (A0 c) (.slice u.a u.len u.cap)/\∃ T:Int,Cell D (A0 d) (.int .i64 T)/\K u T D) (C_scan_Cursor_all a1 fromv to back G fun a0 a3=>∀(a:Loop)(dk lp:Nat)(w12:Wd),RfNew a3 a dk lp w12->(∀(e:Sl)(f:Sl)(H:Int)(E:Wd)(o:Bool->Wd->Prop),RfSt lp a .ready none E->(NewW E (.cells [.slice none 0 0, .slice none 0 0].toArray 219) fun B a4=>StL a4 (A0 B) 2 [.slice e.a e.len e.cap, .slice f.a f.len f.cap] fun k=>RfSt lp a .ready none k/\If (H != 0) (St1 (rfPut lp a .busy none k) (A0 c) (.slice none 0 0) fun a5=>St1 a5 (A0 d) (.int .i64 H) fun W=>RfSt lp a .busy none W/\o false (rfPut lp a .done (some .ret) W)) (∃ v:Sl,Cell (rfPut lp a .busy none k) (A0 m) (.slice v.a v.len v.cap)/\∃ g:Sl,Cell (rfPut lp a .busy none k) (A0 B) (.slice g.a g.len g.cap)/\∃ h:Sl,Cell (rfPut lp a .busy none k) ((A0 B).add 1) (.slice h.a h.len h.cap)/\NewW (rfPut lp a .busy none k) (.cells [.slice g.a g.len g.cap, .slice h.a h.len h.cap].toArray 219) fun Z a6=>AppW pz 67 67 v (.slice (some (A0 Z)) 1 1) (fun C a7=>St1 a7 (A0 m) (.slice C.a C.len C.cap) fun l=>∃ x:Sl,Cell l (A0 m) (.slice x.a x.len x.cap)/\∃ U:Int,Cell l (A0 I) (.int .i64 U)/\If (decide (((x.len:Int))≥U)) (RfSt lp a .busy none l/\o false (rfPut lp a .done (some (.exit 0)) l)) (RfSt lp a .busy none l/\o true (rfPut lp a .ready none l))) a6))->dynV pz true (.func (.yield lp) #[] #[]) [.agg ([.slice e.a e.len e.cap, .slice f.a f.len f.cap]).toArray, .int .i64 H] [.one .bool] o NoX E)->dynV pz false (a0) [.func (.yield lp) #[] #[]] [] (fun b=>(RfSt lp a .done (some .ret) b/\DefSt dk ((rfPut lp a .exhausted (some .ret) b))/\∃ y:Sl,Cell ((defShut dk ((rfPut lp a .exhausted (some .ret) b)))) (A0 c) (.slice y.a y.len y.cap)/\∃ V:Int,Cell ((defShut dk ((rfPut lp a .exhausted (some .ret) b)))) (A0 d) (.int .i64 V)/\K y V ((defShut dk ((rfPut lp a .exhausted (some .ret) b))))) ∨  (RfSt lp a .done (some (.exit 0)) b/\∃ i:Sl,Cell (rfPut lp a .exhausted (some (.exit 0)) b) (A0 m) (.slice i.a i.len i.cap)/\St1 (rfPut lp a .exhausted (some (.exit 0)) b) (A0 c) (.slice i.a i.len i.cap) fun a9=>St1 a9 (A0 d) (.int .i64 0) fun z=>DefSt dk z/\∃ r:Sl,Cell ((defShut dk z)) (A0 c) (.slice r.a r.len r.cap)/\∃ Q:Int,Cell ((defShut dk z)) (A0 d) (.int .i64 Q)/\K r Q ((defShut dk z))) ∨  (RfSt lp a .ready none b/\∃ j:Sl,Cell (rfPut lp a .exhausted none b) (A0 m) (.slice j.a j.len j.cap)/\St1 (rfPut lp a .exhausted none b) (A0 c) (.slice j.a j.len j.cap) fun b0=>St1 b0 (A0 d) (.int .i64 0) fun A=>DefSt dk A/\∃ t:Sl,Cell ((defShut dk A)) (A0 c) (.slice t.a t.len t.cap)/\∃ R:Int,Cell ((defShut dk A)) (A0 d) (.int .i64 R)/\K t R ((defShut dk A)))) NoX w12))
def A_scan_Range:Sp:=(.next n0 (.next n0 (.next (qz (.cond (qz n0) n0)) (.next n0 (.next (qz (.cond (qz n0) n0)) (.here n0 ⟨[(38, .agg [.one (.sl), .one (.sl)]),(39, .one (.int .i64))],[none,some 0],(qz n0),(.block (.seq (qz (.cond (qz n0) n0)) (qz (qz (.cond n0 n0)))))⟩ (qz n0)))))))
theorem S_scan_Range{s:Value}{tenant t0:Int}{t1 t2 t3:Int}{fromv to:Sl}{most:Int}{back:Bool}{w:Wd}{K:Sl->Int->Wd->Prop}(h:F_scan_Range s tenant t0 t1 t2 t3 fromv to most back w K):C_scan_Range s tenant t0 t1 t2 t3 fromv to most back w K :=
 mkR (pk:=PK) (s:=A_scan_Range) (args:=[s, .int .u32 tenant, .agg ([.int .u32 t0, .int .u64 t1, .int .u16 t2, .int .u8 t3]).toArray, .slice fromv.a fromv.len fromv.cap, .slice to.a to.len to.cap, .int .i64 most, .bool back]) (tys:=[.one (.sl), .one (.int .i64)]) (K:=K) (w:=w) Tryz.func122 (by kernel_rfl) (by kernel_rfl) (by kernel_rfl) h
def F_slices_AppendSeq_string_string(s:Sl)(seq:Value)(w:Wd)(K:Sl->Wd->Prop):Prop:=NewW w (.cells [.slice s.a s.len s.cap].toArray 371) fun f l=>∀(a:Loop)(dk lp:Nat)(w2:Wd),RfNew l a dk lp w2->(∀(j:ByteArray)(b:Wd)(h:Bool->Wd->Prop),RfSt lp a .ready none b->(RfSt lp a .ready none b/\∃ c:Sl,Cell (rfPut lp a .busy none b) (A0 f) (.slice c.a c.len c.cap)/\NewW (rfPut lp a .busy none b) (.cells [.string j].toArray 9) fun k m=>AppW pz 371 371 c (.slice (some (A0 k)) 1 1) (fun g n=>St1 n (A0 f) (.slice g.a g.len g.cap) fun i=>RfSt lp a .busy none i/\h true (rfPut lp a .ready none i)) m)->dynV pz true (.func (.yield lp) #[] #[]) [.string j] [.one .bool] h NoX b)->dynV pz false (seq) [.func (.yield lp) #[] #[]] [] (fun e=>(RfSt lp a .ready none e/\∃ d:Sl,Cell (rfPut lp a .exhausted none e) (A0 f) (.slice d.a d.len d.cap)/\DefSt dk ((rfPut lp a .exhausted none e))/\K d ((defShut dk ((rfPut lp a .exhausted none e)))))) NoX w2
def A_slices_AppendSeq_string_string:Sp:=(.next n0 (.here n0 ⟨[(7, .one (.str))],[],n0,(.block n0)⟩ (qz n0)))
theorem S_slices_AppendSeq_string_string{s:Sl}{seq:Value}{w:Wd}{K:Sl->Wd->Prop}(h:F_slices_AppendSeq_string_string s seq w K):C_slices_AppendSeq_string_string s seq w K :=
 mkR (pk:=PK) (s:=A_slices_AppendSeq_string_string) (args:=[.slice s.a s.len s.cap,seq]) (tys:=[.one (.sl)]) (K:=K) (w:=w) Tryz.func408 (by kernel_rfl) (by kernel_rfl) (by kernel_rfl) h
def F_tree_grove_store(g0:Value)(g1:Int)(key value:Sl)(w:Wd)(K:Sl->Sl->Int->Int->Int->Int->Int->Int->Int->Int->Wd->Prop):Prop:=NewW w (.cells [g0, .int .u32 g1].toArray 189) fun c3 h4=>NewW h4 (.cells [.slice none 0 0, .slice none 0 0, .int .i64 0, .int .u32 0, .int .u64 0, .int .u16 0, .int .u32 0, .int .u64 0, .int .u16 0].toArray 240) fun b h8=>NewW h8 (.cells [.int .i64 0].toArray 48) fun m i2=>C_bytes_Clone key i2 fun z i3=>NewW i3 (.cells [.slice none 0 0, .slice none 0 0, .int .i64 0, .int .u32 0, .int .u64 0, .int .u16 0, .int .u32 0, .int .u64 0, .int .u16 0].toArray 240) fun a i4=>StL i4 (A0 a) 9 [.slice z.a z.len z.cap, .slice none 0 0, .int .i64 0, .int .u32 0, .int .u64 0, .int .u16 0, .int .u32 0, .int .u64 0, .int .u16 0] fun h1=>If (decide (((value.len:Int))<=64)) (C_bytes_Clone value h1 fun c2 i5=>St1 i5 ((A0 a).add 1) (.slice c2.a c2.len c2.cap) fun l=>∃ n:Sl,Cell l (A0 a) (.slice n.a n.len n.cap)/\∃ o:Sl,Cell l ((A0 a).add 1) (.slice o.a o.len o.cap)/\∃ L:Int,Cell l ((A0 a).add 2) (.int .i64 L)/\∃ T:Int,Cell l ((A0 a).add 3) (.int .u32 T)/\∃ U:Int,Cell l ((A0 a).add 4) (.int .u64 U)/\∃ a3:Int,Cell l ((A0 a).add 5) (.int .u16 a3)/\∃ b1:Int,Cell l ((A0 a).add 6) (.int .u32 b1)/\∃ b4:Int,Cell l ((A0 a).add 7) (.int .u64 b4)/\∃ c0:Int,Cell l ((A0 a).add 8) (.int .u16 c0)/\StL l (A0 b) 9 [.slice n.a n.len n.cap, .slice o.a o.len o.cap, .int .i64 L, .int .u32 T, .int .u64 U, .int .u16 a3, .int .u32 b1, .int .u64 b4, .int .u16 c0] fun i6=>St1 i6 (A0 m) (.int .i64 0) fun h=>∃ I:Sl,Cell h (A0 b) (.slice I.a I.len I.cap)/\∃ B:Sl,Cell h ((A0 b).add 1) (.slice B.a B.len B.cap)/\∃ c4:Int,Cell h ((A0 b).add 2) (.int .i64 c4)/\∃ c5:Int,Cell h ((A0 b).add 3) (.int .u32 c5)/\∃ c6:Int,Cell h ((A0 b).add 4) (.int .u64 c6)/\∃ c7:Int,Cell h ((A0 b).add 5) (.int .u16 c7)/\∃ c8:Int,Cell h ((A0 b).add 6) (.int .u32 c8)/\∃ c9:Int,Cell h ((A0 b).add 7) (.int .u64 c9)/\∃ d0:Int,Cell h ((A0 b).add 8) (.int .u16 d0)/\∃ g3:Int,Cell h (A0 m) (.int .i64 g3)/\K I B c4 c5 c6 c7 c8 c9 d0 g3 h) (C_chain_Cut value h1 fun h2 f8 i=>If (f8 != 0) (∃ p:Sl,Cell i (A0 a) (.slice p.a p.len p.cap)/\∃ q:Sl,Cell i ((A0 a).add 1) (.slice q.a q.len q.cap)/\∃ M:Int,Cell i ((A0 a).add 2) (.int .i64 M)/\∃ N:Int,Cell i ((A0 a).add 3) (.int .u32 N)/\∃ O:Int,Cell i ((A0 a).add 4) (.int .u64 O)/\∃ P:Int,Cell i ((A0 a).add 5) (.int .u16 P)/\∃ Q:Int,Cell i ((A0 a).add 6) (.int .u32 Q)/\∃ R:Int,Cell i ((A0 a).add 7) (.int .u64 R)/\∃ S:Int,Cell i ((A0 a).add 8) (.int .u16 S)/\StL i (A0 b) 9 [.slice p.a p.len p.cap, .slice q.a q.len q.cap, .int .i64 M, .int .u32 N, .int .u64 O, .int .u16 P, .int .u32 Q, .int .u64 R, .int .u16 S] fun h5=>St1 h5 (A0 m) (.int .i64 f8) fun j=>∃ C:Sl,Cell j (A0 b) (.slice C.a C.len C.cap)/\∃ D:Sl,Cell j ((A0 b).add 1) (.slice D.a D.len D.cap)/\∃ d1:Int,Cell j ((A0 b).add 2) (.int .i64 d1)/\∃ d2:Int,Cell j ((A0 b).add 3) (.int .u32 d2)/\∃ d3:Int,Cell j ((A0 b).add 4) (.int .u64 d3)/\∃ d4:Int,Cell j ((A0 b).add 5) (.int .u16 d4)/\∃ d5:Int,Cell j ((A0 b).add 6) (.int .u32 d5)/\∃ d6:Int,Cell j ((A0 b).add 7) (.int .u64 d6)/\∃ d7:Int,Cell j ((A0 b).add 8) (.int .u16 d7)/\∃ g4:Int,Cell j (A0 m) (.int .i64 g4)/\K C D d1 d2 d3 d4 d5 d6 d7 g4 j) (C_slices_Backward_byte_byte h2 i fun h3 h6=>∀(c:Loop)(dk lp:Nat)(w15:Wd),RfNew h6 c dk lp w15->(∀(i7:Value)(J:Sl)(y:Wd)(A:Bool->Wd->Prop),RfSt lp c .ready none y->(RfSt lp c .ready none y/\∃ d8:Int,Cell (rfPut lp c .busy none y) ((A0 a).add 3) (.int .u32 d8)/\∃ d9:Int,Cell (rfPut lp c .busy none y) (((A0 a).add 3).add 1) (.int .u64 d9)/\∃ e0:Int,Cell (rfPut lp c .busy none y) (((A0 a).add 3).add 2) (.int .u16 e0)/\C_chain_Page J d8 d9 e0 (rfPut lp c .busy none y) fun c1 f9 e=>If (f9 != 0) (∃ r:Sl,Cell e (A0 a) (.slice r.a r.len r.cap)/\∃ s:Sl,Cell e ((A0 a).add 1) (.slice s.a s.len s.cap)/\∃ V:Int,Cell e ((A0 a).add 2) (.int .i64 V)/\∃ W:Int,Cell e ((A0 a).add 3) (.int .u32 W)/\∃ Y:Int,Cell e ((A0 a).add 4) (.int .u64 Y)/\∃ Z:Int,Cell e ((A0 a).add 5) (.int .u16 Z)/\∃ a0:Int,Cell e ((A0 a).add 6) (.int .u32 a0)/\∃ a1:Int,Cell e ((A0 a).add 7) (.int .u64 a1)/\∃ a2:Int,Cell e ((A0 a).add 8) (.int .u16 a2)/\StL e (A0 b) 9 [.slice r.a r.len r.cap, .slice s.a s.len s.cap, .int .i64 V, .int .u32 W, .int .u64 Y, .int .u16 Z, .int .u32 a0, .int .u64 a1, .int .u16 a2] fun h7=>St1 h7 (A0 m) (.int .i64 f9) fun g9=>RfSt lp c .busy none g9/\A false (rfPut lp c .done (some .ret) g9)) (∃ g5:Value,Cell e (A0 c3) (g5)/\∃ g6:Int,Cell e ((A0 c3).add 1) (.int .u32 g6)/\invV pz g5 "Put" [.int .u32 g6, .int .u8 3, .int .u8 0, .slice c1.a c1.len c1.cap] [.agg [.one (.int .u32), .one (.int .u64), .one (.int .u16)], .one (.int .i64)] (fun f5 f6 f7 g2 h9=>StL h9 ((A0 a).add 3) 3 [.int .u32 f5, .int .u64 f6, .int .u16 f7] fun f=>If (g2 != 0) (∃ t:Sl,Cell f (A0 a) (.slice t.a t.len t.cap)/\∃ u:Sl,Cell f ((A0 a).add 1) (.slice u.a u.len u.cap)/\∃ a4:Int,Cell f ((A0 a).add 2) (.int .i64 a4)/\∃ a5:Int,Cell f ((A0 a).add 3) (.int .u32 a5)/\∃ a6:Int,Cell f ((A0 a).add 4) (.int .u64 a6)/\∃ a7:Int,Cell f ((A0 a).add 5) (.int .u16 a7)/\∃ a8:Int,Cell f ((A0 a).add 6) (.int .u32 a8)/\∃ a9:Int,Cell f ((A0 a).add 7) (.int .u64 a9)/\∃ b0:Int,Cell f ((A0 a).add 8) (.int .u16 b0)/\StL f (A0 b) 9 [.slice t.a t.len t.cap, .slice u.a u.len u.cap, .int .i64 a4, .int .u32 a5, .int .u64 a6, .int .u16 a7, .int .u32 a8, .int .u64 a9, .int .u16 b0] fun i0=>St1 i0 (A0 m) (.int .i64 g2) fun h0=>RfSt lp c .busy none h0/\A false (rfPut lp c .done (some .ret) h0)) (RfSt lp c .busy none f/\A true (rfPut lp c .ready none f))) NoX e))->dynV pz true (.func (.yield lp) #[] #[]) [i7, .slice J.a J.len J.cap] [.one .bool] A NoX y)->dynV pz false (h3) [.func (.yield lp) #[] #[]] [] (fun d=>(RfSt lp c .done (some .ret) d/\DefSt dk ((rfPut lp c .exhausted (some .ret) d))/\∃ E:Sl,Cell ((defShut dk ((rfPut lp c .exhausted (some .ret) d)))) (A0 b) (.slice E.a E.len E.cap)/\∃ F:Sl,Cell ((defShut dk ((rfPut lp c .exhausted (some .ret) d)))) ((A0 b).add 1) (.slice F.a F.len F.cap)/\∃ e1:Int,Cell ((defShut dk ((rfPut lp c .exhausted (some .ret) d)))) ((A0 b).add 2) (.int .i64 e1)/\∃ e2:Int,Cell ((defShut dk ((rfPut lp c .exhausted (some .ret) d)))) ((A0 b).add 3) (.int .u32 e2)/\∃ e3:Int,Cell ((defShut dk ((rfPut lp c .exhausted (some .ret) d)))) ((A0 b).add 4) (.int .u64 e3)/\∃ e4:Int,Cell ((defShut dk ((rfPut lp c .exhausted (some .ret) d)))) ((A0 b).add 5) (.int .u16 e4)/\∃ e5:Int,Cell ((defShut dk ((rfPut lp c .exhausted (some .ret) d)))) ((A0 b).add 6) (.int .u32 e5)/\∃ e6:Int,Cell ((defShut dk ((rfPut lp c .exhausted (some .ret) d)))) ((A0 b).add 7) (.int .u64 e6)/\∃ e7:Int,Cell ((defShut dk ((rfPut lp c .exhausted (some .ret) d)))) ((A0 b).add 8) (.int .u16 e7)/\∃ g7:Int,Cell ((defShut dk ((rfPut lp c .exhausted (some .ret) d)))) (A0 m) (.int .i64 g7)/\K E F e1 e2 e3 e4 e5 e6 e7 g7 ((defShut dk ((rfPut lp c .exhausted (some .ret) d))))) ∨  (RfSt lp c .ready none d/\St1 (rfPut lp c .exhausted none d) ((A0 a).add 2) (.int .i64 ((value.len:Int))) fun k=>∃ v:Sl,Cell k (A0 a) (.slice v.a v.len v.cap)/\∃ x:Sl,Cell k ((A0 a).add 1) (.slice x.a x.len x.cap)/\∃ b2:Int,Cell k ((A0 a).add 2) (.int .i64 b2)/\∃ b3:Int,Cell k ((A0 a).add 3) (.int .u32 b3)/\∃ b5:Int,Cell k ((A0 a).add 4) (.int .u64 b5)/\∃ b6:Int,Cell k ((A0 a).add 5) (.int .u16 b6)/\∃ b7:Int,Cell k ((A0 a).add 6) (.int .u32 b7)/\∃ b8:Int,Cell k ((A0 a).add 7) (.int .u64 b8)/\∃ b9:Int,Cell k ((A0 a).add 8) (.int .u16 b9)/\StL k (A0 b) 9 [.slice v.a v.len v.cap, .slice x.a x.len x.cap, .int .i64 b2, .int .u32 b3, .int .u64 b5, .int .u16 b6, .int .u32 b7, .int .u64 b8, .int .u16 b9] fun i1=>St1 i1 (A0 m) (.int .i64 0) fun g=>DefSt dk g/\∃ G:Sl,Cell ((defShut dk g)) (A0 b) (.slice G.a G.len G.cap)/\∃ H:Sl,Cell ((defShut dk g)) ((A0 b).add 1) (.slice H.a H.len H.cap)/\∃ e8:Int,Cell ((defShut dk g)) ((A0 b).add 2) (.int .i64 e8)/\∃ e9:Int,Cell ((defShut dk g)) ((A0 b).add 3) (.int .u32 e9)/\∃ f0:Int,Cell ((defShut dk g)) ((A0 b).add 4) (.int .u64 f0)/\∃ f1:Int,Cell ((defShut dk g)) ((A0 b).add 5) (.int .u16 f1)/\∃ f2:Int,Cell ((defShut dk g)) ((A0 b).add 6) (.int .u32 f2)/\∃ f3:Int,Cell ((defShut dk g)) ((A0 b).add 7) (.int .u64 f3)/\∃ f4:Int,Cell ((defShut dk g)) ((A0 b).add 8) (.int .u16 f4)/\∃ g8:Int,Cell ((defShut dk g)) (A0 m) (.int .i64 g8)/\K G H e8 e9 f0 f1 f2 f3 f4 g8 ((defShut dk g)))) NoX w15))
def A_tree_grove_store:Sp:=(.next n0 (.next n0 (.next (qz (.cond (qz (qz n0)) n0)) (.next n0 (.next (qz (.cond (qz n0) n0)) (.here n0 ⟨[(36, .one (.val)),(37, .one (.sl))],[none],n0,(.block (qz (.seq (qz (.cond (qz n0) n0)) (qz (qz (.cond (qz n0) n0))))))⟩ (qz (qz n0))))))))
theorem S_tree_grove_store{g0:Value}{g1:Int}{key value:Sl}{w:Wd}{K:Sl->Sl->Int->Int->Int->Int->Int->Int->Int->Int->Wd->Prop}(h:F_tree_grove_store g0 g1 key value w K):C_tree_grove_store g0 g1 key value w K :=
 mkR (pk:=PK) (s:=A_tree_grove_store) (args:=[.agg ([g0, .int .u32 g1]).toArray, .slice key.a key.len key.cap, .slice value.a value.len value.cap]) (tys:=[.agg [.one (.sl), .one (.sl), .one (.int .i64), .one (.int .u32), .one (.int .u64), .one (.int .u16), .one (.int .u32), .one (.int .u64), .one (.int .u16)], .one (.int .i64)]) (K:=K) (w:=w) Tryz.func371 (by kernel_rfl) (by kernel_rfl) (by kernel_rfl) h
section
variable {w:Wd}
theorem perm1{β:Type}{a b:List β}(h:a.Perm b)(hl:b.length<=1):a=b:=by
 match b,hl with
 | [],_=>exact h.eq_nil
 | [x],_=>exact List.perm_singleton.1 h
 | _::_::_,hl=>simp at hl
theorem one_string{base:Nat}{s:Sl}{cs xs:List Value}{K:Sl->Wd->Prop}(own:Own w.heap base 9 1 s cs)(hbase:base<=w.heap.size)(hx:xs.length=1)(hv:∀ v∈xs,oneC v=true)(hb:s.len<=1000000)
  (hk:∀ s' w',Own w'.heap base 9 1 s' (cs++xs)->s'.len=s.len+1->Ext (fun b=>s.blk=some b) w w'->(s'.blk=s.blk∨∃ b,s'.blk=some b/\w.heap.size<=b)->K s' w'):NewW w (.cells xs.toArray 9) fun b w1=>AppW pz 371 371 s (.slice (some (Addr.mk b 0 none)) 1 1) K w1:=by
 intro b w1 n
 have hz:=n.ext.size
 refine app_string (own.no n.ext) (by omega) (Rd.src (Own.new (n:=1) n (by omega) hv).rd) (by show (s.len+1) * _<=_; omega) fun s' w' o l x hs=>hk s' w' o l ?_ ?_
 .exact Ext.trans n.ext.of_no x fun i _ h=>h
 .rcases hs with h | ⟨b,h,hb⟩
  .exact .inl h
  .exact .inr ⟨b,h,by omega⟩
theorem one_uint64{base:Nat}{s:Sl}{cs xs:List Value}{K:Sl->Wd->Prop}(own:Own w.heap base 24 1 s cs)(hbase:base<=w.heap.size)(hx:xs.length=1)(hv:∀ v∈xs,oneC v=true)(hb:s.len<=1000000)
  (hk:∀ s' w',Own w'.heap base 24 1 s' (cs++xs)->s'.len=s.len+1->Ext (fun b=>s.blk=some b) w w'->(s'.blk=s.blk∨∃ b,s'.blk=some b/\w.heap.size<=b)->K s' w'):NewW w (.cells xs.toArray 24) fun b w1=>AppW pz 118 118 s (.slice (some (Addr.mk b 0 none)) 1 1) K w1:=by
 intro b w1 n
 have hz:=n.ext.size
 refine app_uint64 (own.no n.ext) (by omega) (Rd.src (Own.new (n:=1) n (by omega) hv).rd) (by show (s.len+1) * _<=_; omega) fun s' w' o l x hs=>hk s' w' o l ?_ ?_
 .exact Ext.trans n.ext.of_no x fun i _ h=>h
 .rcases hs with h | ⟨b,h,hb⟩
  .exact .inl h
  .exact .inr ⟨b,h,by omega⟩
theorem mapK368:∃ kt et,Tryz.prog.underlying 368=some (.map kt et):=⟨9,93,by kernel_rfl⟩
set_option maxHeartbeats 1000000 in
theorem appendKeys_string{bc r:Nat}{m:List (ByteArray×Value)}{K:Sl->Wd->Prop}(g:w.heap[bc]? = some (.cells [Value.map (some r)].toArray 368 (0,0)))(hm:MapR w.heap (Value.string) r m)(hl:m.length<=1)
  (k:∀ s w',Own w'.heap w.heap.size 9 1 s ((encM (Value.string) m).map Prod.fst)->Ext No w w'->K s w'):C_slices_AppendSeq_string_string ⟨none,0,0⟩ (.func (.func 369) #[] #[.pointer (some ⟨bc,0,none⟩)]) w K:=by
 apply S_slices_AppendSeq_string_string
 refine fun b w1 n1 rf dk lp w2 hnew hyield=>?_
 have hb:=n1.at_; have z1:=n1.size
 obtain ⟨x12,z2,hrf,hdf⟩:=hnew.facts
 have hlp:lp=w1.heap.size+1:=hnew.l
 have hdk:dk=w1.heap.size:=hnew.d
 have x02:Ext No w w2:=n1.ext.no x12
 have gno:∀{u v:Wd}{c:Nat}{o:Obj},u.heap[c]? = some o->Ext No u v->v.heap[c]? = some o:=fun h x=>(x.blk _ (hlt h) fun h=>h).trans h
 have gex:∀{S:Nat->Prop}{u v:Wd}{c:Nat}{o:Obj},u.heap[c]? = some o->Ext S u v->¬ S c->v.heap[c]? = some o:=fun h x hs=>(x.blk _ (hlt h) hs).trans h
 refine V_maps_Keys_map_string_api_Op_string_api_Op_1 (S_maps_Keys_map_string_api_Op_string_api_Op_1 ⟨some r,Cell.lst (gno g x02) rfl,?_⟩)
 obtain ⟨kt,et,hmt⟩:=mapK368
 have hm2:=hm.ext x02 fun h=>h
 have hrlt:r < w.heap.size:=by obtain ⟨es,c,h,_⟩:=hm; exact hlt h
 obtain ⟨w3,hrun,hI,x3,z3⟩:=ItR.start (P:=pz) hmt hm2
 refine ⟨some ⟨w2.heap.size,0,none⟩,w3,hrun,fun q u=>∃ sm s,q=m.length - sm.length/\ItR (Value.string) u w2.heap.size r m sm/\RfSt lp rf .ready none u/\DefSt dk u/\Ext No w u/\u.heap[b]? = some (.cells [Sl.v s].toArray 371 (0,0))/\Own u.heap (w2.heap.size+1) 9 1 s ((encM (Value.string) sm).map Prod.fst),⟨_,[],⟨none,0,0⟩,rfl,hI,hrf.ext x3 fun h=>h,hdf.ext x3 fun h=>h,x02.no x3,gno n1.get (x12.no x3),Own.nil _ _ _ _⟩,?_⟩
 rintro _ q u ⟨sm,s,rfl,hI,h1,h2,h3,h4,h5⟩
 have zu:=hI.lt
 rcases hI.next (P:=pz) (by omega) with ⟨hp,w4,hn,x4⟩ | ⟨p,w4,hn,he,hI4,x4,hpm,_,hlen⟩
 .refine .inl ⟨w4,hn,h1.ext x4 fun h=>h,s,?_⟩
  have e:=perm1 hp (by rw [List.length_map]; exact hl)
  rw [e] at h5
  have xp:Ext (·=lp) w4 (rfPut lp rf .exhausted none w4):=rfPut_ext
  have xd:Ext (·=dk) (rfPut lp rf .exhausted none w4) (defShut dk (rfPut lp rf .exhausted none w4)):=defShut_ext
  have h44:=gno h4 x4
  refine ⟨Cell.lst (gex h44 xp (by omega)) rfl,(h2.ext x4 fun h=>h).ext xp (by omega),k s _ ?_ ?_⟩
  .exact (((h5.no x4).ext xp fun i hi h=>by have:=(h5.lt hi).1; omega).ext xd fun i hi h=>by have:=(h5.lt hi).1; omega).mono (by omega)
  .exact ((h3.no x4).trans xp fun i hi h=>by omega).trans xd fun i hi h=>by omega
 .refine .inr ⟨Value.string p.1,p.2,w4,hn,Value.string p.1,p.2,w4,he,?_⟩
  have h14:=h1.ext x4 (by omega)
  have xb:Ext (·=lp) w4 (rfPut lp rf .busy none w4):=rfPut_ext
  have zb:(rfPut lp rf .busy none w4).heap.size=w4.heap.size:=rfPut_size
  have z4:=x4.size
  have h44:=gex h4 x4 (by omega)
  have slt:∀ i,s.blk=some i->w2.heap.size+1<=i/\i < u.heap.size:=fun i hi=>h5.lt hi
  have h5b:=(h5.ext x4 fun i hi h=>by have:=slt i hi; omega).ext xb fun i hi h=>by have:=slt i hi; omega
  have hsl:=h5.len
  simp only [List.length_map,Nat.mul_one] at hsl
  refine hyield p.1 w4 _ h14 ⟨h14,s,Cell.lst (gex h44 xb (by omega)) rfl,?_⟩
  refine one_string h5b (by omega) rfl (one1 rfl) (by omega) fun s5 w5 o5 l5 x5 _=>?_
  have x45:Ext (fun q=>q=lp∨s.blk=some q) w4 w5:=(xb.mono fun _ _ h => .inl h).trans x5 fun _ _ h => .inr h
  have h45:=gex h44 x45 fun h=>h.elim (fun h=>by omega) fun h=>by have:=slt _ h; omega
  refine St1.mk h45 Nat.one_pos rfl fun w6 h6=>?_
  have x56:=h6.ext
  have st6:RfSt lp rf .busy none w6:=((h14.put (st' := .busy) (p':=none)).ext x5 fun h=>by have:=slt _ h; omega).ext x56 (by omega)
  have x6r:Ext (·=lp) w6 (rfPut lp rf .ready none w6):=rfPut_ext
  have xall:Ext (fun q=>q=lp∨s.blk=some q∨q=b) w4 (rfPut lp rf .ready none w6):=((x45.mono fun i _ h=>h.imp id Or.inl).trans x56 fun i _ h => .inr (.inr h)).trans x6r fun i _ h => .inl h
  have z6:=x56.size; have z5:=x5.size
  refine ⟨st6,If.not (If.yes ⟨m.length - (sm.length+1),by omega,sm++[p],s5,by simp,hI4.ext xall ?_ ?_,st6.put,?_,?_,?_,?_⟩)⟩
  .rintro (h | h | h)
   .omega
   .have:=slt _ h; omega
   .omega
  .rintro (h | h | h)
   .omega
   .have:=slt _ h; omega
   .omega
  .refine (h2.ext x4 (by omega)).ext xall ?_
   rintro (h | h | h)
   .omega
   .have:=slt _ h; omega
   .omega
  .refine (h3.trans x4 fun i hi h=>by omega).trans xall fun i hi h=>?_
   rcases h with h | h | h
   .omega
   .have:=slt _ h; omega
   .omega
  .exact gex (h6.get h45) x6r (by omega)
  .have o6:=(o5.ext x56 fun i hi h=>by have:=(o5.lt hi).1; omega).ext x6r fun i hi h=>by have:=(o5.lt hi).1; omega
   simpa [encM] using o6
theorem mapK41:∃ kt et,Tryz.prog.underlying 41=some (.map kt et):=⟨33,110,by kernel_rfl⟩
set_option maxHeartbeats 1000000 in
theorem appendKeys_uint32{bc r:Nat}{m:List (Int×Value)}{K:Sl->Wd->Prop}(g:w.heap[bc]? = some (.cells [Value.map (some r)].toArray 41 (0,0)))(hm:MapR w.heap (Value.int .u32) r m)(hl:m.length<=1)
  (k:∀ s w',Own w'.heap w.heap.size 33 1 s ((encM (Value.int .u32) m).map Prod.fst)->Ext No w w'->K s w'):C_slices_AppendSeq_uint32_uint32 ⟨none,0,0⟩ (.func (.func 93) #[] #[.pointer (some ⟨bc,0,none⟩)]) w K:=by
 apply S_slices_AppendSeq_uint32_uint32
 refine fun b w1 n1 rf dk lp w2 hnew hyield=>?_
 have hb:=n1.at_; have z1:=n1.size
 obtain ⟨x12,z2,hrf,hdf⟩:=hnew.facts
 have hlp:lp=w1.heap.size+1:=hnew.l
 have hdk:dk=w1.heap.size:=hnew.d
 have x02:Ext No w w2:=n1.ext.no x12
 have gno:∀{u v:Wd}{c:Nat}{o:Obj},u.heap[c]? = some o->Ext No u v->v.heap[c]? = some o:=fun h x=>(x.blk _ (hlt h) fun h=>h).trans h
 have gex:∀{S:Nat->Prop}{u v:Wd}{c:Nat}{o:Obj},u.heap[c]? = some o->Ext S u v->¬ S c->v.heap[c]? = some o:=fun h x hs=>(x.blk _ (hlt h) hs).trans h
 refine V_maps_Keys_map_uint32_vault_tenant_uint32_vault_tenant_1 (S_maps_Keys_map_uint32_vault_tenant_uint32_vault_tenant_1 ⟨some r,Cell.lst (gno g x02) rfl,?_⟩)
 obtain ⟨kt,et,hmt⟩:=mapK41
 have hm2:=hm.ext x02 fun h=>h
 have hrlt:r < w.heap.size:=by obtain ⟨es,c,h,_⟩:=hm; exact hlt h
 obtain ⟨w3,hrun,hI,x3,z3⟩:=ItR.start (P:=pz) hmt hm2
 refine ⟨some ⟨w2.heap.size,0,none⟩,w3,hrun,fun q u=>∃ sm s,q=m.length - sm.length/\ItR (Value.int .u32) u w2.heap.size r m sm/\RfSt lp rf .ready none u/\DefSt dk u/\Ext No w u/\u.heap[b]? = some (.cells [Sl.v s].toArray 68 (0,0))/\Own u.heap (w2.heap.size+1) 33 1 s ((encM (Value.int .u32) sm).map Prod.fst),⟨_,[],⟨none,0,0⟩,rfl,hI,hrf.ext x3 fun h=>h,hdf.ext x3 fun h=>h,x02.no x3,gno n1.get (x12.no x3),Own.nil _ _ _ _⟩,?_⟩
 rintro _ q u ⟨sm,s,rfl,hI,h1,h2,h3,h4,h5⟩
 have zu:=hI.lt
 rcases hI.next (P:=pz) (by omega) with ⟨hp,w4,hn,x4⟩ | ⟨p,w4,hn,he,hI4,x4,hpm,_,hlen⟩
 .refine .inl ⟨w4,hn,h1.ext x4 fun h=>h,s,?_⟩
  have e:=perm1 hp (by rw [List.length_map]; exact hl)
  rw [e] at h5
  have xp:Ext (·=lp) w4 (rfPut lp rf .exhausted none w4):=rfPut_ext
  have xd:Ext (·=dk) (rfPut lp rf .exhausted none w4) (defShut dk (rfPut lp rf .exhausted none w4)):=defShut_ext
  have h44:=gno h4 x4
  refine ⟨Cell.lst (gex h44 xp (by omega)) rfl,(h2.ext x4 fun h=>h).ext xp (by omega),k s _ ?_ ?_⟩
  .exact (((h5.no x4).ext xp fun i hi h=>by have:=(h5.lt hi).1; omega).ext xd fun i hi h=>by have:=(h5.lt hi).1; omega).mono (by omega)
  .exact ((h3.no x4).trans xp fun i hi h=>by omega).trans xd fun i hi h=>by omega
 .refine .inr ⟨Value.int .u32 p.1,p.2,w4,hn,p.1,p.2,w4,he,?_⟩
  have h14:=h1.ext x4 (by omega)
  have xb:Ext (·=lp) w4 (rfPut lp rf .busy none w4):=rfPut_ext
  have zb:(rfPut lp rf .busy none w4).heap.size=w4.heap.size:=rfPut_size
  have z4:=x4.size
  have h44:=gex h4 x4 (by omega)
  have slt:∀ i,s.blk=some i->w2.heap.size+1<=i/\i < u.heap.size:=fun i hi=>h5.lt hi
  have h5b:=(h5.ext x4 fun i hi h=>by have:=slt i hi; omega).ext xb fun i hi h=>by have:=slt i hi; omega
  have hsl:=h5.len
  simp only [List.length_map,Nat.mul_one] at hsl
  refine hyield p.1 w4 _ h14 ⟨h14,s,Cell.lst (gex h44 xb (by omega)) rfl,?_⟩
  refine one_uint32 h5b (by omega) rfl (one1 rfl) (by omega) fun s5 w5 o5 l5 x5 _=>?_
  have x45:Ext (fun q=>q=lp∨s.blk=some q) w4 w5:=(xb.mono fun _ _ h => .inl h).trans x5 fun _ _ h => .inr h
  have h45:=gex h44 x45 fun h=>h.elim (fun h=>by omega) fun h=>by have:=slt _ h; omega
  refine St1.mk h45 Nat.one_pos rfl fun w6 h6=>?_
  have x56:=h6.ext
  have st6:RfSt lp rf .busy none w6:=((h14.put (st' := .busy) (p':=none)).ext x5 fun h=>by have:=slt _ h; omega).ext x56 (by omega)
  have x6r:Ext (·=lp) w6 (rfPut lp rf .ready none w6):=rfPut_ext
  have xall:Ext (fun q=>q=lp∨s.blk=some q∨q=b) w4 (rfPut lp rf .ready none w6):=((x45.mono fun i _ h=>h.imp id Or.inl).trans x56 fun i _ h => .inr (.inr h)).trans x6r fun i _ h => .inl h
  have z6:=x56.size; have z5:=x5.size
  refine ⟨st6,If.not (If.yes ⟨m.length - (sm.length+1),by omega,sm++[p],s5,by simp,hI4.ext xall ?_ ?_,st6.put,?_,?_,?_,?_⟩)⟩
  .rintro (h | h | h)
   .omega
   .have:=slt _ h; omega
   .omega
  .rintro (h | h | h)
   .omega
   .have:=slt _ h; omega
   .omega
  .refine (h2.ext x4 (by omega)).ext xall ?_
   rintro (h | h | h)
   .omega
   .have:=slt _ h; omega
   .omega
  .refine (h3.trans x4 fun i hi h=>by omega).trans xall fun i hi h=>?_
   rcases h with h | h | h
   .omega
   .have:=slt _ h; omega
   .omega
  .exact gex (h6.get h45) x6r (by omega)
  .have o6:=(o5.ext x56 fun i hi h=>by have:=(o5.lt hi).1; omega).ext x6r fun i hi h=>by have:=(o5.lt hi).1; omega
   simpa [encM] using o6
theorem mapK115:∃ kt et,Tryz.prog.underlying 115=some (.map kt et):=⟨24,124,by kernel_rfl⟩
set_option maxHeartbeats 1000000 in
theorem appendKeys_uint64{bc r:Nat}{m:List (Int×Value)}{K:Sl->Wd->Prop}(g:w.heap[bc]? = some (.cells [Value.map (some r)].toArray 115 (0,0)))(hm:MapR w.heap (Value.int .u64) r m)(hl:m.length<=1)
  (k:∀ s w',Own w'.heap w.heap.size 24 1 s ((encM (Value.int .u64) m).map Prod.fst)->Ext No w w'->K s w'):C_slices_AppendSeq_uint64_uint64 ⟨none,0,0⟩ (.func (.func 96) #[] #[.pointer (some ⟨bc,0,none⟩)]) w K:=by
 apply S_slices_AppendSeq_uint64_uint64
 refine fun b w1 n1 rf dk lp w2 hnew hyield=>?_
 have hb:=n1.at_; have z1:=n1.size
 obtain ⟨x12,z2,hrf,hdf⟩:=hnew.facts
 have hlp:lp=w1.heap.size+1:=hnew.l
 have hdk:dk=w1.heap.size:=hnew.d
 have x02:Ext No w w2:=n1.ext.no x12
 have gno:∀{u v:Wd}{c:Nat}{o:Obj},u.heap[c]? = some o->Ext No u v->v.heap[c]? = some o:=fun h x=>(x.blk _ (hlt h) fun h=>h).trans h
 have gex:∀{S:Nat->Prop}{u v:Wd}{c:Nat}{o:Obj},u.heap[c]? = some o->Ext S u v->¬ S c->v.heap[c]? = some o:=fun h x hs=>(x.blk _ (hlt h) hs).trans h
 refine V_maps_Keys_map_uint64_vault_shot_uint64_vault_shot_1 (S_maps_Keys_map_uint64_vault_shot_uint64_vault_shot_1 ⟨some r,Cell.lst (gno g x02) rfl,?_⟩)
 obtain ⟨kt,et,hmt⟩:=mapK115
 have hm2:=hm.ext x02 fun h=>h
 have hrlt:r < w.heap.size:=by obtain ⟨es,c,h,_⟩:=hm; exact hlt h
 obtain ⟨w3,hrun,hI,x3,z3⟩:=ItR.start (P:=pz) hmt hm2
 refine ⟨some ⟨w2.heap.size,0,none⟩,w3,hrun,fun q u=>∃ sm s,q=m.length - sm.length/\ItR (Value.int .u64) u w2.heap.size r m sm/\RfSt lp rf .ready none u/\DefSt dk u/\Ext No w u/\u.heap[b]? = some (.cells [Sl.v s].toArray 118 (0,0))/\Own u.heap (w2.heap.size+1) 24 1 s ((encM (Value.int .u64) sm).map Prod.fst),⟨_,[],⟨none,0,0⟩,rfl,hI,hrf.ext x3 fun h=>h,hdf.ext x3 fun h=>h,x02.no x3,gno n1.get (x12.no x3),Own.nil _ _ _ _⟩,?_⟩
 rintro _ q u ⟨sm,s,rfl,hI,h1,h2,h3,h4,h5⟩
 have zu:=hI.lt
 rcases hI.next (P:=pz) (by omega) with ⟨hp,w4,hn,x4⟩ | ⟨p,w4,hn,he,hI4,x4,hpm,_,hlen⟩
 .refine .inl ⟨w4,hn,h1.ext x4 fun h=>h,s,?_⟩
  have e:=perm1 hp (by rw [List.length_map]; exact hl)
  rw [e] at h5
  have xp:Ext (·=lp) w4 (rfPut lp rf .exhausted none w4):=rfPut_ext
  have xd:Ext (·=dk) (rfPut lp rf .exhausted none w4) (defShut dk (rfPut lp rf .exhausted none w4)):=defShut_ext
  have h44:=gno h4 x4
  refine ⟨Cell.lst (gex h44 xp (by omega)) rfl,(h2.ext x4 fun h=>h).ext xp (by omega),k s _ ?_ ?_⟩
  .exact (((h5.no x4).ext xp fun i hi h=>by have:=(h5.lt hi).1; omega).ext xd fun i hi h=>by have:=(h5.lt hi).1; omega).mono (by omega)
  .exact ((h3.no x4).trans xp fun i hi h=>by omega).trans xd fun i hi h=>by omega
 .refine .inr ⟨Value.int .u64 p.1,p.2,w4,hn,p.1,p.2,w4,he,?_⟩
  have h14:=h1.ext x4 (by omega)
  have xb:Ext (·=lp) w4 (rfPut lp rf .busy none w4):=rfPut_ext
  have zb:(rfPut lp rf .busy none w4).heap.size=w4.heap.size:=rfPut_size
  have z4:=x4.size
  have h44:=gex h4 x4 (by omega)
  have slt:∀ i,s.blk=some i->w2.heap.size+1<=i/\i < u.heap.size:=fun i hi=>h5.lt hi
  have h5b:=(h5.ext x4 fun i hi h=>by have:=slt i hi; omega).ext xb fun i hi h=>by have:=slt i hi; omega
  have hsl:=h5.len
  simp only [List.length_map,Nat.mul_one] at hsl
  refine hyield p.1 w4 _ h14 ⟨h14,s,Cell.lst (gex h44 xb (by omega)) rfl,?_⟩
  refine one_uint64 h5b (by omega) rfl (one1 rfl) (by omega) fun s5 w5 o5 l5 x5 _=>?_
  have x45:Ext (fun q=>q=lp∨s.blk=some q) w4 w5:=(xb.mono fun _ _ h => .inl h).trans x5 fun _ _ h => .inr h
  have h45:=gex h44 x45 fun h=>h.elim (fun h=>by omega) fun h=>by have:=slt _ h; omega
  refine St1.mk h45 Nat.one_pos rfl fun w6 h6=>?_
  have x56:=h6.ext
  have st6:RfSt lp rf .busy none w6:=((h14.put (st' := .busy) (p':=none)).ext x5 fun h=>by have:=slt _ h; omega).ext x56 (by omega)
  have x6r:Ext (·=lp) w6 (rfPut lp rf .ready none w6):=rfPut_ext
  have xall:Ext (fun q=>q=lp∨s.blk=some q∨q=b) w4 (rfPut lp rf .ready none w6):=((x45.mono fun i _ h=>h.imp id Or.inl).trans x56 fun i _ h => .inr (.inr h)).trans x6r fun i _ h => .inl h
  have z6:=x56.size; have z5:=x5.size
  refine ⟨st6,If.not (If.yes ⟨m.length - (sm.length+1),by omega,sm++[p],s5,by simp,hI4.ext xall ?_ ?_,st6.put,?_,?_,?_,?_⟩)⟩
  .rintro (h | h | h)
   .omega
   .have:=slt _ h; omega
   .omega
  .rintro (h | h | h)
   .omega
   .have:=slt _ h; omega
   .omega
  .refine (h2.ext x4 (by omega)).ext xall ?_
   rintro (h | h | h)
   .omega
   .have:=slt _ h; omega
   .omega
  .refine (h3.trans x4 fun i hi h=>by omega).trans xall fun i hi h=>?_
   rcases h with h | h | h
   .omega
   .have:=slt _ h; omega
   .omega
  .exact gex (h6.get h45) x6r (by omega)
  .have o6:=(o5.ext x56 fun i hi h=>by have:=(o5.lt hi).1; omega).ext x6r fun i hi h=>by have:=(o5.lt hi).1; omega
   simpa [encM] using o6
end
end Go.Proofs.YtmbckodpbdlblaaGreat
namespace Go.V
theorem wrE_b8{kind:Int}{e:Ent}(h1:B8 e.key)(h2:B8 e.val):B8 (wrE kind e):=by
 unfold wrE
 refine (B8.cons (by omega) h1).append ?_
 split
 .exact ((be_b8 _ _).append (be_b8 _ _)).append (be_b8 _ _)
 .split
  .exact (B8.cons (by omega) (B8.cons (by omega) (B8.cons (by omega) B8.nil))).append (((be_b8 _ _).append (be_b8 _ _)).append (be_b8 _ _))
  .exact (B8.cons (by omega) (B8.cons (by omega) B8.nil)).append h2
theorem pad_b8{l:List Int}(h:B8 l):B8 (pad l):=h.append fun x hx=>by rw [List.mem_replicate] at hx; omega
theorem wr_b8{kind lev:Int}{l:List Ent}(hk:0<=kind/\kind<=255)(hv:0<=lev/\lev<=255)(h:∀ e∈l,B8 e.key/\B8 e.val):B8 (wr kind lev l):=by
 refine (B8.cons hk (B8.cons hv (B8.cons (by omega) B8.nil))).append fun x hx=>?_
 obtain ⟨e,he,hx⟩:=List.mem_flatMap.1 hx
 exact wrE_b8 (h e he).1 (h e he).2 x hx
end Go.V
namespace Go.Proofs.YtmbckodpbdlblaaGreat
open Go.V Go.V.Dk Go.V.Rn
section
variable {w w':Wd} {T T':Nat->Nat} {s:SA}
structure PutP(s:SA)(t g:Int)(r:Run)(m:Nat):Prop where
 cm:s.cm≠0
 fl:s.fl=false
 hg:gensF s.ks t=[g]
 F:∃ M,s.F=r::M
 hr:rightB s.F=true
 m:s.pm=some m
 new:∀ k∈s.ps,k.n≠r.1
 pu:∀ n∈s.pu,n≠r.1
 ok:Lab.OK ⟨t,1,0,r.1,s.cm,g⟩
 u:U32 (takeR s.F)
 len:(takeR s.F).length<=1000
abbrev SA.put(s:SA)(t g:Int)(r:Run)(fr' sl:Sl)(pl:List Int):SA:={ s with fr:=fr',F:=takeR s.F,ps:=s.ps++[⟨r.1,⟨t,1,0,r.1,s.cm,g⟩,sl,pl⟩],pu:=s.pu++[r.1] }
set_option maxHeartbeats 1000000 in
theorem write_leaf{t g:Int}{r:Run}{m:Nat}{sl:Sl}{L:List (EntV×Ent)}{K:Int->Int->Int->Int->Int->Wd->Prop}(y:Sy w T s)(P:PutP s t g r m)(nd:NdR w.heap sl L)(hl:L.length<=65536)(hr:RightP 1 0 (ents L))(hs:(wr 1 0 (ents L)).length<=224)
  (k:∀ T' fr' sl' w',Sy w' T' (s.put t g r fr' sl' (pad (wr 1 0 (ents L))))->Stp T w T' w'->K r.1 s.cm g 0 0 w'):C_tree_grove_write s.src t 1 0 sl w K:=by
 apply S_tree_grove_write
 refine fun b w1 n1 b1 w2 n2 b2 w3 n3=>?_
 have g0:=get_no (get_no n1.get n2.ext) n3.ext
 have g1:=get_no n2.get n3.ext
 have g2:=n3.get
 have x3:Ext No w w3:=(n1.ext.no n2.ext).no n3.ext
 have z1:=n1.size; have z2:=n2.size; have z3:=n3.size; have a1:=n1.at_; have a2:=n2.at_; have a3:=n3.at_
 refine ⟨1,Cell.lst g1 rfl,0,Cell.lst g1 rfl,sl,Cell.lst g1 rfl,encode_spec (nd.no x3) hl (fun t4 w4 _ _ o4 x4=>If.bne (fun h=>absurd rfl h) fun _=>?_) (fun c w4 h _ _=>(h ⟨hr,hs⟩).elim)⟩
 have x04:=x3.no x4
 have y4:=y.no x04
 have b8:B8 (pad (wr 1 0 (ents L))):=pad_b8 (wr_b8 (by decide) (by decide) fun e he=>by
  obtain ⟨p,hp,rfl⟩:=List.mem_map.1 he
  exact ⟨(nd.ent p hp).k8,(nd.ent p hp).v8⟩)
 refine ⟨_,Cell.lst (get_no g0 x4) rfl,t,Cell.lst (get_no g0 x4) rfl,1,Cell.lst (get_no g1 x4) rfl,0,Cell.lst (get_no g1 x4) rfl,I_pager_Pager_Put ?_⟩
 obtain ⟨M,hF⟩:=P.F
 refine put_page y4 P.cm P.fl ⟨by decide,by decide⟩ o4.rd (fun i hi=>y.out i (by have:=(o4.lt hi).1; have:=x3.size; omega)) (pad_len hs) b8 P.hg hF P.hr P.m P.new P.pu P.ok P.u P.len fun T' fr' sl' w6 y6 s6=>?_
 refine NewSt rfl rfl (oneL rfl) fun w8 g8 z8 x8=>?_
 have tb1:T b1=0:=y.out b1 (by omega)
 have tb2:T b2=0:=y.out b2 (by omega)
 have g16:=get_no (s6.blk (get_no g1 x4) (.inl tb1)) x8
 have g26:=get_no (s6.blk (get_no g2 x4) (.inl tb2)) x8
 have l4:=hlt (get_no g2 x4)
 refine ⟨_,Cell.lst g8 rfl,_,Cell.lst g8 rfl,_,Cell.lst g8 rfl,0,Cell.lst g16 rfl,rfl,StN.mk g26 (Nat.le_refl 4) (oneL rfl) fun w9 h9=>?_⟩
 have g9:=h9.get g26
 have tb2':T' b2=0:=(s6.a b2 l4).trans tb2
 exact ⟨_,Cell.lst g9 rfl,_,Cell.lst g9 rfl,_,Cell.lst g9 rfl,_,Cell.lst g9 rfl,k T' fr' sl' w9 ((y6.no x8).loc h9.ext fun i hi=>by subst hi; exact .inl tb2') ((((Stp.no x04).trans s6).nx x8).out h9.ext (by omega))⟩
theorem entCs_all(x:EntV):∀ v∈x.cs,oneC v=true:=by
 intro v hv
 simp only [EntV.cs,List.mem_cons,List.not_mem_nil,or_false] at hv
 rcases hv with h | h | h | h | h | h | h | h | h <;> subst h <;> rfl
set_option maxHeartbeats 1000000 in
theorem store_inline{g:Value}{t:Int}{ks vs:Sl}{key val:List Int}{K:Sl->Sl->Int->Int->Int->Int->Int->Int->Int->Int->Wd->Prop}(hk:RdB w.heap ks key)(hv:RdB w.heap vs val)(k8:B8 key)(v8:B8 val)(kl:key.length<=32)(vl:val.length<=64)
  (k:∀ x w',EntR w'.heap x ⟨key,val,0, .z, .z⟩->Ext No w w'->K x.k x.v x.n x.ch.p x.ch.c x.ch.g x.cd.p x.cd.c x.cd.g 0 w'):C_tree_grove_store g t ks vs w K:=by
 apply S_tree_grove_store
 have hkl:=RdB.len hk; have hvl:=RdB.len hv
 refine fun b w1 n1 b1 w2 n2 b2 w3 n3=>?_
 have hb1:=n2.at_; have hb2:=n3.at_; have z1:=n1.size; have z2:=n2.size; have z3:=n3.size
 have x03:Ext No w w3:=(n1.ext.no n2.ext).no n3.ext
 have g13:=get_no n2.get n3.ext
 have g23:=n3.get
 refine clone_spec (Rd.no hk x03) (by omega) fun kS w4 kO x4=>?_
 refine new_set (vs:=EntV.cs ⟨kS,⟨none,0,0⟩,0, .z, .z⟩) rfl rfl (entCs_all _) fun b3 w6 g36 hb3 z6 x6=>?_
 have x36:Ext No w3 w6:=x4.no x6
 have s4:=x4.size
 have kO6:=kO.no x6
 have kb:∀ q,kS.blk=some q->w3.heap.size<=q/\q < w4.heap.size:=fun q hq=>kO.lt hq
 refine If.dec (fun h64=>?_) fun h64=>by omega
 refine clone_spec (Rd.no hv (x03.no x36)) (by omega) fun vS w7 vO x7=>St1.mk (get_no g36 x7) (by simp [EntV.cs]) rfl fun w8 h8=>?_
 have g8:w8.heap[b3]? = some (.cells (EntV.cs ⟨kS,vS,0, .z, .z⟩).toArray 240 (0,0)):=h8.get (get_no g36 x7)
 have x8:Ext (·=b3) w7 w8:=h8.ext
 have z8:w8.heap.size=w7.heap.size:=h8.size
 have s7:=x7.size
 have vb:∀ q,vS.blk=some q->w6.heap.size<=q/\q < w7.heap.size:=fun q hq=>vO.lt hq
 refine ent_read g8 ⟨rfl,StN.mk (vs:=EntV.cs ⟨kS,vS,0, .z, .z⟩) (get_ext (get_no g13 (x36.no x7)) x8 (by omega)) (Nat.le_refl 9) (entCs_all _) fun w9 h9=>?_⟩
 have g9:=h9.get (get_ext (get_no g13 (x36.no x7)) x8 (by omega))
 have x9:=h9.ext
 have z9:=h9.size
 refine St1.mk (get_ext (get_ext (get_no g23 (x36.no x7)) x8 (by omega)) x9 (by omega)) (by decide) rfl fun w10 h10=>?_
 have x10:Ext (·=b2) w9 w10:=h10.ext
 refine ent_read (x:=⟨kS,vS,0, .z, .z⟩) (get_ext g9 x10 (by omega)) ⟨0,Cell.lst (h10.get (get_ext (get_ext (get_no g23 (x36.no x7)) x8 (by omega)) x9 (by omega))) rfl,?_⟩
 have x710:Ext (fun q=>q=b3∨q=b1∨q=b2) w7 w10:=((x8.mono fun _ _ h => .inl h).trans x9 fun _ _ h => .inr (.inl h)).trans x10 fun _ _ h => .inr (.inr h)
 have xf:Ext No w w10:=((x03.no x36).no x7).trans x710 fun q hq h=>by omega
 refine k ⟨kS,vS,0, .z, .z⟩ w10 ⟨?_,?_,rfl,rfl,rfl,k8,v8,⟨by show (-9223372036854775808:Int)<=0; decide,by show (0:Int)<=9223372036854775807; decide⟩,by show Rf.z.ok; decide,by show Rf.z.ok; decide⟩ xf
 .exact (kO6.rd.no x7).ext x710 fun a q ha hq h=>by have:=kb q (by simp [Sl.blk,ha,hq]); omega
 .exact vO.rd.ext x710 fun a q ha hq h=>by have:=vb q (by simp [Sl.blk,ha,hq]); omega
theorem leaf_right{e:Ent}(k1:1<=e.key.length)(kl:e.key.length<=32)(vl:e.val.length<=64)(hn:e.n=0)(hc:e.ch = .z)(hd:e.cd = .z):RightP 1 0 [e]:=by
 refine ⟨.inl ⟨rfl,rfl⟩,fun h=>absurd h (by decide),fun i hi=>?_,fun i hi=>by simp at hi⟩
 have:i=0:=by simpa using hi
 subst this
 refine ⟨?_,?_⟩
 .unfold keyP; rw [if_neg (by rintro ⟨h,_⟩; revert h; decide)]; show 1<=((e.key.length:Nat):Int)/\((e.key.length:Nat):Int)<=32; omega
 .rw [if_neg (by decide)]
  exact ⟨hd,by rw [if_pos (show [e][0].n=0 from hn)]; exact ⟨hc,vl⟩⟩
theorem leaf_len{e:Ent}(kl:e.key.length<=32)(vl:e.val.length<=64)(hn:e.n=0):(wr 1 0 [e]).length<=224:=by
 simp [wr,wrE,hn]; omega
set_option maxHeartbeats 1000000 in
theorem change_new{t g:Int}{r:Run}{m:Nat}{ks vs:Sl}{key val:List Int}{K:Int->Int->Int->Int->Int->Wd->Prop}(y:Sy w T s)(P:PutP s t g r m)(hk:RdB w.heap ks key)(hv:RdB w.heap vs val)(k8:B8 key)(v8:B8 val)(k1:1<=key.length)(kl:key.length<=32)(vl:val.length<=64)
  (k:∀ T' fr' sl' w',Sy w' T' (s.put t g r fr' sl' (pad (wr 1 0 [⟨key,val,0, .z, .z⟩])))->Stp T w T' w'->K r.1 s.cm g 0 0 w'):C_tree_grove_change s.src t 0 0 0 0 ks vs false w K:=by
 apply S_tree_grove_change
 refine fun b w1 n1 b1 w2 n2 b2 w3 n3 b3 w4 n4=>?_
 have z1:=n1.size; have z2:=n2.size; have z3:=n3.size; have z4:=n4.size; have a4:=n4.at_
 have x4:Ext No w w4:=((n1.ext.no n2.ext).no n3.ext).no n4.ext
 have g0:=get_no (get_no (get_no n1.get n2.ext) n3.ext) n4.ext
 have g1:=get_no (get_no n2.get n3.ext) n4.ext
 have g2:=get_no n3.get n4.ext
 have g3:=n4.get
 refine ⟨0,Cell.lst g1 rfl,0,Cell.lst g1 rfl,0,Cell.lst g1 rfl,0,Cell.lst g1 rfl,If.yes ⟨false,Cell.lst g2 rfl,If.no ⟨_,Cell.lst g0 rfl,t,Cell.lst g0 rfl,ks,Cell.lst g2 rfl,vs,Cell.lst g2 rfl,?_⟩⟩⟩
 refine store_inline (Rd.no hk x4) (Rd.no hv x4) k8 v8 kl vl fun x w6 hx x6=>?_
 refine new_set (vs:=x.cs) rfl rfl (entCs_all _) fun b4 w8 g8 _ z8 x8=>If.bne (fun h=>absurd rfl h) fun _=>?_
 have x48:=x6.no x8
 refine ⟨_,Cell.lst (get_no g0 x48) rfl,t,Cell.lst (get_no g0 x48) rfl,ent_read g8 fun b5 w10 n10=>?_⟩
 have x010:=(x4.no x48).no n10.ext
 have nd:NdR w10.heap ⟨some ⟨b5,0,none⟩,1,1⟩ [(x,⟨key,val,0, .z, .z⟩)]:=by
  refine ⟨?_,fun p hp=>?_⟩
  .have:=(Own.new (n:=1) (sz:=9) (cs:=x.cs) n10 rfl (entCs_all _)).rd
   simpa [entCs] using this
  .simp only [List.mem_singleton] at hp; subst hp
   exact (hx.no x8).no n10.ext
 have y10:=y.no x010
 refine write_leaf y10 P nd (Nat.le_of_ble_eq_true rfl) (leaf_right k1 kl vl rfl rfl rfl) (leaf_len kl vl rfl) fun T' fr' sl' w11 y11 s11=>?_
 have t3:T b3=0:=y.out b3 (by omega)
 have g310:=get_no (get_no g3 x48) n10.ext
 have g311:=s11.blk g310 (.inl t3)
 refine ⟨rfl,StN.mk g311 (Nat.le_refl 4) (oneL rfl) fun w12 h12=>?_⟩
 have g12:=h12.get g311
 have t3':T' b3=0:=(s11.a b3 (hlt g310)).trans t3
 exact ⟨_,Cell.lst g12 rfl,_,Cell.lst g12 rfl,_,Cell.lst g12 rfl,_,Cell.lst g12 rfl,k T' fr' sl' w12 (y11.loc h12.ext fun i hi=>by subst hi; exact .inl t3') (((Stp.no x010).trans s11).out h12.ext (by omega))⟩
end
end Go.Proofs.YtmbckodpbdlblaaGreat
namespace Go.Proofs.YtmbckodpbdlblaaGreat
open Go.V Go.V.Dk Go.V.Rn
section
variable {w w':Wd} {T T':Nat->Nat} {s:SA}
theorem sort1_func{x:Sl}{cmp:Value}{K:Wd->Prop}(h:x.len<=1)(k:K w):C_slices_SortFunc_string_string x cmp w K:=by
 apply S_slices_SortFunc_string_string
 refine Ar.u64 (by omega) (bitsLen1 (by omega) (by omega) fun r=>?_)
 apply S_slices_pdqsortCmpFunc_string
 refine ⟨fun _ a b _ _ _ u=>0=a/\(x.len:Int)=b/\w=u,⟨0,rfl,rfl,rfl⟩,?_⟩
 rintro _ _ _ _ l b1 b2 _ ⟨rfl,rfl,rfl⟩
 refine Ar.i64 (by omega) (If.dec (fun _=>?_) fun h=>by omega)
 apply S_slices_insertionSortCmpFunc_string
 refine Ar.i64 (by omega) ⟨fun _ i u=>1=i/\w=u,⟨0,rfl,rfl⟩,?_⟩
 rintro _ _ _ _ ⟨rfl,rfl⟩
 exact If.dec (fun h=>by omega) fun _=>k
theorem str9:KeyOK pz 9 Value.string:=str_key (by kernel_rfl)
theorem map368:Tryz.prog.underlying 368=some (.map 9 93):=by kernel_rfl
theorem look93(w:Wd):(zeroValue 93).run pz w = .ok (.agg (#[.slice none 0 0, .slice none 0 0, .bool false])) w:=by kernel_rfl
theorem tright_spec{ks vs:Sl}{K:Bool->Wd->Prop}(k1:1<=ks.len)(kl:ks.len<=32)(vl:vs.len<=64)(k:∀ w',Ext No w w'->K true w'):C_tree_right ks vs false w K:=by
 apply S_tree_right
 refine fun b w1 n1=>⟨ks,Cell.lst n1.get rfl,If.dec (fun _=>⟨ks,Cell.lst n1.get rfl,If.dec (fun _=>⟨vs,Cell.lst n1.get rfl,If.dec (fun _=>⟨false,Cell.lst n1.get rfl,If.no (k w1 n1.ext)⟩) fun h=>by omega⟩) fun h=>by omega⟩) fun h=>by omega⟩
abbrev opA(ks vs:Sl):Value := .agg (#[ks.v,vs.v, .bool false])
set_option maxHeartbeats 2000000 in
theorem apply_one{t g:Int}{r:Run}{m:Nat}{ops ks vs:Sl}{key val:List Int}{K:Int->Int->Int->Int->Int->Wd->Prop}(y:Sy w T s)(P:PutP s t g r m)(ho:Rd w.heap ops 3 [ks.v,vs.v,Value.bool false])(hol:ops.len=1)(hk:RdB w.heap ks key)(hv:RdB w.heap vs val)(k8:B8 key)(v8:B8 val)(k1:1<=key.length)(kl:key.length<=32)(vl:val.length<=64)
  (k:∀ T' fr' sl' w',Sy w' T' (s.put t g r fr' sl' (pad (wr 1 0 [⟨key,val,0, .z, .z⟩])))->Stp T w T' w'->K r.1 s.cm g 0 0 w'):C_tree_Apply s.src t 0 0 0 0 ops w K:=by
 apply S_tree_Apply
 refine fun b w1 n1 b1 w2 n2=>⟨trivial,If.no fun b2 w4 n4 b3 w5 n5=>St1.mk n5.get Nat.one_pos rfl fun w6 h6=>?_⟩
 have z1:=n1.size; have z2:=n2.size; have z4:=n4.size; have z5:=n5.size
 have a1:=n1.at_; have a2:=n2.at_; have a4:=n4.at_; have a5:=n5.at_
 have x5:Ext No w w5:=((n1.ext.no n2.ext).no n4.ext).no n5.ext
 have x6:Ext No w w6:=x5.out h6.ext (by omega)
 have x56:=h6.ext
 have z6:=h6.size
 have g0:w6.heap[b]? = _:=get_ext (get_no (get_no (get_no n1.get n2.ext) n4.ext) n5.ext) x56 (by omega)
 have g1:w6.heap[b1]? = _:=get_ext (get_no (get_no n2.get n4.ext) n5.ext) x56 (by omega)
 have g2:w6.heap[b2]? = _:=get_ext (get_no n4.get n5.ext) x56 (by omega)
 have g3:=h6.get n5.get
 have m6:MapR w6.heap Value.string b2 ([]:List (ByteArray×Value)):=⟨#[],0,g2,rfl,BornOK.nil⟩
 have hkl:=RdB.len hk; have hvl:=RdB.len hv
 refine ⟨fun n t u=>(n=1/\t=0/\w6=u)∨(n=0/\t=1/\MapR u.heap Value.string b2 [(baO key,opA ks vs)]/\Ext (·=b2) w6 u),⟨1, .inl ⟨rfl,rfl,rfl⟩⟩,?_⟩
 rintro _ n t7 w7 (⟨rfl,rfl,rfl⟩ | ⟨rfl,rfl,m7,x7⟩)
 .refine If.dec (fun _=>?_) fun h=>absurd (by omega) h
  have ho6:=ho.no x6
  refine Ix.elem (f:=fun _:Unit=>[ks.v,vs.v,Value.bool false]) (l:=[()]) (by simpa using ho6) (fun _ _=>rfl) (by decide) (by decide) (by omega) fun b' o' hi hb' hc=>?_
  refine ⟨ks,hc 0 _ rfl,vs,hc 1 _ rfl,false,hc 2 _ rfl,NewSt rfl rfl (oneL rfl) fun w9 g9 z9 x9=>?_⟩
  refine ⟨ks,Cell.lst g9 rfl,vs,Cell.lst g9 rfl,false,Cell.lst g9 rfl,tright_spec (by omega) (by omega) (by omega) fun w10 x10=>If.not (If.yes ?_)⟩
  have g10:=get_no g9 x10
  have x610:=x9.no x10
  refine ⟨some b2,Cell.lst (get_no g3 x610) rfl,ks,Cell.lst g10 rfl,StrC.mk (Rd.no hk (x6.no x610)) (fun _ _ _ h=>Cell.mk h) ⟨ks,Cell.lst g10 rfl,vs,Cell.lst g10 rfl,false,Cell.lst g10 rfl,?_⟩⟩
  obtain ⟨w11,h11,m11,x11,z11⟩:=run_mapUpdate (P:=pz) (a:=baO key) (v:=opA ks vs) str9 map368 (m6.ext x610 fun h=>h)
  rw [putA_new (fun p hp=>by cases hp)] at m11
  exact ⟨w11,h11,Ar.i64 (by decide) ⟨0,by decide, .inr ⟨rfl,rfl,m11,x610.of_no.trans x11 fun i _ h=>h⟩⟩⟩
 refine If.dec (fun h=>absurd h (by omega)) fun _=>?_
 have x07:Ext No w w7:=x6.out x7 (by omega)
 have z7:=x7.size
 have g07:=get_ext g0 x7 (by omega)
 have g17:=get_ext g1 x7 (by omega)
 have g37:=get_ext g3 x7 (by omega)
 refine ⟨some b2,Cell.lst g37 rfl,?_⟩
 apply S_maps_Keys_map_string_api_Op_string_api_Op
 refine fun bk w8 n8=>?_
 apply S_slices_SortedFunc_string
 apply S_slices_Collect_string
 refine appendKeys_string n8.get (m7.ext n8.ext fun h=>h) (Nat.le_refl 1) fun sk w9 o9 x9=>?_
 have ok9:sk.len=1:=by have:=o9.len; simpa [encM] using this.symm
 refine sort1_func (by omega) ⟨rfl,?_⟩
 refine NewSt rfl rfl (one2 rfl rfl) fun w16 g16 z16 x16=>?_
 have x716:Ext No w7 w16:=(n8.ext.no x9).no x16
 have x016:=x07.no x716
 have y16:=y.no x016
 have gg0:=get_no g07 x716
 have gg1:=get_no g17 x716
 have gg3:=get_no g37 x716
 have m16:=m7.ext x716 fun h=>h
 have o16:=o9.no x16
 have zz:=x716.size
 have t0:T b=0:=y.out b (by omega)
 have t1:T b1=0:=y.out b1 (by omega)
 refine ⟨fun n tt u=>(n=1/\tt=0/\w16=u)∨(n=0/\tt=1/\∃ T' fr' sl',Sy u T' (s.put t g r fr' sl' (pad (wr 1 0 [⟨key,val,0, .z, .z⟩])))/\Stp T w T' u/\T' b1=0/\u.heap[b]? = some (.cells [Value.int .u32 r.1, .int .u64 s.cm, .int .u16 g, .int .u8 0].toArray 38 (0,0))/\u.heap[b1]? = some (.cells [Value.int .u32 0, .int .u64 0, .int .u16 0, .int .u8 0].toArray 38 (0,0))),⟨1, .inl ⟨rfl,rfl,rfl⟩⟩,?_⟩
 rintro _ n t17 w17 (⟨rfl,rfl,rfl⟩ | ⟨rfl,rfl,T17,fr17,sl17,y17,s17,tb1,gb,gb1⟩)
 .refine If.dec (fun _=>?_) fun h=>absurd (by omega) h
  refine Ix.cell o16.rd (by decide) (by omega) fun b' o' v _ hv' hc=>?_
  have ev:v = .string (baO key):=by simpa [encM] using hv'.symm
  subst ev
  refine ⟨_,hc,_,Cell.lst g16 rfl,_,Cell.lst g16 rfl,0,Cell.lst gg0 rfl,0,Cell.lst gg0 rfl,0,Cell.lst gg0 rfl,0,Cell.lst gg0 rfl,some b2,Cell.lst gg3 rfl,?_⟩
  have hrun:=run_lookup (P:=pz) (a:=baO key) str9 map368 (look93 w16) m16
  have eg:getA (baO key) [(baO key,opA ks vs)]=some (opA ks vs):=by simp [getA]
  rw [eg] at hrun
  refine ⟨ks,vs,false,w16,hrun,change_new y16 P (Rd.no hk x016) (Rd.no hv x016) k8 v8 k1 kl vl fun T' fr' sl' w19 y19 s19=>⟨rfl,?_⟩⟩
  have g019:=s19.blk gg0 (.inl t0)
  have g119:=s19.blk gg1 (.inl t1)
  refine StN.mk g019 (Nat.le_refl 4) (oneL rfl) fun w20 h20=>If.bne (fun h=>absurd rfl h) fun _=>Ar.i64 (by decide) ⟨0,by decide, .inr ⟨rfl,rfl,T',fr',sl',?_,?_,?_,h20.get g019,?_⟩⟩
  .have:=(s19.a b (hlt gg0)).trans t0
   exact y19.loc h20.ext fun i hi=>by subst hi; exact .inl this
  .exact ((Stp.no x016).trans s19).out h20.ext (by omega)
  .exact (s19.a b1 (hlt gg1)).trans t1
  .exact get_ext g119 h20.ext (by show b1≠b; omega)
 .refine If.dec (fun h=>absurd h (by omega)) fun _=>⟨_,Cell.lst gb rfl,_,Cell.lst gb rfl,_,Cell.lst gb rfl,_,Cell.lst gb rfl,rfl,StN.mk gb1 (Nat.le_refl 4) (oneL rfl) fun w22 h22=>?_⟩
  have g22:=h22.get gb1
  exact ⟨_,Cell.lst g22 rfl,_,Cell.lst g22 rfl,_,Cell.lst g22 rfl,_,Cell.lst g22 rfl,k T17 fr17 sl17 w22 (y17.loc h22.ext fun i hi=>by subst hi; exact .inl tb1) (s17.out h22.ext (by omega))⟩
end
end Go.Proofs.YtmbckodpbdlblaaGreat
namespace Go.Proofs.YtmbckodpbdlblaaGreat
open Go.V Go.V.Pk Go.V.Dk Go.V.Rn
section
variable {w w':Wd} {T T':Nat->Nat} {s:SA} {Q:Nat->Prop}
abbrev curC(s:SA)(t:Int):List Value:=[s.src, .int .u32 t, .int .u32 0, .int .u64 0, .int .u16 0, .int .u8 0, .slice none 0 0]
theorem goes0{t:Int}{cb:Nat}{ch:Value}{K:Int->Wd->Prop}(g:w.heap[cb]? = some (.cells (curC s t).toArray 400 (0,0)))(k:K 0 w):C_scan_Cursor_goes (some ⟨cb,0,none⟩) ch w K:=by
 apply S_scan_Cursor_goes
 refine ⟨fun u=>w=u,If.no (Nn.mk ⟨s.src,Cell.lst g rfl,trivial,If.no rfl⟩),?_⟩
 rintro _ _ rfl
 exact Nn.mk ⟨0,Cell.lst g rfl,0,Cell.lst g rfl,0,Cell.lst g rfl,0,Cell.lst g rfl,If.yes k⟩
theorem next0{t:Int}{cb:Nat}{K:Sl->Sl->Int->Wd->Prop}(g:w.heap[cb]? = some (.cells (curC s t).toArray 400 (0,0)))(k:∀ w',Ext No w w'->K ⟨none,0,0⟩ ⟨none,0,0⟩ 7 w'):C_scan_Cursor_Next (some ⟨cb,0,none⟩) w K:=by
 apply S_scan_Cursor_Next
 refine fun b w1 n1=>⟨fun u=>w1=u,If.no (Nn.mk ⟨s.src,Cell.lst (get_no g n1.ext) rfl,trivial,If.no rfl⟩),?_⟩
 rintro _ _ rfl
 have xd:Ext No w1 (drewW w1):=(Ext.refl _ _).drew
 refine Nn.mk ⟨⟨none,0,0⟩,Cell.lst (get_no g n1.ext) rfl,fun p u=>⟨none,0,0⟩=p/\drewW w1=u,⟨fun t u=>false=t/\drewW w1=u,⟨Ext No w1,xd,If.dec (fun h=>absurd h (by decide)) fun _=>⟨rfl,rfl⟩⟩,?_⟩,?_⟩
 .rintro _ _ _ ⟨rfl,rfl⟩
  exact If.no ⟨rfl,rfl⟩
 .rintro _ _ _ ⟨rfl,rfl⟩
  have gd:=get_no n1.get xd
  refine If.beq (fun _=>⟨rfl,StN.mk gd (Nat.le_refl 2) (oneL rfl) fun w9 h9=>?_⟩) fun h=>absurd rfl h
  have g9:=h9.get gd
  have a1:=n1.at_
  exact ⟨⟨none,0,0⟩,Cell.lst g9 rfl,⟨none,0,0⟩,Cell.lst g9 rfl,k w9 ((n1.ext.no xd).out h9.ext (by omega))⟩
theorem all0{t:Int}{cb b0 b1 b2 b3:Nat}{yield:Value}{K:Wd->Prop}(g:w.heap[cb]? = some (.cells (curC s t).toArray 400 (0,0)))(g0:w.heap[b0]? = some (.cells [Value.pointer (some ⟨cb,0,none⟩)].toArray 302 (0,0)))(g1:w.heap[b1]? = some (.cells [Value.bool false].toArray 4 (0,0)))(g2:w.heap[b2]? = some (.cells [Value.slice none 0 0].toArray 22 (0,0)))
  (k:∀ w',Ext No w w'->K w'):C_scan_Cursor_all_1 yield ⟨b0,0,none⟩ ⟨b1,0,none⟩ ⟨b2,0,none⟩ ⟨b3,0,none⟩ w K:=by
 apply S_scan_Cursor_all_1
 refine ⟨some ⟨cb,0,none⟩,Cell.lst g0 rfl,fun e st u=>0=e /\ .func (.func 296) #[.pointer (some ⟨cb,0,none⟩)] #[]=st/\Ext No w u,⟨false,Cell.lst g1 rfl,If.not (If.no ⟨_,Cell.lst g0 rfl,⟨none,0,0⟩,Cell.lst g2 rfl,S_scan_Cursor_Seek fun b w1 n1=>goes0 (get_no g n1.ext) ⟨rfl,rfl,n1.ext⟩⟩)⟩,?_⟩
 rintro _ _ _ w4 ⟨rfl,rfl,x4⟩
 refine ⟨fun _ e u=>0=e/\w4=u,⟨0,rfl,rfl⟩,?_⟩
 rintro _ _ _ _ ⟨rfl,rfl⟩
 refine If.beq (fun _=>fun b w6 n6=>V_scan_Cursor_Next (next0 (get_no (get_no g x4) n6.ext) fun w7 x7=>⟨rfl,StN.mk (get_no n6.get x7) (Nat.le_refl 2) (oneL rfl) fun w8 h8=>If.beq (fun _=>k w8 (((x4.no n6.ext).no x7).out h8.ext ?_)) fun h=>absurd rfl h⟩)) fun h=>absurd rfl h
 have:=n6.at_; have:=x4.size; omega
set_option maxHeartbeats 1000000 in
theorem range0{t:Int}{K:Sl->Int->Wd->Prop}(k:∀ w',Ext No w w'->K ⟨none,0,0⟩ 0 w'):C_scan_Range s.src t 0 0 0 0 ⟨none,0,0⟩ ⟨none,0,0⟩ 4611686018427387904 false w K:=by
 apply S_scan_Range
 refine fun b w1 n1 b1 w2 n2 b2 w3 n3 b3 w4 n4=>?_
 have z1:=n1.size; have z2:=n2.size; have z3:=n3.size; have z4:=n4.size
 have a2:=n2.at_; have a3:=n3.at_; have a4:=n4.at_
 have g0:=get_no (get_no (get_no n1.get n2.ext) n3.ext) n4.ext
 have g1:=get_no (get_no n2.get n3.ext) n4.ext
 have g2:=get_no n3.get n4.ext
 have g3:=n4.get
 have x4:Ext No w w4:=((n1.ext.no n2.ext).no n3.ext).no n4.ext
 refine ⟨0,Cell.lst g0 rfl,0,Cell.lst g0 rfl,0,Cell.lst g0 rfl,0,Cell.lst g0 rfl,S_scan_Open fun c w5 n5=>⟨trivial,If.no ⟨0,Cell.lst n5.get rfl,0,Cell.lst n5.get rfl,0,Cell.lst n5.get rfl,0,Cell.lst n5.get rfl,rfl,fun cb w6 n6=>goes0 n6.get (If.bne (fun h=>absurd rfl h) fun _=>If.bne (fun h=>absurd rfl h) fun _=>fun b4 w8 n8=>?_)⟩⟩⟩
 have x48:Ext No w4 w8:=(n5.ext.no n6.ext).no n8.ext
 have z5:=n5.size; have z6:=n6.size; have z8:=n8.size; have a8:=n8.at_
 refine ⟨_,Cell.lst (get_no g1 x48) rfl,If.dec (fun h=>absurd h (by decide)) fun _=>S_scan_Cursor_all fun c0 w9 n9 c2 w10 n10 c3 w11 n11 c1 w12 n12 rf dk lp w13 hnew _=>?_⟩
 have z9:=n9.size; have z10:=n10.size; have z11:=n11.size; have z12:=n12.size
 obtain ⟨x13,z13,hrf,hdf⟩:=hnew.facts
 have hlp:lp=w12.heap.size+1:=hnew.l
 have hdk:dk=w12.heap.size:=hnew.d
 have xc:Ext No w8 w12:=((n9.ext.no n10.ext).no n11.ext).no n12.ext
 have xa:Ext No w8 w13:=xc.no x13
 refine V_scan_Cursor_all_1 (all0 (get_no n6.get (n8.ext.no xa)) (get_no n9.get (((n10.ext.no n11.ext).no n12.ext).no x13)) (get_no n12.get x13) (get_no n10.get ((n11.ext.no n12.ext).no x13)) fun w21 x21 => .inr (.inr ⟨hrf.ext x21 fun h=>h,⟨none,0,0⟩,?_⟩))
 have xp:Ext (·=lp) w21 (rfPut lp rf .exhausted none w21):=rfPut_ext
 have zp:(rfPut lp rf .exhausted none w21).heap.size=w21.heap.size:=rfPut_size
 have x821:=xa.no x21
 have z21:=x821.size
 have g4p:(rfPut lp rf .exhausted none w21).heap[b4]? = _:=get_ext (get_no n8.get x821) xp (by omega)
 have x421:=x48.no x821
 have g2p:(rfPut lp rf .exhausted none w21).heap[b2]? = _:=get_ext (get_no g2 x421) xp (by omega)
 have g3p:(rfPut lp rf .exhausted none w21).heap[b3]? = _:=get_ext (get_no g3 x421) xp (by omega)
 refine ⟨Cell.lst g4p rfl,St1.mk g2p Nat.one_pos rfl fun w24 h24=>St1.mk (get_ext g3p h24.ext (by show b3≠b2; omega)) Nat.one_pos rfl fun w25 h25=>?_⟩
 have g224:=h24.get g2p
 have g225:=get_ext g224 h25.ext (by show b2≠b3; omega)
 have g325:=h25.get (get_ext g3p h24.ext (by show b3≠b2; omega))
 have hd25:DefSt dk w25:=(((hdf.ext x21 fun h=>h).ext xp (by omega)).ext h24.ext (by show dk≠b2; omega)).ext h25.ext (by show dk≠b3; omega)
 have xd:Ext (·=dk) w25 (defShut dk w25):=defShut_ext
 refine ⟨hd25,⟨none,0,0⟩,Cell.lst (get_ext g225 xd (by omega)) rfl,0,Cell.lst (get_ext g325 xd (by omega)) rfl,k _ ?_⟩
 exact ((((x4.no x421).trans xp fun i hi h=>by omega).trans h24.ext fun i hi h=>by have:i=b2:=h; omega).trans h25.ext fun i hi h=>by have:i=b3:=h; omega).trans xd fun i hi h=>by omega
theorem rollAll0{K:Sl->Int->Wd->Prop}(k:∀ w',Ext No w w'->K ⟨none,0,0⟩ 0 w'):C_roll_All s.src 0 0 0 0 w K:=by
 apply S_roll_All
 refine fun b w1 n1=>⟨0,Cell.lst n1.get rfl,0,Cell.lst n1.get rfl,0,Cell.lst n1.get rfl,0,Cell.lst n1.get rfl,range0 fun w2 x2=>If.bne (fun h=>absurd rfl h) fun _=>⟨fun _ o t u=>⟨none,0,0⟩=o/\0=t/\w2=u,⟨0,rfl,rfl,rfl⟩,?_⟩⟩
 rintro _ _ _ _ _ ⟨rfl,rfl,rfl⟩
 exact If.dec (fun h=>absurd h (by decide)) fun _=>k w2 (n1.ext.no x2)
theorem rkey_spec{t:Int}{K:Sl->Wd->Prop}(h:0<=t/\t<=4294967295)(k:∀ sl w',OwnB w'.heap w.heap.size sl (be 4 t)->Ext No w w'->K sl w'):C_roll_key t w K:=by
 apply S_roll_key
 exact Ar.u64 (by omega) (put_spec h.1 (by decide) (by decide) (by show t < 256 ^ 4; omega) fun sl w1 o1 x1=>k sl w1 o1 x1)
end
end Go.Proofs.YtmbckodpbdlblaaGreat
namespace Go.V
open Go.V.Pk Go.Proofs.YtmbckodpbdlblaaGreat
theorem numsB_b8(l:List Int):B8 (numsB l):=by
 intro x hx
 obtain ⟨y,hy,hx⟩:=List.mem_flatten.1 hx
 obtain ⟨z,_,rfl⟩:=List.mem_map.1 hy
 exact numB_b8 _ x hx
theorem textB_b8{l:List Int}(h:B8 l):B8 (textB l):=(numB_b8 _).append h
theorem heldB_b8{h:HeldP}(r:RngH h):B8 (heldB h):=(numB_b8 _).append ((numB_b8 _).append (textB_b8 r.wr))
end Go.V
namespace Go.Proofs.YtmbckodpbdlblaaGreat
open Go.V Go.V.Pk Go.V.Dk Go.V.Rn
theorem formB_b8{x:SeatP}(r:RngS x):B8 (formB x):=by
 rw [formB_eq]
 refine (numsB_b8 _).append ((textB_b8 r.mark).append ((numsB_b8 _).append fun y hy=>?_))
 obtain ⟨z,hz,hy⟩:=List.mem_flatten.1 hy
 obtain ⟨h,hh,rfl⟩:=List.mem_map.1 hz
 exact heldB_b8 (r.held h hh) y hy
section
variable {w w':Wd} {T T':Nat->Nat} {s:SA} {Q:Nat->Prop}
set_option maxHeartbeats 1000000 in
theorem with_new{g:Int}{r:Run}{m:Nat}{v:SeatV}{x:SeatP}{K:Int->Int->Int->Int->Int->Wd->Prop}(y:Sy w T s)(P:PutP s 0 g r m)(hx:SeatR Q w.heap v x)(rg:RngS x)(may:MayS x)(hf:(formB x).length<=64)
  (k:∀ T' fr' sl' w',Sy w' T' (s.put 0 g r fr' sl' (pad (wr 1 0 [⟨be 4 x.tenant,formB x,0, .z, .z⟩])))->Stp T w T' w'->K r.1 s.cm g 0 0 w'):C_roll_With s.src 0 0 0 0 v.tenant v.quota v.mark v.root.p v.root.c v.root.g v.lev v.charge v.held w K:=by
 apply S_roll_With
 refine fun b w1 n1 b1 w2 n2 b2 w3 n3=>⟨trivial,If.no ?_⟩
 have z1:=n1.size; have z2:=n2.size; have z3:=n3.size; have a1:=n1.at_; have a2:=n2.at_; have a3:=n3.at_
 have x3:Ext No w w3:=(n1.ext.no n2.ext).no n3.ext
 have g0:=get_no (get_no n1.get n2.ext) n3.ext
 have g1:w3.heap[b1]? = some (.cells v.cells.toArray 113 (0,0)):=get_no n2.get n3.ext
 have g2:=n3.get
 refine ⟨v.tenant,Cell.lst g1 rfl,v.quota,Cell.lst g1 rfl,v.mark,Cell.lst g1 rfl,v.root.p,Cell.lst g1 rfl,v.root.c,Cell.lst g1 rfl,v.root.g,Cell.lst g1 rfl,v.lev,Cell.lst g1 rfl,v.charge,Cell.lst g1 rfl,v.held,Cell.lst g1 rfl,?_⟩
 refine bytes_spec (hx.no x3) rg (by rcases may.2.2.2.2.2.2.2 with ⟨a,h,_⟩ | ⟨a,b,h,_⟩ <;> simp [h]) (fun w' h _=>absurd may h) fun t5 w5 _ o5 x5=>If.bne (fun h=>absurd rfl h) fun _=>?_
 have x05:=x3.no x5
 have y5:=y.no x05
 have t0:T b=0:=y.out b (by omega)
 have t1:T b1=0:=y.out b1 (by omega)
 have t2:T b2=0:=y.out b2 (by omega)
 have n0:¬ ((1<=T b/\T b<=12)∨b=b2):=by omega
 have n1':¬ ((1<=T b1/\T b1<=12)∨b1=b2):=by omega
 have h0:=get_no g0 x5
 have h1:=get_no g1 x5
 have h2:=get_no g2 x5
 refine ⟨Ext (fun i=>(1<=T i/\T i<=12)∨i=b2) w5,(Ext.refl _ _).drew,0,Held.but (Cell.lst h0 rfl) n0,0,Held.but (Cell.lst h0 rfl) n0,0,Held.but (Cell.lst h0 rfl) n0,0,Held.but (Cell.lst h0 rfl) n0,v.tenant,Held.but (Cell.lst h1 rfl) n1',?_⟩
 refine rkey_spec (by rw [hx.tenant]; exact rg.tenant) fun sk w7 o7 x7=>⟨x7.drew_left.of_no,fun b3 w8 n8=>?_⟩
 have x57:Ext No w5 w7:=x7.drew_left
 have x58:=x57.no n8.ext
 have y8:=y5.no x58
 refine ⟨x58.of_no,?_⟩
 have ho:Rd w8.heap ⟨some ⟨b3,0,none⟩,1,1⟩ 3 [sk.v,t5.v,Value.bool false]:=(Own.new (n:=1) (sz:=3) n8 rfl (oneL rfl)).rd
 have hB:B8 (be 4 v.tenant):=be_b8 _ _
 rw [hx.tenant] at o7 hB
 refine apply_one y8 P ho rfl (Rd.no o7.rd n8.ext) (Rd.no o5.rd x58) hB (formB_b8 rg) (by simp [be_len]) (by simp [be_len]) hf fun T' fr' sl' w9 y9 s9=>?_
 have h28:=get_no h2 x58
 have x59:Ext (fun i=>(1<=T i/\T i<=12)∨i=b2) w5 w9:=x58.of_no.trans s9.x fun i _ h => .inl h
 have h29:=s9.blk h28 (.inl t2)
 refine ⟨x59,rfl,StN.mk h29 (Nat.le_refl 4) (oneL rfl) fun w10 h10=>⟨x59.trans h10.ext fun i _ h => .inr h,?_⟩⟩
 have g10:=h10.get h29
 have t2':=(s9.a b2 (hlt h28)).trans t2
 exact ⟨_,Cell.lst g10 rfl,_,Cell.lst g10 rfl,_,Cell.lst g10 rfl,_,Cell.lst g10 rfl,k T' fr' sl' w10 (y9.loc h10.ext fun i hi=>by subst hi; exact .inl t2') (((Stp.no (x05.no x58)).trans s9).out h10.ext (by omega))⟩
end
end Go.Proofs.YtmbckodpbdlblaaGreat
namespace Go.Proofs.YtmbckodpbdlblaaGreat
open Go.V Go.V.Dk Go.V.Rn
structure VA where
 vb:Nat
 key:Sl
 kl:List Int
 op:Bool
 mp:MP
 al:Nat
 ts:List (Int×Value)
abbrev VA.p(v:VA):Option Addr:=some ⟨v.vb,0,none⟩
abbrev vtC(key:Sl)(d g l:Option Addr)(op:Bool)(rb p:Option Addr)(m:MP)(al:Nat):List Value:=[.int .i64 100, .int .u64 1000, .slice none 0 0,key.v, .pointer d, .pointer g, .pointer l, .bool op, .pointer rb, .pointer p, .int .u64 m.cm, .int .u32 m.pg, .int .u64 m.rc, .int .u16 m.gn, .int .u8 m.lv, .int .u16 m.rg, .int .u32 m.tn, .map (some al)]
abbrev VA.c(v:VA)(s:SA):List Value:=vtC v.key s.d.p s.gB s.lB v.op s.rB s.p v.mp v.al
section
variable {w w':Wd} {T T':Nat->Nat} {s s':SA} {v v':VA} {S:Nat->Prop}
structure VtC(w:Wd)(T:Nat->Nat)(v:VA)(s:SA):Prop where
 y:Sy w T s
 b:w.heap[v.vb]? = some (.cells (v.c s).toArray 43 (0,0))
 tb:T v.vb=13
 k:RdB w.heap v.key v.kl
 kt:∀ i,v.key.blk=some i->T i=14/\i < w.heap.size
 kB:B8 v.kl
 kn:v.key.len=32
 a:MapR w.heap u32E v.al v.ts
 ta:T v.al=15
structure Stw(T:Nat->Nat)(w:Wd)(T':Nat->Nat)(w':Wd):Prop where
 z:∀ i,i < w.heap.size->T i=0->T' i=0
 x:Ext (fun i=>T i≠0) w w'
theorem Stp.tw(h:Stp T w T' w'):Stw T w T' w':=⟨fun i hi h0=>(h.a i hi).trans h0,h.x.mono fun i _ h=>by omega⟩
theorem Stw.trans{T1 T2:Nat->Nat}{w1 w2:Wd}(h:Stw T w T1 w1)(k:Stw T1 w1 T2 w2):Stw T w T2 w2 :=
 ⟨fun i hi h0=>k.z i (Nat.lt_of_lt_of_le hi h.x.size) (h.z i hi h0),h.x.trans k.x fun i hi hh h0=>hh (h.z i hi h0)⟩
theorem Stw.no(x:Ext No w w'):Stw T w T w':=⟨fun _ _ h=>h,x.of_no⟩
theorem Stw.nx{T1:Nat->Nat}{w1:Wd}(h:Stw T w T1 w1)(k:Ext No w1 w'):Stw T w T1 w':=h.trans (.no k)
theorem Stw.blk{o:Obj}{b:Nat}(h:Stw T w T' w')(hb:w.heap[b]? = some o)(ht:T b=0):w'.heap[b]? = some o:=(h.x.blk b (hlt hb) fun hh=>hh ht).trans hb
theorem Stw.out{w1:Wd}{b:Nat}(h:Stw T w T' w1)(x:Ext (·=b) w1 w')(hb:w.heap.size<=b):Stw T w T' w':=⟨h.z,h.x.trans x fun i hi e=>by subst e; omega⟩
theorem Stw.one{b:Nat}(x:Ext (·=b) w w')(hb:T b≠0):Stw T w T w':=⟨fun _ _ h=>h,x.mono fun i _ h=>by subst h; exact hb⟩
theorem VtC.sy(V:VtC w T v s)(st:Stp T w T' w')(y':Sy w' T' s')(hd:s'.R.dev=s.R.dev)(hg:s'.g.rb=s.g.rb)(hl:s'.lb=s.lb)(hr:s'.rb=s.rb)(hp:s'.pb=s.pb):VtC w' T' v s':=by
 have hv:v.c s'=v.c s:=by
  have e1:s'.d.p=s.d.p:=by rw [<- y'.rg.d,<- V.y.rg.d,hd]
  show vtC v.key s'.d.p (some ⟨s'.g.rb,0,none⟩) (some ⟨s'.lb,0,none⟩) v.op (some ⟨s'.rb,0,none⟩) (some ⟨s'.pb,0,none⟩) v.mp v.al=_
  rw [e1,hg,hl,hr,hp]
 refine ⟨y',?_,(st.a _ (hlt V.b)).trans V.tb,V.k.ext st.x fun p b hp hb hh=>?_,fun i hi=>⟨(st.a i (V.kt i hi).2).trans (V.kt i hi).1,Nat.lt_of_lt_of_le (V.kt i hi).2 st.x.size⟩,V.kB,V.kn,V.a.ext st.x fun h=>by have:=V.ta; omega,(st.a _ (map_lt V.a)).trans V.ta⟩
 .rw [hv]; exact st.blk V.b (.inr (by rw [V.tb]; decide))
 .have:=(V.kt b (by simp [Sl.blk,hp,hb])).1; omega
theorem VtC.no(V:VtC w T v s)(x:Ext No w w'):VtC w' T v s:=V.sy (.no x) (V.y.no x) rfl rfl rfl rfl rfl
theorem VtC.loc(V:VtC w T v s)(x:Ext S w w')(h:∀ i,S i->T i=0∨16<=T i):VtC w' T v s:=by
 have hn:∀ i,13<=T i->T i<=15->¬ S i:=fun i h1 h2 hi=>by have:=h i hi; omega
 exact ⟨V.y.loc x fun i hi=>by have:=h i hi; omega,(x.blk _ (hlt V.b) (hn _ (by rw [V.tb]; decide) (by rw [V.tb]; decide))).trans V.b,V.tb,V.k.ext x fun p b hp hb=>hn b (by rw [(V.kt b (by simp [Sl.blk,hp,hb])).1]; decide) (by rw [(V.kt b (by simp [Sl.blk,hp,hb])).1]; decide),fun i hi=>⟨(V.kt i hi).1,Nat.lt_of_lt_of_le (V.kt i hi).2 x.size⟩,V.kB,V.kn,V.a.ext x (hn _ (by rw [V.ta]; decide) (by rw [V.ta]; decide)),V.ta⟩
theorem VtC.put(V:VtC w T v s){op:Bool}{mp:MP}(r:w'.heap[v.vb]? = some (.cells (({ v with op:=op,mp:=mp }:VA).c s).toArray 43 (0,0)))(x:Ext (·=v.vb) w w'):VtC w' T { v with op:=op,mp:=mp } s:=by
 have tb:=V.tb
 exact ⟨V.y.loc x fun i hi=>by rw [hi,tb]; exact .inr (Nat.le_refl _),r,tb,V.k.ext x fun p b hp hb e=>by have:=(V.kt b (by simp [Sl.blk,hp,hb])).1; rw [e,tb] at this; exact absurd this (by decide),fun i hi=>⟨(V.kt i hi).1,Nat.lt_of_lt_of_le (V.kt i hi).2 x.size⟩,V.kB,V.kn,V.a.ext x fun e=>by have:=V.ta; rw [e,tb] at this; exact absurd this (by decide),V.ta⟩
theorem VtC.ten(V:VtC w T v s){ts:List (Int×Value)}(r:MapR w'.heap u32E v.al ts)(x:Ext (·=v.al) w w'):VtC w' T { v with ts:=ts } s:=by
 have ta:=V.ta
 exact ⟨V.y.loc x fun i hi=>by rw [hi,ta]; exact .inr (by decide),(x.blk _ (hlt V.b) fun e=>by have:=V.tb; rw [e,ta] at this; exact absurd this (by decide)).trans V.b,V.tb,V.k.ext x fun p b hp hb e=>by have:=(V.kt b (by simp [Sl.blk,hp,hb])).1; rw [e,ta] at this; exact absurd this (by decide),fun i hi=>⟨(V.kt i hi).1,Nat.lt_of_lt_of_le (V.kt i hi).2 x.size⟩,V.kB,V.kn,r,ta⟩
theorem have_mp{m:MP}{K:Int->Int->Int->Int->Int->Int->Int->Wd->Prop}(k:∀ w',Ext No w w'->K m.cm m.pg m.rc m.gn m.lv m.rg m.tn w'):C_vault_have_api_MetaPage m.cm m.pg m.rc m.gn m.lv m.rg m.tn 0 w K:=by
 apply S_vault_have_api_MetaPage
 refine fun b w1 n1 b1 w2 n2=>must_ok ?_
 have g1:=get_no n1.get n2.ext
 refine ⟨_,Cell.lst g1 rfl,_,Cell.lst g1 rfl,_,Cell.lst g1 rfl,_,Cell.lst g1 rfl,_,Cell.lst g1 rfl,_,Cell.lst g1 rfl,_,Cell.lst g1 rfl,rfl,StN.mk n2.get (Nat.le_refl 7) (oneL rfl) fun w3 h3=>?_⟩
 have g3:=h3.get n2.get
 have a2:=n2.at_; have z1:=n1.size
 exact ⟨_,Cell.lst g3 rfl,_,Cell.lst g3 rfl,_,Cell.lst g3 rfl,_,Cell.lst g3 rfl,_,Cell.lst g3 rfl,_,Cell.lst g3 rfl,_,Cell.lst g3 rfl,k w3 ((n1.ext.no n2.ext).out h3.ext (by omega))⟩
theorem have_root{p c g l:Int}{K:Int->Int->Int->Int->Wd->Prop}(k:∀ w',Ext No w w'->K p c g l w'):C_vault_have_api_Root p c g l 0 w K:=by
 apply S_vault_have_api_Root
 refine fun b w1 n1 b1 w2 n2=>must_ok ?_
 have g1:=get_no n1.get n2.ext
 refine ⟨_,Cell.lst g1 rfl,_,Cell.lst g1 rfl,_,Cell.lst g1 rfl,_,Cell.lst g1 rfl,rfl,StN.mk n2.get (Nat.le_refl 4) (oneL rfl) fun w3 h3=>?_⟩
 have g3:=h3.get n2.get
 have a2:=n2.at_; have z1:=n1.size
 exact ⟨_,Cell.lst g3 rfl,_,Cell.lst g3 rfl,_,Cell.lst g3 rfl,_,Cell.lst g3 rfl,k w3 ((n1.ext.no n2.ext).out h3.ext (by omega))⟩
theorem have_held{g c:Int}{x:Sl}{K:Int->Int->Sl->Wd->Prop}(k:∀ w',Ext No w w'->K g c x w'):C_vault_have_api_Held g c x 0 w K:=by
 apply S_vault_have_api_Held
 refine fun b w1 n1 b1 w2 n2=>must_ok ?_
 have g1:=get_no n1.get n2.ext
 refine ⟨_,Cell.lst g1 rfl,_,Cell.lst g1 rfl,x,Cell.lst g1 rfl,rfl,StN.mk n2.get (Nat.le_refl 3) (oneL rfl) fun w3 h3=>?_⟩
 have g3:=h3.get n2.get
 have a2:=n2.at_; have z1:=n1.size
 exact ⟨_,Cell.lst g3 rfl,_,Cell.lst g3 rfl,x,Cell.lst g3 rfl,k w3 ((n1.ext.no n2.ext).out h3.ext (by omega))⟩
theorem face_nil{K:Wd->Prop}{vv ev:Option Addr}(k:K w):retD pz 50 #[.pointer vv, .pointer ev] K w :=
 R_vault_Vault_face ⟨trivial,If.yes k⟩
end
end Go.Proofs.YtmbckodpbdlblaaGreat
namespace Go.Proofs.YtmbckodpbdlblaaGreat
open Go.V Go.V.Dk Go.V.Rn
section
variable {w w':Wd} {T T':Nat->Nat} {S:Nat->Prop} {vb:Nat} {key:Sl} {kl:List Int} {d:Dev} {D:DS} {g:Rgs} {R:RS} {rb mb:Nat} {ks:List RK} {lb:Nat} {ls:Sl} {L:List LE} {al:Nat} {op:Bool} {m:MP}
structure PreC(w:Wd)(T:Nat->Nat)(vb:Nat)(key:Sl)(kl:List Int)(d:Dev)(D:DS)(g:Rgs)(R:RS)(rb mb:Nat)(ks:List RK)(lb:Nat)(ls:Sl)(L:List LE)(al:Nat)(op:Bool)(m:MP):Prop where
 dk:DkC w T d D
 rg:RgC w T d g R
 rn:RnC w T rb mb ks
 lg:LgC w T lb ls L
 out:∀ i,w.heap.size<=i->T i=0
 b:w.heap[vb]? = some (.cells (vtC key d.p g.p (some ⟨lb,0,none⟩) op (some ⟨rb,0,none⟩) none m al).toArray 43 (0,0))
 tb:T vb=13
 k:RdB w.heap key kl
 kt:∀ i,key.blk=some i->T i=14/\i < w.heap.size
 kB:B8 kl
 kn:key.len=32
 a:MapR w.heap u32E al ([]:List (Int×Value))
 ta:T al=15
theorem PreC.no(P:PreC w T vb key kl d D g R rb mb ks lb ls L al op m)(x:Ext No w w'):PreC w' T vb key kl d D g R rb mb ks lb ls L al op m:=by
 have a:Ag T T w.heap.size:=fun _ _=>rfl
 have f:∀(k i:Nat),T i=k->¬ No i:=fun _ _ _ h=>h
 exact ⟨P.dk.keep x a (f 1),P.rg.keep x a (f 2),P.rn.keep x a (f 3),P.lg.keep x a (f 4),fun i hi=>P.out i (Nat.le_trans x.size hi),get_no P.b x,P.tb,Rd.no P.k x,fun i hi=>⟨(P.kt i hi).1,Nat.lt_of_lt_of_le (P.kt i hi).2 x.size⟩,P.kB,P.kn,P.a.ext x fun h=>h,P.ta⟩
theorem PreC.put(P:PreC w T vb key kl d D g R rb mb ks lb ls L al op m){op':Bool}{m':MP}(r:w'.heap[vb]? = some (.cells (vtC key d.p g.p (some ⟨lb,0,none⟩) op' (some ⟨rb,0,none⟩) none m' al).toArray 43 (0,0)))(x:Ext (·=vb) w w'):PreC w' T vb key kl d D g R rb mb ks lb ls L al op' m':=by
 have a:Ag T T w.heap.size:=fun _ _=>rfl
 have tb:=P.tb
 have f:∀(k:Nat),k≠13->∀ i,T i=k->¬ (i=vb):=fun k hk i h e=>by subst e; exact hk (h.symm.trans tb)
 exact ⟨P.dk.keep x a (f 1 (by decide)),P.rg.keep x a (f 2 (by decide)),P.rn.keep x a (f 3 (by decide)),P.lg.keep x a (f 4 (by decide)),fun i hi=>P.out i (Nat.le_trans x.size hi),r,P.tb,P.k.ext x fun p b hp hb e=>f 14 (by decide) b (P.kt b (by simp [Sl.blk,hp,hb])).1 e,fun i hi=>⟨(P.kt i hi).1,Nat.lt_of_lt_of_le (P.kt i hi).2 x.size⟩,P.kB,P.kn,P.a.ext x (f 15 (by decide) _ P.ta),P.ta⟩
theorem PreC.ring{k:RK}(P:PreC w T vb key kl d D g R rb mb ks lb ls L al op m)(r:RingR w' rb mb (ks++[k]))(hk:∀ i,k.s.blk=some i->w.heap.size<=i)(x:Ext (·=mb) w w')(hn:ks.length < 100):PreC w' (tup T w.heap.size w'.heap.size 3) vb key kl d D g R rb mb (ks++[k]) lb ls L al op m:=by
 have a:=tup_ag T w.heap.size w'.heap.size 3
 have c:=P.rn
 have f:∀(k:Nat),k≠3->∀ i,T i=k->¬ (i=mb):=fun k hk i h e=>by subst e; exact hk (h.symm.trans c.t2)
 refine ⟨P.dk.keep x a (f 1 (by decide)),P.rg.keep x a (f 2 (by decide)),⟨r,(a _ (hlt c.r.blk)).trans c.t,(a _ (map_lt c.r.map)).trans c.t2,fun q hq i hi=>?_,by simp; omega⟩,P.lg.keep x a (f 4 (by decide)),tup_out _ _ _ _ x.size,(x.blk _ (hlt P.b) (f 13 (by decide) _ P.tb)).trans P.b,(a _ (hlt P.b)).trans P.tb,P.k.ext x fun p b hp hb e=>f 14 (by decide) b (P.kt b (by simp [Sl.blk,hp,hb])).1 e,fun i hi=>⟨(a i (P.kt i hi).2).trans (P.kt i hi).1,Nat.lt_of_lt_of_le (P.kt i hi).2 x.size⟩,P.kB,P.kn,P.a.ext x (f 15 (by decide) _ P.ta),(a _ (map_lt P.a)).trans P.ta⟩
 rcases List.mem_append.1 hq with h | h
 .exact (a i (c.r.klt h hi)).trans (c.t3 q h i hi)
 .simp only [List.mem_singleton] at h; subst h
  exact tup_new T (hk i hi) (r.klt (List.mem_append.2 (.inr (List.mem_singleton.2 rfl))) hi)
abbrev mp0:MP:=⟨0,0,0,0,0,0,0⟩
abbrev mp1:MP:=⟨0,0,0,0,0,1,0⟩
set_option maxHeartbeats 4000000 in
theorem opened_spec{K:Int->Wd->Prop}(dk:DkC w T d D)(rg:RgC w T d g R)(lg:LgC w T lb ls L)(out:∀ i,w.heap.size<=i->T i=0)
  (hb:w.heap[vb]? = some (.cells [.int .i64 100, .int .u64 1000, .slice none 0 0,key.v, .pointer d.p, .pointer g.p, .pointer (some ⟨lb,0,none⟩), .bool false, .pointer none, .pointer none, .int .u64 0, .int .u32 0, .int .u64 0, .int .u16 0, .int .u8 0, .int .u16 0, .int .u32 0, .map none].toArray 43 (0,0)))
  (tb:T vb=13) (hk:RdB w.heap key kl) (kt:∀ i,key.blk=some i->T i=14/\i < w.heap.size) (kB:B8 kl) (kn:key.len=32) (hz:∀ i:Nat,i < 100->D.now.getD i []=zeroRow) (hR:R.committed=0)
  (k:∀ T' s q kq al w',VtC w' T' ⟨vb,key,kl,true,mp1,al,[]⟩ s->s.D=D->s.R=R->s.ks=[⟨⟨0,1⟩,q,kq⟩]->kq.length=32->s.L=L->s.F=[(2,100)]->s.ps=[]->s.cm=0->s.la=0->Stw T w T' w'->K 0 w'):C_vault_Vault_opened (some ⟨vb,0,none⟩) false w K:=by
 apply S_vault_Vault_opened
 refine fun b w1 n1=>newRing_spec fun rb mb w2 R2 hrb hmb x2 al w3 n3=>?_
 have a1:=n1.at_; have z1:=n1.size; have a3:=n3.at_; have z3:=n3.size; have z2:=x2.size
 have x03:Ext No w w3:=(n1.ext.no x2).no n3.ext
 obtain ⟨T3,hT⟩ : ∃ T3,T3=tup (tup T w1.heap.size w2.heap.size 3) w2.heap.size w3.heap.size 15:=⟨_,rfl⟩
 have ag1:Ag T T3 w1.heap.size:=fun i hi=>by rw [hT,tup_ag _ _ _ _ i (by omega),tup_ag _ _ _ _ i hi]
 have ag:Ag T T3 w.heap.size:=fun i hi=>ag1 i (by omega)
 have hb3:=get_no hb x03
 have lvb:=hlt hb
 have tb3:T3 vb=13:=(ag vb lvb).trans tb
 have tal:T3 al=15:=by rw [hT]; exact tup_new _ (by omega) (by omega)
 have t3:∀ i,w1.heap.size<=i->i < w2.heap.size->T3 i=3:=fun i h1 h2=>by rw [hT,tup_ag _ _ _ _ i h2]; exact tup_new _ h1 h2
 have f:∀(k i:Nat),T i=k->¬ No i:=fun _ _ _ h=>h
 refine Nn.mk (St1.mk hb3 (Nat.le_of_ble_eq_true rfl) rfl fun w4 h4=>?_)
 have g4:=h4.get hb3
 refine Nn.mk (St1.mk g4 (Nat.le_of_ble_eq_true rfl) rfl fun w5 h5=>?_)
 have g5:=h5.get g4
 refine Nn.mk (St1.mk g5 (Nat.le_of_ble_eq_true rfl) rfl fun w6 h6=>?_)
 have g6:=h6.get g5
 refine Nn.mk (St1.mk g6 (Nat.le_of_ble_eq_true rfl) rfl fun w7 h7=>?_)
 have g7:w7.heap[vb]? = some (.cells (vtC key d.p g.p (some ⟨lb,0,none⟩) false (some ⟨rb,0,none⟩) none mp0 al).toArray 43 (0,0)):=h7.get g6
 have x37:Ext (·=vb) w3 w7:=((h4.ext.trans h5.ext fun i _ e=>e).trans h6.ext fun i _ e=>e).trans h7.ext fun i _ e=>e
 have f3:∀(k:Nat),k≠13->∀ i,T3 i=k->¬ (i=vb):=fun k hk i h e=>by subst e; exact hk (h.symm.trans tb3)
 have agr:Ag T3 T3 w3.heap.size:=fun _ _=>rfl
 have P7:PreC w7 T3 vb key kl d D g R rb mb [] lb ls L al false mp0 :=
  ⟨(dk.keep x03 ag (f 1)).keep x37 agr (f3 1 (by decide)),(rg.keep x03 ag (f 2)).keep x37 agr (f3 2 (by decide)),
   RnC.keep ⟨R2.no n3.ext,t3 _ hrb (hlt R2.blk),t3 _ hmb (map_lt R2.map),fun q h=>(nomatch h),Nat.zero_le _⟩ x37 agr (f3 3 (by decide)),(lg.keep x03 ag (f 4)).keep x37 agr (f3 4 (by decide)),
   fun i hi=>by rw [hT]; exact tup_out _ _ _ _ (by omega) i (Nat.le_trans x37.size hi),g7,tb3,(Rd.no hk x03).ext x37 fun p c hp hc e=>f3 14 (by decide) c ((ag c (kt c (by simp [Sl.blk,hp,hc])).2).trans (kt c (by simp [Sl.blk,hp,hc])).1) e,
   fun i hi=>⟨(ag i (kt i hi).2).trans (kt i hi).1,by have:=(kt i hi).2; have:=x03.size; have:=x37.size; omega⟩,kB,kn,(⟨#[],0,get_ext n3.get x37 (f3 15 (by decide) _ tal),rfl,BornOK.nil⟩ : MapR w7.heap u32E al ([]:List (Int×Value))),tal⟩
 have tb0:T3 b=0:=(ag1 b (by omega)).trans (out b (by omega))
 have gb7:w7.heap[b]? = some (.cells [Value.int .i64 0].toArray 48 (0,0)):=get_ext (get_no n1.get (x2.no n3.ext)) x37 (by omega)
 have s7:Stw T w T3 w7:=(⟨fun i hi h=>(ag i hi).trans h,(x03.of_no.trans x37 fun i hi e=>by rw [e,tb]; decide)⟩ : Stw T w T3 w7)
 refine ⟨fun u=>w7=u,If.no rfl,?_⟩
 rintro _ _ rfl
 refine ⟨fun n t u=>∃ j:Nat,t=(j:Int)/\j<=2/\n=2 - j/\Ext No w7 u,⟨_,0,rfl,Nat.zero_le _,rfl,Ext.refl _ _⟩,?_⟩
 rintro _ n t w11 ⟨j,rfl,hj,rfl,x11⟩
 have P11:=P7.no x11
 refine If.dec (fun h=>?_) fun h=>?_
 .refine Nn.mk ⟨d.p,Cell.lst P11.b rfl,diskRead_spec P11.dk.r (fun hh=>by rw [P11.dk.c.has (by omega)] at hh; cases hh) (fun _ hh=>by rw [P11.dk.c.down] at hh; cases hh) fun _ _ s5 w12 o5 x5=>have_byte ?_⟩
  have ez:D.now.getD ((j:Int)).toNat []=zeroRow:=hz _ (by omega)
  rw [ez] at o5
  refine toldZ_spec o5.rd ⟨fun t u=>false=t/\w12=u,If.beq (fun h=>absurd h (by decide)) fun _=>⟨rfl,rfl⟩,?_⟩
  rintro _ _ _ ⟨rfl,rfl⟩
  exact If.no (Ar.i64 (by omega) ⟨2 - (j+1),by omega,j+1,by push_cast; omega,by omega,rfl,x11.no x5⟩)
 have xd:Ext No w11 (drewW w11):=(Ext.refl _ _).drew
 have P12:=P11.no xd
 refine ⟨Ext No w11,xd,Nn.mk ⟨d.p,Held.but (Cell.lst P11.b rfl) (fun h=>h),Nn.mk ⟨g.p,Held.but (Cell.lst P11.b rfl) (fun h=>h),Nn.mk ⟨some ⟨rb,0,none⟩,Held.but (Cell.lst P11.b rfl) (fun h=>h),?_⟩⟩⟩⟩
 refine revive_spec P12.rg.r hR fun w22 x22=>⟨x22.drew_left,have_mp (m:=mp0) fun w23 x23=>⟨x22.drew_left.no x23,Nn.mk ⟨rfl,?_⟩⟩⟩
 have x1123:=x22.drew_left.no x23
 have P23:=P11.no x1123
 refine StN.mk P23.b (Nat.le_of_ble_eq_true rfl) (oneL rfl) fun w24 h24=>?_
 have P24:=P23.put (op':=false) (m':=mp0) (h24.get P23.b) h24.ext
 refine ⟨fun u=>PreC u T3 vb key kl d D g R rb mb [] lb ls L al false mp1/\Stw T w T3 u/\u.heap[b]? = some (.cells [Value.int .i64 0].toArray 48 (0,0)),Nn.mk ⟨0,Cell.lst P24.b rfl,If.beq (fun _=>Nn.mk (St1.mk P24.b (Nat.le_of_ble_eq_true rfl) rfl fun w25 h25=>?_)) fun h=>absurd rfl h⟩,?_⟩
 .have x24:Ext (·=vb) w23 w24:=h24.ext
  have x25:Ext (·=vb) w24 w25:=h25.ext
  have nz:T3 vb≠0:=by rw [tb3]; decide
  exact ⟨P24.put (op':=false) (m':=mp1) (h25.get P24.b) h25.ext,(((s7.nx x11).nx x1123).trans (Stw.one x24 nz)).trans (Stw.one x25 nz),get_ext (get_ext (get_no (get_no gb7 x11) x1123) x24 (by omega)) x25 (by omega)⟩
 rintro _ w26 ⟨P26,s26,gb26⟩
 refine Nn.mk ⟨some ⟨rb,0,none⟩,Cell.lst P26.b rfl,gens_spec P26.rn.r (Nat.zero_le _) (Nat.zero_le _) fun s27 w27 o27 x27=>?_⟩
 have e27:s27.len=0:=by have:=o27.len; simpa using this.symm
 have P27:=P26.no x27
 refine ⟨fun _ t u=>0=t/\w27=u,⟨0,rfl,rfl⟩,?_⟩
 rintro _ _ _ _ ⟨rfl,rfl⟩
 refine If.dec (fun h=>by omega) fun _=>?_
 refine ⟨fun u=>∃ T6 q kq,kq.length=32/\PreC u T6 vb key kl d D g R rb mb [⟨⟨0,1⟩,q,kq⟩] lb ls L al false mp1/\Stw T w T6 u/\T6 b=0/\u.heap[b]? = some (.cells [Value.int .i64 0].toArray 48 (0,0)),?_,?_⟩
 .refine Nn.mk ⟨some ⟨rb,0,none⟩,Cell.lst P27.b rfl,gens_spec P27.rn.r (Nat.zero_le _) (Nat.zero_le _) fun s28 w28 o28 x28=>?_⟩
  have e28:s28.len=0:=by have:=o28.len; simpa using this.symm
  have P28:=P27.no x28
  have nb:¬ (vb=mb):=fun e=>by have h1:=P28.rn.t2; have h2:=P28.tb; rw [e,h1] at h2; exact absurd h2 (by decide)
  have xd:Ext No w28 (drewW w28):=(Ext.refl _ _).drew
  have P29:=P28.no xd
  refine If.beq (fun _=>?_) fun h=>by omega
  refine ⟨Ext (·=mb) w28,xd.of_no,Nn.mk ⟨some ⟨rb,0,none⟩,Held.but (Cell.lst P28.b rfl) nb,Nn.mk ⟨1,Held.but (Cell.lst P28.b rfl) nb,Nn.mk ⟨key,Held.but (Cell.lst P28.b rfl) nb,Nn.mk ⟨1,Held.but (Cell.lst P28.b rfl) nb,?_⟩⟩⟩⟩⟩
  refine root_spec P29.k kB kn fun s30 kq w30 o30 hkl hkB x30=>⟨x30.drew_left.of_no,have_byte ⟨x30.drew_left.of_no,?_⟩⟩
  have x2830:Ext No w28 w30:=x30.drew_left
  have P30:=P28.no x2830
  refine ringAdd_spec P30.rn.r rfl o30.rd hkB (.inr (by rw [OwnB.len o30]; exact hkl)) fun q w31 R31 hq x31=>?_
  have xx:Ext (·=mb) w28 w31:=x2830.of_no.trans x31 fun i _ e=>e
  have gb30:=get_no gb26 ((x27.no x28).no x2830)
  refine ⟨xx,must_ok ⟨xx,tup T3 w30.heap.size w31.heap.size 3,q,kq,hkl,P30.ring (k:=⟨⟨0,1⟩,q,kq⟩) R31 hq x31 (by decide),?_,(tup_ag _ _ _ _ b (hlt gb30)).trans tb0,get_ext gb30 x31 fun e=>?_⟩⟩
  .have st:Stw T3 w30 (tup T3 w30.heap.size w31.heap.size 3) w31:=⟨fun i hi h=>(tup_ag _ _ _ _ i hi).trans h,x31.mono fun i _ e=>by rw [e,P30.rn.t2]; decide⟩
   exact (((s26.nx x27).nx x28).nx x2830).trans st
  .have:=P30.rn.t2; rw [<- e,tb0] at this; exact absurd this (by decide)
 rintro _ w36 ⟨T6,q,kq,hkl,P36,s36,tb6,gb36⟩
 have xd6:Ext No w36 (drewW w36):=(Ext.refl _ _).drew
 have P36d:=P36.no xd6
 have n13:¬ (1<=T6 vb/\T6 vb<=12):=by rw [P36.tb]; decide
 refine ⟨Ext (fun i=>1<=T6 i/\T6 i<=12) w36,xd6.of_no,Nn.mk ⟨d.p,Held.but (Cell.lst P36.b rfl) n13,Nn.mk ⟨some ⟨rb,0,none⟩,Held.but (Cell.lst P36.b rfl) n13,Nn.mk ⟨some ⟨lb,0,none⟩,Held.but (Cell.lst P36.b rfl) n13,?_⟩⟩⟩⟩
 refine newPager_spec P36d.dk P36d.rg P36d.rn P36d.lg fun T7 s w37 y37 e1 e2 e3 e4 e5 e6 e7 e8 e9 e10 e11 e12 e13 e14 e15 e16 e17 s37=>⟨xd6.of_no.trans s37.x fun i _ h=>h,have_pager ⟨xd6.of_no.trans s37.x fun i _ h=>h,?_⟩⟩
 have s3637:Stp T6 w36 T7 w37:=(Stp.no xd6).trans s37
 have b37:=s3637.blk P36.b (.inr (by rw [P36.tb]; decide))
 have tb7:T7 vb=13:=(s3637.a vb (hlt P36.b)).trans P36.tb
 refine Nn.mk (St1.mk b37 (Nat.le_of_ble_eq_true rfl) rfl fun w39 h39=>?_)
 have x39:Ext (·=vb) w37 w39:=h39.ext
 have b39:=h39.get b37
 have V39:VtC w39 T7 ⟨vb,key,kl,false,mp1,al,[]⟩ s:=by
  refine ⟨y37.loc x39 fun i hi=>by rw [hi,tb7]; exact .inr (Nat.le_refl _),?_,tb7,(P36.k.ext s3637.x fun p c hp hc hh=>?_).ext x39 fun p c hp hc e=>?_,fun i hi=>⟨(s3637.a i (P36.kt i hi).2).trans (P36.kt i hi).1,?_⟩,P36.kB,P36.kn,(P36.a.ext s3637.x fun hh=>?_).ext x39 fun e=>?_,(s3637.a _ (map_lt P36.a)).trans P36.ta⟩
  .have hv:(⟨vb,key,kl,false,mp1,al,[]⟩ : VA).c s=vtC key d.p g.p (some ⟨lb,0,none⟩) false (some ⟨rb,0,none⟩) s.p mp1 al:=by
    show vtC key s.d.p (some ⟨s.g.rb,0,none⟩) (some ⟨s.lb,0,none⟩) false (some ⟨s.rb,0,none⟩) s.p mp1 al=_
    rw [e1,e3,e8,e5]
   rw [hv]; exact b39
  .have:=(P36.kt c (by simp [Sl.blk,hp,hc])).1; omega
  .have:=(P36.kt c (by simp [Sl.blk,hp,hc])).1; have h2:=P36.tb; rw [e] at this; omega
  .have:=(P36.kt i hi).2; have:=s3637.x.size; have:=x39.size; omega
  .have:=P36.ta; omega
  .have:=P36.ta; have h2:=P36.tb; rw [e] at this; omega
 have gb39:w39.heap[b]? = some (.cells [Value.int .i64 0].toArray 48 (0,0)):=get_ext (s3637.blk gb36 (.inl tb6)) x39 fun e=>by have:=P36.tb; rw [<- e,tb6] at this; exact absurd this (by decide)
 have tb7':T7 b=0:=(s3637.a b (hlt gb36)).trans tb6
 have s39:Stw T w T7 w39:=(s36.trans s3637.tw).trans (Stw.one x39 (by rw [tb7]; decide))
 have xd39:Ext No w39 (drewW w39):=(Ext.refl _ _).drew
 refine ⟨Ext No w39,xd39,Nn.mk ⟨s.p,Held.but (Cell.lst V39.b rfl) (fun h=>h),Nn.mk ⟨0,Held.but (Cell.lst V39.b rfl) (fun h=>h),0,Held.but (Cell.lst V39.b rfl) (fun h=>h),0,Held.but (Cell.lst V39.b rfl) (fun h=>h),0,Held.but (Cell.lst V39.b rfl) (fun h=>h),?_⟩⟩⟩
 refine labels0 fun w40 x40=>⟨x40.drew_left,have_label ⟨x40.drew_left,?_⟩⟩
 have x3940:=x40.drew_left
 have V40:=V39.no x3940
 refine ⟨Ext No w40,(Ext.refl _ _).drew,Nn.mk ⟨s.p,Held.but (Cell.lst V40.b rfl) (fun h=>h),Nn.mk ⟨0,Held.but (Cell.lst V40.b rfl) (fun h=>h),0,Held.but (Cell.lst V40.b rfl) (fun h=>h),0,Held.but (Cell.lst V40.b rfl) (fun h=>h),0,Held.but (Cell.lst V40.b rfl) (fun h=>h),?_⟩⟩⟩
 refine rollAll0 fun w42 x42=>⟨x42.drew_left,have_seat ⟨x42.drew_left,?_⟩⟩
 have x3942:=x3940.no x42.drew_left
 have V42:=V39.no x3942
 refine ⟨fun u=>w42=u,Nn.mk ⟨0,Cell.lst V42.b rfl,Ar.i64 (by decide) (If.bne (fun h=>absurd rfl h) fun _=>rfl)⟩,?_⟩
 rintro _ _ rfl
 have xd42:Ext No w42 (drewW w42):=(Ext.refl _ _).drew
 refine ⟨Ext No w42,xd42,Nn.mk ⟨some ⟨s.rb,0,none⟩,Held.but (Cell.lst V42.b rfl) (fun h=>h),Nn.mk ⟨1,Held.but (Cell.lst V42.b rfl) (fun h=>h),?_⟩⟩⟩
 refine ringKey_spec (q:=⟨⟨0,1⟩,q,kq⟩) (V42.no xd42).y.rn.r (by rw [e7]; rfl) fun s45 w45 o45 x45=>⟨x45.drew_left,have_byte ⟨x45.drew_left,?_⟩⟩
 have x3945:=x3942.no x45.drew_left
 have V45:=V39.no x3945
 refine ⟨fun _ r t u=>⟨none,0,0⟩=r/\0=t/\w45=u,⟨0,rfl,rfl,rfl⟩,?_⟩
 rintro _ _ _ _ _ ⟨rfl,rfl,rfl⟩
 refine If.dec (fun h=>absurd h (by decide)) fun _=>?_
 refine MkW.mk (by decide) (by decide) (by decide) (by decide) fun b9 w46 n46=>?_
 have V46:=V45.no n46.ext
 refine ⟨fun _ t u=>0=t/\w46=u,⟨0,rfl,rfl⟩,?_⟩
 rintro _ _ _ _ ⟨rfl,rfl⟩
 refine If.dec (fun h=>absurd h (by decide)) fun _=>Nn.mk ⟨s.p,Cell.lst V46.b rfl,?_⟩
 refine sweep_spec V46.y e15 e12 (by rw [e2]; exact hz) rfl fun T8 fr8 wb8 w73 y73 s73=>must_ok ?_
 have V73:=V46.sy s73 y73 rfl rfl rfl rfl rfl
 have s3973:Stp T7 w39 T8 w73:=(Stp.no (x3945.no n46.ext)).trans s73
 have gb73:=s3973.blk gb39 (.inl tb7')
 have tb8:T8 b=0:=(s3973.a b (hlt gb39)).trans tb7'
 refine Nn.mk (St1.mk V73.b (Nat.le_of_ble_eq_true rfl) rfl fun w75 h75=>?_)
 have x75:Ext (·=vb) w73 w75:=h75.ext
 have V75:=V73.put (op:=true) (mp:=mp1) (h75.get V73.b) x75
 have nbv:b≠vb:=fun e=>by have:=V73.tb; simp only at this; rw [<- e,tb8] at this; exact absurd this (by decide)
 have gb75:=get_ext gb73 x75 nbv
 refine St1.mk gb75 Nat.one_pos rfl fun w76 h76=>face_nil ⟨0,Cell.lst (h76.get gb75) rfl,?_⟩
 have x76:Ext (·=b) w75 w76:=h76.ext
 have V76:=V75.loc x76 fun i hi=>by rw [hi]; exact .inl tb8
 refine k T8 _ q kq al w76 V76 (by exact e2) (by exact e4) (by exact e7) hkl (by exact e10) rfl (by exact e12) (by exact e15) (by exact e16) ?_
 exact ((s39.trans s3973.tw).trans (Stw.one x75 (by have:=V73.tb; simp only at this; rw [this]; decide))).out x76 (by omega)
end
end Go.Proofs.YtmbckodpbdlblaaGreat
namespace Go.Proofs.YtmbckodpbdlblaaGreat
open Go.V Go.V.Dk Go.V.Rn
theorem calm_new:Calm (newD 100):=⟨by simp [newD],rfl,rfl,rfl,⟨by decide,by decide⟩,by decide⟩
theorem zero_new(i:Nat)(h:i < 100):(newD 100).now.getD i []=zeroRow:=by
 show (List.replicate 100 zeroRow).getD i []=_
 rw [List.getD_eq_getElem?_getD,List.getElem?_replicate,if_pos h]; rfl
section
variable {w w':Wd}
theorem RdL.no{s:Sl}{L:List (List Int)}(r:RdL w.heap s L)(x:Ext No w w'):RdL w'.heap s L:=by
 obtain ⟨ins,h1,h2,h3⟩:=r.ex
 exact ⟨⟨ins,h1.no x,h2,fun j a b=>Rd.no (h3 j a b) x⟩,r.b8⟩
set_option maxHeartbeats 2000000 in
theorem vnew_spec{dr key:Sl}{kl:List Int}{L:List (List Int)}{K:Option Addr->Int->Wd->Prop}(hk:RdB w.heap key kl)(kB:B8 kl)(kn:key.len=32)(hL:RdL w.heap dr L)(hn:L.length<=1000)(hl:∀ l∈L,l.length<=1000)
  (k:∀ T' v s q kq w',VtC w' T' v s->v.mp=mp1->v.op=true->v.ts=[]->s.D=newD 100->s.R=⟨s.R.dev,1000,0,0,L⟩->s.ks=[⟨⟨0,1⟩,q,kq⟩]->kq.length=32->s.L=[]->s.F=[(2,100)]->s.ps=[]->s.cm=0->s.la=0->(∀ i,i < w.heap.size->T' i=0)->Ext No w w'->K v.p 0 w'):C_vault_New 100 1000 dr key w K:=by
 apply S_vault_New
 refine fun b w1 n1=>⟨key,Cell.lst n1.get rfl,If.bne (fun h=>absurd (by rw [kn]; rfl) h) fun _=>⟨100,Cell.lst n1.get rfl,?_⟩⟩
 have a1:=n1.at_; have z1:=n1.size
 refine diskNew_spec (fun h=>absurd ⟨by decide,by decide⟩ h) fun _ d w2 r2 f2 x2=>If.bne (fun h=>absurd rfl h) fun _=>⟨1000,Cell.lst (get_no n1.get x2) rfl,dr,Cell.lst (get_no n1.get x2) rfl,?_⟩
 have x02:=n1.ext.no x2
 refine regsNew_spec (hL.no x02) (by omega) (fun l h=>by have:=hl l h; omega) fun g w3 r3 f3 x3=>If.bne (fun h=>absurd rfl h) fun _=>⟨key,Cell.lst (get_no n1.get (x2.no x3)) rfl,?_⟩
 have x03:=x02.no x3
 refine clone_spec (Rd.no hk x03) (by have:=RdB.len hk; omega) fun r w4 o4 x4=>?_
 have gb4:=get_no n1.get ((x2.no x3).no x4)
 refine St1.mk gb4 (Nat.le_of_ble_eq_true rfl) rfl fun w5 h5=>?_
 have gb5:=h5.get gb4
 refine St1.mk gb5 (Nat.le_of_ble_eq_true rfl) rfl fun w6 h6=>?_
 have gb6:=h6.get gb5
 have x46:Ext (·=b) w4 w6:=h5.ext.trans h6.ext fun i _ e=>e
 have xd:Ext No w6 (drewW w6):=(Ext.refl _ _).drew
 refine ⟨Ext No w6,xd,100,Held.but (Cell.lst gb6 rfl) (fun h=>h),1000,Held.but (Cell.lst gb6 rfl) (fun h=>h),⟨none,0,0⟩,Held.but (Cell.lst gb6 rfl) (fun h=>h),r,Held.but (Cell.lst gb6 rfl) (fun h=>h),?_⟩
 refine newLog_spec fun lb w7 g7 hlb x7=>⟨x7.drew_left,fun vb w8 n8=>⟨x7.drew_left.no n8.ext,?_⟩⟩
 have x67:Ext No w6 w7:=x7.drew_left
 have x68:=x67.no n8.ext
 have z2:=x2.size; have z3:=x3.size; have z4:=x4.size; have z46:=x46.size; have z67:=x67.size; have z8:=n8.size; have a8:=n8.at_
 obtain ⟨T,hT⟩ : ∃ T,T=tup (tup (tup (tup (tup (fun _=>0) w1.heap.size w2.heap.size 1) w2.heap.size w3.heap.size 2) w3.heap.size w4.heap.size 14) w6.heap.size w7.heap.size 4) w7.heap.size w8.heap.size 13:=⟨_,rfl⟩
 have t0:∀ i,i < w1.heap.size->T i=0:=fun i hi=>by
  rw [hT,tup_ag _ _ _ _ i (by omega),tup_ag _ _ _ _ i (by omega),tup_ag _ _ _ _ i (by omega),tup_ag _ _ _ _ i (by omega),tup_ag _ _ _ _ i (by omega)]
 have t1:∀ i,w1.heap.size<=i->i < w2.heap.size->T i=1:=fun i h1 h2=>by
  rw [hT,tup_ag _ _ _ _ i (by omega),tup_ag _ _ _ _ i (by omega),tup_ag _ _ _ _ i (by omega),tup_ag _ _ _ _ i (by omega)]; exact tup_new _ h1 h2
 have t2:∀ i,w2.heap.size<=i->i < w3.heap.size->T i=2:=fun i h1 h2=>by
  rw [hT,tup_ag _ _ _ _ i (by omega),tup_ag _ _ _ _ i (by omega),tup_ag _ _ _ _ i (by omega)]; exact tup_new _ h1 h2
 have t14:∀ i,w3.heap.size<=i->i < w4.heap.size->T i=14:=fun i h1 h2=>by
  rw [hT,tup_ag _ _ _ _ i (by omega),tup_ag _ _ _ _ i (by omega)]; exact tup_new _ h1 h2
 have t4:∀ i,w6.heap.size<=i->i < w7.heap.size->T i=4:=fun i h1 h2=>by
  rw [hT,tup_ag _ _ _ _ i (by omega)]; exact tup_new _ h1 h2
 have t13:T vb=13:=by rw [hT]; exact tup_new _ (by omega) (by omega)
 have x28:Ext (·=b) w2 w8:=((x3.no x4).of_no.trans x46 fun i _ e=>e).trans x68.of_no fun i _ e=>e
 have x38:Ext (·=b) w3 w8:=(x4.of_no.trans x46 fun i _ e=>e).trans x68.of_no fun i _ e=>e
 have x48:Ext (·=b) w4 w8:=x46.trans x68.of_no fun i _ e=>e
 have x08:Ext No w w8:=(((x03.no x4).trans x46 fun i hi e=>by omega).no x68)
 refine opened_spec (T:=T) (g:=g) (R:=⟨some ⟨d.b,0,none⟩,1000,0,0,L⟩) (L:=[]) (ls:=⟨none,0,0⟩) (lb:=lb) (D:=newD 100) (kl:=kl)
  ⟨r2.ext x28 fun i hi e=>by have:=f2 i hi; omega,fun i hi=>t1 i (f2 i hi) (r2.lt hi),calm_new⟩
  ⟨r3.ext x38 fun i hi e=>by have:=f3 i hi; omega,fun i hi=>t2 i (f3 i hi) (r3.lt hi),rfl⟩
  ⟨⟨get_no g7 n8.ext,Own.nil _ _ _ _,(fun h=>nomatch h),fun e h=>(nomatch h)⟩,t4 lb (by rw [hlb]; exact Nat.le_refl _) (hlt g7),fun i h=>(nomatch h),Nat.zero_le _⟩
  (by rw [hT]; exact tup_out _ _ _ _ (by omega)) n8.get t13 (o4.rd.ext x48 fun p c hp hc e=>by have:=(o4.lt (show r.blk=some c by simp [Sl.blk,hp,hc])).1; omega)
  (fun i hi=>⟨t14 i (o4.lt hi).1 (o4.lt hi).2,by have:=(o4.lt hi).2; omega⟩) kB (by rw [OwnB.len o4,<- RdB.len hk]; exact kn) zero_new rfl fun T' s q kq al w' V e1 e2 e3 e0 e4 e5 e6 e7 e8 st=>?_
 refine k T' _ s q kq w' V rfl rfl rfl e1 (by rw [e2]) e3 e0 e4 e5 e6 e7 e8 (fun i hi=>st.z i (by omega) (t0 i (by omega))) (x08.trans st.x fun i hi h=>h (t0 i (by omega)))
end
end Go.Proofs.YtmbckodpbdlblaaGreat
namespace Go.Proofs.YtmbckodpbdlblaaGreat
open Go.V Go.V.Dk Go.V.Rn
section
variable {w w':Wd} {T T':Nat->Nat} {s:SA} {v:VA}
theorem run_len0{al:Nat}(h:MapR w.heap u32E al ([]:List (Int×Value))):Sem.run pz (Builtin.len_ #[41] 3 #[.map (some al)]) w = .ok (.int .i64 0) w:=by
 obtain ⟨es,clock,hb,he,_⟩:=h
 have h41:Tryz.prog.underlying 41=some (.map 33 110):=by kernel_rfl
 have h0:es.size=0:=by have:=congrArg List.length he; simpa using this
 simp [Builtin.len_,run_und h41,run_getMap hb,h0,goInt]
theorem key72:KeyOK pz 72 (Value.int .i64):=int_key (by kernel_rfl)
theorem map196:Tryz.prog.underlying 196=some (.map 72 71):=by kernel_rfl
theorem look71(w:Wd):(zeroValue 71).run pz w = .ok .nilFunc w:=by kernel_rfl
theorem how_spec{K:Value->Wd->Prop}(k:∀ w',Ext No w w'->K (.func (.func 97) #[.pointer v.p] #[]) w'):C_vault_Vault_how v.p 1 w K:=by
 apply S_vault_Vault_how
 refine fun b w1 n1=>?_
 have m1:MapR w1.heap (Value.int .i64) b ([]:List (Int×Value)):=⟨#[],0,n1.get,rfl,BornOK.nil⟩
 obtain ⟨w2,h2,m2,x2,_⟩:=run_mapUpdate (P:=pz) (a:=(1:Int)) (v := .func (.func 97) #[.pointer v.p] #[]) key72 map196 m1
 refine ⟨w2,h2,?_⟩
 obtain ⟨w3,h3,m3,x3,_⟩:=run_mapUpdate (P:=pz) (a:=(2:Int)) (v := .func (.func 98) #[.pointer v.p] #[]) key72 map196 m2
 refine ⟨w3,h3,?_⟩
 obtain ⟨w4,h4,m4,x4,_⟩:=run_mapUpdate (P:=pz) (a:=(3:Int)) (v := .func (.func 99) #[.pointer v.p] #[]) key72 map196 m3
 refine ⟨w4,h4,?_⟩
 obtain ⟨w5,h5,m5,x5,_⟩:=run_mapUpdate (P:=pz) (a:=(4:Int)) (v := .func (.func 100) #[.pointer v.p] #[]) key72 map196 m4
 refine ⟨w5,h5,?_⟩
 obtain ⟨w6,h6,m6,x6,_⟩:=run_mapUpdate (P:=pz) (a:=(5:Int)) (v := .func (.func 101) #[.pointer v.p] #[]) key72 map196 m5
 refine ⟨w6,h6,?_⟩
 obtain ⟨w7,h7,m7,x7,_⟩:=run_mapUpdate (P:=pz) (a:=(6:Int)) (v := .func (.func 102) #[.pointer v.p] #[]) key72 map196 m6
 refine ⟨w7,h7,?_⟩
 obtain ⟨w8,h8,m8,x8,_⟩:=run_mapUpdate (P:=pz) (a:=(7:Int)) (v := .func (.func 103) #[.pointer v.p] #[]) key72 map196 m7
 refine ⟨w8,h8,?_⟩
 obtain ⟨w9,h9,m9,x9,_⟩:=run_mapUpdate (P:=pz) (a:=(8:Int)) (v := .func (.func 104) #[.pointer v.p] #[]) key72 map196 m8
 refine ⟨w9,h9,?_⟩
 obtain ⟨w10,h10,m10,x10,_⟩:=run_mapUpdate (P:=pz) (a:=(9:Int)) (v := .func (.func 105) #[.pointer v.p] #[]) key72 map196 m9
 refine ⟨w10,h10,?_⟩
 obtain ⟨w11,h11,m11,x11,_⟩:=run_mapUpdate (P:=pz) (a:=(10:Int)) (v := .func (.func 106) #[.pointer v.p] #[]) key72 map196 m10
 refine ⟨w11,h11,?_⟩
 obtain ⟨w12,h12,m12,x12,_⟩:=run_mapUpdate (P:=pz) (a:=(11:Int)) (v := .func (.func 107) #[.pointer v.p] #[]) key72 map196 m11
 refine ⟨w12,h12,?_⟩
 obtain ⟨w13,h13,m13,x13,_⟩:=run_mapUpdate (P:=pz) (a:=(12:Int)) (v := .func (.func 108) #[.pointer v.p] #[]) key72 map196 m12
 refine ⟨w13,h13,?_⟩
 obtain ⟨w14,h14,m14,x14,_⟩:=run_mapUpdate (P:=pz) (a:=(13:Int)) (v := .func (.func 109) #[.pointer v.p] #[]) key72 map196 m13
 refine ⟨w14,h14,?_⟩
 obtain ⟨w15,h15,m15,x15,_⟩:=run_mapUpdate (P:=pz) (a:=(14:Int)) (v := .func (.func 110) #[.pointer v.p] #[]) key72 map196 m14
 refine ⟨w15,h15,?_⟩
 obtain ⟨w16,h16,m16,x16,_⟩:=run_mapUpdate (P:=pz) (a:=(15:Int)) (v := .func (.func 111) #[.pointer v.p] #[]) key72 map196 m15
 refine ⟨w16,h16,?_⟩
 obtain ⟨w17,h17,m17,x17,_⟩:=run_mapUpdate (P:=pz) (a:=(16:Int)) (v := .func (.func 112) #[.pointer v.p] #[]) key72 map196 m16
 refine ⟨w17,h17,?_⟩
 have hrun:=run_lookup (P:=pz) (a:=(1:Int)) key72 map196 (look71 w17) m17
 have x:Ext (·=b) w1 w17:=((((((((((((((x2.trans x3 fun i _ e=>e).trans x4 fun i _ e=>e).trans x5 fun i _ e=>e).trans x6 fun i _ e=>e).trans x7 fun i _ e=>e).trans x8 fun i _ e=>e).trans x9 fun i _ e=>e).trans x10 fun i _ e=>e).trans x11 fun i _ e=>e).trans x12 fun i _ e=>e).trans x13 fun i _ e=>e).trans x14 fun i _ e=>e).trans x15 fun i _ e=>e).trans x16 fun i _ e=>e).trans x17 fun i _ e=>e
 refine ⟨_,w17,hrun,?_⟩
 have e:∀(m:List (Int×Value)),getA (1:Int) m=some (.func (.func 97) #[.pointer v.p] #[])->(getA (1:Int) m).getD .nilFunc = .func (.func 97) #[.pointer v.p] #[]:=fun m h=>by rw [h]; rfl
 rw [e _ rfl]
 exact k w17 (n1.ext.out x (by rw [n1.at_]; exact Nat.le_refl _))
theorem VtC.retag(V:VtC w T v s){s':SA}(x:Ext (fun i=>T i=2) w w')(hT:∀ i,T i≠2->T' i=T i)(rg:RgC w' T' s'.d s'.g s'.R)(e1:s'.d=s.d)(e2:s'.D=s.D)(e3:s'.rb=s.rb)(e4:s'.mb=s.mb)(e5:s'.ks=s.ks)(e6:s'.lb=s.lb)(e7:s'.ls=s.ls)(e8:s'.L=s.L)(e9:s'.pb=s.pb)(e10:s'.fr=s.fr)(e11:s'.F=s.F)(e12:s'.kb=s.kb)(e13:s'.ps=s.ps)(e14:s'.wb=s.wb)(e15:s'.nb=s.nb)(e16:s'.pm=s.pm)(e17:s'.dm=s.dm)(e18:s'.pu=s.pu)(e19:s'.cm=s.cm)(e20:s'.la=s.la)(e21:s'.fl=s.fl)(hg:s'.g.rb=s.g.rb):VtC w' T' v s':=by
 have h:∀(c:Nat),c≠2->∀ i,T i=c->T' i=c:=fun c hc i hi=>(hT i (by rw [hi]; exact hc)).trans hi
 have a:Ag T T w.heap.size:=fun _ _=>rfl
 have f:∀(k:Nat),k≠2->∀ i,T i=k->¬ (T i=2):=fun k hk i h e=>hk (h.symm.trans e)
 have dk:=V.y.dk.keep x a (f 1 (by decide))
 have rn:=V.y.rn.keep x a (f 3 (by decide))
 have lg:=V.y.lg.keep x a (f 4 (by decide))
 have pb:=V.y.pb.keep x a (f 5 (by decide))
 have fr:=V.y.fr.keep x a (f 6 (by decide))
 have kn:=V.y.kn.keep x a (f 7 (by decide)) (f 12 (by decide))
 have mp:=V.y.mp.keep x a (f 8 (by decide)) (f 9 (by decide)) (f 10 (by decide))
 obtain ⟨d,D,g,R,rb,mb,ks,lb,ls,L,pb',fr',F,kb,ps,wb,nb,pm,dm,pu,cm,la,fl⟩:=s'
 simp only at e1 e2 e3 e4 e5 e6 e7 e8 e9 e10 e11 e12 e13 e14 e15 e16 e17 e18 e19 e20 e21 hg rg
 subst e1 e2 e3 e4 e5 e6 e7 e8 e9 e10 e11 e12 e13 e14 e15 e16 e17 e18 e19 e20 e21
 refine ⟨⟨⟨dk.r,fun i hi=>h 1 (by decide) i (dk.t i hi),dk.c⟩,rg,⟨rn.r,h 3 (by decide) _ rn.t,h 3 (by decide) _ rn.t2,fun k hk i hi=>h 3 (by decide) i (rn.t3 k hk i hi),rn.n⟩,⟨lg.r,h 4 (by decide) _ lg.t,fun i hi=>h 4 (by decide) i (lg.t2 i hi),lg.n⟩,⟨pb.r,h 5 (by decide) _ pb.t⟩,⟨fr.r,fun i hi=>⟨h 6 (by decide) i (fr.t i hi).1,(fr.t i hi).2⟩,fr.u,fr.n⟩,⟨kn.r,h 7 (by decide) _ kn.t,fun k hk=>⟨(kn.p k hk).1,fun i hi=>⟨h 12 (by decide) i ((kn.p k hk).2.1 i hi).1,((kn.p k hk).2.1 i hi).2⟩,(kn.p k hk).2.2⟩⟩,⟨mp.r,h 8 (by decide) _ mp.t,mp.r2,h 9 (by decide) _ mp.t2,fun q hq=>⟨(mp.r3 q hq).1,h 10 (by decide) _ (mp.r3 q hq).2⟩⟩,fun i hi=>h 0 (by decide) i (V.y.out i (Nat.le_trans x.size hi))⟩,?_,h 13 (by decide) _ V.tb,V.k.ext x fun p c hp hc e=>f 14 (by decide) c (V.kt c (by simp [Sl.blk,hp,hc])).1 e,fun i hi=>⟨h 14 (by decide) i (V.kt i hi).1,Nat.lt_of_lt_of_le (V.kt i hi).2 x.size⟩,V.kB,V.kn,V.a.ext x (f 15 (by decide) _ V.ta),h 15 (by decide) _ V.ta⟩
 have hv:v.c ⟨s.d,s.D,g,R,s.rb,s.mb,s.ks,s.lb,s.ls,s.L,s.pb,s.fr,s.F,s.kb,s.ps,s.wb,s.nb,s.pm,s.dm,s.pu,s.cm,s.la,s.fl⟩=v.c s:=by
  show vtC v.key s.d.p (some ⟨g.rb,0,none⟩) s.lB v.op s.rB s.p v.mp v.al=vtC v.key s.d.p (some ⟨s.g.rb,0,none⟩) s.lB v.op s.rB s.p v.mp v.al
  rw [hg]
 rw [hv]; exact (x.blk _ (hlt V.b) (f 13 (by decide) _ V.tb)).trans V.b
theorem draw_sy{l:List Int}{ls:List (List Int)}{K:Sl->Int->Wd->Prop}(V:VtC w T v s)(hd:s.R.draws=l::ls)(hl:16<=l.length)
  (k:∀ T' g' sl w',VtC w' T' v { s with g:=g',R:={ s.R with draws:=ls } }->(∀ i,T i=0->T' i=0)->Ext (fun i=>T i≠0) w w'->RdB w'.heap sl (l.take 16)->(∀ i,sl.blk=some i->T' i=16/\i < w'.heap.size)->K sl 0 w'):C_regs_Regs_Draw s.gB 16 w K:=by
 refine regsDraw_spec V.y.rg.r (fun h=>absurd ⟨by decide,by decide⟩ h) (fun _ h=>by rw [hd] at h; cases h) (fun l' ls' _ h hlt=>by rw [hd] at h; cases h; omega) fun l' ls' sl g' w' _ h hle wr r' hrb hfp hsl x hz=>?_
 rw [hd] at h
 obtain ⟨rfl,rfl⟩ : l=l'/\ls=ls':=by cases h; exact ⟨rfl,rfl⟩
 have tr:∀ i,s.g.fp i->T i=2:=V.y.rg.t
 have x2:Ext (fun i=>T i=2) w w':=x.mono fun i _ h=>by rw [h]; exact tr _ (.inl rfl)
 have hT:∀ i,T i≠2->(if sl.blk=some i then 16 else T i)=T i:=fun i hi=>if_neg fun e=>hi (tr i (hsl i e).1)
 refine k (fun i=>if sl.blk=some i then 16 else T i) g' sl w' (V.retag (s':={ s with g:=g',R:={ s.R with draws:=ls } }) x2 hT ⟨r',fun i hi=>?_,V.y.rg.d⟩ rfl rfl rfl rfl rfl rfl rfl rfl rfl rfl rfl rfl rfl rfl rfl rfl rfl rfl rfl rfl rfl hrb) (fun i hi=>by rw [hT i (by omega)]; exact hi) (x2.mono fun i _ h=>by rw [h]; decide) wr.rd fun i hi=>⟨if_pos hi,?_⟩
 .show (if sl.blk=some i then 16 else T i)=2
  rw [if_neg fun e=>(hsl i e).2 hi]
  exact tr i (hfp i hi)
 .have:=V.y.rg.r.lt (hsl i hi).1; omega
end
end Go.Proofs.YtmbckodpbdlblaaGreat
namespace Go.Proofs.YtmbckodpbdlblaaGreat
open Go.V Go.V.Pk Go.V.Dk Go.V.Rn
section
variable {w w':Wd} {T T':Nat->Nat} {s:SA} {v:VA}
theorem rootV_spec{p:Option Addr}{q:RK}{K:Sl->Wd->Prop}(V:VtC w T v s)(hq:ringF s.ks ⟨0,v.mp.rg⟩=some q)(k:∀ sl w',OwnB w'.heap w.heap.size sl q.l->Ext No w w'->K sl w')(hp:p=v.p:=by rfl):C_vault_Vault_root p w K:=by
 subst hp
 apply S_vault_Vault_root
 have xd:Ext No w (drewW w):=(Ext.refl _ _).drew
 exact ⟨Ext No w,xd,Nn.mk ⟨s.rB,Held.but (Cell.lst V.b rfl) (fun h=>h),Nn.mk ⟨v.mp.rg,Held.but (Cell.lst V.b rfl) (fun h=>h),ringKey_spec (V.no xd).y.rn.r hq fun sl w1 o1 x1=>⟨x1.drew_left,have_byte ⟨x1.drew_left,k sl w1 o1 x1.drew_left⟩⟩⟩⟩⟩
abbrev stV(mk hs:Sl):SeatV:=⟨1,9,mk, .z,0,0,hs⟩
structure CrB(w:Wd)(T:Nat->Nat)(vp:Option Addr)(c0 c1 c2 c3:Nat)(key:Sl)(kk:List Int)(cs1:List Value)(mk:Sl)(ml:List Int)(hs:Sl):Prop where
 g0:w.heap[c0]? = some (.cells [Value.pointer vp].toArray 51 (0,0))
 g1:w.heap[c1]? = some (.cells cs1.toArray 76 (0,0))
 h1:cs1[1]? = some (.int .u32 1)
 g2:w.heap[c2]? = some (.cells [key.v].toArray 22 (0,0))
 g3:w.heap[c3]? = some (.cells (stV mk hs).cells.toArray 113 (0,0))
 t0:T c0=0
 t1:T c1=0
 t2:T c2=0
 t3:T c3=0
 n0:c0≠c3
 n1:c1≠c3
 n2:c2≠c3
 k:RdB w.heap key kk
 klen:kk.length=16
 kB:B8 kk
 kt:∀ i,key.blk=some i->16<=T i/\i < w.heap.size
 m:RdB w.heap mk ml
 mlen:ml.length=16
 mB:B8 ml
 mt:∀ i,mk.blk=some i->T i=0/\i≠c3/\i < w.heap.size
section
variable {vp:Option Addr} {c0 c1 c2 c3:Nat} {key:Sl} {kk:List Int} {cs1:List Value} {mk:Sl} {ml:List Int} {hs:Sl} {S:Nat->Prop}
theorem CrB.ext(C:CrB w T vp c0 c1 c2 c3 key kk cs1 mk ml hs)(a:Ag T T' w.heap.size)(x:Ext S w w')(h:∀ i,T i=0->¬ S i)(h2:∀ i,16<=T i->¬ S i):CrB w' T' vp c0 c1 c2 c3 key kk cs1 mk ml hs :=
 ⟨get_ext C.g0 x (h _ C.t0),get_ext C.g1 x (h _ C.t1),C.h1,get_ext C.g2 x (h _ C.t2),get_ext C.g3 x (h _ C.t3),(a _ (hlt C.g0)).trans C.t0,(a _ (hlt C.g1)).trans C.t1,(a _ (hlt C.g2)).trans C.t2,(a _ (hlt C.g3)).trans C.t3,C.n0,C.n1,C.n2,
  C.k.ext x fun p b hp hb=>h2 b (C.kt b (by simp [Sl.blk,hp,hb])).1,C.klen,C.kB,fun i hi=>⟨by rw [a i (C.kt i hi).2]; exact (C.kt i hi).1,Nat.lt_of_lt_of_le (C.kt i hi).2 x.size⟩,C.m.ext x fun p b hp hb=>h b (C.mt b (by simp [Sl.blk,hp,hb])).1,C.mlen,C.mB,fun i hi=>⟨(a i (C.mt i hi).2.2).trans (C.mt i hi).1,(C.mt i hi).2.1,Nat.lt_of_lt_of_le (C.mt i hi).2.2 x.size⟩⟩
theorem CrB.stp(C:CrB w T vp c0 c1 c2 c3 key kk cs1 mk ml hs)(st:Stp T w T' w'):CrB w' T' vp c0 c1 c2 c3 key kk cs1 mk ml hs:=C.ext st.a st.x (fun i h=>by omega) fun i h=>by omega
theorem CrB.no(C:CrB w T vp c0 c1 c2 c3 key kk cs1 mk ml hs)(x:Ext No w w'):CrB w' T vp c0 c1 c2 c3 key kk cs1 mk ml hs:=C.stp (.no x)
abbrev stP(ml wl:List Int)(n:Int):SeatP:=⟨1,9,ml, .z,0,0,[⟨1,n,wl⟩]⟩
theorem stP_len{ml wl:List Int}(h1:ml.length=16)(h2:wl.length=32):(formB (stP ml wl 1)).length<=64:=by
 simp [formB,textB,heldB,h1,h2,numB_lt,Rf.z]
theorem stP_may{ml wl:List Int}{n:Int}(h1:ml.length=16)(h2:wl.length=32):MayS (stP ml wl n) :=
 ⟨by show (1:Int)≠0; decide,by show (1:Int)<=9; decide,by show (9:Int)<=1000; decide,h1,by show (0:Int)<=0; decide,by show (0:Int)<=9; decide,⟨fun _=>⟨rfl,rfl⟩,fun _=>rfl⟩, .inl ⟨_,rfl,h2⟩⟩
theorem stP_rng{ml wl:List Int}{n:Int}(hm:B8 ml)(hw:B8 wl)(hn:0<=n/\n<=18446744073709551615):RngS (stP ml wl n) :=
 ⟨by show (0:Int)<=1/\(1:Int)<=4294967295; decide,hm,by show Rf.z.ok; decide,by show (0:Int)<=0/\(0:Int)<=255; decide,fun h hh=>by
  simp only [List.mem_singleton] at hh; subst hh
  exact ⟨by show (0:Int)<=1/\(1:Int)<=65535; decide,hn,hw⟩⟩
set_option maxHeartbeats 400000 in
theorem build_spec{vb al:Nat}{ky:Sl}{kl:List Int}{op:Bool}{q:RK}{r:Run}{m:Nat}{K:Int->Int->Int->Int->Int->Int->Wd->Prop}(V:VtC w T ⟨vb,ky,kl,op,mp1,al,[]⟩ s)(C:CrB w T (some ⟨vb,0,none⟩) c0 c1 c2 c3 key kk cs1 mk ml hs)(hq:ringF s.ks ⟨0,1⟩=some q)(hql:q.l.length=32)(P:PutP s 0 1 r m)
  (k:∀ T' fr' sl' hs' fb w',fb.length<=64->VtC w' T' ⟨vb,ky,kl,op,mp1,al,[]⟩ (s.put 0 1 r fr' sl' (pad (wr 1 0 [⟨be 4 1,fb,0, .z, .z⟩])))->CrB w' T' (some ⟨vb,0,none⟩) c0 c1 c2 c3 key kk cs1 mk ml hs'->Ag T T' w.heap.size->Ext (fun i=>(1<=T i/\T i<=12)∨i=c3) w w'->K r.1 s.cm 1 0 1 1 w') :
  C_vault_Vault_create_1 1 ⟨c0,0,none⟩ ⟨c1,0,none⟩ ⟨c2,0,none⟩ ⟨c3,0,none⟩ w K:=by
 apply S_vault_Vault_create_1
 refine fun b w1 n1=>?_
 have a1:=n1.at_; have z1:=n1.size
 have V1:=V.no n1.ext
 have C1:=C.no n1.ext
 have xd:Ext No w1 (drewW w1):=(Ext.refl _ _).drew
 have c3lt:=hlt C.g3
 refine ⟨Ext No w1,xd,_,Held.but (Cell.lst C1.g0 rfl) (fun h=>h),1,Held.but (Cell.lst C1.g1 C.h1) (fun h=>h),key,Held.but (Cell.lst C1.g2 rfl) (fun h=>h),?_⟩
 refine rootV_spec (v:=⟨vb,ky,kl,op,mp1,al,[]⟩) (V1.no xd) hq fun rs w2 o2 x2=>⟨x2.drew_left,?_⟩
 have x12:Ext No w1 w2:=x2.drew_left
 have hkq:=V.y.rn.r.key q (List.mem_of_find?_eq_some hq)
 refine wrap_spec o2.rd hkq.2.1 (by rw [OwnB.len o2]; exact hql) (by decide) (by decide) ⟨by decide,by decide⟩ (Rd.no C1.k x12) (by rw [RdB.len C.k]; exact C.klen) fun ws wl w3 o3 hwl hwB x3=>⟨x12.no x3,?_⟩
 refine have_held fun w4 x4=>⟨(x12.no x3).no x4,fun b1 w5 n5=>⟨((x12.no x3).no x4).no n5.ext,?_⟩⟩
 have x15:=((x12.no x3).no x4).no n5.ext
 have C5:=C1.no x15
 have V5:=V1.no x15
 have zz:w1.heap.size<=w5.heap.size:=x15.size
 have a5:=n5.at_; have z5:=n5.size
 have z14:=((x12.no x3).no x4).size
 refine St1.mk C5.g3 (Nat.le_of_ble_eq_true rfl) rfl fun w6 h6=>?_
 have x56:Ext (·=c3) w5 w6:=h6.ext
 have g3:w6.heap[c3]? = some (.cells (stV mk ⟨some ⟨b1,0,none⟩,1,1⟩).cells.toArray 113 (0,0)):=h6.get C5.g3
 have t3:=C.t3
 have V6:=V5.loc x56 fun i hi=>by rw [hi]; exact .inl t3
 have b1c:b1≠c3:=by omega
 have C6:CrB w6 T (some ⟨vb,0,none⟩) c0 c1 c2 c3 key kk cs1 mk ml ⟨some ⟨b1,0,none⟩,1,1⟩ :=
  ⟨get_ext C5.g0 x56 C.n0,get_ext C5.g1 x56 C.n1,C.h1,get_ext C5.g2 x56 C.n2,g3,C.t0,C.t1,C.t2,C.t3,C.n0,C.n1,C.n2,C5.k.ext x56 fun p i hp hi e=>by have:=(C5.kt i (by simp [Sl.blk,hp,hi])).1; rw [e,t3] at this; omega,C.klen,C.kB,fun i hi=>⟨(C5.kt i hi).1,Nat.lt_of_lt_of_le (C5.kt i hi).2 x56.size⟩,C5.m.ext x56 fun p i hp hi=>(C5.mt i (by simp [Sl.blk,hp,hi])).2.1,C.mlen,C.mB,fun i hi=>⟨(C5.mt i hi).1,(C5.mt i hi).2.1,Nat.lt_of_lt_of_le (C5.mt i hi).2.2 x56.size⟩⟩
 have xd6:Ext No w6 (drewW w6):=(Ext.refl _ _).drew
 have tz:∀ i,T i=0->¬ (1<=T i/\T i<=12):=fun i h=>by omega
 have tv:¬ (1<=T vb/\T vb<=12):=by have:=V.tb; simp only at this; omega
 refine ⟨Ext (fun i=>1<=T i/\T i<=12) w6,xd6.of_no,_,Held.but (Cell.lst C6.g0 rfl) (tz _ C.t0),Nn.mk ⟨s.p,Held.but (Cell.lst V6.b rfl) tv,_,Held.but (Cell.lst C6.g0 rfl) (tz _ C.t0),Nn.mk ⟨0,Held.but (Cell.lst V6.b rfl) tv,0,Held.but (Cell.lst V6.b rfl) tv,0,Held.but (Cell.lst V6.b rfl) tv,0,Held.but (Cell.lst V6.b rfl) tv,
  1,Held.but (Cell.lst C6.g3 rfl) (tz _ C.t3),9,Held.but (Cell.lst C6.g3 rfl) (tz _ C.t3),mk,Held.but (Cell.lst C6.g3 rfl) (tz _ C.t3),0,Held.but (Cell.lst C6.g3 rfl) (tz _ C.t3),0,Held.but (Cell.lst C6.g3 rfl) (tz _ C.t3),0,Held.but (Cell.lst C6.g3 rfl) (tz _ C.t3),0,Held.but (Cell.lst C6.g3 rfl) (tz _ C.t3),0,Held.but (Cell.lst C6.g3 rfl) (tz _ C.t3),⟨some ⟨b1,0,none⟩,1,1⟩,Held.but (Cell.lst C6.g3 rfl) (tz _ C.t3),
  _,Held.but (Cell.lst C6.g0 rfl) (tz _ C.t0),Nn.mk ⟨1,Held.but (Cell.lst V6.b rfl) tv,_,Held.but (Cell.lst C6.g0 rfl) (tz _ C.t0),Nn.mk ⟨some al,Held.but (Cell.lst V6.b rfl) tv,?_⟩⟩⟩⟩⟩
 have x46:Ext (fun i=>i=c3) w4 w6:=n5.ext.of_no.trans x56 fun i _ e=>e
 have y6:=(V6.no xd6).y
 have ows:RdB w6.heap ws wl:=(o3.rd.no x4).ext x46 fun p i hp hi e=>by have h1:=(o3.lt (show ws.blk=some i by simp [Sl.blk,hp,hi])).1; have:=x12.size; omega
 have ho:Rd w6.heap ⟨some ⟨b1,0,none⟩,1,1⟩ 3 [Value.int .u16 1, .int .u64 1, .slice ws.a ws.len ws.cap]:=by
  have ho:=(Own.new (n:=1) (sz:=3) n5 rfl (oneL rfl)).rd
  exact Rd.ext ho x56 fun p i hp hi e=>by
   have:i=b1:=by cases hp; exact hi.symm
   omega
 have hS:SeatR (fun _=>True) (drewW w6).heap (stV mk ⟨some ⟨b1,0,none⟩,1,1⟩) (stP ml wl 1) :=
  ⟨rfl,rfl,⟨C6.m,fun _ _ _=>trivial⟩,rfl,rfl,rfl,[(⟨1,1,ws⟩,⟨1,1,wl⟩)],rfl,ho,fun _ _ _=>trivial,fun e he=>by
   simp only [List.mem_singleton] at he; subst he
   exact ⟨rfl,rfl,⟨ows,fun _ _ _=>trivial⟩⟩⟩
 refine with_new (s:=s) (v:=stV mk ⟨some ⟨b1,0,none⟩,1,1⟩) (x:=stP ml wl 1) y6 P hS (stP_rng C.mB hwB (by decide)) (stP_may C.mlen hwl) (stP_len C.mlen hwl) fun T' fr' sl' w7 y7 s7=>?_
 have s67:Stp T w6 T' w7:=(Stp.no xd6).trans s7
 have S7:Ext (fun i=>1<=T i/\T i<=12) w6 w7:=s67.x
 refine ⟨S7,have_root fun w8 x8=>⟨S7.trans x8.of_no fun i _ h=>h,?_⟩⟩
 have V7:=V6.sy s67 y7 rfl rfl rfl rfl rfl
 have V8:=V7.no x8
 have C8:=(C6.stp s67).no x8
 refine ⟨0,w8,run_len0 V8.a,S7.trans x8.of_no fun i _ h=>h,Ar.i64 (by decide) ⟨rfl,?_⟩⟩
 have tb0:T b=0:=V.y.out b (by omega)
 have gb6:=get_ext (get_no n1.get x15) x56 (by omega)
 have gb8:=get_no (s67.blk gb6 (.inl tb0)) x8
 have tb':T' b=0:=(s67.a b (hlt gb6)).trans tb0
 refine StN.mk gb8 (Nat.le_refl 6) (oneL rfl) fun w10 h10=>?_
 have g10:=h10.get gb8
 have x10:Ext (·=b) w8 w10:=h10.ext
 refine ⟨_,Cell.lst g10 rfl,_,Cell.lst g10 rfl,_,Cell.lst g10 rfl,_,Cell.lst g10 rfl,_,Cell.lst g10 rfl,_,Cell.lst g10 rfl,?_⟩
 have x06:Ext (fun i=>(1<=T i/\T i<=12)∨i=c3) w w6:=(n1.ext.no x15).of_no.trans x56 fun i _ e => .inr e
 have x08:Ext (fun i=>(1<=T i/\T i<=12)∨i=c3) w w8:=(x06.trans S7 fun i _ h => .inl h).trans x8.of_no fun i _ h=>h
 refine k T' fr' sl' ⟨some ⟨b1,0,none⟩,1,1⟩ (formB (stP ml wl 1)) w10 (stP_len C.mlen hwl) (V8.loc x10 fun i hi=>by rw [hi]; exact .inl tb') ?_ (fun i hi=>s67.a i (by have:=x06.size; omega)) (x08.trans x10 fun i hi e=>by omega)
 refine ⟨get_ext C8.g0 x10 (by have:=hlt C.g0; omega),get_ext C8.g1 x10 (by have:=hlt C.g1; omega),C.h1,get_ext C8.g2 x10 (by have:=hlt C.g2; omega),get_ext C8.g3 x10 (by omega),C8.t0,C8.t1,C8.t2,C8.t3,C.n0,C.n1,C.n2,C8.k.ext x10 fun p i hp hi e=>?_,C.klen,C.kB,fun i hi=>⟨(C8.kt i hi).1,Nat.lt_of_lt_of_le (C8.kt i hi).2 x10.size⟩,C8.m.ext x10 fun p i hp hi e=>?_,C.mlen,C.mB,fun i hi=>⟨(C8.mt i hi).1,(C8.mt i hi).2.1,Nat.lt_of_lt_of_le (C8.mt i hi).2.2 x10.size⟩⟩
 .have:=(C8.kt i (by simp [Sl.blk,hp,hi])).1; rw [e,tb'] at this; omega
 .have:=(C.mt i (by simp [Sl.blk,hp,hi])).2.2; omega
end
end
end Go.Proofs.YtmbckodpbdlblaaGreat
namespace Go.Proofs.YtmbckodpbdlblaaGreat
open Go.V Go.V.Pk Go.V.Dk Go.V.Rn
section
variable {w w':Wd} {T T':Nat->Nat} {s:SA} {v:VA} {c0 c1 c2 c3:Nat} {key:Sl} {kk:List Int} {cs1:List Value} {mk:Sl} {ml:List Int} {hs:Sl}
theorem map41:Tryz.prog.underlying 41=some (.map 33 110):=by kernel_rfl
theorem look110(w:Wd):(zeroValue 110).run pz w = .ok (.pointer none) w:=by kernel_rfl
abbrev tnC(mk hs:Sl)(cp:Nat)(sb:Nat):List Value:=[.int .u32 1, .int .i64 9,mk.v, .int .u32 0, .int .u64 0, .int .u16 0, .int .u8 0, .int .i64 0,hs.v, .pointer (some ⟨cp,0,none⟩), .map (some sb), .int .u64 0]
set_option maxHeartbeats 1000000 in
theorem then_spec{vb al:Nat}{ky:Sl}{kl:List Int}{op:Bool}{mp:MP}{K:Wd->Prop}(V:VtC w T ⟨vb,ky,kl,op,mp,al,[]⟩ s)(C:CrB w T (some ⟨vb,0,none⟩) c0 c1 c2 c3 key kk cs1 mk ml hs)(hk:ringF s.ks ⟨1,1⟩=none)(hn:s.ks.length < 50)
  (k:∀ T' q tb cp sb w',VtC w' T' ⟨vb,ky,kl,op,mp,al,[(1, .pointer (some ⟨tb,0,none⟩))]⟩ { s with ks:=s.ks++[⟨⟨1,1⟩,q,kk⟩] }->w'.heap[tb]? = some (.cells (tnC mk hs cp sb).toArray 117 (0,0))->w'.heap[sb]? = some (.map #[] 0)->T' tb=0->T' sb=0->Stw T w T' w'->(∀ i,i < w.heap.size->T' i=T i)->K w') :
  C_vault_Vault_create_2 ⟨c0,0,none⟩ ⟨c1,0,none⟩ ⟨c2,0,none⟩ ⟨c3,0,none⟩ w K:=by
 apply S_vault_Vault_create_2
 have xd:Ext No w (drewW w):=(Ext.refl _ _).drew
 have tm:=V.y.rn.t2
 have nz:∀ i,T i=0->¬ (i=s.mb):=fun i h e=>by rw [e,tm] at h; exact absurd h (by decide)
 have nv:¬ (vb=s.mb):=fun e=>by have:=V.tb; simp only at this; rw [e,tm] at this; exact absurd this (by decide)
 refine ⟨Ext (·=s.mb) w,xd.of_no,_,Held.but (Cell.lst C.g0 rfl) (nz _ C.t0),Nn.mk ⟨s.rB,Held.but (Cell.lst V.b rfl) nv,1,Held.but (Cell.lst C.g1 C.h1) (nz _ C.t1),key,Held.but (Cell.lst C.g2 rfl) (nz _ C.t2),?_⟩⟩
 have Vd:=V.no xd
 refine ringAdd_spec Vd.y.rn.r hk (Rd.no C.k xd) C.kB (.inl (by rw [RdB.len C.k]; exact C.klen)) fun q w1 R1 hq x1=>?_
 have x01:Ext (·=s.mb) w w1:=x1.drew_left
 obtain ⟨y1,s1⟩:=V.y.ring (k:=⟨⟨1,1⟩,q,kk⟩) R1 hq x01 (by omega)
 refine ⟨x01,must_ok ⟨x01,?_⟩⟩
 have V1:=V.sy s1 y1 rfl rfl rfl rfl rfl
 have C1:=C.stp s1
 generalize hT1:tup T w.heap.size w1.heap.size 3=T1 at y1 s1 V1 C1
 have xd1:Ext No w1 (drewW w1):=(Ext.refl _ _).drew
 have ta:=V1.ta
 simp only at ta
 have na:∀ i,T1 i=0->¬ (i=al):=fun i h e=>by rw [e,ta] at h; exact absurd h (by decide)
 have nv1:¬ (vb=al):=fun e=>by have:=V1.tb; simp only at this; rw [e,ta] at this; exact absurd this (by decide)
 refine ⟨Ext (·=al) w1,xd1.of_no,_,Held.but (Cell.lst C1.g0 rfl) (na _ C1.t0),Nn.mk ⟨some al,Held.but (Cell.lst V1.b rfl) nv1,1,Held.but (Cell.lst C1.g1 C.h1) (na _ C1.t1),1,Held.but (Cell.lst C1.g3 rfl) (na _ C1.t3),9,Held.but (Cell.lst C1.g3 rfl) (na _ C1.t3),mk,Held.but (Cell.lst C1.g3 rfl) (na _ C1.t3),0,Held.but (Cell.lst C1.g3 rfl) (na _ C1.t3),0,Held.but (Cell.lst C1.g3 rfl) (na _ C1.t3),0,Held.but (Cell.lst C1.g3 rfl) (na _ C1.t3),0,Held.but (Cell.lst C1.g3 rfl) (na _ C1.t3),0,Held.but (Cell.lst C1.g3 rfl) (na _ C1.t3),hs,Held.but (Cell.lst C1.g3 rfl) (na _ C1.t3),?_⟩⟩
 have fin:∀(tb cp sb:Nat)(u:Wd),Ext No w1 u->w1.heap.size<=tb->w1.heap.size<=sb->u.heap[tb]? = some (.cells (tnC mk hs cp sb).toArray 117 (0,0))->u.heap[sb]? = some (.map #[] 0) ->
   ∃ u',Sem.run pz (Instr.mapUpdate 41 (.map (some al)) (.int .u32 1) (.pointer (some (Addr.mk tb 0 none)))) u = .ok () u'/\Ext (·=al) w1 u'/\K u':=fun tb cp sb u xu htb hsb gt gs=>by
  have Vu:=V1.no xu
  obtain ⟨u',hr,m',x',z'⟩:=run_mapUpdate (P:=pz) (a:=(1:Int)) (v := .pointer (some ⟨tb,0,none⟩)) key33 map41 Vu.a
  have t1:T1 tb=0:=V1.y.out tb htb
  have t2:T1 sb=0:=V1.y.out sb hsb
  refine ⟨u',hr,xu.of_no.trans x' fun i _ e=>e,?_⟩
  refine k T1 q tb cp sb u' (Vu.ten m' x') (get_ext gt x' (na tb t1)) (get_ext gs x' (na sb t2)) t1 t2 ?_ s1.a
  exact ((s1.tw).nx xu).trans (Stw.one x' (by simp only; rw [ta]; decide))
 constructor
 .refine capsNew_spec fun cp w3 g3 h3 x3=>⟨(x3.drew_left).of_no,fun sb w4 n4=>⟨(x3.drew_left.no n4.ext).of_no,fun tb w5 n5=>⟨((x3.drew_left.no n4.ext).no n5.ext).of_no,?_⟩⟩⟩
  have z3:=x3.size; have z4:=n4.size
  have zd:(drewW w1).heap.size=w1.heap.size:=rfl
  obtain ⟨u',h1,h2,h3⟩:=fin tb cp sb w5 ((x3.drew_left.no n4.ext).no n5.ext) (by rw [n5.at_]; omega) (by rw [n4.at_]; omega) n5.get (get_no n4.get n5.ext)
  exact ⟨u',h1,h2,h3⟩
 .refine fun sb w4 n4=>⟨(n4.ext.drew_left).of_no,capsNew_spec fun cp w3 g3 h3 x3=>⟨(n4.ext.drew_left.no x3).of_no,fun tb w5 n5=>⟨((n4.ext.drew_left.no x3).no n5.ext).of_no,?_⟩⟩⟩
  have z3:=x3.size; have z4:=n4.size
  have zd:(drewW w1).heap.size=w1.heap.size:=rfl
  obtain ⟨u',h1,h2,h3⟩:=fin tb cp sb w5 ((n4.ext.drew_left.no x3).no n5.ext) (by rw [n5.at_]; omega) (by rw [n4.at_]; omega) n5.get (get_no n4.get (x3.no n5.ext))
  exact ⟨u',h1,h2,h3⟩
end
end Go.Proofs.YtmbckodpbdlblaaGreat
namespace Go.Proofs.YtmbckodpbdlblaaGreat
open Go.V Go.V.Pk Go.V.Dk Go.V.Rn
abbrev mpX:MP:=⟨1,2,1,1,0,1,1⟩
theorem mpX_ok:mpX.OK:=⟨⟨by decide,by decide⟩,⟨by decide,by decide⟩,⟨by decide,by decide⟩,⟨by decide,by decide⟩,rfl,⟨by decide,by decide⟩,⟨by decide,by decide⟩⟩
structure AftC(w:Wd)(T:Nat->Nat)(v:VA)(s:SA):Prop where
 V:VtC w T v s
 op:v.op=true
 mp:v.mp=mpX
 tn:∃ tb mk hs cp sb,v.ts=[(1, .pointer (some ⟨tb,0,none⟩))]/\w.heap[tb]? = some (.cells (tnC mk hs cp sb).toArray 117 (0,0))/\w.heap[sb]? = some (.map #[] 0)/\T tb=0/\T sb=0
 ks:∃ q kq q1 kk,s.ks=[⟨⟨0,1⟩,q,kq⟩,⟨⟨1,1⟩,q1,kk⟩]
 pg:∃ kp e,s.ps=[kp]/\LeafP kp [e]/\e.ch = .z/\kp.l=⟨0,1,0,2,1,1⟩/\kp.n=2
 lg:∃ k1 p1 r1 k2 p2 r2,s.L=[⟨⟨0,1,0,2,1,1⟩,k1,p1,magic++r1⟩,⟨⟨0,4,0,1,1,1⟩,k2,p2,magic++r2⟩]/\s.D.firm=((newD 100).now.set 2 (magic++r1)).set 1 (magic++r2)
section
variable {w w':Wd} {T T':Nat->Nat} {s:SA} {v:VA} {c0 c1 c2 c3:Nat} {key:Sl} {kk:List Int} {cs1:List Value} {mk:Sl} {ml:List Int} {hs:Sl}
theorem fF3:U32 (takeR [(2,100)]):=by
 have e:takeR [(2,100)]=[(3,100)]:=by decide
 rw [e]; intro r hr; simp only [List.mem_singleton] at hr; subst hr; decide
theorem put0{d:Dev}{D:DS}{g:Rgs}{R:RS}{rb mb lb pb kb wb nb m m':Nat}{q ls fr:Sl}{kq:List Int}{L:List LE} :
  PutP ⟨d,D,g,R,rb,mb,[⟨⟨0,1⟩,q,kq⟩],lb,ls,L,pb,fr,[(2,100)],kb,[],wb,nb,some m,some m',[],1,1,false⟩ 0 1 (2,100) m :=
 ⟨by show (1:Int)≠0; decide,rfl,rfl,⟨[],rfl⟩,by show rightB [(2,100)]=true; decide,rfl,fun k h=>(nomatch h),fun n h=>(nomatch h),by simp [Lab.OK,U64,By],by show U32 (takeR [(2,100)]); exact fF3,by show (takeR [(2,100)]).length<=1000; decide⟩
set_option maxHeartbeats 1000000 in
theorem commits_spec{vb al:Nat}{ky:Sl}{kl:List Int}{K:Wd->Prop}{d:Dev}{g:Rgs}{dev:Option Addr}{drs:List (List Int)}{rb mb lb pb kb wb nb:Nat}{q ls fr:Sl}{kq:List Int}{pm dm:Option Nat}{pu:List Int}{fl:Bool}
  (V:VtC w T ⟨vb,ky,kl,true,mp1,al,[]⟩ ⟨d,newD 100,g,⟨dev,1000,0,0,drs⟩,rb,mb,[⟨⟨0,1⟩,q,kq⟩],lb,ls,[],pb,fr,[(2,100)],kb,[],wb,nb,pm,dm,pu,0,0,fl⟩) (C:CrB w T (some ⟨vb,0,none⟩) c0 c1 c2 c3 key kk cs1 mk ml hs) (hql:kq.length=32)
  (k:∀ T' v' s' w',AftC w' T' v' s'->v'.vb=vb->(∀ i,i < w.heap.size->T i=0->T' i=0)->Ext (fun i=>T i≠0∨i=c3) w w'->K w') :
  C_vault_Vault_commits (some ⟨vb,0,none⟩) (.func (.func 145) #[] #[.pointer (some ⟨c0,0,none⟩), .pointer (some ⟨c1,0,none⟩), .pointer (some ⟨c2,0,none⟩), .pointer (some ⟨c3,0,none⟩)]) (.func (.func 151) #[] #[.pointer (some ⟨c0,0,none⟩), .pointer (some ⟨c1,0,none⟩), .pointer (some ⟨c2,0,none⟩), .pointer (some ⟨c3,0,none⟩)]) w K:=by
 apply S_vault_Vault_commits
 refine fun b w1 n1=>?_
 have a1:=n1.at_; have z1:=n1.size
 have V1:=V.no n1.ext
 have C1:=C.no n1.ext
 have xd:Ext No w1 (drewW w1):=(Ext.refl _ _).drew
 have tb0:T b=0:=V.y.out b (by omega)
 have tvb:=V.tb
 simp only at tvb
 have nb0:¬ (1<=T b/\T b<=12):=by omega
 have nv0:¬ (1<=T vb/\T vb<=12):=by omega
 refine ⟨Ext (fun i=>1<=T i/\T i<=12) w1,xd.of_no,_,Held.but (Cell.lst n1.get rfl) nb0,Nn.mk ⟨_,Held.but (Cell.lst V1.b rfl) nv0,_,Held.but (Cell.lst n1.get rfl) nb0,Nn.mk ⟨_,Held.but (Cell.lst V1.b rfl) nv0,?_⟩⟩⟩
 refine start_spec (V1.no xd).y rfl ⟨by show (0:Int)<=0; decide,by show (0:Int)<=0; decide⟩ (by show (0:Int) < 1000; decide) (by show (1000:Int)<=18446744073709551615; decide) (by show (0:Int) < 1000; decide) ⟨by show (0:Int)<=0; decide,by show ((0:Int)+1) % 2≠0 % 2; decide⟩ fun T2 m m' w2 y2 s2=>?_
 have s12:Stp T w1 T2 w2:=(Stp.no xd).trans s2
 refine ⟨s12.x,have_u64 ⟨s12.x,fun b1 w4 n4=>?_⟩⟩
 have V2:=V1.sy s12 y2 rfl rfl rfl rfl rfl
 have C2:=C1.stp s12
 have gb2:=s12.blk n1.get (.inl tb0)
 have tb2:T2 b=0:=(s12.a b (hlt n1.get)).trans tb0
 have a4:=n4.at_; have z4:=n4.size
 refine St1.mk n4.get Nat.one_pos rfl fun w5 h5=>?_
 have gb15:=h5.get n4.get
 have x25:Ext No w2 w5:=n4.ext.out h5.ext (by show w2.heap.size<=b1; omega)
 have V5:=V2.no x25
 have C5:=C2.no x25
 have gb5:=get_no gb2 x25
 have tb1:T2 b1=0:=y2.out b1 (by omega)
 have b1c:∀{o:Obj}{i:Nat},w2.heap[i]? = some o->b1≠i:=fun h e=>by have:=hlt h; omega
 refine V_vault_Vault_create_1 (build_spec V5 C5 rfl hql put0 fun T6 fr6 sl6 hs6 fb w6 hfb V6 C6 a6 x6=>?_)
 have k6:∀{o:Obj}{i:Nat},w5.heap[i]? = some o->T2 i=0->i≠c3->w6.heap[i]? = some o:=fun h ht hc=>get_ext h x6 fun e=>by rcases e with e | e <;> omega
 have gb6:=k6 gb5 tb2 (by have:=hlt C.g3; omega)
 have gb16:=k6 gb15 tb1 (b1c C2.g3)
 have tb6:T6 b=0:=(a6 b (hlt gb5)).trans tb2
 have tb16:T6 b1=0:=(a6 b1 (hlt gb15)).trans tb1
 refine fun b2 w7 n7=>⟨rfl,StN.mk n7.get (Nat.le_refl 6) (oneL rfl) fun w8 h8=>?_⟩
 have g28:=h8.get n7.get
 have a7:=n7.at_; have z7:=n7.size
 have x68:Ext No w6 w8:=n7.ext.out h8.ext (by show w6.heap.size<=b2; omega)
 refine St1.mk (get_no gb16 x68) Nat.one_pos rfl fun w9 h9=>?_
 have x89:Ext (·=b1) w8 w9:=h9.ext
 have gb19:=h9.get (get_no gb16 x68)
 have lb6:=hlt gb16
 have g29:=get_ext g28 x89 (by omega)
 refine ⟨2,Cell.lst g29 rfl,1,Cell.lst g29 rfl,1,Cell.lst g29 rfl,0,Cell.lst g29 rfl,1,Cell.lst g29 rfl,1,Cell.lst g29 rfl,Ar.u32 (by decide) fun b3 w10 n10=>⟨rfl,StN.mk n10.get (Nat.le_refl 7) (oneL rfl) fun w11 h11=>?_⟩⟩
 have g311:=h11.get n10.get
 have a10:=n10.at_; have z10:=n10.size
 have x911:Ext No w9 w11:=n10.ext.out h11.ext (by show w9.heap.size<=b3; omega)
 have x611:Ext (·=b1) w6 w11:=(x68.of_no.trans x89 fun i _ e=>e).trans x911.of_no fun i _ e=>e
 have V11:=V6.loc x611 fun i hi=>by rw [hi]; exact .inl tb16
 have C11:CrB w11 T6 (some ⟨vb,0,none⟩) c0 c1 c2 c3 key kk cs1 mk ml hs6:=by
  refine ⟨get_ext C6.g0 x611 ?_,get_ext C6.g1 x611 ?_,C6.h1,get_ext C6.g2 x611 ?_,get_ext C6.g3 x611 ?_,C6.t0,C6.t1,C6.t2,C6.t3,C6.n0,C6.n1,C6.n2,C6.k.ext x611 fun p i hp hi e=>?_,C6.klen,C6.kB,fun i hi=>⟨(C6.kt i hi).1,Nat.lt_of_lt_of_le (C6.kt i hi).2 x611.size⟩,C6.m.ext x611 fun p i hp hi e=>?_,C6.mlen,C6.mB,fun i hi=>⟨(C6.mt i hi).1,(C6.mt i hi).2.1,Nat.lt_of_lt_of_le (C6.mt i hi).2.2 x611.size⟩⟩
  .exact fun e=>b1c C2.g0 e.symm
  .exact fun e=>b1c C2.g1 e.symm
  .exact fun e=>b1c C2.g2 e.symm
  .exact fun e=>b1c C2.g3 e.symm
  .have:=(C6.kt i (by simp [Sl.blk,hp,hi])).1; rw [e,tb16] at this; omega
  .have:=(C2.mt i (by simp [Sl.blk,hp,hi])).2.2; omega
 have gb11:=get_ext gb6 x611 (by have:=hlt gb2; omega)
 have gb111:=get_no gb19 x911
 have tvb6:=V6.tb
 simp only at tvb6
 have nb6:¬ (1<=T6 b/\T6 b<=12):=by omega
 have nv6:¬ (1<=T6 vb/\T6 vb<=12):=by omega
 have tb3:T6 b3=0:=V6.y.out b3 (by have:=x68.size; have:=x89.size; omega)
 have n36:¬ (1<=T6 b3/\T6 b3<=12):=by omega
 have xd11:Ext No w11 (drewW w11):=(Ext.refl _ _).drew
 refine ⟨Ext (fun i=>1<=T6 i/\T6 i<=12) w11,xd11.of_no,_,Held.but (Cell.lst gb11 rfl) nb6,Nn.mk ⟨_,Held.but (Cell.lst V11.b rfl) nv6,_,Held.but (Cell.lst gb11 rfl) nb6,Nn.mk ⟨_,Held.but (Cell.lst V11.b rfl) nv6,1,Held.but (Cell.lst g311 rfl) n36,2,Held.but (Cell.lst g311 rfl) n36,1,Held.but (Cell.lst g311 rfl) n36,1,Held.but (Cell.lst g311 rfl) n36,0,Held.but (Cell.lst g311 rfl) n36,1,Held.but (Cell.lst g311 rfl) n36,1,Held.but (Cell.lst g311 rfl) n36,?_⟩⟩⟩
 refine finish_spec (m:=mpX) (k:=⟨2,⟨0,1,0,2,1,1⟩,sl6,pad (wr 1 0 [⟨be 4 1,fb,0, .z, .z⟩])⟩) (mm:=m) (q:=⟨⟨0,1⟩,q,kq⟩) (q0:=⟨⟨0,1⟩,q,kq⟩) (V11.no xd11).y mpX_ok (by show (1:Int)≠0; decide) rfl rfl rfl rfl rfl (List.mem_singleton.2 rfl) ⟨by show (2:Int)<=2; decide,by show (2:Int) < 100; decide⟩ rfl rfl (by show 0 < 90; decide) (by show (0:Int)+1 < 800; decide) (by show 0 < 800; decide) rfl (by show (0:Int) < 1; decide) fun T12 d12 ls12 pl r r2 w12 hr hB hr2 hB2 y12 s12'=>?_
 have st12:Stp T6 w11 T12 w12:=(Stp.no xd11).trans s12'
 refine ⟨st12.x,must_ok ⟨st12.x,?_⟩⟩
 have V12:=V11.sy st12 y12 rfl rfl rfl rfl rfl
 have C12:=C11.stp st12
 have gb12:=st12.blk gb11 (.inl tb6)
 have gb112:=st12.blk gb111 (.inl tb16)
 have g312:=st12.blk g311 (.inl tb3)
 have tb12:T12 b=0:=(st12.a b (hlt gb11)).trans tb6
 have tb112:T12 b1=0:=(st12.a b1 (hlt gb111)).trans tb16
 refine ⟨_,Cell.lst gb12 rfl,_,Cell.lst g312 rfl,_,Cell.lst g312 rfl,_,Cell.lst g312 rfl,_,Cell.lst g312 rfl,_,Cell.lst g312 rfl,_,Cell.lst g312 rfl,_,Cell.lst g312 rfl,Nn.mk ⟨rfl,StN.mk V12.b (Nat.le_of_ble_eq_true rfl) (oneL rfl) fun w14 h14=>?_⟩⟩
 have x14:Ext (·=vb) w12 w14:=h14.ext
 have V14:=V12.put (op:=true) (mp:=mpX) (h14.get V12.b) x14
 have tvb12:=V12.tb
 simp only at tvb12
 have C14:CrB w14 T12 (some ⟨vb,0,none⟩) c0 c1 c2 c3 key kk cs1 mk ml hs6:=by
  have nz:∀ i,T12 i=0->¬ (i=vb):=fun i h e=>by rw [e,tvb12] at h; exact absurd h (by decide)
  refine ⟨get_ext C12.g0 x14 (nz _ C12.t0),get_ext C12.g1 x14 (nz _ C12.t1),C12.h1,get_ext C12.g2 x14 (nz _ C12.t2),get_ext C12.g3 x14 (nz _ C12.t3),C12.t0,C12.t1,C12.t2,C12.t3,C12.n0,C12.n1,C12.n2,C12.k.ext x14 fun p i hp hi e=>?_,C12.klen,C12.kB,fun i hi=>⟨(C12.kt i hi).1,Nat.lt_of_lt_of_le (C12.kt i hi).2 x14.size⟩,C12.m.ext x14 fun p i hp hi=>nz _ (C12.mt i (by simp [Sl.blk,hp,hi])).1,C12.mlen,C12.mB,fun i hi=>⟨(C12.mt i hi).1,(C12.mt i hi).2.1,Nat.lt_of_lt_of_le (C12.mt i hi).2.2 x14.size⟩⟩
  have:=(C12.kt i (by simp [Sl.blk,hp,hi])).1; rw [e,tvb12] at this; exact absurd this (by decide)
 refine V_vault_Vault_create_2 (then_spec V14 C14 rfl (by show 1 < 50; decide) fun T15 q15 tt cp sb w15 V15 g15 gs15 tt0 ts0 s15 a15=>?_)
 have z25:=x25.size; have z2:=s12.x.size; have z56:=x6.size; have z611:=x611.size; have z1112:=st12.x.size
 have z6:∀ i,i < w.heap.size->T6 i=T i:=fun i hi=>(a6 i (by omega)).trans (s12.a i (by omega))
 have z12:∀ i,i < w.heap.size->T12 i=T i:=fun i hi=>(st12.a i (by omega)).trans (z6 i hi)
 have x014:Ext (fun i=>T i≠0∨i=c3) w w14:=by
  have e2:Ext (fun i=>T i≠0∨i=c3) w w2:=n1.ext.of_no.trans s12.x fun i _ h => .inl (by omega)
  have e6:Ext (fun i=>T i≠0∨i=c3) w w6:=(e2.trans x25.of_no fun i _ h=>h).trans x6 fun i hi h=>h.imp (fun h=>by rw [s12.a i (by omega)] at h; omega) id
  have e12:Ext (fun i=>T i≠0∨i=c3) w w12:=(e6.trans x611 fun i hi e=>by omega).trans st12.x fun i hi h => .inl (by rw [z6 i hi] at h; omega)
  exact e12.trans x14 fun i hi e => .inl (by rw [e,tvb]; decide)
 have gb114:=get_ext gb112 x14 fun e=>by rw [e,tvb12] at tb112; exact absurd tb112 (by decide)
 have gb115:=s15.blk gb114 tb112
 refine R_vault_Vault_commits_1 ⟨true,Cell.lst gb115 rfl,If.not (If.yes ?_)⟩
 refine k T15 _ _ w15 ⟨V15,rfl,rfl,⟨tt,mk,hs6,cp,sb,rfl,g15,gs15,tt0,ts0⟩,⟨q,kq,q15,kk,rfl⟩,⟨_,⟨be 4 1,fb,0, .z, .z⟩,rfl,⟨rfl,rfl,rfl,⟨by show (2:Int)<=2; decide,by show (2:Int) < 100; decide⟩,leaf_right (by simp [be_len]) (by simp [be_len]) hfb rfl rfl rfl,leaf_len (by simp [be_len]) hfb rfl,fun e he=>by simp only [List.mem_singleton] at he; subst he; exact ⟨by show Rf.z.ok; decide,by show Rf.z.ok; decide⟩,by simp,rfl⟩,rfl,rfl,rfl⟩,⟨_,_,r,_,_,r2,rfl,rfl⟩⟩ rfl (fun i hi h=>?_) ?_
 .have:=z12 i hi; rw [a15 i (by have:=x014.size; omega),this]; exact h
 .exact x014.trans s15.x fun i hi h => .inl (by rw [<- z12 i hi]; exact h)
end
end Go.Proofs.YtmbckodpbdlblaaGreat
namespace Go.Proofs.YtmbckodpbdlblaaGreat
open Go.V Go.V.Pk Go.V.Dk Go.V.Rn
section
variable {w w':Wd} {T T':Nat->Nat}
set_option maxHeartbeats 1000000 in
theorem create_spec{vb al:Nat}{ky sec:Sl}{kl sl:List Int}{d:Dev}{g:Rgs}{dev:Option Addr}{l:List Int}{drs:List (List Int)}{rb mb lb pb kb wb nb:Nat}{q ls fr:Sl}{kq:List Int}{pm dm:Option Nat}{pu:List Int}{fl:Bool}
  {c4 c5 c6 c7 c8:Int} {c9 c10 c11 c12:Sl} {c13:Bool} {K:Int->Int->Int->Sl->Sl->Int->Sl->Wd->Prop}
  (V:VtC w T ⟨vb,ky,kl,true,mp1,al,[]⟩ ⟨d,newD 100,g,⟨dev,1000,0,0,l::drs⟩,rb,mb,[⟨⟨0,1⟩,q,kq⟩],lb,ls,[],pb,fr,[(2,100)],kb,[],wb,nb,pm,dm,pu,0,0,fl⟩) (hql:kq.length=32) (hl:16<=l.length)
  (hs:RdB w.heap sec sl) (hsB:B8 sl) (hsl:sec.len=16) (hst:∀ i,sec.blk=some i->T i=0)
  (k:∀ T' v' s' w',AftC w' T' v' s'->v'.vb=vb->Stw T w T' w'->K 0 0 0 ⟨none,0,0⟩ ⟨none,0,0⟩ 0 ⟨none,0,0⟩ w'):C_vault_Vault_create (some ⟨vb,0,none⟩) 1 1 sec 9 c4 c5 c6 c7 c8 c9 c10 c11 c12 c13 w K:=by
 apply S_vault_Vault_create
 refine fun b w1 n1 b1 w2 n2 b2 w3 n3=>?_
 have a1:=n1.at_; have z1:=n1.size; have a2:=n2.at_; have z2:=n2.size; have a3:=n3.at_; have z3:=n3.size
 have x3:Ext No w w3:=(n1.ext.no n2.ext).no n3.ext
 have g0:=get_no (get_no n1.get n2.ext) n3.ext
 have g1:=get_no n2.get n3.ext
 have g2:=n3.get
 refine ⟨fun u=>w3=u,⟨1,Cell.lst g1 rfl,If.beq (fun h=>absurd h (by decide)) fun _=>⟨sec,Cell.lst g1 rfl,If.bne (fun h=>absurd (by rw [hsl]; rfl) h) fun _=>⟨9,Cell.lst g1 rfl,If.dec (fun h=>absurd h (by decide)) fun _=>⟨9,Cell.lst g1 rfl,If.dec (fun h=>absurd h (by decide)) fun _=>rfl⟩⟩⟩⟩,?_⟩
 rintro _ _ rfl
 have V3:=V.no x3
 have xd:Ext No w3 (drewW w3):=(Ext.refl _ _).drew
 have Vd:=V3.no xd
 have hlk:=run_lookup (P:=pz) (a:=(1:Int)) key33 map41 (look110 (drewW w3)) Vd.a
 refine ⟨fun u=>drewW w3=u,⟨Ext No w3,xd,_,Held.but (Cell.lst g0 rfl) (fun h=>h),Nn.mk ⟨some al,Held.but (Cell.lst V3.b rfl) (fun h=>h),1,Held.but (Cell.lst g1 rfl) (fun h=>h),none,drewW w3,hlk,xd,If.no rfl⟩⟩,?_⟩
 rintro _ _ rfl
 have g0d:=get_no g0 xd
 have g1d:=get_no g1 xd
 have g2d:=get_no g2 xd
 have zd:(drewW w3).heap.size=w3.heap.size:=rfl
 refine ⟨9,Cell.lst g1d rfl,fun b3 w12 n12=>⟨_,Cell.lst (get_no g0d n12.ext) rfl,Nn.mk ⟨some al,Cell.lst (Vd.no n12.ext).b rfl,?_⟩⟩⟩
 have V12:=Vd.no n12.ext
 obtain ⟨w13,hrun,hI,x13,z13⟩:=ItR.start (P:=pz) map41 V12.a
 refine ⟨some ⟨w12.heap.size,0,none⟩,w13,hrun,fun _ lx u=>⟨some ⟨b3,0,none⟩,1,1⟩=lx/\w13=u,⟨0,rfl,rfl⟩,?_⟩
 rintro _ _ _ _ ⟨rfl,rfl⟩
 have alt:al < w12.heap.size:=map_lt V12.a
 rcases hI.next (P:=pz) (show w12.heap.size≠al by omega) with ⟨_,w15,hn,x15⟩ | ⟨p,w',_,_,_,_,hp,_⟩
 rotate_left
 .cases hp
 refine .inl ⟨w15,hn,?_⟩
 have x315:Ext No w3 w15:=((xd.no n12.ext).no x13).no x15
 have V15:=V3.no x315
 have g015:=get_no g0 x315
 have g115:=get_no g1 x315
 have g215:=get_no g2 x315
 have o3:Rd w15.heap ⟨some ⟨b3,0,none⟩,1,1⟩ 1 ([9].map (Value.int .i64)):=Rd.no (Own.new (n:=1) (sz:=1) n12 rfl (oneL rfl)).rd (x13.no x15)
 refine ⟨fun u=>w15=u,⟨_,Cell.lst g015 rfl,Nn.mk ⟨100,Cell.lst V15.b rfl,fits_spec o3 ⟨by decide,by decide⟩ (If.not (If.yes (If.bne (fun h=>absurd rfl h) fun _=>rfl)))⟩⟩,?_⟩
 rintro _ _ rfl
 refine ⟨_,Cell.lst g015 rfl,Nn.mk ⟨_,Cell.lst V15.b rfl,?_⟩⟩
 refine draw_sy V15 (l:=l) (ls:=drs) rfl hl fun Td g' ks w21 V21 hz x21 hkr hkt=>have_byte ?_
 have x021:Ext (fun i=>T i≠0) w w21:=(x3.no x315).of_no.trans x21 fun i _ h=>h
 have tz:∀ i,w.heap.size<=i->T i=0:=fun i hi=>V.y.out i hi
 have g021:=get_ext g015 x21 fun h=>h (tz b (by omega))
 have g121:=get_ext g115 x21 fun h=>h (tz b1 (by omega))
 have g221:=get_ext g215 x21 fun h=>h (tz b2 (by omega))
 have z315:=x315.size; have z21:=x21.size
 refine fun b4 w23 n23=>St1.mk n23.get Nat.one_pos rfl fun w24 h24=>?_
 have a23:=n23.at_; have z23:=n23.size
 have g424:=h24.get n23.get
 have x24:Ext No w21 w24:=n23.ext.out h24.ext (by show w21.heap.size<=b4; omega)
 have V24:=V21.no x24
 have g024:=get_no g021 x24
 have g124:=get_no g121 x24
 have g224:=get_no g221 x24
 have z24:=x24.size
 have hkB:B8 (l.take 16):=fun x hx=>V.y.rg.r.b8 l List.mem_cons_self x (List.mem_of_mem_take hx)
 have hsec:RdB w24.heap sec sl:=((Rd.no hs (x3.no x315)).ext x21 fun p i hp hi h=>h (hst i (by simp [Sl.blk,hp,hi]))).no x24
 have tail:∀(mk:Sl)(ml:List Int)(b5:Nat)(u:Wd)(Kc:Wd->Prop),Ext No w24 u->RdB u.heap mk ml->ml.length=16->B8 ml->(∀ i,mk.blk=some i->w24.heap.size<=i/\i≠b5/\i < u.heap.size)->w24.heap.size<=b5->u.heap[b5]? = some (.cells (stV mk ⟨none,0,0⟩).cells.toArray 113 (0,0)) ->
   (∀ T' v' s' w',AftC w' T' v' s'->v'.vb=vb->Stw T w T' w'->T' b2=0->w'.heap[b2]? = some (.cells [Value.int .i64 0, .int .u64 0, .int .u64 0, .slice none 0 0, .slice none 0 0, .int .i64 0, .slice none 0 0].toArray 70 (0,0))->Kc w') ->
   C_vault_Vault_commits (some ⟨vb,0,none⟩) (.func (.func 145) #[] #[.pointer (some ⟨b,0,none⟩), .pointer (some ⟨b1,0,none⟩), .pointer (some ⟨b4,0,none⟩), .pointer (some ⟨b5,0,none⟩)]) (.func (.func 151) #[] #[.pointer (some ⟨b,0,none⟩), .pointer (some ⟨b1,0,none⟩), .pointer (some ⟨b4,0,none⟩), .pointer (some ⟨b5,0,none⟩)]) u Kc:=by
  intro mk ml b5 u Kc xu hm hml hmB hmt hb5 g5 hk
  have to:∀ i,w21.heap.size<=i->Td i=0:=V21.y.out
  have lu:=xu.size
  have t0:∀ i,w.heap.size<=i->i < w21.heap.size->Td i=0:=fun i h1 h2=>hz i (tz i h1)
  have gl:=hlt g021; have gl1:=hlt g121; have gl2:=hlt g221; have gl4:=hlt g424
  refine commits_spec (V24.no xu) (c0:=b) (c1:=b1) (c2:=b4) (c3:=b5) (key:=ks) (kk:=l.take 16) (mk:=mk) (ml:=ml) (hs:=⟨none,0,0⟩)
   ⟨get_no g024 xu,get_no g124 xu,rfl,get_no g424 xu,g5,t0 b (by omega) gl,t0 b1 (by omega) gl1,to b4 (by omega),to b5 (by omega),by omega,by omega,by omega,(Rd.no hkr x24).no xu,by rw [List.length_take]; omega,hkB,fun i hi=>⟨by rw [(hkt i hi).1]; exact Nat.le_refl _,by have:=(hkt i hi).2; omega⟩,hm,hml,hmB,fun i hi=>⟨to i (by have:=(hmt i hi).1; omega),(hmt i hi).2⟩⟩ hql fun T' v' s' w' A hv hz' x'=>?_
  have g2u:=get_no g224 xu
  refine hk T' v' s' w' A hv ⟨fun i hi h=>hz' i (by have:=x021.size; omega) (hz i h),?_⟩ (hz' b2 (by omega) (t0 b2 (by omega) gl2)) (get_ext g2u x' fun h=>h.elim (fun h=>h (t0 b2 (by omega) gl2)) fun h=>by omega)
  exact ((x021.trans x24.of_no fun i _ h=>h).trans xu.of_no fun i _ h=>h).trans x' fun i hi h h0=>by
   rcases h with h | h
   .exact h (hz i h0)
   .have:=x021.size; omega
 have rest:∀(T':Nat->Nat)(v':VA)(s':SA)(u:Wd),AftC u T' v' s'->v'.vb=vb->Stw T w T' u->T' b2=0->u.heap[b2]? = some (.cells [Value.int .i64 0, .int .u64 0, .int .u64 0, .slice none 0 0, .slice none 0 0, .int .i64 0, .slice none 0 0].toArray 70 (0,0)) ->
   ∀ u',Wrt u b2 (.cells [Value.int .i64 0, .int .u64 0, .int .u64 0, .slice none 0 0, .slice none 0 0, .int .i64 0, .slice none 0 0].toArray 70) u'->∃ T'' v'' s'',AftC u' T'' v'' s''/\v''.vb=vb/\Stw T w T'' u':=by
  intro T' v' s' u A hv st h0 hg u' h'
  have x':Ext (·=b2) u u':=h'.ext
  obtain ⟨tb,mk,hs,cp,sb,e1,e2,e3,e4,e5⟩:=A.tn
  refine ⟨T',v',s',⟨A.V.loc x' fun i hi=>by rw [hi]; exact .inl h0,A.op,A.mp,⟨tb,mk,hs,cp,sb,e1,get_ext e2 x' ?_,get_ext e3 x' ?_,e4,e5⟩,A.ks,A.pg,A.lg⟩,hv,st.out x' (by omega)⟩
  .rintro rfl; rw [hg] at e2; exact absurd e2 (by simp)
  .rintro rfl; rw [hg] at e3; exact absurd e3 (by simp)
 have xd24:Ext No w24 (drewW w24):=(Ext.refl _ _).drew
 refine ⟨Ext No w24,xd24,1,Held.but (Cell.lst g124 rfl) (fun h=>h),9,Held.but (Cell.lst g124 rfl) (fun h=>h),_,Held.but (Cell.lst g024 rfl) (fun h=>h),Nn.mk ⟨ky,Held.but (Cell.lst V24.b rfl) (fun h=>h),sec,Held.but (Cell.lst g124 rfl) (fun h=>h),?_,?_⟩⟩
 .refine mark_spec (Rd.no V24.k xd24) V24.kB V24.kn (Rd.no hsec xd24) hsB hsl fun mb' ml w25 arr hmb hml hmB x25=>⟨x25.drew_left,?_,?_⟩
  .refine have_byte ⟨x25.drew_left,fun b5 w27 n27=>⟨x25.drew_left.no n27.ext,rfl,?_⟩⟩
   have a27:=n27.at_; have z25:=x25.size; have lm:=hlt arr
   refine StN.mk n27.get (Nat.le_refl 9) (SeatV.one (stV ⟨some ⟨mb',0,none⟩,16,16⟩ ⟨none,0,0⟩)) fun w28 h28=>?_
   have g28:=h28.get n27.get
   have x28:Ext (·=b5) w27 w28:=h28.ext
   have xu:Ext No w24 w28:=(x25.drew_left.no n27.ext).out x28 (by have:(drewW w24).heap.size=w24.heap.size:=rfl; omega)
   refine ⟨_,Cell.lst (get_no g024 xu) rfl,tail ⟨some ⟨mb',0,none⟩,16,16⟩ ml b5 w28 _ xu ?_ hml hmB (fun i hi=>?_) (by have:(drewW w24).heap.size=w24.heap.size:=rfl; omega) g28 fun T' v' s' w29 A hv st h0 hg=>?_⟩
   .have h1:=arr.rd (o:=0) (n:=16) (c:=16) (by omega) (Nat.le_refl _)
    rw [List.drop_zero,List.take_of_length_le (by omega)] at h1
    exact (Rd.no h1 n27.ext).ext x28 fun p i hp hi e=>by
     have:i=mb':=by cases hp; exact hi.symm
     omega
   .have e:i=mb':=by simp [Sl.blk] at hi; exact hi.symm
    have:(drewW w24).heap.size=w24.heap.size:=rfl
    have:=x28.size; have:=n27.size
    exact ⟨by omega,by omega,by omega⟩
   .refine ⟨0,Cell.lst hg rfl,0,Cell.lst hg rfl,0,Cell.lst hg rfl,⟨none,0,0⟩,Cell.lst hg rfl,⟨none,0,0⟩,Cell.lst hg rfl,0,Cell.lst hg rfl,⟨none,0,0⟩,Cell.lst hg rfl,rfl,StN.mk hg (Nat.le_refl 7) (oneL rfl) fun w30 h30=>?_⟩
    have g30:=h30.get hg
    obtain ⟨T2,v2,s2,A2,hv2,st2⟩:=rest T' v' s' w29 A hv st h0 hg w30 h30
    exact ⟨0,Cell.lst g30 rfl,0,Cell.lst g30 rfl,0,Cell.lst g30 rfl,⟨none,0,0⟩,Cell.lst g30 rfl,⟨none,0,0⟩,Cell.lst g30 rfl,0,Cell.lst g30 rfl,⟨none,0,0⟩,Cell.lst g30 rfl,k T2 v2 s2 w30 A2 hv2 st2⟩
  .refine fun b5 w27 n27=>⟨x25.drew_left.no n27.ext,have_byte ⟨x25.drew_left.no n27.ext,rfl,?_⟩⟩
   have a27:=n27.at_; have z25:=x25.size; have lm:=hlt arr
   refine StN.mk n27.get (Nat.le_refl 9) (SeatV.one (stV ⟨some ⟨mb',0,none⟩,16,16⟩ ⟨none,0,0⟩)) fun w28 h28=>?_
   have g28:=h28.get n27.get
   have x28:Ext (·=b5) w27 w28:=h28.ext
   have xu:Ext No w24 w28:=(x25.drew_left.no n27.ext).out x28 (by have:(drewW w24).heap.size=w24.heap.size:=rfl; omega)
   refine ⟨_,Cell.lst (get_no g024 xu) rfl,tail ⟨some ⟨mb',0,none⟩,16,16⟩ ml b5 w28 _ xu ?_ hml hmB (fun i hi=>?_) (by have:(drewW w24).heap.size=w24.heap.size:=rfl; omega) g28 fun T' v' s' w29 A hv st h0 hg=>?_⟩
   .have h1:=arr.rd (o:=0) (n:=16) (c:=16) (by omega) (Nat.le_refl _)
    rw [List.drop_zero,List.take_of_length_le (by omega)] at h1
    exact (Rd.no h1 n27.ext).ext x28 fun p i hp hi e=>by
     have:i=mb':=by cases hp; exact hi.symm
     omega
   .have e:i=mb':=by simp [Sl.blk] at hi; exact hi.symm
    have:(drewW w24).heap.size=w24.heap.size:=rfl
    have:=x28.size; have:=n27.size
    exact ⟨by omega,by omega,by omega⟩
   .refine ⟨0,Cell.lst hg rfl,0,Cell.lst hg rfl,0,Cell.lst hg rfl,⟨none,0,0⟩,Cell.lst hg rfl,⟨none,0,0⟩,Cell.lst hg rfl,0,Cell.lst hg rfl,⟨none,0,0⟩,Cell.lst hg rfl,rfl,StN.mk hg (Nat.le_refl 7) (oneL rfl) fun w30 h30=>?_⟩
    have g30:=h30.get hg
    obtain ⟨T2,v2,s2,A2,hv2,st2⟩:=rest T' v' s' w29 A hv st h0 hg w30 h30
    exact ⟨0,Cell.lst g30 rfl,0,Cell.lst g30 rfl,0,Cell.lst g30 rfl,⟨none,0,0⟩,Cell.lst g30 rfl,⟨none,0,0⟩,Cell.lst g30 rfl,0,Cell.lst g30 rfl,⟨none,0,0⟩,Cell.lst g30 rfl,k T2 v2 s2 w30 A2 hv2 st2⟩
 .refine fun b5 w27' n27=>⟨n27.ext.drew_left,?_⟩
  have xm:Ext No w24 w27':=n27.ext.drew_left
  refine mark_spec (Rd.no V24.k xm) V24.kB V24.kn (Rd.no hsec xm) hsB hsl fun mb' ml w27 arr hmb hml hmB x25=>⟨xm.no x25,have_byte ⟨xm.no x25,rfl,?_⟩⟩
  have a27:=n27.at_; have z25:=x25.size; have lm:=hlt arr
  have g27:=get_no n27.get x25
  have l27:=hlt n27.get
  refine StN.mk g27 (Nat.le_refl 9) (SeatV.one (stV ⟨some ⟨mb',0,none⟩,16,16⟩ ⟨none,0,0⟩)) fun w28 h28=>?_
  have g28:=h28.get g27
  have x28:Ext (·=b5) w27 w28:=h28.ext
  have xu:Ext No w24 w28:=(n27.ext.drew_left.no x25).out x28 (by have:(drewW w24).heap.size=w24.heap.size:=rfl; omega)
  refine ⟨_,Cell.lst (get_no g024 xu) rfl,tail ⟨some ⟨mb',0,none⟩,16,16⟩ ml b5 w28 _ xu ?_ hml hmB (fun i hi=>?_) (by have:(drewW w24).heap.size=w24.heap.size:=rfl; omega) g28 fun T' v' s' w29 A hv st h0 hg=>?_⟩
  .have h1:=arr.rd (o:=0) (n:=16) (c:=16) (by omega) (Nat.le_refl _)
   rw [List.drop_zero,List.take_of_length_le (by omega)] at h1
   exact h1.ext x28 fun p i hp hi e=>by
    have:i=mb':=by cases hp; exact hi.symm
    omega
  .have e:i=mb':=by simp [Sl.blk] at hi; exact hi.symm
   have:(drewW w24).heap.size=w24.heap.size:=rfl
   have:=x28.size; have:=n27.size
   exact ⟨by omega,by omega,by omega⟩
  .refine ⟨0,Cell.lst hg rfl,0,Cell.lst hg rfl,0,Cell.lst hg rfl,⟨none,0,0⟩,Cell.lst hg rfl,⟨none,0,0⟩,Cell.lst hg rfl,0,Cell.lst hg rfl,⟨none,0,0⟩,Cell.lst hg rfl,rfl,StN.mk hg (Nat.le_refl 7) (oneL rfl) fun w30 h30=>?_⟩
   have g30:=h30.get hg
   obtain ⟨T2,v2,s2,A2,hv2,st2⟩:=rest T' v' s' w29 A hv st h0 hg w30 h30
   exact ⟨0,Cell.lst g30 rfl,0,Cell.lst g30 rfl,0,Cell.lst g30 rfl,⟨none,0,0⟩,Cell.lst g30 rfl,⟨none,0,0⟩,Cell.lst g30 rfl,0,Cell.lst g30 rfl,⟨none,0,0⟩,Cell.lst g30 rfl,k T2 v2 s2 w30 A2 hv2 st2⟩
end
end Go.Proofs.YtmbckodpbdlblaaGreat
namespace Go.Proofs.YtmbckodpbdlblaaGreat
open Go.V Go.V.Pk Go.V.Dk Go.V.Rn
section
variable {w w':Wd} {T T':Nat->Nat} {v:VA} {s:SA}
theorem AftC.no(A:AftC w T v s)(x:Ext No w w'):AftC w' T v s:=by
 obtain ⟨tb,mk,hs,cp,sb,e1,e2,e3,e4,e5⟩:=A.tn
 exact ⟨A.V.no x,A.op,A.mp,⟨tb,mk,hs,cp,sb,e1,get_no e2 x,get_no e3 x,e4,e5⟩,A.ks,A.pg,A.lg⟩
theorem AftC.out{b:Nat}{cs:Array Value}{t:TypeId}{fz:Nat×Nat}(A:AftC w T v s)(x:Ext (·=b) w w')(h0:T b=0)(hg:w.heap[b]? = some (.cells cs t fz))(ht:t≠117):AftC w' T v s:=by
 obtain ⟨tb,mk,hs,cp,sb,e1,e2,e3,e4,e5⟩:=A.tn
 refine ⟨A.V.loc x fun i hi=>by rw [hi]; exact .inl h0,A.op,A.mp,⟨tb,mk,hs,cp,sb,e1,get_ext e2 x ?_,get_ext e3 x ?_,e4,e5⟩,A.ks,A.pg,A.lg⟩
 .rintro rfl; rw [hg] at e2; simp only [Option.some.injEq,Obj.cells.injEq] at e2; exact ht e2.2.1
 .rintro rfl; rw [hg] at e3; exact absurd e3 (by simp)
theorem run_nilcmp{p:Option Addr}(w:Wd):Sem.run pz (ptrCmp .eql 71 (.tmp 24) (.const .nilFunc) (.func (.func 97) #[.pointer p] #[]) (.nilFunc)) w = .ok (.bool false) w:=by kernel_rfl
set_option maxHeartbeats 1000000 in
theorem do_create{vb al:Nat}{ky sec:Sl}{kl sl:List Int}{d:Dev}{g:Rgs}{dev:Option Addr}{l:List Int}{drs:List (List Int)}{rb mb lb pb kb wb nb:Nat}{q ls fr:Sl}{kq:List Int}{pm dm:Option Nat}{pu:List Int}{fl:Bool}
  {c4 c5 c6 c7 c8:Int} {c9 c10 c11 c12:Sl} {c13:Bool} {K:Int->Int->Int->Sl->Sl->Int->Sl->Wd->Prop}
  (V:VtC w T ⟨vb,ky,kl,true,mp1,al,[]⟩ ⟨d,newD 100,g,⟨dev,1000,0,0,l::drs⟩,rb,mb,[⟨⟨0,1⟩,q,kq⟩],lb,ls,[],pb,fr,[(2,100)],kb,[],wb,nb,pm,dm,pu,0,0,fl⟩) (hql:kq.length=32) (hl:16<=l.length)
  (hs:RdB w.heap sec sl) (hsB:B8 sl) (hsl:sec.len=16) (hst:∀ i,sec.blk=some i->T i=0)
  (k:∀ T' v' s' w',AftC w' T' v' s'->v'.vb=vb->Stw T w T' w'->K 0 0 0 ⟨none,0,0⟩ ⟨none,0,0⟩ 0 ⟨none,0,0⟩ w'):C_vault_Vault_Do (some ⟨vb,0,none⟩) 1 1 sec 9 c4 c5 c6 c7 c8 c9 c10 c11 c12 c13 w K:=by
 apply S_vault_Vault_Do
 refine fun b w1 n1 b1 w2 n2=>?_
 have a1:=n1.at_; have z1:=n1.size; have a2:=n2.at_; have z2:=n2.size
 have x2:=n1.ext.no n2.ext
 have V2:=V.no x2
 refine none_spec V2.b rfl (If.no (Nn.mk ⟨true,Cell.lst V2.b rfl,If.not (If.yes fun b2 w6 n6=>?_)⟩))
 have a6:=n6.at_; have z6:=n6.size
 refine St1.mk n6.get Nat.one_pos rfl fun w7 h7=>?_
 have x27:Ext No w2 w7:=n6.ext.out h7.ext (by show w2.heap.size<=b2; omega)
 have V7:=V2.no x27
 have g07:=get_no (get_no n1.get n2.ext) x27
 have g17:=get_no n2.get x27
 have g27:=h7.get n6.get
 refine ⟨1,Cell.lst g07 rfl,how_spec (v:=⟨vb,ky,kl,true,mp1,al,[]⟩) fun w8 x8=>⟨false,w8,run_nilcmp w8,If.no ?_⟩⟩
 have V8:=V7.no x8
 have g08:=get_no g07 x8
 have x08:=(x2.no x27).no x8
 refine ⟨1,Cell.lst g08 rfl,1,Cell.lst g08 rfl,sec,Cell.lst g08 rfl,9,Cell.lst g08 rfl,c4,Cell.lst g08 rfl,c5,Cell.lst g08 rfl,c6,Cell.lst g08 rfl,c7,Cell.lst g08 rfl,c8,Cell.lst g08 rfl,c9,Cell.lst g08 rfl,c10,Cell.lst g08 rfl,c11,Cell.lst g08 rfl,c12,Cell.lst g08 rfl,c13,Cell.lst g08 rfl,?_⟩
 refine V_vault_Vault_create (create_spec V8 hql hl (Rd.no hs x08) hsB hsl hst fun T' v' s' w15 A hv st=>⟨rfl,?_⟩)
 have t1:T b1=0:=V.y.out b1 (by omega)
 have t2:T b2=0:=V.y.out b2 (by omega)
 have g18:=get_no g17 x8
 have g28:=get_no g27 x8
 have g115:=st.blk g18 t1
 have g215:=st.blk g28 t2
 have t1':T' b1=0:=st.z b1 (hlt g18) t1
 have t2':T' b2=0:=st.z b2 (hlt g28) t2
 refine StN.mk g115 (Nat.le_refl 7) (oneL rfl) fun w16 h16=>face_nil (R_vault_Vault_Do_1 ?_)
 have x16:Ext (·=b1) w15 w16:=h16.ext
 have g116:=h16.get g115
 have g216:=get_ext g215 x16 (by omega)
 refine ⟨0,Cell.lst g216 rfl,If.bne (fun h=>absurd rfl h) fun _=>⟨0,Cell.lst g116 rfl,0,Cell.lst g116 rfl,0,Cell.lst g116 rfl,⟨none,0,0⟩,Cell.lst g116 rfl,⟨none,0,0⟩,Cell.lst g116 rfl,0,Cell.lst g116 rfl,⟨none,0,0⟩,Cell.lst g116 rfl,?_⟩⟩
 exact k T' v' s' w16 (A.out x16 t1' g115 (by decide)) hv (((Stw.no x08).trans st).out x16 (by omega))
theorem foreignV{i at_:Int}{bs:Sl}{bl:List Int}{K:Int->Wd->Prop}(V:VtC w T v s)(hi:0<=i/\i < 100)(hb:RdB w.heap bs bl)(hB:B8 bl)(ht:∀ i,bs.blk=some i->T i=0)(hat:0<=at_/\at_ < 256)(hle:at_+bl.length<=256)
  (k:∀ w',DiskR w'.heap s.d (foreignD s.D i at_.toNat bl)->Ext s.d.fp w w'->K 0 w'):C_vault_Vault_Foreign v.p i at_ bs w K:=by
 apply S_vault_Vault_Foreign
 refine none_spec V.b rfl (If.no (Nn.mk ⟨s.d.p,Cell.lst V.b rfl,?_⟩))
 exact diskForeign_spec V.y.dk.r (V.y.dk.c.has hi) hb hB (fun j hj h=>by have:=V.y.dk.t j h; have:=ht j hj; omega) hat hle k
end
end Go.Proofs.YtmbckodpbdlblaaGreat
namespace Go.Proofs.YtmbckodpbdlblaaGreat
open Go.V Go.V.Pk Go.V.Dk Go.V.Rn
abbrev encR(q:Rf):Value := .agg (#[.int .u32 q.p, .int .u64 q.c, .int .u16 q.g])
theorem eq36(a x:Rf)(w:Wd):(Op.equal 36 (encR a) (encR x)).run pz w = .ok (decide (a=x)) w:=by
 have h:eqS pz 36 [.int .u32 a.p, .int .u64 a.c, .int .u16 a.g] [.int .u32 x.p, .int .u64 x.c, .int .u16 x.g]=some ((a.p == x.p) && ((a.c == x.c) && ((a.g == x.g) && true))):=by kernel_rfl
 have:=(eqS_sound (cs:=#[.int .u32 a.p, .int .u64 a.c, .int .u16 a.g]) (ds:=#[.int .u32 x.p, .int .u64 x.c, .int .u16 x.g]) h).2 w
 rw [refeq a x] at this
 exact this
theorem und36:∃ fs,Tryz.prog.underlying 36=some (.struct fs):=by
 have h:(match Tryz.prog.underlying 36 with | some (.struct _)=>true | _=>false)=true:=by kernel_rfl
 split at h
 .exact ⟨_,by assumption⟩
 .cases h
theorem ref36:KeyOK pz 36 encR:=struct_key und36 (fun b a w=>by kernel_rfl) eq36 fun a=>by simp [Instr.sameBits]
theorem map102:Tryz.prog.underlying 102=some (.map 36 4):=by kernel_rfl
section
variable {w w':Wd} {T T':Nat->Nat} {v:VA} {s:SA} {c0 c1 r:Nat}
theorem add0{more:Sl}{K:Wd->Prop}(h:more.len=0)(k:K w):C_vault_Vault_Reached_2 more ⟨c0,0,none⟩ ⟨c1,0,none⟩ w K:=by
 apply S_vault_Vault_Reached_2
 refine ⟨fun _ t u=>0=t/\w=u,⟨0,rfl,rfl⟩,?_⟩
 rintro _ _ _ _ ⟨rfl,rfl⟩
 exact If.dec (fun h'=>by omega) fun _=>k
set_option maxHeartbeats 1000000 in
theorem add1{more:Sl}{l:Lab}{K:Wd->Prop}(hm:Rd w.heap more 6 l.c)(hl:more.len=1)(g0:w.heap[c0]? = some (.cells [Value.map (some r)].toArray 102 (0,0)))(g1:w.heap[c1]? = some (.cells [Value.slice none 0 0].toArray 44 (0,0)))(hr:MapR w.heap encR r ([]:List (Rf×Value)))(n1:c1≠r)
  (k:∀ sl w',w'.heap[c1]? = some (.cells [sl.v].toArray 44 (0,0))->Own w'.heap w.heap.size 88 6 sl l.c->Ext (fun i=>i=r∨i=c1) w w'->K w'):C_vault_Vault_Reached_2 more ⟨c0,0,none⟩ ⟨c1,0,none⟩ w K:=by
 apply S_vault_Vault_Reached_2
 refine ⟨fun n t u=>(n=1/\t=0/\w=u)∨(n=0/\t=1/\K u),⟨1, .inl ⟨rfl,rfl,rfl⟩⟩,?_⟩
 rintro _ n t u (⟨rfl,rfl,rfl⟩ | ⟨rfl,rfl,hk⟩)
 .refine If.dec (fun _=>?_) fun h=>absurd (by omega) h
  refine Ix.elem (f:=fun _:Unit=>l.c) (l:=[()]) (by simpa using hm) (fun _ _=>rfl) (by decide) (by decide) (by omega) fun b' o' hi hb' hc=>?_
  refine ⟨_,hc 0 _ rfl,_,hc 1 _ rfl,_,hc 2 _ rfl,_,hc 3 _ rfl,_,hc 4 _ rfl,_,hc 5 _ rfl,NewSt rfl rfl (oneL rfl) fun w3 g3 z3 x3=>?_⟩
  have hr3:=hr.ext x3 fun h=>h
  have hlk:=run_lookup (P:=pz) (a:=(⟨l.pg,l.cm,l.gn⟩ : Rf)) ref36 map102 (lookB w3) hr3
  refine ⟨some r,Cell.lst (get_no g0 x3) rfl,l.pg,Cell.lst g3 rfl,l.cm,Cell.lst g3 rfl,l.gn,Cell.lst g3 rfl,false,w3,hlk,If.not (If.no ?_)⟩
  obtain ⟨w5,h5,m5,x5,z5⟩:=run_mapUpdate (P:=pz) (a:=(⟨l.pg,l.cm,l.gn⟩ : Rf)) (v := .bool true) ref36 map102 hr3
  have lr:=map_lt hr
  have g35:=get_ext g3 x5 (by omega)
  have g15:=get_ext (get_no g1 x3) x5 n1
  refine ⟨some r,Cell.lst (get_no g0 x3) rfl,l.pg,Cell.lst g3 rfl,l.cm,Cell.lst g3 rfl,l.gn,Cell.lst g3 rfl,w5,h5,⟨none,0,0⟩,Cell.lst g15 rfl,l.t,Cell.lst g35 rfl,l.kd,Cell.lst g35 rfl,l.lv,Cell.lst g35 rfl,l.pg,Cell.lst g35 rfl,l.cm,Cell.lst g35 rfl,l.gn,Cell.lst g35 rfl,?_⟩
  refine one_api_Label (cs:=[]) (xs:=l.c) (Own.nil _ _ _ _) (Nat.le_refl _) rfl (oneL rfl) (Nat.zero_le _) fun s6 w6 o6 l6 x6 hs6=>?_
  have x56:Ext No w5 w6:=x6.mono fun _ _ h=>nomatch h
  have g16:=get_no g15 x56
  refine St1.mk g16 (by decide) rfl fun w7 h7=>Ar.i64 (by decide) ⟨0,by decide, .inr ⟨rfl,rfl,?_⟩⟩
  have x7:Ext (·=c1) w6 w7:=h7.ext
  have z56:=x56.size
  refine k s6 w7 (h7.get g16) ((o6.ext x7 fun i hi e=>?_).mono ?_) (((x3.of_no.trans x5 fun i _ e => .inl e).trans x56.of_no fun i _ h=>h).trans x7 fun i _ e => .inr e)
  .have:=(o6.lt hi).1; have:=hlt g1; omega
  .omega
 .exact If.dec (fun h=>absurd h (by omega)) fun _=>hk
theorem reached_nil{K:Sl->Int->Wd->Prop}(k:∀ w',Ext No w w'->K ⟨none,0,0⟩ 1 w'){p:Option Addr}(hn:∀(u:Wd)(Kn:Bool->Wd->Prop),Ext No w u->Kn true u->C_vault_Vault_none p u Kn):C_vault_Vault_Reached p w K:=by
 apply S_vault_Vault_Reached
 refine fun b w1 n1 b1 w2 n2=>hn w2 _ (n1.ext.no n2.ext) (If.yes (St1.mk (get_no n1.get n2.ext) Nat.one_pos rfl fun w4 h4=>?_))
 have a1:=n1.at_; have z1:=n1.size; have a2:=n2.at_
 have x4:Ext (·=b) w2 w4:=h4.ext
 have g14:=get_ext n2.get x4 (by omega)
 refine St1.mk g14 Nat.one_pos rfl fun w5 h5=>?_
 have x5:Ext (·=b1) w4 w5:=h5.ext
 exact ⟨⟨none,0,0⟩,Cell.lst (get_ext (h4.get (get_no n1.get n2.ext)) x5 (by omega)) rfl,1,Cell.lst (h5.get g14) rfl,k w5 (((n1.ext.no n2.ext).out x4 (by omega)).out x5 (by omega))⟩
theorem reached_shut{K:Sl->Int->Wd->Prop}(V:VtC w T v s)(ho:v.op=false)(k:∀ w',Ext No w w'->K ⟨none,0,0⟩ 190 w'):C_vault_Vault_Reached v.p w K:=by
 obtain ⟨vb,ky,kl,op,mp,al,ts⟩:=v
 simp only at ho
 subst ho
 apply S_vault_Vault_Reached
 refine fun b w1 n1 b1 w2 n2=>?_
 have V2:=V.no (n1.ext.no n2.ext)
 refine none_spec V2.b rfl (If.no (Nn.mk ⟨false,Cell.lst V2.b rfl,If.not (If.no (St1.mk (get_no n1.get n2.ext) Nat.one_pos rfl fun w4 h4=>?_))⟩))
 have a1:=n1.at_; have z1:=n1.size; have a2:=n2.at_
 have x4:Ext (·=b) w2 w4:=h4.ext
 have g14:=get_ext n2.get x4 (by omega)
 refine St1.mk g14 Nat.one_pos rfl fun w5 h5=>?_
 have x5:Ext (·=b1) w4 w5:=h5.ext
 exact ⟨⟨none,0,0⟩,Cell.lst (get_ext (h4.get (get_no n1.get n2.ext)) x5 (by omega)) rfl,190,Cell.lst (h5.get g14) rfl,k w5 (((n1.ext.no n2.ext).out x4 (by omega)).out x5 (by omega))⟩
set_option maxHeartbeats 2000000 in
theorem reached_spec{K:Sl->Int->Wd->Prop}(V:VtC w T v s)(ho:v.op=true)(hmp:v.mp=mpX)
  (tn:∃ tb mk hs cp sb,v.ts=[(1, .pointer (some ⟨tb,0,none⟩))]/\w.heap[tb]? = some (.cells (tnC mk hs cp sb).toArray 117 (0,0))/\w.heap[sb]? = some (.map #[] 0)/\T tb=0/\T sb=0)
  (pg:∃ kp e,s.ps=[kp]/\LeafP kp [e]/\e.ch = .z/\kp.l=⟨0,1,0,2,1,1⟩/\kp.n=2)
  (k:∀ sl w',Own w'.heap w.heap.size 88 6 sl (⟨0,1,0,2,1,1⟩ : Lab).c->Ext No w w'->K sl 0 w'):C_vault_Vault_Reached v.p w K:=by
 obtain ⟨tb,mk,hs,cp,sb,e1,e2,e3,e4,e5⟩:=tn
 obtain ⟨kp,e,hps,hl,hch,hkl,hkn⟩:=pg
 obtain ⟨vb,ky,kl,op,mp,al,ts⟩:=v
 simp only at ho hmp e1
 subst ho hmp e1
 apply S_vault_Vault_Reached
 refine fun b w1 n1 b1 w2 n2=>?_
 have V2:=V.no (n1.ext.no n2.ext)
 refine none_spec V2.b rfl (If.no (Nn.mk ⟨true,Cell.lst V2.b rfl,If.not (If.yes fun b2 w8 n8 b3 w9 n9=>St1.mk n9.get Nat.one_pos rfl fun w10 h10=>?_)⟩))
 have a1:=n1.at_; have z1:=n1.size; have a2:=n2.at_; have z2:=n2.size; have a8:=n8.at_; have z8:=n8.size; have a9:=n9.at_; have z9:=n9.size
 have x02:=n1.ext.no n2.ext
 have x910:Ext (·=b3) w9 w10:=h10.ext
 have x210:Ext No w2 w10:=(n8.ext.no n9.ext).out x910 (by omega)
 have x010:=x02.no x210
 have V10:=V.no x010
 have gb:=get_no (get_no n1.get n2.ext) x210
 have gb1:=get_no n2.get x210
 have gb2:w10.heap[b2]? = some (.map #[] 0):=get_ext (get_no n8.get n9.ext) x910 (by omega)
 have gb3:=h10.get n9.get
 have z10:=x910.size
 have out:∀ i,w.heap.size<=i->T i=0:=V.y.out
 have tvb:=V.tb
 simp only at tvb
 have nvb:¬ (vb=b2∨vb=b):=fun h=>by have:=hlt V.b; simp only at this; omega
 have xd:Ext No w10 (drewW w10):=(Ext.refl _ _).drew
 refine ⟨Ext (fun i=>i=b2∨i=b) w10,xd.of_no,Nn.mk ⟨s.p,Held.but (Cell.lst V10.b rfl) nvb,Nn.mk ⟨2,Held.but (Cell.lst V10.b rfl) nvb,1,Held.but (Cell.lst V10.b rfl) nvb,1,Held.but (Cell.lst V10.b rfl) nvb,0,Held.but (Cell.lst V10.b rfl) nvb,?_⟩⟩⟩
 have hlab:=labels_leaf (K:=?_) (k:=kp) (e:=e) (V10.no xd).y (by rw [hps]; simp [getA]) (by rw [hps]; exact List.mem_singleton.2 rfl) hl hch ?_
 .rw [hkl] at hlab; exact hlab
 intro sl w11 o11 x11
 rw [hkl] at o11
 have x1011:Ext No w10 w11:=x11.drew_left
 refine ⟨x1011.of_no,have_label ⟨x1011.of_no,V_vault_Vault_Reached_2 ?_⟩⟩
 have hsl:sl.len=1:=by have:=o11.len; simp at this; omega
 refine add1 (l:=⟨0,1,0,2,1,1⟩) (r:=b2) o11.rd hsl (get_no gb3 x1011) (get_no gb x1011) ⟨#[],0,get_no gb2 x1011,rfl,BornOK.nil⟩ (by omega) fun sl2 w13 gl2 o13 x13=>?_
 refine ⟨x1011.of_no.trans x13 fun i _ h=>h,?_⟩
 have V13:=(V10.no x1011).loc x13 fun i hi => .inl (out i (by rcases hi with h | h <;> omega))
 have x1013:Ext (fun i=>i=b2∨i=b) w10 w13:=x1011.of_no.trans x13 fun i _ h=>h
 have x013:Ext No w w13:=x010.trans x1013 fun i hi h=>by rcases h with h | h <;> omega
 have gb1':w13.heap[b1]? = _:=get_ext gb1 x1013 (by omega)
 have z13:=x1013.size
 refine Nn.mk ⟨some al,Cell.lst V13.b rfl,S_maps_Keys_map_uint32_vault_tenant_uint32_vault_tenant fun bk w14 n14=>S_slices_Sorted_uint32 (S_slices_Collect_uint32 ?_)⟩
 refine appendKeys_uint32 n14.get (V13.no n14.ext).a (Nat.le_refl 1) fun sk w15 o15 x15=>?_
 have hsk:sk.len=1:=by have:=o15.len; simpa [encM] using this.symm
 refine sort1_uint32 (by omega) ?_
 have x1315:=n14.ext.no x15
 have x015:=x013.no x1315
 have V15:=V.no x015
 have gt15:=get_no e2 x015
 have gs15:=get_no e3 x015
 have fin:∀ u,Ext No w15 u->∃ vv_14:Sl,Cell u (Addr.mk b 0 none) (.slice vv_14.a vv_14.len vv_14.cap)/\St1 u (Addr.mk b 0 none) (.slice vv_14.a vv_14.len vv_14.cap) fun w26=>St1 w26 (Addr.mk b1 0 none) (.int .i64 0) fun w27 =>
   retD pz 50 #[.pointer (some ⟨vb,0,none⟩), .pointer (some (Addr.mk b1 0 none))] (fun w28=>retD pz 49 #[.pointer (some (Addr.mk b1 0 none)), .pointer (some (Addr.mk b 0 none))] (fun w29=>∃ vv_15:Sl,Cell w29 (Addr.mk b 0 none) (.slice vv_15.a vv_15.len vv_15.cap)/\∃ vv_16:Int,Cell w29 (Addr.mk b1 0 none) (.int .i64 vv_16)/\K vv_15 vv_16 w29) w28) w27:=by
  intro u xu
  have g0:=get_no gl2 (x1315.no xu)
  have g1:=get_no gb1' (x1315.no xu)
  refine ⟨sl2,Cell.lst g0 rfl,St1.mk g0 Nat.one_pos rfl fun w26 h26=>?_⟩
  have x26:Ext (·=b) u w26:=h26.ext
  have g026:=h26.get g0
  have g126:=get_ext g1 x26 (by omega)
  refine St1.mk g126 Nat.one_pos rfl fun w27 h27=>face_nil (R_vault_Vault_Reached_1 ?_)
  have x27:Ext (·=b1) w26 w27:=h27.ext
  have g127:=h27.get g126
  refine ⟨0,Cell.lst g127 rfl,If.bne (fun h=>absurd rfl h) fun _=>⟨sl2,Cell.lst (get_ext g026 x27 (by omega)) rfl,0,Cell.lst g127 rfl,k sl2 w27 ?_ ?_⟩⟩
  .have o:=((o13.no (x1315.no xu)).ext x26 fun i hi e=>by have:=(o13.lt hi).1; have:=x1011.size; omega).ext x27 fun i hi e=>by have:=(o13.lt hi).1; have:=x1011.size; omega
   exact o.mono (by have:=x010.size; have:=x1011.size; omega)
  .exact ((x015.no xu).out x26 (by omega)).out x27 (by omega)
 refine ⟨fun n t u=>(n=1/\t=0/\w15=u)∨(n=0/\t=1/\Ext No w15 u),⟨1, .inl ⟨rfl,rfl,rfl⟩⟩,?_⟩
 rintro _ n t u (⟨rfl,rfl,rfl⟩ | ⟨rfl,rfl,xu⟩)
 rotate_left
 .exact If.dec (fun h=>absurd h (by omega)) fun _=>fin u xu
 refine If.dec (fun _=>?_) fun h=>absurd (by omega) h
 refine Ix.cell o15.rd (by decide) (by omega) fun b' o' vx _ hv' hc=>?_
 have ev:vx = .int .u32 1:=by simpa [encM] using hv'.symm
 subst ev
 refine ⟨1,hc,Nn.mk ⟨some al,Cell.lst V15.b rfl,?_⟩⟩
 have hlk:=run_lookup (P:=pz) (a:=(1:Int)) key33 map41 (look110 w15) V15.a
 refine ⟨some ⟨tb,0,none⟩,w15,hlk,?_⟩
 have xd15:Ext No w15 (drewW w15):=(Ext.refl _ _).drew
 refine ⟨Ext No w15,xd15,Nn.mk ⟨s.p,Held.but (Cell.lst V15.b rfl) (fun h=>h),Nn.mk ⟨0,Held.but (Cell.lst gt15 rfl) (fun h=>h),0,Held.but (Cell.lst gt15 rfl) (fun h=>h),0,Held.but (Cell.lst gt15 rfl) (fun h=>h),0,Held.but (Cell.lst gt15 rfl) (fun h=>h),?_⟩⟩⟩
 refine labels0 fun w18 x18=>⟨x18.drew_left,have_label ⟨x18.drew_left,V_vault_Vault_Reached_2 (add0 rfl ⟨x18.drew_left,Nn.mk ⟨some sb,Cell.lst (get_no gt15 x18.drew_left) rfl,S_maps_Keys_map_uint64_vault_shot_uint64_vault_shot fun bj w21 n21=>S_slices_Sorted_uint64 (S_slices_Collect_uint64 ?_)⟩⟩)⟩⟩
 have x1518:Ext No w15 w18:=x18.drew_left
 have hms:MapR w21.heap (Value.int .u64) sb ([]:List (Int×Value)):=⟨#[],0,get_no gs15 (x1518.no n21.ext),rfl,BornOK.nil⟩
 refine appendKeys_uint64 n21.get hms (Nat.zero_le _) fun sj w22 o22 x22=>?_
 have hsj:sj.len=0:=by have:=o22.len; simpa [encM] using this.symm
 refine sort1_uint64 (by omega) ⟨fun _ t u=>0=t/\w22=u,⟨0,rfl,rfl⟩,?_⟩
 rintro _ _ _ _ ⟨rfl,rfl⟩
 exact If.dec (fun h=>by omega) fun _=>Ar.i64 (by decide) ⟨0,by decide, .inr ⟨rfl,rfl,(x1518.no n21.ext).no x22⟩⟩
end
end Go.Proofs.YtmbckodpbdlblaaGreat
namespace Go.Proofs.YtmbckodpbdlblaaGreat
open Go.V Go.V.Pk Go.V.Dk Go.V.Rn
abbrev f90:List Int:=1::List.replicate 255 0
structure AftL(w:Wd)(T:Nat->Nat)(v:VA)(s:SA):Prop where
 V:VtC w T v s
 op:v.op=true
 mp:v.mp=mpX
 tn:∃ tb mk hs cp sb,v.ts=[(1, .pointer (some ⟨tb,0,none⟩))]/\w.heap[tb]? = some (.cells (tnC mk hs cp sb).toArray 117 (0,0))/\w.heap[sb]? = some (.map #[] 0)/\T tb=0/\T sb=0
 ks:∃ q kq q1 kk,s.ks=[⟨⟨0,1⟩,q,kq⟩,⟨⟨1,1⟩,q1,kk⟩]
 pg:∃ kp e,s.ps=[kp]/\LeafP kp [e]/\e.ch = .z/\kp.l=⟨0,1,0,2,1,1⟩/\kp.n=2
 lg:∃ k1 p1 r1 k2 p2 r2,s.L=[⟨⟨0,1,0,2,1,1⟩,k1,p1,magic++r1⟩,⟨⟨0,4,0,1,1,1⟩,k2,p2,magic++r2⟩]/\∀ i:Nat,2<=i->i < 100->s.D.firm.getD i []=if i=2 then magic++r1 else if i=90 then f90 else zeroRow
theorem firm_getD{b1 b2:List Int}{i:Nat}(h2:2<=i)(h:i < 100):(((newD 100).now.set 2 b1).set 1 b2).getD i []=if i=2 then b1 else zeroRow:=by
 show (((List.replicate 100 zeroRow).set 2 b1).set 1 b2).getD i []=_
 rw [List.getD_eq_getElem?_getD,List.getElem?_set_ne (by omega)]
 by_cases h3:i=2
 .subst h3; rw [List.getElem?_set_self (by rw [List.length_replicate]; decide),if_pos rfl]; rfl
 .rw [List.getElem?_set_ne (by omega),List.getElem?_replicate,if_pos h,if_neg h3]; rfl
theorem splice90:splice zeroRow 0 [1]=f90:=by decide
section
variable {w w':Wd} {T T':Nat->Nat} {v:VA} {s:SA}
theorem foreign_spec{bs:Sl}{K:Int->Wd->Prop}(A:AftC w T v s)(hb:RdB w.heap bs [1])(ht:∀ i,bs.blk=some i->T i=0)(k:∀ T' s' w',AftL w' T' v s'->Stw T w T' w'->K 0 w'):C_vault_Vault_Foreign v.p 90 0 bs w K:=by
 refine foreignV A.V (by decide) hb (fun x hx=>by simp only [List.mem_singleton] at hx; subst hx; decide) ht (by decide) (by decide) fun w' r x=>?_
 have c:=A.V.y.dk.c
 have cal:Calm (foreignD s.D 90 (0:Int).toNat [1]):=⟨by simp [foreignD,c.n],c.fail,c.cut,c.down,c.st,c.w⟩
 obtain ⟨y',st⟩:=A.V.y.disk r (Grow.refl w s.d) x cal
 have V':=A.V.sy st y' rfl rfl rfl rfl rfl
 obtain ⟨tb,mk,hs,cp,sb,e1,e2,e3,e4,e5⟩:=A.tn
 obtain ⟨k1,p1,r1,k2,p2,r2,hL,hf⟩:=A.lg
 refine k _ _ w' ⟨V',A.op,A.mp,⟨tb,mk,hs,cp,sb,e1,st.blk e2 (.inl e4),st.blk e3 (.inl e5),(st.a _ (hlt e2)).trans e4,(st.a _ (hlt e3)).trans e5⟩,A.ks,A.pg,⟨k1,p1,r1,k2,p2,r2,hL,fun i h2 h=>?_⟩⟩ st.tw
 show (s.D.firm.set 90 (splice (s.D.firm.getD 90 []) 0 [1])).getD i []=_
 have hlen:90 < s.D.firm.length:=by rw [hf]; simp [newD]
 rw [List.getD_eq_getElem?_getD]
 by_cases h90:i=90
 .subst h90
  rw [List.getElem?_set_self hlen,if_neg (by decide),if_pos rfl,hf,firm_getD (by decide) (by decide),if_neg (by decide)]
  exact splice90
 .rw [List.getElem?_set_ne (by omega),<- List.getD_eq_getElem?_getD,hf,firm_getD h2 h,if_neg h90]
theorem log_spec{K:Option Addr->Wd->Prop}(V:VtC w T v s)(k:K s.lB w):C_vault_Vault_Log v.p w K:=by
 apply S_vault_Vault_Log
 exact none_spec V.b rfl (If.no (Nn.mk ⟨s.lB,Cell.lst V.b rfl,k⟩))
theorem blocks_v{K:Int->Wd->Prop}(V:VtC w T v s)(k:K 100 w):C_vault_Vault_Blocks v.p w K:=by
 apply S_vault_Vault_Blocks
 refine none_spec V.b rfl (If.no (Nn.mk ⟨s.d.p,Cell.lst V.b rfl,diskBlocks_spec V.y.dk.r ?_⟩))
 rw [V.y.dk.c.n]; exact k
theorem firm_v{i:Int}{K:Sl->Int->Wd->Prop}(V:VtC w T v s)(hi:0<=i/\i < 100)(k:∀ sl w',RdB w'.heap sl (s.D.firm.getD i.toNat [])->Ext No w w'->K sl 0 w'):C_vault_Vault_Firm v.p i w K:=by
 apply S_vault_Vault_Firm
 refine none_spec V.b rfl (If.no (Nn.mk ⟨s.d.p,Cell.lst V.b rfl,diskFirm_spec V.y.dk.r (fun h=>by rw [V.y.dk.c.has hi] at h; cases h) fun _ sl w' o x=>k sl w' o.rd x⟩))
theorem gens_v{t:Int}{K:Sl->Wd->Prop}(V:VtC w T v s)(ho:v.op=true)(h1:(gensF s.ks t).length<=1)(k:∀ sl w',Own w'.heap w.heap.size 34 1 sl ((gensF s.ks t).map (Value.int .u16))->Ext No w w'->K sl w'):C_vault_Vault_Gens v.p t w K:=by
 apply S_vault_Vault_Gens
 refine ⟨fun u=>w=u,none_spec V.b rfl (If.no (Nn.mk ⟨v.op,Cell.lst V.b rfl,by rw [ho]; exact If.not (If.yes rfl)⟩)),?_⟩
 rintro _ _ rfl
 exact Nn.mk ⟨s.rB,Cell.lst V.b rfl,gens_spec V.y.rn.r (by have:=V.y.rn.n; omega) h1 k⟩
set_option maxHeartbeats 1000000 in
theorem odd_spec{odd:Value}{c0:Nat}{m2:List Int}{K:Sl->Wd->Prop}(V:VtC w T v s)(hc:w.heap[c0]? = some (.cells [Value.pointer v.p].toArray 51 (0,0)))(fm:∀ i:Nat,2<=i->i < 100->s.D.firm.getD i []=if i=2 then m2 else if i=90 then f90 else zeroRow)
    (hm:¬ ∀ x∈m2,x=0) (hmB:B8 m2) (hml:m2.length=256)
    (hodd:∀(i:Int)(sl:Sl)(bl:List Int)(u:Wd)(Kb:Bool->Wd->Prop),Ext No w u->(i=2/\bl=m2∨i=90/\bl=f90)->RdB u.heap sl bl->(∀ u',Ext No u u'->Kb (decide (i=90)) u')->dynV pz true odd [.int .i64 i, .slice sl.a sl.len sl.cap] [.one .bool] Kb NoX u)
    (k:∀ out w',Own w'.heap w.heap.size 3 1 out [Value.int .i64 90]->Ext No w w'->K out w'):C_witness_Look_1 odd ⟨c0,0,none⟩ w K:=by
  apply S_witness_Look_1
  refine ⟨fun n out i u=>∃ j:Nat,i=2+(j:Int)/\j<=98/\n=98 - j/\Ext No w u/\Own u.heap w.heap.size 3 1 out (if j<=88 then [] else [Value.int .i64 90]),⟨_,0,rfl,Nat.zero_le _,rfl,Ext.refl _ _,Own.nil _ _ _ _⟩,?_⟩
  rintro _ n out i u ⟨j,rfl,hj,rfl,x,o⟩
  have Vu:=V.no x
  have hlo:out.len<=1:=by have:=o.len; split at this <;> simp at this <;> omega
  refine ⟨_,Cell.lst (get_no hc x) rfl,blocks_v Vu (If.dec (fun h=>?_) fun h=>?_)⟩
  · refine ⟨_,Cell.lst (get_no hc x) rfl,firm_v Vu (by omega) fun sl w3 o3 x3=>If.beq (fun _=>?_) fun h=>absurd rfl h⟩
    have e:s.D.firm.getD (2+(j:Int)).toNat []=if j=0 then m2 else if j=88 then f90 else zeroRow:=by
      have h1:(2+(j:Int)).toNat=j+2:=by omega
      rw [h1,fm _ (by omega) (by omega)]
      by_cases h2:j=0
      · rw [if_pos (by omega),if_pos h2]
      · rw [if_neg (by omega),if_neg h2]
        by_cases h3:j=88
        · rw [if_pos (by omega),if_pos h3]
        · rw [if_neg (by omega),if_neg h3]
    rw [e] at o3
    have x03:=x.no x3
    have f90B:B8 f90:=fun y hy=>by
      rcases List.mem_cons.1 hy with h | h
      · subst h; decide
      · rw [(List.mem_replicate.1 h).2]; decide
    have next:∀ u',Ext No w3 u'->j≠88->Ar .i64 (2+(j:Int)+1) fun z=>∃ m1,m1 < 98 - j/\∃ j':Nat,z=2+(j':Int)/\j'<=98/\m1=98 - j'/\Ext No w u'/\Own u'.heap w.heap.size 3 1 out (if j'<=88 then [] else [Value.int .i64 90]):=fun u' x' hne =>
      Ar.i64 (by omega) ⟨98 - (j+1),by omega,j+1,by push_cast; omega,by omega,rfl,x03.no x',by
        have o':=o.no (x3.no x')
        by_cases h4:j<=88
        · rw [if_pos h4] at o'; rw [if_pos (by omega)]; exact o'
        · rw [if_neg h4] at o'; rw [if_neg (by omega)]; exact o'⟩
    by_cases h0:j=0
    · rw [if_pos h0] at o3
      refine nought_spec o3 hmB (by rw [hml]; decide) ?_
      rw [decide_eq_false hm]
      refine If.not (If.no (hodd _ sl m2 w3 _ x03 (.inl ⟨by omega,rfl⟩) o3 fun u' x'=>?_))
      rw [decide_eq_false (by omega)]
      exact If.no (next u' x' (by omega))
    · rw [if_neg h0] at o3
      by_cases h88:j=88
      · rw [if_pos h88] at o3
        refine nought_spec o3 f90B (by simp) ?_
        rw [decide_eq_false (fun h=>by have:=h 1 List.mem_cons_self; exact absurd this (by decide))]
        refine If.not (If.no (hodd _ sl f90 w3 _ x03 (.inr ⟨by omega,rfl⟩) o3 fun u' x'=>?_))
        rw [decide_eq_true (by omega)]
        have o':=o.no (x3.no x')
        rw [if_pos (by omega)] at o'
        have xu':=x03.no x'
        refine If.yes (one_int (cs:=[]) o' xu'.size rfl (one1 rfl) (by omega) fun s7 w7 o7 l7 x7 _=>Ar.i64 (by omega) ⟨98 - (j+1),by omega,j+1,by push_cast; omega,by omega,rfl,xu'.trans x7 fun i hi e=>by have:=(o'.lt e).1; omega,?_⟩)
        rw [if_neg (by omega)]
        have e90:2+(j:Int)=90:=by omega
        rw [e90] at o7
        exact o7
      · rw [if_neg h88] at o3
        refine nought_spec o3 (B8.zeros 256) (by simp [zeroRow]) ?_
        rw [decide_eq_true (fun y hy=>by unfold zeroRow at hy; exact (List.mem_replicate.1 hy).2)]
        exact If.not (If.yes (next w3 (Ext.refl _ _) h88))
  · rw [if_neg (by omega)] at o
    exact k out u o x
end
end Go.Proofs.YtmbckodpbdlblaaGreat
namespace Go.Proofs.YtmbckodpbdlblaaGreat
open Go.V Go.V.Pk Go.V.Dk Go.V.Rn
theorem key3:KeyOK pz 3 (Value.int .i64):=int_key (by kernel_rfl)
theorem map86:Tryz.prog.underlying 86=some (.map 3 4):=by kernel_rfl
section
variable {w w':Wd} {T T':Nat->Nat} {v:VA} {s:SA}
theorem look_err{p:Option Addr}{e:Int}{K:Sl->Sl->Sl->Sl->Int->Wd->Prop}(he:e≠0)(hr:∀(u:Wd)(Kr:Sl->Int->Wd->Prop),Ext No w u->(∀ u',Ext No u u'->Kr ⟨none,0,0⟩ e u')->C_vault_Vault_Reached p u Kr)
  (k:∀ w',Ext No w w'->K ⟨none,0,0⟩ ⟨none,0,0⟩ ⟨none,0,0⟩ ⟨none,0,0⟩ e w'):C_witness_Look p w K:=by
 apply S_witness_Look
 refine fun b w1 n1 b1 w2 n2=>⟨_,Cell.lst (get_no n1.get n2.ext) rfl,hr w2 _ (n1.ext.no n2.ext) fun w3 x3=>If.bne (fun _=>⟨rfl,StN.mk (get_no n2.get x3) (Nat.le_refl 4) (oneL rfl) fun w4 h4=>?_⟩) fun h=>absurd h he⟩
 have g4:=h4.get (get_no n2.get x3)
 have a2:=n2.at_; have z1:=n1.size
 exact ⟨⟨none,0,0⟩,Cell.lst g4 rfl,⟨none,0,0⟩,Cell.lst g4 rfl,⟨none,0,0⟩,Cell.lst g4 rfl,⟨none,0,0⟩,Cell.lst g4 rfl,k w4 (((n1.ext.no n2.ext).no x3).out h4.ext (by show w.heap.size<=b1; omega))⟩
set_option maxHeartbeats 2000000 in
theorem look_spec{K:Sl->Sl->Sl->Sl->Int->Wd->Prop}(A:AftL w T v s)
  (k:∀ o1 o2 w',Rd w'.heap o1 1 [Value.int .i64 90]->Rd w'.heap o2 1 [Value.int .i64 90]->Ext No w w'->K ⟨none,0,0⟩ o1 o2 ⟨none,0,0⟩ 0 w'):C_witness_Look v.p w K:=by
 obtain ⟨k1,p1,r1,k2,p2,r2,hL,fm⟩:=A.lg
 obtain ⟨q,kq,q1,kk,hks⟩:=A.ks
 apply S_witness_Look
 refine fun b w1 n1 b1 w2 n2=>?_
 have x02:=n1.ext.no n2.ext
 have a1:=n1.at_; have z1:=n1.size; have a2:=n2.at_; have z2:=n2.size
 have tn2:∃ tb mk hs cp sb,v.ts=[(1, .pointer (some ⟨tb,0,none⟩))]/\w2.heap[tb]? = some (.cells (tnC mk hs cp sb).toArray 117 (0,0))/\w2.heap[sb]? = some (.map #[] 0)/\T tb=0/\T sb=0:=by
  obtain ⟨tb,mk,hs,cp,sb,e1,e2,e3,e4,e5⟩:=A.tn
  exact ⟨tb,mk,hs,cp,sb,e1,get_no e2 x02,get_no e3 x02,e4,e5⟩
 have gb2:=get_no n1.get n2.ext
 refine ⟨_,Cell.lst gb2 rfl,reached_spec (A.V.no x02) A.op A.mp tn2 A.pg fun sl w3 o3 x3=>If.bne (fun h=>absurd rfl h) fun _=>⟨_,Cell.lst (get_no gb2 x3) rfl,?_⟩⟩
 have V3:=(A.V.no x02).no x3
 refine log_spec V3 (twice_spec V3.y.lg.r (by have:=V3.y.lg.n; omega) (by rw [hL]; simp [LE.n]) fun w6 x6=>NewSt rfl rfl (oneL rfl) fun w8 g8 z8 x8=>fun b3 w9 n9 b4 w10 n10=>St1.mk n10.get Nat.one_pos rfl fun w11 h11=>?_)
 have a9:=n9.at_; have z9:=n9.size; have a10:=n10.at_; have z10:=n10.size
 have x10:Ext (·=b4) w10 w11:=h11.ext
 have z3:=x3.size; have z6:=x6.size
 have x811:Ext No w8 w11:=(n9.ext.no n10.ext).out x10 (by omega)
 have x311:Ext No w3 w11:=(x6.no x8).no x811
 have x011:Ext No w w11:=(x02.no x3).no x311
 have gb11:=get_no (get_no gb2 x3) x311
 have gb111:=get_no (get_no n2.get x3) x311
 have g811:=get_no g8 x811
 have gm11:w11.heap[b3]? = some (.map #[] 0):=get_ext (get_no n9.get n10.ext) x10 (by omega)
 have g411:=h11.get n10.get
 have m11:MapR w11.heap (Value.int .i64) b3 ([]:List (Int×Value)):=⟨#[],0,gm11,rfl,BornOK.nil⟩
 have z11:=x811.size
 have hsl:sl.len=1:=by have:=o3.len; simp at this; omega
 refine ⟨fun n t u=>(n=1/\t=0/\w11=u)∨(n=0/\t=1/\MapR u.heap (Value.int .i64) b3 [((2:Int), .bool true)]/\Ext (·=b3) w11 u),⟨1, .inl ⟨rfl,rfl,rfl⟩⟩,?_⟩
 rintro _ n t w12 (⟨rfl,rfl,rfl⟩ | ⟨rfl,rfl,m12,x12⟩)
 .refine If.dec (fun _=>?_) fun h=>absurd (by omega) h
  have o11:=(o3.no x311).rd
  refine Ix.elem (f:=fun _:Unit=>(⟨0,1,0,2,1,1⟩ : Lab).c) (l:=[()]) (by simpa using o11) (fun _ _=>rfl) (by decide) (by decide) (by omega) fun b' o' hi hb' hc=>?_
  refine ⟨_,hc 0 _ rfl,_,hc 1 _ rfl,_,hc 2 _ rfl,_,hc 3 _ rfl,_,hc 4 _ rfl,_,hc 5 _ rfl,NewSt rfl rfl (oneL rfl) fun w14 g14 z14 x14=>?_⟩
  obtain ⟨w15,h15,m15,x15,z15⟩:=run_mapUpdate (P:=pz) (a:=(2:Int)) (v := .bool true) key3 map86 (m11.ext x14 fun h=>h)
  rw [putA_new (fun p hp=>by cases hp)] at m15
  have x1115:Ext (·=b3) w11 w15:=x14.of_no.trans x15 fun i _ e=>e
  have x015:Ext No w w15:=x011.trans x1115 fun i hi e=>by omega
  have lm:=map_lt m11
  have g515:=get_ext g14 x15 (by omega)
  refine ⟨some b3,Cell.lst (get_no g411 x14) rfl,2,Cell.lst g14 rfl,Ar.i64 (by decide) ⟨w15,h15,_,Cell.lst (get_ext gb11 x1115 (by omega)) rfl,0,Cell.lst g515 rfl,?_⟩⟩
  refine gens_v (A.V.no x015) A.op (by rw [hks]; exact Nat.le_refl 1) fun s16 w16 o16 x16=>?_
  have eg:gensF s.ks 0=[1]:=by rw [hks]; rfl
  rw [eg] at o16
  have h16:s16.len=1:=by have:=o16.len; simpa using this.symm
  have xd:Ext No w16 (drewW w16):=(Ext.refl _ _).drew
  have g516:=get_no g515 x16
  refine ⟨fun t u=>false=t/\drewW w16=u,⟨Ext No w16,xd,If.beq (fun h=>by omega) fun _=>Ar.i64 (by omega) (Ix.int o16.rd (by omega) (by omega) fun bb oo _ hcell=>⟨_,Held.but hcell (fun h=>h),1,Held.but (Cell.lst g516 rfl) (fun h=>h),?_,rfl⟩)⟩,?_⟩
  .have:((s16.len:Int) - 1).toNat=0:=by omega
   rw [this]; rfl
  rintro _ _ _ ⟨rfl,rfl⟩
  exact If.no (Ar.i64 (by decide) ⟨0,by decide, .inr ⟨rfl,rfl,m15.ext (x16.no xd) fun h=>h,x1115.trans (x16.no xd).of_no fun i _ h=>h⟩⟩)
 refine If.dec (fun h=>absurd h (by omega)) fun _=>?_
 have x012:Ext No w w12:=x011.trans x12 fun i hi e=>by omega
 have z12:=x12.size
 have gb12:=get_ext gb11 x12 (by omega)
 have gb112:=get_ext gb111 x12 (by omega)
 have g412:=get_ext g411 x12 (by omega)
 have g812:=get_ext g811 x12 (by omega)
 have hmem:(⟨⟨0,1,0,2,1,1⟩,k1,p1,magic++r1⟩ : LE)∈s.L:=by rw [hL]; exact List.mem_cons_self
 have hB:B8 (magic++r1):=A.V.y.lg.r.b8 _ hmem
 have f90B:B8 f90:=fun y hy=>by
  rcases List.mem_cons.1 hy with h | h
  .subst h; decide
  .rw [(List.mem_replicate.1 h).2]; decide
 have hrow:(magic++r1).length=256:=by
  have h2:=fm 2 (by decide) (by decide)
  rw [if_pos rfl] at h2
  have hn:2 < s.D.firm.length:=by rw [A.V.y.dk.r.wf.n,A.V.y.dk.c.n]; decide
  have:=A.V.y.dk.r.wf.rf (s.D.firm[2]) (List.getElem_mem hn)
  rw [<- h2,List.getD_eq_getElem?_getD,List.getElem?_eq_getElem hn]
  exact this.1
 have hm:¬ ∀ x∈magic++r1,x=0:=fun h=>absurd (h 67 (by simp)) (by decide)
 refine V_witness_Look_1 (odd_spec (A.V.no x012) gb12 fm hm hB hrow (fun i sl' bl u Kb xu hi hbl hk=>V_witness_Look_2 (S_witness_Look_2 ⟨_,Cell.lst (get_no gb12 xu) rfl,log_spec ((A.V.no x012).no xu) ?_⟩)) fun out1 w21 o21 x21=>?_)
 .have Vu:=(A.V.no x012).no xu
  refine logHas_spec Vu.y.lg.r hbl (by rcases hi with ⟨_,rfl⟩ | ⟨_,rfl⟩ <;> assumption) (by have:=Vu.y.lg.n; omega) fun u' x'=>?_
  have e:(!decide (∃ e∈s.L,e.blk=bl))=decide (i=90):=by
   rcases hi with ⟨rfl,rfl⟩ | ⟨rfl,rfl⟩
   .rw [decide_eq_true ⟨_,hmem,rfl⟩]; decide
   .rw [decide_eq_false]; · decide
    rw [hL]
    rintro ⟨e,he,h⟩
    simp only [List.mem_cons,List.not_mem_nil,or_false] at he
    rcases he with rfl | rfl <;> exact absurd (congrArg (fun l=>l.headD 0) h) (by simp)
  rw [e]; exact hk u' x'
 have z21:=x21.size
 refine St1.mk (get_no g812 x21) (Nat.le_of_ble_eq_true rfl) rfl fun w22 h22=>?_
 have x22:Ext (·=w6.heap.size) w21 w22:=h22.ext
 have g822:=h22.get (get_no g812 x21)
 have x022:Ext No w w22:=(x012.no x21).trans x22 fun i hi e=>by omega
 have l12:=hlt g412
 have m22:=(m12.ext x21 fun h=>h).ext x22 (by omega)
 have gb22:=get_ext (get_no gb12 x21) x22 (by omega)
 have g422:=get_ext (get_no g412 x21) x22 (by omega)
 refine V_witness_Look_1 (odd_spec (A.V.no x022) gb22 fm hm hB hrow (fun i sl' bl u Kb xu hi hbl hk=>V_witness_Look_3 (S_witness_Look_3 ⟨some b3,Cell.lst (get_no g422 xu) rfl,?_⟩)) fun out2 w23 o23 x23=>?_)
 .have hlk:=run_lookup (P:=pz) (a:=i) key3 map86 (lookB u) (m22.ext xu fun h=>h)
  have hk:=hk u (Ext.refl _ _)
  rcases hi with ⟨rfl,_⟩ | ⟨rfl,_⟩
  .rw [show decide ((2:Int)=90)=!true from by decide] at hk
   exact ⟨true,u,hlk,hk⟩
  .rw [show decide ((90:Int)=90)=!false from by decide] at hk
   exact ⟨false,u,hlk,hk⟩
 have z22:=x22.size; have z23:=x23.size
 refine St1.mk (get_no g822 x23) (Nat.le_of_ble_eq_true rfl) rfl fun w24 h24=>?_
 have x24:Ext (·=w6.heap.size) w23 w24:=h24.ext
 have g824:=h24.get (get_no g822 x23)
 have gb124:=get_ext (get_no (get_ext (get_no gb112 x21) x22 (by have:=hlt n2.get; omega)) x23) x24 (by have:=hlt n2.get; omega)
 refine ⟨⟨none,0,0⟩,Cell.lst g824 rfl,out1,Cell.lst g824 rfl,out2,Cell.lst g824 rfl,⟨none,0,0⟩,Cell.lst g824 rfl,rfl,StN.mk gb124 (Nat.le_refl 4) (oneL rfl) fun w25 h25=>?_⟩
 have x25:Ext (·=b1) w24 w25:=h25.ext
 have g25:=h25.get gb124
 have r1':Rd w25.heap out1 1 [Value.int .i64 90]:=((((o21.ext x22 fun i hi e=>by have:=(o21.lt hi).1; omega).no x23).ext x24 fun i hi e=>by have:=(o21.lt hi).1; omega).ext x25 fun i hi e=>by have:=(o21.lt hi).1; have:=hlt n2.get; omega).rd
 have r2':Rd w25.heap out2 1 [Value.int .i64 90]:=((o23.ext x24 fun i hi e=>by have:=(o23.lt hi).1; omega).ext x25 fun i hi e=>by have:=(o23.lt hi).1; have:=hlt n2.get; omega).rd
 exact ⟨⟨none,0,0⟩,Cell.lst g25 rfl,out1,Cell.lst g25 rfl,out2,Cell.lst g25 rfl,⟨none,0,0⟩,Cell.lst g25 rfl,k out1 out2 w25 r1' r2' (((x022.no x23).out x24 (by omega)).out x25 (by omega))⟩
end
end Go.Proofs.YtmbckodpbdlblaaGreat
namespace Go.Proofs.YtmbckodpbdlblaaGreat
open Go.V Go.V.Pk Go.V.Dk Go.V.Rn
section
variable {w w':Wd} {T T':Nat->Nat} {v:VA} {s:SA}
theorem secret_spec{K:Sl->Wd->Prop}(k:∀ sl w',RdB w'.heap sl (List.replicate 16 97)->sl.len=16->(∀ i,sl.blk=some i->w.heap.size<=i)->Ext No w w'->K sl w'):C_law28_secret w K:=by
 apply S_law28_secret
 refine fun b w1 n1=>?_
 obtain ⟨w2,hr,x2,hz2,fz,hb2⟩:=conv22 (n:=16) (c:=16) n1.get
 refine ⟨⟨some ⟨b,0,none⟩,16,16⟩,w2,hr,k _ w2 ?_ rfl (fun i hi=>?_) (n1.ext.out x2 (by rw [n1.at_]; exact Nat.le_refl _))⟩
 .refine ⟨rfl,Nat.le_refl _,fun _=>⟨b,0,rfl,fun i hi=>?_⟩,fun v hv=>oneC_ints v hv⟩
  have hi':i < 16:=by simpa using hi
  unfold hcell
  rw [hb2]
  have:i=0∨i=1∨i=2∨i=3∨i=4∨i=5∨i=6∨i=7∨i=8∨i=9∨i=10∨i=11∨i=12∨i=13∨i=14∨i=15:=by omega
  rcases this with rfl | rfl | rfl | rfl | rfl | rfl | rfl | rfl | rfl | rfl | rfl | rfl | rfl | rfl | rfl | rfl <;> rfl
 .have:b=i:=by simp [Sl.blk] at hi; exact hi
  rw [<- this,n1.at_]; exact Nat.le_refl _
theorem same90{a b:Sl}{K:Bool->Wd->Prop}(ha:Rd w.heap a 1 [Value.int .i64 90])(hb:Rd w.heap b 1 [Value.int .i64 90])(k:∀ w',Ext No w w'->K true w'):C_ref28_Same a b w K:=by
 apply S_ref28_Same
 have h1:a.len=1:=by have:=ha.len; simpa using this.symm
 have h2:b.len=1:=by have:=hb.len; simpa using this.symm
 refine If.bne (fun h=>absurd (by rw [h1,h2]) h) fun _=>⟨fun n i u=>(n=1/\i=0/\w=u)∨(n=0/\i=1/\Ext No w u),⟨1, .inl ⟨rfl,rfl,rfl⟩⟩,?_⟩
 rintro _ n i u (⟨rfl,rfl,rfl⟩ | ⟨rfl,rfl,x⟩)
 .have xd:Ext No w (drewW w):=(Ext.refl _ _).drew
  exact If.dec (fun _=>⟨Ext No w,xd,Ix.int (k := .i64) (l:=[90]) ha (by decide) (by omega) fun b1 o1 _ c1=>⟨_,Held.but c1 (fun h=>h),Ix.int (k := .i64) (l:=[90]) hb (by decide) (by omega) fun b2 o2 _ c2=>⟨_,Held.but c2 (fun h=>h),If.bne (fun h=>absurd rfl h) fun _=>Ar.i64 (by decide) ⟨0,by decide, .inr ⟨rfl,rfl,xd⟩⟩⟩⟩⟩) fun h=>absurd (by omega) h
 .exact If.dec (fun h=>absurd h (by omega)) fun _=>k u x
abbrev pC(P:List (Sl×List Int)):List Value:=P.flatMap fun p=>slC p.1
set_option maxHeartbeats 1000000 in
theorem made_spec{K:Option Addr->Bool->Wd->Prop}(k:∀ T' v s q kq l ls w',VtC w' T' v s->v.mp=mp1->v.op=true->v.ts=[]->s.D=newD 100->s.R=⟨s.R.dev,1000,0,0,l::ls⟩->l.length=16->s.ks=[⟨⟨0,1⟩,q,kq⟩]->kq.length=32->s.L=[]->s.F=[(2,100)]->s.ps=[]->s.cm=0->s.la=0->(∀ i,i < w.heap.size->T' i=0)->Ext No w w'->K v.p true w'):C_law28_made w K:=by
 apply S_law28_made
 refine MkW.arr (sz:=1) (n:=32) (k := .u8) rfl rfl (by decide) (by decide) fun kb w1 ak hkb x1 z1=>fun b w2 n2=>⟨rfl,?_⟩
 refine StN.mk n2.get (Nat.le_refl 4) (oneL rfl) fun w3 h3=>?_
 have a2:=n2.at_; have z2:=n2.size
 have g3:=h3.get n2.get
 have x3:Ext No w w3:=(x1.no n2.ext).out h3.ext (by show w.heap.size<=b; omega)
 have lb3:=hlt g3
 have ak3:w3.heap[kb]? = some (.cells ((List.replicate 32 (0:Int)).map (Value.int .u8)).toArray 5 (0,0)):=get_ext (get_no ak n2.ext) h3.ext (by show kb≠b; omega)
 refine ⟨fun n i u=>∃ (P:List (Sl×List Int)) (dr:Sl),i=(P.length:Int)/\P.length<=60/\n=60 - P.length/\Ext (·=b) w3 u/\u.heap[b]? = some (.cells [Value.int .i64 100, .int .u64 1000,dr.v, .slice (some ⟨kb,0,none⟩) 32 32].toArray 27 (0,0))/\Own u.heap w3.heap.size 22 1 dr (pC P)/\∀ p∈P,RdB u.heap p.1 p.2/\p.2.length=16/\B8 p.2/\∀ i,p.1.blk=some i->w3.heap.size<=i/\i < u.heap.size/\dr.blk≠some i,⟨_,[],⟨none,0,0⟩,rfl,Nat.zero_le _,rfl,Ext.refl _ _,g3,Own.nil _ _ _ _,fun p h=>(nomatch h)⟩,?_⟩
 rintro _ n i w4 ⟨P,dr,rfl,hP,rfl,x4,g4,o4,hp4⟩
 have z4:=x4.size
 refine If.dec (fun h=>?_) fun h=>?_
 .refine MkW.arr (sz:=1) (n:=16) (k := .u8) rfl rfl (by decide) (by decide) fun nb w5 a5 hnb x5 z5=>Ar.i64 (by omega) (Ar.u8 (by omega) (Ix.arr (by decide) (by show (0:Int) < 16; decide) ?_))
  have a5':w5.heap[nb]? = some (.cells ((List.replicate 16 (0:Int)).map (Value.int .u8)).toArray 5 (0,0)):=a5
  refine St1.mk a5' (by decide) rfl fun w6 h6=>?_
  have x6:Ext (·=nb) w5 w6:=h6.ext
  have g6:=get_ext (get_no g4 x5) x6 (by omega)
  have r6:RdB w6.heap ⟨some ⟨nb,0,none⟩,16,16⟩ ((List.replicate 16 (0:Int)).set 0 ((P.length:Int)+1)):=by
   have a6:ArrR w6.heap nb 5 .u8 ((List.replicate 16 (0:Int)).set 0 ((P.length:Int)+1)):=by
    show w6.heap[nb]? = _
    rw [List.map_set]; exact h6.get a5'
   have h1:=a6.rd (o:=0) (n:=16) (c:=16) (by simp) (Nat.le_refl _)
   rw [List.drop_zero,List.take_of_length_le (by simp)] at h1
   exact h1
  have o6:Own w6.heap w3.heap.size 22 1 dr (pC P):=(o4.no x5).ext x6 fun i hi e=>by have:=(o4.lt hi).2; omega
  have hlen:dr.len<=60:=by have:=o4.len; have:=flat_len' (f:=fun p:Sl×List Int=>slC p.1) (n:=1) (l:=P) (fun _ _=>rfl); simp only [pC] at *; omega
  have x46:Ext No w4 w6:=x5.out x6 (by omega)
  have z6:=x46.size; have l6:=x6.size
  refine ⟨dr,Cell.lst g6 rfl,one_sl_uint8 o6 (by omega) rfl (one1 rfl) (by omega) fun d2 w8 o8 l8 x8 hd8=>?_⟩
  have nbd:dr.blk≠some b:=fun e=>by have:=(o4.lt e).1; omega
  have g8:=get_ext g6 x8 nbd
  refine St1.mk g8 (Nat.le_of_ble_eq_true rfl) rfl fun w9 h9=>?_
  have x9:Ext (·=b) w8 w9:=h9.ext
  have z8:=x8.size; have z9:=x9.size
  have lbz:b < w3.heap.size:=lb3
  refine Ar.i64 (by omega) ⟨60 - (P.length+1),by omega,P++[(⟨some ⟨nb,0,none⟩,16,16⟩,(List.replicate 16 (0:Int)).set 0 ((P.length:Int)+1))],d2,by simp,by simp; omega,by simp,?_,h9.get g8,?_,fun p hp=>?_⟩
  .exact (((x4.trans x46.of_no fun i _ h=>h).trans x8 fun i hi e=>by have:=(o4.lt e).1; omega).trans x9 fun i _ e=>e)
  .have o9:=o8.ext x9 fun i hi e=>by have:=(o8.lt hi).1; omega
   simpa [pC] using o9
  .have keep:∀(q:Sl)(x:List Int),RdB w6.heap q x->(∀ i,q.blk=some i->w3.heap.size<=i/\dr.blk≠some i)->RdB w9.heap q x:=fun q x hq hb =>
    (hq.ext x8 fun p i hp hi e=>(hb i (by simp [Sl.blk,hp,hi])).2 e).ext x9 fun p i hp hi e=>by have:=(hb i (by simp [Sl.blk,hp,hi])).1; omega
   have dn:∀ i,i < w6.heap.size->dr.blk≠some i->d2.blk≠some i:=fun i hi h=>by
    rcases hd8 with e | ⟨b',e,hb'⟩
    .rw [e]; exact h
    .rw [e]; intro e2; have:=Option.some.inj e2; omega
   rcases List.mem_append.1 hp with h | h
   .obtain ⟨h1,h2,h3',h4⟩:=hp4 p h
    refine ⟨keep p.1 p.2 (Rd.no h1 x46) fun i hi=>⟨(h4 i hi).1,(h4 i hi).2.2⟩,h2,h3',fun i hi=>⟨(h4 i hi).1,by have:=(h4 i hi).2.1; omega,dn i (by have:=(h4 i hi).2.1; omega) (h4 i hi).2.2⟩⟩
   .simp only [List.mem_singleton] at h; subst h
    have ln:=hlt a5'
    have nn:dr.blk≠some nb:=fun e=>by have:=(o4.lt e).2; omega
    refine ⟨keep _ _ r6 fun i hi=>?_,by simp,fun y hy=>?_,fun i hi=>?_⟩
    .have:nb=i:=by simp [Sl.blk] at hi; exact hi
     subst this; exact ⟨by omega,nn⟩
    .rcases List.mem_or_eq_of_mem_set hy with h' | h'
     .rw [(List.mem_replicate.1 h').2]; decide
     .subst h'; omega
    .have:nb=i:=by simp [Sl.blk] at hi; exact hi
     subst this; exact ⟨by omega,by omega,dn nb (by omega) nn⟩
 .have hP60:P.length=60:=by omega
  refine ⟨100,Cell.lst g4 rfl,1000,Cell.lst g4 rfl,dr,Cell.lst g4 rfl,⟨some ⟨kb,0,none⟩,32,32⟩,Cell.lst g4 rfl,?_⟩
  have ak4:ArrR w4.heap kb 5 .u8 (List.replicate 32 0):=get_ext ak3 x4 (by show kb≠b; omega)
  have rk:RdB w4.heap ⟨some ⟨kb,0,none⟩,32,32⟩ (List.replicate 32 0):=by
   have h1:=ak4.rd (o:=0) (n:=32) (c:=32) (by simp) (Nat.le_refl _)
   rw [List.drop_zero,List.take_of_length_le (by simp)] at h1
   exact h1
  have hL:RdL w4.heap dr (P.map Prod.snd):=⟨⟨P.map Prod.fst,by have:=o4.rd; simpa [pC,List.flatMap_map] using this,by simp,fun j h1 h2=>by
   have hj:j < P.length:=by simpa using h1
   have:=(hp4 P[j] (List.getElem_mem hj)).1
   simpa using this⟩,fun l hl=>by
    obtain ⟨p,hp,rfl⟩:=List.mem_map.1 hl
    exact (hp4 p hp).2.2.1⟩
  have hlen:∀ l∈P.map Prod.snd,l.length=16:=fun l hl=>by
   obtain ⟨p,hp,rfl⟩:=List.mem_map.1 hl
   exact (hp4 p hp).2.1
  obtain ⟨l,ls,hls⟩ : ∃ l ls,P.map Prod.snd=l::ls:=by
   cases hq:P.map Prod.snd with
   | nil=>have h:=congrArg List.length hq; rw [List.length_map,List.length_nil] at h; omega
   | cons l ls=>exact ⟨l,ls,rfl⟩
  rw [hls] at hL hlen
  refine vnew_spec rk (B8.zeros 32) rfl hL (by have h:=congrArg List.length hls; rw [List.length_map] at h; omega) (fun l hl=>by rw [hlen l hl]; decide) fun T' v s q kq w' V e1 e2 e3 e4 e5 e6 e7 e8 e9 e10 e11 e12 ht x'=>?_
  have x04:Ext No w w4:=x3.trans x4 fun i hi e=>by omega
  exact k T' v s q kq l ls w' V e1 e2 e3 e4 e5 (hlen l List.mem_cons_self) e6 e7 e8 e9 e10 e11 e12 (fun i hi=>ht i (by have:=x04.size; omega)) (x04.no x')
end
end Go.Proofs.YtmbckodpbdlblaaGreat
namespace Go.Proofs.YtmbckodpbdlblaaGreat
open Go.V Go.V.Pk Go.V.Dk Go.V.Rn
section
variable {w w':Wd}
theorem one8{u:Wd}{b:Nat}{o:Wd}{x:Int}(n:New o (.cells [Value.int .u8 x].toArray 5) b u):RdB u.heap ⟨some ⟨b,0,none⟩,1,1⟩ [x]:=(Own.new (n:=1) (sz:=1) n rfl (oneL rfl)).rd
theorem oneI{u:Wd}{b:Nat}{o:Wd}{x:Int}(n:New o (.cells [Value.int .i64 x].toArray 3) b u):Rd u.heap ⟨some ⟨b,0,none⟩,1,1⟩ 1 [Value.int .i64 x]:=(Own.new (n:=1) (sz:=1) n rfl (oneL rfl)).rd
set_option maxHeartbeats 1000000 in
theorem known_spec{K:Bool->Wd->Prop}(k:∀ w',Ext No w w'->K true w'):C_law28_known w K:=by
 apply S_law28_known
 refine made_spec fun T v s q kq l ls w1 V e1 e2 e3 e4 e5 el e6 e7 e8 e9 e10 e11 e12 ht x1=>?_
 obtain ⟨vb,ky,kl,op,mp,al,ts⟩:=v
 obtain ⟨d,D,g,⟨dev,lim,res,com,drs⟩,rb,mb,ks,lb,ls',L,pb,fr,F,kb,ps,wb,nb,pm,dm,pu,cm,la,fl⟩:=s
 simp only at e1 e2 e3 e4 e6 e8 e9 e10 e11 e12
 simp only [RS.mk.injEq,true_and] at e5
 obtain ⟨e51,e52,e53,e54⟩:=e5
 subst e1 e2 e3 e4 e6 e8 e9 e10 e11 e12 e51 e52 e53 e54
 refine ⟨fun u=>∃ T' v' s',AftL u T' v' s'/\v'.vb=vb/\Ext No w u,If.not (If.yes (secret_spec fun sl w2 rs hsl hsb x2=>?_)),?_⟩
 .have V2:=V.no x2
  refine do_create V2 e7 (by omega) rs (fun y hy=>by rw [(List.mem_replicate.1 hy).2]; decide) hsl (fun i hi=>V.y.out i (hsb i hi)) fun T3 v3 s3 w3 A hv st=>If.bne (fun h=>absurd rfl h) fun _=>fun b w4 n4=>?_
  have A4:=A.no n4.ext
  have x03:Ext No w w3:=(x1.no x2).trans st.x fun i hi h=>h (ht i hi)
  have hf:=foreign_spec (K:=?_) A4 (one8 n4) (fun i hi=>by
   have:b=i:=by simp [Sl.blk] at hi; exact hi
   subst this; exact A.V.y.out b (by rw [n4.at_]; exact Nat.le_refl _)) ?_
  .have hp:v3.p=some ⟨vb,0,none⟩:=by show some (Addr.mk v3.vb 0 none)=_; rw [hv]
   rw [hp] at hf; exact hf
  intro T5 s5 w5 A5 st5
  refine If.bne (fun h=>absurd rfl h) fun _=>⟨T5,v3,s5,A5,hv,?_⟩
  have z3:=st.z
  exact (x03.no n4.ext).trans st5.x fun i hi h=>h (st.z i (by have:=(x1.no x2).size; omega) (ht i hi))
 rintro _ w6 ⟨T6,v6,s6,A6,hv6,x06⟩
 have hlk:=look_spec (K:=?_) A6 ?_
 .have hp:v6.p=some ⟨vb,0,none⟩:=by show some (Addr.mk v6.vb 0 none)=_; rw [hv6]
  rw [hp] at hlk; exact hlk
 intro o1 o2 w7 r1 r2 x7
 refine NewSt rfl rfl (oneL rfl) fun w9 g9 z9 x9=>If.beq (fun _=>⟨⟨none,0,0⟩,Cell.lst g9 rfl,If.beq (fun _=>⟨o1,Cell.lst g9 rfl,fun b2 w10 n10=>?_⟩) fun h=>absurd rfl h⟩) fun h=>absurd rfl h
 refine same90 ((r1.no x9).no n10.ext) (oneI n10) fun w11 x11=>If.yes ⟨o2,Cell.lst (get_no g9 (n10.ext.no x11)) rfl,fun b3 w12 n12=>?_⟩
 refine same90 (((r2.no x9).no (n10.ext.no x11)).no n12.ext) (oneI n12) fun w13 x13=>If.yes ⟨⟨none,0,0⟩,Cell.lst (get_no g9 ((n10.ext.no x11).no (n12.ext.no x13))) rfl,?_⟩
 exact k w13 ((x06.no x7).no (x9.no ((n10.ext.no x11).no (n12.ext.no x13))))
theorem none_zero{b:Nat}{cs:List Value}{T:TypeId}{K:Bool->Wd->Prop}(h:w.heap[b]? = some (.cells cs.toArray T (0,0)))(hd:cs[4]? = some (.pointer none))(k:K true w):C_vault_Vault_none (some ⟨b,0,none⟩) w K:=by
 apply S_vault_Vault_none
 exact If.no (Nn.mk ⟨none,Cell.lst h hd,k⟩)
set_option maxHeartbeats 1000000 in
theorem witnessNone_spec{masks:Sl}{ms:List Int}{K:Bool->Wd->Prop}(hm:RdB w.heap masks ms)(h8:B8 ms)(k:∀ w',Ext No w w'->K true w'):C_law28_WitnessNone masks w K:=by
 apply S_law28_WitnessNone
 refine If.dec (fun _=>known_spec k) fun _=>fun b w2 n2=>?_
 refine look_err (e:=1) (by decide) (fun u Kr xu hk=>reached_nil hk fun u' Kn _ h=>none_nil h) fun w3 x3=>?_
 refine NewSt rfl rfl (oneL rfl) fun w5 g5 z5 x5=>?_
 have x25:=x3.no x5
 refine look_err (e:=1) (by decide) (fun u Kr xu hk=>reached_nil hk fun u' Kn xu' h=>none_zero (get_no n2.get (x25.no (xu.no xu'))) rfl h) fun w6 x6=>?_
 refine NewSt rfl rfl (oneL rfl) fun w8 g8 z8 x8=>?_
 have x08:Ext No w w8:=((n2.ext.no x25).no x6).no x8
 refine made_spec fun T v s q kq l ls w9 V e1 e2 e3 e4 e5 el e6 e7 e8 e9 e10 e11 e12 ht x9=>?_
 have x09:=x08.no x9
 refine ⟨fun u=>∃ T' v' s',VtC u T' v' s'/\v'.vb=v.vb/\v'.op=false/\Ext No w u,If.not (If.yes (S_vault_Vault_Crash (none_spec V.b rfl (If.no (Nn.mk (St1.mk V.b (Nat.le_of_ble_eq_true rfl) rfl fun w10 h10=>?_)))))),?_⟩
 .have V10:=V.put (op:=false) (mp:=v.mp) (h10.get V.b) h10.ext
  have x10:Ext (·=v.vb) w9 w10:=h10.ext
  have tvb:∀ i,i < w8.heap.size->i≠v.vb:=fun i hi e=>by have:=V.tb; rw [<- e,ht i hi] at this; exact absurd this (by decide)
  have x010:Ext No w w10:=x09.trans x10 fun i hi e=>tvb i (by have:=x08.size; omega) e
  have c:=V10.y.dk.c
  have hw0:s.D.waits=[]:=by rw [e4]; rfl
  refine Nn.mk ⟨s.d.p,Cell.lst V10.b rfl,diskCrash_spec V10.y.dk.r (Rd.no hm x010) h8 (fun hne i hi h=>?_) (by rw [hw0]; exact Nat.zero_le _) fun d' w11 r11 g11 x11=>If.bne (fun h=>absurd rfl h) fun _=>?_⟩
  .have h1:=V10.y.dk.t i h
   have h2:i < w.heap.size:=Rd.lt hm (by simpa using hne) hi
   rw [ht i (by have:=x08.size; omega)] at h1; exact absurd h1 (by decide)
  have cal:Calm (crashD s.D ms):=by
   refine ⟨?_,rfl,rfl,rfl,c.st,Nat.zero_le _⟩
   show (crashF s.D.firm s.D.waits ms).length=100
   rw [hw0,show crashF s.D.firm [] ms=s.D.firm by cases ms <;> rfl,V10.y.dk.r.wf.n]; exact c.n
  obtain ⟨y',st⟩:=V10.y.disk r11 g11 x11 cal
  refine ⟨_,_,_,V10.sy st y' rfl rfl rfl rfl rfl,rfl,rfl,x010.trans x11 fun i hi h=>?_⟩
  have h1:=V10.y.dk.t i h
  rw [ht i (by have:=x08.size; omega)] at h1; exact absurd h1 (by decide)
 rintro _ w11 ⟨T11,v11,s11,V11,hv,hop,x011⟩
 have hp:v11.p=v.p:=by show some (Addr.mk v11.vb 0 none)=some (Addr.mk v.vb 0 none); rw [hv]
 refine look_err (e:=190) (by decide) (fun u Kr xu hk=>by rw [<- hp]; exact reached_shut (V11.no xu) hop hk) fun w12 x12=>?_
 refine NewSt rfl rfl (oneL rfl) fun w14 g14 z14 x14=>?_
 refine If.beq (fun _=>If.beq (fun _=>If.beq (fun _=>⟨⟨none,0,0⟩,Cell.lst g14 rfl,⟨none,0,0⟩,Cell.lst g14 rfl,Ar.i64 (by decide) ⟨⟨none,0,0⟩,Cell.lst g14 rfl,Ar.i64 (by decide) ⟨⟨none,0,0⟩,Cell.lst g14 rfl,Ar.i64 (by decide) (If.beq (fun _=>known_spec fun w15 x15=>k w15 (((x011.no x12).no x14).no x15)) fun h=>absurd rfl h)⟩⟩⟩) fun h=>absurd rfl h) fun h=>absurd rfl h) fun h=>absurd rfl h
end
end Go.Proofs.YtmbckodpbdlblaaGreat
