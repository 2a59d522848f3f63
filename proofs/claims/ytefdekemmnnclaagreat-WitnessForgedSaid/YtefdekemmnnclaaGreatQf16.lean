/- Texts for LWitnessForged, part 16. -/
import Derived.RangeFuncRecord
import Derived.RangeFuncLeaves
import Derived.Test.YtefdekemmnnclaaGreatQf15
namespace Go.V
def dU(l:Nat)(rf:Loop)(st:LoopState)(p:Option Code)(w:Wd):Prop:=w.heap[l]? = some (.loop { rf with state:=st,pending:=p })
def aN(l:Nat)(rf:Loop)(st:LoopState)(p:Option Code)(w:Wd):Wd:=w.putObj l (.loop { rf with state:=st,pending:=p })
structure BJ(w:Wd)(rf:Loop)(Dk l:Nat)(w1:Wd):Prop where
 d:Dk=w.heap.size
 l:l=w.heap.size+1
 is:w1=(World.cI (World.cI w (.deferred (some []))) (.loop { rf with state:= .ready,pending:=none }))
def gT(Dk:Nat)(w:Wd):Prop:=w.heap[Dk]? = some (.deferred (some []))
def bN(Dk:Nat)(w:Wd):Wd:=w.putObj Dk (.deferred none)
def F9:Option Nat->Code
 | none=> .ret
 | some i=> .exit i
def ab0:Option Nat->Exit
 | none=> .ret
 | some i=> .exit i
def eqJ:Option Nat->Option Nat->Bool
 | none,none=>true
 | some i,some j=>Nat.beq i j
 | _,_=>false
def YN:List (Option Nat)->Option Nat->Bool
 | [],_=>false
 | j::r,i=>bif eqJ j i then true else YN r i
def N2(l:Nat)(rf:Loop)(js:List (Option Nat))(K':Bool->Pw)(j:Option Nat)(w:Wd):Prop:=
 bif YN js j then dU l rf .busy none w/\K' false (aN l rf .done (some (F9 j)) w) else False
def YO(l:Nat)(rf:Loop)(js:List (Option Nat))(K':Bool->Pw):Exit->Env->Pw
 | .normal,_,w=>dU l rf .busy none w/\K' true (aN l rf .ready none w)
 | .ret,_,w=>N2 l rf js K' none w
 | .exit i,_,w=>N2 l rf js K' (some i) w
 | _,_,_=>False
def noE:Exit->Env->Pw:=fun _ _ _=>False
def Sf(l:Nat)(rf:Loop)(Q:Exit->Env->Pw)(ρ:Env)(w3:Wd):List (Option Nat)->Prop
 | []=>dU l rf .ready none w3/\Q .normal ρ (aN l rf .exhausted none w3)
 | j::r=>(dU l rf .done (some (F9 j)) w3/\Q (ab0 j) ρ (aN l rf .exhausted (some (F9 j)) w3))∨Sf l rf Q ρ w3 r
def UR:List Ab->(List Value->Prop)->Prop
 | [],F=>F []
 | .one s::r,F=>∀x:s.T,UR r fun vs=>F (s.mk x::vs)
 | .row k n::r,F=>∀l:List Int,l.length=n->UR r fun vs=>F (l.map (Value.int k)++vs)
def Wt:Ty->(Value->Prop)->Prop
 | .one s,F=>∀x:s.T,F (s.mk x)
 | .agg l,F=>UR l fun vs=>F (.agg vs.toArray)
 | .bad,F=>∀v,F v
theorem H5:∀(l:List Ab){F:List Value->Prop},(∀vs,F vs)->UR l F
 | [],_,h=>h []
 | .one _::r,_,h=>fun _=>H5 r fun _=>h _
 | .row _ _::r,_,h=>fun _ _=>H5 r fun _=>h _
theorem Sg:∀(y:Ty){F:Value->Prop},(∀v,F v)->Wt y F
 | .one _,_,h=>fun _=>h _
 | .agg l,_,h=>H5 l fun _=>h _
 | .bad,_,h=>h
def YP:List (Nat×Ty)->Env->(List Value->Env->Prop)->Prop
 | [],ρ,F=>F [] ρ
 | (t,y)::r,ρ,F=>Wt y fun v=>YP r (put ρ t v) (fun vs ρ'=>F (v::vs) ρ')
structure RfA where
 Wu:List (Nat×Ty)
 js:List (Option Nat)
 US:sV
 UT:sV
def rfW(P:Program)(pk:Nat)(A:RfA)(g:Operand)(ars bd:Code)(Q:Nat->Exit->Env->Pw)(ρ:Env)(w:Wd):Prop:=
 ∀(rf:Loop)(Dk l:Nat)(w1:Wd),BJ w rf Dk l w1->
  (YP A.Wu ρ fun args ρ'=>∀(W:Wd)(K':Bool->Pw),dU l rf .ready none W->uj P pk (fun _ _=>False) A.US ars (ui (fun ρ2 W2=>dU l rf .ready none W2/\uj P pk (fun _ _=>False) A.UT bd (YO l rf A.js K') ρ2 (aN l rf .busy none W2)) noE) ρ' W->
   aG P true (.func (.yield l) #[] #[]) args [.one .bool] K' (fun _ _=>False) W)->
  aG P false (ev ρ g) [.func (.yield l) #[] #[]] [] (fun w3=>Sf l rf (Q Dk) ρ w3 A.js) (fun _ _=>False) w1
inductive Sp where
 | next (a:sV) (s:Sp)
 | here (r:sV) (A:RfA) (p:sV)
def Si(P:Program)(pk:Nat):Sp->Code->(Exit->Env->Pw)->(Nat->Exit->Env->Pw)->Env->Pw
 | .next a s,.seq c1 c2,Q,QM,ρ,w=>uj P pk (fun _ _=>False) a c1 (ui (fun ρ w=>Si P pk s c2 Q QM ρ w) Q) ρ w
 | .here r A p,.seq (.seq rc (.block id (.rangeFunc g _ ars bd))) rest,Q,QM,ρ,w=>
  uj P pk (fun _ _=>False) r rc (ui (fun ρ w=>rfW P pk A g ars bd (fun Dk=>C3 id (ui (fun ρ w=>uj P pk (fun _ _=>False) p rest (QM Dk) ρ w) (QM Dk))) ρ w) Q) ρ w
 | _,_,_,_,_,_=>False
def Pt:List Nat->List (Nat×Ty)->Bool
 | [],[]=>true
 | t::r,p::q=>Nat.beq t p.1 && Pt r q
 | _,_=>false
def YQ(P:Program)(n:Nat)(A:RfA)(ps:Array Tmp)(ars bd:Code):Bool:=Pt ps.toList A.Wu && vD P n A.US ars && vD P n A.UT bd && bV A.US ars && cq ars && bV A.UT bd && cq bd && ps.toList.all fun t=>Nat.blt t n
def MW(P:Program)(n:Nat):Sp->Code->Bool
 | .next a s,.seq c1 c2=>vD P n a c1 && MW P n s c2
 | .here r A p,.seq (.seq rc (.block _ (.rangeFunc _ ps ars bd))) rest=>vD P n r rc && YQ P n A ps ars bd && vD P n p rest
 | _,_=>false
section sound
variable {P:Program} {n pk:Nat}
abbrev rv(Dk:Nat):Deferred:={ target:= .collected Dk,args:=#[] }
def SpE(n:Nat)(Q:Exit->Env->Pw)(QM:Nat->Exit->Env->Pw):Exit->Act->Pw
 | .panic _,_,_=>False
 | .outgrown,_,_=>False
 | e,a,w=>(∃ρ,iM [] n a ρ/\Q e ρ w)∨∃Dk ρ,iM [rv Dk] n a ρ/\QM Dk e ρ w
theorem jm.out{D:List Deferred}{Q:Exit->Env->Pw}{M:Nat->Bool}{ρ0:Env}{e:Exit}{a:Act}{w:Wd}(h:jm D n Q (fun _ _=>False) M ρ0 e a w):(∃ρ,iM D n a ρ/\Q e ρ w)/\(∀c,e ≠ .panic c)/\e ≠ .outgrown:=by
 cases e with
 | panic c=>exact h.1.elim
 | outgrown=>exact h.elim
 | _=>obtain⟨ρ',h1,h2,_⟩:=h;exact⟨⟨ρ',h1,h2⟩,(fun c h=>by cases h),(fun h=>by cases h)⟩
theorem SpE.mk{Q:Exit->Env->Pw}{QM:Nat->Exit->Env->Pw}{e:Exit}{a:Act}{w:Wd}(h:(∃ρ,iM [] n a ρ/\Q e ρ w)∨∃Dk ρ,iM [rv Dk] n a ρ/\QM Dk e ρ w)(h1:∀c,e ≠ .panic c)(h2:e ≠ .outgrown):SpE n Q QM e a w:=by
 cases e with
 | panic c=>exact(h1 c rfl).elim
 | outgrown=>exact(h2 rfl).elim
 | _=>exact h
theorem N3:∀{l:List Nat}{p:List (Nat×Ty)},Pt l p=true->l=p.map Prod.fst
 | [],[],_=>rfl
 | t::r,p::q,h=>by
  simp only[Pt,Bool.and_eq_true]at h;rw[List.map_cons,<- Nat.eq_of_beq_eq_true h.1,N3 h.2]
 | [],_::_,h=>by simp[Pt]at h
 | _::_,[],h=>by simp[Pt]at h
theorem N4{D:List Deferred}{F:List Value->Env->Prop}:∀(Wu:List (Nat×Ty))(ρ:Env)(a:Act),(∀p∈Wu,p.1 < n)->iM D n a ρ->(∀args ρ',args.length=Wu.length->iM D n { a with tmps:=((Wu.map Prod.fst).zip args).foldl (fun(t:Array Value) (p:Nat×Value)=>t.setIfInBounds p.1 p.2) a.tmps } ρ'->F args ρ')->YP Wu ρ F
 | [],ρ,a,_,hr,h=>h [] ρ rfl hr
 | (t,y)::r,ρ,a,hp,hr,h=>Sg y fun v=>by
  refine N4 r _ { a with tmps:=a.tmps.setIfInBounds t v } (fun p hq=>hp p (List.mem_cons_of_mem _ hq)) ?_ fun args ρ' hl dK=>h _ ρ' (by simp[hl]) dK
  exact hr.put (hp _ List.mem_cons_self) _
theorem Pu(ps:Array Nat)(args:List Value)(t0:Array Value):(ps.zip args.toArray).foldl (fun t (p,v)=>t.setIfInBounds p v) t0=(ps.toList.zip args).foldl (fun(t:Array Value) (p:Nat×Value)=>t.setIfInBounds p.1 p.2) t0:=by
 rw[<- Array.foldl_toList,Array.toList_zip]
theorem wide_round(l:Nat):Fence.wide.inRound l=qo (some l):=rfl
theorem Pv{A:RfA}{g:Operand}{ps:Array Tmp}{ars bd:Code}{Q:Nat->Exit->Env->Pw}{ρ:Env}{w:Wd}{a:Act}(Bo:YQ P n A ps ars bd=true)(hr:iM [] n a ρ)(h:rfW P pk A g ars bd Q ρ w) :
    (Code.rangeFunc g ps ars bd).wpIn Fence.wide 0 P (fun e a' w'=>∃Dk,(∃ρ',iM [rv Dk] n a' ρ'/\Q Dk e ρ' w')/\(∀c,e ≠ .panic c)/\e ≠ .outgrown) a w:=by
  simp only[YQ,Bool.and_eq_true,List.all_eq_true]at Bo;obtain⟨⟨⟨⟨⟨⟨⟨o1,o2⟩,o3⟩,o4⟩,o5⟩,o6⟩,o7⟩,o8⟩:=Bo;have ep:=N3 o1;refine wpIn_rangeFunc fun fn _=>?_
  let rf:Loop:={ state:= .ready,pending:=none,fn:=fn,tmps:=a.tmps,params:=ps,assign:=ars,body:=bd,defers:=w.heap.size }
  let w1:=(w.alloc (.deferred (some []))).alloc (.loop rf)
  have hd:=h rf w.heap.size (w.heap.size+1) w1 ⟨rfl,rfl,rfl⟩ ?_
  rotate_left
  · refine N4 A.Wu ρ { a with defers:=[] } (fun p hp=>?_) (by have:=hr;exact⟨rfl,this.size,this.get⟩) fun args ρ' hl dK=>?_
    · have:=o8 p.1 (by rw[ep];exact List.mem_map.2 ⟨p,hp,rfl⟩);simpa using this
    intro W K' ER hw
    have uh:args.toArray.size=ps.size:=by
      have:=congrArg List.length ep;simp only[List.length_map,Array.length_toList]at this;rw[List.size_toArray,hl,this]
    have aei:W.heap[w.heap.size+1]? = some (.loop rf):=ER;have hy:=run_yield (P:=P) (args:=args.toArray) aei uh;unfold aG Iw
    have e1:(Iy (.func (.yield (w.heap.size+1)) #[] #[]) args).run P W = .ok (.round (w.heap.size+1) fn ((ps.zip args.toArray).foldl (fun tmps (t,a)=>tmps.setIfInBounds t a) a.tmps) ars bd) W:=by
      simp only[Iy,Deferred.ofValue,pure_bind];simp[invoke,hy,rf]
    rw[e1];refine⟨rfl,roundIn_of_wpIn (F:=Fence.wide) trivial ?_⟩;rw[Pu,ep,wide_round];have hA:=fZ (ro:=some (w.heap.size+1)) (n:=n) (D:=[]) A.US ars _ _ W _ (.inr ⟨o4,o5⟩) o2 hw dK;refine wpIn_mono hA fun e1 a1 W1 hp=>?_
    obtain⟨⟨ρ1,r1,q1⟩,q2,q3⟩:=hp.out
    cases e1 with
    | panic c=>exact(q2 c rfl).elim
    | outgrown=>exact(q3 rfl).elim
    | exit i=>exact q1.elim
    | goto i=>exact q1.elim
    | ret=>exact q1.elim
    | normal=>
    obtain⟨XO,hb⟩:=q1;have aej:W1.heap[w.heap.size+1]? = some (.loop rf):=XO;refine⟨_,run_beginRound aej rfl,?_⟩;have hB:=fZ (ro:=some (w.heap.size+1)) (n:=n) (D:=[]) A.UT bd _ _ _ _ (.inr ⟨o6,o7⟩) o3 hb r1;refine wpIn_mono hB fun e2 a2 W2 uc=>?_
    obtain⟨⟨ρ2,r2,s1⟩,s2,s3⟩:=uc.out
    have fin:∀{j:Option Nat},N2 (w.heap.size+1) rf A.js K' j W2->∃v w',(Instr.endRound (w.heap.size+1) (some (F9 j))).run P W2 = .ok v w'/\Iv [.one .bool] K' (fun _ _=>False) (.returned v) w':=fun {j} hj=>by
      unfold N2 at hj
      cases hh:YN A.js j with
      | false=>rw[hh]at hj;exact hj.elim
      | true=>
        rw[hh]at hj;have st:W2.heap[w.heap.size+1]? = some (.loop { rf with state:= .busy,pending:=none }):=hj.1;refine⟨_,_,run_endRound (some (F9 j)) st,.inl ⟨false,rfl,hj.2⟩⟩
    cases e2 with
    | panic c=>exact(s2 c rfl).elim
    | outgrown=>exact(s3 rfl).elim
    | normal=>
      have st:W2.heap[w.heap.size+1]? = some (.loop { rf with state:= .busy,pending:=none }):=s1.1;exact⟨_,_,run_endRound none st,.inl ⟨true,rfl,s1.2⟩⟩
    | ret=>exact fin (j:=none) s1
    | exit i=>exact fin (j:=some i) s1
    | goto i=>exact s1.elim
  have YR:iM [rv w.heap.size] n { a with defers:=[rv w.heap.size]++a.defers } ρ:=⟨by simp[hr.defers],hr.size,hr.get⟩
  have W7:∀{js:List (Option Nat)}{w3:Wd},Sf (w.heap.size+1) rf (Q w.heap.size) ρ w3 js ->
      ∃jump w4,(Instr.endLoop (w.heap.size+1)).run P w3 = .ok jump w4/\(match jump with
       | none=>∃Dk,(∃ρ',iM [rv Dk] n { a with defers:=[rv w.heap.size]++a.defers } ρ'/\Q Dk .normal ρ' w4)/\(∀c,Exit.normal ≠ .panic c)/\Exit.normal ≠ .outgrown
       | some c=>c.wpIn Fence.wide 0 P (fun e a' w'=>∃Dk,(∃ρ',iM [rv Dk] n a' ρ'/\Q Dk e ρ' w')/\(∀c,e ≠ .panic c)/\e ≠ .outgrown) { a with defers:=[rv w.heap.size]++a.defers } w4):=by
    intro js
    induction js with
    | nil=>
      intro w3 h3;have st:w3.heap[w.heap.size+1]? = some (.loop { rf with state:= .ready,pending:=none }):=h3.1;exact⟨_,_,run_endLoop st (by simp),_,⟨ρ,YR,h3.2⟩,(fun c h=>by cases h),(fun h=>by cases h)⟩
    | cons j r ih=>
      intro w3 h3;rcases h3 with h3 | h3
      · have st:w3.heap[w.heap.size+1]? = some (.loop { rf with state:= .done,pending:=some (F9 j) }):=h3.1;refine⟨_,_,run_endLoop st (by simp),?_⟩
        cases j with
        | none=>exact wpIn_ret ⟨_,⟨ρ,YR,h3.2⟩,(fun c h=>by cases h),(fun h=>by cases h)⟩
        | some i=>exact wpIn_exit ⟨_,⟨ρ,YR,h3.2⟩,(fun c h=>by cases h),(fun h=>by cases h)⟩
      · exact ih h3
  unfold aG Iw Iy at hd
  cases hg:ev ρ g with
  | func fv first cap=>
    rw[hg]at hd;simp only[Deferred.ofValue,pure_bind]at hd;split at hd
    · rename_i f ars w2 he;refine⟨w.heap.size+1,[rv w.heap.size],w1,{ target:= .fn fv cap,args:=first++#[.func (.yield (w.heap.size+1)) #[] #[]] },w1,f,ars,w2,run_enterLoop_outer _ _ _ _ _,?_,fun _ _=>trivial,he,(fun h=>by cases h),callsIn_wide.2 ?_⟩
      · have:a.eval g = .func fv first cap:=by rw[hr.eval];exact hg
        simp[resolve,this,Deferred.ofValue];rfl
      · refine Calls.mono hd fun e w3 h3=>?_
        rcases h3 with⟨he3,h3⟩ | ⟨c,_,h3⟩
        · subst he3;exact W7 h3
        · exact h3.elim
    · exact absurd hd.1 (by decide)
    · exact hd.elim
  | nilFunc=>
    rw[hg]at hd;simp[Deferred.ofValue,invoke,runtimePanic,program,Sem.run]at hd
  | _=>
    rw[hg]at hd;simp[Deferred.ofValue,stuck]at hd
theorem Sj:∀(s:Sp)(c:Code)(Q:Exit->Env->Pw)(QM:Nat->Exit->Env->Pw)(ρ:Env)(w:Wd)(a:Act),MW P n s c=true->Si P pk s c Q QM ρ w->iM [] n a ρ->c.wpIn Fence.wide 0 P (SpE n Q QM) a w:=by
 intro s
 induction s with
 | next ann s ih=>
  intro c Q QM ρ w a Bo h hr
  cases c <;> simp only[Si]at h
  rename_i c1 c2;simp only[MW,Bool.and_eq_true]at Bo;refine wpIn_seq (wpIn_mono (fZ (ro:=none) (n:=n) (D:=[]) ann c1 _ ρ w a (.inl rfl) Bo.1 h hr) fun e a' w' hp=>?_);obtain⟨⟨ρ',r',q'⟩,q2,q3⟩:=hp.out
  cases e with
  | normal=>exact ih c2 Q QM ρ' w' a' Bo.2 q' r'
  | panic c=>exact(q2 c rfl).elim
  | outgrown=>exact(q3 rfl).elim
  | exit i=>exact .inl ⟨ρ',r',q'⟩
  | goto i=>exact .inl ⟨ρ',r',q'⟩
  | ret=>exact .inl ⟨ρ',r',q'⟩
 | here rA A p=>
  intro c Q QM ρ w a Bo h hr
  have none_:∀{c:Code},(∀rc id g ps ars bd rest,c ≠ .seq (.seq rc (.block id (.rangeFunc g ps ars bd))) rest)->MW P n (.here rA A p) c=true->False:=fun {c} dz hk=>by
   unfold MW at hk;split at hk
   .cases ‹Sp.here _ _ _=Sp.next _ _›
   .exact dz _ _ _ _ _ _ _ rfl
   .cases hk
  have dec:(∃rc id g ps ars bd rest,c = .seq (.seq rc (.block id (.rangeFunc g ps ars bd))) rest):=Classical.byContradiction fun hc=>none_ (fun rc id g ps ars bd rest e=>hc ⟨rc,id,g,ps,ars,bd,rest,e⟩) Bo
  obtain⟨rc,id,g,ps,ars,bd,rest,rfl⟩:=dec;simp only[Si]at h;simp only[MW,Bool.and_eq_true]at Bo
  refine wpIn_seq (wpIn_mono (wpIn_seq (Q:=fun e a' w'=>match e with
   | .normal=>∃Dk ρ',iM [rv Dk] n a' ρ'/\uj P pk (fun _ _=>False) p rest (QM Dk) ρ' w'
   | e=>SpE n Q QM e a' w') (wpIn_mono (fZ (ro:=none) (n:=n) (D:=[]) _ rc _ ρ w a (.inl rfl) Bo.1.1 h hr) fun e a' w' hp=>?_)) fun e a' w' hp=>?_)
  .obtain⟨⟨ρ1,r1,q1⟩,q2,q3⟩:=hp.out
   cases e with
   | panic c=>exact(q2 c rfl).elim
   | outgrown=>exact(q3 rfl).elim
   | exit i=>exact .inl ⟨ρ1,r1,q1⟩
   | goto i=>exact .inl ⟨ρ1,r1,q1⟩
   | ret=>exact .inl ⟨ρ1,r1,q1⟩
   | normal=>
    refine wpIn_block (wpIn_mono (Pv Bo.1.2 r1 q1) fun e2 a2 w2 uc=>?_);obtain⟨Dk,⟨ρ2,r2,s2⟩,s3,s4⟩:=uc
    cases e2 with
    | panic c=>exact(s3 c rfl).elim
    | outgrown=>exact(s4 rfl).elim
    | normal=>exact⟨Dk,ρ2,r2,s2⟩
    | goto i=>exact .inr ⟨Dk,ρ2,r2,s2⟩
    | ret=>exact .inr ⟨Dk,ρ2,r2,s2⟩
    | exit i=>
     simp only[C3]at s2;simp only[Exit.inBlock]
     cases hb:Nat.beq i id with
     | true=>
      have:=Nat.eq_of_beq_eq_true hb;subst this;rw[hb]at s2;rw[if_pos rfl];exact⟨Dk,ρ2,r2,s2⟩
     | false=>
      rw[hb]at s2;rw[if_neg (fun e=>by subst e;simp at hb)];exact .inr ⟨Dk,ρ2,r2,s2⟩
  .cases e with
   | normal=>
    obtain⟨Dk,ρ1,r1,q1⟩:=hp;refine wpIn_mono (fZ (ro:=none) (n:=n) (D:=[rv Dk]) p rest _ ρ1 w' a' (.inl rfl) Bo.2 q1 r1) fun e2 a2 w2 uc=>?_
    obtain⟨⟨ρ2,r2,s2⟩,s3,s4⟩:=uc.out;exact SpE.mk (.inr ⟨Dk,ρ2,r2,s2⟩) s3 s4
   | panic c=>exact hp
   | outgrown=>exact hp
   | exit i=>exact hp
   | goto i=>exact hp
   | ret=>exact hp
def YS(Dk:Nat):(l:List Ty)->jC l->jC l
 | [],K=>fun w=>K (bN Dk w)
 | .one _::r,K=>fun x=>YS Dk r (K x)
 | .agg l::r,K=>YT Dk r l K
 | .bad::r,K=>fun v=>YS Dk r (K v)
where
 YT (Dk:Nat) (r:List Ty):(l:List Ab)->EL l (jC r)->EL l (jC r)
 | [],K=>YS Dk r K
 | .one _::q,K=>fun x=>YT Dk r q (K x)
 | .row _ _::q,K=>fun x=>YT Dk r q (K x)
def ab3(P:Program)(tys:List Ty)(rs:List ResultVar)(K:jC tys)(Dk:Nat):Exit->Env->Pw
 | .ret,ρ,w=>gT Dk w/\vE P rs ρ (bN Dk w) (fun vs=>pI tys vs K (bN Dk w))
 | .normal,ρ,w=>gT Dk w/\vE P rs ρ (bN Dk w) (fun vs=>pI tys vs K (bN Dk w))
 | _,_,_=>False
theorem LA{f:FuncId}{fn:Func}{s:Sp}{args:List Value}{tys:List Ty}{K:jC tys}{w:Wd}{F C:Prop}(hf:P.funcs[f]? = some fn)
  (hF:F=Si P pk s (fn.body.getD .skip) (IF P tys fn.results.toList K) (ab3 P tys fn.results.toList K) (mC args) w) (hc:(fn.body.isSome && Nat.ble args.length fn.ntmps && MW P fn.ntmps s (fn.body.getD .skip))=true)
  (hC:ar P f args.toArray tys K w=C) (h:F):C:=by
 simp only[Bool.and_eq_true]at hc;obtain⟨c,hb⟩:=Option.isSome_iff_exists.1 hc.1.1;have e:fn.body.getD .skip=c:=by rw[hb];rfl
 rw[e]at hF hc;rw[<- hC];refine callsIn_wide.1 (callsIn_of_wp_marks (F:=Fence.wide) (n:=0) hf hb trivial (wpIn_mono (Sj s c _ _ _ w _ hc.2 (hF ▸ h) (uk hc.1.2)) fun e a' w' hp=>?_) rfl)
 have fin:∀{D:List Deferred}{ρ':Env}{EN:Wd},iM D fn.ntmps a' ρ'->vE P fn.results.toList ρ' EN (fun vs=>pI tys vs K EN)->∃v,(results fn a'.tmps).run P EN = .ok v EN/\Gc tys K (fun vs Y=>Ending.returned v = .returned (iB vs)/\Y EN):=fun dK hq=>by
  obtain⟨vs,h1,h2⟩:=lX dK hq;exact⟨_,h1,jD tys K (fun us X hh=>⟨by rw[hh.1],hh.2⟩) (nA tys vs K _ h2)⟩
 have main:((∃ρ,iM [] fn.ntmps a' ρ/\vE P fn.results.toList ρ w' (fun vs=>pI tys vs K w'))∨∃Dk ρ,iM [rv Dk] fn.ntmps a' ρ/\(gT Dk w'/\vE P fn.results.toList ρ (bN Dk w') (fun vs=>pI tys vs K (bN Dk w'))))->
   LeavesInM Fence.wide 0 P fn a'.tmps (fun e w'=>Gc tys K (fun vs Y=>e = .returned (iB vs)/\Y w')) a'.defers .returning w':=by
  rintro(⟨ρ,r,q⟩ | ⟨Dk,ρ,r,q0,q⟩)
  .rw[r.defers];exact fin r q
  .rw[r.defers];exact⟨by simp,.inl ⟨Dk,_,rfl,run_takeDeferred q0,fin r q⟩⟩
 cases e with
 | normal=>exact main hp
 | ret=>exact main hp
 | panic c=>exact hp.elim
 | outgrown=>exact hp.elim
 | exit i=>rcases hp with⟨_,_,h⟩ | ⟨_,_,_,h⟩ <;> exact h.elim
 | goto i=>rcases hp with⟨_,_,h⟩ | ⟨_,_,_,h⟩ <;> exact h.elim
end sound
end Go.V
set_option maxRecDepth 100000
namespace Go.V
theorem gf{l:Nat}{rf:Loop}{st:LoopState}{p:Option Code}{w:Wd}:Ext (fun q=>q=l) w (aN l rf st p w):=nI.ext (o:= .loop { rf with state:=st,pending:=p }) rfl
theorem dU.lt{l:Nat}{rf:Loop}{st:LoopState}{p:Option Code}{w:Wd}(h:dU l rf st p w):l < w.heap.size:=by
 rcases Nat.lt_or_ge l w.heap.size with k | k
 .exact k
 .unfold dU at h;rw[Array.getElem?_eq_none k]at h;cases h
theorem dU.put{l:Nat}{rf:Loop}{st st':LoopState}{p p':Option Code}{w:Wd}(h:dU l rf st p w):dU l rf st' p' (aN l rf st' p' w):=World.putObj_heap_same h.lt
theorem sU{l:Nat}{rf:Loop}{st:LoopState}{p:Option Code}{w:Wd}:(aN l rf st p w).heap.size=w.heap.size:=by simp[aN,World.putObj]
theorem dU.ext{S:Nat->Prop}{l:Nat}{rf:Loop}{st:LoopState}{p:Option Code}{w w':Wd}(h:dU l rf st p w)(x:Ext S w w')(hS:¬ S l):dU l rf st p w':=by
 unfold dU;rw[x.au l h.lt hS];exact h
theorem pF{dk:Nat}{w:Wd}:Ext (fun q=>q=dk) w (bN dk w):=nI.ext (o:= .deferred none) rfl
theorem gT.lt{dk:Nat}{w:Wd}(h:gT dk w):dk < w.heap.size:=by
 rcases Nat.lt_or_ge dk w.heap.size with k | k
 .exact k
 .unfold gT at h;rw[Array.getElem?_eq_none k]at h;cases h
theorem gT.ext{S:Nat->Prop}{dk:Nat}{w w':Wd}(h:gT dk w)(x:Ext S w w')(hS:¬ S dk):gT dk w':=by
 unfold gT;rw[x.au dk h.lt hS];exact h
theorem BJ.facts{w w1:Wd}{rf:Loop}{dk l:Nat}(n:BJ w rf dk l w1):Ext No w w1/\w1.heap.size=w.heap.size+2/\dU l rf .ready none w1/\gT dk w1:=by
 obtain⟨rfl,rfl,rfl⟩:=n;refine⟨⟨rfl,rfl,rfl,?_,fun b hb _=>?_⟩,?_,?_,?_⟩
 .show w.heap.size<=((w.heap.push _).push _).size;rw[Array.size_push,Array.size_push];omega
 .show((w.heap.push _).push _)[b]? = _;rw[jn _ _ _ (by rw[Array.size_push];omega),jn _ _ _ hb]
 .show((w.heap.push _).push _).size=_;rw[Array.size_push,Array.size_push]
 .show((w.heap.push _).push _)[w.heap.size+1]? = _;rw[Array.getElem?_push,if_pos (by rw[Array.size_push])]
 .show((w.heap.push _).push _)[w.heap.size]? = _;rw[jn _ _ _ (by rw[Array.size_push];omega),Array.getElem?_push,if_pos rfl]
end Go.V
namespace Go.Proofs.YtefdekemmnnclaaGreat
open Go.V
def H6(s:Value)(az t0:Int)(t1 t2 t3:Int)(jq to:Sl)(LF:Int)(back:Bool)(w:Wd)(K:Sl->Int->Pw):Prop:=an w (.cells (mN t0 t1 t2 t3).toArray 85) fun p a2=>an a2 (.cells [.int .i64 LF].toArray 3) fun I a8=>an a8 (.cells [.slice none 0 0].toArray 44) fun c b1=>an b1 (.cells [.int .i64 0].toArray 37) fun d n=>oK (Cell n) (A0 p) fun J L M N=>Br s az J L M N n fun a1 O Y=>If (O != 0) (aH Y (A0 c) (.slice none 0 0) fun b2=>aH b2 (A0 d) (.int .i64 O) fun F=>∃q:Sl,Cell F (A0 c) q.u/\∃P:Int,Cell F (A0 d) (.int .i64 P)/\K q P F) (an Y (.cells [.slice none 0 0].toArray 44) fun m G=>∃S:Int,Cell G (A0 I) (.int .i64 S)/\If (decide (S < 1)) (aH G (A0 c) (.slice none 0 0) fun b3=>aH b3 (A0 d) (.int .i64 0) fun D=>∃u:Sl,Cell D (A0 c) u.u/\∃T:Int,Cell D (A0 d) (.int .i64 T)/\K u T D) (pa a1 jq to back G fun a0 a3=>∀(a:Loop)(dk lp:Nat)(mw:Wd),BJ a3 a dk lp mw->(∀(e:Sl)(f:Sl)(H:Int)(E:Wd)(o:Bool->Pw),dU lp a .ready none E->(an E (.cells (Dj).toArray 292) fun B a4=>bG a4 (A0 B) 2 (qu e f) fun k=>dU lp a .ready none k/\If (H != 0) (aH (aN lp a .busy none k) (A0 c) (.slice none 0 0) fun a5=>aH a5 (A0 d) (.int .i64 H) fun W=>dU lp a .busy none W/\o false (aN lp a .done (some .ret) W)) (∃v:Sl,Cell (aN lp a .busy none k) (A0 m) v.u/\oL (Cell (aN lp a .busy none k)) (A0 B) fun g h=>an (aN lp a .busy none k) (.cells (qu g h).toArray 292) fun Z a6=>aU pz 44 44 v (.slice (some (A0 Z)) 1 1) (fun C a7=>aH a7 (A0 m) C.u fun l=>∃x:Sl,Cell l (A0 m) x.u/\∃U:Int,Cell l (A0 I) (.int .i64 U)/\If (decide (((x.len:Int))≥U)) (dU lp a .busy none l/\o false (aN lp a .done (some (.exit 0)) l)) (dU lp a .busy none l/\o true (aN lp a .ready none l))) a6))->aG pz true (.func (.yield lp) #[] #[]) [.agg ((qu e f)).toArray,.int .i64 H] [.one .bool] o cB E)->aG pz false (a0) [.func (.yield lp) #[] #[]] [] (fun b=>(dU lp a .done (some .ret) b/\gT dk ((aN lp a .exhausted (some .ret) b))/\∃y:Sl,Cell ((bN dk ((aN lp a .exhausted (some .ret) b)))) (A0 c) y.u/\∃V:Int,Cell ((bN dk ((aN lp a .exhausted (some .ret) b)))) (A0 d) (.int .i64 V)/\K y V ((bN dk ((aN lp a .exhausted (some .ret) b)))))∨  (dU lp a .done (some (.exit 0)) b/\∃i:Sl,Cell (aN lp a .exhausted (some (.exit 0)) b) (A0 m) i.u/\aH (aN lp a .exhausted (some (.exit 0)) b) (A0 c) i.u fun a9=>aH a9 (A0 d) (.int .i64 0) fun z=>gT dk z/\∃r:Sl,Cell ((bN dk z)) (A0 c) r.u/\∃Q:Int,Cell ((bN dk z)) (A0 d) (.int .i64 Q)/\K r Q ((bN dk z)))∨  (dU lp a .ready none b/\∃j:Sl,Cell (aN lp a .exhausted none b) (A0 m) j.u/\aH (aN lp a .exhausted none b) (A0 c) j.u fun b0=>aH b0 (A0 d) (.int .i64 0) fun A=>gT dk A/\∃t:Sl,Cell ((bN dk A)) (A0 c) t.u/\∃R:Int,Cell ((bN dk A)) (A0 d) (.int .i64 R)/\K t R ((bN dk A)))) cB mw))
def H7:Sp:=(.next n0 (.next n0 (.next (qz (.cond (qz n0) n0)) (.next n0 (.next (qz (.cond (qz n0) n0)) (.here n0 ⟨[(38,.agg [.one (.sl),.one (.sl)]),(39,.one (.int .i64))],[none,some 0],(qz n0),(.block (.seq (qz (.cond (qz n0) n0)) (qz (qz (.cond n0 n0)))))⟩ (qz n0)))))))
theorem H8{s:Value}{az t0:Int}{t1 t2 t3:Int}{jq to:Sl}{LF:Int}{back:Bool}{w:Wd}{K:Sl->Int->Pw}(h:H6 s az t0 t1 t2 t3 jq to LF back w K):rX s az t0 t1 t2 t3 jq to LF back w K:=
 LA (pk:=PK) (s:=H7) (args:=[s,.int .u32 az,.agg ([.int .u32 t0,.int .u64 t1,.int .u16 t2,.int .u8 t3]).toArray,.slice jq.a jq.len jq.cap,.slice to.a to.len to.cap,.int .i64 LF,.bool back]) (tys:=[.one (.sl),.one (.int .i64)]) (K:=K) (w:=w) Tryz.func174 (by kernel_rfl) (by kernel_rfl) (by kernel_rfl) h
def km(s:Sl)(seq:Value)(w:Wd)(K:Sl->Pw):Prop:=an w (.cells [s.u].toArray 329) fun f l=>∀(a:Loop)(dk lp:Nat)(w2:Wd),BJ l a dk lp w2->(∀(j:ByteArray)(b:Wd)(h:Bool->Pw),dU lp a .ready none b->(dU lp a .ready none b/\∃c:Sl,Cell (aN lp a .busy none b) (A0 f) c.u/\an (aN lp a .busy none b) (.cells [.string j].toArray 9) fun k m=>aU pz 329 329 c (.slice (some (A0 k)) 1 1) (fun g n=>aH n (A0 f) g.u fun i=>dU lp a .busy none i/\h true (aN lp a .ready none i)) m)->aG pz true (.func (.yield lp) #[] #[]) [.string j] [.one .bool] h cB b)->aG pz false (seq) [.func (.yield lp) #[] #[]] [] (fun e=>(dU lp a .ready none e/\∃d:Sl,Cell (aN lp a .exhausted none e) (A0 f) d.u/\gT dk ((aN lp a .exhausted none e))/\K d ((bN dk ((aN lp a .exhausted none e)))))) cB w2
def kr:Sp:=(.next n0 (.here n0 ⟨[(7,.one (.str))],[],n0,(.block n0)⟩ (qz n0)))
theorem ku{s:Sl}{seq:Value}{w:Wd}{K:Sl->Pw}(h:km s seq w K):cO s seq w K:=
 LA (pk:=PK) (s:=kr) (args:=[.slice s.a s.len s.cap,seq]) (tys:=[.one (.sl)]) (K:=K) (w:=w) Tryz.func391 (by kernel_rfl) (by kernel_rfl) (by kernel_rfl) h
def xZ(g0:Value)(g1:Int)(key value:Sl)(w:Wd)(K:Sl->Sl->Int->Int->Int->Int->Int->Int->Int->Int->Pw):Prop:=an w (.cells [g0,.int .u32 g1].toArray 249) fun c3 h4=>an h4 (.cells (I5 0 0 0 0 0 0 0).toArray 347) fun b h8=>an h8 (.cells [.int .i64 0].toArray 37) fun m i2=>iE key i2 fun z i3=>an i3 (.cells (I5 0 0 0 0 0 0 0).toArray 347) fun a i4=>bG i4 (A0 a) 9 (ac3 z 0 0 0 0 0 0 0) fun h1=>If (decide (((value.len:Int))<=64)) (iE value h1 fun c2 i5=>aH i5 ((A0 a).add 1) c2.u fun l=>KU (Cell l) (A0 a) fun n o L T U a3 b1 b4 c0=>bG l (A0 b) 9 (vG n o L T U a3 b1 b4 c0) fun i6=>aH i6 (A0 m) (.int .i64 0) fun h=>KU (Cell h) (A0 b) fun I B c4 c5 c6 c7 c8 c9 d0=>∃g3:Int,Cell h (A0 m) (.int .i64 g3)/\K I B c4 c5 c6 c7 c8 c9 d0 g3 h) (I9 value h1 fun h2 f8 i=>If (f8 != 0) (KU (Cell i) (A0 a) fun p q M N O P Q R S=>bG i (A0 b) 9 (vG p q M N O P Q R S) fun h5=>aH h5 (A0 m) (.int .i64 f8) fun j=>KU (Cell j) (A0 b) fun C D d1 d2 d3 d4 d5 d6 d7=>∃g4:Int,Cell j (A0 m) (.int .i64 g4)/\K C D d1 d2 d3 d4 d5 d6 d7 g4 j) (m_ h2 i fun h3 h6=>∀(c:Loop)(dk lp:Nat)(kQ:Wd),BJ h6 c dk lp kQ->(∀(i7:Value)(J:Sl)(y:Wd)(A:Bool->Pw),dU lp c .ready none y->(dU lp c .ready none y/\rC (Cell (aN lp c .busy none y)) ((A0 a).add 3) fun d8 d9 e0=>GM J d8 d9 e0 (aN lp c .busy none y) fun c1 f9 e=>If (f9 != 0) (KU (Cell e) (A0 a) fun r s V W Y Z a0 a1 a2=>bG e (A0 b) 9 (vG r s V W Y Z a0 a1 a2) fun h7=>aH h7 (A0 m) (.int .i64 f9) fun g9=>dU lp c .busy none g9/\A false (aN lp c .done (some .ret) g9)) (Ow (Cell e) (A0 c3) fun g5 g6=>Gk pz g5 "Put" (aaF g6 3 0 c1) [.agg [.one (.int .u32),.one (.int .u64),.one (.int .u16)],.one (.int .i64)] (fun f5 f6 f7 g2 h9=>bG h9 ((A0 a).add 3) 3 (dZ f5 f6 f7) fun f=>If (g2 != 0) (KU (Cell f) (A0 a) fun t u a4 a5 a6 a7 a8 a9 b0=>bG f (A0 b) 9 (vG t u a4 a5 a6 a7 a8 a9 b0) fun i0=>aH i0 (A0 m) (.int .i64 g2) fun h0=>dU lp c .busy none h0/\A false (aN lp c .done (some .ret) h0)) (dU lp c .busy none f/\A true (aN lp c .ready none f))) cB e))->aG pz true (.func (.yield lp) #[] #[]) [i7, J.u] [.one .bool] A cB y)->aG pz false (h3) [.func (.yield lp) #[] #[]] [] (fun d=>(dU lp c .done (some .ret) d/\gT dk ((aN lp c .exhausted (some .ret) d))/\KU (Cell ((bN dk ((aN lp c .exhausted (some .ret) d))))) (A0 b) fun E F e1 e2 e3 e4 e5 e6 e7=>∃g7:Int,Cell ((bN dk ((aN lp c .exhausted (some .ret) d)))) (A0 m) (.int .i64 g7)/\K E F e1 e2 e3 e4 e5 e6 e7 g7 ((bN dk ((aN lp c .exhausted (some .ret) d)))))∨  (dU lp c .ready none d/\aH (aN lp c .exhausted none d) ((A0 a).add 2) (.int .i64 ((value.len:Int))) fun k=>KU (Cell k) (A0 a) fun v x b2 b3 b5 b6 b7 b8 b9=>bG k (A0 b) 9 (vG v x b2 b3 b5 b6 b7 b8 b9) fun i1=>aH i1 (A0 m) (.int .i64 0) fun g=>gT dk g/\KU (Cell ((bN dk g))) (A0 b) fun G H e8 e9 f0 f1 f2 f3 f4=>∃g8:Int,Cell ((bN dk g)) (A0 m) (.int .i64 g8)/\K G H e8 e9 f0 f1 f2 f3 f4 g8 ((bN dk g)))) cB kQ))
def x_:Sp:=(.next n0 (.next n0 (.next (qz (.cond (qz (qz n0)) n0)) (.next n0 (.next (qz (.cond (qz n0) n0)) (.here n0 ⟨[(36,.one (.val)),(37,.one (.sl))],[none],n0,(.block (qz (.seq (qz (.cond (qz n0) n0)) (qz (qz (.cond (qz n0) n0))))))⟩ (qz (qz n0))))))))
theorem ya{g0:Value}{g1:Int}{key value:Sl}{w:Wd}{K:Sl->Sl->Int->Int->Int->Int->Int->Int->Int->Int->Pw}(h:xZ g0 g1 key value w K):ja g0 g1 key value w K:=
 LA (pk:=PK) (s:=x_) (args:=[.agg ([g0,.int .u32 g1]).toArray,.slice key.a key.len key.cap,.slice value.a value.len value.cap]) (tys:=[.agg [.one (.sl),.one (.sl),.one (.int .i64),.one (.int .u32),.one (.int .u64),.one (.int .u16),.one (.int .u32),.one (.int .u64),.one (.int .u16)],.one (.int .i64)]) (K:=K) (w:=w) Tryz.func326 (by kernel_rfl) (by kernel_rfl) (by kernel_rfl) h
def kv(s:Sl)(seq:Value)(w:Wd)(K:Sl->Pw):Prop:=an w (.cells [s.u].toArray 23) fun f l=>∀(a:Loop)(dk lp:Nat)(w2:Wd),BJ l a dk lp w2->(∀(j:Int)(b:Wd)(h:Bool->Pw),dU lp a .ready none b->(dU lp a .ready none b/\∃c:Sl,Cell (aN lp a .busy none b) (A0 f) c.u/\an (aN lp a .busy none b) (.cells [.int .u32 j].toArray 24) fun k m=>aU pz 23 23 c (.slice (some (A0 k)) 1 1) (fun g n=>aH n (A0 f) g.u fun i=>dU lp a .busy none i/\h true (aN lp a .ready none i)) m)->aG pz true (.func (.yield lp) #[] #[]) [.int .u32 j] [.one .bool] h cB b)->aG pz false (seq) [.func (.yield lp) #[] #[]] [] (fun e=>(dU lp a .ready none e/\∃d:Sl,Cell (aN lp a .exhausted none e) (A0 f) d.u/\gT dk ((aN lp a .exhausted none e))/\K d ((bN dk ((aN lp a .exhausted none e)))))) cB w2
def kx:Sp:=(.next n0 (.here n0 ⟨[(7,.one (.int .u32))],[],n0,(.block n0)⟩ (qz n0)))
theorem kA{s:Sl}{seq:Value}{w:Wd}{K:Sl->Pw}(h:kv s seq w K):cL s seq w K:=
 LA (pk:=PK) (s:=kx) (args:=[.slice s.a s.len s.cap,seq]) (tys:=[.one (.sl)]) (K:=K) (w:=w) Tryz.func259 (by kernel_rfl) (by kernel_rfl) (by kernel_rfl) h
def kC(s:Sl)(seq:Value)(w:Wd)(K:Sl->Pw):Prop:=an w (.cells [s.u].toArray 149) fun f l=>∀(a:Loop)(dk lp:Nat)(w2:Wd),BJ l a dk lp w2->(∀(j:Int)(b:Wd)(h:Bool->Pw),dU lp a .ready none b->(dU lp a .ready none b/\∃c:Sl,Cell (aN lp a .busy none b) (A0 f) c.u/\an (aN lp a .busy none b) (.cells [.int .u64 j].toArray 26) fun k m=>aU pz 149 149 c (.slice (some (A0 k)) 1 1) (fun g n=>aH n (A0 f) g.u fun i=>dU lp a .busy none i/\h true (aN lp a .ready none i)) m)->aG pz true (.func (.yield lp) #[] #[]) [.int .u64 j] [.one .bool] h cB b)->aG pz false (seq) [.func (.yield lp) #[] #[]] [] (fun e=>(dU lp a .ready none e/\∃d:Sl,Cell (aN lp a .exhausted none e) (A0 f) d.u/\gT dk ((aN lp a .exhausted none e))/\K d ((bN dk ((aN lp a .exhausted none e)))))) cB w2
def kD:Sp:=(.next n0 (.here n0 ⟨[(7,.one (.int .u64))],[],n0,(.block n0)⟩ (qz n0)))
theorem kE{s:Sl}{seq:Value}{w:Wd}{K:Sl->Pw}(h:kC s seq w K):cM s seq w K:=
 LA (pk:=PK) (s:=kD) (args:=[.slice s.a s.len s.cap,seq]) (tys:=[.one (.sl)]) (K:=K) (w:=w) Tryz.func262 (by kernel_rfl) (by kernel_rfl) (by kernel_rfl) h
section
variable {w:Wd}
theorem Sk{β:Type}{a b:List β}(h:a.Perm b)(hl:b.length<=1):a=b:=by
 match b,hl with
 | [],_=>exact h.eq_nil
 | [x],_=>exact List.perm_singleton.1 h
 | _::_::_,hl=>simp at hl
theorem MX{base:Nat}{s:Sl}{cs xs:List Value}{K:Sl->Pw}(own:aP w.heap base 9 1 s cs)(du:base<=w.heap.size)(hx:xs.length=1)(hv:∀v∈xs,cn v=true)(hb:s.len<=1000000)
  (hk:∀s' w',aP w'.heap base 9 1 s' (cs++xs)->s'.len=s.len+1->Ext (fun b=>s.au=some b) w w'->(s'.au=s.au∨∃b,s'.au=some b/\w.heap.size<=b)->K s' w'):an w (.cells xs.toArray 9) fun b w1=>aU pz 329 329 s (.slice (some (Addr.mk b 0 none)) 1 1) K w1:=by
 intro b w1 n;have hz:=n.ext.size;refine LK (own.no n.ext) (by omega) (Rd.src (aP.new (n:=1) n (by omega) hv).rd) (by show(s.len+1) * _<=_;omega) fun s' w' o l x hs=>hk s' w' o l ?_ ?_
 .exact Ext.trans n.ext.aF x fun i _ h=>h
 .rcases hs with h | ⟨b,h,hb⟩
  .exact .inl h
  .exact .inr ⟨b,h,by omega⟩
theorem MY{base:Nat}{s:Sl}{cs xs:List Value}{K:Sl->Pw}(own:aP w.heap base 26 1 s cs)(du:base<=w.heap.size)(hx:xs.length=1)(hv:∀v∈xs,cn v=true)(hb:s.len<=1000000)
  (hk:∀s' w',aP w'.heap base 26 1 s' (cs++xs)->s'.len=s.len+1->Ext (fun b=>s.au=some b) w w'->(s'.au=s.au∨∃b,s'.au=some b/\w.heap.size<=b)->K s' w'):an w (.cells xs.toArray 26) fun b w1=>aU pz 149 149 s (.slice (some (Addr.mk b 0 none)) 1 1) K w1:=by
 intro b w1 n;have hz:=n.ext.size;refine LJ (own.no n.ext) (by omega) (Rd.src (aP.new (n:=1) n (by omega) hv).rd) (by show(s.len+1) * _<=_;omega) fun s' w' o l x hs=>hk s' w' o l ?_ ?_
 .exact Ext.trans n.ext.aF x fun i _ h=>h
 .rcases hs with h | ⟨b,h,hb⟩
  .exact .inl h
  .exact .inr ⟨b,h,by omega⟩
theorem UU:∃kt et,Tryz.prog.underlying 325=some (.map kt et):=⟨9,233,by kernel_rfl⟩
set_option maxHeartbeats 1000000 in
theorem zT{bc r:Nat}{m:List (ByteArray×Value)}{K:Sl->Pw}(g:w.heap[bc]? = some (.cells [Value.map (some r)].toArray 325 (0,0)))(hm:fh w.heap (Value.string) r m)(hl:m.length<=1)
  (k:∀s w',aP w'.heap w.heap.size 9 1 s ((kM (Value.string) m).map Prod.fst)->Ext No w w'->K s w'):cO ⟨none,0,0⟩ (.func (.func 324) #[] #[.pointer (some ⟨bc,0,none⟩)]) w K:=by
 apply ku;refine fun b w1 n1 rf dk lp w2 jH Ev=>?_
 have hb:=n1.at_;have z1:=n1.size;obtain⟨gV,z2,YU,YV⟩:=jH.facts;have hlp:lp=w1.heap.size+1:=jH.l;have hdk:dk=w1.heap.size:=jH.d;have q_:Ext No w w2:=n1.ext.no gV;have Sm:∀{u v:Wd}{c:Nat}{o:Obj},u.heap[c]? = some o->Ext No u v->v.heap[c]? = some o:=fun h x=>(x.au _ (aV h) fun h=>h).trans h
 have KD:∀{S:Nat->Prop}{u v:Wd}{c:Nat}{o:Obj},u.heap[c]? = some o->Ext S u v->¬ S c->v.heap[c]? = some o:=fun h x hs=>(x.au _ (aV h) hs).trans h
 refine fj (fi ⟨some r,Cell.ah (Sm g q_) rfl,?_⟩);obtain⟨kt,et,Wv⟩:=UU;have KV:=hm.ext q_ fun h=>h
 have ab4:r < w.heap.size:=by obtain⟨es,c,h,_⟩:=hm;exact aV h
 obtain⟨w3,kN,hI,x3,z3⟩:=Cl.start (P:=pz) Wv KV;refine⟨some ⟨w2.heap.size,0,none⟩,w3,kN,fun q u=>∃sm s,q=m.length - sm.length/\Cl (Value.string) u w2.heap.size r m sm/\dU lp rf .ready none u/\gT dk u/\Ext No w u/\u.heap[b]? = some (.cells [Sl.v s].toArray 329 (0,0))/\aP u.heap (w2.heap.size+1) 9 1 s ((kM (Value.string) sm).map Prod.fst),⟨_,[],⟨none,0,0⟩,rfl,hI,YU.ext x3 fun h=>h,YV.ext x3 fun h=>h,q_.no x3,Sm n1.get (gV.no x3),aP.nil _ _ _ _⟩,?_⟩;rintro _ q u ⟨sm,s,rfl,hI,h1,h2,h3,h4,h5⟩;have zu:=hI.lt;rcases hI.next (P:=pz) (by omega) with⟨hp,w4,hn,x4⟩ | ⟨p,w4,hn,he,hI4,x4,ZS,_,hlen⟩
 .refine .inl ⟨w4,hn,h1.ext x4 fun h=>h,s,?_⟩;have e:=Sk hp (by rw[List.length_map];exact hl);rw[e]at h5;have xp:Ext (·=lp) w4 (aN lp rf .exhausted none w4):=gf;have xd:Ext (·=dk) (aN lp rf .exhausted none w4) (bN dk (aN lp rf .exhausted none w4)):=pF;have F6:=Sm h4 x4;refine⟨Cell.ah (KD F6 xp (by omega)) rfl,(h2.ext x4 fun h=>h).ext xp (by omega),k s _ ?_ ?_⟩
  .exact(((h5.no x4).ext xp fun i hi h=>by have:=(h5.lt hi).1;omega).ext xd fun i hi h=>by have:=(h5.lt hi).1;omega).mono (by omega)
  .exact((h3.no x4).trans xp fun i hi h=>by omega).trans xd fun i hi h=>by omega
 .refine .inr ⟨Value.string p.1,p.2,w4,hn,Value.string p.1,p.2,w4,he,?_⟩;have HX:=h1.ext x4 (by omega);have xb:Ext (·=lp) w4 (aN lp rf .busy none w4):=gf;have zb:(aN lp rf .busy none w4).heap.size=w4.heap.size:=sU;have z4:=x4.size;have F6:=KD h4 x4 (by omega);have slt:∀i,s.au=some i->w2.heap.size+1<=i/\i < u.heap.size:=fun i hi=>h5.lt hi
  have h5b:=(h5.ext x4 fun i hi h=>by have:=slt i hi;omega).ext xb fun i hi h=>by have:=slt i hi;omega
  have pA:=h5.len;simp only[List.length_map,Nat.mul_one]at pA;refine Ev p.1 w4 _ HX ⟨HX,s,Cell.ah (KD F6 xb (by omega)) rfl,?_⟩;refine MX h5b (by omega) rfl (Kd rfl) (by omega) fun s5 w5 o5 l5 x5 _=>?_
  have Kn:Ext (fun q=>q=lp∨s.au=some q) w4 w5:=(xb.mono fun _ _ h=> .inl h).trans x5 fun _ _ h=> .inr h
  have P6:=KD F6 Kn fun h=>h.elim (fun h=>by omega) fun h=>by have:=slt _ h;omega
  refine aH.mk P6 Nat.one_pos rfl fun w6 h6=>?_
  have rr:=h6.ext;have Ww:dU lp rf .busy none w6:=((HX.put (st' := .busy) (p':=none)).ext x5 fun h=>by have:=slt _ h;omega).ext rr (by omega);have Sn:Ext (·=lp) w6 (aN lp rf .ready none w6):=gf;have Ew:Ext (fun q=>q=lp∨s.au=some q∨q=b) w4 (aN lp rf .ready none w6):=((Kn.mono fun i _ h=>h.imp id Or.inl).trans rr fun i _ h=> .inr (.inr h)).trans Sn fun i _ h=> .inl h
  have z6:=rr.size;have z5:=x5.size;refine⟨Ww,If.not (If.yes ⟨m.length - (sm.length+1),by omega,sm++[p],s5,by simp,hI4.ext Ew ?_ ?_,Ww.put,?_,?_,?_,?_⟩)⟩
  .rintro(h | h | h)
   .omega
   .have:=slt _ h;omega
   .omega
  .rintro(h | h | h)
   .omega
   .have:=slt _ h;omega
   .omega
  .refine(h2.ext x4 (by omega)).ext Ew ?_;rintro(h | h | h)
   .omega
   .have:=slt _ h;omega
   .omega
  .refine(h3.trans x4 fun i hi h=>by omega).trans Ew fun i hi h=>?_
   rcases h with h | h | h
   .omega
   .have:=slt _ h;omega
   .omega
  .exact KD (h6.get P6) Sn (by omega)
  .have o6:=(o5.ext rr fun i hi h=>by have:=(o5.lt hi).1;omega).ext Sn fun i hi h=>by have:=(o5.lt hi).1;omega
   simpa[kM] using o6
theorem YW:∃kt et,Tryz.prog.underlying 88=some (.map kt et):=⟨24,141,by kernel_rfl⟩
set_option maxHeartbeats 1000000 in
theorem zU{bc r:Nat}{m:List (Int×Value)}{K:Sl->Pw}(g:w.heap[bc]? = some (.cells [Value.map (some r)].toArray 88 (0,0)))(hm:fh w.heap (Value.int .u32) r m)(hl:m.length<=1)
  (k:∀s w',aP w'.heap w.heap.size 24 1 s ((kM (Value.int .u32) m).map Prod.fst)->Ext No w w'->K s w'):cL ⟨none,0,0⟩ (.func (.func 181) #[] #[.pointer (some ⟨bc,0,none⟩)]) w K:=by
 apply kA;refine fun b w1 n1 rf dk lp w2 jH Ev=>?_
 have hb:=n1.at_;have z1:=n1.size;obtain⟨gV,z2,YU,YV⟩:=jH.facts;have hlp:lp=w1.heap.size+1:=jH.l;have hdk:dk=w1.heap.size:=jH.d;have q_:Ext No w w2:=n1.ext.no gV;have Sm:∀{u v:Wd}{c:Nat}{o:Obj},u.heap[c]? = some o->Ext No u v->v.heap[c]? = some o:=fun h x=>(x.au _ (aV h) fun h=>h).trans h
 have KD:∀{S:Nat->Prop}{u v:Wd}{c:Nat}{o:Obj},u.heap[c]? = some o->Ext S u v->¬ S c->v.heap[c]? = some o:=fun h x hs=>(x.au _ (aV h) hs).trans h
 refine dq (dj ⟨some r,Cell.ah (Sm g q_) rfl,?_⟩);obtain⟨kt,et,Wv⟩:=YW;have KV:=hm.ext q_ fun h=>h
 have ab4:r < w.heap.size:=by obtain⟨es,c,h,_⟩:=hm;exact aV h
 obtain⟨w3,kN,hI,x3,z3⟩:=Cl.start (P:=pz) Wv KV;refine⟨some ⟨w2.heap.size,0,none⟩,w3,kN,fun q u=>∃sm s,q=m.length - sm.length/\Cl (Value.int .u32) u w2.heap.size r m sm/\dU lp rf .ready none u/\gT dk u/\Ext No w u/\u.heap[b]? = some (.cells [Sl.v s].toArray 23 (0,0))/\aP u.heap (w2.heap.size+1) 24 1 s ((kM (Value.int .u32) sm).map Prod.fst),⟨_,[],⟨none,0,0⟩,rfl,hI,YU.ext x3 fun h=>h,YV.ext x3 fun h=>h,q_.no x3,Sm n1.get (gV.no x3),aP.nil _ _ _ _⟩,?_⟩;rintro _ q u ⟨sm,s,rfl,hI,h1,h2,h3,h4,h5⟩;have zu:=hI.lt;rcases hI.next (P:=pz) (by omega) with⟨hp,w4,hn,x4⟩ | ⟨p,w4,hn,he,hI4,x4,ZS,_,hlen⟩
 .refine .inl ⟨w4,hn,h1.ext x4 fun h=>h,s,?_⟩;have e:=Sk hp (by rw[List.length_map];exact hl);rw[e]at h5;have xp:Ext (·=lp) w4 (aN lp rf .exhausted none w4):=gf;have xd:Ext (·=dk) (aN lp rf .exhausted none w4) (bN dk (aN lp rf .exhausted none w4)):=pF;have F6:=Sm h4 x4;refine⟨Cell.ah (KD F6 xp (by omega)) rfl,(h2.ext x4 fun h=>h).ext xp (by omega),k s _ ?_ ?_⟩
  .exact(((h5.no x4).ext xp fun i hi h=>by have:=(h5.lt hi).1;omega).ext xd fun i hi h=>by have:=(h5.lt hi).1;omega).mono (by omega)
  .exact((h3.no x4).trans xp fun i hi h=>by omega).trans xd fun i hi h=>by omega
 .refine .inr ⟨Value.int .u32 p.1,p.2,w4,hn,p.1,p.2,w4,he,?_⟩;have HX:=h1.ext x4 (by omega);have xb:Ext (·=lp) w4 (aN lp rf .busy none w4):=gf;have zb:(aN lp rf .busy none w4).heap.size=w4.heap.size:=sU;have z4:=x4.size;have F6:=KD h4 x4 (by omega);have slt:∀i,s.au=some i->w2.heap.size+1<=i/\i < u.heap.size:=fun i hi=>h5.lt hi
  have h5b:=(h5.ext x4 fun i hi h=>by have:=slt i hi;omega).ext xb fun i hi h=>by have:=slt i hi;omega
  have pA:=h5.len;simp only[List.length_map,Nat.mul_one]at pA;refine Ev p.1 w4 _ HX ⟨HX,s,Cell.ah (KD F6 xb (by omega)) rfl,?_⟩;refine xV h5b (by omega) rfl (Kd rfl) (by omega) fun s5 w5 o5 l5 x5 _=>?_
  have Kn:Ext (fun q=>q=lp∨s.au=some q) w4 w5:=(xb.mono fun _ _ h=> .inl h).trans x5 fun _ _ h=> .inr h
  have P6:=KD F6 Kn fun h=>h.elim (fun h=>by omega) fun h=>by have:=slt _ h;omega
  refine aH.mk P6 Nat.one_pos rfl fun w6 h6=>?_
  have rr:=h6.ext;have Ww:dU lp rf .busy none w6:=((HX.put (st' := .busy) (p':=none)).ext x5 fun h=>by have:=slt _ h;omega).ext rr (by omega);have Sn:Ext (·=lp) w6 (aN lp rf .ready none w6):=gf;have Ew:Ext (fun q=>q=lp∨s.au=some q∨q=b) w4 (aN lp rf .ready none w6):=((Kn.mono fun i _ h=>h.imp id Or.inl).trans rr fun i _ h=> .inr (.inr h)).trans Sn fun i _ h=> .inl h
  have z6:=rr.size;have z5:=x5.size;refine⟨Ww,If.not (If.yes ⟨m.length - (sm.length+1),by omega,sm++[p],s5,by simp,hI4.ext Ew ?_ ?_,Ww.put,?_,?_,?_,?_⟩)⟩
  .rintro(h | h | h)
   .omega
   .have:=slt _ h;omega
   .omega
  .rintro(h | h | h)
   .omega
   .have:=slt _ h;omega
   .omega
  .refine(h2.ext x4 (by omega)).ext Ew ?_;rintro(h | h | h)
   .omega
   .have:=slt _ h;omega
   .omega
  .refine(h3.trans x4 fun i hi h=>by omega).trans Ew fun i hi h=>?_
   rcases h with h | h | h
   .omega
   .have:=slt _ h;omega
   .omega
  .exact KD (h6.get P6) Sn (by omega)
  .have o6:=(o5.ext rr fun i hi h=>by have:=(o5.lt hi).1;omega).ext Sn fun i hi h=>by have:=(o5.lt hi).1;omega
   simpa[kM] using o6
theorem UW:∃kt et,Tryz.prog.underlying 146=some (.map kt et):=⟨26,155,by kernel_rfl⟩
set_option maxHeartbeats 1000000 in
theorem zV{bc r:Nat}{m:List (Int×Value)}{K:Sl->Pw}(g:w.heap[bc]? = some (.cells [Value.map (some r)].toArray 146 (0,0)))(hm:fh w.heap (Value.int .u64) r m)(hl:m.length<=1)
  (k:∀s w',aP w'.heap w.heap.size 26 1 s ((kM (Value.int .u64) m).map Prod.fst)->Ext No w w'->K s w'):cM ⟨none,0,0⟩ (.func (.func 184) #[] #[.pointer (some ⟨bc,0,none⟩)]) w K:=by
 apply kE;refine fun b w1 n1 rf dk lp w2 jH Ev=>?_
 have hb:=n1.at_;have z1:=n1.size;obtain⟨gV,z2,YU,YV⟩:=jH.facts;have hlp:lp=w1.heap.size+1:=jH.l;have hdk:dk=w1.heap.size:=jH.d;have q_:Ext No w w2:=n1.ext.no gV;have Sm:∀{u v:Wd}{c:Nat}{o:Obj},u.heap[c]? = some o->Ext No u v->v.heap[c]? = some o:=fun h x=>(x.au _ (aV h) fun h=>h).trans h
 have KD:∀{S:Nat->Prop}{u v:Wd}{c:Nat}{o:Obj},u.heap[c]? = some o->Ext S u v->¬ S c->v.heap[c]? = some o:=fun h x hs=>(x.au _ (aV h) hs).trans h
 refine dT (dS ⟨some r,Cell.ah (Sm g q_) rfl,?_⟩);obtain⟨kt,et,Wv⟩:=UW;have KV:=hm.ext q_ fun h=>h
 have ab4:r < w.heap.size:=by obtain⟨es,c,h,_⟩:=hm;exact aV h
 obtain⟨w3,kN,hI,x3,z3⟩:=Cl.start (P:=pz) Wv KV;refine⟨some ⟨w2.heap.size,0,none⟩,w3,kN,fun q u=>∃sm s,q=m.length - sm.length/\Cl (Value.int .u64) u w2.heap.size r m sm/\dU lp rf .ready none u/\gT dk u/\Ext No w u/\u.heap[b]? = some (.cells [Sl.v s].toArray 149 (0,0))/\aP u.heap (w2.heap.size+1) 26 1 s ((kM (Value.int .u64) sm).map Prod.fst),⟨_,[],⟨none,0,0⟩,rfl,hI,YU.ext x3 fun h=>h,YV.ext x3 fun h=>h,q_.no x3,Sm n1.get (gV.no x3),aP.nil _ _ _ _⟩,?_⟩;rintro _ q u ⟨sm,s,rfl,hI,h1,h2,h3,h4,h5⟩;have zu:=hI.lt;rcases hI.next (P:=pz) (by omega) with⟨hp,w4,hn,x4⟩ | ⟨p,w4,hn,he,hI4,x4,ZS,_,hlen⟩
 .refine .inl ⟨w4,hn,h1.ext x4 fun h=>h,s,?_⟩;have e:=Sk hp (by rw[List.length_map];exact hl);rw[e]at h5;have xp:Ext (·=lp) w4 (aN lp rf .exhausted none w4):=gf;have xd:Ext (·=dk) (aN lp rf .exhausted none w4) (bN dk (aN lp rf .exhausted none w4)):=pF;have F6:=Sm h4 x4;refine⟨Cell.ah (KD F6 xp (by omega)) rfl,(h2.ext x4 fun h=>h).ext xp (by omega),k s _ ?_ ?_⟩
  .exact(((h5.no x4).ext xp fun i hi h=>by have:=(h5.lt hi).1;omega).ext xd fun i hi h=>by have:=(h5.lt hi).1;omega).mono (by omega)
  .exact((h3.no x4).trans xp fun i hi h=>by omega).trans xd fun i hi h=>by omega
 .refine .inr ⟨Value.int .u64 p.1,p.2,w4,hn,p.1,p.2,w4,he,?_⟩;have HX:=h1.ext x4 (by omega);have xb:Ext (·=lp) w4 (aN lp rf .busy none w4):=gf;have zb:(aN lp rf .busy none w4).heap.size=w4.heap.size:=sU;have z4:=x4.size;have F6:=KD h4 x4 (by omega);have slt:∀i,s.au=some i->w2.heap.size+1<=i/\i < u.heap.size:=fun i hi=>h5.lt hi
  have h5b:=(h5.ext x4 fun i hi h=>by have:=slt i hi;omega).ext xb fun i hi h=>by have:=slt i hi;omega
  have pA:=h5.len;simp only[List.length_map,Nat.mul_one]at pA;refine Ev p.1 w4 _ HX ⟨HX,s,Cell.ah (KD F6 xb (by omega)) rfl,?_⟩;refine MY h5b (by omega) rfl (Kd rfl) (by omega) fun s5 w5 o5 l5 x5 _=>?_
  have Kn:Ext (fun q=>q=lp∨s.au=some q) w4 w5:=(xb.mono fun _ _ h=> .inl h).trans x5 fun _ _ h=> .inr h
  have P6:=KD F6 Kn fun h=>h.elim (fun h=>by omega) fun h=>by have:=slt _ h;omega
  refine aH.mk P6 Nat.one_pos rfl fun w6 h6=>?_
  have rr:=h6.ext;have Ww:dU lp rf .busy none w6:=((HX.put (st' := .busy) (p':=none)).ext x5 fun h=>by have:=slt _ h;omega).ext rr (by omega);have Sn:Ext (·=lp) w6 (aN lp rf .ready none w6):=gf;have Ew:Ext (fun q=>q=lp∨s.au=some q∨q=b) w4 (aN lp rf .ready none w6):=((Kn.mono fun i _ h=>h.imp id Or.inl).trans rr fun i _ h=> .inr (.inr h)).trans Sn fun i _ h=> .inl h
  have z6:=rr.size;have z5:=x5.size;refine⟨Ww,If.not (If.yes ⟨m.length - (sm.length+1),by omega,sm++[p],s5,by simp,hI4.ext Ew ?_ ?_,Ww.put,?_,?_,?_,?_⟩)⟩
  .rintro(h | h | h)
   .omega
   .have:=slt _ h;omega
   .omega
  .rintro(h | h | h)
   .omega
   .have:=slt _ h;omega
   .omega
  .refine(h2.ext x4 (by omega)).ext Ew ?_;rintro(h | h | h)
   .omega
   .have:=slt _ h;omega
   .omega
  .refine(h3.trans x4 fun i hi h=>by omega).trans Ew fun i hi h=>?_
   rcases h with h | h | h
   .omega
   .have:=slt _ h;omega
   .omega
  .exact KD (h6.get P6) Sn (by omega)
  .have o6:=(o5.ext rr fun i hi h=>by have:=(o5.lt hi).1;omega).ext Sn fun i hi h=>by have:=(o5.lt hi).1;omega
   simpa[kM] using o6
end
end Go.Proofs.YtefdekemmnnclaaGreat
namespace Go.V
theorem YX{kind:Int}{e:lU}(h1:B8 e.key)(h2:B8 e.val):B8 (wrE kind e):=by
 unfold wrE;refine(B8.cons (by omega) h1).append ?_;split
 .exact((bM _ _).append (bM _ _)).append (bM _ _)
 .split
  .exact(B8.cons (by omega) (B8.cons (by omega) (B8.cons (by omega) B8.nil))).append (((bM _ _).append (bM _ _)).append (bM _ _))
  .exact(B8.cons (by omega) (B8.cons (by omega) B8.nil)).append h2
theorem YY{l:List Int}(h:B8 l):B8 (pad l):=h.append fun x hx=>by rw[List.mem_replicate]at hx;omega
theorem ab5{kind lev:Int}{l:List lU}(hk:0<=kind/\kind<=255)(hv:0<=lev/\lev<=255)(h:∀e∈l,B8 e.key/\B8 e.val):B8 (wr kind lev l):=by
 refine(B8.cons hk (B8.cons hv (B8.cons (by omega) B8.nil))).append fun x hx=>?_
 obtain⟨e,he,hx⟩:=List.mem_flatMap.1 hx;exact YX (h e he).1 (h e he).2 x hx
end Go.V
namespace Go.Proofs.YtefdekemmnnclaaGreat
open Go.V Go.V.Dk Go.V.Rn
section
variable {w w':Wd} {T T':Nat->Nat} {s:SA}
structure Px(s:SA)(t g:Int)(r:fP)(m:Nat):Prop where
 cm:s.cm≠0
 fl:s.fl=false
 hg:rq s.ks t=[g]
 F:∃M,s.F=r::M
 hr:cA s.F=true
 m:s.pm=some m
 new:∀k∈s.ps,k.n≠r.1
 pu:∀n∈s.pu,n≠r.1
 ok:gI.OK ⟨t,1,0,r.1,s.cm,g⟩
 u:EF (qt s.F)
 len:(qt s.F).length<=1000
abbrev SA.put(s:SA)(t g:Int)(r:fP)(fr' sl:Sl)(pl:List Int):SA:={ s with fr:=fr',F:=qt s.F,ps:=s.ps++[⟨r.1,⟨t,1,0,r.1,s.cm,g⟩,sl,pl⟩],pu:=s.pu++[r.1] }
set_option maxHeartbeats 1000000 in
theorem MZ{t g:Int}{r:fP}{m:Nat}{sl:Sl}{L:List (eA×lU)}{K:Int->Int->Int->Int->Int->Pw}(y:Sy w T s)(P:Px s t g r m)(nd:Pb w.heap sl L)(hl:L.length<=65536)(hr:qh 1 0 (ki L))(hs:(wr 1 0 (ki L)).length<=224)
  (k:∀T' fr' Ex w',Sy w' T' (s.put t g r fr' Ex (pad (wr 1 0 (ki L))))->fg T w T' w'->K r.1 s.cm g 0 0 w'):i_ s.src t 1 0 sl w K:=by
 apply xy;refine fun b w1 n1 b1 w2 n2 b2 w3 n3=>?_
 have g0:=aj (aj n1.get n2.ext) n3.ext;have g1:=aj n2.get n3.ext;have g2:=n3.get;have x3:Ext No w w3:=(n1.ext.no n2.ext).no n3.ext;have z1:=n1.size;have z2:=n2.size;have z3:=n3.size;have a1:=n1.at_;have a2:=n2.at_;have a3:=n3.at_;refine⟨1,Cell.ah g1 rfl,0,Cell.ah g1 rfl,sl,Cell.ah g1 rfl,Kt (nd.no x3) hl (fun t4 w4 _ _ o4 x4=>If.bne (fun h=>absurd rfl h) fun _=>?_) (fun c w4 h _ _=>(h ⟨hr,hs⟩).elim)⟩;have Bz:=x3.no x4;have y4:=y.no Bz
 have b8:B8 (pad (wr 1 0 (ki L))):=YY (ab5 (by decide) (by decide) fun e he=>by
  obtain⟨p,hp,rfl⟩:=List.mem_map.1 he
  exact⟨(nd.NW p hp).k8,(nd.NW p hp).v8⟩)
 refine⟨_,Cell.ah (aj g0 x4) rfl,t,Cell.ah (aj g0 x4) rfl,1,Cell.ah (aj g1 x4) rfl,0,Cell.ah (aj g1 x4) rfl,zk ?_⟩;obtain⟨M,hF⟩:=P.F;refine RL y4 P.cm P.fl ⟨by decide,by decide⟩ o4.rd (fun i hi=>y.out i (by have:=(o4.lt hi).1;have:=x3.size;omega)) (NX hs) b8 P.hg hF P.hr P.m P.new P.pu P.ok P.u P.len fun T' fr' Ex w6 y6 s6=>?_
 refine jy rfl rfl (cF rfl) fun w8 g8 z8 x8=>?_
 have Z_:T b1=0:=y.out b1 (by omega);have tb2:T b2=0:=y.out b2 (by omega);have YZ:=aj (s6.au (aj g1 x4) (.inl Z_)) x8;have g26:=aj (s6.au (aj g2 x4) (.inl tb2)) x8;have l4:=aV (aj g2 x4);refine⟨_,Cell.ah g8 rfl,_,Cell.ah g8 rfl,_,Cell.ah g8 rfl,0,Cell.ah YZ rfl,rfl,cr.mk g26 (Nat.le_refl 4) (cF rfl) fun w9 h9=>?_⟩;have g9:=h9.get g26;have aek:T' b2=0:=(s6.a b2 l4).trans tb2;exact⟨_,Cell.ah g9 rfl,_,Cell.ah g9 rfl,_,Cell.ah g9 rfl,_,Cell.ah g9 rfl,k T' fr' Ex w9 ((y6.no x8).loc h9.ext fun i hi=>by subst hi;exact .inl aek) ((((fg.no Bz).trans s6).nx x8).out h9.ext (by omega))⟩
theorem vB(x:eA):∀v∈x.cs,cn v=true:=by
 intro v hv;simp only[eA.cs,List.mem_cons,List.not_mem_nil,or_false]at hv;rcases hv with h | h | h | h | h | h | h | h | h <;> subst h <;> rfl
set_option maxHeartbeats 1000000 in
theorem H9{g:Value}{t:Int}{ks vs:Sl}{key val:List Int}{K:Sl->Sl->Int->Int->Int->Int->Int->Int->Int->Int->Pw}(hk:aL w.heap ks key)(hv:aL w.heap vs val)(k8:B8 key)(v8:B8 val)(kl:key.length<=32)(vl:val.length<=64)
  (k:∀x w',Bf w'.heap x ⟨key,val,0,.z,.z⟩->Ext No w w'->K x.k x.v x.n x.ch.p x.ch.c x.ch.g x.cd.p x.cd.c x.cd.g 0 w'):ja g t ks vs w K:=by
 apply ya;have zm:=aL.len hk;have Z1:=aL.len hv;refine fun b w1 n1 b1 w2 n2 b2 w3 n3=>?_
 have EI:=n2.at_;have Cz:=n3.at_;have z1:=n1.size;have z2:=n2.size;have z3:=n3.size;have qf:Ext No w w3:=(n1.ext.no n2.ext).no n3.ext;have g13:=aj n2.get n3.ext;have g23:=n3.get;refine xQ (Rd.no hk qf) (by omega) fun kS w4 kO x4=>?_
 refine CL (vs:=eA.cs ⟨kS,⟨none,0,0⟩,0,.z,.z⟩) rfl rfl (vB _) fun b3 w6 g36 tq z6 x6=>?_
 have Mp:Ext No w3 w6:=x4.no x6;have s4:=x4.size;have kO6:=kO.no x6;have kb:∀q,kS.au=some q->w3.heap.size<=q/\q < w4.heap.size:=fun q hq=>kO.lt hq
 refine If.dec (fun h64=>?_) fun h64=>by omega
 refine xQ (Rd.no hv (qf.no Mp)) (by omega) fun vS w7 vO x7=>aH.mk (aj g36 x7) (by simp[eA.cs]) rfl fun w8 h8=>?_
 have g8:w8.heap[b3]? = some (.cells (eA.cs ⟨kS,vS,0,.z,.z⟩).toArray 347 (0,0)):=h8.get (aj g36 x7);have x8:Ext (·=b3) w7 w8:=h8.ext;have z8:w8.heap.size=w7.heap.size:=h8.size;have s7:=x7.size;have vb:∀q,vS.au=some q->w6.heap.size<=q/\q < w7.heap.size:=fun q hq=>vO.lt hq
 refine vi g8 ⟨rfl,cr.mk (vs:=eA.cs ⟨kS,vS,0,.z,.z⟩) (aw (aj g13 (Mp.no x7)) x8 (by omega)) (Nat.le_refl 9) (vB _) fun w9 h9=>?_⟩;have g9:=h9.get (aw (aj g13 (Mp.no x7)) x8 (by omega));have x9:=h9.ext;have z9:=h9.size;refine aH.mk (aw (aw (aj g23 (Mp.no x7)) x8 (by omega)) x9 (by omega)) (by decide) rfl fun gG Cp=>?_
 have fo:Ext (·=b2) w9 gG:=Cp.ext;refine vi (x:=⟨kS,vS,0,.z,.z⟩) (aw g9 fo (by omega)) ⟨0,Cell.ah (Cp.get (aw (aw (aj g23 (Mp.no x7)) x8 (by omega)) x9 (by omega))) rfl,?_⟩;have Mv:Ext (fun q=>q=b3∨q=b1∨q=b2) w7 gG:=((x8.mono fun _ _ h=> .inl h).trans x9 fun _ _ h=> .inr (.inl h)).trans fo fun _ _ h=> .inr (.inr h)
 have xf:Ext No w gG:=((qf.no Mp).no x7).trans Mv fun q hq h=>by omega
 refine k ⟨kS,vS,0,.z,.z⟩ gG ⟨?_,?_,rfl,rfl,rfl,k8,v8,⟨by show(-9223372036854775808:Int)<=0;decide,by show(0:Int)<=9223372036854775807;decide⟩,by show Rf.z.ok;decide,by show Rf.z.ok;decide⟩ xf
 .exact(kO6.rd.no x7).ext Mv fun a q ha hq h=>by have:=kb q (by simp[Sl.au,ha,hq]);omega
 .exact vO.rd.ext Mv fun a q ha hq h=>by have:=vb q (by simp[Sl.au,ha,hq]);omega
theorem Ey{e:lU}(k1:1<=e.key.length)(kl:e.key.length<=32)(vl:e.val.length<=64)(hn:e.n=0)(hc:e.ch = .z)(hd:e.cd = .z):qh 1 0 [e]:=by
 refine⟨.inl ⟨rfl,rfl⟩,fun h=>absurd h (by decide),fun i hi=>?_,fun i hi=>by simp at hi⟩;have:i=0:=by simpa using hi
 subst this;refine⟨?_,?_⟩
 .unfold Cr;rw[if_neg (by rintro⟨h,_⟩;revert h;decide)];show 1<=((e.key.length:Nat):Int)/\((e.key.length:Nat):Int)<=32;omega
 .rw[if_neg (by decide)];exact⟨hd,by rw[if_pos (show[e][0].n=0 from hn)];exact⟨hc,vl⟩⟩
theorem KE{e:lU}(kl:e.key.length<=32)(vl:e.val.length<=64)(hn:e.n=0):(wr 1 0 [e]).length<=224:=by
 simp[wr,wrE,hn];omega
set_option maxHeartbeats 1000000 in
theorem M0{t g:Int}{r:fP}{m:Nat}{ks vs:Sl}{key val:List Int}{K:Int->Int->Int->Int->Int->Pw}(y:Sy w T s)(P:Px s t g r m)(hk:aL w.heap ks key)(hv:aL w.heap vs val)(k8:B8 key)(v8:B8 val)(k1:1<=key.length)(kl:key.length<=32)(vl:val.length<=64)
  (k:∀T' fr' Ex w',Sy w' T' (s.put t g r fr' Ex (pad (wr 1 0 [⟨key,val,0,.z,.z⟩])))->fg T w T' w'->K r.1 s.cm g 0 0 w'):ic s.src t 0 0 0 0 ks vs false w K:=by
 apply vM;refine fun b w1 n1 b1 w2 n2 b2 w3 n3 b3 w4 n4=>?_
 have z1:=n1.size;have z2:=n2.size;have z3:=n3.size;have z4:=n4.size;have a4:=n4.at_;have x4:Ext No w w4:=((n1.ext.no n2.ext).no n3.ext).no n4.ext;have g0:=aj (aj (aj n1.get n2.ext) n3.ext) n4.ext;have g1:=aj (aj n2.get n3.ext) n4.ext;have g2:=aj n3.get n4.ext;have g3:=n4.get;refine⟨0,Cell.ah g1 rfl,0,Cell.ah g1 rfl,0,Cell.ah g1 rfl,0,Cell.ah g1 rfl,If.yes ⟨false,Cell.ah g2 rfl,If.no ⟨_,Cell.ah g0 rfl,t,Cell.ah g0 rfl,ks,Cell.ah g2 rfl,vs,Cell.ah g2 rfl,?_⟩⟩⟩;refine H9 (Rd.no hk x4) (Rd.no hv x4) k8 v8 kl vl fun x w6 hx x6=>?_
 refine CL (vs:=x.cs) rfl rfl (vB _) fun b4 w8 g8 _ z8 x8=>If.bne (fun h=>absurd rfl h) fun _=>?_
 have P8:=x6.no x8;refine⟨_,Cell.ah (aj g0 P8) rfl,t,Cell.ah (aj g0 P8) rfl,vi g8 fun b5 gG ji=>?_⟩;have Ez:=(x4.no P8).no ji.ext
 have nd:Pb gG.heap ⟨some ⟨b5,0,none⟩,1,1⟩ [(x,⟨key,val,0,.z,.z⟩)]:=by
  refine⟨?_,fun p hp=>?_⟩
  .have:=(aP.new (n:=1) (sz:=9) (cs:=x.cs) ji rfl (vB _)).rd;simpa[Eo] using this
  .simp only[List.mem_singleton]at hp;subst hp;exact(hx.no x8).no ji.ext
 have Tg:=y.no Ez;refine MZ Tg P nd (Nat.le_of_ble_eq_true rfl) (Ey k1 kl vl rfl rfl rfl) (KE kl vl rfl) fun T' fr' Ex hU XX Ta=>?_
 have t3:T b3=0:=y.out b3 (by omega);have ab6:=aj (aj g3 P8) ji.ext;have EA:=Ta.au ab6 (.inl t3);refine⟨rfl,cr.mk EA (Nat.le_refl 4) (cF rfl) fun mw VP=>?_⟩;have g12:=VP.get EA;have t3':T' b3=0:=(Ta.a b3 (aV ab6)).trans t3;exact⟨_,Cell.ah g12 rfl,_,Cell.ah g12 rfl,_,Cell.ah g12 rfl,_,Cell.ah g12 rfl,k T' fr' Ex mw (XX.loc VP.ext fun i hi=>by subst hi;exact .inl t3') (((fg.no Ez).trans Ta).out VP.ext (by omega))⟩
end
end Go.Proofs.YtefdekemmnnclaaGreat
namespace Go.Proofs.YtefdekemmnnclaaGreat
open Go.V Go.V.Dk Go.V.Rn
section
variable {w w':Wd} {T T':Nat->Nat} {s:SA}
theorem M1{x:Sl}{cmp:Value}{K:Pw}(h:x.len<=1)(k:K w):cX x cmp w K:=by
 apply kL;refine Ar.u64 (by omega) (zF (by omega) (by omega) fun r=>?_);apply lG;refine⟨fun _ a b _ _ _ u=>0=a/\(x.len:Int)=b/\w=u,⟨0,rfl,rfl,rfl⟩,?_⟩;rintro _ _ _ _ l b1 b2 _ ⟨rfl,rfl,rfl⟩;refine Ar.i64 (by omega) (If.dec (fun _=>?_) fun h=>by omega);apply iw;refine Ar.i64 (by omega) ⟨fun _ i u=>1=i/\w=u,⟨0,rfl,rfl⟩,?_⟩;rintro _ _ _ _ ⟨rfl,rfl⟩;exact If.dec (fun h=>by omega) fun _=>k
theorem ab7:oT pz 9 Value.string:=TL (by kernel_rfl)
theorem So:Tryz.prog.underlying 325=some (.map 9 233):=by kernel_rfl
theorem Y0(w:Wd):(zeroValue 233).run pz w = .ok (.agg (#[.slice none 0 0,.slice none 0 0,.bool false])) w:=by kernel_rfl
theorem KF{ks vs:Sl}{K:Bool->Pw}(k1:1<=ks.len)(kl:ks.len<=32)(vl:vs.len<=64)(k:∀w',Ext No w w'->K true w'):rZ ks vs false w K:=by
 apply G_
 refine fun b w1 n1=>⟨ks,Cell.ah n1.get rfl,If.dec (fun _=>⟨ks,Cell.ah n1.get rfl,If.dec (fun _=>⟨vs,Cell.ah n1.get rfl,If.dec (fun _=>⟨false,Cell.ah n1.get rfl,If.no (k w1 n1.ext)⟩) fun h=>by omega⟩) fun h=>by omega⟩) fun h=>by omega⟩
abbrev opA(ks vs:Sl):Value:= .agg (#[ks.v,vs.v,.bool false])
set_option maxHeartbeats 2000000 in
theorem Py{t g:Int}{r:fP}{m:Nat}{ops ks vs:Sl}{key val:List Int}{K:Int->Int->Int->Int->Int->Pw}(y:Sy w T s)(P:Px s t g r m)(ho:Rd w.heap ops 3 [ks.v,vs.v,Value.bool false])(hol:ops.len=1)(hk:aL w.heap ks key)(hv:aL w.heap vs val)(k8:B8 key)(v8:B8 val)(k1:1<=key.length)(kl:key.length<=32)(vl:val.length<=64)
  (k:∀T' fr' Ex w',Sy w' T' (s.put t g r fr' Ex (pad (wr 1 0 [⟨key,val,0,.z,.z⟩])))->fg T w T' w'->K r.1 s.cm g 0 0 w'):rW s.src t 0 0 0 0 ops w K:=by
 apply Hd
 refine fun b w1 n1 b1 w2 n2=>⟨trivial,If.no fun b2 w4 n4 b3 w5 n5=>aH.mk n5.get Nat.one_pos rfl fun w6 h6=>?_⟩
 have z1:=n1.size;have z2:=n2.size;have z4:=n4.size;have z5:=n5.size;have a1:=n1.at_;have a2:=n2.at_;have a4:=n4.at_;have a5:=n5.at_;have x5:Ext No w w5:=((n1.ext.no n2.ext).no n4.ext).no n5.ext;have x6:Ext No w w6:=x5.out h6.ext (by omega);have rr:=h6.ext;have z6:=h6.size;have g0:w6.heap[b]? = _:=aw (aj (aj (aj n1.get n2.ext) n4.ext) n5.ext) rr (by omega);have g1:w6.heap[b1]? = _:=aw (aj (aj n2.get n4.ext) n5.ext) rr (by omega);have g2:w6.heap[b2]? = _:=aw (aj n4.get n5.ext) rr (by omega);have g3:=h6.get n5.get
 have m6:fh w6.heap Value.string b2 ([]:List (ByteArray×Value)):=⟨#[],0,g2,rfl,db.nil⟩
 have zm:=aL.len hk;have Z1:=aL.len hv;refine⟨fun n t u=>(n=1/\t=0/\w6=u)∨(n=0/\t=1/\fh u.heap Value.string b2 [(Uw key,opA ks vs)]/\Ext (·=b2) w6 u),⟨1,.inl ⟨rfl,rfl,rfl⟩⟩,?_⟩;rintro _ n t7 w7 (⟨rfl,rfl,rfl⟩ | ⟨rfl,rfl,m7,x7⟩)
 .refine If.dec (fun _=>?_) fun h=>absurd (by omega) h
  have ho6:=ho.no x6;refine Ix.elem (f:=fun _:Unit=>[ks.v,vs.v,Value.bool false]) (l:=[()]) (by simpa using ho6) (fun _ _=>rfl) (by decide) (by decide) (by omega) fun b' o' hi EE hc=>?_
  refine⟨ks,hc 0 _ rfl,vs,hc 1 _ rfl,false,hc 2 _ rfl,jy rfl rfl (cF rfl) fun w9 g9 z9 x9=>?_⟩;refine⟨ks,Cell.ah g9 rfl,vs,Cell.ah g9 rfl,false,Cell.ah g9 rfl,KF (by omega) (by omega) (by omega) fun gG fo=>If.not (If.yes ?_)⟩;have wa:=aj g9 fo;have UX:=x9.no fo;refine⟨some b2,Cell.ah (aj g3 UX) rfl,ks,Cell.ah wa rfl,mD.mk (Rd.no hk (x6.no UX)) (fun _ _ _ h=>Cell.mk h) ⟨ks,Cell.ah wa rfl,vs,Cell.ah wa rfl,false,Cell.ah wa rfl,?_⟩⟩;obtain⟨hU,K2,Y1,oF,z11⟩:=aJ (P:=pz) (a:=Uw key) (v:=opA ks vs) ab7 So (m6.ext UX fun h=>h);rw[zL (fun p hp=>by cases hp)]at Y1;exact⟨hU,K2,Ar.i64 (by decide) ⟨0,by decide,.inr ⟨rfl,rfl,Y1,UX.aF.trans oF fun i _ h=>h⟩⟩⟩
 refine If.dec (fun h=>absurd h (by omega)) fun _=>?_
 have HM:Ext No w w7:=x6.out x7 (by omega);have z7:=x7.size;have YF:=aw g0 x7 (by omega);have g17:=aw g1 x7 (by omega);have g37:=aw g3 x7 (by omega);refine⟨some b2,Cell.ah g37 rfl,?_⟩;apply fJ;refine fun bk w8 n8=>?_
 apply ov;apply qJ;refine zT n8.get (m7.ext n8.ext fun h=>h) (Nat.le_refl 1) fun sk w9 o9 x9=>?_
 have ok9:sk.len=1:=by have:=o9.len;simpa[kM] using this.symm
 refine M1 (by omega) ⟨rfl,?_⟩;refine jy rfl rfl (abi rfl rfl) fun ua YZ z16 ub=>?_
 have Pz:Ext No w7 ua:=(n8.ext.no x9).no ub;have UY:=HM.no Pz;have y16:=y.no UY;have gg0:=aj YF Pz;have gg1:=aj g17 Pz;have gg3:=aj g37 Pz;have m16:=m7.ext Pz fun h=>h
 have Rg:=o9.no ub;have zz:=Pz.size;have t0:T b=0:=y.out b (by omega);have t1:T b1=0:=y.out b1 (by omega);refine⟨fun n tt u=>(n=1/\tt=0/\ua=u)∨(n=0/\tt=1/\∃T' fr' Ex,Sy u T' (s.put t g r fr' Ex (pad (wr 1 0 [⟨key,val,0,.z,.z⟩])))/\fg T w T' u/\T' b1=0/\u.heap[b]? = some (.cells [Value.int .u32 r.1,.int .u64 s.cm,.int .u16 g,.int .u8 0].toArray 85 (0,0))/\u.heap[b1]? = some (.cells [Value.int .u32 0,.int .u64 0,.int .u16 0,.int .u8 0].toArray 85 (0,0))),⟨1,.inl ⟨rfl,rfl,rfl⟩⟩,?_⟩;rintro _ n t17 rD (⟨rfl,rfl,rfl⟩ | ⟨rfl,rfl,T17,ael,aem,y17,s17,Z_,gb,gb1⟩)
 .refine If.dec (fun _=>?_) fun h=>absurd (by omega) h
  refine Ix.cell Rg.rd (by decide) (by omega) fun b' o' v _ hv' hc=>?_
  have ev:v = .string (Uw key):=by simpa[kM] using hv'.symm
  subst ev;refine⟨_,hc,_,Cell.ah YZ rfl,_,Cell.ah YZ rfl,0,Cell.ah gg0 rfl,0,Cell.ah gg0 rfl,0,Cell.ah gg0 rfl,0,Cell.ah gg0 rfl,some b2,Cell.ah gg3 rfl,?_⟩;have kN:=gK (P:=pz) (a:=Uw key) ab7 So (Y0 ua) m16;have eg:mG (Uw key) [(Uw key,opA ks vs)]=some (opA ks vs):=by simp[mG]
  rw[eg]at kN;refine⟨ks,vs,false,ua,kN,M0 y16 P (Rd.no hk UY) (Rd.no hv UY) k8 v8 k1 kl vl fun T' fr' Ex XR y19 s19=>⟨rfl,?_⟩⟩;have ab8:=s19.au gg0 (.inl t0);have aen:=s19.au gg1 (.inl t1);refine cr.mk ab8 (Nat.le_refl 4) (cF rfl) fun XS UM=>If.bne (fun h=>absurd rfl h) fun _=>Ar.i64 (by decide) ⟨0,by decide,.inr ⟨rfl,rfl,T',fr',Ex,?_,?_,?_,UM.get ab8,?_⟩⟩
  .have:=(s19.a b (aV gg0)).trans t0;exact y19.loc UM.ext fun i hi=>by subst hi;exact .inl this
  .exact((fg.no UY).trans s19).out UM.ext (by omega)
  .exact(s19.a b1 (aV gg1)).trans t1
  .exact aw aen UM.ext (by show b1≠b;omega)
 .refine If.dec (fun h=>absurd h (by omega)) fun _=>⟨_,Cell.ah gb rfl,_,Cell.ah gb rfl,_,Cell.ah gb rfl,_,Cell.ah gb rfl,rfl,cr.mk gb1 (Nat.le_refl 4) (cF rfl) fun FU h22=>?_⟩
  have g22:=h22.get gb1;exact⟨_,Cell.ah g22 rfl,_,Cell.ah g22 rfl,_,Cell.ah g22 rfl,_,Cell.ah g22 rfl,k T17 ael aem FU (y17.loc h22.ext fun i hi=>by subst hi;exact .inl Z_) (s17.out h22.ext (by omega))⟩
end
end Go.Proofs.YtefdekemmnnclaaGreat
namespace Go.Proofs.YtefdekemmnnclaaGreat
open Go.V Go.V.Pk Go.V.Dk Go.V.Rn
section
variable {w w':Wd} {T T':Nat->Nat} {s:SA} {Q:Nat->Prop}
abbrev Y2(s:SA)(t:Int):List Value:=[s.src,.int .u32 t,.int .u32 0,.int .u64 0,.int .u16 0,.int .u8 0,.slice none 0 0]
theorem Wx{t:Int}{cb:Nat}{ch:Value}{K:Int->Pw}(g:w.heap[cb]? = some (.cells (Y2 s t).toArray 433 (0,0)))(k:K 0 w):fU (some ⟨cb,0,none⟩) ch w K:=by
 apply xi;refine⟨fun u=>w=u,If.no (Nn.mk ⟨s.src,Cell.ah g rfl,trivial,If.no rfl⟩),?_⟩;rintro _ _ rfl;exact Nn.mk ⟨0,Cell.ah g rfl,0,Cell.ah g rfl,0,Cell.ah g rfl,0,Cell.ah g rfl,If.yes k⟩
theorem QT{t:Int}{cb:Nat}{K:Sl->Sl->Int->Pw}(g:w.heap[cb]? = some (.cells (Y2 s t).toArray 433 (0,0)))(k:∀w',Ext No w w'->K ⟨none,0,0⟩ ⟨none,0,0⟩ 7 w'):jb (some ⟨cb,0,none⟩) w K:=by
 apply xj
 refine fun b w1 n1=>⟨fun u=>w1=u,If.no (Nn.mk ⟨s.src,Cell.ah (aj g n1.ext) rfl,trivial,If.no rfl⟩),?_⟩
 rintro _ _ rfl;have xd:Ext No w1 (aa w1):=(Ext.refl _ _).drew;refine Nn.mk ⟨⟨none,0,0⟩,Cell.ah (aj g n1.ext) rfl,fun p u=>⟨none,0,0⟩=p/\aa w1=u,⟨fun t u=>false=t/\aa w1=u,⟨Ext No w1,xd,If.dec (fun h=>absurd h (by decide)) fun _=>⟨rfl,rfl⟩⟩,?_⟩,?_⟩
 .rintro _ _ _ ⟨rfl,rfl⟩;exact If.no ⟨rfl,rfl⟩
 .rintro _ _ _ ⟨rfl,rfl⟩;have gd:=aj n1.get xd;refine If.beq (fun _=>⟨rfl,cr.mk gd (Nat.le_refl 2) (cF rfl) fun w9 h9=>?_⟩) fun h=>absurd rfl h
  have g9:=h9.get gd;have a1:=n1.at_;exact⟨⟨none,0,0⟩,Cell.ah g9 rfl,⟨none,0,0⟩,Cell.ah g9 rfl,k w9 ((n1.ext.no xd).out h9.ext (by omega))⟩
theorem aeo{t:Int}{cb b0 b1 b2 b3:Nat}{yield:Value}{K:Pw}(g:w.heap[cb]? = some (.cells (Y2 s t).toArray 433 (0,0)))(g0:w.heap[b0]? = some (.cells [Value.pointer (some ⟨cb,0,none⟩)].toArray 348 (0,0)))(g1:w.heap[b1]? = some (.cells [Value.bool false].toArray 4 (0,0)))(g2:w.heap[b2]? = some (.cells [Value.slice none 0 0].toArray 25 (0,0)))
  (k:∀w',Ext No w w'->K w'):ik yield ⟨b0,0,none⟩ ⟨b1,0,none⟩ ⟨b2,0,none⟩ ⟨b3,0,none⟩ w K:=by
 apply vI;refine⟨some ⟨cb,0,none⟩,Cell.ah g0 rfl,fun e st u=>0=e/\ .func (.func 336) #[.pointer (some ⟨cb,0,none⟩)] #[]=st/\Ext No w u,⟨false,Cell.ah g1 rfl,If.not (If.no ⟨_,Cell.ah g0 rfl,⟨none,0,0⟩,Cell.ah g2 rfl,xo fun b w1 n1=>Wx (aj g n1.ext) ⟨rfl,rfl,n1.ext⟩⟩)⟩,?_⟩;rintro _ _ _ w4 ⟨rfl,rfl,x4⟩;refine⟨fun _ e u=>0=e/\w4=u,⟨0,rfl,rfl⟩,?_⟩;rintro _ _ _ _ ⟨rfl,rfl⟩;refine If.beq (fun _=>fun b w6 n6=>xl (QT (aj (aj g x4) n6.ext) fun w7 x7=>⟨rfl,cr.mk (aj n6.get x7) (Nat.le_refl 2) (cF rfl) fun w8 h8=>If.beq (fun _=>k w8 (((x4.no n6.ext).no x7).out h8.ext ?_)) fun h=>absurd rfl h⟩)) fun h=>absurd rfl h
 have:=n6.at_;have:=x4.size;omega
set_option maxHeartbeats 1000000 in
theorem Y3{t:Int}{K:Sl->Int->Pw}(k:∀w',Ext No w w'->K ⟨none,0,0⟩ 0 w'):rX s.src t 0 0 0 0 ⟨none,0,0⟩ ⟨none,0,0⟩ 4611686018427387904 false w K:=by
 apply H8;refine fun b w1 n1 b1 w2 n2 b2 w3 n3 b3 w4 n4=>?_
 have z1:=n1.size;have z2:=n2.size;have z3:=n3.size;have z4:=n4.size;have a2:=n2.at_;have a3:=n3.at_;have a4:=n4.at_;have g0:=aj (aj (aj n1.get n2.ext) n3.ext) n4.ext;have g1:=aj (aj n2.get n3.ext) n4.ext;have g2:=aj n3.get n4.ext;have g3:=n4.get;have x4:Ext No w w4:=((n1.ext.no n2.ext).no n3.ext).no n4.ext;refine⟨0,Cell.ah g0 rfl,0,Cell.ah g0 rfl,0,Cell.ah g0 rfl,0,Cell.ah g0 rfl,Jl fun c w5 n5=>⟨trivial,If.no ⟨0,Cell.ah n5.get rfl,0,Cell.ah n5.get rfl,0,Cell.ah n5.get rfl,0,Cell.ah n5.get rfl,rfl,fun cb w6 n6=>Wx n6.get (If.bne (fun h=>absurd rfl h) fun _=>If.bne (fun h=>absurd rfl h) fun _=>fun b4 w8 n8=>?_)⟩⟩⟩;have P8:Ext No w4 w8:=(n5.ext.no n6.ext).no n8.ext;have z5:=n5.size;have z6:=n6.size;have z8:=n8.size;have a8:=n8.at_;refine⟨_,Cell.ah (aj g1 P8) rfl,If.dec (fun h=>absurd h (by decide)) fun _=>yW fun c0 w9 n9 c2 gG ji c3 hU PV c1 mw zA rf dk lp lK jH _=>?_⟩;have z9:=n9.size;have Tc:=ji.size;have z11:=PV.size;have X9:=zA.size;obtain⟨mr,z13,YU,YV⟩:=jH.facts;have hlp:lp=mw.heap.size+1:=jH.l;have hdk:dk=mw.heap.size:=jH.d;have xc:Ext No w8 mw:=((n9.ext.no ji.ext).no PV.ext).no zA.ext;have xa:Ext No w8 lK:=xc.no mr;refine vJ (aeo (aj n6.get (n8.ext.no xa)) (aj n9.get (((ji.ext.no PV.ext).no zA.ext).no mr)) (aj zA.get mr) (aj ji.get ((PV.ext.no zA.ext).no mr)) fun zn Fk=> .inr (.inr ⟨YU.ext Fk fun h=>h,⟨none,0,0⟩,?_⟩));have xp:Ext (·=lp) zn (aN lp rf .exhausted none zn):=gf;have zp:(aN lp rf .exhausted none zn).heap.size=zn.heap.size:=sU;have Y4:=xa.no Fk;have z21:=Y4.size;have g4p:(aN lp rf .exhausted none zn).heap[b4]? = _:=aw (aj n8.get Y4) xp (by omega);have Y5:=P8.no Y4;have g2p:(aN lp rf .exhausted none zn).heap[b2]? = _:=aw (aj g2 Y5) xp (by omega);have g3p:(aN lp rf .exhausted none zn).heap[b3]? = _:=aw (aj g3 Y5) xp (by omega);refine⟨Cell.ah g4p rfl,aH.mk g2p Nat.one_pos rfl fun oQ M3=>aH.mk (aw g3p M3.ext (by show b3≠b2;omega)) Nat.one_pos rfl fun wA MS=>?_⟩;have Y6:=M3.get g2p;have aep:=aw Y6 MS.ext (by show b2≠b3;omega);have aeq:=MS.get (aw g3p M3.ext (by show b3≠b2;omega));have aer:gT dk wA:=(((YV.ext Fk fun h=>h).ext xp (by omega)).ext M3.ext (by show dk≠b2;omega)).ext MS.ext (by show dk≠b3;omega);have xd:Ext (·=dk) wA (bN dk wA):=pF;refine⟨aer,⟨none,0,0⟩,Cell.ah (aw aep xd (by omega)) rfl,0,Cell.ah (aw aeq xd (by omega)) rfl,k _ ?_⟩;exact((((x4.no Y5).trans xp fun i hi h=>by omega).trans M3.ext fun i hi h=>by have:i=b2:=h;omega).trans MS.ext fun i hi h=>by have:i=b3:=h;omega).trans xd fun i hi h=>by omega
theorem Sq{K:Sl->Int->Pw}(k:∀w',Ext No w w'->K ⟨none,0,0⟩ 0 w'):wR s.src 0 0 0 0 w K:=by
 apply LV
 refine fun b w1 n1=>⟨0,Cell.ah n1.get rfl,0,Cell.ah n1.get rfl,0,Cell.ah n1.get rfl,0,Cell.ah n1.get rfl,Y3 fun w2 x2=>If.bne (fun h=>absurd rfl h) fun _=>⟨fun _ o t u=>⟨none,0,0⟩=o/\0=t/\w2=u,⟨0,rfl,rfl,rfl⟩,?_⟩⟩
 rintro _ _ _ _ _ ⟨rfl,rfl,rfl⟩;exact If.dec (fun h=>absurd h (by decide)) fun _=>k w2 (n1.ext.no x2)
theorem PA{t:Int}{K:Sl->Pw}(h:0<=t/\t<=4294967295)(k:∀sl w',aD w'.heap w.heap.size sl (be 4 t)->Ext No w w'->K sl w'):wT t w K:=by
 apply L2;exact Ar.u64 (by omega) (iK h.1 (by decide) (by decide) (by show t < 256 ^ 4;omega) fun sl w1 o1 x1=>k sl w1 o1 x1)
end
end Go.Proofs.YtefdekemmnnclaaGreat
namespace Go.V
open Go.V.Pk Go.Proofs.YtefdekemmnnclaaGreat
theorem KG(l:List Int):B8 (hX l):=by
 intro x hx;obtain⟨y,hy,hx⟩:=List.mem_flatten.1 hx;obtain⟨z,_,rfl⟩:=List.mem_map.1 hy;exact CI _ x hx
theorem KH{l:List Int}(h:B8 l):B8 (textB l):=(CI _).append h
theorem Sr{h:gA}(r:MT h):B8 (mO h):=(CI _).append ((CI _).append (KH r.wr))
end Go.V
namespace Go.Proofs.YtefdekemmnnclaaGreat
open Go.V Go.V.Pk Go.V.Dk Go.V.Rn
theorem Ss{x:ru}(r:R_ x):B8 (zR x):=by
 rw[KC];refine(KG _).append ((KH r.mark).append ((KG _).append fun y hy=>?_));obtain⟨z,hz,hy⟩:=List.mem_flatten.1 hy;obtain⟨h,hh,rfl⟩:=List.mem_map.1 hz;exact Sr (r.held h hh) y hy
section
variable {w w':Wd} {T T':Nat->Nat} {s:SA} {Q:Nat->Prop}
set_option maxHeartbeats 1000000 in
theorem St{g:Int}{r:fP}{m:Nat}{v:oD}{x:ru}{K:Int->Int->Int->Int->Int->Pw}(y:Sy w T s)(P:Px s 0 g r m)(hx:wC Q w.heap v x)(rg:R_ x)(may:KA x)(hf:(zR x).length<=64)
  (k:∀T' fr' Ex w',Sy w' T' (s.put 0 g r fr' Ex (pad (wr 1 0 [⟨be 4 x.az,zR x,0,.z,.z⟩])))->fg T w T' w'->K r.1 s.cm g 0 0 w'):uB s.src 0 0 0 0 v.az v.dy v.mark v.root.p v.root.c v.root.g v.lev v.bE v.held w K:=by
 apply Jr
 refine fun b w1 n1 b1 w2 n2 b2 w3 n3=>⟨trivial,If.no ?_⟩
 have z1:=n1.size;have z2:=n2.size;have z3:=n3.size;have a1:=n1.at_;have a2:=n2.at_;have a3:=n3.at_;have x3:Ext No w w3:=(n1.ext.no n2.ext).no n3.ext;have g0:=aj (aj n1.get n2.ext) n3.ext;have g1:w3.heap[b1]? = some (.cells v.cells.toArray 144 (0,0)):=aj n2.get n3.ext;have g2:=n3.get;refine⟨v.az,Cell.ah g1 rfl,v.dy,Cell.ah g1 rfl,v.mark,Cell.ah g1 rfl,v.root.p,Cell.ah g1 rfl,v.root.c,Cell.ah g1 rfl,v.root.g,Cell.ah g1 rfl,v.lev,Cell.ah g1 rfl,v.bE,Cell.ah g1 rfl,v.held,Cell.ah g1 rfl,?_⟩;refine MV (hx.no x3) rg (by rcases may.2.2.2.2.2.2.2 with⟨a,h,_⟩ | ⟨a,b,h,_⟩ <;> simp[h]) (fun w' h _=>absurd may h) fun t5 w5 _ o5 x5=>If.bne (fun h=>absurd rfl h) fun _=>?_
 have nC:=x3.no x5;have y5:=y.no nC;have t0:T b=0:=y.out b (by omega);have t1:T b1=0:=y.out b1 (by omega);have t2:T b2=0:=y.out b2 (by omega);have n0:¬ ((1<=T b/\T b<=12)∨b=b2):=by omega
 have n1':¬ ((1<=T b1/\T b1<=12)∨b1=b2):=by omega
 have h0:=aj g0 x5;have h1:=aj g1 x5;have h2:=aj g2 x5;refine⟨Ext (fun i=>(1<=T i/\T i<=12)∨i=b2) w5,(Ext.refl _ _).drew,0,af.bq (Cell.ah h0 rfl) n0,0,af.bq (Cell.ah h0 rfl) n0,0,af.bq (Cell.ah h0 rfl) n0,0,af.bq (Cell.ah h0 rfl) n0,v.az,af.bq (Cell.ah h1 rfl) n1',?_⟩
 refine PA (by rw[hx.az];exact rg.az) fun sk w7 o7 x7=>⟨x7.ae.aF,fun b3 w8 n8=>?_⟩
 have PZ:Ext No w5 w7:=x7.ae;have FZ:=PZ.no n8.ext;have y8:=y5.no FZ;refine⟨FZ.aF,?_⟩;have ho:Rd w8.heap ⟨some ⟨b3,0,none⟩,1,1⟩ 3 [sk.v,t5.v,Value.bool false]:=(aP.new (n:=1) (sz:=3) n8 rfl (cF rfl)).rd;have hB:B8 (be 4 v.az):=bM _ _;rw[hx.az]at o7 hB;refine Py y8 P ho rfl (Rd.no o7.rd n8.ext) (Rd.no o5.rd FZ) hB (Ss rg) (by simp[aI]) (by simp[aI]) hf fun T' fr' Ex w9 y9 s9=>?_
 have Su:=aj h2 FZ;have x59:Ext (fun i=>(1<=T i/\T i<=12)∨i=b2) w5 w9:=FZ.aF.trans s9.x fun i _ h=> .inl h
 have h29:=s9.au Su (.inl t2);refine⟨x59,rfl,cr.mk h29 (Nat.le_refl 4) (cF rfl) fun gG Cp=>⟨x59.trans Cp.ext fun i _ h=> .inr h,?_⟩⟩;have wa:=Cp.get h29;have t2':=(s9.a b2 (aV Su)).trans t2;exact⟨_,Cell.ah wa rfl,_,Cell.ah wa rfl,_,Cell.ah wa rfl,_,Cell.ah wa rfl,k T' fr' Ex gG (y9.loc Cp.ext fun i hi=>by subst hi;exact .inl t2') (((fg.no (nC.no FZ)).trans s9).out Cp.ext (by omega))⟩
end
end Go.Proofs.YtefdekemmnnclaaGreat
namespace Go.Proofs.YtefdekemmnnclaaGreat
open Go.V Go.V.Dk Go.V.Rn
structure VA where
 vb:Nat
 key:Sl
 kl:List Int
 op:Bool
 mp:MP
 al:Nat
 ts:List (Int×Value)
abbrev VA.p(v:VA):Option Addr:=some ⟨v.vb,0,none⟩
abbrev UZ(key:Sl)(d g l:Option Addr)(op:Bool)(rb p:Option Addr)(m:MP)(al:Nat):List Value:=[.int .i64 100,.int .u64 1000,.slice none 0 0,key.v,.pointer d,.pointer g,.pointer l,.bool op,.pointer rb,.pointer p,.int .u64 m.cm,.int .u32 m.pg,.int .u64 m.rc,.int .u16 m.gn,.int .u8 m.lv,.int .u16 m.rg,.int .u32 m.tn,.map (some al)]
abbrev VA.c(v:VA)(s:SA):List Value:=UZ v.key s.d.p s.gB s.lB v.op s.rB s.p v.mp v.al
section
variable {w w':Wd} {T T':Nat->Nat} {s s':SA} {v v':VA} {S:Nat->Prop}
structure ry(w:Wd)(T:Nat->Nat)(v:VA)(s:SA):Prop where
 y:Sy w T s
 b:w.heap[v.vb]? = some (.cells (v.c s).toArray 90 (0,0))
 tb:T v.vb=13
 k:aL w.heap v.key v.kl
 kt:∀i,v.key.au=some i->T i=14/\i < w.heap.size
 kB:B8 v.kl
 kn:v.key.len=32
 a:fh w.heap qg v.al v.ts
 ta:T v.al=15
structure t_(T:Nat->Nat)(w:Wd)(T':Nat->Nat)(w':Wd):Prop where
 z:∀i,i < w.heap.size->T i=0->T' i=0
 x:Ext (fun i=>T i≠0) w w'
theorem fg.tw(h:fg T w T' w'):t_ T w T' w':=⟨fun i hi h0=>(h.a i hi).trans h0,h.x.mono fun i _ h=>by omega⟩
theorem t_.trans{T1 T2:Nat->Nat}{w1 w2:Wd}(h:t_ T w T1 w1)(k:t_ T1 w1 T2 w2):t_ T w T2 w2:=
 ⟨fun i hi h0=>k.z i (Nat.lt_of_lt_of_le hi h.x.size) (h.z i hi h0),h.x.trans k.x fun i hi hh h0=>hh (h.z i hi h0)⟩
theorem t_.no(x:Ext No w w'):t_ T w T w':=⟨fun _ _ h=>h,x.aF⟩
theorem t_.nx{T1:Nat->Nat}{w1:Wd}(h:t_ T w T1 w1)(k:Ext No w1 w'):t_ T w T1 w':=h.trans (.no k)
theorem t_.au{o:Obj}{b:Nat}(h:t_ T w T' w')(hb:w.heap[b]? = some o)(ht:T b=0):w'.heap[b]? = some o:=(h.x.au b (aV hb) fun hh=>hh ht).trans hb
theorem t_.out{w1:Wd}{b:Nat}(h:t_ T w T' w1)(x:Ext (·=b) w1 w')(hb:w.heap.size<=b):t_ T w T' w':=⟨h.z,h.x.trans x fun i hi e=>by subst e;omega⟩
theorem t_.one{b:Nat}(x:Ext (·=b) w w')(hb:T b≠0):t_ T w T w':=⟨fun _ _ h=>h,x.mono fun i _ h=>by subst h;exact hb⟩
theorem ry.sy(V:ry w T v s)(st:fg T w T' w')(y':Sy w' T' s')(hd:s'.R.dev=s.R.dev)(hg:s'.g.rb=s.g.rb)(hl:s'.lb=s.lb)(hr:s'.rb=s.rb)(hp:s'.pb=s.pb):ry w' T' v s':=by
 have hv:v.c s'=v.c s:=by
  have e1:s'.d.p=s.d.p:=by rw[<- y'.rg.d,<- V.y.rg.d,hd]
  show UZ v.key s'.d.p (some ⟨s'.g.rb,0,none⟩) (some ⟨s'.lb,0,none⟩) v.op (some ⟨s'.rb,0,none⟩) (some ⟨s'.pb,0,none⟩) v.mp v.al=_;rw[e1,hg,hl,hr,hp]
 refine⟨y',?_,(st.a _ (aV V.b)).trans V.tb,V.k.ext st.x fun p b hp hb hh=>?_,fun i hi=>⟨(st.a i (V.kt i hi).2).trans (V.kt i hi).1,Nat.lt_of_lt_of_le (V.kt i hi).2 st.x.size⟩,V.kB,V.kn,V.a.ext st.x fun h=>by have:=V.ta;omega,(st.a _ (map_lt V.a)).trans V.ta⟩
 .rw[hv];exact st.au V.b (.inr (by rw[V.tb];decide))
 .have:=(V.kt b (by simp[Sl.au,hp,hb])).1;omega
theorem ry.no(V:ry w T v s)(x:Ext No w w'):ry w' T v s:=V.sy (.no x) (V.y.no x) rfl rfl rfl rfl rfl
theorem ry.loc(V:ry w T v s)(x:Ext S w w')(h:∀i,S i->T i=0∨16<=T i):ry w' T v s:=by
 have hn:∀i,13<=T i->T i<=15->¬ S i:=fun i h1 h2 hi=>by have:=h i hi;omega
 exact⟨V.y.loc x fun i hi=>by have:=h i hi;omega,(x.au _ (aV V.b) (hn _ (by rw[V.tb];decide) (by rw[V.tb];decide))).trans V.b,V.tb,V.k.ext x fun p b hp hb=>hn b (by rw[(V.kt b (by simp[Sl.au,hp,hb])).1];decide) (by rw[(V.kt b (by simp[Sl.au,hp,hb])).1];decide),fun i hi=>⟨(V.kt i hi).1,Nat.lt_of_lt_of_le (V.kt i hi).2 x.size⟩,V.kB,V.kn,V.a.ext x (hn _ (by rw[V.ta];decide) (by rw[V.ta];decide)),V.ta⟩
theorem ry.put(V:ry w T v s){op:Bool}{mp:MP}(r:w'.heap[v.vb]? = some (.cells (({ v with op:=op,mp:=mp }:VA).c s).toArray 90 (0,0)))(x:Ext (·=v.vb) w w'):ry w' T { v with op:=op,mp:=mp } s:=by
 have tb:=V.tb;exact⟨V.y.loc x fun i hi=>by rw[hi,tb];exact .inr (Nat.le_refl _),r,tb,V.k.ext x fun p b hp hb e=>by have:=(V.kt b (by simp[Sl.au,hp,hb])).1;rw[e,tb]at this;exact absurd this (by decide),fun i hi=>⟨(V.kt i hi).1,Nat.lt_of_lt_of_le (V.kt i hi).2 x.size⟩,V.kB,V.kn,V.a.ext x fun e=>by have:=V.ta;rw[e,tb]at this;exact absurd this (by decide),V.ta⟩
theorem ry.ten(V:ry w T v s){ts:List (Int×Value)}(r:fh w'.heap qg v.al ts)(x:Ext (·=v.al) w w'):ry w' T { v with ts:=ts } s:=by
 have ta:=V.ta;exact⟨V.y.loc x fun i hi=>by rw[hi,ta];exact .inr (by decide),(x.au _ (aV V.b) fun e=>by have:=V.tb;rw[e,ta]at this;exact absurd this (by decide)).trans V.b,V.tb,V.k.ext x fun p b hp hb e=>by have:=(V.kt b (by simp[Sl.au,hp,hb])).1;rw[e,ta]at this;exact absurd this (by decide),fun i hi=>⟨(V.kt i hi).1,Nat.lt_of_lt_of_le (V.kt i hi).2 x.size⟩,V.kB,V.kn,r,ta⟩
theorem U0{m:MP}{K:Int->Int->Int->Int->Int->Int->Int->Pw}(k:∀w',Ext No w w'->K m.cm m.pg m.rc m.gn m.lv m.rg m.tn w'):eH m.cm m.pg m.rc m.gn m.lv m.rg m.tn 0 w K:=by
 apply oM;refine fun b w1 n1 b1 w2 n2=>iQ ?_
 have g1:=aj n1.get n2.ext;refine⟨_,Cell.ah g1 rfl,_,Cell.ah g1 rfl,_,Cell.ah g1 rfl,_,Cell.ah g1 rfl,_,Cell.ah g1 rfl,_,Cell.ah g1 rfl,_,Cell.ah g1 rfl,rfl,cr.mk n2.get (Nat.le_refl 7) (cF rfl) fun w3 h3=>?_⟩;have g3:=h3.get n2.get;have a2:=n2.at_;have z1:=n1.size;exact⟨_,Cell.ah g3 rfl,_,Cell.ah g3 rfl,_,Cell.ah g3 rfl,_,Cell.ah g3 rfl,_,Cell.ah g3 rfl,_,Cell.ah g3 rfl,_,Cell.ah g3 rfl,k w3 ((n1.ext.no n2.ext).out h3.ext (by omega))⟩
theorem PB{p c g l:Int}{K:Int->Int->Int->Int->Pw}(k:∀w',Ext No w w'->K p c g l w'):gk p c g l 0 w K:=by
 apply tN;refine fun b w1 n1 b1 w2 n2=>iQ ?_
 have g1:=aj n1.get n2.ext;refine⟨_,Cell.ah g1 rfl,_,Cell.ah g1 rfl,_,Cell.ah g1 rfl,_,Cell.ah g1 rfl,rfl,cr.mk n2.get (Nat.le_refl 4) (cF rfl) fun w3 h3=>?_⟩;have g3:=h3.get n2.get;have a2:=n2.at_;have z1:=n1.size;exact⟨_,Cell.ah g3 rfl,_,Cell.ah g3 rfl,_,Cell.ah g3 rfl,_,Cell.ah g3 rfl,k w3 ((n1.ext.no n2.ext).out h3.ext (by omega))⟩
theorem PC{g c:Int}{x:Sl}{K:Int->Int->Sl->Pw}(k:∀w',Ext No w w'->K g c x w'):gj g c x 0 w K:=by
 apply tO;refine fun b w1 n1 b1 w2 n2=>iQ ?_
 have g1:=aj n1.get n2.ext;refine⟨_,Cell.ah g1 rfl,_,Cell.ah g1 rfl,x,Cell.ah g1 rfl,rfl,cr.mk n2.get (Nat.le_refl 3) (cF rfl) fun w3 h3=>?_⟩;have g3:=h3.get n2.get;have a2:=n2.at_;have z1:=n1.size;exact⟨_,Cell.ah g3 rfl,_,Cell.ah g3 rfl,x,Cell.ah g3 rfl,k w3 ((n1.ext.no n2.ext).out h3.ext (by omega))⟩
theorem EB{K:Pw}{vv ev:Option Addr}(k:K w):oG pz 31 #[.pointer vv,.pointer ev] K w:=
 xM ⟨trivial,If.yes k⟩
end
end Go.Proofs.YtefdekemmnnclaaGreat
namespace Go.Proofs.YtefdekemmnnclaaGreat
open Go.V Go.V.Dk Go.V.Rn
section
variable {w w':Wd} {T T':Nat->Nat} {S:Nat->Prop} {vb:Nat} {key:Sl} {kl:List Int} {d:vY} {D:DS} {g:EK} {R:RS} {rb mb:Nat} {ks:List RK} {lb:Nat} {ls:Sl} {L:List LE} {al:Nat} {op:Bool} {m:MP}
structure Cv(w:Wd)(T:Nat->Nat)(vb:Nat)(key:Sl)(kl:List Int)(d:vY)(D:DS)(g:EK)(R:RS)(rb mb:Nat)(ks:List RK)(lb:Nat)(ls:Sl)(L:List LE)(al:Nat)(op:Bool)(m:MP):Prop where
 dk:Yi w T d D
 rg:V4 w T d g R
 rn:Yj w T rb mb ks
 lg:Yk w T lb ls L
 out:∀i,w.heap.size<=i->T i=0
 b:w.heap[vb]? = some (.cells (UZ key d.p g.p (some ⟨lb,0,none⟩) op (some ⟨rb,0,none⟩) none m al).toArray 90 (0,0))
 tb:T vb=13
 k:aL w.heap key kl
 kt:∀i,key.au=some i->T i=14/\i < w.heap.size
 kB:B8 kl
 kn:key.len=32
 a:fh w.heap qg al ([]:List (Int×Value))
 ta:T al=15
theorem Cv.no(P:Cv w T vb key kl d D g R rb mb ks lb ls L al op m)(x:Ext No w w'):Cv w' T vb key kl d D g R rb mb ks lb ls L al op m:=by
 have a:Ag T T w.heap.size:=fun _ _=>rfl
 have f:∀(k i:Nat),T i=k->¬ No i:=fun _ _ _ h=>h
 exact⟨P.dk.aM x a (f 1),P.rg.aM x a (f 2),P.rn.aM x a (f 3),P.lg.aM x a (f 4),fun i hi=>P.out i (Nat.le_trans x.size hi),aj P.b x,P.tb,Rd.no P.k x,fun i hi=>⟨(P.kt i hi).1,Nat.lt_of_lt_of_le (P.kt i hi).2 x.size⟩,P.kB,P.kn,P.a.ext x fun h=>h,P.ta⟩
theorem Cv.put(P:Cv w T vb key kl d D g R rb mb ks lb ls L al op m){op':Bool}{m':MP}(r:w'.heap[vb]? = some (.cells (UZ key d.p g.p (some ⟨lb,0,none⟩) op' (some ⟨rb,0,none⟩) none m' al).toArray 90 (0,0)))(x:Ext (·=vb) w w'):Cv w' T vb key kl d D g R rb mb ks lb ls L al op' m':=by
 have a:Ag T T w.heap.size:=fun _ _=>rfl
 have tb:=P.tb;have f:∀(k:Nat),k≠13->∀i,T i=k->¬ (i=vb):=fun k hk i h e=>by subst e;exact hk (h.symm.trans tb)
 exact⟨P.dk.aM x a (f 1 (by decide)),P.rg.aM x a (f 2 (by decide)),P.rn.aM x a (f 3 (by decide)),P.lg.aM x a (f 4 (by decide)),fun i hi=>P.out i (Nat.le_trans x.size hi),r,P.tb,P.k.ext x fun p b hp hb e=>f 14 (by decide) b (P.kt b (by simp[Sl.au,hp,hb])).1 e,fun i hi=>⟨(P.kt i hi).1,Nat.lt_of_lt_of_le (P.kt i hi).2 x.size⟩,P.kB,P.kn,P.a.ext x (f 15 (by decide) _ P.ta),P.ta⟩
theorem Cv.ring{k:RK}(P:Cv w T vb key kl d D g R rb mb ks lb ls L al op m)(r:kR w' rb mb (ks++[k]))(hk:∀i,k.s.au=some i->w.heap.size<=i)(x:Ext (·=mb) w w')(hn:ks.length < 100):Cv w' (iB T w.heap.size w'.heap.size 3) vb key kl d D g R rb mb (ks++[k]) lb ls L al op m:=by
 have a:=bC T w.heap.size w'.heap.size 3;have c:=P.rn;have f:∀(k:Nat),k≠3->∀i,T i=k->¬ (i=mb):=fun k hk i h e=>by subst e;exact hk (h.symm.trans c.t2)
 refine⟨P.dk.aM x a (f 1 (by decide)),P.rg.aM x a (f 2 (by decide)),⟨r,(a _ (aV c.r.au)).trans c.t,(a _ (map_lt c.r.map)).trans c.t2,fun q hq i hi=>?_,by simp;omega⟩,P.lg.aM x a (f 4 (by decide)),pE _ _ _ _ x.size,(x.au _ (aV P.b) (f 13 (by decide) _ P.tb)).trans P.b,(a _ (aV P.b)).trans P.tb,P.k.ext x fun p b hp hb e=>f 14 (by decide) b (P.kt b (by simp[Sl.au,hp,hb])).1 e,fun i hi=>⟨(a i (P.kt i hi).2).trans (P.kt i hi).1,Nat.lt_of_lt_of_le (P.kt i hi).2 x.size⟩,P.kB,P.kn,P.a.ext x (f 15 (by decide) _ P.ta),(a _ (map_lt P.a)).trans P.ta⟩;rcases List.mem_append.1 hq with h | h
 .exact(a i (c.r.klt h hi)).trans (c.t3 q h i hi)
 .simp only[List.mem_singleton]at h;subst h;exact cR T (hk i hi) (r.klt (List.mem_append.2 (.inr (List.mem_singleton.2 rfl))) hi)
abbrev mp0:MP:=⟨0,0,0,0,0,0,0⟩
abbrev Ij:MP:=⟨0,0,0,0,0,1,0⟩
set_option maxHeartbeats 4000000 in
theorem KI{K:Int->Pw}(dk:Yi w T d D)(rg:V4 w T d g R)(lg:Yk w T lb ls L)(out:∀i,w.heap.size<=i->T i=0)
  (hb:w.heap[vb]? = some (.cells [.int .i64 100,.int .u64 1000,.slice none 0 0,key.v,.pointer d.p,.pointer g.p,.pointer (some ⟨lb,0,none⟩),.bool false,.pointer none,.pointer none,.int .u64 0,.int .u32 0,.int .u64 0,.int .u16 0,.int .u8 0,.int .u16 0,.int .u32 0,.map none].toArray 90 (0,0)))
  (tb:T vb=13) (hk:aL w.heap key kl) (kt:∀i,key.au=some i->T i=14/\i < w.heap.size) (kB:B8 kl) (kn:key.len=32) (hz:∀i:Nat,i < 100->D.now.getD i []=bW) (hR:R.bw=0)
  (k:∀T' s q kq al w',ry w' T' ⟨vb,key,kl,true,Ij,al,[]⟩ s->s.D=D->s.R=R->s.ks=[⟨⟨0,1⟩,q,kq⟩]->kq.length=32->s.L=L->s.F=[(2,100)]->s.ps=[]->s.cm=0->s.la=0->t_ T w T' w'->K 0 w'):gO (some ⟨vb,0,none⟩) false w K:=by
 apply vd;refine fun b w1 n1=>HI fun rb mb w2 R2 hrb hmb x2 al w3 n3=>?_
 have a1:=n1.at_;have z1:=n1.size;have a3:=n3.at_;have z3:=n3.size;have z2:=x2.size;have qf:Ext No w w3:=(n1.ext.no x2).no n3.ext
 obtain⟨T3,hT⟩ : ∃T3,T3=iB (iB T w1.heap.size w2.heap.size 3) w2.heap.size w3.heap.size 15:=⟨_,rfl⟩
 have ag1:Ag T T3 w1.heap.size:=fun i hi=>by rw[hT,bC _ _ _ _ i (by omega),bC _ _ _ _ i hi]
 have ag:Ag T T3 w.heap.size:=fun i hi=>ag1 i (by omega)
 have tq:=aj hb qf;have lvb:=aV hb;have tb3:T3 vb=13:=(ag vb lvb).trans tb;have tal:T3 al=15:=by rw[hT];exact cR _ (by omega) (by omega)
 have t3:∀i,w1.heap.size<=i->i < w2.heap.size->T3 i=3:=fun i h1 h2=>by rw[hT,bC _ _ _ _ i h2];exact cR _ h1 h2
 have f:∀(k i:Nat),T i=k->¬ No i:=fun _ _ _ h=>h
 refine Nn.mk (aH.mk tq (Nat.le_of_ble_eq_true rfl) rfl fun w4 h4=>?_);have g4:=h4.get tq;refine Nn.mk (aH.mk g4 (Nat.le_of_ble_eq_true rfl) rfl fun w5 h5=>?_);have g5:=h5.get g4;refine Nn.mk (aH.mk g5 (Nat.le_of_ble_eq_true rfl) rfl fun w6 h6=>?_);have g6:=h6.get g5;refine Nn.mk (aH.mk g6 (Nat.le_of_ble_eq_true rfl) rfl fun w7 h7=>?_);have g7:w7.heap[vb]? = some (.cells (UZ key d.p g.p (some ⟨lb,0,none⟩) false (some ⟨rb,0,none⟩) none mp0 al).toArray 90 (0,0)):=h7.get g6;have To:Ext (·=vb) w3 w7:=((h4.ext.trans h5.ext fun i _ e=>e).trans h6.ext fun i _ e=>e).trans h7.ext fun i _ e=>e
 have f3:∀(k:Nat),k≠13->∀i,T3 i=k->¬ (i=vb):=fun k hk i h e=>by subst e;exact hk (h.symm.trans tb3)
 have agr:Ag T3 T3 w3.heap.size:=fun _ _=>rfl
 have P7:Cv w7 T3 vb key kl d D g R rb mb [] lb ls L al false mp0:=
  ⟨(dk.aM qf ag (f 1)).aM To agr (f3 1 (by decide)),(rg.aM qf ag (f 2)).aM To agr (f3 2 (by decide)),
   Yj.aM ⟨R2.no n3.ext,t3 _ hrb (aV R2.au),t3 _ hmb (map_lt R2.map),fun q h=>(nomatch h),Nat.zero_le _⟩ To agr (f3 3 (by decide)),(lg.aM qf ag (f 4)).aM To agr (f3 4 (by decide)),
   fun i hi=>by rw[hT];exact pE _ _ _ _ (by omega) i (Nat.le_trans To.size hi),g7,tb3,(Rd.no hk qf).ext To fun p c hp hc e=>f3 14 (by decide) c ((ag c (kt c (by simp[Sl.au,hp,hc])).2).trans (kt c (by simp[Sl.au,hp,hc])).1) e,
   fun i hi=>⟨(ag i (kt i hi).2).trans (kt i hi).1,by have:=(kt i hi).2;have:=qf.size;have:=To.size;omega⟩,kB,kn,(⟨#[],0,aw n3.get To (f3 15 (by decide) _ tal),rfl,db.nil⟩ : fh w7.heap qg al ([]:List (Int×Value))),tal⟩
 have Wy:T3 b=0:=(ag1 b (by omega)).trans (out b (by omega));have gb7:w7.heap[b]? = some (.cells [Value.int .i64 0].toArray 37 (0,0)):=aw (aj n1.get (x2.no n3.ext)) To (by omega)
 have s7:t_ T w T3 w7:=(⟨fun i hi h=>(ag i hi).trans h,(qf.aF.trans To fun i hi e=>by rw[e,tb];decide)⟩ : t_ T w T3 w7)
 refine⟨fun u=>w7=u,If.no rfl,?_⟩;rintro _ _ rfl;refine⟨fun n t u=>∃j:Nat,t=(j:Int)/\j<=2/\n=2 - j/\Ext No w7 u,⟨_,0,rfl,Nat.zero_le _,rfl,Ext.refl _ _⟩,?_⟩;rintro _ n t hU ⟨j,rfl,hj,rfl,oF⟩;have U1:=P7.no oF;refine If.dec (fun h=>?_) fun h=>?_
 .refine Nn.mk ⟨d.p,Cell.ah U1.b rfl,wu U1.dk.r (fun hh=>by rw[U1.dk.c.has (by omega)]at hh;cases hh) (fun _ hh=>by rw[U1.dk.c.down]at hh;cases hh) fun _ _ s5 mw o5 x5=>jx ?_⟩;have ez:D.now.getD ((j:Int)).toNat []=bW:=hz _ (by omega);rw[ez]at o5;refine Ms o5.rd ⟨fun t u=>false=t/\mw=u,If.beq (fun h=>absurd h (by decide)) fun _=>⟨rfl,rfl⟩,?_⟩;rintro _ _ _ ⟨rfl,rfl⟩;exact If.no (Ar.i64 (by omega) ⟨2 - (j+1),by omega,j+1,by push_cast;omega,by omega,rfl,oF.no x5⟩)
 have xd:Ext No hU (aa hU):=(Ext.refl _ _).drew;have P12:=U1.no xd;refine⟨Ext No hU,xd,Nn.mk ⟨d.p,af.bq (Cell.ah U1.b rfl) (fun h=>h),Nn.mk ⟨g.p,af.bq (Cell.ah U1.b rfl) (fun h=>h),Nn.mk ⟨some ⟨rb,0,none⟩,af.bq (Cell.ah U1.b rfl) (fun h=>h),?_⟩⟩⟩⟩
 refine Kp P12.rg.r hR fun FU Ih=>⟨Ih.ae,U0 (m:=mp0) fun Nz xI=>⟨Ih.ae.no xI,Nn.mk ⟨rfl,?_⟩⟩⟩
 have Sv:=Ih.ae.no xI;have P23:=U1.no Sv;refine cr.mk P23.b (Nat.le_of_ble_eq_true rfl) (cF rfl) fun oQ M3=>?_
 have P24:=P23.put (op':=false) (m':=mp0) (M3.get P23.b) M3.ext;refine⟨fun u=>Cv u T3 vb key kl d D g R rb mb [] lb ls L al false Ij/\t_ T w T3 u/\u.heap[b]? = some (.cells [Value.int .i64 0].toArray 37 (0,0)),Nn.mk ⟨0,Cell.ah P24.b rfl,If.beq (fun _=>Nn.mk (aH.mk P24.b (Nat.le_of_ble_eq_true rfl) rfl fun wA MS=>?_)) fun h=>absurd rfl h⟩,?_⟩
 .have oz:Ext (·=vb) Nz oQ:=M3.ext;have nD:Ext (·=vb) oQ wA:=MS.ext;have nz:T3 vb≠0:=by rw[tb3];decide
  exact⟨P24.put (op':=false) (m':=Ij) (MS.get P24.b) MS.ext,(((s7.nx oF).nx Sv).trans (t_.one oz nz)).trans (t_.one nD nz),aw (aw (aj (aj gb7 oF) Sv) oz (by omega)) nD (by omega)⟩
 rintro _ We ⟨P26,s26,aes⟩;refine Nn.mk ⟨some ⟨rb,0,none⟩,Cell.ah P26.b rfl,vy P26.rn.r (Nat.zero_le _) (Nat.zero_le _) fun s27 F5 o27 P9=>?_⟩;have e27:s27.len=0:=by have:=o27.len;simpa using this.symm
 have P27:=P26.no P9;refine⟨fun _ t u=>0=t/\F5=u,⟨0,rfl,rfl⟩,?_⟩;rintro _ _ _ _ ⟨rfl,rfl⟩;refine If.dec (fun h=>by omega) fun _=>?_
 refine⟨fun u=>∃T6 q kq,kq.length=32/\Cv u T6 vb key kl d D g R rb mb [⟨⟨0,1⟩,q,kq⟩] lb ls L al false Ij/\t_ T w T6 u/\T6 b=0/\u.heap[b]? = some (.cells [Value.int .i64 0].toArray 37 (0,0)),?_,?_⟩
 .refine Nn.mk ⟨some ⟨rb,0,none⟩,Cell.ah P27.b rfl,vy P27.rn.r (Nat.zero_le _) (Nat.zero_le _) fun s28 Fu o28 KJ=>?_⟩;have e28:s28.len=0:=by have:=o28.len;simpa using this.symm
  have Wz:=P27.no KJ;have nb:¬ (vb=mb):=fun e=>by have h1:=Wz.rn.t2;have h2:=Wz.tb;rw[e,h1]at h2;exact absurd h2 (by decide)
  have xd:Ext No Fu (aa Fu):=(Ext.refl _ _).drew;have P29:=Wz.no xd;refine If.beq (fun _=>?_) fun h=>by omega
  refine⟨Ext (·=mb) Fu,xd.aF,Nn.mk ⟨some ⟨rb,0,none⟩,af.bq (Cell.ah Wz.b rfl) nb,Nn.mk ⟨1,af.bq (Cell.ah Wz.b rfl) nb,Nn.mk ⟨key,af.bq (Cell.ah Wz.b rfl) nb,Nn.mk ⟨1,af.bq (Cell.ah Wz.b rfl) nb,?_⟩⟩⟩⟩⟩
  refine OQ P29.k kB kn fun s30 kq Kw o30 zm fC x30=>⟨x30.ae.aF,jx ⟨x30.ae.aF,?_⟩⟩
  have N5:Ext No Fu Kw:=x30.ae;have P30:=Wz.no N5;refine zD P30.rn.r rfl o30.rd fC (.inr (by rw[aD.len o30];exact zm)) fun q UI R31 hq YM=>?_
  have xx:Ext (·=mb) Fu UI:=N5.aF.trans YM fun i _ e=>e
  have ab9:=aj aes ((P9.no KJ).no N5);refine⟨xx,iQ ⟨xx,iB T3 Kw.heap.size UI.heap.size 3,q,kq,zm,P30.ring (k:=⟨⟨0,1⟩,q,kq⟩) R31 hq YM (by decide),?_,(bC _ _ _ _ b (aV ab9)).trans Wy,aw ab9 YM fun e=>?_⟩⟩
  .have st:t_ T3 Kw (iB T3 Kw.heap.size UI.heap.size 3) UI:=⟨fun i hi h=>(bC _ _ _ _ i hi).trans h,YM.mono fun i _ e=>by rw[e,P30.rn.t2];decide⟩
   exact(((s26.nx P9).nx KJ).nx N5).trans st
  .have:=P30.rn.t2;rw[<- e,Wy]at this;exact absurd this (by decide)
 rintro _ Wb ⟨T6,q,kq,zm,Cw,s36,tb6,aca⟩;have U2:Ext No Wb (aa Wb):=(Ext.refl _ _).drew;have U3:=Cw.no U2;have Rc:¬ (1<=T6 vb/\T6 vb<=12):=by rw[Cw.tb];decide
 refine⟨Ext (fun i=>1<=T6 i/\T6 i<=12) Wb,U2.aF,Nn.mk ⟨d.p,af.bq (Cell.ah Cw.b rfl) Rc,Nn.mk ⟨some ⟨rb,0,none⟩,af.bq (Cell.ah Cw.b rfl) Rc,Nn.mk ⟨some ⟨lb,0,none⟩,af.bq (Cell.ah Cw.b rfl) Rc,?_⟩⟩⟩⟩
 refine Ft U3.dk U3.rg U3.rn U3.lg fun T7 s Z4 y37 e1 e2 e3 e4 e5 e6 e7 e8 e9 U4 Tp N6 e13 e14 e15 e16 e17 s37=>⟨U2.aF.trans s37.x fun i _ h=>h,Mr ⟨U2.aF.trans s37.x fun i _ h=>h,?_⟩⟩
 have wD:fg T6 Wb T7 Z4:=(fg.no U2).trans s37;have b37:=wD.au Cw.b (.inr (by rw[Cw.tb];decide));have tb7:T7 vb=13:=(wD.a vb (aV Cw.b)).trans Cw.tb;refine Nn.mk (aH.mk b37 (Nat.le_of_ble_eq_true rfl) rfl fun Ct h39=>?_);have Tn:Ext (·=vb) Z4 Ct:=h39.ext;have b39:=h39.get b37
 have WA:ry Ct T7 ⟨vb,key,kl,false,Ij,al,[]⟩ s:=by
  refine⟨y37.loc Tn fun i hi=>by rw[hi,tb7];exact .inr (Nat.le_refl _),?_,tb7,(Cw.k.ext wD.x fun p c hp hc hh=>?_).ext Tn fun p c hp hc e=>?_,fun i hi=>⟨(wD.a i (Cw.kt i hi).2).trans (Cw.kt i hi).1,?_⟩,Cw.kB,Cw.kn,(Cw.a.ext wD.x fun hh=>?_).ext Tn fun e=>?_,(wD.a _ (map_lt Cw.a)).trans Cw.ta⟩
  .have hv:(⟨vb,key,kl,false,Ij,al,[]⟩ : VA).c s=UZ key d.p g.p (some ⟨lb,0,none⟩) false (some ⟨rb,0,none⟩) s.p Ij al:=by
    show UZ key s.d.p (some ⟨s.g.rb,0,none⟩) (some ⟨s.lb,0,none⟩) false (some ⟨s.rb,0,none⟩) s.p Ij al=_;rw[e1,e3,e8,e5]
   rw[hv];exact b39
  .have:=(Cw.kt c (by simp[Sl.au,hp,hc])).1;omega
  .have:=(Cw.kt c (by simp[Sl.au,hp,hc])).1;have h2:=Cw.tb;rw[e]at this;omega
  .have:=(Cw.kt i hi).2;have:=wD.x.size;have:=Tn.size;omega
  .have:=Cw.ta;omega
  .have:=Cw.ta;have h2:=Cw.tb;rw[e]at this;omega
 have acb:Ct.heap[b]? = some (.cells [Value.int .i64 0].toArray 37 (0,0)):=aw (wD.au aca (.inl tb6)) Tn fun e=>by have:=Cw.tb;rw[<- e,tb6]at this;exact absurd this (by decide)
 have acd:T7 b=0:=(wD.a b (aV aca)).trans tb6;have s39:t_ T w T7 Ct:=(s36.trans wD.tw).trans (t_.one Tn (by rw[tb7];decide));have aet:Ext No Ct (aa Ct):=(Ext.refl _ _).drew;refine⟨Ext No Ct,aet,Nn.mk ⟨s.p,af.bq (Cell.ah WA.b rfl) (fun h=>h),Nn.mk ⟨0,af.bq (Cell.ah WA.b rfl) (fun h=>h),0,af.bq (Cell.ah WA.b rfl) (fun h=>h),0,af.bq (Cell.ah WA.b rfl) (fun h=>h),0,af.bq (Cell.ah WA.b rfl) (fun h=>h),?_⟩⟩⟩
 refine N0 fun UK x40=>⟨x40.ae,xU ⟨x40.ae,?_⟩⟩
 have WB:=x40.ae;have V40:=WA.no WB;refine⟨Ext No UK,(Ext.refl _ _).drew,Nn.mk ⟨s.p,af.bq (Cell.ah V40.b rfl) (fun h=>h),Nn.mk ⟨0,af.bq (Cell.ah V40.b rfl) (fun h=>h),0,af.bq (Cell.ah V40.b rfl) (fun h=>h),0,af.bq (Cell.ah V40.b rfl) (fun h=>h),0,af.bq (Cell.ah V40.b rfl) (fun h=>h),?_⟩⟩⟩
 refine Sq fun Pe YC=>⟨YC.ae,OW ⟨YC.ae,?_⟩⟩
 have WC:=WB.no YC.ae;have V42:=WA.no WC;refine⟨fun u=>Pe=u,Nn.mk ⟨0,Cell.ah V42.b rfl,Ar.i64 (by decide) (If.bne (fun h=>absurd rfl h) fun _=>rfl)⟩,?_⟩;rintro _ _ rfl;have ace:Ext No Pe (aa Pe):=(Ext.refl _ _).drew;refine⟨Ext No Pe,ace,Nn.mk ⟨some ⟨s.rb,0,none⟩,af.bq (Cell.ah V42.b rfl) (fun h=>h),Nn.mk ⟨1,af.bq (Cell.ah V42.b rfl) (fun h=>h),?_⟩⟩⟩
 refine nu (q:=⟨⟨0,1⟩,q,kq⟩) (V42.no ace).y.rn.r (by rw[e7];rfl) fun s45 w45 o45 Kn=>⟨Kn.ae,jx ⟨Kn.ae,?_⟩⟩
 have WD:=WC.no Kn.ae;have V45:=WA.no WD;refine⟨fun _ r t u=>⟨none,0,0⟩=r/\0=t/\w45=u,⟨0,rfl,rfl,rfl⟩,?_⟩;rintro _ _ _ _ _ ⟨rfl,rfl,rfl⟩;refine If.dec (fun h=>absurd h (by decide)) fun _=>?_
 refine tE.mk (by decide) (by decide) (by decide) (by decide) fun b9 w46 n46=>?_
 have V46:=V45.no n46.ext;refine⟨fun _ t u=>0=t/\w46=u,⟨0,rfl,rfl⟩,?_⟩;rintro _ _ _ _ ⟨rfl,rfl⟩;refine If.dec (fun h=>absurd h (by decide)) fun _=>Nn.mk ⟨s.p,Cell.ah V46.b rfl,?_⟩
 refine MJ V46.y e15 N6 (by rw[e2];exact hz) rfl fun T8 fr8 wb8 w73 y73 s73=>iQ ?_
 have V73:=V46.sy s73 y73 rfl rfl rfl rfl rfl;have Sw:fg T7 Ct T8 w73:=(fg.no (WD.no n46.ext)).trans s73;have aeu:=Sw.au acb (.inl acd);have tb8:T8 b=0:=(Sw.a b (aV acb)).trans acd;refine Nn.mk (aH.mk V73.b (Nat.le_of_ble_eq_true rfl) rfl fun w75 h75=>?_);have x75:Ext (·=vb) w73 w75:=h75.ext;have V75:=V73.put (op:=true) (mp:=Ij) (h75.get V73.b) x75;have nbv:b≠vb:=fun e=>by have:=V73.tb;simp only at this;rw[<- e,tb8]at this;exact absurd this (by decide)
 have acf:=aw aeu x75 nbv;refine aH.mk acf Nat.one_pos rfl fun w76 h76=>EB ⟨0,Cell.ah (h76.get acf) rfl,?_⟩
 have x76:Ext (·=b) w75 w76:=h76.ext;have V76:=V75.loc x76 fun i hi=>by rw[hi];exact .inl tb8
 refine k T8 _ q kq al w76 V76 (by exact e2) (by exact e4) (by exact e7) zm (by exact U4) rfl (by exact N6) (by exact e15) (by exact e16) ?_;exact((s39.trans Sw.tw).trans (t_.one x75 (by have:=V73.tb;simp only at this;rw[this];decide))).out x76 (by omega)
end
end Go.Proofs.YtefdekemmnnclaaGreat
namespace Go.Proofs.YtefdekemmnnclaaGreat
open Go.V Go.V.Dk Go.V.Rn
theorem Sx:Calm (nO 100):=⟨by simp[nO],rfl,rfl,rfl,⟨by decide,by decide⟩,by decide⟩
theorem Sz(i:Nat)(h:i < 100):(nO 100).now.getD i []=bW:=by
 show(List.replicate 100 bW).getD i []=_;rw[List.getD_eq_getElem?_getD,List.getElem?_replicate,if_pos h];rfl
section
variable {w w':Wd}
theorem VZ.no{s:Sl}{L:List (List Int)}(r:VZ w.heap s L)(x:Ext No w w'):VZ w'.heap s L:=by
 obtain⟨ins,h1,h2,h3⟩:=r.ex;exact⟨⟨ins,h1.no x,h2,fun j a b=>Rd.no (h3 j a b) x⟩,r.b8⟩
set_option maxHeartbeats 2000000 in
theorem PD{dr key:Sl}{kl:List Int}{L:List (List Int)}{K:Option Addr->Int->Pw}(hk:aL w.heap key kl)(kB:B8 kl)(kn:key.len=32)(hL:VZ w.heap dr L)(hn:L.length<=1000)(hl:∀l∈L,l.length<=1000)
  (k:∀T' v s q kq w',ry w' T' v s->v.mp=Ij->v.op=true->v.ts=[]->s.D=nO 100->s.R=⟨s.R.dev,1000,0,0,L⟩->s.ks=[⟨⟨0,1⟩,q,kq⟩]->kq.length=32->s.L=[]->s.F=[(2,100)]->s.ps=[]->s.cm=0->s.la=0->(∀i,i < w.heap.size->T' i=0)->Ext No w w'->K v.p 0 w'):ux 100 1000 dr key w K:=by
 apply Jq
 refine fun b w1 n1=>⟨key,Cell.ah n1.get rfl,If.bne (fun h=>absurd (by rw[kn];rfl) h) fun _=>⟨100,Cell.ah n1.get rfl,?_⟩⟩
 have a1:=n1.at_;have z1:=n1.size
 refine HS (fun h=>absurd ⟨by decide,by decide⟩ h) fun _ d w2 r2 f2 x2=>If.bne (fun h=>absurd rfl h) fun _=>⟨1000,Cell.ah (aj n1.get x2) rfl,dr,Cell.ah (aj n1.get x2) rfl,?_⟩
 have q_:=n1.ext.no x2
 refine HT (hL.no q_) (by omega) (fun l h=>by have:=hl l h;omega) fun g w3 r3 f3 x3=>If.bne (fun h=>absurd rfl h) fun _=>⟨key,Cell.ah (aj n1.get (x2.no x3)) rfl,?_⟩
 have qf:=q_.no x3;refine xQ (Rd.no hk qf) (by have:=aL.len hk;omega) fun r w4 o4 x4=>?_
 have gb4:=aj n1.get ((x2.no x3).no x4);refine aH.mk gb4 (Nat.le_of_ble_eq_true rfl) rfl fun w5 h5=>?_
 have gb5:=h5.get gb4;refine aH.mk gb5 (Nat.le_of_ble_eq_true rfl) rfl fun w6 h6=>?_
 have Kl:=h6.get gb5;have yf:Ext (·=b) w4 w6:=h5.ext.trans h6.ext fun i _ e=>e
 have xd:Ext No w6 (aa w6):=(Ext.refl _ _).drew;refine⟨Ext No w6,xd,100,af.bq (Cell.ah Kl rfl) (fun h=>h),1000,af.bq (Cell.ah Kl rfl) (fun h=>h),⟨none,0,0⟩,af.bq (Cell.ah Kl rfl) (fun h=>h),r,af.bq (Cell.ah Kl rfl) (fun h=>h),?_⟩
 refine J8 fun lb w7 g7 UC x7=>⟨x7.ae,fun vb w8 n8=>⟨x7.ae.no n8.ext,?_⟩⟩
 have UE:Ext No w6 w7:=x7.ae;have CK:=UE.no n8.ext;have z2:=x2.size;have z3:=x3.size;have z4:=x4.size;have z46:=yf.size;have z67:=UE.size;have z8:=n8.size;have a8:=n8.at_
 obtain⟨T,hT⟩ : ∃T,T=iB (iB (iB (iB (iB (fun _=>0) w1.heap.size w2.heap.size 1) w2.heap.size w3.heap.size 2) w3.heap.size w4.heap.size 14) w6.heap.size w7.heap.size 4) w7.heap.size w8.heap.size 13:=⟨_,rfl⟩
 have t0:∀i,i < w1.heap.size->T i=0:=fun i hi=>by
  rw[hT,bC _ _ _ _ i (by omega),bC _ _ _ _ i (by omega),bC _ _ _ _ i (by omega),bC _ _ _ _ i (by omega),bC _ _ _ _ i (by omega)]
 have t1:∀i,w1.heap.size<=i->i < w2.heap.size->T i=1:=fun i h1 h2=>by
  rw[hT,bC _ _ _ _ i (by omega),bC _ _ _ _ i (by omega),bC _ _ _ _ i (by omega),bC _ _ _ _ i (by omega)];exact cR _ h1 h2
 have t2:∀i,w2.heap.size<=i->i < w3.heap.size->T i=2:=fun i h1 h2=>by
  rw[hT,bC _ _ _ _ i (by omega),bC _ _ _ _ i (by omega),bC _ _ _ _ i (by omega)];exact cR _ h1 h2
 have t14:∀i,w3.heap.size<=i->i < w4.heap.size->T i=14:=fun i h1 h2=>by
  rw[hT,bC _ _ _ _ i (by omega),bC _ _ _ _ i (by omega)];exact cR _ h1 h2
 have t4:∀i,w6.heap.size<=i->i < w7.heap.size->T i=4:=fun i h1 h2=>by
  rw[hT,bC _ _ _ _ i (by omega)];exact cR _ h1 h2
 have t13:T vb=13:=by rw[hT];exact cR _ (by omega) (by omega)
 have KJ:Ext (·=b) w2 w8:=((x3.no x4).aF.trans yf fun i _ e=>e).trans CK.aF fun i _ e=>e
 have x38:Ext (·=b) w3 w8:=(x4.aF.trans yf fun i _ e=>e).trans CK.aF fun i _ e=>e
 have P8:Ext (·=b) w4 w8:=yf.trans CK.aF fun i _ e=>e
 have VR:Ext No w w8:=(((qf.no x4).trans yf fun i hi e=>by omega).no CK)
 refine KI (T:=T) (g:=g) (R:=⟨some ⟨d.b,0,none⟩,1000,0,0,L⟩) (L:=[]) (ls:=⟨none,0,0⟩) (lb:=lb) (D:=nO 100) (kl:=kl)
  ⟨r2.ext KJ fun i hi e=>by have:=f2 i hi;omega,fun i hi=>t1 i (f2 i hi) (r2.lt hi),Sx⟩
  ⟨r3.ext x38 fun i hi e=>by have:=f3 i hi;omega,fun i hi=>t2 i (f3 i hi) (r3.lt hi),rfl⟩
  ⟨⟨aj g7 n8.ext,aP.nil _ _ _ _,(fun h=>nomatch h),fun e h=>(nomatch h)⟩,t4 lb (by rw[UC];exact Nat.le_refl _) (aV g7),fun i h=>(nomatch h),Nat.zero_le _⟩
  (by rw[hT];exact pE _ _ _ _ (by omega)) n8.get t13 (o4.rd.ext P8 fun p c hp hc e=>by have:=(o4.lt (show r.au=some c by simp[Sl.au,hp,hc])).1;omega)
  (fun i hi=>⟨t14 i (o4.lt hi).1 (o4.lt hi).2,by have:=(o4.lt hi).2;omega⟩) kB (by rw[aD.len o4,<- aL.len hk];exact kn) Sz rfl fun T' s q kq al w' V e1 e2 e3 e0 e4 e5 e6 e7 e8 st=>?_
 refine k T' _ s q kq w' V rfl rfl rfl e1 (by rw[e2]) e3 e0 e4 e5 e6 e7 e8 (fun i hi=>st.z i (by omega) (t0 i (by omega))) (VR.trans st.x fun i hi h=>h (t0 i (by omega)))
end
end Go.Proofs.YtefdekemmnnclaaGreat
namespace Go.Proofs.YtefdekemmnnclaaGreat
open Go.V Go.V.Dk Go.V.Rn
section
variable {w w':Wd} {T T':Nat->Nat} {s:SA} {v:VA}
theorem SB{al:Nat}(h:fh w.heap qg al ([]:List (Int×Value))):Sem.run pz (Builtin.len_ #[88] 3 #[.map (some al)]) w = .ok (.int .i64 0) w:=by
 obtain⟨es,clock,hb,he,_⟩:=h;have h41:Tryz.prog.underlying 88=some (.map 24 141):=by kernel_rfl
 have h0:es.size=0:=by have:=congrArg List.length he;simpa using this
 simp[Builtin.len_,aE h41,ew hb,h0,goInt]
theorem mq:oT pz 48 (Value.int .i64):=GB (by kernel_rfl)
theorem gU:Tryz.prog.underlying 125=some (.map 48 47):=by kernel_rfl
theorem Y7(w:Wd):(zeroValue 47).run pz w = .ok .nilFunc w:=by kernel_rfl
theorem SC{K:Value->Pw}(k:∀w',Ext No w w'->K (.func (.func 67) #[.pointer v.p] #[]) w'):jL v.p 1 w K:=by
 apply zf;refine fun b w1 n1=>?_
 have m1:fh w1.heap (Value.int .i64) b ([]:List (Int×Value)):=⟨#[],0,n1.get,rfl,db.nil⟩
 obtain⟨w2,h2,m2,x2,_⟩:=aJ (P:=pz) (a:=(1:Int)) (v:= .func (.func 67) #[.pointer v.p] #[]) mq gU m1;refine⟨w2,h2,?_⟩;obtain⟨w3,h3,m3,x3,_⟩:=aJ (P:=pz) (a:=(2:Int)) (v:= .func (.func 68) #[.pointer v.p] #[]) mq gU m2;refine⟨w3,h3,?_⟩;obtain⟨w4,h4,m4,x4,_⟩:=aJ (P:=pz) (a:=(3:Int)) (v:= .func (.func 69) #[.pointer v.p] #[]) mq gU m3;refine⟨w4,h4,?_⟩;obtain⟨w5,h5,m5,x5,_⟩:=aJ (P:=pz) (a:=(4:Int)) (v:= .func (.func 70) #[.pointer v.p] #[]) mq gU m4;refine⟨w5,h5,?_⟩;obtain⟨w6,h6,m6,x6,_⟩:=aJ (P:=pz) (a:=(5:Int)) (v:= .func (.func 71) #[.pointer v.p] #[]) mq gU m5;refine⟨w6,h6,?_⟩;obtain⟨w7,h7,m7,x7,_⟩:=aJ (P:=pz) (a:=(6:Int)) (v:= .func (.func 72) #[.pointer v.p] #[]) mq gU m6;refine⟨w7,h7,?_⟩;obtain⟨w8,h8,m8,x8,_⟩:=aJ (P:=pz) (a:=(7:Int)) (v:= .func (.func 73) #[.pointer v.p] #[]) mq gU m7;refine⟨w8,h8,?_⟩;obtain⟨w9,h9,m9,x9,_⟩:=aJ (P:=pz) (a:=(8:Int)) (v:= .func (.func 74) #[.pointer v.p] #[]) mq gU m8;refine⟨w9,h9,?_⟩;obtain⟨gG,Cp,m10,fo,_⟩:=aJ (P:=pz) (a:=(9:Int)) (v:= .func (.func 75) #[.pointer v.p] #[]) mq gU m9;refine⟨gG,Cp,?_⟩;obtain⟨hU,K2,Y1,oF,_⟩:=aJ (P:=pz) (a:=(10:Int)) (v:= .func (.func 76) #[.pointer v.p] #[]) mq gU m10;refine⟨hU,K2,?_⟩;obtain⟨mw,VP,m12,gV,_⟩:=aJ (P:=pz) (a:=(11:Int)) (v:= .func (.func 77) #[.pointer v.p] #[]) mq gU Y1;refine⟨mw,VP,?_⟩;obtain⟨lK,Z5,m13,mr,_⟩:=aJ (P:=pz) (a:=(12:Int)) (v:= .func (.func 78) #[.pointer v.p] #[]) mq gU m12;refine⟨lK,Z5,?_⟩;obtain⟨pY,HX,m14,mJ,_⟩:=aJ (P:=pz) (a:=(13:Int)) (v:= .func (.func 79) #[.pointer v.p] #[]) mq gU m13;refine⟨pY,HX,?_⟩;obtain⟨kQ,Tk,m15,gH,_⟩:=aJ (P:=pz) (a:=(14:Int)) (v:= .func (.func 80) #[.pointer v.p] #[]) mq gU m14;refine⟨kQ,Tk,?_⟩;obtain⟨ua,VF,m16,ub,_⟩:=aJ (P:=pz) (a:=(15:Int)) (v:= .func (.func 81) #[.pointer v.p] #[]) mq gU m15;refine⟨ua,VF,?_⟩;obtain⟨rD,h17,m17,zq,_⟩:=aJ (P:=pz) (a:=(16:Int)) (v:= .func (.func 82) #[.pointer v.p] #[]) mq gU m16;refine⟨rD,h17,?_⟩;have kN:=gK (P:=pz) (a:=(1:Int)) mq gU (Y7 rD) m17;have x:Ext (·=b) w1 rD:=((((((((((((((x2.trans x3 fun i _ e=>e).trans x4 fun i _ e=>e).trans x5 fun i _ e=>e).trans x6 fun i _ e=>e).trans x7 fun i _ e=>e).trans x8 fun i _ e=>e).trans x9 fun i _ e=>e).trans fo fun i _ e=>e).trans oF fun i _ e=>e).trans gV fun i _ e=>e).trans mr fun i _ e=>e).trans mJ fun i _ e=>e).trans gH fun i _ e=>e).trans ub fun i _ e=>e).trans zq fun i _ e=>e
 refine⟨_,rD,kN,?_⟩;have e:∀(m:List (Int×Value)),mG (1:Int) m=some (.func (.func 67) #[.pointer v.p] #[])->(mG (1:Int) m).getD .nilFunc = .func (.func 67) #[.pointer v.p] #[]:=fun m h=>by rw[h];rfl
 rw[e _ rfl];exact k rD (n1.ext.out x (by rw[n1.at_];exact Nat.le_refl _))
theorem ry.acg(V:ry w T v s){s':SA}(x:Ext (fun i=>T i=2) w w')(hT:∀i,T i≠2->T' i=T i)(rg:V4 w' T' s'.d s'.g s'.R)(e1:s'.d=s.d)(e2:s'.D=s.D)(e3:s'.rb=s.rb)(e4:s'.mb=s.mb)(e5:s'.ks=s.ks)(e6:s'.lb=s.lb)(e7:s'.ls=s.ls)(e8:s'.L=s.L)(e9:s'.pb=s.pb)(U4:s'.fr=s.fr)(Tp:s'.F=s.F)(N6:s'.kb=s.kb)(e13:s'.ps=s.ps)(e14:s'.wb=s.wb)(e15:s'.nb=s.nb)(e16:s'.pm=s.pm)(e17:s'.dm=s.dm)(e18:s'.pu=s.pu)(e19:s'.cm=s.cm)(e20:s'.la=s.la)(e21:s'.fl=s.fl)(hg:s'.g.rb=s.g.rb):ry w' T' v s':=by
 have h:∀(c:Nat),c≠2->∀i,T i=c->T' i=c:=fun c hc i hi=>(hT i (by rw[hi];exact hc)).trans hi
 have a:Ag T T w.heap.size:=fun _ _=>rfl
 have f:∀(k:Nat),k≠2->∀i,T i=k->¬ (T i=2):=fun k hk i h e=>hk (h.symm.trans e)
 have dk:=V.y.dk.aM x a (f 1 (by decide));have rn:=V.y.rn.aM x a (f 3 (by decide));have lg:=V.y.lg.aM x a (f 4 (by decide));have pb:=V.y.pb.aM x a (f 5 (by decide));have fr:=V.y.fr.aM x a (f 6 (by decide));have kn:=V.y.kn.aM x a (f 7 (by decide)) (f 12 (by decide));have mp:=V.y.mp.aM x a (f 8 (by decide)) (f 9 (by decide)) (f 10 (by decide));obtain⟨d,D,g,R,rb,mb,ks,lb,ls,L,pb',fr',F,kb,ps,wb,nb,pm,dm,pu,cm,la,fl⟩:=s';simp only at e1 e2 e3 e4 e5 e6 e7 e8 e9 U4 Tp N6 e13 e14 e15 e16 e17 e18 e19 e20 e21 hg rg;subst e1 e2 e3 e4 e5 e6 e7 e8 e9 U4 Tp N6 e13 e14 e15 e16 e17 e18 e19 e20 e21;refine⟨⟨⟨dk.r,fun i hi=>h 1 (by decide) i (dk.t i hi),dk.c⟩,rg,⟨rn.r,h 3 (by decide) _ rn.t,h 3 (by decide) _ rn.t2,fun k hk i hi=>h 3 (by decide) i (rn.t3 k hk i hi),rn.n⟩,⟨lg.r,h 4 (by decide) _ lg.t,fun i hi=>h 4 (by decide) i (lg.t2 i hi),lg.n⟩,⟨pb.r,h 5 (by decide) _ pb.t⟩,⟨fr.r,fun i hi=>⟨h 6 (by decide) i (fr.t i hi).1,(fr.t i hi).2⟩,fr.u,fr.n⟩,⟨kn.r,h 7 (by decide) _ kn.t,fun k hk=>⟨(kn.p k hk).1,fun i hi=>⟨h 12 (by decide) i ((kn.p k hk).2.1 i hi).1,((kn.p k hk).2.1 i hi).2⟩,(kn.p k hk).2.2⟩⟩,⟨mp.r,h 8 (by decide) _ mp.t,mp.r2,h 9 (by decide) _ mp.t2,fun q hq=>⟨(mp.r3 q hq).1,h 10 (by decide) _ (mp.r3 q hq).2⟩⟩,fun i hi=>h 0 (by decide) i (V.y.out i (Nat.le_trans x.size hi))⟩,?_,h 13 (by decide) _ V.tb,V.k.ext x fun p c hp hc e=>f 14 (by decide) c (V.kt c (by simp[Sl.au,hp,hc])).1 e,fun i hi=>⟨h 14 (by decide) i (V.kt i hi).1,Nat.lt_of_lt_of_le (V.kt i hi).2 x.size⟩,V.kB,V.kn,V.a.ext x (f 15 (by decide) _ V.ta),h 15 (by decide) _ V.ta⟩
 have hv:v.c ⟨s.d,s.D,g,R,s.rb,s.mb,s.ks,s.lb,s.ls,s.L,s.pb,s.fr,s.F,s.kb,s.ps,s.wb,s.nb,s.pm,s.dm,s.pu,s.cm,s.la,s.fl⟩=v.c s:=by
  show UZ v.key s.d.p (some ⟨g.rb,0,none⟩) s.lB v.op s.rB s.p v.mp v.al=UZ v.key s.d.p (some ⟨s.g.rb,0,none⟩) s.lB v.op s.rB s.p v.mp v.al;rw[hg]
 rw[hv];exact(x.au _ (aV V.b) (f 13 (by decide) _ V.tb)).trans V.b
theorem U5{l:List Int}{ls:List (List Int)}{K:Sl->Int->Pw}(V:ry w T v s)(hd:s.R.gy=l::ls)(hl:16<=l.length)
  (k:∀T' g' sl w',ry w' T' v { s with g:=g',R:={ s.R with gy:=ls } }->(∀i,T i=0->T' i=0)->Ext (fun i=>T i≠0) w w'->aL w'.heap sl (l.take 16)->(∀i,sl.au=some i->T' i=16/\i < w'.heap.size)->K sl 0 w'):gZ s.gB 16 w K:=by
 refine Fq V.y.rg.r (fun h=>absurd ⟨by decide,by decide⟩ h) (fun _ h=>by rw[hd]at h;cases h) (fun l' oR _ h aV=>by rw[hd]at h;cases h;omega) fun l' oR sl g' w' _ h hle wr r' hrb VV pA x hz=>?_
 rw[hd]at h;obtain⟨rfl,rfl⟩ : l=l'/\ls=oR:=by cases h;exact⟨rfl,rfl⟩
 have tr:∀i,s.g.fp i->T i=2:=V.y.rg.t
 have x2:Ext (fun i=>T i=2) w w':=x.mono fun i _ h=>by rw[h];exact tr _ (.inl rfl)
 have hT:∀i,T i≠2->(if sl.au=some i then 16 else T i)=T i:=fun i hi=>if_neg fun e=>hi (tr i (pA i e).1)
 refine k (fun i=>if sl.au=some i then 16 else T i) g' sl w' (V.acg (s':={ s with g:=g',R:={ s.R with gy:=ls } }) x2 hT ⟨r',fun i hi=>?_,V.y.rg.d⟩ rfl rfl rfl rfl rfl rfl rfl rfl rfl rfl rfl rfl rfl rfl rfl rfl rfl rfl rfl rfl rfl hrb) (fun i hi=>by rw[hT i (by omega)];exact hi) (x2.mono fun i _ h=>by rw[h];decide) wr.rd fun i hi=>⟨if_pos hi,?_⟩
 .show(if sl.au=some i then 16 else T i)=2;rw[if_neg fun e=>(pA i e).2 hi];exact tr i (VV i hi)
 .have:=V.y.rg.r.lt (pA i hi).1;omega
end
end Go.Proofs.YtefdekemmnnclaaGreat
namespace Go.Proofs.YtefdekemmnnclaaGreat
open Go.V Go.V.Pk Go.V.Dk Go.V.Rn
section
variable {w w':Wd} {T T':Nat->Nat} {s:SA} {v:VA}
theorem M4{p:Option Addr}{q:RK}{K:Sl->Pw}(V:ry w T v s)(hq:tu s.ks ⟨0,v.mp.rg⟩=some q)(k:∀sl w',aD w'.heap w.heap.size sl q.l->Ext No w w'->K sl w')(hp:p=v.p:=by rfl):iW p w K:=by
 subst hp;apply xz;have xd:Ext No w (aa w):=(Ext.refl _ _).drew;exact⟨Ext No w,xd,Nn.mk ⟨s.rB,af.bq (Cell.ah V.b rfl) (fun h=>h),Nn.mk ⟨v.mp.rg,af.bq (Cell.ah V.b rfl) (fun h=>h),nu (V.no xd).y.rn.r hq fun sl w1 o1 x1=>⟨x1.ae,jx ⟨x1.ae,k sl w1 o1 x1.ae⟩⟩⟩⟩⟩
abbrev WE(mk hs:Sl):oD:=⟨1,9,mk,.z,0,0,hs⟩
structure K3(w:Wd)(T:Nat->Nat)(vp:Option Addr)(c0 c1 c2 c3:Nat)(key:Sl)(kk:List Int)(Ik:List Value)(mk:Sl)(ml:List Int)(hs:Sl):Prop where
 g0:w.heap[c0]? = some (.cells [Value.pointer vp].toArray 41 (0,0))
 g1:w.heap[c1]? = some (.cells Ik.toArray 53 (0,0))
 h1:Ik[1]? = some (.int .u32 1)
 g2:w.heap[c2]? = some (.cells [key.v].toArray 25 (0,0))
 g3:w.heap[c3]? = some (.cells (WE mk hs).cells.toArray 144 (0,0))
 t0:T c0=0
 t1:T c1=0
 t2:T c2=0
 t3:T c3=0
 n0:c0≠c3
 n1:c1≠c3
 n2:c2≠c3
 k:aL w.heap key kk
 M5:kk.length=16
 kB:B8 kk
 kt:∀i,key.au=some i->16<=T i/\i < w.heap.size
 m:aL w.heap mk ml
 KK:ml.length=16
 mB:B8 ml
 mt:∀i,mk.au=some i->T i=0/\i≠c3/\i < w.heap.size
section
variable {vp:Option Addr} {c0 c1 c2 c3:Nat} {key:Sl} {kk:List Int} {Ik:List Value} {mk:Sl} {ml:List Int} {hs:Sl} {S:Nat->Prop}
theorem K3.ext(C:K3 w T vp c0 c1 c2 c3 key kk Ik mk ml hs)(a:Ag T T' w.heap.size)(x:Ext S w w')(h:∀i,T i=0->¬ S i)(h2:∀i,16<=T i->¬ S i):K3 w' T' vp c0 c1 c2 c3 key kk Ik mk ml hs:=
 ⟨aw C.g0 x (h _ C.t0),aw C.g1 x (h _ C.t1),C.h1,aw C.g2 x (h _ C.t2),aw C.g3 x (h _ C.t3),(a _ (aV C.g0)).trans C.t0,(a _ (aV C.g1)).trans C.t1,(a _ (aV C.g2)).trans C.t2,(a _ (aV C.g3)).trans C.t3,C.n0,C.n1,C.n2,
  C.k.ext x fun p b hp hb=>h2 b (C.kt b (by simp[Sl.au,hp,hb])).1,C.M5,C.kB,fun i hi=>⟨by rw[a i (C.kt i hi).2];exact(C.kt i hi).1,Nat.lt_of_lt_of_le (C.kt i hi).2 x.size⟩,C.m.ext x fun p b hp hb=>h b (C.mt b (by simp[Sl.au,hp,hb])).1,C.KK,C.mB,fun i hi=>⟨(a i (C.mt i hi).2.2).trans (C.mt i hi).1,(C.mt i hi).2.1,Nat.lt_of_lt_of_le (C.mt i hi).2.2 x.size⟩⟩
theorem K3.stp(C:K3 w T vp c0 c1 c2 c3 key kk Ik mk ml hs)(st:fg T w T' w'):K3 w' T' vp c0 c1 c2 c3 key kk Ik mk ml hs:=C.ext st.a st.x (fun i h=>by omega) fun i h=>by omega
theorem K3.no(C:K3 w T vp c0 c1 c2 c3 key kk Ik mk ml hs)(x:Ext No w w'):K3 w' T vp c0 c1 c2 c3 key kk Ik mk ml hs:=C.stp (.no x)
abbrev stP(ml wl:List Int)(n:Int):ru:=⟨1,9,ml,.z,0,0,[⟨1,n,wl⟩]⟩
theorem N7{ml wl:List Int}(h1:ml.length=16)(h2:wl.length=32):(zR (stP ml wl 1)).length<=64:=by
 simp[zR,textB,mO,h1,h2,yu,Rf.z]
theorem U6{ml wl:List Int}{n:Int}(h1:ml.length=16)(h2:wl.length=32):KA (stP ml wl n):=
 ⟨by show(1:Int)≠0;decide,by show(1:Int)<=9;decide,by show(9:Int)<=1000;decide,h1,by show(0:Int)<=0;decide,by show(0:Int)<=9;decide,⟨fun _=>⟨rfl,rfl⟩,fun _=>rfl⟩,.inl ⟨_,rfl,h2⟩⟩
theorem U7{ml wl:List Int}{n:Int}(hm:B8 ml)(hw:B8 wl)(hn:0<=n/\n<=18446744073709551615):R_ (stP ml wl n):=
 ⟨by show(0:Int)<=1/\(1:Int)<=4294967295;decide,hm,by show Rf.z.ok;decide,by show(0:Int)<=0/\(0:Int)<=255;decide,fun h hh=>by
  simp only[List.mem_singleton]at hh;subst hh
  exact⟨by show(0:Int)<=1/\(1:Int)<=65535;decide,hn,hw⟩⟩
set_option maxHeartbeats 400000 in
theorem M6{vb al:Nat}{ky:Sl}{kl:List Int}{op:Bool}{q:RK}{r:fP}{m:Nat}{K:Int->Int->Int->Int->Int->Int->Pw}(V:ry w T ⟨vb,ky,kl,op,Ij,al,[]⟩ s)(C:K3 w T (some ⟨vb,0,none⟩) c0 c1 c2 c3 key kk Ik mk ml hs)(hq:tu s.ks ⟨0,1⟩=some q)(Y8:q.l.length=32)(P:Px s 0 1 r m)
  (k:∀T' fr' Ex Ic fb w',fb.length<=64->ry w' T' ⟨vb,ky,kl,op,Ij,al,[]⟩ (s.put 0 1 r fr' Ex (pad (wr 1 0 [⟨be 4 1,fb,0,.z,.z⟩])))->K3 w' T' (some ⟨vb,0,none⟩) c0 c1 c2 c3 key kk Ik mk ml Ic->Ag T T' w.heap.size->Ext (fun i=>(1<=T i/\T i<=12)∨i=c3) w w'->K r.1 s.cm 1 0 1 1 w') :
  fR 1 ⟨c0,0,none⟩ ⟨c1,0,none⟩ ⟨c2,0,none⟩ ⟨c3,0,none⟩ w K:=by
 apply sL;refine fun b w1 n1=>?_
 have a1:=n1.at_;have z1:=n1.size;have V1:=V.no n1.ext;have C1:=C.no n1.ext;have xd:Ext No w1 (aa w1):=(Ext.refl _ _).drew;have afG:=aV C.g3;refine⟨Ext No w1,xd,_,af.bq (Cell.ah C1.g0 rfl) (fun h=>h),1,af.bq (Cell.ah C1.g1 C.h1) (fun h=>h),key,af.bq (Cell.ah C1.g2 rfl) (fun h=>h),?_⟩
 refine M4 (v:=⟨vb,ky,kl,op,Ij,al,[]⟩) (V1.no xd) hq fun rs w2 o2 x2=>⟨x2.ae,?_⟩
 have gV:Ext No w1 w2:=x2.ae;have hkq:=V.y.rn.r.key q (List.mem_of_find?_eq_some hq)
 refine OV o2.rd hkq.2.1 (by rw[aD.len o2];exact Y8) (by decide) (by decide) ⟨by decide,by decide⟩ (Rd.no C1.k gV) (by rw[aL.len C.k];exact C.M5) fun ws wl w3 o3 OG Ig x3=>⟨gV.no x3,?_⟩
 refine PC fun w4 x4=>⟨(gV.no x3).no x4,fun b1 w5 n5=>⟨((gV.no x3).no x4).no n5.ext,?_⟩⟩
 have gH:=((gV.no x3).no x4).no n5.ext;have C5:=C1.no gH;have V5:=V1.no gH;have zz:w1.heap.size<=w5.heap.size:=gH.size;have a5:=n5.at_;have z5:=n5.size;have z14:=((gV.no x3).no x4).size;refine aH.mk C5.g3 (Nat.le_of_ble_eq_true rfl) rfl fun w6 h6=>?_
 have rr:Ext (·=c3) w5 w6:=h6.ext;have g3:w6.heap[c3]? = some (.cells (WE mk ⟨some ⟨b1,0,none⟩,1,1⟩).cells.toArray 144 (0,0)):=h6.get C5.g3;have t3:=C.t3;have V6:=V5.loc rr fun i hi=>by rw[hi];exact .inl t3
 have b1c:b1≠c3:=by omega
 have C6:K3 w6 T (some ⟨vb,0,none⟩) c0 c1 c2 c3 key kk Ik mk ml ⟨some ⟨b1,0,none⟩,1,1⟩ :=
  ⟨aw C5.g0 rr C.n0,aw C5.g1 rr C.n1,C.h1,aw C5.g2 rr C.n2,g3,C.t0,C.t1,C.t2,C.t3,C.n0,C.n1,C.n2,C5.k.ext rr fun p i hp hi e=>by have:=(C5.kt i (by simp[Sl.au,hp,hi])).1;rw[e,t3]at this;omega,C.M5,C.kB,fun i hi=>⟨(C5.kt i hi).1,Nat.lt_of_lt_of_le (C5.kt i hi).2 rr.size⟩,C5.m.ext rr fun p i hp hi=>(C5.mt i (by simp[Sl.au,hp,hi])).2.1,C.KK,C.mB,fun i hi=>⟨(C5.mt i hi).1,(C5.mt i hi).2.1,Nat.lt_of_lt_of_le (C5.mt i hi).2.2 rr.size⟩⟩
 have U2:Ext No w6 (aa w6):=(Ext.refl _ _).drew;have tz:∀i,T i=0->¬ (1<=T i/\T i<=12):=fun i h=>by omega
 have tv:¬ (1<=T vb/\T vb<=12):=by have:=V.tb;simp only at this;omega
 refine⟨Ext (fun i=>1<=T i/\T i<=12) w6,U2.aF,_,af.bq (Cell.ah C6.g0 rfl) (tz _ C.t0),Nn.mk ⟨s.p,af.bq (Cell.ah V6.b rfl) tv,_,af.bq (Cell.ah C6.g0 rfl) (tz _ C.t0),Nn.mk ⟨0,af.bq (Cell.ah V6.b rfl) tv,0,af.bq (Cell.ah V6.b rfl) tv,0,af.bq (Cell.ah V6.b rfl) tv,0,af.bq (Cell.ah V6.b rfl) tv,
  1,af.bq (Cell.ah C6.g3 rfl) (tz _ C.t3),9,af.bq (Cell.ah C6.g3 rfl) (tz _ C.t3),mk,af.bq (Cell.ah C6.g3 rfl) (tz _ C.t3),0,af.bq (Cell.ah C6.g3 rfl) (tz _ C.t3),0,af.bq (Cell.ah C6.g3 rfl) (tz _ C.t3),0,af.bq (Cell.ah C6.g3 rfl) (tz _ C.t3),0,af.bq (Cell.ah C6.g3 rfl) (tz _ C.t3),0,af.bq (Cell.ah C6.g3 rfl) (tz _ C.t3),⟨some ⟨b1,0,none⟩,1,1⟩,af.bq (Cell.ah C6.g3 rfl) (tz _ C.t3),
  _,af.bq (Cell.ah C6.g0 rfl) (tz _ C.t0),Nn.mk ⟨1,af.bq (Cell.ah V6.b rfl) tv,_,af.bq (Cell.ah C6.g0 rfl) (tz _ C.t0),Nn.mk ⟨some al,af.bq (Cell.ah V6.b rfl) tv,?_⟩⟩⟩⟩⟩
 have yf:Ext (fun i=>i=c3) w4 w6:=n5.ext.aF.trans rr fun i _ e=>e
 have y6:=(V6.no U2).y;have ows:aL w6.heap ws wl:=(o3.rd.no x4).ext yf fun p i hp hi e=>by have h1:=(o3.lt (show ws.au=some i by simp[Sl.au,hp,hi])).1;have:=gV.size;omega
 have ho:Rd w6.heap ⟨some ⟨b1,0,none⟩,1,1⟩ 3 [Value.int .u16 1,.int .u64 1,.slice ws.a ws.len ws.cap]:=by
  have ho:=(aP.new (n:=1) (sz:=3) n5 rfl (cF rfl)).rd
  exact Rd.ext ho rr fun p i hp hi e=>by
   have:i=b1:=by cases hp;exact hi.symm
   omega
 have hS:wC (fun _=>True) (aa w6).heap (WE mk ⟨some ⟨b1,0,none⟩,1,1⟩) (stP ml wl 1):=
  ⟨rfl,rfl,⟨C6.m,fun _ _ _=>trivial⟩,rfl,rfl,rfl,[(⟨1,1,ws⟩,⟨1,1,wl⟩)],rfl,ho,fun _ _ _=>trivial,fun e he=>by
   simp only[List.mem_singleton]at he;subst he
   exact⟨rfl,rfl,⟨ows,fun _ _ _=>trivial⟩⟩⟩
 refine St (s:=s) (v:=WE mk ⟨some ⟨b1,0,none⟩,1,1⟩) (x:=stP ml wl 1) y6 P hS (U7 C.mB Ig (by decide)) (U6 C.KK OG) (N7 C.KK OG) fun T' fr' Ex w7 y7 s7=>?_
 have s67:fg T w6 T' w7:=(fg.no U2).trans s7;have S7:Ext (fun i=>1<=T i/\T i<=12) w6 w7:=s67.x;refine⟨S7,PB fun w8 x8=>⟨S7.trans x8.aF fun i _ h=>h,?_⟩⟩;have V7:=V6.sy s67 y7 rfl rfl rfl rfl rfl;have V8:=V7.no x8;have C8:=(C6.stp s67).no x8;refine⟨0,w8,SB V8.a,S7.trans x8.aF fun i _ h=>h,Ar.i64 (by decide) ⟨rfl,?_⟩⟩;have Wy:T b=0:=V.y.out b (by omega);have Kl:=aw (aj n1.get gH) rr (by omega);have gb8:=aj (s67.au Kl (.inl Wy)) x8;have tb':T' b=0:=(s67.a b (aV Kl)).trans Wy;refine cr.mk gb8 (Nat.le_refl 6) (cF rfl) fun gG Cp=>?_
 have wa:=Cp.get gb8;have fo:Ext (·=b) w8 gG:=Cp.ext;refine⟨_,Cell.ah wa rfl,_,Cell.ah wa rfl,_,Cell.ah wa rfl,_,Cell.ah wa rfl,_,Cell.ah wa rfl,_,Cell.ah wa rfl,?_⟩;have wk:Ext (fun i=>(1<=T i/\T i<=12)∨i=c3) w w6:=(n1.ext.no gH).aF.trans rr fun i _ e=> .inr e
 have VR:Ext (fun i=>(1<=T i/\T i<=12)∨i=c3) w w8:=(wk.trans S7 fun i _ h=> .inl h).trans x8.aF fun i _ h=>h
 refine k T' fr' Ex ⟨some ⟨b1,0,none⟩,1,1⟩ (zR (stP ml wl 1)) gG (N7 C.KK OG) (V8.loc fo fun i hi=>by rw[hi];exact .inl tb') ?_ (fun i hi=>s67.a i (by have:=wk.size;omega)) (VR.trans fo fun i hi e=>by omega);refine⟨aw C8.g0 fo (by have:=aV C.g0;omega),aw C8.g1 fo (by have:=aV C.g1;omega),C.h1,aw C8.g2 fo (by have:=aV C.g2;omega),aw C8.g3 fo (by omega),C8.t0,C8.t1,C8.t2,C8.t3,C.n0,C.n1,C.n2,C8.k.ext fo fun p i hp hi e=>?_,C.M5,C.kB,fun i hi=>⟨(C8.kt i hi).1,Nat.lt_of_lt_of_le (C8.kt i hi).2 fo.size⟩,C8.m.ext fo fun p i hp hi e=>?_,C.KK,C.mB,fun i hi=>⟨(C8.mt i hi).1,(C8.mt i hi).2.1,Nat.lt_of_lt_of_le (C8.mt i hi).2.2 fo.size⟩⟩
 .have:=(C8.kt i (by simp[Sl.au,hp,hi])).1;rw[e,tb']at this;omega
 .have:=(C.mt i (by simp[Sl.au,hp,hi])).2.2;omega
end
end
end Go.Proofs.YtefdekemmnnclaaGreat
namespace Go.Proofs.YtefdekemmnnclaaGreat
open Go.V Go.V.Pk Go.V.Dk Go.V.Rn
section
variable {w w':Wd} {T T':Nat->Nat} {s:SA} {v:VA} {c0 c1 c2 c3:Nat} {key:Sl} {kk:List Int} {Ik:List Value} {mk:Sl} {ml:List Int} {hs:Sl}
theorem N8:Tryz.prog.underlying 88=some (.map 24 141):=by kernel_rfl
theorem N9(w:Wd):(zeroValue 141).run pz w = .ok (.pointer none) w:=by kernel_rfl
abbrev tnC(mk hs:Sl)(cp:Nat)(sb:Nat):List Value:=[.int .u32 1,.int .i64 9,mk.v,.int .u32 0,.int .u64 0,.int .u16 0,.int .u8 0,.int .i64 0,hs.v,.pointer (some ⟨cp,0,none⟩),.map (some sb),.int .u64 0]
set_option maxHeartbeats 1000000 in
theorem PE{vb al:Nat}{ky:Sl}{kl:List Int}{op:Bool}{mp:MP}{K:Pw}(V:ry w T ⟨vb,ky,kl,op,mp,al,[]⟩ s)(C:K3 w T (some ⟨vb,0,none⟩) c0 c1 c2 c3 key kk Ik mk ml hs)(hk:tu s.ks ⟨1,1⟩=none)(hn:s.ks.length < 50)
  (k:∀T' q tb cp sb w',ry w' T' ⟨vb,ky,kl,op,mp,al,[(1,.pointer (some ⟨tb,0,none⟩))]⟩ { s with ks:=s.ks++[⟨⟨1,1⟩,q,kk⟩] }->w'.heap[tb]? = some (.cells (tnC mk hs cp sb).toArray 148 (0,0))->w'.heap[sb]? = some (.map #[] 0)->T' tb=0->T' sb=0->t_ T w T' w'->(∀i,i < w.heap.size->T' i=T i)->K w') :
  fS ⟨c0,0,none⟩ ⟨c1,0,none⟩ ⟨c2,0,none⟩ ⟨c3,0,none⟩ w K:=by
 apply sJ;have xd:Ext No w (aa w):=(Ext.refl _ _).drew;have tm:=V.y.rn.t2;have nz:∀i,T i=0->¬ (i=s.mb):=fun i h e=>by rw[e,tm]at h;exact absurd h (by decide)
 have nv:¬ (vb=s.mb):=fun e=>by have:=V.tb;simp only at this;rw[e,tm]at this;exact absurd this (by decide)
 refine⟨Ext (·=s.mb) w,xd.aF,_,af.bq (Cell.ah C.g0 rfl) (nz _ C.t0),Nn.mk ⟨s.rB,af.bq (Cell.ah V.b rfl) nv,1,af.bq (Cell.ah C.g1 C.h1) (nz _ C.t1),key,af.bq (Cell.ah C.g2 rfl) (nz _ C.t2),?_⟩⟩;have Vd:=V.no xd;refine zD Vd.y.rn.r hk (Rd.no C.k xd) C.kB (.inl (by rw[aL.len C.k];exact C.M5)) fun q w1 R1 hq x1=>?_
 have x01:Ext (·=s.mb) w w1:=x1.ae;obtain⟨y1,s1⟩:=V.y.ring (k:=⟨⟨1,1⟩,q,kk⟩) R1 hq x01 (by omega);refine⟨x01,iQ ⟨x01,?_⟩⟩;have V1:=V.sy s1 y1 rfl rfl rfl rfl rfl;have C1:=C.stp s1;generalize hT1:iB T w.heap.size w1.heap.size 3=T1 at y1 s1 V1 C1;have xd1:Ext No w1 (aa w1):=(Ext.refl _ _).drew;have ta:=V1.ta;simp only at ta;have na:∀i,T1 i=0->¬ (i=al):=fun i h e=>by rw[e,ta]at h;exact absurd h (by decide)
 have nv1:¬ (vb=al):=fun e=>by have:=V1.tb;simp only at this;rw[e,ta]at this;exact absurd this (by decide)
 refine⟨Ext (·=al) w1,xd1.aF,_,af.bq (Cell.ah C1.g0 rfl) (na _ C1.t0),Nn.mk ⟨some al,af.bq (Cell.ah V1.b rfl) nv1,1,af.bq (Cell.ah C1.g1 C.h1) (na _ C1.t1),1,af.bq (Cell.ah C1.g3 rfl) (na _ C1.t3),9,af.bq (Cell.ah C1.g3 rfl) (na _ C1.t3),mk,af.bq (Cell.ah C1.g3 rfl) (na _ C1.t3),0,af.bq (Cell.ah C1.g3 rfl) (na _ C1.t3),0,af.bq (Cell.ah C1.g3 rfl) (na _ C1.t3),0,af.bq (Cell.ah C1.g3 rfl) (na _ C1.t3),0,af.bq (Cell.ah C1.g3 rfl) (na _ C1.t3),0,af.bq (Cell.ah C1.g3 rfl) (na _ C1.t3),hs,af.bq (Cell.ah C1.g3 rfl) (na _ C1.t3),?_⟩⟩
 have fin:∀(tb cp sb:Nat)(u:Wd),Ext No w1 u->w1.heap.size<=tb->w1.heap.size<=sb->u.heap[tb]? = some (.cells (tnC mk hs cp sb).toArray 148 (0,0))->u.heap[sb]? = some (.map #[] 0)->
   ∃u',Sem.run pz (Instr.mapUpdate 88 (.map (some al)) (.int .u32 1) (.pointer (some (Addr.mk tb 0 none)))) u = .ok () u'/\Ext (·=al) w1 u'/\K u':=fun tb cp sb u xu htb hsb gt gs=>by
  have Vu:=V1.no xu;obtain⟨u',hr,m',x',z'⟩:=aJ (P:=pz) (a:=(1:Int)) (v:= .pointer (some ⟨tb,0,none⟩)) zM N8 Vu.a;have t1:T1 tb=0:=V1.y.out tb htb;have t2:T1 sb=0:=V1.y.out sb hsb;refine⟨u',hr,xu.aF.trans x' fun i _ e=>e,?_⟩;refine k T1 q tb cp sb u' (Vu.ten m' x') (aw gt x' (na tb t1)) (aw gs x' (na sb t2)) t1 t2 ?_ s1.a;exact((s1.tw).nx xu).trans (t_.one x' (by simp only;rw[ta];decide))
 constructor
 .refine zE fun cp w3 g3 h3 x3=>⟨(x3.ae).aF,fun sb w4 n4=>⟨(x3.ae.no n4.ext).aF,fun tb w5 n5=>⟨((x3.ae.no n4.ext).no n5.ext).aF,?_⟩⟩⟩
  have z3:=x3.size;have z4:=n4.size;have zd:(aa w1).heap.size=w1.heap.size:=rfl;obtain⟨u',h1,h2,h3⟩:=fin tb cp sb w5 ((x3.ae.no n4.ext).no n5.ext) (by rw[n5.at_];omega) (by rw[n4.at_];omega) n5.get (aj n4.get n5.ext);exact⟨u',h1,h2,h3⟩
 .refine fun sb w4 n4=>⟨(n4.ext.ae).aF,zE fun cp w3 g3 h3 x3=>⟨(n4.ext.ae.no x3).aF,fun tb w5 n5=>⟨((n4.ext.ae.no x3).no n5.ext).aF,?_⟩⟩⟩
  have z3:=x3.size;have z4:=n4.size;have zd:(aa w1).heap.size=w1.heap.size:=rfl;obtain⟨u',h1,h2,h3⟩:=fin tb cp sb w5 ((n4.ext.ae.no x3).no n5.ext) (by rw[n5.at_];omega) (by rw[n4.at_];omega) n5.get (aj n4.get (x3.no n5.ext));exact⟨u',h1,h2,h3⟩
end
end Go.Proofs.YtefdekemmnnclaaGreat
namespace Go.Proofs.YtefdekemmnnclaaGreat
open Go.V Go.V.Pk Go.V.Dk Go.V.Rn
abbrev mpX:MP:=⟨1,2,1,1,0,1,1⟩
theorem Y9:mpX.OK:=⟨⟨by decide,by decide⟩,⟨by decide,by decide⟩,⟨by decide,by decide⟩,⟨by decide,by decide⟩,rfl,⟨by decide,by decide⟩,⟨by decide,by decide⟩⟩
structure Bh(w:Wd)(T:Nat->Nat)(v:VA)(s:SA):Prop where
 V:ry w T v s
 op:v.op=true
 mp:v.mp=mpX
 tn:∃tb mk hs cp sb,v.ts=[(1,.pointer (some ⟨tb,0,none⟩))]/\w.heap[tb]? = some (.cells (tnC mk hs cp sb).toArray 148 (0,0))/\w.heap[sb]? = some (.map #[] 0)/\T tb=0/\T sb=0
 ks:∃q kq q1 kk,s.ks=[⟨⟨0,1⟩,q,kq⟩,⟨⟨1,1⟩,q1,kk⟩]
 pg:∃kp e,s.ps=[kp]/\F7 kp [e]/\e.ch = .z/\kp.l=⟨0,1,0,2,1,1⟩/\kp.n=2
 lg:∃k1 p1 r1 k2 p2 r2,s.L=[⟨⟨0,1,0,2,1,1⟩,k1,p1,aS++r1⟩,⟨⟨0,4,0,1,1,1⟩,k2,p2,aS++r2⟩]/\s.D.gC=((nO 100).now.set 2 (aS++r1)).set 1 (aS++r2)
section
variable {w w':Wd} {T T':Nat->Nat} {s:SA} {v:VA} {c0 c1 c2 c3:Nat} {key:Sl} {kk:List Int} {Ik:List Value} {mk:Sl} {ml:List Int} {hs:Sl}
theorem fF3:EF (qt [(2,100)]):=by
 have e:qt [(2,100)]=[(3,100)]:=by decide
 rw[e];intro r hr;simp only[List.mem_singleton]at hr;subst hr;decide
theorem aev{d:vY}{D:DS}{g:EK}{R:RS}{rb mb lb pb kb wb nb m m':Nat}{q ls fr:Sl}{kq:List Int}{L:List LE} :
  Px ⟨d,D,g,R,rb,mb,[⟨⟨0,1⟩,q,kq⟩],lb,ls,L,pb,fr,[(2,100)],kb,[],wb,nb,some m,some m',[],1,1,false⟩ 0 1 (2,100) m:=
 ⟨by show(1:Int)≠0;decide,rfl,rfl,⟨[],rfl⟩,by show cA [(2,100)]=true;decide,rfl,fun k h=>(nomatch h),fun n h=>(nomatch h),by simp[gI.OK,lY,By],by show EF (qt [(2,100)]);exact fF3,by show(qt [(2,100)]).length<=1000;decide⟩
set_option maxHeartbeats 1000000 in
theorem H_{vb al:Nat}{ky:Sl}{kl:List Int}{K:Pw}{d:vY}{g:EK}{dev:Option Addr}{Y_:List (List Int)}{rb mb lb pb kb wb nb:Nat}{q ls fr:Sl}{kq:List Int}{pm dm:Option Nat}{pu:List Int}{fl:Bool}
  (V:ry w T ⟨vb,ky,kl,true,Ij,al,[]⟩ ⟨d,nO 100,g,⟨dev,1000,0,0,Y_⟩,rb,mb,[⟨⟨0,1⟩,q,kq⟩],lb,ls,[],pb,fr,[(2,100)],kb,[],wb,nb,pm,dm,pu,0,0,fl⟩) (C:K3 w T (some ⟨vb,0,none⟩) c0 c1 c2 c3 key kk Ik mk ml hs) (Y8:kq.length=32)
  (k:∀T' v' s' w',Bh w' T' v' s'->v'.vb=vb->(∀i,i < w.heap.size->T i=0->T' i=0)->Ext (fun i=>T i≠0∨i=c3) w w'->K w') :
  cl (some ⟨vb,0,none⟩) (.func (.func 130) #[] #[.pointer (some ⟨c0,0,none⟩),.pointer (some ⟨c1,0,none⟩),.pointer (some ⟨c2,0,none⟩),.pointer (some ⟨c3,0,none⟩)]) (.func (.func 136) #[] #[.pointer (some ⟨c0,0,none⟩),.pointer (some ⟨c1,0,none⟩),.pointer (some ⟨c2,0,none⟩),.pointer (some ⟨c3,0,none⟩)]) w K:=by
 apply tV;refine fun b w1 n1=>?_
 have a1:=n1.at_;have z1:=n1.size;have V1:=V.no n1.ext;have C1:=C.no n1.ext;have xd:Ext No w1 (aa w1):=(Ext.refl _ _).drew;have Wy:T b=0:=V.y.out b (by omega);have tvb:=V.tb;simp only at tvb;have nb0:¬ (1<=T b/\T b<=12):=by omega
 have nv0:¬ (1<=T vb/\T vb<=12):=by omega
 refine⟨Ext (fun i=>1<=T i/\T i<=12) w1,xd.aF,_,af.bq (Cell.ah n1.get rfl) nb0,Nn.mk ⟨_,af.bq (Cell.ah V1.b rfl) nv0,_,af.bq (Cell.ah n1.get rfl) nb0,Nn.mk ⟨_,af.bq (Cell.ah V1.b rfl) nv0,?_⟩⟩⟩;refine MM (V1.no xd).y rfl ⟨by show(0:Int)<=0;decide,by show(0:Int)<=0;decide⟩ (by show(0:Int) < 1000;decide) (by show(1000:Int)<=18446744073709551615;decide) (by show(0:Int) < 1000;decide) ⟨by show(0:Int)<=0;decide,by show((0:Int)+1) % 2≠0 % 2;decide⟩ fun T2 m m' w2 y2 s2=>?_
 have NK:fg T w1 T2 w2:=(fg.no xd).trans s2;refine⟨NK.x,Rv ⟨NK.x,fun b1 w4 n4=>?_⟩⟩;have V2:=V1.sy NK y2 rfl rfl rfl rfl rfl;have C2:=C1.stp NK;have WG:=NK.au n1.get (.inl Wy);have tb2:T2 b=0:=(NK.a b (aV n1.get)).trans Wy;have a4:=n4.at_;have z4:=n4.size;refine aH.mk n4.get Nat.one_pos rfl fun w5 h5=>?_
 have ach:=h5.get n4.get;have nD:Ext No w2 w5:=n4.ext.out h5.ext (by show w2.heap.size<=b1;omega);have V5:=V2.no nD;have C5:=C2.no nD;have gb5:=aj WG nD;have Z_:T2 b1=0:=y2.out b1 (by omega);have b1c:∀{o:Obj}{i:Nat},w2.heap[i]? = some o->b1≠i:=fun h e=>by have:=aV h;omega
 refine sM (M6 V5 C5 rfl Y8 aev fun T6 fr6 sl6 P0 fb w6 hfb V6 C6 a6 x6=>?_);have k6:∀{o:Obj}{i:Nat},w5.heap[i]? = some o->T2 i=0->i≠c3->w6.heap[i]? = some o:=fun h ht hc=>aw h x6 fun e=>by rcases e with e | e <;> omega
 have Kl:=k6 gb5 tb2 (by have:=aV C.g3;omega);have Za:=k6 ach Z_ (b1c C2.g3);have tb6:T6 b=0:=(a6 b (aV gb5)).trans tb2;have U8:T6 b1=0:=(a6 b1 (aV ach)).trans Z_
 refine fun b2 w7 n7=>⟨rfl,cr.mk n7.get (Nat.le_refl 6) (cF rfl) fun w8 h8=>?_⟩
 have Tq:=h8.get n7.get;have a7:=n7.at_;have z7:=n7.size;have CK:Ext No w6 w8:=n7.ext.out h8.ext (by show w6.heap.size<=b2;omega);refine aH.mk (aj Za CK) Nat.one_pos rfl fun w9 h9=>?_
 have x89:Ext (·=b1) w8 w9:=h9.ext;have aew:=h9.get (aj Za CK);have lb6:=aV Za;have g29:=aw Tq x89 (by omega);refine⟨2,Cell.ah g29 rfl,1,Cell.ah g29 rfl,1,Cell.ah g29 rfl,0,Cell.ah g29 rfl,1,Cell.ah g29 rfl,1,Cell.ah g29 rfl,Ar.u32 (by decide) fun b3 gG ji=>⟨rfl,cr.mk ji.get (Nat.le_refl 7) (cF rfl) fun hU K2=>?_⟩⟩;have EA:=K2.get ji.get;have ZN:=ji.at_;have Tc:=ji.size;have aci:Ext No w9 hU:=ji.ext.out K2.ext (by show w9.heap.size<=b3;omega);have Cx:Ext (·=b1) w6 hU:=(CK.aF.trans x89 fun i _ e=>e).trans aci.aF fun i _ e=>e
 have V11:=V6.loc Cx fun i hi=>by rw[hi];exact .inl U8
 have C11:K3 hU T6 (some ⟨vb,0,none⟩) c0 c1 c2 c3 key kk Ik mk ml P0:=by
  refine⟨aw C6.g0 Cx ?_,aw C6.g1 Cx ?_,C6.h1,aw C6.g2 Cx ?_,aw C6.g3 Cx ?_,C6.t0,C6.t1,C6.t2,C6.t3,C6.n0,C6.n1,C6.n2,C6.k.ext Cx fun p i hp hi e=>?_,C6.M5,C6.kB,fun i hi=>⟨(C6.kt i hi).1,Nat.lt_of_lt_of_le (C6.kt i hi).2 Cx.size⟩,C6.m.ext Cx fun p i hp hi e=>?_,C6.KK,C6.mB,fun i hi=>⟨(C6.mt i hi).1,(C6.mt i hi).2.1,Nat.lt_of_lt_of_le (C6.mt i hi).2.2 Cx.size⟩⟩
  .exact fun e=>b1c C2.g0 e.symm
  .exact fun e=>b1c C2.g1 e.symm
  .exact fun e=>b1c C2.g2 e.symm
  .exact fun e=>b1c C2.g3 e.symm
  .have:=(C6.kt i (by simp[Sl.au,hp,hi])).1;rw[e,U8]at this;omega
  .have:=(C2.mt i (by simp[Sl.au,hp,hi])).2.2;omega
 have M7:=aw Kl Cx (by have:=aV WG;omega);have N_:=aj aew aci;have aex:=V6.tb;simp only at aex;have nb6:¬ (1<=T6 b/\T6 b<=12):=by omega
 have nv6:¬ (1<=T6 vb/\T6 vb<=12):=by omega
 have tb3:T6 b3=0:=V6.y.out b3 (by have:=CK.size;have:=x89.size;omega);have Zb:¬ (1<=T6 b3/\T6 b3<=12):=by omega
 have Zc:Ext No hU (aa hU):=(Ext.refl _ _).drew;refine⟨Ext (fun i=>1<=T6 i/\T6 i<=12) hU,Zc.aF,_,af.bq (Cell.ah M7 rfl) nb6,Nn.mk ⟨_,af.bq (Cell.ah V11.b rfl) nv6,_,af.bq (Cell.ah M7 rfl) nb6,Nn.mk ⟨_,af.bq (Cell.ah V11.b rfl) nv6,1,af.bq (Cell.ah EA rfl) Zb,2,af.bq (Cell.ah EA rfl) Zb,1,af.bq (Cell.ah EA rfl) Zb,1,af.bq (Cell.ah EA rfl) Zb,0,af.bq (Cell.ah EA rfl) Zb,1,af.bq (Cell.ah EA rfl) Zb,1,af.bq (Cell.ah EA rfl) Zb,?_⟩⟩⟩;refine Ko (m:=mpX) (k:=⟨2,⟨0,1,0,2,1,1⟩,sl6,pad (wr 1 0 [⟨be 4 1,fb,0,.z,.z⟩])⟩) (mm:=m) (q:=⟨⟨0,1⟩,q,kq⟩) (q0:=⟨⟨0,1⟩,q,kq⟩) (V11.no Zc).y Y9 (by show(1:Int)≠0;decide) rfl rfl rfl rfl rfl (List.mem_singleton.2 rfl) ⟨by show(2:Int)<=2;decide,by show(2:Int) < 100;decide⟩ rfl rfl (by show 0 < 90;decide) (by show(0:Int)+1 < 800;decide) (by show 0 < 800;decide) rfl (by show(0:Int) < 1;decide) fun V9 d12 afH pl r r2 mw hr hB FV Ti y12 aey=>?_
 have Cy:fg T6 hU V9 mw:=(fg.no Zc).trans aey;refine⟨Cy.x,iQ ⟨Cy.x,?_⟩⟩;have Zd:=V11.sy Cy y12 rfl rfl rfl rfl rfl;have zW:=C11.stp Cy;have SD:=Cy.au M7 (.inl tb6);have SE:=Cy.au N_ (.inl U8);have M8:=Cy.au EA (.inl tb3);have afI:V9 b=0:=(Cy.a b (aV M7)).trans tb6;have SF:V9 b1=0:=(Cy.a b1 (aV N_)).trans U8;refine⟨_,Cell.ah SD rfl,_,Cell.ah M8 rfl,_,Cell.ah M8 rfl,_,Cell.ah M8 rfl,_,Cell.ah M8 rfl,_,Cell.ah M8 rfl,_,Cell.ah M8 rfl,_,Cell.ah M8 rfl,Nn.mk ⟨rfl,cr.mk Zd.b (Nat.le_of_ble_eq_true rfl) (cF rfl) fun pY HX=>?_⟩⟩;have mJ:Ext (·=vb) mw pY:=HX.ext;have V14:=Zd.put (op:=true) (mp:=mpX) (HX.get Zd.b) mJ;have Oa:=Zd.tb;simp only at Oa
 have C14:K3 pY V9 (some ⟨vb,0,none⟩) c0 c1 c2 c3 key kk Ik mk ml P0:=by
  have nz:∀i,V9 i=0->¬ (i=vb):=fun i h e=>by rw[e,Oa]at h;exact absurd h (by decide)
  refine⟨aw zW.g0 mJ (nz _ zW.t0),aw zW.g1 mJ (nz _ zW.t1),zW.h1,aw zW.g2 mJ (nz _ zW.t2),aw zW.g3 mJ (nz _ zW.t3),zW.t0,zW.t1,zW.t2,zW.t3,zW.n0,zW.n1,zW.n2,zW.k.ext mJ fun p i hp hi e=>?_,zW.M5,zW.kB,fun i hi=>⟨(zW.kt i hi).1,Nat.lt_of_lt_of_le (zW.kt i hi).2 mJ.size⟩,zW.m.ext mJ fun p i hp hi=>nz _ (zW.mt i (by simp[Sl.au,hp,hi])).1,zW.KK,zW.mB,fun i hi=>⟨(zW.mt i hi).1,(zW.mt i hi).2.1,Nat.lt_of_lt_of_le (zW.mt i hi).2.2 mJ.size⟩⟩;have:=(zW.kt i (by simp[Sl.au,hp,hi])).1;rw[e,Oa]at this;exact absurd this (by decide)
 refine sK (PE V14 C14 rfl (by show 1 < 50;decide) fun T15 q15 tt cp sb kQ U9 Ze Zf tt0 ts0 s15 a15=>?_);have z25:=nD.size;have z2:=NK.x.size;have z56:=x6.size;have afJ:=Cx.size;have ae1:=Cy.x.size;have z6:∀i,i < w.heap.size->T6 i=T i:=fun i hi=>(a6 i (by omega)).trans (NK.a i (by omega))
 have X9:∀i,i < w.heap.size->V9 i=T i:=fun i hi=>(Cy.a i (by omega)).trans (z6 i hi)
 have JU:Ext (fun i=>T i≠0∨i=c3) w pY:=by
  have e2:Ext (fun i=>T i≠0∨i=c3) w w2:=n1.ext.aF.trans NK.x fun i _ h=> .inl (by omega)
  have e6:Ext (fun i=>T i≠0∨i=c3) w w6:=(e2.trans nD.aF fun i _ h=>h).trans x6 fun i hi h=>h.imp (fun h=>by rw[NK.a i (by omega)]at h;omega) id
  have N6:Ext (fun i=>T i≠0∨i=c3) w mw:=(e6.trans Cx fun i hi e=>by omega).trans Cy.x fun i hi h=> .inl (by rw[z6 i hi]at h;omega)
  exact N6.trans mJ fun i hi e=> .inl (by rw[e,tvb];decide)
 have acj:=aw SE mJ fun e=>by rw[e,Oa]at SF;exact absurd SF (by decide)
 have ack:=s15.au acj SF;refine qT ⟨true,Cell.ah ack rfl,If.not (If.yes ?_)⟩;refine k T15 _ _ kQ ⟨U9,rfl,rfl,⟨tt,mk,P0,cp,sb,rfl,Ze,Zf,tt0,ts0⟩,⟨q,kq,q15,kk,rfl⟩,⟨_,⟨be 4 1,fb,0,.z,.z⟩,rfl,⟨rfl,rfl,rfl,⟨by show(2:Int)<=2;decide,by show(2:Int) < 100;decide⟩,Ey (by simp[aI]) (by simp[aI]) hfb rfl rfl rfl,KE (by simp[aI]) hfb rfl,fun e he=>by simp only[List.mem_singleton]at he;subst he;exact⟨by show Rf.z.ok;decide,by show Rf.z.ok;decide⟩,by simp,rfl⟩,rfl,rfl,rfl⟩,⟨_,_,r,_,_,r2,rfl,rfl⟩⟩ rfl (fun i hi h=>?_) ?_
 .have:=X9 i hi;rw[a15 i (by have:=JU.size;omega),this];exact h
 .exact JU.trans s15.x fun i hi h=> .inl (by rw[<- X9 i hi];exact h)
end
end Go.Proofs.YtefdekemmnnclaaGreat
namespace Go.Proofs.YtefdekemmnnclaaGreat
open Go.V Go.V.Pk Go.V.Dk Go.V.Rn
section
variable {w w':Wd} {T T':Nat->Nat}
set_option maxHeartbeats 1000000 in
theorem KL{vb al:Nat}{ky sec:Sl}{kl sl:List Int}{d:vY}{g:EK}{dev:Option Addr}{l:List Int}{Y_:List (List Int)}{rb mb lb pb kb wb nb:Nat}{q ls fr:Sl}{kq:List Int}{pm dm:Option Nat}{pu:List Int}{fl:Bool}
  {c4 c5 c6 c7 c8:Int} {c9 tF tG tH:Sl} {yv:Bool} {K:Int->Int->Int->Sl->Sl->Int->Sl->Pw}
  (V:ry w T ⟨vb,ky,kl,true,Ij,al,[]⟩ ⟨d,nO 100,g,⟨dev,1000,0,0,l::Y_⟩,rb,mb,[⟨⟨0,1⟩,q,kq⟩],lb,ls,[],pb,fr,[(2,100)],kb,[],wb,nb,pm,dm,pu,0,0,fl⟩) (Y8:kq.length=32) (hl:16<=l.length)
  (hs:aL w.heap sec sl) (OR:B8 sl) (pA:sec.len=16) (ER:∀i,sec.au=some i->T i=0)
  (k:∀T' v' s' w',Bh w' T' v' s'->v'.vb=vb->t_ T w T' w'->K 0 0 0 ⟨none,0,0⟩ ⟨none,0,0⟩ 0 ⟨none,0,0⟩ w'):gP (some ⟨vb,0,none⟩) 1 1 sec 9 c4 c5 c6 c7 c8 c9 tF tG tH yv w K:=by
 apply uT;refine fun b w1 n1 b1 w2 n2 b2 w3 n3=>?_
 have a1:=n1.at_;have z1:=n1.size;have a2:=n2.at_;have z2:=n2.size;have a3:=n3.at_;have z3:=n3.size;have x3:Ext No w w3:=(n1.ext.no n2.ext).no n3.ext;have g0:=aj (aj n1.get n2.ext) n3.ext;have g1:=aj n2.get n3.ext;have g2:=n3.get;refine⟨fun u=>w3=u,⟨1,Cell.ah g1 rfl,If.beq (fun h=>absurd h (by decide)) fun _=>⟨sec,Cell.ah g1 rfl,If.bne (fun h=>absurd (by rw[pA];rfl) h) fun _=>⟨9,Cell.ah g1 rfl,If.dec (fun h=>absurd h (by decide)) fun _=>⟨9,Cell.ah g1 rfl,If.dec (fun h=>absurd h (by decide)) fun _=>rfl⟩⟩⟩⟩,?_⟩;rintro _ _ rfl;have V3:=V.no x3;have xd:Ext No w3 (aa w3):=(Ext.refl _ _).drew;have Vd:=V3.no xd;have KZ:=gK (P:=pz) (a:=(1:Int)) zM N8 (N9 (aa w3)) Vd.a;refine⟨fun u=>aa w3=u,⟨Ext No w3,xd,_,af.bq (Cell.ah g0 rfl) (fun h=>h),Nn.mk ⟨some al,af.bq (Cell.ah V3.b rfl) (fun h=>h),1,af.bq (Cell.ah g1 rfl) (fun h=>h),none,aa w3,KZ,xd,If.no rfl⟩⟩,?_⟩;rintro _ _ rfl;have g0d:=aj g0 xd;have g1d:=aj g1 xd;have g2d:=aj g2 xd;have zd:(aa w3).heap.size=w3.heap.size:=rfl;refine⟨9,Cell.ah g1d rfl,fun b3 mw zA=>⟨_,Cell.ah (aj g0d zA.ext) rfl,Nn.mk ⟨some al,Cell.ah (Vd.no zA.ext).b rfl,?_⟩⟩⟩;have Zd:=Vd.no zA.ext;obtain⟨lK,kN,hI,mr,z13⟩:=Cl.start (P:=pz) N8 Zd.a;refine⟨some ⟨mw.heap.size,0,none⟩,lK,kN,fun _ lx u=>⟨some ⟨b3,0,none⟩,1,1⟩=lx/\lK=u,⟨0,rfl,rfl⟩,?_⟩;rintro _ _ _ _ ⟨rfl,rfl⟩;have alt:al < mw.heap.size:=map_lt Zd.a;rcases hI.next (P:=pz) (show mw.heap.size≠al by omega) with⟨_,kQ,hn,gH⟩ | ⟨p,w',_,_,_,_,hp,_⟩
 rotate_left
 .cases hp
 refine .inl ⟨kQ,hn,?_⟩;have M9:Ext No w3 kQ:=((xd.no zA.ext).no mr).no gH;have U9:=V3.no M9;have Zg:=aj g0 M9;have SG:=aj g1 M9;have Zh:=aj g2 M9;have o3:Rd kQ.heap ⟨some ⟨b3,0,none⟩,1,1⟩ 1 ([9].map (Value.int .i64)):=Rd.no (aP.new (n:=1) (sz:=1) zA rfl (cF rfl)).rd (mr.no gH);refine⟨fun u=>kQ=u,⟨_,Cell.ah Zg rfl,Nn.mk ⟨100,Cell.ah U9.b rfl,OX o3 ⟨by decide,by decide⟩ (If.not (If.yes (If.bne (fun h=>absurd rfl h) fun _=>rfl)))⟩⟩,?_⟩;rintro _ _ rfl;refine⟨_,Cell.ah Zg rfl,Nn.mk ⟨_,Cell.ah U9.b rfl,?_⟩⟩;refine U5 U9 (l:=l) (ls:=Y_) rfl hl fun Td g' ks zn V21 hz Fk hkr hkt=>jx ?_
 have Zi:Ext (fun i=>T i≠0) w zn:=(x3.no M9).aF.trans Fk fun i _ h=>h
 have tz:∀i,w.heap.size<=i->T i=0:=fun i hi=>V.y.out i hi
 have acm:=aw Zg Fk fun h=>h (tz b (by omega))
 have acn:=aw SG Fk fun h=>h (tz b1 (by omega))
 have aco:=aw Zh Fk fun h=>h (tz b2 (by omega))
 have afK:=M9.size;have z21:=Fk.size;refine fun b4 Nz H2=>aH.mk H2.get Nat.one_pos rfl fun oQ M3=>?_
 have a23:=H2.at_;have z23:=H2.size;have acp:=M3.get H2.get;have oz:Ext No zn oQ:=H2.ext.out M3.ext (by show zn.heap.size<=b4;omega);have WH:=V21.no oz;have SH:=aj acm oz;have U_:=aj acn oz;have Y6:=aj aco oz;have z24:=oz.size;have fC:B8 (l.take 16):=fun x hx=>V.y.rg.r.b8 l List.mem_cons_self x (List.mem_of_mem_take hx)
 have acq:aL oQ.heap sec sl:=((Rd.no hs (x3.no M9)).ext Fk fun p i hp hi h=>h (ER i (by simp[Sl.au,hp,hi]))).no oz
 have tail:∀(mk:Sl)(ml:List Int)(b5:Nat)(u:Wd)(Kc:Pw),Ext No oQ u->aL u.heap mk ml->ml.length=16->B8 ml->(∀i,mk.au=some i->oQ.heap.size<=i/\i≠b5/\i < u.heap.size)->oQ.heap.size<=b5->u.heap[b5]? = some (.cells (WE mk ⟨none,0,0⟩).cells.toArray 144 (0,0))->
   (∀T' v' s' w',Bh w' T' v' s'->v'.vb=vb->t_ T w T' w'->T' b2=0->w'.heap[b2]? = some (.cells [Value.int .i64 0,.int .u64 0,.int .u64 0,.slice none 0 0,.slice none 0 0,.int .i64 0,.slice none 0 0].toArray 46 (0,0))->Kc w')->
   cl (some ⟨vb,0,none⟩) (.func (.func 130) #[] #[.pointer (some ⟨b,0,none⟩),.pointer (some ⟨b1,0,none⟩),.pointer (some ⟨b4,0,none⟩),.pointer (some ⟨b5,0,none⟩)]) (.func (.func 136) #[] #[.pointer (some ⟨b,0,none⟩),.pointer (some ⟨b1,0,none⟩),.pointer (some ⟨b4,0,none⟩),.pointer (some ⟨b5,0,none⟩)]) u Kc:=by
  intro mk ml b5 u Kc xu hm WI WJ Wv Q4 g5 hk;have to:∀i,zn.heap.size<=i->Td i=0:=V21.y.out
  have lu:=xu.size;have t0:∀i,w.heap.size<=i->i < zn.heap.size->Td i=0:=fun i h1 h2=>hz i (tz i h1)
  have gl:=aV acm;have gl1:=aV acn;have gl2:=aV aco;have gl4:=aV acp
  refine H_ (WH.no xu) (c0:=b) (c1:=b1) (c2:=b4) (c3:=b5) (key:=ks) (kk:=l.take 16) (mk:=mk) (ml:=ml) (hs:=⟨none,0,0⟩)
   ⟨aj SH xu,aj U_ xu,rfl,aj acp xu,g5,t0 b (by omega) gl,t0 b1 (by omega) gl1,to b4 (by omega),to b5 (by omega),by omega,by omega,by omega,(Rd.no hkr oz).no xu,by rw[List.length_take];omega,fC,fun i hi=>⟨by rw[(hkt i hi).1];exact Nat.le_refl _,by have:=(hkt i hi).2;omega⟩,hm,WI,WJ,fun i hi=>⟨to i (by have:=(Wv i hi).1;omega),(Wv i hi).2⟩⟩ Y8 fun T' v' s' w' A hv hz' x'=>?_
  have g2u:=aj Y6 xu;refine hk T' v' s' w' A hv ⟨fun i hi h=>hz' i (by have:=Zi.size;omega) (hz i h),?_⟩ (hz' b2 (by omega) (t0 b2 (by omega) gl2)) (aw g2u x' fun h=>h.elim (fun h=>h (t0 b2 (by omega) gl2)) fun h=>by omega)
  exact((Zi.trans oz.aF fun i _ h=>h).trans xu.aF fun i _ h=>h).trans x' fun i hi h h0=>by
   rcases h with h | h
   .exact h (hz i h0)
   .have:=Zi.size;omega
 have rest:∀(T':Nat->Nat)(v':VA)(s':SA)(u:Wd),Bh u T' v' s'->v'.vb=vb->t_ T w T' u->T' b2=0->u.heap[b2]? = some (.cells [Value.int .i64 0,.int .u64 0,.int .u64 0,.slice none 0 0,.slice none 0 0,.int .i64 0,.slice none 0 0].toArray 46 (0,0))->
   ∀u',nI u b2 (.cells [Value.int .i64 0,.int .u64 0,.int .u64 0,.slice none 0 0,.slice none 0 0,.int .i64 0,.slice none 0 0].toArray 46) u'->∃T'' v'' s'',Bh u' T'' v'' s''/\v''.vb=vb/\t_ T w T'' u':=by
  intro T' v' s' u A hv st h0 hg u' h';have x':Ext (·=b2) u u':=h'.ext;obtain⟨tb,mk,hs,cp,sb,e1,e2,e3,e4,e5⟩:=A.tn;refine⟨T',v',s',⟨A.V.loc x' fun i hi=>by rw[hi];exact .inl h0,A.op,A.mp,⟨tb,mk,hs,cp,sb,e1,aw e2 x' ?_,aw e3 x' ?_,e4,e5⟩,A.ks,A.pg,A.lg⟩,hv,st.out x' (by omega)⟩
  .rintro rfl;rw[hg]at e2;exact absurd e2 (by simp)
  .rintro rfl;rw[hg]at e3;exact absurd e3 (by simp)
 have Zj:Ext No oQ (aa oQ):=(Ext.refl _ _).drew;refine⟨Ext No oQ,Zj,1,af.bq (Cell.ah U_ rfl) (fun h=>h),9,af.bq (Cell.ah U_ rfl) (fun h=>h),_,af.bq (Cell.ah SH rfl) (fun h=>h),Nn.mk ⟨ky,af.bq (Cell.ah WH.b rfl) (fun h=>h),sec,af.bq (Cell.ah U_ rfl) (fun h=>h),?_,?_⟩⟩
 .refine FY (Rd.no WH.k Zj) WH.kB WH.kn (Rd.no acq Zj) OR pA fun PF ml wA arr hmb WI WJ nD=>⟨nD.ae,?_,?_⟩
  .refine jx ⟨nD.ae,fun b5 F5 CM=>⟨nD.ae.no CM.ext,rfl,?_⟩⟩;have a27:=CM.at_;have z25:=nD.size;have lm:=aV arr;refine cr.mk CM.get (Nat.le_refl 9) (oD.one (WE ⟨some ⟨PF,0,none⟩,16,16⟩ ⟨none,0,0⟩)) fun Fu Su=>?_
   have Tq:=Su.get CM.get;have KJ:Ext (·=b5) F5 Fu:=Su.ext;have xu:Ext No oQ Fu:=(nD.ae.no CM.ext).out KJ (by have:(aa oQ).heap.size=oQ.heap.size:=rfl;omega);refine⟨_,Cell.ah (aj SH xu) rfl,tail ⟨some ⟨PF,0,none⟩,16,16⟩ ml b5 Fu _ xu ?_ WI WJ (fun i hi=>?_) (by have:(aa oQ).heap.size=oQ.heap.size:=rfl;omega) Tq fun T' v' s' K1 A hv st h0 hg=>?_⟩
   .have h1:=arr.rd (o:=0) (n:=16) (c:=16) (by omega) (Nat.le_refl _);rw[List.drop_zero,List.take_of_length_le (by omega)]at h1
    exact(Rd.no h1 CM.ext).ext KJ fun p i hp hi e=>by
     have:i=PF:=by cases hp;exact hi.symm
     omega
   .have e:i=PF:=by simp[Sl.au]at hi;exact hi.symm
    have:(aa oQ).heap.size=oQ.heap.size:=rfl;have:=KJ.size;have:=CM.size;exact⟨by omega,by omega,by omega⟩
   .refine⟨0,Cell.ah hg rfl,0,Cell.ah hg rfl,0,Cell.ah hg rfl,⟨none,0,0⟩,Cell.ah hg rfl,⟨none,0,0⟩,Cell.ah hg rfl,0,Cell.ah hg rfl,⟨none,0,0⟩,Cell.ah hg rfl,rfl,cr.mk hg (Nat.le_refl 7) (cF rfl) fun Kw WK=>?_⟩;have EC:=WK.get hg;obtain⟨T2,v2,s2,A2,Au,Ym⟩:=rest T' v' s' K1 A hv st h0 hg Kw WK;exact⟨0,Cell.ah EC rfl,0,Cell.ah EC rfl,0,Cell.ah EC rfl,⟨none,0,0⟩,Cell.ah EC rfl,⟨none,0,0⟩,Cell.ah EC rfl,0,Cell.ah EC rfl,⟨none,0,0⟩,Cell.ah EC rfl,k T2 v2 s2 Kw A2 Au Ym⟩
  .refine fun b5 F5 CM=>⟨nD.ae.no CM.ext,jx ⟨nD.ae.no CM.ext,rfl,?_⟩⟩
   have a27:=CM.at_;have z25:=nD.size;have lm:=aV arr;refine cr.mk CM.get (Nat.le_refl 9) (oD.one (WE ⟨some ⟨PF,0,none⟩,16,16⟩ ⟨none,0,0⟩)) fun Fu Su=>?_
   have Tq:=Su.get CM.get;have KJ:Ext (·=b5) F5 Fu:=Su.ext;have xu:Ext No oQ Fu:=(nD.ae.no CM.ext).out KJ (by have:(aa oQ).heap.size=oQ.heap.size:=rfl;omega);refine⟨_,Cell.ah (aj SH xu) rfl,tail ⟨some ⟨PF,0,none⟩,16,16⟩ ml b5 Fu _ xu ?_ WI WJ (fun i hi=>?_) (by have:(aa oQ).heap.size=oQ.heap.size:=rfl;omega) Tq fun T' v' s' K1 A hv st h0 hg=>?_⟩
   .have h1:=arr.rd (o:=0) (n:=16) (c:=16) (by omega) (Nat.le_refl _);rw[List.drop_zero,List.take_of_length_le (by omega)]at h1
    exact(Rd.no h1 CM.ext).ext KJ fun p i hp hi e=>by
     have:i=PF:=by cases hp;exact hi.symm
     omega
   .have e:i=PF:=by simp[Sl.au]at hi;exact hi.symm
    have:(aa oQ).heap.size=oQ.heap.size:=rfl;have:=KJ.size;have:=CM.size;exact⟨by omega,by omega,by omega⟩
   .refine⟨0,Cell.ah hg rfl,0,Cell.ah hg rfl,0,Cell.ah hg rfl,⟨none,0,0⟩,Cell.ah hg rfl,⟨none,0,0⟩,Cell.ah hg rfl,0,Cell.ah hg rfl,⟨none,0,0⟩,Cell.ah hg rfl,rfl,cr.mk hg (Nat.le_refl 7) (cF rfl) fun Kw WK=>?_⟩;have EC:=WK.get hg;obtain⟨T2,v2,s2,A2,Au,Ym⟩:=rest T' v' s' K1 A hv st h0 hg Kw WK;exact⟨0,Cell.ah EC rfl,0,Cell.ah EC rfl,0,Cell.ah EC rfl,⟨none,0,0⟩,Cell.ah EC rfl,⟨none,0,0⟩,Cell.ah EC rfl,0,Cell.ah EC rfl,⟨none,0,0⟩,Cell.ah EC rfl,k T2 v2 s2 Kw A2 Au Ym⟩
 .refine fun b5 aez CM=>⟨CM.ext.ae,?_⟩
  have xm:Ext No oQ aez:=CM.ext.ae
  refine FY (Rd.no WH.k xm) WH.kB WH.kn (Rd.no acq xm) OR pA fun PF ml F5 arr hmb WI WJ nD=>⟨xm.no nD,jx ⟨xm.no nD,rfl,?_⟩⟩
  have a27:=CM.at_;have z25:=nD.size;have lm:=aV arr;have g27:=aj CM.get nD;have l27:=aV CM.get;refine cr.mk g27 (Nat.le_refl 9) (oD.one (WE ⟨some ⟨PF,0,none⟩,16,16⟩ ⟨none,0,0⟩)) fun Fu Su=>?_
  have Tq:=Su.get g27;have KJ:Ext (·=b5) F5 Fu:=Su.ext;have xu:Ext No oQ Fu:=(CM.ext.ae.no nD).out KJ (by have:(aa oQ).heap.size=oQ.heap.size:=rfl;omega);refine⟨_,Cell.ah (aj SH xu) rfl,tail ⟨some ⟨PF,0,none⟩,16,16⟩ ml b5 Fu _ xu ?_ WI WJ (fun i hi=>?_) (by have:(aa oQ).heap.size=oQ.heap.size:=rfl;omega) Tq fun T' v' s' K1 A hv st h0 hg=>?_⟩
  .have h1:=arr.rd (o:=0) (n:=16) (c:=16) (by omega) (Nat.le_refl _);rw[List.drop_zero,List.take_of_length_le (by omega)]at h1
   exact h1.ext KJ fun p i hp hi e=>by
    have:i=PF:=by cases hp;exact hi.symm
    omega
  .have e:i=PF:=by simp[Sl.au]at hi;exact hi.symm
   have:(aa oQ).heap.size=oQ.heap.size:=rfl;have:=KJ.size;have:=CM.size;exact⟨by omega,by omega,by omega⟩
  .refine⟨0,Cell.ah hg rfl,0,Cell.ah hg rfl,0,Cell.ah hg rfl,⟨none,0,0⟩,Cell.ah hg rfl,⟨none,0,0⟩,Cell.ah hg rfl,0,Cell.ah hg rfl,⟨none,0,0⟩,Cell.ah hg rfl,rfl,cr.mk hg (Nat.le_refl 7) (cF rfl) fun Kw WK=>?_⟩;have EC:=WK.get hg;obtain⟨T2,v2,s2,A2,Au,Ym⟩:=rest T' v' s' K1 A hv st h0 hg Kw WK;exact⟨0,Cell.ah EC rfl,0,Cell.ah EC rfl,0,Cell.ah EC rfl,⟨none,0,0⟩,Cell.ah EC rfl,⟨none,0,0⟩,Cell.ah EC rfl,0,Cell.ah EC rfl,⟨none,0,0⟩,Cell.ah EC rfl,k T2 v2 s2 Kw A2 Au Ym⟩
end
end Go.Proofs.YtefdekemmnnclaaGreat
namespace Go.Proofs.YtefdekemmnnclaaGreat
open Go.V Go.V.Pk Go.V.Dk Go.V.Rn
section
variable {w w':Wd} {T T':Nat->Nat} {v:VA} {s:SA}
theorem Bh.no(A:Bh w T v s)(x:Ext No w w'):Bh w' T v s:=by
 obtain⟨tb,mk,hs,cp,sb,e1,e2,e3,e4,e5⟩:=A.tn;exact⟨A.V.no x,A.op,A.mp,⟨tb,mk,hs,cp,sb,e1,aj e2 x,aj e3 x,e4,e5⟩,A.ks,A.pg,A.lg⟩
theorem Bh.out{b:Nat}{cs:Array Value}{t:TypeId}{fz:Nat×Nat}(A:Bh w T v s)(x:Ext (·=b) w w')(h0:T b=0)(hg:w.heap[b]? = some (.cells cs t fz))(ht:t≠148):Bh w' T v s:=by
 obtain⟨tb,mk,hs,cp,sb,e1,e2,e3,e4,e5⟩:=A.tn;refine⟨A.V.loc x fun i hi=>by rw[hi];exact .inl h0,A.op,A.mp,⟨tb,mk,hs,cp,sb,e1,aw e2 x ?_,aw e3 x ?_,e4,e5⟩,A.ks,A.pg,A.lg⟩
 .rintro rfl;rw[hg]at e2;simp only[Option.some.injEq,Obj.cells.injEq]at e2;exact ht e2.2.1
 .rintro rfl;rw[hg]at e3;exact absurd e3 (by simp)
theorem M_{p:Option Addr}(w:Wd):Sem.run pz (CX .eql 47 (.tmp 24) (.const .nilFunc) (.func (.func 67) #[.pointer p] #[]) (.nilFunc)) w = .ok (.bool false) w:=by kernel_rfl
set_option maxHeartbeats 1000000 in
theorem PG{vb al:Nat}{ky sec:Sl}{kl sl:List Int}{d:vY}{g:EK}{dev:Option Addr}{l:List Int}{Y_:List (List Int)}{rb mb lb pb kb wb nb:Nat}{q ls fr:Sl}{kq:List Int}{pm dm:Option Nat}{pu:List Int}{fl:Bool}
  {c4 c5 c6 c7 c8:Int} {c9 tF tG tH:Sl} {yv:Bool} {K:Int->Int->Int->Sl->Sl->Int->Sl->Pw}
  (V:ry w T ⟨vb,ky,kl,true,Ij,al,[]⟩ ⟨d,nO 100,g,⟨dev,1000,0,0,l::Y_⟩,rb,mb,[⟨⟨0,1⟩,q,kq⟩],lb,ls,[],pb,fr,[(2,100)],kb,[],wb,nb,pm,dm,pu,0,0,fl⟩) (Y8:kq.length=32) (hl:16<=l.length)
  (hs:aL w.heap sec sl) (OR:B8 sl) (pA:sec.len=16) (ER:∀i,sec.au=some i->T i=0)
  (k:∀T' v' s' w',Bh w' T' v' s'->v'.vb=vb->t_ T w T' w'->K 0 0 0 ⟨none,0,0⟩ ⟨none,0,0⟩ 0 ⟨none,0,0⟩ w'):kZ (some ⟨vb,0,none⟩) 1 1 sec 9 c4 c5 c6 c7 c8 c9 tF tG tH yv w K:=by
 apply A9;refine fun b w1 n1 b1 w2 n2=>?_
 have a1:=n1.at_;have z1:=n1.size;have a2:=n2.at_;have z2:=n2.size;have x2:=n1.ext.no n2.ext;have V2:=V.no x2;refine lM V2.b rfl (If.no (Nn.mk ⟨true,Cell.ah V2.b rfl,If.not (If.yes fun b2 w6 n6=>?_)⟩));have a6:=n6.at_;have z6:=n6.size;refine aH.mk n6.get Nat.one_pos rfl fun w7 h7=>?_
 have P9:Ext No w2 w7:=n6.ext.out h7.ext (by show w2.heap.size<=b2;omega);have V7:=V2.no P9;have YF:=aj (aj n1.get n2.ext) P9;have g17:=aj n2.get P9;have g27:=h7.get n6.get;refine⟨1,Cell.ah YF rfl,SC (v:=⟨vb,ky,kl,true,Ij,al,[]⟩) fun w8 x8=>⟨false,w8,M_ w8,If.no ?_⟩⟩;have V8:=V7.no x8;have Ob:=aj YF x8;have VR:=(x2.no P9).no x8;refine⟨1,Cell.ah Ob rfl,1,Cell.ah Ob rfl,sec,Cell.ah Ob rfl,9,Cell.ah Ob rfl,c4,Cell.ah Ob rfl,c5,Cell.ah Ob rfl,c6,Cell.ah Ob rfl,c7,Cell.ah Ob rfl,c8,Cell.ah Ob rfl,c9,Cell.ah Ob rfl,tF,Cell.ah Ob rfl,tG,Cell.ah Ob rfl,tH,Cell.ah Ob rfl,yv,Cell.ah Ob rfl,?_⟩;refine uU (KL V8 Y8 hl (Rd.no hs VR) OR pA ER fun T' v' s' kQ A hv st=>⟨rfl,?_⟩);have t1:T b1=0:=V.y.out b1 (by omega);have t2:T b2=0:=V.y.out b2 (by omega);have g18:=aj g17 x8;have Tq:=aj g27 x8;have SG:=st.au g18 t1;have Zh:=st.au Tq t2;have t1':T' b1=0:=st.z b1 (aV g18) t1;have t2':T' b2=0:=st.z b2 (aV Tq) t2;refine cr.mk SG (Nat.le_refl 7) (cF rfl) fun ua VF=>EB (xP ?_)
 have ub:Ext (·=b1) kQ ua:=VF.ext;have Na:=VF.get SG;have aeA:=aw Zh ub (by omega);refine⟨0,Cell.ah aeA rfl,If.bne (fun h=>absurd rfl h) fun _=>⟨0,Cell.ah Na rfl,0,Cell.ah Na rfl,0,Cell.ah Na rfl,⟨none,0,0⟩,Cell.ah Na rfl,⟨none,0,0⟩,Cell.ah Na rfl,0,Cell.ah Na rfl,⟨none,0,0⟩,Cell.ah Na rfl,?_⟩⟩;exact k T' v' s' ua (A.out ub t1' SG (by decide)) hv (((t_.no VR).trans st).out ub (by omega))
theorem SI{i at_:Int}{bs:Sl}{bl:List Int}{K:Int->Pw}(V:ry w T v s)(hi:0<=i/\i < 100)(hb:aL w.heap bs bl)(hB:B8 bl)(ht:∀i,bs.au=some i->T i=0)(hat:0<=at_/\at_ < 256)(hle:at_+bl.length<=256)
  (k:∀w',bg w'.heap s.d (jI s.D i at_.toNat bl)->Ext s.d.fp w w'->K 0 w'):eD v.p i at_ bs w K:=by
 apply tP;refine lM V.b rfl (If.no (Nn.mk ⟨s.d.p,Cell.ah V.b rfl,?_⟩));exact Be V.y.dk.r (V.y.dk.c.has hi) hb hB (fun j hj h=>by have:=V.y.dk.t j h;have:=ht j hj;omega) hat hle k
end
end Go.Proofs.YtefdekemmnnclaaGreat
namespace Go.Proofs.YtefdekemmnnclaaGreat
open Go.V Go.V.Pk Go.V.Dk Go.V.Rn
abbrev Va(q:Rf):Value:= .agg (#[.int .u32 q.p,.int .u64 q.c,.int .u16 q.g])
theorem aeB(a x:Rf)(w:Wd):(Op.equal 29 (Va a) (Va x)).run pz w = .ok (decide (a=x)) w:=by
 have h:WX pz 29 [.int .u32 a.p,.int .u64 a.c,.int .u16 a.g] [.int .u32 x.p,.int .u64 x.c,.int .u16 x.g]=some ((a.p == x.p) && ((a.c == x.c) && ((a.g == x.g) && true))):=by kernel_rfl
 have:=(nB (cs:=#[.int .u32 a.p,.int .u64 a.c,.int .u16 a.g]) (ds:=#[.int .u32 x.p,.int .u64 x.c,.int .u16 x.g]) h).2 w;rw[F4 a x]at this;exact this
theorem acr:∃fs,Tryz.prog.underlying 29=some (.struct fs):=by
 have h:(match Tryz.prog.underlying 29 with | some (.struct _)=>true | _=>false)=true:=by kernel_rfl
 split at h
 .exact⟨_,by assumption⟩
 .cases h
theorem WM:oT pz 29 Va:=Ef acr (fun b a w=>by kernel_rfl) aeB fun a=>by simp[Instr.sameBits]
theorem SJ:Tryz.prog.underlying 133=some (.map 29 4):=by kernel_rfl
section
variable {w w':Wd} {T T':Nat->Nat} {v:VA} {s:SA} {c0 c1 r:Nat}
theorem aeC{more:Sl}{K:Pw}(h:more.len=0)(k:K w):dE more ⟨c0,0,none⟩ ⟨c1,0,none⟩ w K:=by
 apply jv;refine⟨fun _ t u=>0=t/\w=u,⟨0,rfl,rfl⟩,?_⟩;rintro _ _ _ _ ⟨rfl,rfl⟩;exact If.dec (fun h'=>by omega) fun _=>k
set_option maxHeartbeats 1000000 in
theorem aeD{more:Sl}{l:gI}{K:Pw}(hm:Rd w.heap more 6 l.c)(hl:more.len=1)(g0:w.heap[c0]? = some (.cells [Value.map (some r)].toArray 133 (0,0)))(g1:w.heap[c1]? = some (.cells [Value.slice none 0 0].toArray 55 (0,0)))(hr:fh w.heap Va r ([]:List (Rf×Value)))(n1:c1≠r)
  (k:∀sl w',w'.heap[c1]? = some (.cells [sl.v].toArray 55 (0,0))->aP w'.heap w.heap.size 31 6 sl l.c->Ext (fun i=>i=r∨i=c1) w w'->K w'):dE more ⟨c0,0,none⟩ ⟨c1,0,none⟩ w K:=by
 apply jv;refine⟨fun n t u=>(n=1/\t=0/\w=u)∨(n=0/\t=1/\K u),⟨1,.inl ⟨rfl,rfl,rfl⟩⟩,?_⟩;rintro _ n t u (⟨rfl,rfl,rfl⟩ | ⟨rfl,rfl,hk⟩)
 .refine If.dec (fun _=>?_) fun h=>absurd (by omega) h
  refine Ix.elem (f:=fun _:Unit=>l.c) (l:=[()]) (by simpa using hm) (fun _ _=>rfl) (by decide) (by decide) (by omega) fun b' o' hi EE hc=>?_
  refine⟨_,hc 0 _ rfl,_,hc 1 _ rfl,_,hc 2 _ rfl,_,hc 3 _ rfl,_,hc 4 _ rfl,_,hc 5 _ rfl,jy rfl rfl (cF rfl) fun w3 g3 z3 x3=>?_⟩;have VH:=hr.ext x3 fun h=>h
  have KZ:=gK (P:=pz) (a:=(⟨l.pg,l.cm,l.gn⟩ : Rf)) WM SJ (RP w3) VH;refine⟨some r,Cell.ah (aj g0 x3) rfl,l.pg,Cell.ah g3 rfl,l.cm,Cell.ah g3 rfl,l.gn,Cell.ah g3 rfl,false,w3,KZ,If.not (If.no ?_)⟩;obtain⟨w5,h5,m5,x5,z5⟩:=aJ (P:=pz) (a:=(⟨l.pg,l.cm,l.gn⟩ : Rf)) (v:= .bool true) WM SJ VH;have lr:=map_lt hr;have g35:=aw g3 x5 (by omega);have Ze:=aw (aj g1 x3) x5 n1;refine⟨some r,Cell.ah (aj g0 x3) rfl,l.pg,Cell.ah g3 rfl,l.cm,Cell.ah g3 rfl,l.gn,Cell.ah g3 rfl,w5,h5,⟨none,0,0⟩,Cell.ah Ze rfl,l.t,Cell.ah g35 rfl,l.kd,Cell.ah g35 rfl,l.lv,Cell.ah g35 rfl,l.pg,Cell.ah g35 rfl,l.cm,Cell.ah g35 rfl,l.gn,Cell.ah g35 rfl,?_⟩;refine wm (cs:=[]) (xs:=l.c) (aP.nil _ _ _ _) (Nat.le_refl _) rfl (cF rfl) (Nat.zero_le _) fun s6 w6 o6 l6 x6 P0=>?_
  have rr:Ext No w5 w6:=x6.mono fun _ _ h=>nomatch h
  have YZ:=aj Ze rr;refine aH.mk YZ (by decide) rfl fun w7 h7=>Ar.i64 (by decide) ⟨0,by decide,.inr ⟨rfl,rfl,?_⟩⟩
  have x7:Ext (·=c1) w6 w7:=h7.ext;have z56:=rr.size;refine k s6 w7 (h7.get YZ) ((o6.ext x7 fun i hi e=>?_).mono ?_) (((x3.aF.trans x5 fun i _ e=> .inl e).trans rr.aF fun i _ h=>h).trans x7 fun i _ e=> .inr e)
  .have:=(o6.lt hi).1;have:=aV g1;omega
  .omega
 .exact If.dec (fun h=>absurd h (by omega)) fun _=>hk
set_option maxHeartbeats 2000000 in
theorem Ia{K:Sl->Int->Pw}(V:ry w T v s)(ho:v.op=true)(hmp:v.mp=mpX)
  (tn:∃tb mk hs cp sb,v.ts=[(1,.pointer (some ⟨tb,0,none⟩))]/\w.heap[tb]? = some (.cells (tnC mk hs cp sb).toArray 148 (0,0))/\w.heap[sb]? = some (.map #[] 0)/\T tb=0/\T sb=0)
  (pg:∃kp e,s.ps=[kp]/\F7 kp [e]/\e.ch = .z/\kp.l=⟨0,1,0,2,1,1⟩/\kp.n=2)
  (k:∀sl w',aP w'.heap w.heap.size 31 6 sl (⟨0,1,0,2,1,1⟩ : gI).c->Ext No w w'->K sl 0 w'):gh v.p w K:=by
 obtain⟨tb,mk,hs,cp,sb,e1,e2,e3,e4,e5⟩:=tn;obtain⟨kp,e,hps,hl,hch,zm,hkn⟩:=pg;obtain⟨vb,ky,kl,op,mp,al,ts⟩:=v;simp only at ho hmp e1;subst ho hmp e1;apply tY;refine fun b w1 n1 b1 w2 n2=>?_
 have V2:=V.no (n1.ext.no n2.ext);refine lM V2.b rfl (If.no (Nn.mk ⟨true,Cell.ah V2.b rfl,If.not (If.yes fun b2 w8 n8 b3 w9 n9=>aH.mk n9.get Nat.one_pos rfl fun gG Cp=>?_)⟩));have a1:=n1.at_;have z1:=n1.size;have a2:=n2.at_;have z2:=n2.size;have a8:=n8.at_;have z8:=n8.size;have a9:=n9.at_;have z9:=n9.size;have q_:=n1.ext.no n2.ext;have Zk:Ext (·=b3) w9 gG:=Cp.ext;have Zl:Ext No w2 gG:=(n8.ext.no n9.ext).out Zk (by omega);have Ez:=q_.no Zl;have Zm:=V.no Ez;have gb:=aj (aj n1.get n2.ext) Zl;have gb1:=aj n2.get Zl;have WG:gG.heap[b2]? = some (.map #[] 0):=aw (aj n8.get n9.ext) Zk (by omega);have gb3:=Cp.get n9.get;have Tc:=Zk.size;have out:∀i,w.heap.size<=i->T i=0:=V.y.out
 have tvb:=V.tb;simp only at tvb;have nvb:¬ (vb=b2∨vb=b):=fun h=>by have:=aV V.b;simp only at this;omega
 have xd:Ext No gG (aa gG):=(Ext.refl _ _).drew;refine⟨Ext (fun i=>i=b2∨i=b) gG,xd.aF,Nn.mk ⟨s.p,af.bq (Cell.ah Zm.b rfl) nvb,Nn.mk ⟨2,af.bq (Cell.ah Zm.b rfl) nvb,1,af.bq (Cell.ah Zm.b rfl) nvb,1,af.bq (Cell.ah Zm.b rfl) nvb,0,af.bq (Cell.ah Zm.b rfl) nvb,?_⟩⟩⟩;have UA:=Ky (K:=?_) (k:=kp) (e:=e) (Zm.no xd).y (by rw[hps];simp[mG]) (by rw[hps];exact List.mem_singleton.2 rfl) hl hch ?_
 .rw[zm]at UA;exact UA
 intro sl hU HE oF;rw[zm]at HE;have vk:Ext No gG hU:=oF.ae;refine⟨vk.aF,xU ⟨vk.aF,jw ?_⟩⟩;have pA:sl.len=1:=by have:=HE.len;simp at this;omega
 refine aeD (l:=⟨0,1,0,2,1,1⟩) (r:=b2) HE.rd pA (aj gb3 vk) (aj gb vk) ⟨#[],0,aj WG vk,rfl,db.nil⟩ (by omega) fun sl2 lK gl2 Un mr=>?_
 refine⟨vk.aF.trans mr fun i _ h=>h,?_⟩;have V13:=(Zm.no vk).loc mr fun i hi=> .inl (out i (by rcases hi with h | h <;> omega))
 have SK:Ext (fun i=>i=b2∨i=b) gG lK:=vk.aF.trans mr fun i _ h=>h
 have SL:Ext No w lK:=Ez.trans SK fun i hi h=>by rcases h with h | h <;> omega
 have aeE:lK.heap[b1]? = _:=aw gb1 SK (by omega);have z13:=SK.size;refine Nn.mk ⟨some al,Cell.ah V13.b rfl,dA fun bk pY VE=>sI (qK ?_)⟩;refine zU VE.get (V13.no VE.ext).a (Nat.le_refl 1) fun sk kQ Te gH=>?_
 have hsk:sk.len=1:=by have:=Te.len;simpa[kM] using this.symm
 refine zG (by omega) ?_;have Oc:=VE.ext.no gH;have Fw:=SL.no Oc;have U9:=V.no Fw;have SM:=aj e2 Fw;have Zf:=aj e3 Fw
 have fin:∀u,Ext No kQ u->∃zQ:Sl,Cell u (Addr.mk b 0 none) (.slice zQ.a zQ.len zQ.cap)/\aH u (Addr.mk b 0 none) (.slice zQ.a zQ.len zQ.cap) fun We=>aH We (Addr.mk b1 0 none) (.int .i64 0) fun F5=>
   oG pz 31 #[.pointer (some ⟨vb,0,none⟩),.pointer (some (Addr.mk b1 0 none))] (fun Fu=>oG pz 84 #[.pointer (some (Addr.mk b1 0 none)),.pointer (some (Addr.mk b 0 none))] (fun K1=>∃wz:Sl,Cell K1 (Addr.mk b 0 none) (.slice wz.a wz.len wz.cap)/\∃BH:Int,Cell K1 (Addr.mk b1 0 none) (.int .i64 BH)/\K wz BH K1) Fu) F5:=by
  intro u xu;have g0:=aj gl2 (Oc.no xu);have g1:=aj aeE (Oc.no xu);refine⟨sl2,Cell.ah g0 rfl,aH.mk g0 Nat.one_pos rfl fun We h26=>?_⟩;have RF:Ext (·=b) u We:=h26.ext;have aeF:=h26.get g0;have acs:=aw g1 RF (by omega);refine aH.mk acs Nat.one_pos rfl fun F5 h27=>EB (qW ?_)
  have P9:Ext (·=b1) We F5:=h27.ext;have acu:=h27.get acs;refine⟨0,Cell.ah acu rfl,If.bne (fun h=>absurd rfl h) fun _=>⟨sl2,Cell.ah (aw aeF P9 (by omega)) rfl,0,Cell.ah acu rfl,k sl2 F5 ?_ ?_⟩⟩
  .have o:=((Un.no (Oc.no xu)).ext RF fun i hi e=>by have:=(Un.lt hi).1;have:=vk.size;omega).ext P9 fun i hi e=>by have:=(Un.lt hi).1;have:=vk.size;omega
   exact o.mono (by have:=Ez.size;have:=vk.size;omega)
  .exact((Fw.no xu).out RF (by omega)).out P9 (by omega)
 refine⟨fun n t u=>(n=1/\t=0/\kQ=u)∨(n=0/\t=1/\Ext No kQ u),⟨1,.inl ⟨rfl,rfl,rfl⟩⟩,?_⟩;rintro _ n t u (⟨rfl,rfl,rfl⟩ | ⟨rfl,rfl,xu⟩)
 rotate_left
 .exact If.dec (fun h=>absurd h (by omega)) fun _=>fin u xu
 refine If.dec (fun _=>?_) fun h=>absurd (by omega) h
 refine Ix.cell Te.rd (by decide) (by omega) fun b' o' vx _ hv' hc=>?_
 have ev:vx = .int .u32 1:=by simpa[kM] using hv'.symm
 subst ev;refine⟨1,hc,Nn.mk ⟨some al,Cell.ah U9.b rfl,?_⟩⟩;have KZ:=gK (P:=pz) (a:=(1:Int)) zM N8 (N9 kQ) U9.a;refine⟨some ⟨tb,0,none⟩,kQ,KZ,?_⟩;have aeG:Ext No kQ (aa kQ):=(Ext.refl _ _).drew;refine⟨Ext No kQ,aeG,Nn.mk ⟨s.p,af.bq (Cell.ah U9.b rfl) (fun h=>h),Nn.mk ⟨0,af.bq (Cell.ah SM rfl) (fun h=>h),0,af.bq (Cell.ah SM rfl) (fun h=>h),0,af.bq (Cell.ah SM rfl) (fun h=>h),0,af.bq (Cell.ah SM rfl) (fun h=>h),?_⟩⟩⟩
 refine N0 fun Q6 zt=>⟨zt.ae,xU ⟨zt.ae,jw (aeC rfl ⟨zt.ae,Nn.mk ⟨some sb,Cell.ah (aj SM zt.ae) rfl,d_ fun bj zn Vb=>sN (qM ?_)⟩⟩)⟩⟩
 have WN:Ext No kQ Q6:=zt.ae
 have hms:fh zn.heap (Value.int .u64) sb ([]:List (Int×Value)):=⟨#[],0,aj Zf (WN.no Vb.ext),rfl,db.nil⟩
 refine zV Vb.get hms (Nat.zero_le _) fun sj FU o22 Ih=>?_
 have hsj:sj.len=0:=by have:=o22.len;simpa[kM] using this.symm
 refine HK (by omega) ⟨fun _ t u=>0=t/\FU=u,⟨0,rfl,rfl⟩,?_⟩;rintro _ _ _ _ ⟨rfl,rfl⟩;exact If.dec (fun h=>by omega) fun _=>Ar.i64 (by decide) ⟨0,by decide,.inr ⟨rfl,rfl,(WN.no Vb.ext).no Ih⟩⟩
end
end Go.Proofs.YtefdekemmnnclaaGreat
namespace Go.Proofs.YtefdekemmnnclaaGreat
open Go.V Go.V.Pk Go.V.Dk Go.V.Rn
abbrev f90:List Int:=1::List.replicate 255 0
structure Zn(w:Wd)(T:Nat->Nat)(v:VA)(s:SA):Prop where
 V:ry w T v s
 op:v.op=true
 mp:v.mp=mpX
 tn:∃tb mk hs cp sb,v.ts=[(1,.pointer (some ⟨tb,0,none⟩))]/\w.heap[tb]? = some (.cells (tnC mk hs cp sb).toArray 148 (0,0))/\w.heap[sb]? = some (.map #[] 0)/\T tb=0/\T sb=0
 ks:∃q kq q1 kk,s.ks=[⟨⟨0,1⟩,q,kq⟩,⟨⟨1,1⟩,q1,kk⟩]
 pg:∃kp e,s.ps=[kp]/\F7 kp [e]/\e.ch = .z/\kp.l=⟨0,1,0,2,1,1⟩/\kp.n=2
 lg:∃k1 p1 r1 k2 p2 r2,s.L=[⟨⟨0,1,0,2,1,1⟩,k1,p1,aS++r1⟩,⟨⟨0,4,0,1,1,1⟩,k2,p2,aS++r2⟩]/\∀i:Nat,2<=i->i < 100->s.D.gC.getD i []=if i=2 then aS++r1 else if i=90 then f90 else bW
theorem F_{b1 b2:List Int}{i:Nat}(h2:2<=i)(h:i < 100):(((nO 100).now.set 2 b1).set 1 b2).getD i []=if i=2 then b1 else bW:=by
 show(((List.replicate 100 bW).set 2 b1).set 1 b2).getD i []=_;rw[List.getD_eq_getElem?_getD,List.getElem?_set_ne (by omega)];by_cases h3:i=2
 .subst h3;rw[List.getElem?_set_self (by rw[List.length_replicate];decide),if_pos rfl];rfl
 .rw[List.getElem?_set_ne (by omega),List.getElem?_replicate,if_pos h,if_neg h3];rfl
theorem SN:nQ bW 0 [1]=f90:=by decide
section
variable {w w':Wd} {T T':Nat->Nat} {v:VA} {s:SA}
theorem Ib{bs:Sl}{K:Int->Pw}(A:Bh w T v s)(hb:aL w.heap bs [1])(ht:∀i,bs.au=some i->T i=0)(k:∀T' s' w',Zn w' T' v s'->t_ T w T' w'->K 0 w'):eD v.p 90 0 bs w K:=by
 refine SI A.V (by decide) hb (fun x hx=>by simp only[List.mem_singleton]at hx;subst hx;decide) ht (by decide) (by decide) fun w' r x=>?_
 have c:=A.V.y.dk.c
 have cal:Calm (jI s.D 90 (0:Int).toNat [1]):=⟨by simp[jI,c.n],c.fail,c.cut,c.down,c.st,c.w⟩
 obtain⟨y',st⟩:=A.V.y.Yl r (Fo.refl w s.d) x cal;have V':=A.V.sy st y' rfl rfl rfl rfl rfl;obtain⟨tb,mk,hs,cp,sb,e1,e2,e3,e4,e5⟩:=A.tn;obtain⟨k1,p1,r1,k2,p2,r2,hL,hf⟩:=A.lg;refine k _ _ w' ⟨V',A.op,A.mp,⟨tb,mk,hs,cp,sb,e1,st.au e2 (.inl e4),st.au e3 (.inl e5),(st.a _ (aV e2)).trans e4,(st.a _ (aV e3)).trans e5⟩,A.ks,A.pg,⟨k1,p1,r1,k2,p2,r2,hL,fun i h2 h=>?_⟩⟩ st.tw;show(s.D.gC.set 90 (nQ (s.D.gC.getD 90 []) 0 [1])).getD i []=_;have hlen:90 < s.D.gC.length:=by rw[hf];simp[nO]
 rw[List.getD_eq_getElem?_getD];by_cases h90:i=90
 .subst h90;rw[List.getElem?_set_self hlen,if_neg (by decide),if_pos rfl,hf,F_ (by decide) (by decide),if_neg (by decide)];exact SN
 .rw[List.getElem?_set_ne (by omega),<- List.getD_eq_getElem?_getD,hf,F_ h2 h,if_neg h90]
theorem KM{K:Option Addr->Pw}(V:ry w T v s)(k:K s.lB w):gu v.p w K:=by
 apply zg;exact lM V.b rfl (If.no (Nn.mk ⟨s.lB,Cell.ah V.b rfl,k⟩))
theorem SO{K:Int->Pw}(V:ry w T v s)(k:K 100 w):gL v.p w K:=by
 apply uV;refine lM V.b rfl (If.no (Nn.mk ⟨s.d.p,Cell.ah V.b rfl,tp V.y.dk.r ?_⟩));rw[V.y.dk.c.n];exact k
theorem Zo{i:Int}{K:Sl->Int->Pw}(V:ry w T v s)(hi:0<=i/\i < 100)(k:∀sl w',aL w'.heap sl (s.D.gC.getD i.toNat [])->Ext No w w'->K sl 0 w'):iV v.p i w K:=by
 apply xD;refine lM V.b rfl (If.no (Nn.mk ⟨s.d.p,Cell.ah V.b rfl,Fm V.y.dk.r (fun h=>by rw[V.y.dk.c.has hi]at h;cases h) fun _ sl w' o x=>k sl w' o.rd x⟩))
theorem Zp{t:Int}{K:Sl->Pw}(V:ry w T v s)(ho:v.op=true)(h1:(rq s.ks t).length<=1)(k:∀sl w',aP w'.heap w.heap.size 27 1 sl ((rq s.ks t).map (Value.int .u16))->Ext No w w'->K sl w'):iU v.p t w K:=by
 apply xE;refine⟨fun u=>w=u,lM V.b rfl (If.no (Nn.mk ⟨v.op,Cell.ah V.b rfl,by rw[ho];exact If.not (If.yes rfl)⟩)),?_⟩;rintro _ _ rfl;exact Nn.mk ⟨s.rB,Cell.ah V.b rfl,vy V.y.rn.r (by have:=V.y.rn.n;omega) h1 k⟩
set_option maxHeartbeats 1000000 in
theorem KN{S6:Value}{c0:Nat}{m2:List Int}{K:Sl->Pw}(V:ry w T v s)(hc:w.heap[c0]? = some (.cells [Value.pointer v.p].toArray 41 (0,0)))(fm:∀ i:Nat,2<=i->i < 100->s.D.gC.getD i []=if i=2 then m2 else if i=90 then f90 else bW)
    (hm:¬ ∀x∈m2,x=0) (WJ:B8 m2) (WI:m2.length=256)
    (acv:∀(i:Int)(sl:Sl)(bl:List Int)(u:Wd)(Kb:Bool->Pw),Ext No w u->(i=2/\bl=m2∨i=90/\bl=f90)->aL u.heap sl bl->(∀u',Ext No u u'->Kb (decide (i=90)) u')->aG pz true S6 [.int .i64 i,.slice sl.a sl.len sl.cap] [.one .bool] Kb cB u)
    (k:∀out w',aP w'.heap w.heap.size 3 1 out [Value.int .i64 90]->Ext No w w'->K out w'):lq S6 ⟨c0,0,none⟩ w K:=by
  apply AT;refine⟨fun n out i u=>∃j:Nat,i=2+(j:Int)/\j<=98/\n=98 - j/\Ext No w u/\aP u.heap w.heap.size 3 1 out (if j<=88 then[] else[Value.int .i64 90]),⟨_,0,rfl,Nat.zero_le _,rfl,Ext.refl _ _,aP.nil _ _ _ _⟩,?_⟩;rintro _ n out i u ⟨j,rfl,hj,rfl,x,o⟩;have Vu:=V.no x;have hlo:out.len<=1:=by have:=o.len;split at this <;> simp at this <;> omega
  refine⟨_,Cell.ah (aj hc x) rfl,SO Vu (If.dec (fun h=>?_) fun h=>?_)⟩
  · refine⟨_,Cell.ah (aj hc x) rfl,Zo Vu (by omega) fun sl w3 o3 x3=>If.beq (fun _=>?_) fun h=>absurd rfl h⟩
    have e:s.D.gC.getD (2+(j:Int)).toNat []=if j=0 then m2 else if j=88 then f90 else bW:=by
      have h1:(2+(j:Int)).toNat=j+2:=by omega
      rw[h1,fm _ (by omega) (by omega)];by_cases h2:j=0
      · rw[if_pos (by omega),if_pos h2]
      · rw[if_neg (by omega),if_neg h2];by_cases h3:j=88
        · rw[if_pos (by omega),if_pos h3]
        · rw[if_neg (by omega),if_neg h3]
    rw[e]at o3;have qf:=x.no x3
    have acw:B8 f90:=fun y hy=>by
      rcases List.mem_cons.1 hy with h | h
      · subst h;decide
      · rw[(List.mem_replicate.1 h).2];decide
    have next:∀u',Ext No w3 u'->j≠88->Ar .i64 (2+(j:Int)+1) fun z=>∃m1,m1 < 98 - j/\∃j':Nat,z=2+(j':Int)/\j'<=98/\m1=98 - j'/\Ext No w u'/\aP u'.heap w.heap.size 3 1 out (if j'<=88 then[] else[Value.int .i64 90]):=fun u' x' dz=>
      Ar.i64 (by omega) ⟨98 - (j+1),by omega,j+1,by push_cast;omega,by omega,rfl,qf.no x',by
        have o':=o.no (x3.no x');by_cases h4:j<=88
        · rw[if_pos h4]at o';rw[if_pos (by omega)];exact o'
        · rw[if_neg h4]at o';rw[if_neg (by omega)];exact o'⟩
    by_cases h0:j=0
    · rw[if_pos h0]at o3;refine mo o3 WJ (by rw[WI];decide) ?_;rw[decide_eq_false hm];refine If.not (If.no (acv _ sl m2 w3 _ qf (.inl ⟨by omega,rfl⟩) o3 fun u' x'=>?_));rw[decide_eq_false (by omega)];exact If.no (next u' x' (by omega))
    · rw[if_neg h0]at o3;by_cases h88:j=88
      · rw[if_pos h88]at o3;refine mo o3 acw (by simp) ?_;rw[decide_eq_false (fun h=>by have:=h 1 List.mem_cons_self;exact absurd this (by decide))];refine If.not (If.no (acv _ sl f90 w3 _ qf (.inr ⟨by omega,rfl⟩) o3 fun u' x'=>?_));rw[decide_eq_true (by omega)];have o':=o.no (x3.no x');rw[if_pos (by omega)]at o';have xu':=qf.no x';refine If.yes (Uu (cs:=[]) o' xu'.size rfl (Kd rfl) (by omega) fun s7 w7 o7 l7 x7 _=>Ar.i64 (by omega) ⟨98 - (j+1),by omega,j+1,by push_cast;omega,by omega,rfl,xu'.trans x7 fun i hi e=>by have:=(o'.lt e).1;omega,?_⟩);rw[if_neg (by omega)];have e90:2+(j:Int)=90:=by omega
        rw[e90]at o7;exact o7
      · rw[if_neg h88]at o3;refine mo o3 (B8.py 256) (by simp[bW]) ?_;rw[decide_eq_true (fun y hy=>by unfold bW at hy;exact(List.mem_replicate.1 hy).2)];exact If.not (If.yes (next w3 (Ext.refl _ _) h88))
  · rw[if_neg (by omega)]at o;exact k out u o x
end
end Go.Proofs.YtefdekemmnnclaaGreat
namespace Go.Proofs.YtefdekemmnnclaaGreat
open Go.V Go.V.Pk Go.V.Dk Go.V.Rn
theorem acx:oT pz 3 (Value.int .i64):=GB (by kernel_rfl)
theorem WO:Tryz.prog.underlying 98=some (.map 3 4):=by kernel_rfl
section
variable {w w':Wd} {T T':Nat->Nat} {v:VA} {s:SA}
set_option maxHeartbeats 2000000 in
theorem PH{K:Sl->Sl->Sl->Sl->Int->Pw}(A:Zn w T v s)
  (k:∀o1 o2 w',Rd w'.heap o1 1 [Value.int .i64 90]->Rd w'.heap o2 1 [Value.int .i64 90]->Ext No w w'->K ⟨none,0,0⟩ o1 o2 ⟨none,0,0⟩ 0 w'):nU v.p w K:=by
 obtain⟨k1,p1,r1,k2,p2,r2,hL,fm⟩:=A.lg;obtain⟨q,kq,q1,kk,Tj⟩:=A.ks;apply DR;refine fun b w1 n1 b1 w2 n2=>?_
 have q_:=n1.ext.no n2.ext;have a1:=n1.at_;have z1:=n1.size;have a2:=n2.at_;have z2:=n2.size
 have tn2:∃tb mk hs cp sb,v.ts=[(1,.pointer (some ⟨tb,0,none⟩))]/\w2.heap[tb]? = some (.cells (tnC mk hs cp sb).toArray 148 (0,0))/\w2.heap[sb]? = some (.map #[] 0)/\T tb=0/\T sb=0:=by
  obtain⟨tb,mk,hs,cp,sb,e1,e2,e3,e4,e5⟩:=A.tn;exact⟨tb,mk,hs,cp,sb,e1,aj e2 q_,aj e3 q_,e4,e5⟩
 have WG:=aj n1.get n2.ext;refine⟨_,Cell.ah WG rfl,Ia (A.V.no q_) A.op A.mp tn2 A.pg fun sl w3 o3 x3=>If.bne (fun h=>absurd rfl h) fun _=>⟨_,Cell.ah (aj WG x3) rfl,?_⟩⟩;have V3:=(A.V.no q_).no x3;refine KM V3 (Mu V3.y.lg.r (by have:=V3.y.lg.n;omega) (by rw[hL];simp[LE.n]) fun w6 x6=>jy rfl rfl (cF rfl) fun w8 g8 z8 x8=>fun b3 w9 n9 b4 gG ji=>aH.mk ji.get Nat.one_pos rfl fun hU K2=>?_);have a9:=n9.at_;have z9:=n9.size;have ZN:=ji.at_;have Tc:=ji.size;have fo:Ext (·=b4) gG hU:=K2.ext;have z3:=x3.size;have z6:=x6.size;have Zq:Ext No w8 hU:=(n9.ext.no ji.ext).out fo (by omega);have Vc:Ext No w3 hU:=(x6.no x8).no Zq;have A_:Ext No w hU:=(q_.no x3).no Vc;have M7:=aj (aj WG x3) Vc;have N_:=aj (aj n2.get x3) Vc;have aeH:=aj g8 Zq;have aeI:hU.heap[b3]? = some (.map #[] 0):=aw (aj n9.get ji.ext) fo (by omega);have acy:=K2.get ji.get
 have Y1:fh hU.heap (Value.int .i64) b3 ([]:List (Int×Value)):=⟨#[],0,aeI,rfl,db.nil⟩
 have z11:=Zq.size;have pA:sl.len=1:=by have:=o3.len;simp at this;omega
 refine⟨fun n t u=>(n=1/\t=0/\hU=u)∨(n=0/\t=1/\fh u.heap (Value.int .i64) b3 [((2:Int),.bool true)]/\Ext (·=b3) hU u),⟨1,.inl ⟨rfl,rfl,rfl⟩⟩,?_⟩;rintro _ n t mw (⟨rfl,rfl,rfl⟩ | ⟨rfl,rfl,m12,gV⟩)
 .refine If.dec (fun _=>?_) fun h=>absurd (by omega) h
  have HE:=(o3.no Vc).rd;refine Ix.elem (f:=fun _:Unit=>(⟨0,1,0,2,1,1⟩ : gI).c) (l:=[()]) (by simpa using HE) (fun _ _=>rfl) (by decide) (by decide) (by omega) fun b' o' hi EE hc=>?_
  refine⟨_,hc 0 _ rfl,_,hc 1 _ rfl,_,hc 2 _ rfl,_,hc 3 _ rfl,_,hc 4 _ rfl,_,hc 5 _ rfl,jy rfl rfl (cF rfl) fun pY UD z14 mJ=>?_⟩;obtain⟨kQ,Tk,m15,gH,z15⟩:=aJ (P:=pz) (a:=(2:Int)) (v:= .bool true) acx WO (Y1.ext mJ fun h=>h);rw[zL (fun p hp=>by cases hp)]at m15;have SP:Ext (·=b3) hU kQ:=mJ.aF.trans gH fun i _ e=>e
  have Fw:Ext No w kQ:=A_.trans SP fun i hi e=>by omega
  have lm:=map_lt Y1;have acz:=aw UD gH (by omega);refine⟨some b3,Cell.ah (aj acy mJ) rfl,2,Cell.ah UD rfl,Ar.i64 (by decide) ⟨kQ,Tk,_,Cell.ah (aw M7 SP (by omega)) rfl,0,Cell.ah acz rfl,?_⟩⟩;refine Zp (A.V.no Fw) A.op (by rw[Tj];exact Nat.le_refl 1) fun s16 ua Rg ub=>?_
  have eg:rq s.ks 0=[1]:=by rw[Tj];rfl
  rw[eg]at Rg;have VF:s16.len=1:=by have:=Rg.len;simpa using this.symm
  have xd:Ext No ua (aa ua):=(Ext.refl _ _).drew;have aeJ:=aj acz ub;refine⟨fun t u=>false=t/\aa ua=u,⟨Ext No ua,xd,If.beq (fun h=>by omega) fun _=>Ar.i64 (by omega) (Ix.int Rg.rd (by omega) (by omega) fun bb oo _ dt=>⟨_,af.bq dt (fun h=>h),1,af.bq (Cell.ah aeJ rfl) (fun h=>h),?_,rfl⟩)⟩,?_⟩
  .have:((s16.len:Int) - 1).toNat=0:=by omega
   rw[this];rfl
  rintro _ _ _ ⟨rfl,rfl⟩;exact If.no (Ar.i64 (by decide) ⟨0,by decide,.inr ⟨rfl,rfl,m15.ext (ub.no xd) fun h=>h,SP.trans (ub.no xd).aF fun i _ h=>h⟩⟩)
 refine If.dec (fun h=>absurd h (by omega)) fun _=>?_
 have Ve:Ext No w mw:=A_.trans gV fun i hi e=>by omega
 have X9:=gV.size;have SD:=aw M7 gV (by omega);have SE:=aw N_ gV (by omega);have acA:=aw acy gV (by omega);have acB:=aw aeH gV (by omega);have jz:(⟨⟨0,1,0,2,1,1⟩,k1,p1,aS++r1⟩ : LE)∈s.L:=by rw[hL];exact List.mem_cons_self
 have hB:B8 (aS++r1):=A.V.y.lg.r.b8 _ jz
 have acw:B8 f90:=fun y hy=>by
  rcases List.mem_cons.1 hy with h | h
  .subst h;decide
  .rw[(List.mem_replicate.1 h).2];decide
 have Pp:(aS++r1).length=256:=by
  have h2:=fm 2 (by decide) (by decide);rw[if_pos rfl]at h2;have hn:2 < s.D.gC.length:=by rw[A.V.y.dk.r.wf.n,A.V.y.dk.c.n];decide
  have:=A.V.y.dk.r.wf.rf (s.D.gC[2]) (List.getElem_mem hn);rw[<- h2,List.getD_eq_getElem?_getD,List.getElem?_eq_getElem hn];exact this.1
 have hm:¬ ∀x∈aS++r1,x=0:=fun h=>absurd (h 67 (by simp)) (by decide)
 refine qL (KN (A.V.no Ve) SD fm hm hB Pp (fun i Ex bl u Kb xu hi z_ hk=>AR (AQ ⟨_,Cell.ah (aj SD xu) rfl,KM ((A.V.no Ve).no xu) ?_⟩)) fun Vf zn o21 Fk=>?_)
 .have Vu:=(A.V.no Ve).no xu;refine Kg Vu.y.lg.r z_ (by rcases hi with⟨_,rfl⟩ | ⟨_,rfl⟩ <;> assumption) (by have:=Vu.y.lg.n;omega) fun u' x'=>?_
  have e:(!decide (∃e∈s.L,e.au=bl))=decide (i=90):=by
   rcases hi with⟨rfl,rfl⟩ | ⟨rfl,rfl⟩
   .rw[decide_eq_true ⟨_,jz,rfl⟩];decide
   .rw[decide_eq_false]
    · decide
    · rw[hL];rintro⟨e,he,h⟩;simp only[List.mem_cons,List.not_mem_nil,or_false]at he;rcases he with rfl | rfl <;> exact absurd (congrArg (fun l=>l.headD 0) h) (by simp)
  rw[e];exact hk u' x'
 have z21:=Fk.size;refine aH.mk (aj acB Fk) (Nat.le_of_ble_eq_true rfl) rfl fun FU h22=>?_
 have Ih:Ext (·=w6.heap.size) zn FU:=h22.ext;have acC:=h22.get (aj acB Fk);have acD:Ext No w FU:=(Ve.no Fk).trans Ih fun i hi e=>by omega
 have VD:=aV acA;have m22:=(m12.ext Fk fun h=>h).ext Ih (by omega);have aeK:=aw (aj SD Fk) Ih (by omega);have aeL:=aw (aj acA Fk) Ih (by omega);refine qL (KN (A.V.no acD) aeK fm hm hB Pp (fun i Ex bl u Kb xu hi z_ hk=>AM (AL ⟨some b3,Cell.ah (aj aeL xu) rfl,?_⟩)) fun Vg Nz o23 xI=>?_)
 .have KZ:=gK (P:=pz) (a:=i) acx WO (RP u) (m22.ext xu fun h=>h);have hk:=hk u (Ext.refl _ _);rcases hi with⟨rfl,_⟩ | ⟨rfl,_⟩
  .rw[show decide ((2:Int)=90)=!true from by decide]at hk;exact⟨true,u,KZ,hk⟩
  .rw[show decide ((90:Int)=90)=!false from by decide]at hk;exact⟨false,u,KZ,hk⟩
 have z22:=Ih.size;have z23:=xI.size;refine aH.mk (aj acC xI) (Nat.le_of_ble_eq_true rfl) rfl fun oQ M3=>?_
 have oz:Ext (·=w6.heap.size) Nz oQ:=M3.ext;have Vh:=M3.get (aj acC xI);have WQ:=aw (aj (aw (aj SE Fk) Ih (by have:=aV n2.get;omega)) xI) oz (by have:=aV n2.get;omega);refine⟨⟨none,0,0⟩,Cell.ah Vh rfl,Vf,Cell.ah Vh rfl,Vg,Cell.ah Vh rfl,⟨none,0,0⟩,Cell.ah Vh rfl,rfl,cr.mk WQ (Nat.le_refl 4) (cF rfl) fun wA MS=>?_⟩;have nD:Ext (·=b1) oQ wA:=MS.ext;have Yz:=MS.get WQ;have r1':Rd wA.heap Vf 1 [Value.int .i64 90]:=((((o21.ext Ih fun i hi e=>by have:=(o21.lt hi).1;omega).no xI).ext oz fun i hi e=>by have:=(o21.lt hi).1;omega).ext nD fun i hi e=>by have:=(o21.lt hi).1;have:=aV n2.get;omega).rd;have r2':Rd wA.heap Vg 1 [Value.int .i64 90]:=((o23.ext oz fun i hi e=>by have:=(o23.lt hi).1;omega).ext nD fun i hi e=>by have:=(o23.lt hi).1;have:=aV n2.get;omega).rd;exact⟨⟨none,0,0⟩,Cell.ah Yz rfl,Vf,Cell.ah Yz rfl,Vg,Cell.ah Yz rfl,⟨none,0,0⟩,Cell.ah Yz rfl,k Vf Vg wA r1' r2' (((acD.no xI).out oz (by omega)).out nD (by omega))⟩
end
end Go.Proofs.YtefdekemmnnclaaGreat
namespace Go.Proofs.YtefdekemmnnclaaGreat
open Go.V Go.V.Pk Go.V.Dk Go.V.Rn
section
variable {w w':Wd} {T T':Nat->Nat} {v:VA} {s:SA}
theorem KO{K:Sl->Pw}(k:∀sl w',aL w'.heap sl (List.replicate 16 97)->sl.len=16->(∀i,sl.au=some i->w.heap.size<=i)->Ext No w w'->K sl w'):nT w K:=by
 apply DP;refine fun b w1 n1=>?_
 obtain⟨w2,hr,x2,hz2,fz,Cz⟩:=Ru (n:=16) (c:=16) n1.get;refine⟨⟨some ⟨b,0,none⟩,16,16⟩,w2,hr,k _ w2 ?_ rfl (fun i hi=>?_) (n1.ext.out x2 (by rw[n1.at_];exact Nat.le_refl _))⟩
 .refine⟨rfl,Nat.le_refl _,fun _=>⟨b,0,rfl,fun i hi=>?_⟩,fun v hv=>cZ v hv⟩;have iS:i < 16:=by simpa using hi
  unfold dt;rw[Cz];have:i=0∨i=1∨i=2∨i=3∨i=4∨i=5∨i=6∨i=7∨i=8∨i=9∨i=10∨i=11∨i=12∨i=13∨i=14∨i=15:=by omega
  rcases this with rfl | rfl | rfl | rfl | rfl | rfl | rfl | rfl | rfl | rfl | rfl | rfl | rfl | rfl | rfl | rfl <;> rfl
 .have:b=i:=by simp[Sl.au]at hi;exact hi
  rw[<- this,n1.at_];exact Nat.le_refl _
theorem SQ{a b:Sl}{K:Bool->Pw}(ha:Rd w.heap a 1 [Value.int .i64 90])(hb:Rd w.heap b 1 [Value.int .i64 90])(k:∀w',Ext No w w'->K true w'):mS a b w K:=by
 apply Hg;have h1:a.len=1:=by have:=ha.len;simpa using this.symm
 have h2:b.len=1:=by have:=hb.len;simpa using this.symm
 refine If.bne (fun h=>absurd (by rw[h1,h2]) h) fun _=>⟨fun n i u=>(n=1/\i=0/\w=u)∨(n=0/\i=1/\Ext No w u),⟨1,.inl ⟨rfl,rfl,rfl⟩⟩,?_⟩
 rintro _ n i u (⟨rfl,rfl,rfl⟩ | ⟨rfl,rfl,x⟩)
 .have xd:Ext No w (aa w):=(Ext.refl _ _).drew;exact If.dec (fun _=>⟨Ext No w,xd,Ix.int (k:= .i64) (l:=[90]) ha (by decide) (by omega) fun b1 o1 _ c1=>⟨_,af.bq c1 (fun h=>h),Ix.int (k:= .i64) (l:=[90]) hb (by decide) (by omega) fun b2 o2 _ c2=>⟨_,af.bq c2 (fun h=>h),If.bne (fun h=>absurd rfl h) fun _=>Ar.i64 (by decide) ⟨0,by decide,.inr ⟨rfl,rfl,xd⟩⟩⟩⟩⟩) fun h=>absurd (by omega) h
 .exact If.dec (fun h=>absurd h (by omega)) fun _=>k u x
abbrev pC(P:List (Sl×List Int)):List Value:=P.flatMap fun p=>O9 p.1
set_option maxHeartbeats 1000000 in
theorem PI{K:Option Addr->Bool->Pw}(k:∀T' v s q kq l ls w',ry w' T' v s->v.mp=Ij->v.op=true->v.ts=[]->s.D=nO 100->s.R=⟨s.R.dev,1000,0,0,l::ls⟩->l.length=16->s.ks=[⟨⟨0,1⟩,q,kq⟩]->kq.length=32->s.L=[]->s.F=[(2,100)]->s.ps=[]->s.cm=0->s.la=0->(∀i,i < w.heap.size->T' i=0)->Ext No w w'->K v.p true w'):rN w K:=by
 apply G9
 refine tE.arr (sz:=1) (n:=32) (k:= .u8) rfl rfl (by decide) (by decide) fun kb w1 ak hkb x1 z1=>fun b w2 n2=>⟨rfl,?_⟩
 refine cr.mk n2.get (Nat.le_refl 4) (cF rfl) fun w3 h3=>?_
 have a2:=n2.at_;have z2:=n2.size;have g3:=h3.get n2.get;have x3:Ext No w w3:=(x1.no n2.ext).out h3.ext (by show w.heap.size<=b;omega);have lb3:=aV g3;have ak3:w3.heap[kb]? = some (.cells ((List.replicate 32 (0:Int)).map (Value.int .u8)).toArray 5 (0,0)):=aw (aj ak n2.ext) h3.ext (by show kb≠b;omega);refine⟨fun n i u=>∃(P:List (Sl×List Int)) (dr:Sl),i=(P.length:Int)/\P.length<=60/\n=60 - P.length/\Ext (·=b) w3 u/\u.heap[b]? = some (.cells [Value.int .i64 100,.int .u64 1000,dr.v,.slice (some ⟨kb,0,none⟩) 32 32].toArray 77 (0,0))/\aP u.heap w3.heap.size 25 1 dr (pC P)/\∀p∈P,aL u.heap p.1 p.2/\p.2.length=16/\B8 p.2/\∀i,p.1.au=some i->w3.heap.size<=i/\i < u.heap.size/\dr.au≠some i,⟨_,[],⟨none,0,0⟩,rfl,Nat.zero_le _,rfl,Ext.refl _ _,g3,aP.nil _ _ _ _,fun p h=>(nomatch h)⟩,?_⟩;rintro _ n i w4 ⟨P,dr,rfl,hP,rfl,x4,g4,o4,PY⟩;have z4:=x4.size;refine If.dec (fun h=>?_) fun h=>?_
 .refine tE.arr (sz:=1) (n:=16) (k:= .u8) rfl rfl (by decide) (by decide) fun nb w5 a5 hnb x5 z5=>Ar.i64 (by omega) (Ar.u8 (by omega) (Ix.arr (by decide) (by show(0:Int) < 16;decide) ?_))
  have a5':w5.heap[nb]? = some (.cells ((List.replicate 16 (0:Int)).map (Value.int .u8)).toArray 5 (0,0)):=a5;refine aH.mk a5' (by decide) rfl fun w6 h6=>?_
  have x6:Ext (·=nb) w5 w6:=h6.ext;have g6:=aw (aj g4 x5) x6 (by omega)
  have r6:aL w6.heap ⟨some ⟨nb,0,none⟩,16,16⟩ ((List.replicate 16 (0:Int)).set 0 ((P.length:Int)+1)):=by
   have a6:av w6.heap nb 5 .u8 ((List.replicate 16 (0:Int)).set 0 ((P.length:Int)+1)):=by
    show w6.heap[nb]? = _;rw[List.map_set];exact h6.get a5'
   have h1:=a6.rd (o:=0) (n:=16) (c:=16) (by simp) (Nat.le_refl _);rw[List.drop_zero,List.take_of_length_le (by simp)]at h1;exact h1
  have o6:aP w6.heap w3.heap.size 25 1 dr (pC P):=(o4.no x5).ext x6 fun i hi e=>by have:=(o4.lt hi).2;omega
  have hlen:dr.len<=60:=by have:=o4.len;have:=cC (f:=fun p:Sl×List Int=>O9 p.1) (n:=1) (l:=P) (fun _ _=>rfl);simp only[pC] at *;omega
  have yf:Ext No w4 w6:=x5.out x6 (by omega);have z6:=yf.size;have l6:=x6.size;refine⟨dr,Cell.ah g6 rfl,HL o6 (by omega) rfl (Kd rfl) (by omega) fun d2 w8 o8 l8 x8 hd8=>?_⟩;have nbd:dr.au≠some b:=fun e=>by have:=(o4.lt e).1;omega
  have g8:=aw g6 x8 nbd;refine aH.mk g8 (Nat.le_of_ble_eq_true rfl) rfl fun w9 h9=>?_
  have x9:Ext (·=b) w8 w9:=h9.ext;have z8:=x8.size;have z9:=x9.size;have lbz:b < w3.heap.size:=lb3;refine Ar.i64 (by omega) ⟨60 - (P.length+1),by omega,P++[(⟨some ⟨nb,0,none⟩,16,16⟩,(List.replicate 16 (0:Int)).set 0 ((P.length:Int)+1))],d2,by simp,by simp;omega,by simp,?_,h9.get g8,?_,fun p hp=>?_⟩
  .exact(((x4.trans yf.aF fun i _ h=>h).trans x8 fun i hi e=>by have:=(o4.lt e).1;omega).trans x9 fun i _ e=>e)
  .have o9:=o8.ext x9 fun i hi e=>by have:=(o8.lt hi).1;omega
   simpa[pC] using o9
  .have aM:∀(q:Sl)(x:List Int),aL w6.heap q x->(∀i,q.au=some i->w3.heap.size<=i/\dr.au≠some i)->aL w9.heap q x:=fun q x hq hb=>
    (hq.ext x8 fun p i hp hi e=>(hb i (by simp[Sl.au,hp,hi])).2 e).ext x9 fun p i hp hi e=>by have:=(hb i (by simp[Sl.au,hp,hi])).1;omega
   have dn:∀i,i < w6.heap.size->dr.au≠some i->d2.au≠some i:=fun i hi h=>by
    rcases hd8 with e | ⟨b',e,EE⟩
    .rw[e];exact h
    .rw[e];intro e2;have:=Option.some.inj e2;omega
   rcases List.mem_append.1 hp with h | h
   .obtain⟨h1,h2,h3',h4⟩:=PY p h;refine⟨aM p.1 p.2 (Rd.no h1 yf) fun i hi=>⟨(h4 i hi).1,(h4 i hi).2.2⟩,h2,h3',fun i hi=>⟨(h4 i hi).1,by have:=(h4 i hi).2.1;omega,dn i (by have:=(h4 i hi).2.1;omega) (h4 i hi).2.2⟩⟩
   .simp only[List.mem_singleton]at h;subst h;have ln:=aV a5';have nn:dr.au≠some nb:=fun e=>by have:=(o4.lt e).2;omega
    refine⟨aM _ _ r6 fun i hi=>?_,by simp,fun y hy=>?_,fun i hi=>?_⟩
    .have:nb=i:=by simp[Sl.au]at hi;exact hi
     subst this;exact⟨by omega,nn⟩
    .rcases List.mem_or_eq_of_mem_set hy with h' | h'
     .rw[(List.mem_replicate.1 h').2];decide
     .subst h';omega
    .have:nb=i:=by simp[Sl.au]at hi;exact hi
     subst this;exact⟨by omega,by omega,dn nb (by omega) nn⟩
 .have afL:P.length=60:=by omega
  refine⟨100,Cell.ah g4 rfl,1000,Cell.ah g4 rfl,dr,Cell.ah g4 rfl,⟨some ⟨kb,0,none⟩,32,32⟩,Cell.ah g4 rfl,?_⟩;have ak4:av w4.heap kb 5 .u8 (List.replicate 32 0):=aw ak3 x4 (by show kb≠b;omega)
  have rk:aL w4.heap ⟨some ⟨kb,0,none⟩,32,32⟩ (List.replicate 32 0):=by
   have h1:=ak4.rd (o:=0) (n:=32) (c:=32) (by simp) (Nat.le_refl _);rw[List.drop_zero,List.take_of_length_le (by simp)]at h1;exact h1
  have hL:VZ w4.heap dr (P.map Prod.snd):=⟨⟨P.map Prod.fst,by have:=o4.rd;simpa[pC,List.flatMap_map] using this,by simp,fun j h1 h2=>by
   have hj:j < P.length:=by simpa using h1
   have:=(PY P[j] (List.getElem_mem hj)).1
   simpa using this⟩,fun l hl=>by
    obtain⟨p,hp,rfl⟩:=List.mem_map.1 hl
    exact(PY p hp).2.2.1⟩
  have hlen:∀l∈P.map Prod.snd,l.length=16:=fun l hl=>by
   obtain⟨p,hp,rfl⟩:=List.mem_map.1 hl;exact(PY p hp).2.1
  obtain⟨l,ls,Tl⟩ : ∃l ls,P.map Prod.snd=l::ls:=by
   cases hq:P.map Prod.snd with
   | nil=>have h:=congrArg List.length hq;rw[List.length_map,List.length_nil]at h;omega
   | cons l ls=>exact⟨l,ls,rfl⟩
  rw[Tl]at hL hlen;refine PD rk (B8.py 32) rfl hL (by have h:=congrArg List.length Tl;rw[List.length_map]at h;omega) (fun l hl=>by rw[hlen l hl];decide) fun T' v s q kq w' V e1 e2 e3 e4 e5 e6 e7 e8 e9 U4 Tp N6 ht x'=>?_
  have Bz:Ext No w w4:=x3.trans x4 fun i hi e=>by omega
  exact k T' v s q kq l ls w' V e1 e2 e3 e4 e5 (hlen l List.mem_cons_self) e6 e7 e8 e9 U4 Tp N6 (fun i hi=>ht i (by have:=Bz.size;omega)) (Bz.no x')
end
end Go.Proofs.YtefdekemmnnclaaGreat
namespace Go.Proofs.YtefdekemmnnclaaGreat
open Go.V Go.V.Pk Go.V.Dk Go.V.Rn
section
variable {w w':Wd}
theorem aeM{u:Wd}{b:Nat}{o:Wd}{x:Int}(n:Bk o (.cells [Value.int .u8 x].toArray 5) b u):aL u.heap ⟨some ⟨b,0,none⟩,1,1⟩ [x]:=(aP.new (n:=1) (sz:=1) n rfl (cF rfl)).rd
theorem acE{u:Wd}{b:Nat}{o:Wd}{x:Int}(n:Bk o (.cells [Value.int .i64 x].toArray 3) b u):Rd u.heap ⟨some ⟨b,0,none⟩,1,1⟩ 1 [Value.int .i64 x]:=(aP.new (n:=1) (sz:=1) n rfl (cF rfl)).rd
set_option maxHeartbeats 1000000 in
theorem Nb{K:Bool->Pw}(k:∀w',Ext No w w'->K true w'):cH w K:=by
 apply Fa;refine PI fun T v s q kq l ls w1 V e1 e2 e3 e4 e5 el e6 e7 e8 e9 U4 Tp N6 ht x1=>?_
 obtain⟨vb,ky,kl,op,mp,al,ts⟩:=v;obtain⟨d,D,g,⟨dev,lim,res,com,Y_⟩,rb,mb,ks,lb,oR,L,pb,fr,F,kb,ps,wb,nb,pm,dm,pu,cm,la,fl⟩:=s;simp only at e1 e2 e3 e4 e6 e8 e9 U4 Tp N6;simp only[RS.mk.injEq,true_and]at e5;obtain⟨e51,e52,e53,e54⟩:=e5;subst e1 e2 e3 e4 e6 e8 e9 U4 Tp N6 e51 e52 e53 e54;refine⟨fun u=>∃T' v' s',Zn u T' v' s'/\v'.vb=vb/\Ext No w u,If.not (If.yes (KO fun sl w2 rs pA hsb x2=>?_)),?_⟩
 .have V2:=V.no x2;refine PG V2 e7 (by omega) rs (fun y hy=>by rw[(List.mem_replicate.1 hy).2];decide) pA (fun i hi=>V.y.out i (hsb i hi)) fun T3 v3 s3 w3 A hv st=>If.bne (fun h=>absurd rfl h) fun _=>fun b w4 n4=>?_
  have A4:=A.no n4.ext;have qf:Ext No w w3:=(x1.no x2).trans st.x fun i hi h=>h (ht i hi)
  have hf:=Ib (K:=?_) A4 (aeM n4) (fun i hi=>by
   have:b=i:=by simp[Sl.au]at hi;exact hi
   subst this;exact A.V.y.out b (by rw[n4.at_];exact Nat.le_refl _)) ?_
  .have hp:v3.p=some ⟨vb,0,none⟩:=by show some (Addr.mk v3.vb 0 none)=_;rw[hv]
   rw[hp]at hf;exact hf
  intro T5 s5 w5 A5 st5
  refine If.bne (fun h=>absurd rfl h) fun _=>⟨T5,v3,s5,A5,hv,?_⟩
  have z3:=st.z;exact(qf.no n4.ext).trans st5.x fun i hi h=>h (st.z i (by have:=(x1.no x2).size;omega) (ht i hi))
 rintro _ w6 ⟨T6,v6,s6,A6,hv6,wk⟩;have KZ:=PH (K:=?_) A6 ?_
 .have hp:v6.p=some ⟨vb,0,none⟩:=by show some (Addr.mk v6.vb 0 none)=_;rw[hv6]
  rw[hp]at KZ;exact KZ
 intro o1 o2 w7 r1 r2 x7;refine jy rfl rfl (cF rfl) fun w9 g9 z9 x9=>If.beq (fun _=>⟨⟨none,0,0⟩,Cell.ah g9 rfl,If.beq (fun _=>⟨o1,Cell.ah g9 rfl,fun b2 gG ji=>?_⟩) fun h=>absurd rfl h⟩) fun h=>absurd rfl h
 refine SQ ((r1.no x9).no ji.ext) (acE ji) fun hU oF=>If.yes ⟨o2,Cell.ah (aj g9 (ji.ext.no oF)) rfl,fun b3 mw zA=>?_⟩
 refine SQ (((r2.no x9).no (ji.ext.no oF)).no zA.ext) (acE zA) fun lK mr=>If.yes ⟨⟨none,0,0⟩,Cell.ah (aj g9 ((ji.ext.no oF).no (zA.ext.no mr))) rfl,?_⟩
 exact k lK ((wk.no x7).no (x9.no ((ji.ext.no oF).no (zA.ext.no mr))))
end
theorem Nd{l:gI}{r:List Int}(ok:l.OK):fD (aS++(l.tail++r)) l.t l.pg=l:=by
 obtain⟨h1,h2,h3,h4,h5,h6⟩:=ok;have e:l.tail++r=l.kd::l.lv::(be 2 l.gn++(be 8 l.cm++r)):=by unfold gI.tail;rw[VT h2,VT h3];simp
 unfold fD;rw[e];have d6:(aS++l.kd::l.lv::(be 2 l.gn++(be 8 l.cm++r))).drop 6=be 2 l.gn++(be 8 l.cm++r):=rfl
 have d8:(aS++l.kd::l.lv::(be 2 l.gn++(be 8 l.cm++r))).drop 8=be 8 l.cm++r:=by
  rw[show(8:Nat)=6+2 from rfl,<- List.drop_drop,d6,List.drop_append_of_le_length (by rw[aI];omega),List.drop_eq_nil_of_le (by rw[aI];omega),List.nil_append]
 rw[d6,d8,List.take_append_of_le_length (by rw[aI];omega),List.take_of_length_le (by rw[aI];omega),List.take_append_of_le_length (by rw[aI];omega),List.take_of_length_le (by rw[aI];omega),
  mK 2 h6.1 (by have:=h6.2;omega),mK 8 h5.1 (by have:=h5.2;omega)]
 rfl
theorem Vi{l:gI}{r:List Int}(ok:l.OK)(Bx:1<=l.kd/\l.kd<=4)(hr:r.length=240):BA (aS++(l.tail++r)):=by
 refine⟨by rw[List.length_append,List.length_append,gI.zC,hr];rfl,rfl,?_⟩;have:(aS++(l.tail++r)).getD 4 0=l.kd:=congrArg gI.kd (Nd (r:=r) ok);rw[this];exact Bx
theorem SR{l:gI}{kl c:List Int}(hlen:kl.length=16∨kl.length=32)(fC:B8 kl)(hc:c.length=224):Eh kl l (aS++(l.tail++(c++tagL kl l.aA l.dD c))):=by
 have b4:B8 l.aA:=(bM _ _).append ((bM _ _).append B8.nil);have ht:=(nr (kl:=kl) (nl:=l.aA) (al:=l.dD) (bl:=c) fC b4).1
 obtain⟨T,hT⟩ : ∃T,T=tagL kl l.aA l.dD c:=⟨_,rfl⟩
 rw[<- hT]at ht ⊢;have tl:=gI.zC l
 have d16:(aS++(l.tail++(c++T))).drop 16=c++T:=by
  rw[<- List.append_assoc,List.drop_append_of_le_length (by rw[List.length_append,tl];simp),List.drop_eq_nil_of_le (by rw[List.length_append,tl];simp),List.nil_append]
 refine⟨hlen,?_,?_⟩
 .rw[<- List.append_assoc,List.take_append_of_le_length (by rw[List.length_append,tl];simp),List.take_of_length_le (by rw[List.length_append,tl];simp)]
 .rw[d16,List.take_of_length_le (l:=c++T) (by rw[List.length_append];omega),List.take_append_of_le_length (by omega),List.take_of_length_le (by omega),List.drop_append_of_le_length (by omega),List.drop_eq_nil_of_le (by omega),List.nil_append];exact hT.symm
section
variable {w w':Wd}
theorem zX{K:Option Addr->Pw}(k:∀lb w',lb=w.heap.size->nw w'.heap lb ⟨none,0,0⟩ []->Ext No w w'->K (some ⟨lb,0,none⟩) w'):f_ w K:=by
 apply wi;exact fun b w1 n1=>k b w1 n1.at_ ⟨n1.get,aP.nil _ _ _ _,by simp[Sl.au],fun e he=>by cases he⟩ n1.ext
theorem KQ{lb:Nat}{key payload:Sl}{l:gI}{K:Sl->Int->Pw}(h:¬ ((key.len=16∨key.len=32)/\1<=l.kd/\l.kd<=4))(k:∀w',Ext No w w'->K ⟨none,0,0⟩ 2 w'):dI (some ⟨lb,0,none⟩) key l.t l.kd l.lv l.pg l.cm l.gn payload w K:=by
 apply ti;refine fun b w1 n1=>If.no ?_
 have hb:w1.heap[b]? = some (v_ l):=n1.get;refine⟨l.t,Cell.ah hb rfl,l.kd,Cell.ah hb rfl,l.lv,Cell.ah hb rfl,l.pg,Cell.ah hb rfl,l.cm,Cell.ah hb rfl,l.gn,Cell.ah hb rfl,?_⟩;apply Bt;refine fun b2 w2 n2=>?_
 have Cz:w2.heap[b2]? = some (v_ l):=n2.get;refine⟨fun _=>False,⟨l.kd,Cell.ah Cz rfl,?_⟩,fun _ _ h=>h.elim⟩;apply xg;refine If.beq (fun h1=>If.dec (fun h3=>?_) fun h3=>If.not (If.no (If.no (k w2 (n1.ext.no n2.ext))))) fun h1=>If.beq (fun h4=>If.dec (fun h3=>?_) fun h3=>If.not (If.no (If.no (k w2 (n1.ext.no n2.ext))))) fun h4=>If.not (If.no (If.no (k w2 (n1.ext.no n2.ext))))
 .rw[decide_eq_false (fun h5=>h ⟨.inl (by omega),by omega,h5⟩)];exact If.not (If.no (If.no (k w2 (n1.ext.no n2.ext))))
 .rw[decide_eq_false (fun h5=>h ⟨.inr (by omega),by omega,h5⟩)];exact If.not (If.no (If.no (k w2 (n1.ext.no n2.ext))))
theorem SS{b:Nat}{key:Sl}{kl:List Int}(n:Bk w (.cells [Value.slice key.a key.len key.cap].toArray 25) b w')(hk:aL w.heap key kl)(hB:B8 kl):wq w'.heap ⟨some ⟨b,0,none⟩,1,1⟩ [(key,kl)] :=
 ⟨(aP.new (n:=1) (sz:=1) n rfl (cF rfl)).rd,fun p hp=>by simp only[List.mem_singleton]at hp;subst hp;exact⟨hk.no n.ext,hB⟩⟩
theorem SU{b:Nat}{t:Int}(n:Bk w (.cells [Value.int .u32 t].toArray 24) b w'):Rd w'.heap ⟨some ⟨b,0,none⟩,1,1⟩ 1 ([t].map (Value.int .u32)):=(aP.new (n:=1) (sz:=1) n rfl (cF rfl)).rd
theorem yb{keys aT block key:Sl}{ks:List (Sl×List Int)}{ts bl kl:List Int}{n:Int}{l:gI}{K:Bool->Pw}(Tj:wq w.heap keys ks)(ht:Rd w.heap aT 1 (ts.map (Value.int .u32)))(NA:∀t∈ts,0<=t/\t<=4294967295)(hn:0<=n/\n<=4294967295)(hb:aL w.heap block bl)(hB:B8 bl)(hk:aL w.heap key kl)(fC:B8 kl)(ok:l.OK)
  (k:∀w',Ext No w w'->K true w'):gg keys aT n block key l.t l.kd l.lv l.pg l.cm l.gn w K:=by
 apply tS;refine fun b w1 n1=>?_
 have x1:=n1.ext;have z1:=n1.size;have s1:=n1.at_;have gb:w1.heap[b]? = some (v_ l):=n1.get;have kn:∀{u:Wd},Ext No w u->cH u fun r u'=>K r u':=fun x=>Nb fun u' x'=>k u' (x.no x')
 refine⟨fun u=>u=w1/\keys.len<=20/\aT.len<=20,If.dec (fun _=>kn x1) fun h1=>If.dec (fun _=>kn x1) fun h2=>If.dec (fun _=>kn x1) fun h3=>If.dec (fun _=>kn x1) fun h4=>⟨rfl,by omega,by omega⟩,?_⟩;rintro _ w6 ⟨rfl,afM,afN⟩;have lk:=Tj.len;refine⟨fun m i u=>u=w6/\∃q:Nat,i=(q:Int)/\q<=ks.length/\m=ks.length - q,⟨ks.length,rfl,0,rfl,Nat.zero_le _,rfl⟩,?_⟩;rintro _ m i w7 ⟨rfl,q,rfl,hq,rfl⟩;refine If.dec (fun h=>?_) fun h=>?_
 .have Mj:q < ks.length:=by omega
  refine Ix.elem (f:=fun p:Sl×List Int=>[p.1.v]) (l:=ks) (by rw[<- List.map_eq_flatMap];exact(Tj.no x1).rd) (fun _ _=>rfl) (by decide) (by omega) (by omega) fun b2 o2 Hv _ Ma=>⟨ks[q].1,?_,If.dec (fun _=>kn x1) fun _=>Ar.i64 (by omega) ⟨_,by omega,rfl,q+1,by omega,by omega,rfl⟩⟩
  have:=Ma 0 _ rfl;simpa using this
 refine zX fun lb w9 UC R9 x9=>?_
 have x09:=x1.no x9;refine⟨fun u=>Ext No w9 u,Ej (hb.no x09) hB fun gG fo=>If.no ?_,?_⟩
 .have Ez:=x09.no fo;refine vf (R9.no fo) (by decide) (Tj.no Ez) (ht.no Ez) NA (hb.no Ez) hB hn (by omega) (by omega) fun r7 hU h7 oF=>?_
  have A_:=Ez.no oF;refine HR (Tj.no A_) (ht.no A_) NA (hb.no A_) hB hn (by omega) (by omega) fun r8 mw h8 gV=>?_
  have e:r7=r8:=by rw[Bool.eq_iff_iff,h7,h8]
  subst e;rw[show(r7 == r7)=true by cases r7 <;> rfl];exact If.no ((fo.no oF).no gV)
 rintro _ lK Zr;have SL:=x09.no Zr;have R13:=R9.no Zr;have z9:=x9.size;have afO:=SL.size;have dz:b≠lb:=by omega
 have g13:=dX gb (x9.no Zr) fun h=>h
 have eJ:∀{S:Nat->Prop}{o:Nat}{v:Value},¬ S b->[Value.int .u32 l.t,.int .u8 l.kd,.int .u8 l.lv,.int .u32 l.pg,.int .u64 l.cm,.int .u16 l.gn][o]? = some v->af (Ext S lK) ⟨b,o,none⟩ v:=fun hs h=>af.bq (Cell.ah g13 h) hs
 refine⟨Ext (fun i=>i=lb) lK,(Ext.refl _ _).drew,l.t,eJ (o:=0) dz rfl,l.kd,eJ (o:=1) dz rfl,l.lv,eJ (o:=2) dz rfl,l.pg,eJ (o:=3) dz rfl,l.cm,eJ (o:=4) dz rfl,l.gn,eJ (o:=5) dz rfl,?_⟩
 refine tE.arr (sz:=1) (k:= .u8) (n:=224) rfl rfl (by decide) (by decide) fun pb pY S9 hpb mJ z14=>⟨mJ.ae.aF,?_⟩
 have PJ:Ext No lK pY:=mJ.ae;have hz:((aa lK).heap.size)=lK.heap.size:=rfl;have p14:aL pY.heap ⟨some ⟨pb,0,none⟩,224,224⟩ (List.replicate 224 0):=(av.own S9 (Nat.le_refl _) (by simp)).rd;by_cases hv:(key.len=16∨key.len=32)/\1<=l.kd/\l.kd<=4
 rotate_left
 .exact KQ hv fun kQ gH=>⟨(PJ.no gH).aF,If.yes (kn ((SL.no PJ).no gH))⟩
 obtain⟨hlen,Bx⟩:=hv;have JU:=SL.no PJ;refine wo (R13.no PJ) (by decide) ok Bx (hk.no JU) fC hlen p14 rfl (fun i _ h=>by simp[Sl.au]at h) (fun i _ h=>by simp[Sl.au]at h) fun s r oR kQ Te hr hrB R15 Tl pA gH=>?_
 have xL:Ext (fun i=>i=lb) pY kQ:=gH.mono fun i _ h=>by rcases h with h | h;exact h;simp[Sl.au]at h
 refine⟨PJ.aF.trans xL fun i _ h=>h,If.no ?_⟩;have Fw:Ext No w kQ:=JU.trans xL fun i hi h=>by subst h;omega
 have Ze:=dX (dX g13 PJ fun h=>h) xL dz;have afP:=Fw.size;have PL:∀{o:Nat}{v:Value},[Value.int .u32 l.t,.int .u8 l.kd,.int .u8 l.lv,.int .u32 l.pg,.int .u64 l.cm,.int .u16 l.gn][o]? = some v->af (Ext No kQ) ⟨b,o,none⟩ v:=fun h=>af.cell (Cell.ah Ze h)
 refine⟨Ext No kQ,(Ext.refl _ _).drew,l.t,PL (o:=0) rfl,l.kd,PL (o:=1) rfl,l.lv,PL (o:=2) rfl,l.pg,PL (o:=3) rfl,l.cm,PL (o:=4) rfl,l.gn,PL (o:=5) rfl,?_⟩
 refine tE.arr (sz:=1) (k:= .u8) (n:=224) rfl rfl (by decide) (by decide) fun pb2 rD KX afQ zq z17=>⟨zq.ae,?_⟩
 have Zs:Ext No kQ rD:=zq.ae;have p17:aL rD.heap ⟨some ⟨pb2,0,none⟩,224,224⟩ (List.replicate 224 0):=(av.own KX (Nat.le_refl _) (by simp)).rd;have aeN:=Fw.no Zs
 refine HO ok Bx (hk.no aeN) fC hlen p17 (B8.py _) rfl fun s2 c Q6 o18 hc hcB zt=>⟨Zs.no zt,zX fun lb2 XR afR R19 Uj b1 XS n20=>If.no ?_⟩
 have WR:=(Zs.no zt).no Uj;have Zt:=Fw.no WR;have WS:=WR.no n20.ext;have g20:=dX Ze WS fun h=>h
 refine⟨l.t,Cell.ah g20 rfl,fun b2 zn Vb=>?_⟩;have WT:=WS.no Vb.ext;refine⟨l.pg,Cell.ah (dX g20 Vb.ext fun h=>h) rfl,?_⟩;have KW:=ok.1;have lkl:=aL.len hk;have acF:kl.length=16∨kl.length=32:=by omega
 refine vf (R15.no WT) (by simp) ((SS n20 (hk.no Zt) fC).no Vb.ext) (SU Vb) (fun t h=>by simp only[List.mem_singleton]at h;subst h;exact KW) (Te.rd.no WT) (O1.append ((gI.vw l).append hrB)) ok.2.2.2.1 (by show 1<=1000;decide) (by show 1<=1000;decide) fun r11 FU K2 Ih=>?_
 have Tp:r11=false:=by
  cases aeO:r11 with
  | false=>rfl
  | true=>
   obtain⟨_,t,ht1,p,_,_,hg⟩:=K2.1 aeO;simp only[List.mem_singleton]at ht1;subst ht1;have hg2:=hg;rw[Nd ok]at hg2;exact absurd ⟨_,List.mem_append_right _ (List.mem_singleton.2 rfl),rfl,rfl⟩ hg2
 subst Tp;have WU:=Vb.ext.no Ih;refine If.no ⟨l.t,Cell.ah (dX g20 WU fun h=>h) rfl,fun b3 Nz H2=>?_⟩;have SV:=WU.no H2.ext;refine⟨l.pg,Cell.ah (dX g20 SV fun h=>h) rfl,?_⟩;have SW:=n20.ext.no SV;have b4:B8 l.aA:=(bM _ _).append ((bM _ _).append B8.nil);have tst:=nr (kl:=kl) (nl:=l.aA) (al:=l.dD) (bl:=c) fC b4;have ebl:aS++l.tail++(c++tagL kl l.aA l.dD c)=aS++(l.tail++(c++tagL kl l.aA l.dD c)):=List.append_assoc _ _ _;rw[ebl]at o18;refine vf (R19.no SW) (by simp) ((SS n20 (hk.no Zt) fC).no SV) (SU H2) (fun t h=>by simp only[List.mem_singleton]at h;subst h;exact KW) ((o18.rd.no Uj).no SW) (O1.append ((gI.vw l).append (hcB.append tst.2))) ok.2.2.2.1 (by show 1<=1000;decide) (by show 1<=1000;decide) fun r12 oQ VP oz=>?_
 have N6:r12=true:=VP.2 ⟨Vi ok Bx (by rw[List.length_append,hc,tst.1]),l.t,by simp,(key,kl),by simp,by rw[Nd ok];exact SR acF fC hc,fun⟨e,he,_⟩=>by cases he⟩;subst N6;exact If.no (kn (((Zt.no SW)).no oz))
end
end Go.Proofs.YtefdekemmnnclaaGreat
