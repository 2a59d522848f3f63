/- Texts for LRollPlays, part 16. -/
import Derived.RangeFuncRecord
import Derived.RangeFuncLeaves
import Derived.Test.YtpjbalhhlaofmaaGreatQy15
namespace Go.V
def dE(l:Nat)(rf:Loop)(st:LoopState)(p:Option Code)(w:Wd):Prop:=w.heap[l]? = some (.loop { rf with state:=st,pending:=p })
def aP(l:Nat)(rf:Loop)(st:LoopState)(p:Option Code)(w:Wd):Wd:=w.putObj l (.loop { rf with state:=st,pending:=p })
structure Dm(w:Wd)(rf:Loop)(Dk l:Nat)(w1:Wd):Prop where
 d:Dk=w.heap.size
 l:l=w.heap.size+1
 is:w1=(World.cD (World.cD w (.deferred (some []))) (.loop { rf with state:= .ready,pending:=none }))
def fO(Dk:Nat)(w:Wd):Prop:=w.heap[Dk]? = some (.deferred (some []))
def bJ(Dk:Nat)(w:Wd):Wd:=w.putObj Dk (.deferred none)
def FO:Option Nat->Code
 | none=> .ret
 | some i=> .exit i
def abm:Option Nat->Exit
 | none=> .ret
 | some i=> .exit i
def eqJ:Option Nat->Option Nat->Bool
 | none,none=>true
 | some i,some j=>Nat.beq i j
 | _,_=>false
def XZ:List (Option Nat)->Option Nat->Bool
 | [],_=>false
 | j::r,i=>bif eqJ j i then true else XZ r i
def NN(l:Nat)(rf:Loop)(js:List (Option Nat))(K':Bool->Pw)(j:Option Nat)(w:Wd):Prop:=
 bif XZ js j then dE l rf .busy none w/\K' false (aP l rf .done (some (FO j)) w) else False
def X0(l:Nat)(rf:Loop)(js:List (Option Nat))(K':Bool->Pw):Exit->Env->Pw
 | .normal,_,w=>dE l rf .busy none w/\K' true (aP l rf .ready none w)
 | .ret,_,w=>NN l rf js K' none w
 | .exit i,_,w=>NN l rf js K' (some i) w
 | _,_,_=>False
def noE:Exit->Env->Pw:=fun _ _ _=>False
def Sg(l:Nat)(rf:Loop)(Q:Exit->Env->Pw)(ρ:Env)(w3:Wd):List (Option Nat)->Prop
 | []=>dE l rf .ready none w3/\Q .normal ρ (aP l rf .exhausted none w3)
 | j::r=>(dE l rf .done (some (FO j)) w3/\Q (abm j) ρ (aP l rf .exhausted (some (FO j)) w3))∨Sg l rf Q ρ w3 r
def UP:List zD->(List Value->Prop)->Prop
 | [],F=>F []
 | .one s::r,F=>∀x:s.T,UP r fun vs=>F (s.mk x::vs)
 | .row k n::r,F=>∀l:List Int,l.length=n->UP r fun vs=>F (l.map (Value.int k)++vs)
def We:Ty->(Value->Prop)->Prop
 | .one s,F=>∀x:s.T,F (s.mk x)
 | .agg l,F=>UP l fun vs=>F (.agg vs.toArray)
 | .bad,F=>∀v,F v
theorem HP:∀(l:List zD){F:List Value->Prop},(∀vs,F vs)->UP l F
 | [],_,h=>h []
 | .one _::r,_,h=>fun _=>HP r fun _=>h _
 | .row _ _::r,_,h=>fun _ _=>HP r fun _=>h _
theorem Si:∀(y:Ty){F:Value->Prop},(∀v,F v)->We y F
 | .one _,_,h=>fun _=>h _
 | .agg l,_,h=>HP l fun _=>h _
 | .bad,_,h=>h
def X1:List (Nat×Ty)->Env->(List Value->Env->Prop)->Prop
 | [],ρ,F=>F [] ρ
 | (t,y)::r,ρ,F=>We y fun v=>X1 r (put ρ t v) (fun vs ρ'=>F (v::vs) ρ')
structure RfA where
 Wf:List (Nat×Ty)
 js:List (Option Nat)
 UQ:As
 UR:As
def rfW(P:Program)(pk:Nat)(A:RfA)(g:Operand)(ars bd:Code)(Q:Nat->Exit->Env->Pw)(ρ:Env)(w:Wd):Prop:=
 ∀(rf:Loop)(Dk l:Nat)(w1:Wd),Dm w rf Dk l w1->
  (X1 A.Wf ρ fun args ρ'=>∀(W:Wd)(K':Bool->Pw),dE l rf .ready none W->ve P pk (fun _ _=>False) A.UQ ars (uP (fun ρ2 W2=>dE l rf .ready none W2/\ve P pk (fun _ _=>False) A.UR bd (X0 l rf A.js K') ρ2 (aP l rf .busy none W2)) noE) ρ' W->
   aC P true (.func (.yield l) #[] #[]) args [.one .bool] K' (fun _ _=>False) W)->
  aC P false (ev ρ g) [.func (.yield l) #[] #[]] [] (fun w3=>Sg l rf (Q Dk) ρ w3 A.js) (fun _ _=>False) w1
inductive Sp where
 | next (a:As) (s:Sp)
 | here (r:As) (A:RfA) (p:As)
def Sj(P:Program)(pk:Nat):Sp->Code->(Exit->Env->Pw)->(Nat->Exit->Env->Pw)->Env->Pw
 | .next a s,.seq c1 c2,Q,QM,ρ,w=>ve P pk (fun _ _=>False) a c1 (uP (fun ρ w=>Sj P pk s c2 Q QM ρ w) Q) ρ w
 | .here r A p,.seq (.seq rc (.block id (.rangeFunc g _ ars bd))) rest,Q,QM,ρ,w=>
  ve P pk (fun _ _=>False) r rc (uP (fun ρ w=>rfW P pk A g ars bd (fun Dk=>BY id (uP (fun ρ w=>ve P pk (fun _ _=>False) p rest (QM Dk) ρ w) (QM Dk))) ρ w) Q) ρ w
 | _,_,_,_,_,_=>False
def Pj:List Nat->List (Nat×Ty)->Bool
 | [],[]=>true
 | t::r,p::q=>Nat.beq t p.1 && Pj r q
 | _,_=>false
def X2(P:Program)(n:Nat)(A:RfA)(ps:Array Tmp)(ars bd:Code):Bool:=Pj ps.toList A.Wf && wM P n A.UQ ars && wM P n A.UR bd && cu A.UQ ars && cP ars && cu A.UR bd && cP bd && ps.toList.all fun t=>Nat.blt t n
def MB(P:Program)(n:Nat):Sp->Code->Bool
 | .next a s,.seq c1 c2=>wM P n a c1 && MB P n s c2
 | .here r A p,.seq (.seq rc (.block _ (.rangeFunc _ ps ars bd))) rest=>wM P n r rc && X2 P n A ps ars bd && wM P n p rest
 | _,_=>false
section sound
variable {P:Program} {n pk:Nat}
abbrev qf(Dk:Nat):Deferred:={ target:= .collected Dk,args:=#[] }
def SpE(n:Nat)(Q:Exit->Env->Pw)(QM:Nat->Exit->Env->Pw):Exit->Act->Pw
 | .panic _,_,_=>False
 | .outgrown,_,_=>False
 | e,a,w=>(∃ρ,mu [] n a ρ/\Q e ρ w)∨∃Dk ρ,mu [qf Dk] n a ρ/\QM Dk e ρ w
theorem jx.out{D:List Deferred}{Q:Exit->Env->Pw}{M:Nat->Bool}{ρ0:Env}{e:Exit}{a:Act}{w:Wd}(h:jx D n Q (fun _ _=>False) M ρ0 e a w):(∃ρ,mu D n a ρ/\Q e ρ w)/\(∀c,e ≠ .panic c)/\e ≠ .outgrown:=by
 cases e with
 | panic c=>exact h.1.elim
 | outgrown=>exact h.elim
 | _=>obtain⟨ρ',h1,h2,_⟩:=h;exact⟨⟨ρ',h1,h2⟩,(fun c h=>by cases h),(fun h=>by cases h)⟩
theorem SpE.mk{Q:Exit->Env->Pw}{QM:Nat->Exit->Env->Pw}{e:Exit}{a:Act}{w:Wd}(h:(∃ρ,mu [] n a ρ/\Q e ρ w)∨∃Dk ρ,mu [qf Dk] n a ρ/\QM Dk e ρ w)(h1:∀c,e ≠ .panic c)(h2:e ≠ .outgrown):SpE n Q QM e a w:=by
 cases e with
 | panic c=>exact(h1 c rfl).elim
 | outgrown=>exact(h2 rfl).elim
 | _=>exact h
theorem NO:∀{l:List Nat}{p:List (Nat×Ty)},Pj l p=true->l=p.map Prod.fst
 | [],[],_=>rfl
 | t::r,p::q,h=>by
  simp only[Pj,Bool.and_eq_true]at h;rw[List.map_cons,<- Nat.eq_of_beq_eq_true h.1,NO h.2]
 | [],_::_,h=>by simp[Pj]at h
 | _::_,[],h=>by simp[Pj]at h
theorem NP{D:List Deferred}{F:List Value->Env->Prop}:∀(Wf:List (Nat×Ty))(ρ:Env)(a:Act),(∀p∈Wf,p.1 < n)->mu D n a ρ->(∀args ρ',args.length=Wf.length->mu D n { a with tmps:=((Wf.map Prod.fst).zip args).foldl (fun(t:Array Value) (p:Nat×Value)=>t.setIfInBounds p.1 p.2) a.tmps } ρ'->F args ρ')->X1 Wf ρ F
 | [],ρ,a,_,hr,h=>h [] ρ rfl hr
 | (t,y)::r,ρ,a,hp,hr,h=>Si y fun v=>by
  refine NP r _ { a with tmps:=a.tmps.setIfInBounds t v } (fun p hq=>hp p (List.mem_cons_of_mem _ hq)) ?_ fun args ρ' hl d_=>h _ ρ' (by simp[hl]) d_
  exact hr.put (hp _ List.mem_cons_self) _
theorem Pl(ps:Array Nat)(args:List Value)(t0:Array Value):(ps.zip args.toArray).foldl (fun t (p,v)=>t.setIfInBounds p v) t0=(ps.toList.zip args).foldl (fun(t:Array Value) (p:Nat×Value)=>t.setIfInBounds p.1 p.2) t0:=by
 rw[<- Array.foldl_toList,Array.toList_zip]
theorem wide_round(l:Nat):Fence.wide.inRound l=pO (some l):=rfl
theorem Pm{A:RfA}{g:Operand}{ps:Array Tmp}{ars bd:Code}{Q:Nat->Exit->Env->Pw}{ρ:Env}{w:Wd}{a:Act}(DU:X2 P n A ps ars bd=true)(hr:mu [] n a ρ)(h:rfW P pk A g ars bd Q ρ w) :
    (Code.rangeFunc g ps ars bd).wpIn Fence.wide 0 P (fun e a' w'=>∃Dk,(∃ρ',mu [qf Dk] n a' ρ'/\Q Dk e ρ' w')/\(∀c,e ≠ .panic c)/\e ≠ .outgrown) a w:=by
  simp only[X2,Bool.and_eq_true,List.all_eq_true]at DU;obtain⟨⟨⟨⟨⟨⟨⟨o1,o2⟩,o3⟩,o4⟩,o5⟩,o6⟩,o7⟩,o8⟩:=DU;have ep:=NO o1;refine wpIn_rangeFunc fun fn _=>?_
  let rf:Loop:={ state:= .ready,pending:=none,fn:=fn,tmps:=a.tmps,params:=ps,assign:=ars,body:=bd,defers:=w.heap.size }
  let w1:=(w.alloc (.deferred (some []))).alloc (.loop rf)
  have hd:=h rf w.heap.size (w.heap.size+1) w1 ⟨rfl,rfl,rfl⟩ ?_
  rotate_left
  · refine NP A.Wf ρ { a with defers:=[] } (fun p hp=>?_) (by have:=hr;exact⟨rfl,this.size,this.get⟩) fun args ρ' hl d_=>?_
    · have:=o8 p.1 (by rw[ep];exact List.mem_map.2 ⟨p,hp,rfl⟩);simpa using this
    intro W K' tz hw
    have jw:args.toArray.size=ps.size:=by
      have:=congrArg List.length ep;simp only[List.length_map,Array.length_toList]at this;rw[List.size_toArray,hl,this]
    have ad7:W.heap[w.heap.size+1]? = some (.loop rf):=tz;have hy:=run_yield (P:=P) (args:=args.toArray) ad7 jw;unfold aC IM
    have e1:(IN (.func (.yield (w.heap.size+1)) #[] #[]) args).run P W = .ok (.round (w.heap.size+1) fn ((ps.zip args.toArray).foldl (fun tmps (t,a)=>tmps.setIfInBounds t a) a.tmps) ars bd) W:=by
      simp only[IN,Deferred.ofValue,pure_bind];simp[invoke,hy,rf]
    rw[e1];refine⟨rfl,roundIn_of_wpIn (F:=Fence.wide) trivial ?_⟩;rw[Pl,ep,wide_round];have hA:=nA (ro:=some (w.heap.size+1)) (n:=n) (D:=[]) A.UQ ars _ _ W _ (.inr ⟨o4,o5⟩) o2 hw d_;refine wpIn_mono hA fun e1 a1 W1 hp=>?_
    obtain⟨⟨ρ1,r1,q1⟩,q2,q3⟩:=hp.out
    cases e1 with
    | panic c=>exact(q2 c rfl).elim
    | outgrown=>exact(q3 rfl).elim
    | exit i=>exact q1.elim
    | goto i=>exact q1.elim
    | ret=>exact q1.elim
    | normal=>
    obtain⟨st1,hb⟩:=q1;have ad8:W1.heap[w.heap.size+1]? = some (.loop rf):=st1;refine⟨_,run_beginRound ad8 rfl,?_⟩;have hB:=nA (ro:=some (w.heap.size+1)) (n:=n) (D:=[]) A.UR bd _ _ _ _ (.inr ⟨o6,o7⟩) o3 hb r1;refine wpIn_mono hB fun e2 a2 W2 oz=>?_
    obtain⟨⟨ρ2,r2,s1⟩,s2,s3⟩:=oz.out
    have fin:∀{j:Option Nat},NN (w.heap.size+1) rf A.js K' j W2->∃v w',(Instr.endRound (w.heap.size+1) (some (FO j))).run P W2 = .ok v w'/\IL [.one .bool] K' (fun _ _=>False) (.returned v) w':=fun {j} hj=>by
      unfold NN at hj
      cases hh:XZ A.js j with
      | false=>rw[hh]at hj;exact hj.elim
      | true=>
        rw[hh]at hj;have st:W2.heap[w.heap.size+1]? = some (.loop { rf with state:= .busy,pending:=none }):=hj.1;refine⟨_,_,run_endRound (some (FO j)) st,.inl ⟨false,rfl,hj.2⟩⟩
    cases e2 with
    | panic c=>exact(s2 c rfl).elim
    | outgrown=>exact(s3 rfl).elim
    | normal=>
      have st:W2.heap[w.heap.size+1]? = some (.loop { rf with state:= .busy,pending:=none }):=s1.1;exact⟨_,_,run_endRound none st,.inl ⟨true,rfl,s1.2⟩⟩
    | ret=>exact fin (j:=none) s1
    | exit i=>exact fin (j:=some i) s1
    | goto i=>exact s1.elim
  have X3:mu [qf w.heap.size] n { a with defers:=[qf w.heap.size]++a.defers } ρ:=⟨by simp[hr.defers],hr.size,hr.get⟩
  have W7:∀{js:List (Option Nat)}{w3:Wd},Sg (w.heap.size+1) rf (Q w.heap.size) ρ w3 js ->
      ∃jump w4,(Instr.endLoop (w.heap.size+1)).run P w3 = .ok jump w4/\(match jump with
       | none=>∃Dk,(∃ρ',mu [qf Dk] n { a with defers:=[qf w.heap.size]++a.defers } ρ'/\Q Dk .normal ρ' w4)/\(∀c,Exit.normal ≠ .panic c)/\Exit.normal ≠ .outgrown
       | some c=>c.wpIn Fence.wide 0 P (fun e a' w'=>∃Dk,(∃ρ',mu [qf Dk] n a' ρ'/\Q Dk e ρ' w')/\(∀c,e ≠ .panic c)/\e ≠ .outgrown) { a with defers:=[qf w.heap.size]++a.defers } w4):=by
    intro js
    induction js with
    | nil=>
      intro w3 h3;have st:w3.heap[w.heap.size+1]? = some (.loop { rf with state:= .ready,pending:=none }):=h3.1;exact⟨_,_,run_endLoop st (by simp),_,⟨ρ,X3,h3.2⟩,(fun c h=>by cases h),(fun h=>by cases h)⟩
    | cons j r ih=>
      intro w3 h3;rcases h3 with h3 | h3
      · have st:w3.heap[w.heap.size+1]? = some (.loop { rf with state:= .done,pending:=some (FO j) }):=h3.1;refine⟨_,_,run_endLoop st (by simp),?_⟩
        cases j with
        | none=>exact wpIn_ret ⟨_,⟨ρ,X3,h3.2⟩,(fun c h=>by cases h),(fun h=>by cases h)⟩
        | some i=>exact wpIn_exit ⟨_,⟨ρ,X3,h3.2⟩,(fun c h=>by cases h),(fun h=>by cases h)⟩
      · exact ih h3
  unfold aC IM IN at hd
  cases hg:ev ρ g with
  | func fv first cap=>
    rw[hg]at hd;simp only[Deferred.ofValue,pure_bind]at hd;split at hd
    · rename_i f ars w2 he;refine⟨w.heap.size+1,[qf w.heap.size],w1,{ target:= .fn fv cap,args:=first++#[.func (.yield (w.heap.size+1)) #[] #[]] },w1,f,ars,w2,run_enterLoop_outer _ _ _ _ _,?_,fun _ _=>trivial,he,(fun h=>by cases h),callsIn_wide.2 ?_⟩
      · have:a.eval g = .func fv first cap:=by rw[hr.eval];exact hg
        simp[resolve,this,Deferred.ofValue];rfl
      · refine Calls.mono hd fun e w3 h3=>?_
        rcases h3 with⟨he3,h3⟩ | ⟨c,_,h3⟩
        · subst he3;exact W7 h3
        · exact h3.elim
    · exact absurd hd.1 (by decide)
    · exact hd.elim
  | nilFunc=>
    rw[hg]at hd;simp[Deferred.ofValue,invoke,runtimePanic,program,Sem.run]at hd
  | _=>
    rw[hg]at hd;simp[Deferred.ofValue,stuck]at hd
theorem Sk:∀(s:Sp)(c:Code)(Q:Exit->Env->Pw)(QM:Nat->Exit->Env->Pw)(ρ:Env)(w:Wd)(a:Act),MB P n s c=true->Sj P pk s c Q QM ρ w->mu [] n a ρ->c.wpIn Fence.wide 0 P (SpE n Q QM) a w:=by
 intro s
 induction s with
 | next B_ s ih=>
  intro c Q QM ρ w a DU h hr
  cases c <;> simp only[Sj]at h
  rename_i c1 c2;simp only[MB,Bool.and_eq_true]at DU;refine wpIn_seq (wpIn_mono (nA (ro:=none) (n:=n) (D:=[]) B_ c1 _ ρ w a (.inl rfl) DU.1 h hr) fun e a' w' hp=>?_);obtain⟨⟨ρ',r',q'⟩,q2,q3⟩:=hp.out
  cases e with
  | normal=>exact ih c2 Q QM ρ' w' a' DU.2 q' r'
  | panic c=>exact(q2 c rfl).elim
  | outgrown=>exact(q3 rfl).elim
  | exit i=>exact .inl ⟨ρ',r',q'⟩
  | goto i=>exact .inl ⟨ρ',r',q'⟩
  | ret=>exact .inl ⟨ρ',r',q'⟩
 | here rA A p=>
  intro c Q QM ρ w a DU h hr
  have none_:∀{c:Code},(∀rc id g ps ars bd rest,c ≠ .seq (.seq rc (.block id (.rangeFunc g ps ars bd))) rest)->MB P n (.here rA A p) c=true->False:=fun {c} bC hk=>by
   unfold MB at hk;split at hk
   .cases ‹Sp.here _ _ _=Sp.next _ _›
   .exact bC _ _ _ _ _ _ _ rfl
   .cases hk
  have dec:(∃rc id g ps ars bd rest,c = .seq (.seq rc (.block id (.rangeFunc g ps ars bd))) rest):=Classical.byContradiction fun hc=>none_ (fun rc id g ps ars bd rest e=>hc ⟨rc,id,g,ps,ars,bd,rest,e⟩) DU
  obtain⟨rc,id,g,ps,ars,bd,rest,rfl⟩:=dec;simp only[Sj]at h;simp only[MB,Bool.and_eq_true]at DU
  refine wpIn_seq (wpIn_mono (wpIn_seq (Q:=fun e a' w'=>match e with
   | .normal=>∃Dk ρ',mu [qf Dk] n a' ρ'/\ve P pk (fun _ _=>False) p rest (QM Dk) ρ' w'
   | e=>SpE n Q QM e a' w') (wpIn_mono (nA (ro:=none) (n:=n) (D:=[]) _ rc _ ρ w a (.inl rfl) DU.1.1 h hr) fun e a' w' hp=>?_)) fun e a' w' hp=>?_)
  .obtain⟨⟨ρ1,r1,q1⟩,q2,q3⟩:=hp.out
   cases e with
   | panic c=>exact(q2 c rfl).elim
   | outgrown=>exact(q3 rfl).elim
   | exit i=>exact .inl ⟨ρ1,r1,q1⟩
   | goto i=>exact .inl ⟨ρ1,r1,q1⟩
   | ret=>exact .inl ⟨ρ1,r1,q1⟩
   | normal=>
    refine wpIn_block (wpIn_mono (Pm DU.1.2 r1 q1) fun e2 a2 w2 oz=>?_);obtain⟨Dk,⟨ρ2,r2,s2⟩,s3,s4⟩:=oz
    cases e2 with
    | panic c=>exact(s3 c rfl).elim
    | outgrown=>exact(s4 rfl).elim
    | normal=>exact⟨Dk,ρ2,r2,s2⟩
    | goto i=>exact .inr ⟨Dk,ρ2,r2,s2⟩
    | ret=>exact .inr ⟨Dk,ρ2,r2,s2⟩
    | exit i=>
     simp only[BY]at s2;simp only[Exit.inBlock]
     cases hb:Nat.beq i id with
     | true=>
      have:=Nat.eq_of_beq_eq_true hb;subst this;rw[hb]at s2;rw[if_pos rfl];exact⟨Dk,ρ2,r2,s2⟩
     | false=>
      rw[hb]at s2;rw[if_neg (fun e=>by subst e;simp at hb)];exact .inr ⟨Dk,ρ2,r2,s2⟩
  .cases e with
   | normal=>
    obtain⟨Dk,ρ1,r1,q1⟩:=hp;refine wpIn_mono (nA (ro:=none) (n:=n) (D:=[qf Dk]) p rest _ ρ1 w' a' (.inl rfl) DU.2 q1 r1) fun e2 a2 w2 oz=>?_
    obtain⟨⟨ρ2,r2,s2⟩,s3,s4⟩:=oz.out;exact SpE.mk (.inr ⟨Dk,ρ2,r2,s2⟩) s3 s4
   | panic c=>exact hp
   | outgrown=>exact hp
   | exit i=>exact hp
   | goto i=>exact hp
   | ret=>exact hp
def X4(Dk:Nat):(l:List Ty)->kA l->kA l
 | [],K=>fun w=>K (bJ Dk w)
 | .one _::r,K=>fun x=>X4 Dk r (K x)
 | .agg l::r,K=>X5 Dk r l K
 | .bad::r,K=>fun v=>X4 Dk r (K v)
where
 X5 (Dk:Nat) (r:List Ty):(l:List zD)->DY l (kA r)->DY l (kA r)
 | [],K=>X4 Dk r K
 | .one _::q,K=>fun x=>X5 Dk r q (K x)
 | .row _ _::q,K=>fun x=>X5 Dk r q (K x)
def abn(P:Program)(tys:List Ty)(rs:List ResultVar)(K:kA tys)(Dk:Nat):Exit->Env->Pw
 | .ret,ρ,w=>fO Dk w/\Au P rs ρ (bJ Dk w) (fun vs=>sW tys vs K (bJ Dk w))
 | .normal,ρ,w=>fO Dk w/\Au P rs ρ (bJ Dk w) (fun vs=>sW tys vs K (bJ Dk w))
 | _,_,_=>False
theorem mkR{f:FuncId}{fn:Func}{s:Sp}{args:List Value}{tys:List Ty}{K:kA tys}{w:Wd}{F C:Prop}(hf:P.funcs[f]? = some fn)
  (hF:F=Sj P pk s (fn.body.getD .skip) (On P tys fn.results.toList K) (abn P tys fn.results.toList K) (sU args) w) (hc:(fn.body.isSome && Nat.ble args.length fn.ntmps && MB P fn.ntmps s (fn.body.getD .skip))=true)
  (hC:ar P f args.toArray tys K w=C) (h:F):C:=by
 simp only[Bool.and_eq_true]at hc;obtain⟨c,hb⟩:=Option.isSome_iff_exists.1 hc.1.1;have e:fn.body.getD .skip=c:=by rw[hb];rfl
 rw[e]at hF hc;rw[<- hC];refine callsIn_wide.1 (callsIn_of_wp_marks (F:=Fence.wide) (n:=0) hf hb trivial (wpIn_mono (Sk s c _ _ _ w _ hc.2 (hF ▸ h) (I_ hc.1.2)) fun e a' w' hp=>?_) rfl)
 have fin:∀{D:List Deferred}{ρ':Env}{kC:Wd},mu D fn.ntmps a' ρ'->Au P fn.results.toList ρ' kC (fun vs=>sW tys vs K kC)->∃v,(results fn a'.tmps).run P kC = .ok v kC/\Ij tys K (fun vs Y=>Ending.returned v = .returned (EU vs)/\Y kC):=fun d_ hq=>by
  obtain⟨vs,h1,h2⟩:=zK d_ hq;exact⟨_,h1,lP tys K (fun us X hh=>⟨by rw[hh.1],hh.2⟩) (pJ tys vs K _ h2)⟩
 have main:((∃ρ,mu [] fn.ntmps a' ρ/\Au P fn.results.toList ρ w' (fun vs=>sW tys vs K w'))∨∃Dk ρ,mu [qf Dk] fn.ntmps a' ρ/\(fO Dk w'/\Au P fn.results.toList ρ (bJ Dk w') (fun vs=>sW tys vs K (bJ Dk w'))))->
   LeavesInM Fence.wide 0 P fn a'.tmps (fun e w'=>Ij tys K (fun vs Y=>e = .returned (EU vs)/\Y w')) a'.defers .returning w':=by
  rintro(⟨ρ,r,q⟩ | ⟨Dk,ρ,r,q0,q⟩)
  .rw[r.defers];exact fin r q
  .rw[r.defers];exact⟨by simp,.inl ⟨Dk,_,rfl,run_takeDeferred q0,fin r q⟩⟩
 cases e with
 | normal=>exact main hp
 | ret=>exact main hp
 | panic c=>exact hp.elim
 | outgrown=>exact hp.elim
 | exit i=>rcases hp with⟨_,_,h⟩ | ⟨_,_,_,h⟩ <;> exact h.elim
 | goto i=>rcases hp with⟨_,_,h⟩ | ⟨_,_,_,h⟩ <;> exact h.elim
end sound
end Go.V
set_option maxRecDepth 100000
namespace Go.Proofs.YtpjbalhhlaofmaaGreat
open Go.V
def jZ(s:Sl)(seq:Value)(w:Wd)(K:Sl->Pw):Prop:=ag w (.cells [s.u].toArray 100) fun f l=>∀(a:Loop)(dk lp:Nat)(w2:Wd),Dm l a dk lp w2->(∀(j:ByteArray)(b:Wd)(h:Bool->Pw),dE lp a .ready none b->(dE lp a .ready none b/\∃c:Sl,Cell (aP lp a .busy none b) (A0 f) c.u/\ag (aP lp a .busy none b) (.cells [.string j].toArray 9) fun k m=>bz pz 100 100 c (.slice (some (A0 k)) 1 1) (fun g n=>aF n (A0 f) g.u fun i=>dE lp a .busy none i/\h true (aP lp a .ready none i)) m)->aC pz true (.func (.yield lp) #[] #[]) [.string j] [.one .bool] h cf b)->aC pz false (seq) [.func (.yield lp) #[] #[]] [] (fun e=>(dE lp a .ready none e/\∃d:Sl,Cell (aP lp a .exhausted none e) (A0 f) d.u/\fO dk ((aP lp a .exhausted none e))/\K d ((bJ dk ((aP lp a .exhausted none e)))))) cf w2
def j_:Sp:=(.next n0 (.here n0 ⟨[(7,.one (.str))],[],n0,(.block n0)⟩ (qz n0)))
theorem kg{s:Sl}{seq:Value}{w:Wd}{K:Sl->Pw}(h:jZ s seq w K):db s seq w K:=
 mkR (pk:=PK) (s:=j_) (args:=[.slice s.a s.len s.cap,seq]) (tys:=[.one (.sl)]) (K:=K) (w:=w) Tryz.func109 (by kernel_rfl) (by kernel_rfl) (by kernel_rfl) h
def wk(g0:Value)(g1:Int)(key value:Sl)(w:Wd)(K:Sl->Sl->Int->Int->Int->Int->Int->Int->Int->Int->Pw):Prop:=ag w (.cells [g0,.int .u32 g1].toArray 107) fun c3 h4=>ag h4 (.cells (uu 0 0 0 0 0 0 0).toArray 151) fun b h8=>ag h8 (.cells [.int .i64 0].toArray 34) fun m i2=>dT key i2 fun z i3=>ag i3 (.cells (uu 0 0 0 0 0 0 0).toArray 151) fun a i4=>aQ i4 (A0 a) 9 (aaw z 0 0 0 0 0 0 0) fun h1=>If (decide (((value.len:Int))<=64)) (dT value h1 fun c2 i5=>aF i5 ((A0 a).add 1) c2.u fun l=>wO (Cell l) (A0 a) fun n o L T U a3 b1 b4 c0=>aQ l (A0 b) 9 (ur n o L T U a3 b1 b4 c0) fun i6=>aF i6 (A0 m) (.int .i64 0) fun h=>wO (Cell h) (A0 b) fun I B c4 c5 c6 c7 c8 c9 d0=>∃g3:Int,Cell h (A0 m) (.int .i64 g3)/\K I B c4 c5 c6 c7 c8 c9 d0 g3 h) (te value h1 fun h2 f8 i=>If (f8 != 0) (wO (Cell i) (A0 a) fun p q M N O P Q R S=>aQ i (A0 b) 9 (ur p q M N O P Q R S) fun h5=>aF h5 (A0 m) (.int .i64 f8) fun j=>wO (Cell j) (A0 b) fun C D d1 d2 d3 d4 d5 d6 d7=>∃g4:Int,Cell j (A0 m) (.int .i64 g4)/\K C D d1 d2 d3 d4 d5 d6 d7 g4 j) (gv h2 i fun h3 h6=>∀(c:Loop)(dk lp:Nat)(dU:Wd),Dm h6 c dk lp dU->(∀(i7:Value)(J:Sl)(y:Wd)(A:Bool->Pw),dE lp c .ready none y->(dE lp c .ready none y/\mo (Cell (aP lp c .busy none y)) ((A0 a).add 3) fun d8 d9 e0=>qF J d8 d9 e0 (aP lp c .busy none y) fun c1 f9 e=>If (f9 != 0) (wO (Cell e) (A0 a) fun r s V W Y Z a0 a1 a2=>aQ e (A0 b) 9 (ur r s V W Y Z a0 a1 a2) fun h7=>aF h7 (A0 m) (.int .i64 f9) fun g9=>dE lp c .busy none g9/\A false (aP lp c .done (some .ret) g9)) (yl (Cell e) (A0 c3) fun g5 g6=>pK pz g5 "Put" (aar g6 3 0 c1) [.agg [.one (.int .u32),.one (.int .u64),.one (.int .u16)],.one (.int .i64)] (fun f5 f6 f7 g2 h9=>aQ h9 ((A0 a).add 3) 3 (iY f5 f6 f7) fun f=>If (g2 != 0) (wO (Cell f) (A0 a) fun t u a4 a5 a6 a7 a8 a9 b0=>aQ f (A0 b) 9 (ur t u a4 a5 a6 a7 a8 a9 b0) fun i0=>aF i0 (A0 m) (.int .i64 g2) fun h0=>dE lp c .busy none h0/\A false (aP lp c .done (some .ret) h0)) (dE lp c .busy none f/\A true (aP lp c .ready none f))) cf e))->aC pz true (.func (.yield lp) #[] #[]) [i7, J.u] [.one .bool] A cf y)->aC pz false (h3) [.func (.yield lp) #[] #[]] [] (fun d=>(dE lp c .done (some .ret) d/\fO dk ((aP lp c .exhausted (some .ret) d))/\wO (Cell ((bJ dk ((aP lp c .exhausted (some .ret) d))))) (A0 b) fun E F e1 e2 e3 e4 e5 e6 e7=>∃g7:Int,Cell ((bJ dk ((aP lp c .exhausted (some .ret) d)))) (A0 m) (.int .i64 g7)/\K E F e1 e2 e3 e4 e5 e6 e7 g7 ((bJ dk ((aP lp c .exhausted (some .ret) d)))))∨  (dE lp c .ready none d/\aF (aP lp c .exhausted none d) ((A0 a).add 2) (.int .i64 ((value.len:Int))) fun k=>wO (Cell k) (A0 a) fun v x b2 b3 b5 b6 b7 b8 b9=>aQ k (A0 b) 9 (ur v x b2 b3 b5 b6 b7 b8 b9) fun i1=>aF i1 (A0 m) (.int .i64 0) fun g=>fO dk g/\wO (Cell ((bJ dk g))) (A0 b) fun G H e8 e9 f0 f1 f2 f3 f4=>∃g8:Int,Cell ((bJ dk g)) (A0 m) (.int .i64 g8)/\K G H e8 e9 f0 f1 f2 f3 f4 g8 ((bJ dk g)))) cf dU))
def wm:Sp:=(.next n0 (.next n0 (.next (qz (.cond (qz (qz n0)) n0)) (.next n0 (.next (qz (.cond (qz n0) n0)) (.here n0 ⟨[(36,.one (.val)),(37,.one (.sl))],[none],n0,(.block (qz (.seq (qz (.cond (qz n0) n0)) (qz (qz (.cond (qz n0) n0))))))⟩ (qz (qz n0))))))))
theorem wo{g0:Value}{g1:Int}{key value:Sl}{w:Wd}{K:Sl->Sl->Int->Int->Int->Int->Int->Int->Int->Int->Pw}(h:wk g0 g1 key value w K):fR g0 g1 key value w K:=
 mkR (pk:=PK) (s:=wm) (args:=[.agg ([g0,.int .u32 g1]).toArray,.slice key.a key.len key.cap,.slice value.a value.len value.cap]) (tys:=[.agg [.one (.sl),.one (.sl),.one (.int .i64),.one (.int .u32),.one (.int .u64),.one (.int .u16),.one (.int .u32),.one (.int .u64),.one (.int .u16)],.one (.int .i64)]) (K:=K) (w:=w) Tryz.func86 (by kernel_rfl) (by kernel_rfl) (by kernel_rfl) h
def HQ(s:Value)(ah t0:Int)(t1 t2 t3:Int)(gq to:Sl)(most:Int)(back:Bool)(w:Wd)(K:Sl->Int->Pw):Prop:=ag w (.cells (fm t0 t1 t2 t3).toArray 30) fun p a2=>ag a2 (.cells [.int .i64 most].toArray 3) fun I a8=>ag a8 (.cells [.slice none 0 0].toArray 88) fun c b1=>ag b1 (.cells [.int .i64 0].toArray 34) fun d n=>iC (Cell n) (A0 p) fun J L M N=>td s ah J L M N n fun a1 O Y=>If (O != 0) (aF Y (A0 c) (.slice none 0 0) fun b2=>aF b2 (A0 d) (.int .i64 O) fun F=>∃q:Sl,Cell F (A0 c) q.u/\∃P:Int,Cell F (A0 d) (.int .i64 P)/\K q P F) (ag Y (.cells [.slice none 0 0].toArray 88) fun m G=>∃S:Int,Cell G (A0 I) (.int .i64 S)/\If (decide (S < 1)) (aF G (A0 c) (.slice none 0 0) fun b3=>aF b3 (A0 d) (.int .i64 0) fun D=>∃u:Sl,Cell D (A0 c) u.u/\∃T:Int,Cell D (A0 d) (.int .i64 T)/\K u T D) (oG a1 gq to back G fun a0 a3=>∀(a:Loop)(dk lp:Nat)(eG:Wd),Dm a3 a dk lp eG->(∀(e:Sl)(f:Sl)(H:Int)(E:Wd)(o:Bool->Pw),dE lp a .ready none E->(ag E (.cells (pP).toArray 92) fun B a4=>aQ a4 (A0 B) 2 (zL e f) fun k=>dE lp a .ready none k/\If (H != 0) (aF (aP lp a .busy none k) (A0 c) (.slice none 0 0) fun a5=>aF a5 (A0 d) (.int .i64 H) fun W=>dE lp a .busy none W/\o false (aP lp a .done (some .ret) W)) (∃v:Sl,Cell (aP lp a .busy none k) (A0 m) v.u/\sD (Cell (aP lp a .busy none k)) (A0 B) fun g h=>ag (aP lp a .busy none k) (.cells (zL g h).toArray 92) fun Z a6=>bz pz 88 88 v (.slice (some (A0 Z)) 1 1) (fun C a7=>aF a7 (A0 m) C.u fun l=>∃x:Sl,Cell l (A0 m) x.u/\∃U:Int,Cell l (A0 I) (.int .i64 U)/\If (decide (((x.len:Int))≥U)) (dE lp a .busy none l/\o false (aP lp a .done (some (.exit 0)) l)) (dE lp a .busy none l/\o true (aP lp a .ready none l))) a6))->aC pz true (.func (.yield lp) #[] #[]) [.agg ((zL e f)).toArray,.int .i64 H] [.one .bool] o cf E)->aC pz false (a0) [.func (.yield lp) #[] #[]] [] (fun b=>(dE lp a .done (some .ret) b/\fO dk ((aP lp a .exhausted (some .ret) b))/\∃y:Sl,Cell ((bJ dk ((aP lp a .exhausted (some .ret) b)))) (A0 c) y.u/\∃V:Int,Cell ((bJ dk ((aP lp a .exhausted (some .ret) b)))) (A0 d) (.int .i64 V)/\K y V ((bJ dk ((aP lp a .exhausted (some .ret) b)))))∨  (dE lp a .done (some (.exit 0)) b/\∃i:Sl,Cell (aP lp a .exhausted (some (.exit 0)) b) (A0 m) i.u/\aF (aP lp a .exhausted (some (.exit 0)) b) (A0 c) i.u fun a9=>aF a9 (A0 d) (.int .i64 0) fun z=>fO dk z/\∃r:Sl,Cell ((bJ dk z)) (A0 c) r.u/\∃Q:Int,Cell ((bJ dk z)) (A0 d) (.int .i64 Q)/\K r Q ((bJ dk z)))∨  (dE lp a .ready none b/\∃j:Sl,Cell (aP lp a .exhausted none b) (A0 m) j.u/\aF (aP lp a .exhausted none b) (A0 c) j.u fun b0=>aF b0 (A0 d) (.int .i64 0) fun A=>fO dk A/\∃t:Sl,Cell ((bJ dk A)) (A0 c) t.u/\∃R:Int,Cell ((bJ dk A)) (A0 d) (.int .i64 R)/\K t R ((bJ dk A)))) cf eG))
def HR:Sp:=(.next n0 (.next n0 (.next (qz (.cond (qz n0) n0)) (.next n0 (.next (qz (.cond (qz n0) n0)) (.here n0 ⟨[(38,.agg [.one (.sl),.one (.sl)]),(39,.one (.int .i64))],[none,some 0],(qz n0),(.block (.seq (qz (.cond (qz n0) n0)) (qz (qz (.cond n0 n0)))))⟩ (qz n0)))))))
theorem HS{s:Value}{ah t0:Int}{t1 t2 t3:Int}{gq to:Sl}{most:Int}{back:Bool}{w:Wd}{K:Sl->Int->Pw}(h:HQ s ah t0 t1 t2 t3 gq to most back w K):qA s ah t0 t1 t2 t3 gq to most back w K:=
 mkR (pk:=PK) (s:=HR) (args:=[s,.int .u32 ah,.agg ([.int .u32 t0,.int .u64 t1,.int .u16 t2,.int .u8 t3]).toArray,.slice gq.a gq.len gq.cap,.slice to.a to.len to.cap,.int .i64 most,.bool back]) (tys:=[.one (.sl),.one (.int .i64)]) (K:=K) (w:=w) Tryz.func44 (by kernel_rfl) (by kernel_rfl) (by kernel_rfl) h
def kh(s:Sl)(seq:Value)(w:Wd)(K:Sl->Pw):Prop:=ag w (.cells [s.u].toArray 210) fun f l=>∀(a:Loop)(dk lp:Nat)(w2:Wd),Dm l a dk lp w2->(∀(j:Int)(b:Wd)(h:Bool->Pw),dE lp a .ready none b->(dE lp a .ready none b/\∃c:Sl,Cell (aP lp a .busy none b) (A0 f) c.u/\ag (aP lp a .busy none b) (.cells [.int .u32 j].toArray 22) fun k m=>bz pz 210 210 c (.slice (some (A0 k)) 1 1) (fun g n=>aF n (A0 f) g.u fun i=>dE lp a .busy none i/\h true (aP lp a .ready none i)) m)->aC pz true (.func (.yield lp) #[] #[]) [.int .u32 j] [.one .bool] h cf b)->aC pz false (seq) [.func (.yield lp) #[] #[]] [] (fun e=>(dE lp a .ready none e/\∃d:Sl,Cell (aP lp a .exhausted none e) (A0 f) d.u/\fO dk ((aP lp a .exhausted none e))/\K d ((bJ dk ((aP lp a .exhausted none e)))))) cf w2
def ki:Sp:=(.next n0 (.here n0 ⟨[(7,.one (.int .u32))],[],n0,(.block n0)⟩ (qz n0)))
theorem kn{s:Sl}{seq:Value}{w:Wd}{K:Sl->Pw}(h:kh s seq w K):de s seq w K:=
 mkR (pk:=PK) (s:=ki) (args:=[.slice s.a s.len s.cap,seq]) (tys:=[.one (.sl)]) (K:=K) (w:=w) Tryz.func187 (by kernel_rfl) (by kernel_rfl) (by kernel_rfl) h
end Go.Proofs.YtpjbalhhlaofmaaGreat
namespace Go.V
def Sub(ps:List Rf)(M:Mm):Prop:=∀q,ps.count q<=(live M.au).count q
theorem Sub.left{a b:List Rf}{M:Mm}(h:Sub (a++b) M):Sub a M:=fun q=>by have:=h q;rw[List.count_append]at this;omega
theorem Sub.right{a b:List Rf}{M:Mm}(h:Sub (a++b) M):Sub b M:=fun q=>by have:=h q;rw[List.count_append]at this;omega
theorem Sub.mem{ps:List Rf}{M:Mm}{q:Rf}(h:Sub ps M)(hq:q∈ps):q∈live M.au:=by
 have:=h q;have h2:=List.count_pos_iff.2 hq;exact List.count_pos_iff.1 (by omega)
theorem Sub.apart{a b:List Rf}{M:Mm}(S:Mk M)(h:Sub (a++b) M){q:Rf}(ha:q∈a):q ∉ b:=fun hb=>by
 have h1:=h q;rw[List.count_append]at h1;have h2:=List.count_pos_iff.2 ha;have h3:=List.count_pos_iff.2 hb;have h4:=List.nodup_iff_count.1 (CP S) q;omega
theorem Sub.FP{M M':Mm}{k:Nat}{ds ns a b:List Rf}(h:Sub (a++b) M)(c:mf M M' k ds ns)(hd:∀q,ds.count q<=a.count q):Sub b M':=fun q=>by
 have:=h q;have:=c.Iu q;have:=hd q;rw[List.count_append] at *;omega
end Go.V
namespace Go.Proofs.YtpjbalhhlaofmaaGreat
open Go.V
section
variable {w:Wd} {T:Nat->Option Nat} {m:bB} {M:Mm}
theorem Dn(l:List Rf):∀x∈l,(Rf.cs x).length=3:=fun _ _=>rfl
def Kq(bv:Nat)(base:Nat)(cs:List (Rf×List Int))(j:Nat)(w:Wd)(B:Nat->Prop):Prop:=
 ∃(sl:Sl),w.heap[bv]? = some (.cells [.slice sl.a sl.len sl.cap].toArray 133 (0,0))/\aT w.heap base 28 3 sl (((cs.take j).map Prod.fst).flatMap Rf.cs)/\(bv < base/\base<=w.heap.size)/\(∀q,B q ↔ q=bv∨sl.aq=some q)
theorem Kq.mono{bv base:Nat}{cs:List (Rf×List Int)}{j:Nat}{w1 w2:Wd}{B S:Nat->Prop}(h:Kq bv base cs j w1 B)(x:Ext S w1 w2)(hS:∀q,B q->¬ S q):Kq bv base cs j w2 B:=by
 obtain⟨sl,h1,h2,h3,h4⟩:=h;exact⟨sl,af h1 x (hS _ ((h4 _).2 (.inl rfl))),h2.ext x (fun q hq=>hS _ ((h4 _).2 (.inr hq))),⟨h3.1,Nat.le_trans h3.2 x.size⟩,h4⟩
theorem Kq.step{bv base:Nat}{cs:List (Rf×List Int)}{j:Nat}{w1:Wd}{B:Nat->Prop}{s:Sl}{K':Pw}(hl:cs.length<=5)(hj:j < cs.length)(h:Kq bv base cs j w1 B)
  (k:∀w' B',Kq bv base cs (j+1) w' B'->Ext B w1 w'->(∀q,B' q->B q∨w1.heap.size<=q/\q < w'.heap.size)->K' w') :
  aC pz true (.func (.func 166) #[] #[.pointer (some (A1 bv))]) [.agg ([.int .u32 cs[j].1.p,.int .u64 cs[j].1.c,.int .u16 cs[j].1.g]).toArray,.slice s.a s.len s.cap] [] K' cf w1:=by
 obtain⟨sl,h1,h2,h3,h6⟩:=h;refine sH (c0:=A1 bv) (sG ?_)
 refine ag.mk fun b w2 n2=>⟨_,Cell.ai (ad h1 n2.ext) rfl,_,Cell.ai n2.get rfl,_,Cell.ai n2.get rfl,_,Cell.ai n2.get rfl,ag.mk fun b1 w3 n3=>?_⟩
 have x3:=n2.ext.no n3.ext;have z2:=n2.size;have z3:=n3.size;have o3:=h2.no x3;have e3:aT w3.heap w2.heap.size 28 3 ⟨some ⟨b1,0,none⟩,1,1⟩ (Rf.cs cs[j].1):=aT.new (n:=1) (sz:=3) n3 rfl (by simp[aN,Rf.cs]);have JF:sl.len=j:=by have:=h2.len;rw[aK (Dn _)]at this;simp at this;omega
 have Qo:∀q,sl.aq=some q->B q:=fun q hq=>(h6 q).2 (.inr hq)
 have ON:B bv:=(h6 bv).2 (.inl rfl);have nbv:sl.aq≠some bv:=fun h=>by have:=(h2.lt h).1;omega
 refine zP o3 (by omega) e3.rd.src (by simp only;omega) fun s' w4 o4 _ x4 oR=>?_
 have y4:=x4.size
 have Uy:∀q,s'.aq=some q->B q∨w1.heap.size<=q/\q < w4.heap.size:=fun q hq=>by
  rcases oR with h | ⟨c,h,hc⟩
  .exact .inl (Qo q (h ▸ hq))
  .rw[h]at hq;cases hq;exact .inr ⟨by omega,(o4.lt h).2⟩
 have g4:=af (ad h1 x3) x4 nbv;refine aF.b1 g4 rfl fun w5 OO=>?_
 have z5:=OO.size;have x5:Ext (·=bv) w4 w5:=OO.ext;have pH:Ext B w1 w5:=((x3.aG).trans x4 fun q _ hq=>Qo q hq).trans x5 fun q _ hq=>by rw[hq];exact ON
 refine k w5 (fun q=>q=bv∨s'.aq=some q) ⟨s',OO.get g4,?_,⟨h3.1,by have:=pH.size;omega⟩,fun q=>Iff.rfl⟩ pH fun q hq=>?_
 .have:((cs.take (j+1)).map Prod.fst).flatMap Rf.cs=((cs.take j).map Prod.fst).flatMap Rf.cs++Rf.cs cs[j].1:=by
   rw[List.take_add_one,List.getElem?_eq_getElem hj];simp only[Option.toList_some,List.map_append,List.map_cons,List.map_nil,List.flatMap_append,List.flatMap_cons,List.flatMap_nil,List.append_nil]
  rw[this];exact o4.ext x5 fun q hq h=>by have:=(o4.lt hq).1;omega
 .rcases hq with h | h
  .exact .inl (h ▸ ON)
  .rcases Uy q h with h' | h'
   .exact .inl h'
   .exact .inr ⟨h'.1,by omega⟩
set_option maxHeartbeats 1000000 in
theorem Ks{t:Int}{x:aL}{e:aH}{cs:List (Rf×List Int)}{K:Int->Pw}(R:aY w.heap T m M)(hx:x.ch=e.ch)(hc:jl M.f t e.ch cs)(hl:cs.length<=5)(hs:Sub (cs.map Prod.fst) M)
  (k:∀M' w',aY w'.heap T m M'->mf M M' 0 (cs.map Prod.fst) []->Ext (Ts T) w w'->K 0 w'):ij (eW m) t x.k x.v x.n x.ch.p x.ch.c x.ch.g x.cd.p x.cd.c x.cd.g w K:=by
 apply uw;refine ag.mk fun b w1 n1=>ag.mk fun b1 w2 n2=>ag.mk fun b2 w3 n3=>?_
 have hb:=n1.at_;have gE:=n2.at_;have lO:=n3.at_;have z1:=n1.size;have z2:=n2.size;have z3:=n3.size;have gp:Ext No w w3:=(n1.ext.no n2.ext).no n3.ext;have g3:=ad (ad n1.get n2.ext) n3.ext;have gG:w3.heap[b1]? = some (.cells x.cs.toArray 151 (0,0)):=ad n2.get n3.ext
 have sup:∀q,w.heap.size<=q->T q=none:=fun q hq=>by
  cases h:T q with
  | none=>rfl
  | some t=>have:=R.sup q (by rw[h];simp);omega
 refine⟨_,Cell.ai g3 rfl,_,Cell.ai g3 rfl,_,Cell.ai gG rfl,_,Cell.ai gG rfl,_,Cell.ai gG rfl,?_⟩;rw[hx]
 refine vP (J:=Kq b2 w3.heap.size cs) (B:=fun q=>q=b2) (R.no gp) hc hl ⟨⟨none,0,0⟩,n3.get,aT.nil _ _ _ _,⟨by omega,Nat.le_refl _⟩,fun q=>by simp[Sl.aq]⟩ (fun q hq=>⟨sup q (by omega),by omega⟩) (fun h x hS=>h.mono x hS)
  (fun j w5 B' s base hj K' hJ o hb hB kk=>Kq.step hl hj hJ fun w' Wg h1 h2 h3=>kk w' Wg h1 h2 fun q hq=>(h3 q hq).imp id fun h=>⟨by omega,h.2⟩) fun w4 B4 J4 x4 R4 hB4=>If.bne (fun h=>(h rfl).elim) fun _=>?_
 obtain⟨sl,q1,q2,q3,q4⟩:=J4;rw[List.take_length]at q2;have agC:(cs.map Prod.fst).length<=5:=by simpa using hl
 generalize K5:cs.map Prod.fst=ps at *;have hlen:sl.len=ps.length:=by have:=q2.len;rw[aK (Dn _)]at this;omega
 have gF:Ext No w w4:=gp.trans x4 fun q hq h=>by omega
 have s4:=x4.size;have Qo:∀q,sl.aq=some q->w.heap.size<=q/\q < w4.heap.size:=fun q hq=>by have:=q2.lt hq;omega
 have g4:=af g3 x4 (by omega);refine⟨sl,Cell.ai q1 rfl,fun mm t w'=>∃(j:Nat) (Mj:Mm),t=j/\j<=ps.length/\mm=ps.length - j/\aY w'.heap T m Mj/\mf M Mj 0 (ps.take j) []/\Ext (Ts T) w4 w',⟨ps.length,0,M,rfl,by omega,by omega,R4,by simpa using mf.refl M,Ext.refl _ _⟩,?_⟩;rintro _ m0 t w5 ⟨j,Mj,rfl,hj,hm,R5,c5,x5⟩;have nT:∀q,w.heap.size<=q->¬ Ts T q:=fun q hq h=>h (sup q hq)
 have g5:=af g4 x5 (nT b (by omega));have q25:=q2.ext x5 fun q hq=>nT q (Qo q hq).1
 refine If.dec (fun h=>?_) fun h=>?_
 .refine Ix.elem q25.rd (Dn _) (by decide) (by omega) (by omega) fun bb o hi _ bq=>?_
  simp only[Int.toNat_natCast]at hi bq;refine⟨_,bq 0 _ rfl,_,bq 1 _ rfl,_,bq 2 _ rfl,bA rfl rfl (by simp[aN]) fun b3 w7 g7 xB z7 x7=>?_⟩
  have abo:ps[j]∈live Mj.au:=by
   have h1:=c5.Iu ps[j];have h2:=hs ps[j]
   have h3:ps.count ps[j]=(ps.take j).count ps[j]+(ps.drop j).count ps[j]:=by
    rw[<- List.count_append,List.take_append_drop]
   have h4:0 < (ps.drop j).count ps[j]:=List.count_pos_iff.2 (by rw[List.drop_eq_getElem_cons hi];exact List.mem_cons_self);exact List.count_pos_iff.1 (by simp only[List.count_nil]at h1;omega)
  obtain⟨d0,dc⟩:=mf.drop R5.Bl abo;refine⟨_,Cell.ai (ad g5 x7) rfl,_,Cell.ai g7 rfl,_,Cell.ai g7 rfl,_,Cell.ai g7 rfl,mF (qV (r:=ps[j]) (R5.no x7) fun w8 R8 x8=>?_)⟩;rw[d0];refine If.bne (fun h=>(h rfl).elim) fun _=>Ar.i64 (by omega) ⟨ps.length - (j+1),by omega,j+1,_,by omega,by omega,rfl,R8,?_,(x5.no x7).trans x8 fun _ _ h=>h⟩
  have:=c5.trans dc;rw[List.take_add_one,List.getElem?_eq_getElem hi];exact this
 .have e:j=ps.length:=by omega
  rw[e,List.take_length]at c5;exact k Mj w5 R5 c5 (gF.aG.trans x5 fun _ _ h=>h)
theorem Sm{vs:Sl}{v:List Int}{K:Sl->Int->Pw}(hv:cZ w.heap vs v)(hl:v.length<=1024)
  (k:∀sl (ps:List (Sl×List Int)) w',Rd w'.heap sl 1 (ps.map fun p=>p.1.v)->(∀p∈ps,cZ w'.heap p.1 p.2/\∀q,p.1.aq=some q->w.heap.size<=q/\q < w'.heap.size)->(∀q,sl.aq=some q->w.heap.size<=q/\q < w'.heap.size)->(ps.map Prod.snd).flatten=v->ps.length=(v.length+207) / 208->
   (∀j (h:j < ps.length),1<=ps[j].2.length/\ps[j].2.length<=208/\(j+1 < ps.length->ps[j].2.length=208))->Ext No w w'->K sl 0 w'):te vs w K:=by
 apply Jb;have Qh:=cZ.len hv;refine Ac (by omega) (by omega) (If.bne (fun h=>(h rfl).elim) fun _=>ag.mk fun b w2 n2=>?_);have hb:=n2.at_;have z2:=n2.size;refine xA (w0:=w) (Q:=fun q=>w.heap.size<=q) n2.ext.aG (fun i hi=>by simp[Sl.aq]at hi;omega) (fun i hi=>hi) (aU.new (l:=[]) (n:=0) n2 rfl) (by omega) (Rd.no hv n2.ext) (by simp;omega) fun s w3 o3 q3 x3=>?_
 rw[List.nil_append]at o3;have JF:=aU.len o3;have gp:Ext No w w3:=x3.mono fun q hq h=>by omega
 have s3:=x3.size;rw[Qh];refine Ik.mk (Int.le_refl _) (by omega) (by omega) (by omega) fun b4 w4 n4=>?_
 have o4:=aT.make (l:=(0:Int).toNat) n4 (by omega) (fun v hv=>by rw[List.mem_singleton]at hv;subst hv;rfl);have Io:=n4.at_;have z4:=n4.size
 have sb:∀q,s.aq=some q->w.heap.size<=q/\q < w3.heap.size:=fun q hq=>⟨q3 q hq,(o3.lt hq).2⟩
 refine⟨fun mm out fr w'=>∃(j:Nat) (ps:List (Sl×List Int)),fr=208 * j/\208 * j<=v.length+207/\mm=v.length+207 - 208 * j/\aT w'.heap w3.heap.size 23 1 out (ps.map fun p=>p.1.v)/\(∀p∈ps,cZ w'.heap p.1 p.2/\p.1.aq=s.aq)/\(ps.map Prod.snd).flatten=v.take (208 * j)/\ps.length=j/\(∀i (h:i < ps.length),1<=ps[i].2.length/\ps[i].2.length<=208/\(i+1 < ps.length∨208 * j<=v.length->ps[i].2.length=208))/\Ext No w3 w',
  ⟨v.length+207,0,[],rfl,by omega,by omega,by simpa using o4,by simp,by simp,rfl,by simp,n4.ext⟩,?_⟩
 rintro _ m0 out fr w5 ⟨j,ps,rfl,hj,hm,o5,K5,K0,xW,jw,x5⟩;have s5:=x5.size;refine If.dec (fun h=>?_) fun h=>?_
 .have fh:208 * j < v.length:=by omega
  refine Ar.i64 (by omega) (Nm.mk ?_);have vX:gT (208 * (j:Int)+208) (s.len:Int)=((min (208 * j+208) v.length:Nat):Int):=by unfold gT;split <;> omega
  rw[vX];have r5:=(o3.no x5).rd;have jT:=r5.cap;have Ho:=Rd.cut r5 (lo:=208 * j) (hi:=min (208 * j+208) v.length) (mx:=min (208 * j+208) v.length) (by omega) (by omega) (Nat.le_refl _);simp only[Nat.mul_one]at Ho;rw[<- List.map_drop,<- List.map_take]at Ho;refine Cut.mk (by omega) (by omega) (Int.le_refl _) (by omega) ?_;rw[show(((min (208 * j+208) v.length:Nat):Int)).toNat=min (208 * j+208) v.length from rfl,show(208 * (j:Int)).toNat=208 * j by omega,show(((min (208 * j+208) v.length:Nat):Int) - 208 * (j:Int)).toNat=min (208 * j+208) v.length - 208 * j by omega];generalize Ip:(⟨mP s.a (min (208 * j+208) v.length) (208 * j) 1,min (208 * j+208) v.length - 208 * j,min (208 * j+208) v.length - 208 * j⟩ : Sl)=s2 at *
  have vH:s2.aq=s.aq:=by
   rw[<- Ip];simp only[Sl.aq,mP];split
   .rfl
   .cases s.a with
    | none=>rfl
    | some a=>simp only[Option.map_some];congr 1;unfold Addr.add;split <;> rfl
  refine ag.mk fun b6 w6 n6=>?_
  have o6:=o5.no n6.ext;have e6:aT w6.heap w5.heap.size 23 1 ⟨some ⟨b6,0,none⟩,1,1⟩ [s2.v]:=aT.new (n:=1) (sz:=1) n6 rfl (by simp[aN,Sl.v]);have hol:out.len=j:=by have:=o6.len;simp at this;omega
  refine qO o6 (by have:=n6.size;omega) e6.rd.src (by simp only;omega) fun aam w7 o7 _ x7 oR=>?_
  have ob:∀q,out.aq=some q->w3.heap.size<=q:=fun q hq=>(o5.lt hq).1
  have Wh:Ext No w3 w7:=(x5.no n6.ext).trans x7 fun q hq h=>by have:=ob q h;omega
  have Wi:∀{p:Sl×List Int},cZ w5.heap p.1 p.2->p.1.aq=s.aq->cZ w7.heap p.1 p.2:=fun {p} h hb=>(Rd.no h n6.ext).ext x7 fun a q ha hq e=>by
   have h1:p.1.aq=some q:=by simp[Sl.aq,ha,hq]
   rw[hb]at h1;have:=sb q h1;have:=ob q e;omega
  refine Ar.i64 (by omega) ⟨v.length+207 - 208 * (j+1),by omega,j+1,ps++[(s2,(v.drop (208 * j)).take (min (208 * j+208) v.length - 208 * j))],by omega,by omega,rfl,by simpa using o7,fun p hp=>?_,?_,by simp[xW],fun i hi=>?_,Wh⟩
  .rcases List.mem_append.1 hp with h | h
   .exact⟨Wi (K5 p h).1 (K5 p h).2,(K5 p h).2⟩
   .rw[List.mem_singleton]at h;subst h;exact⟨Wi Ho vH,vH⟩
  .rw[List.map_append,List.flatten_append,K0];simp only[List.map_cons,List.map_nil,List.flatten_cons,List.flatten_nil,List.append_nil];rw[show 208 * (j+1)=208 * j+208 by omega,List.take_add];congr 1;rw[List.take_eq_take_iff,List.length_drop];omega
  .simp only[List.length_append,List.length_cons,List.length_nil]at hi ⊢;rcases Nat.lt_or_ge i ps.length with h2 | h2
   .rw[List.getElem_append_left h2];have:=jw i h2;refine⟨this.1,this.2.1,fun _=>this.2.2 (.inr (by omega))⟩
   .have:i=ps.length:=by omega
    subst this;simp only[List.getElem_append_right (Nat.le_refl _),Nat.sub_self,List.getElem_cons_zero,List.length_take,List.length_drop];omega
 .have fh:v.length<=208 * j:=by omega
  refine k out ps w5 o5.rd (fun p hp=>⟨(K5 p hp).1,fun q hq=>?_⟩) (fun q hq=>?_) (by rw[K0,List.take_of_length_le fh]) (by omega) (fun i hi=>?_) (gp.no x5)
  .rw[(K5 p hp).2]at hq;have:=sb q hq;omega
  .have:=o5.lt hq;omega
  .have:=jw i hi;exact⟨this.1,this.2.1,fun h=>this.2.2 (.inl h)⟩
theorem EF{bv:Nat}{sl:Sl}{ps:List (Sl×List Int)}{yield:Value}{J:Nat->Pw}{K:Pw}(hn:ps.length<=65536)(hJ:∀j w',J j w'->w'.heap[bv]? = some (.cells [.slice sl.a sl.len sl.cap].toArray 111 (0,0))/\Rd w'.heap sl 1 (ps.map fun p=>p.1.v))(h0:J 0 w)
  (step:∀j w1 (hj:j < ps.length) (K':Bool->Pw),J j w1->(∀w',J (j+1) w'->K' true w')->aC pz true yield [.int .i64 ((ps.length - 1 - j:Nat):Int),.slice ps[ps.length - 1 - j].1.a ps[ps.length - 1 - j].1.len ps[ps.length - 1 - j].1.cap] [.one .bool] K' cf w1)
  (k:∀w',J ps.length w'->K w'):dz yield (A1 bv) w K:=by
 apply lV;obtain⟨g,r⟩:=hJ 0 w h0;have hl:sl.len=ps.length:=by have:=r.len;simp at this;exact this.symm
 refine⟨sl,Cell.ai g rfl,Ar.i64 (by omega) ⟨fun mm i w'=>∃j:Nat,i=(ps.length:Int) - 1 - j/\j<=ps.length/\mm=ps.length - j/\J j w',⟨ps.length,0,by omega,by omega,by omega,h0⟩,?_⟩⟩;rintro _ m0 i w1 ⟨j,rfl,hj,hm,Jj⟩;obtain⟨g1,r1⟩:=hJ j w1 Jj;refine If.dec (fun h=>?_) fun h=>?_
 .refine⟨sl,Cell.ai g1 rfl,Ix.cell r1 (by omega) (by omega) fun bb o v _ hv hc=>?_⟩;have e:((ps.length:Int) - 1 - j).toNat=ps.length - 1 - j:=by omega
  rw[e,List.getElem?_map,List.getElem?_eq_getElem (by omega)]at hv;simp only[Option.map_some,Option.some.injEq]at hv;subst hv;have e2:((ps.length:Int) - 1 - j)=((ps.length - 1 - j:Nat):Int):=by omega
  rw[e2];refine⟨_,hc,step j w1 (by omega) _ Jj fun w' J'=>If.not (If.yes (Ar.i64 (by omega) ⟨ps.length - (j+1),by omega,j+1,by omega,by omega,rfl,J'⟩))⟩
 .have:j=ps.length:=by omega
  subst this;exact k w1 Jj
end
end Go.Proofs.YtpjbalhhlaofmaaGreat
namespace Go.V
theorem eH{l:Nat}{rf:Loop}{st:LoopState}{p:Option Code}{w:Wd}:Ext (fun q=>q=l) w (aP l rf st p w):=gI.ext (o:= .loop { rf with state:=st,pending:=p }) rfl
theorem dE.lt{l:Nat}{rf:Loop}{st:LoopState}{p:Option Code}{w:Wd}(h:dE l rf st p w):l < w.heap.size:=by
 rcases Nat.lt_or_ge l w.heap.size with k | k
 .exact k
 .unfold dE at h;rw[Array.getElem?_eq_none k]at h;cases h
theorem dE.put{l:Nat}{rf:Loop}{st st':LoopState}{p p':Option Code}{w:Wd}(h:dE l rf st p w):dE l rf st' p' (aP l rf st' p' w):=World.putObj_heap_same h.lt
theorem lH{l:Nat}{rf:Loop}{st:LoopState}{p:Option Code}{w:Wd}:(aP l rf st p w).heap.size=w.heap.size:=by simp[aP,World.putObj]
theorem dE.ext{S:Nat->Prop}{l:Nat}{rf:Loop}{st:LoopState}{p:Option Code}{w w':Wd}(h:dE l rf st p w)(x:Ext S w w')(hS:¬ S l):dE l rf st p w':=by
 unfold dE;rw[x.aq l h.lt hS];exact h
theorem oX{dk:Nat}{w:Wd}:Ext (fun q=>q=dk) w (bJ dk w):=gI.ext (o:= .deferred none) rfl
theorem fO.lt{dk:Nat}{w:Wd}(h:fO dk w):dk < w.heap.size:=by
 rcases Nat.lt_or_ge dk w.heap.size with k | k
 .exact k
 .unfold fO at h;rw[Array.getElem?_eq_none k]at h;cases h
theorem fO.ext{S:Nat->Prop}{dk:Nat}{w w':Wd}(h:fO dk w)(x:Ext S w w')(hS:¬ S dk):fO dk w':=by
 unfold fO;rw[x.aq dk h.lt hS];exact h
theorem Dm.facts{w w1:Wd}{rf:Loop}{dk l:Nat}(n:Dm w rf dk l w1):Ext No w w1/\w1.heap.size=w.heap.size+2/\dE l rf .ready none w1/\fO dk w1:=by
 obtain⟨rfl,rfl,rfl⟩:=n;refine⟨⟨rfl,rfl,rfl,?_,fun b hb _=>?_⟩,?_,?_,?_⟩
 .show w.heap.size<=((w.heap.push _).push _).size;rw[Array.size_push,Array.size_push];omega
 .show((w.heap.push _).push _)[b]? = _;rw[hH _ _ _ (by rw[Array.size_push];omega),hH _ _ _ hb]
 .show((w.heap.push _).push _).size=_;rw[Array.size_push,Array.size_push]
 .show((w.heap.push _).push _)[w.heap.size+1]? = _;rw[Array.getElem?_push,if_pos (by rw[Array.size_push])]
 .show((w.heap.push _).push _)[w.heap.size]? = _;rw[hH _ _ _ (by rw[Array.size_push];omega),Array.getElem?_push,if_pos rfl]
theorem US{w:Wd}{b off n:Nat}{zs vs:List Value}{T:TypeId}{K:Pw}(hb:w.heap[b]? = some (.cells zs.toArray T (0,0)))(hl:vs.length=n)(hz:off+n<=zs.length)(hv:∀v∈vs,aN v=true)
  (k:∀w',w'.heap[b]? = some (.cells (setL zs off vs).toArray T (0,0))->Ext (·=b) w w'->w'.heap.size=w.heap.size->K w'):List.length (α:=Value) vs=n/\jB w (Addr.mk b off none) vs K:=by
 refine⟨hl,zs.toArray,T,(0,0),hb,rfl,by simp only[List.size_toArray];omega,.inr (.inr (Nat.le_refl _)),hv,fun w2 hw=>?_⟩;have LO:gI w b (.cells (setL zs off vs).toArray T (0,0)) w2:=hw;exact k w2 (LO.get hb) LO.ext LO.size
end Go.V
namespace Go.Proofs.YtpjbalhhlaofmaaGreat
open Go.V
section
variable {w:Wd} {T:Nat->Option Nat} {m:bB} {M:Mm}
structure X6(w w':Wd)(T T':Nat->Option Nat)(m m':bB)(M M':Mm)(t:Int)(key val:List Int)(x:aL)(e:aH)(ps:List Rf):Prop where
 mem:aY w'.heap T' m' M'
 bm:m'.bm=m.bm
 tg:Tg w T T'
 ext:Ext (Ts T) w w'
 er:mG w'.heap x e
 ad9:e.key=key
 leaf:CN M'.f t e (key,val) ps
 iw:nW 1 0 e
 FP:mf M M' 5 [] ps
 aq:∀q,(x.k.aq=some q∨x.v.aq=some q)->w.heap.size<=q/\q < w'.heap.size/\T' q=none
set_option maxHeartbeats 4000000 in
theorem Dp{t:Int}{ks vs:Sl}{key val:List Int}{K:Sl->Sl->Int->Int->Int->Int->Int->Int->Int->Int->Pw}(R:aY w.heap T m M)(hk:cZ w.heap ks key)(hv:cZ w.heap vs val)(k8:B8 key)(v8:B8 val)(kl:1<=key.length/\key.length<=32)(vl:val.length<=1024)(hn:M.au.length<=1000000)
  (k:∀x e ps T' m' M' w',X6 w w' T T' m m' M M' t key val x e ps->K x.k x.v x.n x.ch.p x.ch.c x.ch.g x.cd.p x.cd.c x.cd.g 0 w'):fR (eW m) t ks vs w K:=by
 apply wo;have BA:=cZ.len hk;have Qh:=cZ.len hv
 have sup:∀q,w.heap.size<=q->T q=none:=fun q hq=>by
  cases h:T q with
  | none=>rfl
  | some t=>have:=R.sup q (by rw[h];simp);omega
 refine ag.mk fun b w1 n1=>ag.mk fun b1 w2 n2=>ag.mk fun b2 w3 n3=>?_
 have hb:=n1.at_;have gE:=n2.at_;have lO:=n3.at_;have z1:=n1.size;have z2:=n2.size;have z3:=n3.size;have gp:Ext No w w3:=(n1.ext.no n2.ext).no n3.ext;have g3:=ad (ad n1.get n2.ext) n3.ext;have gG:=ad n2.get n3.ext;have Mn:=n3.get;refine lj (Rd.no hk gp) (by omega) fun kS w4 kO x4=>?_
 refine bA (vs:=aL.cs ⟨kS,⟨none,0,0⟩,0,.z,.z⟩) rfl rfl (jA _) fun b3 w6 X7 xB z6 x6=>?_
 have uK:Ext No w3 w6:=x4.no x6;have s4:=x4.size;have kO6:=kO.no x6;have kb:∀q,kS.aq=some q->w3.heap.size<=q/\q < w4.heap.size:=fun q hq=>kO.lt hq
 rw[Qh];refine If.dec (fun h64=>?_) fun h64=>?_
 .refine lj (Rd.no hv (gp.no uK)) (by omega) fun vS w7 vO x7=>aF.mk (ad X7 x7) (by simp[aL.cs]) rfl fun w8 h8=>?_
  have g8:w8.heap[b3]? = some (.cells (aL.cs ⟨kS,vS,0,.z,.z⟩).toArray 151 (0,0)):=h8.get (ad X7 x7);have x8:Ext (·=b3) w7 w8:=h8.ext;have z8:w8.heap.size=w7.heap.size:=h8.size;have s7:=x7.size;have vb:∀q,vS.aq=some q->w6.heap.size<=q/\q < w7.heap.size:=fun q hq=>vO.lt hq
  refine fx g8 (cK (af (ad gG (uK.no x7)) x8 (by omega)) rfl rfl (jA _) fun w9 g9 x9 z9=>?_);refine aF.b1 (af (af (ad Mn (uK.no x7)) x8 (by omega)) x9 (by omega)) rfl fun dA AV=>?_
  have dR:Ext (·=b2) w9 dA:=AV.ext;have LS:dA.heap.size=w9.heap.size:=AV.size;refine fx (x:=⟨kS,vS,0,.z,.z⟩) (af g9 dR (by omega)) ⟨_,Cell.ai (AV.get (af (af (ad Mn (uK.no x7)) x8 (by omega)) x9 (by omega))) rfl,?_⟩;have uI:Ext (fun q=>q=b3∨q=b1∨q=b2) w7 dA:=((x8.mono fun _ _ h=> .inl h).trans x9 fun _ _ h=> .inr (.inl h)).trans dR fun _ _ h=> .inr (.inr h)
  have xf:Ext No w dA:=((gp.no uK).no x7).trans uI fun q hq h=>by omega
  refine k ⟨kS,vS,0,.z,.z⟩ ⟨key,val,0,.z,.z⟩ [] T m M dA ⟨R.no xf,rfl,fun _ _=>rfl,xf.aG,⟨?_,?_,rfl,rfl,rfl,k8,v8,⟨by show(-9223372036854775808:Int)<=0;decide,by show(0:Int)<=9223372036854775807;decide⟩,by show Rf.z.ok;decide,by show Rf.z.ok;decide⟩,rfl,⟨rfl,by simp⟩,?_,(mf.refl M).as (by omega) (by simp) (by simp),fun q hq=>?_⟩
  .exact(kO6.rd.no x7).ext uI fun a q ha hq h=>by have:=kb q (by simp[Sl.aq,ha,hq]);omega
  .exact vO.rd.ext uI fun a q ha hq h=>by have:=vb q (by simp[Sl.aq,ha,hq]);omega
  .exact⟨by unfold nf;rw[if_neg (by decide)];simp only;omega,by simp;omega⟩
  .have:=uI.size;rcases hq with hq | hq
   .have:=kb q hq;exact⟨by omega,by omega,sup q (by omega)⟩
   .have:=vb q hq;exact⟨by omega,by omega,sup q (by omega)⟩
 .refine Sm (Rd.no hv (gp.no uK)) vl fun sl ps dg rsl K5 Qo K0 IZ jw fY=>If.bne (fun h=>(h rfl).elim) fun _=>?_
  apply mX;refine ag.mk fun bv c_ Qs=>?_
  intro rf dk lp dU eT Lw;obtain⟨pH,Xw,aea,aeb⟩:=eT.facts;have VZ:=eT.d;have hlp:=eT.l;have ON:=Qs.at_;have TA:=Qs.size;have Ui:=fY.size;have UT:Ext No w6 dU:=(fY.no Qs.ext).no pH;have Wj:Ext No dg dU:=Qs.ext.no pH;have X8:Ext No w dU:=(gp.no uK).no UT;have X9:Ext No w3 dU:=uK.no UT
  let S:Nat->Prop:=fun q=>Ts T q∨q=b3∨q=lp
  have nS:∀{q},w.heap.size<=q->q≠b3->q≠lp->¬ S q:=fun {q} h1 h2 h3 h=>by
   rcases h with h | h | h
   .exact h (sup q h1)
   .exact h2 h
   .exact h3 h
  have ZT:ps.length<=5:=by omega
  have n8:∀p∈ps,B8 p.2:=fun p hp=>v8.sub fun y hy=>by rw[<- K0];exact List.mem_flatten.2 ⟨p.2,List.mem_map.2 ⟨p,hp,rfl⟩,hy⟩
  let J:Nat->Pw:=fun j w'=>∃(M':Mm) (T':Nat->Option Nat) (m':bB) (cs:List (Rf×List Int)) (r:Rf),aY w'.heap T' m' M'/\m'.bm=m.bm/\Tg dU T T'/\Ext S dU w'/\mf M M' j [] (cs.map Prod.fst)/\jl M'.f t r cs/\cs.map Prod.snd=(ps.drop (ps.length - j)).map Prod.snd/\j<=ps.length/\
   w'.heap[b3]? = some (.cells (aL.cs ⟨kS,⟨none,0,0⟩,0,r,.z⟩).toArray 151 (0,0))/\dE lp rf .ready none w'
  refine lW (c0:=A1 bv) (EF (J:=J) (sl:=sl) (ps:=ps) (by omega) (fun j w' hJ=>?_) ?_ (fun j w1' hj K' hJ hK'=>?_) fun w' hJ=>?_)
  .obtain⟨M',T',m',cs,r,_,_,_,xJ,_⟩:=hJ;refine⟨af (ad Qs.get pH) xJ (nS (by omega) (by omega) (by omega)),(rsl.no Wj).ext xJ fun a q ha hq=>?_⟩;have:=Qo q (by simp[Sl.aq,ha,hq]);exact nS (by omega) (by omega) (by omega)
  .exact⟨M,T,m,[],.z,R.no X8,rfl,fun _ _=>rfl,Ext.refl _ _,(mf.refl M),.nil,by simp,by omega,ad X7 UT,aea⟩
  .obtain⟨M',T',m',cs,r,RJ,Aj,UU,xJ,cJ,Z1,eJ,fh,gJ,X_⟩:=hJ;have hi:ps.length - 1 - j < ps.length:=by omega
   have ss:cs.length=j:=by have:=congrArg List.length eJ;simp only[List.length_map,List.length_drop]at this;omega
   generalize Qr:aP lp rf .busy none w1'=Sn at *;have cL:=X_.lt;have x2:Ext (fun q=>q=lp) w1' Sn:=Qr ▸ eH;have st2:dE lp rf .busy none Sn:=Qr ▸ X_.put;have z2':Sn.heap.size=w1'.heap.size:=Qr ▸ lH;have nlp:T' lp=none:=by rw[UU lp (by omega)];exact sup lp (by omega)
   have Ya:T' b3=none:=by rw[UU b3 (by omega)];exact sup b3 (by omega)
   have R2:aY Sn.heap T' m' M':=RJ.ext x2 fun q hq=>by rw[hq];exact nlp
   have g2:=af gJ x2 (by omega);have hpp:=K5 _ (List.getElem_mem hi);have xJ2:Ext S dU Sn:=xJ.trans x2 fun _ _ h=> .inr (.inr h)
   have pr:cZ Sn.heap ps[ps.length - 1 - j].1 ps[ps.length - 1 - j].2:=(Rd.no hpp.1 Wj).ext xJ2 fun a q ha hq=>by
    have:=hpp.2 q (by simp[Sl.aq,ha,hq]);exact nS (by omega) (by omega) (by omega)
   have Po:=jw _ hi;refine Lw _ ps[ps.length - 1 - j].1 w1' K' X_ ⟨X_,?_⟩;rw[Qr];refine⟨_,Cell.ai g2 rfl,_,Cell.ai g2 rfl,_,Cell.ai g2 rfl,OM pr Po.1 Po.2.1 Z1.ok fun tS w3' tO Mv=>If.bne (fun h=>(h rfl).elim) fun _=>?_⟩;have Yb:=af (ad g3 X9) xJ2 (nS (by omega) (by omega) (by omega));have h8p:B8 (BE ps[ps.length - 1 - j].2 r):=Xz (n8 _ (List.getElem_mem hi));have abp:M'.au.length<=1048576:=by have:=cJ.len;omega
   have So:eW m=eW m':=by show Value.iface 47 (.pointer (some ⟨m.bm,0,none⟩))=Value.iface 47 (.pointer (some ⟨m'.bm,0,none⟩));rw[Aj]
   rw[So]at Yb;refine⟨_,Cell.ai (ad Yb Mv) rfl,_,Cell.ai (ad Yb Mv) rfl,tv (zY (R2.no Mv) tO.rd h8p abp (fun n T'' m'' w4' _ iD R4 HT Iy EB=>?_) fun w4' bC _=>(bC (Nx Po.2.1)).elim)⟩;have g4:=af (ad g2 Mv) EB (fun h=>h Ya);have agD:=xJ.size;have s3':=Mv.size;have s4':=EB.size;refine US (off:=3) g4 rfl (by simp[aL.cs]) (by simp[aN]) fun Z2 g5 x5a z5'=>If.bne (fun h=>(h rfl).elim) fun _=>?_
   have TL:Ext (·=b3) w4' Z2:=x5a;have g5:Z2.heap[b3]? = _:=g5;have st5:dE lp rf .busy none Z2:=((st2.ext Mv (fun h=>h)).ext EB (fun h=>h nlp)).ext TL (by omega);refine⟨st5,hK' _ ?_⟩;have xN:Ext (fun q=>q=lp) Z2 (aP lp rf .ready none Z2):=eH;have hTs:∀q,q < dU.heap.size->Ts T' q->Ts T q:=fun q hq h=>by rw[show Ts T' q=(T' q≠none) from rfl,UU q hq]at h;exact h
   have Dq:Ext S dU (aP lp rf .ready none Z2):=(((xJ2.no Mv).trans EB fun q hq h=> .inl (hTs q hq h)).trans TL fun q _ h=> .inr (.inl h)).trans xN fun q _ h=> .inr (.inr h)
   have Pp:Tg dU T T'':=fun q hq=>by rw[Iy q (by have:=xJ2.size;omega),UU q hq]
   have tV:=mf.put (M:=M') (n:=n) (t:=t) (k:=3) (v:=0) (pay:=BE ps[ps.length - 1 - j].2 r);have agE:=iD.lo;refine⟨Bm M' n t 3 0 (BE ps[ps.length - 1 - j].2 r),T'',m'',(⟨n,M'.aE,M'.gen⟩,ps[ps.length - 1 - j].2)::cs,⟨n,M'.aE,M'.gen⟩,(R4.ext TL fun q hq=>?_).ext xN fun q hq=>?_,HT.trans Aj,Pp,Dq,?_,?_,?_,by omega,af g5 xN (by omega),st5.put⟩
   .rw[hq,Pp b3 (by omega)];exact sup b3 (by omega)
   .rw[hq,Pp lp (by omega)];exact sup lp (by omega)
   .refine(cJ.trans tV).as (by omega) (by simp) fun q=>?_
    simp only[List.nil_append,List.map_cons,List.count_append,List.count_cons,List.count_nil];omega
   .refine .cons (fun h=>by have:=congrArg Rf.p h;simp only[Rf.z]at this;omega) ((JS R4 (qZ iD)).2) (qZ iD) Po.1 Po.2.1 (fun bC=>Po.2.2 ?_) (n8 _ (List.getElem_mem hi)) (Z1.cB (tV.cB fun q _=> .inl (by simp)));have:cs.length≠0:=fun h=>bC (List.eq_nil_of_length_eq_zero h)
    omega
   .rw[List.map_cons,eJ,show ps.length - j=ps.length - 1 - j+1 by omega,show ps.length - (j+1)=ps.length - 1 - j by omega,List.drop_eq_getElem_cons hi,List.map_cons]
  .obtain⟨M',T',m',cs,r,RJ,Aj,UU,xJ,cJ,Z1,eJ,fh,gJ,X_⟩:=hJ;refine .inr ⟨X_,?_⟩;generalize Qr:aP lp rf .exhausted none w'=Sn at *;have x2:Ext (fun q=>q=lp) w' Sn:=Qr ▸ eH;have z2':Sn.heap.size=w'.heap.size:=Qr ▸ lH;have cL:=X_.lt;have sJ:=xJ.size;have nlp:T' lp=none:=by rw[UU lp (by omega)];exact sup lp (by omega)
   have Ya:T' b3=none:=by rw[UU b3 (by omega)];exact sup b3 (by omega)
   have ss:cs.length=ps.length:=by have:=congrArg List.length eJ;simp only[List.length_map,List.length_drop]at this;omega
   rw[Nat.sub_self,List.drop_zero]at eJ;have gX:=af gJ x2 (by omega);refine aF.mk gX (by simp[aL.cs]) rfl fun fM TC=>?_
   have Nu:fM.heap[b3]? = some (.cells (aL.cs ⟨kS,⟨none,0,0⟩,val.length,r,.z⟩).toArray 151 (0,0)):=TC.get gX;have vM:Ext (·=b3) Sn fM:=TC.ext;have z25:fM.heap.size=Sn.heap.size:=TC.size;have UW:Ext S dU fM:=(xJ.trans x2 fun _ _ h=> .inr (.inr h)).trans vM fun _ _ h=> .inr (.inl h)
   refine fx Nu (cK (af (ad gG X9) UW (nS (by omega) (by omega) (by omega))) rfl rfl (jA _) fun Fs NM uX z26=>?_);have g2b:=af (af (ad Mn X9) UW (nS (by omega) (by omega) (by omega))) uX (by omega);refine aF.b1 g2b rfl fun yY h27=>?_
   have Qt:Ext (·=b2) Fs yY:=h27.ext;have z27:yY.heap.size=Fs.heap.size:=h27.size
   have d27:fO dk yY:=(((aeb.ext UW (nS (by omega) (by omega) (by omega))).ext uX (by omega)).ext Qt (by omega))
   refine⟨d27,?_⟩;generalize aec:bJ dk yY=Bc at *;have Fy:Ext (fun q=>q=dk) yY Bc:=aec ▸ oX;have Sr:Ext (fun q=>q=b1∨q=b2∨q=dk) fM Bc:=((uX.mono fun _ _ h=> .inl h).trans Qt fun _ _ h=> .inr (.inl h)).trans Fy fun _ _ h=> .inr (.inr h)
   have s28:=Sr.size;refine fx (x:=⟨kS,⟨none,0,0⟩,val.length,r,.z⟩) (af (af NM Qt (by omega)) Fy (by omega)) ⟨_,Cell.ai (af (h27.get g2b) Fy (by omega)) rfl,?_⟩;have xf:Ext (fun q=>Ts T q∨q=b3∨q=lp∨q=b1∨q=b2∨q=dk) dU Bc:=(UW.mono fun q _ h=>h.imp id fun h=>h.imp id .inl).trans Sr fun q _ h=> .inr (.inr (.inr h))
   have aed:cs≠[]:=fun h=>by rw[h]at ss;simp at ss;omega
   have Yc:r ≠ .z:=by
    cases Z1 with
    | nil=>exact(aed rfl).elim
    | cons hz=>exact hz
   have VR:Mg cs=val:=by show(cs.map Prod.snd).flatten=val;rw[eJ,K0]
   have tgn:∀q,w.heap.size<=q->q < dU.heap.size->T' q=none:=fun q h1 h2=>by rw[UU q h2];exact sup q h1
   have V1:=X8.size;refine k ⟨kS,⟨none,0,0⟩,val.length,r,.z⟩ ⟨key,[],val.length,r,.z⟩ (cs.map Prod.fst) T' m' M' Bc ⟨?_,Aj,fun q hq=>UU q (by omega),?_,⟨?_,Rd.nil _ _,rfl,rfl,rfl,k8,B8.nil,⟨by show(-9223372036854775808:Int)<=val.length;omega,by show(val.length:Int)<=9223372036854775807;omega⟩,Z1.ok,by show Rf.z.ok;decide⟩,rfl,⟨rfl,?_⟩,?_,cJ.as (by omega) (by simp) (by simp),fun q hq=>?_⟩
   .refine(((RJ.ext x2 fun q hq=>by rw[hq];exact nlp).ext vM fun q hq=>by rw[hq];exact Ya)).ext Sr fun q hq=>?_
    exact tgn q (by omega) (by omega)
   .refine(X8.aG).trans xf fun q hq h=>?_
    rcases h with h | h
    .exact h
    .omega
   .refine(kO6.rd.no UT).ext xf fun a q ha hq h=>?_
    have:=kb q (by simp[Sl.aq,ha,hq]);rcases h with h | h
    .exact h (sup q (by omega))
    .omega
   .rw[if_neg (by simp only;omega)];exact⟨rfl,cs,Z1,VR,rfl⟩
   .refine⟨by unfold nf;rw[if_neg (by decide)];simp only;omega,?_⟩;rw[if_neg (by decide),if_neg (by simp only;omega)];exact⟨rfl,by simp only;omega,by simp only;omega,Yc,rfl⟩
   .rcases hq with hq | hq
    .have:=kb q hq;have:=xf.size;exact⟨by omega,by omega,tgn q (by omega) (by omega)⟩
    .simp[Sl.aq]at hq
end
end Go.Proofs.YtpjbalhhlaofmaaGreat
namespace Go.V
def kof:Value->ByteArray
 | .string s=>s
 | _=>ByteArray.empty
theorem born_inj{l:List MapEntry}(hn:(l.map (·.born)).Nodup){e e':MapEntry}(h:e∈l)(h':e'∈l)(hb:e.born=e'.born):e=e':=by
 induction l with
 | nil=>cases h
 | cons x l ih=>
  simp only[List.map_cons,List.nodup_cons]at hn;rcases List.mem_cons.1 h with h1 | h1 <;> rcases List.mem_cons.1 h' with h2 | h2
  .rw[h1,h2]
  .exact absurd (List.mem_map.2 ⟨e',h2,by rw[<- hb,h1]⟩) hn.1
  .exact absurd (List.mem_map.2 ⟨e,h1,by rw[hb,h2]⟩) hn.1
  .exact ih hn.2 h1 h2
theorem eX{α β:Type}(f:α->β){l:List α}(h:(l.map f).Nodup):l.Nodup:=List.Pairwise.of_map f (fun a b h e=>h (by rw[e])) h
end Go.V
namespace Go.Proofs.YtpjbalhhlaofmaaGreat
open Go.V
section
variable {w:Wd}
theorem Yd:∃kt et,Tryz.prog.underlying 98=some (.map kt et)/\Tryz.prog.underlying kt=some .string:=⟨9,52,by kernel_rfl,by kernel_rfl⟩
theorem MC{bc r:Nat}{m:List (ByteArray×Value)}{Inv:Nat->List ByteArray->Pw}{yield:Value}{K:Pw}
  (g:w.heap[bc]? = some (.cells [.map (some r)].toArray 98 (0,0))) (hm:tF w.heap Value.string r m) (h0:∀w',Ext No w w'->w'.heap.size=w.heap.size+1->Inv w.heap.size [] w')
  (hit:∀it ks w' kC,Inv it ks w'->Ext (·=it) w' kC->Inv it ks kC)
  (step:∀it ks k w' Kr,ks.length < m.length->it < w'.heap.size->Inv it ks w'->(∀kC,Inv it (ks++[k]) kC->kC.heap[it]? = w'.heap[it]?->kC.heap[r]? = w'.heap[r]?->Kr true kC)->aC pz true yield [.string k] [.one .bool] Kr cf w')
  (k:∀it ks w',ks.Perm (m.map Prod.fst)->Inv it ks w'->K w'):bG yield ⟨bc,0,none⟩ w K:=by
 apply fi;obtain⟨kt,et,ht,_⟩:=Yd;obtain⟨es,clock,hr,he,hB⟩:=hm;obtain⟨w1,vJ,eT⟩:=yU (P:=pz) ht hr;have so:es.toList.length=m.length:=by have:=congrArg List.length he;simpa using this
 have Ye:r < w.heap.size:=blt hr;have T5:=eT.size;refine⟨some r,Cell.ai g rfl,some ⟨w.heap.size,0,none⟩,w1,vJ,?_⟩;refine⟨fun q w'=>∃seen:List MapEntry,q=es.toList.length - seen.length/\(∀e∈seen,e∈es.toList)/\(seen.map (·.born)).Nodup/\w'.heap[w.heap.size]? = some (.mapIter (some r) clock (seen.map (·.born)).toArray clock)/\w'.heap[r]? = some (.map es clock)/\Inv w.heap.size (seen.map fun e=>kof e.key) w',⟨_,[],rfl,by simp,by simp,eT.get,ad hr eT.ext,h0 w1 eT.ext eT.size⟩,?_⟩;rintro _ m0 w2 ⟨seen,hq,jr,sy,hi,Zz,hI⟩
 have abq:seen.length<=es.toList.length:=by
  have h1:seen.Nodup:=eX _ sy;exact List.Nodup.length_le_of_subset h1 jr
 rcases CD (P:=pz) hi Zz hB with⟨ff,w',tW,hx⟩ | ⟨e,K7,Kt,w',tW,iv,hx⟩
 .refine .inl ⟨w',tW,k w.heap.size _ w' ?_ (hit _ _ _ _ hI (hx.aG))⟩
  have hp:seen.Perm es.toList:=(List.perm_ext_iff_of_nodup (eX _ sy) (eX _ hB.1)).2 fun x=>⟨jr x,fun Fb=>by
   have:=ff x Fb;simp only[List.mem_map]at this;obtain⟨y,hy,hb⟩:=this
   exact born_inj hB.1 (jr y hy) Fb hb ▸ hy⟩
  have h2:es.toList.map (fun e=>kof e.key)=m.map Prod.fst:=by
   have:=congrArg (List.map fun p:Value×Value=>kof p.1) he;simpa[List.map_map,Function.comp_def,kof] using this
  rw[<- h2];exact hp.map _
 .have Ss:w'.heap[r]? = some (.map es clock):=af Zz hx (by omega)
  have gN:∃s,e.key = .string s:=by
   have:(e.key,e.val)∈es.toList.map (fun e=>(e.key,e.val)):=List.mem_map.2 ⟨e,K7,rfl⟩;rw[he]at this;obtain⟨p,_,hp⟩:=List.mem_map.1 this;exact⟨p.1,(congrArg Prod.fst hp).symm⟩
  obtain⟨ks,Su⟩:=gN
  have jw:seen.length < es.toList.length:=by
   have h1:(e::seen).Nodup:=List.nodup_cons.2 ⟨fun h=>Kt (by simpa using List.mem_map.2 ⟨e,h,rfl⟩),eX _ sy⟩
   have:=List.Nodup.length_le_of_subset h1 (l₂:=es.toList) fun x hx=>by
    rcases List.mem_cons.1 hx with h | h
    .rw[h];exact K7
    .exact jr x h
   simp only[List.length_cons]at this;omega
  refine .inr ⟨e.key,e.val,w',tW,e.key,e.val,w',yV iv Ss hB K7,?_⟩;rw[Su];refine step _ _ ks w' _ (by rw[List.length_map];omega) (blt iv) (hit _ _ _ _ hI hx) fun kC VG h1 h2=>If.not (If.yes ?_)
  refine⟨_,?_,seen++[e],rfl,fun x hx=>?_,?_,?_,by rw[h2];exact Ss,by simpa[Su,kof] using VG⟩
  .simp only[List.length_append,List.length_cons,List.length_nil];omega
  .rcases List.mem_append.1 hx with h | h
   .exact jr x h
   .rw[List.mem_singleton]at h;rw[h];exact K7
  .rw[List.map_append];refine List.nodup_append.2 ⟨sy,by simp,fun a ha b hb=>?_⟩;simp only[List.map_cons,List.map_nil,List.mem_singleton]at hb;intro AU;exact Kt (by rw[AU,hb]at ha;simpa using ha)
  .rw[h1,iv];simp
theorem Bu{bc r:Nat}{m:List (ByteArray×Value)}{K:Sl->Pw}(g:w.heap[bc]? = some (.cells [.map (some r)].toArray 98 (0,0)))(hm:tF w.heap Value.string r m)(hl:m.length<=65535)
  (k:∀s ks w',ks.Perm (m.map Prod.fst)->aT w'.heap w.heap.size 9 1 s (strs ks)->Ext No w w'->K s w'):db ⟨none,0,0⟩ (.func (.func 84) #[] #[.pointer (some ⟨bc,0,none⟩)]) w K:=by
 apply kg;refine ag.mk fun b w1 n1=>?_
 have hb:=n1.at_;have z1:=n1.size;intro rf dk lp w2 eT Dr;obtain⟨gS,z2,hrf,hdf⟩:=eT.facts;have hlp:lp=w1.heap.size+1:=eT.l;have VZ:dk=w1.heap.size:=eT.d;have hZ:Ext No w w2:=n1.ext.no gS;have g2:=ad g hZ;have Yb:=ad n1.get gS;have hm2:=hm.ext hZ fun h=>h
 have Ye:r < w.heap.size:=by obtain⟨es,c,h,_⟩:=hm;exact blt h
 refine fj (MC (Inv:=fun it ks w'=>dE lp rf .ready none w'/\fO dk w'/\Ext No w w'/\∃s:Sl,w'.heap[b]? = some (.cells [.slice s.a s.len s.cap].toArray 100 (0,0))/\aT w'.heap (it+1) 9 1 s (strs ks)/\it=w2.heap.size) g2 hm2 (fun w' x' z'=>⟨hrf.ext x' fun h=>h,hdf.ext x' fun h=>h,hZ.no x',⟨none,0,0⟩,ad Yb x',aT.nil _ _ _ _,rfl⟩) ?_ ?_ ?_)
 .rintro it ks w' kC ⟨h1,h2,h3,s,h4,h5,rfl⟩ x;exact⟨h1.ext x (by omega),h2.ext x (by omega),h3.trans x fun q hq h=>by have:=hZ.size;omega,s,af h4 x (by omega),h5.ext x fun q hq h=>by have:=h5.lt hq;omega,rfl⟩
 .rintro it ks y w' Kr Su cL ⟨h1,h2,h3,s,h4,h5,rfl⟩ hk;have hle:=h3.size;have slt:∀q,s.aq=some q->w2.heap.size+1<=q/\q < w'.heap.size:=fun q hq=>h5.lt hq
  have xb:Ext (·=lp) w' (aP lp rf .busy none w'):=eH;have zb:(aP lp rf .busy none w').heap.size=w'.heap.size:=lH;refine Dr y w' Kr h1 ⟨h1,s,Cell.ai (af h4 xb (by omega)) rfl,ag.mk fun b1 w4 n4=>?_⟩;have gE:=n4.at_;have z4:=n4.size;have x4:Ext (·=lp) w' w4:=xb.no n4.ext;have o4:=h5.ext x4 fun q hq h=>by have:=slt q hq;omega
  have g4:=af h4 x4 (by omega);have JF:=o4.len;simp only[List.length_map,Nat.mul_one]at JF;have oy:aT w4.heap (aP lp rf .busy none w').heap.size 9 1 ⟨some ⟨b1,0,none⟩,1,1⟩ [.string y]:=aT.new n4 rfl (by simp[aN]);refine LM o4 (by omega) oy.rd.src (by show(s.len+1) * 16<=_;omega) fun s1 w5 o5 l5 x5 oR=>?_
  have z5:=x5.size;have Ku:Ext (fun q=>s.aq=some q) w4 w5:=x5;have g5:=af g4 Ku fun h=>by have:=slt b h;omega
  refine aF.mk g5 (by simp) rfl fun w6 h6=>?_
  have xN:Ext (·=b) w5 w6:=h6.ext;have z6:=xN.size;have Eu:Ext (fun q=>q=lp∨s.aq=some q∨q=b) w' w6:=((x4.mono fun _ _ h=> .inl h).trans Ku fun _ _ h=> .inr (.inl h)).trans xN fun _ _ h=> .inr (.inr h)
  have Sv:dE lp rf .busy none w6:=by
   have ha:dE lp rf .busy none (aP lp rf .busy none w'):=h1.put;exact(((ha.ext n4.ext fun h=>h).ext Ku fun h=>by have:=slt lp h;omega).ext xN (by omega))
  have Yf:Ext (·=lp) w6 (aP lp rf .ready none w6):=eH;have Dq:Ext (fun q=>q=lp∨s.aq=some q∨q=b) w' (aP lp rf .ready none w6):=Eu.trans Yf fun _ _ h=> .inl h
  have Wk:∀q,s1.aq=some q->w2.heap.size+1<=q:=fun q hq=>(o5.lt hq).1
  refine⟨Sv,hk _ ⟨Sv.put,h2.ext Dq fun h=>?_,h3.trans Dq fun q hq h=>?_,s1,af (h6.get g5) Yf (by omega),?_,rfl⟩ (Dq.aq _ cL fun h=>?_) (Dq.aq _ (by omega) fun h=>?_)⟩
  .rcases h with h | h | h
   .omega
   .have:=slt dk h;omega
   .omega
  .rcases h with h | h | h
   .omega
   .have:=slt q h;omega
   .omega
  .have o6:=((o5.ext xN fun q hq h=>by have:=Wk q hq;omega).ext Yf fun q hq h=>by have:=Wk q hq;omega)
   rw[show strs (ks++[y])=strs ks++[Value.string y] by simp];exact o6
  .rcases h with h | h | h
   .omega
   .have:=slt _ h;omega
   .omega
  .rcases h with h | h | h
   .omega
   .have:=slt _ h;omega
   .omega
 .rintro it ks w' hp ⟨h1,h2,h3,s,h4,h5,rfl⟩;have xp:Ext (·=lp) w' (aP lp rf .exhausted none w'):=eH;have xd:Ext (·=dk) (aP lp rf .exhausted none w') (bJ dk (aP lp rf .exhausted none w')):=oX;refine⟨h1,s,Cell.ai (af h4 xp (by omega)) rfl,h2.ext xp (by omega),k s ks _ hp ?_ ?_⟩
  .exact(((h5.mono (by omega)).ext xp fun q hq h=>by have:=h5.lt hq;omega).ext xd fun q hq h=>by have:=h5.lt hq;omega)
  .exact(h3.trans xp fun q hq h=>by omega).trans xd fun q hq h=>by omega
end
end Go.Proofs.YtpjbalhhlaofmaaGreat
namespace Go.V
theorem Ds(k:List Int)(o:Option (List Int)):kH k o []=(o.map fun v=>(k,v)).toList:=by simp[kH,kvLo,kvHi]
theorem Sw(k:List Int)(o:Option (List Int))(v:List Int):kH k o [(k,v)]=(o.map fun v=>(k,v)).toList:=by
 have h:decide (bW k k)=false:=decide_eq_false fun h=>h.irrefl
 simp[kH,kvLo,kvHi,h]
theorem Ak{f:bH}{t:Int}{e:aH}{kv:KV}{ps:List Rf}{i:Int}(h:CN f t e kv ps)(he:nW 1 i e):∃cs,jl f t e.ch cs/\cs.map Prod.fst=ps/\cs.length<=5:=by
 have h2:=he.2;rw[if_neg (by decide)]at h2;obtain⟨_,h2⟩:=h2;have h3:=h.2;split at h3
 .rename_i h0;rw[if_pos h0]at h2;refine⟨[],?_,by rw[h3.2];rfl,by simp⟩;rw[h2.1];exact .nil
 .rename_i h0;rw[if_neg h0]at h2;obtain⟨hn,cs,hc,VR,K5⟩:=h3;obtain⟨_,c2,_⟩:=Go.Proofs.YtpjbalhhlaofmaaGreat.tJ hc;refine⟨cs,hc,K5,?_⟩;rw[VR]at c2;omega
structure EG(w:Wd)(T:Nat->Option Nat)(oK oV:Sl)(key val:List Int):Prop where
 kR:Rd w.heap oK 1 (key.map (Value.int .u8))
 vR:Rd w.heap oV 1 (val.map (Value.int .u8))
 k8:B8 key
 v8:B8 val
 kl:1<=key.length/\key.length<=32
 vl:val.length<=1024
 ku:key≠[]->∀q,oK.aq=some q->T q=none
 vu:val≠[]->∀q,oV.aq=some q->T q=none
theorem Rd.Kv{S:Nat->Prop}{w w':Wd}{s:Sl}{l:List Int}(h:Rd w.heap s 1 (l.map (Value.int .u8)))(x:Ext S w w')(hS:l≠[]->∀q,q < w.heap.size->s.aq=some q->¬ S q):Rd w'.heap s 1 (l.map (Value.int .u8)):=by
 rcases Classical.em (l=[]) with h2 | h2
 .rw[h2]at h ⊢;exact⟨h.len,h.cap,fun h=>(h rfl).elim,h.cells⟩
 .refine h.ext x fun a q ha hq=>?_
  have h1:s.aq=some q:=by simp[Sl.aq,ha,hq]
  exact hS h2 q (h.lt (by simpa using h2) h1) h1
theorem EG.ext{S:Nat->Prop}{w w':Wd}{T:Nat->Option Nat}{oK oV:Sl}{key val:List Int}(o:EG w T oK oV key val)(x:Ext S w w')(hS:∀q,q < w.heap.size->S q->T q≠none):EG w' T oK oV key val:=
 ⟨o.kR.Kv x fun hn q hl hq h=>hS q hl h (o.ku hn q hq),o.vR.Kv x fun hn q hl hq h=>hS q hl h (o.vu hn q hq),o.k8,o.v8,o.kl,o.vl,o.ku,o.vu⟩
abbrev K8(d:Bool)(val:List Int):Option (List Int):=if d then none else some val
structure abr(base:Nat)(w w':Wd)(T T':Nat->Option Nat)(m m':bB)(M M':Mm)(t:Int)(lev:Nat)(Kw:List KV)(ps cU:List Rf)(sl:Sl)(ls:List oT):Prop where
 mem:aY w'.heap T' m' M'
 bm:m'.bm=m.bm
 tg:Tg w T T'
 ext:Ext (fun q=>Ts T q∨base<=q) w w'
 lm:dq w'.heap (fun q=>base<=q/\T' q=none) (aO lev) lev sl ls
 lp:jX M'.f t lev (bf ls) Kw cU
 FP:mf M M' (5+2 * lev) ps cU
theorem NQ(lev:Nat):(if ((lev:Nat):Int)=0 then(1:Int) else 2)=aO lev:=by
 unfold aO;split <;> split <;> omega
theorem aY.iA{h:Array Obj}{T:Nat->Option Nat}{m:bB}{M:Mm}(R:aY h T m M){q:Nat}(hq:h.size<=q):T q=none:=by
 cases e:T q with
 | none=>rfl
 | some t=>have:=R.sup q (by rw[e];simp);omega
end Go.V
namespace Go.Proofs.YtpjbalhhlaofmaaGreat
open Go.V
def HU(t:Int)(lev:Nat):Prop:=∀{w:Wd}{T:Nat->Option Nat}{m:bB}{M:Mm}{r:Rf}{kvs:List KV}{ps:List Rf}{oK oV:Sl}{key val:List Int}{d:Bool}{K:Sl->Int->Pw},aY w.heap T m M->bu M.f t lev r kvs ps->Sub ps M->EG w T oK oV key val->M.au.length<=1000000->
 (∀sl ls cU T' m' M' w',abr w.heap.size w w' T T' m m' M M' t lev (kH key (K8 d val) kvs) ps cU sl ls->K sl 0 w')->fS (eW m) t r.p r.c r.g lev oK oV d w K
def Kx(t:Int)(lev:Nat):Prop:=∀{w:Wd}{T:Nat->Option Nat}{m:bB}{M:Mm}{base:Nat}{s:Sl}{L:List (aL×aH)}{kvs:List KV}{ps:List Rf}{oK oV:Sl}{key val:List Int}{d:Bool}{K:Sl->Int->Pw},aY w.heap T m M->kQ w.heap (fun q=>base<=q/\T q=none) s L->base<=w.heap.size->
 aJ 2 ((lev+1:Nat):Int) (ents L)->(wr 2 ((lev+1:Nat):Int) (ents L)).length<=224->sS (ents L)->2<=L.length->aM (bu M.f t lev) (ents L) kvs ps->Sub ps M->EG w T oK oV key val->M.au.length<=1000000->
 (∀sl ls cU T' m' M' w',abr base w w' T T' m m' M M' t (lev+1) (kH key (K8 d val) kvs) ps cU sl ls->K sl 0 w')->ig (eW m) t 2 ((lev+1:Nat):Int) s oK oV d w K
section
variable {w:Wd} {T:Nat->Option Nat} {m:bB} {M:Mm}
set_option maxHeartbeats 4000000 in
theorem Dt{t:Int}:∀{lev:Nat},(∀l',lev=l'+1->Kx t l')->HU t lev:=by
 intro lev hbr w T m M r kvs ps oK oV key val d K R hT hs ho hn k;apply vn;obtain⟨l,cU,hN,bC,h2,hB,rfl⟩:=hT.open_;have sup:∀q,w.heap.size<=q->T q=none:=fun q hq=>R.iA hq
 refine ag.mk fun b w1 n1=>ag.mk fun b1 w2 n2=>ag.mk fun b2 w3 n3=>?_
 have hb:=n1.at_;have gE:=n2.at_;have lO:=n3.at_;have z1:=n1.size;have z2:=n2.size;have z3:=n3.size;have gp:Ext No w w3:=(n1.ext.no n2.ext).no n3.ext;have g3:=ad (ad n1.get n2.ext) n3.ext;have gG:=ad n2.get n3.ext;have Mn:=n3.get;refine⟨_,Cell.ai g3 rfl,_,Cell.ai g3 rfl,_,Cell.ai gG rfl,_,Cell.ai gG rfl,_,Cell.ai gG rfl,_,Cell.ai gG rfl,?_⟩;have BA:bE ((lev:Nat):Int)=aO lev:=NQ lev;refine ug (R.no gp) (by rw[BA];exact hN) bC fun s L w4 oL eL x4=>ag.mk fun b3 w5 n5=>vU n5.get rfl fun w6 g6 x6 z6=>If.bne (fun h=>(h rfl).elim) fun _=>?_
 have xB:=n5.at_;have z5:=n5.size;have s4:=x4.size;have Eu:Ext No w4 w6:=n5.ext.trans x6 fun q hq h=>by omega
 have uK:Ext No w3 w6:=x4.no Eu;have AX:Ext No w w6:=gp.no uK;have oL6:iP w6.heap w3.heap.size s L:=oL.no Eu;have slt:∀q,s.aq=some q->q < b3:=fun q hq=>by have:=oL.own.lt hq;omega
 have hsr:=hs.mem (q:=r) List.mem_cons_self;obtain⟨d0,dc⟩:=mf.drop R.Bl hsr;refine⟨_,Cell.ai (ad g3 uK) rfl,_,Cell.ai (ad gG uK) rfl,_,Cell.ai (ad gG uK) rfl,_,Cell.ai (ad gG uK) rfl,mF (qV (r:=r) (R.no AX) fun w7 R7 x7=>?_)⟩;rw[d0];generalize hM1:(l_ M r).2=M1 at *;have nT:∀q,w.heap.size<=q->¬ Ts T q:=fun q hq h=>h (sup q hq)
 have g7:=af (ad g3 uK) x7 (nT b (by omega));have BF:=af (ad gG uK) x7 (nT b1 (by omega));have g27:=af (ad Mn uK) x7 (nT b2 (by omega));have UX:=af g6 x7 (nT b3 (by omega));have wA:Ext (Ts T) w w7:=AX.aG.trans x7 fun _ _ h=>h
 have ho7:EG w7 T oK oV key val:=ho.ext wA fun q _ h=>h
 have s7:=wA.size
 have Bq:∀{q},w.heap.size<=q->(w.heap.size<=q/\T q=none):=fun h=>⟨h,sup _ h⟩
 have nd7:kQ w7.heap (fun q=>w.heap.size<=q/\T q=none) s L:=(oL6.q fun q h _=>Bq (by omega)).ext x7 fun q hq _ h=>h hq.2
 have Al:Sub cU M1:=Sub.FP (a:=[r]) hs dc fun q=>Nat.le_refl _
 have Qg:∀q∈cU,q ∉ [r]:=fun q hq h=>Sub.apart (a:=[r]) R.Bl hs h hq
 have hB1:Body M1.f t lev l kvs cU:=hB.cB (dc.cB fun q hq=> .inl (Qg q hq));have IZ:=gk hN.short;have hL:=me eL;have DU:sS l:=hN.ok;have abt:M1.au.length<=1000000:=by have:=dc.len;omega
 refine If.bne (fun h=>(h rfl).elim) fun _=>⟨_,Cell.ai BF rfl,If.dec (fun s_=>?_) fun s_=>?_⟩
 .-- an inner node
  obtain⟨l',rfl⟩ : ∃l',lev=l'+1:=⟨lev - 1,by omega⟩
  have e2:bE (((l'+1:Nat)):Int)=2:=by rw[BA];exact if_neg (by omega)
  rw[e2]at UX;refine⟨_,Cell.ai g7 rfl,_,Cell.ai g7 rfl,oC UX ⟨_,Cell.ai g27 rfl,_,Cell.ai g27 rfl,_,Cell.ai g27 rfl,?_⟩⟩;have hN2:aJ 2 ((l'+1:Nat):Int) (ents L):=by rw[eL];exact hN.right
  refine hbr l' rfl R7 nd7 (by omega) hN2 (by rw[eL];exact hN.short) (by rw[eL];exact DU) (by rw[hL];exact h2 (by omega)) (by rw[eL];exact hB1) Al ho7 abt fun sl ls aee T' m' M' w8 A=>k sl ls aee T' m' M' w8 ⟨A.mem,A.bm,fun q hq=>A.tg q (by omega),?_,A.lm,A.lp,?_⟩
  .exact(wA.mono fun _ _ h=> .inl h).trans A.ext fun q _ h=>h
  .refine(dc.trans A.FP).as (by omega) (by simp) fun q=>?_
   simp only[List.count_append,List.count_cons,List.count_nil];omega
 .-- a leaf
  have h0:lev=0:=by omega
  subst h0;have e1:bE (((0:Nat)):Int)=1:=rfl;rw[e1]at UX;have hLf:cM M1.f t l kvs cU:=hB1;have hri:kT l:=fB.1 hN.right.ord;have Pq:vV l:=aJ.lef (lev:=0) hN.right;refine oC UX ⟨_,Cell.ai g27 rfl,find_spec nd7.nd ho7.kR ho.k8 (by omega) fun i fd w9 hf x9=>?_⟩;rw[eL]at hf;obtain⟨f1,f2,f3⟩:=RT hf hri;have agF:=hf.le;have R9:=R7.no x9;have g9:=ad g7 x9;have g29:=ad g27 x9;have g39:=ad UX x9;have TH:kQ w9.heap (fun q=>w.heap.size<=q/\T q=none/\q≠b3) s L:=(((oL.q (B:=fun q=>w.heap.size<=q/\T q=none/\q≠b3) fun q h h'=>⟨by omega,sup q (by omega),by omega⟩).ext (n5.ext.aG.trans (S:=fun q=>q=b3) x6 fun _ _ h=>h) fun q hq _ h=>hq.2.2 h).ext x7 fun q hq _ h=>h hq.2.1).no x9;have Mz:Ext (Ts T) w w9:=wA.no x9;have ho9:EG w9 T oK oV key val:=ho.ext Mz fun q _ h=>h
  have s9:=Mz.size
  -- the list ac4 the key
  have spl:∃ka km kb pa pm pb,cM M1.f t (l.take i) ka pa/\cM M1.f t (l.drop (if fd then i+1 else i)) kb pb/\kvs=ka++(km++kb)/\cU=pa++(pm++pb)/\kH key (K8 d val) km=((K8 d val).map fun v=>(key,v)).toList/\(fd=true->∃(hi:i < l.length) (kv:KV),CN M1.f t l[i] kv pm)/\(fd=false->pm=[]):=by
   cases fd with
   | false=>
    have e:l=l.take i++l.drop i:=(List.take_append_drop i l).symm;have h:=hLf;rw[e]at h;obtain⟨ka,kb,pa,pb,a1,a2,a3,a4⟩:=h.split;exact⟨ka,[],kb,pa,[],pb,a1,by simpa using a2,by simpa using a3,by simpa using a4,Ds _ _,fun h=>absurd h (by decide),fun _=>rfl⟩
   | true=>
    have hi:=f3 rfl
    have e:l=l.take i++([l[i]]++l.drop (i+1)):=by
     conv=>lhs;rw[<- List.take_append_drop i l,List.drop_eq_getElem_cons hi]
     rfl
    have h:=hLf;rw[e]at h;obtain⟨ka,k2,pa,p2,a1,a2,rfl,rfl⟩:=h.split;obtain⟨km,kb,pm,pb,b1',b2',rfl,rfl⟩:=a2.split
    cases b1' with
    | @cons _ _ kv agG p ps0 he NI=>
     cases NI
     refine⟨ka,[kv],kb,pa,p,pb,a1,by simpa using b2',by simp,by simp,?_,fun _=>⟨hi,kv,he⟩,fun h=>absurd h (by decide)⟩;have hk:kv.1=key:=by rw[<- he.1];exact(hf.eq.1 rfl).2
     obtain⟨kv1,kv2⟩:=kv;simp only at hk;subst hk;exact Sw _ _ _
  obtain⟨ka,km,kb,pa,pm,pb,sa,sb,rfl,rfl,hkm,hfd,aef⟩:=spl;have OY:∀x∈ka,bW x.1 key:=fun x hx=>by obtain⟨e,he,h⟩:=sa.mem hx;rw[<- h];exact f1 e he
  have hkb:∀x∈kb,bW key x.1:=fun x hx=>by obtain⟨e,he,h⟩:=sb.mem hx;rw[<- h];exact f2 e he
  have Yg:kH key (K8 d val) (ka++(km++kb))=ka++(((K8 d val).map fun v=>(key,v)).toList++kb):=by rw[xG OY hkb,hkm]
  have Yh:Sub pm M1:=Sub.left (Sub.right Al);have abu:¬ s.aq=some b3:=fun h=>by have:=slt b3 h;omega
  have BG:∀q,q < b3->w3.heap.size > q->¬ s.aq=some q:=fun q _ h2 h=>by have:=oL.own.lt h;omega
  have tB:∀{q},s.aq=some q->T q=none:=fun h=>(nd7.sb _ h).2
  have sw:∀{q},s.aq=some q->w.heap.size<=q:=fun h=>(nd7.sb _ h).1
  refine⟨fun w'=>∃(M2:Mm) (s2:Sl) (L2:List (aL×aH)),aY w'.heap T m M2/\Ext (fun q=>Ts T q∨s.aq=some q∨q=b3) w9 w'/\sg w'.heap b3 1 0 s2/\kQ w'.heap (fun q=>w.heap.size<=q/\T q=none/\q≠b3) s2 L2/\ents L2=l.take i++l.drop (if fd then i+1 else i)/\s2.aq=s.aq/\mf M1 M2 0 pm [],If.cases (fun Uz=>?_) (fun Uz=>?_),?_⟩
  .subst Uz;obtain⟨hi,kv,hE⟩:=hfd rfl;have NC:i < L.length:=by omega
   have hLi:L[i].2=l[i]:=by
    have:=congrArg (fun l=>l[i]?) eL;simp only[List.getElem?_map,List.getElem?_eq_getElem NC,List.getElem?_eq_getElem hi,Option.map_some,Option.some.injEq]at this;exact this
   have nl9:=TH.nd.len;obtain⟨cs,Oj,abv,ss⟩:=Ak hE (Pq.iw _ (List.getElem_mem hi));refine⟨Ext (Ts T) w9,(Ext.refl _ _).drew,_,ae.dQ (Cell.ai g9 rfl) (nT b (by omega)),_,ae.dQ (Cell.ai g9 rfl) (nT b (by omega)),s,ae.dQ (Cell.ai g39 rfl) (nT b3 (by omega)),Ix.elem TH.nd.rd (bX L) (by decide) (by omega) (by omega) fun bb o LU DT hc=>?_⟩;have BD:¬ Ts T bb:=fun h=>h (tB DT)
   simp only[Int.toNat_natCast]at LU hc;refine⟨_,ae.dQ (hc 0 _ rfl) BD,_,ae.dQ (hc 1 _ rfl) BD,_,ae.dQ (hc 2 _ rfl) BD,_,ae.dQ (hc 3 _ rfl) BD,_,ae.dQ (hc 4 _ rfl) BD,_,ae.dQ (hc 5 _ rfl) BD,_,ae.dQ (hc 6 _ rfl) BD,_,ae.dQ (hc 7 _ rfl) BD,_,ae.dQ (hc 8 _ rfl) BD,?_⟩;have er:=TH.nd.get LU;rw[hLi]at er
   refine Ks (w:=aa w9) R9 er.ch Oj ss (by rw[abv];exact Yh) fun M2 dA R10 c10 dR=>⟨dR.aj,If.bne (fun h=>(h rfl).elim) fun _=>?_⟩
   rw[abv]at c10;have uM:Ext (Ts T) w9 dA:=dR.aj;have UY:=af g39 uM (nT b3 (by omega));have XD:kQ dA.heap (fun q=>w.heap.size<=q/\T q=none/\q≠b3) s L:=TH.ext uM fun q hq _ h=>h hq.2.1
   refine⟨s,Cell.ai UY rfl,Ar.i64 (by omega) (Ah XD (by omega) (by simpa using NC) (by omega) fun s' dg aeg vH fY=>?_)⟩;have UZ:=af UY fY abu;refine aF.mk UZ (by simp) rfl fun eG K6=>?_
   have gS:Ext (·=b3) dg eG:=K6.ext;have xx:Ext (fun q=>s.aq=some q∨q=b3) dA eG:=(fY.mono fun _ _ h=> .inl h).trans gS fun _ _ h=> .inr h
   refine⟨M2,s',L.take i++L.drop (i+1),R10.ext xx fun q hq=>?_,(uM.mono fun _ _ h=> .inl h).trans xx fun _ _ h=> .inr h,K6.get UZ,?_,?_,vH,c10⟩
   .rcases hq with h | h
    .exact tB h
    .rw[h];exact sup b3 (by omega)
   .exact aeg.ext gS fun q hq _ h=>hq.2.2 h
   .show(L.take i++L.drop (i+1)).map Prod.snd=_;rw[List.map_append,List.map_take,List.map_drop,show L.map Prod.snd=l from eL,if_pos rfl]
  .subst Uz;refine⟨M1,s,L,R9,Ext.refl _ _,g39,TH,?_,rfl,?_⟩
   .rw[eL,if_neg (by decide),List.take_append_drop]
   .rw[aef rfl];exact mf.refl M1
  rintro _ cX ⟨M2,s2,L2,R13,eE,Sx,Yi,Wl,Ip,c2⟩;have s13:=eE.size;have agH:=blt Sx
  have nX:∀q,w.heap.size<=q->q < w3.heap.size->¬ (Ts T q∨s.aq=some q∨q=b3):=fun q h1 h2 h=>by
   rcases h with h | h | h
   .exact nT q h1 h
   .have:=oL.own.lt h;omega
   .omega
  have abw:=af g9 eE (nX b (by omega) (by omega));have Yj:=af g29 eE (nX b2 (by omega) (by omega))
  have Du:Ext (Ts T) w cX:=Mz.trans eE fun q hq h=>by
   rcases h with h | h | h
   .exact h
   .have:=sw h;omega
   .omega
  have abx:EG cX T oK oV key val:=ho.ext Du fun q _ h=>h
  have NR:M2.au.length<=1000000:=by have:=c2.len;omega
  have agI:∀{a b:List Rf},Sub (a++b) M1->(∀q∈pm,q∈a)->∀q∈b,q ∉ pm:=fun h h1 q hq h2=>Sub.apart R7.Bl h (h1 q h2) hq
  have kpa:iR M1.f M2.f pa:=c2.cB fun q hq=> .inl fun h=>by
   have h3:Sub (pa++(pm++pb)) M1:=Al;exact Sub.apart R7.Bl h3 hq (List.mem_append_left _ h)
  have kpb:iR M1.f M2.f pb:=c2.cB fun q hq=> .inl fun h=>Sub.apart (a:=pm) R7.Bl (Sub.right Al) h hq
  have sa2:=sa.cB kpa;have sb2:=sb.cB kpb;have aeh:L2.length=i+(l.drop (if fd then i+1 else i)).length:=by have:=congrArg List.length Wl;simp only[List.length_map,List.length_append,List.length_take]at this;omega
  have hdl:(l.drop (if fd then i+1 else i)).length<=l.length - i:=by rw[List.length_drop];split <;> omega
  have Wm:vV (l.take i++l.drop (if fd then i+1 else i)):=by
   cases fd with
   | false=>simpa using Pq
   | true=>
    have hi:=f3 rfl;refine vV.sub (b:=[l[i]]) ?_
    have e:l.take i++([l[i]]++l.drop (if true then i+1 else i))=l:=by
     rw[if_pos rfl]
     conv=>rhs;rw[<- List.take_append_drop i l,List.drop_eq_getElem_cons hi]
     rfl
    rw[e];exact Pq
  have Sy:sS (l.take i++l.drop (if fd then i+1 else i)):=DU.take.append fun e he=>DU e (List.mem_of_mem_drop he)
  have aei:szL 1 (l.take i++l.drop (if fd then i+1 else i))<=szL 1 l:=by
   rw[dJ];have h1:=uh 1 l i
   have h2:szL 1 (l.drop (if fd then i+1 else i))<=szL 1 (l.drop i):=by
    split
    .have:=uh 1 (l.drop i) 1;rw[List.drop_drop]at this;omega
    .exact Nat.le_refl _
   omega
  have Nl:=hN.short;rw[fA]at Nl;have agJ:3+szL 1 l<=224:=Nl;generalize JR:l.drop (if fd then i+1 else i)=lr at *
  have aby:∀{M':Mm}{ns:List Rf},mf M2 M' 5 [] ns->mf M M' (5+2 * 0) (r::(pa++(pm++pb))) (pa++(ns++pb)):=fun {M' ns} c=>by
   refine((dc.trans c2).trans c).as (by omega) (fun q hq=>?_) fun q=>?_
   .simp only[List.append_nil,List.singleton_append,List.mem_cons,List.mem_append]at hq ⊢;rcases hq with h | h
    .exact .inl h
    .exact .inr (.inr (.inl h))
   .simp only[List.count_append,List.count_cons,List.count_nil];omega
  refine⟨d,Cell.ai Yj rfl,?_⟩;rw[Yg]at k
  cases d with
  | true=>
   refine If.not (If.yes (oC Sx ?_));have aej:ents L2≠[]->aJ 1 0 (ents L2):=fun _=>by rw[Wl];exact Wm.right
   refine vY (B:=fun q=>w.heap.size<=q/\T q=none) (Yi.mono fun q _ h=>⟨h.1,h.2.1⟩) (fun q hq=>Bq (by omega)) aej (by omega) (fun hb=>?_) fun ls sl c_ lm lp gH=>?_
   .rw[fA,Wl]at hb;omega
   .rw[Wl]at lp;refine k sl ls (pa++([]++pb)) T m M2 c_ ⟨R13.no gH,rfl,fun _ _=>rfl,((Du.no gH).mono fun _ _ h=> .inl h),lm,iz.NG (lev:=0) lp Sy (show cM M2.f t (l.take i++lr) (ka++([]++kb)) (pa++([]++pb)) from cM.append sa2 sb2),aby ((mf.refl M2).as (by omega) (by simp) (by simp))⟩
  | false=>
   refine If.not (If.no ⟨_,Cell.ai abw rfl,_,Cell.ai abw rfl,_,Cell.ai Yj rfl,_,Cell.ai Yj rfl,?_⟩);refine Dp R13 abx.kR abx.vR ho.k8 ho.v8 ho.kl ho.vl NR fun x e psn T' m' M3 c_ St=>?_
   have s14:=St.ext.size;have Sz:∀q,c_.heap.size<=q->T' q=none:=fun q hq=>St.mem.iA hq
   have tT:∀q,q < cX.heap.size->T' q=T q:=St.tg
   refine bA (vs:=x.cs) rfl rfl (jA _) fun b4 oS wj Io z16 qX=>If.bne (fun h=>(h rfl).elim) fun _=>?_
   have Ps:=ad (af Sx St.ext (nT b3 (by omega))) qX;refine⟨s2,Cell.ai Ps rfl,fx wj (ag.mk fun b5 hU n17=>?_)⟩;have Qi:=n17.at_;have z17:=n17.size;have tL:Ext No c_ hU:=qX.no n17.ext
   have abz:kQ cX.heap (fun q=>w.heap.size<=q/\T' q=none/\q≠b3) s2 L2:=Yi.mono fun q h' h=>⟨h.1,by rw[tT q h'];exact h.2.1,h.2.2⟩
   have Mp:kQ hU.heap (fun q=>w.heap.size<=q/\T' q=none/\q≠b3) s2 L2:=(abz.ext St.ext fun q hq h' h=>h (by rw[<- tT q h'];exact hq.2.1)).no tL;have abA:∀q,s2.aq=some q->q < cX.heap.size:=fun q hq=>(Yi.own.lt hq).2
   have aek:Pa hU (fun q=>w.heap.size<=q/\T' q=none/\q≠b3) s2 ⟨some ⟨b5,0,none⟩,1,1⟩ [(x,e)]:=by
    refine⟨by have:=CR (y:=x) n17;simpa using this.mono (Nat.zero_le _),fun p hp=>?_,fun p hp q hq=>?_,fun q hq h=>?_⟩
    .rw[List.mem_singleton]at hp;subst hp;exact St.er.no tL
    .rw[List.mem_singleton]at hp;subst hp;have:=St.aq q hq;exact⟨⟨by omega,this.2.2,by omega⟩,by omega,fun h=>by have:=abA q h;omega⟩
    .simp[Sl.aq]at hq;have:=abA q h;omega
   refine Kg (i:=(i:Int)) Mp aek (by simp) (by omega) (by simp only[Int.toNat_natCast];omega) (by omega) (by simp) (fun q hq=>⟨by omega,Sz q (by omega),by omega⟩) fun s3 vK abB hs3 Bh=>?_
   rw[Int.toNat_natCast]at abB;have ael:¬ s2.aq=some b3:=fun h=>by rw[Ip]at h;exact abu h
   have abC:=af (ad Ps n17.ext) Bh ael;refine aF.mk abC (by simp) rfl fun yX h19=>?_
   have Ev:Ext (·=b3) vK yX:=h19.ext;have Yk:sg yX.heap b3 1 0 s3:=h19.get abC;have z19:yX.heap.size=vK.heap.size:=h19.size;have s18:=Bh.size;have aem:=abB.ext Ev fun q hq _ h=>hq.2.2 h
   have eL3:ents (L2.take i++([(x,e)]++L2.drop i))=l.take i++(e::lr):=by
    show(L2.take i++([(x,e)]++L2.drop i)).map Prod.snd=_;rw[List.map_append,List.map_append,List.map_take,List.map_drop,show L2.map Prod.snd=_ from Wl];have h1:(l.take i).length=i:=by rw[List.length_take];omega
    rw[List.take_left' h1,List.drop_left' h1];rfl
   have hke:e.key=key:=St.ad9;have Wn:vV (l.take i++(e::lr)):=Wm.insert St.iw (fun y hy=>by rw[hke];exact f1 y hy) (fun y hy=>by rw[hke];exact f2 y hy)
   have agK:(wr 1 0 (l.take i++(e::lr))).length<=323:=by
    have h1:=Mq St.iw;rw[fA,dJ,dC];rw[dJ]at aei;omega
   have nX2:∀{q},(s2.aq=some q∨q=b3)->T' q=none:=fun {q} h=>by
    rcases h with h | h
    .rw[Ip]at h;rw[tT q (by have:=oL.own.lt h;omega)];exact tB h
    .rw[h,tT b3 (by omega)];exact sup b3 (by omega)
   have Wo:Ext (fun q=>s2.aq=some q∨q=b3) hU yX:=(Bh.mono fun _ _ h=> .inl h).trans Ev fun _ _ h=> .inr h
   have R19:aY yX.heap T' m' M3:=(St.mem.no tL).ext Wo fun q hq=>nX2 hq
   have aen:sS (l.take i++(e::lr)):=(sS.take DU).append fun y hy=>by
    rcases List.mem_cons.1 hy with h | h
    .subst h;exact⟨⟨St.er.Ue,St.er.Ug⟩,St.er.k8,St.er.v8⟩
    .exact Sy y (List.mem_append_right _ h)
   refine oC Yk (vY (B:=fun q=>w.heap.size<=q/\T' q=none) (aem.mono fun q _ h=>⟨h.1,h.2.1⟩) (fun q hq=>⟨by omega,Sz q (by omega)⟩) (fun _=>by rw[eL3];exact Wn.right) (by simp only[List.length_append,List.length_take,List.length_cons,List.length_nil,List.length_drop];omega) (fun hb=>?_) fun ls sl pG lm lp uH=>?_)
   .rw[eL3]at hb ⊢;exact CV Wn.right hb (by omega)
   .rw[eL3]at lp;have ksa:iR M2.f M3.f pa:=St.FP.cB fun q _=> .inl (by simp)
    have ksb:iR M2.f M3.f pb:=St.FP.cB fun q _=> .inl (by simp)
    have abD:Ext (fun q=>Ts T q∨w.heap.size<=q) cX pG:=((St.ext.mono fun _ _ h=> .inl h).trans ((tL.aG).trans Wo fun _ _ h=>h) fun q hq h=> .inr (by
     rcases h with h | h
     .rw[Ip]at h;exact sw h
     .omega)).no uH
    refine k sl ls (pa++(psn++pb)) T' m' M3 pG ⟨R19.no uH,St.bm,fun q hq=>tT q (by omega),(Du.mono fun _ _ h=> .inl h).trans abD fun q _ h=>h,lm,iz.NG (lev:=0) lp aen (cM.append (sa2.cB ksa) (.cons ?_ (sb2.cB ksb))),aby St.FP⟩;exact St.leaf
end
section
variable {w:Wd} {T:Nat->Option Nat} {m:bB} {M:Mm}
def lI(b lN:Nat)(i:Int)(l first:Sl)(K:Sl->Int->Pw)(w:Wd):Prop:=
 ∃I0:Nat->Sl->Int->Pw,(∃m,I0 m ⟨none,0,0⟩ 0 w)/\∀(_:Env)(m0:Nat)(fresh:Sl)(Z3:Int)(qT:Wd),I0 m0 fresh Z3 qT->
 If (decide (Z3 < ((l.len:Int)))) (
 Ix l.a l.len Z3 4 fun U0=>
 ∃wi:Sl,Cell qT U0 (.slice wi.a wi.len wi.cap)/\
 ∃HN:Int,Cell qT (U0.add 1) (.int .u8 HN)/\
 ∃Pf:Int,Cell qT (U0.add 2) (.int .u8 Pf)/\
 ∃Bt:Sl,Cell qT (U0.add 3) (.slice Bt.a Bt.len Bt.cap)/\
 ag qT (.cells [.slice none 0 0,.int .u8 0,.int .u8 0,.slice none 0 0].toArray 209) fun b_6 Zy=>
 List.length (α:=Value) [.slice wi.a wi.len wi.cap,.int .u8 HN,.int .u8 Pf,.slice Bt.a Bt.len Bt.cap]=4/\jB Zy (Addr.mk b_6 0 none) [.slice wi.a wi.len wi.cap,.int .u8 HN,.int .u8 Pf,.slice Bt.a Bt.len Bt.cap] fun Ma=>
 ∃Sb:Value,Cell Ma (Addr.mk b 0 none) (Sb)/\
 ∃Sc:Int,Cell Ma ((Addr.mk b 0 none).add 1) (.int .u32 Sc)/\
 ∃Sd:Int,Cell Ma ((Addr.mk b_6 0 none).add 1) (.int .u8 Sd)/\
 ∃Se:Int,Cell Ma (((Addr.mk b_6 0 none).add 1).add 1) (.int .u8 Se)/\
 ∃U1:Sl,Cell Ma (((Addr.mk b_6 0 none).add 1).add 2) (.slice U1.a U1.len U1.cap)/\
 cv Sb Sc Sd Se U1 Ma fun Wp Wq Wr r03 Ws OH=>
 ag OH (.cells [.int .u32 0,.int .u64 0,.int .u16 0,.int .u8 0].toArray 30) fun b_7 w38=>
 List.length (α:=Value) [.int .u32 Wp,.int .u64 Wq,.int .u16 Wr,.int .u8 r03]=4/\jB w38 (Addr.mk b_7 0 none) [.int .u32 Wp,.int .u64 Wq,.int .u16 Wr,.int .u8 r03] fun yZ=>
 If (Ws != 0) (
 K ⟨none,0,0⟩ Ws yZ) (
 ∃xO:Sl,Cell yZ (Addr.mk b_6 0 none) (.slice xO.a xO.len xO.cap)/\
 ∃Yl:Int,Cell yZ (Addr.mk b_7 0 none) (.int .u32 Yl)/\
 ∃Ym:Int,Cell yZ ((Addr.mk b_7 0 none).add 1) (.int .u64 Ym)/\
 ∃Yn:Int,Cell yZ ((Addr.mk b_7 0 none).add 2) (.int .u16 Yn)/\
 ag yZ (.cells [.slice none 0 0,.slice none 0 0,.int .i64 0,.int .u32 0,.int .u64 0,.int .u16 0,.int .u32 0,.int .u64 0,.int .u16 0].toArray 151) fun CG Rl=>
 List.length (α:=Value) [.slice xO.a xO.len xO.cap,.slice none 0 0,.int .i64 0,.int .u32 0,.int .u64 0,.int .u16 0,.int .u32 Yl,.int .u64 Ym,.int .u16 Yn]=9/\jB Rl (Addr.mk CG 0 none) [.slice xO.a xO.len xO.cap,.slice none 0 0,.int .i64 0,.int .u32 0,.int .u64 0,.int .u16 0,.int .u32 Yl,.int .u64 Ym,.int .u16 Yn] fun wE=>
 If (Z3 == 0) (
 aF wE (Addr.mk CG 0 none) (.slice first.a first.len first.cap) fun uG=>
 ∃Pt:Sl,Cell uG (Addr.mk CG 0 none) (.slice Pt.a Pt.len Pt.cap)/\
 ∃Pu:Sl,Cell uG ((Addr.mk CG 0 none).add 1) (.slice Pu.a Pu.len Pu.cap)/\
 ∃abE:Int,Cell uG ((Addr.mk CG 0 none).add 2) (.int .i64 abE)/\
 ∃abF:Int,Cell uG ((Addr.mk CG 0 none).add 3) (.int .u32 abF)/\
 ∃abG:Int,Cell uG ((Addr.mk CG 0 none).add 4) (.int .u64 abG)/\
 ∃abH:Int,Cell uG ((Addr.mk CG 0 none).add 5) (.int .u16 abH)/\
 ∃abI:Int,Cell uG ((Addr.mk CG 0 none).add 6) (.int .u32 abI)/\
 ∃abJ:Int,Cell uG ((Addr.mk CG 0 none).add 7) (.int .u64 abJ)/\
 ∃abK:Int,Cell uG ((Addr.mk CG 0 none).add 8) (.int .u16 abK)/\
 ag uG (.cells [.slice Pt.a Pt.len Pt.cap,.slice Pu.a Pu.len Pu.cap,.int .i64 abE,.int .u32 abF,.int .u64 abG,.int .u16 abH,.int .u32 abI,.int .u64 abJ,.int .u16 abK].toArray 151) fun Is Ql=>
 bz pz 140 140 fresh (.slice (some (Addr.mk Is 0 none)) 1 1) (fun s It=>
 Ar .i64 (Z3+1) fun aeo=>
 ∃m1,m1 < m0/\I0 m1 s aeo It) Ql) (
 ∃Pv:Sl,Cell wE (Addr.mk CG 0 none) (.slice Pv.a Pv.len Pv.cap)/\
 ∃Px:Sl,Cell wE ((Addr.mk CG 0 none).add 1) (.slice Px.a Px.len Px.cap)/\
 ∃abL:Int,Cell wE ((Addr.mk CG 0 none).add 2) (.int .i64 abL)/\
 ∃abM:Int,Cell wE ((Addr.mk CG 0 none).add 3) (.int .u32 abM)/\
 ∃abN:Int,Cell wE ((Addr.mk CG 0 none).add 4) (.int .u64 abN)/\
 ∃abO:Int,Cell wE ((Addr.mk CG 0 none).add 5) (.int .u16 abO)/\
 ∃abP:Int,Cell wE ((Addr.mk CG 0 none).add 6) (.int .u32 abP)/\
 ∃abQ:Int,Cell wE ((Addr.mk CG 0 none).add 7) (.int .u64 abQ)/\
 ∃abR:Int,Cell wE ((Addr.mk CG 0 none).add 8) (.int .u16 abR)/\
 ag wE (.cells [.slice Pv.a Pv.len Pv.cap,.slice Px.a Px.len Px.cap,.int .i64 abL,.int .u32 abM,.int .u64 abN,.int .u16 abO,.int .u32 abP,.int .u64 abQ,.int .u16 abR].toArray 151) fun Xp Rm=>
 bz pz 140 140 fresh (.slice (some (Addr.mk Xp 0 none)) 1 1) (fun s_1 VO=>
 Ar .i64 (Z3+1) fun aep=>
 ∃m1,m1 < m0/\I0 m1 s_1 aep VO) Rm))) (
 ∃NS:Sl,Cell qT ((Addr.mk lN 0 none).add 2) (.slice NS.a NS.len NS.cap)/\
 Ar .i64 (i+1) fun aeq=>
 bI NS i aeq fresh qT fun r_8 Nt=>
 aF Nt ((Addr.mk lN 0 none).add 2) (.slice r_8.a r_8.len r_8.cap) fun JN=>
 ∃NT:Sl,Cell JN ((Addr.mk lN 0 none).add 2) (.slice NT.a NT.len NT.cap)/\
 If (decide (((NT.len:Int)) > 0)) (
 ∃Ky:Sl,Cell JN ((Addr.mk lN 0 none).add 2) (.slice Ky.a Ky.len Ky.cap)/\
 Ix Ky.a Ky.len 0 9 fun aer=>
 aF JN aer (.slice none 0 0) fun Be=>
 ∃abS:Int,Cell Be (Addr.mk lN 0 none) (.int .u8 abS)/\
 ∃abT:Int,Cell Be ((Addr.mk lN 0 none).add 1) (.int .u8 abT)/\
 ∃U2:Sl,Cell Be ((Addr.mk lN 0 none).add 2) (.slice U2.a U2.len U2.cap)/\
 dN abS abT U2 Be fun aes abU Qm=>
 K aes abU Qm) (
 ∃abV:Int,Cell JN (Addr.mk lN 0 none) (.int .u8 abV)/\
 ∃abW:Int,Cell JN ((Addr.mk lN 0 none).add 1) (.int .u8 abW)/\
 ∃U3:Sl,Cell JN ((Addr.mk lN 0 none).add 2) (.slice U3.a U3.len U3.cap)/\
 dN abV abW U3 JN fun aet abX OK=>
 K aet abX OK))
theorem nt{m m':bB}(h:m'.bm=m.bm):eW m'=eW m:=by show Value.iface 47 (.pointer (some ⟨m'.bm,0,none⟩))=Value.iface 47 (.pointer (some ⟨m.bm,0,none⟩));rw[h]
theorem Py{L:List (aL×aH)}(h:0 < L.length):ents (L.set 0 (Hy ⟨none,0,0⟩ [] L[0]))=jo (ents L):=by
 cases L with
 | nil=>simp at h
 | cons p L=>rfl
set_option maxHeartbeats 4000000 in
theorem Dv{t:Int}{lev base b b1:Nat}{i:Int}{l first s:Sl}{L:List (aL×aH)}{gB:List oT}{a c:List aH}{mid:aH}{ka FJ kc:List KV}{pa pm pc:List Rf}{K:Sl->Int->Pw}
    (R:aY w.heap T m M) (g:w.heap[b]? = some (.cells [eW m,.int .u32 t].toArray 107 (0,0))) (g1:sg w.heap b1 2 ((lev+1:Nat):Int) s) (tb:T b=none) (FQ:T b1=none) (gE:base<=b1)
    (nd:kQ w.heap (fun q=>base<=q/\T q=none/\q≠b/\q≠b1) s L) (lm:dq w.heap (fun q=>base<=q/\T q=none/\q≠b/\q≠b1) (aO lev) lev l gB) (lp:jX M.f t lev (bf gB) FJ pm)
    (eL:ents L=a++(mid::c)) (hi:i=a.length) (hfr:cZ w.heap first mid.key) (Uz:∀q,first.aq=some q->(base<=q/\T q=none/\q≠b/\q≠b1)/\q < w.heap.size/\s.aq≠some q) (hsn:∀x∈gB,∀q,x.sep.aq=some q->s.aq≠some q)
    (FG:xK (a++(mid::c))) (ok:sS (a++(mid::c))) (dn:lev+1<=30) (jw:szL 2 (a++(mid::c))<=297) (JO:L.length<=1000)
    (ba:aM (bu M.f t lev) a ka pa) (bc:aM (bu M.f t lev) c kc pc) (OY:∀x∈ka,bW x.1 mid.key) (lo:∀x∈FJ,¬ bW x.1 mid.key) (hc:∀e∈c,∀x∈FJ,bW x.1 e.key)
    (h2l:0 < lev->∀x∈bf gB,2<=x.2.length) (hn:M.au.length<=1048000)
    (k:∀sl ls cU rs T' m' M' w',aY w'.heap T' m' M'->m'.bm=m.bm->Tg w T T'->Ext (fun q=>Ts T q∨base<=q) w w'->dq w'.heap (fun q=>base<=q/\T' q=none) (aO (lev+1)) ((lev+1:Nat):Int) sl ls->jX M'.f t (lev+1) (bf ls) (ka++(FJ++kc)) cU ->
      mf M M' 2 [] rs->(∀q,cU.count q=(pa++(pm++pc)).count q+rs.count q)->K sl 0 w'):lI b b1 i l first K w:=by
  unfold lI;obtain⟨D,eD,Dw,hp,hDl,hD2,hDt⟩:=lp.data;have Qp:l.len=gB.length:=lm.len;have hDn:D.length=gB.length:=by have:=congrArg List.length eD;simpa[bf] using this
  have hDi:∀j (h:j < D.length) (h':j < gB.length),D[j].k=gB[j].key/\D[j].l=ents gB[j].L:=fun j h h'=>by
    have:=congrArg (fun l=>l[j]?) eD;simp only[bf,List.getElem?_map,List.getElem?_eq_getElem h,List.getElem?_eq_getElem h',Option.map_some,Option.some.injEq,Prod.mk.injEq]at this;exact this
  have sup:∀q,w.heap.size<=q->T q=none:=fun q hq=>R.iA hq
  have aeu:=blt g;have aev:=blt g1;have agL:=FG.iw mid (by simp)
  refine ⟨fun mm fresh t1 w'=>∃ (j:Nat) (Tj:Nat->Option Nat) (mj:bB) (Mj:Mm) (rs:List Rf) (V:List (aL×aH)),t1=j/\j<=gB.length/\mm=gB.length - j/\aY w'.heap Tj mj Mj/\mj.bm=m.bm/\Tg w T Tj/\Ext (Ts T) w w'/\mf M Mj j [] rs/\rs.length=j /\
      (∀i (h:i < D.length) (h':i < rs.length),bu Mj.f t lev rs[i] D[i].kv (rs[i]::D[i].p))/\(∀r∈rs,r.ok/\r ≠ .z)/\aT w'.heap w.heap.size 151 9 fresh (V.flatMap aS)/\ents V=gO mid.key (bf gB) rs/\(∀q,fresh.aq=some q->Tj q=none)/\
      (∀p∈V,mG w'.heap p.1 p.2/\∀q,(p.1.k.aq=some q∨p.1.v.aq=some q)->(base<=q/\T q=none/\q≠b/\q≠b1)/\q < w.heap.size/\s.aq≠some q),
    ⟨gB.length,0,T,m,M,[],[],rfl,by omega,by omega,R,rfl,fun _ _=>rfl,Ext.refl _ _,mf.refl M,rfl,fun i h h'=>by simp at h',by simp,aT.nil _ _ _ _,by cases bf gB <;> rfl,by simp[Sl.aq],by simp⟩,?_⟩
  rintro _ m0 fresh t1 qT ⟨j,Tj,mj,Mj,rs,V,rfl,hj,hm,Rj,Aj,Iz,xj,cj,EA,jr,Yc,oV,eV,Yo,hV⟩;have sj:=xj.size;have nT:∀{q},T q=none->¬ Ts T q:=fun h h'=>h' h
  have gj:=af g xj (nT tb);have g1j:=af g1 xj (nT FQ);have Z4:=lm.ext xj fun q hq _=>nT hq.2.1
  have Vl:V.length=j:=by have:=congrArg List.length eV;rw[CX (by simp only[bf,List.length_map];omega)]at this;simpa[EA] using this
  refine If.dec (fun h=>?_) fun h=>?_
  · have fh:j < gB.length:=by omega
    refine Ix.elem Z4.rd (dK _ _ _) (by decide) (by omega) h fun bb o qp _ bq=>?_
    simp only[Int.toNat_natCast]at qp bq;have dI:gB[j]∈gB:=List.getElem_mem fh;refine⟨_,bq 0 _ rfl,_,bq 1 _ rfl,_,bq 2 _ rfl,_,bq 3 _ rfl,bA (vs:=iy (aO lev) lev gB[j]) rfl rfl (by simp[iy,aN]) fun b6 Ma g6 hb6 z6 x6=>?_⟩;have Z5:j < D.length:=by omega
    obtain⟨e1,e2⟩:=hDi j Z5 fh;have ky:vW Mj.f t lev D[j].l D[j].kv D[j].p:=(hDl _ (List.getElem_mem Z5)).cB (cj.cB fun q _=> .inl (by simp));rw[e2]at ky;have TG:=((Z4.nd _ dI).no x6).nd;refine⟨_,Cell.ai (ad gj x6) rfl,_,Cell.ai (ad gj x6) rfl,_,Cell.ai g6 rfl,_,Cell.ai g6 rfl,_,Cell.ai g6 rfl,?_⟩;rw[<- nt Aj];have SA:=gk ky.short;have ZH:gB[j].L.length<=65536:=by simp only[List.length_map]at SA;omega
    refine mc (Rj.no x6) TG ZH ky.right ky.short (by have:=cj.len;omega) fun n T' m' OH iD U4 HT Iy y_=>?_
    refine bA rfl rfl (by simp[aN]) fun b7 yZ g7 hb7 z7 x7=>If.bne (fun h=>(h rfl).elim) fun _=>?_
    have nTj:∀{q},q < qT.heap.size->T q=none->q < w.heap.size->¬ Ts Tj q:=fun _ h1 h2 h=>h (by rw[Iz _ h2];exact h1)
    have s6:=x6.size;have s37:=y_.size;have s7:=x7.size;have nb6:Tj b6=none:=(Rj).iA (by omega);have g69:=ad (af g6 y_ (fun h=>h nb6)) x7;refine⟨_,Cell.ai g69 rfl,_,Cell.ai g7 rfl,_,Cell.ai g7 rfl,_,Cell.ai g7 rfl,bA (vs:=aL.cs ⟨gB[j].sep,⟨none,0,0⟩,0,.z,⟨n,Mj.aE,Mj.gen⟩⟩) rfl rfl (jA _) fun b8 wE g8 OB z8 x8=>?_⟩;have Dx:Ext No OH wE:=x7.no x8;have Dy:Ext (Ts Tj) qT wE:=((x6.aG).trans y_ fun _ _ h=>h).no Dx;have aew:Ext (Ts T) w wE:=xj.trans Dy fun q hq h=>by rw[show Ts Tj q=(Tj q≠none) from rfl,Iz q hq]at h;exact h
    have NI:(⟨n,Mj.aE,Mj.gen⟩ : Rf) ≠ .z:=fun h=>by have:=iD.lo;have:=congrArg Rf.p h;simp only[Rf.z]at this;omega
    have tV:=mf.put (M:=Mj) (n:=n) (t:=t) (k:=aO lev) (v:=((lev:Nat):Int)) (pay:=pad (wr (aO lev) lev (ents gB[j].L)));have Fi:=qZ (t:=t) (k:=aO lev) (v:=((lev:Nat):Int)) (pay:=pad (wr (aO lev) lev (ents gB[j].L))) iD;have SB:=(JS U4 Fi).2;have kpj:∀(qs:List Rf),iR Mj.f (Bm Mj n t (aO lev) lev (pad (wr (aO lev) lev (ents gB[j].L)))).f qs:=fun qs=>tV.cB fun q _=> .inl (by simp)
    have FR:bu (Bm Mj n t (aO lev) lev (pad (wr (aO lev) lev (ents gB[j].L)))).f t lev ⟨n,Mj.aE,Mj.gen⟩ D[j].kv (⟨n,Mj.aE,Mj.gen⟩::D[j].p):=
      bu.shut ⟨Fi,ky.right,ky.short,ky.ok⟩ ky.ne (fun h=>by have:=h2l h (gB[j].key,ents gB[j].L) (List.mem_map.2 ⟨_,dI,rfl⟩);exact this) (ky.body.cB (kpj _))
    -- on,abY key the entry has
    have on:∀{kk:Sl}{key:List Int}{uG:Wd}{bx:Nat},uG.heap[bx]? = some (.cells (aL.cs ⟨kk,⟨none,0,0⟩,0, .z,⟨n,Mj.aE,Mj.gen⟩⟩).toArray 151 (0,0))->Ext (fun q=>q=b8) wE uG->cZ w.heap kk key->B8 key->(∀ q,kk.aq=some q->(base<=q/\T q=none/\q≠b/\q≠b1)/\q < w.heap.size/\s.aq≠some q)->key=(if j=0 then mid.key else gB[j].key) ->
        (ag uG (.cells (aL.cs ⟨kk,⟨none,0,0⟩,0,.z,⟨n,Mj.aE,Mj.gen⟩⟩).toArray 151) fun b9 Ql=>bz pz 140 140 fresh (.slice (some (Addr.mk b9 0 none)) 1 1) (fun s1 It=>Ar .i64 ((j:Int)+1) fun z=>∃m1,m1 < m0/\∃(j:Nat) (Tj:Nat->Option Nat) (mj:bB) (Mj:Mm) (rs:List Rf) (V:List (aL×aH)),z=j/\j<=gB.length/\m1=gB.length - j/\aY It.heap Tj mj Mj/\mj.bm=m.bm/\Tg w T Tj/\Ext (Ts T) w It/\mf M Mj j [] rs/\rs.length=j/\
      (∀i (h:i < D.length) (h':i < rs.length),bu Mj.f t lev rs[i] D[i].kv (rs[i]::D[i].p))/\(∀r∈rs,r.ok/\r ≠ .z)/\aT It.heap w.heap.size 151 9 s1 (V.flatMap aS)/\ents V=gO mid.key (bf gB) rs/\(∀q,s1.aq=some q->Tj q=none)/\
      (∀p∈V,mG It.heap p.1 p.2/\∀q,(p.1.k.aq=some q∨p.1.v.aq=some q)->(base<=q/\T q=none/\q≠b/\q≠b1)/\q < w.heap.size/\s.aq≠some q)) Ql):=by
      intro kk key uG bx gx Nv Pz k8 kkb gN;refine ag.mk fun b9 Ql n9=>?_
      have Am:Ext (fun q=>q=b8) wE Ql:=Nv.no n9.ext;have s42:=Nv.size;have z9:=n9.size;have Un:=n9.at_;have MD:∀q,fresh.aq=some q->w.heap.size<=q/\q < qT.heap.size:=fun q hq=>oV.lt hq
      have Yp:=(oV.ext Dy fun q hq h=>h (Yo q hq)).ext Am fun q hq h=>by have:=MD q hq;omega
      have ol:fresh.len=V.length:=by have:=oV.len;rw[mO]at this;omega
      refine gn Yp (by omega) (CR n9).rd.src (by simp only;omega) fun s1 It o44 _ Wt oR=>Ar.i64 (by omega) ?_
      have abZ:Ext (Ts T) w It:=((aew.trans Am fun q hq h=>by omega)).trans Wt fun q hq h=>by have:=MD q h;omega
      have tT':∀q,q < qT.heap.size->T' q=Tj q:=fun q hq=>Iy q (by omega)
      have nb8:T' b8=none:=U4.iA (by omega);have ab0:Ext (fun q=>q=b8∨fresh.aq=some q) OH It:=((Dx.aG).trans Am fun _ _ h=> .inl h).trans Wt fun _ _ h=> .inr h
      have ab1:Ext (fun q=>Ts Tj q∨q=b8∨fresh.aq=some q) qT It:=((Dy.mono fun _ _ h=> .inl h).trans Am fun _ _ h=> .inr (.inl h)).trans Wt fun _ _ h=> .inr (.inr h)
      refine⟨gB.length - (j+1),by omega,j+1,T',m',Bm Mj n t (aO lev) lev (pad (wr (aO lev) lev (ents gB[j].L))),rs++[⟨n,Mj.aE,Mj.gen⟩],V++[(⟨kk,⟨none,0,0⟩,0,.z,⟨n,Mj.aE,Mj.gen⟩⟩,Bp key ⟨n,Mj.aE,Mj.gen⟩)],by omega,by omega,rfl,U4.ext ab0 fun q hq=>?_,HT.trans Aj,fun q hq=>by rw[tT' q (by omega)];exact Iz q hq,abZ,?_,by simp[EA],fun i' h' LR=>?_,fun r hr=>?_,by rw[List.flatMap_append];simpa using o44,?_,fun q hq=>?_,fun p hp=>?_⟩
      · rcases hq with h | h
        · rw[h];exact nb8
        · rw[tT' q (MD q h).2];exact Yo q h
      · refine(cj.trans tV).as (by omega) (by simp) fun q=>?_
        simp only[List.nil_append]
      · rcases Nat.lt_or_ge i' rs.length with h3 | h3
        · rw[List.getElem_append_left h3];exact(jr i' h' h3).cB (kpj _)
        · have:i'=j:=by simp only[List.length_append,List.length_cons,List.length_nil]at LR;omega
          subst this;have:(rs++[(⟨n,Mj.aE,Mj.gen⟩ : Rf)])[i']=⟨n,Mj.aE,Mj.gen⟩:=by rw[List.getElem_append_right h3];simp[EA]
          rw[this];exact FR
      · rcases List.mem_append.1 hr with h3 | h3
        · exact Yc r h3
        · rw[List.mem_singleton]at h3;subst h3;exact⟨SB,NI⟩
      · rw[Af (by simp only[bf,List.length_map];omega)];show List.map Prod.snd (V++_)=_;rw[List.map_append,show List.map Prod.snd V=_ from eV];congr 1;have e5:(bf gB)[rs.length]'(by simp only[bf,List.length_map];omega)=(gB[j].key,ents gB[j].L):=by simp[bf,EA]
        rw[e5,gN,EA];rfl
      · rcases oR with h3 | ⟨c',h3,h4⟩
        · rw[h3]at hq;rw[tT' q (MD q hq).2];exact Yo q hq
        · rw[h3]at hq;cases hq;exact U4.iA (by have:=Dx.size;omega)
      · rcases List.mem_append.1 hp with h3 | h3
        · have sK:=hV p h3
          have nn:∀q,(p.1.k.aq=some q∨p.1.v.aq=some q)->¬ (Ts Tj q∨q=b8∨fresh.aq=some q):=fun q hq h=>by
            have:=sK.2 q hq;rcases h with h | h | h
            · exact nTj (by omega) this.1.2.1 this.2.1 h
            · omega
            · have:=MD q h;omega
          exact⟨sK.1.ext ab1 (fun q hq=>nn q (.inl hq)) (fun q hq=>nn q (.inr hq)),sK.2⟩
        · rw[List.mem_singleton]at h3;subst h3;refine⟨⟨Rd.ext Pz abZ fun a q ha hq=>nT (kkb q (by have h:kk.a=some a:=ha;simp[Sl.aq,h,hq])).1.2.1,Rd.nil _ _,rfl,rfl,rfl,k8,B8.nil,⟨by show(-9223372036854775808:Int)<=0;decide,by show(0:Int)<=9223372036854775807;decide⟩,by show Rf.z.ok;decide,SB⟩,fun q hq=>?_⟩;rcases hq with h4 | h4
          · exact kkb q h4
          · simp[Sl.aq]at h4
    have Ey:=lm.sep _ dI;refine If.beq (fun hj0=>aF.mk g8 (by simp[aL.cs]) rfl fun uG Uv=>?_) fun hj0=>?_
    · have g42:uG.heap[b8]? = some (.cells (aL.cs ⟨first,⟨none,0,0⟩,0,.z,⟨n,Mj.aE,Mj.gen⟩⟩).toArray 151 (0,0)):=Uv.get g8;have Nv:Ext (fun q=>q=b8) wE uG:=Uv.ext;refine fx g42 (on g42 Nv hfr ?_ Uz (by rw[if_pos (by omega)]));exact(ok mid (by simp)).2.1
    · refine fx g8 (on g8 (Ext.refl _ _) Ey.1 Ey.2.1 (fun q hq=>⟨(Ey.2.2 q hq).1,(Ey.2.2 q hq).2,hsn _ dI q hq⟩) (by rw[if_neg (by omega)]))
  · have ejl:j=gB.length:=by omega
    have TG:kQ qT.heap (fun q=>base<=q/\Tj q=none/\q≠b/\q≠b1) s L:=(nd.mono fun q hq h=>⟨h.1,by rw[Iz q hq];exact h.2.1,h.2.2⟩).ext xj fun q hq hl h=>h (by rw[<- Iz q hl];exact hq.2.1)
    have slt:∀q,s.aq=some q->q < w.heap.size:=fun q hq=>(nd.own.lt hq).2
    have MD:∀q,fresh.aq=some q->w.heap.size<=q/\q < qT.heap.size:=fun q hq=>oV.lt hq
    have nej:Pa qT (fun q=>base<=q/\Tj q=none/\q≠b/\q≠b1) s fresh V:=⟨oV.mono (Nat.zero_le _),fun p hp=>(hV p hp).1,fun p hp q hq=>by
      have:=(hV p hp).2 q hq
      exact⟨⟨this.1.1,by rw[Iz q this.2.1];exact this.1.2.1,this.1.2.2⟩,by omega,this.2.2⟩,fun q hq h=>by have:=MD q hq;have:=slt q h;omega⟩
    have ab2:∀q,qT.heap.size<=q->Tj q=none:=fun q hq=>Rj.iA hq
    have ab3:L.length=a.length+(c.length+1):=by have:=congrArg List.length eL;simpa using this
    have law:=Mt (f:=Mj.f) (t:=t) (lev:=lev) (D:=D) (rs:=rs) FG ok dn (ba.cB (R:=fun p=>iR M.f Mj.f p) (fun h=>⟨h.sub fun _ h=>List.mem_append_left _ h,h.sub fun _ h=>List.mem_append_right _ h⟩) (fun h hk=>bu.cB h hk) (cj.cB fun q _=> .inl (by simp)))
      (bc.cB (R:=fun p=>iR M.f Mj.f p) (fun h=>⟨h.sub fun _ h=>List.mem_append_left _ h,h.sub fun _ h=>List.mem_append_right _ h⟩) (fun h hk=>bu.cB h hk) (cj.cB fun q _=> .inl (by simp))) OY jr (by omega) Yc hD2
      (fun d1 d2 h=>by obtain⟨a1,a2,a3,a4,a5,_⟩:=hDt d1 d2 h;exact⟨a1,a2,a3,a4,a5⟩)
      (fun d hd x hx=>lo x (by rw[<- Dw];exact List.mem_flatten.2 ⟨d.kv,List.mem_map.2 ⟨d,hd,rfl⟩,hx⟩))
      (fun e he d hd x hx=>hc e he x (by rw[<- Dw];exact List.mem_flatten.2 ⟨d.kv,List.mem_map.2 ⟨d,hd,rfl⟩,hx⟩))
    rw[eD,Dw,hp]at law;obtain⟨l1,l2,⟨U5,l3,l3c⟩,l4⟩:=law;subst hi;refine⟨s,Cell.ai g1j rfl,Ar.i64 (by omega) (HD TG nej (by omega) (by simp only[Int.toNat_natCast];omega) (by omega) (by omega) (fun q hq=>⟨by omega,ab2 q hq,by omega,by omega⟩) fun s' Nt Ru agM wC=>?_)⟩;rw[Int.toNat_natCast]at Ru;have Yq:¬ s.aq=some b1:=fun h=>(nd.sb _ h).2.2.2 rfl
    have ab4:=af g1j wC Yq;refine aF.mk ab4 (by simp) rfl fun JN VH=>?_
    have K4:Ext (·=b1) Nt JN:=VH.ext;have U6:sg JN.heap b1 2 ((lev+1:Nat):Int) s':=VH.get ab4;have z48:JN.heap.size=Nt.heap.size:=VH.size;have s47:=wC.size;have SC:=Ru.ext K4 fun q hq _ h=>hq.2.2.2 h
    have RP:ents (L.take a.length++(V++L.drop (a.length+1)))=a++(gO mid.key (bf gB) rs++c):=by
      show List.map Prod.snd _=_;rw[List.map_append,List.map_append,List.map_take,List.map_drop,show List.map Prod.snd L=_ from eL,show List.map Prod.snd V=_ from eV,List.take_left' rfl];congr 2;rw[show a++(mid::c)=(a++[mid])++c by simp];exact List.drop_left' (by simp)
    generalize hL':L.take a.length++(V++L.drop (a.length+1))=L' at *;have ab5:L'.length<=4000:=by rw[<- hL'];simp only[List.length_append,List.length_take,List.length_drop];omega
    have nS1:∀{q},s.aq=some q->Tj q=none:=fun h=>by rw[Iz _ (slt _ h)];exact(nd.sb _ h).2.1
    have aex:Tj b1=none:=by rw[Iz b1 aev];exact FQ
    have R48:aY JN.heap Tj mj Mj:=(Rj.ext wC fun q hq=>nS1 hq).ext K4 fun q hq=>by rw[hq];exact aex
    have aey:Ext (fun q=>Ts T q∨base<=q) w JN:=((xj.mono fun _ _ h=> .inl h).trans wC fun q hq h=> .inr (nd.sb _ h).1).trans K4 fun q hq h=> .inr (by omega)
    have Uy:∀q,s'.aq=some q->base<=q/\Tj q=none:=fun q hq=>by have:=SC.sb q hq;exact⟨this.1,this.2.1⟩
    have nl':=SC.nd.len
    -- the end,with a list in af4 the first key is none
    have fin:∀{L3:List (aL×aH)}{Be:Wd},kQ Be.heap (fun q=>base<=q/\Tj q=none/\q≠b/\q≠b1) s' L3->ents L3=jo (a++(gO mid.key (bf gB) rs++c))->Ext (fun q=>s'.aq=some q) JN Be->L3.length<=4000->dN 2 ((lev+1:Nat):Int) s' Be fun r0 r1 Qm=>K r0 r1 Qm:=fun {L3 Be} Rv e3 Fw NF=>by
      have s49:=Fw.size;refine vY (B:=fun q=>base<=q/\Tj q=none) (Rv.mono fun q _ h=>⟨h.1,h.2.1⟩) (fun q hq=>⟨by omega,ab2 q (by omega)⟩) (fun h=>by rw[e3]at h ⊢;exact l1 h) (by omega) (fun hb=>?_) fun ls sl Qm lm' lp' x50=>?_
      · rw[e3]at hb ⊢;refine CV (l1 fun h=>?_) hb ?_
        · rw[h,fA,q_]at hb;omega
        · rw[fA];omega
      · rw[e3]at lp';have R50:aY Qm.heap Tj mj Mj:=(R48.ext Fw fun q hq=>(Uy q hq).2).no x50;have lp2:jX Mj.f t (lev+1) (bf ls) (ka++(FJ++kc)) (pa++(U5++pc)):=iz.NG (lev:=lev+1) lp' l2 l3;refine k sl ls (pa++(U5++pc)) rs Tj mj Mj Qm R50 Aj Iz (((aey.trans Fw fun q hq h=> .inr (Uy q h).1).no x50)) lm' lp2 (cj.as (by omega) (by simp) (by simp)) fun q=>?_
        simp only[List.count_append];have:=l3c q;omega
    refine⟨s',Cell.ai U6 rfl,If.dec (fun s_=>?_) fun s_=>?_⟩
    · refine⟨s',Cell.ai U6 rfl,kQ.key (t:=⟨none,0,0⟩) (key:=[]) SC (by omega) (by simp only[Int.toNat_zero];omega) (Rd.nil _ _) B8.nil (fun q hq=>by simp[Sl.aq]at hq) fun Be Rv Fw z49=>?_⟩;have aez:¬ s'.aq=some b1:=fun h=>(SC.sb _ h).2.2.2 rfl
      have aeA:=af U6 Fw aez;refine oC aeA (fin Rv ?_ Fw (by rw[List.length_set];exact ab5));rw[<- RP];exact Py (by omega)
    · have Oq:L'=[]:=List.eq_nil_of_length_eq_zero (by omega);refine oC U6 (fin SC ?_ (Ext.refl _ _) ab5);rw[<- RP,Oq];rfl
end
end Go.Proofs.YtpjbalhhlaofmaaGreat
namespace Go.V
theorem xK.del{a c:List aH}{e1 e2:aH}(h:xK (a++(e1::e2::c))):xK (a++(e1::c)):=by
 have hm:∀e∈a++(e1::c),e∈a++(e1::e2::c):=fun e he=>by
  simp only[List.mem_append,List.mem_cons]at he ⊢;rcases he with h | h | h
  .exact .inl h
  .exact .inr (.inl h)
  .exact .inr (.inr (.inr h))
 refine⟨fun e he=>h.iw e (hm e he),?_,fun e l' hl=>?_⟩
 .have hr:=fC.1 h.xL;have h2:=List.pairwise_cons.1 hr.2.1;refine fC.2 ⟨hr.1,List.pairwise_cons.2 ⟨fun y hy=>h2.1 y (List.mem_cons_of_mem _ hy),(List.pairwise_cons.1 h2.2).2⟩,fun x hx y hy=>hr.2.2 x hx y ?_⟩;rcases List.mem_cons.1 hy with h | h
  .rw[h];exact List.mem_cons_self
  .exact List.mem_cons_of_mem _ (List.mem_cons_of_mem _ h)
 .cases a with
  | nil=>simp only[List.nil_append,List.cons.injEq]at hl;exact hl.1 ▸ h.hd e1 _ rfl
  | cons x a=>simp only[List.cons_append,List.cons.injEq]at hl;exact hl.1 ▸ h.hd x _ rfl
theorem iz.SD{lev:Int}{l:List aH}{ls:List (List Int×List aH)}(p:iz 2 lev l ls)(h:2<=l.length):∀x∈ls,2<=x.2.length:=by
 cases p with
 | nil=>simp at h
 | one bC hr hs=>intro x hx;rw[List.mem_singleton]at hx;subst hx;exact h
 | @two l k hr hb hk cL=>
  have:=FH hr hb hk;intro x hx;simp only[List.mem_cons,List.not_mem_nil,or_false]at hx;rcases hx with h | h <;> subst h
  .simp only[List.length_take];omega
  .simp only[CS,List.length_drop];omega
end Go.V
namespace Go.Proofs.YtpjbalhhlaofmaaGreat
open Go.V
section
variable {w:Wd} {T:Nat->Option Nat} {m:bB} {M:Mm}
def tX(b lN Wu:Nat)(r j:Int)(HV:Sl)(J2:Int->Sl->Sl->Pw)(K:Sl->Int->Pw)(e:Int)(w:Wd):Prop:=
  If (e != 0) (
  K ⟨none,0,0⟩ e w) (
  ∃S:Pw,S (aa w)/\
  ∃qW:Value,ae S (Addr.mk b 0 none) (qW)/\
  ∃pA:Sl,ae S ((Addr.mk lN 0 none).add 2) (.slice pA.a pA.len pA.cap)/\
  Ix pA.a pA.len j 9 fun LP=>
  ∃lC:Int,ae S (LP.add 6) (.int .u32 lC)/\
  ∃ng:Int,ae S ((LP.add 6).add 1) (.int .u64 ng)/\
  ∃rp:Int,ae S ((LP.add 6).add 2) (.int .u16 rp)/\
  BM qW fun _y=>
  pK pz qW "Drop" [.agg ([.int .u32 lC,.int .u64 ng,.int .u16 rp]).toArray] [.one (.int .i64)] (fun Ur c_=>
  S c_/\
  If (Ur != 0) (
  K ⟨none,0,0⟩ Ur c_) (
  ∃S:Pw,S (aa c_)/\
  Ix HV.a HV.len 0 4 fun QW=>
  ∃xI:Int,ae S (QW.add 1) (.int .u8 xI)/\
  ∃uJ:Int,ae S ((QW.add 1).add 1) (.int .u8 uJ)/\
  ∃wg:Sl,ae S ((QW.add 1).add 2) (.slice wg.a wg.len wg.cap)/\
  ∃Dg:Int,ae S (Addr.mk Wu 0 none) (.int .u8 Dg)/\
  ∃Dh:Int,ae S ((Addr.mk Wu 0 none).add 1) (.int .u8 Dh)/\
  ∃wh:Sl,ae S ((Addr.mk Wu 0 none).add 2) (.slice wh.a wh.len wh.cap)/\
  ∃sL:Sl,ae S ((Addr.mk lN 0 none).add 2) (.slice sL.a sL.len sL.cap)/\
  Nm (iE r j) fun Tx=>
  Ix sL.a sL.len Tx 9 fun Xh=>
  ∃sM:Sl,ae S Xh (.slice sM.a sM.len sM.cap)/\
  eS xI uJ wg Dg Dh wh sM (decide (j < r)) (aa c_) fun Yr SE dU=>
  S dU/\
  If (SE != 0) (
  K ⟨none,0,0⟩ SE dU) (
  ∃iQ:Sl,Cell dU ((Addr.mk lN 0 none).add 2) (.slice iQ.a iQ.len iQ.cap)/\
  Nm (gT r j) fun Tz=>
  Ix iQ.a iQ.len Tz 9 fun a_7=>
  ∃ma:Sl,Cell dU a_7 (.slice ma.a ma.len ma.cap)/\
  ∃nZ:Sl,Cell dU ((Addr.mk lN 0 none).add 2) (.slice nZ.a nZ.len nZ.cap)/\
  Nm (iE r j) fun Us=>
  Nm (iE r j) fun Uo=>
  Ar .i64 (Uo+1) fun Xq=>
  aB nZ Us Xq dU fun OJ oS=>
  aF oS ((Addr.mk lN 0 none).add 2) (.slice OJ.a OJ.len OJ.cap) fun hU=>
  Nm (gT r j) fun z_7=>
  J2 z_7 Yr ma hU))) cf (aa w))
theorem SF{K:Value->Prop}(h:K (eW m)):BM (eW m) K:=h
set_option maxHeartbeats 4000000 in
theorem PA{t:Int}{lev base b b1 b3 i j p:Nat}{l0 s sn:Sl}{L Ln:List (aL×aH)}{x:oT}{a c l1 l2:List aH}{e1 e2:aH}{lft:Bool}{rj:Rf}{ka k1 k2 kc:List KV}{pa p1 p2 pc:List Rf}{K:Sl->Int->Pw}
    (R:aY w.heap T m M) (g:w.heap[b]? = some (.cells [eW m,.int .u32 t].toArray 107 (0,0))) (g1:sg w.heap b1 2 ((lev+1:Nat):Int) s) (g3:sg w.heap b3 (aO lev) lev sn) (tb:T b=none) (FQ:T b1=none) (Ys:T b3=none) (gE:base<=b1)
    (nd:kQ w.heap (fun q=>base<=q/\T q=none/\q≠b/\q≠b1) s L) (nn:kQ w.heap (fun q=>T q=none) sn Ln) (lm:dq w.heap (fun q=>base<=q/\T q=none) (aO lev) lev l0 [x])
    (eL:ents L=a++(e1::e2::c)) (hp:p=a.length)
    (hl:(lft=true/\l1=ents Ln/\l2=ents x.L/\i=p+1/\j=p/\rj=e1.cd)∨(lft=false/\l1=ents x.L/\l2=ents Ln/\i=p/\j=p+1/\rj=e2.cd))
    (h1:vW M.f t lev l1 k1 p1) (h2:vW M.f t lev l2 k2 p2) (low:3 * (wr (aO lev) lev (ents x.L)).length < 224)
    (hrj:rj∈live M.au) (Qg:∀q∈pa++(p1++(p2++pc)),q≠rj)
    (FG:xK (ents L)) (ok:sS (ents L)) (dn:lev+1<=30) (jw:szL 2 (ents L)<=297) (JO:L.length<=1000)
    (ba:aM (bu M.f t lev) a ka pa) (bc:aM (bu M.f t lev) c kc pc) (OY:∀x∈ka,bW x.1 e1.key) (lo1:∀x∈k1,¬ bW x.1 e1.key) (ab6:∀x∈k1,bW x.1 e2.key) (Z6:∀x∈k2,¬ bW x.1 e2.key) (hc:∀e∈c,∀x∈k2,bW x.1 e.key)
    (hn:M.au.length<=1048000)
    (k:∀sl ls cU rs T' m' M' w',aY w'.heap T' m' M'->m'.bm=m.bm->Tg w T T'->Ext (fun q=>Ts T q∨base<=q) w w'->dq w'.heap (fun q=>base<=q/\T' q=none) (aO (lev+1)) ((lev+1:Nat):Int) sl ls->jX M'.f t (lev+1) (bf ls) (ka++((k1++k2)++kc)) cU ->
      mf M M' 2 [rj] rs->(∀q,cU.count q=(pa++((p1++p2)++pc)).count q+rs.count q)->K sl 0 w'):tX b b1 b3 i j l0 (fun i l first w'=>lI b b1 i l first K w') K 0 w:=by
  unfold tX;have nT:∀{q},T q=none->¬ Ts T q:=fun h h'=>h' h
  have agN:=blt g;have aeu:=blt g1;have agO:=blt g3;have ab3:L.length=a.length+(c.length+2):=by have:=congrArg List.length eL;simpa using this
  have nl:=nd.nd.len;have Kz:j < L.length:=by rcases hl with h | h <;> omega
  have XX:(L[j]'Kz).2.cd=rj:=by
    have h3:=congrArg (fun l=>l[j]?) eL;simp only[List.getElem?_map,List.getElem?_eq_getElem Kz,Option.map_some]at h3;rcases hl with⟨_,_,_,_,h4,h5⟩ | ⟨_,_,_,_,h4,h5⟩
    · rw[List.getElem?_append_right (by omega),show j - a.length=0 by omega]at h3;simp only[List.getElem?_cons_zero,Option.some.injEq]at h3;rw[h3,h5]
    · rw[List.getElem?_append_right (by omega),show j - a.length=1 by omega]at h3;simp only[List.getElem?_cons_succ,List.getElem?_cons_zero,Option.some.injEq]at h3;rw[h3,h5]
  have V2:p+1 < L.length:=by omega
  have U7:(L[p]'(by omega)).2=e1:=by
    have h3:=congrArg (fun l=>l[p]?) eL;simp only[List.getElem?_map,List.getElem?_eq_getElem (show p < L.length by omega),Option.map_some]at h3;rw[List.getElem?_append_right (by omega),show p - a.length=0 by omega]at h3;simpa using h3
  have aeB:(L[p+1]'V2).2=e2:=by
    have h3:=congrArg (fun l=>l[p+1]?) eL;simp only[List.getElem?_map,List.getElem?_eq_getElem V2,Option.map_some]at h3;rw[List.getElem?_append_right (by omega),show p+1 - a.length=1 by omega]at h3;simpa using h3
  have A_ : (lft = true ∧ i = p + 1 ∧ j = p) ∨ (lft = false ∧ i = p ∧ j = p + 1) := by rcases hl with h | h
                                                                                       · exact .inl ⟨h.1,h.2.2.2.1,h.2.2.2.2.1⟩
                                                                                       · exact .inr ⟨h.1,h.2.2.2.1,h.2.2.2.2.1⟩
  have T6:iE (i:Int) (j:Int)=((p+1:Nat):Int):=by unfold iE;split <;> omega
  have vX:gT (i:Int) (j:Int)=((p:Nat):Int):=by unfold gT;split <;> omega
  have aeC:decide ((j:Int) < (i:Int))=lft:=by
    rcases A_ with⟨h,_,_⟩ | ⟨h,_,_⟩ <;> rw[h]
    · exact decide_eq_true (by omega)
    · exact decide_eq_false (by omega)
  refine If.bne (fun h=>(h rfl).elim) fun _=>?_
  refine⟨Ext (Ts T) w,(Ext.refl _ _).drew,eW m,ae.dQ (Cell.ai g rfl) (nT tb),s,ae.dQ (Cell.ai g1 rfl) (nT FQ),Ix.elem nd.nd.rd (bX L) (by decide) (by omega) (by omega) fun bb o LU DT bq=>?_⟩;have BD:¬ Ts T bb:=nT (nd.sb _ DT).2.1;simp only[Int.toNat_natCast]at LU bq;refine⟨_,ae.dQ (bq 6 _ rfl) BD,_,ae.dQ (bq 7 _ rfl) BD,_,ae.dQ (bq 8 _ rfl) BD,SF ?_⟩;have er:=nd.nd.get LU;have WY:L[j].1.cd=rj:=er.cd.trans XX;obtain⟨d0,dc⟩:=mf.drop R.Bl hrj;rw[WY];refine mF (qV (w:=aa w) (r:=rj) R fun c_ R14 gH=>?_);rw[d0];generalize hM1:(l_ M rj).2=M1 at *;have Bv:Ext (Ts T) w c_:=gH.aj;refine⟨Bv,If.bne (fun h=>(h rfl).elim) fun _=>?_⟩;have kM:=af g Bv (nT tb);have ab7:=af g1 Bv (nT FQ);have JZ:=af g3 Bv (nT Ys);have RQ:=nd.ext Bv fun q hq _ h=>h hq.2.1
  have aeD:=nn.ext Bv fun q hq _ h=>h hq
  have Yt:=lm.ext Bv fun q hq _ h=>h hq.2
  have s14:=Bv.size;have sup:∀q,c_.heap.size<=q->T q=none:=fun q hq=>R14.iA hq
  have ll:l0.len=1:=Yt.len;refine⟨Ext No c_,(Ext.refl _ _).drew,Ix.elem Yt.rd (dK _ _ _) (by decide) (by decide) (by omega) fun PB o2 hi4 _ dv=>?_⟩;replace dv:∀jj v,(iy (aO lev) lev x)[jj]? = some v->Cell c_ ⟨PB,o2+jj,none⟩ v:=dv
  refine⟨_,ae.cell (dv 1 _ rfl),_,ae.cell (dv 2 _ rfl),_,ae.cell (dv 3 _ rfl),_,ae.cell (Cell.ai JZ rfl),_,ae.cell (Cell.ai JZ rfl),_,ae.cell (Cell.ai JZ rfl),_,ae.cell (Cell.ai ab7 rfl),Nm.as T6 (Ix.elem RQ.nd.rd (bX L) (by decide) (by omega) (by omega) fun bb3 o3 hi5 _ pC=>?_)⟩;simp only[Int.toNat_natCast]at hi5 pC;refine⟨_,ae.cell (pC 0 _ rfl),?_⟩;have er1:=RQ.nd.get hi5;have Sy:=ok e2 (by rw[eL];simp);have ab8:=FG.iw e2 (by rw[eL];simp);have kpq:∀{ps:List Rf},(∀q∈ps,q∈pa++(p1++(p2++pc)))->iR M.f M1.f ps:=fun hs=>dc.cB fun q hq=> .inl fun h=>Qg q (hs q hq) (List.mem_singleton.1 h)
  have Ad:=h1.cB (kpq (ps:=p1) fun q hq=>by simp[hq]);have Qk:=h2.cB (kpq (ps:=p2) fun q hq=>by simp[hq]);obtain⟨j1,j2,j3⟩:=OT (above:=e2.key) Ad.right Qk.right Ad.ok Qk.ok Sy.2.1 ab8.2.2.2.2 Ad.body Qk.body ab6 Z6;have jsz:=Mr (kind:=aO lev) (lev:=lev) (la:=l1) (lb:=l2) (above:=e2.key);have Yu:=zf (aO lev) l1 e2.key l2;have n1:=List.length_pos_iff.2 h1.ne;have n2:=List.length_pos_iff.2 h2.ne;have s1:=h1.short;have s2:=h2.short;have hx:mG c_.heap L[p+1].1 L[p+1].2:=er1
  have hxn:(ents x.L).length<=1000/\(ents Ln).length<=1000:=by
    have c1:=gk h1.short;have c2:=gk h2.short;rcases hl with h | h
    · rw[<- h.2.1,<- h.2.2.1];omega
    · rw[<- h.2.1,<- h.2.2.1];omega
  have hxr:aJ (aO lev) lev (ents x.L)/\aJ (aO lev) lev (ents Ln):=by
    rcases hl with h | h
    · rw[<- h.2.1,<- h.2.2.1];exact⟨h2.right,h1.right⟩
    · rw[<- h.2.1,<- h.2.2.1];exact⟨h1.right,h2.right⟩
  have Yv:(wr (aO lev) lev l1).length+(wr (aO lev) lev l2).length<=300:=by
    rcases hl with h | h
    · rw[h.2.2.1]at s2 ⊢;omega
    · rw[h.2.1]at s1 ⊢;omega
  rw[aeC]
  refine OV (B:=fun q=>(base<=q/\T q=none/\q≠b/\q≠b1)/\c_.heap.size<=q) (w:=aa c_) (J:=dH (aO lev) l1 e2.key l2) (above:=e2.key) (Yt.nd x (by simp)).nd aeD.nd (by rw[<- aeB];exact er1.k) Sy.2.1 hxr.1 hxr.2 (by have:=hxn.1;simp only[List.length_map]at this;omega) (by have:=hxn.2;simp only[List.length_map]at this;omega) (by omega) (fun q hq=>?_) ?_ j1 (by intro h;rw[h]at Yu;simp at Yu;omega) (fun hb=>CV j1 hb (by omega)) fun ls sl dU aeE pp pH=>⟨pH.aj,If.bne (fun h=>(h rfl).elim) fun _=>?_⟩
  · exact⟨⟨by have:c_.heap.size<=q:=hq;omega,sup q hq,by have:c_.heap.size<=q:=hq;omega,by have:c_.heap.size<=q:=hq;omega⟩,hq⟩
  · rcases hl with h | h
    · rw[h.1,h.2.1,h.2.2.1];rfl
    · rw[h.1,h.2.1,h.2.2.1];rfl
  have iT:Ext No c_ dU:=pH.aj;have V1:=iT.size;have HC:=ad kM iT;have HW:=ad ab7 iT;have U8:=RQ.no iT;refine⟨s,Cell.ai HW rfl,Nm.as vX (Ix.elem U8.nd.rd (bX L) (by decide) (by omega) (by omega) fun bb4 o4 hi6 _ zo=>?_)⟩;simp only[Int.toNat_natCast]at hi6 zo;refine⟨_,zo 0 _ rfl,s,Cell.ai HW rfl,Nm.as T6 (Nm.as T6 (Ar.i64 (by omega) ?_))⟩;have hfk:=U8.kb _ (List.getElem_mem hi6);have efk:=U8.nd.get hi6;refine Ah U8 (by omega) (by simpa using V2) (by omega) fun s' oS UG vH qX=>?_
  rw[Int.toNat_natCast]at UG;have Yq:¬ s.aq=some b1:=fun h=>(nd.sb _ h).2.2.2 rfl
  have BG:¬ s.aq=some b:=fun h=>(nd.sb _ h).2.2.1 rfl
  have EH:=af HW qX Yq;refine aF.mk EH (by simp) rfl fun hU K3=>?_
  have uW:Ext (·=b1) oS hU:=K3.ext;have SG:sg hU.heap b1 2 ((lev+1:Nat):Int) s':=K3.get EH;have xx:Ext (fun q=>s.aq=some q∨q=b1) dU hU:=(qX.mono fun _ _ h=> .inl h).trans uW fun _ _ h=> .inr h
  have slt:∀q,s.aq=some q->q < w.heap.size/\base<=q/\T q=none:=fun q hq=>⟨(nd.own.lt hq).2,(nd.sb q hq).1,(nd.sb q hq).2.1⟩
  have bne:b≠b1:=fun h=>by
    have e:=g;rw[h,g1]at e;simp only[Option.some.injEq,Obj.cells.injEq]at e;exact absurd e.2.1 (by decide)
  refine Nm.as vX ?_;have BF:=af (af HC qX BG) uW bne;have Mp:=UG.ext uW fun q hq _ h=>hq.2.2.2 h
  have U9:dq hU.heap (fun q=>(base<=q/\T q=none/\q≠b/\q≠b1)/\c_.heap.size<=q) (aO lev) lev sl ls:=aeE.ext xx fun q hq _ h=>by
    rcases h with h | h
    · have:=slt q h;omega
    · omega
  have Yw:aY hU.heap T m M1:=(R14.no iT).ext xx fun q hq=>by
    rcases hq with h | h
    · exact(slt q h).2.2
    · rw[h];exact FQ
  have tL:Ext (fun q=>Ts T q∨base<=q) w hU:=((Bv.mono fun _ _ h=> .inl h).no iT).trans xx fun q hq h=>by
    rcases h with h | h
    · exact .inr (slt q h).2.1
    · exact .inr (by omega)
  have RP:ents (L.take (p+1)++L.drop (p+1+1))=a++(e1::c):=by
    show List.map Prod.snd _=_;rw[List.map_append,List.map_take,List.map_drop,show List.map Prod.snd L=_ from eL];rw[show a++(e1::e2::c)=(a++[e1])++(e2::c) by simp,List.take_left' (by simp[hp]),show p+1+1=(a++[e1]).length+1 by simp[hp],List.drop_append];simp
  have U_:jX M1.f t lev (bf ls) (k1++k2) (p1++p2):=iz.NG pp j2 j3;have hrr:=fC.1 (eL ▸ FG.xL);have OZ:=List.pairwise_cons.1 hrr.2.1;have hr3:=List.pairwise_cons.1 OZ.2;have l12:bW e1.key e2.key:=OZ.1 e2 (by simp);have aeF:xK (a++(e1::e2::c)):=eL ▸ FG;have ok':sS (a++(e1::e2::c)):=eL ▸ ok;have aeG:(L.take (p+1)++L.drop (p+1+1)).length<=1000:=by simp only[List.length_append,List.length_take,List.length_drop];omega
  have hkx:L[p].1.k.aq=L[p].1.k.aq:=rfl
  refine Dv (i:=(p:Int)) (mid:=e1) Yw BF SG tb FQ gE Mp (U9.mono fun q _ h=>h.1) U_ RP (by rw[hp]) ?_ (fun q hq=>?_) (fun y hy q hq=>?_) aeF.del (fun e he=>ok' e ?_) dn ?_ aeG (ba.cB (R:=fun p=>iR M.f M1.f p) (fun h=>⟨h.sub fun _ h=>List.mem_append_left _ h,h.sub fun _ h=>List.mem_append_right _ h⟩) (fun h hk=>bu.cB h hk) (kpq fun q hq=>by simp[hq]))
    (bc.cB (R:=fun p=>iR M.f M1.f p) (fun h=>⟨h.sub fun _ h=>List.mem_append_left _ h,h.sub fun _ h=>List.mem_append_right _ h⟩) (fun h hk=>bu.cB h hk) (kpq fun q hq=>by simp[hq])) OY (fun y hy=>?_) (fun e he y hy=>?_) (fun h0=>?_) (by have:=dc.len;omega) fun sl' Zx cU rs T' m' M' w' R' Aj tg x lm' lp' FP Iu=>k sl' Zx cU rs T' m' M' w' R' Aj (fun q hq=>tg q (Nat.lt_of_lt_of_le hq tL.size)) (tL.trans x fun q _ h=>h) lm' lp' ((dc.trans FP).as (by omega) (by simp) (by simp)) Iu
  · have:=efk.k;rw[show L[p].2.key=e1.key by rw[U7]]at this
    exact Rd.ext this xx fun a' q ha hq h=>by
      have h4:=hfk q (.inl (by have h9:L[p].1.k.a=some a':=ha;simp[Sl.aq,h9,hq]));rcases h with h | h
      · exact h4.2.2 h
      · exact h4.1.2.2.2 h
  · have h4:=hfk q (.inl hq);exact⟨h4.1,by have:=xx.size;omega,by rw[vH];exact h4.2.2⟩
  · have:=(U9.sep y hy).2.2 q hq;rw[vH];intro h;have:=slt q h;omega
  · simp only[List.mem_append,List.mem_cons]at he ⊢;rcases he with h | h | h
    · exact .inl h
    · exact .inr (.inl h)
    · exact .inr (.inr (.inr h))
  · rw[eL,dJ,dC,dC]at jw;rw[dJ,dC];omega
  · rcases List.mem_append.1 hy with h | h
    · exact lo1 y h
    · intro h5;exact Z6 y h (h5.trans l12)
  · rcases List.mem_append.1 hy with h | h
    · exact(ab6 y h).trans (hr3.1 e he)
    · exact hc e he y h
  · have e2':aO lev=2:=if_neg (by omega);rw[e2']at pp Yu;exact pp.SD (by omega)
end
end Go.Proofs.YtpjbalhhlaofmaaGreat
namespace Go.V
theorem KA{k:List Int}{o:Option (List Int)}{l:List KV}{x:KV}(h:x∈kH k o l):x.1=k∨x∈l:=by
 unfold kH at h;rcases List.mem_append.1 h with h | h
 .exact .inr (List.mem_filter.1 h).1
 .rcases List.mem_append.1 h with h | h
  .cases o with
   | none=>simp at h
   | some v=>simp at h;exact .inl (by rw[h])
  .exact .inr (List.mem_filter.1 h).1
end Go.V
namespace Go.Proofs.YtpjbalhhlaofmaaGreat
open Go.V
theorem rE{f:bH}{t:Int}{lev:Nat}{x:oT}{kvs:List KV}{ps:List Rf}(h:jX f t lev (bf [x]) kvs ps):vW f t lev (ents x.L) kvs ps:=by
 have e:bf [x]=[(x.key,ents x.L)]:=rfl;rw[e]at h;generalize x.key=k at h
 cases h with
 | one h=>exact h
section
variable {w:Wd} {T:Nat->Option Nat} {m:bB} {M:Mm}
def Dz(b lN:Nat)(r j:Int)(HV:Sl)(J2:Int->Sl->Sl->Pw)(K:Sl->Int->Pw)(w:Wd):Prop:=
  ∃S:Pw,S (aa w)/\
  ∃n_:Value,ae S (Addr.mk b 0 none) (n_)/\
  ∃sN:Int,ae S ((Addr.mk b 0 none).add 1) (.int .u32 sN)/\
  ∃tI:Int,ae S (Addr.mk lN 0 none) (.int .u8 tI)/\
  ∃oc:Int,ae S ((Addr.mk lN 0 none).add 1) (.int .u8 oc)/\
  ∃lz:Sl,ae S ((Addr.mk lN 0 none).add 2) (.slice lz.a lz.len lz.cap)/\
  (
  dw tI oc lz j (aa w) fun KB ab9 JL aca dA=>
  S dA/\
  (
  bn n_ sN KB ab9 JL aca dA fun IA IB Z7 Va dg=>
  S dg/\
  ag dg (.cells [.int .u8 0,.int .u8 0,.slice none 0 0].toArray 142) fun Wu eG=>
  S eG/\
  List.length (α:=Value) [.int .u8 IA,.int .u8 IB,.slice Z7.a Z7.len Z7.cap]=3/\jB eG (Addr.mk Wu 0 none) [.int .u8 IA,.int .u8 IB,.slice Z7.a Z7.len Z7.cap] fun cX=>
  S cX/\
  If (Va != 0) (
  K ⟨none,0,0⟩ Va cX) (
  ∃S:Pw,S (aa cX)/\
  ∃qW:Value,ae S (Addr.mk b 0 none) (qW)/\
  ∃pA:Sl,ae S ((Addr.mk lN 0 none).add 2) (.slice pA.a pA.len pA.cap)/\
  Ix pA.a pA.len j 9 fun LP=>
  ∃lC:Int,ae S (LP.add 6) (.int .u32 lC)/\
  ∃ng:Int,ae S ((LP.add 6).add 1) (.int .u64 ng)/\
  ∃rp:Int,ae S ((LP.add 6).add 2) (.int .u16 rp)/\
  BM qW fun _y=>
  pK pz qW "Drop" [.agg ([.int .u32 lC,.int .u64 ng,.int .u16 rp]).toArray] [.one (.int .i64)] (fun Ur c_=>
  S c_/\
  If (Ur != 0) (
  K ⟨none,0,0⟩ Ur c_) (
  ∃S:Pw,S (aa c_)/\
  Ix HV.a HV.len 0 4 fun QW=>
  ∃xI:Int,ae S (QW.add 1) (.int .u8 xI)/\
  ∃uJ:Int,ae S ((QW.add 1).add 1) (.int .u8 uJ)/\
  ∃wg:Sl,ae S ((QW.add 1).add 2) (.slice wg.a wg.len wg.cap)/\
  ∃Dg:Int,ae S (Addr.mk Wu 0 none) (.int .u8 Dg)/\
  ∃Dh:Int,ae S ((Addr.mk Wu 0 none).add 1) (.int .u8 Dh)/\
  ∃wh:Sl,ae S ((Addr.mk Wu 0 none).add 2) (.slice wh.a wh.len wh.cap)/\
  ∃sL:Sl,ae S ((Addr.mk lN 0 none).add 2) (.slice sL.a sL.len sL.cap)/\
  Nm (iE r j) fun Tx=>
  Ix sL.a sL.len Tx 9 fun Xh=>
  ∃sM:Sl,ae S Xh (.slice sM.a sM.len sM.cap)/\
  eS xI uJ wg Dg Dh wh sM (decide (j < r)) (aa c_) fun Yr SE dU=>
  S dU/\
  If (SE != 0) (
  K ⟨none,0,0⟩ SE dU) (
  ∃iQ:Sl,Cell dU ((Addr.mk lN 0 none).add 2) (.slice iQ.a iQ.len iQ.cap)/\
  Nm (gT r j) fun Tz=>
  Ix iQ.a iQ.len Tz 9 fun a_7=>
  ∃ma:Sl,Cell dU a_7 (.slice ma.a ma.len ma.cap)/\
  ∃nZ:Sl,Cell dU ((Addr.mk lN 0 none).add 2) (.slice nZ.a nZ.len nZ.cap)/\
  Nm (iE r j) fun Us=>
  Nm (iE r j) fun Uo=>
  Ar .i64 (Uo+1) fun Xq=>
  aB nZ Us Xq dU fun OJ oS=>
  aF oS ((Addr.mk lN 0 none).add 2) (.slice OJ.a OJ.len OJ.cap) fun hU=>
  Nm (gT r j) fun z_7=>
  J2 z_7 Yr ma hU))) cf ((aa cX))))/\(
  ag dA (.cells [.int .u8 0,.int .u8 0,.slice none 0 0].toArray 142) fun ZW vK=>
  S vK/\
  bn n_ sN KB ab9 JL aca vK fun Wv Ww FT acb yX=>
  S yX/\
  List.length (α:=Value) [.int .u8 Wv,.int .u8 Ww,.slice FT.a FT.len FT.cap]=3/\jB yX (Addr.mk ZW 0 none) [.int .u8 Wv,.int .u8 Ww,.slice FT.a FT.len FT.cap] fun pG=>
  S pG/\
  If (acb != 0) (
  K ⟨none,0,0⟩ acb pG) (
  ∃S:Pw,S (aa pG)/\
  ∃Ft:Value,ae S (Addr.mk b 0 none) (Ft)/\
  ∃zZ:Sl,ae S ((Addr.mk lN 0 none).add 2) (.slice zZ.a zZ.len zZ.cap)/\
  Ix zZ.a zZ.len j 9 fun a_8=>
  ∃Ki:Int,ae S (a_8.add 6) (.int .u32 Ki)/\
  ∃Kj:Int,ae S ((a_8.add 6).add 1) (.int .u64 Kj)/\
  ∃Kk:Int,ae S ((a_8.add 6).add 2) (.int .u16 Kk)/\
  BM Ft fun _y_1=>
  pK pz Ft "Drop" [.agg ([.int .u32 Ki,.int .u64 Kj,.int .u16 Kk]).toArray] [.one (.int .i64)] (fun VN xD=>
  S xD/\
  If (VN != 0) (
  K ⟨none,0,0⟩ VN xD) (
  ∃S:Pw,S (aa xD)/\
  Ix HV.a HV.len 0 4 fun a_9=>
  ∃Kl:Int,ae S (a_9.add 1) (.int .u8 Kl)/\
  ∃Km:Int,ae S ((a_9.add 1).add 1) (.int .u8 Km)/\
  ∃ED:Sl,ae S ((a_9.add 1).add 2) (.slice ED.a ED.len ED.cap)/\
  ∃Kn:Int,ae S (Addr.mk ZW 0 none) (.int .u8 Kn)/\
  ∃Ko:Int,ae S ((Addr.mk ZW 0 none).add 1) (.int .u8 Ko)/\
  ∃Di:Sl,ae S ((Addr.mk ZW 0 none).add 2) (.slice Di.a Di.len Di.cap)/\
  ∃tG:Sl,ae S ((Addr.mk lN 0 none).add 2) (.slice tG.a tG.len tG.cap)/\
  Nm (iE r j) fun z_8=>
  Ix tG.a tG.len z_8 9 fun Yx=>
  ∃uV:Sl,ae S Yx (.slice uV.a uV.len uV.cap)/\
  eS Kl Km ED Kn Ko Di uV (decide (j < r)) (aa xD) fun aeH acd py=>
  S py/\
  If (acd != 0) (
  K ⟨none,0,0⟩ acd py) (
  ∃tH:Sl,Cell py ((Addr.mk lN 0 none).add 2) (.slice tH.a tH.len tH.cap)/\
  Nm (gT r j) fun z_9=>
  Ix tH.a tH.len z_9 9 fun aeI=>
  ∃CI:Sl,Cell py aeI (.slice CI.a CI.len CI.cap)/\
  ∃CK:Sl,Cell py ((Addr.mk lN 0 none).add 2) (.slice CK.a CK.len CK.cap)/\
  Nm (iE r j) fun aeJ=>
  Nm (iE r j) fun aeK=>
  Ar .i64 (aeK+1) fun aeL=>
  aB CK aeJ aeL py fun K1 xY=>
  aF xY ((Addr.mk lN 0 none).add 2) (.slice K1.a K1.len K1.cap) fun CH=>
  Nm (gT r j) fun aeM=>
  J2 aeM aeH CI CH))) cf ((aa pG)))))/\(
  ag (aa w) (.cells [.int .u8 0,.int .u8 0,.slice none 0 0].toArray 142) fun VV fM=>
  S fM/\
  dw tI oc lz j fM fun aeN aeO L_ aeP Fs=>
  S Fs/\
  bn n_ sN aeN aeO L_ aeP Fs fun Wx Wy FU ace yY=>
  S yY/\
  List.length (α:=Value) [.int .u8 Wx,.int .u8 Wy,.slice FU.a FU.len FU.cap]=3/\jB yY (Addr.mk VV 0 none) [.int .u8 Wx,.int .u8 Wy,.slice FU.a FU.len FU.cap] fun Bc=>
  S Bc/\
  If (ace != 0) (
  K ⟨none,0,0⟩ ace Bc) (
  ∃S:Pw,S (aa Bc)/\
  ∃Fu:Value,ae S (Addr.mk b 0 none) (Fu)/\
  ∃z_:Sl,ae S ((Addr.mk lN 0 none).add 2) (.slice z_.a z_.len z_.cap)/\
  Ix z_.a z_.len j 9 fun Yy=>
  ∃HG:Int,ae S (Yy.add 6) (.int .u32 HG)/\
  ∃HH:Int,ae S ((Yy.add 6).add 1) (.int .u64 HH)/\
  ∃HI:Int,ae S ((Yy.add 6).add 2) (.int .u16 HI)/\
  BM Fu fun _y_2=>
  pK pz Fu "Drop" [.agg ([.int .u32 HG,.int .u64 HH,.int .u16 HI]).toArray] [.one (.int .i64)] (fun Tw Bd=>
  S Bd/\
  If (Tw != 0) (
  K ⟨none,0,0⟩ Tw Bd) (
  ∃S:Pw,S (aa Bd)/\
  Ix HV.a HV.len 0 4 fun Yz=>
  ∃HJ:Int,ae S (Yz.add 1) (.int .u8 HJ)/\
  ∃HK:Int,ae S ((Yz.add 1).add 1) (.int .u8 HK)/\
  ∃Dj:Sl,ae S ((Yz.add 1).add 2) (.slice Dj.a Dj.len Dj.cap)/\
  ∃HL:Int,ae S (Addr.mk VV 0 none) (.int .u8 HL)/\
  ∃HM:Int,ae S ((Addr.mk VV 0 none).add 1) (.int .u8 HM)/\
  ∃EE:Sl,ae S ((Addr.mk VV 0 none).add 2) (.slice EE.a EE.len EE.cap)/\
  ∃Aa:Sl,ae S ((Addr.mk lN 0 none).add 2) (.slice Aa.a Aa.len Aa.cap)/\
  Nm (iE r j) fun aeQ=>
  Ix Aa.a Aa.len aeQ 9 fun aeR=>
  ∃CL:Sl,ae S aeR (.slice CL.a CL.len CL.cap)/\
  eS HJ HK Dj HL HM EE CL (decide (j < r)) (aa Bd) fun aeS Wz Ba=>
  S Ba/\
  If (Wz != 0) (
  K ⟨none,0,0⟩ Wz Ba) (
  ∃Ab:Sl,Cell Ba ((Addr.mk lN 0 none).add 2) (.slice Ab.a Ab.len Ab.cap)/\
  Nm (gT r j) fun aeT=>
  Ix Ab.a Ab.len aeT 9 fun aeU=>
  ∃CM:Sl,Cell Ba aeU (.slice CM.a CM.len CM.cap)/\
  ∃NU:Sl,Cell Ba ((Addr.mk lN 0 none).add 2) (.slice NU.a NU.len NU.cap)/\
  Nm (iE r j) fun aeV=>
  Nm (iE r j) fun aeW=>
  Ar .i64 (aeW+1) fun aeX=>
  aB NU aeV aeX Ba fun Rc Tv=>
  aF Tv ((Addr.mk lN 0 none).add 2) (.slice Rc.a Rc.len Rc.cap) fun OG=>
  Nm (gT r j) fun aeY=>
  J2 aeY aeS CM OG))) cf ((aa Bc))))
theorem PC{t i:Int}{lev b b1 j:Nat}{l0 s:Sl}{L:List (aL×aH)}{ln:List aH}{J2:Int->Sl->Sl->Pw}{K:Sl->Int->Pw}
  (R:aY w.heap T m M) (g:w.heap[b]? = some (.cells [eW m,.int .u32 t].toArray 107 (0,0))) (g1:sg w.heap b1 2 ((lev+1:Nat):Int) s) (nd:oQ w.heap s L) (hj:j < L.length) (Mf:lev+1<=30) (hN:mI M.f t (aO lev) lev L[j].2.cd ln) (bC:ln≠[])
  (k:∀w' b3 sn Ln,Ext No w w'->w.heap.size<=b3->sg w'.heap b3 (aO lev) lev sn->iP w'.heap w.heap.size sn Ln->ents Ln=ln->tX b b1 b3 i j l0 J2 K 0 w'):Dz b b1 i j l0 J2 K w:=by
 unfold Dz;have ek:bE ((lev:Nat):Int)=aO lev:=NQ lev;have el:(((lev+1:Nat):Int) - 1)=lev:=by omega
 rw[<- ek]at hN;refine⟨Ext No w,(Ext.refl _ _).drew,_,ae.cell (Cell.ai g rfl),_,ae.cell (Cell.ai g rfl),_,ae.cell (Cell.ai g1 rfl),_,ae.cell (Cell.ai g1 rfl),_,ae.cell (Cell.ai g1 rfl),?_,?_⟩
 .refine lE (w:=aa w) nd (by omega) (by simpa using hj) (by omega) fun dA dR=>⟨dR.aj,?_,?_⟩
  .simp only[Int.toNat_natCast,el];have uM:=dR.aj;have OC:=uM.size
   refine ug (R.no uM) hN bC fun sn Ln dg oL eL fY=>⟨uM.no fY,?_⟩
   have Ui:=fY.size
   refine ag.mk fun b3 eG lD=>⟨(uM.no fY).no lD.ext,vU lD.get rfl fun cX gG eE K2=>?_⟩
   have h3:=lD.at_;have WA:Ext No dg cX:=lD.ext.trans eE fun q hq h=>by omega
   have sP:Ext No w cX:=(uM.no fY).no WA;rw[ek]at gG;exact⟨sP,k cX b3 sn Ln sP (by omega) gG ((oL.no WA).mono OC) eL⟩
  .simp only[Int.toNat_natCast,el];have uM:=dR.aj;have OC:=uM.size
   refine ag.mk fun b3 vK PD=>⟨uM.no PD.ext,?_⟩
   have h3:=PD.at_;have z18:=PD.size;have Bh:=uM.no PD.ext
   refine ug (R.no Bh) hN bC fun sn Ln dg oL eL fY=>⟨Bh.no fY,?_⟩
   refine vU (ad PD.get fY) rfl fun cX gG eE K2=>?_
   have SH:Ext (·=b3) dg cX:=eE;have sP:Ext No w cX:=(Bh.no fY).trans eE fun q hq h=>by omega
   rw[ek]at gG;exact⟨sP,k cX b3 sn Ln sP (by omega) gG ((oL.ext SH fun q hq _ h=>by omega).mono (by omega)) eL⟩
 .refine ag.mk fun b3 fM n25=>⟨n25.ext.aj,?_⟩
  have h3:=n25.at_;have z25:=n25.size;have h3':b3=w.heap.size:=h3;have agR:fM.heap.size=w.heap.size+1:=z25;have vM:Ext No w fM:=n25.ext.aj
  refine lE (nd.no vM) (by omega) (by simpa using hj) (by omega) fun Fs uX=>⟨vM.no uX,?_⟩
  simp only[Int.toNat_natCast,el];have s26:=uX.size;have YA:=vM.no uX
  refine ug (R.no YA) hN bC fun sn Ln dg oL eL fY=>⟨YA.no fY,?_⟩
  refine vU (ad (ad n25.get uX) fY) rfl fun cX gG eE K2=>?_
  have SH:Ext (·=b3) dg cX:=eE;have sP:Ext No w cX:=(YA.no fY).trans eE fun q hq h=>by omega
  rw[ek]at gG;exact⟨sP,k cX b3 sn Ln sP (by omega) gG ((oL.ext SH fun q hq _ h=>by omega).mono (by omega)) eL⟩
end
section
variable {w:Wd} {T:Nat->Option Nat} {m:bB} {M:Mm}
set_option maxHeartbeats 8000000 in
theorem KC{t:Int}{lev:Nat}(ih:HU t lev):Kx t lev:=by
 intro w T m M base s L kvs ps oK oV key val d K R nd eB hr Nl DU h2 hk hs ho hn k;apply uv;have sup:∀q,w.heap.size<=q->T q=none:=fun q hq=>R.iA hq
 have sh:=hr.shape;unfold jk at sh;have dn:lev+1<=30:=by rcases sh with h | h <;> omega
 have FG:xK (ents L):=hr.FG;have IZ:=gk Nl;have JO:L.length<=1000:=by have:=me (L:=L) rfl;omega
 have nl:=nd.nd.len;refine ag.mk fun b w1 n1=>ag.mk fun b1 w2 n2=>ag.mk fun b2 w3 n3=>?_
 have hb:=n1.at_;have gE:=n2.at_;have lO:=n3.at_;have z1:=n1.size;have z2:=n2.size;have z3:=n3.size;have gp:Ext No w w3:=(n1.ext.no n2.ext).no n3.ext;have g3:=ad (ad n1.get n2.ext) n3.ext;have gG:=ad n2.get n3.ext;have Mn:=n3.get;have ZI:=nd.no gp
 have h0e:∃e l,ents L=e::l/\e.key=[]:=by
  cases hL:ents L with
  | nil=>exact absurd (by have:=congrArg List.length hL;rwa [List.length_map]at this) (show L.length≠0 by omega)
  | cons e l=>exact⟨e,l,rfl,FG.hd e l hL⟩
 refine⟨_,Cell.ai gG rfl,_,Cell.ai gG rfl,_,Cell.ai gG rfl,_,Cell.ai Mn rfl,vT ZI.nd (Rd.no ho.kR gp) ho.k8 (by omega) hr.ord h0e fun i w4 RA x4=>?_⟩;have gF:Ext No w w4:=gp.no x4;have s4:=x4.size;have s04:=gF.size;have g4:=ad g3 x4;have kM:sg w4.heap b1 2 ((lev+1:Nat):Int) s:=ad gG x4;have wB:=ad Mn x4;have nd4:=ZI.no x4
 -- the child
 have NC:i < L.length:=by have:=RA.lt;simpa using this
 obtain⟨a,mid,c,eL,hia,hLi⟩ : ∃a mid c,ents L=a++(mid::c)/\i=a.length/\L[i].2=mid:=by
  refine⟨(ents L).take i,L[i].2,(ents L).drop (i+1),?_,?_,rfl⟩
  .conv=>lhs;rw[<- List.take_append_drop i (ents L),List.drop_eq_getElem_cons RA.lt]
   simp
  .rw[List.length_take];have:=RA.lt;omega
 have hL2:L.length=a.length+(c.length+1):=by have:=congrArg List.length eL;simpa using this
 have cle:∀e∈a++[mid],¬ bW key e.key:=fun e he=>by
  obtain⟨j,hj,rfl⟩:=List.getElem_of_mem he;have oP:j < (ents L).length:=by rw[eL];simp at hj ⊢;omega
  have:=RA.le j oP (by simp at hj;omega)
  have e2:(ents L)[j]=(a++[mid])[j]:=by
   have e3:ents L=(a++[mid])++c:=by rw[eL];simp
   simp only[e3];rw[List.getElem_append_left hj]
  rw[<- e2];exact this
 have cgt:∀e∈c,bW key e.key:=fun e he=>by
  obtain⟨j,hj,rfl⟩:=List.getElem_of_mem he;have oP:i+1+j < (ents L).length:=by rw[eL];simp;omega
  have:=RA.gt (i+1+j) oP (by omega)
  have e2:(ents L)[i+1+j]=c[j]:=by
   have e3:ents L=(a++[mid])++c:=by rw[eL];simp
   simp only[e3];rw[List.getElem_append_right (by simp;omega)];congr 1;simp;omega
  rw[<- e2];exact this
 have od:kT (a++(mid::c)):=eL ▸ FG.xL;rw[eL]at hk;obtain⟨ka,kb',pa,pb',ba,Nb,rfl,rfl,OY⟩:=aM.split hk od
 cases Nb with
 | @cons _ _ FJ kc pm pc hT lo hi bc=>
 have hrc:=List.pairwise_cons.1 (fC.1 od).2.1
 have hcm:∀e∈c,∀x∈FJ,bW x.1 e.key:=fun e he x hx=>by
  cases c with
  | nil=>cases he
  | cons e0 c' =>
   have h1:=hi e0 c' rfl x hx;rcases List.mem_cons.1 he with h | h
   .rw[h];exact h1
   .exact h1.trans ((List.pairwise_cons.1 hrc.2).1 e h)
 have kca:∀x∈ka,bW x.1 key:=fun x hx=>(OY mid (by simp) x hx).ND (cle mid (by simp))
 have kcc:∀x∈kc,bW key x.1:=fun x hx=>by
  cases c with
  | nil=>cases bc;cases hx
  | cons e0 c'=>exact(cgt e0 (by simp)).ND (xF bc (fB.2 hrc.2) _ _ rfl x hx)
 have Yg:kH key (K8 d val) (ka++(FJ++kc))=ka++(kH key (K8 d val) FJ++kc):=xG kca kcc;rw[Yg]at k;generalize hkm:kH key (K8 d val) FJ=YB at *
 have lo':∀x∈YB,¬ bW x.1 mid.key:=fun x hx=>by
  rw[<- hkm]at hx;rcases KA hx with h | h
  .rw[h];exact cle mid (by simp)
  .exact lo x h
 have xX:∀e∈c,∀x∈YB,bW x.1 e.key:=fun e he x hx=>by
  rw[<- hkm]at hx;rcases KA hx with h | h
  .rw[h];exact cgt e he
  .exact hcm e he x h
 have Yh:Sub pm M:=Sub.left (Sub.right hs)
 have nS:∀{q},q < w4.heap.size->T q=none->¬ (Ts T q∨w4.heap.size<=q):=fun h1 h2 h=>by
  rcases h with h | h
  .exact h h2
  .omega
 have nSb:=nS (q:=b) (by omega) (sup b (by omega));have Vb:=nS (q:=b1) (by omega) (sup b1 (by omega));have YC:=nS (q:=b2) (by omega) (sup b2 (by omega));refine⟨Ext (fun q=>Ts T q∨w4.heap.size<=q) w4,(Ext.refl _ _).drew,eW m,ae.dQ (Cell.ai g4 rfl) nSb,_,ae.dQ (Cell.ai g4 rfl) nSb,_,ae.dQ (Cell.ai kM rfl) Vb,_,ae.dQ (Cell.ai kM rfl) Vb,_,ae.dQ (Cell.ai kM rfl) Vb,_,ae.dQ (Cell.ai wB rfl) YC,_,ae.dQ (Cell.ai wB rfl) YC,_,ae.dQ (Cell.ai wB rfl) YC,?_⟩
 refine lE (w:=aa w4) nd4.nd (by omega) (by simpa using NC) (by omega) fun w5 x5=>⟨x5.aj.aG.mono fun _ _ h=>h,?_⟩
 have Ku:Ext No w4 w5:=x5.aj;have BB:Ext No w w5:=gF.no Ku;have s5:=Ku.size;have el:(((lev+1:Nat):Int) - 1)=lev:=by omega
 simp only[Int.toNat_natCast,el,hLi];refine ih (R.no BB) hT Yh (ho.ext BB.aG fun _ _ h=>h) hn fun l0 YD U5 T' m' M' w6 A=>?_
 rw[hkm]at A;obtain⟨R6,Aj,tg,xN,YE,lp6,cg⟩:=A
 have Eu:Ext (fun q=>Ts T q∨w4.heap.size<=q) w4 w6:=Ku.aG.trans xN fun q hq h=>by
  rcases h with h | h
  .exact .inl h
  .exact .inr (by omega)
 have s6:=xN.size;have g6:=af g4 Eu nSb;have wj:sg w6.heap b1 2 ((lev+1:Nat):Int) s:=af kM Eu Vb;have Iy:∀q,q < w5.heap.size->T' q=T q:=tg
 have tb':T' b=none:=by rw[Iy b (by omega)];exact sup b (by omega)
 have acf:T' b1=none:=by rw[Iy b1 (by omega)];exact sup b1 (by omega)
 rw[<- nt Aj]at g6
 have nd6:kQ w6.heap (fun q=>base<=q/\T' q=none/\q≠b/\q≠b1) s L:=((nd.mono (B':=fun q=>base<=q/\T' q=none/\q≠b/\q≠b1/\q < w.heap.size) fun q hq h=>⟨h.1,by rw[Iy q (by omega)];exact h.2,by omega,by omega,hq⟩).ext (gF.aG.trans Eu fun _ _ h=>h) fun q hq _ h=>by
  have:=Iy q (by omega);rcases h with h | h
  .exact h (by rw[<- this];exact hq.2.1)
  .omega).mono fun q _ h=>⟨h.1,h.2.1,h.2.2.1,h.2.2.2.1⟩
 have aeZ:dq w6.heap (fun q=>(base<=q/\T' q=none/\q≠b/\q≠b1)/\w5.heap.size<=q) (aO lev) lev l0 YD:=YE.mono fun q _ h=>⟨⟨by omega,h.2,by omega,by omega⟩,h.1⟩
 have Qp:l0.len=YD.length:=YE.len;have slt:∀q,s.aq=some q->q < w.heap.size:=fun q hq=>(nd.own.lt hq).2
 refine⟨Eu,If.bne (fun h=>(h rfl).elim) fun _=>⟨s,Cell.ai wj rfl,Ix.elem nd6.nd.rd (bX L) (by decide) (by omega) (by omega) fun bb o LU DT bq=>?_⟩⟩;simp only[Int.toNat_natCast]at LU bq
 have AX:Ext (fun q=>Ts T q∨base<=q) w w6:=gF.aG.trans Eu fun q hq h=>by
  rcases h with h | h
  .exact .inl h
  .exact .inr (by omega)
 refine⟨_,bq 0 _ rfl,fun i l first w'=>lI b b1 i l first K w',⟨fun t' w'=>Ext No w6 w'/\(t'=true->∃x,YD=[x]/\3 * (wr (aO lev) lev (ents x.L)).length < 224)/\(t'=false->0 < lev->∀x∈bf YD,2<=x.2.length),?_,?_⟩,fun _ i l first w' h=>h⟩
 .refine If.beq (fun h1=>⟨s,Cell.ai wj rfl,If.dec (fun _=>?_) fun h=>by omega⟩) fun h1=>?_
  .obtain⟨x,rfl⟩ : ∃x,YD=[x]:=List.length_eq_one_iff.1 (by omega)
   have lx:=rE lp6;have hxc:=gk lx.short;refine Ix.elem YE.rd (dK _ _ _) (by decide) (by decide) (by omega) fun PB o2 hi4 _ dv=>?_
   replace dv:∀jj v,(iy (aO lev) lev x)[jj]? = some v->Cell w6 ⟨PB,o2+jj,none⟩ v:=dv
   refine⟨_,dv 1 _ rfl,_,dv 2 _ rfl,_,dv 3 _ rfl,RN (YE.nd x (by simp)).nd lx.right (by simp only[List.length_map]at hxc;omega) fun w7 x7=>If.dec (fun KD=>⟨x7,fun _=>⟨x,rfl,KD⟩,fun h=>absurd h (by decide)⟩) fun KD=>?_⟩;refine Ix.elem (YE.no x7).rd (dK _ _ _) (by decide) (by decide) (by omega) fun bb3 o3 hi5 _ pC=>?_
   replace pC:∀jj v,(iy (aO lev) lev x)[jj]? = some v->Cell w7 ⟨bb3,o3+jj,none⟩ v:=pC
   have h2x:0 < lev->2<=(ents x.L).length:=fun h0=>by
    have e2:aO lev=2:=if_neg (by omega);have hh:=lx.right;rw[e2]at hh KD;rw[fA]at KD;have qp:=hh.FG
    cases hx:ents x.L with
    | nil=>exact(lx.ne hx).elim
    | cons e l=>
     cases l with
     | nil=>
      have:=qp.hd e [] hx;rw[hx,dC,oU,this,q_]at KD;simp at KD
     | cons e2 l=>simp
   have fin:∀q∈bf [x],0 < lev->2<=q.2.length:=fun q hq h0=>by
    have:q=(x.key,ents x.L):=by simpa[bf] using hq
    rw[this];exact h2x h0
   refine⟨_,pC 1 _ rfl,If.beq (fun CO=>Ix.elem (YE.no x7).rd (dK _ _ _) (by decide) (by decide) (by omega) fun bb4 o4 hi6 _ zo=>?_) fun CO=>⟨x7,fun h=>absurd h (by decide),fun _ h0 q hq=>fin q hq h0⟩⟩;replace zo:∀jj v,(iy (aO lev) lev x)[jj]? = some v->Cell w7 ⟨bb4,o4+jj,none⟩ v:=zo
   have h0:0 < lev:=by
    rcases Nat.eq_zero_or_pos lev with h | h
    .subst h;exact absurd CO (by decide)
    .exact h
   have ZR:=(YE.nd x (by simp)).nd.len;have:=h2x h0;simp only[List.length_map]at this;refine⟨_,zo 3 _ rfl,x7,fun h=>?_,fun _ h0 q hq=>fin q hq h0⟩;have h':((x.s.len:Int) == 1)=true:=h;have:=of_decide_eq_true h';omega
  .refine⟨Ext.refl _ _,fun h=>absurd h (by decide),fun _ h0 x hx=>?_⟩;have TS:(bf YD).length≠1:=by simp only[bf,List.length_map];omega
   revert hx TS
   generalize bf YD=lo at lp6;intro hx TS
   cases lp6 with
   | nil=>cases hx
   | one h=>simp at TS
   | two _ _ _ _ _ _ _ n1 n2=>
    simp only[List.mem_cons,List.not_mem_nil,or_false]at hx;rcases hx with h | h <;> subst h
    .exact n1 h0
    .exact n2 h0
 rintro _ t' w8 ⟨x8,ht1,ht2⟩;have TI:=x8.size;have R8:=R6.no x8;have g8:=ad g6 x8;have vN:sg w8.heap b1 2 ((lev+1:Nat):Int) s:=ad wj x8;have FA:=nd6.no x8;have lm8:=aeZ.no x8;have jw:szL 2 (ents L)<=297:=by rw[fA]at Nl;omega
 have ZB:M'.au.length<=1000100:=by have:=cg.len;omega
 have qq:Ext (fun q=>Ts T q∨base<=q) w w8:=AX.no x8
 have ts:∀{q},q < w.heap.size->(Ts T' q∨base<=q)->(Ts T q∨base<=q):=fun {q} hq h=>by
  rcases h with h | h
  .exact .inl (by show T q≠none;rw[<- Iy q (by omega)];exact h)
  .exact .inr h
 have kpa:iR M.f M'.f pa:=cg.cB fun q hq=> .inl fun h=>Sub.apart R.Bl hs hq (List.mem_append_left _ h)
 have kpc:iR M.f M'.f pc:=cg.cB fun q hq=> .inl fun h=>Sub.apart R.Bl (Sub.right hs) h hq
 have ba':aM (bu M'.f t lev) a ka pa:=ba.cB (R:=fun p=>iR M.f M'.f p) (fun h=>⟨h.sub fun _ h=>List.mem_append_left _ h,h.sub fun _ h=>List.mem_append_right _ h⟩) (fun h hk=>bu.cB h hk) kpa;have bc':aM (bu M'.f t lev) c kc pc:=bc.cB (R:=fun p=>iR M.f M'.f p) (fun h=>⟨h.sub fun _ h=>List.mem_append_left _ h,h.sub fun _ h=>List.mem_append_right _ h⟩) (fun h hk=>bu.cB h hk) kpc
 -- the au adX are there
 have Al:Sub (U5++(pa++pc)) M':=fun q=>by
  have h1:=hs q;have h2:=cg.Iu q;simp only[List.count_append]at h1 h2 ⊢;omega
 refine If.cases (fun h=>?_) fun h=>?_
 .subst h;obtain⟨x,rfl,KD⟩:=ht1 rfl;have lx:=rE lp6
  have Z8:∀{jn:Nat}(hj:jn < L.length){nb:aH}{kj:List KV}{pj:List Rf},L[jn].2=nb->bu M'.f t lev nb.cd kj pj->(∀{w9:Wd},Ext No w8 w9->(∀cX b3 sn Ln ln Z9,Ext No w9 cX->w9.heap.size<=b3->sg cX.heap b3 (aO lev) lev sn->iP cX.heap w9.heap.size sn Ln->ents Ln=ln->vW M'.f t lev ln kj Z9->pj=nb.cd::Z9->tX b b1 b3 i jn l0 (fun i l first w'=>lI b b1 i l first K w') K 0 cX)->Dz b b1 i jn l0 (fun i l first w'=>lI b b1 i l first K w') K w9):=fun {jn} hj {nb kj pj} hnb hS {w9} x9 hk=>by
   obtain⟨ln,Z9,hN,bC,h2n,hB,epj⟩:=hS.open_;refine PC (R8.no x9) (ad g8 x9) (ad vN x9) (FA.no x9).nd hj dn (by rw[hnb];exact hN) bC fun cX b3 sn Ln eE xB gG Bi XQ=>hk cX b3 sn Ln ln Z9 eE xB gG Bi XQ ⟨hN.right,hN.short,hN.ok,hB,bC⟩ epj
  have fin:∀{w9 cX:Wd}{b3 jn p:Nat}{sn:Sl}{Ln:List (aL×aH)}{a' c' l1 l2:List aH}{e1 e2:aH}{lft:Bool}{rj:Rf}{ka' k1 k2 kc':List KV}{pa' p1 p2 pc':List Rf},Ext No w8 w9->Ext No w9 cX->w9.heap.size<=b3->sg cX.heap b3 (aO lev) lev sn->iP cX.heap w9.heap.size sn Ln->ents L=a'++(e1::e2::c')->p=a'.length->
    ((lft=true/\l1=ents Ln/\l2=ents x.L/\i=p+1/\jn=p/\rj=e1.cd)∨(lft=false/\l1=ents x.L/\l2=ents Ln/\i=p/\jn=p+1/\rj=e2.cd))->vW M'.f t lev l1 k1 p1->vW M'.f t lev l2 k2 p2->aM (bu M'.f t lev) a' ka' pa'->aM (bu M'.f t lev) c' kc' pc' ->
    (∀x∈ka',bW x.1 e1.key)->(∀x∈k1,¬ bW x.1 e1.key)->(∀x∈k1,bW x.1 e2.key)->(∀x∈k2,¬ bW x.1 e2.key)->(∀e∈c',∀x∈k2,bW x.1 e.key)->ka'++((k1++k2)++kc')=ka++(YB++kc)->(∀q,(U5++(pa++pc)).count q=([rj]++(pa'++(p1++(p2++pc')))).count q)->rj∈pa++(pm++pc)->
    tX b b1 b3 i jn l0 (fun i l first w'=>lI b b1 i l first K w') K 0 cX:=fun {w9 cX b3 jn p sn Ln a' c' l1 l2 e1 e2 lft rj ka' k1 k2 kc' pa' p1 p2 pc'} x9 eE xB gG Bi RP hp hl h1 h2 ba2 bc2 o1 o2 o3 o4 o5 ekv acg hrm=>by
   have wq:=x9.no eE;have z9:=x9.size;have K2:=eE.size;have Sz:∀q,w8.heap.size<=q->T' q=none:=fun q hq=>R8.iA hq
   have FR:Sub ([rj]++(pa'++(p1++(p2++pc')))) M':=fun q=>by rw[<- acg q];exact Al q
   refine PA (R8.no wq) (ad g8 wq) (ad vN wq) gG tb' acf (Sz b3 (by omega)) (by omega) (FA.no wq) (Bi.q fun q hq _=>Sz q (by omega)) ((lm8.no wq).mono fun q _ h=>⟨h.1.1,h.1.2.1⟩) RP hp hl h1 h2 KD (Sub.mem FR (by simp)) (fun q hq h=>Sub.apart R8.Bl FR (q:=rj) (by simp) (by rw[<- h];exact hq)) FG DU dn jw JO ba2 bc2 o1 o2 o3 o4 o5 (by omega) fun sl ls cU rs T2 m2 M2 w2 R2 ME Pp x2 PE lp2 YF YG=>?_
   refine k sl ls cU T2 m2 M2 w2 ⟨R2,ME.trans Aj,fun q hq=>by rw[Pp q (by have:=wq.size;omega)];exact Iy q (by omega),(qq.no wq).trans x2 fun q hq h=>ts hq h,PE,ekv ▸ lp2,?_⟩;refine(cg.trans YF).as (by omega) (fun q hq=>?_) fun q=>?_
   .rcases List.mem_append.1 hq with h | h
    .simp[h]
    .rw[List.mem_singleton]at h;subst h;exact hrm
   .have h5:=acg q;have h6:=YG q;simp only[List.count_append]at h5 h6 ⊢;omega
  have at_:∀{jn:Nat}{l1 l2:List aH}{nb:aH}(hj:jn < L.length),ents L=l1++(nb::l2)->jn=l1.length->L[jn].2=nb:=fun {jn l1 l2 nb} hj e1 e2=>by
   have h3:=congrArg (fun l=>l[jn]?) e1;simp only[List.getElem?_map,List.getElem?_eq_getElem hj,Option.map_some]at h3;rw[List.getElem?_append_right (by omega),show jn - l1.length=0 by omega]at h3;simpa using h3
  refine Ar.i64 (by omega) ⟨fun j w'=>Ext No w8 w'/\(0 < i->j=((i - 1:Nat):Int))/\(i=0->j=((1:Nat):Int)),If.dec (fun h=>Ar.i64 (by omega) ⟨Ext.refl _ _,fun _=>by omega,fun h=>by omega⟩) fun h=>⟨Ext.refl _ _,fun h=>by omega,fun h=>by omega⟩,?_⟩;rintro _ j w9 ⟨x9,RW,Im⟩;rcases Nat.eq_zero_or_pos i with h0 | h0
  .have ha:a=[]:=List.eq_nil_of_length_eq_zero (by omega);subst ha
   cases ba with
   | nil=>
   cases c with
   | nil=>simp only[List.length_nil]at hL2;omega
   | cons nb c=>
   cases bc' with
   | @cons _ _ kj kc2 pj pc2 hT2 Z6 qp bc2=>
   rw[Im h0];have ae0:=List.pairwise_cons.1 hrc.2;refine Z8 (jn:=1) (nb:=nb) (by omega) (at_ (l1:=[mid]) (l2:=c) (by omega) eL rfl) hT2 x9 fun cX b3 sn Ln ln Z9 eE xB gG Bi XQ hL5 epj=>?_
   subst epj;refine fin (p:=0) (a':=[]) (lft:=false) (rj:=nb.cd) (ka':=[]) (pa':=[]) x9 eE xB gG Bi eL rfl (.inr ⟨rfl,rfl,XQ.symm,h0,rfl,rfl⟩) lx hL5 .nil bc2 (fun x hx=>by cases hx) lo' (fun x hx=>xX nb (by simp) x hx) Z6 (fun e he x hx=>?_) (by simp) (fun q=>?_) (by simp)
   .cases c with
    | nil=>cases he
    | cons e0 c' =>
     have h1:=qp e0 c' rfl x hx;rcases List.mem_cons.1 he with h | h
     .rw[h];exact h1
     .exact h1.trans ((List.pairwise_cons.1 ae0.2).1 e h)
   .simp only[List.count_append,List.count_cons,List.count_nil];omega
  .have ach:a≠[]:=fun h=>by rw[h]at hia;simp at hia;omega
   obtain⟨a2,nb,rfl⟩ : ∃a2 nb,a=a2++[nb]:=⟨a.dropLast,a.getLast ach,(List.dropLast_concat_getLast ach).symm⟩
   have hal:i=a2.length+1:=by simpa using hia
   have Wl:ents L=a2++(nb::mid::c):=by rw[eL];simp
   obtain⟨ka2,kb2,pa2,pb2,bb1,PB,rfl,rfl,hk3⟩:=aM.split ba' (fC.1 od).1
   cases PB with
   | @cons _ _ kj kx pj px hT2 Z6 qp bx=>
   cases bx
   rw[RW h0];refine Z8 (jn:=i - 1) (nb:=nb) (by omega) (at_ (l1:=a2) (l2:=mid::c) (by omega) Wl (by omega)) hT2 x9 fun cX b3 sn Ln ln Z9 eE xB gG Bi XQ hL5 epj=>?_
   subst epj;refine fin (p:=a2.length) (a':=a2) (lft:=true) (rj:=nb.cd) x9 eE xB gG Bi Wl rfl (.inl ⟨rfl,XQ.symm,rfl,hal,by omega,rfl⟩) hL5 lx bb1 bc' (fun x hx=>hk3 nb (by simp) x hx) Z6 (fun x hx=>OY mid (by simp) x (by simp[hx])) lo' (fun e he x hx=>xX e he x hx) (by simp) (fun q=>?_) (by simp);simp only[List.count_append,List.count_cons,List.count_nil];omega
 .subst h;have efk:=FA.nd.get (L:=L) NC;have hfk:=FA.kb _ (List.getElem_mem NC);refine Dv R8 g8 vN tb' acf (by omega) FA (lm8.mono fun q _ h=>h.1) lp6 eL (by rw[hia]) (by have:=efk.k;rw[hLi]at this;exact this) (fun q hq=>hfk q (.inl hq)) (fun y hy q hq h=>by have:=(lm8.sep y hy).2.2 q hq;have:=slt q h;omega) (eL ▸ FG) (eL ▸ DU) dn (by rw[<- eL];exact jw) JO ba' bc' (fun x hx=>OY mid (by simp) x hx) lo' xX (ht2 rfl) (by omega) fun sl ls cU rs T2 m2 M2 w2 R2 ME Pp x2 PE lp2 YF YG=>?_
  refine k sl ls cU T2 m2 M2 w2 ⟨R2,ME.trans Aj,fun q hq=>by rw[Pp q (by omega)];exact Iy q (by omega),qq.trans x2 fun q hq h=>ts hq h,PE,lp2,?_⟩;refine(cg.trans YF).as (by omega) (fun q hq=>?_) fun q=>?_
  .rw[List.append_nil]at hq;simp[hq]
  have:=YG q;simp only[List.count_append,List.count_nil]at this ⊢;omega
theorem FV{t:Int}:∀lev:Nat,HU t lev
 | 0=>Dt fun l' h=>absurd h (by omega)
 | lev+1=>Dt fun l' h=>by cases h;exact KC (FV lev)
end
end Go.Proofs.YtpjbalhhlaofmaaGreat
namespace Go.V
section
variable {f:bH} {t:Int}
theorem SI{lev:Nat}{D:List LD}{rs:List Rf}(dn:lev+1<=30)(JR:D.length=2)(hlen:rs.length=D.length)(hD:∀i (h:i < D.length) (h':i < rs.length),bu f t lev rs[i] D[i].kv (rs[i]::D[i].p))(hr:∀r∈rs,r.ok/\r ≠ .z)
  (two:∀d1 d2,D=[d1,d2]->1<=d2.k.length/\d2.k.length<=32/\B8 d2.k/\(∀x∈d1.kv,bW x.1 d2.k)/\(∀x∈d2.kv,¬ bW x.1 d2.k)) :
  ∃l,gO [] (D.map fun d=>(d.k,d.l)) rs=l/\aJ 2 ((lev+1:Nat):Int) l/\sS l/\l.length=2/\(wr 2 ((lev+1:Nat):Int) l).length<=224/\∃pm,aM (bu f t lev) l ((D.map LD.kv).flatten) pm/\∀q,pm.count q=rs.count q+(D.map LD.p).flatten.count q:=by
 obtain⟨d1,d2,r1,r2,rfl,rfl⟩ : ∃d1 d2 r1 r2,D=[d1,d2]/\rs=[r1,r2]:=by
  match D,rs,hlen,JR with
  | [d1,d2],[r1,r2],_,_=>exact⟨d1,d2,r1,r2,rfl,rfl⟩
 have JA:bu f t lev r1 d1.kv (r1::d1.p):=hD 0 (by simp) (by simp);have Ip:bu f t lev r2 d2.kv (r2::d2.p):=hD 1 (by simp) (by simp);have h1:=hr r1 (by simp);have h2:=hr r2 (by simp);obtain⟨t1,t2,t3,t4,t5⟩:=two d1 d2 rfl;refine⟨[Bp [] r1,Bp d2.k r2],rfl,xK.right ⟨fun e he=>?_,List.pairwise_cons.2 ⟨fun y hy=>?_,List.pairwise_singleton _ _⟩,fun e l' h=>?_⟩ (by simp) (by omega),fun e he=>?_,rfl,?_,(r1::d1.p)++(r2::d2.p),?_,fun q=>?_⟩
 .simp only[List.mem_cons,List.not_mem_nil,or_false]at he;rcases he with h | h <;> subst h
  .exact⟨h1.2,rfl,rfl,rfl,Nat.zero_le _⟩
  .exact⟨h2.2,rfl,rfl,rfl,t2⟩
 .rw[List.mem_singleton]at hy;subst hy;obtain⟨u,hu⟩:=List.exists_mem_of_ne_nil _ JA.ne;exact bW.of_le (mg u.1) (t4 u hu)
 .simp only[List.cons.injEq]at h;rw[<- h.1]
 .simp only[List.mem_cons,List.not_mem_nil,or_false]at he;rcases he with h | h <;> subst h
  .exact⟨⟨by show Rf.z.ok;decide,h1.1⟩,B8.nil,B8.nil⟩
  .exact⟨⟨by show Rf.z.ok;decide,h2.1⟩,t3,B8.nil⟩
 .rw[fA,dC,dC,oU,oU,q_];simp only[List.length_nil];omega
 .have k1:aM (bu f t lev) [Bp [] r1] d1.kv (r1::d1.p):=aM.one JA fun x _=>mg _
  have k2:aM (bu f t lev) [Bp d2.k r2] d2.kv (r2::d2.p):=aM.one Ip t5;have:=aM.append k1 k2 (fun e b' h x hx=>by simp only[List.cons.injEq]at h;rw[<- h.1];exact t4 x hx);simpa using this
 .simp only[List.map_cons,List.map_nil,List.flatten_cons,List.flatten_nil,List.append_nil,List.count_cons,List.count_nil,List.count_append];omega
end
end Go.V
namespace Go.Proofs.YtpjbalhhlaofmaaGreat
open Go.V
section
variable {w:Wd} {T:Nat->Option Nat} {m:bB} {M:Mm}
theorem DA{b:Nat}{p c g v:Int}{zs:List Value}{K:Int->Int->Int->Int->Pw}(hb:w.heap[b]? = some (.cells zs.toArray 30 (0,0)))(hz:zs.length=4)(k:∀w',Ext (·=b) w w'->w'.heap.size=w.heap.size->K p c g v w') :
  List.length (α:=Value) [.int .u32 p,.int .u64 c,.int .u16 g,.int .u8 v]=4/\jB w (Addr.mk b 0 none) [.int .u32 p,.int .u64 c,.int .u16 g,.int .u8 v] fun w3=>
 ∃c:Int,Cell w3 (Addr.mk b 0 none) (.int .u32 c)/\
 ∃lk:Int,Cell w3 ((Addr.mk b 0 none).add 1) (.int .u64 lk)/\
 ∃jC:Int,Cell w3 ((Addr.mk b 0 none).add 2) (.int .u16 jC)/\
 ∃r_:Int,Cell w3 ((Addr.mk b 0 none).add 3) (.int .u8 r_)/\
 K c lk jC r_ w3:=cK hb rfl hz (by simp[aN]) fun w' g x z=>⟨_,Cell.ai g rfl,_,Cell.ai g rfl,_,Cell.ai g rfl,_,Cell.ai g rfl,k w' x z⟩
set_option maxHeartbeats 4000000 in
theorem MF{t:Int}{lev:Nat}{l:Sl}{gB:List oT}{FJ:List KV}{pm:List Rf}{K:Int->Int->Int->Int->Int->Pw}
  (R:aY w.heap T m M) (lm:dq w.heap (fun q=>T q=none) (aO lev) lev l gB) (lp:jX M.f t lev (bf gB) FJ pm) (dn:lev+1<=30) (hn:M.au.length<=1048000) (XM:∀x,gB=[x]->0 < lev->(ents x.L).length≠1->2<=(ents x.L).length)
  (k:∀(r:Rf)(lv:Nat) cU rs T' m' M' w',aY w'.heap T' m' M'->m'.bm=m.bm->Tg w T T'->Ext (Ts T) w w'->dB M'.f t r lv FJ cU->lv<=30->mf M M' 3 [] rs->(∀q,cU.count q=pm.count q+rs.count q)->K r.p r.c r.g lv 0 w'):ja (eW m) t l lev w K:=by
 apply vo;obtain⟨D,eD,Dw,hp,hDl,hD2,hDt⟩:=lp.data;have sup:∀q,w.heap.size<=q->T q=none:=fun q hq=>R.iA hq
 have nT:∀{q},T q=none->¬ Ts T q:=fun h h'=>h' h
 have Qp:l.len=gB.length:=lm.len;have hDn:D.length=gB.length:=by have:=congrArg List.length eD;simpa[bf] using this
 refine ag.mk fun b w1 n1=>ag.mk fun b1 w2 n2=>?_
 have hb:=n1.at_;have gE:=n2.at_;have z1:=n1.size;have z2:=n2.size;have hZ:Ext No w w2:=n1.ext.no n2.ext;have g2:=ad n1.get n2.ext;have JX:=n2.get;have PE:=lm.no hZ;refine If.beq (fun h0=>DA JX rfl fun w3 x3 z3=>?_) fun h0=>If.beq (fun h1=>?_) fun h1=>?_
 .-- no agS
  have Zv:gB=[]:=List.eq_nil_of_length_eq_zero (by omega);subst Zv;have gp:Ext No w w3:=hZ.trans x3 fun q hq h=>by omega
  cases lp
  exact k .z 0 [] [] T m M w3 (R.no gp) rfl (fun _ _=>rfl) gp.aG (.inl ⟨rfl,rfl,rfl,rfl⟩) (by omega) ((mf.refl M).as (by omega) (by simp) (by simp)) (fun q=>rfl)
 .-- one
  obtain⟨x,rfl⟩ : ∃x,gB=[x]:=List.length_eq_one_iff.1 (by omega)
  have lx:=rE lp;have hxc:=gk lx.short;have ZR:=(PE.nd x (by simp)).nd.len;have two:=XM x rfl;refine⟨fun w'=>w'=w2/\(0 < lev->2<=(ents x.L).length),⟨fun t' w'=>w'=w2/\(t'=true->0 < lev/\(ents x.L).length=1)/\(t'=false->0 < lev->2<=(ents x.L).length),Ix.elem PE.rd (dK _ _ _) (by decide) (by decide) (by omega) fun PB o2 hi4 _ dv=>?_,?_⟩,?_⟩
  .replace dv:∀jj v,(iy (aO lev) lev x)[jj]? = some v->Cell w2 ⟨PB,o2+jj,none⟩ v:=dv
   refine⟨_,dv 1 _ rfl,If.beq (fun CO=>Ix.elem PE.rd (dK _ _ _) (by decide) (by decide) (by omega) fun bb3 o3 hi5 _ pC=>?_) fun CO=>⟨rfl,fun h=>absurd h (by decide),fun _ h0=>absurd (show aO lev=2 from if_neg (by omega)) CO⟩⟩;replace pC:∀jj v,(iy (aO lev) lev x)[jj]? = some v->Cell w2 ⟨bb3,o3+jj,none⟩ v:=pC
   have h0:0 < lev:=by
    rcases Nat.eq_zero_or_pos lev with h | h
    .subst h;exact absurd CO (by decide)
    .exact h
   refine⟨_,pC 3 _ rfl,rfl,fun h=>⟨h0,?_⟩,fun h h0=>two h0 fun h2=>?_⟩
   .have h':((x.s.len:Int) == 1)=true:=h;have:=of_decide_eq_true h';simp only[List.length_map];omega
   .have h':((x.s.len:Int) == 1)=false:=h;have:=of_decide_eq_false h';simp only[List.length_map]at h2;omega
  .rintro _ t' w4 ⟨rfl,ht1,ht2⟩;refine If.cases (fun h=>?_) fun h=>?_
   .subst h;obtain⟨h0,Zs⟩:=ht1 rfl
    obtain⟨l',rfl⟩ : ∃l',lev=l'+1:=⟨lev - 1,by omega⟩
    have e2:aO (l'+1)=2:=if_neg (by omega);refine Ix.elem PE.rd (dK _ _ _) (by decide) (by decide) (by omega) fun PB o2 hi4 _ dv=>?_
    replace dv:∀jj v,(iy (aO (l'+1)) ((l'+1:Nat):Int) x)[jj]? = some v->Cell w4 ⟨PB,o2+jj,none⟩ v:=dv
    have ae1:x.L.length=1:=by simpa using Zs
    refine⟨_,dv 1 _ rfl,_,dv 2 _ rfl,_,dv 3 _ rfl,lE (PE.nd x (by simp)).nd (by omega) (by simp only[Int.toNat_zero];omega) (by omega) fun w5 x5=>DA (ad JX x5) rfl fun w6 x6 z6=>?_⟩;obtain⟨y,hy⟩:=List.length_eq_one_iff.1 ae1;have hbd:aM (bu M.f t l') (ents x.L) FJ pm:=lx.body;have OZ:aJ 2 ((l'+1:Nat):Int) (ents x.L):=by have:=lx.right;rwa [e2]at this
    have Bo:=OZ.FG.iw y.2 (by rw[hy];simp)
    have hS:bu M.f t l' y.2.cd FJ pm:=by
     rw[hy]at hbd
     cases hbd with
     | cons h _ _ r=>cases r;simpa using h
    have ey:∀h,(x.L[(0:Int).toNat]'h).2.cd=y.2.cd:=fun h=>by simp only[hy,Int.toNat_zero,List.getElem_cons_zero]
    rw[ey];rw[show(((l'+1:Nat):Int) - 1)=(l':Int) by omega];have s5:=x5.size;have AX:Ext No w w6:=(hZ.no x5).trans x6 fun q hq h=>by omega
    exact k y.2.cd l' pm [] T m M w6 (R.no AX) rfl (fun _ _=>rfl) AX.aG (.inr ⟨Bo.1,by omega,by simpa using hS⟩) (by omega) ((mf.refl M).as (by omega) (by simp) (by simp)) (fun q=>rfl)
   .subst h;exact⟨rfl,ht2 rfl⟩
  .rintro _ w7 ⟨rfl,h2⟩;have nb:¬ (Ts T b∨b=b1):=fun h=>h.elim (nT (sup b (by omega))) (by omega)
   refine⟨Ext (fun q=>Ts T q∨q=b1) w7,(Ext.refl _ _).drew,_,ae.dQ (Cell.ai g2 rfl) nb,_,ae.dQ (Cell.ai g2 rfl) nb,Ix.elem PE.rd (dK _ _ _) (by decide) (by decide) (by omega) fun PB o2 hi4 oR dv=>?_⟩;replace dv:∀jj v,(iy (aO lev) lev x)[jj]? = some v->Cell w7 ⟨PB,o2+jj,none⟩ v:=dv
   have BD:¬ (Ts T PB∨PB=b1):=fun h=>h.elim (nT (PE.sb _ oR).1) (by have:=(lm.sb _ oR).2;omega)
   refine⟨_,ae.dQ (dv 1 _ rfl) BD,_,ae.dQ (dv 2 _ rfl) BD,_,ae.dQ (dv 3 _ rfl) BD,?_⟩
   refine mc (w:=aa w7) (show aY w7.heap T m M from R.no hZ) (PE.nd x (by simp)).nd (by simp only[List.length_map]at hxc;omega) lx.right lx.short (by omega) fun n T' m' w8 iD R8 HT Iy x8=>⟨x8.aj.mono fun _ _ h=> .inl h,?_⟩
   have DV:Ext (Ts T) w7 w8:=x8.aj;have s8:=DV.size;have tV:=mf.put (M:=M) (n:=n) (t:=t) (k:=aO lev) (v:=((lev:Nat):Int)) (pay:=pad (wr (aO lev) lev (ents x.L)));have Fi:=qZ (t:=t) (k:=aO lev) (v:=((lev:Nat):Int)) (pay:=pad (wr (aO lev) lev (ents x.L))) iD;have NI:(⟨n,M.aE,M.gen⟩ : Rf) ≠ .z:=fun h=>by have:=iD.lo;have:=congrArg Rf.p h;simp only[Rf.z]at this;omega
   have vN:=af JX DV (nT (sup b1 (by omega)));refine cK vN rfl rfl (by simp[aN]) fun w9 g9 x9 z9=>?_
   have Bk:Ext (·=b1) w8 w9:=x9;have FQ:T' b1=none:=by rw[Iy b1 (by show b1 < w7.heap.size;omega)];exact sup b1 (by omega)
   have JM:Ext (fun q=>Ts T q∨q=b1) w7 w9:=(DV.mono fun _ _ h=> .inl h).trans Bk fun _ _ h=> .inr h
   have Mz:Ext (Ts T) w w9:=hZ.aG.trans JM fun q hq h=>by
    rcases h with h | h
    .exact h
    .omega
   refine⟨JM,_,Cell.ai g9 rfl,_,Cell.ai g9 rfl,_,Cell.ai g9 rfl,_,Cell.ai g9 rfl,?_⟩
   .refine k ⟨n,M.aE,M.gen⟩ lev (⟨n,M.aE,M.gen⟩::pm) [⟨n,M.aE,M.gen⟩] T' m' (Bm M n t (aO lev) lev (pad (wr (aO lev) lev (ents x.L)))) w9 (R8.ext Bk fun q hq=>by rw[hq];exact FQ) HT (fun q hq=>Iy q (Nat.lt_of_lt_of_le hq hZ.size)) Mz (.inr ⟨NI,by omega,?_⟩) (by omega) (tV.as (by omega) (by simp) (by simp)) (fun q=>by simp only[List.count_cons,List.count_nil];omega);simp only[Int.toNat_natCast];exact bu.shut ⟨Fi,lx.right,lx.short,lx.ok⟩ lx.ne h2 (lx.body.cB (tV.cB fun q _=> .inl (by simp)))
 .-- two
  have JR:gB.length=2:=by omega
  have el:((lev:Nat):Int)+1=((lev+1:Nat):Int):=by omega
  rw[el];refine Ar.u8 (by omega) (bA rfl rfl (by simp[aN]) fun b2 dg Ir lO Re fY=>?_);have x0:Ext No w dg:=hZ.no fY;have g0:=ad g2 fY;have oq:=ad JX fY;have lm0:=PE.no fY;have tb:T b=none:=sup b (by omega);have FQ:T b1=none:=sup b1 (by omega);have TM:T b2=none:=sup b2 (by omega)
  have hDi:∀j (h:j < D.length) (h':j < gB.length),D[j].k=gB[j].key/\D[j].l=ents gB[j].L:=fun j h h'=>by
   have:=congrArg (fun l=>l[j]?) eD;simp only[bf,List.getElem?_map,List.getElem?_eq_getElem h,List.getElem?_eq_getElem h',Option.map_some,Option.some.injEq,Prod.mk.injEq]at this;exact this
  have h2l:∀d∈D,0 < lev->2<=d.l.length:=fun d hd h0=>by
   obtain⟨d1,d2,hDD⟩ : ∃d1 d2,D=[d1,d2]:=by
    match D,hDn.trans JR with
    | [d1,d2],_=>exact⟨d1,d2,rfl⟩
   have:=(hDt d1 d2 hDD).2.2.2.2.2 h0;rw[hDD]at hd;simp only[List.mem_cons,List.not_mem_nil,or_false]at hd;rcases hd with h | h <;> subst h
   .exact this.1
   .exact this.2
  refine⟨fun mm t1 w'=>∃(j:Nat) (Tj:Nat->Option Nat) (mj:bB) (Mj:Mm) (rs:List Rf) (V:List (aL×aH)) (s:Sl),t1=j/\j<=gB.length/\mm=gB.length - j/\aY w'.heap Tj mj Mj/\mj.bm=m.bm/\Tg dg T Tj/\Ext (fun q=>Ts T q∨q=b2) dg w'/\mf M Mj j [] rs/\rs.length=j/\
    (∀i (h:i < D.length) (h':i < rs.length),bu Mj.f t lev rs[i] D[i].kv (rs[i]::D[i].p))/\(∀r∈rs,r.ok/\r ≠ .z)/\sg w'.heap b2 2 ((lev+1:Nat):Int) s/\aT w'.heap dg.heap.size 151 9 s (V.flatMap aS)/\ents V=gO [] (bf gB) rs/\(∀q,s.aq=some q->Tj q=none)/\
    (∀p∈V,mG w'.heap p.1 p.2/\∀q,(p.1.k.aq=some q∨p.1.v.aq=some q)->T q=none/\q < w.heap.size),
   ⟨gB.length,0,T,m,M,[],[],⟨none,0,0⟩,rfl,by omega,by omega,R.no x0,rfl,fun _ _=>rfl,Ext.refl _ _,mf.refl M,rfl,fun i h h'=>by simp at h',by simp,Ir,aT.nil _ _ _ _,by cases bf gB <;> rfl,by simp[Sl.aq],by simp⟩,?_⟩
  rintro _ m0 t1 qT ⟨j,Tj,mj,Mj,rs,V,s,rfl,hj,hm,Rj,Aj,Iz,xj,cj,EA,jr,Yc,gbj,oV,eV,Yo,hV⟩;have sj:=xj.size;have nS:∀{q},T q=none->q≠b2->¬ (Ts T q∨q=b2):=fun h h2 h'=>h'.elim (fun h'=>h' h) h2
  have gj:=af g0 xj (nS tb (by omega))
  have Z4:=lm0.mono (B':=fun q=>T q=none/\q < dg.heap.size) fun q h hq=>⟨hq,h⟩
  have lmq:dq dg.heap (fun q=>T q=none/\q≠b2) (aO lev) lev l gB:=(lm.mono (B':=fun q=>T q=none/\q≠b2) fun q h hq=>⟨hq,by omega⟩).no x0;have Z4:=lmq.ext xj fun q hq _=>nS hq.1 hq.2
  have Vl:V.length=j:=by have:=congrArg List.length eV;rw[CX (by simp only[bf,List.length_map];omega)]at this;simpa[EA] using this
  have MD:∀q,s.aq=some q->dg.heap.size<=q/\q < qT.heap.size:=fun q hq=>oV.lt hq
  refine If.dec (fun h=>?_) fun h=>?_
  .have fh:j < gB.length:=by omega
   refine Ix.elem Z4.rd (dK _ _ _) (by decide) (by omega) h fun bb o qp _ bq=>?_
   simp only[Int.toNat_natCast]at qp bq;have dI:gB[j]∈gB:=List.getElem_mem fh;refine⟨_,bq 0 _ rfl,_,bq 1 _ rfl,_,bq 2 _ rfl,_,bq 3 _ rfl,bA (vs:=iy (aO lev) lev gB[j]) rfl rfl (by simp[iy,aN]) fun b6 Ma g6 hb6 z6 x6=>?_⟩;have Z5:j < D.length:=by omega
   obtain⟨e1,e2⟩:=hDi j Z5 fh;have ky:vW Mj.f t lev D[j].l D[j].kv D[j].p:=(hDl _ (List.getElem_mem Z5)).cB (cj.cB fun q _=> .inl (by simp));have aci:=h2l _ (List.getElem_mem Z5);rw[e2]at ky aci;have TG:=((Z4.nd _ dI).no x6).nd;refine⟨_,Cell.ai (ad gj x6) rfl,_,Cell.ai (ad gj x6) rfl,_,Cell.ai g6 rfl,_,Cell.ai g6 rfl,_,Cell.ai g6 rfl,?_⟩;rw[<- nt Aj];have SA:=gk ky.short;have ZH:gB[j].L.length<=65536:=by simp only[List.length_map]at SA;omega
   refine mc (Rj.no x6) TG ZH ky.right ky.short (by have:=cj.len;omega) fun n T' m' OH iD U4 HT Iy y_=>?_
   refine bA rfl rfl (by simp[aN]) fun b7 yZ g7 hb7 z7 x7=>If.bne (fun h=>(h rfl).elim) fun _=>?_
   have tT:∀q,q < Ma.heap.size->T' q=Tj q:=Iy
   have s6:=x6.size;have s37:=y_.size;have s7:=x7.size;have nb6:Tj b6=none:=Rj.iA (by omega);have g69:=ad (af g6 y_ (fun h=>h nb6)) x7;refine⟨_,Cell.ai g7 rfl,_,Cell.ai g7 rfl,_,Cell.ai g7 rfl,bA (vs:=aL.cs ⟨⟨none,0,0⟩,⟨none,0,0⟩,0,.z,⟨n,Mj.aE,Mj.gen⟩⟩) rfl rfl (jA _) fun b8 wE g8 OB z8 x8=>?_⟩;have Dx:Ext No OH wE:=x7.no x8;have Dy:Ext (Ts Tj) qT wE:=((x6.aG).trans y_ fun _ _ h=>h).no Dx;have s41:=Dx.size;have NI:(⟨n,Mj.aE,Mj.gen⟩ : Rf) ≠ .z:=fun h=>by have:=iD.lo;have:=congrArg Rf.p h;simp only[Rf.z]at this;omega
   have tV:=mf.put (M:=Mj) (n:=n) (t:=t) (k:=aO lev) (v:=((lev:Nat):Int)) (pay:=pad (wr (aO lev) lev (ents gB[j].L)));have Fi:=qZ (t:=t) (k:=aO lev) (v:=((lev:Nat):Int)) (pay:=pad (wr (aO lev) lev (ents gB[j].L))) iD;have SB:=(JS U4 Fi).2;have kpj:∀(qs:List Rf),iR Mj.f (Bm Mj n t (aO lev) lev (pad (wr (aO lev) lev (ents gB[j].L)))).f qs:=fun qs=>tV.cB fun q _=> .inl (by simp)
   have FR:bu (Bm Mj n t (aO lev) lev (pad (wr (aO lev) lev (ents gB[j].L)))).f t lev ⟨n,Mj.aE,Mj.gen⟩ D[j].kv (⟨n,Mj.aE,Mj.gen⟩::D[j].p):=
    bu.shut ⟨Fi,ky.right,ky.short,ky.ok⟩ ky.ne aci (ky.body.cB (kpj _))
   have Ey:=lm.sep _ dI;have sb2:∀q,s.aq=some q->q≠b2:=fun q hq=>by have:=MD q hq;have:b2 < dg.heap.size:=blt Ir;omega
   have YH:Tj b2=none:=by rw[Iz b2 (blt Ir)];exact TM
   refine⟨fun py=>∃kk key,py.heap[b8]? = some (.cells (aL.cs ⟨kk,⟨none,0,0⟩,0,.z,⟨n,Mj.aE,Mj.gen⟩⟩).toArray 151 (0,0))/\Ext (fun q=>q=b8) wE py/\cZ w.heap kk key/\B8 key/\(∀q,kk.aq=some q->T q=none/\q < w.heap.size)/\key=(if j=0 then[] else gB[j].key),If.dec (fun hj0=>⟨_,Cell.ai (ad g69 x8) rfl,aF.mk g8 (by simp[aL.cs]) rfl fun uG Uv=>⟨gB[j].sep,gB[j].key,Uv.get g8,Uv.ext,Ey.1,Ey.2.1,fun q hq=>Ey.2.2 q hq,by rw[if_neg (by omega)]⟩⟩) fun hj0=>⟨⟨none,0,0⟩,[],g8,Ext.refl _ _,Rd.nil _ _,B8.nil,fun q hq=>by simp[Sl.aq]at hq,by rw[if_pos (by omega)]⟩,?_⟩;rintro _ uG ⟨kk,key,gx,Nv,Pz,k8,kkb,gN⟩;have YI:Ext (fun q=>q=b8) wE uG:=Nv;have s42:=YI.size;have acj:sg uG.heap b2 2 ((lev+1:Nat):Int) s:=af (af gbj Dy (fun h=>h YH)) YI (by have:=blt gbj;omega);refine⟨s,Cell.ai acj rfl,fx gx (ag.mk fun b9 Ql n9=>?_)⟩;have Am:Ext (fun q=>q=b8) wE Ql:=YI.no n9.ext;have z9:=n9.size;have Un:=n9.at_;have Yp:=(oV.ext Dy fun q hq h=>h (Yo q hq)).ext Am fun q hq h=>by have:=MD q hq;omega
   have ol:s.len=V.length:=by have:=oV.len;rw[mO]at this;omega
   refine gn Yp (by omega) (CR n9).rd.src (by simp only;omega) fun s1 It o44 _ Wt oR=>?_
   have s44:=Wt.size;have ack:sg It.heap b2 2 ((lev+1:Nat):Int) s:=af (ad acj n9.ext) Wt (fun h=>sb2 b2 h rfl);refine aF.mk ack (by simp) rfl fun Rm ZE=>Ar.i64 (by omega) ?_
   have Ku:Ext (·=b2) It Rm:=ZE.ext;have ae2:sg Rm.heap b2 2 ((lev+1:Nat):Int) s1:=ZE.get ack;have nb8:T' b8=none:=U4.iA (by omega);have acm:Ext (fun q=>q=b8∨s.aq=some q∨q=b2) OH Rm:=(((Dx.aG).trans Am fun _ _ h=> .inl h).trans Wt fun _ _ h=> .inr (.inl h)).trans Ku fun _ _ h=> .inr (.inr h)
   have WB:Ext (fun q=>Ts Tj q∨q=b8∨s.aq=some q∨q=b2) qT Rm:=(((Dy.mono fun _ _ h=> .inl h).trans Am fun _ _ h=> .inr (.inl h)).trans Wt fun _ _ h=> .inr (.inr (.inl h))).trans Ku fun _ _ h=> .inr (.inr (.inr h))
   have WC:Ext (fun q=>Ts T q∨q=b2) dg Rm:=xj.trans WB fun q hq h=>by
    rcases h with h | h | h | h
    .exact .inl (by show T q≠none;rw[<- Iz q hq];exact h)
    .omega
    .have:=MD q h;omega
    .exact .inr h
   have Wk:∀q,s1.aq=some q->dg.heap.size<=q/\T' q=none:=fun q hq=>by
    rcases oR with h3 | ⟨c',h3,h4⟩
    .rw[h3]at hq;exact⟨(MD q hq).1,by rw[tT q (by have:=MD q hq;omega)];exact Yo q hq⟩
    .rw[h3]at hq;cases hq;exact⟨by omega,U4.iA (by omega)⟩
   have hbw:b2 < dg.heap.size:=blt Ir;refine⟨gB.length - (j+1),by omega,j+1,T',m',Bm Mj n t (aO lev) lev (pad (wr (aO lev) lev (ents gB[j].L))),rs++[⟨n,Mj.aE,Mj.gen⟩],V++[(⟨kk,⟨none,0,0⟩,0,.z,⟨n,Mj.aE,Mj.gen⟩⟩,Bp key ⟨n,Mj.aE,Mj.gen⟩)],s1,by omega,by omega,rfl,U4.ext acm fun q hq=>?_,HT.trans Aj,fun q hq=>by rw[tT q (by omega)];exact Iz q hq,WC,(cj.trans tV).as (by omega) (by simp) (by simp),by simp[EA],fun i' h' LR=>?_,fun r hr=>?_,ae2,(by rw[List.flatMap_append];simpa using o44:aT It.heap dg.heap.size 151 9 s1 _).ext Ku fun q hq h=>by have:=Wk q hq;omega,?_,fun q hq=>(Wk q hq).2,fun p hp=>?_⟩
   .rcases hq with h | h | h
    .rw[h];exact nb8
    .rw[tT q (by have:=MD q h;omega)];exact Yo q h
    .rw[h,tT b2 (by omega)];exact YH
   .rcases Nat.lt_or_ge i' rs.length with h3 | h3
    .rw[List.getElem_append_left h3];exact(jr i' h' h3).cB (kpj _)
    .have:i'=j:=by simp only[List.length_append,List.length_cons,List.length_nil]at LR;omega
     subst this;have:(rs++[(⟨n,Mj.aE,Mj.gen⟩ : Rf)])[i']=⟨n,Mj.aE,Mj.gen⟩:=by rw[List.getElem_append_right h3];simp[EA]
     rw[this];exact FR
   .rcases List.mem_append.1 hr with h3 | h3
    .exact Yc r h3
    .rw[List.mem_singleton]at h3;subst h3;exact⟨SB,NI⟩
   .rw[Af (by simp only[bf,List.length_map];omega)];show List.map Prod.snd (V++_)=_;rw[List.map_append,show List.map Prod.snd V=_ from eV];congr 1;have e5:(bf gB)[rs.length]'(by simp only[bf,List.length_map];omega)=(gB[j].key,ents gB[j].L):=by simp[bf,EA]
    rw[e5,gN,EA];rfl
   .rcases List.mem_append.1 hp with h3 | h3
    .have sK:=hV p h3
     have nn:∀q,(p.1.k.aq=some q∨p.1.v.aq=some q)->¬ (Ts Tj q∨q=b8∨s.aq=some q∨q=b2):=fun q hq h=>by
      have:=sK.2 q hq;have sx:=x0.size;rcases h with h | h | h | h
      .exact h (by rw[Iz q (by omega)];exact this.1)
      .omega
      .have:=MD q h;omega
      .omega
     exact⟨sK.1.ext WB (fun q hq=>nn q (.inl hq)) (fun q hq=>nn q (.inr hq)),sK.2⟩
    .rw[List.mem_singleton]at h3;subst h3;refine⟨⟨Rd.ext Pz (x0.aG.trans WC fun _ _ h=>h) fun a q ha hq=>?_,Rd.nil _ _,rfl,rfl,rfl,k8,B8.nil,⟨by show(-9223372036854775808:Int)<=0;decide,by show(0:Int)<=9223372036854775807;decide⟩,by show Rf.z.ok;decide,SB⟩,fun q hq=>?_⟩
     .have h5:=kkb q (by have h:kk.a=some a:=ha;simp[Sl.aq,h,hq]);exact nS h5.1 (by omega)
     .rcases hq with h4 | h4
      .exact kkb q h4
      .simp[Sl.aq]at h4
  .have ejl:j=gB.length:=by omega
   have YH:Tj b2=none:=by rw[Iz b2 (blt Ir)];exact TM
   obtain⟨l9,f1,f2,f3,f4,f5,U5,f6,f7⟩:=SI (f:=Mj.f) (t:=t) (D:=D) (rs:=rs) dn (by omega) (by omega) jr Yc (fun d1 d2 h=>by obtain⟨a1,a2,a3,a4,a5,_⟩:=hDt d1 d2 h;exact⟨a1,a2,a3,a4,a5⟩);rw[eD,<- eV]at f1;rw[Dw]at f6;rw[hp]at f7;subst f1
   have hVn:oQ qT.heap s V:=⟨oV.rd,fun p hp=>(hV p hp).1⟩
   refine⟨_,Cell.ai gj rfl,_,Cell.ai gj rfl,_,Cell.ai gbj rfl,_,Cell.ai gbj rfl,_,Cell.ai gbj rfl,?_⟩;rw[<- nt Aj];refine mc Rj hVn (by omega) f2 f5 (by have:=cj.len;omega) fun n T' m' w8 iD R8 HT Iy x8=>?_
   have tT:∀q,q < qT.heap.size->T' q=Tj q:=Iy
   have tV:=mf.put (M:=Mj) (n:=n) (t:=t) (k:=2) (v:=((lev+1:Nat):Int)) (pay:=pad (wr 2 ((lev+1:Nat):Int) (ents V)));have Fi:=qZ (t:=t) (k:=2) (v:=((lev+1:Nat):Int)) (pay:=pad (wr 2 ((lev+1:Nat):Int) (ents V))) iD;have NI:(⟨n,Mj.aE,Mj.gen⟩ : Rf) ≠ .z:=fun h=>by have:=iD.lo;have:=congrArg Rf.p h;simp only[Rf.z]at this;omega
   have acn:Tj b1=none:=by rw[Iz b1 (blt oq)];exact FQ
   have g1j:=af (af oq xj (nS FQ (by omega))) x8 (fun h=>h acn);have sx:=x0.size;have s8:=x8.size;refine DA g1j rfl fun w9 x9 z9=>?_
   have Bk:Ext (·=b1) w8 w9:=x9;have Mz:Ext (Ts T) w w9:=((x0.aG.trans xj fun q hq h=>?_).trans x8 fun q hq h=>?_).trans Bk fun q hq h=>?_
   .refine k ⟨n,Mj.aE,Mj.gen⟩ (lev+1) (⟨n,Mj.aE,Mj.gen⟩::U5) (rs++[⟨n,Mj.aE,Mj.gen⟩]) T' m' (Bm Mj n t 2 ((lev+1:Nat):Int) (pad (wr 2 ((lev+1:Nat):Int) (ents V)))) w9 (R8.ext Bk fun q hq=>by rw[hq,tT b1 (by have:=blt oq;omega)];exact acn) (HT.trans Aj) (fun q hq=>by rw[tT q (by omega)];exact Iz q (by omega)) Mz (.inr ⟨NI,by omega,?_⟩) dn ((cj.trans tV).as (by omega) (by simp) (by simp)) (fun q=>?_)
    .simp only[Int.toNat_natCast];exact bu.shut (lev:=lev+1) ⟨Fi,f2,f5,f3⟩ (by intro h;rw[h]at f4;simp at f4) (fun _=>by omega) ((show Body Mj.f t (lev+1) (ents V) FJ U5 from f6).cB (tV.cB fun q _=> .inl (by simp)))
    .have:=f7 q;simp only[List.count_cons,List.count_append,List.count_nil]at this ⊢;omega
   .rcases h with h | h
    .exact h
    .omega
   .show T q≠none;rw[<- Iz q (by omega)];exact h
   .omega
end
end Go.Proofs.YtpjbalhhlaofmaaGreat
namespace Go.V
theorem FW{α:Type}[DecidableEq α]:∀{a b:List α},(∀q,a.count q<=b.count q)->a.length<=b.length
 | [],_,_=>Nat.zero_le _
 | x::a,b,h=>by
  have hx:x∈b:=List.count_pos_iff.1 (by have:=h x;rw[List.count_cons_self]at this;omega)
  have:=FW (a:=a) (b:=b.erase x) fun q=>by
   have:=h q;rw[List.count_erase];rw[List.count_cons]at this;by_cases hq:q=x
   .subst hq;simp at this ⊢;omega
   .rw[if_neg (by simpa using fun h=>hq h.symm)]at this ⊢;omega
  rw[List.length_erase_of_mem hx]at this;have:=List.length_pos_of_mem hx;simp only[List.length_cons];omega
theorem SJ(l:List (Int×Pg)):(live l).length<=l.length:=by unfold live;rw[List.length_map];exact List.length_filter_le _ _
theorem Sub.len{ps:List Rf}{M:Mm}(h:Sub ps M):ps.length<=M.au.length:=Nat.le_trans (FW h) (SJ _)
section
variable {f:bH} {t:Int}
theorem aM.count{Q:Rf->List KV->List Rf->Prop}{n:Nat}(hQ:∀r kv p,Q r kv p->n<=p.length){l:List aH}{kvs:List KV}{ps:List Rf}(h:aM Q l kvs ps):l.length * n<=ps.length:=by
 induction h with
 | nil=>simp
 | cons h lo hi r ih=>have:=hQ _ _ _ h;simp only[List.length_cons,List.length_append,Nat.succ_mul];omega
theorem bu.pow:∀{lev:Nat}{r:Rf}{kvs:List KV}{ps:List Rf},bu f t lev r kvs ps->2 ^ lev<=ps.length
 | 0,r,kvs,ps,h=>by obtain⟨l,cU,_,_,_,rfl⟩:=h;simp
 | lev+1,r,kvs,ps,h=>by
  obtain⟨l,cU,_,h2,hk,rfl⟩:=h;have:=aM.count (fun _ _ _ h=>bu.pow h) hk;have h3:2 * 2 ^ lev<=l.length * 2 ^ lev:=Nat.mul_le_mul_right _ h2;simp only[List.length_cons,Nat.pow_succ];omega
theorem bu.low{lev:Nat}{r:Rf}{kvs:List KV}{ps:List Rf}(h:bu f t lev r kvs ps)(hl:ps.length<=1000000):lev<=19:=by
 have h1:=h.pow;rcases Nat.lt_or_ge lev 20 with h2 | h2
 .omega
 .have:2 ^ 20<=2 ^ lev:=Nat.pow_le_pow_right (by omega) h2;omega
abbrev gQ(l:List KV):Prop:=l.Pairwise fun a b=>bW a.1 b.1
theorem cM.sort{l:List aH}{kvs:List KV}{ps:List Rf}(h:cM f t l kvs ps)(hr:kT l):gQ kvs:=by
 have e:=h.keys;have h2:(l.map aH.key).Pairwise bW:=List.pairwise_map.2 hr;rw[<- e]at h2;exact List.pairwise_map.1 h2
theorem aM.sort{Q:Rf->List KV->List Rf->Prop}(hQ:∀r kv p,Q r kv p->gQ kv){l:List aH}{kvs:List KV}{ps:List Rf}(h:aM Q l kvs ps):kT l->gQ kvs:=by
 induction h with
 | nil=>intro _;exact .nil
 | @cons e l kv kvs p ps h lo hi r ih=>
  intro hr;have OZ:=List.pairwise_cons.1 hr;refine List.pairwise_append.2 ⟨hQ _ _ _ h,ih OZ.2,fun x hx y hy=>?_⟩
  cases l with
  | nil=>cases r;cases hy
  | cons e' l'=>exact(hi e' l' rfl x hx).ND (xF r (fB.2 OZ.2) _ _ rfl y hy)
theorem bu.sort:∀{lev:Nat}{r:Rf}{kvs:List KV}{ps:List Rf},bu f t lev r kvs ps->gQ kvs
 | 0,r,kvs,ps,h=>by obtain⟨l,cU,hN,_,hL,rfl⟩:=h;exact cM.sort hL (fB.1 hN.right.ord)
 | lev+1,r,kvs,ps,h=>by
  obtain⟨l,cU,hN,h2,hk,rfl⟩:=h;exact aM.sort (fun _ _ _ h=>bu.sort h) hk (fB.1 hN.right.ord)
theorem dB.sort{r:Rf}{lev:Int}{kvs:List KV}{ps:List Rf}(h:dB f t r lev kvs ps):gQ kvs:=by
 rcases h with⟨_,_,rfl,_⟩ | ⟨_,_,h⟩
 .exact .nil
 .exact h.sort
end
theorem DB{kvs:List KV}{key:List Int}(h:ca kvs key=none):∀x∈kvs,x.1≠key:=fun x hx e=>by
 unfold ca at h;rw[Option.map_eq_none_iff,List.find?_eq_none]at h;have:=h x hx;simp[e]at this
theorem NV{k:List Int}:∀{l:List KV},gQ l->(∀x∈l,x.1≠k)->kH k none l=l
  | [],_,_=>rfl
  | x::l,hs,hn=>by
    have h2:=List.pairwise_cons.1 hs;have ih:=NV (k:=k) h2.2 fun y hy=>hn y (List.mem_cons_of_mem _ hy)
    rcases bW.total x.1 k with h | h | h
    · have:=xG (k:=k) (o:=none) (a:=[x]) (b:=l) (c:=[]) (by simpa using h) (by simp);simp only[List.append_nil,List.singleton_append]at this;rw[this,ih]
    · exact(hn x (by simp) h).elim
    · have:=xG (k:=k) (o:=none) (a:=[]) (b:=[]) (c:=x::l) (by simp) (fun y hy=>by
        rcases List.mem_cons.1 hy with h5 | h5
        · rw[h5];exact h
        · exact h.trans (h2.1 y h5))
      simp only[List.nil_append]at this;rw[this];rfl
end Go.V
namespace Go.Proofs.YtpjbalhhlaofmaaGreat
open Go.V
section
variable {w:Wd} {T:Nat->Option Nat} {m:bB} {M:Mm}
structure ChS(w w':Wd)(T T':Nat->Option Nat)(m m':bB)(M M':Mm)(t:Int)(Kw:List KV)(ps cU:List Rf)(r':Rf)(kI:Nat):Prop where
 mem:aY w'.heap T' m' M'
 bm:m'.bm=m.bm
 tg:Tg w T T'
 ext:Ext (Ts T) w w'
 tree:dB M'.f t r' kI Kw cU
 lv:kI<=30
 FP:mf M M' 60 ps cU
set_option maxHeartbeats 4000000 in
theorem KE{t:Int}{lev:Nat}{r:Rf}{kvs:List KV}{ps:List Rf}{oK oV:Sl}{key val:List Int}{d:Bool}{K:Int->Int->Int->Int->Int->Pw}(R:aY w.heap T m M)(hT:dB M.f t r lev kvs ps)(hs:Sub ps M)(ho:EG w T oK oV key val)(hn:M.au.length<=1000000)
  (k:∀(r':Rf)(kI:Nat) cU T' m' M' w',ChS w w' T T' m m' M M' t (kH key (K8 d val) kvs) ps cU r' kI->K r'.p r'.c r'.g kI 0 w'):ib (eW m) t r.p r.c r.g lev oK oV d w K:=by
 apply ux;have sup:∀q,w.heap.size<=q->T q=none:=fun q hq=>R.iA hq
 have nT:∀{q},T q=none->¬ Ts T q:=fun h h'=>h' h
 refine ag.mk fun b w1 n1=>ag.mk fun b1 w2 n2=>ag.mk fun b2 w3 n3=>ag.mk fun b3 w4 n4=>?_
 have hb:=n1.at_;have gE:=n2.at_;have lO:=n3.at_;have xB:=n4.at_;have z1:=n1.size;have z2:=n2.size;have z3:=n3.size;have z4:=n4.size;have gF:Ext No w w4:=((n1.ext.no n2.ext).no n3.ext).no n4.ext;have g4:=ad (ad (ad n1.get n2.ext) n3.ext) n4.ext;have kM:=ad (ad n2.get n3.ext) n4.ext;have wB:=ad n3.get n4.ext;have g34:=n4.get;have Ys:T b3=none:=sup b3 (by omega);have cB:∀{w5:Wd}{b':Nat},Ext (·=b3) w4 w5->Ext (Ts T) w w5:=fun x=>gF.aG.trans x fun q hq h=>by omega
 have Mf:lev<=19:=by
  rcases hT with⟨_,h,_⟩ | ⟨_,_,h⟩
  .omega
  .have:=h.low (by have:=hs.len;omega);simpa using this
 have same:∀w5:Wd,Ext (·=b3) w4 w5->kH key (K8 d val) kvs=kvs->K r.p r.c r.g lev 0 w5:=fun w5 x5 hk=>
  k r lev ps T m M w5 ⟨(R.no gF).ext x5 fun q hq=>by rw[hq];exact Ys,rfl,fun _ _=>rfl,cB (b':=0) x5,by rw[hk];exact hT,by omega,(mf.refl M).as (by omega) (by simp) (by simp)⟩
 have ho4:EG w4 T oK oV key val:=ho.ext gF.aG fun q _ h=>h
 refine⟨_,Cell.ai kM rfl,_,Cell.ai kM rfl,_,Cell.ai kM rfl,_,Cell.ai kM rfl,If.cases (fun hz=>?_) fun hz=>?_⟩
 .have hr:r = .z:=by
   simp only[Bool.and_eq_true,beq_iff_eq,Bool.and_true]at hz;obtain⟨p,c,g⟩:=r;simp only at hz;show Rf.mk p c g=Rf.mk 0 0 0;rw[hz.1.1,hz.1.2.1,hz.1.2.2]
  rcases hT with⟨_,h0,rfl,rfl⟩ | ⟨h,_⟩
  rotate_left
  .exact(h hr).elim
  refine⟨d,Cell.ai wB rfl,If.cases (fun hd=>?_) fun hd=>?_⟩
  .subst hd;exact⟨_,Cell.ai kM rfl,_,Cell.ai kM rfl,_,Cell.ai kM rfl,_,Cell.ai kM rfl,DA g34 rfl fun w5 x5 _=>same w5 x5 (Ds _ _)⟩
  .subst hd;refine⟨_,Cell.ai g4 rfl,_,Cell.ai g4 rfl,_,Cell.ai wB rfl,_,Cell.ai wB rfl,?_⟩;refine Dp (R.no gF) ho4.kR ho4.vR ho.k8 ho.v8 ho.kl ho.vl hn fun x e psn T' m' M3 w6 St=>?_
   refine bA (vs:=x.cs) rfl rfl (jA _) fun b4 w8 g8 Io z8 x8=>If.bne (fun h=>(h rfl).elim) fun _=>?_
   have s6:=St.ext.size;have tT:∀q,q < w4.heap.size->T' q=T q:=St.tg
   have g6:=ad (af g4 St.ext (nT (sup b (by omega)))) x8;have X7:=ad (af g34 St.ext (nT Ys)) x8;refine⟨_,Cell.ai g6 rfl,_,Cell.ai g6 rfl,fx g8 (ag.mk fun b5 dA mH=>?_)⟩;have Qi:=mH.at_;have LS:=mH.size;have Vd:Ext No w6 dA:=x8.no mH.ext;have er:=St.er.no Vd
   have nd:oQ dA.heap ⟨some ⟨b5,0,none⟩,1,1⟩ [(x,e)]:=⟨by have:=(CR (y:=x) mH).rd;simpa using this,fun p hp=>by rw[List.mem_singleton]at hp;subst hp;exact er⟩
   have Pq:vV [e]:=⟨fun y hy=>by rw[List.mem_singleton]at hy;subst hy;exact St.iw,List.pairwise_singleton _ _⟩
   have jw:(wr 1 0 [e]).length<=224:=by rw[fA,dC,q_];have:=Mq St.iw;omega
   rw[<- nt St.bm];refine mc (R:=St.mem.no Vd) nd (by simp) (show aJ 1 0 (ents [(x,e)]) from Pq.right) jw (by have:=St.FP.len;omega) fun n T2 m2 dg iD R11 ME Pp fY=>?_
   have tV:=mf.put (M:=M3) (n:=n) (t:=t) (k:=1) (v:=0) (pay:=pad (wr 1 0 [e]));have Fi:=qZ (t:=t) (k:=1) (v:=0) (pay:=pad (wr 1 0 [e])) iD;have NI:(⟨n,M3.aE,M3.gen⟩ : Rf) ≠ .z:=fun h=>by have:=iD.lo;have:=congrArg Rf.p h;simp only[Rf.z]at this;omega
   have s8:=Vd.size;have SK:T' b3=none:=by rw[tT b3 (by omega)];exact Ys
   have ae3:T2 b3=none:=by rw[Pp b3 (by omega)];exact SK
   have UZ:=af (ad X7 mH.ext) fY (fun h=>h SK);refine DA UZ rfl fun eG gS Ro=>?_
   have PF:Ext (·=b3) dg eG:=gS;refine k ⟨n,M3.aE,M3.gen⟩ 0 (⟨n,M3.aE,M3.gen⟩::psn) T2 m2 (Bm M3 n t 1 0 (pad (wr 1 0 [e]))) eG ⟨R11.ext PF fun q hq=>by rw[hq];exact ae3,ME.trans St.bm,fun q hq=>by rw[Pp q (by omega)];exact tT q (by omega),?_,.inr ⟨NI,by omega,?_⟩,by omega,?_⟩
   .exact((((gF.aG.trans St.ext fun q hq h=>h).no Vd)).trans fY fun q hq h=>by show T q≠none;rw[<- tT q (by omega)];exact h).trans PF fun q hq h=>by omega
   .have Dw:kH key (K8 false val) []=[(key,val)]:=Ds _ _;rw[Dw];refine bu.shut (lev:=0) ⟨Fi,Pq.right,jw,fun y hy=>?_⟩ (by simp) (fun h=>absurd h (by omega)) ?_
    .rw[List.mem_singleton]at hy;subst hy;exact⟨⟨er.Ue,er.Ug⟩,er.k8,er.v8⟩
    .have h1:cM M3.f t [e] [(key,val)] psn:=by simpa using cM.cons St.leaf .nil
     exact(show Body M3.f t 0 [e] [(key,val)] psn from h1).cB (tV.cB fun q _=> .inl (by simp))
   .refine(St.FP.trans tV).as (by omega) (by simp) fun q=>?_
    simp only[List.count_append,List.count_cons,List.count_nil];omega
 .have hS:r ≠ .z/\bu M.f t lev r kvs ps:=by
   rcases hT with⟨hr,h0,_⟩ | ⟨hr,_,h⟩
   .subst hr;have:lev=0:=by omega
    subst this;exact absurd hz (by decide)
   .exact⟨hr,by simpa using h⟩
  refine⟨fun w'=>Ext No w4 w',⟨d,Cell.ai wB rfl,If.cases (fun hd=>?_) fun hd=>Ext.refl _ _⟩,?_⟩
  .subst hd;refine⟨_,Cell.ai g4 rfl,_,Cell.ai g4 rfl,_,Cell.ai kM rfl,_,Cell.ai kM rfl,_,Cell.ai kM rfl,_,Cell.ai kM rfl,_,Cell.ai wB rfl,?_⟩;refine nj (R.no gF) hT (by omega) ho4.kR ho.k8 (fun w' h _=>by have:=ho.kl;omega) (fun w' _ _ hg x'=>If.beq (fun _=>?_) fun h=>(h rfl).elim) (fun v s' w' _ _ _ _ x'=>If.beq (fun h=>by omega) fun _=>If.beq (fun _=>x') fun h=>(h rfl).elim);have YJ:=ad kM x';refine⟨_,Cell.ai YJ rfl,_,Cell.ai YJ rfl,_,Cell.ai YJ rfl,_,Cell.ai YJ rfl,DA (ad g34 x') rfl fun w5 x5 _=>same w5 (x'.aG.trans x5 fun _ _ h=>h) (NV hT.sort (DB hg))⟩
  .rintro _ oS qX;have PG:Ext No w4 oS:=qX;have KF:=gF.no PG;have s16:=PG.size;have wj:=ad g4 PG;have EH:=ad kM PG;have YK:=ad wB PG;have Ps:=ad g34 PG;refine⟨_,Cell.ai wj rfl,_,Cell.ai wj rfl,_,Cell.ai EH rfl,_,Cell.ai EH rfl,_,Cell.ai EH rfl,_,Cell.ai EH rfl,_,Cell.ai YK rfl,_,Cell.ai YK rfl,_,Cell.ai YK rfl,?_⟩;refine FV lev (R.no KF) hS.2 hs (ho.ext KF.aG fun q _ h=>h) hn fun sl ls U5 T' m' M' hU A=>If.bne (fun h=>(h rfl).elim) fun _=>?_
   obtain⟨Yw,Aj,tg,uW,U9,U_,cg⟩:=A
   have SL:Ext (Ts T) oS hU:=uW.mono fun q hq h=>by
    rcases h with h | h
    .exact h
    .omega
   have s17:=SL.size;have BF:=af wj SL (nT (sup b (by omega)));have SG:=af EH SL (nT (sup b1 (by omega)));have YL:=af Ps SL (nT Ys);refine⟨_,Cell.ai BF rfl,_,Cell.ai BF rfl,_,Cell.ai SG rfl,?_⟩;rw[<- nt Aj];have tT:∀q,q < oS.heap.size->T' q=T q:=tg
   refine MF Yw (U9.mono fun q _ h=>h.2) U_ (by omega) (by have:=cg.len;omega) (fun x hx _ h1=>?_) fun r' kI cU rs T2 m2 M2 yX R19 ME Pp Ev tr hl cg2 Iu=>?_
   .subst hx;have:=List.length_pos_iff.2 (rE U_).ne;omega
   have SK:T' b3=none:=by rw[tT b3 (by omega)];exact Ys
   have Yk:=af YL Ev (fun h=>h SK);refine DA Yk rfl fun pG uH z20=>?_
   have SM:Ext (·=b3) yX pG:=uH;refine k r' kI cU T2 m2 M2 pG ⟨R19.ext SM fun q hq=>by rw[hq,Pp b3 (by omega)];exact SK,ME.trans Aj,fun q hq=>by rw[Pp q (by omega)];exact tT q (by omega),?_,tr,hl,?_⟩
   .exact((KF.aG.trans SL fun _ _ h=>h).trans Ev fun q hq h=>by show T q≠none;rw[<- tT q (by omega)];exact h).trans SM fun q hq h=>by omega
   .refine(cg.trans cg2).as (by omega) (fun q hq=>by simpa using hq) fun q=>?_
    have:=Iu q;simp only[List.count_append,List.count_nil];omega
end
end Go.Proofs.YtpjbalhhlaofmaaGreat
namespace Go.V
structure kJ where
 k:Sl
 v:Sl
 d:Bool
 key:List Int
 val:List Int
def kJ.cs(x:kJ):List Value:=[.slice x.k.a x.k.len x.k.cap,.slice x.v.a x.v.len x.v.cap,.bool x.d]
abbrev kJ.agg(x:kJ):Value:= .agg x.cs.toArray
def rF(l:List Int):ByteArray:=⟨(Ov l).toArray⟩
theorem KG{l m:List Int}(hl:B8 l)(hm:B8 m)(h:rF l=rF m):l=m:=by
 refine(Nc hl hm).1 ?_;have:=congrArg ByteArray.toList h;simpa[rF,toList_mk] using this
def kJ.fit(x:kJ):Prop:=(1<=x.key.length/\x.key.length<=32)/\x.val.length<=1024/\(x.d=true->x.val.length=0)
instance (x:kJ):Decidable x.fit:=by unfold kJ.fit;infer_instance
structure Ve(h:Array Obj)(T:Nat->Option Nat)(x:kJ):Prop where
 k:Rd h x.k 1 (x.key.map (Value.int .u8))
 v:Rd h x.v 1 (x.val.map (Value.int .u8))
 k8:B8 x.key
 v8:B8 x.val
 ku:x.key≠[]->∀q,x.k.aq=some q->T q=none/\q < h.size
 vu:x.val≠[]->∀q,x.v.aq=some q->T q=none/\q < h.size
theorem Ve.ext{S:Nat->Prop}{w w':Wd}{T:Nat->Option Nat}{x:kJ}(r:Ve w.heap T x)(e:Ext S w w')(hS:∀q,q < w.heap.size->S q->T q≠none):Ve w'.heap T x:=
  ⟨Rd.Kv r.k e fun hn q hl hq h=>hS q hl h (r.ku hn q hq).1,Rd.Kv r.v e fun hn q hl hq h=>hS q hl h (r.vu hn q hq).1,r.k8,r.v8,
   fun hn q hq=>⟨(r.ku hn q hq).1,Nat.lt_of_lt_of_le (r.ku hn q hq).2 e.size⟩,fun hn q hq=>⟨(r.vu hn q hq).1,Nat.lt_of_lt_of_le (r.vu hn q hq).2 e.size⟩⟩
theorem Ve.tg{w:Wd}{T T':Nat->Option Nat}{x:kJ}(r:Ve w.heap T x)(h:∀q,q < w.heap.size->T' q=T q):Ve w.heap T' x:=
 ⟨r.k,r.v,r.k8,r.v8,fun hn q hq=>⟨by rw[h q (r.ku hn q hq).2];exact(r.ku hn q hq).1,(r.ku hn q hq).2⟩,fun hn q hq=>⟨by rw[h q (r.vu hn q hq).2];exact(r.vu hn q hq).1,(r.vu hn q hq).2⟩⟩
abbrev TN(l:List (ByteArray×kJ)):List (ByteArray×Value):=l.map fun p=>(p.1,p.2.agg)
def wu(a:ByteArray)(x:kJ):List (ByteArray×kJ)->List (ByteArray×kJ)
 | []=>[(a,x)]
 | p::m=>if a=p.1 then(a,x)::m else p::wu a x m
def rG(a:ByteArray):List (ByteArray×kJ)->Option kJ
 | []=>none
 | p::m=>if a=p.1 then some p.2 else rG a m
theorem SN(a:ByteArray)(x:kJ):∀l,CA a x.agg (TN l)=TN (wu a x l)
 | []=>rfl
 | p::l=>by
  simp only[TN,List.map_cons,CA,wu];split
  .simp
  .simp only[List.map_cons,List.cons.injEq,true_and];exact SN a x l
theorem SO(a:ByteArray):∀l,JH a (TN l)=(rG a l).map kJ.agg
 | []=>rfl
 | p::l=>by
  simp only[TN,List.map_cons,JH,rG];split
  .rfl
  .exact SO a l
theorem KH(a b:ByteArray)(x:kJ):∀l,rG b (wu a x l)=if b=a then some x else rG b l
 | []=>by simp only[wu,rG]
 | p::l=>by
  simp only[wu];split
  .rename_i h;simp only[rG,<- h];split
   .rfl
   .rfl
  .rename_i h;simp only[rG];split
   .rename_i h2;rw[if_neg (show ¬ b=a from fun e=>h (e.symm.trans h2))]
   .exact KH a b x l
theorem FX(a:ByteArray)(x:kJ):∀{l:List (ByteArray×kJ)},(l.map Prod.fst).Nodup->((wu a x l).map Prod.fst).Nodup/\(∀b,b∈(wu a x l).map Prod.fst->b=a∨b∈l.map Prod.fst)/\(wu a x l).length<=l.length+1
 | [],_=>by simp[wu]
 | p::l,h=>by
  simp only[List.map_cons,List.nodup_cons]at h;simp only[wu];split
  .rename_i e;refine⟨?_,fun b hb=>?_,by simp⟩
   .simp only[List.map_cons,List.nodup_cons];exact e ▸ h
   .simp only[List.map_cons,List.mem_cons]at hb ⊢;rcases hb with hb | hb
    .exact .inl hb
    .exact .inr (.inr hb)
  .rename_i e;obtain⟨h1,h2,h3⟩:=FX a x (l:=l) h.2;refine⟨?_,fun b hb=>?_,by simp;omega⟩
   .simp only[List.map_cons,List.nodup_cons];refine⟨fun hm=>?_,h1⟩;rcases h2 _ hm with h' | h'
    .exact e h'.symm
    .exact h.1 h'
   .simp only[List.map_cons,List.mem_cons]at hb ⊢;rcases hb with hb | hb
    .exact .inr (.inl hb)
    .rcases h2 _ hb with h' | h'
     .exact .inl h'
     .exact .inr (.inr h')
theorem FY{a:ByteArray}:∀{l:List (ByteArray×kJ)},a∈l.map Prod.fst->∃x,rG a l=some x/\(a,x)∈l
 | [],h=>by cases h
 | p::l,h=>by
  simp only[rG];split
  .rename_i e;exact⟨p.2,rfl,by rw[e];simp⟩
  .rename_i e;simp only[List.map_cons,List.mem_cons]at h;obtain⟨x,h1,h2⟩:=FY (h.resolve_left e);exact⟨x,h1,List.mem_cons_of_mem _ h2⟩
theorem SP{k k':List Int}{o:Option (List Int)}{l:List KV}:ca (kH k o l) k'=if k'=k then o else ca l k':=by
 have lo:∀{p:KV->Bool},(∀x,x.1=k'->p x=true)->ca (l.filter p) k'=ca l k':=fun {p} h=>by
  unfold ca;rw[List.find?_filter];congr 2;funext x;by_cases hx:x.1=k'
  .simp[hx,h x hx]
  .simp[hx]
 have no:∀{p:KV->Bool},(∀x,x.1=k'->p x=false)->ca (l.filter p) k'=none:=fun {p} h=>qY fun x hx e=>by
  have:=(List.mem_filter.1 hx).2;rw[h x e]at this;cases this
 unfold kH;rw[ni,ni]
 have mid:∀v,ca (((some v:Option (List Int)).map fun v=>(k,v)).toList) k'=if k'=k then some v else none:=fun v=>by
  unfold ca;by_cases h:k'=k
  .subst h;simp
  .simp[h,Ne.symm h]
 rcases bW.total k' k with h | h | h
 .have h1:ca (kvLo k l) k'=ca l k':=lo fun x hx=>by rw[hx];exact decide_eq_true h
  have h2:ca (kvHi k l) k'=none:=no fun x hx=>by rw[hx];exact decide_eq_false fun h'=>(h.trans h').irrefl
  have bC:k'≠k:=fun e=>(e ▸ h).irrefl
  rw[h1,h2,if_neg bC]
  cases o with
  | none=>cases ca l k' <;> rfl
  | some v=>rw[mid v,if_neg bC];cases ca l k' <;> rfl
 .subst h;have h1:ca (kvLo k' l) k'=none:=no fun x hx=>by rw[hx];exact decide_eq_false fun h'=>h'.irrefl
  have h2:ca (kvHi k' l) k'=none:=no fun x hx=>by rw[hx];exact decide_eq_false fun h'=>h'.irrefl
  rw[h1,h2,if_pos rfl]
  cases o with
  | none=>rfl
  | some v=>rw[mid v,if_pos rfl];rfl
 .have h1:ca (kvLo k l) k'=none:=no fun x hx=>by rw[hx];exact decide_eq_false fun h'=>(h.trans h').irrefl
  have h2:ca (kvHi k l) k'=ca l k':=lo fun x hx=>by rw[hx];exact decide_eq_true h
  have bC:k'≠k:=fun e=>(e ▸ h).irrefl
  rw[h1,h2,if_neg bC]
  cases o with
  | none=>rfl
  | some v=>rw[mid v,if_neg bC];rfl
end Go.V
namespace Go.Proofs.YtpjbalhhlaofmaaGreat
open Go.V
section
variable {w:Wd} {T:Nat->Option Nat} {m:bB} {M:Mm}
theorem HX{x:kJ}{K:Bool->Pw}(hk:x.k.len=x.key.length)(hv:x.v.len=x.val.length)(k:∀w',Ext No w w'->K (decide x.fit) w'):qB x.k x.v x.d w K:=by
 apply GM
 refine ag.mk fun b w1 n1=>⟨_,Cell.ai n1.get rfl,?_⟩
 have kk:∀p:Bool,(p=decide x.fit)->K p w1:=fun p hp=>by rw[hp];exact k w1 n1.ext
 have no:¬ x.fit->K false w1:=fun h=>kk _ (by rw[decide_eq_false h])
 refine If.dec (fun h1=>⟨_,Cell.ai n1.get rfl,If.dec (fun h2=>⟨_,Cell.ai n1.get rfl,If.dec (fun h3=>⟨_,Cell.ai n1.get rfl,If.cases (fun hd=>⟨_,Cell.ai n1.get rfl,kk _ ?_⟩) fun hd=>kk _ ?_⟩) fun h=>no fun f=>by have:=f.2.1;omega⟩) fun h=>no fun f=>by have:=f.1;omega⟩) fun h=>no fun f=>by have:=f.1;omega
 .rw[<- decide_not];refine decide_eq_decide.2 ⟨fun h=>⟨by omega,by omega,fun _=>by omega⟩,fun f=>by have:=f.2.2 hd;omega⟩
 .exact(decide_eq_true ⟨by omega,by omega,fun h=>by rw[hd]at h;cases h⟩).symm
theorem PH{a b:ByteArray}{K:Int->Pw}(k:∀r,K r w):gr a b w K:=by
 apply wR;apply jO;refine⟨Extern.BytealgCompare.cmp a b,w,?_,k _⟩;rw[run_callFunc_extern (e:=Extern.BytealgCompare.compare) Tryz.func112 (by kernel_rfl) (by kernel_rfl) (by kernel_rfl) (by kernel_rfl)];rfl
theorem aco:zV pz 9 Value.string:=Ul (by kernel_rfl)
theorem DC{r:Nat}{l:List (ByteArray×kJ)}(h:tF w.heap Value.string r (TN l))(a:ByteArray):Sem.run pz (Instr.lookup 98 (.map (some r)) (.string a) false) w = .ok (((rG a l).getD ⟨⟨none,0,0⟩,⟨none,0,0⟩,false,[],[]⟩).agg) w:=by
 have:=CC (mt:=98) (et:=52) (a:=a) (z:=kJ.agg ⟨⟨none,0,0⟩,⟨none,0,0⟩,false,[],[]⟩) aco (by kernel_rfl) (fp (i:=Tryz.t52) (by kernel_rfl) (by kernel_rfl)) h;rw[this,SO]
 cases rG a l <;> rfl
theorem YM{bc r:Nat}{s:Sl}{l:List (ByteArray×kJ)}{w0:Wd}(g:w0.heap[bc]? = some (.cells [.map (some r)].toArray 98 (0,0)))(h:tF w0.heap Value.string r (TN l))(nb:s.aq≠some bc)(nr:s.aq≠some r):T_ w0 s (.func (.func 49) #[] #[.pointer (some ⟨bc,0,none⟩)]):=by
 intro w x y K hx hk;refine Cb (Ca ?_);have g1:=af g hx nb;have h1:=h.ext hx nr;have Ad:∀{w'},Ext No w w'->tF w'.heap Value.string r (TN l):=fun e=>h1.ext e fun h=>h
 have xd:Ext No w (aa w):=(Ext.refl _ _).drew;refine⟨Ext No w,xd,_,ae.cell (Cell.ai g1 rfl),_,ae.cell (Cell.ai g1 rfl),⟨_,_,_,_,DC (Ad xd) x,xd,_,_,_,_,DC (Ad xd) y,xd,?_⟩,⟨_,_,_,_,DC (Ad xd) y,xd,_,_,_,_,DC (Ad xd) x,xd,?_⟩⟩
 all_goals exact If.cases (fun _=>If.cases (fun _=>hk _ _ xd) fun _=>hk _ _ xd) fun _=>PH fun r=>hk _ _ xd
end
end Go.Proofs.YtpjbalhhlaofmaaGreat
namespace Go.V
def opsL(l:List kJ)(kvs:List KV):List KV:=l.foldl (fun a x=>kH x.key (K8 x.d x.val) a) kvs
def iB(l:List kJ)(key:List Int):Option kJ:=l.foldl (fun o x=>if x.key=key then some x else o) none
theorem oY(l:List kJ)(x:kJ)(key:List Int):iB (l++[x]) key=if x.key=key then some x else iB l key:=by simp[iB]
theorem zq(l:List kJ)(x:kJ)(kvs:List KV):opsL (l++[x]) kvs=kH x.key (K8 x.d x.val) (opsL l kvs):=by simp[opsL]
theorem xP{α:Type}{P:List α->Prop}(h0:P [])(h1:∀l x,P l->P (l++[x]))(l:List α):P l:=by
 have:∀n (l:List α),l.length=n->P l:=by
  intro n
  induction n with
  | zero=>intro l h;rw[List.eq_nil_of_length_eq_zero h];exact h0
  | succ n ih=>
   intro l h;have bC:l≠[]:=by intro e;rw[e]at h;simp at h
   rw[<- List.dropLast_concat_getLast bC];exact h1 _ _ (ih _ (by simp[h]))
 exact this _ l rfl
theorem DD(kvs:List KV)(key:List Int)(l:List kJ):ca (opsL l kvs) key=match iB l key with | some x=>K8 x.d x.val | none=>ca kvs key:=by
 refine xP (P:=fun l=>ca (opsL l kvs) key=match iB l key with | some x=>K8 x.d x.val | none=>ca kvs key) rfl (fun l x ih=>?_) l;rw[zq,SP,oY];by_cases h:x.key=key
 .rw[if_pos h.symm,if_pos h]
 .rw[if_neg (fun e=>h e.symm),if_neg h];exact ih
theorem PI{k:List Int}{o:Option (List Int)}{l:List KV}(h:gQ l):gQ (kH k o l):=by
 unfold kH;refine List.pairwise_append.2 ⟨h.sublist List.filter_sublist,List.pairwise_append.2 ⟨?_,h.sublist List.filter_sublist,fun x hx y hy=>?_⟩,fun x hx y hy=>?_⟩
 .cases o <;> simp
 .have h2:=of_decide_eq_true (List.mem_filter.1 hy).2
  cases o with
  | none=>simp at hx
  | some v=>simp at hx;rw[hx];exact h2
 .have h1:=of_decide_eq_true (List.mem_filter.1 hx).2;rcases List.mem_append.1 hy with h' | h'
  .cases o with
   | none=>simp at h'
   | some v=>simp at h';rw[h'];exact h1
  .exact h1.trans (of_decide_eq_true (List.mem_filter.1 h').2)
theorem FZ{l:List kJ}{kvs:List KV}(h:gQ kvs):gQ (opsL l kvs):=
 xP (P:=fun l=>gQ (opsL l kvs)) h (fun l x ih=>by rw[zq];exact PI ih) l
theorem zr{l:List KV}(h:gQ l){x:KV}:x∈l ↔ ca l x.1=some x.2:=by
 induction l with
 | nil=>simp[ca]
 | cons y l ih=>
  have h2:=List.pairwise_cons.1 h
  have e:ca (y::l) x.1=if y.1=x.1 then some y.2 else ca l x.1:=by
   unfold ca;by_cases hh:y.1=x.1 <;> simp[hh]
  rw[e,List.mem_cons];by_cases hh:y.1=x.1
  .rw[if_pos hh];constructor
   .rintro(h' | h')
    .rw[h']
    .exact absurd (h2.1 x h') (by rw[hh];exact fun h=>h.irrefl)
   .intro h';left;simp only[Option.some.injEq]at h';exact Prod.ext hh.symm h'.symm
  .rw[if_neg hh,<- ih h2.2];exact⟨fun h'=>h'.resolve_left fun e=>hh (by rw[e]),.inr⟩
theorem SQ{a b:List KV}(ha:gQ a)(hb:gQ b)(h:∀k,ca a k=ca b k):a=b:=by
 have nd:∀{l:List KV},gQ l->l.Nodup:=fun h=>h.imp fun {x y} h e=>by rw[e]at h;exact h.irrefl
 have hp:a.Perm b:=(List.perm_ext_iff_of_nodup (nd ha) (nd hb)).2 fun x=>by rw[zr ha,zr hb,h]
 exact hp.eq_of_pairwise (fun x y _ _ h1 h2=>absurd (h1.trans h2) (fun h=>h.irrefl)) ha hb
theorem DE{l:List kJ}{key:List Int}{x:kJ}(h:iB l key=some x):x∈l/\x.key=key:=by
 revert h
 refine xP (P:=fun l=>iB l key=some x->x∈l/\x.key=key) (fun h=>by cases h) (fun l y ih h=>?_) l;rw[oY]at h;split at h
 .rename_i hy;cases h;exact⟨by simp,hy⟩
 .obtain⟨a,b⟩:=ih h;exact⟨by simp[a],b⟩
theorem KI{l:List kJ}{key:List Int}{x:kJ}(hx:x∈l)(hk:x.key=key):∃y,iB l key=some y:=by
 revert hx
 refine xP (P:=fun l=>x∈l->∃y,iB l key=some y) (fun h=>by cases h) (fun l y ih h=>?_) l;rw[oY];split
 .exact⟨_,rfl⟩
 .rename_i hy;rcases List.mem_append.1 h with h | h
  .exact ih h
  .rw[List.mem_singleton]at h;subst h;exact(hy hk).elim
theorem KJ{a:ByteArray}{x:kJ}:∀{l:List (ByteArray×kJ)},(l.map Prod.fst).Nodup->(a,x)∈l->rG a l=some x
 | [],_,h=>by cases h
 | p::l,hn,h=>by
  simp only[List.map_cons,List.nodup_cons]at hn;simp only[rG];rcases List.mem_cons.1 h with h' | h'
  .rw[<- h'];simp
  .rw[if_neg (show ¬ a=p.1 from fun e=>hn.1 (by rw[<- e];exact List.mem_map.2 ⟨_,h',rfl⟩))];exact KJ hn.2 h'
theorem SR{xs done:List kJ}{l:List (ByteArray×kJ)}{kvs:List KV}(hs:gQ kvs)(h8:∀x∈xs,B8 x.key)(hl:∀key,B8 key->rG (rF key) l=iB xs key)(hn:(l.map Prod.fst).Nodup)(hk:∀p∈l,p.1=rF p.2.key/\p.2∈xs)
  (hd:∀x∈done,(rF x.key,x)∈l) (hp:(done.map fun x=>rF x.key).Perm (l.map Prod.fst)):opsL done kvs=opsL xs kvs:=by
 refine SQ (FZ hs) (FZ hs) fun key=>?_
 rw[DD,DD]
 have:iB done key=iB xs key:=by
  cases h1:iB done key with
  | some x=>
   obtain⟨a,rfl⟩:=DE h1;have hm:=hd x a;have hb:=h8 x (hk _ hm).2;rw[<- hl x.key hb,KJ hn hm]
  | none=>
   cases h2:iB xs key with
   | none=>rfl
   | some y=>
    obtain⟨a,rfl⟩:=DE h2;have hb:=h8 y a;have h3:=hl y.key hb;rw[h2]at h3
    have hm:rF y.key∈l.map Prod.fst:=by
     refine Classical.byContradiction fun hc=>?_
     have:rG (rF y.key) l=none:=by
      clear hl hn hk hd hp h3
      induction l with
      | nil=>rfl
      | cons p l ih=>
       simp only[List.map_cons,List.mem_cons,not_or]at hc;simp only[rG];rw[if_neg hc.1];exact ih hc.2
     rw[this]at h3;cases h3
    obtain⟨x,hx,he⟩:=List.mem_map.1 (hp.mem_iff.2 hm);have hxk:x.key=y.key:=KG (h8 x (hk _ (hd x hx)).2) hb he;obtain⟨z,hz⟩:=KI hx hxk;rw[h1]at hz;cases hz
 rw[this]
structure Bw(M M':Mm)(k:Nat)(ds ns:List Rf):Prop where
 aE:M'.aE=M.aE
 gen:M'.gen=M.gen
 Iu:∀q,(live M'.au).count q+ds.count q=(live M.au).count q+ns.count q
 kp:∀n p,M.f n=some p->p.r.c≠M.aE->∃p',M'.f n=some p'/\p'.r=p.r/\p'.t=p.t/\p'.k=p.k/\p'.v=p.v/\p'.pay=p.pay
 ko:∀n p,M.f n=some p->p.r∈live M.au->p.r ∉ ds->∃p',M'.f n=some p'/\p'.r=p.r/\p'.t=p.t/\p'.k=p.k/\p'.v=p.v/\p'.pay=p.pay
 len:M'.au.length<=M.au.length+k
theorem mf.w{M M':Mm}{k:Nat}{ds ns:List Rf}(h:mf M M' k ds ns):Bw M M' k ds ns:=⟨h.aE,h.gen,h.Iu,fun n p hp hc=>h.kp n p hp (.inr hc),fun n p hp _ hc=>h.kp n p hp (.inl hc),h.len⟩
theorem Bw.trans{M0 M1 M2:Mm}{k1 k2:Nat}{a b c:List Rf}(S1:Mk M1)(h1:Bw M0 M1 k1 a b)(h2:Bw M1 M2 k2 b c):Bw M0 M2 (k1+k2) a c:=by
 refine⟨h2.aE.trans h1.aE,h2.gen.trans h1.gen,fun q=>by have:=h1.Iu q;have:=h2.Iu q;omega,fun n p hp hc=>?_,fun n p hp hl hc=>?_,by have:=h1.len;have:=h2.len;omega⟩
 .obtain⟨p1,e1,e2,e3,e4,e5,e6⟩:=h1.kp n p hp hc;obtain⟨p2,f1,f2,f3,f4,f5,f6⟩:=h2.kp n p1 e1 (by rw[e2,h1.aE];exact hc);exact⟨p2,f1,f2.trans e2,f3.trans e3,f4.trans e4,f5.trans e5,f6.trans e6⟩
 .obtain⟨p1,e1,e2,e3,e4,e5,e6⟩:=h1.ko n p hp hl hc;have c1:=h1.Iu p.r;have l0:=List.count_pos_iff.2 hl;have a0:=List.count_eq_zero.2 hc;have l1:=List.nodup_iff_count.1 (CP S1) p.r;obtain⟨p2,f1,f2,f3,f4,f5,f6⟩:=h2.ko n p1 e1 (by rw[e2];exact List.count_pos_iff.1 (by omega)) (by rw[e2];exact List.count_eq_zero.1 (by omega));exact⟨p2,f1,f2.trans e2,f3.trans e3,f4.trans e4,f5.trans e5,f6.trans e6⟩
theorem Bw.le{M M':Mm}{k k':Nat}{ds ns:List Rf}(h:Bw M M' k ds ns)(hk:k<=k'):Bw M M' k' ds ns:=⟨h.aE,h.gen,h.Iu,h.kp,h.ko,by have:=h.len;omega⟩
theorem Bw.sub{M M':Mm}{k:Nat}{ds ns:List Rf}(h:Bw M M' k ds ns)(hs:Sub ds M):Sub ns M':=fun q=>by have:=h.Iu q;have:=hs q;omega
end Go.V
namespace Go.Proofs.YtpjbalhhlaofmaaGreat
open Go.V
section
variable {w:Wd} {T:Nat->Option Nat} {m:bB} {M:Mm}
structure NW(w w':Wd)(T T':Nat->Option Nat)(m m':bB)(M M':Mm)(t:Int)(n:Nat)(Kw:List KV)(ps cU:List Rf)(r':Rf)(kI:Nat):Prop where
 mem:aY w'.heap T' m' M'
 bm:m'.bm=m.bm
 tg:Tg w T T'
 ext:Ext (Ts T) w w'
 tree:dB M'.f t r' kI Kw cU
 lv:kI<=30
 FP:Bw M M' (60 * n) ps cU
theorem KK(l:List kJ):∀x∈l,(kJ.cs x).length=3:=fun _ _=>rfl
set_option maxHeartbeats 4000000 in
theorem DF{t:Int}{lev:Nat}{r:Rf}{kvs:List KV}{ps:List Rf}{ops:Sl}{xs:List kJ}{K:Int->Int->Int->Int->Int->Pw}(R:aY w.heap T m M)(hT:dB M.f t r lev kvs ps)(ae4:lev<=30)(hs:Sub ps M)(MG:Rd w.heap ops 3 (xs.flatMap kJ.cs))(hx:∀x∈xs,Ve w.heap T x)(hl:xs.length<=12)(hn:M.au.length<=900000)
  (ae5:∀w',(∃x∈xs,¬ x.fit)->Ext No w w'->K 0 0 0 0 2 w')
  (k:∀(r':Rf)(kI:Nat) cU T' m' M' w',(∀x∈xs,x.fit)->NW w w' T T' m m' M M' t xs.length (opsL xs kvs) ps cU r' kI->K r'.p r'.c r'.g kI 0 w'):mR (eW m) t r.p r.c r.g lev ops w K:=by
 apply Ha;have sup:∀q,w.heap.size<=q->T q=none:=fun q hq=>R.iA hq
 have nT:∀{q},T q=none->¬ Ts T q:=fun h h'=>h' h
 refine ag.mk fun b w1 n1=>ag.mk fun b1 w2 n2=>⟨trivial,If.no ?_⟩
 refine ag.mk fun b2 w4 n4=>ag.mk fun b3 w5 n5=>aF.mk n5.get (by simp) rfl fun w6 h6=>?_
 have hb:=n1.at_;have gE:=n2.at_;have lO:=n4.at_;have xB:=n5.at_;have z1:=n1.size;have z2:=n2.size;have z4:=n4.size;have z5:=n5.size;have xN:Ext (·=b3) w5 w6:=h6.ext;have z6:w6.heap.size=w5.heap.size:=h6.size;have BB:Ext No w w5:=((n1.ext.no n2.ext).no n4.ext).no n5.ext;have AX:Ext No w w6:=BB.trans xN fun q hq h=>by omega
 have g6:=af (ad (ad (ad n1.get n2.ext) n4.ext) n5.ext) xN (by omega);have wj:=af (ad (ad n2.get n4.ext) n5.ext) xN (by omega);have gm6:=af (ad n4.get n5.ext) xN (by omega);have X7:w6.heap[b3]? = some (.cells [.map (some b2)].toArray 98 (0,0)):=h6.get n5.get;have af5:=MG.no AX;have hol:ops.len=xs.length:=by have:=MG.len;rw[aK (KK xs)]at this;omega
 refine⟨fun q tt w'=>∃(j:Nat) (l:List (ByteArray×kJ)),tt=j/\j<=xs.length/\q=xs.length - j/\tF w'.heap Value.string b2 (TN l)/\(l.map Prod.fst).Nodup/\l.length<=j/\Ext (·=b2) w6 w'/\(∀x∈xs.take j,x.fit)/\(∀key,B8 key->rG (rF key) l=iB (xs.take j) key)/\(∀p∈l,p.1=rF p.2.key/\p.2∈xs),
  ⟨xs.length,0,[],rfl,by omega,by omega,⟨#[],0,gm6,rfl,gL.nil⟩,.nil,by simp,Ext.refl _ _,by simp,fun key _=>by simp[rG,iB],by simp⟩,?_⟩
 rintro _ m0 tt w7 ⟨j,l,rfl,hj,hq,hm,sy,ZH,Wh,jh,qg,dI⟩;have wA:Ext No w w7:=AX.trans Wh fun q hq h=>by omega
 have g7:=af g6 Wh (by omega);have BF:=af wj Wh (by omega);have UX:=af X7 Wh (by omega);have z67:=Wh.size;refine If.dec (fun h=>?_) fun h=>?_
 .have fh:j < xs.length:=by omega
  have acp:=MG.no wA;refine Ix.elem acp (KK xs) (by decide) (by omega) h fun bb o qp _ bq=>?_
  simp only[Int.toNat_natCast]at qp bq;have hxj:xs[j]∈xs:=List.getElem_mem fh;refine⟨_,bq 0 _ rfl,_,bq 1 _ rfl,_,bq 2 _ rfl,bA (vs:=kJ.cs xs[j]) rfl rfl (by simp[kJ.cs,aN]) fun b4 w9 g9 Io z9 x9=>?_⟩;have r9:=(hx _ hxj).ext (wA.no x9) fun q _ h=>h.elim
  refine⟨_,Cell.ai g9 rfl,_,Cell.ai g9 rfl,_,Cell.ai g9 rfl,HX (cZ.len r9.k) (cZ.len r9.v) fun dA dR=>If.not (If.dec (fun hft=>?_) fun hft=>?_)⟩
  .have oq:=ad g9 dR;have uI:Ext No w7 dA:=x9.no dR;have UY:=ad UX uI;have r10:=r9.ext dR fun q _ h=>h.elim
   have ae6:=hm.ext uI fun h=>h
   obtain⟨eG,hup,acq,gS,Ro⟩:=uU (P:=pz) (mt:=98) (kt:=9) (et:=52) (a:=rF xs[j].key) (v:=xs[j].agg) aco (by kernel_rfl) ae6;rw[SN]at acq;have WD:=FX (rF xs[j].key) xs[j] sy;refine⟨_,Cell.ai UY rfl,_,Cell.ai oq rfl,su.mk r10.k (fun bb o v hv=>by show dA.cell? _=_;rw[m_];exact hv) ⟨_,Cell.ai oq rfl,_,Cell.ai oq rfl,_,Cell.ai oq rfl,eG,hup,Ar.i64 (by omega) ⟨xs.length - (j+1),by omega,j+1,wu (rF xs[j].key) xs[j] l,by omega,by omega,rfl,acq,WD.1,by have:=WD.2.2;omega,?_,fun x Fb=>?_,fun key hk=>?_,fun p hp=>?_⟩⟩⟩
   .exact(Wh.no uI).trans gS fun q _ h=>h
   .rw[List.take_add_one,List.getElem?_eq_getElem fh]at Fb;rcases List.mem_append.1 Fb with h' | h'
    .exact jh x h'
    .simp at h';rw[h'];exact hft
   .rw[KH,List.take_add_one,List.getElem?_eq_getElem fh,Option.toList_some,oY];by_cases he:xs[j].key=key
    .rw[if_pos he,if_pos (by rw[he])]
    .rw[if_neg he,if_neg fun e=>he (KG hk r9.k8 e).symm];exact qg key hk
   .have:∀{l:List (ByteArray×kJ)}{p},p∈wu (rF xs[j].key) xs[j] l->p=(rF xs[j].key,xs[j])∨p∈l:=fun {l p}=>by
     induction l with
     | nil=>intro h;simp[wu]at h;exact .inl h
     | cons y l ih=>
      intro h;simp only[wu]at h;split at h
      .rcases List.mem_cons.1 h with h | h
       .exact .inl h
       .exact .inr (List.mem_cons_of_mem _ h)
      .rcases List.mem_cons.1 h with h | h
       .exact .inr (by rw[h];exact List.mem_cons_self)
       .exact(ih h).imp id (List.mem_cons_of_mem _)
    rcases this hp with h' | h'
    .rw[h'];exact⟨rfl,hxj⟩
    .exact dI p h'
  .have uI:Ext No w7 dA:=x9.no dR;refine DA (ad BF uI) rfl fun dg fY Re=>ae5 dg ⟨_,hxj,hft⟩ ?_
   exact(wA.no uI).trans fY fun q hq h=>by omega
 .have fh:j=xs.length:=by omega
  rw[List.take_of_length_le (by omega)]at jh qg;refine⟨_,Cell.ai UX rfl,?_⟩;apply fG;refine ag.mk fun bk cX Qq=>?_
  have hbk:=Qq.at_;have K2:=Qq.size;apply nN;apply pU;refine Bu Qq.get (hm.ext Qq.ext fun h=>h) (by rw[List.length_map];omega) fun s ks c_ Su o14 gH=>?_
  have SS:ks.Perm (l.map Prod.fst):=by simpa[TN,List.map_map,Function.comp_def] using Su
  have PJ:Ext No w7 c_:=Qq.ext.no gH;have slt:∀q,s.aq=some q->cX.heap.size<=q/\q < c_.heap.size:=fun q hq=>o14.lt hq
  have JZ:=ad UX PJ;have acr:=hm.ext PJ fun h=>h
  have ae7:T_ c_ s (.func (.func 49) #[] #[.pointer (some ⟨b3,0,none⟩)]):=YM JZ acr (fun h=>by have:=slt _ h;omega) (fun h=>by have:=slt _ h;omega)
  refine Ex ae7 o14 (by have:=SS.length_eq;rw[List.length_map]at this;omega) fun L dU hL o15 pH=>⟨rfl,bA rfl rfl (by simp[aN]) fun b5 oS ae8 Qi z16 qX=>?_⟩
  have iT:Ext (fun q=>s.aq=some q) c_ dU:=pH;have V1:=iT.size;have s14:=PJ.size;have BG:∀q,q < cX.heap.size->¬ s.aq=some q:=fun q hq h=>by have:=slt q h;omega
  have KF:Ext No w oS:=((wA.no PJ).trans iT fun q hq h=>by have:=slt q h;have:=wA.size;omega).no qX;have ae9:=ad (af (ad g7 PJ) iT (BG _ (by omega))) qX;have EH:=ad (af (ad BF PJ) iT (BG _ (by omega))) qX;have Ps:=ad (af JZ iT (BG _ (by omega))) qX;have afa:=(acr.ext iT (BG _ (by omega))).ext qX fun h=>h
  have RS:=o15.no qX;have U7:L.Perm (l.map Prod.fst):=hL.trans SS;have JO:L.length<=xs.length:=by have:=U7.length_eq;rw[List.length_map]at this;omega
  have JF:s.len=L.length:=by have:=o15.len;simp only[List.length_map,Nat.mul_one]at this;omega
  have agT:=KF.size
  refine⟨fun q tt w'=>∃(j:Nat) (done:List kJ) (T':Nat->Option Nat) (m':bB) (M':Mm) (r':Rf) (kI:Nat) (cU:List Rf),tt=j/\j<=L.length/\q=L.length - j/\done.map (fun x=>rF x.key)=L.take j/\(∀x∈done,(rF x.key,x)∈l)/\aY w'.heap T' m' M'/\m'.bm=m.bm/\Tg oS T T'/\Ext (fun q=>Ts T q∨q=b) oS w'/\w'.heap[b]? = some (.cells [.int .u32 r'.p,.int .u64 r'.c,.int .u16 r'.g,.int .u8 kI].toArray 30 (0,0))/\dB M'.f t r' kI (opsL done kvs) cU/\kI<=30/\Bw M M' (60 * j) ps cU,
   ⟨L.length,0,[],T,m,M,r,lev,ps,rfl,by omega,by omega,rfl,by simp,R.no KF,rfl,fun _ _=>rfl,Ext.refl _ _,ae9,hT,ae4,((mf.refl M).as (by omega) (by simp) (by simp)).w⟩,?_⟩
  rintro _ m0 tt hU ⟨j2,done,T',m',M',r',kI,cU,rfl,Im,Zu,SU,hdl,Yw,Aj,tg,uW,HY,tr,Mf,cg⟩;have nS:∀{q},w.heap.size<=q->q≠b->¬ (Ts T q∨q=b):=fun h1 h2 h=>h.elim (nT (sup _ h1)) h2
  have acs:=af ae8 uW (nS (by omega) (by omega));have SG:=af EH uW (nS (by omega) (by omega));have YL:=af Ps uW (nS (by omega) (by omega));have afb:=afa.ext uW (nS (by omega) (by omega));have XR:=RS.ext uW fun q hq=>nS (by have:=slt q hq;omega) (by have:=slt q hq;omega)
  have s17:=uW.size;have tT:∀q,q < oS.heap.size->T' q=T q:=tg
  refine If.dec (fun h2=>?_) fun h2=>?_
  .have Kz:j2 < L.length:=by omega
   refine Ix.str XR (by omega) (by simpa using Kz) fun bb _ hc=>?_
   simp only[Int.toNat_natCast]at hc;have MV:L[j2]∈l.map Prod.fst:=U7.mem_iff.1 (List.getElem_mem Kz);obtain⟨x,hox,ZR⟩:=FY MV;have hpx:=dI _ ZR;have hxx:x∈xs:=hpx.2;have gN:L[j2]=rF x.key:=hpx.1;have F_:=DC afb L[j2];rw[hox]at F_;have UM:Ext (fun q=>Ts T q∨q=b) w hU:=KF.aG.trans uW fun _ _ h=>h
   have rx:=((hx x hxx).tg (T':=T') fun q hq=>tT q (by omega)).ext UM fun q hq h=>by rw[tT q (by omega)];exact h.elim id (by omega)
   have hf:=jh x hxx;refine⟨_,hc,_,Cell.ai acs rfl,_,Cell.ai acs rfl,_,Cell.ai HY rfl,_,Cell.ai HY rfl,_,Cell.ai HY rfl,_,Cell.ai HY rfl,_,Cell.ai YL rfl,x.k,x.v,x.d,hU,F_,?_⟩;rw[<- nt Aj];have tb':T' b=none:=by rw[tT b (by omega)];exact sup b (by omega)
   refine KE Yw tr (cg.sub hs) ⟨rx.k,rx.v,rx.k8,rx.v8,hf.1,hf.2.1,fun hn q hq=>(rx.ku hn q hq).1,fun hn q hq=>(rx.vu hn q hq).1⟩ (by have:=cg.len;omega) fun r2 K9 KL T2 m2 M2 yX C=>?_
   have afc:=af HY C.ext (fun h=>h tb');have ZJ:=C.ext.size;have TM:T2 b=none:=by rw[C.tg b (by omega)];exact tb'
   refine cK afc rfl rfl (by simp[aN]) fun pG g20 uH z20=>If.bne (fun h=>(h rfl).elim) fun _=>Ar.i64 (by omega) ?_
   have SM:Ext (·=b) yX pG:=uH;refine⟨L.length - (j2+1),by omega,j2+1,done++[x],T2,m2,M2,r2,K9,KL,by omega,by omega,rfl,?_,fun y hy=>?_,C.mem.ext SM fun q hq=>by rw[hq];exact TM,C.bm.trans Aj,fun q hq=>by rw[C.tg q (by omega)];exact tT q hq,?_,g20,by rw[zq];exact C.tree,C.lv,?_⟩
   .rw[List.map_append,SU,List.take_add_one,List.getElem?_eq_getElem Kz,Option.toList_some];simp[gN]
   .rcases List.mem_append.1 hy with h' | h'
    .exact hdl y h'
    .rw[List.mem_singleton]at h';rw[h',<- gN];exact ZR
   .exact(uW.trans C.ext fun q hq h=> .inl (by show T q≠none;rw[<- tT q hq];exact h)).trans SM fun q hq h=> .inr h
   .exact(cg.trans Yw.Bl C.FP.w).le (by omega)
  .have Kz:j2=L.length:=by omega
   rw[Kz,List.take_length]at SU;have heq:opsL done kvs=opsL xs kvs:=SR hT.sort (fun x Fb=>(hx x Fb).k8) qg sy dI hdl (by rw[SU];exact U7);rw[heq]at tr;refine⟨_,Cell.ai HY rfl,_,Cell.ai HY rfl,_,Cell.ai HY rfl,_,Cell.ai HY rfl,DA SG rfl fun py Mo z22=>?_⟩;have PL:Ext (·=b1) hU py:=Mo;refine k r' kI cU T' m' M' py jh ⟨Yw.ext PL fun q hq=>by rw[hq,tT b1 (by omega)];exact sup b1 (by omega),Aj,fun q hq=>tT q (by omega),?_,tr,Mf,cg.le (by omega)⟩;exact(KF.aG.trans uW fun q hq h=>h.elim id fun h=>by omega).trans PL fun q hq h=>by omega
end
end Go.Proofs.YtpjbalhhlaofmaaGreat
namespace Go.V
open Go.V.Pk Go.Proofs.YtpjbalhhlaofmaaGreat
theorem KM:∀{x y:List Int}{a b:Int},x.length=y.length->(bW (x++[a]) (y++[b]) ↔ bW x y∨x=y/\a < b)
 | [],[],a,b,_=>by
  simp only[bW,List.nil_append,iM];by_cases h:a < b
  .simp[h]
  .rw[if_neg h];by_cases h2:b < a
   .simp[h2];omega
   .simp[h2];omega
 | [],_::_,_,_,h=>by simp at h
 | _::_,[],_,_,h=>by simp at h
 | p::x,q::y,a,b,h=>by
  have ih:=KM (x:=x) (y:=y) (a:=a) (b:=b) (by simpa using h);simp only[bW,List.cons_append,iM]at ih ⊢;by_cases h1:p < q
  .simp[h1]
  .by_cases h2:q < p
   .simp[h1,h2];omega
   .have:p=q:=by omega
    subst this;simp only[if_neg h1];rw[ih];simp
theorem SV{k:Nat}{a b:Int}(ha:0<=a/\a < 256 ^ k)(hb:0<=b/\b < 256 ^ k)(h:be k a=be k b):a=b:=by
 rw[<- ji k ha.1 ha.2,h,ji k hb.1 hb.2]
theorem SW:∀(k:Nat){a b:Int},0<=a/\a < 256 ^ k->0<=b/\b < 256 ^ k->(bW (be k a) (be k b) ↔ a < b)
 | 0,a,b,ha,hb=>by simp[be,bW,iM] at *;omega
 | k+1,a,b,ha,hb=>by
  have e:(256:Int) ^ (k+1)=256 ^ k * 256:=Int.pow_succ _ _;have QT:0<=a / 256/\a / 256 < 256 ^ k:=by omega
  have Nb:0<=b / 256/\b / 256 < 256 ^ k:=by omega
  rw[be,be,KM (by rw[br,br]),SW k QT Nb];constructor
  .rintro(h | ⟨h,h2⟩)
   .omega
   .have:=SV QT Nb h;omega
  .intro h;rcases Int.lt_or_le (a / 256) (b / 256) with h1 | h1
   .exact .inl h1
   .have:a / 256=b / 256:=by omega
    exact .inr ⟨by rw[this],by omega⟩
def HZ(t:Int):Prop:=0<=t/\t<=4294967295
theorem HZ.p{t:Int}(h:HZ t):0<=t/\t < 256 ^ 4:=⟨h.1,by have:=h.2;show t < 4294967296;omega⟩
abbrev pD(t:Int):List Int:=be 4 t
theorem NX{a b:Int}(ha:HZ a)(hb:HZ b):bW (pD a) (pD b) ↔ a < b:=SW 4 ha.p hb.p
theorem SX{a b:Int}(ha:HZ a)(hb:HZ b)(h:pD a=pD b):a=b:=SV ha.p hb.p h
abbrev kvS(x:aA):KV:=(pD x.ah,gh x)
abbrev uN(W:List aA):List KV:=W.map kvS
def loS(t:Int)(W:List aA):List aA:=W.filter fun x=>decide (x.ah < t)
def hiS(t:Int)(W:List aA):List aA:=W.filter fun x=>decide (t < x.ah)
def pI(t:Int)(o:Option aA)(W:List aA):List aA:=loS t W++(o.toList++hiS t W)
def fD(W:List aA)(t:Int):Option aA:=W.find? fun x=>decide (x.ah=t)
structure fE(W:List aA):Prop where
 sort:W.Pairwise fun a b=>a.ah < b.ah
 may:∀x∈W,qd x
 sI:∀x∈W,AY x
theorem fE.tn{W:List aA}(h:fE W):∀x∈W,HZ x.ah:=fun x hx=>(h.sI x hx).ah
theorem fE.nil:fE []:=⟨.nil,by simp,by simp⟩
theorem SY{W:List aA}{t:Int}{o:Option aA}(hW:∀x∈W,HZ x.ah)(ht:HZ t)(ho:∀x,o=some x->x.ah=t):kH (pD t) (o.map gh) (uN W)=uN (pI t o W):=by
 have e1:kvLo (pD t) (uN W)=uN (loS t W):=by
  unfold kvLo loS uN;rw[List.filter_map];congr 1;refine List.filter_congr fun x hx=>?_
  show decide (bW (pD x.ah) (pD t))=_;exact decide_eq_decide.2 (NX (hW x hx) ht)
 have e2:kvHi (pD t) (uN W)=uN (hiS t W):=by
  unfold kvHi hiS uN;rw[List.filter_map];congr 1;refine List.filter_congr fun x hx=>?_
  show decide (bW (pD t) (pD x.ah))=_;exact decide_eq_decide.2 (NX ht (hW x hx))
 unfold kH pI;rw[e1,e2]
 cases o with
 | none=>simp
 | some x=>have:=ho x rfl;subst this;simp
theorem Gb{W:List aA}{t:Int}(hW:∀x∈W,HZ x.ah)(ht:HZ t):ca (uN W) (pD t)=(fD W t).map gh:=by
 unfold ca fD uN;rw[List.find?_map]
 have:W.find? ((fun x:KV=>decide (x.1=pD t)) ∘ kvS)=W.find? fun x=>decide (x.ah=t):=by
  have:∀W:List aA,(∀x∈W,HZ x.ah)->W.find? ((fun x:KV=>decide (x.1=pD t)) ∘ kvS)=W.find? fun x=>decide (x.ah=t):=by
   intro W
   induction W with
   | nil=>intro _;rfl
   | cons x W ih=>
    intro h;have e:decide ((kvS x).1=pD t)=decide (x.ah=t):=decide_eq_decide.2 ⟨fun e=>SX (h x List.mem_cons_self) ht e,fun e=>by rw[<- e]⟩;rw[List.find?_cons,List.find?_cons];simp only[Function.comp_apply,e];rw[ih fun y hy=>h y (List.mem_cons_of_mem _ hy)]
  exact this W hW
 rw[this];cases List.find? _ W <;> rfl
theorem MH{W:List aA}{t:Int}{x:aA}(h:fD W t=some x):x∈W/\x.ah=t:=by
 unfold fD at h;exact⟨List.mem_of_find?_eq_some h,by simpa using List.find?_some h⟩
theorem NY{W:List aA}{t:Int}{o:Option aA}{x:aA}(h:x∈pI t o W):o=some x∨x∈W:=by
 unfold pI at h;rcases List.mem_append.1 h with h | h
 .exact .inr (List.mem_filter.1 h).1
 .rcases List.mem_append.1 h with h | h
  .exact .inl (by cases o <;> simp at h;rw[h])
  .exact .inr (List.mem_filter.1 h).1
theorem fE.op{W:List aA}{t:Int}{o:Option aA}(h:fE W)(ho:∀x,o=some x->x.ah=t/\qd x/\AY x):fE (pI t o W):=by
 refine⟨?_,fun x hx=>?_,fun x hx=>?_⟩
 .unfold pI;refine List.pairwise_append.2 ⟨h.sort.sublist List.filter_sublist,List.pairwise_append.2 ⟨by cases o <;> simp,h.sort.sublist List.filter_sublist,fun x hx y hy=>?_⟩,fun x hx y hy=>?_⟩
  .have h2:=of_decide_eq_true (List.mem_filter.1 hy).2
   cases o with
   | none=>simp at hx
   | some z=>simp at hx;subst hx;have:=(ho x rfl).1;omega
  .have h1:=of_decide_eq_true (List.mem_filter.1 hx).2;rcases List.mem_append.1 hy with h | h
   .cases o with
    | none=>simp at h
    | some z=>simp at h;subst h;have:=(ho y rfl).1;omega
   .have h2:=of_decide_eq_true (List.mem_filter.1 h).2;omega
 .rcases NY hx with h1 | h1
  .exact(ho x h1).2.1
  .exact h.may x h1
 .rcases NY hx with h1 | h1
  .exact(ho x h1).2.2
  .exact h.sI x h1
theorem H_{W:List aA}{t:Int}{o:Option aA}:(pI t o W).length<=W.length+1:=by
 unfold pI loS hiS
 have h1:(W.filter fun x=>decide (x.ah < t)).length+(W.filter fun x=>decide (t < x.ah)).length<=W.length:=by
  induction W with
  | nil=>simp
  | cons x W ih=>
   simp only[List.filter_cons];by_cases h1:x.ah < t
   .have h2:¬ t < x.ah:=by omega
    simp[h1,h2];omega
   .by_cases h2:t < x.ah
    .simp[h1,h2];omega
    .simp[h1,h2];omega
 have h2:o.toList.length<=1:=by cases o <;> simp
 simp only[List.length_append];omega
theorem iU{a b:Nat}{r s:List Int}(ha:a < 18446744073709551616)(hb:b < 18446744073709551616)(h:numB a++r=numB b++s):a=b/\r=s:=by
 have h1:=xu ha r;rw[h,xu hb s]at h1
 have e:a=b:=by
  have:=congrArg Prod.fst h1;simp only at this;omega
 subst e;exact⟨rfl,List.append_cancel_left h⟩
theorem Gc{a b r s:List Int}(ha:a.length < 18446744073709551616)(hb:b.length < 18446744073709551616)(h:textB a++r=textB b++s):a=b/\r=s:=by
 unfold textB at h;rw[List.append_assoc,List.append_assoc]at h;obtain⟨h1,h2⟩:=iU ha hb h;exact List.append_inj h2 h1
theorem PM{a b:cW}{r s:List Int}(ha:qQ a)(hb:qQ b)(la:a.wr.length=32)(lb:b.wr.length=32)(h:eC a++r=eC b++s):a=b/\r=s:=by
 unfold eC at h;simp only[List.append_assoc]at h;have a1:=ha.gen;have a2:=ha.cm;have b1:=hb.gen;have b2:=hb.cm;obtain⟨h1,h⟩:=iU (by omega) (by omega) h;obtain⟨h2,h⟩:=iU (by omega) (by omega) h;obtain⟨h3,h⟩:=Gc (by omega) (by omega) h;exact⟨cW.ext (by omega) (by omega) h3,h⟩
theorem DG:∀{a b:List cW},a.length=b.length->(∀x∈a,qQ x/\x.wr.length=32)->(∀x∈b,qQ x/\x.wr.length=32)->a.flatMap eC=b.flatMap eC->a=b
 | [],[],_,_,_,_=>rfl
 | [],_::_,h,_,_,_=>by simp at h
 | _::_,[],h,_,_,_=>by simp at h
 | x::a,y::b,hl,ha,hb,h=>by
  rw[List.flatMap_cons,List.flatMap_cons]at h;obtain⟨h1,h2⟩:=PM (ha x List.mem_cons_self).1 (hb y List.mem_cons_self).1 (ha x List.mem_cons_self).2 (hb y List.mem_cons_self).2 h;rw[h1,DG (by simpa using hl) (fun z hz=>ha z (List.mem_cons_of_mem _ hz)) (fun z hz=>hb z (List.mem_cons_of_mem _ hz)) h2]
theorem Good.uniq{t:Int}{l:List Int}{x y:aA}(hx:Good t l x)(hy:Good t l y):x=y:=by
 have ex:=hx.le;have ey:=hy.le;have rx:=hx.sI;have ry:=hy.sI;have h:gh x=gh y:=hx.form.trans hy.form.symm;unfold gh at h;obtain⟨x1,x2,x3⟩:=rx.root;obtain⟨y1,y2,y3⟩:=ry.root;have lx:=rx.lev;have ly:=ry.lev;obtain⟨h1,h⟩:=iU (by omega) (by omega) h;obtain⟨h2,h⟩:=iU (by omega) (by omega) h;obtain⟨h3,h⟩:=Gc (by omega) (by omega) h;obtain⟨h4,h⟩:=iU (by omega) (by omega) h;obtain⟨h5,h⟩:=iU (by omega) (by omega) h;obtain⟨h6,h⟩:=iU (by omega) (by omega) h;obtain⟨h7,h⟩:=iU (by omega) (by omega) h;obtain⟨h8,h⟩:=iU (by omega) (by omega) h;refine aA.ext (hx.ah.trans hy.ah.symm) (by omega) h3 ?_ (by omega) (by omega) (DG h8 (fun z hz=>⟨rx.held z hz,ex.2.2.2.2.2.2.2 z hz⟩) (fun z hz=>⟨ry.held z hz,ey.2.2.2.2.2.2.2 z hz⟩) h);have u1:x.root.p=y.root.p:=by omega
 have u2:x.root.c=y.root.c:=by omega
 have u3:x.root.g=y.root.g:=by omega
 cases hxr:x.root;cases hyr:y.root
 rw[hxr,hyr]at u1 u2 u3;simp only at u1 u2 u3;rw[u1,u2,u3]
theorem ui{x:aA}(may:qd x)(rg:AY x):(gh x).length<=208/\1<=(gh x).length:=by
 have g:Good x.ah (gh x) x:=⟨may,rg,rfl,rfl⟩
 have e:=g.le;obtain⟨x1,x2,x3⟩:=rg.root;have lx:=rg.lev;have s:∀{n:Nat},n < 128->(numB n).length=1:=fun h=>by rw[qP h];rfl
 have b2:∀{n:Nat},n < 16384->(numB n).length<=2:=fun h=>tA 2 _ (by omega) (by decide)
 have b3:∀{n:Nat},n < 2097152->(numB n).length<=3:=fun h=>tA 3 _ (by omega) (by decide)
 have b5:∀{n:Nat},n < 34359738368->(numB n).length<=5:=fun h=>tA 5 _ (by omega) (by decide)
 have q1:=b2 (n:=x.aI.toNat) (by omega);have q2:=b2 (n:=x.aw.toNat) (by omega);have q3:(textB x.mark).length=17:=by unfold textB;rw[List.length_append,s (by omega)];omega
 have q4:=b5 (n:=x.root.p.toNat) (by omega);have q5:=bO (n:=x.root.c.toNat) (by omega);have q6:=b3 (n:=x.root.g.toNat) (by omega);have q7:=b2 (n:=x.lev.toNat) (by omega);have q8:=s (n:=x.held.length) (by omega)
 have hl:∀h∈x.held,(eC h).length<=46:=fun h hm=>by
  have r:=rg.held h hm;have hg:=r.gen;have hc:=r.cm;have hw:=e.2.2.2.2.2.2.2 h hm;have:=b3 (n:=h.gen.toNat) (by omega);have:=bO (n:=h.cm.toNat) (by omega);have:(textB h.wr).length=33:=by unfold textB;rw[List.length_append,s (by omega)];omega
  unfold eC;simp only[List.length_append];omega
 have hf:(x.held.flatMap eC).length<=92:=by
  rcases may.2.2.2.2.2.2.2 with⟨a,h,_⟩ | ⟨a,c,h,_⟩
  .rw[h]at hl ⊢;have:=hl a (by simp);simp only[List.flatMap_cons,List.flatMap_nil,List.append_nil];omega
  .rw[h]at hl ⊢;have:=hl a (by simp);have:=hl c (by simp);simp only[List.flatMap_cons,List.flatMap_nil,List.append_nil,List.length_append];omega
 unfold gh;simp only[List.length_append];omega
def SZ:Value->Int
 | .int _ n=>n
 | _=>0
end Go.V
namespace Go.Proofs.YtpjbalhhlaofmaaGreat
open Go.V
section
variable {w:Wd}
theorem S2:∃kt et,Tryz.prog.underlying 95=some (.map kt et):=⟨22,124,by kernel_rfl⟩
theorem KN{bc r:Nat}{m:List (Int×Value)}{Inv:Nat->List Int->Pw}{yield:Value}{K:Pw}
  (g:w.heap[bc]? = some (.cells [.map (some r)].toArray 95 (0,0))) (hm:tF w.heap (fun a:Int=>Value.int .u32 a) r m) (h0:∀w',Ext No w w'->w'.heap.size=w.heap.size+1->Inv w.heap.size [] w')
  (hit:∀it ks w' kC,Inv it ks w'->Ext (·=it) w' kC->Inv it ks kC)
  (step:∀it ks k w' Kr,ks.length < m.length->it < w'.heap.size->Inv it ks w'->(∀kC,Inv it (ks++[k]) kC->kC.heap[it]? = w'.heap[it]?->kC.heap[r]? = w'.heap[r]?->Kr true kC)->aC pz true yield [.int .u32 k] [.one .bool] Kr cf w')
  (k:∀it ks w',ks.Perm (m.map Prod.fst)->Inv it ks w'->K w'):bj yield ⟨bc,0,none⟩ w K:=by
 apply dV;obtain⟨kt,et,ht⟩:=S2;obtain⟨es,clock,hr,he,hB⟩:=hm;obtain⟨w1,vJ,eT⟩:=yU (P:=pz) ht hr;have so:es.toList.length=m.length:=by have:=congrArg List.length he;simpa using this
 have Ye:r < w.heap.size:=blt hr;have T5:=eT.size;refine⟨some r,Cell.ai g rfl,some ⟨w.heap.size,0,none⟩,w1,vJ,?_⟩;refine⟨fun q w'=>∃seen:List MapEntry,q=es.toList.length - seen.length/\(∀e∈seen,e∈es.toList)/\(seen.map (·.born)).Nodup/\w'.heap[w.heap.size]? = some (.mapIter (some r) clock (seen.map (·.born)).toArray clock)/\w'.heap[r]? = some (.map es clock)/\Inv w.heap.size (seen.map fun e=>SZ e.key) w',⟨_,[],rfl,by simp,by simp,eT.get,ad hr eT.ext,h0 w1 eT.ext eT.size⟩,?_⟩;rintro _ m0 w2 ⟨seen,hq,jr,sy,hi,Zz,hI⟩
 have abq:seen.length<=es.toList.length:=by
  have h1:seen.Nodup:=eX _ sy;exact List.Nodup.length_le_of_subset h1 jr
 rcases CD (P:=pz) hi Zz hB with⟨ff,w',tW,hx⟩ | ⟨e,K7,Kt,w',tW,iv,hx⟩
 .refine .inl ⟨w',tW,k w.heap.size _ w' ?_ (hit _ _ _ _ hI (hx.aG))⟩
  have hp:seen.Perm es.toList:=(List.perm_ext_iff_of_nodup (eX _ sy) (eX _ hB.1)).2 fun x=>⟨jr x,fun Fb=>by
   have:=ff x Fb;simp only[List.mem_map]at this;obtain⟨y,hy,hb⟩:=this
   exact born_inj hB.1 (jr y hy) Fb hb ▸ hy⟩
  have h2:es.toList.map (fun e=>SZ e.key)=m.map Prod.fst:=by
   have:=congrArg (List.map fun p:Value×Value=>SZ p.1) he;simpa[List.map_map,Function.comp_def,SZ] using this
  rw[<- h2];exact hp.map _
 .have Ss:w'.heap[r]? = some (.map es clock):=af Zz hx (by omega)
  have gN:∃s,e.key = .int .u32 s:=by
   have:(e.key,e.val)∈es.toList.map (fun e=>(e.key,e.val)):=List.mem_map.2 ⟨e,K7,rfl⟩;rw[he]at this;obtain⟨p,_,hp⟩:=List.mem_map.1 this;exact⟨p.1,(congrArg Prod.fst hp).symm⟩
  obtain⟨ks,Su⟩:=gN
  have jw:seen.length < es.toList.length:=by
   have h1:(e::seen).Nodup:=List.nodup_cons.2 ⟨fun h=>Kt (by simpa using List.mem_map.2 ⟨e,h,rfl⟩),eX _ sy⟩
   have:=List.Nodup.length_le_of_subset h1 (l₂:=es.toList) fun x hx=>by
    rcases List.mem_cons.1 hx with h | h
    .rw[h];exact K7
    .exact jr x h
   simp only[List.length_cons]at this;omega
  refine .inr ⟨e.key,e.val,w',tW,e.key,e.val,w',yV iv Ss hB K7,?_⟩;rw[Su];refine step _ _ ks w' _ (by rw[List.length_map];omega) (blt iv) (hit _ _ _ _ hI hx) fun kC VG h1 h2=>If.not (If.yes ?_)
  refine⟨_,?_,seen++[e],rfl,fun x hx=>?_,?_,?_,by rw[h2];exact Ss,by simpa[Su,SZ] using VG⟩
  .simp only[List.length_append,List.length_cons,List.length_nil];omega
  .rcases List.mem_append.1 hx with h | h
   .exact jr x h
   .rw[List.mem_singleton]at h;rw[h];exact K7
  .rw[List.map_append];refine List.nodup_append.2 ⟨sy,by simp,fun a ha b hb=>?_⟩;simp only[List.map_cons,List.map_nil,List.mem_singleton]at hb;intro AU;exact Kt (by rw[AU,hb]at ha;simpa using ha)
  .rw[h1,iv];simp
theorem zt{bc r:Nat}{m:List (Int×Value)}{K:Sl->Pw}(g:w.heap[bc]? = some (.cells [.map (some r)].toArray 95 (0,0)))(hm:tF w.heap (fun a:Int=>Value.int .u32 a) r m)(hl:m.length<=65535)
  (k:∀s ks w',ks.Perm (m.map Prod.fst)->aT w'.heap w.heap.size 22 1 s (si ks)->Ext No w w'->K s w'):de ⟨none,0,0⟩ (.func (.func 173) #[] #[.pointer (some ⟨bc,0,none⟩)]) w K:=by
 apply kn;refine ag.mk fun b w1 n1=>?_
 have hb:=n1.at_;have z1:=n1.size;intro rf dk lp w2 eT Dr;obtain⟨gS,z2,hrf,hdf⟩:=eT.facts;have hlp:lp=w1.heap.size+1:=eT.l;have VZ:dk=w1.heap.size:=eT.d;have hZ:Ext No w w2:=n1.ext.no gS;have g2:=ad g hZ;have Yb:=ad n1.get gS;have hm2:=hm.ext hZ fun h=>h
 have Ye:r < w.heap.size:=by obtain⟨es,c,h,_⟩:=hm;exact blt h
 refine dW (KN (Inv:=fun it ks w'=>dE lp rf .ready none w'/\fO dk w'/\Ext No w w'/\∃s:Sl,w'.heap[b]? = some (.cells [.slice s.a s.len s.cap].toArray 210 (0,0))/\aT w'.heap (it+1) 22 1 s (si ks)/\it=w2.heap.size) g2 hm2 (fun w' x' z'=>⟨hrf.ext x' fun h=>h,hdf.ext x' fun h=>h,hZ.no x',⟨none,0,0⟩,ad Yb x',aT.nil _ _ _ _,rfl⟩) ?_ ?_ ?_)
 .rintro it ks w' kC ⟨h1,h2,h3,s,h4,h5,rfl⟩ x;exact⟨h1.ext x (by omega),h2.ext x (by omega),h3.trans x fun q hq h=>by have:=hZ.size;omega,s,af h4 x (by omega),h5.ext x fun q hq h=>by have:=h5.lt hq;omega,rfl⟩
 .rintro it ks y w' Kr Su cL ⟨h1,h2,h3,s,h4,h5,rfl⟩ hk;have hle:=h3.size;have slt:∀q,s.aq=some q->w2.heap.size+1<=q/\q < w'.heap.size:=fun q hq=>h5.lt hq
  have xb:Ext (·=lp) w' (aP lp rf .busy none w'):=eH;have zb:(aP lp rf .busy none w').heap.size=w'.heap.size:=lH;refine Dr y w' Kr h1 ⟨h1,s,Cell.ai (af h4 xb (by omega)) rfl,ag.mk fun b1 w4 n4=>?_⟩;have gE:=n4.at_;have z4:=n4.size;have x4:Ext (·=lp) w' w4:=xb.no n4.ext;have o4:=h5.ext x4 fun q hq h=>by have:=slt q hq;omega
  have g4:=af h4 x4 (by omega);have JF:=o4.len;simp only[List.length_map,Nat.mul_one]at JF;have oy:aT w4.heap (aP lp rf .busy none w').heap.size 22 1 ⟨some ⟨b1,0,none⟩,1,1⟩ [.int .u32 y]:=aT.new n4 rfl (by simp[aN]);refine LN o4 (by omega) oy.rd.src (by show(s.len+1) * 4<=_;omega) fun s1 w5 o5 l5 x5 oR=>?_
  have z5:=x5.size;have Ku:Ext (fun q=>s.aq=some q) w4 w5:=x5;have g5:=af g4 Ku fun h=>by have:=slt b h;omega
  refine aF.mk g5 (by simp) rfl fun w6 h6=>?_
  have xN:Ext (·=b) w5 w6:=h6.ext;have z6:=xN.size;have Eu:Ext (fun q=>q=lp∨s.aq=some q∨q=b) w' w6:=((x4.mono fun _ _ h=> .inl h).trans Ku fun _ _ h=> .inr (.inl h)).trans xN fun _ _ h=> .inr (.inr h)
  have Sv:dE lp rf .busy none w6:=by
   have ha:dE lp rf .busy none (aP lp rf .busy none w'):=h1.put;exact(((ha.ext n4.ext fun h=>h).ext Ku fun h=>by have:=slt lp h;omega).ext xN (by omega))
  have Yf:Ext (·=lp) w6 (aP lp rf .ready none w6):=eH;have Dq:Ext (fun q=>q=lp∨s.aq=some q∨q=b) w' (aP lp rf .ready none w6):=Eu.trans Yf fun _ _ h=> .inl h
  have Wk:∀q,s1.aq=some q->w2.heap.size+1<=q:=fun q hq=>(o5.lt hq).1
  refine⟨Sv,hk _ ⟨Sv.put,h2.ext Dq fun h=>?_,h3.trans Dq fun q hq h=>?_,s1,af (h6.get g5) Yf (by omega),?_,rfl⟩ (Dq.aq _ cL fun h=>?_) (Dq.aq _ (by omega) fun h=>?_)⟩
  .rcases h with h | h | h
   .omega
   .have:=slt dk h;omega
   .omega
  .rcases h with h | h | h
   .omega
   .have:=slt q h;omega
   .omega
  .have o6:=((o5.ext xN fun q hq h=>by have:=Wk q hq;omega).ext Yf fun q hq h=>by have:=Wk q hq;omega)
   rw[show si (ks++[y])=si ks++[Value.int .u32 y] by simp];exact o6
  .rcases h with h | h | h
   .omega
   .have:=slt _ h;omega
   .omega
  .rcases h with h | h | h
   .omega
   .have:=slt _ h;omega
   .omega
 .rintro it ks w' hp ⟨h1,h2,h3,s,h4,h5,rfl⟩;have xp:Ext (·=lp) w' (aP lp rf .exhausted none w'):=eH;have xd:Ext (·=dk) (aP lp rf .exhausted none w') (bJ dk (aP lp rf .exhausted none w')):=oX;refine⟨h1,s,Cell.ai (af h4 xp (by omega)) rfl,h2.ext xp (by omega),k s ks _ hp ?_ ?_⟩
  .exact(((h5.mono (by omega)).ext xp fun q hq h=>by have:=h5.lt hq;omega).ext xd fun q hq h=>by have:=h5.lt hq;omega)
  .exact(h3.trans xp fun q hq h=>by omega).trans xd fun q hq h=>by omega
end
end Go.Proofs.YtpjbalhhlaofmaaGreat
namespace Go.V
def Gd(r:Rf):List Value:=[.int .u32 r.p,.int .u64 r.c,.int .u16 r.g]
theorem Ge(l:List Rf):∀x∈l,(Gd x).length=3:=fun _ _=>rfl
def KO(M:Mm)(b:Bool):List Rf:=(M.au.filter fun p=>p.2.waits == b).map fun p=>p.2.r
theorem MI(M:Mm):KO M false=live M.au:=by
 unfold KO live;congr 2;funext p;cases p.2.waits <;> rfl
def KP(l:List (Int×Pg))(b:Bool)(n:Int):Option Rf:=(hY n l).bind fun p=>if p.waits == b then some p.r else none
theorem S3{M:Mm}(hn:(M.au.map Prod.fst).Nodup)(b:Bool):(M.au.map Prod.fst).filterMap (KP M.au b)=KO M b:=by
 have h:∀p∈M.au,KP M.au b p.1=if p.2.waits == b then some p.2.r else none:=fun p hp=>by
  unfold KP;rw[gM hn hp];rfl
 unfold KO
 revert h
 generalize KP M.au b=g;generalize M.au=l;intro h
 induction l with
 | nil=>rfl
 | cons p l ih=>
  have h1:=h p (by simp);have h2:=ih fun q hq=>h q (List.mem_cons_of_mem _ hq)
  rw[List.map_cons,List.filter_cons]
  cases hw:(p.2.waits == b) with
  | true=>rw[hw,if_pos rfl]at h1;rw[List.filterMap_cons,h1,if_pos rfl,List.map_cons,h2]
  | false=>rw[hw]at h1;rw[List.filterMap_cons,h1];simpa using h2
end Go.V
namespace Go.Proofs.YtpjbalhhlaofmaaGreat
open Go.V
section
variable {w:Wd} {T:Nat->Option Nat} {m:bB} {M:Mm}
set_option maxHeartbeats 2000000 in
theorem PN{waits:Bool}{K:Sl->Pw}(R:aY w.heap T m M)(hn:M.au.length<=65535)
  (k:∀s (rs:List Rf) w',rs.Perm (KO M waits)->aT w'.heap w.heap.size 28 3 s (rs.flatMap Gd)->Ext No w w'->K s w'):mz (some ⟨m.bm,0,none⟩) waits w K:=by
 apply AQ;refine If.no ⟨_,rfl,some m.r,Cell.ai R.mem rfl,?_⟩;apply ew;refine ag.mk fun bk w1 n1=>?_
 apply qN;apply qa;refine zt n1.get (R.map.ext n1.ext fun h=>h) (by rw[List.length_map];omega) fun s ks w2 Su o2 x2=>?_
 have SS:ks.Perm (M.au.map Prod.fst):=by simpa[bB.oB,List.map_map,Function.comp_def] using Su
 have hZ:Ext No w w2:=n1.ext.no x2;have s1:=n1.size;have s2:=x2.size;have BA:ks.length=M.au.length:=by have:=SS.length_eq;rwa [List.length_map]at this
 refine CZ o2 (by omega) fun L w3 hL o3 x3=>?_
 have Mv:Ext (fun q=>s.aq=some q) w2 w3:=x3;have slt:∀q,s.aq=some q->w1.heap.size<=q/\q < w2.heap.size:=fun q hq=>o2.lt hq
 have gp:Ext No w w3:=hZ.trans Mv fun q hq h=>by have:=slt q h;omega
 have U7:L.Perm (M.au.map Prod.fst):=hL.trans SS;have JO:L.length=M.au.length:=by have:=U7.length_eq;rwa [List.length_map]at this
 have JF:s.len=L.length:=by have:=o3.len;simp only[List.length_map,Nat.mul_one]at this;omega
 have s03:=gp.size;refine⟨fun q out tt w'=>∃(j:Nat) (rs:List Rf),tt=j/\j<=L.length/\q=L.length - j/\rs=(L.take j).filterMap (KP M.au waits)/\rs.length<=j/\aT w'.heap w.heap.size 28 3 out (rs.flatMap Gd)/\(∀q,out.aq=some q->w3.heap.size<=q)/\Ext No w3 w',⟨L.length,0,[],rfl,by omega,by omega,by simp,by simp,aT.nil _ _ _ _,by simp[Sl.aq],Ext.refl _ _⟩,?_⟩;rintro _ m0 out tt w4 ⟨j,rs,rfl,hj,hq,Wc,EA,oo,ob,Bn⟩;have gF:=gp.no Bn;have R4:=R.no gF;have o4:=o3.no Bn;have s34:=Bn.size;refine If.dec (fun h=>?_) fun h=>?_
 .have Kz:j < L.length:=by omega
  refine Ix.u32 o4 (by omega) (by simpa using Kz) fun bb _ hc=>?_
  simp only[Int.toNat_natCast]at hc;have MV:L[j]∈M.au.map Prod.fst:=U7.mem_iff.1 (List.getElem_mem Kz);obtain⟨p,hp,ZT⟩:=List.mem_map.1 MV;have Z_:hY L[j] M.au=some p.2:=by rw[<- ZT];exact gM R.nd hp
  have F_:=xC R4 L[j];rw[Z_]at F_;have hP:=R4.find Z_;have hg:KP M.au waits L[j]=if p.2.waits == waits then some p.2.r else none:=by unfold KP;rw[Z_];rfl
  have Uc:(L.take (j+1)).filterMap (KP M.au waits)=rs++(if p.2.waits == waits then[p.2.r] else[]):=by
   rw[List.take_add_one,List.getElem?_eq_getElem Kz,Option.toList_some,List.filterMap_append,<- Wc,List.filterMap_cons,hg]
   cases p.2.waits == waits <;> rfl
  refine⟨_,hc,_,rfl,some m.r,Cell.ai R4.mem rfl,_,w4,F_,_,rfl,_,Cell.ai hP.aq rfl,If.cases (fun hw=>?_) fun hw=>?_⟩
  .rw[hw]at Uc;refine⟨_,rfl,some m.r,Cell.ai R4.mem rfl,_,w4,F_,_,rfl,_,Cell.ai hP.aq rfl,_,Cell.ai hP.aq rfl,_,Cell.ai hP.aq rfl,ag.mk fun b w6 n6=>?_⟩;have oo6:=oo.no n6.ext;have hol:out.len=rs.length:=by have:=oo6.len;rw[aK (Ge rs)]at this;omega
   have oy:aT w6.heap w4.heap.size 28 3 ⟨some ⟨b,0,none⟩,1,1⟩ (Gd p.2.r):=aT.new n6 rfl (by simp[Gd,aN]);have z6:=n6.size;refine zP oo6 (by omega) oy.rd.src (by show(out.len+1) * 24<=_;omega) fun s7 w7 o7 l7 x7 oR=>Ar.i64 (by omega) ?_
   have x7':Ext (fun q=>out.aq=some q) w6 w7:=x7;refine⟨L.length - (j+1),by omega,j+1,rs++[p.2.r],by omega,by omega,rfl,by rw[Uc];rfl,by simp;omega,by rw[List.flatMap_append];simpa using o7,fun q hq=>?_,(Bn.no n6.ext).trans x7' fun q hq h=>by have:=ob q h;omega⟩;rcases oR with h3 | ⟨c',h3,h4⟩
   .rw[h3]at hq;exact ob q hq
   .rw[h3]at hq;cases hq;omega
  .rw[hw]at Uc;exact Ar.i64 (by omega) ⟨L.length - (j+1),by omega,j+1,rs,by omega,by omega,rfl,by rw[Uc];simp,by omega,oo,ob,Bn⟩
 .have Kz:j=L.length:=by omega
  refine k out rs w4 ?_ oo gF;rw[Wc,Kz,List.take_length,<- S3 R.nd waits];exact U7.filterMap _
theorem MJ{K:Sl->Pw}(R:aY w.heap T m M)(hn:M.au.length<=65535)
  (k:∀s (rs:List Rf) w',rs.Perm (live M.au)->aT w'.heap w.heap.size 28 3 s (rs.flatMap Gd)->Ext No w w'->K s w'):ld (some ⟨m.bm,0,none⟩) w K:=
 yP (PN R hn fun s rs w' h1 h2 h3=>k s rs w' (MI M ▸ h1) h2 h3)
end
end Go.Proofs.YtpjbalhhlaofmaaGreat
