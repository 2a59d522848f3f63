/- Texts for LVaultNew, part 16. -/
import Derived.RangeFuncRecord
import Derived.RangeFuncLeaves
import Derived.Test.YtiigcapldngijaaGreatQn15
namespace Go.V
def jS(l:Nat)(rf:Loop)(st:LoopState)(p:Option Code)(w:Wd):Prop:=w.heap[l]? = some (.loop { rf with state:=st,pending:=p })
def bN(l:Nat)(rf:Loop)(st:LoopState)(p:Option Code)(w:Wd):Wd:=w.putObj l (.loop { rf with state:=st,pending:=p })
structure ME(w:Wd)(rf:Loop)(Dk l:Nat)(w1:Wd):Prop where
 d:Dk=w.heap.size
 l:l=w.heap.size+1
 is:w1=(World.cL (World.cL w (.deferred (some []))) (.loop { rf with state:= .ready,pending:=none }))
def lE(Dk:Nat)(w:Wd):Prop:=w.heap[Dk]? = some (.deferred (some []))
def cP(Dk:Nat)(w:Wd):Wd:=w.putObj Dk (.deferred none)
def H2:Option Nat->Code
 | none=> .ret
 | some i=> .exit i
def adH:Option Nat->Exit
 | none=> .ret
 | some i=> .exit i
def eqJ:Option Nat->Option Nat->Bool
 | none,none=>true
 | some i,some j=>Nat.beq i j
 | _,_=>false
def abg:List (Option Nat)->Option Nat->Bool
 | [],_=>false
 | j::r,i=>bif eqJ j i then true else abg r i
def Qa(l:Nat)(rf:Loop)(js:List (Option Nat))(K':Bool->Pw)(j:Option Nat)(w:Wd):Prop:=
 bif abg js j then jS l rf .busy none w/\K' false (bN l rf .done (some (H2 j)) w) else False
def abh(l:Nat)(rf:Loop)(js:List (Option Nat))(K':Bool->Pw):Exit->Env->Pw
 | .normal,_,w=>jS l rf .busy none w/\K' true (bN l rf .ready none w)
 | .ret,_,w=>Qa l rf js K' none w
 | .exit i,_,w=>Qa l rf js K' (some i) w
 | _,_,_=>False
def noE:Exit->Env->Pw:=fun _ _ _=>False
def UJ(l:Nat)(rf:Loop)(Q:Exit->Env->Pw)(ρ:Env)(w3:Wd):List (Option Nat)->Prop
 | []=>jS l rf .ready none w3/\Q .normal ρ (bN l rf .exhausted none w3)
 | j::r=>(jS l rf .done (some (H2 j)) w3/\Q (adH j) ρ (bN l rf .exhausted (some (H2 j)) w3))∨UJ l rf Q ρ w3 r
def Xx:List Bb->(List Value->Prop)->Prop
 | [],F=>F []
 | .one s::r,F=>∀x:s.T,Xx r fun vs=>F (s.mk x::vs)
 | .row k n::r,F=>∀l:List Int,l.length=n->Xx r fun vs=>F (l.map (Value.int k)++vs)
def Zp:Ty->(Value->Prop)->Prop
 | .one s,F=>∀x:s.T,F (s.mk x)
 | .agg l,F=>Xx l fun vs=>F (.agg vs.toArray)
 | .bad,F=>∀v,F v
theorem JV:∀(l:List Bb){F:List Value->Prop},(∀vs,F vs)->Xx l F
 | [],_,h=>h []
 | .one _::r,_,h=>fun _=>JV r fun _=>h _
 | .row _ _::r,_,h=>fun _ _=>JV r fun _=>h _
theorem UK:∀(y:Ty){F:Value->Prop},(∀v,F v)->Zp y F
 | .one _,_,h=>fun _=>h _
 | .agg l,_,h=>JV l fun _=>h _
 | .bad,_,h=>h
def abi:List (Nat×Ty)->Env->(List Value->Env->Prop)->Prop
 | [],ρ,F=>F [] ρ
 | (t,y)::r,ρ,F=>Zp y fun v=>abi r (put ρ t v) (fun vs ρ'=>F (v::vs) ρ')
structure RfA where
 Zq:List (Nat×Ty)
 js:List (Option Nat)
 Xy:tZ
 Xz:tZ
def rfW(P:Program)(pk:Nat)(A:RfA)(g:Operand)(ars bd:Code)(Q:Nat->Exit->Env->Pw)(ρ:Env)(w:Wd):Prop:=
 ∀(rf:Loop)(Dk l:Nat)(w1:Wd),ME w rf Dk l w1->
  (abi A.Zq ρ fun args ρ'=>∀(W:Wd)(K':Bool->Pw),jS l rf .ready none W->uH P pk (fun _ _=>False) A.Xy ars (uG (fun ρ2 W2=>jS l rf .ready none W2/\uH P pk (fun _ _=>False) A.Xz bd (abh l rf A.js K') ρ2 (bN l rf .busy none W2)) noE) ρ' W->
   aC P true (.func (.yield l) #[] #[]) args [.one .bool] K' (fun _ _=>False) W)->
  aC P false (ev ρ g) [.func (.yield l) #[] #[]] [] (fun w3=>UJ l rf (Q Dk) ρ w3 A.js) (fun _ _=>False) w1
inductive Sp where
 | next (a:tZ) (s:Sp)
 | here (r:tZ) (A:RfA) (p:tZ)
def UL(P:Program)(pk:Nat):Sp->Code->(Exit->Env->Pw)->(Nat->Exit->Env->Pw)->Env->Pw
 | .next a s,.seq c1 c2,Q,QM,ρ,w=>uH P pk (fun _ _=>False) a c1 (uG (fun ρ w=>UL P pk s c2 Q QM ρ w) Q) ρ w
 | .here r A p,.seq (.seq rc (.block id (.rangeFunc g _ ars bd))) rest,Q,QM,ρ,w=>
  uH P pk (fun _ _=>False) r rc (uG (fun ρ w=>rfW P pk A g ars bd (fun Dk=>EF id (uG (fun ρ w=>uH P pk (fun _ _=>False) p rest (QM Dk) ρ w) (QM Dk))) ρ w) Q) ρ w
 | _,_,_,_,_,_=>False
def RF:List Nat->List (Nat×Ty)->Bool
 | [],[]=>true
 | t::r,p::q=>Nat.beq t p.1 && RF r q
 | _,_=>false
def abj(P:Program)(n:Nat)(A:RfA)(ps:Array Tmp)(ars bd:Code):Bool:=RF ps.toList A.Zq && wF P n A.Xy ars && wF P n A.Xz bd && bR A.Xy ars && cq ars && bR A.Xz bd && cq bd && ps.toList.all fun t=>Nat.blt t n
def OW(P:Program)(n:Nat):Sp->Code->Bool
 | .next a s,.seq c1 c2=>wF P n a c1 && OW P n s c2
 | .here r A p,.seq (.seq rc (.block _ (.rangeFunc _ ps ars bd))) rest=>wF P n r rc && abj P n A ps ars bd && wF P n p rest
 | _,_=>false
section sound
variable {P:Program} {n pk:Nat}
abbrev rN(Dk:Nat):Deferred:={ target:= .collected Dk,args:=#[] }
def SpE(n:Nat)(Q:Exit->Env->Pw)(QM:Nat->Exit->Env->Pw):Exit->Act->Pw
 | .panic _,_,_=>False
 | .outgrown,_,_=>False
 | e,a,w=>(∃ρ,jo [] n a ρ/\Q e ρ w)∨∃Dk ρ,jo [rN Dk] n a ρ/\QM Dk e ρ w
theorem jW.out{D:List Deferred}{Q:Exit->Env->Pw}{M:Nat->Bool}{ρ0:Env}{e:Exit}{a:Act}{w:Wd}(h:jW D n Q (fun _ _=>False) M ρ0 e a w):(∃ρ,jo D n a ρ/\Q e ρ w)/\(∀c,e ≠ .panic c)/\e ≠ .outgrown:=by
 cases e with
 | panic c=>exact h.1.elim
 | outgrown=>exact h.elim
 | _=>obtain⟨ρ',h1,h2,_⟩:=h;exact⟨⟨ρ',h1,h2⟩,(fun c h=>by cases h),(fun h=>by cases h)⟩
theorem SpE.mk{Q:Exit->Env->Pw}{QM:Nat->Exit->Env->Pw}{e:Exit}{a:Act}{w:Wd}(h:(∃ρ,jo [] n a ρ/\Q e ρ w)∨∃Dk ρ,jo [rN Dk] n a ρ/\QM Dk e ρ w)(h1:∀c,e ≠ .panic c)(h2:e ≠ .outgrown):SpE n Q QM e a w:=by
 cases e with
 | panic c=>exact(h1 c rfl).elim
 | outgrown=>exact(h2 rfl).elim
 | _=>exact h
theorem Qb:∀{l:List Nat}{p:List (Nat×Ty)},RF l p=true->l=p.map Prod.fst
 | [],[],_=>rfl
 | t::r,p::q,h=>by
  simp only[RF,Bool.and_eq_true]at h;rw[List.map_cons,<- Nat.eq_of_beq_eq_true h.1,Qb h.2]
 | [],_::_,h=>by simp[RF]at h
 | _::_,[],h=>by simp[RF]at h
theorem Qc{D:List Deferred}{F:List Value->Env->Prop}:∀(Zq:List (Nat×Ty))(ρ:Env)(a:Act),(∀p∈Zq,p.1 < n)->jo D n a ρ->(∀args ρ',args.length=Zq.length->jo D n { a with tmps:=((Zq.map Prod.fst).zip args).foldl (fun(t:Array Value) (p:Nat×Value)=>t.setIfInBounds p.1 p.2) a.tmps } ρ'->F args ρ')->abi Zq ρ F
 | [],ρ,a,_,hr,h=>h [] ρ rfl hr
 | (t,y)::r,ρ,a,hp,hr,h=>UK y fun v=>by
  refine Qc r _ { a with tmps:=a.tmps.setIfInBounds t v } (fun p hq=>hp p (List.mem_cons_of_mem _ hq)) ?_ fun args ρ' hl dE=>h _ ρ' (by simp[hl]) dE
  exact hr.put (hp _ List.mem_cons_self) _
theorem RG(ps:Array Nat)(args:List Value)(t0:Array Value):(ps.zip args.toArray).foldl (fun t (p,v)=>t.setIfInBounds p v) t0=(ps.toList.zip args).foldl (fun(t:Array Value) (p:Nat×Value)=>t.setIfInBounds p.1 p.2) t0:=by
 rw[<- Array.foldl_toList,Array.toList_zip]
theorem wide_round(l:Nat):Fence.wide.inRound l=qM (some l):=rfl
theorem RH{A:RfA}{g:Operand}{ps:Array Tmp}{ars bd:Code}{Q:Nat->Exit->Env->Pw}{ρ:Env}{w:Wd}{a:Act}(Cn:abj P n A ps ars bd=true)(hr:jo [] n a ρ)(h:rfW P pk A g ars bd Q ρ w) :
    (Code.rangeFunc g ps ars bd).wpIn Fence.wide 0 P (fun e a' w'=>∃Dk,(∃ρ',jo [rN Dk] n a' ρ'/\Q Dk e ρ' w')/\(∀c,e ≠ .panic c)/\e ≠ .outgrown) a w:=by
  simp only[abj,Bool.and_eq_true,List.all_eq_true]at Cn;obtain⟨⟨⟨⟨⟨⟨⟨o1,o2⟩,o3⟩,o4⟩,o5⟩,o6⟩,o7⟩,o8⟩:=Cn;have ep:=Qb o1;refine wpIn_rangeFunc fun fn _=>?_
  let rf:Loop:={ state:= .ready,pending:=none,fn:=fn,tmps:=a.tmps,params:=ps,assign:=ars,body:=bd,defers:=w.heap.size }
  let w1:=(w.alloc (.deferred (some []))).alloc (.loop rf)
  have hd:=h rf w.heap.size (w.heap.size+1) w1 ⟨rfl,rfl,rfl⟩ ?_
  rotate_left
  · refine Qc A.Zq ρ { a with defers:=[] } (fun p hp=>?_) (by have:=hr;exact⟨rfl,this.size,this.get⟩) fun args ρ' hl dE=>?_
    · have:=o8 p.1 (by rw[ep];exact List.mem_map.2 ⟨p,hp,rfl⟩);simpa using this
    intro W K' wg hw
    have rS:args.toArray.size=ps.size:=by
      have:=congrArg List.length ep;simp only[List.length_map,Array.length_toList]at this;rw[List.size_toArray,hl,this]
    have af8:W.heap[w.heap.size+1]? = some (.loop rf):=wg;have hy:=run_yield (P:=P) (args:=args.toArray) af8 rS;unfold aC KN
    have e1:(KO (.func (.yield (w.heap.size+1)) #[] #[]) args).run P W = .ok (.round (w.heap.size+1) fn ((ps.zip args.toArray).foldl (fun tmps (t,a)=>tmps.setIfInBounds t a) a.tmps) ars bd) W:=by
      simp only[KO,Deferred.ofValue,pure_bind];simp[invoke,hy,rf]
    rw[e1];refine⟨rfl,roundIn_of_wpIn (F:=Fence.wide) trivial ?_⟩;rw[RG,ep,wide_round];have hA:=gT (ro:=some (w.heap.size+1)) (n:=n) (D:=[]) A.Xy ars _ _ W _ (.inr ⟨o4,o5⟩) o2 hw dE;refine wpIn_mono hA fun e1 a1 W1 hp=>?_
    obtain⟨⟨ρ1,r1,q1⟩,q2,q3⟩:=hp.out
    cases e1 with
    | panic c=>exact(q2 c rfl).elim
    | outgrown=>exact(q3 rfl).elim
    | exit i=>exact q1.elim
    | goto i=>exact q1.elim
    | ret=>exact q1.elim
    | normal=>
    obtain⟨LW,hb⟩:=q1;have af9:W1.heap[w.heap.size+1]? = some (.loop rf):=LW;refine⟨_,run_beginRound af9 rfl,?_⟩;have hB:=gT (ro:=some (w.heap.size+1)) (n:=n) (D:=[]) A.Xz bd _ _ _ _ (.inr ⟨o6,o7⟩) o3 hb r1;refine wpIn_mono hB fun e2 a2 W2 uC=>?_
    obtain⟨⟨ρ2,r2,s1⟩,s2,s3⟩:=uC.out
    have fin:∀{j:Option Nat},Qa (w.heap.size+1) rf A.js K' j W2->∃v w',(Instr.endRound (w.heap.size+1) (some (H2 j))).run P W2 = .ok v w'/\KM [.one .bool] K' (fun _ _=>False) (.returned v) w':=fun {j} hj=>by
      unfold Qa at hj
      cases hh:abg A.js j with
      | false=>rw[hh]at hj;exact hj.elim
      | true=>
        rw[hh]at hj;have st:W2.heap[w.heap.size+1]? = some (.loop { rf with state:= .busy,pending:=none }):=hj.1;refine⟨_,_,run_endRound (some (H2 j)) st,.inl ⟨false,rfl,hj.2⟩⟩
    cases e2 with
    | panic c=>exact(s2 c rfl).elim
    | outgrown=>exact(s3 rfl).elim
    | normal=>
      have st:W2.heap[w.heap.size+1]? = some (.loop { rf with state:= .busy,pending:=none }):=s1.1;exact⟨_,_,run_endRound none st,.inl ⟨true,rfl,s1.2⟩⟩
    | ret=>exact fin (j:=none) s1
    | exit i=>exact fin (j:=some i) s1
    | goto i=>exact s1.elim
  have abk:jo [rN w.heap.size] n { a with defers:=[rN w.heap.size]++a.defers } ρ:=⟨by simp[hr.defers],hr.size,hr.get⟩
  have aab:∀{js:List (Option Nat)}{w3:Wd},UJ (w.heap.size+1) rf (Q w.heap.size) ρ w3 js ->
      ∃jump w4,(Instr.endLoop (w.heap.size+1)).run P w3 = .ok jump w4/\(match jump with
       | none=>∃Dk,(∃ρ',jo [rN Dk] n { a with defers:=[rN w.heap.size]++a.defers } ρ'/\Q Dk .normal ρ' w4)/\(∀c,Exit.normal ≠ .panic c)/\Exit.normal ≠ .outgrown
       | some c=>c.wpIn Fence.wide 0 P (fun e a' w'=>∃Dk,(∃ρ',jo [rN Dk] n a' ρ'/\Q Dk e ρ' w')/\(∀c,e ≠ .panic c)/\e ≠ .outgrown) { a with defers:=[rN w.heap.size]++a.defers } w4):=by
    intro js
    induction js with
    | nil=>
      intro w3 h3;have st:w3.heap[w.heap.size+1]? = some (.loop { rf with state:= .ready,pending:=none }):=h3.1;exact⟨_,_,run_endLoop st (by simp),_,⟨ρ,abk,h3.2⟩,(fun c h=>by cases h),(fun h=>by cases h)⟩
    | cons j r ih=>
      intro w3 h3;rcases h3 with h3 | h3
      · have st:w3.heap[w.heap.size+1]? = some (.loop { rf with state:= .done,pending:=some (H2 j) }):=h3.1;refine⟨_,_,run_endLoop st (by simp),?_⟩
        cases j with
        | none=>exact wpIn_ret ⟨_,⟨ρ,abk,h3.2⟩,(fun c h=>by cases h),(fun h=>by cases h)⟩
        | some i=>exact wpIn_exit ⟨_,⟨ρ,abk,h3.2⟩,(fun c h=>by cases h),(fun h=>by cases h)⟩
      · exact ih h3
  unfold aC KN KO at hd
  cases hg:ev ρ g with
  | func fv first cap=>
    rw[hg]at hd;simp only[Deferred.ofValue,pure_bind]at hd;split at hd
    · rename_i f ars w2 he;refine⟨w.heap.size+1,[rN w.heap.size],w1,{ target:= .fn fv cap,args:=first++#[.func (.yield (w.heap.size+1)) #[] #[]] },w1,f,ars,w2,run_enterLoop_outer _ _ _ _ _,?_,fun _ _=>trivial,he,(fun h=>by cases h),callsIn_wide.2 ?_⟩
      · have:a.eval g = .func fv first cap:=by rw[hr.eval];exact hg
        simp[resolve,this,Deferred.ofValue];rfl
      · refine Calls.mono hd fun e w3 h3=>?_
        rcases h3 with⟨he3,h3⟩ | ⟨c,_,h3⟩
        · subst he3;exact aab h3
        · exact h3.elim
    · exact absurd hd.1 (by decide)
    · exact hd.elim
  | nilFunc=>
    rw[hg]at hd;simp[Deferred.ofValue,invoke,runtimePanic,program,Sem.run]at hd
  | _=>
    rw[hg]at hd;simp[Deferred.ofValue,stuck]at hd
theorem UM:∀(s:Sp)(c:Code)(Q:Exit->Env->Pw)(QM:Nat->Exit->Env->Pw)(ρ:Env)(w:Wd)(a:Act),OW P n s c=true->UL P pk s c Q QM ρ w->jo [] n a ρ->c.wpIn Fence.wide 0 P (SpE n Q QM) a w:=by
 intro s
 induction s with
 | next ann s ih=>
  intro c Q QM ρ w a Cn h hr
  cases c <;> simp only[UL]at h
  rename_i c1 c2;simp only[OW,Bool.and_eq_true]at Cn;refine wpIn_seq (wpIn_mono (gT (ro:=none) (n:=n) (D:=[]) ann c1 _ ρ w a (.inl rfl) Cn.1 h hr) fun e a' w' hp=>?_);obtain⟨⟨ρ',r',q'⟩,q2,q3⟩:=hp.out
  cases e with
  | normal=>exact ih c2 Q QM ρ' w' a' Cn.2 q' r'
  | panic c=>exact(q2 c rfl).elim
  | outgrown=>exact(q3 rfl).elim
  | exit i=>exact .inl ⟨ρ',r',q'⟩
  | goto i=>exact .inl ⟨ρ',r',q'⟩
  | ret=>exact .inl ⟨ρ',r',q'⟩
 | here rA A p=>
  intro c Q QM ρ w a Cn h hr
  have none_:∀{c:Code},(∀rc id g ps ars bd rest,c ≠ .seq (.seq rc (.block id (.rangeFunc g ps ars bd))) rest)->OW P n (.here rA A p) c=true->False:=fun {c} du hk=>by
   unfold OW at hk;split at hk
   .cases ‹Sp.here _ _ _=Sp.next _ _›
   .exact du _ _ _ _ _ _ _ rfl
   .cases hk
  have dec:(∃rc id g ps ars bd rest,c = .seq (.seq rc (.block id (.rangeFunc g ps ars bd))) rest):=Classical.byContradiction fun hc=>none_ (fun rc id g ps ars bd rest e=>hc ⟨rc,id,g,ps,ars,bd,rest,e⟩) Cn
  obtain⟨rc,id,g,ps,ars,bd,rest,rfl⟩:=dec;simp only[UL]at h;simp only[OW,Bool.and_eq_true]at Cn
  refine wpIn_seq (wpIn_mono (wpIn_seq (Q:=fun e a' w'=>match e with
   | .normal=>∃Dk ρ',jo [rN Dk] n a' ρ'/\uH P pk (fun _ _=>False) p rest (QM Dk) ρ' w'
   | e=>SpE n Q QM e a' w') (wpIn_mono (gT (ro:=none) (n:=n) (D:=[]) _ rc _ ρ w a (.inl rfl) Cn.1.1 h hr) fun e a' w' hp=>?_)) fun e a' w' hp=>?_)
  .obtain⟨⟨ρ1,r1,q1⟩,q2,q3⟩:=hp.out
   cases e with
   | panic c=>exact(q2 c rfl).elim
   | outgrown=>exact(q3 rfl).elim
   | exit i=>exact .inl ⟨ρ1,r1,q1⟩
   | goto i=>exact .inl ⟨ρ1,r1,q1⟩
   | ret=>exact .inl ⟨ρ1,r1,q1⟩
   | normal=>
    refine wpIn_block (wpIn_mono (RH Cn.1.2 r1 q1) fun e2 a2 w2 uC=>?_);obtain⟨Dk,⟨ρ2,r2,s2⟩,s3,s4⟩:=uC
    cases e2 with
    | panic c=>exact(s3 c rfl).elim
    | outgrown=>exact(s4 rfl).elim
    | normal=>exact⟨Dk,ρ2,r2,s2⟩
    | goto i=>exact .inr ⟨Dk,ρ2,r2,s2⟩
    | ret=>exact .inr ⟨Dk,ρ2,r2,s2⟩
    | exit i=>
     simp only[EF]at s2;simp only[Exit.inBlock]
     cases hb:Nat.beq i id with
     | true=>
      have:=Nat.eq_of_beq_eq_true hb;subst this;rw[hb]at s2;rw[if_pos rfl];exact⟨Dk,ρ2,r2,s2⟩
     | false=>
      rw[hb]at s2;rw[if_neg (fun e=>by subst e;simp at hb)];exact .inr ⟨Dk,ρ2,r2,s2⟩
  .cases e with
   | normal=>
    obtain⟨Dk,ρ1,r1,q1⟩:=hp;refine wpIn_mono (gT (ro:=none) (n:=n) (D:=[rN Dk]) p rest _ ρ1 w' a' (.inl rfl) Cn.2 q1 r1) fun e2 a2 w2 uC=>?_
    obtain⟨⟨ρ2,r2,s2⟩,s3,s4⟩:=uC.out;exact SpE.mk (.inr ⟨Dk,ρ2,r2,s2⟩) s3 s4
   | panic c=>exact hp
   | outgrown=>exact hp
   | exit i=>exact hp
   | goto i=>exact hp
   | ret=>exact hp
def abl(Dk:Nat):(l:List Ty)->kx l->kx l
 | [],K=>fun w=>K (cP Dk w)
 | .one _::r,K=>fun x=>abl Dk r (K x)
 | .agg l::r,K=>abm Dk r l K
 | .bad::r,K=>fun v=>abl Dk r (K v)
where
 abm (Dk:Nat) (r:List Ty):(l:List Bb)->iZ l (kx r)->iZ l (kx r)
 | [],K=>abl Dk r K
 | .one _::q,K=>fun x=>abm Dk r q (K x)
 | .row _ _::q,K=>fun x=>abm Dk r q (K x)
def adI(P:Program)(tys:List Ty)(rs:List ResultVar)(K:kx tys)(Dk:Nat):Exit->Env->Pw
 | .ret,ρ,w=>lE Dk w/\wG P rs ρ (cP Dk w) (fun vs=>qk tys vs K (cP Dk w))
 | .normal,ρ,w=>lE Dk w/\wG P rs ρ (cP Dk w) (fun vs=>qk tys vs K (cP Dk w))
 | _,_,_=>False
theorem Sc{f:FuncId}{fn:Func}{s:Sp}{args:List Value}{tys:List Ty}{K:kx tys}{w:Wd}{F C:Prop}(hf:P.funcs[f]? = some fn)
  (hF:F=UL P pk s (fn.body.getD .skip) (KW P tys fn.results.toList K) (adI P tys fn.results.toList K) (m_ args) w) (hc:(fn.body.isSome && Nat.ble args.length fn.ntmps && OW P fn.ntmps s (fn.body.getD .skip))=true)
  (hC:av P f args.toArray tys K w=C) (h:F):C:=by
 simp only[Bool.and_eq_true]at hc;obtain⟨c,hb⟩:=Option.isSome_iff_exists.1 hc.1.1;have e:fn.body.getD .skip=c:=by rw[hb];rfl
 rw[e]at hF hc;rw[<- hC];refine callsIn_wide.1 (callsIn_of_wp_marks (F:=Fence.wide) (n:=0) hf hb trivial (wpIn_mono (UM s c _ _ _ w _ hc.2 (hF ▸ h) (uI hc.1.2)) fun e a' w' hp=>?_) rfl)
 have fin:∀{D:List Deferred}{ρ':Env}{Ea:Wd},jo D fn.ntmps a' ρ'->wG P fn.results.toList ρ' Ea (fun vs=>qk tys vs K Ea)->∃v,(results fn a'.tmps).run P Ea = .ok v Ea/\Ib tys K (fun vs Y=>Ending.returned v = .returned (fY vs)/\Y Ea):=fun dE hq=>by
  obtain⟨vs,h1,h2⟩:=mJ dE hq;exact⟨_,h1,kA tys K (fun us X hh=>⟨by rw[hh.1],hh.2⟩) (oA tys vs K _ h2)⟩
 have main:((∃ρ,jo [] fn.ntmps a' ρ/\wG P fn.results.toList ρ w' (fun vs=>qk tys vs K w'))∨∃Dk ρ,jo [rN Dk] fn.ntmps a' ρ/\(lE Dk w'/\wG P fn.results.toList ρ (cP Dk w') (fun vs=>qk tys vs K (cP Dk w'))))->
   LeavesInM Fence.wide 0 P fn a'.tmps (fun e w'=>Ib tys K (fun vs Y=>e = .returned (fY vs)/\Y w')) a'.defers .returning w':=by
  rintro(⟨ρ,r,q⟩ | ⟨Dk,ρ,r,q0,q⟩)
  .rw[r.defers];exact fin r q
  .rw[r.defers];exact⟨by simp,.inl ⟨Dk,_,rfl,run_takeDeferred q0,fin r q⟩⟩
 cases e with
 | normal=>exact main hp
 | ret=>exact main hp
 | panic c=>exact hp.elim
 | outgrown=>exact hp.elim
 | exit i=>rcases hp with⟨_,_,h⟩ | ⟨_,_,_,h⟩ <;> exact h.elim
 | goto i=>rcases hp with⟨_,_,h⟩ | ⟨_,_,_,h⟩ <;> exact h.elim
end sound
end Go.V
set_option maxRecDepth 100000
namespace Go.V
theorem mr{l:Nat}{rf:Loop}{st:LoopState}{p:Option Code}{w:Wd}:Ext (fun q=>q=l) w (bN l rf st p w):=mG.ext (o:= .loop { rf with state:=st,pending:=p }) rfl
theorem jS.lt{l:Nat}{rf:Loop}{st:LoopState}{p:Option Code}{w:Wd}(h:jS l rf st p w):l < w.heap.size:=by
 rcases Nat.lt_or_ge l w.heap.size with k | k
 .exact k
 .unfold jS at h;rw[Array.getElem?_eq_none k]at h;cases h
theorem jS.put{l:Nat}{rf:Loop}{st st':LoopState}{p p':Option Code}{w:Wd}(h:jS l rf st p w):jS l rf st' p' (bN l rf st' p' w):=World.putObj_heap_same h.lt
theorem zB{l:Nat}{rf:Loop}{st:LoopState}{p:Option Code}{w:Wd}:(bN l rf st p w).heap.size=w.heap.size:=by simp[bN,World.putObj]
theorem jS.ext{S:Nat->Prop}{l:Nat}{rf:Loop}{st:LoopState}{p:Option Code}{w w':Wd}(h:jS l rf st p w)(x:Ext S w w')(hS:¬ S l):jS l rf st p w':=by
 unfold jS;rw[x.aw l h.lt hS];exact h
theorem vU{dk:Nat}{w:Wd}:Ext (fun q=>q=dk) w (cP dk w):=mG.ext (o:= .deferred none) rfl
theorem lE.lt{dk:Nat}{w:Wd}(h:lE dk w):dk < w.heap.size:=by
 rcases Nat.lt_or_ge dk w.heap.size with k | k
 .exact k
 .unfold lE at h;rw[Array.getElem?_eq_none k]at h;cases h
theorem lE.ext{S:Nat->Prop}{dk:Nat}{w w':Wd}(h:lE dk w)(x:Ext S w w')(hS:¬ S dk):lE dk w':=by
 unfold lE;rw[x.aw dk h.lt hS];exact h
theorem ME.facts{w w1:Wd}{rf:Loop}{dk l:Nat}(n:ME w rf dk l w1):Ext No w w1/\w1.heap.size=w.heap.size+2/\jS l rf .ready none w1/\lE dk w1:=by
 obtain⟨rfl,rfl,rfl⟩:=n;refine⟨⟨rfl,rfl,rfl,?_,fun b hb _=>?_⟩,?_,?_,?_⟩
 .show w.heap.size<=((w.heap.push _).push _).size;rw[Array.size_push,Array.size_push];omega
 .show((w.heap.push _).push _)[b]? = _;rw[jX _ _ _ (by rw[Array.size_push];omega),jX _ _ _ hb]
 .show((w.heap.push _).push _).size=_;rw[Array.size_push,Array.size_push]
 .show((w.heap.push _).push _)[w.heap.size+1]? = _;rw[Array.getElem?_push,if_pos (by rw[Array.size_push])]
 .show((w.heap.push _).push _)[w.heap.size]? = _;rw[jX _ _ _ (by rw[Array.size_push];omega),Array.getElem?_push,if_pos rfl]
end Go.V
namespace Go.Proofs.YtiigcapldngijaaGreat
open Go.V
def JW(s:Value)(tenant t0:Int)(t1 t2 t3:Int)(jY to:Sl)(lK:Int)(back:Bool)(w:Wd)(K:Sl->Int->Pw):Prop:=au w (.cells (mM t0 t1 t2 t3).toArray 46) fun n T=>au T (.cells [.int .i64 lK].toArray 3) fun C a0=>au a0 (.cells [.slice none 0 0].toArray 58) fun i a1=>au a1 (.cells [.int .i64 0].toArray 25) fun j m=>qI (Cell m) (A0 n) fun D E F G=>Cs s tenant D E F G m fun R S a2=>If (S != 0) (False) (au a2 (.cells [.slice none 0 0].toArray 58) fun k N=>∃H:Int,Cell N (A0 C) (.int .i64 H)/\If (decide (H < 1)) (False) (pR R jY to back N fun Q a3=>∀(a:Loop)(dk lp:Nat)(w8:Wd),ME a3 a dk lp w8->(∀(c:Sl)(d:Sl)(O:Int)(A:Wd)(B:Bool->Pw),jS lp a .ready none A->(au A (.cells (Lh).toArray 196) fun y U=>bQ U (A0 y) 2 (t_ c d) fun l=>jS lp a .ready none l/\If (O != 0) (False) (∃o:Sl,Cell (bN lp a .busy none l) (A0 k) o.u/\uQ (Cell (bN lp a .busy none l)) (A0 y) fun e f=>au (bN lp a .busy none l) (.cells (t_ e f).toArray 196) fun P V=>bj pz 58 58 o (.slice (some (A0 P)) 1 1) (fun z W=>aH W (A0 k) z.u fun u=>∃q:Sl,Cell u (A0 k) q.u/\∃J:Int,Cell u (A0 C) (.int .i64 J)/\If (decide (((q.len:Int))≥J)) (False) (jS lp a .busy none u/\B true (bN lp a .ready none u))) V))->aC pz true (.func (.yield lp) #[] #[]) [.agg ((t_ c d)).toArray,.int .i64 O] [.one .bool] B bJ A)->aC pz false (Q) [.func (.yield lp) #[] #[]] [] (fun b=>(jS lp a .done (some .ret) b/\lE dk ((bN lp a .exhausted (some .ret) b))/\∃r:Sl,Cell ((cP dk ((bN lp a .exhausted (some .ret) b)))) (A0 i) r.u/\∃L:Int,Cell ((cP dk ((bN lp a .exhausted (some .ret) b)))) (A0 j) (.int .i64 L)/\K r L ((cP dk ((bN lp a .exhausted (some .ret) b)))))∨  (jS lp a .done (some (.exit 0)) b/\∃g:Sl,Cell (bN lp a .exhausted (some (.exit 0)) b) (A0 k) g.u/\aH (bN lp a .exhausted (some (.exit 0)) b) (A0 i) g.u fun Y=>aH Y (A0 j) (.int .i64 0) fun v=>lE dk v/\∃t:Sl,Cell ((cP dk v)) (A0 i) t.u/\∃M:Int,Cell ((cP dk v)) (A0 j) (.int .i64 M)/\K t M ((cP dk v)))∨  (jS lp a .ready none b/\∃h:Sl,Cell (bN lp a .exhausted none b) (A0 k) h.u/\aH (bN lp a .exhausted none b) (A0 i) h.u fun Z=>aH Z (A0 j) (.int .i64 0) fun x=>lE dk x/\∃p:Sl,Cell ((cP dk x)) (A0 i) p.u/\∃I:Int,Cell ((cP dk x)) (A0 j) (.int .i64 I)/\K p I ((cP dk x)))) bJ w8))
def JX:Sp:=(.next n0 (.next n0 (.next (qz (.cond .cut n0)) (.next n0 (.next (qz (.cond .cut n0)) (.here n0 ⟨[(38,.agg [.one (.sl),.one (.sl)]),(39,.one (.int .i64))],[none,some 0],(qz n0),(.block (.seq (qz (.cond .cut n0)) (qz (qz (.cond .cut n0)))))⟩ (qz n0)))))))
theorem AT{s:Value}{tenant t0:Int}{t1 t2 t3:Int}{jY to:Sl}{lK:Int}{back:Bool}{w:Wd}{K:Sl->Int->Pw}(h:JW s tenant t0 t1 t2 t3 jY to lK back w K):iw s tenant t0 t1 t2 t3 jY to lK back w K:=
 Sc (pk:=PK) (s:=JX) (args:=[s,.int .u32 tenant,.agg ([.int .u32 t0,.int .u64 t1,.int .u16 t2,.int .u8 t3]).toArray,.slice jY.a jY.len jY.cap,.slice to.a to.len to.cap,.int .i64 lK,.bool back]) (tys:=[.one (.sl),.one (.int .i64)]) (K:=K) (w:=w) Tryz.func107 (by kernel_rfl) (by kernel_rfl) (by kernel_rfl) h
def lF(s:Sl)(seq:Value)(w:Wd)(K:Sl->Pw):Prop:=au w (.cells [s.u].toArray 350) fun f l=>∀(a:Loop)(dk lp:Nat)(w2:Wd),ME l a dk lp w2->(∀(j:ByteArray)(b:Wd)(h:Bool->Pw),jS lp a .ready none b->(jS lp a .ready none b/\∃c:Sl,Cell (bN lp a .busy none b) (A0 f) c.u/\au (bN lp a .busy none b) (.cells [.string j].toArray 9) fun k m=>bj pz 350 350 c (.slice (some (A0 k)) 1 1) (fun g n=>aH n (A0 f) g.u fun i=>jS lp a .busy none i/\h true (bN lp a .ready none i)) m)->aC pz true (.func (.yield lp) #[] #[]) [.string j] [.one .bool] h bJ b)->aC pz false (seq) [.func (.yield lp) #[] #[]] [] (fun e=>(jS lp a .ready none e/\∃d:Sl,Cell (bN lp a .exhausted none e) (A0 f) d.u/\lE dk ((bN lp a .exhausted none e))/\K d ((cP dk ((bN lp a .exhausted none e)))))) bJ w2
def lG:Sp:=(.next n0 (.here n0 ⟨[(7,.one (.str))],[],n0,(.block n0)⟩ (qz n0)))
theorem lH{s:Sl}{seq:Value}{w:Wd}{K:Sl->Pw}(h:lF s seq w K):cO s seq w K:=
 Sc (pk:=PK) (s:=lG) (args:=[.slice s.a s.len s.cap,seq]) (tys:=[.one (.sl)]) (K:=K) (w:=w) Tryz.func394 (by kernel_rfl) (by kernel_rfl) (by kernel_rfl) h
section
variable {w:Wd}
theorem adJ{β:Type}{a b:List β}(h:a.Perm b)(hl:b.length<=1):a=b:=by
 match b,hl with
 | [],_=>exact h.eq_nil
 | [x],_=>exact List.perm_singleton.1 h
 | _::_::_,hl=>simp at hl
abbrev OX:=@JD w 9 _ 1 _ (@NU) (by decide)
theorem XA:∃kt et,Tryz.prog.underlying 347=some (.map kt et):=⟨9,78,by kernel_rfl⟩
set_option maxHeartbeats 1000000 in
theorem AU{bc r:Nat}{m:List (ByteArray×Value)}{K:Sl->Pw}(g:w.heap[bc]? = some (.cells [Value.map (some r)].toArray 347 (0,0)))(hm:cY w.heap (Value.string) r m)(hl:m.length<=1)
  (k:∀s w',aP w'.heap w.heap.size 9 1 s ((rG (Value.string) m).map Prod.fst)->Ext No w w'->K s w'):cO ⟨none,0,0⟩ (.func (.func 355) #[] #[.pointer (some ⟨bc,0,none⟩)]) w K:=by
 apply lH;refine fun b w1 n1 rf dk lp w2 qo abn=>?_
 have hb:=n1.at_;have z1:=n1.size;obtain⟨lJ,z2,hrf,hdf⟩:=qo.facts;have hlp:lp=w1.heap.size+1:=qo.l;have hdk:dk=w1.heap.size:=qo.d;have vJ:Ext No w w2:=n1.ext.no lJ;have gno:∀{u v:Wd}{c:Nat}{o:Obj},u.heap[c]? = some o->Ext No u v->v.heap[c]? = some o:=fun h x=>(x.aw _ (aN h) fun h=>h).trans h
 have gex:∀{S:Nat->Prop}{u v:Wd}{c:Nat}{o:Obj},u.heap[c]? = some o->Ext S u v->¬ S c->v.heap[c]? = some o:=fun h x hs=>(x.aw _ (aN h) hs).trans h
 refine fD (fC ⟨some r,Cell.af (gno g vJ) rfl,?_⟩);obtain⟨kt,et,VM⟩:=XA;have hm2:=hm.ext vJ fun h=>h
 have aib:r < w.heap.size:=by obtain⟨es,c,h,_⟩:=hm;exact aN h
 obtain⟨w3,eH,hI,x3,z3⟩:=Ei.start (P:=pz) VM hm2;refine⟨some ⟨w2.heap.size,0,none⟩,w3,eH,fun q u=>∃sm s,q=m.length - sm.length/\Ei (Value.string) u w2.heap.size r m sm/\jS lp rf .ready none u/\lE dk u/\Ext No w u/\u.heap[b]? = some (.cells [Sl.v s].toArray 350 (0,0))/\aP u.heap (w2.heap.size+1) 9 1 s ((rG (Value.string) sm).map Prod.fst),⟨_,[],⟨none,0,0⟩,rfl,hI,hrf.ext x3 fun h=>h,hdf.ext x3 fun h=>h,vJ.no x3,gno n1.get (lJ.no x3),aP.nil _ _ _ _⟩,?_⟩;rintro _ q u ⟨sm,s,rfl,hI,h1,h2,h3,h4,h5⟩;have zu:=hI.lt;rcases hI.next (P:=pz) (by omega) with⟨hp,w4,hn,x4⟩ | ⟨p,w4,hn,he,hI4,x4,hpm,_,hlen⟩
 .refine .inl ⟨w4,hn,h1.ext x4 fun h=>h,s,?_⟩;have e:=adJ hp (by rw[List.length_map];exact hl);rw[e]at h5;have xp:Ext (·=lp) w4 (bN lp rf .exhausted none w4):=mr;have xd:Ext (·=dk) (bN lp rf .exhausted none w4) (cP dk (bN lp rf .exhausted none w4)):=vU;have VT:=gno h4 x4;refine⟨Cell.af (gex VT xp (by omega)) rfl,(h2.ext x4 fun h=>h).ext xp (by omega),k s _ ?_ ?_⟩
  .exact(((h5.no x4).ext xp fun i hi h=>by have:=(h5.lt hi).1;omega).ext xd fun i hi h=>by have:=(h5.lt hi).1;omega).mono (by omega)
  .exact((h3.no x4).trans xp fun i hi h=>by omega).trans xd fun i hi h=>by omega
 .refine .inr ⟨Value.string p.1,p.2,w4,hn,Value.string p.1,p.2,w4,he,?_⟩;have Md:=h1.ext x4 (by omega);have xb:Ext (·=lp) w4 (bN lp rf .busy none w4):=mr;have zb:(bN lp rf .busy none w4).heap.size=w4.heap.size:=zB;have z4:=x4.size;have VT:=gex h4 x4 (by omega);have slt:∀i,s.aw=some i->w2.heap.size+1<=i/\i < u.heap.size:=fun i hi=>h5.lt hi
  have h5b:=(h5.ext x4 fun i hi h=>by have:=slt i hi;omega).ext xb fun i hi h=>by have:=slt i hi;omega
  have od:=h5.len;simp only[List.length_map,Nat.mul_one]at od;refine abn p.1 w4 _ Md ⟨Md,s,Cell.af (gex VT xb (by omega)) rfl,?_⟩;refine OX h5b (by omega) rfl (Q5 rfl) (by omega) fun s5 w5 o5 l5 x5 _=>?_
  have OB:Ext (fun q=>q=lp∨s.aw=some q) w4 w5:=(xb.mono fun _ _ h=> .inl h).trans x5 fun _ _ h=> .inr h
  have h45:=gex VT OB fun h=>h.elim (fun h=>by omega) fun h=>by have:=slt _ h;omega
  refine aH.mk h45 Nat.one_pos rfl fun w6 h6=>?_
  have zt:=h6.ext;have st6:jS lp rf .busy none w6:=((Md.put (st' := .busy) (p':=none)).ext x5 fun h=>by have:=slt _ h;omega).ext zt (by omega);have x6r:Ext (·=lp) w6 (bN lp rf .ready none w6):=mr;have abo:Ext (fun q=>q=lp∨s.aw=some q∨q=b) w4 (bN lp rf .ready none w6):=((OB.mono fun i _ h=>h.imp id Or.inl).trans zt fun i _ h=> .inr (.inr h)).trans x6r fun i _ h=> .inl h
  have z6:=zt.size;have z5:=x5.size;refine⟨st6,If.not (If.yes ⟨m.length - (sm.length+1),by omega,sm++[p],s5,by simp,hI4.ext abo ?_ ?_,st6.put,?_,?_,?_,?_⟩)⟩
  .rintro(h | h | h)
   .omega
   .have:=slt _ h;omega
   .omega
  .rintro(h | h | h)
   .omega
   .have:=slt _ h;omega
   .omega
  .refine(h2.ext x4 (by omega)).ext abo ?_;rintro(h | h | h)
   .omega
   .have:=slt _ h;omega
   .omega
  .refine(h3.trans x4 fun i hi h=>by omega).trans abo fun i hi h=>?_
   rcases h with h | h | h
   .omega
   .have:=slt _ h;omega
   .omega
  .exact gex (h6.get h45) x6r (by omega)
  .have o6:=(o5.ext zt fun i hi h=>by have:=(o5.lt hi).1;omega).ext x6r fun i hi h=>by have:=(o5.lt hi).1;omega
   simpa[rG] using o6
end
end Go.Proofs.YtiigcapldngijaaGreat
namespace Go.V
theorem abp{kind:Int}{e:gN}(h1:B8 e.key)(h2:B8 e.val):B8 (wrE kind e):=by
 unfold wrE;refine(B8.cons (by omega) h1).append ?_;split
 .exact((cv _ _).append (cv _ _)).append (cv _ _)
 .split
  .exact(B8.cons (by omega) (B8.cons (by omega) (B8.cons (by omega) B8.nil))).append (((cv _ _).append (cv _ _)).append (cv _ _))
  .exact(B8.cons (by omega) (B8.cons (by omega) B8.nil)).append h2
theorem UN{l:List Int}(h:B8 l):B8 (pad l):=h.append fun x hx=>by rw[List.mem_replicate]at hx;omega
theorem Zr{kind lev:Int}{l:List gN}(hk:0<=kind/\kind<=255)(hv:0<=lev/\lev<=255)(h:∀e∈l,B8 e.key/\B8 e.val):B8 (wr kind lev l):=by
 refine(B8.cons hk (B8.cons hv (B8.cons (by omega) B8.nil))).append fun x hx=>?_
 obtain⟨e,he,hx⟩:=List.mem_flatMap.1 hx;exact abp (h e he).1 (h e he).2 x hx
end Go.V
namespace Go.Proofs.YtiigcapldngijaaGreat
open Go.V Go.V.Dk Go.V.Rn
section
variable {w w':Wd} {T T':Nat->Nat} {s:SA}
structure Hf(s:SA)(t g:Int)(r:fA)(m:Nat):Prop where
 cm:s.cm≠0
 fl:s.fl=false
 hg:vN s.ks t=[g]
 F:∃M,s.F=r::M
 hr:bw s.F=true
 m:s.pm=some m
 new:∀k∈s.ps,k.n≠r.1
 pu:∀n∈s.pu,n≠r.1
 ok:iV.OK ⟨t,1,0,r.1,s.cm,g⟩
 u:zV (cZ s.F)
 len:(cZ s.F).length<=1000
abbrev SA.put(s:SA)(t g:Int)(r:fA)(fr' sl:Sl)(pl:List Int):SA:={ s with fr:=fr',F:=cZ s.F,ps:=s.ps++[⟨r.1,⟨t,1,0,r.1,s.cm,g⟩,sl,pl⟩],pu:=s.pu++[r.1] }
set_option maxHeartbeats 1000000 in
theorem F6{t g:Int}{r:fA}{m:Nat}{sl:Sl}{L:List (ca×gN)}{K:Int->Int->Int->Int->Int->Pw}(y:Sy w T s)(P:Hf s t g r m)(nd:Gk w.heap sl L)(hl:L.length<=65536)(hr:lA 1 0 (fi L))(hs:(wr 1 0 (fi L)).length<=224)
  (k:∀T' fr' xI w',Sy w' T' (s.put t g r fr' xI (pad (wr 1 0 (fi L))))->bu T w T' w'->K r.1 s.cm g 0 0 w'):gJ s.src t 1 0 sl w K:=by
 apply yp;refine fun b w1 n1 b1 w2 n2 b2 w3 n3=>?_
 have g0:=ah (ah n1.get n2.ext) n3.ext;have g1:=ah n2.get n3.ext;have g2:=n3.get;have x3:Ext No w w3:=(n1.ext.no n2.ext).no n3.ext;have z1:=n1.size;have z2:=n2.size;have z3:=n3.size;have a1:=n1.at_;have a2:=n2.at_;have a3:=n3.at_;refine⟨1,Cell.af g1 rfl,0,Cell.af g1 rfl,sl,Cell.af g1 rfl,Mk (nd.no x3) hl (fun t4 w4 _ _ o4 x4=>If.bne (fun h=>absurd rfl h) fun _=>?_) (fun c w4 h _ _=>(h ⟨hr,hs⟩).elim)⟩;have th:=x3.no x4;have y4:=y.no th
 have b8:B8 (pad (wr 1 0 (fi L))):=UN (Zr (by decide) (by decide) fun e he=>by
  obtain⟨p,hp,rfl⟩:=List.mem_map.1 he
  exact⟨(nd.JM p hp).k8,(nd.JM p hp).v8⟩)
 refine⟨_,Cell.af (ah g0 x4) rfl,t,Cell.af (ah g0 x4) rfl,1,Cell.af (ah g1 x4) rfl,0,Cell.af (ah g1 x4) rfl,AB ?_⟩;obtain⟨M,hF⟩:=P.F;refine TY y4 P.cm P.fl ⟨by decide,by decide⟩ o4.rd (fun i hi=>y.out i (by have:=(o4.lt hi).1;have:=x3.size;omega)) (Em hs) b8 P.hg hF P.hr P.m P.new P.pu P.ok P.u P.len fun T' fr' xI w6 y6 s6=>?_
 refine fx rfl rfl (a_ rfl) fun w8 g8 z8 x8=>?_
 have VW:T b1=0:=y.out b1 (by omega);have KA:T b2=0:=y.out b2 (by omega);have JO:=ah (s6.aw (ah g1 x4) (.inl VW)) x8;have g26:=ah (s6.aw (ah g2 x4) (.inl KA)) x8;have l4:=aN (ah g2 x4);refine⟨_,Cell.af g8 rfl,_,Cell.af g8 rfl,_,Cell.af g8 rfl,0,Cell.af JO rfl,rfl,bO.mk g26 (Nat.le_refl 4) (a_ rfl) fun w9 h9=>?_⟩;have g9:=h9.get g26;have aga:T' b2=0:=(s6.a b2 l4).trans KA;exact⟨_,Cell.af g9 rfl,_,Cell.af g9 rfl,_,Cell.af g9 rfl,_,Cell.af g9 rfl,k T' fr' xI w9 ((y6.no x8).loc h9.ext fun i hi=>by subst hi;exact .inl aga) ((((bu.no th).trans s6).nx x8).out h9.ext (by omega))⟩
theorem oE(x:ca):∀v∈x.cs,cB v=true:=by
 intro v hv;simp only[ca.cs,List.mem_cons,List.not_mem_nil,or_false]at hv;rcases hv with h | h | h | h | h | h | h | h | h <;> subst h <;> rfl
set_option maxHeartbeats 1000000 in
theorem AV{g:Value}{t:Int}{ks vs:Sl}{key val:List Int}{K:Sl->Sl->Int->Int->Int->Int->Int->Int->Int->Int->Pw}(hk:aQ w.heap ks key)(hv:aQ w.heap vs val)(k8:B8 key)(v8:B8 val)(kl:key.length<=32)(vl:val.length<=64)
  (k:∀x w',xg w'.heap x ⟨key,val,0,.z,.z⟩->(∀q,x.k.aw=some q∨x.v.aw=some q->w.heap.size<=q)->Ext No w w'->K x.k x.v x.n x.ch.p x.ch.c x.ch.g x.cd.p x.cd.c x.cd.g 0 w'):gK g t ks vs w K:=by
 apply yq;have Cy:=aQ.len hk;have hvl:=aQ.len hv;refine fun b w1 n1 b1 w2 n2 b2 w3 n3=>?_
 have Cz:=n2.at_;have zI:=n3.at_;have z1:=n1.size;have z2:=n2.size;have z3:=n3.size;have iC:Ext No w w3:=(n1.ext.no n2.ext).no n3.ext;have Gm:=ah n2.get n3.ext;have g23:=n3.get;refine pn (Rd.no hk iC) (by omega) fun kS w4 kO x4=>?_
 refine mF (vs:=ca.cs ⟨kS,⟨none,0,0⟩,0,.z,.z⟩) rfl rfl (oE _) fun b3 w6 g36 w_ z6 x6=>?_
 have Sr:Ext No w3 w6:=x4.no x6;have s4:=x4.size;have kO6:=kO.no x6;have kb:∀q,kS.aw=some q->w3.heap.size<=q/\q < w4.heap.size:=fun q hq=>kO.lt hq
 refine If.dec (fun h64=>?_) fun h64=>by omega
 refine pn (Rd.no hv (iC.no Sr)) (by omega) fun vS w7 vO x7=>aH.mk (ah g36 x7) (by simp[ca.cs]) rfl fun w8 h8=>?_
 have g8:w8.heap[b3]? = some (.cells (ca.cs ⟨kS,vS,0,.z,.z⟩).toArray 218 (0,0)):=h8.get (ah g36 x7);have x8:Ext (·=b3) w7 w8:=h8.ext;have z8:w8.heap.size=w7.heap.size:=h8.size;have s7:=x7.size;have vb:∀q,vS.aw=some q->w6.heap.size<=q/\q < w7.heap.size:=fun q hq=>vO.lt hq
 refine rJ g8 ⟨rfl,bO.mk (vs:=ca.cs ⟨kS,vS,0,.z,.z⟩) (ar (ah Gm (Sr.no x7)) x8 (by omega)) (Nat.le_refl 9) (oE _) fun w9 h9=>?_⟩;have g9:=h9.get (ar (ah Gm (Sr.no x7)) x8 (by omega));have x9:=h9.ext;have z9:=h9.size;refine aH.mk (ar (ar (ah g23 (Sr.no x7)) x8 (by omega)) x9 (by omega)) (by decide) rfl fun eK D2=>?_
 have dQ:Ext (·=b2) w9 eK:=D2.ext;refine rJ (x:=⟨kS,vS,0,.z,.z⟩) (ar g9 dQ (by omega)) ⟨0,Cell.af (D2.get (ar (ar (ah g23 (Sr.no x7)) x8 (by omega)) x9 (by omega))) rfl,?_⟩;have abq:Ext (fun q=>q=b3∨q=b1∨q=b2) w7 eK:=((x8.mono fun _ _ h=> .inl h).trans x9 fun _ _ h=> .inr (.inl h)).trans dQ fun _ _ h=> .inr (.inr h)
 have xf:Ext No w eK:=((iC.no Sr).no x7).trans abq fun q hq h=>by omega
 refine k ⟨kS,vS,0,.z,.z⟩ eK ⟨?_,?_,rfl,rfl,rfl,k8,v8,⟨by show(-9223372036854775808:Int)<=0;decide,by show(0:Int)<=9223372036854775807;decide⟩,by show Rf.z.ok;decide,by show Rf.z.ok;decide⟩ (fun q hq=>by
  have:=iC.size;have:=Sr.size;rcases hq with h | h
  .have:=(kb q h).1;omega
  .have:=(vb q h).1;omega) xf
 .exact(kO6.rd.no x7).ext abq fun a q ha hq h=>by have:=kb q (by simp[Sl.aw,ha,hq]);omega
 .exact vO.rd.ext abq fun a q ha hq h=>by have:=vb q (by simp[Sl.aw,ha,hq]);omega
theorem tA{e:gN}(k1:1<=e.key.length)(kl:e.key.length<=32)(vl:e.val.length<=64)(hn:e.n=0)(hc:e.ch = .z)(hd:e.cd = .z):lA 1 0 [e]:=by
 refine⟨.inl ⟨rfl,rfl⟩,fun h=>absurd h (by decide),fun i hi=>?_,fun i hi=>by simp at hi⟩;have:i=0:=by simpa using hi
 subst this;refine⟨?_,?_⟩
 .unfold D6;rw[if_neg (by rintro⟨h,_⟩;revert h;decide)];show 1<=((e.key.length:Nat):Int)/\((e.key.length:Nat):Int)<=32;omega
 .rw[if_neg (by decide)];exact⟨hd,by rw[if_pos (show[e][0].n=0 from hn)];exact⟨hc,vl⟩⟩
theorem AW{e:gN}(kl:e.key.length<=32)(vl:e.val.length<=64)(hn:e.n=0):(wr 1 0 [e]).length<=224:=by
 simp[wr,wrE,hn];omega
set_option maxHeartbeats 1000000 in
theorem OY{t g:Int}{r:fA}{m:Nat}{ks vs:Sl}{key val:List Int}{K:Int->Int->Int->Int->Int->Pw}(y:Sy w T s)(P:Hf s t g r m)(hk:aQ w.heap ks key)(hv:aQ w.heap vs val)(k8:B8 key)(v8:B8 val)(k1:1<=key.length)(kl:key.length<=32)(vl:val.length<=64)
  (k:∀T' fr' xI w',Sy w' T' (s.put t g r fr' xI (pad (wr 1 0 [⟨key,val,0,.z,.z⟩])))->bu T w T' w'->K r.1 s.cm g 0 0 w'):fH s.src t 0 0 0 0 ks vs false w K:=by
 apply nD;refine fun b w1 n1 b1 w2 n2 b2 w3 n3 b3 w4 n4=>?_
 have z1:=n1.size;have z2:=n2.size;have z3:=n3.size;have z4:=n4.size;have a4:=n4.at_;have x4:Ext No w w4:=((n1.ext.no n2.ext).no n3.ext).no n4.ext;have g0:=ah (ah (ah n1.get n2.ext) n3.ext) n4.ext;have g1:=ah (ah n2.get n3.ext) n4.ext;have g2:=ah n3.get n4.ext;have g3:=n4.get;refine⟨0,Cell.af g1 rfl,0,Cell.af g1 rfl,0,Cell.af g1 rfl,0,Cell.af g1 rfl,If.yes ⟨false,Cell.af g2 rfl,If.no ⟨_,Cell.af g0 rfl,t,Cell.af g0 rfl,ks,Cell.af g2 rfl,vs,Cell.af g2 rfl,?_⟩⟩⟩;refine AV (Rd.no hk x4) (Rd.no hv x4) k8 v8 kl vl fun x w6 hx _ x6=>?_
 refine mF (vs:=x.cs) rfl rfl (oE _) fun b4 w8 g8 _ z8 x8=>If.bne (fun h=>absurd rfl h) fun _=>?_
 have OQ:=x6.no x8;refine⟨_,Cell.af (ah g0 OQ) rfl,t,Cell.af (ah g0 OQ) rfl,rJ g8 fun b5 eK ke=>?_⟩;have F8:=(x4.no OQ).no ke.ext
 have nd:Gk eK.heap ⟨some ⟨b5,0,none⟩,1,1⟩ [(x,⟨key,val,0,.z,.z⟩)]:=by
  refine⟨?_,fun p hp=>?_⟩
  .have:=(aP.new (n:=1) (sz:=9) (cs:=x.cs) ke rfl (oE _)).rd;simpa[tW] using this
  .simp only[List.mem_singleton]at hp;subst hp;exact(hx.no x8).no ke.ext
 have On:=y.no F8;refine F6 On P nd (Nat.le_of_ble_eq_true rfl) (tA k1 kl vl rfl rfl rfl) (AW kl vl rfl) fun T' fr' xI eM W0 Sn=>?_
 have t3:T b3=0:=y.out b3 (by omega);have adK:=ah (ah g3 OQ) ke.ext;have rO:=Sn.aw adK (.inl t3);refine⟨rfl,bO.mk rO (Nat.le_refl 4) (a_ rfl) fun gO OZ=>?_⟩;have OU:=OZ.get rO;have t3':T' b3=0:=(Sn.a b3 (aN adK)).trans t3;exact⟨_,Cell.af OU rfl,_,Cell.af OU rfl,_,Cell.af OU rfl,_,Cell.af OU rfl,k T' fr' xI gO (W0.loc OZ.ext fun i hi=>by subst hi;exact .inl t3') (((bu.no F8).trans Sn).out OZ.ext (by omega))⟩
def UO(s:SA)(t rp rc rg:Int)(key val:List Int)(rn g:Int)(Q:SA->Prop):Prop:=∀(w:Wd)(T:Nat->Nat)(ks vs:Sl)(K:Int->Int->Int->Int->Int->Pw),Sy w T s->aQ w.heap ks key->aQ w.heap vs val->(∀i,ks.aw=some i->T i=0)->(∀i,vs.aw=some i->T i=0)->(∀s' T' w',Sy w' T' s'->Q s'->bu T w T' w'->K rn s.cm g 0 0 w')->fH s.src t rp rc rg 0 ks vs false w K
theorem Qd{t g:Int}{r:fA}{m:Nat}{key val:List Int}(P:Hf s t g r m)(k8:B8 key)(v8:B8 val)(k1:1<=key.length)(kl:key.length<=32)(vl:val.length<=64):UO s t 0 0 0 key val r.1 g (fun s'=>∃fr sl,s'=s.put t g r fr sl (pad (wr 1 0 [⟨key,val,0,.z,.z⟩]))):=
 fun _ _ _ _ _ y hk hv _ _ k=>OY y P hk hv k8 v8 k1 kl vl fun T' fr' xI w' y' s'=>k _ T' w' y' ⟨fr',xI,rfl⟩ s'
end
end Go.Proofs.YtiigcapldngijaaGreat
namespace Go.Proofs.YtiigcapldngijaaGreat
open Go.V Go.V.Dk Go.V.Rn
section
variable {w w':Wd} {T T':Nat->Nat} {s:SA}
theorem O0{x:Sl}{cmp:Value}{K:Pw}(h:x.len<=1)(k:K w):cX x cmp w K:=by
 apply lL;refine Ar.u64 (by omega) (AM (by omega) (by omega) fun r=>?_);apply mj;refine⟨fun _ a b _ _ _ u=>0=a/\(x.len:Int)=b/\w=u,⟨0,rfl,rfl,rfl⟩,?_⟩;rintro _ _ _ _ l b1 b2 _ ⟨rfl,rfl,rfl⟩;refine Ar.i64 (by omega) (If.dec (fun _=>?_) fun h=>by omega);apply iS;refine Ar.i64 (by omega) ⟨fun _ i u=>1=i/\w=u,⟨0,rfl,rfl⟩,?_⟩;rintro _ _ _ _ ⟨rfl,rfl⟩;exact If.dec (fun h=>by omega) fun _=>k
theorem abr:uP pz 9 Value.string:=Wv (by kernel_rfl)
theorem JY:Tryz.prog.underlying 347=some (.map 9 78):=by kernel_rfl
theorem abt(w:Wd):(zeroValue 78).run pz w = .ok (.agg (#[.slice none 0 0,.slice none 0 0,.bool false])) w:=by kernel_rfl
theorem MF{ks vs:Sl}{K:Bool->Pw}(k1:1<=ks.len)(kl:ks.len<=32)(vl:vs.len<=64)(k:∀w',Ext No w w'->K true w'):sx ks vs false w K:=by
 apply I_
 refine fun b w1 n1=>⟨ks,Cell.af n1.get rfl,If.dec (fun _=>⟨ks,Cell.af n1.get rfl,If.dec (fun _=>⟨vs,Cell.af n1.get rfl,If.dec (fun _=>⟨false,Cell.af n1.get rfl,If.no (k w1 n1.ext)⟩) fun h=>by omega⟩) fun h=>by omega⟩) fun h=>by omega⟩
abbrev XB(ks vs:Sl):Value:= .agg (#[ks.v,vs.v,.bool false])
set_option maxHeartbeats 2000000 in
theorem H3{t g rp rc rg rn:Int}{ops ks vs:Sl}{key val:List Int}{Q:SA->Prop}{K:Int->Int->Int->Int->Int->Pw}(y:Sy w T s)(C:UO s t rp rc rg key val rn g Q)(ho:Rd w.heap ops 3 [ks.v,vs.v,Value.bool false])(Kp:ops.len=1)(hk:aQ w.heap ks key)(hv:aQ w.heap vs val)(tk:∀i,ks.aw=some i->T i=0)(tv:∀i,vs.aw=some i->T i=0)(k1:1<=key.length)(kl:key.length<=32)(vl:val.length<=64)
  (k:∀s' T' w',Sy w' T' s'->Q s'->bu T w T' w'->K rn s.cm g 0 0 w'):nP s.src t rp rc rg 0 ops w K:=by
 apply Je
 refine fun b w1 n1 b1 w2 n2=>⟨trivial,If.no fun b2 w4 n4 b3 w5 n5=>aH.mk n5.get Nat.one_pos rfl fun w6 h6=>?_⟩
 have z1:=n1.size;have z2:=n2.size;have z4:=n4.size;have z5:=n5.size;have a1:=n1.at_;have a2:=n2.at_;have a4:=n4.at_;have a5:=n5.at_;have x5:Ext No w w5:=((n1.ext.no n2.ext).no n4.ext).no n5.ext;have x6:Ext No w w6:=x5.out h6.ext (by omega);have zt:=h6.ext;have z6:=h6.size;have g0:w6.heap[b]? = _:=ar (ah (ah (ah n1.get n2.ext) n4.ext) n5.ext) zt (by omega);have g1:w6.heap[b1]? = _:=ar (ah (ah n2.get n4.ext) n5.ext) zt (by omega);have g2:w6.heap[b2]? = _:=ar (ah n4.get n5.ext) zt (by omega);have g3:=h6.get n5.get
 have m6:cY w6.heap Value.string b2 ([]:List (ByteArray×Value)):=⟨#[],0,g2,rfl,cW.nil⟩
 have Cy:=aQ.len hk;have hvl:=aQ.len hv;refine⟨fun n t u=>(n=1/\t=0/\w6=u)∨(n=0/\t=1/\cY u.heap Value.string b2 [(HU key,XB ks vs)]/\Ext (·=b2) w6 u),⟨1,.inl ⟨rfl,rfl,rfl⟩⟩,?_⟩;rintro _ n t7 w7 (⟨rfl,rfl,rfl⟩ | ⟨rfl,rfl,m7,x7⟩)
 .refine If.dec (fun _=>?_) fun h=>absurd (by omega) h
  have ho6:=ho.no x6;refine Ix.elem (f:=fun _:Unit=>[ks.v,vs.v,Value.bool false]) (l:=[()]) (by simpa using ho6) (fun _ _=>rfl) (by decide) (by decide) (by omega) fun b' o' hi Is hc=>?_
  refine⟨ks,hc 0 _ rfl,vs,hc 1 _ rfl,false,hc 2 _ rfl,fx rfl rfl (a_ rfl) fun w9 g9 z9 x9=>?_⟩;refine⟨ks,Cell.af g9 rfl,vs,Cell.af g9 rfl,false,Cell.af g9 rfl,MF (by omega) (by omega) (by omega) fun eK dQ=>If.not (If.yes ?_)⟩;have tU:=ah g9 dQ;have O1:=x9.no dQ;refine⟨some b2,Cell.af (ah g3 O1) rfl,ks,Cell.af tU rfl,mH.mk (Rd.no hk (x6.no O1)) (fun _ _ _ h=>Cell.mk h) ⟨ks,Cell.af tU rfl,vs,Cell.af tU rfl,false,Cell.af tU rfl,?_⟩⟩;obtain⟨eM,Gj,m11,nH,YI⟩:=aG (P:=pz) (a:=HU key) (v:=XB ks vs) abr JY (m6.ext O1 fun h=>h);rw[rI (fun p hp=>by cases hp)]at m11;exact⟨eM,Gj,Ar.i64 (by decide) ⟨0,by decide,.inr ⟨rfl,rfl,m11,O1.az.trans nH fun i _ h=>h⟩⟩⟩
 refine If.dec (fun h=>absurd h (by omega)) fun _=>?_
 have x07:Ext No w w7:=x6.out x7 (by omega);have z7:=x7.size;have VU:=ar g0 x7 (by omega);have Cc:=ar g1 x7 (by omega);have g37:=ar g3 x7 (by omega);refine⟨some b2,Cell.af g37 rfl,?_⟩;apply fZ;refine fun bk w8 n8=>?_
 apply o_;apply rz;refine AU n8.get (m7.ext n8.ext fun h=>h) (Nat.le_refl 1) fun sk w9 o9 x9=>?_
 have ok9:sk.len=1:=by have:=o9.len;simpa[rG] using this.symm
 refine O0 (by omega) ⟨rfl,?_⟩;refine fx rfl rfl (ac4 rfl rfl) fun iB JO z16 uy=>?_
 have RI:Ext No w7 iB:=(n8.ext.no x9).no uy;have XC:=x07.no RI;have y16:=y.no XC;have gg0:=ah VU RI;have gg1:=ah Cc RI;have gg3:=ah g37 RI;have m16:=m7.ext RI fun h=>h
 have o16:=o9.no uy;have zz:=RI.size;have t0:T b=0:=y.out b (by omega);have t1:T b1=0:=y.out b1 (by omega);refine⟨fun n tt u=>(n=1/\tt=0/\iB=u)∨(n=0/\tt=1/\∃T' s',Sy u T' s'/\Q s'/\bu T w T' u/\T' b1=0/\u.heap[b]? = some (.cells [Value.int .u32 rn,.int .u64 s.cm,.int .u16 g,.int .u8 0].toArray 46 (0,0))/\u.heap[b1]? = some (.cells [Value.int .u32 0,.int .u64 0,.int .u16 0,.int .u8 0].toArray 46 (0,0))),⟨1,.inl ⟨rfl,rfl,rfl⟩⟩,?_⟩;rintro _ n t17 pJ (⟨rfl,rfl,rfl⟩ | ⟨rfl,rfl,T17,s7,y17,q17,s17,VW,gb,gb1⟩)
 .refine If.dec (fun _=>?_) fun h=>absurd (by omega) h
  refine Ix.cell o16.rd (by decide) (by omega) fun b' o' v _ hv' hc=>?_
  have ev:v = .string (HU key):=by simpa[rG] using hv'.symm
  subst ev;refine⟨_,hc,_,Cell.af JO rfl,_,Cell.af JO rfl,rp,Cell.af gg0 rfl,rc,Cell.af gg0 rfl,rg,Cell.af gg0 rfl,0,Cell.af gg0 rfl,some b2,Cell.af gg3 rfl,?_⟩;have eH:=fq (P:=pz) (a:=HU key) abr JY (abt iB) m16;have eg:l_ (HU key) [(HU key,XB ks vs)]=some (XB ks vs):=by simp[l_]
  rw[eg]at eH;refine⟨ks,vs,false,iB,eH,C iB T ks vs _ y16 (Rd.no hk XC) (Rd.no hv XC) tk tv fun s' T' AE y19 XD s19=>⟨rfl,?_⟩⟩;have adL:=s19.aw gg0 (.inl t0);have agc:=s19.aw gg1 (.inl t1);refine bO.mk adL (Nat.le_refl 4) (a_ rfl) fun HO Xp=>If.bne (fun h=>absurd rfl h) fun _=>Ar.i64 (by decide) ⟨0,by decide,.inr ⟨rfl,rfl,T',s',?_,XD,?_,?_,Xp.get adL,?_⟩⟩
  .have:=(s19.a b (aN gg0)).trans t0;exact y19.loc Xp.ext fun i hi=>by subst hi;exact .inl this
  .exact((bu.no XC).trans s19).out Xp.ext (by omega)
  .exact(s19.a b1 (aN gg1)).trans t1
  .exact ar agc Xp.ext (by show b1≠b;omega)
 .refine If.dec (fun h=>absurd h (by omega)) fun _=>⟨_,Cell.af gb rfl,_,Cell.af gb rfl,_,Cell.af gb rfl,_,Cell.af gb rfl,rfl,bO.mk gb1 (Nat.le_refl 4) (a_ rfl) fun DT h22=>?_⟩
  have g22:=h22.get gb1;exact⟨_,Cell.af g22 rfl,_,Cell.af g22 rfl,_,Cell.af g22 rfl,_,Cell.af g22 rfl,k s7 T17 DT (y17.loc h22.ext fun i hi=>by subst hi;exact .inl VW) q17 (s17.out h22.ext (by omega))⟩
end
end Go.Proofs.YtiigcapldngijaaGreat
namespace Go.Proofs.YtiigcapldngijaaGreat
open Go.V Go.V.Pk Go.V.Dk Go.V.Rn
section
variable {w w':Wd} {T T':Nat->Nat} {s:SA} {Q:Nat->Prop}
abbrev abu(s:SA)(t:Int):List Value:=[s.src,.int .u32 t,.int .u32 0,.int .u64 0,.int .u16 0,.int .u8 0,.slice none 0 0]
theorem Zs{t:Int}{cb:Nat}{ch:Value}{K:Int->Pw}(g:w.heap[cb]? = some (.cells (abu s t).toArray 379 (0,0)))(k:K 0 w):d_ (some ⟨cb,0,none⟩) ch w K:=by
 apply oX;refine⟨fun u=>w=u,If.no (Nn.mk ⟨s.src,Cell.af g rfl,trivial,If.no rfl⟩),?_⟩;rintro _ _ rfl;exact Nn.mk ⟨0,Cell.af g rfl,0,Cell.af g rfl,0,Cell.af g rfl,0,Cell.af g rfl,If.yes k⟩
theorem adM{t:Int}{cb:Nat}{K:Sl->Sl->Int->Pw}(g:w.heap[cb]? = some (.cells (abu s t).toArray 379 (0,0)))(k:∀w',Ext No w w'->K ⟨none,0,0⟩ ⟨none,0,0⟩ 7 w'):ei (some ⟨cb,0,none⟩) w K:=by
 apply jN
 refine fun b w1 n1=>⟨fun u=>w1=u,If.no (Nn.mk ⟨s.src,Cell.af (ah g n1.ext) rfl,trivial,If.no rfl⟩),?_⟩
 rintro _ _ rfl;have xd:Ext No w1 (ae w1):=(Ext.refl _ _).drew;refine Nn.mk ⟨⟨none,0,0⟩,Cell.af (ah g n1.ext) rfl,fun p u=>⟨none,0,0⟩=p/\ae w1=u,⟨fun t u=>false=t/\ae w1=u,⟨Ext No w1,xd,If.dec (fun h=>absurd h (by decide)) fun _=>⟨rfl,rfl⟩⟩,?_⟩,?_⟩
 .rintro _ _ _ ⟨rfl,rfl⟩;exact If.no ⟨rfl,rfl⟩
 .rintro _ _ _ ⟨rfl,rfl⟩;have gd:=ah n1.get xd;refine If.beq (fun _=>⟨rfl,bO.mk gd (Nat.le_refl 2) (a_ rfl) fun w9 h9=>?_⟩) fun h=>absurd rfl h
  have g9:=h9.get gd;have a1:=n1.at_;exact⟨⟨none,0,0⟩,Cell.af g9 rfl,⟨none,0,0⟩,Cell.af g9 rfl,k w9 ((n1.ext.no xd).out h9.ext (by omega))⟩
theorem agd{t:Int}{cb b0 b1 b2 b3:Nat}{yield:Value}{K:Pw}(g:w.heap[cb]? = some (.cells (abu s t).toArray 379 (0,0)))(g0:w.heap[b0]? = some (.cells [Value.pointer (some ⟨cb,0,none⟩)].toArray 281 (0,0)))(g1:w.heap[b1]? = some (.cells [Value.bool false].toArray 4 (0,0)))(g2:w.heap[b2]? = some (.cells [Value.slice none 0 0].toArray 22 (0,0)))
  (k:∀w',Ext No w w'->K w'):fI yield ⟨b0,0,none⟩ ⟨b1,0,none⟩ ⟨b2,0,none⟩ ⟨b3,0,none⟩ w K:=by
 apply nA;refine⟨some ⟨cb,0,none⟩,Cell.af g0 rfl,fun e st u=>0=e/\ .func (.func 282) #[.pointer (some ⟨cb,0,none⟩)] #[]=st/\Ext No w u,⟨false,Cell.af g1 rfl,If.not (If.no ⟨_,Cell.af g0 rfl,⟨none,0,0⟩,Cell.af g2 rfl,oY fun b w1 n1=>Zs (ah g n1.ext) ⟨rfl,rfl,n1.ext⟩⟩)⟩,?_⟩;rintro _ _ _ w4 ⟨rfl,rfl,x4⟩;refine⟨fun _ e u=>0=e/\w4=u,⟨0,rfl,rfl⟩,?_⟩;rintro _ _ _ _ ⟨rfl,rfl⟩;refine If.beq (fun _=>fun b w6 n6=>jO (adM (ah (ah g x4) n6.ext) fun w7 x7=>⟨rfl,bO.mk (ah n6.get x7) (Nat.le_refl 2) (a_ rfl) fun w8 h8=>If.beq (fun _=>k w8 (((x4.no n6.ext).no x7).out h8.ext ?_)) fun h=>absurd rfl h⟩)) fun h=>absurd rfl h
 have:=n6.at_;have:=x4.size;omega
set_option maxHeartbeats 1000000 in
theorem abv{t:Int}{K:Sl->Int->Pw}(k:∀w',Ext No w w'->K ⟨none,0,0⟩ 0 w'):iw s.src t 0 0 0 0 ⟨none,0,0⟩ ⟨none,0,0⟩ 4611686018427387904 false w K:=by
 apply AT;refine fun b w1 n1 b1 w2 n2 b2 w3 n3 b3 w4 n4=>?_
 have z1:=n1.size;have z2:=n2.size;have z3:=n3.size;have z4:=n4.size;have a2:=n2.at_;have a3:=n3.at_;have a4:=n4.at_;have g0:=ah (ah (ah n1.get n2.ext) n3.ext) n4.ext;have g1:=ah (ah n2.get n3.ext) n4.ext;have g2:=ah n3.get n4.ext;have g3:=n4.get;have x4:Ext No w w4:=((n1.ext.no n2.ext).no n3.ext).no n4.ext;refine⟨0,Cell.af g0 rfl,0,Cell.af g0 rfl,0,Cell.af g0 rfl,0,Cell.af g0 rfl,Cv fun c w5 n5=>⟨trivial,If.no ⟨0,Cell.af n5.get rfl,0,Cell.af n5.get rfl,0,Cell.af n5.get rfl,0,Cell.af n5.get rfl,rfl,fun cb w6 n6=>Zs n6.get (If.bne (fun h=>absurd rfl h) fun _=>If.bne (fun h=>absurd rfl h) fun _=>fun b4 w8 n8=>?_)⟩⟩⟩;have OQ:Ext No w4 w8:=(n5.ext.no n6.ext).no n8.ext;have z5:=n5.size;have z6:=n6.size;have z8:=n8.size;have a8:=n8.at_;refine⟨_,Cell.af (ah g1 OQ) rfl,If.dec (fun h=>absurd h (by decide)) fun _=>qf fun c0 w9 n9 c2 eK ke c3 eM DX c1 gO pK rf dk lp fV qo _=>?_⟩;have z9:=n9.size;have Sq:=ke.size;have YI:=DX.size;have VS:=pK.size;obtain⟨iY,W3,hrf,hdf⟩:=qo.facts;have hlp:lp=gO.heap.size+1:=qo.l;have hdk:dk=gO.heap.size:=qo.d;have xc:Ext No w8 gO:=((n9.ext.no ke.ext).no DX.ext).no pK.ext;have xa:Ext No w8 fV:=xc.no iY;refine nB (agd (ah n6.get (n8.ext.no xa)) (ah n9.get (((ke.ext.no DX.ext).no pK.ext).no iY)) (ah pK.get iY) (ah ke.get ((DX.ext.no pK.ext).no iY)) fun yZ VX=> .inr (.inr ⟨hrf.ext VX fun h=>h,⟨none,0,0⟩,?_⟩));have xp:Ext (·=lp) yZ (bN lp rf .exhausted none yZ):=mr;have zp:(bN lp rf .exhausted none yZ).heap.size=yZ.heap.size:=zB;have abw:=xa.no VX;have z21:=abw.size;have g4p:(bN lp rf .exhausted none yZ).heap[b4]? = _:=ar (ah n8.get abw) xp (by omega);have abx:=OQ.no abw;have g2p:(bN lp rf .exhausted none yZ).heap[b2]? = _:=ar (ah g2 abx) xp (by omega);have g3p:(bN lp rf .exhausted none yZ).heap[b3]? = _:=ar (ah g3 abx) xp (by omega);refine⟨Cell.af g4p rfl,aH.mk g2p Nat.one_pos rfl fun iD H4=>aH.mk (ar g3p H4.ext (by show b3≠b2;omega)) Nat.one_pos rfl fun py OP=>?_⟩;have XE:=H4.get g2p;have age:=ar XE OP.ext (by show b2≠b3;omega);have agf:=OP.get (ar g3p H4.ext (by show b3≠b2;omega));have agh:lE dk py:=(((hdf.ext VX fun h=>h).ext xp (by omega)).ext H4.ext (by show dk≠b2;omega)).ext OP.ext (by show dk≠b3;omega);have xd:Ext (·=dk) py (cP dk py):=vU;refine⟨agh,⟨none,0,0⟩,Cell.af (ar age xd (by omega)) rfl,0,Cell.af (ar agf xd (by omega)) rfl,k _ ?_⟩;exact((((x4.no abx).trans xp fun i hi h=>by omega).trans H4.ext fun i hi h=>by have:i=b2:=h;omega).trans OP.ext fun i hi h=>by have:i=b3:=h;omega).trans xd fun i hi h=>by omega
theorem UP{K:Sl->Int->Pw}(k:∀w',Ext No w w'->K ⟨none,0,0⟩ 0 w'):sh s.src 0 0 0 0 w K:=by
 apply Fe
 refine fun b w1 n1=>⟨0,Cell.af n1.get rfl,0,Cell.af n1.get rfl,0,Cell.af n1.get rfl,0,Cell.af n1.get rfl,abv fun w2 x2=>If.bne (fun h=>absurd rfl h) fun _=>⟨fun _ o t u=>⟨none,0,0⟩=o/\0=t/\w2=u,⟨0,rfl,rfl,rfl⟩,?_⟩⟩
 rintro _ _ _ _ _ ⟨rfl,rfl,rfl⟩;exact If.dec (fun h=>absurd h (by decide)) fun _=>k w2 (n1.ext.no x2)
theorem RJ{t:Int}{K:Sl->Pw}(h:0<=t/\t<=4294967295)(k:∀sl w',aL w'.heap w.heap.size sl (be 4 t)->Ext No w w'->K sl w'):ya t w K:=by
 apply N_;exact Ar.u64 (by omega) (jl h.1 (by decide) (by decide) (by show t < 256 ^ 4;omega) fun sl w1 o1 x1=>k sl w1 o1 x1)
end
end Go.Proofs.YtiigcapldngijaaGreat
namespace Go.V
open Go.V.Pk Go.Proofs.YtiigcapldngijaaGreat
theorem MG(l:List Int):B8 (iF l):=by
 intro x hx;obtain⟨y,hy,hx⟩:=List.mem_flatten.1 hx;obtain⟨z,_,rfl⟩:=List.mem_map.1 hy;exact Ef _ x hx
theorem MH{l:List Int}(h:B8 l):B8 (textB l):=(Ef _).append h
theorem UQ{h:dX}(r:OS h):B8 (lU h):=(Ef _).append ((Ef _).append (MH r.wr))
end Go.V
namespace Go.Proofs.YtiigcapldngijaaGreat
open Go.V Go.V.Pk Go.V.Dk Go.V.Rn
theorem vV{x:jn}(r:Rv x):B8 (fy x):=by
 rw[MD];refine(MG _).append ((MH r.mark).append ((MG _).append fun y hy=>?_));obtain⟨z,hz,hy⟩:=List.mem_flatten.1 hy;obtain⟨h,hh,rfl⟩:=List.mem_map.1 hz;exact UQ (r.held h hh) y hy
section
variable {w w':Wd} {T T':Nat->Nat} {s:SA} {Q:Nat->Prop}
set_option maxHeartbeats 1000000 in
theorem MI{g rp rc rq rn:Int}{v:dN}{x:jn}{QS:SA->Prop}{K:Int->Int->Int->Int->Int->Pw}(y:Sy w T s)(C:UO s 0 rp rc rq (be 4 x.tenant) (fy x) rn g QS)(hx:iE Q w.heap v x)(rg:Rv x)(may:JS x)(hf:(fy x).length<=64)
  (k:∀s' T' w',Sy w' T' s'->QS s'->bu T w T' w'->K rn s.cm g 0 0 w'):pQ s.src rp rc rq 0 v.tenant v.bH v.mark v.root.p v.root.c v.root.g v.lev v.aO v.held w K:=by
 apply LF
 refine fun b w1 n1 b1 w2 n2 b2 w3 n3=>⟨trivial,If.no ?_⟩
 have z1:=n1.size;have z2:=n2.size;have z3:=n3.size;have a1:=n1.at_;have a2:=n2.at_;have a3:=n3.at_;have x3:Ext No w w3:=(n1.ext.no n2.ext).no n3.ext;have g0:=ah (ah n1.get n2.ext) n3.ext;have g1:w3.heap[b1]? = some (.cells v.cells.toArray 100 (0,0)):=ah n2.get n3.ext;have g2:=n3.get;refine⟨v.tenant,Cell.af g1 rfl,v.bH,Cell.af g1 rfl,v.mark,Cell.af g1 rfl,v.root.p,Cell.af g1 rfl,v.root.c,Cell.af g1 rfl,v.root.g,Cell.af g1 rfl,v.lev,Cell.af g1 rfl,v.aO,Cell.af g1 rfl,v.held,Cell.af g1 rfl,?_⟩;refine F3 (hx.no x3) rg (by rcases may.2.2.2.2.2.2.2 with⟨a,h,_⟩ | ⟨a,b,h,_⟩ <;> simp[h]) may fun t5 w5 _ o5 x5=>If.bne (fun h=>absurd rfl h) fun _=>?_
 have nI:=x3.no x5;have y5:=y.no nI;have t0:T b=0:=y.out b (by omega);have t1:T b1=0:=y.out b1 (by omega);have t2:T b2=0:=y.out b2 (by omega);have n0:¬ ((1<=T b/\T b<=12)∨b=b2):=by omega
 have UR:¬ ((1<=T b1/\T b1<=12)∨b1=b2):=by omega
 have h0:=ah g0 x5;have h1:=ah g1 x5;have h2:=ah g2 x5;refine⟨Ext (fun i=>(1<=T i/\T i<=12)∨i=b2) w5,(Ext.refl _ _).drew,rp,aj.aF (Cell.af h0 rfl) n0,rc,aj.aF (Cell.af h0 rfl) n0,rq,aj.aF (Cell.af h0 rfl) n0,0,aj.aF (Cell.af h0 rfl) n0,v.tenant,aj.aF (Cell.af h1 rfl) UR,?_⟩
 refine RJ (by rw[hx.tenant];exact rg.tenant) fun sk w7 o7 x7=>⟨x7.an.az,fun b3 w8 n8=>?_⟩
 have Kq:Ext No w5 w7:=x7.an;have Ss:=Kq.no n8.ext;have y8:=y5.no Ss;refine⟨Ss.az,?_⟩;have ho:Rd w8.heap ⟨some ⟨b3,0,none⟩,1,1⟩ 3 [sk.v,t5.v,Value.bool false]:=(aP.new (n:=1) (sz:=3) n8 rfl (a_ rfl)).rd;rw[hx.tenant]at o7;refine H3 y8 C ho rfl (Rd.no o7.rd n8.ext) (Rd.no o5.rd Ss) (fun i hi=>y.out i (by have h1:w5.heap.size<=i:=(o7.lt hi).1;have:=nI.size;omega)) (fun i hi=>y.out i (by have:=(o5.lt hi).1;have:=x3.size;omega)) (by simp[aK]) (by simp[aK]) hf fun s' T' w9 y9 q9 s9=>?_
 have US:=ah h2 Ss;have RA:Ext (fun i=>(1<=T i/\T i<=12)∨i=b2) w5 w9:=Ss.az.trans s9.x fun i _ h=> .inl h
 have h29:=s9.aw US (.inl t2);refine⟨RA,rfl,bO.mk h29 (Nat.le_refl 4) (a_ rfl) fun eK D2=>⟨RA.trans D2.ext fun i _ h=> .inr h,?_⟩⟩;have tU:=D2.get h29;have t2':=(s9.a b2 (aN US)).trans t2;exact⟨_,Cell.af tU rfl,_,Cell.af tU rfl,_,Cell.af tU rfl,_,Cell.af tU rfl,k s' T' eK (y9.loc D2.ext fun i hi=>by subst hi;exact .inl t2') q9 (((bu.no (nI.no Ss)).trans s9).out D2.ext (by omega))⟩
end
end Go.Proofs.YtiigcapldngijaaGreat
namespace Go.Proofs.YtiigcapldngijaaGreat
open Go.V Go.V.Dk Go.V.Rn
structure VA where
 vb:Nat
 key:Sl
 kl:List Int
 op:Bool
 mp:MP
 al:Nat
 ts:List (Int×Value)
abbrev VA.p(v:VA):Option Addr:=some ⟨v.vb,0,none⟩
abbrev RL(N:Nat)(Qe:Int)(key:Sl)(d g l:Option Addr)(op:Bool)(rb p:Option Addr)(m:MP)(al:Nat):List Value:=[.int .i64 (N:Int),.int .u64 Qe,.slice none 0 0,key.v,.pointer d,.pointer g,.pointer l,.bool op,.pointer rb,.pointer p,.int .u64 m.cm,.int .u32 m.pg,.int .u64 m.rc,.int .u16 m.gn,.int .u8 m.lv,.int .u16 m.rg,.int .u32 m.tn,.map (some al)]
abbrev VA.c(v:VA)(s:SA):List Value:=RL s.N s.R.bG v.key s.d.p s.gB s.lB v.op s.rB s.p v.mp v.al
section
variable {w w':Wd} {T T':Nat->Nat} {s s':SA} {v v':VA} {S:Nat->Prop}
structure gg(w:Wd)(T:Nat->Nat)(v:VA)(s:SA):Prop where
 y:Sy w T s
 b:w.heap[v.vb]? = some (.cells (v.c s).toArray 51 (0,0))
 tb:T v.vb=13
 k:aQ w.heap v.key v.kl
 kt:∀i,v.key.aw=some i->T i=14/\i < w.heap.size
 kB:B8 v.kl
 kn:v.key.len=32
 a:cY w.heap lz v.al v.ts
 ta:T v.al=15
structure iX(T:Nat->Nat)(w:Wd)(T':Nat->Nat)(w':Wd):Prop where
 z:∀i,i < w.heap.size->T i=0->T' i=0
 x:Ext (fun i=>T i≠0) w w'
theorem bu.tw(h:bu T w T' w'):iX T w T' w':=⟨fun i hi h0=>(h.a i hi).trans h0,h.x.mono fun i _ h=>by omega⟩
theorem iX.trans{T1 T2:Nat->Nat}{w1 w2:Wd}(h:iX T w T1 w1)(k:iX T1 w1 T2 w2):iX T w T2 w2:=
 ⟨fun i hi h0=>k.z i (Nat.lt_of_lt_of_le hi h.x.size) (h.z i hi h0),h.x.trans k.x fun i hi hh h0=>hh (h.z i hi h0)⟩
theorem iX.no(x:Ext No w w'):iX T w T w':=⟨fun _ _ h=>h,x.az⟩
theorem iX.nx{T1:Nat->Nat}{w1:Wd}(h:iX T w T1 w1)(k:Ext No w1 w'):iX T w T1 w':=h.trans (.no k)
theorem iX.aw{o:Obj}{b:Nat}(h:iX T w T' w')(hb:w.heap[b]? = some o)(ht:T b=0):w'.heap[b]? = some o:=(h.x.aw b (aN hb) fun hh=>hh ht).trans hb
theorem iX.out{w1:Wd}{b:Nat}(h:iX T w T' w1)(x:Ext (·=b) w1 w')(hb:w.heap.size<=b):iX T w T' w':=⟨h.z,h.x.trans x fun i hi e=>by subst e;omega⟩
theorem iX.one{b:Nat}(x:Ext (·=b) w w')(hb:T b≠0):iX T w T w':=⟨fun _ _ h=>h,x.mono fun i _ h=>by subst h;exact hb⟩
theorem gg.sy(V:gg w T v s)(st:bu T w T' w')(y':Sy w' T' s')(hd:s'.R.dev=s.R.dev)(hg:s'.g.rb=s.g.rb)(hl:s'.lb=s.lb)(hr:s'.rb=s.rb)(hp:s'.pb=s.pb)(hN:s'.N=s.N:=by rfl)(hL:s'.R.bG=s.R.bG:=by rfl):gg w' T' v s':=by
 have hv:v.c s'=v.c s:=by
  have e1:s'.d.p=s.d.p:=by rw[<- y'.rg.d,<- V.y.rg.d,hd]
  show RL s'.N s'.R.bG v.key s'.d.p (some ⟨s'.g.rb,0,none⟩) (some ⟨s'.lb,0,none⟩) v.op (some ⟨s'.rb,0,none⟩) (some ⟨s'.pb,0,none⟩) v.mp v.al=_;rw[e1,hg,hl,hr,hp,hN,hL]
 refine⟨y',?_,(st.a _ (aN V.b)).trans V.tb,V.k.ext st.x fun p b hp hb hh=>?_,fun i hi=>⟨(st.a i (V.kt i hi).2).trans (V.kt i hi).1,Nat.lt_of_lt_of_le (V.kt i hi).2 st.x.size⟩,V.kB,V.kn,V.a.ext st.x fun h=>by have:=V.ta;omega,(st.a _ (map_lt V.a)).trans V.ta⟩
 .rw[hv];exact st.aw V.b (.inr (by rw[V.tb];decide))
 .have:=(V.kt b (by simp[Sl.aw,hp,hb])).1;omega
theorem gg.no(V:gg w T v s)(x:Ext No w w'):gg w' T v s:=V.sy (.no x) (V.y.no x) rfl rfl rfl rfl rfl
theorem gg.loc(V:gg w T v s)(x:Ext S w w')(h:∀i,S i->T i=0∨16<=T i):gg w' T v s:=by
 have hn:∀i,13<=T i->T i<=15->¬ S i:=fun i h1 h2 hi=>by have:=h i hi;omega
 exact⟨V.y.loc x fun i hi=>by have:=h i hi;omega,(x.aw _ (aN V.b) (hn _ (by rw[V.tb];decide) (by rw[V.tb];decide))).trans V.b,V.tb,V.k.ext x fun p b hp hb=>hn b (by rw[(V.kt b (by simp[Sl.aw,hp,hb])).1];decide) (by rw[(V.kt b (by simp[Sl.aw,hp,hb])).1];decide),fun i hi=>⟨(V.kt i hi).1,Nat.lt_of_lt_of_le (V.kt i hi).2 x.size⟩,V.kB,V.kn,V.a.ext x (hn _ (by rw[V.ta];decide) (by rw[V.ta];decide)),V.ta⟩
theorem gg.put(V:gg w T v s){op:Bool}{mp:MP}(r:w'.heap[v.vb]? = some (.cells (({ v with op:=op,mp:=mp }:VA).c s).toArray 51 (0,0)))(x:Ext (·=v.vb) w w'):gg w' T { v with op:=op,mp:=mp } s:=by
 have tb:=V.tb;exact⟨V.y.loc x fun i hi=>by rw[hi,tb];exact .inr (Nat.le_refl _),r,tb,V.k.ext x fun p b hp hb e=>by have:=(V.kt b (by simp[Sl.aw,hp,hb])).1;rw[e,tb]at this;exact absurd this (by decide),fun i hi=>⟨(V.kt i hi).1,Nat.lt_of_lt_of_le (V.kt i hi).2 x.size⟩,V.kB,V.kn,V.a.ext x fun e=>by have:=V.ta;rw[e,tb]at this;exact absurd this (by decide),V.ta⟩
theorem gg.ten(V:gg w T v s){ts:List (Int×Value)}(r:cY w'.heap lz v.al ts)(x:Ext (·=v.al) w w'):gg w' T { v with ts:=ts } s:=by
 have ta:=V.ta;exact⟨V.y.loc x fun i hi=>by rw[hi,ta];exact .inr (by decide),(x.aw _ (aN V.b) fun e=>by have:=V.tb;rw[e,ta]at this;exact absurd this (by decide)).trans V.b,V.tb,V.k.ext x fun p b hp hb e=>by have:=(V.kt b (by simp[Sl.aw,hp,hb])).1;rw[e,ta]at this;exact absurd this (by decide),fun i hi=>⟨(V.kt i hi).1,Nat.lt_of_lt_of_le (V.kt i hi).2 x.size⟩,V.kB,V.kn,r,ta⟩
theorem Qf{m:MP}{K:Int->Int->Int->Int->Int->Int->Int->Pw}(k:∀w',Ext No w w'->K m.cm m.pg m.rc m.gn m.lv m.rg m.tn w'):eE m.cm m.pg m.rc m.gn m.lv m.rg m.tn 0 w K:=by
 apply pG;refine fun b w1 n1 b1 w2 n2=>dU ?_
 have g1:=ah n1.get n2.ext;refine⟨_,Cell.af g1 rfl,_,Cell.af g1 rfl,_,Cell.af g1 rfl,_,Cell.af g1 rfl,_,Cell.af g1 rfl,_,Cell.af g1 rfl,_,Cell.af g1 rfl,rfl,bO.mk n2.get (Nat.le_refl 7) (a_ rfl) fun w3 h3=>?_⟩;have g3:=h3.get n2.get;have a2:=n2.at_;have z1:=n1.size;exact⟨_,Cell.af g3 rfl,_,Cell.af g3 rfl,_,Cell.af g3 rfl,_,Cell.af g3 rfl,_,Cell.af g3 rfl,_,Cell.af g3 rfl,_,Cell.af g3 rfl,k w3 ((n1.ext.no n2.ext).out h3.ext (by omega))⟩
theorem Cg{p c g l:Int}{K:Int->Int->Int->Int->Pw}(k:∀w',Ext No w w'->K p c g l w'):db p c g l 0 w K:=by
 apply um;refine fun b w1 n1 b1 w2 n2=>dU ?_
 have g1:=ah n1.get n2.ext;refine⟨_,Cell.af g1 rfl,_,Cell.af g1 rfl,_,Cell.af g1 rfl,_,Cell.af g1 rfl,rfl,bO.mk n2.get (Nat.le_refl 4) (a_ rfl) fun w3 h3=>?_⟩;have g3:=h3.get n2.get;have a2:=n2.at_;have z1:=n1.size;exact⟨_,Cell.af g3 rfl,_,Cell.af g3 rfl,_,Cell.af g3 rfl,_,Cell.af g3 rfl,k w3 ((n1.ext.no n2.ext).out h3.ext (by omega))⟩
theorem RM{g c:Int}{x:Sl}{K:Int->Int->Sl->Pw}(k:∀w',Ext No w w'->K g c x w'):gZ g c x 0 w K:=by
 apply uo;refine fun b w1 n1 b1 w2 n2=>dU ?_
 have g1:=ah n1.get n2.ext;refine⟨_,Cell.af g1 rfl,_,Cell.af g1 rfl,x,Cell.af g1 rfl,rfl,bO.mk n2.get (Nat.le_refl 3) (a_ rfl) fun w3 h3=>?_⟩;have g3:=h3.get n2.get;have a2:=n2.at_;have z1:=n1.size;exact⟨_,Cell.af g3 rfl,_,Cell.af g3 rfl,x,Cell.af g3 rfl,k w3 ((n1.ext.no n2.ext).out h3.ext (by omega))⟩
theorem AX{K:Pw}{vv ev:Option Addr}(k:K w):xS pz 37 #[.pointer vv,.pointer ev] K w:=
 zf ⟨trivial,If.yes k⟩
end
end Go.Proofs.YtiigcapldngijaaGreat
namespace Go.Proofs.YtiigcapldngijaaGreat
open Go.V Go.V.Dk Go.V.Rn
section
variable {w w':Wd} {T T':Nat->Nat} {S:Nat->Prop} {N:Nat} {vb:Nat} {key:Sl} {kl:List Int} {d:tQ} {D:DS} {g:DY} {R:RS} {rb mb:Nat} {ks:List RK} {lb:Nat} {ls:Sl} {L:List LE} {al:Nat} {op:Bool} {m:MP}
structure uA(w:Wd)(T:Nat->Nat)(N:Nat)(vb:Nat)(key:Sl)(kl:List Int)(d:tQ)(D:DS)(g:DY)(R:RS)(rb mb:Nat)(ks:List RK)(lb:Nat)(ls:Sl)(L:List LE)(al:Nat)(op:Bool)(m:MP):Prop where
 dk:Y0 w T N d D
 rg:Y1 w T d g R
 rn:Y2 w T rb mb ks
 lg:LgC w T lb ls L
 out:∀i,w.heap.size<=i->T i=0
 b:w.heap[vb]? = some (.cells (RL N R.bG key d.p g.p (some ⟨lb,0,none⟩) op (some ⟨rb,0,none⟩) none m al).toArray 51 (0,0))
 tb:T vb=13
 k:aQ w.heap key kl
 kt:∀i,key.aw=some i->T i=14/\i < w.heap.size
 kB:B8 kl
 kn:key.len=32
 a:cY w.heap lz al ([]:List (Int×Value))
 ta:T al=15
theorem uA.no(P:uA w T N vb key kl d D g R rb mb ks lb ls L al op m)(x:Ext No w w'):uA w' T N vb key kl d D g R rb mb ks lb ls L al op m:=by
 have a:Ag T T w.heap.size:=fun _ _=>rfl
 have f:∀(k i:Nat),T i=k->¬ No i:=fun _ _ _ h=>h
 exact⟨P.dk.aJ x a (f 1),P.rg.aJ x a (f 2),P.rn.aJ x a (f 3),P.lg.aJ x a (f 4),fun i hi=>P.out i (Nat.le_trans x.size hi),ah P.b x,P.tb,Rd.no P.k x,fun i hi=>⟨(P.kt i hi).1,Nat.lt_of_lt_of_le (P.kt i hi).2 x.size⟩,P.kB,P.kn,P.a.ext x fun h=>h,P.ta⟩
theorem uA.put(P:uA w T N vb key kl d D g R rb mb ks lb ls L al op m){op':Bool}{m':MP}(r:w'.heap[vb]? = some (.cells (RL N R.bG key d.p g.p (some ⟨lb,0,none⟩) op' (some ⟨rb,0,none⟩) none m' al).toArray 51 (0,0)))(x:Ext (·=vb) w w'):uA w' T N vb key kl d D g R rb mb ks lb ls L al op' m':=by
 have a:Ag T T w.heap.size:=fun _ _=>rfl
 have tb:=P.tb;have f:∀(k:Nat),k≠13->∀i,T i=k->¬ (i=vb):=fun k hk i h e=>by subst e;exact hk (h.symm.trans tb)
 exact⟨P.dk.aJ x a (f 1 (by decide)),P.rg.aJ x a (f 2 (by decide)),P.rn.aJ x a (f 3 (by decide)),P.lg.aJ x a (f 4 (by decide)),fun i hi=>P.out i (Nat.le_trans x.size hi),r,P.tb,P.k.ext x fun p b hp hb e=>f 14 (by decide) b (P.kt b (by simp[Sl.aw,hp,hb])).1 e,fun i hi=>⟨(P.kt i hi).1,Nat.lt_of_lt_of_le (P.kt i hi).2 x.size⟩,P.kB,P.kn,P.a.ext x (f 15 (by decide) _ P.ta),P.ta⟩
theorem uA.ring{k:RK}(P:uA w T N vb key kl d D g R rb mb ks lb ls L al op m)(r:kh w' rb mb (ks++[k]))(hk:∀i,k.s.aw=some i->w.heap.size<=i)(x:Ext (·=mb) w w')(hn:ks.length < 100):uA w' (fY T w.heap.size w'.heap.size 3) N vb key kl d D g R rb mb (ks++[k]) lb ls L al op m:=by
 have a:=aY T w.heap.size w'.heap.size 3;have c:=P.rn;have f:∀(k:Nat),k≠3->∀i,T i=k->¬ (i=mb):=fun k hk i h e=>by subst e;exact hk (h.symm.trans c.t2)
 refine⟨P.dk.aJ x a (f 1 (by decide)),P.rg.aJ x a (f 2 (by decide)),⟨r,(a _ (aN c.r.aw)).trans c.t,(a _ (map_lt c.r.map)).trans c.t2,fun q hq i hi=>?_,by simp;omega⟩,P.lg.aJ x a (f 4 (by decide)),mE _ _ _ _ x.size,(x.aw _ (aN P.b) (f 13 (by decide) _ P.tb)).trans P.b,(a _ (aN P.b)).trans P.tb,P.k.ext x fun p b hp hb e=>f 14 (by decide) b (P.kt b (by simp[Sl.aw,hp,hb])).1 e,fun i hi=>⟨(a i (P.kt i hi).2).trans (P.kt i hi).1,Nat.lt_of_lt_of_le (P.kt i hi).2 x.size⟩,P.kB,P.kn,P.a.ext x (f 15 (by decide) _ P.ta),(a _ (map_lt P.a)).trans P.ta⟩;rcases List.mem_append.1 hq with h | h
 .exact(a i (c.r.klt h hi)).trans (c.t3 q h i hi)
 .simp only[List.mem_singleton]at h;subst h;exact bT T (hk i hi) (r.klt (List.mem_append.2 (.inr (List.mem_singleton.2 rfl))) hi)
abbrev Sz:MP:=⟨0,0,0,0,0,0,0⟩
abbrev JZ:MP:=⟨0,0,0,0,0,1,0⟩
set_option maxHeartbeats 4000000 in
theorem MJ{K:Int->Pw}(dk:Y0 w T N d D)(rg:Y1 w T d g R)(lg:LgC w T lb ls L)(out:∀i,w.heap.size<=i->T i=0)
  (hb:w.heap[vb]? = some (.cells [.int .i64 (N:Int),.int .u64 R.bG,.slice none 0 0,key.v,.pointer d.p,.pointer g.p,.pointer (some ⟨lb,0,none⟩),.bool false,.pointer none,.pointer none,.int .u64 0,.int .u32 0,.int .u64 0,.int .u16 0,.int .u8 0,.int .u16 0,.int .u32 0,.map none].toArray 51 (0,0)))
  (tb:T vb=13) (hk:aQ w.heap key kl) (kt:∀i,key.aw=some i->T i=14/\i < w.heap.size) (kB:B8 kl) (kn:key.len=32) (hz:∀i:Nat,i < N->D.now.getD i []=bB) (hR:R.bg=0)
  (k:∀T' s q kq al w',gg w' T' ⟨vb,key,kl,true,JZ,al,[]⟩ s->s.D=D->s.R=R->s.ks=[⟨⟨0,1⟩,q,kq⟩]->kq=lf kl 1 1->s.L=L->s.F=fF (N - 2)->s.N=N->s.ps=[]->s.cm=0->s.la=0->s.wl=[]->iX T w T' w'->K 0 w'):dv (some ⟨vb,0,none⟩) false w K:=by
 apply mV;refine fun b w1 n1=>AL fun rb mb w2 R2 hrb YR x2 al w3 n3=>?_
 have a1:=n1.at_;have z1:=n1.size;have a3:=n3.at_;have z3:=n3.size;have z2:=x2.size;have iC:Ext No w w3:=(n1.ext.no x2).no n3.ext
 obtain⟨T3,hT⟩ : ∃T3,T3=fY (fY T w1.heap.size w2.heap.size 3) w2.heap.size w3.heap.size 15:=⟨_,rfl⟩
 have ag1:Ag T T3 w1.heap.size:=fun i hi=>by rw[hT,aY _ _ _ _ i (by omega),aY _ _ _ _ i hi]
 have ag:Ag T T3 w.heap.size:=fun i hi=>ag1 i (by omega)
 have w_:=ah hb iC;have lvb:=aN hb;have UT:T3 vb=13:=(ag vb lvb).trans tb;have tal:T3 al=15:=by rw[hT];exact bT _ (by omega) (by omega)
 have t3:∀i,w1.heap.size<=i->i < w2.heap.size->T3 i=3:=fun i h1 h2=>by rw[hT,aY _ _ _ _ i h2];exact bT _ h1 h2
 have f:∀(k i:Nat),T i=k->¬ No i:=fun _ _ _ h=>h
 refine Nn.mk (aH.mk w_ (Nat.le_of_ble_eq_true rfl) rfl fun w4 h4=>?_);have g4:=h4.get w_;refine Nn.mk (aH.mk g4 (Nat.le_of_ble_eq_true rfl) rfl fun w5 h5=>?_);have g5:=h5.get g4;refine Nn.mk (aH.mk g5 (Nat.le_of_ble_eq_true rfl) rfl fun w6 h6=>?_);have g6:=h6.get g5;refine Nn.mk (aH.mk g6 (Nat.le_of_ble_eq_true rfl) rfl fun w7 h7=>?_);have g7:w7.heap[vb]? = some (.cells (RL N R.bG key d.p g.p (some ⟨lb,0,none⟩) false (some ⟨rb,0,none⟩) none Sz al).toArray 51 (0,0)):=h7.get g6;have El:Ext (·=vb) w3 w7:=((h4.ext.trans h5.ext fun i _ e=>e).trans h6.ext fun i _ e=>e).trans h7.ext fun i _ e=>e
 have f3:∀(k:Nat),k≠13->∀i,T3 i=k->¬ (i=vb):=fun k hk i h e=>by subst e;exact hk (h.symm.trans UT)
 have XF:Ag T3 T3 w3.heap.size:=fun _ _=>rfl
 have P7:uA w7 T3 N vb key kl d D g R rb mb [] lb ls L al false Sz:=
  ⟨(dk.aJ iC ag (f 1)).aJ El XF (f3 1 (by decide)),(rg.aJ iC ag (f 2)).aJ El XF (f3 2 (by decide)),
   Y2.aJ ⟨R2.no n3.ext,t3 _ hrb (aN R2.aw),t3 _ YR (map_lt R2.map),fun q h=>(nomatch h),Nat.zero_le _⟩ El XF (f3 3 (by decide)),(lg.aJ iC ag (f 4)).aJ El XF (f3 4 (by decide)),
   fun i hi=>by rw[hT];exact mE _ _ _ _ (by omega) i (Nat.le_trans El.size hi),g7,UT,(Rd.no hk iC).ext El fun p c hp hc e=>f3 14 (by decide) c ((ag c (kt c (by simp[Sl.aw,hp,hc])).2).trans (kt c (by simp[Sl.aw,hp,hc])).1) e,
   fun i hi=>⟨(ag i (kt i hi).2).trans (kt i hi).1,by have:=(kt i hi).2;have:=iC.size;have:=El.size;omega⟩,kB,kn,(⟨#[],0,ar n3.get El (f3 15 (by decide) _ tal),rfl,cW.nil⟩ : cY w7.heap lz al ([]:List (Int×Value))),tal⟩
 have J6:T3 b=0:=(ag1 b (by omega)).trans (out b (by omega));have gb7:w7.heap[b]? = some (.cells [Value.int .i64 0].toArray 25 (0,0)):=ar (ah n1.get (x2.no n3.ext)) El (by omega)
 have s7:iX T w T3 w7:=(⟨fun i hi h=>(ag i hi).trans h,(iC.az.trans El fun i hi e=>by rw[e,tb];decide)⟩ : iX T w T3 w7)
 refine⟨fun u=>w7=u,If.no rfl,?_⟩;rintro _ _ rfl;refine⟨fun n t u=>∃j:Nat,t=(j:Int)/\j<=2/\n=2 - j/\Ext No w7 u,⟨_,0,rfl,Nat.zero_le _,rfl,Ext.refl _ _⟩,?_⟩;rintro _ n t eM ⟨j,rfl,hj,rfl,nH⟩;have Gn:=P7.no nH;have hN:=Gn.dk.c.nN;refine If.dec (fun h=>?_) fun h=>?_
 .refine Nn.mk ⟨d.p,Cell.af Gn.b rfl,jm Gn.dk.r (fun hh=>by rw[Gn.dk.c.has (by omega)]at hh;cases hh) (fun _ hh=>by rw[Gn.dk.c.down]at hh;cases hh) fun _ _ s5 gO o5 x5=>eO ?_⟩;have ez:D.now.getD ((j:Int)).toNat []=bB:=hz _ (by omega);rw[ez]at o5;refine Ot o5.rd ⟨fun t u=>false=t/\gO=u,If.beq (fun h=>absurd h (by decide)) fun _=>⟨rfl,rfl⟩,?_⟩;rintro _ _ _ ⟨rfl,rfl⟩;exact If.no (Ar.i64 (by omega) ⟨2 - (j+1),by omega,j+1,by push_cast;omega,by omega,rfl,nH.no x5⟩)
 have xd:Ext No eM (ae eM):=(Ext.refl _ _).drew;have P12:=Gn.no xd;refine⟨Ext No eM,xd,Nn.mk ⟨d.p,aj.aF (Cell.af Gn.b rfl) (fun h=>h),Nn.mk ⟨g.p,aj.aF (Cell.af Gn.b rfl) (fun h=>h),Nn.mk ⟨some ⟨rb,0,none⟩,aj.aF (Cell.af Gn.b rfl) (fun h=>h),?_⟩⟩⟩⟩
 refine Mg P12.rg.r hR fun DT Si=>⟨Si.an,Qf (m:=Sz) fun Jm DU=>⟨Si.an.no DU,Nn.mk ⟨rfl,?_⟩⟩⟩
 have H5:=Si.an.no DU;have Zt:=Gn.no H5;refine bO.mk Zt.b (Nat.le_of_ble_eq_true rfl) (a_ rfl) fun iD H4=>?_
 have XG:=Zt.put (op':=false) (m':=Sz) (H4.get Zt.b) H4.ext;refine⟨fun u=>uA u T3 N vb key kl d D g R rb mb [] lb ls L al false JZ/\iX T w T3 u/\u.heap[b]? = some (.cells [Value.int .i64 0].toArray 25 (0,0)),Nn.mk ⟨0,Cell.af XG.b rfl,If.beq (fun _=>Nn.mk (aH.mk XG.b (Nat.le_of_ble_eq_true rfl) rfl fun py OP=>?_)) fun h=>absurd rfl h⟩,?_⟩
 .have mq:Ext (·=vb) Jm iD:=H4.ext;have kv:Ext (·=vb) iD py:=OP.ext;have nz:T3 vb≠0:=by rw[UT];decide
  exact⟨XG.put (op':=false) (m':=JZ) (OP.get XG.b) OP.ext,(((s7.nx nH).nx H5).trans (iX.one mq nz)).trans (iX.one kv nz),ar (ar (ah (ah gb7 nH) H5) mq (by omega)) kv (by omega)⟩
 rintro _ Hd ⟨P26,s26,agi⟩;refine Nn.mk ⟨some ⟨rb,0,none⟩,Cell.af P26.b rfl,km P26.rn.r (Nat.zero_le _) (Nat.zero_le _) fun s27 xi o27 J7=>?_⟩;have e27:s27.len=0:=by have:=o27.len;simpa using this.symm
 have Zu:=P26.no J7;refine⟨fun _ t u=>0=t/\xi=u,⟨0,rfl,rfl⟩,?_⟩;rintro _ _ _ _ ⟨rfl,rfl⟩;refine If.dec (fun h=>by omega) fun _=>?_
 refine⟨fun u=>∃T6 q kq,kq=lf kl 1 1/\uA u T6 N vb key kl d D g R rb mb [⟨⟨0,1⟩,q,kq⟩] lb ls L al false JZ/\iX T w T6 u/\T6 b=0/\u.heap[b]? = some (.cells [Value.int .i64 0].toArray 25 (0,0)),?_,?_⟩
 .refine Nn.mk ⟨some ⟨rb,0,none⟩,Cell.af Zu.b rfl,km Zu.rn.r (Nat.zero_le _) (Nat.zero_le _) fun s28 FX o28 J8=>?_⟩;have e28:s28.len=0:=by have:=o28.len;simpa using this.symm
  have Zv:=Zu.no J8;have nb:¬ (vb=mb):=fun e=>by have h1:=Zv.rn.t2;have h2:=Zv.tb;rw[e,h1]at h2;exact absurd h2 (by decide)
  have xd:Ext No FX (ae FX):=(Ext.refl _ _).drew;have P29:=Zv.no xd;refine If.beq (fun _=>?_) fun h=>by omega
  refine⟨Ext (·=mb) FX,xd.az,Nn.mk ⟨some ⟨rb,0,none⟩,aj.aF (Cell.af Zv.b rfl) nb,Nn.mk ⟨1,aj.aF (Cell.af Zv.b rfl) nb,Nn.mk ⟨key,aj.aF (Cell.af Zv.b rfl) nb,Nn.mk ⟨1,aj.aF (Cell.af Zv.b rfl) nb,?_⟩⟩⟩⟩⟩;refine HQ P29.k kB kn fun s30 CN o30 Zn=>?_
  obtain⟨kq,TD⟩ : ∃kq,kq=lf kl 1 1:=⟨_,rfl⟩
  rw[<- TD]at o30;have Cy:kq.length=32:=by rw[TD];exact jR kB Sf
  have jj:B8 kq:=by rw[TD];exact gV kB Sf
  refine⟨Zn.an.az,eO ⟨Zn.an.az,?_⟩⟩;have Qg:Ext No FX CN:=Zn.an;have Zw:=Zv.no Qg;refine og Zw.rn.r rfl o30.rd jj (.inr (by rw[aL.len o30];exact Cy)) fun q Nf R31 hq P8=>?_
  have xx:Ext (·=mb) FX Nf:=Qg.az.trans P8 fun i _ e=>e
  have adN:=ah agi ((J7.no J8).no Qg);refine⟨xx,dU ⟨xx,fY T3 CN.heap.size Nf.heap.size 3,q,kq,TD,Zw.ring (k:=⟨⟨0,1⟩,q,kq⟩) R31 hq P8 (by decide),?_,(aY _ _ _ _ b (aN adN)).trans J6,ar adN P8 fun e=>?_⟩⟩
  .have st:iX T3 CN (fY T3 CN.heap.size Nf.heap.size 3) Nf:=⟨fun i hi h=>(aY _ _ _ _ i hi).trans h,P8.mono fun i _ e=>by rw[e,Zw.rn.t2];decide⟩
   exact(((s26.nx J7).nx J8).nx Qg).trans st
  .have:=Zw.rn.t2;rw[<- e,J6]at this;exact absurd this (by decide)
 rintro _ Ro ⟨T6,q,kq,Cy,nJ,s36,Zx,adO⟩;have O2:Ext No Ro (ae Ro):=(Ext.refl _ _).drew;have J9:=nJ.no O2;have Ju:¬ (1<=T6 vb/\T6 vb<=12):=by rw[nJ.tb];decide
 refine⟨Ext (fun i=>1<=T6 i/\T6 i<=12) Ro,O2.az,Nn.mk ⟨d.p,aj.aF (Cell.af nJ.b rfl) Ju,Nn.mk ⟨some ⟨rb,0,none⟩,aj.aF (Cell.af nJ.b rfl) Ju,Nn.mk ⟨some ⟨lb,0,none⟩,aj.aF (Cell.af nJ.b rfl) Ju,?_⟩⟩⟩⟩
 refine xH J9.dk J9.rg J9.rn J9.lg fun T7 s Xk y37 e1 e2 e3 e4 e5 e6 e7 e8 e9 e10 XH UU e13 e14 ew eN e15 e16 e17 s37=>⟨O2.az.trans s37.x fun i _ h=>h,FL ⟨O2.az.trans s37.x fun i _ h=>h,?_⟩⟩
 have lI:bu T6 Ro T7 Xk:=(bu.no O2).trans s37;have b37:=lI.aw nJ.b (.inr (by rw[nJ.tb];decide));have VY:T7 vb=13:=(lI.a vb (aN nJ.b)).trans nJ.tb;refine Nn.mk (aH.mk b37 (Nat.le_of_ble_eq_true rfl) rfl fun tX h39=>?_);have Mz:Ext (·=vb) Xk tX:=h39.ext;have b39:=h39.get b37
 have Nh:gg tX T7 ⟨vb,key,kl,false,JZ,al,[]⟩ s:=by
  refine⟨y37.loc Mz fun i hi=>by rw[hi,VY];exact .inr (Nat.le_refl _),?_,VY,(nJ.k.ext lI.x fun p c hp hc hh=>?_).ext Mz fun p c hp hc e=>?_,fun i hi=>⟨(lI.a i (nJ.kt i hi).2).trans (nJ.kt i hi).1,?_⟩,nJ.kB,nJ.kn,(nJ.a.ext lI.x fun hh=>?_).ext Mz fun e=>?_,(lI.a _ (map_lt nJ.a)).trans nJ.ta⟩
  .have hv:(⟨vb,key,kl,false,JZ,al,[]⟩ : VA).c s=RL N R.bG key d.p g.p (some ⟨lb,0,none⟩) false (some ⟨rb,0,none⟩) s.p JZ al:=by
    show RL s.N s.R.bG key s.d.p (some ⟨s.g.rb,0,none⟩) (some ⟨s.lb,0,none⟩) false (some ⟨s.rb,0,none⟩) s.p JZ al=_;rw[e1,e3,e8,e5,eN,e4]
   rw[hv];exact b39
  .have:=(nJ.kt c (by simp[Sl.aw,hp,hc])).1;omega
  .have:=(nJ.kt c (by simp[Sl.aw,hp,hc])).1;have h2:=nJ.tb;rw[e]at this;omega
  .have:=(nJ.kt i hi).2;have:=lI.x.size;have:=Mz.size;omega
  .have:=nJ.ta;omega
  .have:=nJ.ta;have h2:=nJ.tb;rw[e]at this;omega
 have adP:tX.heap[b]? = some (.cells [Value.int .i64 0].toArray 25 (0,0)):=ar (lI.aw adO (.inl Zx)) Mz fun e=>by have:=nJ.tb;rw[<- e,Zx]at this;exact absurd this (by decide)
 have adQ:T7 b=0:=(lI.a b (aN adO)).trans Zx;have s39:iX T w T7 tX:=(s36.trans lI.tw).trans (iX.one Mz (by rw[VY];decide));have UW:Ext No tX (ae tX):=(Ext.refl _ _).drew;refine⟨Ext No tX,UW,Nn.mk ⟨s.p,aj.aF (Cell.af Nh.b rfl) (fun h=>h),Nn.mk ⟨0,aj.aF (Cell.af Nh.b rfl) (fun h=>h),0,aj.aF (Cell.af Nh.b rfl) (fun h=>h),0,aj.aF (Cell.af Nh.b rfl) (fun h=>h),0,aj.aF (Cell.af Nh.b rfl) (fun h=>h),?_⟩⟩⟩
 refine Xr fun Cb x40=>⟨x40.an,zm ⟨x40.an,?_⟩⟩
 have Zy:=x40.an;have Qh:=Nh.no Zy;refine⟨Ext No Cb,(Ext.refl _ _).drew,Nn.mk ⟨s.p,aj.aF (Cell.af Qh.b rfl) (fun h=>h),Nn.mk ⟨0,aj.aF (Cell.af Qh.b rfl) (fun h=>h),0,aj.aF (Cell.af Qh.b rfl) (fun h=>h),0,aj.aF (Cell.af Qh.b rfl) (fun h=>h),0,aj.aF (Cell.af Qh.b rfl) (fun h=>h),?_⟩⟩⟩
 refine UP fun Ba x42=>⟨x42.an,HT ⟨x42.an,?_⟩⟩
 have Zz:=Zy.no x42.an;have SB:=Nh.no Zz;refine⟨fun u=>Ba=u,Nn.mk ⟨0,Cell.af SB.b rfl,Ar.i64 (by decide) (If.bne (fun h=>absurd rfl h) fun _=>rfl)⟩,?_⟩;rintro _ _ rfl;have UX:Ext No Ba (ae Ba):=(Ext.refl _ _).drew;refine⟨Ext No Ba,UX,Nn.mk ⟨some ⟨s.rb,0,none⟩,aj.aF (Cell.af SB.b rfl) (fun h=>h),Nn.mk ⟨1,aj.aF (Cell.af SB.b rfl) (fun h=>h),?_⟩⟩⟩
 refine gM (q:=⟨⟨0,1⟩,q,kq⟩) (SB.no UX).y.rn.r (by rw[e7];rfl) fun s45 Xn o45 OB=>⟨OB.an,eO ⟨OB.an,?_⟩⟩
 have ZA:=Zz.no OB.an;have V45:=Nh.no ZA;refine⟨fun _ r t u=>⟨none,0,0⟩=r/\0=t/\Xn=u,⟨0,rfl,rfl,rfl⟩,?_⟩;rintro _ _ _ _ _ ⟨rfl,rfl,rfl⟩;refine If.dec (fun h=>absurd h (by decide)) fun _=>?_
 refine xO.mk (by decide) (by decide) (by decide) (by decide) fun b9 w46 n46=>?_
 have V46:=V45.no n46.ext;refine⟨fun _ t u=>0=t/\w46=u,⟨0,rfl,rfl⟩,?_⟩;rintro _ _ _ _ ⟨rfl,rfl⟩;refine If.dec (fun h=>absurd h (by decide)) fun _=>Nn.mk ⟨s.p,Cell.af V46.b rfl,?_⟩
 refine OD V46.y e15 UU (by rw[e2,eN];exact hz) fun T8 fr8 wb8 w73 y73 s73=>dU ?_
 have VZ:=V46.sy s73 y73 rfl rfl rfl rfl rfl;have UY:bu T7 tX T8 w73:=(bu.no (ZA.no n46.ext)).trans s73;have agj:=UY.aw adP (.inl adQ);have tb8:T8 b=0:=(UY.a b (aN adP)).trans adQ;refine Nn.mk (aH.mk VZ.b (Nat.le_of_ble_eq_true rfl) rfl fun w75 h75=>?_);have ZB:Ext (·=vb) w73 w75:=h75.ext;have V75:=VZ.put (op:=true) (mp:=JZ) (h75.get VZ.b) ZB;have nbv:b≠vb:=fun e=>by have:=VZ.tb;simp only at this;rw[<- e,tb8]at this;exact absurd this (by decide)
 have UZ:=ar agj ZB nbv;refine aH.mk UZ Nat.one_pos rfl fun w76 h76=>AX ⟨0,Cell.af (h76.get UZ) rfl,?_⟩
 have x76:Ext (·=b) w75 w76:=h76.ext;have V76:=V75.loc x76 fun i hi=>by rw[hi];exact .inl tb8
 refine k T8 _ q kq al w76 V76 (by exact e2) (by exact e4) (by exact e7) Cy (by exact e10) (by rw[<- eN]) (by exact eN) (by exact UU) (by exact e15) (by exact e16) rfl ?_;exact((s39.trans UY.tw).trans (iX.one ZB (by have:=VZ.tb;simp only at this;rw[this];decide))).out x76 (by omega)
end
end Go.Proofs.YtiigcapldngijaaGreat
namespace Go.Proofs.YtiigcapldngijaaGreat
open Go.V Go.V.Dk Go.V.Rn
theorem U0{N:Nat}(hN:8<=N/\N<=4096):Calm N (pD N):=⟨by simp[pD],hN,rfl,rfl,rfl,⟨Int.le_refl 0,show(0:Int)<=1000 by decide⟩,Nat.zero_le _⟩
theorem U1{N:Nat}(i:Nat)(h:i < N):(pD N).now.getD i []=bB:=by
 show(List.replicate N bB).getD i []=_;rw[List.getD_eq_getElem?_getD,List.getElem?_replicate,if_pos h];rfl
section
variable {w w':Wd}
theorem VQ.no{s:Sl}{L:List (List Int)}(r:VQ w.heap s L)(x:Ext No w w'):VQ w'.heap s L:=by
 obtain⟨ins,h1,h2,h3⟩:=r.ex;exact⟨⟨ins,h1.no x,h2,fun j a b=>Rd.no (h3 j a b) x⟩,r.b8⟩
set_option maxHeartbeats 2000000 in
theorem H7{N:Nat}{Qe:Int}{dr key:Sl}{kl:List Int}{L:List (List Int)}{K:Option Addr->Int->Pw}(hk:aQ w.heap key kl)(kB:B8 kl)(kn:key.len=32)(hL:VQ w.heap dr L)(hn:L.length<=1000)(hl:∀l∈L,l.length<=1000)(hN:8<=N/\N<=4096)
  (k:∀T' v s q kq w',gg w' T' v s->v.mp=JZ->v.op=true->v.ts=[]->s.D=pD N->s.R=⟨s.R.dev,Qe,0,0,L⟩->s.ks=[⟨⟨0,1⟩,q,kq⟩]->kq=lf kl 1 1->s.L=[]->s.F=fF (N - 2)->s.N=N->s.ps=[]->s.cm=0->s.la=0->s.wl=[]->v.kl=kl->(∀i,i < w.heap.size->T' i=0)->Ext No w w'->K v.p 0 w'):mN (N:Int) Qe dr key w K:=by
 apply Cw
 refine fun b w1 n1=>⟨key,Cell.af n1.get rfl,If.bne (fun h=>absurd (by rw[kn];rfl) h) fun _=>⟨(N:Int),Cell.af n1.get rfl,?_⟩⟩
 have a1:=n1.at_;have z1:=n1.size
 refine JF (fun h=>absurd (by omega) h) fun _ d w2 r2 f2 x2=>If.bne (fun h=>absurd rfl h) fun _=>⟨Qe,Cell.af (ah n1.get x2) rfl,dr,Cell.af (ah n1.get x2) rfl,?_⟩
 rw[Int.toNat_natCast]at r2;have vJ:=n1.ext.no x2
 refine JG (hL.no vJ) (by omega) (fun l h=>by have:=hl l h;omega) fun g w3 r3 f3 x3=>If.bne (fun h=>absurd rfl h) fun _=>⟨key,Cell.af (ah n1.get (x2.no x3)) rfl,?_⟩
 have iC:=vJ.no x3;refine pn (Rd.no hk iC) (by have:=aQ.len hk;omega) fun r w4 o4 x4=>?_
 have gb4:=ah n1.get ((x2.no x3).no x4);refine aH.mk gb4 (Nat.le_of_ble_eq_true rfl) rfl fun w5 h5=>?_
 have ZC:=h5.get gb4;refine aH.mk ZC (Nat.le_of_ble_eq_true rfl) rfl fun w6 h6=>?_
 have Gh:=h6.get ZC;have zr:Ext (·=b) w4 w6:=h5.ext.trans h6.ext fun i _ e=>e
 have xd:Ext No w6 (ae w6):=(Ext.refl _ _).drew;refine⟨Ext No w6,xd,(N:Int),aj.aF (Cell.af Gh rfl) (fun h=>h),Qe,aj.aF (Cell.af Gh rfl) (fun h=>h),⟨none,0,0⟩,aj.aF (Cell.af Gh rfl) (fun h=>h),r,aj.aF (Cell.af Gh rfl) (fun h=>h),?_⟩
 refine L1 fun lb w7 g7 hlb x7=>⟨x7.an,fun vb w8 n8=>⟨x7.an.no n8.ext,?_⟩⟩
 have Xe:Ext No w6 w7:=x7.an;have wz:=Xe.no n8.ext;have z2:=x2.size;have z3:=x3.size;have z4:=x4.size;have z46:=zr.size;have z67:=Xe.size;have z8:=n8.size;have a8:=n8.at_
 obtain⟨T,hT⟩ : ∃T,T=fY (fY (fY (fY (fY (fun _=>0) w1.heap.size w2.heap.size 1) w2.heap.size w3.heap.size 2) w3.heap.size w4.heap.size 14) w6.heap.size w7.heap.size 4) w7.heap.size w8.heap.size 13:=⟨_,rfl⟩
 have t0:∀i,i < w1.heap.size->T i=0:=fun i hi=>by
  rw[hT,aY _ _ _ _ i (by omega),aY _ _ _ _ i (by omega),aY _ _ _ _ i (by omega),aY _ _ _ _ i (by omega),aY _ _ _ _ i (by omega)]
 have t1:∀i,w1.heap.size<=i->i < w2.heap.size->T i=1:=fun i h1 h2=>by
  rw[hT,aY _ _ _ _ i (by omega),aY _ _ _ _ i (by omega),aY _ _ _ _ i (by omega),aY _ _ _ _ i (by omega)];exact bT _ h1 h2
 have t2:∀i,w2.heap.size<=i->i < w3.heap.size->T i=2:=fun i h1 h2=>by
  rw[hT,aY _ _ _ _ i (by omega),aY _ _ _ _ i (by omega),aY _ _ _ _ i (by omega)];exact bT _ h1 h2
 have t14:∀i,w3.heap.size<=i->i < w4.heap.size->T i=14:=fun i h1 h2=>by
  rw[hT,aY _ _ _ _ i (by omega),aY _ _ _ _ i (by omega)];exact bT _ h1 h2
 have t4:∀i,w6.heap.size<=i->i < w7.heap.size->T i=4:=fun i h1 h2=>by
  rw[hT,aY _ _ _ _ i (by omega)];exact bT _ h1 h2
 have t13:T vb=13:=by rw[hT];exact bT _ (by omega) (by omega)
 have J8:Ext (·=b) w2 w8:=((x3.no x4).az.trans zr fun i _ e=>e).trans wz.az fun i _ e=>e
 have x38:Ext (·=b) w3 w8:=(x4.az.trans zr fun i _ e=>e).trans wz.az fun i _ e=>e
 have OQ:Ext (·=b) w4 w8:=zr.trans wz.az fun i _ e=>e
 have MK:Ext No w w8:=(((iC.no x4).trans zr fun i hi e=>by omega).no wz)
 refine MJ (T:=T) (g:=g) (R:=⟨some ⟨d.b,0,none⟩,Qe,0,0,L⟩) (L:=[]) (ls:=⟨none,0,0⟩) (lb:=lb) (D:=pD N) (kl:=kl)
  ⟨r2.ext J8 fun i hi e=>by have:=f2 i hi;omega,fun i hi=>t1 i (f2 i hi) (r2.lt hi),U0 hN⟩
  ⟨r3.ext x38 fun i hi e=>by have:=f3 i hi;omega,fun i hi=>t2 i (f3 i hi) (r3.lt hi),rfl⟩
  ⟨⟨ah g7 n8.ext,aP.nil _ _ _ _,(fun h=>nomatch h),fun e h=>(nomatch h)⟩,t4 lb (by rw[hlb];exact Nat.le_refl _) (aN g7),fun i h=>(nomatch h),Nat.zero_le _⟩
  (by rw[hT];exact mE _ _ _ _ (by omega)) n8.get t13 (o4.rd.ext OQ fun p c hp hc e=>by have:=(o4.lt (show r.aw=some c by simp[Sl.aw,hp,hc])).1;omega)
  (fun i hi=>⟨t14 i (o4.lt hi).1 (o4.lt hi).2,by have:=(o4.lt hi).2;omega⟩) kB (by rw[aL.len o4,<- aQ.len hk];exact kn) U1 rfl fun T' s q kq al w' V e1 e2 e3 e0 e4 e5 eN e6 e7 e8 e9 st=>?_
 refine k T' _ s q kq w' V rfl rfl rfl e1 (by rw[e2]) e3 e0 e4 e5 eN e6 e7 e8 e9 rfl (fun i hi=>st.z i (by omega) (t0 i (by omega))) (MK.trans st.x fun i hi h=>h (t0 i (by omega)))
end
end Go.Proofs.YtiigcapldngijaaGreat
namespace Go.Proofs.YtiigcapldngijaaGreat
open Go.V Go.V.Dk Go.V.Rn
section
variable {w w':Wd} {T T':Nat->Nat} {s:SA} {v:VA}
theorem U2{al:Nat}(h:cY w.heap lz al ([]:List (Int×Value))):Sem.run pz (Builtin.len_ #[49] 3 #[.map (some al)]) w = .ok (.int .i64 0) w:=by
 obtain⟨es,clock,hb,he,_⟩:=h;have h41:Tryz.prog.underlying 49=some (.map 36 97):=by kernel_rfl
 have h0:es.size=0:=by have:=congrArg List.length he;simpa using this
 simp[Builtin.len_,aD h41,dB hb,h0,goInt]
theorem mY:uP pz 63 (Value.int .i64):=IC (by kernel_rfl)
theorem ir:Tryz.prog.underlying 172=some (.map 63 62):=by kernel_rfl
theorem aby(w:Wd):(zeroValue 62).run pz w = .ok .nilFunc w:=by kernel_rfl
def abz(p:Option Addr):List (Int×Value):=(List.range 16).map fun i:Nat=>((i:Int)+1,.func (.func (83+i)) #[.pointer p] #[])
theorem ML{c:Int}{f:Nat}{K:Value->Pw}(hc:l_ c (abz v.p)=some (.func (.func f) #[.pointer v.p] #[]))(k:∀w',Ext No w w'->K (.func (.func f) #[.pointer v.p] #[]) w'):kG v.p c w K:=by
 apply Au;refine fun b w1 n1=>?_
 have m1:cY w1.heap (Value.int .i64) b ([]:List (Int×Value)):=⟨#[],0,n1.get,rfl,cW.nil⟩
 obtain⟨w2,h2,m2,x2,_⟩:=aG (P:=pz) (a:=(1:Int)) (v:= .func (.func 83) #[.pointer v.p] #[]) mY ir m1;refine⟨w2,h2,?_⟩;obtain⟨w3,h3,m3,x3,_⟩:=aG (P:=pz) (a:=(2:Int)) (v:= .func (.func 84) #[.pointer v.p] #[]) mY ir m2;refine⟨w3,h3,?_⟩;obtain⟨w4,h4,m4,x4,_⟩:=aG (P:=pz) (a:=(3:Int)) (v:= .func (.func 85) #[.pointer v.p] #[]) mY ir m3;refine⟨w4,h4,?_⟩;obtain⟨w5,h5,m5,x5,_⟩:=aG (P:=pz) (a:=(4:Int)) (v:= .func (.func 86) #[.pointer v.p] #[]) mY ir m4;refine⟨w5,h5,?_⟩;obtain⟨w6,h6,m6,x6,_⟩:=aG (P:=pz) (a:=(5:Int)) (v:= .func (.func 87) #[.pointer v.p] #[]) mY ir m5;refine⟨w6,h6,?_⟩;obtain⟨w7,h7,m7,x7,_⟩:=aG (P:=pz) (a:=(6:Int)) (v:= .func (.func 88) #[.pointer v.p] #[]) mY ir m6;refine⟨w7,h7,?_⟩;obtain⟨w8,h8,m8,x8,_⟩:=aG (P:=pz) (a:=(7:Int)) (v:= .func (.func 89) #[.pointer v.p] #[]) mY ir m7;refine⟨w8,h8,?_⟩;obtain⟨w9,h9,m9,x9,_⟩:=aG (P:=pz) (a:=(8:Int)) (v:= .func (.func 90) #[.pointer v.p] #[]) mY ir m8;refine⟨w9,h9,?_⟩;obtain⟨eK,D2,m10,dQ,_⟩:=aG (P:=pz) (a:=(9:Int)) (v:= .func (.func 91) #[.pointer v.p] #[]) mY ir m9;refine⟨eK,D2,?_⟩;obtain⟨eM,Gj,m11,nH,_⟩:=aG (P:=pz) (a:=(10:Int)) (v:= .func (.func 92) #[.pointer v.p] #[]) mY ir m10;refine⟨eM,Gj,?_⟩;obtain⟨gO,OZ,m12,lJ,_⟩:=aG (P:=pz) (a:=(11:Int)) (v:= .func (.func 93) #[.pointer v.p] #[]) mY ir m11;refine⟨gO,OZ,?_⟩;obtain⟨fV,Ky,m13,iY,_⟩:=aG (P:=pz) (a:=(12:Int)) (v:= .func (.func 94) #[.pointer v.p] #[]) mY ir m12;refine⟨fV,Ky,?_⟩;obtain⟨lR,Md,m14,iT,_⟩:=aG (P:=pz) (a:=(13:Int)) (v:= .func (.func 95) #[.pointer v.p] #[]) mY ir m13;refine⟨lR,Md,?_⟩;obtain⟨mU,Xo,m15,ld,_⟩:=aG (P:=pz) (a:=(14:Int)) (v:= .func (.func 96) #[.pointer v.p] #[]) mY ir m14;refine⟨mU,Xo,?_⟩;obtain⟨iB,TE,m16,uy,_⟩:=aG (P:=pz) (a:=(15:Int)) (v:= .func (.func 97) #[.pointer v.p] #[]) mY ir m15;refine⟨iB,TE,?_⟩;obtain⟨pJ,Rp,m17,Eg,_⟩:=aG (P:=pz) (a:=(16:Int)) (v:= .func (.func 98) #[.pointer v.p] #[]) mY ir m16;refine⟨pJ,Rp,?_⟩;have m18:cY pJ.heap (Value.int .i64) b (abz v.p):=m17;have eH:=fq (P:=pz) (a:=c) mY ir (aby pJ) m18;rw[hc]at eH;have x:Ext (·=b) w1 pJ:=((((((((((((((x2.trans x3 fun i _ e=>e).trans x4 fun i _ e=>e).trans x5 fun i _ e=>e).trans x6 fun i _ e=>e).trans x7 fun i _ e=>e).trans x8 fun i _ e=>e).trans x9 fun i _ e=>e).trans dQ fun i _ e=>e).trans nH fun i _ e=>e).trans lJ fun i _ e=>e).trans iY fun i _ e=>e).trans iT fun i _ e=>e).trans ld fun i _ e=>e).trans uy fun i _ e=>e).trans Eg fun i _ e=>e
 refine⟨_,pJ,eH,?_⟩;exact k pJ (n1.ext.out x (by rw[n1.at_];exact Nat.le_refl _))
theorem gg.ZD(V:gg w T v s){g:DY}{R:RS}(x:Ext (fun i=>T i=2) w w')(hT:∀i,T i≠2->T i≠0->T' i=T i)(ho:∀i,w'.heap.size<=i->T' i=0)(rg:Y1 w' T' s.d g R)(hg:g.rb=s.g.rb)(hL:R.bG=s.R.bG):gg w' T' v { s with g:=g,R:=R }:=by
 have h:∀(c:Nat),c≠2/\c≠0->∀i,T i=c->T' i=c:=fun c hc i hi=>(hT i (by rw[hi];exact hc.1) (by rw[hi];exact hc.2)).trans hi
 have a:Ag T T w.heap.size:=fun _ _=>rfl
 have f:∀(k:Nat),k≠2->∀i,T i=k->¬ (T i=2):=fun k hk i h e=>hk (h.symm.trans e)
 have dk:=V.y.dk.aJ x a (f 1 (by decide));have rn:=V.y.rn.aJ x a (f 3 (by decide));have lg:=V.y.lg.aJ x a (f 4 (by decide));have pb:=V.y.pb.aJ x a (f 5 (by decide));have fr:=V.y.fr.aJ x a (f 6 (by decide));have kn:=V.y.kn.aJ x a (f 7 (by decide)) (f 12 (by decide));have mp:=V.y.mp.aJ x a (f 8 (by decide)) (f 9 (by decide)) (f 10 (by decide)) (f 11 (by decide));refine⟨⟨⟨dk.r,fun i hi=>h 1 (by decide) i (dk.t i hi),dk.c⟩,rg,⟨rn.r,h 3 (by decide) _ rn.t,h 3 (by decide) _ rn.t2,fun k hk i hi=>h 3 (by decide) i (rn.t3 k hk i hi),rn.n⟩,⟨lg.r,h 4 (by decide) _ lg.t,fun i hi=>h 4 (by decide) i (lg.t2 i hi),lg.n⟩,⟨pb.r,h 5 (by decide) _ pb.t⟩,⟨fr.r,fun i hi=>⟨h 6 (by decide) i (fr.t i hi).1,(fr.t i hi).2⟩,fr.u,fr.n⟩,⟨kn.r,h 7 (by decide) _ kn.t,fun k hk=>⟨(kn.p k hk).1,fun i hi=>⟨h 12 (by decide) i ((kn.p k hk).2.1 i hi).1,((kn.p k hk).2.1 i hi).2⟩,(kn.p k hk).2.2⟩⟩,⟨mp.r,h 8 (by decide) _ mp.t,mp.r2,h 9 (by decide) _ mp.t2,fun q hq=>⟨(mp.r3 q hq).1,h 10 (by decide) _ (mp.r3 q hq).2⟩,fun q hq=>⟨(mp.r4 q hq).1,h 11 (by decide) _ (mp.r4 q hq).2⟩⟩,ho⟩,?_,h 13 (by decide) _ V.tb,V.k.ext x fun p c hp hc e=>f 14 (by decide) c (V.kt c (by simp[Sl.aw,hp,hc])).1 e,fun i hi=>⟨h 14 (by decide) i (V.kt i hi).1,Nat.lt_of_lt_of_le (V.kt i hi).2 x.size⟩,V.kB,V.kn,V.a.ext x (f 15 (by decide) _ V.ta),h 15 (by decide) _ V.ta⟩
 have hv:v.c { s with g:=g,R:=R }=v.c s:=by
  show RL s.N R.bG v.key s.d.p (some ⟨g.rb,0,none⟩) s.lB v.op s.rB s.p v.mp v.al=RL s.N s.R.bG v.key s.d.p (some ⟨s.g.rb,0,none⟩) s.lB v.op s.rB s.p v.mp v.al;rw[hg,hL]
 rw[hv];exact(x.aw _ (aN V.b) (f 13 (by decide) _ V.tb)).trans V.b
theorem gg.U3(V:gg w T v s)(hT:∀i,T i≠0->T' i=T i)(ho:∀i,w.heap.size<=i->T' i=0):gg w T' v s:=
 V.ZD (g:=s.g) (R:=s.R) (Ext.refl _ _) (fun i _ h=>hT i h) ho ⟨V.y.rg.r,fun i hi=>(hT i (by rw[V.y.rg.t i hi];decide)).trans (V.y.rg.t i hi),V.y.rg.d⟩ rfl rfl
theorem XI{l:List Int}{ls:List (List Int)}{K:Sl->Int->Pw}(V:gg w T v s)(hd:s.R.eV=l::ls)(hl:16<=l.length)
  (k:∀T' g' sl w',gg w' T' v { s with g:=g',R:={ s.R with eV:=ls } }->(∀i,T i=0->T' i=0)->Ext (fun i=>T i≠0) w w'->aQ w'.heap sl (l.take 16)->(∀i,sl.aw=some i->T' i=16/\i < w'.heap.size)->K sl 0 w'):ix s.gB 16 w K:=by
 refine G5 V.y.rg.r (fun h=>absurd ⟨by decide,by decide⟩ h) (fun _ h=>by rw[hd]at h;cases h) (fun l' pB _ h aN=>by rw[hd]at h;cases h;omega) fun l' pB sl g' w' _ h hle wr r' hrb hfp od x hz=>?_
 rw[hd]at h;obtain⟨rfl,rfl⟩ : l=l'/\ls=pB:=by cases h;exact⟨rfl,rfl⟩
 have tr:∀i,s.g.fp i->T i=2:=V.y.rg.t
 have x2:Ext (fun i=>T i=2) w w':=x.mono fun i _ h=>by rw[h];exact tr _ (.inl rfl)
 have hT:∀i,T i≠2->(if sl.aw=some i then 16 else T i)=T i:=fun i hi=>if_neg fun e=>hi (tr i (od i e).1)
 refine k (fun i=>if sl.aw=some i then 16 else T i) g' sl w' (V.ZD (g:=g') (R:={ s.R with eV:=ls }) x2 (fun i h _=>hT i h) (fun i hi=>?_) ⟨r',fun i hi=>?_,V.y.rg.d⟩ hrb rfl) (fun i hi=>by rw[hT i (by omega)];exact hi) (x2.mono fun i _ h=>by rw[h];decide) wr.rd fun i hi=>⟨if_pos hi,?_⟩
 .have h0:=V.y.out i (Nat.le_trans x2.size hi);rw[hT i (by omega)];exact h0
 .show(if sl.aw=some i then 16 else T i)=2;rw[if_neg fun e=>(od i e).2 hi];exact tr i (hfp i hi)
 .have:=V.y.rg.r.lt (od i hi).1;omega
end
end Go.Proofs.YtiigcapldngijaaGreat
namespace Go.Proofs.YtiigcapldngijaaGreat
open Go.V Go.V.Pk Go.V.Dk Go.V.Rn
section
variable {w w':Wd} {T T':Nat->Nat} {s:SA} {v:VA}
theorem O3{p:Option Addr}{q:RK}{K:Sl->Pw}(V:gg w T v s)(hq:ki s.ks ⟨0,v.mp.rg⟩=some q)(k:∀sl w',aL w'.heap w.heap.size sl q.l->Ext No w w'->K sl w')(hp:p=v.p:=by rfl):jx p w K:=by
 subst hp;apply yw;have xd:Ext No w (ae w):=(Ext.refl _ _).drew;exact⟨Ext No w,xd,Nn.mk ⟨s.rB,aj.aF (Cell.af V.b rfl) (fun h=>h),Nn.mk ⟨v.mp.rg,aj.aF (Cell.af V.b rfl) (fun h=>h),gM (V.no xd).y.rn.r hq fun sl w1 o1 x1=>⟨x1.an,eO ⟨x1.an,k sl w1 o1 x1.an⟩⟩⟩⟩⟩
abbrev ZE(mk hs:Sl):dN:=⟨1,10,mk,.z,0,0,hs⟩
structure Ni(w:Wd)(T:Nat->Nat)(vp:Option Addr)(c0 c1 c2 c3:Nat)(key:Sl)(kk:List Int)(KB:List Value)(mk:Sl)(ml:List Int)(hs:Sl):Prop where
 g0:w.heap[c0]? = some (.cells [Value.pointer vp].toArray 24 (0,0))
 g1:w.heap[c1]? = some (.cells KB.toArray 67 (0,0))
 h1:KB[1]? = some (.int .u32 1)
 g2:w.heap[c2]? = some (.cells [key.v].toArray 22 (0,0))
 g3:w.heap[c3]? = some (.cells (ZE mk hs).cells.toArray 100 (0,0))
 t0:T c0=0
 t1:T c1=0
 t2:T c2=0
 t3:T c3=0
 n0:c0≠c3
 n1:c1≠c3
 n2:c2≠c3
 k:aQ w.heap key kk
 MM:kk.length=16
 kB:B8 kk
 kt:∀i,key.aw=some i->16<=T i/\i < w.heap.size
 m:aQ w.heap mk ml
 J_:ml.length=16
 mB:B8 ml
 mt:∀i,mk.aw=some i->T i=0/\i≠c3/\i < w.heap.size
structure KC(w:Wd)(T:Nat->Nat)(lo:Nat)(hs:Sl)(wl:List Int):Prop where
 ex:∃ws:Sl,Rd w.heap hs 3 [.int .u16 1,.int .u64 1,ws.v]/\aQ w.heap ws wl/\∀i,ws.aw=some i->T i=0/\lo<=i/\i < w.heap.size
 t:∀i,hs.aw=some i->T i=0/\lo<=i/\i < w.heap.size
 l:hs.len=1
theorem KC.ext{S:Nat->Prop}{lo:Nat}{hs:Sl}{wl:List Int}(H:KC w T lo hs wl)(x:Ext S w w')(h:∀i,lo<=i->T i=0->¬ S i)(z:∀i,i < w.heap.size->T i=0->T' i=0):KC w' T' lo hs wl:=by
 obtain⟨⟨ws,h1,h2,h3⟩,h4,h5⟩:=H
 have up:∀i,T i=0/\lo<=i/\i < w.heap.size->T' i=0/\lo<=i/\i < w'.heap.size:=fun i hi=>⟨z i hi.2.2 hi.1,hi.2.1,Nat.lt_of_lt_of_le hi.2.2 x.size⟩
 exact⟨⟨ws,h1.ext x fun a i ha hi=>(fun hh=>h i hh.2.1 hh.1) (h4 i (by simp[Sl.aw,ha,hi])),h2.ext x fun a i ha hi=>(fun hh=>h i hh.2.1 hh.1) (h3 i (by simp[Sl.aw,ha,hi])),fun i hi=>up i (h3 i hi)⟩,fun i hi=>up i (h4 i hi),h5⟩
theorem KC.stw{lo:Nat}{hs:Sl}{wl:List Int}(H:KC w T lo hs wl)(p:iX T w T' w'):KC w' T' lo hs wl:=H.ext p.x (fun _ _ h e=>e h) p.z
theorem KC.mono{lo lo':Nat}{hs:Sl}{wl:List Int}(H:KC w T lo hs wl)(h:lo'<=lo):KC w T lo' hs wl:=by
 obtain⟨⟨ws,h1,h2,h3⟩,h4,h5⟩:=H;exact⟨⟨ws,h1,h2,fun i hi=>⟨(h3 i hi).1,Nat.le_trans h (h3 i hi).2.1,(h3 i hi).2.2⟩⟩,fun i hi=>⟨(h4 i hi).1,Nat.le_trans h (h4 i hi).2.1,(h4 i hi).2.2⟩,h5⟩
section
variable {vp:Option Addr} {c0 c1 c2 c3:Nat} {key:Sl} {kk:List Int} {KB:List Value} {mk:Sl} {ml:List Int} {hs:Sl} {S:Nat->Prop}
theorem Ni.ext(C:Ni w T vp c0 c1 c2 c3 key kk KB mk ml hs)(a:Ag T T' w.heap.size)(x:Ext S w w')(h:∀i,T i=0->¬ S i)(h2:∀i,16<=T i->¬ S i):Ni w' T' vp c0 c1 c2 c3 key kk KB mk ml hs:=
 ⟨ar C.g0 x (h _ C.t0),ar C.g1 x (h _ C.t1),C.h1,ar C.g2 x (h _ C.t2),ar C.g3 x (h _ C.t3),(a _ (aN C.g0)).trans C.t0,(a _ (aN C.g1)).trans C.t1,(a _ (aN C.g2)).trans C.t2,(a _ (aN C.g3)).trans C.t3,C.n0,C.n1,C.n2,
  C.k.ext x fun p b hp hb=>h2 b (C.kt b (by simp[Sl.aw,hp,hb])).1,C.MM,C.kB,fun i hi=>⟨by rw[a i (C.kt i hi).2];exact(C.kt i hi).1,Nat.lt_of_lt_of_le (C.kt i hi).2 x.size⟩,C.m.ext x fun p b hp hb=>h b (C.mt b (by simp[Sl.aw,hp,hb])).1,C.J_,C.mB,fun i hi=>⟨(a i (C.mt i hi).2.2).trans (C.mt i hi).1,(C.mt i hi).2.1,Nat.lt_of_lt_of_le (C.mt i hi).2.2 x.size⟩⟩
theorem Ni.Qi(C:Ni w T vp c0 c1 c2 c3 key kk KB mk ml hs)(st:bu T w T' w'):Ni w' T' vp c0 c1 c2 c3 key kk KB mk ml hs:=C.ext st.a st.x (fun i h=>by omega) fun i h=>by omega
theorem Ni.no(C:Ni w T vp c0 c1 c2 c3 key kk KB mk ml hs)(x:Ext No w w'):Ni w' T vp c0 c1 c2 c3 key kk KB mk ml hs:=C.Qi (.no x)
abbrev stP(ml wl:List Int)(n:Int):jn:=⟨1,10,ml,.z,0,0,[⟨1,n,wl⟩]⟩
theorem Ka{ml wl:List Int}(h1:ml.length=16)(h2:wl.length=32):(fy (stP ml wl 1)).length<=64:=by
 simp[fy,textB,lU,h1,h2,se,Rf.z]
theorem XJ{ml wl:List Int}{n:Int}(h1:ml.length=16)(h2:wl.length=32):JS (stP ml wl n):=
 ⟨by show(1:Int)≠0;decide,by show(1:Int)<=10;decide,by show(10:Int)<=1000;decide,h1,by show(0:Int)<=0;decide,by show(0:Int)<=10;decide,⟨fun _=>⟨rfl,rfl⟩,fun _=>rfl⟩,.inl ⟨_,rfl,h2⟩⟩
theorem Kb{ml wl:List Int}{n:Int}(hm:B8 ml)(hw:B8 wl)(hn:0<=n/\n<=18446744073709551615):Rv (stP ml wl n):=
 ⟨by show(0:Int)<=1/\(1:Int)<=4294967295;decide,hm,by show Rf.z.ok;decide,by show(0:Int)<=0/\(0:Int)<=255;decide,fun h hh=>by
  simp only[List.mem_singleton]at hh;subst hh
  exact⟨by show(0:Int)<=1/\(1:Int)<=65535;decide,hn,hw⟩⟩
set_option maxHeartbeats 400000 in
theorem O4{vb al:Nat}{ky:Sl}{kl:List Int}{op:Bool}{q:RK}{r:fA}{m:Nat}{K:Int->Int->Int->Int->Int->Int->Pw}(V:gg w T ⟨vb,ky,kl,op,JZ,al,[]⟩ s)(C:Ni w T (some ⟨vb,0,none⟩) c0 c1 c2 c3 key kk KB mk ml hs)(hq:ki s.ks ⟨0,1⟩=some q)(U4:q.l.length=32)(P:Hf s 0 1 r m)
  (k:∀T' s' CZ w',gg w' T' ⟨vb,ky,kl,op,JZ,al,[]⟩ s'->(∃fr' xI,s'=s.put 0 1 r fr' xI (pad (wr 1 0 [⟨be 4 1,fy (stP ml (kg q.l 1 1 1 kk) 1),0,.z,.z⟩])))->KC w' T' w.heap.size CZ (kg q.l 1 1 1 kk)->Ni w' T' (some ⟨vb,0,none⟩) c0 c1 c2 c3 key kk KB mk ml CZ->Ag T T' w.heap.size->Ext (fun i=>(1<=T i/\T i<=12)∨i=c3) w w'->K r.1 s.cm 1 0 1 1 w') :
  gD 1 ⟨c0,0,none⟩ ⟨c1,0,none⟩ ⟨c2,0,none⟩ ⟨c3,0,none⟩ w K:=by
 apply sU;refine fun b w1 n1=>?_
 have a1:=n1.at_;have z1:=n1.size;have V1:=V.no n1.ext;have C1:=C.no n1.ext;have xd:Ext No w1 (ae w1):=(Ext.refl _ _).drew;have aic:=aN C.g3;refine⟨Ext No w1,xd,_,aj.aF (Cell.af C1.g0 rfl) (fun h=>h),1,aj.aF (Cell.af C1.g1 C.h1) (fun h=>h),key,aj.aF (Cell.af C1.g2 rfl) (fun h=>h),?_⟩
 refine O3 (v:=⟨vb,ky,kl,op,JZ,al,[]⟩) (V1.no xd) hq fun rs w2 o2 x2=>⟨x2.an,?_⟩
 have lJ:Ext No w1 w2:=x2.an;have ZF:=V.y.rn.r.key q (List.mem_of_find?_eq_some hq)
 refine Q2 o2.rd ZF.2.1 (by rw[aL.len o2];exact U4) ⟨by decide,by decide⟩ ⟨by decide,by decide⟩ ⟨by decide,by decide⟩ (Rd.no C1.k lJ) C.kB (by rw[aQ.len C.k];exact C.MM) fun ws w3 o3 x3=>⟨lJ.no x3,?_⟩
 obtain⟨wl,VL⟩ : ∃wl,wl=kg q.l 1 1 1 kk:=⟨_,rfl⟩
 rw[<- VL]at o3 k;have A_:wl.length=32:=by rw[VL];exact wv ZF.2.1 C.MM
 have GY:B8 wl:=by rw[VL];exact FJ ZF.2.1 C.kB
 refine RM fun w4 x4=>⟨(lJ.no x3).no x4,fun b1 w5 n5=>⟨((lJ.no x3).no x4).no n5.ext,?_⟩⟩
 have ld:=((lJ.no x3).no x4).no n5.ext;have C5:=C1.no ld;have V5:=V1.no ld;have zz:w1.heap.size<=w5.heap.size:=ld.size;have a5:=n5.at_;have z5:=n5.size;have z14:=((lJ.no x3).no x4).size;refine aH.mk C5.g3 (Nat.le_of_ble_eq_true rfl) rfl fun w6 h6=>?_
 have zt:Ext (·=c3) w5 w6:=h6.ext;have g3:w6.heap[c3]? = some (.cells (ZE mk ⟨some ⟨b1,0,none⟩,1,1⟩).cells.toArray 100 (0,0)):=h6.get C5.g3;have t3:=C.t3;have V6:=V5.loc zt fun i hi=>by rw[hi];exact .inl t3
 have b1c:b1≠c3:=by omega
 have C6:Ni w6 T (some ⟨vb,0,none⟩) c0 c1 c2 c3 key kk KB mk ml ⟨some ⟨b1,0,none⟩,1,1⟩ :=
  ⟨ar C5.g0 zt C.n0,ar C5.g1 zt C.n1,C.h1,ar C5.g2 zt C.n2,g3,C.t0,C.t1,C.t2,C.t3,C.n0,C.n1,C.n2,C5.k.ext zt fun p i hp hi e=>by have:=(C5.kt i (by simp[Sl.aw,hp,hi])).1;rw[e,t3]at this;omega,C.MM,C.kB,fun i hi=>⟨(C5.kt i hi).1,Nat.lt_of_lt_of_le (C5.kt i hi).2 zt.size⟩,C5.m.ext zt fun p i hp hi=>(C5.mt i (by simp[Sl.aw,hp,hi])).2.1,C.J_,C.mB,fun i hi=>⟨(C5.mt i hi).1,(C5.mt i hi).2.1,Nat.lt_of_lt_of_le (C5.mt i hi).2.2 zt.size⟩⟩
 have O2:Ext No w6 (ae w6):=(Ext.refl _ _).drew;have tz:∀i,T i=0->¬ (1<=T i/\T i<=12):=fun i h=>by omega
 have tv:¬ (1<=T vb/\T vb<=12):=by have:=V.tb;simp only at this;omega
 refine⟨Ext (fun i=>1<=T i/\T i<=12) w6,O2.az,_,aj.aF (Cell.af C6.g0 rfl) (tz _ C.t0),Nn.mk ⟨s.p,aj.aF (Cell.af V6.b rfl) tv,_,aj.aF (Cell.af C6.g0 rfl) (tz _ C.t0),Nn.mk ⟨0,aj.aF (Cell.af V6.b rfl) tv,0,aj.aF (Cell.af V6.b rfl) tv,0,aj.aF (Cell.af V6.b rfl) tv,0,aj.aF (Cell.af V6.b rfl) tv,
  1,aj.aF (Cell.af C6.g3 rfl) (tz _ C.t3),10,aj.aF (Cell.af C6.g3 rfl) (tz _ C.t3),mk,aj.aF (Cell.af C6.g3 rfl) (tz _ C.t3),0,aj.aF (Cell.af C6.g3 rfl) (tz _ C.t3),0,aj.aF (Cell.af C6.g3 rfl) (tz _ C.t3),0,aj.aF (Cell.af C6.g3 rfl) (tz _ C.t3),0,aj.aF (Cell.af C6.g3 rfl) (tz _ C.t3),0,aj.aF (Cell.af C6.g3 rfl) (tz _ C.t3),⟨some ⟨b1,0,none⟩,1,1⟩,aj.aF (Cell.af C6.g3 rfl) (tz _ C.t3),
  _,aj.aF (Cell.af C6.g0 rfl) (tz _ C.t0),Nn.mk ⟨1,aj.aF (Cell.af V6.b rfl) tv,_,aj.aF (Cell.af C6.g0 rfl) (tz _ C.t0),Nn.mk ⟨some al,aj.aF (Cell.af V6.b rfl) tv,?_⟩⟩⟩⟩⟩
 have zr:Ext (fun i=>i=c3) w4 w6:=n5.ext.az.trans zt fun i _ e=>e
 have y6:=(V6.no O2).y;have ows:aQ w6.heap ws wl:=(o3.rd.no x4).ext zr fun p i hp hi e=>by have h1:=(o3.lt (show ws.aw=some i by simp[Sl.aw,hp,hi])).1;have:=lJ.size;omega
 have ho:Rd w6.heap ⟨some ⟨b1,0,none⟩,1,1⟩ 3 [Value.int .u16 1,.int .u64 1,.slice ws.a ws.len ws.cap]:=by
  have ho:=(aP.new (n:=1) (sz:=3) n5 rfl (a_ rfl)).rd
  exact Rd.ext ho zt fun p i hp hi e=>by
   have:i=b1:=by cases hp;exact hi.symm
   omega
 have hS:iE (fun _=>True) (ae w6).heap (ZE mk ⟨some ⟨b1,0,none⟩,1,1⟩) (stP ml wl 1):=
  ⟨rfl,rfl,⟨C6.m,fun _ _ _=>trivial⟩,rfl,rfl,rfl,[(⟨1,1,ws⟩,⟨1,1,wl⟩)],rfl,ho,fun _ _ _=>trivial,fun e he=>by
   simp only[List.mem_singleton]at he;subst he
   exact⟨rfl,rfl,⟨ows,fun _ _ _=>trivial⟩⟩⟩
 refine MI (s:=s) (v:=ZE mk ⟨some ⟨b1,0,none⟩,1,1⟩) (x:=stP ml wl 1) y6 (Qd P (cv _ _) (vV (Kb C.mB GY (by decide))) (by simp[aK]) (by simp[aK]) (Ka C.J_ A_)) hS (Kb C.mB GY (by decide)) (XJ C.J_ A_) (Ka C.J_ A_) fun s' T' w7 y7 q7 s7=>?_
 have ZG:bu T w6 T' w7:=(bu.no O2).trans s7;have S7:Ext (fun i=>1<=T i/\T i<=12) w6 w7:=ZG.x;refine⟨S7,Cg fun w8 x8=>⟨S7.trans x8.az fun i _ h=>h,?_⟩⟩;have V7:gg w7 T' ⟨vb,ky,kl,op,JZ,al,[]⟩ s':=by obtain⟨fr,sl,rfl⟩:=q7;exact V6.sy ZG y7 rfl rfl rfl rfl rfl
 have V8:=V7.no x8;have C8:=(C6.Qi ZG).no x8;refine⟨0,w8,U2 V8.a,S7.trans x8.az fun i _ h=>h,Ar.i64 (by decide) ⟨rfl,?_⟩⟩;have J6:T b=0:=V.y.out b (by omega);have Gh:=ar (ah n1.get ld) zt (by omega);have gb8:=ah (ZG.aw Gh (.inl J6)) x8;have tb':T' b=0:=(ZG.a b (aN Gh)).trans J6;refine bO.mk gb8 (Nat.le_refl 6) (a_ rfl) fun eK D2=>?_
 have tU:=D2.get gb8;have dQ:Ext (·=b) w8 eK:=D2.ext;refine⟨_,Cell.af tU rfl,_,Cell.af tU rfl,_,Cell.af tU rfl,_,Cell.af tU rfl,_,Cell.af tU rfl,_,Cell.af tU rfl,?_⟩;have b1z:T b1=0:=V.y.out b1 (by omega)
 have wsz:∀i,ws.aw=some i->T i=0/\i < w6.heap.size/\i≠b/\w.heap.size<=i:=fun i hi=>by
  have h1:=o3.lt hi;have:=lJ.size;have:=x4.size;have:=zr.size;exact⟨V.y.out i (by omega),by omega,by omega,by omega⟩
 have rS:∀i,(⟨some ⟨b1,0,none⟩,1,1⟩ : Sl).aw=some i->T i=0/\i < w6.heap.size/\i≠b/\w.heap.size<=i:=fun i hi=>by
  have:b1=i:=by simpa[Sl.aw] using hi
  subst this;have:=aN n5.get;have:=zt.size;exact⟨b1z,by omega,by omega,by omega⟩
 have adR:w6.heap.size<=eK.heap.size:=Nat.le_trans S7.size (Nat.le_trans x8.size dQ.size)
 have H10:KC eK T' w.heap.size ⟨some ⟨b1,0,none⟩,1,1⟩ wl:=
  ⟨⟨ws,((ho.ext S7 fun a i ha hi e=>by have:=(rS i (by cases ha;cases hi;rfl)).1;omega).no x8).ext dQ fun a i ha hi=>(rS i (by cases ha;cases hi;rfl)).2.2.1,((ows.ext S7 fun a i ha hi e=>by have:=(wsz i (by simp[Sl.aw,ha,hi])).1;omega).no x8).ext dQ fun a i ha hi=>(wsz i (by simp[Sl.aw,ha,hi])).2.2.1,fun i hi=>⟨(ZG.a i (wsz i hi).2.1).trans (wsz i hi).1,(wsz i hi).2.2.2,Nat.lt_of_lt_of_le (wsz i hi).2.1 adR⟩⟩,fun i hi=>⟨(ZG.a i (rS i hi).2.1).trans (rS i hi).1,(rS i hi).2.2.2,Nat.lt_of_lt_of_le (rS i hi).2.1 adR⟩,rfl⟩
 have zk:Ext (fun i=>(1<=T i/\T i<=12)∨i=c3) w w6:=(n1.ext.no ld).az.trans zt fun i _ e=> .inr e
 have MK:Ext (fun i=>(1<=T i/\T i<=12)∨i=c3) w w8:=(zk.trans S7 fun i _ h=> .inl h).trans x8.az fun i _ h=>h
 refine k T' s' ⟨some ⟨b1,0,none⟩,1,1⟩ eK (V8.loc dQ fun i hi=>by rw[hi];exact .inl tb') q7 H10 ?_ (fun i hi=>ZG.a i (by have:=zk.size;omega)) (MK.trans dQ fun i hi e=>by omega);refine⟨ar C8.g0 dQ (by have:=aN C.g0;omega),ar C8.g1 dQ (by have:=aN C.g1;omega),C.h1,ar C8.g2 dQ (by have:=aN C.g2;omega),ar C8.g3 dQ (by omega),C8.t0,C8.t1,C8.t2,C8.t3,C.n0,C.n1,C.n2,C8.k.ext dQ fun p i hp hi e=>?_,C.MM,C.kB,fun i hi=>⟨(C8.kt i hi).1,Nat.lt_of_lt_of_le (C8.kt i hi).2 dQ.size⟩,C8.m.ext dQ fun p i hp hi e=>?_,C.J_,C.mB,fun i hi=>⟨(C8.mt i hi).1,(C8.mt i hi).2.1,Nat.lt_of_lt_of_le (C8.mt i hi).2.2 dQ.size⟩⟩
 .have:=(C8.kt i (by simp[Sl.aw,hp,hi])).1;rw[e,tb']at this;omega
 .have:=(C.mt i (by simp[Sl.aw,hp,hi])).2.2;omega
end
end
end Go.Proofs.YtiigcapldngijaaGreat
namespace Go.Proofs.YtiigcapldngijaaGreat
open Go.V Go.V.Pk Go.V.Dk Go.V.Rn
section
variable {w w':Wd} {T T':Nat->Nat} {s:SA} {v:VA} {c0 c1 c2 c3:Nat} {key:Sl} {kk:List Int} {KB:List Value} {mk:Sl} {ml:List Int} {hs:Sl}
theorem H8:Tryz.prog.underlying 49=some (.map 36 97):=by kernel_rfl
theorem Kd(w:Wd):(zeroValue 97).run pz w = .ok (.pointer none) w:=by kernel_rfl
abbrev XK(mk hs:Sl)(rf:Rf)(ch:Int)(cp sb:Nat):List Value:=[.int .u32 1,.int .i64 10,mk.v,.int .u32 rf.p,.int .u64 rf.c,.int .u16 rf.g,.int .u8 0,.int .i64 ch,hs.v,.pointer (some ⟨cp,0,none⟩),.map (some sb),.int .u64 0]
structure vW(w:Wd)(T:Nat->Nat)(lo tb cp sb:Nat)(mk hs:Sl)(ml wl:List Int)(rf:Rf)(ch:Int)(cc:List Value):Prop where
 g:w.heap[tb]? = some (.cells (XK mk hs rf ch cp sb).toArray 104 (0,0))
 c:w.heap[cp]? = some (.cells cc.toArray 204 (0,0))
 s:w.heap[sb]? = some (.map #[] 0)
 tt:T tb=17
 tc:T cp=18
 ts:T sb=0/\lo<=sb
 m:aQ w.heap mk ml
 mt:∀i,mk.aw=some i->T i=0/\lo<=i/\i < w.heap.size
 mn:ml.length=16
 mB:B8 ml
 hs:KC w T lo hs wl
section
variable {lo tb cp sb:Nat} {ml wl:List Int} {rf:Rf} {ch:Int} {cc:List Value}
theorem vW.ext{S:Nat->Prop}(t:vW w T lo tb cp sb mk hs ml wl rf ch cc)(x:Ext S w w')(h:∀i,S i->(1<=T i/\T i<=16)∨(T i=0/\i < lo))(a:∀i,i < w.heap.size->T' i=T i):vW w' T' lo tb cp sb mk hs ml wl rf ch cc:=by
 have n0:∀i,T i=0->lo<=i->¬ S i:=fun i h1 h2 h3=>by have:=h i h3;omega
 have n17:∀i,17<=T i->¬ S i:=fun i h1 h3=>by have:=h i h3;omega
 exact⟨ar t.g x (n17 _ (by rw[t.tt];decide)),ar t.c x (n17 _ (by rw[t.tc];decide)),ar t.s x (n0 _ t.ts.1 t.ts.2),(a _ (aN t.g)).trans t.tt,(a _ (aN t.c)).trans t.tc,⟨(a _ (aN t.s)).trans t.ts.1,t.ts.2⟩,t.m.ext x fun p i hp hi e=>(fun hh=>n0 i hh.1 hh.2.1 e) (t.mt i (by simp[Sl.aw,hp,hi])),fun i hi=>⟨(a i (t.mt i hi).2.2).trans (t.mt i hi).1,(t.mt i hi).2.1,Nat.lt_of_lt_of_le (t.mt i hi).2.2 x.size⟩,t.mn,t.mB,t.hs.ext x (fun i h1 h2=>n0 i h2 h1) fun i hi h0=>(a i hi).trans h0⟩
theorem vW.mono(t:vW w T lo tb cp sb mk hs ml wl rf ch cc){lo':Nat}(h:lo'<=lo):vW w T lo' tb cp sb mk hs ml wl rf ch cc:=
 ⟨t.g,t.c,t.s,t.tt,t.tc,⟨t.ts.1,Nat.le_trans h t.ts.2⟩,t.m,fun i hi=>⟨(t.mt i hi).1,Nat.le_trans h (t.mt i hi).2.1,(t.mt i hi).2.2⟩,t.mn,t.mB,t.hs.mono h⟩
end
abbrev RN:List Value:=[.map none,.int .u64 0]
set_option maxHeartbeats 1000000 in
theorem RO{vb al:Nat}{ky:Sl}{kl:List Int}{op:Bool}{mp:MP}{K:Pw}(V:gg w T ⟨vb,ky,kl,op,mp,al,[]⟩ s)(C:Ni w T (some ⟨vb,0,none⟩) c0 c1 c2 c3 key kk KB mk ml hs)(hk:ki s.ks ⟨1,1⟩=none)(hn:s.ks.length < 50){wl:List Int}{lo:Nat}(H:KC w T lo hs wl)(hlo:lo<=w.heap.size)(Sk:∀i,mk.aw=some i->lo<=i)
  (k:∀T' q tb cp sb w',gg w' T' ⟨vb,ky,kl,op,mp,al,[(1,.pointer (some ⟨tb,0,none⟩))]⟩ { s with ks:=s.ks++[⟨⟨1,1⟩,q,kk⟩] }->vW w' T' lo tb cp sb mk hs ml wl .z 0 RN->iX T w T' w'->(∀i,i < w.heap.size->T' i=T i)->K w') :
  gF ⟨c0,0,none⟩ ⟨c1,0,none⟩ ⟨c2,0,none⟩ ⟨c3,0,none⟩ w K:=by
 apply sS;have xd:Ext No w (ae w):=(Ext.refl _ _).drew;have tm:=V.y.rn.t2;have nz:∀i,T i=0->¬ (i=s.mb):=fun i h e=>by rw[e,tm]at h;exact absurd h (by decide)
 have nv:¬ (vb=s.mb):=fun e=>by have:=V.tb;simp only at this;rw[e,tm]at this;exact absurd this (by decide)
 refine⟨Ext (·=s.mb) w,xd.az,_,aj.aF (Cell.af C.g0 rfl) (nz _ C.t0),Nn.mk ⟨s.rB,aj.aF (Cell.af V.b rfl) nv,1,aj.aF (Cell.af C.g1 C.h1) (nz _ C.t1),key,aj.aF (Cell.af C.g2 rfl) (nz _ C.t2),?_⟩⟩;have Vd:=V.no xd;refine og Vd.y.rn.r hk (Rd.no C.k xd) C.kB (.inl (by rw[aQ.len C.k];exact C.MM)) fun q w1 R1 hq x1=>?_
 have x01:Ext (·=s.mb) w w1:=x1.an;obtain⟨y1,s1⟩:=V.y.ring (k:=⟨⟨1,1⟩,q,kk⟩) R1 hq x01 (by omega);refine⟨x01,dU ⟨x01,?_⟩⟩;have V1:=V.sy s1 y1 rfl rfl rfl rfl rfl;have C1:=C.Qi s1;generalize hT1:fY T w.heap.size w1.heap.size 3=T1 at y1 s1 V1 C1;have xd1:Ext No w1 (ae w1):=(Ext.refl _ _).drew;have ta:=V1.ta;simp only at ta;have na:∀i,T1 i=0->¬ (i=al):=fun i h e=>by rw[e,ta]at h;exact absurd h (by decide)
 have nv1:¬ (vb=al):=fun e=>by have:=V1.tb;simp only at this;rw[e,ta]at this;exact absurd this (by decide)
 refine⟨Ext (·=al) w1,xd1.az,_,aj.aF (Cell.af C1.g0 rfl) (na _ C1.t0),Nn.mk ⟨some al,aj.aF (Cell.af V1.b rfl) nv1,1,aj.aF (Cell.af C1.g1 C.h1) (na _ C1.t1),1,aj.aF (Cell.af C1.g3 rfl) (na _ C1.t3),10,aj.aF (Cell.af C1.g3 rfl) (na _ C1.t3),mk,aj.aF (Cell.af C1.g3 rfl) (na _ C1.t3),0,aj.aF (Cell.af C1.g3 rfl) (na _ C1.t3),0,aj.aF (Cell.af C1.g3 rfl) (na _ C1.t3),0,aj.aF (Cell.af C1.g3 rfl) (na _ C1.t3),0,aj.aF (Cell.af C1.g3 rfl) (na _ C1.t3),0,aj.aF (Cell.af C1.g3 rfl) (na _ C1.t3),hs,aj.aF (Cell.af C1.g3 rfl) (na _ C1.t3),?_⟩⟩
 have fin:∀(tb cp sb:Nat)(u:Wd),Ext No w1 u->w1.heap.size<=tb->w1.heap.size<=sb->w1.heap.size<=cp->tb≠cp/\sb≠tb/\sb≠cp->u.heap[tb]? = some (.cells (XK mk hs .z 0 cp sb).toArray 104 (0,0))->u.heap[cp]? = some (.cells RN.toArray 204 (0,0))->u.heap[sb]? = some (.map #[] 0)->
   ∃u',Sem.run pz (Instr.mapUpdate 49 (.map (some al)) (.int .u32 1) (.pointer (some (Addr.mk tb 0 none)))) u = .ok () u'/\Ext (·=al) w1 u'/\K u':=fun tb cp sb u xu htb Wg hcp du gt gc gs=>by
  have Vu:=V1.no xu;obtain⟨u',hr,m',x',z'⟩:=aG (P:=pz) (a:=(1:Int)) (v:= .pointer (some ⟨tb,0,none⟩)) ku H8 Vu.a;have t1:T1 tb=0:=V1.y.out tb htb;have t2:T1 sb=0:=V1.y.out sb Wg;have t3:T1 cp=0:=V1.y.out cp hcp;refine⟨u',hr,xu.az.trans x' fun i _ e=>e,?_⟩
  obtain⟨T2,hT⟩ : ∃T2:Nat->Nat,T2=fun i=>if i=tb then 17 else if i=cp then 18 else T1 i:=⟨_,rfl⟩
  have e2:∀i,T1 i≠0->T2 i=T1 i:=fun i hi=>by
   rw[hT];show(if i=tb then 17 else if i=cp then 18 else T1 i)=_;rw[if_neg fun e=>hi (by rw[e];exact t1),if_neg fun e=>hi (by rw[e];exact t3)]
  have e3:∀i,i < w1.heap.size->T2 i=T1 i:=fun i hi=>by
   rw[hT];show(if i=tb then 17 else if i=cp then 18 else T1 i)=_;rw[if_neg (by omega),if_neg (by omega)]
  have Yx:=aN gt;have Na:=aN gc
  have V2:gg u' T2 ⟨vb,ky,kl,op,mp,al,[(1,.pointer (some ⟨tb,0,none⟩))]⟩ { s with ks:=s.ks++[⟨⟨1,1⟩,q,kk⟩] }:=by
   refine(Vu.ten m' x').U3 e2 fun i hi=>?_
   rw[hT];show(if i=tb then 17 else if i=cp then 18 else T1 i)=_;have:=x'.size;rw[if_neg (by omega),if_neg (by omega)];exact(Vu.ten m' x').y.out i hi
  have st:iX T w T2 u':=by
   have h:=((s1.tw).nx xu).trans (iX.one x' (by simp only;rw[ta];decide));exact⟨fun i hi h0=>by rw[e3 i (by have:=s1.x.size;omega)];exact h.z i hi h0,h.x⟩
  refine k T2 q tb cp sb u' V2 ⟨ar gt x' (na tb t1),ar gc x' (na cp t3),ar gs x' (na sb t2),by rw[hT];exact if_pos rfl,by rw[hT];show(if cp=tb then 17 else if cp=cp then 18 else T1 cp)=18;rw[if_neg fun e=>du.1 e.symm,if_pos rfl],by rw[hT];show(if sb=tb then 17 else if sb=cp then 18 else T1 sb)=0/\lo<=sb;rw[if_neg du.2.1,if_neg du.2.2];exact⟨t2,by have:=s1.x.size;omega⟩,C.m.ext st.x fun p i hp hi e=>e (C.mt i (by simp[Sl.aw,hp,hi])).1,fun i hi=>⟨st.z i (C.mt i hi).2.2 (C.mt i hi).1,Sk i hi,Nat.lt_of_lt_of_le (C.mt i hi).2.2 st.x.size⟩,C.J_,C.mB,H.stw st⟩ st fun i hi=>(e3 i (by have:=s1.x.size;omega)).trans (s1.a i hi)
 constructor
 .refine oh fun cp w3 g3 h3 x3=>⟨(x3.an).az,fun sb w4 n4=>⟨(x3.an.no n4.ext).az,fun tb w5 n5=>⟨((x3.an.no n4.ext).no n5.ext).az,?_⟩⟩⟩
  have z3:=x3.size;have z4:=n4.size;have zd:(ae w1).heap.size=w1.heap.size:=rfl;obtain⟨u',h1,h2,h3⟩:=fin tb cp sb w5 ((x3.an.no n4.ext).no n5.ext) (by rw[n5.at_];omega) (by rw[n4.at_];omega) (by omega) (by have:=n4.at_;have:=n5.at_;have:=aN g3;omega) n5.get (ah (ah g3 n4.ext) n5.ext) (ah n4.get n5.ext);exact⟨u',h1,h2,h3⟩
 .refine fun sb w4 n4=>⟨(n4.ext.an).az,oh fun cp w3 g3 h3 x3=>⟨(n4.ext.an.no x3).az,fun tb w5 n5=>⟨((n4.ext.an.no x3).no n5.ext).az,?_⟩⟩⟩
  have z3:=x3.size;have z4:=n4.size;have zd:(ae w1).heap.size=w1.heap.size:=rfl;obtain⟨u',h1,h2,h3⟩:=fin tb cp sb w5 ((n4.ext.an.no x3).no n5.ext) (by rw[n5.at_];omega) (by rw[n4.at_];omega) (by omega) (by have:=n4.at_;have:=n5.at_;have:=aN g3;omega) n5.get (ah g3 n5.ext) (ah n4.get (x3.no n5.ext));exact⟨u',h1,h2,h3⟩
end
end Go.Proofs.YtiigcapldngijaaGreat
namespace Go.Proofs.YtiigcapldngijaaGreat
open Go.V Go.V.Pk Go.V.Dk Go.V.Rn
abbrev Hg:MP:=⟨1,2,1,1,0,1,1⟩
theorem U5:Hg.OK:=⟨⟨by decide,by decide⟩,⟨by decide,by decide⟩,⟨by decide,by decide⟩,⟨by decide,by decide⟩,rfl,⟨by decide,by decide⟩,⟨by decide,by decide⟩⟩
abbrev Ke(ml wl:List Int):List Int:=pad (wr 1 0 [⟨be 4 1,fy (stP ml wl 1),0,.z,.z⟩])
abbrev Kf:iV:=⟨0,1,0,2,1,1⟩
def O5(kq ml wl:List Int):DS:=Up (Sd (Wd (Sd (Wd (Up (pD 100)) 2 (bE kq Kf (Ke ml wl)))) 1 (bE kq Hg.oq Hg.bytes)))
structure Hh(w:Wd)(T:Nat->Nat)(lo:Nat)(v:VA)(s:SA)(kq kk ml:List Int)(drs:List (List Int)):Prop where
 V:gg w T v s
 op:v.op=true
 mp:v.mp=Hg
 tn:∃tb cp sb mk hs,v.ts=[(1,.pointer (some ⟨tb,0,none⟩))]/\vW w T lo tb cp sb mk hs ml (kg kq 1 1 1 kk) .z 0 RN
 ks:∃q q1,s.ks=[⟨⟨0,1⟩,q,kq⟩,⟨⟨1,1⟩,q1,kk⟩]
 pg:∃sl,s.ps=[⟨2,Kf,sl,Ke ml (kg kq 1 1 1 kk)⟩]
 D:s.D=O5 kq ml (kg kq 1 1 1 kk)
 L:s.L.length=2
 R:∃dev,s.R=⟨dev,1000,1,1,drs⟩
 F:s.F=[(3,100)]
 z:s.wl=[]/\s.cm=0/\s.la=1/\s.N=100
section
variable {w w':Wd} {T T':Nat->Nat} {s:SA} {v:VA} {c0 c1 c2 c3:Nat} {key:Sl} {kk:List Int} {KB:List Value} {mk:Sl} {ml:List Int} {hs:Sl}
theorem fF3:zV (cZ [(2,100)]):=by
 have e:cZ [(2,100)]=[(3,100)]:=by decide
 rw[e];intro r hr;simp only[List.mem_singleton]at hr;subst hr;decide
theorem agk{d:tQ}{D:DS}{g:DY}{R:RS}{rb mb lb pb kb wb nb m m':Nat}{q ls fr:Sl}{kq:List Int}{L:List LE} :
  Hf ⟨d,D,g,R,rb,mb,[⟨⟨0,1⟩,q,kq⟩],lb,ls,L,pb,fr,[(2,100)],kb,[],wb,nb,some m,some m',[],[],[],1,1,false,100⟩ 0 1 (2,100) m:=
 ⟨by show(1:Int)≠0;decide,rfl,rfl,⟨[],rfl⟩,by show bw [(2,100)]=true;decide,rfl,fun k h=>(nomatch h),fun n h=>(nomatch h),by simp[iV.OK,lO,By],by show zV (cZ [(2,100)]);exact fF3,by show(cZ [(2,100)]).length<=1000;decide⟩
set_option maxHeartbeats 1000000 in
theorem Kg{vb al:Nat}{ky:Sl}{kl:List Int}{K:Pw}{d:tQ}{g:DY}{dev:Option Addr}{drs:List (List Int)}{rb mb lb pb kb wb nb:Nat}{q ls fr:Sl}{kq:List Int}{pm dm:Option Nat}{pu dl:List Int}{fl:Bool}
  (V:gg w T ⟨vb,ky,kl,true,JZ,al,[]⟩ ⟨d,pD 100,g,⟨dev,1000,0,0,drs⟩,rb,mb,[⟨⟨0,1⟩,q,kq⟩],lb,ls,[],pb,fr,[(2,100)],kb,[],wb,nb,pm,dm,pu,[],dl,0,0,fl,100⟩) (C:Ni w T (some ⟨vb,0,none⟩) c0 c1 c2 c3 key kk KB mk ml hs) (U4:kq.length=32) {lo:Nat} (hlo:lo<=w.heap.size) (Sk:∀i,mk.aw=some i->lo<=i)
  (k:∀T' v' s' w',Hh w' T' lo v' s' kq kk ml drs->v'.vb=vb->v'.kl=kl->(∀i,i < w.heap.size->T i=0->T' i=0)->Ext (fun i=>T i≠0∨i=c3) w w'->K w') :
  bC (some ⟨vb,0,none⟩) (.func (.func 131) #[] #[.pointer (some ⟨c0,0,none⟩),.pointer (some ⟨c1,0,none⟩),.pointer (some ⟨c2,0,none⟩),.pointer (some ⟨c3,0,none⟩)]) (.func (.func 137) #[] #[.pointer (some ⟨c0,0,none⟩),.pointer (some ⟨c1,0,none⟩),.pointer (some ⟨c2,0,none⟩),.pointer (some ⟨c3,0,none⟩)]) w K:=by
 apply lS;refine fun b w1 n1=>?_
 have a1:=n1.at_;have z1:=n1.size;have V1:=V.no n1.ext;have C1:=C.no n1.ext;have xd:Ext No w1 (ae w1):=(Ext.refl _ _).drew;have J6:T b=0:=V.y.out b (by omega);have XL:=V.tb;simp only at XL;have VP:¬ (1<=T b/\T b<=12):=by omega
 have nv0:¬ (1<=T vb/\T vb<=12):=by omega
 refine⟨Ext (fun i=>1<=T i/\T i<=12) w1,xd.az,_,aj.aF (Cell.af n1.get rfl) VP,Nn.mk ⟨_,aj.aF (Cell.af V1.b rfl) nv0,_,aj.aF (Cell.af n1.get rfl) VP,Nn.mk ⟨_,aj.aF (Cell.af V1.b rfl) nv0,?_⟩⟩⟩;refine FU (V1.no xd).y rfl ⟨by show(0:Int)<=0;decide,by show(0:Int)<=0;decide⟩ (by show(0:Int) < 1000;decide) (by show(1000:Int)<=18446744073709551615;decide) (by show(0:Int) < 1000;decide) ⟨by show(0:Int)<=0;decide,by show((0:Int)+1) % 2≠0 % 2;decide⟩ fun T2 m m' w2 y2 s2=>?_
 have FR:bu T w1 T2 w2:=(bu.no xd).trans s2;refine⟨FR.x,L0 ⟨FR.x,fun b1 w4 n4=>?_⟩⟩;have V2:=V1.sy FR y2 rfl rfl rfl rfl rfl;have C2:=C1.Qi FR;have gb2:=FR.aw n1.get (.inl J6);have KA:T2 b=0:=(FR.a b (aN n1.get)).trans J6;have a4:=n4.at_;have z4:=n4.size;refine aH.mk n4.get Nat.one_pos rfl fun w5 h5=>?_
 have RP:=h5.get n4.get;have kv:Ext No w2 w5:=n4.ext.out h5.ext (by show w2.heap.size<=b1;omega);have V5:=V2.no kv;have C5:=C2.no kv;have ZC:=ah gb2 kv;have VW:T2 b1=0:=y2.out b1 (by omega);have b1c:∀{o:Obj}{i:Nat},w2.heap[i]? = some o->b1≠i:=fun h e=>by have:=aN h;omega
 refine sV (O4 V5 C5 rfl U4 agk fun T6 s6 VN w6 V6 q6 H6 C6 a6 x6=>?_);obtain⟨fr6,sl6,rfl⟩:=q6;have k6:∀{o:Obj}{i:Nat},w5.heap[i]? = some o->T2 i=0->i≠c3->w6.heap[i]? = some o:=fun h ht hc=>ar h x6 fun e=>by rcases e with e | e <;> omega
 have Gh:=k6 ZC KA (by have:=aN C.g3;omega);have O6:=k6 RP VW (b1c C2.g3);have Zx:T6 b=0:=(a6 b (aN ZC)).trans KA;have MN:T6 b1=0:=(a6 b1 (aN RP)).trans VW
 refine fun b2 w7 n7=>⟨rfl,bO.mk n7.get (Nat.le_refl 6) (a_ rfl) fun w8 h8=>?_⟩
 have Qj:=h8.get n7.get;have a7:=n7.at_;have z7:=n7.size;have wz:Ext No w6 w8:=n7.ext.out h8.ext (by show w6.heap.size<=b2;omega);refine aH.mk (ah O6 wz) Nat.one_pos rfl fun w9 h9=>?_
 have x89:Ext (·=b1) w8 w9:=h9.ext;have abA:=h9.get (ah O6 wz);have lb6:=aN O6;have O7:=ar Qj x89 (by omega);refine⟨2,Cell.af O7 rfl,1,Cell.af O7 rfl,1,Cell.af O7 rfl,0,Cell.af O7 rfl,1,Cell.af O7 rfl,1,Cell.af O7 rfl,Ar.u32 (by decide) fun b3 eK ke=>⟨rfl,bO.mk ke.get (Nat.le_refl 7) (a_ rfl) fun eM Gj=>?_⟩⟩;have rO:=Gj.get ke.get;have a10:=ke.at_;have Sq:=ke.size;have U6:Ext No w9 eM:=ke.ext.out Gj.ext (by show w9.heap.size<=b3;omega);have rQ:Ext (·=b1) w6 eM:=(wz.az.trans x89 fun i _ e=>e).trans U6.az fun i _ e=>e
 have XM:=V6.loc rQ fun i hi=>by rw[hi];exact .inl MN
 have C11:Ni eM T6 (some ⟨vb,0,none⟩) c0 c1 c2 c3 key kk KB mk ml VN:=by
  refine⟨ar C6.g0 rQ ?_,ar C6.g1 rQ ?_,C6.h1,ar C6.g2 rQ ?_,ar C6.g3 rQ ?_,C6.t0,C6.t1,C6.t2,C6.t3,C6.n0,C6.n1,C6.n2,C6.k.ext rQ fun p i hp hi e=>?_,C6.MM,C6.kB,fun i hi=>⟨(C6.kt i hi).1,Nat.lt_of_lt_of_le (C6.kt i hi).2 rQ.size⟩,C6.m.ext rQ fun p i hp hi e=>?_,C6.J_,C6.mB,fun i hi=>⟨(C6.mt i hi).1,(C6.mt i hi).2.1,Nat.lt_of_lt_of_le (C6.mt i hi).2.2 rQ.size⟩⟩
  .exact fun e=>b1c C2.g0 e.symm
  .exact fun e=>b1c C2.g1 e.symm
  .exact fun e=>b1c C2.g2 e.symm
  .exact fun e=>b1c C2.g3 e.symm
  .have:=(C6.kt i (by simp[Sl.aw,hp,hi])).1;rw[e,MN]at this;omega
  .have:=(C2.mt i (by simp[Sl.aw,hp,hi])).2.2;omega
 have MO:=ar Gh rQ (by have:=aN gb2;omega);have MQ:=ah abA U6;have abB:=V6.tb;simp only at abB;have nb6:¬ (1<=T6 b/\T6 b<=12):=by omega
 have nv6:¬ (1<=T6 vb/\T6 vb<=12):=by omega
 have UT:T6 b3=0:=V6.y.out b3 (by have:=wz.size;have:=x89.size;omega);have O8:¬ (1<=T6 b3/\T6 b3<=12):=by omega
 have O9:Ext No eM (ae eM):=(Ext.refl _ _).drew;refine⟨Ext (fun i=>1<=T6 i/\T6 i<=12) eM,O9.az,_,aj.aF (Cell.af MO rfl) nb6,Nn.mk ⟨_,aj.aF (Cell.af XM.b rfl) nv6,_,aj.aF (Cell.af MO rfl) nb6,Nn.mk ⟨_,aj.aF (Cell.af XM.b rfl) nv6,1,aj.aF (Cell.af rO rfl) O8,2,aj.aF (Cell.af rO rfl) O8,1,aj.aF (Cell.af rO rfl) O8,1,aj.aF (Cell.af rO rfl) O8,0,aj.aF (Cell.af rO rfl) O8,1,aj.aF (Cell.af rO rfl) O8,1,aj.aF (Cell.af rO rfl) O8,?_⟩⟩⟩
 refine Xf (m:=Hg) (l:=[(⟨2,Kf,sl6,Ke ml (kg kq 1 1 1 kk)⟩,⟨⟨0,1⟩,q,kq⟩)]) (mm:=m) (q0:=⟨⟨0,1⟩,q,kq⟩) (XM.no O9).y U5 (by show(1:Int)≠0;decide) rfl rfl rfl rfl (.inl (Nat.le_refl 1)) (fun x hx=>by
  simp only[List.mem_singleton]at hx;subst hx
  exact⟨rfl,List.mem_singleton.2 rfl,by show(2:Int)<=2;decide,by show(2:Int) < 100;decide,rfl⟩) rfl (by show 0 < 90;decide) (by show(0:Int)+1 < 800;decide) (by show 0 < 800;decide) rfl (by show(0:Int) < 1;decide) rfl fun FQ d12 aid gO y12 abC=>?_
 have mw:bu T6 eM FQ gO:=(bu.no O9).trans abC;refine⟨mw.x,dU ⟨mw.x,?_⟩⟩;have SC:=XM.sy mw y12 rfl rfl rfl rfl rfl;have AY:=C11.Qi mw;have abD:=mw.aw MO (.inl Zx);have U7:=mw.aw MQ (.inl MN);have zC:=mw.aw rO (.inl UT);have aie:FQ b=0:=(mw.a b (aN MO)).trans Zx;have F9:FQ b1=0:=(mw.a b1 (aN MQ)).trans MN;refine⟨_,Cell.af abD rfl,_,Cell.af zC rfl,_,Cell.af zC rfl,_,Cell.af zC rfl,_,Cell.af zC rfl,_,Cell.af zC rfl,_,Cell.af zC rfl,_,Cell.af zC rfl,Nn.mk ⟨rfl,bO.mk SC.b (Nat.le_of_ble_eq_true rfl) (a_ rfl) fun lR Md=>?_⟩⟩;have iT:Ext (·=vb) gO lR:=Md.ext;have V14:=SC.put (op:=true) (mp:=Hg) (Md.get SC.b) iT;have CR:=SC.tb;simp only at CR
 have C14:Ni lR FQ (some ⟨vb,0,none⟩) c0 c1 c2 c3 key kk KB mk ml VN:=by
  have nz:∀i,FQ i=0->¬ (i=vb):=fun i h e=>by rw[e,CR]at h;exact absurd h (by decide)
  refine⟨ar AY.g0 iT (nz _ AY.t0),ar AY.g1 iT (nz _ AY.t1),AY.h1,ar AY.g2 iT (nz _ AY.t2),ar AY.g3 iT (nz _ AY.t3),AY.t0,AY.t1,AY.t2,AY.t3,AY.n0,AY.n1,AY.n2,AY.k.ext iT fun p i hp hi e=>?_,AY.MM,AY.kB,fun i hi=>⟨(AY.kt i hi).1,Nat.lt_of_lt_of_le (AY.kt i hi).2 iT.size⟩,AY.m.ext iT fun p i hp hi=>nz _ (AY.mt i (by simp[Sl.aw,hp,hi])).1,AY.J_,AY.mB,fun i hi=>⟨(AY.mt i hi).1,(AY.mt i hi).2.1,Nat.lt_of_lt_of_le (AY.mt i hi).2.2 iT.size⟩⟩;have:=(AY.kt i (by simp[Sl.aw,hp,hi])).1;rw[e,CR]at this;exact absurd this (by decide)
 have H14:KC lR FQ lo VN (kg kq 1 1 1 kk):=by
  refine KC.mono (lo:=w5.heap.size) ?_ (by have:=n1.ext.size;have:=FR.x.size;have:=kv.size;omega);have H11:KC eM T6 w5.heap.size VN (kg kq 1 1 1 kk):=H6.ext rQ (fun i hi _ e=>by have:=aN RP;omega) fun _ _ h=>h
  exact(H11.stw mw.tw).ext iT (fun i _ h e=>by rw[e,CR]at h;exact absurd h (by decide)) fun _ _ h=>h
 refine sT (RO V14 C14 rfl (by show 1 < 50;decide) H14 (by have:=n1.ext.size;have:=FR.x.size;have:=kv.size;have:=x6.size;have:=rQ.size;have:=mw.x.size;have:=iT.size;omega) Sk fun T15 q15 tt cp sb mU V15 t15 Y3 a15=>?_);have z25:=kv.size;have z2:=FR.x.size;have z56:=x6.size;have agl:=rQ.size;have adS:=mw.x.size;have z6:∀i,i < w.heap.size->T6 i=T i:=fun i hi=>(a6 i (by omega)).trans (FR.a i (by omega))
 have VS:∀i,i < w.heap.size->FQ i=T i:=fun i hi=>(mw.a i (by omega)).trans (z6 i hi)
 have TL:Ext (fun i=>T i≠0∨i=c3) w lR:=by
  have e2:Ext (fun i=>T i≠0∨i=c3) w w2:=n1.ext.az.trans FR.x fun i _ h=> .inl (by omega)
  have e6:Ext (fun i=>T i≠0∨i=c3) w w6:=(e2.trans kv.az fun i _ h=>h).trans x6 fun i hi h=>h.imp (fun h=>by rw[FR.a i (by omega)]at h;omega) id
  have UU:Ext (fun i=>T i≠0∨i=c3) w gO:=(e6.trans rQ fun i hi e=>by omega).trans mw.x fun i hi h=> .inl (by rw[z6 i hi]at h;omega)
  exact UU.trans iT fun i hi e=> .inl (by rw[e,XL];decide)
 have U8:=ar U7 iT fun e=>by rw[e,CR]at F9;exact absurd F9 (by decide)
 have adT:=Y3.aw U8 F9;refine ka ⟨true,Cell.af adT rfl,If.not (If.yes ?_)⟩;refine k T15 _ _ mU ⟨V15,rfl,rfl,⟨tt,cp,sb,mk,VN,rfl,t15⟩,⟨q,q15,rfl⟩,⟨sl6,rfl⟩,rfl,rfl,⟨dev,rfl⟩,by show cZ [(2,100)]=[(3,100)];decide,⟨rfl,rfl,rfl,rfl⟩⟩ rfl rfl (fun i hi h=>?_) ?_
 .have:=VS i hi;rw[a15 i (by have:=TL.size;omega),this];exact h
 .exact TL.trans Y3.x fun i hi h=> .inl (by rw[<- VS i hi];exact h)
end
end Go.Proofs.YtiigcapldngijaaGreat
namespace Go.Proofs.YtiigcapldngijaaGreat
open Go.V Go.V.Pk Go.V.Dk Go.V.Rn
section
variable {w w':Wd} {T T':Nat->Nat}
set_option maxHeartbeats 1000000 in
theorem MR{vb al:Nat}{ky sec:Sl}{kl sl:List Int}{d:tQ}{g:DY}{dev:Option Addr}{l:List Int}{drs:List (List Int)}{rb mb lb pb kb wb nb:Nat}{q ls fr:Sl}{kq:List Int}{pm dm:Option Nat}{pu dl:List Int}{fl:Bool}
  {c4 c5 c6 c7 c8:Int} {c9 c10 c11 c12:Sl} {c13:Bool} {K:Int->Int->Int->Sl->Sl->Int->Sl->Pw}
  (V:gg w T ⟨vb,ky,kl,true,JZ,al,[]⟩ ⟨d,pD 100,g,⟨dev,1000,0,0,l::drs⟩,rb,mb,[⟨⟨0,1⟩,q,kq⟩],lb,ls,[],pb,fr,[(2,100)],kb,[],wb,nb,pm,dm,pu,[],dl,0,0,fl,100⟩) (U4:kq.length=32) (hl:16<=l.length)
  (hs:aQ w.heap sec sl) (PL:B8 sl) (od:sec.len=16) (wg:∀i,sec.aw=some i->T i=0)
  (k:∀T' v' s' w',Hh w' T' w.heap.size v' s' kq (l.take 16) (pq kl sl) drs->(v'.vb=vb/\v'.kl=kl)->iX T w T' w'->K 0 0 0 ⟨none,0,0⟩ ⟨none,0,0⟩ 0 ⟨none,0,0⟩ w'):ib (some ⟨vb,0,none⟩) 1 1 sec 10 c4 c5 c6 c7 c8 c9 c10 c11 c12 c13 w K:=by
 apply vB;refine fun b w1 n1 b1 w2 n2 b2 w3 n3=>?_
 have a1:=n1.at_;have z1:=n1.size;have a2:=n2.at_;have z2:=n2.size;have a3:=n3.at_;have z3:=n3.size;have x3:Ext No w w3:=(n1.ext.no n2.ext).no n3.ext;have g0:=ah (ah n1.get n2.ext) n3.ext;have g1:=ah n2.get n3.ext;have g2:=n3.get;refine⟨fun u=>w3=u,⟨1,Cell.af g1 rfl,If.beq (fun h=>absurd h (by decide)) fun _=>⟨sec,Cell.af g1 rfl,If.bne (fun h=>absurd (by rw[od];rfl) h) fun _=>⟨10,Cell.af g1 rfl,If.dec (fun h=>absurd h (by decide)) fun _=>⟨10,Cell.af g1 rfl,If.dec (fun h=>absurd h (by decide)) fun _=>rfl⟩⟩⟩⟩,?_⟩;rintro _ _ rfl;have V3:=V.no x3;have xd:Ext No w3 (ae w3):=(Ext.refl _ _).drew;have Vd:=V3.no xd;have hlk:=fq (P:=pz) (a:=(1:Int)) ku H8 (Kd (ae w3)) Vd.a;refine⟨fun u=>ae w3=u,⟨Ext No w3,xd,_,aj.aF (Cell.af g0 rfl) (fun h=>h),Nn.mk ⟨some al,aj.aF (Cell.af V3.b rfl) (fun h=>h),1,aj.aF (Cell.af g1 rfl) (fun h=>h),none,ae w3,hlk,xd,If.no rfl⟩⟩,?_⟩;rintro _ _ rfl;have g0d:=ah g0 xd;have g1d:=ah g1 xd;have g2d:=ah g2 xd;have zd:(ae w3).heap.size=w3.heap.size:=rfl;refine⟨10,Cell.af g1d rfl,fun b3 gO pK=>⟨_,Cell.af (ah g0d pK.ext) rfl,Nn.mk ⟨some al,Cell.af (Vd.no pK.ext).b rfl,?_⟩⟩⟩;have SC:=Vd.no pK.ext;obtain⟨fV,eH,hI,iY,W3⟩:=Ei.start (P:=pz) H8 SC.a;refine⟨some ⟨gO.heap.size,0,none⟩,fV,eH,fun _ lx u=>⟨some ⟨b3,0,none⟩,1,1⟩=lx/\fV=u,⟨0,rfl,rfl⟩,?_⟩;rintro _ _ _ _ ⟨rfl,rfl⟩;have alt:al < gO.heap.size:=map_lt SC.a;rcases hI.next (P:=pz) (show gO.heap.size≠al by omega) with⟨_,mU,hn,ld⟩ | ⟨p,w',_,_,_,_,hp,_⟩
 rotate_left
 .cases hp
 refine .inl ⟨mU,hn,?_⟩;have D8:Ext No w3 mU:=((xd.no pK.ext).no iY).no ld;have V15:=V3.no D8;have RQ:=ah g0 D8;have Kh:=ah g1 D8;have MS:=ah g2 D8;have o3:Rd mU.heap ⟨some ⟨b3,0,none⟩,1,1⟩ 1 ([10].map (Value.int .i64)):=Rd.no (aP.new (n:=1) (sz:=1) pK rfl (a_ rfl)).rd (iY.no ld);refine⟨fun u=>mU=u,⟨_,Cell.af RQ rfl,Nn.mk ⟨100,Cell.af V15.b rfl,Q3 o3 ⟨by decide,by decide⟩ (If.not (If.yes (If.bne (fun h=>absurd rfl h) fun _=>rfl)))⟩⟩,?_⟩;rintro _ _ rfl;refine⟨_,Cell.af RQ rfl,Nn.mk ⟨_,Cell.af V15.b rfl,?_⟩⟩;refine XI V15 (l:=l) (ls:=drs) rfl hl fun Td g' ks yZ V21 hz VX hkr hkt=>eO ?_
 have XN:Ext (fun i=>T i≠0) w yZ:=(x3.no D8).az.trans VX fun i _ h=>h
 have tz:∀i,w.heap.size<=i->T i=0:=fun i hi=>V.y.out i hi
 have adU:=ar RQ VX fun h=>h (tz b (by omega))
 have adV:=ar Kh VX fun h=>h (tz b1 (by omega))
 have adW:=ar MS VX fun h=>h (tz b2 (by omega))
 have agm:=D8.size;have z21:=VX.size;refine fun b4 Jm My=>aH.mk My.get Nat.one_pos rfl fun iD H4=>?_
 have a23:=My.at_;have z23:=My.size;have adX:=H4.get My.get;have mq:Ext No yZ iD:=My.ext.out H4.ext (by show yZ.heap.size<=b4;omega);have ZH:=V21.no mq;have U9:=ah adU mq;have XO:=ah adV mq;have XE:=ah adW mq;have z24:=mq.size;have jj:B8 (l.take 16):=fun x hx=>V.y.rg.r.b8 l List.mem_cons_self x (List.mem_of_mem_take hx)
 have RR:aQ iD.heap sec sl:=((Rd.no hs (x3.no D8)).ext VX fun p i hp hi h=>h (wg i (by simp[Sl.aw,hp,hi]))).no mq
 have tail:∀(mk:Sl)(ml:List Int)(b5:Nat)(u:Wd)(Kc:Pw),Ext No iD u->aQ u.heap mk ml->ml.length=16->B8 ml->(∀i,mk.aw=some i->iD.heap.size<=i/\i≠b5/\i < u.heap.size)->iD.heap.size<=b5->u.heap[b5]? = some (.cells (ZE mk ⟨none,0,0⟩).cells.toArray 100 (0,0))->
   (∀T' v' s' w',Hh w' T' iD.heap.size v' s' kq (l.take 16) ml drs->(v'.vb=vb/\v'.kl=kl)->iX T w T' w'->T' b2=0->w'.heap[b2]? = some (.cells [Value.int .i64 0,.int .u64 0,.int .u64 0,.slice none 0 0,.slice none 0 0,.int .i64 0,.slice none 0 0].toArray 61 (0,0))->Kc w')->
   bC (some ⟨vb,0,none⟩) (.func (.func 131) #[] #[.pointer (some ⟨b,0,none⟩),.pointer (some ⟨b1,0,none⟩),.pointer (some ⟨b4,0,none⟩),.pointer (some ⟨b5,0,none⟩)]) (.func (.func 137) #[] #[.pointer (some ⟨b,0,none⟩),.pointer (some ⟨b1,0,none⟩),.pointer (some ⟨b4,0,none⟩),.pointer (some ⟨b5,0,none⟩)]) u Kc:=by
  intro mk ml b5 u Kc xu hm Gi Nj VM WU g5 hk;have to:∀i,yZ.heap.size<=i->Td i=0:=V21.y.out
  have lu:=xu.size;have t0:∀i,w.heap.size<=i->i < yZ.heap.size->Td i=0:=fun i h1 h2=>hz i (tz i h1)
  have gl:=aN adU;have gl1:=aN adV;have gl2:=aN adW;have gl4:=aN adX
  refine Kg (ZH.no xu) (c0:=b) (c1:=b1) (c2:=b4) (c3:=b5) (key:=ks) (kk:=l.take 16) (mk:=mk) (ml:=ml) (hs:=⟨none,0,0⟩)
   ⟨ah U9 xu,ah XO xu,rfl,ah adX xu,g5,t0 b (by omega) gl,t0 b1 (by omega) gl1,to b4 (by omega),to b5 (by omega),by omega,by omega,by omega,(Rd.no hkr mq).no xu,by rw[List.length_take];omega,jj,fun i hi=>⟨by rw[(hkt i hi).1];exact Nat.le_refl _,by have:=(hkt i hi).2;omega⟩,hm,Gi,Nj,fun i hi=>⟨to i (by have:=(VM i hi).1;omega),(VM i hi).2⟩⟩ U4 (lo:=iD.heap.size) lu (fun i hi=>(VM i hi).1) fun T' v' s' w' A hv uS hz' x'=>?_
  have g2u:=ah XE xu;refine hk T' v' s' w' A ⟨hv,uS⟩ ⟨fun i hi h=>hz' i (by have:=XN.size;omega) (hz i h),?_⟩ (hz' b2 (by omega) (t0 b2 (by omega) gl2)) (ar g2u x' fun h=>h.elim (fun h=>h (t0 b2 (by omega) gl2)) fun h=>by omega)
  exact((XN.trans mq.az fun i _ h=>h).trans xu.az fun i _ h=>h).trans x' fun i hi h h0=>by
   rcases h with h | h
   .exact h (hz i h0)
   .have:=XN.size;omega
 have rest:∀(T':Nat->Nat)(v':VA)(s':SA)(u:Wd),Hh u T' iD.heap.size v' s' kq (l.take 16) (pq kl sl) drs->(v'.vb=vb/\v'.kl=kl)->iX T w T' u->T' b2=0->u.heap[b2]? = some (.cells [Value.int .i64 0,.int .u64 0,.int .u64 0,.slice none 0 0,.slice none 0 0,.int .i64 0,.slice none 0 0].toArray 61 (0,0))->
   ∀u',mG u b2 (.cells [Value.int .i64 0,.int .u64 0,.int .u64 0,.slice none 0 0,.slice none 0 0,.int .i64 0,.slice none 0 0].toArray 61) u'->∃T'' v'' s'',Hh u' T'' w.heap.size v'' s'' kq (l.take 16) (pq kl sl) drs/\(v''.vb=vb/\v''.kl=kl)/\iX T w T'' u':=by
  intro T' v' s' u A hv st h0 hg u' h';have x':Ext (·=b2) u u':=h'.ext;obtain⟨tb,cp,sb,mk,hs,e1,e2⟩:=A.tn;have U_:b2 < iD.heap.size:=aN XE;have lw:w.heap.size<=iD.heap.size:=Nat.le_trans XN.size mq.size;exact⟨T',v',s',⟨A.V.loc x' fun i hi=>by rw[hi];exact .inl h0,A.op,A.mp,⟨tb,cp,sb,mk,hs,e1,(e2.ext x' (fun i hi=>by rw[hi];exact .inr ⟨h0,U_⟩) fun _ _=>rfl).mono lw⟩,A.ks,A.pg,A.D,A.L,A.R,A.F,A.z⟩,hv,st.out x' (by omega)⟩
 have abE:Ext No iD (ae iD):=(Ext.refl _ _).drew
 obtain⟨ml,Va⟩ : ∃ml,ml=pq kl sl:=⟨_,rfl⟩
 have Gi:ml.length=16:=by rw[Va];exact(AI V.kB PL).1
 have Nj:B8 ml:=by rw[Va];exact(AI V.kB PL).2
 rw[<- Va]at rest k;refine⟨Ext No iD,abE,1,aj.aF (Cell.af XO rfl) (fun h=>h),10,aj.aF (Cell.af XO rfl) (fun h=>h),_,aj.aF (Cell.af U9 rfl) (fun h=>h),Nn.mk ⟨ky,aj.aF (Cell.af ZH.b rfl) (fun h=>h),sec,aj.aF (Cell.af XO rfl) (fun h=>h),?_,?_⟩⟩
 .refine BX (Rd.no ZH.k abE) ZH.kB ZH.kn (Rd.no RR abE) PL od fun RT py arr YR kv=>?_
  rw[<- Va]at arr;refine⟨kv.an,?_,?_⟩
  .refine eO ⟨kv.an,fun b5 xi Eo=>⟨kv.an.no Eo.ext,rfl,?_⟩⟩;have a27:=Eo.at_;have z25:=kv.size;have lm:=aN arr;refine bO.mk Eo.get (Nat.le_refl 9) (dN.one (ZE ⟨some ⟨RT,0,none⟩,16,16⟩ ⟨none,0,0⟩)) fun FX US=>?_
   have Qj:=US.get Eo.get;have J8:Ext (·=b5) xi FX:=US.ext;have xu:Ext No iD FX:=(kv.an.no Eo.ext).out J8 (by have:(ae iD).heap.size=iD.heap.size:=rfl;omega);refine⟨_,Cell.af (ah U9 xu) rfl,tail ⟨some ⟨RT,0,none⟩,16,16⟩ ml b5 FX _ xu ?_ Gi Nj (fun i hi=>?_) (by have:(ae iD).heap.size=iD.heap.size:=rfl;omega) Qj fun T' v' s' OM A hv st h0 hg=>?_⟩
   .have h1:=arr.rd (o:=0) (n:=16) (c:=16) (by omega) (Nat.le_refl _);rw[List.drop_zero,List.take_of_length_le (by omega)]at h1
    exact(Rd.no h1 Eo.ext).ext J8 fun p i hp hi e=>by
     have:i=RT:=by cases hp;exact hi.symm
     omega
   .have e:i=RT:=by simp[Sl.aw]at hi;exact hi.symm
    have:(ae iD).heap.size=iD.heap.size:=rfl;have:=J8.size;have:=Eo.size;exact⟨by omega,by omega,by omega⟩
   .refine⟨0,Cell.af hg rfl,0,Cell.af hg rfl,0,Cell.af hg rfl,⟨none,0,0⟩,Cell.af hg rfl,⟨none,0,0⟩,Cell.af hg rfl,0,Cell.af hg rfl,⟨none,0,0⟩,Cell.af hg rfl,rfl,bO.mk hg (Nat.le_refl 7) (a_ rfl) fun CN ZI=>?_⟩;have xj:=ZI.get hg;obtain⟨T2,v2,s2,A2,uS,HV⟩:=rest T' v' s' OM A hv st h0 hg CN ZI;exact⟨0,Cell.af xj rfl,0,Cell.af xj rfl,0,Cell.af xj rfl,⟨none,0,0⟩,Cell.af xj rfl,⟨none,0,0⟩,Cell.af xj rfl,0,Cell.af xj rfl,⟨none,0,0⟩,Cell.af xj rfl,k T2 v2 s2 CN A2 uS HV⟩
  .refine fun b5 xi Eo=>⟨kv.an.no Eo.ext,eO ⟨kv.an.no Eo.ext,rfl,?_⟩⟩
   have a27:=Eo.at_;have z25:=kv.size;have lm:=aN arr;refine bO.mk Eo.get (Nat.le_refl 9) (dN.one (ZE ⟨some ⟨RT,0,none⟩,16,16⟩ ⟨none,0,0⟩)) fun FX US=>?_
   have Qj:=US.get Eo.get;have J8:Ext (·=b5) xi FX:=US.ext;have xu:Ext No iD FX:=(kv.an.no Eo.ext).out J8 (by have:(ae iD).heap.size=iD.heap.size:=rfl;omega);refine⟨_,Cell.af (ah U9 xu) rfl,tail ⟨some ⟨RT,0,none⟩,16,16⟩ ml b5 FX _ xu ?_ Gi Nj (fun i hi=>?_) (by have:(ae iD).heap.size=iD.heap.size:=rfl;omega) Qj fun T' v' s' OM A hv st h0 hg=>?_⟩
   .have h1:=arr.rd (o:=0) (n:=16) (c:=16) (by omega) (Nat.le_refl _);rw[List.drop_zero,List.take_of_length_le (by omega)]at h1
    exact(Rd.no h1 Eo.ext).ext J8 fun p i hp hi e=>by
     have:i=RT:=by cases hp;exact hi.symm
     omega
   .have e:i=RT:=by simp[Sl.aw]at hi;exact hi.symm
    have:(ae iD).heap.size=iD.heap.size:=rfl;have:=J8.size;have:=Eo.size;exact⟨by omega,by omega,by omega⟩
   .refine⟨0,Cell.af hg rfl,0,Cell.af hg rfl,0,Cell.af hg rfl,⟨none,0,0⟩,Cell.af hg rfl,⟨none,0,0⟩,Cell.af hg rfl,0,Cell.af hg rfl,⟨none,0,0⟩,Cell.af hg rfl,rfl,bO.mk hg (Nat.le_refl 7) (a_ rfl) fun CN ZI=>?_⟩;have xj:=ZI.get hg;obtain⟨T2,v2,s2,A2,uS,HV⟩:=rest T' v' s' OM A hv st h0 hg CN ZI;exact⟨0,Cell.af xj rfl,0,Cell.af xj rfl,0,Cell.af xj rfl,⟨none,0,0⟩,Cell.af xj rfl,⟨none,0,0⟩,Cell.af xj rfl,0,Cell.af xj rfl,⟨none,0,0⟩,Cell.af xj rfl,k T2 v2 s2 CN A2 uS HV⟩
 .refine fun b5 agn Eo=>⟨Eo.ext.an,?_⟩
  have xm:Ext No iD agn:=Eo.ext.an;refine BX (Rd.no ZH.k xm) ZH.kB ZH.kn (Rd.no RR xm) PL od fun RT xi arr YR kv=>?_
  rw[<- Va]at arr;refine⟨xm.no kv,eO ⟨xm.no kv,rfl,?_⟩⟩;have a27:=Eo.at_;have z25:=kv.size;have lm:=aN arr;have g27:=ah Eo.get kv;have l27:=aN Eo.get;refine bO.mk g27 (Nat.le_refl 9) (dN.one (ZE ⟨some ⟨RT,0,none⟩,16,16⟩ ⟨none,0,0⟩)) fun FX US=>?_
  have Qj:=US.get g27;have J8:Ext (·=b5) xi FX:=US.ext;have xu:Ext No iD FX:=(Eo.ext.an.no kv).out J8 (by have:(ae iD).heap.size=iD.heap.size:=rfl;omega);refine⟨_,Cell.af (ah U9 xu) rfl,tail ⟨some ⟨RT,0,none⟩,16,16⟩ ml b5 FX _ xu ?_ Gi Nj (fun i hi=>?_) (by have:(ae iD).heap.size=iD.heap.size:=rfl;omega) Qj fun T' v' s' OM A hv st h0 hg=>?_⟩
  .have h1:=arr.rd (o:=0) (n:=16) (c:=16) (by omega) (Nat.le_refl _);rw[List.drop_zero,List.take_of_length_le (by omega)]at h1
   exact h1.ext J8 fun p i hp hi e=>by
    have:i=RT:=by cases hp;exact hi.symm
    omega
  .have e:i=RT:=by simp[Sl.aw]at hi;exact hi.symm
   have:(ae iD).heap.size=iD.heap.size:=rfl;have:=J8.size;have:=Eo.size;exact⟨by omega,by omega,by omega⟩
  .refine⟨0,Cell.af hg rfl,0,Cell.af hg rfl,0,Cell.af hg rfl,⟨none,0,0⟩,Cell.af hg rfl,⟨none,0,0⟩,Cell.af hg rfl,0,Cell.af hg rfl,⟨none,0,0⟩,Cell.af hg rfl,rfl,bO.mk hg (Nat.le_refl 7) (a_ rfl) fun CN ZI=>?_⟩;have xj:=ZI.get hg;obtain⟨T2,v2,s2,A2,uS,HV⟩:=rest T' v' s' OM A hv st h0 hg CN ZI;exact⟨0,Cell.af xj rfl,0,Cell.af xj rfl,0,Cell.af xj rfl,⟨none,0,0⟩,Cell.af xj rfl,⟨none,0,0⟩,Cell.af xj rfl,0,Cell.af xj rfl,⟨none,0,0⟩,Cell.af xj rfl,k T2 v2 s2 CN A2 uS HV⟩
end
end Go.Proofs.YtiigcapldngijaaGreat
namespace Go.Proofs.YtiigcapldngijaaGreat
open Go.V Go.V.Pk Go.V.Dk Go.V.Rn
section
variable {w w':Wd} {T T':Nat->Nat} {v:VA} {s:SA}
theorem Hh.ext{S:Nat->Prop}{lo:Nat}{kq kk ml:List Int}{drs:List (List Int)}(A:Hh w T lo v s kq kk ml drs)(x:Ext S w w')(h:∀i,S i->T i=0/\i < lo):Hh w' T lo v s kq kk ml drs:=by
 obtain⟨tb,cp,sb,mk,hs,e1,e2⟩:=A.tn;exact⟨A.V.loc x fun i hi=> .inl (h i hi).1,A.op,A.mp,⟨tb,cp,sb,mk,hs,e1,e2.ext x (fun i hi=> .inr (h i hi)) fun _ _=>rfl⟩,A.ks,A.pg,A.D,A.L,A.R,A.F,A.z⟩
theorem F_{p:Option Addr}{f:Nat}(w:Wd):Sem.run pz (xP .eql 62 (.tmp 24) (.const .nilFunc) (.func (.func f) #[.pointer p] #[]) (.nilFunc)) w = .ok (.bool false) w:=by kernel_rfl
set_option maxHeartbeats 1000000 in
theorem RU{vb al:Nat}{ky sec:Sl}{kl sl:List Int}{d:tQ}{g:DY}{dev:Option Addr}{l:List Int}{drs:List (List Int)}{rb mb lb pb kb wb nb:Nat}{q ls fr:Sl}{kq:List Int}{pm dm:Option Nat}{pu dl:List Int}{fl:Bool}
  {c4 c5 c6 c7 c8:Int} {c9 c10 c11 c12:Sl} {c13:Bool} {K:Int->Int->Int->Sl->Sl->Int->Sl->Pw}
  (V:gg w T ⟨vb,ky,kl,true,JZ,al,[]⟩ ⟨d,pD 100,g,⟨dev,1000,0,0,l::drs⟩,rb,mb,[⟨⟨0,1⟩,q,kq⟩],lb,ls,[],pb,fr,[(2,100)],kb,[],wb,nb,pm,dm,pu,[],dl,0,0,fl,100⟩) (U4:kq.length=32) (hl:16<=l.length)
  (hs:aQ w.heap sec sl) (PL:B8 sl) (od:sec.len=16) (wg:∀i,sec.aw=some i->T i=0)
  (k:∀T' v' s' w',Hh w' T' w.heap.size v' s' kq (l.take 16) (pq kl sl) drs->(v'.vb=vb/\v'.kl=kl)->iX T w T' w'->K 0 0 0 ⟨none,0,0⟩ ⟨none,0,0⟩ 0 ⟨none,0,0⟩ w'):aR (some ⟨vb,0,none⟩) 1 1 sec 10 c4 c5 c6 c7 c8 c9 c10 c11 c12 c13 w K:=by
 apply mo;refine fun b w1 n1 b1 w2 n2=>?_
 have a1:=n1.at_;have z1:=n1.size;have a2:=n2.at_;have z2:=n2.size;have x2:=n1.ext.no n2.ext;have V2:=V.no x2;refine fW V2.b rfl (If.no (Nn.mk ⟨true,Cell.af V2.b rfl,If.not (If.yes fun b2 w6 n6=>?_)⟩));have a6:=n6.at_;have z6:=n6.size;refine aH.mk n6.get Nat.one_pos rfl fun w7 h7=>?_
 have J7:Ext No w2 w7:=n6.ext.out h7.ext (by show w2.heap.size<=b2;omega);have V7:=V2.no J7;have VU:=ah (ah n1.get n2.ext) J7;have Cc:=ah n2.get J7;have g27:=h7.get n6.get;refine⟨1,Cell.af VU rfl,ML (v:=⟨vb,ky,kl,true,JZ,al,[]⟩) (c:=1) (f:=83) rfl fun w8 x8=>⟨false,w8,F_ w8,If.no ?_⟩⟩;have V8:=V7.no x8;have zD:=ah VU x8;have MK:=(x2.no J7).no x8;refine⟨1,Cell.af zD rfl,1,Cell.af zD rfl,sec,Cell.af zD rfl,10,Cell.af zD rfl,c4,Cell.af zD rfl,c5,Cell.af zD rfl,c6,Cell.af zD rfl,c7,Cell.af zD rfl,c8,Cell.af zD rfl,c9,Cell.af zD rfl,c10,Cell.af zD rfl,c11,Cell.af zD rfl,c12,Cell.af zD rfl,c13,Cell.af zD rfl,?_⟩;refine vC (MR V8 U4 hl (Rd.no hs MK) PL od wg fun T' v' s' mU A hv st=>⟨rfl,?_⟩);have t1:T b1=0:=V.y.out b1 (by omega);have t2:T b2=0:=V.y.out b2 (by omega);have g18:=ah Cc x8;have Qj:=ah g27 x8;have Kh:=st.aw g18 t1;have MS:=st.aw Qj t2;have t1':T' b1=0:=st.z b1 (aN g18) t1;have t2':T' b2=0:=st.z b2 (aN Qj) t2;refine bO.mk Kh (Nat.le_refl 7) (a_ rfl) fun iB TE=>AX (pj ?_)
 have uy:Ext (·=b1) mU iB:=TE.ext;have zE:=TE.get Kh;have abF:=ar MS uy (by omega);refine⟨0,Cell.af abF rfl,If.bne (fun h=>absurd rfl h) fun _=>⟨0,Cell.af zE rfl,0,Cell.af zE rfl,0,Cell.af zE rfl,⟨none,0,0⟩,Cell.af zE rfl,⟨none,0,0⟩,Cell.af zE rfl,0,Cell.af zE rfl,⟨none,0,0⟩,Cell.af zE rfl,?_⟩⟩;have Vb:=A.ext uy fun i hi=>by rw[hi];exact⟨t1',aN g18⟩
 have lw:=MK.size;obtain⟨tb,cp,sb,mk,CZ,e1,e2⟩:=Vb.tn;exact k T' v' s' iB ⟨Vb.V,Vb.op,Vb.mp,⟨tb,cp,sb,mk,CZ,e1,e2.mono lw⟩,Vb.ks,Vb.pg,Vb.D,Vb.L,Vb.R,Vb.F,Vb.z⟩ hv (((iX.no MK).trans st).out uy (by omega))
end
end Go.Proofs.YtiigcapldngijaaGreat
namespace Go.Proofs.YtiigcapldngijaaGreat
open Go.V Go.V.Dk Go.V.Rn
section
variable {w w':Wd}
abbrev XP(am:Nat):List Value:=[.map (some am),.int .u64 1]
abbrev XQ:List (Int×Value):=[(1,.agg #[.int .u8 15,.int .u64 0])]
theorem ZJ:uP pz 28 (Value.int .u64):=IC (by kernel_rfl)
theorem Vc:Tryz.prog.underlying 202=some (.map 28 341):=by kernel_rfl
theorem XR(w:Wd):(zeroValue 341).run pz w = .ok (.agg #[.int .u8 0,.int .u64 0]) w:=by kernel_rfl
theorem O_(w:Wd):Sem.run pz (Builtin.len_ #[202] 3 #[.map none]) w = .ok (.int .i64 0) w:=by kernel_rfl
theorem Pa(w:Wd):Sem.run pz (xP .eql 202 (.tmp 15) (.const (.map none)) (.map none) (.map none)) w = .ok (.bool true) w:=by kernel_rfl
theorem D9{cp:Nat}{K:Int->Int->Pw}(g:w.heap[cp]? = some (.cells RN.toArray 204 (0,0)))(k:∀am w',w'.heap[cp]? = some (.cells (XP am).toArray 204 (0,0))->cY w'.heap (Value.int .u64) am XQ->w.heap.size<=am->Ext (·=cp) w w'->K 1 0 w'):jy (some ⟨cp,0,none⟩) w K:=by
 apply yS;refine If.no ?_;apply DP;refine fun b w1 n1=>Nn.mk ⟨none,Cell.af (ah g n1.ext) rfl,0,w1,O_ w1,If.dec (fun h=>absurd h (by decide)) fun _=>?_⟩
 have z1:=n1.size;have a1:=n1.at_;have lc:=aN g;refine⟨fun u=>∃am,u.heap[cp]? = some (.cells [Value.map (some am),.int .u64 0].toArray 204 (0,0))/\u.heap[am]? = some (.map #[] 0)/\w1.heap.size<=am/\Ext (·=cp) w1 u,Nn.mk ⟨none,Cell.af (ah g n1.ext) rfl,true,w1,Pa w1,If.yes fun b1 w4 n4=>Nn.mk (aH.mk (ah (ah g n1.ext) n4.ext) (Nat.le_of_ble_eq_true rfl) rfl fun w5 h5=>?_)⟩,?_⟩
 .have a4:=n4.at_;exact⟨b1,h5.get (ah (ah g n1.ext) n4.ext),ar n4.get h5.ext (by show b1≠cp;omega),by omega,n4.ext.az.trans h5.ext fun i _ e=>e⟩
 rintro _ w6 ⟨am,g6,ga,ha,x6⟩;have gb:=ar n1.get x6 (by show b≠cp;omega);refine Nn.mk ⟨0,Cell.af g6 rfl,Ar.u64 (by decide) (Nn.mk (aH.mk g6 (Nat.le_of_ble_eq_true rfl) rfl fun w7 h7=>?_))⟩;have x7:Ext (·=cp) w6 w7:=h7.ext;have g7:=h7.get g6;have gb7:=ar gb x7 (by show b≠cp;omega);have ga7:=ar ga x7 (by show am≠cp;omega)
 have m7:cY w7.heap (Value.int .u64) am ([]:List (Int×Value)):=⟨#[],0,ga7,rfl,cW.nil⟩
 obtain⟨w8,h8,m8,x8,_⟩:=aG (P:=pz) (w:=ae w7) (a:=(1:Int)) (v:= .agg #[.int .u8 15,.int .u64 0]) ZJ Vc m7;refine⟨Ext (·=am) w7,(Ext.refl _ _).drew,Nn.mk ⟨some am,aj.aF (Cell.af g7 rfl) (by show cp≠am;omega),Nn.mk ⟨1,aj.aF (Cell.af g7 rfl) (by show cp≠am;omega),15,aj.aF (Cell.af gb7 rfl) (by show b≠am;omega),0,aj.aF (Cell.af gb7 rfl) (by show b≠am;omega),w8,h8,x8.an,?_⟩⟩⟩;have g8:=ar g7 x8.an (by show cp≠am;omega);exact Nn.mk ⟨1,Cell.af g8 rfl,k am w8 g8 m8 (by omega) (((n1.ext.az.trans x6 fun i _ e=>e).trans x7 fun i _ e=>e).trans x8.an fun i hi e=>by omega)⟩
theorem Ga{cp am:Nat}{need:Int}{K:Int->Pw}(g:w.heap[cp]? = some (.cells (XP am).toArray 204 (0,0)))(m:cY w.heap (Value.int .u64) am XQ)(hz:bI .andNot .u8 need 15=0)(k:∀w',Ext No w w'->K 0 w'):kP (some ⟨cp,0,none⟩) 1 need w K:=by
 apply Ak;apply BG;refine fun b w1 n1=>If.no (Nn.mk ⟨some am,Cell.af (ah g n1.ext) rfl,?_⟩)
 have hl:=mX (P:=pz) (a:=(1:Int)) ZJ Vc (XR w1) (m.ext n1.ext fun h=>h);refine⟨15,0,true,w1,hl,mF (vs:=[Value.int .u8 15,.int .u64 0]) rfl rfl (a_ rfl) fun b1 w3 g3 a3 z3 x3=>If.not (If.yes ⟨15,Cell.af g3 rfl,0,Cell.af g3 rfl,rfl,bO.mk (ah n1.get x3) (Nat.le_refl 2) (a_ rfl) fun w5 h5=>?_⟩)⟩;have g5:=h5.get (ah n1.get x3);have a1:=n1.at_;refine⟨15,Cell.af g5 rfl,0,Cell.af g5 rfl,mF (vs:=[Value.int .u8 15,.int .u64 0]) rfl rfl (a_ rfl) fun b2 w6 g6 a6 z6 x6=>If.beq (fun _=>⟨15,Cell.af g6 rfl,Nm.as hz (If.bne (fun h=>absurd rfl h) fun _=>k w6 (((n1.ext.no x3).out h5.ext (by omega)).no x6))⟩) fun h=>absurd rfl h⟩
end
end Go.Proofs.YtiigcapldngijaaGreat
namespace Go.Proofs.YtiigcapldngijaaGreat
open Go.V Go.V.Dk Go.V.Rn
section
variable {w w':Wd} {T T':Nat->Nat} {s:SA} {v:VA} {lo tb cp sb:Nat} {mk hs:Sl} {ml wl:List Int} {rf:Rf} {ch:Int} {cc cc':List Value}
theorem vW.ago(t:vW w T lo tb cp sb mk hs ml wl rf ch cc)(x:Ext (·=cp) w w')(g:w'.heap[cp]? = some (.cells cc'.toArray 204 (0,0)))(a:∀i,i < w.heap.size->T' i=T i):vW w' T' lo tb cp sb mk hs ml wl rf ch cc':=by
 have n0:∀i,T i=0->¬ (i=cp):=fun i h e=>by rw[e,t.tc]at h;cases h
 have nt:tb≠cp:=fun e=>by have:=t.tt;rw[e,t.tc]at this;cases this
 exact⟨ar t.g x nt,g,ar t.s x (n0 _ t.ts.1),(a _ (aN t.g)).trans t.tt,(a _ (aN t.c)).trans t.tc,⟨(a _ (aN t.s)).trans t.ts.1,t.ts.2⟩,t.m.ext x fun p i hp hi=>n0 i (t.mt i (by simp[Sl.aw,hp,hi])).1,fun i hi=>⟨(a i (t.mt i hi).2.2).trans (t.mt i hi).1,(t.mt i hi).2.1,Nat.lt_of_lt_of_le (t.mt i hi).2.2 x.size⟩,t.mn,t.mB,t.hs.ext x (fun i _ h=>n0 i h) fun i hi h0=>(a i hi).trans h0⟩
theorem Pb{c0 c3 c4 c5 c6 c7 c8:Int}{sec c9 c10 c11 c12:Sl}{c13:Bool}{K:Option Addr->Pw}(V:gg w T v s)(Hi:v.ts=[(1,.pointer (some ⟨tb,0,none⟩))])(k:∀w',Ext No w w'->K (some ⟨tb,0,none⟩) w'):iJ v.p c0 1 sec c3 c4 c5 c6 c7 c8 c9 c10 c11 c12 c13 w K:=by
 apply wZ;refine fun b w1 n1=>?_
 have xd:Ext No w1 (ae w1):=(Ext.refl _ _).drew;have V1:=V.no n1.ext;have hl:=fq (P:=pz) (a:=(1:Int)) ku H8 (Kd (ae w1)) (V1.no xd).a;rw[Hi]at hl;exact⟨Ext No w1,xd,Nn.mk ⟨some v.al,aj.aF (Cell.af V1.b rfl) (fun h=>h),1,aj.aF (Cell.af n1.get rfl) (fun h=>h),some ⟨tb,0,none⟩,ae w1,hl,xd,If.no (k _ (n1.ext.no xd))⟩⟩
set_option maxHeartbeats 1000000 in
theorem MT{c0 c3 c4 c5 c6 c7 c8:Int}{sec c9 c10 c11 c12:Sl}{c13:Bool}{sl:List Int}{K:Int->Int->Int->Sl->Sl->Int->Sl->Pw}(V:gg w T v s)(Hi:v.ts=[(1,.pointer (some ⟨tb,0,none⟩))])(t:vW w T lo tb cp sb mk hs ml wl rf ch RN)(Gi:ml=pq v.kl sl)(RR:aQ w.heap sec sl)(PL:B8 sl)(od:sec.len=16)
  (k:∀T' am w',gg w' T' v s->Ext (·=cp) w w'->(∀i,i < w.heap.size->T' i=T i)->w'.heap[cp]? = some (.cells (XP am).toArray 204 (0,0))->cY w'.heap (Value.int .u64) am XQ->T' am=18->iX T w T' w'->K 0 4294967297 0 ⟨none,0,0⟩ ⟨none,0,0⟩ 0 ⟨none,0,0⟩ w'):ic v.p c0 1 sec c3 c4 c5 c6 c7 c8 c9 c10 c11 c12 c13 w K:=by
 apply vz;refine fun b w1 n1 b1 w2 n2=>?_
 have g0:=ah n1.get n2.ext;have x2:=n1.ext.no n2.ext;have a1:=n1.at_;have z1:=n1.size;have a2:=n2.at_;have z2:=n2.size;have lc:=aN t.c;have lt:=aN t.g;refine⟨c0,Cell.af g0 rfl,1,Cell.af g0 rfl,sec,Cell.af g0 rfl,c3,Cell.af g0 rfl,c4,Cell.af g0 rfl,c5,Cell.af g0 rfl,c6,Cell.af g0 rfl,c7,Cell.af g0 rfl,c8,Cell.af g0 rfl,c9,Cell.af g0 rfl,c10,Cell.af g0 rfl,c11,Cell.af g0 rfl,c12,Cell.af g0 rfl,c13,Cell.af g0 rfl,Pb (V.no x2) Hi fun w3 x3=>?_⟩;have iC:=x2.no x3;have V3:=V.no iC;have g03:=ah g0 x3;have xd:Ext No w3 (ae w3):=(Ext.refl _ _).drew;refine⟨fun u=>Ext No w3 u,⟨Ext No w3,xd,Nn.mk ⟨v.key,aj.aF (Cell.af V3.b rfl) (fun h=>h),sec,aj.aF (Cell.af g03 rfl) (fun h=>h),BX (V3.no xd).k V.kB V.kn (Rd.no RR (iC.no xd)) PL od fun mb w4 arr YR x4=>⟨x4.an,If.bne (fun h=>absurd rfl h) fun _=>Nn.mk ⟨mk,Cell.af (ah t.g (iC.no x4.an)) rfl,?_⟩⟩⟩⟩,?_⟩
 .have Nj:=AI V.kB PL;have h1:=arr.rd (o:=0) (n:=16) (c:=16) (by rw[Nj.1];decide) (Nat.le_refl _);rw[List.drop_zero,List.take_of_length_le (by rw[Nj.1];decide)]at h1;refine CP h1 (Rd.no t.m (iC.no x4.an)) Nj.2 t.mB ?_;rw[decide_eq_true Gi.symm];exact If.not (If.yes x4.an)
 rintro _ w8 x8;have MK:=iC.no x8;have V8:=V.no MK;have zD:=ah g03 x8;have gt8:=ah t.g MK;have gc8:=ah t.c MK;have ntc:tb≠cp:=fun e=>by have:=t.tt;rw[e,t.tc]at this;cases this
 refine⟨Ext (·=cp) w8,(Ext.refl _ _).drew,1,aj.aF (Cell.af zD rfl) (by show b≠cp;omega),Nn.mk ⟨some ⟨cp,0,none⟩,aj.aF (Cell.af gt8 rfl) ntc,?_⟩⟩;apply Fl
 refine fun b2 w9 n9=>⟨(n9.ext.an).az,D9 (ah gc8 n9.ext.an) fun am eK tU m10 ham dQ=>?_⟩
 have adY:Ext (·=cp) w8 eK:=(n9.ext.an).az.trans dQ fun i _ e=>e
 have a9:=n9.at_;have zd:(ae w8).heap.size=w8.heap.size:=rfl;have z03:=MK.size;have z9:=n9.size;have z28:=(x3.no x8).size;refine⟨adY,BK ?_⟩;apply BJ
 refine fun b3 eM DX=>⟨fun u=>eM=u,If.bne (fun h=>absurd rfl h) fun _=>rfl,?_⟩
 rintro _ _ rfl;have O7:=ah (ar n9.get dQ (by show b2≠cp;omega)) DX.ext;refine⟨1,Cell.af O7 rfl,Ar.u64 (by decide) ⟨by decide,Ar.u64 (by decide) (Nm.as (show bI .or .u64 (1 * 2 ^ min (Int.toNat 32) (IntKind.bits .u64)) 1=4294967297 by decide) ⟨rfl,bO.mk DX.get (Nat.le_refl 7) (a_ rfl) fun gO OZ=>?_⟩)⟩⟩;have OU:=OZ.get DX.get;have a11:=DX.at_;have Qk:Ext No eK gO:=DX.ext.out OZ.ext (by show eK.heap.size<=b3;omega);refine⟨0,Cell.af OU rfl,4294967297,Cell.af OU rfl,0,Cell.af OU rfl,⟨none,0,0⟩,Cell.af OU rfl,⟨none,0,0⟩,Cell.af OU rfl,0,Cell.af OU rfl,⟨none,0,0⟩,Cell.af OU rfl,?_⟩;have Ve:Ext (·=cp) w8 gO:=adY.trans Qk.az fun i _ e=>e
 have gb1:gO.heap[b1]? = _:=ar (ah n2.get (x3.no x8)) Ve (by show b1≠cp;omega);refine⟨Ve,rfl,bO.mk gb1 (Nat.le_refl 7) (a_ rfl) fun fV Ky=>?_⟩;have iY:Ext (·=b1) gO fV:=Ky.ext;have Gm:=Ky.get gb1;have Hj:Ext (·=cp) w fV:=(MK.az.trans Ve fun i _ e=>e).trans iY fun i hi e=>by omega
 have lam:am < eK.heap.size:=map_lt m10;have VS:=Qk.size;have W3:=iY.size
 obtain⟨T2,hT⟩ : ∃T2:Nat->Nat,T2=fun i=>if i=am then 18 else T i:=⟨_,rfl⟩
 have e1:∀i,i≠am->T2 i=T i:=fun i hi=>by rw[hT];exact if_neg hi
 have V13:gg fV T v s:=V.loc Hj fun i hi=>by rw[hi,t.tc];exact .inr (by decide)
 have tam:T am=0:=V.y.out am (by omega);refine⟨0,Cell.af Gm rfl,4294967297,Cell.af Gm rfl,0,Cell.af Gm rfl,⟨none,0,0⟩,Cell.af Gm rfl,⟨none,0,0⟩,Cell.af Gm rfl,0,Cell.af Gm rfl,⟨none,0,0⟩,Cell.af Gm rfl,k T2 am fV (V13.U3 (fun i hi=>e1 i fun e=>hi (by rw[e];exact tam)) fun i hi=>by rw[e1 i (by omega)];exact V13.y.out i hi) Hj (fun i hi=>e1 i (by omega)) (ar (ah tU Qk) iY (by show cp≠b1;omega)) ((m10.ext Qk fun h=>h).ext iY (by show am≠b1;omega)) (by rw[hT];exact if_pos rfl) ⟨fun i hi h=>by rw[e1 i (by omega)];exact h,Hj.mono fun i _ e=>by rw[e,t.tc];decide⟩⟩
end
end Go.Proofs.YtiigcapldngijaaGreat
namespace Go.Proofs.YtiigcapldngijaaGreat
open Go.V Go.V.Dk Go.V.Rn
section
variable {w w':Wd} {T T':Nat->Nat} {s:SA} {v:VA}
abbrev adZ(c0 c1:Int)(c2:Sl)(c3 c4 c5 c6 c7 c8:Int)(c9 c10 c11 c12:Sl)(c13:Bool):Value:= .agg ([.int .i64 c0,.int .u32 c1,c2.v,.int .i64 c3,.int .i64 c4,.int .u64 c5,.int .u64 c6,.int .u64 c7,.int .u8 c8,c9.v,c10.v,c11.v,c12.v,.bool c13]).toArray
abbrev agp:List Ty:=[.agg [.one (.int .i64),.one (.int .u64),.one (.int .u64),.one (.sl),.one (.sl),.one (.int .i64),.one (.sl)]]
set_option maxHeartbeats 1000000 in
theorem Pc{c0 c1 c3 c4 c5 c6 c7 c8:Int}{c2 c9 c10 c11 c12:Sl}{c13:Bool}{f:Nat}{K:Int->Int->Int->Sl->Sl->Int->Sl->Pw}(V:gg w T v s)(Pd:v.op=true)(hc:l_ c0 (abz v.p)=some (.func (.func f) #[.pointer v.p] #[]))
  (ad0:∀(w1:Wd)(X:PX)(K':Int->Int->Int->Sl->Sl->Int->Sl->Pw),Ext No w w1->gg w1 T v s->(∀r0 r1 r2 r3 r4 r5 r6 T' w2,iX T w1 T' w2->(∀b w3,Ext (·=b) w2 w3->T' b=0->w.heap.size<=b->b < w1.heap.size->K r0 r1 r2 r3 r4 r5 r6 w3)->K' r0 r1 r2 r3 r4 r5 r6 w2)->aC pz true (.func (.func f) #[.pointer v.p] #[]) [adZ c0 c1 c2 c3 c4 c5 c6 c7 c8 c9 c10 c11 c12 c13] agp K' X w1) :
  aR v.p c0 c1 c2 c3 c4 c5 c6 c7 c8 c9 c10 c11 c12 c13 w K:=by
 apply mo;refine fun b w1 n1 b1 w2 n2=>?_
 have a1:=n1.at_;have z1:=n1.size;have a2:=n2.at_;have z2:=n2.size;have x2:=n1.ext.no n2.ext;have V2:=V.no x2;refine fW V2.b rfl (If.no (Nn.mk ⟨true,Cell.af V2.b (by rw[<- Pd];rfl),If.not (If.yes fun b2 w6 n6=>?_)⟩));have a6:=n6.at_;have z6:=n6.size;refine aH.mk n6.get Nat.one_pos rfl fun w7 h7=>?_
 have J7:Ext No w2 w7:=n6.ext.out h7.ext (by show w2.heap.size<=b2;omega);have V7:=V2.no J7;have VU:=ah (ah n1.get n2.ext) J7;have Cc:=ah n2.get J7;have g27:=h7.get n6.get;refine⟨c0,Cell.af VU rfl,ML hc fun w8 x8=>⟨false,w8,F_ w8,If.no ?_⟩⟩;have V8:=V7.no x8;have zD:=ah VU x8;have MK:=(x2.no J7).no x8;refine⟨c0,Cell.af zD rfl,c1,Cell.af zD rfl,c2,Cell.af zD rfl,c3,Cell.af zD rfl,c4,Cell.af zD rfl,c5,Cell.af zD rfl,c6,Cell.af zD rfl,c7,Cell.af zD rfl,c8,Cell.af zD rfl,c9,Cell.af zD rfl,c10,Cell.af zD rfl,c11,Cell.af zD rfl,c12,Cell.af zD rfl,c13,Cell.af zD rfl,?_⟩
 refine ad0 w8 _ _ MK V8 fun r0 r1 r2 r3 r4 r5 r6 T' mU st kk=>⟨rfl,?_⟩
 have t1:T b1=0:=V.y.out b1 (by omega);have t2:T b2=0:=V.y.out b2 (by omega);have g18:=ah Cc x8;have Qj:=ah g27 x8;have Kh:=st.aw g18 t1;have MS:=st.aw Qj t2;refine bO.mk Kh (Nat.le_refl 7) (a_ rfl) fun iB TE=>AX (pj ?_)
 have uy:Ext (·=b1) mU iB:=TE.ext;have zE:=TE.get Kh;have abF:=ar MS uy (by omega);exact⟨0,Cell.af abF rfl,If.bne (fun h=>absurd rfl h) fun _=>⟨r0,Cell.af zE rfl,r1,Cell.af zE rfl,r2,Cell.af zE rfl,r3,Cell.af zE rfl,r4,Cell.af zE rfl,r5,Cell.af zE rfl,r6,Cell.af zE rfl,kk b1 iB uy (st.z b1 (aN g18) t1) (by omega) (aN g18)⟩⟩
theorem H9{c3 c4 c5 c6 c7 c8:Int}{sec c9 c10 c11 c12:Sl}{c13:Bool}{lo tb cp sb:Nat}{mk hs:Sl}{ml wl:List Int}{rf:Rf}{ch:Int}{sl:List Int}{K:Int->Int->Int->Sl->Sl->Int->Sl->Pw}(V:gg w T v s)(Pd:v.op=true)(Hi:v.ts=[(1,.pointer (some ⟨tb,0,none⟩))])(t:vW w T lo tb cp sb mk hs ml wl rf ch RN)(Gi:ml=pq v.kl sl)(RR:aQ w.heap sec sl)(PL:B8 sl)(od:sec.len=16)
  (k:∀T' am w',gg w' T' v s->vW w' T' lo tb cp sb mk hs ml wl rf ch (XP am)->cY w'.heap (Value.int .u64) am XQ->T' am=18->iX T w T' w'->K 0 4294967297 0 ⟨none,0,0⟩ ⟨none,0,0⟩ 0 ⟨none,0,0⟩ w'):aR v.p 8 1 sec c3 c4 c5 c6 c7 c8 c9 c10 c11 c12 c13 w K:=by
 refine Pc (f:=90) V Pd rfl fun w1 X K' x1 V1 kk=>vA (MT V1 Hi (t.ext x1 (fun _ h=>h.elim) fun _ _=>rfl) Gi (Rd.no RR x1) PL od fun T' am w2 V2 x2 a2 g2 m2 t2 HV=>kk _ _ _ _ _ _ _ T' w2 HV fun b w3 x3 Cz hb _=>?_)
 have iC:Ext (·=cp) w w3:=(x1.az.trans x2 fun i _ e=>e).trans x3 fun i hi e=>by omega
 have nb:∀i,T' i≠0->¬ (i=b):=fun i h e=>h (by rw[e];exact Cz)
 have lc:=aN t.c;have lw:=x1.size;have tc:T' cp=18:=(a2 cp (by omega)).trans t.tc;refine k T' am w3 (V2.loc x3 fun i hi=> .inl (by rw[hi];exact Cz)) (t.ago iC (ar g2 x3 (nb _ (by rw[tc];decide))) fun i hi=>a2 i (by omega)) (m2.ext x3 (nb _ (by rw[t2];decide))) t2 ?_;exact((iX.no x1).trans HV).out x3 hb
end
end Go.Proofs.YtiigcapldngijaaGreat
namespace Go.Proofs.YtiigcapldngijaaGreat
open Go.V Go.V.Dk
section
variable {w:Wd} {d:tQ} {D:DS}
def Ch(D:DS):DS:={ D with now:=D.oM,waits:=[],fail:=0,cut:= -1,down:=false }
theorem Pe{masks:Sl}{K:Int->Pw}(r:bz w.heap d D)(hw:D.waits=[])
  (k:∀d' w',bz w'.heap d' (Ch D)->G3 w d d'->Ext d.fp w w'->K 0 w'):kH d.p masks w K:=by
 apply Aw;have hlw:=r.lw;refine If.no ⟨fun u=>w=u,Nn.mk ⟨d.sw,Cell.af r.aw rfl,fun _ t u=>t=0/\w=u,⟨0,rfl,rfl⟩,?_⟩,?_⟩
 .rintro _ _ _ _ ⟨rfl,rfl⟩;exact If.dec (fun h=>by rw[hw]at hlw;simp at hlw;omega) fun _=>rfl
 rintro _ _ rfl;have hn:=r.wf.n;have hlo:=r.wf.lo;refine⟨Ext (fun j=>d.sn.aw=some j) w,(Ext.refl _ _).drew,Nn.mk ⟨d.sn,aj.aF (Cell.af r.aw rfl) r.nb.1,Nn.mk ⟨d.sf,aj.aF (Cell.af r.aw rfl) r.nb.1,?_⟩⟩⟩;have rd:bz (ae w).heap d D:=r
 refine L_ rd.now rd.oM.rd r.wf.rn r.wf.rf hn (by omega) fun z w7 o7 x7 z7=>⟨x7.an,Nn.mk ?_⟩
 have MU:WF { D with now:=D.oM }:=⟨rfl,by simp only;omega,by have:=r.wf.hi;simp only at this ⊢;omega,r.wf.rf,r.wf.rf,fun p hp=>(by rw[hw]at hp;exact absurd hp List.not_mem_nil),r.wf.fl,r.wf.ct⟩
 have r7:=r.TS o7 x7.an MU;refine aH.mk r7.aw (by simp) rfl fun w8 hw8=>?_
 have wf8:WF { D with now:=D.oM,waits:=[] }:=⟨rfl,MU.lo,MU.hi,MU.rn,MU.rf,fun p hp=>by simp at hp,r.wf.fl,r.wf.ct⟩
 have r8:=r7.L9 (s:=⟨none,0,0⟩) (W:=[]) (aP.nil _ _ _ _) hw8 (by simp[Sl.aw]) (fun _ _=>by simp[Sl.aw]) (fun _ _=>by simp[Sl.aw]) wf8;refine Nn.mk (aH.mk r8.aw (by simp) rfl fun w9 hw9=>?_);have r9:=r8.GZ (st:=D.steps) (fl:=0) (ct:=D.cut) (dn:=D.down) hw9 ⟨rfl,MU.lo,MU.hi,MU.rn,MU.rf,fun p hp=>by simp at hp,by simp,r.wf.ct⟩;refine Nn.mk (aH.mk r9.aw (by simp) rfl fun eK ad1=>?_);have r10:=r9.GZ (st:=D.steps) (fl:=0) (ct:= -1) (dn:=D.down) ad1 ⟨rfl,MU.lo,MU.hi,MU.rn,MU.rf,fun p hp=>by simp at hp,by simp,by simp⟩;refine Nn.mk (aH.mk r10.aw (by simp) rfl fun eM ad2=>?_);have r11:=r10.GZ (st:=D.steps) (fl:=0) (ct:= -1) (dn:=false) ad2 ⟨rfl,MU.lo,MU.hi,MU.rn,MU.rf,fun p hp=>by simp at hp,by simp,by simp⟩;have self:∀{a b:Wd}{o:Obj},mG a d.b o b->Ext d.fp w a->Ext d.fp w b:=fun h x=>x.trans h.ext fun j _ h=> .inl h
 refine k ⟨d.b,d.sn,d.sf,⟨none,0,0⟩⟩ eM r11 ⟨rfl,fun j hj=> .inl ?_⟩ (self ad2 (self ad1 (self hw9 (self hw8 (x7.an.mono fun j _ h=> .inr (.inl h))))));rcases hj with h | h | h | h
 .exact .inl h
 .exact .inr (.inl h)
 .exact .inr (.inr (.inl h))
 .simp[Sl.aw]at h
theorem MV{T:Nat->Nat}{s:SA}{v:VA}{masks:Sl}{K:Int->Pw}(V:gg w T v s)(hw:s.D.waits=[])(hf:s.D.oM.length=s.N)
  (k:∀T' d' w',gg w' T' { v with op:=false } { s with d:=d',D:=Ch s.D }->iX T w T' w'->(∀i,i < w.heap.size->T' i=T i)->K 0 w'):cS v.p masks w K:=by
 apply nF;refine fW V.b rfl (If.no (Nn.mk (aH.mk V.b (Nat.le_of_ble_eq_true rfl) rfl fun w1 h1=>?_)));have x1:Ext (·=v.vb) w w1:=h1.ext;have V1:=V.put (op:=false) (mp:=v.mp) (h1.get V.b) x1;have c:=V1.y.dk.c;refine Nn.mk ⟨s.d.p,Cell.af V1.b rfl,Pe V1.y.dk.r hw fun d' w2 r2 g2 x2=>?_⟩;obtain⟨y2,s2⟩:=V1.y.aaS r2 g2 x2 ⟨hf,c.nN,rfl,rfl,rfl,c.st,Nat.zero_le _⟩;have V2:=V1.sy s2 y2 rfl rfl rfl rfl rfl;have z1:=x1.size;exact k _ d' w2 V2 ((iX.one x1 (by rw[V.tb];decide)).trans s2.tw) fun i hi=>s2.a i (by omega)
end
end Go.Proofs.YtiigcapldngijaaGreat
namespace Go.Proofs.YtiigcapldngijaaGreat
open Go.V Go.V.Dk Go.V.Rn
section
variable {w w':Wd} {T T':Nat->Nat} {s:SA} {v:VA} {lo tb cp sb am:Nat} {mk hs:Sl} {ml wl:List Int} {rf:Rf} {ch:Int}
theorem CS{c0 c1 c3 c4 c6 c7 c8 need:Int}{c2 c9 c10 c11 c12:Sl}{c13:Bool}{K:Option Addr->Int->Pw}(V:gg w T v s)(Hi:v.ts=[(1,.pointer (some ⟨tb,0,none⟩))])(t:vW w T lo tb cp sb mk hs ml wl rf ch (XP am))(m:cY w.heap (Value.int .u64) am XQ)(hz:bI .andNot .u8 need 15=0)(k:∀w',Ext No w w'->K (some ⟨tb,0,none⟩) 1 w'):eX v.p c0 c1 c2 c3 c4 4294967297 c6 c7 c8 c9 c10 c11 c12 c13 need w K:=by
 apply vt;refine fun b w1 n1=>?_
 have xd:Ext No w1 (ae w1):=(Ext.refl _ _).drew;have V1:=V.no n1.ext;have hl:=fq (P:=pz) (a:=(1:Int)) ku H8 (Kd (ae w1)) (V1.no xd).a;rw[Hi]at hl;refine⟨Ext No w1,xd,Nn.mk ⟨some v.al,aj.aF (Cell.af V1.b rfl) (fun h=>h),4294967297,aj.aF (Cell.af n1.get rfl) (fun h=>h),by decide,Nm.as (show Int.fdiv 4294967297 (2 ^ min (Int.toNat 32) (IntKind.bits .u64))=1 by decide) (Ar.u32 (by decide) ⟨some ⟨tb,0,none⟩,ae w1,hl,xd,fun u=>ae w1=u,If.no rfl,?_⟩)⟩⟩;rintro _ _ rfl;have x1:=n1.ext.no xd;refine⟨4294967297,Cell.af (ah n1.get xd) rfl,Nm.as (show bI .and .u64 4294967297 4294967295=1 by decide) (Nn.mk ⟨some ⟨cp,0,none⟩,Cell.af (ah t.g x1) rfl,Ga (ah t.c x1) (m.ext x1 fun h=>h) hz fun w5 x5=>If.bne (fun h=>absurd rfl h) fun _=>k w5 (x1.no x5)⟩)⟩
end
end Go.Proofs.YtiigcapldngijaaGreat
namespace Go.Proofs.YtiigcapldngijaaGreat
open Go.V Go.V.Dk Go.V.Rn
section
variable {w w':Wd}
theorem RV{ks vs:Sl}{K:Int->Int->Pw}(hk:1<=ks.len/\ks.len<=32)(hv:vs.len<=64)(k:K 1 0 w):ss ks vs w K:=by
 apply Jh;apply Fk;refine⟨fun t u=>false=t/\w=u,If.dec (fun h=>by omega) fun _=>⟨(decide_eq_false (by omega)).symm,rfl⟩,?_⟩;rintro _ _ _ ⟨rfl,rfl⟩;exact If.no (If.dec (fun _=>If.bne (fun h=>absurd rfl h) fun _=>If.beq (fun h=>by omega) fun _=>If.dec (fun h=>by omega) fun _=>Ar.i64 (by decide) k) fun h=>by omega)
theorem MW{ks vs:Sl}{K:Bool->Pw}(k1:1<=ks.len)(kl:ks.len<=32)(vl:vs.len<=64)(k:∀w',Ext No w w'->K true w'):qx ks vs false w K:=by
 apply GQ
 refine fun b w1 n1=>⟨ks,Cell.af n1.get rfl,If.dec (fun _=>⟨ks,Cell.af n1.get rfl,If.dec (fun _=>⟨vs,Cell.af n1.get rfl,If.dec (fun _=>⟨false,Cell.af n1.get rfl,If.no (k w1 n1.ext)⟩) fun h=>by omega⟩) fun h=>by omega⟩) fun h=>by omega⟩
theorem RW{K:Bool->Pw}(k:∀w',Ext No w w'->K false w'):so 10 1 ⟨none,0,0⟩ w K:=by
 apply Jf;refine fun b w1 n1 b1 w2 n2=>?_
 have a1:=n1.at_;have a2:=n2.at_;have z1:=n1.size;have z2:=n2.size;have nb:b≠b1:=by omega
 have g0:=ah n1.get n2.ext;refine aH.mk g0 Nat.one_pos rfl fun w3 h3=>aH.mk (ar n2.get h3.ext nb.symm) Nat.one_pos rfl fun w4 h4=>Fi ?_
 have e3:Ext (·=b) w2 w3:=h3.ext;have e4:Ext (·=b1) w3 w4:=h4.ext;have q0:=ar (h3.get g0) e4 nb;have q1:=h4.get (ar n2.get e3 nb.symm);apply Fh;refine⟨0,Cell.af q0 rfl,by decide,Nm.as (show Int.fdiv 1 (2 ^ min (Int.toNat 32) (IntKind.bits .i64))=0 by decide) (Ar.i64 (by decide) (aH.mk q0 Nat.one_pos rfl fun w5 h5=>?_))⟩;have e5:Ext (·=b) w4 w5:=h5.ext;have r0:=h5.get q0;have r1:=ar q1 e5 nb.symm;refine⟨0,Cell.af r1 rfl,Nm.as (show bI .and .i64 1 4294967295=1 by decide) (Ar.i64 (by decide) (aH.mk r1 Nat.one_pos rfl fun w6 h6=>?_))⟩;have e6:Ext (·=b1) w5 w6:=h6.ext;have s0:=ar r0 e6 nb;have s1:=h6.get r1;refine⟨0,Cell.af s0 rfl,1,Cell.af s1 rfl,by decide,Nm.as (show Int.fdiv 1 (2 ^ min (Int.toNat 32) (IntKind.bits .i64))=0 by decide) (Ar.i64 (by decide) (aH.mk s0 Nat.one_pos rfl fun w7 h7=>?_))⟩;have e7:Ext (·=b) w6 w7:=h7.ext;have u0:=h7.get s0;have u1:=ar s1 e7 nb.symm;refine⟨1,Cell.af u1 rfl,Nm.as (show bI .and .i64 1 4294967295=1 by decide) (aH.mk u1 Nat.one_pos rfl fun w8 h8=>?_)⟩;have e8:Ext (·=b1) w7 w8:=h8.ext;have v0:=ar u0 e8 nb;have v1:=h8.get u1;refine⟨fun _ t u=>t=0/\w8=u,⟨0,rfl,rfl⟩,?_⟩;rintro _ _ _ _ ⟨rfl,rfl⟩
 refine If.dec (fun h=>absurd h (by decide)) fun _=>⟨by decide,Nm.as (show Int.fdiv 10 (2 ^ min (Int.toNat 32) (IntKind.bits .i64))=0 by decide) ⟨0,Cell.af v0 rfl,If.bne (fun h=>absurd rfl h) fun _=>⟨1,Cell.af v1 rfl,Nm.as (show bI .and .i64 10 4294967295=10 by decide) (k w8 ?_)⟩⟩⟩
 have x2:=n1.ext.no n2.ext;have ee:Ext (fun i=>i=b∨i=b1) w2 w8:=(((((e3.mono fun _ _ h=>Or.inl h).trans e4 fun _ _ h=>Or.inr h).trans e5 fun _ _ h=>Or.inl h).trans e6 fun _ _ h=>Or.inr h).trans e7 fun _ _ h=>Or.inl h).trans e8 fun _ _ h=>Or.inr h
 exact x2.trans ee fun i hi e=>by omega
theorem abG:Tryz.prog.underlying 102=some (.map 28 111):=by kernel_rfl
theorem Ki{T:Nat->Nat}{lo tb cp sb:Nat}{mk hs:Sl}{ml wl:List Int}{rf:Rf}{ch:Int}{cc:List Value}{K:Sl->Pw}(t:vW w T lo tb cp sb mk hs ml wl rf ch cc)(k:∀w',Ext No w w'->K ⟨none,0,0⟩ w'):gG (some ⟨tb,0,none⟩) w K:=by
 apply sW
 have m0:cY w.heap (Value.int .u64) sb ([]:List (Int×Value)):=⟨#[],0,t.s,rfl,cW.nil⟩
 obtain⟨fV,eH,hI,iY,W3⟩:=Ei.start (P:=pz) abG m0;refine Nn.mk ⟨some sb,Cell.af t.g rfl,some ⟨w.heap.size,0,none⟩,fV,eH,fun _ o u=>⟨none,0,0⟩=o/\fV=u,⟨0,rfl,rfl⟩,?_⟩;rintro _ _ _ _ ⟨rfl,rfl⟩;have lt:=aN t.s;rcases hI.next (P:=pz) (show w.heap.size≠sb by omega) with⟨_,mU,hn,ld⟩ | ⟨p,w',_,_,_,_,hp,_⟩
 .exact .inl ⟨mU,hn,k mU (iY.no ld)⟩
 .cases hp
theorem Hk{s ks vs:Sl}{K:Bool->Pw}(ho:Rd w.heap s 3 [ks.v,vs.v,Value.bool false])(hl:s.len=1)(k1:1<=ks.len)(kl:ks.len<=32)(vl:vs.len<=64)(k:∀w',Ext No w w'->K false w'):cg s (.func (.func 165) #[] #[]) w K:=by
 apply ji;apply kX;refine⟨fun n t u=>(n=1/\t=0/\w=u)∨(n=0/\t=1/\Ext No w u),⟨1,.inl ⟨rfl,rfl,rfl⟩⟩,?_⟩;rintro _ n t u (⟨rfl,rfl,rfl⟩ | ⟨rfl,rfl,x⟩)
 .refine If.dec (fun _=>?_) fun h=>absurd (by omega) h
  refine Ix.elem (f:=fun _:Unit=>[ks.v,vs.v,Value.bool false]) (l:=[()]) (by simpa using ho) (fun _ _=>rfl) (by decide) (by decide) (by omega) fun b' o' hi Is hc=>?_
  refine⟨ks,hc 0 _ rfl,vs,hc 1 _ rfl,false,hc 2 _ rfl,uk ?_⟩;apply uj
  refine fun b w1 n1=>⟨ks,Cell.af n1.get rfl,vs,Cell.af n1.get rfl,false,Cell.af n1.get rfl,MW k1 kl vl fun w2 x2=>If.not (If.yes (Ar.i64 (by decide) ⟨0,by decide,.inr ⟨rfl,rfl,n1.ext.no x2⟩⟩))⟩
 .exact If.dec (fun h=>absurd h (by omega)) fun _=>k u x
end
end Go.Proofs.YtiigcapldngijaaGreat
namespace Go.Proofs.YtiigcapldngijaaGreat
open Go.V Go.V.Pk Go.V.Dk Go.V.Rn
section
variable {w w':Wd} {T T':Nat->Nat} {s:SA} {v:VA}
abbrev SA.beg(s:SA)(m m':Nat):SA:={ s with R:={ s.R with aI:=s.R.aI+1 },D:=Up s.D,cm:=s.R.aI+1,la:=s.R.aI+1,fl:=false,pm:=some m,dm:=some m',pu:=[],dl:=[] }
abbrev agq:List Ty:=[.agg [.one (.int .u32),.one (.int .u64),.one (.int .u16),.one (.int .u8),.one (.int .u16),.one (.int .i64)]]
structure ags(s s':SA):Prop where
 dev:s'.R.dev=s.R.dev
 g:s'.g.rb=s.g.rb
 lb:s'.lb=s.lb
 rb:s'.rb=s.rb
 pb:s'.pb=s.pb
 N:s'.N=s.N
 Qe:s'.R.bG=s.R.bG
set_option maxHeartbeats 2000000 in
theorem Vf{bv tv:Value}{W:Nat->Prop}{QS:Nat->Nat->SA->Prop}{QF:SA->Prop}{I6:Nat->Wd->(Nat->Nat)->Prop}{mp:MP}{K:Pw}(V:gg w T v s)(Pd:v.op=true)(hc:s.cm=0)(hla:0<=s.la/\s.la<=s.R.aI)(h1:s.R.aI < s.R.bG)(h2:s.R.bG<=18446744073709551615)(hs:s.D.steps < 1000)(hp:0<=s.R.bg/\(s.R.aI+1) % 2≠s.R.bg % 2)(hn:mp.cm=s.R.aI+1)(VM:0<=mp.tn/\mp.tn<=4294967295)(hW:∀i,W i->T i=0/\i < w.heap.size)
  (stb:∀n5 u T5 u' T5' S,I6 n5 u T5->Ext S u u'->(∀i,S i->(1<=T5 i/\T5 i<=13)∨(w.heap.size<=i/\i < n5))->(∀i,i < u.heap.size->T5' i=T5 i)->I6 n5 u' T5')
  (hb:∀(T5:Nat->Nat)(m m':Nat)(u:Wd)(K':Int->Int->Int->Int->Int->Int->Pw),gg u T5 v (s.beg m m')->bu T w T5 u->(∀T6 s6 u6,gg u6 T6 v s6->QS m m' s6->I6 u.heap.size u6 T6->Ag T5 T6 u.heap.size->Ext (fun i=>(1<=T5 i/\T5 i<=12)∨W i) u u6->K' mp.pg mp.rc mp.gn mp.lv mp.rg mp.tn u6)->aC pz true bv [.int .u64 (s.R.aI+1)] agq K' bJ u)
  (hf:∀m m' s6 T6 u (K':Int->Pw),QS m m' s6->Sy u T6 s6->(∀T' s' u',Sy u' T' s'->QF s'->ags s6 s'->bu T6 u T' u'->K' 0 u')->gQ s6.p s6.gB mp.cm mp.pg mp.rc mp.gn mp.lv mp.rg mp.tn u K')
  (ht:∀n5 ZK sF u (K':Pw),gg u ZK { v with op:=true,mp:=mp } sF->QF sF->I6 n5 u ZK->(∀i,i < w.heap.size->ZK i=T i)->Ext (fun i=>(1<=T i/\T i<=13)∨W i) w u->w.heap.size<=n5->(∀T15 u',iX ZK u T15 u'->K u'->K' u')->aC pz true tv [] [] K' bJ u) :
  bC v.p bv tv w K:=by
 obtain⟨vb,ky,kl,op,Sz,al,ts⟩:=v;simp only at Pd;subst Pd;apply lS;refine fun b w1 n1=>?_
 have a1:=n1.at_;have z1:=n1.size;have V1:=V.no n1.ext;have xd:Ext No w1 (ae w1):=(Ext.refl _ _).drew;have J6:T b=0:=V.y.out b (by omega);have XL:=V.tb;simp only at XL;have VP:¬ (1<=T b/\T b<=12):=by omega
 have nv0:¬ (1<=T vb/\T vb<=12):=by omega
 refine⟨Ext (fun i=>1<=T i/\T i<=12) w1,xd.az,_,aj.aF (Cell.af n1.get rfl) VP,Nn.mk ⟨_,aj.aF (Cell.af V1.b rfl) nv0,_,aj.aF (Cell.af n1.get rfl) VP,Nn.mk ⟨_,aj.aF (Cell.af V1.b rfl) nv0,?_⟩⟩⟩;refine FU (V1.no xd).y hc hla h1 h2 hs hp fun T2 m m' w2 y2 s2=>?_
 have FR:bu T w1 T2 w2:=(bu.no xd).trans s2;refine⟨FR.x,L0 ⟨FR.x,fun b1 w4 n4=>?_⟩⟩;have V2:=V1.sy FR y2 rfl rfl rfl rfl rfl;have gb2:=FR.aw n1.get (.inl J6);have KA:T2 b=0:=(FR.a b (aN n1.get)).trans J6;have a4:=n4.at_;have z4:=n4.size;refine aH.mk n4.get Nat.one_pos rfl fun w5 h5=>?_
 have RP:=h5.get n4.get;have kv:Ext No w2 w5:=n4.ext.out h5.ext (by show w2.heap.size<=b1;omega);have V5:=V2.no kv;have ZC:=ah gb2 kv;have VW:T2 b1=0:=y2.out b1 (by omega);have VS:=FR.x.size;have z25:=kv.size;have MX:bu T w T2 w5:=((bu.no n1.ext).trans FR).nx kv;have lb1:=aN RP;refine hb T2 m m' w5 _ V5 MX fun T6 s6 w6 V6 q6 i6 a6 x6=>?_
 have z6:=x6.size;have agw:∀i,i < w.heap.size->T6 i=T i:=fun i hi=>(a6 i (by omega)).trans (MX.a i hi)
 have nW:∀i,w.heap.size<=i->¬ W i:=fun i hi h=>by have:=(hW i h).2;omega
 have k6:∀{o:Obj}{i:Nat},w5.heap[i]? = some o->T2 i=0->¬ W i->w6.heap[i]? = some o:=fun h ht hc=>ar h x6 fun e=>by rcases e with e | e;omega;exact hc e
 have Gh:=k6 ZC KA (nW b (by omega));have O6:=k6 RP VW (nW b1 (by omega));have Zx:T6 b=0:=(a6 b (aN ZC)).trans KA;have MN:T6 b1=0:=(a6 b1 lb1).trans VW
 refine fun b2 w7 n7=>⟨rfl,bO.mk n7.get (Nat.le_refl 6) (a_ rfl) fun w8 h8=>?_⟩
 have Qj:=h8.get n7.get;have a7:=n7.at_;have z7:=n7.size;have wz:Ext No w6 w8:=n7.ext.out h8.ext (by show w6.heap.size<=b2;omega);refine aH.mk (ah O6 wz) Nat.one_pos rfl fun w9 h9=>?_
 have x89:Ext (·=b1) w8 w9:=h9.ext;have abA:=h9.get (ah O6 wz);have lb6:=aN O6;have O7:=ar Qj x89 (by omega);refine⟨_,Cell.af O7 rfl,_,Cell.af O7 rfl,_,Cell.af O7 rfl,_,Cell.af O7 rfl,_,Cell.af O7 rfl,_,Cell.af O7 rfl,Ar.u32 VM fun b3 eK ke=>⟨rfl,bO.mk ke.get (Nat.le_refl 7) (a_ rfl) fun eM Gj=>?_⟩⟩;have rO:=Gj.get ke.get;have a10:=ke.at_;have Sq:=ke.size;have U6:Ext No w9 eM:=ke.ext.out Gj.ext (by show w9.heap.size<=b3;omega);have rQ:Ext (·=b1) w6 eM:=(wz.az.trans x89 fun i _ e=>e).trans U6.az fun i _ e=>e
 have XM:=V6.loc rQ fun i hi=>by rw[hi];exact .inl MN
 have i11:=stb _ _ _ eM T6 _ i6 rQ (fun i e=> .inr (by omega)) fun _ _=>rfl
 have MO:=ar Gh rQ (by omega);have MQ:=ah abA U6;have abB:=V6.tb;simp only at abB;have nb6:¬ (1<=T6 b/\T6 b<=12):=by omega
 have nv6:¬ (1<=T6 vb/\T6 vb<=12):=by omega
 have z68:=wz.size;have z89:=x89.size;have UT:T6 b3=0:=V6.y.out b3 (by omega);have O8:¬ (1<=T6 b3/\T6 b3<=12):=by omega
 have O9:Ext No eM (ae eM):=(Ext.refl _ _).drew;refine⟨Ext (fun i=>1<=T6 i/\T6 i<=12) eM,O9.az,_,aj.aF (Cell.af MO rfl) nb6,Nn.mk ⟨_,aj.aF (Cell.af XM.b rfl) nv6,_,aj.aF (Cell.af MO rfl) nb6,Nn.mk ⟨_,aj.aF (Cell.af XM.b rfl) nv6,mp.cm,aj.aF (Cell.af rO (by rw[hn];rfl)) O8,mp.pg,aj.aF (Cell.af rO rfl) O8,mp.rc,aj.aF (Cell.af rO rfl) O8,mp.gn,aj.aF (Cell.af rO rfl) O8,mp.lv,aj.aF (Cell.af rO rfl) O8,mp.rg,aj.aF (Cell.af rO rfl) O8,mp.tn,aj.aF (Cell.af rO rfl) O8,?_⟩⟩⟩;refine hf m m' s6 T6 _ _ q6 (XM.no O9).y fun FQ sF gO y12 qF sm abC=>?_
 have mw:bu T6 eM FQ gO:=(bu.no O9).trans abC;refine⟨mw.x,dU ⟨mw.x,?_⟩⟩;have SC:=XM.sy mw y12 sm.dev sm.g sm.lb sm.rb sm.pb sm.N sm.Qe;have i12:=stb _ _ _ gO FQ _ i11 mw.x (fun i e=> .inl (by omega)) fun i hi=>mw.a i hi
 have abD:=mw.aw MO (.inl Zx);have U7:=mw.aw MQ (.inl MN);have zC:=mw.aw rO (.inl UT);have F9:FQ b1=0:=(mw.a b1 (aN MQ)).trans MN;refine⟨_,Cell.af abD rfl,mp.cm,Cell.af zC (by rw[hn];rfl),_,Cell.af zC rfl,_,Cell.af zC rfl,_,Cell.af zC rfl,_,Cell.af zC rfl,_,Cell.af zC rfl,_,Cell.af zC rfl,Nn.mk ⟨rfl,bO.mk SC.b (Nat.le_of_ble_eq_true rfl) (a_ rfl) fun lR Md=>?_⟩⟩;have iT:Ext (·=vb) gO lR:=Md.ext;have V14:=SC.put (op:=true) (mp:=mp) (Md.get SC.b) iT;have CR:=SC.tb;simp only at CR;have i14:=stb _ _ _ lR FQ _ i12 iT (fun i e=> .inl (by subst e;omega)) fun _ _=>rfl
 have adS:=mw.x.size;have agl:=rQ.size;have U8:=ar U7 iT fun e=>by rw[e,CR]at F9;exact absurd F9 (by decide)
 have abH:∀i,i < w.heap.size->FQ i=T i:=fun i hi=>(mw.a i (by omega)).trans (agw i hi)
 refine ht _ FQ sF lR _ V14 qF i14 abH ?_ (by omega) fun T15 mU Y3 k15=>ka ⟨true,Cell.af (Y3.aw U8 F9) rfl,If.not (If.yes k15)⟩
 have e5:Ext (fun i=>(1<=T i/\T i<=13)∨W i) w w5:=MX.x.mono fun i _ h=> .inl (by omega)
 have e6:Ext (fun i=>(1<=T i/\T i<=13)∨W i) w w6:=e5.trans x6 fun i hi h=>h.imp (fun h=>by rw[MX.a i hi]at h;omega) id
 have UU:Ext (fun i=>(1<=T i/\T i<=13)∨W i) w gO:=(e6.trans rQ fun i hi e=>by omega).trans mw.x fun i hi h=> .inl (by rw[agw i hi]at h;omega)
 exact UU.trans iT fun i hi e=> .inl (by rw[e,XL];decide)
end
end Go.Proofs.YtiigcapldngijaaGreat
namespace Go.V
structure tB(h:Array Obj)(s:Sl)(b:Nat)(row:List Value):Prop where
 a:s.a=some ⟨b,0,none⟩
 aw:h[b]? = some (.cells row.toArray 218 (0,0))
 len:row.length=s.cap * 9
 le:s.len<=s.cap
section
variable {w:Wd} {s:Sl} {b:Nat} {row:List Value}
theorem tB.cut{lo hi mx:Int}{K:Sl->Prop}(r:tB w.heap s b row)(h0:0<=lo)(h1:lo<=hi)(h2:hi<=mx)(h3:mx=s.cap)(k:∀s' off,s'.len=(hi - lo).toNat->s'.len<=s'.cap->s'.a=some ⟨b,off,none⟩->off<=lo.toNat * 9->(lo < hi->off=lo.toNat * 9)->K s'):Cut s lo hi mx 9 K:=by
 refine Cut.mk h0 h1 h2 (by omega) ?_;unfold h_;split
 .exact k _ 0 rfl (by simp only;omega) r.a (by omega) (fun h=>by omega)
 .rw[r.a];refine k _ (lo.toNat * 9) rfl (by simp only;omega) ?_ (Nat.le_refl _) fun _=>rfl
  simp[ay]
theorem tB.agt{hi mx:Int}{K:Sl->Prop}(r:tB w.heap s b row)(h1:0<=hi)(h2:hi<=mx)(h3:mx=s.cap)(k:K ⟨some ⟨b,0,none⟩,hi.toNat,s.cap⟩):Cut s 0 hi mx 9 K:=by
 refine Cut.mk (Int.le_refl _) h1 h2 (by omega) ?_
 have e1:h_ s.a mx.toNat (Int.toNat 0) 9=some ⟨b,0,none⟩:=by
  unfold h_;split
  .exact r.a
  .rw[r.a];simp[ay]
 rw[e1,show(hi - 0).toNat=hi.toNat by omega,show(mx - 0).toNat=s.cap by omega];exact k
theorem tB.sub{n:Nat}(r:tB w.heap s b row)(h:n<=s.cap):tB w.heap ⟨some ⟨b,0,none⟩,n,s.cap⟩ b row:=⟨rfl,r.aw,r.len,h⟩
theorem XS{P:Program}{t e:TypeId}{ie:TypeInfo}{n:Nat}{x:Value}{xs:List Value}{K:Sl->Pw}(ht:P.underlying t=some (.slice e))(hi:P.info? e=some ie)(rS:ie.size=9)
  (r:tB w.heap s b row) (src:Src P w x 9 n xs) (nj:s.len+n<=s.cap) (hk:∀w',mG w b (.cells (setL row (s.len * 9) xs).toArray 218 (0,0)) w'->K ⟨s.a,s.len+n,s.cap⟩ w'):bj P t t s x K w:=by
 have aN:s.len * 9+xs.length<=row.length:=by rw[src.len,r.len];omega
 have wg:=rU (P:=P) (b:=b) (T:=218) (fz:=(0,0)) xs w row.toArray (s.len * 9) 0 r.aw (by simpa using aN) (.inr (.inr (Nat.le_refl _))) src.cells;have ha:=r.a;refine⟨⟨s.a,s.len+n,s.cap⟩,World.cK w b (.cells (setL row (s.len * 9) xs).toArray 218 (0,0)),fun ty=>?_,hk _ rfl⟩;obtain⟨sa,sl,sc⟩:=s;simp only at ha nj;subst ha;have h0:=src.num;have h1:=src.get w rfl;have ea:(⟨b,0,none⟩ : Addr).add (sl * 9)=⟨b,sl * 9,none⟩:=by rw[ay rfl];simp
 simp only[Nat.add_zero]at wg;simp[Builtin.append_,aD ht,bL hi,rS,h0,h1,nj,ea,wg]
theorem RX{P:Program}{t e:TypeId}{ie:TypeInfo}{z:Value}{off n c:Nat}(ht:P.underlying t=some (.slice e))(hi:P.info? e=some ie)(hz:ie.zero=some z)(Sa:z.cells.size=9)(Qs:∀v∈z.cells,cB v=true)(hb:w.heap[b]? = some (.cells row.toArray 218 (0,0)))(hle:off+n * 9<=row.length) :
  ∃w' zs,(Builtin.clear_ #[t] 0 #[.slice (some ⟨b,off,none⟩) n c]).run P w = .ok (.tuple #[]) w'/\zs.length=n * 9/\mG w b (.cells (setL row off zs).toArray 218 (0,0)) w':=by
 rcases Nat.eq_zero_or_pos n with h | h
 .subst h;refine⟨w,[],?_,by simp,?_⟩
  .simp[Builtin.clear_,aD ht]
  .unfold mG World.cK setL
   have e2:w.heap.setIfInBounds b (.cells row.toArray 218 (0,0))=w.heap:=by
    apply Array.ext_getElem?;intro i;rw[Array.getElem?_setIfInBounds];split
    .rename_i h;subst h;split
     .exact hb.symm
     .rename_i h2;rw[Array.getElem?_eq_none (by omega)]at hb;cases hb
    .rfl
   rw[e2]
 .have hzl:(Builtin.zeroCells z.cells n).toList.length=n * 9:=by simp[oL,Sa]
  have wg:=rU (P:=P) (b:=b) (T:=218) (fz:=(0,0)) (Builtin.zeroCells z.cells n).toList w row.toArray off 0 hb (by simp only[hzl];simpa using hle) (.inr (.inr (Nat.le_refl _))) (fun v hv=>by
   simp only[Builtin.zeroCells,Array.toList_map,List.mem_map]at hv;obtain⟨i,Tu,rfl⟩:=hv;have:i % z.cells.size < z.cells.size:=Nat.mod_lt _ (by omega);refine Qs _ ?_
   simp[this])
  refine⟨World.cK w b (.cells (setL row off (Builtin.zeroCells z.cells n).toList).toArray 218 (0,0)),_,?_,hzl,rfl⟩
  obtain⟨m,rfl⟩ : ∃m,n=m+1:=⟨n - 1,by omega⟩
  simp only[Nat.add_zero]at wg;simp[Builtin.clear_,aD ht,ja hi hz,wg]
theorem tB.wrt{w':Wd}{abI:List Value}(r:tB w.heap s b row)(h:mG w b (.cells abI.toArray 218 (0,0)) w')(hl:abI.length=row.length):tB w'.heap s b abI:=⟨r.a,h.get r.aw,by rw[hl];exact r.len,r.le⟩
end
end Go.V
namespace Go.Proofs.YtiigcapldngijaaGreat
open Go.V Go.V.Dk Go.V.Rn
section
variable {w w':Wd} {T T':Nat->Nat} {s:SA}
theorem MY{b off n c:Nat}{row:List Value}(hb:w.heap[b]? = some (.cells row.toArray 218 (0,0)))(hle:off+n * 9<=row.length):∃w' zs,(Builtin.clear_ #[212] 0 #[.slice (some ⟨b,off,none⟩) n c]).run pz w = .ok (.tuple #[]) w'/\zs.length=n * 9/\mG w b (.cells (setL row off zs).toArray 218 (0,0)) w' :=
 RX (e:=218) (ie:=Tryz.t218) (z:=Tryz.t218.zero.getD .nilFunc) (by kernel_rfl) (by kernel_rfl) (by kernel_rfl) (by kernel_rfl) (by decide +kernel) hb hle
theorem XT{s:Sl}{base:Nat}{cs:List Value}{K:Sl->Pw}(o:aP w.heap base 218 9 s cs)(hc:cs.length=9)(k:∀s' w',aP w'.heap base 218 9 s' []->s'.aw=s.aw->Ext (fun b=>s.aw=some b) w w'->K s' w'):cj s 0 1 w K:=by
 apply jg;obtain⟨b,rest,ha,hb0,hb,hl,iv⟩:=o.place (by intro e;rw[e]at hc;cases hc);have od:s.len=1:=by have:=o.len;omega
 have r:tB w.heap s b (cs++rest):=⟨ha,hb,hl,iv⟩
 have rd:tB (ae w).heap s b (cs++rest):=r;refine Cut.mk (by decide) (by decide) (by omega) (by omega) (If.beq (fun h=>absurd h (by decide)) fun _=>⟨fun _=>True,trivial,tB.agt rd (by decide) (by omega) rfl (tB.cut rd (by decide) (by omega) (by omega) rfl fun s3 o3 l3 c3 a3 aif o3e=>?_)⟩)
 have hs3:Rd (ae w).heap s3 9 []:=⟨by simp;omega,c3,fun h=>(h rfl).elim,by simp⟩
 have r2:tB (ae w).heap ⟨some ⟨b,0,none⟩,(0:Int).toNat,s.cap⟩ b (cs++rest):=tB.sub rd (Nat.zero_le _)
 refine XS (e:=218) (ie:=Tryz.t218) (by kernel_rfl) (by kernel_rfl) (by kernel_rfl) r2 hs3.src (by simp only;omega) fun w1 h1=>⟨trivial,?_⟩
 have hs0:(0:Int).toNat+s3.len=0:=by rw[l3,od];rfl
 have r1:tB w1.heap ⟨some ⟨b,0,none⟩,(0:Int).toNat+s3.len,s.cap⟩ b (setL (cs++rest) (((0:Int).toNat) * 9) []):=by rw[hs0];exact r2.wrt h1 (by rw[jV])
 refine tB.cut r1 (by simp only;omega) (by simp only;omega) (by simp only;omega) rfl fun s5 o5 l5 c5 a5 agu o5e=>?_
 obtain⟨s5a,s5l,s5c⟩:=s5;simp only at a5 l5 agu o5e;subst a5;obtain⟨w2,zs,eH,hzl,VO⟩:=MY (b:=b) (off:=o5) (n:=s5l) (c:=s5c) r1.aw (by rw[jV,List.length_append];omega);have r3:=r1.wrt VO (by rw[jV]);refine⟨w2,eH,k _ w2 ⟨by simp only[List.length_nil];omega,.inr ⟨b,_,rfl,hb0,r3.aw,r3.len,r3.le⟩,by simp⟩ (by simp[Sl.aw,ha]) ?_⟩;exact((h1.ext.an).trans VO.ext fun q _ h=>h).mono fun q _ h=>by subst h;simp[Sl.aw,ha]
theorem XU{s v:Sl}{base:Nat}{xs:List Value}{K:Sl->Pw}(o:aP w.heap base 218 9 s [])(hb:base<=w.heap.size)(hv:Rd w.heap v 9 xs)(hl:v.len=1)(k:∀s' w',aP w'.heap base 218 9 s' xs->(s'.aw=s.aw∨∃b,s'.aw=some b/\w.heap.size<=b)->Ext (fun b=>s.aw=some b) w w'->K s' w'):cn s 0 v w K:=by
 apply jh;have h0:s.len=0:=by have:=o.len;simp only[List.length_nil]at this;omega
 refine Cut.mk (by decide) (by omega) (by have:=o.rd.cap;omega) (by omega) (If.beq (fun h=>by omega) fun _=>If.beq (fun _=>?_) fun h=>by omega);refine xB o hb hv.src (by omega) fun s1 w1 o1 _ x1 hs=>k s1 w1 o1 hs x1
theorem ZL{s ks:Sl}{p:ca×gN}{key:List Int}{K:Int->Bool->Pw}(nd:Gk w.heap s [p])(hk:aQ w.heap ks key)(k8:B8 key)(e:p.2.key=key)(k:∀w',Ext No w w'->K 0 true w'):iy 1 0 s ks w K:=by
 apply Af
 refine au.mk fun b w1 n1=>⟨_,Cell.af n1.get rfl,?_⟩
 have nl:s.len=1:=nd.len;refine⟨fun q t w'=>t=0/\w1=w',⟨0,rfl,rfl⟩,?_⟩;rintro _ m0 t w2 ⟨rfl,rfl⟩;refine If.dec (fun h=>?_) fun h=>absurd (by omega) h
 refine vQ (nd.rd.no n1.ext) (by decide) h fun b1 w4 qO g4 _ _ x4=>?_
 have th:=n1.ext.no x4;have er:=(nd.no th).JM p (List.mem_singleton.2 rfl);refine⟨p.1.k,Cell.af g4 rfl,ot er.k (Rd.no hk th) er.k8 k8 ?_⟩;rw[e,HX];exact If.yes (k w4 th)
theorem Kj{t:Int}{x:ca}{e:gN}{g:Value}{K:Sl->Int->Pw}(er:xg w.heap x e)(hz:e.ch = .z)(hl:e.val.length<=65536)(k:∀s w',aL w'.heap w.heap.size s e.val->Ext No w w'->K s 0 w') :
  jB g t x.k x.v x.n x.ch.p x.ch.c x.ch.g x.cd.p x.cd.c x.cd.g w K:=by
 apply yl;refine au.mk fun b w1 n1=>au.mk fun b1 w2 n2=>?_
 have x2:=n1.ext.no n2.ext;have g2:w2.heap[b1]? = some (.cells x.cs.toArray 218 (0,0)):=n2.get;refine⟨_,Cell.af g2 rfl,_,Cell.af g2 rfl,_,Cell.af g2 rfl,?_⟩;rw[er.ch,hz];refine If.yes ⟨_,Cell.af g2 rfl,pn (er.no x2).v (by omega) fun s w3 o3 x3=>k s w3 (aP.mono o3 x2.size) (x2.no x3)⟩
end
end Go.Proofs.YtiigcapldngijaaGreat
namespace Go.Proofs.YtiigcapldngijaaGreat
open Go.V Go.V.Dk Go.V.Rn
section
variable {w w':Wd} {T T':Nat->Nat} {s:SA}
theorem bu.agv{w1:Wd}{S:Nat->Prop}(h:bu T w T' w1)(x:Ext S w1 w')(hS:∀i,S i->w.heap.size<=i):bu T w T' w':=⟨h.a,h.x.trans x fun i hi e=>by have:=hS i e;omega⟩
theorem aP.ZM{e:TypeId}{n base:Nat}{sl:Sl}{cs:List Value}{K:Addr->Prop}(o:aP w.heap base e n sl cs)(du:cs≠[])(hl:0 < sl.len)(k:∀b rest,base<=b->sl.aw=some b->w.heap[b]? = some (.cells (cs++rest).toArray e (0,0))->K ⟨b,0,none⟩):Ix sl.a sl.len 0 n K:=by
 obtain⟨b,rest,ha,hb,hg,_,_⟩:=o.place du;refine⟨⟨b,0,none⟩,ha,by decide,by omega,?_⟩;have e:(⟨b,0,none⟩ : Addr).add ((0:Int).toNat * n)=⟨b,0,none⟩:=by rw[ay rfl];simp
 rw[e];exact k b rest hb (by simp[Sl.aw,ha]) hg
theorem Rd.Qi{sl:Sl}{l:List Int}(r:aQ w.heap sl l)(p:bu T w T' w')(t:∀i,sl.aw=some i->T i=0):aQ w'.heap sl l:=r.ext p.x fun a i ha hi e=>by have:=t i (by simp[Sl.aw,ha,hi]);omega
theorem XV{g:Value}{t:Int}{x:ca}{K:Int->Pw}(hz:x.ch = .z)(k:∀w',Ext No w w'->K 0 w'):iP g t x.k x.v x.n x.ch.p x.ch.c x.ch.g x.cd.p x.cd.c x.cd.g w K:=by
 apply wN;refine fun b w1 n1 b1 w2 n2 b2 w3 n3=>?_
 have g0:=ah (ah n1.get n2.ext) n3.ext;have g1:=ah n2.get n3.ext;have x3:=(n1.ext.no n2.ext).no n3.ext;rw[hz]at g1;refine⟨_,Cell.af g0 rfl,_,Cell.af g0 rfl,0,Cell.af g1 rfl,0,Cell.af g1 rfl,0,Cell.af g1 rfl,UB fun w4 x4=>If.bne (fun h=>absurd rfl h) fun _=>⟨⟨none,0,0⟩,Cell.af (ah n3.get x4) rfl,fun _ t u=>t=0/\w4=u,⟨0,rfl,rfl⟩,?_⟩⟩;rintro _ _ _ _ ⟨rfl,rfl⟩;exact If.dec (fun h=>absurd h (by decide)) fun _=>k w4 (x3.no x4)
theorem abJ{sl:Sl}{p:ca×gN}{K:Sl->Int->Pw}(nd:Gk w.heap sl [p])(hr:lA 1 0 [p.2])(hs:(wr 1 0 [p.2]).length<=224)(k:∀b w',w'.heap[b]? = some (.cells [Value.slice none 0 0,.int .u8 1,.int .u8 0,sl.v].toArray 488 (0,0))->w.heap.size<=b->Ext No w w'->K ⟨some ⟨b,0,none⟩,1,1⟩ 0 w'):nV 1 0 sl w K:=by
 apply Jd;have hl:sl.len=1:=nd.len
 refine fun b w1 n1=>⟨sl,Cell.af n1.get rfl,If.beq (fun h=>by omega) fun _=>⟨fun _=>False,⟨1,Cell.af n1.get rfl,0,Cell.af n1.get rfl,sl,Cell.af n1.get rfl,Rj (nd.no n1.ext) (Nat.le_of_ble_eq_true rfl) (fun w2 _ x2=>If.beq (fun _=>If.dec (fun _=>?_) fun h=>absurd (show(((wr 1 0 [p.2]).length:Nat):Int)<=224 by omega) h) fun h=>absurd rfl h) fun c w2 h _ _=>absurd hr h⟩,fun _ _ h=>h.elim⟩⟩
 have g2:=ah n1.get x2;refine⟨1,Cell.af g2 rfl,0,Cell.af g2 rfl,sl,Cell.af g2 rfl,fun b1 w3 n3=>k b1 w3 n3.get ?_ ((n1.ext.no x2).no n3.ext)⟩;have:=(n1.ext.no x2).size;have:=n3.at_;omega
abbrev SA.drop(s:SA)(n:Int):SA:={ s with wl:=s.wl++[n],dl:=s.dl++[n] }
structure Vg(s:SA)(n:Int)(m md:Nat):Prop where
 cm:s.cm≠0
 fl:s.fl=false
 at_:2<=n/\n < s.N
 wl:s.wl.contains n=false
 hr:bw s.F=true
 free:Rn.hasB n s.F=false
 m:s.pm=some m
 md:s.dm=some md
 pu:s.pu.contains n=false
 dl:s.dl.contains n=false
set_option maxHeartbeats 2000000 in
theorem abK{k:KP}{e:gN}{m md:Nat}{ks vs:Sl}{key val:List Int}{K:Sl->Int->Pw}(y:Sy w T s)(G:G9 s k (·=s))(D:Vg s k.l.pg m md)(hl:lT k [e])(En:e.ch = .z)(hk:aQ w.heap ks key)(hv:aQ w.heap vs val)(tk:∀i,ks.aw=some i->T i=0)(tv:∀i,vs.aw=some i->T i=0)(k8:B8 key)(v8:B8 val)(k1:1<=key.length)(kl:key.length<=32)(vl:val.length<=64)(he:e.key=key)
  (kk:∀b1 sl x T' w',w'.heap[b1]? = some (.cells [Value.slice none 0 0,.int .u8 1,.int .u8 0,sl.v].toArray 488 (0,0))->T' b1=0->Gk w'.heap sl [(x,⟨key,val,0,.z,.z⟩)]->Sy w' T' (s.drop k.l.pg)->bu T w T' w'->K ⟨some ⟨b1,0,none⟩,1,1⟩ 0 w'):jG s.src k.l.t k.l.pg k.l.cm k.l.gn 0 ks vs false w K:=by
 apply yr;refine fun b w1 n1 b1 w2 n2 b2 w3 n3=>?_
 have x3:Ext No w w3:=(n1.ext.no n2.ext).no n3.ext;have z1:=n1.size;have z2:=n2.size;have z3:=n3.size;have a1:=n1.at_;have a2:=n2.at_;have a3:=n3.at_;have g0:=ah (ah n1.get n2.ext) n3.ext;have g1:=ah n2.get n3.ext;have g2:=n3.get;have y3:=y.no x3;have tn:∀i,w.heap.size<=i->T i=0:=y.out
 refine⟨_,Cell.af g0 rfl,_,Cell.af g0 rfl,_,Cell.af g1 rfl,_,Cell.af g1 rfl,_,Cell.af g1 rfl,_,Cell.af g1 rfl,JR y3 G hl fun sl L s' T' base w4 d4 tz hz hL y4 q4 p4=>?_⟩;subst q4
 obtain⟨p,rfl⟩ : ∃p,L=[p]:=by
  have:=congrArg List.length hL
  match L,this with
  | [p],_=>exact⟨p,rfl⟩
  | [],h=>simp at h
  | _::_::_,h=>simp at h
 have LQ:p.2=e:=by simpa[fi] using hL
 refine mF (vs:=[Value.int .u8 1,.int .u8 0,sl.v]) rfl rfl (a_ rfl) fun b3 w6 g6 a6 z6 x6=>If.bne (fun h=>absurd rfl h) fun _=>?_
 have up:∀{i:Nat}{o:Obj},w3.heap[i]? = some o->T i=0->w6.heap[i]? = some o:=fun h t=>ah (p4.aw h (.inl t)) x6
 have k0:=up g0 (tn _ (by omega));have k1':=up g1 (tn _ (by omega));have k2:=up g2 (tn _ (by omega));have z34:=p4.x.size;have z46:=x6.size;have t':∀i,i < w3.heap.size->w.heap.size<=i->T' i=0:=fun i h1 h2=>by rw[p4.a i h1];exact tn i h2
 refine⟨_,Cell.af k0 rfl,_,Cell.af k1' rfl,_,Cell.af k1' rfl,_,Cell.af k1' rfl,yX (Rh (y4.no x6) D.cm D.fl D.at_ D.wl D.hr D.free D.m D.md D.pu D.dl fun w7 y7 p7=>If.bne (fun h=>absurd rfl h) fun _=>?_)⟩;have b3z:T' b3=0:=y4.out b3 (by omega);have h0:=p7.aw k0 (.inl (t' _ (by omega) (by omega)));have h1:=p7.aw k1' (.inl (t' _ (by omega) (by omega)));have h2:=p7.aw k2 (.inl (t' _ (by omega) (by omega)));have h3:=p7.aw g6 (.inl b3z);have pw:bu T w T' w7:=(((bu.no x3).trans p4).nx x6).trans p7;have d7:xh w7.heap base sl [p]:=(d4.no x6).ext p7.x fun i hi _ e=>by have:=tz i hi;omega
 have hk7:=Rd.Qi hk pw tk;have hv7:=Rd.Qi hv pw tv
 have w_:base<=b3:=by
  obtain⟨bb,rest,ha,Sg,hg,_,_⟩:=d4.own.place (by simp[tW,ca.cs]);have:=aN hg;omega
 refine⟨0,Cell.af h1 rfl,If.dec (fun h=>absurd h (by decide)) fun _=>⟨_,Cell.af h3 rfl,_,Cell.af h3 rfl,sl,Cell.af h3 rfl,ks,Cell.af h2 rfl,ZL d7.nd hk7 k8 (by rw[LQ];exact he) fun w9 x9=>?_⟩⟩;have d9:=d7.no x9;have c0:=ah h0 x9;have c1:=ah h1 x9;have c2:=ah h2 x9;have c3:=ah h3 x9;have z9:=x9.size;have zl:w6.heap.size<=w7.heap.size:=p7.x.size;have lb:b < base/\b1 < base/\b2 < base:=by omega
 refine⟨fun u=>∃xI,aP u.heap base 218 9 xI []/\u.heap[b3]? = some (.cells [Value.int .u8 1,.int .u8 0,xI.v].toArray 214 (0,0))/\xI.aw≠some b3/\Ext (fun i=>base<=i) w7 u,If.yes ⟨Ext No w9,(Ext.refl _ _).drew,_,aj.aF (Cell.af c0 rfl) (fun h=>h),_,aj.aF (Cell.af c0 rfl) (fun h=>h),sl,aj.aF (Cell.af c3 rfl) (fun h=>h),?_⟩,?_⟩
 .have o9:aP w9.heap base 218 9 sl p.1.cs:=by have:=d9.own;simpa[tW] using this
  have od:sl.len=1:=d9.nd.len;have nb3:sl.aw≠some b3:=fun h=>by have:=(d4.own.lt h).2;omega
  refine aP.ZM o9 (by simp[ca.cs]) (by omega) fun bb rest Sg _ hg=>⟨p.1.k,aj.aF (Cell.af hg rfl) (fun h=>h),p.1.v,aj.aF (Cell.af hg rfl) (fun h=>h),p.1.n,aj.aF (Cell.af hg rfl) (fun h=>h),p.1.ch.p,aj.aF (Cell.af hg rfl) (fun h=>h),p.1.ch.c,aj.aF (Cell.af hg rfl) (fun h=>h),p.1.ch.g,aj.aF (Cell.af hg rfl) (fun h=>h),p.1.cd.p,aj.aF (Cell.af hg rfl) (fun h=>h),p.1.cd.c,aj.aF (Cell.af hg rfl) (fun h=>h),p.1.cd.g,aj.aF (Cell.af hg rfl) (fun h=>h),?_⟩
  refine XV (by rw[(d9.nd.JM p (List.mem_singleton.2 rfl)).ch,LQ];exact En) fun eK dQ=>⟨dQ.an,If.bne (fun h=>absurd rfl h) fun _=>?_⟩
  have XW:Ext No w9 eK:=dQ.an;refine⟨sl,Cell.af (ah c3 XW) rfl,Ar.i64 (by decide) (XT (o9.no XW) rfl fun Sn eM Su ad4 nH=>?_)⟩;have ad5:=ar (ah c3 XW) nH nb3
  refine aH.mk ad5 (Nat.le_of_ble_eq_true rfl) rfl fun gO OZ=>⟨Sn,Su.ext OZ.ext fun i hi e=>nb3 (by rw[<- ad4,hi,e]),OZ.get ad5,by rw[ad4];exact nb3,?_⟩
  exact((x9.no XW).az.trans nH fun i _ h=>(d9.own.lt (b:=i) h).1).trans OZ.ext fun i _ h=>by subst h;exact w_
 rintro _ fV ⟨xI,o13,XX,nb3,iY⟩;have q0:=ar h0 iY (by omega);have q2:=ar h2 iY (by omega)
 have lk:∀{q:Sl}{l:List Int},aQ w7.heap q l->aQ w.heap q l->(∀i,q.aw=some i->T i=0)->aQ fV.heap q l:=fun {q l} r7 r0 tq=>by
  by_cases du:l=[]
  .subst du;exact⟨Rd.len r7,Rd.cap r7,fun h=>(h rfl).elim,by simp⟩
  .exact r7.ext iY fun a i ha hi e=>by
    have:=Rd.lt r0 (by simpa using du) (show q.aw=some i by simp[Sl.aw,ha,hi]);omega
 have agx:=lk hk7 hk tk;have agy:=lk hv7 hv tv;refine⟨false,Cell.af q2 rfl,If.not (If.no ⟨_,Cell.af q0 rfl,_,Cell.af q0 rfl,ks,Cell.af q2 rfl,vs,Cell.af q2 rfl,AV agx agy k8 v8 kl vl fun x lR hx bx iT=>?_⟩)⟩;refine mF (vs:=x.cs) rfl rfl (oE _) fun b4 iB JO _ z16 uy=>If.bne (fun h=>absurd rfl h) fun _=>?_
 have ZN:=iT.no uy;refine⟨xI,Cell.af (ah XX ZN) rfl,rJ JO fun b5 pJ n17=>?_⟩;have Ql:=ZN.no n17.ext;have o17:Rd pJ.heap ⟨some ⟨b5,0,none⟩,1,1⟩ 9 x.cs:=(aP.new (n:=1) (sz:=9) (cs:=x.cs) n17 rfl (oE _)).rd;have W3:=iY.size;have ahp:=Ql.size;refine XU (o13.no Ql) (by omega) o17 rfl fun s18 G1 o18 agz Nb=>?_
 have agA:s18.aw≠some b3:=fun h=>by
  rcases agz with h' | ⟨c,h',hc⟩
  .exact nb3 (h'.symm.trans h)
  .rw[h']at h;cases h;have:=aN XX;omega
 have ad6:=ar (ah XX Ql) Nb nb3;refine aH.mk ad6 (Nat.le_of_ble_eq_true rfl) rfl fun AE XY=>?_
 have abL:=XY.get ad6;have ZO:Ext (fun i=>xI.aw=some i∨i=b3) pJ AE:=(Nb.mono fun i _ h=> .inl h).trans XY.ext fun i _ h=> .inr h
 have xx:xg AE.heap x ⟨key,val,0,.z,.z⟩:=by
  have agB:=(hx.no uy).no n17.ext;have l3:=aN XX
  have ap:∀q,x.k.aw=some q∨x.v.aw=some q->¬ (xI.aw=some q∨q=b3):=fun q hq e=>by
   have h1:=bx q hq;rcases e with e | e
   .have:=(o13.lt e).2;omega
   .omega
  exact agB.ext ZO (fun q hq=>ap q (.inl hq)) fun q hq=>ap q (.inr hq)
 have nd:Gk AE.heap s18 [(x,⟨key,val,0,.z,.z⟩)]:=⟨by have:=(o18.ext XY.ext fun i hi e=>agA (by rw[hi,e])).rd;simpa[tW] using this,fun q hq=>by rw[List.mem_singleton]at hq;subst hq;exact xx⟩
 have ad7:Ext (fun i=>base<=i) w7 AE:=(iY.trans Ql.az fun i _ h=>h).trans ZO fun i _ h=>by
  rcases h with h | h
  .exact(o13.lt (b:=i) h).1
  .omega
 refine⟨1,Cell.af abL rfl,0,Cell.af abL rfl,s18,Cell.af abL rfl,abJ nd (tA k1 kl vl rfl rfl rfl) (AW kl vl rfl) fun bb HO g20 aih x20=>?_⟩;have ad8:Ext (fun i=>base<=i) w7 HO:=ad7.trans x20.az fun i _ h=>h
 exact kk bb s18 x T' HO g20 (tz bb (by have:=ad7.size;omega)) (nd.no x20) (y7.loc ad8 fun i hi=> .inl (tz i hi)) (pw.agv ad8 fun i hi=>by omega)
end
end Go.Proofs.YtiigcapldngijaaGreat
namespace Go.Proofs.YtiigcapldngijaaGreat
open Go.V Go.V.Dk Go.V.Rn
section
variable {w w':Wd} {T T':Nat->Nat} {s:SA}
set_option maxHeartbeats 1000000 in
theorem abM{t g:Int}{r:fA}{m bl:Nat}{sl:Sl}{L:List (ca×gN)}{K:Int->Int->Int->Int->Int->Pw}(y:Sy w T s)(P:Hf s t g r m)(hb:w.heap[bl]? = some (.cells [Value.slice none 0 0,.int .u8 1,.int .u8 0,sl.v].toArray 488 (0,0)))(tb:T bl=0)(nd:Gk w.heap sl L)(hl:L.length<=65536)(hr:lA 1 0 (fi L))(hs:(wr 1 0 (fi L)).length<=224)
  (k:∀s' T' w',Sy w' T' s'->(∃fr sl,s'=s.put t g r fr sl (pad (wr 1 0 (fi L))))->bu T w T' w'->K r.1 s.cm g 0 0 w'):jH s.src t ⟨some ⟨bl,0,none⟩,1,1⟩ 0 w K:=by
 apply yv;refine fun b w1 n1 b1 w2 n2=>If.beq (fun h=>absurd (show(1:Int)=0 from h) (by decide)) fun _=>If.beq (fun _=>?_) fun h=>absurd rfl h
 have x2:=n1.ext.no n2.ext;have g0:=ah n1.get n2.ext;have gb:=ah hb x2;have z1:=n1.size;have z2:=n2.size;have a1:=n1.at_;have a2:=n2.at_;refine⟨fun u=>w2=u,⟨fun c u=>false=c/\w2=u,Ix.arr (Int.le_refl 0) (show(0:Int) < 1 by decide) ⟨1,Cell.af gb rfl,If.beq (fun h=>absurd h (by decide)) fun _=>⟨rfl,rfl⟩⟩,?_⟩,?_⟩
 .rintro _ _ _ ⟨rfl,rfl⟩;exact If.no rfl
 rintro _ _ rfl;have y2:=y.no x2;have yd:=y2.no (Ext.refl No w2).drew;have t0:T b=0:=y.out b (by omega);have t1:T b1=0:=y.out b1 (by omega);have lb:=aN hb;have n0:¬ ((1<=T b/\T b<=12)∨b=b1):=by omega
 have nb:¬ ((1<=T bl/\T bl<=12)∨bl=b1):=by omega
 refine⟨Ext (fun i=>(1<=T i/\T i<=12)∨i=b1) w2,(Ext.refl _ _).drew,_,aj.aF (Cell.af g0 rfl) n0,_,aj.aF (Cell.af g0 rfl) n0,Ix.arr (Int.le_refl 0) (show(0:Int) < 1 by decide) ⟨1,aj.aF (Cell.af gb rfl) nb,0,aj.aF (Cell.af gb rfl) nb,sl,aj.aF (Cell.af gb rfl) nb,?_⟩⟩;refine F6 yd P ((nd.no x2).no (Ext.refl No w2).drew) hl hr hs fun T' fr' xI w3 y3 p3=>?_
 have x3:Ext (fun i=>(1<=T i/\T i<=12)∨i=b1) w2 w3:=p3.x.an.mono fun i _ h=> .inl h
 have g1:w3.heap[b1]? = _:=p3.aw (show(ae w2).heap[b1]? = _ from n2.get) (.inl t1);have t1':T' b1=0:=(p3.a b1 (aN n2.get)).trans t1;refine⟨x3,rfl,bO.mk g1 (Nat.le_refl 4) (a_ rfl) fun w4 h4=>⟨x3.trans h4.ext fun i _ h=> .inr h,?_⟩⟩;have g4:=h4.get g1;exact⟨_,Cell.af g4 rfl,_,Cell.af g4 rfl,_,Cell.af g4 rfl,_,Cell.af g4 rfl,k _ T' w4 (y3.loc h4.ext fun i hi=>by subst hi;exact .inl t1') ⟨fr',xI,rfl⟩ (((bu.no (x2.no (Ext.refl No w2).drew)).trans p3).out h4.ext (by omega))⟩
set_option maxHeartbeats 1000000 in
theorem XZ{k:KP}{e:gN}{t g:Int}{r:fA}{m md:Nat}{key val:List Int}(G:G9 s k (·=s))(D:Vg s k.l.pg m md)(P:Hf (s.drop k.l.pg) t g r m)(hl:lT k [e])(En:e.ch = .z)(hn:k.l.pg≠0)(ht:k.l.t=t)(k8:B8 key)(v8:B8 val)(k1:1<=key.length)(kl:key.length<=32)(vl:val.length<=64)(he:e.key=key):UO s t k.l.pg k.l.cm k.l.gn key val r.1 g (fun s'=>∃fr sl,s'=(s.drop k.l.pg).put t g r fr sl (pad (wr 1 0 [⟨key,val,0,.z,.z⟩]))):=by
 intro w T ks vs K y hk hv tk tv kk;subst ht;apply nD;refine fun b w1 n1 b1 w2 n2 b2 w3 n3 b3 w4 n4=>?_
 have z1:=n1.size;have z2:=n2.size;have z3:=n3.size;have z4:=n4.size;have a1:=n1.at_;have a2:=n2.at_;have a3:=n3.at_;have a4:=n4.at_;have x4:Ext No w w4:=((n1.ext.no n2.ext).no n3.ext).no n4.ext;have g0:=ah (ah (ah n1.get n2.ext) n3.ext) n4.ext;have g1:=ah (ah n2.get n3.ext) n4.ext;have g2:=ah n3.get n4.ext;refine⟨k.l.pg,Cell.af g1 rfl,k.l.cm,Cell.af g1 rfl,k.l.gn,Cell.af g1 rfl,0,Cell.af g1 rfl,If.cases (fun h=>?_) fun _=>?_⟩
 .simp only[Bool.and_eq_true,beq_iff_eq]at h;omega
 refine⟨fun u=>w4=u,⟨false,Cell.af g2 rfl,If.no rfl⟩,?_⟩;rintro _ _ rfl;refine⟨_,Cell.af g0 rfl,_,Cell.af g0 rfl,_,Cell.af g1 rfl,_,Cell.af g1 rfl,_,Cell.af g1 rfl,_,Cell.af g1 rfl,ks,Cell.af g2 rfl,vs,Cell.af g2 rfl,false,Cell.af g2 rfl,?_⟩;refine abK (y.no x4) G D hl En (hk.no x4) (hv.no x4) tk tv k8 v8 k1 kl vl he fun bl sl x T5 w5 g5 t5 nd5 y5 p5=>If.bne (fun h=>absurd rfl h) fun _=>?_
 have tn:∀i,w.heap.size<=i->T i=0:=y.out
 have h0:=p5.aw g0 (.inl (tn _ (by omega)));have h1:=p5.aw g1 (.inl (tn _ (by omega)));have h3:=p5.aw n4.get (.inl (tn _ (by omega)));have t3:T5 b3=0:=(p5.a b3 (aN n4.get)).trans (tn _ (by omega));refine⟨_,Cell.af h0 rfl,_,Cell.af h0 rfl,0,Cell.af h1 rfl,abM (s:=s.drop k.l.pg) y5 P g5 t5 nd5 (Nat.le_of_ble_eq_true rfl) (tA k1 kl vl rfl rfl rfl) (AW kl vl rfl) fun s' T6 w6 y6 q6 p6=>⟨rfl,?_⟩⟩;have h36:=p6.aw h3 (.inl t3);have t36:T6 b3=0:=(p6.a b3 (aN h3)).trans t3;refine bO.mk h36 (Nat.le_refl 4) (a_ rfl) fun w7 h7=>?_
 have g7:=h7.get h36;exact⟨_,Cell.af g7 rfl,_,Cell.af g7 rfl,_,Cell.af g7 rfl,_,Cell.af g7 rfl,kk s' T6 w7 (y6.loc h7.ext fun i hi=>by subst hi;exact .inl t36) q6 ((((bu.no x4).trans p5).trans p6).out h7.ext (by omega))⟩
theorem ad9{t:Int}{ks:Sl}{K:Sl->Int->Pw}(h:1<=ks.len/\ks.len<=32)(k:∀w',Ext No w w'->K ⟨none,0,0⟩ 7 w'):jz s.src t 0 0 0 0 ks w K:=by
 apply E_
 refine fun b w1 n1=>⟨fun u=>w1=u,⟨trivial,If.no (If.beq (fun h=>by omega) fun _=>If.dec (fun h=>by omega) fun _=>rfl)⟩,?_⟩
 rintro _ _ rfl;refine⟨rfl,fx rfl rfl (a_ rfl) fun w2 g2 z2 x2=>⟨fun _ u=>w2=u,⟨0,rfl⟩,?_⟩⟩;rintro _ _ _ rfl;have g0:=ah n1.get x2;exact⟨0,Cell.af g0 rfl,0,Cell.af g0 rfl,0,Cell.af g0 rfl,0,Cell.af g0 rfl,If.not (If.yes (k w2 (n1.ext.no x2)))⟩
set_option maxHeartbeats 1000000 in
theorem ZP{k:KP}{e:gN}{ks:Sl}{key:List Int}{Q:SA->Prop}{K:Sl->Int->Pw}(y:Sy w T s)(G:G9 s k Q)(hl:lT k [e])(En:e.ch = .z)(hn:k.l.pg≠0)(hk:aQ w.heap ks key)(tk:∀i,ks.aw=some i->T i=0)(k8:B8 key)(h:1<=ks.len/\ks.len<=32)(he:e.key=key)(vl:e.val.length<=65536)
  (kk:∀sl s' T' w',aL w'.heap w.heap.size sl e.val->(∀i,sl.aw=some i->T' i=0)->Sy w' T' s'->Q s'->bu T w T' w'->K sl 0 w'):jz s.src k.l.t k.l.pg k.l.cm k.l.gn 0 ks w K:=by
 apply E_
 refine fun b w1 n1=>⟨fun u=>w1=u,⟨trivial,If.no (If.beq (fun h=>by omega) fun _=>If.dec (fun h=>by omega) fun _=>rfl)⟩,?_⟩
 rintro _ _ rfl;refine⟨rfl,mF (vs:=[s.src,Value.int .u32 k.l.t]) rfl rfl (a_ rfl) fun b1 w2 g2 a2 z2 x2=>⟨fun _ u=>w2=u,⟨0,rfl⟩,?_⟩⟩;rintro _ _ _ rfl;have g0:=ah n1.get x2;have vJ:=n1.ext.no x2;have z1:=n1.size;have a1:=n1.at_;have tn:∀i,w.heap.size<=i->T i=0:=y.out
 refine⟨k.l.pg,Cell.af g0 rfl,k.l.cm,Cell.af g0 rfl,k.l.gn,Cell.af g0 rfl,0,Cell.af g0 rfl,If.not (If.cases (fun h=>?_) fun _=>?_)⟩
 .simp only[Bool.and_eq_true,beq_iff_eq]at h;omega
 refine⟨_,Cell.af g2 rfl,_,Cell.af g2 rfl,_,Cell.af g0 rfl,_,Cell.af g0 rfl,_,Cell.af g0 rfl,_,Cell.af g0 rfl,JR (y.no vJ) G hl fun sl L s' T' base w4 d4 tz hz hL y4 q4 p4=>?_⟩
 obtain⟨p,rfl⟩ : ∃p,L=[p]:=by
  have:=congrArg List.length hL
  match L,this with
  | [p],_=>exact⟨p,rfl⟩
  | [],h=>simp at h
  | _::_::_,h=>simp at h
 have LQ:p.2=e:=by simpa[fi] using hL
 refine mF (vs:=[Value.int .u8 1,.int .u8 0,sl.v]) rfl rfl (a_ rfl) fun b3 w6 g6 a6 z6 x6=>If.bne (fun h=>absurd rfl h) fun _=>?_
 have h0:=ah (p4.aw g0 (.inl (tn _ (by omega)))) x6;have h2:=ah (p4.aw g2 (.inl (tn _ (by omega)))) x6;have d6:=d4.no x6;have pw:bu T w T' w6:=((bu.no vJ).trans p4).nx x6;refine⟨0,Cell.af h0 rfl,If.dec (fun h=>absurd h (by decide)) fun _=>⟨_,Cell.af g6 rfl,_,Cell.af g6 rfl,sl,Cell.af g6 rfl,ZL d6.nd (Rd.Qi hk pw tk) k8 (by rw[LQ];exact he) fun w9 x9=>If.not (If.yes ?_)⟩⟩;have d9:=d6.no x9;have o9:aP w9.heap base 218 9 sl p.1.cs:=by have:=d9.own;simpa[tW] using this
 have od:sl.len=1:=d9.nd.len;have c2:=ah h2 x9;have c6:=ah g6 x9;refine⟨Ext No w9,(Ext.refl _ _).drew,_,aj.aF (Cell.af c2 rfl) (fun h=>h),_,aj.aF (Cell.af c2 rfl) (fun h=>h),sl,aj.aF (Cell.af c6 rfl) (fun h=>h),?_⟩
 refine aP.ZM o9 (by simp[ca.cs]) (by omega) fun bb rest Sg _ hg=>⟨p.1.k,aj.aF (Cell.af hg rfl) (fun h=>h),p.1.v,aj.aF (Cell.af hg rfl) (fun h=>h),p.1.n,aj.aF (Cell.af hg rfl) (fun h=>h),p.1.ch.p,aj.aF (Cell.af hg rfl) (fun h=>h),p.1.ch.c,aj.aF (Cell.af hg rfl) (fun h=>h),p.1.ch.g,aj.aF (Cell.af hg rfl) (fun h=>h),p.1.cd.p,aj.aF (Cell.af hg rfl) (fun h=>h),p.1.cd.c,aj.aF (Cell.af hg rfl) (fun h=>h),p.1.cd.g,aj.aF (Cell.af hg rfl) (fun h=>h),?_⟩
 have er:=((d9.no (Ext.refl No w9).drew).nd.JM p (List.mem_singleton.2 rfl))
 rw[LQ]at er
 refine Kj er En vl fun sv eK Jv dQ=>⟨dQ.an,?_⟩
 have O1:Ext No w6 eK:=x9.no dQ.an;have z9:w9.heap.size<=(ae w9).heap.size:=Nat.le_refl _;have zz:=x9.size;have zp:=pw.x.size;exact kk sv s' T' eK (Jv.mono (by omega)) (fun i hi=>(y4.no x6).out i (by have:=(Jv.lt hi).1;omega)) ((y4.no x6).no O1) q4 (pw.nx O1)
end
end Go.Proofs.YtiigcapldngijaaGreat
namespace Go.Proofs.YtiigcapldngijaaGreat
open Go.V Go.V.Dk Go.V.Rn
section
variable {w w':Wd} {T T':Nat->Nat} {s:SA} {k:KP} {cb lo hi:Nat} {at_:Int} {p sl:Sl} {L:List (ca×gN)}
def vX(s:SA)(k:KP):Prop:=∀(w:Wd)(T:Nat->Nat)(K:Sl->Int->Pw),Sy w T s->(∀sl w',aL w'.heap w.heap.size sl k.b->Ext No w w'->K sl 0 w')->fh s.p k.l.t k.l.kd k.l.lv k.l.pg k.l.cm k.l.gn w K
theorem vX.gp(G:vX s k):G9 s k (·=s):=fun w T K y kk=>G w T K y fun sl w' o x=>kk sl s T w' o (fun i hi=>y.out i (o.lt hi).1) (y.no x) rfl (.no x)
theorem aea(hk:l_ k.n (s.ps.map KP.e)=some k.v)(hm:k∈s.ps)(h2:2<=k.n/\k.n < s.N)(hl:k.l.pg=k.n)(HR:1<=k.l.kd/\k.l.kd<=3):vX s k:=fun _ _ _ y kk=>Mc y hk hm h2 hl HR kk
def X0(w:Wd)(lo hi:Nat)(sl:Sl)(L:List (ca×gN)):Prop:=∃(w0:Wd) (S:Nat->Prop),xh w0.heap lo sl L/\w0.heap.size=hi/\Ext S w0 w/\∀i,lo<=i->i < hi->¬ S i
theorem X0.nd(h:X0 w lo hi sl L):xh w.heap lo sl L:=by
 obtain⟨w0,S,o,rfl,x,hS⟩:=h;exact o.ext x hS
theorem X0.ext{S:Nat->Prop}(h:X0 w lo hi sl L)(x:Ext S w w')(hS:∀i,lo<=i->i < hi->¬ S i):X0 w' lo hi sl L:=by
 obtain⟨w0,S0,o,e,x0,h0⟩:=h;exact⟨w0,fun i=>S0 i∨S i,o,e,(x0.mono fun _ _ h=> .inl h).trans x fun _ _ h=> .inr h,fun i h1 h2 h=>h.elim (h0 i h1 h2) (hS i h1 h2)⟩
theorem X0.le(h:X0 w lo hi sl L):hi<=w.heap.size:=by
 obtain⟨w0,S0,o,rfl,x0,h0⟩:=h;exact x0.size
abbrev RY(s:SA)(k:KP)(p:Sl):List Value:=[s.src,.int .u32 k.l.t,.int .u32 k.l.pg,.int .u64 k.l.cm,.int .u16 k.l.gn,.int .u8 0,p.v]
structure iZ(w:Wd)(s:SA)(k:KP)(cb:Nat)(at_:Int)(lo hi:Nat)(p sl:Sl)(L:List (ca×gN)):Prop where
 g:w.heap[cb]? = some (.cells (RY s k p).toArray 379 (0,0))
 o:aP w.heap hi 450 4 p [Value.int .u8 1,.int .u8 0,sl.v,.int .i64 at_]
 d:X0 w lo hi sl L
 lh:lo<=hi
 cl:cb < lo
theorem iZ.ext{S:Nat->Prop}(C:iZ w s k cb at_ lo hi p sl L)(x:Ext S w w')(h1:¬ S cb)(h2:∀i,(lo<=i/\i < hi)∨p.aw=some i->¬ S i):iZ w' s k cb at_ lo hi p sl L:=
 ⟨ar C.g x h1,C.o.ext x fun i hi=>h2 i (.inr hi),C.d.ext x fun i h3 h4=>h2 i (.inl ⟨h3,h4⟩),C.lh,C.cl⟩
theorem iZ.pb(C:iZ w s k cb at_ lo hi p sl L){q:Nat}(h:(lo<=q/\q < hi)∨p.aw=some q):lo<=q/\q < w.heap.size:=by
 have:=C.lh;have:=C.d.le;rcases h with h | h
 .omega
 .have:=C.o.lt h;omega
theorem iZ.no(C:iZ w s k cb at_ lo hi p sl L)(x:Ext No w w'):iZ w' s k cb at_ lo hi p sl L:=C.ext x (fun h=>h) fun _ _ h=>h
set_option maxHeartbeats 1000000 in
theorem abN{l:List gN}{cs:List Value}{K:Int->Int->Sl->Int->Pw}(y:Sy w T s)(G:vX s k)(hl:lT k l)(gc:w.heap[cb]? = some (.cells (s.src::Value.int .u32 k.l.t::cs).toArray 379 (0,0)))(kk:∀sl L w',xh w'.heap w.heap.size sl L->fi L=l->Ext No w w'->K 1 0 sl 0 w'):jK (some ⟨cb,0,none⟩) k.l.pg k.l.cm k.l.gn 0 w K:=by
 apply yh;refine fun b w1 n1 b1 w2 n2=>?_
 have x2:=n1.ext.no n2.ext;have z1:=n1.size;have z2:=n2.size;have a2:=n2.at_;have g0:=ah n1.get n2.ext;have hc:=ah gc x2;refine⟨fun kd u=>1=kd/\w2=u,⟨0,Cell.af g0 rfl,If.beq (fun _=>⟨rfl,rfl⟩) fun h=>absurd rfl h⟩,?_⟩;rintro _ _ _ ⟨rfl,rfl⟩;have xd:Ext No w2 (ae w2):=(Ext.refl _ _).drew;refine⟨Ext No w2,xd,Nn.mk ⟨s.src,aj.cell (Cell.af hc rfl),Nn.mk ⟨k.l.t,aj.cell (Cell.af hc rfl),0,aj.cell (Cell.af g0 rfl),_,aj.cell (Cell.af g0 rfl),_,aj.cell (Cell.af g0 rfl),_,aj.cell (Cell.af g0 rfl),qh ?_⟩⟩⟩;have MA:=G (ae w2) T ?_ (y.no (x2.no xd)) ?_;rw[hl.kd,hl.lv]at MA
 .exact MA
 intro Vh w4 o4 x4;have mq:Ext No w2 w4:=x4.an;rw[hl.pay]at o4;have h8:=hl.b8;rw[hl.pay]at h8;refine⟨mq,If.bne (fun h=>absurd rfl h) fun _=>HZ o4.rd hl.right hl.short h8 hl.ok fun UA L w5 d5 hL x5=>?_⟩;refine fx rfl rfl (a_ rfl) fun w6 g6 z6 x6=>If.bne (fun h=>absurd rfl h) fun _=>?_
 have TU:=(mq.no x5).no x6;have k0:=ah g0 TU;have k1:=ah n2.get TU;have hlen:UA.len=L.length:=d5.nd.len;have du:L.length≠0:=fun e=>hl.ne (by rw[<- hL,List.length_eq_zero_iff.1 e];rfl)
 refine⟨_,Cell.af g6 rfl,If.bne (fun h=>absurd rfl h) fun _=>⟨_,Cell.af g6 rfl,_,Cell.af k0 rfl,If.bne (fun h=>absurd rfl h) fun _=>⟨UA,Cell.af g6 rfl,If.beq (fun h=>by omega) fun _=>⟨_,Cell.af g6 rfl,_,Cell.af g6 rfl,UA,Cell.af g6 rfl,rfl,bO.mk k1 (Nat.le_refl 3) (a_ rfl) fun w7 h7=>?_⟩⟩⟩⟩;have g7:=h7.get k1;have z24:=mq.size;have z5:=x5.size;have Kq:Ext (·=b1) w5 w7:=x6.az.trans h7.ext fun i _ h=>h
 exact⟨_,Cell.af g7 rfl,_,Cell.af g7 rfl,UA,Cell.af g7 rfl,kk UA L w7 ((d5.ext Kq fun i hi _ e=>by omega).mono (by omega)) hL ((x2.no TU).out h7.ext (by omega))⟩
theorem aeb{l:List gN}{cs:List Value}{ch:Value}{K:Sl->Int->Pw}(y:Sy w T s)(G:vX s k)(hl:lT k l)(gc:w.heap[cb]? = some (.cells (s.src::Value.int .u32 k.l.t::cs).toArray 379 (0,0)))
  (En:∀{sl:Sl}{L:List (ca×gN)}{w1:Wd}{K':Int->Pw},Gk w1.heap sl L->fi L=l->Ext No w w1->(∀w',Ext No w1 w'->K' 0 w')->aC pz true ch [.agg ([Value.int .u8 1,.int .u8 0,.slice sl.a sl.len sl.cap]).toArray] [.one (.int .i64)] K' bJ w1)
  (kk:∀p sl L hi w',X0 w' w.heap.size hi sl L->fi L=l->w.heap.size<=hi->aP w'.heap hi 450 4 p [Value.int .u8 1,.int .u8 0,sl.v,.int .i64 0]->Ext No w w'->K p 0 w'):jI (some ⟨cb,0,none⟩) ⟨none,0,0⟩ k.l.pg k.l.cm k.l.gn 0 ch w K:=by
 apply yi
 refine fun b w1 n1=>⟨fun _ p u=>(⟨none,0,0⟩ : Sl)=p/\w1=u,⟨0,rfl,rfl⟩,?_⟩
 rintro _ _ _ _ ⟨rfl,rfl⟩;refine⟨_,Cell.af n1.get rfl,_,Cell.af n1.get rfl,_,Cell.af n1.get rfl,_,Cell.af n1.get rfl,abN (y.no n1.ext) G hl (ah gc n1.ext) fun sl L w3 d3 hL x3=>?_⟩
 refine fx rfl rfl (a_ rfl) fun w5 g5 z5 x5=>If.bne (fun h=>absurd rfl h) fun _=>⟨_,Cell.af g5 rfl,_,Cell.af g5 rfl,sl,Cell.af g5 rfl,En (d3.no x5).nd hL ((n1.ext.no x3).no x5) fun w6 x6=>?_⟩
 have g6:=ah g5 x6;have d6:=d3.no (x5.no x6);have uy:=(x3.no x5).no x6;have z1:=n1.ext.size;have z16:=uy.size;refine⟨_,Cell.af g6 rfl,_,Cell.af g6 rfl,sl,Cell.af g6 rfl,?_⟩;refine JD @GB (by decide) (base:=w6.heap.size) (cs:=[]) (xs:=[Value.int .u8 1,.int .u8 0,sl.v,.int .i64 0]) (aP.nil _ _ _ _) (Nat.le_refl _) rfl (a_ rfl) (Nat.zero_le _) fun p w8 o8 l8 x8 _=>?_
 have wz:Ext No w6 w8:=x8.mono fun _ _ h=>nomatch h
 exact⟨0,Cell.af (ah n1.get (uy.no wz)) rfl,If.beq (fun _=>kk p sl L w6.heap.size w8 ⟨w6,No,d6.mono z1,rfl,wz,fun _ _ _ h=>h⟩ hL (by omega) o8 (n1.ext.no (uy.no wz))) fun h=>absurd rfl h⟩
theorem ZQ{l:List gN}{ch:Value}{K:Int->Pw}(y:Sy w T s)(G:vX s k)(hl:lT k l)(hn:k.l.pg≠0)(gc:w.heap[cb]? = some (.cells (RY s k p).toArray 379 (0,0)))
  (En:∀{sl:Sl}{L:List (ca×gN)}{w1:Wd}{K':Int->Pw},Gk w1.heap sl L->fi L=l->Ext No w w1->(∀w',Ext No w1 w'->K' 0 w')->aC pz true ch [.agg ([Value.int .u8 1,.int .u8 0,.slice sl.a sl.len sl.cap]).toArray] [.one (.int .i64)] K' bJ w1)
  (kk:∀p sl L hi w',iZ w' s k cb 0 w.heap.size hi p sl L->fi L=l->Ext (·=cb) w w'->K 0 w'):d_ (some ⟨cb,0,none⟩) ch w K:=by
 apply oX;refine⟨fun u=>w=u,If.no (Nn.mk ⟨s.src,Cell.af gc rfl,trivial,If.no rfl⟩),?_⟩;rintro _ _ rfl;refine Nn.mk ⟨_,Cell.af gc rfl,_,Cell.af gc rfl,_,Cell.af gc rfl,_,Cell.af gc rfl,If.cases (fun h=>?_) fun _=>Nn.mk ⟨_,Cell.af gc rfl,_,Cell.af gc rfl,_,Cell.af gc rfl,_,Cell.af gc rfl,aeb y G hl gc En fun p sl L hi w1 d hL hh o x=>If.beq (fun _=>Nn.mk (aH.mk (ah gc x) (Nat.le_of_ble_eq_true rfl) rfl fun w2 h2=>?_)) fun h=>absurd rfl h⟩⟩
 .simp only[Bool.and_eq_true,beq_iff_eq]at h;omega
 have lc:=aN gc;have x2:Ext (·=cb) w1 w2:=h2.ext;exact kk p sl L hi w2 ⟨h2.get (ah gc x),o.ext x2 fun i hi e=>by have:=(o.lt hi).1;omega,d.ext x2 fun i h1 h3 e=>by omega,hh,lc⟩ hL (x.az.trans x2 fun _ _ h=>h)
theorem RZ{sl:Sl}{K:Int->Pw}(k:∀w',Ext No w w'->K 0 w'):sB 1 0 sl w K:=by
 apply I2;exact fun b w1 n1=>k w1 n1.ext
theorem aec{pr:ca×gN}{K:Int->Bool->Pw}(nd:Gk w.heap sl [pr])(du:pr.2.key≠[])(k:∀w',Ext No w w'->K 0 false w'):iy 1 0 sl ⟨none,0,0⟩ w K:=by
 apply Af
 refine fun b w1 n1=>⟨_,Cell.af n1.get rfl,?_⟩
 have nl:sl.len=1:=nd.len;refine⟨fun q t w'=>t=0/\w1=w',⟨0,rfl,rfl⟩,?_⟩;rintro _ m0 t w2 ⟨rfl,rfl⟩;refine If.dec (fun h=>?_) fun h=>absurd (by omega) h
 refine vQ (nd.rd.no n1.ext) (by decide) h fun b1 w4 qO g4 _ _ x4=>?_
 have th:=n1.ext.no x4;have er:=(nd.no th).JM pr (List.mem_singleton.2 rfl);refine⟨pr.1.k,Cell.af g4 rfl,ot (y:=[]) er.k (Rd.nil _ _) er.k8 B8.nil ?_⟩
 have e1:zv pr.2.key []=1:=by
  match pr.2.key,du with
  | _::_,_=>rfl
 rw[e1];exact If.yes (k w4 th)
theorem aed{e:gN}{K:Int->Pw}(y:Sy w T s)(G:vX s k)(hl:lT k [e])(hn:k.l.pg≠0)(du:e.key≠[])(gc:w.heap[cb]? = some (.cells (RY s k p).toArray 379 (0,0)))
  (kk:∀p sl pr lo hi w',iZ w' s k cb 0 lo hi p sl [pr]->pr.2=e->w.heap.size<=lo->Ext (·=cb) w w'->K 0 w'):jC (some ⟨cb,0,none⟩) ⟨none,0,0⟩ w K:=by
 apply oY;refine fun b w1 n1=>ZQ (y.no n1.ext) G hl hn (ah gc n1.ext) (fun {sl L w2 K'} nd hL x2 k'=>?_) fun p sl L hi w2 C hL x=>?_
 .obtain⟨pr,rfl⟩ : ∃pr,L=[pr]:=List.length_eq_one_iff.1 (by have:=congrArg List.length hL;simpa using this)
  have LQ:pr.2=e:=by simpa[fi] using hL
  refine vo (vn fun b2 w3 n3=>⟨_,Cell.af n3.get rfl,If.dec (fun h=>absurd h (by decide)) fun _=>⟨_,Cell.af n3.get rfl,_,Cell.af n3.get rfl,_,Cell.af n3.get rfl,⟨none,0,0⟩,Cell.af (ah (ah n1.get x2) n3.ext) rfl,aec (nd.no n3.ext) (by rw[LQ];exact du) fun w4 x4=>k' w4 (n3.ext.no x4)⟩⟩)
 .obtain⟨pr,rfl⟩ : ∃pr,L=[pr]:=List.length_eq_one_iff.1 (by have:=congrArg List.length hL;simpa using this)
  exact kk p sl pr _ hi w2 C (by simpa[fi] using hL) n1.ext.size (n1.ext.az.trans x fun _ _ h=>h)
theorem aee{by_:Int}{ch:Value}{K:Sl->Int->Pw}(gc:w.heap[cb]? = some (.cells (RY s k p).toArray 379 (0,0)))(hp:p.len=1)(kk:K ⟨none,0,0⟩ 0 w):jJ (some ⟨cb,0,none⟩) by_ ch w K:=by
 apply yk;refine Nn.mk ⟨p,Cell.af gc rfl,Ar.i64 (by omega) ⟨fun _ i u=>i=(p.len:Int) - 2/\w=u,⟨0,rfl,rfl⟩,?_⟩⟩;rintro _ _ _ _ ⟨rfl,rfl⟩;exact If.dec (fun h=>absurd h (by omega)) fun _=>kk
theorem ZR{e:gN}{x:ca}{K:Sl->Sl->Int->Pw}(y:Sy w T s)(G:vX s k)(hl:lT k [e])(En:e.ch = .z)(hn:k.l.pg≠0)(gc:w.heap[cb]? = some (.cells (RY s k p).toArray 379 (0,0)))(tc:T cb=0)(er:xg w.heap x e)(tk:∀i,x.k.aw=some i->T i=0)(hk:1<=e.key.length/\e.key.length<=32)(vl:e.val.length<=65536)
  (kk:∀ks vs T' w',aL w'.heap w.heap.size ks e.key->aL w'.heap w.heap.size vs e.val->(∀i,ks.aw=some i->T' i=0)->(∀i,vs.aw=some i->T' i=0)->Sy w' T' s->bu T w T' w'->K ks vs 0 w'):gL (some ⟨cb,0,none⟩) x.k x.v x.n x.ch.p x.ch.c x.ch.g x.cd.p x.cd.c x.cd.g w K:=by
 apply ym;refine fun b w1 n1 b1 w2 n2=>?_
 have z1:=n1.size;have z2:=n2.size;have a1:=n1.at_;have a2:=n2.at_;have x2:=n1.ext.no n2.ext;have xd:Ext No w2 (ae w2):=(Ext.refl _ _).drew;have g0:w2.heap[b]? = some (.cells x.cs.toArray 218 (0,0)):=ah n1.get n2.ext;have hc:=ah gc x2;have tn:∀i,w.heap.size<=i->T i=0:=y.out
 have n0:¬ (1<=T cb/\T cb<=12):=by omega
 have nb:¬ (1<=T b/\T b<=12):=by have:=tn b (by omega);omega
 have er2:=er.no (x2.no xd);have Cy:x.k.len=e.key.length:=by have:=er.k.len;rw[List.length_map]at this;omega
 refine⟨Ext (fun i=>1<=T i/\T i<=12) w2,xd.az,Nn.mk ⟨s.src,aj.aF (Cell.af hc rfl) n0,Nn.mk ⟨_,aj.aF (Cell.af hc rfl) n0,Nn.mk ⟨_,aj.aF (Cell.af hc rfl) n0,_,aj.aF (Cell.af hc rfl) n0,_,aj.aF (Cell.af hc rfl) n0,0,aj.aF (Cell.af hc rfl) n0,x.k,aj.aF (Cell.af g0 rfl) nb,?_⟩⟩⟩⟩;refine ZP (y.no (x2.no xd)) G.gp hl En hn er2.k tk er.k8 ⟨by omega,by omega⟩ rfl vl fun vs s' T' w3 o3 t3 y3 q3 p3=>?_
 subst q3;have p23:bu T w2 T' w3:=(bu.no xd).trans p3;have h0:=p23.aw g0 (.inl (tn _ (by omega)));have h1:=p23.aw n2.get (.inl (tn _ (by omega)));refine⟨p23.x,If.bne (fun h=>absurd rfl h) fun _=>⟨x.k,Cell.af h0 rfl,pn (Rd.Qi (er.no x2).k p23 tk) (by omega) fun ks w4 o4 x4=>⟨rfl,bO.mk (ah h1 x4) (Nat.le_refl 2) (a_ rfl) fun w5 h5=>?_⟩⟩⟩;have g5:=h5.get (ah h1 x4);have z23:=p23.x.size;have z4:=x4.size;have x5:Ext (·=b1) w4 w5:=h5.ext;have t1':T' b1=0:=(p23.a b1 (by omega)).trans (tn _ (by omega));have zd:(ae w2).heap.size=w2.heap.size:=rfl;exact⟨ks,Cell.af g5 rfl,vs,Cell.af g5 rfl,kk ks vs T' w5 ((o4.ext x5 fun i hi e=>by have:=(o4.lt hi).1;omega).mono (by omega)) (((aP.no o3 x4).ext x5 fun i hi e=>by have:=(o3.lt hi).1;omega).mono (by omega)) (fun i hi=>y3.out i (o4.lt hi).1) t3 ((y3.no x4).loc x5 fun i e=> .inl (by subst e;exact t1')) ((((bu.no x2).trans p23).nx x4).out x5 (by omega))⟩
end
end Go.Proofs.YtiigcapldngijaaGreat
namespace Go.Proofs.YtiigcapldngijaaGreat
open Go.V Go.V.Dk Go.V.Rn
section
variable {w w':Wd} {T T':Nat->Nat} {s:SA} {k:KP} {cb lo hi pb:Nat} {at_:Int} {p sl:Sl} {L:List (ca×gN)} {pr:ca×gN} {rest:List Value}
theorem iZ.aef(C:iZ w s k cb at_ lo hi p sl L):p.len=1:=by have:=C.o.len;simp only[List.length_cons,List.length_nil]at this;omega
theorem iZ.aeg(C:iZ w s k cb at_ lo hi p sl [pr]):sl.len=1:=C.d.nd.nd.len
theorem X1{a b c d d':Value}(o:aP w.heap hi 450 4 p [a,b,c,d])(hp:p.aw=some pb)(hg:w.heap[pb]? = some (.cells ([a,b,c,d]++rest).toArray 450 (0,0)))(h':w'.heap[pb]? = some (.cells ([a,b,c,d']++rest).toArray 450 (0,0)))(hd:cB d'=true):aP w'.heap hi 450 4 p [a,b,c,d']:=by
 rcases o.is with⟨_,h⟩ | ⟨b0,r0,ha,hb,hc,hl,iv⟩
 .cases h
 have e:b0=pb:=by simpa[Sl.aw,ha] using hp
 subst e;rw[hc]at hg;have e2:r0=rest:=by simpa using hg
 subst e2;refine⟨o.len,.inr ⟨b0,r0,ha,hb,h',hl,iv⟩,fun v hv=>?_⟩;simp only[List.mem_cons,List.not_mem_nil,or_false]at hv;rcases hv with rfl | rfl | rfl | rfl
 .exact o.cells _ (by simp)
 .exact o.cells _ (by simp)
 .exact o.cells _ (by simp)
 .exact hd
def ZS(c:Option Addr)(pb b b2:Nat)(p:Sl)(K:Sl->Sl->Int->Pw)(w9:Wd):Prop:=
 Nn (some (Addr.mk pb 0 none)) fun a_8=>
 ∃Mn:Int,Cell w9 (a_8.add 3) (.int .i64 Mn)/\
 Ar .i64 (Mn+1) fun YA=>
 Nn (some (Addr.mk pb 0 none)) fun a_9=>
 aH w9 (a_9.add 3) (.int .i64 YA) fun eK=>
 Nn c fun agC=>
 aH eK (agC.add 6) (.slice p.a p.len p.cap) fun eM=>
 ∃rK:Sl,Cell eM (Addr.mk b2 0 none) (.slice rK.a rK.len rK.cap)/\
 ∃rL:Sl,Cell eM ((Addr.mk b2 0 none).add 1) (.slice rL.a rL.len rL.cap)/\
 List.length (α:=Value) [.slice rK.a rK.len rK.cap,.slice rL.a rL.len rL.cap]=2/\bO eM (Addr.mk b 0 none) [.slice rK.a rK.len rK.cap,.slice rL.a rL.len rL.cap] fun gO=>
 ∃zw:Sl,Cell gO (Addr.mk b 0 none) (.slice zw.a zw.len zw.cap)/\
 ∃zy:Sl,Cell gO ((Addr.mk b 0 none).add 1) (.slice zy.a zy.len zy.cap)/\
 K zw zy 0 gO
theorem Vi{b b2:Nat}{ks vs:Sl}{K:Sl->Sl->Int->Pw}(C:iZ w s k cb 0 lo hi p sl L)(hp:p.aw=some pb)(hg:w.heap[pb]? = some (.cells ([Value.int .u8 1,.int .u8 0,sl.v,.int .i64 0]++rest).toArray 450 (0,0)))(g2:w.heap[b2]? = some (.cells [ks.v,vs.v].toArray 196 (0,0)))(gb:w.heap[b]? = some (.cells [Value.slice none 0 0,.slice none 0 0].toArray 196 (0,0)))(n1:b≠cb/\b≠pb/\b2≠cb/\b2≠pb/\hi<=b)
  (kk:∀w',iZ w' s k cb 1 lo hi p sl L->Ext (fun i=>i=pb∨i=cb∨i=b) w w'->K ks vs 0 w'):ZS (some ⟨cb,0,none⟩) pb b b2 p K w:=by
 have hpb:=(C.o.lt hp).1;have cl:=C.cl;have lh:=C.lh;have hle:=C.d.le;refine Nn.mk ⟨0,Cell.af hg rfl,Ar.i64 (by decide) (Nn.mk (aH.mk hg (by simp) rfl fun w1 h1=>Nn.mk ?_))⟩;have x1:Ext (·=pb) w w1:=h1.ext;have g1:=h1.get hg;have gc1:=ar C.g x1 (show ¬ cb=pb by omega);refine aH.mk gc1 (Nat.le_of_ble_eq_true rfl) rfl fun w2 h2=>?_
 have x2:Ext (·=cb) w1 w2:=h2.ext;have k2:=ar (ar g2 x1 (by omega)) x2 (by omega);refine⟨ks,Cell.af k2 rfl,vs,Cell.af k2 rfl,rfl,bO.mk (ar (ar gb x1 (by omega)) x2 (by omega)) (Nat.le_refl 2) (a_ rfl) fun w3 h3=>?_⟩;have x3:Ext (·=b) w2 w3:=h3.ext;have g3:=h3.get (ar (ar gb x1 (by omega)) x2 (by omega));have xx:Ext (fun i=>i=pb∨i=cb∨i=b) w w3:=((x1.mono fun _ _ h=> .inl h).trans x2 fun _ _ h=> .inr (.inl h)).trans x3 fun _ _ h=> .inr (.inr h)
 refine⟨ks,Cell.af g3 rfl,vs,Cell.af g3 rfl,kk w3 ⟨ar (h2.get gc1) x3 (by omega),X1 C.o hp hg (ar (ar (by simpa using g1) x2 (by omega)) x3 (by omega)) rfl,C.d.ext xx fun i h4 h5 h=>by omega,lh,cl⟩ xx⟩
set_option maxHeartbeats 1000000 in
theorem aeh{K:Sl->Sl->Int->Pw}(y:Sy w T s)(C:iZ w s k cb 0 lo hi p sl [pr])(tz:∀i,lo<=i->T i=0)(tc:T cb=0)(G:vX s k)(hl:lT k [pr.2])(En:pr.2.ch = .z)(hn:k.l.pg≠0)(hk:1<=pr.2.key.length/\pr.2.key.length<=32)(vl:pr.2.val.length<=65536)
  (kk:∀ks vs T' w',aL w'.heap w.heap.size ks pr.2.key->aL w'.heap w.heap.size vs pr.2.val->(∀i,ks.aw=some i->T' i=0)->(∀i,vs.aw=some i->T' i=0)->iZ w' s k cb 1 lo hi p sl [pr]->Sy w' T' s->Ag T T' w.heap.size->Ext (fun i=>(1<=T i/\T i<=12)∨i=cb∨p.aw=some i) w w'->K ks vs 0 w'):ei (some ⟨cb,0,none⟩) w K:=by
 apply jN
 refine fun b w1 n1=>⟨fun u=>w1=u,If.no (Nn.mk ⟨s.src,Cell.af (ah C.g n1.ext) rfl,trivial,If.no rfl⟩),?_⟩
 rintro _ _ rfl;have z1:=n1.size;have a1:=n1.at_;have C1:=C.no n1.ext;have xd:Ext No w1 (ae w1):=(Ext.refl _ _).drew;have Cd:=C1.no xd;have pl:=C.aef;have od:=C.aeg;have ep:(p.len:Int) - 1=0:=by omega
 have lc:=aN C.g;have lh:=C.lh;have cl:=C.cl;have hle:=C.d.le;refine Nn.mk ⟨p,Cell.af C1.g rfl,fun q u=>p=q/\ae w1=u,⟨fun t u=>false=t/\ae w1=u,⟨Ext No w1,xd,If.dec (fun _=>?_) fun h=>absurd (by omega) h⟩,?_⟩,?_⟩
 .rw[ep];exact Ar.i64 (by decide) (aP.ZM C1.o (by simp) (by omega) fun pb rest hpb hp hg=>⟨0,aj.cell (Cell.af hg rfl),Ar.i64 (by decide) (aP.ZM C1.o (by simp) (by omega) fun pb rest hpb hp hg=>⟨sl,aj.cell (Cell.af hg rfl),(beq_eq_false_iff_ne.2 (by omega)).symm,rfl⟩)⟩)
 .rintro _ _ _ ⟨rfl,rfl⟩;exact If.no ⟨rfl,rfl⟩
 rintro _ _ _ ⟨rfl,rfl⟩;rw[ep];refine If.beq (fun h=>by omega) fun _=>Ar.i64 (by decide) (aP.ZM Cd.o (by simp) (by omega) fun pb rest hpb hp hg=>?_)
 have lpb:=(C.o.lt hp).2;have TZ:¬ (1<=T pb/\T pb<=12):=by have:=tz pb (by omega);omega
 have d2:=Cd.d.nd;have SD:Ext No (ae w1) (ae (ae w1)):=(Ext.refl No (ae w1)).drew;have x2:=(n1.ext.no xd).no SD;have o2:aP (ae w1).heap lo 218 9 sl pr.1.cs:=by have:=d2.own;simpa[tW] using this
 have hg1:w1.heap[pb]? = _:=hg;refine⟨Ext (fun i=>1<=T i/\T i<=12) (ae w1),SD.az,Nn.mk ⟨sl,aj.aF (Cell.af hg rfl) TZ,Nn.mk ⟨0,aj.aF (Cell.af hg rfl) TZ,aP.ZM o2 (by simp[ca.cs]) (by omega) fun bb rr Sg CZ hr=>?_⟩⟩⟩;have Vj:¬ (1<=T bb/\T bb<=12):=by have:=tz bb Sg;omega
 have er:=(d2.no SD).JM pr (List.mem_singleton.2 rfl);have tk:∀i,pr.1.k.aw=some i->T i=0:=fun i hi=>tz i (d2.kb pr (List.mem_singleton.2 rfl) i hi).1
 have tn:∀i,w.heap.size<=i->T i=0:=y.out
 have zd:(ae (ae w1)).heap.size=w1.heap.size:=rfl;refine⟨_,aj.aF (Cell.af hr rfl) Vj,_,aj.aF (Cell.af hr rfl) Vj,_,aj.aF (Cell.af hr rfl) Vj,_,aj.aF (Cell.af hr rfl) Vj,_,aj.aF (Cell.af hr rfl) Vj,_,aj.aF (Cell.af hr rfl) Vj,_,aj.aF (Cell.af hr rfl) Vj,_,aj.aF (Cell.af hr rfl) Vj,_,aj.aF (Cell.af hr rfl) Vj,?_⟩
 have fin:∀{T':Nat->Nat}{w8 w9:Wd}{b2:Nat}{ks vs:Sl},bu T (ae (ae w1)) T' w8->Sy w8 T' s->aL w8.heap w1.heap.size ks pr.2.key->aL w8.heap w1.heap.size vs pr.2.val->(∀i,ks.aw=some i->T' i=0)->(∀i,vs.aw=some i->T' i=0)->ks.aw≠some b2->vs.aw≠some b2->w1.heap.size<=b2->T' b2=0->w9.heap[b2]? = some (.cells [ks.v,vs.v].toArray 196 (0,0))->Ext (·=b2) w8 w9->ZS (some ⟨cb,0,none⟩) pb b b2 p K w9:=fun {T' w8 w9 b2 ks vs} p8 y8 ok ov t1 t2 m1 m2 zI KA g9 x9=>by
  have p1:bu T w T' w8:=(bu.no x2).trans p8;have Q:Ext (fun i=>(1<=T i/\T i<=12)∨i=b2) w1 w9:=((bu.no (xd.no SD)).trans p8).x.mono (fun _ _ h=> .inl h) |>.trans x9 fun _ _ h=> .inr h
  have C9:=C1.ext Q (by rintro(h | h) <;> omega) fun i h1 h=>by have h2:=C1.pb h1;have:=tz i h2.1;omega
  have tb:T b=0:=tn b (by omega);refine Vi C9 hp (ar hg1 Q (by rintro(h | h) <;> omega)) g9 (ar n1.get Q (by rintro(h | h) <;> omega)) ⟨by omega,by omega,by omega,by omega,by omega⟩ fun u Cu xu=>?_
  have nb:∀{q:Sl}{l:List Int},aL w8.heap w1.heap.size q l->q.aw≠some b2->aL u.heap w.heap.size q l:=fun {q l} o m=>((o.ext x9 fun i hi e=>m (by subst e;exact hi)).ext xu fun i hi h=>by have:=(o.lt hi).1;omega).mono (by omega)
  have agb:∀i,i < w.heap.size->T' i=T i:=fun i hi=>p1.a i hi
  have ab:T' b=0:=(p8.a b (by rw[zd];omega)).trans tb;refine kk ks vs T' u (nb ok m1) (nb ov m2) t1 t2 Cu ((y8.loc x9 fun i e=> .inl (by subst e;exact KA)).loc xu fun i e=>?_) p1.a (((p1.x.mono fun _ _ h=> .inl h).trans x9 fun i h e=>?_).trans xu fun i h e=>?_)
  .rcases e with rfl | rfl | rfl
   .exact .inl ((agb i lpb).trans (tz i (by omega)))
   .exact .inl ((agb i lc).trans tc)
   .exact .inl ab
  .omega
  .rcases e with rfl | rfl | rfl
   .exact .inr (.inr hp)
   .exact .inr (.inl rfl)
   .omega
 refine⟨?_,?_⟩
 .refine ZR (y.no x2) G hl En hn (Cd.no SD).g tc er tk hk vl fun ks vs T' w7 ok ov t1 t2 y7 p7=>⟨((bu.no SD).trans p7).x,fun b2 w8 n8=>⟨(((bu.no SD).trans p7).nx n8.ext).x,rfl,bO.mk n8.get (Nat.le_refl 2) (a_ rfl) fun w9 h9=>?_⟩⟩
  have a8:=n8.at_;have z7:=p7.x.size;have x9:Ext (·=b2) w8 w9:=h9.ext;exact⟨(((((bu.no SD).trans p7).nx n8.ext).out x9 (by show w1.heap.size<=b2;omega))).x,If.beq (fun _=>fin (p7.nx n8.ext) (y7.no n8.ext) (aP.no ok n8.ext) (aP.no ov n8.ext) t1 t2 (fun h=>by have:=(ok.lt h).2;omega) (fun h=>by have:=(ov.lt h).2;omega) (by omega) (y7.out _ (by omega)) (h9.get n8.get) x9) fun h=>absurd rfl h⟩
 .refine fun b2 w8 n8=>⟨(SD.no n8.ext).az,ZR (y.no (x2.no n8.ext)) G hl En hn ((Cd.no SD).no n8.ext).g tc (er.no n8.ext) tk hk vl fun ks vs T' w7 ok ov t1 t2 y7 p7=>?_⟩
  have a8:=n8.at_;have z8:=n8.size;have p8:bu T (ae (ae w1)) T' w7:=(bu.no n8.ext).trans p7;have KA:T b2=0:=tn b2 (by omega);have h7:=p7.aw n8.get (.inl KA);refine⟨((bu.no SD).trans p8).x,rfl,bO.mk h7 (Nat.le_refl 2) (a_ rfl) fun w9 h9=>?_⟩;have x9:Ext (·=b2) w7 w9:=h9.ext;exact⟨((((bu.no SD).trans p8).out x9 (by show w1.heap.size<=b2;omega))).x,If.beq (fun _=>fin p8 y7 (aP.mono ok (by omega)) (aP.mono ov (by omega)) t1 t2 (fun h=>by have:=(ok.lt h).1;omega) (fun h=>by have:=(ov.lt h).1;omega) (by omega) ((p7.a b2 (aN n8.get)).trans KA) (h9.get h7) x9) fun h=>absurd rfl h⟩
theorem aei{K:Sl->Sl->Int->Pw}(C:iZ w s k cb 1 lo hi p sl [pr])(kk:∀w',Ext No w w'->K ⟨none,0,0⟩ ⟨none,0,0⟩ 7 w'):ei (some ⟨cb,0,none⟩) w K:=by
 apply jN
 refine fun b w1 n1=>⟨fun u=>w1=u,If.no (Nn.mk ⟨s.src,Cell.af (ah C.g n1.ext) rfl,trivial,If.no rfl⟩),?_⟩
 rintro _ _ rfl;have a1:=n1.at_;have C1:=C.no n1.ext;have xd:Ext No w1 (ae w1):=(Ext.refl _ _).drew;have pl:=C.aef;have od:=C.aeg;have ep:(p.len:Int) - 1=0:=by omega
 refine Nn.mk ⟨p,Cell.af C1.g rfl,fun q u=>(⟨none,0,0⟩ : Sl)=q/\ae w1=u,⟨fun t u=>true=t/\ae w1=u,⟨Ext No w1,xd,If.dec (fun _=>?_) fun h=>absurd (by omega) h⟩,?_⟩,?_⟩
 .rw[ep];exact Ar.i64 (by decide) (aP.ZM C1.o (by simp) (by omega) fun pb rest hpb hp hg=>⟨1,aj.cell (Cell.af hg rfl),Ar.i64 (by decide) (aP.ZM C1.o (by simp) (by omega) fun pb rest hpb hp hg=>⟨sl,aj.cell (Cell.af hg rfl),(beq_iff_eq.2 (by omega)).symm,rfl⟩)⟩)
 .rintro _ _ _ ⟨rfl,rfl⟩;exact If.yes (aee (C1.no xd).g pl (If.bne (fun h=>absurd rfl h) fun _=>⟨rfl,rfl⟩))
 rintro _ _ _ ⟨rfl,rfl⟩;have gb:=ah n1.get xd;refine If.beq (fun _=>⟨rfl,bO.mk gb (Nat.le_refl 2) (a_ rfl) fun w6 h6=>?_⟩) fun h=>absurd rfl h
 have g6:=h6.get gb;exact⟨⟨none,0,0⟩,Cell.af g6 rfl,⟨none,0,0⟩,Cell.af g6 rfl,kk w6 ((n1.ext.no xd).out h6.ext (by omega))⟩
set_option maxHeartbeats 1000000 in
theorem agD{e:gN}{b0 b1 b2 b3:Nat}{yield:Value}{K:Pw}{B:Nat->Prop}{R:Pw}(y:Sy w T s)(tc:T cb=0)(G:vX s k)(hl:lT k [e])(En:e.ch = .z)(hn:k.l.pg≠0)(hk:1<=e.key.length/\e.key.length<=32)(vl:e.val.length<=65536)
  (gc:w.heap[cb]? = some (.cells (RY s k p).toArray 379 (0,0))) (g0:w.heap[b0]? = some (.cells [Value.pointer (some ⟨cb,0,none⟩)].toArray 281 (0,0))) (g1:w.heap[b1]? = some (.cells [Value.bool false].toArray 4 (0,0))) (g2:w.heap[b2]? = some (.cells [Value.slice none 0 0].toArray 22 (0,0))) (g3:w.heap[b3]? = some (.cells [Value.slice none 0 0].toArray 22 (0,0)))
  (t1:T b1=0) (t3:T b3=0) (nc:b1≠cb/\b3≠cb) (hB:∀i,B i->i < w.heap.size/\i≠cb/\i≠b1/\i≠b3)
  (hy:∀ks vs T' w1 K',aL w1.heap w.heap.size ks e.key->aL w1.heap w.heap.size vs e.val->(∀i,ks.aw=some i->T' i=0)->(∀i,vs.aw=some i->T' i=0)->Sy w1 T' s->Ag T T' w.heap.size->Ext (fun i=>(1<=T i/\T i<=12)∨i=cb) w w1->(∀w2,Ext B w1 w2->R w2->K' true w2)->aC pz true yield [.agg ([Value.slice ks.a ks.len ks.cap,.slice vs.a vs.len vs.cap]).toArray,.int .i64 0] [.one (.bool)] K' bJ w1)
  (fin:∀w2 w3,R w2->Ext No w2 w3->K w3):fI yield ⟨b0,0,none⟩ ⟨b1,0,none⟩ ⟨b2,0,none⟩ ⟨b3,0,none⟩ w K:=by
 apply nA;refine⟨some ⟨cb,0,none⟩,Cell.af g0 rfl,fun ev st u=>0=ev/\ .func (.func 282) #[.pointer (some ⟨cb,0,none⟩)] #[]=st/\∃p sl pr lo hi,iZ u s k cb 0 lo hi p sl [pr]/\pr.2=e/\w.heap.size<=lo/\Ext (·=cb) w u,⟨false,Cell.af g1 rfl,If.not (If.no ⟨_,Cell.af g0 rfl,⟨none,0,0⟩,Cell.af g2 rfl,aed y G hl hn (by intro h;rw[h]at hk;simp at hk) gc fun p sl pr lo hi w1 C he hlo x=>⟨rfl,rfl,p,sl,pr,lo,hi,C,he,hlo,x⟩⟩)⟩,?_⟩;rintro _ _ _ w4 ⟨rfl,rfl,p,sl,pr,lo,hi,C,rfl,hlo,x4⟩;have y4:=y.loc x4 fun i h=> .inl (by subst h;exact tc)
 have z4:=x4.size;have k1:=ar g1 x4 nc.1;have k3:=ar g3 x4 nc.2;have l1:=aN g1;have l3:=aN g3;have lc:=aN gc;refine⟨fun m ev u=>0=ev/\((m=1/\w4=u)∨(m=0/\R u/\iZ u s k cb 1 lo hi p sl [pr])),⟨1,rfl,.inl ⟨rfl,rfl⟩⟩,?_⟩;rintro _ m _ u ⟨rfl,⟨rfl,rfl⟩ | ⟨rfl,hR,C1⟩⟩
 .refine If.beq (fun _=>fun b w6 n6=>?_) fun h=>absurd rfl h
  have a6:=n6.at_;have z6:=n6.size;have tn:∀i,w.heap.size<=i->T i=0:=y.out
  refine jO (aeh (y4.no n6.ext) (C.no n6.ext) (fun i h=>tn i (by omega)) tc G hl En hn hk vl fun ks vs T' w7 ok ov u1 u2 C7 y7 ag x7=>⟨rfl,?_⟩);have hle:=C.d.le;have lh:=C.lh;have pb:∀q,p.aw=some q->lo<=q/\q < b:=fun q h=>by have:=C.pb (.inr h);omega
  have np:∀q,q < w.heap.size->q≠cb->T q=0->¬ ((1<=T q/\T q<=12)∨q=cb∨p.aw=some q):=fun q h1 h2 h3 h=>by
   rcases h with h | h | h
   .omega
   .exact h2 h
   .have:=pb q h;omega
  have gb:=ar n6.get x7 (by
   rintro(h | h | h)
   .have:=tn b (by omega);omega
   .omega
   .have:=pb b h;omega)
  refine bO.mk gb (Nat.le_refl 2) (a_ rfl) fun w8 h8=>If.beq (fun h=>absurd h (by decide)) fun _=>If.beq (fun _=>?_) fun h=>absurd rfl h
  have x8:Ext (·=b) w7 w8:=h8.ext;have g8:=h8.get gb;have z7:=x7.size;have m1:=ar (ar (ah k1 n6.ext) x7 (np b1 l1 nc.1 t1)) x8 (by omega);have m3:=ar (ar (ah k3 n6.ext) x7 (np b3 l3 nc.2 t3)) x8 (by omega);have VY:T' b=0:=(ag b (by omega)).trans (tn b (by omega));have own:∀{q:Sl}{l:List Int},aL w7.heap w6.heap.size q l->aL w8.heap w.heap.size q l:=fun o=>(o.ext x8 fun i hi e=>by have:=(o.lt hi).1;omega).mono (by omega)
  refine⟨false,Cell.af m1 rfl,If.no ⟨false,Cell.af m1 rfl,If.not (If.no ⟨⟨none,0,0⟩,Cell.af m3 rfl,If.dec (fun h=>absurd h (by decide)) fun _=>⟨ks,Cell.af g8 rfl,vs,Cell.af g8 rfl,?_⟩⟩)⟩⟩;refine hy ks vs T' w8 _ (own ok) (own ov) u1 u2 (y7.loc x8 fun i e=> .inl (by subst e;exact VY)) (fun i hi=>ag i (by omega)) (((x4.mono fun _ _ h=> .inr h).no n6.ext).trans x7 (fun i hi h=>?_) |>.trans x8 fun i hi h=>?_) fun w9 x9 r9=>If.not (If.yes ⟨0,by decide,rfl,.inr ⟨rfl,r9,?_⟩⟩)
  .rcases h with h | h | h
   .exact .inl h
   .exact .inr h
   .have:=pb i h;omega
  .omega
  .refine(C7.ext x8 (show ¬ cb=b by omega) fun i h e=>?_).ext x9 (fun h=>(hB _ h).2.1 rfl) fun i h1 h=>by have:=(hB _ h).1;have:=C7.pb h1;omega
   subst e;rcases h with h | h
   .omega
   .have:=pb _ h;omega
 .refine If.beq (fun _=>fun b w6 n6=>jO (aei (C1.no n6.ext) fun w7 x7=>⟨rfl,bO.mk (ah n6.get x7) (Nat.le_refl 2) (a_ rfl) fun w8 h8=>If.beq (fun _=>fin u w8 hR ((n6.ext.no x7).out h8.ext ?_)) fun h=>absurd rfl h⟩)) fun h=>absurd rfl h
  have:=n6.at_;omega
end
end Go.Proofs.YtiigcapldngijaaGreat
namespace Go.Proofs.YtiigcapldngijaaGreat
open Go.V Go.V.Dk Go.V.Rn
section
variable {w w':Wd} {T T':Nat->Nat} {s:SA} {k:KP}
structure agE(w:Wd)(T:Nat->Nat)(s:SA)(e:gN)(Ju b2 b3 b4 dk lp:Nat)(rf:Loop)(u:Wd)(T':Nat->Nat)(ks vs out:Sl):Prop where
 rk:aQ u.heap ks e.key
 rv:aQ u.heap vs e.val
 tk:∀i,ks.aw=some i->T' i=0/\Ju<=i
 tv:∀i,vs.aw=some i->T' i=0/\Ju<=i
 y:Sy u T' s
 st:bu T w T' u
 o:Rd u.heap out 2 [ks.v,vs.v]
 to:∀i,out.aw=some i->T' i=0/\Ju<=i
 z:∀i,w.heap.size<=i->i < Ju->T' i=0
 g4:u.heap[b4]? = some (.cells [out.v].toArray 58 (0,0))
 g2:u.heap[b2]? = some (.cells [Value.slice none 0 0].toArray 58 (0,0))
 g3:u.heap[b3]? = some (.cells [Value.int .i64 0].toArray 25 (0,0))
 rs:jS lp rf .ready none u
 d:lE dk u
set_option maxHeartbeats 2000000 in
theorem abO{e:gN}{K:Sl->Int->Pw}(y:Sy w T s)(G:vX s k)(hl:lT k [e])(En:e.ch = .z)(hn:k.l.pg≠0)(hk:1<=e.key.length/\e.key.length<=32)(vl:e.val.length<=65536)
  (kk:∀out ks vs T' w',Rd w'.heap out 2 [ks.v,vs.v]->aQ w'.heap ks e.key->aQ w'.heap vs e.val->(∀i,ks.aw=some i->T' i=0)->(∀i,vs.aw=some i->T' i=0)->(∀i,out.aw=some i->T' i=0)->Sy w' T' s->bu T w T' w'->K out 0 w'):iw s.src k.l.t k.l.pg k.l.cm k.l.gn 0 ⟨none,0,0⟩ ⟨none,0,0⟩ 4611686018427387904 false w K:=by
 apply AT;refine fun b w1 n1 b1 w2 n2 b2 w3 n3 b3 w4 n4=>?_
 have z1:=n1.size;have z2:=n2.size;have z3:=n3.size;have z4:=n4.size;have a1:=n1.at_;have a2:=n2.at_;have a3:=n3.at_;have a4:=n4.at_;have g0:=ah (ah (ah n1.get n2.ext) n3.ext) n4.ext;have x4:Ext No w w4:=((n1.ext.no n2.ext).no n3.ext).no n4.ext;refine⟨_,Cell.af g0 rfl,_,Cell.af g0 rfl,_,Cell.af g0 rfl,0,Cell.af g0 rfl,Cv fun c w5 n5=>⟨trivial,If.no ⟨_,Cell.af n5.get rfl,_,Cell.af n5.get rfl,_,Cell.af n5.get rfl,0,Cell.af n5.get rfl,rfl,fun cb w6 n6=>ZQ (p:=⟨none,0,0⟩) (y.no ((x4.no n5.ext).no n6.ext)) G hl hn n6.get (fun nd hL x k'=>I3 (RZ k')) fun p sl L hi w7 C7 hL7 x7=>If.bne (fun h=>absurd rfl h) fun _=>If.bne (fun h=>absurd rfl h) fun _=>fun b4 w8 n8=>?_⟩⟩⟩;have z5:=n5.size;have z6:=n6.size;have z7:=x7.size;have z8:=n8.size;have a6:=n6.at_;have a8:=n8.at_;have x47:Ext No w4 w7:=(n5.ext.no n6.ext).out x7 (by omega);have OQ:=x47.no n8.ext;have g1:=ah (ah (ah n2.get n3.ext) n4.ext) OQ;refine⟨_,Cell.af g1 rfl,If.dec (fun h=>absurd h (by decide)) fun _=>qf fun c0 w9 n9 c2 eK ke c3 eM DX c1 gO pK rf dk lp fV qo hy=>?_⟩;have z9:=n9.size;have Sq:=ke.size;have YI:=DX.size;have VS:=pK.size;have a9:=n9.at_;have a10:=ke.at_;have a11:=DX.at_;have a12:=pK.at_;obtain⟨iY,W3,hrf,hdf⟩:=qo.facts;have hlp:lp=gO.heap.size+1:=qo.l;have hdk:dk=gO.heap.size:=qo.d;have Ve:Ext No w8 gO:=((n9.ext.no ke.ext).no DX.ext).no pK.ext;have X2:=Ve.no iY;have abP:=OQ.no X2;have Hj:=x4.no abP;have tn:∀i,w.heap.size<=i->T i=0:=y.out
 have q1:=ah g1 X2;have q2:=ah (ah n3.get n4.ext) abP;have q3:=ah n4.get abP;have q4:=ah n8.get X2;have qc:=ah C7.g (n8.ext.no X2);refine nB (agD (B:=fun i=>i=lp∨i=b4) (R:=fun u=>∃T' ks vs out,agE w T s e fV.heap.size b2 b3 b4 dk lp rf u T' ks vs out) (y.no Hj) (tn cb (by omega)) G hl En hn hk vl qc (ah n9.get (((ke.ext.no DX.ext).no pK.ext).no iY)) (ah pK.get iY) (ah ke.get ((DX.ext.no pK.ext).no iY)) (ah DX.get (pK.ext.no iY)) (tn c1 (by omega)) (tn c3 (by omega)) ⟨by omega,by omega⟩ (fun i h=>by omega) (fun ks vs T' lR K' ok ov u1 u2 y14 ag iT kc=>?_) fun u w' hR x=>?_)
 .have np:∀q,w.heap.size<=q->q≠cb->¬ ((1<=T q/\T q<=12)∨q=cb):=fun q h1 h2 h=>by have:=tn q h1;omega
  have z14:=iT.size
  refine hy ks vs 0 lR K' (hrf.ext iT (np lp (by omega) (by omega))) fun b5 mU n15=>⟨rfl,bO.mk n15.get (Nat.le_refl 2) (a_ rfl) fun iB TE=>?_⟩
  have a15:=n15.at_;have z15:=n15.size;have uy:Ext No lR iB:=n15.ext.out TE.ext (by omega);have z16:=uy.size;have aej:=(hrf.ext iT (np lp (by omega) (by omega))).ext uy (fun h=>h);refine⟨aej,If.bne (fun h=>absurd rfl h) fun _=>?_⟩;have xb:Ext (·=lp) iB (bN lp rf .busy none iB):=mr;have zb:(bN lp rf .busy none iB).heap.size=iB.heap.size:=zB;have up:∀{q:Nat}{o:Obj},fV.heap[q]? = some o->w.heap.size<=q->q≠cb->q≠lp->(bN lp rf .busy none iB).heap[q]? = some o:=fun h h1 h2 h3=>ar (ah (ar h iT (np _ h1 h2)) uy) xb h3
  have g5:=ar (TE.get n15.get) xb (by omega);refine⟨⟨none,0,0⟩,Cell.af (up q4 (by omega) (by omega) (by omega)) rfl,ks,Cell.af g5 rfl,vs,Cell.af g5 rfl,?_⟩;refine JD @II (by decide) (base:=(bN lp rf .busy none iB).heap.size) (cs:=[]) (xs:=[ks.v,vs.v]) (aP.nil _ _ _ _) (Nat.le_refl _) rfl (a_ rfl) (Nat.zero_le _) fun out G1 o18 l18 Nb _=>?_
  have OO:Ext No (bN lp rf .busy none iB) G1:=Nb.mono fun _ _ h=>nomatch h
  have z18:=OO.size;have k4:=ah (up q4 (by omega) (by omega) (by omega)) OO;refine aH.mk k4 Nat.one_pos rfl fun AE XY=>?_
  have So:Ext (·=b4) G1 AE:=XY.ext;have g19:=XY.get k4;have l1:out.len=1:=l18;refine⟨out,Cell.af g19 rfl,_,Cell.af (ar (ah (up q1 (by omega) (by omega) (by omega)) OO) So (by omega)) rfl,If.dec (fun h=>absurd h (by rw[l1];decide)) fun _=>?_⟩;have aek:jS lp rf .busy none AE:=((aej.put).ext OO fun h=>h).ext So (by omega);have xr:Ext (·=lp) AE (bN lp rf .ready none AE):=mr;have xa:Ext (fun i=>i=lp∨i=b4) lR (bN lp rf .ready none AE):=((((uy.az.trans xb fun _ _ h=> .inl h).no OO).trans So fun _ _ h=> .inr h)).trans xr fun _ _ h=> .inl h
  have upr:∀{q:Nat}{o:Obj},fV.heap[q]? = some o->w.heap.size<=q->q≠cb->q≠lp->q≠b4->(bN lp rf .ready none AE).heap[q]? = some o:=fun h h1 h2 h3 h4=>ar (ar h iT (np _ h1 h2)) xa (by omega)
  have tz:∀i,w.heap.size<=i->i < fV.heap.size->T' i=0:=fun i h1 h2=>(ag i h2).trans (tn i h1)
  have oB:∀{q:Sl}{l:List Int},aL lR.heap fV.heap.size q l->aQ (bN lp rf .ready none AE).heap q l:=fun o=>o.rd.ext xa fun a i h1 h2 h=>by have:=(o.lt (show _=some i by simp[Sl.aw,h1,h2])).1;omega
  have lo:∀i,out.aw=some i->iB.heap.size<=i:=fun i hi=>by have:=(o18.lt hi).1;omega
  refine⟨aek,kc _ xa ⟨T',ks,vs,out,oB ok,oB ov,fun i hi=>⟨u1 i hi,(ok.lt hi).1⟩,fun i hi=>⟨u2 i hi,(ov.lt hi).1⟩,y14.loc xa fun i h=> .inl (tz i (by omega) (by omega)),?_,?_,fun i hi=>⟨y14.out i (by have:=lo i hi;omega),by have:=lo i hi;omega⟩,tz,ar g19 xr (by omega),upr q2 (by omega) (by omega) (by omega) (by omega),upr q3 (by omega) (by omega) (by omega) (by omega),aek.put,?_⟩⟩
  .refine⟨fun i hi=>ag i (by have:=Hj.size;omega),?_⟩;exact((Hj.az.trans iT fun i hi h=>by rcases h with h | h;exact h;omega).trans xa fun i hi h=>by omega)
  .exact(o18.rd.ext So fun a i h1 h2 h=>by have:=lo i (by simp[Sl.aw,h1,h2]);omega).ext xr fun a i h1 h2 h=>by have:=lo i (by simp[Sl.aw,h1,h2]);omega
  .exact(((hdf.ext iT (np dk (by omega) (by omega))).ext xa (by omega)))
 .obtain⟨T',ks,vs,out,R⟩:=hR
  have l13:fV.heap.size<=u.heap.size:=by
   have:=R.rs.lt;have h1:=R.st.x.size;rcases Nat.lt_or_ge u.heap.size fV.heap.size with h | h
   .omega
   .exact h
  have rf':=R.rs.ext x (fun h=>h);refine .inr (.inr ⟨rf',out,?_⟩);have xp:Ext (·=lp) w' (bN lp rf .exhausted none w'):=mr;have k4:=ar (ah R.g4 x) xp (by omega);have k2:=ar (ah R.g2 x) xp (by omega);have k3:=ar (ah R.g3 x) xp (by omega);refine⟨Cell.af k4 rfl,aH.mk k2 Nat.one_pos rfl fun iD H4=>aH.mk (ar k3 H4.ext (by show b3≠b2;omega)) Nat.one_pos rfl fun py OP=>?_⟩;have mq:Ext (·=b2) _ iD:=H4.ext;have kv:Ext (·=b3) iD py:=OP.ext;have g2':=ar (H4.get k2) kv (by omega);have g3':=OP.get (ar k3 mq (by omega));have xd:Ext (·=dk) py (cP dk py):=vU;have xa:Ext (fun i=>i=lp∨i=b2∨i=b3∨i=dk) u (cP dk py):=(((x.az.trans xp fun _ _ h=> .inl h).trans mq fun _ _ h=> .inr (.inl h)).trans kv fun _ _ h=> .inr (.inr (.inl h))).trans xd fun _ _ h=> .inr (.inr (.inr h))
  have hd:lE dk py:=(((R.d.ext x fun h=>h).ext xp (by omega)).ext mq (by omega)).ext kv (by omega);have oB:∀{q:Sl}{n:Nat}{l:List Value},Rd u.heap q n l->(∀i,q.aw=some i->T' i=0/\fV.heap.size<=i)->Rd (cP dk py).heap q n l:=fun r t=>r.ext xa fun a i h1 h2 h=>by have:=(t i (by simp[Sl.aw,h1,h2])).2;omega
  exact⟨hd,out,Cell.af (ar g2' xd (by omega)) rfl,0,Cell.af (ar g3' xd (by omega)) rfl,kk out ks vs T' _ (oB R.o R.to) (oB R.rk R.tk) (oB R.rv R.tv) (fun i hi=>(R.tk i hi).1) (fun i hi=>(R.tv i hi).1) (fun i hi=>(R.to i hi).1) (R.y.loc xa fun i h=> .inl (R.z i (by omega) (by omega))) ⟨R.st.a,R.st.x.trans xa fun i hi h=>by omega⟩⟩
end
end Go.Proofs.YtiigcapldngijaaGreat
namespace Go.Proofs.YtiigcapldngijaaGreat
open Go.V Go.V.Pk Go.V.Dk Go.V.Rn
section
variable {w w':Wd} {T T':Nat->Nat} {s:SA} {k:KP}
set_option maxHeartbeats 1000000 in
theorem Vk{e:gN}{x:jn}{h:dX}{K:Sl->Int->Pw}(y:Sy w T s)(G:vX s k)(hl:lT k [e])(En:e.ch = .z)(hn:k.l.pg≠0)(ht:k.l.t=0)(hk:e.key=be 4 x.tenant)(hv:e.val=fy x)(m:Sml x h)
  (kk:∀out v T' w',aP w'.heap w.heap.size 100 9 out v.cells->iE (fun q=>w.heap.size<=q/\T' q=0) w'.heap v x->(∀i,out.aw=some i->T' i=0)->Sy w' T' s->bu T w T' w'->K out 0 w'):sh s.src k.l.pg k.l.cm k.l.gn 0 w K:=by
 have hf:=m.form;have hll:(fy x).length<=65536:=by rw[hf];simp[m.may.2.2.2.1,m.wr]
 have h8:B8 (fy x):=vV m.Kz;have rt:=m.Kz.tenant;have k8:B8 (be 4 x.tenant):=cv 4 _;have kl:(be 4 x.tenant).length=4:=aK 4 _;apply Fe
 refine fun b w1 n1=>⟨_,Cell.af n1.get rfl,_,Cell.af n1.get rfl,_,Cell.af n1.get rfl,0,Cell.af n1.get rfl,?_⟩
 have z1:=n1.size;have H:∀K',iw s.src k.l.t k.l.pg k.l.cm k.l.gn 0 ⟨none,0,0⟩ ⟨none,0,0⟩ 4611686018427387904 false w1 K'->iw s.src 0 k.l.pg k.l.cm k.l.gn 0 ⟨none,0,0⟩ ⟨none,0,0⟩ 4611686018427387904 false w1 K':=fun K' h=>by rw[ht]at h;exact h
 refine H _ (abO (y.no n1.ext) G hl En hn (by rw[hk,kl];decide) (by rw[hv];exact hll) fun l ks vs T' w2 rl rk rv tk tv tl y2 p2=>If.bne (fun h=>absurd rfl h) fun _=>?_);rw[hk]at rk;rw[hv]at rv;have ll:l.len=1:=by have:=rl.len;simp only[List.length_cons,List.length_nil]at this;omega
 have Gz:=(bu.no n1.ext).trans p2;have z2:=Gz.x.size;refine⟨fun q out t u=>(q=1/\(⟨none,0,0⟩ : Sl)=out/\t=0/\w2=u)∨(q=0/\t=1/\∃v,aP u.heap w2.heap.size 100 9 out v.cells/\iE (fun q=>w2.heap.size<=q) u.heap v x/\Ext No w2 u),⟨1,.inl ⟨rfl,rfl,rfl,rfl⟩⟩,?_⟩;rintro _ q out t u (⟨rfl,rfl,rfl,rfl⟩ | ⟨rfl,rfl,v,o,sr,xu⟩)
 .refine If.dec (fun _=>?_) fun h=>absurd (by omega) h
  refine Ix.elem (l:=[(ks,vs)]) (f:=fun e=>[e.1.v,e.2.v]) (by simpa using rl) (fun _ _=>rfl) (by decide) (by decide) (by omega) fun bb o hi hb hc=>?_
  refine⟨ks,hc 0 _ rfl,vs,(by rw[ay rfl];exact hc 1 _ rfl),fx rfl rfl (a_ rfl) fun w5 g5 z5 x5=>⟨ks,Cell.af g5 rfl,mW (rk.no x5) k8 (by rw[kl];decide) (by rw[kl];decide) ?_⟩⟩;have e1:num (be 4 x.tenant)=x.tenant:=jQ 4 (by omega) (by show x.tenant < 256 ^ 4;omega);rw[e1];refine⟨fun u=>w5=u,If.bne (fun h=>absurd rfl h) fun _=>⟨ks,Cell.af g5 rfl,If.bne (fun h=>absurd (by rw[aQ.len rk,kl];rfl) h) fun _=>rfl⟩,?_⟩;rintro _ _ rfl;refine Ar.u32 rt ⟨vs,Cell.af g5 rfl,OV m (rv.no x5) h8 fun v w6 sr x6=>fx rfl rfl v.one fun w7 g7 z7 x7=>If.bne (fun h=>absurd rfl h) fun _=>?_⟩;refine⟨_,Cell.af g7 rfl,_,Cell.af g7 rfl,_,Cell.af g7 rfl,_,Cell.af g7 rfl,_,Cell.af g7 rfl,_,Cell.af g7 rfl,_,Cell.af g7 rfl,_,Cell.af g7 rfl,_,Cell.af g7 rfl,?_⟩;have J7:=(x5.no x6).no x7;have z5':=x5.size;have z27:=J7.size;refine JD @IK (by decide) (base:=w7.heap.size) (cs:=[]) (xs:=v.cells) (aP.nil _ _ _ _) (Nat.le_refl _) rfl v.one (Nat.zero_le _) fun out w8 o8 _ x8 _=>Ar.i64 (by decide) ⟨0,by decide,.inr ⟨rfl,rfl,v,o8.mono (by omega),?_,?_⟩⟩
  .exact((sr.no x7).no (x8.mono fun _ _ h=>nomatch h)).mono fun q hq=>by omega
  .exact J7.no (x8.mono fun _ _ h=>nomatch h)
 .refine If.dec (fun h=>absurd h (by omega)) fun _=>kk out v T' u (o.mono z2) (sr.mono fun q hq=>⟨by omega,y2.out q hq⟩) (fun i hi=>y2.out i (o.lt hi).1) (y2.no xu) (Gz.nx xu)
end
end Go.Proofs.YtiigcapldngijaaGreat
