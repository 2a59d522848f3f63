/- Texts for LRollSame,LRollBytes,LRollReads,LRollNone, part 16. -/
import Derived.RangeFuncRecord
import Derived.RangeFuncLeaves
import Derived.Test.YtpjbalhhlaofmaaGreatQv15
namespace Go.V
def dX(l:Nat)(rf:Loop)(st:LoopState)(p:Option Code)(w:Wd):Prop:=w.heap[l]? = some (.loop { rf with state:=st,pending:=p })
def bz(l:Nat)(rf:Loop)(st:LoopState)(p:Option Code)(w:Wd):Wd:=w.putObj l (.loop { rf with state:=st,pending:=p })
structure DR(w:Wd)(rf:Loop)(Dk l:Nat)(w1:Wd):Prop where
 d:Dk=w.heap.size
 l:l=w.heap.size+1
 is:w1=(World.cw (World.cw w (.deferred (some []))) (.loop { rf with state:= .ready,pending:=none }))
def fS(Dk:Nat)(w:Wd):Prop:=w.heap[Dk]? = some (.deferred (some []))
def bQ(Dk:Nat)(w:Wd):Wd:=w.putObj Dk (.deferred none)
def DS:Option Nat->Code
 | none=> .ret
 | some i=> .exit i
def aag:Option Nat->Exit
 | none=> .ret
 | some i=> .exit i
def eqJ:Option Nat->Option Nat->Bool
 | none,none=>true
 | some i,some j=>Nat.beq i j
 | _,_=>false
def Wf:List (Option Nat)->Option Nat->Bool
 | [],_=>false
 | j::r,i=>bif eqJ j i then true else Wf r i
def KY(l:Nat)(rf:Loop)(js:List (Option Nat))(K':Bool->Pw)(j:Option Nat)(w:Wd):Prop:=
 bif Wf js j then dX l rf .busy none w/\K' false (bz l rf .done (some (DS j)) w) else False
def Wg(l:Nat)(rf:Loop)(js:List (Option Nat))(K':Bool->Pw):Exit->Env->Pw
 | .normal,_,w=>dX l rf .busy none w/\K' true (bz l rf .ready none w)
 | .ret,_,w=>KY l rf js K' none w
 | .exit i,_,w=>KY l rf js K' (some i) w
 | _,_,_=>False
def noE:Exit->Env->Pw:=fun _ _ _=>False
def Qh(l:Nat)(rf:Loop)(Q:Exit->Env->Pw)(ρ:Env)(w3:Wd):List (Option Nat)->Prop
 | []=>dX l rf .ready none w3/\Q .normal ρ (bz l rf .exhausted none w3)
 | j::r=>(dX l rf .done (some (DS j)) w3/\Q (aag j) ρ (bz l rf .exhausted (some (DS j)) w3))∨Qh l rf Q ρ w3 r
def S7:List xG->(List Value->Prop)->Prop
 | [],F=>F []
 | .one s::r,F=>∀x:s.T,S7 r fun vs=>F (s.mk x::vs)
 | .row k n::r,F=>∀l:List Int,l.length=n->S7 r fun vs=>F (l.map (Value.int k)++vs)
def Ut:Ty->(Value->Prop)->Prop
 | .one s,F=>∀x:s.T,F (s.mk x)
 | .agg l,F=>S7 l fun vs=>F (.agg vs.toArray)
 | .bad,F=>∀v,F v
theorem FE:∀(l:List xG){F:List Value->Prop},(∀vs,F vs)->S7 l F
 | [],_,h=>h []
 | .one _::r,_,h=>fun _=>FE r fun _=>h _
 | .row _ _::r,_,h=>fun _ _=>FE r fun _=>h _
theorem Qi:∀(y:Ty){F:Value->Prop},(∀v,F v)->Ut y F
 | .one _,_,h=>fun _=>h _
 | .agg l,_,h=>FE l fun _=>h _
 | .bad,_,h=>h
def Wh:List (Nat×Ty)->Env->(List Value->Env->Prop)->Prop
 | [],ρ,F=>F [] ρ
 | (t,y)::r,ρ,F=>Ut y fun v=>Wh r (put ρ t v) (fun vs ρ'=>F (v::vs) ρ')
structure RfA where
 Uu:List (Nat×Ty)
 js:List (Option Nat)
 S8:wj
 S9:wj
def rfW(P:Program)(pk:Nat)(A:RfA)(g:Operand)(ars bd:Code)(Q:Nat->Exit->Env->Pw)(ρ:Env)(w:Wd):Prop:=
 ∀(rf:Loop)(Dk l:Nat)(w1:Wd),DR w rf Dk l w1->
  (Wh A.Uu ρ fun args ρ'=>∀(W:Wd)(K':Bool->Pw),dX l rf .ready none W->tw P pk (fun _ _=>False) A.S8 ars (sW (fun ρ2 W2=>dX l rf .ready none W2/\tw P pk (fun _ _=>False) A.S9 bd (Wg l rf A.js K') ρ2 (bz l rf .busy none W2)) noE) ρ' W->
   aD P true (.func (.yield l) #[] #[]) args [.one .bool] K' (fun _ _=>False) W)->
  aD P false (ev ρ g) [.func (.yield l) #[] #[]] [] (fun w3=>Qh l rf (Q Dk) ρ w3 A.js) (fun _ _=>False) w1
inductive Sp where
 | next (a:wj) (s:Sp)
 | here (r:wj) (A:RfA) (p:wj)
def Qj(P:Program)(pk:Nat):Sp->Code->(Exit->Env->Pw)->(Nat->Exit->Env->Pw)->Env->Pw
 | .next a s,.seq c1 c2,Q,QM,ρ,w=>tw P pk (fun _ _=>False) a c1 (sW (fun ρ w=>Qj P pk s c2 Q QM ρ w) Q) ρ w
 | .here r A p,.seq (.seq rc (.block id (.rangeFunc g _ ars bd))) rest,Q,QM,ρ,w=>
  tw P pk (fun _ _=>False) r rc (sW (fun ρ w=>rfW P pk A g ars bd (fun Dk=>Ao id (sW (fun ρ w=>tw P pk (fun _ _=>False) p rest (QM Dk) ρ w) (QM Dk))) ρ w) Q) ρ w
 | _,_,_,_,_,_=>False
def MF:List Nat->List (Nat×Ty)->Bool
 | [],[]=>true
 | t::r,p::q=>Nat.beq t p.1 && MF r q
 | _,_=>false
def Wi(P:Program)(n:Nat)(A:RfA)(ps:Array Tmp)(ars bd:Code):Bool:=MF ps.toList A.Uu && uU P n A.S8 ars && uU P n A.S9 bd && ca A.S8 ars && cH ars && ca A.S9 bd && cH bd && ps.toList.all fun t=>Nat.blt t n
def JP(P:Program)(n:Nat):Sp->Code->Bool
 | .next a s,.seq c1 c2=>uU P n a c1 && JP P n s c2
 | .here r A p,.seq (.seq rc (.block _ (.rangeFunc _ ps ars bd))) rest=>uU P n r rc && Wi P n A ps ars bd && uU P n p rest
 | _,_=>false
section sound
variable {P:Program} {n pk:Nat}
abbrev oY(Dk:Nat):Deferred:={ target:= .collected Dk,args:=#[] }
def SpE(n:Nat)(Q:Exit->Env->Pw)(QM:Nat->Exit->Env->Pw):Exit->Act->Pw
 | .panic _,_,_=>False
 | .outgrown,_,_=>False
 | e,a,w=>(∃ρ,k_ [] n a ρ/\Q e ρ w)∨∃Dk ρ,k_ [oY Dk] n a ρ/\QM Dk e ρ w
theorem iK.out{D:List Deferred}{Q:Exit->Env->Pw}{M:Nat->Bool}{ρ0:Env}{e:Exit}{a:Act}{w:Wd}(h:iK D n Q (fun _ _=>False) M ρ0 e a w):(∃ρ,k_ D n a ρ/\Q e ρ w)/\(∀c,e ≠ .panic c)/\e ≠ .outgrown:=by
 cases e with
 | panic c=>exact h.1.elim
 | outgrown=>exact h.elim
 | _=>obtain⟨ρ',h1,h2,_⟩:=h;exact⟨⟨ρ',h1,h2⟩,(fun c h=>by cases h),(fun h=>by cases h)⟩
theorem SpE.mk{Q:Exit->Env->Pw}{QM:Nat->Exit->Env->Pw}{e:Exit}{a:Act}{w:Wd}(h:(∃ρ,k_ [] n a ρ/\Q e ρ w)∨∃Dk ρ,k_ [oY Dk] n a ρ/\QM Dk e ρ w)(h1:∀c,e ≠ .panic c)(h2:e ≠ .outgrown):SpE n Q QM e a w:=by
 cases e with
 | panic c=>exact(h1 c rfl).elim
 | outgrown=>exact(h2 rfl).elim
 | _=>exact h
theorem KZ:∀{l:List Nat}{p:List (Nat×Ty)},MF l p=true->l=p.map Prod.fst
 | [],[],_=>rfl
 | t::r,p::q,h=>by
  simp only[MF,Bool.and_eq_true]at h;rw[List.map_cons,<- Nat.eq_of_beq_eq_true h.1,KZ h.2]
 | [],_::_,h=>by simp[MF]at h
 | _::_,[],h=>by simp[MF]at h
theorem K0{D:List Deferred}{F:List Value->Env->Prop}:∀(Uu:List (Nat×Ty))(ρ:Env)(a:Act),(∀p∈Uu,p.1 < n)->k_ D n a ρ->(∀args ρ',args.length=Uu.length->k_ D n { a with tmps:=((Uu.map Prod.fst).zip args).foldl (fun(t:Array Value) (p:Nat×Value)=>t.setIfInBounds p.1 p.2) a.tmps } ρ'->F args ρ')->Wh Uu ρ F
 | [],ρ,a,_,hr,h=>h [] ρ rfl hr
 | (t,y)::r,ρ,a,hp,hr,h=>Qi y fun v=>by
  refine K0 r _ { a with tmps:=a.tmps.setIfInBounds t v } (fun p hq=>hp p (List.mem_cons_of_mem _ hq)) ?_ fun args ρ' hl dM=>h _ ρ' (by simp[hl]) dM
  exact hr.put (hp _ List.mem_cons_self) _
theorem MG(ps:Array Nat)(args:List Value)(t0:Array Value):(ps.zip args.toArray).foldl (fun t (p,v)=>t.setIfInBounds p v) t0=(ps.toList.zip args).foldl (fun(t:Array Value) (p:Nat×Value)=>t.setIfInBounds p.1 p.2) t0:=by
 rw[<- Array.foldl_toList,Array.toList_zip]
theorem wide_round(l:Nat):Fence.wide.inRound l=ou (some l):=rfl
theorem MH{A:RfA}{g:Operand}{ps:Array Tmp}{ars bd:Code}{Q:Nat->Exit->Env->Pw}{ρ:Env}{w:Wd}{a:Act}(Ca:Wi P n A ps ars bd=true)(hr:k_ [] n a ρ)(h:rfW P pk A g ars bd Q ρ w) :
    (Code.rangeFunc g ps ars bd).wpIn Fence.wide 0 P (fun e a' w'=>∃Dk,(∃ρ',k_ [oY Dk] n a' ρ'/\Q Dk e ρ' w')/\(∀c,e ≠ .panic c)/\e ≠ .outgrown) a w:=by
  simp only[Wi,Bool.and_eq_true,List.all_eq_true]at Ca;obtain⟨⟨⟨⟨⟨⟨⟨o1,o2⟩,o3⟩,o4⟩,o5⟩,o6⟩,o7⟩,o8⟩:=Ca;have ep:=KZ o1;refine wpIn_rangeFunc fun fn _=>?_
  let rf:Loop:={ state:= .ready,pending:=none,fn:=fn,tmps:=a.tmps,params:=ps,assign:=ars,body:=bd,defers:=w.heap.size }
  let w1:=(w.alloc (.deferred (some []))).alloc (.loop rf)
  have hd:=h rf w.heap.size (w.heap.size+1) w1 ⟨rfl,rfl,rfl⟩ ?_
  rotate_left
  · refine K0 A.Uu ρ { a with defers:=[] } (fun p hp=>?_) (by have:=hr;exact⟨rfl,this.size,this.get⟩) fun args ρ' hl dM=>?_
    · have:=o8 p.1 (by rw[ep];exact List.mem_map.2 ⟨p,hp,rfl⟩);simpa using this
    intro W K' qX hw
    have gZ:args.toArray.size=ps.size:=by
      have:=congrArg List.length ep;simp only[List.length_map,Array.length_toList]at this;rw[List.size_toArray,hl,this]
    have ac5:W.heap[w.heap.size+1]? = some (.loop rf):=qX;have hy:=run_yield (P:=P) (args:=args.toArray) ac5 gZ;unfold aD Gx
    have e1:(Gy (.func (.yield (w.heap.size+1)) #[] #[]) args).run P W = .ok (.round (w.heap.size+1) fn ((ps.zip args.toArray).foldl (fun tmps (t,a)=>tmps.setIfInBounds t a) a.tmps) ars bd) W:=by
      simp only[Gy,Deferred.ofValue,pure_bind];simp[invoke,hy,rf]
    rw[e1];refine⟨rfl,roundIn_of_wpIn (F:=Fence.wide) trivial ?_⟩;rw[MG,ep,wide_round];have hA:=mi (ro:=some (w.heap.size+1)) (n:=n) (D:=[]) A.S8 ars _ _ W _ (.inr ⟨o4,o5⟩) o2 hw dM;refine wpIn_mono hA fun e1 a1 W1 hp=>?_
    obtain⟨⟨ρ1,r1,q1⟩,q2,q3⟩:=hp.out
    cases e1 with
    | panic c=>exact(q2 c rfl).elim
    | outgrown=>exact(q3 rfl).elim
    | exit i=>exact q1.elim
    | goto i=>exact q1.elim
    | ret=>exact q1.elim
    | normal=>
    obtain⟨st1,hb⟩:=q1;have ac6:W1.heap[w.heap.size+1]? = some (.loop rf):=st1;refine⟨_,run_beginRound ac6 rfl,?_⟩;have hB:=mi (ro:=some (w.heap.size+1)) (n:=n) (D:=[]) A.S9 bd _ _ _ _ (.inr ⟨o6,o7⟩) o3 hb r1;refine wpIn_mono hB fun e2 a2 W2 oR=>?_
    obtain⟨⟨ρ2,r2,s1⟩,s2,s3⟩:=oR.out
    have fin:∀{j:Option Nat},KY (w.heap.size+1) rf A.js K' j W2->∃v w',(Instr.endRound (w.heap.size+1) (some (DS j))).run P W2 = .ok v w'/\Gw [.one .bool] K' (fun _ _=>False) (.returned v) w':=fun {j} hj=>by
      unfold KY at hj
      cases hh:Wf A.js j with
      | false=>rw[hh]at hj;exact hj.elim
      | true=>
        rw[hh]at hj;have st:W2.heap[w.heap.size+1]? = some (.loop { rf with state:= .busy,pending:=none }):=hj.1;refine⟨_,_,run_endRound (some (DS j)) st,.inl ⟨false,rfl,hj.2⟩⟩
    cases e2 with
    | panic c=>exact(s2 c rfl).elim
    | outgrown=>exact(s3 rfl).elim
    | normal=>
      have st:W2.heap[w.heap.size+1]? = some (.loop { rf with state:= .busy,pending:=none }):=s1.1;exact⟨_,_,run_endRound none st,.inl ⟨true,rfl,s1.2⟩⟩
    | ret=>exact fin (j:=none) s1
    | exit i=>exact fin (j:=some i) s1
    | goto i=>exact s1.elim
  have Wj:k_ [oY w.heap.size] n { a with defers:=[oY w.heap.size]++a.defers } ρ:=⟨by simp[hr.defers],hr.size,hr.get⟩
  have Vd:∀{js:List (Option Nat)}{w3:Wd},Qh (w.heap.size+1) rf (Q w.heap.size) ρ w3 js ->
      ∃jump w4,(Instr.endLoop (w.heap.size+1)).run P w3 = .ok jump w4/\(match jump with
       | none=>∃Dk,(∃ρ',k_ [oY Dk] n { a with defers:=[oY w.heap.size]++a.defers } ρ'/\Q Dk .normal ρ' w4)/\(∀c,Exit.normal ≠ .panic c)/\Exit.normal ≠ .outgrown
       | some c=>c.wpIn Fence.wide 0 P (fun e a' w'=>∃Dk,(∃ρ',k_ [oY Dk] n a' ρ'/\Q Dk e ρ' w')/\(∀c,e ≠ .panic c)/\e ≠ .outgrown) { a with defers:=[oY w.heap.size]++a.defers } w4):=by
    intro js
    induction js with
    | nil=>
      intro w3 h3;have st:w3.heap[w.heap.size+1]? = some (.loop { rf with state:= .ready,pending:=none }):=h3.1;exact⟨_,_,run_endLoop st (by simp),_,⟨ρ,Wj,h3.2⟩,(fun c h=>by cases h),(fun h=>by cases h)⟩
    | cons j r ih=>
      intro w3 h3;rcases h3 with h3 | h3
      · have st:w3.heap[w.heap.size+1]? = some (.loop { rf with state:= .done,pending:=some (DS j) }):=h3.1;refine⟨_,_,run_endLoop st (by simp),?_⟩
        cases j with
        | none=>exact wpIn_ret ⟨_,⟨ρ,Wj,h3.2⟩,(fun c h=>by cases h),(fun h=>by cases h)⟩
        | some i=>exact wpIn_exit ⟨_,⟨ρ,Wj,h3.2⟩,(fun c h=>by cases h),(fun h=>by cases h)⟩
      · exact ih h3
  unfold aD Gx Gy at hd
  cases hg:ev ρ g with
  | func fv first cap=>
    rw[hg]at hd;simp only[Deferred.ofValue,pure_bind]at hd;split at hd
    · rename_i f ars w2 he;refine⟨w.heap.size+1,[oY w.heap.size],w1,{ target:= .fn fv cap,args:=first++#[.func (.yield (w.heap.size+1)) #[] #[]] },w1,f,ars,w2,run_enterLoop_outer _ _ _ _ _,?_,fun _ _=>trivial,he,(fun h=>by cases h),callsIn_wide.2 ?_⟩
      · have:a.eval g = .func fv first cap:=by rw[hr.eval];exact hg
        simp[resolve,this,Deferred.ofValue];rfl
      · refine Calls.mono hd fun e w3 h3=>?_
        rcases h3 with⟨he3,h3⟩ | ⟨c,_,h3⟩
        · subst he3;exact Vd h3
        · exact h3.elim
    · exact absurd hd.1 (by decide)
    · exact hd.elim
  | nilFunc=>
    rw[hg]at hd;simp[Deferred.ofValue,invoke,runtimePanic,program,Sem.run]at hd
  | _=>
    rw[hg]at hd;simp[Deferred.ofValue,stuck]at hd
theorem Qk:∀(s:Sp)(c:Code)(Q:Exit->Env->Pw)(QM:Nat->Exit->Env->Pw)(ρ:Env)(w:Wd)(a:Act),JP P n s c=true->Qj P pk s c Q QM ρ w->k_ [] n a ρ->c.wpIn Fence.wide 0 P (SpE n Q QM) a w:=by
 intro s
 induction s with
 | next Aq s ih=>
  intro c Q QM ρ w a Ca h hr
  cases c <;> simp only[Qj]at h
  rename_i c1 c2;simp only[JP,Bool.and_eq_true]at Ca;refine wpIn_seq (wpIn_mono (mi (ro:=none) (n:=n) (D:=[]) Aq c1 _ ρ w a (.inl rfl) Ca.1 h hr) fun e a' w' hp=>?_);obtain⟨⟨ρ',r',q'⟩,q2,q3⟩:=hp.out
  cases e with
  | normal=>exact ih c2 Q QM ρ' w' a' Ca.2 q' r'
  | panic c=>exact(q2 c rfl).elim
  | outgrown=>exact(q3 rfl).elim
  | exit i=>exact .inl ⟨ρ',r',q'⟩
  | goto i=>exact .inl ⟨ρ',r',q'⟩
  | ret=>exact .inl ⟨ρ',r',q'⟩
 | here rA A p=>
  intro c Q QM ρ w a Ca h hr
  have none_:∀{c:Code},(∀rc id g ps ars bd rest,c ≠ .seq (.seq rc (.block id (.rangeFunc g ps ars bd))) rest)->JP P n (.here rA A p) c=true->False:=fun {c} bA hk=>by
   unfold JP at hk;split at hk
   .cases ‹Sp.here _ _ _=Sp.next _ _›
   .exact bA _ _ _ _ _ _ _ rfl
   .cases hk
  have dec:(∃rc id g ps ars bd rest,c = .seq (.seq rc (.block id (.rangeFunc g ps ars bd))) rest):=Classical.byContradiction fun hc=>none_ (fun rc id g ps ars bd rest e=>hc ⟨rc,id,g,ps,ars,bd,rest,e⟩) Ca
  obtain⟨rc,id,g,ps,ars,bd,rest,rfl⟩:=dec;simp only[Qj]at h;simp only[JP,Bool.and_eq_true]at Ca
  refine wpIn_seq (wpIn_mono (wpIn_seq (Q:=fun e a' w'=>match e with
   | .normal=>∃Dk ρ',k_ [oY Dk] n a' ρ'/\tw P pk (fun _ _=>False) p rest (QM Dk) ρ' w'
   | e=>SpE n Q QM e a' w') (wpIn_mono (mi (ro:=none) (n:=n) (D:=[]) _ rc _ ρ w a (.inl rfl) Ca.1.1 h hr) fun e a' w' hp=>?_)) fun e a' w' hp=>?_)
  .obtain⟨⟨ρ1,r1,q1⟩,q2,q3⟩:=hp.out
   cases e with
   | panic c=>exact(q2 c rfl).elim
   | outgrown=>exact(q3 rfl).elim
   | exit i=>exact .inl ⟨ρ1,r1,q1⟩
   | goto i=>exact .inl ⟨ρ1,r1,q1⟩
   | ret=>exact .inl ⟨ρ1,r1,q1⟩
   | normal=>
    refine wpIn_block (wpIn_mono (MH Ca.1.2 r1 q1) fun e2 a2 w2 oR=>?_);obtain⟨Dk,⟨ρ2,r2,s2⟩,s3,s4⟩:=oR
    cases e2 with
    | panic c=>exact(s3 c rfl).elim
    | outgrown=>exact(s4 rfl).elim
    | normal=>exact⟨Dk,ρ2,r2,s2⟩
    | goto i=>exact .inr ⟨Dk,ρ2,r2,s2⟩
    | ret=>exact .inr ⟨Dk,ρ2,r2,s2⟩
    | exit i=>
     simp only[Ao]at s2;simp only[Exit.inBlock]
     cases hb:Nat.beq i id with
     | true=>
      have:=Nat.eq_of_beq_eq_true hb;subst this;rw[hb]at s2;rw[if_pos rfl];exact⟨Dk,ρ2,r2,s2⟩
     | false=>
      rw[hb]at s2;rw[if_neg (fun e=>by subst e;simp at hb)];exact .inr ⟨Dk,ρ2,r2,s2⟩
  .cases e with
   | normal=>
    obtain⟨Dk,ρ1,r1,q1⟩:=hp;refine wpIn_mono (mi (ro:=none) (n:=n) (D:=[oY Dk]) p rest _ ρ1 w' a' (.inl rfl) Ca.2 q1 r1) fun e2 a2 w2 oR=>?_
    obtain⟨⟨ρ2,r2,s2⟩,s3,s4⟩:=oR.out;exact SpE.mk (.inr ⟨Dk,ρ2,r2,s2⟩) s3 s4
   | panic c=>exact hp
   | outgrown=>exact hp
   | exit i=>exact hp
   | goto i=>exact hp
   | ret=>exact hp
def Wk(Dk:Nat):(l:List Ty)->jC l->jC l
 | [],K=>fun w=>K (bQ Dk w)
 | .one _::r,K=>fun x=>Wk Dk r (K x)
 | .agg l::r,K=>Wl Dk r l K
 | .bad::r,K=>fun v=>Wk Dk r (K v)
where
 Wl (Dk:Nat) (r:List Ty):(l:List xG)->Cj l (jC r)->Cj l (jC r)
 | [],K=>Wk Dk r K
 | .one _::q,K=>fun x=>Wl Dk r q (K x)
 | .row _ _::q,K=>fun x=>Wl Dk r q (K x)
def aah(P:Program)(tys:List Ty)(rs:List ResultVar)(K:jC tys)(Dk:Nat):Exit->Env->Pw
 | .ret,ρ,w=>fS Dk w/\yT P rs ρ (bQ Dk w) (fun vs=>qI tys vs K (bQ Dk w))
 | .normal,ρ,w=>fS Dk w/\yT P rs ρ (bQ Dk w) (fun vs=>qI tys vs K (bQ Dk w))
 | _,_,_=>False
theorem mkR{f:FuncId}{fn:Func}{s:Sp}{args:List Value}{tys:List Ty}{K:jC tys}{w:Wd}{F C:Prop}(hf:P.funcs[f]? = some fn)
  (hF:F=Qj P pk s (fn.body.getD .skip) (Lu P tys fn.results.toList K) (aah P tys fn.results.toList K) (qG args) w) (hc:(fn.body.isSome && Nat.ble args.length fn.ntmps && JP P fn.ntmps s (fn.body.getD .skip))=true)
  (hC:av P f args.toArray tys K w=C) (h:F):C:=by
 simp only[Bool.and_eq_true]at hc;obtain⟨c,hb⟩:=Option.isSome_iff_exists.1 hc.1.1;have e:fn.body.getD .skip=c:=by rw[hb];rfl
 rw[e]at hF hc;rw[<- hC];refine callsIn_wide.1 (callsIn_of_wp_marks (F:=Fence.wide) (n:=0) hf hb trivial (wpIn_mono (Qk s c _ _ _ w _ hc.2 (hF ▸ h) (GK hc.1.2)) fun e a' w' hp=>?_) rfl)
 have fin:∀{D:List Deferred}{ρ':Env}{gE:Wd},k_ D fn.ntmps a' ρ'->yT P fn.results.toList ρ' gE (fun vs=>qI tys vs K gE)->∃v,(results fn a'.tmps).run P gE = .ok v gE/\FY tys K (fun vs Y=>Ending.returned v = .returned (CX vs)/\Y gE):=fun dM hq=>by
  obtain⟨vs,h1,h2⟩:=xN dM hq;exact⟨_,h1,kG tys K (fun us X hh=>⟨by rw[hh.1],hh.2⟩) (og tys vs K _ h2)⟩
 have main:((∃ρ,k_ [] fn.ntmps a' ρ/\yT P fn.results.toList ρ w' (fun vs=>qI tys vs K w'))∨∃Dk ρ,k_ [oY Dk] fn.ntmps a' ρ/\(fS Dk w'/\yT P fn.results.toList ρ (bQ Dk w') (fun vs=>qI tys vs K (bQ Dk w'))))->
   LeavesInM Fence.wide 0 P fn a'.tmps (fun e w'=>FY tys K (fun vs Y=>e = .returned (CX vs)/\Y w')) a'.defers .returning w':=by
  rintro(⟨ρ,r,q⟩ | ⟨Dk,ρ,r,q0,q⟩)
  .rw[r.defers];exact fin r q
  .rw[r.defers];exact⟨by simp,.inl ⟨Dk,_,rfl,run_takeDeferred q0,fin r q⟩⟩
 cases e with
 | normal=>exact main hp
 | ret=>exact main hp
 | panic c=>exact hp.elim
 | outgrown=>exact hp.elim
 | exit i=>rcases hp with⟨_,_,h⟩ | ⟨_,_,_,h⟩ <;> exact h.elim
 | goto i=>rcases hp with⟨_,_,h⟩ | ⟨_,_,_,h⟩ <;> exact h.elim
end sound
end Go.V
set_option maxRecDepth 100000
namespace Go.Proofs.YtpjbalhhlaofmaaGreat
open Go.V
def jt(s:Sl)(seq:Value)(w:Wd)(K:Sl->Pw):Prop:=af w (.cells [s.u].toArray 100) fun f l=>∀(a:Loop)(dk lp:Nat)(w2:Wd),DR l a dk lp w2->(∀(j:ByteArray)(b:Wd)(h:Bool->Pw),dX lp a .ready none b->(dX lp a .ready none b/\∃c:Sl,Cell (bz lp a .busy none b) (A0 f) c.u/\af (bz lp a .busy none b) (.cells [.string j].toArray 9) fun k m=>bg pz 100 100 c (.slice (some (A0 k)) 1 1) (fun g n=>aQ n (A0 f) g.u fun i=>dX lp a .busy none i/\h true (bz lp a .ready none i)) m)->aD pz true (.func (.yield lp) #[] #[]) [.string j] [.one .bool] h cc b)->aD pz false (seq) [.func (.yield lp) #[] #[]] [] (fun e=>(dX lp a .ready none e/\∃d:Sl,Cell (bz lp a .exhausted none e) (A0 f) d.u/\fS dk ((bz lp a .exhausted none e))/\K d ((bQ dk ((bz lp a .exhausted none e)))))) cc w2
def ju:Sp:=(.next n0 (.here n0 ⟨[(7,.one (.str))],[],n0,(.block n0)⟩ (qz n0)))
theorem jv{s:Sl}{seq:Value}{w:Wd}{K:Sl->Pw}(h:jt s seq w K):cQ s seq w K:=
 mkR (pk:=PK) (s:=ju) (args:=[.slice s.a s.len s.cap,seq]) (tys:=[.one (.sl)]) (K:=K) (w:=w) Tryz.func109 (by kernel_rfl) (by kernel_rfl) (by kernel_rfl) h
def uz(g0:Value)(g1:Int)(key value:Sl)(w:Wd)(K:Sl->Sl->Int->Int->Int->Int->Int->Int->Int->Int->Pw):Prop:=af w (.cells [g0,.int .u32 g1].toArray 107) fun c3 h4=>af h4 (.cells (I_ 0 0 0 0 0 0 0).toArray 151) fun b h8=>af h8 (.cells [.int .i64 0].toArray 34) fun m i2=>dE key i2 fun z i3=>af i3 (.cells (I_ 0 0 0 0 0 0 0).toArray 151) fun a i4=>aP i4 (A0 a) 9 (YM z 0 0 0 0 0 0 0) fun h1=>If (decide (((value.len:Int))<=64)) (dE value h1 fun c2 i5=>aQ i5 ((A0 a).add 1) c2.u fun l=>wk (Cell l) (A0 a) fun n o L T U a3 b1 b4 c0=>aP l (A0 b) 9 (sY n o L T U a3 b1 b4 c0) fun i6=>aQ i6 (A0 m) (.int .i64 0) fun h=>wk (Cell h) (A0 b) fun I B c4 c5 c6 c7 c8 c9 d0=>∃g3:Int,Cell h (A0 m) (.int .i64 g3)/\K I B c4 c5 c6 c7 c8 c9 d0 g3 h) (qM value h1 fun h2 f8 i=>If (f8 != 0) (wk (Cell i) (A0 a) fun p q M N O P Q R S=>aP i (A0 b) 9 (sY p q M N O P Q R S) fun h5=>aQ h5 (A0 m) (.int .i64 f8) fun j=>wk (Cell j) (A0 b) fun C D d1 d2 d3 d4 d5 d6 d7=>∃g4:Int,Cell j (A0 m) (.int .i64 g4)/\K C D d1 d2 d3 d4 d5 d6 d7 g4 j) (fQ h2 i fun h3 h6=>∀(c:Loop)(dk lp:Nat)(dY:Wd),DR h6 c dk lp dY->(∀(i7:Value)(J:Sl)(y:Wd)(A:Bool->Pw),dX lp c .ready none y->(dX lp c .ready none y/\mn (Cell (bz lp c .busy none y)) ((A0 a).add 3) fun d8 d9 e0=>pC J d8 d9 e0 (bz lp c .busy none y) fun c1 f9 e=>If (f9 != 0) (wk (Cell e) (A0 a) fun r s V W Y Z a0 a1 a2=>aP e (A0 b) 9 (sY r s V W Y Z a0 a1 a2) fun h7=>aQ h7 (A0 m) (.int .i64 f9) fun g9=>dX lp c .busy none g9/\A false (bz lp c .done (some .ret) g9)) (zQ (Cell e) (A0 c3) fun g5 g6=>oh pz g5 "Put" (YH g6 3 0 c1) [.agg [.one (.int .u32),.one (.int .u64),.one (.int .u16)],.one (.int .i64)] (fun f5 f6 f7 g2 h9=>aP h9 ((A0 a).add 3) 3 (iT f5 f6 f7) fun f=>If (g2 != 0) (wk (Cell f) (A0 a) fun t u a4 a5 a6 a7 a8 a9 b0=>aP f (A0 b) 9 (sY t u a4 a5 a6 a7 a8 a9 b0) fun i0=>aQ i0 (A0 m) (.int .i64 g2) fun h0=>dX lp c .busy none h0/\A false (bz lp c .done (some .ret) h0)) (dX lp c .busy none f/\A true (bz lp c .ready none f))) cc e))->aD pz true (.func (.yield lp) #[] #[]) [i7, J.u] [.one .bool] A cc y)->aD pz false (h3) [.func (.yield lp) #[] #[]] [] (fun d=>(dX lp c .done (some .ret) d/\fS dk ((bz lp c .exhausted (some .ret) d))/\wk (Cell ((bQ dk ((bz lp c .exhausted (some .ret) d))))) (A0 b) fun E F e1 e2 e3 e4 e5 e6 e7=>∃g7:Int,Cell ((bQ dk ((bz lp c .exhausted (some .ret) d)))) (A0 m) (.int .i64 g7)/\K E F e1 e2 e3 e4 e5 e6 e7 g7 ((bQ dk ((bz lp c .exhausted (some .ret) d)))))∨  (dX lp c .ready none d/\aQ (bz lp c .exhausted none d) ((A0 a).add 2) (.int .i64 ((value.len:Int))) fun k=>wk (Cell k) (A0 a) fun v x b2 b3 b5 b6 b7 b8 b9=>aP k (A0 b) 9 (sY v x b2 b3 b5 b6 b7 b8 b9) fun i1=>aQ i1 (A0 m) (.int .i64 0) fun g=>fS dk g/\wk (Cell ((bQ dk g))) (A0 b) fun G H e8 e9 f0 f1 f2 f3 f4=>∃g8:Int,Cell ((bQ dk g)) (A0 m) (.int .i64 g8)/\K G H e8 e9 f0 f1 f2 f3 f4 g8 ((bQ dk g)))) cc dY))
def uA:Sp:=(.next n0 (.next n0 (.next (qz (.cond (qz (qz n0)) n0)) (.next n0 (.next (qz (.cond (qz n0) n0)) (.here n0 ⟨[(36,.one (.val)),(37,.one (.sl))],[none],n0,(.block (qz (.seq (qz (.cond (qz n0) n0)) (qz (qz (.cond (qz n0) n0))))))⟩ (qz (qz n0))))))))
theorem uB{g0:Value}{g1:Int}{key value:Sl}{w:Wd}{K:Sl->Sl->Int->Int->Int->Int->Int->Int->Int->Int->Pw}(h:uz g0 g1 key value w K):fy g0 g1 key value w K:=
 mkR (pk:=PK) (s:=uA) (args:=[.agg ([g0,.int .u32 g1]).toArray,.slice key.a key.len key.cap,.slice value.a value.len value.cap]) (tys:=[.agg [.one (.sl),.one (.sl),.one (.int .i64),.one (.int .u32),.one (.int .u64),.one (.int .u16),.one (.int .u32),.one (.int .u64),.one (.int .u16)],.one (.int .i64)]) (K:=K) (w:=w) Tryz.func86 (by kernel_rfl) (by kernel_rfl) (by kernel_rfl) h
def FF(s:Value)(ai t0:Int)(t1 t2 t3:Int)(fj to:Sl)(most:Int)(back:Bool)(w:Wd)(K:Sl->Int->Pw):Prop:=af w (.cells (fh t0 t1 t2 t3).toArray 30) fun p a2=>af a2 (.cells [.int .i64 most].toArray 3) fun I a8=>af a8 (.cells [.slice none 0 0].toArray 88) fun c b1=>af b1 (.cells [.int .i64 0].toArray 34) fun d n=>jD (Cell n) (A0 p) fun J L M N=>fY s ai J L M N n fun a1 O Y=>If (O != 0) (aQ Y (A0 c) (.slice none 0 0) fun b2=>aQ b2 (A0 d) (.int .i64 O) fun F=>∃q:Sl,Cell F (A0 c) q.u/\∃P:Int,Cell F (A0 d) (.int .i64 P)/\K q P F) (af Y (.cells [.slice none 0 0].toArray 88) fun m G=>∃S:Int,Cell G (A0 I) (.int .i64 S)/\If (decide (S < 1)) (aQ G (A0 c) (.slice none 0 0) fun b3=>aQ b3 (A0 d) (.int .i64 0) fun D=>∃u:Sl,Cell D (A0 c) u.u/\∃T:Int,Cell D (A0 d) (.int .i64 T)/\K u T D) (nf a1 fj to back G fun a0 a3=>∀(a:Loop)(dk lp:Nat)(eN:Wd),DR a3 a dk lp eN->(∀(e:Sl)(f:Sl)(H:Int)(E:Wd)(o:Bool->Pw),dX lp a .ready none E->(af E (.cells (ow).toArray 92) fun B a4=>aP a4 (A0 B) 2 (xO e f) fun k=>dX lp a .ready none k/\If (H != 0) (aQ (bz lp a .busy none k) (A0 c) (.slice none 0 0) fun a5=>aQ a5 (A0 d) (.int .i64 H) fun W=>dX lp a .busy none W/\o false (bz lp a .done (some .ret) W)) (∃v:Sl,Cell (bz lp a .busy none k) (A0 m) v.u/\qo (Cell (bz lp a .busy none k)) (A0 B) fun g h=>af (bz lp a .busy none k) (.cells (xO g h).toArray 92) fun Z a6=>bg pz 88 88 v (.slice (some (A0 Z)) 1 1) (fun C a7=>aQ a7 (A0 m) C.u fun l=>∃x:Sl,Cell l (A0 m) x.u/\∃U:Int,Cell l (A0 I) (.int .i64 U)/\If (decide (((x.len:Int))≥U)) (dX lp a .busy none l/\o false (bz lp a .done (some (.exit 0)) l)) (dX lp a .busy none l/\o true (bz lp a .ready none l))) a6))->aD pz true (.func (.yield lp) #[] #[]) [.agg ((xO e f)).toArray,.int .i64 H] [.one .bool] o cc E)->aD pz false (a0) [.func (.yield lp) #[] #[]] [] (fun b=>(dX lp a .done (some .ret) b/\fS dk ((bz lp a .exhausted (some .ret) b))/\∃y:Sl,Cell ((bQ dk ((bz lp a .exhausted (some .ret) b)))) (A0 c) y.u/\∃V:Int,Cell ((bQ dk ((bz lp a .exhausted (some .ret) b)))) (A0 d) (.int .i64 V)/\K y V ((bQ dk ((bz lp a .exhausted (some .ret) b)))))∨  (dX lp a .done (some (.exit 0)) b/\∃i:Sl,Cell (bz lp a .exhausted (some (.exit 0)) b) (A0 m) i.u/\aQ (bz lp a .exhausted (some (.exit 0)) b) (A0 c) i.u fun a9=>aQ a9 (A0 d) (.int .i64 0) fun z=>fS dk z/\∃r:Sl,Cell ((bQ dk z)) (A0 c) r.u/\∃Q:Int,Cell ((bQ dk z)) (A0 d) (.int .i64 Q)/\K r Q ((bQ dk z)))∨  (dX lp a .ready none b/\∃j:Sl,Cell (bz lp a .exhausted none b) (A0 m) j.u/\aQ (bz lp a .exhausted none b) (A0 c) j.u fun b0=>aQ b0 (A0 d) (.int .i64 0) fun A=>fS dk A/\∃t:Sl,Cell ((bQ dk A)) (A0 c) t.u/\∃R:Int,Cell ((bQ dk A)) (A0 d) (.int .i64 R)/\K t R ((bQ dk A)))) cc eN))
def FG:Sp:=(.next n0 (.next n0 (.next (qz (.cond (qz n0) n0)) (.next n0 (.next (qz (.cond (qz n0) n0)) (.here n0 ⟨[(38,.agg [.one (.sl),.one (.sl)]),(39,.one (.int .i64))],[none,some 0],(qz n0),(.block (.seq (qz (.cond (qz n0) n0)) (qz (qz (.cond n0 n0)))))⟩ (qz n0)))))))
theorem vY{s:Value}{ai t0:Int}{t1 t2 t3:Int}{fj to:Sl}{most:Int}{back:Bool}{w:Wd}{K:Sl->Int->Pw}(h:FF s ai t0 t1 t2 t3 fj to most back w K):lO s ai t0 t1 t2 t3 fj to most back w K:=
 mkR (pk:=PK) (s:=FG) (args:=[s,.int .u32 ai,.agg ([.int .u32 t0,.int .u64 t1,.int .u16 t2,.int .u8 t3]).toArray,.slice fj.a fj.len fj.cap,.slice to.a to.len to.cap,.int .i64 most,.bool back]) (tys:=[.one (.sl),.one (.int .i64)]) (K:=K) (w:=w) Tryz.func44 (by kernel_rfl) (by kernel_rfl) (by kernel_rfl) h
end Go.Proofs.YtpjbalhhlaofmaaGreat
namespace Go.V
def Sub(ps:List Rf)(M:Mm):Prop:=∀q,ps.count q<=(live M.aC).count q
theorem Sub.left{a b:List Rf}{M:Mm}(h:Sub (a++b) M):Sub a M:=fun q=>by have:=h q;rw[List.count_append]at this;omega
theorem Sub.right{a b:List Rf}{M:Mm}(h:Sub (a++b) M):Sub b M:=fun q=>by have:=h q;rw[List.count_append]at this;omega
theorem Sub.mem{ps:List Rf}{M:Mm}{q:Rf}(h:Sub ps M)(hq:q∈ps):q∈live M.aC:=by
 have:=h q;have h2:=List.count_pos_iff.2 hq;exact List.count_pos_iff.1 (by omega)
theorem Sub.apart{a b:List Rf}{M:Mm}(S:L_ M)(h:Sub (a++b) M){q:Rf}(ha:q∈a):q ∉ b:=fun hb=>by
 have h1:=h q;rw[List.count_append]at h1;have h2:=List.count_pos_iff.2 ha;have h3:=List.count_pos_iff.2 hb;have h4:=List.nodup_iff_count.1 (Bk S) q;omega
theorem Sub.DT{M M':Mm}{k:Nat}{ds ns a b:List Rf}(h:Sub (a++b) M)(c:kV M M' k ds ns)(hd:∀q,ds.count q<=a.count q):Sub b M':=fun q=>by
 have:=h q;have:=c.HA q;have:=hd q;rw[List.count_append] at *;omega
end Go.V
namespace Go.Proofs.YtpjbalhhlaofmaaGreat
open Go.V
section
variable {w:Wd} {T:Nat->Option Nat} {m:bJ} {M:Mm}
theorem BC(l:List Rf):∀x∈l,(Rf.cs x).length=3:=fun _ _=>rfl
def HU(bv:Nat)(base:Nat)(cs:List (Rf×List Int))(j:Nat)(w:Wd)(B:Nat->Prop):Prop:=
 ∃(sl:Sl),w.heap[bv]? = some (.cells [.slice sl.a sl.len sl.cap].toArray 133 (0,0))/\bf w.heap base 28 3 sl (((cs.take j).map Prod.fst).flatMap Rf.cs)/\(bv < base/\base<=w.heap.size)/\(∀q,B q ↔ q=bv∨sl.aj=some q)
theorem HU.mono{bv base:Nat}{cs:List (Rf×List Int)}{j:Nat}{w1 w2:Wd}{B S:Nat->Prop}(h:HU bv base cs j w1 B)(x:Ext S w1 w2)(hS:∀q,B q->¬ S q):HU bv base cs j w2 B:=by
 obtain⟨sl,h1,h2,h3,h4⟩:=h;exact⟨sl,ag h1 x (hS _ ((h4 _).2 (.inl rfl))),h2.ext x (fun q hq=>hS _ ((h4 _).2 (.inr hq))),⟨h3.1,Nat.le_trans h3.2 x.size⟩,h4⟩
theorem HU.step{bv base:Nat}{cs:List (Rf×List Int)}{j:Nat}{w1:Wd}{B:Nat->Prop}{s:Sl}{K':Pw}(hl:cs.length<=5)(hj:j < cs.length)(h:HU bv base cs j w1 B)
  (k:∀w' B',HU bv base cs (j+1) w' B'->Ext B w1 w'->(∀q,B' q->B q∨w1.heap.size<=q/\q < w'.heap.size)->K' w') :
  aD pz true (.func (.func 166) #[] #[.pointer (some (A1 bv))]) [.agg ([.int .u32 cs[j].1.p,.int .u64 cs[j].1.c,.int .u16 cs[j].1.g]).toArray,.slice s.a s.len s.cap] [] K' cc w1:=by
 obtain⟨sl,h1,h2,h3,h6⟩:=h;refine qt (c0:=A1 bv) (qq ?_)
 refine af.mk fun b w2 n2=>⟨_,Cell.ah (ad h1 n2.ext) rfl,_,Cell.ah n2.get rfl,_,Cell.ah n2.get rfl,_,Cell.ah n2.get rfl,af.mk fun b1 w3 n3=>?_⟩
 have x3:=n2.ext.no n3.ext;have z2:=n2.size;have z3:=n3.size;have o3:=h2.no x3;have e3:bf w3.heap w2.heap.size 28 3 ⟨some ⟨b1,0,none⟩,1,1⟩ (Rf.cs cs[j].1):=bf.new (n:=1) (sz:=3) n3 rfl (by simp[aJ,Rf.cs]);have LN:sl.len=j:=by have:=h2.len;rw[aS (BC _)]at this;simp at this;omega
 have SG:∀q,sl.aj=some q->B q:=fun q hq=>(h6 q).2 (.inr hq)
 have RA:B bv:=(h6 bv).2 (.inl rfl);have nbv:sl.aj≠some bv:=fun h=>by have:=(h2.lt h).1;omega
 refine Hc o3 (by omega) e3.rd.src (by simp only;omega) fun s' w4 o4 _ x4 oQ=>?_
 have y4:=x4.size
 have VL:∀q,s'.aj=some q->B q∨w1.heap.size<=q/\q < w4.heap.size:=fun q hq=>by
  rcases oQ with h | ⟨c,h,hc⟩
  .exact .inl (SG q (h ▸ hq))
  .rw[h]at hq;cases hq;exact .inr ⟨by omega,(o4.lt h).2⟩
 have g4:=ag (ad h1 x3) x4 nbv;refine aQ.b1 g4 rfl fun w5 SH=>?_
 have z5:=SH.size;have x5:Ext (·=bv) w4 w5:=SH.ext;have sN:Ext B w1 w5:=((x3.aE).trans x4 fun q _ hq=>SG q hq).trans x5 fun q _ hq=>by rw[hq];exact RA
 refine k w5 (fun q=>q=bv∨s'.aj=some q) ⟨s',SH.get g4,?_,⟨h3.1,by have:=sN.size;omega⟩,fun q=>Iff.rfl⟩ sN fun q hq=>?_
 .have:((cs.take (j+1)).map Prod.fst).flatMap Rf.cs=((cs.take j).map Prod.fst).flatMap Rf.cs++Rf.cs cs[j].1:=by
   rw[List.take_add_one,List.getElem?_eq_getElem hj];simp only[Option.toList_some,List.map_append,List.map_cons,List.map_nil,List.flatMap_append,List.flatMap_cons,List.flatMap_nil,List.append_nil]
  rw[this];exact o4.ext x5 fun q hq h=>by have:=(o4.lt hq).1;omega
 .rcases hq with h | h
  .exact .inl (h ▸ RA)
  .rcases VL q h with h' | h'
   .exact .inl h'
   .exact .inr ⟨h'.1,by omega⟩
set_option maxHeartbeats 1000000 in
theorem HV{t:Int}{x:aL}{e:aF}{cs:List (Rf×List Int)}{K:Int->Pw}(R:bC w.heap T m M)(hx:x.ch=e.ch)(hc:iD M.f t e.ch cs)(hl:cs.length<=5)(hs:Sub (cs.map Prod.fst) M)
  (k:∀M' w',bC w'.heap T m M'->kV M M' 0 (cs.map Prod.fst) []->Ext (Ts T) w w'->K 0 w'):gK (eY m) t x.k x.v x.n x.ch.p x.ch.c x.ch.g x.cd.p x.cd.c x.cd.g w K:=by
 apply sE;refine af.mk fun b w1 n1=>af.mk fun b1 w2 n2=>af.mk fun b2 w3 n3=>?_
 have hb:=n1.at_;have jk:=n2.at_;have jN:=n3.at_;have z1:=n1.size;have z2:=n2.size;have z3:=n3.size;have ib:Ext No w w3:=(n1.ext.no n2.ext).no n3.ext;have g3:=ad (ad n1.get n2.ext) n3.ext;have fN:w3.heap[b1]? = some (.cells x.cs.toArray 151 (0,0)):=ad n2.get n3.ext
 have sup:∀q,w.heap.size<=q->T q=none:=fun q hq=>by
  cases h:T q with
  | none=>rfl
  | some t=>have:=R.sup q (by rw[h];simp);omega
 refine⟨_,Cell.ah g3 rfl,_,Cell.ah g3 rfl,_,Cell.ah fN rfl,_,Cell.ah fN rfl,_,Cell.ah fN rfl,?_⟩;rw[hx]
 refine Bi (J:=HU b2 w3.heap.size cs) (B:=fun q=>q=b2) (R.no ib) hc hl ⟨⟨none,0,0⟩,n3.get,bf.nil _ _ _ _,⟨by omega,Nat.le_refl _⟩,fun q=>by simp[Sl.aj]⟩ (fun q hq=>⟨sup q (by omega),by omega⟩) (fun h x hS=>h.mono x hS)
  (fun j w5 B' s base hj K' hJ o hb hB kk=>HU.step hl hj hJ fun w' X7 h1 h2 h3=>kk w' X7 h1 h2 fun q hq=>(h3 q hq).imp id fun h=>⟨by omega,h.2⟩) fun w4 B4 J4 x4 R4 hB4=>If.bne (fun h=>(h rfl).elim) fun _=>?_
 obtain⟨sl,q1,q2,q3,q4⟩:=J4;rw[List.take_length]at q2;have afj:(cs.map Prod.fst).length<=5:=by simpa using hl
 generalize Pc:cs.map Prod.fst=ps at *;have hlen:sl.len=ps.length:=by have:=q2.len;rw[aS (BC _)]at this;omega
 have fg:Ext No w w4:=ib.trans x4 fun q hq h=>by omega
 have s4:=x4.size;have SG:∀q,sl.aj=some q->w.heap.size<=q/\q < w4.heap.size:=fun q hq=>by have:=q2.lt hq;omega
 have g4:=ag g3 x4 (by omega);refine⟨sl,Cell.ah q1 rfl,fun mm t w'=>∃(j:Nat) (Mj:Mm),t=j/\j<=ps.length/\mm=ps.length - j/\bC w'.heap T m Mj/\kV M Mj 0 (ps.take j) []/\Ext (Ts T) w4 w',⟨ps.length,0,M,rfl,by omega,by omega,R4,by simpa using kV.refl M,Ext.refl _ _⟩,?_⟩;rintro _ m0 t w5 ⟨j,Mj,rfl,hj,hm,R5,c5,x5⟩;have nT:∀q,w.heap.size<=q->¬ Ts T q:=fun q hq h=>h (sup q hq)
 have g5:=ag g4 x5 (nT b (by omega));have q25:=q2.ext x5 fun q hq=>nT q (SG q hq).1
 refine If.dec (fun h=>?_) fun h=>?_
 .refine Ix.elem q25.rd (BC _) (by decide) (by omega) (by omega) fun bb o hi _ bS=>?_
  simp only[Int.toNat_natCast]at hi bS;refine⟨_,bS 0 _ rfl,_,bS 1 _ rfl,_,bS 2 _ rfl,aW rfl rfl (by simp[aJ]) fun b3 w7 g7 vB z7 x7=>?_⟩
  have aai:ps[j]∈live Mj.aC:=by
   have h1:=c5.HA ps[j];have h2:=hs ps[j]
   have h3:ps.count ps[j]=(ps.take j).count ps[j]+(ps.drop j).count ps[j]:=by
    rw[<- List.count_append,List.take_append_drop]
   have h4:0 < (ps.drop j).count ps[j]:=List.count_pos_iff.2 (by rw[List.drop_eq_getElem_cons hi];exact List.mem_cons_self);exact List.count_pos_iff.1 (by simp only[List.count_nil]at h1;omega)
  obtain⟨d0,dc⟩:=kV.drop R5.Bj aai;refine⟨_,Cell.ah (ad g5 x7) rfl,_,Cell.ah g7 rfl,_,Cell.ah g7 rfl,_,Cell.ah g7 rfl,lC (pO (r:=ps[j]) (R5.no x7) fun w8 R8 x8=>?_)⟩;rw[d0];refine If.bne (fun h=>(h rfl).elim) fun _=>Ar.i64 (by omega) ⟨ps.length - (j+1),by omega,j+1,_,by omega,by omega,rfl,R8,?_,(x5.no x7).trans x8 fun _ _ h=>h⟩
  have:=c5.trans dc;rw[List.take_add_one,List.getElem?_eq_getElem hi];exact this
 .have e:j=ps.length:=by omega
  rw[e,List.take_length]at c5;exact k Mj w5 R5 c5 (fg.aE.trans x5 fun _ _ h=>h)
theorem Ql{vs:Sl}{v:List Int}{K:Sl->Int->Pw}(hv:b_ w.heap vs v)(hl:v.length<=1024)
  (k:∀sl (ps:List (Sl×List Int)) w',Rd w'.heap sl 1 (ps.map fun p=>p.1.v)->(∀p∈ps,b_ w'.heap p.1 p.2/\∀q,p.1.aj=some q->w.heap.size<=q/\q < w'.heap.size)->(∀q,sl.aj=some q->w.heap.size<=q/\q < w'.heap.size)->(ps.map Prod.snd).flatten=v->ps.length=(v.length+207) / 208->
   (∀j (h:j < ps.length),1<=ps[j].2.length/\ps[j].2.length<=208/\(j+1 < ps.length->ps[j].2.length=208))->Ext No w w'->K sl 0 w'):qM vs w K:=by
 apply GM;have Nz:=b_.len hv;refine yn (by omega) (by omega) (If.bne (fun h=>(h rfl).elim) fun _=>af.mk fun b w2 n2=>?_);have hb:=n2.at_;have z2:=n2.size;refine vA (w0:=w) (Q:=fun q=>w.heap.size<=q) n2.ext.aE (fun i hi=>by simp[Sl.aj]at hi;omega) (fun i hi=>hi) (aK.new (l:=[]) (n:=0) n2 rfl) (by omega) (Rd.no hv n2.ext) (by simp;omega) fun s w3 o3 q3 x3=>?_
 rw[List.nil_append]at o3;have LN:=aK.len o3;have ib:Ext No w w3:=x3.mono fun q hq h=>by omega
 have s3:=x3.size;rw[Nz];refine FZ.mk (Int.le_refl _) (by omega) (by omega) (by omega) fun b4 w4 n4=>?_
 have o4:=bf.make (l:=(0:Int).toNat) n4 (by omega) (fun v hv=>by rw[List.mem_singleton]at hv;subst hv;rfl);have Hm:=n4.at_;have z4:=n4.size
 have sb:∀q,s.aj=some q->w.heap.size<=q/\q < w3.heap.size:=fun q hq=>⟨q3 q hq,(o3.lt hq).2⟩
 refine⟨fun mm out fr w'=>∃(j:Nat) (ps:List (Sl×List Int)),fr=208 * j/\208 * j<=v.length+207/\mm=v.length+207 - 208 * j/\bf w'.heap w3.heap.size 23 1 out (ps.map fun p=>p.1.v)/\(∀p∈ps,b_ w'.heap p.1 p.2/\p.1.aj=s.aj)/\(ps.map Prod.snd).flatten=v.take (208 * j)/\ps.length=j/\(∀i (h:i < ps.length),1<=ps[i].2.length/\ps[i].2.length<=208/\(i+1 < ps.length∨208 * j<=v.length->ps[i].2.length=208))/\Ext No w3 w',
  ⟨v.length+207,0,[],rfl,by omega,by omega,by simpa using o4,by simp,by simp,rfl,by simp,n4.ext⟩,?_⟩
 rintro _ m0 out fr w5 ⟨j,ps,rfl,hj,hm,o5,Pc,Nx,xT,gZ,x5⟩;have s5:=x5.size;refine If.dec (fun h=>?_) fun h=>?_
 .have eO:208 * j < v.length:=by omega
  refine Ar.i64 (by omega) (Nm.mk ?_);have ur:gm (208 * (j:Int)+208) (s.len:Int)=((min (208 * j+208) v.length:Nat):Int):=by unfold gm;split <;> omega
  rw[ur];have r5:=(o3.no x5).rd;have iz:=r5.cap;have wW:=Rd.cut r5 (lo:=208 * j) (hi:=min (208 * j+208) v.length) (mx:=min (208 * j+208) v.length) (by omega) (by omega) (Nat.le_refl _);simp only[Nat.mul_one]at wW;rw[<- List.map_drop,<- List.map_take]at wW;refine Cut.mk (by omega) (by omega) (Int.le_refl _) (by omega) ?_;rw[show(((min (208 * j+208) v.length:Nat):Int)).toNat=min (208 * j+208) v.length from rfl,show(208 * (j:Int)).toNat=208 * j by omega,show(((min (208 * j+208) v.length:Nat):Int) - 208 * (j:Int)).toNat=min (208 * j+208) v.length - 208 * j by omega];generalize Jo:(⟨iQ s.a (min (208 * j+208) v.length) (208 * j) 1,min (208 * j+208) v.length - 208 * j,min (208 * j+208) v.length - 208 * j⟩ : Sl)=s2 at *
  have tZ:s2.aj=s.aj:=by
   rw[<- Jo];simp only[Sl.aj,iQ];split
   .rfl
   .cases s.a with
    | none=>rfl
    | some a=>simp only[Option.map_some];congr 1;unfold Addr.add;split <;> rfl
  refine af.mk fun b6 w6 n6=>?_
  have o6:=o5.no n6.ext;have e6:bf w6.heap w5.heap.size 23 1 ⟨some ⟨b6,0,none⟩,1,1⟩ [s2.v]:=bf.new (n:=1) (sz:=1) n6 rfl (by simp[aJ,Sl.v]);have hol:out.len=j:=by have:=o6.len;simp at this;omega
  refine pK o6 (by have:=n6.size;omega) e6.rd.src (by simp only;omega) fun Yy w7 o7 _ x7 oQ=>?_
  have ob:∀q,out.aj=some q->w3.heap.size<=q:=fun q hq=>(o5.lt hq).1
  have Uv:Ext No w3 w7:=(x5.no n6.ext).trans x7 fun q hq h=>by have:=ob q h;omega
  have Uw:∀{p:Sl×List Int},b_ w5.heap p.1 p.2->p.1.aj=s.aj->b_ w7.heap p.1 p.2:=fun {p} h hb=>(Rd.no h n6.ext).ext x7 fun a q ha hq e=>by
   have h1:p.1.aj=some q:=by simp[Sl.aj,ha,hq]
   rw[hb]at h1;have:=sb q h1;have:=ob q e;omega
  refine Ar.i64 (by omega) ⟨v.length+207 - 208 * (j+1),by omega,j+1,ps++[(s2,(v.drop (208 * j)).take (min (208 * j+208) v.length - 208 * j))],by omega,by omega,rfl,by simpa using o7,fun p hp=>?_,?_,by simp[xT],fun i hi=>?_,Uv⟩
  .rcases List.mem_append.1 hp with h | h
   .exact⟨Uw (Pc p h).1 (Pc p h).2,(Pc p h).2⟩
   .rw[List.mem_singleton]at h;subst h;exact⟨Uw wW tZ,tZ⟩
  .rw[List.map_append,List.flatten_append,Nx];simp only[List.map_cons,List.map_nil,List.flatten_cons,List.flatten_nil,List.append_nil];rw[show 208 * (j+1)=208 * j+208 by omega,List.take_add];congr 1;rw[List.take_eq_take_iff,List.length_drop];omega
  .simp only[List.length_append,List.length_cons,List.length_nil]at hi ⊢;rcases Nat.lt_or_ge i ps.length with h2 | h2
   .rw[List.getElem_append_left h2];have:=gZ i h2;refine⟨this.1,this.2.1,fun _=>this.2.2 (.inr (by omega))⟩
   .have:i=ps.length:=by omega
    subst this;simp only[List.getElem_append_right (Nat.le_refl _),Nat.sub_self,List.getElem_cons_zero,List.length_take,List.length_drop];omega
 .have eO:v.length<=208 * j:=by omega
  refine k out ps w5 o5.rd (fun p hp=>⟨(Pc p hp).1,fun q hq=>?_⟩) (fun q hq=>?_) (by rw[Nx,List.take_of_length_le eO]) (by omega) (fun i hi=>?_) (ib.no x5)
  .rw[(Pc p hp).2]at hq;have:=sb q hq;omega
  .have:=o5.lt hq;omega
  .have:=gZ i hi;exact⟨this.1,this.2.1,fun h=>this.2.2 (.inl h)⟩
theorem CN{bv:Nat}{sl:Sl}{ps:List (Sl×List Int)}{yield:Value}{J:Nat->Pw}{K:Pw}(hn:ps.length<=65536)(hJ:∀j w',J j w'->w'.heap[bv]? = some (.cells [.slice sl.a sl.len sl.cap].toArray 111 (0,0))/\Rd w'.heap sl 1 (ps.map fun p=>p.1.v))(h0:J 0 w)
  (step:∀j w1 (hj:j < ps.length) (K':Bool->Pw),J j w1->(∀w',J (j+1) w'->K' true w')->aD pz true yield [.int .i64 ((ps.length - 1 - j:Nat):Int),.slice ps[ps.length - 1 - j].1.a ps[ps.length - 1 - j].1.len ps[ps.length - 1 - j].1.cap] [.one .bool] K' cc w1)
  (k:∀w',J ps.length w'->K w'):dg yield (A1 bv) w K:=by
 apply kK;obtain⟨g,r⟩:=hJ 0 w h0;have hl:sl.len=ps.length:=by have:=r.len;simp at this;exact this.symm
 refine⟨sl,Cell.ah g rfl,Ar.i64 (by omega) ⟨fun mm i w'=>∃j:Nat,i=(ps.length:Int) - 1 - j/\j<=ps.length/\mm=ps.length - j/\J j w',⟨ps.length,0,by omega,by omega,by omega,h0⟩,?_⟩⟩;rintro _ m0 i w1 ⟨j,rfl,hj,hm,Jj⟩;obtain⟨g1,r1⟩:=hJ j w1 Jj;refine If.dec (fun h=>?_) fun h=>?_
 .refine⟨sl,Cell.ah g1 rfl,Ix.cell r1 (by omega) (by omega) fun bb o v _ hv hc=>?_⟩;have e:((ps.length:Int) - 1 - j).toNat=ps.length - 1 - j:=by omega
  rw[e,List.getElem?_map,List.getElem?_eq_getElem (by omega)]at hv;simp only[Option.map_some,Option.some.injEq]at hv;subst hv;have e2:((ps.length:Int) - 1 - j)=((ps.length - 1 - j:Nat):Int):=by omega
  rw[e2];refine⟨_,hc,step j w1 (by omega) _ Jj fun w' J'=>If.not (If.yes (Ar.i64 (by omega) ⟨ps.length - (j+1),by omega,j+1,by omega,by omega,rfl,J'⟩))⟩
 .have:j=ps.length:=by omega
  subst this;exact k w1 Jj
end
end Go.Proofs.YtpjbalhhlaofmaaGreat
namespace Go.V
theorem gA{l:Nat}{rf:Loop}{st:LoopState}{p:Option Code}{w:Wd}:Ext (fun q=>q=l) w (bz l rf st p w):=gB.ext (o:= .loop { rf with state:=st,pending:=p }) rfl
theorem dX.lt{l:Nat}{rf:Loop}{st:LoopState}{p:Option Code}{w:Wd}(h:dX l rf st p w):l < w.heap.size:=by
 rcases Nat.lt_or_ge l w.heap.size with k | k
 .exact k
 .unfold dX at h;rw[Array.getElem?_eq_none k]at h;cases h
theorem dX.put{l:Nat}{rf:Loop}{st st':LoopState}{p p':Option Code}{w:Wd}(h:dX l rf st p w):dX l rf st' p' (bz l rf st' p' w):=World.putObj_heap_same h.lt
theorem mR{l:Nat}{rf:Loop}{st:LoopState}{p:Option Code}{w:Wd}:(bz l rf st p w).heap.size=w.heap.size:=by simp[bz,World.putObj]
theorem dX.ext{S:Nat->Prop}{l:Nat}{rf:Loop}{st:LoopState}{p:Option Code}{w w':Wd}(h:dX l rf st p w)(x:Ext S w w')(hS:¬ S l):dX l rf st p w':=by
 unfold dX;rw[x.aj l h.lt hS];exact h
theorem rV{dk:Nat}{w:Wd}:Ext (fun q=>q=dk) w (bQ dk w):=gB.ext (o:= .deferred none) rfl
theorem fS.lt{dk:Nat}{w:Wd}(h:fS dk w):dk < w.heap.size:=by
 rcases Nat.lt_or_ge dk w.heap.size with k | k
 .exact k
 .unfold fS at h;rw[Array.getElem?_eq_none k]at h;cases h
theorem fS.ext{S:Nat->Prop}{dk:Nat}{w w':Wd}(h:fS dk w)(x:Ext S w w')(hS:¬ S dk):fS dk w':=by
 unfold fS;rw[x.aj dk h.lt hS];exact h
theorem DR.facts{w w1:Wd}{rf:Loop}{dk l:Nat}(n:DR w rf dk l w1):Ext No w w1/\w1.heap.size=w.heap.size+2/\dX l rf .ready none w1/\fS dk w1:=by
 obtain⟨rfl,rfl,rfl⟩:=n;refine⟨⟨rfl,rfl,rfl,?_,fun b hb _=>?_⟩,?_,?_,?_⟩
 .show w.heap.size<=((w.heap.push _).push _).size;rw[Array.size_push,Array.size_push];omega
 .show((w.heap.push _).push _)[b]? = _;rw[gv _ _ _ (by rw[Array.size_push];omega),gv _ _ _ hb]
 .show((w.heap.push _).push _).size=_;rw[Array.size_push,Array.size_push]
 .show((w.heap.push _).push _)[w.heap.size+1]? = _;rw[Array.getElem?_push,if_pos (by rw[Array.size_push])]
 .show((w.heap.push _).push _)[w.heap.size]? = _;rw[gv _ _ _ (by rw[Array.size_push];omega),Array.getElem?_push,if_pos rfl]
theorem S_{w:Wd}{b off n:Nat}{zs vs:List Value}{T:TypeId}{K:Pw}(hb:w.heap[b]? = some (.cells zs.toArray T (0,0)))(hl:vs.length=n)(hz:off+n<=zs.length)(hv:∀v∈vs,aJ v=true)
  (k:∀w',w'.heap[b]? = some (.cells (setL zs off vs).toArray T (0,0))->Ext (·=b) w w'->w'.heap.size=w.heap.size->K w'):List.length (α:=Value) vs=n/\gT w (Addr.mk b off none) vs K:=by
 refine⟨hl,zs.toArray,T,(0,0),hb,rfl,by simp only[List.size_toArray];omega,.inr (.inr (Nat.le_refl _)),hv,fun w2 hw=>?_⟩;have Jk:gB w b (.cells (setL zs off vs).toArray T (0,0)) w2:=hw;exact k w2 (Jk.get hb) Jk.ext Jk.size
end Go.V
namespace Go.Proofs.YtpjbalhhlaofmaaGreat
open Go.V
section
variable {w:Wd} {T:Nat->Option Nat} {m:bJ} {M:Mm}
structure Wm(w w':Wd)(T T':Nat->Option Nat)(m m':bJ)(M M':Mm)(t:Int)(key val:List Int)(x:aL)(e:aF)(ps:List Rf):Prop where
 mem:bC w'.heap T' m' M'
 bm:m'.bm=m.bm
 tg:Tg w T T'
 ext:Ext (Ts T) w w'
 er:lD w'.heap x e
 ac7:e.key=key
 leaf:DB M'.f t e (key,val) ps
 h_:nR 1 0 e
 DT:kV M M' 5 [] ps
 aj:∀q,(x.k.aj=some q∨x.v.aj=some q)->w.heap.size<=q/\q < w'.heap.size/\T' q=none
set_option maxHeartbeats 4000000 in
theorem BD{t:Int}{ks vs:Sl}{key val:List Int}{K:Sl->Sl->Int->Int->Int->Int->Int->Int->Int->Int->Pw}(R:bC w.heap T m M)(hk:b_ w.heap ks key)(hv:b_ w.heap vs val)(k8:B8 key)(v8:B8 val)(kl:1<=key.length/\key.length<=32)(vl:val.length<=1024)(hn:M.aC.length<=1000000)
  (k:∀x e ps T' m' M' w',Wm w w' T T' m m' M M' t key val x e ps->K x.k x.v x.n x.ch.p x.ch.c x.ch.g x.cd.p x.cd.c x.cd.g 0 w'):fy (eY m) t ks vs w K:=by
 apply uB;have zS:=b_.len hk;have Nz:=b_.len hv
 have sup:∀q,w.heap.size<=q->T q=none:=fun q hq=>by
  cases h:T q with
  | none=>rfl
  | some t=>have:=R.sup q (by rw[h];simp);omega
 refine af.mk fun b w1 n1=>af.mk fun b1 w2 n2=>af.mk fun b2 w3 n3=>?_
 have hb:=n1.at_;have jk:=n2.at_;have jN:=n3.at_;have z1:=n1.size;have z2:=n2.size;have z3:=n3.size;have ib:Ext No w w3:=(n1.ext.no n2.ext).no n3.ext;have g3:=ad (ad n1.get n2.ext) n3.ext;have fN:=ad n2.get n3.ext;have DH:=n3.get;refine jX (Rd.no hk ib) (by omega) fun kS w4 kO x4=>?_
 refine aW (vs:=aL.cs ⟨kS,⟨none,0,0⟩,0,.z,.z⟩) rfl rfl (iP _) fun b3 w6 RK vB z6 x6=>?_
 have wq:Ext No w3 w6:=x4.no x6;have s4:=x4.size;have kO6:=kO.no x6;have kb:∀q,kS.aj=some q->w3.heap.size<=q/\q < w4.heap.size:=fun q hq=>kO.lt hq
 rw[Nz];refine If.dec (fun h64=>?_) fun h64=>?_
 .refine jX (Rd.no hv (ib.no wq)) (by omega) fun vS w7 vO x7=>aQ.mk (ad RK x7) (by simp[aL.cs]) rfl fun w8 h8=>?_
  have g8:w8.heap[b3]? = some (.cells (aL.cs ⟨kS,vS,0,.z,.z⟩).toArray 151 (0,0)):=h8.get (ad RK x7);have x8:Ext (·=b3) w7 w8:=h8.ext;have z8:w8.heap.size=w7.heap.size:=h8.size;have s7:=x7.size;have vb:∀q,vS.aj=some q->w6.heap.size<=q/\q < w7.heap.size:=fun q hq=>vO.lt hq
  refine eW g8 (cR (ag (ad fN (wq.no x7)) x8 (by omega)) rfl rfl (iP _) fun w9 g9 x9 z9=>?_);refine aQ.b1 (ag (ag (ad DH (wq.no x7)) x8 (by omega)) x9 (by omega)) rfl fun dV xW=>?_
  have dW:Ext (·=b2) w9 dV:=xW.ext;have Kv:dV.heap.size=w9.heap.size:=xW.size;refine eW (x:=⟨kS,vS,0,.z,.z⟩) (ag g9 dW (by omega)) ⟨_,Cell.ah (xW.get (ag (ag (ad DH (wq.no x7)) x8 (by omega)) x9 (by omega))) rfl,?_⟩;have sP:Ext (fun q=>q=b3∨q=b1∨q=b2) w7 dV:=((x8.mono fun _ _ h=> .inl h).trans x9 fun _ _ h=> .inr (.inl h)).trans dW fun _ _ h=> .inr (.inr h)
  have xf:Ext No w dV:=((ib.no wq).no x7).trans sP fun q hq h=>by omega
  refine k ⟨kS,vS,0,.z,.z⟩ ⟨key,val,0,.z,.z⟩ [] T m M dV ⟨R.no xf,rfl,fun _ _=>rfl,xf.aE,⟨?_,?_,rfl,rfl,rfl,k8,v8,⟨by show(-9223372036854775808:Int)<=0;decide,by show(0:Int)<=9223372036854775807;decide⟩,by show Rf.z.ok;decide,by show Rf.z.ok;decide⟩,rfl,⟨rfl,by simp⟩,?_,(kV.refl M).as (by omega) (by simp) (by simp),fun q hq=>?_⟩
  .exact(kO6.rd.no x7).ext sP fun a q ha hq h=>by have:=kb q (by simp[Sl.aj,ha,hq]);omega
  .exact vO.rd.ext sP fun a q ha hq h=>by have:=vb q (by simp[Sl.aj,ha,hq]);omega
  .exact⟨by unfold lX;rw[if_neg (by decide)];simp only;omega,by simp;omega⟩
  .have:=sP.size;rcases hq with hq | hq
   .have:=kb q hq;exact⟨by omega,by omega,sup q (by omega)⟩
   .have:=vb q hq;exact⟨by omega,by omega,sup q (by omega)⟩
 .refine Ql (Rd.no hv (ib.no wq)) vl fun sl ps di rsl Pc SG Nx IY gZ fH=>If.bne (fun h=>(h rfl).elim) fun _=>?_
  apply lS;refine af.mk fun bv cM NN=>?_
  intro rf dk lp dY jG IZ;obtain⟨sN,XI,ac8,ac9⟩:=jG.facts;have VS:=jG.d;have hlp:=jG.l;have RA:=NN.at_;have OR:=NN.size;have So:=fH.size;have Ta:Ext No w6 dY:=(fH.no NN.ext).no sN;have Ux:Ext No di dY:=NN.ext.no sN;have Wn:Ext No w dY:=(ib.no wq).no Ta;have Wo:Ext No w3 dY:=wq.no Ta
  let S:Nat->Prop:=fun q=>Ts T q∨q=b3∨q=lp
  have nS:∀{q},w.heap.size<=q->q≠b3->q≠lp->¬ S q:=fun {q} h1 h2 h3 h=>by
   rcases h with h | h | h
   .exact h (sup q h1)
   .exact h2 h
   .exact h3 h
  have hpn:ps.length<=5:=by omega
  have n8:∀p∈ps,B8 p.2:=fun p hp=>v8.sub fun y hy=>by rw[<- Nx];exact List.mem_flatten.2 ⟨p.2,List.mem_map.2 ⟨p,hp,rfl⟩,hy⟩
  let J:Nat->Pw:=fun j w'=>∃(M':Mm) (T':Nat->Option Nat) (m':bJ) (cs:List (Rf×List Int)) (r:Rf),bC w'.heap T' m' M'/\m'.bm=m.bm/\Tg dY T T'/\Ext S dY w'/\kV M M' j [] (cs.map Prod.fst)/\iD M'.f t r cs/\cs.map Prod.snd=(ps.drop (ps.length - j)).map Prod.snd/\j<=ps.length/\
   w'.heap[b3]? = some (.cells (aL.cs ⟨kS,⟨none,0,0⟩,0,r,.z⟩).toArray 151 (0,0))/\dX lp rf .ready none w'
  refine kL (c0:=A1 bv) (CN (J:=J) (sl:=sl) (ps:=ps) (by omega) (fun j w' hJ=>?_) ?_ (fun j w1' hj K' hJ hK'=>?_) fun w' hJ=>?_)
  .obtain⟨M',T',m',cs,r,_,_,_,xJ,_⟩:=hJ;refine⟨ag (ad NN.get sN) xJ (nS (by omega) (by omega) (by omega)),(rsl.no Ux).ext xJ fun a q ha hq=>?_⟩;have:=SG q (by simp[Sl.aj,ha,hq]);exact nS (by omega) (by omega) (by omega)
  .exact⟨M,T,m,[],.z,R.no Wn,rfl,fun _ _=>rfl,Ext.refl _ _,(kV.refl M),.nil,by simp,by omega,ad RK Ta,ac8⟩
  .obtain⟨M',T',m',cs,r,RJ,yz,Tb,xJ,cJ,X8,eJ,eO,gJ,Wp⟩:=hJ;have hi:ps.length - 1 - j < ps.length:=by omega
   have qE:cs.length=j:=by have:=congrArg List.length eJ;simp only[List.length_map,List.length_drop]at this;omega
   generalize Hk:bz lp rf .busy none w1'=Qm at *;have cF:=Wp.lt;have x2:Ext (fun q=>q=lp) w1' Qm:=Hk ▸ gA;have st2:dX lp rf .busy none Qm:=Hk ▸ Wp.put;have z2':Qm.heap.size=w1'.heap.size:=Hk ▸ mR;have nlp:T' lp=none:=by rw[Tb lp (by omega)];exact sup lp (by omega)
   have nb3:T' b3=none:=by rw[Tb b3 (by omega)];exact sup b3 (by omega)
   have R2:bC Qm.heap T' m' M':=RJ.ext x2 fun q hq=>by rw[hq];exact nlp
   have g2:=ag gJ x2 (by omega);have YW:=Pc _ (List.getElem_mem hi);have xJ2:Ext S dY Qm:=xJ.trans x2 fun _ _ h=> .inr (.inr h)
   have pr:b_ Qm.heap ps[ps.length - 1 - j].1 ps[ps.length - 1 - j].2:=(Rd.no YW.1 Ux).ext xJ2 fun a q ha hq=>by
    have:=YW.2 q (by simp[Sl.aj,ha,hq]);exact nS (by omega) (by omega) (by omega)
   have MI:=gZ _ hi;refine IZ _ ps[ps.length - 1 - j].1 w1' K' Wp ⟨Wp,?_⟩;rw[Hk];refine⟨_,Cell.ah g2 rfl,_,Cell.ah g2 rfl,_,Cell.ah g2 rfl,LY pr MI.1 MI.2.1 X8.ok fun tS w3' tO Iz=>If.bne (fun h=>(h rfl).elim) fun _=>?_⟩;have gb2:=ag (ad g3 Wo) xJ2 (nS (by omega) (by omega) (by omega));have h8p:B8 (zW ps[ps.length - 1 - j].2 r):=VK (n8 _ (List.getElem_mem hi));have aaj:M'.aC.length<=1048576:=by have:=cJ.len;omega
   have Qn:eY m=eY m':=by show Value.iface 47 (.pointer (some ⟨m.bm,0,none⟩))=Value.iface 47 (.pointer (some ⟨m'.bm,0,none⟩));rw[yz]
   rw[Qn]at gb2;refine⟨_,Cell.ah (ad gb2 Iz) rfl,_,Cell.ah (ad gb2 Iz) rfl,qV (ye (R2.no Iz) tO.rd h8p aaj (fun n T'' m'' w4' _ gU R4 FH Gf Ce=>?_) fun w4' bA _=>(bA (KF MI.2.1)).elim)⟩;have g4:=ag (ad g2 Iz) Ce (fun h=>h nb3);have afk:=xJ.size;have s3':=Iz.size;have s4':=Ce.size;refine S_ (off:=3) g4 rfl (by simp[aL.cs]) (by simp[aJ]) fun X9 g5 x5a z5'=>If.bne (fun h=>(h rfl).elim) fun _=>?_
   have LO:Ext (·=b3) w4' X9:=x5a;have g5:X9.heap[b3]? = _:=g5;have st5:dX lp rf .busy none X9:=((st2.ext Iz (fun h=>h)).ext Ce (fun h=>h nlp)).ext LO (by omega);refine⟨st5,hK' _ ?_⟩;have zY:Ext (fun q=>q=lp) X9 (bz lp rf .ready none X9):=gA;have hTs:∀q,q < dY.heap.size->Ts T' q->Ts T q:=fun q hq h=>by rw[show Ts T' q=(T' q≠none) from rfl,Tb q hq]at h;exact h
   have MJ:Ext S dY (bz lp rf .ready none X9):=(((xJ2.no Iz).trans Ce fun q hq h=> .inl (hTs q hq h)).trans LO fun q _ h=> .inr (.inl h)).trans zY fun q _ h=> .inr (.inr h)
   have MK:Tg dY T T'':=fun q hq=>by rw[Gf q (by have:=xJ2.size;omega),Tb q hq]
   have rW:=kV.put (M:=M') (n:=n) (t:=t) (k:=3) (v:=0) (pay:=zW ps[ps.length - 1 - j].2 r);have afl:=gU.lo;refine⟨zF M' n t 3 0 (zW ps[ps.length - 1 - j].2 r),T'',m'',(⟨n,M'.aG,M'.gen⟩,ps[ps.length - 1 - j].2)::cs,⟨n,M'.aG,M'.gen⟩,(R4.ext LO fun q hq=>?_).ext zY fun q hq=>?_,FH.trans yz,MK,MJ,?_,?_,?_,by omega,ag g5 zY (by omega),st5.put⟩
   .rw[hq,MK b3 (by omega)];exact sup b3 (by omega)
   .rw[hq,MK lp (by omega)];exact sup lp (by omega)
   .refine(cJ.trans rW).as (by omega) (by simp) fun q=>?_
    simp only[List.nil_append,List.map_cons,List.count_append,List.count_cons,List.count_nil];omega
   .refine .cons (fun h=>by have:=congrArg Rf.p h;simp only[Rf.z]at this;omega) ((KG R4 (pS gU)).2) (pS gU) MI.1 MI.2.1 (fun bA=>MI.2.2 ?_) (n8 _ (List.getElem_mem hi)) (X8.cv (rW.cv fun q _=> .inl (by simp)));have:cs.length≠0:=fun h=>bA (List.eq_nil_of_length_eq_zero h)
    omega
   .rw[List.map_cons,eJ,show ps.length - j=ps.length - 1 - j+1 by omega,show ps.length - (j+1)=ps.length - 1 - j by omega,List.drop_eq_getElem_cons hi,List.map_cons]
  .obtain⟨M',T',m',cs,r,RJ,yz,Tb,xJ,cJ,X8,eJ,eO,gJ,Wp⟩:=hJ;refine .inr ⟨Wp,?_⟩;generalize Hk:bz lp rf .exhausted none w'=Qm at *;have x2:Ext (fun q=>q=lp) w' Qm:=Hk ▸ gA;have z2':Qm.heap.size=w'.heap.size:=Hk ▸ mR;have cF:=Wp.lt;have sJ:=xJ.size;have nlp:T' lp=none:=by rw[Tb lp (by omega)];exact sup lp (by omega)
   have nb3:T' b3=none:=by rw[Tb b3 (by omega)];exact sup b3 (by omega)
   have qE:cs.length=ps.length:=by have:=congrArg List.length eJ;simp only[List.length_map,List.length_drop]at this;omega
   rw[Nat.sub_self,List.drop_zero]at eJ;have gX:=ag gJ x2 (by omega);refine aQ.mk gX (by simp[aL.cs]) rfl fun dH OW=>?_
   have wo:dH.heap[b3]? = some (.cells (aL.cs ⟨kS,⟨none,0,0⟩,val.length,r,.z⟩).toArray 151 (0,0)):=OW.get gX;have yl:Ext (·=b3) Qm dH:=OW.ext;have z25:dH.heap.size=Qm.heap.size:=OW.size;have Tc:Ext S dY dH:=(xJ.trans x2 fun _ _ h=> .inr (.inr h)).trans yl fun _ _ h=> .inr (.inl h)
   refine eW wo (cR (ag (ad fN Wo) Tc (nS (by omega) (by omega) (by omega))) rfl rfl (iP _) fun Bc JN sO z26=>?_);have g2b:=ag (ag (ad DH Wo) Tc (nS (by omega) (by omega) (by omega))) sO (by omega);refine aQ.b1 g2b rfl fun qB h27=>?_
   have K1:Ext (·=b2) Bc qB:=h27.ext;have z27:qB.heap.size=Bc.heap.size:=h27.size
   have d27:fS dk qB:=(((ac9.ext Tc (nS (by omega) (by omega) (by omega))).ext sO (by omega)).ext K1 (by omega))
   refine⟨d27,?_⟩;generalize ada:bQ dk qB=zU at *;have Ry:Ext (fun q=>q=dk) qB zU:=ada ▸ rV;have Qo:Ext (fun q=>q=b1∨q=b2∨q=dk) dH zU:=((sO.mono fun _ _ h=> .inl h).trans K1 fun _ _ h=> .inr (.inl h)).trans Ry fun _ _ h=> .inr (.inr h)
   have s28:=Qo.size;refine eW (x:=⟨kS,⟨none,0,0⟩,val.length,r,.z⟩) (ag (ag JN K1 (by omega)) Ry (by omega)) ⟨_,Cell.ah (ag (h27.get g2b) Ry (by omega)) rfl,?_⟩;have xf:Ext (fun q=>Ts T q∨q=b3∨q=lp∨q=b1∨q=b2∨q=dk) dY zU:=(Tc.mono fun q _ h=>h.imp id fun h=>h.imp id .inl).trans Qo fun q _ h=> .inr (.inr (.inr h))
   have adb:cs≠[]:=fun h=>by rw[h]at qE;simp at qE;omega
   have Wq:r ≠ .z:=by
    cases X8 with
    | nil=>exact(adb rfl).elim
    | cons hz=>exact hz
   have T7:KE cs=val:=by show(cs.map Prod.snd).flatten=val;rw[eJ,Nx]
   have tgn:∀q,w.heap.size<=q->q < dY.heap.size->T' q=none:=fun q h1 h2=>by rw[Tb q h2];exact sup q h1
   have Ue:=Wn.size;refine k ⟨kS,⟨none,0,0⟩,val.length,r,.z⟩ ⟨key,[],val.length,r,.z⟩ (cs.map Prod.fst) T' m' M' zU ⟨?_,yz,fun q hq=>Tb q (by omega),?_,⟨?_,Rd.nil _ _,rfl,rfl,rfl,k8,B8.nil,⟨by show(-9223372036854775808:Int)<=val.length;omega,by show(val.length:Int)<=9223372036854775807;omega⟩,X8.ok,by show Rf.z.ok;decide⟩,rfl,⟨rfl,?_⟩,?_,cJ.as (by omega) (by simp) (by simp),fun q hq=>?_⟩
   .refine(((RJ.ext x2 fun q hq=>by rw[hq];exact nlp).ext yl fun q hq=>by rw[hq];exact nb3)).ext Qo fun q hq=>?_
    exact tgn q (by omega) (by omega)
   .refine(Wn.aE).trans xf fun q hq h=>?_
    rcases h with h | h
    .exact h
    .omega
   .refine(kO6.rd.no Ta).ext xf fun a q ha hq h=>?_
    have:=kb q (by simp[Sl.aj,ha,hq]);rcases h with h | h
    .exact h (sup q (by omega))
    .omega
   .rw[if_neg (by simp only;omega)];exact⟨rfl,cs,X8,T7,rfl⟩
   .refine⟨by unfold lX;rw[if_neg (by decide)];simp only;omega,?_⟩;rw[if_neg (by decide),if_neg (by simp only;omega)];exact⟨rfl,by simp only;omega,by simp only;omega,Wq,rfl⟩
   .rcases hq with hq | hq
    .have:=kb q hq;have:=xf.size;exact⟨by omega,by omega,tgn q (by omega) (by omega)⟩
    .simp[Sl.aj]at hq
end
end Go.Proofs.YtpjbalhhlaofmaaGreat
namespace Go.V
def kof:Value->ByteArray
 | .string s=>s
 | _=>ByteArray.empty
theorem born_inj{l:List MapEntry}(hn:(l.map (·.born)).Nodup){e e':MapEntry}(h:e∈l)(h':e'∈l)(hb:e.born=e'.born):e=e':=by
 induction l with
 | nil=>cases h
 | cons x l ih=>
  simp only[List.map_cons,List.nodup_cons]at hn;rcases List.mem_cons.1 h with h1 | h1 <;> rcases List.mem_cons.1 h' with h2 | h2
  .rw[h1,h2]
  .exact absurd (List.mem_map.2 ⟨e',h2,by rw[<- hb,h1]⟩) hn.1
  .exact absurd (List.mem_map.2 ⟨e,h1,by rw[hb,h2]⟩) hn.1
  .exact ih hn.2 h1 h2
theorem mf{α β:Type}(f:α->β){l:List α}(h:(l.map f).Nodup):l.Nodup:=List.Pairwise.of_map f (fun a b h e=>h (by rw[e])) h
end Go.V
namespace Go.Proofs.YtpjbalhhlaofmaaGreat
open Go.V
section
variable {w:Wd}
theorem Wr:∃kt et,Tryz.prog.underlying 98=some (.map kt et)/\Tryz.prog.underlying kt=some .string:=⟨9,52,by kernel_rfl,by kernel_rfl⟩
theorem JQ{bc r:Nat}{m:List (ByteArray×Value)}{Inv:Nat->List ByteArray->Pw}{yield:Value}{K:Pw}
  (g:w.heap[bc]? = some (.cells [.map (some r)].toArray 98 (0,0))) (hm:uc w.heap Value.string r m) (h0:∀w',Ext No w w'->w'.heap.size=w.heap.size+1->Inv w.heap.size [] w')
  (hit:∀it ks w' gE,Inv it ks w'->Ext (·=it) w' gE->Inv it ks gE)
  (step:∀it ks k w' Kr,ks.length < m.length->it < w'.heap.size->Inv it ks w'->(∀gE,Inv it (ks++[k]) gE->gE.heap[it]? = w'.heap[it]?->gE.heap[r]? = w'.heap[r]?->Kr true gE)->aD pz true yield [.string k] [.one .bool] Kr cc w')
  (k:∀it ks w',ks.Perm (m.map Prod.fst)->Inv it ks w'->K w'):bF yield ⟨bc,0,none⟩ w K:=by
 apply eK;obtain⟨kt,et,ht,_⟩:=Wr;obtain⟨es,clock,hr,he,hB⟩:=hm;obtain⟨w1,Ba,jG⟩:=LP (P:=pz) ht hr;have qx:es.toList.length=m.length:=by have:=congrArg List.length he;simpa using this
 have ade:r < w.heap.size:=blt hr;have Rp:=jG.size;refine⟨some r,Cell.ah g rfl,some ⟨w.heap.size,0,none⟩,w1,Ba,?_⟩;refine⟨fun q w'=>∃seen:List MapEntry,q=es.toList.length - seen.length/\(∀e∈seen,e∈es.toList)/\(seen.map (·.born)).Nodup/\w'.heap[w.heap.size]? = some (.mapIter (some r) clock (seen.map (·.born)).toArray clock)/\w'.heap[r]? = some (.map es clock)/\Inv w.heap.size (seen.map fun e=>kof e.key) w',⟨_,[],rfl,by simp,by simp,jG.get,ad hr jG.ext,h0 w1 jG.ext jG.size⟩,?_⟩;rintro _ m0 w2 ⟨seen,hq,uC,uW,hi,hmr,hI⟩
 have aeR:seen.length<=es.toList.length:=by
  have h1:seen.Nodup:=mf _ uW;exact List.Nodup.length_le_of_subset h1 uC
 rcases OD (P:=pz) hi hmr hB with⟨dT,w',Qp,hx⟩ | ⟨e,hem,aak,w',Qp,iO,hx⟩
 .refine .inl ⟨w',Qp,k w.heap.size _ w' ?_ (hit _ _ _ _ hI (hx.aE))⟩
  have hp:seen.Perm es.toList:=(List.perm_ext_iff_of_nodup (mf _ uW) (mf _ hB.1)).2 fun x=>⟨uC x,fun GD=>by
   have:=dT x GD;simp only[List.mem_map]at this;obtain⟨y,hy,hb⟩:=this
   exact born_inj hB.1 (uC y hy) GD hb ▸ hy⟩
  have h2:es.toList.map (fun e=>kof e.key)=m.map Prod.fst:=by
   have:=congrArg (List.map fun p:Value×Value=>kof p.1) he;simpa[List.map_map,Function.comp_def,kof] using this
  rw[<- h2];exact hp.map _
 .have aal:w'.heap[r]? = some (.map es clock):=ag hmr hx (by omega)
  have jm:∃s,e.key = .string s:=by
   have:(e.key,e.val)∈es.toList.map (fun e=>(e.key,e.val)):=List.mem_map.2 ⟨e,hem,rfl⟩;rw[he]at this;obtain⟨p,_,hp⟩:=List.mem_map.1 this;exact⟨p.1,(congrArg Prod.fst hp).symm⟩
  obtain⟨ks,hks⟩:=jm
  have gZ:seen.length < es.toList.length:=by
   have h1:(e::seen).Nodup:=List.nodup_cons.2 ⟨fun h=>aak (by simpa using List.mem_map.2 ⟨e,h,rfl⟩),mf _ uW⟩
   have:=List.Nodup.length_le_of_subset h1 (l₂:=es.toList) fun x hx=>by
    rcases List.mem_cons.1 hx with h | h
    .rw[h];exact hem
    .exact uC x h
   simp only[List.length_cons]at this;omega
  refine .inr ⟨e.key,e.val,w',Qp,e.key,e.val,w',LQ iO aal hB hem,?_⟩;rw[hks];refine step _ _ ks w' _ (by rw[List.length_map];omega) (blt iO) (hit _ _ _ _ hI hx) fun gE Xw h1 h2=>If.not (If.yes ?_)
  refine⟨_,?_,seen++[e],rfl,fun x hx=>?_,?_,?_,by rw[h2];exact aal,by simpa[hks,kof] using Xw⟩
  .simp only[List.length_append,List.length_cons,List.length_nil];omega
  .rcases List.mem_append.1 hx with h | h
   .exact uC x h
   .rw[List.mem_singleton]at h;rw[h];exact hem
  .rw[List.map_append];refine List.nodup_append.2 ⟨uW,by simp,fun a ha b hb=>?_⟩;simp only[List.map_cons,List.map_nil,List.mem_singleton]at hb;intro Oq;exact aak (by rw[Oq,hb]at ha;simpa using ha)
  .rw[h1,iO];simp
theorem zM{bc r:Nat}{m:List (ByteArray×Value)}{K:Sl->Pw}(g:w.heap[bc]? = some (.cells [.map (some r)].toArray 98 (0,0)))(hm:uc w.heap Value.string r m)(hl:m.length<=65535)
  (k:∀s ks w',ks.Perm (m.map Prod.fst)->bf w'.heap w.heap.size 9 1 s (strs ks)->Ext No w w'->K s w'):cQ ⟨none,0,0⟩ (.func (.func 84) #[] #[.pointer (some ⟨bc,0,none⟩)]) w K:=by
 apply jv;refine af.mk fun b w1 n1=>?_
 have hb:=n1.at_;have z1:=n1.size;intro rf dk lp w2 jG JR;obtain⟨fJ,z2,hrf,hdf⟩:=jG.facts;have hlp:lp=w1.heap.size+1:=jG.l;have VS:dk=w1.heap.size:=jG.d;have jA:Ext No w w2:=n1.ext.no fJ;have g2:=ad g jA;have gb2:=ad n1.get fJ;have hm2:=hm.ext jA fun h=>h
 have ade:r < w.heap.size:=by obtain⟨es,c,h,_⟩:=hm;exact blt h
 refine eM (JQ (Inv:=fun it ks w'=>dX lp rf .ready none w'/\fS dk w'/\Ext No w w'/\∃s:Sl,w'.heap[b]? = some (.cells [.slice s.a s.len s.cap].toArray 100 (0,0))/\bf w'.heap (it+1) 9 1 s (strs ks)/\it=w2.heap.size) g2 hm2 (fun w' x' z'=>⟨hrf.ext x' fun h=>h,hdf.ext x' fun h=>h,jA.no x',⟨none,0,0⟩,ad gb2 x',bf.nil _ _ _ _,rfl⟩) ?_ ?_ ?_)
 .rintro it ks w' gE ⟨h1,h2,h3,s,h4,h5,rfl⟩ x;exact⟨h1.ext x (by omega),h2.ext x (by omega),h3.trans x fun q hq h=>by have:=jA.size;omega,s,ag h4 x (by omega),h5.ext x fun q hq h=>by have:=h5.lt hq;omega,rfl⟩
 .rintro it ks y w' Kr hks cF ⟨h1,h2,h3,s,h4,h5,rfl⟩ hk;have hle:=h3.size;have slt:∀q,s.aj=some q->w2.heap.size+1<=q/\q < w'.heap.size:=fun q hq=>h5.lt hq
  have xb:Ext (·=lp) w' (bz lp rf .busy none w'):=gA;have zb:(bz lp rf .busy none w').heap.size=w'.heap.size:=mR;refine JR y w' Kr h1 ⟨h1,s,Cell.ah (ag h4 xb (by omega)) rfl,af.mk fun b1 w4 n4=>?_⟩;have jk:=n4.at_;have z4:=n4.size;have x4:Ext (·=lp) w' w4:=xb.no n4.ext;have o4:=h5.ext x4 fun q hq h=>by have:=slt q hq;omega
  have g4:=ag h4 x4 (by omega);have LN:=o4.len;simp only[List.length_map,Nat.mul_one]at LN;have oy:bf w4.heap (bz lp rf .busy none w').heap.size 9 1 ⟨some ⟨b1,0,none⟩,1,1⟩ [.string y]:=bf.new n4 rfl (by simp[aJ]);refine Ji o4 (by omega) oy.rd.src (by show(s.len+1) * 16<=_;omega) fun s1 w5 o5 l5 x5 oQ=>?_
  have z5:=x5.size;have ML:Ext (fun q=>s.aj=some q) w4 w5:=x5;have g5:=ag g4 ML fun h=>by have:=slt b h;omega
  refine aQ.mk g5 (by simp) rfl fun w6 h6=>?_
  have zY:Ext (·=b) w5 w6:=h6.ext;have z6:=zY.size;have KC:Ext (fun q=>q=lp∨s.aj=some q∨q=b) w' w6:=((x4.mono fun _ _ h=> .inl h).trans ML fun _ _ h=> .inr (.inl h)).trans zY fun _ _ h=> .inr (.inr h)
  have aam:dX lp rf .busy none w6:=by
   have ha:dX lp rf .busy none (bz lp rf .busy none w'):=h1.put;exact(((ha.ext n4.ext fun h=>h).ext ML fun h=>by have:=slt lp h;omega).ext zY (by omega))
  have x6r:Ext (·=lp) w6 (bz lp rf .ready none w6):=gA;have MJ:Ext (fun q=>q=lp∨s.aj=some q∨q=b) w' (bz lp rf .ready none w6):=KC.trans x6r fun _ _ h=> .inl h
  have s1b:∀q,s1.aj=some q->w2.heap.size+1<=q:=fun q hq=>(o5.lt hq).1
  refine⟨aam,hk _ ⟨aam.put,h2.ext MJ fun h=>?_,h3.trans MJ fun q hq h=>?_,s1,ag (h6.get g5) x6r (by omega),?_,rfl⟩ (MJ.aj _ cF fun h=>?_) (MJ.aj _ (by omega) fun h=>?_)⟩
  .rcases h with h | h | h
   .omega
   .have:=slt dk h;omega
   .omega
  .rcases h with h | h | h
   .omega
   .have:=slt q h;omega
   .omega
  .have o6:=((o5.ext zY fun q hq h=>by have:=s1b q hq;omega).ext x6r fun q hq h=>by have:=s1b q hq;omega)
   rw[show strs (ks++[y])=strs ks++[Value.string y] by simp];exact o6
  .rcases h with h | h | h
   .omega
   .have:=slt _ h;omega
   .omega
  .rcases h with h | h | h
   .omega
   .have:=slt _ h;omega
   .omega
 .rintro it ks w' hp ⟨h1,h2,h3,s,h4,h5,rfl⟩;have xp:Ext (·=lp) w' (bz lp rf .exhausted none w'):=gA;have xd:Ext (·=dk) (bz lp rf .exhausted none w') (bQ dk (bz lp rf .exhausted none w')):=rV;refine⟨h1,s,Cell.ah (ag h4 xp (by omega)) rfl,h2.ext xp (by omega),k s ks _ hp ?_ ?_⟩
  .exact(((h5.mono (by omega)).ext xp fun q hq h=>by have:=h5.lt hq;omega).ext xd fun q hq h=>by have:=h5.lt hq;omega)
  .exact(h3.trans xp fun q hq h=>by omega).trans xd fun q hq h=>by omega
end
end Go.Proofs.YtpjbalhhlaofmaaGreat
namespace Go.V
theorem vZ(k:List Int)(o:Option (List Int)):jo k o []=(o.map fun v=>(k,v)).toList:=by simp[jo,kvLo,kvHi]
theorem Qq(k:List Int)(o:Option (List Int))(v:List Int):jo k o [(k,v)]=(o.map fun v=>(k,v)).toList:=by
 have h:decide (bM k k)=false:=decide_eq_false fun h=>h.irrefl
 simp[jo,kvLo,kvHi,h]
theorem HW{f:bR}{t:Int}{e:aF}{kv:KV}{ps:List Rf}{i:Int}(h:DB f t e kv ps)(he:nR 1 i e):∃cs,iD f t e.ch cs/\cs.map Prod.fst=ps/\cs.length<=5:=by
 have h2:=he.2;rw[if_neg (by decide)]at h2;obtain⟨_,h2⟩:=h2;have h3:=h.2;split at h3
 .rename_i h0;rw[if_pos h0]at h2;refine⟨[],?_,by rw[h3.2];rfl,by simp⟩;rw[h2.1];exact .nil
 .rename_i h0;rw[if_neg h0]at h2;obtain⟨hn,cs,hc,T7,Pc⟩:=h3;obtain⟨_,c2,_⟩:=Go.Proofs.YtpjbalhhlaofmaaGreat.yo hc;refine⟨cs,hc,Pc,?_⟩;rw[T7]at c2;omega
structure CO(w:Wd)(T:Nat->Option Nat)(oK oV:Sl)(key val:List Int):Prop where
 kR:Rd w.heap oK 1 (key.map (Value.int .u8))
 vR:Rd w.heap oV 1 (val.map (Value.int .u8))
 k8:B8 key
 v8:B8 val
 kl:1<=key.length/\key.length<=32
 vl:val.length<=1024
 ku:key≠[]->∀q,oK.aj=some q->T q=none
 vu:val≠[]->∀q,oV.aj=some q->T q=none
theorem Rd.HX{S:Nat->Prop}{w w':Wd}{s:Sl}{l:List Int}(h:Rd w.heap s 1 (l.map (Value.int .u8)))(x:Ext S w w')(hS:l≠[]->∀q,q < w.heap.size->s.aj=some q->¬ S q):Rd w'.heap s 1 (l.map (Value.int .u8)):=by
 rcases Classical.em (l=[]) with h2 | h2
 .rw[h2]at h ⊢;exact⟨h.len,h.cap,fun h=>(h rfl).elim,h.cells⟩
 .refine h.ext x fun a q ha hq=>?_
  have h1:s.aj=some q:=by simp[Sl.aj,ha,hq]
  exact hS h2 q (h.lt (by simpa using h2) h1) h1
theorem CO.ext{S:Nat->Prop}{w w':Wd}{T:Nat->Option Nat}{oK oV:Sl}{key val:List Int}(o:CO w T oK oV key val)(x:Ext S w w')(hS:∀q,q < w.heap.size->S q->T q≠none):CO w' T oK oV key val:=
 ⟨o.kR.HX x fun hn q hl hq h=>hS q hl h (o.ku hn q hq),o.vR.HX x fun hn q hl hq h=>hS q hl h (o.vu hn q hq),o.k8,o.v8,o.kl,o.vl,o.ku,o.vu⟩
abbrev ID(d:Bool)(val:List Int):Option (List Int):=if d then none else some val
structure aan(base:Nat)(w w':Wd)(T T':Nat->Option Nat)(m m':bJ)(M M':Mm)(t:Int)(lev:Nat)(HY:List KV)(ps dG:List Rf)(sl:Sl)(ls:List nA):Prop where
 mem:bC w'.heap T' m' M'
 bm:m'.bm=m.bm
 tg:Tg w T T'
 ext:Ext (fun q=>Ts T q∨base<=q) w w'
 lm:cX w'.heap (fun q=>base<=q/\T' q=none) (aN lev) lev sl ls
 lp:jr M'.f t lev (bn ls) HY dG
 DT:kV M M' (5+2 * lev) ps dG
theorem K2(lev:Nat):(if ((lev:Nat):Int)=0 then(1:Int) else 2)=aN lev:=by
 unfold aN;split <;> split <;> omega
theorem bC.mS{h:Array Obj}{T:Nat->Option Nat}{m:bJ}{M:Mm}(R:bC h T m M){q:Nat}(hq:h.size<=q):T q=none:=by
 cases e:T q with
 | none=>rfl
 | some t=>have:=R.sup q (by rw[e];simp);omega
end Go.V
namespace Go.Proofs.YtpjbalhhlaofmaaGreat
open Go.V
def FI(t:Int)(lev:Nat):Prop:=∀{w:Wd}{T:Nat->Option Nat}{m:bJ}{M:Mm}{r:Rf}{kvs:List KV}{ps:List Rf}{oK oV:Sl}{key val:List Int}{d:Bool}{K:Sl->Int->Pw},bC w.heap T m M->bq M.f t lev r kvs ps->Sub ps M->CO w T oK oV key val->M.aC.length<=1000000->
 (∀sl ls dG T' m' M' w',aan w.heap.size w w' T T' m m' M M' t lev (jo key (ID d val) kvs) ps dG sl ls->K sl 0 w')->fA (eY m) t r.p r.c r.g lev oK oV d w K
def HZ(t:Int)(lev:Nat):Prop:=∀{w:Wd}{T:Nat->Option Nat}{m:bJ}{M:Mm}{base:Nat}{s:Sl}{L:List (aL×aF)}{kvs:List KV}{ps:List Rf}{oK oV:Sl}{key val:List Int}{d:Bool}{K:Sl->Int->Pw},bC w.heap T m M->ki w.heap (fun q=>base<=q/\T q=none) s L->base<=w.heap.size->
 aH 2 ((lev+1:Nat):Int) (ents L)->(wr 2 ((lev+1:Nat):Int) (ents L)).length<=224->qD (ents L)->2<=L.length->aM (bq M.f t lev) (ents L) kvs ps->Sub ps M->CO w T oK oV key val->M.aC.length<=1000000->
 (∀sl ls dG T' m' M' w',aan base w w' T T' m m' M M' t (lev+1) (jo key (ID d val) kvs) ps dG sl ls->K sl 0 w')->gI (eY m) t 2 ((lev+1:Nat):Int) s oK oV d w K
section
variable {w:Wd} {T:Nat->Option Nat} {m:bJ} {M:Mm}
set_option maxHeartbeats 4000000 in
theorem BE{t:Int}:∀{lev:Nat},(∀l',lev=l'+1->HZ t l')->FI t lev:=by
 intro lev hbr w T m M r kvs ps oK oV key val d K R hT hs ho hn k;apply tH;obtain⟨l,dG,hN,bA,h2,hB,rfl⟩:=hT.open_;have sup:∀q,w.heap.size<=q->T q=none:=fun q hq=>R.mS hq
 refine af.mk fun b w1 n1=>af.mk fun b1 w2 n2=>af.mk fun b2 w3 n3=>?_
 have hb:=n1.at_;have jk:=n2.at_;have jN:=n3.at_;have z1:=n1.size;have z2:=n2.size;have z3:=n3.size;have ib:Ext No w w3:=(n1.ext.no n2.ext).no n3.ext;have g3:=ad (ad n1.get n2.ext) n3.ext;have fN:=ad n2.get n3.ext;have DH:=n3.get;refine⟨_,Cell.ah g3 rfl,_,Cell.ah g3 rfl,_,Cell.ah fN rfl,_,Cell.ah fN rfl,_,Cell.ah fN rfl,_,Cell.ah fN rfl,?_⟩;have zS:bE ((lev:Nat):Int)=aN lev:=K2 lev;refine vL (R.no ib) (by rw[zS];exact hN) bA fun s L w4 oL eL x4=>af.mk fun b3 w5 n5=>um n5.get rfl fun w6 g6 x6 z6=>If.bne (fun h=>(h rfl).elim) fun _=>?_
 have vB:=n5.at_;have z5:=n5.size;have s4:=x4.size;have KC:Ext No w4 w6:=n5.ext.trans x6 fun q hq h=>by omega
 have wq:Ext No w3 w6:=x4.no KC;have AP:Ext No w w6:=ib.no wq;have oL6:ic w6.heap w3.heap.size s L:=oL.no KC;have slt:∀q,s.aj=some q->q < b3:=fun q hq=>by have:=oL.own.lt hq;omega
 have hsr:=hs.mem (q:=r) List.mem_cons_self;obtain⟨d0,dc⟩:=kV.drop R.Bj hsr;refine⟨_,Cell.ah (ad g3 wq) rfl,_,Cell.ah (ad fN wq) rfl,_,Cell.ah (ad fN wq) rfl,_,Cell.ah (ad fN wq) rfl,lC (pO (r:=r) (R.no AP) fun w7 R7 x7=>?_)⟩;rw[d0];generalize hM1:(kQ M r).2=M1 at *;have nT:∀q,w.heap.size<=q->¬ Ts T q:=fun q hq h=>h (sup q hq)
 have g7:=ag (ad g3 wq) x7 (nT b (by omega));have fc:=ag (ad fN wq) x7 (nT b1 (by omega));have Up:=ag (ad DH wq) x7 (nT b2 (by omega));have Td:=ag g6 x7 (nT b3 (by omega));have ub:Ext (Ts T) w w7:=AP.aE.trans x7 fun _ _ h=>h
 have ho7:CO w7 T oK oV key val:=ho.ext ub fun q _ h=>h
 have s7:=ub.size
 have Bq:∀{q},w.heap.size<=q->(w.heap.size<=q/\T q=none):=fun h=>⟨h,sup _ h⟩
 have nd7:ki w7.heap (fun q=>w.heap.size<=q/\T q=none) s L:=(oL6.q fun q h _=>Bq (by omega)).ext x7 fun q hq _ h=>h hq.2
 have DU:Sub dG M1:=Sub.DT (a:=[r]) hs dc fun q=>Nat.le_refl _
 have Ny:∀q∈dG,q ∉ [r]:=fun q hq h=>Sub.apart (a:=[r]) R.Bj hs h hq
 have hB1:Body M1.f t lev l kvs dG:=hB.cv (dc.cv fun q hq=> .inl (Ny q hq));have IY:=fZ hN.short;have hL:=mP eL;have Ca:qD l:=hN.ok;have aao:M1.aC.length<=1000000:=by have:=dc.len;omega
 refine If.bne (fun h=>(h rfl).elim) fun _=>⟨_,Cell.ah fc rfl,If.dec (fun tv=>?_) fun tv=>?_⟩
 .-- an inner node
  obtain⟨l',rfl⟩ : ∃l',lev=l'+1:=⟨lev - 1,by omega⟩
  have e2:bE (((l'+1:Nat)):Int)=2:=by rw[zS];exact if_neg (by omega)
  rw[e2]at Td;refine⟨_,Cell.ah g7 rfl,_,Cell.ah g7 rfl,mY Td ⟨_,Cell.ah Up rfl,_,Cell.ah Up rfl,_,Cell.ah Up rfl,?_⟩⟩;have hN2:aH 2 ((l'+1:Nat):Int) (ents L):=by rw[eL];exact hN.right
  refine hbr l' rfl R7 nd7 (by omega) hN2 (by rw[eL];exact hN.short) (by rw[eL];exact Ca) (by rw[hL];exact h2 (by omega)) (by rw[eL];exact hB1) DU ho7 aao fun sl ls adf T' m' M' w8 A=>k sl ls adf T' m' M' w8 ⟨A.mem,A.bm,fun q hq=>A.tg q (by omega),?_,A.lm,A.lp,?_⟩
  .exact(ub.mono fun _ _ h=> .inl h).trans A.ext fun q _ h=>h
  .refine(dc.trans A.DT).as (by omega) (by simp) fun q=>?_
   simp only[List.count_append,List.count_cons,List.count_nil];omega
 .-- a leaf
  have h0:lev=0:=by omega
  subst h0;have e1:bE (((0:Nat)):Int)=1:=rfl;rw[e1]at Td;have hLf:cG M1.f t l kvs dG:=hB1;have hri:jM l:=e_.1 hN.right.ord;have MM:uo l:=aH.lef (lev:=0) hN.right;refine mY Td ⟨_,Cell.ah Up rfl,find_spec nd7.nd ho7.kR ho.k8 (by omega) fun i fd w9 hf x9=>?_⟩;rw[eL]at hf;obtain⟨f1,f2,f3⟩:=PD hf hri;have afm:=hf.le;have R9:=R7.no x9;have g9:=ad g7 x9;have g29:=ad Up x9;have g39:=ad Td x9;have RD:ki w9.heap (fun q=>w.heap.size<=q/\T q=none/\q≠b3) s L:=(((oL.q (B:=fun q=>w.heap.size<=q/\T q=none/\q≠b3) fun q h h'=>⟨by omega,sup q (by omega),by omega⟩).ext (n5.ext.aE.trans (S:=fun q=>q=b3) x6 fun _ _ h=>h) fun q hq _ h=>hq.2.2 h).ext x7 fun q hq _ h=>h hq.2.1).no x9;have JO:Ext (Ts T) w w9:=ub.no x9;have ho9:CO w9 T oK oV key val:=ho.ext JO fun q _ h=>h
  have s9:=JO.size
  -- the list abU the key
  have spl:∃ka km kb pa pm pb,cG M1.f t (l.take i) ka pa/\cG M1.f t (l.drop (if fd then i+1 else i)) kb pb/\kvs=ka++(km++kb)/\dG=pa++(pm++pb)/\jo key (ID d val) km=((ID d val).map fun v=>(key,v)).toList/\(fd=true->∃(hi:i < l.length) (kv:KV),DB M1.f t l[i] kv pm)/\(fd=false->pm=[]):=by
   cases fd with
   | false=>
    have e:l=l.take i++l.drop i:=(List.take_append_drop i l).symm;have h:=hLf;rw[e]at h;obtain⟨ka,kb,pa,pb,a1,a2,a3,a4⟩:=h.split;exact⟨ka,[],kb,pa,[],pb,a1,by simpa using a2,by simpa using a3,by simpa using a4,vZ _ _,fun h=>absurd h (by decide),fun _=>rfl⟩
   | true=>
    have hi:=f3 rfl
    have e:l=l.take i++([l[i]]++l.drop (i+1)):=by
     conv=>lhs;rw[<- List.take_append_drop i l,List.drop_eq_getElem_cons hi]
     rfl
    have h:=hLf;rw[e]at h;obtain⟨ka,k2,pa,p2,a1,a2,rfl,rfl⟩:=h.split;obtain⟨km,kb,pm,pb,b1',b2',rfl,rfl⟩:=a2.split
    cases b1' with
    | @cons _ _ kv afn p ps0 he Qr=>
     cases Qr
     refine⟨ka,[kv],kb,pa,p,pb,a1,by simpa using b2',by simp,by simp,?_,fun _=>⟨hi,kv,he⟩,fun h=>absurd h (by decide)⟩;have hk:kv.1=key:=by rw[<- he.1];exact(hf.eq.1 rfl).2
     obtain⟨kv1,kv2⟩:=kv;simp only at hk;subst hk;exact Qq _ _ _
  obtain⟨ka,km,kb,pa,pm,pb,sa,sb,rfl,rfl,hkm,hfd,adg⟩:=spl;have Mn:∀x∈ka,bM x.1 key:=fun x hx=>by obtain⟨e,he,h⟩:=sa.mem hx;rw[<- h];exact f1 e he
  have hkb:∀x∈kb,bM key x.1:=fun x hx=>by obtain⟨e,he,h⟩:=sb.mem hx;rw[<- h];exact f2 e he
  have hop:jo key (ID d val) (ka++(km++kb))=ka++(((ID d val).map fun v=>(key,v)).toList++kb):=by rw[vN Mn hkb,hkm]
  have hsm:Sub pm M1:=Sub.left (Sub.right DU);have aap:¬ s.aj=some b3:=fun h=>by have:=slt b3 h;omega
  have Ws:∀q,q < b3->w3.heap.size > q->¬ s.aj=some q:=fun q _ h2 h=>by have:=oL.own.lt h;omega
  have tB:∀{q},s.aj=some q->T q=none:=fun h=>(nd7.sb _ h).2
  have sw:∀{q},s.aj=some q->w.heap.size<=q:=fun h=>(nd7.sb _ h).1
  refine⟨fun w'=>∃(M2:Mm) (s2:Sl) (L2:List (aL×aF)),bC w'.heap T m M2/\Ext (fun q=>Ts T q∨s.aj=some q∨q=b3) w9 w'/\qn w'.heap b3 1 0 s2/\ki w'.heap (fun q=>w.heap.size<=q/\T q=none/\q≠b3) s2 L2/\ents L2=l.take i++l.drop (if fd then i+1 else i)/\s2.aj=s.aj/\kV M1 M2 0 pm [],If.cases (fun SJ=>?_) (fun SJ=>?_),?_⟩
  .subst SJ;obtain⟨hi,kv,hE⟩:=hfd rfl;have KL:i < L.length:=by omega
   have hLi:L[i].2=l[i]:=by
    have:=congrArg (fun l=>l[i]?) eL;simp only[List.getElem?_map,List.getElem?_eq_getElem KL,List.getElem?_eq_getElem hi,Option.map_some,Option.some.injEq]at this;exact this
   have nl9:=RD.nd.len;obtain⟨cs,Lq,aaq,qE⟩:=HW hE (MM.h_ _ (List.getElem_mem hi));refine⟨Ext (Ts T) w9,(Ext.refl _ _).drew,_,ae.dI (Cell.ah g9 rfl) (nT b (by omega)),_,ae.dI (Cell.ah g9 rfl) (nT b (by omega)),s,ae.dI (Cell.ah g39 rfl) (nT b3 (by omega)),Ix.elem RD.nd.rd (bO L) (by decide) (by omega) (by omega) fun bb o Jr zR hc=>?_⟩;have zV:¬ Ts T bb:=fun h=>h (tB zR)
   simp only[Int.toNat_natCast]at Jr hc;refine⟨_,ae.dI (hc 0 _ rfl) zV,_,ae.dI (hc 1 _ rfl) zV,_,ae.dI (hc 2 _ rfl) zV,_,ae.dI (hc 3 _ rfl) zV,_,ae.dI (hc 4 _ rfl) zV,_,ae.dI (hc 5 _ rfl) zV,_,ae.dI (hc 6 _ rfl) zV,_,ae.dI (hc 7 _ rfl) zV,_,ae.dI (hc 8 _ rfl) zV,?_⟩;have er:=RD.nd.get Jr;rw[hLi]at er
   refine HV (w:=aa w9) R9 er.ch Lq qE (by rw[aaq];exact hsm) fun M2 dV R10 c10 dW=>⟨dW.ar,If.bne (fun h=>(h rfl).elim) fun _=>?_⟩
   rw[aaq]at c10;have sS:Ext (Ts T) w9 dV:=dW.ar;have Te:=ag g39 sS (nT b3 (by omega));have VO:ki dV.heap (fun q=>w.heap.size<=q/\T q=none/\q≠b3) s L:=RD.ext sS fun q hq _ h=>h hq.2.1
   refine⟨s,Cell.ah Te rfl,Ar.i64 (by omega) (yw VO (by omega) (by simpa using KL) (by omega) fun s' di adh tZ fH=>?_)⟩;have Tf:=ag Te fH aap;refine aQ.mk Tf (by simp) rfl fun eN PJ=>?_
   have fJ:Ext (·=b3) di eN:=PJ.ext;have xx:Ext (fun q=>s.aj=some q∨q=b3) dV eN:=(fH.mono fun _ _ h=> .inl h).trans fJ fun _ _ h=> .inr h
   refine⟨M2,s',L.take i++L.drop (i+1),R10.ext xx fun q hq=>?_,(sS.mono fun _ _ h=> .inl h).trans xx fun _ _ h=> .inr h,PJ.get Tf,?_,?_,tZ,c10⟩
   .rcases hq with h | h
    .exact tB h
    .rw[h];exact sup b3 (by omega)
   .exact adh.ext fJ fun q hq _ h=>hq.2.2 h
   .show(L.take i++L.drop (i+1)).map Prod.snd=_;rw[List.map_append,List.map_take,List.map_drop,show L.map Prod.snd=l from eL,if_pos rfl]
  .subst SJ;refine⟨M1,s,L,R9,Ext.refl _ _,g39,RD,?_,rfl,?_⟩
   .rw[eL,if_neg (by decide),List.take_append_drop]
   .rw[adg rfl];exact kV.refl M1
  rintro _ cO ⟨M2,s2,L2,R13,ew,Wt,Wu,Uy,Jo,c2⟩;have s13:=ew.size;have afo:=blt Wt
  have nX:∀q,w.heap.size<=q->q < w3.heap.size->¬ (Ts T q∨s.aj=some q∨q=b3):=fun q h1 h2 h=>by
   rcases h with h | h | h
   .exact nT q h1 h
   .have:=oL.own.lt h;omega
   .omega
  have aar:=ag g9 ew (nX b (by omega) (by omega));have Wv:=ag g29 ew (nX b2 (by omega) (by omega))
  have BF:Ext (Ts T) w cO:=JO.trans ew fun q hq h=>by
   rcases h with h | h | h
   .exact h
   .have:=sw h;omega
   .omega
  have aas:CO cO T oK oV key val:=ho.ext BF fun q _ h=>h
  have K3:M2.aC.length<=1000000:=by have:=c2.len;omega
  have afp:∀{a b:List Rf},Sub (a++b) M1->(∀q∈pm,q∈a)->∀q∈b,q ∉ pm:=fun h h1 q hq h2=>Sub.apart R7.Bj h (h1 q h2) hq
  have kpa:iS M1.f M2.f pa:=c2.cv fun q hq=> .inl fun h=>by
   have h3:Sub (pa++(pm++pb)) M1:=DU;exact Sub.apart R7.Bj h3 hq (List.mem_append_left _ h)
  have kpb:iS M1.f M2.f pb:=c2.cv fun q hq=> .inl fun h=>Sub.apart (a:=pm) R7.Bj (Sub.right DU) h hq
  have sa2:=sa.cv kpa;have sb2:=sb.cv kpb;have adi:L2.length=i+(l.drop (if fd then i+1 else i)).length:=by have:=congrArg List.length Uy;simp only[List.length_map,List.length_append,List.length_take]at this;omega
  have hdl:(l.drop (if fd then i+1 else i)).length<=l.length - i:=by rw[List.length_drop];split <;> omega
  have Uz:uo (l.take i++l.drop (if fd then i+1 else i)):=by
   cases fd with
   | false=>simpa using MM
   | true=>
    have hi:=f3 rfl;refine uo.sub (b:=[l[i]]) ?_
    have e:l.take i++([l[i]]++l.drop (if true then i+1 else i))=l:=by
     rw[if_pos rfl]
     conv=>rhs;rw[<- List.take_append_drop i l,List.drop_eq_getElem_cons hi]
     rfl
    rw[e];exact MM
  have Qs:qD (l.take i++l.drop (if fd then i+1 else i)):=Ca.take.append fun e he=>Ca e (List.mem_of_mem_drop he)
  have adj:szL 1 (l.take i++l.drop (if fd then i+1 else i))<=szL 1 l:=by
   rw[du];have h1:=sf 1 l i
   have h2:szL 1 (l.drop (if fd then i+1 else i))<=szL 1 (l.drop i):=by
    split
    .have:=sf 1 (l.drop i) 1;rw[List.drop_drop]at this;omega
    .exact Nat.le_refl _
   omega
  have Kt:=hN.short;rw[eZ]at Kt;have afq:3+szL 1 l<=224:=Kt;generalize Hy:l.drop (if fd then i+1 else i)=lr at *
  have aat:∀{M':Mm}{ns:List Rf},kV M2 M' 5 [] ns->kV M M' (5+2 * 0) (r::(pa++(pm++pb))) (pa++(ns++pb)):=fun {M' ns} c=>by
   refine((dc.trans c2).trans c).as (by omega) (fun q hq=>?_) fun q=>?_
   .simp only[List.append_nil,List.singleton_append,List.mem_cons,List.mem_append]at hq ⊢;rcases hq with h | h
    .exact .inl h
    .exact .inr (.inr (.inl h))
   .simp only[List.count_append,List.count_cons,List.count_nil];omega
  refine⟨d,Cell.ah Wv rfl,?_⟩;rw[hop]at k
  cases d with
  | true=>
   refine If.not (If.yes (mY Wt ?_));have adk:ents L2≠[]->aH 1 0 (ents L2):=fun _=>by rw[Uy];exact Uz.right
   refine uu (B:=fun q=>w.heap.size<=q/\T q=none) (Wu.mono fun q _ h=>⟨h.1,h.2.1⟩) (fun q hq=>Bq (by omega)) adk (by omega) (fun hb=>?_) fun ls sl cM lm lp fI=>?_
   .rw[eZ,Uy]at hb;omega
   .rw[Uy]at lp;refine k sl ls (pa++([]++pb)) T m M2 cM ⟨R13.no fI,rfl,fun _ _=>rfl,((BF.no fI).mono fun _ _ h=> .inl h),lm,gR.KO (lev:=0) lp Qs (show cG M2.f t (l.take i++lr) (ka++([]++kb)) (pa++([]++pb)) from cG.append sa2 sb2),aat ((kV.refl M2).as (by omega) (by simp) (by simp))⟩
  | false=>
   refine If.not (If.no ⟨_,Cell.ah aar rfl,_,Cell.ah aar rfl,_,Cell.ah Wv rfl,_,Cell.ah Wv rfl,?_⟩);refine BD R13 aas.kR aas.vR ho.k8 ho.v8 ho.kl ho.vl K3 fun x e psn T' m' M3 cM St=>?_
   have s14:=St.ext.size;have Qt:∀q,cM.heap.size<=q->T' q=none:=fun q hq=>St.mem.mS hq
   have tT:∀q,q < cO.heap.size->T' q=T q:=St.tg
   refine aW (vs:=x.cs) rfl rfl (iP _) fun b4 kE so Hm VC qC=>If.bne (fun h=>(h rfl).elim) fun _=>?_
   have MN:=ad (ag Wt St.ext (nT b3 (by omega))) qC;refine⟨s2,Cell.ah MN rfl,eW so (af.mk fun b5 fR n17=>?_)⟩;have LK:=n17.at_;have z17:=n17.size;have rN:Ext No cM fR:=qC.no n17.ext
   have aau:ki cO.heap (fun q=>w.heap.size<=q/\T' q=none/\q≠b3) s2 L2:=Wu.mono fun q h' h=>⟨h.1,by rw[tT q h'];exact h.2.1,h.2.2⟩
   have JE:ki fR.heap (fun q=>w.heap.size<=q/\T' q=none/\q≠b3) s2 L2:=(aau.ext St.ext fun q hq h' h=>h (by rw[<- tT q h'];exact hq.2.1)).no rN;have aav:∀q,s2.aj=some q->q < cO.heap.size:=fun q hq=>(Wu.own.lt hq).2
   have adl:Mp fR (fun q=>w.heap.size<=q/\T' q=none/\q≠b3) s2 ⟨some ⟨b5,0,none⟩,1,1⟩ [(x,e)]:=by
    refine⟨by have:=Bm (y:=x) n17;simpa using this.mono (Nat.zero_le _),fun p hp=>?_,fun p hp q hq=>?_,fun q hq h=>?_⟩
    .rw[List.mem_singleton]at hp;subst hp;exact St.er.no rN
    .rw[List.mem_singleton]at hp;subst hp;have:=St.aj q hq;exact⟨⟨by omega,this.2.2,by omega⟩,by omega,fun h=>by have:=aav q h;omega⟩
    .simp[Sl.aj]at hq;have:=aav q h;omega
   refine HN (i:=(i:Int)) JE adl (by simp) (by omega) (by simp only[Int.toNat_natCast];omega) (by omega) (by simp) (fun q hq=>⟨by omega,Qt q (by omega),by omega⟩) fun s3 vG aaw hs3 tf=>?_
   rw[Int.toNat_natCast]at aaw;have adm:¬ s2.aj=some b3:=fun h=>by rw[Jo]at h;exact aap h
   have aax:=ag (ad MN n17.ext) tf adm;refine aQ.mk aax (by simp) rfl fun uK h19=>?_
   have vQ:Ext (·=b3) vG uK:=h19.ext;have Ww:qn uK.heap b3 1 0 s3:=h19.get aax;have z19:uK.heap.size=vG.heap.size:=h19.size;have s18:=tf.size;have adn:=aaw.ext vQ fun q hq _ h=>hq.2.2 h
   have eL3:ents (L2.take i++([(x,e)]++L2.drop i))=l.take i++(e::lr):=by
    show(L2.take i++([(x,e)]++L2.drop i)).map Prod.snd=_;rw[List.map_append,List.map_append,List.map_take,List.map_drop,show L2.map Prod.snd=_ from Uy];have h1:(l.take i).length=i:=by rw[List.length_take];omega
    rw[List.take_left' h1,List.drop_left' h1];rfl
   have hke:e.key=key:=St.ac7;have UA:uo (l.take i++(e::lr)):=Uz.insert St.h_ (fun y hy=>by rw[hke];exact f1 y hy) (fun y hy=>by rw[hke];exact f2 y hy)
   have afr:(wr 1 0 (l.take i++(e::lr))).length<=323:=by
    have h1:=JF St.h_;rw[eZ,du,dh];rw[du]at adj;omega
   have nX2:∀{q},(s2.aj=some q∨q=b3)->T' q=none:=fun {q} h=>by
    rcases h with h | h
    .rw[Jo]at h;rw[tT q (by have:=oL.own.lt h;omega)];exact tB h
    .rw[h,tT b3 (by omega)];exact sup b3 (by omega)
   have UB:Ext (fun q=>s2.aj=some q∨q=b3) fR uK:=(tf.mono fun _ _ h=> .inl h).trans vQ fun _ _ h=> .inr h
   have R19:bC uK.heap T' m' M3:=(St.mem.no rN).ext UB fun q hq=>nX2 hq
   have ado:qD (l.take i++(e::lr)):=(qD.take Ca).append fun y hy=>by
    rcases List.mem_cons.1 hy with h | h
    .subst h;exact⟨⟨St.er.Sj,St.er.Sk⟩,St.er.k8,St.er.v8⟩
    .exact Qs y (List.mem_append_right _ h)
   refine mY Ww (uu (B:=fun q=>w.heap.size<=q/\T' q=none) (adn.mono fun q _ h=>⟨h.1,h.2.1⟩) (fun q hq=>⟨by omega,Qt q (by omega)⟩) (fun _=>by rw[eL3];exact UA.right) (by simp only[List.length_append,List.length_take,List.length_cons,List.length_nil,List.length_drop];omega) (fun hb=>?_) fun ls sl oc lm lp rL=>?_)
   .rw[eL3]at hb ⊢;exact Bs UA.right hb (by omega)
   .rw[eL3]at lp;have ksa:iS M2.f M3.f pa:=St.DT.cv fun q _=> .inl (by simp)
    have ksb:iS M2.f M3.f pb:=St.DT.cv fun q _=> .inl (by simp)
    have aay:Ext (fun q=>Ts T q∨w.heap.size<=q) cO oc:=((St.ext.mono fun _ _ h=> .inl h).trans ((rN.aE).trans UB fun _ _ h=>h) fun q hq h=> .inr (by
     rcases h with h | h
     .rw[Jo]at h;exact sw h
     .omega)).no rL
    refine k sl ls (pa++(psn++pb)) T' m' M3 oc ⟨R19.no rL,St.bm,fun q hq=>tT q (by omega),(BF.mono fun _ _ h=> .inl h).trans aay fun q _ h=>h,lm,gR.KO (lev:=0) lp ado (cG.append (sa2.cv ksa) (.cons ?_ (sb2.cv ksb))),aat St.DT⟩;exact St.leaf
end
section
variable {w:Wd} {T:Nat->Option Nat} {m:bJ} {M:Mm}
def ky(b kD:Nat)(i:Int)(l first:Sl)(K:Sl->Int->Pw)(w:Wd):Prop:=
 ∃I0:Nat->Sl->Int->Pw,(∃m,I0 m ⟨none,0,0⟩ 0 w)/\∀(_:Env)(m0:Nat)(fresh:Sl)(X_:Int)(rH:Wd),I0 m0 fresh X_ rH->
 If (decide (X_ < ((l.len:Int)))) (
 Ix l.a l.len X_ 4 fun Th=>
 ∃zJ:Sl,Cell rH Th (.slice zJ.a zJ.len zJ.cap)/\
 ∃MB:Int,Cell rH (Th.add 1) (.int .u8 MB)/\
 ∃MC:Int,Cell rH (Th.add 2) (.int .u8 MC)/\
 ∃zK:Sl,Cell rH (Th.add 3) (.slice zK.a zK.len zK.cap)/\
 af rH (.cells [.slice none 0 0,.int .u8 0,.int .u8 0,.slice none 0 0].toArray 209) fun b_6 NB=>
 List.length (α:=Value) [.slice zJ.a zJ.len zJ.cap,.int .u8 MB,.int .u8 MC,.slice zK.a zK.len zK.cap]=4/\gT NB (Addr.mk b_6 0 none) [.slice zJ.a zJ.len zJ.cap,.int .u8 MB,.int .u8 MC,.slice zK.a zK.len zK.cap] fun Dr=>
 ∃P_:Value,Cell Dr (Addr.mk b 0 none) (P_)/\
 ∃Qa:Int,Cell Dr ((Addr.mk b 0 none).add 1) (.int .u32 Qa)/\
 ∃Qb:Int,Cell Dr ((Addr.mk b_6 0 none).add 1) (.int .u8 Qb)/\
 ∃Qc:Int,Cell Dr (((Addr.mk b_6 0 none).add 1).add 1) (.int .u8 Qc)/\
 ∃Ti:Sl,Cell Dr (((Addr.mk b_6 0 none).add 1).add 2) (.slice Ti.a Ti.len Ti.cap)/\
 cf P_ Qa Qb Qc Ti Dr fun UC UD UE r03 UF Jz=>
 af Jz (.cells [.int .u32 0,.int .u64 0,.int .u16 0,.int .u8 0].toArray 30) fun b_7 Kz=>
 List.length (α:=Value) [.int .u32 UC,.int .u64 UD,.int .u16 UE,.int .u8 r03]=4/\gT Kz (Addr.mk b_7 0 none) [.int .u32 UC,.int .u64 UD,.int .u16 UE,.int .u8 r03] fun zA=>
 If (UF != 0) (
 K ⟨none,0,0⟩ UF zA) (
 ∃v_:Sl,Cell zA (Addr.mk b_6 0 none) (.slice v_.a v_.len v_.cap)/\
 ∃Wx:Int,Cell zA (Addr.mk b_7 0 none) (.int .u32 Wx)/\
 ∃Wy:Int,Cell zA ((Addr.mk b_7 0 none).add 1) (.int .u64 Wy)/\
 ∃Wz:Int,Cell zA ((Addr.mk b_7 0 none).add 2) (.int .u16 Wz)/\
 af zA (.cells [.slice none 0 0,.slice none 0 0,.int .i64 0,.int .u32 0,.int .u64 0,.int .u16 0,.int .u32 0,.int .u64 0,.int .u16 0].toArray 151) fun Bb NF=>
 List.length (α:=Value) [.slice v_.a v_.len v_.cap,.slice none 0 0,.int .i64 0,.int .u32 0,.int .u64 0,.int .u16 0,.int .u32 Wx,.int .u64 Wy,.int .u16 Wz]=9/\gT NF (Addr.mk Bb 0 none) [.slice v_.a v_.len v_.cap,.slice none 0 0,.int .i64 0,.int .u32 0,.int .u64 0,.int .u16 0,.int .u32 Wx,.int .u64 Wy,.int .u16 Wz] fun uM=>
 If (X_ == 0) (
 aQ uM (Addr.mk Bb 0 none) (.slice first.a first.len first.cap) fun rK=>
 ∃MO:Sl,Cell rK (Addr.mk Bb 0 none) (.slice MO.a MO.len MO.cap)/\
 ∃MP:Sl,Cell rK ((Addr.mk Bb 0 none).add 1) (.slice MP.a MP.len MP.cap)/\
 ∃aaz:Int,Cell rK ((Addr.mk Bb 0 none).add 2) (.int .i64 aaz)/\
 ∃aaA:Int,Cell rK ((Addr.mk Bb 0 none).add 3) (.int .u32 aaA)/\
 ∃aaB:Int,Cell rK ((Addr.mk Bb 0 none).add 4) (.int .u64 aaB)/\
 ∃aaC:Int,Cell rK ((Addr.mk Bb 0 none).add 5) (.int .u16 aaC)/\
 ∃aaD:Int,Cell rK ((Addr.mk Bb 0 none).add 6) (.int .u32 aaD)/\
 ∃aaE:Int,Cell rK ((Addr.mk Bb 0 none).add 7) (.int .u64 aaE)/\
 ∃aaF:Int,Cell rK ((Addr.mk Bb 0 none).add 8) (.int .u16 aaF)/\
 af rK (.cells [.slice MO.a MO.len MO.cap,.slice MP.a MP.len MP.cap,.int .i64 aaz,.int .u32 aaA,.int .u64 aaB,.int .u16 aaC,.int .u32 aaD,.int .u64 aaE,.int .u16 aaF].toArray 151) fun Ga Rw=>
 bg pz 140 140 fresh (.slice (some (Addr.mk Ga 0 none)) 1 1) (fun s CI=>
 Ar .i64 (X_+1) fun adp=>
 ∃m1,m1 < m0/\I0 m1 s adp CI) Rw) (
 ∃MQ:Sl,Cell uM (Addr.mk Bb 0 none) (.slice MQ.a MQ.len MQ.cap)/\
 ∃MR:Sl,Cell uM ((Addr.mk Bb 0 none).add 1) (.slice MR.a MR.len MR.cap)/\
 ∃aaG:Int,Cell uM ((Addr.mk Bb 0 none).add 2) (.int .i64 aaG)/\
 ∃aaH:Int,Cell uM ((Addr.mk Bb 0 none).add 3) (.int .u32 aaH)/\
 ∃aaI:Int,Cell uM ((Addr.mk Bb 0 none).add 4) (.int .u64 aaI)/\
 ∃aaJ:Int,Cell uM ((Addr.mk Bb 0 none).add 5) (.int .u16 aaJ)/\
 ∃aaK:Int,Cell uM ((Addr.mk Bb 0 none).add 6) (.int .u32 aaK)/\
 ∃aaL:Int,Cell uM ((Addr.mk Bb 0 none).add 7) (.int .u64 aaL)/\
 ∃aaM:Int,Cell uM ((Addr.mk Bb 0 none).add 8) (.int .u16 aaM)/\
 af uM (.cells [.slice MQ.a MQ.len MQ.cap,.slice MR.a MR.len MR.cap,.int .i64 aaG,.int .u32 aaH,.int .u64 aaI,.int .u16 aaJ,.int .u32 aaK,.int .u64 aaL,.int .u16 aaM].toArray 151) fun VA OP=>
 bg pz 140 140 fresh (.slice (some (Addr.mk VA 0 none)) 1 1) (fun s_1 T3=>
 Ar .i64 (X_+1) fun adq=>
 ∃m1,m1 < m0/\I0 m1 s_1 adq T3) OP))) (
 ∃K4:Sl,Cell rH ((Addr.mk kD 0 none).add 2) (.slice K4.a K4.len K4.cap)/\
 Ar .i64 (i+1) fun adr=>
 bG K4 i adr fresh rH fun ZW KA=>
 aQ KA ((Addr.mk kD 0 none).add 2) (.slice ZW.a ZW.len ZW.cap) fun Hv=>
 ∃K5:Sl,Cell Hv ((Addr.mk kD 0 none).add 2) (.slice K5.a K5.len K5.cap)/\
 If (decide (((K5.len:Int)) > 0)) (
 ∃H_:Sl,Cell Hv ((Addr.mk kD 0 none).add 2) (.slice H_.a H_.len H_.cap)/\
 Ix H_.a H_.len 0 9 fun ads=>
 aQ Hv ads (.slice none 0 0) fun zC=>
 ∃aaN:Int,Cell zC (Addr.mk kD 0 none) (.int .u8 aaN)/\
 ∃aaO:Int,Cell zC ((Addr.mk kD 0 none).add 1) (.int .u8 aaO)/\
 ∃Tk:Sl,Cell zC ((Addr.mk kD 0 none).add 2) (.slice Tk.a Tk.len Tk.cap)/\
 dB aaN aaO Tk zC fun adt aaP NG=>
 K adt aaP NG) (
 ∃aaQ:Int,Cell Hv (Addr.mk kD 0 none) (.int .u8 aaQ)/\
 ∃aaR:Int,Cell Hv ((Addr.mk kD 0 none).add 1) (.int .u8 aaR)/\
 ∃Tl:Sl,Cell Hv ((Addr.mk kD 0 none).add 2) (.slice Tl.a Tl.len Tl.cap)/\
 dB aaQ aaR Tl Hv fun adu aaS LW=>
 K adu aaS LW))
theorem jw{m m':bJ}(h:m'.bm=m.bm):eY m'=eY m:=by show Value.iface 47 (.pointer (some ⟨m'.bm,0,none⟩))=Value.iface 47 (.pointer (some ⟨m.bm,0,none⟩));rw[h]
theorem MS{L:List (aL×aF)}(h:0 < L.length):ents (L.set 0 (Fw ⟨none,0,0⟩ [] L[0]))=iF (ents L):=by
 cases L with
 | nil=>simp at h
 | cons p L=>rfl
set_option maxHeartbeats 4000000 in
theorem BG{t:Int}{lev base b b1:Nat}{i:Int}{l first s:Sl}{L:List (aL×aF)}{fT:List nA}{a c:List aF}{mid:aF}{ka DN kc:List KV}{pa pm pc:List Rf}{K:Sl->Int->Pw}
    (R:bC w.heap T m M) (g:w.heap[b]? = some (.cells [eY m,.int .u32 t].toArray 107 (0,0))) (g1:qn w.heap b1 2 ((lev+1:Nat):Int) s) (tb:T b=none) (NO:T b1=none) (jk:base<=b1)
    (nd:ki w.heap (fun q=>base<=q/\T q=none/\q≠b/\q≠b1) s L) (lm:cX w.heap (fun q=>base<=q/\T q=none/\q≠b/\q≠b1) (aN lev) lev l fT) (lp:jr M.f t lev (bn fT) DN pm)
    (eL:ents L=a++(mid::c)) (hi:i=a.length) (hfr:b_ w.heap first mid.key) (SJ:∀q,first.aj=some q->(base<=q/\T q=none/\q≠b/\q≠b1)/\q < w.heap.size/\s.aj≠some q) (hsn:∀x∈fT,∀q,x.sep.aj=some q->s.aj≠some q)
    (DK:vT (a++(mid::c))) (ok:qD (a++(mid::c))) (dP:lev+1<=30) (gZ:szL 2 (a++(mid::c))<=297) (Gb:L.length<=1000)
    (ba:aM (bq M.f t lev) a ka pa) (bc:aM (bq M.f t lev) c kc pc) (Mn:∀x∈ka,bM x.1 mid.key) (lo:∀x∈DN,¬ bM x.1 mid.key) (hc:∀e∈c,∀x∈DN,bM x.1 e.key)
    (h2l:0 < lev->∀x∈bn fT,2<=x.2.length) (hn:M.aC.length<=1048000)
    (k:∀sl ls dG rs T' m' M' w',bC w'.heap T' m' M'->m'.bm=m.bm->Tg w T T'->Ext (fun q=>Ts T q∨base<=q) w w'->cX w'.heap (fun q=>base<=q/\T' q=none) (aN (lev+1)) ((lev+1:Nat):Int) sl ls->jr M'.f t (lev+1) (bn ls) (ka++(DN++kc)) dG ->
      kV M M' 2 [] rs->(∀q,dG.count q=(pa++(pm++pc)).count q+rs.count q)->K sl 0 w'):ky b b1 i l first K w:=by
  unfold ky;obtain⟨D,eD,FJ,hp,hDl,hD2,hDt⟩:=lp.data;have SI:l.len=fT.length:=lm.len;have hDn:D.length=fT.length:=by have:=congrArg List.length eD;simpa[bn] using this
  have hDi:∀j (h:j < D.length) (h':j < fT.length),D[j].k=fT[j].key/\D[j].l=ents fT[j].L:=fun j h h'=>by
    have:=congrArg (fun l=>l[j]?) eD;simp only[bn,List.getElem?_map,List.getElem?_eq_getElem h,List.getElem?_eq_getElem h',Option.map_some,Option.some.injEq,Prod.mk.injEq]at this;exact this
  have sup:∀q,w.heap.size<=q->T q=none:=fun q hq=>R.mS hq
  have adv:=blt g;have adw:=blt g1;have afs:=DK.h_ mid (by simp)
  refine ⟨fun mm fresh t1 w'=>∃ (j:Nat) (Tj:Nat->Option Nat) (mj:bJ) (Mj:Mm) (rs:List Rf) (V:List (aL×aF)),t1=j/\j<=fT.length/\mm=fT.length - j/\bC w'.heap Tj mj Mj/\mj.bm=m.bm/\Tg w T Tj/\Ext (Ts T) w w'/\kV M Mj j [] rs/\rs.length=j /\
      (∀i (h:i < D.length) (h':i < rs.length),bq Mj.f t lev rs[i] D[i].kv (rs[i]::D[i].p))/\(∀r∈rs,r.ok/\r ≠ .z)/\bf w'.heap w.heap.size 151 9 fresh (V.flatMap aU)/\ents V=f_ mid.key (bn fT) rs/\(∀q,fresh.aj=some q->Tj q=none)/\
      (∀p∈V,lD w'.heap p.1 p.2/\∀q,(p.1.k.aj=some q∨p.1.v.aj=some q)->(base<=q/\T q=none/\q≠b/\q≠b1)/\q < w.heap.size/\s.aj≠some q),
    ⟨fT.length,0,T,m,M,[],[],rfl,by omega,by omega,R,rfl,fun _ _=>rfl,Ext.refl _ _,kV.refl M,rfl,fun i h h'=>by simp at h',by simp,bf.nil _ _ _ _,by cases bn fT <;> rfl,by simp[Sl.aj],by simp⟩,?_⟩
  rintro _ m0 fresh t1 rH ⟨j,Tj,mj,Mj,rs,V,rfl,hj,hm,Rj,yz,Gg,xj,cj,DO,uC,Wq,oV,eV,WA,hV⟩;have sj:=xj.size;have nT:∀{q},T q=none->¬ Ts T q:=fun h h'=>h' h
  have gj:=ag g xj (nT tb);have g1j:=ag g1 xj (nT NO);have Ya:=lm.ext xj fun q hq _=>nT hq.2.1
  have Vl:V.length=j:=by have:=congrArg List.length eV;rw[Bu (by simp only[bn,List.length_map];omega)]at this;simpa[DO] using this
  refine If.dec (fun h=>?_) fun h=>?_
  · have eO:j < fT.length:=by omega
    refine Ix.elem Ya.rd (dv _ _ _) (by decide) (by omega) h fun bb o uJ _ bS=>?_
    simp only[Int.toNat_natCast]at uJ bS;have cN:fT[j]∈fT:=List.getElem_mem eO;refine⟨_,bS 0 _ rfl,_,bS 1 _ rfl,_,bS 2 _ rfl,_,bS 3 _ rfl,aW (vs:=gQ (aN lev) lev fT[j]) rfl rfl (by simp[gQ,aJ]) fun b6 Dr g6 Y1 z6 x6=>?_⟩;have Yb:j < D.length:=by omega
    obtain⟨e1,e2⟩:=hDi j Yb eO;have jx:uq Mj.f t lev D[j].l D[j].kv D[j].p:=(hDl _ (List.getElem_mem Yb)).cv (cj.cv fun q _=> .inl (by simp));rw[e2]at jx;have RC:=((Ya.nd _ cN).no x6).nd;refine⟨_,Cell.ah (ad gj x6) rfl,_,Cell.ah (ad gj x6) rfl,_,Cell.ah g6 rfl,_,Cell.ah g6 rfl,_,Cell.ah g6 rfl,?_⟩;rw[<- jw yz];have Qu:=fZ jx.short;have XM:fT[j].L.length<=65536:=by simp only[List.length_map]at Qu;omega
    refine kU (Rj.no x6) RC XM jx.right jx.short (by have:=cj.len;omega) fun n T' m' Jz gU Tm FH Gf zX=>?_
    refine aW rfl rfl (by simp[aJ]) fun b7 zA g7 Y2 z7 x7=>If.bne (fun h=>(h rfl).elim) fun _=>?_
    have nTj:∀{q},q < rH.heap.size->T q=none->q < w.heap.size->¬ Ts Tj q:=fun _ h1 h2 h=>h (by rw[Gg _ h2];exact h1)
    have s6:=x6.size;have s37:=zX.size;have s7:=x7.size;have nb6:Tj b6=none:=(Rj).mS (by omega);have g69:=ad (ag g6 zX (fun h=>h nb6)) x7;refine⟨_,Cell.ah g69 rfl,_,Cell.ah g7 rfl,_,Cell.ah g7 rfl,_,Cell.ah g7 rfl,aW (vs:=aL.cs ⟨fT[j].sep,⟨none,0,0⟩,0,.z,⟨n,Mj.aG,Mj.gen⟩⟩) rfl rfl (iP _) fun b8 uM g8 Ku z8 x8=>?_⟩;have BH:Ext No Jz uM:=x7.no x8;have BI:Ext (Ts Tj) rH uM:=((x6.aE).trans zX fun _ _ h=>h).no BH;have adx:Ext (Ts T) w uM:=xj.trans BI fun q hq h=>by rw[show Ts Tj q=(Tj q≠none) from rfl,Gg q hq]at h;exact h
    have Qr:(⟨n,Mj.aG,Mj.gen⟩ : Rf) ≠ .z:=fun h=>by have:=gU.lo;have:=congrArg Rf.p h;simp only[Rf.z]at this;omega
    have rW:=kV.put (M:=Mj) (n:=n) (t:=t) (k:=aN lev) (v:=((lev:Nat):Int)) (pay:=pad (wr (aN lev) lev (ents fT[j].L)));have Dl:=pS (t:=t) (k:=aN lev) (v:=((lev:Nat):Int)) (pay:=pad (wr (aN lev) lev (ents fT[j].L))) gU;have Qv:=(KG Tm Dl).2;have kpj:∀(qs:List Rf),iS Mj.f (zF Mj n t (aN lev) lev (pad (wr (aN lev) lev (ents fT[j].L)))).f qs:=fun qs=>rW.cv fun q _=> .inl (by simp)
    have DV:bq (zF Mj n t (aN lev) lev (pad (wr (aN lev) lev (ents fT[j].L)))).f t lev ⟨n,Mj.aG,Mj.gen⟩ D[j].kv (⟨n,Mj.aG,Mj.gen⟩::D[j].p):=
      bq.shut ⟨Dl,jx.right,jx.short,jx.ok⟩ jx.ne (fun h=>by have:=h2l h (fT[j].key,ents fT[j].L) (List.mem_map.2 ⟨_,cN,rfl⟩);exact this) (jx.body.cv (kpj _))
    -- on,aaT key the entry has
    have on:∀{kk:Sl}{key:List Int}{rK:Wd}{bx:Nat},rK.heap[bx]? = some (.cells (aL.cs ⟨kk,⟨none,0,0⟩,0, .z,⟨n,Mj.aG,Mj.gen⟩⟩).toArray 151 (0,0))->Ext (fun q=>q=b8) uM rK->b_ w.heap kk key->B8 key->(∀ q,kk.aj=some q->(base<=q/\T q=none/\q≠b/\q≠b1)/\q < w.heap.size/\s.aj≠some q)->key=(if j=0 then mid.key else fT[j].key) ->
        (af rK (.cells (aL.cs ⟨kk,⟨none,0,0⟩,0,.z,⟨n,Mj.aG,Mj.gen⟩⟩).toArray 151) fun b9 Rw=>bg pz 140 140 fresh (.slice (some (Addr.mk b9 0 none)) 1 1) (fun s1 CI=>Ar .i64 ((j:Int)+1) fun z=>∃m1,m1 < m0/\∃(j:Nat) (Tj:Nat->Option Nat) (mj:bJ) (Mj:Mm) (rs:List Rf) (V:List (aL×aF)),z=j/\j<=fT.length/\m1=fT.length - j/\bC CI.heap Tj mj Mj/\mj.bm=m.bm/\Tg w T Tj/\Ext (Ts T) w CI/\kV M Mj j [] rs/\rs.length=j/\
      (∀i (h:i < D.length) (h':i < rs.length),bq Mj.f t lev rs[i] D[i].kv (rs[i]::D[i].p))/\(∀r∈rs,r.ok/\r ≠ .z)/\bf CI.heap w.heap.size 151 9 s1 (V.flatMap aU)/\ents V=f_ mid.key (bn fT) rs/\(∀q,s1.aj=some q->Tj q=none)/\
      (∀p∈V,lD CI.heap p.1 p.2/\∀q,(p.1.k.aj=some q∨p.1.v.aj=some q)->(base<=q/\T q=none/\q≠b/\q≠b1)/\q < w.heap.size/\s.aj≠some q)) Rw):=by
      intro kk key rK bx gx LX MT k8 kkb jm;refine af.mk fun b9 Rw n9=>?_
      have yO:Ext (fun q=>q=b8) uM Rw:=LX.no n9.ext;have s42:=LX.size;have z9:=n9.size;have Rt:=n9.at_;have JS:∀q,fresh.aj=some q->w.heap.size<=q/\q < rH.heap.size:=fun q hq=>oV.lt hq
      have WB:=(oV.ext BI fun q hq h=>h (WA q hq)).ext yO fun q hq h=>by have:=JS q hq;omega
      have ol:fresh.len=V.length:=by have:=oV.len;rw[lI]at this;omega
      refine fM WB (by omega) (Bm n9).rd.src (by simp only;omega) fun s1 CI o44 _ RL oQ=>Ar.i64 (by omega) ?_
      have aaU:Ext (Ts T) w CI:=((adx.trans yO fun q hq h=>by omega)).trans RL fun q hq h=>by have:=JS q h;omega
      have tT':∀q,q < rH.heap.size->T' q=Tj q:=fun q hq=>Gf q (by omega)
      have nb8:T' b8=none:=Tm.mS (by omega);have aaV:Ext (fun q=>q=b8∨fresh.aj=some q) Jz CI:=((BH.aE).trans yO fun _ _ h=> .inl h).trans RL fun _ _ h=> .inr h
      have aaW:Ext (fun q=>Ts Tj q∨q=b8∨fresh.aj=some q) rH CI:=((BI.mono fun _ _ h=> .inl h).trans yO fun _ _ h=> .inr (.inl h)).trans RL fun _ _ h=> .inr (.inr h)
      refine⟨fT.length - (j+1),by omega,j+1,T',m',zF Mj n t (aN lev) lev (pad (wr (aN lev) lev (ents fT[j].L))),rs++[⟨n,Mj.aG,Mj.gen⟩],V++[(⟨kk,⟨none,0,0⟩,0,.z,⟨n,Mj.aG,Mj.gen⟩⟩,zG key ⟨n,Mj.aG,Mj.gen⟩)],by omega,by omega,rfl,Tm.ext aaV fun q hq=>?_,FH.trans yz,fun q hq=>by rw[tT' q (by omega)];exact Gg q hq,aaU,?_,by simp[DO],fun i' h' Jn=>?_,fun r hr=>?_,by rw[List.flatMap_append];simpa using o44,?_,fun q hq=>?_,fun p hp=>?_⟩
      · rcases hq with h | h
        · rw[h];exact nb8
        · rw[tT' q (JS q h).2];exact WA q h
      · refine(cj.trans rW).as (by omega) (by simp) fun q=>?_
        simp only[List.nil_append]
      · rcases Nat.lt_or_ge i' rs.length with h3 | h3
        · rw[List.getElem_append_left h3];exact(uC i' h' h3).cv (kpj _)
        · have:i'=j:=by simp only[List.length_append,List.length_cons,List.length_nil]at Jn;omega
          subst this;have:(rs++[(⟨n,Mj.aG,Mj.gen⟩ : Rf)])[i']=⟨n,Mj.aG,Mj.gen⟩:=by rw[List.getElem_append_right h3];simp[DO]
          rw[this];exact DV
      · rcases List.mem_append.1 hr with h3 | h3
        · exact Wq r h3
        · rw[List.mem_singleton]at h3;subst h3;exact⟨Qv,Qr⟩
      · rw[yq (by simp only[bn,List.length_map];omega)];show List.map Prod.snd (V++_)=_;rw[List.map_append,show List.map Prod.snd V=_ from eV];congr 1;have e5:(bn fT)[rs.length]'(by simp only[bn,List.length_map];omega)=(fT[j].key,ents fT[j].L):=by simp[bn,DO]
        rw[e5,jm,DO];rfl
      · rcases oQ with h3 | ⟨c',h3,h4⟩
        · rw[h3]at hq;rw[tT' q (JS q hq).2];exact WA q hq
        · rw[h3]at hq;cases hq;exact Tm.mS (by have:=BH.size;omega)
      · rcases List.mem_append.1 hp with h3 | h3
        · have n_:=hV p h3
          have nn:∀q,(p.1.k.aj=some q∨p.1.v.aj=some q)->¬ (Ts Tj q∨q=b8∨fresh.aj=some q):=fun q hq h=>by
            have:=n_.2 q hq;rcases h with h | h | h
            · exact nTj (by omega) this.1.2.1 this.2.1 h
            · omega
            · have:=JS q h;omega
          exact⟨n_.1.ext aaW (fun q hq=>nn q (.inl hq)) (fun q hq=>nn q (.inr hq)),n_.2⟩
        · rw[List.mem_singleton]at h3;subst h3;refine⟨⟨Rd.ext MT aaU fun a q ha hq=>nT (kkb q (by have h:kk.a=some a:=ha;simp[Sl.aj,h,hq])).1.2.1,Rd.nil _ _,rfl,rfl,rfl,k8,B8.nil,⟨by show(-9223372036854775808:Int)<=0;decide,by show(0:Int)<=9223372036854775807;decide⟩,by show Rf.z.ok;decide,Qv⟩,fun q hq=>?_⟩;rcases hq with h4 | h4
          · exact kkb q h4
          · simp[Sl.aj]at h4
    have CL:=lm.sep _ cN;refine If.beq (fun hj0=>aQ.mk g8 (by simp[aL.cs]) rfl fun rK SD=>?_) fun hj0=>?_
    · have NM:rK.heap[b8]? = some (.cells (aL.cs ⟨first,⟨none,0,0⟩,0,.z,⟨n,Mj.aG,Mj.gen⟩⟩).toArray 151 (0,0)):=SD.get g8;have LX:Ext (fun q=>q=b8) uM rK:=SD.ext;refine eW NM (on NM LX hfr ?_ SJ (by rw[if_pos (by omega)]));exact(ok mid (by simp)).2.1
    · refine eW g8 (on g8 (Ext.refl _ _) CL.1 CL.2.1 (fun q hq=>⟨(CL.2.2 q hq).1,(CL.2.2 q hq).2,hsn _ cN q hq⟩) (by rw[if_neg (by omega)]))
  · have ejl:j=fT.length:=by omega
    have RC:ki rH.heap (fun q=>base<=q/\Tj q=none/\q≠b/\q≠b1) s L:=(nd.mono fun q hq h=>⟨h.1,by rw[Gg q hq];exact h.2.1,h.2.2⟩).ext xj fun q hq hl h=>h (by rw[<- Gg q hl];exact hq.2.1)
    have slt:∀q,s.aj=some q->q < w.heap.size:=fun q hq=>(nd.own.lt hq).2
    have JS:∀q,fresh.aj=some q->w.heap.size<=q/\q < rH.heap.size:=fun q hq=>oV.lt hq
    have nej:Mp rH (fun q=>base<=q/\Tj q=none/\q≠b/\q≠b1) s fresh V:=⟨oV.mono (Nat.zero_le _),fun p hp=>(hV p hp).1,fun p hp q hq=>by
      have:=(hV p hp).2 q hq
      exact⟨⟨this.1.1,by rw[Gg q this.2.1];exact this.1.2.1,this.1.2.2⟩,by omega,this.2.2⟩,fun q hq h=>by have:=JS q hq;have:=slt q h;omega⟩
    have aaX:∀q,rH.heap.size<=q->Tj q=none:=fun q hq=>Rj.mS hq
    have aaY:L.length=a.length+(c.length+1):=by have:=congrArg List.length eL;simpa using this
    have law:=JI (f:=Mj.f) (t:=t) (lev:=lev) (D:=D) (rs:=rs) DK ok dP (ba.cv (R:=fun p=>iS M.f Mj.f p) (fun h=>⟨h.sub fun _ h=>List.mem_append_left _ h,h.sub fun _ h=>List.mem_append_right _ h⟩) (fun h hk=>bq.cv h hk) (cj.cv fun q _=> .inl (by simp)))
      (bc.cv (R:=fun p=>iS M.f Mj.f p) (fun h=>⟨h.sub fun _ h=>List.mem_append_left _ h,h.sub fun _ h=>List.mem_append_right _ h⟩) (fun h hk=>bq.cv h hk) (cj.cv fun q _=> .inl (by simp))) Mn uC (by omega) Wq hD2
      (fun d1 d2 h=>by obtain⟨a1,a2,a3,a4,a5,_⟩:=hDt d1 d2 h;exact⟨a1,a2,a3,a4,a5⟩)
      (fun d hd x hx=>lo x (by rw[<- FJ];exact List.mem_flatten.2 ⟨d.kv,List.mem_map.2 ⟨d,hd,rfl⟩,hx⟩))
      (fun e he d hd x hx=>hc e he x (by rw[<- FJ];exact List.mem_flatten.2 ⟨d.kv,List.mem_map.2 ⟨d,hd,rfl⟩,hx⟩))
    rw[eD,FJ,hp]at law;obtain⟨l1,l2,⟨Tn,l3,l3c⟩,l4⟩:=law;subst hi;refine⟨s,Cell.ah g1j rfl,Ar.i64 (by omega) (FA RC nej (by omega) (by simp only[Int.toNat_natCast];omega) (by omega) (by omega) (fun q hq=>⟨by omega,aaX q hq,by omega,by omega⟩) fun s' KA OZ aft F_=>?_)⟩;rw[Int.toNat_natCast]at OZ;have WC:¬ s.aj=some b1:=fun h=>(nd.sb _ h).2.2.2 rfl
    have aaZ:=ag g1j F_ WC;refine aQ.mk aaZ (by simp) rfl fun Hv TT=>?_
    have IC:Ext (·=b1) KA Hv:=TT.ext;have To:qn Hv.heap b1 2 ((lev+1:Nat):Int) s':=TT.get aaZ;have z48:Hv.heap.size=KA.heap.size:=TT.size;have s47:=F_.size;have Qw:=OZ.ext IC fun q hq _ h=>hq.2.2.2 h
    have Pz:ents (L.take a.length++(V++L.drop (a.length+1)))=a++(f_ mid.key (bn fT) rs++c):=by
      show List.map Prod.snd _=_;rw[List.map_append,List.map_append,List.map_take,List.map_drop,show List.map Prod.snd L=_ from eL,show List.map Prod.snd V=_ from eV,List.take_left' rfl];congr 2;rw[show a++(mid::c)=(a++[mid])++c by simp];exact List.drop_left' (by simp)
    generalize hL':L.take a.length++(V++L.drop (a.length+1))=L' at *;have aa0:L'.length<=4000:=by rw[<- hL'];simp only[List.length_append,List.length_take,List.length_drop];omega
    have nS1:∀{q},s.aj=some q->Tj q=none:=fun h=>by rw[Gg _ (slt _ h)];exact(nd.sb _ h).2.1
    have ady:Tj b1=none:=by rw[Gg b1 adw];exact NO
    have R48:bC Hv.heap Tj mj Mj:=(Rj.ext F_ fun q hq=>nS1 hq).ext IC fun q hq=>by rw[hq];exact ady
    have adz:Ext (fun q=>Ts T q∨base<=q) w Hv:=((xj.mono fun _ _ h=> .inl h).trans F_ fun q hq h=> .inr (nd.sb _ h).1).trans IC fun q hq h=> .inr (by omega)
    have VL:∀q,s'.aj=some q->base<=q/\Tj q=none:=fun q hq=>by have:=Qw.sb q hq;exact⟨this.1,this.2.1⟩
    have nl':=Qw.nd.len
    -- the end,with a list in aeS the first key is none
    have fin:∀{L3:List (aL×aF)}{zC:Wd},ki zC.heap (fun q=>base<=q/\Tj q=none/\q≠b/\q≠b1) s' L3->ents L3=iF (a++(f_ mid.key (bn fT) rs++c))->Ext (fun q=>s'.aj=some q) Hv zC->L3.length<=4000->dB 2 ((lev+1:Nat):Int) s' zC fun r0 r1 NG=>K r0 r1 NG:=fun {L3 zC} O_ e3 Dy KN=>by
      have s49:=Dy.size;refine uu (B:=fun q=>base<=q/\Tj q=none) (O_.mono fun q _ h=>⟨h.1,h.2.1⟩) (fun q hq=>⟨by omega,aaX q (by omega)⟩) (fun h=>by rw[e3]at h ⊢;exact l1 h) (by omega) (fun hb=>?_) fun ls sl NG lm' lp' x50=>?_
      · rw[e3]at hb ⊢;refine Bs (l1 fun h=>?_) hb ?_
        · rw[h,eZ,pT]at hb;omega
        · rw[eZ];omega
      · rw[e3]at lp';have R50:bC NG.heap Tj mj Mj:=(R48.ext Dy fun q hq=>(VL q hq).2).no x50;have lp2:jr Mj.f t (lev+1) (bn ls) (ka++(DN++kc)) (pa++(Tn++pc)):=gR.KO (lev:=lev+1) lp' l2 l3;refine k sl ls (pa++(Tn++pc)) rs Tj mj Mj NG R50 yz Gg (((adz.trans Dy fun q hq h=> .inr (VL q h).1).no x50)) lm' lp2 (cj.as (by omega) (by simp) (by simp)) fun q=>?_
        simp only[List.count_append];have:=l3c q;omega
    refine⟨s',Cell.ah To rfl,If.dec (fun tv=>?_) fun tv=>?_⟩
    · refine⟨s',Cell.ah To rfl,ki.key (t:=⟨none,0,0⟩) (key:=[]) Qw (by omega) (by simp only[Int.toNat_zero];omega) (Rd.nil _ _) B8.nil (fun q hq=>by simp[Sl.aj]at hq) fun zC O_ Dy z49=>?_⟩;have adA:¬ s'.aj=some b1:=fun h=>(Qw.sb _ h).2.2.2 rfl
      have adB:=ag To Dy adA;refine mY adB (fin O_ ?_ Dy (by rw[List.length_set];exact aa0));rw[<- Pz];exact MS (by omega)
    · have Lw:L'=[]:=List.eq_nil_of_length_eq_zero (by omega);refine mY To (fin Qw ?_ (Ext.refl _ _) aa0);rw[<- Pz,Lw];rfl
end
end Go.Proofs.YtpjbalhhlaofmaaGreat
namespace Go.V
theorem vT.del{a c:List aF}{e1 e2:aF}(h:vT (a++(e1::e2::c))):vT (a++(e1::c)):=by
 have hm:∀e∈a++(e1::c),e∈a++(e1::e2::c):=fun e he=>by
  simp only[List.mem_append,List.mem_cons]at he ⊢;rcases he with h | h | h
  .exact .inl h
  .exact .inr (.inl h)
  .exact .inr (.inr (.inr h))
 refine⟨fun e he=>h.h_ e (hm e he),?_,fun e l' hl=>?_⟩
 .have hr:=fa.1 h.vU;have h2:=List.pairwise_cons.1 hr.2.1;refine fa.2 ⟨hr.1,List.pairwise_cons.2 ⟨fun y hy=>h2.1 y (List.mem_cons_of_mem _ hy),(List.pairwise_cons.1 h2.2).2⟩,fun x hx y hy=>hr.2.2 x hx y ?_⟩;rcases List.mem_cons.1 hy with h | h
  .rw[h];exact List.mem_cons_self
  .exact List.mem_cons_of_mem _ (List.mem_cons_of_mem _ h)
 .cases a with
  | nil=>simp only[List.nil_append,List.cons.injEq]at hl;exact hl.1 ▸ h.hd e1 _ rfl
  | cons x a=>simp only[List.cons_append,List.cons.injEq]at hl;exact hl.1 ▸ h.hd x _ rfl
theorem gR.Qx{lev:Int}{l:List aF}{ls:List (List Int×List aF)}(p:gR 2 lev l ls)(h:2<=l.length):∀x∈ls,2<=x.2.length:=by
 cases p with
 | nil=>simp at h
 | one bA hr hs=>intro x hx;rw[List.mem_singleton]at hx;subst hx;exact h
 | @two l k hr hb hk cF=>
  have:=DL hr hb hk;intro x hx;simp only[List.mem_cons,List.not_mem_nil,or_false]at hx;rcases hx with h | h <;> subst h
  .simp only[List.length_take];omega
  .simp only[Bn,List.length_drop];omega
end Go.V
namespace Go.Proofs.YtpjbalhhlaofmaaGreat
open Go.V
section
variable {w:Wd} {T:Nat->Option Nat} {m:bJ} {M:Mm}
def rX(b kD UG:Nat)(r j:Int)(FK:Sl)(J2:Int->Sl->Sl->Pw)(K:Sl->Int->Pw)(e:Int)(w:Wd):Prop:=
  If (e != 0) (
  K ⟨none,0,0⟩ e w) (
  ∃S:Pw,S (aa w)/\
  ∃pP:Value,ae S (Addr.mk b 0 none) (pP)/\
  ∃nV:Sl,ae S ((Addr.mk kD 0 none).add 2) (.slice nV.a nV.len nV.cap)/\
  Ix nV.a nV.len j 9 fun Oo=>
  ∃lZ:Int,ae S (Oo.add 6) (.int .u32 lZ)/\
  ∃nW:Int,ae S ((Oo.add 6).add 1) (.int .u64 nW)/\
  ∃sQ:Int,ae S ((Oo.add 6).add 2) (.int .u16 sQ)/\
  Ad pP fun _y=>
  oh pz pP "Drop" [.agg ([.int .u32 lZ,.int .u64 nW,.int .u16 sQ]).toArray] [.one (.int .i64)] (fun Vz cM=>
  S cM/\
  If (Vz != 0) (
  K ⟨none,0,0⟩ Vz cM) (
  ∃S:Pw,S (aa cM)/\
  Ix FK.a FK.len 0 4 fun Sg=>
  ∃Bp:Int,ae S (Sg.add 1) (.int .u8 Bp)/\
  ∃xh:Int,ae S ((Sg.add 1).add 1) (.int .u8 xh)/\
  ∃zH:Sl,ae S ((Sg.add 1).add 2) (.slice zH.a zH.len zH.cap)/\
  ∃HO:Int,ae S (Addr.mk UG 0 none) (.int .u8 HO)/\
  ∃HP:Int,ae S ((Addr.mk UG 0 none).add 1) (.int .u8 HP)/\
  ∃zI:Sl,ae S ((Addr.mk UG 0 none).add 2) (.slice zI.a zI.len zI.cap)/\
  ∃qv:Sl,ae S ((Addr.mk kD 0 none).add 2) (.slice qv.a qv.len qv.cap)/\
  Nm (gV r j) fun TZ=>
  Ix qv.a qv.len TZ 9 fun YS=>
  ∃qw:Sl,ae S YS (.slice qw.a qw.len qw.cap)/\
  ei Bp xh zH HO HP zI qw (decide (j < r)) (aa cM) fun WD Qy dY=>
  S dY/\
  If (Qy != 0) (
  K ⟨none,0,0⟩ Qy dY) (
  ∃ig:Sl,Cell dY ((Addr.mk kD 0 none).add 2) (.slice ig.a ig.len ig.cap)/\
  Nm (gm r j) fun Rv=>
  Ix ig.a ig.len Rv 9 fun a_7=>
  ∃kT:Sl,Cell dY a_7 (.slice kT.a kT.len kT.cap)/\
  ∃mM:Sl,Cell dY ((Addr.mk kD 0 none).add 2) (.slice mM.a mM.len mM.cap)/\
  Nm (gV r j) fun SA=>
  Nm (gV r j) fun Sx=>
  Ar .i64 (Sx+1) fun VB=>
  aA mM SA VB dY fun LV kE=>
  aQ kE ((Addr.mk kD 0 none).add 2) (.slice LV.a LV.len LV.cap) fun fR=>
  Nm (gm r j) fun ZX=>
  J2 ZX WD kT fR))) cc (aa w))
theorem Qz{K:Value->Prop}(h:K (eY m)):Ad (eY m) K:=h
set_option maxHeartbeats 4000000 in
theorem MU{t:Int}{lev base b b1 b3 i j p:Nat}{l0 s sn:Sl}{L Ln:List (aL×aF)}{x:nA}{a c l1 l2:List aF}{e1 e2:aF}{lft:Bool}{rj:Rf}{ka k1 k2 kc:List KV}{pa p1 p2 pc:List Rf}{K:Sl->Int->Pw}
    (R:bC w.heap T m M) (g:w.heap[b]? = some (.cells [eY m,.int .u32 t].toArray 107 (0,0))) (g1:qn w.heap b1 2 ((lev+1:Nat):Int) s) (g3:qn w.heap b3 (aN lev) lev sn) (tb:T b=none) (NO:T b1=none) (WE:T b3=none) (jk:base<=b1)
    (nd:ki w.heap (fun q=>base<=q/\T q=none/\q≠b/\q≠b1) s L) (nn:ki w.heap (fun q=>T q=none) sn Ln) (lm:cX w.heap (fun q=>base<=q/\T q=none) (aN lev) lev l0 [x])
    (eL:ents L=a++(e1::e2::c)) (hp:p=a.length)
    (hl:(lft=true/\l1=ents Ln/\l2=ents x.L/\i=p+1/\j=p/\rj=e1.cd)∨(lft=false/\l1=ents x.L/\l2=ents Ln/\i=p/\j=p+1/\rj=e2.cd))
    (h1:uq M.f t lev l1 k1 p1) (h2:uq M.f t lev l2 k2 p2) (low:3 * (wr (aN lev) lev (ents x.L)).length < 224)
    (hrj:rj∈live M.aC) (Ny:∀q∈pa++(p1++(p2++pc)),q≠rj)
    (DK:vT (ents L)) (ok:qD (ents L)) (dP:lev+1<=30) (gZ:szL 2 (ents L)<=297) (Gb:L.length<=1000)
    (ba:aM (bq M.f t lev) a ka pa) (bc:aM (bq M.f t lev) c kc pc) (Mn:∀x∈ka,bM x.1 e1.key) (lo1:∀x∈k1,¬ bM x.1 e1.key) (aa1:∀x∈k1,bM x.1 e2.key) (Yc:∀x∈k2,¬ bM x.1 e2.key) (hc:∀e∈c,∀x∈k2,bM x.1 e.key)
    (hn:M.aC.length<=1048000)
    (k:∀sl ls dG rs T' m' M' w',bC w'.heap T' m' M'->m'.bm=m.bm->Tg w T T'->Ext (fun q=>Ts T q∨base<=q) w w'->cX w'.heap (fun q=>base<=q/\T' q=none) (aN (lev+1)) ((lev+1:Nat):Int) sl ls->jr M'.f t (lev+1) (bn ls) (ka++((k1++k2)++kc)) dG ->
      kV M M' 2 [rj] rs->(∀q,dG.count q=(pa++((p1++p2)++pc)).count q+rs.count q)->K sl 0 w'):rX b b1 b3 i j l0 (fun i l first w'=>ky b b1 i l first K w') K 0 w:=by
  unfold rX;have nT:∀{q},T q=none->¬ Ts T q:=fun h h'=>h' h
  have afu:=blt g;have adv:=blt g1;have afv:=blt g3;have aaY:L.length=a.length+(c.length+2):=by have:=congrArg List.length eL;simpa using this
  have nl:=nd.nd.len;have QA:j < L.length:=by rcases hl with h | h <;> omega
  have XZ:(L[j]'QA).2.cd=rj:=by
    have h3:=congrArg (fun l=>l[j]?) eL;simp only[List.getElem?_map,List.getElem?_eq_getElem QA,Option.map_some]at h3;rcases hl with⟨_,_,_,_,h4,h5⟩ | ⟨_,_,_,_,h4,h5⟩
    · rw[List.getElem?_append_right (by omega),show j - a.length=0 by omega]at h3;simp only[List.getElem?_cons_zero,Option.some.injEq]at h3;rw[h3,h5]
    · rw[List.getElem?_append_right (by omega),show j - a.length=1 by omega]at h3;simp only[List.getElem?_cons_succ,List.getElem?_cons_zero,Option.some.injEq]at h3;rw[h3,h5]
  have hp1:p+1 < L.length:=by omega
  have hLp:(L[p]'(by omega)).2=e1:=by
    have h3:=congrArg (fun l=>l[p]?) eL;simp only[List.getElem?_map,List.getElem?_eq_getElem (show p < L.length by omega),Option.map_some]at h3;rw[List.getElem?_append_right (by omega),show p - a.length=0 by omega]at h3;simpa using h3
  have adC:(L[p+1]'hp1).2=e2:=by
    have h3:=congrArg (fun l=>l[p+1]?) eL;simp only[List.getElem?_map,List.getElem?_eq_getElem hp1,Option.map_some]at h3;rw[List.getElem?_append_right (by omega),show p+1 - a.length=1 by omega]at h3;simpa using h3
  have Fp : (lft = true ∧ i = p + 1 ∧ j = p) ∨ (lft = false ∧ i = p ∧ j = p + 1) := by rcases hl with h | h
                                                                                       · exact .inl ⟨h.1,h.2.2.2.1,h.2.2.2.2.1⟩
                                                                                       · exact .inr ⟨h.1,h.2.2.2.1,h.2.2.2.2.1⟩
  have Sb:gV (i:Int) (j:Int)=((p+1:Nat):Int):=by unfold gV;split <;> omega
  have ur:gm (i:Int) (j:Int)=((p:Nat):Int):=by unfold gm;split <;> omega
  have adD:decide ((j:Int) < (i:Int))=lft:=by
    rcases Fp with⟨h,_,_⟩ | ⟨h,_,_⟩ <;> rw[h]
    · exact decide_eq_true (by omega)
    · exact decide_eq_false (by omega)
  refine If.bne (fun h=>(h rfl).elim) fun _=>?_
  refine⟨Ext (Ts T) w,(Ext.refl _ _).drew,eY m,ae.dI (Cell.ah g rfl) (nT tb),s,ae.dI (Cell.ah g1 rfl) (nT NO),Ix.elem nd.nd.rd (bO L) (by decide) (by omega) (by omega) fun bb o Jr zR bS=>?_⟩;have zV:¬ Ts T bb:=nT (nd.sb _ zR).2.1;simp only[Int.toNat_natCast]at Jr bS;refine⟨_,ae.dI (bS 6 _ rfl) zV,_,ae.dI (bS 7 _ rfl) zV,_,ae.dI (bS 8 _ rfl) zV,Qz ?_⟩;have er:=nd.nd.get Jr;have U6:L[j].1.cd=rj:=er.cd.trans XZ;obtain⟨d0,dc⟩:=kV.drop R.Bj hrj;rw[U6];refine lC (pO (w:=aa w) (r:=rj) R fun cM R14 fI=>?_);rw[d0];generalize hM1:(kQ M rj).2=M1 at *;have BA:Ext (Ts T) w cM:=fI.ar;refine⟨BA,If.bne (fun h=>(h rfl).elim) fun _=>?_⟩;have jH:=ag g BA (nT tb);have aa2:=ag g1 BA (nT NO);have HF:=ag g3 BA (nT WE);have PA:=nd.ext BA fun q hq _ h=>h hq.2.1
  have adE:=nn.ext BA fun q hq _ h=>h hq
  have WG:=lm.ext BA fun q hq _ h=>h hq.2
  have s14:=BA.size;have sup:∀q,cM.heap.size<=q->T q=none:=fun q hq=>R14.mS hq
  have ll:l0.len=1:=WG.len;refine⟨Ext No cM,(Ext.refl _ _).drew,Ix.elem WG.rd (dv _ _ _) (by decide) (by decide) (by omega) fun MV o2 hi4 _ db=>?_⟩;replace db:∀jj v,(gQ (aN lev) lev x)[jj]? = some v->Cell cM ⟨MV,o2+jj,none⟩ v:=db
  refine⟨_,ae.cell (db 1 _ rfl),_,ae.cell (db 2 _ rfl),_,ae.cell (db 3 _ rfl),_,ae.cell (Cell.ah HF rfl),_,ae.cell (Cell.ah HF rfl),_,ae.cell (Cell.ah HF rfl),_,ae.cell (Cell.ah aa2 rfl),Nm.as Sb (Ix.elem PA.nd.rd (bO L) (by decide) (by omega) (by omega) fun bb3 o3 hi5 _ nZ=>?_)⟩;simp only[Int.toNat_natCast]at hi5 nZ;refine⟨_,ae.cell (nZ 0 _ rfl),?_⟩;have er1:=PA.nd.get hi5;have Qs:=ok e2 (by rw[eL];simp);have aa3:=DK.h_ e2 (by rw[eL];simp);have kpq:∀{ps:List Rf},(∀q∈ps,q∈pa++(p1++(p2++pc)))->iS M.f M1.f ps:=fun hs=>dc.cv fun q hq=> .inl fun h=>Ny q (hs q hq) (List.mem_singleton.1 h)
  have vJ:=h1.cv (kpq (ps:=p1) fun q hq=>by simp[hq]);have NC:=h2.cv (kpq (ps:=p2) fun q hq=>by simp[hq]);obtain⟨j1,j2,j3⟩:=Mg (above:=e2.key) vJ.right NC.right vJ.ok NC.ok Qs.2.1 aa3.2.2.2.2 vJ.body NC.body aa1 Yc;have jsz:=JG (kind:=aN lev) (lev:=lev) (la:=l1) (lb:=l2) (above:=e2.key);have WH:=xi (aN lev) l1 e2.key l2;have n1:=List.length_pos_iff.2 h1.ne;have n2:=List.length_pos_iff.2 h2.ne;have s1:=h1.short;have s2:=h2.short;have hx:lD cM.heap L[p+1].1 L[p+1].2:=er1
  have hxn:(ents x.L).length<=1000/\(ents Ln).length<=1000:=by
    have c1:=fZ h1.short;have c2:=fZ h2.short;rcases hl with h | h
    · rw[<- h.2.1,<- h.2.2.1];omega
    · rw[<- h.2.1,<- h.2.2.1];omega
  have hxr:aH (aN lev) lev (ents x.L)/\aH (aN lev) lev (ents Ln):=by
    rcases hl with h | h
    · rw[<- h.2.1,<- h.2.2.1];exact⟨h2.right,h1.right⟩
    · rw[<- h.2.1,<- h.2.2.1];exact⟨h1.right,h2.right⟩
  have WI:(wr (aN lev) lev l1).length+(wr (aN lev) lev l2).length<=300:=by
    rcases hl with h | h
    · rw[h.2.2.1]at s2 ⊢;omega
    · rw[h.2.1]at s1 ⊢;omega
  rw[adD]
  refine Mi (B:=fun q=>(base<=q/\T q=none/\q≠b/\q≠b1)/\cM.heap.size<=q) (w:=aa cM) (J:=dq (aN lev) l1 e2.key l2) (above:=e2.key) (WG.nd x (by simp)).nd adE.nd (by rw[<- adC];exact er1.k) Qs.2.1 hxr.1 hxr.2 (by have:=hxn.1;simp only[List.length_map]at this;omega) (by have:=hxn.2;simp only[List.length_map]at this;omega) (by omega) (fun q hq=>?_) ?_ j1 (by intro h;rw[h]at WH;simp at WH;omega) (fun hb=>Bs j1 hb (by omega)) fun ls sl dY adF pp sN=>⟨sN.ar,If.bne (fun h=>(h rfl).elim) fun _=>?_⟩
  · exact⟨⟨by have:cM.heap.size<=q:=hq;omega,sup q hq,by have:cM.heap.size<=q:=hq;omega,by have:cM.heap.size<=q:=hq;omega⟩,hq⟩
  · rcases hl with h | h
    · rw[h.1,h.2.1,h.2.2.1];rfl
    · rw[h.1,h.2.1,h.2.2.1];rfl
  have mZ:Ext No cM dY:=sN.ar;have Ue:=mZ.size;have PF:=ad jH mZ;have WJ:=ad aa2 mZ;have Tp:=PA.no mZ;refine⟨s,Cell.ah WJ rfl,Nm.as ur (Ix.elem Tp.nd.rd (bO L) (by decide) (by omega) (by omega) fun bb4 o4 hi6 _ xo=>?_)⟩;simp only[Int.toNat_natCast]at hi6 xo;refine⟨_,xo 0 _ rfl,s,Cell.ah WJ rfl,Nm.as Sb (Nm.as Sb (Ar.i64 (by omega) ?_))⟩;have hfk:=Tp.kb _ (List.getElem_mem hi6);have efk:=Tp.nd.get hi6;refine yw Tp (by omega) (by simpa using hp1) (by omega) fun s' kE SP tZ qC=>?_
  rw[Int.toNat_natCast]at SP;have WC:¬ s.aj=some b1:=fun h=>(nd.sb _ h).2.2.2 rfl
  have Ws:¬ s.aj=some b:=fun h=>(nd.sb _ h).2.2.1 rfl
  have CP:=ag WJ qC WC;refine aQ.mk CP (by simp) rfl fun fR KB=>?_
  have l_:Ext (·=b1) kE fR:=KB.ext;have QB:qn fR.heap b1 2 ((lev+1:Nat):Int) s':=KB.get CP;have xx:Ext (fun q=>s.aj=some q∨q=b1) dY fR:=(qC.mono fun _ _ h=> .inl h).trans l_ fun _ _ h=> .inr h
  have slt:∀q,s.aj=some q->q < w.heap.size/\base<=q/\T q=none:=fun q hq=>⟨(nd.own.lt hq).2,(nd.sb q hq).1,(nd.sb q hq).2.1⟩
  have bne:b≠b1:=fun h=>by
    have e:=g;rw[h,g1]at e;simp only[Option.some.injEq,Obj.cells.injEq]at e;exact absurd e.2.1 (by decide)
  refine Nm.as ur ?_;have fc:=ag (ag PF qC Ws) l_ bne;have JE:=SP.ext l_ fun q hq _ h=>hq.2.2.2 h
  have Tq:cX fR.heap (fun q=>(base<=q/\T q=none/\q≠b/\q≠b1)/\cM.heap.size<=q) (aN lev) lev sl ls:=adF.ext xx fun q hq _ h=>by
    rcases h with h | h
    · have:=slt q h;omega
    · omega
  have WK:bC fR.heap T m M1:=(R14.no mZ).ext xx fun q hq=>by
    rcases hq with h | h
    · exact(slt q h).2.2
    · rw[h];exact NO
  have rN:Ext (fun q=>Ts T q∨base<=q) w fR:=((BA.mono fun _ _ h=> .inl h).no mZ).trans xx fun q hq h=>by
    rcases h with h | h
    · exact .inr (slt q h).2.1
    · exact .inr (by omega)
  have Pz:ents (L.take (p+1)++L.drop (p+1+1))=a++(e1::c):=by
    show List.map Prod.snd _=_;rw[List.map_append,List.map_take,List.map_drop,show List.map Prod.snd L=_ from eL];rw[show a++(e1::e2::c)=(a++[e1])++(e2::c) by simp,List.take_left' (by simp[hp]),show p+1+1=(a++[e1]).length+1 by simp[hp],List.drop_append];simp
  have Tr:jr M1.f t lev (bn ls) (k1++k2) (p1++p2):=gR.KO pp j2 j3;have hrr:=fa.1 (eL ▸ DK.vU);have WL:=List.pairwise_cons.1 hrr.2.1;have hr3:=List.pairwise_cons.1 WL.2;have l12:bM e1.key e2.key:=WL.1 e2 (by simp);have adG:vT (a++(e1::e2::c)):=eL ▸ DK;have ok':qD (a++(e1::e2::c)):=eL ▸ ok;have adH:(L.take (p+1)++L.drop (p+1+1)).length<=1000:=by simp only[List.length_append,List.length_take,List.length_drop];omega
  have hkx:L[p].1.k.aj=L[p].1.k.aj:=rfl
  refine BG (i:=(p:Int)) (mid:=e1) WK fc QB tb NO jk JE (Tq.mono fun q _ h=>h.1) Tr Pz (by rw[hp]) ?_ (fun q hq=>?_) (fun y hy q hq=>?_) adG.del (fun e he=>ok' e ?_) dP ?_ adH (ba.cv (R:=fun p=>iS M.f M1.f p) (fun h=>⟨h.sub fun _ h=>List.mem_append_left _ h,h.sub fun _ h=>List.mem_append_right _ h⟩) (fun h hk=>bq.cv h hk) (kpq fun q hq=>by simp[hq]))
    (bc.cv (R:=fun p=>iS M.f M1.f p) (fun h=>⟨h.sub fun _ h=>List.mem_append_left _ h,h.sub fun _ h=>List.mem_append_right _ h⟩) (fun h hk=>bq.cv h hk) (kpq fun q hq=>by simp[hq])) Mn (fun y hy=>?_) (fun e he y hy=>?_) (fun h0=>?_) (by have:=dc.len;omega) fun sl' XD dG rs T' m' M' w' R' yz tg x lm' lp' DT HA=>k sl' XD dG rs T' m' M' w' R' yz (fun q hq=>tg q (Nat.lt_of_lt_of_le hq rN.size)) (rN.trans x fun q _ h=>h) lm' lp' ((dc.trans DT).as (by omega) (by simp) (by simp)) HA
  · have:=efk.k;rw[show L[p].2.key=e1.key by rw[hLp]]at this
    exact Rd.ext this xx fun a' q ha hq h=>by
      have h4:=hfk q (.inl (by have h9:L[p].1.k.a=some a':=ha;simp[Sl.aj,h9,hq]));rcases h with h | h
      · exact h4.2.2 h
      · exact h4.1.2.2.2 h
  · have h4:=hfk q (.inl hq);exact⟨h4.1,by have:=xx.size;omega,by rw[tZ];exact h4.2.2⟩
  · have:=(Tq.sep y hy).2.2 q hq;rw[tZ];intro h;have:=slt q h;omega
  · simp only[List.mem_append,List.mem_cons]at he ⊢;rcases he with h | h | h
    · exact .inl h
    · exact .inr (.inl h)
    · exact .inr (.inr (.inr h))
  · rw[eL,du,dh,dh]at gZ;rw[du,dh];omega
  · rcases List.mem_append.1 hy with h | h
    · exact lo1 y h
    · intro h5;exact Yc y h (h5.trans l12)
  · rcases List.mem_append.1 hy with h | h
    · exact(aa1 y h).trans (hr3.1 e he)
    · exact hc e he y h
  · have e2':aN lev=2:=if_neg (by omega);rw[e2']at pp WH;exact pp.Qx (by omega)
end
end Go.Proofs.YtpjbalhhlaofmaaGreat
namespace Go.V
theorem Ia{k:List Int}{o:Option (List Int)}{l:List KV}{x:KV}(h:x∈jo k o l):x.1=k∨x∈l:=by
 unfold jo at h;rcases List.mem_append.1 h with h | h
 .exact .inr (List.mem_filter.1 h).1
 .rcases List.mem_append.1 h with h | h
  .cases o with
   | none=>simp at h
   | some v=>simp at h;exact .inl (by rw[h])
  .exact .inr (List.mem_filter.1 h).1
end Go.V
namespace Go.Proofs.YtpjbalhhlaofmaaGreat
open Go.V
theorem pV{f:bR}{t:Int}{lev:Nat}{x:nA}{kvs:List KV}{ps:List Rf}(h:jr f t lev (bn [x]) kvs ps):uq f t lev (ents x.L) kvs ps:=by
 have e:bn [x]=[(x.key,ents x.L)]:=rfl;rw[e]at h;generalize x.key=k at h
 cases h with
 | one h=>exact h
section
variable {w:Wd} {T:Nat->Option Nat} {m:bJ} {M:Mm}
def BJ(b kD:Nat)(r j:Int)(FK:Sl)(J2:Int->Sl->Sl->Pw)(K:Sl->Int->Pw)(w:Wd):Prop:=
  ∃S:Pw,S (aa w)/\
  ∃oU:Value,ae S (Addr.mk b 0 none) (oU)/\
  ∃uh:Int,ae S ((Addr.mk b 0 none).add 1) (.int .u32 uh)/\
  ∃vH:Int,ae S (Addr.mk kD 0 none) (.int .u8 vH)/\
  ∃oW:Int,ae S ((Addr.mk kD 0 none).add 1) (.int .u8 oW)/\
  ∃lY:Sl,ae S ((Addr.mk kD 0 none).add 2) (.slice lY.a lY.len lY.cap)/\
  (
  dA vH oW lY j (aa w) fun Ib aa4 Hu aa5 dV=>
  S dV/\
  (
  bD oU uh Ib aa4 Hu aa5 dV fun Gh Gi Yd Tt di=>
  S di/\
  af di (.cells [.int .u8 0,.int .u8 0,.slice none 0 0].toArray 142) fun UG eN=>
  S eN/\
  List.length (α:=Value) [.int .u8 Gh,.int .u8 Gi,.slice Yd.a Yd.len Yd.cap]=3/\gT eN (Addr.mk UG 0 none) [.int .u8 Gh,.int .u8 Gi,.slice Yd.a Yd.len Yd.cap] fun cO=>
  S cO/\
  If (Tt != 0) (
  K ⟨none,0,0⟩ Tt cO) (
  ∃S:Pw,S (aa cO)/\
  ∃pP:Value,ae S (Addr.mk b 0 none) (pP)/\
  ∃nV:Sl,ae S ((Addr.mk kD 0 none).add 2) (.slice nV.a nV.len nV.cap)/\
  Ix nV.a nV.len j 9 fun Oo=>
  ∃lZ:Int,ae S (Oo.add 6) (.int .u32 lZ)/\
  ∃nW:Int,ae S ((Oo.add 6).add 1) (.int .u64 nW)/\
  ∃sQ:Int,ae S ((Oo.add 6).add 2) (.int .u16 sQ)/\
  Ad pP fun _y=>
  oh pz pP "Drop" [.agg ([.int .u32 lZ,.int .u64 nW,.int .u16 sQ]).toArray] [.one (.int .i64)] (fun Vz cM=>
  S cM/\
  If (Vz != 0) (
  K ⟨none,0,0⟩ Vz cM) (
  ∃S:Pw,S (aa cM)/\
  Ix FK.a FK.len 0 4 fun Sg=>
  ∃Bp:Int,ae S (Sg.add 1) (.int .u8 Bp)/\
  ∃xh:Int,ae S ((Sg.add 1).add 1) (.int .u8 xh)/\
  ∃zH:Sl,ae S ((Sg.add 1).add 2) (.slice zH.a zH.len zH.cap)/\
  ∃HO:Int,ae S (Addr.mk UG 0 none) (.int .u8 HO)/\
  ∃HP:Int,ae S ((Addr.mk UG 0 none).add 1) (.int .u8 HP)/\
  ∃zI:Sl,ae S ((Addr.mk UG 0 none).add 2) (.slice zI.a zI.len zI.cap)/\
  ∃qv:Sl,ae S ((Addr.mk kD 0 none).add 2) (.slice qv.a qv.len qv.cap)/\
  Nm (gV r j) fun TZ=>
  Ix qv.a qv.len TZ 9 fun YS=>
  ∃qw:Sl,ae S YS (.slice qw.a qw.len qw.cap)/\
  ei Bp xh zH HO HP zI qw (decide (j < r)) (aa cM) fun WD Qy dY=>
  S dY/\
  If (Qy != 0) (
  K ⟨none,0,0⟩ Qy dY) (
  ∃ig:Sl,Cell dY ((Addr.mk kD 0 none).add 2) (.slice ig.a ig.len ig.cap)/\
  Nm (gm r j) fun Rv=>
  Ix ig.a ig.len Rv 9 fun a_7=>
  ∃kT:Sl,Cell dY a_7 (.slice kT.a kT.len kT.cap)/\
  ∃mM:Sl,Cell dY ((Addr.mk kD 0 none).add 2) (.slice mM.a mM.len mM.cap)/\
  Nm (gV r j) fun SA=>
  Nm (gV r j) fun Sx=>
  Ar .i64 (Sx+1) fun VB=>
  aA mM SA VB dY fun LV kE=>
  aQ kE ((Addr.mk kD 0 none).add 2) (.slice LV.a LV.len LV.cap) fun fR=>
  Nm (gm r j) fun ZX=>
  J2 ZX WD kT fR))) cc ((aa cO))))/\(
  af dV (.cells [.int .u8 0,.int .u8 0,.slice none 0 0].toArray 142) fun XW vG=>
  S vG/\
  bD oU uh Ib aa4 Hu aa5 vG fun UH UI DW aa6 uK=>
  S uK/\
  List.length (α:=Value) [.int .u8 UH,.int .u8 UI,.slice DW.a DW.len DW.cap]=3/\gT uK (Addr.mk XW 0 none) [.int .u8 UH,.int .u8 UI,.slice DW.a DW.len DW.cap] fun oc=>
  S oc/\
  If (aa6 != 0) (
  K ⟨none,0,0⟩ aa6 oc) (
  ∃S:Pw,S (aa oc)/\
  ∃Dv:Value,ae S (Addr.mk b 0 none) (Dv)/\
  ∃yf:Sl,ae S ((Addr.mk kD 0 none).add 2) (.slice yf.a yf.len yf.cap)/\
  Ix yf.a yf.len j 9 fun a_8=>
  ∃PR:Int,ae S (a_8.add 6) (.int .u32 PR)/\
  ∃PS:Int,ae S ((a_8.add 6).add 1) (.int .u64 PS)/\
  ∃PT:Int,ae S ((a_8.add 6).add 2) (.int .u16 PT)/\
  Ad Dv fun _y_1=>
  oh pz Dv "Drop" [.agg ([.int .u32 PR,.int .u64 PS,.int .u16 PT]).toArray] [.one (.int .i64)] (fun T0 uL=>
  S uL/\
  If (T0 != 0) (
  K ⟨none,0,0⟩ T0 uL) (
  ∃S:Pw,S (aa uL)/\
  Ix FK.a FK.len 0 4 fun a_9=>
  ∃PU:Int,ae S (a_9.add 1) (.int .u8 PU)/\
  ∃PW:Int,ae S ((a_9.add 1).add 1) (.int .u8 PW)/\
  ∃JL:Sl,ae S ((a_9.add 1).add 2) (.slice JL.a JL.len JL.cap)/\
  ∃PY:Int,ae S (Addr.mk XW 0 none) (.int .u8 PY)/\
  ∃PZ:Int,ae S ((Addr.mk XW 0 none).add 1) (.int .u8 PZ)/\
  ∃HQ:Sl,ae S ((Addr.mk XW 0 none).add 2) (.slice HQ.a HQ.len HQ.cap)/\
  ∃rF:Sl,ae S ((Addr.mk kD 0 none).add 2) (.slice rF.a rF.len rF.cap)/\
  Nm (gV r j) fun z_8=>
  Ix rF.a rF.len z_8 9 fun WM=>
  ∃td:Sl,ae S WM (.slice td.a td.len td.cap)/\
  ei PU PW JL PY PZ HQ td (decide (j < r)) (aa uL) fun adI aa7 pf=>
  S pf/\
  If (aa7 != 0) (
  K ⟨none,0,0⟩ aa7 pf) (
  ∃rG:Sl,Cell pf ((Addr.mk kD 0 none).add 2) (.slice rG.a rG.len rG.cap)/\
  Nm (gm r j) fun z_9=>
  Ix rG.a rG.len z_9 9 fun adJ=>
  ∃Bd:Sl,Cell pf adJ (.slice Bd.a Bd.len Bd.cap)/\
  ∃Bf:Sl,Cell pf ((Addr.mk kD 0 none).add 2) (.slice Bf.a Bf.len Bf.cap)/\
  Nm (gV r j) fun adK=>
  Nm (gV r j) fun adL=>
  Ar .i64 (adL+1) fun adM=>
  aA Bf adK adM pf fun IA rJ=>
  aQ rJ ((Addr.mk kD 0 none).add 2) (.slice IA.a IA.len IA.cap) fun te=>
  Nm (gm r j) fun adN=>
  J2 adN adI Bd te))) cc ((aa oc)))))/\(
  af (aa w) (.cells [.int .u8 0,.int .u8 0,.slice none 0 0].toArray 142) fun T_ dH=>
  S dH/\
  dA vH oW lY j dH fun adO adP Jy adQ Bc=>
  S Bc/\
  bD oU uh adO adP Jy adQ Bc fun UJ UK DX aa8 qB=>
  S qB/\
  List.length (α:=Value) [.int .u8 UJ,.int .u8 UK,.slice DX.a DX.len DX.cap]=3/\gT qB (Addr.mk T_ 0 none) [.int .u8 UJ,.int .u8 UK,.slice DX.a DX.len DX.cap] fun zU=>
  S zU/\
  If (aa8 != 0) (
  K ⟨none,0,0⟩ aa8 zU) (
  ∃S:Pw,S (aa zU)/\
  ∃Dw:Value,ae S (Addr.mk b 0 none) (Dw)/\
  ∃yh:Sl,ae S ((Addr.mk kD 0 none).add 2) (.slice yh.a yh.len yh.cap)/\
  Ix yh.a yh.len j 9 fun WN=>
  ∃Mu:Int,ae S (WN.add 6) (.int .u32 Mu)/\
  ∃Mv:Int,ae S ((WN.add 6).add 1) (.int .u64 Mv)/\
  ∃Mw:Int,ae S ((WN.add 6).add 2) (.int .u16 Mw)/\
  Ad Dw fun _y_2=>
  oh pz Dw "Drop" [.agg ([.int .u32 Mu,.int .u64 Mv,.int .u16 Mw]).toArray] [.one (.int .i64)] (fun Ru zy=>
  S zy/\
  If (Ru != 0) (
  K ⟨none,0,0⟩ Ru zy) (
  ∃S:Pw,S (aa zy)/\
  Ix FK.a FK.len 0 4 fun WO=>
  ∃Mx:Int,ae S (WO.add 1) (.int .u8 Mx)/\
  ∃My:Int,ae S ((WO.add 1).add 1) (.int .u8 My)/\
  ∃HR:Sl,ae S ((WO.add 1).add 2) (.slice HR.a HR.len HR.cap)/\
  ∃Mz:Int,ae S (Addr.mk T_ 0 none) (.int .u8 Mz)/\
  ∃MA:Int,ae S ((Addr.mk T_ 0 none).add 1) (.int .u8 MA)/\
  ∃JM:Sl,ae S ((Addr.mk T_ 0 none).add 2) (.slice JM.a JM.len JM.cap)/\
  ∃yi:Sl,ae S ((Addr.mk kD 0 none).add 2) (.slice yi.a yi.len yi.cap)/\
  Nm (gV r j) fun adR=>
  Ix yi.a yi.len adR 9 fun adS=>
  ∃Bg:Sl,ae S adS (.slice Bg.a Bg.len Bg.cap)/\
  ei Mx My HR Mz MA JM Bg (decide (j < r)) (aa zy) fun adT UL vE=>
  S vE/\
  If (UL != 0) (
  K ⟨none,0,0⟩ UL vE) (
  ∃yj:Sl,Cell vE ((Addr.mk kD 0 none).add 2) (.slice yj.a yj.len yj.cap)/\
  Nm (gm r j) fun adU=>
  Ix yj.a yj.len adU 9 fun adV=>
  ∃Bh:Sl,Cell vE adV (.slice Bh.a Bh.len Bh.cap)/\
  ∃K6:Sl,Cell vE ((Addr.mk kD 0 none).add 2) (.slice K6.a K6.len K6.cap)/\
  Nm (gV r j) fun adW=>
  Nm (gV r j) fun adX=>
  Ar .i64 (adX+1) fun adY=>
  aA K6 adW adY vE fun OK OJ=>
  aQ OJ ((Addr.mk kD 0 none).add 2) (.slice OK.a OK.len OK.cap) fun IB=>
  Nm (gm r j) fun adZ=>
  J2 adZ adT Bh IB))) cc ((aa zU))))
theorem MW{t i:Int}{lev b b1 j:Nat}{l0 s:Sl}{L:List (aL×aF)}{ln:List aF}{J2:Int->Sl->Sl->Pw}{K:Sl->Int->Pw}
  (R:bC w.heap T m M) (g:w.heap[b]? = some (.cells [eY m,.int .u32 t].toArray 107 (0,0))) (g1:qn w.heap b1 2 ((lev+1:Nat):Int) s) (nd:ny w.heap s L) (hj:j < L.length) (SE:lev+1<=30) (hN:kg M.f t (aN lev) lev L[j].2.cd ln) (bA:ln≠[])
  (k:∀w' b3 sn Ln,Ext No w w'->w.heap.size<=b3->qn w'.heap b3 (aN lev) lev sn->ic w'.heap w.heap.size sn Ln->ents Ln=ln->rX b b1 b3 i j l0 J2 K 0 w'):BJ b b1 i j l0 J2 K w:=by
 unfold BJ;have ek:bE ((lev:Nat):Int)=aN lev:=K2 lev;have el:(((lev+1:Nat):Int) - 1)=lev:=by omega
 rw[<- ek]at hN;refine⟨Ext No w,(Ext.refl _ _).drew,_,ae.cell (Cell.ah g rfl),_,ae.cell (Cell.ah g rfl),_,ae.cell (Cell.ah g1 rfl),_,ae.cell (Cell.ah g1 rfl),_,ae.cell (Cell.ah g1 rfl),?_,?_⟩
 .refine mO (w:=aa w) nd (by omega) (by simpa using hj) (by omega) fun dV dW=>⟨dW.ar,?_,?_⟩
  .simp only[Int.toNat_natCast,el];have sS:=dW.ar;have Oz:=sS.size
   refine vL (R.no sS) hN bA fun sn Ln di oL eL fH=>⟨sS.no fH,?_⟩
   have So:=fH.size
   refine af.mk fun b3 eN mN=>⟨(sS.no fH).no mN.ext,um mN.get rfl fun cO fN ew JA=>?_⟩
   have h3:=mN.at_;have UM:Ext No di cO:=mN.ext.trans ew fun q hq h=>by omega
   have qy:Ext No w cO:=(sS.no fH).no UM;rw[ek]at fN;exact⟨qy,k cO b3 sn Ln qy (by omega) fN ((oL.no UM).mono Oz) eL⟩
  .simp only[Int.toNat_natCast,el];have sS:=dW.ar;have Oz:=sS.size
   refine af.mk fun b3 vG MX=>⟨sS.no MX.ext,?_⟩
   have h3:=MX.at_;have z18:=MX.size;have tf:=sS.no MX.ext
   refine vL (R.no tf) hN bA fun sn Ln di oL eL fH=>⟨tf.no fH,?_⟩
   refine um (ad MX.get fH) rfl fun cO fN ew JA=>?_
   have QC:Ext (·=b3) di cO:=ew;have qy:Ext No w cO:=(tf.no fH).trans ew fun q hq h=>by omega
   rw[ek]at fN;exact⟨qy,k cO b3 sn Ln qy (by omega) fN ((oL.ext QC fun q hq _ h=>by omega).mono (by omega)) eL⟩
 .refine af.mk fun b3 dH n25=>⟨n25.ext.ar,?_⟩
  have h3:=n25.at_;have z25:=n25.size;have h3':b3=w.heap.size:=h3;have afy:dH.heap.size=w.heap.size+1:=z25;have yl:Ext No w dH:=n25.ext.ar
  refine mO (nd.no yl) (by omega) (by simpa using hj) (by omega) fun Bc sO=>⟨yl.no sO,?_⟩
  simp only[Int.toNat_natCast,el];have s26:=sO.size;have WQ:=yl.no sO
  refine vL (R.no WQ) hN bA fun sn Ln di oL eL fH=>⟨WQ.no fH,?_⟩
  refine um (ad (ad n25.get sO) fH) rfl fun cO fN ew JA=>?_
  have QC:Ext (·=b3) di cO:=ew;have qy:Ext No w cO:=(WQ.no fH).trans ew fun q hq h=>by omega
  rw[ek]at fN;exact⟨qy,k cO b3 sn Ln qy (by omega) fN ((oL.ext QC fun q hq _ h=>by omega).mono (by omega)) eL⟩
end
section
variable {w:Wd} {T:Nat->Option Nat} {m:bJ} {M:Mm}
set_option maxHeartbeats 8000000 in
theorem Ic{t:Int}{lev:Nat}(ih:FI t lev):HZ t lev:=by
 intro w T m M base s L kvs ps oK oV key val d K R nd fq hr Kt Ca h2 hk hs ho hn k;apply sD;have sup:∀q,w.heap.size<=q->T q=none:=fun q hq=>R.mS hq
 have sh:=hr.shape;unfold iB at sh;have dP:lev+1<=30:=by rcases sh with h | h <;> omega
 have DK:vT (ents L):=hr.DK;have IY:=fZ Kt;have Gb:L.length<=1000:=by have:=mP (L:=L) rfl;omega
 have nl:=nd.nd.len;refine af.mk fun b w1 n1=>af.mk fun b1 w2 n2=>af.mk fun b2 w3 n3=>?_
 have hb:=n1.at_;have jk:=n2.at_;have jN:=n3.at_;have z1:=n1.size;have z2:=n2.size;have z3:=n3.size;have ib:Ext No w w3:=(n1.ext.no n2.ext).no n3.ext;have g3:=ad (ad n1.get n2.ext) n3.ext;have fN:=ad n2.get n3.ext;have DH:=n3.get;have XN:=nd.no ib
 have h0e:∃e l,ents L=e::l/\e.key=[]:=by
  cases hL:ents L with
  | nil=>exact absurd (by have:=congrArg List.length hL;rwa [List.length_map]at this) (show L.length≠0 by omega)
  | cons e l=>exact⟨e,l,rfl,DK.hd e l hL⟩
 refine⟨_,Cell.ah fN rfl,_,Cell.ah fN rfl,_,Cell.ah fN rfl,_,Cell.ah DH rfl,uj XN.nd (Rd.no ho.kR ib) ho.k8 (by omega) hr.ord h0e fun i w4 Pf x4=>?_⟩;have fg:Ext No w w4:=ib.no x4;have s4:=x4.size;have s04:=fg.size;have g4:=ad g3 x4;have jH:qn w4.heap b1 2 ((lev+1:Nat):Int) s:=ad fN x4;have se:=ad DH x4;have nd4:=XN.no x4
 -- the child
 have KL:i < L.length:=by have:=Pf.lt;simpa using this
 obtain⟨a,mid,c,eL,hia,hLi⟩ : ∃a mid c,ents L=a++(mid::c)/\i=a.length/\L[i].2=mid:=by
  refine⟨(ents L).take i,L[i].2,(ents L).drop (i+1),?_,?_,rfl⟩
  .conv=>lhs;rw[<- List.take_append_drop i (ents L),List.drop_eq_getElem_cons Pf.lt]
   simp
  .rw[List.length_take];have:=Pf.lt;omega
 have hL2:L.length=a.length+(c.length+1):=by have:=congrArg List.length eL;simpa using this
 have cle:∀e∈a++[mid],¬ bM key e.key:=fun e he=>by
  obtain⟨j,hj,rfl⟩:=List.getElem_of_mem he;have mH:j < (ents L).length:=by rw[eL];simp at hj ⊢;omega
  have:=Pf.le j mH (by simp at hj;omega)
  have e2:(ents L)[j]=(a++[mid])[j]:=by
   have e3:ents L=(a++[mid])++c:=by rw[eL];simp
   simp only[e3];rw[List.getElem_append_left hj]
  rw[<- e2];exact this
 have cgt:∀e∈c,bM key e.key:=fun e he=>by
  obtain⟨j,hj,rfl⟩:=List.getElem_of_mem he;have mH:i+1+j < (ents L).length:=by rw[eL];simp;omega
  have:=Pf.gt (i+1+j) mH (by omega)
  have e2:(ents L)[i+1+j]=c[j]:=by
   have e3:ents L=(a++[mid])++c:=by rw[eL];simp
   simp only[e3];rw[List.getElem_append_right (by simp;omega)];congr 1;simp;omega
  rw[<- e2];exact this
 have mQ:jM (a++(mid::c)):=eL ▸ DK.vU;rw[eL]at hk;obtain⟨ka,kb',pa,pb',ba,Rn,rfl,rfl,Mn⟩:=aM.split hk mQ
 cases Rn with
 | @cons _ _ DN kc pm pc hT lo hi bc=>
 have hrc:=List.pairwise_cons.1 (fa.1 mQ).2.1
 have hcm:∀e∈c,∀x∈DN,bM x.1 e.key:=fun e he x hx=>by
  cases c with
  | nil=>cases he
  | cons e0 c' =>
   have h1:=hi e0 c' rfl x hx;rcases List.mem_cons.1 he with h | h
   .rw[h];exact h1
   .exact h1.trans ((List.pairwise_cons.1 hrc.2).1 e h)
 have kca:∀x∈ka,bM x.1 key:=fun x hx=>(Mn mid (by simp) x hx).KM (cle mid (by simp))
 have kcc:∀x∈kc,bM key x.1:=fun x hx=>by
  cases c with
  | nil=>cases bc;cases hx
  | cons e0 c'=>exact(cgt e0 (by simp)).KM (vK bc (e_.2 hrc.2) _ _ rfl x hx)
 have hop:jo key (ID d val) (ka++(DN++kc))=ka++(jo key (ID d val) DN++kc):=vN kca kcc;rw[hop]at k;generalize hkm:jo key (ID d val) DN=WR at *
 have lo':∀x∈WR,¬ bM x.1 mid.key:=fun x hx=>by
  rw[<- hkm]at hx;rcases Ia hx with h | h
  .rw[h];exact cle mid (by simp)
  .exact lo x h
 have B_:∀e∈c,∀x∈WR,bM x.1 e.key:=fun e he x hx=>by
  rw[<- hkm]at hx;rcases Ia hx with h | h
  .rw[h];exact cgt e he
  .exact hcm e he x h
 have hsm:Sub pm M:=Sub.left (Sub.right hs)
 have nS:∀{q},q < w4.heap.size->T q=none->¬ (Ts T q∨w4.heap.size<=q):=fun h1 h2 h=>by
  rcases h with h | h
  .exact h h2
  .omega
 have nSb:=nS (q:=b) (by omega) (sup b (by omega));have Tu:=nS (q:=b1) (by omega) (sup b1 (by omega));have WS:=nS (q:=b2) (by omega) (sup b2 (by omega));refine⟨Ext (fun q=>Ts T q∨w4.heap.size<=q) w4,(Ext.refl _ _).drew,eY m,ae.dI (Cell.ah g4 rfl) nSb,_,ae.dI (Cell.ah g4 rfl) nSb,_,ae.dI (Cell.ah jH rfl) Tu,_,ae.dI (Cell.ah jH rfl) Tu,_,ae.dI (Cell.ah jH rfl) Tu,_,ae.dI (Cell.ah se rfl) WS,_,ae.dI (Cell.ah se rfl) WS,_,ae.dI (Cell.ah se rfl) WS,?_⟩
 refine mO (w:=aa w4) nd4.nd (by omega) (by simpa using KL) (by omega) fun w5 x5=>⟨x5.ar.aE.mono fun _ _ h=>h,?_⟩
 have ML:Ext No w4 w5:=x5.ar;have xY:Ext No w w5:=fg.no ML;have s5:=ML.size;have el:(((lev+1:Nat):Int) - 1)=lev:=by omega
 simp only[Int.toNat_natCast,el,hLi];refine ih (R.no xY) hT hsm (ho.ext xY.aE fun _ _ h=>h) hn fun l0 WT Tn T' m' M' w6 A=>?_
 rw[hkm]at A;obtain⟨R6,yz,tg,zY,WU,lp6,cg⟩:=A
 have KC:Ext (fun q=>Ts T q∨w4.heap.size<=q) w4 w6:=ML.aE.trans zY fun q hq h=>by
  rcases h with h | h
  .exact .inl h
  .exact .inr (by omega)
 have s6:=zY.size;have g6:=ag g4 KC nSb;have so:qn w6.heap b1 2 ((lev+1:Nat):Int) s:=ag jH KC Tu;have Gf:∀q,q < w5.heap.size->T' q=T q:=tg
 have tb':T' b=none:=by rw[Gf b (by omega)];exact sup b (by omega)
 have aa9:T' b1=none:=by rw[Gf b1 (by omega)];exact sup b1 (by omega)
 rw[<- jw yz]at g6
 have nd6:ki w6.heap (fun q=>base<=q/\T' q=none/\q≠b/\q≠b1) s L:=((nd.mono (B':=fun q=>base<=q/\T' q=none/\q≠b/\q≠b1/\q < w.heap.size) fun q hq h=>⟨h.1,by rw[Gf q (by omega)];exact h.2,by omega,by omega,hq⟩).ext (fg.aE.trans KC fun _ _ h=>h) fun q hq _ h=>by
  have:=Gf q (by omega);rcases h with h | h
  .exact h (by rw[<- this];exact hq.2.1)
  .omega).mono fun q _ h=>⟨h.1,h.2.1,h.2.2.1,h.2.2.2.1⟩
 have ad0:cX w6.heap (fun q=>(base<=q/\T' q=none/\q≠b/\q≠b1)/\w5.heap.size<=q) (aN lev) lev l0 WT:=WU.mono fun q _ h=>⟨⟨by omega,h.2,by omega,by omega⟩,h.1⟩
 have SI:l0.len=WT.length:=WU.len;have slt:∀q,s.aj=some q->q < w.heap.size:=fun q hq=>(nd.own.lt hq).2
 refine⟨KC,If.bne (fun h=>(h rfl).elim) fun _=>⟨s,Cell.ah so rfl,Ix.elem nd6.nd.rd (bO L) (by decide) (by omega) (by omega) fun bb o Jr zR bS=>?_⟩⟩;simp only[Int.toNat_natCast]at Jr bS
 have AP:Ext (fun q=>Ts T q∨base<=q) w w6:=fg.aE.trans KC fun q hq h=>by
  rcases h with h | h
  .exact .inl h
  .exact .inr (by omega)
 refine⟨_,bS 0 _ rfl,fun i l first w'=>ky b b1 i l first K w',⟨fun t' w'=>Ext No w6 w'/\(t'=true->∃x,WT=[x]/\3 * (wr (aN lev) lev (ents x.L)).length < 224)/\(t'=false->0 < lev->∀x∈bn WT,2<=x.2.length),?_,?_⟩,fun _ i l first w' h=>h⟩
 .refine If.beq (fun h1=>⟨s,Cell.ah so rfl,If.dec (fun _=>?_) fun h=>by omega⟩) fun h1=>?_
  .obtain⟨x,rfl⟩ : ∃x,WT=[x]:=List.length_eq_one_iff.1 (by omega)
   have lx:=pV lp6;have hxc:=fZ lx.short;refine Ix.elem WU.rd (dv _ _ _) (by decide) (by decide) (by omega) fun MV o2 hi4 _ db=>?_
   replace db:∀jj v,(gQ (aN lev) lev x)[jj]? = some v->Cell w6 ⟨MV,o2+jj,none⟩ v:=db
   refine⟨_,db 1 _ rfl,_,db 2 _ rfl,_,db 3 _ rfl,Px (WU.nd x (by simp)).nd lx.right (by simp only[List.length_map]at hxc;omega) fun w7 x7=>If.dec (fun Ie=>⟨x7,fun _=>⟨x,rfl,Ie⟩,fun h=>absurd h (by decide)⟩) fun Ie=>?_⟩;refine Ix.elem (WU.no x7).rd (dv _ _ _) (by decide) (by decide) (by omega) fun bb3 o3 hi5 _ nZ=>?_
   replace nZ:∀jj v,(gQ (aN lev) lev x)[jj]? = some v->Cell w7 ⟨bb3,o3+jj,none⟩ v:=nZ
   have h2x:0 < lev->2<=(ents x.L).length:=fun h0=>by
    have e2:aN lev=2:=if_neg (by omega);have hh:=lx.right;rw[e2]at hh Ie;rw[eZ]at Ie;have uJ:=hh.DK
    cases hx:ents x.L with
    | nil=>exact(lx.ne hx).elim
    | cons e l=>
     cases l with
     | nil=>
      have:=uJ.hd e [] hx;rw[hx,dh,nC,this,pT]at Ie;simp at Ie
     | cons e2 l=>simp
   have fin:∀q∈bn [x],0 < lev->2<=q.2.length:=fun q hq h0=>by
    have:q=(x.key,ents x.L):=by simpa[bn] using hq
    rw[this];exact h2x h0
   refine⟨_,nZ 1 _ rfl,If.beq (fun CJ=>Ix.elem (WU.no x7).rd (dv _ _ _) (by decide) (by decide) (by omega) fun bb4 o4 hi6 _ xo=>?_) fun CJ=>⟨x7,fun h=>absurd h (by decide),fun _ h0 q hq=>fin q hq h0⟩⟩;replace xo:∀jj v,(gQ (aN lev) lev x)[jj]? = some v->Cell w7 ⟨bb4,o4+jj,none⟩ v:=xo
   have h0:0 < lev:=by
    rcases Nat.eq_zero_or_pos lev with h | h
    .subst h;exact absurd CJ (by decide)
    .exact h
   have XT:=(WU.nd x (by simp)).nd.len;have:=h2x h0;simp only[List.length_map]at this;refine⟨_,xo 3 _ rfl,x7,fun h=>?_,fun _ h0 q hq=>fin q hq h0⟩;have h':((x.s.len:Int) == 1)=true:=h;have:=of_decide_eq_true h';omega
  .refine⟨Ext.refl _ _,fun h=>absurd h (by decide),fun _ h0 x hx=>?_⟩;have RQ:(bn WT).length≠1:=by simp only[bn,List.length_map];omega
   revert hx RQ
   generalize bn WT=lo at lp6;intro hx RQ
   cases lp6 with
   | nil=>cases hx
   | one h=>simp at RQ
   | two _ _ _ _ _ _ _ n1 n2=>
    simp only[List.mem_cons,List.not_mem_nil,or_false]at hx;rcases hx with h | h <;> subst h
    .exact n1 h0
    .exact n2 h0
 rintro _ t' w8 ⟨x8,ht1,ht2⟩;have RF:=x8.size;have R8:=R6.no x8;have g8:=ad g6 x8;have zD:qn w8.heap b1 2 ((lev+1:Nat):Int) s:=ad so x8;have KH:=nd6.no x8;have lm8:=ad0.no x8;have gZ:szL 2 (ents L)<=297:=by rw[eZ]at Kt;omega
 have XG:M'.aC.length<=1000100:=by have:=cg.len;omega
 have od:Ext (fun q=>Ts T q∨base<=q) w w8:=AP.no x8
 have ts:∀{q},q < w.heap.size->(Ts T' q∨base<=q)->(Ts T q∨base<=q):=fun {q} hq h=>by
  rcases h with h | h
  .exact .inl (by show T q≠none;rw[<- Gf q (by omega)];exact h)
  .exact .inr h
 have kpa:iS M.f M'.f pa:=cg.cv fun q hq=> .inl fun h=>Sub.apart R.Bj hs hq (List.mem_append_left _ h)
 have kpc:iS M.f M'.f pc:=cg.cv fun q hq=> .inl fun h=>Sub.apart R.Bj (Sub.right hs) h hq
 have ba':aM (bq M'.f t lev) a ka pa:=ba.cv (R:=fun p=>iS M.f M'.f p) (fun h=>⟨h.sub fun _ h=>List.mem_append_left _ h,h.sub fun _ h=>List.mem_append_right _ h⟩) (fun h hk=>bq.cv h hk) kpa;have bc':aM (bq M'.f t lev) c kc pc:=bc.cv (R:=fun p=>iS M.f M'.f p) (fun h=>⟨h.sub fun _ h=>List.mem_append_left _ h,h.sub fun _ h=>List.mem_append_right _ h⟩) (fun h hk=>bq.cv h hk) kpc
 -- the aC acT are there
 have DU:Sub (Tn++(pa++pc)) M':=fun q=>by
  have h1:=hs q;have h2:=cg.HA q;simp only[List.count_append]at h1 h2 ⊢;omega
 refine If.cases (fun h=>?_) fun h=>?_
 .subst h;obtain⟨x,rfl,Ie⟩:=ht1 rfl;have lx:=pV lp6
  have big:∀{jn:Nat}(hj:jn < L.length){nb:aF}{kj:List KV}{pj:List Rf},L[jn].2=nb->bq M'.f t lev nb.cd kj pj->(∀{w9:Wd},Ext No w8 w9->(∀cO b3 sn Ln ln Ye,Ext No w9 cO->w9.heap.size<=b3->qn cO.heap b3 (aN lev) lev sn->ic cO.heap w9.heap.size sn Ln->ents Ln=ln->uq M'.f t lev ln kj Ye->pj=nb.cd::Ye->rX b b1 b3 i jn l0 (fun i l first w'=>ky b b1 i l first K w') K 0 cO)->BJ b b1 i jn l0 (fun i l first w'=>ky b b1 i l first K w') K w9):=fun {jn} hj {nb kj pj} hnb hS {w9} x9 hk=>by
   obtain⟨ln,Ye,hN,bA,h2n,hB,epj⟩:=hS.open_;refine MW (R8.no x9) (ad g8 x9) (ad zD x9) (KH.no x9).nd hj dP (by rw[hnb];exact hN) bA fun cO b3 sn Ln ew vB fN zE SR=>hk cO b3 sn Ln ln Ye ew vB fN zE SR ⟨hN.right,hN.short,hN.ok,hB,bA⟩ epj
  have fin:∀{w9 cO:Wd}{b3 jn p:Nat}{sn:Sl}{Ln:List (aL×aF)}{a' c' l1 l2:List aF}{e1 e2:aF}{lft:Bool}{rj:Rf}{ka' k1 k2 kc':List KV}{pa' p1 p2 pc':List Rf},Ext No w8 w9->Ext No w9 cO->w9.heap.size<=b3->qn cO.heap b3 (aN lev) lev sn->ic cO.heap w9.heap.size sn Ln->ents L=a'++(e1::e2::c')->p=a'.length->
    ((lft=true/\l1=ents Ln/\l2=ents x.L/\i=p+1/\jn=p/\rj=e1.cd)∨(lft=false/\l1=ents x.L/\l2=ents Ln/\i=p/\jn=p+1/\rj=e2.cd))->uq M'.f t lev l1 k1 p1->uq M'.f t lev l2 k2 p2->aM (bq M'.f t lev) a' ka' pa'->aM (bq M'.f t lev) c' kc' pc' ->
    (∀x∈ka',bM x.1 e1.key)->(∀x∈k1,¬ bM x.1 e1.key)->(∀x∈k1,bM x.1 e2.key)->(∀x∈k2,¬ bM x.1 e2.key)->(∀e∈c',∀x∈k2,bM x.1 e.key)->ka'++((k1++k2)++kc')=ka++(WR++kc)->(∀q,(Tn++(pa++pc)).count q=([rj]++(pa'++(p1++(p2++pc')))).count q)->rj∈pa++(pm++pc)->
    rX b b1 b3 i jn l0 (fun i l first w'=>ky b b1 i l first K w') K 0 cO:=fun {w9 cO b3 jn p sn Ln a' c' l1 l2 e1 e2 lft rj ka' k1 k2 kc' pa' p1 p2 pc'} x9 ew vB fN zE Pz hp hl h1 h2 ba2 bc2 o1 o2 o3 o4 o5 ekv aba hrm=>by
   have uD:=x9.no ew;have z9:=x9.size;have JA:=ew.size;have Qt:∀q,w8.heap.size<=q->T' q=none:=fun q hq=>R8.mS hq
   have DV:Sub ([rj]++(pa'++(p1++(p2++pc')))) M':=fun q=>by rw[<- aba q];exact DU q
   refine MU (R8.no uD) (ad g8 uD) (ad zD uD) fN tb' aa9 (Qt b3 (by omega)) (by omega) (KH.no uD) (zE.q fun q hq _=>Qt q (by omega)) ((lm8.no uD).mono fun q _ h=>⟨h.1.1,h.1.2.1⟩) Pz hp hl h1 h2 Ie (Sub.mem DV (by simp)) (fun q hq h=>Sub.apart R8.Bj DV (q:=rj) (by simp) (by rw[<- h];exact hq)) DK Ca dP gZ Gb ba2 bc2 o1 o2 o3 o4 o5 (by omega) fun sl ls dG rs T2 m2 M2 w2 R2 JT MK x2 MY lp2 WV WW=>?_
   refine k sl ls dG T2 m2 M2 w2 ⟨R2,JT.trans yz,fun q hq=>by rw[MK q (by have:=uD.size;omega)];exact Gf q (by omega),(od.no uD).trans x2 fun q hq h=>ts hq h,MY,ekv ▸ lp2,?_⟩;refine(cg.trans WV).as (by omega) (fun q hq=>?_) fun q=>?_
   .rcases List.mem_append.1 hq with h | h
    .simp[h]
    .rw[List.mem_singleton]at h;subst h;exact hrm
   .have h5:=aba q;have h6:=WW q;simp only[List.count_append]at h5 h6 ⊢;omega
  have at_:∀{jn:Nat}{l1 l2:List aF}{nb:aF}(hj:jn < L.length),ents L=l1++(nb::l2)->jn=l1.length->L[jn].2=nb:=fun {jn l1 l2 nb} hj e1 e2=>by
   have h3:=congrArg (fun l=>l[jn]?) e1;simp only[List.getElem?_map,List.getElem?_eq_getElem hj,Option.map_some]at h3;rw[List.getElem?_append_right (by omega),show jn - l1.length=0 by omega]at h3;simpa using h3
  refine Ar.i64 (by omega) ⟨fun j w'=>Ext No w8 w'/\(0 < i->j=((i - 1:Nat):Int))/\(i=0->j=((1:Nat):Int)),If.dec (fun h=>Ar.i64 (by omega) ⟨Ext.refl _ _,fun _=>by omega,fun h=>by omega⟩) fun h=>⟨Ext.refl _ _,fun h=>by omega,fun h=>by omega⟩,?_⟩;rintro _ j w9 ⟨x9,X6,Vo⟩;rcases Nat.eq_zero_or_pos i with h0 | h0
  .have ha:a=[]:=List.eq_nil_of_length_eq_zero (by omega);subst ha
   cases ba with
   | nil=>
   cases c with
   | nil=>simp only[List.length_nil]at hL2;omega
   | cons nb c=>
   cases bc' with
   | @cons _ _ kj kc2 pj pc2 Zk Yc uJ bc2=>
   rw[Vo h0];have ad1:=List.pairwise_cons.1 hrc.2;refine big (jn:=1) (nb:=nb) (by omega) (at_ (l1:=[mid]) (l2:=c) (by omega) eL rfl) Zk x9 fun cO b3 sn Ln ln Ye ew vB fN zE SR hL5 epj=>?_
   subst epj;refine fin (p:=0) (a':=[]) (lft:=false) (rj:=nb.cd) (ka':=[]) (pa':=[]) x9 ew vB fN zE eL rfl (.inr ⟨rfl,rfl,SR.symm,h0,rfl,rfl⟩) lx hL5 .nil bc2 (fun x hx=>by cases hx) lo' (fun x hx=>B_ nb (by simp) x hx) Yc (fun e he x hx=>?_) (by simp) (fun q=>?_) (by simp)
   .cases c with
    | nil=>cases he
    | cons e0 c' =>
     have h1:=uJ e0 c' rfl x hx;rcases List.mem_cons.1 he with h | h
     .rw[h];exact h1
     .exact h1.trans ((List.pairwise_cons.1 ad1.2).1 e h)
   .simp only[List.count_append,List.count_cons,List.count_nil];omega
  .have abb:a≠[]:=fun h=>by rw[h]at hia;simp at hia;omega
   obtain⟨a2,nb,rfl⟩ : ∃a2 nb,a=a2++[nb]:=⟨a.dropLast,a.getLast abb,(List.dropLast_concat_getLast abb).symm⟩
   have hal:i=a2.length+1:=by simpa using hia
   have Uy:ents L=a2++(nb::mid::c):=by rw[eL];simp
   obtain⟨ka2,kb2,pa2,pb2,bb1,MV,rfl,rfl,hk3⟩:=aM.split ba' (fa.1 mQ).1
   cases MV with
   | @cons _ _ kj kx pj px Zk Yc uJ bx=>
   cases bx
   rw[X6 h0];refine big (jn:=i - 1) (nb:=nb) (by omega) (at_ (l1:=a2) (l2:=mid::c) (by omega) Uy (by omega)) Zk x9 fun cO b3 sn Ln ln Ye ew vB fN zE SR hL5 epj=>?_
   subst epj;refine fin (p:=a2.length) (a':=a2) (lft:=true) (rj:=nb.cd) x9 ew vB fN zE Uy rfl (.inl ⟨rfl,SR.symm,rfl,hal,by omega,rfl⟩) hL5 lx bb1 bc' (fun x hx=>hk3 nb (by simp) x hx) Yc (fun x hx=>Mn mid (by simp) x (by simp[hx])) lo' (fun e he x hx=>B_ e he x hx) (by simp) (fun q=>?_) (by simp);simp only[List.count_append,List.count_cons,List.count_nil];omega
 .subst h;have efk:=KH.nd.get (L:=L) KL;have hfk:=KH.kb _ (List.getElem_mem KL);refine BG R8 g8 zD tb' aa9 (by omega) KH (lm8.mono fun q _ h=>h.1) lp6 eL (by rw[hia]) (by have:=efk.k;rw[hLi]at this;exact this) (fun q hq=>hfk q (.inl hq)) (fun y hy q hq h=>by have:=(lm8.sep y hy).2.2 q hq;have:=slt q h;omega) (eL ▸ DK) (eL ▸ Ca) dP (by rw[<- eL];exact gZ) Gb ba' bc' (fun x hx=>Mn mid (by simp) x hx) lo' B_ (ht2 rfl) (by omega) fun sl ls dG rs T2 m2 M2 w2 R2 JT MK x2 MY lp2 WV WW=>?_
  refine k sl ls dG T2 m2 M2 w2 ⟨R2,JT.trans yz,fun q hq=>by rw[MK q (by omega)];exact Gf q (by omega),od.trans x2 fun q hq h=>ts hq h,MY,lp2,?_⟩;refine(cg.trans WV).as (by omega) (fun q hq=>?_) fun q=>?_
  .rw[List.append_nil]at hq;simp[hq]
  have:=WW q;simp only[List.count_append,List.count_nil]at this ⊢;omega
theorem DY{t:Int}:∀lev:Nat,FI t lev
 | 0=>BE fun l' h=>absurd h (by omega)
 | lev+1=>BE fun l' h=>by cases h;exact Ic (DY lev)
end
end Go.Proofs.YtpjbalhhlaofmaaGreat
namespace Go.V
section
variable {f:bR} {t:Int}
theorem QD{lev:Nat}{D:List LD}{rs:List Rf}(dP:lev+1<=30)(Hy:D.length=2)(hlen:rs.length=D.length)(hD:∀i (h:i < D.length) (h':i < rs.length),bq f t lev rs[i] D[i].kv (rs[i]::D[i].p))(hr:∀r∈rs,r.ok/\r ≠ .z)
  (two:∀d1 d2,D=[d1,d2]->1<=d2.k.length/\d2.k.length<=32/\B8 d2.k/\(∀x∈d1.kv,bM x.1 d2.k)/\(∀x∈d2.kv,¬ bM x.1 d2.k)) :
  ∃l,f_ [] (D.map fun d=>(d.k,d.l)) rs=l/\aH 2 ((lev+1:Nat):Int) l/\qD l/\l.length=2/\(wr 2 ((lev+1:Nat):Int) l).length<=224/\∃pm,aM (bq f t lev) l ((D.map LD.kv).flatten) pm/\∀q,pm.count q=rs.count q+(D.map LD.p).flatten.count q:=by
 obtain⟨d1,d2,r1,r2,rfl,rfl⟩ : ∃d1 d2 r1 r2,D=[d1,d2]/\rs=[r1,r2]:=by
  match D,rs,hlen,Hy with
  | [d1,d2],[r1,r2],_,_=>exact⟨d1,d2,r1,r2,rfl,rfl⟩
 have Fm:bq f t lev r1 d1.kv (r1::d1.p):=hD 0 (by simp) (by simp);have Jo:bq f t lev r2 d2.kv (r2::d2.p):=hD 1 (by simp) (by simp);have h1:=hr r1 (by simp);have h2:=hr r2 (by simp);obtain⟨t1,t2,t3,t4,t5⟩:=two d1 d2 rfl;refine⟨[zG [] r1,zG d2.k r2],rfl,vT.right ⟨fun e he=>?_,List.pairwise_cons.2 ⟨fun y hy=>?_,List.pairwise_singleton _ _⟩,fun e l' h=>?_⟩ (by simp) (by omega),fun e he=>?_,rfl,?_,(r1::d1.p)++(r2::d2.p),?_,fun q=>?_⟩
 .simp only[List.mem_cons,List.not_mem_nil,or_false]at he;rcases he with h | h <;> subst h
  .exact⟨h1.2,rfl,rfl,rfl,Nat.zero_le _⟩
  .exact⟨h2.2,rfl,rfl,rfl,t2⟩
 .rw[List.mem_singleton]at hy;subst hy;obtain⟨u,hu⟩:=List.exists_mem_of_ne_nil _ Fm.ne;exact bM.of_le (kW u.1) (t4 u hu)
 .simp only[List.cons.injEq]at h;rw[<- h.1]
 .simp only[List.mem_cons,List.not_mem_nil,or_false]at he;rcases he with h | h <;> subst h
  .exact⟨⟨by show Rf.z.ok;decide,h1.1⟩,B8.nil,B8.nil⟩
  .exact⟨⟨by show Rf.z.ok;decide,h2.1⟩,t3,B8.nil⟩
 .rw[eZ,dh,dh,nC,nC,pT];simp only[List.length_nil];omega
 .have k1:aM (bq f t lev) [zG [] r1] d1.kv (r1::d1.p):=aM.one Fm fun x _=>kW _
  have k2:aM (bq f t lev) [zG d2.k r2] d2.kv (r2::d2.p):=aM.one Jo t5;have:=aM.append k1 k2 (fun e b' h x hx=>by simp only[List.cons.injEq]at h;rw[<- h.1];exact t4 x hx);simpa using this
 .simp only[List.map_cons,List.map_nil,List.flatten_cons,List.flatten_nil,List.append_nil,List.count_cons,List.count_nil,List.count_append];omega
end
end Go.V
namespace Go.Proofs.YtpjbalhhlaofmaaGreat
open Go.V
section
variable {w:Wd} {T:Nat->Option Nat} {m:bJ} {M:Mm}
theorem zN{b:Nat}{p c g v:Int}{zs:List Value}{K:Int->Int->Int->Int->Pw}(hb:w.heap[b]? = some (.cells zs.toArray 30 (0,0)))(hz:zs.length=4)(k:∀w',Ext (·=b) w w'->w'.heap.size=w.heap.size->K p c g v w') :
  List.length (α:=Value) [.int .u32 p,.int .u64 c,.int .u16 g,.int .u8 v]=4/\gT w (Addr.mk b 0 none) [.int .u32 p,.int .u64 c,.int .u16 g,.int .u8 v] fun w3=>
 ∃c:Int,Cell w3 (Addr.mk b 0 none) (.int .u32 c)/\
 ∃jz:Int,Cell w3 ((Addr.mk b 0 none).add 1) (.int .u64 jz)/\
 ∃ia:Int,Cell w3 ((Addr.mk b 0 none).add 2) (.int .u16 ia)/\
 ∃oN:Int,Cell w3 ((Addr.mk b 0 none).add 3) (.int .u8 oN)/\
 K c jz ia oN w3:=cR hb rfl hz (by simp[aJ]) fun w' g x z=>⟨_,Cell.ah g rfl,_,Cell.ah g rfl,_,Cell.ah g rfl,_,Cell.ah g rfl,k w' x z⟩
set_option maxHeartbeats 4000000 in
theorem JU{t:Int}{lev:Nat}{l:Sl}{fT:List nA}{DN:List KV}{pm:List Rf}{K:Int->Int->Int->Int->Int->Pw}
  (R:bC w.heap T m M) (lm:cX w.heap (fun q=>T q=none) (aN lev) lev l fT) (lp:jr M.f t lev (bn fT) DN pm) (dP:lev+1<=30) (hn:M.aC.length<=1048000) (VX:∀x,fT=[x]->0 < lev->(ents x.L).length≠1->2<=(ents x.L).length)
  (k:∀(r:Rf)(lv:Nat) dG rs T' m' M' w',bC w'.heap T' m' M'->m'.bm=m.bm->Tg w T T'->Ext (Ts T) w w'->dS M'.f t r lv DN dG->lv<=30->kV M M' 3 [] rs->(∀q,dG.count q=pm.count q+rs.count q)->K r.p r.c r.g lv 0 w'):ir (eY m) t l lev w K:=by
 apply tI;obtain⟨D,eD,FJ,hp,hDl,hD2,hDt⟩:=lp.data;have sup:∀q,w.heap.size<=q->T q=none:=fun q hq=>R.mS hq
 have nT:∀{q},T q=none->¬ Ts T q:=fun h h'=>h' h
 have SI:l.len=fT.length:=lm.len;have hDn:D.length=fT.length:=by have:=congrArg List.length eD;simpa[bn] using this
 refine af.mk fun b w1 n1=>af.mk fun b1 w2 n2=>?_
 have hb:=n1.at_;have jk:=n2.at_;have z1:=n1.size;have z2:=n2.size;have jA:Ext No w w2:=n1.ext.no n2.ext;have g2:=ad n1.get n2.ext;have Cd:=n2.get;have MY:=lm.no jA;refine If.beq (fun h0=>zN Cd rfl fun w3 x3 z3=>?_) fun h0=>If.beq (fun h1=>?_) fun h1=>?_
 .-- no afz
  have XB:fT=[]:=List.eq_nil_of_length_eq_zero (by omega);subst XB;have ib:Ext No w w3:=jA.trans x3 fun q hq h=>by omega
  cases lp
  exact k .z 0 [] [] T m M w3 (R.no ib) rfl (fun _ _=>rfl) ib.aE (.inl ⟨rfl,rfl,rfl,rfl⟩) (by omega) ((kV.refl M).as (by omega) (by simp) (by simp)) (fun q=>rfl)
 .-- one
  obtain⟨x,rfl⟩ : ∃x,fT=[x]:=List.length_eq_one_iff.1 (by omega)
  have lx:=pV lp;have hxc:=fZ lx.short;have XT:=(MY.nd x (by simp)).nd.len;have two:=VX x rfl;refine⟨fun w'=>w'=w2/\(0 < lev->2<=(ents x.L).length),⟨fun t' w'=>w'=w2/\(t'=true->0 < lev/\(ents x.L).length=1)/\(t'=false->0 < lev->2<=(ents x.L).length),Ix.elem MY.rd (dv _ _ _) (by decide) (by decide) (by omega) fun MV o2 hi4 _ db=>?_,?_⟩,?_⟩
  .replace db:∀jj v,(gQ (aN lev) lev x)[jj]? = some v->Cell w2 ⟨MV,o2+jj,none⟩ v:=db
   refine⟨_,db 1 _ rfl,If.beq (fun CJ=>Ix.elem MY.rd (dv _ _ _) (by decide) (by decide) (by omega) fun bb3 o3 hi5 _ nZ=>?_) fun CJ=>⟨rfl,fun h=>absurd h (by decide),fun _ h0=>absurd (show aN lev=2 from if_neg (by omega)) CJ⟩⟩;replace nZ:∀jj v,(gQ (aN lev) lev x)[jj]? = some v->Cell w2 ⟨bb3,o3+jj,none⟩ v:=nZ
   have h0:0 < lev:=by
    rcases Nat.eq_zero_or_pos lev with h | h
    .subst h;exact absurd CJ (by decide)
    .exact h
   refine⟨_,nZ 3 _ rfl,rfl,fun h=>⟨h0,?_⟩,fun h h0=>two h0 fun h2=>?_⟩
   .have h':((x.s.len:Int) == 1)=true:=h;have:=of_decide_eq_true h';simp only[List.length_map];omega
   .have h':((x.s.len:Int) == 1)=false:=h;have:=of_decide_eq_false h';simp only[List.length_map]at h2;omega
  .rintro _ t' w4 ⟨rfl,ht1,ht2⟩;refine If.cases (fun h=>?_) fun h=>?_
   .subst h;obtain⟨h0,Xz⟩:=ht1 rfl
    obtain⟨l',rfl⟩ : ∃l',lev=l'+1:=⟨lev - 1,by omega⟩
    have e2:aN (l'+1)=2:=if_neg (by omega);refine Ix.elem MY.rd (dv _ _ _) (by decide) (by decide) (by omega) fun MV o2 hi4 _ db=>?_
    replace db:∀jj v,(gQ (aN (l'+1)) ((l'+1:Nat):Int) x)[jj]? = some v->Cell w4 ⟨MV,o2+jj,none⟩ v:=db
    have ad2:x.L.length=1:=by simpa using Xz
    refine⟨_,db 1 _ rfl,_,db 2 _ rfl,_,db 3 _ rfl,mO (MY.nd x (by simp)).nd (by omega) (by simp only[Int.toNat_zero];omega) (by omega) fun w5 x5=>zN (ad Cd x5) rfl fun w6 x6 z6=>?_⟩;obtain⟨y,hy⟩:=List.length_eq_one_iff.1 ad2;have hbd:aM (bq M.f t l') (ents x.L) DN pm:=lx.body;have WL:aH 2 ((l'+1:Nat):Int) (ents x.L):=by have:=lx.right;rwa [e2]at this
    have Md:=WL.DK.h_ y.2 (by rw[hy];simp)
    have hS:bq M.f t l' y.2.cd DN pm:=by
     rw[hy]at hbd
     cases hbd with
     | cons h _ _ r=>cases r;simpa using h
    have ey:∀h,(x.L[(0:Int).toNat]'h).2.cd=y.2.cd:=fun h=>by simp only[hy,Int.toNat_zero,List.getElem_cons_zero]
    rw[ey];rw[show(((l'+1:Nat):Int) - 1)=(l':Int) by omega];have s5:=x5.size;have AP:Ext No w w6:=(jA.no x5).trans x6 fun q hq h=>by omega
    exact k y.2.cd l' pm [] T m M w6 (R.no AP) rfl (fun _ _=>rfl) AP.aE (.inr ⟨Md.1,by omega,by simpa using hS⟩) (by omega) ((kV.refl M).as (by omega) (by simp) (by simp)) (fun q=>rfl)
   .subst h;exact⟨rfl,ht2 rfl⟩
  .rintro _ w7 ⟨rfl,h2⟩;have nb:¬ (Ts T b∨b=b1):=fun h=>h.elim (nT (sup b (by omega))) (by omega)
   refine⟨Ext (fun q=>Ts T q∨q=b1) w7,(Ext.refl _ _).drew,_,ae.dI (Cell.ah g2 rfl) nb,_,ae.dI (Cell.ah g2 rfl) nb,Ix.elem MY.rd (dv _ _ _) (by decide) (by decide) (by omega) fun MV o2 hi4 oQ db=>?_⟩;replace db:∀jj v,(gQ (aN lev) lev x)[jj]? = some v->Cell w7 ⟨MV,o2+jj,none⟩ v:=db
   have zV:¬ (Ts T MV∨MV=b1):=fun h=>h.elim (nT (MY.sb _ oQ).1) (by have:=(lm.sb _ oQ).2;omega)
   refine⟨_,ae.dI (db 1 _ rfl) zV,_,ae.dI (db 2 _ rfl) zV,_,ae.dI (db 3 _ rfl) zV,?_⟩
   refine kU (w:=aa w7) (show bC w7.heap T m M from R.no jA) (MY.nd x (by simp)).nd (by simp only[List.length_map]at hxc;omega) lx.right lx.short (by omega) fun n T' m' w8 gU R8 FH Gf x8=>⟨x8.ar.mono fun _ _ h=> .inl h,?_⟩
   have Cf:Ext (Ts T) w7 w8:=x8.ar;have s8:=Cf.size;have rW:=kV.put (M:=M) (n:=n) (t:=t) (k:=aN lev) (v:=((lev:Nat):Int)) (pay:=pad (wr (aN lev) lev (ents x.L)));have Dl:=pS (t:=t) (k:=aN lev) (v:=((lev:Nat):Int)) (pay:=pad (wr (aN lev) lev (ents x.L))) gU;have Qr:(⟨n,M.aG,M.gen⟩ : Rf) ≠ .z:=fun h=>by have:=gU.lo;have:=congrArg Rf.p h;simp only[Rf.z]at this;omega
   have zD:=ag Cd Cf (nT (sup b1 (by omega)));refine cR zD rfl rfl (by simp[aJ]) fun w9 g9 x9 z9=>?_
   have DD:Ext (·=b1) w8 w9:=x9;have NO:T' b1=none:=by rw[Gf b1 (by show b1 < w7.heap.size;omega)];exact sup b1 (by omega)
   have CG:Ext (fun q=>Ts T q∨q=b1) w7 w9:=(Cf.mono fun _ _ h=> .inl h).trans DD fun _ _ h=> .inr h
   have JO:Ext (Ts T) w w9:=jA.aE.trans CG fun q hq h=>by
    rcases h with h | h
    .exact h
    .omega
   refine⟨CG,_,Cell.ah g9 rfl,_,Cell.ah g9 rfl,_,Cell.ah g9 rfl,_,Cell.ah g9 rfl,?_⟩
   .refine k ⟨n,M.aG,M.gen⟩ lev (⟨n,M.aG,M.gen⟩::pm) [⟨n,M.aG,M.gen⟩] T' m' (zF M n t (aN lev) lev (pad (wr (aN lev) lev (ents x.L)))) w9 (R8.ext DD fun q hq=>by rw[hq];exact NO) FH (fun q hq=>Gf q (Nat.lt_of_lt_of_le hq jA.size)) JO (.inr ⟨Qr,by omega,?_⟩) (by omega) (rW.as (by omega) (by simp) (by simp)) (fun q=>by simp only[List.count_cons,List.count_nil];omega);simp only[Int.toNat_natCast];exact bq.shut ⟨Dl,lx.right,lx.short,lx.ok⟩ lx.ne h2 (lx.body.cv (rW.cv fun q _=> .inl (by simp)))
 .-- two
  have Hy:fT.length=2:=by omega
  have el:((lev:Nat):Int)+1=((lev+1:Nat):Int):=by omega
  rw[el];refine Ar.u8 (by omega) (aW rfl rfl (by simp[aJ]) fun b2 di oS jN ND fH=>?_);have x0:Ext No w di:=jA.no fH;have g0:=ad g2 fH;have nz:=ad Cd fH;have lm0:=MY.no fH;have tb:T b=none:=sup b (by omega);have NO:T b1=none:=sup b1 (by omega);have tb2:T b2=none:=sup b2 (by omega)
  have hDi:∀j (h:j < D.length) (h':j < fT.length),D[j].k=fT[j].key/\D[j].l=ents fT[j].L:=fun j h h'=>by
   have:=congrArg (fun l=>l[j]?) eD;simp only[bn,List.getElem?_map,List.getElem?_eq_getElem h,List.getElem?_eq_getElem h',Option.map_some,Option.some.injEq,Prod.mk.injEq]at this;exact this
  have h2l:∀d∈D,0 < lev->2<=d.l.length:=fun d hd h0=>by
   obtain⟨d1,d2,hDD⟩ : ∃d1 d2,D=[d1,d2]:=by
    match D,hDn.trans Hy with
    | [d1,d2],_=>exact⟨d1,d2,rfl⟩
   have:=(hDt d1 d2 hDD).2.2.2.2.2 h0;rw[hDD]at hd;simp only[List.mem_cons,List.not_mem_nil,or_false]at hd;rcases hd with h | h <;> subst h
   .exact this.1
   .exact this.2
  refine⟨fun mm t1 w'=>∃(j:Nat) (Tj:Nat->Option Nat) (mj:bJ) (Mj:Mm) (rs:List Rf) (V:List (aL×aF)) (s:Sl),t1=j/\j<=fT.length/\mm=fT.length - j/\bC w'.heap Tj mj Mj/\mj.bm=m.bm/\Tg di T Tj/\Ext (fun q=>Ts T q∨q=b2) di w'/\kV M Mj j [] rs/\rs.length=j/\
    (∀i (h:i < D.length) (h':i < rs.length),bq Mj.f t lev rs[i] D[i].kv (rs[i]::D[i].p))/\(∀r∈rs,r.ok/\r ≠ .z)/\qn w'.heap b2 2 ((lev+1:Nat):Int) s/\bf w'.heap di.heap.size 151 9 s (V.flatMap aU)/\ents V=f_ [] (bn fT) rs/\(∀q,s.aj=some q->Tj q=none)/\
    (∀p∈V,lD w'.heap p.1 p.2/\∀q,(p.1.k.aj=some q∨p.1.v.aj=some q)->T q=none/\q < w.heap.size),
   ⟨fT.length,0,T,m,M,[],[],⟨none,0,0⟩,rfl,by omega,by omega,R.no x0,rfl,fun _ _=>rfl,Ext.refl _ _,kV.refl M,rfl,fun i h h'=>by simp at h',by simp,oS,bf.nil _ _ _ _,by cases bn fT <;> rfl,by simp[Sl.aj],by simp⟩,?_⟩
  rintro _ m0 t1 rH ⟨j,Tj,mj,Mj,rs,V,s,rfl,hj,hm,Rj,yz,Gg,xj,cj,DO,uC,Wq,gbj,oV,eV,WA,hV⟩;have sj:=xj.size;have nS:∀{q},T q=none->q≠b2->¬ (Ts T q∨q=b2):=fun h h2 h'=>h'.elim (fun h'=>h' h) h2
  have gj:=ag g0 xj (nS tb (by omega))
  have Ya:=lm0.mono (B':=fun q=>T q=none/\q < di.heap.size) fun q h hq=>⟨hq,h⟩
  have lmq:cX di.heap (fun q=>T q=none/\q≠b2) (aN lev) lev l fT:=(lm.mono (B':=fun q=>T q=none/\q≠b2) fun q h hq=>⟨hq,by omega⟩).no x0;have Ya:=lmq.ext xj fun q hq _=>nS hq.1 hq.2
  have Vl:V.length=j:=by have:=congrArg List.length eV;rw[Bu (by simp only[bn,List.length_map];omega)]at this;simpa[DO] using this
  have JS:∀q,s.aj=some q->di.heap.size<=q/\q < rH.heap.size:=fun q hq=>oV.lt hq
  refine If.dec (fun h=>?_) fun h=>?_
  .have eO:j < fT.length:=by omega
   refine Ix.elem Ya.rd (dv _ _ _) (by decide) (by omega) h fun bb o uJ _ bS=>?_
   simp only[Int.toNat_natCast]at uJ bS;have cN:fT[j]∈fT:=List.getElem_mem eO;refine⟨_,bS 0 _ rfl,_,bS 1 _ rfl,_,bS 2 _ rfl,_,bS 3 _ rfl,aW (vs:=gQ (aN lev) lev fT[j]) rfl rfl (by simp[gQ,aJ]) fun b6 Dr g6 Y1 z6 x6=>?_⟩;have Yb:j < D.length:=by omega
   obtain⟨e1,e2⟩:=hDi j Yb eO;have jx:uq Mj.f t lev D[j].l D[j].kv D[j].p:=(hDl _ (List.getElem_mem Yb)).cv (cj.cv fun q _=> .inl (by simp));have abc:=h2l _ (List.getElem_mem Yb);rw[e2]at jx abc;have RC:=((Ya.nd _ cN).no x6).nd;refine⟨_,Cell.ah (ad gj x6) rfl,_,Cell.ah (ad gj x6) rfl,_,Cell.ah g6 rfl,_,Cell.ah g6 rfl,_,Cell.ah g6 rfl,?_⟩;rw[<- jw yz];have Qu:=fZ jx.short;have XM:fT[j].L.length<=65536:=by simp only[List.length_map]at Qu;omega
   refine kU (Rj.no x6) RC XM jx.right jx.short (by have:=cj.len;omega) fun n T' m' Jz gU Tm FH Gf zX=>?_
   refine aW rfl rfl (by simp[aJ]) fun b7 zA g7 Y2 z7 x7=>If.bne (fun h=>(h rfl).elim) fun _=>?_
   have tT:∀q,q < Dr.heap.size->T' q=Tj q:=Gf
   have s6:=x6.size;have s37:=zX.size;have s7:=x7.size;have nb6:Tj b6=none:=Rj.mS (by omega);have g69:=ad (ag g6 zX (fun h=>h nb6)) x7;refine⟨_,Cell.ah g7 rfl,_,Cell.ah g7 rfl,_,Cell.ah g7 rfl,aW (vs:=aL.cs ⟨⟨none,0,0⟩,⟨none,0,0⟩,0,.z,⟨n,Mj.aG,Mj.gen⟩⟩) rfl rfl (iP _) fun b8 uM g8 Ku z8 x8=>?_⟩;have BH:Ext No Jz uM:=x7.no x8;have BI:Ext (Ts Tj) rH uM:=((x6.aE).trans zX fun _ _ h=>h).no BH;have Zc:=BH.size;have Qr:(⟨n,Mj.aG,Mj.gen⟩ : Rf) ≠ .z:=fun h=>by have:=gU.lo;have:=congrArg Rf.p h;simp only[Rf.z]at this;omega
   have rW:=kV.put (M:=Mj) (n:=n) (t:=t) (k:=aN lev) (v:=((lev:Nat):Int)) (pay:=pad (wr (aN lev) lev (ents fT[j].L)));have Dl:=pS (t:=t) (k:=aN lev) (v:=((lev:Nat):Int)) (pay:=pad (wr (aN lev) lev (ents fT[j].L))) gU;have Qv:=(KG Tm Dl).2;have kpj:∀(qs:List Rf),iS Mj.f (zF Mj n t (aN lev) lev (pad (wr (aN lev) lev (ents fT[j].L)))).f qs:=fun qs=>rW.cv fun q _=> .inl (by simp)
   have DV:bq (zF Mj n t (aN lev) lev (pad (wr (aN lev) lev (ents fT[j].L)))).f t lev ⟨n,Mj.aG,Mj.gen⟩ D[j].kv (⟨n,Mj.aG,Mj.gen⟩::D[j].p):=
    bq.shut ⟨Dl,jx.right,jx.short,jx.ok⟩ jx.ne abc (jx.body.cv (kpj _))
   have CL:=lm.sep _ cN;have sb2:∀q,s.aj=some q->q≠b2:=fun q hq=>by have:=JS q hq;have:b2 < di.heap.size:=blt oS;omega
   have WX:Tj b2=none:=by rw[Gg b2 (blt oS)];exact tb2
   refine⟨fun pf=>∃kk key,pf.heap[b8]? = some (.cells (aL.cs ⟨kk,⟨none,0,0⟩,0,.z,⟨n,Mj.aG,Mj.gen⟩⟩).toArray 151 (0,0))/\Ext (fun q=>q=b8) uM pf/\b_ w.heap kk key/\B8 key/\(∀q,kk.aj=some q->T q=none/\q < w.heap.size)/\key=(if j=0 then[] else fT[j].key),If.dec (fun hj0=>⟨_,Cell.ah (ad g69 x8) rfl,aQ.mk g8 (by simp[aL.cs]) rfl fun rK SD=>⟨fT[j].sep,fT[j].key,SD.get g8,SD.ext,CL.1,CL.2.1,fun q hq=>CL.2.2 q hq,by rw[if_neg (by omega)]⟩⟩) fun hj0=>⟨⟨none,0,0⟩,[],g8,Ext.refl _ _,Rd.nil _ _,B8.nil,fun q hq=>by simp[Sl.aj]at hq,by rw[if_pos (by omega)]⟩,?_⟩;rintro _ rK ⟨kk,key,gx,LX,MT,k8,kkb,jm⟩;have WY:Ext (fun q=>q=b8) uM rK:=LX;have s42:=WY.size;have abd:qn rK.heap b2 2 ((lev+1:Nat):Int) s:=ag (ag gbj BI (fun h=>h WX)) WY (by have:=blt gbj;omega);refine⟨s,Cell.ah abd rfl,eW gx (af.mk fun b9 Rw n9=>?_)⟩;have yO:Ext (fun q=>q=b8) uM Rw:=WY.no n9.ext;have z9:=n9.size;have Rt:=n9.at_;have WB:=(oV.ext BI fun q hq h=>h (WA q hq)).ext yO fun q hq h=>by have:=JS q hq;omega
   have ol:s.len=V.length:=by have:=oV.len;rw[lI]at this;omega
   refine fM WB (by omega) (Bm n9).rd.src (by simp only;omega) fun s1 CI o44 _ RL oQ=>?_
   have s44:=RL.size;have abe:qn CI.heap b2 2 ((lev+1:Nat):Int) s:=ag (ad abd n9.ext) RL (fun h=>sb2 b2 h rfl);refine aQ.mk abe (by simp) rfl fun OP XH=>Ar.i64 (by omega) ?_
   have ML:Ext (·=b2) CI OP:=XH.ext;have ad3:qn OP.heap b2 2 ((lev+1:Nat):Int) s1:=XH.get abe;have nb8:T' b8=none:=Tm.mS (by omega);have abf:Ext (fun q=>q=b8∨s.aj=some q∨q=b2) Jz OP:=(((BH.aE).trans yO fun _ _ h=> .inl h).trans RL fun _ _ h=> .inr (.inl h)).trans ML fun _ _ h=> .inr (.inr h)
   have UN:Ext (fun q=>Ts Tj q∨q=b8∨s.aj=some q∨q=b2) rH OP:=(((BI.mono fun _ _ h=> .inl h).trans yO fun _ _ h=> .inr (.inl h)).trans RL fun _ _ h=> .inr (.inr (.inl h))).trans ML fun _ _ h=> .inr (.inr (.inr h))
   have UO:Ext (fun q=>Ts T q∨q=b2) di OP:=xj.trans UN fun q hq h=>by
    rcases h with h | h | h | h
    .exact .inl (by show T q≠none;rw[<- Gg q hq];exact h)
    .omega
    .have:=JS q h;omega
    .exact .inr h
   have s1b:∀q,s1.aj=some q->di.heap.size<=q/\T' q=none:=fun q hq=>by
    rcases oQ with h3 | ⟨c',h3,h4⟩
    .rw[h3]at hq;exact⟨(JS q hq).1,by rw[tT q (by have:=JS q hq;omega)];exact WA q hq⟩
    .rw[h3]at hq;cases hq;exact⟨by omega,Tm.mS (by omega)⟩
   have hbw:b2 < di.heap.size:=blt oS;refine⟨fT.length - (j+1),by omega,j+1,T',m',zF Mj n t (aN lev) lev (pad (wr (aN lev) lev (ents fT[j].L))),rs++[⟨n,Mj.aG,Mj.gen⟩],V++[(⟨kk,⟨none,0,0⟩,0,.z,⟨n,Mj.aG,Mj.gen⟩⟩,zG key ⟨n,Mj.aG,Mj.gen⟩)],s1,by omega,by omega,rfl,Tm.ext abf fun q hq=>?_,FH.trans yz,fun q hq=>by rw[tT q (by omega)];exact Gg q hq,UO,(cj.trans rW).as (by omega) (by simp) (by simp),by simp[DO],fun i' h' Jn=>?_,fun r hr=>?_,ad3,(by rw[List.flatMap_append];simpa using o44:bf CI.heap di.heap.size 151 9 s1 _).ext ML fun q hq h=>by have:=s1b q hq;omega,?_,fun q hq=>(s1b q hq).2,fun p hp=>?_⟩
   .rcases hq with h | h | h
    .rw[h];exact nb8
    .rw[tT q (by have:=JS q h;omega)];exact WA q h
    .rw[h,tT b2 (by omega)];exact WX
   .rcases Nat.lt_or_ge i' rs.length with h3 | h3
    .rw[List.getElem_append_left h3];exact(uC i' h' h3).cv (kpj _)
    .have:i'=j:=by simp only[List.length_append,List.length_cons,List.length_nil]at Jn;omega
     subst this;have:(rs++[(⟨n,Mj.aG,Mj.gen⟩ : Rf)])[i']=⟨n,Mj.aG,Mj.gen⟩:=by rw[List.getElem_append_right h3];simp[DO]
     rw[this];exact DV
   .rcases List.mem_append.1 hr with h3 | h3
    .exact Wq r h3
    .rw[List.mem_singleton]at h3;subst h3;exact⟨Qv,Qr⟩
   .rw[yq (by simp only[bn,List.length_map];omega)];show List.map Prod.snd (V++_)=_;rw[List.map_append,show List.map Prod.snd V=_ from eV];congr 1;have e5:(bn fT)[rs.length]'(by simp only[bn,List.length_map];omega)=(fT[j].key,ents fT[j].L):=by simp[bn,DO]
    rw[e5,jm,DO];rfl
   .rcases List.mem_append.1 hp with h3 | h3
    .have n_:=hV p h3
     have nn:∀q,(p.1.k.aj=some q∨p.1.v.aj=some q)->¬ (Ts Tj q∨q=b8∨s.aj=some q∨q=b2):=fun q hq h=>by
      have:=n_.2 q hq;have sx:=x0.size;rcases h with h | h | h | h
      .exact h (by rw[Gg q (by omega)];exact this.1)
      .omega
      .have:=JS q h;omega
      .omega
     exact⟨n_.1.ext UN (fun q hq=>nn q (.inl hq)) (fun q hq=>nn q (.inr hq)),n_.2⟩
    .rw[List.mem_singleton]at h3;subst h3;refine⟨⟨Rd.ext MT (x0.aE.trans UO fun _ _ h=>h) fun a q ha hq=>?_,Rd.nil _ _,rfl,rfl,rfl,k8,B8.nil,⟨by show(-9223372036854775808:Int)<=0;decide,by show(0:Int)<=9223372036854775807;decide⟩,by show Rf.z.ok;decide,Qv⟩,fun q hq=>?_⟩
     .have h5:=kkb q (by have h:kk.a=some a:=ha;simp[Sl.aj,h,hq]);exact nS h5.1 (by omega)
     .rcases hq with h4 | h4
      .exact kkb q h4
      .simp[Sl.aj]at h4
  .have ejl:j=fT.length:=by omega
   have WX:Tj b2=none:=by rw[Gg b2 (blt oS)];exact tb2
   obtain⟨l9,f1,f2,f3,f4,f5,Tn,f6,f7⟩:=QD (f:=Mj.f) (t:=t) (D:=D) (rs:=rs) dP (by omega) (by omega) uC Wq (fun d1 d2 h=>by obtain⟨a1,a2,a3,a4,a5,_⟩:=hDt d1 d2 h;exact⟨a1,a2,a3,a4,a5⟩);rw[eD,<- eV]at f1;rw[FJ]at f6;rw[hp]at f7;subst f1
   have hVn:ny rH.heap s V:=⟨oV.rd,fun p hp=>(hV p hp).1⟩
   refine⟨_,Cell.ah gj rfl,_,Cell.ah gj rfl,_,Cell.ah gbj rfl,_,Cell.ah gbj rfl,_,Cell.ah gbj rfl,?_⟩;rw[<- jw yz];refine kU Rj hVn (by omega) f2 f5 (by have:=cj.len;omega) fun n T' m' w8 gU R8 FH Gf x8=>?_
   have tT:∀q,q < rH.heap.size->T' q=Tj q:=Gf
   have rW:=kV.put (M:=Mj) (n:=n) (t:=t) (k:=2) (v:=((lev+1:Nat):Int)) (pay:=pad (wr 2 ((lev+1:Nat):Int) (ents V)));have Dl:=pS (t:=t) (k:=2) (v:=((lev+1:Nat):Int)) (pay:=pad (wr 2 ((lev+1:Nat):Int) (ents V))) gU;have Qr:(⟨n,Mj.aG,Mj.gen⟩ : Rf) ≠ .z:=fun h=>by have:=gU.lo;have:=congrArg Rf.p h;simp only[Rf.z]at this;omega
   have abg:Tj b1=none:=by rw[Gg b1 (blt nz)];exact NO
   have g1j:=ag (ag nz xj (nS NO (by omega))) x8 (fun h=>h abg);have sx:=x0.size;have s8:=x8.size;refine zN g1j rfl fun w9 x9 z9=>?_
   have DD:Ext (·=b1) w8 w9:=x9;have JO:Ext (Ts T) w w9:=((x0.aE.trans xj fun q hq h=>?_).trans x8 fun q hq h=>?_).trans DD fun q hq h=>?_
   .refine k ⟨n,Mj.aG,Mj.gen⟩ (lev+1) (⟨n,Mj.aG,Mj.gen⟩::Tn) (rs++[⟨n,Mj.aG,Mj.gen⟩]) T' m' (zF Mj n t 2 ((lev+1:Nat):Int) (pad (wr 2 ((lev+1:Nat):Int) (ents V)))) w9 (R8.ext DD fun q hq=>by rw[hq,tT b1 (by have:=blt nz;omega)];exact abg) (FH.trans yz) (fun q hq=>by rw[tT q (by omega)];exact Gg q (by omega)) JO (.inr ⟨Qr,by omega,?_⟩) dP ((cj.trans rW).as (by omega) (by simp) (by simp)) (fun q=>?_)
    .simp only[Int.toNat_natCast];exact bq.shut (lev:=lev+1) ⟨Dl,f2,f5,f3⟩ (by intro h;rw[h]at f4;simp at f4) (fun _=>by omega) ((show Body Mj.f t (lev+1) (ents V) DN Tn from f6).cv (rW.cv fun q _=> .inl (by simp)))
    .have:=f7 q;simp only[List.count_cons,List.count_append,List.count_nil]at this ⊢;omega
   .rcases h with h | h
    .exact h
    .omega
   .show T q≠none;rw[<- Gg q (by omega)];exact h
   .omega
end
end Go.Proofs.YtpjbalhhlaofmaaGreat
namespace Go.V
theorem DZ{α:Type}[DecidableEq α]:∀{a b:List α},(∀q,a.count q<=b.count q)->a.length<=b.length
 | [],_,_=>Nat.zero_le _
 | x::a,b,h=>by
  have hx:x∈b:=List.count_pos_iff.1 (by have:=h x;rw[List.count_cons_self]at this;omega)
  have:=DZ (a:=a) (b:=b.erase x) fun q=>by
   have:=h q;rw[List.count_erase];rw[List.count_cons]at this;by_cases hq:q=x
   .subst hq;simp at this ⊢;omega
   .rw[if_neg (by simpa using fun h=>hq h.symm)]at this ⊢;omega
  rw[List.length_erase_of_mem hx]at this;have:=List.length_pos_of_mem hx;simp only[List.length_cons];omega
theorem QE(l:List (Int×Pg)):(live l).length<=l.length:=by unfold live;rw[List.length_map];exact List.length_filter_le _ _
theorem Sub.len{ps:List Rf}{M:Mm}(h:Sub ps M):ps.length<=M.aC.length:=Nat.le_trans (DZ h) (QE _)
section
variable {f:bR} {t:Int}
theorem aM.count{Q:Rf->List KV->List Rf->Prop}{n:Nat}(hQ:∀r kv p,Q r kv p->n<=p.length){l:List aF}{kvs:List KV}{ps:List Rf}(h:aM Q l kvs ps):l.length * n<=ps.length:=by
 induction h with
 | nil=>simp
 | cons h lo hi r ih=>have:=hQ _ _ _ h;simp only[List.length_cons,List.length_append,Nat.succ_mul];omega
theorem bq.pow:∀{lev:Nat}{r:Rf}{kvs:List KV}{ps:List Rf},bq f t lev r kvs ps->2 ^ lev<=ps.length
 | 0,r,kvs,ps,h=>by obtain⟨l,dG,_,_,_,rfl⟩:=h;simp
 | lev+1,r,kvs,ps,h=>by
  obtain⟨l,dG,_,h2,hk,rfl⟩:=h;have:=aM.count (fun _ _ _ h=>bq.pow h) hk;have h3:2 * 2 ^ lev<=l.length * 2 ^ lev:=Nat.mul_le_mul_right _ h2;simp only[List.length_cons,Nat.pow_succ];omega
theorem bq.low{lev:Nat}{r:Rf}{kvs:List KV}{ps:List Rf}(h:bq f t lev r kvs ps)(hl:ps.length<=1000000):lev<=19:=by
 have h1:=h.pow;rcases Nat.lt_or_ge lev 20 with h2 | h2
 .omega
 .have:2 ^ 20<=2 ^ lev:=Nat.pow_le_pow_right (by omega) h2;omega
abbrev gg(l:List KV):Prop:=l.Pairwise fun a b=>bM a.1 b.1
theorem cG.sort{l:List aF}{kvs:List KV}{ps:List Rf}(h:cG f t l kvs ps)(hr:jM l):gg kvs:=by
 have e:=h.keys;have h2:(l.map aF.key).Pairwise bM:=List.pairwise_map.2 hr;rw[<- e]at h2;exact List.pairwise_map.1 h2
theorem aM.sort{Q:Rf->List KV->List Rf->Prop}(hQ:∀r kv p,Q r kv p->gg kv){l:List aF}{kvs:List KV}{ps:List Rf}(h:aM Q l kvs ps):jM l->gg kvs:=by
 induction h with
 | nil=>intro _;exact .nil
 | @cons e l kv kvs p ps h lo hi r ih=>
  intro hr;have WL:=List.pairwise_cons.1 hr;refine List.pairwise_append.2 ⟨hQ _ _ _ h,ih WL.2,fun x hx y hy=>?_⟩
  cases l with
  | nil=>cases r;cases hy
  | cons e' l'=>exact(hi e' l' rfl x hx).KM (vK r (e_.2 WL.2) _ _ rfl y hy)
theorem bq.sort:∀{lev:Nat}{r:Rf}{kvs:List KV}{ps:List Rf},bq f t lev r kvs ps->gg kvs
 | 0,r,kvs,ps,h=>by obtain⟨l,dG,hN,_,hL,rfl⟩:=h;exact cG.sort hL (e_.1 hN.right.ord)
 | lev+1,r,kvs,ps,h=>by
  obtain⟨l,dG,hN,h2,hk,rfl⟩:=h;exact aM.sort (fun _ _ _ h=>bq.sort h) hk (e_.1 hN.right.ord)
theorem dS.sort{r:Rf}{lev:Int}{kvs:List KV}{ps:List Rf}(h:dS f t r lev kvs ps):gg kvs:=by
 rcases h with⟨_,_,rfl,_⟩ | ⟨_,_,h⟩
 .exact .nil
 .exact h.sort
end
theorem BK{kvs:List KV}{key:List Int}(h:bU kvs key=none):∀x∈kvs,x.1≠key:=fun x hx e=>by
 unfold bU at h;rw[Option.map_eq_none_iff,List.find?_eq_none]at h;have:=h x hx;simp[e]at this
theorem K7{k:List Int}:∀{l:List KV},gg l->(∀x∈l,x.1≠k)->jo k none l=l
  | [],_,_=>rfl
  | x::l,hs,hn=>by
    have h2:=List.pairwise_cons.1 hs;have ih:=K7 (k:=k) h2.2 fun y hy=>hn y (List.mem_cons_of_mem _ hy)
    rcases bM.total x.1 k with h | h | h
    · have:=vN (k:=k) (o:=none) (a:=[x]) (b:=l) (c:=[]) (by simpa using h) (by simp);simp only[List.append_nil,List.singleton_append]at this;rw[this,ih]
    · exact(hn x (by simp) h).elim
    · have:=vN (k:=k) (o:=none) (a:=[]) (b:=[]) (c:=x::l) (by simp) (fun y hy=>by
        rcases List.mem_cons.1 hy with h5 | h5
        · rw[h5];exact h
        · exact h.trans (h2.1 y h5))
      simp only[List.nil_append]at this;rw[this];rfl
end Go.V
namespace Go.Proofs.YtpjbalhhlaofmaaGreat
open Go.V
section
variable {w:Wd} {T:Nat->Option Nat} {m:bJ} {M:Mm}
structure ChS(w w':Wd)(T T':Nat->Option Nat)(m m':bJ)(M M':Mm)(t:Int)(HY:List KV)(ps dG:List Rf)(r':Rf)(mV:Nat):Prop where
 mem:bC w'.heap T' m' M'
 bm:m'.bm=m.bm
 tg:Tg w T T'
 ext:Ext (Ts T) w w'
 tree:dS M'.f t r' mV HY dG
 lv:mV<=30
 DT:kV M M' 60 ps dG
set_option maxHeartbeats 4000000 in
theorem Ig{t:Int}{lev:Nat}{r:Rf}{kvs:List KV}{ps:List Rf}{oK oV:Sl}{key val:List Int}{d:Bool}{K:Int->Int->Int->Int->Int->Pw}(R:bC w.heap T m M)(hT:dS M.f t r lev kvs ps)(hs:Sub ps M)(ho:CO w T oK oV key val)(hn:M.aC.length<=1000000)
  (k:∀(r':Rf)(mV:Nat) dG T' m' M' w',ChS w w' T T' m m' M M' t (jo key (ID d val) kvs) ps dG r' mV->K r'.p r'.c r'.g mV 0 w'):gG (eY m) t r.p r.c r.g lev oK oV d w K:=by
 apply sF;have sup:∀q,w.heap.size<=q->T q=none:=fun q hq=>R.mS hq
 have nT:∀{q},T q=none->¬ Ts T q:=fun h h'=>h' h
 refine af.mk fun b w1 n1=>af.mk fun b1 w2 n2=>af.mk fun b2 w3 n3=>af.mk fun b3 w4 n4=>?_
 have hb:=n1.at_;have jk:=n2.at_;have jN:=n3.at_;have vB:=n4.at_;have z1:=n1.size;have z2:=n2.size;have z3:=n3.size;have z4:=n4.size;have fg:Ext No w w4:=((n1.ext.no n2.ext).no n3.ext).no n4.ext;have g4:=ad (ad (ad n1.get n2.ext) n3.ext) n4.ext;have jH:=ad (ad n2.get n3.ext) n4.ext;have se:=ad n3.get n4.ext;have Ur:=n4.get;have WE:T b3=none:=sup b3 (by omega);have cv:∀{w5:Wd}{b':Nat},Ext (·=b3) w4 w5->Ext (Ts T) w w5:=fun x=>fg.aE.trans x fun q hq h=>by omega
 have SE:lev<=19:=by
  rcases hT with⟨_,h,_⟩ | ⟨_,_,h⟩
  .omega
  .have:=h.low (by have:=hs.len;omega);simpa using this
 have same:∀w5:Wd,Ext (·=b3) w4 w5->jo key (ID d val) kvs=kvs->K r.p r.c r.g lev 0 w5:=fun w5 x5 hk=>
  k r lev ps T m M w5 ⟨(R.no fg).ext x5 fun q hq=>by rw[hq];exact WE,rfl,fun _ _=>rfl,cv (b':=0) x5,by rw[hk];exact hT,by omega,(kV.refl M).as (by omega) (by simp) (by simp)⟩
 have ho4:CO w4 T oK oV key val:=ho.ext fg.aE fun q _ h=>h
 refine⟨_,Cell.ah jH rfl,_,Cell.ah jH rfl,_,Cell.ah jH rfl,_,Cell.ah jH rfl,If.cases (fun hz=>?_) fun hz=>?_⟩
 .have hr:r = .z:=by
   simp only[Bool.and_eq_true,beq_iff_eq,Bool.and_true]at hz;obtain⟨p,c,g⟩:=r;simp only at hz;show Rf.mk p c g=Rf.mk 0 0 0;rw[hz.1.1,hz.1.2.1,hz.1.2.2]
  rcases hT with⟨_,h0,rfl,rfl⟩ | ⟨h,_⟩
  rotate_left
  .exact(h hr).elim
  refine⟨d,Cell.ah se rfl,If.cases (fun hd=>?_) fun hd=>?_⟩
  .subst hd;exact⟨_,Cell.ah jH rfl,_,Cell.ah jH rfl,_,Cell.ah jH rfl,_,Cell.ah jH rfl,zN Ur rfl fun w5 x5 _=>same w5 x5 (vZ _ _)⟩
  .subst hd;refine⟨_,Cell.ah g4 rfl,_,Cell.ah g4 rfl,_,Cell.ah se rfl,_,Cell.ah se rfl,?_⟩;refine BD (R.no fg) ho4.kR ho4.vR ho.k8 ho.v8 ho.kl ho.vl hn fun x e psn T' m' M3 w6 St=>?_
   refine aW (vs:=x.cs) rfl rfl (iP _) fun b4 w8 g8 Hm z8 x8=>If.bne (fun h=>(h rfl).elim) fun _=>?_
   have s6:=St.ext.size;have tT:∀q,q < w4.heap.size->T' q=T q:=St.tg
   have g6:=ad (ag g4 St.ext (nT (sup b (by omega)))) x8;have RK:=ad (ag Ur St.ext (nT WE)) x8;refine⟨_,Cell.ah g6 rfl,_,Cell.ah g6 rfl,eW g8 (af.mk fun b5 dV lE=>?_)⟩;have LK:=lE.at_;have Kv:=lE.size;have Tv:Ext No w6 dV:=x8.no lE.ext;have er:=St.er.no Tv
   have nd:ny dV.heap ⟨some ⟨b5,0,none⟩,1,1⟩ [(x,e)]:=⟨by have:=(Bm (y:=x) lE).rd;simpa using this,fun p hp=>by rw[List.mem_singleton]at hp;subst hp;exact er⟩
   have MM:uo [e]:=⟨fun y hy=>by rw[List.mem_singleton]at hy;subst hy;exact St.h_,List.pairwise_singleton _ _⟩
   have gZ:(wr 1 0 [e]).length<=224:=by rw[eZ,dh,pT];have:=JF St.h_;omega
   rw[<- jw St.bm];refine kU (R:=St.mem.no Tv) nd (by simp) (show aH 1 0 (ents [(x,e)]) from MM.right) gZ (by have:=St.DT.len;omega) fun n T2 m2 di gU R11 JT MK fH=>?_
   have rW:=kV.put (M:=M3) (n:=n) (t:=t) (k:=1) (v:=0) (pay:=pad (wr 1 0 [e]));have Dl:=pS (t:=t) (k:=1) (v:=0) (pay:=pad (wr 1 0 [e])) gU;have Qr:(⟨n,M3.aG,M3.gen⟩ : Rf) ≠ .z:=fun h=>by have:=gU.lo;have:=congrArg Rf.p h;simp only[Rf.z]at this;omega
   have s8:=Tv.size;have QF:T' b3=none:=by rw[tT b3 (by omega)];exact WE
   have ad4:T2 b3=none:=by rw[MK b3 (by omega)];exact QF
   have Tf:=ag (ad RK lE.ext) fH (fun h=>h QF);refine zN Tf rfl fun eN fJ OQ=>?_
   have MZ:Ext (·=b3) di eN:=fJ;refine k ⟨n,M3.aG,M3.gen⟩ 0 (⟨n,M3.aG,M3.gen⟩::psn) T2 m2 (zF M3 n t 1 0 (pad (wr 1 0 [e]))) eN ⟨R11.ext MZ fun q hq=>by rw[hq];exact ad4,JT.trans St.bm,fun q hq=>by rw[MK q (by omega)];exact tT q (by omega),?_,.inr ⟨Qr,by omega,?_⟩,by omega,?_⟩
   .exact((((fg.aE.trans St.ext fun q hq h=>h).no Tv)).trans fH fun q hq h=>by show T q≠none;rw[<- tT q (by omega)];exact h).trans MZ fun q hq h=>by omega
   .have FJ:jo key (ID false val) []=[(key,val)]:=vZ _ _;rw[FJ];refine bq.shut (lev:=0) ⟨Dl,MM.right,gZ,fun y hy=>?_⟩ (by simp) (fun h=>absurd h (by omega)) ?_
    .rw[List.mem_singleton]at hy;subst hy;exact⟨⟨er.Sj,er.Sk⟩,er.k8,er.v8⟩
    .have h1:cG M3.f t [e] [(key,val)] psn:=by simpa using cG.cons St.leaf .nil
     exact(show Body M3.f t 0 [e] [(key,val)] psn from h1).cv (rW.cv fun q _=> .inl (by simp))
   .refine(St.DT.trans rW).as (by omega) (by simp) fun q=>?_
    simp only[List.count_append,List.count_cons,List.count_nil];omega
 .have hS:r ≠ .z/\bq M.f t lev r kvs ps:=by
   rcases hT with⟨hr,h0,_⟩ | ⟨hr,_,h⟩
   .subst hr;have:lev=0:=by omega
    subst this;exact absurd hz (by decide)
   .exact⟨hr,by simpa using h⟩
  refine⟨fun w'=>Ext No w4 w',⟨d,Cell.ah se rfl,If.cases (fun hd=>?_) fun hd=>Ext.refl _ _⟩,?_⟩
  .subst hd;refine⟨_,Cell.ah g4 rfl,_,Cell.ah g4 rfl,_,Cell.ah jH rfl,_,Cell.ah jH rfl,_,Cell.ah jH rfl,_,Cell.ah jH rfl,_,Cell.ah se rfl,?_⟩;refine pR (R.no fg) hT (by omega) ho4.kR ho.k8 (fun w' h _=>by have:=ho.kl;omega) (fun w' _ _ hg x'=>If.beq (fun _=>?_) fun h=>(h rfl).elim) (fun v s' w' _ _ _ _ x'=>If.beq (fun h=>by omega) fun _=>If.beq (fun _=>x') fun h=>(h rfl).elim);have WZ:=ad jH x';refine⟨_,Cell.ah WZ rfl,_,Cell.ah WZ rfl,_,Cell.ah WZ rfl,_,Cell.ah WZ rfl,zN (ad Ur x') rfl fun w5 x5 _=>same w5 (x'.aE.trans x5 fun _ _ h=>h) (K7 hT.sort (BK hg))⟩
  .rintro _ kE qC;have HT:Ext No w4 kE:=qC;have sT:=fg.no HT;have s16:=HT.size;have so:=ad g4 HT;have CP:=ad jH HT;have W0:=ad se HT;have MN:=ad Ur HT;refine⟨_,Cell.ah so rfl,_,Cell.ah so rfl,_,Cell.ah CP rfl,_,Cell.ah CP rfl,_,Cell.ah CP rfl,_,Cell.ah CP rfl,_,Cell.ah W0 rfl,_,Cell.ah W0 rfl,_,Cell.ah W0 rfl,?_⟩;refine DY lev (R.no sT) hS.2 hs (ho.ext sT.aE fun q _ h=>h) hn fun sl ls Tn T' m' M' fR A=>If.bne (fun h=>(h rfl).elim) fun _=>?_
   obtain⟨WK,yz,tg,l_,Tq,Tr,cg⟩:=A
   have QG:Ext (Ts T) kE fR:=l_.mono fun q hq h=>by
    rcases h with h | h
    .exact h
    .omega
   have s17:=QG.size;have fc:=ag so QG (nT (sup b (by omega)));have QB:=ag CP QG (nT (sup b1 (by omega)));have W3:=ag MN QG (nT WE);refine⟨_,Cell.ah fc rfl,_,Cell.ah fc rfl,_,Cell.ah QB rfl,?_⟩;rw[<- jw yz];have tT:∀q,q < kE.heap.size->T' q=T q:=tg
   refine JU WK (Tq.mono fun q _ h=>h.2) Tr (by omega) (by have:=cg.len;omega) (fun x hx _ h1=>?_) fun r' mV dG rs T2 m2 M2 uK R19 JT MK vQ tr hl cg2 HA=>?_
   .subst hx;have:=List.length_pos_iff.2 (pV Tr).ne;omega
   have QF:T' b3=none:=by rw[tT b3 (by omega)];exact WE
   have Ww:=ag W3 vQ (fun h=>h QF);refine zN Ww rfl fun oc rL z20=>?_
   have QH:Ext (·=b3) uK oc:=rL;refine k r' mV dG T2 m2 M2 oc ⟨R19.ext QH fun q hq=>by rw[hq,MK b3 (by omega)];exact QF,JT.trans yz,fun q hq=>by rw[MK q (by omega)];exact tT q (by omega),?_,tr,hl,?_⟩
   .exact((sT.aE.trans QG fun _ _ h=>h).trans vQ fun q hq h=>by show T q≠none;rw[<- tT q (by omega)];exact h).trans QH fun q hq h=>by omega
   .refine(cg.trans cg2).as (by omega) (fun q hq=>by simpa using hq) fun q=>?_
    have:=HA q;simp only[List.count_append,List.count_nil];omega
end
end Go.Proofs.YtpjbalhhlaofmaaGreat
namespace Go.V
structure jB where
 k:Sl
 v:Sl
 d:Bool
 key:List Int
 val:List Int
def jB.cs(x:jB):List Value:=[.slice x.k.a x.k.len x.k.cap,.slice x.v.a x.v.len x.v.cap,.bool x.d]
abbrev jB.agg(x:jB):Value:= .agg x.cs.toArray
def pW(l:List Int):ByteArray:=⟨(Lz l).toArray⟩
theorem Ih{l m:List Int}(hl:B8 l)(hm:B8 m)(h:pW l=pW m):l=m:=by
 refine(Kl hl hm).1 ?_;have:=congrArg ByteArray.toList h;simpa[pW,toList_mk] using this
def jB.fit(x:jB):Prop:=(1<=x.key.length/\x.key.length<=32)/\x.val.length<=1024/\(x.d=true->x.val.length=0)
instance (x:jB):Decidable x.fit:=by unfold jB.fit;infer_instance
structure Tw(h:Array Obj)(T:Nat->Option Nat)(x:jB):Prop where
 k:Rd h x.k 1 (x.key.map (Value.int .u8))
 v:Rd h x.v 1 (x.val.map (Value.int .u8))
 k8:B8 x.key
 v8:B8 x.val
 ku:x.key≠[]->∀q,x.k.aj=some q->T q=none/\q < h.size
 vu:x.val≠[]->∀q,x.v.aj=some q->T q=none/\q < h.size
theorem Tw.ext{S:Nat->Prop}{w w':Wd}{T:Nat->Option Nat}{x:jB}(r:Tw w.heap T x)(e:Ext S w w')(hS:∀q,q < w.heap.size->S q->T q≠none):Tw w'.heap T x:=
  ⟨Rd.HX r.k e fun hn q hl hq h=>hS q hl h (r.ku hn q hq).1,Rd.HX r.v e fun hn q hl hq h=>hS q hl h (r.vu hn q hq).1,r.k8,r.v8,
   fun hn q hq=>⟨(r.ku hn q hq).1,Nat.lt_of_lt_of_le (r.ku hn q hq).2 e.size⟩,fun hn q hq=>⟨(r.vu hn q hq).1,Nat.lt_of_lt_of_le (r.vu hn q hq).2 e.size⟩⟩
theorem Tw.tg{w:Wd}{T T':Nat->Option Nat}{x:jB}(r:Tw w.heap T x)(h:∀q,q < w.heap.size->T' q=T q):Tw w.heap T' x:=
 ⟨r.k,r.v,r.k8,r.v8,fun hn q hq=>⟨by rw[h q (r.ku hn q hq).2];exact(r.ku hn q hq).1,(r.ku hn q hq).2⟩,fun hn q hq=>⟨by rw[h q (r.vu hn q hq).2];exact(r.vu hn q hq).1,(r.vu hn q hq).2⟩⟩
abbrev RM(l:List (ByteArray×jB)):List (ByteArray×Value):=l.map fun p=>(p.1,p.2.agg)
def uE(a:ByteArray)(x:jB):List (ByteArray×jB)->List (ByteArray×jB)
 | []=>[(a,x)]
 | p::m=>if a=p.1 then(a,x)::m else p::uE a x m
def pX(a:ByteArray):List (ByteArray×jB)->Option jB
 | []=>none
 | p::m=>if a=p.1 then some p.2 else pX a m
theorem QI(a:ByteArray)(x:jB):∀l,AV a x.agg (RM l)=RM (uE a x l)
 | []=>rfl
 | p::l=>by
  simp only[RM,List.map_cons,AV,uE];split
  .simp
  .simp only[List.map_cons,List.cons.injEq,true_and];exact QI a x l
theorem QJ(a:ByteArray):∀l,Hr a (RM l)=(pX a l).map jB.agg
 | []=>rfl
 | p::l=>by
  simp only[RM,List.map_cons,Hr,pX];split
  .rfl
  .exact QJ a l
theorem Ii(a b:ByteArray)(x:jB):∀l,pX b (uE a x l)=if b=a then some x else pX b l
 | []=>by simp only[uE,pX]
 | p::l=>by
  simp only[uE];split
  .rename_i h;simp only[pX,<- h];split
   .rfl
   .rfl
  .rename_i h;simp only[pX];split
   .rename_i h2;rw[if_neg (show ¬ b=a from fun e=>h (e.symm.trans h2))]
   .exact Ii a b x l
theorem D_(a:ByteArray)(x:jB):∀{l:List (ByteArray×jB)},(l.map Prod.fst).Nodup->((uE a x l).map Prod.fst).Nodup/\(∀b,b∈(uE a x l).map Prod.fst->b=a∨b∈l.map Prod.fst)/\(uE a x l).length<=l.length+1
 | [],_=>by simp[uE]
 | p::l,h=>by
  simp only[List.map_cons,List.nodup_cons]at h;simp only[uE];split
  .rename_i e;refine⟨?_,fun b hb=>?_,by simp⟩
   .simp only[List.map_cons,List.nodup_cons];exact e ▸ h
   .simp only[List.map_cons,List.mem_cons]at hb ⊢;rcases hb with hb | hb
    .exact .inl hb
    .exact .inr (.inr hb)
  .rename_i e;obtain⟨h1,h2,h3⟩:=D_ a x (l:=l) h.2;refine⟨?_,fun b hb=>?_,by simp;omega⟩
   .simp only[List.map_cons,List.nodup_cons];refine⟨fun hm=>?_,h1⟩;rcases h2 _ hm with h' | h'
    .exact e h'.symm
    .exact h.1 h'
   .simp only[List.map_cons,List.mem_cons]at hb ⊢;rcases hb with hb | hb
    .exact .inr (.inl hb)
    .rcases h2 _ hb with h' | h'
     .exact .inl h'
     .exact .inr (.inr h')
theorem Ea{a:ByteArray}:∀{l:List (ByteArray×jB)},a∈l.map Prod.fst->∃x,pX a l=some x/\(a,x)∈l
 | [],h=>by cases h
 | p::l,h=>by
  simp only[pX];split
  .rename_i e;exact⟨p.2,rfl,by rw[e];simp⟩
  .rename_i e;simp only[List.map_cons,List.mem_cons]at h;obtain⟨x,h1,h2⟩:=Ea (h.resolve_left e);exact⟨x,h1,List.mem_cons_of_mem _ h2⟩
theorem QK{k k':List Int}{o:Option (List Int)}{l:List KV}:bU (jo k o l) k'=if k'=k then o else bU l k':=by
 have lo:∀{p:KV->Bool},(∀x,x.1=k'->p x=true)->bU (l.filter p) k'=bU l k':=fun {p} h=>by
  unfold bU;rw[List.find?_filter];congr 2;funext x;by_cases hx:x.1=k'
  .simp[hx,h x hx]
  .simp[hx]
 have no:∀{p:KV->Bool},(∀x,x.1=k'->p x=false)->bU (l.filter p) k'=none:=fun {p} h=>pQ fun x hx e=>by
  have:=(List.mem_filter.1 hx).2;rw[h x e]at this;cases this
 unfold jo;rw[me,me]
 have mid:∀v,bU (((some v:Option (List Int)).map fun v=>(k,v)).toList) k'=if k'=k then some v else none:=fun v=>by
  unfold bU;by_cases h:k'=k
  .subst h;simp
  .simp[h,Ne.symm h]
 rcases bM.total k' k with h | h | h
 .have h1:bU (kvLo k l) k'=bU l k':=lo fun x hx=>by rw[hx];exact decide_eq_true h
  have h2:bU (kvHi k l) k'=none:=no fun x hx=>by rw[hx];exact decide_eq_false fun h'=>(h.trans h').irrefl
  have bA:k'≠k:=fun e=>(e ▸ h).irrefl
  rw[h1,h2,if_neg bA]
  cases o with
  | none=>cases bU l k' <;> rfl
  | some v=>rw[mid v,if_neg bA];cases bU l k' <;> rfl
 .subst h;have h1:bU (kvLo k' l) k'=none:=no fun x hx=>by rw[hx];exact decide_eq_false fun h'=>h'.irrefl
  have h2:bU (kvHi k' l) k'=none:=no fun x hx=>by rw[hx];exact decide_eq_false fun h'=>h'.irrefl
  rw[h1,h2,if_pos rfl]
  cases o with
  | none=>rfl
  | some v=>rw[mid v,if_pos rfl];rfl
 .have h1:bU (kvLo k l) k'=none:=no fun x hx=>by rw[hx];exact decide_eq_false fun h'=>(h.trans h').irrefl
  have h2:bU (kvHi k l) k'=bU l k':=lo fun x hx=>by rw[hx];exact decide_eq_true h
  have bA:k'≠k:=fun e=>(e ▸ h).irrefl
  rw[h1,h2,if_neg bA]
  cases o with
  | none=>rfl
  | some v=>rw[mid v,if_neg bA];rfl
end Go.V
namespace Go.Proofs.YtpjbalhhlaofmaaGreat
open Go.V
section
variable {w:Wd} {T:Nat->Option Nat} {m:bJ} {M:Mm}
theorem FL{x:jB}{K:Bool->Pw}(hk:x.k.len=x.key.length)(hv:x.v.len=x.val.length)(k:∀w',Ext No w w'->K (decide x.fit) w'):pw x.k x.v x.d w K:=by
 apply EB
 refine af.mk fun b w1 n1=>⟨_,Cell.ah n1.get rfl,?_⟩
 have kk:∀p:Bool,(p=decide x.fit)->K p w1:=fun p hp=>by rw[hp];exact k w1 n1.ext
 have no:¬ x.fit->K false w1:=fun h=>kk _ (by rw[decide_eq_false h])
 refine If.dec (fun h1=>⟨_,Cell.ah n1.get rfl,If.dec (fun h2=>⟨_,Cell.ah n1.get rfl,If.dec (fun h3=>⟨_,Cell.ah n1.get rfl,If.cases (fun hd=>⟨_,Cell.ah n1.get rfl,kk _ ?_⟩) fun hd=>kk _ ?_⟩) fun h=>no fun f=>by have:=f.2.1;omega⟩) fun h=>no fun f=>by have:=f.1;omega⟩) fun h=>no fun f=>by have:=f.1;omega
 .rw[<- decide_not];refine decide_eq_decide.2 ⟨fun h=>⟨by omega,by omega,fun _=>by omega⟩,fun f=>by have:=f.2.2 hd;omega⟩
 .exact(decide_eq_true ⟨by omega,by omega,fun h=>by rw[hd]at h;cases h⟩).symm
theorem M_{a b:ByteArray}{K:Int->Pw}(k:∀r,K r w):fP a b w K:=by
 apply uZ;apply jf;refine⟨Extern.BytealgCompare.cmp a b,w,?_,k _⟩;rw[run_callFunc_extern (e:=Extern.BytealgCompare.compare) Tryz.func112 (by kernel_rfl) (by kernel_rfl) (by kernel_rfl) (by kernel_rfl)];rfl
theorem abh:AW pz 9 Value.string:=Sv (by kernel_rfl)
theorem BL{r:Nat}{l:List (ByteArray×jB)}(h:uc w.heap Value.string r (RM l))(a:ByteArray):Sem.run pz (Instr.lookup 98 (.map (some r)) (.string a) false) w = .ok (((pX a l).getD ⟨⟨none,0,0⟩,⟨none,0,0⟩,false,[],[]⟩).agg) w:=by
 have:=AX (mt:=98) (et:=52) (a:=a) (z:=jB.agg ⟨⟨none,0,0⟩,⟨none,0,0⟩,false,[],[]⟩) abh (by kernel_rfl) (eT (i:=Tryz.t52) (by kernel_rfl) (by kernel_rfl)) h;rw[this,QJ]
 cases pX a l <;> rfl
theorem W4{bc r:Nat}{s:Sl}{l:List (ByteArray×jB)}{w0:Wd}(g:w0.heap[bc]? = some (.cells [.map (some r)].toArray 98 (0,0)))(h:uc w0.heap Value.string r (RM l))(nb:s.aj≠some bc)(nr:s.aj≠some r):Sf w0 s (.func (.func 49) #[] #[.pointer (some ⟨bc,0,none⟩)]):=by
 intro w x y K hx hk;refine Au (As ?_);have g1:=ag g hx nb;have h1:=h.ext hx nr;have vJ:∀{w'},Ext No w w'->uc w'.heap Value.string r (RM l):=fun e=>h1.ext e fun h=>h
 have xd:Ext No w (aa w):=(Ext.refl _ _).drew;refine⟨Ext No w,xd,_,ae.cell (Cell.ah g1 rfl),_,ae.cell (Cell.ah g1 rfl),⟨_,_,_,_,BL (vJ xd) x,xd,_,_,_,_,BL (vJ xd) y,xd,?_⟩,⟨_,_,_,_,BL (vJ xd) y,xd,_,_,_,_,BL (vJ xd) x,xd,?_⟩⟩
 all_goals exact If.cases (fun _=>If.cases (fun _=>hk _ _ xd) fun _=>hk _ _ xd) fun _=>M_ fun r=>hk _ _ xd
end
end Go.Proofs.YtpjbalhhlaofmaaGreat
namespace Go.V
def opsL(l:List jB)(kvs:List KV):List KV:=l.foldl (fun a x=>jo x.key (ID x.d x.val) a) kvs
def gS(l:List jB)(key:List Int):Option jB:=l.foldl (fun o x=>if x.key=key then some x else o) none
theorem nD(l:List jB)(x:jB)(key:List Int):gS (l++[x]) key=if x.key=key then some x else gS l key:=by simp[gS]
theorem xu(l:List jB)(x:jB)(kvs:List KV):opsL (l++[x]) kvs=jo x.key (ID x.d x.val) (opsL l kvs):=by simp[opsL]
theorem we{α:Type}{P:List α->Prop}(h0:P [])(h1:∀l x,P l->P (l++[x]))(l:List α):P l:=by
 have:∀n (l:List α),l.length=n->P l:=by
  intro n
  induction n with
  | zero=>intro l h;rw[List.eq_nil_of_length_eq_zero h];exact h0
  | succ n ih=>
   intro l h;have bA:l≠[]:=by intro e;rw[e]at h;simp at h
   rw[<- List.dropLast_concat_getLast bA];exact h1 _ _ (ih _ (by simp[h]))
 exact this _ l rfl
theorem BM(kvs:List KV)(key:List Int)(l:List jB):bU (opsL l kvs) key=match gS l key with | some x=>ID x.d x.val | none=>bU kvs key:=by
 refine we (P:=fun l=>bU (opsL l kvs) key=match gS l key with | some x=>ID x.d x.val | none=>bU kvs key) rfl (fun l x ih=>?_) l;rw[xu,QK,nD];by_cases h:x.key=key
 .rw[if_pos h.symm,if_pos h]
 .rw[if_neg (fun e=>h e.symm),if_neg h];exact ih
theorem Na{k:List Int}{o:Option (List Int)}{l:List KV}(h:gg l):gg (jo k o l):=by
 unfold jo;refine List.pairwise_append.2 ⟨h.sublist List.filter_sublist,List.pairwise_append.2 ⟨?_,h.sublist List.filter_sublist,fun x hx y hy=>?_⟩,fun x hx y hy=>?_⟩
 .cases o <;> simp
 .have h2:=of_decide_eq_true (List.mem_filter.1 hy).2
  cases o with
  | none=>simp at hx
  | some v=>simp at hx;rw[hx];exact h2
 .have h1:=of_decide_eq_true (List.mem_filter.1 hx).2;rcases List.mem_append.1 hy with h' | h'
  .cases o with
   | none=>simp at h'
   | some v=>simp at h';rw[h'];exact h1
  .exact h1.trans (of_decide_eq_true (List.mem_filter.1 h').2)
theorem Eb{l:List jB}{kvs:List KV}(h:gg kvs):gg (opsL l kvs):=
 we (P:=fun l=>gg (opsL l kvs)) h (fun l x ih=>by rw[xu];exact Na ih) l
theorem xy{l:List KV}(h:gg l){x:KV}:x∈l ↔ bU l x.1=some x.2:=by
 induction l with
 | nil=>simp[bU]
 | cons y l ih=>
  have h2:=List.pairwise_cons.1 h
  have e:bU (y::l) x.1=if y.1=x.1 then some y.2 else bU l x.1:=by
   unfold bU;by_cases hh:y.1=x.1 <;> simp[hh]
  rw[e,List.mem_cons];by_cases hh:y.1=x.1
  .rw[if_pos hh];constructor
   .rintro(h' | h')
    .rw[h']
    .exact absurd (h2.1 x h') (by rw[hh];exact fun h=>h.irrefl)
   .intro h';left;simp only[Option.some.injEq]at h';exact Prod.ext hh.symm h'.symm
  .rw[if_neg hh,<- ih h2.2];exact⟨fun h'=>h'.resolve_left fun e=>hh (by rw[e]),.inr⟩
theorem QL{a b:List KV}(ha:gg a)(hb:gg b)(h:∀k,bU a k=bU b k):a=b:=by
 have nd:∀{l:List KV},gg l->l.Nodup:=fun h=>h.imp fun {x y} h e=>by rw[e]at h;exact h.irrefl
 have hp:a.Perm b:=(List.perm_ext_iff_of_nodup (nd ha) (nd hb)).2 fun x=>by rw[xy ha,xy hb,h]
 exact hp.eq_of_pairwise (fun x y _ _ h1 h2=>absurd (h1.trans h2) (fun h=>h.irrefl)) ha hb
theorem BN{l:List jB}{key:List Int}{x:jB}(h:gS l key=some x):x∈l/\x.key=key:=by
 revert h
 refine we (P:=fun l=>gS l key=some x->x∈l/\x.key=key) (fun h=>by cases h) (fun l y ih h=>?_) l;rw[nD]at h;split at h
 .rename_i hy;cases h;exact⟨by simp,hy⟩
 .obtain⟨a,b⟩:=ih h;exact⟨by simp[a],b⟩
theorem Ij{l:List jB}{key:List Int}{x:jB}(hx:x∈l)(hk:x.key=key):∃y,gS l key=some y:=by
 revert hx
 refine we (P:=fun l=>x∈l->∃y,gS l key=some y) (fun h=>by cases h) (fun l y ih h=>?_) l;rw[nD];split
 .exact⟨_,rfl⟩
 .rename_i hy;rcases List.mem_append.1 h with h | h
  .exact ih h
  .rw[List.mem_singleton]at h;subst h;exact(hy hk).elim
theorem Ik{a:ByteArray}{x:jB}:∀{l:List (ByteArray×jB)},(l.map Prod.fst).Nodup->(a,x)∈l->pX a l=some x
 | [],_,h=>by cases h
 | p::l,hn,h=>by
  simp only[List.map_cons,List.nodup_cons]at hn;simp only[pX];rcases List.mem_cons.1 h with h' | h'
  .rw[<- h'];simp
  .rw[if_neg (show ¬ a=p.1 from fun e=>hn.1 (by rw[<- e];exact List.mem_map.2 ⟨_,h',rfl⟩))];exact Ik hn.2 h'
theorem QN{xs done:List jB}{l:List (ByteArray×jB)}{kvs:List KV}(hs:gg kvs)(h8:∀x∈xs,B8 x.key)(hl:∀key,B8 key->pX (pW key) l=gS xs key)(hn:(l.map Prod.fst).Nodup)(hk:∀p∈l,p.1=pW p.2.key/\p.2∈xs)
  (hd:∀x∈done,(pW x.key,x)∈l) (hp:(done.map fun x=>pW x.key).Perm (l.map Prod.fst)):opsL done kvs=opsL xs kvs:=by
 refine QL (Eb hs) (Eb hs) fun key=>?_
 rw[BM,BM]
 have:gS done key=gS xs key:=by
  cases h1:gS done key with
  | some x=>
   obtain⟨a,rfl⟩:=BN h1;have hm:=hd x a;have hb:=h8 x (hk _ hm).2;rw[<- hl x.key hb,Ik hn hm]
  | none=>
   cases h2:gS xs key with
   | none=>rfl
   | some y=>
    obtain⟨a,rfl⟩:=BN h2;have hb:=h8 y a;have h3:=hl y.key hb;rw[h2]at h3
    have hm:pW y.key∈l.map Prod.fst:=by
     refine Classical.byContradiction fun hc=>?_
     have:pX (pW y.key) l=none:=by
      clear hl hn hk hd hp h3
      induction l with
      | nil=>rfl
      | cons p l ih=>
       simp only[List.map_cons,List.mem_cons,not_or]at hc;simp only[pX];rw[if_neg hc.1];exact ih hc.2
     rw[this]at h3;cases h3
    obtain⟨x,hx,he⟩:=List.mem_map.1 (hp.mem_iff.2 hm);have hxk:x.key=y.key:=Ih (h8 x (hk _ (hd x hx)).2) hb he;obtain⟨z,hz⟩:=Ij hx hxk;rw[h1]at hz;cases hz
 rw[this]
structure wg(M M':Mm)(k:Nat)(ds ns:List Rf):Prop where
 aG:M'.aG=M.aG
 gen:M'.gen=M.gen
 HA:∀q,(live M'.aC).count q+ds.count q=(live M.aC).count q+ns.count q
 kp:∀n p,M.f n=some p->p.r.c≠M.aG->∃p',M'.f n=some p'/\p'.r=p.r/\p'.t=p.t/\p'.k=p.k/\p'.v=p.v/\p'.pay=p.pay
 ko:∀n p,M.f n=some p->p.r∈live M.aC->p.r ∉ ds->∃p',M'.f n=some p'/\p'.r=p.r/\p'.t=p.t/\p'.k=p.k/\p'.v=p.v/\p'.pay=p.pay
 len:M'.aC.length<=M.aC.length+k
theorem kV.w{M M':Mm}{k:Nat}{ds ns:List Rf}(h:kV M M' k ds ns):wg M M' k ds ns:=⟨h.aG,h.gen,h.HA,fun n p hp hc=>h.kp n p hp (.inr hc),fun n p hp _ hc=>h.kp n p hp (.inl hc),h.len⟩
theorem wg.trans{M0 M1 M2:Mm}{k1 k2:Nat}{a b c:List Rf}(S1:L_ M1)(h1:wg M0 M1 k1 a b)(h2:wg M1 M2 k2 b c):wg M0 M2 (k1+k2) a c:=by
 refine⟨h2.aG.trans h1.aG,h2.gen.trans h1.gen,fun q=>by have:=h1.HA q;have:=h2.HA q;omega,fun n p hp hc=>?_,fun n p hp hl hc=>?_,by have:=h1.len;have:=h2.len;omega⟩
 .obtain⟨p1,e1,e2,e3,e4,e5,e6⟩:=h1.kp n p hp hc;obtain⟨p2,f1,f2,f3,f4,f5,f6⟩:=h2.kp n p1 e1 (by rw[e2,h1.aG];exact hc);exact⟨p2,f1,f2.trans e2,f3.trans e3,f4.trans e4,f5.trans e5,f6.trans e6⟩
 .obtain⟨p1,e1,e2,e3,e4,e5,e6⟩:=h1.ko n p hp hl hc;have c1:=h1.HA p.r;have l0:=List.count_pos_iff.2 hl;have a0:=List.count_eq_zero.2 hc;have l1:=List.nodup_iff_count.1 (Bk S1) p.r;obtain⟨p2,f1,f2,f3,f4,f5,f6⟩:=h2.ko n p1 e1 (by rw[e2];exact List.count_pos_iff.1 (by omega)) (by rw[e2];exact List.count_eq_zero.1 (by omega));exact⟨p2,f1,f2.trans e2,f3.trans e3,f4.trans e4,f5.trans e5,f6.trans e6⟩
theorem wg.le{M M':Mm}{k k':Nat}{ds ns:List Rf}(h:wg M M' k ds ns)(hk:k<=k'):wg M M' k' ds ns:=⟨h.aG,h.gen,h.HA,h.kp,h.ko,by have:=h.len;omega⟩
theorem wg.sub{M M':Mm}{k:Nat}{ds ns:List Rf}(h:wg M M' k ds ns)(hs:Sub ds M):Sub ns M':=fun q=>by have:=h.HA q;have:=hs q;omega
end Go.V
namespace Go.Proofs.YtpjbalhhlaofmaaGreat
open Go.V
section
variable {w:Wd} {T:Nat->Option Nat} {m:bJ} {M:Mm}
structure RN(w w':Wd)(T T':Nat->Option Nat)(m m':bJ)(M M':Mm)(t:Int)(n:Nat)(HY:List KV)(ps dG:List Rf)(r':Rf)(mV:Nat):Prop where
 mem:bC w'.heap T' m' M'
 bm:m'.bm=m.bm
 tg:Tg w T T'
 ext:Ext (Ts T) w w'
 tree:dS M'.f t r' mV HY dG
 lv:mV<=30
 DT:wg M M' (60 * n) ps dG
theorem Il(l:List jB):∀x∈l,(jB.cs x).length=3:=fun _ _=>rfl
set_option maxHeartbeats 4000000 in
theorem uF{t:Int}{lev:Nat}{r:Rf}{kvs:List KV}{ps:List Rf}{ops:Sl}{xs:List jB}{K:Int->Int->Int->Int->Int->Pw}(R:bC w.heap T m M)(hT:dS M.f t r lev kvs ps)(ad5:lev<=30)(hs:Sub ps M)(JV:Rd w.heap ops 3 (xs.flatMap jB.cs))(hx:∀x∈xs,Tw w.heap T x)(hl:xs.length<=12)(hn:M.aC.length<=900000)
  (ad6:∀w',(∃x∈xs,¬ x.fit)->Ext No w w'->K 0 0 0 0 2 w')
  (k:∀(r':Rf)(mV:Nat) dG T' m' M' w',(∀x∈xs,x.fit)->RN w w' T T' m m' M M' t xs.length (opsL xs kvs) ps dG r' mV->K r'.p r'.c r'.g mV 0 w'):gq (eY m) t r.p r.c r.g lev ops w K:=by
 apply EP;have sup:∀q,w.heap.size<=q->T q=none:=fun q hq=>R.mS hq
 have nT:∀{q},T q=none->¬ Ts T q:=fun h h'=>h' h
 refine af.mk fun b w1 n1=>af.mk fun b1 w2 n2=>⟨trivial,If.no ?_⟩
 refine af.mk fun b2 w4 n4=>af.mk fun b3 w5 n5=>aQ.mk n5.get (by simp) rfl fun w6 h6=>?_
 have hb:=n1.at_;have jk:=n2.at_;have jN:=n4.at_;have vB:=n5.at_;have z1:=n1.size;have z2:=n2.size;have z4:=n4.size;have z5:=n5.size;have zY:Ext (·=b3) w5 w6:=h6.ext;have z6:w6.heap.size=w5.heap.size:=h6.size;have xY:Ext No w w5:=((n1.ext.no n2.ext).no n4.ext).no n5.ext;have AP:Ext No w w6:=xY.trans zY fun q hq h=>by omega
 have g6:=ag (ad (ad (ad n1.get n2.ext) n4.ext) n5.ext) zY (by omega);have so:=ag (ad (ad n2.get n4.ext) n5.ext) zY (by omega);have gm6:=ag (ad n4.get n5.ext) zY (by omega);have RK:w6.heap[b3]? = some (.cells [.map (some b2)].toArray 98 (0,0)):=h6.get n5.get;have aeT:=JV.no AP;have hol:ops.len=xs.length:=by have:=JV.len;rw[aS (Il xs)]at this;omega
 refine⟨fun q tt w'=>∃(j:Nat) (l:List (ByteArray×jB)),tt=j/\j<=xs.length/\q=xs.length - j/\uc w'.heap Value.string b2 (RM l)/\(l.map Prod.fst).Nodup/\l.length<=j/\Ext (·=b2) w6 w'/\(∀x∈xs.take j,x.fit)/\(∀key,B8 key->pX (pW key) l=gS (xs.take j) key)/\(∀p∈l,p.1=pW p.2.key/\p.2∈xs),
  ⟨xs.length,0,[],rfl,by omega,by omega,⟨#[],0,gm6,rfl,gP.nil⟩,.nil,by simp,Ext.refl _ _,by simp,fun key _=>by simp[pX,gS],by simp⟩,?_⟩
 rintro _ m0 tt w7 ⟨j,l,rfl,hj,hq,hm,uW,XM,Uv,iy,oZ,cN⟩;have ub:Ext No w w7:=AP.trans Uv fun q hq h=>by omega
 have g7:=ag g6 Uv (by omega);have fc:=ag so Uv (by omega);have Td:=ag RK Uv (by omega);have z67:=Uv.size;refine If.dec (fun h=>?_) fun h=>?_
 .have eO:j < xs.length:=by omega
  have abi:=JV.no ub;refine Ix.elem abi (Il xs) (by decide) (by omega) h fun bb o uJ _ bS=>?_
  simp only[Int.toNat_natCast]at uJ bS;have hxj:xs[j]∈xs:=List.getElem_mem eO;refine⟨_,bS 0 _ rfl,_,bS 1 _ rfl,_,bS 2 _ rfl,aW (vs:=jB.cs xs[j]) rfl rfl (by simp[jB.cs,aJ]) fun b4 w9 g9 Hm z9 x9=>?_⟩;have r9:=(hx _ hxj).ext (ub.no x9) fun q _ h=>h.elim
  refine⟨_,Cell.ah g9 rfl,_,Cell.ah g9 rfl,_,Cell.ah g9 rfl,FL (b_.len r9.k) (b_.len r9.v) fun dV dW=>If.not (If.dec (fun hft=>?_) fun hft=>?_)⟩
  .have nz:=ad g9 dW;have sP:Ext No w7 dV:=x9.no dW;have Te:=ad Td sP;have ZY:=r9.ext dW fun q _ h=>h.elim
   have ad7:=hm.ext sP fun h=>h
   obtain⟨eN,hup,abj,fJ,OQ⟩:=ta (P:=pz) (mt:=98) (kt:=9) (et:=52) (a:=pW xs[j].key) (v:=xs[j].agg) abh (by kernel_rfl) ad7;rw[QI]at abj;have UP:=D_ (pW xs[j].key) xs[j] uW;refine⟨_,Cell.ah Te rfl,_,Cell.ah nz rfl,iR.mk ZY.k (fun bb o v hv=>by show dV.cell? _=_;rw[lU];exact hv) ⟨_,Cell.ah nz rfl,_,Cell.ah nz rfl,_,Cell.ah nz rfl,eN,hup,Ar.i64 (by omega) ⟨xs.length - (j+1),by omega,j+1,uE (pW xs[j].key) xs[j] l,by omega,by omega,rfl,abj,UP.1,by have:=UP.2.2;omega,?_,fun x GD=>?_,fun key hk=>?_,fun p hp=>?_⟩⟩⟩
   .exact(Uv.no sP).trans fJ fun q _ h=>h
   .rw[List.take_add_one,List.getElem?_eq_getElem eO]at GD;rcases List.mem_append.1 GD with h' | h'
    .exact iy x h'
    .simp at h';rw[h'];exact hft
   .rw[Ii,List.take_add_one,List.getElem?_eq_getElem eO,Option.toList_some,nD];by_cases he:xs[j].key=key
    .rw[if_pos he,if_pos (by rw[he])]
    .rw[if_neg he,if_neg fun e=>he (Ih hk r9.k8 e).symm];exact oZ key hk
   .have:∀{l:List (ByteArray×jB)}{p},p∈uE (pW xs[j].key) xs[j] l->p=(pW xs[j].key,xs[j])∨p∈l:=fun {l p}=>by
     induction l with
     | nil=>intro h;simp[uE]at h;exact .inl h
     | cons y l ih=>
      intro h;simp only[uE]at h;split at h
      .rcases List.mem_cons.1 h with h | h
       .exact .inl h
       .exact .inr (List.mem_cons_of_mem _ h)
      .rcases List.mem_cons.1 h with h | h
       .exact .inr (by rw[h];exact List.mem_cons_self)
       .exact(ih h).imp id (List.mem_cons_of_mem _)
    rcases this hp with h' | h'
    .rw[h'];exact⟨rfl,hxj⟩
    .exact cN p h'
  .have sP:Ext No w7 dV:=x9.no dW;refine zN (ad fc sP) rfl fun di fH ND=>ad6 di ⟨_,hxj,hft⟩ ?_
   exact(ub.no sP).trans fH fun q hq h=>by omega
 .have eO:j=xs.length:=by omega
  rw[List.take_of_length_le (by omega)]at iy oZ;refine⟨_,Cell.ah Td rfl,?_⟩;apply ff;refine af.mk fun bk cO NI=>?_
  have hbk:=NI.at_;have JA:=NI.size;apply mB;apply oE;refine zM NI.get (hm.ext NI.ext fun h=>h) (by rw[List.length_map];omega) fun s ks cM hks SS fI=>?_
  have abk:ks.Perm (l.map Prod.fst):=by simpa[RM,List.map_map,Function.comp_def] using hks
  have Nb:Ext No w7 cM:=NI.ext.no fI;have slt:∀q,s.aj=some q->cO.heap.size<=q/\q < cM.heap.size:=fun q hq=>SS.lt hq
  have HF:=ad Td Nb;have abl:=hm.ext Nb fun h=>h
  have ad8:Sf cM s (.func (.func 49) #[] #[.pointer (some ⟨b3,0,none⟩)]):=W4 HF abl (fun h=>by have:=slt _ h;omega) (fun h=>by have:=slt _ h;omega)
  refine CK ad8 SS (by have:=abk.length_eq;rw[List.length_map]at this;omega) fun L dY hL o15 sN=>⟨rfl,aW rfl rfl (by simp[aJ]) fun b5 kE ad9 LK VC qC=>?_⟩
  have mZ:Ext (fun q=>s.aj=some q) cM dY:=sN;have Ue:=mZ.size;have s14:=Nb.size;have Ws:∀q,q < cO.heap.size->¬ s.aj=some q:=fun q hq h=>by have:=slt q h;omega
  have sT:Ext No w kE:=((ub.no Nb).trans mZ fun q hq h=>by have:=slt q h;have:=ub.size;omega).no qC;have aea:=ad (ag (ad g7 Nb) mZ (Ws _ (by omega))) qC;have CP:=ad (ag (ad fc Nb) mZ (Ws _ (by omega))) qC;have MN:=ad (ag HF mZ (Ws _ (by omega))) qC;have aeb:=(abl.ext mZ (Ws _ (by omega))).ext qC fun h=>h
  have Ge:=o15.no qC;have hLp:L.Perm (l.map Prod.fst):=hL.trans abk;have Gb:L.length<=xs.length:=by have:=hLp.length_eq;rw[List.length_map]at this;omega
  have LN:s.len=L.length:=by have:=o15.len;simp only[List.length_map,Nat.mul_one]at this;omega
  have afA:=sT.size
  refine⟨fun q tt w'=>∃(j:Nat) (done:List jB) (T':Nat->Option Nat) (m':bJ) (M':Mm) (r':Rf) (mV:Nat) (dG:List Rf),tt=j/\j<=L.length/\q=L.length - j/\done.map (fun x=>pW x.key)=L.take j/\(∀x∈done,(pW x.key,x)∈l)/\bC w'.heap T' m' M'/\m'.bm=m.bm/\Tg kE T T'/\Ext (fun q=>Ts T q∨q=b) kE w'/\w'.heap[b]? = some (.cells [.int .u32 r'.p,.int .u64 r'.c,.int .u16 r'.g,.int .u8 mV].toArray 30 (0,0))/\dS M'.f t r' mV (opsL done kvs) dG/\mV<=30/\wg M M' (60 * j) ps dG,
   ⟨L.length,0,[],T,m,M,r,lev,ps,rfl,by omega,by omega,rfl,by simp,R.no sT,rfl,fun _ _=>rfl,Ext.refl _ _,aea,hT,ad5,((kV.refl M).as (by omega) (by simp) (by simp)).w⟩,?_⟩
  rintro _ m0 tt fR ⟨j2,done,T',m',M',r',mV,dG,rfl,Vo,XA,QO,hdl,WK,yz,tg,l_,FM,tr,SE,cg⟩;have nS:∀{q},w.heap.size<=q->q≠b->¬ (Ts T q∨q=b):=fun h1 h2 h=>h.elim (nT (sup _ h1)) h2
  have abm:=ag ad9 l_ (nS (by omega) (by omega));have QB:=ag CP l_ (nS (by omega) (by omega));have W3:=ag MN l_ (nS (by omega) (by omega));have aec:=aeb.ext l_ (nS (by omega) (by omega));have KS:=Ge.ext l_ fun q hq=>nS (by have:=slt q hq;omega) (by have:=slt q hq;omega)
  have s17:=l_.size;have tT:∀q,q < kE.heap.size->T' q=T q:=tg
  refine If.dec (fun h2=>?_) fun h2=>?_
  .have QA:j2 < L.length:=by omega
   refine Ix.str KS (by omega) (by simpa using QA) fun bb _ hc=>?_
   simp only[Int.toNat_natCast]at hc;have RU:L[j2]∈l.map Prod.fst:=hLp.mem_iff.1 (List.getElem_mem QA);obtain⟨x,hox,XT⟩:=Ea RU;have hpx:=cN _ XT;have hxx:x∈xs:=hpx.2;have jm:L[j2]=pW x.key:=hpx.1;have UQ:=BL aec L[j2];rw[hox]at UQ;have ME:Ext (fun q=>Ts T q∨q=b) w fR:=sT.aE.trans l_ fun _ _ h=>h
   have rx:=((hx x hxx).tg (T':=T') fun q hq=>tT q (by omega)).ext ME fun q hq h=>by rw[tT q (by omega)];exact h.elim id (by omega)
   have hf:=iy x hxx;refine⟨_,hc,_,Cell.ah abm rfl,_,Cell.ah abm rfl,_,Cell.ah FM rfl,_,Cell.ah FM rfl,_,Cell.ah FM rfl,_,Cell.ah FM rfl,_,Cell.ah W3 rfl,x.k,x.v,x.d,fR,UQ,?_⟩;rw[<- jw yz];have tb':T' b=none:=by rw[tT b (by omega)];exact sup b (by omega)
   refine Ig WK tr (cg.sub hs) ⟨rx.k,rx.v,rx.k8,rx.v8,hf.1,hf.2.1,fun hn q hq=>(rx.ku hn q hq).1,fun hn q hq=>(rx.vu hn q hq).1⟩ (by have:=cg.len;omega) fun r2 Gj K8 T2 m2 M2 uK C=>?_
   have aed:=ag FM C.ext (fun h=>h tb');have VR:=C.ext.size;have tb2:T2 b=none:=by rw[C.tg b (by omega)];exact tb'
   refine cR aed rfl rfl (by simp[aJ]) fun oc g20 rL z20=>If.bne (fun h=>(h rfl).elim) fun _=>Ar.i64 (by omega) ?_
   have QH:Ext (·=b) uK oc:=rL;refine⟨L.length - (j2+1),by omega,j2+1,done++[x],T2,m2,M2,r2,Gj,K8,by omega,by omega,rfl,?_,fun y hy=>?_,C.mem.ext QH fun q hq=>by rw[hq];exact tb2,C.bm.trans yz,fun q hq=>by rw[C.tg q (by omega)];exact tT q hq,?_,g20,by rw[xu];exact C.tree,C.lv,?_⟩
   .rw[List.map_append,QO,List.take_add_one,List.getElem?_eq_getElem QA,Option.toList_some];simp[jm]
   .rcases List.mem_append.1 hy with h' | h'
    .exact hdl y h'
    .rw[List.mem_singleton]at h';rw[h',<- jm];exact XT
   .exact(l_.trans C.ext fun q hq h=> .inl (by show T q≠none;rw[<- tT q hq];exact h)).trans QH fun q hq h=> .inr h
   .exact(cg.trans WK.Bj C.DT.w).le (by omega)
  .have QA:j2=L.length:=by omega
   rw[QA,List.take_length]at QO;have heq:opsL done kvs=opsL xs kvs:=QN hT.sort (fun x GD=>(hx x GD).k8) oZ uW cN hdl (by rw[QO];exact hLp);rw[heq]at tr;refine⟨_,Cell.ah FM rfl,_,Cell.ah FM rfl,_,Cell.ah FM rfl,_,Cell.ah FM rfl,zN QB rfl fun pf Gd z22=>?_⟩;have abn:Ext (·=b1) fR pf:=Gd;refine k r' mV dG T' m' M' pf iy ⟨WK.ext abn fun q hq=>by rw[hq,tT b1 (by omega)];exact sup b1 (by omega),yz,fun q hq=>tT q (by omega),?_,tr,SE,cg.le (by omega)⟩;exact(sT.aE.trans l_ fun q hq h=>h.elim id fun h=>by omega).trans abn fun q hq h=>by omega
end
end Go.Proofs.YtpjbalhhlaofmaaGreat
namespace Go.V
open Go.V.Pk Go.Proofs.YtpjbalhhlaofmaaGreat
theorem Im:∀{x y:List Int}{a b:Int},x.length=y.length->(bM (x++[a]) (y++[b]) ↔ bM x y∨x=y/\a < b)
 | [],[],a,b,_=>by
  simp only[bM,List.nil_append,hZ];by_cases h:a < b
  .simp[h]
  .rw[if_neg h];by_cases h2:b < a
   .simp[h2];omega
   .simp[h2];omega
 | [],_::_,_,_,h=>by simp at h
 | _::_,[],_,_,h=>by simp at h
 | p::x,q::y,a,b,h=>by
  have ih:=Im (x:=x) (y:=y) (a:=a) (b:=b) (by simpa using h);simp only[bM,List.cons_append,hZ]at ih ⊢;by_cases h1:p < q
  .simp[h1]
  .by_cases h2:q < p
   .simp[h1,h2];omega
   .have:p=q:=by omega
    subst this;simp only[if_neg h1];rw[ih];simp
theorem W5{k:Nat}{a b:Int}(ha:0<=a/\a < 256 ^ k)(hb:0<=b/\b < 256 ^ k)(h:be k a=be k b):a=b:=by
 rw[<- iA k ha.1 ha.2,h,iA k hb.1 hb.2]
theorem QP:∀(k:Nat){a b:Int},0<=a/\a < 256 ^ k->0<=b/\b < 256 ^ k->(bM (be k a) (be k b) ↔ a < b)
 | 0,a,b,ha,hb=>by simp[be,bM,hZ] at *;omega
 | k+1,a,b,ha,hb=>by
  have e:(256:Int) ^ (k+1)=256 ^ k * 256:=Int.pow_succ _ _;have Sa:0<=a / 256/\a / 256 < 256 ^ k:=by omega
  have Rn:0<=b / 256/\b / 256 < 256 ^ k:=by omega
  rw[be,be,Im (by rw[bu,bu]),QP k Sa Rn];constructor
  .rintro(h | ⟨h,h2⟩)
   .omega
   .have:=W5 Sa Rn h;omega
  .intro h;rcases Int.lt_or_le (a / 256) (b / 256) with h1 | h1
   .exact .inl h1
   .have:a / 256=b / 256:=by omega
    exact .inr ⟨by rw[this],by omega⟩
def FN(t:Int):Prop:=0<=t/\t<=4294967295
theorem FN.p{t:Int}(h:FN t):0<=t/\t < 256 ^ 4:=⟨h.1,by have:=h.2;show t < 4294967296;omega⟩
abbrev kX(t:Int):List Int:=be 4 t
theorem K9{a b:Int}(ha:FN a)(hb:FN b):bM (kX a) (kX b) ↔ a < b:=QP 4 ha.p hb.p
abbrev kvS(x:aO):KV:=(kX x.ai,eH x)
abbrev FO(W:List aO):List KV:=W.map kvS
def loS(t:Int)(W:List aO):List aO:=W.filter fun x=>decide (x.ai < t)
def hiS(t:Int)(W:List aO):List aO:=W.filter fun x=>decide (t < x.ai)
def K_(t:Int)(o:Option aO)(W:List aO):List aO:=loS t W++(o.toList++hiS t W)
structure lJ(W:List aO):Prop where
 sort:W.Pairwise fun a b=>a.ai < b.ai
 may:∀x∈W,pM x
 gC:∀x∈W,vC x
theorem lJ.tn{W:List aO}(h:lJ W):∀x∈W,FN x.ai:=fun x hx=>(h.gC x hx).ai
theorem lJ.nil:lJ []:=⟨.nil,by simp,by simp⟩
theorem W6{W:List aO}{t:Int}{o:Option aO}(hW:∀x∈W,FN x.ai)(ht:FN t)(ho:∀x,o=some x->x.ai=t):jo (kX t) (o.map eH) (FO W)=FO (K_ t o W):=by
 have e1:kvLo (kX t) (FO W)=FO (loS t W):=by
  unfold kvLo loS FO;rw[List.filter_map];congr 1;refine List.filter_congr fun x hx=>?_
  show decide (bM (kX x.ai) (kX t))=_;exact decide_eq_decide.2 (K9 (hW x hx) ht)
 have e2:kvHi (kX t) (FO W)=FO (hiS t W):=by
  unfold kvHi hiS FO;rw[List.filter_map];congr 1;refine List.filter_congr fun x hx=>?_
  show decide (bM (kX t) (kX x.ai))=_;exact decide_eq_decide.2 (K9 ht (hW x hx))
 unfold jo K_;rw[e1,e2]
 cases o with
 | none=>simp
 | some x=>have:=ho x rfl;subst this;simp
theorem Lc{W:List aO}{t:Int}{o:Option aO}{x:aO}(h:x∈K_ t o W):o=some x∨x∈W:=by
 unfold K_ at h;rcases List.mem_append.1 h with h | h
 .exact .inr (List.mem_filter.1 h).1
 .rcases List.mem_append.1 h with h | h
  .exact .inl (by cases o <;> simp at h;rw[h])
  .exact .inr (List.mem_filter.1 h).1
theorem lJ.op{W:List aO}{t:Int}{o:Option aO}(h:lJ W)(ho:∀x,o=some x->x.ai=t/\pM x/\vC x):lJ (K_ t o W):=by
 refine⟨?_,fun x hx=>?_,fun x hx=>?_⟩
 .unfold K_;refine List.pairwise_append.2 ⟨h.sort.sublist List.filter_sublist,List.pairwise_append.2 ⟨by cases o <;> simp,h.sort.sublist List.filter_sublist,fun x hx y hy=>?_⟩,fun x hx y hy=>?_⟩
  .have h2:=of_decide_eq_true (List.mem_filter.1 hy).2
   cases o with
   | none=>simp at hx
   | some z=>simp at hx;subst hx;have:=(ho x rfl).1;omega
  .have h1:=of_decide_eq_true (List.mem_filter.1 hx).2;rcases List.mem_append.1 hy with h | h
   .cases o with
    | none=>simp at h
    | some z=>simp at h;subst h;have:=(ho y rfl).1;omega
   .have h2:=of_decide_eq_true (List.mem_filter.1 h).2;omega
 .rcases Lc hx with h1 | h1
  .exact(ho x h1).2.1
  .exact h.may x h1
 .rcases Lc hx with h1 | h1
  .exact(ho x h1).2.2
  .exact h.gC x h1
theorem ik{a b:Nat}{r s:List Int}(ha:a < 18446744073709551616)(hb:b < 18446744073709551616)(h:numB a++r=numB b++s):a=b/\r=s:=by
 have h1:=vw ha r;rw[h,vw hb s]at h1
 have e:a=b:=by
  have:=congrArg Prod.fst h1;simp only at this;omega
 subst e;exact⟨rfl,List.append_cancel_left h⟩
theorem Ec{a b r s:List Int}(ha:a.length < 18446744073709551616)(hb:b.length < 18446744073709551616)(h:textB a++r=textB b++s):a=b/\r=s:=by
 unfold textB at h;rw[List.append_assoc,List.append_assoc]at h;obtain⟨h1,h2⟩:=ik ha hb h;exact List.append_inj h2 h1
theorem Nc{a b:bX}{r s:List Int}(ha:j_ a)(hb:j_ b)(la:a.wr.length=32)(lb:b.wr.length=32)(h:cI a++r=cI b++s):a=b/\r=s:=by
 unfold cI at h;simp only[List.append_assoc]at h;have a1:=ha.gen;have a2:=ha.cm;have b1:=hb.gen;have b2:=hb.cm;obtain⟨h1,h⟩:=ik (by omega) (by omega) h;obtain⟨h2,h⟩:=ik (by omega) (by omega) h;obtain⟨h3,h⟩:=Ec (by omega) (by omega) h;exact⟨bX.ext (by omega) (by omega) h3,h⟩
theorem BO:∀{a b:List bX},a.length=b.length->(∀x∈a,j_ x/\x.wr.length=32)->(∀x∈b,j_ x/\x.wr.length=32)->a.flatMap cI=b.flatMap cI->a=b
 | [],[],_,_,_,_=>rfl
 | [],_::_,h,_,_,_=>by simp at h
 | _::_,[],h,_,_,_=>by simp at h
 | x::a,y::b,hl,ha,hb,h=>by
  rw[List.flatMap_cons,List.flatMap_cons]at h;obtain⟨h1,h2⟩:=Nc (ha x List.mem_cons_self).1 (hb y List.mem_cons_self).1 (ha x List.mem_cons_self).2 (hb y List.mem_cons_self).2 h;rw[h1,BO (by simpa using hl) (fun z hz=>ha z (List.mem_cons_of_mem _ hz)) (fun z hz=>hb z (List.mem_cons_of_mem _ hz)) h2]
theorem Good.uniq{t:Int}{l:List Int}{x y:aO}(hx:Good t l x)(hy:Good t l y):x=y:=by
 have ex:=hx.le;have ey:=hy.le;have rx:=hx.gC;have ry:=hy.gC;have h:eH x=eH y:=hx.form.trans hy.form.symm;unfold eH at h;obtain⟨x1,x2,x3⟩:=rx.root;obtain⟨y1,y2,y3⟩:=ry.root;have lx:=rx.lev;have ly:=ry.lev;obtain⟨h1,h⟩:=ik (by omega) (by omega) h;obtain⟨h2,h⟩:=ik (by omega) (by omega) h;obtain⟨h3,h⟩:=Ec (by omega) (by omega) h;obtain⟨h4,h⟩:=ik (by omega) (by omega) h;obtain⟨h5,h⟩:=ik (by omega) (by omega) h;obtain⟨h6,h⟩:=ik (by omega) (by omega) h;obtain⟨h7,h⟩:=ik (by omega) (by omega) h;obtain⟨h8,h⟩:=ik (by omega) (by omega) h;refine aO.ext (hx.ai.trans hy.ai.symm) (by omega) h3 ?_ (by omega) (by omega) (BO h8 (fun z hz=>⟨rx.held z hz,ex.2.2.2.2.2.2.2 z hz⟩) (fun z hz=>⟨ry.held z hz,ey.2.2.2.2.2.2.2 z hz⟩) h);have u1:x.root.p=y.root.p:=by omega
 have u2:x.root.c=y.root.c:=by omega
 have u3:x.root.g=y.root.g:=by omega
 cases hxr:x.root;cases hyr:y.root
 rw[hxr,hyr]at u1 u2 u3;simp only at u1 u2 u3;rw[u1,u2,u3]
theorem xz{x:aO}(may:pM x)(rg:vC x):(eH x).length<=208/\1<=(eH x).length:=by
 have g:Good x.ai (eH x) x:=⟨may,rg,rfl,rfl⟩
 have e:=g.le;obtain⟨x1,x2,x3⟩:=rg.root;have lx:=rg.lev;have s:∀{n:Nat},n < 128->(numB n).length=1:=fun h=>by rw[nu h];rfl
 have b2:∀{n:Nat},n < 16384->(numB n).length<=2:=fun h=>qY 2 _ (by omega) (by decide)
 have b3:∀{n:Nat},n < 2097152->(numB n).length<=3:=fun h=>qY 3 _ (by omega) (by decide)
 have b5:∀{n:Nat},n < 34359738368->(numB n).length<=5:=fun h=>qY 5 _ (by omega) (by decide)
 have q1:=b2 (n:=x.ay.toNat) (by omega);have q2:=b2 (n:=x.au.toNat) (by omega);have q3:(textB x.mark).length=17:=by unfold textB;rw[List.length_append,s (by omega)];omega
 have q4:=b5 (n:=x.root.p.toNat) (by omega);have q5:=aI (n:=x.root.c.toNat) (by omega);have q6:=b3 (n:=x.root.g.toNat) (by omega);have q7:=b2 (n:=x.lev.toNat) (by omega);have q8:=s (n:=x.held.length) (by omega)
 have hl:∀h∈x.held,(cI h).length<=46:=fun h hm=>by
  have r:=rg.held h hm;have hg:=r.gen;have hc:=r.cm;have hw:=e.2.2.2.2.2.2.2 h hm;have:=b3 (n:=h.gen.toNat) (by omega);have:=aI (n:=h.cm.toNat) (by omega);have:(textB h.wr).length=33:=by unfold textB;rw[List.length_append,s (by omega)];omega
  unfold cI;simp only[List.length_append];omega
 have hf:(x.held.flatMap cI).length<=92:=by
  rcases may.2.2.2.2.2.2.2 with⟨a,h,_⟩ | ⟨a,c,h,_⟩
  .rw[h]at hl ⊢;have:=hl a (by simp);simp only[List.flatMap_cons,List.flatMap_nil,List.append_nil];omega
  .rw[h]at hl ⊢;have:=hl a (by simp);have:=hl c (by simp);simp only[List.flatMap_cons,List.flatMap_nil,List.append_nil,List.length_append];omega
 unfold eH;simp only[List.length_append];omega
end Go.V
namespace Go.Proofs.YtpjbalhhlaofmaaGreat
open Go.V
section
variable {w:Wd}
end
end Go.Proofs.YtpjbalhhlaofmaaGreat
namespace Go.V
end Go.V
namespace Go.Proofs.YtpjbalhhlaofmaaGreat
open Go.V
section
variable {w:Wd} {T:Nat->Option Nat} {m:bJ} {M:Mm}
end
end Go.Proofs.YtpjbalhhlaofmaaGreat
namespace Go.V
structure Lab where
 t:Int
 k:Int
 v:Int
 r:Rf
abbrev Lab.agg(x:Lab):Value:= .agg ([.int .u32 x.t,.int .u8 x.k,.int .u8 x.v,.int .u32 x.r.p,.int .u64 x.r.c,.int .u16 x.r.g]).toArray
def abo(f:bR)(t:Int)(lev:Nat)(l:List aF)(kvs:List KV)(ps:List Rf):Prop:=(lev=0/\cG f t l kvs ps)∨∃lv,lev=lv+1/\aM (bq f t lv) l kvs ps
end Go.V
namespace Go.Proofs.YtpjbalhhlaofmaaGreat
open Go.V
section
variable {w:Wd} {T:Nat->Option Nat} {m:bJ} {M:Mm}
theorem _root_.Go.V.bq.opens{f:bR}{t:Int}{lev:Nat}{r:Rf}{kvs:List KV}{ps:List Rf}(h:bq f t lev r kvs ps):∃l dG,kg f t (bE lev) lev r l/\l≠[]/\abo f t lev l kvs dG/\ps=r::dG:=by
 cases lev with
 | zero=>
  obtain⟨l,dG,a,b,c,d⟩:=h;exact⟨l,dG,a,b,.inl ⟨rfl,c⟩,d⟩
 | succ lv=>
  obtain⟨l,dG,a,b,c,d⟩:=h;refine⟨l,dG,?_,by intro h;rw[h]at b;simp at b,.inr ⟨lv,rfl,c⟩,d⟩;unfold bE;rw[if_neg (by omega)];exact a
end
end Go.Proofs.YtpjbalhhlaofmaaGreat
namespace Go.V
section
variable {α:Type} [DecidableEq α] {P:Program} {w:Wd} {mt kt et:TypeId} {enc:α->Value} {r:Nat} {m:List (α×Value)} {a:α}
end
end Go.V
namespace Go.Proofs.YtpjbalhhlaofmaaGreat
open Go.V
section
variable {w:Wd} {T:Nat->Option Nat} {m:bJ} {M:Mm}
end
section
variable {w:Wd} {T:Nat->Option Nat} {m:bJ} {M:Mm}
theorem QQ{t p c g v:Int}{key:Sl}{K:Sl->Int->Pw}(k:∀w',Ext No w w'->K ⟨none,0,0⟩ 1 w'):fw .nilIface t p c g v key w K:=by
 apply tF
 exact af.mk fun b w1 n1=>⟨fun _=>False,⟨trivial,If.yes (k w1 n1.ext)⟩,fun _ _ h=>h.elim⟩
theorem CQ{t t':Int}{lev:Nat}{r:Rf}{ks:Sl}{key:List Int}{kvs:List KV}{ps:List Rf}{K:Sl->Int->Pw}(R:bC w.heap T m M)(hr:r ≠ .z)(hS:bq M.f t lev r kvs ps)(bA:t'≠t)(hk:b_ w.heap ks key)(kl:1<=key.length/\key.length<=32)(k:∀w',Ext No w w'->K ⟨none,0,0⟩ 150 w'):fw (eY m) t' r.p r.c r.g lev ks w K:=by
 apply tF;have zS:=b_.len hk
 refine af.mk fun b w1 n1=>⟨fun w'=>w'=w1,⟨trivial,If.no (If.beq (fun h=>by omega) fun h=>If.dec (fun h'=>by omega) fun h'=>rfl)⟩,?_⟩
 rintro _ w2 rfl;refine⟨rfl,aW rfl rfl (by simp[aJ]) fun b1 w4 g4 jk z4 x4=>?_⟩;have fg:=n1.ext.no x4;have RB:=ad n1.get x4;refine⟨fun _ w'=>w'=w4,⟨0,rfl⟩,?_⟩;rintro _ m0 w5 rfl;refine⟨_,Cell.ah RB rfl,_,Cell.ah RB rfl,_,Cell.ah RB rfl,_,Cell.ah RB rfl,?_⟩;dsimp only;rw[Hx,decide_eq_false hr];refine If.yes ⟨_,Cell.ah g4 rfl,_,Cell.ah g4 rfl,_,Cell.ah RB rfl,_,Cell.ah RB rfl,_,Cell.ah RB rfl,_,Cell.ah RB rfl,?_⟩;obtain⟨_,_,_,p,hp,_,hpt,_⟩:=bq.at_ hS;have n_:iC r.p M.aC=some p:=hp;have no:∀p',iC r.p M.aC=some p'->p'.t=t'->False:=fun p' h1 h2=>by rw[n_]at h1;cases h1;exact bA (h2.symm.trans hpt)
 refine DA (l:=[]) (R.no fg) (fun p' s L w' h1 h2=>(no p' h1 h2).elim) (fun p' h1 h2=>(no p' h1 h2).elim) (fun w' h1=>by rw[n_]at h1;cases h1) (fun p' w6 _ _ x6=>?_) (fun p' w' h1 h2=>(no p' h1 h2).elim);refine aW rfl rfl (by simp[aJ]) fun b2 w8 g8 jN z8 x8=>If.bne (fun _=>k _ ((fg.no x6).no x8)) fun h=>by omega
end
end Go.Proofs.YtpjbalhhlaofmaaGreat
namespace Go.V
end Go.V
namespace Go.Proofs.YtpjbalhhlaofmaaGreat
open Go.V
section
variable {w:Wd} {T:Nat->Option Nat} {m:bJ} {M:Mm}
end
end Go.Proofs.YtpjbalhhlaofmaaGreat
namespace Go.V
structure PV where
 k:Sl
 v:Sl
abbrev Pr:=PV×KV
def Pr.cs(p:Pr):List Value:=[.slice p.1.k.a p.1.k.len p.1.k.cap,.slice p.1.v.a p.1.v.len p.1.v.cap]
theorem BP(l:List Pr):∀x∈l,(Pr.cs x).length=2:=fun _ _=>rfl
abbrev Io(l:List Pr):List KV:=l.map Prod.snd
structure UR(h:Array Obj)(Q:Nat->Prop)(p:Pr):Prop where
 k:Rd h p.1.k 1 (p.2.1.map (Value.int .u8))
 v:Rd h p.1.v 1 (p.2.2.map (Value.int .u8))
 k8:B8 p.2.1
 v8:B8 p.2.2
 kq:p.2.1≠[]->∀q,p.1.k.aj=some q->Q q
 vq:p.2.2≠[]->∀q,p.1.v.aj=some q->Q q
theorem UR.ext{S Q:Nat->Prop}{w w':Wd}{p:Pr}(r:UR w.heap Q p)(x:Ext S w w')(hS:∀q,q < w.heap.size->Q q->¬ S q):UR w'.heap Q p:=
 ⟨Rd.HX r.k x fun hn q hl hq=>hS q hl (r.kq hn q hq),Rd.HX r.v x fun hn q hl hq=>hS q hl (r.vq hn q hq),r.k8,r.v8,r.kq,r.vq⟩
theorem UR.mono{Q Q':Nat->Prop}{h:Array Obj}{p:Pr}(r:UR h Q p)(hq:∀q,q < h.size->Q q->Q' q):UR h Q' p:=
 ⟨r.k,r.v,r.k8,r.v8,fun hn q h=>hq q (Rd.lt r.k (by simpa using hn) h) (r.kq hn q h),fun hn q h=>hq q (Rd.lt r.v (by simpa using hn) h) (r.vq hn q h)⟩
structure Nd(h:Array Obj)(Q:Nat->Prop)(s:Sl)(l:List Pr):Prop where
 rd:Rd h s 2 (l.flatMap Pr.cs)
 pr:∀p∈l,UR h Q p
theorem Nd.len{h:Array Obj}{Q:Nat->Prop}{s:Sl}{l:List Pr}(r:Nd h Q s l):s.len=l.length:=by have:=r.rd.len;rw[aS (BP l)]at this;omega
theorem Nd.no{Q:Nat->Prop}{w w':Wd}{s:Sl}{l:List Pr}(r:Nd w.heap Q s l)(x:Ext No w w'):Nd w'.heap Q s l:=⟨r.rd.no x,fun p hp=>(r.pr p hp).ext x fun _ _ _ h=>h⟩
structure uG(l:List KV)(key:List Int)(i:Nat):Prop where
 le:i<=l.length
 lt:∀j (h:j < l.length),j < i->bM l[j].1 key
 ge:∀h:i < l.length,¬ bM l[i].1 key
theorem gg.lt{l:List KV}(h:gg l){i j:Nat}(Fp:i < j)(hj:j < l.length):bM l[i].1 l[j].1:=List.pairwise_iff_getElem.1 h i j (by omega) hj Fp
end Go.V
namespace Go.Proofs.YtpjbalhhlaofmaaGreat
open Go.V
section
variable {w:Wd} {T:Nat->Option Nat} {m:bJ} {M:Mm}
end
section
variable {w:Wd} {T:Nat->Option Nat} {m:bJ} {M:Mm}
theorem Rd.pre{h:Array Obj}{s:Sl}{n:Nat}{α:Type}{f:α->List Value}{l:List α}(r:Rd h s n (l.flatMap f))(hf:∀x∈l,(f x).length=n)(hl:s.len=l.length){lo hi:Nat}(h1:lo<=hi)(h2:hi<=l.length):Rd h ⟨iQ s.a s.cap lo n,hi - lo,s.cap - lo⟩ n (((l.drop lo).take (hi - lo)).flatMap f):=by
 have rc:=r.cut (lo:=lo) (hi:=hi) (mx:=s.cap) h1 (by omega) (by have:=r.cap;omega)
 have e:((l.flatMap f).drop (lo * n)).take ((hi - lo) * n)=((l.drop lo).take (hi - lo)).flatMap f:=by
  have hd:(l.flatMap f).drop (lo * n)=(l.drop lo).flatMap f:=by
   conv=>lhs;rw[<- List.take_append_drop lo l]
   rw[List.flatMap_append,List.drop_append];have KN:((l.take lo).flatMap f).length=lo * n:=by rw[aS fun x hx=>hf x (List.mem_of_mem_take hx),List.length_take,Nat.min_eq_left (by omega)]
   rw[KN,List.drop_eq_nil_of_le (by omega),Nat.sub_self,List.drop_zero,List.nil_append]
  rw[hd]
  conv=>lhs;rw[<- List.take_append_drop (hi - lo) (l.drop lo)]
  rw[List.flatMap_append,List.take_append];have KN:(((l.drop lo).take (hi - lo)).flatMap f).length=(hi - lo) * n:=by rw[aS fun x hx=>hf x (List.mem_of_mem_drop (List.mem_of_mem_take hx)),List.length_take,List.length_drop,Nat.min_eq_left (by omega)]
  rw[KN,Nat.sub_self,List.take_zero,List.append_nil,List.take_of_length_le (by omega)]
 rw[e]at rc;exact rc
end
end Go.Proofs.YtpjbalhhlaofmaaGreat
namespace Go.V
end Go.V
namespace Go.Proofs.YtpjbalhhlaofmaaGreat
open Go.V
section
variable {w:Wd} {T:Nat->Option Nat} {m:bJ} {M:Mm}
end
end Go.Proofs.YtpjbalhhlaofmaaGreat
namespace Go.V
inductive eI (Q:Rf->List KV->Prop):List aF->List KV->Prop
 | nil:eI Q [] []
 | cons {e:aF} {l:List aF} {kv kvs:List KV} (h:Q e.cd kv) (r:eI Q l kvs):eI Q (e::l) (kv++kvs)
theorem eI.app{Q:Rf->List KV->Prop}{a b:List aF}{x y:List KV}(h:eI Q a x)(k:eI Q b y):eI Q (a++b) (x++y):=by
 induction h with
 | nil=>exact k
 | cons h r ih=>rw[List.append_assoc];exact .cons h ih
theorem eI.one{Q:Rf->List KV->Prop}{e:aF}{kv:List KV}(h:Q e.cd kv):eI Q [e] kv:=by
 have:=eI.cons (e:=e) h .nil;rwa [List.append_nil]at this
theorem eI.split{Q:Rf->List KV->Prop}:∀{a b:List aF}{x:List KV},eI Q (a++b) x->∃y z,x=y++z/\eI Q a y/\eI Q b z
 | [],b,x,h=>⟨[],x,rfl,.nil,h⟩
 | e::a,b,x,h=>by
  cases h with
  | cons h r=>
   obtain⟨y,z,rfl,h1,h2⟩:=eI.split r;exact⟨_,z,by rw[List.append_assoc],.cons h h1,h2⟩
theorem eI.last{Q:Rf->List KV->Prop}{e:aF}{x:List KV}(h:eI Q [e] x):Q e.cd x:=by
 cases h with
 | cons h r=>cases r;rwa [List.append_nil]
abbrev CR(f:bR)(t:Int)(lev:Nat):Rf->List KV->Prop:=fun r kv=>∃p,bq f t lev r kv p
theorem aM.q{f:bR}{t:Int}{lev:Nat}{l:List aF}{kvs:List KV}{ps:List Rf}(h:aM (bq f t lev) l kvs ps):eI (CR f t lev) l kvs:=by
 induction h with
 | nil=>exact .nil
 | cons h lo hi r ih=>exact .cons ⟨_,h⟩ ih
abbrev Yf:=List aF×Nat
def fU(f:bR)(t:Int):Nat->List KV->List Yf->Nat->Prop
 | 0,kvs,P,a=>∃l,P=[(l,a)]/\l.map aF.key=kvs.map Prod.fst/\a<=l.length/\l≠[]
 | lev+1,kvs,P,a=>∃l i P' a' pre kv post,P=(l,i)::P'/\(∃hi:i < l.length,CR f t lev l[i].cd kv)/\eI (CR f t lev) (l.take i) pre/\eI (CR f t lev) (l.drop (i+1)) post/\kvs=pre++(kv++post)/\fU f t lev kv P' a'/\a=pre.length+a'
section
variable {f:bR} {t:Int}
theorem fU.len:∀{lev:Nat}{kvs:List KV}{P:List Yf}{a:Nat},fU f t lev kvs P a->P.length=lev+1
 | 0,_,_,_,h=>by obtain⟨l,rfl,_⟩:=h;rfl
 | lev+1,_,_,_,h=>by
  obtain⟨l,i,P',a',pre,kv,post,rfl,_,_,_,_,hp,_⟩:=h;simp[hp.len]
theorem fU.leaf:∀{lev:Nat}{kvs:List KV}{P:List Yf}{a:Nat},fU f t lev kvs P a->∃Q l i b,P=Q++[(l,i)]/\Q.length=lev/\l≠[]/\i<=l.length/\a=b+i/\b+l.length<=kvs.length/\(∀k (h:k < l.length) (h':b+k < kvs.length),l[k].key=kvs[b+k].1)/\∀k,k<=l.length->fU f t lev kvs (Q++[(l,k)]) (b+k)
 | 0,kvs,P,a,h=>by
  obtain⟨l,rfl,h1,h2,hn⟩:=h;have hl:=congrArg List.length h1;simp only[List.length_map]at hl;refine⟨[],l,a,0,rfl,rfl,hn,h2,by omega,by omega,fun k h3 h4=>?_,fun k hk=>⟨l,by simp,h1,by omega,hn⟩⟩;have:=congrArg (fun x=>x[k]?) h1;simp only[List.getElem?_map,List.getElem?_eq_getElem h3,List.getElem?_eq_getElem (show k < kvs.length by omega),Option.map_some,Option.some.injEq]at this;simpa using this
 | lev+1,kvs,P,a,h=>by
  obtain⟨l,i,P',a',pre,kv,post,rfl,hi,h1,h2,rfl,hp,rfl⟩:=h;obtain⟨Q,l',i',b,rfl,hQ,a0,a1,rfl,a3,a4,a5⟩:=hp.leaf;refine⟨(l,i)::Q,l',i',pre.length+b,rfl,by simp[hQ],a0,a1,by omega,by simp only[List.length_append];omega,fun k h3 h4=>?_,fun k hk=>⟨l,i,Q++[(l',k)],b+k,pre,kv,post,rfl,hi,h1,h2,rfl,a5 k hk,by omega⟩⟩;rw[a4 k h3 (by omega)]
  have e:((pre++(kv++post))[pre.length+b+k]'h4)=kv[b+k]'(by omega):=by
   rw[List.getElem_append_right (by omega),List.getElem_append_left (by omega)];congr 1;omega
  rw[e]
def Ip(d:Int)(x:Yf):Prop:=0<=(x.2:Int)+d/\(x.2:Int)+d < (x.1.length:Int)
theorem fU.over{d:Int}(hd:d=1∨d = -1):∀{lev:Nat}{kvs:List KV}{P:List Yf}{a:Nat},fU f t lev kvs P a->(∀ x,P.getLast? = some x->if d=1 then x.2=x.1.length else x.2=0) ->
    (∃j,∃hj:j+1 < P.length,Ip d P[j]/\(∀j' (h:j'+1 < P.length),j < j'->¬ Ip d P[j'])/\∃i':Nat,(i':Int)=(P[j].2:Int)+d/\∃hi:i' < P[j].1.length,∃kv p,bq f t (lev - 1 - j) P[j].1[i'].cd kv p/\∀Pn,fU f t (lev - 1 - j) kv Pn (if d=1 then 0 else kv.length)->fU f t lev kvs (P.take j++(P[j].1,i')::Pn) a)∨
    (∀j (h:j+1 < P.length),¬ Ip d P[j])/\a=if d=1 then kvs.length else 0
  | 0,kvs,P,a,h,hl=>by
    obtain⟨l,rfl,h1,h2,_⟩:=h;refine .inr ⟨fun j h=>by simp at h,?_⟩;have:=hl (l,a) rfl;have h3:=congrArg List.length h1;simp only[List.length_map]at h3;split at this
    · rename_i h;rw[if_pos h];simp at this;omega
    · rename_i h;rw[if_neg h];simpa using this
  | lev+1,kvs,P,a,h,hl=>by
    obtain⟨l,i,P',a',pre,kv,post,rfl,hi,h1,h2,rfl,hp,rfl⟩:=h;have hP':=hp.len
    have Yr:∀x,P'.getLast? = some x->if d=1 then x.2=x.1.length else x.2=0:=fun x hx=>hl x (by
      rw[List.getLast?_cons];rw[hx];rfl)
    rcases fU.over hd hp Yr with⟨j,hj,m1,m2,i',e1,iO,Cb,p',hS,hN⟩ | ⟨m2,ha⟩
    · refine .inl ⟨j+1,by simp;omega,m1,fun j' h W7=>?_,i',e1,iO,Cb,p',?_,fun Pn US=>?_⟩
      · cases j' with
        | zero=>omega
        | succ j'=>simp only[List.getElem_cons_succ];exact m2 j' (by simp at h;omega) (by omega)
      · have e:lev+1 - 1 - (j+1)=lev - 1 - j:=by omega
        rw[e];exact hS
      · have e:lev+1 - 1 - (j+1)=lev - 1 - j:=by omega
        rw[e]at US;exact⟨l,i,_,a',pre,kv,post,rfl,hi,h1,h2,rfl,hN Pn US,rfl⟩
    · obtain⟨Nf,hq⟩:=hi
      have Tx:∀j' (h:j'+1 < ((l,i)::P').length),0 < j'->¬ Ip d ((l,i)::P')[j']:=fun j' h W7=>by
        cases j' with
        | zero=>omega
        | succ j'=>simp only[List.getElem_cons_succ];exact m2 j' (by simp at h;omega)
      rcases hd with hd | hd
      · rw[if_pos hd]at ha;by_cases hm:i+1 < l.length
        · refine .inl ⟨0,by simp;omega,⟨by simp;omega,by simp;omega⟩,fun j' h W7=>Tx j' h W7,i+1,by simp[hd],hm,?_⟩;rw[List.drop_eq_getElem_cons hm]at h2
          cases h2 with
          | @cons _ _ kv2 abp XA r2=>
          obtain⟨p2,hS2⟩:=XA;refine⟨kv2,p2,by simpa using hS2,fun Pn US=>?_⟩;rw[if_pos hd]at US;refine⟨l,i+1,Pn,0,pre++kv,kv2,abp,rfl,⟨hm,p2,hS2⟩,?_,r2,by simp,by simpa using US,by simp;omega⟩;rw[List.take_add_one,List.getElem?_eq_getElem Nf];exact h1.app (eI.one hq)
        · refine .inr ⟨fun j h=>?_,?_⟩
          · rcases Nat.eq_zero_or_pos j with h0 | h0
            · subst h0;rintro⟨_,h3⟩;simp at h3;omega
            · exact Tx j h h0
          · rw[if_pos hd,List.drop_eq_nil_of_le (by omega)] at *
            cases h2
            simp;omega
      · have hd1:d≠1:=by omega
        rw[if_neg hd1]at ha;by_cases hm:1<=i
        · have TN:i - 1 < l.length:=by omega
          refine .inl ⟨0,by simp;omega,⟨by simp;omega,by simp;omega⟩,fun j' h W7=>Tx j' h W7,i - 1,by simp;omega,TN,?_⟩
          have et:l.take i=l.take (i - 1)++[l[i - 1]]:=by
            have:i=i - 1+1:=by omega
            conv=>lhs;rw[this]
            rw[List.take_add_one,List.getElem?_eq_getElem TN];rfl
          rw[et]at h1;obtain⟨y,z,rfl,k1,k2⟩:=eI.split h1;obtain⟨p2,hS2⟩:=k2.last;refine⟨z,p2,by simpa using hS2,fun Pn US=>?_⟩;rw[if_neg hd1]at US;refine⟨l,i - 1,Pn,z.length,y,z,kv++post,rfl,⟨TN,p2,hS2⟩,k1,?_,by simp,by simpa using US,by simp;omega⟩;have:i - 1+1=i:=by omega
          rw[this,List.drop_eq_getElem_cons Nf];exact .cons hq h2
        · refine .inr ⟨fun j h=>?_,?_⟩
          · rcases Nat.eq_zero_or_pos j with h0 | h0
            · subst h0;rintro⟨h3,_⟩;simp at h3;omega
            · exact Tx j h h0
          · have i0:i=0:=by omega
            subst i0;rw[List.take_zero]at h1
            cases h1
            rw[if_neg hd1];simp;omega
theorem bq.keys:∀{lev:Nat}{r:Rf}{kvs:List KV}{ps:List Rf},bq f t lev r kvs ps->∀x∈kvs,1<=x.1.length/\x.1.length<=32/\B8 x.1
 | 0,r,kvs,ps,h=>by
  obtain⟨l,dG,hN,_,hL,_⟩:=h;have hk:=hL.keys;intro x hx;have hm:x.1∈l.map aF.key:=by rw[<- hk];exact List.mem_map.2 ⟨x,hx,rfl⟩
  obtain⟨e,he,hek⟩:=List.mem_map.1 hm;obtain⟨i,hi,rfl⟩:=List.getElem_of_mem he;have h1:=(hN.right.h_ i hi).1;unfold lX at h1;rw[if_neg (by omega)]at h1;rw[<- hek];exact⟨by omega,by omega,(hN.ok _ he).2.1⟩
 | lev+1,r,kvs,ps,h=>by
  obtain⟨l,dG,_,_,hK,_⟩:=h;intro x hx
  have:∀{l kvs ps},aM (bq f t lev) l kvs ps->∀x∈kvs,1<=x.1.length/\x.1.length<=32/\B8 x.1:=fun h=>by
   induction h with
   | nil=>intro x hx;cases hx
   | cons h lo hi r ih=>
    intro x hx;rcases List.mem_append.1 hx with h1 | h1
    .exact bq.keys h x h1
    .exact ih x h1
  exact this hK x hx
theorem FP{lev:Nat}:∀{l:List aF}{kvs:List KV}{ps:List Rf}{i:Nat},aM (bq f t lev) l kvs ps->(hi:i < l.length)->∃pre kv post p,eI (CR f t lev) (l.take i) pre/\bq f t lev l[i].cd kv p/\eI (CR f t lev) (l.drop (i+1)) post/\kvs=pre++(kv++post)
 | _,_,_,i,.nil,hi=>by simp at hi
 | _,_,_,0,.cons (kv:=kv) (kvs:=kvs) (p:=p) h lo hi r,_=>⟨[],kv,kvs,p,.nil,h,r.q,rfl⟩
 | _,_,_,i+1,.cons (kv:=kv) h lo hi r,hl=>by
  obtain⟨pre,Cb,post,p',h1,h2,h3,h4⟩:=FP (i:=i) r (by simpa using hl);exact⟨kv++pre,Cb,post,p',.cons ⟨_,h⟩ h1,h2,h3,by rw[h4,List.append_assoc]⟩
theorem Ed{lev:Nat}{key:List Int}:∀{l:List aF}{kvs:List KV}{ps:List Rf}{i:Nat},aM (bq f t lev) l kvs ps->xe l->(c:ui l key i)->∃pre kv post p,eI (CR f t lev) (l.take i) pre/\bq f t lev (l[i]'c.lt).cd kv p/\eI (CR f t lev) (l.drop (i+1)) post/\kvs=pre++(kv++post)/\(∀x∈pre,bM x.1 key)/\∀x∈post,¬ bM x.1 key
 | _,_,_,i,.nil,_,c=>absurd c.lt (by simp)
 | _,_,_,0,@aM.cons _ e l kv kvs p _ h lo hi r,hr,c=>by
  refine⟨[],kv,kvs,p,.nil,h,r.q,rfl,by simp,fun x hx=>?_⟩
  cases l with
  | nil=>cases r;cases hx
  | cons e2 l2=>
   have h1:=vK r hr.tail e2 l2 rfl x hx;have h2:bM key e2.key:=c.gt 1 (by simp) (by omega);intro h3;exact h1 (h3.trans h2)
 | _,_,_,i+1,@aM.cons _ e l kv kvs p _ h lo hi r,hr,c=>by
  have ci:ui l key i:=⟨by have:=c.lt;simp at this;omega,fun j hj Aa=>c.le (j+1) (by simp;omega) (by omega),fun j hj Fp=>c.gt (j+1) (by simp;omega) (by omega)⟩
  obtain⟨pre,Cb,post,p',h1,h2,h3,h4,h5,h6⟩:=Ed (i:=i) r hr.tail ci;refine⟨kv++pre,Cb,post,p',.cons ⟨_,h⟩ h1,h2,h3,by rw[h4,List.append_assoc],fun x hx=>?_,h6⟩;rcases List.mem_append.1 hx with h7 | h7
  .cases l with
   | nil=>exact absurd ci.lt (by simp)
   | cons e2 l2=>
    have h8:bM x.1 e2.key:=hi e2 l2 rfl x h7;have h9:¬ bM key e2.key:=c.le 1 (by simp) (by omega);rcases Ko.1 h9 with xW | xW
    .rw[xW];exact h8
    .exact h8.trans xW
  .exact h5 x h7
end
theorem uG.mid{pre kv post:List KV}{key:List Int}{a:Nat}(hp:uG kv key a)(h1:∀x∈pre,bM x.1 key)(h2:∀x∈post,¬ bM x.1 key):uG (pre++(kv++post)) key (pre.length+a):=by
 have hle:=hp.le;refine⟨by simp only[List.length_append];omega,fun j hj hja=>?_,fun hj=>?_⟩
 .rcases Nat.lt_or_ge j pre.length with h | h
  .rw[List.getElem_append_left h];exact h1 _ (List.getElem_mem _)
  .rw[List.getElem_append_right h,List.getElem_append_left (by omega)];exact hp.lt _ (by omega) (by omega)
 .rw[List.getElem_append_right (by omega)];rcases Nat.lt_or_ge a kv.length with h | h
  .rw[List.getElem_append_left (by omega)];have:=hp.ge h;simpa using this
  .rw[List.getElem_append_right (by omega)];exact h2 _ (List.getElem_mem _)
end Go.V
