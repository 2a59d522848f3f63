/- Texts for LPlayUnlines,LPlayParses,LPlayTexts,LPlayNotes,LPlayLines, part 15. -/
import Derived.RangeFuncRecord
import Derived.RangeFuncLeaves
import Derived.Test.YtimonamjecmlcaaGreatDoorPp14
namespace Go.V
def RfSt(l:Nat)(rf:Loop)(st:LoopState)(p:Option Code)(w:Wd):Prop:=w.heap[l]? = some (.loop { rf with state:=st,pending:=p })
def rfPut(l:Nat)(rf:Loop)(st:LoopState)(p:Option Code)(w:Wd):Wd:=w.putObj l (.loop { rf with state:=st,pending:=p })
structure RfNew(w:Wd)(rf:Loop)(Dk l:Nat)(w1:Wd):Prop where
 d:Dk=w.heap.size
 l:l=w.heap.size+1
 is:w1=(World.pushBlk (World.pushBlk w (.deferred (some []))) (.loop { rf with state := .ready,pending:=none }))
def DefSt(Dk:Nat)(w:Wd):Prop:=w.heap[Dk]? = some (.deferred (some []))
def defShut(Dk:Nat)(w:Wd):Wd:=w.putObj Dk (.deferred none)
def jumpC:Option Nat->Code
 | none => .ret
 | some i => .exit i
def jumpX:Option Nat->Exit
 | none => .ret
 | some i => .exit i
def eqJ:Option Nat->Option Nat->Bool
 | none,none=>true
 | some i,some j=>Nat.beq i j
 | _,_=>false
def hasJ:List (Option Nat)->Option Nat->Bool
 | [],_=>false
 | j::r,i=>bif eqJ j i then true else hasJ r i
def jumpE(l:Nat)(rf:Loop)(js:List (Option Nat))(K':Bool->Wd->Prop)(j:Option Nat)(w:Wd):Prop :=
 bif hasJ js j then RfSt l rf .busy none w/\K' false (rfPut l rf .done (some (jumpC j)) w) else False
def roundE(l:Nat)(rf:Loop)(js:List (Option Nat))(K':Bool->Wd->Prop):Exit->Env->Wd->Prop
 | .normal,_,w=>RfSt l rf .busy none w/\K' true (rfPut l rf .ready none w)
 | .ret,_,w=>jumpE l rf js K' none w
 | .exit i,_,w=>jumpE l rf js K' (some i) w
 | _,_,_=>False
def noE:Exit->Env->Wd->Prop:=fun _ _ _=>False
def rfEnd(l:Nat)(rf:Loop)(Q:Exit->Env->Wd->Prop)(ρ:Env)(w3:Wd):List (Option Nat)->Prop
 | []=>RfSt l rf .ready none w3/\Q .normal ρ (rfPut l rf .exhausted none w3)
 | j::r=>(RfSt l rf .done (some (jumpC j)) w3/\Q (jumpX j) ρ (rfPut l rf .exhausted (some (jumpC j)) w3))∨rfEnd l rf Q ρ w3 r
def allS:List Seg->(List Value->Prop)->Prop
 | [],F=>F []
 | .one s::r,F=>∀ x:s.T,allS r fun vs=>F (s.mk x::vs)
 | .row k n::r,F=>∀ l:List Int,l.length=n->allS r fun vs=>F (l.map (Value.int k)++vs)
def allTy:Ty->(Value->Prop)->Prop
 | .one s,F=>∀ x:s.T,F (s.mk x)
 | .agg l,F=>allS l fun vs=>F (.agg vs.toArray)
 | .bad,F=>∀ v,F v
theorem allS_of:∀(l:List Seg){F:List Value->Prop},(∀ vs,F vs)->allS l F
 | [],_,h=>h []
 | .one _::r,_,h=>fun _=>allS_of r fun _=>h _
 | .row _ _::r,_,h=>fun _ _=>allS_of r fun _=>h _
theorem allTy_of:∀(y:Ty){F:Value->Prop},(∀ v,F v)->allTy y F
 | .one _,_,h=>fun _=>h _
 | .agg l,_,h=>allS_of l fun _=>h _
 | .bad,_,h=>h
def rndA:List (Nat×Ty)->Env->(List Value->Env->Prop)->Prop
 | [],ρ,F=>F [] ρ
 | (t,y)::r,ρ,F=>allTy y fun v=>rndA r (put ρ t v) (fun vs ρ'=>F (v::vs) ρ')
structure RfA where
 psh:List (Nat×Ty)
 js:List (Option Nat)
 annA:Ann
 annB:Ann
def rfW(P:Program)(pk:Nat)(A:RfA)(g:Operand)(ars bd:Code)(Q:Nat->Exit->Env->Wd->Prop)(ρ:Env)(w:Wd):Prop :=
 ∀(rf:Loop)(Dk l:Nat)(w1:Wd),RfNew w rf Dk l w1 ->
  (rndA A.psh ρ fun args ρ'=>∀(W:Wd)(K':Bool->Wd->Prop),RfSt l rf .ready none W->wpc P pk (fun _ _=>False) A.annA ars (thenE (fun ρ2 W2=>RfSt l rf .ready none W2/\wpc P pk (fun _ _=>False) A.annB bd (roundE l rf A.js K') ρ2 (rfPut l rf .busy none W2)) noE) ρ' W ->
   dynV P true (.func (.yield l) #[] #[]) args [.one .bool] K' (fun _ _=>False) W) ->
  dynV P false (ev ρ g) [.func (.yield l) #[] #[]] [] (fun w3=>rfEnd l rf (Q Dk) ρ w3 A.js) (fun _ _=>False) w1
inductive Sp where
 | next (a:Ann) (s:Sp)
 | here (r:Ann) (A:RfA) (p:Ann)
def wpSp(P:Program)(pk:Nat):Sp->Code->(Exit->Env->Wd->Prop)->(Nat->Exit->Env->Wd->Prop)->Env->Wd->Prop
 | .next a s, .seq c1 c2,Q,QM,ρ,w=>wpc P pk (fun _ _=>False) a c1 (thenE (fun ρ w=>wpSp P pk s c2 Q QM ρ w) Q) ρ w
 | .here r A p, .seq (.seq rc (.block id (.rangeFunc g _ ars bd))) rest,Q,QM,ρ,w =>
  wpc P pk (fun _ _=>False) r rc (thenE (fun ρ w=>rfW P pk A g ars bd (fun Dk=>blockE id (thenE (fun ρ w=>wpc P pk (fun _ _=>False) p rest (QM Dk) ρ w) (QM Dk))) ρ w) Q) ρ w
 | _,_,_,_,_,_=>False
def eqPs:List Nat->List (Nat×Ty)->Bool
 | [],[]=>true
 | t::r,p::q=>Nat.beq t p.1 && eqPs r q
 | _,_=>false
def rfOk(P:Program)(n:Nat)(A:RfA)(ps:Array Tmp)(ars bd:Code):Bool:=eqPs ps.toList A.psh && chk P n A.annA ars && chk P n A.annB bd && noDrawA A.annA ars && noScope ars && noDrawA A.annB bd && noScope bd && ps.toList.all fun t=>Nat.blt t n
def spOk(P:Program)(n:Nat):Sp->Code->Bool
 | .next a s, .seq c1 c2=>chk P n a c1 && spOk P n s c2
 | .here r A p, .seq (.seq rc (.block _ (.rangeFunc _ ps ars bd))) rest=>chk P n r rc && rfOk P n A ps ars bd && chk P n p rest
 | _,_=>false
section sound
variable {P:Program} {n pk:Nat}
abbrev markD(Dk:Nat):Deferred:={ target := .collected Dk,args:=#[] }
def SpE(n:Nat)(Q:Exit->Env->Wd->Prop)(QM:Nat->Exit->Env->Wd->Prop):Exit->Act->Wd->Prop
 | .panic _,_,_=>False
 | .outgrown,_,_=>False
 | e,a,w=>(∃ ρ,Rep [] n a ρ/\Q e ρ w)∨∃ Dk ρ,Rep [markD Dk] n a ρ/\QM Dk e ρ w
theorem PostE.out{D:List Deferred}{Q:Exit->Env->Wd->Prop}{M:Nat->Bool}{ρ0:Env}{e:Exit}{a:Act}{w:Wd}(h:PostE D n Q (fun _ _=>False) M ρ0 e a w):(∃ ρ,Rep D n a ρ/\Q e ρ w)/\(∀ c,e ≠ .panic c)/\e ≠ .outgrown:=by
 cases e with
 | panic c=>exact h.1.elim
 | outgrown=>exact h.elim
 | _=>obtain ⟨ρ',h1,h2,_⟩:=h; exact ⟨⟨ρ',h1,h2⟩,(fun c h=>by cases h),(fun h=>by cases h)⟩
theorem SpE.mk{Q:Exit->Env->Wd->Prop}{QM:Nat->Exit->Env->Wd->Prop}{e:Exit}{a:Act}{w:Wd}(h:(∃ ρ,Rep [] n a ρ/\Q e ρ w)∨∃ Dk ρ,Rep [markD Dk] n a ρ/\QM Dk e ρ w)(h1:∀ c,e ≠ .panic c)(h2:e ≠ .outgrown):SpE n Q QM e a w:=by
 cases e with
 | panic c=>exact (h1 c rfl).elim
 | outgrown=>exact (h2 rfl).elim
 | _=>exact h
theorem eqPs_eq:∀{l:List Nat}{p:List (Nat×Ty)},eqPs l p=true->l=p.map Prod.fst
 | [],[],_=>rfl
 | t::r,p::q,h=>by
  simp only [eqPs,Bool.and_eq_true] at h
  rw [List.map_cons,<- Nat.eq_of_beq_eq_true h.1,eqPs_eq h.2]
 | [],_::_,h=>by simp [eqPs] at h
 | _::_,[],h=>by simp [eqPs] at h
theorem rnd_rep{D:List Deferred}{F:List Value->Env->Prop}:∀(psh:List (Nat×Ty))(ρ:Env)(a:Act),(∀ p∈psh,p.1 < n)->Rep D n a ρ->(∀ args ρ',args.length=psh.length->Rep D n { a with tmps:=((psh.map Prod.fst).zip args).foldl (fun (t:Array Value) (p:Nat×Value)=>t.setIfInBounds p.1 p.2) a.tmps } ρ'->F args ρ')->rndA psh ρ F
 | [],ρ,a,_,hr,h=>h [] ρ rfl hr
 | (t,y)::r,ρ,a,hp,hr,h=>allTy_of y fun v=>by
  refine rnd_rep r _ { a with tmps:=a.tmps.setIfInBounds t v } (fun p hq=>hp p (List.mem_cons_of_mem _ hq)) ?_ fun args ρ' hl hr'=>h _ ρ' (by simp [hl]) hr'
  exact hr.put (hp _ List.mem_cons_self) _
theorem zip_foldl(ps:Array Nat)(args:List Value)(t0:Array Value):(ps.zip args.toArray).foldl (fun t (p,v)=>t.setIfInBounds p v) t0=(ps.toList.zip args).foldl (fun (t:Array Value) (p:Nat×Value)=>t.setIfInBounds p.1 p.2) t0:=by
 rw [<- Array.foldl_toList,Array.toList_zip]
theorem wide_round(l:Nat):Fence.wide.inRound l=wideR (some l):=rfl
theorem rfW_sound{A:RfA}{g:Operand}{ps:Array Tmp}{ars bd:Code}{Q:Nat->Exit->Env->Wd->Prop}{ρ:Env}{w:Wd}{a:Act}(hok:rfOk P n A ps ars bd=true)(hr:Rep [] n a ρ)(h:rfW P pk A g ars bd Q ρ w) :
    (Code.rangeFunc g ps ars bd).wpIn Fence.wide 0 P (fun e a' w'=>∃ Dk,(∃ ρ',Rep [markD Dk] n a' ρ'/\Q Dk e ρ' w')/\(∀ c,e ≠ .panic c)/\e ≠ .outgrown) a w:=by
  simp only [rfOk,Bool.and_eq_true,List.all_eq_true] at hok
  obtain ⟨⟨⟨⟨⟨⟨⟨o1,o2⟩,o3⟩,o4⟩,o5⟩,o6⟩,o7⟩,o8⟩:=hok
  have ep:=eqPs_eq o1
  refine wpIn_rangeFunc fun fn _=>?_
  let rf:Loop:={ state := .ready,pending:=none,fn:=fn,tmps:=a.tmps,params:=ps,assign:=ars,body:=bd,defers:=w.heap.size }
  let w1:=(w.alloc (.deferred (some []))).alloc (.loop rf)
  have hd:=h rf w.heap.size (w.heap.size+1) w1 ⟨rfl,rfl,rfl⟩ ?_
  rotate_left
  · refine rnd_rep A.psh ρ { a with defers:=[] } (fun p hp=>?_) (by have:=hr; exact ⟨rfl,this.size,this.get⟩) fun args ρ' hl hr'=>?_
    · have:=o8 p.1 (by rw [ep]; exact List.mem_map.2 ⟨p,hp,rfl⟩)
      simpa using this
    intro W K' hst hw
    have hsz:args.toArray.size=ps.size:=by
      have:=congrArg List.length ep
      simp only [List.length_map,Array.length_toList] at this
      rw [List.size_toArray,hl,this]
    have hst':W.heap[w.heap.size+1]? = some (.loop rf):=hst
    have hy:=run_yield (P:=P) (args:=args.toArray) hst' hsz
    unfold dynV Invk
    have e1:(dynS (.func (.yield (w.heap.size+1)) #[] #[]) args).run P W = .ok (.round (w.heap.size+1) fn ((ps.zip args.toArray).foldl (fun tmps (t,a)=>tmps.setIfInBounds t a) a.tmps) ars bd) W:=by
      simp only [dynS,Deferred.ofValue,pure_bind]
      simp [invoke,hy,rf]
    rw [e1]
    refine ⟨rfl,roundIn_of_wpIn (F:=Fence.wide) trivial ?_⟩
    rw [zip_foldl,ep,wide_round]
    have hA:=wpc_sound (ro:=some (w.heap.size+1)) (n:=n) (D:=[]) A.annA ars _ _ W _ (.inr ⟨o4,o5⟩) o2 hw hr'
    refine wpIn_mono hA fun e1 a1 W1 hp=>?_
    obtain ⟨⟨ρ1,r1,q1⟩,q2,q3⟩:=hp.out
    cases e1 with
    | panic c=>exact (q2 c rfl).elim
    | outgrown=>exact (q3 rfl).elim
    | exit i=>exact q1.elim
    | goto i=>exact q1.elim
    | ret=>exact q1.elim
    | normal =>
    obtain ⟨st1,hb⟩:=q1
    have st1':W1.heap[w.heap.size+1]? = some (.loop rf):=st1
    refine ⟨_,run_beginRound st1' rfl,?_⟩
    have hB:=wpc_sound (ro:=some (w.heap.size+1)) (n:=n) (D:=[]) A.annB bd _ _ _ _ (.inr ⟨o6,o7⟩) o3 hb r1
    refine wpIn_mono hB fun e2 a2 W2 hp2=>?_
    obtain ⟨⟨ρ2,r2,s1⟩,s2,s3⟩:=hp2.out
    have fin:∀{j:Option Nat},jumpE (w.heap.size+1) rf A.js K' j W2->∃ v w',(Instr.endRound (w.heap.size+1) (some (jumpC j))).run P W2 = .ok v w'/\callR [.one .bool] K' (fun _ _=>False) (.returned v) w':=fun {j} hj=>by
      unfold jumpE at hj
      cases hh:hasJ A.js j with
      | false=>rw [hh] at hj; exact hj.elim
      | true =>
        rw [hh] at hj
        have st:W2.heap[w.heap.size+1]? = some (.loop { rf with state := .busy,pending:=none }):=hj.1
        refine ⟨_,_,run_endRound (some (jumpC j)) st, .inl ⟨false,rfl,hj.2⟩⟩
    cases e2 with
    | panic c=>exact (s2 c rfl).elim
    | outgrown=>exact (s3 rfl).elim
    | normal =>
      have st:W2.heap[w.heap.size+1]? = some (.loop { rf with state := .busy,pending:=none }):=s1.1
      exact ⟨_,_,run_endRound none st, .inl ⟨true,rfl,s1.2⟩⟩
    | ret=>exact fin (j:=none) s1
    | exit i=>exact fin (j:=some i) s1
    | goto i=>exact s1.elim
  have hrep:Rep [markD w.heap.size] n { a with defers:=[markD w.heap.size]++a.defers } ρ:=⟨by simp [hr.defers],hr.size,hr.get⟩
  have hend:∀{js:List (Option Nat)}{w3:Wd},rfEnd (w.heap.size+1) rf (Q w.heap.size) ρ w3 js ->
      ∃ jump w4,(Instr.endLoop (w.heap.size+1)).run P w3 = .ok jump w4/\(match jump with
       | none=>∃ Dk,(∃ ρ',Rep [markD Dk] n { a with defers:=[markD w.heap.size]++a.defers } ρ'/\Q Dk .normal ρ' w4)/\(∀ c,Exit.normal ≠ .panic c)/\Exit.normal ≠ .outgrown
       | some c=>c.wpIn Fence.wide 0 P (fun e a' w'=>∃ Dk,(∃ ρ',Rep [markD Dk] n a' ρ'/\Q Dk e ρ' w')/\(∀ c,e ≠ .panic c)/\e ≠ .outgrown) { a with defers:=[markD w.heap.size]++a.defers } w4):=by
    intro js
    induction js with
    | nil =>
      intro w3 h3
      have st:w3.heap[w.heap.size+1]? = some (.loop { rf with state := .ready,pending:=none }):=h3.1
      exact ⟨_,_,run_endLoop st (by simp),_,⟨ρ,hrep,h3.2⟩,(fun c h=>by cases h),(fun h=>by cases h)⟩
    | cons j r ih =>
      intro w3 h3
      rcases h3 with h3 | h3
      · have st:w3.heap[w.heap.size+1]? = some (.loop { rf with state := .done,pending:=some (jumpC j) }):=h3.1
        refine ⟨_,_,run_endLoop st (by simp),?_⟩
        cases j with
        | none=>exact wpIn_ret ⟨_,⟨ρ,hrep,h3.2⟩,(fun c h=>by cases h),(fun h=>by cases h)⟩
        | some i=>exact wpIn_exit ⟨_,⟨ρ,hrep,h3.2⟩,(fun c h=>by cases h),(fun h=>by cases h)⟩
      · exact ih h3
  unfold dynV Invk dynS at hd
  cases hg:ev ρ g with
  | func fv first cap =>
    rw [hg] at hd
    simp only [Deferred.ofValue,pure_bind] at hd
    split at hd
    · rename_i f ars w2 he
      refine ⟨w.heap.size+1,[markD w.heap.size],w1,{ target := .fn fv cap,args:=first++#[.func (.yield (w.heap.size+1)) #[] #[]] },w1,f,ars,w2,run_enterLoop_outer _ _ _ _ _,?_,fun _ _=>trivial,he,(fun h=>by cases h),callsIn_wide.2 ?_⟩
      · have:a.eval g = .func fv first cap:=by rw [hr.eval]; exact hg
        simp [resolve,this,Deferred.ofValue]
        rfl
      · refine Calls.mono hd fun e w3 h3=>?_
        rcases h3 with ⟨he3,h3⟩ | ⟨c,_,h3⟩
        · subst he3; exact hend h3
        · exact h3.elim
    · exact absurd hd.1 (by decide)
    · exact hd.elim
  | nilFunc =>
    rw [hg] at hd
    simp [Deferred.ofValue,invoke,runtimePanic,program,Sem.run] at hd
  | _ =>
    rw [hg] at hd
    simp [Deferred.ofValue,stuck] at hd
theorem sp_sound:∀(s:Sp)(c:Code)(Q:Exit->Env->Wd->Prop)(QM:Nat->Exit->Env->Wd->Prop)(ρ:Env)(w:Wd)(a:Act),spOk P n s c=true->wpSp P pk s c Q QM ρ w->Rep [] n a ρ->c.wpIn Fence.wide 0 P (SpE n Q QM) a w:=by
 intro s
 induction s with
 | next ann s ih =>
  intro c Q QM ρ w a hok h hr
  cases c <;> simp only [wpSp] at h
  rename_i c1 c2
  simp only [spOk,Bool.and_eq_true] at hok
  refine wpIn_seq (wpIn_mono (wpc_sound (ro:=none) (n:=n) (D:=[]) ann c1 _ ρ w a (.inl rfl) hok.1 h hr) fun e a' w' hp=>?_)
  obtain ⟨⟨ρ',r',q'⟩,q2,q3⟩:=hp.out
  cases e with
  | normal=>exact ih c2 Q QM ρ' w' a' hok.2 q' r'
  | panic c=>exact (q2 c rfl).elim
  | outgrown=>exact (q3 rfl).elim
  | exit i=>exact .inl ⟨ρ',r',q'⟩
  | goto i=>exact .inl ⟨ρ',r',q'⟩
  | ret=>exact .inl ⟨ρ',r',q'⟩
 | here rA A p =>
  intro c Q QM ρ w a hok h hr
  have none_:∀{c:Code},(∀ rc id g ps ars bd rest,c ≠ .seq (.seq rc (.block id (.rangeFunc g ps ars bd))) rest)->spOk P n (.here rA A p) c=true->False:=fun {c} hne hk=>by
   unfold spOk at hk
   split at hk
   .cases ‹Sp.here _ _ _=Sp.next _ _›
   .exact hne _ _ _ _ _ _ _ rfl
   .cases hk
  have dec:(∃ rc id g ps ars bd rest,c = .seq (.seq rc (.block id (.rangeFunc g ps ars bd))) rest):=Classical.byContradiction fun hc=>none_ (fun rc id g ps ars bd rest e=>hc ⟨rc,id,g,ps,ars,bd,rest,e⟩) hok
  obtain ⟨rc,id,g,ps,ars,bd,rest,rfl⟩:=dec
  simp only [wpSp] at h
  simp only [spOk,Bool.and_eq_true] at hok
  refine wpIn_seq (wpIn_mono (wpIn_seq (Q:=fun e a' w'=>match e with
   | .normal=>∃ Dk ρ',Rep [markD Dk] n a' ρ'/\wpc P pk (fun _ _=>False) p rest (QM Dk) ρ' w'
   | e=>SpE n Q QM e a' w') (wpIn_mono (wpc_sound (ro:=none) (n:=n) (D:=[]) _ rc _ ρ w a (.inl rfl) hok.1.1 h hr) fun e a' w' hp=>?_)) fun e a' w' hp=>?_)
  .obtain ⟨⟨ρ1,r1,q1⟩,q2,q3⟩:=hp.out
   cases e with
   | panic c=>exact (q2 c rfl).elim
   | outgrown=>exact (q3 rfl).elim
   | exit i=>exact .inl ⟨ρ1,r1,q1⟩
   | goto i=>exact .inl ⟨ρ1,r1,q1⟩
   | ret=>exact .inl ⟨ρ1,r1,q1⟩
   | normal =>
    refine wpIn_block (wpIn_mono (rfW_sound hok.1.2 r1 q1) fun e2 a2 w2 hp2=>?_)
    obtain ⟨Dk,⟨ρ2,r2,s2⟩,s3,s4⟩:=hp2
    cases e2 with
    | panic c=>exact (s3 c rfl).elim
    | outgrown=>exact (s4 rfl).elim
    | normal=>exact ⟨Dk,ρ2,r2,s2⟩
    | goto i=>exact .inr ⟨Dk,ρ2,r2,s2⟩
    | ret=>exact .inr ⟨Dk,ρ2,r2,s2⟩
    | exit i =>
     simp only [blockE] at s2
     simp only [Exit.inBlock]
     cases hb:Nat.beq i id with
     | true =>
      have:=Nat.eq_of_beq_eq_true hb
      subst this
      rw [hb] at s2
      rw [if_pos rfl]; exact ⟨Dk,ρ2,r2,s2⟩
     | false =>
      rw [hb] at s2
      rw [if_neg (fun e=>by subst e; simp at hb)]; exact .inr ⟨Dk,ρ2,r2,s2⟩
  .cases e with
   | normal =>
    obtain ⟨Dk,ρ1,r1,q1⟩:=hp
    refine wpIn_mono (wpc_sound (ro:=none) (n:=n) (D:=[markD Dk]) p rest _ ρ1 w' a' (.inl rfl) hok.2 q1 r1) fun e2 a2 w2 hp2=>?_
    obtain ⟨⟨ρ2,r2,s2⟩,s3,s4⟩:=hp2.out
    exact SpE.mk (.inr ⟨Dk,ρ2,r2,s2⟩) s3 s4
   | panic c=>exact hp
   | outgrown=>exact hp
   | exit i=>exact hp
   | goto i=>exact hp
   | ret=>exact hp
def mapC(Dk:Nat):(l:List Ty)->CurT l->CurT l
 | [],K=>fun w=>K (defShut Dk w)
 | .one _::r,K=>fun x=>mapC Dk r (K x)
 | .agg l::r,K=>mapS Dk r l K
 | .bad::r,K=>fun v=>mapC Dk r (K v)
where
 mapS (Dk:Nat) (r:List Ty):(l:List Seg)->CurS l (CurT r)->CurS l (CurT r)
 | [],K=>mapC Dk r K
 | .one _::q,K=>fun x=>mapS Dk r q (K x)
 | .row _ _::q,K=>fun x=>mapS Dk r q (K x)
def retKM(P:Program)(tys:List Ty)(rs:List ResultVar)(K:CurT tys)(Dk:Nat):Exit->Env->Wd->Prop
 | .ret,ρ,w=>DefSt Dk w/\resW P rs ρ (defShut Dk w) (fun vs=>getC tys vs K (defShut Dk w))
 | .normal,ρ,w=>DefSt Dk w/\resW P rs ρ (defShut Dk w) (fun vs=>getC tys vs K (defShut Dk w))
 | _,_,_=>False
theorem mkR{f:FuncId}{fn:Func}{s:Sp}{args:List Value}{tys:List Ty}{K:CurT tys}{w:Wd}{F C:Prop}(hf:P.funcs[f]? = some fn)
  (hF:F=wpSp P pk s (fn.body.getD .skip) (retK P tys fn.results.toList K) (retKM P tys fn.results.toList K) (argEnv args) w) (hc:(fn.body.isSome && Nat.ble args.length fn.ntmps && spOk P fn.ntmps s (fn.body.getD .skip))=true)
  (hC:callK P f args.toArray tys K w=C) (h:F):C:=by
 simp only [Bool.and_eq_true] at hc
 obtain ⟨c,hb⟩:=Option.isSome_iff_exists.1 hc.1.1
 have e:fn.body.getD .skip=c:=by rw [hb]; rfl
 rw [e] at hF hc
 rw [<- hC]
 refine callsIn_wide.1 (callsIn_of_wp_marks (F:=Fence.wide) (n:=0) hf hb trivial (wpIn_mono (sp_sound s c _ _ _ w _ hc.2 (hF ▸ h) (args_rep hc.1.2)) fun e a' w' hp=>?_) rfl)
 have fin:∀{D:List Deferred}{ρ':Env}{w'':Wd},Rep D fn.ntmps a' ρ'->resW P fn.results.toList ρ' w'' (fun vs=>getC tys vs K w'')->∃ v,(results fn a'.tmps).run P w'' = .ok v w''/\exC tys K (fun vs Y=>Ending.returned v = .returned (tup vs)/\Y w''):=fun hr' hq=>by
  obtain ⟨vs,h1,h2⟩:=results_run hr' hq
  exact ⟨_,h1,exC_mono tys K (fun us X hh=>⟨by rw [hh.1],hh.2⟩) (getC_elim tys vs K _ h2)⟩
 have main:((∃ ρ,Rep [] fn.ntmps a' ρ/\resW P fn.results.toList ρ w' (fun vs=>getC tys vs K w'))∨∃ Dk ρ,Rep [markD Dk] fn.ntmps a' ρ/\(DefSt Dk w'/\resW P fn.results.toList ρ (defShut Dk w') (fun vs=>getC tys vs K (defShut Dk w')))) ->
   LeavesInM Fence.wide 0 P fn a'.tmps (fun e w'=>exC tys K (fun vs Y=>e = .returned (tup vs)/\Y w')) a'.defers .returning w':=by
  rintro (⟨ρ,r,q⟩ | ⟨Dk,ρ,r,q0,q⟩)
  .rw [r.defers]; exact fin r q
  .rw [r.defers]
   exact ⟨by simp, .inl ⟨Dk,_,rfl,run_takeDeferred q0,fin r q⟩⟩
 cases e with
 | normal=>exact main hp
 | ret=>exact main hp
 | panic c=>exact hp.elim
 | outgrown=>exact hp.elim
 | exit i=>rcases hp with ⟨_,_,h⟩ | ⟨_,_,_,h⟩ <;> exact h.elim
 | goto i=>rcases hp with ⟨_,_,h⟩ | ⟨_,_,_,h⟩ <;> exact h.elim
end sound
end Go.V
set_option maxRecDepth 100000
namespace Go.Proofs.YtimonamjecmlcaaGreatDoor
open Go.V
def F_play_Parse(text:ByteArray)(w:Wd)(K:Sl->Int->Int->Wd->Prop):Prop:=NewW w (.cells [.slice none 0 0].toArray 45) fun h f6=>NewW f6 (.cells [.int .i64 0].toArray 3) fun e g0=>NewW g0 (.cells [.int .i64 0].toArray 36) fun f e9=>If (decide (((ByteArray.size text:Int)) > 1048576)) (St1 e9 (A0 h) (.slice none 0 0) fun g1=>St1 g1 (A0 e) (.int .i64 0) fun g6=>St1 g6 (A0 f) (.int .i64 3) fun R=>∃ H:Sl,Cell R (A0 h) (.slice H.a H.len H.cap)/\∃ d3:Int,Cell R (A0 e) (.int .i64 d3)/\∃ d8:Int,Cell R (A0 f) (.int .i64 d8)/\K H d3 d8 R) (NewW e9 (.cells [.slice none 0 0].toArray 45) fun G g7=>NewW g7 (.cells [.int .i64 0].toArray 3) fun l g8=>St1 g8 (A0 l) (.int .i64 0) fun g9=>C_strings_SplitSeq text ⟨#[10]⟩ g9 fun f5 f7=>∀(a:Loop)(dk lp:Nat)(w11:Wd),RfNew f7 a dk lp w11->(∀(S:ByteArray)(C:Wd)(g:Bool->Wd->Prop),RfSt lp a .ready none C->(RfSt lp a .ready none C/\∃ d9:Int,Cell (rfPut lp a .busy none C) (A0 l) (.int .i64 d9)/\Ar .i64 (d9+1) fun h0=>St1 (rfPut lp a .busy none C) (A0 l) (.int .i64 h0) fun D=>∃ a7:Wd->Prop,(If (ByteArray.toList S == ByteArray.toList (⟨#[]⟩)) (RfSt lp a .busy none D/\g true (rfPut lp a .ready none D)) (∃ a8,(0:Int)<=0/\(ByteArray.data S).toList[Int.toNat 0]? = some a8/\If (((UInt8.toNat a8:Int)) == 35) (RfSt lp a .busy none D/\g true (rfPut lp a .ready none D)) (a7 D)))/\∀(_:Env)(e3:Wd),a7 e3->C_play_Unline S e3 fun c1 c2 c6 A c7 c8 c9 d0 d1 d2 t u v x c3 c4 c5 y z T f8=>NewW f8 (.cells [.int .i64 0, .int .i64 0, .int .u32 0, .slice none 0 0, .int .i64 0, .int .i64 0, .int .u64 0, .int .u64 0, .int .u64 0, .int .u8 0, .slice none 0 0, .slice none 0 0, .slice none 0 0, .slice none 0 0, .bool false, .int .i64 0, .int .i64 0, .slice none 0 0, .slice none 0 0].toArray 32) fun d f9=>StL f9 (A0 d) 19 [.int .i64 c1, .int .i64 c2, .int .u32 c6, .slice A.a A.len A.cap, .int .i64 c7, .int .i64 c8, .int .u64 c9, .int .u64 d0, .int .u64 d1, .int .u8 d2, .slice t.a t.len t.cap, .slice u.a u.len u.cap, .slice v.a v.len v.cap, .slice x.a x.len x.cap, .bool c3, .int .i64 c4, .int .i64 c5, .slice y.a y.len y.cap, .slice z.a z.len z.cap] fun O=>∃ F:Int->Wd->Prop,(If (T == 0) (∃ M:Sl,Cell O (A0 G) (.slice M.a M.len M.cap)/\If (decide (((M.len:Int))≥500)) (F 3 O) (F T O)) (F T O))/\∀(_:Env)(i:Int)(c:Wd),F i c->If (i != 0) (∃ b:Wd->Prop,b (drewW c)/\(∃ N:Int,Cell (drewW c) (A0 l) (.int .i64 N)/\b ((drewW c))/\(b ((drewW c))/\St1 (drewW c) (A0 h) (.slice none 0 0) fun e4=>b e4/\St1 e4 (A0 e) (.int .i64 N) fun e5=>b e5/\St1 e5 (A0 f) (.int .i64 i) fun W=>b W/\RfSt lp a .busy none W/\g false (rfPut lp a .done (some .ret) W))/\(St1 (drewW c) (A0 h) (.slice none 0 0) fun P=>b P/\(b P/\St1 P (A0 e) (.int .i64 N) fun e6=>b e6/\St1 e6 (A0 f) (.int .i64 i) fun Y=>b Y/\RfSt lp a .busy none Y/\g false (rfPut lp a .done (some .ret) Y))/\(St1 P (A0 e) (.int .i64 N) fun Z=>b Z/\b Z/\St1 Z (A0 f) (.int .i64 i) fun a0=>b a0/\RfSt lp a .busy none a0/\g false (rfPut lp a .done (some .ret) a0))))/\(b ((drewW c))/\(∃ e0:Int,Cell (drewW c) (A0 l) (.int .i64 e0)/\b ((drewW c))/\St1 (drewW c) (A0 h) (.slice none 0 0) fun e7=>b e7/\St1 e7 (A0 e) (.int .i64 e0) fun e8=>b e8/\St1 e8 (A0 f) (.int .i64 i) fun a1=>b a1/\RfSt lp a .busy none a1/\g false (rfPut lp a .done (some .ret) a1))/\(St1 (drewW c) (A0 h) (.slice none 0 0) fun Q=>b Q/\∃ e1:Int,Cell Q (A0 l) (.int .i64 e1)/\b Q/\St1 Q (A0 e) (.int .i64 e1) fun f0=>b f0/\St1 f0 (A0 f) (.int .i64 i) fun a2=>b a2/\RfSt lp a .busy none a2/\g false (rfPut lp a .done (some .ret) a2)))/\(St1 (drewW c) (A0 h) (.slice none 0 0) fun j=>b j/\(∃ V:Int,Cell j (A0 l) (.int .i64 V)/\b j/\(b j/\St1 j (A0 e) (.int .i64 V) fun f1=>b f1/\St1 f1 (A0 f) (.int .i64 i) fun a3=>b a3/\RfSt lp a .busy none a3/\g false (rfPut lp a .done (some .ret) a3))/\(St1 j (A0 e) (.int .i64 V) fun a4=>b a4/\b a4/\St1 a4 (A0 f) (.int .i64 i) fun a5=>b a5/\RfSt lp a .busy none a5/\g false (rfPut lp a .done (some .ret) a5)))/\(b j/\∃ e2:Int,Cell j (A0 l) (.int .i64 e2)/\b j/\St1 j (A0 e) (.int .i64 e2) fun f2=>b f2/\St1 f2 (A0 f) (.int .i64 i) fun a6=>b a6/\RfSt lp a .busy none a6/\g false (rfPut lp a .done (some .ret) a6)))) (∃ I:Sl,Cell c (A0 G) (.slice I.a I.len I.cap)/\∃ a9:Int,Cell c (A0 d) (.int .i64 a9)/\∃ b0:Int,Cell c ((A0 d).add 1) (.int .i64 b0)/\∃ b4:Int,Cell c ((A0 d).add 2) (.int .u32 b4)/\∃ s:Sl,Cell c ((A0 d).add 3) (.slice s.a s.len s.cap)/\∃ b5:Int,Cell c ((A0 d).add 4) (.int .i64 b5)/\∃ b6:Int,Cell c ((A0 d).add 5) (.int .i64 b6)/\∃ b7:Int,Cell c ((A0 d).add 6) (.int .u64 b7)/\∃ b8:Int,Cell c ((A0 d).add 7) (.int .u64 b8)/\∃ b9:Int,Cell c ((A0 d).add 8) (.int .u64 b9)/\∃ c0:Int,Cell c ((A0 d).add 9) (.int .u8 c0)/\∃ m:Sl,Cell c ((A0 d).add 10) (.slice m.a m.len m.cap)/\∃ n:Sl,Cell c ((A0 d).add 11) (.slice n.a n.len n.cap)/\∃ o:Sl,Cell c ((A0 d).add 12) (.slice o.a o.len o.cap)/\∃ p:Sl,Cell c ((A0 d).add 13) (.slice p.a p.len p.cap)/\∃ b1:Bool,Cell c ((A0 d).add 14) (.bool b1)/\∃ b2:Int,Cell c ((A0 d).add 15) (.int .i64 b2)/\∃ b3:Int,Cell c ((A0 d).add 16) (.int .i64 b3)/\∃ q:Sl,Cell c ((A0 d).add 17) (.slice q.a q.len q.cap)/\∃ r:Sl,Cell c ((A0 d).add 18) (.slice r.a r.len r.cap)/\NewW c (.cells [.int .i64 a9, .int .i64 b0, .int .u32 b4, .slice s.a s.len s.cap, .int .i64 b5, .int .i64 b6, .int .u64 b7, .int .u64 b8, .int .u64 b9, .int .u8 c0, .slice m.a m.len m.cap, .slice n.a n.len n.cap, .slice o.a o.len o.cap, .slice p.a p.len p.cap, .bool b1, .int .i64 b2, .int .i64 b3, .slice q.a q.len q.cap, .slice r.a r.len r.cap].toArray 32) fun f4 g2=>AppW pz 45 45 I (.slice (some (A0 f4)) 1 1) (fun U g3=>St1 g3 (A0 G) (.slice U.a U.len U.cap) fun f3=>RfSt lp a .busy none f3/\g true (rfPut lp a .ready none f3)) g2))->dynV pz true (.func (.yield lp) #[] #[]) [.string S] [.one .bool] g NoX C)->dynV pz false (f5) [.func (.yield lp) #[] #[]] [] (fun k=>(RfSt lp a .done (some .ret) k/\DefSt dk ((rfPut lp a .exhausted (some .ret) k))/\∃ J:Sl,Cell ((defShut dk ((rfPut lp a .exhausted (some .ret) k)))) (A0 h) (.slice J.a J.len J.cap)/\∃ d4:Int,Cell ((defShut dk ((rfPut lp a .exhausted (some .ret) k)))) (A0 e) (.int .i64 d4)/\∃ d5:Int,Cell ((defShut dk ((rfPut lp a .exhausted (some .ret) k)))) (A0 f) (.int .i64 d5)/\K J d4 d5 ((defShut dk ((rfPut lp a .exhausted (some .ret) k))))) ∨  (RfSt lp a .ready none k/\∃ B:Sl,Cell (rfPut lp a .exhausted none k) (A0 G) (.slice B.a B.len B.cap)/\St1 (rfPut lp a .exhausted none k) (A0 h) (.slice B.a B.len B.cap) fun g4=>St1 g4 (A0 e) (.int .i64 0) fun g5=>St1 g5 (A0 f) (.int .i64 0) fun E=>DefSt dk E/\∃ L:Sl,Cell ((defShut dk E)) (A0 h) (.slice L.a L.len L.cap)/\∃ d6:Int,Cell ((defShut dk E)) (A0 e) (.int .i64 d6)/\∃ d7:Int,Cell ((defShut dk E)) (A0 f) (.int .i64 d7)/\K L d6 d7 ((defShut dk E)))) NoX w11)
def A_play_Parse:Sp:=(.next n0 (.next (qz (.cond (qz n0) n0)) (.next n0 (.next n0 (.here n0 ⟨[(15, .one (.str))],[none],n0,(.block (qz (.join [] 33292288 (qz (.cond n0 n0)) (qz (.join [(9, .int .i64)] 136365212160 (qz (.cond n0 n0)) (.seq (qz (.cond (.seq (.draw (.three 0 (.two 1 (.one 2 (.one 3 (.one 4 .fin))) 2 (.two 1 (.one 3 (.one 4 .fin)) 3 (.one 1 (.one 4 .fin)))) 1 (.two 0 (.one 2 (.one 3 (.one 4 .fin))) 2 (.one 0 (.one 3 (.one 4 .fin)))) 2 (.two 0 (.two 1 (.one 3 (.one 4 .fin)) 3 (.one 1 (.one 4 .fin))) 1 (.one 0 (.one 3 (.one 4 .fin)))))) n0) n0)) n0))))))⟩ (qz n0))))))
theorem S_play_Parse{text:ByteArray}{w:Wd}{K:Sl->Int->Int->Wd->Prop}(h:F_play_Parse text w K):C_play_Parse text w K :=
 mkR (pk:=PK) (s:=A_play_Parse) (args:=[.string text]) (tys:=[.one (.sl), .one (.int .i64), .one (.int .i64)]) (K:=K) (w:=w) Tryz.func18 (by kernel_rfl) (by kernel_rfl) (by kernel_rfl) h
end Go.Proofs.YtimonamjecmlcaaGreatDoor
namespace Go.V
theorem rfPut_ext{l:Nat}{rf:Loop}{st:LoopState}{p:Option Code}{w:Wd}:Ext (fun q=>q=l) w (rfPut l rf st p w):=Wrt.ext (o := .loop { rf with state:=st,pending:=p }) rfl
theorem RfSt.lt{l:Nat}{rf:Loop}{st:LoopState}{p:Option Code}{w:Wd}(h:RfSt l rf st p w):l < w.heap.size:=by
 rcases Nat.lt_or_ge l w.heap.size with k | k
 .exact k
 .unfold RfSt at h; rw [Array.getElem?_eq_none k] at h; cases h
theorem RfSt.put{l:Nat}{rf:Loop}{st st':LoopState}{p p':Option Code}{w:Wd}(h:RfSt l rf st p w):RfSt l rf st' p' (rfPut l rf st' p' w):=World.putObj_heap_same h.lt
theorem rfPut_size{l:Nat}{rf:Loop}{st:LoopState}{p:Option Code}{w:Wd}:(rfPut l rf st p w).heap.size=w.heap.size:=by simp [rfPut,World.putObj]
theorem RfSt.ext{S:Nat->Prop}{l:Nat}{rf:Loop}{st:LoopState}{p:Option Code}{w w':Wd}(h:RfSt l rf st p w)(x:Ext S w w')(hS:¬ S l):RfSt l rf st p w':=by
 unfold RfSt; rw [x.blk l h.lt hS]; exact h
theorem defShut_ext{dk:Nat}{w:Wd}:Ext (fun q=>q=dk) w (defShut dk w):=Wrt.ext (o := .deferred none) rfl
theorem DefSt.lt{dk:Nat}{w:Wd}(h:DefSt dk w):dk < w.heap.size:=by
 rcases Nat.lt_or_ge dk w.heap.size with k | k
 .exact k
 .unfold DefSt at h; rw [Array.getElem?_eq_none k] at h; cases h
theorem DefSt.ext{S:Nat->Prop}{dk:Nat}{w w':Wd}(h:DefSt dk w)(x:Ext S w w')(hS:¬ S dk):DefSt dk w':=by
 unfold DefSt; rw [x.blk dk h.lt hS]; exact h
theorem RfNew.facts{w w1:Wd}{rf:Loop}{dk l:Nat}(n:RfNew w rf dk l w1):Ext No w w1/\w1.heap.size=w.heap.size+2/\RfSt l rf .ready none w1/\DefSt dk w1:=by
 obtain ⟨rfl,rfl,rfl⟩:=n
 refine ⟨⟨rfl,rfl,rfl,?_,fun b hb _=>?_⟩,?_,?_,?_⟩
 .show w.heap.size<=((w.heap.push _).push _).size
  rw [Array.size_push,Array.size_push]; omega
 .show ((w.heap.push _).push _)[b]? = _
  rw [heap_push _ _ _ (by rw [Array.size_push]; omega),heap_push _ _ _ hb]
 .show ((w.heap.push _).push _).size=_
  rw [Array.size_push,Array.size_push]
 .show ((w.heap.push _).push _)[w.heap.size+1]? = _
  rw [Array.getElem?_push,if_pos (by rw [Array.size_push])]
 .show ((w.heap.push _).push _)[w.heap.size]? = _
  rw [heap_push _ _ _ (by rw [Array.size_push]; omega),Array.getElem?_push,if_pos rfl]
theorem OpsR.lt{Q:Nat->Prop}{h:Array Obj}{s:Sl}{l:List OpP}(r:OpsR Q h s l):OpsR (fun q=>Q q/\q < h.size) h s l:=by
 obtain ⟨L,h1,h2,h3,h4⟩:=r
 refine ⟨L,h1,h2,fun hne b hb=>⟨h3 hne b hb,Rd.lt h2 (fun e=>?_) hb⟩,fun e he=>⟨(h4 e he).key.lt,(h4 e he).val.lt,(h4 e he).drop⟩⟩
 cases L with
 | nil=>exact hne rfl
 | cons p L=>cases e
theorem CallR.lt{Q:Nat->Prop}{h:Array Obj}{v:CallV}{c:CallP}(r:CallR Q h v c):CallR (fun q=>Q q/\q < h.size) h v c :=
 ⟨r.kind,r.tenant,r.secret.lt,r.quota,r.n,r.handle,r.other,r.snap,r.rights,r.ops.lt,r.key.lt,r.frm.lt,r.upto.lt,r.back⟩
theorem EvR.lt{Q:Nat->Prop}{h:Array Obj}{v:EvV}{e:EvP}(r:EvR Q h v e):EvR (fun q=>Q q/\q < h.size) h v e:=⟨r.kind,r.call.lt,r.n,r.block,r.masks.lt,r.bytes.lt⟩
noncomputable def parseL:Nat->List EvP->List Bs->List EvP×Int×Int
 | _,out,[]=>(out,0,0)
 | n,out,s::r=>if s=[]∨s.head? = some 35 then parseL (n+1) out r else match unE s with
  | none=>([],((n+1:Nat):Int),5)
  | some e=>if 500<=out.length then ([],((n+1:Nat):Int),3) else parseL (n+1) (out++[e]) r
noncomputable def parseP (l:Bs):List EvP×Int×Int:=if 1048576 < l.length then ([],0,3) else parseL 0 [] (splitB 10 l)
theorem splitB_tail{c:UInt8}{l x:Bs}{r:List Bs}{j:Nat}(h:(splitB c l).drop j=x::r):(splitB c l)[j]? = some x/\(splitB c l).drop (j+1)=r:=by
 have h1:((splitB c l).drop j)[0]? = some x:=by rw [h]; rfl
 rw [List.getElem?_drop,Nat.add_zero] at h1
 refine ⟨h1,?_⟩
 have:(splitB c l).drop (j+1)=((splitB c l).drop j).drop 1:=by rw [List.drop_drop]
 rw [this,h]; rfl
end Go.V
namespace Go.Proofs.YtimonamjecmlcaaGreatDoor
open Go.V
section
variable {w:Wd}
theorem splitSeq1_spec{l:Bs}{c:UInt8}{b0 b1 b2:Nat}{yield:Value}{Inv:Nat->Wd->Prop}{Stop:Wd->Prop}{K:Wd->Prop}(hne:b0≠b1/\b2≠b1)(hl:l.length<=4000000)
  (g0:w.heap[b0]? = some (.cells [.string (stB [c])].toArray 9 (0,0))) (g1:w.heap[b1]? = some (.cells [.string (stB l)].toArray 9 (0,0))) (g2:w.heap[b2]? = some (.cells [.int .i64 0].toArray 3 (0,0))) (h0:Inv 0 w)
  (hbox:∀ j w' w'',Inv j w'->Ext (·=b1) w' w''->Inv j w'')
  (step:∀ j x w' (Kr:Bool->Wd->Prop),(splitB c l)[j]? = some x->Inv j w'->(∀ w'',Inv (j+1) w''->(∀ q,q=b0∨q=b1∨q=b2->w''.heap[q]? = w'.heap[q]?)->Kr true w'')->(∀ w'',Stop w''->Kr false w'')->dynV pz true yield [.string (stB x)] [.one .bool] Kr NoX w')
  (kend:∀ w',Inv (splitB c l).length w'->K w') (kstop:∀ w',Stop w'->K w'):C_strings_splitSeq_1 yield ⟨b0,0,none⟩ ⟨b1,0,none⟩ ⟨b2,0,none⟩ w K:=by
 apply S_strings_splitSeq_1
 refine ⟨_,Cell.lst g0 rfl,If.beq (fun h=>by rw [stB_size] at h; cases h) fun _=>?_⟩
 refine ⟨fun m w'=>∃ (j:Nat) (rest:Bs),m=rest.length/\rest.length<=l.length/\(splitB c l).drop j=splitB c rest/\w'.heap[b0]? = some (.cells [.string (stB [c])].toArray 9 (0,0))/\w'.heap[b1]? = some (.cells [.string (stB rest)].toArray 9 (0,0))/\w'.heap[b2]? = some (.cells [.int .i64 0].toArray 3 (0,0))/\Inv j w',
  ⟨_,0,l,rfl,Nat.le_refl _,rfl,g0,g1,g2,h0⟩,?_⟩
 rintro _ m0 w5 ⟨j,rest,rfl,hr,hd,g0,g1,g2,hI⟩
 refine ⟨_,Cell.lst g1 rfl,_,Cell.lst g0 rfl,index_spec (If.dec (fun h=>⟨_,Cell.lst g1 rfl,?_⟩) fun h=>⟨_,Cell.lst g1 rfl,0,Cell.lst g2 rfl,?_⟩)⟩
 .have h1:=splitB_no (indexByte_no h)
  rw [h1] at hd
  obtain ⟨h2,h3⟩:=splitB_tail hd
  have hlen:j+1=(splitB c l).length:=by
   have h4:=(List.getElem?_eq_some_iff.1 h2).1
   have h5:=List.drop_eq_nil_iff.1 h3
   omega
  exact step j rest w5 _ h2 hI (fun w' hI' _=>kend w' (hlen ▸ hI')) fun w' h=>kstop w' h
 .obtain ⟨i,hi⟩ : ∃ i:Nat,Lib.indexByte rest c=(i:Int):=⟨(Lib.indexByte rest c).toNat,by omega⟩
  rw [hi]
  obtain ⟨hlt,hsp⟩:=splitB_at hi
  rw [hsp] at hd
  obtain ⟨h2,h3⟩:=splitB_tail hd
  refine Ar.i64 (by omega) (CutS.mk (by omega) (by omega) (by omega) ?_)
  have e1:(rest.drop ((0:Int).toNat)).take (((i:Int)+0).toNat - (0:Int).toNat)=rest.take i:=by simp
  rw [e1]
  refine step j (rest.take i) w5 _ h2 hI (fun w8 hI8 hq=>If.no ?_) fun w8 h=>If.yes (kstop w8 h)
  have g08:=(hq b0 (.inl rfl)).trans g0
  have g18:=(hq b1 (.inr (.inl rfl))).trans g1
  have g28:=(hq b2 (.inr (.inr rfl))).trans g2
  have es:((ByteArray.size (stB [c]):Nat):Int)=1:=rfl
  refine ⟨_,Cell.lst g18 rfl,_,Cell.lst g08 rfl,?_⟩
  rw [es]
  refine Ar.i64 (by omega) (CutS.mk (by omega) (by rw [stB_size]; omega) (by rw [stB_size]; omega) ?_)
  have e2:(rest.drop (((i:Int)+1).toNat)).take ((((ByteArray.size (stB rest):Nat):Int)).toNat - ((i:Int)+1).toNat)=rest.drop (i+1):=by
   rw [stB_size,show ((i:Int)+1).toNat=i+1 by omega,Int.toNat_natCast]
   exact List.take_of_length_le (by rw [List.length_drop]; omega)
  rw [e2]
  refine St1.mk (o:=0) g18 (by simp) rfl fun w9 h9=>?_
  have x9:Ext (·=b1) w8 w9:=h9.ext
  exact ⟨(rest.drop (i+1)).length,by rw [List.length_drop]; omega,j+1,rest.drop (i+1),rfl,by rw [List.length_drop]; omega,h3,get_ext g08 x9 hne.1,h9.get g18,get_ext g28 x9 hne.2,hbox _ _ _ hI8 x9⟩
theorem parseL_skip{n:Nat}{out:List EvP}{s:Bs}{r:List Bs}(h:s=[]∨s.head? = some 35):parseL n out (s::r)=parseL (n+1) out r:=by rw [parseL,if_pos h]
theorem parseL_bad{n:Nat}{out:List EvP}{s:Bs}{r:List Bs}(h:¬ (s=[]∨s.head? = some 35))(hu:unE s=none):parseL n out (s::r)=([],((n+1:Nat):Int),5):=by rw [parseL,if_neg h,hu]
theorem parseL_full{n:Nat}{out:List EvP}{s:Bs}{r:List Bs}{e:EvP}(h:¬ (s=[]∨s.head? = some 35))(hu:unE s=some e)(ho:500<=out.length):parseL n out (s::r)=([],((n+1:Nat):Int),3):=by rw [parseL,if_neg h,hu]; simp only [if_pos ho]
theorem parseL_more{n:Nat}{out:List EvP}{s:Bs}{r:List Bs}{e:EvP}(h:¬ (s=[]∨s.head? = some 35))(hu:unE s=some e)(ho:¬ 500<=out.length):parseL n out (s::r)=parseL (n+1) (out++[e]) r:=by rw [parseL,if_neg h,hu]; simp only [if_neg ho]
theorem ev_src{w w':Wd}{b:Nat}{v:EvV}(n:New w (.cells v.cells.toArray 32) b w'):Src pz w' (.slice (some (Addr.mk b 0 none)) 1 1) 19 1 v.cells:=by
 have o:Own w'.heap w.heap.size 32 19 ⟨some ⟨b,0,none⟩,1,1⟩ v.cells:=Own.new n rfl v.one
 exact o.rd.src
theorem unline_any{w:Wd}{l:Bs}{K:KUn}(g:Gl w.heap)(h8:8<=w.heap.size)(hl:l.length<=2000000)
  (k:∀ v n w',((n=0/\∃ e,unE l=some e/\EvR (w.heap.size<=·) w'.heap v e/\RngC e.call)∨(n=5/\v=evV0/\unE l=none))->Ext No w w'->K.at v n w'):C_play_Unline (stB l) w K :=
 unline_spec g h8 hl (fun v e w' h1 h2 h3 x=>k v 0 w' (.inl ⟨rfl,e,h1,h2,h3⟩) x) fun w' h x=>k evV0 5 w' (.inr ⟨rfl,rfl,h⟩) x
structure PInv(w:Wd)(l:Bs)(rf:Loop)(dk lp base b b1 b2 b3 b4:Nat)(j:Nat)(w':Wd):Prop where
 rf:RfSt lp rf .ready none w'
 d:DefSt dk w'
 x:Ext No w w'
 g:w'.heap[b]? = some (.cells [.slice none 0 0].toArray 45 (0,0))
 g1:w'.heap[b1]? = some (.cells [.int .i64 0].toArray 3 (0,0))
 g2:w'.heap[b2]? = some (.cells [.int .i64 0].toArray 36 (0,0))
 g4:w'.heap[b4]? = some (.cells [.int .i64 (j:Int)].toArray 3 (0,0))
 z:base<=w'.heap.size
 o:∃ (s:Sl) (L:List (EvV×EvP)),w'.heap[b3]? = some (.cells [.slice s.a s.len s.cap].toArray 45 (0,0))/\Own w'.heap base 32 19 s (evC L)/\(∀ p∈L,EvR (fun q=>base<=q/\s.blk≠some q) w'.heap p.1 p.2)/\L.length<=500 /\
  parseL 0 [] (splitB 10 l)=parseL j (L.map Prod.snd) ((splitB 10 l).drop j)
structure PStop(w:Wd)(l:Bs)(rf:Loop)(dk lp b b1 b2:Nat)(w':Wd):Prop where
 rf:RfSt lp rf .done (some .ret) w'
 d:DefSt dk w'
 x:Ext No w w'
 g:w'.heap[b]? = some (.cells [.slice none 0 0].toArray 45 (0,0))
 r:∃ n e:Int,w'.heap[b1]? = some (.cells [.int .i64 n].toArray 3 (0,0))/\w'.heap[b2]? = some (.cells [.int .i64 e].toArray 36 (0,0))/\parseL 0 [] (splitB 10 l)=([],n,e)
theorem PInv.ext{w:Wd}{l:Bs}{rf:Loop}{dk lp base b b1 b2 b3 b4 j q:Nat}{w' w'':Wd}(h:PInv w l rf dk lp base b b1 b2 b3 b4 j w')(x:Ext (·=q) w' w'')(hq:q≠lp/\q≠dk/\q≠b/\q≠b1/\q≠b2/\q≠b3/\q≠b4/\q < base/\w.heap.size<=q):PInv w l rf dk lp base b b1 b2 b3 b4 j w'':=by
 obtain ⟨s,L,g3,o,hE,hl,hp⟩:=h.o
 obtain ⟨q1,q2,q3,q4,q5,q6,q7,q8,q9⟩:=hq
 refine ⟨h.rf.ext x (by omega),h.d.ext x (by omega),h.x.trans x fun p hp h=>by omega,get_ext h.g x (by omega),get_ext h.g1 x (by omega),get_ext h.g2 x (by omega),get_ext h.g4 x (by omega),by have:=x.size; have:=h.z; omega,s,L,get_ext g3 x (by omega),o.ext x fun p hp h=>?_,fun p hp=>(hE p hp).ext x fun p hp h=>?_,hl,hp⟩
 .have:=(o.lt hp).1; omega
 .have:=hp.1; omega
set_option maxHeartbeats 2000000 in
theorem parse_spec{l:Bs}{K:Sl->Int->Int->Wd->Prop}(g:Gl w.heap)(h8:8<=w.heap.size)(hl:l.length<=2000000)
    (k:∀ s w',EvsR (w.heap.size<=·) w'.heap s (parseP l).1->Ext No w w'->K s (parseP l).2.1 (parseP l).2.2 w'):C_play_Parse (stB l) w K:=by
  apply S_play_Parse
  refine NewW.mk fun b w1 n1=>NewW.mk fun b1 w2 n2=>NewW.mk fun b2 w3 n3=>?_
  have hb:=n1.at_; have z1:=n1.size; have hb1:=n2.at_; have z2:=n2.size; have hb2:=n3.at_; have z3:=n3.size
  have x03:=(n1.ext.no n2.ext).no n3.ext
  have gb:=get_no n1.get (n2.ext.no n3.ext)
  have gb1:=get_no n2.get n3.ext
  have gb2:=n3.get
  have nilE:∀ h:Array Obj,EvsR (w.heap.size<=·) h ⟨none,0,0⟩ []:=fun h=>⟨[],rfl,Rd.nil _ _,fun h=>(h rfl).elim,by simp⟩
  refine If.dec (fun h=>?_) fun h=>?_
  · rw [stB_size] at h
    refine St1.mk (o:=0) gb (by simp) rfl fun w4 h4=>?_
    have x4:Ext (·=b) w3 w4:=h4.ext
    have gb14:=get_ext gb1 x4 (by omega)
    refine St1.mk (o:=0) gb14 (by simp) rfl fun w5 h5=>?_
    have x5:Ext (·=b1) w4 w5:=h5.ext
    have gb25:=get_ext (get_ext gb2 x4 (by omega)) x5 (by omega)
    refine St1.mk (o:=0) gb25 (by simp) rfl fun w6 h6=>?_
    have x6:Ext (·=b2) w5 w6:=h6.ext
    have hp:parseP l=([],0,3):=by unfold parseP; rw [if_pos (by omega)]
    have:=k ⟨none,0,0⟩ w6 (by rw [hp]; exact nilE _) (((x03.trans x4 fun q hq h=>by omega).trans x5 fun q hq h=>by omega).trans x6 fun q hq h=>by omega)
    rw [hp] at this
    exact ⟨⟨none,0,0⟩,Cell.lst (get_ext (get_ext (h4.get gb) x5 (by omega)) x6 (by omega)) rfl,0,Cell.lst (get_ext (h5.get gb14) x6 (by omega)) rfl,3,Cell.lst (h6.get gb25) rfl,this⟩
  rw [stB_size] at h
  have hpp:parseP l=parseL 0 [] (splitB 10 l):=by unfold parseP; rw [if_neg (by omega)]
  rw [hpp] at k
  refine NewW.mk fun b3 w7 n7=>NewW.mk fun b4 w8 n8=>?_
  have hb3:=n7.at_; have z7:=n7.size; have hb4:=n8.at_; have z8:=n8.size
  refine St1.mk (o:=0) n8.get (by simp) rfl fun w9 h9=>?_
  have x9:Ext (·=b4) w8 w9:=h9.ext
  have z9:=h9.size
  have x39:Ext No w3 w9:=(n7.ext.no n8.ext).trans x9 fun q hq h=>by omega
  have gb4:=h9.get n8.get
  have gb3:=get_ext (get_no n7.get n8.ext) x9 (by omega)
  apply S_strings_SplitSeq
  apply S_strings_splitSeq
  refine NewW.mk fun c1 wa na=>NewW.mk fun c0 wb nb=>NewW.mk fun c2 w10 nc=>?_
  have hc1:=na.at_; have za:=na.size; have hc0:=nb.at_; have zb:=nb.size; have hc2:=nc.at_; have zc:=nc.size
  intro rf dk lp w11 hnew hyield
  obtain ⟨x11,z11,hrf,hdf⟩:=hnew.facts
  have hlp:=hnew.l; have hdk:=hnew.d
  have x9_11:Ext No w9 w11:=((na.ext.no nb.ext).no nc.ext).no x11
  have x3_11:=x39.no x9_11
  have x0_11:=x03.no x3_11
  have gc1:w11.heap[c1]? = some (.cells [.string (stB l)].toArray 9 (0,0)):=get_no na.get ((nb.ext.no nc.ext).no x11)
  have gc0:w11.heap[c0]? = some (.cells [.string (stB [10])].toArray 9 (0,0)):=get_no nb.get (nc.ext.no x11)
  have gc2:w11.heap[c2]? = some (.cells [.int .i64 0].toArray 3 (0,0)):=get_no nc.get x11
  have inv0:PInv w l rf dk lp w11.heap.size b b1 b2 b3 b4 0 w11:=⟨hrf,hdf,x0_11,get_no gb x3_11,get_no gb1 x3_11,get_no gb2 x3_11,get_no gb4 x9_11,Nat.le_refl _,⟨none,0,0⟩,[],get_no gb3 x9_11,Own.nil _ _ _ _,by simp,by simp,rfl⟩
  generalize hbase:w11.heap.size=base at *
  refine V_strings_splitSeq_1 (splitSeq1_spec (Inv:=PInv w l rf dk lp base b b1 b2 b3 b4) (Stop:=PStop w l rf dk lp b b1 b2) (by omega) (by omega) gc0 gc1 gc2 inv0 (fun j w' w'' hI x=>hI.ext x (by omega)) ?_ ?_ ?_)
  · intro j y w' Kr hj hI kt kf
    have hyl:y.length<=2000000:=by
      have:=split_len (List.mem_of_getElem? hj); omega
    have hdr:(splitB 10 l).drop j=y::(splitB 10 l).drop (j+1):=by
      obtain ⟨h1,h2⟩:=List.getElem?_eq_some_iff.1 hj
      rw [List.drop_eq_getElem_cons h1,h2]
    have hjl:j<=3000000:=by
      have h1:=(List.getElem?_eq_some_iff.1 hj).1
      rw [splitB_len] at h1
      have:=List.count_le_length (a:=(10:UInt8)) (l:=l); omega
    obtain ⟨s,L,g3,o,hE,hL,hp⟩:=hI.o
    rw [hdr] at hp
    have zI:=hI.z
    have xb:Ext (·=lp) w' (rfPut lp rf .busy none w'):=rfPut_ext
    have zb':(rfPut lp rf .busy none w').heap.size=w'.heap.size:=rfPut_size
    refine hyield (stB y) w' Kr hI.rf ⟨hI.rf,j,Cell.lst (get_ext hI.g4 xb (by omega)) rfl,Ar.i64 (by omega) ?_⟩
    refine St1.mk (o:=0) (get_ext hI.g4 xb (by omega)) (by simp) rfl fun w13 h13=>?_
    have x13:Ext (·=b4) (rfPut lp rf .busy none w') w13:=h13.ext
    have xw13:Ext (fun q=>q=lp∨q=b4) w' w13:=(xb.mono fun _ _ h => .inl h).trans x13 fun _ _ h => .inr h
    have z13:=h13.size
    have rf13:RfSt lp rf .busy none w13:=(hI.rf.put).ext x13 (by omega)
    have g413:w13.heap[b4]? = some (.cells [.int .i64 ((j+1:Nat):Int)].toArray 3 (0,0)):=by
      have:=h13.get (get_ext hI.g4 xb (by omega)); exact this
    have o13:=o.ext xw13 fun q hq h=>by have:=(o.lt hq).1; omega
    have hE13:∀ p∈L,EvR (fun q=>base<=q/\s.blk≠some q) w13.heap p.1 p.2:=fun p hp=>(hE p hp).ext xw13 fun q hq h=>by have:=hq.1; omega
    have g313:=get_ext g3 xw13 (by omega)
    have x0_13:Ext No w w13:=hI.x.trans xw13 fun q hq h=>by omega
    have skip:(y=[]∨y.head? = some 35)->RfSt lp rf .busy none w13/\Kr true (rfPut lp rf .ready none w13):=fun hy=>by
      have xr:Ext (·=lp) w13 (rfPut lp rf .ready none w13):=rfPut_ext
      have xall:Ext (fun q=>q=lp∨q=b4) w' (rfPut lp rf .ready none w13):=xw13.trans xr fun _ _ h => .inl h
      refine ⟨rf13,kt _ ⟨rf13.put,hI.d.ext xall (by omega),hI.x.trans xall fun q hq h=>by omega,get_ext hI.g xall (by omega),get_ext hI.g1 xall (by omega),get_ext hI.g2 xall (by omega),get_ext g413 xr (by omega),by rw [rfPut_size]; omega,s,L,get_ext g3 xall (by omega),o.ext xall fun q hq h=>by have:=(o.lt hq).1; omega,fun p hp=>(hE p hp).ext xall fun q hq h=>by have:=hq.1; omega,hL,by rw [hp,parseL_skip hy]⟩ fun q hq=>xall.blk q (by omega) (by omega)⟩
    refine ⟨fun w14=>w14=w13/\¬ (y=[]∨y.head? = some 35),eqStr (b:=[]) (fun hy=>skip (.inl hy)) fun hy=>?_,?_⟩
    · obtain ⟨a,y',rfl⟩ : ∃ a y',y=a::y':=by cases y with | nil=>exact (hy rfl).elim | cons a y'=>exact ⟨a,y',rfl⟩
      refine ixS (l:=a::y') (Int.le_refl _) (by simp) (If.beq (fun ha=>skip (.inr ?_)) fun ha=>⟨rfl,?_⟩)
      · have:a=35:=UInt8.toNat_inj.1 (by have h0:((a.toNat:Nat):Int)=35:=ha; show a.toNat=35; omega)
        rw [this]; rfl
      · rintro (h | h)
        · cases h
        · simp only [List.head?_cons,Option.some.injEq] at h
          subst h; exact ha rfl
    rintro _ w14 ⟨rfl,hy⟩
    refine unline_any (g.no x0_13) (by have:=x0_13.size; omega) hyl fun v n w15 hv x15=>NewW.mk fun b6 w16 n16=>⟨rfl,StN.all n16.get rfl v.one fun w17 g17 x17 _=>?_⟩
    have x17':Ext (·=b6) w16 w17:=x17
    have x15_17:Ext No w15 w17:=n16.ext.trans x17' fun q hq h=>by have:=n16.at_; omega
    have x13_17:Ext No w14 w17:=x15.no x15_17
    have z17:=x13_17.size
    have hsl:s.len=L.length:=by
      have:=o.rd.len
      rw [flat_len' (evC_len L)] at this; omega
    refine ⟨fun ev w18=>w18=w17/\((ev≠0/\parseL 0 [] (splitB 10 l)=([],((j+1:Nat):Int),ev))∨(ev=0/\∃ e,unE y=some e/\EvR (w14.heap.size<=·) w15.heap v e/\L.length < 500)),?_,?_⟩
    · rcases hv with ⟨rfl,e,hu,re,rge⟩ | ⟨rfl,rfl,hu⟩
      · refine If.beq (fun _=>⟨s,Cell.lst (get_no g313 x13_17) rfl,If.dec (fun h5=>⟨rfl, .inl ⟨by decide,?_⟩⟩) fun h5=>⟨rfl, .inr ⟨rfl,e,hu,re,by omega⟩⟩⟩) fun h=>absurd rfl h
        rw [hp,parseL_full hy hu (by rw [List.length_map]; omega)]
      · refine If.beq (fun h=>absurd h (by decide)) fun _=>⟨rfl, .inl ⟨by decide,?_⟩⟩
        rw [hp,parseL_bad hy hu]
    rintro _ ev w18 ⟨rfl,hev⟩
    refine If.bne (fun hne=>?_) fun h0=>?_
    · have hps:parseL 0 [] (splitB 10 l)=([],((j+1:Nat):Int),ev):=by
        rcases hev with ⟨_,h⟩ | ⟨h,_⟩
        · exact h
        · exact absurd h hne
      have xd:Ext No w14 (drewW w18):=x13_17.drew
      have xwd:Ext (fun q=>q=lp∨q=b4) w' (drewW w18):=xw13.trans xd fun _ _ h=>h.elim
      have gbd:=get_ext hI.g xwd (by omega)
      have gb1d:=get_ext hI.g1 xwd (by omega)
      have gb2d:=get_ext hI.g2 xwd (by omega)
      have g4d:=get_no g413 xd
      have rfd:RfSt lp rf .busy none (drewW w18):=rf13.ext xd id
      have zd:(drewW w18).heap.size=w18.heap.size:=rfl
      have C4:∀{w19:Wd},Ext (·=b) (drewW w18) w19->Cell w19 (Addr.mk b4 0 none) (.int .i64 ((j+1:Nat):Int)):=fun x=>Cell.lst (get_ext g4d x (by omega)) rfl
      have T0:∀{K0:Wd->Prop},(∀ w19,Ext (·=b) (drewW w18) w19->w19.heap[b]? = some (.cells [.slice none 0 0].toArray 45 (0,0))->K0 w19)->St1 (drewW w18) (Addr.mk b 0 none) (.slice none 0 0) K0:=fun k0 =>
        St1.mk (o:=0) gbd (by simp) rfl fun w19 h19=>k0 w19 h19.ext (h19.get gbd)
      have T1:∀{w19:Wd}{K0:Wd->Prop},Ext (·=b) (drewW w18) w19->w19.heap[b]? = some (.cells [.slice none 0 0].toArray 45 (0,0))->(∀ w20,Ext (fun q=>q=b∨q=b1) (drewW w18) w20->w20.heap[b]? = some (.cells [.slice none 0 0].toArray 45 (0,0)) ->
          w20.heap[b1]? = some (.cells [.int .i64 ((j+1:Nat):Int)].toArray 3 (0,0))->K0 w20)->St1 w19 (Addr.mk b1 0 none) (.int .i64 ((j+1:Nat):Int)) K0:=fun {w19 K0} x gb' k0=>by
        have gb1':=get_ext gb1d x (by omega)
        refine St1.mk (o:=0) gb1' (by simp) rfl fun w20 h20=>?_
        have x20:Ext (·=b1) w19 w20:=h20.ext
        exact k0 w20 ((x.mono fun _ _ h => .inl h).trans x20 fun _ _ h => .inr h) (get_ext gb' x20 (by omega)) (h20.get gb1')
      have T2:∀{w20:Wd},Ext (fun q=>q=b∨q=b1) (drewW w18) w20->w20.heap[b]? = some (.cells [.slice none 0 0].toArray 45 (0,0))->w20.heap[b1]? = some (.cells [.int .i64 ((j+1:Nat):Int)].toArray 3 (0,0)) ->
          St1 w20 (Addr.mk b2 0 none) (.int .i64 ev) fun w21=>True/\RfSt lp rf .busy none w21/\Kr false (rfPut lp rf .done (some .ret) w21):=fun {w20} x gb' gb1'=>by
        have gb2':=get_ext gb2d x (by omega)
        refine St1.mk (o:=0) gb2' (by simp) rfl fun w21 h21=>?_
        have x21:Ext (·=b2) w20 w21:=h21.ext
        have rf21:RfSt lp rf .busy none w21:=(rfd.ext x (by omega)).ext x21 (by omega)
        have xr:Ext (·=lp) w21 (rfPut lp rf .done (some .ret) w21):=rfPut_ext
        have xall:Ext (fun q=>q=lp∨q=b4∨q=b∨q=b1∨q=b2) w' (rfPut lp rf .done (some .ret) w21):=(((xwd.mono fun q _ h=>by omega).trans x fun q _ h=>by omega).trans x21 fun q _ h=>by omega).trans xr fun q _ h=>by omega
        refine ⟨trivial,rf21,kf _ ⟨rf21.put,hI.d.ext xall (by omega),hI.x.trans xall fun q hq h=>by omega,get_ext (get_ext gb' x21 (by omega)) xr (by omega),_,ev,get_ext (get_ext gb1' x21 (by omega)) xr (by omega),get_ext (h21.get gb2') xr (by omega),hps⟩⟩
      have r0:Ext (·=b) (drewW w18) (drewW w18):=Ext.refl _ _
      have A1:∀{w19:Wd},Ext (·=b) (drewW w18) w19->w19.heap[b]? = some (.cells [.slice none 0 0].toArray 45 (0,0))->St1 w19 (Addr.mk b1 0 none) (.int .i64 ((j+1:Nat):Int)) fun w20=>True/\St1 w20 (Addr.mk b2 0 none) (.int .i64 ev) fun w21=>True/\RfSt lp rf .busy none w21/\Kr false (rfPut lp rf .done (some .ret) w21) :=
        fun x g=>T1 x g fun w20 x g g1=>⟨trivial,T2 x g g1⟩
      have A2:∀{w19:Wd},Ext (·=b) (drewW w18) w19->w19.heap[b]? = some (.cells [.slice none 0 0].toArray 45 (0,0))->St1 w19 (Addr.mk b1 0 none) (.int .i64 ((j+1:Nat):Int)) fun w20=>True/\True/\St1 w20 (Addr.mk b2 0 none) (.int .i64 ev) fun w21=>True/\RfSt lp rf .busy none w21/\Kr false (rfPut lp rf .done (some .ret) w21) :=
        fun x g=>T1 x g fun w20 x g g1=>⟨trivial,trivial,T2 x g g1⟩
      exact ⟨fun _=>True,trivial,
        ⟨_,C4 r0,trivial,⟨trivial,T0 fun w19 x g=>⟨trivial,A1 x g⟩⟩,T0 fun w22 x g=>⟨trivial,⟨trivial,A1 x g⟩,A2 x g⟩⟩,
        ⟨trivial,⟨_,C4 r0,trivial,T0 fun w27 x g=>⟨trivial,A1 x g⟩⟩,T0 fun w30 x g=>⟨trivial,_,C4 x,trivial,A1 x g⟩⟩,
        T0 fun w33 x g=>⟨trivial,⟨_,C4 x,trivial,⟨trivial,A1 x g⟩,A2 x g⟩,trivial,_,C4 x,trivial,A1 x g⟩⟩
    · obtain ⟨e,hu,re,hL5⟩ : ∃ e,unE y=some e/\EvR (w14.heap.size<=·) w15.heap v e/\L.length < 500:=by
        rcases hev with ⟨h,_⟩ | ⟨_,h⟩
        · exact absurd h0 h
        · exact h
      have g318:=get_no g313 x13_17
      refine ⟨s,Cell.lst g318 rfl,v.kind,Cell.lst g17 rfl,v.call.kind,Cell.lst g17 rfl,v.call.tenant,Cell.lst g17 rfl,v.call.secret,Cell.lst g17 rfl,v.call.quota,Cell.lst g17 rfl,v.call.n,Cell.lst g17 rfl,v.call.handle,Cell.lst g17 rfl,v.call.other,Cell.lst g17 rfl,v.call.snap,Cell.lst g17 rfl,v.call.rights,Cell.lst g17 rfl,v.call.ops,Cell.lst g17 rfl,v.call.key,Cell.lst g17 rfl,v.call.frm,Cell.lst g17 rfl,v.call.upto,Cell.lst g17 rfl,v.call.back,Cell.lst g17 rfl,v.n,Cell.lst g17 rfl,v.block,Cell.lst g17 rfl,v.masks,Cell.lst g17 rfl,v.bytes,Cell.lst g17 rfl,NewW.mk fun b7 w40 n40=>?_⟩
      have x14_40:=x13_17.no n40.ext
      have z40:=n40.size
      have o40:=o13.no x14_40
      have s_lt:∀ q,s.blk=some q->base<=q/\q < w14.heap.size:=fun q hq=>⟨(o13.lt hq).1,(o13.lt hq).2⟩
      refine app_api_Event o40 (by omega) (ev_src n40) (by omega) fun s5 w41 o5 l5 x41 hbl=>?_
      have x41':Ext (fun q=>s.blk=some q) w40 w41:=x41
      have g341:=get_ext (get_no g318 n40.ext) x41' (fun h=>by have:=s_lt b3 h; omega)
      refine St1.mk (o:=0) g341 (by simp) rfl fun w42 h42=>?_
      have x42:Ext (·=b3) w41 w42:=h42.ext
      have rf42:RfSt lp rf .busy none w42:=((rf13.ext x14_40 id).ext x41' (fun h=>by have:=s_lt lp h; omega)).ext x42 (by omega)
      have xr:Ext (·=lp) w42 (rfPut lp rf .ready none w42):=rfPut_ext
      have x14_43:Ext (fun q=>s.blk=some q∨q=b3∨q=lp) w14 (rfPut lp rf .ready none w42):=(((x14_40.mono fun _ _ h=>h.elim).trans x41' fun _ _ h => .inl h).trans x42 fun _ _ h => .inr (.inl h)).trans xr fun _ _ h => .inr (.inr h)
      have xall:Ext (fun q=>(q=lp∨q=b4∨q=b3)∨s.blk=some q) w' (rfPut lp rf .ready none w42):=(xw13.mono fun q _ h => .inl (by omega)).trans x14_43 fun q _ h=>by
        rcases h with h | h
        · exact .inr h
        · exact .inl (by omega)
      have out:∀ q,q≠lp->q≠b4->q≠b3->q < base->¬ ((q=lp∨q=b4∨q=b3)∨s.blk=some q):=fun q h1 h2 h3 h4 h=>by
        rcases h with h | h
        · omega
        · have:=s_lt q h; omega
      have s5_out:∀{q},s.blk≠some q->q < w40.heap.size->s5.blk≠some q:=fun {q} h1 h2 h3=>by
        rcases hbl with h | ⟨b',h,h4⟩
        · exact h1 (h ▸ h3)
        · rw [h] at h3; cases h3; omega
      have x41_43:Ext (fun q=>q=b3∨q=lp) w41 (rfPut lp rf .ready none w42):=(x42.mono fun _ _ h => .inl h).trans xr fun _ _ h => .inr h
      have old:∀ p∈L,EvR (fun q=>base<=q/\s5.blk≠some q) (rfPut lp rf .ready none w42).heap p.1 p.2:=fun p hp=>by
        have h1:=((hE13 p hp).no x14_40).lt.ext x41' fun q hq h=>hq.1.2 h
        refine (h1.ext x41_43 fun q hq h=>by have:=hq.1.1; omega).mono fun q hq=>⟨hq.1.1,s5_out hq.1.2 hq.2⟩
      have new:EvR (fun q=>base<=q/\s5.blk≠some q) (rfPut lp rf .ready none w42).heap v e:=by
        have h1:=(re.no (x15_17.no n40.ext)).lt.ext x41' fun q hq h=>by have:=s_lt q h; have:=hq.1; omega
        refine (h1.ext x41_43 fun q hq h=>by have:=hq.1; omega).mono fun q hq=>⟨by have:=hq.1; omega,s5_out (fun h=>by have:=s_lt q h; have:=hq.1; omega) hq.2⟩
      have e5:evC (L++[(v,e)])=evC L++v.cells:=by simp [evC]
      rw [<- e5] at o5
      refine ⟨rf42,kt _ ⟨rf42.put,hI.d.ext xall (out dk (by omega) (by omega) (by omega) (by omega)),hI.x.trans xall fun q hq h=>?_,get_ext hI.g xall (out b (by omega) (by omega) (by omega) (by omega)),get_ext hI.g1 xall (out b1 (by omega) (by omega) (by omega) (by omega)),get_ext hI.g2 xall (out b2 (by omega) (by omega) (by omega) (by omega)),
        get_ext g413 x14_43 (fun h => by rcases h with h | h; · have := s_lt b4 h; omega
                                         · omega),?_,s5,L++[(v,e)],get_ext (h42.get g341) xr (by omega),o5.ext x41_43 fun q hq h=>by have:=(o5.lt hq).1; omega,fun p hp=>?_,by rw [List.length_append,List.length_singleton]; omega,?_⟩ fun q hq=>xall.blk q (by omega) (out q (by omega) (by omega) (by omega) (by omega))⟩
      · exact out q (by omega) (by omega) (by omega) (by omega) h
      · have:=xall.size; omega
      · rcases List.mem_append.1 hp with h | h
        · exact old p h
        · rw [List.mem_singleton] at h; subst h; exact new
      · rw [hp,parseL_more hy hu (by rw [List.length_map]; omega),List.map_append]; rfl
  · intro w' hI
    obtain ⟨s,L,g3,o,hE,hL,hp⟩:=hI.o
    rw [List.drop_length] at hp
    rw [hp] at k
    refine .inr ⟨hI.rf,?_⟩
    have xp:Ext (·=lp) w' (rfPut lp rf .exhausted none w'):=rfPut_ext
    have zI:=hI.z
    refine ⟨s,Cell.lst (get_ext g3 xp (by omega)) rfl,?_⟩
    have gb':=get_ext hI.g xp (by omega)
    refine St1.mk (o:=0) gb' (by simp) rfl fun w44 h44=>?_
    have x44:Ext (·=b) (rfPut lp rf .exhausted none w') w44:=h44.ext
    have gb1':=get_ext (get_ext hI.g1 xp (by omega)) x44 (by omega)
    refine St1.mk (o:=0) gb1' (by simp) rfl fun w45 h45=>?_
    have x45:Ext (·=b1) w44 w45:=h45.ext
    have gb2':=get_ext (get_ext (get_ext hI.g2 xp (by omega)) x44 (by omega)) x45 (by omega)
    refine St1.mk (o:=0) gb2' (by simp) rfl fun w46 h46=>?_
    have x46:Ext (·=b2) w45 w46:=h46.ext
    have xd:Ext (·=dk) w46 (defShut dk w46):=defShut_ext
    have xall:Ext (fun q=>q < base/\w.heap.size<=q) w' (defShut dk w46):=((((xp.mono fun q _ h=>by omega).trans x44 fun q _ h=>by omega).trans x45 fun q _ h=>by omega).trans x46 fun q _ h=>by omega).trans xd fun q _ h=>by omega
    refine ⟨(((hI.d.ext xp (by omega)).ext x44 (by omega)).ext x45 (by omega)).ext x46 (by omega),s,Cell.lst (get_ext (get_ext (get_ext (h44.get gb') x45 (by omega)) x46 (by omega)) xd (by omega)) rfl,0,Cell.lst (get_ext (get_ext (h45.get gb1') x46 (by omega)) xd (by omega)) rfl,0,Cell.lst (get_ext (h46.get gb2') xd (by omega)) rfl,?_⟩
    refine k s _ ⟨L,rfl,(o.ext xall fun q hq h=>by have:=(o.lt hq).1; omega).rd,fun _ q hq=>by have:=(o.lt hq).1; omega,fun p hp=>((hE p hp).ext xall fun q hq h=>by have:=hq.1; omega).mono fun q hq=>by have:=hq.1; omega⟩ (hI.x.trans xall fun q hq h=>by omega)
  · intro w' hS
    obtain ⟨n,e,g1,g2,hp⟩:=hS.r
    rw [hp] at k
    refine .inl ⟨hS.rf,?_⟩
    have xp:Ext (·=lp) w' (rfPut lp rf .exhausted (some .ret) w'):=rfPut_ext
    have xd:Ext (·=dk) (rfPut lp rf .exhausted (some .ret) w') (defShut dk (rfPut lp rf .exhausted (some .ret) w')):=defShut_ext
    refine ⟨hS.d.ext xp (by omega),⟨none,0,0⟩,Cell.lst (get_ext (get_ext hS.g xp (by omega)) xd (by omega)) rfl,n,Cell.lst (get_ext (get_ext g1 xp (by omega)) xd (by omega)) rfl,e,Cell.lst (get_ext (get_ext g2 xp (by omega)) xd (by omega)) rfl,?_⟩
    exact k _ _ (nilE _) ((hS.x.trans xp fun q hq h=>by omega).trans xd fun q hq h=>by omega)
end
end Go.Proofs.YtimonamjecmlcaaGreatDoor
namespace Go.V
theorem linesB_le(l:List EvP)(j:Nat):(linesB (l.take j)).length<=(linesB l).length:=by
 have h:linesB (l.take j++l.drop j)=linesB (l.take j)++linesB (l.drop j):=by unfold linesB; rw [List.flatMap_append]
 rw [List.take_append_drop] at h
 rw [h,List.length_append]
 omega
end Go.V
namespace Go.Proofs.YtimonamjecmlcaaGreatDoor
open Go.V
section
variable {w:Wd} {Q:Nat->Prop}
set_option maxHeartbeats 1000000 in
theorem rtext_spec{s:Sl}{l:List EvP}{K:ByteArray->Int->Wd->Prop}(r:EvsR Q w.heap s l)(rg:∀ e∈l,RngC e.call)(hl:∀ e∈l,e.call.ops.length<=1000000000000000000)(hn:l.length<=1000000000000)
  (k:∀ w',Ext No w w'->K (stB (textP l).1) (textP l).2 w'):C_ref29_Text s w K:=by
 apply S_ref29_Text
 have hsl:=r.len
 refine ⟨fun m t w'=>∃ j:Nat,t=j/\j<=l.length/\m=l.length - j/\(∀ e∈l.take j,MayE e)/\Ext No w w',⟨_,0,rfl,Nat.zero_le _,rfl,by simp,Ext.refl _ _⟩,?_⟩
 rintro _ m0 _ w1 ⟨j,rfl,hj,rfl,hm,x1⟩
 refine If.dec (fun h=>?_) fun h=>?_
 .refine ixE (r.no x1) (by omega) h fun bb o v hi hr hc=>?_
  have hjl:j < l.length:=hi
  have el:l[((j:Nat):Int).toNat]'hi=l[j]:=rfl
  rw [el] at hr
  have hmem:l[j]∈l:=List.getElem_mem hjl
  have hle:=hl _ hmem
  have tk:=take_snoc hjl
  refine ⟨v.kind,hc 0 _ rfl,v.call.kind,hc 1 _ rfl,v.call.tenant,hc 2 _ rfl,v.call.secret,hc 3 _ rfl,v.call.quota,hc 4 _ rfl,v.call.n,hc 5 _ rfl,v.call.handle,hc 6 _ rfl,v.call.other,hc 7 _ rfl,v.call.snap,hc 8 _ rfl,v.call.rights,hc 9 _ rfl,v.call.ops,hc 10 _ rfl,v.call.key,hc 11 _ rfl,v.call.frm,hc 12 _ rfl,v.call.upto,hc 13 _ rfl,v.call.back,hc 14 _ rfl,v.n,hc 15 _ rfl,v.block,hc 16 _ rfl,v.masks,hc 17 _ rfl,v.bytes,hc 18 _ rfl,?_⟩
  refine rMay_spec hr hle fun rm w2 may x2=>If.not (If.cases (fun t=>Ar.i64 (by omega) ⟨_,by omega,j+1,by omega,by omega,rfl,fun e he=>?_,x1.no x2⟩) fun t=>?_)
  .rw [tk] at he
   rcases List.mem_append.1 he with h1 | h1
   .exact hm e h1
   .rw [List.mem_singleton] at h1; rw [h1]; exact may.1 t
  .have:=k w2 (x1.no x2)
   unfold textP at this
   rw [if_neg fun hall=>by rw [may.2 (hall _ hmem)] at t; cases t] at this
   exact this
 .have hjn:j=l.length:=by omega
  rw [hjn,List.take_length] at hm
  have k2:∀ w',Ext No w w'->K (stB (if 500 < l.length∨1048576 < (linesB l).length then (([],3):Bs×Int) else (linesB l,0)).1) (if 500 < l.length∨1048576 < (linesB l).length then (([],3):Bs×Int) else (linesB l,0)).2 w':=fun w' x'=>by
   have:=k w' x'
   unfold textP at this
   rw [if_pos hm] at this; exact this
  refine If.dec (fun h5=>?_) fun h5=>?_
  .have:=k2 w1 x1
   rw [if_pos (.inl (by omega))] at this; exact this
  refine ⟨fun m B t w'=>∃ j:Nat,B=stB (linesB (l.take j))/\t=j/\j<=l.length/\m=l.length - j/\(linesB (l.take j)).length<=1048576/\Ext No w w',⟨_,0,rfl,rfl,Nat.zero_le _,rfl,by simp [linesB],x1⟩,?_⟩
  rintro _ m0 _ _ w3 ⟨j,rfl,rfl,hj,rfl,hB,x3⟩
  refine If.dec (fun h=>?_) fun h=>?_
  .refine ixE (r.no x3) (by omega) h fun bb o v hi hr hc=>?_
   have hjl:j < l.length:=hi
   have el:l[((j:Nat):Int).toNat]'hi=l[j]:=rfl
   rw [el] at hr
   have hmem:l[j]∈l:=List.getElem_mem hjl
   have may:=hm _ hmem
   have rge:=rg _ hmem
   have tk:=take_snoc hjl
   have lsn:linesB (l.take (j+1))=linesB (l.take j)++(lineE l[j]++[10]):=by rw [tk,linesB_snoc]
   have hll:=line_len may rge
   have hle1:=linesB_le l (j+1)
   generalize l[j]=e at *
   refine ⟨v.kind,hc 0 _ rfl,v.call.kind,hc 1 _ rfl,v.call.tenant,hc 2 _ rfl,v.call.secret,hc 3 _ rfl,v.call.quota,hc 4 _ rfl,v.call.n,hc 5 _ rfl,v.call.handle,hc 6 _ rfl,v.call.other,hc 7 _ rfl,v.call.snap,hc 8 _ rfl,v.call.rights,hc 9 _ rfl,v.call.ops,hc 10 _ rfl,v.call.key,hc 11 _ rfl,v.call.frm,hc 12 _ rfl,v.call.upto,hc 13 _ rfl,v.call.back,hc 14 _ rfl,v.n,hc 15 _ rfl,v.block,hc 16 _ rfl,v.masks,hc 17 _ rfl,v.bytes,hc 18 _ rfl,?_⟩
   refine rLine_spec hr may rge fun w4 x4=>?_
   have e10:(stB (linesB (l.take j))++stB (lineE e))++(⟨#[10]⟩ : ByteArray)=stB (linesB (l.take (j+1))):=by
    rw [lsn,stB_app,show (⟨#[10]⟩ : ByteArray)=stB [10] from rfl,stB_app,List.append_assoc]
   have elen:(linesB (l.take (j+1))).length=(linesB (l.take j)).length+((lineE e).length+1):=by rw [lsn]; simp
   rw [e10,stB_app]
   simp only [stB_size,List.length_append]
   refine ⟨?_,?_,If.dec (fun h6=>?_) fun h6=>Ar.i64 (by omega) ⟨_,by omega,j+1,rfl,by omega,by omega,rfl,by omega,x3.no x4⟩⟩
   .show (((linesB (l.take j)).length+(lineE e).length:Nat):Int)<=9223372036854775807
    omega
   .show ((((linesB (l.take j)).length+(lineE e).length)+1:Nat):Int)<=9223372036854775807
    omega
   .have:=k2 w4 (x3.no x4)
    rw [if_pos (.inr (by omega))] at this; exact this
  .have hjn:j=l.length:=by omega
   rw [hjn,List.take_length] at hB ⊢
   have:=k2 w3 x3
   rw [if_neg (by omega)] at this
   exact this
theorem runline_any{w:Wd}{l:Bs}{K:KUn}(hl:l.length<=2000000)
  (k:∀ v n w',((n=0/\∃ e,unE l=some e/\EvR (w.heap.size<=·) w'.heap v e/\RngC e.call)∨(n=5/\v=evV0/\unE l=none))->Ext No w w'->K.at v n w'):C_ref29_Unline (stB l) w K :=
 runline_spec hl (fun v e w' h1 h2 h3 x=>k v 0 w' (.inl ⟨rfl,e,h1,h2,h3⟩) x) fun w' h x=>k evV0 5 w' (.inr ⟨rfl,rfl,h⟩) x
theorem EvsR.mono{Q Q':Nat->Prop}{h:Array Obj}{s:Sl}{l:List EvP}(r:EvsR Q h s l)(hq:∀ b,Q b->Q' b):EvsR Q' h s l:=by
 obtain ⟨L,h1,h2,h3,h4⟩:=r
 exact ⟨L,h1,h2,fun hne b hb=>hq b (h3 hne b hb),fun e he=>(h4 e he).mono hq⟩
theorem evs_own{h:Array Obj}{base:Nat}{s:Sl}{L:List (EvV×EvP)}(o:Own h base 32 19 s (evC L))(hE:∀ p∈L,EvR (fun q=>base<=q/\s.blk≠some q) h p.1 p.2):EvsR (base<=·) h s (L.map Prod.snd) :=
 ⟨L,rfl,o.rd,fun _ _ hq=>(o.lt hq).1,fun p hp=>(hE p hp).mono fun _ hq=>hq.1⟩
theorem evs_push{w w50:Wd}{base bn:Nat}{s:Sl}{L:List (EvV×EvP)}{v:EvV}{e:EvP}{K:Sl->Wd->Prop}(o:Own w.heap base 32 19 s (evC L))(hE:∀ p∈L,EvR (fun q=>base<=q/\s.blk≠some q) w.heap p.1 p.2)
  (he:EvR (fun q=>base<=q/\s.blk≠some q) w.heap v e) (n:New w (.cells v.cells.toArray 32) bn w50) (hb:base<=w.heap.size) (hz:L.length<=1000000)
  (k:∀ s5 w5,Own w5.heap base 32 19 s5 (evC (L++[(v,e)]))->(∀ p∈L++[(v,e)],EvR (fun q=>base<=q/\s5.blk≠some q) w5.heap p.1 p.2)->Ext (fun q=>s.blk=some q) w w5->K s5 w5):AppW pz 45 45 s (.slice (some (Addr.mk bn 0 none)) 1 1) K w50:=by
 have x:=n.ext
 have z:=n.size
 have hsl:s.len=L.length:=by
  have:=o.rd.len
  rw [flat_len' (evC_len L)] at this; omega
 refine app_api_Event (o.no x) (by omega) (ev_src n) (by omega) fun s5 w5 o5 l5 x5 hbl=>?_
 have x5':Ext (fun q=>s.blk=some q) w50 w5:=x5
 have e5:evC (L++[(v,e)])=evC L++v.cells:=by simp [evC]
 have key:∀{v e},EvR (fun q=>base<=q/\s.blk≠some q) w.heap v e->EvR (fun q=>base<=q/\s5.blk≠some q) w5.heap v e:=fun {v e} h=>by
  refine ((h.no x).lt.ext x5' fun q hq h=>hq.1.2 h).mono fun q hq=>⟨hq.1.1,fun h=>?_⟩
  rcases hbl with h1 | ⟨b',h1,h2⟩
  .exact hq.1.2 (h1 ▸ h)
  .rw [h1] at h; cases h; have:=hq.2; omega
 refine k s5 w5 (by rw [e5]; exact o5) (fun p hp=>?_) (x.of_no.trans x5' fun _ _ h=>h)
 rcases List.mem_append.1 hp with h | h
 .exact key (hE p h)
 .rw [List.mem_singleton] at h; subst h; exact key he
set_option maxHeartbeats 2000000 in
theorem rparse_spec{l:Bs}{K:Sl->Int->Int->Wd->Prop}(hl:l.length<=90000000)(k:∀ s w',EvsR (w.heap.size<=·) w'.heap s (parseP l).1->Ext No w w'->K s (parseP l).2.1 (parseP l).2.2 w'):C_ref29_Parse (stB l) w K:=by
 apply S_ref29_Parse
 unfold parseP at k
 have nil:∀ h,EvsR (w.heap.size<=·) h ⟨none,0,0⟩ []:=fun h=>⟨[],rfl,Rd.nil _ _,fun h=>absurd rfl h,by simp⟩
 refine If.dec (fun h=>?_) fun h=>?_
 .rw [stB_size] at h
  rw [if_pos (by omega)] at k
  exact k _ w (nil _) (Ext.refl _ _)
 rw [stB_size] at h
 rw [if_neg (by omega)] at k
 refine rCut_spec (c:=10) (by omega) fun r w1 o1 x1=>?_
 have hsplit:∀ x∈splitB 10 l,x.length<=l.length:=fun x hx=>split_len hx
 have hWl:(splitB 10 l).length<=l.length+1:=by have h1:=splitB_len 10 l; have:=List.count_le_length (a:=(10:UInt8)) (l:=l); omega
 generalize splitB 10 l=W at *
 have hrl:=RdW.len o1.rd
 refine ⟨fun m out i w'=>∃ (j:Nat) (L:List (EvV×EvP)),i=j/\j<=W.length/\m=W.length - j/\Ext No w1 w'/\Own w'.heap w1.heap.size 32 19 out (evC L)/\(∀ p∈L,EvR (fun q=>w1.heap.size<=q/\out.blk≠some q) w'.heap p.1 p.2)/\L.length<=500 /\
  parseL 0 [] W=parseL j (L.map Prod.snd) (W.drop j),⟨_,0,[],rfl,Nat.zero_le _,rfl,Ext.refl _ _,Own.nil _ _ _ _,by simp,by simp,rfl⟩,?_⟩
 rintro _ m0 out _ w2 ⟨j,L,rfl,hj,rfl,x2,o,hE,hL,hp⟩
 have z1:=x1.size; have z2:=x2.size
 have x02:=x1.no x2
 refine If.dec (fun hjr=>?_) fun hjr=>?_
 .have hjl:j < W.length:=by omega
  have hdr:W.drop j=W[j]::W.drop (j+1):=List.drop_eq_getElem_cons hjl
  rw [hdr] at hp
  have hx:=hsplit W[j] (List.getElem_mem hjl)
  have r2:RdW w2.heap r W:=o1.rd.no x2
  have ix:∀{w':Wd}{K':Addr->Prop},Ext No w2 w'->(∀ a,Cell w' a (strV W[j])->K' a)->Ix r.a r.len ((j:Nat):Int) 1 K':=fun x' k'=>ixW (r2.no x') (by omega) (by omega) fun bb oo hi _ hc=>k' _ hc
  generalize W[j]=y at *
  have skip:(y=[]∨y.head? = some 35)->Ar .i64 (((j:Nat):Int)+1) fun z=>∃ m1,m1 < W.length - j/\∃ (j:Nat) (L:List (EvV×EvP)),z=j/\j<=W.length/\m1=W.length - j/\Ext No w1 w2/\Own w2.heap w1.heap.size 32 19 out (evC L)/\(∀ p∈L,EvR (fun q=>w1.heap.size<=q/\out.blk≠some q) w2.heap p.1 p.2)/\L.length<=500 /\
    parseL 0 [] W=parseL j (L.map Prod.snd) (W.drop j):=fun hy=>Ar.i64 (by omega) ⟨_,by omega,j+1,L,by omega,by omega,rfl,x2,o,hE,hL,by rw [hp,parseL_skip hy]⟩
  have x22:Ext No w2 w2:=Ext.refl _ _
  refine ⟨fun w'=>w'=w2/\¬ (y=[]∨y.head? = some 35),ix x22 fun a hc=>⟨_,hc,eqStr (b:=[]) (fun hy=>skip (.inl hy)) fun hy=>ix x22 fun a2 hc2=>⟨_,hc2,?_⟩⟩,?_⟩
  .obtain ⟨a,y',rfl⟩ : ∃ a y',y=a::y':=by cases y with | nil=>exact (hy rfl).elim | cons a y'=>exact ⟨a,y',rfl⟩
   refine ixS (l:=a::y') (Int.le_refl _) (by simp) (If.beq (fun ha=>skip (.inr ?_)) fun ha=>⟨rfl,?_⟩)
   .have:a=35:=UInt8.toNat_inj.1 (by have h0:((a.toNat:Nat):Int)=35:=ha; show a.toNat=35; omega)
    rw [this]; rfl
   .rintro (h | h)
    .cases h
    .simp only [List.head?_cons,Option.some.injEq] at h
     subst h; exact ha rfl
  rintro _ w2 ⟨rfl,hy⟩
  refine ix x22 fun a3 hc3=>⟨_,hc3,runline_any (by omega) fun v n w4 hv x4=>NewW.mk fun b1 w5 n5=>⟨rfl,StN.all n5.get rfl v.one fun w6 g6 x6 _=>?_⟩⟩
  have x6':Ext (·=b1) w5 w6:=x6
  have z4:=x4.size
  have x46:Ext No w4 w6:=n5.ext.trans x6' fun q hq h=>by have:=n5.at_; omega
  have x26:=x4.no x46
  have hsl:out.len=L.length:=by
   have:=o.rd.len
   rw [flat_len' (evC_len L)] at this; omega
  refine ⟨fun ev w'=>w'=w6/\((ev≠0/\parseL 0 [] W=([],((j+1:Nat):Int),ev))∨(ev=0/\∃ e,unE y=some e/\EvR (w2.heap.size<=·) w4.heap v e/\L.length < 500)),?_,?_⟩
  .rcases hv with ⟨rfl,e,hu,re,rge⟩ | ⟨rfl,rfl,hu⟩
   .refine If.beq (fun _=>If.dec (fun h5=>⟨rfl, .inl ⟨by decide,?_⟩⟩) fun h5=>⟨rfl, .inr ⟨rfl,e,hu,re,by omega⟩⟩) fun h=>absurd rfl h
    rw [hp,parseL_full hy hu (by rw [List.length_map]; omega)]
   .refine If.beq (fun h=>absurd h (by decide)) fun _=>⟨rfl, .inl ⟨by decide,?_⟩⟩
    rw [hp,parseL_bad hy hu]
  rintro _ ev w6 ⟨rfl,hev⟩
  refine If.bne (fun hne=>Ar.i64 (by omega) ?_) fun h0=>?_
  .have hps:parseL 0 [] W=([],((j+1:Nat):Int),ev):=by
    rcases hev with ⟨_,h⟩ | ⟨h,_⟩
    .exact h
    .exact absurd h hne
   rw [hps] at k
   exact k _ _ (nil _) (x02.no x26)
  .obtain ⟨e,hu,re,hL5⟩ : ∃ e,unE y=some e/\EvR (w2.heap.size<=·) w4.heap v e/\L.length < 500:=by
    rcases hev with ⟨h,_⟩ | ⟨_,h⟩
    .exact absurd h0 h
    .exact h
   refine ⟨v.kind,Cell.lst g6 rfl,v.call.kind,Cell.lst g6 rfl,v.call.tenant,Cell.lst g6 rfl,v.call.secret,Cell.lst g6 rfl,v.call.quota,Cell.lst g6 rfl,v.call.n,Cell.lst g6 rfl,v.call.handle,Cell.lst g6 rfl,v.call.other,Cell.lst g6 rfl,v.call.snap,Cell.lst g6 rfl,v.call.rights,Cell.lst g6 rfl,v.call.ops,Cell.lst g6 rfl,v.call.key,Cell.lst g6 rfl,v.call.frm,Cell.lst g6 rfl,v.call.upto,Cell.lst g6 rfl,v.call.back,Cell.lst g6 rfl,v.n,Cell.lst g6 rfl,v.block,Cell.lst g6 rfl,v.masks,Cell.lst g6 rfl,v.bytes,Cell.lst g6 rfl,NewW.mk fun b7 w8 n8=>?_⟩
   have ob:∀ q,out.blk=some q->q < w2.heap.size:=fun q hq=>(o.lt hq).2
   have z6:=x26.size
   refine evs_push (o.no x26) (fun p hp=>(hE p hp).no x26) ((re.no x46).mono fun q hq=>⟨by have h1:w2.heap.size<=q:=hq; omega,fun h=>by have h1:w2.heap.size<=q:=hq; have:=ob q h; omega⟩) n8 (by omega) (by omega) fun s5 w9 o9 hE9 x9=>Ar.i64 (by omega) ⟨_,by omega,j+1,_,by omega,by omega,rfl,?_,o9,hE9,by rw [List.length_append,List.length_singleton]; omega,?_⟩
   .exact (x2.no x26).trans x9 fun q hq h=>by have:=(o.lt h).1; omega
   .rw [hp,parseL_more hy hu (by rw [List.length_map]; omega),List.map_append]; rfl
 .have hjn:j=W.length:=by omega
  rw [hjn,List.drop_length] at hp
  have e0:parseL 0 [] W=(L.map Prod.snd,0,0):=by rw [hp]; rfl
  rw [e0] at k
  exact k out w2 (EvsR.mono (evs_own o hE) fun q hq=>by have h1:w1.heap.size<=q:=hq; omega) x02
end
end Go.Proofs.YtimonamjecmlcaaGreatDoor
namespace Go.V
structure BndE(e:EvP):Prop where
 secret:e.call.secret.length<=140737488355328
 key:e.call.key.length<=140737488355328
 frm:e.call.frm.length<=140737488355328
 upto:e.call.upto.length<=140737488355328
 masks:e.masks.length<=140737488355328
 bytes:e.bytes.length<=140737488355328
 opl:e.call.ops.length<=140737488355328
 ops:∀ o∈e.call.ops,o.key.length<=140737488355328/\o.val.length<=140737488355328
def SmE(e:EvP):Prop:=SmC e.call/\e.masks.length<=1000000/\e.bytes.length<=1000000
def lknown:Bs:=[98,97,116,99,104,32,52,50,57,52,57,54,55,50,57,55,32,112,117,116,32,54,98,32,51,50,32,100,114,111,112,32,54,99]
def lcrash:Bs:=[99,114,97,115,104,32,102,48]
def eknown:EvP:=⟨1,{ callP0 11 with handle:=4294967297,ops:=[⟨[107],[50],false⟩,⟨[108],[],true⟩] },0,0,[],[]⟩
def ecrash:EvP:=⟨4,callP0 0,0,0,[15,0],[]⟩
theorem may_known:MayE eknown:=by
 refine (mayE_1 rfl).2 ⟨rfl,rfl,⟨rfl,rfl⟩,?_⟩
 obtain ⟨g,hg⟩ : ∃ g,formI eknown.call.kind=some g:=formI_some.1 ⟨by decide,by decide⟩
 refine ⟨g,hg,⟨by decide,by decide,by decide,by decide,by decide,⟨by decide,by decide⟩,⟨by decide,by decide⟩,by decide⟩,?_⟩
 cases hg
 rfl
theorem rng_known:RngC eknown.call:=⟨⟨by decide,by decide⟩,⟨by decide,by decide⟩,⟨by decide,by decide⟩,⟨by decide,by decide⟩,⟨by decide,by decide⟩⟩
theorem line_known:lineE eknown=lknown:=by decide +kernel
theorem may_crash:MayE ecrash:=(mayE_4 rfl).2 ⟨rfl,rfl,⟨rfl,rfl⟩,by decide,by decide⟩
theorem line_crash:lineE ecrash=lcrash:=by decide +kernel
theorem un_known:unE lknown=some eknown:=by rw [<- line_known]; exact unE_line may_known rng_known
end Go.V
namespace Go.Proofs.YtimonamjecmlcaaGreatDoor
open Go.V
section
variable {w:Wd} {Q:Nat->Prop}
set_option maxHeartbeats 2000000 in
theorem size_spec{v:EvV}{e:EvP}{K:Int->Wd->Prop}(r:EvR Q w.heap v e)(bd:BndE e)(k:∀ z w',(z<=150000->SmE e)->Ext No w w'->K z w'):C_law29_size v.kind v.call.kind v.call.tenant v.call.secret v.call.quota v.call.n v.call.handle v.call.other v.call.snap v.call.rights v.call.ops v.call.key v.call.frm v.call.upto v.call.back v.n v.block v.masks v.bytes w K:=by
 apply S_law29_size
 refine NewW.mk fun b w1 n1=>?_
 have g1:w1.heap[b]? = some (.cells v.cells.toArray 32 (0,0)):=n1.get
 refine ⟨v.call.kind,Cell.lst g1 rfl,v.call.tenant,Cell.lst g1 rfl,v.call.secret,Cell.lst g1 rfl,v.call.quota,Cell.lst g1 rfl,v.call.n,Cell.lst g1 rfl,v.call.handle,Cell.lst g1 rfl,v.call.other,Cell.lst g1 rfl,v.call.snap,Cell.lst g1 rfl,v.call.rights,Cell.lst g1 rfl,v.call.ops,Cell.lst g1 rfl,v.call.key,Cell.lst g1 rfl,v.call.frm,Cell.lst g1 rfl,v.call.upto,Cell.lst g1 rfl,v.call.back,Cell.lst g1 rfl,?_⟩
 refine NewW.mk fun b1 w2 n2=>⟨rfl,StN.all n2.get rfl v.call.one fun w3 g3 x3 _=>?_⟩
 have hb:=n1.at_; have z1:=n1.size; have hb1:=n2.at_; have z2:=n2.size
 have x3':Ext (·=b1) w2 w3:=x3
 have x03:Ext No w w3:=(n1.ext.no n2.ext).trans x3' fun q hq h=>by omega
 have gb3:w3.heap[b]? = some (.cells v.cells.toArray 32 (0,0)):=get_ext (get_no g1 n2.ext) x3' (by omega)
 have l1:=RdB.len r.call.secret.rd; have l2:=RdB.len r.call.key.rd; have l3:=RdB.len r.call.frm.rd; have l4:=RdB.len r.call.upto.rd; have l5:=RdB.len r.masks.rd; have l6:=RdB.len r.bytes.rd; have l7:=OpsR.len r.call.ops
 obtain ⟨d1,d2,d3,d4,d5,d6,d7,d8⟩:=bd
 refine ⟨v.call.secret,Cell.lst g3 rfl,v.call.key,Cell.lst g3 rfl,Ar.i64 (by omega) ⟨v.call.frm,Cell.lst g3 rfl,Ar.i64 (by omega) ⟨v.call.upto,Cell.lst g3 rfl,Ar.i64 (by omega) ⟨v.masks,Cell.lst gb3 rfl,Ar.i64 (by omega) ⟨v.bytes,Cell.lst gb3 rfl,Ar.i64 (by omega) ⟨v.call.ops,Cell.lst g3 rfl,Ar.i64 (by omega) ?_⟩⟩⟩⟩⟩⟩
 rw [l1,l2,l3,l4,l5,l6,l7]
 obtain ⟨z5,hz5⟩ : ∃ z:Nat,z=e.call.secret.length+e.call.key.length+e.call.frm.length+e.call.upto.length+e.masks.length+e.bytes.length+e.call.ops.length:=⟨_,rfl⟩
 have ez:((((((((e.call.secret.length:Nat):Int)+((e.call.key.length:Nat):Int))+((e.call.frm.length:Nat):Int))+((e.call.upto.length:Nat):Int))+((e.masks.length:Nat):Int))+((e.bytes.length:Nat):Int))+((e.call.ops.length:Nat):Int))=(z5:Int):=by omega
 rw [ez]
 refine ⟨fun n w'=>Ext No w3 w'/\(z5:Int)<=n/\n<=2000000000000000000/\(e.call.ops.length<=300->∀ o∈e.call.ops,((o.key.length+o.val.length:Nat):Int)<=n),?_,?_⟩
 .refine ⟨fun m n i w'=>∃ (j q:Nat),i=j/\n=q/\j<=e.call.ops.length/\j<=300/\m=300 - j/\Ext No w3 w'/\z5<=q/\q<=z5+j * 281474976710656/\∀ o∈e.call.ops.take j,o.key.length+o.val.length<=q,⟨_,0,z5,rfl,rfl,Nat.zero_le _,by omega,rfl,Ext.refl _ _,Nat.le_refl _,by omega,by simp⟩,?_⟩
  rintro _ m0 _ _ w4 ⟨j,q,rfl,rfl,hj,hj3,rfl,x4,hq1,hq2,hq⟩
  have g4:=get_no g3 x4
  have j300:j * 281474976710656<=300 * 281474976710656:=Nat.mul_le_mul_right _ hj3
  have fin:(e.call.ops.length<=300->j=e.call.ops.length)->Ext No w3 w4/\(z5:Int)<=q/\(q:Int)<=2000000000000000000/\(e.call.ops.length<=300->∀ o∈e.call.ops,((o.key.length+o.val.length:Nat):Int)<=q):=fun h=>⟨x4,by omega,by omega,fun h3 o ho=>by
   have:=hq o (by rw [h h3,List.take_length]; exact ho)
   omega⟩
  refine ⟨fun w'=>w'=w4/\j < e.call.ops.length/\j < 300,⟨v.call.ops,Cell.lst g4 rfl,If.dec (fun h=>If.dec (fun h3=>⟨rfl,by omega,by omega⟩) fun h3=>fin fun _=>by omega) fun h=>fin fun _=>by omega⟩,?_⟩
  rintro _ w4 ⟨rfl,hjl,hj3'⟩
  obtain ⟨L,hL1,hL2,hL3,hL4⟩:=(r.no (x03.no x4)).call.ops
  have hLl:L.length=e.call.ops.length:=by rw [<- hL1,List.length_map]
  have hjL:j < L.length:=by omega
  have eo:e.call.ops[j]=L[j].2:=by simp [<- hL1]
  have op:=hL4 L[j] (List.getElem_mem hjL)
  have tk:=take_snoc hjl
  have sml:=d8 e.call.ops[j] (List.getElem_mem hjl)
  rw [eo] at tk sml
  have ixO:∀{K':Addr->Prop},(∀ b1 o1,(∀ i y,(L[j].1.cells)[i]? = some y->Held (Ext No w4) ⟨b1,o1+i,none⟩ y)->K' ⟨b1,o1,none⟩)->Ix v.call.ops.a v.call.ops.len ((j:Nat):Int) 3 K':=fun k' =>
   Ix.elem (f:=fun e:OpV×OpP=>e.1.cells) hL2 (opC_len L) (by decide) (by omega) (by omega) fun b1 o1 i1 hb1 c1=>k' b1 o1 fun i y hy=>Held.cell (c1 i y hy)
  generalize L[j].1=ov at *
  generalize L[j].2=oo at *
  have lk:=RdB.len op.key.rd; have lv:=RdB.len op.val.rd
  have hh:Held (Ext No w4) ((Addr.mk b1 0 none).add 9) (.slice v.call.ops.a v.call.ops.len v.call.ops.cap):=by rw [addr_add_none rfl]; exact Held.cell (Cell.lst g4 rfl)
  refine ⟨Ext No w4,(Ext.refl _ _).drew,v.call.ops,hh,ixO fun _ _ c1=>⟨ov.key,c1 0 _ rfl,Ar.i64 (by omega) ⟨v.call.ops,hh,ixO fun _ _ c2=>⟨ov.val,c2 1 _ rfl,Ar.i64 (by omega) (Ar.i64 (by omega) ⟨_,by omega,j+1,q+oo.key.length+oo.val.length,by omega,by omega,by omega,by omega,rfl,x4.drew,by omega,by omega,fun o ho=>?_⟩)⟩⟩⟩⟩
  rw [tk] at ho
  rcases List.mem_append.1 ho with h1 | h1
  .have:=hq o h1; omega
  .rw [List.mem_singleton] at h1; rw [h1]; omega
 rintro _ n w6 ⟨x6,hn1,hn2,hn3⟩
 have x06:=x03.no x6
 refine ⟨v.call.ops,Cell.lst (get_no g3 x6) rfl,If.dec (fun h=>Ar.i64 (by omega) (k _ w6 (fun h2=>by omega) x06)) fun h=>k _ w6 (fun h2=>?_) x06⟩
 have:=hn3 (by omega)
 refine ⟨⟨by omega,by omega,by omega,by omega,by omega,fun o ho=>?_⟩,by omega,by omega⟩
 have:=this o ho
 omega
theorem known_spec{K:Bool->Wd->Prop}(g:Gl w.heap)(h8:8<=w.heap.size)(k:∀ w',Ext No w w'->K true w'):C_law29_known w K:=by
 apply S_law29_known
 refine NewW.mk fun b w1 n1=>?_
 have z1:=n1.size
 have s1:OwnB w1.heap w.heap.size ⟨some ⟨b,0,none⟩,2,2⟩ [15,0]:=Own.new n1 rfl (byV_one [15,0])
 have r1:EvR (fun _=>True) w1.heap ⟨4,callV0 0,0,0,⟨some ⟨b,0,none⟩,2,2⟩,⟨none,0,0⟩⟩ ecrash:=⟨rfl,CallR.zero _ _ 0,rfl,rfl, .own s1 fun _ _ _=>trivial,RdQ.nil _ _⟩
 refine line_spec (v:=⟨4,callV0 0,0,0,⟨some ⟨b,0,none⟩,2,2⟩,⟨none,0,0⟩⟩) (g.no n1.ext) (by omega) r1 (.zero 0) (Nat.zero_le _) (fun w2 _ x2=>?_) fun w2 hm _=>absurd may_crash hm
 have x02:=n1.ext.no x2
 have z2:=x02.size
 refine unline_spec (l:=lknown) (g.no x02) (by omega) (show (34:Nat)<=2000000 by omega) (fun v e w3 hu r3 _ x3=>?_) fun w3 hu _=>by rw [un_known] at hu; cases hu
 rw [un_known] at hu
 cases hu
 refine NewW.mk fun b1 w4 n4=>⟨rfl,StN.all n4.get rfl v.one fun w5 g5 x5 _=>?_⟩
 have x5':Ext (·=b1) w4 w5:=x5
 have x35:Ext No w3 w5:=n4.ext.trans x5' fun q hq h=>by have:=n4.at_; omega
 have x05:=(x02.no x3).no x35
 have r5:=r3.no x35
 rw [line_crash]
 refine eqStr (b:=lcrash) (fun _=>If.yes (If.yes ⟨v.call.handle,Cell.lst g5 rfl,?_⟩)) fun h=>absurd rfl h
 have hh:v.call.handle=4294967297:=r5.call.handle
 rw [hh]
 have lo:=OpsR.len r5.call.ops
 have lo2:v.call.ops.len=2:=lo
 obtain ⟨L,hL1,hL2,hL3,hL4⟩:=r5.call.ops
 have hLl:L.length=2:=by have:=congrArg List.length hL1; simpa [eknown] using this
 match L,hLl with
 | [(o1,p1),(o2,p2)],_ =>
 have e1:p1=⟨[107],[50],false⟩:=by have h:=congrArg (fun l=>l[0]?) hL1; exact Option.some.inj h
 have e2:p2=⟨[108],[],true⟩:=by have h:=congrArg (fun l=>l[1]?) hL1; exact Option.some.inj h
 have q1:=hL4 (o1,p1) (by simp)
 have q2:=hL4 (o2,p2) (by simp)
 subst e1; subst e2
 refine If.yes ⟨v.call.ops,Cell.lst g5 rfl,?_⟩
 rw [lo2]
 refine If.yes ⟨v.call.ops,Cell.lst g5 rfl,?_⟩
 refine Ix.elem (f:=fun e:OpV×OpP=>e.1.cells) hL2 (opC_len _) (by decide) (by decide) (by omega) fun bb oo hi hb c1=>⟨o1.val,c1 1 _ rfl,strD q1.val.rd (eqStr (b:=[50]) (fun _=>⟨v.call.ops,Cell.lst g5 rfl,?_⟩) fun h=>absurd rfl h)⟩
 refine Ix.elem (f:=fun e:OpV×OpP=>e.1.cells) hL2 (opC_len _) (by decide) (by decide) (by omega) fun bb oo hi hb c1=>⟨o2.drop,c1 2 _ rfl,?_⟩
 have:o2.drop=true:=q2.drop
 rw [this]
 exact k w5 x05
theorem heavy_spec{s:Sl}{l:List EvP}{K:Bool->Wd->Prop}(r:EvsR Q w.heap s l)(bd:∀ e∈l,BndE e)(k:∀ b w',(b=false->l.length<=600)->Ext No w w'->K b w'):C_law29_heavy s w K:=by
 apply S_law29_heavy
 have hsl:=r.len
 refine ⟨fun n w'=>Ext No w w',?_,?_⟩
 .refine ⟨fun m n i w'=>∃ j:Nat,i=j/\j<=700/\m=700 - j/\Ext No w w',⟨_,0,rfl,by omega,rfl,Ext.refl _ _⟩,?_⟩
  rintro _ m0 n _ w1 ⟨j,rfl,hj,rfl,x1⟩
  refine ⟨fun w'=>w'=w1/\j < l.length/\j < 700,If.dec (fun h=>If.dec (fun h3=>⟨rfl,by omega,by omega⟩) fun _=>x1) fun _=>x1,?_⟩
  rintro _ w1 ⟨rfl,hjl,hj7⟩
  refine ixE (r.no x1) (by omega) (by omega) fun bb o v hi hr hc=>?_
  have el:l[((j:Nat):Int).toNat]'hi=l[j]:=rfl
  rw [el] at hr
  refine ⟨v.kind,hc 0 _ rfl,v.call.kind,hc 1 _ rfl,v.call.tenant,hc 2 _ rfl,v.call.secret,hc 3 _ rfl,v.call.quota,hc 4 _ rfl,v.call.n,hc 5 _ rfl,v.call.handle,hc 6 _ rfl,v.call.other,hc 7 _ rfl,v.call.snap,hc 8 _ rfl,v.call.rights,hc 9 _ rfl,v.call.ops,hc 10 _ rfl,v.call.key,hc 11 _ rfl,v.call.frm,hc 12 _ rfl,v.call.upto,hc 13 _ rfl,v.call.back,hc 14 _ rfl,v.n,hc 15 _ rfl,v.block,hc 16 _ rfl,v.masks,hc 17 _ rfl,v.bytes,hc 18 _ rfl,?_⟩
  exact size_spec hr (bd _ (List.getElem_mem hjl)) fun z w2 _ x2=>fun _ _=>Ar.i64 (by omega) ⟨_,by omega,j+1,by omega,by omega,rfl,x1.no x2⟩
 .intro _ n w4 x4
  refine If.dec (fun h=>k _ w4 (fun h=>by cases h) x4) fun h=>k _ w4 (fun _=>by omega) x4
end
end Go.Proofs.YtimonamjecmlcaaGreatDoor
namespace Go.V
open Go.Proofs.YtimonamjecmlcaaGreatDoor
def linB(L:List Bs):Bs:=L.flatMap fun x=>x++[10]
theorem linB_cons(x:Bs)(L:List Bs):linB (x::L)=x++10::linB L:=by simp [linB]
theorem linB_app(L M:List Bs):linB (L++M)=linB L++linB M:=by simp [linB]
theorem linB_split:∀{L:List Bs},(∀ x∈L,(10:UInt8) ∉ x)->splitB 10 (linB L)=L++[[]]
 | [],_=>rfl
 | x::L,h=>by rw [linB_cons,splitB_app (h x (by simp)),linB_split fun y hy=>h y (by simp [hy])]; rfl
theorem linesB_eq(l:List EvP):linesB l=linB (l.map lineE):=by simp [linesB,linB,List.flatMap_map]
def LnOK(x:Bs)(e:Option EvP):Prop:=(10:UInt8) ∉ x/\match e with
 | none=>x=[]∨x.head? = some 35
 | some e=>x=lineE e/\MayE e/\RngC e.call
theorem LnOK.ev{e:EvP}(h:MayE e)(r:RngC e.call):LnOK (lineE e) (some e):=⟨line_no10 h,rfl,h,r⟩
theorem parse_lines:∀(L:List (Bs×Option EvP))(n:Nat)(out:List EvP)(r:List Bs),(∀ p∈L,LnOK p.1 p.2)->out.length+(L.filterMap Prod.snd).length<=500 ->
  parseL n out (L.map Prod.fst++r)=parseL (n+L.length) (out++L.filterMap Prod.snd) r
 | [],n,out,r,_,_=>by simp
 | (x,none)::L,n,out,r,h,hl=>by
  have hx:x=[]∨x.head? = some 35:=(h _ List.mem_cons_self).2
  have hl':out.length+(L.filterMap Prod.snd).length<=500:=by simpa using hl
  have ih:=parse_lines L (n+1) out r (fun p hp=>h p (List.mem_cons_of_mem _ hp)) hl'
  have e1:((x,(none:Option EvP))::L).filterMap Prod.snd=L.filterMap Prod.snd:=by simp
  rw [List.map_cons,List.cons_append,parseL_skip hx,ih,e1,List.length_cons,Nat.add_assoc,Nat.add_comm 1]
 | (x,some e)::L,n,out,r,h,hl=>by
  obtain ⟨hx,may,rg⟩ : x=lineE e/\MayE e/\RngC e.call:=(h _ List.mem_cons_self).2
  have e1:((x,some e)::L).filterMap Prod.snd=e::L.filterMap Prod.snd:=by simp
  rw [e1,List.length_cons] at hl
  have ih:=parse_lines L (n+1) (out++[e]) r (fun p hp=>h p (List.mem_cons_of_mem _ hp)) (by rw [List.length_append,List.length_singleton]; omega)
  have hne:¬ (x=[]∨x.head? = some 35):=by
   obtain ⟨b,l,hb,h97⟩:=line_hd may
   rw [hx,hb]
   rintro (h | h)
   .cases h
   .simp only [List.head?_cons,Option.some.injEq] at h
    rw [h] at h97; exact absurd h97 (by decide)
  rw [List.map_cons,List.cons_append,parseL_more hne (by rw [hx]; exact unE_line may rg) (by omega),ih,e1,List.length_cons,Nat.add_assoc,Nat.add_comm 1,List.append_assoc]; rfl
theorem parseP_lines{L:List (Bs×Option EvP)}(h:∀ p∈L,LnOK p.1 p.2)(hl:(L.filterMap Prod.snd).length<=500)(hs:(linB (L.map Prod.fst)).length<=1048576):parseP (linB (L.map Prod.fst))=(L.filterMap Prod.snd,0,0):=by
 unfold parseP
 rw [if_neg (by omega),linB_split (by intro x hx; obtain ⟨p,hp,rfl⟩:=List.mem_map.1 hx; exact (h p hp).1),parse_lines L 0 [] [[]] h (by simpa using hl),parseL_skip (.inl rfl)]
 rfl
def wfrob:Bs:=[102,114,111,98]
theorem unE_frob:unE wfrob=none:=by
 have h:rdE (splitB 32 wfrob)=none:=rfl
 unfold unE; rw [h]
theorem parseP_frob{L:List (Bs×Option EvP)}(h:∀ p∈L,LnOK p.1 p.2)(hl:(L.filterMap Prod.snd).length<=500)(hs:(linB (L.map Prod.fst)).length<=1048000):parseP (linB (L.map Prod.fst)++(wfrob++[10]))=([],((L.length+1:Nat):Int),5):=by
 have e:linB (L.map Prod.fst)++(wfrob++[10])=linB (L.map Prod.fst++[wfrob]):=by rw [linB_app]; rfl
 have hn:∀ x∈L.map Prod.fst++[wfrob],(10:UInt8) ∉ x:=by
  intro x hx
  rcases List.mem_append.1 hx with hx | hx
  .obtain ⟨p,hp,rfl⟩:=List.mem_map.1 hx; exact (h p hp).1
  .rw [List.mem_singleton] at hx; rw [hx]; decide
 unfold parseP
 rw [if_neg (by rw [List.length_append]; have:(wfrob++[10]).length=5:=rfl; omega),e,linB_split hn,List.append_assoc,parse_lines L 0 [] _ h (by simpa using hl),List.singleton_append,parseL_bad (by decide) unE_frob,Nat.zero_add]
theorem parse_text{l:List EvP}(may:∀ e∈l,MayE e)(rg:∀ e∈l,RngC e.call)(hl:l.length<=500)(hs:(linesB l).length<=1048576):parseP (linesB l)=(l,0,0):=by
 have e1:(l.map fun e=>(lineE e,some e)).map Prod.fst=l.map lineE:=by rw [List.map_map]; rfl
 have e2:(l.map fun e=>(lineE e,some e)).filterMap Prod.snd=l:=by rw [List.filterMap_map]; exact List.filterMap_some
 have:=parseP_lines (L:=l.map fun e=>(lineE e,some e)) (by intro p hp; obtain ⟨e,he,rfl⟩:=List.mem_map.1 hp; exact .ev (may e he) (rg e he)) (by rw [e2]; exact hl) (by rw [e1,<- linesB_eq]; exact hs)
 rw [e1,e2,<- linesB_eq] at this
 exact this
def bndF:FId->Nat
 | .ops=>330000
 | _=>3001
theorem catF_len{c:CallP}(h:LimC c)(f:FId):(catW (telF f c)).length<=bndF f:=by
 have one:∀{x:Bs},telF f c=[x]->(catW (telF f c)).length<=3001:=fun {x} e=>by
  have:=telF_sm h f x (by rw [e]; simp)
  rw [e]; simp [catW]; omega
 cases f with
 | ops =>
  have:=catOps_len h c.ops.length
  rw [List.take_length] at this
  exact this
 | _=>exact one rfl
theorem catFs_len{c:CallP}(h:LimC c):∀ fs:List FId,(catW (telFs fs c)).length<=(fs.map bndF).sum
 | []=>by simp [catW,telFs]
 | f::fs=>by
  have:=catFs_len h fs
  have:=catF_len h f
  rw [telFs,List.flatMap_cons,catW_app,List.length_append,List.map_cons,List.sum_cons]
  exact Nat.add_le_add ‹_› ‹_›
theorem form_bnd:∀ k g,formP k=some g->(g.2.map bndF).sum<=340000/\g.1.length<=20:=by
 intro k g h
 match k,h with
 | 1,h | 2,h | 3,h | 4,h | 5,h | 6,h | 7,h | 8,h | 9,h | 10,h | 11,h | 12,h | 13,h | 14,h | 15,h | 16,h=>cases h; decide
 | 0,h=>cases h
 | n+17,h=>cases h
theorem line_len2{e:EvP}(h:MayE e)(rg:RngC e.call):(lineE e).length<=400000:=by
 by_cases h1:e.kind=1
 .obtain ⟨hn,hm,⟨hb',hy⟩,g,hg,lb,hc⟩:=(mayE_1 h1).1 h
  obtain ⟨k,ek,hf⟩:=formI_nat hg
  have h2:=form_bnd k g hf
  have h3:=catFs_len (lb.lim rg) g.2
  unfold lineE
  rw [wordsE_1 h1 hg,joinB_cat,List.length_append]
  omega
 .have h2:=(words_sm h rg).2
  have h3:(wordsE e).length<=4:=by
   rcases h with h | h | h | h | h
   .exact (h1 h.1).elim
   .rcases h.1 with hk | hk
    .rw [wordsE_2 hk]; simp
    .rw [wordsE_3 hk]; simp
   .rw [wordsE_4 h.1]; simp
   .rw [wordsE_5 h.1]; simp
   .rw [wordsE_6 h.1]; simp
  obtain ⟨x,W,hw,_⟩:=words_hd h
  have h4:=joinB_len 32 (W:=wordsE e) (by rw [hw]; simp)
  have h5:=lenW_le h2
  have h6:(wordsE e).length * 3000<=4 * 3000:=Nat.mul_le_mul_right _ h3
  unfold lineE; omega
end Go.V
namespace Go.Proofs.YtimonamjecmlcaaGreatDoor
open Go.V
section
variable {w:Wd} {Q:Nat->Prop}
theorem unlines_spec{l:Bs}{K:Bool->Wd->Prop}(g:Gl w.heap)(h8:8<=w.heap.size)(k:∀ w',Ext No w w'->K true w'):C_law29_PlayUnlines (stB l) w K:=by
 apply S_law29_PlayUnlines
 have kn:∀{w'},Ext No w w'->C_law29_known w' K:=fun x=>known_spec (g.no x) (by have:=x.size; omega) fun w2 x2=>k w2 (x.no x2)
 refine If.dec (fun _=>kn (Ext.refl _ _)) fun h=>?_
 rw [stB_size] at h
 refine unline_any g h8 (by omega) fun v n w2 hv x2=>NewW.mk fun b w3 n3=>⟨rfl,StN.all n3.get rfl v.one fun w4 g4 x4 _=>?_⟩
 have x4':Ext (·=b) w3 w4:=x4
 have x24:Ext No w2 w4:=n3.ext.trans x4' fun q hq h=>by have:=n3.at_; omega
 have x04:=x2.no x24
 refine runline_any (by omega) fun u m w5 hu x5=>NewW.mk fun b1 w6 n6=>⟨rfl,StN.all n6.get rfl u.one fun w7 g7 x7 _=>?_⟩
 have x7':Ext (·=b1) w6 w7:=x7
 have x57:Ext No w5 w7:=n6.ext.trans x7' fun q hq h=>by have:=n6.at_; omega
 have x47:=x5.no x57
 have g47:=get_no g4 x47
 have x07:=x04.no x47
 have same:∃ a c:EvP,EvR (fun _=>True) w7.heap v a/\EvR (fun _=>True) w7.heap u c/\a=c/\a.call.ops.length<=1000000000000000000/\n=m:=by
  rcases hv with ⟨rfl,e,h1,r1,_⟩ | ⟨rfl,rfl,h1⟩ <;> rcases hu with ⟨rfl,e',h2,r2,_⟩ | ⟨rfl,rfl,h2⟩
  .rw [h1] at h2; cases h2
   refine ⟨e,e,(r1.no (x24.no x47)).mono fun _ _=>trivial,(r2.no x57).mono fun _ _=>trivial,rfl,?_,rfl⟩
   obtain ⟨h3,_,h4⟩:=unE_some h1
   have h5:=rdE_len h4
   have h6:=split_sm (c:=32) (l:=l) (by omega)
   have:=h6.1; omega
  .rw [h1] at h2; cases h2
  .rw [h1] at h2; cases h2
  .exact ⟨evP0 0,evP0 0,EvR.zero _ _,EvR.zero _ _,rfl,Nat.zero_le _,rfl⟩
 obtain ⟨a,c,ra,rc,hac,hops,hnm⟩:=same
 subst hnm
 refine If.beq (fun _=>?_) fun h=>absurd rfl h
 refine ⟨v.kind,Cell.lst g47 rfl,v.call.kind,Cell.lst g47 rfl,v.call.tenant,Cell.lst g47 rfl,v.call.secret,Cell.lst g47 rfl,v.call.quota,Cell.lst g47 rfl,v.call.n,Cell.lst g47 rfl,v.call.handle,Cell.lst g47 rfl,v.call.other,Cell.lst g47 rfl,v.call.snap,Cell.lst g47 rfl,v.call.rights,Cell.lst g47 rfl,v.call.ops,Cell.lst g47 rfl,v.call.key,Cell.lst g47 rfl,v.call.frm,Cell.lst g47 rfl,v.call.upto,Cell.lst g47 rfl,v.call.back,Cell.lst g47 rfl,v.n,Cell.lst g47 rfl,v.block,Cell.lst g47 rfl,v.masks,Cell.lst g47 rfl,v.bytes,Cell.lst g47 rfl,?_⟩
 refine ⟨u.kind,Cell.lst g7 rfl,u.call.kind,Cell.lst g7 rfl,u.call.tenant,Cell.lst g7 rfl,u.call.secret,Cell.lst g7 rfl,u.call.quota,Cell.lst g7 rfl,u.call.n,Cell.lst g7 rfl,u.call.handle,Cell.lst g7 rfl,u.call.other,Cell.lst g7 rfl,u.call.snap,Cell.lst g7 rfl,u.call.rights,Cell.lst g7 rfl,u.call.ops,Cell.lst g7 rfl,u.call.key,Cell.lst g7 rfl,u.call.frm,Cell.lst g7 rfl,u.call.upto,Cell.lst g7 rfl,u.call.back,Cell.lst g7 rfl,u.n,Cell.lst g7 rfl,u.block,Cell.lst g7 rfl,u.masks,Cell.lst g7 rfl,u.bytes,Cell.lst g7 rfl,?_⟩
 exact rSame_spec ra rc hops fun r w8 hr x8=>If.cases (fun _=>kn (x07.no x8)) fun t=>by rw [hr.2 hac] at t; cases t
end
end Go.Proofs.YtimonamjecmlcaaGreatDoor
namespace Go.V
end Go.V
namespace Go.Proofs.YtimonamjecmlcaaGreatDoor
open Go.V
section
variable {w:Wd} {Q:Nat->Prop}
theorem heldE{w:Wd}{b j:Nat}{x:Value}{cs:List Value}{T:TypeId}{fz:Nat×Nat}(g:w.heap[b]? = some (.cells cs.toArray T fz))(h:cs[j]? = some x):Held (Ext No w) ((Addr.mk b 0 none).add j) x:=by
 rw [addr_add_none rfl,Nat.zero_add]; exact Held.cell (Cell.lst g h)
theorem held0{w:Wd}{b:Nat}{x:Value}{cs:List Value}{T:TypeId}{fz:Nat×Nat}(g:w.heap[b]? = some (.cells cs.toArray T fz))(h:cs[0]? = some x):Held (Ext No w) (Addr.mk b 0 none) x:=Held.cell (Cell.lst g h)
set_option maxHeartbeats 2000000 in
theorem rcopy_spec{v:EvV}{e:EvP}{K:KEv}(r:EvR Q w.heap v e)(sm:SmE e)(k:∀ u w',EvR (w.heap.size<=·) w'.heap u e->Ext No w w'->K.at u w'):C_ref29_Copy v.kind v.call.kind v.call.tenant v.call.secret v.call.quota v.call.n v.call.handle v.call.other v.call.snap v.call.rights v.call.ops v.call.key v.call.frm v.call.upto v.call.back v.n v.block v.masks v.bytes w K:=by
 apply S_ref29_Copy
 refine NewW.mk fun b w1 n1=>NewW.mk fun b1 w2 n2=>?_
 have hb:=n1.at_; have z1:=n1.size; have hb1:=n2.at_; have z2:=n2.size
 have gb2:w2.heap[b]? = some (.cells v.cells.toArray 32 (0,0)):=get_no n1.get n2.ext
 refine ⟨v.kind,Cell.lst gb2 rfl,v.call.kind,Cell.lst gb2 rfl,v.call.tenant,Cell.lst gb2 rfl,v.call.secret,Cell.lst gb2 rfl,v.call.quota,Cell.lst gb2 rfl,v.call.n,Cell.lst gb2 rfl,v.call.handle,Cell.lst gb2 rfl,v.call.other,Cell.lst gb2 rfl,v.call.snap,Cell.lst gb2 rfl,v.call.rights,Cell.lst gb2 rfl,v.call.ops,Cell.lst gb2 rfl,v.call.key,Cell.lst gb2 rfl,v.call.frm,Cell.lst gb2 rfl,v.call.upto,Cell.lst gb2 rfl,v.call.back,Cell.lst gb2 rfl,v.n,Cell.lst gb2 rfl,v.block,Cell.lst gb2 rfl,v.masks,Cell.lst gb2 rfl,v.bytes,Cell.lst gb2 rfl,NewW.mk fun b2 w3 n3=>⟨rfl,StN.all n3.get rfl v.one fun w4 g4 x4 _=>?_⟩⟩
 have hb2:=n3.at_; have z3:=n3.size
 have x4':Ext (·=b2) w3 w4:=x4
 have z4:=x4'.size
 have ne:b≠b2:=by omega
 have x02:=n1.ext.no n2.ext
 have x04:Ext No w w4:=(x02.no n3.ext).trans x4' fun q hq h=>by omega
 have gb4:w4.heap[b]? = some (.cells v.cells.toArray 32 (0,0)):=get_ext (get_no gb2 n3.ext) x4' (by omega)
 have gb14:w4.heap[b1]? = some (.cells evV0.cells.toArray 32 (0,0)):=get_ext (get_no n2.get n3.ext) x4' (by omega)
 refine ⟨v.call.kind,Cell.lst gb4 rfl,v.call.tenant,Cell.lst gb4 rfl,v.call.secret,Cell.lst gb4 rfl,v.call.quota,Cell.lst gb4 rfl,v.call.n,Cell.lst gb4 rfl,v.call.handle,Cell.lst gb4 rfl,v.call.other,Cell.lst gb4 rfl,v.call.snap,Cell.lst gb4 rfl,v.call.rights,Cell.lst gb4 rfl,v.call.ops,Cell.lst gb4 rfl,v.call.key,Cell.lst gb4 rfl,v.call.frm,Cell.lst gb4 rfl,v.call.upto,Cell.lst gb4 rfl,v.call.back,Cell.lst gb4 rfl,?_⟩
 refine rcopyCall_spec (r.no x04).call sm.1 fun u w5 ru x5=>⟨rfl,?_⟩
 have z5:=x5.size
 have g5:=get_no g4 x5
 rw [addr_add_none rfl,Nat.zero_add]
 refine StN.mk (o:=1) g5 (by simp) u.one fun w6 h6=>?_
 have x6:Ext (·=b2) w5 w6:=h6.ext
 have z6:=x6.size
 have g6:w6.heap[b2]? = some (.cells ({ v with call:=u }:EvV).cells.toArray 32 (0,0)):=h6.get g5
 have x46:Ext (·=b2) w4 w6:=(x5.of_no (S:=(·=b2))).trans x6 fun _ _ h=>h
 refine NewW.mk fun b3 w7 n7=>⟨v.masks,by rw [addr_add_none rfl,Nat.zero_add]; exact Cell.lst (get_no (get_ext gb4 x46 ne) n7.ext) rfl,lit_spec n7 ((r.no (x04.trans x46 fun q hq h=>by omega)).masks.rd.no n7.ext) sm.2.1 fun s8 w8 o8 x8=>?_⟩
 have z8:=x8.size
 have g8:=get_no g6 x8
 rw [addr_add_none rfl,Nat.zero_add]
 refine St1.mk g8 (by simp [EvV.cells,CallV.cells]) rfl fun w9 h9=>?_
 have x9:Ext (·=b2) w8 w9:=h9.ext
 have z9:=x9.size
 have g9:w9.heap[b2]? = some (.cells ({ v with call:=u,masks:=s8 }:EvV).cells.toArray 32 (0,0)):=h9.get g8
 have x69:Ext (·=b2) w6 w9:=(x8.of_no (S:=(·=b2))).trans x9 fun _ _ h=>h
 have x49:Ext (·=b2) w4 w9:=x46.trans x69 fun _ _ h=>h
 refine NewW.mk fun b4 w10 n10=>⟨v.bytes,by rw [addr_add_none rfl,Nat.zero_add]; exact Cell.lst (get_no (get_ext gb4 x49 ne) n10.ext) rfl,lit_spec n10 ((r.no (x04.trans x49 fun q hq h=>by omega)).bytes.rd.no n10.ext) sm.2.2 fun s11 w11 o11 x11=>?_⟩
 have z11:=x11.size
 have g11:=get_no g9 x11
 rw [addr_add_none rfl,Nat.zero_add]
 refine St1.mk g11 (by simp [EvV.cells,CallV.cells]) rfl fun w12 h12=>?_
 have x12:Ext (·=b2) w11 w12:=h12.ext
 have z12:=x12.size
 let t:EvV:={ v with call:=u,masks:=s8,bytes:=s11 }
 have g12:w12.heap[b2]? = some (.cells t.cells.toArray 32 (0,0)):=h12.get g11
 have x912:Ext (·=b2) w9 w12:=(x11.of_no (S:=(·=b2))).trans x12 fun _ _ h=>h
 have x412:Ext (·=b2) w4 w12:=x49.trans x912 fun _ _ h=>h
 have gb12:=get_ext gb14 x412 (by omega)
 refine ⟨t.kind,Cell.lst g12 rfl,t.call.kind,Cell.lst g12 rfl,t.call.tenant,Cell.lst g12 rfl,t.call.secret,Cell.lst g12 rfl,t.call.quota,Cell.lst g12 rfl,t.call.n,Cell.lst g12 rfl,t.call.handle,Cell.lst g12 rfl,t.call.other,Cell.lst g12 rfl,t.call.snap,Cell.lst g12 rfl,t.call.rights,Cell.lst g12 rfl,t.call.ops,Cell.lst g12 rfl,t.call.key,Cell.lst g12 rfl,t.call.frm,Cell.lst g12 rfl,t.call.upto,Cell.lst g12 rfl,t.call.back,Cell.lst g12 rfl,t.n,Cell.lst g12 rfl,t.block,Cell.lst g12 rfl,t.masks,Cell.lst g12 rfl,t.bytes,Cell.lst g12 rfl,rfl,StN.all gb12 rfl t.one fun w13 g13 x13 _=>?_⟩
 have x13':Ext (·=b1) w12 w13:=x13
 have xx:Ext (fun q=>q=b2∨q=b1) w5 w13:=((x6.mono fun _ _ h => .inl h).trans (x69.trans x912 fun _ _ h=>h) fun _ _ h => .inl h).trans x13' fun _ _ h => .inr h
 have x813:Ext (fun q=>q=b2∨q=b1) w8 w13:=((x9.mono fun _ _ h => .inl h).trans x912 fun _ _ h => .inl h).trans x13' fun _ _ h => .inr h
 have x1113:Ext (fun q=>q=b2∨q=b1) w11 w13:=(x12.mono fun _ _ h => .inl h).trans x13' fun _ _ h => .inr h
 have rt:EvR (w4.heap.size<=·) w13.heap t e:=⟨r.kind,ru.ext xx fun q hq h=>by omega,r.n,r.block,
  .own (o8.ext x813 fun q hq h=>by have:=(o8.lt hq).1; omega) fun q h _=>by have h1:w6.heap.size<=q:=h; have:=x46.size; omega,
  .own (o11.ext x1113 fun q hq h=>by have:=(o11.lt hq).1; omega) fun q h _=>by have h1:w9.heap.size<=q:=h; have:=x49.size; omega⟩
 refine ⟨t.kind,Cell.lst g13 rfl,t.call.kind,Cell.lst g13 rfl,t.call.tenant,Cell.lst g13 rfl,t.call.secret,Cell.lst g13 rfl,t.call.quota,Cell.lst g13 rfl,t.call.n,Cell.lst g13 rfl,t.call.handle,Cell.lst g13 rfl,t.call.other,Cell.lst g13 rfl,t.call.snap,Cell.lst g13 rfl,t.call.rights,Cell.lst g13 rfl,t.call.ops,Cell.lst g13 rfl,t.call.key,Cell.lst g13 rfl,t.call.frm,Cell.lst g13 rfl,t.call.upto,Cell.lst g13 rfl,t.call.back,Cell.lst g13 rfl,t.n,Cell.lst g13 rfl,t.block,Cell.lst g13 rfl,t.masks,Cell.lst g13 rfl,t.bytes,Cell.lst g13 rfl,k t w13 (rt.mono fun q hq=>by have h1:w4.heap.size<=q:=hq; omega) ?_⟩
 exact (x04.trans x412 fun q hq h=>by omega).trans x13' fun q hq h=>by omega
theorem line_any{v:EvV}{e:EvP}{K:ByteArray->Int->Wd->Prop}(g:Gl w.heap)(h8:8<=w.heap.size)(r:EvR Q w.heap v e)(rg:RngC e.call)(hl:e.call.ops.length<=1000000000000000000)
  (k:∀ s n w',((MayE e/\s=stB (lineE e)/\n=0)∨(¬ MayE e/\s=stB []/\n=2))->Ext No w w'->K s n w'):C_play_Line v.kind v.call.kind v.call.tenant v.call.secret v.call.quota v.call.n v.call.handle v.call.other v.call.snap v.call.rights v.call.ops v.call.key v.call.frm v.call.upto v.call.back v.n v.block v.masks v.bytes w K :=
 line_spec g h8 r rg hl (fun w' m x=>k _ _ w' (.inl ⟨m,rfl,rfl⟩) x) fun w' m x=>k _ _ w' (.inr ⟨m,rfl,rfl⟩) x
set_option maxHeartbeats 2000000 in
theorem lines_spec{v:EvV}{e:EvP}{K:Bool->Wd->Prop}(g:Gl w.heap)(h8:8<=w.heap.size)(r:EvR Q w.heap v e)(rg:RngC e.call)(bd:BndE e)(k:∀ w',Ext No w w'->K true w'):C_law29_PlayLines v.kind v.call.kind v.call.tenant v.call.secret v.call.quota v.call.n v.call.handle v.call.other v.call.snap v.call.rights v.call.ops v.call.key v.call.frm v.call.upto v.call.back v.n v.block v.masks v.bytes w K:=by
 apply S_law29_PlayLines
 have kn:∀{w'},Ext No w w'->C_law29_known w' K:=fun x=>known_spec (g.no x) (by have:=x.size; omega) fun w2 x2=>k w2 (x.no x2)
 refine NewW.mk fun b w1 n1=>⟨v.kind,Cell.lst n1.get rfl,v.call.kind,Cell.lst n1.get rfl,v.call.tenant,Cell.lst n1.get rfl,v.call.secret,Cell.lst n1.get rfl,v.call.quota,Cell.lst n1.get rfl,v.call.n,Cell.lst n1.get rfl,v.call.handle,Cell.lst n1.get rfl,v.call.other,Cell.lst n1.get rfl,v.call.snap,Cell.lst n1.get rfl,v.call.rights,Cell.lst n1.get rfl,v.call.ops,Cell.lst n1.get rfl,v.call.key,Cell.lst n1.get rfl,v.call.frm,Cell.lst n1.get rfl,v.call.upto,Cell.lst n1.get rfl,v.call.back,Cell.lst n1.get rfl,v.n,Cell.lst n1.get rfl,v.block,Cell.lst n1.get rfl,v.masks,Cell.lst n1.get rfl,v.bytes,Cell.lst n1.get rfl,size_spec (r.no n1.ext) bd fun z w2 hz x2=>If.dec (fun _=>kn (n1.ext.no x2)) fun h=>?_⟩
 have sm:SmE e:=hz (by omega)
 have hops:e.call.ops.length<=1000000000000000000:=by have:=sm.1.2.2.2.2.1; omega
 have x02:=n1.ext.no x2
 have g2:w2.heap[b]? = some (.cells v.cells.toArray 32 (0,0)):=get_no n1.get x2
 refine ⟨v.kind,Cell.lst g2 rfl,v.call.kind,Cell.lst g2 rfl,v.call.tenant,Cell.lst g2 rfl,v.call.secret,Cell.lst g2 rfl,v.call.quota,Cell.lst g2 rfl,v.call.n,Cell.lst g2 rfl,v.call.handle,Cell.lst g2 rfl,v.call.other,Cell.lst g2 rfl,v.call.snap,Cell.lst g2 rfl,v.call.rights,Cell.lst g2 rfl,v.call.ops,Cell.lst g2 rfl,v.call.key,Cell.lst g2 rfl,v.call.frm,Cell.lst g2 rfl,v.call.upto,Cell.lst g2 rfl,v.call.back,Cell.lst g2 rfl,v.n,Cell.lst g2 rfl,v.block,Cell.lst g2 rfl,v.masks,Cell.lst g2 rfl,v.bytes,Cell.lst g2 rfl,rcopy_spec (r.no x02) sm fun u w4 ru x4=>NewW.mk fun b1 w5 n5=>⟨rfl,StN.all n5.get rfl u.one fun w6 g6 x6 _=>?_⟩⟩
 have x6':Ext (·=b1) w5 w6:=x6
 have x46:Ext No w4 w6:=n5.ext.trans x6' fun q hq h=>by have:=n5.at_; omega
 have x06:=(x02.no x4).no x46
 have r6:=ru.no x46
 refine ⟨u.kind,Cell.lst g6 rfl,u.call.kind,Cell.lst g6 rfl,u.call.tenant,Cell.lst g6 rfl,u.call.secret,Cell.lst g6 rfl,u.call.quota,Cell.lst g6 rfl,u.call.n,Cell.lst g6 rfl,u.call.handle,Cell.lst g6 rfl,u.call.other,Cell.lst g6 rfl,u.call.snap,Cell.lst g6 rfl,u.call.rights,Cell.lst g6 rfl,u.call.ops,Cell.lst g6 rfl,u.call.key,Cell.lst g6 rfl,u.call.frm,Cell.lst g6 rfl,u.call.upto,Cell.lst g6 rfl,u.call.back,Cell.lst g6 rfl,u.n,Cell.lst g6 rfl,u.block,Cell.lst g6 rfl,u.masks,Cell.lst g6 rfl,u.bytes,Cell.lst g6 rfl,line_any (g.no x06) (by have:=x06.size; omega) r6 rg hops fun s n w7 hs x7=>?_⟩
 have x07:=x06.no x7
 have z07:=x07.size
 have gb7:w7.heap[b]? = some (.cells v.cells.toArray 32 (0,0)):=get_no (get_no (get_no g2 x4) x46) x7
 have gu7:=get_no g6 x7
 have ru7:=r6.no x7
 have rv7:=r.no x07
 refine ⟨fun w'=>Ext No w7 w',⟨Ext No w7,(Ext.refl _ _).drew,u.kind,held0 gu7 rfl,u.call.kind,heldE gu7 rfl,u.call.tenant,heldE gu7 rfl,u.call.secret,heldE gu7 rfl,u.call.quota,heldE gu7 rfl,u.call.n,heldE gu7 rfl,u.call.handle,heldE gu7 rfl,u.call.other,heldE gu7 rfl,u.call.snap,heldE gu7 rfl,u.call.rights,heldE gu7 rfl,u.call.ops,heldE gu7 rfl,u.call.key,heldE gu7 rfl,u.call.frm,heldE gu7 rfl,u.call.upto,heldE gu7 rfl,u.call.back,heldE gu7 rfl,u.n,heldE gu7 rfl,u.block,heldE gu7 rfl,u.masks,heldE gu7 rfl,u.bytes,heldE gu7 rfl,v.kind,held0 gb7 rfl,v.call.kind,heldE gb7 rfl,v.call.tenant,heldE gb7 rfl,v.call.secret,heldE gb7 rfl,v.call.quota,heldE gb7 rfl,v.call.n,heldE gb7 rfl,v.call.handle,heldE gb7 rfl,v.call.other,heldE gb7 rfl,v.call.snap,heldE gb7 rfl,v.call.rights,heldE gb7 rfl,v.call.ops,heldE gb7 rfl,v.call.key,heldE gb7 rfl,v.call.frm,heldE gb7 rfl,v.call.upto,heldE gb7 rfl,v.call.back,heldE gb7 rfl,v.n,heldE gb7 rfl,v.block,heldE gb7 rfl,v.masks,heldE gb7 rfl,v.bytes,heldE gb7 rfl,?_⟩,?_⟩
 .refine may_spec (w:=drewW w7) (g.no x07.drew) (by show 8<=w7.heap.size; omega) (ru7.no (Ext.refl _ _).drew) rg hops fun p w8 hp x8=>⟨x8.drew_left,rMay_spec (rv7.no x8.drew_left) hops fun q w9 hq x9=>⟨x8.drew_left.no x9,?_⟩⟩
  have x79:=x8.drew_left.no x9
  have hpq:p=q:=Bool.eq_iff_iff.2 (hp.trans hq.symm)
  subst hpq
  refine If.not (If.cases (fun _=>⟨u.kind,held0 gu7 rfl,u.call.kind,heldE gu7 rfl,u.call.tenant,heldE gu7 rfl,u.call.secret,heldE gu7 rfl,u.call.quota,heldE gu7 rfl,u.call.n,heldE gu7 rfl,u.call.handle,heldE gu7 rfl,u.call.other,heldE gu7 rfl,u.call.snap,heldE gu7 rfl,u.call.rights,heldE gu7 rfl,u.call.ops,heldE gu7 rfl,u.call.key,heldE gu7 rfl,u.call.frm,heldE gu7 rfl,u.call.upto,heldE gu7 rfl,u.call.back,heldE gu7 rfl,u.n,heldE gu7 rfl,u.block,heldE gu7 rfl,u.masks,heldE gu7 rfl,u.bytes,heldE gu7 rfl,v.kind,held0 gb7 rfl,v.call.kind,heldE gb7 rfl,v.call.tenant,heldE gb7 rfl,v.call.secret,heldE gb7 rfl,v.call.quota,heldE gb7 rfl,v.call.n,heldE gb7 rfl,v.call.handle,heldE gb7 rfl,v.call.other,heldE gb7 rfl,v.call.snap,heldE gb7 rfl,v.call.rights,heldE gb7 rfl,v.call.ops,heldE gb7 rfl,v.call.key,heldE gb7 rfl,v.call.frm,heldE gb7 rfl,v.call.upto,heldE gb7 rfl,v.call.back,heldE gb7 rfl,v.n,heldE gb7 rfl,v.block,heldE gb7 rfl,v.masks,heldE gb7 rfl,v.bytes,heldE gb7 rfl,rSame_spec (ru7.no x79) (rv7.no x79) hops fun r w10 hr x10=>⟨x79.no x10,If.not (If.cases (fun _=>x79.no x10) fun t=>by rw [hr.2 rfl] at t; cases t)⟩⟩) fun t=>by simp at t)
 intro _ w11 x11
 have gb11:=get_no gb7 x11
 have x011:=x07.no x11
 refine ⟨v.kind,Cell.lst gb11 rfl,v.call.kind,Cell.lst gb11 rfl,v.call.tenant,Cell.lst gb11 rfl,v.call.secret,Cell.lst gb11 rfl,v.call.quota,Cell.lst gb11 rfl,v.call.n,Cell.lst gb11 rfl,v.call.handle,Cell.lst gb11 rfl,v.call.other,Cell.lst gb11 rfl,v.call.snap,Cell.lst gb11 rfl,v.call.rights,Cell.lst gb11 rfl,v.call.ops,Cell.lst gb11 rfl,v.call.key,Cell.lst gb11 rfl,v.call.frm,Cell.lst gb11 rfl,v.call.upto,Cell.lst gb11 rfl,v.call.back,Cell.lst gb11 rfl,v.n,Cell.lst gb11 rfl,v.block,Cell.lst gb11 rfl,v.masks,Cell.lst gb11 rfl,v.bytes,Cell.lst gb11 rfl,rMay_spec (rv7.no x11) hops fun q w12 hq x12=>If.not (If.cases (fun t=>?_) fun t=>?_)⟩
 .obtain ⟨may,rfl,rfl⟩ : MayE e/\s=stB (lineE e)/\n=0:=by
   rcases hs with h | ⟨h,_⟩
   .exact h
   .exact (h (hq.1 t)).elim
  have x012:=x011.no x12
  refine unline_spec (g.no x012) (by have:=x012.size; omega) (by have:=line_len2 may rg; omega) (fun y e' w14 hu ry _ x14=>?_) fun w14 hu _=>by rw [unE_line may rg] at hu; cases hu
  rw [unE_line may rg] at hu
  cases hu
  refine NewW.mk fun b2 w15 n15=>⟨rfl,StN.all n15.get rfl y.one fun w16 g16 x16 _=>?_⟩
  have x16':Ext (·=b2) w15 w16:=x16
  have x146:Ext No w14 w16:=n15.ext.trans x16' fun q hq h=>by have:=n15.at_; omega
  have x016:=(x012.no x14).no x146
  have gb16:=get_no (get_no (get_no gb11 x12) x14) x146
  refine If.beq (fun _=>If.beq (fun _=>?_) fun h=>absurd rfl h) fun h=>absurd rfl h
  refine ⟨v.kind,Cell.lst gb16 rfl,v.call.kind,Cell.lst gb16 rfl,v.call.tenant,Cell.lst gb16 rfl,v.call.secret,Cell.lst gb16 rfl,v.call.quota,Cell.lst gb16 rfl,v.call.n,Cell.lst gb16 rfl,v.call.handle,Cell.lst gb16 rfl,v.call.other,Cell.lst gb16 rfl,v.call.snap,Cell.lst gb16 rfl,v.call.rights,Cell.lst gb16 rfl,v.call.ops,Cell.lst gb16 rfl,v.call.key,Cell.lst gb16 rfl,v.call.frm,Cell.lst gb16 rfl,v.call.upto,Cell.lst gb16 rfl,v.call.back,Cell.lst gb16 rfl,v.n,Cell.lst gb16 rfl,v.block,Cell.lst gb16 rfl,v.masks,Cell.lst gb16 rfl,v.bytes,Cell.lst gb16 rfl,rLine_spec (r.no x016) may rg fun w17 x17=>eqStr (fun _=>?_) fun h=>absurd rfl h⟩
  have gb17:=get_no gb16 x17
  have gy17:=get_no g16 x17
  exact ⟨v.kind,Cell.lst gb17 rfl,v.call.kind,Cell.lst gb17 rfl,v.call.tenant,Cell.lst gb17 rfl,v.call.secret,Cell.lst gb17 rfl,v.call.quota,Cell.lst gb17 rfl,v.call.n,Cell.lst gb17 rfl,v.call.handle,Cell.lst gb17 rfl,v.call.other,Cell.lst gb17 rfl,v.call.snap,Cell.lst gb17 rfl,v.call.rights,Cell.lst gb17 rfl,v.call.ops,Cell.lst gb17 rfl,v.call.key,Cell.lst gb17 rfl,v.call.frm,Cell.lst gb17 rfl,v.call.upto,Cell.lst gb17 rfl,v.call.back,Cell.lst gb17 rfl,v.n,Cell.lst gb17 rfl,v.block,Cell.lst gb17 rfl,v.masks,Cell.lst gb17 rfl,v.bytes,Cell.lst gb17 rfl,y.kind,Cell.lst gy17 rfl,y.call.kind,Cell.lst gy17 rfl,y.call.tenant,Cell.lst gy17 rfl,y.call.secret,Cell.lst gy17 rfl,y.call.quota,Cell.lst gy17 rfl,y.call.n,Cell.lst gy17 rfl,y.call.handle,Cell.lst gy17 rfl,y.call.other,Cell.lst gy17 rfl,y.call.snap,Cell.lst gy17 rfl,y.call.rights,Cell.lst gy17 rfl,y.call.ops,Cell.lst gy17 rfl,y.call.key,Cell.lst gy17 rfl,y.call.frm,Cell.lst gy17 rfl,y.call.upto,Cell.lst gy17 rfl,y.call.back,Cell.lst gy17 rfl,y.n,Cell.lst gy17 rfl,y.block,Cell.lst gy17 rfl,y.masks,Cell.lst gy17 rfl,y.bytes,Cell.lst gy17 rfl,rSame_spec (r.no (x016.no x17)) (ry.no (x146.no x17)) hops fun r w18 hr x18=>If.cases (fun _=>kn ((x016.no x17).no x18)) fun t=>by rw [hr.2 rfl] at t; cases t⟩
 .obtain ⟨rfl,rfl⟩ : s=stB []/\n=2:=by
   rcases hs with ⟨h,_⟩ | ⟨_,h⟩
   .rw [hq.2 h] at t; cases t
   .exact h
  exact If.beq (fun _=>eqStr (a:=[]) (b:=[]) (fun _=>kn (x011.no x12)) fun h=>absurd rfl h) fun h=>absurd rfl h
end
end Go.Proofs.YtimonamjecmlcaaGreatDoor
namespace Go.V
theorem parseL_ops:∀(L:List Bs)(n:Nat)(out:List EvP),(∀ y∈L,y.length<=2000000)->(∀ e∈out,e.call.ops.length<=1000000000000000000)->∀ e∈(parseL n out L).1,e.call.ops.length<=1000000000000000000
 | [],n,out,_,h=>by unfold parseL; exact h
 | s::r,n,out,hL,h=>by
  unfold parseL
  split
  .exact parseL_ops r (n+1) out (fun y hy=>hL y (List.mem_cons_of_mem _ hy)) h
  .split
   .simp
   .rename_i e he
    split
    .simp
    .refine parseL_ops r (n+1) (out++[e]) (fun y hy=>hL y (List.mem_cons_of_mem _ hy)) fun e' he'=>?_
     rcases List.mem_append.1 he' with h1 | h1
     .exact h e' h1
     .rw [List.mem_singleton] at h1
      subst h1
      obtain ⟨_,_,h2⟩:=unE_some he
      have h3:=rdE_len h2
      have h4:=splitB_len 32 s
      have h5:=hL s List.mem_cons_self
      have h6:=List.count_le_length (a:=(32:UInt8)) (l:=s)
      omega
theorem parseP_ops{l:Bs}(hl:l.length<=2000000):∀ e∈(parseP l).1,e.call.ops.length<=1000000000000000000:=by
 unfold parseP
 split
 .simp
 .exact parseL_ops _ _ _ (fun y hy=>Nat.le_trans (split_len hy) hl) (by simp)
theorem parseL_len:∀(L:List Bs)(n:Nat)(out:List EvP),out.length<=500->(parseL n out L).1.length<=500
 | [],n,out,h=>by unfold parseL; exact h
 | s::r,n,out,h=>by
  unfold parseL
  split
  .exact parseL_len r (n+1) out h
  .split
   .simp
   .split
    .simp
    .exact parseL_len r (n+1) _ (by rw [List.length_append,List.length_singleton]; omega)
theorem parseP_len(l:Bs):(parseP l).1.length<=1000000000000:=by
 unfold parseP
 split
 .simp
 .have:=parseL_len (splitB 10 l) 0 [] (by simp); omega
theorem textP_ok{l:List EvP}(h:(textP l).2=0):(∀ e∈l,MayE e)/\l.length<=500/\(linesB l).length<=1048576/\textP l=(linesB l,0):=by
 unfold textP at h ⊢
 by_cases hm:∀ e∈l,MayE e
 .rw [if_pos hm] at h ⊢
  by_cases hb:500 < l.length∨1048576 < (linesB l).length
  .rw [if_pos hb] at h; exact absurd h (by decide)
  .rw [if_neg hb]; exact ⟨hm,by omega,by omega,rfl⟩
 .rw [if_neg hm] at h; exact absurd h (by decide)
end Go.V
namespace Go.Proofs.YtimonamjecmlcaaGreatDoor
open Go.V
section
variable {w:Wd} {Q:Nat->Prop}
abbrev LoopE(s t:Sl)(w:Wd)(K:Bool->Wd->Prop)(R:Wd->Prop):Prop :=
 ∃ I0:Nat->Int->Wd->Prop,(∃ m,I0 m 0 w)/\∀(_:Env)(m0:Nat)(i:Int)(w5:Wd),I0 m0 i w5 ->
 If (decide (i < ((s.len:Int)))) (
 ∃ S:Wd->Prop,S (drewW w5) /\
 Ix s.a s.len i 19 fun a =>
 ∃ c0:Int,Held S a (.int .i64 c0)/\∃ c1:Int,Held S (a.add 1) (.int .i64 c1)/\∃ c2:Int,Held S (a.add 2) (.int .u32 c2)/\∃ c3:Sl,Held S (a.add 3) (.slice c3.a c3.len c3.cap)/\∃ c4:Int,Held S (a.add 4) (.int .i64 c4)/\∃ c5:Int,Held S (a.add 5) (.int .i64 c5)/\∃ c6:Int,Held S (a.add 6) (.int .u64 c6)/\∃ c7:Int,Held S (a.add 7) (.int .u64 c7)/\∃ c8:Int,Held S (a.add 8) (.int .u64 c8)/\∃ c9:Int,Held S (a.add 9) (.int .u8 c9)/\∃ c10:Sl,Held S (a.add 10) (.slice c10.a c10.len c10.cap)/\∃ c11:Sl,Held S (a.add 11) (.slice c11.a c11.len c11.cap)/\∃ c12:Sl,Held S (a.add 12) (.slice c12.a c12.len c12.cap)/\∃ c13:Sl,Held S (a.add 13) (.slice c13.a c13.len c13.cap)/\∃ c14:Bool,Held S (a.add 14) (.bool c14)/\∃ c15:Int,Held S (a.add 15) (.int .i64 c15)/\∃ c16:Int,Held S (a.add 16) (.int .i64 c16)/\∃ c17:Sl,Held S (a.add 17) (.slice c17.a c17.len c17.cap)/\∃ c18:Sl,Held S (a.add 18) (.slice c18.a c18.len c18.cap) /\
 Ix t.a t.len i 19 fun a1 =>
 ∃ c20:Int,Held S a1 (.int .i64 c20)/\∃ c21:Int,Held S (a1.add 1) (.int .i64 c21)/\∃ c22:Int,Held S (a1.add 2) (.int .u32 c22)/\∃ c23:Sl,Held S (a1.add 3) (.slice c23.a c23.len c23.cap)/\∃ c24:Int,Held S (a1.add 4) (.int .i64 c24)/\∃ c25:Int,Held S (a1.add 5) (.int .i64 c25)/\∃ c26:Int,Held S (a1.add 6) (.int .u64 c26)/\∃ c27:Int,Held S (a1.add 7) (.int .u64 c27)/\∃ c28:Int,Held S (a1.add 8) (.int .u64 c28)/\∃ c29:Int,Held S (a1.add 9) (.int .u8 c29)/\∃ c30:Sl,Held S (a1.add 10) (.slice c30.a c30.len c30.cap)/\∃ c31:Sl,Held S (a1.add 11) (.slice c31.a c31.len c31.cap)/\∃ c32:Sl,Held S (a1.add 12) (.slice c32.a c32.len c32.cap)/\∃ c33:Sl,Held S (a1.add 13) (.slice c33.a c33.len c33.cap)/\∃ c34:Bool,Held S (a1.add 14) (.bool c34)/\∃ c35:Int,Held S (a1.add 15) (.int .i64 c35)/\∃ c36:Int,Held S (a1.add 16) (.int .i64 c36)/\∃ c37:Sl,Held S (a1.add 17) (.slice c37.a c37.len c37.cap)/\∃ c38:Sl,Held S (a1.add 18) (.slice c38.a c38.len c38.cap) /\
 C_ref29_Same c0 c1 c2 c3 c4 c5 c6 c7 c8 c9 c10 c11 c12 c13 c14 c15 c16 c17 c18 c20 c21 c22 c23 c24 c25 c26 c27 c28 c29 c30 c31 c32 c33 c34 c35 c36 c37 c38 (drewW w5) fun r w6 =>
 S w6 /\
 If (!r) (
 K false w6) (
 Ar .i64 (i+1) fun z =>
 ∃ m1,m1 < m0/\I0 m1 z w6)) (R w5)
set_option maxHeartbeats 1000000 in
theorem loopE{Q':Nat->Prop}{s t:Sl}{l:List EvP}{K:Bool->Wd->Prop}{R:Wd->Prop}(rs:EvsR Q w.heap s l)(rt:EvsR Q' w.heap t l)(hops:∀ e∈l,e.call.ops.length<=1000000000000000000)(hl:l.length<=1000000000000)(k:∀ w',Ext No w w'->R w'):LoopE s t w K R:=by
 have ls:=rs.len; have lt:=rt.len
 refine ⟨fun m i w'=>∃ j:Nat,i=j/\j<=l.length/\m=l.length - j/\Ext No w w',⟨_,0,rfl,Nat.zero_le _,rfl,Ext.refl _ _⟩,?_⟩
 rintro _ m0 _ w5 ⟨j,rfl,hj,rfl,x5⟩
 refine If.dec (fun h=>?_) fun h=>k w5 x5
 refine ⟨Ext No w5,(Ext.refl _ _).drew,ixE (rs.no x5) (by omega) h fun b o v hi hr hc=>⟨v.kind,Held.cell (hc 0 _ rfl),v.call.kind,Held.cell (hc 1 _ rfl),v.call.tenant,Held.cell (hc 2 _ rfl),v.call.secret,Held.cell (hc 3 _ rfl),v.call.quota,Held.cell (hc 4 _ rfl),v.call.n,Held.cell (hc 5 _ rfl),v.call.handle,Held.cell (hc 6 _ rfl),v.call.other,Held.cell (hc 7 _ rfl),v.call.snap,Held.cell (hc 8 _ rfl),v.call.rights,Held.cell (hc 9 _ rfl),v.call.ops,Held.cell (hc 10 _ rfl),v.call.key,Held.cell (hc 11 _ rfl),v.call.frm,Held.cell (hc 12 _ rfl),v.call.upto,Held.cell (hc 13 _ rfl),v.call.back,Held.cell (hc 14 _ rfl),v.n,Held.cell (hc 15 _ rfl),v.block,Held.cell (hc 16 _ rfl),v.masks,Held.cell (hc 17 _ rfl),v.bytes,Held.cell (hc 18 _ rfl),ixE (rt.no x5) (by omega) (by omega) fun b' o' u hi' hu hc'=>⟨u.kind,Held.cell (hc' 0 _ rfl),u.call.kind,Held.cell (hc' 1 _ rfl),u.call.tenant,Held.cell (hc' 2 _ rfl),u.call.secret,Held.cell (hc' 3 _ rfl),u.call.quota,Held.cell (hc' 4 _ rfl),u.call.n,Held.cell (hc' 5 _ rfl),u.call.handle,Held.cell (hc' 6 _ rfl),u.call.other,Held.cell (hc' 7 _ rfl),u.call.snap,Held.cell (hc' 8 _ rfl),u.call.rights,Held.cell (hc' 9 _ rfl),u.call.ops,Held.cell (hc' 10 _ rfl),u.call.key,Held.cell (hc' 11 _ rfl),u.call.frm,Held.cell (hc' 12 _ rfl),u.call.upto,Held.cell (hc' 13 _ rfl),u.call.back,Held.cell (hc' 14 _ rfl),u.n,Held.cell (hc' 15 _ rfl),u.block,Held.cell (hc' 16 _ rfl),u.masks,Held.cell (hc' 17 _ rfl),u.bytes,Held.cell (hc' 18 _ rfl),?_⟩⟩⟩
 refine rSame_spec (hr.no (Ext.refl _ _).drew) (hu.no (Ext.refl _ _).drew) (hops _ (List.getElem_mem hi)) fun r w6 hr' x6=>⟨x6.drew_left,If.not (If.cases (fun _=>Ar.i64 (by omega) ⟨_,by omega,j+1,by omega,by omega,rfl,x5.no x6.drew_left⟩) fun t=>?_)⟩
 rw [hr'.2 rfl] at t; cases t
theorem parses_spec{l:Bs}{K:Bool->Wd->Prop}(g:Gl w.heap)(h8:8<=w.heap.size)(k:∀ w',Ext No w w'->K true w'):C_law29_PlayParses (stB l) w K:=by
 apply S_law29_PlayParses
 have kn:∀{w'},Ext No w w'->C_law29_known w' K:=fun x=>known_spec (g.no x) (by have:=x.size; omega) fun w2 x2=>k w2 (x.no x2)
 refine If.dec (fun _=>kn (Ext.refl _ _)) fun h=>?_
 rw [stB_size] at h
 have hn:(parseP l).1.length<=1000000000000:=parseP_len l
 refine parse_spec g h8 (by omega) fun s w2 es x2=>rparse_spec (by omega) fun t w3 et x3=>?_
 have e1:=es.len; have e2:=et.len
 refine ⟨fun w'=>Ext No w3 w',If.bne (fun h=>absurd rfl h) fun _=>If.bne (fun h=>absurd rfl h) fun _=>If.bne (fun h=>absurd (by rw [e1,e2]) h) fun _=>Ext.refl _ _,?_⟩
 intro _ w4 x4
 exact loopE ((es.no x3).no x4) (et.no x4) (parseP_ops (by omega)) hn fun w' x'=>kn (((x2.no x3).no x4).no x')
theorem texts_spec{s:Sl}{l:List EvP}{K:Bool->Wd->Prop}(g:Gl w.heap)(h8:8<=w.heap.size)(r:EvsR Q w.heap s l)(rg:∀ e∈l,RngC e.call)(bd:∀ e∈l,BndE e)(k:∀ w',Ext No w w'->K true w'):C_law29_PlayTexts s w K:=by
 apply S_law29_PlayTexts
 have kn:∀{w'},Ext No w w'->C_law29_known w' K:=fun x=>known_spec (g.no x) (by have:=x.size; omega) fun w2 x2=>k w2 (x.no x2)
 have hops:∀ e∈l,e.call.ops.length<=1000000000000000000:=fun e he=>by have:=(bd e he).opl; omega
 refine heavy_spec r bd fun b w1 hb x1=>If.cases (fun _=>kn x1) fun t=>?_
 have hl:=hb t
 refine text_spec (g.no x1) (by have:=x1.size; omega) (r.no x1) rg hops (by omega) fun w3 x3=>rtext_spec ((r.no x1).no x3) rg hops (by omega) fun w4 x4=>?_
 have x04:=(x1.no x3).no x4
 refine ⟨fun w'=>Ext No w4 w',If.not (eqStr (fun _=>If.bne (fun h=>absurd rfl h) fun _=>Ext.refl _ _) fun h=>absurd rfl h),?_⟩
 intro _ w5 x5
 have x05:=x04.no x5
 refine If.bne (fun _=>kn x05) fun h0=>?_
 obtain ⟨may,h5,hs,ht⟩:=textP_ok h0
 rw [ht]
 have hp:=parse_text may rg h5 hs
 refine parse_spec (g.no x05) (by have:=x05.size; omega) (show (linesB l).length<=2000000 by omega) fun t w7 et x7=>?_
 show ∃ J0:Wd->Prop,_
 rw [show ((linesB l,(0:Int)).1)=linesB l from rfl] at et ⊢
 rw [hp] at et ⊢
 have e1:=r.len; have e2:=et.len
 refine ⟨fun w'=>Ext No w7 w',If.bne (fun h=>absurd rfl h) fun _=>If.bne (fun h=>absurd rfl h) fun _=>If.bne (fun h=>absurd (by rw [e1,e2]) h) fun _=>Ext.refl _ _,?_⟩
 intro _ w8 x8
 exact loopE (r.no ((x05.no x7).no x8)) (et.no x8) hops (by omega) fun w' x'=>kn (((x05.no x7).no x8).no x')
end
section
variable {w:Wd} {Q:Nat->Prop}
set_option maxHeartbeats 4000000 in
theorem notes_spec{s ats:Sl}{l:List EvP}{A:List Int}{nt:Bs}{K:Bool->Wd->Prop}(g:Gl w.heap)(h8:8<=w.heap.size)(r:EvsR Q w.heap s l)(rg:∀ e∈l,RngC e.call)(bd:∀ e∈l,BndE e)(ra:Rd w.heap ats 1 (A.map (Value.int .i64)))
  (k:∀ w',Ext No w w'->K true w'):C_law29_PlayNotes s ats (stB nt) w K:=by
 apply S_law29_PlayNotes
 have kn:∀{w'},Ext No w w'->C_law29_known w' K:=fun x=>known_spec (g.no x) (by have:=x.size; omega) fun w2 x2=>k w2 (x.no x2)
 have hops:∀ e∈l,e.call.ops.length<=1000000000000000000:=fun e he=>by have:=(bd e he).opl; omega
 have hsl:=r.len
 have hal:ats.len=A.length:=by have:=ra.len; simpa using this.symm
 have hmax:IntKind.i64.max=9223372036854775807:=rfl
 have e35:(⟨#[35]⟩ : ByteArray)=stB [35]:=rfl
 have e1010:(⟨#[10,10]⟩ : ByteArray)=stB [10,10]:=rfl
 have e10:(⟨#[10]⟩ : ByteArray)=stB [10]:=rfl
 have efr:(⟨#[102,114,111,98,10]⟩ : ByteArray)=stB (wfrob++[10]):=rfl
 refine ⟨fun w'=>Ext No w w'/\l.length<=60/\A.length<=60/\nt.length<=100,If.dec (fun _=>kn (Ext.refl _ _)) fun h1=>If.dec (fun _=>kn (Ext.refl _ _)) fun h2=>heavy_spec r bd fun b w3 _ x3=>If.cases (fun _=>kn x3) fun _=>If.dec (fun _=>kn x3) fun h3=>⟨x3,by omega,by omega,by rw [stB_size] at h3; omega⟩,?_⟩
 rintro _ w6 ⟨x6,hl,hA,hn⟩
 refine ⟨fun m i w'=>∃ j:Nat,i=j/\j<=nt.length/\m=nt.length - j/\(∀ x∈nt.take j,x≠10)/\Ext No w w',⟨_,0,rfl,Nat.zero_le _,rfl,by simp,x6⟩,?_⟩
 rintro _ m0 _ w7 ⟨j,rfl,hj,rfl,hno,x7⟩
 refine If.dec (fun h=>?_) fun h=>?_
 .rw [stB_size] at h
  have hjn:j < nt.length:=by omega
  refine ixS (by omega) (by omega) (If.beq (fun _=>kn x7) fun h10=>Ar.i64 (by omega) ⟨_,by omega,j+1,by omega,by omega,rfl,fun x hx=>?_,x7⟩)
  rw [take_snoc hjn] at hx
  rcases List.mem_append.1 hx with h1 | h1
  .exact hno x h1
  .rw [List.mem_singleton] at h1
   intro e
   exact h10 (by show (((nt[j]).toNat:Nat):Int)=10; rw [<- h1,e]; rfl)
 rw [stB_size] at h
 have hjn:j=nt.length:=by omega
 rw [hjn,List.take_length] at hno
 have n10:(10:UInt8) ∉ nt:=fun h=>hno 10 h rfl
 refine ⟨fun m t n i w'=>∃ (P:List (Bs×Option EvP)) (j:Nat),t=stB (linB (P.map Prod.fst))/\n=P.length/\i=j/\j<=l.length/\m=l.length - j/\(∀ p∈P,LnOK p.1 p.2)/\P.filterMap Prod.snd=l.take j/\(linB (P.map Prod.fst)).length<=500001/\P.length<=j * 121/\Ext No w w',
  ⟨_,[],0,rfl,rfl,rfl,Nat.zero_le _,rfl,by simp,by simp,by simp [linB],by simp,x7⟩,?_⟩
 clear hno hjn h
 rintro _ m1 _ _ _ w9 ⟨P,j,rfl,rfl,rfl,hj,rfl,hP,hPf,hPl,hPn,x9⟩
 refine If.dec (fun h=>?_) fun h=>?_
 .refine ⟨fun m t n k w'=>∃ (P':List (Bs×Option EvP)) (q:Nat),t=stB (linB (P'.map Prod.fst))/\n=P'.length/\k=q/\q<=A.length/\m=A.length - q/\(∀ p∈P',LnOK p.1 p.2)/\P'.filterMap Prod.snd=l.take j/\(linB (P'.map Prod.fst)).length<=500001+q * 103/\P'.length<=j * 121+q * 2/\Ext No w w',
   ⟨_,P,0,rfl,rfl,rfl,Nat.zero_le _,rfl,hP,hPf,by omega,by omega,x9⟩,?_⟩
  clear hP hPf hPl hPn x9
  rintro _ m2 _ _ _ w10 ⟨P',q,rfl,rfl,rfl,hq,rfl,hP,hPf,hPl,hPn,x10⟩
  refine If.dec (fun h'=>?_) fun h'=>?_
  .refine Ix.cell (ra.no x10) (by omega) h' fun b o v hb hv hc=>?_
   rw [List.getElem?_map] at hv
   obtain ⟨z,_,rfl⟩:=Option.map_eq_some_iff.1 hv
   refine ⟨z,hc,If.beq (fun _=>?_) fun _=>Ar.i64 (by omega) ⟨_,by omega,P',q+1,rfl,rfl,by omega,by omega,rfl,hP,hPf,by omega,by omega,x10⟩⟩
   have eN:linB ((P'++[(35::nt,none),([],none)]).map Prod.fst)=((linB (P'.map Prod.fst)++[35])++nt)++[10,10]:=by rw [List.map_append,linB_app]; simp [linB]
   have eNl:(linB ((P'++[(35::nt,none),([],none)]).map Prod.fst)).length=(linB (P'.map Prod.fst)).length+nt.length+3:=by rw [eN]; simp only [List.length_append,List.length_cons,List.length_nil]; omega
   rw [e35,e1010,stB_app,stB_app,stB_app,<- eN,hmax]
   simp only [stB_size,List.length_append,List.length_cons,List.length_nil]
   refine ⟨by omega,by omega,by omega,Ar.i64 (by omega) (Ar.i64 (by omega) ⟨_,by omega,P'++[(35::nt,none),([],none)],q+1,rfl,by simp only [List.length_append,List.length_cons,List.length_nil]; omega,by omega,by omega,rfl,fun p hp=>?_,?_,by omega,by simp only [List.length_append,List.length_cons,List.length_nil]; omega,x10⟩)⟩
   .rcases List.mem_append.1 hp with h1 | h1
    .exact hP p h1
    .simp only [List.mem_cons,List.not_mem_nil,or_false] at h1
     rcases h1 with rfl | rfl
     .exact ⟨by intro hm; rcases List.mem_cons.1 hm with h1 | h1; (exact absurd h1 (by decide)); exact n10 h1, .inr rfl⟩
     .exact ⟨by simp, .inl rfl⟩
   .rw [List.filterMap_append,hPf]; simp
  .refine ixE (r.no x10) (by omega) h fun b o v hi hr hc=>?_
   have hjl:j < l.length:=hi
   have el:l[((j:Nat):Int).toNat]'hi=l[j]:=rfl
   rw [el] at hr
   have hmem:l[j]∈l:=List.getElem_mem hjl
   refine ⟨v.kind,hc 0 _ rfl,v.call.kind,hc 1 _ rfl,v.call.tenant,hc 2 _ rfl,v.call.secret,hc 3 _ rfl,v.call.quota,hc 4 _ rfl,v.call.n,hc 5 _ rfl,v.call.handle,hc 6 _ rfl,v.call.other,hc 7 _ rfl,v.call.snap,hc 8 _ rfl,v.call.rights,hc 9 _ rfl,v.call.ops,hc 10 _ rfl,v.call.key,hc 11 _ rfl,v.call.frm,hc 12 _ rfl,v.call.upto,hc 13 _ rfl,v.call.back,hc 14 _ rfl,v.n,hc 15 _ rfl,v.block,hc 16 _ rfl,v.masks,hc 17 _ rfl,v.bytes,hc 18 _ rfl,line_any (g.no x10) (by have:=x10.size; omega) hr (rg _ hmem) (hops _ hmem) fun t n w11 hs x11=>?_⟩
   refine ⟨fun w'=>Ext No w11 w'/\n=0/\(linB (P'.map Prod.fst)).length<=100000,If.bne (fun _=>kn (x10.no x11)) fun h0=>If.dec (fun _=>kn (x10.no x11)) fun h1=>⟨Ext.refl _ _,h0,by rw [stB_size] at h1; omega⟩,?_⟩
   rintro _ w14 ⟨x14,rfl,hsz⟩
   obtain ⟨may,rfl⟩ : MayE l[j]/\t=stB (lineE l[j]):=by
    rcases hs with ⟨a,b,_⟩ | ⟨_,_,h⟩
    .exact ⟨a,b⟩
    .exact absurd h (by decide)
   have rge:=rg _ hmem
   have hll:=line_len2 may rge
   have tk:=take_snoc hjl
   generalize l[j]=e at *
   have eE:linB ((P'++[(lineE e,some e)]).map Prod.fst)=(linB (P'.map Prod.fst)++lineE e)++[10]:=by rw [List.map_append,linB_app]; simp [linB]
   have eEl:(linB ((P'++[(lineE e,some e)]).map Prod.fst)).length=(linB (P'.map Prod.fst)).length+(lineE e).length+1:=by rw [eE]; simp only [List.length_append,List.length_cons,List.length_nil]
   rw [e10,stB_app,stB_app,<- eE,hmax]
   simp only [stB_size,List.length_append,List.length_cons,List.length_nil]
   refine ⟨by omega,by omega,Ar.i64 (by omega) (Ar.i64 (by omega) ⟨_,by omega,P'++[(lineE e,some e)],j+1,rfl,by simp only [List.length_append,List.length_cons,List.length_nil]; omega,by omega,by omega,rfl,fun p hp=>?_,?_,by omega,by simp only [List.length_append,List.length_cons,List.length_nil]; omega,(x10.no x11).no x14⟩)⟩
   .rcases List.mem_append.1 hp with h1 | h1
    .exact hP p h1
    .rw [List.mem_singleton] at h1; subst h1; exact .ev may rge
   .rw [List.filterMap_append,hPf,tk]; simp
 .have hjn:j=l.length:=by omega
  rw [hjn,List.take_length] at hPf
  have hp:=parseP_lines hP (by rw [hPf]; omega) (by omega)
  have hq:=parseP_frob hP (by rw [hPf]; omega) (by omega)
  rw [hPf] at hp
  refine parse_spec (l:=linB (P.map Prod.fst)) (g.no x9) (by have:=x9.size; omega) (by omega) fun t w15 et x15=>?_
  rw [hp] at et ⊢
  have e1:=r.len; have e2:=et.len
  refine ⟨fun w'=>Ext No w15 w',If.bne (fun h=>absurd rfl h) fun _=>If.bne (fun h=>absurd rfl h) fun _=>If.bne (fun h=>absurd (by rw [e1,e2]) h) fun _=>Ext.refl _ _,?_⟩
  intro _ w16 x16
  have x016:=(x9.no x15).no x16
  refine loopE (r.no x016) (et.no x16) hops (by omega) fun w17 x17=>?_
  have x017:=x016.no x17
  rw [efr,stB_app]
  refine ⟨by simp only [stB_size,hmax]; have:(wfrob++[10]).length=5:=rfl; omega,parse_spec (l:=linB (P.map Prod.fst)++(wfrob++[10])) (g.no x017) (by have:=x017.size; omega) (by rw [List.length_append]; have:(wfrob++[10]).length=5:=rfl; omega) fun _ w19 _ x19=>?_⟩
  rw [hq]
  exact If.beq (fun _=>Ar.i64 (by omega) (If.beq (fun _=>kn (x017.no x19)) fun h=>absurd (by show ((P.length+1:Nat):Int)=_; omega) h)) fun h=>absurd rfl h
end
end Go.Proofs.YtimonamjecmlcaaGreatDoor
