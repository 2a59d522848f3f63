/- Texts for LRollSame,LRollBytes,LRollReads,LRollNone, part 1. -/
import Derived.OrdersHeld
namespace Go.V
abbrev Wd:= World
abbrev Pw:=Wd->Prop
section
variable {P:Program} {ops:Array Oper} {Q:Exit->Act->Pw} {S:Pw}
def Yi(ops:Array Oper)(j i:Nat):Bool:=match ops[j]? with
 | some oj=>oj.after.toList.any fun e=>Region.binds .any e && (Nat.beq e.on i || match ops[e.on]? with
   | some om=>om.after.toList.any fun e'=>Region.binds .any e' && Nat.beq e'.on i
   | none=>false)
 | none=>false
def zZ(ops:Array Oper)(j:Nat):Bool:=(List.range ops.size).all fun i=>Nat.beq i j || Yi ops j i
def nG(ops:Array Oper)(az:Array Bool):Prop:=∀m om,ops[m]? = some om->az.getD m true=true->∀e∈om.after,Region.binds .any e=true->az.getD e.on false=true
theorem nG.start:nG ops (Array.replicate ops.size false):=by
 intro m om hm hl;have cF:m < ops.size:=(Array.getElem?_eq_some_iff.1 hm).1;simp[cF]at hl
theorem nG.set{az:Array Bool}{j:Nat}(h:nG ops az)(hj:j∈Region.ready .any ops az):nG ops (az.setIfInBounds j true):=by
 intro m om hm hl e he hb;by_cases hmj:j=m
 .subst hmj;obtain⟨_,o,ho,dT⟩:=mem_ready.1 hj;rw[hm]at ho;cases ho;exact getD_set_true (dT e he hb)
 .rw[getD_set_ne true hmj]at hl;exact getD_set_true (h m om hm hl e he hb)
theorem Gl{az:Array Bool}{i:Nat}(hi:i∈Region.ready .any ops az):i < ops.size/\az.getD i false=false:=by
 obtain⟨h0,o,ho,_⟩:=mem_ready.1 hi;refine⟨(Array.getElem?_eq_some_iff.1 ho).1,?_⟩;rcases Nat.lt_or_ge i az.size with h | h
 .simp[h]at h0 ⊢;exact h0
 .simp[Array.getElem?_eq_none h]
theorem NP{az:Array Bool}{i j:Nat}(h:nG ops az)(hj:j∈Region.ready .any ops az)(hi:i∈Region.ready .any ops az)(bA:j≠i):zZ ops j=false:=by
 cases hl:zZ ops j with
 | false=>rfl
 | true=>
  exfalso;obtain⟨cF,TM⟩:=Gl hi;obtain⟨_,oj,Yj,dT⟩:=mem_ready.1 hj;simp only[zZ,List.all_eq_true,List.mem_range,Bool.or_eq_true]at hl;rcases hl i cF with he | hd
  .exact bA (Nat.eq_of_beq_eq_true he).symm
  .simp only[Yi,Yj,List.any_eq_true,Bool.and_eq_true,Bool.or_eq_true]at hd;obtain⟨e,he,hb,hor⟩:=hd;have Ll:e∈oj.after:=by simpa using he
   have h1:=dT e Ll hb;rcases hor with heq | hm
   .have:=Nat.eq_of_beq_eq_true heq;rw[this,TM]at h1;cases h1
   .split at hm
    .rename_i om hom;simp only[List.any_eq_true,Bool.and_eq_true]at hm;obtain⟨e2,he2,jN,heq⟩:=hm;have abV:e2∈om.after:=by simpa using he2
     have h2:az.getD e.on true=true:=by
      rcases Nat.lt_or_ge e.on az.size with h | h
      .simp[h]at h1 ⊢;exact h1
      .simp[Array.getElem?_eq_none h]
     have h3:=h e.on om hom h2 e2 abV jN;have:=Nat.eq_of_beq_eq_true heq;rw[this,TM]at h3;cases h3
    .cases hm
def kZ(P:Program)(ops:Array Oper)(Q:Exit->Act->Pw)(S:Pw):Nat->Array Bool->Act->Pw
 | 0,az,a,w=>Region.ready .any ops az=[]/\Q .normal a w
 | fuel+1,az,a,w=>
  (Region.ready .any ops az=[]->Q .normal a w)/\
  ∀i∈Region.ready .any ops az,wpOp P ops Q i (fun a' w'=>(S w'∨zZ ops i=true)/\kZ P ops Q S fuel (az.setIfInBounds i true) a' w') a w
theorem z_:∀(fuel:Nat)(az:Array Bool)(a:Act)(w:Wd),kZ P ops Q S fuel az a w->wpAny P .any ops Q fuel az a w
 | 0,_,_,_,h=>h
 | fuel+1,_,_,_,h=>⟨h.1,fun i hi=>wpOp_mono (fun a' w' h'=>z_ fuel _ a' w' h'.2) (h.2 i hi)⟩
theorem Ej{i:Nat}{oi:Oper}{v:Value}(hi:ops[i]? = some oi)(Yk:∀(j:Nat)(o:Oper) cs b,ops[j]? = some o->o.op ≠ .select cs b)
  (hQ:∀c a w,Q (.panic c) (a.put oi.dst v) w->Q (.panic c) a w) :
  ∀(fuel:Nat)(az:Array Bool)(a:Act)(w:Wd),nG ops az->
   (∀j oj,ops[j]? = some oj->j≠i->az.getD j true=false->(∀e∈oj.after,Region.binds .any e=true->e.on≠i)->oi.apart ops oj=true)->
   i∈Region.ready .any ops az->YieldsIf P ops S oi v a->S w->
   kZ P ops Q S fuel (az.setIfInBounds i true) (a.put oi.dst v) w->kZ P ops Q S (fuel+1) az a w:=by
 intro fuel
 induction fuel with
 | zero=>
  intro az a w _ _ hr hy hS H;refine⟨fun h=>(by rw[h]at hr;cases hr),fun j hj=>?_⟩;by_cases Aa:j=i
  .subst Aa;exact hy.wpOp hi hS ⟨.inl hS,H⟩
  .have:=ready_mono hj Aa;rw[H.1]at this
   cases this
 | succ fuel ih=>
  intro az a w qE gU hr hy hS H;refine⟨fun h=>(by rw[h]at hr;cases hr),fun j hj=>?_⟩;by_cases Aa:j=i
  .subst Aa;exact hy.wpOp hi hS ⟨.inl hS,H⟩
  .have h1:=H.2 j (ready_mono hj Aa);obtain⟨Yl,oj,Yj,dT⟩:=mem_ready.1 hj
   have Ek:∀e∈oj.after,Region.binds .any e=true->e.on≠i:=fun e he hb heq=>by
    have h1:=dT e he hb;rw[heq,(Gl hr).2]at h1;cases h1
   have h2:=wpOp_putIf Yj (gU j oj Yj Aa Yl Ek) (fun cs b=>Yk i oi cs b hi) (fun cs b=>Yk j oj cs b Yj) hQ hy h1
   have U2:∀k ok,ops[k]? = some ok->k≠i->(az.setIfInBounds j true).getD k true=false->
     (∀e∈ok.after,Region.binds .any e=true->e.on≠i)->oi.apart ops ok=true:=fun k ok hk hki TM wv=>by
    refine gU k ok hk hki ?_ wv;by_cases hjk:j=k
    .subst hjk;exact Yl
    .rw[getD_set_ne true hjk]at TM;exact TM
   have IF:=NP qE hj hr Aa;refine wpOp_mono (fun a' w' h3=>?_) h2;have xF:S w':=h3.2.1.resolve_right (by rw[IF];decide);refine⟨.inl xF,ih (az.setIfInBounds j true) a' w' (qE.set hj) U2 (ready_mono hr (Ne.symm Aa)) h3.1 xF ?_⟩;rw[Array.setIfInBounds_comm _ _ Aa];exact h3.2.2
theorem Gm{i:Nat}{oi:Oper}{v:Value}{fuel:Nat}{az:Array Bool}{a:Act}{w:Wd}(hi:ops[i]? = some oi)(hc:nG ops az)
  (hs:Region.noSelect ops=true) (hf:Region.free .any ops az i=true) (hr:(Region.ready .any ops az).contains i=true)
  (hQ:∀c a w,Q (.panic c) (a.put oi.dst v) w->Q (.panic c) a w) (hy:YieldsIf P ops S oi v a) (hS:S w)
  (h:kZ P ops Q S fuel (az.setIfInBounds i true) (a.put oi.dst v) w):kZ P ops Q S (fuel+1) az a w:=
 Ej hi (Region.noSelect_spec hs) hQ fuel az a w hc (Region.free_spec hi hf) (by simpa using hr) hy hS h
theorem mq{rs:List Nat}{fuel:Nat}{az:Array Bool}{a:Act}{w:Wd}(hr:Region.ready .any ops az=rs)(bA:rs≠[])
  (h:∀i∈rs,wpOp P ops Q i (fun a' w'=>(S w'∨zZ ops i=true)/\kZ P ops Q S fuel (az.setIfInBounds i true) a' w') a w):kZ P ops Q S (fuel+1) az a w:=
 ⟨fun h0=>absurd (hr ▸ h0) bA,hr ▸ h⟩
theorem qF{az:Array Bool}{a:Act}{w:Wd}(hr:Region.ready .any ops az=[])(h:Q .normal a w) :
  ∀fuel,kZ P ops Q S fuel az a w
 | 0=>⟨hr,h⟩
 | _+1=>⟨fun _=>h,by rw[hr];simp⟩
theorem Gn{id:Nat}{a:Act}{w:Wd}(hm:P.follows .mixedOrders=true)
  (h:kZ P ops Q S ops.size (Array.replicate ops.size false) a { w with drawn:=w.drawn+1 }):(Code.region id ops true).wp P Q a w:=
 wp_region_any hm (z_ _ _ _ _ h)
end
end Go.V
