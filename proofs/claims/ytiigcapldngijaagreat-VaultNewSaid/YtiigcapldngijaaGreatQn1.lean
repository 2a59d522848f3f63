/- Texts for LVaultNew, part 1. -/
import Derived.OrdersHeld
namespace Go.V
abbrev Wd:= World
abbrev Pw:=Wd->Prop
section
variable {P:Program} {ops:Array Oper} {Q:Exit->Act->Pw} {S:Pw}
def ab8(ops:Array Oper)(j i:Nat):Bool:=match ops[j]? with
 | some oj=>oj.after.toList.any fun e=>Region.binds .any e && (Nat.beq e.on i || match ops[e.on]? with
   | some om=>om.after.toList.any fun e'=>Region.binds .any e' && Nat.beq e'.on i
   | none=>false)
 | none=>false
def Er(ops:Array Oper)(j:Nat):Bool:=(List.range ops.size).all fun i=>Nat.beq i j || ab8 ops j i
def qj(ops:Array Oper)(aB:Array Bool):Prop:=∀m om,ops[m]? = some om->aB.getD m true=true->∀e∈om.after,Region.binds .any e=true->aB.getD e.on false=true
theorem qj.start:qj ops (Array.replicate ops.size false):=by
 intro m om hm hl;have aN:m < ops.size:=(Array.getElem?_eq_some_iff.1 hm).1;simp[aN]at hl
theorem qj.set{aB:Array Bool}{j:Nat}(h:qj ops aB)(hj:j∈Region.ready .any ops aB):qj ops (aB.setIfInBounds j true):=by
 intro m om hm hl e he hb;by_cases hmj:j=m
 .subst hmj;obtain⟨_,o,ho,nK⟩:=mem_ready.1 hj;rw[hm]at ho;cases ho;exact getD_set_true (nK e he hb)
 .rw[getD_set_ne true hmj]at hl;exact getD_set_true (h m om hm hl e he hb)
theorem KD{aB:Array Bool}{i:Nat}(hi:i∈Region.ready .any ops aB):i < ops.size/\aB.getD i false=false:=by
 obtain⟨h0,o,ho,_⟩:=mem_ready.1 hi;refine⟨(Array.getElem?_eq_some_iff.1 ho).1,?_⟩;rcases Nat.lt_or_ge i aB.size with h | h
 .simp[h]at h0 ⊢;exact h0
 .simp[Array.getElem?_eq_none h]
theorem SG{aB:Array Bool}{i j:Nat}(h:qj ops aB)(hj:j∈Region.ready .any ops aB)(hi:i∈Region.ready .any ops aB)(du:j≠i):Er ops j=false:=by
 cases hl:Er ops j with
 | false=>rfl
 | true=>
  exfalso;obtain⟨aN,Ym⟩:=KD hi;obtain⟨_,oj,hoj,nK⟩:=mem_ready.1 hj;simp only[Er,List.all_eq_true,List.mem_range,Bool.or_eq_true]at hl;rcases hl i aN with he | hd
  .exact du (Nat.eq_of_beq_eq_true he).symm
  .simp only[ab8,hoj,List.any_eq_true,Bool.and_eq_true,Bool.or_eq_true]at hd;obtain⟨e,he,hb,hor⟩:=hd;have he':e∈oj.after:=by simpa using he
   have h1:=nK e he' hb;rcases hor with heq | hm
   .have:=Nat.eq_of_beq_eq_true heq;rw[this,Ym]at h1;cases h1
   .split at hm
    .rename_i om hom;simp only[List.any_eq_true,Bool.and_eq_true]at hm;obtain⟨e2,he2,zI,heq⟩:=hm;have aeJ:e2∈om.after:=by simpa using he2
     have h2:aB.getD e.on true=true:=by
      rcases Nat.lt_or_ge e.on aB.size with h | h
      .simp[h]at h1 ⊢;exact h1
      .simp[Array.getElem?_eq_none h]
     have h3:=h e.on om hom h2 e2 aeJ zI;have:=Nat.eq_of_beq_eq_true heq;rw[this,Ym]at h3;cases h3
    .cases hm
def mZ(P:Program)(ops:Array Oper)(Q:Exit->Act->Pw)(S:Pw):Nat->Array Bool->Act->Pw
 | 0,aB,a,w=>Region.ready .any ops aB=[]/\Q .normal a w
 | fuel+1,aB,a,w=>
  (Region.ready .any ops aB=[]->Q .normal a w)/\
  ∀i∈Region.ready .any ops aB,wpOp P ops Q i (fun a' w'=>(S w'∨Er ops i=true)/\mZ P ops Q S fuel (aB.setIfInBounds i true) a' w') a w
theorem Es:∀(fuel:Nat)(aB:Array Bool)(a:Act)(w:Wd),mZ P ops Q S fuel aB a w->wpAny P .any ops Q fuel aB a w
 | 0,_,_,_,h=>h
 | fuel+1,_,_,_,h=>⟨h.1,fun i hi=>wpOp_mono (fun a' w' h'=>Es fuel _ a' w' h'.2) (h.2 i hi)⟩
theorem Ia{i:Nat}{oi:Oper}{v:Value}(hi:ops[i]? = some oi)(ab9:∀(j:Nat)(o:Oper) cs b,ops[j]? = some o->o.op ≠ .select cs b)
  (hQ:∀c a w,Q (.panic c) (a.put oi.dst v) w->Q (.panic c) a w) :
  ∀(fuel:Nat)(aB:Array Bool)(a:Act)(w:Wd),qj ops aB->
   (∀j oj,ops[j]? = some oj->j≠i->aB.getD j true=false->(∀e∈oj.after,Region.binds .any e=true->e.on≠i)->oi.apart ops oj=true)->
   i∈Region.ready .any ops aB->YieldsIf P ops S oi v a->S w->
   mZ P ops Q S fuel (aB.setIfInBounds i true) (a.put oi.dst v) w->mZ P ops Q S (fuel+1) aB a w:=by
 intro fuel
 induction fuel with
 | zero=>
  intro aB a w _ _ hr hy hS H;refine⟨fun h=>(by rw[h]at hr;cases hr),fun j hj=>?_⟩;by_cases V_:j=i
  .subst V_;exact hy.wpOp hi hS ⟨.inl hS,H⟩
  .have:=ready_mono hj V_;rw[H.1]at this
   cases this
 | succ fuel ih=>
  intro aB a w zJ Yn hr hy hS H;refine⟨fun h=>(by rw[h]at hr;cases hr),fun j hj=>?_⟩;by_cases V_:j=i
  .subst V_;exact hy.wpOp hi hS ⟨.inl hS,H⟩
  .have h1:=H.2 j (ready_mono hj V_);obtain⟨aca,oj,hoj,nK⟩:=mem_ready.1 hj
   have Nk:∀e∈oj.after,Region.binds .any e=true->e.on≠i:=fun e he hb heq=>by
    have h1:=nK e he hb;rw[heq,(KD hr).2]at h1;cases h1
   have h2:=wpOp_putIf hoj (Yn j oj hoj V_ aca Nk) (fun cs b=>ab9 i oi cs b hi) (fun cs b=>ab9 j oj cs b hoj) hQ hy h1
   have Z3:∀k ok,ops[k]? = some ok->k≠i->(aB.setIfInBounds j true).getD k true=false->
     (∀e∈ok.after,Region.binds .any e=true->e.on≠i)->oi.apart ops ok=true:=fun k ok hk hki Ym VE=>by
    refine Yn k ok hk hki ?_ VE;by_cases hjk:j=k
    .subst hjk;exact aca
    .rw[getD_set_ne true hjk]at Ym;exact Ym
   have Gd:=SG zJ hj hr V_;refine wpOp_mono (fun a' w' h3=>?_) h2;have Ge:S w':=h3.2.1.resolve_right (by rw[Gd];decide);refine⟨.inl Ge,ih (aB.setIfInBounds j true) a' w' (zJ.set hj) Z3 (ready_mono hr (Ne.symm V_)) h3.1 Ge ?_⟩;rw[Array.setIfInBounds_comm _ _ V_];exact h3.2.2
theorem KE{i:Nat}{oi:Oper}{v:Value}{fuel:Nat}{aB:Array Bool}{a:Act}{w:Wd}(hi:ops[i]? = some oi)(hc:qj ops aB)
  (hs:Region.noSelect ops=true) (hf:Region.free .any ops aB i=true) (hr:(Region.ready .any ops aB).contains i=true)
  (hQ:∀c a w,Q (.panic c) (a.put oi.dst v) w->Q (.panic c) a w) (hy:YieldsIf P ops S oi v a) (hS:S w)
  (h:mZ P ops Q S fuel (aB.setIfInBounds i true) (a.put oi.dst v) w):mZ P ops Q S (fuel+1) aB a w:=
 Ia hi (Region.noSelect_spec hs) hQ fuel aB a w hc (Region.free_spec hi hf) (by simpa using hr) hy hS h
theorem oF{rs:List Nat}{fuel:Nat}{aB:Array Bool}{a:Act}{w:Wd}(hr:Region.ready .any ops aB=rs)(du:rs≠[])
  (h:∀i∈rs,wpOp P ops Q i (fun a' w'=>(S w'∨Er ops i=true)/\mZ P ops Q S fuel (aB.setIfInBounds i true) a' w') a w):mZ P ops Q S (fuel+1) aB a w:=
 ⟨fun h0=>absurd (hr ▸ h0) du,hr ▸ h⟩
theorem uD{aB:Array Bool}{a:Act}{w:Wd}(hr:Region.ready .any ops aB=[])(h:Q .normal a w) :
  ∀fuel,mZ P ops Q S fuel aB a w
 | 0=>⟨hr,h⟩
 | _+1=>⟨fun _=>h,by rw[hr];simp⟩
theorem KF{id:Nat}{a:Act}{w:Wd}(hm:P.follows .mixedOrders=true)
  (h:mZ P ops Q S ops.size (Array.replicate ops.size false) a { w with drawn:=w.drawn+1 }):(Code.region id ops true).wp P Q a w:=
 wp_region_any hm (Es _ _ _ _ h)
end
end Go.V
