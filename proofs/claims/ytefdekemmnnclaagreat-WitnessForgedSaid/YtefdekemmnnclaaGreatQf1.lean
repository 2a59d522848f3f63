/- Texts for LWitnessForged, part 1. -/
import Derived.OrdersHeld
namespace Go.V
abbrev Wd:= World
abbrev Pw:=Wd->Prop
section
variable {P:Program} {ops:Array Oper} {Q:Exit->Act->Pw} {S:Pw}
def aaa(ops:Array Oper)(j i:Nat):Bool:=match ops[j]? with
 | some oj=>oj.after.toList.any fun e=>Region.binds .any e && (Nat.beq e.on i || match ops[e.on]? with
   | some om=>om.after.toList.any fun e'=>Region.binds .any e' && Nat.beq e'.on i
   | none=>false)
 | none=>false
def CN(ops:Array Oper)(j:Nat):Bool:=(List.range ops.size).all fun i=>Nat.beq i j || aaa ops j i
def pH(ops:Array Oper)(aC:Array Bool):Prop:=∀m om,ops[m]? = some om->aC.getD m true=true->∀e∈om.after,Region.binds .any e=true->aC.getD e.on false=true
theorem pH.start:pH ops (Array.replicate ops.size false):=by
 intro m om hm hl;have aV:m < ops.size:=(Array.getElem?_eq_some_iff.1 hm).1;simp[aV]at hl
theorem pH.set{aC:Array Bool}{j:Nat}(h:pH ops aC)(hj:j∈Region.ready .any ops aC):pH ops (aC.setIfInBounds j true):=by
 intro m om hm hl e he hb;by_cases hmj:j=m
 .subst hmj;obtain⟨_,o,ho,lV⟩:=mem_ready.1 hj;rw[hm]at ho;cases ho;exact getD_set_true (lV e he hb)
 .rw[getD_set_ne true hmj]at hl;exact getD_set_true (h m om hm hl e he hb)
theorem Il{aC:Array Bool}{i:Nat}(hi:i∈Region.ready .any ops aC):i < ops.size/\aC.getD i false=false:=by
 obtain⟨h0,o,ho,_⟩:=mem_ready.1 hi;refine⟨(Array.getElem?_eq_some_iff.1 ho).1,?_⟩;rcases Nat.lt_or_ge i aC.size with h | h
 .simp[h]at h0 ⊢;exact h0
 .simp[Array.getElem?_eq_none h]
theorem Qa{aC:Array Bool}{i j:Nat}(h:pH ops aC)(hj:j∈Region.ready .any ops aC)(hi:i∈Region.ready .any ops aC)(dz:j≠i):CN ops j=false:=by
 cases hl:CN ops j with
 | false=>rfl
 | true=>
  exfalso;obtain⟨aV,Vj⟩:=Il hi;obtain⟨_,oj,hoj,lV⟩:=mem_ready.1 hj;simp only[CN,List.all_eq_true,List.mem_range,Bool.or_eq_true]at hl;rcases hl i aV with he | hd
  .exact dz (Nat.eq_of_beq_eq_true he).symm
  .simp only[aaa,hoj,List.any_eq_true,Bool.and_eq_true,Bool.or_eq_true]at hd;obtain⟨e,he,hb,hor⟩:=hd;have he':e∈oj.after:=by simpa using he
   have h1:=lV e he' hb;rcases hor with heq | hm
   .have:=Nat.eq_of_beq_eq_true heq;rw[this,Vj]at h1;cases h1
   .split at hm
    .rename_i om hom;simp only[List.any_eq_true,Bool.and_eq_true]at hm;obtain⟨e2,he2,Cz,heq⟩:=hm;have acH:e2∈om.after:=by simpa using he2
     have h2:aC.getD e.on true=true:=by
      rcases Nat.lt_or_ge e.on aC.size with h | h
      .simp[h]at h1 ⊢;exact h1
      .simp[Array.getElem?_eq_none h]
     have h3:=h e.on om hom h2 e2 acH Cz;have:=Nat.eq_of_beq_eq_true heq;rw[this,Vj]at h3;cases h3
    .cases hm
def mA(P:Program)(ops:Array Oper)(Q:Exit->Act->Pw)(S:Pw):Nat->Array Bool->Act->Pw
 | 0,aC,a,w=>Region.ready .any ops aC=[]/\Q .normal a w
 | fuel+1,aC,a,w=>
  (Region.ready .any ops aC=[]->Q .normal a w)/\
  ∀i∈Region.ready .any ops aC,wpOp P ops Q i (fun a' w'=>(S w'∨CN ops i=true)/\mA P ops Q S fuel (aC.setIfInBounds i true) a' w') a w
theorem CO:∀(fuel:Nat)(aC:Array Bool)(a:Act)(w:Wd),mA P ops Q S fuel aC a w->wpAny P .any ops Q fuel aC a w
 | 0,_,_,_,h=>h
 | fuel+1,_,_,_,h=>⟨h.1,fun i hi=>wpOp_mono (fun a' w' h'=>CO fuel _ a' w' h'.2) (h.2 i hi)⟩
theorem Ga{i:Nat}{oi:Oper}{v:Value}(hi:ops[i]? = some oi)(aab:∀(j:Nat)(o:Oper) cs b,ops[j]? = some o->o.op ≠ .select cs b)
  (hQ:∀c a w,Q (.panic c) (a.put oi.dst v) w->Q (.panic c) a w) :
  ∀(fuel:Nat)(aC:Array Bool)(a:Act)(w:Wd),pH ops aC->
   (∀j oj,ops[j]? = some oj->j≠i->aC.getD j true=false->(∀e∈oj.after,Region.binds .any e=true->e.on≠i)->oi.apart ops oj=true)->
   i∈Region.ready .any ops aC->YieldsIf P ops S oi v a->S w->
   mA P ops Q S fuel (aC.setIfInBounds i true) (a.put oi.dst v) w->mA P ops Q S (fuel+1) aC a w:=by
 intro fuel
 induction fuel with
 | zero=>
  intro aC a w _ _ hr hy hS H;refine⟨fun h=>(by rw[h]at hr;cases hr),fun j hj=>?_⟩;by_cases K5:j=i
  .subst K5;exact hy.wpOp hi hS ⟨.inl hS,H⟩
  .have:=ready_mono hj K5;rw[H.1]at this
   cases this
 | succ fuel ih=>
  intro aC a w zZ Vk hr hy hS H;refine⟨fun h=>(by rw[h]at hr;cases hr),fun j hj=>?_⟩;by_cases K5:j=i
  .subst K5;exact hy.wpOp hi hS ⟨.inl hS,H⟩
  .have h1:=H.2 j (ready_mono hj K5);obtain⟨aac,oj,hoj,lV⟩:=mem_ready.1 hj
   have Gb:∀e∈oj.after,Region.binds .any e=true->e.on≠i:=fun e he hb heq=>by
    have h1:=lV e he hb;rw[heq,(Il hr).2]at h1;cases h1
   have h2:=wpOp_putIf hoj (Vk j oj hoj K5 aac Gb) (fun cs b=>aab i oi cs b hi) (fun cs b=>aab j oj cs b hoj) hQ hy h1
   have WW:∀k ok,ops[k]? = some ok->k≠i->(aC.setIfInBounds j true).getD k true=false->
     (∀e∈ok.after,Region.binds .any e=true->e.on≠i)->oi.apart ops ok=true:=fun k ok hk hki Vj Zw=>by
    refine Vk k ok hk hki ?_ Zw;by_cases hjk:j=k
    .subst hjk;exact aac
    .rw[getD_set_ne true hjk]at Vj;exact Vj
   have qj:=Qa zZ hj hr K5;refine wpOp_mono (fun a' w' h3=>?_) h2;have ED:S w':=h3.2.1.resolve_right (by rw[qj];decide);refine⟨.inl ED,ih (aC.setIfInBounds j true) a' w' (zZ.set hj) WW (ready_mono hr (Ne.symm K5)) h3.1 ED ?_⟩;rw[Array.setIfInBounds_comm _ _ K5];exact h3.2.2
theorem Im{i:Nat}{oi:Oper}{v:Value}{fuel:Nat}{aC:Array Bool}{a:Act}{w:Wd}(hi:ops[i]? = some oi)(hc:pH ops aC)
  (hs:Region.noSelect ops=true) (hf:Region.free .any ops aC i=true) (hr:(Region.ready .any ops aC).contains i=true)
  (hQ:∀c a w,Q (.panic c) (a.put oi.dst v) w->Q (.panic c) a w) (hy:YieldsIf P ops S oi v a) (hS:S w)
  (h:mA P ops Q S fuel (aC.setIfInBounds i true) (a.put oi.dst v) w):mA P ops Q S (fuel+1) aC a w:=
 Ga hi (Region.noSelect_spec hs) hQ fuel aC a w hc (Region.free_spec hi hf) (by simpa using hr) hy hS h
theorem nF{rs:List Nat}{fuel:Nat}{aC:Array Bool}{a:Act}{w:Wd}(hr:Region.ready .any ops aC=rs)(dz:rs≠[])
  (h:∀i∈rs,wpOp P ops Q i (fun a' w'=>(S w'∨CN ops i=true)/\mA P ops Q S fuel (aC.setIfInBounds i true) a' w') a w):mA P ops Q S (fuel+1) aC a w:=
 ⟨fun h0=>absurd (hr ▸ h0) dz,hr ▸ h⟩
theorem ud{aC:Array Bool}{a:Act}{w:Wd}(hr:Region.ready .any ops aC=[])(h:Q .normal a w) :
  ∀fuel,mA P ops Q S fuel aC a w
 | 0=>⟨hr,h⟩
 | _+1=>⟨fun _=>h,by rw[hr];simp⟩
theorem Io{id:Nat}{a:Act}{w:Wd}(hm:P.follows .mixedOrders=true)
  (h:mA P ops Q S ops.size (Array.replicate ops.size false) a { w with drawn:=w.drawn+1 }):(Code.region id ops true).wp P Q a w:=
 wp_region_any hm (CO _ _ _ _ h)
end
end Go.V
