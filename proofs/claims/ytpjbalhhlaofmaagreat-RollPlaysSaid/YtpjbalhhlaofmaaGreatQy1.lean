/- Texts for LRollPlays, part 1. -/
import Derived.OrdersHeld
namespace Go.V
abbrev Wd:= World
abbrev Pw:=Wd->Prop
section
variable {P:Program} {ops:Array Oper} {Q:Exit->Act->Pw} {S:Pw}
def aaa(ops:Array Oper)(j i:Nat):Bool:=match ops[j]? with
 | some oj=>oj.after.toList.any fun e=>Region.binds .any e && (Nat.beq e.on i || match ops[e.on]? with
   | some om=>om.after.toList.any fun e'=>Region.binds .any e' && Nat.beq e'.on i
   | none=>false)
 | none=>false
def BH(ops:Array Oper)(j:Nat):Bool:=(List.range ops.size).all fun i=>Nat.beq i j || aaa ops j i
def oZ(ops:Array Oper)(az:Array Bool):Prop:=∀m om,ops[m]? = some om->az.getD m true=true->∀e∈om.after,Region.binds .any e=true->az.getD e.on false=true
theorem oZ.start:oZ ops (Array.replicate ops.size false):=by
 intro m om hm hl;have cL:m < ops.size:=(Array.getElem?_eq_some_iff.1 hm).1;simp[cL]at hl
theorem oZ.set{az:Array Bool}{j:Nat}(h:oZ ops az)(hj:j∈Region.ready .any ops az):oZ ops (az.setIfInBounds j true):=by
 intro m om hm hl e he hb;by_cases hmj:j=m
 .subst hmj;obtain⟨_,o,ho,ff⟩:=mem_ready.1 hj;rw[hm]at ho;cases ho;exact getD_set_true (ff e he hb)
 .rw[getD_set_ne true hmj]at hl;exact getD_set_true (h m om hm hl e he hb)
theorem ID{az:Array Bool}{i:Nat}(hi:i∈Region.ready .any ops az):i < ops.size/\az.getD i false=false:=by
 obtain⟨h0,o,ho,_⟩:=mem_ready.1 hi;refine⟨(Array.getElem?_eq_some_iff.1 ho).1,?_⟩;rcases Nat.lt_or_ge i az.size with h | h
 .simp[h]at h0 ⊢;exact h0
 .simp[Array.getElem?_eq_none h]
theorem Qw{az:Array Bool}{i j:Nat}(h:oZ ops az)(hj:j∈Region.ready .any ops az)(hi:i∈Region.ready .any ops az)(bC:j≠i):BH ops j=false:=by
 cases hl:BH ops j with
 | false=>rfl
 | true=>
  exfalso;obtain⟨cL,Vz⟩:=ID hi;obtain⟨_,oj,hoj,ff⟩:=mem_ready.1 hj;simp only[BH,List.all_eq_true,List.mem_range,Bool.or_eq_true]at hl;rcases hl i cL with he | hd
  .exact bC (Nat.eq_of_beq_eq_true he).symm
  .simp only[aaa,hoj,List.any_eq_true,Bool.and_eq_true,Bool.or_eq_true]at hd;obtain⟨e,he,hb,hor⟩:=hd;have WT:e∈oj.after:=by simpa using he
   have h1:=ff e WT hb;rcases hor with heq | hm
   .have:=Nat.eq_of_beq_eq_true heq;rw[this,Vz]at h1;cases h1
   .split at hm
    .rename_i om hom;simp only[List.any_eq_true,Bool.and_eq_true]at hm;obtain⟨e2,Zm,lO,heq⟩:=hm;have ac5:e2∈om.after:=by simpa using Zm
     have h2:az.getD e.on true=true:=by
      rcases Nat.lt_or_ge e.on az.size with h | h
      .simp[h]at h1 ⊢;exact h1
      .simp[Array.getElem?_eq_none h]
     have h3:=h e.on om hom h2 e2 ac5 lO;have:=Nat.eq_of_beq_eq_true heq;rw[this,Vz]at h3;cases h3
    .cases hm
def mr(P:Program)(ops:Array Oper)(Q:Exit->Act->Pw)(S:Pw):Nat->Array Bool->Act->Pw
 | 0,az,a,w=>Region.ready .any ops az=[]/\Q .normal a w
 | fuel+1,az,a,w=>
  (Region.ready .any ops az=[]->Q .normal a w)/\
  ∀i∈Region.ready .any ops az,wpOp P ops Q i (fun a' w'=>(S w'∨BH ops i=true)/\mr P ops Q S fuel (az.setIfInBounds i true) a' w') a w
theorem BI:∀(fuel:Nat)(az:Array Bool)(a:Act)(w:Wd),mr P ops Q S fuel az a w->wpAny P .any ops Q fuel az a w
 | 0,_,_,_,h=>h
 | fuel+1,_,_,_,h=>⟨h.1,fun i hi=>wpOp_mono (fun a' w' h'=>BI fuel _ a' w' h'.2) (h.2 i hi)⟩
theorem Gu{i:Nat}{oi:Oper}{v:Value}(hi:ops[i]? = some oi)(aab:∀(j:Nat)(o:Oper) cs b,ops[j]? = some o->o.op ≠ .select cs b)
  (hQ:∀c a w,Q (.panic c) (a.put oi.dst v) w->Q (.panic c) a w) :
  ∀(fuel:Nat)(az:Array Bool)(a:Act)(w:Wd),oZ ops az->
   (∀j oj,ops[j]? = some oj->j≠i->az.getD j true=false->(∀e∈oj.after,Region.binds .any e=true->e.on≠i)->oi.apart ops oj=true)->
   i∈Region.ready .any ops az->YieldsIf P ops S oi v a->S w->
   mr P ops Q S fuel (az.setIfInBounds i true) (a.put oi.dst v) w->mr P ops Q S (fuel+1) az a w:=by
 intro fuel
 induction fuel with
 | zero=>
  intro az a w _ _ hr hy hS H;refine⟨fun h=>(by rw[h]at hr;cases hr),fun j hj=>?_⟩;by_cases BJ:j=i
  .subst BJ;exact hy.wpOp hi hS ⟨.inl hS,H⟩
  .have:=ready_mono hj BJ;rw[H.1]at this
   cases this
 | succ fuel ih=>
  intro az a w ss iD hr hy hS H;refine⟨fun h=>(by rw[h]at hr;cases hr),fun j hj=>?_⟩;by_cases BJ:j=i
  .subst BJ;exact hy.wpOp hi hS ⟨.inl hS,H⟩
  .have h1:=H.2 j (ready_mono hj BJ);obtain⟨aac,oj,hoj,ff⟩:=mem_ready.1 hj
   have Gv:∀e∈oj.after,Region.binds .any e=true->e.on≠i:=fun e he hb heq=>by
    have h1:=ff e he hb;rw[heq,(ID hr).2]at h1;cases h1
   have h2:=wpOp_putIf hoj (iD j oj hoj BJ aac Gv) (fun cs b=>aab i oi cs b hi) (fun cs b=>aab j oj cs b hoj) hQ hy h1
   have WU:∀k ok,ops[k]? = some ok->k≠i->(az.setIfInBounds j true).getD k true=false->
     (∀e∈ok.after,Region.binds .any e=true->e.on≠i)->oi.apart ops ok=true:=fun k ok hk hki Vz DX=>by
    refine iD k ok hk hki ?_ DX;by_cases hjk:j=k
    .subst hjk;exact aac
    .rw[getD_set_ne true hjk]at Vz;exact Vz
   have Lc:=Qw ss hj hr BJ;refine wpOp_mono (fun a' w' h3=>?_) h2;have zC:S w':=h3.2.1.resolve_right (by rw[Lc];decide);refine⟨.inl zC,ih (az.setIfInBounds j true) a' w' (ss.set hj) WU (ready_mono hr (Ne.symm BJ)) h3.1 zC ?_⟩;rw[Array.setIfInBounds_comm _ _ BJ];exact h3.2.2
theorem IE{i:Nat}{oi:Oper}{v:Value}{fuel:Nat}{az:Array Bool}{a:Act}{w:Wd}(hi:ops[i]? = some oi)(hc:oZ ops az)
  (hs:Region.noSelect ops=true) (hf:Region.free .any ops az i=true) (hr:(Region.ready .any ops az).contains i=true)
  (hQ:∀c a w,Q (.panic c) (a.put oi.dst v) w->Q (.panic c) a w) (hy:YieldsIf P ops S oi v a) (hS:S w)
  (h:mr P ops Q S fuel (az.setIfInBounds i true) (a.put oi.dst v) w):mr P ops Q S (fuel+1) az a w:=
 Gu hi (Region.noSelect_spec hs) hQ fuel az a w hc (Region.free_spec hi hf) (by simpa using hr) hy hS h
theorem nD{rs:List Nat}{fuel:Nat}{az:Array Bool}{a:Act}{w:Wd}(hr:Region.ready .any ops az=rs)(bC:rs≠[])
  (h:∀i∈rs,wpOp P ops Q i (fun a' w'=>(S w'∨BH ops i=true)/\mr P ops Q S fuel (az.setIfInBounds i true) a' w') a w):mr P ops Q S (fuel+1) az a w:=
 ⟨fun h0=>absurd (hr ▸ h0) bC,hr ▸ h⟩
theorem sT{az:Array Bool}{a:Act}{w:Wd}(hr:Region.ready .any ops az=[])(h:Q .normal a w) :
  ∀fuel,mr P ops Q S fuel az a w
 | 0=>⟨hr,h⟩
 | _+1=>⟨fun _=>h,by rw[hr];simp⟩
theorem IF{id:Nat}{a:Act}{w:Wd}(hm:P.follows .mixedOrders=true)
  (h:mr P ops Q S ops.size (Array.replicate ops.size false) a { w with drawn:=w.drawn+1 }):(Code.region id ops true).wp P Q a w:=
 wp_region_any hm (BI _ _ _ _ h)
end
end Go.V
