/- Texts for LWitnessNone, part 1. -/
import Derived.OrdersHeld
namespace Go.V
abbrev Wd := World
section
variable {P:Program} {ops:Array Oper} {Q:Exit->Act->Wd->Prop} {S:Wd->Prop}
def depB(ops:Array Oper)(j i:Nat):Bool:=match ops[j]? with
 | some oj=>oj.after.toList.any fun e=>Region.binds .any e && (Nat.beq e.on i || match ops[e.on]? with
   | some om=>om.after.toList.any fun e'=>Region.binds .any e' && Nat.beq e'.on i
   | none=>false)
 | none=>false
def lastB(ops:Array Oper)(j:Nat):Bool:=(List.range ops.size).all fun i=>Nat.beq i j || depB ops j i
def Closed(ops:Array Oper)(listed:Array Bool):Prop:=∀ m om,ops[m]? = some om->listed.getD m true=true->∀ e∈om.after,Region.binds .any e=true->listed.getD e.on false=true
theorem Closed.start:Closed ops (Array.replicate ops.size false):=by
 intro m om hm hl
 have hlt:m < ops.size:=(Array.getElem?_eq_some_iff.1 hm).1
 simp [hlt] at hl
theorem Closed.set{listed:Array Bool}{j:Nat}(h:Closed ops listed)(hj:j∈Region.ready .any ops listed):Closed ops (listed.setIfInBounds j true):=by
 intro m om hm hl e he hb
 by_cases hmj:j=m
 .subst hmj
  obtain ⟨_,o,ho,hall⟩:=mem_ready.1 hj
  rw [hm] at ho; cases ho
  exact getD_set_true (hall e he hb)
 .rw [getD_set_ne true hmj] at hl
  exact getD_set_true (h m om hm hl e he hb)
theorem ready_lt{listed:Array Bool}{i:Nat}(hi:i∈Region.ready .any ops listed):i < ops.size/\listed.getD i false=false:=by
 obtain ⟨h0,o,ho,_⟩:=mem_ready.1 hi
 refine ⟨(Array.getElem?_eq_some_iff.1 ho).1,?_⟩
 rcases Nat.lt_or_ge i listed.size with h | h
 .simp [h] at h0 ⊢; exact h0
 .simp [Array.getElem?_eq_none h]
theorem not_last{listed:Array Bool}{i j:Nat}(h:Closed ops listed)(hj:j∈Region.ready .any ops listed)(hi:i∈Region.ready .any ops listed)(hne:j≠i):lastB ops j=false:=by
 cases hl:lastB ops j with
 | false=>rfl
 | true =>
  exfalso
  obtain ⟨hlt,hun⟩:=ready_lt hi
  obtain ⟨_,oj,hoj,hall⟩:=mem_ready.1 hj
  simp only [lastB,List.all_eq_true,List.mem_range,Bool.or_eq_true] at hl
  rcases hl i hlt with he | hd
  .exact hne (Nat.eq_of_beq_eq_true he).symm
  .simp only [depB,hoj,List.any_eq_true,Bool.and_eq_true,Bool.or_eq_true] at hd
   obtain ⟨e,he,hb,hor⟩:=hd
   have he':e∈oj.after:=by simpa using he
   have h1:=hall e he' hb
   rcases hor with heq | hm
   .have:=Nat.eq_of_beq_eq_true heq
    rw [this,hun] at h1; cases h1
   .split at hm
    .rename_i om hom
     simp only [List.any_eq_true,Bool.and_eq_true] at hm
     obtain ⟨e2,he2,hb2,heq⟩:=hm
     have he2':e2∈om.after:=by simpa using he2
     have h2:listed.getD e.on true=true:=by
      rcases Nat.lt_or_ge e.on listed.size with h | h
      .simp [h] at h1 ⊢; exact h1
      .simp [Array.getElem?_eq_none h]
     have h3:=h e.on om hom h2 e2 he2' hb2
     have:=Nat.eq_of_beq_eq_true heq
     rw [this,hun] at h3; cases h3
    .cases hm
def wpAnyL(P:Program)(ops:Array Oper)(Q:Exit->Act->Wd->Prop)(S:Wd->Prop):Nat->Array Bool->Act->Wd->Prop
 | 0,listed,a,w=>Region.ready .any ops listed=[]/\Q .normal a w
 | fuel+1,listed,a,w =>
  (Region.ready .any ops listed=[]->Q .normal a w) /\
  ∀ i∈Region.ready .any ops listed,wpOp P ops Q i (fun a' w'=>(S w'∨lastB ops i=true)/\wpAnyL P ops Q S fuel (listed.setIfInBounds i true) a' w') a w
theorem wpAny_of_L:∀(fuel:Nat)(listed:Array Bool)(a:Act)(w:Wd),wpAnyL P ops Q S fuel listed a w->wpAny P .any ops Q fuel listed a w
 | 0,_,_,_,h=>h
 | fuel+1,_,_,_,h=>⟨h.1,fun i hi=>wpOp_mono (fun a' w' h'=>wpAny_of_L fuel _ a' w' h'.2) (h.2 i hi)⟩
theorem wpAnyL_first{i:Nat}{oi:Oper}{v:Value}(hi:ops[i]? = some oi)(hsel:∀(j:Nat)(o:Oper) cs b,ops[j]? = some o->o.op ≠ .select cs b)
  (hQ:∀ c a w,Q (.panic c) (a.put oi.dst v) w->Q (.panic c) a w) :
  ∀(fuel:Nat)(listed:Array Bool)(a:Act)(w:Wd),Closed ops listed ->
   (∀ j oj,ops[j]? = some oj->j≠i->listed.getD j true=false->(∀ e∈oj.after,Region.binds .any e=true->e.on≠i)->oi.apart ops oj=true) ->
   i∈Region.ready .any ops listed->YieldsIf P ops S oi v a->S w ->
   wpAnyL P ops Q S fuel (listed.setIfInBounds i true) (a.put oi.dst v) w->wpAnyL P ops Q S (fuel+1) listed a w:=by
 intro fuel
 induction fuel with
 | zero =>
  intro listed a w _ _ hr hy hS H
  refine ⟨fun h=>(by rw [h] at hr; cases hr),fun j hj=>?_⟩
  by_cases hji:j=i
  .subst hji; exact hy.wpOp hi hS ⟨.inl hS,H⟩
  .have:=ready_mono hj hji
   rw [H.1] at this
   cases this
 | succ fuel ih =>
  intro listed a w hcl hfree hr hy hS H
  refine ⟨fun h=>(by rw [h] at hr; cases hr),fun j hj=>?_⟩
  by_cases hji:j=i
  .subst hji; exact hy.wpOp hi hS ⟨.inl hS,H⟩
  .have h1:=H.2 j (ready_mono hj hji)
   obtain ⟨hjun,oj,hoj,hall⟩:=mem_ready.1 hj
   have hnot:∀ e∈oj.after,Region.binds .any e=true->e.on≠i:=fun e he hb heq=>by
    have h1:=hall e he hb
    rw [heq,(ready_lt hr).2] at h1; cases h1
   have h2:=wpOp_putIf hoj (hfree j oj hoj hji hjun hnot) (fun cs b=>hsel i oi cs b hi) (fun cs b=>hsel j oj cs b hoj) hQ hy h1
   have hfree':∀ k ok,ops[k]? = some ok->k≠i->(listed.setIfInBounds j true).getD k true=false ->
     (∀ e∈ok.after,Region.binds .any e=true->e.on≠i)->oi.apart ops ok=true:=fun k ok hk hki hun hno=>by
    refine hfree k ok hk hki ?_ hno
    by_cases hjk:j=k
    .subst hjk; exact hjun
    .rw [getD_set_ne true hjk] at hun; exact hun
   have hnl:=not_last hcl hj hr hji
   refine wpOp_mono (fun a' w' h3=>?_) h2
   have hS':S w':=h3.2.1.resolve_right (by rw [hnl]; decide)
   refine ⟨.inl hS',ih (listed.setIfInBounds j true) a' w' (hcl.set hj) hfree' (ready_mono hr (Ne.symm hji)) h3.1 hS' ?_⟩
   rw [Array.setIfInBounds_comm _ _ hji]
   exact h3.2.2
theorem wpAnyL_take{i:Nat}{oi:Oper}{v:Value}{fuel:Nat}{listed:Array Bool}{a:Act}{w:Wd}(hi:ops[i]? = some oi)(hc:Closed ops listed)
  (hs:Region.noSelect ops=true) (hf:Region.free .any ops listed i=true) (hr:(Region.ready .any ops listed).contains i=true)
  (hQ:∀ c a w,Q (.panic c) (a.put oi.dst v) w->Q (.panic c) a w) (hy:YieldsIf P ops S oi v a) (hS:S w)
  (h:wpAnyL P ops Q S fuel (listed.setIfInBounds i true) (a.put oi.dst v) w):wpAnyL P ops Q S (fuel+1) listed a w :=
 wpAnyL_first hi (Region.noSelect_spec hs) hQ fuel listed a w hc (Region.free_spec hi hf) (by simpa using hr) hy hS h
theorem wpAnyL_all{rs:List Nat}{fuel:Nat}{listed:Array Bool}{a:Act}{w:Wd}(hr:Region.ready .any ops listed=rs)(hne:rs≠[])
  (h:∀ i∈rs,wpOp P ops Q i (fun a' w'=>(S w'∨lastB ops i=true)/\wpAnyL P ops Q S fuel (listed.setIfInBounds i true) a' w') a w):wpAnyL P ops Q S (fuel+1) listed a w :=
 ⟨fun h0=>absurd (hr ▸ h0) hne,hr ▸ h⟩
theorem wpAnyL_done{listed:Array Bool}{a:Act}{w:Wd}(hr:Region.ready .any ops listed=[])(h:Q .normal a w) :
  ∀ fuel,wpAnyL P ops Q S fuel listed a w
 | 0=>⟨hr,h⟩
 | _+1=>⟨fun _=>h,by rw [hr]; simp⟩
theorem wp_region_L{id:Nat}{a:Act}{w:Wd}(hm:P.follows .mixedOrders=true)
  (h:wpAnyL P ops Q S ops.size (Array.replicate ops.size false) a { w with drawn:=w.drawn+1 }):(Code.region id ops true).wp P Q a w :=
 wp_region_any hm (wpAny_of_L _ _ _ _ h)
end
end Go.V
