/- Texts for LPlayUnlines,LPlayParses,LPlayTexts,LPlayNotes,LPlayLines, part 17. -/
import Derived.SizedLaws
import Derived.Test.YtimonamjecmlcaaGreatDoorPp16
namespace Go.V
section
variable {H:Type} {enc:TypeId×Value→H} {P:Program} {w:Wd} {t:TypeId}
theorem weights_all {e:TypeId}:∀ {ds:List (DataW H)} {d:DataW H},d∈ds→∀ n∈d.weights P e,n∈DataW.weightsAll P e ds
  | d0::ds,d,hd,n,hn=>by
    simp only [DataW.weightsAll,List.mem_append]
    rcases List.mem_cons.1 hd with rfl | hd
    · exact .inl hn
    · exact .inr (weights_all hd n hn)
def TyRS {H:Type} (enc:TypeId×Value→H) (P:Program) (w:Wd) (t:TypeId) (cs:List Value):Prop:=∃ fuel x,DataW.trod enc P w 0 (fun _=>true) true fuel t cs=some x∧∀ n∈x.1.weights P t,n≤reachBytes
theorem TyRS.tyR {cs:List Value} (h:TyRS enc P w t cs):TyR enc P w t cs:=by obtain ⟨f,x,hx,_⟩:=h; exact ⟨f,x,hx⟩
theorem Trod.tyRS {v:Value} {d:DataW H} {ps:List MemPlace} {ts:List TypeId} {ds:List (DataW H)} (h:DataW.Trod enc P w 0 (fun _=>true) true t v d ps) (hsz:(DataW.weightsEach P ts ds).all (·≤reachBytes)=true) (j:Nat) (ht:ts[j]? = some t) (hd:ds[j]? = some d) :
    TyRS enc P w t v.cells.toList:=by
  obtain ⟨f,hf⟩:=h
  refine ⟨f,_,hf,fun n hn=>?_⟩
  have:=List.all_eq_true.1 hsz n (DataW.weights_mem_each ht hd n hn)
  simpa using this
theorem TyRS.fldN {cs:List Value} (h:TyRS enc P w t cs) (j:Nat) {o m:Nat} (hu:P.underlying t=some (.struct (fieldsOf P t))) (hf:(fieldsOf P t)[j]? = some (fld P t j)) (h1:P.cellsOf (fld P t j).type=m)
    (ho:(fld P t j).offset=o):TyRS enc P w (fld P t j).type ((cs.drop o).take m):=by
  subst ho h1
  obtain ⟨f,x,hx,hw⟩:=h
  cases f with
  | zero=>simp [DataW.trod] at hx
  | succ f =>
    have hf':(if cs.length=P.cellsOf t then ((fieldsOf P t).toList.mapM fun g=>DataW.trod enc P w 0 (fun _=>true) true f g.type ((cs.drop g.offset).take (P.cellsOf g.type))).map fun xs=>(DataW.agg (xs.map (·.1)),xs.flatMap (·.2)) else none)=some x:=by
      rw [← hx]
      simp only [DataW.trod,hu]
    split at hf'
    · rename_i hl
      simp only [Option.map_eq_some_iff] at hf'
      obtain ⟨xs,hxs,he⟩:=hf'
      have hlen:=(mapM_all hxs).1
      obtain ⟨hj,hjv⟩:=Array.getElem?_eq_some_iff.1 hf
      have hj1:j < (fieldsOf P t).toList.length:=by simpa using hj
      have hj2:j < xs.length:=by omega
      have hg:=mapM_get hxs j hj1 hj2
      have e1:(fieldsOf P t).toList[j]=fld P t j:=by rw [← hjv]; simp
      rw [e1] at hg
      refine ⟨f,xs[j],hg,fun n hn=>hw n ?_⟩
      rw [← he]
      simp only [DataW.weights,hu]
      refine DataW.weights_mem_each (j:=j) (t:=(fld P t j).type) (d:=xs[j].1) ?_ ?_ n hn
      · rw [List.getElem?_map,List.getElem?_eq_getElem hj1,e1]; rfl
      · rw [List.getElem?_map,List.getElem?_eq_getElem hj2]; rfl
    · cases hf'
theorem TyRS.fld {cs:List Value} (h:TyRS enc P w t cs) (j:Nat) {o n:Nat} (hu:P.underlying t=some (.struct (fieldsOf P t))) (hf:(fieldsOf P t)[j]? = some (fld P t j)) (h1:P.cellsOf (fld P t j).type=1)
    (ho:(Go.V.fld P t j).offset=o) (hn:cs.length=n) (hlt:o < n):∃ v,cs[o]? = some v∧TyRS enc P w (Go.V.fld P t j).type [v]:=by
  have:=h.fldN j hu hf h1 ho
  have hl:o < cs.length:=by omega
  refine ⟨cs[o],List.getElem?_eq_getElem hl,?_⟩
  rw [List.drop_eq_getElem_cons hl,List.take_succ_cons,List.take_zero] at this
  exact this
theorem TyRS.string {cs:List Value} (hu:P.underlying t=some .string) (h:TyRS enc P w t cs):∃ s,cs=[.string s]∧s.size≤reachBytes:=by
  obtain ⟨s,rfl,_⟩:=h.tyR.string hu
  refine ⟨s,rfl,?_⟩
  obtain ⟨f,x,hx,hw⟩:=h
  cases f with
  | zero=>simp [DataW.trod] at hx
  | succ f =>
    simp only [DataW.trod,hu] at hx
    have key:x=(DataW.lit (Lit.string s.data.toList),[]):=by
      revert hx; split <;> intro hx <;> cases hx <;> rfl
    subst key
    have:=hw s.data.toList.length (List.mem_singleton.2 rfl)
    rw [Array.length_toList] at this
    exact this
structure ElemsS (enc:TypeId×Value→H) (P:Program) (w:Wd) (e:TypeId) (s:Sl) (ess:List (List Value)):Prop extends Elems enc P w e s ess where
  eachS:∀ es∈ess,TyRS enc P w e es
  sz:s.cap * P.bytesOf e≤reachBytes
theorem TyRS.slice {e:TypeId} {cs:List Value} (hu:P.underlying t=some (.slice e)) (h:TyRS enc P w t cs):∃ s:Sl,cs=[s.v]∧∃ ess,ElemsS enc P w e s ess:=by
  obtain ⟨f,x,hf,hw⟩:=h
  cases f with
  | zero=>simp [DataW.trod] at hf
  | succ f =>
    match cs with
    | []=>simp [DataW.trod,hu] at hf
    | _::_::_=>simp [DataW.trod,hu] at hf
    | [v] =>
      cases v <;> (try simp [DataW.trod,hu] at hf; done)
      rename_i a len cap
      cases a with
      | none =>
        have:len=0∧cap=0:=by
          cases len <;> cases cap <;> simp [DataW.trod,hu] at hf <;> simp
        obtain ⟨rfl,rfl⟩:=this
        exact ⟨⟨none,0,0⟩,rfl,[],⟨rfl,by simp,Nat.le_refl _,Nat.zero_le _,fun h=>absurd rfl h⟩,by simp,by simp⟩
      | some a =>
        refine ⟨⟨some a,len,cap⟩,rfl,?_⟩
        simp only [DataW.trod,hu] at hf
        split at hf
        · rename_i hc
          simp only [Option.bind_eq_some_iff,if_true,Option.map_eq_some_iff] at hf
          obtain ⟨elems,hel,rest,hre,heq⟩:=hf
          have hlen:=(mapM_all hel).1
          have hlen2:=(mapM_all hre).1
          simp only [List.length_range] at hlen hlen2
          rw [← heq] at hw
          simp only [DataW.weights,hu,List.mem_cons,List.mem_append] at hw
          have hget:∀ i,i < len→∃ es y,w.cells? 0 (a.add (i * P.cellsOf e)) (P.cellsOf e)=some es∧DataW.trod enc P w 0 (fun _=>true) true f e es=some y∧y∈elems:=fun i hi=>by
            have hy:=mapM_get hel i (by simpa using hi) (by omega)
            simp only [Option.bind_eq_some_iff,List.getElem_range] at hy
            obtain ⟨es,h1,h2⟩:=hy
            exact ⟨es,elems[i],h1,h2,List.getElem_mem _⟩
          obtain ⟨g,hg⟩ : ∃ g:Nat→List Value,∀ i,i < len→∃ y,w.cells? 0 (a.add (i * P.cellsOf e)) (P.cellsOf e)=some (g i)∧DataW.trod enc P w 0 (fun _=>true) true f e (g i)=some y∧y∈elems:=by
            refine ⟨fun i=>if h:i < len then Classical.choose (hget i h) else [],fun i hi=>?_⟩
            simp only [hi,dif_pos]
            exact Classical.choose_spec (hget i hi)
          have hcells:∀ i,i < len→(g i).length=P.cellsOf e∧∀ j (hj:j < (g i).length),w.cell? ((a.add (i * P.cellsOf e)).add j)=some (g i)[j]:=fun i hi=>by
            obtain ⟨y,h1,_⟩:=hg i hi
            simp only [World.cells?,Nat.zero_le,if_true] at h1
            have hl:=(mapM_all h1).1
            simp only [List.length_range] at hl
            refine ⟨hl,fun j hj=>?_⟩
            have:=mapM_get h1 j (by simp; omega) hj
            simpa using this
          have hes:∀ es∈(List.range len).map g,∃ i,i < len∧es=g i:=fun es hes=>by
            obtain ⟨i,hi,rfl⟩:=List.mem_map.1 hes
            exact ⟨i,by simpa using hi,rfl⟩
          refine ⟨(List.range len).map g,⟨by simp,?_,hc.2.1,hc.2.2,fun _=>⟨a,rfl,?_⟩⟩,?_,?_⟩
          · intro es h
            obtain ⟨i,hi,rfl⟩:=hes es h
            obtain ⟨y,_,h2,_⟩:=hg i hi
            exact ⟨(hcells i hi).1,f,y,h2⟩
          · intro i hi j hj
            simp only [List.length_map,List.length_range] at hi
            simp only [List.getElem_map,List.getElem_range] at hj ⊢
            exact (hcells i hi).2 j hj
          · intro es h
            obtain ⟨i,hi,rfl⟩:=hes es h
            obtain ⟨y,_,h2,h3⟩:=hg i hi
            exact ⟨f,y,h2,fun n hn=>hw n (.inr (.inl (weights_all (List.mem_map.2 ⟨y,h3,rfl⟩) n hn)))⟩
          · have:=hw _ (.inl rfl)
            simp only [List.length_map,hlen,hlen2] at this
            have e2:len+(cap - len)=cap:=by have:=hc.2.1; omega
            rw [e2] at this
            exact this
        · cases hf
theorem ElemsS.list {e:TypeId} {s:Sl} {ess:List (List Value)} {α:Type} (h:ElemsS enc P w e s ess) (c:α→List Value) (p:α→Prop) (hex:∀ es,es.length=P.cellsOf e→TyRS enc P w e es→∃ x,es=c x∧p x)
    {sz:Nat} (hsz:P.cellsOf e=sz) (hpos:0 < sz) (hc:∀ x,p x→∀ v∈c x,oneC v=true):∃ l:List α,l.length=s.len∧Rd w.heap s sz (l.flatMap c)∧∀ x∈l,p x:=by
  have key:∀ ess:List (List Value),(∀ es∈ess,∃ x,es=c x∧p x)→∃ l:List α,l.length=ess.length∧ess=l.map c∧∀ x∈l,p x:=by
    intro ess
    induction ess with
    | nil=>intro _; exact ⟨[],rfl,rfl,by simp⟩
    | cons x r ih =>
      intro hx
      obtain ⟨l,h0,h1,h2⟩:=ih fun es hes=>hx es (by simp [hes])
      obtain ⟨n,rfl,hn⟩:=hx x (by simp)
      exact ⟨n::l,by simp [h0],by simp [h1],fun y hy=>by rcases List.mem_cons.1 hy with rfl | hy; exact hn; exact h2 y hy⟩
  obtain ⟨l,h0,h1,h2⟩:=key ess fun es hes=>hex es (h.each es hes).1 (h.eachS es hes)
  refine ⟨l,by rw [h0,h.num],?_,h2⟩
  have:=h.rd hsz hpos fun es hes v hv=>by
    rw [h1] at hes
    obtain ⟨x,hx,rfl⟩:=List.mem_map.1 hes
    exact hc x (h2 x hx) v hv
  rw [h1] at this
  rwa [← List.flatMap_def] at this
theorem TyRS.bytes {cs:List Value} {e:TypeId} (hu:P.underlying t=some (.slice e)) (he:P.underlying e=some (.int .u8)) (hsz:P.cellsOf e=1) (hb:P.bytesOf e=1) (h:TyRS enc P w t cs) :
    ∃ (s:Sl) (l:List Int),cs=[s.v]∧Rd w.heap s 1 (l.map (Value.int .u8))∧B8 l∧s.len≤0x7ffffffff000:=by
  obtain ⟨s,rfl,ess,el⟩:=h.slice hu
  obtain ⟨l,rd,b8⟩:=el.bytes he hsz
  refine ⟨s,l,rfl,rd,b8,?_⟩
  have h1:=el.sz
  have h2:=el.cap
  rw [hb,Nat.mul_one] at h1
  exact Nat.le_trans h2 h1
end
end Go.V
