/- Texts for LWitnessNone, part 15. -/
import Derived.WalkKit
import Derived.ProofKit
import Derived.OpenShut
import Derived.ShutString
import Derived.ChangeOld
import Derived.Below
import Derived.Test.YtmbckodpbdlblaaGreatQw14
namespace Go.V
open Go.RowKit
theorem Ext.below {w w':Wd} (h:Ext No w w'):Below w.heap.size w w':=⟨h.os,h.tape,h.output,h.size,fun k hk=>h.blk k hk id⟩
def fieldsOf (P:Program) (t:TypeId):Array Field:=match P.underlying t with
  | some (.struct fs)=>fs
  | _=>#[]
def TyR {H:Type} (enc:TypeId×Value→H) (P:Program) (w:Wd) (t:TypeId) (cs:List Value):Prop:=∃ fuel x,DataW.trod enc P w 0 (fun _=>true) true fuel t cs=some x
section
variable {H:Type} {enc:TypeId×Value→H} {P:Program} {w:Wd} {t:TypeId}
theorem Trod.tyR {v:Value} {d:DataW H} {ps:List MemPlace} (h:DataW.Trod enc P w 0 (fun _=>true) true t v d ps):TyR enc P w t v.cells.toList:=by
  obtain ⟨f,hf⟩:=h; exact ⟨f,_,hf⟩
theorem TyR.int {k:IntKind} {cs:List Value} (hu:P.underlying t=some (.int k)) (h:TyR enc P w t cs):∃ n,cs=[.int k n]∧(Lit.int k n).wf=true:=by
  obtain ⟨f,x,hf⟩:=h
  cases f with
  | zero=>simp [DataW.trod] at hf
  | succ f =>
    match cs with
    | []=>simp [DataW.trod,hu] at hf
    | [v] =>
      cases v <;> simp [DataW.trod,hu] at hf
      rename_i k' n
      obtain ⟨⟨rfl,hw⟩,_⟩:=hf
      exact ⟨n,rfl,hw⟩
    | _::_::_=>simp [DataW.trod,hu] at hf
theorem TyR.bool {cs:List Value} (hu:P.underlying t=some .bool) (h:TyR enc P w t cs):∃ b,cs=[.bool b]:=by
  obtain ⟨f,x,hf⟩:=h
  cases f with
  | zero=>simp [DataW.trod] at hf
  | succ f =>
    match cs with
    | []=>simp [DataW.trod,hu] at hf
    | [v] =>
      cases v <;> simp [DataW.trod,hu] at hf
      exact ⟨_,rfl⟩
    | _::_::_=>simp [DataW.trod,hu] at hf
theorem TyR.string {cs:List Value} (hu:P.underlying t=some .string) (h:TyR enc P w t cs):∃ s,cs=[.string s]∧s.size≤maxLen:=by
  obtain ⟨f,x,hf⟩:=h
  cases f with
  | zero=>simp [DataW.trod] at hf
  | succ f =>
    match cs with
    | []=>simp [DataW.trod,hu] at hf
    | [v] =>
      cases v <;> simp [DataW.trod,hu] at hf
      exact ⟨_,rfl,hf.1⟩
    | _::_::_=>simp [DataW.trod,hu] at hf
theorem mapM_all {α β:Type} {f:α→Option β}:∀ {l:List α} {ys:List β},l.mapM f=some ys→ys.length=l.length∧∀ x∈l,∃ y,f x=some y
  | [],ys,h=>by simp at h; subst h; simp
  | a::l,ys,h=>by
    rw [List.mapM_cons] at h
    cases ha:f a with
    | none=>simp [ha] at h
    | some b =>
      cases hl:l.mapM f with
      | none=>simp [ha,hl] at h
      | some bs =>
        simp [ha,hl] at h
        subst h
        obtain ⟨h1,h2⟩:=mapM_all hl
        refine ⟨by simp [h1],fun x hx=>?_⟩
        rcases List.mem_cons.1 hx with rfl | hx
        · exact ⟨b,ha⟩
        · exact h2 x hx
theorem mapM_get {α β:Type} {f:α→Option β}:∀ {l:List α} {ys:List β},l.mapM f=some ys→∀ i (h:i < l.length) (h':i < ys.length),f l[i]=some ys[i]
  | [],ys,h,i,hi,_=>by simp at hi
  | a::l,ys,h,i,hi,hi'=>by
    rw [List.mapM_cons] at h
    cases ha:f a with
    | none=>simp [ha] at h
    | some b =>
      cases hl:l.mapM f with
      | none=>simp [ha,hl] at h
      | some bs =>
        simp [ha,hl] at h
        subst h
        cases i with
        | zero=>exact ha
        | succ i=>exact mapM_get hl i (by simpa using hi) (by simpa using hi')
theorem TyR.struct {fs:Array Field} {cs:List Value} (hu:P.underlying t=some (.struct fs)) (h:TyR enc P w t cs) :
    cs.length=P.cellsOf t∧∀ f∈fs.toList,TyR enc P w f.type ((cs.drop f.offset).take (P.cellsOf f.type)):=by
  obtain ⟨f,x,hf⟩:=h
  cases f with
  | zero=>simp [DataW.trod] at hf
  | succ f =>
    have hf':(if cs.length=P.cellsOf t then (fs.toList.mapM fun g=>DataW.trod enc P w 0 (fun _=>true) true f g.type ((cs.drop g.offset).take (P.cellsOf g.type))).map fun xs=>(DataW.agg (xs.map (·.1)),xs.flatMap (·.2)) else none)=some x:=by
      rw [← hf]
      simp only [DataW.trod,hu]
    split at hf'
    · rename_i hl
      refine ⟨hl,fun g hg=>?_⟩
      simp only [Option.map_eq_some_iff] at hf'
      obtain ⟨xs,hxs,_⟩:=hf'
      obtain ⟨y,hy⟩:=(mapM_all hxs).2 g hg
      exact ⟨f,y,hy⟩
    · cases hf'
structure Elems (enc:TypeId×Value→H) (P:Program) (w:Wd) (e:TypeId) (s:Sl) (ess:List (List Value)):Prop where
  num:ess.length=s.len
  each:∀ es∈ess,es.length=P.cellsOf e∧TyR enc P w e es
  cap:s.len≤s.cap
  max:s.cap≤maxLen
  at_:s.len≠0→∃ a,s.a=some a∧∀ i (hi:i < ess.length) j (hj:j < ess[i].length),w.cell? ((a.add (i * P.cellsOf e)).add j)=some ess[i][j]
theorem TyR.slice {e:TypeId} {cs:List Value} (hu:P.underlying t=some (.slice e)) (h:TyR enc P w t cs):∃ s:Sl,cs=[s.v]∧∃ ess,Elems enc P w e s ess:=by
  obtain ⟨f,x,hf⟩:=h
  cases f with
  | zero=>simp [DataW.trod] at hf
  | succ f =>
    match cs with
    | []=>simp [DataW.trod,hu] at hf
    | _::_::_=>simp [DataW.trod,hu] at hf
    | [v] =>
      cases v <;> (try simp [DataW.trod,hu] at hf; done)
      rename_i a len cap
      cases a with
      | none =>
        have:len=0∧cap=0:=by
          cases len <;> cases cap <;> simp [DataW.trod,hu] at hf <;> simp
        obtain ⟨rfl,rfl⟩:=this
        exact ⟨⟨none,0,0⟩,rfl,[],rfl,by simp,Nat.le_refl _,Nat.zero_le _,fun h=>absurd rfl h⟩
      | some a =>
        refine ⟨⟨some a,len,cap⟩,rfl,?_⟩
        simp only [DataW.trod,hu] at hf
        split at hf
        · rename_i hc
          simp only [Option.bind_eq_some_iff] at hf
          obtain ⟨elems,hel,_⟩:=hf
          have hlen:=(mapM_all hel).1
          simp only [List.length_range] at hlen
          have hget:∀ i,i < len→∃ es y,w.cells? 0 (a.add (i * P.cellsOf e)) (P.cellsOf e)=some es∧DataW.trod enc P w 0 (fun _=>true) true f e es=some y:=fun i hi=>by
            obtain ⟨y,hy⟩:=(mapM_all hel).2 i (by simpa using hi)
            simp only [Option.bind_eq_some_iff] at hy
            obtain ⟨es,h1,h2⟩:=hy
            exact ⟨es,y,h1,h2⟩
          obtain ⟨g,hg⟩ : ∃ g:Nat→List Value,∀ i,i < len→∃ y,w.cells? 0 (a.add (i * P.cellsOf e)) (P.cellsOf e)=some (g i)∧DataW.trod enc P w 0 (fun _=>true) true f e (g i)=some y:=by
            refine ⟨fun i=>if h:i < len then Classical.choose (hget i h) else [],fun i hi=>?_⟩
            simp only [hi,dif_pos]
            exact Classical.choose_spec (hget i hi)
          have hcells:∀ i,i < len→(g i).length=P.cellsOf e∧∀ j (hj:j < (g i).length),w.cell? ((a.add (i * P.cellsOf e)).add j)=some (g i)[j]:=fun i hi=>by
            obtain ⟨y,h1,_⟩:=hg i hi
            simp only [World.cells?,Nat.zero_le,if_true] at h1
            have hl:=(mapM_all h1).1
            simp only [List.length_range] at hl
            refine ⟨hl,fun j hj=>?_⟩
            have:=mapM_get h1 j (by simp; omega) hj
            simpa using this
          refine ⟨(List.range len).map g,by simp,?_,hc.2.1,hc.2.2,fun _=>⟨a,rfl,?_⟩⟩
          · intro es hes
            obtain ⟨i,hi,rfl⟩:=List.mem_map.1 hes
            simp only [List.mem_range] at hi
            obtain ⟨y,_,h2⟩:=hg i hi
            exact ⟨(hcells i hi).1,f,y,h2⟩
          · intro i hi j hj
            simp only [List.length_map,List.length_range] at hi
            simp only [List.getElem_map,List.getElem_range] at hj ⊢
            exact (hcells i hi).2 j hj
        · cases hf
theorem Elems.rd {e:TypeId} {s:Sl} {ess:List (List Value)} (h:Elems enc P w e s ess) {sz:Nat} (hsz:P.cellsOf e=sz) (hpos:0 < sz) (hc:∀ es∈ess,∀ v∈es,oneC v=true):Rd w.heap s sz ess.flatten:=by
  subst hsz
  have hall:∀ es∈ess,es.length=P.cellsOf e:=fun es hes=>(h.each es hes).1
  have hlen:ess.flatten.length=s.len * P.cellsOf e:=by
    rw [← h.num]
    clear h hc
    induction ess with
    | nil=>simp
    | cons x r ih=>simp [ih (fun es hes=>hall es (by simp [hes])),hall x (by simp),Nat.add_mul]; omega
  refine ⟨hlen,h.cap,fun hne=>?_,fun v hv=>?_⟩
  · have hn0:s.len≠0:=fun e0=>hne (by have:=hlen; rw [e0,Nat.zero_mul] at this; exact List.length_eq_zero_iff.1 this)
    obtain ⟨a,ha,hcl⟩:=h.at_ hn0
    have hspot:a.spot=none:=by
      have h0:0 < ess.length:=by rw [h.num]; omega
      have hl0:0 < ess[0].length:=by rw [hall _ (List.getElem_mem _)]; exact hpos
      have:=hcl 0 h0 0 hl0
      simp only [Nat.zero_mul] at this
      have e0:(a.add 0).add 0=a:=by simp [Addr.add]
      rw [e0] at this
      unfold World.cell? at this
      split at this
      · split at this
        · cases this
        · rename_i hs; simpa using hs
      · cases this
    obtain ⟨ab,ao,ax⟩:=a
    simp only at hspot
    subst hspot
    refine ⟨ab,ao,ha,fun i hi=>?_⟩
    have key:∀ (ess:List (List Value)) (k:Nat),(∀ es∈ess,es.length=P.cellsOf e)→(∀ i (hi:i < ess.length) j (hj:j < ess[i].length),hcell w.heap ab (ao+(k+i) * P.cellsOf e+j)=some ess[i][j]) →
        ∀ i (hi:i < ess.flatten.length),hcell w.heap ab (ao+k * P.cellsOf e+i)=some ess.flatten[i]:=by
      intro ess
      induction ess with
      | nil=>intro k _ _ i hi; simp at hi
      | cons x r ih =>
        intro k hl hc i hi
        have hx:x.length=P.cellsOf e:=hl x (by simp)
        simp only [List.flatten_cons] at hi ⊢
        by_cases hix:i < x.length
        · rw [List.getElem_append_left hix]
          have:=hc 0 (by simp) i (by simpa using hix)
          simpa using this
        · rw [List.getElem_append_right (by omega)]
          have:=ih (k+1) (fun es hes=>hl es (by simp [hes])) (fun i hi j hj=>by
            have:=hc (i+1) (by simpa using hi) j (by simpa using hj)
            simpa [Nat.add_assoc,Nat.add_comm 1 i] using this) (i - x.length) (by rw [List.length_append] at hi; omega)
          rw [← this]
          congr 1
          rw [Nat.add_mul]; omega
    have:=key ess 0 hall (fun i hi j hj=>by
      have:=hcl i hi j hj
      rw [addr_add_none (a:=⟨ab,ao,none⟩) rfl,addr_add_none (a:=⟨ab,_,none⟩) rfl,cell_eq] at this
      simpa using this) i hi
    simpa using this
  · obtain ⟨es,hes,hv⟩:=List.mem_flatten.1 hv
    exact hc es hes v hv
theorem Elems.ints {e:TypeId} {s:Sl} {ess:List (List Value)} {k:IntKind} (h:Elems enc P w e s ess) (hu:P.underlying e=some (.int k)) (hsz:P.cellsOf e=1) :
    ∃ l:List Int,Rd w.heap s 1 (l.map (Value.int k))∧∀ x∈l,k.min≤x∧x≤k.max:=by
  have hex:∀ es∈ess,∃ n,es=[.int k n]∧k.min≤n∧n≤k.max:=fun es hes=>by
    obtain ⟨n,h1,h2⟩:=((h.each es hes).2).int hu
    exact ⟨n,h1,by simpa [Lit.wf] using h2⟩
  have key:∀ ess:List (List Value),(∀ es∈ess,∃ n,es=[.int k n]∧k.min≤n∧n≤k.max)→∃ l:List Int,ess.flatten=l.map (Value.int k)∧∀ x∈l,k.min≤x∧x≤k.max:=by
    intro ess
    induction ess with
    | nil=>intro _; exact ⟨[],rfl,by simp⟩
    | cons x r ih =>
      intro hx
      obtain ⟨l,h1,h2⟩:=ih fun es hes=>hx es (by simp [hes])
      obtain ⟨n,rfl,hn⟩:=hx x (by simp)
      exact ⟨n::l,by simp [h1],fun y hy=>by rcases List.mem_cons.1 hy with rfl | hy; exact hn; exact h2 y hy⟩
  obtain ⟨l,h1,h2⟩:=key ess hex
  refine ⟨l,?_,h2⟩
  rw [← h1]
  refine h.rd hsz (by decide) fun es hes v hv=>?_
  obtain ⟨n,rfl,_⟩:=hex es hes
  simp at hv; subst hv; rfl
theorem Elems.bytes {e:TypeId} {s:Sl} {ess:List (List Value)} (h:Elems enc P w e s ess) (hu:P.underlying e=some (.int .u8)) (hsz:P.cellsOf e=1) :
    ∃ l:List Int,Rd w.heap s 1 (l.map (Value.int .u8))∧B8 l:=by
  obtain ⟨l,h1,h2⟩:=h.ints hu hsz
  exact ⟨l,h1,fun x hx=>by have:=h2 x hx; simpa [IntKind.min,IntKind.max,IntKind.signed,IntKind.bits] using this⟩
theorem TyR.field {fs:Array Field} {cs:List Value} (hu:P.underlying t=some (.struct fs)) (h:TyR enc P w t cs) {f:Field} {j:Nat} (hf:fs[j]? = some f) (h1:P.cellsOf f.type=1) (ho:f.offset < P.cellsOf t) :
    ∃ v,cs[f.offset]? = some v∧TyR enc P w f.type [v]:=by
  obtain ⟨hl,hall⟩:=h.struct hu
  have hm:f∈fs.toList:=by have:=Array.mem_of_getElem? hf; simpa using this
  have:=hall f hm
  rw [h1] at this
  have hlt:f.offset < cs.length:=by rw [hl]; exact ho
  refine ⟨cs[f.offset],List.getElem?_eq_getElem hlt,?_⟩
  rw [List.drop_eq_getElem_cons hlt,List.take_succ_cons,List.take_zero] at this
  exact this
end
end Go.V
