/- Texts for LRollSame,LRollBytes,LRollReads,LRollNone, part 18. -/
import Derived.WalkKit
import Derived.ProofKit
import Derived.OpenShut
import Derived.ShutString
import Derived.ChangeOld
import Derived.Below
import Derived.Test.YtpjbalhhlaofmaaGreatQv17
namespace Go.V
open Go.RowKit
theorem Ext.below {w w':Wd} (h:Ext No w w'):Below w.heap.size w w':=⟨h.os,h.tape,h.output,h.size,fun k hk=>h.aj k hk id⟩
def fieldsOf (P:Program) (t:TypeId):Array Field:=match P.underlying t with
  | some (.struct fs)=>fs
  | _=>#[]
def wu (P:Program) (t:TypeId) (j:Nat):Field:=((fieldsOf P t)[j]?).getD default
def CU {H:Type} (enc:TypeId×Value→H) (P:Program) (w:Wd) (t:TypeId) (cs:List Value):Prop:=∃fuel x,DataW.trod enc P w 0 (fun _=>true) true fuel t cs=some x
section
variable {H:Type} {enc:TypeId×Value→H} {P:Program} {w:Wd} {t:TypeId}
theorem Trod.Rb {v:Value} {d:DataW H} {ps:List MemPlace} (h:DataW.Trod enc P w 0 (fun _=>true) true t v d ps):CU enc P w t v.cells.toList:=by
  obtain⟨f,hf⟩:=h;exact⟨f,_,hf⟩
theorem CU.int {k:IntKind} {cs:List Value} (hu:P.underlying t=some (.int k)) (h:CU enc P w t cs):∃n,cs=[.int k n]∧(Lit.int k n).wf=true:=by
  obtain⟨f,x,hf⟩:=h
  cases f with
  | zero=>simp[DataW.trod]at hf
  | succ f=>
    match cs with
    | []=>simp[DataW.trod,hu]at hf
    | [v]=>
      cases v <;> simp[DataW.trod,hu]at hf
      rename_i k' n;obtain⟨⟨rfl,hw⟩,_⟩:=hf;exact⟨n,rfl,hw⟩
    | _::_::_=>simp[DataW.trod,hu]at hf
theorem CU.bool {cs:List Value} (hu:P.underlying t=some .bool) (h:CU enc P w t cs):∃b,cs=[.bool b]:=by
  obtain⟨f,x,hf⟩:=h
  cases f with
  | zero=>simp[DataW.trod]at hf
  | succ f=>
    match cs with
    | []=>simp[DataW.trod,hu]at hf
    | [v]=>
      cases v <;> simp[DataW.trod,hu]at hf
      exact⟨_,rfl⟩
    | _::_::_=>simp[DataW.trod,hu]at hf
theorem CU.string {cs:List Value} (hu:P.underlying t=some .string) (h:CU enc P w t cs):∃s,cs=[.string s]∧s.size≤maxLen:=by
  obtain⟨f,x,hf⟩:=h
  cases f with
  | zero=>simp[DataW.trod]at hf
  | succ f=>
    match cs with
    | []=>simp[DataW.trod,hu]at hf
    | [v]=>
      cases v <;> simp[DataW.trod,hu]at hf
      exact⟨_,rfl,hf.1⟩
    | _::_::_=>simp[DataW.trod,hu]at hf
theorem jy {α β:Type} {f:α→Option β}:∀{l:List α} {ys:List β},l.mapM f=some ys→ys.length=l.length∧∀x∈l,∃y,f x=some y
  | [],ys,h=>by simp at h;subst h;simp
  | a::l,ys,h=>by
    rw[List.mapM_cons]at h
    cases ha:f a with
    | none=>simp[ha]at h
    | some b=>
      cases hl:l.mapM f with
      | none=>simp[ha,hl]at h
      | some bs=>
        simp[ha,hl]at h;subst h;obtain⟨h1,h2⟩:=jy hl;refine⟨by simp[h1],fun x hx=>?_⟩;rcases List.mem_cons.1 hx with rfl | hx
        · exact⟨b,ha⟩
        · exact h2 x hx
theorem rY {α β:Type} {f:α→Option β}:∀{l:List α} {ys:List β},l.mapM f=some ys→∀i (h:i < l.length) (h':i < ys.length),f l[i]=some ys[i]
  | [],ys,h,i,hi,_=>by simp at hi
  | a::l,ys,h,i,hi,iO=>by
    rw[List.mapM_cons]at h
    cases ha:f a with
    | none=>simp[ha]at h
    | some b=>
      cases hl:l.mapM f with
      | none=>simp[ha,hl]at h
      | some bs=>
        simp[ha,hl]at h;subst h
        cases i with
        | zero=>exact ha
        | succ i=>exact rY hl i (by simpa using hi) (by simpa using iO)
theorem CU.struct {fs:Array Field} {cs:List Value} (hu:P.underlying t=some (.struct fs)) (h:CU enc P w t cs) :
    cs.length=P.cellsOf t∧∀f∈fs.toList,CU enc P w f.type ((cs.drop f.offset).take (P.cellsOf f.type)):=by
  obtain⟨f,x,hf⟩:=h
  cases f with
  | zero=>simp[DataW.trod]at hf
  | succ f=>
    have lf:(if cs.length=P.cellsOf t then(fs.toList.mapM fun g=>DataW.trod enc P w 0 (fun _=>true) true f g.type ((cs.drop g.offset).take (P.cellsOf g.type))).map fun xs=>(DataW.agg (xs.map (·.1)),xs.flatMap (·.2)) else none)=some x:=by
      rw[← hf];simp only[DataW.trod,hu]
    split at lf
    · rename_i hl;refine⟨hl,fun g hg=>?_⟩;simp only[Option.map_eq_some_iff]at lf;obtain⟨xs,ZS,_⟩:=lf;obtain⟨y,hy⟩:=(jy ZS).2 g hg;exact⟨f,y,hy⟩
    · cases lf
structure ti (enc:TypeId×Value→H) (P:Program) (w:Wd) (e:TypeId) (s:Sl) (gi:List (List Value)):Prop where
  num:gi.length=s.len
  each:∀es∈gi,es.length=P.cellsOf e∧CU enc P w e es
  cap:s.len≤s.cap
  max:s.cap≤maxLen
  at_:s.len≠0→∃a,s.a=some a∧∀i (hi:i < gi.length) j (hj:j < gi[i].length),w.cell? ((a.add (i * P.cellsOf e)).add j)=some gi[i][j]
theorem CU.slice {e:TypeId} {cs:List Value} (hu:P.underlying t=some (.slice e)) (h:CU enc P w t cs):∃s:Sl,cs=[s.v]∧∃gi,ti enc P w e s gi:=by
  obtain⟨f,x,hf⟩:=h
  cases f with
  | zero=>simp[DataW.trod]at hf
  | succ f=>
    match cs with
    | []=>simp[DataW.trod,hu]at hf
    | _::_::_=>simp[DataW.trod,hu]at hf
    | [v]=>
      cases v <;> (try simp[DataW.trod,hu]at hf;done)
      rename_i a len cap
      cases a with
      | none=>
        have:len=0∧cap=0:=by
          cases len <;> cases cap <;> simp[DataW.trod,hu]at hf <;> simp
        obtain⟨rfl,rfl⟩:=this;exact⟨⟨none,0,0⟩,rfl,[],rfl,by simp,Nat.le_refl _,Nat.zero_le _,fun h=>absurd rfl h⟩
      | some a=>
        refine⟨⟨some a,len,cap⟩,rfl,?_⟩;simp only[DataW.trod,hu]at hf;split at hf
        · rename_i hc;simp only[Option.bind_eq_some_iff]at hf;obtain⟨elems,NL,_⟩:=hf;have hlen:=(jy NL).1;simp only[List.length_range]at hlen
          have Rc:∀i,i < len→∃es y,w.cells? 0 (a.add (i * P.cellsOf e)) (P.cellsOf e)=some es∧DataW.trod enc P w 0 (fun _=>true) true f e es=some y:=fun i hi=>by
            obtain⟨y,hy⟩:=(jy NL).2 i (by simpa using hi);simp only[Option.bind_eq_some_iff]at hy;obtain⟨es,h1,h2⟩:=hy;exact⟨es,y,h1,h2⟩
          obtain⟨g,hg⟩ : ∃g:Nat→List Value,∀i,i < len→∃y,w.cells? 0 (a.add (i * P.cellsOf e)) (P.cellsOf e)=some (g i)∧DataW.trod enc P w 0 (fun _=>true) true f e (g i)=some y:=by
            refine⟨fun i=>if h:i < len then Classical.choose (Rc i h) else[],fun i hi=>?_⟩;simp only[hi,dif_pos];exact Classical.choose_spec (Rc i hi)
          have BX:∀i,i < len→(g i).length=P.cellsOf e∧∀j (hj:j < (g i).length),w.cell? ((a.add (i * P.cellsOf e)).add j)=some (g i)[j]:=fun i hi=>by
            obtain⟨y,h1,_⟩:=hg i hi;simp only[World.cells?,Nat.zero_le,if_true]at h1;have hl:=(jy h1).1;simp only[List.length_range]at hl;refine⟨hl,fun j hj=>?_⟩;have:=rY h1 j (by simp;omega) hj;simpa using this
          refine⟨(List.range len).map g,by simp,?_,hc.2.1,hc.2.2,fun _=>⟨a,rfl,?_⟩⟩
          · intro es qx;obtain⟨i,hi,rfl⟩:=List.mem_map.1 qx;simp only[List.mem_range]at hi;obtain⟨y,_,h2⟩:=hg i hi;exact⟨(BX i hi).1,f,y,h2⟩
          · intro i hi j hj;simp only[List.length_map,List.length_range]at hi;simp only[List.getElem_map,List.getElem_range]at hj ⊢;exact(BX i hi).2 j hj
        · cases hf
theorem ti.rd {e:TypeId} {s:Sl} {gi:List (List Value)} (h:ti enc P w e s gi) {sz:Nat} (gZ:P.cellsOf e=sz) (tv:0 < sz) (hc:∀es∈gi,∀v∈es,aJ v=true):Rd w.heap s sz gi.flatten:=by
  subst gZ;have dT:∀es∈gi,es.length=P.cellsOf e:=fun es qx=>(h.each es qx).1
  have hlen:gi.flatten.length=s.len * P.cellsOf e:=by
    rw[← h.num];clear h hc
    induction gi with
    | nil=>simp
    | cons x r ih=>simp[ih (fun es qx=>dT es (by simp[qx])),dT x (by simp),Nat.add_mul];omega
  refine⟨hlen,h.cap,fun bA=>?_,fun v hv=>?_⟩
  · have wm:s.len≠0:=fun e0=>bA (by have:=hlen;rw[e0,Nat.zero_mul]at this;exact List.length_eq_zero_iff.1 this)
    obtain⟨a,ha,qE⟩:=h.at_ wm
    have U0:a.spot=none:=by
      have h0:0 < gi.length:=by rw[h.num];omega
      have XB:0 < gi[0].length:=by rw[dT _ (List.getElem_mem _)];exact tv
      have:=qE 0 h0 0 XB;simp only[Nat.zero_mul]at this;have e0:(a.add 0).add 0=a:=by simp[Addr.add]
      rw[e0]at this;unfold World.cell? at this;split at this
      · split at this
        · cases this
        · rename_i hs;simpa using hs
      · cases this
    obtain⟨ab,ao,ax⟩:=a;simp only at U0;subst U0;refine⟨ab,ao,ha,fun i hi=>?_⟩
    have key:∀ (gi:List (List Value)) (k:Nat),(∀ es∈gi,es.length=P.cellsOf e)→(∀ i (hi:i < gi.length) j (hj:j < gi[i].length),bS w.heap ab (ao+(k+i) * P.cellsOf e+j)=some gi[i][j]) →
        ∀i (hi:i < gi.flatten.length),bS w.heap ab (ao+k * P.cellsOf e+i)=some gi.flatten[i]:=by
      intro gi
      induction gi with
      | nil=>intro k _ _ i hi;simp at hi
      | cons x r ih=>
        intro k hl hc i hi;have hx:x.length=P.cellsOf e:=hl x (by simp);simp only[List.flatten_cons]at hi ⊢;by_cases Vr:i < x.length
        · rw[List.getElem_append_left Vr];have:=hc 0 (by simp) i (by simpa using Vr);simpa using this
        · rw[List.getElem_append_right (by omega)]
          have:=ih (k+1) (fun es qx=>hl es (by simp[qx])) (fun i hi j hj=>by
            have:=hc (i+1) (by simpa using hi) j (by simpa using hj)
            simpa[Nat.add_assoc,Nat.add_comm 1 i] using this) (i - x.length) (by rw[List.length_append]at hi;omega)
          rw[← this];congr 1;rw[Nat.add_mul];omega
    have:=key gi 0 dT (fun i hi j hj=>by
      have:=qE i hi j hj;rw[aw (a:=⟨ab,ao,none⟩) rfl,aw (a:=⟨ab,_,none⟩) rfl,lU]at this
      simpa using this) i hi
    simpa using this
  · obtain⟨es,qx,hv⟩:=List.mem_flatten.1 hv;exact hc es qx v hv
theorem ti.ints {e:TypeId} {s:Sl} {gi:List (List Value)} {k:IntKind} (h:ti enc P w e s gi) (hu:P.underlying e=some (.int k)) (gZ:P.cellsOf e=1) :
    ∃l:List Int,Rd w.heap s 1 (l.map (Value.int k))∧∀x∈l,k.min≤x∧x≤k.max:=by
  have hex:∀es∈gi,∃n,es=[.int k n]∧k.min≤n∧n≤k.max:=fun es qx=>by
    obtain⟨n,h1,h2⟩:=((h.each es qx).2).int hu;exact⟨n,h1,by simpa[Lit.wf] using h2⟩
  have key:∀gi:List (List Value),(∀es∈gi,∃n,es=[.int k n]∧k.min≤n∧n≤k.max)→∃l:List Int,gi.flatten=l.map (Value.int k)∧∀x∈l,k.min≤x∧x≤k.max:=by
    intro gi
    induction gi with
    | nil=>intro _;exact⟨[],rfl,by simp⟩
    | cons x r ih=>
      intro hx;obtain⟨l,h1,h2⟩:=ih fun es qx=>hx es (by simp[qx])
      obtain⟨n,rfl,hn⟩:=hx x (by simp);exact⟨n::l,by simp[h1],fun y hy=>by rcases List.mem_cons.1 hy with rfl | hy;exact hn;exact h2 y hy⟩
  obtain⟨l,h1,h2⟩:=key gi hex;refine⟨l,?_,h2⟩;rw[← h1];refine h.rd gZ (by decide) fun es qx v hv=>?_
  obtain⟨n,rfl,_⟩:=hex es qx;simp at hv;subst hv;rfl
theorem ti.bytes {e:TypeId} {s:Sl} {gi:List (List Value)} (h:ti enc P w e s gi) (hu:P.underlying e=some (.int .u8)) (gZ:P.cellsOf e=1) :
    ∃l:List Int,Rd w.heap s 1 (l.map (Value.int .u8))∧B8 l:=by
  obtain⟨l,h1,h2⟩:=h.ints hu gZ;exact⟨l,h1,fun x hx=>by have:=h2 x hx;simpa[IntKind.min,IntKind.max,IntKind.signed,IntKind.bits] using this⟩
theorem CU.field {fs:Array Field} {cs:List Value} (hu:P.underlying t=some (.struct fs)) (h:CU enc P w t cs) {f:Field} {j:Nat} (hf:fs[j]? = some f) (h1:P.cellsOf f.type=1) (ho:f.offset < P.cellsOf t) :
    ∃v,cs[f.offset]? = some v∧CU enc P w f.type [v]:=by
  obtain⟨hl,dT⟩:=h.struct hu;have hm:f∈fs.toList:=by have:=Array.mem_of_getElem? hf;simpa using this
  have:=dT f hm;rw[h1]at this;have cF:f.offset < cs.length:=by rw[hl];exact ho
  refine⟨cs[f.offset],List.getElem?_eq_getElem cF,?_⟩;rw[List.drop_eq_getElem_cons cF,List.take_succ_cons,List.take_zero]at this;exact this
theorem CU.wu {cs:List Value} (h:CU enc P w t cs) (j:Nat) {o n:Nat} (hu:P.underlying t=some (.struct (fieldsOf P t))) (hf:(fieldsOf P t)[j]? = some (wu P t j)) (h1:P.cellsOf (wu P t j).type=1)
    (ho:(wu P t j).offset=o) (hn:P.cellsOf t=n) (cF:o < n):∃v,cs[o]? = some v∧CU enc P w (wu P t j).type [v]:=by
  subst ho hn;exact h.field hu hf h1 cF
theorem ti.list {e:TypeId} {s:Sl} {gi:List (List Value)} {α:Type} (h:ti enc P w e s gi) (c:α→List Value) (p:α→Prop) (hex:∀ es,es.length=P.cellsOf e→CU enc P w e es→∃ x,es=c x∧p x)
    {sz:Nat} (gZ:P.cellsOf e=sz) (tv:0 < sz) (hc:∀x,p x→∀v∈c x,aJ v=true):∃l:List α,l.length=s.len∧Rd w.heap s sz (l.flatMap c)∧∀x∈l,p x:=by
  have key:∀gi:List (List Value),(∀es∈gi,∃x,es=c x∧p x)→∃l:List α,l.length=gi.length∧gi=l.map c∧∀x∈l,p x:=by
    intro gi
    induction gi with
    | nil=>intro _;exact⟨[],rfl,rfl,by simp⟩
    | cons x r ih=>
      intro hx;obtain⟨l,h0,h1,h2⟩:=ih fun es qx=>hx es (by simp[qx])
      obtain⟨n,rfl,hn⟩:=hx x (by simp);exact⟨n::l,by simp[h0],by simp[h1],fun y hy=>by rcases List.mem_cons.1 hy with rfl | hy;exact hn;exact h2 y hy⟩
  obtain⟨l,h0,h1,h2⟩:=key gi fun es qx=>hex es (h.each es qx).1 (h.each es qx).2
  refine⟨l,by rw[h0,h.num],?_,h2⟩
  have:=h.rd gZ tv fun es qx v hv=>by
    rw[h1]at qx;obtain⟨x,hx,rfl⟩:=List.mem_map.1 qx;exact hc x (h2 x hx) v hv
  rw[h1]at this
  rwa [← List.flatMap_def]at this
end
end Go.V
