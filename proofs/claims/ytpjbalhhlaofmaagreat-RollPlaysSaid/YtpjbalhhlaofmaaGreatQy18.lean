/- Texts for LRollPlays, part 18. -/
import Derived.WalkKit
import Derived.ProofKit
import Derived.OpenShut
import Derived.ShutString
import Derived.ChangeOld
import Derived.Below
import Derived.Test.YtpjbalhhlaofmaaGreatQy17
namespace Go.V
open Go.RowKit
theorem Ext.below {w w':Wd} (h:Ext No w w'):Below w.heap.size w w':=⟨h.os,h.tape,h.output,h.size,fun k hk=>h.aq k hk id⟩
def fieldsOf (P:Program) (t:TypeId):Array Field:=match P.underlying t with
  | some (.struct fs)=>fs
  | _=>#[]
def xV (P:Program) (t:TypeId) (j:Nat):Field:=((fieldsOf P t)[j]?).getD default
def ER {H:Type} (enc:TypeId×Value→H) (P:Program) (w:Wd) (t:TypeId) (cs:List Value):Prop:=∃fuel x,DataW.trod enc P w 0 (fun _=>true) true fuel t cs=some x
section
variable {H:Type} {enc:TypeId×Value→H} {P:Program} {w:Wd} {t:TypeId}
theorem Trod.Qv {v:Value} {d:DataW H} {ps:List MemPlace} (h:DataW.Trod enc P w 0 (fun _=>true) true t v d ps):ER enc P w t v.cells.toList:=by
  obtain⟨f,hf⟩:=h;exact⟨f,_,hf⟩
theorem ER.int {k:IntKind} {cs:List Value} (hu:P.underlying t=some (.int k)) (h:ER enc P w t cs):∃n,cs=[.int k n]∧(Lit.int k n).wf=true:=by
  obtain⟨f,x,hf⟩:=h
  cases f with
  | zero=>simp[DataW.trod]at hf
  | succ f=>
    match cs with
    | []=>simp[DataW.trod,hu]at hf
    | [v]=>
      cases v <;> simp[DataW.trod,hu]at hf
      rename_i k' n;obtain⟨⟨rfl,hw⟩,_⟩:=hf;exact⟨n,rfl,hw⟩
    | _::_::_=>simp[DataW.trod,hu]at hf
theorem ER.bool {cs:List Value} (hu:P.underlying t=some .bool) (h:ER enc P w t cs):∃b,cs=[.bool b]:=by
  obtain⟨f,x,hf⟩:=h
  cases f with
  | zero=>simp[DataW.trod]at hf
  | succ f=>
    match cs with
    | []=>simp[DataW.trod,hu]at hf
    | [v]=>
      cases v <;> simp[DataW.trod,hu]at hf
      exact⟨_,rfl⟩
    | _::_::_=>simp[DataW.trod,hu]at hf
theorem ER.string {cs:List Value} (hu:P.underlying t=some .string) (h:ER enc P w t cs):∃s,cs=[.string s]∧s.size≤maxLen:=by
  obtain⟨f,x,hf⟩:=h
  cases f with
  | zero=>simp[DataW.trod]at hf
  | succ f=>
    match cs with
    | []=>simp[DataW.trod,hu]at hf
    | [v]=>
      cases v <;> simp[DataW.trod,hu]at hf
      exact⟨_,rfl,hf.1⟩
    | _::_::_=>simp[DataW.trod,hu]at hf
theorem kz {α β:Type} {f:α→Option β}:∀{l:List α} {ys:List β},l.mapM f=some ys→ys.length=l.length∧∀x∈l,∃y,f x=some y
  | [],ys,h=>by simp at h;subst h;simp
  | a::l,ys,h=>by
    rw[List.mapM_cons]at h
    cases ha:f a with
    | none=>simp[ha]at h
    | some b=>
      cases hl:l.mapM f with
      | none=>simp[ha,hl]at h
      | some bs=>
        simp[ha,hl]at h;subst h;obtain⟨h1,h2⟩:=kz hl;refine⟨by simp[h1],fun x hx=>?_⟩;rcases List.mem_cons.1 hx with rfl | hx
        · exact⟨b,ha⟩
        · exact h2 x hx
theorem ua {α β:Type} {f:α→Option β}:∀{l:List α} {ys:List β},l.mapM f=some ys→∀i (h:i < l.length) (h':i < ys.length),f l[i]=some ys[i]
  | [],ys,h,i,hi,_=>by simp at hi
  | a::l,ys,h,i,hi,iv=>by
    rw[List.mapM_cons]at h
    cases ha:f a with
    | none=>simp[ha]at h
    | some b=>
      cases hl:l.mapM f with
      | none=>simp[ha,hl]at h
      | some bs=>
        simp[ha,hl]at h;subst h
        cases i with
        | zero=>exact ha
        | succ i=>exact ua hl i (by simpa using hi) (by simpa using iv)
theorem ER.struct {fs:Array Field} {cs:List Value} (hu:P.underlying t=some (.struct fs)) (h:ER enc P w t cs) :
    cs.length=P.cellsOf t∧∀f∈fs.toList,ER enc P w f.type ((cs.drop f.offset).take (P.cellsOf f.type)):=by
  obtain⟨f,x,hf⟩:=h
  cases f with
  | zero=>simp[DataW.trod]at hf
  | succ f=>
    have my:(if cs.length=P.cellsOf t then(fs.toList.mapM fun g=>DataW.trod enc P w 0 (fun _=>true) true f g.type ((cs.drop g.offset).take (P.cellsOf g.type))).map fun xs=>(DataW.agg (xs.map (·.1)),xs.flatMap (·.2)) else none)=some x:=by
      rw[← hf];simp only[DataW.trod,hu]
    split at my
    · rename_i hl;refine⟨hl,fun g hg=>?_⟩;simp only[Option.map_eq_some_iff]at my;obtain⟨xs,hxs,_⟩:=my;obtain⟨y,hy⟩:=(kz hxs).2 g hg;exact⟨f,y,hy⟩
    · cases my
structure uY (enc:TypeId×Value→H) (P:Program) (w:Wd) (e:TypeId) (s:Sl) (h_:List (List Value)):Prop where
  num:h_.length=s.len
  each:∀es∈h_,es.length=P.cellsOf e∧ER enc P w e es
  cap:s.len≤s.cap
  max:s.cap≤maxLen
  at_:s.len≠0→∃a,s.a=some a∧∀i (hi:i < h_.length) j (hj:j < h_[i].length),w.cell? ((a.add (i * P.cellsOf e)).add j)=some h_[i][j]
theorem ER.slice {e:TypeId} {cs:List Value} (hu:P.underlying t=some (.slice e)) (h:ER enc P w t cs):∃s:Sl,cs=[s.v]∧∃h_,uY enc P w e s h_:=by
  obtain⟨f,x,hf⟩:=h
  cases f with
  | zero=>simp[DataW.trod]at hf
  | succ f=>
    match cs with
    | []=>simp[DataW.trod,hu]at hf
    | _::_::_=>simp[DataW.trod,hu]at hf
    | [v]=>
      cases v <;> (try simp[DataW.trod,hu]at hf;done)
      rename_i a len cap
      cases a with
      | none=>
        have:len=0∧cap=0:=by
          cases len <;> cases cap <;> simp[DataW.trod,hu]at hf <;> simp
        obtain⟨rfl,rfl⟩:=this;exact⟨⟨none,0,0⟩,rfl,[],rfl,by simp,Nat.le_refl _,Nat.zero_le _,fun h=>absurd rfl h⟩
      | some a=>
        refine⟨⟨some a,len,cap⟩,rfl,?_⟩;simp only[DataW.trod,hu]at hf;split at hf
        · rename_i hc;simp only[Option.bind_eq_some_iff]at hf;obtain⟨elems,Zj,_⟩:=hf;have hlen:=(kz Zj).1;simp only[List.length_range]at hlen
          have Tm:∀i,i < len→∃es y,w.cells? 0 (a.add (i * P.cellsOf e)) (P.cellsOf e)=some es∧DataW.trod enc P w 0 (fun _=>true) true f e es=some y:=fun i hi=>by
            obtain⟨y,hy⟩:=(kz Zj).2 i (by simpa using hi);simp only[Option.bind_eq_some_iff]at hy;obtain⟨es,h1,h2⟩:=hy;exact⟨es,y,h1,h2⟩
          obtain⟨g,hg⟩ : ∃g:Nat→List Value,∀i,i < len→∃y,w.cells? 0 (a.add (i * P.cellsOf e)) (P.cellsOf e)=some (g i)∧DataW.trod enc P w 0 (fun _=>true) true f e (g i)=some y:=by
            refine⟨fun i=>if h:i < len then Classical.choose (Tm i h) else[],fun i hi=>?_⟩;simp only[hi,dif_pos];exact Classical.choose_spec (Tm i hi)
          have DR:∀i,i < len→(g i).length=P.cellsOf e∧∀j (hj:j < (g i).length),w.cell? ((a.add (i * P.cellsOf e)).add j)=some (g i)[j]:=fun i hi=>by
            obtain⟨y,h1,_⟩:=hg i hi;simp only[World.cells?,Nat.zero_le,if_true]at h1;have hl:=(kz h1).1;simp only[List.length_range]at hl;refine⟨hl,fun j hj=>?_⟩;have:=ua h1 j (by simp;omega) hj;simpa using this
          refine⟨(List.range len).map g,by simp,?_,hc.2.1,hc.2.2,fun _=>⟨a,rfl,?_⟩⟩
          · intro es so;obtain⟨i,hi,rfl⟩:=List.mem_map.1 so;simp only[List.mem_range]at hi;obtain⟨y,_,h2⟩:=hg i hi;exact⟨(DR i hi).1,f,y,h2⟩
          · intro i hi j hj;simp only[List.length_map,List.length_range]at hi;simp only[List.getElem_map,List.getElem_range]at hj ⊢;exact(DR i hi).2 j hj
        · cases hf
theorem uY.rd {e:TypeId} {s:Sl} {h_:List (List Value)} (h:uY enc P w e s h_) {sz:Nat} (jw:P.cellsOf e=sz) (s_:0 < sz) (hc:∀es∈h_,∀v∈es,aN v=true):Rd w.heap s sz h_.flatten:=by
  subst jw;have ff:∀es∈h_,es.length=P.cellsOf e:=fun es so=>(h.each es so).1
  have hlen:h_.flatten.length=s.len * P.cellsOf e:=by
    rw[← h.num];clear h hc
    induction h_ with
    | nil=>simp
    | cons x r ih=>simp[ih (fun es so=>ff es (by simp[so])),ff x (by simp),Nat.add_mul];omega
  refine⟨hlen,h.cap,fun bC=>?_,fun v hv=>?_⟩
  · have yR:s.len≠0:=fun e0=>bC (by have:=hlen;rw[e0,Nat.zero_mul]at this;exact List.length_eq_zero_iff.1 this)
    obtain⟨a,ha,ss⟩:=h.at_ yR
    have WR:a.spot=none:=by
      have h0:0 < h_.length:=by rw[h.num];omega
      have Zv:0 < h_[0].length:=by rw[ff _ (List.getElem_mem _)];exact s_
      have:=ss 0 h0 0 Zv;simp only[Nat.zero_mul]at this;have e0:(a.add 0).add 0=a:=by simp[Addr.add]
      rw[e0]at this;unfold World.cell? at this;split at this
      · split at this
        · cases this
        · rename_i hs;simpa using hs
      · cases this
    obtain⟨ab,ao,ax⟩:=a;simp only at WR;subst WR;refine⟨ab,ao,ha,fun i hi=>?_⟩
    have key:∀ (h_:List (List Value)) (k:Nat),(∀ es∈h_,es.length=P.cellsOf e)→(∀ i (hi:i < h_.length) j (hj:j < h_[i].length),bq w.heap ab (ao+(k+i) * P.cellsOf e+j)=some h_[i][j]) →
        ∀i (hi:i < h_.flatten.length),bq w.heap ab (ao+k * P.cellsOf e+i)=some h_.flatten[i]:=by
      intro h_
      induction h_ with
      | nil=>intro k _ _ i hi;simp at hi
      | cons x r ih=>
        intro k hl hc i hi;have hx:x.length=P.cellsOf e:=hl x (by simp);simp only[List.flatten_cons]at hi ⊢;by_cases hix:i < x.length
        · rw[List.getElem_append_left hix];have:=hc 0 (by simp) i (by simpa using hix);simpa using this
        · rw[List.getElem_append_right (by omega)]
          have:=ih (k+1) (fun es so=>hl es (by simp[so])) (fun i hi j hj=>by
            have:=hc (i+1) (by simpa using hi) j (by simpa using hj)
            simpa[Nat.add_assoc,Nat.add_comm 1 i] using this) (i - x.length) (by rw[List.length_append]at hi;omega)
          rw[← this];congr 1;rw[Nat.add_mul];omega
    have:=key h_ 0 ff (fun i hi j hj=>by
      have:=ss i hi j hj;rw[ay (a:=⟨ab,ao,none⟩) rfl,ay (a:=⟨ab,_,none⟩) rfl,m_]at this
      simpa using this) i hi
    simpa using this
  · obtain⟨es,so,hv⟩:=List.mem_flatten.1 hv;exact hc es so v hv
theorem uY.ints {e:TypeId} {s:Sl} {h_:List (List Value)} {k:IntKind} (h:uY enc P w e s h_) (hu:P.underlying e=some (.int k)) (jw:P.cellsOf e=1) :
    ∃l:List Int,Rd w.heap s 1 (l.map (Value.int k))∧∀x∈l,k.min≤x∧x≤k.max:=by
  have hex:∀es∈h_,∃n,es=[.int k n]∧k.min≤n∧n≤k.max:=fun es so=>by
    obtain⟨n,h1,h2⟩:=((h.each es so).2).int hu;exact⟨n,h1,by simpa[Lit.wf] using h2⟩
  have key:∀h_:List (List Value),(∀es∈h_,∃n,es=[.int k n]∧k.min≤n∧n≤k.max)→∃l:List Int,h_.flatten=l.map (Value.int k)∧∀x∈l,k.min≤x∧x≤k.max:=by
    intro h_
    induction h_ with
    | nil=>intro _;exact⟨[],rfl,by simp⟩
    | cons x r ih=>
      intro hx;obtain⟨l,h1,h2⟩:=ih fun es so=>hx es (by simp[so])
      obtain⟨n,rfl,hn⟩:=hx x (by simp);exact⟨n::l,by simp[h1],fun y hy=>by rcases List.mem_cons.1 hy with rfl | hy;exact hn;exact h2 y hy⟩
  obtain⟨l,h1,h2⟩:=key h_ hex;refine⟨l,?_,h2⟩;rw[← h1];refine h.rd jw (by decide) fun es so v hv=>?_
  obtain⟨n,rfl,_⟩:=hex es so;simp at hv;subst hv;rfl
theorem uY.bytes {e:TypeId} {s:Sl} {h_:List (List Value)} (h:uY enc P w e s h_) (hu:P.underlying e=some (.int .u8)) (jw:P.cellsOf e=1) :
    ∃l:List Int,Rd w.heap s 1 (l.map (Value.int .u8))∧B8 l:=by
  obtain⟨l,h1,h2⟩:=h.ints hu jw;exact⟨l,h1,fun x hx=>by have:=h2 x hx;simpa[IntKind.min,IntKind.max,IntKind.signed,IntKind.bits] using this⟩
theorem ER.field {fs:Array Field} {cs:List Value} (hu:P.underlying t=some (.struct fs)) (h:ER enc P w t cs) {f:Field} {j:Nat} (hf:fs[j]? = some f) (h1:P.cellsOf f.type=1) (ho:f.offset < P.cellsOf t) :
    ∃v,cs[f.offset]? = some v∧ER enc P w f.type [v]:=by
  obtain⟨hl,ff⟩:=h.struct hu;have hm:f∈fs.toList:=by have:=Array.mem_of_getElem? hf;simpa using this
  have:=ff f hm;rw[h1]at this;have cL:f.offset < cs.length:=by rw[hl];exact ho
  refine⟨cs[f.offset],List.getElem?_eq_getElem cL,?_⟩;rw[List.drop_eq_getElem_cons cL,List.take_succ_cons,List.take_zero]at this;exact this
theorem ER.xV {cs:List Value} (h:ER enc P w t cs) (j:Nat) {o n:Nat} (hu:P.underlying t=some (.struct (fieldsOf P t))) (hf:(fieldsOf P t)[j]? = some (xV P t j)) (h1:P.cellsOf (xV P t j).type=1)
    (ho:(xV P t j).offset=o) (hn:P.cellsOf t=n) (cL:o < n):∃v,cs[o]? = some v∧ER enc P w (xV P t j).type [v]:=by
  subst ho hn;exact h.field hu hf h1 cL
theorem uY.list {e:TypeId} {s:Sl} {h_:List (List Value)} {α:Type} (h:uY enc P w e s h_) (c:α→List Value) (p:α→Prop) (hex:∀ es,es.length=P.cellsOf e→ER enc P w e es→∃ x,es=c x∧p x)
    {sz:Nat} (jw:P.cellsOf e=sz) (s_:0 < sz) (hc:∀x,p x→∀v∈c x,aN v=true):∃l:List α,l.length=s.len∧Rd w.heap s sz (l.flatMap c)∧∀x∈l,p x:=by
  have key:∀h_:List (List Value),(∀es∈h_,∃x,es=c x∧p x)→∃l:List α,l.length=h_.length∧h_=l.map c∧∀x∈l,p x:=by
    intro h_
    induction h_ with
    | nil=>intro _;exact⟨[],rfl,rfl,by simp⟩
    | cons x r ih=>
      intro hx;obtain⟨l,h0,h1,h2⟩:=ih fun es so=>hx es (by simp[so])
      obtain⟨n,rfl,hn⟩:=hx x (by simp);exact⟨n::l,by simp[h0],by simp[h1],fun y hy=>by rcases List.mem_cons.1 hy with rfl | hy;exact hn;exact h2 y hy⟩
  obtain⟨l,h0,h1,h2⟩:=key h_ fun es so=>hex es (h.each es so).1 (h.each es so).2
  refine⟨l,by rw[h0,h.num],?_,h2⟩
  have:=h.rd jw s_ fun es so v hv=>by
    rw[h1]at so;obtain⟨x,hx,rfl⟩:=List.mem_map.1 so;exact hc x (h2 x hx) v hv
  rw[h1]at this
  rwa [← List.flatMap_def]at this
end
end Go.V
