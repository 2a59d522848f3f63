/- Texts for LVaultNew, part 18. -/
import Derived.WalkKit
import Derived.ProofKit
import Derived.OpenShut
import Derived.ShutString
import Derived.ChangeOld
import Derived.Below
import Derived.Test.YtiigcapldngijaaGreatQn17
namespace Go.V
open Go.RowKit
theorem Ext.below {w w':Wd} (h:Ext No w w'):Below w.heap.size w w':=⟨h.os,h.tape,h.output,h.size,fun k hk=>h.aw k hk id⟩
def fieldsOf (P:Program) (t:TypeId):Array Field:=match P.underlying t with
  | some (.struct fs)=>fs
  | _=>#[]
def M8 {H:Type} (enc:TypeId×Value→H) (P:Program) (w:Wd) (t:TypeId) (cs:List Value):Prop:=∃fuel x,DataW.trod enc P w 0 (fun _=>true) true fuel t cs=some x
section
variable {H:Type} {enc:TypeId×Value→H} {P:Program} {w:Wd} {t:TypeId}
theorem Trod.tyR {v:Value} {d:DataW H} {ps:List MemPlace} (h:DataW.Trod enc P w 0 (fun _=>true) true t v d ps):M8 enc P w t v.cells.toList:=by
  obtain⟨f,hf⟩:=h;exact⟨f,_,hf⟩
theorem M8.int {k:IntKind} {cs:List Value} (hu:P.underlying t=some (.int k)) (h:M8 enc P w t cs):∃n,cs=[.int k n]∧(Lit.int k n).wf=true:=by
  obtain⟨f,x,hf⟩:=h
  cases f with
  | zero=>simp[DataW.trod]at hf
  | succ f=>
    match cs with
    | []=>simp[DataW.trod,hu]at hf
    | [v]=>
      cases v <;> simp[DataW.trod,hu]at hf
      rename_i k' n;obtain⟨⟨rfl,hw⟩,_⟩:=hf;exact⟨n,rfl,hw⟩
    | _::_::_=>simp[DataW.trod,hu]at hf
theorem M8.bool {cs:List Value} (hu:P.underlying t=some .bool) (h:M8 enc P w t cs):∃b,cs=[.bool b]:=by
  obtain⟨f,x,hf⟩:=h
  cases f with
  | zero=>simp[DataW.trod]at hf
  | succ f=>
    match cs with
    | []=>simp[DataW.trod,hu]at hf
    | [v]=>
      cases v <;> simp[DataW.trod,hu]at hf
      exact⟨_,rfl⟩
    | _::_::_=>simp[DataW.trod,hu]at hf
theorem M8.string {cs:List Value} (hu:P.underlying t=some .string) (h:M8 enc P w t cs):∃s,cs=[.string s]∧s.size≤maxLen:=by
  obtain⟨f,x,hf⟩:=h
  cases f with
  | zero=>simp[DataW.trod]at hf
  | succ f=>
    match cs with
    | []=>simp[DataW.trod,hu]at hf
    | [v]=>
      cases v <;> simp[DataW.trod,hu]at hf
      exact⟨_,rfl,hf.1⟩
    | _::_::_=>simp[DataW.trod,hu]at hf
theorem vZ {α β:Type} {f:α→Option β}:∀{l:List α} {ys:List β},l.mapM f=some ys→ys.length=l.length∧∀x∈l,∃y,f x=some y
  | [],ys,h=>by simp at h;subst h;simp
  | a::l,ys,h=>by
    rw[List.mapM_cons]at h
    cases ha:f a with
    | none=>simp[ha]at h
    | some b=>
      cases hl:l.mapM f with
      | none=>simp[ha,hl]at h
      | some bs=>
        simp[ha,hl]at h;subst h;obtain⟨h1,h2⟩:=vZ hl;refine⟨by simp[h1],fun x hx=>?_⟩;rcases List.mem_cons.1 hx with rfl | hx
        · exact⟨b,ha⟩
        · exact h2 x hx
theorem M9 {α β:Type} {f:α→Option β}:∀{l:List α} {ys:List β},l.mapM f=some ys→∀i (h:i < l.length) (h':i < ys.length),f l[i]=some ys[i]
  | [],ys,h,i,hi,_=>by simp at hi
  | a::l,ys,h,i,hi,qO=>by
    rw[List.mapM_cons]at h
    cases ha:f a with
    | none=>simp[ha]at h
    | some b=>
      cases hl:l.mapM f with
      | none=>simp[ha,hl]at h
      | some bs=>
        simp[ha,hl]at h;subst h
        cases i with
        | zero=>exact ha
        | succ i=>exact M9 hl i (by simpa using hi) (by simpa using qO)
theorem M8.struct {fs:Array Field} {cs:List Value} (hu:P.underlying t=some (.struct fs)) (h:M8 enc P w t cs) :
    cs.length=P.cellsOf t∧∀f∈fs.toList,M8 enc P w f.type ((cs.drop f.offset).take (P.cellsOf f.type)):=by
  obtain⟨f,x,hf⟩:=h
  cases f with
  | zero=>simp[DataW.trod]at hf
  | succ f=>
    have pA:(if cs.length=P.cellsOf t then(fs.toList.mapM fun g=>DataW.trod enc P w 0 (fun _=>true) true f g.type ((cs.drop g.offset).take (P.cellsOf g.type))).map fun xs=>(DataW.agg (xs.map (·.1)),xs.flatMap (·.2)) else none)=some x:=by
      rw[← hf];simp only[DataW.trod,hu]
    split at pA
    · rename_i hl;refine⟨hl,fun g hg=>?_⟩;simp only[Option.map_eq_some_iff]at pA;obtain⟨xs,hxs,_⟩:=pA;obtain⟨y,hy⟩:=(vZ hxs).2 g hg;exact⟨f,y,hy⟩
    · cases pA
structure CW (enc:TypeId×Value→H) (P:Program) (w:Wd) (e:TypeId) (s:Sl) (rR:List (List Value)):Prop where
  num:rR.length=s.len
  each:∀es∈rR,es.length=P.cellsOf e∧M8 enc P w e es
  cap:s.len≤s.cap
  max:s.cap≤maxLen
  at_:s.len≠0→∃a,s.a=some a∧∀i (hi:i < rR.length) j (hj:j < rR[i].length),w.cell? ((a.add (i * P.cellsOf e)).add j)=some rR[i][j]
theorem M8.slice {e:TypeId} {cs:List Value} (hu:P.underlying t=some (.slice e)) (h:M8 enc P w t cs):∃s:Sl,cs=[s.v]∧∃rR,CW enc P w e s rR:=by
  obtain⟨f,x,hf⟩:=h
  cases f with
  | zero=>simp[DataW.trod]at hf
  | succ f=>
    match cs with
    | []=>simp[DataW.trod,hu]at hf
    | _::_::_=>simp[DataW.trod,hu]at hf
    | [v]=>
      cases v <;> (try simp[DataW.trod,hu]at hf;done)
      rename_i a len cap
      cases a with
      | none=>
        have:len=0∧cap=0:=by
          cases len <;> cases cap <;> simp[DataW.trod,hu]at hf <;> simp
        obtain⟨rfl,rfl⟩:=this;exact⟨⟨none,0,0⟩,rfl,[],rfl,by simp,Nat.le_refl _,Nat.zero_le _,fun h=>absurd rfl h⟩
      | some a=>
        refine⟨⟨some a,len,cap⟩,rfl,?_⟩;simp only[DataW.trod,hu]at hf;split at hf
        · rename_i hc;simp only[Option.bind_eq_some_iff]at hf;obtain⟨elems,hel,_⟩:=hf;have hlen:=(vZ hel).1;simp only[List.length_range]at hlen
          have MA:∀i,i < len→∃es y,w.cells? 0 (a.add (i * P.cellsOf e)) (P.cellsOf e)=some es∧DataW.trod enc P w 0 (fun _=>true) true f e es=some y:=fun i hi=>by
            obtain⟨y,hy⟩:=(vZ hel).2 i (by simpa using hi);simp only[Option.bind_eq_some_iff]at hy;obtain⟨es,h1,h2⟩:=hy;exact⟨es,y,h1,h2⟩
          obtain⟨g,hg⟩ : ∃g:Nat→List Value,∀i,i < len→∃y,w.cells? 0 (a.add (i * P.cellsOf e)) (P.cellsOf e)=some (g i)∧DataW.trod enc P w 0 (fun _=>true) true f e (g i)=some y:=by
            refine⟨fun i=>if h:i < len then Classical.choose (MA i h) else[],fun i hi=>?_⟩;simp only[hi,dif_pos];exact Classical.choose_spec (MA i hi)
          have VD:∀i,i < len→(g i).length=P.cellsOf e∧∀j (hj:j < (g i).length),w.cell? ((a.add (i * P.cellsOf e)).add j)=some (g i)[j]:=fun i hi=>by
            obtain⟨y,h1,_⟩:=hg i hi;simp only[World.cells?,Nat.zero_le,if_true]at h1;have hl:=(vZ h1).1;simp only[List.length_range]at hl;refine⟨hl,fun j hj=>?_⟩;have:=M9 h1 j (by simp;omega) hj;simpa using this
          refine⟨(List.range len).map g,by simp,?_,hc.2.1,hc.2.2,fun _=>⟨a,rfl,?_⟩⟩
          · intro es L6;obtain⟨i,hi,rfl⟩:=List.mem_map.1 L6;simp only[List.mem_range]at hi;obtain⟨y,_,h2⟩:=hg i hi;exact⟨(VD i hi).1,f,y,h2⟩
          · intro i hi j hj;simp only[List.length_map,List.length_range]at hi;simp only[List.getElem_map,List.getElem_range]at hj ⊢;exact(VD i hi).2 j hj
        · cases hf
theorem CW.rd {e:TypeId} {s:Sl} {rR:List (List Value)} (h:CW enc P w e s rR) {sz:Nat} (rS:P.cellsOf e=sz) (acm:0 < sz) (hc:∀es∈rR,∀v∈es,cB v=true):Rd w.heap s sz rR.flatten:=by
  subst rS;have nK:∀es∈rR,es.length=P.cellsOf e:=fun es L6=>(h.each es L6).1
  have hlen:rR.flatten.length=s.len * P.cellsOf e:=by
    rw[← h.num];clear h hc
    induction rR with
    | nil=>simp
    | cons x r ih=>simp[ih (fun es L6=>nK es (by simp[L6])),nK x (by simp),Nat.add_mul];omega
  refine⟨hlen,h.cap,fun du=>?_,fun v hv=>?_⟩
  · have YC:s.len≠0:=fun e0=>du (by have:=hlen;rw[e0,Nat.zero_mul]at this;exact List.length_eq_zero_iff.1 this)
    obtain⟨a,ha,zJ⟩:=h.at_ YC
    have Z2:a.spot=none:=by
      have h0:0 < rR.length:=by rw[h.num];omega
      have hl0:0 < rR[0].length:=by rw[nK _ (List.getElem_mem _)];exact acm
      have:=zJ 0 h0 0 hl0;simp only[Nat.zero_mul]at this;have e0:(a.add 0).add 0=a:=by simp[Addr.add]
      rw[e0]at this;unfold World.cell? at this;split at this
      · split at this
        · cases this
        · rename_i hs;simpa using hs
      · cases this
    obtain⟨ab,ao,ax⟩:=a;simp only at Z2;subst Z2;refine⟨ab,ao,ha,fun i hi=>?_⟩
    have key:∀ (rR:List (List Value)) (k:Nat),(∀ es∈rR,es.length=P.cellsOf e)→(∀ i (hi:i < rR.length) j (hj:j < rR[i].length),cM w.heap ab (ao+(k+i) * P.cellsOf e+j)=some rR[i][j]) →
        ∀i (hi:i < rR.flatten.length),cM w.heap ab (ao+k * P.cellsOf e+i)=some rR.flatten[i]:=by
      intro rR
      induction rR with
      | nil=>intro k _ _ i hi;simp at hi
      | cons x r ih=>
        intro k hl hc i hi;have hx:x.length=P.cellsOf e:=hl x (by simp);simp only[List.flatten_cons]at hi ⊢;by_cases hix:i < x.length
        · rw[List.getElem_append_left hix];have:=hc 0 (by simp) i (by simpa using hix);simpa using this
        · rw[List.getElem_append_right (by omega)]
          have:=ih (k+1) (fun es L6=>hl es (by simp[L6])) (fun i hi j hj=>by
            have:=hc (i+1) (by simpa using hi) j (by simpa using hj)
            simpa[Nat.add_assoc,Nat.add_comm 1 i] using this) (i - x.length) (by rw[List.length_append]at hi;omega)
          rw[← this];congr 1;rw[Nat.add_mul];omega
    have:=key rR 0 nK (fun i hi j hj=>by
      have:=zJ i hi j hj;rw[ay (a:=⟨ab,ao,none⟩) rfl,ay (a:=⟨ab,_,none⟩) rfl,fE]at this
      simpa using this) i hi
    simpa using this
  · obtain⟨es,L6,hv⟩:=List.mem_flatten.1 hv;exact hc es L6 v hv
theorem CW.ints {e:TypeId} {s:Sl} {rR:List (List Value)} {k:IntKind} (h:CW enc P w e s rR) (hu:P.underlying e=some (.int k)) (rS:P.cellsOf e=1) :
    ∃l:List Int,Rd w.heap s 1 (l.map (Value.int k))∧∀x∈l,k.min≤x∧x≤k.max:=by
  have hex:∀es∈rR,∃n,es=[.int k n]∧k.min≤n∧n≤k.max:=fun es L6=>by
    obtain⟨n,h1,h2⟩:=((h.each es L6).2).int hu;exact⟨n,h1,by simpa[Lit.wf] using h2⟩
  have key:∀rR:List (List Value),(∀es∈rR,∃n,es=[.int k n]∧k.min≤n∧n≤k.max)→∃l:List Int,rR.flatten=l.map (Value.int k)∧∀x∈l,k.min≤x∧x≤k.max:=by
    intro rR
    induction rR with
    | nil=>intro _;exact⟨[],rfl,by simp⟩
    | cons x r ih=>
      intro hx;obtain⟨l,h1,h2⟩:=ih fun es L6=>hx es (by simp[L6])
      obtain⟨n,rfl,hn⟩:=hx x (by simp);exact⟨n::l,by simp[h1],fun y hy=>by rcases List.mem_cons.1 hy with rfl | hy;exact hn;exact h2 y hy⟩
  obtain⟨l,h1,h2⟩:=key rR hex;refine⟨l,?_,h2⟩;rw[← h1];refine h.rd rS (by decide) fun es L6 v hv=>?_
  obtain⟨n,rfl,_⟩:=hex es L6;simp at hv;subst hv;rfl
theorem CW.bytes {e:TypeId} {s:Sl} {rR:List (List Value)} (h:CW enc P w e s rR) (hu:P.underlying e=some (.int .u8)) (rS:P.cellsOf e=1) :
    ∃l:List Int,Rd w.heap s 1 (l.map (Value.int .u8))∧B8 l:=by
  obtain⟨l,h1,h2⟩:=h.ints hu rS;exact⟨l,h1,fun x hx=>by have:=h2 x hx;simpa[IntKind.min,IntKind.max,IntKind.signed,IntKind.bits] using this⟩
theorem M8.field {fs:Array Field} {cs:List Value} (hu:P.underlying t=some (.struct fs)) (h:M8 enc P w t cs) {f:Field} {j:Nat} (hf:fs[j]? = some f) (h1:P.cellsOf f.type=1) (ho:f.offset < P.cellsOf t) :
    ∃v,cs[f.offset]? = some v∧M8 enc P w f.type [v]:=by
  obtain⟨hl,nK⟩:=h.struct hu;have hm:f∈fs.toList:=by have:=Array.mem_of_getElem? hf;simpa using this
  have:=nK f hm;rw[h1]at this;have aN:f.offset < cs.length:=by rw[hl];exact ho
  refine⟨cs[f.offset],List.getElem?_eq_getElem aN,?_⟩;rw[List.drop_eq_getElem_cons aN,List.take_succ_cons,List.take_zero]at this;exact this
end
end Go.V
