/- Texts for LWitnessForged, part 17. -/
import Derived.WalkKit
import Derived.ProofKit
import Derived.OpenShut
import Derived.ShutString
import Derived.ChangeOld
import Derived.Below
import Derived.Test.YtefdekemmnnclaaGreatQf16
namespace Go.V
open Go.RowKit
theorem Ext.below {w w':Wd} (h:Ext No w w'):Below w.heap.size w w':=⟨h.os,h.tape,h.output,h.size,fun k hk=>h.au k hk id⟩
def fieldsOf (P:Program) (t:TypeId):Array Field:=match P.underlying t with
  | some (.struct fs)=>fs
  | _=>#[]
def K4 (P:Program) (t:TypeId) (j:Nat):Field:=((fieldsOf P t)[j]?).getD default
def zY {H:Type} (enc:TypeId×Value→H) (P:Program) (w:Wd) (t:TypeId) (cs:List Value):Prop:=∃fuel x,DataW.trod enc P w 0 (fun _=>true) true fuel t cs=some x
section
variable {H:Type} {enc:TypeId×Value→H} {P:Program} {w:Wd} {t:TypeId}
theorem Trod.tyR {v:Value} {d:DataW H} {ps:List MemPlace} (h:DataW.Trod enc P w 0 (fun _=>true) true t v d ps):zY enc P w t v.cells.toList:=by
  obtain⟨f,hf⟩:=h;exact⟨f,_,hf⟩
theorem zY.int {k:IntKind} {cs:List Value} (hu:P.underlying t=some (.int k)) (h:zY enc P w t cs):∃n,cs=[.int k n]∧(Lit.int k n).wf=true:=by
  obtain⟨f,x,hf⟩:=h
  cases f with
  | zero=>simp[DataW.trod]at hf
  | succ f=>
    match cs with
    | []=>simp[DataW.trod,hu]at hf
    | [v]=>
      cases v <;> simp[DataW.trod,hu]at hf
      rename_i k' n;obtain⟨⟨rfl,hw⟩,_⟩:=hf;exact⟨n,rfl,hw⟩
    | _::_::_=>simp[DataW.trod,hu]at hf
theorem zY.bool {cs:List Value} (hu:P.underlying t=some .bool) (h:zY enc P w t cs):∃b,cs=[.bool b]:=by
  obtain⟨f,x,hf⟩:=h
  cases f with
  | zero=>simp[DataW.trod]at hf
  | succ f=>
    match cs with
    | []=>simp[DataW.trod,hu]at hf
    | [v]=>
      cases v <;> simp[DataW.trod,hu]at hf
      exact⟨_,rfl⟩
    | _::_::_=>simp[DataW.trod,hu]at hf
theorem zY.string {cs:List Value} (hu:P.underlying t=some .string) (h:zY enc P w t cs):∃s,cs=[.string s]∧s.size≤maxLen:=by
  obtain⟨f,x,hf⟩:=h
  cases f with
  | zero=>simp[DataW.trod]at hf
  | succ f=>
    match cs with
    | []=>simp[DataW.trod,hu]at hf
    | [v]=>
      cases v <;> simp[DataW.trod,hu]at hf
      exact⟨_,rfl,hf.1⟩
    | _::_::_=>simp[DataW.trod,hu]at hf
theorem vm {α β:Type} {f:α→Option β}:∀{l:List α} {ys:List β},l.mapM f=some ys→ys.length=l.length∧∀x∈l,∃y,f x=some y
  | [],ys,h=>by simp at h;subst h;simp
  | a::l,ys,h=>by
    rw[List.mapM_cons]at h
    cases ha:f a with
    | none=>simp[ha]at h
    | some b=>
      cases hl:l.mapM f with
      | none=>simp[ha,hl]at h
      | some bs=>
        simp[ha,hl]at h;subst h;obtain⟨h1,h2⟩:=vm hl;refine⟨by simp[h1],fun x hx=>?_⟩;rcases List.mem_cons.1 hx with rfl | hx
        · exact⟨b,ha⟩
        · exact h2 x hx
theorem KR {α β:Type} {f:α→Option β}:∀{l:List α} {ys:List β},l.mapM f=some ys→∀i (h:i < l.length) (h':i < ys.length),f l[i]=some ys[i]
  | [],ys,h,i,hi,_=>by simp at hi
  | a::l,ys,h,i,hi,iS=>by
    rw[List.mapM_cons]at h
    cases ha:f a with
    | none=>simp[ha]at h
    | some b=>
      cases hl:l.mapM f with
      | none=>simp[ha,hl]at h
      | some bs=>
        simp[ha,hl]at h;subst h
        cases i with
        | zero=>exact ha
        | succ i=>exact KR hl i (by simpa using hi) (by simpa using iS)
theorem zY.struct {fs:Array Field} {cs:List Value} (hu:P.underlying t=some (.struct fs)) (h:zY enc P w t cs) :
    cs.length=P.cellsOf t∧∀f∈fs.toList,zY enc P w f.type ((cs.drop f.offset).take (P.cellsOf f.type)):=by
  obtain⟨f,x,hf⟩:=h
  cases f with
  | zero=>simp[DataW.trod]at hf
  | succ f=>
    have oE:(if cs.length=P.cellsOf t then(fs.toList.mapM fun g=>DataW.trod enc P w 0 (fun _=>true) true f g.type ((cs.drop g.offset).take (P.cellsOf g.type))).map fun xs=>(DataW.agg (xs.map (·.1)),xs.flatMap (·.2)) else none)=some x:=by
      rw[← hf];simp only[DataW.trod,hu]
    split at oE
    · rename_i hl;refine⟨hl,fun g hg=>?_⟩;simp only[Option.map_eq_some_iff]at oE;obtain⟨xs,hxs,_⟩:=oE;obtain⟨y,hy⟩:=(vm hxs).2 g hg;exact⟨f,y,hy⟩
    · cases oE
structure pG (enc:TypeId×Value→H) (P:Program) (w:Wd) (e:TypeId) (s:Sl) (iL:List (List Value)):Prop where
  num:iL.length=s.len
  each:∀es∈iL,es.length=P.cellsOf e∧zY enc P w e es
  cap:s.len≤s.cap
  max:s.cap≤maxLen
  at_:s.len≠0→∃a,s.a=some a∧∀i (hi:i < iL.length) j (hj:j < iL[i].length),w.cell? ((a.add (i * P.cellsOf e)).add j)=some iL[i][j]
theorem zY.slice {e:TypeId} {cs:List Value} (hu:P.underlying t=some (.slice e)) (h:zY enc P w t cs):∃s:Sl,cs=[s.v]∧∃iL,pG enc P w e s iL:=by
  obtain⟨f,x,hf⟩:=h
  cases f with
  | zero=>simp[DataW.trod]at hf
  | succ f=>
    match cs with
    | []=>simp[DataW.trod,hu]at hf
    | _::_::_=>simp[DataW.trod,hu]at hf
    | [v]=>
      cases v <;> (try simp[DataW.trod,hu]at hf;done)
      rename_i a len cap
      cases a with
      | none=>
        have:len=0∧cap=0:=by
          cases len <;> cases cap <;> simp[DataW.trod,hu]at hf <;> simp
        obtain⟨rfl,rfl⟩:=this;exact⟨⟨none,0,0⟩,rfl,[],rfl,by simp,Nat.le_refl _,Nat.zero_le _,fun h=>absurd rfl h⟩
      | some a=>
        refine⟨⟨some a,len,cap⟩,rfl,?_⟩;simp only[DataW.trod,hu]at hf;split at hf
        · rename_i hc;simp only[Option.bind_eq_some_iff]at hf;obtain⟨elems,P_,_⟩:=hf;have hlen:=(vm P_).1;simp only[List.length_range]at hlen
          have R8:∀i,i < len→∃es y,w.cells? 0 (a.add (i * P.cellsOf e)) (P.cellsOf e)=some es∧DataW.trod enc P w 0 (fun _=>true) true f e es=some y:=fun i hi=>by
            obtain⟨y,hy⟩:=(vm P_).2 i (by simpa using hi);simp only[Option.bind_eq_some_iff]at hy;obtain⟨es,h1,h2⟩:=hy;exact⟨es,y,h1,h2⟩
          obtain⟨g,hg⟩ : ∃g:Nat→List Value,∀i,i < len→∃y,w.cells? 0 (a.add (i * P.cellsOf e)) (P.cellsOf e)=some (g i)∧DataW.trod enc P w 0 (fun _=>true) true f e (g i)=some y:=by
            refine⟨fun i=>if h:i < len then Classical.choose (R8 i h) else[],fun i hi=>?_⟩;simp only[hi,dif_pos];exact Classical.choose_spec (R8 i hi)
          have SX:∀i,i < len→(g i).length=P.cellsOf e∧∀j (hj:j < (g i).length),w.cell? ((a.add (i * P.cellsOf e)).add j)=some (g i)[j]:=fun i hi=>by
            obtain⟨y,h1,_⟩:=hg i hi;simp only[World.cells?,Nat.zero_le,if_true]at h1;have hl:=(vm h1).1;simp only[List.length_range]at hl;refine⟨hl,fun j hj=>?_⟩;have:=KR h1 j (by simp;omega) hj;simpa using this
          refine⟨(List.range len).map g,by simp,?_,hc.2.1,hc.2.2,fun _=>⟨a,rfl,?_⟩⟩
          · intro es Cm;obtain⟨i,hi,rfl⟩:=List.mem_map.1 Cm;simp only[List.mem_range]at hi;obtain⟨y,_,h2⟩:=hg i hi;exact⟨(SX i hi).1,f,y,h2⟩
          · intro i hi j hj;simp only[List.length_map,List.length_range]at hi;simp only[List.getElem_map,List.getElem_range]at hj ⊢;exact(SX i hi).2 j hj
        · cases hf
theorem pG.rd {e:TypeId} {s:Sl} {iL:List (List Value)} (h:pG enc P w e s iL) {sz:Nat} (uh:P.cellsOf e=sz) (Tu:0 < sz) (hc:∀es∈iL,∀v∈es,cn v=true):Rd w.heap s sz iL.flatten:=by
  subst uh;have lV:∀es∈iL,es.length=P.cellsOf e:=fun es Cm=>(h.each es Cm).1
  have hlen:iL.flatten.length=s.len * P.cellsOf e:=by
    rw[← h.num];clear h hc
    induction iL with
    | nil=>simp
    | cons x r ih=>simp[ih (fun es Cm=>lV es (by simp[Cm])),lV x (by simp),Nat.add_mul];omega
  refine⟨hlen,h.cap,fun dz=>?_,fun v hv=>?_⟩
  · have Vw:s.len≠0:=fun e0=>dz (by have:=hlen;rw[e0,Nat.zero_mul]at this;exact List.length_eq_zero_iff.1 this)
    obtain⟨a,ha,zZ⟩:=h.at_ Vw
    have WV:a.spot=none:=by
      have h0:0 < iL.length:=by rw[h.num];omega
      have hl0:0 < iL[0].length:=by rw[lV _ (List.getElem_mem _)];exact Tu
      have:=zZ 0 h0 0 hl0;simp only[Nat.zero_mul]at this;have e0:(a.add 0).add 0=a:=by simp[Addr.add]
      rw[e0]at this;unfold World.cell? at this;split at this
      · split at this
        · cases this
        · rename_i hs;simpa using hs
      · cases this
    obtain⟨ab,ao,ax⟩:=a;simp only at WV;subst WV;refine⟨ab,ao,ha,fun i hi=>?_⟩
    have key:∀ (iL:List (List Value)) (k:Nat),(∀ es∈iL,es.length=P.cellsOf e)→(∀ i (hi:i < iL.length) j (hj:j < iL[i].length),dt w.heap ab (ao+(k+i) * P.cellsOf e+j)=some iL[i][j]) →
        ∀i (hi:i < iL.flatten.length),dt w.heap ab (ao+k * P.cellsOf e+i)=some iL.flatten[i]:=by
      intro iL
      induction iL with
      | nil=>intro k _ _ i hi;simp at hi
      | cons x r ih=>
        intro k hl hc i hi;have hx:x.length=P.cellsOf e:=hl x (by simp);simp only[List.flatten_cons]at hi ⊢;by_cases hix:i < x.length
        · rw[List.getElem_append_left hix];have:=hc 0 (by simp) i (by simpa using hix);simpa using this
        · rw[List.getElem_append_right (by omega)]
          have:=ih (k+1) (fun es Cm=>hl es (by simp[Cm])) (fun i hi j hj=>by
            have:=hc (i+1) (by simpa using hi) j (by simpa using hj)
            simpa[Nat.add_assoc,Nat.add_comm 1 i] using this) (i - x.length) (by rw[List.length_append]at hi;omega)
          rw[← this];congr 1;rw[Nat.add_mul];omega
    have:=key iL 0 lV (fun i hi j hj=>by
      have:=zZ i hi j hj;rw[ay (a:=⟨ab,ao,none⟩) rfl,ay (a:=⟨ab,_,none⟩) rfl,dC]at this
      simpa using this) i hi
    simpa using this
  · obtain⟨es,Cm,hv⟩:=List.mem_flatten.1 hv;exact hc es Cm v hv
theorem pG.ints {e:TypeId} {s:Sl} {iL:List (List Value)} {k:IntKind} (h:pG enc P w e s iL) (hu:P.underlying e=some (.int k)) (uh:P.cellsOf e=1) :
    ∃l:List Int,Rd w.heap s 1 (l.map (Value.int k))∧∀x∈l,k.min≤x∧x≤k.max:=by
  have hex:∀es∈iL,∃n,es=[.int k n]∧k.min≤n∧n≤k.max:=fun es Cm=>by
    obtain⟨n,h1,h2⟩:=((h.each es Cm).2).int hu;exact⟨n,h1,by simpa[Lit.wf] using h2⟩
  have key:∀iL:List (List Value),(∀es∈iL,∃n,es=[.int k n]∧k.min≤n∧n≤k.max)→∃l:List Int,iL.flatten=l.map (Value.int k)∧∀x∈l,k.min≤x∧x≤k.max:=by
    intro iL
    induction iL with
    | nil=>intro _;exact⟨[],rfl,by simp⟩
    | cons x r ih=>
      intro hx;obtain⟨l,h1,h2⟩:=ih fun es Cm=>hx es (by simp[Cm])
      obtain⟨n,rfl,hn⟩:=hx x (by simp);exact⟨n::l,by simp[h1],fun y hy=>by rcases List.mem_cons.1 hy with rfl | hy;exact hn;exact h2 y hy⟩
  obtain⟨l,h1,h2⟩:=key iL hex;refine⟨l,?_,h2⟩;rw[← h1];refine h.rd uh (by decide) fun es Cm v hv=>?_
  obtain⟨n,rfl,_⟩:=hex es Cm;simp at hv;subst hv;rfl
theorem pG.bytes {e:TypeId} {s:Sl} {iL:List (List Value)} (h:pG enc P w e s iL) (hu:P.underlying e=some (.int .u8)) (uh:P.cellsOf e=1) :
    ∃l:List Int,Rd w.heap s 1 (l.map (Value.int .u8))∧B8 l:=by
  obtain⟨l,h1,h2⟩:=h.ints hu uh;exact⟨l,h1,fun x hx=>by have:=h2 x hx;simpa[IntKind.min,IntKind.max,IntKind.signed,IntKind.bits] using this⟩
theorem zY.field {fs:Array Field} {cs:List Value} (hu:P.underlying t=some (.struct fs)) (h:zY enc P w t cs) {f:Field} {j:Nat} (hf:fs[j]? = some f) (h1:P.cellsOf f.type=1) (ho:f.offset < P.cellsOf t) :
    ∃v,cs[f.offset]? = some v∧zY enc P w f.type [v]:=by
  obtain⟨hl,lV⟩:=h.struct hu;have hm:f∈fs.toList:=by have:=Array.mem_of_getElem? hf;simpa using this
  have:=lV f hm;rw[h1]at this;have aV:f.offset < cs.length:=by rw[hl];exact ho
  refine⟨cs[f.offset],List.getElem?_eq_getElem aV,?_⟩;rw[List.drop_eq_getElem_cons aV,List.take_succ_cons,List.take_zero]at this;exact this
theorem zY.K4 {cs:List Value} (h:zY enc P w t cs) (j:Nat) {o n:Nat} (hu:P.underlying t=some (.struct (fieldsOf P t))) (hf:(fieldsOf P t)[j]? = some (K4 P t j)) (h1:P.cellsOf (K4 P t j).type=1)
    (ho:(K4 P t j).offset=o) (hn:P.cellsOf t=n) (aV:o < n):∃v,cs[o]? = some v∧zY enc P w (K4 P t j).type [v]:=by
  subst ho hn;exact h.field hu hf h1 aV
theorem pG.list {e:TypeId} {s:Sl} {iL:List (List Value)} {α:Type} (h:pG enc P w e s iL) (c:α→List Value) (p:α→Prop) (hex:∀ es,es.length=P.cellsOf e→zY enc P w e es→∃ x,es=c x∧p x)
    {sz:Nat} (uh:P.cellsOf e=sz) (Tu:0 < sz) (hc:∀x,p x→∀v∈c x,cn v=true):∃l:List α,l.length=s.len∧Rd w.heap s sz (l.flatMap c)∧∀x∈l,p x:=by
  have key:∀iL:List (List Value),(∀es∈iL,∃x,es=c x∧p x)→∃l:List α,l.length=iL.length∧iL=l.map c∧∀x∈l,p x:=by
    intro iL
    induction iL with
    | nil=>intro _;exact⟨[],rfl,rfl,by simp⟩
    | cons x r ih=>
      intro hx;obtain⟨l,h0,h1,h2⟩:=ih fun es Cm=>hx es (by simp[Cm])
      obtain⟨n,rfl,hn⟩:=hx x (by simp);exact⟨n::l,by simp[h0],by simp[h1],fun y hy=>by rcases List.mem_cons.1 hy with rfl | hy;exact hn;exact h2 y hy⟩
  obtain⟨l,h0,h1,h2⟩:=key iL fun es Cm=>hex es (h.each es Cm).1 (h.each es Cm).2
  refine⟨l,by rw[h0,h.num],?_,h2⟩
  have:=h.rd uh Tu fun es Cm v hv=>by
    rw[h1]at Cm;obtain⟨x,hx,rfl⟩:=List.mem_map.1 Cm;exact hc x (h2 x hx) v hv
  rw[h1]at this
  rwa [← List.flatMap_def]at this
end
end Go.V
set_option maxRecDepth 100000
namespace Go.V
open Go.RowKit
section
variable {H:Type} {enc:TypeId×Value->H} {P:Program} {w:Wd} {t:TypeId}
theorem SY{cs:List Value}(h:zY enc P w t cs)(j:Nat){o m:Nat}(hu:P.underlying t=some (.struct (fieldsOf P t)))(hf:(fieldsOf P t)[j]? = some (K4 P t j))(h1:P.cellsOf (K4 P t j).type=m)
  (ho:(K4 P t j).offset=o):zY enc P w (K4 P t j).type ((cs.drop o).take m):=by
 subst ho h1;obtain⟨_,lV⟩:=h.struct hu;have hm:K4 P t j∈(fieldsOf P t).toList:=by have:=Array.mem_of_getElem? hf;simpa using this
 exact lV _ hm
end
end Go.V
namespace Go.Proofs.YtefdekemmnnclaaGreat
open Go.V
section
variable {H:Type} {enc:TypeId×Value->H} {W:Wd}
theorem yc{n:Int}{k:IntKind}(h:(Lit.int k n).wf=true):k.min<=n/\n<=k.max:=by simpa[Lit.wf] using h
theorem aeP:(IntKind.min .u8=0/\IntKind.max .u8=255)/\(IntKind.min .u16=0/\IntKind.max .u16=65535)/\(IntKind.min .u32=0/\IntKind.max .u32=4294967295)/\IntKind.min .u64=0/\IntKind.max .u64=18446744073709551615:=⟨⟨rfl,rfl⟩,⟨rfl,rfl⟩,⟨rfl,rfl⟩,rfl,rfl⟩
theorem Zu{t:TypeId}{es:List Value}(ht:t=31)(hl:es.length=6)(hr:zY enc pz W t es):∃x:gI,es=ZW x/\x.OK:=by
 subst ht;obtain⟨v0,g0,t0⟩:=hr.K4 0 (o:=0) (n:=6) (by kernel_rfl) (by kernel_rfl) (by kernel_rfl) (by kernel_rfl) (by kernel_rfl) (by decide);obtain⟨v1,g1,t1⟩:=hr.K4 1 (o:=1) (n:=6) (by kernel_rfl) (by kernel_rfl) (by kernel_rfl) (by kernel_rfl) (by kernel_rfl) (by decide);obtain⟨v2,g2,t2⟩:=hr.K4 2 (o:=2) (n:=6) (by kernel_rfl) (by kernel_rfl) (by kernel_rfl) (by kernel_rfl) (by kernel_rfl) (by decide);have t3:=SY hr 3 (o:=3) (m:=3) (by kernel_rfl) (by kernel_rfl) (by kernel_rfl) (by kernel_rfl);obtain⟨v3,g3,q0⟩:=t3.K4 0 (o:=0) (n:=3) (by kernel_rfl) (by kernel_rfl) (by kernel_rfl) (by kernel_rfl) (by kernel_rfl) (by decide);obtain⟨v4,g4,q1⟩:=t3.K4 1 (o:=1) (n:=3) (by kernel_rfl) (by kernel_rfl) (by kernel_rfl) (by kernel_rfl) (by kernel_rfl) (by decide);obtain⟨v5,g5,q2⟩:=t3.K4 2 (o:=2) (n:=3) (by kernel_rfl) (by kernel_rfl) (by kernel_rfl) (by kernel_rfl) (by kernel_rfl) (by decide);obtain⟨n0,e0,w0⟩:=t0.int (k:= .u32) (by kernel_rfl);obtain⟨n1,e1,w1⟩:=t1.int (k:= .u8) (by kernel_rfl);obtain⟨n2,e2,w2⟩:=t2.int (k:= .u8) (by kernel_rfl);obtain⟨n3,e3,w3⟩:=q0.int (k:= .u32) (by kernel_rfl);obtain⟨n4,e4,w4⟩:=q1.int (k:= .u64) (by kernel_rfl);obtain⟨n5,e5,w5⟩:=q2.int (k:= .u16) (by kernel_rfl)
 cases e0;cases e1;cases e2;cases e3;cases e4;cases e5
 have u0:=yc w0;have u1:=yc w1;have u2:=yc w2;have u3:=yc w3;have u4:=yc w4;have u5:=yc w5;obtain⟨m8,m16,m32,m64⟩:=aeP;refine⟨⟨n0,n1,n2,n3,n4,n5⟩,?_,⟨by show 0<=n0;omega,by show n0<=_;omega⟩,⟨by show 0<=n1;omega,by show n1<=_;omega⟩,⟨by show 0<=n2;omega,by show n2<=_;omega⟩,⟨by show 0<=n3;omega,by show n3<=_;omega⟩,⟨by show 0<=n4;omega,by show n4<=_;omega⟩,⟨by show 0<=n5;omega,by show n5<=_;omega⟩⟩
 match es,hl,g0,g1,g2,g3,g4,g5 with
 | [a,b,c,d,e,f],_,g0,g1,g2,g3,g4,g5=>simp at g0 g1 g2 g3 g4 g5;simp[ZW,g0,g1,g2,g3,g4,g5]
theorem PM{s:Sl}{iL:List (List Value)}(h:pG enc pz W 25 s iL):∃ks,wq W.heap s ks:=by
 obtain⟨ks,_,h2,h3⟩:=h.list (fun p:Sl×List Int=>[p.1.v]) (fun p=>aL W.heap p.1 p.2/\B8 p.2) (fun es _ hr=>by
  obtain⟨s,hs,iL,P_⟩:=zY.slice (e:=5) (by kernel_rfl) hr;obtain⟨l,rd,b8⟩:=P_.bytes (by kernel_rfl) (by kernel_rfl)
  exact⟨(s,l),hs,rd,b8⟩) (sz:=1) (by kernel_rfl) (by decide) (fun x _ v hv=>by simp at hv;subst hv;rfl)
 exact⟨ks,by rw[<- List.map_eq_flatMap]at h2;exact h2,h3⟩
end
end Go.Proofs.YtefdekemmnnclaaGreat
