/- Texts for LRollSame,LRollBytes,LRollReads,LRollNone, part 19. -/
import Derived.SizedLaws
import Derived.Test.YtpjbalhhlaofmaaGreatQv18
namespace Go.V
section
variable {H:Type} {enc:TypeId×Value→H} {P:Program} {w:Wd} {t:TypeId}
theorem yR {e:TypeId}:∀{ds:List (DataW H)} {d:DataW H},d∈ds→∀n∈d.weights P e,n∈DataW.weightsAll P e ds
  | d0::ds,d,hd,n,hn=>by
    simp only[DataW.weightsAll,List.mem_append];rcases List.mem_cons.1 hd with rfl | hd
    · exact .inl hn
    · exact .inr (yR hd n hn)
def kz {H:Type} (enc:TypeId×Value→H) (P:Program) (w:Wd) (t:TypeId) (cs:List Value):Prop:=∃fuel x,DataW.trod enc P w 0 (fun _=>true) true fuel t cs=some x∧∀n∈x.1.weights P t,n≤reachBytes
theorem kz.Rb {cs:List Value} (h:kz enc P w t cs):CU enc P w t cs:=by obtain⟨f,x,hx,_⟩:=h;exact⟨f,x,hx⟩
theorem Trod.Re {v:Value} {d:DataW H} {ps:List MemPlace} {ts:List TypeId} {ds:List (DataW H)} (h:DataW.Trod enc P w 0 (fun _=>true) true t v d ps) (gZ:(DataW.weightsEach P ts ds).all (·≤reachBytes)=true) (j:Nat) (ht:ts[j]? = some t) (hd:ds[j]? = some d) :
    kz enc P w t v.cells.toList:=by
  obtain⟨f,hf⟩:=h;refine⟨f,_,hf,fun n hn=>?_⟩;have:=List.all_eq_true.1 gZ n (DataW.weights_mem_each ht hd n hn);simpa using this
theorem kz.Xp {cs:List Value} (h:kz enc P w t cs) (j:Nat) {o m:Nat} (hu:P.underlying t=some (.struct (fieldsOf P t))) (hf:(fieldsOf P t)[j]? = some (wu P t j)) (h1:P.cellsOf (wu P t j).type=m)
    (ho:(wu P t j).offset=o):kz enc P w (wu P t j).type ((cs.drop o).take m):=by
  subst ho h1;obtain⟨f,x,hx,hw⟩:=h
  cases f with
  | zero=>simp[DataW.trod]at hx
  | succ f=>
    have lf:(if cs.length=P.cellsOf t then((fieldsOf P t).toList.mapM fun g=>DataW.trod enc P w 0 (fun _=>true) true f g.type ((cs.drop g.offset).take (P.cellsOf g.type))).map fun xs=>(DataW.agg (xs.map (·.1)),xs.flatMap (·.2)) else none)=some x:=by
      rw[← hx];simp only[DataW.trod,hu]
    split at lf
    · rename_i hl;simp only[Option.map_eq_some_iff]at lf;obtain⟨xs,ZS,he⟩:=lf;have hlen:=(jy ZS).1;obtain⟨hj,hjv⟩:=Array.getElem?_eq_some_iff.1 hf;have X6:j < (fieldsOf P t).toList.length:=by simpa using hj
      have Vo:j < xs.length:=by omega
      have hg:=rY ZS j X6 Vo;have e1:(fieldsOf P t).toList[j]=wu P t j:=by rw[← hjv];simp
      rw[e1]at hg;refine⟨f,xs[j],hg,fun n hn=>hw n ?_⟩;rw[← he];simp only[DataW.weights,hu];refine DataW.weights_mem_each (j:=j) (t:=(wu P t j).type) (d:=xs[j].1) ?_ ?_ n hn
      · rw[List.getElem?_map,List.getElem?_eq_getElem X6,e1];rfl
      · rw[List.getElem?_map,List.getElem?_eq_getElem Vo];rfl
    · cases lf
theorem kz.wu {cs:List Value} (h:kz enc P w t cs) (j:Nat) {o n:Nat} (hu:P.underlying t=some (.struct (fieldsOf P t))) (hf:(fieldsOf P t)[j]? = some (wu P t j)) (h1:P.cellsOf (wu P t j).type=1)
    (ho:(Go.V.wu P t j).offset=o) (hn:cs.length=n) (cF:o < n):∃v,cs[o]? = some v∧kz enc P w (Go.V.wu P t j).type [v]:=by
  have:=h.Xp j hu hf h1 ho;have hl:o < cs.length:=by omega
  refine⟨cs[o],List.getElem?_eq_getElem hl,?_⟩;rw[List.drop_eq_getElem_cons hl,List.take_succ_cons,List.take_zero]at this;exact this
theorem kz.string {cs:List Value} (hu:P.underlying t=some .string) (h:kz enc P w t cs):∃s,cs=[.string s]∧s.size≤reachBytes:=by
  obtain⟨s,rfl,_⟩:=h.Rb.string hu;refine⟨s,rfl,?_⟩;obtain⟨f,x,hx,hw⟩:=h
  cases f with
  | zero=>simp[DataW.trod]at hx
  | succ f=>
    simp only[DataW.trod,hu]at hx
    have key:x=(DataW.lit (Lit.string s.data.toList),[]):=by
      revert hx;split <;> intro hx <;> cases hx <;> rfl
    subst key;have:=hw s.data.toList.length (List.mem_singleton.2 rfl);rw[Array.length_toList]at this;exact this
structure BY (enc:TypeId×Value→H) (P:Program) (w:Wd) (e:TypeId) (s:Sl) (gi:List (List Value)):Prop extends ti enc P w e s gi where
  abT:∀es∈gi,kz enc P w e es
  sz:s.cap * P.bytesOf e≤reachBytes
theorem kz.slice {e:TypeId} {cs:List Value} (hu:P.underlying t=some (.slice e)) (h:kz enc P w t cs):∃s:Sl,cs=[s.v]∧∃gi,BY enc P w e s gi:=by
  obtain⟨f,x,hf,hw⟩:=h
  cases f with
  | zero=>simp[DataW.trod]at hf
  | succ f=>
    match cs with
    | []=>simp[DataW.trod,hu]at hf
    | _::_::_=>simp[DataW.trod,hu]at hf
    | [v]=>
      cases v <;> (try simp[DataW.trod,hu]at hf;done)
      rename_i a len cap
      cases a with
      | none=>
        have:len=0∧cap=0:=by
          cases len <;> cases cap <;> simp[DataW.trod,hu]at hf <;> simp
        obtain⟨rfl,rfl⟩:=this;exact⟨⟨none,0,0⟩,rfl,[],⟨rfl,by simp,Nat.le_refl _,Nat.zero_le _,fun h=>absurd rfl h⟩,by simp,by simp⟩
      | some a=>
        refine⟨⟨some a,len,cap⟩,rfl,?_⟩;simp only[DataW.trod,hu]at hf;split at hf
        · rename_i hc;simp only[Option.bind_eq_some_iff,if_true,Option.map_eq_some_iff]at hf;obtain⟨elems,NL,rest,hre,heq⟩:=hf;have hlen:=(jy NL).1;have K3:=(jy hre).1;simp only[List.length_range]at hlen K3;rw[← heq]at hw;simp only[DataW.weights,hu,List.mem_cons,List.mem_append]at hw
          have Rc:∀i,i < len→∃es y,w.cells? 0 (a.add (i * P.cellsOf e)) (P.cellsOf e)=some es∧DataW.trod enc P w 0 (fun _=>true) true f e es=some y∧y∈elems:=fun i hi=>by
            have hy:=rY NL i (by simpa using hi) (by omega);simp only[Option.bind_eq_some_iff,List.getElem_range]at hy;obtain⟨es,h1,h2⟩:=hy;exact⟨es,elems[i],h1,h2,List.getElem_mem _⟩
          obtain⟨g,hg⟩ : ∃g:Nat→List Value,∀i,i < len→∃y,w.cells? 0 (a.add (i * P.cellsOf e)) (P.cellsOf e)=some (g i)∧DataW.trod enc P w 0 (fun _=>true) true f e (g i)=some y∧y∈elems:=by
            refine⟨fun i=>if h:i < len then Classical.choose (Rc i h) else[],fun i hi=>?_⟩;simp only[hi,dif_pos];exact Classical.choose_spec (Rc i hi)
          have BX:∀i,i < len→(g i).length=P.cellsOf e∧∀j (hj:j < (g i).length),w.cell? ((a.add (i * P.cellsOf e)).add j)=some (g i)[j]:=fun i hi=>by
            obtain⟨y,h1,_⟩:=hg i hi;simp only[World.cells?,Nat.zero_le,if_true]at h1;have hl:=(jy h1).1;simp only[List.length_range]at hl;refine⟨hl,fun j hj=>?_⟩;have:=rY h1 j (by simp;omega) hj;simpa using this
          have qx:∀es∈(List.range len).map g,∃i,i < len∧es=g i:=fun es qx=>by
            obtain⟨i,hi,rfl⟩:=List.mem_map.1 qx;exact⟨i,by simpa using hi,rfl⟩
          refine⟨(List.range len).map g,⟨by simp,?_,hc.2.1,hc.2.2,fun _=>⟨a,rfl,?_⟩⟩,?_,?_⟩
          · intro es h;obtain⟨i,hi,rfl⟩:=qx es h;obtain⟨y,_,h2,_⟩:=hg i hi;exact⟨(BX i hi).1,f,y,h2⟩
          · intro i hi j hj;simp only[List.length_map,List.length_range]at hi;simp only[List.getElem_map,List.getElem_range]at hj ⊢;exact(BX i hi).2 j hj
          · intro es h;obtain⟨i,hi,rfl⟩:=qx es h;obtain⟨y,_,h2,h3⟩:=hg i hi;exact⟨f,y,h2,fun n hn=>hw n (.inr (.inl (yR (List.mem_map.2 ⟨y,h3,rfl⟩) n hn)))⟩
          · have:=hw _ (.inl rfl);simp only[List.length_map,hlen,K3]at this;have e2:len+(cap - len)=cap:=by have:=hc.2.1;omega
            rw[e2]at this;exact this
        · cases hf
theorem BY.list {e:TypeId} {s:Sl} {gi:List (List Value)} {α:Type} (h:BY enc P w e s gi) (c:α→List Value) (p:α→Prop) (hex:∀ es,es.length=P.cellsOf e→kz enc P w e es→∃ x,es=c x∧p x)
    {sz:Nat} (gZ:P.cellsOf e=sz) (tv:0 < sz) (hc:∀x,p x→∀v∈c x,aJ v=true):∃l:List α,l.length=s.len∧Rd w.heap s sz (l.flatMap c)∧∀x∈l,p x:=by
  have key:∀gi:List (List Value),(∀es∈gi,∃x,es=c x∧p x)→∃l:List α,l.length=gi.length∧gi=l.map c∧∀x∈l,p x:=by
    intro gi
    induction gi with
    | nil=>intro _;exact⟨[],rfl,rfl,by simp⟩
    | cons x r ih=>
      intro hx;obtain⟨l,h0,h1,h2⟩:=ih fun es qx=>hx es (by simp[qx])
      obtain⟨n,rfl,hn⟩:=hx x (by simp);exact⟨n::l,by simp[h0],by simp[h1],fun y hy=>by rcases List.mem_cons.1 hy with rfl | hy;exact hn;exact h2 y hy⟩
  obtain⟨l,h0,h1,h2⟩:=key gi fun es qx=>hex es (h.each es qx).1 (h.abT es qx)
  refine⟨l,by rw[h0,h.num],?_,h2⟩
  have:=h.rd gZ tv fun es qx v hv=>by
    rw[h1]at qx;obtain⟨x,hx,rfl⟩:=List.mem_map.1 qx;exact hc x (h2 x hx) v hv
  rw[h1]at this
  rwa [← List.flatMap_def]at this
theorem kz.bytes {cs:List Value} {e:TypeId} (hu:P.underlying t=some (.slice e)) (he:P.underlying e=some (.int .u8)) (gZ:P.cellsOf e=1) (hb:P.bytesOf e=1) (h:kz enc P w t cs) :
    ∃(s:Sl) (l:List Int),cs=[s.v]∧Rd w.heap s 1 (l.map (Value.int .u8))∧B8 l∧s.len≤0x7ffffffff000:=by
  obtain⟨s,rfl,gi,el⟩:=h.slice hu;obtain⟨l,rd,b8⟩:=el.bytes he gZ;refine⟨s,l,rfl,rd,b8,?_⟩;have h1:=el.sz;have h2:=el.cap;rw[hb,Nat.mul_one]at h1;exact Nat.le_trans h2 h1
end
end Go.V
set_option maxRecDepth 100000
namespace Go.Proofs.YtpjbalhhlaofmaaGreat
open Go.V Go.V.Pk
section
variable {H:Type} {enc:TypeId×Value->H} {W:Wd}
def TQ:Nat->Prop:=fun _=>True
theorem nF{n:Int}{k:IntKind}(h:(Lit.int k n).wf=true):k.min<=n/\n<=k.max:=by simpa[Lit.wf] using h
theorem U1{t:TypeId}{v:Value}(hu:Tryz.prog.underlying t=some (.slice 5))(h:kz enc pz W t [v]):∃(s:Sl) (l:List Int),v = .slice s.a s.len s.cap/\pe TQ W.heap s l/\B8 l/\l.length<=140737488351232:=by
 obtain⟨s,l,e,r,b,z⟩:=h.bytes hu (by kernel_rfl) (by kernel_rfl) (by kernel_rfl)
 cases e
 exact⟨s,l,rfl,⟨r,fun _ _ _=>trivial⟩,b,by have:=b_.len r;omega⟩
theorem TI:(IntKind.min .u8=0/\IntKind.max .u8=255)/\(IntKind.min .u16=0/\IntKind.max .u16=65535)/\(IntKind.min .u32=0/\IntKind.max .u32=4294967295)/\IntKind.min .u64=0/\IntKind.max .u64=18446744073709551615:=⟨⟨rfl,rfl⟩,⟨rfl,rfl⟩,⟨rfl,rfl⟩,rfl,rfl⟩
theorem TJ{es:List Value}(hl:es.length=3)(hr:kz enc pz W 76 es):∃o:ej×bX,es=o.1.cells/\dF TQ W.heap o.1 o.2/\j_ o.2/\o.2.wr.length<=140737488351232:=by
 obtain⟨v0,g0,t0⟩:=hr.wu 0 (o:=0) (n:=3) (by kernel_rfl) (by kernel_rfl) (by kernel_rfl) (by kernel_rfl) hl (by decide);obtain⟨v1,g1,t1⟩:=hr.wu 1 (o:=1) (n:=3) (by kernel_rfl) (by kernel_rfl) (by kernel_rfl) (by kernel_rfl) hl (by decide);obtain⟨v2,g2,t2⟩:=hr.wu 2 (o:=2) (n:=3) (by kernel_rfl) (by kernel_rfl) (by kernel_rfl) (by kernel_rfl) hl (by decide);obtain⟨n0,e0,w0⟩:=t0.Rb.int (k:= .u16) (by kernel_rfl);obtain⟨n1,e1,w1⟩:=t1.Rb.int (k:= .u64) (by kernel_rfl);obtain⟨s2,l2,e2,r2,b2,z2⟩:=U1 (by kernel_rfl) t2
 cases e0;cases e1;cases e2
 have u0:=nF w0;have u1:=nF w1;obtain⟨_,m16,_,m64⟩:=TI;refine⟨(⟨n0,n1,s2⟩,⟨n0,n1,l2⟩),?_,⟨rfl,rfl,r2⟩,⟨⟨by show 0<=n0;omega,by show n0<=_;omega⟩,⟨by show 0<=n1;omega,by show n1<=_;omega⟩,b2⟩,z2⟩
 match es,hl,g0,g1,g2 with
 | [x,y,z],_,g0,g1,g2=>simp at g0 g1 g2;simp[ej.cells,g0,g1,g2]
theorem Rg{t:TypeId}{v:Value}(hu:Tryz.prog.underlying t=some (.slice 76))(h:kz enc pz W t [v]):∃(s:Sl) (l:List bX),v = .slice s.a s.len s.cap/\cW TQ W.heap s l/\l.length<=140737488351232/\∀o∈l,j_ o/\o.wr.length<=140737488351232:=by
 obtain⟨s,e,gi,el⟩:=h.slice hu
 cases e
 obtain⟨L,h1,h2,h3⟩:=el.list (fun o:ej×bX=>o.1.cells) (fun o=>dF TQ W.heap o.1 o.2/\j_ o.2/\o.2.wr.length<=140737488351232) (fun es hl hr=>TJ (by rw[hl];kernel_rfl) hr) (sz:=3) (by kernel_rfl) (by decide) (fun x _ v hv=>x.1.one v hv);have hb:Tryz.prog.bytesOf 76=40:=by kernel_rfl
 have hz:=el.sz;rw[hb]at hz;have hc:=el.cap;have hr:reachBytes=140737488351232:=rfl;refine⟨s,L.map Prod.snd,rfl,⟨L,rfl,h2,fun _ _ _=>trivial,fun e he=>(h3 e he).1⟩,by rw[List.length_map];omega,fun o ho=>?_⟩;obtain⟨e,he,rfl⟩:=List.mem_map.1 ho;exact(h3 e he).2
theorem TK{t:TypeId}{es:List Value}(ht:t=30)(hl:es.length=4)(hr:kz enc pz W t es):∃(r:Rf) (lv:Int),es=[.int .u32 r.p,.int .u64 r.c,.int .u16 r.g,.int .u8 lv]/\r.ok/\0<=lv/\lv<=255:=by
 subst ht;have t0:=hr.Xp 0 (o:=0) (m:=3) (by kernel_rfl) (by kernel_rfl) (by kernel_rfl) (by kernel_rfl);obtain⟨v3,g3,t3⟩:=hr.wu 1 (o:=3) (n:=4) (by kernel_rfl) (by kernel_rfl) (by kernel_rfl) (by kernel_rfl) hl (by decide);have KN:((es.drop 0).take 3).length=3:=by simp[hl]
 obtain⟨v0,g0,q0⟩:=t0.wu 0 (o:=0) (n:=3) (by kernel_rfl) (by kernel_rfl) (by kernel_rfl) (by kernel_rfl) KN (by decide);obtain⟨v1,g1,q1⟩:=t0.wu 1 (o:=1) (n:=3) (by kernel_rfl) (by kernel_rfl) (by kernel_rfl) (by kernel_rfl) KN (by decide);obtain⟨v2,g2,q2⟩:=t0.wu 2 (o:=2) (n:=3) (by kernel_rfl) (by kernel_rfl) (by kernel_rfl) (by kernel_rfl) KN (by decide);obtain⟨n0,e0,w0⟩:=q0.Rb.int (k:= .u32) (by kernel_rfl);obtain⟨n1,e1,w1⟩:=q1.Rb.int (k:= .u64) (by kernel_rfl);obtain⟨n2,e2,w2⟩:=q2.Rb.int (k:= .u16) (by kernel_rfl);obtain⟨n3,e3,w3⟩:=t3.Rb.int (k:= .u8) (by kernel_rfl)
 cases e0;cases e1;cases e2;cases e3
 have u0:=nF w0;have u1:=nF w1;have u2:=nF w2;have u3:=nF w3;obtain⟨m8,m16,m32,m64⟩:=TI;refine⟨⟨n0,n1,n2⟩,n3,?_,⟨⟨by show 0<=n0;omega,by show n0<=_;omega⟩,⟨by show 0<=n1;omega,by show n1<=_;omega⟩,⟨by show 0<=n2;omega,by show n2<=_;omega⟩⟩,by omega,by omega⟩
 match es,hl,g0,g1,g2,g3 with
 | [x,y,z,u],_,g0,g1,g2,g3=>simp at g0 g1 g2 g3;simp[g0,g1,g2,g3]
theorem FX{t:TypeId}{es:List Value}(ht:t=33)(hl:es.length=9)(hr:kz enc pz W t es):∃p:aV×aO,es=p.1.cells/\bL TQ W.heap p.1 p.2/\TD p.2:=by
 subst ht;obtain⟨v0,g0,t0⟩:=hr.wu 0 (o:=0) (n:=9) (by kernel_rfl) (by kernel_rfl) (by kernel_rfl) (by kernel_rfl) hl (by decide);obtain⟨v1,g1,t1⟩:=hr.wu 1 (o:=1) (n:=9) (by kernel_rfl) (by kernel_rfl) (by kernel_rfl) (by kernel_rfl) hl (by decide);obtain⟨v2,g2,t2⟩:=hr.wu 2 (o:=2) (n:=9) (by kernel_rfl) (by kernel_rfl) (by kernel_rfl) (by kernel_rfl) hl (by decide);have t3:=hr.Xp 3 (o:=3) (m:=4) (by kernel_rfl) (by kernel_rfl) (by kernel_rfl) (by kernel_rfl);obtain⟨v4,g4,t4⟩:=hr.wu 4 (o:=7) (n:=9) (by kernel_rfl) (by kernel_rfl) (by kernel_rfl) (by kernel_rfl) hl (by decide);obtain⟨v5,g5,t5⟩:=hr.wu 5 (o:=8) (n:=9) (by kernel_rfl) (by kernel_rfl) (by kernel_rfl) (by kernel_rfl) hl (by decide);obtain⟨n0,e0,w0⟩:=t0.Rb.int (k:= .u32) (by kernel_rfl);obtain⟨n1,e1,_⟩:=t1.Rb.int (k:= .i64) (by kernel_rfl);obtain⟨s2,l2,e2,r2,b2,z2⟩:=U1 (by kernel_rfl) t2;obtain⟨r,lv,e3,rok,lv0,lv1⟩:=TK (by kernel_rfl) (by simp[hl]) t3;obtain⟨n4,e4,_⟩:=t4.Rb.int (k:= .i64) (by kernel_rfl);obtain⟨s5,l5,e5,r5,z5,q5⟩:=Rg (by kernel_rfl) t5
 cases e0;cases e1;cases e2;cases e4;cases e5
 have u0:=nF w0;obtain⟨m8,m16,m32,m64⟩:=TI;refine⟨(⟨n0,n1,s2,r,lv,n4,s5⟩,⟨n0,n1,l2,r,lv,n4,l5⟩),?_,⟨rfl,rfl,r2,rfl,rfl,rfl,r5⟩,⟨⟨⟨by show 0<=n0;omega,by show n0<=_;omega⟩,b2,rok,⟨lv0,lv1⟩,fun h hh=>(q5 h hh).1⟩,by show l2.length<=_;omega,by show l5.length<=_;omega,fun h hh=>(q5 h hh).2⟩⟩
 match es,hl,g0,g1,g2,e3,g4,g5 with
 | [a0,a1,a2,a3,a4,a5,a6,a7,a8],_,g0,g1,g2,e3,g4,g5=>
  simp at g0 g1 g2 e3 g4 g5;obtain⟨f1,f2,f3,f4⟩:=e3;simp[aV.cells,g0,g1,g2,g4,g5,f1,f2,f3,f4]
theorem Rh{n:Int}(h:(Lit.int .u32 n).wf=true):FN n:=by
 have:=nF h;obtain⟨_,_,m32,_⟩:=TI;exact⟨by omega,by omega⟩
end
end Go.Proofs.YtpjbalhhlaofmaaGreat
