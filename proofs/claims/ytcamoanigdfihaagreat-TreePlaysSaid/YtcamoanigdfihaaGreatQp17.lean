/- Texts for LTreePlays, part 17. -/
import Derived.SizedLaws
import Derived.Test.YtcamoanigdfihaaGreatQp16
namespace Go.V
section
variable {H:Type} {enc:TypeId×Value→H} {P:Program} {w:Wd} {t:TypeId}
theorem weights_all {e:TypeId}:∀ {ds:List (DataW H)} {d:DataW H},d∈ds→∀ n∈d.weights P e,n∈DataW.weightsAll P e ds
  | d0::ds,d,hd,n,hn=>by
    simp only [DataW.weightsAll,List.mem_append]
    rcases List.mem_cons.1 hd with rfl | hd
    · exact .inl hn
    · exact .inr (weights_all hd n hn)
def TyRS {H:Type} (enc:TypeId×Value→H) (P:Program) (w:Wd) (t:TypeId) (cs:List Value):Prop:=∃ fuel x,DataW.trod enc P w 0 (fun _=>true) true fuel t cs=some x∧∀ n∈x.1.weights P t,n≤reachBytes
theorem TyRS.tyR {cs:List Value} (h:TyRS enc P w t cs):TyR enc P w t cs:=by obtain ⟨f,x,hx,_⟩:=h; exact ⟨f,x,hx⟩
theorem Trod.tyRS {v:Value} {d:DataW H} {ps:List MemPlace} {ts:List TypeId} {ds:List (DataW H)} (h:DataW.Trod enc P w 0 (fun _=>true) true t v d ps) (hsz:(DataW.weightsEach P ts ds).all (·≤reachBytes)=true) (j:Nat) (ht:ts[j]? = some t) (hd:ds[j]? = some d) :
    TyRS enc P w t v.cells.toList:=by
  obtain ⟨f,hf⟩:=h
  refine ⟨f,_,hf,fun n hn=>?_⟩
  have:=List.all_eq_true.1 hsz n (DataW.weights_mem_each ht hd n hn)
  simpa using this
theorem TyRS.fldN {cs:List Value} (h:TyRS enc P w t cs) (j:Nat) {o m:Nat} (hu:P.underlying t=some (.struct (fieldsOf P t))) (hf:(fieldsOf P t)[j]? = some (fld P t j)) (h1:P.cellsOf (fld P t j).type=m)
    (ho:(fld P t j).offset=o):TyRS enc P w (fld P t j).type ((cs.drop o).take m):=by
  subst ho h1
  obtain ⟨f,x,hx,hw⟩:=h
  cases f with
  | zero=>simp [DataW.trod] at hx
  | succ f =>
    have hf':(if cs.length=P.cellsOf t then ((fieldsOf P t).toList.mapM fun g=>DataW.trod enc P w 0 (fun _=>true) true f g.type ((cs.drop g.offset).take (P.cellsOf g.type))).map fun xs=>(DataW.agg (xs.map (·.1)),xs.flatMap (·.2)) else none)=some x:=by
      rw [← hx]
      simp only [DataW.trod,hu]
    split at hf'
    · rename_i hl
      simp only [Option.map_eq_some_iff] at hf'
      obtain ⟨xs,hxs,he⟩:=hf'
      have hlen:=(mapM_all hxs).1
      obtain ⟨hj,hjv⟩:=Array.getElem?_eq_some_iff.1 hf
      have hj1:j < (fieldsOf P t).toList.length:=by simpa using hj
      have hj2:j < xs.length:=by omega
      have hg:=mapM_get hxs j hj1 hj2
      have e1:(fieldsOf P t).toList[j]=fld P t j:=by rw [← hjv]; simp
      rw [e1] at hg
      refine ⟨f,xs[j],hg,fun n hn=>hw n ?_⟩
      rw [← he]
      simp only [DataW.weights,hu]
      refine DataW.weights_mem_each (j:=j) (t:=(fld P t j).type) (d:=xs[j].1) ?_ ?_ n hn
      · rw [List.getElem?_map,List.getElem?_eq_getElem hj1,e1]; rfl
      · rw [List.getElem?_map,List.getElem?_eq_getElem hj2]; rfl
    · cases hf'
theorem TyRS.fld {cs:List Value} (h:TyRS enc P w t cs) (j:Nat) {o n:Nat} (hu:P.underlying t=some (.struct (fieldsOf P t))) (hf:(fieldsOf P t)[j]? = some (fld P t j)) (h1:P.cellsOf (fld P t j).type=1)
    (ho:(Go.V.fld P t j).offset=o) (hn:cs.length=n) (hlt:o < n):∃ v,cs[o]? = some v∧TyRS enc P w (Go.V.fld P t j).type [v]:=by
  have:=h.fldN j hu hf h1 ho
  have hl:o < cs.length:=by omega
  refine ⟨cs[o],List.getElem?_eq_getElem hl,?_⟩
  rw [List.drop_eq_getElem_cons hl,List.take_succ_cons,List.take_zero] at this
  exact this
theorem TyRS.string {cs:List Value} (hu:P.underlying t=some .string) (h:TyRS enc P w t cs):∃ s,cs=[.string s]∧s.size≤reachBytes:=by
  obtain ⟨s,rfl,_⟩:=h.tyR.string hu
  refine ⟨s,rfl,?_⟩
  obtain ⟨f,x,hx,hw⟩:=h
  cases f with
  | zero=>simp [DataW.trod] at hx
  | succ f =>
    simp only [DataW.trod,hu] at hx
    have key:x=(DataW.lit (Lit.string s.data.toList),[]):=by
      revert hx; split <;> intro hx <;> cases hx <;> rfl
    subst key
    have:=hw s.data.toList.length (List.mem_singleton.2 rfl)
    rw [Array.length_toList] at this
    exact this
structure ElemsS (enc:TypeId×Value→H) (P:Program) (w:Wd) (e:TypeId) (s:Sl) (ess:List (List Value)):Prop extends Elems enc P w e s ess where
  eachS:∀ es∈ess,TyRS enc P w e es
  sz:s.cap * P.bytesOf e≤reachBytes
theorem TyRS.slice {e:TypeId} {cs:List Value} (hu:P.underlying t=some (.slice e)) (h:TyRS enc P w t cs):∃ s:Sl,cs=[s.v]∧∃ ess,ElemsS enc P w e s ess:=by
  obtain ⟨f,x,hf,hw⟩:=h
  cases f with
  | zero=>simp [DataW.trod] at hf
  | succ f =>
    match cs with
    | []=>simp [DataW.trod,hu] at hf
    | _::_::_=>simp [DataW.trod,hu] at hf
    | [v] =>
      cases v <;> (try simp [DataW.trod,hu] at hf; done)
      rename_i a len cap
      cases a with
      | none =>
        have:len=0∧cap=0:=by
          cases len <;> cases cap <;> simp [DataW.trod,hu] at hf <;> simp
        obtain ⟨rfl,rfl⟩:=this
        exact ⟨⟨none,0,0⟩,rfl,[],⟨rfl,by simp,Nat.le_refl _,Nat.zero_le _,fun h=>absurd rfl h⟩,by simp,by simp⟩
      | some a =>
        refine ⟨⟨some a,len,cap⟩,rfl,?_⟩
        simp only [DataW.trod,hu] at hf
        split at hf
        · rename_i hc
          simp only [Option.bind_eq_some_iff,if_true,Option.map_eq_some_iff] at hf
          obtain ⟨elems,hel,rest,hre,heq⟩:=hf
          have hlen:=(mapM_all hel).1
          have hlen2:=(mapM_all hre).1
          simp only [List.length_range] at hlen hlen2
          rw [← heq] at hw
          simp only [DataW.weights,hu,List.mem_cons,List.mem_append] at hw
          have hget:∀ i,i < len→∃ es y,w.cells? 0 (a.add (i * P.cellsOf e)) (P.cellsOf e)=some es∧DataW.trod enc P w 0 (fun _=>true) true f e es=some y∧y∈elems:=fun i hi=>by
            have hy:=mapM_get hel i (by simpa using hi) (by omega)
            simp only [Option.bind_eq_some_iff,List.getElem_range] at hy
            obtain ⟨es,h1,h2⟩:=hy
            exact ⟨es,elems[i],h1,h2,List.getElem_mem _⟩
          obtain ⟨g,hg⟩ : ∃ g:Nat→List Value,∀ i,i < len→∃ y,w.cells? 0 (a.add (i * P.cellsOf e)) (P.cellsOf e)=some (g i)∧DataW.trod enc P w 0 (fun _=>true) true f e (g i)=some y∧y∈elems:=by
            refine ⟨fun i=>if h:i < len then Classical.choose (hget i h) else [],fun i hi=>?_⟩
            simp only [hi,dif_pos]
            exact Classical.choose_spec (hget i hi)
          have hcells:∀ i,i < len→(g i).length=P.cellsOf e∧∀ j (hj:j < (g i).length),w.cell? ((a.add (i * P.cellsOf e)).add j)=some (g i)[j]:=fun i hi=>by
            obtain ⟨y,h1,_⟩:=hg i hi
            simp only [World.cells?,Nat.zero_le,if_true] at h1
            have hl:=(mapM_all h1).1
            simp only [List.length_range] at hl
            refine ⟨hl,fun j hj=>?_⟩
            have:=mapM_get h1 j (by simp; omega) hj
            simpa using this
          have hes:∀ es∈(List.range len).map g,∃ i,i < len∧es=g i:=fun es hes=>by
            obtain ⟨i,hi,rfl⟩:=List.mem_map.1 hes
            exact ⟨i,by simpa using hi,rfl⟩
          refine ⟨(List.range len).map g,⟨by simp,?_,hc.2.1,hc.2.2,fun _=>⟨a,rfl,?_⟩⟩,?_,?_⟩
          · intro es h
            obtain ⟨i,hi,rfl⟩:=hes es h
            obtain ⟨y,_,h2,_⟩:=hg i hi
            exact ⟨(hcells i hi).1,f,y,h2⟩
          · intro i hi j hj
            simp only [List.length_map,List.length_range] at hi
            simp only [List.getElem_map,List.getElem_range] at hj ⊢
            exact (hcells i hi).2 j hj
          · intro es h
            obtain ⟨i,hi,rfl⟩:=hes es h
            obtain ⟨y,_,h2,h3⟩:=hg i hi
            exact ⟨f,y,h2,fun n hn=>hw n (.inr (.inl (weights_all (List.mem_map.2 ⟨y,h3,rfl⟩) n hn)))⟩
          · have:=hw _ (.inl rfl)
            simp only [List.length_map,hlen,hlen2] at this
            have e2:len+(cap - len)=cap:=by have:=hc.2.1; omega
            rw [e2] at this
            exact this
        · cases hf
theorem ElemsS.list {e:TypeId} {s:Sl} {ess:List (List Value)} {α:Type} (h:ElemsS enc P w e s ess) (c:α→List Value) (p:α→Prop) (hex:∀ es,es.length=P.cellsOf e→TyRS enc P w e es→∃ x,es=c x∧p x)
    {sz:Nat} (hsz:P.cellsOf e=sz) (hpos:0 < sz) (hc:∀ x,p x→∀ v∈c x,oneC v=true):∃ l:List α,l.length=s.len∧Rd w.heap s sz (l.flatMap c)∧∀ x∈l,p x:=by
  have key:∀ ess:List (List Value),(∀ es∈ess,∃ x,es=c x∧p x)→∃ l:List α,l.length=ess.length∧ess=l.map c∧∀ x∈l,p x:=by
    intro ess
    induction ess with
    | nil=>intro _; exact ⟨[],rfl,rfl,by simp⟩
    | cons x r ih =>
      intro hx
      obtain ⟨l,h0,h1,h2⟩:=ih fun es hes=>hx es (by simp [hes])
      obtain ⟨n,rfl,hn⟩:=hx x (by simp)
      exact ⟨n::l,by simp [h0],by simp [h1],fun y hy=>by rcases List.mem_cons.1 hy with rfl | hy; exact hn; exact h2 y hy⟩
  obtain ⟨l,h0,h1,h2⟩:=key ess fun es hes=>hex es (h.each es hes).1 (h.eachS es hes)
  refine ⟨l,by rw [h0,h.num],?_,h2⟩
  have:=h.rd hsz hpos fun es hes v hv=>by
    rw [h1] at hes
    obtain ⟨x,hx,rfl⟩:=List.mem_map.1 hes
    exact hc x (h2 x hx) v hv
  rw [h1] at this
  rwa [← List.flatMap_def] at this
theorem TyRS.bytes {cs:List Value} {e:TypeId} (hu:P.underlying t=some (.slice e)) (he:P.underlying e=some (.int .u8)) (hsz:P.cellsOf e=1) (hb:P.bytesOf e=1) (h:TyRS enc P w t cs) :
    ∃ (s:Sl) (l:List Int),cs=[s.v]∧Rd w.heap s 1 (l.map (Value.int .u8))∧B8 l∧s.len≤0x7ffffffff000:=by
  obtain ⟨s,rfl,ess,el⟩:=h.slice hu
  obtain ⟨l,rd,b8⟩:=el.bytes he hsz
  refine ⟨s,l,rfl,rd,b8,?_⟩
  have h1:=el.sz
  have h2:=el.cap
  rw [hb,Nat.mul_one] at h1
  exact Nat.le_trans h2 h1
end
end Go.V
set_option maxRecDepth 100000
namespace Go.Proofs.YtcamoanigdfihaaGreat
open Go.V
section
variable {H:Type} {enc:TypeId×Value->H} {W:Wd}
end
end Go.Proofs.YtcamoanigdfihaaGreat
namespace Go.V
def SzL(L:List (Sl×List OpV)):Prop:=∀ p∈L,∀ x∈p.2,x.key.length<=140737488351232/\x.val.length<=140737488351232
end Go.V
namespace Go.Proofs.YtcamoanigdfihaaGreat
open Go.V
section
variable {H:Type} {enc:TypeId×Value->H} {W:Wd}
theorem opS_ty{es:List Value}(hl:es.length=3)(hr:TyRS enc pz W T_api_Op es):∃ o:OpV,es=o.cs/\OpA W.heap o/\o.key.length<=140737488351232/\o.val.length<=140737488351232:=by
 obtain ⟨v0,g0,t0⟩:=hr.fld 0 (o:=0) (n:=3) (by kernel_rfl) (by kernel_rfl) (by kernel_rfl) (by kernel_rfl) (by rw [hl]) (by decide)
 obtain ⟨v1,g1,t1⟩:=hr.fld 1 (o:=1) (n:=3) (by kernel_rfl) (by kernel_rfl) (by kernel_rfl) (by kernel_rfl) (by rw [hl]) (by decide)
 obtain ⟨v2,g2,t2⟩:=hr.fld 2 (o:=2) (n:=3) (by kernel_rfl) (by kernel_rfl) (by kernel_rfl) (by kernel_rfl) (by rw [hl]) (by decide)
 obtain ⟨s0,l0,e0,r0,h0,z0⟩:=TyRS.bytes (e:=5) (by kernel_rfl) (by kernel_rfl) (by kernel_rfl) (by kernel_rfl) t0
 obtain ⟨s1,l1,e1,r1,h1,z1⟩:=TyRS.bytes (e:=5) (by kernel_rfl) (by kernel_rfl) (by kernel_rfl) (by kernel_rfl) t1
 obtain ⟨b,e2⟩:=t2.tyR.bool (by kernel_rfl)
 cases e0; cases e1; cases e2
 refine ⟨⟨s0,s1,b,l0,l1⟩,?_,⟨r0,r1,h0,h1⟩,?_,?_⟩
 .match es,hl,g0,g1,g2 with
  | [x,y,z],_,g0,g1,g2=>simp at g0 g1 g2; simp [OpV.cs,g0,g1,g2]
 .have:=RdB.len r0; show l0.length<=_; omega
 .have:=RdB.len r1; show l1.length<=_; omega
theorem rowS_ty{es:List Value}(hr:TyRS enc pz W 59 es):∃ p:Sl×List OpV,es=[rowV p]/\(Rd W.heap p.1 3 (p.2.flatMap OpV.cs)/\(∀ x∈p.2,OpA W.heap x/\x.key.length<=140737488351232/\x.val.length<=140737488351232)/\p.2.length<=1152921504606846976):=by
 obtain ⟨s,e,ess,el⟩:=TyRS.slice (e:=58) (by kernel_rfl) hr
 obtain ⟨l,h1,h2,h3⟩:=el.list OpV.cs (fun x=>OpA W.heap x/\x.key.length<=140737488351232/\x.val.length<=140737488351232) (fun es hl hr=>opS_ty (by rw [hl]; kernel_rfl) hr) (sz:=3) (by kernel_rfl) (by decide) (fun x _=>opOne x)
 refine ⟨(s,l),e,h2,h3,?_⟩
 have hb:Tryz.prog.bytesOf 58=56:=by kernel_rfl
 have:=el.sz
 rw [hb] at this
 have hc:=el.cap
 have hr:reachBytes=140737488351232:=rfl
 show l.length<=_
 omega
theorem rowsS_flat:∀ L:List (Sl×List OpV),L.flatMap (fun p:Sl×List OpV=>[rowV p])=L.map rowV
 | []=>rfl
 | x::L=>by simp only [List.flatMap_cons,List.map_cons,List.singleton_append]; congr 1; exact rowsS_flat L
theorem rowsS_open{s:Sl}{ess:List (List Value)}(h:ElemsS enc pz W 59 s ess):∃ L:List (Sl×List OpV),RowsR W.heap s L/\SzL L:=by
 obtain ⟨L,_,h2,h3⟩:=h.list (fun p:Sl×List OpV=>[rowV p]) (fun p=>Rd W.heap p.1 3 (p.2.flatMap OpV.cs)/\(∀ x∈p.2,OpA W.heap x/\x.key.length<=140737488351232/\x.val.length<=140737488351232)/\p.2.length<=1152921504606846976) (fun es _ hr=>rowS_ty hr) (sz:=1) (by kernel_rfl) (by decide) (fun p _ v hv=>by rw [List.mem_singleton] at hv; rw [hv]; rfl)
 have e:L.flatMap (fun p:Sl×List OpV=>[rowV p])=L.map rowV:=rowsS_flat L
 exact ⟨L,⟨by rw [<- e]; exact h2,fun p hp=>(h3 p hp).1,fun p hp x hx=>((h3 p hp).2.1 x hx).1,fun p hp=>(h3 p hp).2.2⟩,fun p hp x hx=>((h3 p hp).2.1 x hx).2⟩
end
end Go.Proofs.YtcamoanigdfihaaGreat
namespace Go.V
theorem PrsR.ex2{S Q:Nat->Prop}{w w':Wd}{s:Sl}{l:List Pr}(r:PrsR w.heap Q s l)(x:Ext S w w')(hs:∀ q,s.blk=some q->¬ S q)(hq:∀ q,q < w.heap.size->Q q->¬ S q):PrsR w'.heap Q s l :=
 ⟨r.rd.ext x fun a q ha hb=>hs q (by simp [Sl.blk,ha,hb]),fun p hp=>(r.pr p hp).ext x hq⟩
theorem Ix.short{b:Option Addr}{n n' sz:Nat}{i:Int}{K:Addr->Prop}(h:Ix b n i sz K)(hi:i < (n':Int)):Ix b n' i sz K:=by
 obtain ⟨a,h1,h2,_,h4⟩:=h
 exact ⟨a,h1,h2,hi,h4⟩
end Go.V
namespace Go.Proofs.YtcamoanigdfihaaGreat
open Go.V
abbrev fitR(l:List OpV):List OpV:=l.filter fun x=>decide x.fit
structure Mid(w0 w:Wd)(t:Int)(L:List (Sl×List OpV))(bm b b1 j:Nat)(wv keys ops:Sl)(lp:List Pr)(r:Rf)(lv:Nat)(ps:List Rf)(T:Nat->Option Nat)(m:MemV)(M:Mm)(xs:List OpV)(r':Rf)(lv':Nat)(ps':List Rf)(base top:Nat)(LL:List LV):Prop where
 mem:MemR w.heap T m M
 bm:m.bm=bm
 tn:∀ q,q < w0.heap.size->T q=none
 old:TreeT M.f t r lv (kvsOf lp) ps
 lvl:lv<=30
 pl:ps.length<=18000
 new:TreeT M.f t r' lv' (opsL xs (kvsOf lp)) ps'
 lvl':lv'<=30
 pe:ps'.Perm (live M.pages)
 prs:PrsR w.heap (fun q=>(T q=none/\q≠b)/\q < base) wv lp
 wb:∀ q,wv.blk=some q->q < base
 sort:SortK (kvsOf lp)
 vals:∀ x∈kvsOf lp,x.2.length<=1024
 kn:lp.length<=rowN (L.take j)
 kd:Rd w.heap keys 1 ((fitL L).map kV)
 kb:∀ q,keys.blk=some q->T q=none/\q < b
 cm:M.commit<=j+2
 len:M.pages.length<=60 * rowN (L.take (j+1))
 ext:Ext No w0 w
 gb:w.heap[b]? = some (.cells [.int .u32 r.p, .int .u64 r.c, .int .u16 r.g, .int .u8 lv].toArray 47 (0,0))
 tb:T b=none
 b0:w0.heap.size<=b
 bb:b < base
 g1:w.heap[b1]? = some (.cells [.int .u32 r'.p, .int .u64 r'.c, .int .u16 r'.g, .int .u8 lv'].toArray 47 (0,0))
 tb1:T b1=none
 n1:¬ (base<=b1/\b1 < top)
 nb:b < b1
 liv:LivM w.heap base ops (LL.flatMap lvCs) (LL.flatMap LV.own2)
 tp:∀ p∈LL.flatMap LV.own2,∀ q,p.1.blk=some q->q < top
 fit:∀ x∈LL,1<=x.key.length/\x.key.length<=32/\x.val.length<=1024
 ll:LL.length<=1000
 tT:∀ q,base<=q->q < top->T q=none
 tw:top<=w.heap.size
def PlayT(l:Sl)(r_2:Option Addr)(tenant i:Int)(b b_1:Nat)(wv r_3 ops:Sl)(ev:Int)(w20:Wd)(K:Bool->Wd->Prop)(N:Sl->Int->Wd->Prop):Prop :=
 Ix l.a l.len i 1 fun a_3 =>
 ∃ vv_3:Sl,Cell w20 a_3 (.slice vv_3.a vv_3.len vv_3.cap) /\
 C_law15_good vv_3 w20 fun r_11 w21 =>
 C_ref15_Apply wv r_11 w21 fun r_12 w22 =>
 ∃ I0:Nat->Int->Wd->Prop,(∃ m,I0 m 0 w22)/\∀(_:Env)(m0_1:Nat)(k:Int)(w23:Wd),I0 m0_1 k w23 ->
 If (decide (k < ((ops.len:Int)))) (
 ∃ J1:Wd->Prop,(
 ∃ S:Wd->Prop,S (drewW w23) /\
 Ix ops.a ops.len k 3 fun a_4 =>
 ∃ vv_4:Sl,Held S a_4 (.slice vv_4.a vv_4.len vv_4.cap) /\
 Ix ops.a ops.len k 3 fun a_5 =>
 ∃ vv_5:Sl,Held S a_5 (.slice vv_5.a vv_5.len vv_5.cap) /\
 Ar .i64 (((vv_5.len:Int))+1) fun z_2 =>
 Cut vv_4 0 z_2 (((vv_4.cap:Nat):Int)) 1 fun s =>
 Ix ops.a ops.len k 3 fun a_6 =>
 ∃ vv_6:Sl,Held S a_6 (.slice vv_6.a vv_6.len vv_6.cap) /\
 Ix s.a s.len ((vv_6.len:Int)) 1 fun a_7 =>
 ∃ vv_7:Int,Held S a_7 (.int .u8 vv_7) /\
 If (vv_7 != 77) (
 K false ((drewW w23))) (
 Ix ops.a ops.len k 3 fun a_8 =>
 ∃ vv_8:Sl,Held S (a_8.add 1) (.slice vv_8.a vv_8.len vv_8.cap) /\
 Ix ops.a ops.len k 3 fun a_9 =>
 ∃ vv_9:Sl,Held S (a_9.add 1) (.slice vv_9.a vv_9.len vv_9.cap) /\
 Ar .i64 (((vv_9.len:Int))+1) fun z_3 =>
 Cut vv_8 0 z_3 (((vv_8.cap:Nat):Int)) 1 fun s_1 =>
 Ix ops.a ops.len k 3 fun a_10 =>
 ∃ vv_10:Sl,Held S (a_10.add 1) (.slice vv_10.a vv_10.len vv_10.cap) /\
 Ix s_1.a s_1.len ((vv_10.len:Int)) 1 fun a_11 =>
 ∃ vv_11:Int,Held S a_11 (.int .u8 vv_11) /\
 If (vv_11 != 78) (
 K false ((drewW w23))) (
 J1 ((drewW w23)))))/\∀(_:Env)(w24:Wd),J1 w24 ->
 Ix ops.a ops.len k 3 fun a_12 =>
 ∃ vv_12:Sl,Cell w24 a_12 (.slice vv_12.a vv_12.len vv_12.cap) /\
 Ix vv_12.a vv_12.len 0 1 fun a_13 =>
 ∃ vv_13:Int,Cell w24 a_13 (.int .u8 vv_13) /\
 Ar .u8 (vv_13+1) fun z_4 =>
 Ix vv_12.a vv_12.len 0 1 fun a_14 =>
 St1 w24 a_14 (.int .u8 z_4) fun w25 =>
 Ar .i64 (k+1) fun z_5 =>
 ∃ m1_1,m1_1 < m0_1/\I0 m1_1 z_5 w25) (
 ∃ J0:Wd->Prop,(
 If (ev != 0) (
 K false w23) (
 ∃ c_16:Int,Cell w23 (Addr.mk b 0 none) (.int .u32 c_16) /\
 ∃ c_17:Int,Cell w23 ((Addr.mk b 0 none).add 1) (.int .u64 c_17) /\
 ∃ c_18:Int,Cell w23 ((Addr.mk b 0 none).add 2) (.int .u16 c_18) /\
 ∃ c_19:Int,Cell w23 ((Addr.mk b 0 none).add 3) (.int .u8 c_19) /\
 C_law15_holds r_2 tenant c_16 c_17 c_18 c_19 wv r_3 w23 fun r_13 w26 =>
 If (!r_13) (
 K false w26) (
 ∃ c_20:Int,Cell w26 (Addr.mk b_1 0 none) (.int .u32 c_20) /\
 ∃ c_21:Int,Cell w26 ((Addr.mk b_1 0 none).add 1) (.int .u64 c_21) /\
 ∃ c_22:Int,Cell w26 ((Addr.mk b_1 0 none).add 2) (.int .u16 c_22) /\
 ∃ c_23:Int,Cell w26 ((Addr.mk b_1 0 none).add 3) (.int .u8 c_23) /\
 C_law15_holds r_2 tenant c_20 c_21 c_22 c_23 r_12 r_3 w26 fun r_14 w27 =>
 If (!r_14) (
 K false w27) (
 ∃ c_24:Int,Cell w27 (Addr.mk b_1 0 none) (.int .u32 c_24) /\
 ∃ c_25:Int,Cell w27 ((Addr.mk b_1 0 none).add 1) (.int .u64 c_25) /\
 ∃ c_26:Int,Cell w27 ((Addr.mk b_1 0 none).add 2) (.int .u16 c_26) /\
 ∃ c_27:Int,Cell w27 ((Addr.mk b_1 0 none).add 3) (.int .u8 c_27) /\
 C_law15_just r_2 tenant c_24 c_25 c_26 c_27 w27 fun r_15 w28 =>
 If (!r_15) (
 K false w28) (
 J0 w28)))))/\∀(_:Env)(w29:Wd),J0 w29 ->
 C_tree_Mem_Scrub r_2 w29 fun r_16 w30 =>
 If (r_16 != 0) (
 K false w30) (
 ∃ c_28:Int,Cell w30 (Addr.mk b_1 0 none) (.int .u32 c_28) /\
 ∃ c_29:Int,Cell w30 ((Addr.mk b_1 0 none).add 1) (.int .u64 c_29) /\
 ∃ c_30:Int,Cell w30 ((Addr.mk b_1 0 none).add 2) (.int .u16 c_30) /\
 ∃ c_31:Int,Cell w30 ((Addr.mk b_1 0 none).add 3) (.int .u8 c_31) /\
 C_law15_holds r_2 tenant c_28 c_29 c_30 c_31 r_12 r_3 w30 fun r_17 w31 =>
 If (!r_17) (
 K false w31) (
 ∃ c_32:Int,Cell w31 (Addr.mk b_1 0 none) (.int .u32 c_32) /\
 ∃ c_33:Int,Cell w31 ((Addr.mk b_1 0 none).add 1) (.int .u64 c_33) /\
 ∃ c_34:Int,Cell w31 ((Addr.mk b_1 0 none).add 2) (.int .u16 c_34) /\
 ∃ c_35:Int,Cell w31 ((Addr.mk b_1 0 none).add 3) (.int .u8 c_35) /\
 List.length (α:=Value) [.int .u32 c_32, .int .u64 c_33, .int .u16 c_34, .int .u8 c_35]=4/\StN w31 (Addr.mk b 0 none) [.int .u32 c_32, .int .u64 c_33, .int .u16 c_34, .int .u8 c_35] fun w32 =>
 Ar .i64 (i+1) fun z_6 =>
 N r_12 z_6 w32)))
theorem own_mark{h:Array Obj}{base:Nat}{s vs:Sl}{l:List Int}{c z:Int}{K:Sl->Prop}(o:OwnB h base s (l++[c]))(ha:vs.a=s.a)(hc:vs.cap=s.cap)(hz:z=(l.length:Int)+1)(k:∀ s',s'.len=l.length+1->RdB h s' (l++[c])->K s'):Cut vs 0 z (((vs.cap:Nat):Int)) 1 K:=by
 have hl:=OwnB.len o
 have hcp:=o.rd.cap
 simp only [List.length_append,List.length_singleton] at hl
 refine Cut.mk (Int.le_refl _) (by omega) (by omega) (Int.le_refl _) ?_
 have e1:cutA vs.a vs.cap 0 1=s.a:=by
  rw [ha,hc]
  rcases o.is with ⟨_,h2⟩ | ⟨b,rest,ha,_⟩
  .simp at h2
  .unfold cutA; split
   .rfl
   .rw [ha]; simp [addr_add_none]
 rw [show ((vs.cap:Nat):Int).toNat=vs.cap from rfl,show Int.toNat 0=0 from rfl,e1,show (z - 0).toNat=s.len by omega,show (((vs.cap:Nat):Int) - 0).toNat=s.cap by omega]
 exact k ⟨s.a,s.len,s.cap⟩ hl o.rd
theorem getD_last(l:List Int)(c:Int):(l++[c]).getD ((l.length:Nat):Int).toNat 0=c:=by
 rw [Int.toNat_natCast]; simp [List.getD]
theorem split_at'{α:Type}{l:List α}{n:Nat}(h:n < l.length):∃ l1 l2,l=l1++l[n]::l2/\l1.length=n:=⟨l.take n,l.drop (n+1),by rw [<- List.drop_eq_getElem_cons h,List.take_append_drop],by simp; omega⟩
theorem fitL_op{h:Array Obj}{l:Sl}{L:List (Sl×List OpV)}(r:RowsR h l L):∀ x∈fitL L,OpA h x/\x.fit:=fun x hx=>by
 obtain ⟨h1,h2⟩:=List.mem_filter.1 hx
 obtain ⟨p,hp,hxp⟩:=List.mem_flatMap.1 h1
 exact ⟨r.op p hp x hxp,by simpa using h2⟩
section
variable {w:Wd} {T:Nat->Option Nat} {m:MemV} {M:Mm}
set_option maxHeartbeats 4000000 in
theorem plays_tail{w0:Wd}{t:Int}{l wv keys ops:Sl}{L:List (Sl×List OpV)}{bm b b1 j:Nat}{lp:List Pr}{r r':Rf}{lv lv':Nat}{ps ps':List Rf}{base top:Nat}{LL:List LV}{K:Bool->Wd->Prop}{N:Sl->Int->Wd->Prop}(hL0:RowsR w0.heap l L)(hj:j < L.length)(hN:rowN L<=300)
  (D:Mid w0 w t L bm b b1 j wv keys ops lp r lv ps T m M (fitR L[j].2) r' lv' ps' base top LL)
  (k:∀ s' lp' m' M' w',MadeS w0 w' t L bm b (j+1) s' T m' M' r' lv' ps' lp'->refsM M' true=[]->(∀ q,s'.blk=some q->q < w'.heap.size)->Rd w'.heap keys 1 ((fitL L).map kV)->(∀ q,keys.blk=some q->T q=none/\q < b)->w'.heap[b]? = some (.cells [.int .u32 r'.p, .int .u64 r'.c, .int .u16 r'.g, .int .u8 lv'].toArray 47 (0,0))->T b=none->N s' ((j:Int)+1) w'):PlayT l (some ⟨bm,0,none⟩) t j b b1 wv keys ops 0 w K N:=by
 have hrow:=rowN_le L (j+1)
 have hrowj:=rowN_le L j
 have rt:=rowN_take hj
 have hLj:L[j]∈L:=List.getElem_mem hj
 have hfl:(fitR L[j].2).length<=L[j].2.length:=List.length_filter_le _ _
 have hfl9:(List.filter (fun x=>decide x.fit) L[j].2).length<=L[j].2.length:=hfl
 have blb:=blt D.gb
 have hff:∀ x∈fitR L[j].2,x.fit:=fun x hx=>by simpa using (List.mem_filter.1 hx).2
 have hsrc:(some ⟨bm,0,none⟩ : Option Addr)=some ⟨m.bm,0,none⟩:=by rw [D.bm]
 have hL:=hL0.no D.ext
 have y0:=D.ext.size
 refine Ix.row hL hj fun bb o _ hc=>⟨_,hc,?_⟩
 refine good_spec (hL.row _ hLj) (hL.op _ hLj) (by omega) fun s21 w21 o21 x21=>?_
 have hops:∀ x∈fitR L[j].2,OpA w21.heap x:=fun x hx=>(hL.op _ hLj x (List.mem_filter.1 hx).1).no x21
 have y21:=x21.size
 have tw:=D.tw
 have bbb:=D.bb
 refine refApply_spec (D.prs.no x21) D.sort o21.rd hops hff (by have:=D.kn; omega) fun s' lp' w22 prs' bl' kv' ln' x22=>?_
 have y22:=x22.size
 have x022:=x21.no x22
 have LLl:ops.len=LL.length:=by have:=D.liv.out.len; rw [flat_len' (lvCs_len LL)] at this; omega
 have so':SortK (kvsOf lp'):=by rw [kv']; exact opsL_sort D.sort
 have vl':∀ x∈kvsOf lp',x.2.length<=1024:=by rw [kv']; exact opsL_vals D.sort hff D.vals
 have hNew:=D.new
 rw [<- kv'] at hNew
 refine ⟨fun q kk w'=>∃ (n:Nat) (LM:List LV),kk=n/\n<=LL.length/\q=LL.length - n/\LM.length=LL.length/\(∀ x∈LM,1<=x.key.length/\x.key.length<=32/\x.val.length<=1024)/\LivM w'.heap base ops (LM.flatMap lvCs) (LM.flatMap LV.own2)/\(∀ p∈LM.flatMap LV.own2,∀ q,p.1.blk=some q->q < top)/\Ext (fun q=>base<=q/\q < top) w22 w',
  ⟨LL.length,0,LL,rfl,by omega,by omega,rfl,D.fit,D.liv.no x022,D.tp,Ext.refl _ _⟩,?_⟩
 rintro _ m0 kk w23 ⟨n,LM,rfl,hn,hq,hLM,fitM,liv,tp,x23⟩
 have y23:=x23.size
 subst hq
 refine If.dec (fun h=>?_) fun h=>?_
 .have hnl:n < LM.length:=by omega
  have hrd:=liv.out.rd
  obtain ⟨l1,l2,hsp,hl1⟩:=split_at' hnl
  generalize hx:LM[n]=x at hsp
  have hxm:x∈LM:=by rw [<- hx]; exact List.getElem_mem hnl
  obtain ⟨f1,f2,f3⟩:=fitM x hxm
  have mk:(x.k,x.key++[77])∈LM.flatMap LV.own2:=List.mem_flatMap.2 ⟨x,hxm,by simp [LV.own2]⟩
  have mv:(x.v,x.val++[78])∈LM.flatMap LV.own2:=List.mem_flatMap.2 ⟨x,hxm,by simp [LV.own2]⟩
  have ok:=liv.own _ mk
  have ov:=liv.own _ mv
  have el:∀{w':Wd}{K:Addr->Prop},Ext No w23 w'->(∀ b o,(∀ i v,(lvCs x)[i]? = some v->Cell w' ⟨b,o+i,none⟩ v)->K ⟨b,o,none⟩)->Ix ops.a ops.len (n:Nat) 3 K:=fun x' kk =>
   Ix.elem (hrd.no x') (lvCs_len LM) (by decide) (by omega) (by omega) fun bb o hi _ hc=>by
    simp only [Int.toNat_natCast] at hi hc
    rw [hx] at hc
    exact kk bb o fun i v hv=>hc i v hv
  have c0:(lvCs x)[0]? = some (.slice x.k.a x.key.length x.k.cap):=rfl
  have c1:(lvCs x)[1]? = some (.slice x.v.a x.val.length x.v.cap):=rfl
  refine ⟨fun w'=>Ext No w23 w',⟨Ext No w23,(Ext.refl _ _).drew,el (Ext.refl _ _) fun _ _ hc=>⟨⟨x.k.a,x.key.length,x.k.cap⟩,Held.cell (hc 0 _ c0),el (Ext.refl _ _) fun _ _ hc=>⟨⟨x.k.a,x.key.length,x.k.cap⟩,Held.cell (hc 0 _ c0),Ar.i64 (by simp only []; omega) (own_mark ok rfl rfl rfl fun s1 l1 r1=>el (Ext.refl _ _) fun _ _ hc=>⟨⟨x.k.a,x.key.length,x.k.cap⟩,Held.cell (hc 0 _ c0),Ix.int r1 (by simp only []; omega) (by simp only []; omega) fun _ _ _ hc=>⟨_,Held.cell hc,?_⟩⟩)⟩⟩⟩,?_⟩
  .simp only []
   rw [getD_last]
   refine If.bne (fun h=>(h rfl).elim) fun _=>el (Ext.refl _ _) fun _ _ hc=>⟨⟨x.v.a,x.val.length,x.v.cap⟩,Held.cell (hc 1 _ c1),el (Ext.refl _ _) fun _ _ hc=>⟨⟨x.v.a,x.val.length,x.v.cap⟩,Held.cell (hc 1 _ c1),Ar.i64 (by simp only []; omega) (own_mark ov rfl rfl rfl fun s1 l1 r1=>el (Ext.refl _ _) fun _ _ hc=>⟨⟨x.v.a,x.val.length,x.v.cap⟩,Held.cell (hc 1 _ c1),Ix.int r1 (by simp only []; omega) (by simp only []; omega) fun _ _ _ hc=>⟨_,Held.cell hc,?_⟩⟩)⟩⟩
   simp only []
   rw [getD_last]
   exact If.bne (fun h=>(h rfl).elim) fun _=>(Ext.refl _ _).drew
  rintro _ w24 x24
  have ok4:=ok.no x24
  have e1:∀ y:LV,(l1++y::l2).flatMap LV.own2=l1.flatMap LV.own2++(y.k,y.key++[77])::((y.v,y.val++[78])::l2.flatMap LV.own2):=fun y=>by simp [LV.own2]
  have fin:∀(z:Int) w25,Own w25.heap base 5 1 x.k (((x.key++[77]).map (Value.int .u8)).set (0:Int).toNat (.int .u8 z))->Ext (fun q=>x.k.blk=some q) w24 w25->∃ m1,m1 < LL.length - n/\∃ (n':Nat) (LM:List LV),(n:Int)+1=n'/\n'<=LL.length/\m1=LL.length - n'/\LM.length=LL.length/\(∀ x∈LM,1<=x.key.length/\x.key.length<=32/\x.val.length<=1024)/\LivM w25.heap base ops (LM.flatMap lvCs) (LM.flatMap LV.own2)/\(∀ p∈LM.flatMap LV.own2,∀ q,p.1.blk=some q->q < top)/\Ext (fun q=>base<=q/\q < top) w22 w25:=fun z w25 o5 x5=>by
   have o5':OwnB w25.heap base x.k (x.key.set 0 z++[77]):=by
    have e:((x.key++[77]).map (Value.int .u8)).set (0:Int).toNat (.int .u8 z)=(x.key.set 0 z++[77]).map (Value.int .u8):=by
     rw [<- List.set_append_left 0 z (by omega)]
     simp [List.map_set]
    rw [e] at o5; exact o5
   have e2:(l1++LV.mk x.k x.v x.d (x.key.set 0 z) x.val::l2).flatMap lvCs=(l1++x::l2).flatMap lvCs:=by
    have:lvCs (LV.mk x.k x.v x.d (x.key.set 0 z) x.val)=lvCs x:=by simp [LV.op,OpV.cs]
    simp only [List.flatMap_append,List.flatMap_cons,this]
   have liv4:=liv.no x24
   refine ⟨LL.length - (n+1),by omega,n+1,l1++LV.mk x.k x.v x.d (x.key.set 0 z) x.val::l2,by omega,by omega,rfl,by rw [hsp] at hLM; simp at hLM ⊢; omega,fun y hy=>?_,?_,fun p hp q hq=>?_,(x23.no x24).trans x5 fun q _ h=>⟨(ok.lt h).1,tp _ mk q h⟩⟩
   .rcases List.mem_append.1 hy with h | h
    .exact fitM y (by rw [hsp]; exact List.mem_append_left _ h)
    .rcases List.mem_cons.1 h with rfl | h
     .exact ⟨by simpa using f1,by simpa using f2,f3⟩
     .exact fitM y (by rw [hsp]; exact List.mem_append_right _ (List.mem_cons_of_mem _ h))
   .rw [hsp,e1] at liv4
    rw [e2,e1]
    exact liv4.put (x:=(x.k,x.key++[77])) (x':=(x.k,x.key.set 0 z++[77])) o5' (fun b hb => .inl hb) x5
   .rw [e1] at hp
    rcases List.mem_append.1 hp with h | h
    .exact tp p (by rw [hsp,e1]; exact List.mem_append_left _ h) q hq
    .rcases List.mem_cons.1 h with rfl | h
     .exact tp _ mk q hq
     .exact tp p (by rw [hsp,e1]; exact List.mem_append_right _ (List.mem_cons_of_mem _ h)) q hq
  have hk0:(0:Int) < (x.k.len:Int):=by
   have h9:x.k.len=(x.key++[77]).length:=OwnB.len ok4
   rw [List.length_append,List.length_singleton] at h9; omega
  have lll:=D.ll
  refine el x24 fun _ _ hc=>⟨⟨x.k.a,x.key.length,x.k.cap⟩,hc 0 _ c0,Ix.int (own_short ok4) (by omega) (by simp only []; omega) fun _ _ _ hc=>⟨_,hc,Ar.u8m (Ix.short (St1.own (s:=x.k) ok4 (i:=0) (Int.le_refl 0) hk0 rfl fun w25 o5 x5 z5=>Ar.i64 (by omega) (fin _ w25 o5 x5)) (by simp only []; omega))⟩⟩
 have hb1:=D.n1
 have nR:∀{q},q < base->¬ (base<=q/\q < top):=fun h h'=>by omega
 have kn:=D.kn
 have R23:MemR w23.heap T m M:=(D.mem.no x022).ext x23 fun q hq=>D.tT q hq.1 hq.2
 have g23:=get_ext (get_no D.gb x022) x23 (nR D.bb)
 have g123:=get_ext (get_no D.g1 x022) x23 D.n1
 have prs23:=(D.prs.no x022).ex2 x23 (fun q hq=>nR (D.wb q hq)) fun q _ h=>nR h.2
 have prn23:=prs'.ex2 x23 (fun q hq h=>by have:=(bl' q hq).1; omega) fun q _ h h'=>by
  rcases h with h | h
  .exact nR h.1.2 h'
  .omega
 have kd23:=(D.kd.no x022).ext x23 fun a q ha hb h=>by have:=(D.kb q (by simp [Sl.blk,ha,hb])).2; omega
 have ex23:Ext No w0 w23:=(D.ext.no x022).trans x23 fun q hq h=>by have:=D.b0; omega
 have hx23:=fitL_op (hL0.no ex23)
 have fl:=fitL_len L
 have hlv:(lv:Int)<=30:=by have:=D.lvl; omega
 have hlv':(lv':Int)<=30:=by have:=D.lvl'; omega
 have hlp:lp'.length<=1000:=by omega
 have hlen:=D.len
 have hpl:ps'.length<=18000:=by have:=D.pe.length_eq; have:=live_len M.pages; omega
 have hopl:=D.pl
 have hsub:Sub ps' M:=fun q=>Nat.le_of_eq (List.perm_iff_count.1 D.pe q)
 rw [hsrc]
 refine ⟨fun w'=>Ext No w23 w',If.bne (fun h=>(h rfl).elim) fun _=>⟨_,Cell.lst g23 rfl,_,Cell.lst g23 rfl,_,Cell.lst g23 rfl,_,Cell.lst g23 rfl,?_⟩,?_⟩
 .refine holds_spec R23 D.old hlv prs23 D.sort D.vals (by omega) (by omega) kd23 hx23 (by omega) fun w26 x26=>If.not (If.yes ?_)
  have g126:=get_no g123 x26
  refine ⟨_,Cell.lst g126 rfl,_,Cell.lst g126 rfl,_,Cell.lst g126 rfl,_,Cell.lst g126 rfl,?_⟩
  refine holds_spec (R23.no x26) hNew hlv' (prn23.no x26) so' vl' hlp (by omega) (kd23.no x26) (fitL_op (hL0.no (ex23.no x26))) (by omega) fun w27 x27=>If.not (If.yes ?_)
  have g127:=get_no g126 x27
  refine ⟨_,Cell.lst g127 rfl,_,Cell.lst g127 rfl,_,Cell.lst g127 rfl,_,Cell.lst g127 rfl,?_⟩
  exact just_spec ((R23.no x26).no x27) hNew hlv' D.pe (by omega) fun w28 x28=>If.not (If.yes ((x26.no x27).no x28))
 rintro _ w29 x29
 refine memScrub_spec (R23.no x29) fun w30 R30 x30=>If.bne (fun h=>(h rfl).elim) fun _=>?_
 have nT:∀{q},T q=none->¬ Ts T q:=fun h h'=>h' h
 have sup:∀ q,w.heap.size<=q->T q=none:=fun q hq=>D.mem.supT hq
 have g130:=get_ext (get_no g123 x29) x30 (nT D.tb1)
 have g30:=get_ext (get_no g23 x29) x30 (nT D.tb)
 have prn30:=(prn23.no x29).ex2 x30 (fun q hq=>nT (sup q (by have:=(bl' q hq).1; omega))) fun q _ h=>by
  rcases h with h | h
  .exact nT h.1.1.1
  .exact nT (sup q (by omega))
 have kd30:=(kd23.no x29).ext x30 fun a q ha hb=>nT (D.kb q (by simp [Sl.blk,ha,hb])).1
 have ex30:Ext No w0 w30:=(ex23.no x29).trans x30 fun q hq h=>h (D.tn q hq)
 have hNew':TreeT (scrubM M).f t r' lv' (kvsOf lp') ps':=hNew.keep2 (Keep.scrub D.mem.sane hsub)
 refine ⟨_,Cell.lst g130 rfl,_,Cell.lst g130 rfl,_,Cell.lst g130 rfl,_,Cell.lst g130 rfl,?_⟩
 refine holds_spec R30 hNew' hlv' prn30 so' vl' hlp (by omega) kd30 (fitL_op (hL0.no ex30)) (by omega) fun w31 x31=>If.not (If.yes ?_)
 have g131:=get_no g130 x31
 have g31:=get_no g30 x31
 refine ⟨_,Cell.lst g131 rfl,_,Cell.lst g131 rfl,_,Cell.lst g131 rfl,_,Cell.lst g131 rfl,st_all g31 rfl rfl (by simp [oneC]) fun w32 g32 x32 _=>Ar.i64 (by omega) ?_⟩
 have x32':Ext (·=b) w31 w32:=x32
 have R32:MemR w32.heap T m (scrubM M):=(R30.no x31).ext x32' fun q hq=>by rw [hq]; exact D.tb
 have prn32:=(prn30.no x31).ex2 x32' (fun q hq h=>by have:=(bl' q hq).1; omega) fun q _ h h'=>by
  rcases h with h | h
  .exact h.1.1.2 h'
  .omega
 have kd32:=(kd30.no x31).ext x32' fun a q ha hb h=>by have:=(D.kb q (by simp [Sl.blk,ha,hb])).2; omega
 refine k s' lp' m (scrubM M) w32 ⟨R32,D.bm,D.tn,hNew',D.lvl',by rw [live_scrub]; exact D.pe,⟨prn32.rd,fun p hp=>(prn32.pr p hp).mono fun q _ h=>?_⟩,fun q hq=>?_,so',vl',?_,?_,by omega,(ex30.no x31).trans x32' fun q hq h=>by have:=D.b0; omega⟩ (refsM_scrub M) (fun q hq=>by have:=(bl' q hq).2; have:=x23.size; have:=x29.size; have:=x30.size; have:=x31.size; have:=x32'.size; omega) kd32 D.kb g32 D.tb
 .rcases h with h | h
  .exact h.1.1
  .exact ⟨sup q (by omega),by omega⟩
 .have:=(bl' q hq).1
  exact ⟨sup q (by omega),by omega⟩
 .have:=D.cm; show M.commit<=((j+1:Nat):Int)+1; omega
 .exact Nat.le_trans (List.length_filter_le _ _) hlen
end
section
variable {w:Wd} {T:Nat->Option Nat} {m:MemV} {M:Mm}
theorem mid_mk{w0 w6 w7 w8 we w9 w':Wd}{t:Int}{L:List (Sl×List OpV)}{bm b b1 j n:Nat}{wv keys ops:Sl}{lp:List Pr}{r r':Rf}{lv lv':Nat}{ps ps':List Rf}{T':Nat->Option Nat}{m':MemV}{M':Mm}{xs ys:List OpV}{LL:List LV}(hj:j < L.length)(hN:rowN L<=300)
  (s:MadeS w0 w6 t L bm b j wv T m M r lv ps lp) (wl:∀ q,wv.blk=some q->q < w6.heap.size) (kd:Rd w6.heap keys 1 ((fitL L).map kV)) (kb:∀ q,keys.blk=some q->T q=none/\q < b) (g:w6.heap[b]? = some (.cells [.int .u32 r.p, .int .u64 r.c, .int .u16 r.g, .int .u8 lv].toArray 47 (0,0))) (tb:T b=none) (b0:w0.heap.size<=b)
  (x67:Ext (Ts T) w6 w7) (R7:MemR w7.heap T m (beginM M ((j:Int)+2) 3)) (x78:Ext No w7 w8) (H:LivL w8 we ops (LL.flatMap lvCs) (LL.flatMap LV.own2)) (A:ApS we w9 T T' m m' (beginM M ((j:Int)+2) 3) M' t n (opsL ys (kvsOf lp)) ps ps' r' lv') (hn:n<=L[j].2.length)
  (x9:Ext (fun q=>q=b1) w9 w') (g1:w'.heap[b1]? = some (.cells [.int .u32 r'.p, .int .u64 r'.c, .int .u16 r'.g, .int .u8 lv'].toArray 47 (0,0))) (tb1:T' b1=none) (hb1:w7.heap.size<=b1) (hb2:b1 < w8.heap.size∨w9.heap.size<=b1)
  (hys:opsL ys (kvsOf lp)=opsL xs (kvsOf lp)) (hfit:∀ x∈LL,1<=x.key.length/\x.key.length<=32/\x.val.length<=1024) (hll:LL.length<=1000):Mid w0 w' t L bm b b1 j wv keys ops lp r lv ps T' m' M' xs r' lv' ps' w8.heap.size we.heap.size LL:=by
 have hrow:=rowN_le L (j+1)
 have rt:=rowN_take hj
 have y0:=s.ext.size; have y67:=x67.size; have y78:=x78.size; have y8e:=H.ext.size; have ye9:=A.ext.size; have y9:=x9.size
 have nT:∀{q},T q=none->¬ Ts T q:=fun h h'=>h' h
 have bl:=blt g
 have tg:∀ q,q < we.heap.size->T' q=T q:=A.tg
 have x7e:=x78.no H.ext
 have slen:=s.len
 have scm:=s.cm
 have rj:=(rowN_le L j).1
 have p7:PrsR w7.heap (fun q=>T q=none/\q≠b) wv lp:=prsT s.prs s.wb x67 fun _ _=>rfl
 have p7':PrsR w7.heap (fun q=>(T q=none/\q≠b)/\q < w7.heap.size) wv lp:=⟨p7.rd,fun p hp=>(p7.pr p hp).mono fun q h1 h2=>⟨h2,h1⟩⟩
 have p9:=(p7'.no x7e).ex2 A.ext (fun q hq=>nT (s.wb q hq).1) fun q _ h=>nT h.1.1
 have pw:=p9.ex2 x9 (fun q hq h=>by have:=wl q hq; omega) fun q _ h h'=>by omega
 have kde:=((kd.ext x67 fun a q ha hb=>nT (kb q (by simp [Sl.blk,ha,hb])).1).no x7e).ext A.ext fun a q ha hb=>nT (kb q (by simp [Sl.blk,ha,hb])).1
 have kdw:=kde.ext x9 fun a q ha hb h=>by have:=(kb q (by simp [Sl.blk,ha,hb])).2; omega
 have ge:=get_ext (get_no (get_ext g x67 (nT tb)) x7e) A.ext (nT tb)
 refine ⟨A.mem.ext x9 fun q hq=>by rw [hq]; exact tb1,A.bm.trans s.bm,fun q hq=>(tg q (by omega)).trans (s.tn q hq),?_,s.lv,?_,by rw [<- hys]; exact A.tree,A.lv,?_,⟨pw.rd,fun p hp=>(pw.pr p hp).mono fun q _ h=>⟨⟨(tg q (by omega)).trans h.1.1,h.1.2⟩,by omega⟩⟩,fun q hq=>by have:=wl q hq; omega,s.sort,s.vals,s.kn,kdw,fun q hq=>⟨(tg q (by have:=(kb q hq).2; omega)).trans (kb q hq).1,(kb q hq).2⟩,?_,?_,?_,get_ext ge x9 (by omega),(tg b (by omega)).trans tb,b0,by omega,g1,tb1,by omega,by omega,?_,fun p hp q hq=>(H.own p hp).lt hq |>.2,hfit,hll,fun q h1 h2=>(tg q h2).trans (R7.supT (by omega)),by omega⟩
 .have h1:TreeT (beginM M ((j:Int)+2) 3).f t r lv (kvsOf lp) ps:=s.tree
  refine h1.keep2 (A.chg.keep fun p hp=>?_)
  have:=s.mem.cm p hp
  show p.2.r.c < (j:Int)+2
  omega
 .have:=s.pe.length_eq; have:=live_len M.pages; omega
 .refine List.perm_iff_count.2 fun q=>?_
  have h1:=A.chg.cnt q
  have h2:=List.perm_iff_count.1 s.pe q
  have h3:(live (beginM M ((j:Int)+2) 3).pages).count q=(live M.pages).count q:=rfl
  omega
 .have h1:M'.commit=(j:Int)+2:=A.chg.commit
  omega
 .have h1:M'.pages.length<=M.pages.length+60 * n:=A.chg.len
  omega
 .exact ((((s.ext.trans x67 fun q hq h=>h (s.tn q hq)).no x7e).trans A.ext fun q hq h=>h (s.tn q hq))).trans x9 fun q hq h=>by omega
 .exact (H.toLivM.ext A.ext fun q h1 _=>nT (R7.supT (by omega))).ext x9 fun q h1 h2 h=>by omega
set_option maxHeartbeats 4000000 in
theorem treePlays_spec{tenant:Int}{l:Sl}{L:List (Sl×List OpV)}{K:Bool->Wd->Prop}(hL:RowsR w.heap l L)(hz:SzL L)(k:∀ w',Ext No w w'->K true w'):C_law15_TreePlays tenant l w K:=by
 apply S_law15_TreePlays
 have hl:=hL.len
 refine count15_spec hL fun n hn=>If.dec (fun _=>known15 k) fun h300=>?_
 have hN:rowN L<=300:=by have:=hn (by omega); omega
 have hNl:=(rowN_le L 0).2
 refine newMem_spec (by omega) fun T m w3 R3 hT x3=>?_
 refine keysOf_spec (hL.no x3) hN fun keys w4 ok4 x4=>NewW.mk fun b w5 n5=>?_
 have hb:=n5.at_; have z5:=n5.size; have y3:=x3.size; have y4:=x4.size
 have x05:=(x3.no x4).no n5.ext
 obtain ⟨I,hI⟩ : ∃ I:Nat->Sl->Int->Wd->Prop,I=fun q wv (i:Int) w'=>∃ (j:Nat) (T':Nat->Option Nat) (m':MemV) (M':Mm) (r:Rf) (lv:Nat) (ps:List Rf) (lp:List Pr),i=j/\j<=L.length/\q=L.length - j/\MadeS w w' tenant L m.bm b j wv T' m' M' r lv ps lp/\refsM M' true=[]/\(∀ q,wv.blk=some q->q < w'.heap.size)/\Rd w'.heap keys 1 ((fitL L).map kV)/\(∀ q,keys.blk=some q->T' q=none/\q < b)/\w'.heap[b]? = some (.cells [.int .u32 r.p, .int .u64 r.c, .int .u16 r.g, .int .u8 lv].toArray 47 (0,0))/\T' b=none:=⟨_,rfl⟩
 have okl:∀ q,keys.blk=some q->T q=none/\q < b:=fun q hq=>⟨R3.supT (ok4.lt hq).1,by have:=(ok4.lt hq).2; omega⟩
 refine ⟨I,by
  rw [hI]
  exact ⟨L.length,0,T,m,_, .z,0,[],[],rfl,by omega,by omega,⟨(R3.no x4).no n5.ext,rfl,hT, .inl ⟨rfl,rfl,rfl,rfl⟩,by omega,List.Perm.refl _,⟨Rd.nil _ _,by simp⟩,fun q hq=>by simp [Sl.blk] at hq, .nil,by simp,by decide,by simp,by simp,x05⟩,rfl,fun q hq=>by simp [Sl.blk] at hq,ok4.rd.no n5.ext,okl,n5.get,R3.supT (by omega)⟩,?_⟩
 intro _ m0 wv i w6 hi
 rw [hI] at hi
 obtain ⟨j,T1,m1,M1,r,lv,ps,lp,rfl,hj,hq,s,hw,wl,kd,kb,g6,tb⟩:=hi
 refine If.dec (fun h=>?_) fun h=>known15 fun w8 x8=>k w8 (s.ext.no x8)
 have hjl:j < L.length:=by omega
 have hLj:L[j]∈L:=List.getElem_mem hjl
 have rt:=rowN_take hjl
 have rl:=(rowN_le L (j+1)).1
 have rl0:=(rowN_le L j).1
 have nT:∀{q},T1 q=none->¬ Ts T1 q:=fun h h'=>h' h
 have hsrc:(some ⟨m.bm,0,none⟩ : Option Addr)=some ⟨m1.bm,0,none⟩:=by rw [s.bm]
 have hsrcV:(Value.iface 24 (.pointer (some ⟨m.bm,0,none⟩)))=srcV m1:=by rw [<- s.bm]
 have y6:=s.ext.size
 have bl6:=blt g6
 have slen:=s.len; have skn:=s.kn
 refine Ar.i64 (by omega) (Ar.u64 (by omega) ?_)
 rw [hsrc]
 refine memBegin_spec s.mem (by omega) (by omega) (fun h=>by have:=s.cm; omega) fun w7 _ R7 x7=>If.bne (fun h=>(h rfl).elim) fun _=>?_
 have y7:=x7.size
 have ex7:Ext No w w7:=s.ext.trans x7 fun q hq h=>h (s.tn q hq)
 have hL7:=hL.no ex7
 have g7:=get_ext g6 x7 (nT tb)
 have sup:∀ q,w7.heap.size<=q->T1 q=none:=fun q hq=>R7.supT hq
 refine Ix.row hL7 hjl fun bb o _ hc=>⟨_,hc,?_⟩
 have hsub:Sub ps (beginM M1 ((j:Int)+2) 3):=fun q=>Nat.le_of_eq (List.perm_iff_count.1 s.pe q)
 have hB:∀ x∈L[j].2,B8 x.key/\B8 x.val:=fun x hx=>⟨(hL.op _ hLj x hx).k8,(hL.op _ hLj x hx).v8⟩
 have hplen:(beginM M1 ((j:Int)+2) 3).pages.length<=900000:=by show M1.pages.length<=_; omega
 refine lent_spec (hL7.row _ hLj) (hL7.op _ hLj) (hz _ hLj) (by omega) fun ops LL w8 hinf H8=>?_
 obtain ⟨o1,o2,o3,o4⟩:=lent_ops H8 hinf hB sup
 have g8:=get_no g7 H8.ext
 have y8:=H8.ext.size
 have LLl:LL.length=L[j].2.length:=by have:=congrArg List.length hinf; simpa using this
 refine ⟨_,Cell.lst g8 rfl,_,Cell.lst g8 rfl,_,Cell.lst g8 rfl,_,Cell.lst g8 rfl,?_⟩
 rw [<- hsrc,hsrcV]
 have tr7:TreeT (beginM M1 ((j:Int)+2) 3).f tenant r lv (kvsOf lp) ps:=s.tree
 by_cases hf:∀ x∈L[j].2,x.fit
 .refine apply_spec (xs:=LL.map LV.op) (ps:=ps) (kvs:=kvsOf lp) (R7.no H8.ext) tr7 s.lv hsub o1 o2 (by omega) hplen (fun w' hbad _=>?_) fun r' lv' ps' T' m' M' w9 _ A=>?_
  .obtain ⟨x,hx,hbx⟩:=hbad; exact (hbx (inf_fit o3 hf x hx)).elim
  have y9:=A.ext.size
  refine NewW.mk fun b1 w10 n10=>st_all n10.get rfl rfl (by simp [oneC]) fun w11 g11 x11 _=>?_
  have hb1:=n10.at_; have z10:=n10.size
  have x911:Ext No w9 w11:=n10.ext.trans x11 fun q hq h=>by omega
  have hfr:fitR L[j].2=L[j].2:=List.filter_eq_self.2 fun x hx=>by simpa using hf x hx
  have e1:opsL (LL.map LV.op) (kvsOf lp)=opsL (fitR L[j].2) (kvsOf lp):=by rw [hfr]; exact opsL_inf o3 _
  have D:=mid_mk hjl hN s wl kd kb g6 tb (by omega) x7 R7 (Ext.refl _ _) H8 A (by rw [o4]; omega) x911.of_no g11 (A.mem.supT (by omega)) (by omega) (.inr (by omega)) e1 (fun x hx=>by have:=inf_fit o3 hf x.op (List.mem_map.2 ⟨x,hx,rfl⟩); exact ⟨this.1.1,this.1.2,this.2.1⟩) (by omega)
  refine ⟨fun ops' ev w'=>ops'=ops/\ev=0/\Mid w w' tenant L m.bm b b1 j wv keys ops lp r lv ps T' m' M' (fitR L[j].2) r' lv' ps' w7.heap.size w8.heap.size LL,?_,?_⟩
  .have hL11:=hL.no D.ext
   refine Ix.row hL11 hjl fun bb o _ hc=>⟨_,hc,refAllRight_spec (hL11.row _ hLj) (hL11.op _ hLj) (by omega) fun w12 x12=>If.not ?_⟩
   rw [decide_eq_true hf]
   exact If.yes ⟨rfl,rfl,mid_mk hjl hN s wl kd kb g6 tb (by omega) x7 R7 (Ext.refl _ _) H8 A (by rw [o4]; omega) (x911.no x12).of_no (get_no g11 x12) (A.mem.supT (by omega)) (by omega) (.inr (by omega)) e1 (fun x hx=>by have:=inf_fit o3 hf x.op (List.mem_map.2 ⟨x,hx,rfl⟩); exact ⟨this.1.1,this.1.2,this.2.1⟩) (by omega)⟩
  rintro _ ops1 ev1 w20 ⟨hop,hev,D20⟩
  rw [hop,hev]
  show PlayT l (some ⟨m.bm,0,none⟩) tenant j b b1 wv keys ops 0 w20 K fun s z w'=>∃ m1,m1 < m0/\I m1 s z w'
  exact plays_tail hL hjl hN D20 fun s' lp' m2 M2 w32 S hw' wl' kd' kb' g' tb'=>⟨L.length - (j+1),by omega,by rw [hI]; exact ⟨j+1,T',m2,M2,r',lv',ps',lp',by omega,by omega,rfl,S,hw',wl',kd',kb',g',tb'⟩⟩
 .refine apply_spec (xs:=LL.map LV.op) (ps:=ps) (kvs:=kvsOf lp) (R7.no H8.ext) tr7 s.lv hsub o1 o2 (by omega) hplen (fun w9 _ x89=>?_) fun r' lv' ps' T' m' M' w9 hft A=>(hf (inf_fit o3.symm hft)).elim
  have y9:=x89.size
  refine NewW.mk fun b1 w10 n10=>st_all n10.get rfl rfl (by simp [oneC]) fun w11 g11 x11 _=>?_
  have hb1:=n10.at_; have z10:=n10.size
  have x911:Ext No w9 w11:=n10.ext.trans x11 fun q hq h=>by omega
  have x711:Ext No w7 w11:=(H8.ext.no x89).no x911
  have y11:=x911.size
  refine ⟨fun ops' ev w'=>ev=0/\∃ T' m' M' r' lv' ps' base top LL',Mid w w' tenant L m.bm b b1 j wv keys ops' lp r lv ps T' m' M' (fitR L[j].2) r' lv' ps' base top LL',?_,?_⟩
  .have hL11:=hL7.no x711
   refine Ix.row hL11 hjl fun bb o _ hc=>⟨_,hc,refAllRight_spec (hL11.row _ hLj) (hL11.op _ hLj) (by omega) fun w12 x12=>If.not ?_⟩
   rw [decide_eq_false hf]
   refine If.no ?_
   have x712:=x711.no x12
   have g112:=get_no g11 x12
   have g12:=get_no g7 x712
   refine ⟨fun w'=>Ext No w12 w',If.bne (fun h=>(h rfl).elim) fun _=>⟨_,Cell.lst g112 rfl,_,Cell.lst g112 rfl,_,Cell.lst g112 rfl,_,Cell.lst g112 rfl,If.not (If.yes ⟨_,Cell.lst g12 rfl,_,Cell.lst g12 rfl,_,Cell.lst g12 rfl,_,Cell.lst g12 rfl,?_⟩)⟩,?_⟩
   .rw [hsrc]
    refine just_spec (R7.no x712) tr7 (by have:=s.lv; omega) s.pe (by show M1.pages.length<=_; omega) fun w13 x13=>If.not (If.yes ?_)
    refine waiting_spec ((R7.no x712).no x13) (by show M1.pages.length<=_; omega) fun s14 rs w14 hrs o14 x14=>?_
    have hrs':rs.Perm (refsM M1 true):=hrs
    rw [hw] at hrs'
    have h0:=hrs'.length_eq
    have h1:=o14.len
    rw [flat_len' (refCs_len _)] at h1
    rw [List.length_nil] at h0
    exact If.dec (fun h=>by omega) fun _=>x13.no x14
   rintro _ w15 x15
   have x715:=x712.no x15
   have hL15:=hL7.no x715
   refine Ix.row hL15 hjl fun bb o _ hc=>⟨_,hc,good_spec (hL15.row _ hLj) (hL15.op _ hLj) (by omega) fun s16 w16 o16 x16=>?_⟩
   have x716:=x715.no x16
   have hL16:=hL7.no x716
   have hfl:(fitR L[j].2).length<=L[j].2.length:=List.length_filter_le _ _
   have hfl9:(List.filter (fun x=>decide x.fit) L[j].2).length<=L[j].2.length:=hfl
   have hfm:∀ x∈fitR L[j].2,x∈L[j].2/\x.fit:=fun x hx=>⟨(List.mem_filter.1 hx).1,by simpa using (List.mem_filter.1 hx).2⟩
   have y716:=x716.size
   refine lent_spec o16.rd (fun x hx=>hL16.op _ hLj x (hfm x hx).1) (fun x hx=>hz _ hLj x (hfm x hx).1) (by omega) fun ops2 LL2 w17 hinf2 H17=>?_
   obtain ⟨p1,p2,p3,p4⟩:=lent_ops (T:=T1) H17 hinf2 (fun x hx=>hB x (hfm x hx).1) fun q hq=>sup q (by omega)
   have x717:=x716.no H17.ext
   have g17:=get_no g7 x717
   have y17:=H17.ext.size
   have y12:=x12.size; have y15:=x15.size; have y16:=x16.size
   have LLl2:LL2.length=(fitR L[j].2).length:=by have:=congrArg List.length hinf2; simpa using this
   refine ⟨_,Cell.lst g17 rfl,_,Cell.lst g17 rfl,_,Cell.lst g17 rfl,_,Cell.lst g17 rfl,?_⟩
   refine apply_spec (xs:=LL2.map LV.op) (ps:=ps) (kvs:=kvsOf lp) (R7.no x717) tr7 s.lv hsub p1 p2 (by omega) hplen (fun w' hbad _=>?_) fun r' lv' ps' T' m' M' w18 _ A=>?_
   .obtain ⟨x,hx,hbx⟩:=hbad; exact (hbx (inf_fit p3 (fun y hy=>(hfm y hy).2) x hx)).elim
   have n1:T1 b1=none:=sup b1 (by omega)
   have g118:=get_ext (get_no g112 ((x15.no x16).no H17.ext)) A.ext (nT n1)
   refine st_all g118 rfl rfl (by simp [oneC]) fun w19 g19 x19 _=>⟨rfl,T',m',M',r',lv',ps',w16.heap.size,w17.heap.size,LL2,?_⟩
   have tgb:T' b1=T1 b1:=A.tg b1 (by omega)
   exact mid_mk hjl hN s wl kd kb g6 tb (by omega) x7 R7 x716 H17 A (by rw [p4]; omega) x19 g19 (tgb.trans n1) (by omega) (.inl (by omega)) (opsL_inf p3 _) (fun x hx=>by have:=inf_fit p3 (fun y hy=>(hfm y hy).2) x.op (List.mem_map.2 ⟨x,hx,rfl⟩); exact ⟨this.1.1,this.1.2,this.2.1⟩) (by omega)
  rintro _ ops' _ w20 ⟨rfl,T',m',M',r',lv',ps',base,top,LL',D20⟩
  show PlayT l (some ⟨m.bm,0,none⟩) tenant j b b1 wv keys ops' 0 w20 K fun s z w'=>∃ m1,m1 < m0/\I m1 s z w'
  exact plays_tail hL hjl hN D20 fun s' lp' m2 M2 w32 S hw' wl' kd' kb' g' tb'=>⟨L.length - (j+1),by omega,by rw [hI]; exact ⟨j+1,T',m2,M2,r',lv',ps',lp',by omega,by omega,rfl,S,hw',wl',kd',kb',g',tb'⟩⟩
end
end Go.Proofs.YtcamoanigdfihaaGreat
