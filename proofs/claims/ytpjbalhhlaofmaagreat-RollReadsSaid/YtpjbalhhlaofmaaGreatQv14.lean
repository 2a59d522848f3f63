/- Texts for LRollSame,LRollBytes,LRollReads,LRollNone, part 14. -/
import Derived.Lib.Overlaps
import Derived.Test.YtpjbalhhlaofmaaGreatQv13
set_option maxRecDepth 100000
namespace Go.V
structure cE(h:Array Obj)(s:Sl)(b:Nat)(row:List Value):Prop where
 a:s.a=some ⟨b,0,none⟩
 aj:h[b]? = some (.cells row.toArray 151 (0,0))
 len:row.length=s.cap * 9
 le:s.len<=s.cap
section
variable {w:Wd} {s:Sl} {b:Nat} {row:List Value}
theorem cE.cut{lo hi mx:Int}{K:Sl->Prop}(r:cE w.heap s b row)(h0:0<=lo)(h1:lo<=hi)(h2:hi<=mx)(h3:mx=s.cap)(k:∀s' off,s'.len=(hi - lo).toNat->s'.len<=s'.cap->s'.a=some ⟨b,off,none⟩->off<=lo.toNat * 9->(lo < hi->off=lo.toNat * 9)->K s'):Cut s lo hi mx 9 K:=by
 refine Cut.mk h0 h1 h2 (by omega) ?_;unfold iQ;split
 .exact k _ 0 rfl (by simp only;omega) r.a (by omega) (fun h=>by omega)
 .rw[r.a];refine k _ (lo.toNat * 9) rfl (by simp only;omega) ?_ (Nat.le_refl _) fun _=>rfl
  simp[aw]
theorem cE.JJ{hi mx:Int}{K:Sl->Prop}(r:cE w.heap s b row)(h1:0<=hi)(h2:hi<=mx)(h3:mx=s.cap)(k:K ⟨some ⟨b,0,none⟩,hi.toNat,s.cap⟩):Cut s 0 hi mx 9 K:=by
 refine Cut.mk (Int.le_refl _) h1 h2 (by omega) ?_
 have e1:iQ s.a mx.toNat (Int.toNat 0) 9=some ⟨b,0,none⟩:=by
  unfold iQ;split
  .exact r.a
  .rw[r.a];simp[aw]
 rw[e1,show(hi - 0).toNat=hi.toNat by omega,show(mx - 0).toNat=s.cap by omega];exact k
theorem cE.sub{n:Nat}(r:cE w.heap s b row)(h:n<=s.cap):cE w.heap ⟨some ⟨b,0,none⟩,n,s.cap⟩ b row:=⟨rfl,r.aj,r.len,h⟩
theorem uv{off:Nat}{xs:List Value}(hb:w.heap[b]? = some (.cells row.toArray 151 (0,0)))(ha:s.a=some ⟨b,off,none⟩)(iz:s.len<=s.cap)(hl:xs.length=s.len * 9)(hx:∀i (h:i < xs.length),row[off+i]? = some xs[i])(VX:∀v∈xs,aJ v=true):Rd w.heap s 9 xs:=by
 refine⟨hl,iz,fun _=>⟨b,off,ha,fun i hi=>?_⟩,VX⟩;unfold bS;rw[hb];simpa using hx i hi
theorem KQ{P:Program}{t e:TypeId}{ie:TypeInfo}{n:Nat}{x:Value}{xs:List Value}{K:Sl->Pw}(ht:P.underlying t=some (.slice e))(hi:P.info? e=some ie)(gZ:ie.size=9)
  (r:cE w.heap s b row) (src:Src P w x 9 n xs) (iy:s.len+n<=s.cap) (hk:∀w',gB w b (.cells (setL row (s.len * 9) xs).toArray 151 (0,0)) w'->K ⟨s.a,s.len+n,s.cap⟩ w'):bg P t t s x K w:=by
 have cF:s.len * 9+xs.length<=row.length:=by rw[src.len,r.len];omega
 have qX:=nc (P:=P) (b:=b) (T:=151) (fz:=(0,0)) xs w row.toArray (s.len * 9) 0 r.aj (by simpa using cF) (.inr (.inr (Nat.le_refl _))) src.cells;have ha:=r.a;refine⟨⟨s.a,s.len+n,s.cap⟩,World.cP w b (.cells (setL row (s.len * 9) xs).toArray 151 (0,0)),fun ty=>?_,hk _ rfl⟩;obtain⟨sa,sl,sc⟩:=s;simp only at ha iy;subst ha;have h0:=src.num;have h1:=src.get w rfl;have ea:(⟨b,0,none⟩ : Addr).add (sl * 9)=⟨b,sl * 9,none⟩:=by rw[aw rfl];simp
 simp only[Nat.add_zero]at qX;simp[Builtin.append_,aB ht,bI hi,gZ,h0,h1,iy,ea,qX]
theorem Mo{P:Program}{t e:TypeId}{ie:TypeInfo}{z:Value}{off n c:Nat}(ht:P.underlying t=some (.slice e))(hi:P.info? e=some ie)(hz:ie.zero=some z)(Ke:z.cells.size=9)(Ls:∀v∈z.cells,aJ v=true)(hb:w.heap[b]? = some (.cells row.toArray 151 (0,0)))(hle:off+n * 9<=row.length) :
  ∃w' zs,(Builtin.clear_ #[t] 0 #[.slice (some ⟨b,off,none⟩) n c]).run P w = .ok (.tuple #[]) w'/\zs.length=n * 9/\gB w b (.cells (setL row off zs).toArray 151 (0,0)) w':=by
 rcases Nat.eq_zero_or_pos n with h | h
 .subst h;refine⟨w,[],?_,by simp,?_⟩
  .simp[Builtin.clear_,aB ht]
  .unfold gB World.cP setL
   have e2:w.heap.setIfInBounds b (.cells row.toArray 151 (0,0))=w.heap:=by
    apply Array.ext_getElem?;intro i;rw[Array.getElem?_setIfInBounds];split
    .rename_i h;subst h;split
     .exact hb.symm
     .rename_i h2;rw[Array.getElem?_eq_none (by omega)]at hb;cases hb
    .rfl
   rw[e2]
 .have ZC:(Builtin.zeroCells z.cells n).toList.length=n * 9:=by simp[ji,Ke]
  have qX:=nc (P:=P) (b:=b) (T:=151) (fz:=(0,0)) (Builtin.zeroCells z.cells n).toList w row.toArray off 0 hb (by simp only[ZC];simpa using hle) (.inr (.inr (Nat.le_refl _))) (fun v hv=>by
   simp only[Builtin.zeroCells,Array.toList_map,List.mem_map]at hv;obtain⟨i,uJ,rfl⟩:=hv;have:i % z.cells.size < z.cells.size:=Nat.mod_lt _ (by omega);refine Ls _ ?_
   simp[this])
  refine⟨World.cP w b (.cells (setL row off (Builtin.zeroCells z.cells n).toList).toArray 151 (0,0)),_,?_,ZC,rfl⟩
  obtain⟨m,rfl⟩ : ∃m,n=m+1:=⟨n - 1,by omega⟩
  simp only[Nat.add_zero]at qX;simp[Builtin.clear_,aB ht,eT hi hz,qX]
theorem Bv{zc:Array Value}{n:Nat}(hs:0 < zc.size)(hz:∀v∈zc,aJ v=true):∀v∈(Builtin.zeroCells zc n).toList,aJ v=true:=fun v hv=>by
 simp only[Builtin.zeroCells,Array.toList_map,List.mem_map]at hv;obtain⟨i,uJ,rfl⟩:=hv;have:i % zc.size < zc.size:=Nat.mod_lt _ hs;refine hz _ ?_;simp[this]
theorem HJ{P:Program}{t t' e:TypeId}{ie:TypeInfo}{z:Value}{n:Nat}{cs:List Value}{K:Sl->Pw}(ht:P.underlying t=some (.slice e))(Dh:P.underlying t'=some (.int .i64))(hi:P.info? e=some ie)(hz:ie.zero=some z)(gZ:ie.size=9)(Ke:z.cells.size=9)(Ls:∀v∈z.cells,aJ v=true)(Ro:ie.bytes=104)(he:e=151)
  (rd:Rd w.heap s 9 cs) (iy:s.cap < s.len+n) (hb:s.len+n<=1099511627776) (hk:∀s' w' zs,cE w'.heap s' w.heap.size (cs++zs)->s'.len=s.len+n->(∀v∈zs,aJ v=true)->Ext No w w'->K s' w'):bg P t t' s (.int .i64 n) K w:=by
 have YR:IntKind.i64.wrap (n:Int)=n:=IntWalk.i64_in _ ⟨by omega,by omega⟩;have vp:=growslice_fits (bytes:=ie.bytes) iy (by rw[Ro];omega);have uI:=grownCap_ge (w:=w) (need:=s.len+n) (old:=s.cap) (e:=e);have hold:=(rd.src (P:=P)).get (aa w) rfl;have Rp:0 < n:=by have:=rd.cap;omega
 have wm:¬ ((n:Int) < 0):=by omega
 refine⟨⟨some ⟨w.heap.size,0,none⟩,s.len+n,grownCap w (s.len+n) s.cap e⟩,World.cw (aa w) (.cells (cs++((Builtin.zeroCells z.cells n).toList++(Builtin.zeroCells z.cells (grownCap w (s.len+n) s.cap e - (s.len+n))).toList)).toArray e),fun ty=>?_,hk _ _ ((Builtin.zeroCells z.cells n).toList++(Builtin.zeroCells z.cells (grownCap w (s.len+n) s.cap e - (s.len+n))).toList) ⟨rfl,?_,?_,uI⟩ rfl (fun v hv=>?_) ?_⟩
 .obtain⟨sa,sl,sc⟩:=s;simp only at iy vp hold uI hb;have XP:¬ (sl+n<=sc):=by omega
  have Ek:¬ (Builtin.nextslicecap (sl+n) sc * 104 > 281474976710656):=by rw[Ro]at vp;omega
  have Om:¬ (9223372036854775807 < (sl:Int)+(n:Int)):=by omega
  have TT:¬ (281474976710656 < (n:Int) * 104):=by omega
  simp[wm,TT,Om,-run_choose,Builtin.append_,aB ht,aB Dh,bI hi,gZ,asInt,asIntOf,YR,XP,gY hi,Ro,Ek,jh,hold,eT hi hz,eB]
  have ea:cs.toArray++(Builtin.zeroCells z.cells n++Builtin.zeroCells z.cells (grownCap w (sl+n) sc e - (sl+n)))=(cs++((Builtin.zeroCells z.cells n).toList++(Builtin.zeroCells z.cells (grownCap w (sl+n) sc e - (sl+n))).toList)).toArray:=by
   apply Array.toList_inj.1;simp
  rw[if_neg (by omega),ea];rfl
 .subst he;unfold World.cw aa;simp only[Array.getElem?_push,if_true]
 .have hc:cs.length=s.len * 9:=rd.len;simp only[List.length_append,Array.length_toList,ji,Ke,hc];omega
 .rcases List.mem_append.1 hv with h | h <;> exact Bv (by omega) Ls v h
 .refine⟨rfl,rfl,rfl,by simp[World.cw,aa],fun i hi _=>?_⟩;simp only[World.cw,aa];exact gv _ _ _ hi
theorem ki.re{B:Nat->Prop}{w':Wd}{s':Sl}{L L':List (aL×aF)}(o:ki w.heap B s L)(x:Ext (fun b=>s.aj=some b) w w')(o':bf w'.heap 0 151 9 s' (L'.flatMap aU))(hb:s'.aj=s.aj∨∃b,s'.aj=some b/\w.heap.size<=b/\B b)
  (hL:∀p∈L',p∈L∨(lD w'.heap p.1 p.2/\∀b,(p.1.k.aj=some b∨p.1.v.aj=some b)->B b/\b < w.heap.size/\s.aj≠some b)):ki w'.heap B s' L':=by
 have key:∀b,B b/\b < w.heap.size/\s.aj≠some b->B b/\b < w'.heap.size/\s'.aj≠some b:=fun b h=>⟨h.1,Nat.lt_of_lt_of_le h.2.1 x.size,fun e=>by
  rcases hb with h' | ⟨c,h',hc,_⟩
  .exact h.2.2 (h' ▸ e)
  .rw[h']at e;cases e;omega⟩
 refine⟨o',fun p hp=>?_,fun p hp b hbk=>?_,fun b Rn=>?_⟩
 .rcases hL p hp with h | h
  .exact(o.h_ p h).ext x (fun b hb h2=>(o.kb p h b (.inl hb)).2.2 h2) (fun b hb h2=>(o.kb p h b (.inr hb)).2.2 h2)
  .exact h.1
 .rcases hL p hp with h | h
  .exact key b (o.kb p h b hbk)
  .exact key b (h.2 b hbk)
 .rcases hb with h' | ⟨c,h',_,hc⟩
  .exact o.sb b (h' ▸ Rn)
  .rw[h']at Rn;cases Rn;exact hc
theorem cE.own{w':Wd}{cs rest:List Value}(r:cE w'.heap s b (cs++rest))(hl:cs.length=s.len * 9)(hc:∀v∈cs,aJ v=true):bf w'.heap 0 151 9 s cs:=⟨hl,.inr ⟨b,rest,r.a,Nat.zero_le _,r.aj,r.len,r.le⟩,hc⟩
theorem cE.PH{w':Wd}{VY:List Value}(r:cE w.heap s b row)(h:gB w b (.cells VY.toArray 151 (0,0)) w')(hl:VY.length=row.length):cE w'.heap s b VY:=⟨r.a,h.get r.aj,by rw[hl];exact r.len,r.le⟩
theorem bf.HK{cs:List Value}(o:bf w.heap 0 151 9 s cs)(bA:cs≠[]):∃b rest,cE w.heap s b (cs++rest):=by
 obtain⟨b,rest,ha,_,hb,hl,hc⟩:=o.place bA;exact⟨b,rest,ha,hb,hl,hc⟩
theorem yu{L:List (aL×aF)}:∀v∈L.flatMap aU,aJ v=true:=fun v hv=>by
 obtain⟨x,_,hx⟩:=List.mem_flatMap.1 hv;unfold aU aL.cs at hx;simp only[List.mem_cons,List.not_mem_nil,or_false]at hx;rcases hx with h | h | h | h | h | h | h | h | h <;> subst h <;> rfl
theorem lI(L:List (aL×aF)):(L.flatMap aU).length=L.length * 9:=aS (bO L)
theorem uw{pre xs suf:List Value}{off:Nat}(h:off=pre.length):∀i (h:i < xs.length),(pre++(xs++suf))[off+i]? = some xs[i]:=fun i hi=>by
 subst h;rw[List.getElem?_append_right (by omega),Nat.add_sub_cancel_left,List.getElem?_append_left hi,List.getElem?_eq_getElem hi]
end
end Go.V
namespace Go.Proofs.YtpjbalhhlaofmaaGreat
open Go.V
section
variable {w:Wd}
theorem rQ{b off n c:Nat}{row:List Value}(hb:w.heap[b]? = some (.cells row.toArray 151 (0,0)))(hle:off+n * 9<=row.length):∃w' zs,(Builtin.clear_ #[140] 0 #[.slice (some ⟨b,off,none⟩) n c]).run pz w = .ok (.tuple #[]) w'/\zs.length=n * 9/\gB w b (.cells (setL row off zs).toArray 151 (0,0)) w' :=
 Mo (e:=151) (ie:=Tryz.t151) (z:=Tryz.t151.zero.getD .nilFunc) (by kernel_rfl) (by kernel_rfl) (by kernel_rfl) (by kernel_rfl) (by decide +kernel) hb hle
theorem yw{B:Nat->Prop}{s:Sl}{L:List (aL×aF)}{i:Int}{K:Sl->Pw}(nd:ki w.heap B s L)(h0:0<=i)(hi:i.toNat < L.length)(hl:L.length<=65536)
  (k:∀s' w',ki w'.heap B s' (L.take i.toNat++L.drop (i.toNat+1))->s'.aj=s.aj->Ext (fun b=>s.aj=some b) w w'->K s' w'):aA s i (i+1) w K:=by
 apply hU;have nl:=nd.nd.len;have bA:L.flatMap aU≠[]:=by intro e;have:=lI L;rw[e]at this;simp at this;omega
 obtain⟨b,rest,r⟩:=nd.own.HK bA
 have eL:L.flatMap aU=(L.take i.toNat).flatMap aU++(([L[i.toNat]].flatMap aU)++(L.drop (i.toNat+1)).flatMap aU):=by
  have:L=L.take i.toNat++(L[i.toNat]::L.drop (i.toNat+1)):=by rw[<- List.drop_eq_getElem_cons hi,List.take_append_drop]
  conv=>lhs;rw[this]
  rw[List.flatMap_append,List.flatMap_cons];simp
 have hA:((L.take i.toNat).flatMap aU).length=i.toNat * 9:=by rw[lI,List.length_take];omega
 have hM:([L[i.toNat]].flatMap aU).length=9:=by rw[lI];simp
 have hT:((L.drop (i.toNat+1)).flatMap aU).length=(L.length - (i.toNat+1)) * 9:=by rw[lI,List.length_drop]
 have cA:=yu (L:=L.take i.toNat);have cT:=yu (L:=L.drop (i.toNat+1));have Fj:=nd.own;rw[eL]at r;generalize hAe:(L.take i.toNat).flatMap aU=A at *;generalize hMe:[L[i.toNat]].flatMap aU=Mc at *;generalize hTe:(L.drop (i.toNat+1)).flatMap aU=T at *;have DO:=r.len;have iz:=r.le;have Hy:=nd.own.len;rw[eL]at Hy;simp only[List.length_append]at DO Hy;refine Cut.mk h0 (by omega) (by omega) (by omega) (If.beq (fun h=>by omega) fun _=>⟨fun _=>True,trivial,cE.JJ (w:=aa w) r h0 (by omega) rfl (cE.cut (w:=aa w) r (by omega) (by omega) (by omega) rfl fun s3 o3 l3 c3 a3 ae7 o3e=>?_)⟩);have r2:cE (aa w).heap ⟨some ⟨b,0,none⟩,i.toNat,s.cap⟩ b (A++(Mc++T)++rest):=cE.sub (w:=aa w) r (by omega)
 have hs3:Rd (aa w).heap s3 9 T:=by
  rcases Nat.eq_zero_or_pos T.length with h | h
  .have:T=[]:=List.eq_nil_of_length_eq_zero h;subst this;exact⟨by simp;omega,c3,fun h=>(h rfl).elim,by simp⟩
  .refine uv (w:=aa w) (row:=(A++Mc)++(T++rest)) (by rw[show(A++Mc)++(T++rest)=A++(Mc++T)++rest by simp];exact r.aj) a3 c3 (by omega) (uw ?_) cT;rw[o3e (by omega),List.length_append];omega
 refine KQ (e:=151) (ie:=Tryz.t151) (by kernel_rfl) (by kernel_rfl) (by kernel_rfl) r2 hs3.src (by simp only;omega) fun w1 h1=>⟨trivial,?_⟩
 have e1:setL (A++(Mc++T)++rest) (i.toNat * 9) T=A++T++((Mc++(T++rest)).drop T.length):=by
  rw[show A++(Mc++T)++rest=A++(Mc++(T++rest)) by simp,show i.toNat * 9=A.length+0 by omega,bT,dK _ _ _ (by simp;omega)];simp
 simp only at h1;rw[e1]at h1
 have r1:cE w1.heap ⟨some ⟨b,0,none⟩,i.toNat+s3.len,s.cap⟩ b (A++T++((Mc++(T++rest)).drop T.length)):=⟨rfl,h1.get r2.aj,by simp only[List.length_append,List.length_drop];omega,by simp only;omega⟩
 refine cE.cut r1 (by simp only;omega) (by simp only;omega) (by simp only;omega) rfl fun s5 o5 l5 c5 a5 ZD o5e=>?_
 obtain⟨s5a,s5l,s5c⟩:=s5;simp only at a5 l5 ZD o5e;subst a5;obtain⟨w2,zs,Ba,ZC,Hk⟩:=rQ (b:=b) (off:=o5) (n:=s5l) (c:=s5c) r1.aj (by simp only[List.length_append,List.length_drop];omega);refine⟨w2,Ba,k _ w2 ?_ (by simp[Sl.aj,r.a]) ?_⟩
 .refine nd.re ?_ ?_ (.inl (by simp[Sl.aj,r.a])) fun p hp=> .inl ?_
  .exact((h1.ext.ar).trans Hk.ext fun q _ h=>h).mono fun q _ h=>by subst h;simp[Sl.aj,r.a]
  .have e2:setL (A++T++((Mc++(T++rest)).drop T.length)) o5 zs=A++T++setL ((Mc++(T++rest)).drop T.length) 0 zs:=by
    rw[o5e (by omega),show((i.toNat+s3.len:Nat):Int).toNat * 9=(A++T).length+0 by simp only[List.length_append];omega,bT]
   rw[e2]at Hk;have r3:=r1.PH Hk (by simp only[List.length_append,a_]);rw[List.flatMap_append,hAe,hTe];exact r3.own (by simp only[List.length_append];omega) fun v hv=>(List.mem_append.1 hv).elim (cA v) (cT v)
  .rcases List.mem_append.1 hp with h | h
   .exact List.mem_of_mem_take h
   .exact List.mem_of_mem_drop h
 .exact((h1.ext.ar).trans Hk.ext fun q _ h=>h).mono fun q _ h=>by subst h;simp[Sl.aj,r.a]
end
end Go.Proofs.YtpjbalhhlaofmaaGreat
namespace Go.V
theorem PI{P:Program}{t t' e:TypeId}{ie:TypeInfo}{w:Wd}{d x:Sl}{b off n:Nat}{row xs:List Value}{K:Int->Pw}
  (ht:P.underlying t=some (.slice e)) (hi:P.info? e=some ie) (gZ:ie.size=9) (hd:d.a=some ⟨b,off,none⟩) (hb:w.heap[b]? = some (.cells row.toArray 151 (0,0))) (hn:min x.len d.len=n) (hx:Rd w.heap ⟨x.a,n,x.cap⟩ 9 xs)
  (hle:off+n * 9<=row.length) (hk:∀w',gB w b (.cells (setL row off xs).toArray 151 (0,0)) w'->K (n:Nat) w'):dR P t t' d x.v K w:=by
 subst hn;refine⟨_,_,fun ty=>?_,hk _ rfl⟩;have h1:=sZ (P:=P) hx (k:=min x.len d.len) (Nat.le_refl _);rw[List.take_of_length_le (by rw[hx.len];exact Nat.le_refl _)]at h1;have qX:=nc (P:=P) (b:=b) (T:=151) (fz:=(0,0)) xs w row.toArray off 0 hb (by have:=hx.len;simp only at this;simp only[List.size_toArray];omega) (.inr (.inr (Nat.le_refl _))) (fun v hv=>hx.cells v hv);obtain⟨da,dl,dc⟩:=d;obtain⟨xa,xl,xc⟩:=x;simp only at hd;subst hd;simp only[Nat.add_zero]at qX;simp only at h1 qX
 have h2:(Builtin.firstCells 9 (xl.min dl) (Sl.v ⟨xa,xl,xc⟩)).run P w = .ok xs.toArray w:=by
  rw[<- h1];cases xa <;> rfl
 simp[Builtin.copy_,aB ht,Builtin.lenOf,bI hi,gZ,h2,qX,goInt]
theorem KR{A X V T:List Value}(h:V.length+T.length<=X.length):setL (setL (A++X) (A.length+V.length) T) (A.length+0) V=A++(V++(T++X.drop (V.length+T.length))):=by
 rw[bT,bT,dK T X V.length (by omega),dK _ _ _ (by simp;omega)];simp[List.length_take,Nat.min_eq_left (by omega:V.length<=X.length)]
theorem HL{A X V T:List Value}(h:V.length+T.length<=X.length):setL (setL (A++X) (A.length+0) V) (A.length+V.length) T=A++(V++(T++X.drop (V.length+T.length))):=by
 rw[bT,bT,dK V X 0 (by omega)];simp only[List.take_zero,List.nil_append,Nat.zero_add];rw[show V.length=V.length+0 by omega,bT,dK _ _ _ (by simp;omega)];simp
end Go.V
namespace Go.Proofs.YtpjbalhhlaofmaaGreat
open Go.V
section
variable {w:Wd}
theorem gf{d x:Sl}{b off n:Nat}{row xs:List Value}{K:Int->Pw}(hd:d.a=some ⟨b,off,none⟩)(hb:w.heap[b]? = some (.cells row.toArray 151 (0,0)))(hn:min x.len d.len=n)(hx:Rd w.heap ⟨x.a,n,x.cap⟩ 9 xs)
  (hle:off+n * 9<=row.length) (hk:∀w',gB w b (.cells (setL row off xs).toArray 151 (0,0)) w'->K (n:Nat) w'):dR pz 140 140 d (.slice x.a x.len x.cap) K w:=
 PI (x:=x) (e:=151) (ie:=Tryz.t151) (by kernel_rfl) (by kernel_rfl) (by kernel_rfl) hd hb hn hx hle hk
theorem _root_.Go.V.Rd.pre{h:Array Obj}{s:Sl}{sz n:Nat}{cs:List Value}(r:Rd h s sz cs)(hn:n=s.len):Rd h ⟨s.a,n,s.cap⟩ sz cs:=by subst hn;exact r
set_option maxHeartbeats 1000000 in
theorem yx{s s4 vv:Sl}{b b4 m t:Nat}{i jj:Int}{A zs P T rest Vc:List Value}{K:Sl->Pw}(r4:cE w.heap s4 b4 (A++zs))(h4:s4.len=i.toNat+m+t)(hA:A.length=i.toNat * 9)(hi:0<=i)(YU:i<=1099511627776)(hmb:m<=1099511627776)
  (r:cE w.heap s b (P++(T++rest))) (hj:0<=jj) (hP:P.length=jj.toNat * 9) (hs:s.len=jj.toNat+t) (hT:T.length=t * 9) (cT:∀v∈T,aJ v=true) (bA:b≠b4) (hv:Rd w.heap vv 9 Vc) (Nz:vv.len=m)
  (k:∀w' ZE,cE w'.heap s4 b4 (A++(Vc++(T++ZE)))->Ext (·=b4) w w'->K s4 w') :
  Cut s4 i (((s4.len:Nat):Int)) (((s4.cap:Nat):Int)) 9 fun s5=>dR pz 140 140 s5 (.slice vv.a vv.len vv.cap) (fun _z_3 w3=>∃S:Pw,S (aa w3)/\Ar .i64 (i+((vv.len:Int))) fun SA=>
   Cut s4 SA (((s4.len:Nat):Int)) (((s4.cap:Nat):Int)) 9 fun s_6=>Cut s jj (((s.len:Nat):Int)) (((s.cap:Nat):Int)) 9 fun s_7=>dR pz 140 140 s_6 (.slice s_7.a s_7.len s_7.cap) (fun _z_5 w4=>S w4/\K s4 w4) (aa w3)) w:=by
 have hle:=r.le;have afa:=r4.le;have XQ:Vc.length=m * 9:=by rw[hv.len,Nz]
 have hz:=r4.len;simp only[List.length_append]at hz;refine cE.cut r4 hi (by omega) (by omega) rfl fun s5 o5 l5 c5 a5 ZD o5e=>?_
 refine gf (n:=m) (xs:=Vc) a5 r4.aj (by rw[l5,Nz];omega) (hv.pre Nz.symm) (by simp only[List.length_append];omega) fun w3 h3=>⟨fun _=>True,trivial,Ar.i64 (by omega) ?_⟩
 have acG:=r4.PH h3 (a_ _ _ _);have r43:cE (aa w3).heap s4 b4 (setL (A++zs) o5 Vc):=acG
 have r3:cE (aa w3).heap s b (P++(T++rest)):=⟨r.a,by show w3.heap[b]? = _;rw[h3.other bA];exact r.aj,r.len,r.le⟩
 refine cE.cut r43 (by omega) (by omega) (by omega) rfl fun s6 o6 l6 c6 a6 afb o6e=>cE.cut r3 hj (by omega) (by omega) rfl fun s7 o7 l7 c7 a7 afc o7e=>?_
 have hs7:Rd (aa w3).heap ⟨s7.a,t,s7.cap⟩ 9 T:=by
  rcases Nat.eq_zero_or_pos t with h | h
  .have:T=[]:=List.eq_nil_of_length_eq_zero (by omega);subst this;subst h;exact⟨by simp,by simp,fun h=>(h rfl).elim,by simp⟩
  .exact uv (s:=⟨s7.a,t,s7.cap⟩) r3.aj a7 (by simp only;omega) hT (uw (by rw[o7e (by omega)];omega)) cT
 refine gf (n:=t) (xs:=T) a6 r43.aj (by rw[l6,l7];omega) hs7 (by rw[a_];simp only[List.length_append];omega) fun w4 h4'=>⟨trivial,?_⟩
 have e0:setL (A++zs) o5 Vc=setL (A++zs) (A.length+0) Vc:=by
  rcases Nat.eq_zero_or_pos (m+t) with h | h
  .have:Vc=[]:=List.eq_nil_of_length_eq_zero (by omega);subst this;rfl
  .rw[o5e (by omega)];congr 1;omega
 have e1:setL (setL (A++zs) o5 Vc) o6 T=A++(Vc++(T++zs.drop (Vc.length+T.length))):=by
  rw[<- HL (by omega),e0];rcases Nat.eq_zero_or_pos t with h | h
  .have:T=[]:=List.eq_nil_of_length_eq_zero (by omega);subst this;rfl
  .rw[o6e (by omega)];congr 1;omega
 rw[e1]at h4';refine k w4 _ (r43.PH h4' ?_) (h3.ext.trans h4'.ext.ar fun _ _ h=>h);rw[<- e1];exact a_ _ _ _
theorem rR{x y:Sl}{bx ox Vq oy:Nat}{rx ry:List Value}(hx:x.a=some ⟨bx,ox,none⟩)(hy:y.a=some ⟨Vq,oy,none⟩)(gx:w.heap[bx]? = some (.cells rx.toArray 151 (0,0)))(gy:w.heap[Vq]? = some (.cells ry.toArray 151 (0,0)))(bA:bx≠Vq)(hl:ry.length≠0) :
  Sem.run pz (callFunc 167 #[.slice x.a x.len x.cap,.slice y.a y.len y.cap]) w = .ok (.value (.bool false)) w:=by
 rw[run_callFunc_extern (e:=Extern.SlicesOverlaps.overlaps #[140,140] #[4]) Tryz.func167 (by kernel_rfl) (by kernel_rfl) (by kernel_rfl) (by kernel_rfl),hx,hy];rw[Lib.run_overlaps_apart (P:=pz) w 140 4 151 (by kernel_rfl) 9 (fun w=>bI (i:=Tryz.t151) (by kernel_rfl)) ⟨bx,ox,none⟩ ⟨Vq,oy,none⟩ x.len x.cap y.len y.cap bA 151 151 rx.length ry.length (by simp[World.shape?,gx]) (by simp[World.shape?,gy]) hl (by simp[World.frozen?,gx]) (by simp[World.frozen?,gx])];rfl
theorem HM{L:List (aL×aF)}{i j:Nat}(Fp:i<=j):L.flatMap aU=(L.take i).flatMap aU++(((L.drop i).take (j - i)).flatMap aU++(L.drop j).flatMap aU):=by
 have:L=L.take i++((L.drop i).take (j - i)++L.drop j):=by
  have e:L.drop j=(L.drop i).drop (j - i):=by rw[List.drop_drop];congr 1;omega
  rw[e,List.take_append_drop,List.take_append_drop]
 conv=>lhs;rw[this]
 rw[List.flatMap_append,List.flatMap_append]
structure Mp(w:Wd)(B:Nat->Prop)(s vv:Sl)(V:List (aL×aF)):Prop where
 own:bf w.heap 0 151 9 vv (V.flatMap aU)
 h_:∀p∈V,lD w.heap p.1 p.2
 kb:∀p∈V,∀b,(p.1.k.aj=some b∨p.1.v.aj=some b)->B b/\b < w.heap.size/\s.aj≠some b
 ne:∀b,vv.aj=some b->s.aj≠some b
theorem Mp.len{B:Nat->Prop}{s vv:Sl}{V:List (aL×aF)}(n:Mp w B s vv V):vv.len=V.length:=by have:=n.own.len;rw[lI]at this;omega
set_option maxHeartbeats 1000000 in
theorem HN{B:Nat->Prop}{s vv:Sl}{L V:List (aL×aF)}{i:Int}{K:Sl->Pw}(nd:ki w.heap B s L)(nv:Mp w B s vv V)(hV:V≠[])(h0:0<=i)(hi:i.toNat<=L.length)(hl:L.length<=65536)(SE:V.length<=65536)(hB:∀q,w.heap.size<=q->B q)
  (k:∀s' w',ki w'.heap B s' (L.take i.toNat++(V++L.drop i.toNat))->(s'.aj=s.aj∨∃b,s'.aj=some b/\w.heap.size<=b)->Ext (fun b=>s.aj=some b) w w'->K s' w'):bK s i vv w K:=by
 apply hY;have nl:=nd.nd.len;have vl:=nv.len;have hVp:0 < V.length:=List.length_pos_iff.2 hV;have iz:=nd.own.rd.cap
 have fin:∀{s':Sl}{w':Wd},Ext (fun b=>s.aj=some b) w w'->bf w'.heap 0 151 9 s' ((L.take i.toNat++(V++L.drop i.toNat)).flatMap aU)->(s'.aj=s.aj∨∃b,s'.aj=some b/\w.heap.size<=b)->K s' w':=fun {s' w'} x o hb=>
  k s' w' (nd.re x o (hb.imp id fun⟨b,h1,h2⟩=>⟨b,h1,h2,hB b h2⟩) fun p hp=>by
   rcases List.mem_append.1 hp with h | h
   .exact .inl (List.mem_of_mem_take h)
   .rcases List.mem_append.1 h with h | h
    .exact .inr ⟨(nv.h_ p h).ext x (fun b hb h2=>(nv.kb p h b (.inl hb)).2.2 h2) (fun b hb h2=>(nv.kb p h b (.inr hb)).2.2 h2),nv.kb p h⟩
    .exact .inl (List.mem_of_mem_drop h)) hb x
 refine Cut.mk h0 (by omega) (by omega) (by omega) (If.beq (fun h=>by omega) fun _=>If.beq (fun h=>?_) fun h=>?_)
 .have e:i.toNat=L.length:=by omega
  refine fM nd.own (Nat.zero_le _) nv.own.rd.src (by omega) fun s' w' o _ x hb=>fin x ?_ hb
  rw[e,List.take_length,List.drop_length,List.append_nil,List.flatMap_append];exact o
 have bA:L.flatMap aU≠[]:=by intro e;have:=lI L;rw[e]at this;simp at this;omega
 obtain⟨b,rest,r⟩:=nd.own.HK bA;have eL:L.flatMap aU=(L.take i.toNat).flatMap aU++(L.drop i.toNat).flatMap aU:=by rw[<- List.flatMap_append,List.take_append_drop]
 have zR:s.aj=some b:=by simp[Sl.aj,r.a]
 have hA:((L.take i.toNat).flatMap aU).length=i.toNat * 9:=by rw[lI,List.length_take,Nat.min_eq_left hi]
 have hT:((L.drop i.toNat).flatMap aU).length=(L.length - i.toNat) * 9:=by rw[lI,List.length_drop]
 have XQ:(V.flatMap aU).length=V.length * 9:=lI V;have cA:=yu (L:=L.take i.toNat);have cT:=yu (L:=L.drop i.toNat);have cV:=yu (L:=V);have Ug:=nv.own.rd;have ef:(L.take i.toNat++(V++L.drop i.toNat)).flatMap aU=(L.take i.toNat).flatMap aU++(V.flatMap aU++(L.drop i.toNat).flatMap aU):=by rw[List.flatMap_append,List.flatMap_append]
 rw[ef]at fin;rw[eL]at r;have Vm:V.flatMap aU≠[]:=by intro e;rw[e]at XQ;simp at XQ;omega
 obtain⟨bv,ZF,rv⟩:=nv.own.HK Vm;have RA:bv≠b:=fun e=>nv.ne bv (by simp[Sl.aj,rv.a]) (by rw[zR,e])
 generalize(L.take i.toNat).flatMap aU=A at *;generalize(L.drop i.toNat).flatMap aU=T at *;generalize V.flatMap aU=Vc at *;have DO:=r.len;simp only[List.length_append]at DO;rw[List.append_assoc]at r;refine Ar.i64 (by omega) (If.dec (fun hg=>?_) fun hg=>?_)
 .refine cE.JJ r h0 (by omega) rfl (Ar.i64 (by omega) (Ar.i64 (by omega) ?_));have r2:cE w.heap ⟨some ⟨b,0,none⟩,i.toNat,s.cap⟩ b (A++(T++rest)):=r.sub (by omega);have rd2:Rd w.heap ⟨some ⟨b,0,none⟩,i.toNat,s.cap⟩ 9 A:=uv (row:=[]++(A++(T++rest))) r.aj rfl (by simp only;omega) hA (uw rfl) cA;rw[show((s.len:Int)+(vv.len:Int) - i)=((L.length+V.length - i.toNat:Nat):Int) by omega];refine HJ (e:=151) (ie:=Tryz.t151) (z:=Tryz.t151.zero.getD .nilFunc) (by kernel_rfl) (by kernel_rfl) (by kernel_rfl) (by kernel_rfl) (by kernel_rfl) (by kernel_rfl) (by decide +kernel) (by kernel_rfl) rfl rd2 (by simp only;omega) (by simp only;omega) fun s4 w2 zs r4 l4 _ x2=>?_
  have rlt:=blt r.aj
  have ZG:cE w2.heap s b (A++(T++rest)):=⟨r.a,ad r.aj x2,r.len,r.le⟩
  refine yx (t:=L.length - i.toNat) (m:=V.length) (P:=A) (T:=T) (rest:=rest) (Vc:=Vc) r4 (by rw[l4];simp only;omega) hA h0 (by omega) (by omega) ZG h0 hA (by omega) hT cT (by omega) (Ug.no x2) vl fun w' ZE r' x'=>fin ((x2.aE).trans x' fun q hq h=>by omega) ?_ (.inr ⟨_,by simp[Sl.aj,r'.a],Nat.le_refl _⟩)
  have r'':cE w'.heap s4 w.heap.size ((A++(Vc++T))++ZE):=by simpa using r'
  exact r''.own (by rw[l4];simp only[List.length_append];omega) fun v hv=>by
   rcases List.mem_append.1 hv with h | h
   .exact cA v h
   .exact(List.mem_append.1 h).elim (cV v) (cT v)
 .refine Ar.i64 (by omega) (cE.JJ r (by omega) (by omega) rfl (Ar.i64 (by omega) ?_));have r8:cE w.heap ⟨some ⟨b,0,none⟩,((s.len:Int)+(vv.len:Int)).toNat,s.cap⟩ b (A++(T++rest)):=r.sub (by omega);refine cE.cut r8 (by omega) (by simp only;omega) (by simp only;omega) rfl fun s9 o9 l9 c9 a9 afd o9e=>?_
  refine⟨false,w,rR rv.a a9 rv.aj r.aj RA (by simp only[List.length_append];omega),If.not (If.no ?_)⟩;refine⟨fun _=>True,trivial,Ar.i64 (by omega) (cE.cut (w:=aa w) r8 (by omega) (by simp only;omega) (by simp only;omega) rfl fun Oz Jp l10 c10 XR aeF ZH=>cE.cut (w:=aa w) r8 h0 (by simp only;omega) (by simp only;omega) rfl fun So Sr l11 c11 SQ aeG ZI=>?_)⟩;simp only at l10 l11 ZH ZI;have acH:Rd (aa w).heap ⟨So.a,L.length - i.toNat,So.cap⟩ 9 T:=uv (w:=aa w) (s:=⟨So.a,L.length - i.toNat,So.cap⟩) r.aj SQ (by simp only;omega) hT (uw (by rw[ZI (by omega)];omega)) cT
  refine gf (w:=aa w) (n:=L.length - i.toNat) (xs:=T) XR r.aj (by rw[l10,l11];omega) acH (by simp only[List.length_append];omega) fun w6 h6=>⟨trivial,?_⟩
  have r6:=cE.PH (w:=aa w) r8 h6 (a_ _ _ _);refine cE.cut r6 h0 (by simp only;omega) (by simp only;omega) rfl fun s12 Jq l12 c12 a12 aeH acI=>?_
  have acJ:Rd w6.heap vv 9 Vc:=Rd.ext (w:=aa w) Ug h6.ext fun a q ha hq h=>by have:=nv.ne q (by simp[Sl.aj,ha,hq]);rw[zR,h]at this;exact this rfl
  simp only at l12;refine gf (n:=V.length) (xs:=Vc) a12 r6.aj (by rw[l12,vl];omega) (acJ.pre vl.symm) (by rw[a_];simp only[List.length_append];omega) fun w7 h7=>?_
  have e1:setL (setL (A++(T++rest)) Jp T) Jq Vc=A++(Vc++(T++(T++rest).drop (Vc.length+T.length))):=by
   have e10:Jp=A.length+Vc.length:=by rw[ZH (by omega)];omega
   have e12:Jq=A.length+0:=by rw[acI (by simp only;omega)];omega
   rw[e10,e12];exact KR (by simp only[List.length_append];omega)
  rw[e1]at h7;have r7:=r6.PH h7 (by rw[<- e1,a_]);have r7':cE w7.heap ⟨some ⟨b,0,none⟩,((s.len:Int)+(vv.len:Int)).toNat,s.cap⟩ b ((A++(Vc++T))++(T++rest).drop (Vc.length+T.length)):=by simpa using r7
  refine fin (((h6.ext.ar).trans h7.ext fun q _ h=>h).mono fun q _ h=>by rw[zR,h]) (r7'.own (by simp only[List.length_append];omega) fun v hv=>?_) (.inl (by rw[zR];rfl));rcases List.mem_append.1 hv with h | h
  .exact cA v h
  .exact(List.mem_append.1 h).elim (cV v) (cT v)
end
section
variable {w:Wd}
set_option maxHeartbeats 2000000 in
theorem FA{B:Nat->Prop}{s vv:Sl}{L V:List (aL×aF)}{i:Int}{K:Sl->Pw}(nd:ki w.heap B s L)(nv:Mp w B s vv V)(h0:0<=i)(hi:i.toNat < L.length)(hl:L.length<=65536)(SE:V.length<=65536)(hB:∀q,w.heap.size<=q->B q)
  (k:∀s' w',ki w'.heap B s' (L.take i.toNat++(V++L.drop (i.toNat+1)))->(s'.aj=s.aj∨∃b,s'.aj=some b/\w.heap.size<=b)->Ext (fun b=>s.aj=some b) w w'->K s' w'):bG s i (i+1) vv w K:=by
 apply gN;have nl:=nd.nd.len;have vl:=nv.len;have iz:=nd.own.rd.cap
 have fin:∀{s':Sl}{w':Wd},Ext (fun b=>s.aj=some b) w w'->bf w'.heap 0 151 9 s' ((L.take i.toNat++(V++L.drop (i.toNat+1))).flatMap aU)->(s'.aj=s.aj∨∃b,s'.aj=some b/\w.heap.size<=b)->K s' w':=fun {s' w'} x o hb=>
  k s' w' (nd.re x o (hb.imp id fun⟨b,h1,h2⟩=>⟨b,h1,h2,hB b h2⟩) fun p hp=>by
   rcases List.mem_append.1 hp with h | h
   .exact .inl (List.mem_of_mem_take h)
   .rcases List.mem_append.1 h with h | h
    .exact .inr ⟨(nv.h_ p h).ext x (fun b hb h2=>(nv.kb p h b (.inl hb)).2.2 h2) (fun b hb h2=>(nv.kb p h b (.inr hb)).2.2 h2),nv.kb p h⟩
    .exact .inl (List.mem_of_mem_drop h)) hb x
 have bA:L.flatMap aU≠[]:=by intro e;have:=lI L;rw[e]at this;simp at this;omega
 obtain⟨b,rest,r⟩:=nd.own.HK bA;have eL:=HM (L:=L) (i:=i.toNat) (j:=i.toNat+1) (by omega);have zR:s.aj=some b:=by simp[Sl.aj,r.a]
 have hA:((L.take i.toNat).flatMap aU).length=i.toNat * 9:=by rw[lI,List.length_take,Nat.min_eq_left (by omega)]
 have hM:(((L.drop i.toNat).take (i.toNat+1 - i.toNat)).flatMap aU).length=9:=by rw[lI,List.length_take,List.length_drop,show i.toNat+1 - i.toNat=1 by omega,Nat.min_eq_left (by omega)]
 have hT:((L.drop (i.toNat+1)).flatMap aU).length=(L.length - (i.toNat+1)) * 9:=by rw[lI,List.length_drop]
 have XQ:(V.flatMap aU).length=V.length * 9:=lI V;have cA:=yu (L:=L.take i.toNat);have cT:=yu (L:=L.drop (i.toNat+1));have cV:=yu (L:=V);have acK:=nv.own;have Ug:=nv.own.rd;have ZJ:=nv.ne;have ef:(L.take i.toNat++(V++L.drop (i.toNat+1))).flatMap aU=(L.take i.toNat).flatMap aU++(V.flatMap aU++(L.drop (i.toNat+1)).flatMap aU):=by rw[List.flatMap_append,List.flatMap_append]
 rw[ef]at fin;rw[eL]at r;clear nd nv eL ef k bA;generalize(L.take i.toNat).flatMap aU=A at *;generalize((L.drop i.toNat).take (i.toNat+1 - i.toNat)).flatMap aU=M at *;generalize(L.drop (i.toNat+1)).flatMap aU=T at *;generalize V.flatMap aU=Vc at *;generalize hn:L.length=n at *;generalize hm:V.length=m at *;obtain⟨iN,rfl⟩:=Int.eq_ofNat_of_zero_le h0;simp only[Int.toNat_natCast] at *
 have VZ:∀v∈A++(Vc++T),aJ v=true:=fun v hv=>by
  rcases List.mem_append.1 hv with h | h
  .exact cA v h
  .exact(List.mem_append.1 h).elim (cV v) (cT v)
 have cAV:∀v∈A++Vc,aJ v=true:=fun v hv=>(List.mem_append.1 hv).elim (cA v) (cV v)
 have DO:=r.len;simp only[List.length_append]at DO;rw[List.append_assoc,List.append_assoc]at r;have rT:cE w.heap s b ((A++M)++(T++rest)):=by simpa using r
 have sX:∀{q},q=b->s.aj=some q:=fun h=>by rw[zR,h]
 refine Cut.mk h0 (by omega) (by omega) (by omega) (If.beq (fun h=>by omega) fun _=>If.beq (fun h=>?_) fun h=>?_)
 .have hT0:T=[]:=List.eq_nil_of_length_eq_zero (by omega);subst hT0;refine cE.JJ r (by omega) (by omega) rfl ?_;have r2:cE w.heap ⟨some ⟨b,0,none⟩,iN,s.cap⟩ b (A++(M++([]++rest))):=r.sub (by omega);rcases Nat.eq_zero_or_pos m with hm0 | hm0
  .have hV0:Vc=[]:=List.eq_nil_of_length_eq_zero (by omega);subst hV0;refine KQ (e:=151) (ie:=Tryz.t151) (by kernel_rfl) (by kernel_rfl) (by kernel_rfl) r2 Ug.src (by simp only;omega) fun w2 h2=>If.dec (fun _=>?_) fun h=>by simp only at h;omega
   have ZG:=r.PH h2 (a_ _ _ _);refine cE.cut ZG (by simp only;omega) (by simp only;omega) (by omega) rfl fun s4 o4 l4 c4 a4 acL o4e=>?_
   obtain⟨s4a,s4l,s4c⟩:=s4;simp only at a4 l4 acL o4e;subst a4;obtain⟨w3,zs,Ba,ZC,hw3⟩:=rQ (b:=b) (off:=o4) (n:=s4l) (c:=s4c) ZG.aj (by rw[a_];simp only[List.length_append,List.length_nil];omega);have e2:o4=A.length+0:=by rw[o4e (by omega)];omega
   have acM:gB w2 b (.cells (A++setL (M++([]++rest)) 0 zs).toArray 151 (0,0)) w3:=by
    have:=hw3;rw[show setL (A++(M++([]++rest))) ((⟨some ⟨b,0,none⟩,((iN:Nat):Int).toNat,s.cap⟩ : Sl).len * 9) []=A++(M++([]++rest)) from rfl,e2,bT]at this;exact this
   refine⟨w3,Ba,fin ((h2.ext.trans hw3.ext fun _ _ h=>h).mono fun q _ h=>sX h) ?_ (.inl (by rw[zR];rfl))⟩
   have r3:cE w3.heap ⟨some ⟨b,0,none⟩,((iN:Nat):Int).toNat+vv.len,s.cap⟩ b (A++setL (M++([]++rest)) 0 zs):=⟨rfl,acM.get ZG.aj,by simp only[List.length_append,a_,List.length_nil];omega,by simp only;omega⟩
   have:=r3.own (by simp only;omega) cA;rw[List.append_nil,List.append_nil];exact this
  .refine fM (r2.own hA cA) (Nat.zero_le _) Ug.src (by simp only;omega) fun s3 w2 o3 l3 x3 vB=>If.dec (fun h=>by simp only at l3;omega) fun _=>fin (x3.mono fun q _ h=>?_) ?_ (vB.imp (fun h=>by rw[h,zR];rfl) id)
   .simp[Sl.aj]at h;exact sX h.symm
   .rw[List.append_nil];exact o3
 have rd2:Rd (aa w).heap ⟨some ⟨b,0,none⟩,iN,s.cap⟩ 9 A:=uv (w:=aa w) (row:=[]++(A++(M++(T++rest)))) r.aj rfl (by simp only;omega) hA (uw rfl) cA;refine⟨fun _=>True,trivial,cE.JJ (w:=aa w) r (by omega) (by omega) rfl (Ar.i64 (by dsimp only;omega) (cE.cut (w:=aa w) r (by omega) (by omega) (by omega) rfl fun s6 o6 l6 c6 a6 _ _=>Ar.i64 (by dsimp only;omega) ?_))⟩;have l6':s6.len=n - (iN+1):=by omega
 rw[l6'];clear l6 c6 a6 l6';rw[show(((((iN:Nat):Int).toNat:Nat):Int)+(vv.len:Int)+((n - (iN+1):Nat):Int))=((iN+m+(n - (iN+1)):Nat):Int) by omega];refine If.dec (fun hg=>?_) fun hg=>?_
 .refine cE.JJ (w:=aa w) r (by omega) (by omega) rfl (Ar.i64 (by omega) ?_);rw[show((iN+m+(n - (iN+1)):Nat):Int) - (iN:Int)=((m+(n - (iN+1)):Nat):Int) by omega];refine HJ (w:=aa w) (e:=151) (ie:=Tryz.t151) (z:=Tryz.t151.zero.getD .nilFunc) (by kernel_rfl) (by kernel_rfl) (by kernel_rfl) (by kernel_rfl) (by kernel_rfl) (by kernel_rfl) (by decide +kernel) (by kernel_rfl) rfl rd2 (by simp only;omega) (by simp only;omega) fun s8 w4 zs r8 l8 _ x4=>?_
  simp only at l8;have Ce:Ext No w w4:=x4.ar;have rlt:=blt r.aj
  have rT':cE w4.heap s b ((A++M)++(T++rest)):=⟨rT.a,ad rT.aj Ce,rT.len,rT.le⟩
  refine yx (t:=n - (iN+1)) (m:=m) (P:=A++M) (T:=T) (rest:=rest) (Vc:=Vc) r8 (by omega) hA h0 (by omega) (by omega) rT' (by omega) (by simp only[List.length_append];omega) (by omega) hT cT (by show b≠w.heap.size;omega) (Ug.no Ce) vl fun w' ZE r' x'=>fin ((Ce.aE).trans x' fun q hq h=>by have:q=w.heap.size:=h;omega) ?_ (.inr ⟨w.heap.size,by show s8.a.map _=_;rw[r'.a];rfl,Nat.le_refl _⟩)
  have r'':cE w'.heap s8 w.heap.size ((A++(Vc++T))++ZE):=by have:=r';simp only[List.append_assoc]at this ⊢;exact this
  exact r''.own (by rw[l8];simp only[List.length_append];omega) VZ
 .refine cE.JJ (w:=aa w) r (by omega) (by omega) rfl (Ar.i64 (by omega) ?_);have RE:cE (aa w).heap ⟨some ⟨b,0,none⟩,((iN+m+(n - (iN+1)):Nat):Int).toNat,s.cap⟩ b (A++(M++(T++rest))):=r.sub (by omega);have afe:cE (aa w).heap ⟨some ⟨b,0,none⟩,((iN+m+(n - (iN+1)):Nat):Int).toNat,s.cap⟩ b ((A++M)++(T++rest)):=rT.sub (by omega);have hX:Vc.length+T.length<=(M++(T++rest)).length:=by simp only[List.length_append];omega
  refine If.dec (fun Nw=>?_) fun Nw=>?_
  .refine cE.cut RE (by omega) (by simp only;omega) (by simp only;omega) rfl fun s13 zE l13 c13 a13 aeI V0=>?_
   simp only at l13 V0
   refine gf (w:=aa w) (n:=m) (xs:=Vc) a13 RE.aj (by rw[l13,vl];omega) (Rd.pre (h:=(aa w).heap) Ug vl.symm) (by simp only[List.length_append];omega) fun w7 h7=>⟨fun _=>True,trivial,Ar.i64 (by omega) ?_⟩
   have e7:setL (A++(M++(T++rest))) zE Vc=(A++(Vc++M.drop Vc.length))++(T++rest):=by
    have SR:Vc=[]∨zE=A.length+0:=by
     rcases Nat.eq_zero_or_pos m with h | h
     .exact .inl (List.eq_nil_of_length_eq_zero (by omega))
     .exact .inr (by rw[V0 (by omega)];omega)
    rcases SR with h | h
    .subst h;simp[setL]
    .rw[h,bT,dK _ _ _ (by simp only[List.length_append];omega)];simp only[List.take_zero,List.nil_append,Nat.zero_add,List.append_assoc];rw[List.drop_append_of_le_length (by omega)]
   have e7b:setL (A++(M++(T++rest))) zE Vc=setL (A++(M++(T++rest))) (A.length+0) Vc:=by
    rcases Nat.eq_zero_or_pos m with h | h
    .have:Vc=[]:=List.eq_nil_of_length_eq_zero (by omega);subst this;rfl
    .rw[V0 (by omega)];congr 1;omega
   have r7':=RE.PH h7 (a_ _ _ _);have r7:cE (aa w7).heap ⟨some ⟨b,0,none⟩,((iN+m+(n - (iN+1)):Nat):Int).toNat,s.cap⟩ b (setL (A++(M++(T++rest))) zE Vc):=r7'
   have rs7:cE (aa w7).heap s b (setL (A++(M++(T++rest))) zE Vc):=⟨r.a,r7.aj,by rw[a_];exact r.len,r.le⟩
   refine cE.cut r7 (by omega) (by simp only;omega) (by simp only;omega) rfl fun s14 SS l14 c14 a14 aeJ ZK=>cE.cut rs7 (by omega) (by omega) (by omega) rfl fun Ue o15 l15 c15 a15 aeK acN=>?_
   simp only at l14 ZK;have acO:Rd (aa w7).heap ⟨Ue.a,n - (iN+1),Ue.cap⟩ 9 T:=uv (w:=aa w7) (s:=⟨Ue.a,n - (iN+1),Ue.cap⟩) (by rw[<- e7];exact rs7.aj) a15 (by simp only;omega) hT (uw (by rw[acN (by omega)];simp only[List.length_append,List.length_drop];omega)) cT
   refine gf (w:=aa w7) (n:=n - (iN+1)) (xs:=T) a14 r7.aj (by rw[l14,l15];omega) acO (by rw[a_];simp only[List.length_append];omega) fun w8 h8=>⟨trivial,?_⟩
   have e8:setL (setL (A++(M++(T++rest))) zE Vc) SS T=(A++(Vc++T))++(M++(T++rest)).drop (Vc.length+T.length):=by
    rw[e7b,ZK (by omega),show((iN:Int)+(vv.len:Int)).toNat * 9=A.length+Vc.length by omega,HL hX];simp only[List.append_assoc]
   rw[e8]at h8;have r8:=r7.PH h8 (by rw[<- e8,a_,a_])
   have rs8:cE w8.heap s b ((A++(Vc++T))++(M++(T++rest)).drop (Vc.length+T.length)):=⟨r.a,r8.aj,r8.len,r.le⟩
   refine cE.cut rs8 (by omega) (by omega) (by omega) rfl fun s16 Ge l16 c16 a16 ZL ZM=>?_
   obtain⟨aff,ZN,acP⟩:=s16;simp only at a16 l16 ZL ZM;subst a16;obtain⟨w9,zs,Ba,ZC,hw9⟩:=rQ (b:=b) (off:=Ge) (n:=ZN) (c:=acP) rs8.aj (by simp only[List.length_append,List.length_drop];omega);have x9:Ext (fun q=>s.aj=some q) w w9:=(((h7.ext.ar).trans h8.ext.ar fun _ _ h=>h).trans hw9.ext fun _ _ h=>h).mono fun q _ h=>sX h
   refine⟨w9,Ba,fin x9 ?_ (.inl (by rw[zR];rfl))⟩
   have e9:∃R,setL ((A++(Vc++T))++(M++(T++rest)).drop (Vc.length+T.length)) Ge zs=(A++(Vc++T))++R:=by
    rcases Nat.eq_zero_or_pos ZN with h | h
    .have:zs=[]:=List.eq_nil_of_length_eq_zero (by omega);subst this;exact⟨_,rfl⟩
    .rw[ZM (by omega),show((iN+m+(n - (iN+1)):Nat):Int).toNat * 9=(A++(Vc++T)).length+0 by simp only[List.length_append];omega,bT];exact⟨_,rfl⟩
   obtain⟨R,e9⟩:=e9;have hlR:=congrArg List.length e9;rw[a_]at hlR;rw[e9]at hw9;exact(r8.PH hw9 hlR.symm).own (by simp only[List.length_append];omega) VZ
  .have hV0:Vc≠[]:=by intro h;rw[h]at XQ;simp at XQ;omega
   obtain⟨bv,ZF,rv⟩:=acK.HK hV0;have RA:b≠bv:=fun e=>ZJ bv (by simp[Sl.aj,rv.a]) (by rw[zR,e])
   refine Ar.i64 (by omega) (cE.cut RE (by omega) (by simp only;omega) (by simp only;omega) rfl fun s17 KS l17 c17 a17 aeL afg=>?_);refine⟨false,aa w,rR (w:=aa w) a17 rv.a r.aj rv.aj RA (by simp only[List.length_append];omega),If.not (If.no ?_)⟩;refine⟨fun _=>True,trivial,Ar.i64 (by omega) (cE.cut (w:=aa (aa w)) RE (by omega) (by simp only;omega) (by simp only;omega) rfl fun s18 o18 l18 c18 a18 aeM ZO=>cE.cut (w:=aa (aa w)) rT (by omega) (by omega) (by omega) rfl fun VR ZP l19 c19 a19 aeN acQ=>?_)⟩;simp only at l18 ZO;have acR:Rd (aa (aa w)).heap ⟨VR.a,n - (iN+1),VR.cap⟩ 9 T:=uv (w:=aa (aa w)) (s:=⟨VR.a,n - (iN+1),VR.cap⟩) rT.aj a19 (by simp only;omega) hT (uw (by rw[acQ (by omega)];simp only[List.length_append];omega)) cT
   refine gf (w:=aa (aa w)) (n:=n - (iN+1)) (xs:=T) a18 r.aj (by rw[l18,l19];omega) acR (by simp only[List.length_append];omega) fun di CH=>⟨trivial,?_⟩
   have V1:=cE.PH (w:=aa (aa w)) RE CH (a_ _ _ _);refine cE.cut V1 (by omega) (by simp only;omega) (by simp only;omega) rfl fun s20 XS l20 c20 a20 aeO ZQ=>?_
   simp only at l20 ZQ;have ZR:Rd di.heap vv 9 Vc:=Rd.ext (w:=aa (aa w)) Ug CH.ext fun a q ha hq h=>by have:=ZJ q (by simp[Sl.aj,ha,hq]);rw[zR,h]at this;exact this rfl
   refine gf (n:=m) (xs:=Vc) a20 V1.aj (by rw[l20,vl];omega) (ZR.pre vl.symm) (by rw[a_];simp only[List.length_append];omega) fun eN PJ=>?_
   have e12:setL (setL (A++(M++(T++rest))) o18 T) XS Vc=(A++(Vc++T))++(M++(T++rest)).drop (Vc.length+T.length):=by
    have f18:o18=A.length+Vc.length:=by rw[ZO (by omega)];omega
    have f20:XS=A.length+0:=by rw[ZQ (by omega)];omega
    rw[f18,f20,KR hX];simp only[List.append_assoc]
   rw[e12]at PJ;have fJ:Ext (fun q=>s.aj=some q) w eN:=(((CH.ext.ar).ar).trans PJ.ext fun _ _ h=>h).mono fun q _ h=>sX h
   refine fin fJ ((V1.PH PJ (by rw[<- e12,a_])).own (by simp only[List.length_append];omega) VZ) (.inl (by rw[zR];rfl))
end
end Go.Proofs.YtpjbalhhlaofmaaGreat
