/- Texts for LRollPlays, part 14. -/
import Derived.Lib.Overlaps
import Derived.Test.YtpjbalhhlaofmaaGreatQy13
set_option maxRecDepth 100000
namespace Go.V
structure cN(h:Array Obj)(s:Sl)(b:Nat)(row:List Value):Prop where
 a:s.a=some ⟨b,0,none⟩
 aq:h[b]? = some (.cells row.toArray 151 (0,0))
 len:row.length=s.cap * 9
 le:s.len<=s.cap
section
variable {w:Wd} {s:Sl} {b:Nat} {row:List Value}
theorem cN.cut{lo hi mx:Int}{K:Sl->Prop}(r:cN w.heap s b row)(h0:0<=lo)(h1:lo<=hi)(h2:hi<=mx)(h3:mx=s.cap)(k:∀s' off,s'.len=(hi - lo).toNat->s'.len<=s'.cap->s'.a=some ⟨b,off,none⟩->off<=lo.toNat * 9->(lo < hi->off=lo.toNat * 9)->K s'):Cut s lo hi mx 9 K:=by
 refine Cut.mk h0 h1 h2 (by omega) ?_;unfold mP;split
 .exact k _ 0 rfl (by simp only;omega) r.a (by omega) (fun h=>by omega)
 .rw[r.a];refine k _ (lo.toNat * 9) rfl (by simp only;omega) ?_ (Nat.le_refl _) fun _=>rfl
  simp[ay]
theorem cN.Mu{hi mx:Int}{K:Sl->Prop}(r:cN w.heap s b row)(h1:0<=hi)(h2:hi<=mx)(h3:mx=s.cap)(k:K ⟨some ⟨b,0,none⟩,hi.toNat,s.cap⟩):Cut s 0 hi mx 9 K:=by
 refine Cut.mk (Int.le_refl _) h1 h2 (by omega) ?_
 have e1:mP s.a mx.toNat (Int.toNat 0) 9=some ⟨b,0,none⟩:=by
  unfold mP;split
  .exact r.a
  .rw[r.a];simp[ay]
 rw[e1,show(hi - 0).toNat=hi.toNat by omega,show(mx - 0).toNat=s.cap by omega];exact k
theorem cN.sub{n:Nat}(r:cN w.heap s b row)(h:n<=s.cap):cN w.heap ⟨some ⟨b,0,none⟩,n,s.cap⟩ b row:=⟨rfl,r.aq,r.len,h⟩
theorem v_{off:Nat}{xs:List Value}(hb:w.heap[b]? = some (.cells row.toArray 151 (0,0)))(ha:s.a=some ⟨b,off,none⟩)(jT:s.len<=s.cap)(hl:xs.length=s.len * 9)(hx:∀i (h:i < xs.length),row[off+i]? = some xs[i])(XM:∀v∈xs,aN v=true):Rd w.heap s 9 xs:=by
 refine⟨hl,jT,fun _=>⟨b,off,ha,fun i hi=>?_⟩,XM⟩;unfold bq;rw[hb];simpa using hx i hi
theorem NJ{P:Program}{t e:TypeId}{ie:TypeInfo}{n:Nat}{x:Value}{xs:List Value}{K:Sl->Pw}(ht:P.underlying t=some (.slice e))(hi:P.info? e=some ie)(jw:ie.size=9)
  (r:cN w.heap s b row) (src:Src P w x 9 n xs) (jh:s.len+n<=s.cap) (hk:∀w',gI w b (.cells (setL row (s.len * 9) xs).toArray 151 (0,0)) w'->K ⟨s.a,s.len+n,s.cap⟩ w'):bz P t t s x K w:=by
 have cL:s.len * 9+xs.length<=row.length:=by rw[src.len,r.len];omega
 have tz:=oE (P:=P) (b:=b) (T:=151) (fz:=(0,0)) xs w row.toArray (s.len * 9) 0 r.aq (by simpa using cL) (.inr (.inr (Nat.le_refl _))) src.cells;have ha:=r.a;refine⟨⟨s.a,s.len+n,s.cap⟩,World.cQ w b (.cells (setL row (s.len * 9) xs).toArray 151 (0,0)),fun ty=>?_,hk _ rfl⟩;obtain⟨sa,sl,sc⟩:=s;simp only at ha jh;subst ha;have h0:=src.num;have h1:=src.get w rfl;have ea:(⟨b,0,none⟩ : Addr).add (sl * 9)=⟨b,sl * 9,none⟩:=by rw[ay rfl];simp
 simp only[Nat.add_zero]at tz;simp[Builtin.append_,aD ht,bK hi,jw,h0,h1,jh,ea,tz]
theorem O_{P:Program}{t e:TypeId}{ie:TypeInfo}{z:Value}{off n c:Nat}(ht:P.underlying t=some (.slice e))(hi:P.info? e=some ie)(hz:ie.zero=some z)(MW:z.cells.size=9)(Ol:∀v∈z.cells,aN v=true)(hb:w.heap[b]? = some (.cells row.toArray 151 (0,0)))(hle:off+n * 9<=row.length) :
  ∃w' zs,(Builtin.clear_ #[t] 0 #[.slice (some ⟨b,off,none⟩) n c]).run P w = .ok (.tuple #[]) w'/\zs.length=n * 9/\gI w b (.cells (setL row off zs).toArray 151 (0,0)) w':=by
 rcases Nat.eq_zero_or_pos n with h | h
 .subst h;refine⟨w,[],?_,by simp,?_⟩
  .simp[Builtin.clear_,aD ht]
  .unfold gI World.cQ setL
   have e2:w.heap.setIfInBounds b (.cells row.toArray 151 (0,0))=w.heap:=by
    apply Array.ext_getElem?;intro i;rw[Array.getElem?_setIfInBounds];split
    .rename_i h;subst h;split
     .exact hb.symm
     .rename_i h2;rw[Array.getElem?_eq_none (by omega)]at hb;cases hb
    .rfl
   rw[e2]
 .have hzl:(Builtin.zeroCells z.cells n).toList.length=n * 9:=by simp[jR,MW]
  have tz:=oE (P:=P) (b:=b) (T:=151) (fz:=(0,0)) (Builtin.zeroCells z.cells n).toList w row.toArray off 0 hb (by simp only[hzl];simpa using hle) (.inr (.inr (Nat.le_refl _))) (fun v hv=>by
   simp only[Builtin.zeroCells,Array.toList_map,List.mem_map]at hv;obtain⟨i,qp,rfl⟩:=hv;have:i % z.cells.size < z.cells.size:=Nat.mod_lt _ (by omega);refine Ol _ ?_
   simp[this])
  refine⟨World.cQ w b (.cells (setL row off (Builtin.zeroCells z.cells n).toList).toArray 151 (0,0)),_,?_,hzl,rfl⟩
  obtain⟨m,rfl⟩ : ∃m,n=m+1:=⟨n - 1,by omega⟩
  simp only[Nat.add_zero]at tz;simp[Builtin.clear_,aD ht,fp hi hz,tz]
theorem C_{zc:Array Value}{n:Nat}(hs:0 < zc.size)(hz:∀v∈zc,aN v=true):∀v∈(Builtin.zeroCells zc n).toList,aN v=true:=fun v hv=>by
 simp only[Builtin.zeroCells,Array.toList_map,List.mem_map]at hv;obtain⟨i,qp,rfl⟩:=hv;have:i % zc.size < zc.size:=Nat.mod_lt _ hs;refine hz _ ?_;simp[this]
theorem Kc{P:Program}{t t' e:TypeId}{ie:TypeInfo}{z:Value}{n:Nat}{cs:List Value}{K:Sl->Pw}(ht:P.underlying t=some (.slice e))(Il:P.underlying t'=some (.int .i64))(hi:P.info? e=some ie)(hz:ie.zero=some z)(jw:ie.size=9)(MW:z.cells.size=9)(Ol:∀v∈z.cells,aN v=true)(Tp:ie.bytes=104)(he:e=151)
  (rd:Rd w.heap s 9 cs) (jh:s.cap < s.len+n) (hb:s.len+n<=1099511627776) (hk:∀s' w' zs,cN w'.heap s' w.heap.size (cs++zs)->s'.len=s.len+n->(∀v∈zs,aN v=true)->Ext No w w'->K s' w'):bz P t t' s (.int .i64 n) K w:=by
 have hwr:IntKind.i64.wrap (n:Int)=n:=IntWalk.i64_in _ ⟨by omega,by omega⟩;have xh:=growslice_fits (bytes:=ie.bytes) jh (by rw[Tp];omega);have zI:=grownCap_ge (w:=w) (need:=s.len+n) (old:=s.cap) (e:=e);have hold:=(rd.src (P:=P)).get (aa w) rfl;have T5:0 < n:=by have:=rd.cap;omega
 have yR:¬ ((n:Int) < 0):=by omega
 refine⟨⟨some ⟨w.heap.size,0,none⟩,s.len+n,grownCap w (s.len+n) s.cap e⟩,World.cD (aa w) (.cells (cs++((Builtin.zeroCells z.cells n).toList++(Builtin.zeroCells z.cells (grownCap w (s.len+n) s.cap e - (s.len+n))).toList)).toArray e),fun ty=>?_,hk _ _ ((Builtin.zeroCells z.cells n).toList++(Builtin.zeroCells z.cells (grownCap w (s.len+n) s.cap e - (s.len+n))).toList) ⟨rfl,?_,?_,zI⟩ rfl (fun v hv=>?_) ?_⟩
 .obtain⟨sa,sl,sc⟩:=s;simp only at jh xh hold zI hb;have ZN:¬ (sl+n<=sc):=by omega
  have Gv:¬ (Builtin.nextslicecap (sl+n) sc * 104 > 281474976710656):=by rw[Tp]at xh;omega
  have QU:¬ (9223372036854775807 < (sl:Int)+(n:Int)):=by omega
  have VH:¬ (281474976710656 < (n:Int) * 104):=by omega
  simp[yR,VH,QU,-run_choose,Builtin.append_,aD ht,aD Il,bK hi,jw,asInt,asIntOf,hwr,ZN,iF hi,Tp,Gv,jQ,hold,fp hi hz,eY]
  have ea:cs.toArray++(Builtin.zeroCells z.cells n++Builtin.zeroCells z.cells (grownCap w (sl+n) sc e - (sl+n)))=(cs++((Builtin.zeroCells z.cells n).toList++(Builtin.zeroCells z.cells (grownCap w (sl+n) sc e - (sl+n))).toList)).toArray:=by
   apply Array.toList_inj.1;simp
  rw[if_neg (by omega),ea];rfl
 .subst he;unfold World.cD aa;simp only[Array.getElem?_push,if_true]
 .have hc:cs.length=s.len * 9:=rd.len;simp only[List.length_append,Array.length_toList,jR,MW,hc];omega
 .rcases List.mem_append.1 hv with h | h <;> exact C_ (by omega) Ol v h
 .refine⟨rfl,rfl,rfl,by simp[World.cD,aa],fun i hi _=>?_⟩;simp only[World.cD,aa];exact hH _ _ _ hi
theorem kQ.re{B:Nat->Prop}{w':Wd}{s':Sl}{L L':List (aL×aH)}(o:kQ w.heap B s L)(x:Ext (fun b=>s.aq=some b) w w')(o':aT w'.heap 0 151 9 s' (L'.flatMap aS))(hb:s'.aq=s.aq∨∃b,s'.aq=some b/\w.heap.size<=b/\B b)
  (hL:∀p∈L',p∈L∨(mG w'.heap p.1 p.2/\∀b,(p.1.k.aq=some b∨p.1.v.aq=some b)->B b/\b < w.heap.size/\s.aq≠some b)):kQ w'.heap B s' L':=by
 have key:∀b,B b/\b < w.heap.size/\s.aq≠some b->B b/\b < w'.heap.size/\s'.aq≠some b:=fun b h=>⟨h.1,Nat.lt_of_lt_of_le h.2.1 x.size,fun e=>by
  rcases hb with h' | ⟨c,h',hc,_⟩
  .exact h.2.2 (h' ▸ e)
  .rw[h']at e;cases e;omega⟩
 refine⟨o',fun p hp=>?_,fun p hp b hbk=>?_,fun b Nb=>?_⟩
 .rcases hL p hp with h | h
  .exact(o.iw p h).ext x (fun b hb h2=>(o.kb p h b (.inl hb)).2.2 h2) (fun b hb h2=>(o.kb p h b (.inr hb)).2.2 h2)
  .exact h.1
 .rcases hL p hp with h | h
  .exact key b (o.kb p h b hbk)
  .exact key b (h.2 b hbk)
 .rcases hb with h' | ⟨c,h',_,hc⟩
  .exact o.sb b (h' ▸ Nb)
  .rw[h']at Nb;cases Nb;exact hc
theorem cN.own{w':Wd}{cs rest:List Value}(r:cN w'.heap s b (cs++rest))(hl:cs.length=s.len * 9)(hc:∀v∈cs,aN v=true):aT w'.heap 0 151 9 s cs:=⟨hl,.inr ⟨b,rest,r.a,Nat.zero_le _,r.aq,r.len,r.le⟩,hc⟩
theorem cN.RX{w':Wd}{XN:List Value}(r:cN w.heap s b row)(h:gI w b (.cells XN.toArray 151 (0,0)) w')(hl:XN.length=row.length):cN w'.heap s b XN:=⟨r.a,h.get r.aq,by rw[hl];exact r.len,r.le⟩
theorem aT.Kd{cs:List Value}(o:aT w.heap 0 151 9 s cs)(bC:cs≠[]):∃b rest,cN w.heap s b (cs++rest):=by
 obtain⟨b,rest,ha,_,hb,hl,hc⟩:=o.place bC;exact⟨b,rest,ha,hb,hl,hc⟩
theorem Ag{L:List (aL×aH)}:∀v∈L.flatMap aS,aN v=true:=fun v hv=>by
 obtain⟨x,_,hx⟩:=List.mem_flatMap.1 hv;unfold aS aL.cs at hx;simp only[List.mem_cons,List.not_mem_nil,or_false]at hx;rcases hx with h | h | h | h | h | h | h | h | h <;> subst h <;> rfl
theorem mO(L:List (aL×aH)):(L.flatMap aS).length=L.length * 9:=aK (bX L)
theorem we{pre xs suf:List Value}{off:Nat}(h:off=pre.length):∀i (h:i < xs.length),(pre++(xs++suf))[off+i]? = some xs[i]:=fun i hi=>by
 subst h;rw[List.getElem?_append_right (by omega),Nat.add_sub_cancel_left,List.getElem?_append_left hi,List.getElem?_eq_getElem hi]
end
end Go.V
namespace Go.Proofs.YtpjbalhhlaofmaaGreat
open Go.V
section
variable {w:Wd}
theorem tQ{b off n c:Nat}{row:List Value}(hb:w.heap[b]? = some (.cells row.toArray 151 (0,0)))(hle:off+n * 9<=row.length):∃w' zs,(Builtin.clear_ #[140] 0 #[.slice (some ⟨b,off,none⟩) n c]).run pz w = .ok (.tuple #[]) w'/\zs.length=n * 9/\gI w b (.cells (setL row off zs).toArray 151 (0,0)) w' :=
 O_ (e:=151) (ie:=Tryz.t151) (z:=Tryz.t151.zero.getD .nilFunc) (by kernel_rfl) (by kernel_rfl) (by kernel_rfl) (by kernel_rfl) (by decide +kernel) hb hle
theorem Ah{B:Nat->Prop}{s:Sl}{L:List (aL×aH)}{i:Int}{K:Sl->Pw}(nd:kQ w.heap B s L)(h0:0<=i)(hi:i.toNat < L.length)(hl:L.length<=65536)
  (k:∀s' w',kQ w'.heap B s' (L.take i.toNat++L.drop (i.toNat+1))->s'.aq=s.aq->Ext (fun b=>s.aq=some b) w w'->K s' w'):aB s i (i+1) w K:=by
 apply iJ;have nl:=nd.nd.len;have bC:L.flatMap aS≠[]:=by intro e;have:=mO L;rw[e]at this;simp at this;omega
 obtain⟨b,rest,r⟩:=nd.own.Kd bC
 have eL:L.flatMap aS=(L.take i.toNat).flatMap aS++(([L[i.toNat]].flatMap aS)++(L.drop (i.toNat+1)).flatMap aS):=by
  have:L=L.take i.toNat++(L[i.toNat]::L.drop (i.toNat+1)):=by rw[<- List.drop_eq_getElem_cons hi,List.take_append_drop]
  conv=>lhs;rw[this]
  rw[List.flatMap_append,List.flatMap_cons];simp
 have hA:((L.take i.toNat).flatMap aS).length=i.toNat * 9:=by rw[mO,List.length_take];omega
 have hM:([L[i.toNat]].flatMap aS).length=9:=by rw[mO];simp
 have hT:((L.drop (i.toNat+1)).flatMap aS).length=(L.length - (i.toNat+1)) * 9:=by rw[mO,List.length_drop]
 have cA:=Ag (L:=L.take i.toNat);have cT:=Ag (L:=L.drop (i.toNat+1));have OA:=nd.own;rw[eL]at r;generalize hAe:(L.take i.toNat).flatMap aS=A at *;generalize hMe:[L[i.toNat]].flatMap aS=Mc at *;generalize hTe:(L.drop (i.toNat+1)).flatMap aS=T at *;have EA:=r.len;have jT:=r.le;have JR:=nd.own.len;rw[eL]at JR;simp only[List.length_append]at EA JR;refine Cut.mk h0 (by omega) (by omega) (by omega) (If.beq (fun h=>by omega) fun _=>⟨fun _=>True,trivial,cN.Mu (w:=aa w) r h0 (by omega) rfl (cN.cut (w:=aa w) r (by omega) (by omega) (by omega) rfl fun s3 o3 l3 c3 a3 agp o3e=>?_)⟩);have r2:cN (aa w).heap ⟨some ⟨b,0,none⟩,i.toNat,s.cap⟩ b (A++(Mc++T)++rest):=cN.sub (w:=aa w) r (by omega)
 have hs3:Rd (aa w).heap s3 9 T:=by
  rcases Nat.eq_zero_or_pos T.length with h | h
  .have:T=[]:=List.eq_nil_of_length_eq_zero h;subst this;exact⟨by simp;omega,c3,fun h=>(h rfl).elim,by simp⟩
  .refine v_ (w:=aa w) (row:=(A++Mc)++(T++rest)) (by rw[show(A++Mc)++(T++rest)=A++(Mc++T)++rest by simp];exact r.aq) a3 c3 (by omega) (we ?_) cT;rw[o3e (by omega),List.length_append];omega
 refine NJ (e:=151) (ie:=Tryz.t151) (by kernel_rfl) (by kernel_rfl) (by kernel_rfl) r2 hs3.src (by simp only;omega) fun w1 h1=>⟨trivial,?_⟩
 have e1:setL (A++(Mc++T)++rest) (i.toNat * 9) T=A++T++((Mc++(T++rest)).drop T.length):=by
  rw[show A++(Mc++T)++rest=A++(Mc++(T++rest)) by simp,show i.toNat * 9=A.length+0 by omega,b_,dY _ _ _ (by simp;omega)];simp
 simp only at h1;rw[e1]at h1
 have r1:cN w1.heap ⟨some ⟨b,0,none⟩,i.toNat+s3.len,s.cap⟩ b (A++T++((Mc++(T++rest)).drop T.length)):=⟨rfl,h1.get r2.aq,by simp only[List.length_append,List.length_drop];omega,by simp only;omega⟩
 refine cN.cut r1 (by simp only;omega) (by simp only;omega) (by simp only;omega) rfl fun s5 o5 l5 c5 a5 aa0 o5e=>?_
 obtain⟨s5a,s5l,s5c⟩:=s5;simp only at a5 l5 aa0 o5e;subst a5;obtain⟨w2,zs,vJ,hzl,Qr⟩:=tQ (b:=b) (off:=o5) (n:=s5l) (c:=s5c) r1.aq (by simp only[List.length_append,List.length_drop];omega);refine⟨w2,vJ,k _ w2 ?_ (by simp[Sl.aq,r.a]) ?_⟩
 .refine nd.re ?_ ?_ (.inl (by simp[Sl.aq,r.a])) fun p hp=> .inl ?_
  .exact((h1.ext.aj).trans Qr.ext fun q _ h=>h).mono fun q _ h=>by subst h;simp[Sl.aq,r.a]
  .have e2:setL (A++T++((Mc++(T++rest)).drop T.length)) o5 zs=A++T++setL ((Mc++(T++rest)).drop T.length) 0 zs:=by
    rw[o5e (by omega),show((i.toNat+s3.len:Nat):Int).toNat * 9=(A++T).length+0 by simp only[List.length_append];omega,b_]
   rw[e2]at Qr;have r3:=r1.RX Qr (by simp only[List.length_append,aZ]);rw[List.flatMap_append,hAe,hTe];exact r3.own (by simp only[List.length_append];omega) fun v hv=>(List.mem_append.1 hv).elim (cA v) (cT v)
  .rcases List.mem_append.1 hp with h | h
   .exact List.mem_of_mem_take h
   .exact List.mem_of_mem_drop h
 .exact((h1.ext.aj).trans Qr.ext fun q _ h=>h).mono fun q _ h=>by subst h;simp[Sl.aq,r.a]
end
end Go.Proofs.YtpjbalhhlaofmaaGreat
namespace Go.V
theorem RY{P:Program}{t t' e:TypeId}{ie:TypeInfo}{w:Wd}{d x:Sl}{b off n:Nat}{row xs:List Value}{K:Int->Pw}
  (ht:P.underlying t=some (.slice e)) (hi:P.info? e=some ie) (jw:ie.size=9) (hd:d.a=some ⟨b,off,none⟩) (hb:w.heap[b]? = some (.cells row.toArray 151 (0,0))) (hn:min x.len d.len=n) (hx:Rd w.heap ⟨x.a,n,x.cap⟩ 9 xs)
  (hle:off+n * 9<=row.length) (hk:∀w',gI w b (.cells (setL row off xs).toArray 151 (0,0)) w'->K (n:Nat) w'):eA P t t' d x.v K w:=by
 subst hn;refine⟨_,_,fun ty=>?_,hk _ rfl⟩;have h1:=uQ (P:=P) hx (k:=min x.len d.len) (Nat.le_refl _);rw[List.take_of_length_le (by rw[hx.len];exact Nat.le_refl _)]at h1;have tz:=oE (P:=P) (b:=b) (T:=151) (fz:=(0,0)) xs w row.toArray off 0 hb (by have:=hx.len;simp only at this;simp only[List.size_toArray];omega) (.inr (.inr (Nat.le_refl _))) (fun v hv=>hx.cells v hv);obtain⟨da,dl,dc⟩:=d;obtain⟨xa,xl,xc⟩:=x;simp only at hd;subst hd;simp only[Nat.add_zero]at tz;simp only at h1 tz
 have h2:(Builtin.firstCells 9 (xl.min dl) (Sl.v ⟨xa,xl,xc⟩)).run P w = .ok xs.toArray w:=by
  rw[<- h1];cases xa <;> rfl
 simp[Builtin.copy_,aD ht,Builtin.lenOf,bK hi,jw,h2,tz,goInt]
theorem NK{A X V T:List Value}(h:V.length+T.length<=X.length):setL (setL (A++X) (A.length+V.length) T) (A.length+0) V=A++(V++(T++X.drop (V.length+T.length))):=by
 rw[b_,b_,dY T X V.length (by omega),dY _ _ _ (by simp;omega)];simp[List.length_take,Nat.min_eq_left (by omega:V.length<=X.length)]
theorem Ke{A X V T:List Value}(h:V.length+T.length<=X.length):setL (setL (A++X) (A.length+0) V) (A.length+V.length) T=A++(V++(T++X.drop (V.length+T.length))):=by
 rw[b_,b_,dY V X 0 (by omega)];simp only[List.take_zero,List.nil_append,Nat.zero_add];rw[show V.length=V.length+0 by omega,b_,dY _ _ _ (by simp;omega)];simp
end Go.V
namespace Go.Proofs.YtpjbalhhlaofmaaGreat
open Go.V
section
variable {w:Wd}
theorem gP{d x:Sl}{b off n:Nat}{row xs:List Value}{K:Int->Pw}(hd:d.a=some ⟨b,off,none⟩)(hb:w.heap[b]? = some (.cells row.toArray 151 (0,0)))(hn:min x.len d.len=n)(hx:Rd w.heap ⟨x.a,n,x.cap⟩ 9 xs)
  (hle:off+n * 9<=row.length) (hk:∀w',gI w b (.cells (setL row off xs).toArray 151 (0,0)) w'->K (n:Nat) w'):eA pz 140 140 d (.slice x.a x.len x.cap) K w:=
 RY (x:=x) (e:=151) (ie:=Tryz.t151) (by kernel_rfl) (by kernel_rfl) (by kernel_rfl) hd hb hn hx hle hk
theorem _root_.Go.V.Rd.pre{h:Array Obj}{s:Sl}{sz n:Nat}{cs:List Value}(r:Rd h s sz cs)(hn:n=s.len):Rd h ⟨s.a,n,s.cap⟩ sz cs:=by subst hn;exact r
set_option maxHeartbeats 1000000 in
theorem Ai{s s4 vv:Sl}{b b4 m t:Nat}{i jj:Int}{A zs P T rest Vc:List Value}{K:Sl->Pw}(r4:cN w.heap s4 b4 (A++zs))(h4:s4.len=i.toNat+m+t)(hA:A.length=i.toNat * 9)(hi:0<=i)(VI:i<=1099511627776)(hmb:m<=1099511627776)
  (r:cN w.heap s b (P++(T++rest))) (hj:0<=jj) (hP:P.length=jj.toNat * 9) (hs:s.len=jj.toNat+t) (hT:T.length=t * 9) (cT:∀v∈T,aN v=true) (bC:b≠b4) (hv:Rd w.heap vv 9 Vc) (Qh:vv.len=m)
  (k:∀w' zs',cN w'.heap s4 b4 (A++(Vc++(T++zs')))->Ext (·=b4) w w'->K s4 w') :
  Cut s4 i (((s4.len:Nat):Int)) (((s4.cap:Nat):Int)) 9 fun s5=>eA pz 140 140 s5 (.slice vv.a vv.len vv.cap) (fun _z_3 w3=>∃S:Pw,S (aa w3)/\Ar .i64 (i+((vv.len:Int))) fun Us=>
   Cut s4 Us (((s4.len:Nat):Int)) (((s4.cap:Nat):Int)) 9 fun s_6=>Cut s jj (((s.len:Nat):Int)) (((s.cap:Nat):Int)) 9 fun s_7=>eA pz 140 140 s_6 (.slice s_7.a s_7.len s_7.cap) (fun _z_5 w4=>S w4/\K s4 w4) (aa w3)) w:=by
 have hle:=r.le;have ags:=r4.le;have ZO:Vc.length=m * 9:=by rw[hv.len,Qh]
 have hz:=r4.len;simp only[List.length_append]at hz;refine cN.cut r4 hi (by omega) (by omega) rfl fun s5 o5 l5 c5 a5 aa0 o5e=>?_
 refine gP (n:=m) (xs:=Vc) a5 r4.aq (by rw[l5,Qh];omega) (hv.pre Qh.symm) (by simp only[List.length_append];omega) fun w3 h3=>⟨fun _=>True,trivial,Ar.i64 (by omega) ?_⟩
 have adK:=r4.RX h3 (aZ _ _ _);have r43:cN (aa w3).heap s4 b4 (setL (A++zs) o5 Vc):=adK
 have r3:cN (aa w3).heap s b (P++(T++rest)):=⟨r.a,by show w3.heap[b]? = _;rw[h3.other bC];exact r.aq,r.len,r.le⟩
 refine cN.cut r43 (by omega) (by omega) (by omega) rfl fun s6 o6 l6 c6 a6 agt o6e=>cN.cut r3 hj (by omega) (by omega) rfl fun s7 o7 l7 c7 a7 agu o7e=>?_
 have hs7:Rd (aa w3).heap ⟨s7.a,t,s7.cap⟩ 9 T:=by
  rcases Nat.eq_zero_or_pos t with h | h
  .have:T=[]:=List.eq_nil_of_length_eq_zero (by omega);subst this;subst h;exact⟨by simp,by simp,fun h=>(h rfl).elim,by simp⟩
  .exact v_ (s:=⟨s7.a,t,s7.cap⟩) r3.aq a7 (by simp only;omega) hT (we (by rw[o7e (by omega)];omega)) cT
 refine gP (n:=t) (xs:=T) a6 r43.aq (by rw[l6,l7];omega) hs7 (by rw[aZ];simp only[List.length_append];omega) fun w4 h4'=>⟨trivial,?_⟩
 have e0:setL (A++zs) o5 Vc=setL (A++zs) (A.length+0) Vc:=by
  rcases Nat.eq_zero_or_pos (m+t) with h | h
  .have:Vc=[]:=List.eq_nil_of_length_eq_zero (by omega);subst this;rfl
  .rw[o5e (by omega)];congr 1;omega
 have e1:setL (setL (A++zs) o5 Vc) o6 T=A++(Vc++(T++zs.drop (Vc.length+T.length))):=by
  rw[<- Ke (by omega),e0];rcases Nat.eq_zero_or_pos t with h | h
  .have:T=[]:=List.eq_nil_of_length_eq_zero (by omega);subst this;rfl
  .rw[o6e (by omega)];congr 1;omega
 rw[e1]at h4';refine k w4 _ (r43.RX h4' ?_) (h3.ext.trans h4'.ext.aj fun _ _ h=>h);rw[<- e1];exact aZ _ _ _
theorem tR{x y:Sl}{bx ox by_ oy:Nat}{rx ry:List Value}(hx:x.a=some ⟨bx,ox,none⟩)(hy:y.a=some ⟨by_,oy,none⟩)(gx:w.heap[bx]? = some (.cells rx.toArray 151 (0,0)))(gy:w.heap[by_]? = some (.cells ry.toArray 151 (0,0)))(bC:bx≠by_)(hl:ry.length≠0) :
  Sem.run pz (callFunc 167 #[.slice x.a x.len x.cap,.slice y.a y.len y.cap]) w = .ok (.value (.bool false)) w:=by
 rw[run_callFunc_extern (e:=Extern.SlicesOverlaps.overlaps #[140,140] #[4]) Tryz.func167 (by kernel_rfl) (by kernel_rfl) (by kernel_rfl) (by kernel_rfl),hx,hy];rw[Lib.run_overlaps_apart (P:=pz) w 140 4 151 (by kernel_rfl) 9 (fun w=>bK (i:=Tryz.t151) (by kernel_rfl)) ⟨bx,ox,none⟩ ⟨by_,oy,none⟩ x.len x.cap y.len y.cap bC 151 151 rx.length ry.length (by simp[World.shape?,gx]) (by simp[World.shape?,gy]) hl (by simp[World.frozen?,gx]) (by simp[World.frozen?,gx])];rfl
theorem Kf{L:List (aL×aH)}{i j:Nat}(A_:i<=j):L.flatMap aS=(L.take i).flatMap aS++(((L.drop i).take (j - i)).flatMap aS++(L.drop j).flatMap aS):=by
 have:L=L.take i++((L.drop i).take (j - i)++L.drop j):=by
  have e:L.drop j=(L.drop i).drop (j - i):=by rw[List.drop_drop];congr 1;omega
  rw[e,List.take_append_drop,List.take_append_drop]
 conv=>lhs;rw[this]
 rw[List.flatMap_append,List.flatMap_append]
structure Pa(w:Wd)(B:Nat->Prop)(s vv:Sl)(V:List (aL×aH)):Prop where
 own:aT w.heap 0 151 9 vv (V.flatMap aS)
 iw:∀p∈V,mG w.heap p.1 p.2
 kb:∀p∈V,∀b,(p.1.k.aq=some b∨p.1.v.aq=some b)->B b/\b < w.heap.size/\s.aq≠some b
 ne:∀b,vv.aq=some b->s.aq≠some b
theorem Pa.len{B:Nat->Prop}{s vv:Sl}{V:List (aL×aH)}(n:Pa w B s vv V):vv.len=V.length:=by have:=n.own.len;rw[mO]at this;omega
set_option maxHeartbeats 1000000 in
theorem Kg{B:Nat->Prop}{s vv:Sl}{L V:List (aL×aH)}{i:Int}{K:Sl->Pw}(nd:kQ w.heap B s L)(nv:Pa w B s vv V)(hV:V≠[])(h0:0<=i)(hi:i.toNat<=L.length)(hl:L.length<=65536)(Mf:V.length<=65536)(hB:∀q,w.heap.size<=q->B q)
  (k:∀s' w',kQ w'.heap B s' (L.take i.toNat++(V++L.drop i.toNat))->(s'.aq=s.aq∨∃b,s'.aq=some b/\w.heap.size<=b)->Ext (fun b=>s.aq=some b) w w'->K s' w'):bQ s i vv w K:=by
 apply iK;have nl:=nd.nd.len;have vl:=nv.len;have hVp:0 < V.length:=List.length_pos_iff.2 hV;have jT:=nd.own.rd.cap
 have fin:∀{s':Sl}{w':Wd},Ext (fun b=>s.aq=some b) w w'->aT w'.heap 0 151 9 s' ((L.take i.toNat++(V++L.drop i.toNat)).flatMap aS)->(s'.aq=s.aq∨∃b,s'.aq=some b/\w.heap.size<=b)->K s' w':=fun {s' w'} x o hb=>
  k s' w' (nd.re x o (hb.imp id fun⟨b,h1,h2⟩=>⟨b,h1,h2,hB b h2⟩) fun p hp=>by
   rcases List.mem_append.1 hp with h | h
   .exact .inl (List.mem_of_mem_take h)
   .rcases List.mem_append.1 h with h | h
    .exact .inr ⟨(nv.iw p h).ext x (fun b hb h2=>(nv.kb p h b (.inl hb)).2.2 h2) (fun b hb h2=>(nv.kb p h b (.inr hb)).2.2 h2),nv.kb p h⟩
    .exact .inl (List.mem_of_mem_drop h)) hb x
 refine Cut.mk h0 (by omega) (by omega) (by omega) (If.beq (fun h=>by omega) fun _=>If.beq (fun h=>?_) fun h=>?_)
 .have e:i.toNat=L.length:=by omega
  refine gn nd.own (Nat.zero_le _) nv.own.rd.src (by omega) fun s' w' o _ x hb=>fin x ?_ hb
  rw[e,List.take_length,List.drop_length,List.append_nil,List.flatMap_append];exact o
 have bC:L.flatMap aS≠[]:=by intro e;have:=mO L;rw[e]at this;simp at this;omega
 obtain⟨b,rest,r⟩:=nd.own.Kd bC;have eL:L.flatMap aS=(L.take i.toNat).flatMap aS++(L.drop i.toNat).flatMap aS:=by rw[<- List.flatMap_append,List.take_append_drop]
 have DT:s.aq=some b:=by simp[Sl.aq,r.a]
 have hA:((L.take i.toNat).flatMap aS).length=i.toNat * 9:=by rw[mO,List.length_take,Nat.min_eq_left hi]
 have hT:((L.drop i.toNat).flatMap aS).length=(L.length - i.toNat) * 9:=by rw[mO,List.length_drop]
 have ZO:(V.flatMap aS).length=V.length * 9:=mO V;have cA:=Ag (L:=L.take i.toNat);have cT:=Ag (L:=L.drop i.toNat);have cV:=Ag (L:=V);have V5:=nv.own.rd;have ef:(L.take i.toNat++(V++L.drop i.toNat)).flatMap aS=(L.take i.toNat).flatMap aS++(V.flatMap aS++(L.drop i.toNat).flatMap aS):=by rw[List.flatMap_append,List.flatMap_append]
 rw[ef]at fin;rw[eL]at r;have Xf:V.flatMap aS≠[]:=by intro e;rw[e]at ZO;simp at ZO;omega
 obtain⟨bv,aa1,rv⟩:=nv.own.Kd Xf;have ON:bv≠b:=fun e=>nv.ne bv (by simp[Sl.aq,rv.a]) (by rw[DT,e])
 generalize(L.take i.toNat).flatMap aS=A at *;generalize(L.drop i.toNat).flatMap aS=T at *;generalize V.flatMap aS=Vc at *;have EA:=r.len;simp only[List.length_append]at EA;rw[List.append_assoc]at r;refine Ar.i64 (by omega) (If.dec (fun hg=>?_) fun hg=>?_)
 .refine cN.Mu r h0 (by omega) rfl (Ar.i64 (by omega) (Ar.i64 (by omega) ?_));have r2:cN w.heap ⟨some ⟨b,0,none⟩,i.toNat,s.cap⟩ b (A++(T++rest)):=r.sub (by omega);have rd2:Rd w.heap ⟨some ⟨b,0,none⟩,i.toNat,s.cap⟩ 9 A:=v_ (row:=[]++(A++(T++rest))) r.aq rfl (by simp only;omega) hA (we rfl) cA;rw[show((s.len:Int)+(vv.len:Int) - i)=((L.length+V.length - i.toNat:Nat):Int) by omega];refine Kc (e:=151) (ie:=Tryz.t151) (z:=Tryz.t151.zero.getD .nilFunc) (by kernel_rfl) (by kernel_rfl) (by kernel_rfl) (by kernel_rfl) (by kernel_rfl) (by kernel_rfl) (by decide +kernel) (by kernel_rfl) rfl rd2 (by simp only;omega) (by simp only;omega) fun s4 w2 zs r4 l4 _ x2=>?_
  have rlt:=blt r.aq
  have r2':cN w2.heap s b (A++(T++rest)):=⟨r.a,ad r.aq x2,r.len,r.le⟩
  refine Ai (t:=L.length - i.toNat) (m:=V.length) (P:=A) (T:=T) (rest:=rest) (Vc:=Vc) r4 (by rw[l4];simp only;omega) hA h0 (by omega) (by omega) r2' h0 hA (by omega) hT cT (by omega) (V5.no x2) vl fun w' zs' r' x'=>fin ((x2.aG).trans x' fun q hq h=>by omega) ?_ (.inr ⟨_,by simp[Sl.aq,r'.a],Nat.le_refl _⟩)
  have r'':cN w'.heap s4 w.heap.size ((A++(Vc++T))++zs'):=by simpa using r'
  exact r''.own (by rw[l4];simp only[List.length_append];omega) fun v hv=>by
   rcases List.mem_append.1 hv with h | h
   .exact cA v h
   .exact(List.mem_append.1 h).elim (cV v) (cT v)
 .refine Ar.i64 (by omega) (cN.Mu r (by omega) (by omega) rfl (Ar.i64 (by omega) ?_));have r8:cN w.heap ⟨some ⟨b,0,none⟩,((s.len:Int)+(vv.len:Int)).toNat,s.cap⟩ b (A++(T++rest)):=r.sub (by omega);refine cN.cut r8 (by omega) (by simp only;omega) (by simp only;omega) rfl fun s9 o9 l9 c9 a9 agv o9e=>?_
  refine⟨false,w,tR rv.a a9 rv.aq r.aq ON (by simp only[List.length_append];omega),If.not (If.no ?_)⟩;refine⟨fun _=>True,trivial,Ar.i64 (by omega) (cN.cut (w:=aa w) r8 (by omega) (by simp only;omega) (by simp only;omega) rfl fun OC Qj l10 c10 a10 afS aa2=>cN.cut (w:=aa w) r8 h0 (by simp only;omega) (by simp only;omega) rfl fun Ui Uj l11 c11 a11 afT aa3=>?_)⟩;simp only at l10 l11 aa2 aa3;have adL:Rd (aa w).heap ⟨Ui.a,L.length - i.toNat,Ui.cap⟩ 9 T:=v_ (w:=aa w) (s:=⟨Ui.a,L.length - i.toNat,Ui.cap⟩) r.aq a11 (by simp only;omega) hT (we (by rw[aa3 (by omega)];omega)) cT
  refine gP (w:=aa w) (n:=L.length - i.toNat) (xs:=T) a10 r.aq (by rw[l10,l11];omega) adL (by simp only[List.length_append];omega) fun w6 h6=>⟨trivial,?_⟩
  have r6:=cN.RX (w:=aa w) r8 h6 (aZ _ _ _);refine cN.cut r6 h0 (by simp only;omega) (by simp only;omega) rfl fun s12 VJ l12 c12 a12 afU adM=>?_
  have adN:Rd w6.heap vv 9 Vc:=Rd.ext (w:=aa w) V5 h6.ext fun a q ha hq h=>by have:=nv.ne q (by simp[Sl.aq,ha,hq]);rw[DT,h]at this;exact this rfl
  simp only at l12;refine gP (n:=V.length) (xs:=Vc) a12 r6.aq (by rw[l12,vl];omega) (adN.pre vl.symm) (by rw[aZ];simp only[List.length_append];omega) fun w7 h7=>?_
  have e1:setL (setL (A++(T++rest)) Qj T) VJ Vc=A++(Vc++(T++(T++rest).drop (Vc.length+T.length))):=by
   have e10:Qj=A.length+Vc.length:=by rw[aa2 (by omega)];omega
   have ZP:VJ=A.length+0:=by rw[adM (by simp only;omega)];omega
   rw[e10,ZP];exact NK (by simp only[List.length_append];omega)
  rw[e1]at h7;have r7:=r6.RX h7 (by rw[<- e1,aZ]);have r7':cN w7.heap ⟨some ⟨b,0,none⟩,((s.len:Int)+(vv.len:Int)).toNat,s.cap⟩ b ((A++(Vc++T))++(T++rest).drop (Vc.length+T.length)):=by simpa using r7
  refine fin (((h6.ext.aj).trans h7.ext fun q _ h=>h).mono fun q _ h=>by rw[DT,h]) (r7'.own (by simp only[List.length_append];omega) fun v hv=>?_) (.inl (by rw[DT];rfl));rcases List.mem_append.1 hv with h | h
  .exact cA v h
  .exact(List.mem_append.1 h).elim (cV v) (cT v)
end
section
variable {w:Wd}
set_option maxHeartbeats 2000000 in
theorem HD{B:Nat->Prop}{s vv:Sl}{L V:List (aL×aH)}{i:Int}{K:Sl->Pw}(nd:kQ w.heap B s L)(nv:Pa w B s vv V)(h0:0<=i)(hi:i.toNat < L.length)(hl:L.length<=65536)(Mf:V.length<=65536)(hB:∀q,w.heap.size<=q->B q)
  (k:∀s' w',kQ w'.heap B s' (L.take i.toNat++(V++L.drop (i.toNat+1)))->(s'.aq=s.aq∨∃b,s'.aq=some b/\w.heap.size<=b)->Ext (fun b=>s.aq=some b) w w'->K s' w'):bI s i (i+1) vv w K:=by
 apply im;have nl:=nd.nd.len;have vl:=nv.len;have jT:=nd.own.rd.cap
 have fin:∀{s':Sl}{w':Wd},Ext (fun b=>s.aq=some b) w w'->aT w'.heap 0 151 9 s' ((L.take i.toNat++(V++L.drop (i.toNat+1))).flatMap aS)->(s'.aq=s.aq∨∃b,s'.aq=some b/\w.heap.size<=b)->K s' w':=fun {s' w'} x o hb=>
  k s' w' (nd.re x o (hb.imp id fun⟨b,h1,h2⟩=>⟨b,h1,h2,hB b h2⟩) fun p hp=>by
   rcases List.mem_append.1 hp with h | h
   .exact .inl (List.mem_of_mem_take h)
   .rcases List.mem_append.1 h with h | h
    .exact .inr ⟨(nv.iw p h).ext x (fun b hb h2=>(nv.kb p h b (.inl hb)).2.2 h2) (fun b hb h2=>(nv.kb p h b (.inr hb)).2.2 h2),nv.kb p h⟩
    .exact .inl (List.mem_of_mem_drop h)) hb x
 have bC:L.flatMap aS≠[]:=by intro e;have:=mO L;rw[e]at this;simp at this;omega
 obtain⟨b,rest,r⟩:=nd.own.Kd bC;have eL:=Kf (L:=L) (i:=i.toNat) (j:=i.toNat+1) (by omega);have DT:s.aq=some b:=by simp[Sl.aq,r.a]
 have hA:((L.take i.toNat).flatMap aS).length=i.toNat * 9:=by rw[mO,List.length_take,Nat.min_eq_left (by omega)]
 have hM:(((L.drop i.toNat).take (i.toNat+1 - i.toNat)).flatMap aS).length=9:=by rw[mO,List.length_take,List.length_drop,show i.toNat+1 - i.toNat=1 by omega,Nat.min_eq_left (by omega)]
 have hT:((L.drop (i.toNat+1)).flatMap aS).length=(L.length - (i.toNat+1)) * 9:=by rw[mO,List.length_drop]
 have ZO:(V.flatMap aS).length=V.length * 9:=mO V;have cA:=Ag (L:=L.take i.toNat);have cT:=Ag (L:=L.drop (i.toNat+1));have cV:=Ag (L:=V);have adO:=nv.own;have V5:=nv.own.rd;have aa4:=nv.ne;have ef:(L.take i.toNat++(V++L.drop (i.toNat+1))).flatMap aS=(L.take i.toNat).flatMap aS++(V.flatMap aS++(L.drop (i.toNat+1)).flatMap aS):=by rw[List.flatMap_append,List.flatMap_append]
 rw[ef]at fin;rw[eL]at r;clear nd nv eL ef k bC;generalize(L.take i.toNat).flatMap aS=A at *;generalize((L.drop i.toNat).take (i.toNat+1 - i.toNat)).flatMap aS=M at *;generalize(L.drop (i.toNat+1)).flatMap aS=T at *;generalize V.flatMap aS=Vc at *;generalize hn:L.length=n at *;generalize hm:V.length=m at *;obtain⟨iN,rfl⟩:=Int.eq_ofNat_of_zero_le h0;simp only[Int.toNat_natCast] at *
 have XO:∀v∈A++(Vc++T),aN v=true:=fun v hv=>by
  rcases List.mem_append.1 hv with h | h
  .exact cA v h
  .exact(List.mem_append.1 h).elim (cV v) (cT v)
 have cAV:∀v∈A++Vc,aN v=true:=fun v hv=>(List.mem_append.1 hv).elim (cA v) (cV v)
 have EA:=r.len;simp only[List.length_append]at EA;rw[List.append_assoc,List.append_assoc]at r;have rT:cN w.heap s b ((A++M)++(T++rest)):=by simpa using r
 have sX:∀{q},q=b->s.aq=some q:=fun h=>by rw[DT,h]
 refine Cut.mk h0 (by omega) (by omega) (by omega) (If.beq (fun h=>by omega) fun _=>If.beq (fun h=>?_) fun h=>?_)
 .have hT0:T=[]:=List.eq_nil_of_length_eq_zero (by omega);subst hT0;refine cN.Mu r (by omega) (by omega) rfl ?_;have r2:cN w.heap ⟨some ⟨b,0,none⟩,iN,s.cap⟩ b (A++(M++([]++rest))):=r.sub (by omega);rcases Nat.eq_zero_or_pos m with hm0 | hm0
  .have hV0:Vc=[]:=List.eq_nil_of_length_eq_zero (by omega);subst hV0;refine NJ (e:=151) (ie:=Tryz.t151) (by kernel_rfl) (by kernel_rfl) (by kernel_rfl) r2 V5.src (by simp only;omega) fun w2 h2=>If.dec (fun _=>?_) fun h=>by simp only at h;omega
   have r2':=r.RX h2 (aZ _ _ _);refine cN.cut r2' (by simp only;omega) (by simp only;omega) (by omega) rfl fun s4 o4 l4 c4 a4 adP o4e=>?_
   obtain⟨s4a,s4l,s4c⟩:=s4;simp only at a4 l4 adP o4e;subst a4;obtain⟨w3,zs,vJ,hzl,hw3⟩:=tQ (b:=b) (off:=o4) (n:=s4l) (c:=s4c) r2'.aq (by rw[aZ];simp only[List.length_append,List.length_nil];omega);have e2:o4=A.length+0:=by rw[o4e (by omega)];omega
   have adQ:gI w2 b (.cells (A++setL (M++([]++rest)) 0 zs).toArray 151 (0,0)) w3:=by
    have:=hw3;rw[show setL (A++(M++([]++rest))) ((⟨some ⟨b,0,none⟩,((iN:Nat):Int).toNat,s.cap⟩ : Sl).len * 9) []=A++(M++([]++rest)) from rfl,e2,b_]at this;exact this
   refine⟨w3,vJ,fin ((h2.ext.trans hw3.ext fun _ _ h=>h).mono fun q _ h=>sX h) ?_ (.inl (by rw[DT];rfl))⟩
   have r3:cN w3.heap ⟨some ⟨b,0,none⟩,((iN:Nat):Int).toNat+vv.len,s.cap⟩ b (A++setL (M++([]++rest)) 0 zs):=⟨rfl,adQ.get r2'.aq,by simp only[List.length_append,aZ,List.length_nil];omega,by simp only;omega⟩
   have:=r3.own (by simp only;omega) cA;rw[List.append_nil,List.append_nil];exact this
  .refine gn (r2.own hA cA) (Nat.zero_le _) V5.src (by simp only;omega) fun s3 w2 o3 l3 x3 xB=>If.dec (fun h=>by simp only at l3;omega) fun _=>fin (x3.mono fun q _ h=>?_) ?_ (xB.imp (fun h=>by rw[h,DT];rfl) id)
   .simp[Sl.aq]at h;exact sX h.symm
   .rw[List.append_nil];exact o3
 have rd2:Rd (aa w).heap ⟨some ⟨b,0,none⟩,iN,s.cap⟩ 9 A:=v_ (w:=aa w) (row:=[]++(A++(M++(T++rest)))) r.aq rfl (by simp only;omega) hA (we rfl) cA;refine⟨fun _=>True,trivial,cN.Mu (w:=aa w) r (by omega) (by omega) rfl (Ar.i64 (by dsimp only;omega) (cN.cut (w:=aa w) r (by omega) (by omega) (by omega) rfl fun s6 o6 l6 c6 a6 _ _=>Ar.i64 (by dsimp only;omega) ?_))⟩;have l6':s6.len=n - (iN+1):=by omega
 rw[l6'];clear l6 c6 a6 l6';rw[show(((((iN:Nat):Int).toNat:Nat):Int)+(vv.len:Int)+((n - (iN+1):Nat):Int))=((iN+m+(n - (iN+1)):Nat):Int) by omega];refine If.dec (fun hg=>?_) fun hg=>?_
 .refine cN.Mu (w:=aa w) r (by omega) (by omega) rfl (Ar.i64 (by omega) ?_);rw[show((iN+m+(n - (iN+1)):Nat):Int) - (iN:Int)=((m+(n - (iN+1)):Nat):Int) by omega];refine Kc (w:=aa w) (e:=151) (ie:=Tryz.t151) (z:=Tryz.t151.zero.getD .nilFunc) (by kernel_rfl) (by kernel_rfl) (by kernel_rfl) (by kernel_rfl) (by kernel_rfl) (by kernel_rfl) (by decide +kernel) (by kernel_rfl) rfl rd2 (by simp only;omega) (by simp only;omega) fun s8 w4 zs r8 l8 _ x4=>?_
  simp only at l8;have EB:Ext No w w4:=x4.aj;have rlt:=blt r.aq
  have rT':cN w4.heap s b ((A++M)++(T++rest)):=⟨rT.a,ad rT.aq EB,rT.len,rT.le⟩
  refine Ai (t:=n - (iN+1)) (m:=m) (P:=A++M) (T:=T) (rest:=rest) (Vc:=Vc) r8 (by omega) hA h0 (by omega) (by omega) rT' (by omega) (by simp only[List.length_append];omega) (by omega) hT cT (by show b≠w.heap.size;omega) (V5.no EB) vl fun w' zs' r' x'=>fin ((EB.aG).trans x' fun q hq h=>by have:q=w.heap.size:=h;omega) ?_ (.inr ⟨w.heap.size,by show s8.a.map _=_;rw[r'.a];rfl,Nat.le_refl _⟩)
  have r'':cN w'.heap s8 w.heap.size ((A++(Vc++T))++zs'):=by have:=r';simp only[List.append_assoc]at this ⊢;exact this
  exact r''.own (by rw[l8];simp only[List.length_append];omega) XO
 .refine cN.Mu (w:=aa w) r (by omega) (by omega) rfl (Ar.i64 (by omega) ?_);have V6:cN (aa w).heap ⟨some ⟨b,0,none⟩,((iN+m+(n - (iN+1)):Nat):Int).toNat,s.cap⟩ b (A++(M++(T++rest))):=r.sub (by omega);have agw:cN (aa w).heap ⟨some ⟨b,0,none⟩,((iN+m+(n - (iN+1)):Nat):Int).toNat,s.cap⟩ b ((A++M)++(T++rest)):=rT.sub (by omega);have hX:Vc.length+T.length<=(M++(T++rest)).length:=by simp only[List.length_append];omega
  refine If.dec (fun BQ=>?_) fun BQ=>?_
  .refine cN.cut V6 (by omega) (by simp only;omega) (by simp only;omega) rfl fun s13 Bi l13 c13 a13 afV XP=>?_
   simp only at l13 XP
   refine gP (w:=aa w) (n:=m) (xs:=Vc) a13 V6.aq (by rw[l13,vl];omega) (Rd.pre (h:=(aa w).heap) V5 vl.symm) (by simp only[List.length_append];omega) fun w7 h7=>⟨fun _=>True,trivial,Ar.i64 (by omega) ?_⟩
   have e7:setL (A++(M++(T++rest))) Bi Vc=(A++(Vc++M.drop Vc.length))++(T++rest):=by
    have XQ:Vc=[]∨Bi=A.length+0:=by
     rcases Nat.eq_zero_or_pos m with h | h
     .exact .inl (List.eq_nil_of_length_eq_zero (by omega))
     .exact .inr (by rw[XP (by omega)];omega)
    rcases XQ with h | h
    .subst h;simp[setL]
    .rw[h,b_,dY _ _ _ (by simp only[List.length_append];omega)];simp only[List.take_zero,List.nil_append,Nat.zero_add,List.append_assoc];rw[List.drop_append_of_le_length (by omega)]
   have e7b:setL (A++(M++(T++rest))) Bi Vc=setL (A++(M++(T++rest))) (A.length+0) Vc:=by
    rcases Nat.eq_zero_or_pos m with h | h
    .have:Vc=[]:=List.eq_nil_of_length_eq_zero (by omega);subst this;rfl
    .rw[XP (by omega)];congr 1;omega
   have r7':=V6.RX h7 (aZ _ _ _);have r7:cN (aa w7).heap ⟨some ⟨b,0,none⟩,((iN+m+(n - (iN+1)):Nat):Int).toNat,s.cap⟩ b (setL (A++(M++(T++rest))) Bi Vc):=r7'
   have rs7:cN (aa w7).heap s b (setL (A++(M++(T++rest))) Bi Vc):=⟨r.a,r7.aq,by rw[aZ];exact r.len,r.le⟩
   refine cN.cut r7 (by omega) (by simp only;omega) (by simp only;omega) rfl fun s14 o14 l14 c14 a14 afW aa5=>cN.cut rs7 (by omega) (by omega) (by omega) rfl fun V1 o15 l15 c15 a15 afX adR=>?_
   simp only at l14 aa5;have adS:Rd (aa w7).heap ⟨V1.a,n - (iN+1),V1.cap⟩ 9 T:=v_ (w:=aa w7) (s:=⟨V1.a,n - (iN+1),V1.cap⟩) (by rw[<- e7];exact rs7.aq) a15 (by simp only;omega) hT (we (by rw[adR (by omega)];simp only[List.length_append,List.length_drop];omega)) cT
   refine gP (w:=aa w7) (n:=n - (iN+1)) (xs:=T) a14 r7.aq (by rw[l14,l15];omega) adS (by rw[aZ];simp only[List.length_append];omega) fun w8 h8=>⟨trivial,?_⟩
   have e8:setL (setL (A++(M++(T++rest))) Bi Vc) o14 T=(A++(Vc++T))++(M++(T++rest)).drop (Vc.length+T.length):=by
    rw[e7b,aa5 (by omega),show((iN:Int)+(vv.len:Int)).toNat * 9=A.length+Vc.length by omega,Ke hX];simp only[List.append_assoc]
   rw[e8]at h8;have r8:=r7.RX h8 (by rw[<- e8,aZ,aZ])
   have rs8:cN w8.heap s b ((A++(Vc++T))++(M++(T++rest)).drop (Vc.length+T.length)):=⟨r.a,r8.aq,r8.len,r.le⟩
   refine cN.cut rs8 (by omega) (by omega) (by omega) rfl fun s16 RS l16 c16 a16 aa6 aa7=>?_
   obtain⟨agx,aa8,adT⟩:=s16;simp only at a16 l16 aa6 aa7;subst a16;obtain⟨w9,zs,vJ,hzl,hw9⟩:=tQ (b:=b) (off:=RS) (n:=aa8) (c:=adT) rs8.aq (by simp only[List.length_append,List.length_drop];omega);have x9:Ext (fun q=>s.aq=some q) w w9:=(((h7.ext.aj).trans h8.ext.aj fun _ _ h=>h).trans hw9.ext fun _ _ h=>h).mono fun q _ h=>sX h
   refine⟨w9,vJ,fin x9 ?_ (.inl (by rw[DT];rfl))⟩
   have e9:∃R,setL ((A++(Vc++T))++(M++(T++rest)).drop (Vc.length+T.length)) RS zs=(A++(Vc++T))++R:=by
    rcases Nat.eq_zero_or_pos aa8 with h | h
    .have:zs=[]:=List.eq_nil_of_length_eq_zero (by omega);subst this;exact⟨_,rfl⟩
    .rw[aa7 (by omega),show((iN+m+(n - (iN+1)):Nat):Int).toNat * 9=(A++(Vc++T)).length+0 by simp only[List.length_append];omega,b_];exact⟨_,rfl⟩
   obtain⟨R,e9⟩:=e9;have hlR:=congrArg List.length e9;rw[aZ]at hlR;rw[e9]at hw9;exact(r8.RX hw9 hlR.symm).own (by simp only[List.length_append];omega) XO
  .have hV0:Vc≠[]:=by intro h;rw[h]at ZO;simp at ZO;omega
   obtain⟨bv,aa1,rv⟩:=adO.Kd hV0;have ON:b≠bv:=fun e=>aa4 bv (by simp[Sl.aq,rv.a]) (by rw[DT,e])
   refine Ar.i64 (by omega) (cN.cut V6 (by omega) (by simp only;omega) (by simp only;omega) rfl fun s17 XR l17 c17 a17 afY agy=>?_);refine⟨false,aa w,tR (w:=aa w) a17 rv.a r.aq rv.aq ON (by simp only[List.length_append];omega),If.not (If.no ?_)⟩;refine⟨fun _=>True,trivial,Ar.i64 (by omega) (cN.cut (w:=aa (aa w)) V6 (by omega) (by simp only;omega) (by simp only;omega) rfl fun s18 o18 l18 c18 a18 afZ aa9=>cN.cut (w:=aa (aa w)) rT (by omega) (by omega) (by omega) rfl fun ZJ o19 l19 c19 a19 af0 adU=>?_)⟩;simp only at l18 aa9;have adV:Rd (aa (aa w)).heap ⟨ZJ.a,n - (iN+1),ZJ.cap⟩ 9 T:=v_ (w:=aa (aa w)) (s:=⟨ZJ.a,n - (iN+1),ZJ.cap⟩) rT.aq a19 (by simp only;omega) hT (we (by rw[adU (by omega)];simp only[List.length_append];omega)) cT
   refine gP (w:=aa (aa w)) (n:=n - (iN+1)) (xs:=T) a18 r.aq (by rw[l18,l19];omega) adV (by simp only[List.length_append];omega) fun dg wD=>⟨trivial,?_⟩
   have r11:=cN.RX (w:=aa (aa w)) V6 wD (aZ _ _ _);refine cN.cut r11 (by omega) (by simp only;omega) (by simp only;omega) rfl fun s20 ZQ l20 c20 a20 af1 aba=>?_
   simp only at l20 aba;have abb:Rd dg.heap vv 9 Vc:=Rd.ext (w:=aa (aa w)) V5 wD.ext fun a q ha hq h=>by have:=aa4 q (by simp[Sl.aq,ha,hq]);rw[DT,h]at this;exact this rfl
   refine gP (n:=m) (xs:=Vc) a20 r11.aq (by rw[l20,vl];omega) (abb.pre vl.symm) (by rw[aZ];simp only[List.length_append];omega) fun eG K6=>?_
   have ZP:setL (setL (A++(M++(T++rest))) o18 T) ZQ Vc=(A++(Vc++T))++(M++(T++rest)).drop (Vc.length+T.length):=by
    have f18:o18=A.length+Vc.length:=by rw[aa9 (by omega)];omega
    have f20:ZQ=A.length+0:=by rw[aba (by omega)];omega
    rw[f18,f20,NK hX];simp only[List.append_assoc]
   rw[ZP]at K6;have gS:Ext (fun q=>s.aq=some q) w eG:=(((wD.ext.aj).aj).trans K6.ext fun _ _ h=>h).mono fun q _ h=>sX h
   refine fin gS ((r11.RX K6 (by rw[<- ZP,aZ])).own (by simp only[List.length_append];omega) XO) (.inl (by rw[DT];rfl))
end
end Go.Proofs.YtpjbalhhlaofmaaGreat
