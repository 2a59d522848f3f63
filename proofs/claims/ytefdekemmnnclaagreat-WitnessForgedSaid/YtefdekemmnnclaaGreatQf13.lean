/- Texts for LWitnessForged, part 13. -/
import Derived.Test.YtefdekemmnnclaaGreatQf12
set_option maxRecDepth 100000
namespace Go.V.Dk
def mL(D:DS)(i:Int)(bs:List Int):Int×DS:=if hasB D i=true/\bs.length=256 then(if (cj D).1=0 then(0,nP (cj D).2 i bs) else cj D) else(2,D)
def BD(D:DS):Int×DS:=if (cj D).1=0 then(0,FM (cj D).2) else cj D
end Go.V.Dk
namespace Go.Proofs.YtefdekemmnnclaaGreat
open Go.V Go.V.Dk
structure Fo(w:Wd)(d d':vY):Prop where
 b:d'.b=d.b
 fp:∀i,d'.fp i->d.fp i∨w.heap.size<=i
theorem Fo.refl(w:Wd)(d:vY):Fo w d d:=⟨rfl,fun _ h=> .inl h⟩
theorem cr.adS{w:Wd}{base:Nat}{e:TypeId}{sz:Nat}{s:Sl}{cs:List Value}{i:Int}{vs:List Value}{K:Pw}(o:aP w.heap base e sz s cs)(h0:0<=i)(h1:i < (s.len:Int))(hv:∀v∈vs,cn v=true)(hl:vs.length=sz)(uh:0 < sz)
  (k:∀w',aP w'.heap base e sz s (setL cs (i.toNat * sz) vs)->Ext (fun i=>s.au=some i) w w'->w'.heap.size=w.heap.size->K w'):Ix s.a s.len i sz fun a=>List.length (α:=Value) vs=sz/\cr w a vs K:=by
 obtain⟨a,h1,h2,h3,h4⟩:=cr.own (K:=K) o h0 h1 hv hl uh k;exact⟨a,h1,h2,h3,hl,h4⟩
section
variable {w:Wd} {d:vY} {D:DS}
theorem bg.RB{w':Wd}{N:List (List Int)}(r:bg w.heap d D)(o:aP w'.heap 0 bB 256 d.sn (N.flatMap gD))(x:Ext (fun i=>d.sn.au=some i) w w')(wf:WF { D with now:=N }):bg w'.heap d { D with now:=N }:=
 ⟨by rw[x.au _ (blt r.au) r.nb.1];exact r.au,o,r.gC.ext x fun i hi h=>(r.nn i h).1 hi,r.waits.ext x fun i hi h=>(r.nn i h).2 hi,r.nb,r.nn,r.nf,wf⟩
theorem bg.NO{w':Wd}{N:List (List Int)}(r:bg w.heap d D)(o:aP w'.heap 0 bB 256 d.sf (N.flatMap gD))(x:Ext (fun i=>d.sf.au=some i) w w')(wf:WF { D with gC:=N }):bg w'.heap d { D with gC:=N }:=
 ⟨by rw[x.au _ (blt r.au) r.nb.2.1];exact r.au,r.now.ext x fun i hi h=>(r.nn i hi).1 h,o,r.waits.ext x fun i hi h=>r.nf i h hi,r.nb,r.nn,r.nf,wf⟩
theorem bg.RC{w':Wd}{s:Sl}{W:List (Int×List Int)}(r:bg w.heap d D)(o:aP w.heap 0 sG 257 s (W.flatMap PS))(hw:nI w d.b (.cells (NC ⟨d.b,d.sn,d.sf,s⟩ D.steps D.fail D.cut D.down).toArray mn (0,0)) w')
  (n1:s.au≠some d.b) (n2:∀i,d.sn.au=some i->s.au≠some i) (n3:∀i,d.sf.au=some i->s.au≠some i) (wf:WF { D with waits:=W }):bg w'.heap ⟨d.b,d.sn,d.sf,s⟩ { D with waits:=W }:=
 ⟨hw.get r.au,r.now.ext hw.ext fun i hi h=>r.nb.1 (by rw[hi,h]),r.gC.ext hw.ext fun i hi h=>r.nb.2.1 (by rw[hi,h]),o.ext hw.ext fun i hi h=>n1 (by rw[hi,h]),⟨r.nb.1,r.nb.2.1,n1⟩,fun i hi=>⟨(r.nn i hi).1,n2 i hi⟩,fun i hi=>n3 i hi,wf⟩
theorem setRow{l:List (List Int)}{i:Nat}{r:List Int}(h:∀x∈l,Row x)(hi:i < l.length)(hr:r.length=256):setL (l.flatMap gD) (i * 256) (List.map (Value.int .u8) r++[])=(l.set i r).flatMap gD:=by
 have e:=Dd (f:=gD) (n:=256) (l:=l) (i:=i) (o:=0) (vs:=List.map (Value.int .u8) r++[]) (y:=r) (iD h) hi (by rw[List.append_nil,List.length_map];omega) (by
  rw[nN _ _ (by rw[List.append_nil,List.length_map,iD h _ (List.getElem_mem hi)];exact hr),List.append_nil];rfl)
 rw[Nat.add_zero]at e;exact e
theorem NP{S:Nat->Prop}{bs:List Int}{bb off:Nat}(hb:∀i (hi:i < (bs.map (Value.int .u8)).length),dt w.heap bb (off+i)=some (bs.map (Value.int .u8))[i])(hS:¬ S bb):bu (af (Ext S w)) ⟨bb,off,none⟩ 0 .u8 bs:=by
 refine af.row fun j hj=>?_
 rw[Nat.add_zero];have:=hb j (by simpa using hj);rw[List.getElem_map]at this;exact af.bq (Cell.mk this) hS
theorem Ek{i:Int}{b:Sl}{bs:List Int}{K:Int->Pw}(r:bg w.heap d D)(hb:aL w.heap b bs)(h8:B8 bs)(VV:∀i,b.au=some i->¬ d.fp i)(hs:0<=D.steps/\D.steps < 18446744073709551615)(hw:D.waits.length<=4294967296)
  (k:∀d' w',bg w'.heap d' (mL D i bs).2->Fo w d d'->Ext d.fp w w'->K (mL D i bs).1 w'):dF d.p i b w K:=by
 apply yY;have z_:=aL.len hb;refine If.no ⟨fun w'=>w'=w/\hasB D i=true/\bs.length=256,?_,?_⟩
 .refine nq r (If.not (If.cases (fun h=>If.bne (fun h1=>?_) (fun h1=>⟨rfl,h,by omega⟩)) (fun h=>?_)))
  .have e:mL D i bs=(2,D):=by unfold mL;rw[if_neg (by rintro⟨_,h2⟩;omega)]
   rw[e]at k;exact k d w r (Fo.refl _ _) (Ext.refl _ _)
  .have e:mL D i bs=(2,D):=by unfold mL;rw[if_neg (by rintro⟨h2,_⟩;rw[h]at h2;cases h2)]
   rw[e]at k;exact k d w r (Fo.refl _ _) (Ext.refl _ _)
 .rintro _ w2 ⟨rfl,hh,hlen⟩;have hi:0<=i/\i < D.now.length:=by simpa[hasB] using hh
  refine qa r hs fun w3 r3 x3 z3=>?_
  have Ra:Ext d.fp w2 w3:=x3.mono fun j _ h=> .inl h
  refine If.bne (fun he=>?_) (fun he=>?_)
  .have e:mL D i bs=cj D:=by unfold mL;rw[if_pos ⟨hh,hlen⟩,if_neg he]
   rw[e]at k;exact k d w3 r3 (Fo.refl _ _) Ra
  .have e:mL D i bs=(0,nP (cj D).2 i bs):=by unfold mL;rw[if_pos ⟨hh,hlen⟩,if_pos he]
   rw[e]at k;obtain⟨s1,s2,s3⟩:=Ou D;have VG:0<=i/\i < (cj D).2.now.length:=by rw[s1];exact hi
   have VW:(cj D).2.waits.length<=4294967296:=by rw[s3];exact hw
   generalize(cj D).2=D3 at *;have tq:aL w3.heap b bs:=Rd.ext hb x3 fun a j ha hj h=>VV j (by simp[Sl.au,ha,hj]) (.inl h)
   obtain⟨bb,off,TH,Of⟩:=tq.at_ (by intro h;rw[List.map_eq_nil_iff]at h;rw[h]at hlen;simp at hlen);have T0:b.au=some bb:=by simp[Sl.au,TH]
   have hnf:=VV bb T0;have ZO:=r3.ln;refine⟨Ext (fun j=>d.sn.au=some j) w3,(Ext.refl _ _).drew,Nn.mk ⟨d.sn,af.bq (Cell.ah r3.au rfl) r3.nb.1,by omega,⟨_,TH,bs,hlen,NP Of fun h=>hnf (.inr (.inl h)),?_⟩⟩⟩;have o3:aP (aa w3).heap 0 bB 256 d.sn (D3.now.flatMap gD):=r3.now
   refine cr.adS o3 VG.1 (by omega) (fun v hv=>by rw[List.append_nil]at hv;exact cZ v hv) (by rw[List.append_nil,List.length_map];exact hlen) (by decide) fun w4 o4 x4 z4=>⟨x4.ae,?_⟩
   rw[setRow r3.wf.rn (by omega) hlen]at o4;have Q7:Ext (fun j=>d.sn.au=some j) w3 w4:=x4.ae
   have wf4:WF { D3 with now:=D3.now.set i.toNat bs }:=by
    have:=r3.wf;refine⟨by simp[this.n],by simp[this.lo],by simp[this.hi],uv this.rn ⟨hlen,h8⟩,this.rf,fun p hp=>?_,this.fl,this.ct⟩;simp only[List.length_set];exact this.rw p hp
   have r4:=r3.RB o4 Q7 wf4
   have adT:∀i (hi:i < (bs.map (Value.int .u8)).length),dt w4.heap bb (off+i)=some (bs.map (Value.int .u8))[i]:=fun j hj=>by
    rw[<- Of j hj];exact jo (Q7.au bb (nK (Of j hj)) fun h=>hnf (.inr (.inl h)))
   refine⟨Ext (fun j=>d.sw.au=some j) w4,(Ext.refl _ _).drew,Nn.mk ?_⟩;have ec:((.int .i64 i:Value)::((List.map (Value.int .u8) bs++[])++[]))++[]=PS (i,bs):=by simp[PS]
   have ec1:(.int .i64 i:Value)::((List.map (Value.int .u8) bs++[])++[])=PS (i,bs):=by simp[PS]
   have ecl:(PS (i,bs)).length=257:=by simp[PS,hlen]
   have hsw:∀j,d.sw.au=some j->d.fp j:=fun j h=> .inr (.inr (.inr h))
   refine⟨d.sw,af.bq (Cell.ah r4.au rfl) r4.nb.2.2,by omega,⟨_,TH,bs,hlen,NP adT fun h=>hnf (hsw _ h),by rw[List.append_nil,List.length_map];exact hlen,?_⟩⟩;rw[ec,ec1];refine⟨ecl,fun b5 w5 new=>⟨(Ext.refl _ _).drew.no new.ext,?_⟩⟩;have r4d:bg (aa w4).heap d { D3 with now:=D3.now.set i.toNat bs }:=r4;have r5:=r4d.no new.ext
   have adU:=(aP.new (sz:=257) (n:=1) new (by rw[ecl]) (fun v hv=>by
    simp only[PS,List.mem_cons]at hv;rcases hv with rfl | hv
    .rfl
    .exact cZ v hv)).rd.src (P:=pz)
   have hlw:=r5.lw;simp only at hlw;refine Dt r5.waits (Nat.zero_le _) adU (by simp only;omega) fun s6 w6 o6 adV x6 Ye=>?_
   have yf:Ext (fun j=>d.sw.au=some j) w4 w6:=((Ext.refl _ _).drew.no new.ext).trans x6 fun _ _ h=>h
   refine⟨yf,Nn.mk ?_⟩;have z5:=new.size;have ed:(aa w4).heap.size=w4.heap.size:=rfl;have ed3:(aa w3).heap.size=w3.heap.size:=rfl;have z6:=x6.size
   have o6':aP w6.heap 0 sG 257 s6 ((D3.waits++[(i,bs)]).flatMap PS):=by
    rw[List.flatMap_append,List.flatMap_singleton];exact o6
   have r6:w6.heap[d.b]? = some (.cells (NC d D3.steps D3.fail D3.cut D3.down).toArray mn (0,0)):=by
    rw[yf.au _ (blt r4.au) r4.nb.2.2];exact r4.au
   have fresh:∀j,s6.au=some j->d.sw.au=some j∨w4.heap.size<=j:=fun j hj=>by
    rcases Ye with h | ⟨j',h,ym⟩
    .exact .inl (by rw[<- h];exact hj)
    .rw[hj]at h;cases h;exact .inr (by omega)
   have JK:∀j,d.fp j->j < w4.heap.size:=fun j hj=>r4.lt hj
   refine aH.mk r6 (by simp) rfl fun w7 O7=>?_
   have rn6:aP w6.heap 0 bB 256 d.sn ((D3.now.set i.toNat bs).flatMap gD):=r4.now.ext yf fun j hj h=>(r4.nn j hj).2 h
   have rf6:aP w6.heap 0 bB 256 d.sf (D3.gC.flatMap gD):=r4.gC.ext yf fun j hj h=>r4.nf j hj h
   have n1:s6.au≠some d.b:=fun h=>by
    rcases fresh _ h with h | h
    .exact r4.nb.2.2 h
    .have:=JK d.b (.inl rfl);omega
   have n2:∀j,d.sn.au=some j->s6.au≠some j:=fun j hj h=>by
    rcases fresh _ h with h | h
    .exact(r4.nn j hj).2 h
    .have:=JK j (.inr (.inl hj));omega
   have n3:∀j,d.sf.au=some j->s6.au≠some j:=fun j hj h=>by
    rcases fresh _ h with h | h
    .exact r4.nf j hj h
    .have:=JK j (.inr (.inr (.inl hj)));omega
   have r7:bg w7.heap ⟨d.b,d.sn,d.sf,s6⟩ (nP D3 i bs):=
    ⟨O7.get r6,rn6.ext O7.ext fun j hj h=>r4.nb.1 (by rw[hj,h]),rf6.ext O7.ext fun j hj h=>r4.nb.2.1 (by rw[hj,h]),o6'.ext O7.ext fun j hj h=>n1 (by rw[hj,h]),⟨r4.nb.1,r4.nb.2.1,n1⟩,fun j hj=>⟨(r4.nn j hj).1,n2 j hj⟩,fun j hj=>n3 j hj,QN r3.wf VG ⟨hlen,h8⟩⟩
   refine k ⟨d.b,d.sn,d.sf,s6⟩ w7 r7 ⟨rfl,fun j hj=>?_⟩ ?_
   .rcases hj with h | h | h | h
    .exact .inl (.inl h)
    .exact .inl (.inr (.inl h))
    .exact .inl (.inr (.inr (.inl h)))
    .rcases fresh j h with h | h
     .exact .inl (hsw j h)
     .exact .inr (by omega)
   .exact((Ra.trans Q7 fun j _ h=> .inr (.inl h)).trans yf fun j _ h=>hsw j h).trans O7.ext fun j _ h=> .inl h
theorem RD{a b:Sl}{A B:List (List Int)}{K:Int->Pw}(oa:aP w.heap 0 bB 256 a (A.flatMap gD))(rb:Rd w.heap b 256 (B.flatMap gD))(hA:∀r∈A,Row r)(hB:∀r∈B,Row r)(hl:B.length=A.length)(dz:0 < A.length)
  (k:∀z w',aP w'.heap 0 bB 256 a (B.flatMap gD)->Ext (fun i=>a.au=some i) w w'->w'.heap.size=w.heap.size->K z w'):hO pz 129 129 a b.v K w:=by
 have la:=oa.len;have lb:=rb.len;have fa:=cC (iD hA);have fb:=cC (iD hB);obtain⟨bn,rest,ha,TH,hb,hc,jB⟩:=oa.place (by intro h;rw[h]at fa;simp at fa;omega);have hlen:b.len=a.len:=by omega
 have MB:min b.len a.len * 256=(B.flatMap gD).length:=by rw[hlen,Nat.min_self];omega
 refine BM ha hb rb (by rw[MB,List.length_append];omega) fun w' hw=>?_
 rw[MB,List.take_of_length_le (Nat.le_refl _)]at hw;obtain⟨o',x',z'⟩:=oa.upd ha TH hb hc jB hw rb.cells (by omega);rw[nN _ _ (by omega)]at o';exact k _ w' o' x' z'
theorem Fp{K:Int->Pw}(r:bg w.heap d D)(hs:0<=D.steps/\D.steps < 18446744073709551615)
  (k:∀d' w',bg w'.heap d' (BD D).2->Fo w d d'->Ext d.fp w w'->K (BD D).1 w'):dg d.p w K:=by
 apply AF;refine If.no (qa r hs fun w3 r3 x3 z3=>?_);have Ra:Ext d.fp w w3:=x3.mono fun j _ h=> .inl h
 refine If.bne (fun he=>?_) (fun he=>?_)
 .have e:BD D=cj D:=by unfold BD;rw[if_neg he]
  rw[e]at k;exact k d w3 r3 (Fo.refl _ _) Ra
 .have e:BD D=(0,FM (cj D).2):=by unfold BD;rw[if_pos he]
  rw[e]at k;generalize(cj D).2=D3 at *;have hn:=r3.wf.n;have hlo:=r3.wf.lo;refine⟨Ext (fun j=>d.sf.au=some j) w3,(Ext.refl _ _).drew,Nn.mk ⟨d.sf,af.bq (Cell.ah r3.au rfl) r3.nb.2.1,Nn.mk ⟨d.sn,af.bq (Cell.ah r3.au rfl) r3.nb.2.1,?_⟩⟩⟩;have rd:bg (aa w3).heap d D3:=r3
  refine RD rd.gC rd.now.rd r3.wf.rf r3.wf.rn hn.symm (by omega) fun z w4 o4 x4 z4=>⟨x4.ae,Nn.mk ?_⟩
  have r4:=r3.NO o4 x4.ae ⟨rfl,r3.wf.lo,r3.wf.hi,r3.wf.rn,r3.wf.rn,r3.wf.rw,r3.wf.fl,r3.wf.ct⟩;refine aH.mk r4.au (by simp) rfl fun w5 PU=>?_
  have r5:bg w5.heap ⟨d.b,d.sn,d.sf,⟨none,0,0⟩⟩ (FM D3):=r4.RC (s:=⟨none,0,0⟩) (W:=[]) (aP.nil _ _ _ _) PU (by simp[Sl.au]) (fun _ _=>by simp[Sl.au]) (fun _ _=>by simp[Sl.au]) (TO (D:=D3) r3.wf);refine k _ w5 r5 ⟨rfl,fun j hj=> .inl ?_⟩ ((Ra.trans x4.ae fun j _ h=> .inr (.inr (.inl h))).trans PU.ext fun j _ h=> .inl h);rcases hj with h | h | h | h
  .exact .inl h
  .exact .inr (.inl h)
  .exact .inr (.inr (.inl h))
  .simp[Sl.au]at h
end
end Go.Proofs.YtefdekemmnnclaaGreat
namespace Go.V.Dk
open Go.V
end Go.V.Dk
namespace Go.V
end Go.V
namespace Go.Proofs.YtefdekemmnnclaaGreat
open Go.V Go.V.Dk
section
variable {w:Wd} {d:vY} {D:DS}
theorem O8{l:List (List Int)}{i o:Nat}{vs:List Int}(h:∀x∈l,Row x)(hi:i < l.length)(ho:o+vs.length<=256):setL (l.flatMap gD) (i * 256+o) (vs.map (Value.int .u8))=(l.set i (nQ (l.getD i []) o vs)).flatMap gD:=by
 have e:l.getD i []=l[i]:=by simp[List.getD,hi]
 have hr:=(h _ (List.getElem_mem hi)).1;refine Dd (iD h) hi (by rw[List.length_map];exact ho) ?_;rw[gJ _ _ _ (by rw[List.length_map,iD h _ (List.getElem_mem hi)];exact ho),e];simp[gD,nQ,List.map_take,List.map_drop]
theorem qp{l:List (List Int)}{i:Nat}{a:List Int}(hi:i < l.length):(l.set i a).getD i []=a:=by simp[List.getD,hi]
theorem Cut.from{b off n:Nat}{lo hi:Nat}{K:Sl->Prop}(h1:lo<=hi)(h2:hi<=n)(h3:lo < n)(k:K ⟨some ⟨b,off+lo,none⟩,hi - lo,n - lo⟩):Cut ⟨some (Addr.mk b off none),n,n⟩ (lo:Int) (hi:Int) (((n:Nat):Int)) 1 K:=by
 refine Cut.mk (by omega) (by omega) (by omega) (by simp) ?_
 have e:gX (some (Addr.mk b off none)) ((n:Int)).toNat ((lo:Int)).toNat 1=some ⟨b,off+lo,none⟩:=by
  unfold gX;rw[if_neg (by simp;omega)];simp[ay]
 simp only[e];rw[show((hi:Int) - (lo:Int)).toNat=hi - lo by omega,show((n:Int) - (lo:Int)).toNat=n - lo by omega];exact k
end
end Go.Proofs.YtefdekemmnnclaaGreat
namespace Go.Proofs.YtefdekemmnnclaaGreat
open Go.V Go.V.Dk
section
variable {w:Wd} {d:vY} {D:DS}
end
end Go.Proofs.YtefdekemmnnclaaGreat
namespace Go.Proofs.YtefdekemmnnclaaGreat
open Go.V Go.V.Dk
structure RS where
 dev:Option Addr
 cS:Int
 aO:Int
 bw:Int
 gy:List (List Int)
structure EK where
 rb:Nat
 sd:Sl
 ins:List Sl
def EK.fp(g:EK)(i:Nat):Prop:=i=g.rb∨g.sd.au=some i∨∃s∈g.ins,s.au=some i
abbrev EK.p(g:EK):Option Addr:=some ⟨g.rb,0,none⟩
abbrev O9(s:Sl):List Value:=[s.v]
abbrev RE(R:RS)(sd:Sl):List Value:=[.pointer R.dev,.int .u64 R.cS,.int .u64 R.aO,.int .u64 R.bw,sd.v]
structure fM(h:Array Obj)(g:EK)(R:RS):Prop where
 au:h[g.rb]? = some (.cells (RE R g.sd).toArray uN (0,0))
 outer:Rd h g.sd 1 (g.ins.flatMap O9)
 old:∀i,g.sd.au=some i->i < h.size
 n:g.ins.length=R.gy.length
 inner:∀j (h1:j < g.ins.length) (h2:j < R.gy.length),aP h 0 Nw 1 g.ins[j] (R.gy[j].map (Value.int .u8))
 b8:∀l∈R.gy,B8 l
 n1:g.sd.au≠some g.rb
 n2:∀s∈g.ins,∀i,s.au=some i->i≠g.rb/\g.sd.au≠some i
 n3:g.ins.Pairwise fun s t=>∀i,s.au=some i->t.au≠some i
theorem vz{l:List Sl}:∀s∈l,(O9 s).length=1:=fun _ _=>rfl
section
variable {w w':Wd} {g:EK} {R:RS}
theorem fM.lt(r:fM w.heap g R){i:Nat}(h:g.fp i):i < w.heap.size:=by
 rcases h with rfl | h | ⟨s,hs,h⟩
 .exact blt r.au
 .exact r.old i h
 .obtain⟨j,hj,rfl⟩:=List.getElem_of_mem hs;exact((r.inner j hj (by have:=r.n;omega)).lt h).2
theorem fM.len(r:fM w.heap g R):g.sd.len=R.gy.length:=by have:=r.outer.len;rw[cC vz,r.n]at this;omega
theorem fM.ext{S:Nat->Prop}(r:fM w.heap g R)(x:Ext S w w')(hS:∀i,g.fp i->¬ S i):fM w'.heap g R:=
 ⟨by rw[x.au _ (blt r.au) (hS _ (.inl rfl))];exact r.au,r.outer.ext x fun a b ha hb=>hS b (.inr (.inl (by simp[Sl.au,ha,hb]))),fun i hi=>Nat.lt_of_lt_of_le (r.old i hi) x.size,r.n,
  fun j h1 h2=>(r.inner j h1 h2).ext x fun i hi=>hS i (.inr (.inr ⟨_,List.getElem_mem h1,hi⟩)),r.b8,r.n1,r.n2,r.n3⟩
theorem fM.Md{res com:Int}(r:fM w.heap g R)(hw:nI w g.rb (.cells (RE { R with aO:=res,bw:=com } g.sd).toArray uN (0,0)) w'):fM w'.heap g { R with aO:=res,bw:=com }:=
 ⟨hw.get r.au,r.outer.ext hw.ext fun a b ha hb h=>r.n1 (by simp[Sl.au,ha,hb];exact h),fun i hi=>by rw[hw.size];exact r.old i hi,r.n,
  fun j h1 h2=>(r.inner j h1 h2).ext hw.ext fun i hi h=>(r.n2 _ (List.getElem_mem h1) i hi).1 h,r.b8,r.n1,r.n2,r.n3⟩
theorem pD{K:Int->Pw}(r:fM w.heap g R)(k:K R.aO w):eV g.p w K:=by
 apply uS;exact If.no (Nn.mk ⟨_,Cell.ah r.au rfl,k⟩)
theorem oA{K:Int->Pw}(r:fM w.heap g R)(k:K R.bw w):eE g.p w K:=by
 apply tI;exact If.no (Nn.mk ⟨_,Cell.ah r.au rfl,k⟩)
theorem wy{d:vY}{D:DS}{K:Int->Pw}(r:bg w.heap d D)(hs:0<=D.steps/\D.steps < 18446744073709551615)(k:∀w',bg w'.heap d (cj D).2->Ext (·=d.b) w w'->w'.heap.size=w.heap.size->K (cj D).1 w'):hH d.p w K:=by
 apply AI;exact If.no (qa r hs k)
def fY(R:RS)(D:DS):Int×Int×RS×DS:=
 if R.aO≥R.cS then(0,90,R,D) else if (cj D).1=0 then(R.aO+1,0,{ R with aO:=R.aO+1 },(cj D).2) else(0,(cj D).1,R,(cj D).2)
def gS(R:RS)(D:DS)(n:Int):Int×RS×DS:=
 if n<=R.bw∨n > R.aO then(2,R,D) else if (cj D).1=0 then(0,{ R with bw:=n },(cj D).2) else((cj D).1,R,(cj D).2)
theorem Bc{d:vY}{D:DS}{K:Int->Int->Pw}(r:fM w.heap g R)(q:bg w.heap d D)(hd:R.dev=d.p)(VX:∀i,g.fp i->¬ d.fp i)(hs:0<=D.steps/\D.steps < 18446744073709551615)(hr:0<=R.aO/\R.cS<=18446744073709551615)
  (k:∀w',fM w'.heap g (fY R D).2.2.1->bg w'.heap d (fY R D).2.2.2->Ext (fun i=>i=g.rb∨i=d.b) w w'->K (fY R D).1 (fY R D).2.1 w'):dM g.p w K:=by
 apply vR;refine If.no ⟨Ext No w,(Ext.refl _ _).drew,Nn.mk ⟨_,af.cell (Cell.ah r.au rfl),Nn.mk ⟨_,af.cell (Cell.ah r.au rfl),If.dec (fun h=>?_) (fun h=>?_)⟩⟩⟩
 .have e:fY R D=(0,90,R,D):=by unfold fY;rw[if_pos h]
  rw[e]at k;exact k (aa w) r q (Ext.refl _ _).drew
 .have rd:fM (aa w).heap g R:=r;have qd:bg (aa w).heap d D:=q;refine Nn.mk ⟨R.dev,Cell.ah rd.au rfl,?_⟩;rw[hd];refine wy qd hs fun w1 q1 x1 z1=>?_
  have r1:=rd.ext x1 fun i hi h=>VX i hi (.inl h)
  have x1':Ext (fun i=>i=g.rb∨i=d.b) w w1:=(x1.mono fun i _ h=> .inr h).ae;refine If.bne (fun he=>?_) (fun he=>?_)
  .have e:fY R D=(0,(cj D).1,R,(cj D).2):=by unfold fY;rw[if_neg h,if_neg he]
   rw[e]at k;exact k w1 r1 q1 x1'
  .have e:fY R D=(R.aO+1,0,{ R with aO:=R.aO+1 },(cj D).2):=by unfold fY;rw[if_neg h,if_pos he]
   rw[e]at k;refine Nn.mk ⟨_,Cell.ah r1.au rfl,Ar.u64 (by omega) (Nn.mk (aH.mk r1.au (by simp) rfl fun w2 Yf=>?_))⟩;have r2:fM w2.heap g { R with aO:=R.aO+1,bw:=R.bw }:=r1.Md Yf;have q2:=q1.ext Yf.ext fun i hi h=>VX i (.inl h) hi
   exact Nn.mk ⟨_,Cell.ah r2.au rfl,k w2 r2 q2 (x1'.trans Yf.ext fun i _ h=> .inl h)⟩
theorem Bd{d:vY}{D:DS}{n:Int}{K:Int->Pw}(r:fM w.heap g R)(q:bg w.heap d D)(hd:R.dev=d.p)(VX:∀i,g.fp i->¬ d.fp i)(hs:0<=D.steps/\D.steps < 18446744073709551615)
  (k:∀w',fM w'.heap g (gS R D n).2.1->bg w'.heap d (gS R D n).2.2->Ext (fun i=>i=g.rb∨i=d.b) w w'->K (gS R D n).1 w'):ft g.p n w K:=by
 apply vU;refine If.no ⟨fun w'=>w'=w/\¬ (n<=R.bw∨n > R.aO),?_,?_⟩
 .have bad:(n<=R.bw∨n > R.aO)->K 2 w:=fun h=>by
   have e:gS R D n=(2,R,D):=by unfold gS;rw[if_pos h]
   rw[e]at k;exact k w r q (Ext.refl _ _)
  exact Nn.mk ⟨_,Cell.ah r.au rfl,If.dec (fun h=>bad (.inl h)) (fun h=>Nn.mk ⟨_,Cell.ah r.au rfl,If.dec (fun h1=>bad (.inr h1)) (fun h1=>⟨rfl,by omega⟩)⟩)⟩
 .rintro _ w0 ⟨rfl,h⟩;refine Nn.mk ⟨R.dev,Cell.ah r.au rfl,?_⟩;rw[hd];refine wy q hs fun w1 q1 x1 z1=>?_
  have r1:=r.ext x1 fun i hi h=>VX i hi (.inl h)
  have x1':Ext (fun i=>i=g.rb∨i=d.b) w0 w1:=x1.mono fun i _ h=> .inr h
  refine If.bne (fun he=>?_) (fun he=>?_)
  .have e:gS R D n=((cj D).1,R,(cj D).2):=by unfold gS;rw[if_neg h,if_neg he]
   rw[e]at k;exact k w1 r1 q1 x1'
  .have e:gS R D n=(0,{ R with bw:=n },(cj D).2):=by unfold gS;rw[if_neg h,if_pos he]
   rw[e]at k;refine Nn.mk (aH.mk r1.au (by simp) rfl fun w2 Yf=>?_);exact k w2 (r1.Md (res:=R.aO) Yf) (q1.ext Yf.ext fun i hi h=>VX i (.inl h) hi) (x1'.trans Yf.ext fun i _ h=> .inl h)
end
end Go.Proofs.YtefdekemmnnclaaGreat
namespace Go.V
structure Wr(h:Array Obj)(s:Sl)(cs:List Value):Prop where
 len:cs.length=s.len
 cap:s.len<=s.cap
 is:cs≠[]->∃b pre rest T,s.a=some ⟨b,pre.length,none⟩/\h[b]? = some (.cells (pre++(cs++rest)).toArray T (0,0))
 cells:∀v∈cs,cn v=true
theorem Wr.rd{h:Array Obj}{s:Sl}{cs:List Value}(r:Wr h s cs):Rd h s 1 cs:=by
 refine⟨by simpa using r.len,r.cap,fun dz=>?_,r.cells⟩;obtain⟨b,pre,rest,T,ha,hb⟩:=r.is dz;refine⟨b,pre.length,ha,fun i hi=>?_⟩;unfold dt;rw[hb];simp only[List.getElem?_toArray];rw[List.getElem?_append_right (by omega),Nat.add_sub_cancel_left,List.getElem?_append_left hi,List.getElem?_eq_getElem hi]
theorem Wr.ext{S:Nat->Prop}{w w':Wd}{s:Sl}{cs:List Value}(r:Wr w.heap s cs)(x:Ext S w w')(hS:∀b,s.au=some b->¬ S b):Wr w'.heap s cs:=by
 refine⟨r.len,r.cap,fun dz=>?_,r.cells⟩;obtain⟨b,pre,rest,T,ha,hb⟩:=r.is dz;obtain⟨aV,_⟩:=Array.getElem?_eq_some_iff.1 hb;exact⟨b,pre,rest,T,ha,by rw[x.au b aV (hS b (by simp[Sl.au,ha]))];exact hb⟩
theorem aP.wr{h:Array Obj}{base:Nat}{e:TypeId}{s:Sl}{cs:List Value}(o:aP h base e 1 s cs):Wr h s cs:=by
 refine⟨by simpa using o.len,o.rd.cap,fun dz=>?_,o.cells⟩;obtain⟨b,rest,ha,_,hb,_⟩:=o.place dz;exact⟨b,[],rest,e,ha,hb⟩
theorem Wr.take{h:Array Obj}{s:Sl}{cs:List Value}(r:Wr h s cs){n m:Nat}(hn:n<=s.len)(hm:n<=m):Wr h ⟨s.a,n,m⟩ (cs.take n):=by
 refine⟨by rw[List.length_take,r.len];exact Nat.min_eq_left hn,hm,fun dz=>?_,fun v hv=>r.cells v (List.mem_of_mem_take hv)⟩;obtain⟨b,pre,rest,T,ha,hb⟩:=r.is (by intro e;subst e;simp at dz);refine⟨b,pre,cs.drop n++rest,T,ha,?_⟩;rw[<- List.append_assoc (cs.take n),List.take_append_drop];exact hb
end Go.V
namespace Go.Proofs.YtefdekemmnnclaaGreat
open Go.V Go.V.Dk
section
variable {w w':Wd} {g:EK} {R:RS}
theorem Fq{size:Int}{K:Sl->Int->Pw}(r:fM w.heap g R)(k2:¬ (1<=size/\size<=64)->K ⟨none,0,0⟩ 2 w)(k9:1<=size/\size<=64->R.gy=[]->K ⟨none,0,0⟩ 91 w)
  (k91:∀l ls,1<=size/\size<=64->R.gy=l::ls->(l.length:Int) < size->K ⟨none,0,0⟩ 91 w)
  (k:∀l ls s g' w',1<=size/\size<=64->R.gy=l::ls->size<=(l.length:Int)->Wr w'.heap s ((l.take size.toNat).map (Value.int .u8))->fM w'.heap g' { R with gy:=ls }->g'.rb=g.rb->(∀i,g'.fp i->g.fp i)->(∀i,s.au=some i->g.fp i/\¬ g'.fp i)->
   Ext (·=g.rb) w w'->w'.heap.size=w.heap.size->K s 0 w'):gZ g.p size w K:=by
 apply AJ;have hlen:=r.len;have hn:=r.n;refine If.no ⟨fun w'=>w'=w/\1<=size/\size<=64,If.dec (fun h=>k2 (by omega)) (fun h=>If.dec (fun h1=>k2 (by omega)) (fun h1=>⟨rfl,by omega,by omega⟩)),?_⟩;rintro _ w1 ⟨rfl,uh⟩
 cases hd:R.gy with
 | nil=>
  refine⟨fun _=>False,?_,fun _ _ h=>h.elim⟩;rw[hd]at hlen;exact Nn.mk ⟨g.sd,Cell.ah r.au rfl,If.beq (fun _=>k9 uh hd) (fun h=>by simp at hlen;omega)⟩
 | cons l ls=>
  rw[hd]at hlen hn;simp only[List.length_cons]at hlen hn;have adW:0 < g.ins.length:=by omega
  obtain⟨rb,sd,ins⟩:=g
  cases ins with
  | nil=>simp at adW
  | cons s0 ins=>
  simp only at *;have hn':ins.length=ls.length:=by simp only[List.length_cons]at hn;omega
  have El:=r.inner 0 (by simp) (by rw[hd];simp);simp only[List.getElem_cons_zero]at El;have e0:R.gy[0]'(by rw[hd];simp)=l:=by simp[hd]
  rw[e0]at El;have l0:s0.len=l.length:=aL.len El.rd
  have hix:∀{K:Addr->Prop},(∀b o,Cell w1 ⟨b,o,none⟩ s0.v->K ⟨b,o,none⟩)->Ix sd.a sd.len 0 1 K:=fun kk=>
   Ix.elem r.outer vz (by decide) (by omega) (by omega) fun b o hi hb hc=>kk b o (by have:=hc 0 s0.v (by simp[O9]);simpa using this)
  refine⟨fun w'=>w'=w1/\size<=(l.length:Int),?_,?_⟩
  .refine Nn.mk ⟨sd,Cell.ah r.au rfl,If.beq (fun h=>by omega) (fun _=>Nn.mk ⟨sd,Cell.ah r.au rfl,hix fun b o hc=>⟨s0,hc,If.dec (fun h=>k91 l ls uh hd (by omega)) (fun h=>⟨rfl,by omega⟩)⟩⟩)⟩
  .rintro _ w2 ⟨rfl,hle⟩;refine Nn.mk ⟨sd,Cell.ah r.au rfl,hix fun b o hc=>⟨s0,hc,Cut.mk (by omega) (by omega) (by omega) (by have:=El.rd.cap;omega) ?_⟩⟩
   have ea:gX s0.a size.toNat (0:Int).toNat 1=s0.a:=by
    unfold gX;split
    .rfl
    .cases s0.a with
     | none=>rfl
     | some a=>simp;rfl
   rw[ea];have VY:=r.outer.cap;simp only at VY;refine Nn.mk ⟨sd,Cell.ah r.au rfl,Cut.mk (by omega) (by omega) (by omega) (by omega) ?_⟩;have cut:=Rd.cut r.outer (lo:=1) (hi:=sd.len) (mx:=sd.cap) (by omega) (Nat.le_refl _) VY
   have ec:(((s0::ins).flatMap O9).drop (1 * 1)).take ((sd.len - 1) * 1)=ins.flatMap O9:=by
    have:((s0::ins).flatMap O9).drop (1 * 1)=ins.flatMap O9:=by simp[O9]
    rw[this];exact List.take_of_length_le (by rw[cC vz];omega)
   rw[ec]at cut;have e1:((sd.len:Int) - 1).toNat=sd.len - 1:=by omega
   have e2:((sd.cap:Int) - 1).toNat=sd.cap - 1:=by omega
   have e3:((sd.cap:Int)).toNat=sd.cap:=by omega
   have e4:(1:Int).toNat=1:=rfl;rw[e1,e2,e3,e4]
   have rI:∀i,(⟨gX sd.a sd.cap 1 1,sd.len - 1,sd.cap - 1⟩ : Sl).au=some i->sd.au=some i:=fun i hi=>by
    simp only[Sl.au,gX]at hi ⊢;split at hi
    .exact hi
    .cases ha:sd.a with
     | none=>rw[ha]at hi;simp at hi
     | some a=>
      rw[ha]at hi;simp only[Option.map_some,Option.some.injEq]at hi ⊢;rw[<- hi];rfl
   generalize(⟨gX sd.a sd.cap 1 1,sd.len - 1,sd.cap - 1⟩ : Sl)=sd' at *;refine Nn.mk (aH.mk r.au (by simp) rfl fun w3 VW=>?_);have nb0:∀i,s0.au=some i->i≠rb:=fun i hi=>(r.n2 s0 List.mem_cons_self i hi).1
   have pw:=r.n3;simp only[List.pairwise_cons]at pw
   have Ka:∀i,(⟨rb,sd',ins⟩ : EK).fp i->(⟨rb,sd,s0::ins⟩ : EK).fp i:=fun i hi=>by
    rcases hi with h | h | ⟨s,hs,h⟩
    .exact .inl h
    .exact .inr (.inl (rI i h))
    .exact .inr (.inr ⟨s,List.mem_cons_of_mem _ hs,h⟩)
   refine k l ls ⟨s0.a,(size - 0).toNat,(size - 0).toNat⟩ ⟨rb,sd',ins⟩ w3 uh hd hle ?_ ?_ rfl Ka (fun i hi=>?_) VW.ext VW.size
   .have wr:=((El.wr).take (n:=size.toNat) (m:=size.toNat) (by omega) (Nat.le_refl _)).ext VW.ext fun i hi h=>nb0 i hi h
    rw[show(size - 0).toNat=size.toNat by omega,List.map_take];exact wr
   .refine⟨VW.get r.au,cut.ext VW.ext fun a b ha hb h=>r.n1 (rI _ (by simp[Sl.au,ha,hb];exact h)),fun i hi=>by rw[VW.size];exact r.old i (rI i hi),by simp only;omega,fun j h1 h2=>?_,fun x hx=>r.b8 x (by rw[hd];exact List.mem_cons_of_mem _ hx),fun h=>r.n1 (rI _ h),fun s hs i hi=>⟨(r.n2 s (List.mem_cons_of_mem _ hs) i hi).1,fun h=>(r.n2 s (List.mem_cons_of_mem _ hs) i hi).2 (rI _ h)⟩,pw.2⟩;have inn:=r.inner (j+1) (by simpa using h1) (by rw[hd];simpa using h2);simp only[List.getElem_cons_succ,hd]at inn;exact inn.ext VW.ext fun i hi h=>(r.n2 _ (List.mem_cons_of_mem _ (List.getElem_mem h1)) i hi).1 h
   .have iS:s0.au=some i:=hi;refine⟨.inr (.inr ⟨s0,List.mem_cons_self,iS⟩),fun h=>?_⟩;rcases h with h | h | ⟨s,hs,h⟩
    .exact nb0 i iS h
    .exact(r.n2 s0 List.mem_cons_self i iS).2 (rI i h)
    .exact pw.1 s hs i iS h
structure VZ(h:Array Obj)(s:Sl)(L:List (List Int)):Prop where
 ex:∃ins:List Sl,Rd h s 1 (ins.flatMap O9)/\ins.length=L.length/\∀j (h1:j < ins.length) (h2:j < L.length),aL h ins[j] L[j]
 b8:∀l∈L,B8 l
theorem VZ.len{h:Array Obj}{s:Sl}{L:List (List Int)}(r:VZ h s L):s.len=L.length:=by
 obtain⟨ins,h1,h2,_⟩:=r.ex;have:=h1.len;rw[cC vz]at this;omega
theorem HT{p:Addr}{cS:Int}{gy:Sl}{L:List (List Int)}{K:Option Addr->Int->Pw}(hL:VZ w.heap gy L)(hn:L.length<=4294967296)(hl:∀l∈L,l.length<=140737488355328)
  (k:∀g w',fM w'.heap g ⟨some p,cS,0,0,L⟩->(∀i,g.fp i->w.heap.size<=i)->Ext No w w'->K g.p 0 w'):wQ (some p) cS gy w K:=by
 apply LM;have hdl:=hL.len;obtain⟨Yg,ho,hi0,hin⟩:=hL.ex;refine If.no fun b w1 new=>?_
 have ab:=new.at_;have zb:=new.size
 refine⟨fun m t w2=>∃(j:Nat) (sd:Sl) (ins:List Sl),t=j/\m=L.length - j/\j<=L.length/\fM w2.heap ⟨b,sd,ins⟩ ⟨some p,cS,0,0,L.take j⟩/\aP w2.heap 0 LH 1 sd (ins.flatMap O9)/\(∀i,(⟨b,sd,ins⟩ : EK).fp i->w.heap.size<=i)/\Ext No w w2,
  ⟨_,0,⟨none,0,0⟩,[],rfl,rfl,Nat.zero_le _,?_,aP.nil _ _ _ _,fun i hi=>?_,new.ext⟩,?_⟩
 .exact⟨new.get,Rd.nil _ _,fun i hi=>by simp[Sl.au]at hi,by simp,fun j h1=>by simp at h1,fun l hl=>by simp at hl,by simp[Sl.au],fun s hs=>by simp at hs,List.Pairwise.nil⟩
 .rcases hi with h | h | ⟨s,hs,_⟩
  .simp only at h;omega
  .simp[Sl.au]at h
  .simp at hs
 .rintro _ m t w2 ⟨j,sd,ins,rfl,rfl,hj,r2,Fj,ZX,x2⟩;refine If.dec (fun aV=>?_) (fun ym=>?_)
  .have Kk:j < L.length:=by omega
   have adX:=r2.n;simp only[List.length_take]at adX;have abp:=hin j (by omega) Kk
   refine Ix.elem (ho.no x2) vz (by decide) (by omega) aV fun bb o hi hb hc=>⟨Yg[j]'(by omega),by have:=hc 0 (Yg[j]'(by omega)).v (by simp[O9]);simpa using this,?_⟩
   have hlj:=hl _ (List.getElem_mem Kk);have hbj:=hL.b8 _ (List.getElem_mem Kk);generalize Yg[j]'(by omega)=vv at *;generalize hLj:L[j]=lj at *;have lvv:vv.len=lj.length:=aL.len abp;have r2d:fM (aa w2).heap ⟨b,sd,ins⟩ ⟨some p,cS,0,0,L.take j⟩:=r2;refine⟨Ext (fun i=>sd.au=some i) w2,(Ext.refl _ _).drew,Nn.mk ⟨sd,af.bq (Cell.ah r2.au rfl) r2.n1,fun b1 w3 n3=>⟨(Ext.refl _ _).drew.no n3.ext,?_⟩⟩⟩;have abq:=aP.new (sz:=1) (n:=0) n3 rfl (by simp);have ed:(aa w2).heap.size=w2.heap.size:=rfl;have z3:=n3.size;refine bO abq (by omega) ((abp.no x2).no ((Ext.refl No w2).drew.no n3.ext)).src (by simp only;omega) fun s4 w4 o4 afm x4 afn=>?_
   have oz:Ext No w2 w4:=((Ext.refl No w2).drew.no n3.ext).trans x4 fun i hi h=>by have:=(abq.lt h).1;omega
   refine⟨oz.aF,fun b2 w5 n5=>⟨(oz.no n5.ext).aF,?_⟩⟩;have nD:=oz.no n5.ext;have z5:=nD.size;have abr:=Fj.no nD;have hsd:sd.len=ins.length:=by have:=Fj.len;rw[cC vz]at this;omega
   refine sF abr (Nat.zero_le _) ((aP.new (sz:=1) (n:=1) n5 rfl (by simp[cn])).rd.src) (by simp only;omega) fun s6 w6 o6 adV x6 Ye=>?_
   have RF:Ext (fun i=>sd.au=some i) w2 w6:=nD.aF.trans x6 fun _ _ h=>h
   refine⟨RF,Nn.mk ?_⟩;have z24:=oz.size;have o4':aP w4.heap 0 Nw 1 s4 (lj.map (Value.int .u8)):=by simpa using o4.mono (Nat.zero_le _)
   have f4:∀i,s4.au=some i->w2.heap.size<=i/\i < w4.heap.size:=fun i hi=>⟨by have:=(o4.lt hi).1;omega,(o4.lt hi).2⟩
   have L6:∀i,(⟨b,sd,ins⟩ : EK).fp i->i < w2.heap.size:=fun i hi=>r2.lt hi
   have fresh:∀i,s6.au=some i->sd.au=some i∨w5.heap.size<=i:=fun i hi=>by
    rcases Ye with h | ⟨i',h,ym⟩
    .exact .inl (by rw[<- h];exact hi)
    .rw[hi]at h;cases h;exact .inr ym
   have b6:w6.heap[b]? = some (.cells (RE ⟨some p,cS,0,0,L.take j⟩ sd).toArray uN (0,0)):=by
    rw[RF.au _ (blt r2.au) r2.n1];exact r2.au
   refine aH.mk b6 (by simp) rfl fun w7 O7=>Ar.i64 (by omega) ⟨_,?_,j+1,s6,ins++[s4],by omega,rfl,by omega,?_,?_,fun i hi=>?_,?_⟩
   .omega
   .have n1:s6.au≠some b:=fun h=>by
     rcases fresh b h with h | h
     .exact r2.n1 h
     .have:=L6 b (.inl rfl);omega
    have ln5:w4.heap.size < w5.heap.size:=by rw[n5.size];omega
    have n4b:∀i,s4.au=some i->i≠b:=fun i hi h=>by have:=(f4 i hi).1;have:=L6 b (.inl rfl);omega
    refine⟨O7.get b6,?_,fun i hi=>?_,by simp only[List.length_append,List.length_singleton,List.length_take];omega,fun q h1 h2=>?_,fun l hl=>hL.b8 l (List.mem_of_mem_take hl),n1,fun s hs i hi=>?_,?_⟩
    .have:=(o6.ext O7.ext fun i hi h=>n1 (by rw[hi,h])).rd;rw[List.flatMap_append,List.flatMap_singleton];exact this
    .rw[O7.size];exact(o6.lt hi).2
    .by_cases hq:q < ins.length
     .have e1:(ins++[s4])[q]=ins[q]:=List.getElem_append_left hq;have e2:(L.take (j+1))[q]=(L.take j)[q]'(by rw[List.length_take];omega):=by simp
      simp only[e1,e2];exact((r2.inner q hq (by simp only[List.length_take];omega)).ext RF fun i hi h=>(r2.n2 _ (List.getElem_mem hq) i hi).2 h).ext O7.ext fun i hi h=>(r2.n2 _ (List.getElem_mem hq) i hi).1 h
     .have hq2:q=j:=by simp only[List.length_append,List.length_singleton]at h1;omega
      subst hq2;have e1:(ins++[s4])[q]=s4:=by rw[List.getElem_append_right (by omega)];simp
      have e2:(L.take (q+1))[q]=lj:=by simp[hLj]
      simp only[e1,e2];exact((o4'.no n5.ext).ext x6 fun i hi h=>by have:=(f4 i hi).1;have:=L6 i (.inr (.inl h));omega).ext O7.ext fun i hi h=>n4b i hi h
    .rcases List.mem_append.1 hs with hs | hs
     .refine⟨(r2.n2 s hs i hi).1,fun h=>?_⟩;rcases fresh i h with h | h
      .exact(r2.n2 s hs i hi).2 h
      .have:=L6 i (.inr (.inr ⟨s,hs,hi⟩));omega
     .simp at hs;subst hs;refine⟨n4b i hi,fun h=>?_⟩;rcases fresh i h with h | h
      .have:=(f4 i hi).1;have:=L6 i (.inr (.inl h));omega
      .have:=(f4 i hi).2;omega
    .rw[List.pairwise_append];refine⟨r2.n3,by simp,fun s hs t ht i hi h=>?_⟩;simp at ht;subst ht;have:=(f4 i h).1;have:=L6 i (.inr (.inr ⟨s,hs,hi⟩));omega
   .have n1:s6.au≠some b:=fun h=>by
     rcases fresh b h with h | h
     .exact r2.n1 h
     .have:=L6 b (.inl rfl);omega
    have:=o6.ext O7.ext fun i hi h=>n1 (by rw[hi,h])
    rw[List.flatMap_append,List.flatMap_singleton];exact this
   .have z2:=x2.size;rcases hi with h | h | ⟨s,hs,h⟩
    .exact ZX i (.inl h)
    .rcases fresh i h with h | h
     .exact ZX i (.inr (.inl h))
     .omega
    .rcases List.mem_append.1 hs with hs | hs
     .exact ZX i (.inr (.inr ⟨s,hs,h⟩))
     .simp at hs;subst hs;have:=(f4 i h).1;omega
   .exact(x2.trans RF fun i hi h=>by have:=ZX i (.inr (.inl h));omega).trans O7.ext fun i hi h=>by
     have h':i=b:=h;have:=ZX b (.inl rfl);omega
  .have ej:j=L.length:=by omega
   have:L.take j=L:=List.take_of_length_le (by omega);rw[this]at r2;exact k _ w2 r2 ZX x2
end
structure MP where
 cm:Int
 pg:Int
 rc:Int
 gn:Int
 lv:Int
 rg:Int
 tn:Int
structure MP.OK(m:MP):Prop where
 cm:1<=m.cm/\m.cm<=18446744073709551615
 pg:0<=m.pg/\m.pg<=4294967295
 rc:lY m.rc
 gn:0<=m.gn/\m.gn<=65535
 lv:m.lv=0
 rg:0<=m.rg/\m.rg<=65535
 tn:0<=m.tn/\m.tn<=4294967295
abbrev MP.c(m:MP):List Value:=[.int .u64 m.cm,.int .u32 m.pg,.int .u64 m.rc,.int .u16 m.gn,.int .u8 m.lv,.int .u16 m.rg,.int .u32 m.tn]
abbrev MP.ns(m:MP):List NS:=[⟨m.cm,8⟩,⟨m.pg,4⟩,⟨m.rc,8⟩,⟨m.gn,2⟩,⟨m.lv,1⟩,⟨m.rg,2⟩,⟨m.tn,4⟩]
theorem MP.OK.ns{m:MP}(h:m.OK):∀p∈m.ns,p.OK:=by
 obtain⟨h1,h2,h3,h4,h5,h6,h7⟩:=h
 have u1:lY m.cm:=⟨by omega,by omega⟩
 intro p hp;simp only[MP.ns,List.mem_cons,List.not_mem_nil,or_false]at hp;rcases hp with rfl | rfl | rfl | rfl | rfl | rfl | rfl
 .exact⟨u1.1,Mg u1,by simp,by simp⟩
 .exact⟨h2.1,by show m.pg < (256:Int) ^ 4;omega,by simp,by simp⟩
 .exact⟨h3.1,Mg h3,by simp,by simp⟩
 .exact⟨h4.1,by show m.gn < (256:Int) ^ 2;omega,by simp,by simp⟩
 .exact⟨by show 0<=m.lv;omega,by show m.lv < (256:Int) ^ 1;omega,by simp,by simp⟩
 .exact⟨h6.1,by show m.rg < (256:Int) ^ 2;omega,by simp,by simp⟩
 .exact⟨h7.1,by show m.tn < (256:Int) ^ 4;omega,by simp,by simp⟩
section
variable {w w':Wd} {m:MP}
theorem vg{K:Int->Pw}(ok:m.OK)(k:∀w',Ext No w w'->K 0 w'):mZ m.cm m.pg m.rc m.gn m.lv m.rg m.tn w K:=by
 apply GZ;refine fun b w1 n1=>jy rfl rfl (cF rfl) fun w3 g3 z3 x3=>?_
 have g1:w3.heap[b]? = some (.cells m.c.toArray 87 (0,0)):=(x3.au b (aV n1.get) fun h=>h).trans n1.get;have x:=n1.ext.no x3;refine⟨m.cm,Cell.ah g1 rfl,If.beq (fun h=>by have:=ok.cm;omega) fun _=>⟨m.lv,Cell.ah g1 rfl,If.dec (fun h=>by have:=ok.lv;omega) fun _=>⟨_,Cell.ah g1 rfl,_,Cell.ah g1 rfl,_,Cell.ah g1 rfl,_,Cell.ah g3 rfl,_,Cell.ah g3 rfl,_,Cell.ah g3 rfl,If.cases (fun _=>⟨m.lv,Cell.ah g1 rfl,If.bne (fun h=>absurd ok.lv h) fun _=>k w3 x⟩) fun _=>k w3 x⟩⟩⟩
abbrev NS.c2(p:NS):List Value:=[.int .u64 p.n,.int .i64 (p.z:Int)]
theorem Cn{K:Sl->Int->Pw}(ok:m.OK)(k:∀s l w',aD w'.heap w.heap.size s l->l.length=224->B8 l->Ext No w w'->K s 0 w'):pW m.cm m.pg m.rc m.gn m.lv m.rg m.tn w K:=by
 apply E8;refine fun b w1 n1=>?_
 have g1:w1.heap[b]? = some (.cells m.c.toArray 87 (0,0)):=n1.get;refine⟨_,Cell.ah g1 rfl,_,Cell.ah g1 rfl,_,Cell.ah g1 rfl,_,Cell.ah g1 rfl,_,Cell.ah g1 rfl,_,Cell.ah g1 rfl,_,Cell.ah g1 rfl,vg ok fun w2 x2=>If.bne (fun h=>absurd rfl h) fun _=>?_⟩;have g2:w2.heap[b]? = some (.cells m.c.toArray 87 (0,0)):=(x2.au b (aV g1) fun h=>h).trans g1;refine⟨_,Cell.ah g2 rfl,_,Cell.ah g2 rfl,_,Cell.ah g2 rfl,jy rfl rfl (cF rfl) fun w4 g4 z4 x4=>?_⟩;have g5:w4.heap[b]? = some (.cells m.c.toArray 87 (0,0)):=(x4.au b (aV g2) fun h=>h).trans g2;obtain⟨h1,h2,h3,h4,h5,h6,h7⟩:=id ok;refine⟨_,Cell.ah g5 rfl,_,Cell.ah g4 rfl,Ar.u64 (by omega) ⟨_,Cell.ah g4 rfl,_,Cell.ah g4 rfl,Ar.u64 (by omega) ⟨_,Cell.ah g5 rfl,Ar.u64 (by omega) ⟨_,Cell.ah g5 rfl,Ar.u64 (by omega) ⟨_,Cell.ah g5 rfl,Ar.u64 (by omega) fun b2 w5 n5=>?_⟩⟩⟩⟩⟩;have own:aP w5.heap w4.heap.size 548 2 ⟨some ⟨b2,0,none⟩,7,7⟩ (m.ns.flatMap NS.c2):=aP.new (n:=7) n5 rfl (cF rfl);have x5:Ext No w w5:=((n1.ext.no x2).no x4).no n5.ext;refine⟨fun q s t u=>∃i:Nat,t=(i:Int)/\i<=7/\q=7 - i/\Ext No w u/\Ext No w5 u/\aD u.heap w5.heap.size s ((m.ns.take i).flatMap NS.b),⟨_,0,rfl,by omega,rfl,x5,Ext.refl _ _,aP.nil _ _ _ _⟩,?_⟩;rintro _ q s t w6 ⟨i,rfl,hi,rfl,x6,y6,o6⟩
 have lb:∀i,i<=7->((m.ns.take i).flatMap NS.b).length<=224:=fun i hi=>by
  have:i=0∨i=1∨i=2∨i=3∨i=4∨i=5∨i=6∨i=7:=by omega
  rcases this with rfl | rfl | rfl | rfl | rfl | rfl | rfl | rfl <;> simp[aI]
 have hs:s.len<=224:=by rw[aD.len o6];exact lb i hi
 have hz6:=y6.size;have hz5:=x5.size;refine If.dec (fun h=>?_) fun h=>?_
 .have iS:i < m.ns.length:=by show i < 7;omega
  refine Ix.elem (s:=⟨some ⟨b2,0,none⟩,7,7⟩) (f:=NS.c2) (l:=m.ns) ((own.no y6).rd) (fun _ _=>rfl) (by decide) (by omega) h fun bb o Hv _ hc=>?_
  have hp:=ok.ns _ (List.getElem_mem iS);refine⟨(m.ns[i]).n,hc 0 _ rfl,((m.ns[i]).z:Int),hc 1 _ rfl,jy rfl rfl (cF rfl) fun w8 g8 z8 x8=>⟨_,Cell.ah g8 rfl,_,Cell.ah g8 rfl,iK hp.1 (by have:=hp.2.2.1;omega) (by have:=hp.2.2.2;omega) (by rw[Int.toNat_natCast];exact hp.2.1) fun s9 w9 o9 x9=>?_⟩⟩;rw[Int.toNat_natCast]at o9;have V0:=x8.no x9;have hz9:=V0.size;have hs9:s9.len<=8:=by rw[aD.len o9,aI];exact hp.2.2.2
  refine bO (o6.no V0) (by omega) o9.rd.src (by omega) fun XW gG D9 _ fo _=>Ar.i64 (by omega) ⟨7 - (i+1),by omega,i+1,by omega,by omega,rfl,?_,?_,?_⟩
  .exact(x6.no V0).trans fo fun j hj e=>by have:=(o6.lt e).1;omega
  .refine(y6.no V0).trans fo fun j hj e=>?_
   have:=(o6.lt e).1;omega
  .rw[<- List.map_append]at D9;rw[List.take_succ_eq_append_getElem iS,List.flatMap_append,List.flatMap_cons,List.flatMap_nil,List.append_nil];exact D9
 .have:i=7:=by omega
  subst this;refine Ar.i64 (by omega) ?_;have e:(224:Int) - (s.len:Int)=((224 - s.len:Nat):Int):=by omega
  rw[e];refine DZ (k:= .i64) (ie:=Tryz.t5) (z:= .int .u8 0) (by kernel_rfl) (by kernel_rfl) (by kernel_rfl) (by kernel_rfl) (by kernel_rfl) (by kernel_rfl) rfl (by kernel_rfl) o6 hz6 (by omega) fun s' w' o _ x _=>?_
  rw[<- List.map_replicate,<- List.map_append]at o;have hl:=aD.len o6;refine k s' _ w' (o.mono hz5) ?_ ?_ (x6.trans x fun j hj e=>by have:=(o6.lt e).1;omega)
  .rw[List.length_append,List.length_replicate];omega
  .refine B8.append ?_ (B8.py _);intro x hx;obtain⟨p,_,hp⟩:=List.mem_flatMap.1 hx;exact bM _ _ x hp
abbrev MP.vZ(m:MP):gI:=⟨0,4,0,m.cm % 2,m.cm,m.rg⟩
theorem MP.OK.vZ(ok:m.OK):m.vZ.OK:=by
 have h1:=ok.cm;have h6:=ok.rg;simp only[gI.OK,lY];omega
theorem zK{K:Int->Int->Int->Int->Int->Int->Pw}(ok:m.OK)(k:∀w',Ext No w w'->K m.vZ.t m.vZ.kd m.vZ.lv m.vZ.pg m.vZ.cm m.vZ.gn w'):jT m.cm m.pg m.rc m.gn m.lv m.rg m.tn w K:=by
 apply DG;refine fun b w1 n1 b1 w2 n2=>?_
 have g1:w2.heap[b]? = some (.cells m.c.toArray 87 (0,0)):=(n2.ext.au b (aV n1.get) fun h=>h).trans n1.get;have h1:=ok.cm;refine⟨m.cm,Cell.ah g1 rfl,by decide,Nm.as (cQ (by omega)) (Ar.u32 (by omega) ⟨m.cm,Cell.ah g1 rfl,m.rg,Cell.ah g1 rfl,rfl,cr.mk n2.get (Nat.le_refl 6) (cF rfl) fun w3 h3=>?_⟩)⟩;have g3:=h3.get n2.get;have hb:=n2.at_;have x3:Ext No w w3:=(n1.ext.no n2.ext).out h3.ext (by have:=n1.size;omega);exact⟨_,Cell.ah g3 rfl,_,Cell.ah g3 rfl,_,Cell.ah g3 rfl,_,Cell.ah g3 rfl,_,Cell.ah g3 rfl,_,Cell.ah g3 rfl,k w3 x3⟩
theorem Fs{rb mb lb:Nat}{ks:List RK}{q:RK}{ls:Sl}{L:List LE}{K:Sl->Int->Pw}(ok:m.OK)(R:kR w rb mb ks)(hf:tu ks ⟨0,m.rg⟩=some q)(G:nw w.heap lb ls L)(hL:L.length<=1000)
  (k:∀s r pl oR w',aD w'.heap w.heap.size s (aS++r)->r.length=252->B8 r->nw w'.heap lb oR (L++[⟨m.vZ,q.l,pl,aS++r⟩])->(∀i,oR.au=some i->ls.au=some i∨w.heap.size<=i)->(∀i,s.au=some i->oR.au≠some i)->Ext (fun i=>i=lb∨ls.au=some i) w w'->K s 0 w'):uL (some ⟨rb,0,none⟩) (some ⟨lb,0,none⟩) m.cm m.pg m.rc m.gn m.lv m.rg m.tn w K:=by
 apply Jt
 refine fun b w1 n1=>⟨fun u=>w1=u,If.no (If.no rfl),?_⟩
 rintro _ _ rfl;have g1:w1.heap[b]? = some (.cells m.c.toArray 87 (0,0)):=n1.get;refine⟨_,Cell.ah g1 rfl,_,Cell.ah g1 rfl,_,Cell.ah g1 rfl,_,Cell.ah g1 rfl,_,Cell.ah g1 rfl,_,Cell.ah g1 rfl,_,Cell.ah g1 rfl,Cn ok fun s3 l3 w3 o3 ZO hB3 x3=>If.bne (fun h=>absurd rfl h) fun _=>?_⟩;have g3:w3.heap[b]? = some (.cells m.c.toArray 87 (0,0)):=(x3.au b (aV g1) fun h=>h).trans g1;have qf:=n1.ext.no x3;refine⟨m.rg,Cell.ah g3 rfl,nu (R.no qf) hf fun s4 w4 o4 x4=>If.bne (fun h=>absurd rfl h) fun _=>?_⟩;have g4:w4.heap[b]? = some (.cells m.c.toArray 87 (0,0)):=(x4.au b (aV g3) fun h=>h).trans g3;refine⟨_,Cell.ah g4 rfl,_,Cell.ah g4 rfl,_,Cell.ah g4 rfl,_,Cell.ah g4 rfl,_,Cell.ah g4 rfl,_,Cell.ah g4 rfl,_,Cell.ah g4 rfl,zK ok fun w5 x5=>?_⟩;have Bz:=qf.no x4;have nC:=Bz.no x5;have hq:=R.key q (List.mem_of_find?_eq_some hf);have z1:=n1.ext.size;have z3:=qf.size;have z4:=Bz.size;have z5:=nC.size;have Tl:∀i,ls.au=some i->i < w.heap.size:=fun i hi=>(G.own.lt hi).2
 refine zH (l:=m.vZ) (G.no nC) hL ok.vZ ⟨by show(1:Int)<=4;decide,by show(4:Int)<=4;decide⟩ (o4.rd.no x5) hq.2.1 (by rw[aD.len o4,<- aL.len hq.1];exact hq.2.2) (o3.rd.no (x4.no x5)) (by rw[aD.len o3];exact ZO) (fun i hi e=>?_) (fun i hi e=>?_) fun s r oR w6 o6 hr hB G6 X_ P0 x6=>k s r l3 oR w6 (o6.mono z5) hr hB G6 (fun i hi=>(X_ i hi).imp id fun h=>by omega) P0 (nC.aF.trans x6 fun i _ h=>h)
 .have:=Tl i e;have:=(o4.lt hi).1;omega
 .have:=Tl i e;have:=(o3.lt hi).1;omega
end
end Go.Proofs.YtefdekemmnnclaaGreat
namespace Go.Proofs.YtefdekemmnnclaaGreat
open Go.V Go.V.Dk
section
variable {w:Wd} {d:vY} {D:DS}
theorem RG{s b:Sl}{l:List (List Int)}{i at_:Int}{bs:List Int}{K:Pw}(o1:aP w.heap 0 128 256 s (l.flatMap gD))(rows:∀x∈l,Row x)(hi:0<=i/\i.toNat < l.length)(hb:aL w.heap b bs)(hat:0<=at_/\at_ < 256)(hle:at_+bs.length<=256)
  (k:∀w',aP w'.heap 0 128 256 s ((l.set i.toNat (nQ (l.getD i.toNat []) at_.toNat bs)).flatMap gD)->Ext (fun j=>s.au=some j) w w'->w'.heap.size=w.heap.size->K w') :
  Ix s.a s.len i 256 fun a=>Cut ⟨some a,256,256⟩ at_ (((256:Nat):Int)) (((256:Nat):Int)) 1 fun s1=>hO pz 25 25 s1 (.slice b.a b.len b.cap) (fun _ w3=>K w3) w:=by
 have fl:=cC (iD rows);have aV:i.toNat * 256+256<=(l.flatMap gD).length:=by rw[fl];omega
 have pA:s.len=l.length:=by have:=o1.len;rw[fl]at this;omega
 obtain⟨bf,rest,ha,TH,O3,hc,jB⟩:=o1.place (by intro h;rw[h]at aV;simp at aV);refine⟨_,ha,hi.1,by omega,?_⟩;rw[show(⟨bf,0,none⟩ : Addr).add (i.toNat * 256)=⟨bf,i.toNat * 256,none⟩ by rw[ay rfl];simp];rw[show at_=((at_.toNat:Nat):Int) by omega];refine Cut.from (b:=bf) (off:=i.toNat * 256) (n:=256) (lo:=at_.toNat) (hi:=256) (by omega) (by omega) (by omega) ?_
 have z_:=aL.len hb;refine lE rfl O3 hb (by rw[List.length_append];simp only;omega) fun w5 PU=>?_
 have et:(bs.map (Value.int .u8)).take (min b.len (256 - at_.toNat) * 1)=bs.map (Value.int .u8):=List.take_of_length_le (by rw[List.length_map];omega);simp only[et]at PU;obtain⟨o5,x5,z5⟩:=o1.upd ha TH O3 hc jB PU cZ (by rw[List.length_map];omega);rw[O8 rows hi.2 (by omega)]at o5;exact k w5 o5 x5 z5
theorem Be{i at_:Int}{b:Sl}{bs:List Int}{K:Int->Pw}(r:bg w.heap d D)(hi:hasB D i=true)(hb:aL w.heap b bs)(hB:B8 bs)(VV:∀i,b.au=some i->¬ d.fp i)(hat:0<=at_/\at_ < 256)(hle:at_+bs.length<=256)
  (k:∀w',bg w'.heap d (jI D i at_.toNat bs)->Ext d.fp w w'->K 0 w'):hZ d.p i at_ b w K:=by
 apply vX;have z_:=aL.len hb;have iS:0<=i/\i < D.now.length:=by simpa[hasB] using hi
 have hn:=r.wf.n;refine If.no ⟨fun u=>w=u,nq r (by rw[hi];exact If.not (If.yes (If.dec (fun h=>by omega) fun _=>If.dec (fun h=>by omega) fun _=>Ar.i64 (by omega) (If.dec (fun h=>by omega) fun _=>rfl)))),?_⟩;rintro _ _ rfl;refine Nn.mk ⟨d.sn,Cell.ah r.au rfl,RG r.now r.wf.rn ⟨iS.1,by omega⟩ hb hat hle fun w3 o3 x3 z3=>?_⟩;have adY:Row (nQ (D.now.getD i.toNat []) at_.toNat bs):=rL (l_ r.wf.rn (by omega)) hB (by omega);have r3:=r.RB o3 x3 ⟨by simp only[List.length_set];exact hn,by simp only[List.length_set];exact r.wf.lo,by simp only[List.length_set];exact r.wf.hi,uv r.wf.rn adY,r.wf.rf,fun p hp=>by simp only[List.length_set];exact r.wf.rw p hp,r.wf.fl,r.wf.ct⟩;have tq:aL w3.heap b bs:=hb.ext x3 fun a c ha hc h=>VV c (by simp[Sl.au,ha,hc]) (.inr (.inl h))
 refine Nn.mk ⟨d.sf,Cell.ah r3.au rfl,RG r3.gC r3.wf.rf ⟨iS.1,by show _ < D.gC.length;omega⟩ tq hat hle fun w5 o5 x5 z5=>?_⟩;have afo:Row (nQ (D.gC.getD i.toNat []) at_.toNat bs):=rL (l_ r.wf.rf (by omega)) hB (by omega);have r5:=r3.NO o5 x5 (Ly r.wf iS hB (by omega));exact k w5 r5 ((x3.mono fun j _ h=> .inr (.inl h)).trans x5 fun j _ h=> .inr (.inr (.inl h)))
end
end Go.Proofs.YtefdekemmnnclaaGreat
namespace Go.Proofs.YtefdekemmnnclaaGreat
open Go.V Go.V.Dk Go.V.Rn
structure KP where
 n:Int
 l:gI
 s:Sl
 b:List Int
abbrev KP.v(k:KP):Value:= .agg (#[.int .u32 k.l.t,.int .u8 k.l.kd,.int .u8 k.l.lv,.int .u32 k.l.pg,.int .u64 k.l.cm,.int .u16 k.l.gn,k.s.v])
abbrev KP.e(k:KP):Int×Value:=(k.n,k.v)
structure SA where
 d:vY
 D:DS
 g:EK
 R:RS
 rb:Nat
 mb:Nat
 ks:List RK
 lb:Nat
 ls:Sl
 L:List LE
 pb:Nat
 fr:Sl
 F:List fP
 kb:Nat
 ps:List KP
 wb:Nat
 nb:Nat
 pm:Option Nat
 dm:Option Nat
 pu:List Int
 cm:Int
 la:Int
 fl:Bool
abbrev SA.pC(s:SA):List Value:=[.pointer s.d.p,.pointer (some ⟨s.rb,0,none⟩),.pointer (some ⟨s.lb,0,none⟩),s.fr.v,.map (some s.kb),.map (some s.wb),.map s.pm,.map s.dm,.map (some s.nb),.int .u64 s.cm,.int .u64 s.la,.bool s.fl,.bool false]
abbrev qg:Int->Value:=Value.int .u32
abbrev Yh(l:List Int):List (Int×Value):=l.map fun n=>(n,Value.bool true)
structure Calm(D:DS):Prop where
 n:D.now.length=100
 fail:D.fail=0
 cut:D.cut = -1
 down:D.down=false
 st:0<=D.steps/\D.steps<=1000
 w:D.waits.length<=1000
theorem Calm.step{D:DS}(c:Calm D):cj D=(0,{ D with steps:=D.steps+1 }):=by
 obtain⟨_,h1,h2,h3,_,_⟩:=c;unfold cj;simp[h1,h2,h3]
section
variable {w w':Wd} {T T':Nat->Nat} {s:SA} {S:Nat->Prop}
structure Yi(w:Wd)(T:Nat->Nat)(d:vY)(D:DS):Prop where
 r:bg w.heap d D
 t:∀i,d.fp i->T i=1
 c:Calm D
structure V4(w:Wd)(T:Nat->Nat)(d:vY)(g:EK)(R:RS):Prop where
 r:fM w.heap g R
 t:∀i,g.fp i->T i=2
 d:R.dev=d.p
structure Yj(w:Wd)(T:Nat->Nat)(rb mb:Nat)(ks:List RK):Prop where
 r:kR w rb mb ks
 t:T rb=3
 t2:T mb=3
 t3:∀k∈ks,∀i,k.s.au=some i->T i=3
 n:ks.length<=100
structure Yk(w:Wd)(T:Nat->Nat)(lb:Nat)(ls:Sl)(L:List LE):Prop where
 r:nw w.heap lb ls L
 t:T lb=4
 t2:∀i,ls.au=some i->T i=4
 n:L.length<=100
structure PbC(w:Wd)(T:Nat->Nat)(pb:Nat)(cs:List Value):Prop where
 r:w.heap[pb]? = some (.cells cs.toArray 287 (0,0))
 t:T pb=5
structure FrC(w:Wd)(T:Nat->Nat)(fr:Sl)(F:List fP):Prop where
 r:Ii w.heap fr F
 t:∀i,fr.au=some i->T i=6/\i < w.heap.size
 u:EF F
 n:F.length<=1000
structure KnC(w:Wd)(T:Nat->Nat)(kb:Nat)(ps:List KP):Prop where
 r:fh w.heap qg kb (ps.map KP.e)
 t:T kb=7
 p:∀k∈ps,aL w.heap k.s k.b/\(∀i,k.s.au=some i->T i=12/\i < w.heap.size)/\B8 k.b/\k.b.length=224/\k.l.OK/\(1<=k.l.kd/\k.l.kd<=4)
structure MpC(w:Wd)(T:Nat->Nat)(wb nb:Nat)(pm:Option Nat)(pu:List Int):Prop where
 r:fh w.heap qg wb ([]:List (Int×Value))
 t:T wb=8
 r2:fh w.heap qg nb ([]:List (Int×Value))
 t2:T nb=9
 r3:∀m,pm=some m->fh w.heap qg m (Yh pu)/\T m=10
structure Sy(w:Wd)(T:Nat->Nat)(s:SA):Prop where
 dk:Yi w T s.d s.D
 rg:V4 w T s.d s.g s.R
 rn:Yj w T s.rb s.mb s.ks
 lg:Yk w T s.lb s.ls s.L
 pb:PbC w T s.pb s.pC
 fr:FrC w T s.fr s.F
 kn:KnC w T s.kb s.ps
 mp:MpC w T s.wb s.nb s.pm s.pu
 out:∀i,w.heap.size<=i->T i=0
abbrev Ag(T T':Nat->Nat)(n:Nat):Prop:=∀i,i < n->T' i=T i
theorem map_lt{α:Type}{enc:α->Value}{r:Nat}{m:List (α×Value)}(h:fh w.heap enc r m):r < w.heap.size:=by obtain⟨es,clock,hb,_⟩:=h;exact aV hb
theorem Yi.aM{d:vY}{D:DS}(c:Yi w T d D)(x:Ext S w w')(a:Ag T T' w.heap.size)(h:∀i,T i=1->¬ S i):Yi w' T' d D:=
 ⟨c.r.ext x fun i hi=>h i (c.t i hi),fun i hi=>(a i (c.r.lt hi)).trans (c.t i hi),c.c⟩
theorem V4.aM{d:vY}{g:EK}{R:RS}(c:V4 w T d g R)(x:Ext S w w')(a:Ag T T' w.heap.size)(h:∀i,T i=2->¬ S i):V4 w' T' d g R:=
 ⟨c.r.ext x fun i hi=>h i (c.t i hi),fun i hi=>(a i (c.r.lt hi)).trans (c.t i hi),c.d⟩
theorem kR.klt{rb mb:Nat}{ks:List RK}(R:kR w rb mb ks){k:RK}(hk:k∈ks){i:Nat}(hi:k.s.au=some i):i < w.heap.size:=by
 have:=R.key k hk;refine Rd.lt this.1 ?_ hi;intro e;have h2:=aL.len this.1;have h3:k.l.length=0:=by have:=congrArg List.length e;simpa using this
 rcases this.2.2 with h | h <;> omega
theorem Yj.aM{rb mb:Nat}{ks:List RK}(c:Yj w T rb mb ks)(x:Ext S w w')(a:Ag T T' w.heap.size)(h:∀i,T i=3->¬ S i):Yj w' T' rb mb ks:=
 ⟨c.r.ext x (h _ c.t) (h _ c.t2) fun k hk i hi=>h i (c.t3 k hk i hi),(a _ (aV c.r.au)).trans c.t,(a _ (map_lt c.r.map)).trans c.t2,fun k hk i hi=>(a i (c.r.klt hk hi)).trans (c.t3 k hk i hi),c.n⟩
theorem Yk.aM{lb:Nat}{ls:Sl}{L:List LE}(c:Yk w T lb ls L)(x:Ext S w w')(a:Ag T T' w.heap.size)(h:∀i,T i=4->¬ S i):Yk w' T' lb ls L:=
 ⟨c.r.ext x (h _ c.t) fun i hi=>h i (c.t2 i hi),(a _ (aV c.r.au)).trans c.t,fun i hi=>(a i (c.r.own.lt hi).2).trans (c.t2 i hi),c.n⟩
theorem PbC.aM{pb:Nat}{cs:List Value}(c:PbC w T pb cs)(x:Ext S w w')(a:Ag T T' w.heap.size)(h:∀i,T i=5->¬ S i):PbC w' T' pb cs:=
 ⟨(x.au _ (aV c.r) (h _ c.t)).trans c.r,(a _ (aV c.r)).trans c.t⟩
theorem FrC.aM{fr:Sl}{F:List fP}(c:FrC w T fr F)(x:Ext S w w')(a:Ag T T' w.heap.size)(h:∀i,T i=6->¬ S i):FrC w' T' fr F:=
 ⟨c.r.ext x fun p b hp hb=>h b (c.t b (by simp[Sl.au,hp,hb])).1,fun i hi=>⟨(a i (c.t i hi).2).trans (c.t i hi).1,Nat.lt_of_lt_of_le (c.t i hi).2 x.size⟩,c.u,c.n⟩
theorem KnC.aM{kb:Nat}{ps:List KP}(c:KnC w T kb ps)(x:Ext S w w')(a:Ag T T' w.heap.size)(h:∀i,T i=7->¬ S i)(h2:∀i,T i=12->¬ S i):KnC w' T' kb ps:=
 ⟨c.r.ext x (h _ c.t),(a _ (map_lt c.r)).trans c.t,fun k hk=>⟨(c.p k hk).1.ext x fun p b hp hb=>h2 b ((c.p k hk).2.1 b (by simp[Sl.au,hp,hb])).1,fun i hi=>⟨(a i ((c.p k hk).2.1 i hi).2).trans ((c.p k hk).2.1 i hi).1,Nat.lt_of_lt_of_le ((c.p k hk).2.1 i hi).2 x.size⟩,(c.p k hk).2.2⟩⟩
theorem MpC.aM{wb nb:Nat}{pm:Option Nat}{pu:List Int}(c:MpC w T wb nb pm pu)(x:Ext S w w')(a:Ag T T' w.heap.size)(h:∀i,T i=8->¬ S i)(h2:∀i,T i=9->¬ S i)(h3:∀i,T i=10->¬ S i):MpC w' T' wb nb pm pu:=
 ⟨c.r.ext x (h _ c.t),(a _ (map_lt c.r)).trans c.t,c.r2.ext x (h2 _ c.t2),(a _ (map_lt c.r2)).trans c.t2,fun m hm=>⟨(c.r3 m hm).1.ext x (h3 _ (c.r3 m hm).2),(a _ (map_lt (c.r3 m hm).1)).trans (c.r3 m hm).2⟩⟩
def iB(T:Nat->Nat)(n n' c:Nat)(i:Nat):Nat:=if i < n then T i else if i < n' then c else 0
theorem bC(T:Nat->Nat)(n n' c:Nat):Ag T (iB T n n' c) n:=fun _ hi=>if_pos hi
theorem pE(T:Nat->Nat)(n n' c:Nat)(h:n<=n'):∀i,n'<=i->iB T n n' c i=0:=fun _ hi=>by unfold iB;rw[if_neg (by omega),if_neg (by omega)]
theorem cR(T:Nat->Nat){n n' c i:Nat}(h:n<=i)(h':i < n'):iB T n n' c i=c:=by unfold iB;rw[if_neg (by omega),if_pos h']
structure fg(T:Nat->Nat)(w:Wd)(T':Nat->Nat)(w':Wd):Prop where
 a:Ag T T' w.heap.size
 x:Ext (fun i=>1<=T i/\T i<=12) w w'
theorem fg.no(x:Ext No w w'):fg T w T w':=⟨fun _ _=>rfl,x.aF⟩
theorem fg.trans{T1 T2:Nat->Nat}{w1 w2:Wd}(h:fg T w T1 w1)(k:fg T1 w1 T2 w2):fg T w T2 w2:=
 ⟨fun i hi=>(k.a i (Nat.lt_of_lt_of_le hi h.x.size)).trans (h.a i hi),h.x.trans k.x fun i hi hh=>by rw[h.a i hi]at hh;exact hh⟩
theorem fg.of(h:∀i,S i->1<=T i/\T i<=12)(x:Ext S w w')(a:Ag T T' w.heap.size):fg T w T' w':=⟨a,x.mono fun i _ hi=>h i hi⟩
theorem fg.nx{T1:Nat->Nat}{w1:Wd}(h:fg T w T1 w1)(k:Ext No w1 w'):fg T w T1 w':=h.trans (.no k)
theorem fg.au{o:Obj}{b:Nat}(h:fg T w T' w')(hb:w.heap[b]? = some o)(ht:T b=0∨13<=T b):w'.heap[b]? = some o:=(h.x.au b (aV hb) fun hh=>by omega).trans hb
theorem Sy.tag(y:Sy w T s)(x:Ext No w w')(c:Nat):Sy w' (iB T w.heap.size w'.heap.size c) s:=by
 have a:=bC T w.heap.size w'.heap.size c;have f:∀(k i:Nat),T i=k->¬ No i:=fun _ _ _ h=>h
 exact⟨y.dk.aM x a (f 1),y.rg.aM x a (f 2),y.rn.aM x a (f 3),y.lg.aM x a (f 4),y.pb.aM x a (f 5),y.fr.aM x a (f 6),y.kn.aM x a (f 7) (f 12),y.mp.aM x a (f 8) (f 9) (f 10),pE _ _ _ _ x.size⟩
theorem Sy.no(y:Sy w T s)(x:Ext No w w'):Sy w' T s:=by
 have a:Ag T T w.heap.size:=fun _ _=>rfl
 have f:∀(k i:Nat),T i=k->¬ No i:=fun _ _ _ h=>h
 exact⟨y.dk.aM x a (f 1),y.rg.aM x a (f 2),y.rn.aM x a (f 3),y.lg.aM x a (f 4),y.pb.aM x a (f 5),y.fr.aM x a (f 6),y.kn.aM x a (f 7) (f 12),y.mp.aM x a (f 8) (f 9) (f 10),fun i hi=>y.out i (Nat.le_trans x.size hi)⟩
theorem Sy.Yl{d':vY}{D':DS}(y:Sy w T s)(r:bg w'.heap d' D')(g:Fo w s.d d')(x:Ext s.d.fp w w')(c:Calm D'):Sy w' (iB T w.heap.size w'.heap.size 1) { s with d:=d',D:=D' }/\fg T w (iB T w.heap.size w'.heap.size 1) w':=by
 have a:=bC T w.heap.size w'.heap.size 1;have hp:d'.p=s.d.p:=by show some (Addr.mk d'.b 0 none)=some (Addr.mk s.d.b 0 none);rw[g.b]
 have f:∀(k:Nat),k≠1->∀i,T i=k->¬ s.d.fp i:=fun k hk i h e=>hk (h.symm.trans (y.dk.t i e))
 refine⟨⟨⟨r,fun i hi=>?_,c⟩,?_,y.rn.aM x a (f 3 (by decide)),y.lg.aM x a (f 4 (by decide)),?_,y.fr.aM x a (f 6 (by decide)),y.kn.aM x a (f 7 (by decide)) (f 12 (by decide)),y.mp.aM x a (f 8 (by decide)) (f 9 (by decide)) (f 10 (by decide)),pE _ _ _ _ x.size⟩,.of (fun i hi=>by rw[y.dk.t i hi];decide) x a⟩
 .rcases g.fp i hi with h | h
  .exact(a i (y.dk.r.lt h)).trans (y.dk.t i h)
  .exact cR T h (r.lt hi)
 .have k:=y.rg.aM x a (f 2 (by decide));exact⟨k.r,k.t,k.d.trans hp.symm⟩
 .have k:=y.pb.aM x a (f 5 (by decide));refine⟨?_,k.t⟩;have:=k.r;simp only[SA.pC]at this ⊢;rw[hp];exact this
end
end Go.Proofs.YtefdekemmnnclaaGreat
namespace Go.Proofs.YtefdekemmnnclaaGreat
open Go.V Go.V.Dk Go.V.Rn
section
variable {w w':Wd} {T T':Nat->Nat} {s:SA} {S:Nat->Prop}
theorem Sy.abt{R':RS}{D':DS}(y:Sy w T s)(q:fM w'.heap s.g R')(r:bg w'.heap s.d D')(x:Ext (fun i=>i=s.g.rb∨i=s.d.b) w w')(hd:R'.dev=s.d.p)(c:Calm D'):Sy w' T { s with R:=R',D:=D' }/\fg T w T w':=by
 have a:Ag T T w.heap.size:=fun _ _=>rfl
 have t1:T s.d.b=1:=y.dk.t _ (.inl rfl);have t2:T s.g.rb=2:=y.rg.t _ (.inl rfl)
 have f:∀(k:Nat),k≠1->k≠2->∀i,T i=k->¬ (i=s.g.rb∨i=s.d.b):=fun k h1 h2 i h e=>by
  rcases e with rfl | rfl
  .exact h2 (h.symm.trans t2)
  .exact h1 (h.symm.trans t1)
 exact⟨⟨⟨r,y.dk.t,c⟩,⟨q,y.rg.t,hd⟩,y.rn.aM x a (f 3 (by decide) (by decide)),y.lg.aM x a (f 4 (by decide) (by decide)),y.pb.aM x a (f 5 (by decide) (by decide)),y.fr.aM x a (f 6 (by decide) (by decide)),y.kn.aM x a (f 7 (by decide) (by decide)) (f 12 (by decide) (by decide)),y.mp.aM x a (f 8 (by decide) (by decide)) (f 9 (by decide) (by decide)) (f 10 (by decide) (by decide)),fun i hi=>y.out i (Nat.le_trans x.size hi)⟩,
  .of (fun i hi=>by rcases hi with rfl | rfl <;> simp[t1,t2]) x a⟩
theorem Sy.ring{k:RK}(y:Sy w T s)(r:kR w' s.rb s.mb (s.ks++[k]))(hk:∀i,k.s.au=some i->w.heap.size<=i)(x:Ext (·=s.mb) w w')(hn:s.ks.length < 100):Sy w' (iB T w.heap.size w'.heap.size 3) { s with ks:=s.ks++[k] }/\fg T w (iB T w.heap.size w'.heap.size 3) w':=by
 have a:=bC T w.heap.size w'.heap.size 3;have f:∀(k:Nat),k≠3->∀i,T i=k->¬ (i=s.mb):=fun k hk i h e=>by subst e;exact hk (h.symm.trans y.rn.t2)
 have c:=y.rn
 refine⟨⟨y.dk.aM x a (f 1 (by decide)),y.rg.aM x a (f 2 (by decide)),⟨r,(a _ (aV c.r.au)).trans c.t,(a _ (map_lt c.r.map)).trans c.t2,fun q hq i hi=>?_,by simp;omega⟩,y.lg.aM x a (f 4 (by decide)),y.pb.aM x a (f 5 (by decide)),y.fr.aM x a (f 6 (by decide)),y.kn.aM x a (f 7 (by decide)) (f 12 (by decide)),y.mp.aM x a (f 8 (by decide)) (f 9 (by decide)) (f 10 (by decide)),pE _ _ _ _ x.size⟩,
  .of (fun i hi=>by rw[hi,c.t2];decide) x a⟩
 rcases List.mem_append.1 hq with h | h
 .exact(a i (c.r.klt h hi)).trans (c.t3 q h i hi)
 .simp only[List.mem_singleton]at h;subst h;exact cR T (hk i hi) (r.klt (List.mem_append.2 (.inr (List.mem_singleton.2 rfl))) hi)
theorem Sy.log{e:LE}{oR:Sl}(y:Sy w T s)(r:nw w'.heap s.lb oR (s.L++[e]))(hl:∀i,oR.au=some i->s.ls.au=some i∨w.heap.size<=i)(x:Ext (fun i=>i=s.lb∨s.ls.au=some i) w w')(hn:s.L.length < 100):Sy w' (iB T w.heap.size w'.heap.size 4) { s with ls:=oR,L:=s.L++[e] }/\fg T w (iB T w.heap.size w'.heap.size 4) w':=by
  have a:=bC T w.heap.size w'.heap.size 4;have c:=y.lg
  have f:∀(k:Nat),k≠4->∀i,T i=k->¬ (i=s.lb∨s.ls.au=some i):=fun k hk i h e=>by
    rcases e with rfl | e
    · exact hk (h.symm.trans c.t)
    · exact hk (h.symm.trans (c.t2 i e))
  refine⟨⟨y.dk.aM x a (f 1 (by decide)),y.rg.aM x a (f 2 (by decide)),y.rn.aM x a (f 3 (by decide)),⟨r,(a _ (aV c.r.au)).trans c.t,fun i hi=>?_,by simp;omega⟩,y.pb.aM x a (f 5 (by decide)),y.fr.aM x a (f 6 (by decide)),y.kn.aM x a (f 7 (by decide)) (f 12 (by decide)),y.mp.aM x a (f 8 (by decide)) (f 9 (by decide)) (f 10 (by decide)),pE _ _ _ _ x.size⟩,
    .of (fun i hi => by rcases hi with rfl | h; · rw [c.t]; decide
                        · rw[c.t2 i h];decide) x a⟩
  rcases hl i hi with h | h
  · exact(a i (c.r.own.lt h).2).trans (c.t2 i h)
  · exact cR T h (r.own.lt hi).2
theorem Sy.P2{fr':Sl}{F':List fP}{pm' dm':Option Nat}{pu':List Int}{cm' la':Int}{fl':Bool}(y:Sy w T s)(r:w'.heap[s.pb]? = some (.cells ({ s with fr:=fr',pm:=pm',dm:=dm',cm:=cm',la:=la',fl:=fl' }:SA).pC.toArray 287 (0,0)))(x:Ext (·=s.pb) w w')
    (hf:FrC w T fr' F') (hm:MpC w T s.wb s.nb pm' pu'):Sy w' T { s with fr:=fr',F:=F',pm:=pm',dm:=dm',pu:=pu',cm:=cm',la:=la',fl:=fl' }/\fg T w T w':=by
  have a:Ag T T w.heap.size:=fun _ _=>rfl
  have t5:=y.pb.t;have f:∀(k:Nat),k≠5->∀i,T i=k->¬ (i=s.pb):=fun k hk i h e=>by subst e;exact hk (h.symm.trans t5)
  exact⟨⟨y.dk.aM x a (f 1 (by decide)),y.rg.aM x a (f 2 (by decide)),y.rn.aM x a (f 3 (by decide)),y.lg.aM x a (f 4 (by decide)),⟨r,t5⟩,hf.aM x a (f 6 (by decide)),y.kn.aM x a (f 7 (by decide)) (f 12 (by decide)),hm.aM x a (f 8 (by decide)) (f 9 (by decide)) (f 10 (by decide)),fun i hi=>y.out i (Nat.le_trans x.size hi)⟩,
    .of (fun i hi=>by rw[hi,t5];decide) x a⟩
abbrev SA.p(s:SA):Option Addr:=some ⟨s.pb,0,none⟩
theorem MC{p:Option Addr}{K:Int->Pw}(y:Sy w T s)(k:K 0 w)(hp:p=s.p:=by rfl):bS p w K:=by
 subst hp;apply yX;exact If.no (Nn.mk ⟨_,Cell.ah y.pb.r rfl,If.no k⟩)
theorem abu{p:Option Addr}{n:Int}{K:Bool->Pw}(y:Sy w T s)(hn:0<=n/\n<=4294967295)(k:K (decide (2<=n/\n < 100)) w)(hp:p=s.p:=by rfl):cK p n w K:=by
 subst hp;apply yV;refine If.dec (fun h=>Ar.i64 (by omega) (Nn.mk ⟨_,Cell.ah y.pb.r rfl,tp y.dk.r ?_⟩)) fun h=>?_
 .have e:decide (n < ((s.D.now.length:Nat):Int))=decide (2<=n/\n < 100):=by rw[y.dk.c.n];exact decide_eq_decide.2 (by omega)
  rw[e];exact k
 .rw[show decide (2<=n/\n < 100)=false from decide_eq_false (by omega)]at k;exact k
theorem RH{p:Option Addr}{K:Bool->Pw}(y:Sy w T s)(k:K (decide (s.cm≠0) && !s.fl) w)(hp:p=s.p:=by rfl):ey p w K:=by
 subst hp;apply xA;refine Nn.mk ⟨_,Cell.ah y.pb.r rfl,If.bne (fun h=>Nn.mk ⟨_,Cell.ah y.pb.r rfl,?_⟩) fun h=>?_⟩
 .rw[decide_eq_true h]at k;exact k
 .rw[decide_eq_false (fun e=>e h)]at k;exact k
theorem RI{p:Option Addr}{K:Bool->Pw}(y:Sy w T s)(k:K false w)(hp:p=s.p:=by rfl):eQ p w K:=by
 subst hp;apply uQ;exact If.not (If.no (Nn.mk ⟨_,Cell.ah y.pb.r rfl,k⟩))
theorem abv{p:Option Addr}{K:Int->Pw}(y:Sy w T s)(k:K s.la w)(hp:p=s.p:=by rfl):iY p w K:=by
 subst hp;apply xB;exact If.no (Nn.mk ⟨_,Cell.ah y.pb.r rfl,k⟩)
theorem NQ{p:Option Addr}{K:Int->Bool->Pw}(y:Sy w T s)(k0:s.cm=0->K 0 false w)(k:s.cm≠0->K s.cm s.fl (aa w))(hp:p=s.p:=by rfl):eU p w K:=by
 subst hp;apply uR;refine⟨fun u=>w=u/\s.cm≠0,If.no (Nn.mk ⟨_,Cell.ah y.pb.r rfl,If.beq k0 fun h=>⟨rfl,h⟩⟩),?_⟩;rintro _ _ ⟨rfl,h⟩;exact⟨Ext No w,(Ext.refl _ _).drew,Nn.mk ⟨_,af.bq (Cell.ah y.pb.r rfl) (fun h=>h),Nn.mk ⟨_,af.bq (Cell.ah y.pb.r rfl) (fun h=>h),k h⟩⟩⟩
theorem HU{p:Option Addr}{K:Int->Pw}(y:Sy w T s)(k:∀w',Sy w' T s->fg T w T w'->K 0 w')(hp:p=s.p:=by rfl):aR p 0 w K:=by
 subst hp;apply uP;refine Nn.mk ⟨_,Cell.ah y.pb.r rfl,If.no (Nn.mk (aH.mk y.pb.r (Nat.le_refl 13) rfl fun w1 h1=>?_))⟩;obtain⟨y1,s1⟩:=y.P2 (F':=s.F) (pu':=s.pu) (h1.get y.pb.r) h1.ext y.fr y.mp;exact k w1 y1 s1
end
end Go.Proofs.YtefdekemmnnclaaGreat
namespace Go.V
theorem Em{α:Type}[DecidableEq α]{a:α}:∀{m:List (α×Value)},(∀p∈m,p.1≠a)->mG a m=none
 | [],_=>rfl
 | p::m,h=>by
  unfold mG;rw[if_neg (fun e=>h p List.mem_cons_self e.symm)];exact Em fun q hq=>h q (List.mem_cons_of_mem _ hq)
theorem zL{α:Type}[DecidableEq α]{a:α}{v:Value}{m:List (α×Value)}(h:∀p∈m,p.1≠a):Gz a v m=m++[(a,v)]:=by
 have Dh:gq a m 0=none:=by have:=kX a m 0;rw[Em h]at this;simpa using this
 exact(iT Dh).1
theorem RJ{α:Type}[DecidableEq α]{a:α}{m:List (α×Value)}(h:∀p∈m,p.1≠a):GA a m=m:=by
 have Dh:gq a m 0=none:=by have:=kX a m 0;rw[Em h]at this;simpa using this
 exact(iT (v:= .nilFunc) Dh).2
end Go.V
namespace Go.Proofs.YtefdekemmnnclaaGreat
open Go.V Go.V.Dk Go.V.Rn
section
variable {w w':Wd} {T T':Nat->Nat} {s:SA}
theorem zM:oT pz 24 qg:=GB (by kernel_rfl)
theorem MD:Tryz.prog.underlying 284=some (.map 24 4):=by kernel_rfl
theorem HV:Tryz.prog.underlying 283=some (.map 24 478):=by kernel_rfl
def abw:Value->Int
 | .int _ n=>n
 | _=>0
theorem BE{m:Nat}{l:List Int}{K:Sl->Pw}(hm:fh w.heap qg m (Yh l))(hl:l.length<=1)(k:∀s w',aP w'.heap w.heap.size 24 1 s (l.map (Value.int .u32))->Ext No w w'->K s w'):jS (some m) w K:=by
 apply DL;obtain⟨w1,kN,hI,hx,hz⟩:=Cl.start (P:=pz) MD hm;have afp:=map_lt hm;refine⟨some ⟨w.heap.size,0,none⟩,w1,kN,fun q s u=>∃sm,q=l.length - sm.length/\Cl qg u w.heap.size m (Yh l) sm/\aP u.heap (w.heap.size+1) 24 1 s ((sm.map Prod.fst).map (Value.int .u32))/\sm.length<=l.length/\Ext No w u,⟨_,[],rfl,hI,aP.nil _ _ _ _,Nat.zero_le _,hx⟩,?_⟩;rintro _ m0 s w2 ⟨sm,rfl,hI,ho,pA,x2⟩;have hz2:=x2.size;have Xi:=hI.lt;have Ck:(Yh l).length=l.length:=List.length_map _;rcases hI.next (P:=pz) (by omega) with⟨hp,w3,hn,x3⟩ | ⟨p,w3,hn,he,hI3,x3,ZS,VH,hlen⟩
 .refine .inl ⟨w3,hn,?_⟩
  have e:sm.map Prod.fst=l:=by
   have h1:(sm.map Prod.fst).Perm l:=by
    have:=hp.map (fun p:Value×Value=>abw p.1);simp only[kM,List.map_map,Function.comp_def,abw]at this;simpa using this
   have h2:=h1.length_eq
   cases h:l with
   | nil=>rw[h]at h2;exact List.length_eq_zero_iff.1 h2
   | cons a tl=>
    rw[h]at h1 hl;have:tl=[]:=by simp only[List.length_cons]at hl;exact List.length_eq_zero_iff.1 (by omega)
    subst this;exact h1.eq_singleton
  rw[e]at ho;have ho3:=(ho.no x3).mono (Nat.le_succ _);refine zG ?_ (k s w3 ho3 (x2.no x3));have:=ho3.len;rw[List.length_map]at this;omega
 .refine .inr ⟨qg p.1,p.2,w3,hn,p.1,p.2,w3,he,?_⟩;have qf:Ext No w w3:=x2.trans x3 fun i hi e=>by subst e;omega
  have hz3:=x3.size
  refine xV (ho.ext x3 fun i hi e=>by have:=(ho.lt hi).1;omega) (by omega) rfl (Kd rfl) (by have:=ho.len;rw[List.length_map,List.length_map]at this;omega) fun s4 w4 o4 l4 x4 _=>⟨l.length - (sm.length+1),by omega,sm++[p],by simp,hI3.ext x4 ?_ ?_,?_,by simp;omega,qf.trans x4 fun i hi e=>by have:=(ho.lt e).1;omega⟩
  .intro e;have:=(ho.lt e).1;omega
  .intro e;have:=(ho.lt e).1;omega
  .rw[List.map_append,List.map_append];exact o4
theorem HW{p:Option Addr}{n:Int}{K:Pw}(y:Sy w T s)(hn:0<=n/\n < 4294967295)(hr:cA s.F=true)(hh:Rn.hasB n s.F=false)(hk:∀k∈s.ps,k.n≠n)(hl:(yt s.F [(n,n+1)]).length<=1000)(hu:EF (yt s.F [(n,n+1)]))
  (k:∀T' fr' w',Sy w' T' { s with fr:=fr',F:=yt s.F [(n,n+1)] }->fg T w T' w'->K w') (hp:p=s.p:=by rfl):eF p n w K:=by
 subst hp;apply tM;refine Nn.mk ⟨s.fr,Cell.ah y.pb.r rfl,?_⟩;refine OL y.fr.r y.fr.u (by have:=y.fr.n;omega) (by omega) (fun h=>by rw[hr]at h;cases h) (fun _ h=>by omega) (fun _ _ h=>by rw[hh]at h;cases h) fun _ _ _ s1 w1 o1 x1=>?_
 have y1:=y.tag x1 6
 have XO:fg T w (iB T w.heap.size w1.heap.size 6) w1:=⟨bC _ _ _ _,x1.aF⟩
 refine Nn.mk (aH.mk y1.pb.r (Nat.le_of_ble_eq_true rfl) rfl fun w2 h2=>?_);obtain⟨y2,Ym⟩:=y1.P2 (fr':=s1) (F':=yt s.F [(n,n+1)]) (pu':=s.pu) (h2.get y1.pb.r) h2.ext ⟨o1.rd,fun i hi=>⟨cR _ (o1.lt hi).1 (o1.lt hi).2,(o1.lt hi).2⟩,hu,hl⟩ y1.mp;obtain⟨w3,h3,m3,x3,z3⟩:=Lx (P:=pz) (a:=n) (t:=0) zM HV y2.kn.r;refine Nn.mk ⟨some s.kb,Cell.ah y2.pb.r rfl,w3,h3,?_⟩;have adZ:GA n (s.ps.map KP.e)=s.ps.map KP.e:=RJ fun p hp=>by obtain⟨q,hq,rfl⟩:=List.mem_map.1 hp;exact hk q hq
 simp only at m3;rw[adZ]at m3;have a:Ag (iB T w.heap.size w1.heap.size 6) (iB T w.heap.size w1.heap.size 6) w2.heap.size:=fun _ _=>rfl
 have c:=y2.kn;have f:∀(k:Nat),k≠7->∀i,iB T w.heap.size w1.heap.size 6 i=k->¬ (i=s.kb):=fun k hk i h e=>by subst e;exact hk (h.symm.trans c.t)
 refine k _ s1 w3 ⟨y2.dk.aM x3 a (f 1 (by decide)),y2.rg.aM x3 a (f 2 (by decide)),y2.rn.aM x3 a (f 3 (by decide)),y2.lg.aM x3 a (f 4 (by decide)),y2.pb.aM x3 a (f 5 (by decide)),y2.fr.aM x3 a (f 6 (by decide)),?_,y2.mp.aM x3 a (f 8 (by decide)) (f 9 (by decide)) (f 10 (by decide)),fun i hi=>y2.out i (Nat.le_trans x3.size hi)⟩ ((XO.trans Ym).trans (.of (fun i hi=>by rw[hi,c.t];decide) x3 a));exact⟨m3,c.t,fun q hq=>⟨(c.p q hq).1.ext x3 fun p b hp hb e=>f 12 (by decide) b ((c.p q hq).2.1 b (by simp[Sl.au,hp,hb])).1 e,fun i hi=>⟨((c.p q hq).2.1 i hi).1,Nat.lt_of_lt_of_le ((c.p q hq).2.1 i hi).2 x3.size⟩,(c.p q hq).2.2⟩⟩
end
end Go.Proofs.YtefdekemmnnclaaGreat
namespace Go.Proofs.YtefdekemmnnclaaGreat
open Go.V Go.V.Dk Go.V.Rn
section
variable {w w':Wd} {T T':Nat->Nat} {s:SA}
theorem Sy.ad0{k:KP}(y:Sy w T s)(r:fh w'.heap qg s.kb ((s.ps++[k]).map KP.e))(x:Ext (·=s.kb) w w')(hk:aL w.heap k.s k.b/\(∀i,k.s.au=some i->T i=12/\i < w.heap.size)/\B8 k.b/\k.b.length=224/\k.l.OK/\(1<=k.l.kd/\k.l.kd<=4)):Sy w' T { s with ps:=s.ps++[k] }/\fg T w T w':=by
 have a:Ag T T w.heap.size:=fun _ _=>rfl
 have c:=y.kn;have f:∀(k:Nat),k≠7->∀i,T i=k->¬ (i=s.kb):=fun k hk i h e=>by subst e;exact hk (h.symm.trans c.t)
 refine⟨⟨y.dk.aM x a (f 1 (by decide)),y.rg.aM x a (f 2 (by decide)),y.rn.aM x a (f 3 (by decide)),y.lg.aM x a (f 4 (by decide)),y.pb.aM x a (f 5 (by decide)),y.fr.aM x a (f 6 (by decide)),⟨r,c.t,fun q hq=>?_⟩,y.mp.aM x a (f 8 (by decide)) (f 9 (by decide)) (f 10 (by decide)),fun i hi=>y.out i (Nat.le_trans x.size hi)⟩,.of (fun i hi=>by rw[hi,c.t];decide) x a⟩
 have h:aL w.heap q.s q.b/\(∀i,q.s.au=some i->T i=12/\i < w.heap.size)/\B8 q.b/\q.b.length=224/\q.l.OK/\(1<=q.l.kd/\q.l.kd<=4):=by
  rcases List.mem_append.1 hq with h | h
  .exact c.p q h
  .simp only[List.mem_singleton]at h;subst h;exact hk
 exact⟨h.1.ext x fun p b hp hb e=>f 12 (by decide) b (h.2.1 b (by simp[Sl.au,hp,hb])).1 e,fun i hi=>⟨(h.2.1 i hi).1,Nat.lt_of_lt_of_le (h.2.1 i hi).2 x.size⟩,h.2.2⟩
theorem Sy.ad1{m:Nat}{n:Int}(y:Sy w T s)(hm:s.pm=some m)(r:fh w'.heap qg m (Yh (s.pu++[n])))(x:Ext (·=m) w w'):Sy w' T { s with pu:=s.pu++[n] }/\fg T w T w':=by
 have a:Ag T T w.heap.size:=fun _ _=>rfl
 have c:=y.mp;have tm:=(c.r3 m hm).2;have f:∀(k:Nat),k≠10->∀i,T i=k->¬ (i=m):=fun k hk i h e=>by subst e;exact hk (h.symm.trans tm)
 exact⟨⟨y.dk.aM x a (f 1 (by decide)),y.rg.aM x a (f 2 (by decide)),y.rn.aM x a (f 3 (by decide)),y.lg.aM x a (f 4 (by decide)),y.pb.aM x a (f 5 (by decide)),y.fr.aM x a (f 6 (by decide)),y.kn.aM x a (f 7 (by decide)) (f 12 (by decide)),⟨c.r.ext x (f 8 (by decide) _ c.t),c.t,c.r2.ext x (f 9 (by decide) _ c.t2),c.t2,fun q hq=>by rw[hm]at hq;have:=Option.some.inj hq;subst this;exact⟨r,tm⟩⟩,fun i hi=>y.out i (Nat.le_trans x.size hi)⟩,.of (fun i hi=>by rw[hi,tm];decide) x a⟩
theorem Sy.loc{S:Nat->Prop}(y:Sy w T s)(x:Ext S w w')(h:∀i,S i->T i=0∨13<=T i):Sy w' T s:=by
 have a:Ag T T w.heap.size:=fun _ _=>rfl
 have f:∀(k:Nat),1<=k->k < 13->∀i,T i=k->¬ S i:=fun k h1 h2 i e hi=>by have:=h i hi;omega
 exact⟨y.dk.aM x a (f 1 (by decide) (by decide)),y.rg.aM x a (f 2 (by decide) (by decide)),y.rn.aM x a (f 3 (by decide) (by decide)),y.lg.aM x a (f 4 (by decide) (by decide)),y.pb.aM x a (f 5 (by decide) (by decide)),y.fr.aM x a (f 6 (by decide) (by decide)),y.kn.aM x a (f 7 (by decide) (by decide)) (f 12 (by decide) (by decide)),y.mp.aM x a (f 8 (by decide) (by decide)) (f 9 (by decide) (by decide)) (f 10 (by decide) (by decide)),fun i hi=>y.out i (Nat.le_trans x.size hi)⟩
theorem fg.out{w1:Wd}{b:Nat}(h:fg T w T' w1)(x:Ext (·=b) w1 w')(hb:w.heap.size<=b):fg T w T' w':=⟨h.a,h.x.trans x fun i hi e=>by subst e;omega⟩
theorem ME{p:Option Addr}{n:Int}{K:Int->Pw}(y:Sy w T s)(h0:s.cm=0)(hn:s.la < n)
  (k:∀T' m m' w',Sy w' T' { s with cm:=n,la:=n,fl:=false,pm:=some m,dm:=some m',pu:=[] }->fg T w T' w'->K 0 w') (hp:p=s.p:=by rfl):ig p n w K:=by
 subst hp;apply vT;refine MC y (If.bne (fun h=>absurd rfl h) fun _=>⟨fun u=>w=u,Nn.mk ⟨_,Cell.ah y.pb.r rfl,If.bne (fun h=>absurd h0 h) fun _=>Nn.mk ⟨_,Cell.ah y.pb.r rfl,If.dec (fun h=>by omega) fun _=>rfl⟩⟩,?_⟩);rintro _ _ rfl;refine Nn.mk (aH.mk y.pb.r (Nat.le_of_ble_eq_true rfl) rfl fun w1 h1=>?_);obtain⟨y1,s1⟩:=y.P2 (cm':=n) (F':=s.F) (pu':=s.pu) (h1.get y.pb.r) h1.ext y.fr y.mp;refine Nn.mk (aH.mk y1.pb.r (Nat.le_of_ble_eq_true rfl) rfl fun w2 h2=>?_);obtain⟨y2,s2⟩:=y1.P2 (la':=n) (F':=s.F) (pu':=s.pu) (h2.get y1.pb.r) h2.ext y1.fr y1.mp;refine Nn.mk (aH.mk y2.pb.r (Nat.le_of_ble_eq_true rfl) rfl fun w3 h3=>?_);obtain⟨y3,s3⟩:=y2.P2 (fl':=false) (F':=s.F) (pu':=s.pu) (h3.get y2.pb.r) h3.ext y2.fr y2.mp;refine fun b w4 n4 b1 w5 n5=>?_
 have x5:=n4.ext.no n5.ext;have y5:=y3.tag x5 10
 have s5:fg T w3 (iB T w3.heap.size w5.heap.size 10) w5:=⟨bC _ _ _ _,x5.aF⟩
 have z4:=n4.size;have z5:=n5.size;have a4:=n4.at_;have a5:=n5.at_
 have m5:fh w5.heap qg b (Yh []):=⟨#[],0,(n5.ext.au b (aV n4.get) fun h=>h).trans n4.get,rfl,db.nil⟩
 have t5:iB T w3.heap.size w5.heap.size 10 b=10:=cR _ (by omega) (by omega);refine Nn.mk (aH.mk y5.pb.r (Nat.le_of_ble_eq_true rfl) rfl fun w6 h6=>?_);obtain⟨y6,s6⟩:=y5.P2 (pm':=some b) (F':=s.F) (pu':=[]) (h6.get y5.pb.r) h6.ext y5.fr ⟨y5.mp.r,y5.mp.t,y5.mp.r2,y5.mp.t2,fun q hq=>by have:=Option.some.inj hq;subst this;exact⟨m5,t5⟩⟩;refine Nn.mk (aH.mk y6.pb.r (Nat.le_of_ble_eq_true rfl) rfl fun w7 h7=>?_);obtain⟨y7,s7⟩:=y6.P2 (dm':=some b1) (F':=s.F) (pu':=[]) (h7.get y6.pb.r) h7.ext y6.fr y6.mp;exact k _ b b1 w7 y7 (((((s1.trans s2).trans s3).trans s5).trans s6).trans s7)
theorem RL{p:Option Addr}{t kd lv g:Int}{payload:Sl}{pl:List Int}{r:fP}{M:List fP}{m:Nat}{K:Int->Int->Int->Int->Pw}(y:Sy w T s)(hc:s.cm≠0)(S4:s.fl=false)(Bx:1<=kd/\kd<=3)(hp:aL w.heap payload pl)(hpt:∀i,payload.au=some i->T i=0)(Ck:pl.length=224)(hB:B8 pl)
  (hg:rq s.ks t=[g]) (hF:s.F=r::M) (hr:cA s.F=true) (hm:s.pm=some m) (jH:∀k∈s.ps,k.n≠r.1) (ZY:∀n∈s.pu,n≠r.1) (Bo:gI.OK ⟨t,kd,lv,r.1,s.cm,g⟩) (hu:EF (qt s.F)) (hlen:(qt s.F).length<=1000)
  (k:∀T' fr' sl w',Sy w' T' { s with fr:=fr',F:=qt s.F,ps:=s.ps++[⟨r.1,⟨t,kd,lv,r.1,s.cm,g⟩,sl,pl⟩],pu:=s.pu++[r.1] }->fg T w T' w'->K r.1 s.cm g 0 w') (hp:p=s.p:=by rfl):ka p t kd lv payload w K:=by
 subst hp;apply zj;refine fun b w1 n1=>?_
 have y1:=y.no n1.ext;have z1:=n1.size;have a1:=n1.at_;have tb:T b=0:=y.out b (by omega);have gb:w1.heap[b]? = some (.cells [Value.int .u32 0,.int .u64 0,.int .u16 0].toArray 29 (0,0)):=n1.get;have afq:payload.len=224:=by rw[aL.len hp];exact Ck
 refine MC y1 (If.bne (fun h=>absurd rfl h) fun _=>⟨fun u=>w1=u,RH y1 ?_,?_⟩)
 .rw[decide_eq_true hc,S4];exact If.no (If.dec (fun h=>by omega) fun _=>If.dec (fun h=>by omega) fun _=>If.bne (fun h=>by omega) fun _=>rfl)
 rintro _ _ rfl;refine Nn.mk ⟨_,Cell.ah y1.pb.r rfl,Kf y1.rn.r (by have:=y1.rn.n;omega) hg fun w2 x2=>If.bne (fun h=>absurd rfl h) fun _=>?_⟩;have y2:=y1.no x2;refine Nn.mk ⟨s.fr,Cell.ah y2.pb.r rfl,OJ y2.fr.r y2.fr.u (by have:=y2.fr.n;omega) (fun h=>by rw[hr]at h;cases h) (fun h=>by rw[hF]at h;cases h) fun r' M' hF' _ s3 w3 o3 x3=>If.bne (fun h=>absurd rfl h) fun _=>?_⟩;obtain⟨rfl,rfl⟩ : r'=r/\M'=M:=by rw[hF]at hF';cases hF';exact⟨rfl,rfl⟩
 have y3:=y2.tag x3 6
 have s3':fg T w2 (iB T w2.heap.size w3.heap.size 6) w3:=⟨bC _ _ _ _,x3.aF⟩
 refine Nn.mk (aH.mk y3.pb.r (Nat.le_of_ble_eq_true rfl) rfl fun w4 h4=>?_);obtain⟨y4,s4⟩:=y3.P2 (fr':=s3) (F':=qt s.F) (pu':=s.pu) (h4.get y3.pb.r) h4.ext ⟨o3.rd,fun i hi=>⟨cR _ (o3.lt hi).1 (o3.lt hi).2,(o3.lt hi).2⟩,hu,hlen⟩ y3.mp;refine Nn.mk ⟨s.cm,Cell.ah y4.pb.r rfl,jy rfl rfl (cF rfl) fun w5 g5 z5 x5=>?_⟩;have y5:=y4.no x5;have UF:fg T w1 (iB T w2.heap.size w3.heap.size 6) w5:=(((fg.no x2).trans s3').trans s4).nx x5;have tb5:iB T w2.heap.size w3.heap.size 6 w4.heap.size=0:=y4.out _ (Nat.le_refl _);have tk:=y5.kn.t;have nb:w4.heap.size≠s.kb:=fun e=>by rw[e]at tb5;rw[tb5]at tk;cases tk
 have ZZ:s.pb≠s.kb:=fun e=>by have:=y5.pb.t;simp only at this;rw[e]at this;rw[this]at tk;cases tk
 refine⟨Ext (·=s.kb) w5,(Ext.refl _ _).drew,Nn.mk ⟨some s.kb,af.bq (Cell.ah y5.pb.r rfl) ZZ,_,af.bq (Cell.ah g5 rfl) nb,_,af.bq (Cell.ah g5 rfl) nb,_,af.bq (Cell.ah g5 rfl) nb,fun b6 w6 n6=>⟨n6.ext.ae.aF,?_⟩⟩⟩;have x6:Ext No w5 w6:=n6.ext.ae
 have hp6:aL w6.heap payload pl:=by
  refine Rd.no (w:=w5) (hp.ext (fg.x ((fg.no n1.ext).trans UF)) fun p c D1 EE hh=>?_) x6;have:=hpt c (by simp[Sl.au,D1,EE]);omega
 refine kf (l:=[]) ⟨rfl,Nat.le_refl _,fun h=>absurd rfl h,fun _ h=>nomatch h⟩ (by show 0 < 0+payload.len;omega) hp6 (by show 0+payload.len<=_;omega) fun s7 w7 o7 x7=>⟨(x6.no x7).aF,?_⟩
 rw[List.nil_append]at o7;have PZ:=x6.no x7;have y7:=y5.tag PZ 12
 have s7':fg (iB T w2.heap.size w3.heap.size 6) w5 (iB (iB T w2.heap.size w3.heap.size 6) w5.heap.size w7.heap.size 12) w7:=⟨bC _ _ _ _,PZ.aF⟩
 obtain⟨w8,h8,m8,x8,z8⟩:=aJ (P:=pz) (a:=r'.1) (v:=(⟨r'.1,⟨t,kd,lv,r'.1,s.cm,g⟩,s7,pl⟩ : KP).v) zM HV y7.kn.r;simp only at m8;rw[zL (fun p hp=>by obtain⟨q,hq,rfl⟩:=List.mem_map.1 hp;exact jH q hq)]at m8;obtain⟨y8,s8⟩:=y7.ad0 (k:=⟨r'.1,⟨t,kd,lv,r'.1,s.cm,g⟩,s7,pl⟩) (by rw[List.map_append];exact m8) x8 ⟨o7.rd,fun i hi=>⟨cR _ (by have:=(o7.lt hi).1;have:=x6.size;omega) (o7.lt hi).2,(o7.lt hi).2⟩,hB,Ck,Bo,⟨Bx.1,by show kd<=4;omega⟩⟩;refine⟨w8,h8,PZ.aF.trans x8 fun i _ h=>h,Nn.mk ⟨s.pm,Cell.ah y8.pb.r rfl,?_⟩⟩;have mm:=(y8.mp.r3 m hm).1;obtain⟨w9,h9,m9,x9,z9⟩:=aJ (P:=pz) (a:=r'.1) (v:= .bool true) zM MD mm;simp only at m9;rw[zL (fun p hp=>by obtain⟨q,hq,rfl⟩:=List.mem_map.1 hp;exact ZY q hq)]at m9;obtain⟨y9,s9⟩:=y8.ad1 (n:=r'.1) hm (by simp only[Yh,List.map_append];exact m9) x9;rw[hm];have UG:=(s7'.trans s8).trans s9;have O0:w9.heap[w4.heap.size]? = _:=UG.au g5 (.inl tb5);have gb9:w9.heap[b]? = _:=(UF.trans UG).au gb (.inl tb);refine⟨w9,h9,_,Cell.ah O0 rfl,_,Cell.ah O0 rfl,_,Cell.ah O0 rfl,rfl,cr.mk gb9 (Nat.le_refl 3) (cF rfl) fun gG Cp=>?_⟩;have wa:=Cp.get gb9;refine⟨_,Cell.ah wa rfl,_,Cell.ah wa rfl,_,Cell.ah wa rfl,?_⟩;have st:=(fg.no n1.ext).trans (UF.trans UG);have tb9:iB (iB T w2.heap.size w3.heap.size 6) w5.heap.size w7.heap.size 12 b=0:=((UF.trans UG).a b (by omega)).trans tb;exact k _ s3 s7 gG (y9.loc Cp.ext fun i hi=>by subst hi;exact .inl tb9) (st.out Cp.ext (by omega))
end
end Go.Proofs.YtefdekemmnnclaaGreat
namespace Go.Proofs.YtefdekemmnnclaaGreat
open Go.V Go.V.Dk Go.V.Rn
section
variable {w w':Wd} {T T':Nat->Nat} {s:SA}
theorem NR(w:Wd):(zeroValue 478).run pz w = .ok (.agg #[.int .u32 0,.int .u8 0,.int .u8 0,.int .u32 0,.int .u64 0,.int .u16 0,.slice none 0 0]) w:=by kernel_rfl
theorem RM{p:Option Addr}{k:KP}{K:Sl->Int->Pw}(y:Sy w T s)(hk:mG k.n (s.ps.map KP.e)=some k.v)(hm:k∈s.ps)(h2:2<=k.n/\k.n < 100)(hl:k.l.pg=k.n)(Bx:1<=k.l.kd/\k.l.kd<=3)
  (kk:∀sl w',aD w'.heap w.heap.size sl k.b->Ext No w w'->K sl 0 w') (hp:p=s.p:=by rfl):j_ p k.l.t k.l.kd k.l.lv k.l.pg k.l.cm k.l.gn w K:=by
 subst hp;apply zh;refine fun b w1 n1=>?_
 have y1:=y.no n1.ext;have gb:w1.heap[b]? = some (.cells [Value.int .u32 k.l.pg,.int .u64 k.l.cm,.int .u16 k.l.gn].toArray 29 (0,0)):=n1.get;have z1:=n1.size;refine MC y1 (If.bne (fun h=>absurd rfl h) fun _=>⟨fun u=>w1=u,If.dec (fun h=>by omega) fun _=>If.dec (fun h=>by omega) fun _=>⟨_,Cell.ah gb rfl,abu y1 (by omega) ?_⟩,?_⟩)
 .rw[decide_eq_true (by omega:2<=k.l.pg/\k.l.pg < 100)];exact If.no rfl
 rintro _ _ rfl;refine⟨_,Cell.ah gb rfl,_,Cell.ah gb rfl,_,Cell.ah gb rfl,jy rfl rfl (cF rfl) fun w6 g6 z6 x6=>?_⟩;have y6:=y1.no x6;have Kl:w6.heap[b]? = _:=(x6.au b (aV gb) fun h=>h).trans gb;have wk:=n1.ext.no x6;obtain⟨Z0,uc,hp3,PY,hp5⟩:=y6.kn.p k hm;have afr:k.s.len=224:=by rw[aL.len Z0];exact PY
 have look:∀w,fh w.heap qg s.kb (s.ps.map KP.e)->Sem.run pz (Instr.lookup 283 (.map (some s.kb)) (.int .u32 k.l.pg) true) w = .ok (.tuple #[.agg #[.int .u32 k.l.t,.int .u8 k.l.kd,.int .u8 k.l.lv,.int .u32 k.l.pg,.int .u64 k.l.cm,.int .u16 k.l.gn,k.s.v],.bool true]) w:=fun w hw=>by
  have:=pB (P:=pz) (a:=k.n) zM HV (NR w) hw;rw[hk]at this;rw[<- hl]at this;exact this
 refine⟨Ext No w6,(Ext.refl _ _).drew,Nn.mk ⟨some s.kb,af.bq (Cell.ah y6.pb.r rfl) (fun h=>h),k.l.pg,af.bq (Cell.ah Kl rfl) (fun h=>h),?_,?_⟩⟩
 .refine⟨_,_,_,_,_,_,k.s,true,aa w6,look _ y6.kn.r,(Ext.refl _ _).drew,fun b2 w8 n8=>⟨n8.ext.ae,rfl,cr.mk n8.get (Nat.le_of_ble_eq_true rfl) (cF rfl) fun w9 h9=>?_⟩⟩;have a8:=n8.at_;have x8:Ext No w6 w8:=n8.ext.ae;have x9:Ext No w6 w9:=x8.out h9.ext (by show w6.heap.size<=b2;rw[a8];exact Nat.le_refl _);have g9:=h9.get n8.get;have O_:w9.heap[w1.heap.size]? = _:=(x9.au _ (aV g6) fun h=>h).trans g6;refine⟨x9,fun u=>w9=u,If.not (If.yes rfl),?_⟩;rintro _ _ rfl;refine⟨_,Cell.ah g9 rfl,_,Cell.ah g9 rfl,_,Cell.ah g9 rfl,_,Cell.ah g9 rfl,_,Cell.ah g9 rfl,_,Cell.ah g9 rfl,_,Cell.ah O_ rfl,_,Cell.ah O_ rfl,_,Cell.ah O_ rfl,_,Cell.ah O_ rfl,_,Cell.ah O_ rfl,_,Cell.ah O_ rfl,If.not (If.cases (fun _=>?_) fun h=>by simp at h)⟩
  refine fun b3 gG ji=>⟨k.s,Cell.ah (show gG.heap[b2]? = _ from(ji.ext.au _ (aV g9) fun h=>h).trans g9) rfl,kf (l:=[]) ⟨rfl,Nat.le_refl _,fun h=>absurd rfl h,fun _ h=>nomatch h⟩ (by show 0 < 0+k.s.len;omega) (Z0.no (x9.no ji.ext)) (by show 0+k.s.len<=_;omega) fun Ta hU HE oF=>?_⟩
  rw[List.nil_append]at HE;have x:=wk.no (x9.no ji.ext);exact kk Ta hU (HE.mono x.size) (x.no oF)
 .refine fun b2 w8 n8=>⟨n8.ext.ae,_,_,_,_,_,_,k.s,true,w8,look _ (y6.kn.r.ext (n8.ext.ae) fun h=>h),n8.ext.ae,rfl,cr.mk n8.get (Nat.le_of_ble_eq_true rfl) (cF rfl) fun w9 h9=>?_⟩
  have a8:=n8.at_;have x8:Ext No w6 w8:=n8.ext.ae;have x9:Ext No w6 w9:=x8.out h9.ext (by show w6.heap.size<=b2;rw[a8];exact Nat.le_refl _);have g9:=h9.get n8.get;have O_:w9.heap[w1.heap.size]? = _:=(x9.au _ (aV g6) fun h=>h).trans g6;refine⟨x9,fun u=>w9=u,If.not (If.yes rfl),?_⟩;rintro _ _ rfl;refine⟨_,Cell.ah g9 rfl,_,Cell.ah g9 rfl,_,Cell.ah g9 rfl,_,Cell.ah g9 rfl,_,Cell.ah g9 rfl,_,Cell.ah g9 rfl,_,Cell.ah O_ rfl,_,Cell.ah O_ rfl,_,Cell.ah O_ rfl,_,Cell.ah O_ rfl,_,Cell.ah O_ rfl,_,Cell.ah O_ rfl,If.not (If.cases (fun _=>?_) fun h=>by simp at h)⟩
  refine fun b3 gG ji=>⟨k.s,Cell.ah (show gG.heap[b2]? = _ from(ji.ext.au _ (aV g9) fun h=>h).trans g9) rfl,kf (l:=[]) ⟨rfl,Nat.le_refl _,fun h=>absurd rfl h,fun _ h=>nomatch h⟩ (by show 0 < 0+k.s.len;omega) (Z0.no (x9.no ji.ext)) (by show 0+k.s.len<=_;omega) fun Ta hU HE oF=>?_⟩
  rw[List.nil_append]at HE;have x:=wk.no (x9.no ji.ext);exact kk Ta hU (HE.mono x.size) (x.no oF)
theorem RN{p:Option Addr}{g:Sl}{K:Int->Pw}(hg:g.len=0)(k:K 0 w)(hp:p=s.p:=by rfl):fq p g w K:=by
 subst hp;apply vK;refine⟨fun _ t u=>0=t/\w=u,⟨0,rfl,rfl⟩,?_⟩;rintro _ _ _ _ ⟨rfl,rfl⟩;exact If.dec (fun h=>by omega) fun _=>If.beq (fun _=>k) fun h=>by omega
theorem MF{p:Option Addr}{K:Int->Pw}(y:Sy w T s)(ho:s.cm=0∨s.fl=true)(k:∀w',Sy w' T { s with cm:=0 }->fg T w T w'->K 0 w')(hp:p=s.p:=by rfl):ia p w K:=by
 subst hp;apply vN;refine MC y (If.bne (fun h=>absurd rfl h) fun _=>RH y ?_);have e:(decide (s.cm≠0) && !s.fl)=false:=by rcases ho with h | h <;> simp[h]
 rw[e];refine If.no (Nn.mk ⟨some s.wb,Cell.ah y.pb.r rfl,BE (l:=[]) y.mp.r (Nat.zero_le _) fun s1 w1 o1 x1=>?_⟩);have hl:s1.len=0:=by have:=o1.len;simpa using this.symm
 refine⟨fun _ g t u=>⟨none,0,0⟩=g/\0=t/\w1=u,⟨0,rfl,rfl,rfl⟩,?_⟩;rintro _ _ _ _ _ ⟨rfl,rfl,rfl⟩;have y1:=y.no x1;refine If.dec (fun h=>by omega) fun _=>RN (s:=s) rfl (HU y1 fun w2 y2 s2=>If.bne (fun h=>absurd rfl h) fun _=>⟨fun _ t u=>0=t/\w2=u,⟨0,rfl,rfl⟩,?_⟩)
 rintro _ _ _ _ ⟨rfl,rfl⟩;refine If.dec (fun h=>by simp at h) fun _=>Nn.mk (aH.mk y2.pb.r (Nat.le_of_ble_eq_true rfl) rfl fun w3 h3=>?_)
 obtain⟨y3,s3⟩:=y2.P2 (cm':=0) (F':=s.F) (pu':=s.pu) (h3.get y2.pb.r) h3.ext y2.fr y2.mp;exact k w3 y3 (((fg.no x1).trans s2).trans s3)
end
end Go.Proofs.YtefdekemmnnclaaGreat
namespace Go.V.Dk
abbrev Up(D:DS):DS:={ D with steps:=D.steps+1 }
abbrev Wd(D:DS)(i:Int)(bs:List Int):DS:=nP (Up D) i bs
abbrev Sd(D:DS):DS:=FM (Up D)
end Go.V.Dk
namespace Go.Proofs.YtefdekemmnnclaaGreat
open Go.V Go.V.Dk Go.V.Rn
theorem Calm.has{D:DS}(c:Calm D){i:Int}(hi:0<=i/\i < 100):Dk.hasB D i=true:=decide_eq_true (by rw[c.n];omega)
theorem Calm.write{D:DS}(c:Calm D){i:Int}{bs:List Int}(hi:0<=i/\i < 100)(hb:bs.length=256):mL D i bs=(0,Wd D i bs):=by
 unfold mL;rw[if_pos ⟨c.has hi,hb⟩,c.step,if_pos rfl]
theorem Calm.sync{D:DS}(c:Calm D):BD D=(0,Sd D):=by unfold BD;rw[c.step,if_pos rfl]
theorem Calm.up{D:DS}(c:Calm D)(h:D.steps < 1000):Calm (Up D):=⟨c.n,c.fail,c.cut,c.down,by have:=c.st;show 0<=D.steps+1/\D.steps+1<=1000;omega,c.w⟩
theorem Calm.wd{D:DS}(c:Calm D)(h:D.steps < 1000)(hw:D.waits.length < 1000)(i:Int)(bs:List Int):Calm (Wd D i bs):=by
 have u:=c.up h;exact⟨by simp[nP,c.n],u.fail,u.cut,u.down,u.st,by simp[nP];omega⟩
theorem Calm.sd{D:DS}(c:Calm D)(h:D.steps < 1000):Calm (Sd D):=by
 have u:=c.up h;exact⟨u.n,u.fail,u.cut,u.down,u.st,Nat.zero_le _⟩
section
variable {w w':Wd} {T T':Nat->Nat} {s:SA}
theorem Km{p:Option Addr}{i:Int}{b:Sl}{bs:List Int}{K:Int->Pw}(y:Sy w T s)(hi:0<=i/\i < 100)(hb:aL w.heap b bs)(h8:B8 bs)(hl:bs.length=256)(VV:∀i,b.au=some i->T i≠1)(hs:s.D.steps < 1000)(hw:s.D.waits.length < 1000)
  (k:∀T' d' w',Sy w' T' { s with d:=d',D:=Wd s.D i bs }->fg T w T' w'->Ext s.d.fp w w'->K 0 w') (hp:p=s.d.p:=by rfl):dF p i b w K:=by
 subst hp;have c:=y.dk.c;have st:=c.st;refine Ek y.dk.r hb h8 (fun i hi h=>VV i hi (y.dk.t i h)) (by omega) (by omega) fun d' w' r g x=>?_
 rw[c.write hi hl]at r ⊢;obtain⟨y',s'⟩:=y.Yl r g x (c.wd hs hw i bs);exact k _ d' w' y' s' x
theorem NT{p:Option Addr}{K:Int->Pw}(y:Sy w T s)(hs:s.D.steps < 1000)
  (k:∀T' d' w',Sy w' T' { s with d:=d',D:=Sd s.D }->fg T w T' w'->K 0 w') (hp:p=s.d.p:=by rfl):dg p w K:=by
 subst hp;have c:=y.dk.c;have st:=c.st;refine Fp y.dk.r (by omega) fun d' w' r g x=>?_
 rw[c.sync]at r ⊢;obtain⟨y',s'⟩:=y.Yl r g x (c.sd hs);exact k _ d' w' y' s'
abbrev SA.lB(s:SA):Option Addr:=some ⟨s.lb,0,none⟩
abbrev SA.rB(s:SA):Option Addr:=some ⟨s.rb,0,none⟩
set_option maxHeartbeats 1000000 in
theorem MG{p:Option Addr}{K:Int->Pw}{m:Nat}{k:KP}{q:RK}(y:Sy w T s)(hc:s.cm≠0)(S4:s.fl=false)(hm:s.pm=some m)(ZY:s.pu=[k.n])(hk:mG k.n (s.ps.map KP.e)=some k.v)(hkm:k∈s.ps)(h2:2<=k.n/\k.n < 100)
  (hq:tu s.ks ⟨k.l.t,k.l.gn⟩=some q) (hL:s.L.length < 100) (ER:s.D.steps < 900) (hw:s.D.waits.length < 900)
  (kk:∀T' d' oR r w',r.length=252->B8 r->Sy w' T' { s with d:=d',D:=Sd (Wd s.D k.n (aS++r)),ls:=oR,L:=s.L++[⟨k.l,q.l,k.b,aS++r⟩],fl:=true }->fg T w T' w'->K 0 w') (hp:p=s.p:=by rfl):ij p w K:=by
 subst hp;apply vV;refine MC y (If.bne (fun h=>absurd rfl h) fun _=>RH y ?_);rw[decide_eq_true hc,S4];refine If.no (Nn.mk ⟨some m,Cell.ah y.pb.r (by simp[SA.pC,hm]),BE (l:=s.pu) (y.mp.r3 m hm).1 (by rw[ZY];exact Nat.le_refl 1) fun s3 w3 o3 x3=>?_⟩);rw[ZY]at o3;have y3:=y.no x3;have ZO:s3.len=1:=by have:=o3.len;simpa using this.symm
 refine⟨fun n t u=>(n=1/\t=0/\w3=u)∨(n=0/\t=1/\∃T' d' oR r,r.length=252/\B8 r/\Sy u T' { s with d:=d',D:=Wd s.D k.n (aS++r),ls:=oR,L:=s.L++[⟨k.l,q.l,k.b,aS++r⟩] }/\fg T w T' u),⟨1,.inl ⟨rfl,rfl,rfl⟩⟩,?_⟩;rintro _ m0 t w4 (⟨rfl,rfl,rfl⟩ | ⟨rfl,rfl,T4,d4,ls4,r,hr,hB,y4,s4⟩)
 .refine If.dec (fun _=>?_) fun h=>absurd (by omega) h
  refine Ix.int o3.rd (by decide) (by omega) fun bb oo _ dt=>⟨k.n,dt,Nn.mk ⟨some s.kb,Cell.ah y3.pb.r rfl,?_⟩⟩
  have kN:=gK (P:=pz) (a:=k.n) zM HV (NR w3) y3.kn.r;rw[hk]at kN;refine⟨_,_,_,_,_,_,k.s,w3,kN,jy rfl rfl (cF rfl) fun w6 g6 z6 x6=>?_⟩;have y6:=y3.no x6;have tb:T w3.heap.size=0:=y3.out _ (Nat.le_refl _);have y6d:=y6.no (Ext.refl No w6).drew;refine⟨Ext No w6,(Ext.refl _ _).drew,Nn.mk ⟨s.rB,af.bq (Cell.ah y6.pb.r rfl) (fun h=>h),k.l.t,af.bq (Cell.ah g6 rfl) (fun h=>h),k.l.gn,af.bq (Cell.ah g6 rfl) (fun h=>h),nu y6d.rn.r hq fun s8 w8 o8 x8=>⟨x8.ae,If.bne (fun h=>absurd rfl h) fun _=>?_⟩⟩⟩;have CK:Ext No w6 w8:=x8.ae;have y8:=y6.no CK;have g8:w8.heap[w3.heap.size]? = _:=(CK.au _ (aV g6) fun h=>h).trans g6
  have nb:¬ (w3.heap.size=s.lb∨s.ls.au=some w3.heap.size):=fun e=>by
   rcases e with e | e
   .have:=y8.lg.t;rw[<- e]at this;omega
   .have:=y8.lg.t2 _ e;omega
  have ZZ:¬ (s.pb=s.lb∨s.ls.au=some s.pb):=fun e=>by
   have:=y8.pb.t;rcases e with e | e
   .have:=y8.lg.t;rw[<- e]at this;omega
   .have:=y8.lg.t2 _ e;omega
  have y8d:=y8.no (Ext.refl No w8).drew;obtain⟨Z0,uc,hp3,PY,hp5,hp6⟩:=y8d.kn.p k hkm;have Yn:=y8d.rn.r.key q (List.mem_of_find?_eq_some hq);have z68:=CK.size;have z36:=x6.size;refine⟨Ext (fun i=>i=s.lb∨s.ls.au=some i) w8,(Ext.refl _ _).drew,Nn.mk ⟨s.lB,af.bq (Cell.ah y8.pb.r rfl) ZZ,k.l.t,af.bq (Cell.ah g8 rfl) nb,k.l.kd,af.bq (Cell.ah g8 rfl) nb,k.l.lv,af.bq (Cell.ah g8 rfl) nb,k.l.pg,af.bq (Cell.ah g8 rfl) nb,k.l.cm,af.bq (Cell.ah g8 rfl) nb,k.l.gn,af.bq (Cell.ah g8 rfl) nb,k.s,af.bq (Cell.ah g8 rfl) nb,?_⟩⟩
  refine zH (l:=k.l) y8d.lg.r (by omega) hp5 hp6 (Rd.no (w:=w8) o8.rd (Ext.refl No w8).drew) Yn.2.1 (by rw[aD.len o8,<- aL.len Yn.1];exact Yn.2.2) Z0 (by rw[aL.len Z0];exact PY) (fun i hi e=>?_) (fun i hi e=>?_) fun XW r oR gG D9 hr hB L10 ad2 afs fo=>⟨fo.ae,If.bne (fun h=>absurd rfl h) fun _=>?_⟩
  .have h1:=(y8.lg.r.own.lt e).2;have h2:=(o8.lt hi).1;have:=y8.lg.t2 _ e;rw[y6.out i h2]at this;cases this
  .have h1:=y8.lg.t2 _ e;have h2:=(uc _ hi).1;omega
  obtain⟨Tg,ad4⟩:=y8.log (e:=⟨k.l,q.l,k.b,aS++r⟩) L10 ad2 fo.ae hL;have hB':B8 (aS++r):=L10.b8 ⟨k.l,q.l,k.b,aS++r⟩ (List.mem_append.2 (.inr (List.mem_singleton.2 rfl)));refine Nn.mk ⟨s.d.p,Cell.ah Tg.pb.r rfl,Ar.i64 (by omega) (Km Tg (by omega) D9.rd hB' (by rw[List.length_append,hr];rfl) (fun i hi=>?_) (by show s.D.steps < 1000;omega) (by show s.D.waits.length < 1000;omega) fun V9 d12 mw y12 NK _=>If.bne (fun h=>absurd rfl h) fun _=>Ar.i64 (by omega) ⟨0,Nat.one_pos,.inr ⟨rfl,rfl,V9,d12,oR,r,hr,hB,y12,(((fg.no x3).nx x6).nx CK).trans (ad4.trans NK)⟩⟩)⟩;rw[cR T (n:=w8.heap.size) (D9.lt hi).1 (D9.lt hi).2];decide
 .refine If.dec (fun h=>absurd h (by omega)) fun _=>Nn.mk (aH.mk y4.pb.r (Nat.le_of_ble_eq_true rfl) rfl fun pY HX=>?_)
  obtain⟨y14,s14⟩:=y4.P2 (fl':=true) (F':=s.F) (pu':=s.pu) (HX.get y4.pb.r) HX.ext y4.fr y4.mp;refine Nn.mk ⟨d4.p,Cell.ah y14.pb.r rfl,NT y14 (by show s.D.steps+1 < 1000;omega) fun T15 d15 kQ y15 s15=>HU y15 fun ua y16 s16=>?_⟩;exact kk T15 d15 ls4 r ua hr hB y16 (((s4.trans s14).trans s15).trans s16)
end
end Go.Proofs.YtefdekemmnnclaaGreat
namespace Go.Proofs.YtefdekemmnnclaaGreat
open Go.V Go.V.Dk Go.V.Rn
section
variable {w w':Wd} {T T':Nat->Nat} {s:SA}
set_option maxHeartbeats 1000000 in
theorem MH{p:Option Addr}{K:Int->Pw}{m:MP}{q:RK}(y:Sy w T s)(ok:m.OK)(hc:s.cm≠0)(hcm:m.cm=s.cm)(S4:s.fl=true)
  (hq:tu s.ks ⟨0,m.rg⟩=some q) (hL:s.L.length < 100) (ER:s.D.steps < 900) (hw:s.D.waits.length < 900)
  (kk:∀T' d' oR pl r w',r.length=252->B8 r->Sy w' T' { s with d:=d',D:=Sd (Wd s.D (m.cm % 2) (aS++r)),ls:=oR,L:=s.L++[⟨m.vZ,q.l,pl,aS++r⟩] }->fg T w T' w'->K 0 w') (hp:p=s.p:=by rfl):iZ p m.cm m.pg m.rc m.gn m.lv m.rg m.tn w K:=by
 subst hp;apply xC;refine fun b w1 n1=>?_
 have y1:=y.no n1.ext;have gb:w1.heap[b]? = some (.cells m.c.toArray 87 (0,0)):=n1.get;have a1:=n1.at_;have z1:=n1.size;have tb:T b=0:=y.out b (by omega);refine MC y1 (If.bne (fun h=>absurd rfl h) fun _=>⟨fun u=>aa w1=u,⟨Ext No w1,(Ext.refl _ _).drew,Nn.mk ⟨s.cm,af.bq (Cell.ah y1.pb.r rfl) (fun h=>h),If.beq (fun h=>absurd h hc) fun _=>Nn.mk ⟨true,af.bq (Cell.ah y1.pb.r (by simp[SA.pC,S4])) (fun h=>h),If.not (If.yes ⟨m.cm,af.bq (Cell.ah gb rfl) (fun h=>h),Nn.mk ⟨s.cm,af.bq (Cell.ah y1.pb.r rfl) (fun h=>h),If.bne (fun h=>absurd hcm h) fun _=>rfl⟩⟩)⟩⟩⟩,?_⟩);rintro _ _ rfl;have xd:Ext No w1 (aa w1):=(Ext.refl _ _).drew;have y2:=y1.no xd
 have nb:¬ (b=s.lb∨s.ls.au=some b):=fun e=>by
  rcases e with e | e
  .have:=y1.lg.t;rw[<- e]at this;omega
  .have:=y1.lg.t2 _ e;omega
 have ZZ:¬ (s.pb=s.lb∨s.ls.au=some s.pb):=fun e=>by
  have:=y1.pb.t;rcases e with e | e
  .have:=y1.lg.t;rw[<- e]at this;omega
  .have:=y1.lg.t2 _ e;omega
 have g2:(aa w1).heap[b]? = some (.cells m.c.toArray 87 (0,0)):=gb;have y3:=y2.no (Ext.refl No (aa w1)).drew;refine⟨Ext (fun i=>i=s.lb∨s.ls.au=some i) (aa w1),(Ext.refl _ _).drew,Nn.mk ⟨s.rB,af.bq (Cell.ah y2.pb.r rfl) ZZ,Nn.mk ⟨s.lB,af.bq (Cell.ah y2.pb.r rfl) ZZ,m.cm,af.bq (Cell.ah g2 rfl) nb,m.pg,af.bq (Cell.ah g2 rfl) nb,m.rc,af.bq (Cell.ah g2 rfl) nb,m.gn,af.bq (Cell.ah g2 rfl) nb,m.lv,af.bq (Cell.ah g2 rfl) nb,m.rg,af.bq (Cell.ah g2 rfl) nb,m.tn,af.bq (Cell.ah g2 rfl) nb,?_⟩⟩⟩
 refine Fs ok y3.rn.r hq y3.lg.r (by omega) fun s4 r pl oR w4 o4 hr hB L4 Tf PW x4=>⟨x4.ae,If.bne (fun h=>absurd rfl h) fun _=>?_⟩
 obtain⟨y4,s4'⟩:=y2.log (e:=⟨m.vZ,q.l,pl,aS++r⟩) L4 Tf x4.ae hL;have mJ:Ext (fun i=>i=s.lb∨s.ls.au=some i) w1 w4:=xd.aF.trans x4.ae fun i _ h=>h
 have g4:w4.heap[b]? = some (.cells m.c.toArray 87 (0,0)):=(mJ.au b (aV gb) nb).trans gb;have tb4:iB T (aa w1).heap.size w4.heap.size 4 b=0:=(s4'.a b (aV g2)).trans tb;have NU:¬ s.d.fp b:=fun e=>by have:=y4.dk.t b e;omega
 have ad5:¬ s.d.fp s.pb:=fun e=>by have:=y4.dk.t _ e;have:=y4.pb.t;simp only at this;omega
 have hB':B8 (aS++r):=L4.b8 ⟨m.vZ,q.l,pl,aS++r⟩ (List.mem_append.2 (.inr (List.mem_singleton.2 rfl)));refine⟨Ext s.d.fp w4,(Ext.refl _ _).drew,Nn.mk ⟨s.d.p,af.bq (Cell.ah y4.pb.r rfl) ad5,m.cm,af.bq (Cell.ah g4 rfl) NU,m.pg,af.bq (Cell.ah g4 rfl) NU,m.rc,af.bq (Cell.ah g4 rfl) NU,m.gn,af.bq (Cell.ah g4 rfl) NU,m.lv,af.bq (Cell.ah g4 rfl) NU,m.rg,af.bq (Cell.ah g4 rfl) NU,m.tn,af.bq (Cell.ah g4 rfl) NU,?_⟩⟩
 refine zK ok fun w5 x5=>⟨x5.ae.aF,?_⟩
 have Kn:Ext No w4 w5:=x5.ae;have y5:=y4.no Kn;have aft:=ok.cm;refine Ar.i64 (by show -9223372036854775808<=m.cm % 2/\m.cm % 2<=9223372036854775807;omega) (Km y5 (by show 0<=m.cm % 2/\m.cm % 2 < 100;omega) (o4.rd.no Kn) hB' (by rw[List.length_append,hr];rfl) (fun i hi=>?_) (by show s.D.steps < 1000;omega) (by show s.D.waits.length < 1000;omega) fun T6 d6 w6 y6 s6 x6=>⟨Kn.aF.trans x6 fun i _ h=>h,If.bne (fun h=>absurd rfl h) fun _=>?_⟩)
 .rw[cR T (n:=(aa w1).heap.size) (o4.lt hi).1 (o4.lt hi).2];decide
 refine Nn.mk ⟨d6.p,Cell.ah y6.pb.r rfl,NT y6 (by show s.D.steps+1 < 1000;omega) fun T7 d7 w7 y7 s7=>HU y7 fun w8 y8 s8=>?_⟩;exact kk T7 d7 oR pl r w8 hr hB y8 ((((((fg.no n1.ext).nx xd).trans s4').nx Kn).trans s6).trans (s7.trans s8))
end
end Go.Proofs.YtefdekemmnnclaaGreat
namespace Go.Proofs.YtefdekemmnnclaaGreat
open Go.V Go.V.Dk Go.V.Rn
abbrev fF(j:Nat):List fP:=if j=0 then[] else[(2,2+(j:Int))]
theorem HY(j:Nat):yt (fF j) [((2+(j:Int)),(2+(j:Int))+1)]=fF (j+1):=by
 unfold fF yt;rw[if_neg (Nat.succ_ne_zero j)];by_cases h:j=0
 .subst h;rw[if_pos rfl,mM,mM];simp[wM]
 .rw[if_neg h,mM,if_pos (by show(2:Int)<=2+j;omega),mM,mM];simp only[wM,List.length_nil,Nat.lt_irrefl,false_and,if_false,List.nil_append,List.length_singleton,Ao,yr,gr];rw[if_pos (by simp)];simp[Ir];omega
theorem abx(j:Nat)(h:j<=98):EF (fF j):=by
 unfold fF;split
 .exact fun r hr=>nomatch hr
 .intro r hr;simp only[List.mem_singleton]at hr;subst hr;simp only;omega
theorem RO(j:Nat):cA (fF j)=true:=by
 unfold fF;split
 .rfl
 .simp[cA,kY];omega
theorem Yo(j:Nat):Rn.hasB (2+(j:Int)) (fF j)=false:=by
 unfold fF;split
 .rfl
 .simp[Rn.hasB]
theorem Yp(j:Nat):(fF j).length<=1:=by unfold fF;split <;> simp
section
variable {w w':Wd} {T T':Nat->Nat} {s:SA}
theorem RP(w:Wd):(zeroValue 4).run pz w = .ok (.bool false) w:=by kernel_rfl
theorem Sy.wb{wb':Nat}(y:Sy w T s)(r:w'.heap[s.pb]? = some (.cells ({ s with wb:=wb' }:SA).pC.toArray 287 (0,0)))(x:Ext (·=s.pb) w w')(hm:fh w.heap qg wb' ([]:List (Int×Value)))(ht:T wb'=8):Sy w' T { s with wb:=wb' }/\fg T w T w':=by
 have a:Ag T T w.heap.size:=fun _ _=>rfl
 have t5:=y.pb.t;have f:∀(k:Nat),k≠5->∀i,T i=k->¬ (i=s.pb):=fun k hk i h e=>by subst e;exact hk (h.symm.trans t5)
 have c:=y.mp.aM x a (f 8 (by decide)) (f 9 (by decide)) (f 10 (by decide))
 exact⟨⟨y.dk.aM x a (f 1 (by decide)),y.rg.aM x a (f 2 (by decide)),y.rn.aM x a (f 3 (by decide)),y.lg.aM x a (f 4 (by decide)),⟨r,t5⟩,y.fr.aM x a (f 6 (by decide)),y.kn.aM x a (f 7 (by decide)) (f 12 (by decide)),⟨hm.ext x (f 8 (by decide) _ ht),ht,c.r2,c.t2,c.r3⟩,fun i hi=>y.out i (Nat.le_trans x.size hi)⟩,
  .of (fun i hi=>by rw[hi,t5];decide) x a⟩
abbrev En(j:Nat):List Int:=(List.range j).map fun i:Nat=>2+(i:Int)
theorem MI(j:Nat):En (j+1)=En j++[2+(j:Int)]:=by simp[En,List.range_succ]
set_option maxHeartbeats 1000000 in
theorem MJ{p:Option Addr}{mV:Sl}{K:Int->Pw}(y:Sy w T s)(hc:s.cm=0)(hps:s.ps=[])(hz:∀i:Nat,i < 100->s.D.now.getD i []=bW)(hr:mV.len=0)
  (k:∀T' fr' wb' w',Sy w' T' { s with fr:=fr',F:=[(2,100)],wb:=wb' }->fg T w T' w'->K 0 w') (hp:p=s.p:=by rfl):h_ p mV w K:=by
 subst hp;apply vL;refine MC y (If.bne (fun h=>absurd rfl h) fun _=>Nn.mk ⟨_,Cell.ah y.pb.r rfl,If.bne (fun h=>absurd hc h) fun _=>fun b w2 n2=>?_⟩);have y2:=y.no n2.ext
 have m2:fh w2.heap qg b ([]:List (Int×Value)):=⟨#[],0,n2.get,rfl,db.nil⟩
 refine⟨fun _ t u=>0=t/\w2=u,⟨0,rfl,rfl⟩,?_⟩;rintro _ _ _ _ ⟨rfl,rfl⟩;refine If.dec (fun h=>by omega) fun _=>?_
 refine⟨fun m g d n u=>∃j:Nat,n=2+(j:Int)/\j<=98/\m=98 - j/\d=⟨none,0,0⟩/\Ext No w2 u/\aP u.heap w2.heap.size 24 1 g ((En j).map (Value.int .u32)),⟨_,0,rfl,Nat.zero_le _,rfl,rfl,Ext.refl _ _,aP.nil _ _ _ _⟩,?_⟩;rintro _ m0 g d n w3 ⟨j,rfl,hj,rfl,rfl,x3,o3⟩;have y3:=y2.no x3;have hgl:g.len=j:=by have:=o3.len;simpa using this.symm
 refine abu y3 (by omega) (If.dec (fun h=>?_) fun h=>?_)
 .have kN:=gK (P:=pz) (a:=2+(j:Int)) zM MD (RP w3) (m2.ext x3 fun h=>h);refine⟨false,w3,kN,If.no ?_⟩;refine xV o3 x3.size rfl (Kd rfl) (by omega) fun s4 w4 o4 l4 x4 _=>?_
  have oz:Ext No w2 w4:=x3.trans x4 fun i hi e=>by have:=(o3.lt e).1;omega
  have y4:=y2.no oz;refine Nn.mk ⟨_,Cell.ah y4.pb.r rfl,Ar.i64 (by omega) (wu y4.dk.r (fun hh=>by rw[y4.dk.c.has (by omega)]at hh;cases hh) (fun _ hh=>by rw[y4.dk.c.down]at hh;cases hh) fun _ _ s5 w5 o5 x5=>If.bne (fun h=>absurd rfl h) fun _=>?_)⟩;have ez:s.D.now.getD (2+(j:Int)).toNat []=bW:=hz _ (by omega);rw[ez]at o5;refine mo (l:=bW) o5.rd (B8.py 256) (by simp[bW]) (If.not (If.cases (fun _=>?_) fun h=>?_))
  .refine Ar.u32 (by omega) ⟨98 - (j+1),by omega,j+1,by push_cast;omega,by omega,rfl,rfl,oz.no x5,?_⟩;rw[MI,List.map_append];exact o4.no x5
  .exact absurd (fun x hx=>by unfold bW at hx;exact(List.mem_replicate.1 hx).2) (of_decide_eq_false h)
 .have ej:j=98:=by omega
  subst ej;refine RN (s:=s) rfl (HU y3 fun w4 y4 s4=>If.bne (fun h=>absurd rfl h) fun _=>Nn.mk (aH.mk y4.pb.r (Nat.le_of_ble_eq_true rfl) rfl fun w5 h5=>?_));obtain⟨y5,s5⟩:=y4.P2 (fr':=⟨none,0,0⟩) (F':=fF 0) (pu':=s.pu) (h5.get y4.pb.r) h5.ext ⟨⟨rfl,Nat.le_refl _,fun h=>absurd rfl h,fun _ h=>nomatch h⟩,fun i h=>(nomatch h),abx 0 (by decide),by decide⟩ y4.mp
  have hg5:∀T' u,fg T w3 T' u->Rd u.heap g 1 ((En 98).map (Value.int .u32)):=fun T' u st=>o3.rd.ext st.x fun a i ha hi hh=>by
   have h1:=(o3.lt (show g.au=some i by simp[Sl.au,ha,hi])).1;have:=y2.out i h1;omega
  refine⟨fun m t u=>∃j:Nat,t=(j:Int)/\j<=98/\m=98 - j/\∃T' fr',Sy u T' { s with fr:=fr',F:=fF j }/\fg T w3 T' u,⟨_,0,rfl,Nat.zero_le _,rfl,T,_,y5,s4.trans s5⟩,?_⟩;rintro _ m1 t w6 ⟨j,rfl,hj,rfl,T6,fr6,y6,s6⟩;refine If.dec (fun aV=>?_) fun ym=>?_
  .refine Ix.int (hg5 _ _ s6) (by omega) (by omega) fun bb oo _ dt=>⟨_,dt,?_⟩
   have eg:(En 98).getD ((j:Int)).toNat 0=2+(j:Int):=by
    have:j < 98:=by omega
    simp[En,List.getD,this]
   rw[eg];refine HW y6 (by omega) (RO j) (Yo j) (fun q hq=>by simp only[hps]at hq;cases hq) (by rw[HY];exact Nat.le_trans (Yp _) (by decide)) (by rw[HY];exact abx _ (by omega)) fun T7 fr7 w7 y7 s7=>Ar.i64 (by omega) ⟨98 - (j+1),by omega,j+1,by push_cast;omega,by omega,rfl,T7,fr7,?_,s6.trans s7⟩
   have e:=HY j;simp only at y7;rw[e]at y7;exact y7
  .have ej:j=98:=by omega
   subst ej;refine fun b4 w7 n7=>?_
   have a7:=n7.at_;have z7:=n7.size;have y7:=y6.tag n7.ext 8
   have m7:fh w7.heap qg b4 ([]:List (Int×Value)):=⟨#[],0,n7.get,rfl,db.nil⟩
   refine Nn.mk (aH.mk y7.pb.r (Nat.le_of_ble_eq_true rfl) rfl fun w8 h8=>?_);obtain⟨y8,s8⟩:=y7.wb (wb':=b4) (h8.get y7.pb.r) h8.ext m7 (cR _ (by omega) (by omega))
   have s7:fg T6 w6 (iB T6 w6.heap.size w7.heap.size 8) w7:=⟨bC _ _ _ _,n7.ext.aF⟩
   exact k _ fr6 b4 w8 y8 ((((fg.no n2.ext).nx x3).trans s6).trans (s7.trans s8))
theorem Ft{d:vY}{D:DS}{g:EK}{R:RS}{rb mb lb:Nat}{ks:List RK}{ls:Sl}{L:List LE}{K:Option Addr->Int->Pw}(dk:Yi w T d D)(rg:V4 w T d g R)(rn:Yj w T rb mb ks)(lg:Yk w T lb ls L)
  (k:∀T' s w',Sy w' T' s->s.d=d->s.D=D->s.g=g->s.R=R->s.rb=rb->s.mb=mb->s.ks=ks->s.lb=lb->s.ls=ls->s.L=L->s.F=[]->s.ps=[]->s.pm=none->s.pu=[]->s.cm=0->s.la=0->s.fl=false->fg T w T' w'->K s.p 0 w') :
  uz d.p (some ⟨rb,0,none⟩) (some ⟨lb,0,none⟩) ⟨none,0,0⟩ w K:=by
 apply Jk;refine⟨fun u=>w=u,If.no (If.no (If.no rfl)),?_⟩;rintro _ _ rfl;refine fun b w2 n2 b1 w3 n3 b2 w4 n4 b3 w5 n5=>?_
 have a2:=n2.at_;have a3:=n3.at_;have a4:=n4.at_;have a5:=n5.at_;have z2:=n2.size;have z3:=n3.size;have z4:=n4.size;have z5:=n5.size;have x:Ext No w w5:=((n2.ext.no n3.ext).no n4.ext).no n5.ext
 obtain⟨T5,hT⟩ : ∃T5,T5=iB (iB (iB (iB T w.heap.size w2.heap.size 7) w2.heap.size w3.heap.size 8) w3.heap.size w4.heap.size 9) w4.heap.size w5.heap.size 5:=⟨_,rfl⟩
 have a:Ag T T5 w.heap.size:=fun i hi=>by
  rw[hT,bC _ _ _ _ i (by omega),bC _ _ _ _ i (by omega),bC _ _ _ _ i (by omega),bC _ _ _ _ i hi]
 have t2:T5 b=7:=by rw[hT,bC _ _ _ _ b (by omega),bC _ _ _ _ b (by omega),bC _ _ _ _ b (by omega)];exact cR _ (by omega) (by omega)
 have t3:T5 b1=8:=by rw[hT,bC _ _ _ _ b1 (by omega),bC _ _ _ _ b1 (by omega)];exact cR _ (by omega) (by omega)
 have t4:T5 b2=9:=by rw[hT,bC _ _ _ _ b2 (by omega)];exact cR _ (by omega) (by omega)
 have t5:T5 b3=5:=by rw[hT];exact cR _ (by omega) (by omega)
 have f:∀(k i:Nat),T i=k->¬ No i:=fun _ _ _ h=>h
 have nil:∀(u:Wd)(c:Nat),u.heap[c]? = some (.map #[] 0)->fh u.heap qg c ([]:List (Int×Value)):=fun u c h=>⟨#[],0,h,rfl,db.nil⟩
 have gb:∀(c:Nat)(u:Wd),u.heap[c]? = some (.map #[] 0)->Ext No u w5->w5.heap[c]? = some (.map #[] 0):=fun c u h x=>(x.au c (aV h) fun h=>h).trans h
 have y5:Sy w5 T5 ⟨d,D,g,R,rb,mb,ks,lb,ls,L,b3,⟨none,0,0⟩,[],b,[],b1,b2,none,none,[],0,0,false⟩ :=
  ⟨dk.aM x a (f 1),rg.aM x a (f 2),rn.aM x a (f 3),lg.aM x a (f 4),⟨n5.get,t5⟩,⟨⟨rfl,Nat.le_refl _,fun h=>absurd rfl h,fun _ h=>nomatch h⟩,fun i h=>(nomatch h),fun r h=>(nomatch h),Nat.zero_le _⟩,
   ⟨nil _ _ (gb b w2 n2.get ((n3.ext.no n4.ext).no n5.ext)),t2,fun k h=>(nomatch h)⟩,⟨nil _ _ (gb b1 w3 n3.get (n4.ext.no n5.ext)),t3,nil _ _ (gb b2 w4 n4.get n5.ext),t4,fun m h=>(nomatch h)⟩,by rw[hT];exact pE _ _ _ _ (by omega)⟩
 have s5:fg T w T5 w5:=⟨a,x.aF⟩
 refine⟨fun u=>Ext No w5 u,ox (L:=[]) ⟨rfl,Nat.le_refl _,fun h=>absurd rfl h,fun _ h=>nomatch h⟩ (fun r h=>(nomatch h)) (by decide) fun w6 x6=>If.not (If.yes (If.dec (fun h=>by simp at h) fun _=>x6)),?_⟩;rintro _ w6 x6;have y6:=y5.no x6;refine Nn.mk ⟨⟨none,0,0⟩,Cell.ah y6.pb.r rfl,pv (xs:=[]) (n:=0) (aP.nil w6.heap w6.heap.size 290 2) (Nat.le_refl _) (Rd.src (s:=⟨none,0,0⟩) (Rd.nil _ _)) (by decide) fun s7 w7 o7 l7 x7 hs7=>?_⟩;have UE:Ext No w6 w7:=x7.mono fun _ _ h=>nomatch h
 have y7:=y6.tag UE 6;refine Nn.mk (aH.mk y7.pb.r (Nat.le_of_ble_eq_true rfl) rfl fun w8 h8=>?_);obtain⟨y8,s8⟩:=y7.P2 (fr':=s7) (F':=[]) (pu':=[]) (h8.get y7.pb.r) h8.ext ⟨o7.rd,fun i hi=>⟨cR _ (o7.lt hi).1 (o7.lt hi).2,(o7.lt hi).2⟩,fun r h=>(nomatch h),Nat.zero_le _⟩ y7.mp;exact k _ _ w8 y8 rfl rfl rfl rfl rfl rfl rfl rfl rfl rfl rfl rfl rfl rfl rfl rfl rfl ((s5.nx x6).trans ((⟨bC _ _ _ _,UE.aF⟩ : fg T5 w6 _ w7).trans s8))
end
end Go.Proofs.YtefdekemmnnclaaGreat
namespace Go.Proofs.YtefdekemmnnclaaGreat
open Go.V Go.V.Dk Go.V.Rn
section
variable {w w':Wd} {T T':Nat->Nat} {s:SA}
abbrev SA.gB(s:SA):Option Addr:=s.g.p
theorem RQ{p pr:Option Addr}{K:Int->Pw}(y:Sy w T s)(k:K 0 w)(hp:p=s.p:=by rfl)(hpr:pr=s.gB:=by rfl):mY p pr w K:=by
 subst hp;subst hpr;apply He;refine⟨fun t u=>false=t/\w=u,If.no ⟨rfl,rfl⟩,?_⟩;rintro _ _ _ ⟨rfl,rfl⟩;exact If.no (RI y (If.no k))
theorem Sy.VX(y:Sy w T s):∀i,s.g.fp i->¬ s.d.fp i:=fun i h h'=>by have:=y.dk.t i h';have:=y.rg.t i h;omega
theorem MK{p:Option Addr}{K:Int->Int->Pw}(y:Sy w T s)(h0:0<=s.R.aO)(h1:s.R.aO < s.R.cS)(h2:s.R.cS<=18446744073709551615)(hs:s.D.steps < 1000)
  (k:∀w',Sy w' T { s with R:={ s.R with aO:=s.R.aO+1 },D:=Up s.D }->fg T w T w'->K (s.R.aO+1) 0 w') (hp:p=s.gB:=by rfl):dM p w K:=by
 subst hp;have c:=y.dk.c;have st:=c.st
 have e:fY s.R s.D=(s.R.aO+1,0,{ s.R with aO:=s.R.aO+1 },Up s.D):=by
  unfold fY;rw[if_neg (by omega),c.step,if_pos rfl]
 refine Bc y.rg.r y.dk.r y.rg.d y.VX (by omega) ⟨h0,h2⟩ fun w' r q x=>?_
 rw[e]at r q ⊢;obtain⟨y',s'⟩:=y.abt r q x y.rg.d (c.up hs);exact k w' y' s'
theorem ML{p:Option Addr}{n:Int}{K:Int->Pw}(y:Sy w T s)(h0:s.R.bw < n)(h1:n<=s.R.aO)(hs:s.D.steps < 1000)
  (k:∀w',Sy w' T { s with R:={ s.R with bw:=n },D:=Up s.D }->fg T w T w'->K 0 w') (hp:p=s.gB:=by rfl):ft p n w K:=by
 subst hp;have c:=y.dk.c;have st:=c.st
 have e:gS s.R s.D n=(0,{ s.R with bw:=n },Up s.D):=by
  unfold gS;rw[if_neg (by omega),c.step,if_pos rfl]
 refine Bd y.rg.r y.dk.r y.rg.d y.VX (by omega) fun w' r q x=>?_
 rw[e]at r q ⊢;obtain⟨y',s'⟩:=y.abt r q x y.rg.d (c.up hs);exact k w' y' s'
theorem MM{p pr:Option Addr}{K:Int->Int->Pw}(y:Sy w T s)(hc:s.cm=0)(hla:0<=s.la/\s.la<=s.R.aO)(h1:s.R.aO < s.R.cS)(h2:s.R.cS<=18446744073709551615)(hs:s.D.steps < 1000)(hp:0<=s.R.bw/\(s.R.aO+1) % 2≠s.R.bw % 2)
  (k:∀T' m m' w',Sy w' T' { s with R:={ s.R with aO:=s.R.aO+1 },D:=Up s.D,cm:=s.R.aO+1,la:=s.R.aO+1,fl:=false,pm:=some m,dm:=some m',pu:=[] }->fg T w T' w'->K (s.R.aO+1) 0 w') (hp:p=s.p:=by rfl) (hpr:pr=s.gB:=by rfl):n_ p pr w K:=by
 subst hp;subst hpr;apply DM;refine RQ y (If.bne (fun h=>absurd rfl h) fun _=>⟨fun u=>w=u,NQ y (fun _=>If.bne (fun h=>absurd rfl h) fun _=>abv y (pD y.rg.r (If.dec (fun h=>by omega) fun _=>rfl))) (fun h=>absurd hc h),?_⟩);rintro _ _ rfl
 refine MK y (by omega) h1 h2 hs fun w1 y1 s1=>⟨fun n e u=>s.R.aO+1=n/\0=e/\w1=u,⟨fun t u=>false=t/\w1=u,If.beq (fun _=>⟨by decide,Nm.as (cQ (by omega)) (oA y1.rg.r ⟨by decide,Nm.as (cQ (by show 0<=s.R.bw;omega)) ⟨(beq_false_of_ne hp.2).symm,rfl⟩⟩)⟩) (fun h=>absurd rfl h),?_⟩,?_⟩
 .rintro _ _ _ ⟨rfl,rfl⟩;exact If.no ⟨rfl,rfl,rfl⟩
 .rintro _ _ _ _ ⟨rfl,rfl,rfl⟩;exact If.bne (fun h=>absurd rfl h) fun _=>ME y1 hc (by show s.la < _;omega) fun T' m m' w' y' s'=>k T' m m' w' y' (s1.trans s')
abbrev SA.f1(s:SA)(e:LE)(d:vY)(n:Int)(ls:Sl):SA:={ s with d:=d,D:=Sd (Wd s.D n e.au),ls:=ls,L:=s.L++[e] }
set_option maxHeartbeats 2000000 in
theorem Ko{p pr:Option Addr}{K:Int->Pw}{m:MP}{k:KP}{mm:Nat}{q q0:RK}(y:Sy w T s)(ok:m.OK)(hc:s.cm≠0)(hcm:m.cm=s.cm)(S4:s.fl=false)(hm:s.pm=some mm)(ZY:s.pu=[k.n])(hk:mG k.n (s.ps.map KP.e)=some k.v)(hkm:k∈s.ps)(h2:2<=k.n/\k.n < 100)
  (hq:tu s.ks ⟨k.l.t,k.l.gn⟩=some q) (hq0:tu s.ks ⟨0,m.rg⟩=some q0) (hL:s.L.length < 90) (ER:s.D.steps < 800) (hw:s.D.waits.length < 800) (hR:s.R.aO=s.cm) (hRc:s.R.bw < s.cm)
  (kk:∀T' d' oR pl r r2 w',r.length=252->B8 r->r2.length=252->B8 r2->Sy w' T' { s with d:=d',D:=Up (Sd (Wd (Sd (Wd s.D k.n (aS++r))) (m.cm % 2) (aS++r2))),ls:=oR,L:=(s.L++[⟨k.l,q.l,k.b,aS++r⟩])++[⟨m.vZ,q0.l,pl,aS++r2⟩],fl:=true,R:={ s.R with bw:=m.cm },cm:=0 }->fg T w T' w'->K 0 w') (hp:p=s.p:=by rfl) (hpr:pr=s.gB:=by rfl):mI p pr m.cm m.pg m.rc m.gn m.lv m.rg m.tn w K:=by
 subst hp;subst hpr;apply Cg;refine fun b w1 n1 b1 w2 n2 b2 w3 n3=>?_
 have a1:=n1.at_;have a2:=n2.at_;have a3:=n3.at_;have z1:=n1.size;have z2:=n2.size;have z3:=n3.size;have x3:Ext No w w3:=(n1.ext.no n2.ext).no n3.ext;have y3:=y.no x3;have g0:w3.heap[b]? = some (.cells [Value.pointer s.p].toArray 83 (0,0)):=((n2.ext.no n3.ext).au b (aV n1.get) fun h=>h).trans n1.get;have g1:w3.heap[b1]? = some (.cells [Value.pointer s.gB].toArray 81 (0,0)):=(n3.ext.au b1 (aV n2.get) fun h=>h).trans n2.get;have g2:w3.heap[b2]? = some (.cells m.c.toArray 87 (0,0)):=n3.get;refine⟨_,Cell.ah g0 rfl,_,Cell.ah g1 rfl,RQ y3 (If.bne (fun h=>absurd rfl h) fun _=>⟨_,Cell.ah g0 rfl,NQ y3 (fun h=>absurd h hc) fun _=>?_⟩)⟩;have y4:=y3.no (Ext.refl No w3).drew;refine⟨fun u=>Ext No w3 u,If.beq (fun h=>absurd h hc) fun _=>?_,?_⟩
 .rw[S4];exact If.no ⟨_,Cell.ah (w:=aa w3) g2 rfl,If.bne (fun h=>absurd hcm.symm h) fun _=>⟨_,Cell.ah (w:=aa w3) g1 rfl,pD y4.rg.r (If.bne (fun h=>absurd hR.symm h) fun _=>⟨_,Cell.ah (w:=aa w3) g2 rfl,_,Cell.ah (w:=aa w3) g2 rfl,_,Cell.ah (w:=aa w3) g2 rfl,_,Cell.ah (w:=aa w3) g2 rfl,_,Cell.ah (w:=aa w3) g2 rfl,_,Cell.ah (w:=aa w3) g2 rfl,_,Cell.ah (w:=aa w3) g2 rfl,vg ok fun w7 x7=>If.bne (fun h=>absurd rfl h) fun _=>x7.ae⟩)⟩⟩
 rintro _ w5 x5;have nC:=x3.no x5;have z5:=x5.size;have y5:=y.no nC;have g0':w5.heap[b]? = _:=(x5.au b (aV g0) fun h=>h).trans g0;have g1':w5.heap[b1]? = _:=(x5.au b1 (aV g1) fun h=>h).trans g1;have g2':w5.heap[b2]? = _:=(x5.au b2 (aV g2) fun h=>h).trans g2;refine⟨_,Cell.ah g0' rfl,_,Cell.ah g0' rfl,fun b3 w6 n6=>?_⟩;have rr:=n6.ext;have a6:=n6.at_;have z6:=n6.size;have y6:=y.no (nC.no rr);have h0:w6.heap[b]? = _:=(rr.au b (aV g0') fun h=>h).trans g0';have h1:w6.heap[b1]? = _:=(rr.au b1 (aV g1') fun h=>h).trans g1';have XH:w6.heap[b2]? = _:=(rr.au b2 (aV g2') fun h=>h).trans g2';have h3:=n6.get;have t0:T b=0:=y.out b (by omega);have t1:T b1=0:=y.out b1 (by omega);have t2:T b2=0:=y.out b2 (by omega);have t3:T b3=0:=y.out b3 (by omega)
 refine⟨fun n t u=>(n=4/\t=0/\w6=u)∨
  (n=3/\t=1/\∃T' d ls r,r.length=252/\B8 r/\Sy u T' { s with d:=d,D:=Sd (Wd s.D k.n (aS++r)),ls:=ls,L:=s.L++[⟨k.l,q.l,k.b,aS++r⟩],fl:=true }/\fg T w6 T' u)∨
  (n=2/\t=2/\∃T' d ls r pl r2,r.length=252/\B8 r/\r2.length=252/\B8 r2/\Sy u T' { s with d:=d,D:=Sd (Wd (Sd (Wd s.D k.n (aS++r))) (m.cm % 2) (aS++r2)),ls:=ls,L:=(s.L++[⟨k.l,q.l,k.b,aS++r⟩])++[⟨m.vZ,q0.l,pl,aS++r2⟩],fl:=true }/\fg T w6 T' u)∨
  (n=1/\t=3/\∃T' d ls r pl r2,r.length=252/\B8 r/\r2.length=252/\B8 r2/\Sy u T' { s with d:=d,D:=Up (Sd (Wd (Sd (Wd s.D k.n (aS++r))) (m.cm % 2) (aS++r2))),ls:=ls,L:=(s.L++[⟨k.l,q.l,k.b,aS++r⟩])++[⟨m.vZ,q0.l,pl,aS++r2⟩],fl:=true,R:={ s.R with bw:=m.cm } }/\fg T w6 T' u)∨
  (n=0/\t=4/\∃T' d ls r pl r2,r.length=252/\B8 r/\r2.length=252/\B8 r2/\Sy u T' { s with d:=d,D:=Up (Sd (Wd (Sd (Wd s.D k.n (aS++r))) (m.cm % 2) (aS++r2))),ls:=ls,L:=(s.L++[⟨k.l,q.l,k.b,aS++r⟩])++[⟨m.vZ,q0.l,pl,aS++r2⟩],fl:=true,R:={ s.R with bw:=m.cm },cm:=0 }/\fg T w6 T' u),⟨4,.inl ⟨rfl,rfl,rfl⟩⟩,?_⟩
 rintro _ n t u (⟨rfl,rfl,rfl⟩ | ⟨rfl,rfl,T1,d,ls,r,hr,hB,y7,s7⟩ | ⟨rfl,rfl,T1,d,ls,r,pl,r2,hr,hB,FV,Ti,y7,s7⟩ | ⟨rfl,rfl,T1,d,ls,r,pl,r2,hr,hB,FV,Ti,y7,s7⟩ | ⟨rfl,rfl,T1,d,ls,r,pl,r2,hr,hB,FV,Ti,y7,s7⟩)
 .refine If.dec (fun _=>Ix.arr (by decide) (by decide) ⟨_,Cell.ah h3 rfl,vW ?_⟩) fun h=>absurd (by decide) h
  refine MG y6 hc S4 hm ZY hk hkm h2 hq (by omega) (by omega) (by omega) fun T' d' oR r w' hr hB y' s'=>If.bne (fun h=>absurd rfl h) fun _=>Ar.i64 (by decide) ⟨3,by decide,.inr (.inl ⟨rfl,rfl,T',d',oR,r,hr,hB,y',s'⟩)⟩
 .refine If.dec (fun _=>Ix.arr (by decide) (by decide) ⟨_,Cell.ah (s7.au h3 (.inl t3)) rfl,ze (za ?_)⟩) fun h=>absurd (by decide) h
  have k0:=s7.au h0 (.inl t0);have k2:=s7.au XH (.inl t2);refine⟨_,Cell.ah k0 rfl,_,Cell.ah k2 rfl,_,Cell.ah k2 rfl,_,Cell.ah k2 rfl,_,Cell.ah k2 rfl,_,Cell.ah k2 rfl,_,Cell.ah k2 rfl,_,Cell.ah k2 rfl,?_⟩;refine MH y7 ok hc hcm rfl hq0 (by simp only[List.length_append,List.length_singleton];omega) (by show s.D.steps+1+1 < 900;omega) (by show 0 < 900;decide) fun T' d' oR pl r2 w' FV Ti y' s'=>If.bne (fun h=>absurd rfl h) fun _=>Ar.i64 (by decide) ⟨2,by decide,.inr (.inr (.inl ⟨rfl,rfl,T',d',oR,r,pl,r2,hr,hB,FV,Ti,y',s7.trans s'⟩))⟩
 .refine If.dec (fun _=>Ix.arr (by decide) (by decide) ⟨_,Cell.ah (s7.au h3 (.inl t3)) rfl,y_ (yZ ?_)⟩) fun h=>absurd (by decide) h
  have k1:=s7.au h1 (.inl t1);have k2:=s7.au XH (.inl t2);refine⟨_,Cell.ah k1 rfl,_,Cell.ah k2 rfl,?_⟩;refine ML y7 (by show s.R.bw < m.cm;omega) (by show m.cm<=s.R.aO;omega) (by show s.D.steps+1+1+1+1 < 1000;omega) fun w' y' s'=>If.bne (fun h=>absurd rfl h) fun _=>Ar.i64 (by decide) ⟨1,by decide,.inr (.inr (.inr (.inl ⟨rfl,rfl,T1,d,ls,r,pl,r2,hr,hB,FV,Ti,y',s7.trans s'⟩)))⟩
 .refine If.dec (fun _=>Ix.arr (by decide) (by decide) ⟨_,Cell.ah (s7.au h3 (.inl t3)) rfl,vP ?_⟩) fun h=>absurd (by decide) h
  refine MF y7 (.inr rfl) fun w' y' s'=>If.bne (fun h=>absurd rfl h) fun _=>Ar.i64 (by decide) ⟨0,by decide,.inr (.inr (.inr (.inr ⟨rfl,rfl,T1,d,ls,r,pl,r2,hr,hB,FV,Ti,y',s7.trans s'⟩)))⟩
 .refine If.dec (fun h=>absurd h (by decide)) fun _=>kk T1 d ls pl r r2 u hr hB FV Ti y7 ((fg.no (nC.no rr)).trans s7)
theorem Kp{d:vY}{g:EK}{R:RS}{rb:Nat}{K:Int->Int->Int->Int->Int->Int->Int->Int->Pw}(r:fM w.heap g R)(h0:R.bw=0)(k:∀w',Ext No w w'->K 0 0 0 0 0 0 0 0 w'):pP d.p g.p (some ⟨rb,0,none⟩) w K:=by
 apply E4
 refine fun b w1 n1=>⟨fun u=>w1=u,If.no (If.no (If.no rfl)),?_⟩
 rintro _ _ rfl;have hb:=n1.at_;refine oA (r.ext n1.ext fun _ _ h=>h) ?_;rw[h0];refine If.beq (fun _=>⟨rfl,cr.mk n1.get (Nat.le_refl 7) (cF rfl) fun w2 h2=>?_⟩) fun h=>absurd rfl h
 have g2:=h2.get n1.get;exact⟨_,Cell.ah g2 rfl,_,Cell.ah g2 rfl,_,Cell.ah g2 rfl,_,Cell.ah g2 rfl,_,Cell.ah g2 rfl,_,Cell.ah g2 rfl,_,Cell.ah g2 rfl,k w2 (n1.ext.out h2.ext (by omega))⟩
end
end Go.Proofs.YtefdekemmnnclaaGreat
