/- Texts for LVaultNew, part 13. -/
import Derived.Test.YtiigcapldngijaaGreatQn12
set_option maxRecDepth 100000
namespace Go.Proofs.YtiigcapldngijaaGreat
open Go.V Go.V.Dk Go.V.Rn
section
variable {w w':Wd} {T T':Nat->Nat} {s:SA}
theorem aaY:Tryz.prog.underlying 178=some (.map 36 3):=by kernel_rfl
theorem adp(w:Wd):(zeroValue 3).run pz w = .ok (.int .i64 0) w:=by kernel_rfl
theorem CI{p:Option Addr}{n:Int}{K:Bool->Pw}(y:Sy w T s)(hr:bw s.F=true)(k:∀w',Ext No w w'->K (Rn.hasB n s.F) w')(hp:p=s.p:=by rfl):cH p n w K:=by
 subst hp;apply vD;refine Nn.mk ⟨s.fr,Cell.af y.pb.r rfl,LR y.fr.r y.fr.u (by have:=y.fr.n;omega) fun w1 x1=>?_⟩;rw[hr];exact k w1 x1
theorem Sy.wait{l:List Int}(y:Sy w T s)(r:cY w'.heap lz s.wb (CG l))(x:Ext (·=s.wb) w w'):Sy w' T { s with wl:=l }/\bu T w T w':=by
 have a:Ag T T w.heap.size:=fun _ _=>rfl
 have c:=y.mp;have f:∀(k:Nat),k≠8->∀i,T i=k->¬ (i=s.wb):=fun k hk i h e=>by subst e;exact hk (h.symm.trans c.t)
 exact⟨⟨y.dk.aJ x a (f 1 (by decide)),y.rg.aJ x a (f 2 (by decide)),y.rn.aJ x a (f 3 (by decide)),y.lg.aJ x a (f 4 (by decide)),y.pb.aJ x a (f 5 (by decide)),y.fr.aJ x a (f 6 (by decide)),y.kn.aJ x a (f 7 (by decide)) (f 12 (by decide)),⟨r,c.t,c.r2.ext x (f 9 (by decide) _ c.t2),c.t2,fun q hq=>⟨(c.r3 q hq).1.ext x (f 10 (by decide) _ (c.r3 q hq).2),(c.r3 q hq).2⟩,fun q hq=>⟨(c.r4 q hq).1.ext x (f 11 (by decide) _ (c.r4 q hq).2),(c.r4 q hq).2⟩⟩,fun i hi=>y.out i (Nat.le_trans x.size hi)⟩,.of (fun i hi=>by rw[hi,c.t];decide) x a⟩
theorem Sy.drp{m:Nat}{l:List Int}(y:Sy w T s)(hm:s.dm=some m)(r:cY w'.heap lz m (CG l))(x:Ext (·=m) w w'):Sy w' T { s with dl:=l }/\bu T w T w':=by
 have a:Ag T T w.heap.size:=fun _ _=>rfl
 have c:=y.mp;have tm:=(c.r4 m hm).2;have f:∀(k:Nat),k≠11->∀i,T i=k->¬ (i=m):=fun k hk i h e=>by subst e;exact hk (h.symm.trans tm)
 exact⟨⟨y.dk.aJ x a (f 1 (by decide)),y.rg.aJ x a (f 2 (by decide)),y.rn.aJ x a (f 3 (by decide)),y.lg.aJ x a (f 4 (by decide)),y.pb.aJ x a (f 5 (by decide)),y.fr.aJ x a (f 6 (by decide)),y.kn.aJ x a (f 7 (by decide)) (f 12 (by decide)),⟨c.r.ext x (f 8 (by decide) _ c.t),c.t,c.r2.ext x (f 9 (by decide) _ c.t2),c.t2,fun q hq=>⟨(c.r3 q hq).1.ext x (f 10 (by decide) _ (c.r3 q hq).2),(c.r3 q hq).2⟩,fun q hq=>by rw[hm]at hq;have:=Option.some.inj hq;subst this;exact⟨r,tm⟩⟩,fun i hi=>y.out i (Nat.le_trans x.size hi)⟩,.of (fun i hi=>by rw[hi,tm];decide) x a⟩
theorem HW{n:Int}{l:List Int}(h:l.contains n=false):zU n (.bool true) (CG l)=CG (l++[n]):=by
 rw[rI,CG,CG,List.map_append];rfl;intro p hp e;obtain⟨q,hq,rfl⟩:=List.mem_map.1 hp;have:q=n:=e;subst this;rw[List.contains_iff_mem.2 hq]at h;cases h
theorem Rh{p:Option Addr}{n c g:Int}{m md:Nat}{K:Int->Pw}(y:Sy w T s)(hc:s.cm≠0)(Py:s.fl=false)(hn:2<=n/\n < s.N)(hw:s.wl.contains n=false)(hr:bw s.F=true)(hh:Rn.hasB n s.F=false)(hm:s.pm=some m)(hmd:s.dm=some md)(St:s.pu.contains n=false)(hdl:s.dl.contains n=false)
  (k:∀w',Sy w' T { s with wl:=s.wl++[n],dl:=s.dl++[n] }->bu T w T w'->K 0 w') (hp:p=s.p:=by rfl):jL p n c g w K:=by
 subst hp;apply yW;have hN:=y.dk.c.nN;refine fun b w1 n1=>?_
 have y1:=y.no n1.ext;have g1:=n1.get;refine G8 y1 (If.bne (fun h=>absurd rfl h) fun _=>⟨fun u=>w1=u,Mb y1 ?_,?_⟩)
 .rw[decide_eq_true hc,Py];refine If.no ⟨n,Cell.af g1 rfl,TV y1 (by omega) ?_⟩;rw[decide_eq_true hn];exact If.no rfl
 rintro _ _ rfl;refine⟨n,Cell.af g1 rfl,fun u=>Ext No w1 u,Nn.mk ⟨some s.wb,Cell.af y1.pb.r rfl,?_⟩,?_⟩
 .have eH:=fq (P:=pz) (a:=n) ku tp (Ui w1) y1.mp.r;rw[AQ,hw]at eH;refine⟨false,w1,eH,If.no (CI y1 hr fun w2 x2=>?_)⟩;rw[hh];exact If.no x2
 rintro _ w2 x2;have y2:=y1.no x2;have eH:=fq (P:=pz) (a:=n) ku tp (Ui w2) (y2.mp.r3 m hm).1;rw[AQ,St]at eH;refine Nn.mk ⟨some m,Cell.af y2.pb.r (by simp[SA.pC,hm]),false,w2,eH,If.no ?_⟩;obtain⟨w3,h3,m3,x3,z3⟩:=aG (P:=pz) (a:=n) (v:= .bool true) ku tp y2.mp.r;rw[HW hw]at m3;obtain⟨y3,s3⟩:=y2.wait m3 x3;refine Nn.mk ⟨some s.wb,Cell.af y2.pb.r rfl,w3,h3,?_⟩;obtain⟨w4,h4,m4,x4,z4⟩:=aG (P:=pz) (a:=n) (v:= .bool true) ku tp (y3.mp.r4 md hmd).1;rw[HW hdl]at m4;obtain⟨y4,s4⟩:=y3.drp hmd m4 x4;exact Nn.mk ⟨some md,Cell.af y3.pb.r (by simp[SA.pC,hmd]),w4,h4,k w4 y4 ((((bu.no n1.ext).nx x2).trans s3).trans s4)⟩
theorem aaZ{p:Option Addr}{g:Sl}{n:Int}{K:Int->Pw}(y:Sy w T s)(hg:Rd w.heap g 1 ([n].map (Value.int .u32)))(hn:2<=n/\n < s.N)(wg:s.D.steps < 900)(hw:s.D.waits.length < 900)
  (k:∀T' d' w',Sy w' T' { s with d:=d',D:=Sd (Wd s.D n bB) }->bu T w T' w'->K 0 w') (hp:p=s.p:=by rfl):dF p g w K:=by
 subst hp;apply nC;have hN:=y.dk.c.nN;have hgl:g.len=1:=by have:=hg.len;simpa using this.symm
 refine⟨fun m t u=>(m=1/\t=0/\w=u)∨(m=0/\t=1/\∃T' d',Sy u T' { s with d:=d',D:=Wd s.D n bB }/\bu T w T' u),⟨1,.inl ⟨rfl,rfl,rfl⟩⟩,?_⟩;rintro _ m t u (⟨rfl,rfl,rfl⟩ | ⟨rfl,rfl,T1,d1,y1,s1⟩)
 .refine If.dec (fun _=>?_) fun h=>absurd (by omega) h
  have TZ:¬ s.d.fp s.pb:=fun e=>by have:=y.dk.t _ e;have:=y.pb.t;omega
  refine Ix.int hg (by decide) (by omega) fun bb oo _ hc=>⟨n,hc,Ext s.d.fp w,(Ext.refl _ _).drew,Nn.mk ⟨s.d.p,aj.aF (Cell.af y.pb.r rfl) TZ,Ar.i64 (by omega) ?_⟩⟩
  refine xO.arr (sz:=1) (k:= .u8) (n:=256) rfl rfl (by decide) (by decide) fun b w2 a2 hb x2 z2=>?_
  have vJ:Ext No w w2:=x2.an;have y2:=y.no vJ;have tb:T b=0:=y.out b (by rw[hb];exact Nat.le_refl _);have r2:aQ w2.heap ⟨some ⟨b,0,none⟩,256,256⟩ bB:=a2.rdN (sz:=1) (by simp);refine⟨vJ.az,FP y2 (by omega) r2 (B8.vE 256) (by simp[bB]) (fun i hi=>?_) (by omega) (by omega) fun T3 d3 w3 y3 s3 x3=>⟨vJ.az.trans x3 fun _ _ h=>h,If.bne (fun h=>absurd rfl h) fun _=>Ar.i64 (by decide) ⟨0,by decide,.inr ⟨rfl,rfl,T3,d3,y3,(bu.no vJ).trans s3⟩⟩⟩⟩;have:b=i:=by simpa[Sl.aw] using hi
  subst this;rw[tb];decide
 .refine If.dec (fun h=>absurd h (by omega)) fun _=>If.beq (fun h=>by omega) fun _=>Nn.mk ⟨d1.p,Cell.af y1.pb.r rfl,JK y1 (by show s.D.steps+1 < 1000;omega) fun T2 d2 w2 y2 s2=>k T2 d2 w2 y2 (s1.trans s2)⟩
set_option maxHeartbeats 1000000 in
theorem Mf{p:Option Addr}{n:Int}{ps':List KP}{K:Int->Pw}(y:Sy w T s)(ho:s.cm=0∨s.fl=true)(hw:s.wl=[n])(hn:2<=n/\n < s.N)(hr:bw s.F=true)(hh:Rn.hasB n s.F=false)(hk:Db n (s.ps.map KP.e)=ps'.map KP.e)(hs:∀k∈ps',k∈s.ps)(hl:(f_ s.F [(n,n+1)]).length<=1000)(hu:zV (f_ s.F [(n,n+1)]))(wg:s.D.steps < 900)(hwt:s.D.waits.length < 900)
  (k:∀T' d' fr' w',Sy w' T' { s with d:=d',D:=Sd (Wd s.D n bB),fr:=fr',F:=f_ s.F [(n,n+1)],ps:=ps',wl:=[],cm:=0 }->bu T w T' w'->K 0 w') (hp:p=s.p:=by rfl):dG p w K:=by
 subst hp;apply nE;have hN:=y.dk.c.nN;refine G8 y (If.bne (fun h=>absurd rfl h) fun _=>Mb y ?_);have e:(decide (s.cm≠0) && !s.fl)=false:=by rcases ho with h | h <;> simp[h]
 rw[e];refine If.no (Nn.mk ⟨some s.wb,Cell.af y.pb.r rfl,vP (l:=[n]) (by have:=y.mp.r;rw[hw]at this;exact this) (.inl (Nat.le_refl _)) fun s1 w1 o1 x1=>?_⟩);have SM:s1.len=1:=by have:=o1.len;simpa using this.symm
 have y1:=y.no x1;refine⟨fun m g t u=>(m=1/\t=0/\g=⟨none,0,0⟩/\w1=u)∨(m=0/\t=1/\aP u.heap w1.heap.size 36 1 g ([n].map (Value.int .u32))/\Ext No w1 u),⟨1,.inl ⟨rfl,rfl,rfl,rfl⟩⟩,?_⟩;rintro _ m g t u (⟨rfl,rfl,rfl,rfl⟩ | ⟨rfl,rfl,o2,x2⟩)
 .refine If.dec (fun _=>?_) fun h=>absurd (by omega) h
  refine Ix.int o1.rd (by decide) (by omega) fun bb oo _ hc=>⟨n,hc,Nn.mk ⟨some s.nb,Cell.af y1.pb.r rfl,?_⟩⟩
  have eH:=fq (P:=pz) (a:=n) ku aaY (adp w1) y1.mp.r2;refine⟨0,w1,eH,If.beq (fun _=>zo (cs:=[]) (aP.nil _ w1.heap.size _ _) (Nat.le_refl _) rfl (Q5 rfl) (Nat.zero_le _) fun s2 w2 o2 l2 x2 _=>Ar.i64 (by decide) ⟨0,by decide,.inr ⟨rfl,rfl,o2,x2.mono fun _ _ h=>nomatch h⟩⟩) fun h=>absurd rfl h⟩
 have hgl:g.len=1:=by have:=o2.len;simpa using this.symm
 refine If.dec (fun h=>absurd h (by omega)) fun _=>?_
 have y2:=y1.no x2;refine aaZ y2 o2.rd hn wg hwt fun T3 d3 w3 y3 s3=>FO y3 fun w4 y4 s4=>If.bne (fun h=>absurd rfl h) fun _=>?_
 have s24:=s3.trans s4;refine⟨fun m t u=>(m=1/\t=0/\w4=u)∨(m=0/\t=1/\∃T' fr',Sy u T' { s with d:=d3,D:=Sd (Wd s.D n bB),fr:=fr',F:=f_ s.F [(n,n+1)],ps:=ps',wl:=[] }/\bu T3 w4 T' u),⟨1,.inl ⟨rfl,rfl,rfl⟩⟩,?_⟩;rintro _ m t u' (⟨rfl,rfl,rfl⟩ | ⟨rfl,rfl,T6,fr6,y6,s6⟩)
 .refine If.dec (fun _=>?_) fun h=>absurd (by omega) h
  have o4:Rd w4.heap g 1 ([n].map (Value.int .u32)):=o2.rd.ext s24.x fun a i ha hi hh=>by
   have h1:=(o2.lt (show g.aw=some i by simp[Sl.aw,ha,hi])).1;have:=y1.out i h1;omega
  refine Ix.int o4 (by decide) (by omega) fun bb oo _ hc=>⟨n,hc,Nn.mk ⟨some s.wb,Cell.af y4.pb.r rfl,?_⟩⟩
  obtain⟨w5,h5,m5,x5,z5⟩:=EL (P:=pz) (a:=n) (t:=0) ku tp y4.mp.r;have em:Db n (CG s.wl)=CG []:=by rw[hw];simp[CG,Db]
  simp only at m5;rw[em]at m5;obtain⟨y5,s5⟩:=y4.wait (l:=[]) m5 x5;refine⟨w5,h5,CH y5 (by omega) hr hh hk hs hl hu fun T6 fr6 w6 y6 s6=>Ar.i64 (by decide) ⟨0,by decide,.inr ⟨rfl,rfl,T6,fr6,y6,s5.trans s6⟩⟩⟩
 .refine If.dec (fun h=>absurd h (by omega)) fun _=>Nn.mk (aH.mk y6.pb.r (Nat.le_of_ble_eq_true rfl) rfl fun w7 h7=>?_)
  obtain⟨y7,s7⟩:=y6.Rb (cm':=0) (F':=f_ s.F [(n,n+1)]) (pu':=s.pu) (dl':=s.dl) (h7.get y6.pb.r) h7.ext y6.fr y6.mp;exact k T6 d3 fr6 w7 y7 (((bu.no (x1.no x2)).trans s24).trans (s6.trans s7))
end
end Go.Proofs.YtiigcapldngijaaGreat
namespace Go.Proofs.YtiigcapldngijaaGreat
open Go.V Go.V.Dk Go.V.Rn
section
variable {w w':Wd} {T T':Nat->Nat} {s:SA}
abbrev SA.gB(s:SA):Option Addr:=s.g.p
theorem Uk{p pr:Option Addr}{K:Int->Pw}(y:Sy w T s)(k:K 0 w)(hp:p=s.p:=by rfl)(hpr:pr=s.gB:=by rfl):nU p pr w K:=by
 subst hp;subst hpr;apply Jg;refine⟨fun t u=>false=t/\w=u,If.no ⟨rfl,rfl⟩,?_⟩;rintro _ _ _ ⟨rfl,rfl⟩;exact If.no (TW y (If.no k))
theorem Sy.YY(y:Sy w T s):∀i,s.g.fp i->¬ s.d.fp i:=fun i h h'=>by have:=y.dk.t i h';have:=y.rg.t i h;omega
theorem OE{p:Option Addr}{K:Int->Int->Pw}(y:Sy w T s)(h0:0<=s.R.aI)(h1:s.R.aI < s.R.bG)(h2:s.R.bG<=18446744073709551615)(hs:s.D.steps < 1000)
  (k:∀w',Sy w' T { s with R:={ s.R with aI:=s.R.aI+1 },D:=Up s.D }->bu T w T w'->K (s.R.aI+1) 0 w') (hp:p=s.gB:=by rfl):dJ p w K:=by
 subst hp;have c:=y.dk.c;have st:=c.st
 have e:gS s.R s.D=(s.R.aI+1,0,{ s.R with aI:=s.R.aI+1 },Up s.D):=by
  unfold gS;rw[if_neg (by omega),c.step,if_pos rfl]
 refine BY y.rg.r y.dk.r y.rg.d y.YY (by omega) ⟨h0,h2⟩ fun w' r q x=>?_
 rw[e]at r q ⊢;obtain⟨y',s'⟩:=y.ada r q x y.rg.d (c.up hs);exact k w' y' s'
theorem OF{p:Option Addr}{n:Int}{K:Int->Pw}(y:Sy w T s)(h0:s.R.bg < n)(h1:n<=s.R.aI)(hs:s.D.steps < 1000)
  (k:∀w',Sy w' T { s with R:={ s.R with bg:=n },D:=Up s.D }->bu T w T w'->K 0 w') (hp:p=s.gB:=by rfl):fJ p n w K:=by
 subst hp;have c:=y.dk.c;have st:=c.st
 have e:im s.R s.D n=(0,{ s.R with bg:=n },Up s.D):=by
  unfold im;rw[if_neg (by omega),c.step,if_pos rfl]
 refine BZ y.rg.r y.dk.r y.rg.d y.YY (by omega) fun w' r q x=>?_
 rw[e]at r q ⊢;obtain⟨y',s'⟩:=y.ada r q x y.rg.d (c.up hs);exact k w' y' s'
theorem FU{p pr:Option Addr}{K:Int->Int->Pw}(y:Sy w T s)(hc:s.cm=0)(hla:0<=s.la/\s.la<=s.R.aI)(h1:s.R.aI < s.R.bG)(h2:s.R.bG<=18446744073709551615)(hs:s.D.steps < 1000)(hp:0<=s.R.bg/\(s.R.aI+1) % 2≠s.R.bg % 2)
  (k:∀T' m m' w',Sy w' T' { s with R:={ s.R with aI:=s.R.aI+1 },D:=Up s.D,cm:=s.R.aI+1,la:=s.R.aI+1,fl:=false,pm:=some m,dm:=some m',pu:=[],dl:=[] }->bu T w T' w'->K (s.R.aI+1) 0 w') (hp:p=s.p:=by rfl) (hpr:pr=s.gB:=by rfl):oQ p pr w K:=by
 subst hp;subst hpr;apply Fj;refine Uk y (If.bne (fun h=>absurd rfl h) fun _=>⟨fun u=>w=u,PT y (fun _=>If.bne (fun h=>absurd rfl h) fun _=>adb y (ly y.rg.r (If.dec (fun h=>by omega) fun _=>rfl))) (fun h=>absurd hc h),?_⟩);rintro _ _ rfl
 refine OE y (by omega) h1 h2 hs fun w1 y1 s1=>⟨fun n e u=>s.R.aI+1=n/\0=e/\w1=u,⟨fun t u=>false=t/\w1=u,If.beq (fun _=>⟨by decide,Nm.as (k_ (by omega)) (eo y1.rg.r ⟨by decide,Nm.as (k_ (by show 0<=s.R.bg;omega)) ⟨(beq_false_of_ne hp.2).symm,rfl⟩⟩)⟩) (fun h=>absurd rfl h),?_⟩,?_⟩
 .rintro _ _ _ ⟨rfl,rfl⟩;exact If.no ⟨rfl,rfl,rfl⟩
 .rintro _ _ _ _ ⟨rfl,rfl,rfl⟩;exact If.bne (fun h=>absurd rfl h) fun _=>Ow y1 hc (by show s.la < _;omega) fun T' m m' w' y' s'=>k T' m m' w' y' (s1.trans s')
abbrev SA.fin(s:SA)(l:List PQ)(m:MP)(q0:RK)(d:tQ)(ls:Sl):SA:={ s with d:=d,D:=Up (Sd (Wd (Sd (Nd s.D l)) (m.cm % 2) (bE q0.l m.oq m.bytes))),ls:=ls,L:=(s.L++flL l)++[⟨m.oq,q0.l,m.bytes,bE q0.l m.oq m.bytes⟩],fl:=true,R:={ s.R with bg:=m.cm } }
set_option maxHeartbeats 2000000 in
theorem CJ{p pr:Option Addr}{K:Int->Pw}{m:MP}{l:List PQ}{mm:Nat}{q0:RK}{Q:SA->Prop}(y:Sy w T s)(ok:m.OK)(hc:s.cm≠0)(Y4:m.cm=s.cm)(Py:s.fl=false)(hm:s.pm=some mm)(St:s.pu=l.map fun p=>p.1.n)(Oe:s.pu.length<=1∨∃a b,s.pu=[a,b]/\a < b)(hk:∀q∈l,l_ q.1.n (s.ps.map KP.e)=some q.1.v/\q.1∈s.ps/\2<=q.1.n/\q.1.n < s.N/\ki s.ks ⟨q.1.l.t,q.1.l.gn⟩=some q.2)
  (TD:ki s.ks ⟨0,m.rg⟩=some q0) (hL:s.L.length < 90) (wg:s.D.steps < 800) (hw:s.D.waits.length < 800) (hR:s.R.aI=s.cm) (hRc:s.R.bg < s.cm)
  (scr:∀(T':Nat->Nat)(d':tQ)(pB:Sl)(u:Wd)(K':Int->Pw),Sy u T' (s.fin l m q0 d' pB)->(∀T'' s' u',Sy u' T'' s'->Q s'->bu T' u T'' u'->K' 0 u')->dG s.p u K')
  (kk:∀T' s' w',Sy w' T' s'->Q s'->bu T w T' w'->K 0 w') (hp:p=s.p:=by rfl) (hpr:pr=s.gB:=by rfl):gQ p pr m.cm m.pg m.rc m.gn m.lv m.rg m.tn w K:=by
 subst hp;subst hpr
 have hll:l.length<=2:=by
  have:s.pu.length=l.length:=by rw[St,List.length_map]
  rcases Oe with h | ⟨a,b,h,_⟩
  .omega
  .rw[h]at this;simp at this;omega
 have hfs:=Ca s.D l;have eLL:(flL l).length<=2:=by unfold flL;rw[List.length_map];exact hll
 apply DO;refine fun b w1 n1 b1 w2 n2 b2 w3 n3=>?_
 have a1:=n1.at_;have a2:=n2.at_;have a3:=n3.at_;have z1:=n1.size;have z2:=n2.size;have z3:=n3.size;have x3:Ext No w w3:=(n1.ext.no n2.ext).no n3.ext;have y3:=y.no x3;have g0:w3.heap[b]? = some (.cells [Value.pointer s.p].toArray 41 (0,0)):=((n2.ext.no n3.ext).aw b (aN n1.get) fun h=>h).trans n1.get;have g1:w3.heap[b1]? = some (.cells [Value.pointer s.gB].toArray 38 (0,0)):=(n3.ext.aw b1 (aN n2.get) fun h=>h).trans n2.get;have g2:w3.heap[b2]? = some (.cells m.c.toArray 48 (0,0)):=n3.get;refine⟨_,Cell.af g0 rfl,_,Cell.af g1 rfl,Uk y3 (If.bne (fun h=>absurd rfl h) fun _=>⟨_,Cell.af g0 rfl,PT y3 (fun h=>absurd h hc) fun _=>?_⟩)⟩;have y4:=y3.no (Ext.refl No w3).drew;refine⟨fun u=>Ext No w3 u,If.beq (fun h=>absurd h hc) fun _=>?_,?_⟩
 .rw[Py];exact If.no ⟨_,Cell.af (w:=ae w3) g2 rfl,If.bne (fun h=>absurd Y4.symm h) fun _=>⟨_,Cell.af (w:=ae w3) g1 rfl,ly y4.rg.r (If.bne (fun h=>absurd hR.symm h) fun _=>⟨_,Cell.af (w:=ae w3) g2 rfl,_,Cell.af (w:=ae w3) g2 rfl,_,Cell.af (w:=ae w3) g2 rfl,_,Cell.af (w:=ae w3) g2 rfl,_,Cell.af (w:=ae w3) g2 rfl,_,Cell.af (w:=ae w3) g2 rfl,_,Cell.af (w:=ae w3) g2 rfl,pv ok fun w7 x7=>If.bne (fun h=>absurd rfl h) fun _=>x7.an⟩)⟩⟩
 rintro _ w5 x5;have nI:=x3.no x5;have z5:=x5.size;have y5:=y.no nI;have g0':w5.heap[b]? = _:=(x5.aw b (aN g0) fun h=>h).trans g0;have g1':w5.heap[b1]? = _:=(x5.aw b1 (aN g1) fun h=>h).trans g1;have g2':w5.heap[b2]? = _:=(x5.aw b2 (aN g2) fun h=>h).trans g2;refine⟨_,Cell.af g0' rfl,_,Cell.af g0' rfl,fun b3 w6 n6=>?_⟩;have zt:=n6.ext;have a6:=n6.at_;have z6:=n6.size;have y6:=y.no (nI.no zt);have h0:w6.heap[b]? = _:=(zt.aw b (aN g0') fun h=>h).trans g0';have h1:w6.heap[b1]? = _:=(zt.aw b1 (aN g1') fun h=>h).trans g1';have h2':w6.heap[b2]? = _:=(zt.aw b2 (aN g2') fun h=>h).trans g2';have h3:=n6.get;have t0:T b=0:=y.out b (by omega);have t1:T b1=0:=y.out b1 (by omega);have t2:T b2=0:=y.out b2 (by omega);have t3:T b3=0:=y.out b3 (by omega)
 refine⟨fun n t u=>(n=4/\t=0/\w6=u)∨
  (n=3/\t=1/\∃T' d ls,Sy u T' { s with d:=d,D:=Sd (Nd s.D l),ls:=ls,L:=s.L++flL l,fl:=true }/\bu T w6 T' u)∨
  (n=2/\t=2/\∃T' d ls,Sy u T' { s with d:=d,D:=Sd (Wd (Sd (Nd s.D l)) (m.cm % 2) (bE q0.l m.oq m.bytes)),ls:=ls,L:=(s.L++flL l)++[⟨m.oq,q0.l,m.bytes,bE q0.l m.oq m.bytes⟩],fl:=true }/\bu T w6 T' u)∨
  (n=1/\t=3/\∃T' d ls,Sy u T' (s.fin l m q0 d ls)/\bu T w6 T' u)∨
  (n=0/\t=4/\∃T' s',Sy u T' s'/\Q s'/\bu T w6 T' u),⟨4,.inl ⟨rfl,rfl,rfl⟩⟩,?_⟩
 rintro _ n t u (⟨rfl,rfl,rfl⟩ | ⟨rfl,rfl,T1,d,ls,y7,s7⟩ | ⟨rfl,rfl,T1,d,ls,y7,s7⟩ | ⟨rfl,rfl,T1,d,ls,y7,s7⟩ | ⟨rfl,rfl,T1,s',y7,q7,s7⟩)
 .refine If.dec (fun _=>Ix.arr (by decide) (by decide) ⟨_,Cell.af h3 rfl,wV ?_⟩) fun h=>absurd (by decide) h
  refine Oz y6 hc Py hm St Oe hk hL (by omega) (by omega) fun T' d' pB w' y' s'=>If.bne (fun h=>absurd rfl h) fun _=>Ar.i64 (by decide) ⟨3,by decide,.inr (.inl ⟨rfl,rfl,T',d',pB,y',s'⟩)⟩
 .refine If.dec (fun _=>Ix.arr (by decide) (by decide) ⟨_,Cell.af (s7.aw h3 (.inl t3)) rfl,As (Aq ?_)⟩) fun h=>absurd (by decide) h
  have k0:=s7.aw h0 (.inl t0);have k2:=s7.aw h2' (.inl t2);refine⟨_,Cell.af k0 rfl,_,Cell.af k2 rfl,_,Cell.af k2 rfl,_,Cell.af k2 rfl,_,Cell.af k2 rfl,_,Cell.af k2 rfl,_,Cell.af k2 rfl,_,Cell.af k2 rfl,?_⟩;refine OA y7 ok hc Y4 rfl TD (by show(s.L++flL l).length < 100;rw[List.length_append];omega) (by show(Nd s.D l).steps+1 < 900;omega) (by show 0 < 900;decide) fun T' d' pB w' y' s'=>If.bne (fun h=>absurd rfl h) fun _=>Ar.i64 (by decide) ⟨2,by decide,.inr (.inr (.inl ⟨rfl,rfl,T',d',pB,y',s7.trans s'⟩))⟩
 .refine If.dec (fun _=>Ix.arr (by decide) (by decide) ⟨_,Cell.af (s7.aw h3 (.inl t3)) rfl,Ap (Ao ?_)⟩) fun h=>absurd (by decide) h
  have k1:=s7.aw h1 (.inl t1);have k2:=s7.aw h2' (.inl t2);refine⟨_,Cell.af k1 rfl,_,Cell.af k2 rfl,?_⟩;refine OF y7 (by show s.R.bg < m.cm;omega) (by show m.cm<=s.R.aI;omega) (by show(Nd s.D l).steps+1+1+1 < 1000;omega) fun w' y' s'=>If.bne (fun h=>absurd rfl h) fun _=>Ar.i64 (by decide) ⟨1,by decide,.inr (.inr (.inr (.inl ⟨rfl,rfl,T1,d,ls,y',s7.trans s'⟩)))⟩
 .refine If.dec (fun _=>Ix.arr (by decide) (by decide) ⟨_,Cell.af (s7.aw h3 (.inl t3)) rfl,wO ?_⟩) fun h=>absurd (by decide) h
  refine scr _ _ _ _ _ y7 fun T' s' w' y' q' s''=>If.bne (fun h=>absurd rfl h) fun _=>Ar.i64 (by decide) ⟨0,by decide,.inr (.inr (.inr (.inr ⟨rfl,rfl,T',s',y',q',s7.trans s''⟩)))⟩
 .refine If.dec (fun h=>absurd h (by decide)) fun _=>kk T1 s' u y7 q7 ((bu.no (nI.no zt)).trans s7)
theorem Xf{p pr:Option Addr}{K:Int->Pw}{m:MP}{l:List PQ}{mm:Nat}{q0:RK}(y:Sy w T s)(ok:m.OK)(hc:s.cm≠0)(Y4:m.cm=s.cm)(Py:s.fl=false)(hm:s.pm=some mm)(St:s.pu=l.map fun p=>p.1.n)(Oe:s.pu.length<=1∨∃a b,s.pu=[a,b]/\a < b)(hk:∀q∈l,l_ q.1.n (s.ps.map KP.e)=some q.1.v/\q.1∈s.ps/\2<=q.1.n/\q.1.n < s.N/\ki s.ks ⟨q.1.l.t,q.1.l.gn⟩=some q.2)
  (TD:ki s.ks ⟨0,m.rg⟩=some q0) (hL:s.L.length < 90) (wg:s.D.steps < 800) (hw:s.D.waits.length < 800) (hR:s.R.aI=s.cm) (hRc:s.R.bg < s.cm) (A_:s.wl=[])
  (kk:∀T' d' pB w',Sy w' T' { s.fin l m q0 d' pB with cm:=0 }->bu T w T' w'->K 0 w') (hp:p=s.p:=by rfl) (hpr:pr=s.gB:=by rfl):gQ p pr m.cm m.pg m.rc m.gn m.lv m.rg m.tn w K:=
 CJ (Q:=fun s'=>∃d' pB,s'={ s.fin l m q0 d' pB with cm:=0 }) y ok hc Y4 Py hm St Oe hk TD hL wg hw hR hRc (fun T' d' pB u K' y kk=>Oy y (.inr rfl) A_ fun w' y' s'=>kk _ _ _ y' ⟨d',pB,rfl⟩ s') (fun T' s' w' y' ⟨d',pB,e⟩ st=>by subst e;exact kk T' d' pB w' y' st) hp hpr
theorem Mg{d:tQ}{g:DY}{R:RS}{rb:Nat}{K:Int->Int->Int->Int->Int->Int->Int->Int->Pw}(r:fX w.heap g R)(h0:R.bg=0)(k:∀w',Ext No w w'->K 0 0 0 0 0 0 0 0 w'):mA d.p g.p (some ⟨rb,0,none⟩) w K:=by
 apply xD
 refine fun b w1 n1=>⟨fun u=>w1=u,If.no (If.no (If.no rfl)),?_⟩
 rintro _ _ rfl;have hb:=n1.at_;refine eo (r.ext n1.ext fun _ _ h=>h) ?_;rw[h0];refine If.beq (fun _=>⟨rfl,bO.mk n1.get (Nat.le_refl 7) (a_ rfl) fun w2 h2=>?_⟩) fun h=>absurd rfl h
 have g2:=h2.get n1.get;exact⟨_,Cell.af g2 rfl,_,Cell.af g2 rfl,_,Cell.af g2 rfl,_,Cell.af g2 rfl,_,Cell.af g2 rfl,_,Cell.af g2 rfl,_,Cell.af g2 rfl,k w2 (n1.ext.out h2.ext (by omega))⟩
end
end Go.Proofs.YtiigcapldngijaaGreat
