/- Texts for LVaultNew, part 17. -/
import Derived.Lib.ConvBytes
import Derived.Test.YtiigcapldngijaaGreatQn16
set_option maxRecDepth 100000
namespace Go.Proofs.YtiigcapldngijaaGreat
open Go.V Go.V.Pk Go.V.Dk Go.V.Rn
section
variable {w w':Wd} {T T':Nat->Nat} {s:SA} {v:VA} {lo tb cp sb:Nat} {mk hs:Sl} {ml wl:List Int}
theorem MZ{key:List Int}(k8:B8 key):∃(r:Sl) (w':Wd),Sem.run pz (convert 9 22 (.string (HU key))) w = .ok (.slice r.a r.len r.cap) w'/\aQ w'.heap r key/\(∀i,r.aw=some i->w.heap.size<=i)/\Ext No w w':=by
 have hs:(HU key).size=key.length:=by simp[C_,ByteArray.size]
 have h:=Go.Lib.run_convert_string_bytes (P:=pz) w 9 22 5 (HU key) (u:= .string) (by kernel_rfl) (by kernel_rfl) (by kernel_rfl);refine⟨⟨some ⟨w.heap.size,0,none⟩,(HU key).size,_⟩,_,h,⟨by simp[hs],?_,fun _=>⟨w.heap.size,0,rfl,fun i hi=>?_⟩,df⟩,fun i hi=>by simp[Sl.aw]at hi;omega,⟨rfl,rfl,rfl,by rw[Go.Lib.bytesWorld_size];omega,fun i hi _=>Go.Lib.bytesWorld_at_old w 5 _ i hi⟩⟩
 .exact Nat.le_add_right _ _
 .rw[List.length_map]at hi;have hc:=Go.Lib.bytesWorld_cell w 5 (HU key) (0+i) (by omega);have hx:=k8 key[i] (List.getElem_mem hi);have e:(UInt8.ofNat key[i].toNat).toNat=key[i].toNat:=by rw[UInt8.toNat_ofNat'];omega
  unfold cM;simp only[World.cell?,Go.Lib.bytesWorld_at_new]at hc ⊢;refine(show _=_ from hc).trans ?_;simp[C_,List.getElem?_eq_getElem hi,e];omega
theorem Vl{x:Int}{K:Int->Pw}(k:K x w):mh x 0 w K:=by
 apply BI;exact dU k
set_option maxHeartbeats 1000000 in
theorem Pf{ops ks vs:Sl}{key:List Int}{cc:List Value}{K:Int->Pw}(V:gg w T v s)(t:vW w T lo tb cp sb mk hs ml wl .z 0 cc)(ho:Rd w.heap ops 3 [ks.v,vs.v,Value.bool false])(Kp:ops.len=1)(hk:aQ w.heap ks key)(k8:B8 key)(k1:1<=key.length)(kl:key.length<=32)(vl:vs.len<=64)(k:∀w',Ext No w w'->K 1 w'):iK v.p (some ⟨tb,0,none⟩) ops w K:=by
 apply wW;refine fun b w1 n1=>?_
 have a1:=n1.at_;have z1:=n1.size
 have m1:cY w1.heap Value.string b ([]:List (ByteArray×Value)):=⟨#[],0,n1.get,rfl,cW.nil⟩
 refine⟨fun n t u=>(n=1/\t=0/\w1=u)∨(n=0/\t=1/\cY u.heap Value.string b [(HU key,XB ks vs)]/\Ext (·=b) w1 u),⟨1,.inl ⟨rfl,rfl,rfl⟩⟩,?_⟩;rintro _ n t7 w2 (⟨rfl,rfl,rfl⟩ | ⟨rfl,rfl,m2,x2⟩)
 .refine If.dec (fun _=>?_) fun h=>absurd (by omega) h
  have ho1:=ho.no n1.ext;refine Ix.elem (f:=fun _:Unit=>[ks.v,vs.v,Value.bool false]) (l:=[()]) (by simpa using ho1) (fun _ _=>rfl) (by decide) (by decide) (by omega) fun b' o' hi Is hc=>?_
  refine⟨ks,hc 0 _ rfl,vs,hc 1 _ rfl,false,hc 2 _ rfl,fx rfl rfl (a_ rfl) fun w4 g4 z4 x4=>?_⟩;refine⟨ks,Cell.af g4 rfl,mH.mk (Rd.no hk (n1.ext.no x4)) (fun _ _ _ h=>Cell.mk h) ⟨ks,Cell.af g4 rfl,vs,Cell.af g4 rfl,false,Cell.af g4 rfl,?_⟩⟩;obtain⟨w5,h5,m5,x5,z5⟩:=aG (P:=pz) (a:=HU key) (v:=XB ks vs) abr JY (m1.ext x4 fun h=>h);rw[rI (fun p hp=>by cases hp)]at m5;exact⟨w5,h5,Ar.i64 (by decide) ⟨0,by decide,.inr ⟨rfl,rfl,m5,x4.az.trans x5 fun i _ h=>h⟩⟩⟩
 refine If.dec (fun h=>absurd h (by omega)) fun _=>?_
 have vJ:Ext No w w2:=n1.ext.out x2 (by omega);have z2:=x2.size;refine Nn.mk ⟨0,Cell.af (ah t.g vJ) rfl,?_⟩;obtain⟨w3,eH,hI,x3,z3⟩:=Ei.start (P:=pz) JY m2;have iC:=vJ.no x3;refine⟨some ⟨w2.heap.size,0,none⟩,w3,eH,fun q all u=>∃sm,q=1 - sm.length/\all=(sm.length:Int)/\Ei Value.string u w2.heap.size b [(HU key,XB ks vs)] sm/\Ext No w u,⟨_,[],rfl,rfl,hI,iC⟩,?_⟩;rintro _ q all u ⟨sm,rfl,rfl,hI,xu⟩;rcases hI.next (P:=pz) (by omega) with⟨hp,w4,hn,x4⟩ | ⟨p,w4,hn,he,hI4,x4,hpm,_,hlen⟩
 .have e:sm.length=1:=by have:=hp.length_eq;simpa[rG] using this
  rw[e];exact .inl ⟨w4,hn,k w4 (xu.no x4)⟩
 .rw[List.mem_singleton]at hpm;subst hpm;have e:sm.length=0:=by simpa using hlen
  have zu:=hI.lt;have th:Ext No w w4:=xu.trans x4 fun i hi h=>by omega
  refine .inr ⟨_,_,w4,hn,HU key,ks,vs,false,w4,he,fx rfl rfl (a_ rfl) fun w6 g6 z6 x6=>?_⟩;have zk:=th.no x6;have V6:=V.no zk;have t6:=ah t.g zk;have xd:Ext No w6 (ae w6):=(Ext.refl _ _).drew;obtain⟨r,w7,hc,hr,_,x7⟩:=MZ (w:=ae w6) k8;have YP:=aQ.len hr;have Xe:Ext No w6 w7:=x7.an;refine⟨fun a u=>((sm.length:Int))=a/\Ext No w6 u,⟨Ext No w6,xd,Nn.mk ⟨s.p,aj.cell (Cell.af V6.b rfl),Nn.mk ⟨1,aj.cell (Cell.af t6 rfl),Nn.mk ⟨0,aj.cell (Cell.af t6 rfl),0,aj.cell (Cell.af t6 rfl),0,aj.cell (Cell.af t6 rfl),0,aj.cell (Cell.af t6 rfl),r,w7,hc,Xe,ad9 (s:=s) ⟨by omega,by omega⟩ fun w8 x8=>⟨Xe.no x8,If.beq (fun _=>⟨rfl,Xe.no x8⟩) fun h=>absurd rfl h⟩⟩⟩⟩⟩,?_⟩;rintro _ _ w9 ⟨rfl,x9⟩;obtain⟨r2,eK,VK,Jo,_,dQ⟩:=MZ (w:=w9) k8;have aii:=aQ.len Jo;refine⟨false,Cell.af (ah g6 x9) rfl,If.not (If.no ⟨r2,eK,VK,vs,Cell.af (ah (ah g6 x9) dQ) rfl,RV ⟨by omega,by omega⟩ vl (Vl (Ar.i64 (by omega) ⟨1 - (sm++[(HU key,XB ks vs)]).length,by simp;omega,sm++[(HU key,XB ks vs)],rfl,by simp,((hI4.no x6).no x9).no dQ,(zk.no x9).no dQ⟩))⟩)⟩
end
end Go.Proofs.YtiigcapldngijaaGreat
namespace Go.Proofs.YtiigcapldngijaaGreat
open Go.V Go.V.Pk Go.V.Dk Go.V.Rn
abbrev dO(key val:List Int):List Int:=pad (wr 1 0 [⟨key,val,0,.z,.z⟩])
theorem Kk{n:Int}{l:iV}{sl:Sl}{key val:List Int}(kd:l.kd=1)(lv:l.lv=0)(k8:B8 key)(v8:B8 val)(k1:1<=key.length)(kl:key.length<=32)(vl:val.length<=64):lT ⟨n,l,sl,dO key val⟩ [⟨key,val,0,.z,.z⟩] :=
 ⟨kd,lv,tA k1 kl vl rfl rfl rfl,AW kl vl rfl,fun e he=>by simp only[List.mem_singleton]at he;subst he;exact⟨by show Rf.z.ok;decide,by show Rf.z.ok;decide⟩,by simp,rfl,UN (Zr (by decide) (by decide) fun e he=>by simp only[List.mem_singleton]at he;subst he;exact⟨k8,v8⟩)⟩
abbrev Qm(ml wl:List Int):jn:=⟨1,10,ml,⟨3,2,1⟩,0,1,[⟨1,1,wl⟩]⟩
abbrev Vm(mk hs:Sl):dN:=⟨1,10,mk,⟨3,2,1⟩,0,1,hs⟩
theorem Ep{ml wl:List Int}(h1:ml.length=16)(h2:wl.length=32)(hm:B8 ml)(hw:B8 wl):Sml (Qm ml wl) ⟨1,1,wl⟩ :=
 ⟨rfl,⟨by show(1:Int)≠0;decide,by show(1:Int)<=10;decide,by show(10:Int)<=1000;decide,h1,by show(0:Int)<=1;decide,by show(1:Int)<=10;decide,⟨fun h=>absurd (show(1:Int)=0 from h) (by decide),fun h=>absurd (congrArg Rf.p (show(⟨3,2,1⟩ : Rf) = .z from h.1)) (by decide)⟩,.inl ⟨_,rfl,h2⟩⟩,
  ⟨by show(0:Int)<=1/\(1:Int)<=4294967295;decide,hm,by show(⟨3,2,1⟩ : Rf).ok;decide,by show(0:Int)<=0/\(0:Int)<=255;decide,fun h hh=>by
   simp only[List.mem_singleton]at hh;subst hh
   exact⟨by show(0:Int)<=1/\(1:Int)<=65535;decide,by show(0:Int)<=1/\(1:Int)<=18446744073709551615;decide,hw⟩⟩,
  by show(10:Int)<=127;decide,by show(1:Int)<=127;decide,by show(3:Int)<=127;decide,by show(2:Int)<=127;decide,by show(1:Int)<=127;decide,by show(0:Int)<=127;decide,by show(1:Int)<=127;decide,by show(1:Int)<=127;decide,h2⟩
theorem Kl{ml wl:List Int}(h1:ml.length=16)(h2:wl.length=32):(fy (Qm ml wl)).length<=64:=by
 simp[fy,textB,lU,h1,h2,se]
section
variable {w w':Wd} {T T':Nat->Nat} {s:SA} {v:VA} {lo tb cp sb:Nat} {mk hs:Sl} {ml wl:List Int} {rf:Rf} {ch:Int} {cc:List Value}
theorem vW.no(t:vW w T lo tb cp sb mk hs ml wl rf ch cc)(x:Ext No w w'):vW w' T lo tb cp sb mk hs ml wl rf ch cc:=t.ext x (fun _ h=>h.elim) fun _ _=>rfl
theorem vW.Qi(t:vW w T lo tb cp sb mk hs ml wl rf ch cc)(x:bu T w T' w'):vW w' T' lo tb cp sb mk hs ml wl rf ch cc:=t.ext x.x (fun _ h=> .inl (by omega)) x.a
theorem vW.agF(t:vW w T lo tb cp sb mk hs ml wl rf ch cc):iE (fun q=>T q=0/\q < w.heap.size) w.heap (Vm mk hs) (Qm ml wl):=by
 obtain⟨ws,h1,h2,h3⟩:=t.hs.ex
 exact⟨rfl,rfl,⟨t.m,fun _ i hi=>⟨(t.mt i hi).1,(t.mt i hi).2.2⟩⟩,rfl,rfl,rfl,[(⟨1,1,ws⟩,⟨1,1,wl⟩)],rfl,h1,fun _ i hi=>⟨(t.hs.t i hi).1,(t.hs.t i hi).2.2⟩,fun e he=>by
  simp only[List.mem_singleton]at he;subst he
  exact⟨rfl,rfl,⟨h2,fun _ i hi=>⟨(h3 i hi).1,(h3 i hi).2.2⟩⟩⟩⟩
theorem Vn{al:Nat}{a:Int×Value}(h:cY w.heap lz al [a]):Sem.run pz (Builtin.len_ #[49] 3 #[.map (some al)]) w = .ok (.int .i64 1) w:=by
 obtain⟨es,clock,hb,he,_⟩:=h;have h41:Tryz.prog.underlying 49=some (.map 36 97):=by kernel_rfl
 have h0:es.size=1:=by have:=congrArg List.length he;simpa using this
 simp[Builtin.len_,aD h41,dB hb,h0,goInt]
theorem R0{r0 r1 r2 r3:Int}{a:Int×Value}{K:Int->Int->Int->Int->Int->Int->Pw}(V:gg w T v s)(ht:v.ts=[a])(k:∀w',Ext No w w'->K r0 r1 r2 r3 v.mp.rg 1 w'):jA v.p r0 r1 r2 r3 w K:=by
 apply yz;refine fun b w1 n1 b1 w2 n2=>?_
 have a2:=n2.at_;have z1:=n1.size;have g0:=ah n1.get n2.ext;have x2:=n1.ext.no n2.ext;have V2:=V.no x2;have xd:Ext No w2 (ae w2):=(Ext.refl _ _).drew;have hm:=(V2.no xd).a;rw[ht]at hm;refine⟨Ext No w2,xd,_,aj.cell (Cell.af g0 rfl),_,aj.cell (Cell.af g0 rfl),_,aj.cell (Cell.af g0 rfl),_,aj.cell (Cell.af g0 rfl),Nn.mk ⟨v.mp.rg,aj.cell (Cell.af V2.b rfl),Nn.mk ⟨some v.al,aj.cell (Cell.af V2.b rfl),1,ae w2,Vn hm,xd,rfl,bO.mk (ah n2.get xd) (Nat.le_refl 6) (a_ rfl) fun w4 h4=>?_⟩⟩⟩;have g4:=h4.get (ah n2.get xd);exact⟨_,Cell.af g4 rfl,_,Cell.af g4 rfl,_,Cell.af g4 rfl,_,Cell.af g4 rfl,_,Cell.af g4 rfl,_,Cell.af g4 rfl,k w4 ((x2.no xd).out h4.ext (by omega))⟩
set_option maxHeartbeats 1000000 in
theorem abQ{n:Int}{c0 c1 c2 c3 m:Nat}{ZT:List Value}{ops ks vs:Sl}{key val:List Int}{r:fA}{K:Int->Int->Sl->Int->Int->Int->Int->Int->Sl->Pw}(V:gg w T v s)(gt0:w.heap[tb]? = some (.cells (XK mk hs .z 0 cp sb).toArray 104 (0,0)))
  (g0:w.heap[c0]? = some (.cells [Value.pointer (some ⟨tb,0,none⟩)].toArray 97 (0,0))) (g1:w.heap[c1]? = some (.cells [Value.pointer v.p].toArray 24 (0,0))) (g2:w.heap[c2]? = some (.cells ZT.toArray 67 (0,0))) (h2:ZT[9]? = some ops.v) (g3:w.heap[c3]? = some (.cells [Value.int .i64 1].toArray 3 (0,0))) (tz:T c0=0/\T c1=0/\T c2=0/\T c3=0)
  (P:Hf s 1 1 r m) (ho:Rd w.heap ops 3 [ks.v,vs.v,Value.bool false]) (Kp:ops.len=1) (hk:aQ w.heap ks key) (hv:aQ w.heap vs val) (tk:∀i,ks.aw=some i->T i=0) (tv:∀i,vs.aw=some i->T i=0) (k8:B8 key) (v8:B8 val) (k1:1<=key.length) (kl:key.length<=32) (vl:val.length<=64)
  (k:∀fr sl T' w',gg w' T' v (s.put 1 1 r fr sl (dO key val))->bu T w T' w'->K 1 10 mk r.1 s.cm 1 0 1 hs w'):g_ n ⟨c0,0,none⟩ ⟨c1,0,none⟩ ⟨c2,0,none⟩ ⟨c3,0,none⟩ w K:=by
 apply uh;refine fun b w1 n1=>?_
 have a1:=n1.at_;have z1:=n1.size;have gt:=ah gt0 n1.ext;refine⟨_,Cell.af (ah g0 n1.ext) rfl,Nn.mk ⟨1,Cell.af gt rfl,10,Cell.af gt rfl,mk,Cell.af gt rfl,0,Cell.af gt rfl,0,Cell.af gt rfl,0,Cell.af gt rfl,0,Cell.af gt rfl,0,Cell.af gt rfl,hs,Cell.af gt rfl,fx rfl rfl (dN.one ⟨1,10,mk,.z,0,0,hs⟩) fun w3 Gm z3 x3=>?_⟩⟩;have iC:=n1.ext.no x3;have V3:=V.no iC;have tn:∀i,w.heap.size<=i->T i=0:=V.y.out
 have xd:Ext No w3 (ae w3):=(Ext.refl _ _).drew;have XL:=V.tb;have ne:∀{i:Nat}{o:Obj},w.heap[i]? = some o->T i=0∨13<=T i->¬ ((1<=T i/\T i<=12)∨i=w1.heap.size):=fun h ht e=>by have:=aN h;omega
 obtain⟨b1,Cz⟩ : ∃b1,b1=w1.heap.size:=⟨_,rfl⟩
 rw[<- Cz]at Gm ne ⊢;have t1:T b1=0:=tn b1 (by omega)
 let S:Pw:=fun u=>Ext (fun i=>(1<=T i/\T i<=12)∨i=b1) w3 u/\Cell u ⟨b1,0,none⟩ (.int .u32 1)
 have hS:∀{u:Wd}{cs:List Value},Ext (fun i=>(1<=T i/\T i<=12)∨i=b1) w3 u->u.heap[b1]? = some (.cells cs.toArray 100 (0,0))->cs[0]? = some (.int .u32 1)->S u:=fun x h h0=>⟨x,Cell.af h h0⟩
 have hd:∀{i o:Nat}{cs:List Value}{x:Value}{ty:TypeId},w.heap[i]? = some (.cells cs.toArray ty (0,0))->cs[o]? = some x->T i=0∨13<=T i->aj S ⟨i,o,none⟩ x:=fun h hx ht u hu=>aj.aF (Cell.af (ah h iC) hx) (ne h ht) u hu.1
 refine⟨S,hS xd.az (ah Gm xd) rfl,v.p,hd g1 rfl (.inl tz.2.1),Nn.mk ⟨s.p,hd (i:=v.vb) V.b rfl (.inr (Nat.le_of_eq XL.symm)),1,fun u hu=>hu.2,ops,hd g2 h2 (.inl tz.2.2.1),1,hd g3 rfl (.inl tz.2.2.2),0,Cell.af (ah Gm xd) rfl,0,Cell.af (ah Gm xd) rfl,0,Cell.af (ah Gm xd) rfl,0,Cell.af (ah Gm xd) rfl,hS xd.az (ah Gm xd) rfl,?_⟩⟩;have xx:=iC.no xd;refine H3 (V.no xx).y (Qd P k8 v8 k1 kl vl) (ho.no xx) Kp (Rd.no hk xx) (Rd.no hv xx) tk tv k1 kl vl fun s' T' w4 y4 q4 p4=>?_
 obtain⟨fr,sl,rfl⟩:=q4;have Pg:bu T w3 T' w4:=(bu.no xd).trans p4;have Mr:=Pg.aw Gm (.inl t1);have e4:Ext (fun i=>(1<=T i/\T i<=12)∨i=b1) w3 w4:=Pg.x.mono fun _ _ h=> .inl h
 refine⟨hS e4 Mr rfl,Cg fun w5 x5=>⟨hS (e4.trans x5.az fun _ _ h=>h) (ah Mr x5) rfl,rfl,bO.mk (ah Mr x5) (Nat.le_of_ble_eq_true rfl) (a_ rfl) fun w6 h6=>?_⟩⟩;have JO:=h6.get (ah Mr x5);have x6:Ext (·=b1) w5 w6:=h6.ext;refine⟨hS ((e4.trans x5.az fun _ _ h=>h).trans x6 fun _ _ h=> .inr h) JO rfl,aH.mk JO (Nat.le_of_ble_eq_true rfl) rfl fun w7 h7=>?_⟩;have Cc:w7.heap[b1]? = some (.cells (dN.cells ⟨1,10,mk,⟨r.1,s.cm,1⟩,0,1,hs⟩).toArray 100 (0,0)):=h7.get JO;have x7:Ext (·=b1) w6 w7:=h7.ext;have Kq:Ext (·=b1) w5 w7:=x6.trans x7 fun _ _ h=>h
 have tb:T b=0:=tn b (by omega);have Vj:b≠b1:=by omega
 have p05:bu T w T' w5:=((bu.no iC).trans Pg).nx x5;have gb:=ar (ah (Pg.aw (ah n1.get x3) (.inl tb)) x5) Kq Vj;refine⟨_,Cell.af Cc rfl,_,Cell.af Cc rfl,mk,Cell.af Cc rfl,_,Cell.af Cc rfl,_,Cell.af Cc rfl,_,Cell.af Cc rfl,_,Cell.af Cc rfl,_,Cell.af Cc rfl,hs,Cell.af Cc rfl,rfl,bO.mk gb (Nat.le_of_ble_eq_true rfl) (dN.one ⟨1,10,mk,⟨r.1,s.cm,1⟩,0,1,hs⟩) fun w8 h8=>?_⟩;have g8:=h8.get gb;have x8:Ext (·=b) w7 w8:=h8.ext;have t1':T' b1=0:=(Pg.a b1 (aN Gm)).trans t1;have tb':T' b=0:=(Pg.a b (aN (ah n1.get x3))).trans tb;have V4:=(V.no iC).sy Pg y4 rfl rfl rfl rfl rfl;exact⟨_,Cell.af g8 rfl,_,Cell.af g8 rfl,mk,Cell.af g8 rfl,_,Cell.af g8 rfl,_,Cell.af g8 rfl,_,Cell.af g8 rfl,_,Cell.af g8 rfl,_,Cell.af g8 rfl,hs,Cell.af g8 rfl,k fr sl T' w8 (((V4.no x5).loc Kq fun i e=> .inl (by subst e;exact t1')).loc x8 fun i e=> .inl (by subst e;exact tb')) ((p05.out Kq (by omega)).out x8 (by omega))⟩
end
end Go.Proofs.YtiigcapldngijaaGreat
namespace Go.Proofs.YtiigcapldngijaaGreat
open Go.V Go.V.Pk Go.V.Dk Go.V.Rn
structure BtS(s:SA)(m m':Nat)(kq kk ml wl:List Int):Prop where
 ks:∃q q1,s.ks=[⟨⟨0,1⟩,q,kq⟩,⟨⟨1,1⟩,q1,kk⟩]
 ps:∃sl,s.ps=[⟨2,Kf,sl,Ke ml wl⟩]
 F:s.F=[(3,100)]
 wl:s.wl=[]
 cm:s.cm=2
 fl:s.fl=false
 pm:s.pm=some m
 dm:s.dm=some m'
 pu:s.pu=[]
 dl:s.dl=[]
 N:s.N=100
abbrev SA.two(s:SA)(fr sl fr' xI:Sl)(p1 p2:List Int):SA:=((s.put 1 1 (3,100) fr sl p1).drop 2).put 0 1 (4,100) fr' xI p2
section
variable {w w':Wd} {T T':Nat->Nat} {s:SA} {v:VA} {lo tb cp sb m m':Nat} {mk hs:Sl} {ml wl kq kk:List Int} {cc:List Value}
theorem fF4:cZ [(3,100)]=[(4,100)]:=by decide
theorem fF5:cZ [(4,100)]=[(5,100)]:=by decide
theorem BtS.agG(B:BtS s m m' kq kk ml wl):Hf s 1 1 (3,100) m:=by
 obtain⟨q,q1,Q7⟩:=B.ks;obtain⟨sl,Rg⟩:=B.ps;refine⟨by rw[B.cm];decide,B.fl,by rw[Q7];rfl,⟨[],B.F⟩,by rw[B.F];decide,B.pm,fun k hk=>?_,fun n hn=>(by rw[B.pu]at hn;cases hn),by rw[B.cm];simp[iV.OK,lO,By],?_,by rw[B.F];decide⟩
 .rw[Rg]at hk;simp only[List.mem_singleton]at hk;subst hk;show(2:Int)≠3;decide
 .rw[B.F,fF4];intro r hr;simp only[List.mem_singleton]at hr;subst hr;decide
theorem BtS.agH(B:BtS s m m' kq kk ml wl){fr sl:Sl}{p1:List Int}:Hf ((s.put 1 1 (3,100) fr sl p1).drop 2) 0 1 (4,100) m:=by
 obtain⟨q,q1,Q7⟩:=B.ks;obtain⟨SE,Rg⟩:=B.ps;have eF:cZ s.F=[(4,100)]:=by rw[B.F];exact fF4
 refine⟨by show s.cm≠0;rw[B.cm];decide,B.fl,by show vN s.ks 0=[1];rw[Q7];rfl,⟨[],eF⟩,by show bw (cZ s.F)=true;rw[eF];decide,B.pm,fun k hk=>?_,fun n hn=>?_,by show iV.OK ⟨0,1,0,4,s.cm,1⟩;rw[B.cm];simp[iV.OK,lO,By],?_,by show(cZ (cZ s.F)).length<=1000;rw[eF];decide⟩
 .have hk':k∈s.ps++[⟨3,⟨1,1,0,3,s.cm,1⟩,sl,p1⟩]:=hk;rw[Rg]at hk';simp only[List.mem_append,List.mem_singleton]at hk';rcases hk' with h | h <;> subst h
  .show(2:Int)≠4;decide
  .show(3:Int)≠4;decide
 .have hn':n∈s.pu++[(3:Int)]:=hn;rw[B.pu]at hn';simp only[List.nil_append,List.mem_singleton]at hn';subst hn';show(3:Int)≠4;decide
 .show zV (cZ (cZ s.F));rw[eF,fF5];intro r hr;simp only[List.mem_singleton]at hr;subst hr;decide
theorem BtS.chg(B:BtS s m m' kq kk ml wl)(h1:ml.length=16)(h2:wl.length=32)(hm:B8 ml)(hw:B8 wl){fr sl:Sl}{p1:List Int}:UO (s.put 1 1 (3,100) fr sl p1) 0 2 1 1 (be 4 1) (fy (Qm ml wl)) 4 1 (fun s'=>∃fr' xI,s'=s.two fr sl fr' xI p1 (dO (be 4 1) (fy (Qm ml wl)))):=by
 obtain⟨SE,Rg⟩:=B.ps;have eF:cZ s.F=[(4,100)]:=by rw[B.F];exact fF4
 have G:G9 (s.put 1 1 (3,100) fr sl p1) ⟨2,Kf,SE,Ke ml wl⟩ (·=s.put 1 1 (3,100) fr sl p1):=by
  refine Ox ?_ ?_ ⟨(by show(2:Int)<=2;decide),(by show(2:Int) < (s.N:Int);rw[B.N];decide)⟩ rfl ⟨(by show(1:Int)<=1;decide),(by show(1:Int)<=3;decide)⟩
  .show l_ (2:Int) ((s.ps++([⟨3,⟨1,1,0,3,s.cm,1⟩,sl,p1⟩]:List KP)).map KP.e)=_;rw[Rg];rfl
  .show(⟨2,Kf,SE,Ke ml wl⟩ : KP)∈s.ps++[⟨3,⟨1,1,0,3,s.cm,1⟩,sl,p1⟩];rw[Rg];simp
 have D:Vg (s.put 1 1 (3,100) fr sl p1) 2 m m':=by
  refine⟨by show s.cm≠0;rw[B.cm];decide,B.fl,⟨by decide,by show(2:Int) < (s.N:Int);rw[B.N];decide⟩,by show s.wl.contains 2=false;rw[B.wl];rfl,by show bw (cZ s.F)=true;rw[eF];decide,by show Rn.hasB 2 (cZ s.F)=false;rw[eF];decide,B.pm,B.dm,by show(s.pu++[(3:Int)]).contains 2=false;rw[B.pu];rfl,by show s.dl.contains 2=false;rw[B.dl];rfl⟩
 exact XZ G D B.agH (Kk rfl rfl (cv 4 1) (vV (Kb hm hw ⟨by decide,by decide⟩)) (by simp[aK]) (by simp[aK]) (Ka h1 h2)) rfl (by show(2:Int)≠0;decide) rfl (cv 4 1) (vV (Ep h1 h2 hm hw).Kz) (by simp[aK]) (by simp[aK]) (Kl h1 h2) rfl
set_option maxHeartbeats 2000000 in
theorem X_{c0 c1 c2 d0 d1 d2 d3:Nat}{ZT:List Value}{ops ks vs:Sl}{key val:List Int}{a:Int×Value}{K:Int->Int->Int->Int->Int->Int->Pw}(V:gg w T v s)(B:BtS s m m' kq kk ml wl)(ZU:v.mp=Hg)(Hi:v.ts=[a])(gt:w.heap[tb]? = some (.cells (XK mk hs .z 0 cp sb).toArray 104 (0,0)))(hsr:iE (fun q=>T q=0/\q≠c1) w.heap (Vm mk hs) (Qm ml wl))(Gi:ml.length=16)(Nj:B8 ml)(A_:wl.length=32)(GY:B8 wl)
  (g0:w.heap[c0]? = some (.cells [Value.func (.func 170) #[] #[.pointer (some ⟨d0,0,none⟩),.pointer (some ⟨d1,0,none⟩),.pointer (some ⟨d2,0,none⟩),.pointer (some ⟨d3,0,none⟩)]].toArray 247 (0,0))) (g1:w.heap[c1]? = some (.cells tu.cells.toArray 100 (0,0))) (g2:w.heap[c2]? = some (.cells [Value.pointer v.p].toArray 24 (0,0))) (cz:T c1=0/\T c2=0) (nc:c2≠c1)
  (e0:w.heap[d0]? = some (.cells [Value.pointer (some ⟨tb,0,none⟩)].toArray 97 (0,0))) (e1:w.heap[d1]? = some (.cells [Value.pointer v.p].toArray 24 (0,0))) (e2:w.heap[d2]? = some (.cells ZT.toArray 67 (0,0))) (h2:ZT[9]? = some ops.v) (e3:w.heap[d3]? = some (.cells [Value.int .i64 1].toArray 3 (0,0))) (tz:T d0=0/\T d1=0/\T d2=0/\T d3=0)
  (ho:Rd w.heap ops 3 [ks.v,vs.v,Value.bool false]) (Kp:ops.len=1) (hk:aQ w.heap ks key) (hv:aQ w.heap vs val) (tk:∀i,ks.aw=some i->T i=0) (tv:∀i,vs.aw=some i->T i=0) (k8:B8 key) (v8:B8 val) (k1:1<=key.length) (kl:key.length<=32) (vl:val.length<=64)
  (k:∀fr sl fr' xI T' w',gg w' T' v (s.two fr sl fr' xI (dO key val) (dO (be 4 1) (fy (Qm ml wl))))->w'.heap[c1]? = some (.cells (Vm mk hs).cells.toArray 100 (0,0))->Ag T T' w.heap.size->Ext (fun i=>(1<=T i/\T i<=12)∨i=c1) w w'->K 4 2 1 0 1 1 w'):gH 2 ⟨c0,0,none⟩ ⟨c1,0,none⟩ ⟨c2,0,none⟩ w K:=by
 obtain⟨vb,ky,Ph,op,Sz,al,ts⟩:=v;simp only at ZU Hi;subst ZU;subst Hi;apply sZ
 refine fun b w1 n1=>⟨_,Cell.af (ah g0 n1.ext) rfl,?_⟩
 have a1:=n1.at_;have z1:=n1.size;have tn:∀i,w.heap.size<=i->T i=0:=V.y.out
 have nx:=n1.ext;refine ui (abQ (V.no nx) (ah gt nx) (ah e0 nx) (ah e1 nx) (ah e2 nx) h2 (ah e3 nx) tz B.agG (ho.no nx) Kp (Rd.no hk nx) (Rd.no hv nx) tk tv k8 v8 k1 kl vl fun fr sl T2 w2 V2 p2=>?_);rw[B.cm];have Gz:=(bu.no nx).trans p2;have q1:=p2.aw (ah g1 nx) (.inl cz.1);refine⟨rfl,bO.mk q1 (Nat.le_refl 9) (Vm mk hs).one fun w3 h3=>?_⟩;have V0:w3.heap[c1]? = some (.cells (Vm mk hs).cells.toArray 100 (0,0)):=h3.get q1;have x3:Ext (·=c1) w2 w3:=h3.ext;have l1:=aN g1;have t1:T2 c1=0:=(Gz.a c1 l1).trans cz.1;have t2:T2 c2=0:=(Gz.a c2 (aN g2)).trans cz.2;have J6:T2 b=0:=(p2.a b (aN n1.get)).trans (tn b (by omega));have V3:=V2.loc x3 fun i e=> .inl (by subst e;exact t1)
 have q2:=ar (Gz.aw g2 (.inl cz.2)) x3 nc;have lb:b≠c1:=by omega
 have qb:=ar (p2.aw n1.get (.inl (tn b (by omega)))) x3 lb;have xd:Ext No w3 (ae w3):=(Ext.refl _ _).drew;have XL:=V3.tb;have nb:∀{i:Nat},T2 i=0∨13<=T2 i->i≠b->¬ ((1<=T2 i/\T2 i<=12)∨i=b):=fun h h'=>by omega
 have lv:vb < w.heap.size:=aN V.b;have l2:=aN g2;have nv:=nb (i:=vb) (.inr (Nat.le_of_eq XL.symm)) (by omega);have UR:=nb (.inl t1) (by omega:c1≠b);have n2':=nb (.inl t2) (by omega:c2≠b);have hr:∀{o:Nat}{x:Value},((⟨vb,ky,Ph,op,Hg,al,[a]⟩ : VA).c (s.put 1 1 (3,100) fr sl (dO key val)))[o]? = some x->aj (Ext (fun i=>(1<=T2 i/\T2 i<=12)∨i=b) w3) ⟨vb,o,none⟩ x:=fun h=>aj.aF (Cell.af V3.b h) nv
 refine⟨Ext (fun i=>(1<=T2 i/\T2 i<=12)∨i=b) w3,xd.az,some ⟨vb,0,none⟩,aj.aF (Cell.af q2 rfl) n2',some ⟨vb,0,none⟩,aj.aF (Cell.af q2 rfl) n2',Nn.mk ⟨s.p,hr rfl,some ⟨vb,0,none⟩,aj.aF (Cell.af q2 rfl) n2',Nn.mk ⟨2,hr rfl,1,hr rfl,1,hr rfl,0,hr rfl,
  1,aj.aF (Cell.af V0 rfl) UR,10,aj.aF (Cell.af V0 rfl) UR,mk,aj.aF (Cell.af V0 rfl) UR,3,aj.aF (Cell.af V0 rfl) UR,2,aj.aF (Cell.af V0 rfl) UR,1,aj.aF (Cell.af V0 rfl) UR,0,aj.aF (Cell.af V0 rfl) UR,1,aj.aF (Cell.af V0 rfl) UR,hs,aj.aF (Cell.af V0 rfl) UR,?_⟩⟩⟩
 have hsq:iE (fun q=>T q=0/\q≠c1) w3.heap (Vm mk hs) (Qm ml wl):=(hsr.ext Gz.x fun q hq h=>by omega).ext x3 fun q hq h=>hq.2 h
 have sm:=Ep Gi A_ Nj GY;have hW:=fun K=>MI (s:=s.put 1 1 (3,100) fr sl (dO key val)) (K:=K) (v:=Vm mk hs) (x:=Qm ml wl) (V3.no xd).y (B.chg (fr:=fr) (sl:=sl) (p1:=dO key val) Gi A_ Nj GY) (hsq.no xd) sm.Kz sm.may (Kl Gi A_)
 refine hW _ fun s' T4 w4 y4 q4 p4=>?_
 obtain⟨fr',xI,rfl⟩:=q4;have Pg:bu T2 w3 T4 w4:=(bu.no xd).trans p4;have V4:gg w4 T4 ⟨vb,ky,Ph,op,Hg,al,[a]⟩ (s.two fr sl fr' xI (dO key val) (dO (be 4 1) (fy (Qm ml wl)))):=V3.sy Pg y4 rfl rfl rfl rfl rfl;have e4:Ext (fun i=>(1<=T2 i/\T2 i<=12)∨i=b) w3 w4:=Pg.x.mono fun _ _ h=> .inl h
 have Y4:(s.put 1 1 (3,100) fr sl (dO key val)).cm=2:=B.cm;rw[Y4];refine⟨e4,Cg fun w5 x5=>⟨e4.trans x5.az fun _ _ h=>h,?_⟩⟩;have YJ:=fun K=>R0 (v:=⟨vb,ky,Ph,op,Hg,al,[a]⟩) (r0:=4) (r1:=2) (r2:=1) (r3:=0) (a:=a) (K:=K) (V4.no x5) rfl
 refine YJ _ fun w6 x6=>?_
 have zr:=x5.no x6;have e6:=e4.trans zr.az fun _ _ h=>h
 have qb6:=ah (Pg.aw qb (.inl J6)) zr;refine⟨e6,rfl,bO.mk qb6 (Nat.le_refl 6) (a_ rfl) fun w7 h7=>?_⟩;have g7:=h7.get qb6;have x7:Ext (·=b) w6 w7:=h7.ext;have Y5:T4 b=0:=(Pg.a b (aN qb)).trans J6;have z2:=Gz.x.size;have z3:=x3.size;refine⟨_,Cell.af g7 rfl,_,Cell.af g7 rfl,_,Cell.af g7 rfl,_,Cell.af g7 rfl,_,Cell.af g7 rfl,_,Cell.af g7 rfl,k fr sl fr' xI T4 w7 ((V4.no zr).loc x7 fun i e=> .inl (by subst e;exact Y5)) (ar (ah (Pg.aw V0 (.inl t1)) zr) x7 (by omega)) (fun i hi=>(Pg.a i (by omega)).trans (Gz.a i hi)) ?_⟩;have ag:∀i,i < w.heap.size->T2 i=T i:=Gz.a
 exact((((Gz.x.mono fun _ _ h=> .inl h).trans x3 fun _ _ h=> .inr h).trans Pg.x fun i hi h=> .inl (by rw[ag i hi]at h;exact h)).no zr).trans x7 fun i hi e=>by omega
end
end Go.Proofs.YtiigcapldngijaaGreat
namespace Go.Proofs.YtiigcapldngijaaGreat
open Go.V Go.V.Pk Go.V.Dk Go.V.Rn
theorem ael:f_ [(5,100)] [(2,3)]=[(2,3),(5,100)]:=by
 unfold f_;rw[eU,if_neg (by decide),eU,eU]
 decide
abbrev ox:MP:=⟨2,4,2,1,0,1,1⟩
theorem Gb:ox.OK:=⟨⟨by decide,by decide⟩,⟨by decide,by decide⟩,⟨by decide,by decide⟩,⟨by decide,by decide⟩,rfl,⟨by decide,by decide⟩,⟨by decide,by decide⟩⟩
abbrev lab3:iV:=⟨1,1,0,3,2,1⟩
abbrev lM:iV:=⟨0,1,0,4,2,1⟩
abbrev oy(ml wl:List Int):List Int:=dO (be 4 1) (fy (Qm ml wl))
def R3(D:DS)(kq kk p3 p4:List Int):DS:=Sd (Wd (Up (Sd (Wd (Sd (Wd (Wd (Up D) 3 (bE kk lab3 p3)) 4 (bE kq lM p4))) 0 (bE kq ox.oq ox.bytes)))) 2 bB)
structure abR(s:SA)(kq kk ml wl:List Int)(drs:List (List Int)):Prop where
 ks:∃q q1,s.ks=[⟨⟨0,1⟩,q,kq⟩,⟨⟨1,1⟩,q1,kk⟩]
 pg:∃sl,s.ps=[⟨2,Kf,sl,Ke ml wl⟩]
 D:s.D=O5 kq ml wl
 L:s.L.length=2
 R:∃dev,s.R=⟨dev,1000,1,1,drs⟩
 F:s.F=[(3,100)]
 z:s.wl=[]/\s.cm=0/\s.la=1/\s.N=100
structure abS(w:Wd)(T:Nat->Nat)(v:VA)(s:SA)(kq kk ml wl p3:List Int)(drs:List (List Int)):Prop where
 V:gg w T v s
 D:s.D=R3 (O5 kq ml wl) kq kk p3 (oy ml wl)
 L:s.L.length=5
 R:∃dev,s.R=⟨dev,1000,2,2,drs⟩
 N:s.N=100
section
variable {w w':Wd} {T T':Nat->Nat} {s:SA} {v:VA} {lo tb cp sb:Nat} {mk hs:Sl} {ml wl kq kk:List Int} {cc:List Value} {drs:List (List Int)}
theorem Ya{c0 c1 c2:Nat}{K:Pw}(g0:w.heap[c0]? = some (.cells (Vm mk hs).cells.toArray 100 (0,0)))(g1:w.heap[c1]? = some (.cells [Value.pointer (some ⟨tb,0,none⟩)].toArray 97 (0,0)))(g2:w.heap[c2]? = some (.cells [Value.func (.func 152) #[] #[]].toArray 1 (0,0)))(n2:c2≠tb)(gt:w.heap[tb]? = some (.cells (XK mk hs .z 0 cp sb).toArray 104 (0,0)))
  (k:∀w',Ext (·=tb) w w'->K w'):gI ⟨c0,0,none⟩ ⟨c1,0,none⟩ ⟨c2,0,none⟩ w K:=by
 apply sX;refine⟨_,Cell.af g1 rfl,_,Cell.af g0 rfl,_,Cell.af g0 rfl,mk,Cell.af g0 rfl,_,Cell.af g0 rfl,_,Cell.af g0 rfl,_,Cell.af g0 rfl,_,Cell.af g0 rfl,_,Cell.af g0 rfl,hs,Cell.af g0 rfl,Nn.mk ⟨rfl,bO.mk gt (Nat.le_of_ble_eq_true rfl) (Vm mk hs).one fun w1 h1=>⟨_,Cell.af (ar g2 h1.ext n2) rfl,DM (DL (k w1 h1.ext))⟩⟩⟩
set_option maxHeartbeats 4000000 in
theorem M0{d0 d1 d2 d3:Nat}{ZT:List Value}{ops ks vs:Sl}{key val:List Int}{K:Pw}(V:gg w T v s)(Pd:v.op=true)(ZU:v.mp=Hg)(Hi:v.ts=[(1,.pointer (some ⟨tb,0,none⟩))])(C:abR s kq kk ml wl drs)(t:vW w T lo tb cp sb mk hs ml wl .z 0 cc)(A_:wl.length=32)(GY:B8 wl)
  (e0:w.heap[d0]? = some (.cells [Value.pointer (some ⟨tb,0,none⟩)].toArray 97 (0,0))) (e1:w.heap[d1]? = some (.cells [Value.pointer v.p].toArray 24 (0,0))) (e2:w.heap[d2]? = some (.cells ZT.toArray 67 (0,0))) (h2:ZT[9]? = some ops.v) (e3:w.heap[d3]? = some (.cells [Value.int .i64 1].toArray 3 (0,0))) (tz:T d0=0/\T d1=0/\T d2=0/\T d3=0)
  (ho:Rd w.heap ops 3 [ks.v,vs.v,Value.bool false]) (to:∀i,ops.aw=some i->T i=0) (Kp:ops.len=1) (hk:aQ w.heap ks key) (hv:aQ w.heap vs val) (tk:∀i,ks.aw=some i->T i=0) (tv:∀i,vs.aw=some i->T i=0) (tl:∀i,ks.aw=some i∨vs.aw=some i->i < w.heap.size) (k8:B8 key) (v8:B8 val) (k1:1<=key.length) (kl:key.length<=32) (vl:val.length<=64)
  (k:∀T' s' w',abS w' T' { v with op:=true,mp:=ox } s' kq kk ml wl (dO key val) drs->iX T w T' w'->K w'):ig v.p (some ⟨tb,0,none⟩) (.func (.func 170) #[] #[.pointer (some ⟨d0,0,none⟩),.pointer (some ⟨d1,0,none⟩),.pointer (some ⟨d2,0,none⟩),.pointer (some ⟨d3,0,none⟩)]) (.func (.func 152) #[] #[]) w K:=by
 obtain⟨d,D,g,R,rb,mb,ksr,lb,ls,L,pb,fr,F,kb,ps,wb,nb,pm,dm,pu,wls,dl,cm,la,fl,N⟩:=s;obtain⟨⟨q,q1,Q7⟩,⟨slp,Rg⟩,hD,hL,⟨dev,hR⟩,hF,Qs,hz2,hz3,hz4⟩:=C;simp only at Q7 Rg hD hL hR hF Qs hz2 hz3 hz4;subst Q7 Rg hR hF Qs hz2 hz3 hz4;apply vy
 refine fun b w1 n1 b1 w2 n2=>⟨rfl,fun b2 w3 n3=>⟨rfl,fun b3 w4 n4 b4 w5 n5=>?_⟩⟩
 have z1:=n1.size;have z2:=n2.size;have z3:=n3.size;have z4:=n4.size;have z5:=n5.size;have a1:=n1.at_;have a2:=n2.at_;have a3:=n3.at_;have a4:=n4.at_;have a5:=n5.at_;have nI:Ext No w w5:=(((n1.ext.no n2.ext).no n3.ext).no n4.ext).no n5.ext;have g0:=ah (ah (ah (ah n1.get n2.ext) n3.ext) n4.ext) n5.ext;have g1:=ah (ah (ah n2.get n3.ext) n4.ext) n5.ext;have g2:=ah (ah n3.get n4.ext) n5.ext;have g3:=ah n4.get n5.ext;have g4:w5.heap[b4]? = some (.cells tu.cells.toArray 100 (0,0)):=n5.get;have tn:∀i,w.heap.size<=i->T i=0:=V.y.out
 have J6:T b=0:=tn b (by omega);have VW:T b1=0:=tn b1 (by omega);have KA:T b2=0:=tn b2 (by omega);have UT:T b3=0:=tn b3 (by omega);have Y5:T b4=0:=tn b4 (by omega);have wg:D.steps=6:=by rw[hD];rfl
 have hwt:D.waits=[]:=by rw[hD];rfl
 have ltb:=aN t.g
 let S0:SA:=⟨d,D,g,⟨dev,1000,1,1,drs⟩,rb,mb,[⟨⟨0,1⟩,q,kq⟩,⟨⟨1,1⟩,q1,kk⟩],lb,ls,L,pb,fr,[(3,100)],kb,[⟨2,Kf,slp,Ke ml wl⟩],wb,nb,pm,dm,pu,[],dl,0,1,fl,100⟩
 refine⟨v.p,Cell.af g0 rfl,?_⟩
 refine Vf (s:=S0) (W:=fun i=>i=b4) (QS:=fun m m' s6=>∃fr1 ZV fr2 SE,s6=(SA.beg S0 m m').two fr1 ZV fr2 SE (dO key val) (oy ml wl)) (QF:=fun sF=>sF.D=R3 D kq kk (dO key val) (oy ml wl)/\sF.L.length=5/\sF.R=⟨dev,1000,2,2,drs⟩/\sF.N=100) (I6:=fun _ u T5=>u.heap[b4]? = some (.cells (Vm mk hs).cells.toArray 100 (0,0))/\T5 b4=0) (mp:=ox) (V.no nI) Pd rfl ⟨by show(0:Int)<=1;decide,by show(1:Int)<=1;decide⟩ (by show(1:Int) < 1000;decide) (by show(1000:Int)<=18446744073709551615;decide) (by show D.steps < 1000;rw[wg];decide) ⟨by show(0:Int)<=1;decide,by show((1:Int)+1) % 2≠1 % 2;decide⟩ rfl ⟨by decide,by decide⟩ (fun i e=>by subst e;exact⟨Y5,by omega⟩)
  (fun n5 u T5 u' T5' S h x hS a=>⟨ar h.1 x fun hs=>?_,(a b4 (aN h.1)).trans h.2⟩) (fun T5 m m' u K' V5 MX k6=>?_) (fun m m' s6 T6 u K' q6 y6 kf=>?_) fun n5 ZK sF u K' V14 qF i14 abH iT hn5 k15=>?_
 .rcases hS b4 hs with h' | h'
  .have:=h.2;omega
  .omega
 .have up:∀{i:Nat}{o:Obj},w.heap[i]? = some o->T i=0∨13<=T i->u.heap[i]? = some o:=fun h ht=>MX.aw (ah h nI) ht
  have z05:=nI.size;have ag:∀i,i < w5.heap.size->T5 i=T i:=MX.a
  have l0:=aN e0;have l1:=aN e1;have l2:=aN e2;have l3:=aN e3
  have hsr:iE (fun q=>T5 q=0/\q≠b4) u.heap (Vm mk hs) (Qm ml wl):=((t.agF.no nI).ext MX.x fun q hq h=>by omega).mono fun q hq=>⟨by rw[ag q (by omega)];exact hq.1,by omega⟩
  have e:S0.R.aI+1=2:=rfl;rw[e]
  refine s_ (X_ (s:=SA.beg S0 m m') V5 ⟨⟨q,q1,rfl⟩,⟨slp,rfl⟩,rfl,rfl,rfl,rfl,rfl,rfl,rfl,rfl,rfl⟩ ZU Hi (up t.g (.inr (by rw[t.tt];decide))) hsr t.mn t.mB A_ GY (MX.aw g2 (.inl KA)) (MX.aw g4 (.inl Y5)) (MX.aw g0 (.inl J6)) ⟨by rw[ag b4 (by omega)];exact Y5,by rw[ag b (by omega)];exact J6⟩ (by omega) (up e0 (.inl tz.1)) (up e1 (.inl tz.2.1)) (up e2 (.inl tz.2.2.1)) h2 (up e3 (.inl tz.2.2.2)) ⟨by rw[ag d0 (by omega)];exact tz.1,by rw[ag d1 (by omega)];exact tz.2.1,by rw[ag d2 (by omega)];exact tz.2.2.1,by rw[ag d3 (by omega)];exact tz.2.2.2⟩
   ((ho.no nI).ext MX.x fun a i ha hi h=>by have:=to i (by simp[Sl.aw,ha,hi]);omega) Kp (Rd.Qi (Rd.no hk nI) MX tk) (Rd.Qi (Rd.no hv nI) MX tv) (fun i hi=>by rw[ag i (by have:=tl i (.inl hi);omega)];exact tk i hi) (fun i hi=>by rw[ag i (by have:=tl i (.inr hi);omega)];exact tv i hi) k8 v8 k1 kl vl fun fr1 ZV fr2 SE T6 w6 V6 gx a6 x6=>k6 T6 _ w6 V6 ⟨fr1,ZV,fr2,SE,rfl⟩ ⟨gx,?_⟩ a6 x6)
  rw[a6 b4 (aN (MX.aw g4 (.inl Y5))),ag b4 (by omega)];exact Y5
 .obtain⟨fr1,ZV,fr2,SE,rfl⟩:=q6;have eF:cZ (cZ [(3,100)])=[(5,100)]:=by decide
  have eB:=ael
  let l2:List PQ:=[(⟨3,lab3,ZV,dO key val⟩,⟨⟨1,1⟩,q1,kk⟩),(⟨4,lM,SE,oy ml wl⟩,⟨⟨0,1⟩,q,kq⟩)]
  let S6:SA:=(SA.beg S0 m m').two fr1 ZV fr2 SE (dO key val) (oy ml wl)
  refine CJ (s:=S6) (m:=ox) (l:=l2) (mm:=m) (q0:=⟨⟨0,1⟩,q,kq⟩) (Q:=fun s'=>∃d1 ls1 d2 fr3,s'={ S6.fin l2 ox ⟨⟨0,1⟩,q,kq⟩ d1 ls1 with d:=d2,D:=Sd (Wd (S6.fin l2 ox ⟨⟨0,1⟩,q,kq⟩ d1 ls1).D 2 bB),fr:=fr3,F:=f_ (cZ (cZ [(3,100)])) [(2,3)],ps:=[⟨3,lab3,ZV,dO key val⟩,⟨4,lM,SE,oy ml wl⟩],wl:=[],cm:=0 }) y6 Gb (by show(2:Int)≠0;decide) rfl rfl rfl rfl (.inr ⟨3,4,rfl,by decide⟩) (fun x hx=>?_) rfl (by show L.length < 90;omega) (by show D.steps+1 < 800;omega) (by show D.waits.length < 800;rw[hwt];decide) rfl (by show(1:Int) < 2;decide) (fun T' d1 ls1 u' K2 y' kz=>?_) fun T' s' w' y' ⟨d1,ls1,d2,fr3,e⟩ st=>?_
  .simp only[l2,List.mem_cons,List.not_mem_nil,or_false]at hx;rcases hx with rfl | rfl
   .exact⟨rfl,.tail _ (.head _),by show(2:Int)<=3;decide,by show(3:Int) < 100;decide,rfl⟩
   .exact⟨rfl,.tail _ (.tail _ (.head _)),by show(2:Int)<=4;decide,by show(4:Int) < 100;decide,rfl⟩
  .refine Mf (n:=2) (ps':=[⟨3,lab3,ZV,dO key val⟩,⟨4,lM,SE,oy ml wl⟩]) y' (.inr rfl) rfl ⟨by decide,by show(2:Int) < 100;decide⟩ (by show bw (cZ (cZ [(3,100)]))=true;decide) (by show Rn.hasB 2 (cZ (cZ [(3,100)]))=false;decide) rfl (fun k hk=>?_) (by show(f_ (cZ (cZ [(3,100)])) [(2,3)]).length<=1000;rw[eF,eB];decide) ?_ (by show D.steps+1+1+1+1+1+1+1 < 900;omega) (by show 0 < 900;decide) fun T2 d2 fr3 w2 y2 HV=>kz T2 _ w2 y2 ⟨d1,ls1,d2,fr3,rfl⟩ HV
   .exact List.mem_cons_of_mem _ hk
   .show zV (f_ (cZ (cZ [(3,100)])) [(2,3)]);rw[eF,eB];intro r hr;simp only[List.mem_cons,List.not_mem_nil,or_false]at hr;rcases hr with rfl | rfl <;> decide
  .subst e;exact kf T' _ w' y' ⟨rfl,by show((L++flL l2)++[_]).length=5;simp[l2,flL,hL],rfl,rfl⟩ ⟨rfl,rfl,rfl,rfl,rfl,rfl,rfl⟩ st
 .have ag:∀i,i < w.heap.size->ZK i=T i:=fun i hi=>abH i (by have:=nI.size;omega)
  have tbt:=t.tt;have Mr:u.heap[tb]? = some (.cells (XK mk hs .z 0 cp sb).toArray 104 (0,0)):=ar (ah t.g nI) iT (by omega);refine sY (Ya i14.1 (ar g1 iT (by omega)) (ar g3 iT (by omega)) (by omega) Mr fun w' x=>k15 ZK w' (iX.one x (by rw[ag tb ltb,tbt];decide)) (k ZK sF w' ⟨V14.loc x fun i e=> .inr (by rw[e,ag tb ltb,tbt];decide),qF.1.trans (by rw[hD]),qF.2.1,⟨dev,qF.2.2.1⟩,qF.2.2.2⟩ ⟨fun i hi h=>(ag i hi).trans h,(nI.az.trans iT fun i hi h=>?_).trans x fun i hi e=>?_⟩))
  .omega
  .rw[e,tbt];decide
end
end Go.Proofs.YtiigcapldngijaaGreat
namespace Go.Proofs.YtiigcapldngijaaGreat
open Go.V Go.V.Pk Go.V.Dk Go.V.Rn
section
variable {w w':Wd} {T T':Nat->Nat} {s:SA} {v:VA} {lo tb cp sb am:Nat} {mk hs:Sl} {ml wl kq kk:List Int} {drs:List (List Int)}
set_option maxHeartbeats 1000000 in
theorem Pj{c0 c1 c3 c4 c6 c7 c8:Int}{c2 ops c10 c11 c12 ks vs:Sl}{c13:Bool}{key val:List Int}{K:Int->Int->Int->Sl->Sl->Int->Sl->Pw}(V:gg w T v s)(Pd:v.op=true)(ZU:v.mp=Hg)(Hi:v.ts=[(1,.pointer (some ⟨tb,0,none⟩))])(C:abR s kq kk ml wl drs)(t:vW w T lo tb cp sb mk hs ml wl .z 0 (XP am))(m:cY w.heap (Value.int .u64) am XQ)(A_:wl.length=32)(GY:B8 wl)
  (ho:Rd w.heap ops 3 [ks.v,vs.v,Value.bool false]) (to:∀i,ops.aw=some i->T i=0) (Kp:ops.len=1) (hk:aQ w.heap ks key) (hv:aQ w.heap vs val) (tk:∀i,ks.aw=some i->T i=0) (tv:∀i,vs.aw=some i->T i=0) (tl:∀i,ks.aw=some i∨vs.aw=some i->i < w.heap.size) (k8:B8 key) (v8:B8 val) (k1:1<=key.length) (kl:key.length<=32) (vl:val.length<=64)
  (k:∀T' s' w',abS w' T' { v with op:=true,mp:=ox } s' kq kk ml wl (dO key val) drs->iX T w T' w'->K 0 0 0 ⟨none,0,0⟩ ⟨none,0,0⟩ 0 ⟨none,0,0⟩ w'):iI v.p c0 c1 c2 c3 c4 4294967297 c6 c7 c8 ops c10 c11 c12 c13 w K:=by
 apply wX;refine fun b w1 n1 b1 w2 n2 b2 w3 n3=>?_
 have z1:=n1.size;have z2:=n2.size;have z3:=n3.size;have a1:=n1.at_;have a2:=n2.at_;have a3:=n3.at_;have x3:Ext No w w3:=(n1.ext.no n2.ext).no n3.ext;have g0:=ah (ah n1.get n2.ext) n3.ext;have g1:=ah n2.get n3.ext;have Cy:=aQ.len hk;have hvl:=aQ.len hv;refine⟨v.p,Cell.af g0 rfl,c0,Cell.af g1 rfl,c1,Cell.af g1 rfl,c2,Cell.af g1 rfl,c3,Cell.af g1 rfl,c4,Cell.af g1 rfl,4294967297,Cell.af g1 rfl,c6,Cell.af g1 rfl,c7,Cell.af g1 rfl,c8,Cell.af g1 rfl,ops,Cell.af g1 rfl,c10,Cell.af g1 rfl,c11,Cell.af g1 rfl,c12,Cell.af g1 rfl,c13,Cell.af g1 rfl,?_⟩;refine CS (V.no x3) Hi (t.no x3) (m.ext x3 fun h=>h) (by decide) fun w4 x4 b3 w5 n5=>aH.mk n5.get Nat.one_pos rfl fun w6 h6=>?_
 have a5:=n5.at_;have z4:=x4.size;have zk:Ext No w w6:=((x3.no x4).no n5.ext).out h6.ext (by omega);have Sr:Ext No w3 w6:=(x4.no n5.ext).out h6.ext (by omega);have g36:=h6.get n5.get;have JO:=ah g1 Sr;refine⟨fun u=>Ext No w6 u,⟨ops,Cell.af JO rfl,If.dec (fun h=>absurd h (by omega)) fun _=>⟨ops,Cell.af JO rfl,Hk (ho.no zk) Kp (by omega) (by omega) (by omega) fun w8 x8=>If.no x8⟩⟩,?_⟩;rintro _ eK dQ;have F8:=zk.no dQ;have aem:=Sr.no dQ;have aen:=ah JO dQ;refine⟨ops,Cell.af aen rfl,If.beq (fun h=>by omega) fun _=>⟨v.p,Cell.af (ah g0 aem) rfl,_,Cell.af (ah g36 dQ) rfl,ops,Cell.af aen rfl,Pf (V.no F8) (t.no F8) (ho.no F8) Kp (Rd.no hk F8) k8 k1 kl (by omega) fun eM nH b4 gO pK=>aH.mk pK.get Nat.one_pos rfl fun fV Ky=>?_⟩⟩;have a12:=pK.at_;have VS:=pK.size;have Vo:Ext No eK fV:=(nH.no pK.ext).out Ky.ext (by have:=nH.size;omega);have Hj:=F8.no Vo;have aeo:=Ky.get pK.get;have abT:=ah (ah g36 dQ) Vo;have t13:=t.no Hj;have xd:Ext No fV (ae fV):=(Ext.refl _ _).drew;refine⟨Ext No fV,xd,_,aj.cell (Cell.af abT rfl),Nn.mk ⟨10,aj.cell (Cell.af t13.g rfl),1,aj.cell (Cell.af aeo rfl),_,aj.cell (Cell.af abT rfl),Ki (t13.no xd) fun lR iT=>⟨xd.no iT,RW fun mU ld=>⟨(xd.no iT).no ld,If.no ?_⟩⟩⟩⟩;have Qn:=(xd.no iT).no ld;have Pl:=Hj.no Qn;have D8:=(aem.no Vo).no Qn;have aij:=Pl.size;have agm:=D8.size;have tn:∀i,w.heap.size<=i->T i=0:=V.y.out
 have RQ:=ah g0 D8;have Kh:=ah g1 D8;have MS:=ah n3.get D8;have aep:=ah abT Qn;refine⟨v.p,Cell.af RQ rfl,_,Cell.af aep rfl,M0 (V.no Pl) Pd ZU Hi C (t.no Pl) A_ GY aep RQ Kh rfl (ah aeo Qn) ⟨tn b3 (by omega),tn b (by omega),tn b1 (by omega),tn b4 (by have:=F8.size;have:=nH.size;omega)⟩ (ho.no Pl) to Kp (Rd.no hk Pl) (Rd.no hv Pl) tk tv (fun i hi=>by have:=tl i hi;omega) k8 v8 k1 kl vl fun T' s' iB A st=>?_⟩;have KA:T b2=0:=tn b2 (by omega);have h2:=st.aw MS KA;have t2':T' b2=0:=st.z b2 (aN MS) KA;refine⟨0,Cell.af h2 rfl,0,Cell.af h2 rfl,0,Cell.af h2 rfl,⟨none,0,0⟩,Cell.af h2 rfl,⟨none,0,0⟩,Cell.af h2 rfl,0,Cell.af h2 rfl,⟨none,0,0⟩,Cell.af h2 rfl,rfl,bO.mk h2 (Nat.le_refl 7) (a_ rfl) fun pJ Rp=>?_⟩;have Cc:=Rp.get h2;have Eg:Ext (·=b2) iB pJ:=Rp.ext;exact⟨0,Cell.af Cc rfl,0,Cell.af Cc rfl,0,Cell.af Cc rfl,⟨none,0,0⟩,Cell.af Cc rfl,⟨none,0,0⟩,Cell.af Cc rfl,0,Cell.af Cc rfl,⟨none,0,0⟩,Cell.af Cc rfl,k T' s' pJ ⟨A.V.loc Eg fun i e=> .inl (by subst e;exact t2'),A.D,A.L,A.R,A.N⟩ (((iX.no Pl).trans st).out Eg (by omega))⟩
theorem Vp{c1 c3 c4 c6 c7 c8:Int}{c2 ops c10 c11 c12 ks vs:Sl}{c13:Bool}{key val:List Int}{K:Int->Int->Int->Sl->Sl->Int->Sl->Pw}(V:gg w T v s)(Pd:v.op=true)(ZU:v.mp=Hg)(Hi:v.ts=[(1,.pointer (some ⟨tb,0,none⟩))])(C:abR s kq kk ml wl drs)(t:vW w T lo tb cp sb mk hs ml wl .z 0 (XP am))(m:cY w.heap (Value.int .u64) am XQ)(A_:wl.length=32)(GY:B8 wl)
  (ho:Rd w.heap ops 3 [ks.v,vs.v,Value.bool false]) (to:∀i,ops.aw=some i->T i=0) (Kp:ops.len=1) (hk:aQ w.heap ks key) (hv:aQ w.heap vs val) (tk:∀i,ks.aw=some i->T i=0) (tv:∀i,vs.aw=some i->T i=0) (tl:∀i,ks.aw=some i∨vs.aw=some i->i < w.heap.size) (k8:B8 key) (v8:B8 val) (k1:1<=key.length) (kl:key.length<=32) (vl:val.length<=64)
  (k:∀T' s' w',abS w' T' { v with op:=true,mp:=ox } s' kq kk ml wl (dO key val) drs->iX T w T' w'->K 0 0 0 ⟨none,0,0⟩ ⟨none,0,0⟩ 0 ⟨none,0,0⟩ w'):aR v.p 11 c1 c2 c3 c4 4294967297 c6 c7 c8 ops c10 c11 c12 c13 w K:=by
 refine Pc (f:=93) V Pd rfl fun w1 X K' x1 V1 kk'=>wY (Pj V1 Pd ZU Hi C (t.no x1) (m.ext x1 fun h=>h) A_ GY (ho.no x1) to Kp (Rd.no hk x1) (Rd.no hv x1) tk tv (fun i hi=>Nat.lt_of_lt_of_le (tl i hi) x1.size) k8 v8 k1 kl vl fun T' s' w2 A st=>kk' _ _ _ _ _ _ _ T' w2 st fun b w3 x3 Cz hb _=>?_)
 exact k T' s' w3 ⟨A.V.loc x3 fun i e=> .inl (by rw[e];exact Cz),A.D,A.L,A.R,A.N⟩ (((iX.no x1).trans st).out x3 hb)
end
end Go.Proofs.YtiigcapldngijaaGreat
namespace Go.Proofs.YtiigcapldngijaaGreat
open Go.V Go.V.Pk Go.V.Dk Go.V.Rn
section
variable {w w':Wd} {T T':Nat->Nat} {l:List Int} {c0 c1:Nat} {b:Sl}
theorem Gc{size a:Nat}{x:Int}{K:Int->Pw}(hb:aQ w.heap b l)(hl:l.length=224)(g0:w.heap[c0]? = some (.cells [b.v].toArray 22 (0,0)))(g1:w.heap[c1]? = some (.cells [Value.int .i64 a].toArray 3 (0,0)))(h1:1<=size/\size<=8/\a+size<=224)(hd:(l.drop a).take size=be size x)(h0:0<=x)(hx:x < 256 ^ size)(k:∀w',w'.heap[c1]? = some (.cells [Value.int .i64 (a+size:Nat)].toArray 3 (0,0))->Ext (·=c1) w w'->K x w'):nu size ⟨c0,0,none⟩ ⟨c1,0,none⟩ w K:=by
 apply DI;have DW:b.len=224:=by rw[aQ.len hb,hl]
 have iv:=hb.cap;have e:(a:Int)+(size:Int)=((a+size:Nat):Int):=by omega
 refine⟨b,Cell.af g0 rfl,a,Cell.af g1 rfl,a,Cell.af g1 rfl,Ar.i64 (by omega) ?_⟩;rw[e];refine hb.BQ (by omega) (by omega) (by omega) fun s hs od=>?_
 have e2:(List.drop ((a:Int).toNat * 1) l).take ((((a+size:Nat):Int) - (a:Int)).toNat * 1)=be size x:=by
  have e3:(((a+size:Nat):Int) - (a:Int)).toNat * 1=size:=by omega
  rw[e3,Int.toNat_natCast,Nat.mul_one];exact hd
 rw[e2]at hs;refine mW hs (cv _ _) (by rw[aK];omega) (by rw[aK];omega) ⟨a,Cell.af g1 rfl,Ar.i64 (by omega) ?_⟩;rw[jQ size h0 hx,e];exact aH.mk g1 Nat.one_pos rfl fun w2 h2=>k w2 (h2.get g1) h2.ext
theorem Vq{j:Nat}(h:29<=j):ox.bytes.getD j 0=0:=by
 unfold MP.bytes;rw[List.getD_eq_getElem?_getD,List.getElem?_append_right (by rw[MP.b29];exact h),List.getElem?_replicate];split <;> rfl
set_option maxHeartbeats 2000000 in
theorem D_{K:Int->Int->Int->Int->Int->Int->Int->Int->Int->Pw}(hb:aQ w.heap b ox.bytes)(k:∀w',Ext No w w'->K 2 4 2 1 0 1 1 0 0 w'):qy b w K:=by
 apply GJ;refine fun c0 w1 n1 c2 w2 n2 c1 w3 n3=>?_
 have z1:=n1.size;have z2:=n2.size;have z3:=n3.size;have a1:=n1.at_;have a2:=n2.at_;have a3:=n3.at_;have x3:Ext No w w3:=(n1.ext.no n2.ext).no n3.ext;have hl:=ox.kr;have DW:b.len=224:=by rw[aQ.len hb,hl]
 have g0:=ah (ah n1.get n2.ext) n3.ext;have g2:=ah n2.get n3.ext
 let X:Pw:=fun u=>Ext (fun i=>i=c1∨i=c2) w3 u
 have Yb:∀{u},X u->u.heap[c0]? = some (.cells [b.v].toArray 22 (0,0)):=fun x=>ar g0 x (by omega)
 have xn:∀{u},X u->Ext No w u:=fun x=>x3.trans x fun i hi h=>by omega
 have LW:∀{u v:Wd},X u->Ext (·=c1) u v->X v:=fun x y=>Ext.trans x y fun _ _ h=> .inl h
 have HV:∀{u v:Wd},X u->Ext (·=c2) u v->X v:=fun x y=>Ext.trans x y fun _ _ h=> .inr h
 have X3:X w3:=Ext.refl _ _;have P_:¬ c2=c1:=by omega
 refine⟨b,Cell.af g0 rfl,If.bne (fun h=>absurd (by rw[DW];rfl) h) fun _=>?_⟩;refine dD (Gc (a:=0) (size:=8) (x:=2) (Rd.no hb (xn X3)) hl (Yb X3) n3.get (by decide) (by decide) (by decide) (by decide) fun w4 h4 x4=>?_);have X4:=LW X3 x4;refine aH.mk (ar g2 x4 P_) (Nat.le_of_ble_eq_true rfl) rfl fun w5 h5=>?_
 have x5:Ext (·=c2) w4 w5:=h5.ext;have X5:=HV X4 x5;have q5:=h5.get (ar g2 x4 P_);refine dD (Gc (a:=8) (size:=4) (x:=4) (Rd.no hb (xn X5)) hl (Yb X5) (ar h4 x5 (by omega)) (by decide) (by decide) (by decide) (by decide) fun w6 h6 x6=>Ar.u32 (by decide) ?_);have X6:=LW X5 x6;refine dD (Gc (a:=12) (size:=8) (x:=2) (Rd.no hb (xn X6)) hl (Yb X6) h6 (by decide) (by decide) (by decide) (by decide) fun w7 h7 x7=>?_);have X7:=LW X6 x7;refine dD (Gc (a:=20) (size:=2) (x:=1) (Rd.no hb (xn X7)) hl (Yb X7) h7 (by decide) (by decide) (by decide) (by decide) fun w8 h8 x8=>Ar.u16 (by decide) ?_);have X8:=LW X7 x8;refine dD (Gc (a:=22) (size:=1) (x:=0) (Rd.no hb (xn X8)) hl (Yb X8) h8 (by decide) (by decide) (by decide) (by decide) fun w9 h9 x9=>Ar.u8 (by decide) ⟨rfl,?_⟩);have X9:=LW X8 x9;have q9:=ar (ar (ar (ar q5 x6 P_) x7 P_) x8 P_) x9 P_;refine bO.mk q9 (Nat.le_of_ble_eq_true rfl) (a_ rfl) fun eK D2=>?_
 have dQ:Ext (·=c2) w9 eK:=D2.ext;have X10:=HV X9 dQ;have q10:=D2.get q9;refine dD (Gc (a:=23) (size:=2) (x:=1) (Rd.no hb (xn X10)) hl (Yb X10) (ar h9 dQ (by omega)) (by decide) (by decide) (by decide) (by decide) fun eM Gj nH=>Ar.u16 (by decide) ?_);have X11:=LW X10 nH;refine aH.mk (ar q10 nH P_) (Nat.le_of_ble_eq_true rfl) rfl fun gO OZ=>?_
 have lJ:Ext (·=c2) eM gO:=OZ.ext;have X12:=HV X11 lJ;have q12:=OZ.get (ar q10 nH P_);refine dD (Gc (a:=25) (size:=4) (x:=1) (Rd.no hb (xn X12)) hl (Yb X12) (ar Gj lJ (by omega)) (by decide) (by decide) (by decide) (by decide) fun fV Ky iY=>Ar.u32 (by decide) ?_);have X13:=LW X12 iY;refine aH.mk (ar q12 iY P_) (Nat.le_of_ble_eq_true rfl) rfl fun lR Md=>?_
 have iT:Ext (·=c2) fV lR:=Md.ext;have X14:=HV X13 iT;have ZW:lR.heap[c2]? = some (.cells ox.c.toArray 48 (0,0)):=Md.get (ar q12 iY P_);have agI:=ar Ky iT (by omega);refine⟨_,Cell.af ZW rfl,_,Cell.af ZW rfl,_,Cell.af ZW rfl,_,Cell.af ZW rfl,_,Cell.af ZW rfl,_,Cell.af ZW rfl,_,Cell.af ZW rfl,pv Gb fun mU ld=>If.bne (fun h=>absurd rfl h) fun _=>?_⟩;have X15:X mU:=Ext.trans X14 ld fun _ _ h=>h.elim
 refine⟨fun m u=>∃j:Nat,m=224 - j/\29<=j/\j<=224/\u.heap[c1]? = some (.cells [Value.int .i64 j].toArray 3 (0,0))/\u.heap[c2]? = some (.cells ox.c.toArray 48 (0,0))/\X u,⟨_,29,rfl,Nat.le_refl _,by decide,ah agI ld,ah ZW ld,X15⟩,?_⟩;rintro _ m u ⟨j,rfl,hj1,hj2,h1,h2,Xu⟩;refine⟨j,Cell.af h1 rfl,b,Cell.af (Yb Xu) rfl,If.dec (fun h=>?_) fun h=>?_⟩
 .refine⟨b,Cell.af (Yb Xu) rfl,j,Cell.af h1 rfl,Ix.int (Rd.no hb (xn Xu)) (by omega) (by omega) fun _ _ _ hc=>?_⟩;rw[Int.toNat_natCast,Vq hj1]at hc;refine⟨0,hc,If.bne (fun h=>absurd rfl h) fun _=>⟨j,Cell.af h1 rfl,Ar.i64 (by omega) (aH.mk h1 Nat.one_pos rfl fun pJ Rp=>⟨224 - (j+1),by omega,j+1,rfl,by omega,by omega,?_,ar h2 Rp.ext (by show ¬ c2=c1;omega),LW Xu Rp.ext⟩)⟩⟩;have e:((j:Int)+1)=((j+1:Nat):Int):=by omega
  rw[e]at Rp;exact Rp.get h1
 .refine⟨_,Cell.af h2 rfl,_,Cell.af h2 rfl,_,Cell.af h2 rfl,_,Cell.af h2 rfl,_,Cell.af h2 rfl,_,Cell.af h2 rfl,_,Cell.af h2 rfl,rfl,bO.mk h2 (Nat.le_refl 7) (a_ rfl) fun G1 h18=>?_⟩;have Nb:Ext (·=c2) u G1:=h18.ext;have q18:=h18.get h2;refine aH.mk (ar h1 Nb (by omega)) Nat.one_pos rfl fun AE XY=>?_
  have So:Ext (·=c1) G1 AE:=XY.ext;have XD:=ar q18 So P_;exact⟨_,Cell.af XD rfl,_,Cell.af XD rfl,_,Cell.af XD rfl,_,Cell.af XD rfl,_,Cell.af XD rfl,_,Cell.af XD rfl,_,Cell.af XD rfl,0,Cell.af (XY.get (ar h1 Nb (by omega))) rfl,k AE (xn (LW (HV Xu Nb) So))⟩
theorem R5{s:Sl}{g x:Int}{K:Bool->Pw}(hs:Rd w.heap s 1 ([g].map (Value.int .u16)))(k:K (decide (x=g)) w):bS s x w K:=by
 apply fw;apply gR;have hl:s.len=1:=by have:=hs.len;simpa using this.symm
 refine⟨fun m t u=>w=u/\((m=1/\t=0)∨(m=0/\t=1/\x≠g)),⟨1,rfl,.inl ⟨rfl,rfl⟩⟩,?_⟩;rintro _ m t u ⟨rfl,⟨rfl,rfl⟩ | ⟨rfl,rfl,du⟩⟩
 .refine If.dec (fun _=>Ix.int hs (by decide) (by omega) fun _ _ _ hc=>⟨g,hc,If.beq (fun h=>?_) fun h=>Ar.i64 (by decide) ⟨0,by decide,rfl,.inr ⟨rfl,rfl,h⟩⟩⟩) fun h=>absurd (by omega) h
  rw[decide_eq_true h]at k;exact k
 .refine If.dec (fun h=>absurd h (by omega)) fun _=>?_
  rw[decide_eq_false du]at k;exact k
end
end Go.Proofs.YtiigcapldngijaaGreat
namespace Go.Proofs.YtiigcapldngijaaGreat
open Go.V Go.V.Pk Go.V.Dk Go.V.Rn
section
variable {w w':Wd} {T T':Nat->Nat} {rb mb:Nat} {ks:List RK} {q:RK}
abbrev mpL:MP:=⟨2,0,0,0,0,1,0⟩
theorem abU:mpL.OK:=⟨⟨by decide,by decide⟩,⟨by decide,by decide⟩,⟨by decide,by decide⟩,⟨by decide,by decide⟩,rfl,⟨by decide,by decide⟩,⟨by decide,by decide⟩⟩
theorem Hl{block:Sl}{K:Int->Int->Int->Int->Int->Int->Int->Int->Pw}(R:kh w rb mb ks)(hq:ki ks ⟨0,1⟩=some q)(U4:q.l.length=32)(hb:aQ w.heap block (bE q.l ox.oq ox.bytes))(k:∀w',Ext No w w'->K 2 4 2 1 0 1 1 0 w'):uT (some ⟨rb,0,none⟩) 0 block w K:=by
 have xe:=R.key q (List.mem_of_find?_eq_some hq);have DW:block.len=256:=by rw[aQ.len hb];exact rF xe.2.1 ox.kr
 apply Lw;refine fun b w1 n1=>If.no ⟨fun u=>w1=u,If.dec (fun h=>absurd h (by decide)) fun _=>If.dec (fun h=>absurd h (by decide)) fun _=>If.bne (fun h=>absurd (by rw[DW];rfl) h) fun _=>rfl,?_⟩
 rintro _ _ rfl;have hT:=fun K=>HS (K:=K) (l:=ox.oq) Gb.oq ⟨by decide,by decide⟩ xe.2.1 (Rd.no hb n1.ext) ox.rH ox.kr
 refine hT _ fun w3 x3=>?_
 refine⟨fun u=>w3=u,If.bne (fun h=>absurd rfl h) fun _=>If.bne (fun h=>absurd rfl h) fun _=>If.bne (fun h=>absurd rfl h) fun _=>⟨by decide,Nm.as (show Int.tmod 2 2=0 by decide) (Ar.u64 (by decide) (If.bne (fun h=>absurd rfl h) fun _=>rfl))⟩,?_⟩;rintro _ _ rfl;have iC:=n1.ext.no x3;have hR:=fun K=>gM (K:=K) (t:=0) (g:=1) (R.no iC) hq
 refine hR _ fun s5 w5 o5 x5=>If.bne (fun h=>absurd rfl h) fun _=>?_
 have hL:=fun K=>tj (w:=w5) (m:=mpL) (K:=K) abU
 refine hL _ fun w6 x6=>?_
 have zk:=(iC.no x5).no x6;have hO:=fun K=>FI (K:=K) (l:=ox.oq) Gb.oq ⟨by decide,by decide⟩ (o5.rd.no x6) xe.2.1 (.inr (by rw[aL.len o5];exact U4)) (Rd.no hb zk) ox.rH ox.kr
 refine hO _ fun s7 w7 o7 x7=>If.bne (fun h=>absurd rfl h) fun _=>D_ o7.rd fun w8 x8=>fx rfl rfl (a_ rfl) fun eK tU Sq dQ=>If.bne (fun h=>absurd rfl h) fun _=>⟨2,Cell.af tU rfl,If.bne (fun h=>absurd rfl h) fun _=>⟨1,Cell.af tU rfl,If.bne (fun h=>absurd rfl h) fun _=>?_⟩⟩
 have F8:=((zk.no x7).no x8).no dQ
 have agJ:=(((((x3.no x5).no x6).no x7).no x8).no dQ)
 have gb:=ah n1.get agJ;refine⟨2,Cell.af tU rfl,4,Cell.af tU rfl,2,Cell.af tU rfl,1,Cell.af tU rfl,0,Cell.af tU rfl,1,Cell.af tU rfl,1,Cell.af tU rfl,rfl,bO.mk gb (Nat.le_refl 7) (a_ rfl) fun eM Gj=>?_⟩;have g11:=Gj.get gb;exact⟨_,Cell.af g11 rfl,_,Cell.af g11 rfl,_,Cell.af g11 rfl,_,Cell.af g11 rfl,_,Cell.af g11 rfl,_,Cell.af g11 rfl,_,Cell.af g11 rfl,k eM (F8.out Gj.ext (by have:=n1.at_;omega))⟩
theorem Km{d:tQ}{D:DS}{g:DY}{R:RS}{N:Nat}{K:Int->Int->Int->Int->Int->Int->Int->Int->Pw}(dk:Y0 w T N d D)(r:fX w.heap g R)(h2:R.bg=2)(Rr:kh w rb mb ks)(hq:ki ks ⟨0,1⟩=some q)(U4:q.l.length=32)(hD:D.now.getD 0 []=bE q.l ox.oq ox.bytes)(k:∀w',Ext No w w'->K 2 4 2 1 0 1 1 0 w'):mA d.p g.p (some ⟨rb,0,none⟩) w K:=by
 apply xD
 refine fun b w1 n1=>⟨fun u=>w1=u,If.no (If.no (If.no rfl)),?_⟩
 rintro _ _ rfl;have c:=dk.c;have hN:=c.nN;refine eo (r.ext n1.ext fun _ _ h=>h) ?_;rw[h2]
 refine If.beq (fun h=>absurd h (by decide)) fun _=>⟨by decide,Nm.as (show Int.tmod 2 2=0 by decide) (Ar.i64 (by decide) (jm (dk.r.ext n1.ext fun _ _ h=>h) (fun hh=>by rw[c.has (by omega)]at hh;cases hh) (fun _ hh=>by rw[c.down]at hh;cases hh) fun _ _ s5 w5 o5 x5=>If.bne (fun h=>absurd rfl h) fun _=>?_))⟩
 have e:D.now.getD ((0:Int)).toNat []=bE q.l ox.oq ox.bytes:=hD;rw[e]at o5;have nI:=n1.ext.no x5
 refine Hl (Rr.no nI) hq U4 o5.rd fun w6 x6=>fx rfl rfl (a_ rfl) fun w8 g8 z8 x8=>If.bne (fun h=>absurd rfl h) fun _=>⟨2,Cell.af g8 rfl,If.bne (fun h=>absurd rfl h) fun _=>?_⟩
 have MK:=(nI.no x6).no x8;have gb:=ah n1.get ((x5.no x6).no x8);refine⟨2,Cell.af g8 rfl,4,Cell.af g8 rfl,2,Cell.af g8 rfl,1,Cell.af g8 rfl,0,Cell.af g8 rfl,1,Cell.af g8 rfl,1,Cell.af g8 rfl,rfl,bO.mk gb (Nat.le_refl 7) (a_ rfl) fun w9 h9=>?_⟩;have g9:=h9.get gb;exact⟨_,Cell.af g9 rfl,_,Cell.af g9 rfl,_,Cell.af g9 rfl,_,Cell.af g9 rfl,_,Cell.af g9 rfl,_,Cell.af g9 rfl,_,Cell.af g9 rfl,k w9 (MK.out h9.ext (by have:=n1.at_;omega))⟩
section
variable {N vb lb al:Nat} {key ls:Sl} {kl:List Int} {d:tQ} {D:DS} {g:DY} {R:RS} {L:List LE} {op:Bool} {m:MP}
theorem uA.sync{K:Int->Pw}(P:uA w T N vb key kl d D g R rb mb ks lb ls L al op m)(hs:D.steps < 1000)(k:∀T' d' w',uA w' T' N vb key kl d' (Sd D) g R rb mb ks lb ls L al op m->bu T w T' w'->K 0 w'):cE d.p w K:=by
 have c:=P.dk.c;have st:=c.st;refine xE P.dk.r (by omega) fun d' w' r gr x=>?_
 rw[c.sync]at r ⊢;have a:=aY T w.heap.size w'.heap.size 1;have hp:d'.p=d.p:=by show some (Addr.mk d'.b 0 none)=some (Addr.mk d.b 0 none);rw[gr.b]
 have f:∀(k:Nat),k≠1->∀i,T i=k->¬ d.fp i:=fun k hk i h e=>hk (h.symm.trans (P.dk.t i e))
 have kk:=P.rg.aJ x a (f 2 (by decide));refine k (fY T w.heap.size w'.heap.size 1) d' w' ⟨⟨r,fun i hi=>?_,c.sd hs⟩,⟨kk.r,kk.t,kk.d.trans hp.symm⟩,P.rn.aJ x a (f 3 (by decide)),P.lg.aJ x a (f 4 (by decide)),mE _ _ _ _ x.size,?_,(a _ (aN P.b)).trans P.tb,P.k.ext x fun p c hp hc=>f 14 (by decide) c (P.kt c (by simp[Sl.aw,hp,hc])).1,fun i hi=>⟨(a i (P.kt i hi).2).trans (P.kt i hi).1,Nat.lt_of_lt_of_le (P.kt i hi).2 x.size⟩,P.kB,P.kn,P.a.ext x (f 15 (by decide) _ P.ta),(a _ (map_lt P.a)).trans P.ta⟩ (.of (fun i hi=>by rw[P.dk.t i hi];decide) x a)
 .rcases gr.fp i hi with h | h
  .exact(a i (P.dk.r.lt h)).trans (P.dk.t i h)
  .exact bT T h (r.lt hi)
 .rw[hp];exact ar P.b x (f 13 (by decide) _ P.tb)
end
end
end Go.Proofs.YtiigcapldngijaaGreat
namespace Go.Proofs.YtiigcapldngijaaGreat
open Go.V Go.V.Pk Go.V.Dk Go.V.Rn
theorem R6{w:Wd}{s:Sl}{x:Int}{K:Bool->Pw}(hs:s.len=0)(k:K false w):bS s x w K:=by
 apply fw;apply gR;refine⟨fun _ t u=>0=t/\w=u,⟨0,rfl,rfl⟩,?_⟩;rintro _ _ _ _ ⟨rfl,rfl⟩;exact If.dec (fun h=>absurd h (by omega)) fun _=>k
structure abV(D:DS)(kq kk ml wl p3:List Int):Prop where
 b0:D.now.getD 0 []=bE kq ox.oq ox.bytes
 b1:D.now.getD 1 []=bE kq Hg.oq Hg.bytes
 b3:D.now.getD 3 []=bE kk lab3 p3
 b4:D.now.getD 4 []=bE kq lM (oy ml wl)
 z:∀n:Int,2<=n->n < 100->n≠3->n≠4->D.now.getD n.toNat []=bB
section
variable {w w':Wd} {T T':Nat->Nat} {s:SA} {v:VA} {ml wl kq kk:List Int} {drs:List (List Int)} {dev:Option Addr}
theorem aeq{vb al tb cp sb lo:Nat}{ky mk hs:Sl}{kl:List Int}{op:Bool}{mp:MP}{u:Wd}{rf:Rf}{ch:Int}(V:gg w T ⟨vb,ky,kl,op,mp,al,[]⟩ s)(xu:Ext No w u)(htb:w.heap.size<=tb)(hcp:w.heap.size<=cp)(Wg:w.heap.size<=sb)(du:tb≠cp/\sb≠tb/\sb≠cp)(gt:u.heap[tb]? = some (.cells (XK mk hs rf ch cp sb).toArray 104 (0,0)))(gc:u.heap[cp]? = some (.cells RN.toArray 204 (0,0)))(gs:u.heap[sb]? = some (.map #[] 0))(hlo:lo<=w.heap.size)(hm:aQ w.heap mk ml)(mt:∀i,mk.aw=some i->T i=0/\lo<=i/\i < w.heap.size)(h1:ml.length=16)(h2:B8 ml)(H:KC w T lo hs wl) :
  ∃u' T2,Sem.run pz (Instr.mapUpdate 49 (.map (some al)) (.int .u32 1) (.pointer (some (Addr.mk tb 0 none)))) u = .ok () u'/\Ext (·=al) w u'/\gg u' T2 ⟨vb,ky,kl,op,mp,al,[(1,.pointer (some ⟨tb,0,none⟩))]⟩ s/\vW u' T2 lo tb cp sb mk hs ml wl rf ch RN/\iX T w T2 u'/\∀i,i < w.heap.size->T2 i=T i:=by
 have ta:=V.ta;simp only at ta;have na:∀i,T i=0->¬ (i=al):=fun i h e=>by rw[e,ta]at h;exact absurd h (by decide)
 have Vu:=V.no xu;obtain⟨u',hr,m',x',z'⟩:=aG (P:=pz) (a:=(1:Int)) (v:= .pointer (some ⟨tb,0,none⟩)) ku H8 Vu.a;have t1:T tb=0:=V.y.out tb htb;have t2:T sb=0:=V.y.out sb Wg;have t3:T cp=0:=V.y.out cp hcp
 obtain⟨T2,hT⟩ : ∃T2:Nat->Nat,T2=fun i=>if i=tb then 17 else if i=cp then 18 else T i:=⟨_,rfl⟩
 have e2:∀i,T i≠0->T2 i=T i:=fun i hi=>by
  rw[hT];show(if i=tb then 17 else if i=cp then 18 else T i)=_;rw[if_neg fun e=>hi (by rw[e];exact t1),if_neg fun e=>hi (by rw[e];exact t3)]
 have e3:∀i,i < w.heap.size->T2 i=T i:=fun i hi=>by
  rw[hT];show(if i=tb then 17 else if i=cp then 18 else T i)=_;rw[if_neg (by omega),if_neg (by omega)]
 have Yx:=aN gt;have Na:=aN gc
 have V2:gg u' T2 ⟨vb,ky,kl,op,mp,al,[(1,.pointer (some ⟨tb,0,none⟩))]⟩ s:=by
  refine(Vu.ten m' x').U3 e2 fun i hi=>?_
  rw[hT];show(if i=tb then 17 else if i=cp then 18 else T i)=_;have:=x'.size;rw[if_neg (by omega),if_neg (by omega)];exact(Vu.ten m' x').y.out i hi
 have st:iX T w T2 u':=by
  have h:=(iX.no xu).trans (iX.one (T:=T) x' (by simp only;rw[ta];decide));exact⟨fun i hi h0=>by rw[e3 i hi];exact h.z i hi h0,h.x⟩
 exact⟨u',T2,hr,xu.az.trans x' fun i _ e=>e,V2,⟨ar gt x' (na tb t1),ar gc x' (na cp t3),ar gs x' (na sb t2),by rw[hT];exact if_pos rfl,by rw[hT];show(if cp=tb then 17 else if cp=cp then 18 else T cp)=18;rw[if_neg fun e=>du.1 e.symm,if_pos rfl],by rw[hT];show(if sb=tb then 17 else if sb=cp then 18 else T sb)=0/\lo<=sb;rw[if_neg du.2.1,if_neg du.2.2];exact⟨t2,by omega⟩,hm.ext st.x fun p i hp hi e=>e (mt i (by simp[Sl.aw,hp,hi])).1,fun i hi=>⟨st.z i (mt i hi).2.2 (mt i hi).1,(mt i hi).2.1,Nat.lt_of_lt_of_le (mt i hi).2.2 st.x.size⟩,h1,h2,H.stw st⟩,st,e3⟩
set_option maxHeartbeats 8000000 in
theorem Yc{key val:List Int}{K:Int->Pw}(V:gg w T v s)(hN:s.N=100)(hR:s.R=⟨dev,1000,2,2,drs⟩)(wg:s.D.steps < 500)(D0:abV s.D kq kk ml wl (dO key val))(ZF:kq=lf v.kl 1 1)(V9:kk.length=16/\B8 kk)(Gi:ml.length=16)(Nj:B8 ml)(A_:wl=kg kq 1 1 1 kk)(k8:B8 key)(v8:B8 val)(k1:1<=key.length)(kl:key.length<=32)(vl:val.length<=64)
  (k:∀T' al ts s' CT lo tb cp sb mk hs w',gg w' T' { v with op:=true,mp:=ox,al:=al,ts:=ts } s'->ts=[(1,.pointer (some ⟨tb,0,none⟩))]->vX s' ⟨3,lab3,CT,dO key val⟩->s'.R=⟨dev,1000,2,2,drs⟩->vW w' T' lo tb cp sb mk hs ml wl ⟨3,2,1⟩ 1 RN->iX T w T' w'->K 0 w'):dv v.p true w K:=by
 have Vr:B8 kq:=by rw[ZF];exact gV V.kB Sf
 have abW:kq.length=32:=by rw[ZF];exact jR V.kB Sf
 have Of:wl.length=32:=by rw[A_];exact wv Vr V9.1
 have aer:B8 wl:=by rw[A_];exact FJ Vr V9.2
 have y:=V.y;obtain⟨vb,ky,Ph,op,Sz,al0,ts0⟩:=v;obtain⟨d,D,g,R,rb0,mb0,ks0,lb,ls,L,pb0,fr,F,kb,ps,wb,nb,pm,dm,pu,wls,dl,cm,la,fl,N⟩:=s;simp only at hN hR wg D0 ZF;subst hN hR;apply mV;refine fun b w1 n1=>AL fun rb mb w2 R2 hrb YR x2 al w3 n3=>?_
 have a1:=n1.at_;have z1:=n1.size;have a3:=n3.at_;have z3:=n3.size;have z2:=x2.size;have iC:Ext No w w3:=(n1.ext.no x2).no n3.ext
 obtain⟨T3,hT⟩ : ∃T3,T3=fY (fY T w1.heap.size w2.heap.size 3) w2.heap.size w3.heap.size 15:=⟨_,rfl⟩
 have ag1:Ag T T3 w1.heap.size:=fun i hi=>by rw[hT,aY _ _ _ _ i (by omega),aY _ _ _ _ i hi]
 have ag:Ag T T3 w.heap.size:=fun i hi=>ag1 i (by omega)
 have hb:w.heap[vb]? = some (.cells (RL 100 1000 ky d.p (some ⟨g.rb,0,none⟩) (some ⟨lb,0,none⟩) op (some ⟨rb0,0,none⟩) (some ⟨pb0,0,none⟩) Sz al0).toArray 51 (0,0)):=V.b;have tb:T vb=13:=V.tb;have kt:∀i,ky.aw=some i->T i=14/\i < w.heap.size:=V.kt
 have hk0:aQ w.heap ky Ph:=V.k;have w_:=ah hb iC;have lvb:=aN hb;have UT:T3 vb=13:=(ag vb lvb).trans tb;have tal:T3 al=15:=by rw[hT];exact bT _ (by omega) (by omega)
 have t3:∀i,w1.heap.size<=i->i < w2.heap.size->T3 i=3:=fun i h1 h2=>by rw[hT,aY _ _ _ _ i h2];exact bT _ h1 h2
 have f:∀(k i:Nat),T i=k->¬ No i:=fun _ _ _ h=>h
 refine Nn.mk (aH.mk w_ (Nat.le_of_ble_eq_true rfl) rfl fun w4 h4=>?_);have g4:=h4.get w_;refine Nn.mk (aH.mk g4 (Nat.le_of_ble_eq_true rfl) rfl fun w5 h5=>?_);have g5:=h5.get g4;refine Nn.mk (aH.mk g5 (Nat.le_of_ble_eq_true rfl) rfl fun w6 h6=>?_);have g6:=h6.get g5;refine Nn.mk (aH.mk g6 (Nat.le_of_ble_eq_true rfl) rfl fun w7 h7=>?_);have g7:w7.heap[vb]? = some (.cells (RL 100 1000 ky d.p (some ⟨g.rb,0,none⟩) (some ⟨lb,0,none⟩) false (some ⟨rb,0,none⟩) none Sz al).toArray 51 (0,0)):=h7.get g6;have El:Ext (·=vb) w3 w7:=((h4.ext.trans h5.ext fun i _ e=>e).trans h6.ext fun i _ e=>e).trans h7.ext fun i _ e=>e
 have f3:∀(k:Nat),k≠13->∀i,T3 i=k->¬ (i=vb):=fun k hk i h e=>by subst e;exact hk (h.symm.trans UT)
 have XF:Ag T3 T3 w3.heap.size:=fun _ _=>rfl
 have P7:uA w7 T3 100 vb ky Ph d D g ⟨dev,1000,2,2,drs⟩ rb mb [] lb ls L al false Sz:=
  ⟨(y.dk.aJ iC ag (f 1)).aJ El XF (f3 1 (by decide)),(y.rg.aJ iC ag (f 2)).aJ El XF (f3 2 (by decide)),
   Y2.aJ ⟨R2.no n3.ext,t3 _ hrb (aN R2.aw),t3 _ YR (map_lt R2.map),fun q h=>(nomatch h),Nat.zero_le _⟩ El XF (f3 3 (by decide)),(y.lg.aJ iC ag (f 4)).aJ El XF (f3 4 (by decide)),
   fun i hi=>by rw[hT];exact mE _ _ _ _ (by omega) i (Nat.le_trans El.size hi),g7,UT,(Rd.no hk0 iC).ext El fun p c hp hc e=>f3 14 (by decide) c ((ag c (kt c (by simp[Sl.aw,hp,hc])).2).trans (kt c (by simp[Sl.aw,hp,hc])).1) e,
   fun i hi=>⟨(ag i (kt i hi).2).trans (kt i hi).1,by have:=(kt i hi).2;have:=iC.size;have:=El.size;omega⟩,V.kB,V.kn,(⟨#[],0,ar n3.get El (f3 15 (by decide) _ tal),rfl,cW.nil⟩ : cY w7.heap lz al ([]:List (Int×Value))),tal⟩
 have J6:T3 b=0:=(ag1 b (by omega)).trans (y.out b (by omega));have gb7:w7.heap[b]? = some (.cells [Value.int .i64 0].toArray 25 (0,0)):=ar (ah n1.get (x2.no n3.ext)) El (by omega)
 have s7:iX T w T3 w7:=(⟨fun i hi h=>(ag i hi).trans h,(iC.az.trans El fun i hi e=>by rw[e,tb];decide)⟩ : iX T w T3 w7)
 let Z:Wd->(Nat->Nat)->Prop:=fun u T5=>iX T w T5 u/\T5 b=0/\u.heap[b]? = some (.cells [Value.int .i64 0].toArray 25 (0,0))
 have zs:∀{u u':Wd}{T5 T6:Nat->Nat},Z u T5->bu T5 u T6 u'->Z u' T6:=fun h x=>⟨h.1.trans x.tw,(x.a b (aN h.2.2)).trans h.2.1,x.aw h.2.2 (.inl h.2.1)⟩
 have zn:∀{u u':Wd}{T5:Nat->Nat},Z u T5->Ext No u u'->Z u' T5:=fun h x=>zs h (.no x)
 have z7:Z w7 T3:=⟨s7,J6,gb7⟩
 refine⟨fun u=>∃T4 d4,uA u T4 100 vb ky Ph d4 (Sd D) g ⟨dev,1000,2,2,drs⟩ rb mb [] lb ls L al false Sz/\Z u T4,If.yes (Nn.mk ⟨d.p,Cell.af P7.b rfl,P7.sync (by omega) fun T4 d4 w9 P9 s9=>dU ⟨T4,d4,P9,zs z7 s9⟩⟩),?_⟩;rintro _ eK ⟨T4,d4,P10,Sq⟩;have hN:=P10.dk.c.nN;refine⟨fun n t u=>∃(j:Nat) (T5:Nat->Nat) (ks:List RK),t=j/\j<=2/\n=2 - j/\((j=0/\ks=[])∨(1<=j/\∃q,ks=[⟨⟨0,1⟩,q,kq⟩]))/\uA u T5 100 vb ky Ph d4 (Sd D) g ⟨dev,1000,2,2,drs⟩ rb mb ks lb ls L al false Sz/\Z u T5,⟨_,0,T4,[],rfl,Nat.zero_le _,rfl,.inl ⟨rfl,rfl⟩,P10,Sq⟩,?_⟩;rintro _ n t eM ⟨j,T5,ks,rfl,hj,rfl,Q7,Gn,YI⟩;refine If.dec (fun h=>?_) fun h=>?_
 .obtain⟨lb',pl,zG,PI,hlb,HR,hgn,agK⟩ : ∃(l:iV) (pl:List Int),pl.length=224/\B8 pl/\l.OK/\(1<=l.kd/\l.kd<=4)/\l.gn=1/\(Sd D).now.getD ((j:Int)).toNat []=bE kq l pl:=by
   have xG:j=0∨j=1:=by omega
   rcases xG with rfl | rfl
   .exact⟨ox.oq,ox.bytes,ox.kr,ox.rH,Gb.oq,⟨by decide,by decide⟩,rfl,D0.b0⟩
   .exact⟨Hg.oq,Hg.bytes,Hg.kr,Hg.rH,U5.oq,⟨by decide,by decide⟩,rfl,D0.b1⟩
  refine Nn.mk ⟨d4.p,Cell.af Gn.b rfl,jm Gn.dk.r (fun hh=>by rw[Gn.dk.c.has (by omega)]at hh;cases hh) (fun _ hh=>by rw[Gn.dk.c.down]at hh;cases hh) fun _ _ s5 gO o5 x5=>eO ?_⟩;rw[agK]at o5;refine HS hlb HR Vr o5.rd PI zG fun lR iT=>?_
  rw[hgn];have Vs:=x5.no iT;have P14:=Gn.no Vs;refine⟨fun t u=>Ext No eM u/\t=decide (j=0),If.beq (fun _=>Nn.mk ⟨some ⟨rb,0,none⟩,Cell.af P14.b rfl,?_⟩) fun h=>absurd rfl h,?_⟩
  .rcases Q7 with⟨hj0,rfl⟩ | ⟨hj1,q,rfl⟩
   .refine km P14.rn.r (Nat.zero_le _) (Nat.zero_le _) fun Y3 mU o15 ld=>R6 (by have:=o15.len;simpa using this.symm) ⟨Vs.no ld,(decide_eq_true hj0).symm⟩
   .refine km P14.rn.r (Nat.le_of_ble_eq_true rfl) (Nat.le_refl 1) fun Y3 mU o15 ld=>R5 (g:=1) o15.rd ?_
    rw[decide_eq_true rfl];exact⟨Vs.no ld,(decide_eq_false (by omega)).symm⟩
  rintro _ _ pJ ⟨Eg,rfl⟩;have P17:=Gn.no Eg;have z17:=zn YI Eg;rcases Q7 with⟨hj0,rfl⟩ | ⟨hj1,q,rfl⟩
  .rw[decide_eq_true hj0];have nb':¬ (vb=mb):=fun e=>by have h1:=P17.rn.t2;have h2:=P17.tb;rw[e,h1]at h2;exact absurd h2 (by decide)
   have xd:Ext No pJ (ae pJ):=(Ext.refl _ _).drew;have P18:=P17.no xd;refine If.yes ⟨Ext (·=mb) pJ,xd.az,Nn.mk ⟨some ⟨rb,0,none⟩,aj.aF (Cell.af P17.b rfl) nb',Nn.mk ⟨ky,aj.aF (Cell.af P17.b rfl) nb',?_⟩⟩⟩;refine HQ P18.k P18.kB P18.kn fun s30 CN o30 Zn=>?_
   rw[<- ZF]at o30;have M1:Ext No pJ CN:=Zn.an;have Zw:=P17.no M1;refine⟨M1.az,eO ⟨M1.az,og Zw.rn.r rfl o30.rd Vr (.inr (by rw[aL.len o30];exact abW)) fun q Nf R31 hq P8=>?_⟩⟩;have xx:Ext (·=mb) pJ Nf:=M1.az.trans P8 fun i _ e=>e
   have agL:bu T5 CN (fY T5 CN.heap.size Nf.heap.size 3) Nf:= .of (fun i e=>by rw[e,Zw.rn.t2];decide) P8 (aY _ _ _ _);exact⟨xx,dU ⟨xx,Ar.i64 (by omega) ⟨2 - (j+1),by omega,j+1,fY T5 CN.heap.size Nf.heap.size 3,[⟨⟨0,1⟩,q,kq⟩],by push_cast;omega,by omega,rfl,.inr ⟨by omega,q,rfl⟩,Zw.ring (k:=⟨⟨0,1⟩,q,kq⟩) R31 hq P8 (by decide),zs (zn z17 M1) agL⟩⟩⟩
  .rw[decide_eq_false (by omega)];exact If.no (Ar.i64 (by omega) ⟨2 - (j+1),by omega,j+1,T5,[⟨⟨0,1⟩,q,kq⟩],by push_cast;omega,by omega,rfl,.inr ⟨by omega,q,rfl⟩,P17,z17⟩)
 obtain⟨hj1,q,rfl⟩ : 1<=j/\∃q,ks=[⟨⟨0,1⟩,q,kq⟩]:=Q7.elim (fun h'=>by omega) id
 have xd:Ext No eM (ae eM):=(Ext.refl _ _).drew;have P12:=Gn.no xd;refine⟨Ext No eM,xd,Nn.mk ⟨d4.p,aj.aF (Cell.af Gn.b rfl) (fun h=>h),Nn.mk ⟨some ⟨g.rb,0,none⟩,aj.aF (Cell.af Gn.b rfl) (fun h=>h),Nn.mk ⟨some ⟨rb,0,none⟩,aj.aF (Cell.af Gn.b rfl) (fun h=>h),?_⟩⟩⟩⟩;have hRv:=fun K=>Km (g:=g) (K:=K) P12.dk P12.rg.r rfl P12.rn.r (q:=⟨⟨0,1⟩,q,kq⟩) rfl abW D0.b0
 refine hRv _ fun DT Si=>⟨Si.an,?_⟩
 have hMp:=fun K=>Qf (w:=DT) (m:=ox) (K:=K)
 refine hMp _ fun Jm DU=>⟨Si.an.no DU,Nn.mk ⟨rfl,?_⟩⟩
 have H5:=Si.an.no DU;have Zt:=Gn.no H5;refine bO.mk Zt.b (Nat.le_of_ble_eq_true rfl) (a_ rfl) fun iD H4=>?_
 have mq:Ext (·=vb) Jm iD:=H4.ext;have XG:=Zt.put (op':=false) (m':=ox) (H4.get Zt.b) H4.ext;have nbv:b≠vb:=by have:=lvb;omega
 have z24:Z iD T5:=by
  have z23:=zn YI H5;exact⟨z23.1.trans (iX.one mq (by rw[Zt.tb];decide)),z23.2.1,ar z23.2.2 mq nbv⟩
 refine⟨fun u=>iD=u,Nn.mk ⟨2,Cell.af XG.b rfl,If.beq (fun h=>absurd h (by decide)) fun _=>rfl⟩,?_⟩;rintro _ _ rfl;have hG1:=fun K=>km (K:=K) (t:=0) XG.rn.r (Nat.le_of_ble_eq_true rfl) (Nat.le_refl 1)
 refine Nn.mk ⟨some ⟨rb,0,none⟩,Cell.af XG.b rfl,hG1 _ fun s27 xi o27 J7=>?_⟩;have e27:s27.len=1:=by have:=o27.len;simpa using this.symm
 have Zu:=XG.no J7;have r27:Rd xi.heap s27 1 ([1].map (Value.int .u16)):=o27.rd;refine⟨fun n t u=>xi=u/\((n=1/\t=0)∨(n=0/\t=1)),⟨1,rfl,.inl ⟨rfl,rfl⟩⟩,?_⟩;rintro _ n t _ ⟨rfl,⟨rfl,rfl⟩ | ⟨rfl,rfl⟩⟩
 .exact If.dec (fun _=>Ix.int r27 (by decide) (by omega) fun _ _ _ hc=>⟨1,hc,Nn.mk ⟨1,Cell.af Zu.b rfl,If.bne (fun h=>absurd rfl h) fun _=>Ar.i64 (by decide) ⟨0,by decide,rfl,.inr ⟨rfl,rfl⟩⟩⟩⟩) fun h=>absurd (by omega) h
 refine If.dec (fun h=>absurd h (by omega)) fun _=>?_
 have hG2:=fun K=>km (K:=K) (t:=0) Zu.rn.r (Nat.le_of_ble_eq_true rfl) (Nat.le_refl 1)
 refine⟨fun u=>Ext No xi u,Nn.mk ⟨some ⟨rb,0,none⟩,Cell.af Zu.b rfl,hG2 _ fun s28 FX o28 J8=>If.beq (fun h=>?_) fun _=>J8⟩,?_⟩
 .have:=o28.len;simp at this;omega
 rintro _ Ro ZX;have nJ:=Zu.no ZX;have z36:=zn (zn z24 J7) ZX;have O2:Ext No Ro (ae Ro):=(Ext.refl _ _).drew;have J9:=nJ.no O2;have Ju:¬ (1<=T5 vb/\T5 vb<=12):=by rw[nJ.tb];decide
 refine⟨Ext (fun i=>1<=T5 i/\T5 i<=12) Ro,O2.az,Nn.mk ⟨d4.p,aj.aF (Cell.af nJ.b rfl) Ju,Nn.mk ⟨some ⟨rb,0,none⟩,aj.aF (Cell.af nJ.b rfl) Ju,Nn.mk ⟨some ⟨lb,0,none⟩,aj.aF (Cell.af nJ.b rfl) Ju,?_⟩⟩⟩⟩
 refine xH J9.dk J9.rg J9.rn J9.lg fun T7 s Xk y37 e1 e2 e3 e4 e5 e6 e7 e8 e9 e10 XH UU e13 e14 ew eN e15 e16 e17 s37=>⟨O2.az.trans s37.x fun i _ h=>h,FL ⟨O2.az.trans s37.x fun i _ h=>h,?_⟩⟩
 have lI:bu T5 Ro T7 Xk:=(bu.no O2).trans s37;have b37:=lI.aw nJ.b (.inr (by rw[nJ.tb];decide));have VY:T7 vb=13:=(lI.a vb (aN nJ.b)).trans nJ.tb;refine Nn.mk (aH.mk b37 (Nat.le_of_ble_eq_true rfl) rfl fun tX h39=>?_);have Mz:Ext (·=vb) Xk tX:=h39.ext;have b39:=h39.get b37
 have Nh:gg tX T7 ⟨vb,ky,Ph,false,ox,al,[]⟩ s:=by
  refine⟨y37.loc Mz fun i hi=>by rw[hi,VY];exact .inr (Nat.le_refl _),?_,VY,(nJ.k.ext lI.x fun p c hp hc hh=>?_).ext Mz fun p c hp hc e=>?_,fun i hi=>⟨(lI.a i (nJ.kt i hi).2).trans (nJ.kt i hi).1,?_⟩,nJ.kB,nJ.kn,(nJ.a.ext lI.x fun hh=>?_).ext Mz fun e=>?_,(lI.a _ (map_lt nJ.a)).trans nJ.ta⟩
  .have hv:(⟨vb,ky,Ph,false,ox,al,[]⟩ : VA).c s=RL 100 1000 ky d4.p (some ⟨g.rb,0,none⟩) (some ⟨lb,0,none⟩) false (some ⟨rb,0,none⟩) s.p ox al:=by
    show RL s.N s.R.bG ky s.d.p (some ⟨s.g.rb,0,none⟩) (some ⟨s.lb,0,none⟩) false (some ⟨s.rb,0,none⟩) s.p ox al=_;rw[e1,e3,e8,e5,eN,e4]
   rw[hv];exact b39
  .have:=(nJ.kt c (by simp[Sl.aw,hp,hc])).1;omega
  .have:=(nJ.kt c (by simp[Sl.aw,hp,hc])).1;have h2:=nJ.tb;rw[e]at this;omega
  .have:=(nJ.kt i hi).2;have:=lI.x.size;have:=Mz.size;omega
  .have:=nJ.ta;omega
  .have:=nJ.ta;have h2:=nJ.tb;rw[e]at this;omega
 have z39:Z tX T7:=by
  have z37:=zs z36 lI;exact⟨z37.1.trans (iX.one Mz (by rw[VY];decide)),z37.2.1,ar z37.2.2 Mz nbv⟩
 have lp4:∀sl,lT ⟨4,lM,sl,oy ml wl⟩ [⟨be 4 1,fy (Qm ml wl),0,.z,.z⟩]:=fun sl=>Kk rfl rfl (cv 4 1) (vV (Ep Gi Of Nj aer).Kz) (by simp[aK]) (by simp[aK]) (Kl Gi Of)
 have lp3:∀sl,lT ⟨3,lab3,sl,dO key val⟩ [⟨key,val,0,.z,.z⟩]:=fun sl=>Kk rfl rfl k8 v8 k1 kl vl
 have D4:OnD s ⟨4,lM,⟨none,0,0⟩,oy ml wl⟩ ⟨⟨0,1⟩,q,kq⟩:=⟨rfl,fun x hx=>(by rw[UU]at hx;cases hx),by rw[XH];rfl,by rw[XH];rfl,by rw[e2];exact D0.b4,by rw[e7];rfl,(lp4 ⟨none,0,0⟩).b8,Em (lp4 ⟨none,0,0⟩).short,by show lM.OK;simp[iV.OK,lO,By],⟨by show(1:Int)<=1;decide,by show(1:Int)<=3;decide⟩,⟨by show(2:Int)<=4;decide,by show(4:Int) < (s.N:Int);rw[eN];decide⟩⟩
 have UW:Ext No tX (ae tX):=(Ext.refl _ _).drew;have n7:¬ (1<=T7 vb/\T7 vb<=12):=by rw[VY];decide
 refine⟨Ext (fun i=>1<=T7 i/\T7 i<=12) tX,UW.az,Nn.mk ⟨s.p,aj.aF (Cell.af Nh.b rfl) n7,Nn.mk ⟨4,aj.aF (Cell.af Nh.b rfl) n7,2,aj.aF (Cell.af Nh.b rfl) n7,1,aj.aF (Cell.af Nh.b rfl) n7,0,aj.aF (Cell.af Nh.b rfl) n7,?_⟩⟩⟩;have hLb:=fun K=>CO (K:=K) (k:=⟨4,lM,⟨none,0,0⟩,oy ml wl⟩) (Nh.no UW).y (Mt D4) (lp4 _) rfl (by show(4:Int)≠0;decide)
 refine hLb _ fun rl s' T8 Cb o40 t40 y40 q40 p40=>?_
 obtain⟨Vh,rfl⟩:=q40;have M3:bu T7 tX T8 Cb:=(bu.no UW).trans p40;have Qh:gg Cb T8 ⟨vb,ky,Ph,false,ox,al,[]⟩ (s.Ur ⟨4,lM,⟨none,0,0⟩,oy ml wl⟩ Vh):=Nh.sy M3 y40 rfl rfl rfl rfl rfl;refine⟨M3.x,zm ⟨M3.x,?_⟩⟩;have z40:=zs z39 M3;have abX:Ext No Cb (ae Cb):=(Ext.refl _ _).drew;have n8:¬ (1<=T8 vb/\T8 vb<=12):=by rw[show T8 vb=13 from Qh.tb];decide
 refine⟨Ext (fun i=>1<=T8 i/\T8 i<=12) Cb,abX.az,Nn.mk ⟨s.p,aj.aF (Cell.af Qh.b rfl) n8,Nn.mk ⟨4,aj.aF (Cell.af Qh.b rfl) n8,2,aj.aF (Cell.af Qh.b rfl) n8,1,aj.aF (Cell.af Qh.b rfl) n8,0,aj.aF (Cell.af Qh.b rfl) n8,?_⟩⟩⟩;have G4:vX (s.Ur ⟨4,lM,⟨none,0,0⟩,oy ml wl⟩ Vh) ⟨4,lM,Vh,oy ml wl⟩:=aea (by show l_ (4:Int) ((s.ps++([⟨4,lM,Vh,oy ml wl⟩]:List KP)).map KP.e)=_;rw[UU];rfl) (List.mem_append.2 (.inr (List.mem_singleton.2 rfl))) ⟨by show(2:Int)<=4;decide,by show(4:Int) < (s.N:Int);rw[eN];decide⟩ rfl ⟨by show(1:Int)<=1;decide,by show(1:Int)<=3;decide⟩;have sml:=Ep Gi Of Nj aer;have agM:=fun K=>Vk (K:=K) (x:=Qm ml wl) (Qh.no abX).y G4 (lp4 Vh) rfl (by show(4:Int)≠0;decide) rfl rfl rfl sml
 refine agM _ fun out sv T9 Ba ow sr to y42 p42=>?_
 have H_:bu T8 Cb T9 Ba:=(bu.no abX).trans p42;refine⟨H_.x,HT ⟨H_.x,?_⟩⟩;have SB:gg Ba T9 ⟨vb,ky,Ph,false,ox,al,[]⟩ (s.Ur ⟨4,lM,⟨none,0,0⟩,oy ml wl⟩ Vh):=Qh.sy H_ y42 rfl rfl rfl rfl rfl;have z42:=zs z40 H_;have Kp:out.len=1:=by have:=ow.len;simp only[dN.cells,List.length_cons,List.length_nil]at this;omega
 refine⟨fun u=>Ba=u,Nn.mk ⟨1,Cell.af SB.b rfl,Ar.i64 (by decide) (If.bne (fun h=>absurd (by rw[Kp];rfl) h) fun _=>rfl)⟩,?_⟩;rintro _ _ rfl;have UX:Ext No Ba (ae Ba):=(Ext.refl _ _).drew;have hRk:=fun K=>gM (K:=K) (t:=0) (g:=1) (q:=⟨⟨0,1⟩,q,kq⟩) (SB.no UX).y.rn.r (by show ki s.ks ⟨0,1⟩=_;rw[e7];rfl)
 refine⟨Ext No Ba,UX,Nn.mk ⟨some ⟨s.rb,0,none⟩,aj.aF (Cell.af SB.b rfl) (fun h=>h),Nn.mk ⟨1,aj.aF (Cell.af SB.b rfl) (fun h=>h),hRk _ fun rs Xn o45 OB=>⟨OB.an,eO ⟨OB.an,?_⟩⟩⟩⟩⟩;have CU:=OB.an;have V45:=SB.no CU;have z45:=zn z42 CU;obtain⟨ten,quo,mk,rt,lev,chg,hs⟩:=sv;obtain⟨r1,r2,r3,r4,r5,r6,LL,hL1,hL2,hL3,hL4⟩:=sr;simp only at r1 r2 r3 r4 r5 r6;have agN:∀i,hs.aw=some i->Cb.heap.size<=i/\T9 i=0:=fun i hi=>hL3 (by rintro rfl;simp at hL1) i hi
 subst r1 r2 r4 r5 r6;obtain⟨hx,rfl⟩ : ∃hx,LL=[hx]:=List.length_eq_one_iff.1 (by have:=congrArg List.length hL1;simpa using this)
 have hx2:hx.2=⟨1,1,wl⟩:=by simpa using hL1
 have hr:=hL4 hx (List.mem_singleton.2 rfl);obtain⟨⟨hg,hc,wr⟩,hp⟩:=hx;simp only at hx2 hr;subst hx2;obtain⟨hr1,Jo,TN⟩:=hr;simp only at hr1 Jo TN;subst hr1 Jo;have Yd:Rd Ba.heap hs 3 [Value.int .u16 1,.int .u64 1,wr.v]:=by simpa[iq.cells] using hL2
 have od:hs.len=1:=by have:=Yd.len;simp only[List.length_cons,List.length_nil]at this;omega
 have T9m:T9 s.mb=3:=SB.y.rn.t2;have T9v:T9 vb=13:=SB.tb;have tn9:∀i,Ba.heap.size<=i->T9 i=0:=y42.out
 have ahq:=CU.size
 let s4:SA:=s.Ur ⟨4,lM,⟨none,0,0⟩,oy ml wl⟩ Vh
 let s5:Sl->SA:=fun q1=>{ s4 with ks:=s4.ks++[⟨⟨1,1⟩,q1,kk⟩] }
 let s6:Sl->Sl->SA:=fun q1 CT=>(s5 q1).Ur ⟨3,lab3,⟨none,0,0⟩,dO key val⟩ CT
 let FIN:Sl->Pw:=fun dS u=>∃D5 q1 CT tb cp sb,gg u D5 ⟨vb,ky,Ph,false,ox,al,[(1,.pointer (some ⟨tb,0,none⟩))]⟩ (s6 q1 CT)/\vW u D5 Cb.heap.size tb cp sb mk hs ml wl ⟨3,2,1⟩ 1 RN/\aP u.heap tX.heap.size 89 6 dS (lM.c++lab3.c)/\(∀i,dS.aw=some i->D5 i=0)/\Z u D5
 refine⟨fun m dS t u=>(m=1/\rl=dS/\t=0/\Xn=u)∨(m=0/\t=1/\FIN dS u),⟨1,.inl ⟨rfl,rfl,rfl,rfl⟩⟩,?_⟩;rintro _ m dS t P2 (⟨rfl,rfl,rfl,rfl⟩ | ⟨rfl,rfl,hF⟩)
 .refine If.dec (fun _=>?_) fun h=>absurd (by omega) h
  have agO:Rd Xn.heap out 9 ([(⟨1,10,mk,⟨3,2,1⟩,0,1,hs⟩ : dN)].flatMap dN.cells):=by simpa using ow.rd.no CU
  refine Ix.elem (f:=dN.cells) agO (fun _ _=>rfl) (by decide) (by decide) (by omega) fun bb oo hi Is hc=>?_
  refine⟨1,hc 0 _ rfl,10,(by rw[ay rfl];exact hc 1 _ rfl),mk,(by rw[ay rfl];exact hc 2 _ rfl),3,(by rw[ay rfl];exact hc 3 _ rfl),2,(by rw[ay rfl];exact hc 4 _ rfl),1,(by rw[ay rfl];exact hc 5 _ rfl),0,(by rw[ay rfl];exact hc 6 _ rfl),1,(by rw[ay rfl];exact hc 7 _ rfl),hs,(by rw[ay rfl];exact hc 8 _ rfl),?_⟩
  refine fx rfl rfl (dN.one ⟨1,10,mk,⟨3,2,1⟩,0,1,hs⟩) fun P3 g49 z49 OR=>⟨hs,Cell.af g49 rfl,?_⟩
  obtain⟨c2,VK⟩ : ∃c2,c2=Xn.heap.size:=⟨_,rfl⟩
  rw[<- VK]at g49 ⊢;have tc2:T9 c2=0:=tn9 c2 (by omega);have V49:=V45.no OR;have aik:=OR.size;refine⟨fun m t u=>(m=1/\t=0/\P3=u)∨(m=0/\t=1/\∃T q1,gg u T ⟨vb,ky,Ph,false,ox,al,[]⟩ (s5 q1)/\bu T9 P3 T u),⟨1,.inl ⟨rfl,rfl,rfl⟩⟩,?_⟩;rintro _ m t ON (⟨rfl,rfl,rfl⟩ | ⟨rfl,rfl,D5,q1,V50,ZY⟩)
  .refine If.dec (fun _=>?_) fun h=>absurd (by omega) h
   refine Ix.elem (l:=[(⟨1,1,wr⟩ : iq)]) (f:=iq.cells) (by simpa[iq.cells] using Yd.no (CU.no OR)) (fun _ _=>rfl) (by decide) (by decide) (by omega) fun bb oo hi Is hc=>?_
   refine⟨1,hc 0 _ rfl,1,(by rw[ay rfl];exact hc 1 _ rfl),wr,(by rw[ay rfl];exact hc 2 _ rfl),fx rfl rfl (iq.one ⟨1,1,wr⟩) fun w52 g52 z52 x52=>?_⟩
   obtain⟨c3,hc3⟩ : ∃c3,c3=P3.heap.size:=⟨_,rfl⟩
   rw[<- hc3]at g52 ⊢;have tc3:T9 c3=0:=tn9 c3 (by omega);have V52:=V49.no x52;have abY:Ext No w52 (ae w52):=(Ext.refl _ _).drew;have nm:∀i,T9 i≠3->¬ (i=s.mb):=fun i h e=>h (by rw[e];exact T9m)
   have aes:=ah g49 x52;refine⟨Ext (·=s.mb) w52,abY.az,Nn.mk ⟨some ⟨s.rb,0,none⟩,aj.aF (Cell.af V52.b rfl) (nm vb (by rw[T9v];decide)),1,aj.aF (Cell.af aes rfl) (nm c2 (by rw[tc2];decide)),1,aj.aF (Cell.af g52 rfl) (nm c3 (by rw[tc3];decide)),1,aj.aF (Cell.af aes rfl) (nm c2 (by rw[tc2];decide)),1,aj.aF (Cell.af g52 rfl) (nm c3 (by rw[tc3];decide)),1,aj.aF (Cell.af g52 rfl) (nm c3 (by rw[tc3];decide)),wr,aj.aF (Cell.af g52 rfl) (nm c3 (by rw[tc3];decide)),?_⟩⟩;have ZZ:=OR.no x52;have hUn:=fun K=>LZ (K:=K) (tenant:=1) (gen:=1) (commit:=1) (kl:=kk) ((o45.rd.no ZZ).no abY) Vr (by rw[aL.len o45];exact abW) ⟨by decide,by decide⟩ ⟨by decide,by decide⟩ ⟨by decide,by decide⟩ (wr:=wr) (by rw[<- A_];exact Rd.no TN.rd (((CU.no ZZ).no abY))) V9.2 V9.1
   refine hUn _ fun us w53 o53 x53=>?_
   have M4:Ext No w52 w53:=x53.an;have V53:=V52.no M4;refine⟨M4.az,eO ⟨M4.az,?_⟩⟩;refine og V53.y.rn.r (by show ki s.ks ⟨1,1⟩=none;rw[e7];rfl) o53.rd V9.2 (.inl (by rw[aL.len o53];exact V9.1)) fun q1 w55 R55 hq1 x55=>?_
   have xx:Ext (·=s.mb) w52 w55:=M4.az.trans x55 fun _ _ e=>e
   obtain⟨y55,p55⟩:=V53.y.ring (k:=⟨⟨1,1⟩,q1,kk⟩) R55 hq1 x55 (by show s.ks.length < 100;rw[e7];exact Nat.le_of_ble_eq_true rfl);have V55:=V53.sy p55 y55 rfl rfl rfl rfl rfl;exact⟨xx,dU ⟨xx,Ar.i64 (by decide) ⟨0,by decide,.inr ⟨rfl,rfl,_,q1,V55,((bu.no (x52.no M4)).trans p55)⟩⟩⟩⟩
  .refine If.dec (fun h=>absurd h (by omega)) fun _=>?_
   have Vt:bu T8 Cb D5 ON:=((H_.nx CU).nx OR).trans ZY;have ahr:=Vt.x.size;have ahs:=H_.x.size;have z50:=ZY.x.size;have ail:=M3.x.size;have orl:aP ON.heap tX.heap.size 89 6 rl lM.c:=o40.ext Vt.x fun i hi e=>by have:=t40 i hi;omega
   have Zo:∀i,rl.aw=some i->tX.heap.size<=i/\i < Cb.heap.size:=fun i hi=>o40.lt hi
   have abZ:∀i,rl.aw=some i->D5 i=0:=fun i hi=>(Vt.a i (Zo i hi).2).trans (t40 i hi)
   have aet:D5 c2=0:=(ZY.a c2 (aN g49)).trans tc2;have Pm:=ZY.aw g49 (.inl tc2);have aim:D5 vb=13:=V50.tb
   have D3:OnD (s5 q1) ⟨3,lab3,⟨none,0,0⟩,dO key val⟩ ⟨⟨1,1⟩,q1,kk⟩:=by
    refine⟨rfl,fun x hx=>?_,by show bw s.F=true;rw[XH];rfl,by show Rn.hasB 3 s.F=false;rw[XH];rfl,by show s.D.now.getD 3 []=_;rw[e2];exact D0.b3,by show ki (s.ks++[⟨⟨1,1⟩,q1,kk⟩]) ⟨1,1⟩=_;rw[e7];rfl,(lp3 ⟨none,0,0⟩).b8,Em (lp3 ⟨none,0,0⟩).short,by show lab3.OK;simp[iV.OK,lO,By],⟨by show(1:Int)<=1;decide,by show(1:Int)<=3;decide⟩,⟨by show(2:Int)<=3;decide,by show(3:Int) < (s.N:Int);rw[eN];decide⟩⟩;have VG:x∈s.ps++([⟨4,lM,Vh,oy ml wl⟩]:List KP):=hx;rw[UU]at VG;simp only[List.nil_append,List.mem_singleton]at VG;subst VG;show(4:Int)≠3;decide
   have ab0:Ext No ON (ae ON):=(Ext.refl _ _).drew
   have nvS:¬ ((1<=D5 vb/\D5 vb<=12)∨rl.aw=some vb):=by
    rintro(h | h)
    .omega
    .have:=abZ vb h;omega
   have ncS:¬ ((1<=D5 c2/\D5 c2<=12)∨rl.aw=some c2):=by
    rintro(h | h)
    .omega
    .have:=Zo c2 h;omega
   refine⟨Ext (fun i=>(1<=D5 i/\D5 i<=12)∨rl.aw=some i) ON,ab0.az,Nn.mk ⟨s.p,aj.aF (Cell.af V50.b rfl) nvS,1,aj.aF (Cell.af Pm rfl) ncS,3,aj.aF (Cell.af Pm rfl) ncS,2,aj.aF (Cell.af Pm rfl) ncS,1,aj.aF (Cell.af Pm rfl) ncS,0,aj.aF (Cell.af Pm rfl) ncS,?_⟩⟩;have hL3:=fun K=>CO (K:=K) (k:=⟨3,lab3,⟨none,0,0⟩,dO key val⟩) (V50.no ab0).y (Mt D3) (lp3 _) rfl (by show(3:Int)≠0;decide)
   refine hL3 _ fun rl3 s' SF w57 o57 t57 y57 q57 p57=>?_
   obtain⟨CT,rfl⟩:=q57;have CV:bu D5 ON SF w57:=(bu.no ab0).trans p57;have V57:gg w57 SF ⟨vb,ky,Ph,false,ox,al,[]⟩ (s6 q1 CT):=V50.sy CV y57 rfl rfl rfl rfl rfl;have e57:Ext (fun i=>(1<=D5 i/\D5 i<=12)∨rl.aw=some i) ON w57:=CV.x.mono fun _ _ h=> .inl h
   have z57:=CV.x.size;have Z0:aP w57.heap tX.heap.size 89 6 rl lM.c:=orl.ext CV.x fun i hi e=>by have:=abZ i hi;omega
   have l1:rl.len=1:=by have:=Z0.len;simp only[iV.c,List.length_cons,List.length_nil]at this;omega
   have l3:rl3.len=1:=by have:=o57.len;simp only[iV.c,List.length_cons,List.length_nil]at this;omega
   refine⟨e57,zm ⟨e57,xA Z0 (by omega) (Rd.src o57.rd) (by rw[l1,l3];decide) fun sR M5 o59 _ RA agP=>?_⟩⟩;have e59:Ext (fun i=>(1<=D5 i/\D5 i<=12)∨rl.aw=some i) ON M5:=e57.trans RA fun i _ h=> .inr h
   have t11:∀i,i < ON.heap.size->SF i=D5 i:=CV.a
   have aeu:∀i,rl.aw=some i->SF i=0:=fun i hi=>(t11 i (by have:=Zo i hi;omega)).trans (abZ i hi)
   have V59:=V57.loc RA fun i e=> .inl (aeu i e)
   have z59:=RA.size;have Hm:=ar (CV.aw Pm (.inl aet)) RA fun h=>by have:=Zo c2 h;omega
   have agQ:SF c2=0:=(t11 c2 (aN Pm)).trans aet;have t9:∀i,i < Ba.heap.size->SF i=T9 i:=fun i hi=>(t11 i (by omega)).trans (ZY.a i (by omega))
   have aev:Ext (fun i=>(1<=T9 i/\T9 i<=12)∨rl.aw=some i) Ba M5:=((((CU.no OR).az.trans ZY.x fun i _ h=> .inl h).trans CV.x fun i hi h=> .inl (by rw[ZY.a i (by omega)]at h;exact h)).trans RA fun i _ h=> .inr h)
   have mv:∀{q:Sl}{n:Nat}{cs:List Value},Rd Ba.heap q n cs->(∀i,q.aw=some i->Cb.heap.size<=i/\T9 i=0)->Rd M5.heap q n cs:=fun r h=>r.ext aev fun a i h1 h2 h3=>by
    have h':=h i (by simp[Sl.aw,h1,h2]);rcases h3 with h3 | h3
    .omega
    .have:=Zo i h3;omega
   have aew:ml≠[]:=by rintro rfl;simp at Gi
   have aex:wl≠[]:=by rintro e;rw[e]at Of;simp at Of
   have mtk:∀i,mk.aw=some i->(Cb.heap.size<=i/\T9 i=0)/\i < Ba.heap.size:=fun i hi=>⟨r3.q aew i hi,Rd.lt r3.rd (by simpa using aew) hi⟩
   have mth:∀i,hs.aw=some i->(Cb.heap.size<=i/\T9 i=0)/\i < Ba.heap.size:=fun i hi=>⟨agN i hi,Rd.lt Yd (by simp) hi⟩
   have mtw:∀i,wr.aw=some i->(Cb.heap.size<=i/\T9 i=0)/\i < Ba.heap.size:=fun i hi=>⟨TN.q aex i hi,Rd.lt TN.rd (by simpa using aex) hi⟩
   have H59:KC M5 SF Cb.heap.size hs wl:=⟨⟨wr,mv Yd fun i hi=>(mth i hi).1,mv TN.rd fun i hi=>(mtw i hi).1,fun i hi=>⟨(t9 i (mtw i hi).2).trans (mtw i hi).1.2,(mtw i hi).1.1,by have:=(mtw i hi).2;omega⟩⟩,fun i hi=>⟨(t9 i (mth i hi).2).trans (mth i hi).1.2,(mth i hi).1.1,by have:=(mth i hi).2;omega⟩,od⟩
   have Vv:Z M5 SF:=by
    have h57:=zs (zs (zn z45 OR) ZY) CV;have lb:=aN n1.get;have lwb:b=w.heap.size:=a1
    have ain:w.heap.size+1<=tX.heap.size:=by
     have h:=aN z39.2.2;omega
    exact⟨⟨h57.1.z,h57.1.x.trans RA fun i hi h=>by have:=Zo i h;omega⟩,h57.2.1,ar h57.2.2 RA fun h=>by have:=Zo b h;omega⟩
   have tR:∀i,sR.aw=some i->SF i=0:=fun i hi=>by
    rcases agP with h | ⟨c,h,hc⟩
    .exact aeu i (by rw[<- h];exact hi)
    .rw[h]at hi;cases hi;exact y57.out _ hc
   have aey:SF al=15:=V59.ta;have agR:Ext No M5 (ae M5):=(Ext.refl _ _).drew;have nal:∀i,SF i≠15->¬ (i=al):=fun i h e=>h (by rw[e];exact aey)
   have agS:=nal vb (by rw[show SF vb=13 from V59.tb];decide);have Hn:=nal c2 (by rw[agQ];decide)
   have fin:∀(tb cp sb:Nat)(u:Wd),Ext No M5 u->M5.heap.size<=tb->M5.heap.size<=sb->M5.heap.size<=cp->tb≠cp/\sb≠tb/\sb≠cp->u.heap[tb]? = some (.cells (XK mk hs ⟨3,2,1⟩ 1 cp sb).toArray 104 (0,0))->u.heap[cp]? = some (.cells RN.toArray 204 (0,0))->u.heap[sb]? = some (.map #[] 0)->
     ∃u',Sem.run pz (Instr.mapUpdate 49 (.map (some al)) (.int .u32 1) (.pointer (some (Addr.mk tb 0 none)))) u = .ok () u'/\Ext (·=al) M5 u'/\FIN sR u':=fun tb cp sb u xu h1 h2 h3 du gt gc gs=>by
    obtain⟨u',T2,eH,x',V',t',st',a'⟩:=aeq V59 xu h1 h3 h2 du gt gc gs (by omega) (mv r3.rd fun i hi=>(mtk i hi).1) (fun i hi=>⟨(t9 i (mtk i hi).2).trans (mtk i hi).1.2,(mtk i hi).1.1,by have:=(mtk i hi).2;omega⟩) Gi Nj H59;refine⟨u',eH,x',T2,q1,CT,tb,cp,sb,V',t',o59.ext x' fun i hi=>nal i (by rw[tR i hi];decide),fun i hi=>(a' i (o59.lt hi).2).trans (tR i hi),Vv.1.trans st',st'.z b (aN Vv.2.2) Vv.2.1,st'.aw Vv.2.2 Vv.2.1⟩
   refine⟨e59,Ext (·=al) M5,agR.az,Nn.mk ⟨some al,aj.aF (Cell.af V59.b rfl) agS,1,aj.aF (Cell.af Hm rfl) Hn,1,aj.aF (Cell.af Hm rfl) Hn,10,aj.aF (Cell.af Hm rfl) Hn,mk,aj.aF (Cell.af Hm rfl) Hn,3,aj.aF (Cell.af Hm rfl) Hn,2,aj.aF (Cell.af Hm rfl) Hn,1,aj.aF (Cell.af Hm rfl) Hn,0,aj.aF (Cell.af Hm rfl) Hn,1,aj.aF (Cell.af Hm rfl) Hn,hs,aj.aF (Cell.af Hm rfl) Hn,?_,?_⟩⟩
   .refine oh fun cp w3 g3 h3 x3=>⟨(x3.an).az,fun sb w4 n4=>⟨(x3.an.no n4.ext).az,fun tb w5 n5=>⟨((x3.an.no n4.ext).no n5.ext).az,?_⟩⟩⟩
    have z3:=x3.size;have z4:=n4.size;have zd:(ae M5).heap.size=M5.heap.size:=rfl;obtain⟨u',h1,h2,h3⟩:=fin tb cp sb w5 ((x3.an.no n4.ext).no n5.ext) (by rw[n5.at_];omega) (by rw[n4.at_];omega) (by omega) (by have:=n4.at_;have:=n5.at_;have:=aN g3;omega) n5.get (ah (ah g3 n4.ext) n5.ext) (ah n4.get n5.ext);exact⟨u',h1,h2,Ar.i64 (by decide) ⟨0,by decide,.inr ⟨rfl,rfl,h3⟩⟩⟩
   .refine fun sb w4 n4=>⟨(n4.ext.an).az,oh fun cp w3 g3 h3 x3=>⟨(n4.ext.an.no x3).az,fun tb w5 n5=>⟨((n4.ext.an.no x3).no n5.ext).az,?_⟩⟩⟩
    have z3:=x3.size;have z4:=n4.size;have zd:(ae M5).heap.size=M5.heap.size:=rfl;obtain⟨u',h1,h2,h3⟩:=fin tb cp sb w5 ((n4.ext.an.no x3).no n5.ext) (by rw[n5.at_];omega) (by rw[n4.at_];omega) (by omega) (by have:=n4.at_;have:=n5.at_;have:=aN g3;omega) n5.get (ah g3 n5.ext) (ah n4.get (x3.no n5.ext));exact⟨u',h1,h2,Ar.i64 (by decide) ⟨0,by decide,.inr ⟨rfl,rfl,h3⟩⟩⟩
 .refine If.dec (fun h=>absurd h (by omega)) fun _=>?_
  obtain⟨D5,q1,CT,tb,cp,sb,V47,t47,o47,aio,z47⟩:=hF;have l47:dS.len=2:=by have:=o47.len;simp only[iV.c,List.length_append,List.length_cons,List.length_nil]at this;omega
  obtain⟨ra,rn,rc⟩:=dS;simp only at l47;subst l47;have r47:Rd P2.heap ⟨ra,2,rc⟩ 6 ([lM,lab3].flatMap iV.c):=o47.rd;refine xO.mk (l:=2) (c:=2) (by decide) (by decide) (by decide) (by decide) fun b9 w68 n68=>?_
  have a68:=n68.at_;have z68:=n68.size;have o68:aP w68.heap P2.heap.size 44 3 ⟨some ⟨b9,0,none⟩,2,2⟩ [.int .u32 0,.int .u64 0,.int .u16 0,.int .u32 0,.int .u64 0,.int .u16 0]:=aP.make (l:=2) (c:=2) n68 (Nat.le_refl _) (a_ rfl)
  let cJ:Nat->List Value:=fun j=>(([lM,lab3].take j).flatMap Uj)++(List.replicate (2 - j) [Value.int .u32 0,.int .u64 0,.int .u16 0]).flatten
  refine⟨fun m t u=>∃j:Nat,t=j/\j<=2/\m=2 - j/\aP u.heap P2.heap.size 44 3 ⟨some ⟨b9,0,none⟩,2,2⟩ (cJ j)/\Ext No P2 u,⟨_,0,rfl,Nat.zero_le _,rfl,o68,n68.ext⟩,?_⟩;rintro _ m t w69 ⟨j,rfl,hj,rfl,o69,PS⟩;have V69:=V47.no PS;refine If.dec (fun h=>?_) fun h=>?_
  .have wE:j < 2:=by have h':(j:Int) < 2:=h;omega
   refine Ix.elem (f:=iV.c) (i:=(j:Int)) (r47.no PS) (fun _ _=>rfl) (by decide) (by omega) (by omega) fun bb oo hi Is hc=>?_
   have hcu:setL (cJ j) ((j:Int).toNat * 3) (Uj ([lM,lab3][((j:Int)).toNat]'hi))=cJ (j+1):=by
    have xG:j=0∨j=1:=by omega
    rcases xG with rfl | rfl <;> rfl
   generalize[lM,lab3][((j:Int)).toNat]'hi=U_ at hc hcu;refine⟨U_.t,hc 0 _ rfl,U_.kd,(by rw[ay rfl];exact hc 1 _ rfl),U_.lv,(by rw[ay rfl];exact hc 2 _ rfl),U_.pg,(by rw[ay rfl];exact hc 3 _ rfl),U_.cm,(by rw[ay rfl];exact hc 4 _ rfl),U_.gn,(by rw[ay rfl];exact hc 5 _ rfl),fx rfl rfl (a_ rfl) fun w71 g71 z71 x71=>⟨U_.pg,Cell.af g71 rfl,U_.cm,Cell.af g71 rfl,U_.gn,Cell.af g71 rfl,?_⟩⟩;refine bO.ac7 (i:=(j:Int)) (o69.no x71) (by omega) (by show(j:Int) < 2;omega) (a_ rfl) rfl (by decide) fun w72 o72 x72 z72=>Ar.i64 (by omega) ⟨2 - (j+1),by omega,j+1,by push_cast;omega,by omega,rfl,?_,(PS.no x71).trans x72 fun i hi e=>?_⟩
   .rw[<- hcu];exact o72
   .have:=(o69.lt e).1;omega
  .have hj2:j=2:=by have h':¬ ((j:Int) < 2):=h;omega
   subst hj2;have oR:Rd w69.heap ⟨some ⟨b9,0,none⟩,2,2⟩ 3 ([lM,lab3].flatMap Uj):=o69.rd
   have ab2:(s6 q1 CT).ps=[⟨4,lM,Vh,oy ml wl⟩,⟨3,lab3,CT,dO key val⟩]:=by
    show(s.ps++([⟨4,lM,Vh,oy ml wl⟩]:List KP))++([⟨3,lab3,CT,dO key val⟩]:List KP)=_;rw[UU];rfl
   have hN6:(s6 q1 CT).N=100:=eN
   have hSw:=fun K=>FT (K:=K) (ll:=[lM,lab3]) (kp:=[4,3]) (G:=gB) (f:=fB) V69.y e15 rfl oR (by decide) (fun n hn=>by
    simp only[List.mem_cons,List.not_mem_nil,or_false]at hn;rw[hN6]
    rcases hn with rfl | rfl <;> decide) (fun n h1 h2 h3=>by
    have hn3:n≠3:=by rintro rfl;cases h3
    have hn4:n≠4:=by rintro rfl;cases h3
    rw[hN6]at h2;show s.D.now.getD n.toNat []=bB;rw[e2]
    exact D0.z n h1 (by omega) hn3 hn4) (fun q hq=>by
    rw[ab2]at hq;simp only[List.mem_cons,List.not_mem_nil,or_false]at hq
    rcases hq with rfl | rfl <;> rfl) (by rw[hN6];exact aaW) rfl fun j h=>ado h
   refine Nn.mk ⟨(s6 q1 CT).p,Cell.af V69.b rfl,hSw _ (fun FQ fr' wb' w73 y73 s73=>dU ?_)⟩;have VZ:=V69.sy s73 y73 rfl rfl rfl rfl rfl;have aez:FQ vb=13:=VZ.tb;refine Nn.mk (aH.mk VZ.b (Nat.le_of_ble_eq_true rfl) rfl fun w75 h75=>?_);have ZB:Ext (·=vb) w73 w75:=h75.ext;have V75:=VZ.put (op:=true) (mp:=ox) (h75.get VZ.b) ZB;have z73:=zs (zn z47 PS) s73;have UZ:=ar z73.2.2 ZB nbv;refine aH.mk UZ Nat.one_pos rfl fun w76 h76=>AX ⟨0,Cell.af (h76.get UZ) rfl,?_⟩
   have x76:Ext (·=b) w75 w76:=h76.ext;have V76:=V75.loc x76 fun i hi=>by rw[hi];exact .inl z73.2.1
   have aeA:bu D5 P2 FQ w73:=(bu.no PS).trans s73;have t73:=t47.Qi aeA;have t75:=t73.ext (T':=FQ) ZB (fun i e=> .inl (by rw[e,aez];decide)) fun _ _=>rfl
   have agT:=aN z40.2.2;have t76:vW w76 FQ Cb.heap.size tb cp sb mk hs ml wl ⟨3,2,1⟩ 1 RN:=t75.ext (T':=FQ) x76 (fun i e=> .inr (by rw[e];exact⟨z73.2.1,agT⟩)) fun _ _=>rfl
   refine k FQ al _ _ CT Cb.heap.size tb cp sb mk hs w76 V76 rfl (aea ?_ ?_ ⟨by show(2:Int)<=3;decide,by show(3:Int) < (s.N:Int);rw[eN];decide⟩ rfl ⟨by show(1:Int)<=1;decide,by show(1:Int)<=3;decide⟩) e4 t76 ((z73.1.trans (iX.one ZB (by rw[aez];decide))).out x76 (by omega))
   .show l_ (3:Int) ((s6 q1 CT).ps.map KP.e)=_;rw[ab2];rfl
   .show _∈(s6 q1 CT).ps;rw[ab2];exact .tail _ (.head _)
end
end Go.Proofs.YtiigcapldngijaaGreat
namespace Go.Proofs.YtiigcapldngijaaGreat
open Go.V Go.V.Pk Go.V.Dk Go.V.Rn
section
variable {w w':Wd} {T T':Nat->Nat} {s:SA} {v:VA} {lo tb cp sb am:Nat} {mk hs:Sl} {ml wl:List Int} {rf:Rf} {ch:Int}
theorem aeB{c0 c1 c3 c4 c5 c6 c8:Int}{c2 c9 c10 c11 c12:Sl}{c13:Bool}{K:Int->Int->Int->Int->Pw}(hg:w.heap[tb]? = some (.cells (XK mk hs rf ch cp sb).toArray 104 (0,0)))(k:∀w',Ext No w w'->K rf.p rf.c rf.g 0 w'):iL (some ⟨tb,0,none⟩) c0 c1 c2 c3 c4 c5 c6 0 c8 c9 c10 c11 c12 c13 w K:=by
 apply wP;refine fun b w1 n1 b1 w2 n2=>?_
 have g0:=ah n1.get n2.ext;have x2:=n1.ext.no n2.ext;have g2:=ah hg x2;refine⟨0,Cell.af g0 rfl,If.yes (Nn.mk ⟨rf.p,Cell.af g2 rfl,rf.c,Cell.af g2 rfl,rf.g,Cell.af g2 rfl,0,Cell.af g2 rfl,rfl,bO.mk n2.get (Nat.le_refl 4) (a_ rfl) fun w3 h3=>?_⟩)⟩;have g3:=h3.get n2.get;exact⟨_,Cell.af g3 rfl,_,Cell.af g3 rfl,_,Cell.af g3 rfl,_,Cell.af g3 rfl,k w3 (x2.out h3.ext (by have:=n2.at_;have:=n1.size;omega))⟩
theorem aeC{c0 c1 c3 c4 c6 c8:Int}{c2 c9 ks c11 c12:Sl}{c13:Bool}{l:iV}{n:Int}{CT:Sl}{key val:List Int}{K:Int->Int->Int->Sl->Sl->Int->Sl->Pw}(V:gg w T v s)(Hi:v.ts=[(1,.pointer (some ⟨tb,0,none⟩))])(t:vW w T lo tb cp sb mk hs ml wl ⟨l.pg,l.cm,l.gn⟩ ch (XP am))(m:cY w.heap (Value.int .u64) am XQ)(G:vX s ⟨n,l,CT,dO key val⟩)(ab3:l.t=1)(HR:l.kd=1)(hlv:l.lv=0)(hn:l.pg≠0)
  (hk:aQ w.heap ks key) (tk:∀i,ks.aw=some i->T i=0) (k8:B8 key) (v8:B8 val) (k1:1<=key.length) (kl:key.length<=32) (vl:val.length<=64)
  (k:∀sl T' w',aL w'.heap w.heap.size sl val->(∀i,sl.aw=some i->T' i=0)->gg w' T' v s->iX T w T' w'->K 0 0 0 sl ⟨none,0,0⟩ 0 ⟨none,0,0⟩ w'):kJ v.p c0 c1 c2 c3 c4 4294967297 c6 0 c8 c9 ks c11 c12 c13 w K:=by
 apply Am;refine fun b w1 n1 b1 w2 n2=>?_
 have x2:=n1.ext.no n2.ext;have g0:=ah n1.get n2.ext;have a1:=n1.at_;have a2:=n2.at_;have z1:=n1.size;have z2:=n2.size;have Cy:=aQ.len hk;refine⟨c0,Cell.af g0 rfl,c1,Cell.af g0 rfl,c2,Cell.af g0 rfl,c3,Cell.af g0 rfl,c4,Cell.af g0 rfl,4294967297,Cell.af g0 rfl,c6,Cell.af g0 rfl,0,Cell.af g0 rfl,c8,Cell.af g0 rfl,c9,Cell.af g0 rfl,ks,Cell.af g0 rfl,c11,Cell.af g0 rfl,c12,Cell.af g0 rfl,c13,Cell.af g0 rfl,?_⟩
 refine CS (V.no x2) Hi (t.no x2) (m.ext x2 fun h=>h) (by decide) fun w3 x3=>⟨fun u=>w3=u,⟨ks,Cell.af (ah g0 x3) rfl,If.beq (fun h=>by omega) fun _=>⟨ks,Cell.af (ah g0 x3) rfl,If.dec (fun h=>by omega) fun _=>rfl⟩⟩,?_⟩
 rintro _ _ rfl;have iC:=x2.no x3;have xd:Ext No w3 (ae w3):=(Ext.refl _ _).drew;have V3:=V.no iC;have tz:∀i,w.heap.size<=i->T i=0:=V.y.out
 let S:Pw:=fun u=>Ext (fun i=>1<=T i/\T i<=12) w3 u
 have nv:¬ (1<=T v.vb/\T v.vb<=12):=by rw[V.tb];decide
 have ntb:¬ (1<=T tb/\T tb<=12):=by rw[t.tt];decide
 have VP:¬ (1<=T b/\T b<=12):=by rw[tz b (by omega)];decide
 have g3:=ah g0 x3;have t3:=t.no iC;have hc:∀{o:Nat}{x:Value},(([.int .i64 c0,.int .u32 c1,c2.v,.int .i64 c3,.int .i64 c4,.int .u64 4294967297,.int .u64 c6,.int .u64 0,.int .u8 c8,c9.v,ks.v,c11.v,c12.v,.bool c13]:List Value))[o]? = some x->aj S ⟨b,o,none⟩ x:=fun h=>aj.aF (Cell.af g3 h) VP
 refine⟨S,xd.az,Nn.mk ⟨s.p,aj.aF (Cell.af V3.b rfl) nv,Nn.mk ⟨1,aj.aF (Cell.af t3.g rfl) ntb,c0,hc rfl,c1,hc rfl,c2,hc rfl,c3,hc rfl,c4,hc rfl,4294967297,hc rfl,c6,hc rfl,0,hc rfl,c8,hc rfl,c9,hc rfl,ks,hc rfl,c11,hc rfl,c12,hc rfl,c13,hc rfl,ks,hc rfl,aeB (ah t3.g xd) fun w4 x4=>?_⟩⟩⟩;have UI:=xd.no x4;have th:=iC.no UI;refine⟨UI.az,?_⟩;have V4:=V.no th;have hg:=fun K=>ZP (K:=K) (e:=⟨key,val,0,.z,.z⟩) V4.y G.gp (Kk HR hlv k8 v8 k1 kl vl) rfl hn (Rd.no hk th) tk k8 ⟨by omega,by omega⟩ rfl (by show val.length<=65536;omega)
 rw[<- ab3];refine hg _ fun sl s' T' w5 o5 t5 y5 e5 p5=>?_
 subst e5;have V5:=V4.sy p5 y5 rfl rfl rfl rfl rfl;have hS5:S w5:=UI.az.trans p5.x fun _ _ h=>h
 have g1:=p5.aw (ah (ah n2.get x3) UI) (.inl (tz b1 (by omega)));have zz:=th.size;refine⟨hS5,If.beq (fun h=>absurd h (by decide)) fun _=>dU ?_⟩;refine⟨rfl,bO.mk g1 (Nat.le_refl 7) (a_ rfl) fun w6 h6=>?_⟩;have g6:=h6.get g1;have x6:Ext (·=b1) w5 w6:=h6.ext;have Cz:T' b1=0:=(p5.a b1 (by have:=x3.size;have:=UI.size;omega)).trans (tz b1 (by omega));have o6:aL w6.heap w.heap.size sl val:=(o5.ext x6 fun i hi e=>by have:=(o5.lt hi).1;have:=x3.size;have:=UI.size;omega).mono zz;exact⟨0,Cell.af g6 rfl,0,Cell.af g6 rfl,0,Cell.af g6 rfl,sl,Cell.af g6 rfl,⟨none,0,0⟩,Cell.af g6 rfl,0,Cell.af g6 rfl,⟨none,0,0⟩,Cell.af g6 rfl,k sl T' w6 o6 t5 (V5.loc x6 fun i e=> .inl (by rw[e];exact Cz)) (((iX.no th).trans p5.tw).out x6 (by omega))⟩
theorem ab4{c1 c3 c4 c6 c8:Int}{c2 c9 ks c11 c12:Sl}{c13:Bool}{l:iV}{n:Int}{CT:Sl}{key val:List Int}{K:Int->Int->Int->Sl->Sl->Int->Sl->Pw}(V:gg w T v s)(Pd:v.op=true)(Hi:v.ts=[(1,.pointer (some ⟨tb,0,none⟩))])(t:vW w T lo tb cp sb mk hs ml wl ⟨l.pg,l.cm,l.gn⟩ ch (XP am))(m:cY w.heap (Value.int .u64) am XQ)(G:vX s ⟨n,l,CT,dO key val⟩)(ab3:l.t=1)(HR:l.kd=1)(hlv:l.lv=0)(hn:l.pg≠0)
  (hk:aQ w.heap ks key) (tk:∀i,ks.aw=some i->T i=0) (k8:B8 key) (v8:B8 val) (k1:1<=key.length) (kl:key.length<=32) (vl:val.length<=64)
  (k:∀sl T' w',aQ w'.heap sl val->gg w' T' v s->iX T w T' w'->K 0 0 0 sl ⟨none,0,0⟩ 0 ⟨none,0,0⟩ w'):aR v.p 12 c1 c2 c3 c4 4294967297 c6 0 c8 c9 ks c11 c12 c13 w K:=by
 refine Pc (f:=94) V Pd rfl fun w1 X K' x1 V1 kk=>An (aeC V1 Hi (t.no x1) (m.ext x1 fun h=>h) G ab3 HR hlv hn (Rd.no hk x1) tk k8 v8 k1 kl vl fun sl T' w2 o2 t2 V2 st=>kk _ _ _ _ _ _ _ T' w2 st fun b w3 x3 Cz hb zI=>?_)
 exact k sl T' w3 (o2.ext x3 fun i hi e=>by have:=(o2.lt hi).1;omega).rd (V2.loc x3 fun i e=> .inl (by rw[e];exact Cz)) (((iX.no x1).trans st).out x3 hb)
end
end Go.Proofs.YtiigcapldngijaaGreat
namespace Go.Proofs.YtiigcapldngijaaGreat
open Go.V Go.V.Pk Go.V.Dk Go.V.Rn
section
variable {w w':Wd} {T T':Nat->Nat} {v:VA} {s:SA}
theorem vY{K:Sl->Pw}(k:∀sl w',aQ w'.heap sl (List.replicate 16 97)->sl.len=16->(∀i,sl.aw=some i->w.heap.size<=i)->Ext No w w'->K sl w'):fK w K:=by
 apply Fp;refine fun b w1 n1=>?_
 obtain⟨w2,hr,x2,hz2,fz,zI⟩:=Oo (n:=16) (c:=16) n1.get;refine⟨⟨some ⟨b,0,none⟩,16,16⟩,w2,hr,k _ w2 ?_ rfl (fun i hi=>?_) (n1.ext.out x2 (by rw[n1.at_];exact Nat.le_refl _))⟩
 .refine⟨rfl,Nat.le_refl _,fun _=>⟨b,0,rfl,fun i hi=>?_⟩,fun v hv=>df v hv⟩;have qO:i < 16:=by simpa using hi
  unfold cM;rw[zI];have:i=0∨i=1∨i=2∨i=3∨i=4∨i=5∨i=6∨i=7∨i=8∨i=9∨i=10∨i=11∨i=12∨i=13∨i=14∨i=15:=by omega
  rcases this with rfl | rfl | rfl | rfl | rfl | rfl | rfl | rfl | rfl | rfl | rfl | rfl | rfl | rfl | rfl | rfl <;> rfl
 .have:b=i:=by simp[Sl.aw]at hi;exact hi
  rw[<- this,n1.at_];exact Nat.le_refl _
theorem ab5{b:Nat}{w0:Wd}{x:Int}(n:Gq w0 (.cells [Value.int .u8 x].toArray 5) b w):∃w2,Sem.run pz (convert 22 22 (.slice (some ⟨b,0,none⟩) 1 1)) w = .ok (.slice (some ⟨b,0,none⟩) 1 1) w2/\aQ w2.heap ⟨some ⟨b,0,none⟩,1,1⟩ [x]/\Ext No w0 w2:=by
 obtain⟨w2,hr,x2,hz2,fz,zI⟩:=Oo (n:=1) (c:=1) n.get;refine⟨w2,hr,⟨rfl,Nat.le_refl _,fun _=>⟨b,0,rfl,fun i hi=>?_⟩,fun v hv=>df v hv⟩,n.ext.out x2 (by rw[n.at_];exact Nat.le_refl _)⟩;have qO:i < 1:=by simpa using hi
 have:i=0:=by omega
 subst this;unfold cM;rw[zI];rfl
abbrev pC(P:List (Sl×List Int)):List Value:=P.flatMap fun p=>Ra p.1
set_option maxHeartbeats 1000000 in
theorem Ye{K:Int->Int->Sl->Sl->Pw}(k:∀dr key L w',VQ w'.heap dr L->L.length=5->(∀l∈L,l.length=16)->aQ w'.heap key (List.replicate 32 0)->key.len=32->Ext No w w'->K 100 1000 dr key w'):qt 100 5 w K:=by
 apply GU
 refine fun b0 wa na=>xO.arr (sz:=1) (n:=32) (k:= .u8) rfl rfl (by decide) (by decide) fun kb w1 ak hkb x1 z1=>fun b w2 n2=>⟨rfl,?_⟩
 refine bO.mk n2.get (Nat.le_refl 4) (a_ rfl) fun w3 h3=>?_
 have aa:=na.at_;have za:=na.size;have a2:=n2.at_;have z2:=n2.size;have g3:=h3.get n2.get;have x3:Ext No w w3:=((na.ext.no x1).no n2.ext).out h3.ext (by show w.heap.size<=b;omega);have g03:w3.heap[b0]? = some (.cells [Value.int .i64 0,.int .u64 0,.slice none 0 0,.slice none 0 0].toArray 31 (0,0)):=ar (ah na.get (x1.no n2.ext)) h3.ext (by show b0≠b;omega);have lb3:=aN g3;have ak3:w3.heap[kb]? = some (.cells ((List.replicate 32 (0:Int)).map (Value.int .u8)).toArray 5 (0,0)):=ar (ah ak n2.ext) h3.ext (by show kb≠b;omega);refine⟨fun n i u=>∃(P:List (Sl×List Int)) (dr:Sl),i=(P.length:Int)/\P.length<=5/\n=5 - P.length/\Ext (·=b) w3 u/\u.heap[b]? = some (.cells [Value.int .i64 100,.int .u64 1000,dr.v,.slice (some ⟨kb,0,none⟩) 32 32].toArray 31 (0,0))/\aP u.heap w3.heap.size 22 1 dr (pC P)/\∀p∈P,aQ u.heap p.1 p.2/\p.2.length=16/\B8 p.2/\∀i,p.1.aw=some i->w3.heap.size<=i/\i < u.heap.size/\dr.aw≠some i,⟨_,[],⟨none,0,0⟩,rfl,Nat.zero_le _,rfl,Ext.refl _ _,g3,aP.nil _ _ _ _,fun p h=>(nomatch h)⟩,?_⟩;rintro _ n i w4 ⟨P,dr,rfl,hP,rfl,x4,g4,o4,Sv⟩;have z4:=x4.size;refine If.dec (fun h=>?_) fun h=>?_
 .refine xO.arr (sz:=1) (n:=16) (k:= .u8) rfl rfl (by decide) (by decide) fun nb w5 a5 hnb x5 z5=>Ar.i64 (by omega) (Ar.u8 (by omega) (Ix.arr (by decide) (by show(0:Int) < 16;decide) ?_))
  have YK:w5.heap[nb]? = some (.cells ((List.replicate 16 (0:Int)).map (Value.int .u8)).toArray 5 (0,0)):=a5;refine aH.mk YK (by decide) rfl fun w6 h6=>?_
  have x6:Ext (·=nb) w5 w6:=h6.ext;have g6:=ar (ah g4 x5) x6 (by omega)
  have r6:aQ w6.heap ⟨some ⟨nb,0,none⟩,16,16⟩ ((List.replicate 16 (0:Int)).set 0 ((P.length:Int)+1)):=by
   have a6:aA w6.heap nb 5 .u8 ((List.replicate 16 (0:Int)).set 0 ((P.length:Int)+1)):=by
    show w6.heap[nb]? = _;rw[List.map_set];exact h6.get YK
   have h1:=a6.rd (o:=0) (n:=16) (c:=16) (by simp) (Nat.le_refl _);rw[List.drop_zero,List.take_of_length_le (by simp)]at h1;exact h1
  have o6:aP w6.heap w3.heap.size 22 1 dr (pC P):=(o4.no x5).ext x6 fun i hi e=>by have:=(o4.lt hi).2;omega
  have hlen:dr.len<=5:=by have:=o4.len;have:=cQ (f:=fun p:Sl×List Int=>Ra p.1) (n:=1) (l:=P) (fun _ _=>rfl);simp only[pC] at *;omega
  have zr:Ext No w4 w6:=x5.out x6 (by omega);have z6:=zr.size;have l6:=x6.size;refine⟨dr,Cell.af g6 rfl,JE o6 (by omega) rfl (Q5 rfl) (by omega) fun d2 w8 o8 l8 x8 hd8=>?_⟩;have nbd:dr.aw≠some b:=fun e=>by have:=(o4.lt e).1;omega
  have g8:=ar g6 x8 nbd;refine aH.mk g8 (Nat.le_of_ble_eq_true rfl) rfl fun w9 h9=>?_
  have x9:Ext (·=b) w8 w9:=h9.ext;have z8:=x8.size;have z9:=x9.size;have lbz:b < w3.heap.size:=lb3;refine Ar.i64 (by omega) ⟨5 - (P.length+1),by omega,P++[(⟨some ⟨nb,0,none⟩,16,16⟩,(List.replicate 16 (0:Int)).set 0 ((P.length:Int)+1))],d2,by simp,by simp;omega,by simp,?_,h9.get g8,?_,fun p hp=>?_⟩
  .exact(((x4.trans zr.az fun i _ h=>h).trans x8 fun i hi e=>by have:=(o4.lt e).1;omega).trans x9 fun i _ e=>e)
  .have o9:=o8.ext x9 fun i hi e=>by have:=(o8.lt hi).1;omega
   simpa[pC] using o9
  .have aJ:∀(q:Sl)(x:List Int),aQ w6.heap q x->(∀i,q.aw=some i->w3.heap.size<=i/\dr.aw≠some i)->aQ w9.heap q x:=fun q x hq hb=>
    (hq.ext x8 fun p i hp hi e=>(hb i (by simp[Sl.aw,hp,hi])).2 e).ext x9 fun p i hp hi e=>by have:=(hb i (by simp[Sl.aw,hp,hi])).1;omega
   have dn:∀i,i < w6.heap.size->dr.aw≠some i->d2.aw≠some i:=fun i hi h=>by
    rcases hd8 with e | ⟨b',e,Is⟩
    .rw[e];exact h
    .rw[e];intro e2;have:=Option.some.inj e2;omega
   rcases List.mem_append.1 hp with h | h
   .obtain⟨h1,h2,h3',h4⟩:=Sv p h;refine⟨aJ p.1 p.2 (Rd.no h1 zr) fun i hi=>⟨(h4 i hi).1,(h4 i hi).2.2⟩,h2,h3',fun i hi=>⟨(h4 i hi).1,by have:=(h4 i hi).2.1;omega,dn i (by have:=(h4 i hi).2.1;omega) (h4 i hi).2.2⟩⟩
   .simp only[List.mem_singleton]at h;subst h;have ln:=aN YK;have nn:dr.aw≠some nb:=fun e=>by have:=(o4.lt e).2;omega
    refine⟨aJ _ _ r6 fun i hi=>?_,by simp,fun y hy=>?_,fun i hi=>?_⟩
    .have:nb=i:=by simp[Sl.aw]at hi;exact hi
     subst this;exact⟨by omega,nn⟩
    .rcases List.mem_or_eq_of_mem_set hy with h' | h'
     .rw[(List.mem_replicate.1 h').2];decide
     .subst h';omega
    .have:nb=i:=by simp[Sl.aw]at hi;exact hi
     subst this;exact⟨by omega,by omega,dn nb (by omega) nn⟩
 .have hP5:P.length=5:=by omega
  refine⟨100,Cell.af g4 rfl,1000,Cell.af g4 rfl,dr,Cell.af g4 rfl,⟨some ⟨kb,0,none⟩,32,32⟩,Cell.af g4 rfl,rfl,?_⟩;have g04:=ar g03 x4 (by show ¬ b0=b;omega);refine bO.mk g04 (Nat.le_refl 4) (a_ rfl) fun w5 h5=>?_
  have x5:Ext (·=b0) w4 w5:=h5.ext;have g5:=h5.get g04;have lb0:=aN g03;have ak5:aA w5.heap kb 5 .u8 (List.replicate 32 0):=ar (ar ak3 x4 (by show kb≠b;omega)) x5 (by show ¬ kb=b0;omega)
  have rk:aQ w5.heap ⟨some ⟨kb,0,none⟩,32,32⟩ (List.replicate 32 0):=by
   have h1:=ak5.rd (o:=0) (n:=32) (c:=32) (by simp) (Nat.le_refl _);rw[List.drop_zero,List.take_of_length_le (by simp)]at h1;exact h1
  have hL:VQ w5.heap dr (P.map Prod.snd):=⟨⟨P.map Prod.fst,by have:=(o4.ext x5 fun i hi e=>by have:=(o4.lt hi).1;omega).rd;simpa[pC,List.flatMap_map] using this,by simp,fun j h1 h2=>by
   have hj:j < P.length:=by simpa using h1
   have h:=Sv P[j] (List.getElem_mem hj);have:=h.1.ext x5 fun p i hp hi e=>by have:=(h.2.2.2 i (by simp[Sl.aw,hp,hi])).1;omega
   simpa using this⟩,fun l hl=>by
    obtain⟨p,hp,rfl⟩:=List.mem_map.1 hl
    exact(Sv p hp).2.2.1⟩
  have nI:Ext No w w5:=(x3.trans x4 fun i hi e=>by omega).trans x5 fun i hi e=>by omega
  exact⟨_,Cell.af g5 rfl,_,Cell.af g5 rfl,_,Cell.af g5 rfl,_,Cell.af g5 rfl,k dr _ _ w5 hL (by simp[hP5]) (fun l hl=>by
   obtain⟨p,hp,rfl⟩:=List.mem_map.1 hl
   exact(Sv p hp).2.1) rk rfl nI⟩
theorem wC{l:List (List Int)}{i j:Nat}{x d:List Int}(h:j≠i):(l.set i x).getD j d=l.getD j d:=by
 simp only[List.getD_eq_getElem?_getD,List.getElem?_set_ne (Ne.symm h)]
theorem Yf{kq kk ml wl p3:List Int}:abV (Ch (R3 (O5 kq ml wl) kq kk p3 (oy ml wl))) kq kk ml wl p3:=by
 have hl:(List.replicate 100 bB).length=100:=List.length_replicate ..;have e:(Ch (R3 (O5 kq ml wl) kq kk p3 (oy ml wl))).now=((((((List.replicate 100 bB).set 2 (bE kq Kf (Ke ml wl))).set 1 (bE kq Hg.oq Hg.bytes)).set 3 (bE kk lab3 p3)).set 4 (bE kq lM (oy ml wl))).set 0 (bE kq ox.oq ox.bytes)).set 2 bB:=rfl;refine⟨?_,?_,?_,?_,fun n h1 h2 h3 h4=>?_⟩ <;> rw[e]
 .simp
 .simp
 .simp
 .simp
 .have n0:n.toNat≠0:=by omega
  have n1:n.toNat≠1:=by omega
  have n3:n.toNat≠3:=by omega
  have n4:n.toNat≠4:=by omega
  have hn:n.toNat < 100:=by omega
  by_cases h:n.toNat=2
  .rw[h];simp
  .rw[wC h,wC n0,wC n4,wC n3,wC n1,wC h,List.getD_eq_getElem?_getD,List.getElem?_replicate,if_pos hn];rfl
end
end Go.Proofs.YtiigcapldngijaaGreat
namespace Go.Proofs.YtiigcapldngijaaGreat
open Go.V Go.V.Pk Go.V.Dk Go.V.Rn
section
variable {w w':Wd} {T T':Nat->Nat} {v:VA} {s:SA}
def Yg(w0:Wd)(T:Nat->Nat)(u:Wd):Prop:=Ext No w0 u/\∀i,i < w0.heap.size->T i=0
theorem Yg.st{w0:Wd}(h:Yg w0 T w)(s:iX T w T' w'):Yg w0 T' w':=⟨h.1.trans s.x fun i hi hh=>hh (h.2 i hi),fun i hi=>s.z i (Nat.lt_of_lt_of_le hi h.1.size) (h.2 i hi)⟩
theorem Yg.no{w0:Wd}(h:Yg w0 T w)(x:Ext No w w'):Yg w0 T w':=⟨h.1.no x,h.2⟩
abbrev R7:List Int:=List.replicate 16 97
theorem ab6:B8 R7:=fun y hy=>by rw[(List.mem_replicate.1 hy).2];decide
theorem k8s{x:Int}(h:0<=x/\x < 256):B8 [x]:=fun y hy=>by simp only[List.mem_singleton]at hy;subst hy;exact⟨h.1,by omega⟩
theorem aeD:(ByteArray.toList ⟨(C_ [50]).toArray⟩ == ByteArray.toList ⟨#[50]⟩)=true:=by
 have e:(⟨(C_ [50]).toArray⟩ : ByteArray)=⟨#[50]⟩:=rfl;rw[e];exact beq_self_eq_true _
def aeE(w0 u:Wd)(vb:Nat)(kl:List Int):Prop:=∃T v s CT lo tb cp sb mk hs wl drs dev,gg u T v s/\v.vb=vb/\v.kl=kl/\v.op=true/\v.ts=[(1,.pointer (some ⟨tb,0,none⟩))]/\vX s ⟨3,lab3,CT,dO [107] [50]⟩/\s.R=⟨dev,1000,2,2,drs⟩/\vW u T lo tb cp sb mk hs (pq kl R7) wl ⟨3,2,1⟩ 1 RN/\Yg w0 T u
theorem aeF{w0:Wd}{vb:Nat}{kl:List Int}{K:Bool->Pw}(A:aeE w0 w vb kl)(k:∀w',Ext No w0 w'->K true w') :
  fK w fun r w1=>aR (some ⟨vb,0,none⟩) 8 1 r 0 0 0 0 0 0 ⟨none,0,0⟩ ⟨none,0,0⟩ ⟨none,0,0⟩ ⟨none,0,0⟩ false w1 fun _ r1 _ _ _ _ _ w2=>
  au w2 (.cells [.int .u8 107].toArray 5) fun b w3=>
  ∃P0:Sl,∃w4,Sem.run pz (convert 22 22 (.slice (some (Addr.mk b 0 none)) 1 1)) w3 = .ok (.slice P0.a P0.len P0.cap) w4/\
  aR (some ⟨vb,0,none⟩) 12 0 ⟨none,0,0⟩ 0 0 r1 0 0 0 ⟨none,0,0⟩ P0 ⟨none,0,0⟩ ⟨none,0,0⟩ false w4 fun r0 r1 r2 r3 r4 r5 r6 w5=>
  au w5 (.cells [.int .i64 0,.int .u64 0,.int .u64 0,.slice none 0 0,.slice none 0 0,.int .i64 0,.slice none 0 0].toArray 61) fun b_5 iD=>
  List.length (α:=Value) [.int .i64 r0,.int .u64 r1,.int .u64 r2,.slice r3.a r3.len r3.cap,.slice r4.a r4.len r4.cap,.int .i64 r5,.slice r6.a r6.len r6.cap]=7/\bO iD (Addr.mk b_5 0 none) [.int .i64 r0,.int .u64 r1,.int .u64 r2,.slice r3.a r3.len r3.cap,.slice r4.a r4.len r4.cap,.int .i64 r5,.slice r6.a r6.len r6.cap] fun py=>
  ∃zZ:Int,Cell py (Addr.mk b_5 0 none) (.int .i64 zZ)/\
  If (zZ == 0) (
  ∃oW:Sl,Cell py ((Addr.mk b_5 0 none).add 3) (.slice oW.a oW.len oW.cap)/\
  mH (Cell py) oW fun str=>
  If (ByteArray.toList str == ByteArray.toList (⟨#[50]⟩)) (
  bq (some ⟨vb,0,none⟩) py fun r_8 Hd=>
  K (r_8 == 2) Hd) (
  K false py)) (
  K false py):=by
 obtain⟨T,⟨vb',ky,kl',op,mp,al,ts⟩,s,CT,lo,tb,cp,sb,mk,hs,wl,drs,dev,V,e1,e2,e3,e4,G,eR,t,F⟩:=A;simp only at e1 e2 e3 e4;subst e1 e2 e3 e4;refine vY fun sec w1 rs od Wg x1=>?_
 have hA:=fun K=>H9 (K:=K) (c3:=0) (c4:=0) (c5:=0) (c6:=0) (c7:=0) (c8:=0) (c9:=⟨none,0,0⟩) (c10:=⟨none,0,0⟩) (c11:=⟨none,0,0⟩) (c12:=⟨none,0,0⟩) (c13:=false) (V.no x1) rfl rfl (t.no x1) rfl rs ab6 od
 refine hA _ fun T2 am w2 V2 t2 m2 tm HV=>fun b w3 n3=>?_
 obtain⟨w4,hr,hk,x4⟩:=ab5 n3;refine⟨⟨some ⟨b,0,none⟩,1,1⟩,w4,hr,?_⟩;have F4:=((F.no x1).st HV).no x4;have hG:=fun K=>ab4 (K:=K) (c1:=0) (c2:=⟨none,0,0⟩) (c3:=0) (c4:=0) (c6:=0) (c8:=0) (c9:=⟨none,0,0⟩) (c11:=⟨none,0,0⟩) (c12:=⟨none,0,0⟩) (c13:=false) (l:=lab3) (am:=am) (V2.no x4) rfl rfl (t2.no x4) (m2.ext x4 fun h=>h) G rfl rfl rfl (by decide) hk
 refine hG _ (fun i hi=>?_) (k8s (by decide)) (k8s (x:=50) (by decide)) (by decide) (by decide) (by decide) fun sl T5 w5 r5 V5 MX=>?_
 .have:b=i:=by simp[Sl.aw]at hi;exact hi
  subst this;exact V2.y.out b (by rw[n3.at_];exact Nat.le_refl _)
 have F5:=F4.st MX
 refine fx rfl rfl (a_ rfl) fun w6 g6 z6 x6=>⟨0,Cell.af g6 rfl,If.beq (fun _=>⟨sl,Cell.af g6 rfl,mH.mk (l:=[50]) (Rd.no r5 x6) (fun _ _ _ h=>Cell.mk h) ?_⟩) fun h=>absurd rfl h⟩
 rw[aeD];refine If.yes ?_;have V6:=V5.no x6;apply fT;refine fW V6.b rfl (If.no (Nn.mk ⟨s.gB,Cell.af V6.b rfl,eo V6.y.rg.r ?_⟩));rw[eR];exact k w6 (F5.no x6).1
set_option maxHeartbeats 1000000 in
theorem Qo{K:Bool->Pw}(k:∀w',Ext No w w'->K true w'):jc w K:=by
 apply GX;refine Ye fun dr key L w1 hL hln Ol hk Cy x1=>H7 (N:=100) hk (B8.vE 32) Cy hL (by omega) (fun l hl=>by rw[Ol l hl];decide) (by decide) fun T v s q kq w2 V e1 e2 e3 e4 e5 e6 e0 e7 e8 eN e9 e10 XH ew ekl ht x2=>?_
 obtain⟨l,drs,rfl⟩ : ∃l ls,L=l::ls:=by
  cases L with
  | nil=>simp at hln
  | cons l ls=>exact⟨l,ls,rfl⟩
 have l16:=Ol l List.mem_cons_self;have lB:=hL.b8 l List.mem_cons_self;obtain⟨vb,ky,kl,op,mp,al,ts⟩:=v;obtain⟨d,D,g,⟨dev,Qe,res,com,aip⟩,rb,mb,ks,lb,pB,L',pb,fr,F,kb,ps,wb,nb,pm,dm,pu,wl,dl,cm,la,fl,N⟩:=s;simp only at e1 e2 e3 e4 e6 e7 e8 eN e9 e10 XH ew ekl;simp only[RS.mk.injEq,true_and]at e5;obtain⟨e51,e52,e53,e54⟩:=e5;subst e1 e2 e3 e4 e6 e7 e8 eN e9 e10 XH ew e51 e52 e53 e54 ekl;have hp:VA.p ⟨vb,ky,List.replicate 32 0,true,JZ,al,[]⟩=some ⟨vb,0,none⟩:=rfl;rw[hp]
 have F2:Yg w T w2:=⟨x1.no x2,fun i hi=>ht i (Nat.lt_of_lt_of_le hi x1.size)⟩
 have V9:(l.take 16).length=16/\B8 (l.take 16):=⟨by simp[l16],lB.take _⟩
 refine⟨fun u=>∃T' v' s' lo,Hh u T' lo v' s' kq (l.take 16) (pq (List.replicate 32 0) R7) drs/\v'.vb=vb/\v'.kl=List.replicate 32 0/\Yg w T' u,If.bne (fun h=>absurd rfl h) fun _=>vY fun sec w3 rs od Wg x3=>?_,?_⟩
 .refine RU (V.no x3) (by rw[e0];exact jR (B8.vE 32) Sf) (by omega) rs ab6 od (fun i hi=>V.y.out i (Wg i hi)) fun T4 v4 s4 w4 A hv st=>If.bne (fun h=>absurd rfl h) fun _=>⟨T4,v4,s4,_,A,hv.1,hv.2,(F2.no x3).st st⟩
 rintro _ w5 ⟨T5,⟨vb',ky5,kl5,op5,mp5,al5,ts5⟩,s5,lo,A,ER,uS,F5⟩;simp only at ER uS;subst ER uS;obtain⟨V5,e1,e2,⟨tb,cp,sb,mk,hs,e3,t5⟩,ek,ep,eD,eL,eR,eF,ez⟩:=A;simp only at e1 e2 e3;subst e1 e2 e3;refine vY fun sec w6 rs od Wg x6=>?_
 have hA:=fun K=>H9 (K:=K) (c3:=0) (c4:=0) (c5:=0) (c6:=0) (c7:=0) (c8:=0) (c9:=⟨none,0,0⟩) (c10:=⟨none,0,0⟩) (c11:=⟨none,0,0⟩) (c12:=⟨none,0,0⟩) (c13:=false) (V5.no x6) rfl rfl (t5.no x6) rfl rs ab6 od
 refine hA _ fun T7 am w7 V7 t7 m7 tm st7=>fun b w8 n8=>?_
 have F7:=(F5.no x6).st st7;obtain⟨w9,hr1,hk9,x9⟩:=ab5 n8;refine⟨⟨some ⟨b,0,none⟩,1,1⟩,w9,hr1,fun b1 eK ke=>?_⟩;obtain⟨eM,Jo,agU,nH⟩:=ab5 ke;refine⟨⟨some ⟨b1,0,none⟩,1,1⟩,eM,Jo,fun b2 gO pK=>?_⟩;have Yh:=(x9.no nH).no pK.ext;have a8:=n8.at_;have a10:=ke.at_;have a12:=pK.at_;have z9:=x9.size;have YI:=nH.size;have VS:=pK.size;have z8:=n8.size;have Sq:=ke.size;have t0:∀i,w7.heap.size<=i->T7 i=0:=V7.y.out
 have bk:∀{c i:Nat}{n m:Nat},(⟨some ⟨c,0,none⟩,n,m⟩ : Sl).aw=some i->c=i:=fun h=>by simp[Sl.aw]at h;exact h
 have ho:Rd gO.heap ⟨some ⟨b2,0,none⟩,1,1⟩ 3 [(⟨some ⟨b,0,none⟩,1,1⟩ : Sl).v,(⟨some ⟨b1,0,none⟩,1,1⟩ : Sl).v,Value.bool false]:=(aP.new (n:=1) (sz:=3) pK rfl (a_ rfl)).rd
 have GY:B8 (kg kq 1 1 1 (l.take 16))/\(kg kq 1 1 1 (l.take 16)).length=32:=⟨FJ (by rw[e0];exact gV (B8.vE 32) Sf) V9.2,wv (by rw[e0];exact gV (B8.vE 32) Sf) V9.1⟩
 have hB:=fun K=>Vp (K:=K) (c1:=0) (c2:=⟨none,0,0⟩) (c3:=0) (c4:=0) (c6:=0) (c7:=0) (c8:=0) (c10:=⟨none,0,0⟩) (c11:=⟨none,0,0⟩) (c12:=⟨none,0,0⟩) (c13:=false) (key:=[107]) (val:=[50]) (s:=s5) (am:=am) (V7.no Yh) rfl rfl rfl ⟨ek,ep,eD,eL,eR,eF,ez⟩ (t7.no Yh) (m7.ext Yh fun h=>h) GY.2 GY.1 ho
 refine hB _ (fun i hi=>by rw[<- bk hi];exact t0 _ (by omega)) rfl (Rd.no hk9 (nH.no pK.ext)) (Rd.no agU pK.ext) (fun i hi=>by rw[<- bk hi];exact t0 _ (by omega)) (fun i hi=>by rw[<- bk hi];exact t0 _ (by omega)) (fun i hi=>by rcases hi with hi | hi <;> (have:=bk hi;omega)) (k8s (by decide)) (k8s (by decide)) (by decide) (by decide) (by decide) fun T13 s13 fV A13 agV=>?_
 have F13:=(F7.no Yh).st agV;obtain⟨V13,D13,L13,⟨Z1,R13⟩,N13⟩:=A13
 refine fx rfl rfl (a_ rfl) fun mU g15 z15 ld=>⟨fun u=>aeE w u vb' (List.replicate 32 0),⟨0,Cell.af g15 rfl,If.bne (fun h=>absurd rfl h) fun _=>?_⟩,fun _ G1 A=>aeF A k⟩
 have V15:=V13.no ld
 have hdl:(R3 (O5 kq (pq (List.replicate 32 0) R7) (kg kq 1 1 1 (l.take 16))) kq (l.take 16) (dO [107] [50]) (oy (pq (List.replicate 32 0) R7) (kg kq 1 1 1 (l.take 16)))).oM.length=100:=by
  unfold R3 O5;simp only[EM,mc,pD,List.length_set,List.length_replicate]
 have hC:=fun K=>MV (K:=K) (masks:=⟨none,0,0⟩) V15 (by rw[D13];rfl) (by rw[D13,N13];exact hdl)
 refine hC _ fun T16 d16 iB V16 agW _=>If.bne (fun h=>absurd rfl h) fun _=>?_
 have F16:=(F13.no ld).st agW;apply pc;refine fW V16.b rfl (If.no ?_);have hO:=fun K=>Yc (K:=K) (dev:=Z1) (drs:=drs) (kq:=kq) (kk:=l.take 16) (ml:=pq (List.replicate 32 0) R7) (wl:=kg kq 1 1 1 (l.take 16)) (key:=[107]) (val:=[50]) V16 N13 R13 (by show(Ch s13.D).steps < 500;rw[D13];show(0:Int)+1+1+1+1+1+1+1+1+1+1+1+1+1+1+1 < 500;decide) (by show abV (Ch s13.D) _ _ _ _ _;rw[D13];exact Yf) e0 V9 t7.mn t7.mB rfl (k8s (by decide)) (k8s (by decide)) (by decide) (by decide) (by decide)
 refine hO _ fun T17 aiq air s17 CT agX agY agZ ag0 ag2 ag3 pJ V17 aeG G17 R17 t17 ag4=>If.bne (fun h=>absurd rfl h) fun _=>?_
 exact⟨T17,_,s17,CT,agX,agY,agZ,ag0,ag2,ag3,_,drs,Z1,V17,rfl,rfl,rfl,aeG,G17,R17,t17,F16.st ag4⟩
end
end Go.Proofs.YtiigcapldngijaaGreat
namespace Go.Proofs.YtiigcapldngijaaGreat
open Go.V Go.V.Pk Go.V.Dk Go.V.Rn
section
variable {w w':Wd} {T T':Nat->Nat} {v:VA} {s:SA} {vv:Option Addr}
abbrev zeroV:List Value:=[.int .i64 0,.int .u64 0,.slice none 0 0,.slice none 0 0,.pointer none,.pointer none,.pointer none,.bool false,.pointer none,.pointer none,.int .u64 0,.int .u32 0,.int .u64 0,.int .u16 0,.int .u8 0,.int .u16 0,.int .u32 0,.map none]
def Ho(w:Wd)(vv:Option Addr):Prop:=vv=none∨∃b,vv=some ⟨b,0,none⟩/\w.heap[b]? = some (.cells zeroV.toArray 51 (0,0))
theorem Ho.no(h:Ho w vv)(x:Ext No w w'):Ho w' vv:=h.imp id fun⟨b,e,g⟩=>⟨b,e,ah g x⟩
theorem dP{K:Bool->Pw}(h:Ho w vv)(k:K true w):aE vv w K:=by
 rcases h with rfl | ⟨b,rfl,g⟩
 .exact TQ k
 .apply jP;exact If.no (Nn.mk ⟨none,Cell.af g rfl,k⟩)
theorem Vw{i:Int}{K:Sl->Int->Pw}(h:Ho w vv)(k:K ⟨none,0,0⟩ 1 w):gk vv i w K:=by apply yT;exact dP h (If.yes k)
theorem M6{K:Sl->Int->Pw}(h:Ho w vv)(k:∀w',Ext No w w'->K ⟨none,0,0⟩ 1 w'):eu vv w K:=by
 apply ux;refine fun b w1 n1 b1 w2 n2=>?_
 have a1:=n1.at_;have a2:=n2.at_;have z1:=n1.size;have z2:=n2.size;have x2:=n1.ext.no n2.ext;have g0:=ah n1.get n2.ext;refine dP (h.no x2) (If.yes (aH.mk g0 Nat.one_pos rfl fun w4 h4=>?_));have x4:Ext (·=b) w2 w4:=h4.ext;have g4:=h4.get g0;refine aH.mk (ar n2.get x4 (by omega)) Nat.one_pos rfl fun w5 h5=>?_
 have x5:Ext (·=b1) w4 w5:=h5.ext;exact⟨_,Cell.af (ar g4 x5 (by omega)) rfl,_,Cell.af (h5.get (ar n2.get x4 (by omega))) rfl,k w5 ((x2.out x4 (by omega)).out x5 (by omega))⟩
theorem ab7{c0 c1 c3 c4 c5 c6 c7 c8:Int}{c2 c9 c10 c11 c12:Sl}{c13:Bool}{K:Int->Int->Int->Sl->Sl->Int->Sl->Pw}(h:Ho w vv)(k:∀w',Ext No w w'->K 1 0 0 ⟨none,0,0⟩ ⟨none,0,0⟩ 0 ⟨none,0,0⟩ w'):aR vv c0 c1 c2 c3 c4 c5 c6 c7 c8 c9 c10 c11 c12 c13 w K:=by
 apply mo;refine fun b w1 n1 b1 w2 n2=>?_
 have a1:=n1.at_;have a2:=n2.at_;have z1:=n1.size;have z2:=n2.size;have x2:=n1.ext.no n2.ext;refine dP (h.no x2) (If.yes ⟨rfl,bO.mk n2.get (Nat.le_refl 7) (a_ rfl) fun w4 h4=>?_⟩);have g4:=h4.get n2.get;exact⟨_,Cell.af g4 rfl,_,Cell.af g4 rfl,_,Cell.af g4 rfl,⟨none,0,0⟩,Cell.af g4 rfl,⟨none,0,0⟩,Cell.af g4 rfl,_,Cell.af g4 rfl,⟨none,0,0⟩,Cell.af g4 rfl,k w4 (x2.out h4.ext (by omega))⟩
theorem Vx{K:Int->Pw}(h:Ho w vv)(k:K 1 w):dZ vv w K:=by apply pc;exact dP h (If.yes k)
theorem Pn{K:Bool->Pw}(h:Ho w vv)(k:K false w):cD vv w K:=by apply mT;exact dP h (If.no k)
theorem Vy{n:Int}{K:Int->Pw}(h:Ho w vv)(k:K 1 w):gq vv n w K:=by apply yU;exact dP h (If.yes k)
theorem Yi{n:Int}{K:Int->Pw}(h:Ho w vv)(k:K 1 w):hU vv n w K:=by apply Ay;exact dP h (If.yes k)
theorem R8{m:Sl}{K:Int->Pw}(h:Ho w vv)(k:K 1 w):cS vv m w K:=by apply nF;exact dP h (If.yes k)
theorem M7{i n:Int}{m:Sl}{K:Int->Pw}(h:Ho w vv)(k:K 1 w):ey vv i n m w K:=by apply uq;exact dP h (If.yes k)
theorem R9{K:Int->Pw}(h:Ho w vv)(k:K 0 w):cR vv w K:=by apply nG;exact dP h (If.yes k)
theorem Kn{K:Int->Pw}(h:Ho w vv)(k:K 0 w):bW vv w K:=by apply kY;exact dP h (If.yes k)
theorem Hp{K:Int->Pw}(h:Ho w vv)(k:K 0 w):bq vv w K:=by apply fT;exact dP h (If.yes k)
theorem Po{K:Int->Pw}(h:Ho w vv)(k:K 0 w):cC vv w K:=by apply mS;exact dP h (If.yes k)
theorem Yj{K:Option Addr->Pw}(h:Ho w vv)(k:K none w):hX vv w K:=by apply Az;exact dP h (If.yes k)
theorem Vz{t:Int}{K:Int->Pw}(h:Ho w vv)(k:K 0 w):gy vv t w K:=by apply yV;exact⟨fun _=>False,dP h (If.yes k),fun _ _ h=>h.elim⟩
theorem VB{t:Int}{K:Sl->Pw}(h:Ho w vv)(k:K ⟨none,0,0⟩ w):dg vv t w K:=by apply pd;exact⟨fun _=>False,dP h (If.yes k),fun _ _ h=>h.elim⟩
theorem Yk{blocks Qe:Int}{key dr:Sl}{K:Option Addr->Int->Pw}(hb:¬ (8<=blocks/\blocks<=4096/\key.len=32))(k:∀w',Ext No w w'->K none 2 w'):mN blocks Qe dr key w K:=by
 apply Cw
 refine fun b w1 n1=>⟨key,Cell.af n1.get rfl,If.bne (fun _=>k w1 n1.ext) fun h=>⟨blocks,Cell.af n1.get rfl,?_⟩⟩
 apply EV;refine⟨fun _=>False,If.dec (fun _=>If.bne (fun _=>k w1 n1.ext) fun h=>absurd h (by decide)) fun h1=>If.dec (fun _=>If.bne (fun _=>k w1 n1.ext) fun h=>absurd h (by decide)) fun h2=>hb ⟨by omega,by omega,by omega⟩,fun _ _ h=>h.elim⟩
theorem Yl{N:Nat}{q:Sl}{kq:List Int}{Qe:Int}{J:Pw}{K:Bool->Pw}(V:gg w T v s)(e2:v.op=true)(e4:s.D=pD N)(e5:s.R=⟨s.R.dev,Qe,0,0,[]⟩)(e6:s.ks=[⟨⟨0,1⟩,q,kq⟩])(k:∀w',Ext No w w'->J w') :
  cC v.p w fun r_1 w4=>
 If (r_1 != (N:Int)) (
 K false w4) (
 cD v.p w4 fun r_2 w5=>
 If r_2 (
 K false w5) (
 bq v.p w5 fun Xg w6=>
 If (Xg != 0) (
 K false w6) (
 bW v.p w6 fun r_4 w7=>
 If (r_4 != 0) (
 K false w7) (
 cR v.p w7 fun Sx w8=>
 If (Sx != 0) (
 K false w8) (
 dg v.p 0 w8 fun Xj w9=>
 If (((Xj.len:Int)) != 1) (
 K false w9) (
 J w9)))))):=by
 have eC:s.R.bg=0:=by rw[e5]
 have eR:s.R.aI=0:=by rw[e5]
 have eS:s.D.steps=0:=by rw[e4];rfl
 have eB:s.D.now.length=N:=by rw[e4];exact List.length_replicate ..
 apply mS;refine fW V.b rfl (If.no (Nn.mk ⟨s.d.p,Cell.af V.b rfl,tS V.y.dk.r (If.bne (fun h=>absurd (by rw[eB]) h) fun _=>?_)⟩));apply mT;refine fW V.b rfl (If.yes (Nn.mk ⟨v.op,Cell.af V.b rfl,?_⟩));rw[e2];refine If.no ?_;apply fT;refine fW V.b rfl (If.no (Nn.mk ⟨s.gB,Cell.af V.b rfl,eo V.y.rg.r (If.bne (fun h=>absurd eC h) fun _=>?_)⟩));apply kY;refine fW V.b rfl (If.no (Nn.mk ⟨s.gB,Cell.af V.b rfl,ly V.y.rg.r (If.bne (fun h=>absurd eR h) fun _=>?_)⟩));apply nG;refine fW V.b rfl (If.no (Nn.mk ⟨s.d.p,Cell.af V.b rfl,?_⟩));apply Ax;refine If.no (Nn.mk ⟨s.D.steps,Cell.af V.y.dk.r.aw rfl,If.bne (fun h=>absurd eS h) fun _=>?_⟩);apply pd;refine⟨fun u=>w=u,fW V.b rfl (If.no (Nn.mk ⟨v.op,Cell.af V.b rfl,by rw[e2];exact If.no rfl⟩)),?_⟩;rintro _ _ rfl;refine Nn.mk ⟨s.rB,Cell.af V.b rfl,km V.y.rn.r (by rw[e6];exact Nat.le_of_ble_eq_true rfl) (by rw[e6];exact Nat.le_refl _) fun l w1 o1 x1=>?_⟩;have hl:l.len=1:=by have:=o1.rd.len;rw[e6]at this;simpa using this.symm
 exact If.bne (fun h=>absurd (by rw[hl];rfl) h) fun _=>k w1 x1
theorem ag5{h:Array Obj}:VQ h ⟨none,0,0⟩ []:=⟨⟨[],⟨rfl,Nat.le_refl _,fun h=>absurd rfl h,fun _ h=>nomatch h⟩,rfl,fun _ h1=>absurd h1 (Nat.not_lt_zero _)⟩,fun _ h=>nomatch h⟩
theorem VC{eK:Wd}{n ua:Int}{K:Bool->Pw}(dQ:Ext No w eK)(k:∀w',Ext No w w'->K true w') :
 au eK (.cells [.int .i64 0,.int .u64 0,.slice none 0 0,.slice none 0 0,.pointer none,.pointer none,.pointer none,.bool false,.pointer none,.pointer none,.int .u64 0,.int .u32 0,.int .u64 0,.int .u16 0,.int .u8 0,.int .u16 0,.int .u32 0,.map none].toArray 51) fun b eM=>
 au eM (.cells [.pointer none,.pointer (some (Addr.mk b 0 none))].toArray 24) fun Ek gO=>
 ∃I0:Nat->Int->Pw,(∃m,I0 m 0 gO)/\∀(_:Env)(m0:Nat)(i:Int)(fV:Wd),I0 m0 i fV->
 If (decide (i < 2)) (
 Ix (some (Addr.mk Ek 0 none)) 2 i 1 fun a=>
 ∃vv:Option Addr,Cell fV a (.pointer vv)/\
 gk vv ua fV fun _r0_2 OJ lR=>
 eu vv lR fun _r0_3 JP mU=>
 aR vv 7 0 ⟨none,0,0⟩ 0 0 0 0 0 0 ⟨none,0,0⟩ ⟨none,0,0⟩ ⟨none,0,0⟩ ⟨none,0,0⟩ false mU fun QP _r1_3 _r2 _r3 _r4 _r5 _r6 iB=>
 If (QP != 1) (
 K false iB) (
 dZ vv iB fun P0 pJ=>
 If (P0 != 1) (
 K false pJ) (
 cD vv pJ fun r_8 G1=>
 If r_8 (
 K false G1) (
 gq vv n G1 fun r_9 AE=>
 If (r_9 != 1) (
 K false AE) (
 hU vv n AE fun abb HO=>
 If (abb != 1) (
 K false HO) (
 cS vv ⟨none,0,0⟩ HO fun abc yZ=>
 If (abc != 1) (
 K false yZ) (
 ey vv ua n ⟨none,0,0⟩ yZ fun abe DT=>
 If (abe != 1) (
 K false DT) (
 cR vv DT fun ag6 Jm=>
 If (ag6 != 0) (
 K false Jm) (
 bW vv Jm fun ag7 iD=>
 If (ag7 != 0) (
 K false iD) (
 bq vv iD fun ag8 py=>
 If (ag8 != 0) (
 K false py) (
 cC vv py fun ag9 Hd=>
 If (ag9 != 0) (
 K false Hd) (
 If (OJ != 1) (
 K false Hd) (
 If (JP != 1) (
 K false Hd) (
 hX vv Hd fun aha xi=>
 If (!(Option.isNone aha)) (
 K false xi) (
 gy vv 1 xi fun ahb FX=>
 If (ahb != 0) (
 K false FX) (
 dg vv 0 FX fun ahc OM=>
 If (((ahc.len:Int)) != 0) (
 K false OM) (
 Ar .i64 (i+1) fun z=>
 ∃m1,m1 < m0/\I0 m1 z OM))))))))))))))))) (
 jc  fV fun ahd CN=>
 K ahd CN):=by
 refine fun b eM DX b1 gO pK=>?_
 have lJ:=(dQ.no DX.ext).no pK.ext;have gb:=ah DX.get pK.ext;refine⟨fun m i u=>0<=i/\i<=2/\m=(2 - i).toNat/\Ext No gO u,⟨2,by decide,by decide,rfl,Ext.refl _ _⟩,?_⟩;rintro _ m i u ⟨h0,h2,rfl,xu⟩;refine If.dec (fun h=>Ix.arr (n:=2) h0 h ?_) fun h=>Qo fun w' x'=>k w' ((lJ.no xu).no x')
 have gu:=ah pK.get xu
 obtain⟨vv,hc,hx⟩ : ∃vv,Cell u ⟨b1,i.toNat * 1,none⟩ (.pointer vv)/\Ho u vv:=by
  have hi:i=0∨i=1:=by omega
  rcases hi with rfl | rfl
  .exact⟨none,Cell.af gu rfl,.inl rfl⟩
  .exact⟨some ⟨b,0,none⟩,Cell.af gu rfl,.inr ⟨b,rfl,ah gb xu⟩⟩
 refine⟨vv,hc,Vw hx (M6 hx fun w1 x1=>?_)⟩;have h1:=hx.no x1;refine ab7 h1 fun w2 x2=>If.bne (fun h=>absurd rfl h) fun _=>?_
 have h2:=h1.no x2;refine Vx h2 (If.bne (fun h=>absurd rfl h) fun _=>Pn h2 (If.no (Vy h2 (If.bne (fun h=>absurd rfl h) fun _=>Yi h2 (If.bne (fun h=>absurd rfl h) fun _=>R8 h2 (If.bne (fun h=>absurd rfl h) fun _=>M7 h2 (If.bne (fun h=>absurd rfl h) fun _=>?_)))))));refine R9 h2 (If.bne (fun h=>absurd rfl h) fun _=>Kn h2 (If.bne (fun h=>absurd rfl h) fun _=>Hp h2 (If.bne (fun h=>absurd rfl h) fun _=>Po h2 (If.bne (fun h=>absurd rfl h) fun _=>If.bne (fun h=>absurd rfl h) fun _=>If.bne (fun h=>absurd rfl h) fun _=>Yj h2 (If.no (Vz h2 (If.bne (fun h=>absurd rfl h) fun _=>VB h2 (If.bne (fun h=>absurd rfl h) fun _=>?_))))))));exact Ar.i64 (by omega) ⟨(2 - (i+1)).toNat,by omega,by omega,by omega,rfl,(xu.no x1).no x2⟩
theorem Hq{blocks n ua:Int}{key:Sl}{kl:List Int}{K:Bool->Pw}(hk:aQ w.heap key kl)(kB:B8 kl)(k:∀w',Ext No w w'->K true w'):me blocks key n ua w K:=by
 apply BO;refine If.dec (fun h=>Qo k) fun _=>?_
 by_cases hb:8<=blocks/\blocks<=4096/\key.len=32
 .obtain⟨N,rfl⟩:=Int.eq_ofNat_of_zero_le (show 0<=blocks by omega);refine H7 (N:=N) hk kB hb.2.2 ag5 (Nat.zero_le _) (fun _ h=>nomatch h) (by omega) fun T v s q kq w2 V e1 e2 e3 e4 e5 e6 e0 e7 e8 eN e9 e10 XH ew ekl ht x2=>?_
  refine⟨fun u=>Ext No w u,⟨fun t u=>false=t/\w2=u,If.dec (fun h=>absurd h (by omega)) fun _=>If.dec (fun h=>absurd h (by omega)) fun _=>⟨(by rw[hb.2.2];rfl),rfl⟩,?_⟩,fun _ eK dQ=>VC dQ k⟩;rintro _ _ _ ⟨rfl,rfl⟩;exact If.no (If.bne (fun h=>absurd rfl h) fun _=>Yl V e2 e4 e5 e6 fun w' x'=>x2.no x')
 .refine Yk hb fun w1 x1=>⟨fun u=>Ext No w u,⟨fun t u=>true=t/\w1=u,If.dec (fun _=>⟨rfl,rfl⟩) fun h1=>If.dec (fun _=>⟨rfl,rfl⟩) fun h2=>⟨(bne_iff_ne.2 fun h=>hb ⟨by omega,by omega,by omega⟩).symm,rfl⟩,?_⟩,fun _ eK dQ=>VC dQ k⟩
  rintro _ _ _ ⟨rfl,rfl⟩;exact If.yes (If.bne (fun h=>absurd rfl h) fun _=>If.no x1)
end
end Go.Proofs.YtiigcapldngijaaGreat
