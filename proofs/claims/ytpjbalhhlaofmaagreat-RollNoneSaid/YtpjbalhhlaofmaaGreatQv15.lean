/- Texts for LRollSame,LRollBytes,LRollReads,LRollNone, part 15. -/
import Derived.Lib.MakeNoZero
import Derived.Test.YtpjbalhhlaofmaaGreatQv14
set_option maxRecDepth 100000
namespace Go.V
theorem Mq(w:Wd)(o:Obj):Ext No w (w.alloc o):=by
 refine⟨rfl,rfl,rfl,?_,fun b hb _=>?_⟩
 .show w.heap.size<=(w.heap.push o).size;rw[Array.size_push];omega
 .exact gv _ _ _ hb
theorem xm{row vs:List Value}{o:Nat}(h:o+vs.length<=row.length):(setL row o vs).take (o+vs.length)=row.take o++vs/\(setL row o vs).length=row.length:=by
 rw[rZ _ _ _ h];constructor
 .rw[List.take_append_of_le_length (by rw[List.length_append,List.length_take];omega),List.take_of_length_le (by rw[List.length_append,List.length_take];omega)]
 .simp only[List.length_append,List.length_take,List.length_drop];omega
end Go.V
namespace Go.Proofs.YtpjbalhhlaofmaaGreat
open Go.V Go.V.Pk
section
variable {w:Wd} {Q:Nat->Prop}
theorem SU(n:Nat)(hn:n<=281474976710656)(w:Wd):∃cs:Array Value,Sem.run pz (callFunc 90 #[.int .i64 n]) w = .ok (.value (.slice (some ⟨w.heap.size,0,none⟩) n cs.size)) (w.drew.drew.alloc (.cells cs 5))/\n<=cs.size:=by
 obtain⟨cs,h1,h2,_⟩:=Lib.run_makeNoZero (P:=pz) w #[3] 23 5 (by kernel_rfl) n hn;refine⟨cs,?_,h2⟩;rw[run_callFunc_extern Tryz.func90 (by kernel_rfl) (by kernel_rfl) (by kernel_rfl) (e:=Extern.BytealgMakeNoZero.makeNoZero #[3] #[23]) (by kernel_rfl),h1];rfl
theorem cpy{b n bp:Nat}{row:List Value}{x:Sl}{xs:List Value}{T:TypeId}{K:Int->Pw}(hb:w.heap[b]? = some (.cells row.toArray T (0,0)))(hr:n<=row.length)(hbp:bp<=n)(hx:Rd w.heap x 1 xs)(XT:x.len<=n - bp)
  (hk:∀w',w'.heap[b]? = some (.cells (setL row bp xs).toArray T (0,0))->Ext (·=b) w w'->w'.heap.size=w.heap.size->K (x.len:Int) w'):Cut ⟨some ⟨b,0,none⟩,n,n⟩ (bp:Int) ((n:Nat):Int) ((n:Nat):Int) 1 fun d=>dR pz 23 23 d (.slice x.a x.len x.cap) K w:=by
 refine Cut.mk (by omega) (by omega) (by omega) (by simp) ?_;have e1:((n:Int) - (bp:Int)).toNat=n - bp:=by omega
 simp only[Int.toNat_natCast,e1];have ZS:xs.length=x.len:=by have:=hx.len;omega
 have full:xs.take (x.len * 1)=xs:=List.take_of_length_le (by omega);have ur:min x.len (n - bp)=x.len:=Nat.min_eq_left XT;by_cases e:n=bp
 .subst e;have Vp:xs=[]:=List.eq_nil_of_length_eq_zero (by omega);refine t_ (off:=0) (b:=b) (by unfold iQ;rw[if_pos rfl]) hb hx (by simp) fun w' h=>?_
  simp only[ur,full]at h ⊢;refine hk w' ?_ h.ext h.size;have:=h.get hb;rw[Vp]at this ⊢;simpa[setL] using this
 .refine t_ (off:=bp) (b:=b) (by unfold iQ;rw[if_neg e];simp[aw]) hb hx (by simp only;omega) fun w' h=>?_
  simp only[ur,full]at h ⊢;exact hk w' (h.get hb) h.ext h.size
abbrev cat(ps:List (Sl×List Int)):List Int:=(ps.map Prod.snd).flatten
theorem rS{ps:List (Sl×List Int)}{j:Nat}(h:j < ps.length):cat (ps.take (j+1))=cat (ps.take j)++ps[j].2:=by
 unfold cat;rw[List.take_add_one,List.getElem?_eq_getElem h];simp only[Option.toList_some,List.map_append,List.map_cons,List.map_nil,List.flatten_append,List.flatten_cons,List.flatten_nil,List.append_nil]
theorem Bw(ps:List (Sl×List Int))(j:Nat):(cat (ps.take j)).length<=(cat ps).length:=by
 have e:cat ps=cat (ps.take j)++cat (ps.drop j):=by unfold cat;rw[<- List.flatten_append,<- List.map_append,List.take_append_drop]
 rw[e,List.length_append];omega
set_option maxHeartbeats 1000000 in
theorem Bx{sl:Sl}{ps:List (Sl×List Int)}{K:Sl->Pw}(hs:Rd w.heap sl 1 (ps.map fun p=>p.1.v))(hp:∀p∈ps,b_ w.heap p.1 p.2)(hb:(cat ps).length<=1099511627776)(hn:ps.length<=4294967296)
  (k:∀s w',b_ w'.heap s (cat ps)->(2<=ps.length->s.cap=s.len)->(∀b,s.aj=some b->w.heap.size<=b)->Ext No w w'->K s w'):d_ sl ⟨none,0,0⟩ w K:=by
 apply ET;have hl:sl.len=ps.length:=by have:=hs.len;simp at this;exact this.symm
 have pick:∀{w':Wd}{j:Nat}(h:j < ps.length){K':Addr->Prop},Ext No w w'->(∀a,Cell w' a (.slice ps[j].1.a ps[j].1.len ps[j].1.cap)->K' a)->Ix sl.a sl.len ((j:Nat):Int) 1 K':=fun {w' j} h {K'} x k'=>by
  refine Ix.cell (hs.no x) (by omega) (by omega) fun bb o v _ hv hc=>?_
  rw[Int.toNat_natCast,List.getElem?_map,List.getElem?_eq_getElem h]at hv;simp only[Option.map_some,Option.some.injEq]at hv;subst hv;exact k' _ hc
 refine If.beq (fun h0=>?_) fun h0=>If.beq (fun h1=>?_) fun h1=>?_
 .have Lw:ps=[]:=List.eq_nil_of_length_eq_zero (by omega);subst Lw;refine af.mk fun b w1 n1=>?_
  have o:=bf.new (sz:=1) (n:=0) n1 rfl (by simp);refine k _ w1 (by simpa[b_,cat] using o.rd) (fun h=>absurd h (by simp)) (fun q hq=>(o.lt hq).1) n1.ext
 .have vJ:ps.length=1:=by omega
  have XU:0 < ps.length:=by omega
  refine pick (j:=0) XU (Ext.refl _ _) fun a hc=>⟨_,hc,?_⟩
  have hr:=hp _ (List.getElem_mem XU);have hlen:=b_.len hr
  have e:cat ps=ps[0].2:=by
   have h3:=rS XU;rw[show ps.take (0+1)=ps from List.take_of_length_le (by omega)]at h3;simpa[cat] using h3
  rw[e]at hb k;exact c_ (bf.nil w.heap w.heap.size 5 1) (Nat.le_refl _) hr.src (by simp only;omega) fun s' w' o' _ x' _=>k s' w' (by simpa[b_] using o'.rd) (fun h=>by omega) (fun q hq=>(o'.lt hq).1) (x'.mono fun q _ h=>by simp[Sl.aj]at h)
 .have h2:2<=ps.length:=by omega
  refine⟨fun n w'=>n=0/\w'=w,If.dec (fun h=>absurd h (by decide)) fun _=>⟨rfl,rfl⟩,?_⟩;rintro _ n w4 ⟨rfl,rfl⟩;refine⟨fun m n t w'=>w'=w4/\∃j:Nat,t=j/\j<=ps.length/\m=ps.length - j/\n=((cat (ps.take j)).length:Int),⟨_,rfl,0,rfl,Nat.zero_le _,rfl,by simp[cat]⟩,?_⟩;rintro _ m0 n t w5 ⟨rfl,j,rfl,hj,rfl,rfl⟩;have hle:=Bw ps j;refine If.dec (fun h=>?_) fun h=>?_
  .have mH:j < ps.length:=by omega
   refine pick mH (Ext.refl _ _) fun a hc=>⟨_,hc,?_⟩
   have hlen:=b_.len (hp _ (List.getElem_mem mH));have h3:=Bw ps (j+1);rw[rS mH,List.length_append]at h3;refine Ar.i64 (by omega) (If.dec (fun h=>by omega) fun _=>Ar.i64 (by omega) (Ar.i64 (by omega) ⟨_,by omega,rfl,j+1,by omega,by omega,rfl,?_⟩));rw[rS mH,List.length_append];omega
  .have x_:j=ps.length:=by omega
   rw[x_,List.take_length];obtain⟨cs,hr,Lq⟩:=SU (cat ps).length (by omega) w5
   let q:=w5.heap.size
   let w6:=(World.drew (World.drew w5)).alloc (.cells cs 5)
   have x6:Ext No w5 w6:=by
    have e:Ext No (World.drew (World.drew w5)) w6:=Mq _ _
    have e0:Ext No w5 (World.drew (World.drew w5)):=⟨rfl,rfl,rfl,Nat.le_refl _,fun _ _ _=>rfl⟩
    exact e0.no e
   have g6:w6.heap[q]? = some (.cells cs.toList.toArray 5 (0,0)):=by
    have:w6.heap[q]? = some (.cells cs 5 (0,0)):=by show(w5.heap.push _)[w5.heap.size]? = _;simp
    simpa using this
   have z6:q < w6.heap.size:=by show w5.heap.size < (w5.heap.push _).size;rw[Array.size_push];omega
   refine⟨⟨some ⟨q,0,none⟩,(cat ps).length,cs.size⟩,w6,hr,?_⟩;refine Cut.mk (Int.le_refl _) (by omega) (Int.le_refl _) (by simp only;omega) ?_
   have ec:iQ (some ⟨q,0,none⟩) (cat ps).length 0 1=some (⟨q,0,none⟩ : Addr):=by
    unfold iQ;split
    .rfl
    .simp[aw]
   have e0:(((cat ps).length:Int) - 0).toNat=(cat ps).length:=by omega
   simp only[Int.toNat_natCast,Int.toNat_zero,ec,e0]
   refine pick (j:=0) (by omega) x6 fun a hc=>⟨_,hc,?_⟩
   have XU:0 < ps.length:=by omega
   have ZT:=hp _ (List.getElem_mem XU);have ZU:=b_.len ZT
   have hc1:cat (ps.take 1)=ps[0].2:=by
    have:=rS XU;simpa[cat] using this
   have YQ:=Bw ps 1;rw[hc1]at YQ;have qE:cs.toList.length=cs.size:=by simp
   refine t_ (off:=0) (b:=q) rfl g6 (Rd.no ZT x6) (by simp only;omega) fun w7 h7=>?_
   have ur:min ps[0].1.len (cat ps).length=ps[0].1.len:=Nat.min_eq_left (by omega);have ZV:(ps[0].2.map (Value.int .u8)).take (ps[0].1.len * 1)=ps[0].2.map (Value.int .u8):=List.take_of_length_le (by simp;omega);simp only[ur,ZV]at h7 ⊢;have g7:=h7.get g6;have x7:Ext (·=q) w6 w7:=h7.ext;have s7:=xm (row:=cs.toList) (vs:=ps[0].2.map (Value.int .u8)) (o:=0) (by simp;omega);have DM:Ext No w5 w7:=x6.trans x7 fun i hi h=>by have h':i=w5.heap.size:=h;omega
   have aeP:=hs.cap;refine Cut.mk (by decide) (by omega) (by omega) (Int.le_refl _) ?_
   -- the rest of the pieces
   have hsr:Rd w5.heap ⟨iQ sl.a sl.cap 1 1,sl.len - 1,sl.cap - 1⟩ 1 ((ps.map fun p=>p.1.v).drop 1):=by
    have iz:=hs.cap;have:=hs.cut (lo:=1) (hi:=sl.len) (mx:=sl.cap) (by omega) (Nat.le_refl _) iz;have e2:(((ps.map fun p=>p.1.v).drop (1 * 1)).take ((sl.len - 1) * 1))=(ps.map fun p=>p.1.v).drop 1:=List.take_of_length_le (by simp;omega);rw[e2]at this;exact this
   have e1:((sl.len:Int) - 1).toNat=sl.len - 1:=by omega
   have e2:((sl.cap:Int) - 1).toNat=sl.cap - 1:=by have:=hs.cap;omega
   have e3:(1:Int).toNat=1:=rfl;simp only[Int.toNat_natCast,e1,e3]
   refine⟨fun m bp t w'=>∃(j:Nat) (row:List Value),t=j/\j+1<=ps.length/\m=ps.length - j/\bp=((cat (ps.take (j+1))).length:Int)/\w'.heap[q]? = some (.cells row.toArray 5 (0,0))/\row.length=cs.size/\row.take (cat (ps.take (j+1))).length=(cat (ps.take (j+1))).map (Value.int .u8)/\Ext No w5 w'/\q < w'.heap.size,
    ⟨_,0,_,rfl,by omega,rfl,?_,g7,by rw[s7.2,qE],?_,DM,by have:=x7.size;omega⟩,?_⟩
   .show _=((cat (ps.take (0+1))).length:Int);rw[Nat.zero_add,hc1,ZU]
   .show(setL _ _ _).take (cat (ps.take (0+1))).length=(cat (ps.take (0+1))).map _;rw[Nat.zero_add,hc1];have:=s7.1;simpa using this
   rintro _ m1 bp t w8 ⟨j,row,rfl,hj,rfl,rfl,g8,DO,V2,x8,z8⟩;refine If.dec (fun h=>?_) fun h=>?_
   .have mH:j+1 < ps.length:=by have h':(j:Int) < ((sl.len - 1:Nat):Int):=h;omega
    refine Ix.cell (hsr.no x8) (by omega) h fun bb o v _ hv hc=>?_
    rw[Int.toNat_natCast,List.getElem?_drop,Nat.add_comm 1 j,List.getElem?_map,List.getElem?_eq_getElem mH]at hv;simp only[Option.map_some,Option.some.injEq]at hv;subst hv;have Cm:=hp _ (List.getElem_mem mH);have hlen:=b_.len Cm;have YV:=Bw ps (j+2);have V3:=rS mH;rw[V3,List.length_append]at YV;have afh:=Bw ps (j+1);refine⟨_,hc,cpy g8 (by omega) (by omega) (x:=⟨none,0,0⟩) (xs:=[]) (Rd.nil _ _) (Nat.zero_le _) fun w9 g9 x9 z9=>Ar.i64 (by simp only;omega) ?_⟩;have es:setL row (cat (ps.take (j+1))).length []=row:=by simp[setL]
    rw[es]at g9;have x59:Ext No w5 w9:=x8.trans x9 fun i hi h=>by have h':i=w5.heap.size:=h;omega
    have ez:(((cat (ps.take (j+1))).length:Int)+((0:Nat):Int))=((cat (ps.take (j+1))).length:Int):=by omega
    simp only[ez];refine cpy g9 (by omega) (by omega) (Cm.no x59) (by omega) fun dV nz dW Kv=>Ar.i64 (by omega) (Ar.i64 (by omega) ⟨_,by omega,j+1,_,by omega,by omega,rfl,?_,nz,?_,?_,x59.trans dW fun i hi h=>by have h':i=w5.heap.size:=h;omega,by omega⟩)
    .rw[V3,List.length_append];omega
    .rw[(xm (by rw[List.length_map];omega)).2,DO]
    .have:=(xm (row:=row) (vs:=ps[j+1].2.map (Value.int .u8)) (o:=(cat (ps.take (j+1))).length) (by rw[List.length_map];omega)).1;rw[List.length_map]at this;rw[V3,List.length_append,this,V2,List.map_append]
   .have x_:j+1=ps.length:=by have h':¬ (j:Int) < ((sl.len - 1:Nat):Int):=h;omega
    rw[x_,List.take_length]at V2
    have own:bf w8.heap w5.heap.size 5 1 ⟨some ⟨q,0,none⟩,(cat ps).length,cs.size⟩ ((cat ps).map (Value.int .u8)):=by
     have e:(cat ps).map (Value.int .u8)++row.drop (cat ps).length=row:=by
      conv=>rhs;rw[<- List.take_append_drop (cat ps).length row,V2]
     refine⟨by rw[List.length_map,Nat.mul_one],.inr ⟨q,row.drop (cat ps).length,rfl,Nat.le_refl _,?_,?_,Lq⟩,Di⟩
     .rw[e];exact g8
     .rw[e,DO,Nat.mul_one]
    refine k _ w8 ?_ (fun _=>rfl) (fun b hb=>by simp[Sl.aj]at hb;show w5.heap.size<=b;omega) x8;exact⟨own.rd.len,Nat.le_refl _,own.rd.at_,own.rd.cells⟩
end
end Go.Proofs.YtpjbalhhlaofmaaGreat
namespace Go.V
open Go.V.Pk
theorem xn(l:List Int)(h:l.length<=1000000000):(textB l).length<=l.length+10:=by
 unfold textB;rw[List.length_append];have:=aI (n:=l.length) (by omega);omega
abbrev ij(l:List Int):List Int:=(l.map fun n=>numB n.toNat).flatten
end Go.V
namespace Go.Proofs.YtpjbalhhlaofmaaGreat
open Go.V Go.V.Pk
section
variable {w:Wd} {Q:Nat->Prop}
theorem CM{s x:Sl}{cs xs:List Int}{K:Sl->Pw}(rd:b_ w.heap s cs)(rx:b_ w.heap x xs)(iz:s.cap < s.len+x.len)(hb:s.len+x.len<=1099511627776)(hk:∀s' w',aK w'.heap w.heap.size s' (cs++xs)->Ext No w w'->K s' w') :
  bg pz 23 23 s (.slice x.a x.len x.cap) K w:=
 R_ (P:=pz) (e:=5) (d:= .slice 5) (ie:=Tryz.t5) (z:=Tryz.t5.zero.getD .nilFunc) (by kernel_rfl) (by kernel_rfl) (fun k h=>by cases h) (by kernel_rfl) (by kernel_rfl) (by kernel_rfl) (by kernel_rfl) (by decide) rd rx.src iz (by show(s.len+x.len) * 1<=_;omega)
  fun s' w' o _ x'=>hk s' w' (by show bf _ _ 5 1 s' ((cs++xs).map _);rw[List.map_append];exact o) x'
abbrev V4(ps:List (Sl×List Int)):List Value:=ps.map fun p=>p.1.v
theorem KT{w1:Wd}{base b:Nat}{out r:Sl}{ps:List (Sl×List Int)}{m:List Int}{K:Sl->Pw}(o:bf w.heap base 23 1 out (V4 ps))(hp:∀p∈ps,pe (fun q=>base<=q/\out.aj≠some q) w.heap p.1 p.2)
  (hr:pe (fun q=>base<=q/\out.aj≠some q) w.heap r m) (n:Da w (.cells [.slice r.a r.len r.cap].toArray 23) b w1) (hb:base<=w.heap.size) (hl:ps.length<=1000)
  (k:∀s' w',bf w'.heap base 23 1 s' (V4 (ps++[(r,m)]))->(∀p∈ps++[(r,m)],pe (fun q=>base<=q/\s'.aj≠some q) w'.heap p.1 p.2)->Ext (fun q=>out.aj=some q) w w'->K s' w'):bg pz 111 111 out (.slice (some (Addr.mk b 0 none)) 1 1) K w1:=by
 have x:=n.ext;have z:=n.size;have hol:out.len=ps.length:=by have:=o.rd.len;simp at this;exact this.symm
 have src:Src pz w1 (.slice (some (Addr.mk b 0 none)) 1 1) 1 1 [r.v]:=(bf.new (sz:=1) (n:=1) n rfl (by simp[aJ])).rd.src;refine pK (o.no x) (by omega) src (by rw[hol];omega) fun s' w' o' _ x' oQ=>?_
 have x2:Ext (fun q=>out.aj=some q) w w':=x.aE.trans x' fun _ _ h=>h
 refine k s' w' (by unfold V4;rw[List.map_append];exact o') (fun p n_=>?_) x2
 have key:∀{t l},pe (fun q=>base<=q/\out.aj≠some q) w.heap t l->pe (fun q=>base<=q/\s'.aj≠some q) w'.heap t l:=fun {t l} h=>by
  refine((h.lt).ext x2 fun q hq h=>hq.1.2 h).mono fun q hq=>⟨hq.1.1,fun h=>?_⟩
  rcases oQ with h1 | ⟨b',h1,h2⟩
  .exact hq.1.2 (h1 ▸ h)
  .rw[h1]at h;cases h;have:=hq.2;omega
 rcases List.mem_append.1 n_ with h | h
 .exact key (hp p h)
 .rw[List.mem_singleton]at h;subst h;exact key hr
theorem FB{s:Sl}{l:List Int}{K:Sl->Pw}(rl:Rd w.heap s 1 (l.map (Value.int .u64)))(hr:∀x∈l,0<=x/\x<=18446744073709551615)(hl:l.length<=1000)
  (k:∀o ps w',bf w'.heap w.heap.size 23 1 o (V4 ps)->(∀p∈ps,pe (fun q=>w.heap.size<=q/\o.aj≠some q) w'.heap p.1 p.2)->ps.map Prod.snd=l.map (fun n=>numB n.toNat)->Ext No w w'->K o w'):dU s (.func (.func 55) #[] #[]) w K:=by
 apply mX;have LN:s.len=l.length:=by have:=rl.len;simp at this;exact this.symm
 refine⟨fun m out t w'=>∃(j:Nat) (ps:List (Sl×List Int)),t=j/\j<=l.length/\m=l.length - j/\bf w'.heap w.heap.size 23 1 out (V4 ps)/\(∀p∈ps,pe (fun q=>w.heap.size<=q/\out.aj≠some q) w'.heap p.1 p.2)/\ps.map Prod.snd=(l.take j).map (fun n=>numB n.toNat)/\Ext No w w',
  ⟨_,0,[],rfl,Nat.zero_le _,rfl,bf.nil _ _ _ _,by simp,by simp,Ext.refl _ _⟩,?_⟩
 rintro _ m0 out _ w1 ⟨j,ps,rfl,hj,rfl,o1,hp,xT,x1⟩;have hpn:ps.length=j:=by have:=congrArg List.length xT;simp at this;omega
 refine If.dec (fun h=>?_) fun h=>?_
 .have eO:j < l.length:=by omega
  refine Ix.cell (rl.no x1) (by omega) h fun b o v _ hv hc=>?_
  rw[Int.toNat_natCast,List.getElem?_map,List.getElem?_eq_getElem eO]at hv;simp only[Option.map_some,Option.some.injEq]at hv;subst hv;have hx:=hr _ (List.getElem_mem eO);have z1:=x1.size;refine⟨_,hc,Jd (Hj hx.1 hx.2 fun r w2 o2 x2=>af.mk fun b1 w3 n3=>?_)⟩;have z2:=x2.size;refine KT (m:=numB l[j].toNat) (o1.no x2) (fun p n_=>(hp p n_).no x2) (.own o2 fun q h1 _=>⟨by omega,fun h=>by have:=(o1.lt h).2;omega⟩) n3 (by omega) (by omega) fun s' w4 o4 hp4 x4=>Ar.i64 (by omega) ⟨_,by omega,j+1,_,by omega,by omega,rfl,o4,hp4,?_,?_⟩
  .rw[dO eO,List.map_append,List.map_append,xT];rfl
  .exact(x1.no x2).trans x4 fun q hq h=>by have:=(o1.lt h).1;omega
 .have x_:j=l.length:=by omega
  rw[x_,List.take_length]at xT;exact k out ps w1 o1 hp xT x1
theorem pU{s:Sl}{l:List Int}{K:Sl->Pw}(rl:Rd w.heap s 1 (l.map (Value.int .u64)))(hr:∀x∈l,0<=x/\x<=18446744073709551615)(hl:l.length<=1000)(h2:2<=l.length)
  (k:∀t w',b_ w'.heap t (ij l)->t.cap=t.len->Ext No w w'->K t w'):my s w K:=by
 apply Az;refine FB rl hr hl fun o ps w1 o1 hp xT x1=>?_
 have hpn:ps.length=l.length:=by have:=congrArg List.length xT;simpa using this
 have Mr:cat ps=ij l:=by unfold cat;rw[xT]
 have hlen:∀(l:List Int),(∀x∈l,0<=x/\x<=18446744073709551615)->(ij l).length<=l.length * 10:=fun l=>by
  induction l with
  | nil=>simp
  | cons x l ih=>
   intro h;have h1:=ih fun y hy=>h y (List.mem_cons_of_mem _ hy)
   have h3:=h x List.mem_cons_self;have h4:=aI (n:=x.toNat) (by omega);simp only[ij,List.map_cons,List.flatten_cons,List.length_append,List.length_cons]at h1 ⊢;omega
 have hb:=hlen l hr;refine Bx o1.rd (fun p n_=>(hp p n_).rd) (by rw[Mr];omega) (by omega) fun t w2 r2 iz _ x2=>k t w2 (by rw[<- Mr];exact r2) (iz (by omega)) (x1.no x2)
theorem Ms{h:bX}(r:j_ h)(hw:h.wr.length<=1000):(cI h).length<=h.wr.length+30:=by
 have h1:=aI (n:=h.gen.toNat) (by have:=r.gen;omega);have h2:=aI (n:=h.cm.toNat) (by have:=r.cm;omega);have h3:=xn h.wr (by omega);unfold cI;simp only[List.length_append];omega
theorem By{v:ej}{x:bX}{cb:Nat}{K:Sl->Pw}(r:dF Q w.heap v x)(rg:j_ x)(hw:x.wr.length<=1000)(gc:w.heap[cb]? = some (.cells [.func (.func 52) #[] #[]].toArray 114 (0,0)))
  (k:∀t w',aK w'.heap w.heap.size t (cI x)->Ext No w w'->K t w'):mz v.gen v.cm v.wr ⟨cb,0,none⟩ w K:=by
 apply Ax;refine af.mk fun b w1 n1=>?_
 have x1:=n1.ext;have g1:w1.heap[b]? = some (.cells v.cells.toArray 76 (0,0)):=n1.get;have PL:=ad gc x1;have e1:=r.gen;have e2:=r.cm;have hg:=rg.gen;have hc:=rg.cm;refine⟨Ext No w1,(Ext.refl _ _).drew,.func (.func 52) #[] #[],eo PL rfl,v.gen,eo g1 rfl,Ar.u64 (by omega) ⟨v.cm,aq g1 rfl,v.wr,aq g1 rfl,af.mk fun b2 w2 n2=>⟨(Ext.refl No w1).drew.no n2.ext,?_⟩⟩⟩;have rl:Rd w2.heap ⟨some ⟨b2,0,none⟩,2,2⟩ 1 ([v.gen,v.cm].map (Value.int .u64)):=(bf.new (sz:=1) (n:=2) n2 rfl (by simp[aJ])).rd;have fJ:Ext No w1 w2:=(Ext.refl No w1).drew.no n2.ext;refine mD (l:=⟨some ⟨b2,0,none⟩,2,2⟩) (pU rl (by simp;omega) (by simp) (by simp) fun t w3 r3 iz x3=>⟨fJ.no x3,?_⟩);have ew:=fJ.no x3;have YR:=b_.len r.wr.rd
 refine Dm ((r.wr.no x1).no ew).rd (by omega) fun t2 w4 o4 x4=>⟨ew.no x4,?_⟩
 have l4:=aK.len o4;have l3:=b_.len r3
 have n3:(ij [v.gen,v.cm]).length<=20:=by
  have h1:=aI (n:=v.gen.toNat) (by omega);have h2:=aI (n:=v.cm.toNat) (by omega);simp[ij];omega
 have n4:=aI (n:=x.wr.length) (by omega);have bA:0 < (numB x.wr.length).length:=List.length_pos_iff.2 (Sc _);rw[List.length_append]at l4
 refine CM (r3.no x4) o4.rd (by omega) (by omega) fun s' w5 o5 x5=>⟨(ew.no x4).no x5,k s' w5 ?_ (((x1.no ew).no x4).no x5)⟩
 have e:ij [v.gen,v.cm]++(numB x.wr.length++x.wr)=cI x:=by simp[ij,cI,textB,e1,e2]
 rw[e]at o5;have z:=((x1.no ew).no x4).size;exact o5.mono z
theorem FC{s:Sl}{l:List bX}{cb:Nat}{K:Sl->Pw}(rl:cW Q w.heap s l)(hr:∀x∈l,j_ x/\x.wr.length<=1000)(hl:l.length<=1000)(gc:w.heap[cb]? = some (.cells [.func (.func 52) #[] #[]].toArray 114 (0,0)))
  (k:∀o ps w',bf w'.heap w.heap.size 23 1 o (V4 ps)->(∀p∈ps,pe (fun q=>w.heap.size<=q/\o.aj≠some q) w'.heap p.1 p.2)->ps.map Prod.snd=l.map cI->Ext No w w'->K o w'):bj s (.func (.func 59) #[] #[.pointer (some ⟨cb,0,none⟩)]) w K:=by
 apply lT;have LN:=rl.len
 refine⟨fun m out t w'=>∃(j:Nat) (ps:List (Sl×List Int)),t=j/\j<=l.length/\m=l.length - j/\bf w'.heap w.heap.size 23 1 out (V4 ps)/\(∀p∈ps,pe (fun q=>w.heap.size<=q/\out.aj≠some q) w'.heap p.1 p.2)/\ps.map Prod.snd=(l.take j).map cI/\Ext No w w',
  ⟨_,0,[],rfl,Nat.zero_le _,rfl,bf.nil _ _ _ _,by simp,by simp,Ext.refl _ _⟩,?_⟩
 rintro _ m0 out _ w1 ⟨j,ps,rfl,hj,rfl,o1,hp,xT,x1⟩;have hpn:ps.length=j:=by have:=congrArg List.length xT;simp at this;omega
 refine If.dec (fun h=>?_) fun h=>?_
 .refine rC (rl.no x1) (by omega) h fun b o v hi Cm hc=>?_
  have eO:j < l.length:=hi;have el:l[((j:Nat):Int).toNat]'hi=l[j]:=rfl;rw[el]at Cm;have hx:=hr _ (List.getElem_mem eO);have z1:=x1.size;refine⟨_,hc 0 _ rfl,_,hc 1 _ rfl,_,hc 2 _ rfl,af.mk fun b1 w2 n2=>⟨rfl,gT.all n2.get rfl v.one fun w3 g3 x3 _=>?_⟩⟩;have Iz:Ext (·=b1) w2 w3:=x3;have jk:=n2.at_;have z2:=n2.size;have z3:=Iz.size;have ew:Ext No w1 w3:=n2.ext.trans Iz fun q hq h=>by omega
  have ib:=x1.no ew;refine⟨_,Cell.ah g3 rfl,_,Cell.ah g3 rfl,_,Cell.ah g3 rfl,Ay (By (Cm.no ew) hx.1 hx.2 (ad gc ib) fun r w4 o4 x4=>af.mk fun b2 w5 n5=>?_)⟩;have z4:=x4.size;have fI:=ew.no x4;refine KT (m:=cI l[j]) (o1.no fI) (fun p n_=>(hp p n_).no fI) (.own o4 fun q h1 _=>⟨by omega,fun h=>by have:=(o1.lt h).2;omega⟩) n5 (by omega) (by omega) fun s' w6 o6 hp6 x6=>Ar.i64 (by omega) ⟨_,by omega,j+1,_,by omega,by omega,rfl,o6,hp6,?_,?_⟩
  .rw[dO eO,List.map_append,List.map_append,xT];rfl
  .exact(x1.no fI).trans x6 fun q hq h=>by have:=(o1.lt h).1;omega
 .have x_:j=l.length:=by omega
  rw[x_,List.take_length]at xT;exact k out ps w1 o1 hp xT x1
end
end Go.Proofs.YtpjbalhhlaofmaaGreat
namespace Go.V
open Go.V.Pk
theorem PM(x:aO):eH x=ij [x.ay,x.au]++(textB x.mark++(ij [x.root.p,x.root.c,x.root.g,x.lev,((x.held.length:Nat):Int)]++(x.held.map cI).flatten)):=by
 simp[eH,ij,List.flatMap]
end Go.V
namespace Go.Proofs.YtpjbalhhlaofmaaGreat
open Go.V Go.V.Pk
section
variable {w:Wd} {Q:Nat->Prop}
theorem JK{w0:Wd}{vh rA rB:Sl}{x:aO}{cb b4:Nat}{A B:List Int}{K:Sl->Int->Pw}(x0:Ext No w0 w)(gc:w.heap[cb]? = some (.cells [.func (.func 52) #[] #[]].toArray 114 (0,0)))(rh:cW Q w.heap vh x.held)(rg:vC x)(hh:∀h∈x.held,h.wr.length<=1000)(hl:x.held.length<=2)
  (ra:b_ w.heap rA A) (rb:b_ w.heap rB B) (hA:A.length<=1000) (hB:B.length<=1000) (g4:w.heap[b4]? = some (.cells ([x.root.p,x.root.c,x.root.g,x.lev,((x.held.length:Nat):Int)].map (Value.int .u64)).toArray 25 (0,0)))
  (k:∀t w',aK w'.heap w.heap.size t (A++(B++(ij [x.root.p,x.root.c,x.root.g,x.lev,((x.held.length:Nat):Int)]++(x.held.map cI).flatten)))->Ext No w0 w'->K t 0 w') :
  aD pz false (.func (.func 52) #[] #[]) [.slice (some (Addr.mk b4 0 none)) 5 5] [.one (.sl)] (fun LV di=>
   Ext No w0 di/\
   bj vh (.func (.func 59) #[] #[.pointer (some (Addr.mk cb 0 none))]) di fun T0 eN=>
   Ext No w0 eN/\
   d_ T0 ⟨none,0,0⟩ eN fun IA cO=>
   Ext No w0 cO/\
   af cO (.cells [.slice rA.a rA.len rA.cap,.slice rB.a rB.len rB.cap,.slice LV.a LV.len LV.cap,.slice IA.a IA.len IA.cap].toArray 23) fun T_ cM=>
   Ext No w0 cM/\
   aT ⟨some (Addr.mk T_ 0 none),4,4⟩ cM fun Ru dY=>
   Ext No w0 dY/\
   K Ru 0 dY) cc w:=by
 have ok:=rg.root;have lv:=rg.lev
 have rl:Rd w.heap ⟨some ⟨b4,0,none⟩,5,5⟩ 1 ([x.root.p,x.root.c,x.root.g,x.lev,((x.held.length:Nat):Int)].map (Value.int .u64)):=
  (⟨rfl,.inr ⟨b4,[],rfl,Nat.zero_le _,by simpa using g4,rfl,Nat.le_refl _⟩,by simp[aJ]⟩ : bf w.heap 0 25 1 ⟨some ⟨b4,0,none⟩,5,5⟩ _).rd
 have gC:∀y∈[x.root.p,x.root.c,x.root.g,x.lev,((x.held.length:Nat):Int)],0<=y/\y<=18446744073709551615:=by
  intro y hy;simp only[List.mem_cons,List.not_mem_nil,or_false]at hy;obtain⟨h1,h2,h3⟩:=ok;rcases hy with rfl | rfl | rfl | rfl | rfl <;> omega
 refine mD (l:=⟨some ⟨b4,0,none⟩,5,5⟩) (pU rl gC (by simp) (by simp) fun t w1 r1 _ x1=>⟨x0.no x1,?_⟩)
 refine FC (rh.no x1) (fun h hm=>⟨rg.held h hm,hh h hm⟩) (by omega) (ad gc x1) fun o ps w2 o2 hp xT x2=>⟨(x0.no x1).no x2,?_⟩
 have hpn:ps.length=x.held.length:=by have:=congrArg List.length xT;simpa using this
 have Mr:cat ps=(x.held.map cI).flatten:=by unfold cat;rw[xT]
 have qE:∀(l:List bX),(∀h∈l,j_ h/\h.wr.length<=1000)->((l.map cI).flatten).length<=l.length * 1030:=fun l=>by
  induction l with
  | nil=>simp
  | cons h l ih=>
   intro hm;have h1:=ih fun y hy=>hm y (List.mem_cons_of_mem _ hy)
   have h2:=hm h List.mem_cons_self;have h3:=Ms h2.1 h2.2;simp only[List.map_cons,List.flatten_cons,List.length_append,List.length_cons]at h1 ⊢;omega
 have hc:=qE x.held fun h hm=>⟨rg.held h hm,hh h hm⟩
 refine Bx o2.rd (fun p n_=>(hp p n_).rd) (by rw[Mr];omega) (by omega) fun t2 w3 r3 _ _ x3=>⟨((x0.no x1).no x2).no x3,af.mk fun b5 w4 n4=>⟨(((x0.no x1).no x2).no x3).no n4.ext,?_⟩⟩
 have fI:=((x1.no x2).no x3).no n4.ext;have qm:=(x2.no x3).no n4.ext;have n5:=aI (n:=x.root.p.toNat) (by have:=ok.1;omega)
 have hn:(ij [x.root.p,x.root.c,x.root.g,x.lev,((x.held.length:Nat):Int)]).length<=50:=by
  have h1:=aI (n:=x.root.p.toNat) (by have:=ok.1;omega);have h2:=aI (n:=x.root.c.toNat) (by have:=ok.2.1;omega);have h3:=aI (n:=x.root.g.toNat) (by have:=ok.2.2;omega);have h4:=aI (n:=x.lev.toNat) (by omega);have h5:=aI (n:=((x.held.length:Nat):Int).toNat) (by omega);simp only[ij,List.map_cons,List.map_nil,List.flatten_cons,List.flatten_nil,List.length_append,List.length_nil];omega
 let P:List (Sl×List Int):=[(rA,A),(rB,B),(t,ij [x.root.p,x.root.c,x.root.g,x.lev,((x.held.length:Nat):Int)]),(t2,cat ps)]
 have rP:Rd w4.heap ⟨some ⟨b5,0,none⟩,4,4⟩ 1 (P.map fun p=>p.1.v):=(bf.new (sz:=1) (n:=4) n4 rfl (by simp[aJ])).rd
 refine q_ (ps:=P) rP (fun p n_=>?_) ?_ (by simp[P]) fun s w5 o5 x5=>⟨(((((x0.no x1).no x2).no x3).no n4.ext)).no x5,k s w5 ?_ ((((((x0.no x1).no x2).no x3).no n4.ext)).no x5)⟩
 .simp only[P,List.mem_cons,List.not_mem_nil,or_false]at n_;rcases n_ with rfl | rfl | rfl | rfl
  .exact ra.no fI
  .exact rb.no fI
  .exact r1.no qm
  .exact r3.no n4.ext
 .have e:((P.map Prod.snd).flatten).length=A.length+(B.length+((ij [x.root.p,x.root.c,x.root.g,x.lev,((x.held.length:Nat):Int)]).length+(cat ps).length)):=by
   simp only[P,List.map_cons,List.map_nil,List.flatten_cons,List.flatten_nil,List.length_append,List.length_nil,Nat.add_zero]
  rw[e,Mr];omega
 .have e:(P.map Prod.snd).flatten=A++(B++(ij [x.root.p,x.root.c,x.root.g,x.lev,((x.held.length:Nat):Int)]++(x.held.map cI).flatten)):=by
   simp only[P,List.map_cons,List.map_nil,List.flatten_cons,List.flatten_nil,List.append_nil,Mr]
  rw[e]at o5;exact o5.mono fI.size
set_option maxHeartbeats 2000000 in
theorem ux{v:aV}{x:aO}{K:Sl->Int->Pw}(r:bL Q w.heap v x)(rg:vC x)(hl:x.held.length<=1000000000000)
  (k2:∀w',¬ pM x->Ext No w w'->K ⟨none,0,0⟩ 2 w') (k0:∀t w',pM x->aK w'.heap w.heap.size t (eH x)->Ext No w w'->K t 0 w'):de v.ai v.ay v.mark v.root.p v.root.c v.root.g v.lev v.au v.held w K:=by
 apply EU;refine af.mk fun b w1 n1=>?_
 have g1:w1.heap[b]? = some (.cells v.cells.toArray 33 (0,0)):=n1.get;have x1:=n1.ext;refine⟨v.ai,Cell.ah g1 rfl,v.ay,Cell.ah g1 rfl,v.mark,Cell.ah g1 rfl,v.root.p,Cell.ah g1 rfl,v.root.c,Cell.ah g1 rfl,v.root.g,Cell.ah g1 rfl,v.lev,Cell.ah g1 rfl,v.au,Cell.ah g1 rfl,v.held,Cell.ah g1 rfl,Hq (r.no x1) rg.held hl fun t w2 ht x2=>If.not (If.cases (fun h=>?_) fun h=>k2 w2 (fun m=>by rw[ht.2 m]at h;cases h) (x1.no x2))⟩;have may:=ht.1 h;have jA:=x1.no x2;have g2:=ad g1 x2;refine⟨_,Cell.ah g2 rfl,_,Cell.ah g2 rfl,_,Cell.ah g2 rfl,_,Cell.ah g2 rfl,af.mk fun b1 w3 n3=>⟨rfl,gT.all n3.get rfl (by simp[aJ]) fun w4 g4 x4 _=>af.mk fun b2 w5 n5=>aQ.mk n5.get (by simp) rfl fun w6 h6=>?_⟩⟩;have jk:=n3.at_;have z3:=n3.size;have jN:=n5.at_;have z5:=n5.size;have Ce:Ext (·=b1) w3 w4:=x4;have z4:=Ce.size;have x6:Ext (·=b2) w5 w6:=h6.ext;have qm:Ext No w2 w4:=n3.ext.trans Ce fun q hq h=>by omega
 have sO:Ext No w2 w6:=(qm.no n5.ext).trans x6 fun q hq h=>by have:=qm.size;omega
 have AP:=jA.no sO;have Uh:=ad g2 sO;have gr6:w6.heap[b1]? = some (.cells [.int .u32 v.root.p,.int .u64 v.root.c,.int .u16 v.root.g,.int .u8 v.lev].toArray 30 (0,0)):=ag (ad g4 n5.ext) x6 (by have:=qm.size;omega);have gc6:w6.heap[b2]? = some (.cells [.func (.func 52) #[] #[]].toArray 114 (0,0)):=h6.get n5.get;have e1:=r.ay;have e2:=r.au;have e4:=r.root;have e5:=r.lev;have lh:=r.held.len;have lm:=b_.len r.mark.rd;have ok:=rg.root;have lv:=rg.lev;obtain⟨m1,m2,m3,m4,m5,m6,m7,m8⟩:=may;have Hy:x.held.length<=2:=by rcases m8 with⟨a,h,_⟩ | ⟨a,c,h,_⟩ <;> rw[h] <;> simp
 have hh:∀y∈x.held,y.wr.length<=1000:=fun y hy=>by
  rcases m8 with⟨a,h,h1⟩ | ⟨a,c,h,h1,h2,_⟩ <;> rw[h]at hy <;> simp at hy
  .rw[hy];omega
  .rcases hy with e | e <;> rw[e] <;> omega
 have xd:Ext No w6 (aa w6):=(Ext.refl _ _).drew;obtain⟨k1,k3,k4⟩:=ok;refine⟨Ext No w6,xd,.func (.func 52) #[] #[],eo gc6 rfl,v.ay,aq Uh rfl,Ar.u64 (by omega) ⟨v.au,aq Uh rfl,Ar.u64 (by omega) ⟨v.mark,aq Uh rfl,.func (.func 52) #[] #[],eo gc6 rfl,v.root.p,eo gr6 rfl,Ar.u64 (by rw[e4];omega) ⟨v.root.c,aq gr6 rfl,v.root.g,aq gr6 rfl,Ar.u64 (by rw[e4];omega) ⟨v.lev,aq gr6 rfl,Ar.u64 (by omega) ⟨v.held,aq Uh rfl,Ar.u64 (by omega) ⟨v.held,aq Uh rfl,?_⟩⟩⟩⟩⟩⟩⟩;have e5l:[v.root.p,v.root.c,v.root.g,v.lev,((v.held.len:Nat):Int)]=[x.root.p,x.root.c,x.root.g,x.lev,((x.held.length:Nat):Int)]:=by rw[e4,e5,lh]
 have e2l:[v.ay,v.au]=[x.ay,x.au]:=by rw[e1,e2]
 have acS:∀y∈[v.ay,v.au],0<=y/\y<=18446744073709551615:=by
  intro y hy;simp only[List.mem_cons,List.not_mem_nil,or_false]at hy;rcases hy with rfl | rfl <;> omega
 have n2:(ij [x.ay,x.au]).length<=1000:=by
  have h1:=aI (n:=x.ay.toNat) (by omega);have h2:=aI (n:=x.au.toNat) (by omega);simp only[ij,List.map_cons,List.map_nil,List.flatten_cons,List.flatten_nil,List.length_append,List.length_nil];omega
 have nm:(numB x.mark.length++x.mark).length<=1000:=by
  have:=aI (n:=x.mark.length) (by omega);rw[List.length_append];omega
 -- the two parts acT the acU afi
 have V5:∀{w7:Wd}{b3:Nat}{K':Sl->Pw},Ext No w6 w7->w7.heap[b3]? = some (.cells ([v.ay,v.au].map (Value.int .u64)).toArray 25 (0,0))->(∀t w',b_ w'.heap t (ij [x.ay,x.au])->Ext No w7 w'->K' t w')->
   aD pz false (.func (.func 52) #[] #[]) [.slice (some (Addr.mk b3 0 none)) 2 2] [.one (.sl)] K' cc w7:=fun {w7 b3 K'} x7 g7 k'=>by
  have rl:Rd w7.heap ⟨some ⟨b3,0,none⟩,2,2⟩ 1 ([v.ay,v.au].map (Value.int .u64)):=
   (⟨rfl,.inr ⟨b3,[],rfl,Nat.zero_le _,by simpa using g7,rfl,Nat.le_refl _⟩,by simp[aJ]⟩ : bf w7.heap 0 25 1 ⟨some ⟨b3,0,none⟩,2,2⟩ _).rd
  exact mD (l:=⟨some ⟨b3,0,none⟩,2,2⟩) (pU rl acS (by simp) (by simp) fun t w8 r8 _ x8=>k' t w8 (by rw[<- e2l];exact r8) x8)
 have text:∀{w7:Wd}{K':Sl->Pw},Ext No w6 w7->(∀t w',b_ w'.heap t (numB x.mark.length++x.mark)->Ext No w7 w'->K' t w')->fo v.mark w7 K':=fun {w7 K'} x7 k' =>
  Dm (r.mark.no (AP.no x7)).rd (by omega) fun t w8 o8 x8=>k' t w8 o8.rd x8
 have fin:∀{w7:Wd}{rA rB:Sl}{b4:Nat},Ext No w6 w7->w7.heap[b4]? = some (.cells ([v.root.p,v.root.c,v.root.g,v.lev,((v.held.len:Nat):Int)].map (Value.int .u64)).toArray 25 (0,0))->b_ w7.heap rA (ij [x.ay,x.au])->b_ w7.heap rB (numB x.mark.length++x.mark)->_:=fun {w7 rA rB b4} x7 g7 ra rb=>
  JK (Q:=Q) (w0:=w6) (K:=K) x7 (ad gc6 x7) (r.held.no (AP.no x7)) rg hh Hy ra rb n2 nm (by rw[<- e5l];exact g7) fun t w' o' x'=>k0 t w' ⟨m1,m2,m3,m4,m5,m6,m7,m8⟩ (by rw[PM];exact o'.mono (AP.no x7).size) (AP.no x')
 refine⟨?_,?_⟩
 .refine af.mk fun b3 w7 n7=>?_
  have x7:=xd.no n7.ext;refine⟨x7,V5 x7 n7.get fun rA w8 XV x8=>?_,?_⟩
  .have RF:=x7.no x8;refine⟨RF,text RF fun rB w9 V6 x9=>⟨RF.no x9,af.mk fun b4 dV lE=>⟨(RF.no x9).no lE.ext,?_⟩⟩,af.mk fun b6 kE KU=>⟨RF.no KU.ext,text (RF.no KU.ext) fun rB fR V6 l_=>⟨(RF.no KU.ext).no l_,?_⟩⟩⟩
   .exact fin ((RF.no x9).no lE.ext) lE.get ((XV.no x9).no lE.ext) (V6.no lE.ext)
   .exact fin ((RF.no KU.ext).no l_) (ad KU.get l_) ((XV.no KU.ext).no l_) V6
  .refine af.mk fun b8 rJ OV=>?_
   have lH:=x7.no OV.ext;refine⟨lH,V5 lH (ad n7.get OV.ext) fun rA te XV qm=>⟨lH.no qm,text (lH.no qm) fun rB dH V6 yl=>⟨(lH.no qm).no yl,?_⟩⟩⟩;exact fin ((lH.no qm).no yl) (ad (ad OV.get qm) yl) (XV.no yl) V6
 .refine af.mk fun b10 OJ Mt=>?_
  have SV:=xd.no Mt.ext;refine⟨SV,af.mk fun b11 IB n32=>?_⟩;have PN:=SV.no n32.ext;refine⟨PN,V5 PN n32.get fun rA Y7 XV RG=>⟨PN.no RG,text (PN.no RG) fun rB rH V6 Cc=>⟨(PN.no RG).no Cc,?_⟩⟩⟩;exact fin ((PN.no RG).no Cc) (ad (ad (ad Mt.get n32.ext) RG) Cc) (XV.no Cc) V6
end
end Go.Proofs.YtpjbalhhlaofmaaGreat
namespace Go.V
open Go.V.Pk Go.Proofs.YtpjbalhhlaofmaaGreat
abbrev PO:Type:=Int->Int->Sl->Int->Int->Int->Int->Int->Sl->Int->Pw
abbrev PO.at(K:PO)(v:aV)(e:Int)(w:Wd):Prop:=K v.ai v.ay v.mark v.root.p v.root.c v.root.g v.lev v.au v.held e w
structure Good(t:Int)(l:List Int)(x:aO):Prop where
 may:pM x
 gC:vC x
 ai:x.ai=t
 form:eH x=l
theorem Bz{l:List Int}{a:Nat}{p rest:List Int}(h:l.drop a=p++rest):l.drop (a+p.length)=rest:=by
 rw[<- List.drop_drop,h,List.drop_left]
theorem SW{l:List Int}{a:Nat}{p rest:List Int}(ha:a<=l.length)(h:l.drop a=p++rest):a+p.length<=l.length:=by
 have:=congrArg List.length h;rw[List.length_drop,List.length_append]at this;omega
theorem SX{l rest:List Int}{a n:Nat}(h:l.drop a=numB n++rest)(hn:n < 18446744073709551616):bH l a 0=((n:Int),a+(numB n).length,0)/\l.drop (a+(numB n).length)=rest:=by
 refine⟨?_,Bz h⟩;unfold bH;rw[h,vw hn];simp
theorem vV{l rest t:List Int}{a:Nat}{most:Int}(ha:a<=l.length)(h:l.drop a=textB t++rest)(ht:(t.length:Int)<=most)(hm:most<=1000000):cB most l a 0=(t,a+(textB t).length,0)/\l.drop (a+(textB t).length)=rest:=by
 refine⟨?_,Bz h⟩;have hle:=SW ha h;have h':l.drop a=numB t.length++(t++rest):=by rw[h];unfold textB;rw[List.append_assoc]
 have h2:=Bz h';unfold cB;rw[h',vw (by omega)];unfold textB at hle ⊢;rw[List.length_append]at hle ⊢;simp only;rw[if_neg (by simp),if_neg (by simp),if_neg (by omega),if_neg (by omega),h2,Int.toNat_natCast,List.take_left,Nat.add_assoc]
theorem fK{l:List Int}{a:Nat}{f:Int}(h8:B8 l):0<=(bH l a f).1/\(bH l a f).1<=18446744073709551615:=by
 unfold bH;split
 .exact⟨by simp,by simp⟩
 .split
  .exact⟨by simp,by simp⟩
  .rename_i h;obtain⟨m,h1,_,_,_,h2⟩:=Kn (l.drop a) 0 0 (h8.drop a) (Classical.byContradiction fun c=>h c);have:=h2 (by omega);simp only[Nat.pow_zero,Nat.mul_one]at this;rw[h1];simp only[Int.pow_zero];omega
theorem sg{l:List Int}{a:Nat}{f most:Int}(h8:B8 l)(hm:0<=most):B8 (cB most l a f).1/\((cB most l a f).1.length:Int)<=most:=by
 have nil:B8 ([]:List Int)/\((([]:List Int).length:Nat):Int)<=most:=⟨fun x hx=>(by cases hx),by simpa using hm⟩
 unfold cB;split
 .exact nil
 .dsimp only;split
  .exact nil
  .split
   .exact nil
   .split
    .exact nil
    .rename_i h1 h2 h3;refine⟨fun x hx=>h8 x (List.mem_of_mem_drop (List.mem_of_mem_take hx)),?_⟩;dsimp only;rw[List.length_take];omega
end Go.V
namespace Go.Proofs.YtpjbalhhlaofmaaGreat
open Go.V Go.V.Pk
section
variable {w:Wd} {Q:Nat->Prop} {rb:Nat} {rs:Sl} {l:List Int} {a:Nat} {f:Int}
theorem iG{most:Int}{cb:Nat}{K:Int->Pw}(hm:0<=most/\most<=4294967295)(gb:w.heap[cb]? = some (.cells [.pointer (some ⟨rb,0,none⟩)].toArray 70 (0,0)))(r:kP w.heap rb rs l a f)
  (k:∀z w',kP w'.heap rb rs l (bH l a f).2.1 (bH l a f).2.2->0<=z->z<=most+1->((bH l a f).1<=most->z=(bH l a f).1)->Ext (·=rb) w w'->w'.heap.size=w.heap.size->K z w'):nM most ⟨cb,0,none⟩ w K:=by
 apply Ct;have rg:=fK (a:=a) (f:=f) r.gC;refine⟨_,Cell.ah gb rfl,mI r fun w1 r1 x1 z1=>If.dec (fun h=>Ar.u64 (by omega) (k _ w1 r1 (by omega) (by omega) (fun h'=>by omega) x1 z1)) fun h=>k _ w1 r1 (by omega) (by omega) (fun _=>rfl) x1 z1⟩
def PQ(b1 b2 b3:Nat)(b:Sl)(w9:Wd)(K:PO):Prop:=
 aD pz true (.func (.func 33) #[] #[.pointer (some (Addr.mk b2 0 none))]) [.int .u64 4294967295] [.one (.int .u64)] (fun T0 dV=>
 Ar .u32 T0 fun TZ=>
 ∃wG:Option Addr,Cell dV (Addr.mk b2 0 none) (.pointer wG)/\
 aX wG dV fun IA di=>
 aD pz true (.func (.func 33) #[] #[.pointer (some (Addr.mk b2 0 none))]) [.int .u64 65535] [.one (.int .u64)] (fun Ru eN=>
 Ar .u16 Ru fun Rv=>
 List.length (α:=Value) (iT TZ IA Rv)=3/\gT eN ((Addr.mk b3 0 none).add 3) (iT TZ IA Rv) fun cO=>
 aD pz true (.func (.func 33) #[] #[.pointer (some (Addr.mk b2 0 none))]) [.int .u64 255] [.one (.int .u64)] (fun OK cM=>
 Ar .u8 OK fun SA=>
 aQ cM (((Addr.mk b3 0 none).add 3).add 3) (.int .u8 SA) fun dY=>
 aD pz true (.func (.func 33) #[] #[.pointer (some (Addr.mk b2 0 none))]) [.int .u64 2] [.one (.int .u64)] (fun ZW kE=>
 Nm (gm ZW 2) fun Sx=>
 ∃I0:Nat->Int->Pw,(∃m,I0 m 0 kE)/\∀(_:Env)(m0:Nat)(t:Int)(fR:Wd),I0 m0 t fR->
 If (decide (t < Sx)) (
 ∃S:Pw,S (aa fR)/\
 ∃Cn:Sl,ae S ((Addr.mk b3 0 none).add 8) Cn.u/\
 ∃Hi:Option Addr,ae S (Addr.mk b2 0 none) (.pointer Hi)/\
 ∃OM:Option Addr,ae S (Addr.mk b2 0 none) (.pointer OM)/\
 aD pz false (.func (.func 33) #[] #[.pointer (some (Addr.mk b2 0 none))]) [.int .u64 65535] [.one (.int .u64)] (fun r_9 vG=>
 S vG/\
 Ar .u16 r_9 fun VB=>
 aX Hi vG fun acV uK=>
 S uK/\
 aY OM 32 uK fun acW oc=>
 S oc/\
 af oc (.cells (tC VB acV acW).toArray 76) fun XW uL=>
 S uL/\
 bg pz 31 31 Cn (.slice (some (Addr.mk XW 0 none)) 1 1) (fun s pf=>
 S pf/\
 aQ pf ((Addr.mk b3 0 none).add 8) s.u fun rJ=>
 Ar .u64 (t+1) fun ZX=>
 ∃m1,m1 < m0/\I0 m1 ZX rJ) uL) cc ((aa fR))) (
 ∃ON:Option Addr,Cell fR (Addr.mk b2 0 none) (.pointer ON)/\
 cK ON fR fun r0 _r1_1 te=>
 If (r0 != 0) (
 List.length (α:=Value) (dw 0 0 0 0 0 0 0)=9/\gT te (Addr.mk b1 0 none) (dw 0 0 0 0 0 0 0) fun dH=>
 ∃c:Int,Cell dH (Addr.mk b1 0 none) (.int .u32 c)/\
 ∃jz:Int,Cell dH ((Addr.mk b1 0 none).add 1) (.int .i64 jz)/\
 ∃ia:Sl,Cell dH ((Addr.mk b1 0 none).add 2) ia.u/\
 ∃oN:Int,Cell dH ((Addr.mk b1 0 none).add 3) (.int .u32 oN)/\
 ∃oO:Int,Cell dH ((Addr.mk b1 0 none).add 4) (.int .u64 oO)/\
 ∃jY:Int,Cell dH ((Addr.mk b1 0 none).add 5) (.int .u16 jY)/\
 ∃qA:Int,Cell dH ((Addr.mk b1 0 none).add 6) (.int .u8 qA)/\
 ∃oP:Int,Cell dH ((Addr.mk b1 0 none).add 7) (.int .i64 oP)/\
 ∃lG:Sl,Cell dH ((Addr.mk b1 0 none).add 8) lG.u/\
 K c jz ia oN oO jY qA oP lG 5 dH) (
 ∃OO:Int,Cell te (Addr.mk b3 0 none) (.int .u32 OO)/\
 ∃Be:Int,Cell te ((Addr.mk b3 0 none).add 1) (.int .i64 Be)/\
 ∃ug:Sl,Cell te ((Addr.mk b3 0 none).add 2) ug.u/\
 ∃Ft:Int,Cell te ((Addr.mk b3 0 none).add 3) (.int .u32 Ft)/\
 ∃Fu:Int,Cell te ((Addr.mk b3 0 none).add 4) (.int .u64 Fu)/\
 ∃oU:Int,Cell te ((Addr.mk b3 0 none).add 5) (.int .u16 oU)/\
 ∃uh:Int,Cell te ((Addr.mk b3 0 none).add 6) (.int .u8 uh)/\
 ∃vH:Int,Cell te ((Addr.mk b3 0 none).add 7) (.int .i64 vH)/\
 ∃oW:Sl,Cell te ((Addr.mk b3 0 none).add 8) oW.u/\
 de OO Be ug Ft Fu oU uh vH oW te fun Jw Jx Bc=>
 If (Jx != 0) (
 List.length (α:=Value) (dw 0 0 0 0 0 0 0)=9/\gT Bc (Addr.mk b1 0 none) (dw 0 0 0 0 0 0 0) fun qB=>
 ∃lY:Int,Cell qB (Addr.mk b1 0 none) (.int .u32 lY)/\
 ∃lZ:Int,Cell qB ((Addr.mk b1 0 none).add 1) (.int .i64 lZ)/\
 ∃nW:Sl,Cell qB ((Addr.mk b1 0 none).add 2) nW.u/\
 ∃sQ:Int,Cell qB ((Addr.mk b1 0 none).add 3) (.int .u32 sQ)/\
 ∃Bp:Int,Cell qB ((Addr.mk b1 0 none).add 4) (.int .u64 Bp)/\
 ∃xh:Int,Cell qB ((Addr.mk b1 0 none).add 5) (.int .u16 xh)/\
 ∃zH:Int,Cell qB ((Addr.mk b1 0 none).add 6) (.int .u8 zH)/\
 ∃HO:Int,Cell qB ((Addr.mk b1 0 none).add 7) (.int .i64 HO)/\
 ∃HP:Sl,Cell qB ((Addr.mk b1 0 none).add 8) HP.u/\
 K lY lZ nW sQ Bp xh zH HO HP 5 qB) (
 df b Jw Bc fun acX zU=>
 If (!acX) (
 List.length (α:=Value) (dw 0 0 0 0 0 0 0)=9/\gT zU (Addr.mk b1 0 none) (dw 0 0 0 0 0 0 0) fun zy=>
 ∃zI:Int,Cell zy (Addr.mk b1 0 none) (.int .u32 zI)/\
 ∃PR:Int,Cell zy ((Addr.mk b1 0 none).add 1) (.int .i64 PR)/\
 ∃PS:Sl,Cell zy ((Addr.mk b1 0 none).add 2) PS.u/\
 ∃PT:Int,Cell zy ((Addr.mk b1 0 none).add 3) (.int .u32 PT)/\
 ∃PU:Int,Cell zy ((Addr.mk b1 0 none).add 4) (.int .u64 PU)/\
 ∃PW:Int,Cell zy ((Addr.mk b1 0 none).add 5) (.int .u16 PW)/\
 ∃JL:Int,Cell zy ((Addr.mk b1 0 none).add 6) (.int .u8 JL)/\
 ∃PY:Int,Cell zy ((Addr.mk b1 0 none).add 7) (.int .i64 PY)/\
 ∃PZ:Sl,Cell zy ((Addr.mk b1 0 none).add 8) PZ.u/\
 K zI PR PS PT PU PW JL PY PZ 5 zy) (
 ∃HQ:Int,Cell zU (Addr.mk b3 0 none) (.int .u32 HQ)/\
 ∃Mu:Int,Cell zU ((Addr.mk b3 0 none).add 1) (.int .i64 Mu)/\
 ∃Mv:Sl,Cell zU ((Addr.mk b3 0 none).add 2) Mv.u/\
 ∃Mw:Int,Cell zU ((Addr.mk b3 0 none).add 3) (.int .u32 Mw)/\
 ∃Mx:Int,Cell zU ((Addr.mk b3 0 none).add 4) (.int .u64 Mx)/\
 ∃My:Int,Cell zU ((Addr.mk b3 0 none).add 5) (.int .u16 My)/\
 ∃HR:Int,Cell zU ((Addr.mk b3 0 none).add 6) (.int .u8 HR)/\
 ∃Mz:Int,Cell zU ((Addr.mk b3 0 none).add 7) (.int .i64 Mz)/\
 ∃MA:Sl,Cell zU ((Addr.mk b3 0 none).add 8) MA.u/\
 List.length (α:=Value) (ml HQ Mu Mv Mw Mx My HR Mz MA)=9/\gT zU (Addr.mk b1 0 none) (ml HQ Mu Mv Mw Mx My HR Mz MA) fun vE=>
 ∃JM:Int,Cell vE (Addr.mk b1 0 none) (.int .u32 JM)/\
 ∃zJ:Int,Cell vE ((Addr.mk b1 0 none).add 1) (.int .i64 zJ)/\
 ∃MB:Sl,Cell vE ((Addr.mk b1 0 none).add 2) MB.u/\
 ∃MC:Int,Cell vE ((Addr.mk b1 0 none).add 3) (.int .u32 MC)/\
 ∃zK:Int,Cell vE ((Addr.mk b1 0 none).add 4) (.int .u64 zK)/\
 ∃P_:Int,Cell vE ((Addr.mk b1 0 none).add 5) (.int .u16 P_)/\
 ∃Qa:Int,Cell vE ((Addr.mk b1 0 none).add 6) (.int .u8 Qa)/\
 ∃Qb:Int,Cell vE ((Addr.mk b1 0 none).add 7) (.int .i64 Qb)/\
 ∃Qc:Sl,Cell vE ((Addr.mk b1 0 none).add 8) Qc.u/\
 K JM zJ MB MC zK P_ Qa Qb Qc 0 vE))))) cc dY) cc cO) cc di) cc w9
end
end Go.Proofs.YtpjbalhhlaofmaaGreat
namespace Go.V
open Go.V.Pk Go.Proofs.YtpjbalhhlaofmaaGreat
abbrev rest8(x:aO):List Int:=x.held.flatMap cI
abbrev rest7(x:aO):List Int:=numB x.held.length++rest8 x
abbrev rest6(x:aO):List Int:=numB x.lev.toNat++rest7 x
abbrev rest5(x:aO):List Int:=numB x.root.g.toNat++rest6 x
abbrev rest4(x:aO):List Int:=numB x.root.c.toNat++rest5 x
abbrev rest3(x:aO):List Int:=numB x.root.p.toNat++rest4 x
section
variable {t:Int} {l:List Int} {a:Nat} {f:Int}
theorem fO{n:aO->Nat}{rest:aO->List Int}(tr:∀x,Good t l x->f=0/\l.drop a=numB (n x)++rest x)(hn:∀x,Good t l x->n x < 18446744073709551616) :
  ∀x,Good t l x->(bH l a f).1=n x/\(bH l a f).2.2=0/\l.drop (bH l a f).2.1=rest x:=fun x hx=>by
 obtain⟨hf,hd⟩:=tr x hx;obtain⟨h1,h2⟩:=SX hd (hn x hx);rw[hf,h1];exact⟨rfl,rfl,h2⟩
theorem Good.le{x:aO}(h:Good t l x):0<=x.ay/\x.ay<=1000/\0<=x.au/\x.au<=1000/\x.mark.length=16/\1<=x.held.length/\x.held.length<=2/\∀y∈x.held,y.wr.length=32:=by
 obtain⟨m1,m2,m3,m4,m5,m6,m7,m8⟩:=h.may;refine⟨by omega,by omega,by omega,by omega,m4,?_,?_,fun y hy=>?_⟩
 .rcases m8 with⟨a,e,_⟩ | ⟨a,c,e,_⟩ <;> rw[e] <;> simp
 .rcases m8 with⟨a,e,_⟩ | ⟨a,c,e,_⟩ <;> rw[e] <;> simp
 .rcases m8 with⟨a,e,h1⟩ | ⟨a,c,e,h1,h2,_⟩ <;> rw[e]at hy <;> simp at hy
  .rw[hy];exact h1
  .rcases hy with e | e <;> rw[e] <;> assumption
end
end Go.V
namespace Go.Proofs.YtpjbalhhlaofmaaGreat
open Go.V Go.V.Pk
section
variable {w:Wd}
set_option maxHeartbeats 4000000 in
theorem MD{w0:Wd}{b1 b2 b3 rb:Nat}{rs b:Sl}{l mb:List Int}{a:Nat}{f t z z1:Int}{mk:Sl}{K:PO}(x0:Ext No w0 w)(b1o:w0.heap.size<=b1)(b3o:w0.heap.size<=b3)(rbo:w0.heap.size<=rb)
    (ne:b1≠rb/\b1≠b2/\b1≠b3/\rb≠b2/\rb≠b3/\b2≠b3) (rsn:∀i,rs.aj=some i->i≠b3/\i < w.heap.size) (g1:w.heap[b1]? = some (.cells aR.cells.toArray 33 (0,0))) (g2:w.heap[b2]? = some (.cells [.pointer (some ⟨rb,0,none⟩)].toArray 70 (0,0)))
    (g3:w.heap[b3]? = some (.cells ({ aR with ai:=t,ay:=z,mark:=mk,au:=z1 }:aV).cells.toArray 33 (0,0))) (r:kP w.heap rb rs l a f) (om:pe (fun q=>w0.heap.size<=q/\q≠b3/\q≠rb/\q≠b1) w.heap mk mb) (rm:B8 mb/\mb.length<=16) (rt:0<=t/\t<=4294967295)
    (hb:b_ w0.heap b l) (hl:l.length<=1000000000)
    (tr:∀x,Good t l x->z=x.ay/\z1=x.au/\mb=x.mark/\f=0/\l.drop a=rest3 x)
    (k5:∀w',(∀x,¬ Good t l x)->Ext No w0 w'->K.at aR 5 w') (k0:∀v x w',Good t l x->bL (w0.heap.size<=·) w'.heap v x->Ext No w0 w'->K.at v 0 w'):PQ b1 b2 b3 b w K:=by
  obtain⟨n1r,mN,NI,nr2,RH,OV⟩:=ne;have blt:∀{q:Nat}{o:Obj},w.heap[q]? = some o->q < w.heap.size:=fun h=>(Array.getElem?_eq_some_iff.1 h).1
  have l1:=blt g1;have l2:=blt g2;have l3:=blt g3;have lr:rb < w.heap.size:=by obtain⟨T,hT⟩:=r.aj;exact blt hT
  have h8:=r.gC
  let E:Pw:=fun w'=>Ext (fun q=>q=rb∨q=b3) w w'
  have HS:∀{w' gE},E w'->Ext (·=rb) w' gE->E gE:=fun x y=>Ext.trans x y fun q _ h=> .inl h
  have xw:∀{w'},E w'->Ext No w0 w':=fun x=>x0.trans x fun q hq h=>by omega
  have XX:∀{w'},E w'->w'.heap[b2]? = some (.cells [.pointer (some ⟨rb,0,none⟩)].toArray 70 (0,0)):=fun x=>ag g2 x (by omega)
  have Ui:∀{w'},E w'->w'.heap[b1]? = some (.cells aR.cells.toArray 33 (0,0)):=fun x=>ag g1 x (by omega)
  have E0:E w:=Ext.refl _ _;unfold PQ
  -- the acY
  refine eF (iG ⟨by decide,by decide⟩ g2 r fun zp dV ZY p0 p1 p2 dW Kv=>Ar.acd ?_);have E10:=HS E0 dW;have tr1:=fO (n:=fun x=>x.root.p.toNat) (rest:=rest4) (fun x hx=>(tr x hx).2.2.2) fun x hx=>by have:=hx.gC.root.1;omega
  generalize ea1:(bH l a f).2.1=a1 at *;generalize ef1:(bH l a f).2.2=f1 at *;generalize(bH l a f).1=v1 at *
  -- the aG
  refine⟨_,Cell.ah (XX E10) rfl,mI ZY fun di V1 fH ND=>?_⟩;have E11:=HS E10 fH;have rc:=fK (a:=a1) (f:=f1) h8;have ZZ:=fO (n:=fun x=>x.root.c.toNat) (rest:=rest5) (fun x hx=>(tr1 x hx).2) fun x hx=>by have:=hx.gC.root.2.1;omega
  generalize ea2:(bH l a1 f1).2.1=a2 at *;generalize ef2:(bH l a1 f1).2.2=f2 at *;generalize(bH l a1 f1).1=cm at *
  -- the generation
  refine eF (iG ⟨by decide,by decide⟩ (XX E11) V1 fun zg eN RE q0 q1 q2 fJ OQ=>Ar.YP ?_);have E12:=HS E11 fJ;have tr3:=fO (n:=fun x=>x.root.g.toNat) (rest:=rest6) (fun x hx=>(ZZ x hx).2) fun x hx=>by have:=hx.gC.root.2.2;omega
  generalize ea3:(bH l a2 f2).2.1=a3 at *;generalize ef3:(bH l a2 f2).2.2=f3 at *;generalize(bH l a2 f2).1=v3 at *;have Uj:eN.heap[b3]? = some (.cells ({ aR with ai:=t,ay:=z,mark:=mk,au:=z1 }:aV).cells.toArray 33 (0,0)):=ag (ag (ag g3 dW (Ne.symm RH)) fH (Ne.symm RH)) fJ (Ne.symm RH);refine⟨rfl,?_⟩;rw[aw rfl,Nat.zero_add];refine gT.mk (o:=3) Uj (by simp[aV.cells]) (by simp[aJ]) fun cO Rx=>?_
  have ew:Ext (·=b3) eN cO:=Rx.ext;have JA:=Rx.size;have E13:E cO:=Ext.trans E12 ew fun q _ h=> .inr h
  let s1:aV:={ aR with ai:=t,ay:=z,mark:=mk,au:=z1,root:=⟨zp % 4294967296,cm,zg % 65536⟩ }
  have Z0:cO.heap[b3]? = some (.cells s1.cells.toArray 33 (0,0)):=Rx.get Uj;have r13:kP cO.heap rb rs l a3 f3:=RE.ext ew RH fun i hi h=>(rsn i hi).1 h
  -- the level
  refine eF (iG ⟨by decide,by decide⟩ (XX E13) r13 fun zv cM r14 v0 v1' v2 fI OR=>Ar.Ly ?_);have SY:=HS E13 fI;have tr4:=fO (n:=fun x=>x.lev.toNat) (rest:=rest7) (fun x hx=>(tr3 x hx).2) fun x hx=>by have:=hx.gC.lev;omega
  generalize ea4:(bH l a3 f3).2.1=a4 at *;generalize ef4:(bH l a3 f3).2.2=f4 at *;generalize(bH l a3 f3).1=v4 at *;have Uk:=ag Z0 fI (Ne.symm RH);rw[aw (a:=Addr.mk b3 0 none) rfl,aw rfl,Nat.zero_add];refine aQ.mk Uk (by simp[aV.cells]) rfl fun dY OS=>?_
  have sN:Ext (·=b3) cM dY:=OS.ext;have XI:=OS.size;have E15:E dY:=Ext.trans SY sN fun q _ h=> .inr h
  let s2:aV:={ s1 with lev:=zv % 256 }
  have Z1:dY.heap[b3]? = some (.cells s2.cells.toArray 33 (0,0)):=OS.get Uk;have r15:kP dY.heap rb rs l a4 f4:=r14.ext sN RH fun i hi h=>(rsn i hi).1 h
  -- how many keys
  refine eF (iG ⟨by decide,by decide⟩ (XX E15) r15 fun zn kE XY c0 c1 c2 qC VC=>Nm.mk ?_);have E16:=HS E15 qC;have tr5:=fO (n:=fun x=>x.held.length) (rest:=rest8) (fun x hx=>(tr4 x hx).2) fun x hx=>by have:=hx.le;omega
  generalize ea5:(bH l a4 f4).2.1=a5 at *;generalize ef5:(bH l a4 f4).2.2=f5 at *;generalize(bH l a4 f4).1=v5 at *;have Z2:=ag Z1 qC (Ne.symm RH)
  obtain⟨n,hn⟩ : ∃n:Nat,gm zn 2=n/\n<=2:=⟨(gm zn 2).toNat,by unfold gm;split <;> omega,by unfold gm;split <;> omega⟩
  obtain⟨hn,hn2⟩:=hn
  have Qd:∀x,Good t l x->n=x.held.length:=fun x hx=>by
    have h1:=(tr5 x hx).1;have h2:=hx.le;have h3:=c2 (by omega);have:gm zn 2=zn:=by unfold gm;split <;> omega
    omega
  rw[hn]
  refine ⟨fun m i w'=>∃ (j:Nat) (out:Sl) (L:List (ej×bX)) (a:Nat) (f:Int),i=j/\j<=n/\m=n - j/\L.length=j/\E w'/\w'.heap[b3]? = some (.cells ({ s2 with held:=out }:aV).cells.toArray 33 (0,0))/\bf w'.heap w.heap.size 76 3 out (hC L) /\
      (∀p∈L,dF (fun q=>w.heap.size<=q/\out.aj≠some q) w'.heap p.1 p.2/\j_ p.2/\p.2.wr.length<=32)/\kP w'.heap rb rs l a f/\(∀x,Good t l x->L.map Prod.snd=x.held.take j/\f=0/\l.drop a=(x.held.drop j).flatMap cI),
    ⟨_,0,⟨none,0,0⟩,[],a5,f5,rfl,Nat.zero_le _,rfl,rfl,E16,Z2,bf.nil _ _ _ _,by simp,XY,fun x hx=>⟨by simp,(tr5 x hx).2.1,by rw[List.drop_zero];exact(tr5 x hx).2.2⟩⟩,?_⟩
  clear tr5 XY ea5 ef5;rintro _ m0 _ fR ⟨j,out,L,a6,f6,rfl,hj,rfl,XZ,RI,fc,KS,hL,r17,Z3⟩;have z17:=Ext.size RI;have yy:∀{q:Nat},out.aj=some q->w.heap.size<=q/\q < fR.heap.size:=fun h=>KS.lt h
  refine If.dec (fun x_=>?_) fun x_=>?_
  · have V7:j < n:=by omega
    have Ul:=XX RI;have S0:Ext (fun q=>q=rb∨out.aj=some q) fR (aa fR):=(Ext.refl _ _).drew
    have no3:¬ (b3=rb∨out.aj=some b3):=by
      rintro(h | h)
      · exact RH h.symm
      · have:=(yy h).1;omega
    have no2:¬ (b2=rb∨out.aj=some b2):=by
      rintro(h | h)
      · exact nr2 h.symm
      · have:=(yy h).1;omega
    have vB:ae (Ext (fun q=>q=rb∨out.aj=some q) fR) ((Addr.mk b3 0 none).add 8) (.slice out.a out.len out.cap):=by
      rw[aw rfl,Nat.zero_add];exact ae.dI (Cell.ah fc rfl) no3
    have jN:ae (Ext (fun q=>q=rb∨out.aj=some q) fR) (Addr.mk b2 0 none) (.pointer (some ⟨rb,0,none⟩)):=ae.dI (Cell.ah Ul rfl) no2;refine⟨_,S0,out,vB,some ⟨rb,0,none⟩,jN,some ⟨rb,0,none⟩,jN,?_⟩;have rd:kP (aa fR).heap rb rs l a6 f6:=r17.no (Ext.refl _ _).drew;refine eF (iG ⟨by decide,by decide⟩ (w:=aa fR) Ul rd fun zh vG r18 h0 h1 h2 tf z18=>?_);have S18:Ext (fun q=>q=rb∨out.aj=some q) fR vG:=S0.trans tf fun q _ h=> .inl h
    have Vp:∀x,Good t l x->x.held.drop j=(x.held.getD j ⟨0,0,[]⟩)::x.held.drop (j+1):=fun x hx=>by
      have eO:j < x.held.length:=by have:=Qd x hx;omega
      rw[List.drop_eq_getElem_cons eO];simp[List.getD,eO]
    have cN:∀x,Good t l x->x.held.getD j ⟨0,0,[]⟩∈x.held:=fun x hx=>by
      have eO:j < x.held.length:=by have:=Qd x hx;omega
      simp[List.getD,eO]
    have tg:=fO (n:=fun x=>(x.held.getD j ⟨0,0,[]⟩).gen.toNat) (rest:=fun x=>numB (x.held.getD j ⟨0,0,[]⟩).cm.toNat++(textB (x.held.getD j ⟨0,0,[]⟩).wr++(x.held.drop (j+1)).flatMap cI)) (fun x hx=>⟨(Z3 x hx).2.1,by
      rw[(Z3 x hx).2.2,Vp x hx,List.flatMap_cons];have e:(x.held.getD j ⟨0,0,[]⟩::List.drop (j+1) x.held).getD j ⟨0,0,[]⟩=(x.held.getD j ⟨0,0,[]⟩::List.drop (j+1) x.held).getD j ⟨0,0,[]⟩:=rfl
      simp only[cI,List.append_assoc]⟩) fun x hx=>by have:=(hx.gC.held _ (cN x hx)).gen;omega
    generalize ea7:(bH l a6 f6).2.1=a7 at *;generalize ef7:(bH l a6 f6).2.2=f7 at *;generalize(bH l a6 f6).1=v7 at *;refine⟨S18,Ar.YP (mI r18 fun uK r19 vQ z19=>?_)⟩;have S19:Ext (fun q=>q=rb∨out.aj=some q) fR uK:=S18.trans vQ fun q _ h=> .inl h
    have rc8:=fK (a:=a7) (f:=f7) h8;have tc:=fO (n:=fun x=>(x.held.getD j ⟨0,0,[]⟩).cm.toNat) (rest:=fun x=>textB (x.held.getD j ⟨0,0,[]⟩).wr++(x.held.drop (j+1)).flatMap cI) (fun x hx=>(tg x hx).2) fun x hx=>by have:=(hx.gC.held _ (cN x hx)).cm;omega
    generalize ea8:(bH l a7 f7).2.1=a8 at *;generalize ef8:(bH l a7 f7).2.2=f8 at *;generalize(bH l a7 f7).1=v8 at *;refine⟨S19,qi (by decide) r19 (by omega) fun tx oc r20 rL XS=>?_⟩;have S20:Ext (fun q=>q=rb∨out.aj=some q) fR oc:=S19.trans rL fun q _ h=> .inl h
    have rx:=sg (a:=a8) (f:=f8) (most:=32) h8 (by decide)
    have tt:∀x,Good t l x->(cB 32 l a8 f8).1=(x.held.getD j ⟨0,0,[]⟩).wr/\(cB 32 l a8 f8).2.2=0/\l.drop (cB 32 l a8 f8).2.1=(x.held.drop (j+1)).flatMap cI:=fun x hx=>by
      obtain⟨_,hf,hd⟩:=tc x hx;have h32:=hx.le.2.2.2.2.2.2.2 _ (cN x hx);obtain⟨e1,e2⟩:=vV (most:=32) r19.le hd (by omega) (by decide);rw[hf,e1];exact⟨rfl,rfl,e2⟩
    generalize ea9:(cB 32 l a8 f8).2.1=a9 at *;generalize ef9:(cB 32 l a8 f8).2.2=f9 at *;generalize(cB 32 l a8 f8).1=wr at *;have y18:=tf.size;have y19:=vQ.size;have y20:=rL.size;have d18:fR.heap.size<=vG.heap.size:=y18;refine⟨S20,af.mk fun b4 uL Um=>?_⟩;have S21:Ext (fun q=>q=rb∨out.aj=some q) fR uL:=S20.trans Um.ext fun _ _ h=>h.elim
    have Hm:=Um.at_;have z21:=Um.size
    have Un:bf uL.heap w.heap.size 76 3 out (hC L):=by
      have x:Ext (·=rb) fR uL:=((((Ext.refl (·=rb) fR).drew.trans tf fun _ _ h=>h).trans vQ fun _ _ h=>h).trans rL fun _ _ h=>h).trans Um.ext fun _ _ h=>h.elim
      exact KS.ext x fun q hq h=>by have:=(yy hq).1;omega
    have Gb:out.len=L.length:=by
      have:=KS.rd.len;rw[aS (AT L)]at this;omega
    let hv:ej:=⟨zh % 65536,v8,tx⟩
    let hp:bX:=⟨zh % 65536,v8,wr⟩
    have src:Src pz uL (.slice (some (Addr.mk b4 0 none)) 1 1) 3 1 hv.cells:=(bf.new (sz:=3) (n:=1) Um rfl hv.one).rd.src;refine⟨S21,pJ Un (by omega) src (by rw[Gb];omega) fun s' pf Z4 _ Gd oQ=>?_⟩;have S22:Ext (fun q=>q=rb∨out.aj=some q) fR pf:=S21.trans Gd fun q _ h=> .inr h
    have y22:=Gd.size;have xrb:Ext (·=rb) fR uL:=((((Ext.refl (·=rb) fR).drew.trans tf fun _ _ h=>h).trans vQ fun _ _ h=>h).trans rL fun _ _ h=>h).trans Um.ext fun _ _ h=>h.elim
    have X0:pf.heap[b3]? = some (.cells ({ s2 with held:=out }:aV).cells.toArray 33 (0,0)):=ag fc S22 (by
      rintro(h | h)
      · exact RH h.symm
      · have:=(yy h).1;omega)
    refine⟨S22,aQ.mk X0 (by simp[aV.cells]) rfl fun rJ NK=>?_⟩;have lH:Ext (·=b3) pf rJ:=NK.ext;have z23:=NK.size
    have E23:E rJ:=by
      refine Ext.trans (Ext.trans RI S22 fun q hq h=>?_) lH fun q _ h=> .inr h
      rcases h with h | h
      · exact .inl h
      · have:=(yy h).1;omega
    have key:∀{v y},dF (fun q=>w.heap.size<=q/\out.aj≠some q) uL.heap v y->dF (fun q=>w.heap.size<=q/\s'.aj≠some q) rJ.heap v y:=fun {v y} h=>by
      have h2:dF (fun q=>w.heap.size<=q/\s'.aj≠some q) pf.heap v y:=by
        refine⟨h.gen,h.cm,((h.wr.lt).ext Gd fun q hq h=>hq.1.2 h).mono fun q hq=>⟨hq.1.1,fun h=>?_⟩⟩;rcases oQ with h1 | ⟨b',h1,h3⟩
        · exact hq.1.2 (h1 ▸ h)
        · rw[h1]at h;cases h;have:=hq.2;omega
      exact h2.ext lH fun q hq h=>by have:=hq.1;omega
    refine Ar.u64 (by omega) ⟨n - (j+1),by omega,j+1,s',L++[(hv,hp)],a9,f9,by omega,by omega,rfl,by rw[List.length_append,List.length_singleton,XZ],E23,NK.get X0,?_,fun p n_=>?_,?_,fun x hx=>?_⟩
    · have:bf rJ.heap w.heap.size 76 3 s' (hC L++hv.cells):=Z4.ext lH fun q hq h=>by have:=(Z4.lt hq).1;omega
      rw[show hC (L++[(hv,hp)])=hC L++hv.cells by simp[hC]];exact this
    · rcases List.mem_append.1 n_ with h | h
      · obtain⟨q1,q2,q3⟩:=hL p h;exact⟨key (q1.ext xrb fun q hq h=>by have:=hq.1;omega),q2,q3⟩
      · rw[List.mem_singleton]at h;subst h;refine⟨key ⟨rfl,rfl,.own (XS.no Um.ext) fun q h1 h2=>⟨by omega,fun h=>by have:=(yy h).2;omega⟩⟩,⟨by show 0<=zh % 65536/\zh % 65536<=65535;omega,rc8,rx.1⟩,?_⟩;show wr.length<=32;omega
    · have r21:=r20.no Um.ext;have r22:kP pf.heap rb rs l a9 f9:=r21.ext Gd (fun h=>by have:=(yy h).1;omega) fun i hi h=>by have:=(yy h).1;have:=(rsn i hi).2;omega
      exact r22.ext lH RH fun i hi h=>(rsn i hi).1 h
    · obtain⟨t1,t2,t3⟩:=tt x hx;have eO:j < x.held.length:=by have:=Qd x hx;omega
      refine⟨?_,t2,t3⟩;have eg:=(tg x hx).1;have ec:=(tc x hx).1;have hr:=hx.gC.held _ (cN x hx);have hg:=hr.gen;have hc:=hr.cm;have ez:=h2 (by omega);rw[List.map_append,(Z3 x hx).1,dO eO];congr 1;have e:x.held.getD j ⟨0,0,[]⟩=x.held[j]:=by simp[List.getD,eO]
      rw[<- e];simp only[List.map_cons,List.map_nil,List.cons.injEq,and_true];exact bX.ext (by show zh % 65536=_;omega) (by show v8=_;omega) t1
  · have mH:j=n:=by omega
    -- the X1
    let hs:=L.map Prod.snd
    let c:aO:=⟨t,z,mb,⟨zp % 4294967296,cm,zg % 65536⟩,zv % 256,z1,hs⟩
    let v:aV:={ s2 with held:=out }
    have hlen:hs.length<=2:=by show(L.map Prod.snd).length<=2;rw[List.length_map];omega
    have cg:∀x,Good t l x->c=x:=fun x hx=>by
      obtain⟨e1,e2,e3,_⟩:=tr x hx;have h5:=(tr1 x hx).1;have h6:=(ZZ x hx).1;have h7:=(tr3 x hx).1;have h9:=(tr4 x hx).1;have ok:=hx.gC.root;have lv:=hx.gC.lev;obtain⟨k1,k2,k3⟩:=ok;have i1:=p2 (by omega);have i3:=q2 (by omega);have i4:=v2 (by omega);refine aO.ext hx.ai.symm e1 e3 ?_ (by show zv % 256=_;omega) e2 ?_
      · show(⟨zp % 4294967296,cm,zg % 65536⟩ : Rf)=x.root;have u1:zp % 4294967296=x.root.p:=by omega
        have u2:cm=x.root.c:=by omega
        have u3:zg % 65536=x.root.g:=by omega
        rw[u1,u2,u3]
      · show L.map Prod.snd=x.held;rw[(Z3 x hx).1,mH,Qd x hx,List.take_length]
    have zL:vC c:=⟨rt,rm.1,⟨by show 0<=zp % 4294967296/\zp % 4294967296<=4294967295;omega,rc,by show 0<=zg % 65536/\zg % 65536<=65535;omega⟩,by show 0<=zv % 256/\zv % 256<=255;omega,fun h hm=>by
      obtain⟨p,hp,rfl⟩:=List.mem_map.1 hm;exact(hL p hp).2.1⟩
    have sr:bL (fun q=>w0.heap.size<=q/\q≠b3/\q≠rb/\q≠b1) fR.heap v c:=by
      refine⟨rfl,rfl,om.ext RI fun q hq h=>by omega,rfl,rfl,rfl,L,rfl,KS.rd,fun _ q hq=>?_,fun p hp=>(hL p hp).1.mono fun q hq=>?_⟩
      · have:=(yy hq).1;have:=x0.size;omega
      · have:=hq.1;have:=x0.size;omega
    have ME:=xw RI
    have zero:∀{w'},Ext No fR w'->(∀ x,¬ Good t l x)->List.length aR.cells=9/\gT w' (Addr.mk b1 0 none) aR.cells fun dH =>
        ∃c:Int,Cell dH (Addr.mk b1 0 none) (.int .u32 c)/\∃jz:Int,Cell dH ((Addr.mk b1 0 none).add 1) (.int .i64 jz)/\∃ia:Sl,Cell dH ((Addr.mk b1 0 none).add 2) (.slice ia.a ia.len ia.cap)/\∃oN:Int,Cell dH ((Addr.mk b1 0 none).add 3) (.int .u32 oN)/\∃oO:Int,Cell dH ((Addr.mk b1 0 none).add 4) (.int .u64 oO)/\∃jY:Int,Cell dH ((Addr.mk b1 0 none).add 5) (.int .u16 jY)/\∃qA:Int,Cell dH ((Addr.mk b1 0 none).add 6) (.int .u8 qA)/\∃oP:Int,Cell dH ((Addr.mk b1 0 none).add 7) (.int .i64 oP)/\∃lG:Sl,Cell dH ((Addr.mk b1 0 none).add 8) (.slice lG.a lG.len lG.cap)/\K c jz ia oN oO jY qA oP lG 5 dH:=fun {w'} x V8=>by
      refine⟨rfl,gT.all (ad (Ui RI) x) rfl aR.one fun dH wo yl _=>?_⟩;have V9:Ext (·=b1) w' dH:=yl;exact⟨aR.ai,Cell.ah wo rfl,aR.ay,Cell.ah wo rfl,aR.mark,Cell.ah wo rfl,aR.root.p,Cell.ah wo rfl,aR.root.c,Cell.ah wo rfl,aR.root.g,Cell.ah wo rfl,aR.lev,Cell.ah wo rfl,aR.au,Cell.ah wo rfl,aR.held,Cell.ah wo rfl,k5 dH V8 ((ME.no x).trans V9 fun q hq h=>by omega)⟩
    refine⟨_,Cell.ah (XX RI) rfl,zw r17 fun te _ qm=>If.bne (fun bA=>zero qm fun x hx=>bA ?_) fun h0=>?_⟩
    · obtain⟨_,hf,hd⟩:=Z3 x hx
      have:l.length<=a6:=by
        rw[mH,Qd x hx,List.drop_length,List.flatMap_nil]at hd;exact List.drop_eq_nil_iff.1 hd
      unfold nx;rw[if_neg (by omega)];exact hf
    have se:=ad fc qm;refine⟨v.ai,Cell.ah se rfl,v.ay,Cell.ah se rfl,v.mark,Cell.ah se rfl,v.root.p,Cell.ah se rfl,v.root.c,Cell.ah se rfl,v.root.g,Cell.ah se rfl,v.lev,Cell.ah se rfl,v.au,Cell.ah se rfl,v.held,Cell.ah se rfl,ux (sr.no qm) zL (by show hs.length<=_;omega) (fun Bc hm sO=>If.bne (fun _=>zero (qm.no sO) fun x hx=>hm (by rw[cg x hx];exact hx.may)) fun h=>absurd h (by decide)) fun tb Bc hm o26 sO=>If.bne (fun h=>absurd rfl h) fun _=>?_⟩;have Z5:=(ME.no qm).no sO
    have f8:B8 (eH c):=by
      have Z6:∀{y:List Int},B8 y->B8 (textB y):=fun {y} h z hz=>by
        unfold textB at hz;rcases List.mem_append.1 hz with h1 | h1
        · exact dn _ z h1
        · exact h z h1
      intro y hy;simp only[eH,List.mem_append,List.mem_flatMap,cI]at hy;rcases hy with h | h | h | h | h | h | h | h | ⟨p,hp,h | h | h⟩
      · exact dn _ y h
      · exact dn _ y h
      · exact Z6 zL.mark y h
      · exact dn _ y h
      · exact dn _ y h
      · exact dn _ y h
      · exact dn _ y h
      · exact dn _ y h
      · exact dn _ y h
      · exact dn _ y h
      · exact Z6 (zL.held p hp).wr y h
    refine rD (hb.no Z5) o26.rd h8 f8 (If.not (If.dec (fun he=>?_) fun he=>zero (qm.no sO) fun x hx=>he (by rw[cg x hx];exact hx.form.symm)))
    have acZ:Good t l c:=⟨hm,zL,rfl,he.symm⟩
    have JN:=ad se sO;refine⟨v.ai,Cell.ah JN rfl,v.ay,Cell.ah JN rfl,v.mark,Cell.ah JN rfl,v.root.p,Cell.ah JN rfl,v.root.c,Cell.ah JN rfl,v.root.g,Cell.ah JN rfl,v.lev,Cell.ah JN rfl,v.au,Cell.ah JN rfl,v.held,Cell.ah JN rfl,rfl,gT.all (ad (Ui RI) (qm.no sO)) rfl v.one fun vE SZ V_ _=>?_⟩;have Z7:Ext (·=b1) Bc vE:=V_;exact⟨v.ai,Cell.ah SZ rfl,v.ay,Cell.ah SZ rfl,v.mark,Cell.ah SZ rfl,v.root.p,Cell.ah SZ rfl,v.root.c,Cell.ah SZ rfl,v.root.g,Cell.ah SZ rfl,v.lev,Cell.ah SZ rfl,v.au,Cell.ah SZ rfl,v.held,Cell.ah SZ rfl,k0 v c vE acZ (((sr.no (qm.no sO)).ext Z7 fun q hq h=>hq.2.2.2 h).mono fun q hq=>hq.1) (Z5.trans Z7 fun q hq h=>by omega)⟩
end
end Go.Proofs.YtpjbalhhlaofmaaGreat
namespace Go.Proofs.YtpjbalhhlaofmaaGreat
open Go.V Go.V.Pk
section
variable {w:Wd}
set_option maxHeartbeats 4000000 in
theorem si{t:Int}{b:Sl}{l:List Int}{K:PO}(ht:0<=t/\t<=4294967295)(hb:b_ w.heap b l)(h8:B8 l)(hl:l.length<=1000000000)
  (k5:∀w',(∀x,¬ Good t l x)->Ext No w w'->K.at aR 5 w') (k0:∀v x w',Good t l x->bL (w.heap.size<=·) w'.heap v x->Ext No w w'->K.at v 0 w'):fW t b w K:=by
 apply GW;refine af.mk fun b1 w1 n1=>AM (hb.no n1.ext) h8 (by omega) fun rb rs w2 r2 Jl hrs x2=>af.mk fun b2 w3 n3=>aQ.mk n3.get (by simp) rfl fun w4 h4=>?_
 have e1:=n1.at_;have z1:=n1.size;have z2:=x2.size;have e3:=n3.at_;have z3:=n3.size;have x4:Ext (·=b2) w3 w4:=h4.ext;have z4:=h4.size;have fJ:=n1.ext.no x2;have ib:=fJ.no n3.ext;have fg:Ext No w w4:=ib.trans x4 fun q hq h=>by omega
 have g1:w4.heap[b1]? = some (.cells aR.cells.toArray 33 (0,0)):=ag (ad (ad n1.get x2) n3.ext) x4 (by omega);have g2:w4.heap[b2]? = some (.cells [.pointer (some ⟨rb,0,none⟩)].toArray 70 (0,0)):=h4.get n3.get;have rlt:rb < w2.heap.size:=by obtain⟨T,hT⟩:=r2.aj;exact(Array.getElem?_eq_some_iff.1 hT).1
 have r4:kP w4.heap rb rs l 0 0:=(r2.no n3.ext).ext x4 (by omega) fun i hi h=>by have:=(hrs i hi).2;omega
 let X:Pw:=fun w'=>Ext (·=rb) w4 w'
 have g2X:∀{w'},X w'->w'.heap[b2]? = some (.cells [.pointer (some ⟨rb,0,none⟩)].toArray 70 (0,0)):=fun x=>ag g2 x (by omega)
 -- S2 is read
 have t1:=fO (t:=t) (l:=l) (a:=0) (f:=0) (n:=fun x=>x.ay.toNat) (rest:=fun x=>numB x.au.toNat++(textB x.mark++rest3 x)) (fun x hx=>⟨rfl,by rw[List.drop_zero,<- hx.form];rfl⟩) fun x hx=>by have:=hx.le;omega
 generalize ea1:(bH l 0 0).2.1=a1 at *;generalize ef1:(bH l 0 0).2.2=f1 at *;generalize ev1:(bH l 0 0).1=v1 at *;have t2:=fO (n:=fun x=>x.au.toNat) (rest:=fun x=>textB x.mark++rest3 x) (fun x hx=>(t1 x hx).2) fun x hx=>by have:=hx.le;omega
 generalize ea2:(bH l a1 f1).2.1=a2 at *;generalize ef2:(bH l a1 f1).2.2=f2 at *;generalize ev2:(bH l a1 f1).1=v2 at *
 have t3:a2<=l.length->∀x,Good t l x->(cB 16 l a2 f2).1=x.mark/\(cB 16 l a2 f2).2.2=0/\l.drop (cB 16 l a2 f2).2.1=rest3 x:=fun hle x hx=>by
  obtain⟨_,hf,hd⟩:=t2 x hx;have h16:=hx.le.2.2.2.2.1;obtain⟨e1,e2⟩:=vV (most:=16) hle hd (by omega) (by decide);rw[hf,e1];exact⟨rfl,rfl,e2⟩
 have rx:=sg (a:=a2) (f:=f2) (most:=16) h8 (by decide);generalize ea3:(cB 16 l a2 f2).2.1=a3 at *;generalize ef3:(cB 16 l a2 f2).2.2=f3 at *;generalize ev3:(cB 16 l a2 f2).1=mb at *
 -- the steps
 have sm1:∀{w7:Wd}{K':Int->Pw},X w7->kP w7.heap rb rs l 0 0->(∀z w',kP w'.heap rb rs l a1 f1->0<=z->z<=1001->(v1<=1000->z=v1)->X w'->Ext (·=rb) w7 w'->K' z w')->aD pz false (.func (.func 33) #[] #[.pointer (some (Addr.mk b2 0 none))]) [.int .u64 1000] [.one (.int .u64)] K' cc w7:=fun {w7 K'} x r k' =>
  eF (iG ⟨by decide,by decide⟩ (g2X x) r fun z w' r' h0 h1 h2 x' _=>k' z w' (by rw[ea1,ef1]at r';exact r') h0 h1 (by rw[ev1]at h2;exact h2) (Ext.trans x x' fun _ _ h=>h) x')
 have sm2:∀{w7:Wd}{K':Int->Pw},X w7->kP w7.heap rb rs l a1 f1->(∀z w',kP w'.heap rb rs l a2 f2->0<=z->z<=1001->(v2<=1000->z=v2)->X w'->Ext (·=rb) w7 w'->K' z w')->aD pz false (.func (.func 33) #[] #[.pointer (some (Addr.mk b2 0 none))]) [.int .u64 1000] [.one (.int .u64)] K' cc w7:=fun {w7 K'} x r k' =>
  eF (iG ⟨by decide,by decide⟩ (g2X x) r fun z w' r' h0 h1 h2 x' _=>k' z w' (by rw[ea2,ef2]at r';exact r') h0 h1 (by rw[ev2]at h2;exact h2) (Ext.trans x x' fun _ _ h=>h) x')
 have tx:∀{w7:Wd}{K':Sl->Pw},X w7->kP w7.heap rb rs l a2 f2->(∀s w',kP w'.heap rb rs l a3 f3->aK w'.heap w7.heap.size s mb->X w'->Ext (·=rb) w7 w'->K' s w')->aY (some ⟨rb,0,none⟩) 16 w7 K':=fun {w7 K'} x r k' =>
  qi (by decide) r (by omega) fun s w' r' x' o'=>k' s w' (by rw[ea3,ef3]at r';exact r') (by rw[ev3]at o';exact o') (Ext.trans x x' fun _ _ h=>h) x'
 have fin:∀{w8:Wd}{b3:Nat}{s3:Sl}{z z1:Int},X w8->w8.heap[b3]? = some (.cells aR.cells.toArray 33 (0,0))->w4.heap.size<=b3->a2<=l.length->kP w8.heap rb rs l a3 f3->pe (fun q=>w4.heap.size<=q/\q≠b3) w8.heap s3 mb->(v1<=1000->z=v1)->(v2<=1000->z1=v2)->
   List.length (α:=Value) [.int .u32 t,.int .i64 z,.slice s3.a s3.len s3.cap,.int .u32 0,.int .u64 0,.int .u16 0,.int .u8 0,.int .i64 z1,.slice none 0 0]=9/\gT w8 (Addr.mk b3 0 none) [.int .u32 t,.int .i64 z,.slice s3.a s3.len s3.cap,.int .u32 0,.int .u64 0,.int .u16 0,.int .u8 0,.int .i64 z1,.slice none 0 0] fun w9=>X w9/\PQ b1 b2 b3 b w9 K:=fun {w8 b3 s3 z z1} x8 g8 vB hle r8 q8 hz Ls=>by
  refine⟨rfl,gT.all g8 rfl ({ aR with ai:=t,ay:=z,mark:=s3,au:=z1 }:aV).one fun w9 g9 x9 _=>?_⟩;have DD:Ext (·=b3) w8 w9:=x9;have Dy:X w9:=Ext.trans x8 DD fun q hq h=>by omega
  have y9:=Ext.size Dy;have JO:Ext No w w9:=fg.trans Dy fun q hq h=>by omega
  refine⟨Dy,MD (mb:=mb) (a:=a3) (f:=f3) (rs:=rs) JO (by omega) (by have:=fg.size;omega) (by have:=n1.ext.size;omega) ⟨by omega,by omega,by omega,by omega,by omega,by omega⟩ (fun i hi=>by have:=(hrs i hi).2;exact⟨by omega,by omega⟩) (ag g1 Dy (by omega)) (g2X Dy) g9 (r8.ext DD (by omega) fun i hi h=>by have:=(hrs i hi).2;omega) ((q8.ext DD fun q hq h=>hq.2 h).mono fun q hq=>⟨by have:=fg.size;omega,hq.2,by omega,by omega⟩) ⟨rx.1,by have:=rx.2;omega⟩ ht hb hl (fun x hx=>?_) k5 k0⟩;obtain⟨u1,_,_⟩:=t1 x hx;obtain⟨u2,_,_⟩:=t2 x hx;obtain⟨u3,u4,u5⟩:=t3 hle x hx;have hx2:=hx.le;have c1:=hz (by omega);have c2:=Ls (by omega);exact⟨by omega,by omega,u3,u4,u5⟩
 have Xd:X (aa w4):=(Ext.refl (·=rb) w4).drew;have rd:kP (aa w4).heap rb rs l 0 0:=r4.no (Ext.refl _ _).drew;refine⟨X,Xd,some ⟨rb,0,none⟩,ae.dI (Cell.ah g2 rfl) (by show ¬ b2=rb;omega),⟨?_,?_⟩⟩
 .refine sm1 Xd rd fun z w5 r5 z0 zm zv x5 _=>⟨x5,Ar.i64 (by omega) ⟨?_,?_⟩⟩
  .refine sm2 x5 r5 fun z1 w6 r6 y0 ym yv x6 _=>⟨x6,Ar.i64 (by omega) ⟨?_,?_⟩⟩
   .refine tx x6 r6 fun s3 w7 r7 o7 x7 _=>⟨x7,af.mk fun b3 w8 n8=>?_⟩
    have x8:X w8:=Ext.trans x7 n8.ext fun _ _ h=>h.elim
    have:=n8.at_;have:=Ext.size x7;have:=Ext.size x6;refine⟨x8,fin x8 n8.get (by omega) r6.le (r7.no n8.ext) ((pe.own o7 fun q h1 h2=>⟨by omega,by omega⟩).no n8.ext) zv yv⟩
   .refine af.mk fun b3 OJ Mt=>?_
    have SV:X OJ:=Ext.trans x6 Mt.ext fun _ _ h=>h.elim
    have:=Mt.at_;have:=Mt.size;have:=Ext.size x6;refine⟨SV,tx SV (r6.no Mt.ext) fun s3 IB r32 o32 PN y32=>⟨PN,fin PN (ag Mt.get y32 (by omega)) (by omega) r6.le r32 (pe.own o32 fun q h1 h2=>⟨by omega,by omega⟩) zv yv⟩⟩
  .refine af.mk fun b3 w55 Z8=>?_
   have x55:X w55:=Ext.trans x5 Z8.ext fun _ _ h=>h.elim
   have:=Z8.at_;have:=Z8.size;have:=Ext.size x5;refine⟨x55,sm2 x55 (r5.no Z8.ext) fun z1 w56 r56 y0 ym yv zY y56=>⟨zY,Ar.i64 (by omega) (tx zY r56 fun s3 w57 r57 o57 DM y57=>⟨DM,fin DM (ag (ag Z8.get y56 (by omega)) y57 (by omega)) (by omega) r56.le r57 (pe.own o57 fun q h1 h2=>⟨by have:=y56.size;omega,by have:=y56.size;omega⟩) zv yv⟩)⟩⟩
 .refine af.mk fun b3 w80 Z9=>?_
  have x80:X w80:=Ext.trans Xd Z9.ext fun _ _ h=>h.elim
  have e80:=Z9.at_;have z80:=Z9.size;have e4:(aa w4).heap.size=w4.heap.size:=rfl;refine⟨x80,sm1 x80 (rd.no Z9.ext) fun z w81 r81 z0 zm zv x81 y81=>⟨x81,Ar.i64 (by omega) (sm2 x81 r81 fun z1 w82 r82 y0 ym yv x82 y82=>⟨x82,Ar.i64 (by omega) (tx x82 r82 fun s3 w83 r83 o83 x83 y83=>⟨x83,fin x83 (ag (ag (ag Z9.get y81 (by omega)) y82 (by omega)) y83 (by omega)) (by omega) r82.le r83 (pe.own o83 fun q h1 h2=>⟨by have:=y81.size;have:=y82.size;omega,by have:=y81.size;have:=y82.size;omega⟩) zv yv⟩)⟩)⟩⟩
end
end Go.Proofs.YtpjbalhhlaofmaaGreat
namespace Go.Proofs.YtpjbalhhlaofmaaGreat
open Go.V Go.V.Pk
section
variable {w:Wd} {Q:Nat->Prop}
theorem Wa{base:Nat}{s x:Sl}{A B:List Int}{K:Sl->Pw}(o:aK w.heap base s A)(hb:base<=w.heap.size)(r:b_ w.heap x B)(hA:A.length<=1000000)(hB:B.length<=1000000)
  (k:∀s' w',aK w'.heap base s' (A++B)->Ext (fun q=>s.aj=some q) w w'->K s' w'):bg pz 23 23 s (.slice x.a x.len x.cap) K w:=
 c_ o hb r.src (by have:=aK.len o;have:=b_.len r;omega) fun s' w' o' _ x' _=>k s' w' (by show bf _ _ 5 1 s' ((A++B).map _);rw[List.map_append];exact o') x'
theorem rU{base:Nat}{s:Sl}{A:List Int}{n:Int}{K:Sl->Pw}(o:aK w.heap base s A)(hb:base<=w.heap.size)(hA:A.length<=1000000)(hn:0<=n/\n<=18446744073709551615)
  (k:∀s' w',aK w'.heap base s' (A++numB n.toNat)->Ext (fun q=>s.aj=some q) w w'->K s' w'):cD n w fun r w3=>bg pz 23 23 s (.slice r.a r.len r.cap) K w3:=by
 refine rq _ (Nat.le_refl _) hn.1 hn.2 fun r w1 o1 x1=>Wa (o.no x1) (by have:=x1.size;omega) o1.rd hA (by have:=aI (n:=n.toNat) (by omega);omega) fun s' w' o' x'=>k s' w' o' (x1.aE.trans x' fun _ _ h=>h)
theorem KW{base:Nat}{s y:Sl}{A t:List Int}{K:Sl->Pw}(o:aK w.heap base s A)(hb:base<=w.heap.size)(hA:A.length<=1000000)(ht:b_ w.heap y t)(hl:t.length<=100000)
  (k:∀s' w',aK w'.heap base s' (A++textB t)->Ext (fun q=>s.aj=some q) w w'->K s' w'):iZ y w fun r w3=>bg pz 23 23 s (.slice r.a r.len r.cap) K w3:=by
 refine Fl ht (by omega) fun r w1 o1 x1=>Wa (o.no x1) (by have:=x1.size;omega) o1.rd hA (by have:=aI (n:=t.length) (by omega);rw[List.length_append];omega) fun s' w' o' x'=>k s' w' o' (x1.aE.trans x' fun _ _ h=>h)
set_option maxHeartbeats 2000000 in
theorem vW{v:aV}{x:aO}{K:Sl->Pw}(r:bL Q w.heap v x)(rg:vC x)(may:pM x)(k:∀t w',aK w'.heap w.heap.size t (eH x)->Ext No w w'->K t w'):lN v.ai v.ay v.mark v.root.p v.root.c v.root.g v.lev v.au v.held w K:=by
 apply EZ;refine af.mk fun b w1 n1=>?_
 have g1:w1.heap[b]? = some (.cells v.cells.toArray 33 (0,0)):=n1.get;have hb:=n1.at_;have z1:=n1.size;have e1:=r.ay;have e2:=r.au;have e4:=r.root;have e5:=r.lev;have lh:=r.held.len;obtain⟨m1,m2,m3,m4,m5,m6,m7,m8⟩:=may;obtain⟨k1,k2,k3⟩:=rg.root;have lv:=rg.lev;have Hy:x.held.length<=2:=by rcases m8 with⟨a,h,_⟩ | ⟨a,c,h,_⟩ <;> rw[h] <;> simp
 have hh:∀y∈x.held,y.wr.length=32:=fun y hy=>by
  rcases m8 with⟨a,h,h1⟩ | ⟨a,c,h,h1,h2,_⟩ <;> rw[h]at hy <;> simp at hy
  .rw[hy];exact h1
  .rcases hy with e | e <;> rw[e] <;> assumption
 have q1:=aI (n:=x.ay.toNat) (by omega);have q2:=aI (n:=x.au.toNat) (by omega);have q3:=xn x.mark (by omega);have q4:=aI (n:=x.root.p.toNat) (by omega);have q5:=aI (n:=x.root.c.toNat) (by omega);have q6:=aI (n:=x.root.g.toNat) (by omega);have q7:=aI (n:=x.lev.toNat) (by omega);have q8:=aI (n:=x.held.length) (by omega);have up:∀{w2 w3:Wd}{s:Sl}{A:List Int},Ext No w1 w2->aK w2.heap w1.heap.size s A->Ext (fun q=>s.aj=some q) w2 w3->Ext No w1 w3:=fun {w2 w3 s A} x o y=>x.trans y fun q hq h=>by have:=(o.lt h).1;omega
 refine⟨_,Cell.ah g1 rfl,Ar.u64 (by omega) (rq _ (Nat.le_refl _) (by omega) (by omega) fun s w2 o2 x2=>?_)⟩;rw[e1]at o2;refine⟨_,Cell.ah (ad g1 x2) rfl,Ar.u64 (by omega) (rU o2 x2.size (by omega) (by omega) fun s w4 o4 x4=>?_)⟩;have fI:=up x2 o2 x4;rw[e2]at o4;refine⟨_,Cell.ah (ad g1 fI) rfl,KW o4 fI.size (by rw[List.length_append];omega) (r.mark.no (n1.ext.no fI)).rd (by omega) fun s w6 o6 x6=>?_⟩;have qC:=up fI o4 x6;refine⟨_,Cell.ah (ad g1 qC) rfl,Ar.u64 (by rw[e4];omega) (rU o6 qC.size (by simp only[List.length_append];omega) (by rw[e4];omega) fun s w8 o8 x8=>?_)⟩;have tf:=up qC o6 x8;rw[e4]at o8;refine⟨_,Cell.ah (ad g1 tf) rfl,rU o8 tf.size (by simp only[List.length_append];omega) (by rw[e4];omega) fun s dV Jp dW=>?_⟩;have Wb:=up tf o8 dW;rw[e4]at Jp;refine⟨_,Cell.ah (ad g1 Wb) rfl,Ar.u64 (by rw[e4];omega) (rU Jp Wb.size (by simp only[List.length_append];omega) (by rw[e4];omega) fun s eN Jq fJ=>?_)⟩;have Wc:=up Wb Jp fJ;rw[e4]at Jq;refine⟨_,Cell.ah (ad g1 Wc) rfl,Ar.u64 (by omega) (rU Jq Wc.size (by simp only[List.length_append];omega) (by omega) fun s cM SS BA=>?_)⟩;have We:=up Wc Jq BA;rw[e5]at SS;refine⟨_,Cell.ah (ad g1 We) rfl,Ar.u64 (by omega) (rU SS We.size (by simp only[List.length_append];omega) (by omega) fun s kE Ge HT=>?_)⟩;have ac0:=up We SS HT;rw[show((v.held.len:Nat):Int).toNat=x.held.length by omega]at Ge
 obtain⟨A,hA⟩ : ∃A,A=((((((numB x.ay.toNat++numB x.au.toNat)++textB x.mark)++numB x.root.p.toNat)++numB x.root.c.toNat)++numB x.root.g.toNat)++numB x.lev.toNat)++numB x.held.length:=⟨_,rfl⟩
 have hAl:A.length<=1000:=by rw[hA];simp only[List.length_append];omega
 rw[<- hA]at Ge;have hfm:eH x=A++x.held.flatMap cI:=by rw[hA];simp only[eH,List.append_assoc]
 clear SS Jq Jp o8 o6 o4 o2;refine⟨fun m s i w'=>∃j:Nat,i=j/\j<=x.held.length/\m=x.held.length - j/\aK w'.heap w1.heap.size s (A++(x.held.take j).flatMap cI)/\(A++(x.held.take j).flatMap cI).length<=1000+j * 100/\Ext No w1 w',⟨_,0,rfl,Nat.zero_le _,rfl,by simpa using Ge,by simpa using hAl,ac0⟩,?_⟩;rintro _ m0 s17 _ fR ⟨j,rfl,hj,rfl,KS,hlen,l_⟩;refine⟨_,Cell.ah (ad g1 l_) rfl,If.dec (fun h=>?_) fun h=>?_⟩
 .refine⟨_,Cell.ah (ad g1 l_) rfl,rC (r.held.no (n1.ext.no l_)) (by omega) h fun b1 o1 u hi hu hc=>⟨_,hc 0 _ rfl,?_⟩⟩;have eO:j < x.held.length:=hi;have el:x.held[((j:Nat):Int).toNat]'hi=x.held[j]:=rfl;rw[el]at hu;have cN:x.held[j]∈x.held:=List.getElem_mem eO;have h32:=hh _ cN;have hr:=rg.held _ cN;have tk:=dO eO;have dT:∀{w':Wd},Ext No w1 w'->cW Q w'.heap v.held x.held:=fun x=>r.held.no (n1.ext.no x)
  have NL:∀{w':Wd}(iO:((j:Nat):Int).toNat < x.held.length)(u':ej),dF Q w'.heap u' (x.held[((j:Nat):Int).toNat]'iO)->dF Q w'.heap u' (x.held[j]'eO):=fun _ _ h=>h
  generalize x.held[j]=h0 at *;have hg:=hr.gen;have hcm:=hr.cm;have f1:=aI (n:=h0.gen.toNat) (by omega);have f2:=aI (n:=h0.cm.toNat) (by omega);have f3:=xn h0.wr (by omega);have eg:=hu.gen;refine Ar.u64 (by omega) (rU KS l_.size (by omega) (by omega) fun VR uK ZP vQ=>?_);have S3:=up l_ KS vQ;refine⟨_,Cell.ah (ad g1 S3) rfl,rC (dT S3) (by omega) h fun b2 o2 u2 uJ Rm LC=>⟨_,LC 1 _ rfl,?_⟩⟩;have ec:=(NL uJ _ Rm).cm;refine rU ZP S3.size (by simp only[List.length_append]at hlen ⊢;rw[eg];omega) (by omega) fun s21 uL Un NJ=>?_
  have S4:=up S3 ZP NJ;refine⟨_,Cell.ah (ad g1 S4) rfl,rC (dT S4) (by omega) h fun b3 o3 u3 Jr Y4 Ss=>⟨_,Ss 2 _ rfl,?_⟩⟩;refine KW Un S4.size (by simp only[List.length_append]at hlen ⊢;rw[eg,ec];omega) (NL Jr _ Y4).wr.rd (by omega) fun s23 rJ o23 lH=>Ar.i64 (by omega) ⟨_,by omega,j+1,by omega,by omega,rfl,?_,?_,up S4 Un lH⟩
  .have e:A++(x.held.take (j+1)).flatMap cI=((A++(x.held.take j).flatMap cI++numB u.gen.toNat)++numB u2.cm.toNat)++textB h0.wr:=by
    rw[tk,List.flatMap_append,eg,ec];simp[cI]
   rw[e];exact o23
  .rw[tk,List.flatMap_append];simp only[List.flatMap_cons,List.flatMap_nil,List.length_append,List.append_nil,cI]at hlen ⊢;omega
 .have x_:j=x.held.length:=by omega
  rw[x_,List.take_length,<- hfm]at KS;exact k s17 fR (KS.mono n1.ext.size) (n1.ext.no l_)
end
end Go.Proofs.YtpjbalhhlaofmaaGreat
namespace Go.Proofs.YtpjbalhhlaofmaaGreat
open Go.V Go.V.Pk
section
variable {w:Wd}
theorem aQ.cl{b j:Nat}{cs:List Value}{T:TypeId}{v:Value}{K:Pw}(hb:w.heap[b]? = some (.cells cs.toArray T (0,0)))(ho:j < cs.length)(hv:aJ v=true)
  (k:∀w',gB w b (.cells (cs.set j v).toArray T (0,0)) w'->K w'):aQ w ((Addr.mk b 0 none).add j) v K:=by
 rw[aw rfl,Nat.zero_add];exact aQ.mk hb ho hv k
theorem aQ.cl2{b i j:Nat}{cs:List Value}{T:TypeId}{v:Value}{K:Pw}(hb:w.heap[b]? = some (.cells cs.toArray T (0,0)))(ho:i+j < cs.length)(hv:aJ v=true)
  (k:∀w',gB w b (.cells (cs.set (i+j) v).toArray T (0,0)) w'->K w'):aQ w (((Addr.mk b 0 none).add i).add j) v K:=by
 rw[aw (a:=Addr.mk b 0 none) rfl,aw rfl,Nat.zero_add];exact aQ.mk hb ho hv k
theorem vX{c:aO}(zL:vC c):B8 (eH c):=by
 have Z6:∀{y:List Int},B8 y->B8 (textB y):=fun {y} h z hz=>by
  unfold textB at hz;rcases List.mem_append.1 hz with h1 | h1
  .exact dn _ z h1
  .exact h z h1
 intro y hy;simp only[eH,List.mem_append,List.mem_flatMap,cI]at hy;rcases hy with h | h | h | h | h | h | h | h | ⟨p,hp,h | h | h⟩
 .exact dn _ y h
 .exact dn _ y h
 .exact Z6 zL.mark y h
 .exact dn _ y h
 .exact dn _ y h
 .exact dn _ y h
 .exact dn _ y h
 .exact dn _ y h
 .exact dn _ y h
 .exact dn _ y h
 .exact Z6 (zL.held p hp).wr y h
set_option maxHeartbeats 8000000 in
theorem FD{t:Int}{b:Sl}{l:List Int}{K:PO}(ht:0<=t/\t<=4294967295)(hb:b_ w.heap b l)(h8:B8 l)(hl:l.length<=1000000000)
    (k5:∀w',(∀x,¬ Good t l x)->Ext No w w'->K.at aR 5 w') (k0:∀v x w',Good t l x->bL (w.heap.size<=·) w'.heap v x->Ext No w w'->K.at v 0 w'):iY t b w K:=by
  apply CB
  refine af.mk fun b1 w1 n1=>af.mk fun b2 w2 n2=>af.mk fun b3 w3 n3=>⟨rfl,gT.all n3.get rfl ({ aR with ai:=t }:aV).one fun w4 g3 x4 z4=>?_⟩
  have e1:=n1.at_;have z1:=n1.size;have e2:=n2.at_;have z2:=n2.size;have e3:=n3.at_;have z3:=n3.size;have Ce:Ext (·=b3) w3 w4:=x4;have ib:Ext No w w3:=(n1.ext.no n2.ext).no n3.ext;have fg:Ext No w w4:=ib.trans Ce fun q hq h=>by omega
  have g1:w4.heap[b1]? = some (.cells aR.cells.toArray 33 (0,0)):=ag (ad (ad n1.get n2.ext) n3.ext) Ce (by omega);have bl:l≠[]->∀i,b.aj=some i->i < w.heap.size:=fun bA i hi=>Rd.lt hb (by simpa using bA) hi
  have r4:kP w4.heap b2 b l 0 0:=by
    refine⟨⟨82,ag (ad n2.get n3.ext) Ce (by omega)⟩,hb.no fg,fun bA h=>by have:=bl bA _ h;omega,h8,Nat.zero_le _,by omega⟩
  let E:Pw:=fun w'=>Ext (fun q=>q=b2∨q=b3) w4 w'
  have HS:∀{w' gE},E w'->Ext (·=b2) w' gE->E gE:=fun x y=>Ext.trans x y fun q _ h=> .inl h
  have X2:∀{w' gE},E w'->Ext (·=b3) w' gE->E gE:=fun x y=>Ext.trans x y fun q _ h=> .inr h
  have xw:∀{w'},E w'->Ext No w w':=fun x=>fg.trans x fun q hq h=>by omega
  have Ui:∀{w'},E w'->w'.heap[b1]? = some (.cells aR.cells.toArray 33 (0,0)):=fun x=>ag g1 x (by omega)
  have r3:∀{w' gE:Wd}{a:Nat}{f:Int},kP w'.heap b2 b l a f->Ext (·=b3) w' gE->kP gE.heap b2 b l a f:=fun r x=>r.LI x (by omega) fun bA i hi h=>by have:=bl bA i hi;omega
  have st:∀{w' gE:Wd}{o:Obj},w'.heap[b3]? = some o->Ext (·=b2) w' gE->gE.heap[b3]? = some o:=fun g x=>ag g x (by omega)
  have E4:E w4:=Ext.refl _ _
  -- ay and au
  have t1:=fO (t:=t) (l:=l) (a:=0) (f:=0) (n:=fun x=>x.ay.toNat) (rest:=fun x=>numB x.au.toNat++(textB x.mark++rest3 x)) (fun x hx=>⟨rfl,by rw[List.drop_zero,<- hx.form];rfl⟩) fun x hx=>by have:=hx.le;omega
  refine bV r4 fun w5 r5 x5 z5=>?_
  have E5:=HS E4 x5;have g5:=st g3 x5;have y1:=fK (a:=0) (f:=0) h8;generalize ea1:(bH l 0 0).2.1=a1 at *;generalize ef1:(bH l 0 0).2.2=f1 at *;generalize ev1:(bH l 0 0).1=v1 at *;have t2:=fO (n:=fun x=>x.au.toNat) (rest:=fun x=>textB x.mark++rest3 x) (fun x hx=>(t1 x hx).2) fun x hx=>by have:=hx.le;omega
  refine bV r5 fun w6 r6 x6 z6=>?_
  have E6:=HS E5 x6;have g6:=st g5 x6;have y2:=fK (a:=a1) (f:=f1) h8;generalize ea2:(bH l a1 f1).2.1=a2 at *;generalize ef2:(bH l a1 f1).2.2=f2 at *;generalize ev2:(bH l a1 f1).1=v2 at *
  -- the mark
  have t3:∀x,Good t l x->(cB 16 l a2 f2).1=x.mark/\(cB 16 l a2 f2).2.2=0/\l.drop (cB 16 l a2 f2).2.1=rest3 x:=fun x hx=>by
    obtain⟨_,hf,hd⟩:=t2 x hx;have h16:=hx.le.2.2.2.2.1;obtain⟨e1,e2⟩:=vV (most:=16) r6.le hd (by omega) (by decide);rw[hf,e1];exact⟨rfl,rfl,e2⟩
  refine mJ (by decide) r6 (by omega) fun s7 w7 r7 x7 o7=>?_
  have E7:=HS E6 x7;have g7:=st g6 x7;have y3:=sg (a:=a2) (f:=f2) (most:=16) h8 (by decide);generalize ea3:(cB 16 l a2 f2).2.1=a3 at *;generalize ef3:(cB 16 l a2 f2).2.2=f3 at *;generalize ev3:(cB 16 l a2 f2).1=mb at *;have sz6:=Ext.size E6;have om:pe (fun q=>w4.heap.size<=q) w7.heap s7 mb:=pe.own o7 fun q h1 h2=>by omega
  have xw7:=xw E7;have fc:=Ui E7;have sz7:=Ext.size E7;clear xw Ui X2 HS E4 E5 E6 E7;clear E
  let E:Pw:=fun w'=>Ext (fun q=>q=b2∨q=b3) w7 w'
  have HS:∀{w' gE},E w'->Ext (·=b2) w' gE->E gE:=fun x y=>Ext.trans x y fun q _ h=> .inl h
  have X2:∀{w' gE},E w'->Ext (·=b3) w' gE->E gE:=fun x y=>Ext.trans x y fun q _ h=> .inr h
  have xw:∀{w'},E w'->Ext No w w':=fun x=>xw7.trans x fun q hq h=>by omega
  have Ui:∀{w'},E w'->w'.heap[b1]? = some (.cells aR.cells.toArray 33 (0,0)):=fun x=>ag fc x (by omega)
  have omE:∀{w'},E w'->pe (fun q=>w4.heap.size<=q) w'.heap s7 mb:=fun x=>(om.lt.ext x fun q hq h=>by omega).mono fun q hq=>hq.1
  have E7:E w7:=Ext.refl _ _;refine aQ.cl g7 (by simp) rfl fun w8 h8'=>?_
  have x8:Ext (·=b3) w7 w8:=h8'.ext;have E8:=X2 E7 x8
  let s1:aV:={ aR with ai:=t,mark:=s7 }
  have g8:w8.heap[b3]? = some (.cells s1.cells.toArray 33 (0,0)):=h8'.get g7;have r8:=r3 r7 x8
  -- the acY and the aG
  have t4:=fO (n:=fun x=>x.root.p.toNat) (rest:=rest4) (fun x hx=>(t3 x hx).2) fun x hx=>by have:=hx.gC.root.1;omega
  refine bV r8 fun w9 r9 x9 z9=>?_
  have E9:=HS E8 x9;have g9:=st g8 x9;have y4:=fK (a:=a3) (f:=f3) h8;generalize ea4:(bH l a3 f3).2.1=a4 at *;generalize ef4:(bH l a3 f3).2.2=f4 at *;generalize ev4:(bH l a3 f3).1=v4 at *;have t5:=fO (n:=fun x=>x.root.c.toNat) (rest:=rest5) (fun x hx=>(t4 x hx).2) fun x hx=>by have:=hx.gC.root.2.1;omega
  refine bV r9 fun dV ZY dW Kv=>?_
  have E10:=HS E9 dW;have nz:=st g9 dW;have y5:=fK (a:=a4) (f:=f4) h8;generalize ea5:(bH l a4 f4).2.1=a5 at *;generalize ef5:(bH l a4 f4).2.2=f5 at *;generalize ev5:(bH l a4 f4).1=v5 at *;refine aQ.cl2 nz (by simp[aV.cells]) rfl fun di CH=>?_
  have fH:Ext (·=b3) dV di:=CH.ext;have E11:=X2 E10 fH
  let s2:aV:={ s1 with root:=⟨0,v5,0⟩ }
  have oS:di.heap[b3]? = some (.cells s2.cells.toArray 33 (0,0)):=CH.get nz;have V1:=r3 ZY fH
  -- generation,level,number of keys
  have t6:=fO (n:=fun x=>x.root.g.toNat) (rest:=rest6) (fun x hx=>(t5 x hx).2) fun x hx=>by have:=hx.gC.root.2.2;omega
  refine bV V1 fun eN RE fJ OQ=>?_
  have E12:=HS E11 fJ;have Cd:=st oS fJ;have y6:=fK (a:=a5) (f:=f5) h8;generalize ea6:(bH l a5 f5).2.1=a6 at *;generalize ef6:(bH l a5 f5).2.2=f6 at *;generalize ev6:(bH l a5 f5).1=v6 at *;have t7:=fO (n:=fun x=>x.lev.toNat) (rest:=rest7) (fun x hx=>(t6 x hx).2) fun x hx=>by have:=hx.gC.lev;omega
  refine bV RE fun cO r13 ew JA=>?_
  have E13:=HS E12 ew;have fN:=st Cd ew;have y7:=fK (a:=a6) (f:=f6) h8;generalize ea7:(bH l a6 f6).2.1=a7 at *;generalize ef7:(bH l a6 f6).2.2=f7 at *;generalize ev7:(bH l a6 f6).1=v7 at *;have t8:=fO (n:=fun x=>x.held.length) (rest:=rest8) (fun x hx=>(t7 x hx).2) fun x hx=>by have:=hx.le;omega
  refine bV r13 fun cM r14 fI OR=>?_
  have SY:=HS E13 fI;have jH:=st fN fI;have y8:=fK (a:=a7) (f:=f7) h8;generalize ea8:(bH l a7 f7).2.1=a8 at *;generalize ef8:(bH l a7 f7).2.2=f8 at *;generalize ev8:(bH l a7 f7).1=v8 at *
  have zero:∀{w'},E w'->(∀ x,¬ Good t l x)->List.length aR.cells=9/\gT w' (Addr.mk b1 0 none) aR.cells fun dH =>
      ∃c:Int,Cell dH (Addr.mk b1 0 none) (.int .u32 c)/\∃jz:Int,Cell dH ((Addr.mk b1 0 none).add 1) (.int .i64 jz)/\∃ia:Sl,Cell dH ((Addr.mk b1 0 none).add 2) (.slice ia.a ia.len ia.cap)/\∃oN:Int,Cell dH ((Addr.mk b1 0 none).add 3) (.int .u32 oN)/\∃oO:Int,Cell dH ((Addr.mk b1 0 none).add 4) (.int .u64 oO)/\∃jY:Int,Cell dH ((Addr.mk b1 0 none).add 5) (.int .u16 jY)/\∃qA:Int,Cell dH ((Addr.mk b1 0 none).add 6) (.int .u8 qA)/\∃oP:Int,Cell dH ((Addr.mk b1 0 none).add 7) (.int .i64 oP)/\∃lG:Sl,Cell dH ((Addr.mk b1 0 none).add 8) (.slice lG.a lG.len lG.cap)/\K c jz ia oN oO jY qA oP lG 5 dH:=fun {w'} x V8=>by
    refine⟨rfl,gT.all (Ui x) rfl aR.one fun dH wo yl _=>?_⟩;have V9:Ext (·=b1) w' dH:=yl;exact⟨aR.ai,Cell.ah wo rfl,aR.ay,Cell.ah wo rfl,aR.mark,Cell.ah wo rfl,aR.root.p,Cell.ah wo rfl,aR.root.c,Cell.ah wo rfl,aR.root.g,Cell.ah wo rfl,aR.lev,Cell.ah wo rfl,aR.au,Cell.ah wo rfl,aR.held,Cell.ah wo rfl,k5 dH V8 ((xw x).trans V9 fun q hq h=>by omega)⟩
  refine⟨fun w'=>cM=w'/\v1<=1000/\v2<=1000/\v4<=4294967295/\v6<=65535/\v7<=255/\v8<=2,?_,?_⟩
  · refine If.dec (fun h=>zero SY fun x hx=>?_) fun h1=>If.dec (fun h=>zero SY fun x hx=>?_) fun h2=>If.dec (fun h=>zero SY fun x hx=>?_) fun h3=>If.dec (fun h=>zero SY fun x hx=>?_) fun h4=>If.dec (fun h=>zero SY fun x hx=>?_) fun h5=>If.dec (fun h=>zero SY fun x hx=>?_) fun h6=>⟨rfl,by omega,by omega,by omega,by omega,by omega,by omega⟩
    · have:=(t1 x hx).1;have:=hx.le;omega
    · have:=(t2 x hx).1;have:=hx.le;omega
    · have:=(t4 x hx).1;have:=hx.gC.root.1;omega
    · have:=(t6 x hx).1;have:=hx.gC.root.2.2;omega
    · have:=(t7 x hx).1;have:=hx.gC.lev;omega
    · have:=(t8 x hx).1;have:=hx.le;omega
  rintro _ _ ⟨rfl,u1,u2,u4,u6,u7,u8⟩
  obtain⟨n,rfl⟩ : ∃n:Nat,v8=n:=⟨v8.toNat,by omega⟩
  have Qd:∀x,Good t l x->n=x.held.length:=fun x hx=>by have:=(t8 x hx).1;omega
  refine Ar.i64 (by omega) (aQ.cl jH (by simp[aV.cells]) rfl fun pf X3=>Ar.i64 (by omega) ?_);have Gd:Ext (·=b3) cM pf:=X3.ext;have X0:pf.heap[b3]? = some (.cells ({ s2 with ay:=v1 }:aV).cells.toArray 33 (0,0)):=X3.get jH;refine aQ.cl X0 (by simp[aV.cells]) rfl fun rJ NK=>Ar.u32 (by omega) ?_
  have lH:Ext (·=b3) pf rJ:=NK.ext;have DH:rJ.heap[b3]? = some (.cells ({ s2 with ay:=v1,au:=v2 }:aV).cells.toArray 33 (0,0)):=NK.get X0;refine aQ.cl DH (by simp[aV.cells]) rfl fun te h24=>Ar.u16 (by omega) ?_
  have qm:Ext (·=b3) rJ te:=h24.ext;have se:te.heap[b3]? = some (.cells ({ s2 with ay:=v1,au:=v2,root:=⟨v4,v5,0⟩ }:aV).cells.toArray 33 (0,0)):=h24.get DH;refine aQ.cl2 se (by simp[aV.cells]) rfl fun dH OW=>Ar.u8 (by omega) ?_
  have yl:Ext (·=b3) te dH:=OW.ext;have wo:dH.heap[b3]? = some (.cells ({ s2 with ay:=v1,au:=v2,root:=⟨v4,v5,v6⟩ }:aV).cells.toArray 33 (0,0)):=OW.get se;refine aQ.cl2 wo (by simp[aV.cells]) rfl fun Bc h26=>?_
  have sO:Ext (·=b3) dH Bc:=h26.ext
  let s3:aV:={ s2 with ay:=v1,au:=v2,root:=⟨v4,v5,v6⟩,lev:=v7 }
  have JN:Bc.heap[b3]? = some (.cells s3.cells.toArray 33 (0,0)):=h26.get wo;have Uo:Ext (·=b3) cM Bc:=(((Gd.trans lH fun _ _ h=>h).trans qm fun _ _ h=>h).trans yl fun _ _ h=>h).trans sO fun _ _ h=>h
  have E26:=X2 SY Uo;have r26:=r3 r14 Uo;clear X3 NK h24 OW h26 X0 DH se wo Gd lH qm yl sO r14
  refine ⟨fun m i w'=>∃ (j:Nat) (out:Sl) (L:List (ej×bX)) (a:Nat) (f:Int),i=j/\j<=n/\m=n - j/\L.length=j/\E w'/\w'.heap[b3]? = some (.cells ({ s3 with held:=out }:aV).cells.toArray 33 (0,0))/\bf w'.heap w7.heap.size 76 3 out (hC L) /\
      (∀p∈L,dF (fun q=>w7.heap.size<=q/\out.aj≠some q) w'.heap p.1 p.2/\j_ p.2)/\kP w'.heap b2 b l a f/\(∀x,Good t l x->L.map Prod.snd=x.held.take j/\f=0/\l.drop a=(x.held.drop j).flatMap cI),
    ⟨_,0,⟨none,0,0⟩,[],a8,f8,rfl,Nat.zero_le _,rfl,rfl,E26,JN,bf.nil _ _ _ _,by simp,r26,fun x hx=>⟨by simp,(t8 x hx).2.1,by rw[List.drop_zero];exact(t8 x hx).2.2⟩⟩,?_⟩
  clear r26 ea8 ef8;rintro _ m0 _ qB ⟨j,out,L,a9,f9,rfl,hj,rfl,XZ,Z_,Up,o27,hL,r27,tr⟩;have z27:=Ext.size Z_;have yy:∀{q:Nat},out.aj=some q->w7.heap.size<=q/\q < qB.heap.size:=fun h=>o27.lt h
  refine If.dec (fun x_=>?_) fun x_=>?_
  · have V7:j < n:=by omega
    have cN:∀x,Good t l x->x.held.getD j ⟨0,0,[]⟩∈x.held:=fun x hx=>by
      have eO:j < x.held.length:=by have:=Qd x hx;omega
      simp[List.getD,eO]
    have Vp:∀x,Good t l x->x.held.drop j=(x.held.getD j ⟨0,0,[]⟩)::x.held.drop (j+1):=fun x hx=>by
      have eO:j < x.held.length:=by have:=Qd x hx;omega
      rw[List.drop_eq_getElem_cons eO];simp[List.getD,eO]
    have tg:=fO (n:=fun x=>(x.held.getD j ⟨0,0,[]⟩).gen.toNat) (rest:=fun x=>numB (x.held.getD j ⟨0,0,[]⟩).cm.toNat++(textB (x.held.getD j ⟨0,0,[]⟩).wr++(x.held.drop (j+1)).flatMap cI)) (fun x hx=>⟨(tr x hx).2.1,by
      rw[(tr x hx).2.2,Vp x hx,List.flatMap_cons]
      simp only[cI,List.append_assoc]⟩) fun x hx=>by have:=(hx.gC.held _ (cN x hx)).gen;omega
    refine bV r27 fun zU r28 Ry z28=>?_
    have yg:=fK (a:=a9) (f:=f9) h8;generalize(bH l a9 f9).2.1=XR at *;generalize(bH l a9 f9).2.2=f10 at *;generalize(bH l a9 f9).1=vg at *;have tc:=fO (n:=fun x=>(x.held.getD j ⟨0,0,[]⟩).cm.toNat) (rest:=fun x=>textB (x.held.getD j ⟨0,0,[]⟩).wr++(x.held.drop (j+1)).flatMap cI) (fun x hx=>(tg x hx).2) fun x hx=>by have:=(hx.gC.held _ (cN x hx)).cm;omega
    refine bV r28 fun zy r29 x29 z29=>?_
    have yc:=fK (a:=XR) (f:=f10) h8;generalize(bH l XR f10).2.1=SQ at *;generalize(bH l XR f10).2.2=f11 at *;generalize(bH l XR f10).1=vc at *
    have tt:∀x,Good t l x->(cB 32 l SQ f11).1=(x.held.getD j ⟨0,0,[]⟩).wr/\(cB 32 l SQ f11).2.2=0/\l.drop (cB 32 l SQ f11).2.1=(x.held.drop (j+1)).flatMap cI:=fun x hx=>by
      obtain⟨_,hf,hd⟩:=tc x hx;have h32:=hx.le.2.2.2.2.2.2.2 _ (cN x hx);obtain⟨e1,e2⟩:=vV (most:=32) r29.le hd (by omega) (by decide);rw[hf,e1];exact⟨rfl,rfl,e2⟩
    refine mJ (by decide) r29 (by omega) fun tx vE r30 V_ o30=>?_
    have yt:=sg (a:=SQ) (f:=f11) (most:=32) h8 (by decide);generalize(cB 32 l SQ f11).2.1=a12 at *;generalize(cB 32 l SQ f11).2.2=f12 at *;generalize(cB 32 l SQ f11).1=wr at *;have Qe:Ext (·=b2) qB vE:=(Ry.trans x29 fun _ _ h=>h).trans V_ fun _ _ h=>h
    refine af.mk fun b4 OJ Mt=>⟨rfl,gT.all Mt.get rfl (⟨0,vc,tx⟩ : ej).one fun IB g32 PN z32=>?_⟩
    have e31:=Mt.at_;have z31:=Mt.size;have s30:=Qe.size;have s29:qB.heap.size<=zy.heap.size:=(Ry.trans x29 fun _ _ h=>h).size;have ac1:Ext (·=b4) OJ IB:=PN;have Uq:Ext No vE IB:=Mt.ext.trans ac1 fun q hq h=>by omega
    have E30:=HS Z_ Qe;have E32:E IB:=Ext.trans E30 Uq fun _ _ h=>h.elim
    refine If.dec (fun h=>zero E32 fun x hx=>?_) fun hvg=>?_
    · have:=(tg x hx).1;have:=(hx.gC.held _ (cN x hx)).gen;omega
    refine Ar.u16 (by omega) (aQ.mk g32 (by simp) rfl fun rH h34=>?_);have Cc:Ext (·=b4) IB rH:=h34.ext;have z34:=h34.size
    let hv:ej:=⟨vg,vc,tx⟩
    let hp:bX:=⟨vg,vc,wr⟩
    have Ur:rH.heap[b4]? = some (.cells hv.cells.toArray 76 (0,0)):=h34.get g32;have Qf:Ext No vE rH:=Uq.trans Cc fun q hq h=>by omega
    have Us:Ext (·=b2) qB rH:=Qe.trans Qf fun _ _ h=>h.elim
    have aaa:=st Up Us;refine⟨out,Cell.ah aaa rfl,hv.gen,Cell.ah Ur rfl,hv.cm,Cell.ah Ur rfl,hv.wr,Cell.ah Ur rfl,af.mk fun b5 NB n35=>?_⟩;have KX:Ext (·=b2) qB NB:=Us.trans n35.ext fun _ _ h=>h.elim
    have Gb:out.len=L.length:=by
      have:=o27.rd.len;rw[aS (AT L)]at this;omega
    have o35:bf NB.heap w7.heap.size 76 3 out (hC L):=o27.ext KX fun q hq h=>by have:=(yy hq).1;omega
    have src:Src pz NB (.slice (some (Addr.mk b5 0 none)) 1 1) 3 1 hv.cells:=(bf.new (sz:=3) (n:=1) n35 rfl hv.one).rd.src;have s35:=KX.size;refine pJ o35 (by omega) src (by rw[Gb];omega) fun s' Dr o36 _ wq oQ=>?_
    have no3:¬ out.aj=some b3:=fun h=>by have:=(yy h).1;omega
    have no2:¬ out.aj=some b2:=fun h=>by have:=(yy h).1;omega
    have RK:Dr.heap[b3]? = some (.cells ({ s3 with held:=out }:aV).cells.toArray 33 (0,0)):=ag (ad aaa n35.ext) wq no3;refine aQ.cl RK (by simp[aV.cells]) rfl fun Jz h37=>?_
    have zX:Ext (·=b3) Dr Jz:=h37.ext;have aab:Ext (fun q=>q=b2∨out.aj=some q) qB Dr:=Ext.trans (KX.mono fun q _ h=> .inl h) wq fun q _ h=> .inr h
    have E36:E Dr:=Ext.trans Z_ aab fun q hq h=>by
      rcases h with h | h
      · exact .inl h
      · have:=(yy h).1;omega
    have E37:=X2 E36 zX
    have key:∀{v y},dF (fun q=>w7.heap.size<=q/\out.aj≠some q) NB.heap v y->dF (fun q=>w7.heap.size<=q/\s'.aj≠some q) Jz.heap v y:=fun {v y} h=>by
      have h2:dF (fun q=>w7.heap.size<=q/\s'.aj≠some q) Dr.heap v y:=by
        refine⟨h.gen,h.cm,((h.wr.lt).ext wq fun q hq h=>hq.1.2 h).mono fun q hq=>⟨hq.1.1,fun h=>?_⟩⟩;rcases oQ with h1 | ⟨b',h1,h3⟩
        · exact hq.1.2 (h1 ▸ h)
        · rw[h1]at h;cases h;have:=hq.2;omega
      exact h2.ext zX fun q hq h=>by have:=hq.1;omega
    refine Ar.u64 (by omega) ⟨n - (j+1),by omega,j+1,s',L++[(hv,hp)],a12,f12,by omega,by omega,rfl,by rw[List.length_append,List.length_singleton,XZ],E37,h37.get RK,?_,fun p n_=>?_,?_,fun x hx=>?_⟩
    · have:bf Jz.heap w7.heap.size 76 3 s' (hC L++hv.cells):=o36.ext zX fun q hq h=>by have:=(o36.lt hq).1;omega
      rw[show hC (L++[(hv,hp)])=hC L++hv.cells by simp[hC]];exact this
    · rcases List.mem_append.1 n_ with h | h
      · obtain⟨q1,q2⟩:=hL p h;exact⟨key (q1.ext KX fun q hq h=>by have:=hq.1;omega),q2⟩
      · rw[List.mem_singleton]at h;subst h;exact⟨key ⟨rfl,rfl,.own (o30.no (Qf.no n35.ext)) fun q h1 h2=>⟨by omega,fun h=>by have:=(yy h).2;omega⟩⟩,⟨by show 0<=vg/\vg<=65535;omega,yc,yt.1⟩⟩
    · have r36:kP Dr.heap b2 b l a12 f12:=(r30.no (Qf.no n35.ext)).LI wq no2 fun bA i hi h=>by have:=(yy h).1;have:=bl bA i hi;omega
      exact r3 r36 zX
    · obtain⟨q1,q2,q3⟩:=tt x hx;have eO:j < x.held.length:=by have:=Qd x hx;omega
      refine⟨?_,q2,q3⟩;have eg:=(tg x hx).1;have ec:=(tc x hx).1;have hr:=hx.gC.held _ (cN x hx);have hg:=hr.gen;have hc:=hr.cm;rw[List.map_append,(tr x hx).1,dO eO];congr 1;have e:x.held.getD j ⟨0,0,[]⟩=x.held[j]:=by simp[List.getD,eO]
      rw[<- e];simp only[List.map_cons,List.map_nil,List.cons.injEq,and_true];exact bX.ext (by show vg=_;omega) (by show vc=_;omega) q1
  · have mH:j=n:=by omega
    let hs:=L.map Prod.snd
    let c:aO:=⟨t,v1,mb,⟨v4,v5,v6⟩,v7,v2,hs⟩
    let v:aV:={ s3 with held:=out }
    have hlen:hs.length<=2:=by show(L.map Prod.snd).length<=2;rw[List.length_map];omega
    have cg:∀x,Good t l x->c=x:=fun x hx=>by
      have i1:=(t1 x hx).1;have i2:=(t2 x hx).1;have i3:=(t3 x hx).1;have i4:=(t4 x hx).1;have i5:=(t5 x hx).1;have i6:=(t6 x hx).1;have i7:=(t7 x hx).1;have hle:=hx.le;have lv:=hx.gC.lev;obtain⟨k1,k2,k3⟩:=hx.gC.root;refine aO.ext hx.ai.symm (by show v1=_;omega) i3 ?_ (by show v7=_;omega) (by show v2=_;omega) ?_
      · show(⟨v4,v5,v6⟩ : Rf)=x.root;have u1:v4=x.root.p:=by omega
        have u2:v5=x.root.c:=by omega
        have u3:v6=x.root.g:=by omega
        rw[u1,u2,u3]
      · show L.map Prod.snd=x.held;rw[(tr x hx).1,mH,Qd x hx,List.take_length]
    have zL:vC c:=⟨ht,y3.1,⟨by show 0<=v4/\v4<=4294967295;omega,y5,by show 0<=v6/\v6<=65535;omega⟩,by show 0<=v7/\v7<=255;omega,fun h hm=>by
      obtain⟨p,hp,rfl⟩:=List.mem_map.1 hm;exact(hL p hp).2⟩
    have sr:bL (fun q=>w4.heap.size<=q) qB.heap v c:=by
      refine⟨rfl,rfl,omE Z_,rfl,rfl,rfl,L,rfl,o27.rd,fun _ q hq=>by have:=(yy hq).1;show w4.heap.size<=q;omega,fun p hp=>(hL p hp).1.mono fun q hq=>by have:=hq.1;show w4.heap.size<=q;omega⟩
    refine ua r27 fun Kz h38 x38=>?_
    have E38:E Kz:=Ext.trans Z_ x38 fun _ _ h=>h.elim
    have DP:=ad Up x38;have aac:E (aa Kz):=Ext.drew E38;refine⟨Ext No Kz,(Ext.refl _ _).drew,If.bne (fun bA=>zero aac fun x hx=>bA ?_) fun h0=>?_⟩
    · obtain⟨_,hf,hd⟩:=tr x hx
      have:l.length<=a9:=by
        rw[mH,Qd x hx,List.drop_length,List.flatMap_nil]at hd;exact List.drop_eq_nil_iff.1 hd
      unfold nx;rw[if_neg (by omega)];exact hf
    have hg:∀(j:Nat)(x:Value),v.cells[j]? = some x->ae (Ext No Kz) ((Addr.mk b3 0 none).add j) x:=fun j x h=>aq DP h
    have aad:bL (fun q=>w4.heap.size<=q) (aa Kz).heap v c:=sr.no x38.drew;refine⟨v.ai,eo DP rfl,v.ay,aq DP rfl,v.mark,aq DP rfl,v.root.p,aq DP rfl,v.root.c,aq DP rfl,v.root.g,aq DP rfl,v.lev,aq DP rfl,v.au,aq DP rfl,v.held,aq DP rfl,rE aad zL.held (by show hs.length<=_;omega) fun tm NF hm x40=>⟨(Ext.refl _ _).drew.trans x40 fun _ _ h=>h,If.not (If.mk (fun htm=>?_) fun htm=>zero (Ext.trans aac x40 fun _ _ h=>h.elim) fun x hx=>?_)⟩⟩
    · have mc:=hm.1 htm;have S40:Ext No Kz NF:=(Ext.refl _ _).drew.trans x40 fun _ _ h=>h
      have E40:E NF:=Ext.trans E38 S40 fun _ _ h=>h.elim
      refine⟨v.ai,eo DP rfl,v.ay,aq DP rfl,v.mark,aq DP rfl,v.root.p,aq DP rfl,v.root.c,aq DP rfl,v.root.g,aq DP rfl,v.lev,aq DP rfl,v.au,aq DP rfl,v.held,aq DP rfl,iR.mk (w:=Kz) (hb.no (xw E38)) (fun _ _ _ h=>ae.cell (Cell.mk h)) (vW (aad.no x40) zL mc fun tb rK o42 LX=>?_)⟩;have S42:Ext No Kz rK:=S40.no LX;have E42:E rK:=Ext.trans E40 LX fun _ _ h=>h.elim
      refine⟨S42,iR.mk o42.rd (fun _ _ _ h=>Cell.mk h) ⟨S42,?_⟩⟩;rw[toList_mk,toList_mk,eqB (vX zL) h8];refine If.not (If.dec (fun he=>?_) fun he=>zero E42 fun x hx=>he (by rw[cg x hx];exact hx.form));have NM:=ad DP S42;refine⟨v.ai,Cell.ah NM rfl,v.ay,Cell.ah NM rfl,v.mark,Cell.ah NM rfl,v.root.p,Cell.ah NM rfl,v.root.c,Cell.ah NM rfl,v.root.g,Cell.ah NM rfl,v.lev,Cell.ah NM rfl,v.au,Cell.ah NM rfl,v.held,Cell.ah NM rfl,rfl,gT.all (Ui E42) rfl v.one fun CI S5 RL _=>?_⟩;have aae:Ext (·=b1) rK CI:=RL;exact⟨v.ai,Cell.ah S5 rfl,v.ay,Cell.ah S5 rfl,v.mark,Cell.ah S5 rfl,v.root.p,Cell.ah S5 rfl,v.root.c,Cell.ah S5 rfl,v.root.g,Cell.ah S5 rfl,v.lev,Cell.ah S5 rfl,v.au,Cell.ah S5 rfl,v.held,Cell.ah S5 rfl,k0 v c CI ⟨mc,zL,rfl,he⟩ (((sr.no (x38.no S42)).ext aae fun q hq h=>by omega).mono fun q hq=>by show w.heap.size<=q;omega) ((xw E42).trans aae fun q hq h=>by omega)⟩
    · have:tm=true:=hm.2 (by rw[cg x hx];exact hx.may);rw[this]at htm;cases htm
end
end Go.Proofs.YtpjbalhhlaofmaaGreat
namespace Go.V
open Go.Proofs.YtpjbalhhlaofmaaGreat
abbrev X4:Type:=Int->Int->Sl->Int->Int->Int->Int->Int->Sl->Pw
abbrev X4.at(K:X4)(v:aV)(w:Wd):Prop:=K v.ai v.ay v.mark v.root.p v.root.c v.root.g v.lev v.au v.held w
def SmS(x:aO):Prop:=x.mark.length<=5000/\x.held.length<=5000/\∀h∈x.held,h.wr.length<=140737488351232
end Go.V
namespace Go.Proofs.YtpjbalhhlaofmaaGreat
open Go.V Go.V.Pk
section
variable {w:Wd} {Q:Nat->Prop}
theorem BB{b:Nat}{w1:Wd}{s':Sl}{l:List Int}{K:Sl->Pw}(n:Da w (.cells ([]:List Value).toArray 5) b w1)(r:b_ w1.heap s' l)(hn:l.length<=140737488351232)
  (k:∀s w',aK w'.heap w.heap.size s l->Ext No w w'->K s w'):bg pz 23 23 ⟨some ⟨b,0,none⟩,0,0⟩ (.slice s'.a s'.len s'.cap) K w1:=by
 have hb:=n.at_;have hz:=n.size
 have o:bf w1.heap w.heap.size 5 1 ⟨some ⟨b,0,none⟩,0,0⟩ []:=⟨rfl,.inr ⟨b,[],rfl,by omega,n.get,rfl,Nat.le_refl _⟩,by simp⟩
 have hl:s'.len=l.length:=b_.len r;refine c_ o (by omega) r.src (by simp only;omega) fun s w' o' _ x _=>k s w' (by rw[List.nil_append]at o';exact o') (n.ext.trans x fun q hq h=>by simp[Sl.aj]at h;omega)
set_option maxHeartbeats 4000000 in
theorem DQ{v:aV}{x:aO}{K:X4}(r:bL Q w.heap v x)(sm:SmS x)(k:∀u w',bL (w.heap.size<=·) w'.heap u x->aK w'.heap w.heap.size u.mark x.mark->Ext No w w'->K.at u w'):lM v.ai v.ay v.mark v.root.p v.root.c v.root.g v.lev v.au v.held w K:=by
  obtain⟨sm1,sm2,sm3⟩:=sm;apply Fb;refine af.mk fun b w1 n1=>af.mk fun b1 w2 n2=>?_
  have g2:w2.heap[b]? = some (.cells v.cells.toArray 33 (0,0)):=ad n1.get n2.ext;refine⟨v.ai,Cell.ah g2 rfl,v.ay,Cell.ah g2 rfl,v.mark,Cell.ah g2 rfl,v.root.p,Cell.ah g2 rfl,v.root.c,Cell.ah g2 rfl,v.root.g,Cell.ah g2 rfl,v.lev,Cell.ah g2 rfl,v.au,Cell.ah g2 rfl,v.held,Cell.ah g2 rfl,af.mk fun b2 w3 n3=>⟨rfl,gT.all n3.get rfl v.one fun w4 g4 x4 z4=>af.mk fun b3 w5 n5=>?_⟩⟩;have e1:=n1.at_;have z1:=n1.size;have e2:=n2.at_;have z2:=n2.size;have e3:=n3.at_;have z3:=n3.size;have z5:=n5.size;have Ce:Ext (·=b2) w3 w4:=x4;have fg:Ext No w w4:=((n1.ext.no n2.ext).no n3.ext).trans Ce fun q hq h=>by omega
  have S6:w5.heap[b]? = some (.cells v.cells.toArray 33 (0,0)):=ad (ag (ad g2 n3.ext) Ce (by omega)) n5.ext;have gb1:w4.heap[b1]? = some (.cells aR.cells.toArray 33 (0,0)):=ag (ad n2.get n3.ext) Ce (by omega);refine⟨v.mark,Cell.ah S6 rfl,BB n5 (r.mark.no (fg.no n5.ext)).rd (by omega) fun s6 w6 o6 x6=>?_⟩;have z6:=x6.size;refine aQ.cl (ad g4 x6) (by simp) rfl fun w7 h7=>?_
  have x7:Ext (·=b2) w6 w7:=h7.ext;have g7:w7.heap[b2]? = some (.cells ({ v with mark:=s6 }:aV).cells.toArray 33 (0,0)):=h7.get (ad g4 x6);refine aQ.cl g7 (by simp[aV.cells]) rfl fun w8 h8=>?_
  have x8:Ext (·=b2) w7 w8:=h8.ext
  let s1:aV:={ v with mark:=s6 }
  have g8:w8.heap[b2]? = some (.cells ({ s1 with held:=⟨none,0,0⟩ }:aV).cells.toArray 33 (0,0)):=h8.get g7;have IC:Ext (·=b2) w4 w8:=(x6.aE.trans x7 fun _ _ h=>h).trans x8 fun _ _ h=>h
  have z8:=IC.size;have od:Ext No w w8:=fg.trans IC fun q hq h=>by omega
  have om:aK w8.heap w4.heap.size s6 x.mark:=(o6.ext x7 fun q hq h=>by have:=(o6.lt hq).1;omega).ext x8 fun q hq h=>by have:=(o6.lt hq).1;omega
  have lh:=r.held.len
  let E:Pw:=fun w'=>Ext (·=b2) w8 w'
  have gbE:∀{w'},E w'->w'.heap[b]? = some (.cells v.cells.toArray 33 (0,0)):=fun x=>ag (ag (ag (ad g2 n3.ext) Ce (by omega)) IC (by omega)) x (by omega)
  have ac2:∀{w'},E w'->w'.heap[b1]? = some (.cells aR.cells.toArray 33 (0,0)):=fun x=>ag (ag gb1 IC (by omega)) x (by omega)
  have xw:∀{w'},E w'->Ext No w w':=fun x=>od.trans x fun q hq h=>by omega
  refine ⟨fun m i w'=>∃ (j:Nat) (out:Sl) (L:List (ej×bX)),i=j/\j<=x.held.length/\m=x.held.length - j/\L.map Prod.snd=x.held.take j/\E w'/\w'.heap[b2]? = some (.cells ({ s1 with held:=out }:aV).cells.toArray 33 (0,0))/\bf w'.heap w8.heap.size 76 3 out (hC L) /\
      (∀p∈L,dF (fun q=>w8.heap.size<=q/\out.aj≠some q) w'.heap p.1 p.2),
    ⟨_,0,⟨none,0,0⟩,[],rfl,Nat.zero_le _,rfl,by simp,Ext.refl _ _,g8,bf.nil _ _ _ _,by simp⟩,?_⟩
  rintro _ m0 _ w9 ⟨j,out,L,rfl,hj,rfl,hL,E9,g9,o9,hLr⟩;have z9:=Ext.size E9;have yy:∀{q:Nat},out.aj=some q->w8.heap.size<=q/\q < w9.heap.size:=fun h=>o9.lt h
  refine⟨v.held,Cell.ah (gbE E9) rfl,If.dec (fun x_=>?_) fun x_=>?_⟩
  · have eO:j < x.held.length:=by omega
    refine⟨v.held,Cell.ah (gbE E9) rfl,rC (r.held.no (xw E9)) (by omega) x_ fun b' o' u hi hu hc=>⟨u.gen,hc 0 _ rfl,u.cm,hc 1 _ rfl,u.wr,hc 2 _ rfl,?_⟩⟩;have el:x.held[((j:Nat):Int).toNat]'hi=x.held[j]:=rfl;rw[el]at hu;have gZ:=sm3 _ (List.getElem_mem eO)
    refine af.mk fun b4 dV lE=>⟨rfl,gT.all lE.get rfl u.one fun di oS fH ND=>af.mk fun b5 eN mN=>⟨u.wr,Cell.ah (ad oS mN.ext) rfl,?_⟩⟩
    have e10:=lE.at_;have Kv:=lE.size;have ac3:Ext (·=b4) dV di:=fH;have zx:Ext No w9 di:=lE.ext.trans ac3 fun q hq h=>by omega
    refine BB mN ((hu.wr.no zx).no mN.ext).rd gZ fun s13 cO zE ew=>?_
    have JA:=ew.size;refine aQ.cl (ad oS ew) (by simp) rfl fun cM X5=>?_
    have fI:Ext (·=b4) cO cM:=X5.ext;have OR:=X5.size
    let hv:ej:={ u with wr:=s13 }
    let hp:bX:=x.held[j]
    have jH:cM.heap[b4]? = some (.cells hv.cells.toArray 76 (0,0)):=X5.get (ad oS ew);have aaf:Ext No w9 cM:=(zx.no ew).trans fI fun q hq h=>by omega
    have ac4:=ad g9 aaf;refine⟨out,Cell.ah ac4 rfl,hv.gen,Cell.ah jH rfl,hv.cm,Cell.ah jH rfl,hv.wr,Cell.ah jH rfl,af.mk fun b6 dY DJ=>?_⟩;have Qg:Ext No w9 dY:=aaf.no DJ.ext;have XI:=Qg.size
    have Gb:out.len=L.length:=by
      have:=o9.rd.len;rw[aS (AT L)]at this;omega
    have XZ:L.length=j:=by
      have:=congrArg List.length hL;rw[List.length_map,List.length_take]at this;omega
    have src:Src pz dY (.slice (some (Addr.mk b6 0 none)) 1 1) 3 1 hv.cells:=(bf.new (sz:=3) (n:=1) DJ rfl hv.one).rd.src;refine pJ (o9.ext Qg fun q hq h=>h) (by omega) src (by rw[Gb];omega) fun s' kE Ge _ qC oQ=>?_
    have VC:=qC.size;have so:kE.heap[b2]? = some (.cells ({ s1 with held:=out }:aV).cells.toArray 33 (0,0)):=ag (ad g9 Qg) qC fun h=>by have:=(yy h).1;omega
    refine aQ.cl so (by simp[aV.cells]) rfl fun fR KB=>?_
    have l_:Ext (·=b2) kE fR:=KB.ext;have z17:=KB.size;have RI:E fR:=Ext.trans (Ext.trans (Ext.no E9 Qg) qC fun q hq h=>by have:=(yy h).1;omega) l_ fun _ _ h=>h
    have key:∀{v y},dF (fun q=>w8.heap.size<=q/\out.aj≠some q) dY.heap v y->dF (fun q=>w8.heap.size<=q/\s'.aj≠some q) fR.heap v y:=fun {v y} h=>by
      have h2:dF (fun q=>w8.heap.size<=q/\s'.aj≠some q) kE.heap v y:=by
        refine⟨h.gen,h.cm,((h.wr.lt).ext qC fun q hq h=>hq.1.2 h).mono fun q hq=>⟨hq.1.1,fun h=>?_⟩⟩;rcases oQ with h1 | ⟨b',h1,h3⟩
        · exact hq.1.2 (h1 ▸ h)
        · rw[h1]at h;cases h;have:=hq.2;omega
      exact h2.ext l_ fun q hq h=>by have:=hq.1;omega
    refine Ar.i64 (by omega) ⟨x.held.length - (j+1),by omega,j+1,s',L++[(hv,hp)],by omega,by omega,rfl,?_,RI,KB.get so,?_,fun p n_=>?_⟩
    · rw[List.map_append,hL,dO eO];rfl
    · have:bf fR.heap w8.heap.size 76 3 s' (hC L++hv.cells):=Ge.ext l_ fun q hq h=>by have:=(Ge.lt hq).1;omega
      rw[show hC (L++[(hv,hp)])=hC L++hv.cells by simp[hC]];exact this
    · rcases List.mem_append.1 n_ with h | h
      · exact key ((hLr p h).no Qg)
      · rw[List.mem_singleton]at h;subst h;exact key ⟨hu.gen,hu.cm,.own ((zE.ext fI fun q hq h=>by have:=(zE.lt hq).1;omega).no DJ.ext) fun q h1 h2=>⟨by have:=zx.size;omega,fun h=>by have:=(yy h).2;have:=zx.size;omega⟩⟩
  · have V7:j=x.held.length:=by omega
    let u:aV:={ s1 with held:=out }
    have om9:=om.ext E9 fun q hq h=>by have:=(om.lt hq).1;omega
    have sr:bL (w4.heap.size<=·) w9.heap u x:=⟨r.ai,r.ay,.own om9 fun q h1 _=>h1,r.root,r.lev,r.au,L,by rw[hL,V7,List.take_length],o9.rd,fun _ q hq=>by have:=(yy hq).1;show w4.heap.size<=q;omega,fun p hp=>(hLr p hp).mono fun q hq=>by have:=hq.1;show w4.heap.size<=q;omega⟩
    refine⟨u.ai,Cell.ah g9 rfl,u.ay,Cell.ah g9 rfl,u.mark,Cell.ah g9 rfl,u.root.p,Cell.ah g9 rfl,u.root.c,Cell.ah g9 rfl,u.root.g,Cell.ah g9 rfl,u.lev,Cell.ah g9 rfl,u.au,Cell.ah g9 rfl,u.held,Cell.ah g9 rfl,rfl,gT.all (ac2 E9) rfl u.one fun vG zD tf _=>?_⟩;have OT:Ext (·=b1) w9 vG:=tf;exact⟨u.ai,Cell.ah zD rfl,u.ay,Cell.ah zD rfl,u.mark,Cell.ah zD rfl,u.root.p,Cell.ah zD rfl,u.root.c,Cell.ah zD rfl,u.root.g,Cell.ah zD rfl,u.lev,Cell.ah zD rfl,u.au,Cell.ah zD rfl,u.held,Cell.ah zD rfl,k u vG ((sr.ext OT fun q hq h=>by omega).mono fun q hq=>by show w.heap.size<=q;omega) ((om9.ext OT fun q hq h=>by have:=(om9.lt hq).1;omega).mono (by omega)) ((xw E9).trans OT fun q hq h=>by omega)⟩
theorem uy{v:aV}{x:aO}{K:Bool->Pw}(r:bL Q w.heap v x)(hm:x.mark.length<=140737488355328)(hh:x.held.length<=140737488355328)(hw:∀h∈x.held,h.wr.length<=140737488351232)(k:∀t w',(t=false->SmS x)->Ext No w w'->K t w'):g_ v.ai v.ay v.mark v.root.p v.root.c v.root.g v.lev v.au v.held w K:=by
 apply Cx;refine af.mk fun b w1 n1=>?_
 have g1:w1.heap[b]? = some (.cells v.cells.toArray 33 (0,0)):=n1.get;have lm:=b_.len r.mark.rd;have lh:=r.held.len;refine⟨v.mark,Cell.ah g1 rfl,v.held,Cell.ah g1 rfl,Ar.i64 (by omega) ?_⟩
 have fin:∀{n:Int},(v.mark.len:Int)+v.held.len<=n->K (decide (n > 5000)) w1:=fun {n} hn=>k _ w1 (fun h=>by
  have:=of_decide_eq_false h
  exact⟨by omega,by omega,hw⟩) n1.ext
 refine⟨fun m n i w'=>w1=w'/\∃j:Nat,i=j/\m=100 - j/\j<=100/\(v.mark.len:Int)+v.held.len<=n/\n<=(v.mark.len:Int)+v.held.len+j * 140737488351232,⟨_,rfl,0,rfl,rfl,by omega,by omega,by omega⟩,?_⟩;rintro _ m0 n _ _ ⟨rfl,j,rfl,rfl,hj,h1,h2⟩;refine⟨fun w'=>w1=w'/\j < 100/\j < v.held.len,⟨v.held,Cell.ah g1 rfl,If.dec (fun h=>If.dec (fun h'=>⟨rfl,by omega,by omega⟩) fun _=>fin h1) fun _=>fin h1⟩,?_⟩;rintro _ _ ⟨rfl,X6,Vo⟩;refine⟨v.held,Cell.ah g1 rfl,rC (r.held.no n1.ext) (by omega) (by omega) fun b' o' u hi hu hc=>⟨u.wr,hc 2 _ rfl,?_⟩⟩;have hl:=hw _ (List.getElem_mem hi);have hlu:=b_.len hu.wr.rd;exact Ar.i64 (by omega) (Ar.i64 (by omega) ⟨_,by omega,rfl,j+1,by omega,rfl,by omega,by omega,by omega⟩)
end
end Go.Proofs.YtpjbalhhlaofmaaGreat
