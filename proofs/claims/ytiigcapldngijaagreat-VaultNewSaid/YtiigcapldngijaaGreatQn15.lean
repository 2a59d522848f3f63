/- Texts for LVaultNew, part 15. -/
import Derived.Lib.MakeNoZero
import Derived.Test.YtiigcapldngijaaGreatQn14
set_option maxRecDepth 100000
namespace Go.V
theorem Rz(w:Wd)(o:Obj):Ext No w (w.alloc o):=by
 refine⟨rfl,rfl,rfl,?_,fun b hb _=>?_⟩
 .show w.heap.size<=(w.heap.push o).size;rw[Array.size_push];omega
 .exact jX _ _ _ hb
theorem Ce{row vs:List Value}{o:Nat}(h:o+vs.length<=row.length):(setL row o vs).take (o+vs.length)=row.take o++vs/\(setL row o vs).length=row.length:=by
 rw[we _ _ _ h];constructor
 .rw[List.take_append_of_le_length (by rw[List.length_append,List.length_take];omega),List.take_of_length_le (by rw[List.length_append,List.length_take];omega)]
 .simp only[List.length_append,List.length_take,List.length_drop];omega
end Go.V
namespace Go.Proofs.YtiigcapldngijaaGreat
open Go.V Go.V.Pk
section
variable {w:Wd} {Q:Nat->Prop}
theorem Xv(n:Nat)(hn:n<=281474976710656)(w:Wd):∃cs:Array Value,Sem.run pz (callFunc 375 #[.int .i64 n]) w = .ok (.value (.slice (some ⟨w.heap.size,0,none⟩) n cs.size)) (w.drew.drew.alloc (.cells cs 5))/\n<=cs.size:=by
 obtain⟨cs,h1,h2,_⟩:=Lib.run_makeNoZero (P:=pz) w #[3] 22 5 (by kernel_rfl) n hn;refine⟨cs,?_,h2⟩;rw[run_callFunc_extern Tryz.func375 (by kernel_rfl) (by kernel_rfl) (by kernel_rfl) (e:=Extern.BytealgMakeNoZero.makeNoZero #[3] #[22]) (by kernel_rfl),h1];rfl
theorem cpy{b n bp:Nat}{row:List Value}{x:Sl}{xs:List Value}{T:TypeId}{K:Int->Pw}(hb:w.heap[b]? = some (.cells row.toArray T (0,0)))(hr:n<=row.length)(hbp:bp<=n)(hx:Rd w.heap x 1 xs)(hxl:x.len<=n - bp)
  (hk:∀w',w'.heap[b]? = some (.cells (setL row bp xs).toArray T (0,0))->Ext (·=b) w w'->w'.heap.size=w.heap.size->K (x.len:Int) w'):Cut ⟨some ⟨b,0,none⟩,n,n⟩ (bp:Int) ((n:Nat):Int) ((n:Nat):Int) 1 fun d=>lN pz 22 22 d (.slice x.a x.len x.cap) K w:=by
 refine Cut.mk (by omega) (by omega) (by omega) (by simp) ?_;have e1:((n:Int) - (bp:Int)).toNat=n - bp:=by omega
 simp only[Int.toNat_natCast,e1];have hxs:xs.length=x.len:=by have:=hx.len;omega
 have full:xs.take (x.len * 1)=xs:=List.take_of_length_le (by omega);have Ov:min x.len (n - bp)=x.len:=Nat.min_eq_left hxl;by_cases e:n=bp
 .subst e;have hx0:xs=[]:=List.eq_nil_of_length_eq_zero (by omega);refine sN (off:=0) (b:=b) (by unfold h_;rw[if_pos rfl]) hb hx (by simp) fun w' h=>?_
  simp only[Ov,full]at h ⊢;refine hk w' ?_ h.ext h.size;have:=h.get hb;rw[hx0]at this ⊢;simpa[setL] using this
 .refine sN (off:=bp) (b:=b) (by unfold h_;rw[if_neg e];simp[ay]) hb hx (by simp only;omega) fun w' h=>?_
  simp only[Ov,full]at h ⊢;exact hk w' (h.get hb) h.ext h.size
abbrev cat(ps:List (Sl×List Int)):List Int:=(ps.map Prod.snd).flatten
theorem vR{ps:List (Sl×List Int)}{j:Nat}(h:j < ps.length):cat (ps.take (j+1))=cat (ps.take j)++ps[j].2:=by
 unfold cat;rw[List.take_add_one,List.getElem?_eq_getElem h];simp only[Option.toList_some,List.map_append,List.map_cons,List.map_nil,List.flatten_append,List.flatten_cons,List.flatten_nil,List.append_nil]
theorem FZ(ps:List (Sl×List Int))(j:Nat):(cat (ps.take j)).length<=(cat ps).length:=by
 have e:cat ps=cat (ps.take j)++cat (ps.drop j):=by unfold cat;rw[<- List.flatten_append,<- List.map_append,List.take_append_drop]
 rw[e,List.length_append];omega
set_option maxHeartbeats 1000000 in
theorem F0{sl:Sl}{ps:List (Sl×List Int)}{K:Sl->Pw}(hs:Rd w.heap sl 1 (ps.map fun p=>p.1.v))(hp:∀p∈ps,aQ w.heap p.1 p.2)(hb:(cat ps).length<=1099511627776)(hn:ps.length<=4294967296)
  (k:∀s w',aQ w'.heap s (cat ps)->(2<=ps.length->s.cap=s.len)->(∀b,s.aw=some b->w.heap.size<=b)->Ext No w w'->K s w'):ff sl ⟨none,0,0⟩ w K:=by
 apply I7;have hl:sl.len=ps.length:=by have:=hs.len;simp at this;exact this.symm
 have pick:∀{w':Wd}{j:Nat}(h:j < ps.length){K':Addr->Prop},Ext No w w'->(∀a,Cell w' a (.slice ps[j].1.a ps[j].1.len ps[j].1.cap)->K' a)->Ix sl.a sl.len ((j:Nat):Int) 1 K':=fun {w' j} h {K'} x k'=>by
  refine Ix.cell (hs.no x) (by omega) (by omega) fun bb o v _ hv hc=>?_
  rw[Int.toNat_natCast,List.getElem?_map,List.getElem?_eq_getElem h]at hv;simp only[Option.map_some,Option.some.injEq]at hv;subst hv;exact k' _ hc
 refine If.beq (fun h0=>?_) fun h0=>If.beq (fun h1=>?_) fun h1=>?_
 .have K0:ps=[]:=List.eq_nil_of_length_eq_zero (by omega);subst K0;refine au.mk fun b w1 n1=>?_
  have o:=aP.new (sz:=1) (n:=0) n1 rfl (by simp);refine k _ w1 (by simpa[aQ,cat] using o.rd) (fun h=>absurd h (by simp)) (fun q hq=>(o.lt hq).1) n1.ext
 .have h1':ps.length=1:=by omega
  have h0':0 < ps.length:=by omega
  refine pick (j:=0) h0' (Ext.refl _ _) fun a hc=>⟨_,hc,?_⟩
  have hr:=hp _ (List.getElem_mem h0');have hlen:=aQ.len hr
  have e:cat ps=ps[0].2:=by
   have h3:=vR h0';rw[show ps.take (0+1)=ps from List.take_of_length_le (by omega)]at h3;simpa[cat] using h3
  rw[e]at hb k;exact dj (aP.nil w.heap w.heap.size 5 1) (Nat.le_refl _) hr.src (by simp only;omega) fun s' w' o' _ x' _=>k s' w' (by simpa[aQ] using o'.rd) (fun h=>by omega) (fun q hq=>(o'.lt hq).1) (x'.mono fun q _ h=>by simp[Sl.aw]at h)
 .have h2:2<=ps.length:=by omega
  refine⟨fun n w'=>n=0/\w'=w,If.dec (fun h=>absurd h (by decide)) fun _=>⟨rfl,rfl⟩,?_⟩;rintro _ n w4 ⟨rfl,rfl⟩;refine⟨fun m n t w'=>w'=w4/\∃j:Nat,t=j/\j<=ps.length/\m=ps.length - j/\n=((cat (ps.take j)).length:Int),⟨_,rfl,0,rfl,Nat.zero_le _,rfl,by simp[cat]⟩,?_⟩;rintro _ m0 n t w5 ⟨rfl,j,rfl,hj,rfl,rfl⟩;have hle:=FZ ps j;refine If.dec (fun h=>?_) fun h=>?_
  .have xG:j < ps.length:=by omega
   refine pick xG (Ext.refl _ _) fun a hc=>⟨_,hc,?_⟩
   have hlen:=aQ.len (hp _ (List.getElem_mem xG));have h3:=FZ ps (j+1);rw[vR xG,List.length_append]at h3;refine Ar.i64 (by omega) (If.dec (fun h=>by omega) fun _=>Ar.i64 (by omega) (Ar.i64 (by omega) ⟨_,by omega,rfl,j+1,by omega,by omega,rfl,?_⟩));rw[vR xG,List.length_append];omega
  .have Xs:j=ps.length:=by omega
   rw[Xs,List.take_length];obtain⟨cs,hr,Nz⟩:=Xv (cat ps).length (by omega) w5
   let q:=w5.heap.size
   let w6:=(World.drew (World.drew w5)).alloc (.cells cs 5)
   have x6:Ext No w5 w6:=by
    have e:Ext No (World.drew (World.drew w5)) w6:=Rz _ _
    have e0:Ext No w5 (World.drew (World.drew w5)):=⟨rfl,rfl,rfl,Nat.le_refl _,fun _ _ _=>rfl⟩
    exact e0.no e
   have g6:w6.heap[q]? = some (.cells cs.toList.toArray 5 (0,0)):=by
    have:w6.heap[q]? = some (.cells cs 5 (0,0)):=by show(w5.heap.push _)[w5.heap.size]? = _;simp
    simpa using this
   have z6:q < w6.heap.size:=by show w5.heap.size < (w5.heap.push _).size;rw[Array.size_push];omega
   refine⟨⟨some ⟨q,0,none⟩,(cat ps).length,cs.size⟩,w6,hr,?_⟩;refine Cut.mk (Int.le_refl _) (by omega) (Int.le_refl _) (by simp only;omega) ?_
   have ec:h_ (some ⟨q,0,none⟩) (cat ps).length 0 1=some (⟨q,0,none⟩ : Addr):=by
    unfold h_;split
    .rfl
    .simp[ay]
   have e0:(((cat ps).length:Int) - 0).toNat=(cat ps).length:=by omega
   simp only[Int.toNat_natCast,Int.toNat_zero,ec,e0]
   refine pick (j:=0) (by omega) x6 fun a hc=>⟨_,hc,?_⟩
   have h0':0 < ps.length:=by omega
   have adD:=hp _ (List.getElem_mem h0');have adE:=aQ.len adD
   have hc1:cat (ps.take 1)=ps[0].2:=by
    have:=vR h0';simpa[cat] using this
   have acu:=FZ ps 1;rw[hc1]at acu;have zJ:cs.toList.length=cs.size:=by simp
   refine sN (off:=0) (b:=q) rfl g6 (Rd.no adD x6) (by simp only;omega) fun w7 h7=>?_
   have Ov:min ps[0].1.len (cat ps).length=ps[0].1.len:=Nat.min_eq_left (by omega);have adF:(ps[0].2.map (Value.int .u8)).take (ps[0].1.len * 1)=ps[0].2.map (Value.int .u8):=List.take_of_length_le (by simp;omega);simp only[Ov,adF]at h7 ⊢;have g7:=h7.get g6;have x7:Ext (·=q) w6 w7:=h7.ext;have s7:=Ce (row:=cs.toList) (vs:=ps[0].2.map (Value.int .u8)) (o:=0) (by simp;omega);have Kq:Ext No w5 w7:=x6.trans x7 fun i hi h=>by have h':i=w5.heap.size:=h;omega
   have ahn:=hs.cap;refine Cut.mk (by decide) (by omega) (by omega) (Int.le_refl _) ?_
   -- the rest of the pieces
   have hsr:Rd w5.heap ⟨h_ sl.a sl.cap 1 1,sl.len - 1,sl.cap - 1⟩ 1 ((ps.map fun p=>p.1.v).drop 1):=by
    have iv:=hs.cap;have:=hs.cut (lo:=1) (hi:=sl.len) (mx:=sl.cap) (by omega) (Nat.le_refl _) iv;have e2:(((ps.map fun p=>p.1.v).drop (1 * 1)).take ((sl.len - 1) * 1))=(ps.map fun p=>p.1.v).drop 1:=List.take_of_length_le (by simp;omega);rw[e2]at this;exact this
   have e1:((sl.len:Int) - 1).toNat=sl.len - 1:=by omega
   have e2:((sl.cap:Int) - 1).toNat=sl.cap - 1:=by have:=hs.cap;omega
   have e3:(1:Int).toNat=1:=rfl;simp only[Int.toNat_natCast,e1,e3]
   refine⟨fun m bp t w'=>∃(j:Nat) (row:List Value),t=j/\j+1<=ps.length/\m=ps.length - j/\bp=((cat (ps.take (j+1))).length:Int)/\w'.heap[q]? = some (.cells row.toArray 5 (0,0))/\row.length=cs.size/\row.take (cat (ps.take (j+1))).length=(cat (ps.take (j+1))).map (Value.int .u8)/\Ext No w5 w'/\q < w'.heap.size,
    ⟨_,0,_,rfl,by omega,rfl,?_,g7,by rw[s7.2,zJ],?_,Kq,by have:=x7.size;omega⟩,?_⟩
   .show _=((cat (ps.take (0+1))).length:Int);rw[Nat.zero_add,hc1,adE]
   .show(setL _ _ _).take (cat (ps.take (0+1))).length=(cat (ps.take (0+1))).map _;rw[Nat.zero_add,hc1];have:=s7.1;simpa using this
   rintro _ m1 bp t w8 ⟨j,row,rfl,hj,rfl,rfl,g8,YP,aa8,x8,z8⟩;refine If.dec (fun h=>?_) fun h=>?_
   .have xG:j+1 < ps.length:=by have h':(j:Int) < ((sl.len - 1:Nat):Int):=h;omega
    refine Ix.cell (hsr.no x8) (by omega) h fun bb o v _ hv hc=>?_
    rw[Int.toNat_natCast,List.getElem?_drop,Nat.add_comm 1 j,List.getElem?_map,List.getElem?_eq_getElem xG]at hv;simp only[Option.map_some,Option.some.injEq]at hv;subst hv;have Gs:=hp _ (List.getElem_mem xG);have hlen:=aQ.len Gs;have adq:=FZ ps (j+2);have aa9:=vR xG;rw[aa9,List.length_append]at adq;have ah8:=FZ ps (j+1);refine⟨_,hc,cpy g8 (by omega) (by omega) (x:=⟨none,0,0⟩) (xs:=[]) (Rd.nil _ _) (Nat.zero_le _) fun w9 g9 x9 z9=>Ar.i64 (by simp only;omega) ?_⟩;have es:setL row (cat (ps.take (j+1))).length []=row:=by simp[setL]
    rw[es]at g9;have RA:Ext No w5 w9:=x8.trans x9 fun i hi h=>by have h':i=w5.heap.size:=h;omega
    have ez:(((cat (ps.take (j+1))).length:Int)+((0:Nat):Int))=((cat (ps.take (j+1))).length:Int):=by omega
    simp only[ez];refine cpy g9 (by omega) (by omega) (Gs.no RA) (by omega) fun eK tU dQ Sq=>Ar.i64 (by omega) (Ar.i64 (by omega) ⟨_,by omega,j+1,_,by omega,by omega,rfl,?_,tU,?_,?_,RA.trans dQ fun i hi h=>by have h':i=w5.heap.size:=h;omega,by omega⟩)
    .rw[aa9,List.length_append];omega
    .rw[(Ce (by rw[List.length_map];omega)).2,YP]
    .have:=(Ce (row:=row) (vs:=ps[j+1].2.map (Value.int .u8)) (o:=(cat (ps.take (j+1))).length) (by rw[List.length_map];omega)).1;rw[List.length_map]at this;rw[aa9,List.length_append,this,aa8,List.map_append]
   .have Xs:j+1=ps.length:=by have h':¬ (j:Int) < ((sl.len - 1:Nat):Int):=h;omega
    rw[Xs,List.take_length]at aa8
    have own:aP w8.heap w5.heap.size 5 1 ⟨some ⟨q,0,none⟩,(cat ps).length,cs.size⟩ ((cat ps).map (Value.int .u8)):=by
     have e:(cat ps).map (Value.int .u8)++row.drop (cat ps).length=row:=by
      conv=>rhs;rw[<- List.take_append_drop (cat ps).length row,aa8]
     refine⟨by rw[List.length_map,Nat.mul_one],.inr ⟨q,row.drop (cat ps).length,rfl,Nat.le_refl _,?_,?_,Nz⟩,df⟩
     .rw[e];exact g8
     .rw[e,YP,Nat.mul_one]
    refine k _ w8 ?_ (fun _=>rfl) (fun b hb=>by simp[Sl.aw]at hb;show w5.heap.size<=b;omega) x8;exact⟨own.rd.len,Nat.le_refl _,own.rd.at_,own.rd.cells⟩
end
end Go.Proofs.YtiigcapldngijaaGreat
namespace Go.V
open Go.V.Pk
theorem RB(l:List Int)(h:l.length<=1000000000):(textB l).length<=l.length+10:=by
 unfold textB;rw[List.length_append];have:=bK (n:=l.length) (by omega);omega
abbrev iF(l:List Int):List Int:=(l.map fun n=>numB n.toNat).flatten
end Go.V
namespace Go.Proofs.YtiigcapldngijaaGreat
open Go.V Go.V.Pk
section
variable {w:Wd} {Q:Nat->Prop}
theorem He{s x:Sl}{cs xs:List Int}{K:Sl->Pw}(rd:aQ w.heap s cs)(rx:aQ w.heap x xs)(iv:s.cap < s.len+x.len)(hb:s.len+x.len<=1099511627776)(hk:∀s' w',aL w'.heap w.heap.size s' (cs++xs)->Ext No w w'->K s' w') :
  bj pz 22 22 s (.slice x.a x.len x.cap) K w:=
 PJ (P:=pz) (e:=5) (d:= .slice 5) (ie:=Tryz.t5) (z:=Tryz.t5.zero.getD .nilFunc) (by kernel_rfl) (by kernel_rfl) (fun k h=>by cases h) (by kernel_rfl) (by kernel_rfl) (by kernel_rfl) (by kernel_rfl) (by decide) rd iv rx.src (by show(s.len+x.len) * 1<=_;omega)
  fun s' w' o _ x'=>hk s' w' (by show aP _ _ 5 1 s' ((cs++xs).map _);rw[List.map_append];exact o) x'
abbrev pcV(ps:List (Sl×List Int)):List Value:=ps.map fun p=>p.1.v
theorem P6{w1:Wd}{base b:Nat}{out r:Sl}{ps:List (Sl×List Int)}{m:List Int}{K:Sl->Pw}(o:aP w.heap base 22 1 out (pcV ps))(hp:∀p∈ps,xJ (fun q=>base<=q/\out.aw≠some q) w.heap p.1 p.2)
  (hr:xJ (fun q=>base<=q/\out.aw≠some q) w.heap r m) (n:Gq w (.cells [.slice r.a r.len r.cap].toArray 22) b w1) (hb:base<=w.heap.size) (hl:ps.length<=1000)
  (k:∀s' w',aP w'.heap base 22 1 s' (pcV (ps++[(r,m)]))->(∀p∈ps++[(r,m)],xJ (fun q=>base<=q/\s'.aw≠some q) w'.heap p.1 p.2)->Ext (fun q=>out.aw=some q) w w'->K s' w'):bj pz 29 29 out (.slice (some (Addr.mk b 0 none)) 1 1) K w1:=by
 have x:=n.ext;have z:=n.size;have Kp:out.len=ps.length:=by have:=o.rd.len;simp at this;exact this.symm
 have src:Src pz w1 (.slice (some (Addr.mk b 0 none)) 1 1) 1 1 [r.v]:=(aP.new (sz:=1) (n:=1) n rfl (by simp[cB])).rd.src;refine sO (o.no x) (by omega) src (by rw[Kp];omega) fun s' w' o' _ x' DW=>?_
 have x2:Ext (fun q=>out.aw=some q) w w':=x.az.trans x' fun _ _ h=>h
 refine k s' w' (by unfold pcV;rw[List.map_append];exact o') (fun p Fy=>?_) x2
 have key:∀{t l},xJ (fun q=>base<=q/\out.aw≠some q) w.heap t l->xJ (fun q=>base<=q/\s'.aw≠some q) w'.heap t l:=fun {t l} h=>by
  refine((h.lt).ext x2 fun q hq h=>hq.1.2 h).mono fun q hq=>⟨hq.1.1,fun h=>?_⟩
  rcases DW with h1 | ⟨b',h1,h2⟩
  .exact hq.1.2 (h1 ▸ h)
  .rw[h1]at h;cases h;have:=hq.2;omega
 rcases List.mem_append.1 Fy with h | h
 .exact key (hp p h)
 .rw[List.mem_singleton]at h;subst h;exact key hr
theorem JT{s:Sl}{l:List Int}{K:Sl->Pw}(rl:Rd w.heap s 1 (l.map (Value.int .u64)))(hr:∀x∈l,0<=x/\x<=18446744073709551615)(hl:l.length<=1000)
  (k:∀o ps w',aP w'.heap w.heap.size 22 1 o (pcV ps)->(∀p∈ps,xJ (fun q=>w.heap.size<=q/\o.aw≠some q) w'.heap p.1 p.2)->ps.map Prod.snd=l.map (fun n=>numB n.toNat)->Ext No w w'->K o w'):eG s (.func (.func 293) #[] #[]) w K:=by
 apply pH;have od:s.len=l.length:=by have:=rl.len;simp at this;exact this.symm
 refine⟨fun m out t w'=>∃(j:Nat) (ps:List (Sl×List Int)),t=j/\j<=l.length/\m=l.length - j/\aP w'.heap w.heap.size 22 1 out (pcV ps)/\(∀p∈ps,xJ (fun q=>w.heap.size<=q/\out.aw≠some q) w'.heap p.1 p.2)/\ps.map Prod.snd=(l.take j).map (fun n=>numB n.toNat)/\Ext No w w',
  ⟨_,0,[],rfl,Nat.zero_le _,rfl,aP.nil _ _ _ _,by simp,by simp,Ext.refl _ _⟩,?_⟩
 rintro _ m0 out _ w1 ⟨j,ps,rfl,hj,rfl,o1,hp,zG,x1⟩;have hpn:ps.length=j:=by have:=congrArg List.length zG;simp at this;omega
 refine If.dec (fun h=>?_) fun h=>?_
 .have wE:j < l.length:=by omega
  refine Ix.cell (rl.no x1) (by omega) h fun b o v _ hv hc=>?_
  rw[Int.toNat_natCast,List.getElem?_map,List.getElem?_eq_getElem wE]at hv;simp only[Option.map_some,Option.some.injEq]at hv;subst hv;have hx:=hr _ (List.getElem_mem wE);have z1:=x1.size;refine⟨_,hc,N2 (MB hx.1 hx.2 fun r w2 o2 x2=>au.mk fun b1 w3 n3=>?_)⟩;have z2:=x2.size;refine P6 (m:=numB l[j].toNat) (o1.no x2) (fun p Fy=>(hp p Fy).no x2) (.own o2 fun q h1 _=>⟨by omega,fun h=>by have:=(o1.lt h).2;omega⟩) n3 (by omega) (by omega) fun s' w4 o4 Sv x4=>Ar.i64 (by omega) ⟨_,by omega,j+1,_,by omega,by omega,rfl,o4,Sv,?_,?_⟩
  .rw[zA wE,List.map_append,List.map_append,zG];rfl
  .exact(x1.no x2).trans x4 fun q hq h=>by have:=(o1.lt h).1;omega
 .have Xs:j=l.length:=by omega
  rw[Xs,List.take_length]at zG;exact k out ps w1 o1 hp zG x1
theorem qH{s:Sl}{l:List Int}{K:Sl->Pw}(rl:Rd w.heap s 1 (l.map (Value.int .u64)))(hr:∀x∈l,0<=x/\x<=18446744073709551615)(hl:l.length<=1000)(h2:2<=l.length)
  (k:∀t w',aQ w'.heap t (iF l)->t.cap=t.len->Ext No w w'->K t w'):oS s w K:=by
 apply Fc;refine JT rl hr hl fun o ps w1 o1 hp zG x1=>?_
 have hpn:ps.length=l.length:=by have:=congrArg List.length zG;simpa using this
 have RC:cat ps=iF l:=by unfold cat;rw[zG]
 have hlen:∀(l:List Int),(∀x∈l,0<=x/\x<=18446744073709551615)->(iF l).length<=l.length * 10:=fun l=>by
  induction l with
  | nil=>simp
  | cons x l ih=>
   intro h;have h1:=ih fun y hy=>h y (List.mem_cons_of_mem _ hy)
   have h3:=h x List.mem_cons_self;have h4:=bK (n:=x.toNat) (by omega);simp only[iF,List.map_cons,List.flatten_cons,List.length_append,List.length_cons]at h1 ⊢;omega
 have hb:=hlen l hr;refine F0 o1.rd (fun p Fy=>(hp p Fy).rd) (by rw[RC];omega) (by omega) fun t w2 r2 iv _ x2=>k t w2 (by rw[<- RC];exact r2) (iv (by omega)) (x1.no x2)
theorem RD{h:dX}(r:OS h)(hw:h.wr.length<=1000):(lU h).length<=h.wr.length+30:=by
 have h1:=bK (n:=h.gen.toNat) (by have:=r.gen;omega);have h2:=bK (n:=h.cm.toNat) (by have:=r.cm;omega);have h3:=RB h.wr (by omega);unfold lU;simp only[List.length_append];omega
theorem F1{v:iq}{x:dX}{cb:Nat}{K:Sl->Pw}(r:rM Q w.heap v x)(rg:OS x)(hw:x.wr.length<=1000)(gc:w.heap[cb]? = some (.cells [.func (.func 290) #[] #[]].toArray 394 (0,0)))
  (k:∀t w',aL w'.heap w.heap.size t (lU x)->Ext No w w'->K t w'):oT v.gen v.cm v.wr ⟨cb,0,none⟩ w K:=by
 apply Fa;refine au.mk fun b w1 n1=>?_
 have x1:=n1.ext;have g1:w1.heap[b]? = some (.cells v.cells.toArray 146 (0,0)):=n1.get;have gc1:=ah gc x1;have e1:=r.gen;have e2:=r.cm;have hg:=rg.gen;have hc:=rg.cm;refine⟨Ext No w1,(Ext.refl _ _).drew,.func (.func 290) #[] #[],MC gc1 rfl,v.gen,MC g1 rfl,Ar.u64 (by omega) ⟨v.cm,lV g1 rfl,v.wr,lV g1 rfl,au.mk fun b2 w2 n2=>⟨(Ext.refl No w1).drew.no n2.ext,?_⟩⟩⟩;have rl:Rd w2.heap ⟨some ⟨b2,0,none⟩,2,2⟩ 1 ([v.gen,v.cm].map (Value.int .u64)):=(aP.new (sz:=1) (n:=2) n2 rfl (by simp[cB])).rd;have lJ:Ext No w1 w2:=(Ext.refl No w1).drew.no n2.ext;refine oZ (l:=⟨some ⟨b2,0,none⟩,2,2⟩) (qH rl (by simp;omega) (by simp) (by simp) fun t w3 r3 iv x3=>⟨lJ.no x3,?_⟩);have iY:=lJ.no x3;have hwr:=aQ.len r.wr.rd
 refine H0 ((r.wr.no x1).no iY).rd (by omega) fun t2 w4 o4 x4=>⟨iY.no x4,?_⟩
 have l4:=aL.len o4;have l3:=aQ.len r3
 have n3:(iF [v.gen,v.cm]).length<=20:=by
  have h1:=bK (n:=v.gen.toNat) (by omega);have h2:=bK (n:=v.cm.toNat) (by omega);simp[iF];omega
 have n4:=bK (n:=x.wr.length) (by omega);have du:0 < (numB x.wr.length).length:=List.length_pos_iff.2 (WA _);rw[List.length_append]at l4
 refine He (r3.no x4) o4.rd (by omega) (by omega) fun s' w5 o5 x5=>⟨(iY.no x4).no x5,k s' w5 ?_ (((x1.no iY).no x4).no x5)⟩
 have e:iF [v.gen,v.cm]++(numB x.wr.length++x.wr)=lU x:=by simp[iF,lU,textB,e1,e2]
 rw[e]at o5;have z:=((x1.no iY).no x4).size;exact o5.mono z
theorem JU{s:Sl}{l:List dX}{cb:Nat}{K:Sl->Pw}(rl:hH Q w.heap s l)(hr:∀x∈l,OS x/\x.wr.length<=1000)(hl:l.length<=1000)(gc:w.heap[cb]? = some (.cells [.func (.func 290) #[] #[]].toArray 394 (0,0)))
  (k:∀o ps w',aP w'.heap w.heap.size 22 1 o (pcV ps)->(∀p∈ps,xJ (fun q=>w.heap.size<=q/\o.aw≠some q) w'.heap p.1 p.2)->ps.map Prod.snd=l.map lU->Ext No w w'->K o w'):bf s (.func (.func 297) #[] #[.pointer (some ⟨cb,0,none⟩)]) w K:=by
 apply n_;have od:=rl.len
 refine⟨fun m out t w'=>∃(j:Nat) (ps:List (Sl×List Int)),t=j/\j<=l.length/\m=l.length - j/\aP w'.heap w.heap.size 22 1 out (pcV ps)/\(∀p∈ps,xJ (fun q=>w.heap.size<=q/\out.aw≠some q) w'.heap p.1 p.2)/\ps.map Prod.snd=(l.take j).map lU/\Ext No w w',
  ⟨_,0,[],rfl,Nat.zero_le _,rfl,aP.nil _ _ _ _,by simp,by simp,Ext.refl _ _⟩,?_⟩
 rintro _ m0 out _ w1 ⟨j,ps,rfl,hj,rfl,o1,hp,zG,x1⟩;have hpn:ps.length=j:=by have:=congrArg List.length zG;simp at this;omega
 refine If.dec (fun h=>?_) fun h=>?_
 .refine UD (rl.no x1) (by omega) h fun b o v hi Gs hc=>?_
  have wE:j < l.length:=hi;have el:l[((j:Nat):Int).toNat]'hi=l[j]:=rfl;rw[el]at Gs;have hx:=hr _ (List.getElem_mem wE);have z1:=x1.size;refine⟨_,hc 0 _ rfl,_,hc 1 _ rfl,_,hc 2 _ rfl,au.mk fun b1 w2 n2=>⟨rfl,bO.all n2.get rfl v.one fun w3 g3 x3 _=>?_⟩⟩;have TK:Ext (·=b1) w2 w3:=x3;have Cz:=n2.at_;have z2:=n2.size;have z3:=TK.size;have iY:Ext No w1 w3:=n2.ext.trans TK fun q hq h=>by omega
  have iC:=x1.no iY;refine⟨_,Cell.af g3 rfl,_,Cell.af g3 rfl,_,Cell.af g3 rfl,Fb (F1 (Gs.no iY) hx.1 hx.2 (ah gc iC) fun r w4 o4 x4=>au.mk fun b2 w5 n5=>?_)⟩;have z4:=x4.size;have iT:=iY.no x4;refine P6 (m:=lU l[j]) (o1.no iT) (fun p Fy=>(hp p Fy).no iT) (.own o4 fun q h1 _=>⟨by omega,fun h=>by have:=(o1.lt h).2;omega⟩) n5 (by omega) (by omega) fun s' w6 o6 hp6 x6=>Ar.i64 (by omega) ⟨_,by omega,j+1,_,by omega,by omega,rfl,o6,hp6,?_,?_⟩
  .rw[zA wE,List.map_append,List.map_append,zG];rfl
  .exact(x1.no iT).trans x6 fun q hq h=>by have:=(o1.lt h).1;omega
 .have Xs:j=l.length:=by omega
  rw[Xs,List.take_length]at zG;exact k out ps w1 o1 hp zG x1
end
end Go.Proofs.YtiigcapldngijaaGreat
namespace Go.V
open Go.V.Pk
theorem MD(x:jn):fy x=iF [x.bH,x.aO]++(textB x.mark++(iF [x.root.p,x.root.c,x.root.g,x.lev,((x.held.length:Nat):Int)]++(x.held.map lU).flatten)):=by
 simp[fy,iF,List.flatMap]
end Go.V
namespace Go.Proofs.YtiigcapldngijaaGreat
open Go.V Go.V.Pk
section
variable {w:Wd} {Q:Nat->Prop}
theorem OT{w0:Wd}{vh rA rB:Sl}{x:jn}{cb b4:Nat}{A B:List Int}{K:Sl->Int->Pw}(x0:Ext No w0 w)(gc:w.heap[cb]? = some (.cells [.func (.func 290) #[] #[]].toArray 394 (0,0)))(rh:hH Q w.heap vh x.held)(rg:Rv x)(hh:∀h∈x.held,h.wr.length<=1000)(hl:x.held.length<=2)
  (ra:aQ w.heap rA A) (rb:aQ w.heap rB B) (hA:A.length<=1000) (hB:B.length<=1000) (g4:w.heap[b4]? = some (.cells ([x.root.p,x.root.c,x.root.g,x.lev,((x.held.length:Nat):Int)].map (Value.int .u64)).toArray 28 (0,0)))
  (k:∀t w',aL w'.heap w.heap.size t (A++(B++(iF [x.root.p,x.root.c,x.root.g,x.lev,((x.held.length:Nat):Int)]++(x.held.map lU).flatten)))->Ext No w0 w'->K t 0 w') :
  aC pz false (.func (.func 290) #[] #[]) [.slice (some (Addr.mk b4 0 none)) 5 5] [.one (.sl)] (fun Xg eM=>
   Ext No w0 eM/\
   bf vh (.func (.func 297) #[] #[.pointer (some (Addr.mk cb 0 none))]) eM fun r_4 gO=>
   Ext No w0 gO/\
   ff r_4 ⟨none,0,0⟩ gO fun Sx fV=>
   Ext No w0 fV/\
   au fV (.cells [.slice rA.a rA.len rA.cap,.slice rB.a rB.len rB.cap,.slice Xg.a Xg.len Xg.cap,.slice Sx.a Sx.len Sx.cap].toArray 22) fun b_5 lR=>
   Ext No w0 lR/\
   aZ ⟨some (Addr.mk b_5 0 none),4,4⟩ lR fun Xj mU=>
   Ext No w0 mU/\
   K Xj 0 mU) bJ w:=by
 have ok:=rg.root;have lv:=rg.lev
 have rl:Rd w.heap ⟨some ⟨b4,0,none⟩,5,5⟩ 1 ([x.root.p,x.root.c,x.root.g,x.lev,((x.held.length:Nat):Int)].map (Value.int .u64)):=
  (⟨rfl,.inr ⟨b4,[],rfl,Nat.zero_le _,by simpa using g4,rfl,Nat.le_refl _⟩,by simp[cB]⟩ : aP w.heap 0 28 1 ⟨some ⟨b4,0,none⟩,5,5⟩ _).rd
 have Kz:∀y∈[x.root.p,x.root.c,x.root.g,x.lev,((x.held.length:Nat):Int)],0<=y/\y<=18446744073709551615:=by
  intro y hy;simp only[List.mem_cons,List.not_mem_nil,or_false]at hy;obtain⟨h1,h2,h3⟩:=ok;rcases hy with rfl | rfl | rfl | rfl | rfl <;> omega
 refine oZ (l:=⟨some ⟨b4,0,none⟩,5,5⟩) (qH rl Kz (by simp) (by simp) fun t w1 r1 _ x1=>⟨x0.no x1,?_⟩)
 refine JU (rh.no x1) (fun h hm=>⟨rg.held h hm,hh h hm⟩) (by omega) (ah gc x1) fun o ps w2 o2 hp zG x2=>⟨(x0.no x1).no x2,?_⟩
 have hpn:ps.length=x.held.length:=by have:=congrArg List.length zG;simpa using this
 have RC:cat ps=(x.held.map lU).flatten:=by unfold cat;rw[zG]
 have zJ:∀(l:List dX),(∀h∈l,OS h/\h.wr.length<=1000)->((l.map lU).flatten).length<=l.length * 1030:=fun l=>by
  induction l with
  | nil=>simp
  | cons h l ih=>
   intro hm;have h1:=ih fun y hy=>hm y (List.mem_cons_of_mem _ hy)
   have h2:=hm h List.mem_cons_self;have h3:=RD h2.1 h2.2;simp only[List.map_cons,List.flatten_cons,List.length_append,List.length_cons]at h1 ⊢;omega
 have hc:=zJ x.held fun h hm=>⟨rg.held h hm,hh h hm⟩
 refine F0 o2.rd (fun p Fy=>(hp p Fy).rd) (by rw[RC];omega) (by omega) fun t2 w3 r3 _ _ x3=>⟨((x0.no x1).no x2).no x3,au.mk fun b5 w4 n4=>⟨(((x0.no x1).no x2).no x3).no n4.ext,?_⟩⟩
 have iT:=((x1.no x2).no x3).no n4.ext;have mq:=(x2.no x3).no n4.ext;have n5:=bK (n:=x.root.p.toNat) (by have:=ok.1;omega)
 have hn:(iF [x.root.p,x.root.c,x.root.g,x.lev,((x.held.length:Nat):Int)]).length<=50:=by
  have h1:=bK (n:=x.root.p.toNat) (by have:=ok.1;omega);have h2:=bK (n:=x.root.c.toNat) (by have:=ok.2.1;omega);have h3:=bK (n:=x.root.g.toNat) (by have:=ok.2.2;omega);have h4:=bK (n:=x.lev.toNat) (by omega);have h5:=bK (n:=((x.held.length:Nat):Int).toNat) (by omega);simp only[iF,List.map_cons,List.map_nil,List.flatten_cons,List.flatten_nil,List.length_append,List.length_nil];omega
 let P:List (Sl×List Int):=[(rA,A),(rB,B),(t,iF [x.root.p,x.root.c,x.root.g,x.lev,((x.held.length:Nat):Int)]),(t2,cat ps)]
 have rP:Rd w4.heap ⟨some ⟨b5,0,none⟩,4,4⟩ 1 (P.map fun p=>p.1.v):=(aP.new (sz:=1) (n:=4) n4 rfl (by simp[cB])).rd
 refine CL (ps:=P) rP (fun p Fy=>?_) ?_ (by simp[P]) fun s w5 o5 x5=>⟨(((((x0.no x1).no x2).no x3).no n4.ext)).no x5,k s w5 ?_ ((((((x0.no x1).no x2).no x3).no n4.ext)).no x5)⟩
 .simp only[P,List.mem_cons,List.not_mem_nil,or_false]at Fy;rcases Fy with rfl | rfl | rfl | rfl
  .exact ra.no iT
  .exact rb.no iT
  .exact r1.no mq
  .exact r3.no n4.ext
 .have e:((P.map Prod.snd).flatten).length=A.length+(B.length+((iF [x.root.p,x.root.c,x.root.g,x.lev,((x.held.length:Nat):Int)]).length+(cat ps).length)):=by
   simp only[P,List.map_cons,List.map_nil,List.flatten_cons,List.flatten_nil,List.length_append,List.length_nil,Nat.add_zero]
  rw[e,RC];omega
 .have e:(P.map Prod.snd).flatten=A++(B++(iF [x.root.p,x.root.c,x.root.g,x.lev,((x.held.length:Nat):Int)]++(x.held.map lU).flatten)):=by
   simp only[P,List.map_cons,List.map_nil,List.flatten_cons,List.flatten_nil,List.append_nil,RC]
  rw[e]at o5;exact o5.mono iT.size
set_option maxHeartbeats 2000000 in
theorem F3{v:dN}{x:jn}{K:Sl->Int->Pw}(r:iE Q w.heap v x)(rg:Rv x)(hl:x.held.length<=1000000000000)
  (hm:JS x) (k0:∀t w',JS x->aL w'.heap w.heap.size t (fy x)->Ext No w w'->K t 0 w'):eY v.tenant v.bH v.mark v.root.p v.root.c v.root.g v.lev v.aO v.held w K:=by
 apply I8;refine au.mk fun b w1 n1=>?_
 have g1:w1.heap[b]? = some (.cells v.cells.toArray 100 (0,0)):=n1.get;have x1:=n1.ext;refine⟨v.tenant,Cell.af g1 rfl,v.bH,Cell.af g1 rfl,v.mark,Cell.af g1 rfl,v.root.p,Cell.af g1 rfl,v.root.c,Cell.af g1 rfl,v.root.g,Cell.af g1 rfl,v.lev,Cell.af g1 rfl,v.aO,Cell.af g1 rfl,v.held,Cell.af g1 rfl,Ry (r.no x1) rg.held hl fun t w2 ht x2=>If.not (If.cases (fun h=>?_) fun h=>by rw[ht.2 hm]at h;cases h)⟩;have may:=ht.1 h;have vJ:=x1.no x2;have g2:=ah g1 x2;refine⟨_,Cell.af g2 rfl,_,Cell.af g2 rfl,_,Cell.af g2 rfl,_,Cell.af g2 rfl,au.mk fun b1 w3 n3=>⟨rfl,bO.all n3.get rfl (by simp[cB]) fun w4 g4 x4 _=>au.mk fun b2 w5 n5=>aH.mk n5.get (by simp) rfl fun w6 h6=>?_⟩⟩;have Cz:=n3.at_;have z3:=n3.size;have zI:=n5.at_;have z5:=n5.size;have TG:Ext (·=b1) w3 w4:=x4;have z4:=TG.size;have x6:Ext (·=b2) w5 w6:=h6.ext;have mq:Ext No w2 w4:=n3.ext.trans TG fun q hq h=>by omega
 have TU:Ext No w2 w6:=(mq.no n5.ext).trans x6 fun q hq h=>by have:=mq.size;omega
 have zk:=vJ.no TU;have Gh:=ah g2 TU;have gr6:w6.heap[b1]? = some (.cells [.int .u32 v.root.p,.int .u64 v.root.c,.int .u16 v.root.g,.int .u8 v.lev].toArray 46 (0,0)):=ar (ah g4 n5.ext) x6 (by have:=mq.size;omega);have gc6:w6.heap[b2]? = some (.cells [.func (.func 290) #[] #[]].toArray 394 (0,0)):=h6.get n5.get;have e1:=r.bH;have e2:=r.aO;have e4:=r.root;have e5:=r.lev;have lh:=r.held.len;have lm:=aQ.len r.mark.rd;have ok:=rg.root;have lv:=rg.lev;obtain⟨m1,m2,m3,m4,m5,m6,m7,m8⟩:=may;have Oe:x.held.length<=2:=by rcases m8 with⟨a,h,_⟩ | ⟨a,c,h,_⟩ <;> rw[h] <;> simp
 have hh:∀y∈x.held,y.wr.length<=1000:=fun y hy=>by
  rcases m8 with⟨a,h,h1⟩ | ⟨a,c,h,h1,h2,_⟩ <;> rw[h]at hy <;> simp at hy
  .rw[hy];omega
  .rcases hy with e | e <;> rw[e] <;> omega
 have xd:Ext No w6 (ae w6):=(Ext.refl _ _).drew;obtain⟨k1,k3,k4⟩:=ok;refine⟨Ext No w6,xd,.func (.func 290) #[] #[],MC gc6 rfl,v.bH,lV Gh rfl,Ar.u64 (by omega) ⟨v.aO,lV Gh rfl,Ar.u64 (by omega) ⟨v.mark,lV Gh rfl,.func (.func 290) #[] #[],MC gc6 rfl,v.root.p,MC gr6 rfl,Ar.u64 (by rw[e4];omega) ⟨v.root.c,lV gr6 rfl,v.root.g,lV gr6 rfl,Ar.u64 (by rw[e4];omega) ⟨v.lev,lV gr6 rfl,Ar.u64 (by omega) ⟨v.held,lV Gh rfl,Ar.u64 (by omega) ⟨v.held,lV Gh rfl,?_⟩⟩⟩⟩⟩⟩⟩;have e5l:[v.root.p,v.root.c,v.root.g,v.lev,((v.held.len:Nat):Int)]=[x.root.p,x.root.c,x.root.g,x.lev,((x.held.length:Nat):Int)]:=by rw[e4,e5,lh]
 have e2l:[v.bH,v.aO]=[x.bH,x.aO]:=by rw[e1,e2]
 have af4:∀y∈[v.bH,v.aO],0<=y/\y<=18446744073709551615:=by
  intro y hy;simp only[List.mem_cons,List.not_mem_nil,or_false]at hy;rcases hy with rfl | rfl <;> omega
 have n2:(iF [x.bH,x.aO]).length<=1000:=by
  have h1:=bK (n:=x.bH.toNat) (by omega);have h2:=bK (n:=x.aO.toNat) (by omega);simp only[iF,List.map_cons,List.map_nil,List.flatten_cons,List.flatten_nil,List.length_append,List.length_nil];omega
 have nm:(numB x.mark.length++x.mark).length<=1000:=by
  have:=bK (n:=x.mark.length) (by omega);rw[List.length_append];omega
 -- the two parts ah9 the af5 aia
 have aba:∀{w7:Wd}{b3:Nat}{K':Sl->Pw},Ext No w6 w7->w7.heap[b3]? = some (.cells ([v.bH,v.aO].map (Value.int .u64)).toArray 28 (0,0))->(∀t w',aQ w'.heap t (iF [x.bH,x.aO])->Ext No w7 w'->K' t w')->
   aC pz false (.func (.func 290) #[] #[]) [.slice (some (Addr.mk b3 0 none)) 2 2] [.one (.sl)] K' bJ w7:=fun {w7 b3 K'} x7 g7 k'=>by
  have rl:Rd w7.heap ⟨some ⟨b3,0,none⟩,2,2⟩ 1 ([v.bH,v.aO].map (Value.int .u64)):=
   (⟨rfl,.inr ⟨b3,[],rfl,Nat.zero_le _,by simpa using g7,rfl,Nat.le_refl _⟩,by simp[cB]⟩ : aP w7.heap 0 28 1 ⟨some ⟨b3,0,none⟩,2,2⟩ _).rd
  exact oZ (l:=⟨some ⟨b3,0,none⟩,2,2⟩) (qH rl af4 (by simp) (by simp) fun t w8 r8 _ x8=>k' t w8 (by rw[<- e2l];exact r8) x8)
 have text:∀{w7:Wd}{K':Sl->Pw},Ext No w6 w7->(∀t w',aQ w'.heap t (numB x.mark.length++x.mark)->Ext No w7 w'->K' t w')->gf v.mark w7 K':=fun {w7 K'} x7 k' =>
  H0 (r.mark.no (zk.no x7)).rd (by omega) fun t w8 o8 x8=>k' t w8 o8.rd x8
 have fin:∀{w7:Wd}{rA rB:Sl}{b4:Nat},Ext No w6 w7->w7.heap[b4]? = some (.cells ([v.root.p,v.root.c,v.root.g,v.lev,((v.held.len:Nat):Int)].map (Value.int .u64)).toArray 28 (0,0))->aQ w7.heap rA (iF [x.bH,x.aO])->aQ w7.heap rB (numB x.mark.length++x.mark)->_:=fun {w7 rA rB b4} x7 g7 ra rb=>
  OT (Q:=Q) (w0:=w6) (K:=K) x7 (ah gc6 x7) (r.held.no (zk.no x7)) rg hh Oe ra rb n2 nm (by rw[<- e5l];exact g7) fun t w' o' x'=>k0 t w' ⟨m1,m2,m3,m4,m5,m6,m7,m8⟩ (by rw[MD];exact o'.mono (zk.no x7).size) (zk.no x')
 refine⟨?_,?_⟩
 .refine au.mk fun b3 w7 n7=>?_
  have x7:=xd.no n7.ext;refine⟨x7,aba x7 n7.get fun rA w8 rdA x8=>?_,?_⟩
  .have wz:=x7.no x8;refine⟨wz,text wz fun rB w9 rdB x9=>⟨wz.no x9,au.mk fun b4 eK ke=>⟨(wz.no x9).no ke.ext,?_⟩⟩,au.mk fun b6 iB n16=>⟨wz.no n16.ext,text (wz.no n16.ext) fun rB pJ rdB Eg=>⟨(wz.no n16.ext).no Eg,?_⟩⟩⟩
   .exact fin ((wz.no x9).no ke.ext) ke.get ((rdA.no x9).no ke.ext) (rdB.no ke.ext)
   .exact fin ((wz.no n16.ext).no Eg) (ah n16.get Eg) ((rdA.no n16.ext).no Eg) rdB
  .refine au.mk fun b8 Jm My=>?_
   have DU:=x7.no My.ext;refine⟨DU,aba DU (ah n7.get My.ext) fun rA iD rdA mq=>⟨DU.no mq,text (DU.no mq) fun rB py rdB kv=>⟨(DU.no mq).no kv,?_⟩⟩⟩;exact fin ((DU.no mq).no kv) (ah (ah My.get mq) kv) (rdA.no kv) rdB
 .refine au.mk fun b10 Nf Zk=>?_
  have P8:=xd.no Zk.ext;refine⟨P8,au.mk fun b11 Xi n32=>?_⟩;have Xw:=P8.no n32.ext;refine⟨Xw,aba Xw n32.get fun rA w33 rdA x33=>⟨Xw.no x33,text (Xw.no x33) fun rB w34 rdB UI=>⟨(Xw.no x33).no UI,?_⟩⟩⟩;exact fin ((Xw.no x33).no UI) (ah (ah (ah Zk.get n32.ext) x33) UI) (rdA.no UI) rdB
end
end Go.Proofs.YtiigcapldngijaaGreat
namespace Go.V
open Go.V.Pk Go.Proofs.YtiigcapldngijaaGreat
abbrev KSe:Type:=Int->Int->Sl->Int->Int->Int->Int->Int->Sl->Int->Pw
abbrev KSe.at(K:KSe)(v:dN)(e:Int)(w:Wd):Prop:=K v.tenant v.bH v.mark v.root.p v.root.c v.root.g v.lev v.aO v.held e w
structure Sml(x:jn)(h:dX):Prop where
 held:x.held=[h]
 may:JS x
 Kz:Rv x
 q:x.bH<=127
 c:x.aO<=127
 p:x.root.p<=127
 cm:x.root.c<=127
 g:x.root.g<=127
 lv:x.lev<=127
 hg:h.gen<=127
 hc:h.cm<=127
 wr:h.wr.length=32
abbrev restP(x:jn)(h:dX):List Int:=x.root.p::x.root.c::x.root.g::x.lev::1::h.gen::h.cm::32::(h.wr++[])
theorem vT{z:Int}(h0:0<=z)(h1:z<=127):numB z.toNat=[z]:=by rw[se (by omega),Int.toNat_of_nonneg h0]
theorem Sml.form{x:jn}{h:dX}(m:Sml x h):fy x=x.bH::x.aO::16::(x.mark++restP x h):=by
 obtain⟨m1,m2,m3,m4,m5,m6,m7,m8⟩:=m.may;have rt:=m.Kz.root;have lv:=m.Kz.lev;have hh:=m.Kz.held h (by rw[m.held];exact List.mem_singleton.2 rfl);have e16:numB x.mark.length=[16]:=by rw[m4];exact vT (z:=16) (by decide) (by decide)
 have e32:numB h.wr.length=[32]:=by rw[m.wr];exact vT (z:=32) (by decide) (by decide)
 have e1:numB x.held.length=[1]:=by rw[m.held];exact vT (z:=1) (by decide) (by decide)
 rw[fy,vT (by omega) m.q,vT m5 m.c,vT rt.1.1 m.p,vT rt.2.1.1 m.cm,vT rt.2.2.1 m.g,vT lv.1 m.lv,textB,e16,e1,m.held];simp[lU,textB,e32,vT hh.gen.1 m.hg,vT hh.cm.1 m.hc]
end Go.V
namespace Go.Proofs.YtiigcapldngijaaGreat
open Go.V Go.V.Pk
section
variable {w:Wd} {Q:Nat->Prop} {rb:Nat} {rs:Sl} {l rest:List Int} {a:Nat} {z:Int}
theorem Cf{lK:Int}{cb:Nat}{K:Int->Pw}(gb:w.heap[cb]? = some (.cells [.pointer (some ⟨rb,0,none⟩)].toArray 287 (0,0)))(r:zH w.heap rb rs l a 0)(hn:0<=z/\z<=127)(hm:z<=lK)(h:l.drop a=z::rest)(k:∀w',zH w'.heap rb rs l (a+1) 0->l.drop (a+1)=rest->Ext (·=rb) w w'->w'.heap.size=w.heap.size->K z w'):qA lK ⟨cb,0,none⟩ w K:=by
 apply GK;exact⟨_,Cell.af gb rfl,UG r hn h fun w1 r1 d1 x1 z1=>If.dec (fun h=>absurd h (by omega)) fun _=>k w1 r1 d1 x1 z1⟩
def Zl(b1 b2 b3:Nat)(b:Sl)(w9:Wd)(K:KSe):Prop:=
 aC pz true (.func (.func 186) #[] #[.pointer (some (Addr.mk b2 0 none))]) [.int .u64 4294967295] [.one (.int .u64)] (fun r_4 eK=>
 Ar .u32 r_4 fun z_2=>
 ∃zZ:Option Addr,Cell eK (Addr.mk b2 0 none) (.pointer zZ)/\
 aW zZ eK fun Sx eM=>
 aC pz true (.func (.func 186) #[] #[.pointer (some (Addr.mk b2 0 none))]) [.int .u64 65535] [.one (.int .u64)] (fun Xj gO=>
 Ar .u16 Xj fun YA=>
 List.length (α:=Value) (pN z_2 Sx YA)=3/\bO gO ((Addr.mk b3 0 none).add 3) (pN z_2 Sx YA) fun fV=>
 aC pz true (.func (.func 186) #[] #[.pointer (some (Addr.mk b2 0 none))]) [.int .u64 255] [.one (.int .u64)] (fun P0 lR=>
 Ar .u8 P0 fun z_4=>
 aH lR (((Addr.mk b3 0 none).add 3).add 3) (.int .u8 z_4) fun mU=>
 aC pz true (.func (.func 186) #[] #[.pointer (some (Addr.mk b2 0 none))]) [.int .u64 2] [.one (.int .u64)] (fun r_8 iB=>
 Nm (KI r_8 2) fun z_5=>
 ∃I0:Nat->Int->Pw,(∃m,I0 m 0 iB)/\∀(_:Env)(m0:Nat)(t:Int)(pJ:Wd),I0 m0 t pJ->
 If (decide (t < z_5)) (
 ∃S:Pw,S (ae pJ)/\
 ∃oW:Sl,aj S ((Addr.mk b3 0 none).add 8) oW.u/\
 ∃GS:Option Addr,aj S (Addr.mk b2 0 none) (.pointer GS)/\
 ∃Ml:Option Addr,aj S (Addr.mk b2 0 none) (.pointer Ml)/\
 aC pz false (.func (.func 186) #[] #[.pointer (some (Addr.mk b2 0 none))]) [.int .u64 65535] [.one (.int .u64)] (fun r_9 G1=>
 S G1/\
 Ar .u16 r_9 fun z_6=>
 aW GS G1 fun abb AE=>
 S AE/\
 aX Ml 32 AE fun abc HO=>
 S HO/\
 au HO (.cells (HH z_6 abb abc).toArray 146) fun b_4 yZ=>
 S yZ/\
 bj pz 98 98 oW (.slice (some (Addr.mk b_4 0 none)) 1 1) (fun s DT=>
 S DT/\
 aH DT ((Addr.mk b3 0 none).add 8) s.u fun Jm=>
 Ar .u64 (t+1) fun z_7=>
 ∃m1,m1 < m0/\I0 m1 z_7 Jm) yZ) bJ ((ae pJ))) (
 ∃Mm:Option Addr,Cell pJ (Addr.mk b2 0 none) (.pointer Mm)/\
 cA Mm pJ fun r0 _r1_1 iD=>
 If (r0 != 0) (
 False) (
 ∃c:Int,Cell iD (Addr.mk b3 0 none) (.int .u32 c)/\
 ∃Gl:Int,Cell iD ((Addr.mk b3 0 none).add 1) (.int .i64 Gl)/\
 ∃Sw:Sl,Cell iD ((Addr.mk b3 0 none).add 2) Sw.u/\
 ∃Kr:Int,Cell iD ((Addr.mk b3 0 none).add 3) (.int .u32 Kr)/\
 ∃Ks:Int,Cell iD ((Addr.mk b3 0 none).add 4) (.int .u64 Ks)/\
 ∃Kt:Int,Cell iD ((Addr.mk b3 0 none).add 5) (.int .u16 Kt)/\
 ∃Ku:Int,Cell iD ((Addr.mk b3 0 none).add 6) (.int .u8 Ku)/\
 ∃Kw:Int,Cell iD ((Addr.mk b3 0 none).add 7) (.int .i64 Kw)/\
 ∃Kx:Sl,Cell iD ((Addr.mk b3 0 none).add 8) Kx.u/\
 eY c Gl Sw Kr Ks Kt Ku Kw Kx iD fun OL JP py=>
 If (JP != 0) (
 False) (
 dW b OL py fun abe Hd=>
 If (!abe) (
 False) (
 ∃VR:Int,Cell Hd (Addr.mk b3 0 none) (.int .u32 VR)/\
 ∃G_:Int,Cell Hd ((Addr.mk b3 0 none).add 1) (.int .i64 G_)/\
 ∃Ha:Sl,Cell Hd ((Addr.mk b3 0 none).add 2) Ha.u/\
 ∃rK:Int,Cell Hd ((Addr.mk b3 0 none).add 3) (.int .u32 rK)/\
 ∃rL:Int,Cell Hd ((Addr.mk b3 0 none).add 4) (.int .u64 rL)/\
 ∃zw:Int,Cell Hd ((Addr.mk b3 0 none).add 5) (.int .u16 zw)/\
 ∃zy:Int,Cell Hd ((Addr.mk b3 0 none).add 6) (.int .u8 zy)/\
 ∃Hb:Int,Cell Hd ((Addr.mk b3 0 none).add 7) (.int .i64 Hb)/\
 ∃Hc:Sl,Cell Hd ((Addr.mk b3 0 none).add 8) Hc.u/\
 List.length (α:=Value) (IE VR G_ Ha rK rL zw zy Hb Hc)=9/\bO Hd (Addr.mk b1 0 none) (IE VR G_ Ha rK rL zw zy Hb Hc) fun xi=>
 ∃Mo:Int,Cell xi (Addr.mk b1 0 none) (.int .u32 Mo)/\
 ∃Mp:Int,Cell xi ((Addr.mk b1 0 none).add 1) (.int .i64 Mp)/\
 ∃Mq:Sl,Cell xi ((Addr.mk b1 0 none).add 2) Mq.u/\
 ∃JN:Int,Cell xi ((Addr.mk b1 0 none).add 3) (.int .u32 JN)/\
 ∃T_:Int,Cell xi ((Addr.mk b1 0 none).add 4) (.int .u64 T_)/\
 ∃Ua:Int,Cell xi ((Addr.mk b1 0 none).add 5) (.int .u16 Ua)/\
 ∃Ub:Int,Cell xi ((Addr.mk b1 0 none).add 6) (.int .u8 Ub)/\
 ∃Uc:Int,Cell xi ((Addr.mk b1 0 none).add 7) (.int .i64 Uc)/\
 ∃Ud:Sl,Cell xi ((Addr.mk b1 0 none).add 8) Ud.u/\
 K Mo Mp Mq JN T_ Ua Ub Uc Ud 0 xi))))) bJ mU) bJ fV) bJ eM) bJ w9
set_option maxHeartbeats 4000000 in
theorem RE{w0:Wd}{b1 b2 b3:Nat}{b mk:Sl}{x:jn}{h:dX}{K:KSe}(m:Sml x h)(x0:Ext No w0 w)(b1o:w0.heap.size<=b1)(b3o:w0.heap.size<=b3)(rbo:w0.heap.size<=rb)
  (ne:b1≠rb/\b1≠b2/\b1≠b3/\rb≠b2/\rb≠b3/\b2≠b3) (rsn:∀i,rs.aw=some i->i≠b3/\i < w.heap.size) (g1:w.heap[b1]? = some (.cells tu.cells.toArray 100 (0,0))) (g2:w.heap[b2]? = some (.cells [.pointer (some ⟨rb,0,none⟩)].toArray 287 (0,0)))
  (g3:w.heap[b3]? = some (.cells ({ tu with tenant:=x.tenant,bH:=x.bH,mark:=mk,aO:=x.aO }:dN).cells.toArray 100 (0,0))) (hl:l.length<=1000) (r:zH w.heap rb rs l a 0) (om:xJ (fun q=>w0.heap.size<=q/\q≠b3/\q≠rb/\q≠b1) w.heap mk x.mark)
  (hb:aQ w0.heap b l) (hf:fy x=l) (d:l.drop a=restP x h)
  (k:∀v w',iE (w0.heap.size<=·) w'.heap v x->Ext No w0 w'->K.at v 0 w'):Zl b1 b2 b3 b w K:=by
 obtain⟨n1r,pK,Ju,nr2,VV,My⟩:=ne;have l1:=aN g1;have l2:=aN g2;have l3:=aN g3;have lr:rb < w.heap.size:=by obtain⟨T,hT⟩:=r.aw;exact aN hT
 have rt:=m.Kz.root;have lv:=m.Kz.lev;have hh:=m.Kz.held h (by rw[m.held];exact List.mem_singleton.2 rfl);have p0:=rt.1.1;have q0:=rt.2.2.1;have r0:=hh.gen.1
 let E:Pw:=fun w'=>Ext (fun q=>q=rb∨q=b3) w w'
 have rbE:∀{w' Ea},E w'->Ext (·=rb) w' Ea->E Ea:=fun x y=>Ext.trans x y fun q _ h=> .inl h
 have xw:∀{w'},E w'->Ext No w0 w':=fun x=>x0.trans x fun q hq h=>by omega
 have Zm:∀{w'},E w'->w'.heap[b2]? = some (.cells [.pointer (some ⟨rb,0,none⟩)].toArray 287 (0,0)):=fun x=>ar g2 x (by omega)
 have g1E:∀{w'},E w'->w'.heap[b1]? = some (.cells tu.cells.toArray 100 (0,0)):=fun x=>ar g1 x (by omega)
 have E0:E w:=Ext.refl _ _;refine gU (Cf g2 r ⟨rt.1.1,m.p⟩ (by have:=m.p;omega) d fun eK r10 d10 dQ _=>Ar.u32 (by have:=m.p;omega) ⟨_,Cell.af (Zm (rbE E0 dQ)) rfl,UG r10 ⟨rt.2.1.1,m.cm⟩ d10 fun eM r11 d11 nH _=>?_⟩);have E11:=rbE (rbE E0 dQ) nH;refine gU (Cf (Zm E11) r11 ⟨rt.2.2.1,m.g⟩ (by have:=m.g;omega) d11 fun gO r12 d12 lJ VS=>Ar.u16 (by have:=m.g;omega) ⟨rfl,?_⟩);have E12:=rbE E11 lJ;have OU:=ar (ar (ar g3 dQ (Ne.symm VV)) nH (Ne.symm VV)) lJ (Ne.symm VV);rw[ay rfl,Nat.zero_add];refine bO.mk (o:=3) OU (Nat.le_of_ble_eq_true rfl) (a_ rfl) fun fV Ky=>?_
 have iY:Ext (·=b3) gO fV:=Ky.ext;have E13:E fV:=Ext.trans E12 iY fun q _ h=> .inr h
 let s1:dN:={ tu with tenant:=x.tenant,bH:=x.bH,mark:=mk,aO:=x.aO,root:=⟨x.root.p,x.root.c,x.root.g⟩ }
 have Gm:fV.heap[b3]? = some (.cells s1.cells.toArray 100 (0,0)):=Ky.get OU;have r13:=r12.ext iY VV fun i hi h=>(rsn i hi).1 h
 refine gU (Cf (Zm E13) r13 ⟨lv.1,m.lv⟩ (by have:=m.lv;omega) d12 fun lR r14 d14 iT z14=>Ar.u8 (by have:=m.lv;omega) ?_);have E14:=rbE E13 iT;have Mr:=ar Gm iT (Ne.symm VV);rw[ay (a:=Addr.mk b3 0 none) rfl,ay rfl,Nat.zero_add];refine aH.mk Mr (Nat.le_of_ble_eq_true rfl) rfl fun mU Xo=>?_
 have ld:Ext (·=b3) lR mU:=Xo.ext;have E15:E mU:=Ext.trans E14 ld fun q _ h=> .inr h
 let s2:dN:={ s1 with lev:=x.lev }
 have g15:mU.heap[b3]? = some (.cells s2.cells.toArray 100 (0,0)):=Xo.get Mr;have r15:=r14.ext ld VV fun i hi h=>(rsn i hi).1 h
 refine gU (Cf (Zm E15) r15 ⟨by decide,by decide⟩ (by decide) d14 fun iB r16 d16 uy z16=>Nm.as (show KI 1 2=1 from rfl) ?_);have E16:=rbE E15 uy;have JO:=ar g15 uy (Ne.symm VV);have W3:=Ky.size;have z15:=Xo.size;have y16:=Ext.size E16
 let a9:=a+1+1+1+1+1+1+1+1+h.wr.length
 refine⟨fun n t u=>(n=1/\t=0/\iB=u)∨(n=0/\t=1/\∃hv out,E u/\u.heap[b3]? = some (.cells ({ s2 with held:=out }:dN).cells.toArray 100 (0,0))/\zH u.heap rb rs l a9 0/\l.drop a9=[]/\aP u.heap w.heap.size 146 3 out hv.cells/\rM (fun q=>w.heap.size<=q/\out.aw≠some q) u.heap hv h),⟨1,.inl ⟨rfl,rfl,rfl⟩⟩,?_⟩;rintro _ n t u (⟨rfl,rfl,rfl⟩ | ⟨rfl,rfl,hv,out,E17,Cc,r17,d17,o17,af6⟩)
 .refine If.dec (fun _=>?_) fun h=>absurd (by decide) h
  have xd:Ext (·=rb) iB (ae iB):=(Ext.refl _ _).drew;refine⟨Ext (·=rb) iB,xd,_,aj.aF (Cell.af JO rfl) (Ne.symm VV),_,aj.aF (Cell.af (Zm E16) rfl) (Ne.symm nr2),_,aj.aF (Cell.af (Zm E16) rfl) (Ne.symm nr2),?_⟩;refine gU (Cf (w:=ae iB) (Zm (Ext.drew E16)) (r16.no (Ext.refl _ _).drew) ⟨hh.gen.1,m.hg⟩ (by have:=m.hg;omega) d16 fun G1 r18 d18 Nb z18=>⟨xd.trans Nb fun _ _ h=>h,Ar.u16 (by have:=m.hg;omega) (UG r18 ⟨hh.cm.1,m.hc⟩ d18 fun AE r19 d19 So z19=>?_)⟩);have S19:Ext (·=rb) iB AE:=(xd.trans Nb fun _ _ h=>h).trans So fun _ _ h=>h
  refine⟨S19,UH r19 hl (by rw[m.wr];decide) (by rw[m.wr];decide) (by rw[m.wr];exact d19) fun tx HO r20 d20 x20 o20=>?_⟩;have S20:Ext (·=rb) iB HO:=S19.trans x20 fun _ _ h=>h
  have y20:=S20.size;have y19:=S19.size;refine⟨S20,fun b4 yZ P_=>⟨S20.no P_.ext,?_⟩⟩;refine JD (w:=HO) (sz:=3) @IJ (by decide) (base:=w.heap.size) (cs:=[]) (xs:=(⟨h.gen,h.cm,tx⟩ : iq).cells) (aP.nil _ _ _ _) (by omega) rfl (iq.one _) (Nat.zero_le _) (fun s' DT o22 _ Si DW=>?_) b4 yZ P_;have abf:Ext No HO DT:=Si.mono fun _ _ h=>nomatch h
  have S22:=S20.no abf;refine⟨S22,?_⟩;have g22:DT.heap[b3]? = _:=ar JO S22 (Ne.symm VV);refine aH.mk g22 (Nat.le_of_ble_eq_true rfl) rfl fun Jm h23=>Ar.u64 (by decide) ⟨0,by decide,.inr ⟨rfl,rfl,⟨h.gen,h.cm,tx⟩,s',?_⟩⟩
  have DU:Ext (·=b3) DT Jm:=h23.ext
  have CZ:∀q,s'.aw=some q->HO.heap.size<=q:=fun q hq=>by
   rcases DW with h | ⟨c,h,hc⟩
   .rw[h]at hq;cases hq
   .rw[h]at hq;cases hq;exact hc
  have ob:∀q,tx.aw=some q->AE.heap.size<=q/\q < HO.heap.size:=fun q hq=>o20.lt hq
  refine⟨(rbE E16 S22).trans DU fun q _ h=> .inr h,h23.get g22,(r20.no abf).ext DU VV fun i hi h=>(rsn i hi).1 h,d20,o22.ext DU fun q hq h=>by have:=CZ q hq;omega,rfl,rfl,⟨(Rd.no o20.rd abf).ext DU fun c q h1 h2 e=>?_,fun _ q hq=>⟨by have:=(ob q hq).1;omega,fun e=>?_⟩⟩⟩
  .have:=ob q (by simp[Sl.aw,h1,h2]);have e':q=b3:=e;omega
  .have:=ob q hq;have:=CZ q e;omega
 .refine If.dec (fun h=>absurd h (by decide)) fun _=>?_
  have ha9:a9=l.length:=by
   have h1:=congrArg List.length d17;have h2:=r17.le;rw[List.length_drop]at h1;simp only[List.length_nil]at h1;omega
  rw[ha9]at r17;refine⟨_,Cell.af (Zm E17) rfl,aa7 r17 fun iD mq=>If.bne (fun h=>absurd rfl h) fun _=>?_⟩
  let v:dN:={ s2 with held:=out }
  have ol:=fun q hq=>o17.lt (b:=q) hq
  have af7:xJ (fun q=>w0.heap.size<=q/\q≠b1) u.heap mk x.mark:=(om.ext E17 fun q hq h=>by omega).mono fun q hq=>⟨hq.1,hq.2.2.2⟩
  have sr:iE (fun q=>w0.heap.size<=q/\q≠b1) u.heap v x:=by
   have z0:=x0.size;refine⟨rfl,rfl,af7,rfl,rfl,rfl,⟨[(hv,h)],m.held.symm,by simpa using o17.rd,fun _ q hq=>by have:=(ol q hq).1;omega,fun e he=>?_⟩⟩;rw[List.mem_singleton]at he;subst he;exact af6.mono fun q hq=>by have:=hq.1;omega
  have Rs:=ah Cc mq;have adG:=(xw E17).no mq;refine⟨_,Cell.af Rs rfl,_,Cell.af Rs rfl,_,Cell.af Rs rfl,_,Cell.af Rs rfl,_,Cell.af Rs rfl,_,Cell.af Rs rfl,_,Cell.af Rs rfl,_,Cell.af Rs rfl,_,Cell.af Rs rfl,F3 (v:=v) (sr.no mq) m.Kz (by rw[m.held];exact Nat.le_of_ble_eq_true rfl) m.may fun tb py _ YW kv=>If.bne (fun h=>absurd rfl h) fun _=>?_⟩;have f8:B8 l:=r.Kz;rw[hf]at YW;refine CP (Rd.no hb (adG.no kv)) YW.rd f8 f8 ?_;rw[decide_eq_true rfl];have PY:=ah Rs kv;refine If.no ⟨_,Cell.af PY rfl,_,Cell.af PY rfl,_,Cell.af PY rfl,_,Cell.af PY rfl,_,Cell.af PY rfl,_,Cell.af PY rfl,_,Cell.af PY rfl,_,Cell.af PY rfl,_,Cell.af PY rfl,rfl,bO.all (ah (g1E E17) (mq.no kv)) rfl v.one fun CN xj Zn _=>?_⟩;exact⟨_,Cell.af xj rfl,_,Cell.af xj rfl,_,Cell.af xj rfl,_,Cell.af xj rfl,_,Cell.af xj rfl,_,Cell.af xj rfl,_,Cell.af xj rfl,_,Cell.af xj rfl,_,Cell.af xj rfl,k v CN (((sr.no (mq.no kv)).ext Zn fun q hq h=>hq.2 h).mono fun q hq=>hq.1) ((adG.no kv).trans Zn fun q hq h=>by omega)⟩
end
end Go.Proofs.YtiigcapldngijaaGreat
namespace Go.Proofs.YtiigcapldngijaaGreat
open Go.V Go.V.Pk
section
variable {w:Wd}
set_option maxHeartbeats 4000000 in
theorem OV{b:Sl}{x:jn}{h:dX}{K:KSe}(m:Sml x h)(hb:aQ w.heap b (fy x))(h8:B8 (fy x))(k:∀v w',iE (w.heap.size<=·) w'.heap v x->Ext No w w'->K.at v 0 w'):uU x.tenant b w K:=by
 obtain⟨m1,m2,m3,m4,m5,m6,m7,m8⟩:=m.may;have hf:=m.form;have hl:(fy x).length<=1000:=by rw[hf];simp[m4,m.wr]
 generalize hl':fy x=l at *;apply Lz;refine fun b1 w1 n1=>FY (hb.no n1.ext) h8 hl fun rb rs w2 r2 hrb YH x2=>fun b2 w3 n3=>aH.mk n3.get Nat.one_pos rfl fun w4 h4=>?_
 have e1:=n1.at_;have z1:=n1.size;have z2:=x2.size;have e3:=n3.at_;have z3:=n3.size;have x4:Ext (·=b2) w3 w4:=h4.ext;have z4:=h4.size;have iC:=(n1.ext.no x2).no n3.ext;have th:Ext No w w4:=iC.trans x4 fun q hq h=>by omega
 have g1:w4.heap[b1]? = some (.cells tu.cells.toArray 100 (0,0)):=ar (ah (ah n1.get x2) n3.ext) x4 (by omega);have g2:w4.heap[b2]? = some (.cells [.pointer (some ⟨rb,0,none⟩)].toArray 287 (0,0)):=h4.get n3.get;have Zo:rb < w2.heap.size:=by obtain⟨T,hT⟩:=r2.aw;exact aN hT
 have r4:zH w4.heap rb rs l 0 0:=(r2.no n3.ext).ext x4 (by omega) fun i hi h=>by have:=(YH i hi).2;omega
 let X:Pw:=fun w'=>Ext (·=rb) w4 w'
 have g2X:∀{w'},X w'->w'.heap[b2]? = some (.cells [.pointer (some ⟨rb,0,none⟩)].toArray 287 (0,0)):=fun x=>ar g2 x (by omega)
 have t1:l.drop 0=x.bH::x.aO::16::(x.mark++restP x h):=hf
 have sm:∀{w7:Wd}{a:Nat}{z:Int}{rest:List Int}{K':Int->Pw},0<=z/\z<=127->l.drop a=z::rest->X w7->zH w7.heap rb rs l a 0->(∀w',zH w'.heap rb rs l (a+1) 0->l.drop (a+1)=rest->X w'->Ext (·=rb) w7 w'->K' z w')->aC pz false (.func (.func 186) #[] #[.pointer (some (Addr.mk b2 0 none))]) [.int .u64 1000] [.one (.int .u64)] K' bJ w7:=fun {w7 a z rest K'} hz d x r k' =>
  gU (Cf (g2X x) r hz (by omega) d fun w' r' d' x' _=>k' w' r' d' (Ext.trans x x' fun _ _ h=>h) x')
 have tx:∀{w7:Wd}{K':Sl->Pw},X w7->zH w7.heap rb rs l (0+1+1) 0->l.drop (0+1+1)=16::(x.mark++restP x h)->(∀s w',zH w'.heap rb rs l (0+1+1+1+x.mark.length) 0->l.drop (0+1+1+1+x.mark.length)=restP x h->aL w'.heap w7.heap.size s x.mark->X w'->Ext (·=rb) w7 w'->K' s w')->aX (some ⟨rb,0,none⟩) 16 w7 K':=fun {w7 K'} x r d k' =>
  UH r hl (by omega) (by rw[m4];decide) (by rw[m4];exact d) fun s w' r' d' x' o'=>k' s w' r' d' o' (Ext.trans x x' fun _ _ h=>h) x'
 have fin:∀{w8:Wd}{b3:Nat}{s3:Sl},X w8->w8.heap[b3]? = some (.cells tu.cells.toArray 100 (0,0))->w4.heap.size<=b3->zH w8.heap rb rs l (0+1+1+1+x.mark.length) 0->l.drop (0+1+1+1+x.mark.length)=restP x h->xJ (fun q=>w4.heap.size<=q/\q≠b3) w8.heap s3 x.mark->
   List.length (α:=Value) [.int .u32 x.tenant,.int .i64 x.bH,.slice s3.a s3.len s3.cap,.int .u32 0,.int .u64 0,.int .u16 0,.int .u8 0,.int .i64 x.aO,.slice none 0 0]=9/\bO w8 (Addr.mk b3 0 none) [.int .u32 x.tenant,.int .i64 x.bH,.slice s3.a s3.len s3.cap,.int .u32 0,.int .u64 0,.int .u16 0,.int .u8 0,.int .i64 x.aO,.slice none 0 0] fun w9=>X w9/\Zl b1 b2 b3 b w9 K:=fun {w8 b3 s3} x8 g8 w_ r8 d8 q8=>by
  refine⟨rfl,bO.all g8 rfl ({ tu with tenant:=x.tenant,bH:=x.bH,mark:=s3,aO:=x.aO }:dN).one fun w9 g9 x9 _=>?_⟩;have OR:X w9:=Ext.trans x8 x9 fun q hq h=>by omega
  have y9:=Ext.size OR;exact⟨OR,RE m (th.trans OR fun q hq h=>by omega) (by omega) (by have:=th.size;omega) (by have:=n1.ext.size;omega) ⟨by omega,by omega,by omega,by omega,by omega,by omega⟩ (fun i hi=>by have:=(YH i hi).2;exact⟨by omega,by omega⟩) (ar g1 OR (by omega)) (g2X OR) g9 hl (r8.ext x9 (by omega) fun i hi h=>by have:=(YH i hi).2;omega) ((q8.ext x9 fun q hq h=>hq.2 h).mono fun q hq=>⟨by have:=th.size;omega,hq.2,by omega,by omega⟩) hb hl' d8 k⟩
 have hq:0<=x.bH/\x.bH<=127:=⟨by omega,m.q⟩
 have hc:0<=x.aO/\x.aO<=127:=⟨by omega,m.c⟩
 have Xd:X (ae w4):=(Ext.refl (·=rb) w4).drew;have rd:zH (ae w4).heap rb rs l 0 0:=r4.no (Ext.refl _ _).drew;refine⟨X,Xd,some ⟨rb,0,none⟩,aj.aF (Cell.af g2 rfl) (by show ¬ b2=rb;omega),⟨?_,?_⟩⟩
 .refine sm hq t1 Xd rd fun w5 r5 t5 x5 _=>⟨x5,Ar.i64 (by omega) ⟨?_,?_⟩⟩
  .refine sm hc t5 x5 r5 fun w6 r6 t6 x6 _=>⟨x6,Ar.i64 (by omega) ⟨?_,?_⟩⟩
   .refine tx x6 r6 t6 fun s3 w7 r7 t7 o7 x7 _=>⟨x7,fun b3 w8 n8=>?_⟩
    have x8:X w8:=Ext.trans x7 n8.ext fun _ _ h=>h.elim
    have:=n8.at_;have:=Ext.size x7;have:=Ext.size x6;exact⟨x8,fin x8 n8.get (by omega) (r7.no n8.ext) t7 ((xJ.own o7 fun q h1 h2=>⟨by omega,by omega⟩).no n8.ext)⟩
   .refine fun b3 Nf Zk=>?_
    have P8:X Nf:=Ext.trans x6 Zk.ext fun _ _ h=>h.elim
    have:=Zk.at_;have:=Zk.size;have:=Ext.size x6;exact⟨P8,tx P8 (r6.no Zk.ext) t6 fun s3 Xi r32 t32 o32 Xw y32=>⟨Xw,fin Xw (ar Zk.get y32 (by omega)) (by omega) r32 t32 (xJ.own o32 fun q h1 h2=>⟨by omega,by omega⟩)⟩⟩
  .refine fun b3 w55 n55=>?_
   have x55:X w55:=Ext.trans x5 n55.ext fun _ _ h=>h.elim
   have:=n55.at_;have:=n55.size;have:=Ext.size x5;exact⟨x55,sm hc t5 x55 (r5.no n55.ext) fun w56 r56 t56 zt y56=>⟨zt,Ar.i64 (by omega) (tx zt r56 t56 fun s3 w57 r57 t57 o57 Kq y57=>⟨Kq,fin Kq (ar (ar n55.get y56 (by omega)) y57 (by omega)) (by omega) r57 t57 (xJ.own o57 fun q h1 h2=>⟨by have:=y56.size;omega,by have:=y56.size;omega⟩)⟩)⟩⟩
 .refine fun b3 w80 n80=>?_
  have x80:X w80:=Ext.trans Xd n80.ext fun _ _ h=>h.elim
  have e80:=n80.at_;have z80:=n80.size;have e4:(ae w4).heap.size=w4.heap.size:=rfl;exact⟨x80,sm hq t1 x80 (rd.no n80.ext) fun w81 r81 t81 x81 y81=>⟨x81,Ar.i64 (by omega) (sm hc t81 x81 r81 fun w82 r82 t82 x82 y82=>⟨x82,Ar.i64 (by omega) (tx x82 r82 t82 fun s3 w83 r83 t83 o83 x83 y83=>⟨x83,fin x83 (ar (ar (ar n80.get y81 (by omega)) y82 (by omega)) y83 (by omega)) (by omega) r83 t83 (xJ.own o83 fun q h1 h2=>⟨by have:=y81.size;have:=y82.size;omega,by have:=y81.size;have:=y82.size;omega⟩)⟩)⟩)⟩⟩
end
end Go.Proofs.YtiigcapldngijaaGreat
