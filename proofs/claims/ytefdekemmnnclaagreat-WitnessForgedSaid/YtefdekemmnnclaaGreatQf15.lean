/- Texts for LWitnessForged, part 15. -/
import Derived.Lib.MakeNoZero
import Derived.Test.YtefdekemmnnclaaGreatQf14
set_option maxRecDepth 100000
namespace Go.V
theorem Po(w:Wd)(o:Obj):Ext No w (w.alloc o):=by
 refine⟨rfl,rfl,rfl,?_,fun b hb _=>?_⟩
 .show w.heap.size<=(w.heap.push o).size;rw[Array.size_push];omega
 .exact jn _ _ _ hb
theorem Bg{row vs:List Value}{o:Nat}(h:o+vs.length<=row.length):(setL row o vs).take (o+vs.length)=row.take o++vs/\(setL row o vs).length=row.length:=by
 rw[rF _ _ _ h];constructor
 .rw[List.take_append_of_le_length (by rw[List.length_append,List.length_take];omega),List.take_of_length_le (by rw[List.length_append,List.length_take];omega)]
 .simp only[List.length_append,List.length_take,List.length_drop];omega
end Go.V
namespace Go.Proofs.YtefdekemmnnclaaGreat
open Go.V Go.V.Pk
section
variable {w:Wd} {Q:Nat->Prop}
theorem UQ(n:Nat)(hn:n<=281474976710656)(w:Wd):∃cs:Array Value,Sem.run pz (callFunc 385 #[.int .i64 n]) w = .ok (.value (.slice (some ⟨w.heap.size,0,none⟩) n cs.size)) (w.drew.drew.alloc (.cells cs 5))/\n<=cs.size:=by
 obtain⟨cs,h1,h2,_⟩:=Lib.run_makeNoZero (P:=pz) w #[3] 25 5 (by kernel_rfl) n hn;refine⟨cs,?_,h2⟩;rw[run_callFunc_extern Tryz.func385 (by kernel_rfl) (by kernel_rfl) (by kernel_rfl) (e:=Extern.BytealgMakeNoZero.makeNoZero #[3] #[25]) (by kernel_rfl),h1];rfl
theorem cpy{b n bp:Nat}{row:List Value}{x:Sl}{xs:List Value}{T:TypeId}{K:Int->Pw}(hb:w.heap[b]? = some (.cells row.toArray T (0,0)))(hr:n<=row.length)(hbp:bp<=n)(hx:Rd w.heap x 1 xs)(hxl:x.len<=n - bp)
  (hk:∀w',w'.heap[b]? = some (.cells (setL row bp xs).toArray T (0,0))->Ext (·=b) w w'->w'.heap.size=w.heap.size->K (x.len:Int) w'):Cut ⟨some ⟨b,0,none⟩,n,n⟩ (bp:Int) ((n:Nat):Int) ((n:Nat):Int) 1 fun d=>hO pz 25 25 d (.slice x.a x.len x.cap) K w:=by
 refine Cut.mk (by omega) (by omega) (by omega) (by simp) ?_;have e1:((n:Int) - (bp:Int)).toNat=n - bp:=by omega
 simp only[Int.toNat_natCast,e1];have hxs:xs.length=x.len:=by have:=hx.len;omega
 have full:xs.take (x.len * 1)=xs:=List.take_of_length_le (by omega);have MB:min x.len (n - bp)=x.len:=Nat.min_eq_left hxl;by_cases e:n=bp
 .subst e;have hx0:xs=[]:=List.eq_nil_of_length_eq_zero (by omega);refine lE (off:=0) (b:=b) (by unfold gX;rw[if_pos rfl]) hb hx (by simp) fun w' h=>?_
  simp only[MB,full]at h ⊢;refine hk w' ?_ h.ext h.size;have:=h.get hb;rw[hx0]at this ⊢;simpa[setL] using this
 .refine lE (off:=bp) (b:=b) (by unfold gX;rw[if_neg e];simp[ay]) hb hx (by simp only;omega) fun w' h=>?_
  simp only[MB,full]at h ⊢;exact hk w' (h.get hb) h.ext h.size
abbrev cat(ps:List (Sl×List Int)):List Int:=(ps.map Prod.snd).flatten
theorem vj{ps:List (Sl×List Int)}{j:Nat}(h:j < ps.length):cat (ps.take (j+1))=cat (ps.take j)++ps[j].2:=by
 unfold cat;rw[List.take_add_one,List.getElem?_eq_getElem h];simp only[Option.toList_some,List.map_append,List.map_cons,List.map_nil,List.flatten_append,List.flatten_cons,List.flatten_nil,List.append_nil]
theorem Es(ps:List (Sl×List Int))(j:Nat):(cat (ps.take j)).length<=(cat ps).length:=by
 have e:cat ps=cat (ps.take j)++cat (ps.drop j):=by unfold cat;rw[<- List.flatten_append,<- List.map_append,List.take_append_drop]
 rw[e,List.length_append];omega
set_option maxHeartbeats 1000000 in
theorem Et{sl:Sl}{ps:List (Sl×List Int)}{K:Sl->Pw}(hs:Rd w.heap sl 1 (ps.map fun p=>p.1.v))(hp:∀p∈ps,aL w.heap p.1 p.2)(hb:(cat ps).length<=1099511627776)(hn:ps.length<=4294967296)
  (k:∀s w',aL w'.heap s (cat ps)->(2<=ps.length->s.cap=s.len)->(∀b,s.au=some b->w.heap.size<=b)->Ext No w w'->K s w'):eY sl ⟨none,0,0⟩ w K:=by
 apply G3;have hl:sl.len=ps.length:=by have:=hs.len;simp at this;exact this.symm
 have pick:∀{w':Wd}{j:Nat}(h:j < ps.length){K':Addr->Prop},Ext No w w'->(∀a,Cell w' a (.slice ps[j].1.a ps[j].1.len ps[j].1.cap)->K' a)->Ix sl.a sl.len ((j:Nat):Int) 1 K':=fun {w' j} h {K'} x k'=>by
  refine Ix.cell (hs.no x) (by omega) (by omega) fun bb o v _ hv hc=>?_
  rw[Int.toNat_natCast,List.getElem?_map,List.getElem?_eq_getElem h]at hv;simp only[Option.map_some,Option.some.injEq]at hv;subst hv;exact k' _ hc
 refine If.beq (fun h0=>?_) fun h0=>If.beq (fun h1=>?_) fun h1=>?_
 .have IJ:ps=[]:=List.eq_nil_of_length_eq_zero (by omega);subst IJ;refine an.mk fun b w1 n1=>?_
  have o:=aP.new (sz:=1) (n:=0) n1 rfl (by simp);refine k _ w1 (by simpa[aL,cat] using o.rd) (fun h=>absurd h (by simp)) (fun q hq=>(o.lt hq).1) n1.ext
 .have h1':ps.length=1:=by omega
  have Z7:0 < ps.length:=by omega
  refine pick (j:=0) Z7 (Ext.refl _ _) fun a hc=>⟨_,hc,?_⟩
  have hr:=hp _ (List.getElem_mem Z7);have hlen:=aL.len hr
  have e:cat ps=ps[0].2:=by
   have h3:=vj Z7;rw[show ps.take (0+1)=ps from List.take_of_length_le (by omega)]at h3;simpa[cat] using h3
  rw[e]at hb k;exact bO (aP.nil w.heap w.heap.size 5 1) (Nat.le_refl _) hr.src (by simp only;omega) fun s' w' o' _ x' _=>k s' w' (by simpa[aL] using o'.rd) (fun h=>by omega) (fun q hq=>(o'.lt hq).1) (x'.mono fun q _ h=>by simp[Sl.au]at h)
 .have h2:2<=ps.length:=by omega
  refine⟨fun n w'=>n=0/\w'=w,If.dec (fun h=>absurd h (by decide)) fun _=>⟨rfl,rfl⟩,?_⟩;rintro _ n w4 ⟨rfl,rfl⟩;refine⟨fun m n t w'=>w'=w4/\∃j:Nat,t=j/\j<=ps.length/\m=ps.length - j/\n=((cat (ps.take j)).length:Int),⟨_,rfl,0,rfl,Nat.zero_le _,rfl,by simp[cat]⟩,?_⟩;rintro _ m0 n t w5 ⟨rfl,j,rfl,hj,rfl,rfl⟩;have hle:=Es ps j;refine If.dec (fun h=>?_) fun h=>?_
  .have Kk:j < ps.length:=by omega
   refine pick Kk (Ext.refl _ _) fun a hc=>⟨_,hc,?_⟩
   have hlen:=aL.len (hp _ (List.getElem_mem Kk));have h3:=Es ps (j+1);rw[vj Kk,List.length_append]at h3;refine Ar.i64 (by omega) (If.dec (fun h=>by omega) fun _=>Ar.i64 (by omega) (Ar.i64 (by omega) ⟨_,by omega,rfl,j+1,by omega,by omega,rfl,?_⟩));rw[vj Kk,List.length_append];omega
  .have UP:j=ps.length:=by omega
   rw[UP,List.take_length];obtain⟨cs,hr,Of⟩:=UQ (cat ps).length (by omega) w5
   let q:=w5.heap.size
   let w6:=(World.drew (World.drew w5)).alloc (.cells cs 5)
   have x6:Ext No w5 w6:=by
    have e:Ext No (World.drew (World.drew w5)) w6:=Po _ _
    have e0:Ext No w5 (World.drew (World.drew w5)):=⟨rfl,rfl,rfl,Nat.le_refl _,fun _ _ _=>rfl⟩
    exact e0.no e
   have g6:w6.heap[q]? = some (.cells cs.toList.toArray 5 (0,0)):=by
    have:w6.heap[q]? = some (.cells cs 5 (0,0)):=by show(w5.heap.push _)[w5.heap.size]? = _;simp
    simpa using this
   have z6:q < w6.heap.size:=by show w5.heap.size < (w5.heap.push _).size;rw[Array.size_push];omega
   refine⟨⟨some ⟨q,0,none⟩,(cat ps).length,cs.size⟩,w6,hr,?_⟩;refine Cut.mk (Int.le_refl _) (by omega) (Int.le_refl _) (by simp only;omega) ?_
   have ec:gX (some ⟨q,0,none⟩) (cat ps).length 0 1=some (⟨q,0,none⟩ : Addr):=by
    unfold gX;split
    .rfl
    .simp[ay]
   have e0:(((cat ps).length:Int) - 0).toNat=(cat ps).length:=by omega
   simp only[Int.toNat_natCast,Int.toNat_zero,ec,e0]
   refine pick (j:=0) (by omega) x6 fun a hc=>⟨_,hc,?_⟩
   have Z7:0 < ps.length:=by omega
   have abX:=hp _ (List.getElem_mem Z7);have abY:=aL.len abX
   have ZR:cat (ps.take 1)=ps[0].2:=by
    have:=vj Z7;simpa[cat] using this
   have aav:=Es ps 1;rw[ZR]at aav;have zZ:cs.toList.length=cs.size:=by simp
   refine lE (off:=0) (b:=q) rfl g6 (Rd.no abX x6) (by simp only;omega) fun w7 h7=>?_
   have MB:min ps[0].1.len (cat ps).length=ps[0].1.len:=Nat.min_eq_left (by omega);have abZ:(ps[0].2.map (Value.int .u8)).take (ps[0].1.len * 1)=ps[0].2.map (Value.int .u8):=List.take_of_length_le (by simp;omega);simp only[MB,abZ]at h7 ⊢;have g7:=h7.get g6;have x7:Ext (·=q) w6 w7:=h7.ext;have s7:=Bg (row:=cs.toList) (vs:=ps[0].2.map (Value.int .u8)) (o:=0) (by simp;omega);have PZ:Ext No w5 w7:=x6.trans x7 fun i hi h=>by have h':i=w5.heap.size:=h;omega
   have ae0:=hs.cap;refine Cut.mk (by decide) (by omega) (by omega) (Int.le_refl _) ?_
   -- the rest of the pieces
   have hsr:Rd w5.heap ⟨gX sl.a sl.cap 1 1,sl.len - 1,sl.cap - 1⟩ 1 ((ps.map fun p=>p.1.v).drop 1):=by
    have jB:=hs.cap;have:=hs.cut (lo:=1) (hi:=sl.len) (mx:=sl.cap) (by omega) (Nat.le_refl _) jB;have e2:(((ps.map fun p=>p.1.v).drop (1 * 1)).take ((sl.len - 1) * 1))=(ps.map fun p=>p.1.v).drop 1:=List.take_of_length_le (by simp;omega);rw[e2]at this;exact this
   have e1:((sl.len:Int) - 1).toNat=sl.len - 1:=by omega
   have e2:((sl.cap:Int) - 1).toNat=sl.cap - 1:=by have:=hs.cap;omega
   have e3:(1:Int).toNat=1:=rfl;simp only[Int.toNat_natCast,e1,e3]
   refine⟨fun m bp t w'=>∃(j:Nat) (row:List Value),t=j/\j+1<=ps.length/\m=ps.length - j/\bp=((cat (ps.take (j+1))).length:Int)/\w'.heap[q]? = some (.cells row.toArray 5 (0,0))/\row.length=cs.size/\row.take (cat (ps.take (j+1))).length=(cat (ps.take (j+1))).map (Value.int .u8)/\Ext No w5 w'/\q < w'.heap.size,
    ⟨_,0,_,rfl,by omega,rfl,?_,g7,by rw[s7.2,zZ],?_,PZ,by have:=x7.size;omega⟩,?_⟩
   .show _=((cat (ps.take (0+1))).length:Int);rw[Nat.zero_add,ZR,abY]
   .show(setL _ _ _).take (cat (ps.take (0+1))).length=(cat (ps.take (0+1))).map _;rw[Nat.zero_add,ZR];have:=s7.1;simpa using this
   rintro _ m1 bp t w8 ⟨j,row,rfl,hj,rfl,rfl,g8,hrl,Pp,x8,z8⟩;refine If.dec (fun h=>?_) fun h=>?_
   .have Kk:j+1 < ps.length:=by have h':(j:Int) < ((sl.len - 1:Nat):Int):=h;omega
    refine Ix.cell (hsr.no x8) (by omega) h fun bb o v _ hv hc=>?_
    rw[Int.toNat_natCast,List.getElem?_drop,Nat.add_comm 1 j,List.getElem?_map,List.getElem?_eq_getElem Kk]at hv;simp only[Option.map_some,Option.some.injEq]at hv;subst hv;have EP:=hp _ (List.getElem_mem Kk);have hlen:=aL.len EP;have aby:=Es ps (j+2);have YI:=vj Kk;rw[YI,List.length_append]at aby;have afD:=Es ps (j+1);refine⟨_,hc,cpy g8 (by omega) (by omega) (x:=⟨none,0,0⟩) (xs:=[]) (Rd.nil _ _) (Nat.zero_le _) fun w9 g9 x9 z9=>Ar.i64 (by simp only;omega) ?_⟩;have es:setL row (cat (ps.take (j+1))).length []=row:=by simp[setL]
    rw[es]at g9;have x59:Ext No w5 w9:=x8.trans x9 fun i hi h=>by have h':i=w5.heap.size:=h;omega
    have ez:(((cat (ps.take (j+1))).length:Int)+((0:Nat):Int))=((cat (ps.take (j+1))).length:Int):=by omega
    simp only[ez];refine cpy g9 (by omega) (by omega) (EP.no x59) (by omega) fun gG wa fo Tc=>Ar.i64 (by omega) (Ar.i64 (by omega) ⟨_,by omega,j+1,_,by omega,by omega,rfl,?_,wa,?_,?_,x59.trans fo fun i hi h=>by have h':i=w5.heap.size:=h;omega,by omega⟩)
    .rw[YI,List.length_append];omega
    .rw[(Bg (by rw[List.length_map];omega)).2,hrl]
    .have:=(Bg (row:=row) (vs:=ps[j+1].2.map (Value.int .u8)) (o:=(cat (ps.take (j+1))).length) (by rw[List.length_map];omega)).1;rw[List.length_map]at this;rw[YI,List.length_append,this,Pp,List.map_append]
   .have UP:j+1=ps.length:=by have h':¬ (j:Int) < ((sl.len - 1:Nat):Int):=h;omega
    rw[UP,List.take_length]at Pp
    have own:aP w8.heap w5.heap.size 5 1 ⟨some ⟨q,0,none⟩,(cat ps).length,cs.size⟩ ((cat ps).map (Value.int .u8)):=by
     have e:(cat ps).map (Value.int .u8)++row.drop (cat ps).length=row:=by
      conv=>rhs;rw[<- List.take_append_drop (cat ps).length row,Pp]
     refine⟨by rw[List.length_map,Nat.mul_one],.inr ⟨q,row.drop (cat ps).length,rfl,Nat.le_refl _,?_,?_,Of⟩,cZ⟩
     .rw[e];exact g8
     .rw[e,hrl,Nat.mul_one]
    refine k _ w8 ?_ (fun _=>rfl) (fun b hb=>by simp[Sl.au]at hb;show w5.heap.size<=b;omega) x8;exact⟨own.rd.len,Nat.le_refl _,own.rd.at_,own.rd.cells⟩
end
end Go.Proofs.YtefdekemmnnclaaGreat
namespace Go.V
open Go.V.Pk
theorem Pq(l:List Int)(h:l.length<=1000000000):(textB l).length<=l.length+10:=by
 unfold textB;rw[List.length_append];have:=bQ (n:=l.length) (by omega);omega
abbrev hX(l:List Int):List Int:=(l.map fun n=>numB n.toNat).flatten
end Go.V
namespace Go.Proofs.YtefdekemmnnclaaGreat
open Go.V Go.V.Pk
section
variable {w:Wd} {Q:Nat->Prop}
theorem Fv{s x:Sl}{cs xs:List Int}{K:Sl->Pw}(rd:aL w.heap s cs)(rx:aL w.heap x xs)(jB:s.cap < s.len+x.len)(hb:s.len+x.len<=1099511627776)(hk:∀s' w',aD w'.heap w.heap.size s' (cs++xs)->Ext No w w'->K s' w') :
  aU pz 25 25 s (.slice x.a x.len x.cap) K w:=
 NG (P:=pz) (e:=5) (d:= .slice 5) (ie:=Tryz.t5) (z:=Tryz.t5.zero.getD .nilFunc) (by kernel_rfl) (by kernel_rfl) (fun k h=>by cases h) (by kernel_rfl) (by kernel_rfl) (by kernel_rfl) (by kernel_rfl) (by decide) rd jB rx.src (by show(s.len+x.len) * 1<=_;omega)
  fun s' w' o _ x'=>hk s' w' (by show aP _ _ 5 1 s' ((cs++xs).map _);rw[List.map_append];exact o) x'
abbrev YJ(ps:List (Sl×List Int)):List Value:=ps.map fun p=>p.1.v
theorem N1{w1:Wd}{base b:Nat}{out r:Sl}{ps:List (Sl×List Int)}{m:List Int}{K:Sl->Pw}(o:aP w.heap base 25 1 out (YJ ps))(hp:∀p∈ps,Cu (fun q=>base<=q/\out.au≠some q) w.heap p.1 p.2)
  (hr:Cu (fun q=>base<=q/\out.au≠some q) w.heap r m) (n:Bk w (.cells [.slice r.a r.len r.cap].toArray 25) b w1) (hb:base<=w.heap.size) (hl:ps.length<=1000)
  (k:∀s' w',aP w'.heap base 25 1 s' (YJ (ps++[(r,m)]))->(∀p∈ps++[(r,m)],Cu (fun q=>base<=q/\s'.au≠some q) w'.heap p.1 p.2)->Ext (fun q=>out.au=some q) w w'->K s' w'):aU pz 22 22 out (.slice (some (Addr.mk b 0 none)) 1 1) K w1:=by
 have x:=n.ext;have z:=n.size;have hol:out.len=ps.length:=by have:=o.rd.len;simp at this;exact this.symm
 have src:Src pz w1 (.slice (some (Addr.mk b 0 none)) 1 1) 1 1 [r.v]:=(aP.new (sz:=1) (n:=1) n rfl (by simp[cn])).rd.src;refine sF (o.no x) (by omega) src (by rw[hol];omega) fun s' w' o' _ x' z_=>?_
 have x2:Ext (fun q=>out.au=some q) w w':=x.aF.trans x' fun _ _ h=>h
 refine k s' w' (by unfold YJ;rw[List.map_append];exact o') (fun p D1=>?_) x2
 have key:∀{t l},Cu (fun q=>base<=q/\out.au≠some q) w.heap t l->Cu (fun q=>base<=q/\s'.au≠some q) w'.heap t l:=fun {t l} h=>by
  refine((h.lt).ext x2 fun q hq h=>hq.1.2 h).mono fun q hq=>⟨hq.1.1,fun h=>?_⟩
  rcases z_ with h1 | ⟨b',h1,h2⟩
  .exact hq.1.2 (h1 ▸ h)
  .rw[h1]at h;cases h;have:=hq.2;omega
 rcases List.mem_append.1 D1 with h | h
 .exact key (hp p h)
 .rw[List.mem_singleton]at h;subst h;exact key hr
theorem H3{s:Sl}{l:List Int}{K:Sl->Pw}(rl:Rd w.heap s 1 (l.map (Value.int .u64)))(hr:∀x∈l,0<=x/\x<=18446744073709551615)(hl:l.length<=1000)
  (k:∀o ps w',aP w'.heap w.heap.size 25 1 o (YJ ps)->(∀p∈ps,Cu (fun q=>w.heap.size<=q/\o.au≠some q) w'.heap p.1 p.2)->ps.map Prod.snd=l.map (fun n=>numB n.toNat)->Ext No w w'->K o w'):eI s (.func (.func 311) #[] #[]) w K:=by
 apply oN;have pA:s.len=l.length:=by have:=rl.len;simp at this;exact this.symm
 refine⟨fun m out t w'=>∃(j:Nat) (ps:List (Sl×List Int)),t=j/\j<=l.length/\m=l.length - j/\aP w'.heap w.heap.size 25 1 out (YJ ps)/\(∀p∈ps,Cu (fun q=>w.heap.size<=q/\out.au≠some q) w'.heap p.1 p.2)/\ps.map Prod.snd=(l.take j).map (fun n=>numB n.toNat)/\Ext No w w',
  ⟨_,0,[],rfl,Nat.zero_le _,rfl,aP.nil _ _ _ _,by simp,by simp,Ext.refl _ _⟩,?_⟩
 rintro _ m0 out _ w1 ⟨j,ps,rfl,hj,rfl,o1,hp,Ck,x1⟩;have hpn:ps.length=j:=by have:=congrArg List.length Ck;simp at this;omega
 refine If.dec (fun h=>?_) fun h=>?_
 .have yd:j < l.length:=by omega
  refine Ix.cell (rl.no x1) (by omega) h fun b o v _ hv hc=>?_
  rw[Int.toNat_natCast,List.getElem?_map,List.getElem?_eq_getElem yd]at hv;simp only[Option.map_some,Option.some.injEq]at hv;subst hv;have hx:=hr _ (List.getElem_mem yd);have z1:=x1.size;refine⟨_,hc,LS (Kz hx.1 hx.2 fun r w2 o2 x2=>an.mk fun b1 w3 n3=>?_)⟩;have z2:=x2.size;refine N1 (m:=numB l[j].toNat) (o1.no x2) (fun p D1=>(hp p D1).no x2) (.own o2 fun q h1 _=>⟨by omega,fun h=>by have:=(o1.lt h).2;omega⟩) n3 (by omega) (by omega) fun s' w4 o4 PY x4=>Ar.i64 (by omega) ⟨_,by omega,j+1,_,by omega,by omega,rfl,o4,PY,?_,?_⟩
  .rw[xY yd,List.map_append,List.map_append,Ck];rfl
  .exact(x1.no x2).trans x4 fun q hq h=>by have:=(o1.lt h).1;omega
 .have UP:j=l.length:=by omega
  rw[UP,List.take_length]at Ck;exact k out ps w1 o1 hp Ck x1
theorem qi{s:Sl}{l:List Int}{K:Sl->Pw}(rl:Rd w.heap s 1 (l.map (Value.int .u64)))(hr:∀x∈l,0<=x/\x<=18446744073709551615)(hl:l.length<=1000)(h2:2<=l.length)
  (k:∀t w',aL w'.heap t (hX l)->t.cap=t.len->Ext No w w'->K t w'):og s w K:=by
 apply DJ;refine H3 rl hr hl fun o ps w1 o1 hp Ck x1=>?_
 have hpn:ps.length=l.length:=by have:=congrArg List.length Ck;simpa using this
 have Pr:cat ps=hX l:=by unfold cat;rw[Ck]
 have hlen:∀(l:List Int),(∀x∈l,0<=x/\x<=18446744073709551615)->(hX l).length<=l.length * 10:=fun l=>by
  induction l with
  | nil=>simp
  | cons x l ih=>
   intro h;have h1:=ih fun y hy=>h y (List.mem_cons_of_mem _ hy)
   have h3:=h x List.mem_cons_self;have h4:=bQ (n:=x.toNat) (by omega);simp only[hX,List.map_cons,List.flatten_cons,List.length_append,List.length_cons]at h1 ⊢;omega
 have hb:=hlen l hr;refine Et o1.rd (fun p D1=>(hp p D1).rd) (by rw[Pr];omega) (by omega) fun t w2 r2 jB _ x2=>k t w2 (by rw[<- Pr];exact r2) (jB (by omega)) (x1.no x2)
theorem Ps{h:gA}(r:MT h)(hw:h.wr.length<=1000):(mO h).length<=h.wr.length+30:=by
 have h1:=bQ (n:=h.gen.toNat) (by have:=r.gen;omega);have h2:=bQ (n:=h.cm.toNat) (by have:=r.cm;omega);have h3:=Pq h.wr (by omega);unfold mO;simp only[List.length_append];omega
theorem Eu{v:oC}{x:gA}{cb:Nat}{K:Sl->Pw}(r:zS Q w.heap v x)(rg:MT x)(hw:x.wr.length<=1000)(gc:w.heap[cb]? = some (.cells [.func (.func 308) #[] #[]].toArray 162 (0,0)))
  (k:∀t w',aD w'.heap w.heap.size t (mO x)->Ext No w w'->K t w'):oh v.gen v.cm v.wr ⟨cb,0,none⟩ w K:=by
 apply DH;refine an.mk fun b w1 n1=>?_
 have x1:=n1.ext;have g1:w1.heap[b]? = some (.cells v.cells.toArray 195 (0,0)):=n1.get;have gc1:=aj gc x1;have e1:=r.gen;have e2:=r.cm;have hg:=rg.gen;have hc:=rg.cm;refine⟨Ext No w1,(Ext.refl _ _).drew,.func (.func 308) #[] #[],KB gc1 rfl,v.gen,KB g1 rfl,Ar.u64 (by omega) ⟨v.cm,kT g1 rfl,v.wr,kT g1 rfl,an.mk fun b2 w2 n2=>⟨(Ext.refl No w1).drew.no n2.ext,?_⟩⟩⟩;have rl:Rd w2.heap ⟨some ⟨b2,0,none⟩,2,2⟩ 1 ([v.gen,v.cm].map (Value.int .u64)):=(aP.new (sz:=1) (n:=2) n2 rfl (by simp[cn])).rd;have gV:Ext No w1 w2:=(Ext.refl No w1).drew.no n2.ext;refine ou (l:=⟨some ⟨b2,0,none⟩,2,2⟩) (qi rl (by simp;omega) (by simp) (by simp) fun t w3 r3 jB x3=>⟨gV.no x3,?_⟩);have mr:=gV.no x3;have hwr:=aL.len r.wr.rd
 refine F8 ((r.wr.no x1).no mr).rd (by omega) fun t2 w4 o4 x4=>⟨mr.no x4,?_⟩
 have l4:=aD.len o4;have l3:=aL.len r3
 have n3:(hX [v.gen,v.cm]).length<=20:=by
  have h1:=bQ (n:=v.gen.toNat) (by omega);have h2:=bQ (n:=v.cm.toNat) (by omega);simp[hX];omega
 have n4:=bQ (n:=x.wr.length) (by omega);have dz:0 < (numB x.wr.length).length:=List.length_pos_iff.2 (TQ _);rw[List.length_append]at l4
 refine Fv (r3.no x4) o4.rd (by omega) (by omega) fun s' w5 o5 x5=>⟨(mr.no x4).no x5,k s' w5 ?_ (((x1.no mr).no x4).no x5)⟩
 have e:hX [v.gen,v.cm]++(numB x.wr.length++x.wr)=mO x:=by simp[hX,mO,textB,e1,e2]
 rw[e]at o5;have z:=((x1.no mr).no x4).size;exact o5.mono z
theorem H4{s:Sl}{l:List gA}{cb:Nat}{K:Sl->Pw}(rl:jj Q w.heap s l)(hr:∀x∈l,MT x/\x.wr.length<=1000)(hl:l.length<=1000)(gc:w.heap[cb]? = some (.cells [.func (.func 308) #[] #[]].toArray 162 (0,0)))
  (k:∀o ps w',aP w'.heap w.heap.size 25 1 o (YJ ps)->(∀p∈ps,Cu (fun q=>w.heap.size<=q/\o.au≠some q) w'.heap p.1 p.2)->ps.map Prod.snd=l.map mO->Ext No w w'->K o w'):aX s (.func (.func 315) #[] #[.pointer (some ⟨cb,0,none⟩)]) w K:=by
 apply nh;have pA:=rl.len
 refine⟨fun m out t w'=>∃(j:Nat) (ps:List (Sl×List Int)),t=j/\j<=l.length/\m=l.length - j/\aP w'.heap w.heap.size 25 1 out (YJ ps)/\(∀p∈ps,Cu (fun q=>w.heap.size<=q/\out.au≠some q) w'.heap p.1 p.2)/\ps.map Prod.snd=(l.take j).map mO/\Ext No w w',
  ⟨_,0,[],rfl,Nat.zero_le _,rfl,aP.nil _ _ _ _,by simp,by simp,Ext.refl _ _⟩,?_⟩
 rintro _ m0 out _ w1 ⟨j,ps,rfl,hj,rfl,o1,hp,Ck,x1⟩;have hpn:ps.length=j:=by have:=congrArg List.length Ck;simp at this;omega
 refine If.dec (fun h=>?_) fun h=>?_
 .refine Sb (rl.no x1) (by omega) h fun b o v hi EP hc=>?_
  have yd:j < l.length:=hi;have el:l[((j:Nat):Int).toNat]'hi=l[j]:=rfl;rw[el]at EP;have hx:=hr _ (List.getElem_mem yd);have z1:=x1.size;refine⟨_,hc 0 _ rfl,_,hc 1 _ rfl,_,hc 2 _ rfl,an.mk fun b1 w2 n2=>⟨rfl,cr.all n2.get rfl v.one fun w3 g3 x3 _=>?_⟩⟩;have Ra:Ext (·=b1) w2 w3:=x3;have EI:=n2.at_;have z2:=n2.size;have z3:=Ra.size;have mr:Ext No w1 w3:=n2.ext.trans Ra fun q hq h=>by omega
  have qf:=x1.no mr;refine⟨_,Cell.ah g3 rfl,_,Cell.ah g3 rfl,_,Cell.ah g3 rfl,DI (Eu (EP.no mr) hx.1 hx.2 (aj gc qf) fun r w4 o4 x4=>an.mk fun b2 w5 n5=>?_)⟩;have z4:=x4.size;have mJ:=mr.no x4;refine N1 (m:=mO l[j]) (o1.no mJ) (fun p D1=>(hp p D1).no mJ) (.own o4 fun q h1 _=>⟨by omega,fun h=>by have:=(o1.lt h).2;omega⟩) n5 (by omega) (by omega) fun s' w6 o6 hp6 x6=>Ar.i64 (by omega) ⟨_,by omega,j+1,_,by omega,by omega,rfl,o6,hp6,?_,?_⟩
  .rw[xY yd,List.map_append,List.map_append,Ck];rfl
  .exact(x1.no mJ).trans x6 fun q hq h=>by have:=(o1.lt h).1;omega
 .have UP:j=l.length:=by omega
  rw[UP,List.take_length]at Ck;exact k out ps w1 o1 hp Ck x1
end
end Go.Proofs.YtefdekemmnnclaaGreat
namespace Go.V
open Go.V.Pk
theorem KC(x:ru):zR x=hX [x.dy,x.bE]++(textB x.mark++(hX [x.root.p,x.root.c,x.root.g,x.lev,((x.held.length:Nat):Int)]++(x.held.map mO).flatten)):=by
 simp[zR,hX,List.flatMap]
end Go.V
namespace Go.Proofs.YtefdekemmnnclaaGreat
open Go.V Go.V.Pk
section
variable {w:Wd} {Q:Nat->Prop}
theorem MU{w0:Wd}{vh rA rB:Sl}{x:ru}{cb b4:Nat}{A B:List Int}{K:Sl->Int->Pw}(x0:Ext No w0 w)(gc:w.heap[cb]? = some (.cells [.func (.func 308) #[] #[]].toArray 162 (0,0)))(rh:jj Q w.heap vh x.held)(rg:R_ x)(hh:∀h∈x.held,h.wr.length<=1000)(hl:x.held.length<=2)
  (ra:aL w.heap rA A) (rb:aL w.heap rB B) (hA:A.length<=1000) (hB:B.length<=1000) (g4:w.heap[b4]? = some (.cells ([x.root.p,x.root.c,x.root.g,x.lev,((x.held.length:Nat):Int)].map (Value.int .u64)).toArray 26 (0,0)))
  (k:∀t w',aD w'.heap w.heap.size t (A++(B++(hX [x.root.p,x.root.c,x.root.g,x.lev,((x.held.length:Nat):Int)]++(x.held.map mO).flatten)))->Ext No w0 w'->K t 0 w') :
  aG pz false (.func (.func 308) #[] #[]) [.slice (some (Addr.mk b4 0 none)) 5 5] [.one (.sl)] (fun r_3 hU=>
   Ext No w0 hU/\
   aX vh (.func (.func 315) #[] #[.pointer (some (Addr.mk cb 0 none))]) hU fun r_4 mw=>
   Ext No w0 mw/\
   eY r_4 ⟨none,0,0⟩ mw fun Yu lK=>
   Ext No w0 lK/\
   an lK (.cells [.slice rA.a rA.len rA.cap,.slice rB.a rB.len rB.cap,.slice r_3.a r_3.len r_3.cap,.slice Yu.a Yu.len Yu.cap].toArray 25) fun b_5 pY=>
   Ext No w0 pY/\
   aW ⟨some (Addr.mk b_5 0 none),4,4⟩ pY fun r_6 kQ=>
   Ext No w0 kQ/\
   K r_6 0 kQ) cB w:=by
 have ok:=rg.root;have lv:=rg.lev
 have rl:Rd w.heap ⟨some ⟨b4,0,none⟩,5,5⟩ 1 ([x.root.p,x.root.c,x.root.g,x.lev,((x.held.length:Nat):Int)].map (Value.int .u64)):=
  (⟨rfl,.inr ⟨b4,[],rfl,Nat.zero_le _,by simpa using g4,rfl,Nat.le_refl _⟩,by simp[cn]⟩ : aP w.heap 0 26 1 ⟨some ⟨b4,0,none⟩,5,5⟩ _).rd
 have rng:∀y∈[x.root.p,x.root.c,x.root.g,x.lev,((x.held.length:Nat):Int)],0<=y/\y<=18446744073709551615:=by
  intro y hy;simp only[List.mem_cons,List.not_mem_nil,or_false]at hy;obtain⟨h1,h2,h3⟩:=ok;rcases hy with rfl | rfl | rfl | rfl | rfl <;> omega
 refine ou (l:=⟨some ⟨b4,0,none⟩,5,5⟩) (qi rl rng (by simp) (by simp) fun t w1 r1 _ x1=>⟨x0.no x1,?_⟩)
 refine H4 (rh.no x1) (fun h hm=>⟨rg.held h hm,hh h hm⟩) (by omega) (aj gc x1) fun o ps w2 o2 hp Ck x2=>⟨(x0.no x1).no x2,?_⟩
 have hpn:ps.length=x.held.length:=by have:=congrArg List.length Ck;simpa using this
 have Pr:cat ps=(x.held.map mO).flatten:=by unfold cat;rw[Ck]
 have zZ:∀(l:List gA),(∀h∈l,MT h/\h.wr.length<=1000)->((l.map mO).flatten).length<=l.length * 1030:=fun l=>by
  induction l with
  | nil=>simp
  | cons h l ih=>
   intro hm;have h1:=ih fun y hy=>hm y (List.mem_cons_of_mem _ hy)
   have h2:=hm h List.mem_cons_self;have h3:=Ps h2.1 h2.2;simp only[List.map_cons,List.flatten_cons,List.length_append,List.length_cons]at h1 ⊢;omega
 have hc:=zZ x.held fun h hm=>⟨rg.held h hm,hh h hm⟩
 refine Et o2.rd (fun p D1=>(hp p D1).rd) (by rw[Pr];omega) (by omega) fun t2 w3 r3 _ _ x3=>⟨((x0.no x1).no x2).no x3,an.mk fun b5 w4 n4=>⟨(((x0.no x1).no x2).no x3).no n4.ext,?_⟩⟩
 have mJ:=((x1.no x2).no x3).no n4.ext;have oz:=(x2.no x3).no n4.ext;have n5:=bQ (n:=x.root.p.toNat) (by have:=ok.1;omega)
 have hn:(hX [x.root.p,x.root.c,x.root.g,x.lev,((x.held.length:Nat):Int)]).length<=50:=by
  have h1:=bQ (n:=x.root.p.toNat) (by have:=ok.1;omega);have h2:=bQ (n:=x.root.c.toNat) (by have:=ok.2.1;omega);have h3:=bQ (n:=x.root.g.toNat) (by have:=ok.2.2;omega);have h4:=bQ (n:=x.lev.toNat) (by omega);have h5:=bQ (n:=((x.held.length:Nat):Int).toNat) (by omega);simp only[hX,List.map_cons,List.map_nil,List.flatten_cons,List.flatten_nil,List.length_append,List.length_nil];omega
 let P:List (Sl×List Int):=[(rA,A),(rB,B),(t,hX [x.root.p,x.root.c,x.root.g,x.lev,((x.held.length:Nat):Int)]),(t2,cat ps)]
 have rP:Rd w4.heap ⟨some ⟨b5,0,none⟩,4,4⟩ 1 (P.map fun p=>p.1.v):=(aP.new (sz:=1) (n:=4) n4 rfl (by simp[cn])).rd
 refine BG (ps:=P) rP (fun p D1=>?_) ?_ (by simp[P]) fun s w5 o5 x5=>⟨(((((x0.no x1).no x2).no x3).no n4.ext)).no x5,k s w5 ?_ ((((((x0.no x1).no x2).no x3).no n4.ext)).no x5)⟩
 .simp only[P,List.mem_cons,List.not_mem_nil,or_false]at D1;rcases D1 with rfl | rfl | rfl | rfl
  .exact ra.no mJ
  .exact rb.no mJ
  .exact r1.no oz
  .exact r3.no n4.ext
 .have e:((P.map Prod.snd).flatten).length=A.length+(B.length+((hX [x.root.p,x.root.c,x.root.g,x.lev,((x.held.length:Nat):Int)]).length+(cat ps).length)):=by
   simp only[P,List.map_cons,List.map_nil,List.flatten_cons,List.flatten_nil,List.length_append,List.length_nil,Nat.add_zero]
  rw[e,Pr];omega
 .have e:(P.map Prod.snd).flatten=A++(B++(hX [x.root.p,x.root.c,x.root.g,x.lev,((x.held.length:Nat):Int)]++(x.held.map mO).flatten)):=by
   simp only[P,List.map_cons,List.map_nil,List.flatten_cons,List.flatten_nil,List.append_nil,Pr]
  rw[e]at o5;exact o5.mono mJ.size
set_option maxHeartbeats 2000000 in
theorem MV{v:oD}{x:ru}{K:Sl->Int->Pw}(r:wC Q w.heap v x)(rg:R_ x)(hl:x.held.length<=1000000000000)
  (k2:∀w',¬ KA x->Ext No w w'->K ⟨none,0,0⟩ 2 w') (k0:∀t w',KA x->aD w'.heap w.heap.size t (zR x)->Ext No w w'->K t 0 w'):rY v.az v.dy v.mark v.root.p v.root.c v.root.g v.lev v.bE v.held w K:=by
 apply G4;refine an.mk fun b w1 n1=>?_
 have g1:w1.heap[b]? = some (.cells v.cells.toArray 144 (0,0)):=n1.get;have x1:=n1.ext;refine⟨v.az,Cell.ah g1 rfl,v.dy,Cell.ah g1 rfl,v.mark,Cell.ah g1 rfl,v.root.p,Cell.ah g1 rfl,v.root.c,Cell.ah g1 rfl,v.root.g,Cell.ah g1 rfl,v.lev,Cell.ah g1 rfl,v.bE,Cell.ah g1 rfl,v.held,Cell.ah g1 rfl,Pn (r.no x1) rg.held hl fun t w2 ht x2=>If.not (If.cases (fun h=>?_) fun h=>k2 w2 (fun m=>by rw[ht.2 m]at h;cases h) (x1.no x2))⟩;have may:=ht.1 h;have q_:=x1.no x2;have g2:=aj g1 x2;refine⟨_,Cell.ah g2 rfl,_,Cell.ah g2 rfl,_,Cell.ah g2 rfl,_,Cell.ah g2 rfl,an.mk fun b1 w3 n3=>⟨rfl,cr.all n3.get rfl (by simp[cn]) fun w4 g4 x4 _=>an.mk fun b2 w5 n5=>aH.mk n5.get (by simp) rfl fun w6 h6=>?_⟩⟩;have EI:=n3.at_;have z3:=n3.size;have Cz:=n5.at_;have z5:=n5.size;have Q7:Ext (·=b1) w3 w4:=x4;have z4:=Q7.size;have x6:Ext (·=b2) w5 w6:=h6.ext;have oz:Ext No w2 w4:=n3.ext.trans Q7 fun q hq h=>by omega
 have RF:Ext No w2 w6:=(oz.no n5.ext).trans x6 fun q hq h=>by have:=oz.size;omega
 have wk:=q_.no RF;have Kl:=aj g2 RF;have gr6:w6.heap[b1]? = some (.cells [.int .u32 v.root.p,.int .u64 v.root.c,.int .u16 v.root.g,.int .u8 v.lev].toArray 85 (0,0)):=aw (aj g4 n5.ext) x6 (by have:=oz.size;omega);have gc6:w6.heap[b2]? = some (.cells [.func (.func 308) #[] #[]].toArray 162 (0,0)):=h6.get n5.get;have e1:=r.dy;have e2:=r.bE;have e4:=r.root;have e5:=r.lev;have lh:=r.held.len;have lm:=aL.len r.mark.rd;have ok:=rg.root;have lv:=rg.lev;obtain⟨m1,m2,m3,m4,m5,m6,m7,m8⟩:=may;have XF:x.held.length<=2:=by rcases m8 with⟨a,h,_⟩ | ⟨a,c,h,_⟩ <;> rw[h] <;> simp
 have hh:∀y∈x.held,y.wr.length<=1000:=fun y hy=>by
  rcases m8 with⟨a,h,h1⟩ | ⟨a,c,h,h1,h2,_⟩ <;> rw[h]at hy <;> simp at hy
  .rw[hy];omega
  .rcases hy with e | e <;> rw[e] <;> omega
 have xd:Ext No w6 (aa w6):=(Ext.refl _ _).drew;obtain⟨k1,k3,k4⟩:=ok;refine⟨Ext No w6,xd,.func (.func 308) #[] #[],KB gc6 rfl,v.dy,kT Kl rfl,Ar.u64 (by omega) ⟨v.bE,kT Kl rfl,Ar.u64 (by omega) ⟨v.mark,kT Kl rfl,.func (.func 308) #[] #[],KB gc6 rfl,v.root.p,KB gr6 rfl,Ar.u64 (by rw[e4];omega) ⟨v.root.c,kT gr6 rfl,v.root.g,kT gr6 rfl,Ar.u64 (by rw[e4];omega) ⟨v.lev,kT gr6 rfl,Ar.u64 (by omega) ⟨v.held,kT Kl rfl,Ar.u64 (by omega) ⟨v.held,kT Kl rfl,?_⟩⟩⟩⟩⟩⟩⟩;have e5l:[v.root.p,v.root.c,v.root.g,v.lev,((v.held.len:Nat):Int)]=[x.root.p,x.root.c,x.root.g,x.lev,((x.held.length:Nat):Int)]:=by rw[e4,e5,lh]
 have e2l:[v.dy,v.bE]=[x.dy,x.bE]:=by rw[e1,e2]
 have aeg:∀y∈[v.dy,v.bE],0<=y/\y<=18446744073709551615:=by
  intro y hy;simp only[List.mem_cons,List.not_mem_nil,or_false]at hy;rcases hy with rfl | rfl <;> omega
 have n2:(hX [x.dy,x.bE]).length<=1000:=by
  have h1:=bQ (n:=x.dy.toNat) (by omega);have h2:=bQ (n:=x.bE.toNat) (by omega);simp only[hX,List.map_cons,List.map_nil,List.flatten_cons,List.flatten_nil,List.length_append,List.length_nil];omega
 have nm:(numB x.mark.length++x.mark).length<=1000:=by
  have:=bQ (n:=x.mark.length) (by omega);rw[List.length_append];omega
 -- the two parts afE the aeh afF
 have YK:∀{w7:Wd}{b3:Nat}{K':Sl->Pw},Ext No w6 w7->w7.heap[b3]? = some (.cells ([v.dy,v.bE].map (Value.int .u64)).toArray 26 (0,0))->(∀t w',aL w'.heap t (hX [x.dy,x.bE])->Ext No w7 w'->K' t w')->
   aG pz false (.func (.func 308) #[] #[]) [.slice (some (Addr.mk b3 0 none)) 2 2] [.one (.sl)] K' cB w7:=fun {w7 b3 K'} x7 g7 k'=>by
  have rl:Rd w7.heap ⟨some ⟨b3,0,none⟩,2,2⟩ 1 ([v.dy,v.bE].map (Value.int .u64)):=
   (⟨rfl,.inr ⟨b3,[],rfl,Nat.zero_le _,by simpa using g7,rfl,Nat.le_refl _⟩,by simp[cn]⟩ : aP w7.heap 0 26 1 ⟨some ⟨b3,0,none⟩,2,2⟩ _).rd
  exact ou (l:=⟨some ⟨b3,0,none⟩,2,2⟩) (qi rl aeg (by simp) (by simp) fun t w8 r8 _ x8=>k' t w8 (by rw[<- e2l];exact r8) x8)
 have text:∀{w7:Wd}{K':Sl->Pw},Ext No w6 w7->(∀t w',aL w'.heap t (numB x.mark.length++x.mark)->Ext No w7 w'->K' t w')->fL v.mark w7 K':=fun {w7 K'} x7 k' =>
  F8 (r.mark.no (wk.no x7)).rd (by omega) fun t w8 o8 x8=>k' t w8 o8.rd x8
 have fin:∀{w7:Wd}{rA rB:Sl}{b4:Nat},Ext No w6 w7->w7.heap[b4]? = some (.cells ([v.root.p,v.root.c,v.root.g,v.lev,((v.held.len:Nat):Int)].map (Value.int .u64)).toArray 26 (0,0))->aL w7.heap rA (hX [x.dy,x.bE])->aL w7.heap rB (numB x.mark.length++x.mark)->_:=fun {w7 rA rB b4} x7 g7 ra rb=>
  MU (Q:=Q) (w0:=w6) (K:=K) x7 (aj gc6 x7) (r.held.no (wk.no x7)) rg hh XF ra rb n2 nm (by rw[<- e5l];exact g7) fun t w' o' x'=>k0 t w' ⟨m1,m2,m3,m4,m5,m6,m7,m8⟩ (by rw[KC];exact o'.mono (wk.no x7).size) (wk.no x')
 refine⟨?_,?_⟩
 .refine an.mk fun b3 w7 n7=>?_
  have x7:=xd.no n7.ext;refine⟨x7,YK x7 n7.get fun rA w8 Z8 x8=>?_,?_⟩
  .have CK:=x7.no x8;refine⟨CK,text CK fun rB w9 YL x9=>⟨CK.no x9,an.mk fun b4 gG ji=>⟨(CK.no x9).no ji.ext,?_⟩⟩,an.mk fun b6 ua Rr=>⟨CK.no Rr.ext,text (CK.no Rr.ext) fun rB rD YL zq=>⟨(CK.no Rr.ext).no zq,?_⟩⟩⟩
   .exact fin ((CK.no x9).no ji.ext) ji.get ((Z8.no x9).no ji.ext) (YL.no ji.ext)
   .exact fin ((CK.no Rr.ext).no zq) (aj Rr.get zq) ((Z8.no Rr.ext).no zq) YL
  .refine an.mk fun b8 Nz H2=>?_
   have xI:=x7.no H2.ext;refine⟨xI,YK xI (aj n7.get H2.ext) fun rA oQ Z8 oz=>⟨xI.no oz,text (xI.no oz) fun rB wA YL nD=>⟨(xI.no oz).no nD,?_⟩⟩⟩;exact fin ((xI.no oz).no nD) (aj (aj H2.get oz) nD) (Z8.no nD) YL
 .refine an.mk fun b10 UI n31=>?_
  have YM:=xd.no n31.ext;refine⟨YM,an.mk fun b11 Wa n32=>?_⟩;have Z9:=YM.no n32.ext;refine⟨Z9,YK Z9 n32.get fun rA w33 Z8 x33=>⟨Z9.no x33,text (Z9.no x33) fun rB w34 YL x34=>⟨(Z9.no x33).no x34,?_⟩⟩⟩;exact fin ((Z9.no x33).no x34) (aj (aj (aj n31.get n32.ext) x33) x34) (Z8.no x34) YL
end
end Go.Proofs.YtefdekemmnnclaaGreat
