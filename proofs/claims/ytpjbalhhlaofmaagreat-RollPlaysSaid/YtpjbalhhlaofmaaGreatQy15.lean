/- Texts for LRollPlays, part 15. -/
import Derived.Lib.MakeNoZero
import Derived.Test.YtpjbalhhlaofmaaGreatQy14
set_option maxRecDepth 100000
namespace Go.V
theorem Pb(w:Wd)(o:Obj):Ext No w (w.alloc o):=by
 refine⟨rfl,rfl,rfl,?_,fun b hb _=>?_⟩
 .show w.heap.size<=(w.heap.push o).size;rw[Array.size_push];omega
 .exact hH _ _ _ hb
theorem zl{row vs:List Value}{o:Nat}(h:o+vs.length<=row.length):(setL row o vs).take (o+vs.length)=row.take o++vs/\(setL row o vs).length=row.length:=by
 rw[ub _ _ _ h];constructor
 .rw[List.take_append_of_le_length (by rw[List.length_append,List.length_take];omega),List.take_of_length_le (by rw[List.length_append,List.length_take];omega)]
 .simp only[List.length_append,List.length_take,List.length_drop];omega
end Go.V
namespace Go.Proofs.YtpjbalhhlaofmaaGreat
open Go.V Go.V.Pk
section
variable {w:Wd} {Q:Nat->Prop}
theorem UJ(n:Nat)(hn:n<=281474976710656)(w:Wd):∃cs:Array Value,Sem.run pz (callFunc 90 #[.int .i64 n]) w = .ok (.value (.slice (some ⟨w.heap.size,0,none⟩) n cs.size)) (w.drew.drew.alloc (.cells cs 5))/\n<=cs.size:=by
 obtain⟨cs,h1,h2,_⟩:=Lib.run_makeNoZero (P:=pz) w #[3] 23 5 (by kernel_rfl) n hn;refine⟨cs,?_,h2⟩;rw[run_callFunc_extern Tryz.func90 (by kernel_rfl) (by kernel_rfl) (by kernel_rfl) (e:=Extern.BytealgMakeNoZero.makeNoZero #[3] #[23]) (by kernel_rfl),h1];rfl
theorem cpy{b n bp:Nat}{row:List Value}{x:Sl}{xs:List Value}{T:TypeId}{K:Int->Pw}(hb:w.heap[b]? = some (.cells row.toArray T (0,0)))(hr:n<=row.length)(hbp:bp<=n)(hx:Rd w.heap x 1 xs)(ZR:x.len<=n - bp)
  (hk:∀w',w'.heap[b]? = some (.cells (setL row bp xs).toArray T (0,0))->Ext (·=b) w w'->w'.heap.size=w.heap.size->K (x.len:Int) w'):Cut ⟨some ⟨b,0,none⟩,n,n⟩ (bp:Int) ((n:Nat):Int) ((n:Nat):Int) 1 fun d=>eA pz 23 23 d (.slice x.a x.len x.cap) K w:=by
 refine Cut.mk (by omega) (by omega) (by omega) (by simp) ?_;have e1:((n:Int) - (bp:Int)).toNat=n - bp:=by omega
 simp only[Int.toNat_natCast,e1];have hxs:xs.length=x.len:=by have:=hx.len;omega
 have full:xs.take (x.len * 1)=xs:=List.take_of_length_le (by omega);have vX:min x.len (n - bp)=x.len:=Nat.min_eq_left ZR;by_cases e:n=bp
 .subst e;have hx0:xs=[]:=List.eq_nil_of_length_eq_zero (by omega);refine vI (off:=0) (b:=b) (by unfold mP;rw[if_pos rfl]) hb hx (by simp) fun w' h=>?_
  simp only[vX,full]at h ⊢;refine hk w' ?_ h.ext h.size;have:=h.get hb;rw[hx0]at this ⊢;simpa[setL] using this
 .refine vI (off:=bp) (b:=b) (by unfold mP;rw[if_neg e];simp[ay]) hb hx (by simp only;omega) fun w' h=>?_
  simp only[vX,full]at h ⊢;exact hk w' (h.get hb) h.ext h.size
abbrev cat(ps:List (Sl×List Int)):List Int:=(ps.map Prod.snd).flatten
theorem tU{ps:List (Sl×List Int)}{j:Nat}(h:j < ps.length):cat (ps.take (j+1))=cat (ps.take j)++ps[j].2:=by
 unfold cat;rw[List.take_add_one,List.getElem?_eq_getElem h];simp only[Option.toList_some,List.map_append,List.map_cons,List.map_nil,List.flatten_append,List.flatten_cons,List.flatten_nil,List.append_nil]
theorem Da(ps:List (Sl×List Int))(j:Nat):(cat (ps.take j)).length<=(cat ps).length:=by
 have e:cat ps=cat (ps.take j)++cat (ps.drop j):=by unfold cat;rw[<- List.flatten_append,<- List.map_append,List.take_append_drop]
 rw[e,List.length_append];omega
set_option maxHeartbeats 1000000 in
theorem Db{sl:Sl}{ps:List (Sl×List Int)}{K:Sl->Pw}(hs:Rd w.heap sl 1 (ps.map fun p=>p.1.v))(hp:∀p∈ps,cZ w.heap p.1 p.2)(hb:(cat ps).length<=1099511627776)(hn:ps.length<=4294967296)
  (k:∀s w',cZ w'.heap s (cat ps)->(2<=ps.length->s.cap=s.len)->(∀b,s.aq=some b->w.heap.size<=b)->Ext No w w'->K s w'):eM sl ⟨none,0,0⟩ w K:=by
 apply Hd;have hl:sl.len=ps.length:=by have:=hs.len;simp at this;exact this.symm
 have pick:∀{w':Wd}{j:Nat}(h:j < ps.length){K':Addr->Prop},Ext No w w'->(∀a,Cell w' a (.slice ps[j].1.a ps[j].1.len ps[j].1.cap)->K' a)->Ix sl.a sl.len ((j:Nat):Int) 1 K':=fun {w' j} h {K'} x k'=>by
  refine Ix.cell (hs.no x) (by omega) (by omega) fun bb o v _ hv hc=>?_
  rw[Int.toNat_natCast,List.getElem?_map,List.getElem?_eq_getElem h]at hv;simp only[Option.map_some,Option.some.injEq]at hv;subst hv;exact k' _ hc
 refine If.beq (fun h0=>?_) fun h0=>If.beq (fun h1=>?_) fun h1=>?_
 .have Oq:ps=[]:=List.eq_nil_of_length_eq_zero (by omega);subst Oq;refine ag.mk fun b w1 n1=>?_
  have o:=aT.new (sz:=1) (n:=0) n1 rfl (by simp);refine k _ w1 (by simpa[cZ,cat] using o.rd) (fun h=>absurd h (by simp)) (fun q hq=>(o.lt hq).1) n1.ext
 .have Ad:ps.length=1:=by omega
  have ZS:0 < ps.length:=by omega
  refine pick (j:=0) ZS (Ext.refl _ _) fun a hc=>⟨_,hc,?_⟩
  have hr:=hp _ (List.getElem_mem ZS);have hlen:=cZ.len hr
  have e:cat ps=ps[0].2:=by
   have h3:=tU ZS;rw[show ps.take (0+1)=ps from List.take_of_length_le (by omega)]at h3;simpa[cat] using h3
  rw[e]at hb k;exact fu (aT.nil w.heap w.heap.size 5 1) (Nat.le_refl _) hr.src (by simp only;omega) fun s' w' o' _ x' _=>k s' w' (by simpa[cZ] using o'.rd) (fun h=>by omega) (fun q hq=>(o'.lt hq).1) (x'.mono fun q _ h=>by simp[Sl.aq]at h)
 .have h2:2<=ps.length:=by omega
  refine⟨fun n w'=>n=0/\w'=w,If.dec (fun h=>absurd h (by decide)) fun _=>⟨rfl,rfl⟩,?_⟩;rintro _ n w4 ⟨rfl,rfl⟩;refine⟨fun m n t w'=>w'=w4/\∃j:Nat,t=j/\j<=ps.length/\m=ps.length - j/\n=((cat (ps.take j)).length:Int),⟨_,rfl,0,rfl,Nat.zero_le _,rfl,by simp[cat]⟩,?_⟩;rintro _ m0 n t w5 ⟨rfl,j,rfl,hj,rfl,rfl⟩;have hle:=Da ps j;refine If.dec (fun h=>?_) fun h=>?_
  .have oP:j < ps.length:=by omega
   refine pick oP (Ext.refl _ _) fun a hc=>⟨_,hc,?_⟩
   have hlen:=cZ.len (hp _ (List.getElem_mem oP));have h3:=Da ps (j+1);rw[tU oP,List.length_append]at h3;refine Ar.i64 (by omega) (If.dec (fun h=>by omega) fun _=>Ar.i64 (by omega) (Ar.i64 (by omega) ⟨_,by omega,rfl,j+1,by omega,by omega,rfl,?_⟩));rw[tU oP,List.length_append];omega
  .have Fm:j=ps.length:=by omega
   rw[Fm,List.take_length];obtain⟨cs,hr,Oj⟩:=UJ (cat ps).length (by omega) w5
   let q:=w5.heap.size
   let w6:=(World.drew (World.drew w5)).alloc (.cells cs 5)
   have x6:Ext No w5 w6:=by
    have e:Ext No (World.drew (World.drew w5)) w6:=Pb _ _
    have e0:Ext No w5 (World.drew (World.drew w5)):=⟨rfl,rfl,rfl,Nat.le_refl _,fun _ _ _=>rfl⟩
    exact e0.no e
   have g6:w6.heap[q]? = some (.cells cs.toList.toArray 5 (0,0)):=by
    have:w6.heap[q]? = some (.cells cs 5 (0,0)):=by show(w5.heap.push _)[w5.heap.size]? = _;simp
    simpa using this
   have z6:q < w6.heap.size:=by show w5.heap.size < (w5.heap.push _).size;rw[Array.size_push];omega
   refine⟨⟨some ⟨q,0,none⟩,(cat ps).length,cs.size⟩,w6,hr,?_⟩;refine Cut.mk (Int.le_refl _) (by omega) (Int.le_refl _) (by simp only;omega) ?_
   have ec:mP (some ⟨q,0,none⟩) (cat ps).length 0 1=some (⟨q,0,none⟩ : Addr):=by
    unfold mP;split
    .rfl
    .simp[ay]
   have e0:(((cat ps).length:Int) - 0).toNat=(cat ps).length:=by omega
   simp only[Int.toNat_natCast,Int.toNat_zero,ec,e0]
   refine pick (j:=0) (by omega) x6 fun a hc=>⟨_,hc,?_⟩
   have ZS:0 < ps.length:=by omega
   have abc:=hp _ (List.getElem_mem ZS);have abd:=cZ.len abc
   have hc1:cat (ps.take 1)=ps[0].2:=by
    have:=tU ZS;simpa[cat] using this
   have aaB:=Da ps 1;rw[hc1]at aaB;have ss:cs.toList.length=cs.size:=by simp
   refine vI (off:=0) (b:=q) rfl g6 (Rd.no abc x6) (by simp only;omega) fun w7 h7=>?_
   have vX:min ps[0].1.len (cat ps).length=ps[0].1.len:=Nat.min_eq_left (by omega);have abe:(ps[0].2.map (Value.int .u8)).take (ps[0].1.len * 1)=ps[0].2.map (Value.int .u8):=List.take_of_length_le (by simp;omega);simp only[vX,abe]at h7 ⊢;have g7:=h7.get g6;have x7:Ext (·=q) w6 w7:=h7.ext;have s7:=zl (row:=cs.toList) (vs:=ps[0].2.map (Value.int .u8)) (o:=0) (by simp;omega);have FI:Ext No w5 w7:=x6.trans x7 fun i hi h=>by have h':i=w5.heap.size:=h;omega
   have af2:=hs.cap;refine Cut.mk (by decide) (by omega) (by omega) (Int.le_refl _) ?_
   -- the rest of the pieces
   have hsr:Rd w5.heap ⟨mP sl.a sl.cap 1 1,sl.len - 1,sl.cap - 1⟩ 1 ((ps.map fun p=>p.1.v).drop 1):=by
    have jT:=hs.cap;have:=hs.cut (lo:=1) (hi:=sl.len) (mx:=sl.cap) (by omega) (Nat.le_refl _) jT;have e2:(((ps.map fun p=>p.1.v).drop (1 * 1)).take ((sl.len - 1) * 1))=(ps.map fun p=>p.1.v).drop 1:=List.take_of_length_le (by simp;omega);rw[e2]at this;exact this
   have e1:((sl.len:Int) - 1).toNat=sl.len - 1:=by omega
   have e2:((sl.cap:Int) - 1).toNat=sl.cap - 1:=by have:=hs.cap;omega
   have e3:(1:Int).toNat=1:=rfl;simp only[Int.toNat_natCast,e1,e3]
   refine⟨fun m bp t w'=>∃(j:Nat) (row:List Value),t=j/\j+1<=ps.length/\m=ps.length - j/\bp=((cat (ps.take (j+1))).length:Int)/\w'.heap[q]? = some (.cells row.toArray 5 (0,0))/\row.length=cs.size/\row.take (cat (ps.take (j+1))).length=(cat (ps.take (j+1))).map (Value.int .u8)/\Ext No w5 w'/\q < w'.heap.size,
    ⟨_,0,_,rfl,by omega,rfl,?_,g7,by rw[s7.2,ss],?_,FI,by have:=x7.size;omega⟩,?_⟩
   .show _=((cat (ps.take (0+1))).length:Int);rw[Nat.zero_add,hc1,abd]
   .show(setL _ _ _).take (cat (ps.take (0+1))).length=(cat (ps.take (0+1))).map _;rw[Nat.zero_add,hc1];have:=s7.1;simpa using this
   rintro _ m1 bp t w8 ⟨j,row,rfl,hj,rfl,rfl,g8,EA,XS,x8,z8⟩;refine If.dec (fun h=>?_) fun h=>?_
   .have oP:j+1 < ps.length:=by have h':(j:Int) < ((sl.len - 1:Nat):Int):=h;omega
    refine Ix.cell (hsr.no x8) (by omega) h fun bb o v _ hv hc=>?_
    rw[Int.toNat_natCast,List.getElem?_drop,Nat.add_comm 1 j,List.getElem?_map,List.getElem?_eq_getElem oP]at hv;simp only[Option.map_some,Option.some.injEq]at hv;subst hv;have Eb:=hp _ (List.getElem_mem oP);have hlen:=cZ.len Eb;have aaD:=Da ps (j+2);have XT:=tU oP;rw[XT,List.length_append]at aaD;have agz:=Da ps (j+1);refine⟨_,hc,cpy g8 (by omega) (by omega) (x:=⟨none,0,0⟩) (xs:=[]) (Rd.nil _ _) (Nat.zero_le _) fun w9 g9 x9 z9=>Ar.i64 (by simp only;omega) ?_⟩;have es:setL row (cat (ps.take (j+1))).length []=row:=by simp[setL]
    rw[es]at g9;have x59:Ext No w5 w9:=x8.trans x9 fun i hi h=>by have h':i=w5.heap.size:=h;omega
    have ez:(((cat (ps.take (j+1))).length:Int)+((0:Nat):Int))=((cat (ps.take (j+1))).length:Int):=by omega
    simp only[ez];refine cpy g9 (by omega) (by omega) (Eb.no x59) (by omega) fun dA oq dR LS=>Ar.i64 (by omega) (Ar.i64 (by omega) ⟨_,by omega,j+1,_,by omega,by omega,rfl,?_,oq,?_,?_,x59.trans dR fun i hi h=>by have h':i=w5.heap.size:=h;omega,by omega⟩)
    .rw[XT,List.length_append];omega
    .rw[(zl (by rw[List.length_map];omega)).2,EA]
    .have:=(zl (row:=row) (vs:=ps[j+1].2.map (Value.int .u8)) (o:=(cat (ps.take (j+1))).length) (by rw[List.length_map];omega)).1;rw[List.length_map]at this;rw[XT,List.length_append,this,XS,List.map_append]
   .have Fm:j+1=ps.length:=by have h':¬ (j:Int) < ((sl.len - 1:Nat):Int):=h;omega
    rw[Fm,List.take_length]at XS
    have own:aT w8.heap w5.heap.size 5 1 ⟨some ⟨q,0,none⟩,(cat ps).length,cs.size⟩ ((cat ps).map (Value.int .u8)):=by
     have e:(cat ps).map (Value.int .u8)++row.drop (cat ps).length=row:=by
      conv=>rhs;rw[<- List.take_append_drop (cat ps).length row,XS]
     refine⟨by rw[List.length_map,Nat.mul_one],.inr ⟨q,row.drop (cat ps).length,rfl,Nat.le_refl _,?_,?_,Oj⟩,Ff⟩
     .rw[e];exact g8
     .rw[e,EA,Nat.mul_one]
    refine k _ w8 ?_ (fun _=>rfl) (fun b hb=>by simp[Sl.aq]at hb;show w5.heap.size<=b;omega) x8;exact⟨own.rd.len,Nat.le_refl _,own.rd.at_,own.rd.cells⟩
end
end Go.Proofs.YtpjbalhhlaofmaaGreat
namespace Go.V
open Go.V.Pk
theorem Pc(l:List Int)(h:l.length<=1000000000):(textB l).length<=l.length+10:=by
 unfold textB;rw[List.length_append];have:=bO (n:=l.length) (by omega);omega
abbrev iS(l:List Int):List Int:=(l.map fun n=>numB n.toNat).flatten
end Go.V
namespace Go.Proofs.YtpjbalhhlaofmaaGreat
open Go.V Go.V.Pk
section
variable {w:Wd} {Q:Nat->Prop}
theorem EC{s x:Sl}{cs xs:List Int}{K:Sl->Pw}(rd:cZ w.heap s cs)(rx:cZ w.heap x xs)(jT:s.cap < s.len+x.len)(hb:s.len+x.len<=1099511627776)(hk:∀s' w',aU w'.heap w.heap.size s' (cs++xs)->Ext No w w'->K s' w') :
  bz pz 23 23 s (.slice x.a x.len x.cap) K w:=
 T4 (P:=pz) (e:=5) (d:= .slice 5) (ie:=Tryz.t5) (z:=Tryz.t5.zero.getD .nilFunc) (by kernel_rfl) (by kernel_rfl) (fun k h=>by cases h) (by kernel_rfl) (by kernel_rfl) (by kernel_rfl) (by kernel_rfl) (by decide) rd rx.src jT (by show(s.len+x.len) * 1<=_;omega)
  fun s' w' o _ x'=>hk s' w' (by show aT _ _ 5 1 s' ((cs++xs).map _);rw[List.map_append];exact o) x'
abbrev XU(ps:List (Sl×List Int)):List Value:=ps.map fun p=>p.1.v
theorem NL{w1:Wd}{base b:Nat}{out r:Sl}{ps:List (Sl×List Int)}{m:List Int}{K:Sl->Pw}(o:aT w.heap base 23 1 out (XU ps))(hp:∀p∈ps,tD (fun q=>base<=q/\out.aq≠some q) w.heap p.1 p.2)
  (hr:tD (fun q=>base<=q/\out.aq≠some q) w.heap r m) (n:D_ w (.cells [.slice r.a r.len r.cap].toArray 23) b w1) (hb:base<=w.heap.size) (hl:ps.length<=1000)
  (k:∀s' w',aT w'.heap base 23 1 s' (XU (ps++[(r,m)]))->(∀p∈ps++[(r,m)],tD (fun q=>base<=q/\s'.aq≠some q) w'.heap p.1 p.2)->Ext (fun q=>out.aq=some q) w w'->K s' w'):bz pz 111 111 out (.slice (some (Addr.mk b 0 none)) 1 1) K w1:=by
 have x:=n.ext;have z:=n.size;have hol:out.len=ps.length:=by have:=o.rd.len;simp at this;exact this.symm
 have src:Src pz w1 (.slice (some (Addr.mk b 0 none)) 1 1) 1 1 [r.v]:=(aT.new (sz:=1) (n:=1) n rfl (by simp[aN])).rd.src;refine qO (o.no x) (by omega) src (by rw[hol];omega) fun s' w' o' _ x' oR=>?_
 have x2:Ext (fun q=>out.aq=some q) w w':=x.aG.trans x' fun _ _ h=>h
 refine k s' w' (by unfold XU;rw[List.map_append];exact o') (fun p sK=>?_) x2
 have key:∀{t l},tD (fun q=>base<=q/\out.aq≠some q) w.heap t l->tD (fun q=>base<=q/\s'.aq≠some q) w'.heap t l:=fun {t l} h=>by
  refine((h.lt).ext x2 fun q hq h=>hq.1.2 h).mono fun q hq=>⟨hq.1.1,fun h=>?_⟩
  rcases oR with h1 | ⟨b',h1,h2⟩
  .exact hq.1.2 (h1 ▸ h)
  .rw[h1]at h;cases h;have:=hq.2;omega
 rcases List.mem_append.1 sK with h | h
 .exact key (hp p h)
 .rw[List.mem_singleton]at h;subst h;exact key hr
theorem HE{s:Sl}{l:List Int}{K:Sl->Pw}(rl:Rd w.heap s 1 (l.map (Value.int .u64)))(hr:∀x∈l,0<=x/\x<=18446744073709551615)(hl:l.length<=1000)
  (k:∀o ps w',aT w'.heap w.heap.size 23 1 o (XU ps)->(∀p∈ps,tD (fun q=>w.heap.size<=q/\o.aq≠some q) w'.heap p.1 p.2)->ps.map Prod.snd=l.map (fun n=>numB n.toNat)->Ext No w w'->K o w'):eF s (.func (.func 55) #[] #[]) w K:=by
 apply ou;have JF:s.len=l.length:=by have:=rl.len;simp at this;exact this.symm
 refine⟨fun m out t w'=>∃(j:Nat) (ps:List (Sl×List Int)),t=j/\j<=l.length/\m=l.length - j/\aT w'.heap w.heap.size 23 1 out (XU ps)/\(∀p∈ps,tD (fun q=>w.heap.size<=q/\out.aq≠some q) w'.heap p.1 p.2)/\ps.map Prod.snd=(l.take j).map (fun n=>numB n.toNat)/\Ext No w w',
  ⟨_,0,[],rfl,Nat.zero_le _,rfl,aT.nil _ _ _ _,by simp,by simp,Ext.refl _ _⟩,?_⟩
 rintro _ m0 out _ w1 ⟨j,ps,rfl,hj,rfl,o1,hp,xW,x1⟩;have ZT:ps.length=j:=by have:=congrArg List.length xW;simp at this;omega
 refine If.dec (fun h=>?_) fun h=>?_
 .have fh:j < l.length:=by omega
  refine Ix.cell (rl.no x1) (by omega) h fun b o v _ hv hc=>?_
  rw[Int.toNat_natCast,List.getElem?_map,List.getElem?_eq_getElem fh]at hv;simp only[Option.map_some,Option.some.injEq]at hv;subst hv;have hx:=hr _ (List.getElem_mem fh);have z1:=x1.size;refine⟨_,hc,LF (Jy hx.1 hx.2 fun r w2 o2 x2=>ag.mk fun b1 w3 n3=>?_)⟩;have z2:=x2.size;refine NL (m:=numB l[j].toNat) (o1.no x2) (fun p sK=>(hp p sK).no x2) (.own o2 fun q h1 _=>⟨by omega,fun h=>by have:=(o1.lt h).2;omega⟩) n3 (by omega) (by omega) fun s' w4 o4 hp4 x4=>Ar.i64 (by omega) ⟨_,by omega,j+1,_,by omega,by omega,rfl,o4,hp4,?_,?_⟩
  .rw[fX fh,List.map_append,List.map_append,xW];rfl
  .exact(x1.no x2).trans x4 fun q hq h=>by have:=(o1.lt h).1;omega
 .have Fm:j=l.length:=by omega
  rw[Fm,List.take_length]at xW;exact k out ps w1 o1 hp xW x1
theorem rC{s:Sl}{l:List Int}{K:Sl->Pw}(rl:Rd w.heap s 1 (l.map (Value.int .u64)))(hr:∀x∈l,0<=x/\x<=18446744073709551615)(hl:l.length<=1000)(h2:2<=l.length)
  (k:∀t w',cZ w'.heap t (iS l)->t.cap=t.len->Ext No w w'->K t w'):nI s w K:=by
 apply Cg;refine HE rl hr hl fun o ps w1 o1 hp xW x1=>?_
 have ZT:ps.length=l.length:=by have:=congrArg List.length xW;simpa using this
 have Pd:cat ps=iS l:=by unfold cat;rw[xW]
 have hlen:∀(l:List Int),(∀x∈l,0<=x/\x<=18446744073709551615)->(iS l).length<=l.length * 10:=fun l=>by
  induction l with
  | nil=>simp
  | cons x l ih=>
   intro h;have h1:=ih fun y hy=>h y (List.mem_cons_of_mem _ hy)
   have h3:=h x List.mem_cons_self;have h4:=bO (n:=x.toNat) (by omega);simp only[iS,List.map_cons,List.flatten_cons,List.length_append,List.length_cons]at h1 ⊢;omega
 have hb:=hlen l hr;refine Db o1.rd (fun p sK=>(hp p sK).rd) (by rw[Pd];omega) (by omega) fun t w2 r2 jT _ x2=>k t w2 (by rw[<- Pd];exact r2) (jT (by omega)) (x1.no x2)
theorem Pe{h:cW}(r:qQ h)(hw:h.wr.length<=1000):(eC h).length<=h.wr.length+30:=by
 have h1:=bO (n:=h.gen.toNat) (by have:=r.gen;omega);have h2:=bO (n:=h.cm.toNat) (by have:=r.cm;omega);have h3:=Pc h.wr (by omega);unfold eC;simp only[List.length_append];omega
theorem Dc{v:gz}{x:cW}{cb:Nat}{K:Sl->Pw}(r:gA Q w.heap v x)(rg:qQ x)(hw:x.wr.length<=1000)(gc:w.heap[cb]? = some (.cells [.func (.func 52) #[] #[]].toArray 114 (0,0)))
  (k:∀t w',aU w'.heap w.heap.size t (eC x)->Ext No w w'->K t w'):nJ v.gen v.cm v.wr ⟨cb,0,none⟩ w K:=by
 apply Ce;refine ag.mk fun b w1 n1=>?_
 have x1:=n1.ext;have g1:w1.heap[b]? = some (.cells v.cells.toArray 76 (0,0)):=n1.get;have RZ:=ad gc x1;have e1:=r.gen;have e2:=r.cm;have hg:=rg.gen;have hc:=rg.cm;refine⟨Ext No w1,(Ext.refl _ _).drew,.func (.func 52) #[] #[],uS RZ rfl,v.gen,uS g1 rfl,Ar.u64 (by omega) ⟨v.cm,cq g1 rfl,v.wr,cq g1 rfl,ag.mk fun b2 w2 n2=>⟨(Ext.refl No w1).drew.no n2.ext,?_⟩⟩⟩;have rl:Rd w2.heap ⟨some ⟨b2,0,none⟩,2,2⟩ 1 ([v.gen,v.cm].map (Value.int .u64)):=(aT.new (sz:=1) (n:=2) n2 rfl (by simp[aN])).rd;have gS:Ext No w1 w2:=(Ext.refl No w1).drew.no n2.ext;refine nP (l:=⟨some ⟨b2,0,none⟩,2,2⟩) (rC rl (by simp;omega) (by simp) (by simp) fun t w3 r3 jT x3=>⟨gS.no x3,?_⟩);have eE:=gS.no x3;have hwr:=cZ.len r.wr.rd
 refine Fj ((r.wr.no x1).no eE).rd (by omega) fun t2 w4 o4 x4=>⟨eE.no x4,?_⟩
 have l4:=aU.len o4;have l3:=cZ.len r3
 have n3:(iS [v.gen,v.cm]).length<=20:=by
  have h1:=bO (n:=v.gen.toNat) (by omega);have h2:=bO (n:=v.cm.toNat) (by omega);simp[iS];omega
 have n4:=bO (n:=x.wr.length) (by omega);have bC:0 < (numB x.wr.length).length:=List.length_pos_iff.2 (T7 _);rw[List.length_append]at l4
 refine EC (r3.no x4) o4.rd (by omega) (by omega) fun s' w5 o5 x5=>⟨(eE.no x4).no x5,k s' w5 ?_ (((x1.no eE).no x4).no x5)⟩
 have e:iS [v.gen,v.cm]++(numB x.wr.length++x.wr)=eC x:=by simp[iS,eC,textB,e1,e2]
 rw[e]at o5;have z:=((x1.no eE).no x4).size;exact o5.mono z
theorem HF{s:Sl}{l:List cW}{cb:Nat}{K:Sl->Pw}(rl:ei Q w.heap s l)(hr:∀x∈l,qQ x/\x.wr.length<=1000)(hl:l.length<=1000)(gc:w.heap[cb]? = some (.cells [.func (.func 52) #[] #[]].toArray 114 (0,0)))
  (k:∀o ps w',aT w'.heap w.heap.size 23 1 o (XU ps)->(∀p∈ps,tD (fun q=>w.heap.size<=q/\o.aq≠some q) w'.heap p.1 p.2)->ps.map Prod.snd=l.map eC->Ext No w w'->K o w'):a_ s (.func (.func 59) #[] #[.pointer (some ⟨cb,0,none⟩)]) w K:=by
 apply mY;have JF:=rl.len
 refine⟨fun m out t w'=>∃(j:Nat) (ps:List (Sl×List Int)),t=j/\j<=l.length/\m=l.length - j/\aT w'.heap w.heap.size 23 1 out (XU ps)/\(∀p∈ps,tD (fun q=>w.heap.size<=q/\out.aq≠some q) w'.heap p.1 p.2)/\ps.map Prod.snd=(l.take j).map eC/\Ext No w w',
  ⟨_,0,[],rfl,Nat.zero_le _,rfl,aT.nil _ _ _ _,by simp,by simp,Ext.refl _ _⟩,?_⟩
 rintro _ m0 out _ w1 ⟨j,ps,rfl,hj,rfl,o1,hp,xW,x1⟩;have ZT:ps.length=j:=by have:=congrArg List.length xW;simp at this;omega
 refine If.dec (fun h=>?_) fun h=>?_
 .refine AZ (rl.no x1) (by omega) h fun b o v hi Eb hc=>?_
  have fh:j < l.length:=hi;have el:l[((j:Nat):Int).toNat]'hi=l[j]:=rfl;rw[el]at Eb;have hx:=hr _ (List.getElem_mem fh);have z1:=x1.size;refine⟨_,hc 0 _ rfl,_,hc 1 _ rfl,_,hc 2 _ rfl,ag.mk fun b1 w2 n2=>⟨rfl,jB.all n2.get rfl v.one fun w3 g3 x3 _=>?_⟩⟩;have Mv:Ext (·=b1) w2 w3:=x3;have gE:=n2.at_;have z2:=n2.size;have z3:=Mv.size;have eE:Ext No w1 w3:=n2.ext.trans Mv fun q hq h=>by omega
  have gp:=x1.no eE;refine⟨_,Cell.ai g3 rfl,_,Cell.ai g3 rfl,_,Cell.ai g3 rfl,Cf (Dc (Eb.no eE) hx.1 hx.2 (ad gc gp) fun r w4 o4 x4=>ag.mk fun b2 w5 n5=>?_)⟩;have z4:=x4.size;have gH:=eE.no x4;refine NL (m:=eC l[j]) (o1.no gH) (fun p sK=>(hp p sK).no gH) (.own o4 fun q h1 _=>⟨by omega,fun h=>by have:=(o1.lt h).2;omega⟩) n5 (by omega) (by omega) fun s' w6 o6 hp6 x6=>Ar.i64 (by omega) ⟨_,by omega,j+1,_,by omega,by omega,rfl,o6,hp6,?_,?_⟩
  .rw[fX fh,List.map_append,List.map_append,xW];rfl
  .exact(x1.no gH).trans x6 fun q hq h=>by have:=(o1.lt h).1;omega
 .have Fm:j=l.length:=by omega
  rw[Fm,List.take_length]at xW;exact k out ps w1 o1 hp xW x1
end
end Go.Proofs.YtpjbalhhlaofmaaGreat
namespace Go.V
open Go.V.Pk
theorem R0(x:aA):gh x=iS [x.aI,x.aw]++(textB x.mark++(iS [x.root.p,x.root.c,x.root.g,x.lev,((x.held.length:Nat):Int)]++(x.held.map eC).flatten)):=by
 simp[gh,iS,List.flatMap]
end Go.V
namespace Go.Proofs.YtpjbalhhlaofmaaGreat
open Go.V Go.V.Pk
section
variable {w:Wd} {Q:Nat->Prop}
theorem Mw{w0:Wd}{vh rA rB:Sl}{x:aA}{cb b4:Nat}{A B:List Int}{K:Sl->Int->Pw}(x0:Ext No w0 w)(gc:w.heap[cb]? = some (.cells [.func (.func 52) #[] #[]].toArray 114 (0,0)))(rh:ei Q w.heap vh x.held)(rg:AY x)(hh:∀h∈x.held,h.wr.length<=1000)(hl:x.held.length<=2)
  (ra:cZ w.heap rA A) (rb:cZ w.heap rB B) (hA:A.length<=1000) (hB:B.length<=1000) (g4:w.heap[b4]? = some (.cells ([x.root.p,x.root.c,x.root.g,x.lev,((x.held.length:Nat):Int)].map (Value.int .u64)).toArray 25 (0,0)))
  (k:∀t w',aU w'.heap w.heap.size t (A++(B++(iS [x.root.p,x.root.c,x.root.g,x.lev,((x.held.length:Nat):Int)]++(x.held.map eC).flatten)))->Ext No w0 w'->K t 0 w') :
  aC pz false (.func (.func 52) #[] #[]) [.slice (some (Addr.mk b4 0 none)) 5 5] [.one (.sl)] (fun OJ dg=>
   Ext No w0 dg/\
   a_ vh (.func (.func 59) #[] #[.pointer (some (Addr.mk cb 0 none))]) dg fun VN eG=>
   Ext No w0 eG/\
   eM VN ⟨none,0,0⟩ eG fun K1 cX=>
   Ext No w0 cX/\
   ag cX (.cells [.slice rA.a rA.len rA.cap,.slice rB.a rB.len rB.cap,.slice OJ.a OJ.len OJ.cap,.slice K1.a K1.len K1.cap].toArray 23) fun VV c_=>
   Ext No w0 c_/\
   aR ⟨some (Addr.mk VV 0 none),4,4⟩ c_ fun Tw dU=>
   Ext No w0 dU/\
   K Tw 0 dU) cf w:=by
 have ok:=rg.root;have lv:=rg.lev
 have rl:Rd w.heap ⟨some ⟨b4,0,none⟩,5,5⟩ 1 ([x.root.p,x.root.c,x.root.g,x.lev,((x.held.length:Nat):Int)].map (Value.int .u64)):=
  (⟨rfl,.inr ⟨b4,[],rfl,Nat.zero_le _,by simpa using g4,rfl,Nat.le_refl _⟩,by simp[aN]⟩ : aT w.heap 0 25 1 ⟨some ⟨b4,0,none⟩,5,5⟩ _).rd
 have sI:∀y∈[x.root.p,x.root.c,x.root.g,x.lev,((x.held.length:Nat):Int)],0<=y/\y<=18446744073709551615:=by
  intro y hy;simp only[List.mem_cons,List.not_mem_nil,or_false]at hy;obtain⟨h1,h2,h3⟩:=ok;rcases hy with rfl | rfl | rfl | rfl | rfl <;> omega
 refine nP (l:=⟨some ⟨b4,0,none⟩,5,5⟩) (rC rl sI (by simp) (by simp) fun t w1 r1 _ x1=>⟨x0.no x1,?_⟩)
 refine HF (rh.no x1) (fun h hm=>⟨rg.held h hm,hh h hm⟩) (by omega) (ad gc x1) fun o ps w2 o2 hp xW x2=>⟨(x0.no x1).no x2,?_⟩
 have ZT:ps.length=x.held.length:=by have:=congrArg List.length xW;simpa using this
 have Pd:cat ps=(x.held.map eC).flatten:=by unfold cat;rw[xW]
 have ss:∀(l:List cW),(∀h∈l,qQ h/\h.wr.length<=1000)->((l.map eC).flatten).length<=l.length * 1030:=fun l=>by
  induction l with
  | nil=>simp
  | cons h l ih=>
   intro hm;have h1:=ih fun y hy=>hm y (List.mem_cons_of_mem _ hy)
   have h2:=hm h List.mem_cons_self;have h3:=Pe h2.1 h2.2;simp only[List.map_cons,List.flatten_cons,List.length_append,List.length_cons]at h1 ⊢;omega
 have hc:=ss x.held fun h hm=>⟨rg.held h hm,hh h hm⟩
 refine Db o2.rd (fun p sK=>(hp p sK).rd) (by rw[Pd];omega) (by omega) fun t2 w3 r3 _ _ x3=>⟨((x0.no x1).no x2).no x3,ag.mk fun b5 w4 n4=>⟨(((x0.no x1).no x2).no x3).no n4.ext,?_⟩⟩
 have gH:=((x1.no x2).no x3).no n4.ext;have sf:=(x2.no x3).no n4.ext;have n5:=bO (n:=x.root.p.toNat) (by have:=ok.1;omega)
 have hn:(iS [x.root.p,x.root.c,x.root.g,x.lev,((x.held.length:Nat):Int)]).length<=50:=by
  have h1:=bO (n:=x.root.p.toNat) (by have:=ok.1;omega);have h2:=bO (n:=x.root.c.toNat) (by have:=ok.2.1;omega);have h3:=bO (n:=x.root.g.toNat) (by have:=ok.2.2;omega);have h4:=bO (n:=x.lev.toNat) (by omega);have h5:=bO (n:=((x.held.length:Nat):Int).toNat) (by omega);simp only[iS,List.map_cons,List.map_nil,List.flatten_cons,List.flatten_nil,List.length_append,List.length_nil];omega
 let P:List (Sl×List Int):=[(rA,A),(rB,B),(t,iS [x.root.p,x.root.c,x.root.g,x.lev,((x.held.length:Nat):Int)]),(t2,cat ps)]
 have rP:Rd w4.heap ⟨some ⟨b5,0,none⟩,4,4⟩ 1 (P.map fun p=>p.1.v):=(aT.new (sz:=1) (n:=4) n4 rfl (by simp[aN])).rd
 refine tC (ps:=P) rP (fun p sK=>?_) ?_ (by simp[P]) fun s w5 o5 x5=>⟨(((((x0.no x1).no x2).no x3).no n4.ext)).no x5,k s w5 ?_ ((((((x0.no x1).no x2).no x3).no n4.ext)).no x5)⟩
 .simp only[P,List.mem_cons,List.not_mem_nil,or_false]at sK;rcases sK with rfl | rfl | rfl | rfl
  .exact ra.no gH
  .exact rb.no gH
  .exact r1.no sf
  .exact r3.no n4.ext
 .have e:((P.map Prod.snd).flatten).length=A.length+(B.length+((iS [x.root.p,x.root.c,x.root.g,x.lev,((x.held.length:Nat):Int)]).length+(cat ps).length)):=by
   simp only[P,List.map_cons,List.map_nil,List.flatten_cons,List.flatten_nil,List.length_append,List.length_nil,Nat.add_zero]
  rw[e,Pd];omega
 .have e:(P.map Prod.snd).flatten=A++(B++(iS [x.root.p,x.root.c,x.root.g,x.lev,((x.held.length:Nat):Int)]++(x.held.map eC).flatten)):=by
   simp only[P,List.map_cons,List.map_nil,List.flatten_cons,List.flatten_nil,List.append_nil,Pd]
  rw[e]at o5;exact o5.mono gH.size
set_option maxHeartbeats 2000000 in
theorem Dd{v:bh}{x:aA}{K:Sl->Int->Pw}(r:bV Q w.heap v x)(rg:AY x)(hl:x.held.length<=1000000000000)
  (k2:∀w',¬ qd x->Ext No w w'->K ⟨none,0,0⟩ 2 w') (k0:∀t w',qd x->aU w'.heap w.heap.size t (gh x)->Ext No w w'->K t 0 w'):eK v.ah v.aI v.mark v.root.p v.root.c v.root.g v.lev v.aw v.held w K:=by
 apply He;refine ag.mk fun b w1 n1=>?_
 have g1:w1.heap[b]? = some (.cells v.cells.toArray 33 (0,0)):=n1.get;have x1:=n1.ext;refine⟨v.ah,Cell.ai g1 rfl,v.aI,Cell.ai g1 rfl,v.mark,Cell.ai g1 rfl,v.root.p,Cell.ai g1 rfl,v.root.c,Cell.ai g1 rfl,v.root.g,Cell.ai g1 rfl,v.lev,Cell.ai g1 rfl,v.aw,Cell.ai g1 rfl,v.held,Cell.ai g1 rfl,Q5 (r.no x1) rg.held hl fun t w2 ht x2=>If.not (If.cases (fun h=>?_) fun h=>k2 w2 (fun m=>by rw[ht.2 m]at h;cases h) (x1.no x2))⟩;have may:=ht.1 h;have hZ:=x1.no x2;have g2:=ad g1 x2;refine⟨_,Cell.ai g2 rfl,_,Cell.ai g2 rfl,_,Cell.ai g2 rfl,_,Cell.ai g2 rfl,ag.mk fun b1 w3 n3=>⟨rfl,jB.all n3.get rfl (by simp[aN]) fun w4 g4 x4 _=>ag.mk fun b2 w5 n5=>aF.mk n5.get (by simp) rfl fun w6 h6=>?_⟩⟩;have gE:=n3.at_;have z3:=n3.size;have lO:=n5.at_;have z5:=n5.size;have EB:Ext (·=b1) w3 w4:=x4;have z4:=EB.size;have x6:Ext (·=b2) w5 w6:=h6.ext;have sf:Ext No w2 w4:=n3.ext.trans EB fun q hq h=>by omega
 have uX:Ext No w2 w6:=(sf.no n5.ext).trans x6 fun q hq h=>by have:=sf.size;omega
 have AX:=hZ.no uX;have Mx:=ad g2 uX;have gr6:w6.heap[b1]? = some (.cells [.int .u32 v.root.p,.int .u64 v.root.c,.int .u16 v.root.g,.int .u8 v.lev].toArray 30 (0,0)):=af (ad g4 n5.ext) x6 (by have:=sf.size;omega);have gc6:w6.heap[b2]? = some (.cells [.func (.func 52) #[] #[]].toArray 114 (0,0)):=h6.get n5.get;have e1:=r.aI;have e2:=r.aw;have e4:=r.root;have e5:=r.lev;have lh:=r.held.len;have lm:=cZ.len r.mark.rd;have ok:=rg.root;have lv:=rg.lev;obtain⟨m1,m2,m3,m4,m5,m6,m7,m8⟩:=may;have JR:x.held.length<=2:=by rcases m8 with⟨a,h,_⟩ | ⟨a,c,h,_⟩ <;> rw[h] <;> simp
 have hh:∀y∈x.held,y.wr.length<=1000:=fun y hy=>by
  rcases m8 with⟨a,h,h1⟩ | ⟨a,c,h,h1,h2,_⟩ <;> rw[h]at hy <;> simp at hy
  .rw[hy];omega
  .rcases hy with e | e <;> rw[e] <;> omega
 have xd:Ext No w6 (aa w6):=(Ext.refl _ _).drew;obtain⟨k1,k3,k4⟩:=ok;refine⟨Ext No w6,xd,.func (.func 52) #[] #[],uS gc6 rfl,v.aI,cq Mx rfl,Ar.u64 (by omega) ⟨v.aw,cq Mx rfl,Ar.u64 (by omega) ⟨v.mark,cq Mx rfl,.func (.func 52) #[] #[],uS gc6 rfl,v.root.p,uS gr6 rfl,Ar.u64 (by rw[e4];omega) ⟨v.root.c,cq gr6 rfl,v.root.g,cq gr6 rfl,Ar.u64 (by rw[e4];omega) ⟨v.lev,cq gr6 rfl,Ar.u64 (by omega) ⟨v.held,cq Mx rfl,Ar.u64 (by omega) ⟨v.held,cq Mx rfl,?_⟩⟩⟩⟩⟩⟩⟩;have e5l:[v.root.p,v.root.c,v.root.g,v.lev,((v.held.len:Nat):Int)]=[x.root.p,x.root.c,x.root.g,x.lev,((x.held.length:Nat):Int)]:=by rw[e4,e5,lh]
 have e2l:[v.aI,v.aw]=[x.aI,x.aw]:=by rw[e1,e2]
 have adW:∀y∈[v.aI,v.aw],0<=y/\y<=18446744073709551615:=by
  intro y hy;simp only[List.mem_cons,List.not_mem_nil,or_false]at hy;rcases hy with rfl | rfl <;> omega
 have n2:(iS [x.aI,x.aw]).length<=1000:=by
  have h1:=bO (n:=x.aI.toNat) (by omega);have h2:=bO (n:=x.aw.toNat) (by omega);simp only[iS,List.map_cons,List.map_nil,List.flatten_cons,List.flatten_nil,List.length_append,List.length_nil];omega
 have nm:(numB x.mark.length++x.mark).length<=1000:=by
  have:=bO (n:=x.mark.length) (by omega);rw[List.length_append];omega
 -- the two parts adX the adY agA
 have XV:∀{w7:Wd}{b3:Nat}{K':Sl->Pw},Ext No w6 w7->w7.heap[b3]? = some (.cells ([v.aI,v.aw].map (Value.int .u64)).toArray 25 (0,0))->(∀t w',cZ w'.heap t (iS [x.aI,x.aw])->Ext No w7 w'->K' t w')->
   aC pz false (.func (.func 52) #[] #[]) [.slice (some (Addr.mk b3 0 none)) 2 2] [.one (.sl)] K' cf w7:=fun {w7 b3 K'} x7 g7 k'=>by
  have rl:Rd w7.heap ⟨some ⟨b3,0,none⟩,2,2⟩ 1 ([v.aI,v.aw].map (Value.int .u64)):=
   (⟨rfl,.inr ⟨b3,[],rfl,Nat.zero_le _,by simpa using g7,rfl,Nat.le_refl _⟩,by simp[aN]⟩ : aT w7.heap 0 25 1 ⟨some ⟨b3,0,none⟩,2,2⟩ _).rd
  exact nP (l:=⟨some ⟨b3,0,none⟩,2,2⟩) (rC rl adW (by simp) (by simp) fun t w8 r8 _ x8=>k' t w8 (by rw[<- e2l];exact r8) x8)
 have text:∀{w7:Wd}{K':Sl->Pw},Ext No w6 w7->(∀t w',cZ w'.heap t (numB x.mark.length++x.mark)->Ext No w7 w'->K' t w')->fK v.mark w7 K':=fun {w7 K'} x7 k' =>
  Fj (r.mark.no (AX.no x7)).rd (by omega) fun t w8 o8 x8=>k' t w8 o8.rd x8
 have fin:∀{w7:Wd}{rA rB:Sl}{b4:Nat},Ext No w6 w7->w7.heap[b4]? = some (.cells ([v.root.p,v.root.c,v.root.g,v.lev,((v.held.len:Nat):Int)].map (Value.int .u64)).toArray 25 (0,0))->cZ w7.heap rA (iS [x.aI,x.aw])->cZ w7.heap rB (numB x.mark.length++x.mark)->_:=fun {w7 rA rB b4} x7 g7 ra rb=>
  Mw (Q:=Q) (w0:=w6) (K:=K) x7 (ad gc6 x7) (r.held.no (AX.no x7)) rg hh JR ra rb n2 nm (by rw[<- e5l];exact g7) fun t w' o' x'=>k0 t w' ⟨m1,m2,m3,m4,m5,m6,m7,m8⟩ (by rw[R0];exact o'.mono (AX.no x7).size) (AX.no x')
 refine⟨?_,?_⟩
 .refine ag.mk fun b3 w7 n7=>?_
  have x7:=xd.no n7.ext;refine⟨x7,XV x7 n7.get fun rA w8 ZU x8=>?_,?_⟩
  .have TI:=x7.no x8;refine⟨TI,text TI fun rB w9 XW x9=>⟨TI.no x9,ag.mk fun b4 dA mH=>⟨(TI.no x9).no mH.ext,?_⟩⟩,ag.mk fun b6 oS ZV=>⟨TI.no ZV.ext,text (TI.no ZV.ext) fun rB hU XW uW=>⟨(TI.no ZV.ext).no uW,?_⟩⟩⟩
   .exact fin ((TI.no x9).no mH.ext) mH.get ((ZU.no x9).no mH.ext) (XW.no mH.ext)
   .exact fin ((TI.no ZV.ext).no uW) (ad ZV.get uW) ((ZU.no ZV.ext).no uW) XW
  .refine ag.mk fun b8 xY Rr=>?_
   have mJ:=x7.no Rr.ext;refine⟨mJ,XV mJ (ad n7.get Rr.ext) fun rA CH ZU sf=>⟨mJ.no sf,text (mJ.no sf) fun rB fM XW vM=>⟨(mJ.no sf).no vM,?_⟩⟩⟩;exact fin ((mJ.no sf).no vM) (ad (ad Rr.get sf) vM) (ZU.no vM) XW
 .refine ag.mk fun b10 Tv V7=>?_
  have x31:=xd.no V7.ext;refine⟨x31,ag.mk fun b11 OG n32=>?_⟩;have R_:=x31.no n32.ext;refine⟨R_,XV R_ n32.get fun rA w33 ZU x33=>⟨R_.no x33,text (R_.no x33) fun rB qT XW Bn=>⟨(R_.no x33).no Bn,?_⟩⟩⟩;exact fin ((R_.no x33).no Bn) (ad (ad (ad V7.get n32.ext) x33) Bn) (ZU.no Bn) XW
end
end Go.Proofs.YtpjbalhhlaofmaaGreat
namespace Go.V
open Go.V.Pk Go.Proofs.YtpjbalhhlaofmaaGreat
abbrev V8:Type:=Int->Int->Sl->Int->Int->Int->Int->Int->Sl->Int->Pw
abbrev V8.at(K:V8)(v:bh)(e:Int)(w:Wd):Prop:=K v.ah v.aI v.mark v.root.p v.root.c v.root.g v.lev v.aw v.held e w
structure Good(t:Int)(l:List Int)(x:aA):Prop where
 may:qd x
 sI:AY x
 ah:x.ah=t
 form:gh x=l
theorem De{l:List Int}{a:Nat}{p rest:List Int}(h:l.drop a=p++rest):l.drop (a+p.length)=rest:=by
 rw[<- List.drop_drop,h,List.drop_left]
theorem UK{l:List Int}{a:Nat}{p rest:List Int}(ha:a<=l.length)(h:l.drop a=p++rest):a+p.length<=l.length:=by
 have:=congrArg List.length h;rw[List.length_drop,List.length_append]at this;omega
theorem UL{l rest:List Int}{a n:Nat}(h:l.drop a=numB n++rest)(hn:n < 18446744073709551616):dM l a 0=((n:Int),a+(numB n).length,0)/\l.drop (a+(numB n).length)=rest:=by
 refine⟨?_,De h⟩;unfold dM;rw[h,xu hn];simp
theorem Kh{l rest t:List Int}{a:Nat}{most:Int}(ha:a<=l.length)(h:l.drop a=textB t++rest)(ht:(t.length:Int)<=most)(hm:most<=1000000):gg most l a 0=(t,a+(textB t).length,0)/\l.drop (a+(textB t).length)=rest:=by
 refine⟨?_,De h⟩;have hle:=UK ha h;have h':l.drop a=numB t.length++(t++rest):=by rw[h];unfold textB;rw[List.append_assoc]
 have h2:=De h';unfold gg;rw[h',xu (by omega)];unfold textB at hle ⊢;rw[List.length_append]at hle ⊢;simp only;rw[if_neg (by simp),if_neg (by simp),if_neg (by omega),if_neg (by omega),h2,Int.toNat_natCast,List.take_left,Nat.add_assoc]
theorem Df{l:List Int}{a:Nat}{f:Int}(h8:B8 l):0<=(dM l a f).1/\(dM l a f).1<=18446744073709551615:=by
 unfold dM;split
 .exact⟨by simp,by simp⟩
 .split
  .exact⟨by simp,by simp⟩
  .rename_i h;obtain⟨m,h1,_,_,_,h2⟩:=Nf (l.drop a) 0 0 (h8.drop a) (Classical.byContradiction fun c=>h c);have:=h2 (by omega);simp only[Nat.pow_zero,Nat.mul_one]at this;rw[h1];simp only[Int.pow_zero];omega
theorem FL{l:List Int}{a:Nat}{f most:Int}(h8:B8 l)(hm:0<=most):B8 (gg most l a f).1/\((gg most l a f).1.length:Int)<=most:=by
 have nil:B8 ([]:List Int)/\((([]:List Int).length:Nat):Int)<=most:=⟨fun x hx=>(by cases hx),by simpa using hm⟩
 unfold gg;split
 .exact nil
 .dsimp only;split
  .exact nil
  .split
   .exact nil
   .split
    .exact nil
    .rename_i h1 h2 h3;refine⟨fun x hx=>h8 x (List.mem_of_mem_drop (List.mem_of_mem_take hx)),?_⟩;dsimp only;rw[List.length_take];omega
end Go.V
namespace Go.Proofs.YtpjbalhhlaofmaaGreat
open Go.V Go.V.Pk
section
variable {w:Wd} {Q:Nat->Prop} {rb:Nat} {rs:Sl} {l:List Int} {a:Nat} {f:Int}
theorem jq{most:Int}{cb:Nat}{K:Int->Pw}(hm:0<=most/\most<=4294967295)(gb:w.heap[cb]? = some (.cells [.pointer (some ⟨rb,0,none⟩)].toArray 70 (0,0)))(r:sR w.heap rb rs l a f)
  (k:∀z w',sR w'.heap rb rs l (dM l a f).2.1 (dM l a f).2.2->0<=z->z<=most+1->((dM l a f).1<=most->z=(dM l a f).1)->Ext (·=rb) w w'->w'.heap.size=w.heap.size->K z w'):pn most ⟨cb,0,none⟩ w K:=by
 apply Ei;have rg:=Df (a:=a) (f:=f) r.sI;refine⟨_,Cell.ai gb rfl,nV r fun w1 r1 x1 z1=>If.dec (fun h=>Ar.u64 (by omega) (k _ w1 r1 (by omega) (by omega) (fun h'=>by omega) x1 z1)) fun h=>k _ w1 r1 (by omega) (by omega) (fun _=>rfl) x1 z1⟩
def Sa(b1 b2 b3:Nat)(b:Sl)(w9:Wd)(K:V8):Prop:=
 aC pz true (.func (.func 33) #[] #[.pointer (some (Addr.mk b2 0 none))]) [.int .u64 4294967295] [.one (.int .u64)] (fun VN dA=>
 Ar .u32 VN fun Tx=>
 ∃sE:Option Addr,Cell dA (Addr.mk b2 0 none) (.pointer sE)/\
 aV sE dA fun K1 dg=>
 aC pz true (.func (.func 33) #[] #[.pointer (some (Addr.mk b2 0 none))]) [.int .u64 65535] [.one (.int .u64)] (fun Tw eG=>
 Ar .u16 Tw fun Tz=>
 List.length (α:=Value) (iY Tx K1 Tz)=3/\jB eG ((Addr.mk b3 0 none).add 3) (iY Tx K1 Tz) fun cX=>
 aC pz true (.func (.func 33) #[] #[.pointer (some (Addr.mk b2 0 none))]) [.int .u64 255] [.one (.int .u64)] (fun Rc c_=>
 Ar .u8 Rc fun Us=>
 aF c_ (((Addr.mk b3 0 none).add 3).add 3) (.int .u8 Us) fun dU=>
 aC pz true (.func (.func 33) #[] #[.pointer (some (Addr.mk b2 0 none))]) [.int .u64 2] [.one (.int .u64)] (fun r_8 oS=>
 Nm (gT r_8 2) fun Uo=>
 ∃I0:Nat->Int->Pw,(∃m,I0 m 0 oS)/\∀(_:Env)(m0:Nat)(t:Int)(hU:Wd),I0 m0 t hU->
 If (decide (t < Uo)) (
 ∃S:Pw,S (aa hU)/\
 ∃vj:Sl,ae S ((Addr.mk b3 0 none).add 8) vj.u/\
 ∃Cr:Option Addr,ae S (Addr.mk b2 0 none) (.pointer Cr)/\
 ∃Rh:Option Addr,ae S (Addr.mk b2 0 none) (.pointer Rh)/\
 aC pz false (.func (.func 33) #[] #[.pointer (some (Addr.mk b2 0 none))]) [.int .u64 65535] [.one (.int .u64)] (fun r_9 vK=>
 S vK/\
 Ar .u16 r_9 fun Xq=>
 aV Cr vK fun adZ yX=>
 S yX/\
 aX Rh 32 yX fun ad0 pG=>
 S pG/\
 ag pG (.cells (Ec Xq adZ ad0).toArray 76) fun ZW xD=>
 S xD/\
 bz pz 31 31 vj (.slice (some (Addr.mk ZW 0 none)) 1 1) (fun s py=>
 S py/\
 aF py ((Addr.mk b3 0 none).add 8) s.u fun xY=>
 Ar .u64 (t+1) fun z_7=>
 ∃m1,m1 < m0/\I0 m1 z_7 xY) xD) cf ((aa hU))) (
 ∃Ri:Option Addr,Cell hU (Addr.mk b2 0 none) (.pointer Ri)/\
 cR Ri hU fun r0 _r1_1 CH=>
 If (r0 != 0) (
 List.length (α:=Value) (fZ 0 0 0 0 0 0 0)=9/\jB CH (Addr.mk b1 0 none) (fZ 0 0 0 0 0 0 0) fun fM=>
 ∃c:Int,Cell fM (Addr.mk b1 0 none) (.int .u32 c)/\
 ∃lk:Int,Cell fM ((Addr.mk b1 0 none).add 1) (.int .i64 lk)/\
 ∃jC:Sl,Cell fM ((Addr.mk b1 0 none).add 2) jC.u/\
 ∃r_:Int,Cell fM ((Addr.mk b1 0 none).add 3) (.int .u32 r_)/\
 ∃sd:Int,Cell fM ((Addr.mk b1 0 none).add 4) (.int .u64 sd)/\
 ∃mq:Int,Cell fM ((Addr.mk b1 0 none).add 5) (.int .u16 mq)/\
 ∃uF:Int,Cell fM ((Addr.mk b1 0 none).add 6) (.int .u8 uF)/\
 ∃se:Int,Cell fM ((Addr.mk b1 0 none).add 7) (.int .i64 se)/\
 ∃ow:Sl,Cell fM ((Addr.mk b1 0 none).add 8) ow.u/\
 K c lk jC r_ sd mq uF se ow 5 fM) (
 ∃Rk:Int,Cell CH (Addr.mk b3 0 none) (.int .u32 Rk)/\
 ∃CJ:Int,Cell CH ((Addr.mk b3 0 none).add 1) (.int .i64 CJ)/\
 ∃vL:Sl,Cell CH ((Addr.mk b3 0 none).add 2) vL.u/\
 ∃Bf:Int,Cell CH ((Addr.mk b3 0 none).add 3) (.int .u32 Bf)/\
 ∃Bg:Int,Cell CH ((Addr.mk b3 0 none).add 4) (.int .u64 Bg)/\
 ∃n_:Int,Cell CH ((Addr.mk b3 0 none).add 5) (.int .u16 n_)/\
 ∃sN:Int,Cell CH ((Addr.mk b3 0 none).add 6) (.int .u8 sN)/\
 ∃tI:Int,Cell CH ((Addr.mk b3 0 none).add 7) (.int .i64 tI)/\
 ∃oc:Sl,Cell CH ((Addr.mk b3 0 none).add 8) oc.u/\
 eK Rk CJ vL Bf Bg n_ sN tI oc CH fun LY LZ Fs=>
 If (LZ != 0) (
 List.length (α:=Value) (fZ 0 0 0 0 0 0 0)=9/\jB Fs (Addr.mk b1 0 none) (fZ 0 0 0 0 0 0 0) fun yY=>
 ∃lz:Int,Cell yY (Addr.mk b1 0 none) (.int .u32 lz)/\
 ∃lC:Int,Cell yY ((Addr.mk b1 0 none).add 1) (.int .i64 lC)/\
 ∃ng:Sl,Cell yY ((Addr.mk b1 0 none).add 2) ng.u/\
 ∃rp:Int,Cell yY ((Addr.mk b1 0 none).add 3) (.int .u32 rp)/\
 ∃xI:Int,Cell yY ((Addr.mk b1 0 none).add 4) (.int .u64 xI)/\
 ∃uJ:Int,Cell yY ((Addr.mk b1 0 none).add 5) (.int .u16 uJ)/\
 ∃wg:Int,Cell yY ((Addr.mk b1 0 none).add 6) (.int .u8 wg)/\
 ∃Dg:Int,Cell yY ((Addr.mk b1 0 none).add 7) (.int .i64 Dg)/\
 ∃Dh:Sl,Cell yY ((Addr.mk b1 0 none).add 8) Dh.u/\
 K lz lC ng rp xI uJ wg Dg Dh 5 yY) (
 fa b LY Fs fun ad1 Bc=>
 If (!ad1) (
 List.length (α:=Value) (fZ 0 0 0 0 0 0 0)=9/\jB Bc (Addr.mk b1 0 none) (fZ 0 0 0 0 0 0 0) fun Bd=>
 ∃wh:Int,Cell Bd (Addr.mk b1 0 none) (.int .u32 wh)/\
 ∃Ki:Int,Cell Bd ((Addr.mk b1 0 none).add 1) (.int .i64 Ki)/\
 ∃Kj:Sl,Cell Bd ((Addr.mk b1 0 none).add 2) Kj.u/\
 ∃Kk:Int,Cell Bd ((Addr.mk b1 0 none).add 3) (.int .u32 Kk)/\
 ∃Kl:Int,Cell Bd ((Addr.mk b1 0 none).add 4) (.int .u64 Kl)/\
 ∃Km:Int,Cell Bd ((Addr.mk b1 0 none).add 5) (.int .u16 Km)/\
 ∃ED:Int,Cell Bd ((Addr.mk b1 0 none).add 6) (.int .u8 ED)/\
 ∃Kn:Int,Cell Bd ((Addr.mk b1 0 none).add 7) (.int .i64 Kn)/\
 ∃Ko:Sl,Cell Bd ((Addr.mk b1 0 none).add 8) Ko.u/\
 K wh Ki Kj Kk Kl Km ED Kn Ko 5 Bd) (
 ∃Di:Int,Cell Bc (Addr.mk b3 0 none) (.int .u32 Di)/\
 ∃HG:Int,Cell Bc ((Addr.mk b3 0 none).add 1) (.int .i64 HG)/\
 ∃HH:Sl,Cell Bc ((Addr.mk b3 0 none).add 2) HH.u/\
 ∃HI:Int,Cell Bc ((Addr.mk b3 0 none).add 3) (.int .u32 HI)/\
 ∃HJ:Int,Cell Bc ((Addr.mk b3 0 none).add 4) (.int .u64 HJ)/\
 ∃HK:Int,Cell Bc ((Addr.mk b3 0 none).add 5) (.int .u16 HK)/\
 ∃Dj:Int,Cell Bc ((Addr.mk b3 0 none).add 6) (.int .u8 Dj)/\
 ∃HL:Int,Cell Bc ((Addr.mk b3 0 none).add 7) (.int .i64 HL)/\
 ∃HM:Sl,Cell Bc ((Addr.mk b3 0 none).add 8) HM.u/\
 List.length (α:=Value) (rJ Di HG HH HI HJ HK Dj HL HM)=9/\jB Bc (Addr.mk b1 0 none) (rJ Di HG HH HI HJ HK Dj HL HM) fun Ba=>
 ∃EE:Int,Cell Ba (Addr.mk b1 0 none) (.int .u32 EE)/\
 ∃wi:Int,Cell Ba ((Addr.mk b1 0 none).add 1) (.int .i64 wi)/\
 ∃HN:Sl,Cell Ba ((Addr.mk b1 0 none).add 2) HN.u/\
 ∃Pf:Int,Cell Ba ((Addr.mk b1 0 none).add 3) (.int .u32 Pf)/\
 ∃Bt:Int,Cell Ba ((Addr.mk b1 0 none).add 4) (.int .u64 Bt)/\
 ∃Sb:Int,Cell Ba ((Addr.mk b1 0 none).add 5) (.int .u16 Sb)/\
 ∃Sc:Int,Cell Ba ((Addr.mk b1 0 none).add 6) (.int .u8 Sc)/\
 ∃Sd:Int,Cell Ba ((Addr.mk b1 0 none).add 7) (.int .i64 Sd)/\
 ∃Se:Sl,Cell Ba ((Addr.mk b1 0 none).add 8) Se.u/\
 K EE wi HN Pf Bt Sb Sc Sd Se 0 Ba))))) cf dU) cf cX) cf dg) cf w9
end
end Go.Proofs.YtpjbalhhlaofmaaGreat
namespace Go.V
open Go.V.Pk Go.Proofs.YtpjbalhhlaofmaaGreat
abbrev rest8(x:aA):List Int:=x.held.flatMap eC
abbrev rest7(x:aA):List Int:=numB x.held.length++rest8 x
abbrev rest6(x:aA):List Int:=numB x.lev.toNat++rest7 x
abbrev rest5(x:aA):List Int:=numB x.root.g.toNat++rest6 x
abbrev rest4(x:aA):List Int:=numB x.root.c.toNat++rest5 x
abbrev rest3(x:aA):List Int:=numB x.root.p.toNat++rest4 x
section
variable {t:Int} {l:List Int} {a:Nat} {f:Int}
theorem rD{n:aA->Nat}{rest:aA->List Int}(tr:∀x,Good t l x->f=0/\l.drop a=numB (n x)++rest x)(hn:∀x,Good t l x->n x < 18446744073709551616) :
  ∀x,Good t l x->(dM l a f).1=n x/\(dM l a f).2.2=0/\l.drop (dM l a f).2.1=rest x:=fun x hx=>by
 obtain⟨hf,hd⟩:=tr x hx;obtain⟨h1,h2⟩:=UL hd (hn x hx);rw[hf,h1];exact⟨rfl,rfl,h2⟩
theorem Good.le{x:aA}(h:Good t l x):0<=x.aI/\x.aI<=1000/\0<=x.aw/\x.aw<=1000/\x.mark.length=16/\1<=x.held.length/\x.held.length<=2/\∀y∈x.held,y.wr.length=32:=by
 obtain⟨m1,m2,m3,m4,m5,m6,m7,m8⟩:=h.may;refine⟨by omega,by omega,by omega,by omega,m4,?_,?_,fun y hy=>?_⟩
 .rcases m8 with⟨a,e,_⟩ | ⟨a,c,e,_⟩ <;> rw[e] <;> simp
 .rcases m8 with⟨a,e,_⟩ | ⟨a,c,e,_⟩ <;> rw[e] <;> simp
 .rcases m8 with⟨a,e,h1⟩ | ⟨a,c,e,h1,h2,_⟩ <;> rw[e]at hy <;> simp at hy
  .rw[hy];exact h1
  .rcases hy with e | e <;> rw[e] <;> assumption
end
end Go.V
namespace Go.Proofs.YtpjbalhhlaofmaaGreat
open Go.V Go.V.Pk
section
variable {w:Wd}
set_option maxHeartbeats 4000000 in
theorem Ph{w0:Wd}{b1 b2 b3 rb:Nat}{rs b:Sl}{l mb:List Int}{a:Nat}{f t z z1:Int}{mk:Sl}{K:V8}(x0:Ext No w0 w)(b1o:w0.heap.size<=b1)(b3o:w0.heap.size<=b3)(rbo:w0.heap.size<=rb)
    (ne:b1≠rb/\b1≠b2/\b1≠b3/\rb≠b2/\rb≠b3/\b2≠b3) (rsn:∀i,rs.aq=some i->i≠b3/\i < w.heap.size) (g1:w.heap[b1]? = some (.cells bt.cells.toArray 33 (0,0))) (g2:w.heap[b2]? = some (.cells [.pointer (some ⟨rb,0,none⟩)].toArray 70 (0,0)))
    (g3:w.heap[b3]? = some (.cells ({ bt with ah:=t,aI:=z,mark:=mk,aw:=z1 }:bh).cells.toArray 33 (0,0))) (r:sR w.heap rb rs l a f) (om:tD (fun q=>w0.heap.size<=q/\q≠b3/\q≠rb/\q≠b1) w.heap mk mb) (rm:B8 mb/\mb.length<=16) (rt:0<=t/\t<=4294967295)
    (hb:cZ w0.heap b l) (hl:l.length<=1000000000)
    (tr:∀x,Good t l x->z=x.aI/\z1=x.aw/\mb=x.mark/\f=0/\l.drop a=rest3 x)
    (k5:∀w',(∀x,¬ Good t l x)->Ext No w0 w'->K.at bt 5 w') (k0:∀v x w',Good t l x->bV (w0.heap.size<=·) w'.heap v x->Ext No w0 w'->K.at v 0 w'):Sa b1 b2 b3 b w K:=by
  obtain⟨n1r,lD,Qq,nr2,TJ,Rr⟩:=ne;have blt:∀{q:Nat}{o:Obj},w.heap[q]? = some o->q < w.heap.size:=fun h=>(Array.getElem?_eq_some_iff.1 h).1
  have l1:=blt g1;have l2:=blt g2;have l3:=blt g3;have lr:rb < w.heap.size:=by obtain⟨T,hT⟩:=r.aq;exact blt hT
  have h8:=r.sI
  let E:Pw:=fun w'=>Ext (fun q=>q=rb∨q=b3) w w'
  have rbE:∀{w' kC},E w'->Ext (·=rb) w' kC->E kC:=fun x y=>Ext.trans x y fun q _ h=> .inl h
  have xw:∀{w'},E w'->Ext No w0 w':=fun x=>x0.trans x fun q hq h=>by omega
  have ZX:∀{w'},E w'->w'.heap[b2]? = some (.cells [.pointer (some ⟨rb,0,none⟩)].toArray 70 (0,0)):=fun x=>af g2 x (by omega)
  have g1E:∀{w'},E w'->w'.heap[b1]? = some (.cells bt.cells.toArray 33 (0,0)):=fun x=>af g1 x (by omega)
  have E0:E w:=Ext.refl _ _;unfold Sa
  -- the agB
  refine fc (jq ⟨by decide,by decide⟩ g2 r fun zp dA r10 p0 p1 p2 dR LS=>Ar.adn ?_);have E10:=rbE E0 dR;have tr1:=rD (n:=fun x=>x.root.p.toNat) (rest:=rest4) (fun x hx=>(tr x hx).2.2.2) fun x hx=>by have:=hx.sI.root.1;omega
  generalize ea1:(dM l a f).2.1=a1 at *;generalize ef1:(dM l a f).2.2=f1 at *;generalize(dM l a f).1=v1 at *
  -- the aE
  refine⟨_,Cell.ai (ZX E10) rfl,nV r10 fun dg r11 fY Re=>?_⟩;have E11:=rbE E10 fY;have rc:=Df (a:=a1) (f:=f1) h8;have tr2:=rD (n:=fun x=>x.root.c.toNat) (rest:=rest5) (fun x hx=>(tr1 x hx).2) fun x hx=>by have:=hx.sI.root.2.1;omega
  generalize ea2:(dM l a1 f1).2.1=a2 at *;generalize ef2:(dM l a1 f1).2.2=f2 at *;generalize(dM l a1 f1).1=cm at *
  -- the generation
  refine fc (jq ⟨by decide,by decide⟩ (ZX E11) r11 fun zg eG V6 q0 q1 q2 gS Ro=>Ar.aaA ?_);have E12:=rbE E11 gS;have tr3:=rD (n:=fun x=>x.root.g.toNat) (rest:=rest6) (fun x hx=>(tr2 x hx).2) fun x hx=>by have:=hx.sI.root.2.2;omega
  generalize ea3:(dM l a2 f2).2.1=a3 at *;generalize ef3:(dM l a2 f2).2.2=f3 at *;generalize(dM l a2 f2).1=v3 at *;have V9:eG.heap[b3]? = some (.cells ({ bt with ah:=t,aI:=z,mark:=mk,aw:=z1 }:bh).cells.toArray 33 (0,0)):=af (af (af g3 dR (Ne.symm TJ)) fY (Ne.symm TJ)) gS (Ne.symm TJ);refine⟨rfl,?_⟩;rw[ay rfl,Nat.zero_add];refine jB.mk (o:=3) V9 (by simp[bh.cells]) (by simp[aN]) fun cX Rn=>?_
  have eE:Ext (·=b3) eG cX:=Rn.ext;have K2:=Rn.size;have E13:E cX:=Ext.trans E12 eE fun q _ h=> .inr h
  let s1:bh:={ bt with ah:=t,aI:=z,mark:=mk,aw:=z1,root:=⟨zp % 4294967296,cm,zg % 65536⟩ }
  have abf:cX.heap[b3]? = some (.cells s1.cells.toArray 33 (0,0)):=Rn.get V9;have r13:sR cX.heap rb rs l a3 f3:=V6.ext eE TJ fun i hi h=>(rsn i hi).1 h
  -- the level
  refine fc (jq ⟨by decide,by decide⟩ (ZX E13) r13 fun zv c_ r14 v0 v1' v2 gH TA=>Ar.T3 ?_);have E14:=rbE E13 gH;have tr4:=rD (n:=fun x=>x.lev.toNat) (rest:=rest7) (fun x hx=>(tr3 x hx).2) fun x hx=>by have:=hx.sI.lev;omega
  generalize ea4:(dM l a3 f3).2.1=a4 at *;generalize ef4:(dM l a3 f3).2.2=f4 at *;generalize(dM l a3 f3).1=v4 at *;have V_:=af abf gH (Ne.symm TJ);rw[ay (a:=Addr.mk b3 0 none) rfl,ay rfl,Nat.zero_add];refine aF.mk V_ (by simp[bh.cells]) rfl fun dU Mb=>?_
  have pH:Ext (·=b3) c_ dU:=Mb.ext;have Xw:=Mb.size;have E15:E dU:=Ext.trans E14 pH fun q _ h=> .inr h
  let s2:bh:={ s1 with lev:=zv % 256 }
  have abg:dU.heap[b3]? = some (.cells s2.cells.toArray 33 (0,0)):=Mb.get V_;have r15:sR dU.heap rb rs l a4 f4:=r14.ext pH TJ fun i hi h=>(rsn i hi).1 h
  -- how many keys
  refine fc (jq ⟨by decide,by decide⟩ (ZX E15) r15 fun zn oS r16 c0 c1 c2 qX z16=>Nm.mk ?_);have E16:=rbE E15 qX;have tr5:=rD (n:=fun x=>x.held.length) (rest:=rest8) (fun x hx=>(tr4 x hx).2) fun x hx=>by have:=hx.le;omega
  generalize ea5:(dM l a4 f4).2.1=a5 at *;generalize ef5:(dM l a4 f4).2.2=f5 at *;generalize(dM l a4 f4).1=v5 at *;have abh:=af abg qX (Ne.symm TJ)
  obtain⟨n,hn⟩ : ∃n:Nat,gT zn 2=n/\n<=2:=⟨(gT zn 2).toNat,by unfold gT;split <;> omega,by unfold gT;split <;> omega⟩
  obtain⟨hn,hn2⟩:=hn
  have hnx:∀x,Good t l x->n=x.held.length:=fun x hx=>by
    have h1:=(tr5 x hx).1;have h2:=hx.le;have h3:=c2 (by omega);have:gT zn 2=zn:=by unfold gT;split <;> omega
    omega
  rw[hn]
  refine ⟨fun m i w'=>∃ (j:Nat) (out:Sl) (L:List (gz×cW)) (a:Nat) (f:Int),i=j/\j<=n/\m=n - j/\L.length=j/\E w'/\w'.heap[b3]? = some (.cells ({ s2 with held:=out }:bh).cells.toArray 33 (0,0))/\aT w'.heap w.heap.size 76 3 out (hC L) /\
      (∀p∈L,gA (fun q=>w.heap.size<=q/\out.aq≠some q) w'.heap p.1 p.2/\qQ p.2/\p.2.wr.length<=32)/\sR w'.heap rb rs l a f/\(∀x,Good t l x->L.map Prod.snd=x.held.take j/\f=0/\l.drop a=(x.held.drop j).flatMap eC),
    ⟨_,0,⟨none,0,0⟩,[],a5,f5,rfl,Nat.zero_le _,rfl,rfl,E16,abh,aT.nil _ _ _ _,by simp,r16,fun x hx=>⟨by simp,(tr5 x hx).2.1,by rw[List.drop_zero];exact(tr5 x hx).2.2⟩⟩,?_⟩
  clear tr5 r16 ea5 ef5;rintro _ m0 _ hU ⟨j,out,L,a6,f6,rfl,hj,rfl,XX,TK,BF,XR,hL,r17,tr6⟩;have z17:=Ext.size TK;have Iw:∀{q:Nat},out.aq=some q->w.heap.size<=q/\q < hU.heap.size:=fun h=>XR.lt h
  refine If.dec (fun Fm=>?_) fun Fm=>?_
  · have abi:j < n:=by omega
    have Wa:=ZX TK;have S0:Ext (fun q=>q=rb∨out.aq=some q) hU (aa hU):=(Ext.refl _ _).drew
    have no3:¬ (b3=rb∨out.aq=some b3):=by
      rintro(h | h)
      · exact TJ h.symm
      · have:=(Iw h).1;omega
    have no2:¬ (b2=rb∨out.aq=some b2):=by
      rintro(h | h)
      · exact nr2 h.symm
      · have:=(Iw h).1;omega
    have xB:ae (Ext (fun q=>q=rb∨out.aq=some q) hU) ((Addr.mk b3 0 none).add 8) (.slice out.a out.len out.cap):=by
      rw[ay rfl,Nat.zero_add];exact ae.dQ (Cell.ai BF rfl) no3
    have lO:ae (Ext (fun q=>q=rb∨out.aq=some q) hU) (Addr.mk b2 0 none) (.pointer (some ⟨rb,0,none⟩)):=ae.dQ (Cell.ai Wa rfl) no2;refine⟨_,S0,out,xB,some ⟨rb,0,none⟩,lO,some ⟨rb,0,none⟩,lO,?_⟩;have rd:sR (aa hU).heap rb rs l a6 f6:=r17.no (Ext.refl _ _).drew;refine fc (jq ⟨by decide,by decide⟩ (w:=aa hU) Wa rd fun zh vK r18 h0 h1 h2 Bh z18=>?_);have S18:Ext (fun q=>q=rb∨out.aq=some q) hU vK:=S0.trans Bh fun q _ h=> .inl h
    have hx0:∀x,Good t l x->x.held.drop j=(x.held.getD j ⟨0,0,[]⟩)::x.held.drop (j+1):=fun x hx=>by
      have fh:j < x.held.length:=by have:=hnx x hx;omega
      rw[List.drop_eq_getElem_cons fh];simp[List.getD,fh]
    have dI:∀x,Good t l x->x.held.getD j ⟨0,0,[]⟩∈x.held:=fun x hx=>by
      have fh:j < x.held.length:=by have:=hnx x hx;omega
      simp[List.getD,fh]
    have tg:=rD (n:=fun x=>(x.held.getD j ⟨0,0,[]⟩).gen.toNat) (rest:=fun x=>numB (x.held.getD j ⟨0,0,[]⟩).cm.toNat++(textB (x.held.getD j ⟨0,0,[]⟩).wr++(x.held.drop (j+1)).flatMap eC)) (fun x hx=>⟨(tr6 x hx).2.1,by
      rw[(tr6 x hx).2.2,hx0 x hx,List.flatMap_cons];have e:(x.held.getD j ⟨0,0,[]⟩::List.drop (j+1) x.held).getD j ⟨0,0,[]⟩=(x.held.getD j ⟨0,0,[]⟩::List.drop (j+1) x.held).getD j ⟨0,0,[]⟩:=rfl
      simp only[eC,List.append_assoc]⟩) fun x hx=>by have:=(hx.sI.held _ (dI x hx)).gen;omega
    generalize ea7:(dM l a6 f6).2.1=a7 at *;generalize ef7:(dM l a6 f6).2.2=f7 at *;generalize(dM l a6 f6).1=v7 at *;refine⟨S18,Ar.aaA (nV r18 fun yX r19 Ev z19=>?_)⟩;have S19:Ext (fun q=>q=rb∨out.aq=some q) hU yX:=S18.trans Ev fun q _ h=> .inl h
    have rc8:=Df (a:=a7) (f:=f7) h8;have tc:=rD (n:=fun x=>(x.held.getD j ⟨0,0,[]⟩).cm.toNat) (rest:=fun x=>textB (x.held.getD j ⟨0,0,[]⟩).wr++(x.held.drop (j+1)).flatMap eC) (fun x hx=>(tg x hx).2) fun x hx=>by have:=(hx.sI.held _ (dI x hx)).cm;omega
    generalize ea8:(dM l a7 f7).2.1=a8 at *;generalize ef8:(dM l a7 f7).2.2=f8 at *;generalize(dM l a7 f7).1=v8 at *;refine⟨S19,rZ (by decide) r19 (by omega) fun tx pG r20 uH ZQ=>?_⟩;have S20:Ext (fun q=>q=rb∨out.aq=some q) hU pG:=S19.trans uH fun q _ h=> .inl h
    have rx:=FL (a:=a8) (f:=f8) (most:=32) h8 (by decide)
    have tt:∀x,Good t l x->(gg 32 l a8 f8).1=(x.held.getD j ⟨0,0,[]⟩).wr/\(gg 32 l a8 f8).2.2=0/\l.drop (gg 32 l a8 f8).2.1=(x.held.drop (j+1)).flatMap eC:=fun x hx=>by
      obtain⟨_,hf,hd⟩:=tc x hx;have h32:=hx.le.2.2.2.2.2.2.2 _ (dI x hx);obtain⟨e1,e2⟩:=Kh (most:=32) r19.le hd (by omega) (by decide);rw[hf,e1];exact⟨rfl,rfl,e2⟩
    generalize ea9:(gg 32 l a8 f8).2.1=a9 at *;generalize ef9:(gg 32 l a8 f8).2.2=f9 at *;generalize(gg 32 l a8 f8).1=wr at *;have y18:=Bh.size;have y19:=Ev.size;have y20:=uH.size;have d18:hU.heap.size<=vK.heap.size:=y18;refine⟨S20,ag.mk fun b4 xD Wb=>?_⟩;have S21:Ext (fun q=>q=rb∨out.aq=some q) hU xD:=S20.trans Wb.ext fun _ _ h=>h.elim
    have Io:=Wb.at_;have z21:=Wb.size
    have o21:aT xD.heap w.heap.size 76 3 out (hC L):=by
      have x:Ext (·=rb) hU xD:=((((Ext.refl (·=rb) hU).drew.trans Bh fun _ _ h=>h).trans Ev fun _ _ h=>h).trans uH fun _ _ h=>h).trans Wb.ext fun _ _ h=>h.elim
      exact XR.ext x fun q hq h=>by have:=(Iw hq).1;omega
    have JO:out.len=L.length:=by
      have:=XR.rd.len;rw[aK (Hu L)]at this;omega
    let hv:gz:=⟨zh % 65536,v8,tx⟩
    let hp:cW:=⟨zh % 65536,v8,wr⟩
    have src:Src pz xD (.slice (some (Addr.mk b4 0 none)) 1 1) 3 1 hv.cells:=(aT.new (sz:=3) (n:=1) Wb rfl hv.one).rd.src;refine⟨S21,xi o21 (by omega) src (by rw[JO];omega) fun s' py o22 _ Mo oR=>?_⟩;have S22:Ext (fun q=>q=rb∨out.aq=some q) hU py:=S21.trans Mo fun q _ h=> .inr h
    have y22:=Mo.size;have xrb:Ext (·=rb) hU xD:=((((Ext.refl (·=rb) hU).drew.trans Bh fun _ _ h=>h).trans Ev fun _ _ h=>h).trans uH fun _ _ h=>h).trans Wb.ext fun _ _ h=>h.elim
    have g22:py.heap[b3]? = some (.cells ({ s2 with held:=out }:bh).cells.toArray 33 (0,0)):=af BF S22 (by
      rintro(h | h)
      · exact TJ h.symm
      · have:=(Iw h).1;omega)
    refine⟨S22,aF.mk g22 (by simp[bh.cells]) rfl fun xY ZY=>?_⟩;have mJ:Ext (·=b3) py xY:=ZY.ext;have z23:=ZY.size
    have E23:E xY:=by
      refine Ext.trans (Ext.trans TK S22 fun q hq h=>?_) mJ fun q _ h=> .inr h
      rcases h with h | h
      · exact .inl h
      · have:=(Iw h).1;omega
    have key:∀{v y},gA (fun q=>w.heap.size<=q/\out.aq≠some q) xD.heap v y->gA (fun q=>w.heap.size<=q/\s'.aq≠some q) xY.heap v y:=fun {v y} h=>by
      have h2:gA (fun q=>w.heap.size<=q/\s'.aq≠some q) py.heap v y:=by
        refine⟨h.gen,h.cm,((h.wr.lt).ext Mo fun q hq h=>hq.1.2 h).mono fun q hq=>⟨hq.1.1,fun h=>?_⟩⟩;rcases oR with h1 | ⟨b',h1,h3⟩
        · exact hq.1.2 (h1 ▸ h)
        · rw[h1]at h;cases h;have:=hq.2;omega
      exact h2.ext mJ fun q hq h=>by have:=hq.1;omega
    refine Ar.u64 (by omega) ⟨n - (j+1),by omega,j+1,s',L++[(hv,hp)],a9,f9,by omega,by omega,rfl,by rw[List.length_append,List.length_singleton,XX],E23,ZY.get g22,?_,fun p sK=>?_,?_,fun x hx=>?_⟩
    · have:aT xY.heap w.heap.size 76 3 s' (hC L++hv.cells):=o22.ext mJ fun q hq h=>by have:=(o22.lt hq).1;omega
      rw[show hC (L++[(hv,hp)])=hC L++hv.cells by simp[hC]];exact this
    · rcases List.mem_append.1 sK with h | h
      · obtain⟨q1,q2,q3⟩:=hL p h;exact⟨key (q1.ext xrb fun q hq h=>by have:=hq.1;omega),q2,q3⟩
      · rw[List.mem_singleton]at h;subst h;refine⟨key ⟨rfl,rfl,.own (ZQ.no Wb.ext) fun q h1 h2=>⟨by omega,fun h=>by have:=(Iw h).2;omega⟩⟩,⟨by show 0<=zh % 65536/\zh % 65536<=65535;omega,rc8,rx.1⟩,?_⟩;show wr.length<=32;omega
    · have r21:=r20.no Wb.ext;have r22:sR py.heap rb rs l a9 f9:=r21.ext Mo (fun h=>by have:=(Iw h).1;omega) fun i hi h=>by have:=(Iw h).1;have:=(rsn i hi).2;omega
      exact r22.ext mJ TJ fun i hi h=>(rsn i hi).1 h
    · obtain⟨t1,t2,t3⟩:=tt x hx;have fh:j < x.held.length:=by have:=hnx x hx;omega
      refine⟨?_,t2,t3⟩;have eg:=(tg x hx).1;have ec:=(tc x hx).1;have hr:=hx.sI.held _ (dI x hx);have hg:=hr.gen;have hc:=hr.cm;have ez:=h2 (by omega);rw[List.map_append,(tr6 x hx).1,fX fh];congr 1;have e:x.held.getD j ⟨0,0,[]⟩=x.held[j]:=by simp[List.getD,fh]
      rw[<- e];simp only[List.map_cons,List.map_nil,List.cons.injEq,and_true];exact cW.ext (by show zh % 65536=_;omega) (by show v8=_;omega) t1
  · have oP:j=n:=by omega
    -- the ZZ
    let hs:=L.map Prod.snd
    let c:aA:=⟨t,z,mb,⟨zp % 4294967296,cm,zg % 65536⟩,zv % 256,z1,hs⟩
    let v:bh:={ s2 with held:=out }
    have hlen:hs.length<=2:=by show(L.map Prod.snd).length<=2;rw[List.length_map];omega
    have cg:∀x,Good t l x->c=x:=fun x hx=>by
      obtain⟨e1,e2,e3,_⟩:=tr x hx;have h5:=(tr1 x hx).1;have h6:=(tr2 x hx).1;have h7:=(tr3 x hx).1;have h9:=(tr4 x hx).1;have ok:=hx.sI.root;have lv:=hx.sI.lev;obtain⟨k1,k2,k3⟩:=ok;have i1:=p2 (by omega);have i3:=q2 (by omega);have i4:=v2 (by omega);refine aA.ext hx.ah.symm e1 e3 ?_ (by show zv % 256=_;omega) e2 ?_
      · show(⟨zp % 4294967296,cm,zg % 65536⟩ : Rf)=x.root;have u1:zp % 4294967296=x.root.p:=by omega
        have u2:cm=x.root.c:=by omega
        have u3:zg % 65536=x.root.g:=by omega
        rw[u1,u2,u3]
      · show L.map Prod.snd=x.held;rw[(tr6 x hx).1,oP,hnx x hx,List.take_length]
    have My:AY c:=⟨rt,rm.1,⟨by show 0<=zp % 4294967296/\zp % 4294967296<=4294967295;omega,rc,by show 0<=zg % 65536/\zg % 65536<=65535;omega⟩,by show 0<=zv % 256/\zv % 256<=255;omega,fun h hm=>by
      obtain⟨p,hp,rfl⟩:=List.mem_map.1 hm;exact(hL p hp).2.1⟩
    have sr:bV (fun q=>w0.heap.size<=q/\q≠b3/\q≠rb/\q≠b1) hU.heap v c:=by
      refine⟨rfl,rfl,om.ext TK fun q hq h=>by omega,rfl,rfl,rfl,L,rfl,XR.rd,fun _ q hq=>?_,fun p hp=>(hL p hp).1.mono fun q hq=>?_⟩
      · have:=(Iw hq).1;have:=x0.size;omega
      · have:=hq.1;have:=x0.size;omega
    have UM:=xw TK
    have zero:∀{w'},Ext No hU w'->(∀ x,¬ Good t l x)->List.length bt.cells=9/\jB w' (Addr.mk b1 0 none) bt.cells fun fM =>
        ∃c:Int,Cell fM (Addr.mk b1 0 none) (.int .u32 c)/\∃lk:Int,Cell fM ((Addr.mk b1 0 none).add 1) (.int .i64 lk)/\∃jC:Sl,Cell fM ((Addr.mk b1 0 none).add 2) (.slice jC.a jC.len jC.cap)/\∃r_:Int,Cell fM ((Addr.mk b1 0 none).add 3) (.int .u32 r_)/\∃sd:Int,Cell fM ((Addr.mk b1 0 none).add 4) (.int .u64 sd)/\∃mq:Int,Cell fM ((Addr.mk b1 0 none).add 5) (.int .u16 mq)/\∃uF:Int,Cell fM ((Addr.mk b1 0 none).add 6) (.int .u8 uF)/\∃se:Int,Cell fM ((Addr.mk b1 0 none).add 7) (.int .i64 se)/\∃ow:Sl,Cell fM ((Addr.mk b1 0 none).add 8) (.slice ow.a ow.len ow.cap)/\K c lk jC r_ sd mq uF se ow 5 fM:=fun {w'} x ad2=>by
      refine⟨rfl,jB.all (ad (g1E TK) x) rfl bt.one fun fM Nu vM _=>?_⟩;have ad3:Ext (·=b1) w' fM:=vM;exact⟨bt.ah,Cell.ai Nu rfl,bt.aI,Cell.ai Nu rfl,bt.mark,Cell.ai Nu rfl,bt.root.p,Cell.ai Nu rfl,bt.root.c,Cell.ai Nu rfl,bt.root.g,Cell.ai Nu rfl,bt.lev,Cell.ai Nu rfl,bt.aw,Cell.ai Nu rfl,bt.held,Cell.ai Nu rfl,k5 fM ad2 ((UM.no x).trans ad3 fun q hq h=>by omega)⟩
    refine⟨_,Cell.ai (ZX TK) rfl,AW r17 fun CH _ sf=>If.bne (fun bC=>zero sf fun x hx=>bC ?_) fun h0=>?_⟩
    · obtain⟨_,hf,hd⟩:=tr6 x hx
      have:l.length<=a6:=by
        rw[oP,hnx x hx,List.drop_length,List.flatMap_nil]at hd;exact List.drop_eq_nil_iff.1 hd
      unfold Cq;rw[if_neg (by omega)];exact hf
    have wB:=ad BF sf;refine⟨v.ah,Cell.ai wB rfl,v.aI,Cell.ai wB rfl,v.mark,Cell.ai wB rfl,v.root.p,Cell.ai wB rfl,v.root.c,Cell.ai wB rfl,v.root.g,Cell.ai wB rfl,v.lev,Cell.ai wB rfl,v.aw,Cell.ai wB rfl,v.held,Cell.ai wB rfl,Dd (sr.no sf) My (by show hs.length<=_;omega) (fun Fs hm uX=>If.bne (fun _=>zero (sf.no uX) fun x hx=>hm (by rw[cg x hx];exact hx.may)) fun h=>absurd h (by decide)) fun tb Fs hm o26 uX=>If.bne (fun h=>absurd rfl h) fun _=>?_⟩;have abj:=(UM.no sf).no uX
    have f8:B8 (gh c):=by
      have tb8:∀{y:List Int},B8 y->B8 (textB y):=fun {y} h z hz=>by
        unfold textB at hz;rcases List.mem_append.1 hz with h1 | h1
        · exact dG _ z h1
        · exact h z h1
      intro y hy;simp only[gh,List.mem_append,List.mem_flatMap,eC]at hy;rcases hy with h | h | h | h | h | h | h | h | ⟨p,hp,h | h | h⟩
      · exact dG _ y h
      · exact dG _ y h
      · exact tb8 My.mark y h
      · exact dG _ y h
      · exact dG _ y h
      · exact dG _ y h
      · exact dG _ y h
      · exact dG _ y h
      · exact dG _ y h
      · exact dG _ y h
      · exact tb8 (My.held p hp).wr y h
    refine JC (hb.no abj) o26.rd h8 f8 (If.not (If.dec (fun he=>?_) fun he=>zero (sf.no uX) fun x hx=>he (by rw[cg x hx];exact hx.form.symm)))
    have ad4:Good t l c:=⟨hm,My,rfl,he.symm⟩
    have NM:=ad wB uX;refine⟨v.ah,Cell.ai NM rfl,v.aI,Cell.ai NM rfl,v.mark,Cell.ai NM rfl,v.root.p,Cell.ai NM rfl,v.root.c,Cell.ai NM rfl,v.root.g,Cell.ai NM rfl,v.lev,Cell.ai NM rfl,v.aw,Cell.ai NM rfl,v.held,Cell.ai NM rfl,rfl,jB.all (ad (g1E TK) (sf.no uX)) rfl v.one fun Ba UN x30 _=>?_⟩;have abk:Ext (·=b1) Fs Ba:=x30;exact⟨v.ah,Cell.ai UN rfl,v.aI,Cell.ai UN rfl,v.mark,Cell.ai UN rfl,v.root.p,Cell.ai UN rfl,v.root.c,Cell.ai UN rfl,v.root.g,Cell.ai UN rfl,v.lev,Cell.ai UN rfl,v.aw,Cell.ai UN rfl,v.held,Cell.ai UN rfl,k0 v c Ba ad4 (((sr.no (sf.no uX)).ext abk fun q hq h=>hq.2.2.2 h).mono fun q hq=>hq.1) (abj.trans abk fun q hq h=>by omega)⟩
end
end Go.Proofs.YtpjbalhhlaofmaaGreat
namespace Go.Proofs.YtpjbalhhlaofmaaGreat
open Go.V Go.V.Pk
section
variable {w:Wd}
set_option maxHeartbeats 4000000 in
theorem FM{t:Int}{b:Sl}{l:List Int}{K:V8}(ht:0<=t/\t<=4294967295)(hb:cZ w.heap b l)(h8:B8 l)(hl:l.length<=1000000000)
  (k5:∀w',(∀x,¬ Good t l x)->Ext No w w'->K.at bt 5 w') (k0:∀v x w',Good t l x->bV (w.heap.size<=·) w'.heap v x->Ext No w w'->K.at v 0 w'):oF t b w K:=by
 apply Jm;refine ag.mk fun b1 w1 n1=>Cv (hb.no n1.ext) h8 (by omega) fun rb rs w2 r2 Nk Wc x2=>ag.mk fun b2 w3 n3=>aF.mk n3.get (by simp) rfl fun w4 h4=>?_
 have e1:=n1.at_;have z1:=n1.size;have z2:=x2.size;have e3:=n3.at_;have z3:=n3.size;have x4:Ext (·=b2) w3 w4:=h4.ext;have z4:=h4.size;have gS:=n1.ext.no x2;have gp:=gS.no n3.ext;have gF:Ext No w w4:=gp.trans x4 fun q hq h=>by omega
 have g1:w4.heap[b1]? = some (.cells bt.cells.toArray 33 (0,0)):=af (ad (ad n1.get x2) n3.ext) x4 (by omega);have g2:w4.heap[b2]? = some (.cells [.pointer (some ⟨rb,0,none⟩)].toArray 70 (0,0)):=h4.get n3.get;have rlt:rb < w2.heap.size:=by obtain⟨T,hT⟩:=r2.aq;exact(Array.getElem?_eq_some_iff.1 hT).1
 have r4:sR w4.heap rb rs l 0 0:=(r2.no n3.ext).ext x4 (by omega) fun i hi h=>by have:=(Wc i hi).2;omega
 let X:Pw:=fun w'=>Ext (·=rb) w4 w'
 have g2X:∀{w'},X w'->w'.heap[b2]? = some (.cells [.pointer (some ⟨rb,0,none⟩)].toArray 70 (0,0)):=fun x=>af g2 x (by omega)
 -- XY is read
 have t1:=rD (t:=t) (l:=l) (a:=0) (f:=0) (n:=fun x=>x.aI.toNat) (rest:=fun x=>numB x.aw.toNat++(textB x.mark++rest3 x)) (fun x hx=>⟨rfl,by rw[List.drop_zero,<- hx.form];rfl⟩) fun x hx=>by have:=hx.le;omega
 generalize ea1:(dM l 0 0).2.1=a1 at *;generalize ef1:(dM l 0 0).2.2=f1 at *;generalize ev1:(dM l 0 0).1=v1 at *;have t2:=rD (n:=fun x=>x.aw.toNat) (rest:=fun x=>textB x.mark++rest3 x) (fun x hx=>(t1 x hx).2) fun x hx=>by have:=hx.le;omega
 generalize ea2:(dM l a1 f1).2.1=a2 at *;generalize ef2:(dM l a1 f1).2.2=f2 at *;generalize ev2:(dM l a1 f1).1=v2 at *
 have t3:a2<=l.length->∀x,Good t l x->(gg 16 l a2 f2).1=x.mark/\(gg 16 l a2 f2).2.2=0/\l.drop (gg 16 l a2 f2).2.1=rest3 x:=fun hle x hx=>by
  obtain⟨_,hf,hd⟩:=t2 x hx;have h16:=hx.le.2.2.2.2.1;obtain⟨e1,e2⟩:=Kh (most:=16) hle hd (by omega) (by decide);rw[hf,e1];exact⟨rfl,rfl,e2⟩
 have rx:=FL (a:=a2) (f:=f2) (most:=16) h8 (by decide);generalize ea3:(gg 16 l a2 f2).2.1=a3 at *;generalize ef3:(gg 16 l a2 f2).2.2=f3 at *;generalize ev3:(gg 16 l a2 f2).1=mb at *
 -- the steps
 have sm1:∀{w7:Wd}{K':Int->Pw},X w7->sR w7.heap rb rs l 0 0->(∀z w',sR w'.heap rb rs l a1 f1->0<=z->z<=1001->(v1<=1000->z=v1)->X w'->Ext (·=rb) w7 w'->K' z w')->aC pz false (.func (.func 33) #[] #[.pointer (some (Addr.mk b2 0 none))]) [.int .u64 1000] [.one (.int .u64)] K' cf w7:=fun {w7 K'} x r k' =>
  fc (jq ⟨by decide,by decide⟩ (g2X x) r fun z w' r' h0 h1 h2 x' _=>k' z w' (by rw[ea1,ef1]at r';exact r') h0 h1 (by rw[ev1]at h2;exact h2) (Ext.trans x x' fun _ _ h=>h) x')
 have sm2:∀{w7:Wd}{K':Int->Pw},X w7->sR w7.heap rb rs l a1 f1->(∀z w',sR w'.heap rb rs l a2 f2->0<=z->z<=1001->(v2<=1000->z=v2)->X w'->Ext (·=rb) w7 w'->K' z w')->aC pz false (.func (.func 33) #[] #[.pointer (some (Addr.mk b2 0 none))]) [.int .u64 1000] [.one (.int .u64)] K' cf w7:=fun {w7 K'} x r k' =>
  fc (jq ⟨by decide,by decide⟩ (g2X x) r fun z w' r' h0 h1 h2 x' _=>k' z w' (by rw[ea2,ef2]at r';exact r') h0 h1 (by rw[ev2]at h2;exact h2) (Ext.trans x x' fun _ _ h=>h) x')
 have tx:∀{w7:Wd}{K':Sl->Pw},X w7->sR w7.heap rb rs l a2 f2->(∀s w',sR w'.heap rb rs l a3 f3->aU w'.heap w7.heap.size s mb->X w'->Ext (·=rb) w7 w'->K' s w')->aX (some ⟨rb,0,none⟩) 16 w7 K':=fun {w7 K'} x r k' =>
  rZ (by decide) r (by omega) fun s w' r' x' o'=>k' s w' (by rw[ea3,ef3]at r';exact r') (by rw[ev3]at o';exact o') (Ext.trans x x' fun _ _ h=>h) x'
 have fin:∀{w8:Wd}{b3:Nat}{s3:Sl}{z z1:Int},X w8->w8.heap[b3]? = some (.cells bt.cells.toArray 33 (0,0))->w4.heap.size<=b3->a2<=l.length->sR w8.heap rb rs l a3 f3->tD (fun q=>w4.heap.size<=q/\q≠b3) w8.heap s3 mb->(v1<=1000->z=v1)->(v2<=1000->z1=v2)->
   List.length (α:=Value) [.int .u32 t,.int .i64 z,.slice s3.a s3.len s3.cap,.int .u32 0,.int .u64 0,.int .u16 0,.int .u8 0,.int .i64 z1,.slice none 0 0]=9/\jB w8 (Addr.mk b3 0 none) [.int .u32 t,.int .i64 z,.slice s3.a s3.len s3.cap,.int .u32 0,.int .u64 0,.int .u16 0,.int .u8 0,.int .i64 z1,.slice none 0 0] fun w9=>X w9/\Sa b1 b2 b3 b w9 K:=fun {w8 b3 s3 z z1} x8 g8 xB hle r8 q8 hz Ol=>by
  refine⟨rfl,jB.all g8 rfl ({ bt with ah:=t,aI:=z,mark:=s3,aw:=z1 }:bh).one fun w9 g9 x9 _=>?_⟩;have Bk:Ext (·=b3) w8 w9:=x9;have Fw:X w9:=Ext.trans x8 Bk fun q hq h=>by omega
  have y9:=Ext.size Fw;have Mz:Ext No w w9:=gF.trans Fw fun q hq h=>by omega
  refine⟨Fw,Ph (mb:=mb) (a:=a3) (f:=f3) (rs:=rs) Mz (by omega) (by have:=gF.size;omega) (by have:=n1.ext.size;omega) ⟨by omega,by omega,by omega,by omega,by omega,by omega⟩ (fun i hi=>by have:=(Wc i hi).2;exact⟨by omega,by omega⟩) (af g1 Fw (by omega)) (g2X Fw) g9 (r8.ext Bk (by omega) fun i hi h=>by have:=(Wc i hi).2;omega) ((q8.ext Bk fun q hq h=>hq.2 h).mono fun q hq=>⟨by have:=gF.size;omega,hq.2,by omega,by omega⟩) ⟨rx.1,by have:=rx.2;omega⟩ ht hb hl (fun x hx=>?_) k5 k0⟩;obtain⟨u1,_,_⟩:=t1 x hx;obtain⟨u2,_,_⟩:=t2 x hx;obtain⟨u3,u4,u5⟩:=t3 hle x hx;have hx2:=hx.le;have c1:=hz (by omega);have c2:=Ol (by omega);exact⟨by omega,by omega,u3,u4,u5⟩
 have Xd:X (aa w4):=(Ext.refl (·=rb) w4).drew;have rd:sR (aa w4).heap rb rs l 0 0:=r4.no (Ext.refl _ _).drew;refine⟨X,Xd,some ⟨rb,0,none⟩,ae.dQ (Cell.ai g2 rfl) (by show ¬ b2=rb;omega),⟨?_,?_⟩⟩
 .refine sm1 Xd rd fun z w5 r5 z0 zm zv x5 _=>⟨x5,Ar.i64 (by omega) ⟨?_,?_⟩⟩
  .refine sm2 x5 r5 fun z1 w6 r6 y0 ym yv x6 _=>⟨x6,Ar.i64 (by omega) ⟨?_,?_⟩⟩
   .refine tx x6 r6 fun s3 w7 r7 o7 x7 _=>⟨x7,ag.mk fun b3 w8 n8=>?_⟩
    have x8:X w8:=Ext.trans x7 n8.ext fun _ _ h=>h.elim
    have:=n8.at_;have:=Ext.size x7;have:=Ext.size x6;refine⟨x8,fin x8 n8.get (by omega) r6.le (r7.no n8.ext) ((tD.own o7 fun q h1 h2=>⟨by omega,by omega⟩).no n8.ext) zv yv⟩
   .refine ag.mk fun b3 Tv V7=>?_
    have x31:X Tv:=Ext.trans x6 V7.ext fun _ _ h=>h.elim
    have:=V7.at_;have:=V7.size;have:=Ext.size x6;refine⟨x31,tx x31 (r6.no V7.ext) fun s3 OG r32 o32 R_ y32=>⟨R_,fin R_ (af V7.get y32 (by omega)) (by omega) r6.le r32 (tD.own o32 fun q h1 h2=>⟨by omega,by omega⟩) zv yv⟩⟩
  .refine ag.mk fun b3 w55 n55=>?_
   have x55:X w55:=Ext.trans x5 n55.ext fun _ _ h=>h.elim
   have:=n55.at_;have:=n55.size;have:=Ext.size x5;refine⟨x55,sm2 x55 (r5.no n55.ext) fun z1 w56 r56 y0 ym yv xN y56=>⟨xN,Ar.i64 (by omega) (tx xN r56 fun s3 w57 r57 o57 FI y57=>⟨FI,fin FI (af (af n55.get y56 (by omega)) y57 (by omega)) (by omega) r56.le r57 (tD.own o57 fun q h1 h2=>⟨by have:=y56.size;omega,by have:=y56.size;omega⟩) zv yv⟩)⟩⟩
 .refine ag.mk fun b3 w80 n80=>?_
  have x80:X w80:=Ext.trans Xd n80.ext fun _ _ h=>h.elim
  have e80:=n80.at_;have z80:=n80.size;have e4:(aa w4).heap.size=w4.heap.size:=rfl;refine⟨x80,sm1 x80 (rd.no n80.ext) fun z w81 r81 z0 zm zv x81 y81=>⟨x81,Ar.i64 (by omega) (sm2 x81 r81 fun z1 w82 r82 y0 ym yv x82 y82=>⟨x82,Ar.i64 (by omega) (tx x82 r82 fun s3 w83 r83 o83 x83 y83=>⟨x83,fin x83 (af (af (af n80.get y81 (by omega)) y82 (by omega)) y83 (by omega)) (by omega) r82.le r83 (tD.own o83 fun q h1 h2=>⟨by have:=y81.size;have:=y82.size;omega,by have:=y81.size;have:=y82.size;omega⟩) zv yv⟩)⟩)⟩⟩
end
end Go.Proofs.YtpjbalhhlaofmaaGreat
namespace Go.Proofs.YtpjbalhhlaofmaaGreat
open Go.V Go.V.Pk
section
variable {w:Wd} {Q:Nat->Prop}
end
end Go.Proofs.YtpjbalhhlaofmaaGreat
namespace Go.Proofs.YtpjbalhhlaofmaaGreat
open Go.V Go.V.Pk
section
variable {w:Wd}
theorem aF.cl{b j:Nat}{cs:List Value}{T:TypeId}{v:Value}{K:Pw}(hb:w.heap[b]? = some (.cells cs.toArray T (0,0)))(ho:j < cs.length)(hv:aN v=true)
  (k:∀w',gI w b (.cells (cs.set j v).toArray T (0,0)) w'->K w'):aF w ((Addr.mk b 0 none).add j) v K:=by
 rw[ay rfl,Nat.zero_add];exact aF.mk hb ho hv k
theorem Dl{c:aA}(My:AY c):B8 (gh c):=by
 have tb8:∀{y:List Int},B8 y->B8 (textB y):=fun {y} h z hz=>by
  unfold textB at hz;rcases List.mem_append.1 hz with h1 | h1
  .exact dG _ z h1
  .exact h z h1
 intro y hy;simp only[gh,List.mem_append,List.mem_flatMap,eC]at hy;rcases hy with h | h | h | h | h | h | h | h | ⟨p,hp,h | h | h⟩
 .exact dG _ y h
 .exact dG _ y h
 .exact tb8 My.mark y h
 .exact dG _ y h
 .exact dG _ y h
 .exact dG _ y h
 .exact dG _ y h
 .exact dG _ y h
 .exact dG _ y h
 .exact dG _ y h
 .exact tb8 (My.held p hp).wr y h
end
end Go.Proofs.YtpjbalhhlaofmaaGreat
namespace Go.V
open Go.Proofs.YtpjbalhhlaofmaaGreat
abbrev Z0:Type:=Int->Int->Sl->Int->Int->Int->Int->Int->Sl->Pw
abbrev Z0.at(K:Z0)(v:bh)(w:Wd):Prop:=K v.ah v.aI v.mark v.root.p v.root.c v.root.g v.lev v.aw v.held w
def SmS(x:aA):Prop:=x.mark.length<=5000/\x.held.length<=5000/\∀h∈x.held,h.wr.length<=140737488351232
end Go.V
namespace Go.Proofs.YtpjbalhhlaofmaaGreat
open Go.V Go.V.Pk
section
variable {w:Wd} {Q:Nat->Prop}
theorem Kp{b:Nat}{w1:Wd}{s':Sl}{l:List Int}{K:Sl->Pw}(n:D_ w (.cells ([]:List Value).toArray 5) b w1)(r:cZ w1.heap s' l)(hn:l.length<=140737488351232)
  (k:∀s w',aU w'.heap w.heap.size s l->Ext No w w'->K s w'):bz pz 23 23 ⟨some ⟨b,0,none⟩,0,0⟩ (.slice s'.a s'.len s'.cap) K w1:=by
 have hb:=n.at_;have hz:=n.size
 have o:aT w1.heap w.heap.size 5 1 ⟨some ⟨b,0,none⟩,0,0⟩ []:=⟨rfl,.inr ⟨b,[],rfl,by omega,n.get,rfl,Nat.le_refl _⟩,by simp⟩
 have hl:s'.len=l.length:=cZ.len r;refine fu o (by omega) r.src (by simp only;omega) fun s w' o' _ x _=>k s w' (by rw[List.nil_append]at o';exact o') (n.ext.trans x fun q hq h=>by simp[Sl.aq]at h;omega)
set_option maxHeartbeats 4000000 in
theorem FN{v:bh}{x:aA}{K:Z0}(r:bV Q w.heap v x)(sm:SmS x)(k:∀u w',bV (w.heap.size<=·) w'.heap u x->aU w'.heap w.heap.size u.mark x.mark->Ext No w w'->K.at u w'):mS v.ah v.aI v.mark v.root.p v.root.c v.root.g v.lev v.aw v.held w K:=by
  obtain⟨sm1,sm2,sm3⟩:=sm;apply Hk;refine ag.mk fun b w1 n1=>ag.mk fun b1 w2 n2=>?_
  have g2:w2.heap[b]? = some (.cells v.cells.toArray 33 (0,0)):=ad n1.get n2.ext;refine⟨v.ah,Cell.ai g2 rfl,v.aI,Cell.ai g2 rfl,v.mark,Cell.ai g2 rfl,v.root.p,Cell.ai g2 rfl,v.root.c,Cell.ai g2 rfl,v.root.g,Cell.ai g2 rfl,v.lev,Cell.ai g2 rfl,v.aw,Cell.ai g2 rfl,v.held,Cell.ai g2 rfl,ag.mk fun b2 w3 n3=>⟨rfl,jB.all n3.get rfl v.one fun w4 g4 x4 z4=>ag.mk fun b3 w5 n5=>?_⟩⟩;have e1:=n1.at_;have z1:=n1.size;have e2:=n2.at_;have z2:=n2.size;have e3:=n3.at_;have z3:=n3.size;have z5:=n5.size;have EB:Ext (·=b2) w3 w4:=x4;have gF:Ext No w w4:=((n1.ext.no n2.ext).no n3.ext).trans EB fun q hq h=>by omega
  have UO:w5.heap[b]? = some (.cells v.cells.toArray 33 (0,0)):=ad (af (ad g2 n3.ext) EB (by omega)) n5.ext;have gb1:w4.heap[b1]? = some (.cells bt.cells.toArray 33 (0,0)):=af (ad n2.get n3.ext) EB (by omega);refine⟨v.mark,Cell.ai UO rfl,Kp n5 (r.mark.no (gF.no n5.ext)).rd (by omega) fun s6 w6 o6 x6=>?_⟩;have z6:=x6.size;refine aF.cl (ad g4 x6) (by simp) rfl fun w7 h7=>?_
  have x7:Ext (·=b2) w6 w7:=h7.ext;have g7:w7.heap[b2]? = some (.cells ({ v with mark:=s6 }:bh).cells.toArray 33 (0,0)):=h7.get (ad g4 x6);refine aF.cl g7 (by simp[bh.cells]) rfl fun w8 h8=>?_
  have x8:Ext (·=b2) w7 w8:=h8.ext
  let s1:bh:={ v with mark:=s6 }
  have g8:w8.heap[b2]? = some (.cells ({ s1 with held:=⟨none,0,0⟩ }:bh).cells.toArray 33 (0,0)):=h8.get g7;have K4:Ext (·=b2) w4 w8:=(x6.aG.trans x7 fun _ _ h=>h).trans x8 fun _ _ h=>h
  have z8:=K4.size;have qq:Ext No w w8:=gF.trans K4 fun q hq h=>by omega
  have om:aU w8.heap w4.heap.size s6 x.mark:=(o6.ext x7 fun q hq h=>by have:=(o6.lt hq).1;omega).ext x8 fun q hq h=>by have:=(o6.lt hq).1;omega
  have lh:=r.held.len
  let E:Pw:=fun w'=>Ext (·=b2) w8 w'
  have gbE:∀{w'},E w'->w'.heap[b]? = some (.cells v.cells.toArray 33 (0,0)):=fun x=>af (af (af (ad g2 n3.ext) EB (by omega)) K4 (by omega)) x (by omega)
  have ad5:∀{w'},E w'->w'.heap[b1]? = some (.cells bt.cells.toArray 33 (0,0)):=fun x=>af (af gb1 K4 (by omega)) x (by omega)
  have xw:∀{w'},E w'->Ext No w w':=fun x=>qq.trans x fun q hq h=>by omega
  refine ⟨fun m i w'=>∃ (j:Nat) (out:Sl) (L:List (gz×cW)),i=j/\j<=x.held.length/\m=x.held.length - j/\L.map Prod.snd=x.held.take j/\E w'/\w'.heap[b2]? = some (.cells ({ s1 with held:=out }:bh).cells.toArray 33 (0,0))/\aT w'.heap w8.heap.size 76 3 out (hC L) /\
      (∀p∈L,gA (fun q=>w8.heap.size<=q/\out.aq≠some q) w'.heap p.1 p.2),
    ⟨_,0,⟨none,0,0⟩,[],rfl,Nat.zero_le _,rfl,by simp,Ext.refl _ _,g8,aT.nil _ _ _ _,by simp⟩,?_⟩
  rintro _ m0 _ w9 ⟨j,out,L,rfl,hj,rfl,hL,E9,g9,o9,hLr⟩;have z9:=Ext.size E9;have Iw:∀{q:Nat},out.aq=some q->w8.heap.size<=q/\q < w9.heap.size:=fun h=>o9.lt h
  refine⟨v.held,Cell.ai (gbE E9) rfl,If.dec (fun Fm=>?_) fun Fm=>?_⟩
  · have fh:j < x.held.length:=by omega
    refine⟨v.held,Cell.ai (gbE E9) rfl,AZ (r.held.no (xw E9)) (by omega) Fm fun b' o' u hi hu hc=>⟨u.gen,hc 0 _ rfl,u.cm,hc 1 _ rfl,u.wr,hc 2 _ rfl,?_⟩⟩;have el:x.held[((j:Nat):Int).toNat]'hi=x.held[j]:=rfl;rw[el]at hu;have jw:=sm3 _ (List.getElem_mem fh)
    refine ag.mk fun b4 dA mH=>⟨rfl,jB.all mH.get rfl u.one fun dg Ir fY Re=>ag.mk fun b5 eG lD=>⟨u.wr,Cell.ai (ad Ir lD.ext) rfl,?_⟩⟩
    have e10:=mH.at_;have LS:=mH.size;have HO:Ext (·=b4) dA dg:=fY;have Bb:Ext No w9 dg:=mH.ext.trans HO fun q hq h=>by omega
    refine Kp lD ((hu.wr.no Bb).no lD.ext).rd jw fun s13 cX Bi eE=>?_
    have K2:=eE.size;refine aF.cl (ad Ir eE) (by simp) rfl fun c_ V4=>?_
    have gH:Ext (·=b4) cX c_:=V4.ext;have TA:=V4.size
    let hv:gz:={ u with wr:=s13 }
    let hp:cW:=x.held[j]
    have kM:c_.heap[b4]? = some (.cells hv.cells.toArray 76 (0,0)):=V4.get (ad Ir eE);have abl:Ext No w9 c_:=(Bb.no eE).trans gH fun q hq h=>by omega
    have ad6:=ad g9 abl;refine⟨out,Cell.ai ad6 rfl,hv.gen,Cell.ai kM rfl,hv.cm,Cell.ai kM rfl,hv.wr,Cell.ai kM rfl,ag.mk fun b6 dU NB=>?_⟩;have Sf:Ext No w9 dU:=abl.no NB.ext;have Xw:=Sf.size
    have JO:out.len=L.length:=by
      have:=o9.rd.len;rw[aK (Hu L)]at this;omega
    have XX:L.length=j:=by
      have:=congrArg List.length hL;rw[List.length_map,List.length_take]at this;omega
    have src:Src pz dU (.slice (some (Addr.mk b6 0 none)) 1 1) 3 1 hv.cells:=(aT.new (sz:=3) (n:=1) NB rfl hv.one).rd.src;refine xi (o9.ext Sf fun q hq h=>h) (by omega) src (by rw[JO];omega) fun s' oS RS _ qX oR=>?_
    have z16:=qX.size;have wj:oS.heap[b2]? = some (.cells ({ s1 with held:=out }:bh).cells.toArray 33 (0,0)):=af (ad g9 Sf) qX fun h=>by have:=(Iw h).1;omega
    refine aF.cl wj (by simp[bh.cells]) rfl fun hU K3=>?_
    have uW:Ext (·=b2) oS hU:=K3.ext;have z17:=K3.size;have TK:E hU:=Ext.trans (Ext.trans (Ext.no E9 Sf) qX fun q hq h=>by have:=(Iw h).1;omega) uW fun _ _ h=>h
    have key:∀{v y},gA (fun q=>w8.heap.size<=q/\out.aq≠some q) dU.heap v y->gA (fun q=>w8.heap.size<=q/\s'.aq≠some q) hU.heap v y:=fun {v y} h=>by
      have h2:gA (fun q=>w8.heap.size<=q/\s'.aq≠some q) oS.heap v y:=by
        refine⟨h.gen,h.cm,((h.wr.lt).ext qX fun q hq h=>hq.1.2 h).mono fun q hq=>⟨hq.1.1,fun h=>?_⟩⟩;rcases oR with h1 | ⟨b',h1,h3⟩
        · exact hq.1.2 (h1 ▸ h)
        · rw[h1]at h;cases h;have:=hq.2;omega
      exact h2.ext uW fun q hq h=>by have:=hq.1;omega
    refine Ar.i64 (by omega) ⟨x.held.length - (j+1),by omega,j+1,s',L++[(hv,hp)],by omega,by omega,rfl,?_,TK,K3.get wj,?_,fun p sK=>?_⟩
    · rw[List.map_append,hL,fX fh];rfl
    · have:aT hU.heap w8.heap.size 76 3 s' (hC L++hv.cells):=RS.ext uW fun q hq h=>by have:=(RS.lt hq).1;omega
      rw[show hC (L++[(hv,hp)])=hC L++hv.cells by simp[hC]];exact this
    · rcases List.mem_append.1 sK with h | h
      · exact key ((hLr p h).no Sf)
      · rw[List.mem_singleton]at h;subst h;exact key ⟨hu.gen,hu.cm,.own ((Bi.ext gH fun q hq h=>by have:=(Bi.lt hq).1;omega).no NB.ext) fun q h1 h2=>⟨by have:=Bb.size;omega,fun h=>by have:=(Iw h).2;have:=Bb.size;omega⟩⟩
  · have abi:j=x.held.length:=by omega
    let u:bh:={ s1 with held:=out }
    have om9:=om.ext E9 fun q hq h=>by have:=(om.lt hq).1;omega
    have sr:bV (w4.heap.size<=·) w9.heap u x:=⟨r.ah,r.aI,.own om9 fun q h1 _=>h1,r.root,r.lev,r.aw,L,by rw[hL,abi,List.take_length],o9.rd,fun _ q hq=>by have:=(Iw hq).1;show w4.heap.size<=q;omega,fun p hp=>(hLr p hp).mono fun q hq=>by have:=hq.1;show w4.heap.size<=q;omega⟩
    refine⟨u.ah,Cell.ai g9 rfl,u.aI,Cell.ai g9 rfl,u.mark,Cell.ai g9 rfl,u.root.p,Cell.ai g9 rfl,u.root.c,Cell.ai g9 rfl,u.root.g,Cell.ai g9 rfl,u.lev,Cell.ai g9 rfl,u.aw,Cell.ai g9 rfl,u.held,Cell.ai g9 rfl,rfl,jB.all (ad5 E9) rfl u.one fun vK vN Bh _=>?_⟩;have Rp:Ext (·=b1) w9 vK:=Bh;exact⟨u.ah,Cell.ai vN rfl,u.aI,Cell.ai vN rfl,u.mark,Cell.ai vN rfl,u.root.p,Cell.ai vN rfl,u.root.c,Cell.ai vN rfl,u.root.g,Cell.ai vN rfl,u.lev,Cell.ai vN rfl,u.aw,Cell.ai vN rfl,u.held,Cell.ai vN rfl,k u vK ((sr.ext Rp fun q hq h=>by omega).mono fun q hq=>by show w.heap.size<=q;omega) ((om9.ext Rp fun q hq h=>by have:=(om9.lt hq).1;omega).mono (by omega)) ((xw E9).trans Rp fun q hq h=>by omega)⟩
theorem MA{v:bh}{x:aA}{K:Bool->Pw}(r:bV Q w.heap v x)(hm:x.mark.length<=140737488355328)(hh:x.held.length<=140737488355328)(hw:∀h∈x.held,h.wr.length<=140737488351232)(k:∀t w',(t=false->SmS x)->Ext No w w'->K t w'):pf v.ah v.aI v.mark v.root.p v.root.c v.root.g v.lev v.aw v.held w K:=by
 apply El;refine ag.mk fun b w1 n1=>?_
 have g1:w1.heap[b]? = some (.cells v.cells.toArray 33 (0,0)):=n1.get;have lm:=cZ.len r.mark.rd;have lh:=r.held.len;refine⟨v.mark,Cell.ai g1 rfl,v.held,Cell.ai g1 rfl,Ar.i64 (by omega) ?_⟩
 have fin:∀{n:Int},(v.mark.len:Int)+v.held.len<=n->K (decide (n > 5000)) w1:=fun {n} hn=>k _ w1 (fun h=>by
  have:=of_decide_eq_false h
  exact⟨by omega,by omega,hw⟩) n1.ext
 refine⟨fun m n i w'=>w1=w'/\∃j:Nat,i=j/\m=100 - j/\j<=100/\(v.mark.len:Int)+v.held.len<=n/\n<=(v.mark.len:Int)+v.held.len+j * 140737488351232,⟨_,rfl,0,rfl,rfl,by omega,by omega,by omega⟩,?_⟩;rintro _ m0 n _ _ ⟨rfl,j,rfl,rfl,hj,h1,h2⟩;refine⟨fun w'=>w1=w'/\j < 100/\j < v.held.len,⟨v.held,Cell.ai g1 rfl,If.dec (fun h=>If.dec (fun h'=>⟨rfl,by omega,by omega⟩) fun _=>fin h1) fun _=>fin h1⟩,?_⟩;rintro _ _ ⟨rfl,RW,Im⟩;refine⟨v.held,Cell.ai g1 rfl,AZ (r.held.no n1.ext) (by omega) (by omega) fun b' o' u hi hu hc=>⟨u.wr,hc 2 _ rfl,?_⟩⟩;have hl:=hw _ (List.getElem_mem hi);have hlu:=cZ.len hu.wr.rd;exact Ar.i64 (by omega) (Ar.i64 (by omega) ⟨_,by omega,rfl,j+1,by omega,rfl,by omega,by omega,by omega⟩)
end
end Go.Proofs.YtpjbalhhlaofmaaGreat
