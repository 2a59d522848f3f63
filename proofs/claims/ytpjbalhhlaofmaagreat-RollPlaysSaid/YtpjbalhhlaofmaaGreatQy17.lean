/- Texts for LRollPlays, part 17. -/
import Derived.Test.YtpjbalhhlaofmaaGreatQy16
set_option maxRecDepth 100000
namespace Go.V
structure An where
 t:Int
 k:Int
 v:Int
 r:Rf
def An.cs(x:An):List Value:=[.int .u32 x.t,.int .u8 x.k,.int .u8 x.v,.int .u32 x.r.p,.int .u64 x.r.c,.int .u16 x.r.g]
theorem Gf(l:List An):∀x∈l,(An.cs x).length=6:=fun _ _=>rfl
abbrev An.agg(x:An):Value:= .agg ([.int .u32 x.t,.int .u8 x.k,.int .u8 x.v,.int .u32 x.r.p,.int .u64 x.r.c,.int .u16 x.r.g]).toArray
def xQ(bo base:Nat)(ls:List An)(w:Wd)(B:Nat->Prop):Prop:=
 ∃(sl:Sl),w.heap[bo]? = some (.cells [.slice sl.a sl.len sl.cap].toArray 130 (0,0))/\aT w.heap base 126 6 sl (ls.flatMap An.cs)/\(bo < base/\base<=w.heap.size)/\(∀q,B q ↔ q=bo∨sl.aq=some q)
theorem xQ.mono{bo base:Nat}{ls:List An}{w1 w2:Wd}{B S:Nat->Prop}(h:xQ bo base ls w1 B)(x:Ext S w1 w2)(hS:∀q,B q->¬ S q):xQ bo base ls w2 B:=by
 obtain⟨sl,h1,h2,h3,h4⟩:=h;exact⟨sl,Go.Proofs.YtpjbalhhlaofmaaGreat.af h1 x (hS _ ((h4 _).2 (.inl rfl))),h2.ext x (fun q hq=>hS _ ((h4 _).2 (.inr hq))),⟨h3.1,Nat.le_trans h3.2 x.size⟩,h4⟩
theorem xQ.lt{bo base:Nat}{ls:List An}{w1:Wd}{B:Nat->Prop}(h:xQ bo base ls w1 B){q:Nat}(hq:B q):q < w1.heap.size:=by
 obtain⟨sl,h1,h2,h3,h4⟩:=h;rcases(h4 q).1 hq with h | h
 .omega
 .exact(h2.lt h).2
def WE(f:bH)(t:Int)(lev:Nat)(l:List aH)(kvs:List KV)(ps:List Rf):Prop:=(lev=0/\cM f t l kvs ps)∨∃lv,lev=lv+1/\aM (bu f t lv) l kvs ps
end Go.V
namespace Go.Proofs.YtpjbalhhlaofmaaGreat
open Go.V
section
variable {w:Wd} {T:Nat->Option Nat} {m:bB} {M:Mm}
theorem _root_.Go.V.bu.opens{f:bH}{t:Int}{lev:Nat}{r:Rf}{kvs:List KV}{ps:List Rf}(h:bu f t lev r kvs ps):∃l cU,mI f t (bE lev) lev r l/\l≠[]/\WE f t lev l kvs cU/\ps=r::cU:=by
 cases lev with
 | zero=>
  obtain⟨l,cU,a,b,c,d⟩:=h;exact⟨l,cU,a,b,.inl ⟨rfl,c⟩,d⟩
 | succ lv=>
  obtain⟨l,cU,a,b,c,d⟩:=h;refine⟨l,cU,?_,by intro h;rw[h]at b;simp at b,.inr ⟨lv,rfl,c⟩,d⟩;unfold bE;rw[if_neg (by omega)];exact a
theorem xQ.step{bo base:Nat}{ls:List An}{w1:Wd}{B:Nat->Prop}{x:An}{K':Pw}(hl:ls.length<=1000000)(h:xQ bo base ls w1 B)
  (k:∀w' B',xQ bo base (ls++[x]) w' B'->Ext B w1 w'->(∀q,B' q->B q∨w1.heap.size<=q/\q < w'.heap.size)->K' w') :
  aC pz true (.func (.func 94) #[] #[.pointer (some (A1 bo))]) [x.agg] [] K' cf w1:=by
 obtain⟨sl,h1,h2,h3,h6⟩:=h;refine AP (c0:=A1 bo) (AO ?_)
 refine ag.mk fun b w2 n2=>⟨_,Cell.ai (ad h1 n2.ext) rfl,_,Cell.ai n2.get rfl,_,Cell.ai n2.get rfl,_,Cell.ai n2.get rfl,_,Cell.ai n2.get rfl,_,Cell.ai n2.get rfl,_,Cell.ai n2.get rfl,ag.mk fun b1 w3 n3=>?_⟩
 have x3:=n2.ext.no n3.ext;have z2:=n2.size;have z3:=n3.size;have o3:=h2.no x3;have e3:aT w3.heap w2.heap.size 126 6 ⟨some ⟨b1,0,none⟩,1,1⟩ x.cs:=aT.new (n:=1) (sz:=6) n3 rfl (by simp[aN,An.cs]);have JF:sl.len=ls.length:=by have:=h2.len;rw[aK (Gf _)]at this;omega
 have Qo:∀q,sl.aq=some q->B q:=fun q hq=>(h6 q).2 (.inr hq)
 have ON:B bo:=(h6 bo).2 (.inl rfl);have nbv:sl.aq≠some bo:=fun h=>by have:=(h2.lt h).1;omega
 refine Eo o3 (by omega) e3.rd.src (by simp only;omega) fun s' w4 o4 _ x4 oR=>?_
 have y4:=x4.size
 have Uy:∀q,s'.aq=some q->B q∨w1.heap.size<=q/\q < w4.heap.size:=fun q hq=>by
  rcases oR with h | ⟨c,h,hc⟩
  .exact .inl (Qo q (h ▸ hq))
  .rw[h]at hq;cases hq;exact .inr ⟨by omega,(o4.lt h).2⟩
 have g4:=af (ad h1 x3) x4 nbv;refine aF.b1 g4 rfl fun w5 OO=>?_
 have z5:=OO.size;have x5:Ext (·=bo) w4 w5:=OO.ext;have pH:Ext B w1 w5:=((x3.aG).trans x4 fun q _ hq=>Qo q hq).trans x5 fun q _ hq=>by rw[hq];exact ON
 refine k w5 (fun q=>q=bo∨s'.aq=some q) ⟨s',OO.get g4,?_,⟨h3.1,by have:=pH.size;omega⟩,fun q=>Iff.rfl⟩ pH fun q hq=>?_
 .rw[List.flatMap_append];have:[x].flatMap An.cs=x.cs:=by simp
  rw[this];refine o4.ext x5 fun q hq e=>?_
  have:=(o4.lt hq).1;omega
 .rcases hq with h | h
  .rw[h];exact .inl ON
  .rcases Uy q h with h | h
   .exact .inl h
   .exact .inr ⟨h.1,by omega⟩
def KQ(bs bg bo base:Nat)(t:Int)(ls:List An)(cs:List (Rf×List Int))(j:Nat)(w:Wd)(B:Nat->Prop):Prop:=
 ∃B0,xQ bo base (ls++(cs.take j).map fun c=>⟨t,3,0,c.1⟩) w B0/\w.heap[bs]? = some (.cells [.func (.func 94) #[] #[.pointer (some (A1 bo))]].toArray 172 (0,0))/\w.heap[bg]? = some (.cells [eW m,.int .u32 t].toArray 107 (0,0))/\(∀q,B q ↔ B0 q∨q=bs∨q=bg)/\¬ B0 bs/\¬ B0 bg
theorem KQ.mono{bs bg bo base:Nat}{t:Int}{ls:List An}{cs:List (Rf×List Int)}{j:Nat}{w1 w2:Wd}{B S:Nat->Prop}(h:KQ (m:=m) bs bg bo base t ls cs j w1 B)(x:Ext S w1 w2)(hS:∀q,B q->¬ S q):KQ (m:=m) bs bg bo base t ls cs j w2 B:=by
 obtain⟨B0,h1,h2,h3,h4,h5,h6⟩:=h;exact⟨B0,h1.mono x fun q hq=>hS q ((h4 q).2 (.inl hq)),af h2 x (hS _ ((h4 _).2 (.inr (.inl rfl)))),af h3 x (hS _ ((h4 _).2 (.inr (.inr rfl)))),h4,h5,h6⟩
theorem KQ.step{bs bg bo base:Nat}{t:Int}{ls:List An}{cs:List (Rf×List Int)}{j:Nat}{w1:Wd}{B:Nat->Prop}{s:Sl}{K':Pw}(hl:ls.length+cs.length<=1000000)(hj:j < cs.length)(h:KQ (m:=m) bs bg bo base t ls cs j w1 B)
  (k:∀w' B',KQ (m:=m) bs bg bo base t ls cs (j+1) w' B'->Ext B w1 w'->(∀q,B' q->B q∨w1.heap.size<=q/\q < w'.heap.size)->K' w') :
  aC pz true (.func (.func 122) #[] #[.pointer (some (A1 bs)),.pointer (some (A1 bg))]) [.agg ([.int .u32 cs[j].1.p,.int .u64 cs[j].1.c,.int .u16 cs[j].1.g]).toArray,.slice s.a s.len s.cap] [] K' cf w1:=by
 obtain⟨B0,h1,h2,h3,h4,h5,h6⟩:=h;refine uC (c0:=A1 bs) (c1:=A1 bg) (uB ?_)
 refine ag.mk fun b w2 n2=>⟨_,Cell.ai (ad h2 n2.ext) rfl,_,Cell.ai (ad h3 n2.ext) rfl,_,Cell.ai n2.get rfl,_,Cell.ai n2.get rfl,_,Cell.ai n2.get rfl,?_⟩
 have z2:=n2.size;have cL:bs < w1.heap.size:=blt h2;have hlg:bg < w1.heap.size:=blt h3;refine xQ.step (x:=⟨t,3,0,cs[j].1⟩) (by simp;omega) (h1.mono n2.ext fun _ _ h=>h) fun w3 B3 G3 x3 hB3=>?_
 have n3:∀q,q < w1.heap.size->¬ B0 q->¬ B3 q:=fun q hq h h'=>by
  rcases hB3 q h' with h2 | h2
  .exact h h2
  .omega
 refine k w3 (fun q=>B3 q∨q=bs∨q=bg) ⟨B3,?_,af (ad h2 n2.ext) x3 h5,af (ad h3 n2.ext) x3 h6,fun q=>Iff.rfl,n3 _ cL h5,n3 _ hlg h6⟩ (n2.ext.aG.trans x3 fun q _ hq=>(h4 q).2 (.inl hq)) fun q hq=>?_
 .rw[List.take_add_one,List.getElem?_eq_getElem hj,List.map_append,<- List.append_assoc];exact G3
 .rcases hq with h | h
  .rcases hB3 q h with h | h
   .exact .inl ((h4 q).2 (.inl h))
   .exact .inr ⟨by omega,h.2⟩
  .exact .inl ((h4 q).2 (.inr h))
def MK(T:Nat->Option Nat)(m:bB)(M:Mm)(t:Int)(bo:Nat)(lev:Nat):Prop:=
 ∀{w:Wd}{B:Nat->Prop}{base:Nat}{L:List An}{r:Rf}{kvs:List KV}{ps:List Rf}{K:Int->Pw},aY w.heap T m M->bu M.f t lev r kvs ps->lev<=30->xQ bo base L w B->(∀q,B q->T q=none)->L.length+ps.length<=900000->
 (∀(w':Wd)(B':Nat->Prop)(L':List An),L'.map An.r=ps->(∀x∈L',x.t=t)->(∀x:An,L'[0]? = some x->x.v=(lev:Int))->xQ bo base (L++L') w' B'->Ext B w w'->(∀q,B' q->B q∨w.heap.size<=q/\q < w'.heap.size)->K 0 w')->
 gu (eW m) t r.p r.c r.g lev (.func (.func 94) #[] #[.pointer (some (A1 bo))]) w K
set_option maxHeartbeats 2000000 in
theorem Gg{t:Int}{bo lev:Nat}(ih:∀lv,lev=lv+1->MK T m M t bo lv):MK T m M t bo lev:=by
 intro w B base L r kvs ps K R hS dn hG hB hlen k;have sup:∀q,w.heap.size<=q->T q=none:=fun q hq=>R.iA hq
 have hBl:∀q,B q->q < w.heap.size:=fun q hq=>hG.lt hq
 obtain⟨l,cU,hN,bC,DH,rfl⟩:=hS.opens;have hr:r ≠ .z:=fun h=>by have:=(JS R hN.at_).1;rw[h]at this;exact absurd this (by decide)
 apply oN
 refine ag.mk fun b w1 n1=>ag.mk fun b1 w2 n2=>⟨rfl,ag.mk fun b2 w3 n3=>?_⟩
 have hb:=n1.at_;have gE:=n2.at_;have lO:=n3.at_;have z1:=n1.size;have z2:=n2.size;have z3:=n3.size;have gp:=(n1.ext.no n2.ext).no n3.ext;have g3:=ad (ad n1.get n2.ext) n3.ext;have gG:=ad n2.get n3.ext;have Mn:=n3.get;refine⟨_,Cell.ai gG rfl,_,Cell.ai gG rfl,_,Cell.ai gG rfl,_,Cell.ai gG rfl,?_⟩;dsimp only;rw[JQ,decide_eq_false hr];refine If.no ⟨_,Cell.ai g3 rfl,_,Cell.ai g3 rfl,_,Cell.ai gG rfl,_,Cell.ai gG rfl,_,Cell.ai gG rfl,_,Cell.ai gG rfl,?_⟩;refine ug (R.no gp) hN bC fun s4 N4 w4 o4 eL x4=>bA rfl rfl (by simp[aN]) fun b3 w6 g6 xB z6 x6=>If.bne (fun h=>(h rfl).elim) fun _=>?_
 have uK:=x4.no x6;have AX:=gp.no uK;have y4:=x4.size;have y6:=x6.size;have g06:=ad g3 uK;have wj:=ad gG uK;have NM:=ad Mn uK;refine⟨_,Cell.ai NM rfl,_,Cell.ai g06 rfl,_,Cell.ai g6 rfl,_,Cell.ai wj rfl,_,Cell.ai wj rfl,_,Cell.ai wj rfl,_,Cell.ai wj rfl,?_⟩;refine xQ.step (x:=⟨t,bE lev,lev,r⟩) (by omega) (hG.mono AX fun _ _ h=>h) fun w7 B7 G7 x7 hB7=>?_
 have nB:∀{q},w.heap.size<=q->¬ B q:=fun h h'=>by have:=hBl _ h';omega
 refine⟨_,Cell.ai (af g6 x7 (nB (q:=b3) (by omega))) rfl,?_⟩;have q6:kQ w6.heap (fun q=>w3.heap.size<=q) s4 N4:=(o4.no x6).q fun q h1 _=>h1
 have hNl:=me eL;have IZ:=gk hN.short
 refine⟨fun q tt w'=>∃(j:Nat) (Lj:List An) (Bj:List KV) (pr:List Rf) (B':Nat->Prop),tt=j/\j<=l.length/\q=l.length - j/\WE M.f t lev (l.drop j) Bj pr/\cU=Lj.map An.r++pr/\(∀x∈Lj,x.t=t)/\xQ bo base (L++(⟨t,bE lev,lev,r⟩::Lj)) w' B'/\(∀q,B' q->B q∨w6.heap.size<=q/\q < w'.heap.size)/\Ext (fun q=>B q∨q=b2∨q=b) w6 w'/\w'.heap[b2]? = some (.cells [.func (.func 94) #[] #[.pointer (some (A1 bo))]].toArray 172 (0,0))/\w'.heap[b]? = some (.cells [eW m,.int .u32 t].toArray 107 (0,0)),
  ⟨l.length,0,[],kvs,cU,B7,rfl,by omega,by omega,DH,rfl,by simp,G7,hB7,x7.mono fun _ _ h=> .inl h,af NM x7 (nB (by omega)),af g06 x7 (nB (by omega))⟩,?_⟩
 rintro _ m0 tt w8 ⟨j,Lj,Bj,pr,B8,rfl,hj,hq,Ia,K5,ht,G8,TE,x8,g28,g08⟩
 have nS:∀{q},w.heap.size<=q->q≠b2->q≠b->¬ (B q∨q=b2∨q=b):=fun h h1 h2 h'=>by
  rcases h' with h' | h' | h'
  .exact nB h h'
  .exact h1 h'
  .exact h2 h'
 have vN:=af wj x8 (nS (by omega) (by omega) (by omega));have g68:=af g6 x8 (nS (by omega) (by omega) (by omega));have q8:=q6.ext x8 fun q hq _=>nS (by omega) (by omega) (by omega)
 have FA:=q8.nd;have y8:=x8.size;have Qp:cU.length=Lj.length+pr.length:=by rw[K5];simp
 simp only[List.length_cons]at hlen
 have R8:aY w8.heap T m M:=(R.no AX).ext x8 fun q hq=>by
  rcases hq with h | h | h
  .exact hB q h
  .rw[h];exact sup _ (by omega)
  .rw[h];exact sup _ (by omega)
 have Ux:∀{q},w.heap.size<=q->q < w6.heap.size->¬ B8 q:=fun h1 h2 h=>by
  rcases TE _ h with h' | h'
  .exact nB h1 h'
  .omega
 have hT8:∀q,B8 q->T q=none:=fun q hq=>by
  rcases TE q hq with h | h
  .exact hB q h
  .exact sup q (by omega)
 refine If.dec (fun h=>?_) fun h=>?_
 .have fh:j < l.length:=by have:=FA.len;omega
  refine qc FA.rd (by omega) h fun b4 dA hi oq Io LS dR=>⟨_,Cell.ai (ad vN dR) rfl,?_⟩
  simp only[Int.toNat_natCast]at hi oq
  have e1:N4[j].2=l[j]:=by
   have:=congrArg (fun l=>l[j]?) eL;simp only[List.getElem?_map,List.getElem?_eq_getElem hi,List.getElem?_eq_getElem fh,Option.map_some,Option.some.injEq]at this;exact this
  have g0a:=ad g08 dR;have g2a:=ad g28 dR;have g6a:=ad g68 dR;have Ga:=G8.mono dR fun _ _ h=>h
  refine If.dec (fun s_=>?_) fun s_=>?_
  .rcases Ia with⟨h0,_⟩ | ⟨lv,Mf,hk⟩
   .omega
   rw[List.drop_eq_getElem_cons fh]at hk
   cases hk with
   | @cons _ _ kv YN p pr2 afd lo iv CO=>
   have nb0:¬ B8 b:=Ux (by omega) (by omega);have VQ:¬ B8 b2:=Ux (by omega) (by omega);have Ya:¬ B8 b3:=Ux (by omega) (by omega);refine⟨Ext B8 dA,(Ext.refl _ _).drew,_,ae.dQ (Cell.ai g0a rfl) nb0,_,ae.dQ (Cell.ai g0a rfl) nb0,_,ae.dQ (Cell.ai g6a rfl) Ya,_,ae.dQ (Cell.ai g6a rfl) Ya,_,ae.dQ (Cell.ai g6a rfl) Ya,_,ae.dQ (Cell.ai g2a rfl) VQ,?_⟩
   refine lE (w:=aa dA) (FA.no dR.drew) (by omega) (by simpa using hi) (by omega) fun dg fY=>⟨(fY.aj).aG,?_⟩
   have HO:Ext No dA dg:=fY.aj;have ZD:=HO.size;simp only[Int.toNat_natCast];rw[e1,show((lev:Nat):Int) - 1=((lv:Nat):Int) by omega];simp only[List.length_append]at Qp
   refine ih lv Mf ((R8.no dR).no HO) afd (by omega) (Ga.mono HO fun _ _ h=>h) hT8 (by simp;omega) fun eG B12 L12 ZP t12 _ G12 gS afe=>⟨HO.aG.trans gS fun _ _ h=>h,If.bne (fun h=>(h rfl).elim) fun _=>Ar.i64 (by omega) ⟨l.length - (j+1),by omega,j+1,Lj++L12,YN,pr2,B12,by omega,by omega,rfl,.inr ⟨lv,Mf,CO⟩,?_,fun x hx=>?_,by simpa using G12,fun q hq=>?_,?_,?_,?_⟩⟩
   .rw[K5,List.map_append,ZP,List.append_assoc]
   .rcases List.mem_append.1 hx with h | h
    .exact ht x h
    .exact t12 x h
   .have y12:=gS.size;rcases afe q hq with h | h
    .rcases TE q h with h | h
     .exact .inl h
     .exact .inr ⟨h.1,by omega⟩
    .exact .inr ⟨by omega,h.2⟩
   .refine((x8.no dR).no HO).trans gS fun q hq h=>?_
    rcases TE q h with h | h
    .exact .inl h
    .omega
   .exact af (ad g2a HO) gS (Ux (by omega) (by omega))
   .exact af (ad g0a HO) gS (Ux (by omega) (by omega))
  .have h0:lev=0:=by omega
   rcases Ia with⟨_,hL⟩ | ⟨lv,Mf,_⟩
   .rw[List.drop_eq_getElem_cons fh]at hL
    cases hL with
    | @cons _ _ x YN p pr2 hE hL2=>
    have Bo:=hN.right.iw j fh;rw[show bE (lev:Int)=1 by rw[h0];rfl]at Bo;obtain⟨cs,hc,hcp,ss⟩:=Ak hE Bo;have er:=(FA.no dR).get hi;refine⟨_,Cell.ai g0a rfl,_,Cell.ai g0a rfl,_,Cell.ai oq rfl,_,Cell.ai oq rfl,_,Cell.ai oq rfl,?_⟩;rw[er.ch,e1];have cL:∀q,B8 q->q < dA.heap.size:=fun q hq=>Ga.lt hq
    simp only[List.length_append]at Qp;have agU:cs.length=p.length:=by rw[<- hcp];simp
    refine vP (J:=KQ (m:=m) b2 b bo base t (L++(⟨t,bE lev,lev,r⟩::Lj)) cs) (B:=fun q=>B8 q∨q=b2∨q=b) (R8.no dR) hc ss ⟨B8,by simpa using Ga,g2a,g0a,fun q=>Iff.rfl,Ux (by omega) (by omega),Ux (by omega) (by omega)⟩ (fun q hq=>?_) (fun h x hS=>h.mono x hS)
     (fun j w5 B' s base hj K' hJ o hb hB kk=>KQ.step (by simp;omega) hj hJ fun w' Wg hJ' hx hq=>kk w' Wg hJ' hx fun q Rg=>(hq q Rg).imp id fun h=>⟨by omega,h.2⟩) fun cX B13 J13 eE R13 aff=>If.bne (fun h=>(h rfl).elim) fun _=>?_
    .rcases hq with h | h | h
     .exact⟨hT8 q h,cL q h⟩
     .rw[h];exact⟨sup _ (by omega),by omega⟩
     .rw[h];exact⟨sup _ (by omega),by omega⟩
    obtain⟨B0,a1,a2,a3,a4,a5,a6⟩:=J13;rw[List.take_length]at a1;have ZC:=eE.size;refine Ar.i64 (by omega) ⟨l.length - (j+1),by omega,j+1,Lj++cs.map fun c=>⟨t,3,0,c.1⟩,YN,pr2,B0,by omega,by omega,rfl,.inl ⟨h0,hL2⟩,?_,fun x hx=>?_,by simpa using a1,fun q hq=>?_,?_,a2,a3⟩
    .rw[K5,List.map_append,List.map_map,<- hcp,List.append_assoc];rfl
    .rcases List.mem_append.1 hx with h | h
     .exact ht x h
     .obtain⟨c,_,rfl⟩:=List.mem_map.1 h;rfl
    .rcases aff q ((a4 q).2 (.inl hq)) with h | h
     .rcases h with h | h | h
      .rcases TE q h with h | h
       .exact .inl h
       .exact .inr ⟨h.1,by omega⟩
      .exact(a5 (h ▸ hq)).elim
      .exact(a6 (h ▸ hq)).elim
     .exact .inr ⟨by omega,h.2⟩
    .refine(x8.no dR).trans eE fun q hq h=>?_
     rcases h with h | h
     .rcases TE q h with h | h
      .exact .inl h
      .omega
     .exact .inr h
   .omega
 .have fh:j=l.length:=by have:=FA.len;omega
  rw[fh,List.drop_length]at Ia
  have hpr:pr=[]:=by
   rcases Ia with⟨_,h⟩ | ⟨_,_,h⟩
   .cases h;rfl
   .cases h;rfl
  refine k w8 B8 (⟨t,bE lev,lev,r⟩::Lj) ?_ (fun x hx=>?_) (fun x hx=>?_) G8 ?_ fun q hq=>?_
  .rw[K5,hpr];simp
  .rcases List.mem_cons.1 hx with h | h
   .rw[h]
   .exact ht x h
  .simp at hx;rw[<- hx]
  .refine AX.aG.trans x8 fun q hq h=>?_
   rcases h with h | h | h
   .exact h
   .omega
   .omega
  .rcases TE q hq with h | h
   .exact .inl h
   .exact .inr ⟨by omega,h.2⟩
theorem S4{t:Int}{bo:Nat}:∀lev,MK T m M t bo lev:=by
 intro lev
 induction lev with
 | zero=>
  intro w B base L r kvs ps K;exact Gg (lev:=0) fun _ h=>by omega
 | succ n ih=>
  intro w B base L r kvs ps K
  exact Gg (lev:=n+1) fun lv h=>by
   have e:n=lv:=by omega
   rw[<- e];exact @ih
theorem KR{t lev:Int}{r:Rf}{kvs:List KV}{ps:List Rf}{K:Sl->Int->Pw}(R:aY w.heap T m M)(hT:dB M.f t r lev kvs ps)(dn:lev<=30)(hl:ps.length<=900000)
  (k:∀s (L:List An) w',L.map An.r=ps->(∀x∈L,x.t=t)->(∀x,L[0]? = some x->x.r=r/\x.v=lev)->aT w'.heap w.heap.size 126 6 s (L.flatMap An.cs)->Ext No w w'->K s 0 w'):po (eW m) t r.p r.c r.g lev w K:=by
 apply En
 refine ag.mk fun b w1 n1=>⟨trivial,If.no (ag.mk fun b1 w2 n2=>⟨rfl,?_⟩)⟩
 have hb:=n1.at_;have gE:=n2.at_;have z1:=n1.size;have z2:=n2.size;have hZ:=n1.ext.no n2.ext;have g2:=ad n1.get n2.ext;refine⟨_,Cell.ai g2 rfl,_,Cell.ai g2 rfl,_,Cell.ai g2 rfl,_,Cell.ai g2 rfl,?_⟩;have JX:=n2.get;rcases hT with⟨h1,h2,h3,h4⟩ | ⟨h1,h2,hS⟩
 .apply oN
  refine ag.mk fun b3 w3 n3=>ag.mk fun b4 w4 n4=>⟨rfl,ag.mk fun b5 w5 n5=>?_⟩
  have vM:=(n3.ext.no n4.ext).no n5.ext;have g4:=ad n4.get n5.ext;refine⟨_,Cell.ai g4 rfl,_,Cell.ai g4 rfl,_,Cell.ai g4 rfl,_,Cell.ai g4 rfl,?_⟩;dsimp only;rw[JQ,h1,h2];refine If.yes (If.bne (fun h=>(h rfl).elim) fun _=>⟨⟨none,0,0⟩,Cell.ai (ad JX vM) rfl,?_⟩);exact k _ [] w5 (by rw[h4];rfl) (by simp) (by simp) (aT.nil _ _ _ _) (hZ.no vM)
 .obtain⟨lv,rfl⟩ : ∃lv:Nat,lev=lv:=⟨lev.toNat,by omega⟩
  rw[Int.toNat_natCast]at hS;refine S4 lv (bo:=b1) (base:=w2.heap.size) (L:=[]) (B:=fun q=>q=b1) (R.no hZ) hS (by omega) ⟨⟨none,0,0⟩,JX,aT.nil _ _ _ _,⟨by omega,Nat.le_refl _⟩,fun q=>by simp[Sl.aq]⟩ (fun q hq=>by rw[hq];exact R.iA (by omega)) (by simpa using hl) fun w3 B3 L3 e3 t3 v3 G3 x3 hB3=>If.bne (fun h=>(h rfl).elim) fun _=>?_
  obtain⟨sl,a1,a2,a3,a4⟩:=G3;refine⟨sl,Cell.ai a1 rfl,k sl L3 w3 e3 t3 (fun x hx=>⟨?_,v3 x hx⟩) (by simpa using aT.mono a2 (by omega)) (hZ.trans x3 fun q hq h=>by omega)⟩;have:=congrArg (fun l=>l[0]?) e3;simp only[List.getElem?_map,hx,Option.map_some]at this;obtain⟨l,cU,_,_,_,rfl⟩:=hS.opens;simpa using this
end
end Go.Proofs.YtpjbalhhlaofmaaGreat
namespace Go.V
abbrev tY(M:Mm):Mm:={ M with au:=M.au.filter fun p=>!p.2.waits }
abbrev zu(M:Mm)(c g:Int):Mm:={ M with aE:=c,gen:=g }
section
variable {α:Type} [DecidableEq α] {P:Program} {w:Wd} {mt kt et:TypeId} {enc:α->Value} {r:Nat} {m:List (α×Value)} {a:α}
theorem EI(K:zV P kt enc)(ht:P.underlying mt=some (.map kt et)){t:TypeId}{es:Array MapEntry}{clock:Nat}(hb:w.heap[r]? = some (.map es clock))(he:es.toList.map (fun e=>(e.key,e.val))=m.map (fun p=>(enc p.1,p.2))) :
  ∃w' Iq,(Builtin.delete_ #[mt,kt] t #[.map (some r),enc a]).run P w = .ok (.tuple #[]) w'/\w'.heap[r]? = some (.map Iq clock)/\Iq.toList.map (fun e=>(e.key,e.val))=(CB a m).map (fun p=>(enc p.1,p.2))/\Iq.toList.Sublist es.toList/\Ext (·=r) w w'/\w'.heap.size=w.heap.size:=by
 have hf:=K.fk a es.toList m w he
 cases JI:mN a m 0 with
 | none=>
  refine⟨World.cQ w r (.map es clock),es,?_,dy hb,?_,List.Sublist.refl _,gI.ext rfl,gI.size rfl⟩
  .rw[JI]at hf;simp[Builtin.delete_,aD ht,ej hb,K.ck,hf,lu _ hb]
  .rw[(qR (v:= .nilFunc) JI).2];exact he
 | some p=>
  obtain⟨j,u⟩:=p;obtain⟨_,h2,_,h4,_⟩:=qS (v:= .nilFunc) JI;simp only[Nat.sub_zero]at h2 h4;refine⟨World.cQ w r (.map (es.eraseIdxIfInBounds j) clock),es.eraseIdxIfInBounds j,?_,dy hb,?_,by rw[Array.toList_eraseIdxIfInBounds];exact List.eraseIdx_sublist _ _,gI.ext rfl,gI.size rfl⟩
  .rw[JI]at hf;simp[Builtin.delete_,aD ht,ej hb,K.ck,hf,lu _ hb]
  .rw[h4,Array.toList_eraseIdxIfInBounds,iO,he,iO]
end
theorem Ao{n:Int}{p:Pg}:∀{l:List (Int×Pg)},hY n l=some p->p.waits=true->(qU n l).filter (fun p=>!p.2.waits)=l.filter fun p=>!p.2.waits
 | [],h,_=>by cases h
 | q::l,h,hw=>by
  unfold hY at h;unfold qU;split at h
  .rename_i h1
   cases h
   rw[if_pos h1,List.filter_cons,hw];rfl
  .rename_i h1;rw[if_neg h1,List.filter_cons,List.filter_cons,Ao h hw]
theorem ML(M:Mm):live (tY M).au=live M.au:=by
 unfold live;simp[List.filter_filter]
theorem PO{n:Int}{p:Pg}:∀{l:List (Int×Pg)},(l.map Prod.fst).Nodup->hY n l=some p->p.waits=false->hY n (l.filter fun p=>!p.2.waits)=some p:=fun {l} hn h hw=>
 gM (hn.sublist (List.filter_sublist.map _)) (List.mem_filter.2 ⟨uf h,by simp[hw]⟩)
theorem iR.acu{M:Mm}{ps:List Rf}(S:Mk M)(h:Sub ps M):iR M.f (tY M).f ps:=fun r hr p hp he=>by
 obtain⟨p',h1,h2,h3⟩:=FB S (h.mem hr);rw[h1]at hp;cases hp;exact⟨p,PO S.nd h1 h3,rfl,rfl,rfl,rfl,rfl⟩
end Go.V
namespace Go.Proofs.YtpjbalhhlaofmaaGreat
open Go.V
section
variable {w:Wd} {T:Nat->Option Nat} {m:bB} {M:Mm}
theorem EJ{c g:Int}{K:Int->Pw}(R:aY w.heap T m M)(hc:0<=c/\c<=18446744073709551615)(hg:0<=g/\g<=65535)(k2:c<=M.aE->K 2 w)
  (k:∀w',M.aE < c->aY w'.heap T m (zu M c g)->Ext (Ts T) w w'->K 0 w'):kX (some ⟨m.bm,0,none⟩) c g w K:=by
 apply yy;refine If.no (Nn.mk ⟨_,Cell.ai R.mem rfl,If.dec (fun h=>k2 h) fun h=>Nn.mk (aF.mk R.mem (by show 1 < 3;decide) rfl fun w1 h1=>Nn.mk ?_)⟩);have g1:w1.heap[m.bm]? = some (.cells [.map (some m.r),.int .u64 c,.int .u16 M.gen].toArray 97 (0,0)):=h1.get R.mem;refine aF.mk g1 (by show 2 < 3;decide) rfl fun w2 h2=>?_
 have g2:w2.heap[m.bm]? = some (.cells [.map (some m.r),.int .u64 c,.int .u16 g].toArray 97 (0,0)):=h2.get g1;have x2:Ext (·=m.bm) w w2:=(h1.ext).trans h2.ext fun _ _ h=>h
 have nS:∀{q t},T q=some t->t≠0->¬ (q=m.bm):=fun h ht h'=>by rw[h',R.tm]at h;cases h;exact ht rfl
 refine k w2 (by omega) ⟨g2,R.map.ext x2 (nS R.tr (by decide)),fun p hp=>(R.pg p hp).ext x2 (nS (R.pg p hp).tb (by omega)) (fun b h=>nS ((R.pg p hp).ts b h) (by omega)),R.nd,R.lo,R.tm,R.tr,fun q h=>Nat.lt_of_lt_of_le (R.sup q h) x2.size,hc,hg,fun p hp=>?_⟩ (x2.mono fun q _ h=>by rw[h];show T m.bm≠none;rw[R.tm];simp);have:=R.cm p hp;show p.2.r.c<=c;omega
set_option maxHeartbeats 1000000 in
theorem EK{K:Int->Pw}(R:aY w.heap T m M)(k:∀w',aY w'.heap T m (tY M)->Ext (Ts T) w w'->K 0 w'):kY (some ⟨m.bm,0,none⟩) w K:=by
 apply yz;refine If.no (Nn.mk ⟨_,Cell.ai R.mem rfl,?_⟩);apply dD;obtain⟨kt,et,ht⟩:=S2;obtain⟨es,clock,hr,he,hB⟩:=R.map;obtain⟨w1,vJ,eT⟩:=yU (P:=pz) ht hr;have T5:=eT.size;have afg:T w.heap.size=none:=R.iA (Nat.le_refl _);refine⟨some ⟨w.heap.size,0,none⟩,w1,vJ,?_⟩
 refine⟨fun q w'=>∃(Iq:Array MapEntry) (seen:List Nat) (pg:List (Int×Pg)),q=es.toList.length - seen.length/\w'.heap[w.heap.size]? = some (.mapIter (some m.r) clock seen.toArray clock)/\w'.heap[m.r]? = some (.map Iq clock)/\Iq.toList.map (fun e=>(e.key,e.val))=(m.oB pg).map (fun p=>(Value.int .u32 p.1,p.2))/\Iq.toList.Sublist es.toList/\
   (∀b∈seen,b∈es.toList.map (·.born))/\seen.Nodup/\pg.Sublist M.au/\pg.filter (fun p=>!p.2.waits)=M.au.filter (fun p=>!p.2.waits)/\(∀e∈Iq.toList,e.born∈seen->∀p∈pg,e.key = .int .u32 p.1->p.2.waits=false)/\aY w'.heap T m { M with au:=pg }/\Ext (fun q=>q=m.r∨q=w.heap.size) w w',
  ⟨_,es,[],M.au,rfl,eT.get,ad hr eT.ext,he,List.Sublist.refl _,by simp,by simp,List.Sublist.refl _,rfl,by simp,R.no eT.ext,eT.ext.aG⟩,?_⟩
 rintro _ m0 w2 ⟨Iq,seen,pg,hq,hi,OZ,Zm,jr,hsn,sy,Z_,K0,hse,R2,x2⟩;have hB2:gL Iq.toList clock:=hB.sub jr;have cL:m.r < w.heap.size:=R.sup _ (by rw[R.tr];simp);rcases CD (P:=pz) hi OZ hB2 with⟨ff,w',tW,hx⟩ | ⟨e,K7,Kt,w',tW,iv,hx⟩
 .refine .inl ⟨w',tW,?_⟩
  have hpw:∀p∈pg,p.2.waits=false:=fun p hp=>by
   have:(Value.int .u32 p.1,Value.pointer (some ⟨m.bl p.1,0,none⟩))∈(m.oB pg).map (fun p=>(Value.int .u32 p.1,p.2)):=List.mem_map.2 ⟨_,List.mem_map.2 ⟨p,hp,rfl⟩,rfl⟩;rw[<- Zm]at this;obtain⟨e,he,h⟩:=List.mem_map.1 this;exact hse e he (ff e he) p hp (congrArg Prod.fst h)
  have TB:pg=M.au.filter fun p=>!p.2.waits:=by
   rw[<- K0,List.filter_eq_self.2 fun p hp=>by rw[hpw p hp];rfl]
  have R2':=R2.no hx;rw[TB]at R2';refine k w' R2' ((x2.no hx).mono fun q hq h=>?_);rcases h with h | h
  .rw[h];show T m.r≠none;rw[R.tr];simp
  .omega
 .have z2:=x2.size;have hr3:w'.heap[m.r]? = some (.map Iq clock):=af OZ hx (by omega)
  have Dw:(e.key,e.val)∈(m.oB pg).map (fun p=>(Value.int .u32 p.1,p.2)):=by
   rw[<- Zm];exact List.mem_map.2 ⟨e,K7,rfl⟩
  obtain⟨v,hv,Dw⟩:=List.mem_map.1 Dw;obtain⟨p,hp,rfl⟩:=List.mem_map.1 hv;have gN:e.key = .int .u32 p.1:=(congrArg Prod.fst Dw).symm;have Ow:e.val = .pointer (some ⟨m.bl p.1,0,none⟩):=(congrArg Prod.snd Dw).symm
  have jw:seen.length < es.toList.length:=by
   have hbe:e.born∈es.toList.map (·.born):=List.mem_map.2 ⟨e,jr.subset K7,rfl⟩;have h1:(e.born::seen).Nodup:=List.nodup_cons.2 ⟨fun h=>Kt (by simpa using h),sy⟩
   have:=List.Nodup.length_le_of_subset h1 (l₂:=es.toList.map (·.born)) fun x hx=>by
    rcases List.mem_cons.1 hx with h | h
    .rw[h];exact hbe
    .exact hsn x h
   simp only[List.length_cons,List.length_map]at this;omega
  have Bo:=yV (P:=pz) iv hr3 hB2 K7;rw[gN,Ow]at Bo;refine .inr ⟨e.key,e.val,w',tW,p.1,some ⟨m.bl p.1,0,none⟩,w',Bo,?_⟩;have R3:aY w'.heap T m { M with au:=pg }:=R2.ext hx fun q hq=>by rw[hq];exact afg
  have P3:=R3.pg p hp;have x3:Ext (fun q=>q=m.r∨q=w.heap.size) w w':=x2.trans hx fun q hq h=> .inr h
  have acv:∀b∈seen++[e.born],b∈es.toList.map (·.born):=fun b hb=>by
   rcases List.mem_append.1 hb with h | h
   .exact hsn b h
   .rw[List.mem_singleton]at h;rw[h];exact List.mem_map.2 ⟨e,jr.subset K7,rfl⟩
  have acw:(seen++[e.born]).Nodup:=List.nodup_append.2 ⟨sy,by simp,fun a ha b hb AU=>by
   rw[List.mem_singleton]at hb
   exact Kt (by rw[<- hb,<- AU];simpa using ha)⟩
  have ndp:(pg.map Prod.fst).Nodup:=R2.nd;have Bx:hY p.1 pg=some p.2:=gM ndp hp;refine vG (vF (Nn.mk ⟨_,Cell.ai P3.aq rfl,If.cases (fun hw=>?_) fun hw=>?_⟩))
  .obtain⟨w4,es4,afh,g4,he4,hs4,x4,z4⟩:=EI (a:=p.1) (mt:=95) (et:=124) (t:=0) BC (by kernel_rfl) hr3 Zm;rw[yW]at he4;refine⟨w4,afh,es.toList.length - (seen++[e.born]).length,by simp only[List.length_append,List.length_cons,List.length_nil];omega,es4,seen++[e.born],qU p.1 pg,rfl,?_,g4,he4,hs4.trans jr,acv,acw,(gi _ _).trans Z_,by rw[Ao Bx hw,K0],fun e' WT Nb q hq YO=>?_,?_,x3.trans x4 fun q hq h=> .inl h⟩
   .rw[af iv x4 (by omega)];simp
   .have Rg:=(gi _ _).subset hq;rcases List.mem_append.1 Nb with h | h
    .exact hse e' (hs4.subset WT) h q Rg YO
    .rw[List.mem_singleton]at h;have Xr:e'=e:=born_inj hB2.1 (hs4.subset WT) K7 h;rw[Xr,gN]at YO;have hqp:q.1=p.1:=(Value.int.inj YO).2.symm;exfalso
     have:∀{l:List (Int×Pg)}{n:Int},(l.map Prod.fst).Nodup->n ∉ (qU n l).map Prod.fst:=fun {l n} hl=>by
      induction l with
      | nil=>simp[qU]
      | cons x l ih=>
       simp only[List.map_cons,List.nodup_cons]at hl;unfold qU;split
       .rename_i hx;rw[hx];exact hl.1
       .rename_i hx;simp only[List.map_cons,List.mem_cons,not_or];exact⟨hx,ih hl.2⟩
     exact this ndp (List.mem_map.2 ⟨q,hq,hqp⟩)
   .have nS:∀{q t},T q=some t->t≠1->¬ (q=m.r):=fun h ht h'=>by rw[h',R.tr]at h;cases h;exact ht rfl
    refine⟨af R3.mem x4 (nS R.tm (by decide)),⟨es4,clock,g4,he4,hB2.sub hs4⟩,fun q hq=>?_,?_,fun q hq=>R3.lo q ((gi _ _).subset hq),R.tm,R.tr,fun q h=>Nat.lt_of_lt_of_le (R3.sup q h) x4.size,R.co,R.go,fun q hq=>R3.cm q ((gi _ _).subset hq)⟩
    .have:=R3.pg q ((gi _ _).subset hq);exact this.ext x4 (nS this.tb (by omega)) (fun c hc=>nS (this.ts c hc) (by omega))
    .exact R3.nd.sublist ((gi _ _).map _)
  .refine⟨es.toList.length - (seen++[e.born]).length,by simp only[List.length_append,List.length_cons,List.length_nil];omega,Iq,seen++[e.born],pg,rfl,by rw[iv];simp,hr3,Zm,jr,acv,acw,Z_,K0,fun e' WT Nb q hq YO=>?_,R3,x3⟩;rcases List.mem_append.1 Nb with h | h
   .exact hse e' WT h q hq YO
   .rw[List.mem_singleton]at h;have Xr:e'=e:=born_inj hB2.1 WT K7 h;rw[Xr,gN]at YO;have hqp:q.1=p.1:=(Value.int.inj YO).2.symm;have h2:hY q.1 pg=some q.2:=gM ndp hq;rw[hqp,Bx]at h2;rw[<- Option.some.inj h2];exact hw
end
section
variable {w:Wd} {T:Nat->Option Nat} {m:bB} {M:Mm}
end
end Go.Proofs.YtpjbalhhlaofmaaGreat
namespace Go.V
end Go.V
namespace Go.Proofs.YtpjbalhhlaofmaaGreat
open Go.V
section
variable {w:Wd} {T:Nat->Option Nat} {m:bB} {M:Mm}
end
end Go.Proofs.YtpjbalhhlaofmaaGreat
namespace Go.V
structure PV where
 k:Sl
 v:Sl
abbrev Pr:=PV×KV
def Pr.cs(p:Pr):List Value:=[.slice p.1.k.a p.1.k.len p.1.k.cap,.slice p.1.v.a p.1.v.len p.1.v.cap]
theorem DI(l:List Pr):∀x∈l,(Pr.cs x).length=2:=fun _ _=>rfl
abbrev KS(l:List Pr):List KV:=l.map Prod.snd
structure WG(h:Array Obj)(Q:Nat->Prop)(p:Pr):Prop where
 k:Rd h p.1.k 1 (p.2.1.map (Value.int .u8))
 v:Rd h p.1.v 1 (p.2.2.map (Value.int .u8))
 k8:B8 p.2.1
 v8:B8 p.2.2
 kq:p.2.1≠[]->∀q,p.1.k.aq=some q->Q q
 vq:p.2.2≠[]->∀q,p.1.v.aq=some q->Q q
theorem WG.ext{S Q:Nat->Prop}{w w':Wd}{p:Pr}(r:WG w.heap Q p)(x:Ext S w w')(hS:∀q,q < w.heap.size->Q q->¬ S q):WG w'.heap Q p:=
 ⟨Rd.Kv r.k x fun hn q hl hq=>hS q hl (r.kq hn q hq),Rd.Kv r.v x fun hn q hl hq=>hS q hl (r.vq hn q hq),r.k8,r.v8,r.kq,r.vq⟩
theorem WG.mono{Q Q':Nat->Prop}{h:Array Obj}{p:Pr}(r:WG h Q p)(hq:∀q,q < h.size->Q q->Q' q):WG h Q' p:=
 ⟨r.k,r.v,r.k8,r.v8,fun hn q h=>hq q (Rd.lt r.k (by simpa using hn) h) (r.kq hn q h),fun hn q h=>hq q (Rd.lt r.v (by simpa using hn) h) (r.vq hn q h)⟩
structure PQ(h:Array Obj)(Q:Nat->Prop)(s:Sl)(l:List Pr):Prop where
 rd:Rd h s 2 (l.flatMap Pr.cs)
 pr:∀p∈l,WG h Q p
theorem PQ.len{h:Array Obj}{Q:Nat->Prop}{s:Sl}{l:List Pr}(r:PQ h Q s l):s.len=l.length:=by have:=r.rd.len;rw[aK (DI l)]at this;omega
theorem PQ.no{Q:Nat->Prop}{w w':Wd}{s:Sl}{l:List Pr}(r:PQ w.heap Q s l)(x:Ext No w w'):PQ w'.heap Q s l:=⟨r.rd.no x,fun p hp=>(r.pr p hp).ext x fun _ _ _ h=>h⟩
structure wx(l:List KV)(key:List Int)(i:Nat):Prop where
 le:i<=l.length
 lt:∀j (h:j < l.length),j < i->bW l[j].1 key
 ge:∀h:i < l.length,¬ bW l[i].1 key
theorem gQ.lt{l:List KV}(h:gQ l){i j:Nat}(A_:i < j)(hj:j < l.length):bW l[i].1 l[j].1:=List.pairwise_iff_getElem.1 h i j (by omega) hj A_
end Go.V
namespace Go.Proofs.YtpjbalhhlaofmaaGreat
open Go.V
section
variable {w:Wd} {T:Nat->Option Nat} {m:bB} {M:Mm}
end
section
variable {w:Wd} {T:Nat->Option Nat} {m:bB} {M:Mm}
theorem Rd.pre{h:Array Obj}{s:Sl}{n:Nat}{α:Type}{f:α->List Value}{l:List α}(r:Rd h s n (l.flatMap f))(hf:∀x∈l,(f x).length=n)(hl:s.len=l.length){lo hi:Nat}(h1:lo<=hi)(h2:hi<=l.length):Rd h ⟨mP s.a s.cap lo n,hi - lo,s.cap - lo⟩ n (((l.drop lo).take (hi - lo)).flatMap f):=by
 have rc:=r.cut (lo:=lo) (hi:=hi) (mx:=s.cap) h1 (by omega) (by have:=r.cap;omega)
 have e:((l.flatMap f).drop (lo * n)).take ((hi - lo) * n)=((l.drop lo).take (hi - lo)).flatMap f:=by
  have hd:(l.flatMap f).drop (lo * n)=(l.drop lo).flatMap f:=by
   conv=>lhs;rw[<- List.take_append_drop lo l]
   rw[List.flatMap_append,List.drop_append];have NF:((l.take lo).flatMap f).length=lo * n:=by rw[aK fun x hx=>hf x (List.mem_of_mem_take hx),List.length_take,Nat.min_eq_left (by omega)]
   rw[NF,List.drop_eq_nil_of_le (by omega),Nat.sub_self,List.drop_zero,List.nil_append]
  rw[hd]
  conv=>lhs;rw[<- List.take_append_drop (hi - lo) (l.drop lo)]
  rw[List.flatMap_append,List.take_append];have NF:(((l.drop lo).take (hi - lo)).flatMap f).length=(hi - lo) * n:=by rw[aK fun x hx=>hf x (List.mem_of_mem_drop (List.mem_of_mem_take hx)),List.length_take,List.length_drop,Nat.min_eq_left (by omega)]
  rw[NF,Nat.sub_self,List.take_zero,List.append_nil,List.take_of_length_le (by omega)]
 rw[e]at rc;exact rc
theorem Cut.pre{h:Array Obj}{s:Sl}{n:Nat}{α:Type}{f:α->List Value}{l:List α}{lo hi mx:Int}{K:Sl->Prop}(r:Rd h s n (l.flatMap f))(hf:∀x∈l,(f x).length=n)(hl:s.len=l.length)(h0:0<=lo)(h1:lo<=hi)(h2:hi<=(l.length:Int))(hm:mx=s.cap)
  (k:∀s':Sl,Rd h s' n (((l.drop lo.toNat).take (hi.toNat - lo.toNat)).flatMap f)->s'.len=hi.toNat - lo.toNat->K s'):Cut s lo hi mx n K:=by
 have rc:=Rd.pre r hf hl (lo:=lo.toNat) (hi:=hi.toNat) (by omega) (by omega);have hc:=r.cap;subst hm;refine Cut.mk h0 h1 (by omega) (Int.le_refl _) ?_;have e1:(hi - lo).toNat=hi.toNat - lo.toNat:=by omega
 have e2:((s.cap:Int) - lo).toNat=s.cap - lo.toNat:=by omega
 rw[e1,e2,Int.toNat_natCast];exact k _ rc rfl
end
end Go.Proofs.YtpjbalhhlaofmaaGreat
namespace Go.V
end Go.V
namespace Go.Proofs.YtpjbalhhlaofmaaGreat
open Go.V
section
variable {w:Wd} {T:Nat->Option Nat} {m:bB} {M:Mm}
end
end Go.Proofs.YtpjbalhhlaofmaaGreat
namespace Go.V
inductive fe (Q:Rf->List KV->Prop):List aH->List KV->Prop
 | nil:fe Q [] []
 | cons {e:aH} {l:List aH} {kv kvs:List KV} (h:Q e.cd kv) (r:fe Q l kvs):fe Q (e::l) (kv++kvs)
theorem fe.app{Q:Rf->List KV->Prop}{a b:List aH}{x y:List KV}(h:fe Q a x)(k:fe Q b y):fe Q (a++b) (x++y):=by
 induction h with
 | nil=>exact k
 | cons h r ih=>rw[List.append_assoc];exact .cons h ih
theorem fe.one{Q:Rf->List KV->Prop}{e:aH}{kv:List KV}(h:Q e.cd kv):fe Q [e] kv:=by
 have:=fe.cons (e:=e) h .nil;rwa [List.append_nil]at this
theorem fe.split{Q:Rf->List KV->Prop}:∀{a b:List aH}{x:List KV},fe Q (a++b) x->∃y z,x=y++z/\fe Q a y/\fe Q b z
 | [],b,x,h=>⟨[],x,rfl,.nil,h⟩
 | e::a,b,x,h=>by
  cases h with
  | cons h r=>
   obtain⟨y,z,rfl,h1,h2⟩:=fe.split r;exact⟨_,z,by rw[List.append_assoc],.cons h h1,h2⟩
theorem fe.last{Q:Rf->List KV->Prop}{e:aH}{x:List KV}(h:fe Q [e] x):Q e.cd x:=by
 cases h with
 | cons h r=>cases r;rwa [List.append_nil]
abbrev EL(f:bH)(t:Int)(lev:Nat):Rf->List KV->Prop:=fun r kv=>∃p,bu f t lev r kv p
theorem aM.q{f:bH}{t:Int}{lev:Nat}{l:List aH}{kvs:List KV}{ps:List Rf}(h:aM (bu f t lev) l kvs ps):fe (EL f t lev) l kvs:=by
 induction h with
 | nil=>exact .nil
 | cons h lo hi r ih=>exact .cons ⟨_,h⟩ ih
abbrev Stp:=List aH×Nat
def gC(f:bH)(t:Int):Nat->List KV->List Stp->Nat->Prop
 | 0,kvs,P,a=>∃l,P=[(l,a)]/\l.map aH.key=kvs.map Prod.fst/\a<=l.length/\l≠[]
 | lev+1,kvs,P,a=>∃l i P' a' pre kv post,P=(l,i)::P'/\(∃hi:i < l.length,EL f t lev l[i].cd kv)/\fe (EL f t lev) (l.take i) pre/\fe (EL f t lev) (l.drop (i+1)) post/\kvs=pre++(kv++post)/\gC f t lev kv P' a'/\a=pre.length+a'
section
variable {f:bH} {t:Int}
theorem gC.len:∀{lev:Nat}{kvs:List KV}{P:List Stp}{a:Nat},gC f t lev kvs P a->P.length=lev+1
 | 0,_,_,_,h=>by obtain⟨l,rfl,_⟩:=h;rfl
 | lev+1,_,_,_,h=>by
  obtain⟨l,i,P',a',pre,kv,post,rfl,_,_,_,_,hp,_⟩:=h;simp[hp.len]
theorem gC.leaf:∀{lev:Nat}{kvs:List KV}{P:List Stp}{a:Nat},gC f t lev kvs P a->∃Q l i b,P=Q++[(l,i)]/\Q.length=lev/\l≠[]/\i<=l.length/\a=b+i/\b+l.length<=kvs.length/\(∀k (h:k < l.length) (h':b+k < kvs.length),l[k].key=kvs[b+k].1)/\∀k,k<=l.length->gC f t lev kvs (Q++[(l,k)]) (b+k)
 | 0,kvs,P,a,h=>by
  obtain⟨l,rfl,h1,h2,hn⟩:=h;have hl:=congrArg List.length h1;simp only[List.length_map]at hl;refine⟨[],l,a,0,rfl,rfl,hn,h2,by omega,by omega,fun k h3 h4=>?_,fun k hk=>⟨l,by simp,h1,by omega,hn⟩⟩;have:=congrArg (fun x=>x[k]?) h1;simp only[List.getElem?_map,List.getElem?_eq_getElem h3,List.getElem?_eq_getElem (show k < kvs.length by omega),Option.map_some,Option.some.injEq]at this;simpa using this
 | lev+1,kvs,P,a,h=>by
  obtain⟨l,i,P',a',pre,kv,post,rfl,hi,h1,h2,rfl,hp,rfl⟩:=h;obtain⟨Q,l',i',b,rfl,hQ,a0,a1,rfl,a3,a4,a5⟩:=hp.leaf;refine⟨(l,i)::Q,l',i',pre.length+b,rfl,by simp[hQ],a0,a1,by omega,by simp only[List.length_append];omega,fun k h3 h4=>?_,fun k hk=>⟨l,i,Q++[(l',k)],b+k,pre,kv,post,rfl,hi,h1,h2,rfl,a5 k hk,by omega⟩⟩;rw[a4 k h3 (by omega)]
  have e:((pre++(kv++post))[pre.length+b+k]'h4)=kv[b+k]'(by omega):=by
   rw[List.getElem_append_right (by omega),List.getElem_append_left (by omega)];congr 1;omega
  rw[e]
def KT(d:Int)(x:Stp):Prop:=0<=(x.2:Int)+d/\(x.2:Int)+d < (x.1.length:Int)
theorem gC.over{d:Int}(hd:d=1∨d = -1):∀{lev:Nat}{kvs:List KV}{P:List Stp}{a:Nat},gC f t lev kvs P a->(∀ x,P.getLast? = some x->if d=1 then x.2=x.1.length else x.2=0) ->
    (∃j,∃hj:j+1 < P.length,KT d P[j]/\(∀j' (h:j'+1 < P.length),j < j'->¬ KT d P[j'])/\∃i':Nat,(i':Int)=(P[j].2:Int)+d/\∃hi:i' < P[j].1.length,∃kv p,bu f t (lev - 1 - j) P[j].1[i'].cd kv p/\∀Pn,gC f t (lev - 1 - j) kv Pn (if d=1 then 0 else kv.length)->gC f t lev kvs (P.take j++(P[j].1,i')::Pn) a)∨
    (∀j (h:j+1 < P.length),¬ KT d P[j])/\a=if d=1 then kvs.length else 0
  | 0,kvs,P,a,h,hl=>by
    obtain⟨l,rfl,h1,h2,_⟩:=h;refine .inr ⟨fun j h=>by simp at h,?_⟩;have:=hl (l,a) rfl;have h3:=congrArg List.length h1;simp only[List.length_map]at h3;split at this
    · rename_i h;rw[if_pos h];simp at this;omega
    · rename_i h;rw[if_neg h];simpa using this
  | lev+1,kvs,P,a,h,hl=>by
    obtain⟨l,i,P',a',pre,kv,post,rfl,hi,h1,h2,rfl,hp,rfl⟩:=h;have hP':=hp.len
    have hl':∀x,P'.getLast? = some x->if d=1 then x.2=x.1.length else x.2=0:=fun x hx=>hl x (by
      rw[List.getLast?_cons];rw[hx];rfl)
    rcases gC.over hd hp hl' with⟨j,hj,m1,m2,i',e1,iv,Bj,p',hS,hN⟩ | ⟨m2,ha⟩
    · refine .inl ⟨j+1,by simp;omega,m1,fun j' h YP=>?_,i',e1,iv,Bj,p',?_,fun Pn WH=>?_⟩
      · cases j' with
        | zero=>omega
        | succ j'=>simp only[List.getElem_cons_succ];exact m2 j' (by simp at h;omega) (by omega)
      · have e:lev+1 - 1 - (j+1)=lev - 1 - j:=by omega
        rw[e];exact hS
      · have e:lev+1 - 1 - (j+1)=lev - 1 - j:=by omega
        rw[e]at WH;exact⟨l,i,_,a',pre,kv,post,rfl,hi,h1,h2,rfl,hN Pn WH,rfl⟩
    · obtain⟨PR,hq⟩:=hi
      have Vf:∀j' (h:j'+1 < ((l,i)::P').length),0 < j'->¬ KT d ((l,i)::P')[j']:=fun j' h YP=>by
        cases j' with
        | zero=>omega
        | succ j'=>simp only[List.getElem_cons_succ];exact m2 j' (by simp at h;omega)
      rcases hd with hd | hd
      · rw[if_pos hd]at ha;by_cases hm:i+1 < l.length
        · refine .inl ⟨0,by simp;omega,⟨by simp;omega,by simp;omega⟩,fun j' h YP=>Vf j' h YP,i+1,by simp[hd],hm,?_⟩;rw[List.drop_eq_getElem_cons hm]at h2
          cases h2 with
          | @cons _ _ kv2 acx Zu r2=>
          obtain⟨p2,hS2⟩:=Zu;refine⟨kv2,p2,by simpa using hS2,fun Pn WH=>?_⟩;rw[if_pos hd]at WH;refine⟨l,i+1,Pn,0,pre++kv,kv2,acx,rfl,⟨hm,p2,hS2⟩,?_,r2,by simp,by simpa using WH,by simp;omega⟩;rw[List.take_add_one,List.getElem?_eq_getElem PR];exact h1.app (fe.one hq)
        · refine .inr ⟨fun j h=>?_,?_⟩
          · rcases Nat.eq_zero_or_pos j with h0 | h0
            · subst h0;rintro⟨_,h3⟩;simp at h3;omega
            · exact Vf j h h0
          · rw[if_pos hd,List.drop_eq_nil_of_le (by omega)] at *
            cases h2
            simp;omega
      · have hd1:d≠1:=by omega
        rw[if_neg hd1]at ha;by_cases hm:1<=i
        · have VA:i - 1 < l.length:=by omega
          refine .inl ⟨0,by simp;omega,⟨by simp;omega,by simp;omega⟩,fun j' h YP=>Vf j' h YP,i - 1,by simp;omega,VA,?_⟩
          have et:l.take i=l.take (i - 1)++[l[i - 1]]:=by
            have:i=i - 1+1:=by omega
            conv=>lhs;rw[this]
            rw[List.take_add_one,List.getElem?_eq_getElem VA];rfl
          rw[et]at h1;obtain⟨y,z,rfl,k1,k2⟩:=fe.split h1;obtain⟨p2,hS2⟩:=k2.last;refine⟨z,p2,by simpa using hS2,fun Pn WH=>?_⟩;rw[if_neg hd1]at WH;refine⟨l,i - 1,Pn,z.length,y,z,kv++post,rfl,⟨VA,p2,hS2⟩,k1,?_,by simp,by simpa using WH,by simp;omega⟩;have:i - 1+1=i:=by omega
          rw[this,List.drop_eq_getElem_cons PR];exact .cons hq h2
        · refine .inr ⟨fun j h=>?_,?_⟩
          · rcases Nat.eq_zero_or_pos j with h0 | h0
            · subst h0;rintro⟨h3,_⟩;simp at h3;omega
            · exact Vf j h h0
          · have i0:i=0:=by omega
            subst i0;rw[List.take_zero]at h1
            cases h1
            rw[if_neg hd1];simp;omega
theorem bu.keys:∀{lev:Nat}{r:Rf}{kvs:List KV}{ps:List Rf},bu f t lev r kvs ps->∀x∈kvs,1<=x.1.length/\x.1.length<=32/\B8 x.1
 | 0,r,kvs,ps,h=>by
  obtain⟨l,cU,hN,_,hL,_⟩:=h;have hk:=hL.keys;intro x hx;have hm:x.1∈l.map aH.key:=by rw[<- hk];exact List.mem_map.2 ⟨x,hx,rfl⟩
  obtain⟨e,he,hek⟩:=List.mem_map.1 hm;obtain⟨i,hi,rfl⟩:=List.getElem_of_mem he;have h1:=(hN.right.iw i hi).1;unfold nf at h1;rw[if_neg (by omega)]at h1;rw[<- hek];exact⟨by omega,by omega,(hN.ok _ he).2.1⟩
 | lev+1,r,kvs,ps,h=>by
  obtain⟨l,cU,_,_,hK,_⟩:=h;intro x hx
  have:∀{l kvs ps},aM (bu f t lev) l kvs ps->∀x∈kvs,1<=x.1.length/\x.1.length<=32/\B8 x.1:=fun h=>by
   induction h with
   | nil=>intro x hx;cases hx
   | cons h lo hi r ih=>
    intro x hx;rcases List.mem_append.1 hx with h1 | h1
    .exact bu.keys h x h1
    .exact ih x h1
  exact this hK x hx
theorem Ib{lev:Nat}:∀{l:List aH}{kvs:List KV}{ps:List Rf}{i:Nat},aM (bu f t lev) l kvs ps->(hi:i < l.length)->∃pre kv post p,fe (EL f t lev) (l.take i) pre/\bu f t lev l[i].cd kv p/\fe (EL f t lev) (l.drop (i+1)) post/\kvs=pre++(kv++post)
 | _,_,_,i,.nil,hi=>by simp at hi
 | _,_,_,0,.cons (kv:=kv) (kvs:=kvs) (p:=p) h lo hi r,_=>⟨[],kv,kvs,p,.nil,h,r.q,rfl⟩
 | _,_,_,i+1,.cons (kv:=kv) h lo hi r,hl=>by
  obtain⟨pre,Bj,post,p',h1,h2,h3,h4⟩:=Ib (i:=i) r (by simpa using hl);exact⟨kv++pre,Bj,post,p',.cons ⟨_,h⟩ h1,h2,h3,by rw[h4,List.append_assoc]⟩
theorem Gh{lev:Nat}{key:List Int}:∀{l:List aH}{kvs:List KV}{ps:List Rf}{i:Nat},aM (bu f t lev) l kvs ps->za l->(c:vQ l key i)->∃pre kv post p,fe (EL f t lev) (l.take i) pre/\bu f t lev (l[i]'c.lt).cd kv p/\fe (EL f t lev) (l.drop (i+1)) post/\kvs=pre++(kv++post)/\(∀x∈pre,bW x.1 key)/\∀x∈post,¬ bW x.1 key
 | _,_,_,i,.nil,_,c=>absurd c.lt (by simp)
 | _,_,_,0,@aM.cons _ e l kv kvs p _ h lo hi r,hr,c=>by
  refine⟨[],kv,kvs,p,.nil,h,r.q,rfl,by simp,fun x hx=>?_⟩
  cases l with
  | nil=>cases r;cases hx
  | cons e2 l2=>
   have h1:=xF r hr.tail e2 l2 rfl x hx;have h2:bW key e2.key:=c.gt 1 (by simp) (by omega);intro h3;exact h1 (h3.trans h2)
 | _,_,_,i+1,@aM.cons _ e l kv kvs p _ h lo hi r,hr,c=>by
  have ci:vQ l key i:=⟨by have:=c.lt;simp at this;omega,fun j hj BJ=>c.le (j+1) (by simp;omega) (by omega),fun j hj A_=>c.gt (j+1) (by simp;omega) (by omega)⟩
  obtain⟨pre,Bj,post,p',h1,h2,h3,h4,h5,h6⟩:=Gh (i:=i) r hr.tail ci;refine⟨kv++pre,Bj,post,p',.cons ⟨_,h⟩ h1,h2,h3,by rw[h4,List.append_assoc],fun x hx=>?_,h6⟩;rcases List.mem_append.1 hx with h7 | h7
  .cases l with
   | nil=>exact absurd ci.lt (by simp)
   | cons e2 l2=>
    have h8:bW x.1 e2.key:=hi e2 l2 rfl x h7;have h9:¬ bW key e2.key:=c.le 1 (by simp) (by omega);rcases Ng.1 h9 with AV | AV
    .rw[AV];exact h8
    .exact h8.trans AV
  .exact h5 x h7
end
theorem wx.mid{pre kv post:List KV}{key:List Int}{a:Nat}(hp:wx kv key a)(h1:∀x∈pre,bW x.1 key)(h2:∀x∈post,¬ bW x.1 key):wx (pre++(kv++post)) key (pre.length+a):=by
 have hle:=hp.le;refine⟨by simp only[List.length_append];omega,fun j hj Zr=>?_,fun hj=>?_⟩
 .rcases Nat.lt_or_ge j pre.length with h | h
  .rw[List.getElem_append_left h];exact h1 _ (List.getElem_mem _)
  .rw[List.getElem_append_right h,List.getElem_append_left (by omega)];exact hp.lt _ (by omega) (by omega)
 .rw[List.getElem_append_right (by omega)];rcases Nat.lt_or_ge a kv.length with h | h
  .rw[List.getElem_append_left (by omega)];have:=hp.ge h;simpa using this
  .rw[List.getElem_append_right (by omega)];exact h2 _ (List.getElem_mem _)
structure fo where
 k:Int
 v:Int
 s:Sl
 L:List (aL×aH)
 i:Nat
def fo.cs(x:fo):List Value:=[.int .u8 x.k,.int .u8 x.v,.slice x.s.a x.s.len x.s.cap,.int .i64 x.i]
theorem eo(l:List fo):∀x∈l,(fo.cs x).length=4:=fun _ _=>rfl
theorem WI(x:fo):∀v∈x.cs,aN v=true:=by intro v hv;simp only[fo.cs,List.mem_cons,List.not_mem_nil,or_false]at hv;rcases hv with h | h | h | h <;> subst h <;> rfl
abbrev fo.abs(x:fo):Stp:=(Go.Proofs.YtpjbalhhlaofmaaGreat.ents x.L,x.i)
structure jt(h:Array Obj)(n0:Nat)(X:Nat->Prop)(s:Sl)(P:List fo):Prop where
 own:aT h n0 230 4 s (P.flatMap fo.cs)
 nd:∀x∈P,kQ h (fun q=>n0<=q/\s.aq≠some q/\¬ X q) x.s x.L
 sm:∀x∈P,x.L.length<=65536/\x.i<=65536
theorem jt.len{h:Array Obj}{n0:Nat}{X:Nat->Prop}{s:Sl}{P:List fo}(r:jt h n0 X s P):s.len=P.length:=by have:=r.own.len;rw[aK (eo P)]at this;omega
theorem jt.ext{S X:Nat->Prop}{w w':Wd}{n0:Nat}{s:Sl}{P:List fo}(r:jt w.heap n0 X s P)(x:Ext S w w')(h1:∀q,s.aq=some q->¬ S q)(h2:∀q,q < w.heap.size->n0<=q->s.aq≠some q->¬ X q->¬ S q):jt w'.heap n0 X s P:=
 ⟨r.own.ext x h1,fun y hy=>(r.nd y hy).ext x fun b hb hl=>h2 b hl hb.1 hb.2.1 hb.2.2,r.sm⟩
theorem jt.no{X:Nat->Prop}{w w':Wd}{n0:Nat}{s:Sl}{P:List fo}(r:jt w.heap n0 X s P)(x:Ext No w w'):jt w'.heap n0 X s P:=r.ext x (fun _ _ h=>h) fun _ _ _ _ _ h=>h
theorem jt.nil(h:Array Obj)(n0:Nat)(X:Nat->Prop):jt h n0 X ⟨none,0,0⟩ []:=⟨aT.nil _ _ _ _,by simp,by simp⟩
theorem jt.mono{X X':Nat->Prop}{h:Array Obj}{n0:Nat}{s:Sl}{P:List fo}(r:jt h n0 X s P)(hX:∀q,q < h.size->X' q->X q):jt h n0 X' s P:=
 ⟨r.own,fun y hy=>(r.nd y hy).mono fun b hb h=>⟨h.1,h.2.1,fun h'=>h.2.2 (hX b hb h')⟩,r.sm⟩
def qh(m:bB)(t:Int)(r:Rf)(lev:Int)(p:Sl):List Value:=[Go.Proofs.YtpjbalhhlaofmaaGreat.eW m,.int .u32 t,.int .u32 r.p,.int .u64 r.c,.int .u16 r.g,.int .u8 lev,.slice p.a p.len p.cap]
end Go.V
namespace Go.Proofs.YtpjbalhhlaofmaaGreat
open Go.V
section
variable {w:Wd} {T:Nat->Option Nat} {m:bB} {M:Mm}
theorem S5{bc:Nat}{t lev:Int}{r r0:Rf}{YQ:Int}{p:Sl}{l:List aH}{K:Int->Int->Sl->Int->Pw}(R:aY w.heap T m M)(hc:w.heap[bc]? = some (.cells (qh m t r0 YQ p).toArray 183 (0,0)))(h:mI M.f t (bE lev) lev r l)(bC:l≠[])
  (k:∀s L w',iP w'.heap w.heap.size s L->ents L=l->Ext No w w'->K (bE lev) lev s 0 w'):je (some ⟨bc,0,none⟩) r.p r.c r.g lev w K:=by
 obtain⟨pg,h1,h2,h3,h4,h5,h6⟩:=h.at_;apply vt;refine ag.mk fun b w1 n1=>ag.mk fun b1 w2 n2=>?_
 have g1:=ad n1.get n2.ext;have hZ:=n1.ext.no n2.ext;have gc:=ad hc hZ;have z1:=n1.size;have z2:=n2.size;have gE:=n2.at_;refine⟨fun kd w'=>kd=bE lev/\w'=w2,⟨_,Cell.ai g1 rfl,If.beq (fun h=>⟨by unfold bE;rw[if_pos h],rfl⟩) fun h=>⟨by unfold bE;rw[if_neg h],rfl⟩⟩,?_⟩;rintro _ kd w3 ⟨rfl,rfl⟩;refine⟨Ext No w3,(Ext.refl _ _).drew,Nn.mk ⟨_,ae.cell (Cell.ai gc rfl),Nn.mk ⟨_,ae.cell (Cell.ai gc rfl),_,ae.cell (Cell.ai g1 rfl),_,ae.cell (Cell.ai g1 rfl),_,ae.cell (Cell.ai g1 rfl),_,ae.cell (Cell.ai g1 rfl),?_⟩⟩⟩;have R3:aY (aa w3).heap T m M:=R.no hZ.drew;refine nR (Fz (w:=aa w3) R3 h.at_ fun s4 w4 o4 x4=>⟨x4.aj,If.bne (fun h=>(h rfl).elim) fun _=>?_⟩);have Bn:Ext No w3 w4:=x4.aj;have p8:B8 (pad (wr (bE lev) lev l)):=by rw[<- h6];exact(R.find h1).p8
 refine Fv o4.rd h.right h.short p8 (fun e he=>(h.ok e he).1) fun s6 L w7 o7 eL x7=>bA rfl rfl (by simp[aN]) fun b3 w9 g9 xB z9 x9=>If.bne (fun h=>(h rfl).elim) fun _=>?_
 have Md:Ext No w3 w9:=(Bn.no x7).no x9;have hLn:s6.len=l.length:=by have:=o7.nd.len;have:=me eL;omega
 have hlp:1<=l.length:=List.length_pos_iff.2 bC;refine⟨_,Cell.ai g9 rfl,If.bne (fun h=>(h rfl).elim) fun _=>⟨_,Cell.ai g9 rfl,_,Cell.ai (ad g1 Md) rfl,If.bne (fun h=>(h rfl).elim) fun _=>⟨_,Cell.ai g9 rfl,If.beq (fun h0=>by omega) fun h0=>?_⟩⟩⟩;refine⟨_,Cell.ai g9 rfl,_,Cell.ai g9 rfl,_,Cell.ai g9 rfl,cK (ad n2.get Md) rfl rfl (by simp[aN]) fun c_ kM gH _=>⟨_,Cell.ai kM rfl,_,Cell.ai kM rfl,_,Cell.ai kM rfl,?_⟩⟩;have y34:=Bn.size;refine k s6 L c_ (((o7.no x9).ext gH fun q h1 h2 h=>by omega).mono (by omega)) eL ((hZ.no Md).trans gH fun q hq h=>by omega)
def qi(w:Wd)(S:Nat->Prop)(ch:Value)(Ch:Nat->List aH->Nat->Prop):Prop:=∀{w':Wd}{lev:Nat}{s:Sl}{L:List (aL×aH)}{K:Int->Pw},Ext S w w'->oQ w'.heap s L->L.length<=65536->lev<=30->L≠[]->aJ (bE lev) lev (ents L)->
 (∀(i:Nat) kC,Ch lev (ents L) i->Ext No w' kC->K i kC)->aC pz true ch [.agg ([.int .u8 (bE lev),.int .u8 lev,.slice s.a s.len s.cap]).toArray] [.one (.int .i64)] K cf w'
structure zw(f:bH)(t:Int)(Ch:Nat->List aH->Nat->Prop)(G:List KV->Nat->Prop):Prop where
 leaf:∀l kvs i,l.map aH.key=kvs.map Prod.fst->Ch 0 l i->i<=l.length/\G kvs i
 inner:∀lv l kvs ps i,aM (bu f t lv) l kvs ps->za l->l≠[]->Ch (lv+1) l i->∃pre kv post p,fe (EL f t lv) (l.take i) pre/\(∃hi:i < l.length,bu f t lv l[i].cd kv p)/\fe (EL f t lv) (l.drop (i+1)) post/\kvs=pre++(kv++post)/\∀a',G kv a'->G kvs (pre.length+a')
set_option maxHeartbeats 2000000 in
theorem Gi{bc n0:Nat}{X:Nat->Prop}{t YQ:Int}{r r0:Rf}{p0 path ch:_}{lev:Nat}{kvs:List KV}{ps:List Rf}{P0:List fo}{Ch:Nat->List aH->Nat->Prop}{G:List KV->Nat->Prop}{K:Sl->Int->Pw}
  (R:aY w.heap T m M) (hT:∀q,path.aq=some q->T q=none) (yR:n0<=w.heap.size) (hc:w.heap[bc]? = some (.cells (qh m t r0 YQ p0).toArray 183 (0,0))) (K_:path.aq≠some bc) (hP:jt w.heap n0 X path P0) (hX:∀q,X q->q < w.heap.size) (hP0:P0.length<=100)
  (hS:bu M.f t lev r kvs ps) (dn:lev<=30) (ZL:qi w (fun q=>path.aq=some q) ch Ch) (hG:zw M.f t Ch G)
  (k:∀s P1 a w',jt w'.heap n0 X s (P0++P1)->(∀j (hj:j < P1.length),P1[j].v=((lev - j:Nat):Int))->gC M.f t lev kvs (P1.map fo.abs) a->G kvs a->Ext (fun q=>path.aq=some q) w w'->(s.aq=path.aq∨∃q,s.aq=some q/\w.heap.size<=q)->K s 0 w'):fU (some ⟨bc,0,none⟩) path r.p r.c r.g lev ch w K:=by
 apply uE;refine ag.mk fun b w1 n1=>?_
 have hb:=n1.at_;have z1:=n1.size;have pb:∀q,path.aq=some q->n0<=q/\q < w.heap.size:=fun q hq=>hP.own.lt hq
 have afi:=blt hc;have hPb:jt w1.heap n0 (fun q=>q=b∨X q) path P0:=(hP.mono (X':=fun q=>q=b∨X q) fun q h1 h2=>h2.resolve_left (by omega)).no n1.ext
 refine⟨fun q mh w'=>∃(P1:List fo) (lv:Nat) (r':Rf) (Bj:List KV) (p':List Rf),bu M.f t lv r' Bj p'/\q=lv/\P1.length+lv=lev/\jt w'.heap n0 (fun q=>q=b∨X q) mh (P0++P1)/\(∀j (hj:j < P1.length),P1[j].v=((lev - j:Nat):Int))/\w'.heap[b]? = some (.cells [.int .u32 r'.p,.int .u64 r'.c,.int .u16 r'.g,.int .u8 lv].toArray 30 (0,0))/\Ext (fun q=>path.aq=some q) w w'/\(mh.aq=path.aq∨∃q,mh.aq=some q/\w1.heap.size<=q)/\
   ∀Pn a',gC M.f t lv Bj Pn a'->G Bj a'->∃a,gC M.f t lev kvs (P1.map fo.abs++Pn) a/\G kvs a,
  ⟨lev,[],lev,r,kvs,ps,hS,rfl,by simp,by simpa using hPb,by simp,n1.get,n1.ext.aG,.inl rfl,fun Pn a' h1 h2=>⟨a',by simpa using h1,h2⟩⟩,?_⟩
 rintro _ lv mh w2 ⟨P1,_,r',Bj,p',zC,rfl,hlen,Tu,YR,g2,x2,lO,hgo⟩;refine⟨_,Cell.ai g2 rfl,_,Cell.ai g2 rfl,_,Cell.ai g2 rfl,_,Cell.ai g2 rfl,?_⟩;have y2:=x2.size;obtain⟨l,cU,hN,bC,DH,_⟩:=zC.opens;have R2:=R.ext x2 hT;have S6:=af hc x2 K_;have p1b:∀q,mh.aq=some q->n0<=q/\q < w2.heap.size:=fun q hq=>Tu.own.lt hq
 have b2l:=blt g2;refine S5 R2 S6 hN bC fun s3 L w3 o3 eL x3=>bA rfl rfl (by simp[aN]) fun b1 w5 g5 gE z5 x5=>If.bne (fun h=>(h rfl).elim) fun _=>?_
 have vM:=x3.no x5;have y25:=vM.size;have y3:=x3.size;have JO:=me eL;have IZ:=gk hN.short;refine⟨_,Cell.ai g5 rfl,_,Cell.ai g5 rfl,_,Cell.ai g5 rfl,?_⟩;refine ZL (x2.no vM) (o3.no x5).nd (by omega) (by omega) (by intro e;rw[e]at JO;simp at JO;exact bC (List.eq_nil_of_length_eq_zero JO.symm)) (by rw[eL];exact hN.right) fun i w6 hi x6=>?_
 rw[eL]at hi;have g6:=ad g5 x6;refine⟨_,Cell.ai g6 rfl,_,Cell.ai g6 rfl,_,Cell.ai g6 rfl,ag.mk fun b2 w7 n7=>?_⟩;have Qt:=(vM.no x6).no n7.ext;have y27:=Qt.size;have hP7:=Tu.no Qt;have y6:=x6.size;have z7:=n7.size;have xW:=hP7.len;have e7:aT w7.heap w6.heap.size 230 4 ⟨some ⟨b2,0,none⟩,1,1⟩ (fo.cs ⟨bE lv,lv,s3,L,i⟩):=aT.new (n:=1) (sz:=4) n7 rfl (WI _);have V2:P1.length<=30:=by omega
 refine Ep hP7.own (by omega) e7.rd.src (by show(mh.len+1) * 40<=_;rw[xW,List.length_append];omega) fun s8 w8 o8 _ x8 oR=>?_
 have DV:Ext (fun q=>mh.aq=some q) w7 w8:=x8;have y8:=DV.size
 have qq:Ext (fun q=>path.aq=some q) w w8:=(x2.no Qt).trans DV fun q hq h=>by
  rcases lO with h' | ⟨c,h',xX⟩
  .rw[<- h'];exact h
  .rw[h']at h;cases h;omega
 have ZA:¬ mh.aq=some b:=fun h=>by
  rcases lO with h' | ⟨c,h',xX⟩
  .rw[h']at h;have:=(pb b h).2;omega
  .rw[h']at h;cases h;omega
 have afj:¬ mh.aq=some b1:=fun h=>by have:=(p1b _ h).2;omega
 have g8:=af (ad g2 Qt) DV ZA;have vN:=af (ad g6 n7.ext) DV afj
 have hs8:∀q,s8.aq=some q->mh.aq=some q∨w7.heap.size<=q:=fun q hq=>by
  rcases oR with h | ⟨c,h,xX⟩
  .exact .inl (by rw[<- h];exact hq)
  .rw[h]at hq;cases hq;exact .inr xX
 have VI:i<=l.length:=by
  rcases DH with⟨h0,hL⟩ | ⟨kI,YS,hk⟩
  .rw[h0]at hi;exact(hG.leaf l Bj i hL.keys.symm hi).1
  .rw[YS]at hi;obtain⟨_,_,_,_,_,⟨PR,_⟩,_⟩:=hG.inner kI l Bj cU i hk hN.right.ord bC hi;omega
 have o37:iP w7.heap w2.heap.size s3 L:=((o3.no x5).no x6).no n7.ext
 have toN:∀{s:Sl}{L:List (aL×aH)},kQ w7.heap (fun q=>n0<=q/\mh.aq≠some q/\¬ (q=b∨X q)) s L->kQ w8.heap (fun q=>n0<=q/\s8.aq≠some q/\¬ (q=b∨X q)) s L:=fun h=>by
  have h1:=h.mono (B':=fun q=>(n0<=q/\mh.aq≠some q/\¬ (q=b∨X q))/\q < w7.heap.size) fun q h1 h2=>⟨h2,h1⟩
  refine(h1.ext DV fun q hq _ h'=>hq.1.2.1 h').mono fun q _ h'=>⟨h'.1.1,fun h2=>?_,h'.1.2.2⟩
  rcases hs8 q h2 with h3 | h3
  .exact h'.1.2.1 h3
  .omega
 have q37:kQ w7.heap (fun q=>n0<=q/\mh.aq≠some q/\¬ (q=b∨X q)) s3 L:=o37.q fun q h1 h2=>⟨by omega,(fun h3=>by have:=(p1b _ h3).2;omega),fun h3=>h3.elim (by omega) fun h4=>by have:=hX q h4;omega⟩
 have hP8:jt w8.heap n0 (fun q=>q=b∨X q) s8 (P0++(P1++[⟨bE lv,lv,s3,L,i⟩])):=by
  refine⟨by rw[<- List.append_assoc,List.flatMap_append];simpa using o8,fun y hy=>?_,fun y hy=>?_⟩
  .rw[<- List.append_assoc]at hy;rcases List.mem_append.1 hy with h | h
   .exact toN (hP7.nd y h)
   .rw[List.mem_singleton]at h;subst h;exact toN q37
  .rw[<- List.append_assoc]at hy;rcases List.mem_append.1 hy with h | h
   .exact hP7.sm y h
   .rw[List.mem_singleton]at h;subst h;exact⟨by show L.length<=_;omega,by show i<=_;omega⟩
 have FA:oQ w8.heap s3 L:=(toN q37).nd
 have hv8:∀j (hj:j < (P1++[(⟨bE lv,lv,s3,L,i⟩ : fo)]).length),(P1++[(⟨bE lv,lv,s3,L,i⟩ : fo)])[j].v=((lev - j:Nat):Int):=fun j hj=>by
  rcases Nat.lt_or_ge j P1.length with h | h
  .rw[List.getElem_append_left h];exact YR j h
  .have:j=P1.length:=by simp at hj;omega
   subst this;rw[List.getElem_append_right (Nat.le_refl _)];simp;omega
 have acy:∀Pn,(P1++[(⟨bE lv,lv,s3,L,i⟩ : fo)]).map fo.abs++Pn=P1.map fo.abs++((l,i)::Pn):=fun Pn=>by
  rw[List.map_append,List.append_assoc];simp[fo.abs,eL]
 have fs8:s8.aq=path.aq∨∃q,s8.aq=some q/\w1.heap.size<=q:=by
  rcases oR with h | ⟨c,h,xX⟩
  .rcases lO with h' | h'
   .exact .inl (h.trans h')
   .rw[h];exact .inr h'
  .exact .inr ⟨c,h,by omega⟩
 refine⟨_,Cell.ai g8 rfl,If.beq (fun h0=>?_) fun h0=>?_⟩
 .have lv0:lv=0:=by omega
  subst lv0;rcases DH with⟨_,hL⟩ | ⟨_,h,_⟩
  .obtain⟨PR,hg⟩:=hG.leaf l Bj i hL.keys.symm hi;obtain⟨a,ZM,ha2⟩:=hgo [(l,i)] i ⟨l,rfl,hL.keys.symm,PR,bC⟩ hg;refine k s8 _ a w8 (hP8.mono fun _ _ h=> .inr h) hv8 (by have:=acy [];rw[List.append_nil]at this;rw[this];exact ZM) ha2 qq ?_;rcases fs8 with h | ⟨q,h1,h2⟩
   .exact .inl h
   .exact .inr ⟨q,h1,by omega⟩
  .omega
 .rcases DH with⟨h,_⟩ | ⟨kI,YS,hk⟩
  .exact absurd h (by omega)
  subst YS;obtain⟨pre,kv,post,p2,j1,⟨PR,j2⟩,j3,j4,j5⟩:=hG.inner kI l Bj cU i hk hN.right.ord bC hi;have NC:i < L.length:=by omega
  have e1:L[i].2=l[i]:=by
   have:=congrArg (fun l=>l[i]?) eL;simp only[List.getElem?_map,List.getElem?_eq_getElem NC,List.getElem?_eq_getElem PR,Option.map_some,Option.some.injEq]at this;exact this
  have er:=FA.get NC;have hz:(((kI+1:Nat):Int) - 1)=(kI:Int):=by omega
  have nsb:∀q,s8.aq=some q->¬ q=b:=fun q hq h=>by
   rcases fs8 with h' | ⟨c,h',xX⟩
   .rw[h']at hq;have:=(pb q hq).2;omega
   .rw[h']at hq;cases hq;omega
  let I0:Nat->Sl->Pw:=fun q mh w'=>∃(P1:List fo) (lv:Nat) (r':Rf) (Bj:List KV) (p':List Rf),bu M.f t lv r' Bj p'/\q=lv/\P1.length+lv=lev/\jt w'.heap n0 (fun q=>q=b∨X q) mh (P0++P1)/\(∀j (hj:j < P1.length),P1[j].v=((lev - j:Nat):Int))/\w'.heap[b]? = some (.cells [.int .u32 r'.p,.int .u64 r'.c,.int .u16 r'.g,.int .u8 lv].toArray 30 (0,0))/\Ext (fun q=>path.aq=some q) w w'/\(mh.aq=path.aq∨∃q,mh.aq=some q/\w1.heap.size<=q)/\
   ∀Pn a',gC M.f t lv Bj Pn a'->G Bj a'->∃a,gC M.f t lev kvs (P1.map fo.abs++Pn) a/\G kvs a
  have fin:∀w9:Wd,w9.heap[b]? = some (.cells [.int .u32 L[i].1.cd.p,.int .u64 L[i].1.cd.c,.int .u16 L[i].1.cd.g,.int .u8 (((kI+1:Nat):Int) - 1)].toArray 30 (0,0))->Ext (·=b) w8 w9->∃m1,m1 < kI+1/\I0 m1 s8 w9:=fun w9 g9 x9=>by
   have Bk:Ext (·=b) w8 w9:=x9;rw[er.cd,e1,hz]at g9;refine⟨kI,by omega,P1++[⟨bE (kI+1:Nat),(kI+1:Nat),s3,L,i⟩],kI,l[i].cd,kv,p2,j2,rfl,by simp;omega,hP8.ext Bk nsb fun q _ _ _ h h'=>h (.inl h'),hv8,g9,qq.trans Bk fun q hq h=>by omega,fs8,fun Pn a' h1 h2=>?_⟩;rw[acy];exact hgo _ _ ⟨l,i,Pn,a',pre,kv,post,rfl,⟨PR,p2,j2⟩,j1,j3,j4,h1,rfl⟩ (j5 a' h2)
  have afk:oQ (aa w8).heap s3 L:=FA;have ix:∀{K:Addr->Prop},(∀bb o,(∀j v,(aS L[i])[j]? = some v->Cell (aa w8) ⟨bb,o+j,none⟩ v)->K ⟨bb,o,none⟩)->Ix s3.a s3.len (i:Int) 9 K:=fun hk=>Ix.elem (w:=aa w8) afk.rd (bX L) (by decide) (by omega) (by have:=FA.len;omega) fun bb o iv _ hc=>hk bb o (by simpa using hc)
  have g8d:(aa w8).heap[b]? = _:=g8;have acz:(aa w8).heap[b1]? = _:=vN;have s_:(1:Int)<=((kI+1:Nat):Int):=by omega
  have st:=fun(zz:Unit)=>cK (w:=aa w8) (n:=4) (vs:=[.int .u32 L[i].1.cd.p,.int .u64 L[i].1.cd.c,.int .u16 L[i].1.cd.g,.int .u8 (((kI+1:Nat):Int) - 1)]) (K:=fun w9=>True/\∃m1,m1 < kI+1/\I0 m1 s8 w9) g8d rfl rfl (by simp[aN]) fun w9 g9 x9 _=>⟨trivial,fin w9 g9 x9.aj⟩
  refine⟨fun _=>True,trivial,⟨_,Cell.ai acz rfl,trivial,ix fun bb o hc=>⟨⟨_,hc 6 _ rfl,_,hc 7 _ rfl,_,hc 8 _ rfl,trivial,_,Cell.ai g8d rfl,trivial,Ar.u8 (by omega) (st ())⟩,⟨_,Cell.ai g8d rfl,trivial,Ar.u8 (by omega) ⟨_,hc 6 _ rfl,_,hc 7 _ rfl,_,hc 8 _ rfl,trivial,st ()⟩⟩⟩⟩,
   ⟨_,Cell.ai g8d rfl,trivial,Ar.u8 (by omega) ⟨_,Cell.ai acz rfl,trivial,ix fun bb o hc=>⟨_,hc 6 _ rfl,_,hc 7 _ rfl,_,hc 8 _ rfl,trivial,st ()⟩⟩⟩⟩
end
end Go.Proofs.YtpjbalhhlaofmaaGreat
namespace Go.V
def iV(h:Array Obj)(n0:Nat)(X:Nat->Prop)(f:bH)(m:bB)(t:Int)(r:Rf)(lev bc:Nat)(kvs:List KV)(a:Nat):Prop:=
 n0<=bc/\¬ X bc/\∃p:Sl,h[bc]? = some (.cells (qh m t r lev p).toArray 183 (0,0))/\((r = .z/\lev=0/\kvs=[]/\p=⟨none,0,0⟩/\a=0)∨(r ≠ .z/\∃P:List fo,jt h n0 (fun q=>q=bc∨X q) p P/\(∀q,p.aq=some q->q≠bc/\¬ X q)/\(∀j (hj:j < P.length),P[j].v=((lev - j:Nat):Int))/\gC f t lev kvs (P.map fo.abs) a))
theorem iV.ext{S X X':Nat->Prop}{w w':Wd}{n0:Nat}{f:bH}{m:bB}{t:Int}{r:Rf}{lev bc:Nat}{kvs:List KV}{a:Nat}(c:iV w.heap n0 X f m t r lev bc kvs a)(x:Ext S w w')(h1:∀q,q < w.heap.size->n0<=q->q≠bc->¬ X q->¬ S q)(h2:¬ S bc)(h3:∀q,X' q->X q):iV w'.heap n0 X' f m t r lev bc kvs a:=by
 obtain⟨hn,hx,p,hb,h⟩:=c;refine⟨hn,fun e=>hx (h3 _ e),p,Go.Proofs.YtpjbalhhlaofmaaGreat.af hb x h2,?_⟩;rcases h with h | ⟨hr,P,hP,hp,hv,hA⟩
 .exact .inl h
 .refine .inr ⟨hr,P,(hP.ext x (fun q hq=>?_) fun q hl hn _ hX=>h1 q hl hn (fun e=>hX (.inl e)) fun e=>hX (.inr e)).mono fun q _ hq=>hq.imp id (h3 q),fun q hq=>⟨(hp q hq).1,fun e=>(hp q hq).2 (h3 q e)⟩,hv,hA⟩;exact h1 q (hP.own.lt hq).2 (hP.own.lt hq).1 (hp q hq).1 (hp q hq).2
theorem iV.sub{X X':Nat->Prop}{h:Array Obj}{n0:Nat}{f:bH}{m:bB}{t:Int}{r:Rf}{lev bc:Nat}{kvs:List KV}{a:Nat}(c:iV h n0 X f m t r lev bc kvs a)(h3:∀q,X' q->X q):iV h n0 X' f m t r lev bc kvs a:=by
 obtain⟨hn,hx,p,hb,h⟩:=c;refine⟨hn,fun e=>hx (h3 _ e),p,hb,?_⟩;rcases h with h | ⟨hr,P,hP,hp,hv,hA⟩
 .exact .inl h
 .exact .inr ⟨hr,P,hP.mono fun q _ hq=>hq.imp id (h3 q),fun q hq=>⟨(hp q hq).1,fun e=>(hp q hq).2 (h3 q e)⟩,hv,hA⟩
end Go.V
namespace Go.Proofs.YtpjbalhhlaofmaaGreat
open Go.V
section
variable {w:Wd} {T:Nat->Option Nat} {m:bB} {M:Mm}
def NZ(_:Nat)(_:List aH)(i:Nat):Prop:=i=0
def zx(lev:Nat)(l:List aH)(i:Nat):Prop:=i=if lev=0 then l.length else l.length - 1
def S7(key:List Int)(lev:Nat)(l:List aH)(i:Nat):Prop:=(lev=0->∃f,Rx l key i f)/\(lev≠0->vQ l key i)
theorem KU{S:Nat->Prop}:qi w S (.func (.func 103) #[] #[]) NZ:=by
 intro w' lev s L K _ _ _ _ _ _ hk;refine Hh (Hg (ag.mk fun b w1 n1=>hk 0 w1 rfl n1.ext))
theorem N_{S:Nat->Prop}:qi w S (.func (.func 149) #[] #[]) zx:=by
 intro w' lev s L K _ nd hl dn bC _ hk;have JF:=nd.len;have s_:1<=L.length:=List.length_pos_iff.2 bC;refine Jp (Jo (ag.mk fun b w1 n1=>⟨_,Cell.ai n1.get rfl,If.beq (fun h=>⟨_,Cell.ai n1.get rfl,?_⟩) fun h=>⟨_,Cell.ai n1.get rfl,Ar.i64 (by omega) ?_⟩⟩))
 .rw[JF];exact hk L.length w1 (by unfold zx;rw[if_pos (by omega)];simp) n1.ext
 .have:=hk (L.length - 1) w1 (by unfold zx;rw[if_neg (by omega)];simp) n1.ext;have e:((L.length - 1:Nat):Int)=(s.len:Int) - 1:=by omega
  rw[e]at this;exact this
theorem Vg{S:Nat->Prop}{bk:Nat}{ks:Sl}{kb:List Int}(hb:w.heap[bk]? = some (.cells [.slice ks.a ks.len ks.cap].toArray 23 (0,0)))(hk:cZ w.heap ks kb)(k8:B8 kb)(hS:∀q,¬ S q):qi w S (.func (.func 148) #[] #[.pointer (some (A1 bk))]) (S7 kb):=by
 intro w' lev s L K x nd hl dn bC hR Pz;have x':Ext No w w':=x.mono fun q _ h=>hS q h
 have g':=ad hb x';have V0:=Rd.no hk x';refine tu (c0:=A1 bk) (tq (ag.mk fun b w1 n1=>⟨_,Cell.ai n1.get rfl,If.dec (fun h=>⟨_,Cell.ai n1.get rfl,_,Cell.ai n1.get rfl,_,Cell.ai n1.get rfl,_,Cell.ai (ad g' n1.ext) rfl,?_⟩) fun h=>⟨_,Cell.ai n1.get rfl,_,Cell.ai n1.get rfl,_,Cell.ai n1.get rfl,_,Cell.ai (ad g' n1.ext) rfl,?_⟩⟩))
 .have acA:bE (lev:Int)=2:=by unfold bE;rw[if_neg (by omega)]
  have h0:∃e l,ents L=e::l/\e.key=[]:=by
   cases hL:ents L with
   | nil=>exact absurd (me hL) (by simpa using bC)
   | cons e l=>
    refine⟨e,l,rfl,?_⟩;have:=(hR.iw 0 (by rw[hL];simp)).1;rw[acA]at this;unfold nf at this;rw[if_pos ⟨rfl,rfl⟩]at this;have h2:(ents L)[0]'(by rw[hL];simp)=e:=by simp[hL]
    rw[h2]at this;exact List.eq_nil_of_length_eq_zero (by simpa using this)
  refine vT (nd.no n1.ext) (Rd.no V0 n1.ext) k8 hl hR.ord h0 fun i w2 hc x2=>Pz i w2 ⟨fun h=>by omega,fun _=>hc⟩ (n1.ext.no x2)
 .refine find_spec (nd.no n1.ext) (Rd.no V0 n1.ext) k8 hl fun i f w2 hf x2=>Pz i w2 ⟨fun _=>⟨f,hf⟩,fun h=>by omega⟩ (n1.ext.no x2)
theorem DJ{f:bH}{t:Int}:zw f t NZ fun _ a=>a=0:=by
 refine⟨fun l kvs i hk hi=>⟨by rw[hi];omega,hi⟩,fun lv l kvs ps i hk hr bC hi=>?_⟩;have iv:i=0:=hi;subst iv;obtain⟨pre,kv,post,p,h1,h2,h3,h4⟩:=Ib hk (List.length_pos_iff.2 bC);refine⟨pre,kv,post,p,h1,⟨_,h2⟩,h3,h4,fun a' ha=>?_⟩;rw[List.take_zero]at h1
 cases h1
 simpa using ha
theorem Gj{f:bH}{t:Int}:zw f t zx fun kvs a=>a=kvs.length:=by
 refine⟨fun l kvs i hk hi=>?_,fun lv l kvs ps i hk hr bC hi=>?_⟩
 .have:=congrArg List.length hk;simp only[List.length_map]at this;unfold zx at hi;rw[if_pos rfl]at hi;exact⟨by omega,by omega⟩
 .unfold zx at hi;rw[if_neg (by omega)]at hi;have s_:=List.length_pos_iff.2 bC;obtain⟨pre,kv,post,p,h1,h2,h3,h4⟩:=Ib hk (show i < l.length by omega);refine⟨pre,kv,post,p,h1,⟨_,h2⟩,h3,h4,fun a' ha=>?_⟩;rw[List.drop_eq_nil_of_le (by omega)]at h3
  cases h3
  rw[h4];simp;omega
theorem PS{f:bH}{t:Int}{key:List Int}:zw f t (S7 key) fun kvs a=>wx kvs key a:=by
 refine⟨fun l kvs i hk hi=>?_,fun lv l kvs ps i hk hr bC hi=>?_⟩
 .obtain⟨g,hf⟩:=hi.1 rfl;have hl:=congrArg List.length hk;simp only[List.length_map]at hl
  have ek:∀j (h1:j < l.length) (h2:j < kvs.length),l[j].key=kvs[j].1:=fun j h1 h2=>by
   have:=congrArg (fun x=>x[j]?) hk;simpa only[List.getElem?_map,List.getElem?_eq_getElem h1,List.getElem?_eq_getElem h2,Option.map_some,Option.some.injEq] using this
  refine⟨hf.le,⟨by have:=hf.le;omega,fun j hj BJ=>?_,fun hj=>?_⟩⟩
  .rw[<- ek j (by omega) hj];exact hf.lt j (by omega) BJ
  .rw[<- ek i (by omega) hj];exact hf.ge (by omega)
 .have hc:=hi.2 (by omega);obtain⟨pre,kv,post,p,h1,h2,h3,h4,h5,h6⟩:=Gh hk hr hc;exact⟨pre,kv,post,p,h1,⟨hc.lt,h2⟩,h3,h4,fun a' ha=>by rw[h4];exact ha.mid h5 h6⟩
theorem zy{bc n0:Nat}{t:Int}{r:Rf}{lev:Nat}{ch:Value}{kvs:List KV}{ps:List Rf}{Ch:Nat->List aH->Nat->Prop}{G:List KV->Nat->Prop}{K:Int->Pw}
  (R:aY w.heap T m M) (yR:n0<=w.heap.size) (wy:dB M.f t r lev kvs ps) (dn:lev<=30) (hc:∃p,w.heap[bc]? = some (.cells (qh m t r lev p).toArray 183 (0,0))/\(r = .z->p=⟨none,0,0⟩)) (K_:n0<=bc) (ZL:qi w (fun _=>False) ch Ch) (hG:zw M.f t Ch G) (hG0:kvs=[]->G kvs 0)
  (k:∀a w',iV w'.heap n0 (fun q=>q < w.heap.size/\q≠bc) M.f m t r lev bc kvs a->G kvs a->Ext (·=bc) w w'->K 0 w'):eh (some ⟨bc,0,none⟩) ch w K:=by
 apply vw;obtain⟨p,gc,hp⟩:=hc;refine⟨fun w'=>w'=w,If.no (Nn.mk ⟨_,Cell.ai gc rfl,trivial,If.no rfl⟩),?_⟩;rintro _ w1 rfl;refine Nn.mk ⟨_,Cell.ai gc rfl,_,Cell.ai gc rfl,_,Cell.ai gc rfl,_,Cell.ai gc rfl,?_⟩;dsimp only;rw[JQ];rcases wy with⟨h1,h2,h3,h4⟩ | ⟨h1,h2,hS⟩
 .have sK:=hp h1;have l0:lev=0:=by omega
  subst l0;rw[h1];refine If.yes (k 0 _ ⟨K_,fun h=>h.2 rfl,p,gc,.inl ⟨h1,rfl,h3,sK,rfl⟩⟩ (hG0 h3) (Ext.refl _ _))
 .rw[decide_eq_false h1];rw[Int.toNat_natCast]at hS;refine If.no (Nn.mk ⟨_,Cell.ai gc rfl,_,Cell.ai gc rfl,_,Cell.ai gc rfl,_,Cell.ai gc rfl,?_⟩);have oR:=blt gc;refine Gi (X:=fun q=>q < w1.heap.size) (path:=⟨none,0,0⟩) (P0:=[]) R (fun q h=>by simp[Sl.aq]at h) yR gc (by simp[Sl.aq]) (jt.nil _ _ _) (fun q h=>h) (by simp) hS dn (fun x=>ZL (x.mono fun q _ h=>by simp[Sl.aq]at h)) hG fun s P1 a w2 hP hv hA hg x2 hs=>If.beq (fun _=>?_) fun h=>(h rfl).elim
  have x2':Ext No w1 w2:=x2.mono fun q _ h=>by simp[Sl.aq]at h
  have S6:=ad gc x2'
  have sb:∀q,s.aq=some q->w1.heap.size<=q:=fun q hq=>by
   rcases hs with h | ⟨c,h,hc⟩
   .rw[h]at hq;simp[Sl.aq]at hq
   .rw[h]at hq;cases hq;exact hc
  refine Nn.mk (aF.mk S6 (by show 6 < 7;decide) rfl fun w3 h3=>?_);have g3:w3.heap[bc]? = some (.cells (qh m t r lev s).toArray 183 (0,0)):=h3.get S6;have x3:Ext (·=bc) w2 w3:=h3.ext;refine k a w3 ⟨K_,fun h=>h.2 rfl,s,g3,.inr ⟨h1,P1,?_,fun q hq=>⟨by have:=sb q hq;omega,fun h=>by have:=sb q hq;have:=h.1;omega⟩,hv,hA⟩⟩ hg (x2'.aG.trans x3 fun _ _ h=>h);rw[List.nil_append]at hP;exact(hP.ext x3 (fun q hq h=>by have:=sb q hq;omega) fun q _ _ _ h h'=>h (by omega)).mono fun q _ h=>h.elim (fun h=>by omega) fun h=>h.1
end
end Go.Proofs.YtpjbalhhlaofmaaGreat
namespace Go.V
theorem iV.path{h:Array Obj}{n0:Nat}{X:Nat->Prop}{f:bH}{m:bB}{t:Int}{r:Rf}{lev bc:Nat}{kvs:List KV}{a:Nat}(c:iV h n0 X f m t r lev bc kvs a):∃p,h[bc]? = some (.cells (qh m t r lev p).toArray 183 (0,0))/\(r = .z->p=⟨none,0,0⟩):=by
 obtain⟨_,_,p,hb,h | ⟨hr,_⟩⟩:=c
 .exact⟨p,hb,fun _=>h.2.2.2.1⟩
 .exact⟨p,hb,fun h=>(hr h).elim⟩
theorem iV.no{X:Nat->Prop}{w w':Wd}{n0:Nat}{f:bH}{m:bB}{t:Int}{r:Rf}{lev bc:Nat}{kvs:List KV}{a:Nat}(c:iV w.heap n0 X f m t r lev bc kvs a)(x:Ext No w w'):iV w'.heap n0 X f m t r lev bc kvs a:=c.ext x (fun _ _ _ _ _ h=>h) (fun h=>h) fun _ h=>h
end Go.V
namespace Go.Proofs.YtpjbalhhlaofmaaGreat
open Go.V
section
variable {w:Wd} {T:Nat->Option Nat} {m:bB} {M:Mm}
theorem PT{n0:Nat}{t:Int}{r:Rf}{lev:Nat}{kvs:List KV}{ps:List Rf}{K:Option Addr->Int->Pw}(R:aY w.heap T m M)(yR:n0<=w.heap.size)(wy:dB M.f t r lev kvs ps)(dn:lev<=30)
  (k:∀bc w',iV w'.heap n0 (fun q=>q < w.heap.size) M.f m t r lev bc kvs 0->w.heap.size<=bc->Ext No w w'->K (some ⟨bc,0,none⟩) 0 w'):td (eW m) t r.p r.c r.g lev w K:=by
 apply Jn
 refine ag.mk fun b w1 n1=>⟨trivial,If.no ⟨_,Cell.ai n1.get rfl,_,Cell.ai n1.get rfl,_,Cell.ai n1.get rfl,_,Cell.ai n1.get rfl,rfl,ag.mk fun b1 w2 n2=>?_⟩⟩
 have hZ:=n1.ext.no n2.ext;have gE:=n2.at_;have z1:=n1.size;have z2:=n2.size;have g2:w2.heap[b1]? = some (.cells (qh m t r lev ⟨none,0,0⟩).toArray 183 (0,0)):=n2.get;refine zy (n0:=n0) (R.no hZ) (by omega) wy dn ⟨_,g2,fun _=>rfl⟩ (by omega) KU DJ (fun _=>rfl) fun a w3 c hg x3=>If.bne (fun h=>(h rfl).elim) fun _=>?_
 have hg':a=0:=hg;rw[hg']at c;exact k b1 w3 (c.sub fun q h=>⟨by omega,by omega⟩) (by omega) (hZ.trans x3 fun q hq h=>by omega)
theorem DK{n0 bc:Nat}{t:Int}{r:Rf}{lev a0:Nat}{ks:Sl}{kb:List Int}{X:Nat->Prop}{kvs:List KV}{ps:List Rf}{K:Int->Pw}(R:aY w.heap T m M)(yR:n0<=w.heap.size)(wy:dB M.f t r lev kvs ps)(dn:lev<=30)(c:iV w.heap n0 X M.f m t r lev bc kvs a0)(hk:cZ w.heap ks kb)(k8:B8 kb)
  (k:∀a w',iV w'.heap n0 (fun q=>q < w.heap.size/\q≠bc) M.f m t r lev bc kvs a->wx kvs kb a->Ext (·=bc) w w'->K 0 w'):fT (some ⟨bc,0,none⟩) ks w K:=by
 apply vD;refine ag.mk fun b w1 n1=>?_
 obtain⟨p,gc,hp⟩:=c.path;have z1:=n1.size;refine zy (R.no n1.ext) (by omega) wy dn ⟨p,ad gc n1.ext,hp⟩ c.1 (Vg n1.get (Rd.no hk n1.ext) k8 fun _ h=>h) PS (fun h=>?_) fun a w2 c2 hg x2=>k a w2 (c2.sub fun q h=>⟨by have:=h.1;omega,h.2⟩) hg (n1.ext.aG.trans x2 fun _ _ h=>h)
 rw[h];exact⟨by simp,fun j hj _=>absurd hj (by simp),fun hj=>absurd hj (by simp)⟩
theorem PU{n0 bc:Nat}{X:Nat->Prop}{t:Int}{r:Rf}{lev a0:Nat}{kvs:List KV}{ps:List Rf}{K:Int->Pw}(R:aY w.heap T m M)(yR:n0<=w.heap.size)(wy:dB M.f t r lev kvs ps)(dn:lev<=30)(c:iV w.heap n0 X M.f m t r lev bc kvs a0)
  (k:∀w',iV w'.heap n0 (fun q=>q < w.heap.size/\q≠bc) M.f m t r lev bc kvs kvs.length->Ext (·=bc) w w'->K 0 w'):jI (some ⟨bc,0,none⟩) w K:=by
 apply wX;obtain⟨p,gc,hp⟩:=c.path;refine zy R yR wy dn ⟨p,gc,hp⟩ c.1 N_ Gj (fun h=>by rw[h];rfl) fun a w2 c2 hg x2=>?_
 have hg':a=kvs.length:=hg;rw[hg']at c2;exact k w2 c2 x2
theorem DL{bc:Nat}{t:Int}{r:Rf}{lev:Nat}{p:Sl}{x:aL}{e:aH}{v:List Int}{kvs:List KV}{ps:List Rf}{K:Sl->Sl->Int->Pw}(R:aY w.heap T m M)(wy:dB M.f t r lev kvs ps)(dn:lev<=30)(gc:w.heap[bc]? = some (.cells (qh m t r lev p).toArray 183 (0,0)))(er:mG w.heap x e)(kl:1<=e.key.length/\e.key.length<=32)(k8:B8 e.key)(hv:ca kvs e.key=some v)
  (k:∀ks vs w',aU w'.heap w.heap.size ks e.key->aU w'.heap w.heap.size vs v->(∀q,ks.aq=some q->vs.aq≠some q)->Ext No w w'->K ks vs 0 w'):cw (some ⟨bc,0,none⟩) x.k x.v x.n x.ch.p x.ch.c x.ch.g x.cd.p x.cd.c x.cd.g w K:=by
 apply vy;refine ag.mk fun b w1 n1=>ag.mk fun b1 w2 n2=>?_
 have hZ:=n1.ext.no n2.ext;have g2:w2.heap[b]? = some (.cells x.cs.toArray 151 (0,0)):=ad n1.get n2.ext;have S6:=ad gc hZ;have gE:=n2.at_;have z1:=n1.size;have z2:=n2.size;refine⟨Ext No w2,(Ext.refl _ _).drew,Nn.mk ⟨_,ae.cell (Cell.ai S6 rfl),Nn.mk ⟨_,ae.cell (Cell.ai S6 rfl),Nn.mk ⟨_,ae.cell (Cell.ai S6 rfl),_,ae.cell (Cell.ai S6 rfl),_,ae.cell (Cell.ai S6 rfl),_,ae.cell (Cell.ai S6 rfl),_,ae.cell (Cell.ai g2 rfl),?_⟩⟩⟩⟩;have er2:=er.no hZ;have R2:aY (aa w2).heap T m M:=R.no hZ.drew;have CO:cZ (aa w2).heap x.k e.key:=er2.k;refine nj (w:=aa w2) R2 wy (by omega) CO k8 (fun w' h _=>by omega) (fun w' _ _ h _=>by rw[hv]at h;cases h) fun v' vs w3 _ _ ZF o3 x3=>?_
 rw[hv]at ZF;cases ZF;have mJ:Ext No w2 w3:=x3.aj;refine⟨mJ,If.bne (fun h=>(h rfl).elim) fun _=>⟨_,Cell.ai (ad g2 mJ) rfl,?_⟩⟩;have o3':aU w3.heap w2.heap.size vs v:=o3;have y3:=mJ.size
 refine lj (er2.no mJ).k (by omega) fun ks w5 o5 x5=>cK (ad (ad n2.get mJ) x5) rfl rfl (by simp[aN]) fun w6 g6 x6 _=>⟨_,Cell.ai g6 rfl,_,Cell.ai g6 rfl,?_⟩
 have YT:Ext (·=b1) w5 w6:=x6;refine k ks vs w6 ((aT.mono o5 (by omega)).ext YT fun q hq h=>by have:=(o5.lt hq).1;omega) ((aT.mono (o3'.no x5) (by omega)).ext YT fun q hq h=>by have:=(o3'.lt hq).1;omega) (fun q h1 h2=>by have:=(o5.lt h1).1;have:=(o3'.lt h2).2;omega) (((hZ.no mJ).no x5).trans YT fun q hq h=>by omega)
set_option maxHeartbeats 2000000 in
theorem Gk{bc n0:Nat}{X:Nat->Prop}{d t:Int}{r:Rf}{lev a:Nat}{p:Sl}{P:List fo}{ch:Value}{Ch:Nat->List aH->Nat->Prop}{G:List KV->Nat->Prop}{kvs:List KV}{K:Sl->Int->Pw}(hd:d=1∨d = -1)
  (R:aY w.heap T m M) (yR:n0<=w.heap.size) (dn:lev<=30) (gc:w.heap[bc]? = some (.cells (qh m t r lev p).toArray 183 (0,0))) (hP:jt w.heap n0 (fun q=>q=bc∨X q) p P) (hX:∀q,X q->q < w.heap.size) (hv:∀j (hj:j < P.length),P[j].v=((lev - j:Nat):Int)) (hA:gC M.f t lev kvs (P.map fo.abs) a)
  (hl:∀x,(P.map fo.abs).getLast? = some x->if d=1 then x.2=x.1.length else x.2=0) (ZL:∀{w' S},qi w' S ch Ch) (hG:zw M.f t Ch G) (hGe:∀kv a,G kv a->a=if d=1 then 0 else kv.length)
  (acB:∀w',a=(if d=1 then kvs.length else 0)->Ext No w w'->K ⟨none,0,0⟩ 0 w')
  (k:∀s P' w',jt w'.heap n0 (fun q=>q=bc∨X q) s P'->(∀q,s.aq=some q->w.heap.size<=q)->(∀j (hj:j < P'.length),P'[j].v=((lev - j:Nat):Int))->gC M.f t lev kvs (P'.map fo.abs) a->(∀x,(P'.map fo.abs).getLast? = some x->x.1≠[]/\if d=1 then x.2=0 else x.2=x.1.length)->Ext No w w'->K s 0 w'):fV (some ⟨bc,0,none⟩) d ch w K:=by
 apply vx;have xW:=hP.len;have Tt:P.length=lev+1:=by have:=hA.len;simpa using this
 have hml:(P.map fo.abs).length=P.length:=by simp
 have afi:=blt gc;refine Nn.mk ⟨_,Cell.ai gc rfl,Ar.i64 (by omega) ?_⟩;refine⟨fun q i w'=>w'=w/\ -1<=i/\i+2<=(P.length:Int)/\q=(i+1).toNat/\∀j (h:j+1 < (P.map fo.abs).length),i < (j:Int)->¬ KT d (P.map fo.abs)[j],⟨_,rfl,by omega,by omega,rfl,fun j h1 h2=>by simp at h1;omega⟩,?_⟩;rintro _ m0 i w1 ⟨rfl,VA,qp,hq,DX⟩;refine If.dec (fun h=>?_) fun h=>?_
 .obtain⟨j,rfl⟩ : ∃j:Nat,i=j:=⟨i.toNat,by omega⟩
  have hj:j < P.length:=by omega
  have afl:=hP.nd _ (List.getElem_mem hj);have fh:=afl.nd.len;refine Nn.mk ⟨_,Cell.ai gc rfl,Ix.elem hP.own.rd (eo P) (by decide) (by omega) (by omega) fun bb o _ _ hc=>?_⟩;simp only[Int.toNat_natCast]at hc
  -- places are small
  have Yv:=hP.sm _ (List.getElem_mem hj);have hjm:j < (P.map fo.abs).length:=by rw[hml];exact hj
  refine⟨_,hc 3 _ rfl,Ar.i64 (by omega) ?_⟩
  have cont:∀w':Wd,w'=w1->¬ KT d (P.map fo.abs)[j]->∃m1,m1 < m0/\(w'=w1/\ -1<=(j:Int) - 1/\(j:Int) - 1+2<=(P.length:Int)/\m1=((j:Int) - 1+1).toNat/\∀j' (h:j'+1 < (P.map fo.abs).length),(j:Int) - 1 < (j':Int)->¬ KT d (P.map fo.abs)[j']):=fun w' hw hm=>⟨((j:Int) - 1+1).toNat,by omega,hw,by omega,by omega,rfl,fun j' h1 h2=>by
   rcases Nat.lt_or_ge j j' with h3 | h3
   .exact DX j' h1 (by omega)
   .have:j'=j:=by omega
    subst this;exact hm⟩
  refine⟨fun w'=>w'=w1/\KT d (P.map fo.abs)[j],If.dec (fun hz=>Ar.i64 (by omega) (cont w1 rfl fun hm=>?_)) fun hz=>Nn.mk ⟨_,Cell.ai gc rfl,Ix.elem hP.own.rd (eo P) (by decide) (by omega) (by omega) fun bb o _ _ hc=>?_⟩,?_⟩
  .have:=hm.1;simp[fo.abs]at this;omega
  .simp only[Int.toNat_natCast]at hc;refine⟨_,hc 2 _ rfl,If.dec (fun hz2=>Ar.i64 (by omega) (cont w1 rfl fun hm=>?_)) fun hz2=>⟨rfl,?_,?_⟩⟩
   .have:=hm.2;simp[fo.abs]at this;omega
   .simp[fo.abs];omega
   .simp[fo.abs];omega
  rintro _ w2 ⟨rfl,acC⟩;rcases hA.over hd hl with⟨j',oP,m1,m2,i',e1,iv,kv,p',hS,hN⟩ | ⟨acD,_⟩
  .have YP:j'=j:=by
    simp only[List.length_map]at oP;rcases Nat.lt_trichotomy j' j with h3 | h3 | h3
    .exact absurd acC (m2 j (by simp;omega) h3)
    .exact h3
    .exact absurd m1 (DX j' (by simp;omega) (by omega))
   subst YP;have eP:(P.map fo.abs)[j']=P[j'].abs:=by simp
   simp only[eP]at e1 iv hS hN;have e1':(i':Int)=(P[j'].i:Int)+d:=e1;have acE:i' < (ents P[j'].L).length:=iv;have zC:bu M.f t (lev - 1 - j') (ents P[j'].L)[i'].cd kv p':=hS;refine Ar.i64 (by omega) (Nn.mk ⟨_,Cell.ai gc rfl,Ik.mk (by omega) (by omega) (by omega) (by omega) fun b w3 n3=>Nn.mk ⟨_,Cell.ai (ad gc n3.ext) rfl,?_⟩⟩);have hb:=n3.at_;have z3:=n3.size;have t1:((j':Int)+1).toNat=j'+1:=by omega
   have t2:((p.len:Int)).toNat=P.length:=by omega
   rw[t1,t2];have n3':=n3.get;rw[t2]at n3';have YU:((List.replicate P.length [Value.int .u8 0,Value.int .u8 0,Value.slice none 0 0,Value.int .i64 0]).flatten).length=P.length * 4:=by simp
   have vX:min p.len (j'+1)=j'+1:=by omega
   have Uc:(P.flatMap fo.cs).take ((j'+1) * 4)=(P.take (j'+1)).flatMap fo.cs:=by
    conv=>lhs;rw[<- List.take_append_drop (j'+1) P]
    rw[List.flatMap_append,List.take_append];have NF:((P.take (j'+1)).flatMap fo.cs).length=(j'+1) * 4:=by rw[aK (eo _),List.length_take,Nat.min_eq_left (by omega)]
    rw[NF,Nat.sub_self,List.take_zero,List.append_nil,List.take_of_length_le (by omega)]
   refine Co (d:=⟨some ⟨b,0,none⟩,j'+1,P.length⟩) (x:=p) rfl n3' (hP.own.no n3.ext).rd (by rw[YU];simp only[vX];omega) fun w4 h4=>?_
   simp only[vX,Uc]at h4;have g4:=h4.get n3';have l4:((P.take (j'+1)).flatMap fo.cs).length=(j'+1) * 4:=by rw[aK (eo _),List.length_take,Nat.min_eq_left (by omega)]
   rw[dY _ _ _ (by rw[YU,l4];omega),List.take_zero,List.nil_append]at g4;have Bn:Ext (·=b) w3 w4:=h4.ext;have z4:w4.heap.size=w3.heap.size:=h4.size
   have o4:aT w4.heap n0 230 4 ⟨some ⟨b,0,none⟩,j'+1,P.length⟩ ((P.take (j'+1)).flatMap fo.cs):=by
    refine⟨l4,.inr ⟨b,_,rfl,by omega,g4,?_,by simp only;omega⟩,fun v hv=>?_⟩
    .rw[List.length_append,List.length_drop,YU,l4];simp only;omega
    .obtain⟨y,_,hy⟩:=List.mem_flatMap.1 hv;exact WI y v hy
   refine⟨_,rfl,by omega,by simp only;omega,?_⟩;have ea:(⟨b,0,none⟩ : Addr).add ((j':Int).toNat * 4)=⟨b,j' * 4,none⟩:=by rw[ay rfl];simp
   rw[ea];refine aF.at_ (b:=b) (off:=j' * 4+3) o4 rfl (by rw[l4];omega) rfl fun w5 o5 x5 z5=>?_
   have Ku:Ext (·=b) w4 w5:=x5.mono fun q _ h=>by simp[Sl.aq]at h;exact h.symm
   have BB:Ext No w2 w5:=(n3.ext.trans Bn fun q hq h=>by omega).trans Ku fun q hq h=>by omega
   have yQ:((P.take (j'+1)).flatMap fo.cs).set (j' * 4+3) (.int .i64 ((P[j'].i:Int)+d))=(P.take j'++[{ P[j'] with i:=i' }]).flatMap fo.cs:=by
    have hjt:j' < (P.take (j'+1)).length:=by rw[List.length_take];omega
    have h1:=xo (f:=fo.cs) (n:=4) (l:=P.take (j'+1)) (i:=j') (o:=3) (vs:=[.int .i64 ((P[j'].i:Int)+d)]) (y:={ P[j'] with i:=i' }) (eo _) hjt (by simp) (by
     rw[List.getElem_take,<- e1'];rfl)
    have h2:(P.take (j'+1)).set j' { P[j'] with i:=i' }=P.take j'++[{ P[j'] with i:=i' }]:=by
     have cL:(P.take j').length=j':=by rw[List.length_take];omega
     rw[List.take_add_one,List.getElem?_eq_getElem hj,Option.toList_some,List.set_append_right _ _ (by omega),cL,Nat.sub_self];rfl
    rw[h2]at h1;exact h1
   rw[yQ]at o5;generalize Tu:P.take j'++[({ P[j'] with i:=i' }:fo)]=P2 at o5;have l2:P2.length=j'+1:=by rw[<- Tu,List.length_append,List.length_take];simp;omega
   have g2j:P2[j']'(by omega)={ P[j'] with i:=i' }:=by
    have cL:(P.take j').length=j':=by rw[List.length_take];omega
    subst Tu;rw[List.getElem_append_right (by omega)];simp[cL]
   have g2o:∀k (h1:k < P2.length),P2[k].v=P[k].v:=fun k h1=>by
    rcases Nat.lt_or_ge k j' with h | h
    .subst Tu;rw[List.getElem_append_left (by rw[List.length_take];omega),List.getElem_take]
    .have:k=j':=by omega
     subst this;rw[g2j]
   have hy2:∀y∈P2,∃z∈P,y.s=z.s/\y.L=z.L/\(y.i=z.i∨y.i=i'/\y.L=P[j'].L):=fun y hy=>by
    rw[<- Tu]at hy;rcases List.mem_append.1 hy with h | h
    .exact⟨y,List.mem_of_mem_take h,rfl,rfl,.inl rfl⟩
    .rw[List.mem_singleton]at h;exact⟨P[j'],List.getElem_mem hj,by rw[h],by rw[h],.inr ⟨by rw[h],by rw[h]⟩⟩
   have WJ:jt w5.heap n0 (fun q=>q=bc∨X q) ⟨some ⟨b,0,none⟩,j'+1,P.length⟩ P2:=by
    refine⟨o5,fun y hy=>?_,fun y hy=>?_⟩
    .obtain⟨z,hz,e2,e3,_⟩:=hy2 y hy;rw[e2,e3]
     have h1:=(hP.nd z hz).mono (B':=fun q=>(n0<=q/\¬ (q=bc∨X q))/\q < w2.heap.size) fun q h1 h2=>⟨⟨h2.1,h2.2.2⟩,h1⟩
     exact(h1.no BB).mono fun q _ h2=>⟨h2.1.1,(fun h3=>by simp[Sl.aq]at h3;omega),h2.1.2⟩
    .obtain⟨z,hz,e2,e3,e4⟩:=hy2 y hy;have h1:=hP.sm z hz;rw[e3];refine⟨h1.1,?_⟩;rcases e4 with h | ⟨h,h2⟩
     .rw[h];exact h1.2
     .have h3:=(hP.sm _ (List.getElem_mem hj)).1;simp at acE;omega
   refine Ix.elem WJ.own.rd (eo P2) (by decide) (by omega) (by simp only;omega) fun b5 o5' hi5 _ hc5=>?_
   simp only[Int.toNat_natCast,g2j]at hc5;refine⟨_,hc5 0 _ rfl,_,hc5 1 _ rfl,_,hc5 2 _ rfl,bA rfl rfl (by simp[aN]) fun b2 w7 g7 lO z7 x7=>?_⟩;have wA:=BB.no x7;have y07:=wA.size;have Oa:=WJ.no x7;have ndq:=Oa.nd P2[j'] (List.getElem_mem (by omega));rw[g2j]at ndq;have YV:oQ w7.heap P[j'].s P[j'].L:=ndq.nd;have NC:i' < P[j'].L.length:=by simpa using acE
   have hl7:=YV.len;have VQ:¬ (⟨some ⟨b,0,none⟩,j'+1,P.length⟩ : Sl).aq=some b2:=fun h=>by simp[Sl.aq]at h;have:=BB.size;omega
   have RW:j'+1<=lev:=by omega
   refine⟨Ext (fun q=>(⟨some ⟨b,0,none⟩,j'+1,P.length⟩ : Sl).aq=some q) w7,(Ext.refl _ _).drew,_,ae.dQ (Cell.ai g7 rfl) VQ,?_⟩;rw[show(P[j'].i:Int)+d=(i':Int) from e1'.symm];refine Ix.elem YV.rd (bX _) (by decide) (by omega) (by show(i':Int) < (P[j'].s.len:Int);omega) fun bb ob VI hbb hcb=>?_
   simp only[Int.toNat_natCast]at VI hcb;have BD:¬ (⟨some ⟨b,0,none⟩,j'+1,P.length⟩ : Sl).aq=some bb:=fun h=>(ndq.sb bb hbb).2.1 h
   have VW:=hv j' hj;refine⟨_,ae.dQ (hcb 6 _ rfl) BD,_,ae.dQ (hcb 7 _ rfl) BD,_,ae.dQ (hcb 8 _ rfl) BD,_,ae.dQ (Cell.ai g7 rfl) VQ,Ar.u8 (by simp only[VW];omega) ?_⟩;have er:=YV.get NC;have ec:(P[j'].L[i'].1).cd=(ents P[j'].L)[i'].cd:=by rw[er.cd];simp
   have ev:((P[j'].v) - 1)=((lev - 1 - j':Nat):Int):=by rw[VW];omega
   simp only[ec,ev];have R7:aY (aa w7).heap T m M:=R.no wA.drew
   have YW:jt (aa w7).heap n0 (fun q=>q=bc∨X q) ⟨some ⟨b,0,none⟩,j'+1,P.length⟩ P2:=⟨Oa.own,Oa.nd,Oa.sm⟩
   have y7d:(aa w7).heap.size=w7.heap.size:=rfl
   refine Gi (w:=aa w7) R7 (fun q h=>R.iA (by simp[Sl.aq]at h;omega)) (by omega) (ad gc wA.drew) (by simp[Sl.aq];omega) YW (fun q hq=>?_) (by omega) zC (by omega) ZL hG fun s9 P9 a9 w9 hP9 hv9 hA9 hg9 x9 hs9=>⟨x9.aj,?_⟩
   .rcases hq with h | h
    .omega
    .have:=hX q h;omega
   have hga:=hGe kv a9 hg9;have JM:=x9.aj;refine k s9 (P2++P9) w9 hP9 (fun q hq=>?_) (fun k2 CO=>?_) ?_ (fun x hx=>?_) (wA.trans JM fun q hq h=>by simp[Sl.aq]at h;omega)
   .rcases hs9 with h | ⟨c,h,hc9⟩
    .rw[h]at hq;simp[Sl.aq]at hq;omega
    .rw[h]at hq;cases hq;omega
   .rcases Nat.lt_or_ge k2 P2.length with h | h
    .rw[List.getElem_append_left h,g2o k2 h];exact hv k2 (by omega)
    .rw[List.getElem_append_right h,hv9 _ (by simp at CO;omega)];simp at CO;omega
   .rw[hga]at hA9;have:=hN _ hA9;rw[List.map_append,<- Tu,List.map_append,List.append_assoc,List.map_take];exact this
   .obtain⟨Q,l9,i9,b9,eQ,_,afm,Zq,ha9,Un,_⟩:=hA9.leaf;rw[List.map_append,eQ,<- List.append_assoc,List.getLast?_append]at hx;simp at hx;rw[<- hx];refine⟨afm,?_⟩;split
    .rename_i h;rw[if_pos h]at hga;show i9=0;omega
    .rename_i h;rw[if_neg h]at hga;show i9=l9.length;omega
  .exact absurd acC (acD j (by simp;omega))
 .have hi:i = -1:=by omega
  rcases hA.over hd hl with⟨j',oP,m1,_⟩ | ⟨_,ha⟩
  .exact absurd m1 (DX j' oP (by omega))
  .exact acB _ ha (Ext.refl _ _)
end
section
variable {w:Wd} {T:Nat->Option Nat} {m:bB} {M:Mm}
abbrev MM(x:fo)(i:Nat):fo:=⟨x.k,x.v,x.s,x.L,i⟩
def xR(g:Int->Int)(la:Addr)(bc b b1:Nat)(path:Sl)(K:Sl->Sl->Int->Pw)(r1:Int)(eG:Wd):Prop:=
 Nn (some la) fun a_8=>
 ∃qW:Int,Cell eG (a_8.add 3) (.int .i64 qW)/\
 Ar .i64 (g qW) fun Tz=>
 Nn (some la) fun a_9=>
 aF eG (a_9.add 3) (.int .i64 Tz) fun cX=>
 Nn (some (Addr.mk bc 0 none)) fun Yx=>
 aF cX (Yx.add 6) (.slice path.a path.len path.cap) fun c_=>
 ∃lz:Sl,Cell c_ (Addr.mk b1 0 none) (.slice lz.a lz.len lz.cap)/\
 ∃lC:Sl,Cell c_ ((Addr.mk b1 0 none).add 1) (.slice lC.a lC.len lC.cap)/\
 List.length (α:=Value) [.slice lz.a lz.len lz.cap,.slice lC.a lC.len lC.cap]=2/\jB c_ (Addr.mk b 0 none) [.slice lz.a lz.len lz.cap,.slice lC.a lC.len lC.cap] fun dU=>
 ∃ng:Sl,Cell dU (Addr.mk b 0 none) (.slice ng.a ng.len ng.cap)/\
 ∃rp:Sl,Cell dU ((Addr.mk b 0 none).add 1) (.slice rp.a rp.len rp.cap)/\
 K ng rp r1 dU
theorem PW{g:Int->Int}{n0 pb bc b b1 n i':Nat}{X:Nat->Prop}{t lev:Int}{r:Rf}{path p0 ks vs:Sl}{P:List fo}{zs:List Value}{K:Sl->Sl->Int->Pw}(hP:jt w.heap n0 (fun q=>q=bc∨X q) path P)(Bx:path.a=some ⟨pb,0,none⟩)(hn:P.length=n+1)(hpX:∀q,path.aq=some q->q≠bc/\¬ X q)
  (hg:g (P[n]'(by omega)).i=i') (iv:i'<=65536) (gc:w.heap[bc]? = some (.cells (qh m t r lev p0).toArray 183 (0,0))) (g1:w.heap[b1]? = some (.cells [.slice ks.a ks.len ks.cap,.slice vs.a vs.len vs.cap].toArray 92 (0,0))) (gb:w.heap[b]? = some (.cells zs.toArray 92 (0,0))) (hz:zs.length=2) (hb:X b) (K_:b≠bc) (gE:b1≠bc/\b1≠pb)
  (k:∀w',jt w'.heap n0 (fun q=>q=bc∨X q) path (P.take n++[MM (P[n]'(by omega)) i'])->w'.heap[bc]? = some (.cells (qh m t r lev path).toArray 183 (0,0))->Ext (fun q=>q=pb∨q=bc∨q=b) w w'->K ks vs 0 w'):xR g ⟨pb,n * 4,none⟩ bc b b1 path K 0 w:=by
 have Lc:n < P.length:=by omega
 have DM:path.aq=some pb:=by simp[Sl.aq,Bx]
 have hpb:=hpX pb DM;have hbp:b≠pb:=fun h=>hpb.2 (h ▸ hb)
 have hl:(P.flatMap fo.cs).length=P.length * 4:=aK (eo P)
 have bq:Cell w ⟨pb,n * 4+3,none⟩ (.int .i64 (P[n]'Lc).i):=by
  obtain⟨bb,rest,ha,_,hh,_,_⟩:=hP.own.place (by intro e;rw[e]at hl;simp at hl;omega);rw[Bx]at ha;cases ha;refine Cell.aq hh ?_;have h1:=xn (f:=fo.cs) (n:=4) (l:=P) (i:=n) (j:=3) (eo P) Lc (by decide);rw[List.getElem?_toArray,List.getElem?_append_left (by rw[hl];omega),h1];rfl
 refine Nn.mk ⟨_,bq,?_⟩;rw[hg];refine Ar.i64 (by omega) (Nn.mk (aF.at_ (b:=pb) (off:=n * 4+3) hP.own Bx (by rw[hl];omega) rfl fun cX Bi eE K2=>Nn.mk ?_));have sP:Ext (·=pb) w cX:=eE.mono fun q _ h=>by rw[DM]at h;exact(Option.some.inj h).symm
 have yQ:(P.flatMap fo.cs).set (n * 4+3) (.int .i64 (i':Int))=(P.take n++[MM (P[n]'Lc) i']).flatMap fo.cs:=by
  have h1:=xo (f:=fo.cs) (n:=4) (l:=P) (i:=n) (o:=3) (vs:=[.int .i64 (i':Int)]) (y:=MM (P[n]'Lc) i') (eo _) Lc (by simp) rfl
  have h2:∀y,P.set n y=P.take n++[y]:=fun y=>by
   have e:P=P.take n++[P[n]'Lc]:=by
    conv=>lhs;rw[<- List.take_append_drop n P]
    rw[List.drop_eq_getElem_cons Lc,List.drop_eq_nil_of_le (by omega)]
   have cL:(P.take n).length=n:=by rw[List.length_take];omega
   generalize P[n]'Lc=z at e;generalize P.take n=q at e cL ⊢;subst e;rw[List.set_append_right _ _ (by omega),cL,Nat.sub_self];rfl
  rw[h2]at h1;exact h1
 rw[yQ]at Bi
 have afn:jt cX.heap n0 (fun q=>q=bc∨X q) path (P.take n++[MM (P[n]'Lc) i']):=by
  have nd:∀y∈P,kQ cX.heap (fun q=>n0<=q/\path.aq≠some q/\¬ (q=bc∨X q)) y.s y.L:=fun y hy=>(hP.nd y hy).ext sP fun q hq _ h=>hq.2.1 (by rw[h];exact DM)
  refine⟨Bi,fun y hy=>?_,fun y hy=>?_⟩
  .rcases List.mem_append.1 hy with h | h
   .exact nd y (List.mem_of_mem_take h)
   .rw[List.mem_singleton]at h;subst h;exact nd (P[n]'Lc) (List.getElem_mem Lc)
  .rcases List.mem_append.1 hy with h | h
   .exact hP.sm y (List.mem_of_mem_take h)
   .rw[List.mem_singleton]at h;subst h;exact⟨(hP.sm _ (List.getElem_mem Lc)).1,iv⟩
 have acF:=af gc sP (fun h=>hpb.1 h.symm);refine aF.mk acF (by show 6 < 7;decide) rfl fun c_ V4=>?_
 have kM:c_.heap[bc]? = some (.cells (qh m t r lev path).toArray 183 (0,0)):=V4.get acF;have gH:Ext (·=bc) cX c_:=V4.ext;have afo:=afn.ext gH (fun q hq h=>(hpX q hq).1 h) fun q _ _ _ h h'=>h (.inl h')
 have YJ:=af (af g1 sP gE.2) gH gE.1;have gb':=af (af gb sP hbp) gH K_;refine⟨_,Cell.ai YJ rfl,_,Cell.ai YJ rfl,cK gb' rfl hz (by simp[aN]) fun dU HC pH _=>⟨_,Cell.ai HC rfl,_,Cell.ai HC rfl,?_⟩⟩;have iT:Ext (·=b) c_ dU:=pH;refine k dU (afo.ext iT (fun q hq h=>(hpX q hq).2 (h ▸ hb)) fun q _ _ _ h h'=>h (.inr (h' ▸ hb))) (af kM iT (fun h=>K_ h.symm)) (((sP.mono fun _ _ h=> .inl h).trans gH fun _ _ h=> .inr (.inl h)).trans iT fun _ _ h=> .inr (.inr h))
theorem WK{b:Nat}{zs:List Value}{e:Int}{K:Sl->Sl->Int->Pw}(hb:w.heap[b]? = some (.cells zs.toArray 92 (0,0)))(hz:zs.length=2)(k:∀w',Ext (·=b) w w'->K ⟨none,0,0⟩ ⟨none,0,0⟩ e w') :
  List.length (α:=Value) [.slice none 0 0,.slice none 0 0]=2/\jB w (Addr.mk b 0 none) [.slice none 0 0,.slice none 0 0] fun w9=>
   ∃se:Sl,Cell w9 (Addr.mk b 0 none) (.slice se.a se.len se.cap)/\∃ow:Sl,Cell w9 ((Addr.mk b 0 none).add 1) (.slice ow.a ow.len ow.cap)/\K se ow e w9:=
 cK hb rfl hz (by simp[aN]) fun w' g x _=>⟨⟨none,0,0⟩,Cell.ai g rfl,⟨none,0,0⟩,Cell.ai g rfl,k w' x⟩
theorem uj{f:bH}{t:Int}{lev a:Nat}{kvs:List KV}{P:List fo}(hA:gC f t lev kvs (P.map fo.abs) a):∃ (hn:P.length=lev+1) (b':Nat),(P.map fo.abs).getLast? = some (P[lev]'(by omega)).abs/\(P[lev]'(by omega)).L≠[]/\(P[lev]'(by omega)).i<=(P[lev]'(by omega)).L.length/\a=b'+(P[lev]'(by omega)).i/\b'+(P[lev]'(by omega)).L.length<=kvs.length /\
    (∀k (h:k < (P[lev]'(by omega)).L.length) (h':b'+k < kvs.length),(P[lev]'(by omega)).L[k].2.key=kvs[b'+k].1)/\∀k,k<=(P[lev]'(by omega)).L.length->gC f t lev kvs ((P.take lev++[MM (P[lev]'(by omega)) k]).map fo.abs) (b'+k):=by
  have hn:P.length=lev+1:=by have:=hA.len;simpa using this
  have cL:lev < P.length:=by omega
  obtain⟨Q,l,i,b',e,hQ,bC,PR,ha,hb,hk,hp⟩:=hA.leaf
  have qg:(P[lev]'cL).abs=(l,i):=by
    have:=congrArg (fun x=>x[lev]?) e;simp only[List.getElem?_map,List.getElem?_eq_getElem cL,Option.map_some]at this;rw[List.getElem?_append_right (by omega),hQ,Nat.sub_self]at this;simpa using this
  have hQe:(P.take lev).map fo.abs=Q:=by
    have:=congrArg (fun x=>x.take lev) e;simp only[<- List.map_take]at this;rw[this,List.take_append_of_le_length (by omega),List.take_of_length_le (by omega)]
  have h1:ents (P[lev]'cL).L=l:=congrArg Prod.fst qg;have h2:(P[lev]'cL).i=i:=congrArg Prod.snd qg;have h3:=me h1;refine⟨hn,b',?_,?_,by omega,by omega,by omega,fun k h h'=>?_,fun k h=>?_⟩
  · rw[e,qg];simp
  · intro h;rw[h]at h1;exact bC (by rw[<- h1];rfl)
  · have:=hk k (by omega) h';rw[<- this];subst h1;simp
  · rw[List.map_append,hQe,List.map_singleton];have:fo.abs (MM (P[lev]'cL) k)=(l,k):=by simp[fo.abs,h1]
    rw[this];exact hp k (by omega)
theorem qm{n0 pb n j:Nat}{X:Nat->Prop}{path:Sl}{P:List fo}{v:Value}(hP:jt w.heap n0 X path P)(Bx:path.a=some ⟨pb,0,none⟩)(hn:n < P.length)(hj:j < 4)(hv:(fo.cs P[n])[j]? = some v):Cell w ⟨pb,n * 4+j,none⟩ v:=by
 have hl:(P.flatMap fo.cs).length=P.length * 4:=aK (eo P);obtain⟨bb,rest,ha,_,hh,_,_⟩:=hP.own.place (by intro e;rw[e]at hl;simp at hl;omega);rw[Bx]at ha;cases ha;refine Cell.aq hh ?_;have h1:=xn (f:=fo.cs) (n:=4) (l:=P) (i:=n) (j:=j) (eo P) hn hj;rw[List.getElem?_toArray,List.getElem?_append_left (by rw[hl];omega),h1,hv]
structure OnP(w:Wd)(n0 bc b:Nat)(X:Nat->Prop)(f:bH)(t:Int)(lev a:Nat)(kvs:List KV)(path:Sl)(P:List fo):Prop where
 DW:jt w.heap n0 (fun q=>q=bc∨(q=b∨X q)) path P
 aq:∀q,path.aq=some q->q≠bc/\q≠b/\¬ X q
 lv:∀j (hj:j < P.length),P[j].v=((lev - j:Nat):Int)
 at_:gC f t lev kvs (P.map fo.abs) a
theorem step_end{X:Nat->Prop}{Z:Sl->Sl->Int->Nat->Pw}{n0 bc b a:Nat}{g:Int->Int}{t:Int}{r:Rf}{lev idx i':Nat}{p path:Sl}{P:List fo}{kvs:List KV}{ps:List Rf}{zs:List Value}{K:Sl->Sl->Int->Pw}(R:aY w.heap T m M)(wy:dB M.f t r lev kvs ps)(hr:r ≠ .z)(dn:lev<=30)(K_:n0<=bc)(hbb:n0<=b)(gc:w.heap[bc]? = some (.cells (qh m t r lev p).toArray 183 (0,0)))(gb:w.heap[b]? = some (.cells zs.toArray 92 (0,0)))(hz:zs.length=2)(JT:b≠bc)(hXb:¬ X b)(hXc:¬ X bc)(O:OnP w n0 bc b X M.f t lev a kvs path P)
  (hn:P.length=lev+1) (afp:idx < (P[lev]'(by omega)).L.length) (hg:g (P[lev]'(by omega)).i=i') (iv:i'<=65536) (ak:Nat) (IC:ak < kvs.length) (gN:(P[lev]'(by omega)).L[idx].2.key=kvs[ak].1) (a':Nat) (hA':gC M.f t lev kvs ((P.take lev++[MM (P[lev]'(by omega)) i']).map fo.abs) a')
  (k0:∀ks vs w',aU w'.heap w.heap.size ks kvs[ak].1->aU w'.heap w.heap.size vs kvs[ak].2->(∀q,ks.aq=some q->vs.aq≠some q)->iV w'.heap n0 (fun q=>X q∨ks.aq=some q∨vs.aq=some q) M.f m t r lev bc kvs a'->Ext (fun q=>n0<=q/\¬ X q) w w'->K ks vs 0 w') :
  ∃pb:Nat,path.a=some ⟨pb,0,none⟩/\Cell w ⟨pb,lev * 4+2,none⟩ (.slice (P[lev]'(by omega)).s.a (P[lev]'(by omega)).s.len (P[lev]'(by omega)).s.cap)/\Cell w ⟨pb,lev * 4+3,none⟩ (.int .i64 (P[lev]'(by omega)).i)/\oQ w.heap (P[lev]'(by omega)).s (P[lev]'(by omega)).L/\
   (∀{x:aL},x=(P[lev]'(by omega)).L[idx].1->
    (cw (some ⟨bc,0,none⟩) x.k x.v x.n x.ch.p x.ch.c x.ch.g x.cd.p x.cd.c x.cd.g (aa w) fun IA IB r1 dA=>Ext No w dA/\ag dA (.cells [.slice none 0 0,.slice none 0 0].toArray 92) fun b1 dg=>Ext No w dg/\List.length (α:=Value) [.slice IA.a IA.len IA.cap,.slice IB.a IB.len IB.cap]=2/\jB dg (Addr.mk b1 0 none) [.slice IA.a IA.len IA.cap,.slice IB.a IB.len IB.cap] fun eG=>Ext No w eG/\If (r1 == 0) (xR g ⟨pb,lev * 4,none⟩ bc b b1 path K r1 eG) (Z IA IB r1 b1 eG))/\
    (ag (aa w) (.cells [.slice none 0 0,.slice none 0 0].toArray 92) fun b1 dg=>Ext No w dg/\cw (some ⟨bc,0,none⟩) x.k x.v x.n x.ch.p x.ch.c x.ch.g x.cd.p x.cd.c x.cd.g dg fun IA IB r1 eG=>Ext No w eG/\List.length (α:=Value) [.slice IA.a IA.len IA.cap,.slice IB.a IB.len IB.cap]=2/\jB eG (Addr.mk b1 0 none) [.slice IA.a IA.len IA.cap,.slice IB.a IB.len IB.cap] fun cX=>Ext No w cX/\If (r1 == 0) (xR g ⟨pb,lev * 4,none⟩ bc b b1 path K r1 cX) (Z IA IB r1 b1 cX))):=by
 have cL:lev < P.length:=by omega
 have hl:(P.flatMap fo.cs).length=P.length * 4:=aK (eo P);obtain⟨pb,rest,Bx,acG,hh,_,_⟩:=O.DW.own.place (by intro e;rw[e]at hl;simp at hl;omega);have DM:path.aq=some pb:=by simp[Sl.aq,Bx]
 have xW:=blt hh;have oR:=blt gb;have ss:=blt gc;have sy:=(O.DW.nd _ (List.getElem_mem cL)).nd;refine⟨pb,Bx,qm O.DW Bx cL (by decide) rfl,qm O.DW Bx cL (by decide) rfl,sy,?_⟩;rintro x rfl;have er:=sy.get afp
 have hS:bu M.f t lev r kvs ps:=by
  rcases wy with⟨h,_⟩ | ⟨_,_,h⟩
  .exact(hr h).elim
  .simpa using h
 have Pz:=hS.keys _ (List.getElem_mem IC)
 have Dw:ca kvs (P[lev]'cL).L[idx].2.key=some kvs[ak].2:=by
  rw[gN];exact(zr wy.sort (x:=kvs[ak])).1 (List.getElem_mem IC)
 have fin:∀(eG:Wd)(b1:Nat)(ks vs:Sl),Ext No w eG->aU eG.heap w.heap.size ks kvs[ak].1->aU eG.heap w.heap.size vs kvs[ak].2->(∀q,ks.aq=some q->vs.aq≠some q)->eG.heap[b1]? = some (.cells [.slice ks.a ks.len ks.cap,.slice vs.a vs.len vs.cap].toArray 92 (0,0))->w.heap.size<=b1->xR g ⟨pb,lev * 4,none⟩ bc b b1 path K 0 eG:=fun eG b1 ks vs x ok ov dj g1 gE=>by
  have afq:=(O.DW.mono (X':=fun q=>q=bc∨(q=b∨X q∨w.heap.size<=q)) fun q h1 h2=>h2.imp id fun h3=>h3.imp id fun h4=>h4.resolve_right (by omega)).no x;refine PW (X:=fun q=>q=b∨X q∨w.heap.size<=q) afq Bx hn (fun q hq=>?_) hg iv (ad gc x) g1 (ad gb x) hz (.inl rfl) JT (by omega) fun w' hP' gc' x'=>?_
  .have:=O.aq q hq;rw[DM]at hq;cases hq;exact⟨this.1,fun h=>h.elim this.2.1 fun h=>h.elim this.2.2 fun h=>by omega⟩
  have nk:∀{s:Sl}{l:List Int},aU eG.heap w.heap.size s l->∀q,s.aq=some q->¬ (q=pb∨q=bc∨q=b):=fun o q hq h=>by have:=(o.lt hq).1;omega
  refine k0 ks vs w' (ok.ext x' (nk ok)) (ov.ext x' (nk ov)) dj ⟨K_,fun h=>?_,path,gc',.inr ⟨hr,_,hP'.mono fun q _ h=>h.imp id fun h=> .inr ?_,fun q hq=>?_,fun j hj=>?_,hA'⟩⟩ ((x.aG).trans x' fun q hq h=>?_)
  .rcases h with h | h | h
   .exact hXc h
   .have:=(ok.lt h).1;omega
   .have:=(ov.lt h).1;omega
  .rcases h with h | h | h
   .exact .inl h
   .exact .inr (ok.lt h).1
   .exact .inr (ov.lt h).1
  .have h1:=O.aq q hq;rw[DM]at hq;cases hq;exact⟨h1.1,fun h=>h.elim h1.2.2 fun h=>h.elim (fun h=>by have:=(ok.lt h).1;omega) fun h=>by have:=(ov.lt h).1;omega⟩
  .have htl:(P.take lev).length=lev:=by rw[List.length_take];omega
   rcases Nat.lt_or_ge j lev with h | h
   .rw[List.getElem_append_left (by omega),List.getElem_take];exact O.lv j (by omega)
   .have:j=lev:=by simp at hj;omega
    subst this;rw[List.getElem_append_right (by omega)];have:=O.lv _ cL;simpa[htl] using this
  .have hpX:=(O.aq pb DM).2.2;rcases h with h | h | h
   .exact⟨by omega,by rw[h];exact hpX⟩
   .exact⟨by omega,by rw[h];exact hXc⟩
   .exact⟨by omega,by rw[h];exact hXb⟩
 have Rd':aY (aa w).heap T m M:=R;refine⟨?_,?_⟩
 .refine DL (w:=aa w) Rd' wy (by omega) gc er (by rw[gN];exact⟨Pz.1,Pz.2.1⟩) (by rw[gN];exact Pz.2.2) Dw fun ks vs dA ok ov dj dR=>⟨dR.aj,ag.mk fun b1 dg pB=>⟨dR.aj.no pB.ext,?_⟩⟩
  have RO:Ext No w dA:=dR.aj;have y10:=RO.size;have gE:=pB.at_;rw[gN]at ok;refine cK pB.get rfl rfl (by simp[aN]) fun eG JX gS _=>?_
  have PF:Ext (·=b1) dg eG:=gS;have Mi:=(RO.no pB.ext).trans PF fun q hq h=>by omega
  exact⟨Mi,If.yes <| fin eG b1 ks vs Mi ((ok.no pB.ext).ext PF fun q hq h=>by have:=(ok.lt hq).2;omega) ((ov.no pB.ext).ext PF fun q hq h=>by have:=(ov.lt hq).2;omega) dj JX (by omega)⟩
 .refine ag.mk fun b1 dg pB=>?_
  have zi:Ext No w dg:=pB.ext.aj;have gE:b1=w.heap.size:=pB.at_;have Re:dg.heap.size=w.heap.size+1:=pB.size;refine⟨zi,DL (R.no zi) wy (by omega) (ad gc zi) (er.no zi) (by rw[gN];exact⟨Pz.1,Pz.2.1⟩) (by rw[gN];exact Pz.2.2) Dw fun ks vs eG ok ov dj gS=>⟨zi.no gS,?_⟩⟩;rw[gN]at ok;refine cK (ad pB.get gS) rfl rfl (by simp[aN]) fun cX gG eE _=>?_
  have sP:Ext (·=b1) eG cX:=eE;have Du:=(zi.no gS).trans sP fun q hq h=>by omega
  exact⟨Du,If.yes <| fin cX b1 ks vs Du ((ok.ext sP fun q hq h=>by have:=(ok.lt hq).1;omega).mono (by omega)) ((ov.ext sP fun q hq h=>by have:=(ov.lt hq).1;omega).mono (by omega)) dj gG (by omega)⟩
theorem Ob{n0 bc b a:Nat}{w1:Wd}{t:Int}{lev:Nat}{kvs:List KV}{p:Sl}{P:List fo}(x:Ext No w w1)(hb:w.heap.size<=b){X:Nat->Prop}(hP:jt w.heap n0 (fun q=>q=bc∨X q) p P)(hp:∀q,p.aq=some q->q≠bc/\¬ X q)(hv:∀j (hj:j < P.length),P[j].v=((lev - j:Nat):Int))(hA:gC M.f t lev kvs (P.map fo.abs) a):OnP w1 n0 bc b X M.f t lev a kvs p P:=
 ⟨(hP.mono (X':=fun q=>q=bc∨(q=b∨X q)) fun q h1 h2=>h2.imp id fun h=>h.resolve_left (by omega)).no x,fun q hq=>⟨(hp q hq).1,by have:=(hP.own.lt hq).2;omega,(hp q hq).2⟩,hv,hA⟩
set_option maxHeartbeats 2000000 in
theorem PY{n0 bc:Nat}{X:Nat->Prop}{t:Int}{r:Rf}{lev a:Nat}{kvs:List KV}{ps:List Rf}{K:Sl->Sl->Int->Pw}(R:aY w.heap T m M)(yR:n0<=w.heap.size)(wy:dB M.f t r lev kvs ps)(dn:lev<=30)(c:iV w.heap n0 X M.f m t r lev bc kvs a)(hX:∀q,X q->q < w.heap.size)
  (k7:a=kvs.length->∀w',iV w'.heap n0 X M.f m t r lev bc kvs a->Ext No w w'->K ⟨none,0,0⟩ ⟨none,0,0⟩ 7 w')
  (k0:∀(h:a < kvs.length) ks vs w',aU w'.heap w.heap.size ks kvs[a].1->aU w'.heap w.heap.size vs kvs[a].2->(∀q,ks.aq=some q->vs.aq≠some q)->iV w'.heap n0 (fun q=>X q∨ks.aq=some q∨vs.aq=some q) M.f m t r lev bc kvs (a+1)->Ext (fun q=>n0<=q/\¬ X q) w w'->K ks vs 0 w'):jb (some ⟨bc,0,none⟩) w K:=by
 apply vB;refine ag.mk fun b w1 n1=>?_
 have c0:=c;obtain⟨K_,hXc,p,gc,S8⟩:=c;have hb:=n1.at_;have z1:=n1.size;have oR:=blt gc;have RZ:=ad gc n1.ext;refine⟨fun w'=>w'=w1,If.no (Nn.mk ⟨_,Cell.ai RZ rfl,trivial,If.no rfl⟩),?_⟩;rintro _ w4 rfl;refine Nn.mk ⟨p,Cell.ai RZ rfl,?_⟩;have R1:=R.no n1.ext
 -- XY the path is
 refine⟨fun path w'=>Ext No w4 w'/\((path.len=0/\a=kvs.length)∨r ≠ .z/\∃P,∃hn:P.length=lev+1,OnP w' n0 bc b X M.f t lev a kvs path P/\(P[lev]'(by omega)).i < (P[lev]'(by omega)).L.length),?_,?_⟩
 .rcases S8 with⟨h1,h2,h3,h4,h5⟩ | ⟨hr,P,hP,hp,hv,hA⟩
  .refine⟨fun tt w'=>tt=false/\Ext No w4 w',⟨Ext No w4,(Ext.refl _ _).drew,If.dec (fun h=>by rw[h4]at h;simp at h) fun h=>⟨rfl,(Ext.refl _ _).drew⟩⟩,?_⟩;rintro _ tt w5 ⟨rfl,x5⟩;exact If.no ⟨x5,.inl ⟨by rw[h4],by rw[h5,h3];rfl⟩⟩
  .obtain⟨hn,b',qg,bC,PR,ha,lO,gN,hmv⟩:=uj hA;have cL:lev < P.length:=by omega
   have O4:=Ob (b:=b) n1.ext (by omega) hP hp hv hA;have xW:=O4.DW.len;have hl:(P.flatMap fo.cs).length=P.length * 4:=aK (eo P);obtain⟨pb,rest,Bx,acG,hh,_,_⟩:=O4.DW.own.place (by intro e;rw[e]at hl;simp at hl;omega);have t1:(p.len:Int) - 1=(lev:Int):=by omega
   have WL:∀{K:Addr->Prop},K ⟨pb,lev * 4,none⟩->Ix p.a p.len ((p.len:Int) - 1) 4 K:=fun hk=>⟨_,Bx,by omega,by omega,by rw[t1,Int.toNat_natCast,ay rfl,Nat.zero_add];exact hk⟩
   refine⟨fun tt w'=>tt=((P[lev].i:Int) == (P[lev].s.len:Int))/\Ext No w4 w',⟨Ext No w4,(Ext.refl _ _).drew,If.dec (fun _=>Ar.i64 (by omega) (WL ⟨_,ae.cell (qm O4.DW Bx cL (by decide) rfl),Ar.i64 (by omega) (WL ⟨_,ae.cell (qm O4.DW Bx cL (by decide) rfl),rfl,(Ext.refl _ _).drew⟩)⟩)) fun h=>by omega⟩,?_⟩;rintro _ tt w5 ⟨rfl,x5⟩;have JF:=(O4.DW.nd _ (List.getElem_mem cL)).nd.len;have hX5:=x5.size;refine If.beq (fun he=>?_) fun he=>?_
   .refine Gk (X:=fun q=>q=b∨X q) (p:=p) (P:=P) (.inl rfl) (R1.no x5) (by omega) dn (ad RZ x5) (O4.DW.no x5) (fun q h=>h.elim (fun h=>by omega) fun h=>by have:=hX q h;omega) hv hA (fun x hx=>?_) KU DJ (fun kv a h=>by rw[if_pos rfl];exact h) (fun w6 ha6 x6=>If.bne (fun h=>(h rfl).elim) fun _=>⟨x5.no x6,.inl ⟨rfl,by rw[if_pos rfl]at ha6;exact ha6⟩⟩) fun s P' w6 hP6 YX hv6 YY hl6 x6=>If.bne (fun h=>(h rfl).elim) fun _=>⟨x5.no x6,.inr ⟨hr,P',by have:=YY.len;simpa using this,⟨hP6,fun q hq=>⟨by have:=YX q hq;omega,by have:=YX q hq;omega,fun h=>by have:=hX q h;have:=YX q hq;omega⟩,hv6,YY⟩,?_⟩⟩
    .rw[qg]at hx;cases hx;rw[if_pos rfl];show P[lev].i=(ents P[lev].L).length;simp;omega
    .obtain⟨hn6,_,MN,YZ,_⟩:=uj YY;have:=hl6 _ MN;rw[if_pos rfl]at this;have h0:P'[lev].i=0:=this.2;rw[h0];exact List.length_pos_iff.2 YZ
   .exact⟨x5,.inr ⟨hr,P,hn,⟨O4.DW.no x5,O4.aq,hv,hA⟩,by omega⟩⟩
 rintro _ path w8 ⟨x8,tz⟩;have y8:=x8.size;have g8:=ad n1.get x8;have gc8:=ad RZ x8;have qq:Ext No w w8:=n1.ext.no x8;rcases tz with⟨hp0,ha⟩ | ⟨hr,P,hn,O,hi⟩
 .refine If.beq (fun _=>WK g8 rfl fun w9 x9=>?_) fun h=>by omega
  have Bk:Ext (·=b) w8 w9:=x9;have Mz:=qq.trans Bk fun q hq h=>by omega
  exact k7 ha w9 (c0.no Mz) Mz
 .have xW:=O.DW.len;have cL:lev < P.length:=by omega
  obtain⟨_,b',qg,bC,PR,ha,lO,gN,hmv⟩:=uj O.at_;have IC:a < kvs.length:=by omega
  have CO:=gN P[lev].i hi (by omega);have Yh:=O.DW.sm _ (List.getElem_mem cL);have em:b'+(P[lev].i+1)=a+1:=by omega
  obtain⟨pb,Bx,zQ,JG,sy,S9⟩:=step_end (b:=b) (g:=fun v=>v+1) (idx:=P[lev].i) (i':=P[lev].i+1) (R.no qq) wy hr dn K_ (by omega) gc8 g8 rfl (by omega) (fun h=>by have:=hX b h;omega) hXc O hn hi (by simp) (by omega) a IC (by rw[CO];congr 2;omega) (a+1) (by rw[<- em];exact hmv _ (by omega)) (K:=K) fun ks vs w' ok ov dj c' x'=>k0 IC ks vs w' (ok.mono qq.size) (ov.mono qq.size) dj c' (qq.aG.trans x' fun q _ h=>h)
  have t1:(path.len:Int) - 1=(lev:Int):=by omega
  have WL:∀{K:Addr->Prop},K ⟨pb,lev * 4,none⟩->Ix path.a path.len ((path.len:Int) - 1) 4 K:=fun hk=>⟨_,Bx,by omega,by omega,by rw[t1,Int.toNat_natCast,ay rfl,Nat.zero_add];exact hk⟩
  refine If.beq (fun h=>by omega) fun _=>Ar.i64 (by omega) (WL ⟨Ext No w8,(Ext.refl _ _).drew,Nn.mk ⟨_,ae.cell zQ,Nn.mk ⟨_,ae.cell JG,Ix.elem sy.rd (bX _) (by decide) (by omega) (by have:=sy.len;omega) fun bb o _ _ hc=>?_⟩⟩⟩)
  simp only[Int.toNat_natCast]at hc;exact⟨_,ae.cell (hc 0 _ rfl),_,ae.cell (hc 1 _ rfl),_,ae.cell (hc 2 _ rfl),_,ae.cell (hc 3 _ rfl),_,ae.cell (hc 4 _ rfl),_,ae.cell (hc 5 _ rfl),_,ae.cell (hc 6 _ rfl),_,ae.cell (hc 7 _ rfl),_,ae.cell (hc 8 _ rfl),S9 rfl⟩
set_option maxHeartbeats 2000000 in
theorem PZ{n0 bc:Nat}{X:Nat->Prop}{t:Int}{r:Rf}{lev a:Nat}{kvs:List KV}{ps:List Rf}{K:Sl->Sl->Int->Pw}(R:aY w.heap T m M)(yR:n0<=w.heap.size)(wy:dB M.f t r lev kvs ps)(dn:lev<=30)(c:iV w.heap n0 X M.f m t r lev bc kvs a)(hX:∀q,X q->q < w.heap.size)
  (k7:a=0->∀w',iV w'.heap n0 X M.f m t r lev bc kvs a->Ext No w w'->K ⟨none,0,0⟩ ⟨none,0,0⟩ 7 w')
  (k0:∀(h:a - 1 < kvs.length) ks vs w',1<=a->aU w'.heap w.heap.size ks kvs[a - 1].1->aU w'.heap w.heap.size vs kvs[a - 1].2->(∀q,ks.aq=some q->vs.aq≠some q)->iV w'.heap n0 (fun q=>X q∨ks.aq=some q∨vs.aq=some q) M.f m t r lev bc kvs (a - 1)->Ext (fun q=>n0<=q/\¬ X q) w w'->K ks vs 0 w'):jc (some ⟨bc,0,none⟩) w K:=by
 apply vz;refine ag.mk fun b w1 n1=>?_
 have c0:=c;obtain⟨K_,hXc,p,gc,S8⟩:=c;have hb:=n1.at_;have z1:=n1.size;have oR:=blt gc;have RZ:=ad gc n1.ext;refine⟨fun w'=>w'=w1,If.no (Nn.mk ⟨_,Cell.ai RZ rfl,trivial,If.no rfl⟩),?_⟩;rintro _ w4 rfl;refine Nn.mk ⟨p,Cell.ai RZ rfl,?_⟩;have R1:=R.no n1.ext
 -- XY the path is
 refine⟨fun path w'=>Ext No w4 w'/\((path.len=0/\a=0)∨r ≠ .z/\∃P,∃hn:P.length=lev+1,OnP w' n0 bc b X M.f t lev a kvs path P/\1<=(P[lev]'(by omega)).i),?_,?_⟩
 .rcases S8 with⟨h1,h2,h3,h4,h5⟩ | ⟨hr,P,hP,hp,hv,hA⟩
  .refine⟨fun tt w'=>tt=false/\Ext No w4 w',If.dec (fun h=>by rw[h4]at h;simp at h) fun h=>⟨rfl,Ext.refl _ _⟩,?_⟩;rintro _ tt w5 ⟨rfl,x5⟩;exact If.no ⟨x5,.inl ⟨by rw[h4],h5⟩⟩
  .obtain⟨hn,b',qg,bC,PR,ha,lO,gN,hmv⟩:=uj hA;have cL:lev < P.length:=by omega
   have O4:=Ob (b:=b) n1.ext (by omega) hP hp hv hA;have xW:=O4.DW.len;have hl:(P.flatMap fo.cs).length=P.length * 4:=aK (eo P);obtain⟨pb,rest,Bx,acG,hh,_,_⟩:=O4.DW.own.place (by intro e;rw[e]at hl;simp at hl;omega);have t1:(p.len:Int) - 1=(lev:Int):=by omega
   have WL:∀{K:Addr->Prop},K ⟨pb,lev * 4,none⟩->Ix p.a p.len ((p.len:Int) - 1) 4 K:=fun hk=>⟨_,Bx,by omega,by omega,by rw[t1,Int.toNat_natCast,ay rfl,Nat.zero_add];exact hk⟩
   refine⟨fun tt w'=>tt=((P[lev].i:Int) == 0)/\Ext No w4 w',If.dec (fun _=>Ar.i64 (by omega) (WL ⟨_,qm O4.DW Bx cL (by decide) rfl,rfl,Ext.refl _ _⟩)) fun h=>by omega,?_⟩;rintro _ tt w5 ⟨rfl,x5⟩;have JF:=(O4.DW.nd _ (List.getElem_mem cL)).nd.len;have hX5:=x5.size;refine If.beq (fun he=>?_) fun he=>?_
   .refine Gk (X:=fun q=>q=b∨X q) (p:=p) (P:=P) (.inr rfl) (R1.no x5) (by omega) dn (ad RZ x5) (O4.DW.no x5) (fun q h=>h.elim (fun h=>by omega) fun h=>by have:=hX q h;omega) hv hA (fun x hx=>?_) N_ Gj (fun kv a h=>by rw[if_neg (by decide)];exact h) (fun w6 ha6 x6=>If.bne (fun h=>(h rfl).elim) fun _=>⟨x5.no x6,.inl ⟨rfl,by rw[if_neg (by decide)]at ha6;exact ha6⟩⟩) fun s P' w6 hP6 YX hv6 YY hl6 x6=>If.bne (fun h=>(h rfl).elim) fun _=>⟨x5.no x6,.inr ⟨hr,P',by have:=YY.len;simpa using this,⟨hP6,fun q hq=>⟨by have:=YX q hq;omega,by have:=YX q hq;omega,fun h=>by have:=hX q h;have:=YX q hq;omega⟩,hv6,YY⟩,?_⟩⟩
    .rw[qg]at hx;cases hx;rw[if_neg (by decide)];show P[lev].i=0;omega
    .obtain⟨hn6,_,MN,YZ,_⟩:=uj YY;have:=hl6 _ MN;rw[if_neg (by decide)]at this;have h0:P'[lev].i=(ents P'[lev].L).length:=this.2;have h7:=List.length_pos_iff.2 YZ;simp at h0;omega
   .exact⟨x5,.inr ⟨hr,P,hn,⟨O4.DW.no x5,O4.aq,hv,hA⟩,by omega⟩⟩
 rintro _ path w8 ⟨x8,tz⟩;have y8:=x8.size;have g8:=ad n1.get x8;have gc8:=ad RZ x8;have qq:Ext No w w8:=n1.ext.no x8;rcases tz with⟨hp0,ha⟩ | ⟨hr,P,hn,O,hi⟩
 .refine If.beq (fun _=>WK g8 rfl fun w9 x9=>?_) fun h=>by omega
  have Bk:Ext (·=b) w8 w9:=x9;have Mz:=qq.trans Bk fun q hq h=>by omega
  exact k7 ha w9 (c0.no Mz) Mz
 .have xW:=O.DW.len;have cL:lev < P.length:=by omega
  obtain⟨_,b',qg,bC,PR,ha,lO,gN,hmv⟩:=uj O.at_;have IC:a - 1 < kvs.length:=by omega
  have CO:=gN (P[lev].i - 1) (by omega) (by omega);have Yh:=O.DW.sm _ (List.getElem_mem cL);have em:b'+(P[lev].i - 1)=a - 1:=by omega
  obtain⟨pb,Bx,zQ,JG,sy,S9⟩:=step_end (b:=b) (g:=fun v=>v - 1) (idx:=P[lev].i - 1) (i':=P[lev].i - 1) (R.no qq) wy hr dn K_ (by omega) gc8 g8 rfl (by omega) (fun h=>by have:=hX b h;omega) hXc O hn (by omega) (by show(P[lev].i:Int) - 1=_;omega) (by omega) (a - 1) IC (by rw[CO];congr 2) (a - 1) (by rw[<- em];exact hmv _ (by omega)) (K:=K) fun ks vs w' ok ov dj c' x'=>k0 IC ks vs w' (by omega) (ok.mono qq.size) (ov.mono qq.size) dj c' (qq.aG.trans x' fun q _ h=>h)
  have t1:(path.len:Int) - 1=(lev:Int):=by omega
  have WL:∀{K:Addr->Prop},K ⟨pb,lev * 4,none⟩->Ix path.a path.len ((path.len:Int) - 1) 4 K:=fun hk=>⟨_,Bx,by omega,by omega,by rw[t1,Int.toNat_natCast,ay rfl,Nat.zero_add];exact hk⟩
  refine If.beq (fun h=>by omega) fun _=>Ar.i64 (by omega) (WL ⟨Ext No w8,(Ext.refl _ _).drew,Nn.mk ⟨_,ae.cell zQ,Nn.mk ⟨_,ae.cell JG,Ar.i64 (by omega) (Ix.elem sy.rd (bX _) (by decide) (by omega) (by have:=sy.len;omega) fun bb o _ _ hc=>?_)⟩⟩⟩)
  have et:((P[lev].i:Int) - 1).toNat=P[lev].i - 1:=by omega
  simp only[et]at hc;exact⟨_,ae.cell (hc 0 _ rfl),_,ae.cell (hc 1 _ rfl),_,ae.cell (hc 2 _ rfl),_,ae.cell (hc 3 _ rfl),_,ae.cell (hc 4 _ rfl),_,ae.cell (hc 5 _ rfl),_,ae.cell (hc 6 _ rfl),_,ae.cell (hc 7 _ rfl),_,ae.cell (hc 8 _ rfl),S9 rfl⟩
end
end Go.Proofs.YtpjbalhhlaofmaaGreat
namespace Go.V
section
variable {f:bH} {t:Int}
end
end Go.V
namespace Go.Proofs.YtpjbalhhlaofmaaGreat
open Go.V
section
variable {w:Wd} {T:Nat->Option Nat} {m:bB} {M:Mm}
end
end Go.Proofs.YtpjbalhhlaofmaaGreat
namespace Go.V
end Go.V
namespace Go.Proofs.YtpjbalhhlaofmaaGreat
open Go.V
section
variable {w:Wd} {T:Nat->Option Nat} {m:bB} {M:Mm}
end
end Go.Proofs.YtpjbalhhlaofmaaGreat
namespace Go.V
theorem iV.more{h:Array Obj}{X X':Nat->Prop}{n0:Nat}{f:bH}{m:bB}{t:Int}{r:Rf}{lev bc:Nat}{kvs:List KV}{a:Nat}(c:iV h n0 X f m t r lev bc kvs a)(hX:∀q,X' q->X q∨h.size<=q):iV h n0 X' f m t r lev bc kvs a:=by
 obtain⟨hn,hx,p,hb,hc⟩:=c;have oR:=blt hb;refine⟨hn,fun e=>(hX _ e).elim hx fun h=>by omega,p,hb,?_⟩;rcases hc with h | ⟨hr,P,hP,hp,hv,hA⟩
 .exact .inl h
 .exact .inr ⟨hr,P,hP.mono fun q hl hq=>hq.imp id fun e=>(hX q e).resolve_right (by omega),fun q hq=>⟨(hp q hq).1,fun e=>(hX q e).elim (hp q hq).2 fun h=>by have:=(hP.own.lt hq).2;omega⟩,hv,hA⟩
end Go.V
namespace Go.Proofs.YtpjbalhhlaofmaaGreat
open Go.V
section
variable {w:Wd} {T:Nat->Option Nat} {m:bB} {M:Mm}
end
end Go.Proofs.YtpjbalhhlaofmaaGreat
namespace Go.V
def Gl(fb tb:List Int)(x:KV):Bool:=!decide (bW x.1 fb) && (tb.isEmpty || decide (bW x.1 tb))
abbrev gR(kvs:List KV)(back:Bool)(a:Nat):List KV:=if back then(kvs.take a).reverse else kvs.drop a
abbrev ju(kvs:List KV)(fb tb:List Int)(back:Bool):List KV:=(if back then kvs.reverse else kvs).filter (Gl fb tb)
structure og(kvs:List KV)(fb tb:List Int)(back:Bool)(a n:Nat):Prop where
 hn:n<=(ju kvs fb tb back).length
 eq:(gR kvs back a).filter (Gl fb tb)=(ju kvs fb tb back).drop n
 ok:∀x∈gR kvs back a,if back then(tb=[]∨bW x.1 tb) else ¬ bW x.1 fb
theorem dB.keys{f:bH}{t:Int}{r:Rf}{lev:Int}{kvs:List KV}{ps:List Rf}(h:dB f t r lev kvs ps):∀x∈kvs,1<=x.1.length/\x.1.length<=32/\B8 x.1:=by
 rcases h with⟨_,_,h,_⟩ | ⟨_,_,h⟩
 .intro x hx;rw[h]at hx;cases hx
 .exact h.keys
theorem og.Y0{kvs:List KV}{fb tb:List Int}{a:Nat}(hs:gQ kvs)(p:wx kvs fb a):og kvs fb tb false a 0:=by
 refine⟨Nat.zero_le _,?_,fun x hx=>?_⟩
 .have e:kvs.filter (Gl fb tb)=(kvs.take a++kvs.drop a).filter (Gl fb tb):=by rw[List.take_append_drop]
  simp only[gR,ju,Bool.false_eq_true,if_false,List.drop_zero]
  have e0:(kvs.take a).filter (Gl fb tb)=[]:=List.filter_eq_nil_iff.2 fun x hx=>by
   obtain⟨j,hj,rfl⟩:=List.getElem_of_mem hx;rw[List.getElem_take];simp only[List.length_take]at hj;have:=p.lt j (by omega) (by omega);simp[Gl,this]
  rw[e,List.filter_append,e0,List.nil_append]
 .simp only[Bool.false_eq_true,if_false]at hx ⊢;simp only[gR,Bool.false_eq_true,if_false]at hx;obtain⟨j,hj,rfl⟩:=List.getElem_of_mem hx;simp only[List.length_drop]at hj;rw[List.getElem_drop];intro h;have h0:=p.ge (by omega);rcases Nat.eq_zero_or_pos j with h1 | h1
  .subst h1;exact h0 h
  .exact h0 ((hs.lt (i:=a) (j:=a+j) (by omega) (by omega)).trans h)
theorem og.Y1{kvs:List KV}{fb:List Int}:og kvs fb [] true kvs.length 0:=by
 refine⟨Nat.zero_le _,?_,fun x _=>by simp⟩;simp[gR,ju]
theorem og.Y2{kvs:List KV}{fb tb:List Int}{a:Nat}(hs:gQ kvs)(h0:tb≠[])(p:wx kvs tb a):og kvs fb tb true a 0:=by
 refine⟨Nat.zero_le _,?_,fun x hx=>?_⟩
 .have e:kvs.filter (Gl fb tb)=(kvs.take a++kvs.drop a).filter (Gl fb tb):=by rw[List.take_append_drop]
  simp only[gR,ju,if_true,List.drop_zero]
  have e0:(kvs.drop a).filter (Gl fb tb)=[]:=List.filter_eq_nil_iff.2 fun x hx=>by
   obtain⟨j,hj,rfl⟩:=List.getElem_of_mem hx;simp only[List.length_drop]at hj;rw[List.getElem_drop]
   have bC:¬ bW kvs[a+j].1 tb:=fun h=>by
    have h2:=p.ge (by omega);rcases Nat.eq_zero_or_pos j with h1 | h1
    .subst h1;exact h2 h
    .exact h2 ((hs.lt (i:=a) (j:=a+j) (by omega) (by omega)).trans h)
   simp[Gl,bC,h0]
  rw[List.filter_reverse,List.filter_reverse,e,List.filter_append,e0,List.append_nil]
 .simp only[if_true];simp only[gR,if_true,List.mem_reverse]at hx;obtain⟨j,hj,rfl⟩:=List.getElem_of_mem hx;simp only[List.length_take]at hj;rw[List.getElem_take];exact .inr (p.lt j (by omega) (by omega))
theorem og.fin{kvs:List KV}{fb tb:List Int}{back:Bool}{a n:Nat}(r:og kvs fb tb back a n)(h:gR kvs back a=[]):n=(ju kvs fb tb back).length:=by
 have:=r.eq;rw[h]at this;have h2:=congrArg List.length this;simp only[List.filter_nil,List.length_nil,List.length_drop]at h2;have:=r.hn;omega
theorem og.next{kvs:List KV}{fb tb:List Int}{back:Bool}{a a' n:Nat}{x:KV}(r:og kvs fb tb back a n)(h:gR kvs back a=x::gR kvs back a')(hx:Gl fb tb x=true):∃hn:n < (ju kvs fb tb back).length,(ju kvs fb tb back)[n]=x/\og kvs fb tb back a' (n+1):=by
 have e:=r.eq;rw[h,List.filter_cons,if_pos hx]at e
 have hn:n < (ju kvs fb tb back).length:=by
  have h2:=congrArg List.length e;simp only[List.length_cons,List.length_drop]at h2;omega
 rw[List.drop_eq_getElem_cons hn]at e;refine⟨hn,(List.cons.inj e).1.symm,hn,(List.cons.inj e).2,fun y hy=>r.ok y (by rw[h];exact List.mem_cons_of_mem _ hy)⟩
theorem og.stop{kvs:List KV}{fb tb:List Int}{back:Bool}{a n:Nat}(r:og kvs fb tb back a n)(h:∀y∈gR kvs back a,Gl fb tb y=false):n=(ju kvs fb tb back).length:=by
 have e:=r.eq;rw[List.filter_eq_nil_iff.2 fun y hy=>by simp[h y hy]]at e;have h2:=congrArg List.length e;simp only[List.length_nil,List.length_drop]at h2;have:=r.hn;omega
theorem og.Y3{kvs:List KV}{fb tb:List Int}{a n:Nat}(hs:gQ kvs)(r:og kvs fb tb false a n)(ha:a < kvs.length)(h0:tb≠[])(h:¬ bW kvs[a].1 tb):n=(ju kvs fb tb false).length:=by
 refine r.stop fun y hy=>?_
 simp only[gR,Bool.false_eq_true,if_false]at hy;obtain⟨j,hj,rfl⟩:=List.getElem_of_mem hy;simp only[List.length_drop]at hj;rw[List.getElem_drop]
 have bC:¬ bW kvs[a+j].1 tb:=fun h2=>by
  rcases Nat.eq_zero_or_pos j with h1 | h1
  .subst h1;exact h h2
  .exact h ((hs.lt (i:=a) (j:=a+j) (by omega) (by omega)).trans h2)
 simp[Gl,bC,h0]
theorem og.Y4{kvs:List KV}{fb tb:List Int}{a n:Nat}(hs:gQ kvs)(r:og kvs fb tb true a n)(ha:a - 1 < kvs.length)(h1:1<=a)(h:bW kvs[a - 1].1 fb):n=(ju kvs fb tb true).length:=by
 refine r.stop fun y hy=>?_
 simp only[gR,if_true,List.mem_reverse]at hy;obtain⟨j,hj,rfl⟩:=List.getElem_of_mem hy;simp only[List.length_take]at hj;rw[List.getElem_take]
 have cL:bW kvs[j].1 fb:=by
  rcases Nat.lt_or_ge j (a - 1) with h2 | h2
  .exact(hs.lt (i:=j) (j:=a - 1) h2 ha).trans h
  .have:j=a - 1:=by omega
   subst this;exact h
 simp[Gl,cL]
theorem S_{kvs:List KV}{a:Nat}(h:a < kvs.length):gR kvs false a=kvs[a]::gR kvs false (a+1):=by
 simp only[gR,Bool.false_eq_true,if_false];exact List.drop_eq_getElem_cons h
theorem Ta{kvs:List KV}{a:Nat}(h:a - 1 < kvs.length)(h1:1<=a):gR kvs true a=kvs[a - 1]::gR kvs true (a - 1):=by
 simp only[gR,if_true]
 obtain⟨b,rfl⟩ : ∃b,a=b+1:=⟨a - 1,by omega⟩
 have h':b < kvs.length:=by simpa using h
 rw[List.take_add_one,List.getElem?_eq_getElem h',Option.toList_some,List.reverse_append];simp
end Go.V
namespace Go.Proofs.YtpjbalhhlaofmaaGreat
open Go.V
section
variable {w:Wd} {T:Nat->Option Nat} {m:bB} {M:Mm}
abbrev acH(bc:Nat):Bool->Value
 | false=> .func (.func 105) #[.pointer (some ⟨bc,0,none⟩)] #[]
 | true=> .func (.func 108) #[.pointer (some ⟨bc,0,none⟩)] #[]
abbrev MO(kvs:List KV)(a:Nat):Bool->Nat
 | false=>kvs.length - a
 | true=>a
set_option maxHeartbeats 2000000 in
theorem P_{n0 bc a0 c0 c1 c2 c3 i0 i1 i2 i3:Nat}{X B:Nat->Prop}{t:Int}{r:Rf}{lev:Nat}{kvs:List KV}{ps:List Rf}{gq to:Sl}{fb tb:List Int}{back:Bool}{yield:Value}{J:Nat->Wd->(Nat->Prop)->Prop}{Z:Pw}{K:Pw}
  (R:aY w.heap T m M) (hT:∀q,n0<=q->T q=none) (yR:n0<=w.heap.size) (wy:dB M.f t r lev kvs ps) (dn:lev<=30) (c:iV w.heap n0 X M.f m t r lev bc kvs a0)
  (g0:w.heap[c0]? = some (.cells [.pointer (some ⟨bc,0,none⟩)].toArray i0 (0,0))) (g1:w.heap[c1]? = some (.cells [.bool back].toArray i1 (0,0))) (g2:w.heap[c2]? = some (.cells [.slice gq.a gq.len gq.cap].toArray i2 (0,0))) (g3:w.heap[c3]? = some (.cells [.slice to.a to.len to.cap].toArray i3 (0,0)))
  (hc:∀q,q=c0∨q=c1∨q=c2∨q=c3->X q/\¬ B q) (hX:∀q,X q->q < w.heap.size) (hB:∀q,B q->X q/\n0<=q)
  (hf:cZ w.heap gq fb) (f8:B8 fb) (hfq:fb≠[]->∀q,gq.aq=some q->q < n0) (ht:cZ w.heap to tb) (t8:B8 tb) (htq:tb≠[]->∀q,to.aq=some q->q < n0) (hJ:J 0 w B)
  (mono:∀{j w1 w2 B' S},J j w1 B'->Ext S w1 w2->(∀q,B' q->¬ S q)->J j w2 B')
  (step:∀n w1 B' ks vs base (hn:n < (ju kvs fb tb back).length) (Kr:Bool->Pw),J n w1 B'->aU w1.heap base ks (ju kvs fb tb back)[n].1->aU w1.heap base vs (ju kvs fb tb back)[n].2->(∀q,ks.aq=some q->vs.aq≠some q)->w.heap.size<=base/\base<=w1.heap.size->(∀q,B' q->q < base)->
   (∀w' Wg,J (n+1) w' Wg->Ext B' w1 w'->(∀q,Wg q->(B' q∨ks.aq=some q∨vs.aq=some q∨w1.heap.size<=q)/\q < w'.heap.size)->Kr true w')->(∀w',Z w'->Ext B' w1 w'->Kr false w')->
   aC pz true yield [.agg ([.slice ks.a ks.len ks.cap,.slice vs.a vs.len vs.cap]).toArray,.int .i64 0] [.one .bool] Kr cf w1)
  (k:∀w',(∃B',J (ju kvs fb tb back).length w' B'/\∀q,B' q->B q∨w.heap.size<=q)∨Z w'->Ext (fun q=>n0<=q/\(X q->B q)) w w'->K w'):ic yield ⟨c0,0,none⟩ ⟨c1,0,none⟩ ⟨c2,0,none⟩ ⟨c3,0,none⟩ w K:=by
 apply uy;have hs:gQ kvs:=wy.sort;have K_:=c.1;have acI:=c.2.1;have oR:bc < w.heap.size:=by obtain⟨_,_,p,h,_⟩:=c;exact blt h
 have k0:=hc c0 (.inl rfl);have k1:=hc c1 (.inr (.inl rfl));have k2:=hc c2 (.inr (.inr (.inl rfl)));have k3:=hc c3 (.inr (.inr (.inr rfl)));have nX:∀q,X q->q≠bc:=fun q h e=>acI (e ▸ h)
 refine⟨_,Cell.ai g0 rfl,?_⟩;refine⟨fun ev step w'=>ev=0/\step=acH bc back/\∃a,og kvs fb tb back a 0/\iV w'.heap n0 X M.f m t r lev bc kvs a/\Ext (·=bc) w w',?_,?_⟩
 .have Rd':aY (aa w).heap T m M:=R
  have jr:∀q,X q->q < w.heap.size/\q≠bc:=fun q h=>⟨hX q h,nX q h⟩
  cases back
  .exact⟨_,Cell.ai g1 rfl,If.not (If.no ⟨_,Cell.ai g0 rfl,_,Cell.ai g2 rfl,DK R yR wy dn c hf f8 fun a w1 c1' hp x1=>⟨rfl,rfl,a,og.Y0 hs hp,c1'.sub jr,x1⟩⟩)⟩
  .refine⟨_,Cell.ai g1 rfl,If.not (If.yes ⟨_,Cell.ai g3 rfl,If.beq (fun h=>?_) fun h=>?_⟩)⟩
   .have Y5:tb=[]:=by have:=cZ.len ht;exact List.length_eq_zero_iff.1 (by omega)
    refine⟨Ext (·=bc) w,(Ext.refl _ _).drew,_,ae.dQ (Cell.ai g0 rfl) (nX _ k0.1),_,ae.dQ (Cell.ai g0 rfl) (nX _ k0.1),PU (w:=aa w) Rd' yR wy dn c fun w1 c1' x1=>?_⟩;refine⟨x1.aj,rfl,rfl,kvs.length,by rw[Y5];exact og.Y1,c1'.sub jr,x1.aj⟩
   .have Y5:tb≠[]:=fun e=>by have:=cZ.len ht;rw[e]at this;simp at this;omega
    refine⟨Ext (·=bc) w,(Ext.refl _ _).drew,_,ae.dQ (Cell.ai g0 rfl) (nX _ k0.1),_,ae.dQ (Cell.ai g3 rfl) (nX _ k3.1),_,ae.dQ (Cell.ai g0 rfl) (nX _ k0.1),DK (w:=aa w) Rd' yR wy dn c ht t8 fun a w1 c1' hp x1=>?_⟩;exact⟨x1.aj,rfl,rfl,a,og.Y2 hs Y5 hp,c1'.sub jr,x1.aj⟩
 rintro _ ev stp w4 ⟨rfl,rfl,a1,I1,c4,x4⟩;have y4:=x4.size;refine⟨fun q ev w'=>ev=0/\∃n a B',q=MO kvs a back/\og kvs fb tb back a n/\J n w' B'/\(∀q,B' q->(B q∨w.heap.size<=q)/\q < w'.heap.size)/\iV w'.heap n0 (fun q=>X q∨B' q) M.f m t r lev bc kvs a/\Ext (fun q=>n0<=q/\(X q->B q)) w w',⟨_,rfl,0,a1,B,rfl,I1,mono hJ x4 fun q hq h=>nX _ (hB q hq).1 h,fun q hq=>⟨.inl hq,by have:=hX q (hB q hq).1;omega⟩,c4.sub fun q h=>h.elim id fun h=>(hB q h).1,x4.mono fun q _ h=>?_⟩,?_⟩
 .have h':q=bc:=h;subst h';exact⟨K_,fun h=>(acI h).elim⟩
 rintro _ m0 ev w5 ⟨rfl,n,a,B',rfl,I,hJ5,XA,c5,x5⟩;refine If.beq (fun _=>?_) fun h=>absurd rfl h
 refine ag.mk fun b w6 n6=>?_
 have hb:=n6.at_;have z6:=n6.size;have y5:=x5.size;have R6:aY w6.heap T m M:=(R.ext x5 fun q hq=>hT q hq.1).no n6.ext;have c6:=(c5.more (X':=fun q=>(X q∨B' q)∨q=b) fun q h=>h.imp id fun h=>by omega).no n6.ext
 have hX6:∀q,(X q∨B' q)∨q=b->q < w6.heap.size:=fun q h=>by
  rcases h with(h | h) | h
  .have:=hX q h;omega
  .have:=(XA q h).2;omega
  .omega
 -- a fixed block stays
 have afr:∀{q:Nat}{o:Obj},w.heap[q]? = some o->(X q/\¬ B q)->w5.heap[q]? = some o:=fun h h2=>af h x5 fun h3=>h2.2 (h3.2 h2.1)
 have MP:∀{w8:Wd}{q:Nat}{o:Obj},Ext (fun q=>n0<=q/\¬ (X q∨B' q)) w5 w8->w.heap[q]? = some o->(X q/\¬ B q)->w8.heap[q]? = some o:=fun x h h2=>af (afr h h2) x fun h3=>h3.2 (.inl h2.1)
 have rd8:∀{w8:Wd}{s:Sl}{l:List Int},Ext (fun q=>n0<=q/\¬ (X q∨B' q)) w5 w8->cZ w.heap s l->(l≠[]->∀q,s.aq=some q->q < n0)->cZ w8.heap s l:=fun x h h2=>Rd.Kv (Rd.Kv h x5 fun hn q hl hq h3=>by have:=h2 hn q hq;omega) x fun hn q hl hq h3=>by have:=h2 hn q hq;omega
 -- the end
 have done:∀{w7:Wd}{zs:List Value},zs.length=2->w7.heap[b]? = some (.cells zs.toArray 92 (0,0))->n=(ju kvs fb tb back).length->Ext (fun q=>n0<=q/\¬ (X q∨B' q)) w5 w7->K w7:=fun {w7 zs} hz g7 hn x7=>by
  refine k w7 (.inl ⟨B',hn ▸ mono hJ5 x7 fun q hq h=>h.2 (.inr hq),fun q hq=>(XA q hq).1⟩) (x5.trans x7 fun q hq h=>⟨h.1,fun h2=>(h.2 (.inl h2)).elim⟩)
 -- one more
 have tail:∀{a':Nat}{x:KV}{ks vs:Sl}{w8:Wd},w8.heap[b]? = some (.cells [.slice ks.a ks.len ks.cap,.slice vs.a vs.len vs.cap].toArray 92 (0,0))->aU w8.heap w6.heap.size ks x.1->aU w8.heap w6.heap.size vs x.2->(∀q,ks.aq=some q->vs.aq≠some q)->iV w8.heap n0 (fun q=>((X q∨B' q)∨q=b)∨ks.aq=some q∨vs.aq=some q) M.f m t r lev bc kvs a'->Ext (fun q=>n0<=q/\¬ (X q∨B' q)) w5 w8->gR kvs back a=x::gR kvs back a'->Gl fb tb x=true->MO kvs a' back < MO kvs a back->
   ∃c:Sl,Cell w8 (Addr.mk b 0 none) (.slice c.a c.len c.cap)/\∃lk:Sl,Cell w8 ((Addr.mk b 0 none).add 1) (.slice lk.a lk.len lk.cap)/\
   aC pz true yield [.agg ([.slice c.a c.len c.cap,.slice lk.a lk.len lk.cap]).toArray,.int .i64 0] [.one (.bool)] (fun K1 dg=>If (!K1) (K dg) (∃m1,m1 < MO kvs a back/\(0:Int)=0/\∃n a B',m1=MO kvs a back/\og kvs fb tb back a n/\J n dg B'/\(∀q,B' q->(B q∨w.heap.size<=q)/\q < dg.heap.size)/\iV dg.heap n0 (fun q=>X q∨B' q) M.f m t r lev bc kvs a/\Ext (fun q=>n0<=q/\(X q->B q)) w dg)) cf w8:=fun {a' x ks vs w8} g8 ok ov dj c8 x8 DH MV hm=>by
  obtain⟨hn,hx,I'⟩:=I.next DH MV
  have qq:Ext (fun q=>n0<=q/\(X q->B q)) w w8:=x5.trans x8 fun q hq h=>⟨h.1,fun h2=>(h.2 (.inl h2)).elim⟩
  have y8:=x8.size
  have ext:∀{w':Wd},Ext B' w8 w'->Ext (fun q=>n0<=q/\(X q->B q)) w w':=fun x'=>qq.trans x' fun q hq h=>by
   have h2:B q:=((XA q h).1).resolve_right (by omega);exact⟨(hB q h2).2,fun _=>h2⟩
  refine⟨⟨ks.a,ks.len,ks.cap⟩,Cell.ai g8 rfl,⟨vs.a,vs.len,vs.cap⟩,Cell.ai g8 rfl,step n w8 B' ks vs w6.heap.size hn _ (mono hJ5 x8 fun q hq h=>h.2 (.inr hq)) (by rw[hx];exact ok) (by rw[hx];exact ov) dj ⟨by omega,by have:=blt g8;omega⟩ (fun q hq=>by have:=(XA q hq).2;omega) (fun w' Wg hJ' x' Rg=>?_) fun w' hz x'=>If.not (If.no (k w' (.inr hz) (ext x')))⟩;refine If.not (If.yes ⟨_,hm,rfl,n+1,a',Wg,rfl,I',hJ',fun q hq=>⟨?_,(Rg q hq).2⟩,?_,ext x'⟩)
  .rcases(Rg q hq).1 with h | h | h | h
   .exact(XA q h).1
   .have:=(ok.lt h).1;exact .inr (by omega)
   .have:=(ov.lt h).1;exact .inr (by omega)
   .exact .inr (by omega)
  .refine(c8.more (X':=fun q=>(((X q∨B' q)∨q=b)∨ks.aq=some q∨vs.aq=some q)∨w8.heap.size<=q) fun q h=>h).ext x' (fun q _ _ _ h h2=>h (.inl (.inl (.inl (.inr h2))))) (fun h=>?_) fun q h=>?_
   .exact c5.2.1 (.inr h)
   .rcases h with h | h
    .exact .inl (.inl (.inl (.inl h)))
    .rcases(Rg q h).1 with h | h | h | h
     .exact .inl (.inl (.inl (.inr h)))
     .exact .inl (.inr (.inl h))
     .exact .inl (.inr (.inr h))
     .exact .inr h
 have xN:Ext (fun q=>n0<=q/\¬ (X q∨B' q)) w5 w6:=n6.ext.aG;have nb:¬ (X b∨B' b):=fun h=>h.elim (fun h=>by have:=hX b h;omega) fun h=>by have:=(XA b h).2;omega
 have bbc:b≠bc:=by omega
 cases back
 .refine vC (PY (X:=fun q=>(X q∨B' q)∨q=b) R6 (by omega) wy dn c6 hX6 (fun ha w7 c7 x7=>?_) fun IC ks vs w7 ok ov dj c7 x7=>?_)
  .have FI:=xN.no x7;refine cK (ad n6.get x7) rfl rfl (by simp[aN]) fun w8 g8 x8 _=>If.beq (fun _=>done rfl g8 (I.fin (by simp[gR,ha])) (FI.trans x8 fun q hq h=>?_)) fun h=>absurd rfl h
   have h':q=b:=h;subst h';exact⟨by omega,nb⟩
  .have FI:Ext (fun q=>n0<=q/\¬ (X q∨B' q)) w5 w7:=xN.trans x7 fun q _ h=>⟨h.1,fun h2=>h.2 (.inl h2)⟩
   have y7:=x7.size;refine cK (af n6.get x7 fun h=>h.2 (.inr rfl)) rfl rfl (by simp[aN]) fun w8 g8 x8 _=>If.beq (fun h=>by omega) fun _=>If.beq (fun _=>?_) fun h=>absurd rfl h
   have DV:Ext (·=b) w7 w8:=x8;have xZ:Ext (fun q=>n0<=q/\¬ (X q∨B' q)) w5 w8:=FI.trans DV fun q hq h=>by subst h;exact⟨by omega,nb⟩
   have ok8:aU w8.heap w6.heap.size ks kvs[a].1:=ok.ext DV fun q hq h=>by have:=(ok.lt hq).1;omega
   have ov8:aU w8.heap w6.heap.size vs kvs[a].2:=ov.ext DV fun q hq h=>by have:=(ov.lt hq).1;omega
   have c8:=c7.ext DV (X':=fun q=>((X q∨B' q)∨q=b)∨ks.aq=some q∨vs.aq=some q) (fun q _ _ _ h h2=>h (.inl (.inr h2))) (fun h=>bbc h.symm) fun q h=>h
   have k8:B8 kvs[a].1:=(wy.keys _ (List.getElem_mem IC)).2.2;have tl:=fun MV=>tail g8 ok8 ov8 dj c8 xZ (S_ IC) MV (by simp only[MO];omega)
   have ZN:¬ bW kvs[a].1 fb:=by have:=I.ok _ (by rw[S_ IC];exact List.mem_cons_self);simpa using this
   have t3:cZ w8.heap to tb:=rd8 xZ ht htq;refine⟨_,Cell.ai (MP xZ g1 k1) rfl,If.no ⟨_,Cell.ai (MP xZ g1 k1) rfl,If.not (If.no ⟨_,Cell.ai (MP xZ g3 k3) rfl,If.dec (fun hl=>?_) fun hl=>?_⟩)⟩⟩
   .have Y5:tb≠[]:=fun e=>by have:=cZ.len ht;rw[e]at this;simp at this;omega
    refine⟨_,Cell.ai g8 rfl,_,Cell.ai (MP xZ g3 k3) rfl,hO ok8.rd t3 k8 t8 (If.dec (fun hg=>?_) fun hg=>?_)⟩
    .exact done rfl g8 (I.Y3 hs IC Y5 (nc.1 hg)) xZ
    .have cL:bW kvs[a].1 tb:=Decidable.of_not_not fun h=>hg (nc.2 h)
     exact tl (by simp[Gl,ZN,cL])
   .have Y5:tb=[]:=by have:=cZ.len ht;exact List.length_eq_zero_iff.1 (by omega)
    exact tl (by simp[Gl,ZN,Y5])
 .refine vA (PZ (X:=fun q=>(X q∨B' q)∨q=b) R6 (by omega) wy dn c6 hX6 (fun ha w7 c7 x7=>?_) fun IC ks vs w7 ZM ok ov dj c7 x7=>?_)
  .have FI:=xN.no x7;refine cK (ad n6.get x7) rfl rfl (by simp[aN]) fun w8 g8 x8 _=>If.beq (fun _=>done rfl g8 (I.fin (by simp[gR,ha])) (FI.trans x8 fun q hq h=>?_)) fun h=>absurd rfl h
   have h':q=b:=h;subst h';exact⟨by omega,nb⟩
  .have FI:Ext (fun q=>n0<=q/\¬ (X q∨B' q)) w5 w7:=xN.trans x7 fun q _ h=>⟨h.1,fun h2=>h.2 (.inl h2)⟩
   have y7:=x7.size;refine cK (af n6.get x7 fun h=>h.2 (.inr rfl)) rfl rfl (by simp[aN]) fun w8 g8 x8 _=>If.beq (fun h=>by omega) fun _=>If.beq (fun _=>?_) fun h=>absurd rfl h
   have DV:Ext (·=b) w7 w8:=x8;have xZ:Ext (fun q=>n0<=q/\¬ (X q∨B' q)) w5 w8:=FI.trans DV fun q hq h=>by subst h;exact⟨by omega,nb⟩
   have ok8:aU w8.heap w6.heap.size ks kvs[a - 1].1:=ok.ext DV fun q hq h=>by have:=(ok.lt hq).1;omega
   have ov8:aU w8.heap w6.heap.size vs kvs[a - 1].2:=ov.ext DV fun q hq h=>by have:=(ov.lt hq).1;omega
   have c8:=c7.ext DV (X':=fun q=>((X q∨B' q)∨q=b)∨ks.aq=some q∨vs.aq=some q) (fun q _ _ _ h h2=>h (.inl (.inr h2))) (fun h=>bbc h.symm) fun q h=>h
   have k8:B8 kvs[a - 1].1:=(wy.keys _ (List.getElem_mem IC)).2.2;have tl:=fun MV=>tail g8 ok8 ov8 dj c8 xZ (Ta IC ZM) MV (by simp only[MO];omega)
   have hnt:tb=[]∨bW kvs[a - 1].1 tb:=by have:=I.ok _ (by rw[Ta IC ZM];exact List.mem_cons_self);simpa using this
   have t2:cZ w8.heap gq fb:=rd8 xZ hf hfq;refine⟨_,Cell.ai (MP xZ g1 k1) rfl,If.yes ⟨_,Cell.ai g8 rfl,_,Cell.ai (MP xZ g2 k2) rfl,hO ok8.rd t2 k8 f8 (If.dec (fun hg=>?_) fun hg=>?_)⟩⟩
   .exact done rfl g8 (I.Y4 hs IC ZM (Decidable.of_not_not fun h=>by have:=nc.2 h;omega)) xZ
   .have ZN:¬ bW kvs[a - 1].1 fb:=nc.1 (by omega);refine⟨_,Cell.ai (MP xZ g1 k1) rfl,If.not (If.yes (tl ?_))⟩;rcases hnt with h | h <;> simp[Gl,ZN,h]
end
section
variable {w:Wd} {T:Nat->Option Nat} {m:bB} {M:Mm}
structure TO(base b1 b2 b3 b4:Nat)(most:Int)(LL:List KV)(n:Nat)(w':Wd)(D:Nat->Prop)(s:Sl)(L:List Pr):Prop where
 c1:w'.heap[b1]? = some (.cells [.int .i64 most].toArray 3 (0,0))
 c2:w'.heap[b2]? = some (.cells [.slice none 0 0].toArray 88 (0,0))
 c3:w'.heap[b3]? = some (.cells [.int .i64 0].toArray 34 (0,0))
 c4:w'.heap[b4]? = some (.cells [.slice s.a s.len s.cap].toArray 88 (0,0))
 own:aT w'.heap base 92 2 s (L.flatMap Pr.cs)
 pr:∀p∈L,WG w'.heap D p
 dd:∀q,D q->s.aq≠some q/\base<=q/\q < w'.heap.size
 kv:KS L=LL.take n
 hn:n<=LL.length
theorem TO.len{base b1 b2 b3 b4:Nat}{most:Int}{LL:List KV}{n:Nat}{w':Wd}{D:Nat->Prop}{s:Sl}{L:List Pr}(g:TO base b1 b2 b3 b4 most LL n w' D s L):L.length=n/\s.len=n:=by
 have h1:=congrArg List.length g.kv;have h2:=g.own.len;rw[aK (DI L)]at h2;have:=g.hn;simp only[List.length_map,List.length_take]at h1;omega
theorem TO.ext{base b1 b2 b3 b4:Nat}{most:Int}{LL:List KV}{n:Nat}{w' kC:Wd}{D S:Nat->Prop}{s:Sl}{L:List Pr}(g:TO base b1 b2 b3 b4 most LL n w' D s L)(x:Ext S w' kC)(h:∀q,(q=b1∨q=b2∨q=b3∨q=b4)∨s.aq=some q∨D q->¬ S q):TO base b1 b2 b3 b4 most LL n kC D s L:=by
 have y:=x.size;exact⟨af g.c1 x (h _ (.inl (.inl rfl))),af g.c2 x (h _ (.inl (.inr (.inl rfl)))),af g.c3 x (h _ (.inl (.inr (.inr (.inl rfl))))),af g.c4 x (h _ (.inl (.inr (.inr (.inr rfl))))),g.own.ext x fun q hq=>h q (.inr (.inl hq)),fun p hp=>(g.pr p hp).ext x fun q _ hq=>h q (.inr (.inr hq)),fun q hq=>⟨(g.dd q hq).1,(g.dd q hq).2.1,by have:=(g.dd q hq).2.2;omega⟩,g.kv,g.hn⟩
set_option maxHeartbeats 2000000 in
theorem MQ{t:Int}{r:Rf}{lev:Nat}{kvs:List KV}{ps:List Rf}{gq to:Sl}{fb tb:List Int}{most:Int}{back:Bool}{K:Sl->Int->Pw}(R:aY w.heap T m M)(wy:dB M.f t r lev kvs ps)(dn:lev<=30)(BA:kvs.length<=100000)(h8:∀x∈kvs,B8 x.2)
  (hf:cZ w.heap gq fb) (f8:B8 fb) (ht:cZ w.heap to tb) (t8:B8 tb)
  (k:∀s L w',PQ w'.heap (fun q=>w.heap.size<=q/\q < w'.heap.size) s L->(∀q,s.aq=some q->w.heap.size<=q/\q < w'.heap.size)->KS L=(ju kvs fb tb back).take most.toNat->Ext No w w'->K s 0 w'):qA (eW m) t r.p r.c r.g lev gq to most back w K:=by
 apply HS;refine ag.mk fun b w1 n1=>ag.mk fun b1 w2 n2=>ag.mk fun b2 w3 n3=>ag.mk fun b3 w4 n4=>?_
 have e1:=n1.at_;have e2:=n2.at_;have e3:=n3.at_;have e4:=n4.at_;have z1:=n1.size;have z2:=n2.size;have z3:=n3.size;have z4:=n4.size;have gF:Ext No w w4:=((n1.ext.no n2.ext).no n3.ext).no n4.ext;have gt4:=ad (ad (ad n1.get n2.ext) n3.ext) n4.ext;refine⟨_,Cell.ai gt4 rfl,_,Cell.ai gt4 rfl,_,Cell.ai gt4 rfl,_,Cell.ai gt4 rfl,?_⟩;have hT:∀q,w.heap.size<=q->T q=none:=fun q hq=>R.iA hq
 refine PT (n0:=w.heap.size) (R.no gF) (by omega) wy dn fun bc w5 c5 K_ x5=>If.bne (fun h=>(h rfl).elim) fun _=>ag.mk fun b4 w8 n8=>?_
 have e8:=n8.at_;have z8:=n8.size;have y5:=x5.size;have K4:Ext No w4 w8:=x5.no n8.ext;have qq:=gF.no K4;have g1:=ad (ad (ad n2.get n3.ext) n4.ext) K4;have g2:=ad (ad n3.get n4.ext) K4;have g3:=ad n4.get K4;have g4:=n8.get
 have ll8:∀x∈ju kvs fb tb back,x∈kvs:=fun x hx=>by
  have:=(List.mem_filter.1 hx).1
  cases back <;> simpa using this
 have lll:(ju kvs fb tb back).length<=kvs.length:=by
  refine Nat.le_trans (List.length_filter_le _ _) ?_
  cases back <;> simp
 refine⟨_,Cell.ai g1 rfl,If.dec (fun hm=>?_) fun hm=>?_⟩
 .refine aF.mk g2 (by simp) rfl fun w9 h9=>?_
  have x9:Ext (·=b2) w8 w9:=h9.ext;refine aF.mk (af g3 x9 (by omega)) (by simp) rfl fun dA AV=>?_
  have dR:Ext (·=b3) w9 dA:=AV.ext;refine⟨⟨none,0,0⟩,Cell.ai (af (h9.get g2) dR (by omega)) rfl,_,Cell.ai (AV.get (af g3 x9 (by omega))) rfl,k ⟨none,0,0⟩ [] dA ⟨Rd.nil _ _,by simp⟩ (by simp[Sl.aq]) ?_ ((qq.trans x9 fun q hq h=>by omega).trans dR fun q hq h=>by omega)⟩;have:most.toNat=0:=by omega
  simp[this]
 apply wY;refine ag.mk fun d0 w9 n9=>ag.mk fun d1 dA mH=>ag.mk fun d2 dg pB=>ag.mk fun d3 eG lD=>?_
 have f0:=n9.at_;have f1:=mH.at_;have f2:=pB.at_;have f3:=lD.at_;have z9:=n9.size;have LS:=mH.size;have Re:=pB.size;have Ro:=lD.size;have afs:Ext No w8 eG:=((n9.ext.no mH.ext).no pB.ext).no lD.ext;intro rf dk lp cX eT Dr;obtain⟨eE,K2,hrf,hdf⟩:=eT.facts;have hlp:lp=eG.heap.size+1:=eT.l;have VZ:dk=eG.heap.size:=eT.d;have wq:=afs.no eE;have acJ:Ext No w5 cX:=n8.ext.no wq;have Du:=qq.no wq;have c13:=(c5.more (X':=fun q=>q < w4.heap.size∨(w5.heap.size<=q/\q < cX.heap.size)) fun q h=>h.imp id fun h=>h.1).no acJ;have q0:=ad (ad (ad (ad n9.get mH.ext) pB.ext) lD.ext) eE;have q1:=ad (ad (ad mH.get pB.ext) lD.ext) eE;have q2:=ad (ad pB.get lD.ext) eE;have q3:=ad lD.get eE;have ZC:=wq.size;have agV:=acJ.size
 -- the end
 have fin:∀{n:Nat}{w':Wd}{D:Nat->Prop}{s:Sl}{L:List Pr}{p:Option Code},TO cX.heap.size b1 b2 b3 b4 most (ju kvs fb tb back) n w' D s L->fO dk w'->Ext (fun q=>w.heap.size<=q) cX w'->(ju kvs fb tb back).take n=(ju kvs fb tb back).take most.toNat->
   ∃iQ:Sl,Cell (aP lp rf .exhausted p w') (Addr.mk b4 0 none) (.slice iQ.a iQ.len iQ.cap)/\aF (aP lp rf .exhausted p w') (Addr.mk b2 0 none) (.slice iQ.a iQ.len iQ.cap) fun py=>aF py (Addr.mk b3 0 none) (.int .i64 0) fun xY=>fO dk xY/\∃ma:Sl,Cell ((bJ dk xY)) (Addr.mk b2 0 none) (.slice ma.a ma.len ma.cap)/\∃nZ:Int,Cell ((bJ dk xY)) (Addr.mk b3 0 none) (.int .i64 nZ)/\K ma nZ ((bJ dk xY)):=fun {n w' D s L p} G hd x' hn=>by
  have y':=x'.size;have xp:Ext (·=lp) w' (aP lp rf .exhausted p w'):=eH;have ds:∀q,s.aq=some q->cX.heap.size<=q/\q < w'.heap.size:=fun q hq=>G.own.lt hq
  have Gp:=G.ext xp fun q hq h=>by
   rcases hq with hq | hq | hq
   .omega
   .have:=ds q hq;omega
   .have:=(G.dd q hq).2;omega
  refine⟨s,Cell.ai Gp.c4 rfl,aF.mk Gp.c2 (by simp) rfl fun py h22=>?_⟩;have Mo:Ext (·=b2) (aP lp rf .exhausted p w') py:=h22.ext;have t2:py.heap[b2]? = some (.cells [.slice s.a s.len s.cap].toArray 88 (0,0)):=h22.get Gp.c2;refine aF.mk (af Gp.c3 Mo (by omega)) (by simp) rfl fun xY ZY=>?_
  have mJ:Ext (·=b3) py xY:=ZY.ext;have t3:xY.heap[b3]? = some (.cells [.int .i64 0].toArray 34 (0,0)):=ZY.get (af Gp.c3 Mo (by omega));have xd:Ext (·=dk) xY (bJ dk xY):=oX;have xa:Ext (fun q=>q=lp∨q=b2∨q=b3∨q=dk) w' (bJ dk xY):=(((xp.mono fun _ _ h=> .inl h).trans Mo fun _ _ h=> .inr (.inl h)).trans mJ fun _ _ h=> .inr (.inr (.inl h))).trans xd fun _ _ h=> .inr (.inr (.inr h))
  have ya:=xa.size;refine⟨((hd.ext xp (by omega)).ext Mo (by omega)).ext mJ (by omega),s,Cell.ai (af (af t2 mJ (by omega)) xd (by omega)) rfl,0,Cell.ai (af t3 xd (by omega)) rfl,k s L _ ⟨G.own.rd.ext xa fun a q h1 h2 h=>by have:=ds q (by simp[Sl.aq,h1,h2]);omega,fun p hp=>((G.pr p hp).ext xa fun q _ hq h=>by have:=(G.dd q hq).2;omega).mono fun q _ hq=>?_⟩ (fun q hq=>?_) (by rw[G.kv,hn]) ((Du.trans x' fun q hq h=>by omega).trans xa fun q hq h=>by omega)⟩
  .have:=(G.dd q hq).2;omega
  .have:=ds q hq;omega
 refine uz (P_ (w:=cX) (n0:=w.heap.size) (bc:=bc) (a0:=0) (X:=fun q=>q < w4.heap.size∨(w5.heap.size<=q/\q < cX.heap.size)) (B:=fun q=>q=b1∨q=b2∨q=b3∨q=b4∨q=dk∨q=lp) (fb:=fb) (tb:=tb)
  (J:=fun n w' B'=>dE lp rf .ready none w'/\fO dk w'/\(n:Int) < most/\∃D s L,TO cX.heap.size b1 b2 b3 b4 most (ju kvs fb tb back) n w' D s L/\∀q,B' q ↔ (q=b1∨q=b2∨q=b3∨q=b4∨q=dk∨q=lp)∨s.aq=some q∨D q)
  (Z:=fun w'=>dE lp rf .done (some (.exit 0)) w'/\fO dk w'/\∃(n:Nat),∃D s L,(n:Int)=most/\TO cX.heap.size b1 b2 b3 b4 most (ju kvs fb tb back) n w' D s L)
  (R.no Du) hT (by omega) wy dn c13 q0 q3 q1 q2 (fun q hq=>⟨.inr (by omega),by omega⟩) (fun q hq=>by omega) (fun q hq=>⟨by omega,by omega⟩)
  (Rd.no hf Du) f8 (fun hn q hq=>Rd.lt hf (by simpa using hn) hq) (Rd.no ht Du) t8 (fun hn q hq=>Rd.lt ht (by simpa using hn) hq)
  ⟨hrf,hdf,by omega,No,⟨none,0,0⟩,[],⟨ad g1 wq,ad g2 wq,ad g3 wq,ad g4 wq,aT.nil _ _ _ _,by simp,fun q h=>h.elim,by simp,Nat.zero_le _⟩,fun q=>by simp[Sl.aq,No]⟩
  (fun {j w1 w2 B' S} hJ x hS=>?_) (fun n v1 B' ks vs base hn Kr hJ ok ov dj hb hBb kt kf=>?_) fun w' hJ x=>?_)
 .obtain⟨h1,h2,h3,D,s,L,h5,h6⟩:=hJ;exact⟨h1.ext x (hS _ ((h6 _).2 (by simp))),h2.ext x (hS _ ((h6 _).2 (by simp))),h3,D,s,L,h5.ext x fun q hq=>hS q ((h6 q).2 (hq.imp (fun h=>by omega) id)),h6⟩
 .obtain⟨h1,h2,h3,D,s,L,h5,h6⟩:=hJ;have v13:=hb.1;have bv:=hb.2;refine Dr ks vs 0 v1 Kr h1 (ag.mk fun b5 c_ Qs=>?_);have u5:=Qs.at_;have TA:=Qs.size;refine cK Qs.get rfl rfl (by simp[aN]) fun dU HC pH _=>?_
  have iT:Ext (·=b5) c_ dU:=pH;have y15:=iT.size;have sl:∀q,s.aq=some q->cX.heap.size<=q/\q < v1.heap.size:=fun q hq=>h5.own.lt hq
  have Ad:=(h1.ext Qs.ext fun h=>h).ext iT (by have:=h1.lt;omega);have Qk:=(h2.ext Qs.ext fun h=>h).ext iT (by have:=h2.lt;omega);have acK:Ext No v1 dU:=Qs.ext.trans iT fun q hq h=>by omega
  refine⟨Ad,If.bne (fun h=>(h rfl).elim) fun _=>?_⟩;have xb:Ext (·=lp) dU (aP lp rf .busy none dU):=eH
  have G:=(h5.ext acK fun _ _ h=>h).ext xb fun q hq h=>by
   rcases hq with hq | hq | hq
   .omega
   .have:=sl q hq;omega
   .have:=(h5.dd q hq).2;omega
  have zb:(aP lp rf .busy none dU).heap.size=dU.heap.size:=lH;have UO:=af HC xb (by have:=h1.lt;omega);refine⟨s,Cell.ai G.c4 rfl,ks,Cell.ai UO rfl,vs,Cell.ai UO rfl,ag.mk fun b6 vK PD=>?_⟩;have u6:=PD.at_;have z18:=PD.size;have Y6:=G.ext PD.ext fun _ _ h=>h
  have gl:=Y6.len;have tz:dE lp rf .busy none vK:=(Ad.put).ext PD.ext fun h=>h
  have aft:fO dk vK:=(Qk.ext xb (by omega)).ext PD.ext fun h=>h
  have o6:aT vK.heap (aP lp rf .busy none dU).heap.size 92 2 ⟨some ⟨b6,0,none⟩,1,1⟩ [.slice ks.a ks.len ks.cap,.slice vs.a vs.len vs.cap]:=aT.new PD rfl (by simp[aN]);refine Hp Y6.own (by omega) o6.rd.src (by show(s.len+1) * 48<=_;omega) fun s1 yX o19 l19 Ev oR=>?_
  have agW:s1.len=s.len+1:=l19;have Ic:Ext (fun q=>s.aq=some q) vK yX:=Ev;have y19:=Ic.size;have nl:∀q,q < cX.heap.size->¬ s.aq=some q:=fun q h hq=>by have:=sl q hq;omega
  refine aF.mk (af Y6.c4 Ic (nl _ (by omega))) (by simp) rfl fun pG Rq=>?_
  have uH:Ext (·=b4) yX pG:=Rq.ext;have y20:=uH.size;have g20:pG.heap[b4]? = some (.cells [.slice s1.a s1.len s1.cap].toArray 88 (0,0)):=Rq.get (af Y6.c4 Ic (nl _ (by omega)))
  have sl1:∀q,s1.aq=some q->s.aq=some q∨vK.heap.size<=q:=fun q hq=>by
   rcases oR with h | ⟨c,h,hc⟩
   .exact .inl (by rw[<- h];exact hq)
   .rw[h]at hq;cases hq;exact .inr hc
  have Oc:=(tz.ext Ic (nl _ (by omega))).ext uH (by omega);have acL:=(aft.ext Ic (nl _ (by omega))).ext uH (by omega);have acM:Ext (·=lp) v1 vK:=(acK.aG.trans xb fun _ _ h=>h).no PD.ext;have Od:Ext (fun q=>q=lp∨s.aq=some q∨q=b4) v1 pG:=((acM.mono fun _ _ h=> .inl h).trans Ic fun _ _ h=> .inr (.inl h)).trans uH fun _ _ h=> .inr (.inr h)
  have kx:∀{sx:Sl}{l:List Int},aU v1.heap base sx l->aU pG.heap base sx l:=fun o=>o.ext Od fun q hq h=>by
   have h7:=(o.lt hq).1;rcases h with h | h | h
   .omega
   .have:=hBb q ((h6 q).2 (.inr (.inl h)));omega
   .omega
  have afu:=kx ok;have afv:=kx ov;have hx:(ju kvs fb tb back)[n]∈kvs:=ll8 _ (List.getElem_mem hn)
  -- XY is acN now
  have G20:TO cX.heap.size b1 b2 b3 b4 most (ju kvs fb tb back) (n+1) pG (fun q=>D q∨ks.aq=some q∨vs.aq=some q) s1 (L++[(⟨ks,vs⟩,(ju kvs fb tb back)[n])]):=by
   refine⟨af (af Y6.c1 Ic (nl _ (by omega))) uH (by omega),af (af Y6.c2 Ic (nl _ (by omega))) uH (by omega),af (af Y6.c3 Ic (nl _ (by omega))) uH (by omega),g20,?_,fun p hp=>?_,fun q hq=>?_,?_,hn⟩
   .have ZQ:=o19.ext uH fun q hq h=>by
     rcases sl1 q hq with h7 | h7
     .exact nl q (by omega) h7
     .omega
    rw[List.flatMap_append];exact ZQ
   .rcases List.mem_append.1 hp with h | h
    .refine((h5.pr p h).ext Od fun q _ hq h7=>?_).mono fun q _ h=> .inl h
     have:=h5.dd q hq;rcases h7 with h7 | h7 | h7
     .omega
     .exact this.1 h7
     .omega
    .rw[List.mem_singleton]at h;subst h;exact⟨afu.rd,afv.rd,(wy.keys _ hx).2.2,h8 _ hx,fun _ q hq=> .inr (.inl hq),fun _ q hq=> .inr (.inr hq)⟩
   .have RH:∀q,q < v1.heap.size->¬ s.aq=some q->s1.aq≠some q:=fun q h1 h2 h3=>(sl1 q h3).elim h2 fun h=>by omega
    rcases hq with hq | hq | hq
    .have:=h5.dd q hq;exact⟨RH q this.2.2 this.1,this.2.1,by omega⟩
    .have:=ok.lt hq;exact⟨RH q this.2 fun h=>by have:=hBb q ((h6 q).2 (.inr (.inl h)));omega,by omega,by omega⟩
    .have:=ov.lt hq;exact⟨RH q this.2 fun h=>by have:=hBb q ((h6 q).2 (.inr (.inl h)));omega,by omega,by omega⟩
   .rw[KS,List.map_append,List.map_singleton,List.take_add_one,List.getElem?_eq_getElem hn];have:=h5.kv;rw[KS]at this;rw[this];rfl
  have TD:Ext B' v1 pG:=Od.mono fun q _ h=>(h6 q).2 (by
   rcases h with h | h | h
   .exact .inl (by omega)
   .exact .inr (.inl h)
   .exact .inl (by omega))
  have xr:∀{st:LoopState}{p:Option Code},Ext (·=lp) pG (aP lp rf st p pG):=eH
  have blp:B' lp:=(h6 lp).2 (.inl (by omega))
  have Gr:∀{st:LoopState}{p:Option Code},TO cX.heap.size b1 b2 b3 b4 most (ju kvs fb tb back) (n+1) (aP lp rf st p pG) (fun q=>D q∨ks.aq=some q∨vs.aq=some q) s1 (L++[(⟨ks,vs⟩,(ju kvs fb tb back)[n])]):=G20.ext xr fun q hq h=>by
   rcases hq with hq | hq | hq
   .omega
   .have:=(G20.own.lt hq).1;omega
   .have:=(G20.dd q hq).2;omega
  refine⟨s1,Cell.ai g20 rfl,most,Cell.ai G20.c1 rfl,If.dec (fun zI=>⟨Oc,kf _ ⟨Oc.put,acL.ext xr (by omega),n+1,_,s1,_,by omega,Gr⟩ (TD.trans xr fun q _ h=>h ▸ blp)⟩) fun zI=>⟨Oc,kt _ _ ⟨Oc.put,acL.ext xr (by omega),by omega,_,s1,_,Gr,fun q=>Iff.rfl⟩ (TD.trans xr fun q _ h=>h ▸ blp) fun q hq=>?_⟩⟩;have yr:(aP lp rf .ready none pG).heap.size=pG.heap.size:=lH;have y1:=Od.size;rcases hq with hq | hq | hq | hq | hq
  .exact⟨.inl ((h6 q).2 (.inl hq)),by omega⟩
  .have h7:=(G20.own.lt hq).2;refine⟨?_,by omega⟩;rcases sl1 q hq with h | h
   .exact .inl ((h6 q).2 (.inr (.inl h)))
   .exact .inr (.inr (.inr (by omega)))
  .exact⟨.inl ((h6 q).2 (.inr (.inr hq))),by have:=(h5.dd q hq).2;omega⟩
  .exact⟨.inr (.inl hq),by have:=(ok.lt hq).2;omega⟩
  .exact⟨.inr (.inr (.inl hq)),by have:=(ov.lt hq).2;omega⟩
 .have x':Ext (fun q=>w.heap.size<=q) cX w':=x.mono fun q _ h=>h.1
  rcases hJ with⟨B',⟨h1,h2,h3,D,s,L,h5,_⟩,_⟩ | ⟨h1,h2,n,D,s,L,h3,h5⟩
  .refine .inr (.inr ⟨h1,fin h5 h2 x' ?_⟩);rw[List.take_length,List.take_of_length_le (by omega)]
  .refine .inr (.inl ⟨h1,fin h5 h2 x' ?_⟩);have:most.toNat=n:=by omega
   rw[this]
end
end Go.Proofs.YtpjbalhhlaofmaaGreat
namespace Go.V
end Go.V
namespace Go.Proofs.YtpjbalhhlaofmaaGreat
open Go.V
section
variable {w:Wd} {T:Nat->Option Nat} {m:bB} {M:Mm}
end
section
variable {w:Wd} {T:Nat->Option Nat} {m:bB} {M:Mm}
end
end Go.Proofs.YtpjbalhhlaofmaaGreat
namespace Go.V
open Go.V.Pk Go.Proofs.YtpjbalhhlaofmaaGreat
abbrev sC(L:List (bh×aA)):List Value:=L.flatMap fun e=>e.1.cells
theorem pE(L:List (bh×aA)):∀e∈L,(e.1.cells).length=9:=fun _ _=>rfl
theorem acO{L:List (bh×aA)}(h:sC L≠[]):L≠[]:=fun e=>h (by rw[e];rfl)
def bS(Q:Nat->Prop)(h:Array Obj)(s:Sl)(l:List aA):Prop:=∃L:List (bh×aA),L.map Prod.snd=l/\Rd h s 9 (sC L)/\(L≠[]->∀b,s.aq=some b->Q b)/\∀e∈L,bV Q h e.1 e.2
theorem bS.ext{Q S:Nat->Prop}{w w':Wd}{s:Sl}{l:List aA}(r:bS Q w.heap s l)(x:Ext S w w')(h:∀b,Q b->¬ S b):bS Q w'.heap s l:=by
 obtain⟨L,h1,h2,h3,h4⟩:=r;exact⟨L,h1,h2.Xi x fun bC b hb=>h b (h3 (acO bC) b hb),h3,fun e he=>(h4 e he).ext x h⟩
theorem bS.no{Q:Nat->Prop}{w w':Wd}{s:Sl}{l:List aA}(r:bS Q w.heap s l)(x:Ext No w w'):bS Q w'.heap s l:=r.ext x fun _ _=>id
theorem bS.mono{Q Q':Nat->Prop}{h:Array Obj}{s:Sl}{l:List aA}(r:bS Q h s l)(hq:∀b,Q b->Q' b):bS Q' h s l:=by
 obtain⟨L,h1,h2,h3,h4⟩:=r;exact⟨L,h1,h2,fun bC b hb=>hq b (h3 bC b hb),fun e he=>(h4 e he).mono hq⟩
theorem bS.len{Q:Nat->Prop}{h:Array Obj}{s:Sl}{l:List aA}(r:bS Q h s l):s.len=l.length:=by
 obtain⟨L,h1,h2,h3,h4⟩:=r;have:=h2.len;rw[aK (pE L)]at this;rw[<- h1,List.length_map];omega
theorem bS.nil(Q:Nat->Prop)(h:Array Obj):bS Q h ⟨none,0,0⟩ []:=⟨[],rfl,Rd.nil _ _,fun h=>(h rfl).elim,by simp⟩
theorem bS.lt{Q:Nat->Prop}{h:Array Obj}{s:Sl}{l:List aA}(r:bS Q h s l):bS (fun q=>Q q/\q < h.size) h s l:=by
 obtain⟨L,h1,h2,h3,h4⟩:=r;refine⟨L,h1,h2,fun bC b hb=>⟨h3 bC b hb,Rd.lt h2 (fun e=>?_) hb⟩,fun e he=>(h4 e he).lt⟩
 cases L with
 | nil=>exact bC rfl
 | cons p L=>cases e
theorem EM{Q:Nat->Prop}{w:Wd}{s:Sl}{l:List aA}{i:Int}{K:Addr->Prop}(r:bS Q w.heap s l)(h0:0<=i)(h1:i < (s.len:Int))
  (k:∀b o (v:bh) (hi:i.toNat < l.length),bV Q w.heap v l[i.toNat]->(∀j x,v.cells[j]? = some x->Cell w ⟨b,o+j,none⟩ x)->K ⟨b,o,none⟩):Ix s.a s.len i 9 K:=by
 obtain⟨L,h2,h3,h4,h5⟩:=r;refine Ix.elem (f:=fun e:bh×aA=>e.1.cells) h3 (pE L) (by decide) h0 h1 fun b o hi hb hc=>?_
 have hl:L.length=l.length:=by rw[<- h2,List.length_map]
 refine k b o L[i.toNat].1 (by omega) ?_ hc;have e:l[i.toNat]'(by omega)=L[i.toNat].2:=by simp[<- h2]
 rw[e];exact h5 _ (List.getElem_mem hi)
abbrev KRt:Type:=Int->Int->Int->Int->Int->Pw
end Go.V
namespace Go.Proofs.YtpjbalhhlaofmaaGreat
open Go.V Go.V.Pk
section
variable {w:Wd} {Q:Nat->Prop} {T:Nat->Option Nat} {m:bB} {M:Mm}
theorem xS{S:Nat->Prop}{w:Wd}{b j:Nat}{x:Value}{cs:List Value}{T:TypeId}{fz:Nat×Nat}(g:w.heap[b]? = some (.cells cs.toArray T fz))(h:cs[j]? = some x)(hb:¬ S b):ae (Ext S w) ((Addr.mk b 0 none).add j) x:=by
 rw[ay rfl,Nat.zero_add];exact ae.dQ (Cell.ai g h) hb
theorem Tb{b:Nat}{cs:List Value}{T:TypeId}{v:bh}{K:Z0}(hb:w.heap[b]? = some (.cells cs.toArray T (0,0)))(Oj:cs.length=9)(k:∀w',Ext (·=b) w w'->w'.heap.size=w.heap.size->K.at v w') :
  List.length v.cells=9/\jB w (Addr.mk b 0 none) v.cells fun fM=>
   ∃c:Int,Cell fM (Addr.mk b 0 none) (.int .u32 c)/\∃lk:Int,Cell fM ((Addr.mk b 0 none).add 1) (.int .i64 lk)/\∃jC:Sl,Cell fM ((Addr.mk b 0 none).add 2) (.slice jC.a jC.len jC.cap)/\∃r_:Int,Cell fM ((Addr.mk b 0 none).add 3) (.int .u32 r_)/\∃sd:Int,Cell fM ((Addr.mk b 0 none).add 4) (.int .u64 sd)/\∃mq:Int,Cell fM ((Addr.mk b 0 none).add 5) (.int .u16 mq)/\∃uF:Int,Cell fM ((Addr.mk b 0 none).add 6) (.int .u8 uF)/\∃se:Int,Cell fM ((Addr.mk b 0 none).add 7) (.int .i64 se)/\∃ow:Sl,Cell fM ((Addr.mk b 0 none).add 8) (.slice ow.a ow.len ow.cap)/\K c lk jC r_ sd mq uF se ow fM:=
 ⟨rfl,jB.all hb (by rw[Oj];rfl) v.one fun w' g x z=>⟨v.ah,Cell.ai g rfl,v.aI,Cell.ai g rfl,v.mark,Cell.ai g rfl,v.root.p,Cell.ai g rfl,v.root.c,Cell.ai g rfl,v.root.g,Cell.ai g rfl,v.lev,Cell.ai g rfl,v.aw,Cell.ai g rfl,v.held,Cell.ai g rfl,k w' x z⟩⟩
theorem uk{t:Int}{K:Sl->Pw}(ht:HZ t)(k:∀s w',aU w'.heap w.heap.size s (pD t)->Ext No w w'->K s w'):k_ t w K:=by
 obtain⟨h0,h1⟩:=ht;exact LH (Ar.u64 (by omega) (lZ h0 (by decide) (by decide) (by show t < 4294967296;omega) k))
theorem Qa{s:Value}{r:Rf}{lev t:Int}{G:Sl->Int->Wd->Pw}{K:V8}(ht:HZ t)
  (hg:∀{w1:Wd}{ks:Sl}{K':Sl->Int->Pw},Ext No w w1->cZ w1.heap ks (pD t)->(∀s e w',G s e w1 w'->Ext No w1 w'->K' s e w')->i_ s 0 r.p r.c r.g lev ks w1 K')
  (ke:∀s e w1 w2 w',G s e w1 w2->e≠0->Ext No w w'->K.at bt e w')
  (kr:∀s w1 w2,Ext No w w1->Ext No w w2->G s 0 w1 w2->∃l,cZ w2.heap s l/\B8 l/\l.length<=1000000000/\(∀w',(∀x,¬ Good t l x)->Ext No w w'->K.at bt 5 w')/\(∀v x w',Good t l x->bV (w.heap.size<=·) w'.heap v x->Ext No w w'->K.at v 0 w')):iZ s r.p r.c r.g lev t w K:=by
 apply LJ;refine ag.mk fun b w1 n1=>ag.mk fun b1 w2 n2=>?_
 have g2:=ad n1.get n2.ext;have e1:=n1.at_;have z1:=n1.size;have e2:=n2.at_;have z2:=n2.size;have hZ:=n1.ext.no n2.ext;refine⟨Ext No w2,(Ext.refl _ _).drew,_,uS g2 rfl,_,cq g2 rfl,_,cq g2 rfl,_,cq g2 rfl,uk ht fun ks w3 o3 x3=>⟨(Ext.refl _ _).drew.no x3,?_⟩⟩;have mJ:Ext No w2 w3:=(Ext.refl _ _).drew.no x3;have gp:=hZ.no mJ
 refine hg gp o3.rd fun s4 e w4 h4 x4=>⟨mJ.no x4,?_⟩
 have sf:=mJ.no x4;have gF:=hZ.no sf;have g4:=ad n2.get sf;refine If.bne (fun he=>?_) fun he=>?_
 .refine Tb (v:=bt) (K:=fun c c1 c2 c3 c4 c5 c6 c7 c8 w'=>K c c1 c2 c3 c4 c5 c6 c7 c8 e w') g4 rfl fun w5 x5 _=>ke s4 e w3 w4 w5 h4 he ?_
  have TL:Ext (·=b1) w4 w5:=x5;exact gF.trans TL fun q hq h=>by omega
 .subst he;obtain⟨l,hl,h8,Qp,k5,k0⟩:=kr s4 w3 w4 gp gF h4;refine FM ht hl h8 Qp (fun w6 DX x6=>?_) fun v x w6 hgd sr x6=>?_
  .refine Tb (v:=bt) (K:=fun c c1 c2 c3 c4 c5 c6 c7 c8 w'=>K c c1 c2 c3 c4 c5 c6 c7 c8 5 w') (ad g4 x6) rfl fun w7 x7 _=>k5 w7 DX ?_
   have x7':Ext (·=b1) w6 w7:=x7;exact(gF.no x6).trans x7' fun q hq h=>by omega
  .refine Tb (v:=v) (K:=fun c c1 c2 c3 c4 c5 c6 c7 c8 w'=>K c c1 c2 c3 c4 c5 c6 c7 c8 0 w') (ad g4 x6) rfl fun w7 x7 _=>?_
   have x7':Ext (·=b1) w6 w7:=x7;have s4':=gF.size;have s24:=sf.size;exact k0 v x w7 hgd ((sr.ext x7' fun q hq h=>by omega).mono fun q hq=>by show w.heap.size<=q;omega) ((gF.no x6).trans x7' fun q hq h=>by omega)
theorem xT{t lev:Int}{r:Rf}{W:List aA}{ps:List Rf}{K:V8}(R:aY w.heap T m M)(hT:dB M.f 0 r lev (uN W) ps)(dn:lev<=30)(hW:fE W)(ht:HZ t)
  (k7:∀w',fD W t=none->Ext No w w'->K.at bt 7 w') (k0:∀v x w',fD W t=some x->bV (w.heap.size<=·) w'.heap v x->Ext No w w'->K.at v 0 w'):iZ (eW m) r.p r.c r.g lev t w K:=by
 have fg:=Gb hW.tn ht;refine Qa (G:=fun s e w1 w'=>(e=7/\fD W t=none)∨(e=0/\∃x,fD W t=some x/\cZ w'.heap s (gh x))) ht (fun {w1 ks K'} x1 rk k'=>?_) (fun s e w1 w2 w' h he x=>?_) fun s w1 w2 _ _ h=>?_
 .refine nj (R.no x1) hT dn rk (jU _ _) (fun w' h _=>?_) (fun w' _ _ h x=>?_) fun v s w' _ _ h o x=>?_
  .rw[br]at h;omega
  .rw[fg]at h;exact k' _ _ w' (.inl ⟨rfl,by cases hf:fD W t with | none=>rfl | some x=>rw[hf]at h;cases h⟩) x
  .rw[fg]at h
   cases hf:fD W t with
   | none=>rw[hf]at h;cases h
   | some y=>rw[hf]at h;cases h;exact k' _ _ w' (.inr ⟨rfl,y,hf,o.rd⟩) x
 .rcases h with⟨h,hn⟩ | ⟨h,_⟩
  .rw[h];exact k7 w' hn x
  .exact(he h).elim
 .rcases h with⟨h,_⟩ | ⟨_,x,hx,rd⟩
  .cases h
  .obtain⟨hm,Qb⟩:=MH hx
   have gd:Good t (gh x) x:=⟨hW.may x hm,hW.sI x hm,Qb,rfl⟩
   refine⟨gh x,rd,Dl (hW.sI x hm),by have:=(ui (hW.may x hm) (hW.sI x hm)).1;omega,fun w' DX _=>(DX x gd).elim,fun v y w' gy sr x'=>?_⟩;have:=Good.uniq gd gy;subst this;exact k0 v x w' hx sr x'
theorem NW.wrap{w1 w2 w3:Wd}{T':Nat->Option Nat}{m':bB}{M':Mm}{t:Int}{n kI b:Nat}{Kw:List KV}{ps cU:List Rf}{r':Rf}(R:aY w.heap T m M)(x1:Ext No w w1)(A:NW w1 w2 T T' m m' M M' t n Kw ps cU r' kI)(hb:w.heap.size<=b)(gE:b < w1.heap.size)(x3:Ext (·=b) w2 w3):NW w w3 T T' m m' M M' t n Kw ps cU r' kI:=by
 have y1:=x1.size;have hT:T' b=none:=(A.tg b gE).trans (R.iA hb);exact⟨A.mem.ext x3 fun q hq=>by rw[hq];exact hT,A.bm,fun q hq=>A.tg q (by omega),(x1.aG.trans A.ext fun _ _ h=>h).trans x3 fun q hq h=>by omega,A.tree,A.lv,A.FP⟩
theorem pF{lev:Nat}{r:Rf}{W:List aA}{ps:List Rf}{v:bh}{x:aA}{K:KRt}(R:aY w.heap T m M)(hT:dB M.f 0 r lev (uN W) ps)(dn:lev<=30)(hs:Sub ps M)(hn:M.au.length<=900000)(hW:fE W)(sr:bV Q w.heap v x)(rg:AY x)(hl:x.held.length<=1000000000000)
  (k2:∀w',¬ qd x->Ext No w w'->K 0 0 0 0 2 w')
  (k:∀(r':Rf)(kI:Nat) cU T' m' M' w',qd x->NW w w' T T' m m' M M' 0 1 (uN (pI x.ah (some x) W)) ps cU r' kI->K r'.p r'.c r'.g kI 0 w'):fI (eW m) r.p r.c r.g lev v.ah v.aI v.mark v.root.p v.root.c v.root.g v.lev v.aw v.held w K:=by
 apply Jl
 refine ag.mk fun b w1 n1=>ag.mk fun b1 w2 n2=>ag.mk fun b2 w3 n3=>⟨trivial,If.no ?_⟩
 have e1:=n1.at_;have z1:=n1.size;have e2:=n2.at_;have z2:=n2.size;have e3:=n3.at_;have z3:=n3.size;have gb:=ad (ad n1.get n2.ext) n3.ext;have g1:w3.heap[b1]? = some (.cells v.cells.toArray 33 (0,0)):=ad n2.get n3.ext;have gp:=(n1.ext.no n2.ext).no n3.ext;refine⟨v.ah,Cell.ai g1 rfl,v.aI,Cell.ai g1 rfl,v.mark,Cell.ai g1 rfl,v.root.p,Cell.ai g1 rfl,v.root.c,Cell.ai g1 rfl,v.root.g,Cell.ai g1 rfl,v.lev,Cell.ai g1 rfl,v.aw,Cell.ai g1 rfl,v.held,Cell.ai g1 rfl,Dd (sr.no gp) rg hl (fun w5 hm x5=>If.bne (fun _=>?_) fun h=>absurd h (by decide)) fun tb w5 hm o5 x5=>If.bne (fun h=>absurd rfl h) fun _=>?_⟩
 .refine DA (ad n3.get x5) rfl fun w6 x6 _=>k2 w6 hm ?_
  have YT:Ext (·=b2) w5 w6:=x6;exact(gp.no x5).trans YT fun q hq h=>by omega
 have y5:=x5.size;have sup:∀{q},w.heap.size<=q->T q=none:=fun hq=>R.iA hq
 have nS:∀{q},w.heap.size<=q->¬ Ts T q:=fun hq h=>h (sup hq)
 have UO:=ad gb x5;have HC:=ad g1 x5;have Qb:v.ah=x.ah:=sr.ah;have TP:∀{q},w.heap.size<=q->q≠b2->¬ (Ts T q∨q=b2):=fun hq h1 h=>h.elim (nS hq) h1
 refine⟨Ext (fun q=>Ts T q∨q=b2) w5,(Ext.refl _ _).drew,_,xS (j:=0) UO rfl (TP (by omega) (by omega)),_,xS UO rfl (TP (by omega) (by omega)),_,xS UO rfl (TP (by omega) (by omega)),_,xS UO rfl (TP (by omega) (by omega)),_,xS (j:=0) HC rfl (TP (by omega) (by omega)),?_⟩;rw[Qb];refine uk rg.ah fun ks w7 o7 x7=>?_
 have FI:Ext No w5 w7:=(Ext.refl _ _).drew.no x7;refine⟨FI.aG,ag.mk fun b3 w8 n8=>⟨(FI.no n8.ext).aG,?_⟩⟩;have xZ:=FI.no n8.ext;have qq:=(gp.no x5).no xZ;have y7:w5.heap.size<=w7.heap.size:=FI.size;have z8:=n8.size
 let op:kJ:=⟨ks,tb,false,pD x.ah,gh x⟩
 have MG:Rd w8.heap ⟨some ⟨b3,0,none⟩,1,1⟩ 3 ([op].flatMap kJ.cs):=(aT.new (sz:=3) (n:=1) n8 rfl (by simp[aN])).rd;have fl:=ui hm rg;have o8:=o7.no n8.ext;have o58:=o5.no xZ
 have Yg:∀y∈[op],Ve w8.heap T y:=fun y hy=>by
  rw[List.mem_singleton]at hy;subst hy;exact⟨o8.rd,o58.rd,jU _ _,Dl rg,fun _ q hq=>⟨sup (by have:=(o8.lt hq).1;show w.heap.size<=q;have e:(aa w5).heap.size=w5.heap.size:=rfl;omega),(o8.lt hq).2⟩,fun _ q hq=>⟨sup (by have:=(o58.lt hq).1;omega),(o58.lt hq).2⟩⟩
 have Dw:opsL [op] (uN W)=uN (pI x.ah (some x) W):=SY (o:=some x) hW.tn rg.ah fun y hy=>by cases hy;rfl
 refine DF (xs:=[op]) (R.no qq) hT dn hs MG Yg (by simp) hn (fun w' hb _=>?_) fun r' kI cU T' m' M' w9 _ A=>?_
 .obtain⟨y,hy,hf⟩:=hb;rw[List.mem_singleton]at hy;subst hy;refine(hf ⟨⟨?_,?_⟩,?_,fun h=>by cases h⟩).elim
  .show 1<=(be 4 _).length;rw[br];omega
  .show(be 4 _).length<=32;rw[br];omega
  .show(gh x).length<=1024;omega
 rw[Dw]at A;have g29:=af (ad (ad n3.get x5) xZ) A.ext (nS (by omega));refine⟨xZ.aG.trans A.ext fun _ _ h=> .inl h,cK g29 rfl rfl (by simp[aN]) fun dA oq dR LS=>?_⟩;have uM:Ext (·=b2) w9 dA:=dR;have y9:=A.ext.size;refine⟨(xZ.aG.trans A.ext fun _ _ h=> .inl h).trans uM fun q hq h=> .inr h,_,Cell.ai oq rfl,_,Cell.ai oq rfl,_,Cell.ai oq rfl,_,Cell.ai oq rfl,k r' kI cU T' m' M' dA hm (NW.wrap R qq A (by omega) (by omega) uM)⟩
end
end Go.Proofs.YtpjbalhhlaofmaaGreat
namespace Go.Proofs.YtpjbalhhlaofmaaGreat
open Go.V Go.V.Pk
section
variable {w:Wd} {Q:Nat->Prop} {T:Nat->Option Nat} {m:bB} {M:Mm}
theorem qn{lev:Nat}{r:Rf}{W:List aA}{ps:List Rf}{t:Int}{K:KRt}(R:aY w.heap T m M)(hT:dB M.f 0 r lev (uN W) ps)(dn:lev<=30)(hs:Sub ps M)(hn:M.au.length<=900000)(hW:fE W)(ht:HZ t)
  (k7:∀w',fD W t=none->Ext No w w'->K 0 0 0 0 7 w')
  (k:∀(r':Rf)(kI:Nat) cU T' m' M' w',fD W t≠none->NW w w' T T' m m' M M' 0 1 (uN (pI t none W)) ps cU r' kI->K r'.p r'.c r'.g kI 0 w'):nH (eW m) r.p r.c r.g lev t w K:=by
 have fg:=Gb hW.tn ht;apply Ci;refine ag.mk fun b w1 n1=>ag.mk fun b1 w2 n2=>?_
 have e1:=n1.at_;have z1:=n1.size;have e2:=n2.at_;have z2:=n2.size;have g2:=ad n1.get n2.ext;have hZ:=n1.ext.no n2.ext;refine⟨Ext No w2,(Ext.refl _ _).drew,_,uS g2 rfl,_,cq g2 rfl,_,cq g2 rfl,_,cq g2 rfl,uk ht fun ks w3 o3 x3=>?_⟩;have mJ:Ext No w2 w3:=(Ext.refl _ _).drew.no x3;refine⟨mJ,nj (R.no (hZ.no mJ)) hT (by omega) o3.rd (jU _ _) (fun w' h _=>?_) (fun w4 _ _ h x4=>⟨mJ.no x4,If.bne (fun _=>?_) fun h=>absurd h (by decide)⟩) fun vv s4 w4 _ _ h _ x4=>⟨mJ.no x4,If.bne (fun h=>absurd rfl h) fun _=>?_⟩⟩
 .rw[br]at h;omega
 .rw[fg]at h;have hf:fD W t=none:=by cases hf:fD W t with | none=>rfl | some x=>rw[hf]at h;cases h
  refine DA (ad n2.get (mJ.no x4)) rfl fun w6 x6 _=>k7 w6 hf ?_
  have YT:Ext (·=b1) w4 w6:=x6;exact((hZ.no mJ).no x4).trans YT fun q hq h=>by omega
 rw[fg]at h;have hf:fD W t≠none:=fun hf=>by rw[hf]at h;cases h
 have sf:=mJ.no x4;have gF:=hZ.no sf;have y4:=gF.size;have y24:=sf.size;have sup:∀{q},w.heap.size<=q->T q=none:=fun hq=>R.iA hq
 have nS:∀{q},w.heap.size<=q->¬ Ts T q:=fun hq h=>h (sup hq)
 have TP:∀{q},w.heap.size<=q->q≠b1->¬ (Ts T q∨q=b1):=fun hq h1 h=>h.elim (nS hq) h1
 have TF:=ad g2 sf;refine⟨Ext (fun q=>Ts T q∨q=b1) w4,(Ext.refl _ _).drew,_,xS (j:=0) TF rfl (TP (by omega) (by omega)),_,xS TF rfl (TP (by omega) (by omega)),_,xS TF rfl (TP (by omega) (by omega)),_,xS TF rfl (TP (by omega) (by omega)),uk ht fun ks w6 o6 x6=>?_⟩;have Eu:Ext No w4 w6:=(Ext.refl _ _).drew.no x6;refine⟨Eu.aG,ag.mk fun b2 w7 n7=>⟨(Eu.no n7.ext).aG,?_⟩⟩;have wC:=Eu.no n7.ext;have wA:=gF.no wC;have y6:w4.heap.size<=w6.heap.size:=Eu.size;have z7:=n7.size
 let op:kJ:=⟨ks,⟨none,0,0⟩,true,pD t,[]⟩
 have MG:Rd w7.heap ⟨some ⟨b2,0,none⟩,1,1⟩ 3 ([op].flatMap kJ.cs):=(aT.new (sz:=3) (n:=1) n7 rfl (by simp[aN])).rd;have o7:=o6.no n7.ext
 have Yg:∀y∈[op],Ve w7.heap T y:=fun y hy=>by
  rw[List.mem_singleton]at hy;subst hy;exact⟨o7.rd,Rd.nil _ _,jU _ _,B8.nil,fun _ q hq=>⟨sup (by have:=(o7.lt hq).1;have e:(aa w4).heap.size=w4.heap.size:=rfl;omega),(o7.lt hq).2⟩,fun h=>(h rfl).elim⟩
 have Dw:opsL [op] (uN W)=uN (pI t none W):=SY (o:=none) hW.tn ht fun y hy=>by cases hy
 refine DF (xs:=[op]) (R.no wA) hT dn hs MG Yg (by simp) hn (fun w' hb _=>?_) fun r' kI cU T' m' M' w8 _ A=>?_
 .obtain⟨y,hy,hf⟩:=hb;rw[List.mem_singleton]at hy;subst hy;refine(hf ⟨⟨?_,?_⟩,Nat.zero_le _,fun _=>rfl⟩).elim
  .show 1<=(be 4 _).length;rw[br];omega
  .show(be 4 _).length<=32;rw[br];omega
 rw[Dw]at A;have vN:=af (ad (ad n2.get sf) wC) A.ext (nS (by omega));refine⟨wC.aG.trans A.ext fun _ _ h=> .inl h,cK vN rfl rfl (by simp[aN]) fun w9 g9 x9 z9=>?_⟩;have Bk:Ext (·=b1) w8 w9:=x9;exact⟨(wC.aG.trans A.ext fun _ _ h=> .inl h).trans Bk fun q hq h=> .inr h,_,Cell.ai g9 rfl,_,Cell.ai g9 rfl,_,Cell.ai g9 rfl,_,Cell.ai g9 rfl,k r' kI cU T' m' M' w9 hf (NW.wrap R wA A (by omega) (by omega) Bk)⟩
theorem Tc(l:List KV):ju l [] [] false=l:=by
 show l.filter (Gl [] [])=l;refine List.filter_eq_self.2 fun x _=>?_
 simp[Gl,mg]
theorem xU{lev:Nat}{r:Rf}{W:List aA}{ps:List Rf}{K:Sl->Int->Pw}(R:aY w.heap T m M)(hT:dB M.f 0 r lev (uN W) ps)(dn:lev<=30)(hW:fE W)(hl:W.length<=100000)
  (k:∀s w',bS (w.heap.size<=·) w'.heap s W->Ext No w w'->K s 0 w'):kW (eW m) r.p r.c r.g lev w K:=by
 apply LI
 refine ag.mk fun b w1 n1=>⟨_,Cell.ai n1.get rfl,_,Cell.ai n1.get rfl,_,Cell.ai n1.get rfl,_,Cell.ai n1.get rfl,?_⟩
 refine MQ (fb:=[]) (tb:=[]) (R.no n1.ext) hT dn (by rw[List.length_map];omega) (fun x hx=>?_) (Rd.nil _ _) B8.nil (Rd.nil _ _) B8.nil fun s2 L w2 pr _ Dw x2=>If.bne (fun h=>absurd rfl h) fun _=>?_
 .obtain⟨y,hy,rfl⟩:=List.mem_map.1 hx;exact Dl (hW.sI y hy)
 rw[Tc,List.take_of_length_le (by rw[List.length_map];show W.length<=4611686018427387904;omega)]at Dw;have JO:L.length=W.length:=by have:=congrArg List.length Dw;simpa using this
 have sl:=pr.len;have hZ:=n1.ext.no x2
 refine⟨fun q out i w'=>∃(j:Nat) (A:List (bh×aA)),i=j/\j<=W.length/\q=W.length - j/\A.map Prod.snd=W.take j/\aT w'.heap w2.heap.size 33 9 out (sC A)/\(∀e∈A,bV (fun q=>w2.heap.size<=q/\out.aq≠some q) w'.heap e.1 e.2)/\Ext No w2 w',
  ⟨_,0,[],rfl,Nat.zero_le _,rfl,by simp,aT.nil _ _ _ _,by simp,Ext.refl _ _⟩,?_⟩
 rintro _ m0 out _ w3 ⟨j,A,rfl,hj,rfl,hA,oA,rA,mJ⟩;have Iw:∀{q:Nat},out.aq=some q->w2.heap.size<=q/\q < w3.heap.size:=fun h=>oA.lt h
 have y23:=mJ.size;refine If.dec (fun h=>?_) fun h=>?_
 .have fh:j < W.length:=by omega
  have Kz:j < L.length:=by omega
  have pr3:=pr.no mJ
  have hpj:L[j].2=kvS W[j]:=by
   have h1:(KS L)[j]? = (uN W)[j]?:=by rw[Dw]
   rw[List.getElem?_map,List.getElem?_map,List.getElem?_eq_getElem Kz,List.getElem?_eq_getElem fh]at h1;exact Option.some.inj h1
  have pj:=pr3.pr L[j] (List.getElem_mem Kz);generalize hp:L[j]=p at *;have hm:W[j]∈W:=List.getElem_mem fh;have tk:=fX fh;generalize W[j]=x at *;have ek:p.2.1=pD x.ah:=by rw[hpj]
  have ev:p.2.2=gh x:=by rw[hpj]
  have rg:=hW.sI x hm;have mx:=hW.may x hm;refine Ix.elem (f:=Pr.cs) pr3.rd (DI L) (by decide) (by omega) h fun bb o hi hb hc=>?_
  have el:L[((j:Nat):Int).toNat]'hi=p:=hp;rw[el]at hc;refine⟨p.1.k,hc 0 _ rfl,p.1.v,hc 1 _ rfl,bA rfl rfl (by simp[aN]) fun b1 w5 g5 gE z5 x5=>⟨p.1.k,Cell.ai g5 rfl,?_⟩⟩;have kl:p.2.1.length=4:=by rw[ek,br]
  refine nU (pj.k.no x5) pj.k8 (by omega) (by omega) ⟨fun w'=>w5=w',If.bne (fun h=>absurd rfl h) fun _=>⟨p.1.k,Cell.ai g5 rfl,If.bne (fun h=>(h ?_).elim) fun _=>rfl⟩,?_⟩
  .have:=cZ.len pj.k;omega
  rintro _ _ rfl;have tn:=rg.ah;have en:num p.2.1=x.ah:=by rw[ek];exact ji 4 tn.1 (by show x.ah < 4294967296;omega)
  rw[en];have fl:=ui mx rg;refine Ar.u32 (by omega) ⟨p.1.v,Cell.ai g5 rfl,FM tn (pj.v.no x5) pj.v8 (by rw[ev];omega) (fun w' DX _=>?_) fun v y w8 gy sr x8=>?_⟩
  .rw[ev]at DX;exact(DX x ⟨mx,rg,rfl,rfl⟩).elim
  rw[ev]at gy;have:=Good.uniq gy ⟨mx,rg,rfl,rfl⟩;subst this;have y5:=x5.size;have y8:=x8.size
  refine bA (vs:=v.cells) rfl rfl v.one fun b2 dA oq lO LS dR=>If.bne (fun h=>absurd rfl h) fun _=>⟨v.ah,Cell.ai oq rfl,v.aI,Cell.ai oq rfl,v.mark,Cell.ai oq rfl,v.root.p,Cell.ai oq rfl,v.root.c,Cell.ai oq rfl,v.root.g,Cell.ai oq rfl,v.lev,Cell.ai oq rfl,v.aw,Cell.ai oq rfl,v.held,Cell.ai oq rfl,ag.mk fun b3 dg pB=>?_⟩
  have afw:=(x8.no dR).no pB.ext;have Vh:=x5.no afw;have acP:=dR.no pB.ext
  have hAl:A.length=j:=by
   have:=congrArg List.length hA;rw[List.length_map,List.length_take]at this;omega
  have ol:out.len=A.length:=by
   have:=oA.rd.len;rw[aK (pE A)]at this;omega
  have src:Src pz dg (.slice (some (Addr.mk b3 0 none)) 1 1) 9 1 v.cells:=(aT.new (sz:=9) (n:=1) pB rfl v.one).rd.src;have ZD:=Vh.size;have agX:=acP.size;refine xm (oA.no Vh) (by omega) src (by rw[ol];omega) fun s' eG VJ _ gS oR=>?_
  have key:∀{u y},bV (fun q=>w2.heap.size<=q/\out.aq≠some q) dg.heap u y->bV (fun q=>w2.heap.size<=q/\s'.aq≠some q) eG.heap u y:=fun {u y} h=>by
   refine((h.lt).ext gS fun q hq h=>hq.1.2 h).mono fun q hq=>⟨hq.1.1,fun h=>?_⟩
   rcases oR with h1 | ⟨b',h1,h3⟩
   .exact hq.1.2 (h1 ▸ h)
   .rw[h1]at h;cases h;have:=hq.2;omega
  refine Ar.i64 (by omega) ⟨_,by omega,j+1,A++[(v,y)],by omega,by omega,rfl,?_,?_,fun e he=>?_,?_⟩
  .rw[List.map_append,hA,tk];rfl
  .rw[show sC (A++[(v,y)])=sC A++v.cells by simp];exact VJ
  .rcases List.mem_append.1 he with h | h
   .exact key ((rA e h).no Vh)
   .rw[List.mem_singleton]at h;subst h;exact key ((sr.no acP).mono fun q hq=>⟨by omega,fun h=>by have:=(Iw h).2;omega⟩)
  .exact(mJ.no Vh).trans gS fun q hq h=>by have:=(Iw h).1;omega
 .have Fm:j=W.length:=by omega
  have y02:=hZ.size;exact k out w3 ⟨A,by rw[hA,Fm,List.take_length],oA.rd,fun _ q hq=>by have:=(Iw hq).1;show w.heap.size<=q;omega,fun e he=>(rA e he).mono fun q hq=>by have:=hq.1;show w.heap.size<=q;omega⟩ (hZ.no mJ)
end
end Go.Proofs.YtpjbalhhlaofmaaGreat
namespace Go.V
open Go.V.Pk Go.Proofs.YtpjbalhhlaofmaaGreat
abbrev zB(n:Nat):List Int:=List.replicate n 0
def iW(t:Int):aA:=⟨t,9,zB 16,.z,0,0,[⟨1,2,zB 32⟩]⟩
theorem zB8(n:Nat):B8 (zB n):=fun x hx=>by rw[List.eq_of_mem_replicate hx];omega
theorem um{t:Int}(h:t≠0):qd (iW t):=⟨h,by show(1:Int)<=9;decide,by show(9:Int)<=1000;decide,rfl,by show(0:Int)<=0;decide,by show(0:Int)<=9;decide,⟨fun _=>⟨rfl,rfl⟩,fun _=>rfl⟩,.inl ⟨_,rfl,rfl⟩⟩
theorem uo{t:Int}(h:HZ t):AY (iW t):=⟨h,zB8 16,by show Rf.ok .z;decide,by show(0:Int)<=0/\(0:Int)<=255;decide,fun y hy=>by
 have:y=⟨1,2,zB 32⟩:=List.mem_singleton.1 hy
 subst this;exact⟨by decide,by decide,zB8 32⟩⟩
end Go.V
namespace Go.Proofs.YtpjbalhhlaofmaaGreat
open Go.V Go.V.Pk
section
variable {w:Wd}
theorem mkZ{n:Nat}{z:Int}{K:Sl->Pw}(hz:z=n)(h:n<=1000)(k:∀s w',aU w'.heap w.heap.size s (zB n)->Ext No w w'->K s w'):Ik w 5 [.int .u8 0] 1 z z K:=by
 subst hz;refine Ik.mk (by omega) (Int.le_refl _) (by omega) (by omega) fun b w3 eT=>?_
 have o3:=aT.make (l:=n) eT (Nat.le_refl _) (fun v hv=>by rw[List.mem_singleton]at hv;subst hv;rfl);have e3:(List.replicate n [Value.int .u8 0]).flatten=(List.replicate n (0:Int)).map (Value.int .u8):=by simp[List.flatten_replicate_singleton]
 rw[e3]at o3;exact k _ w3 o3 eT.ext
theorem DN{w4:Wd}{b b1:Nat}{s s1:Sl}{t:Int}{K:Z0}(hb:w.heap.size<=b)(g:w4.heap[b]? = some (.cells bt.cells.toArray 33 (0,0)))(x:Ext No w w4)(RS:tD (fun q=>w.heap.size<=q/\q≠b) w4.heap s (zB 16))(o32:tD (fun q=>w.heap.size<=q/\q≠b) w4.heap s1 (zB 32))
  (o1:Rd w4.heap ⟨some ⟨b1,0,none⟩,1,1⟩ 3 [.int .u16 1,.int .u64 2,.slice s1.a s1.len s1.cap]) (gE:w.heap.size<=b1/\b1≠b) (k:∀v w',bV (w.heap.size<=·) w'.heap v (iW t)->Ext No w w'->K.at v w') :
  List.length (α:=Value) [.int .u32 t,.int .i64 9,.slice s.a s.len s.cap,.int .u32 0,.int .u64 0,.int .u16 0,.int .u8 0,.int .i64 0,.slice (some (Addr.mk b1 0 none)) 1 1]=9/\jB w4 (Addr.mk b 0 none) [.int .u32 t,.int .i64 9,.slice s.a s.len s.cap,.int .u32 0,.int .u64 0,.int .u16 0,.int .u8 0,.int .i64 0,.slice (some (Addr.mk b1 0 none)) 1 1] fun fM=>True/\
   ∃c:Int,Cell fM (Addr.mk b 0 none) (.int .u32 c)/\∃lk:Int,Cell fM ((Addr.mk b 0 none).add 1) (.int .i64 lk)/\∃jC:Sl,Cell fM ((Addr.mk b 0 none).add 2) (.slice jC.a jC.len jC.cap)/\∃r_:Int,Cell fM ((Addr.mk b 0 none).add 3) (.int .u32 r_)/\∃sd:Int,Cell fM ((Addr.mk b 0 none).add 4) (.int .u64 sd)/\∃mq:Int,Cell fM ((Addr.mk b 0 none).add 5) (.int .u16 mq)/\∃uF:Int,Cell fM ((Addr.mk b 0 none).add 6) (.int .u8 uF)/\∃se:Int,Cell fM ((Addr.mk b 0 none).add 7) (.int .i64 se)/\∃ow:Sl,Cell fM ((Addr.mk b 0 none).add 8) (.slice ow.a ow.len ow.cap)/\K c lk jC r_ sd mq uF se ow fM:=by
 let v:bh:=⟨t,9,s,.z,0,0,⟨some ⟨b1,0,none⟩,1,1⟩⟩
 refine⟨rfl,jB.all g rfl v.one fun w5 g5 x5 _=>⟨trivial,v.ah,Cell.ai g5 rfl,v.aI,Cell.ai g5 rfl,v.mark,Cell.ai g5 rfl,v.root.p,Cell.ai g5 rfl,v.root.c,Cell.ai g5 rfl,v.root.g,Cell.ai g5 rfl,v.lev,Cell.ai g5 rfl,v.aw,Cell.ai g5 rfl,v.held,Cell.ai g5 rfl,?_⟩⟩;have TL:Ext (·=b) w4 w5:=x5;have o1':Rd w5.heap ⟨some ⟨b1,0,none⟩,1,1⟩ 3 [.int .u16 1,.int .u64 2,.slice s1.a s1.len s1.cap]:=o1.ext TL fun a q ha hq h=>by simp at ha;subst ha;exact gE.2 (hq.trans h)
 refine k v w5 ⟨rfl,rfl,(RS.ext TL fun q hq h=>hq.2 h).mono fun q hq=>hq.1,rfl,rfl,rfl,[(⟨1,2,s1⟩,⟨1,2,zB 32⟩)],rfl,o1',fun _ q hq=>?_,fun e he=>?_⟩ (x.trans TL fun q hq h=>by omega)
 .cases hq;exact gE.1
 .rw[List.mem_singleton]at he;subst he;exact⟨rfl,rfl,(o32.ext TL fun q hq h=>hq.2 h).mono fun q hq=>hq.1⟩
theorem zA{t:Int}{K:Z0}(k:∀v w',bV (w.heap.size<=·) w'.heap v (iW t)->Ext No w w'->K.at v w'):jG t w K:=by
 apply Hf
 refine ag.mk fun b w1 n1=>⟨fun _=>True,trivial,?_⟩
 have e1:=n1.at_;have z1:=n1.size;have xd:Ext No w1 (aa w1):=(Ext.refl _ _).drew;have zd:(aa w1).heap.size=w1.heap.size:=rfl;have gd:(aa w1).heap[b]? = some (.cells bt.cells.toArray 33 (0,0)):=n1.get
 have q:∀{h:Array Obj}{base n:Nat}{s:Sl},aU h base s (zB n)->w1.heap.size<=base->tD (fun q=>w.heap.size<=q/\q≠b) h s (zB n):=fun o hb=> .own o fun q h1 _=>⟨by omega,by omega⟩
 constructor
 .refine mkZ (n:=16) rfl (by omega) fun s w2 o2 x2=>⟨trivial,mkZ (n:=32) rfl (by omega) fun s1 w3 o3 x3=>⟨trivial,ag.mk fun b1 w4 n4=>⟨trivial,?_⟩⟩⟩
  have y2:=x2.size;have y3:=x3.size;have e4:=n4.at_;exact DN (by omega) (ad (ad (ad gd x2) x3) n4.ext) (((n1.ext.no (xd.no x2)).no x3).no n4.ext) (((q o2 (by omega)).no x3).no n4.ext) ((q o3 (by omega)).no n4.ext) (aT.new (sz:=3) (n:=1) n4 rfl (by simp[aN])).rd ⟨by omega,by omega⟩ k
 .refine mkZ (n:=32) rfl (by omega) fun s1 w6 o6 x6=>⟨trivial,?_,?_⟩
  .refine mkZ (n:=16) rfl (by omega) fun s w7 o7 x7=>⟨trivial,ag.mk fun b1 w8 n8=>⟨trivial,?_⟩⟩
   have y6:=x6.size;have y7:=x7.size;have e8:=n8.at_;exact DN (by omega) (ad (ad (ad gd x6) x7) n8.ext) (((n1.ext.no (xd.no x6)).no x7).no n8.ext) ((q o7 (by omega)).no n8.ext) (((q o6 (by omega)).no x7).no n8.ext) (aT.new (sz:=3) (n:=1) n8 rfl (by simp[aN])).rd ⟨by omega,by omega⟩ k
  .refine ag.mk fun b1 dA mH=>⟨trivial,mkZ (n:=16) rfl (by omega) fun s dg Uj fY=>⟨trivial,?_⟩⟩
   have y6:=x6.size;have ZD:=fY.size;have e10:=mH.at_;have LS:=mH.size;exact DN (by omega) (ad (ad (ad gd x6) mH.ext) fY) (((n1.ext.no (xd.no x6)).no mH.ext).no fY) (q Uj (by omega)) (((q o6 (by omega)).no mH.ext).no fY) ((aT.new (sz:=3) (n:=1) mH rfl (by simp[aN])).rd.no fY) ⟨by omega,by omega⟩ k
theorem Td:pI 3 (some (iW 3)) (pI 5 (some (iW 5)) [])=[iW 3,iW 5]:=by decide
theorem Gm{w7:Wd}{T2:Nat->Option Nat}{m2:bB}{M2:Mm}{r2:Rf}{K9 b:Nat}{KL:List Rf}{zs:List Value}{W2:List aA}{K:Bool->Pw}(wA:Ext No w w7)(R7:aY w7.heap T2 m2 M2)(tr:dB M2.f 0 r2 K9 (uN W2) KL)(Mf:K9<=30)(hW:fE W2)(hW2:W2=[iW 3,iW 5])
  (hb:w.heap.size<=b) (tb:T2 b=none) (gb:w7.heap[b]? = some (.cells zs.toArray 30 (0,0))) (hz:zs.length=4) (k:∀w',Ext No w w'->K true w') :
  List.length (α:=Value) [.int .u32 r2.p,.int .u64 r2.c,.int .u16 r2.g,.int .u8 K9]=4/\jB w7 (Addr.mk b 0 none) [.int .u32 r2.p,.int .u64 r2.c,.int .u16 r2.g,.int .u8 K9] fun w8=>True/\
   ∃sd:Int,Cell w8 (Addr.mk b 0 none) (.int .u32 sd)/\∃mq:Int,Cell w8 ((Addr.mk b 0 none).add 1) (.int .u64 mq)/\∃uF:Int,Cell w8 ((Addr.mk b 0 none).add 2) (.int .u16 uF)/\∃se:Int,Cell w8 ((Addr.mk b 0 none).add 3) (.int .u8 se)/\
   kW (eW m2) sd mq uF se w8 fun KB Va w9=>
    If ((0:Int) == 0) (If ((0:Int) == 0) (If (Va == 0) (If (((KB.len:Int)) == 2) (
     Ix KB.a KB.len 0 9 fun a=>∃vv:Int,Cell w9 a (.int .u32 vv)/\If (vv == 3) (
     Ix KB.a KB.len 1 9 fun AT=>∃sE:Int,Cell w9 AT (.int .u32 sE)/\K (sE == 5) w9) (K false w9)) (K false w9)) (K false w9)) (K false w9)) (K false w9):=by
 refine cK gb rfl hz (by simp[aN]) fun w8 g8 x8 _=>⟨trivial,_,Cell.ai g8 rfl,_,Cell.ai g8 rfl,_,Cell.ai g8 rfl,_,Cell.ai g8 rfl,?_⟩
 have DV:Ext (·=b) w7 w8:=x8;have qq:Ext No w w8:=wA.trans DV fun q hq h=>by omega
 refine xU (R7.ext DV fun q hq=>by rw[hq];exact tb) tr Mf hW (by rw[hW2];decide) fun s w9 sr x9=>?_
 subst hW2;have sl:s.len=2:=sr.len;refine If.beq (fun _=>If.beq (fun _=>If.beq (fun _=>If.beq (fun _=>?_) fun h=>(h (by omega)).elim) fun h=>(h rfl).elim) fun h=>(h rfl).elim) fun h=>(h rfl).elim
 refine EM sr (by decide) (by omega) fun b1 o1 v hi hv hc=>⟨_,hc 0 _ rfl,If.beq (fun _=>?_) fun h=>(h hv.ah).elim⟩
 refine EM sr (by decide) (by omega) fun b2 o2 v2 qp YR zQ=>⟨_,zQ 0 _ rfl,?_⟩
 have e5:v2.ah=5:=YR.ah;rw[e5];exact k w9 (qq.no x9)
set_option maxHeartbeats 2000000 in
theorem Oe{K:Bool->Pw}(k:∀w',Ext No w w'->K true w'):lJ w K:=by
 apply Cn;refine zW (by omega) fun T m w1 R1 hT x1=>zA fun v5 w2 sr5 x2=>?_
 have gS:Ext No w w2:=x1.no x2
 have t5:HZ 5:=⟨by decide,by decide⟩
 have t3:HZ 3:=⟨by decide,by decide⟩
 refine pF (r:= .z) (lev:=0) (W:=[]) (ps:=[]) (R1.no x2) (.inl ⟨rfl,rfl,rfl,rfl⟩) (by omega) (fun q=>by simp) (by simp) fE.nil sr5 (uo t5) (by decide) (fun w' h _=>(h (um (by decide))).elim) fun r' kI cU T' m' M' w3 _ A=>?_
 have Mv:Ext No w w3:=gS.trans A.ext fun q hq h=>h (hT q hq)
 have W1:fE (pI 5 (some (iW 5)) []):=fE.op fE.nil fun x hx=>by cases hx;exact⟨rfl,um (by decide),uo t5⟩
 have A':NW w2 w3 T T' m m' _ M' 0 1 (uN (pI 5 (some (iW 5)) [])) [] cU r' kI:=A;refine bA rfl rfl (by simp[aN]) fun b w5 g5 hb z5 x5=>?_
 have XC:=Mv.no x5;have R5:=A.mem.no x5;have xd:Ext No w5 (aa w5):=(Ext.refl _ _).drew;have So:(Value.iface 47 (.pointer (some ⟨m.bm,0,none⟩)))=eW m':=(nt A.bm).symm;have hs:Sub cU M':=A.FP.sub fun q=>by simp
 have hn:M'.au.length<=900000:=by have:=A.FP.len;simp at this;omega
 have bw:w.heap.size<=b:=by have:=Mv.size;omega
 have b5:b < w5.heap.size:=by omega
 have step:∀{w6:Wd}{v3:bh}{L:Int->Int->Int->Int->Int->Pw},Ext No w5 w6->bV (w5.heap.size<=·) w6.heap v3 (iW 3)->
   (∀(r2:Rf)(K9:Nat) KL T2 m2 M2 w7,NW w6 w7 T' T2 m' m2 M' M2 0 1 (uN [iW 3,iW 5]) cU KL r2 K9->Ext No w w7->T2 b=none->w7.heap[b]? = some (.cells [.int .u32 r'.p,.int .u64 r'.c,.int .u16 r'.g,.int .u8 kI].toArray 30 (0,0))->L r2.p r2.c r2.g K9 0 w7)->
   fI (eW m') r'.p r'.c r'.g kI v3.ah v3.aI v3.mark v3.root.p v3.root.c v3.root.g v3.lev v3.aw v3.held w6 L:=fun {w6 v3 L} x6 sr k'=>by
  refine pF (R5.no x6) A.tree A.lv hs hn W1 sr (uo t3) (by decide) (fun w' h _=>(h (um (by decide))).elim) fun r2 K9 KL T2 m2 M2 w7 _ A2=>?_
  have A2':NW w6 w7 T' T2 m' m2 M' M2 0 1 (uN (pI 3 (some (iW 3)) (pI 5 (some (iW 5)) []))) cU KL r2 K9:=A2;rw[Td]at A2';have tb:T' b=none:=A.mem.iA (by omega);have y6:=x6.size
  exact k' r2 K9 KL T2 m2 M2 w7 A2' ((XC.no x6).trans A2.ext fun q hq h=>h (by
   have h1:T' q=T q:=A.tg q (by have:=gS.size;omega)
   rw[h1];exact hT q hq)) ((A2.tg b (by omega)).trans tb) (af (ad g5 x6) A2.ext fun h=>h tb)
 have W2:fE [iW 3,iW 5]:=by
  rw[<- Td];exact fE.op W1 fun x hx=>by cases hx;exact⟨rfl,um (by decide),uo t3⟩
 have fin:∀{r2:Rf}{K9:Nat}{KL:List Rf}{T2:Nat->Option Nat}{m2:bB}{M2:Mm}{w6 w7:Wd},NW w6 w7 T' T2 m' m2 M' M2 0 1 (uN [iW 3,iW 5]) cU KL r2 K9->eW m'=eW m2:=fun A2=>(nt A2.bm).symm
 rw[So];refine⟨fun _=>True,trivial,?_,?_⟩
 .refine⟨_,Cell.ai g5 rfl,_,Cell.ai g5 rfl,_,Cell.ai g5 rfl,_,Cell.ai g5 rfl,trivial,zA fun v3 w6 sr3 x6=>⟨trivial,step (xd.no x6) sr3 fun r2 K9 KL T2 m2 M2 w7 A2 wA tb g7=>⟨trivial,?_⟩⟩⟩;rw[fin A2];exact Gm wA A2.mem A2.tree A2.lv W2 rfl bw tb g7 rfl k
 .refine zA fun v3 w6 sr3 x6=>⟨trivial,?_⟩
  have g6:=ad g5 (xd.no x6);refine⟨_,Cell.ai g6 rfl,_,Cell.ai g6 rfl,_,Cell.ai g6 rfl,_,Cell.ai g6 rfl,trivial,step (xd.no x6) sr3 fun r2 K9 KL T2 m2 M2 w7 A2 wA tb g7=>⟨trivial,?_⟩⟩;rw[fin A2];exact Gm wA A2.mem A2.tree A2.lv W2 rfl bw tb g7 rfl k
end
end Go.Proofs.YtpjbalhhlaofmaaGreat
namespace Go.V
open Go.V.Pk Go.Proofs.YtpjbalhhlaofmaaGreat
structure Vi(x:aA):Prop where
 sI:AY x
 mark:x.mark.length<=140737488355328
 held:x.held.length<=140737488355328
 wr:∀h∈x.held,h.wr.length<=140737488351232
end Go.V
namespace Go.Proofs.YtpjbalhhlaofmaaGreat
open Go.V Go.V.Pk
section
variable {w:Wd} {Q Q':Nat->Prop}
end
end Go.Proofs.YtpjbalhhlaofmaaGreat
namespace Go.Proofs.YtpjbalhhlaofmaaGreat
open Go.V Go.V.Pk
section
variable {w:Wd} {Q:Nat->Prop}
end
end Go.Proofs.YtpjbalhhlaofmaaGreat
namespace Go.V
theorem dB.kp{f f':bH}{t:Int}{r:Rf}{lev:Int}{kvs:List KV}{ps:List Rf}(h:dB f t r lev kvs ps)(k:iR f f' ps):dB f' t r lev kvs ps:=by
 rcases h with h | ⟨a,b,c⟩
 .exact .inl h
 .exact .inr ⟨a,b,c.cB k⟩
end Go.V
namespace Go.Proofs.YtpjbalhhlaofmaaGreat
open Go.V Go.V.Pk
section
variable {w:Wd} {T:Nat->Option Nat} {m:bB} {M:Mm}
end
end Go.Proofs.YtpjbalhhlaofmaaGreat
namespace Go.V
open Go.V.Pk Go.Proofs.YtpjbalhhlaofmaaGreat
structure Vj(W:List aA)(t:Int)(n:Nat):Prop where
 le:n<=W.length
 lo:∀i (h:i < W.length),i < n->W[i].ah < t
 hi:∀(h:n < W.length),¬ W[n].ah < t
theorem Vj.cut{W:List aA}{t:Int}{n:Nat}(p:Vj W t n)(hs:W.Pairwise fun a b=>a.ah < b.ah):W.take n=loS t W /\
    ((∃h:n < W.length,W[n].ah=t/\fD W t=some W[n]/\hiS t W=W.drop (n+1))∨(∀h:n < W.length,W[n].ah≠t)/\fD W t=none/\hiS t W=W.drop n):=by
  have ha:∀x∈W.take n,x.ah < t:=fun x hx=>by
    obtain⟨i,hi,rfl⟩:=List.getElem_of_mem hx;rw[List.length_take]at hi;rw[List.getElem_take];exact p.lo i (by omega) (by omega)
  have e:=List.take_append_drop n W;have l1:loS t (W.take n)=W.take n:=List.filter_eq_self.2 fun x hx=>decide_eq_true (ha x hx)
  have h1:hiS t (W.take n)=[]:=List.filter_eq_nil_iff.2 fun x hx h=>by have:=ha x hx;have:=of_decide_eq_true h;omega
  have f1:fD (W.take n) t=none:=List.find?_eq_none.2 fun x hx h=>by have:=ha x hx;have:=of_decide_eq_true h;omega
  have lw : loS t W = loS t (W.take n) ++ loS t (W.drop n) := by conv => lhs; rw [← e]
                                                                 exact List.filter_append _ _
  have hw : hiS t W = hiS t (W.take n) ++ hiS t (W.drop n) := by conv => lhs; rw [← e]
                                                                 exact List.filter_append _ _
  have fw : fD W t = (fD (W.take n) t).or (fD (W.drop n) t) := by conv => lhs; rw [← e]
                                                                  exact List.find?_append
  rw[f1,Option.none_or]at fw;rw[h1,List.nil_append]at hw;rw[l1]at lw;rcases Nat.lt_or_ge n W.length with hn | hn
  · have hd:=List.drop_eq_getElem_cons hn;have hp:=p.hi hn;have Ip:(W.drop n).Pairwise fun a b=>a.ah < b.ah:=hs.sublist (List.drop_sublist _ _)
    rw[hd]at Ip;obtain⟨g1,_⟩:=List.pairwise_cons.1 Ip
    have l2:loS t (W.drop n)=[]:=by
      rw[hd]
      exact List.filter_eq_nil_iff.2 fun x hx h=>by
        have h:=of_decide_eq_true h;rcases List.mem_cons.1 hx with h' | h'
        · rw[h']at h;exact hp h
        · have:=g1 x h';omega
    rw[l2,List.append_nil]at lw;refine⟨lw.symm,?_⟩;by_cases he:W[n].ah=t
    · refine .inl ⟨hn,he,?_,?_⟩
      · rw[fw,hd];unfold fD;rw[List.find?_cons_of_pos (by simpa using he)]
      · rw[hw,hd];unfold hiS;rw[List.filter_cons_of_neg (by simp;omega)];exact List.filter_eq_self.2 fun x hx=>decide_eq_true (by have:=g1 x hx;omega)
    · refine .inr ⟨fun _=>he,?_,?_⟩
      · rw[fw,hd]
        exact List.find?_eq_none.2 fun x hx h=>by
          have h:=of_decide_eq_true h;rcases List.mem_cons.1 hx with h' | h'
          · rw[h']at h;exact he h
          · have:=g1 x h';omega
      · rw[hw,hd]
        exact List.filter_eq_self.2 fun x hx=>decide_eq_true (by
          rcases List.mem_cons.1 hx with h' | h'
          · rw[h'];omega
          · have:=g1 x h';omega)
  · rw[List.drop_eq_nil_of_le hn]at fw hw lw ⊢;exact⟨by rw[lw];simp[loS],.inr ⟨fun h=>by omega,fw,hw⟩⟩
theorem Y7{W:List aA}{t:Int}:loS t (pI t none W)=loS t W/\hiS t (pI t none W)=hiS t W:=by
 have a:∀{l:List aA},loS t (loS t l)=loS t l:=fun {l}=>by unfold loS;rw[List.filter_filter];simp
 have b:∀{l:List aA},hiS t (hiS t l)=hiS t l:=fun {l}=>by unfold hiS;rw[List.filter_filter];simp
 have c:∀{l:List aA},loS t (hiS t l)=[]:=fun {l}=>List.filter_eq_nil_iff.2 fun x hx h=>by
  have:=of_decide_eq_true (List.mem_filter.1 hx).2;have:=of_decide_eq_true h;omega
 have d:∀{l:List aA},hiS t (loS t l)=[]:=fun {l}=>List.filter_eq_nil_iff.2 fun x hx h=>by
  have:=of_decide_eq_true (List.mem_filter.1 hx).2;have:=of_decide_eq_true h;omega
 have e:pI t none W=loS t W++hiS t W:=rfl;rw[e];constructor
 .show List.filter _ _=_;rw[List.filter_append];show loS t (loS t W)++loS t (hiS t W)=_;rw[a,c,List.append_nil]
 .show List.filter _ _=_;rw[List.filter_append];show hiS t (loS t W)++hiS t (hiS t W)=_;rw[d,b,List.nil_append]
theorem Vk{W:List aA}{t:Int}(h:W.Pairwise fun a b=>a.ah < b.ah):(pI t none W).Pairwise fun a b=>a.ah < b.ah:=by
 unfold pI;refine List.pairwise_append.2 ⟨h.sublist List.filter_sublist,List.pairwise_append.2 ⟨by simp,h.sublist List.filter_sublist,by simp⟩,fun x hx y hy=>?_⟩;have h1:=of_decide_eq_true (List.mem_filter.1 hx).2;simp at hy;have h2:=of_decide_eq_true (List.mem_filter.1 hy).2;omega
structure EN(Q:Nat->Prop)(h:Array Obj)(base:Nat)(s:Sl)(A:List (bh×aA)):Prop where
 own:aT h base 33 9 s (sC A)
 el:∀e∈A,bV (fun q=>Q q/\q < base) h e.1 e.2
theorem EN.len{Q:Nat->Prop}{h:Array Obj}{base:Nat}{s:Sl}{A:List (bh×aA)}(o:EN Q h base s A):s.len=A.length:=by
 have:=o.own.rd.len;rw[aK (pE A)]at this;omega
theorem EN.no{Q:Nat->Prop}{w w':Wd}{base:Nat}{s:Sl}{A:List (bh×aA)}(o:EN Q w.heap base s A)(x:Ext No w w'):EN Q w'.heap base s A:=⟨o.own.no x,fun e he=>(o.el e he).no x⟩
theorem EN.WM{Q:Nat->Prop}{h:Array Obj}{base:Nat}{s:Sl}{A:List (bh×aA)}{W:List aA}(o:EN Q h base s A)(e:A.map Prod.snd=W):bS (fun q=>Q q∨base<=q) h s W:=
 ⟨A,e,o.own.rd,fun _ _ hb=> .inr (o.own.lt hb).1,fun y hy=>(o.el y hy).mono fun _ hq=> .inl hq.1⟩
end Go.V
namespace Go.Proofs.YtpjbalhhlaofmaaGreat
open Go.V Go.V.Pk
section
variable {w:Wd} {Q:Nat->Prop}
theorem qo{base:Nat}{s x:Sl}{A B:List (bh×aA)}{K:Sl->Pw}(o:EN Q w.heap base s A)(hb:base<=w.heap.size)(r:Rd w.heap x 9 (sC B))(re:∀e∈B,bV (fun q=>Q q/\q < base) w.heap e.1 e.2)(hA:A.length<=1000000)(hB:B.length<=1000000)
  (k:∀s' w',EN Q w'.heap base s' (A++B)->Ext (fun q=>s.aq=some q) w w'->K s' w'):bz pz 44 44 s (.slice x.a x.len x.cap) K w:=by
 have l1:=o.len;have l2:x.len=B.length:=by have:=r.len;rw[aK (pE B)]at this;omega
 refine xm o.own hb r.src (by omega) fun s' w' o' _ x' _=>k s' w' ⟨by rw[show sC (A++B)=sC A++sC B by simp];exact o',fun e he=>?_⟩ x'
 have h:bV (fun q=>Q q/\q < base) w.heap e.1 e.2:=by
  rcases List.mem_append.1 he with h | h
  .exact o.el e h
  .exact re e h
 exact h.ext x' fun q hq h=>by have:=(o.own.lt h).1;omega
theorem tZ{s:Sl}{W:List aA}{t:Int}{K:Int->Pw}(r:bS Q w.heap s W)(hl:W.length<=1000000)(k:∀n:Nat,Vj W t n->K n w):iG s t w K:=by
 apply Em;have sl:=r.len;refine⟨fun m n w'=>w=w'/\∃j:Nat,n=j/\m=W.length - j/\j<=W.length/\∀i (h:i < W.length),i < j->W[i].ah < t,⟨_,rfl,0,rfl,rfl,Nat.zero_le _,fun i _ h=>by omega⟩,?_⟩;rintro _ m0 _ _ ⟨rfl,j,rfl,rfl,hj,OQ⟩;refine If.dec (fun h=>?_) fun h=>k j ⟨hj,OQ,fun h'=>by omega⟩
 refine EM r (by omega) h fun b o v hi hv hc=>⟨_,hc 0 _ rfl,?_⟩
 have fh:j < W.length:=by omega
 have ev:v.ah=W[j].ah:=hv.ah;rw[ev];refine If.dec (fun h2=>Ar.i64 (by omega) ⟨_,by omega,rfl,j+1,by omega,rfl,by omega,fun i qp A_=>?_⟩) fun h2=>k j ⟨hj,OQ,fun _=>h2⟩
 rcases Nat.lt_or_ge i j with h3 | h3
 .exact OQ i qp h3
 .have:i=j:=by omega
  subst this;exact h2
theorem rH{s:Sl}{W:List aA}{t:Int}{K:Int->Int->Sl->Int->Int->Int->Int->Int->Sl->Bool->Pw}(r:bS Q w.heap s W)(hs:W.Pairwise fun a b=>a.ah < b.ah)(hl:W.length<=1000000)
  (k1:∀(v:bh) x w',fD W t=some x->bV Q w'.heap v x->Ext No w w'->K v.ah v.aI v.mark v.root.p v.root.c v.root.g v.lev v.aw v.held true w')
  (k0:∀w',fD W t=none->Ext No w w'->K bt.ah bt.aI bt.mark bt.root.p bt.root.c bt.root.g bt.lev bt.aw bt.held false w'):mT s t w K:=by
 apply Hl;refine ag.mk fun b w1 n1=>?_
 have e1:=n1.at_;have r1:=r.lt.no n1.ext;have sl:=r.len;refine tZ r1 hl fun n p=>?_
 obtain⟨_,hc⟩:=p.cut hs;have hle:=p.le;refine⟨fun tt w'=>w1=w'/\tt=decide (∃h:n < W.length,W[n].ah=t),?_,?_⟩
 .refine If.dec (fun h=>?_) fun h=>⟨rfl,(decide_eq_false fun⟨h',_⟩=>by omega).symm⟩
  refine EM r1 (by omega) h fun b' o v hi hv bq=>⟨_,bq 0 _ rfl,rfl,?_⟩
  have ev:v.ah=W[n].ah:=hv.ah;rw[ev];exact decide_eq_decide.2 ⟨fun h=>⟨hi,h⟩,fun⟨_,h⟩=>h⟩
 rintro _ _ _ ⟨rfl,rfl⟩;refine If.dec (fun h=>?_) fun h=>?_
 .obtain⟨hn,he⟩:=h;rcases hc with⟨_,_,hf,_⟩ | ⟨bC,_,_⟩
  .refine EM r1 (by omega) (by omega) fun b' o v hi hv bq=>⟨v.ah,bq 0 _ rfl,v.aI,bq 1 _ rfl,v.mark,bq 2 _ rfl,v.root.p,bq 3 _ rfl,v.root.c,bq 4 _ rfl,v.root.g,bq 5 _ rfl,v.lev,bq 6 _ rfl,v.aw,bq 7 _ rfl,v.held,bq 8 _ rfl,?_⟩
   refine Tb (v:=v) (K:=fun c c1 c2 c3 c4 c5 c6 c7 c8 w'=>K c c1 c2 c3 c4 c5 c6 c7 c8 true w') n1.get rfl fun w4 x4 _=>?_
   have EB:Ext (·=b) w1 w4:=x4;exact k1 v W[n] w4 hf ((hv.ext EB fun q hq h=>by omega).mono fun q hq=>hq.1) (n1.ext.trans EB fun q hq h=>by omega)
  .exact(bC hn he).elim
 .rcases hc with⟨hn,he,_⟩ | ⟨_,hf,_⟩
  .exact(h ⟨hn,he⟩).elim
  .refine Tb (v:=bt) (K:=fun c c1 c2 c3 c4 c5 c6 c7 c8 w'=>K c c1 c2 c3 c4 c5 c6 c7 c8 false w') n1.get rfl fun w4 x4 _=>k0 w4 hf ?_
   have EB:Ext (·=b) w1 w4:=x4;exact n1.ext.trans EB fun q hq h=>by omega
theorem _root_.Go.V.bS.opn{h:Array Obj}{s:Sl}{W:List aA}(r:bS Q h s W):∃L:List (bh×aA),L.map Prod.snd=W/\Rd h s 9 (sC L)/\s.len=L.length/\∀e∈L,bV (fun q=>Q q/\q < h.size) h e.1 e.2:=by
 obtain⟨L,h1,h2,_,h4⟩:=r;exact⟨L,h1,h2,by have:=h2.len;rw[aK (pE L)]at this;omega,fun e he=>(h4 e he).lt⟩
theorem acQ{b:Nat}{w2:Wd}(n:D_ w (.cells ([]:List Value).toArray 33) b w2):EN Q w2.heap w.heap.size ⟨some ⟨b,0,none⟩,0,0⟩ []:=by
 have hb:=n.at_;exact⟨⟨rfl,.inr ⟨b,[],rfl,by omega,n.get,rfl,Nat.le_refl _⟩,by simp⟩,by simp⟩
theorem mL{s:Sl}{W:List aA}{t:Int}{K:Sl->Pw}(r:bS Q w.heap s W)(hs:W.Pairwise fun a b=>a.ah < b.ah)(hl:W.length<=100000)
  (k:∀s' w',bS (fun q=>Q q∨w.heap.size<=q) w'.heap s' (pI t none W)->Ext No w w'->K s' w'):f_ s t w K:=by
 apply AN;refine tZ r (by omega) fun n p=>ag.mk fun b w2 n2=>?_
 obtain⟨OQ,hc⟩:=p.cut hs;have hle:=p.le;have r2:=r.no n2.ext;have sl:=r.len;obtain⟨L,hL,rd,ll,el⟩:=r.opn;have hLW:L.length=W.length:=by rw[<- hL,List.length_map]
 have rd2:=rd.no n2.ext;have z2:=n2.ext.size;have e0:∀{w':Wd}{A:List (bh×aA)},Ext No w w'->(∀e∈A,e∈L)->∀e∈A,bV (fun q=>Q q/\q < w.heap.size) w'.heap e.1 e.2:=fun x h e he=>(el e (h e he)).no x
 refine Cut.pre rd2 (pE L) ll (by decide) (by omega) (by omega) rfl fun s1 r1 l1=>?_
 have q1:((L.drop (Int.toNat 0)).take ((n:Int).toNat - Int.toNat 0))=L.take n:=by simp
 rw[q1]at r1;refine qo (acQ n2) (by omega) r1 (e0 n2.ext fun e he=>List.mem_of_mem_take he) (by simp) (by rw[List.length_take];omega) fun s3 w3 o3 x3=>?_
 rw[List.nil_append]at o3;have hb:=n2.at_;have gp:Ext No w w3:=n2.ext.trans x3 fun q hq h=>by simp[Sl.aq]at h;omega
 have y3:=gp.size
 have fin:∀{m:Nat}{z:Int}{K':Sl->Prop},z=m->m<=L.length->W.drop m=hiS t W->(∀s4,bz pz 44 44 s3 (.slice s4.a s4.len s4.cap) K w3->K' s4)->Cut s z (((s.len:Nat):Int)) (((s.cap:Nat):Int)) 9 K':=fun {m z K'} hz hm hd k'=>by
  refine Cut.pre (rd.no gp) (pE L) ll (by omega) (by omega) (by omega) rfl fun s4 r4 l4=>k' s4 ?_
  have q4:(L.drop z.toNat).take ((s.len:Int).toNat - z.toNat)=L.drop m:=by
   rw[hz,Int.toNat_natCast,Int.toNat_natCast];exact List.take_of_length_le (by rw[List.length_drop];omega)
  rw[q4]at r4;refine qo o3 y3 r4 (e0 gp fun e he=>List.mem_of_mem_drop he) (by rw[List.length_take];omega) (by rw[List.length_drop];omega) fun s5 w5 o5 x5=>?_
  refine k s5 w5 (o5.WM ?_) (gp.trans x5 fun q hq h=>by have:=(o3.own.lt h).1;omega);rw[List.map_append,List.map_take,List.map_drop,hL,OQ,hd];rfl
 refine If.dec (fun h=>?_) fun h=>?_
 .have r3:=r.no gp
  refine EM r3 (by omega) h fun b' o v hi hv bq=>⟨_,bq 0 _ rfl,?_⟩
  have ev:v.ah=W[n].ah:=hv.ah;rw[ev];rcases hc with⟨hn,he,_,hh⟩ | ⟨bC,_,hh⟩
  .refine If.beq (fun _=>Ar.i64 (by omega) (fin (m:=n+1) (by omega) (by omega) hh.symm fun s4 h4=>h4)) fun h=>(h he).elim
  .refine If.beq (fun h=>(bC hi h).elim) fun _=>fin (m:=n) rfl (by omega) hh.symm fun s4 h4=>h4
 .rcases hc with⟨hn,_⟩ | ⟨_,_,hh⟩
  .omega
  .exact fin (m:=n) rfl (by omega) hh.symm fun s4 h4=>h4
theorem Ie{s:Sl}{W:List aA}{v:bh}{x:aA}{K:Sl->Pw}(r0:bS Q w.heap s W)(rx0:bV Q w.heap v x)(hs:W.Pairwise fun a b=>a.ah < b.ah)(hl:W.length<=90000)
  (k:∀s' w',bS (fun q=>Q q∨w.heap.size<=q) w'.heap s' (pI x.ah (some x) W)->Ext No w w'->K s' w'):qw s v.ah v.aI v.mark v.root.p v.root.c v.root.g v.lev v.aw v.held w K:=by
 apply Hm
 refine ag.mk fun b w1 n1=>⟨_,Cell.ai n1.get rfl,?_⟩
 have et:=rx0.ah;have z1:=n1.ext.size;rw[et];have r1:bS (fun q=>Q q/\q < w.heap.size) w1.heap s W:=r0.lt.no n1.ext
 refine mL r1 hs (by omega) fun s2 w2 r2 x2=>⟨_,Cell.ai (ad n1.get x2) rfl,?_⟩
 rw[et];have hZ:=n1.ext.no x2;have JR:(pI x.ah none W).length<=W.length+1:=H_;refine tZ r2 (by omega) fun n p=>ag.mk fun b1 w4 n4=>?_
 obtain⟨OQ,hc⟩:=p.cut (Vk hs);obtain⟨ol,oh⟩:=Y7 (W:=W) (t:=x.ah);have hle:=p.le;rw[ol]at OQ
 have hhi:(pI x.ah none W).drop n=hiS x.ah W:=by
  rcases hc with⟨hn,he,_⟩ | ⟨_,_,h⟩
  .exfalso;have:(pI x.ah none W)[n]∈pI x.ah none W:=List.getElem_mem hn;unfold pI at this;rcases List.mem_append.1 this with h | h
   .have:=of_decide_eq_true (List.mem_filter.1 h).2;unfold pI at he;omega
   .simp at h;have:=of_decide_eq_true (List.mem_filter.1 h).2;unfold pI at he;simp at he;omega
  .rw[<- h,oh]
 obtain⟨L,hL,rd,ll,el⟩:=r2.opn;have hLW:L.length=(pI x.ah none W).length:=by rw[<- hL,List.length_map]
 have gF:=hZ.no n4.ext;have y2:=hZ.size;have y4:=n4.ext.size;have el4:∀{w':Wd}{A:List (bh×aA)},Ext No w2 w'->(∀e∈A,e∈L)->∀e∈A,bV (fun q=>(Q q∨w.heap.size<=q)/\q < w2.heap.size) w'.heap e.1 e.2:=fun x' h e he=>((el e (h e he)).mono fun q hq=>⟨hq.1.elim (fun h=> .inl h.1) fun h=> .inr (by omega),hq.2⟩).no x'
 refine Cut.pre (rd.no n4.ext) (pE L) ll (by decide) (by omega) (by omega) rfl fun s5 r5 l5=>?_
 have q5:((L.drop (Int.toNat 0)).take ((n:Int).toNat - Int.toNat 0))=L.take n:=by simp
 rw[q5]at r5;refine qo (Q:=fun q=>Q q∨w.heap.size<=q) (acQ n4) (by omega) r5 (el4 n4.ext fun e he=>List.mem_of_mem_take he) (by simp) (by rw[List.length_take];omega) fun s6 w6 o6 x6=>?_
 rw[List.nil_append]at o6;have gE:=n4.at_;have uX:Ext No w2 w6:=n4.ext.trans x6 fun q hq h=>by simp[Sl.aq]at h;omega
 have Mx:=ad n1.get (x2.no uX);have y6:=uX.size;refine⟨v.ah,Cell.ai Mx rfl,v.aI,Cell.ai Mx rfl,v.mark,Cell.ai Mx rfl,v.root.p,Cell.ai Mx rfl,v.root.c,Cell.ai Mx rfl,v.root.g,Cell.ai Mx rfl,v.lev,Cell.ai Mx rfl,v.aw,Cell.ai Mx rfl,v.held,Cell.ai Mx rfl,ag.mk fun b2 w7 n7=>?_⟩;have Qt:=uX.no n7.ext;have y7:=Qt.size
 have rx7:bV (fun q=>(Q q∨w.heap.size<=q)/\q < w2.heap.size) w7.heap v x:=((rx0.lt.no hZ).no Qt).mono fun q hq=>⟨.inl hq.1,by omega⟩
 have rv:Rd w7.heap ⟨some ⟨b2,0,none⟩,1,1⟩ 9 (sC [(v,x)]):=by
  have:sC [(v,x)]=v.cells:=by simp
  rw[this];exact(aT.new (sz:=9) (n:=1) n7 rfl v.one).rd
 refine qo (x:=⟨some ⟨b2,0,none⟩,1,1⟩) (o6.no n7.ext) (by omega) rv (fun e he=>by rw[List.mem_singleton]at he;subst he;exact rx7) (by rw[List.length_take];omega) (by simp) fun s8 w8 o8 x8=>?_
 have Fy:Ext No w2 w8:=Qt.trans x8 fun q hq h=>by have:=(o6.own.lt h).1;omega
 have y8:=Fy.size;refine Cut.pre (rd.no Fy) (pE L) ll (by omega) (by omega) (by omega) rfl fun s9 r9 l9=>?_
 have q9:(L.drop (n:Int).toNat).take ((s2.len:Int).toNat - (n:Int).toNat)=L.drop n:=by
  rw[Int.toNat_natCast,Int.toNat_natCast];exact List.take_of_length_le (by rw[List.length_drop];omega)
 rw[q9]at r9;refine qo o8 (by omega) r9 (el4 Fy fun e he=>List.mem_of_mem_drop he) (by rw[List.length_append,List.length_take];simp;omega) (by rw[List.length_drop];omega) fun OC dA Qj dR=>?_
 refine k OC dA ((Qj.WM (W:=pI x.ah (some x) W) ?_).mono fun q hq=>hq.elim id fun h=> .inr (by omega)) ((hZ.no Fy).trans dR fun q hq h=>by have:=(o8.own.lt h).1;omega);rw[List.map_append,List.map_append,List.map_take,List.map_drop,hL,OQ,hhi];unfold pI;simp
end
end Go.Proofs.YtpjbalhhlaofmaaGreat
namespace Go.Proofs.YtpjbalhhlaofmaaGreat
open Go.V Go.V.Pk
theorem Te{f:bH}{t i:Int}{e:aH}{x:KV}{p:List Rf}(h:CN f t e x p)(he:nW 1 i e)(hx:x.2.length<=208):p.length<=1:=by
 obtain⟨hk,h2⟩:=h;obtain⟨_,he⟩:=he;rw[if_neg (by decide)]at he;obtain⟨_,he⟩:=he;by_cases hn:e.n=0
 .rw[if_pos hn]at h2;rw[h2.2];simp
 .rw[if_neg hn]at h2 he;obtain⟨h3,cs,hc,hv,hp⟩:=h2;have hs:=(tJ hc).2.1;have e1:(Mg cs).length=x.2.length:=by rw[hv]
  have e2:p.length=cs.length:=by rw[<- hp];simp
  omega
theorem Qc{f:bH}{t:Int}{l:List aH}{kvs:List KV}{ps:List Rf}(h:cM f t l kvs ps)(he:∀e∈l,nW 1 0 e)(hv:∀x∈kvs,x.2.length<=208):ps.length<=kvs.length:=by
 induction h with
 | nil=>simp
 | @cons e l x kvs p ps hE hL ih=>
  have h1:=Te hE (he e (by simp)) (hv x (by simp));have:=ih (fun y hy=>he y (by simp[hy])) fun y hy=>hv y (by simp[hy])
  simp only[List.length_append,List.length_cons];omega
theorem Qd{Q:Rf->List KV->List Rf->Prop}(hQ:∀r kv p,Q r kv p->(∀x∈kv,x.2.length<=208)->p.length+1<=3 * kv.length){l:List aH}{kvs:List KV}{ps:List Rf}(h:aM Q l kvs ps)(hv:∀x∈kvs,x.2.length<=208):ps.length+l.length<=3 * kvs.length:=by
 induction h with
 | nil=>simp
 | @cons e l kv kvs p ps h lo hi r ih=>
  have h1:=hQ _ _ _ h fun x hx=>hv x (by simp[hx])
  have h2:=ih fun x hx=>hv x (by simp[hx])
  simp only[List.length_append,List.length_cons];omega
theorem Gn{f:bH}{t:Int}:∀{lev:Nat}{r:Rf}{kvs:List KV}{ps:List Rf},bu f t lev r kvs ps->(∀x∈kvs,x.2.length<=208)->ps.length+1<=3 * kvs.length
 | 0,r,kvs,ps,⟨l,cU,h1,h2,h3,h4⟩,hv=>by
  have h5:=Qc h3 h1.right.lef.iw hv
  have h6:kvs.length≠0:=fun e=>by
   cases h3 with
   | nil=>exact h2 rfl
   | cons=>simp at e
  subst h4;simp only[List.length_cons];omega
 | lev+1,r,kvs,ps,⟨l,cU,h1,h2,h3,h4⟩,hv=>by
  have:=Qd (fun r kv p h=>Gn h) h3 hv;subst h4;simp only[List.length_cons];omega
theorem Tf{f:bH}{t lev:Int}{r:Rf}{W:List aA}{ps:List Rf}(h:dB f t r lev (uN W) ps)(hW:fE W):ps.length<=3 * W.length:=by
 have hv:∀x∈uN W,x.2.length<=208:=fun x hx=>by
  obtain⟨y,hy,rfl⟩:=List.mem_map.1 hx;exact(ui (hW.may y hy) (hW.sI y hy)).1
 rcases h with⟨_,_,_,rfl⟩ | ⟨_,_,h3⟩
 .simp
 .have:=Gn h3 hv;rw[List.length_map]at this;omega
def WN(b1:Nat)(wv rv:Sl)(i e:Int)(w:Wd)(K:Bool->Pw)(N:Int->Pw):Prop:=
 ∃S:Pw,S (aa w)/\
 If (e != 0) (
 K false ((aa w))) (
 ∃Bf:Int,ae S (Addr.mk b1 0 none) (.int .u32 Bf)/\
 ∃Bg:Int,ae S ((Addr.mk b1 0 none).add 1) (.int .i64 Bg)/\
 ∃n_:Sl,ae S ((Addr.mk b1 0 none).add 2) n_.u/\
 ∃sN:Int,ae S ((Addr.mk b1 0 none).add 3) (.int .u32 sN)/\
 ∃tI:Int,ae S ((Addr.mk b1 0 none).add 4) (.int .u64 tI)/\
 ∃oc:Int,ae S ((Addr.mk b1 0 none).add 5) (.int .u16 oc)/\
 ∃lz:Int,ae S ((Addr.mk b1 0 none).add 6) (.int .u8 lz)/\
 ∃lC:Int,ae S ((Addr.mk b1 0 none).add 7) (.int .i64 lC)/\
 ∃ng:Sl,ae S ((Addr.mk b1 0 none).add 8) ng.u/\
 Ix wv.a wv.len i 9 fun AT=>
 ∃rp:Int,ae S AT (.int .u32 rp)/\
 ∃xI:Int,ae S (AT.add 1) (.int .i64 xI)/\
 ∃uJ:Sl,ae S (AT.add 2) uJ.u/\
 ∃wg:Int,ae S (AT.add 3) (.int .u32 wg)/\
 ∃Dg:Int,ae S (AT.add 4) (.int .u64 Dg)/\
 ∃Dh:Int,ae S (AT.add 5) (.int .u16 Dh)/\
 ∃wh:Int,ae S (AT.add 6) (.int .u8 wh)/\
 ∃Ki:Int,ae S (AT.add 7) (.int .i64 Ki)/\
 ∃Kj:Sl,ae S (AT.add 8) Kj.u/\
 eI Bf Bg n_ sN tI oc lz lC ng rp xI uJ wg Dg Dh wh Ki Kj (aa w) fun r_1 dA=>
 S dA/\
 If (!r_1) (
 K false dA) (
 Ix rv.a rv.len i 9 fun Er=>
 ∃Kk:Int,ae S Er (.int .u32 Kk)/\
 ∃Kl:Int,ae S (Er.add 1) (.int .i64 Kl)/\
 ∃Km:Sl,ae S (Er.add 2) Km.u/\
 ∃ED:Int,ae S (Er.add 3) (.int .u32 ED)/\
 ∃Kn:Int,ae S (Er.add 4) (.int .u64 Kn)/\
 ∃Ko:Int,ae S (Er.add 5) (.int .u16 Ko)/\
 ∃Di:Int,ae S (Er.add 6) (.int .u8 Di)/\
 ∃HG:Int,ae S (Er.add 7) (.int .i64 HG)/\
 ∃HH:Sl,ae S (Er.add 8) HH.u/\
 Ix wv.a wv.len i 9 fun Jx=>
 ∃HI:Int,ae S Jx (.int .u32 HI)/\
 ∃HJ:Int,ae S (Jx.add 1) (.int .i64 HJ)/\
 ∃HK:Sl,ae S (Jx.add 2) HK.u/\
 ∃Dj:Int,ae S (Jx.add 3) (.int .u32 Dj)/\
 ∃HL:Int,ae S (Jx.add 4) (.int .u64 HL)/\
 ∃HM:Int,ae S (Jx.add 5) (.int .u16 HM)/\
 ∃EE:Int,ae S (Jx.add 6) (.int .u8 EE)/\
 ∃wi:Int,ae S (Jx.add 7) (.int .i64 wi)/\
 ∃HN:Sl,ae S (Jx.add 8) HN.u/\
 eI Kk Kl Km ED Kn Ko Di HG HH HI HJ HK Dj HL HM EE wi HN dA fun Ur dg=>
 S dg/\
 If (!Ur) (
 K false dg) (
 Ar .i64 (i+1) fun Tx=>
 N Tx dg)))
section
variable {w:Wd} {Q Q' Q3:Nat->Prop} {T:Nat->Option Nat} {m:bB} {M:Mm}
theorem Gq{b1 n:Nat}{e:Int}{v:bh}{wv rv:Sl}{W:List aA}{K:Bool->Pw}{N:Int->Pw}(hn:n < W.length)(g:w.heap[b1]? = some (.cells v.cells.toArray 33 (0,0)))(sv:bV Q w.heap v W[n])(sw:bS Q' w.heap wv W)(sr:bS Q3 w.heap rv W)(hW:fE W)(he:e=0)(hl:W.length<=100000)
  (k:∀w',Ext No w w'->N ((n:Int)+1) w'):WN b1 wv rv n e w K N:=by
 subst he;have wl:=sw.len;have rl:=sr.len;have xd:Ext No w (aa w):=(Ext.refl _ _).drew;have hm:W[n]∈W:=List.getElem_mem hn;have rg:=hW.sI _ hm;have hle:W[n].held.length<=1000000000000:=by have:=(Good.le (t:=W[n].ah) (l:=gh W[n]) ⟨hW.may _ hm,rg,rfl,rfl⟩).2.2.2.2.2.2.1;omega
 unfold WN;refine⟨Ext No w,xd,If.bne (fun h=>(h rfl).elim) fun _=>⟨v.ah,uS g rfl,v.aI,cq g rfl,v.mark,cq g rfl,v.root.p,cq g rfl,v.root.c,cq g rfl,v.root.g,cq g rfl,v.lev,cq g rfl,v.aw,cq g rfl,v.held,cq g rfl,EM sw (by omega) (by omega) fun b2 o2 v2 qp YR zQ=>⟨v2.ah,ae.cell (zQ 0 _ rfl),v2.aI,ae.cell (zQ 1 _ rfl),v2.mark,ae.cell (zQ 2 _ rfl),v2.root.p,ae.cell (zQ 3 _ rfl),v2.root.c,ae.cell (zQ 4 _ rfl),v2.root.g,ae.cell (zQ 5 _ rfl),v2.lev,ae.cell (zQ 6 _ rfl),v2.aw,ae.cell (zQ 7 _ rfl),v2.held,ae.cell (zQ 8 _ rfl),?_⟩⟩⟩
 refine uT (sv.no xd) (YR.no xd) rg.mark rg.mark rg.held rg.held hle fun t10 dA AV dR=>⟨xd.no dR,?_⟩
 rw[AV.2 rfl];refine If.not (If.yes (EM sr (by omega) (by omega) fun b3 o3 v3 LU hv3 JG=>⟨v3.ah,ae.cell (JG 0 _ rfl),v3.aI,ae.cell (JG 1 _ rfl),v3.mark,ae.cell (JG 2 _ rfl),v3.root.p,ae.cell (JG 3 _ rfl),v3.root.c,ae.cell (JG 4 _ rfl),v3.root.g,ae.cell (JG 5 _ rfl),v3.lev,ae.cell (JG 6 _ rfl),v3.aw,ae.cell (JG 7 _ rfl),v3.held,ae.cell (JG 8 _ rfl),EM sw (by omega) (by omega) fun b4 o4 v4 hi4 hv4 Vm=>⟨v4.ah,ae.cell (Vm 0 _ rfl),v4.aI,ae.cell (Vm 1 _ rfl),v4.mark,ae.cell (Vm 2 _ rfl),v4.root.p,ae.cell (Vm 3 _ rfl),v4.root.c,ae.cell (Vm 4 _ rfl),v4.root.g,ae.cell (Vm 5 _ rfl),v4.lev,ae.cell (Vm 6 _ rfl),v4.aw,ae.cell (Vm 7 _ rfl),v4.held,ae.cell (Vm 8 _ rfl),?_⟩⟩))
 refine uT ((hv3.no xd).no dR) ((hv4.no xd).no dR) rg.mark rg.mark rg.held rg.held hle fun t11 dg wD fY=>⟨(xd.no dR).no fY,?_⟩
 rw[wD.2 rfl];exact If.not (If.yes (Ar.i64 (by omega) (k dg ((xd.no dR).no fY))))
set_option maxHeartbeats 2000000 in
theorem Qe{lev:Int}{r:Rf}{W:List aA}{ps:List Rf}{wv:Sl}{K:Bool->Pw}(R:aY w.heap T m M){lv:Nat}(Mf:lev=lv)(hT:dB M.f 0 r lev (uN W) ps)(dn:lv<=30)(hW:fE W)(hl:W.length<=10000)(pe:ps.Perm (live M.au))(hn:M.au.length<=65535)(sw:bS Q w.heap wv W)
  (k:∀w',Ext No w w'->K true w'):qx (some ⟨m.bm,0,none⟩) r.p r.c r.g lev wv w K:=by
 apply Hn;have few:=Tf hT hW
 refine ag.mk fun b w1 n1=>⟨_,Cell.ai n1.get rfl,_,Cell.ai n1.get rfl,_,Cell.ai n1.get rfl,_,Cell.ai n1.get rfl,?_⟩
 subst Mf;refine xU (R.no n1.ext) hT dn hW (by omega) fun rv w2 sr x2=>?_
 have hZ:=n1.ext.no x2;have g2:=ad n1.get x2;refine⟨_,Cell.ai g2 rfl,_,Cell.ai g2 rfl,_,Cell.ai g2 rfl,_,Cell.ai g2 rfl,?_⟩;refine KR (R.no hZ) hT (by omega) (by omega) fun s3 L w3 hL _ _ o3 x3=>?_
 have gp:=hZ.no x3;have wl:=sw.len;have rl:=sr.len
 have ll:s3.len=ps.length:=by
  have h1:=o3.len;rw[aK (Gf _)]at h1;have:L.length=ps.length:=by rw[<- hL];simp
  omega
 refine⟨fun w'=>Ext No w3 w',?_,?_⟩
 .refine If.bne (fun h=>(h rfl).elim) fun _=>If.bne (fun h=>(h rfl).elim) fun _=>If.bne (fun h=>(h (by omega)).elim) fun _=>Ar.i64 (by omega) (Ar.i64 (by omega) (If.dec (fun h=>by omega) fun _=>?_))
  refine MJ (R.no gp) hn fun s4 rs w4 Wc o4 x4=>?_
  have h4:s4.len=rs.length:=by
   have h1:=o4.len;rw[aK (Ge rs)]at h1;omega
  have h5:=Wc.length_eq;have h6:=pe.length_eq;exact If.bne (fun h=>(h (by omega)).elim) fun _=>x4
 rintro _ w5 x5;have BB:=gp.no x5;have g5:=ad g2 (x3.no x5);have sw5:=sw.no BB;have sr5:=(sr.no x3).no x5;refine⟨fun q i w'=>∃j:Nat,i=j/\j<=W.length/\q=W.length - j/\Ext No w5 w',⟨_,0,rfl,Nat.zero_le _,rfl,Ext.refl _ _⟩,?_⟩;rintro _ m0 _ w6 ⟨j,rfl,hj,rfl,x6⟩;refine If.dec (fun h=>?_) fun h=>k w6 (BB.no x6)
 have fh:j < W.length:=by omega
 have AX:=BB.no x6;have g6:=ad g5 x6;have xd:Ext No w6 (aa w6):=(Ext.refl _ _).drew;have tn:=hW.tn _ (List.getElem_mem fh)
 have fs:fD W W[j].ah=some W[j]:=by
  have p:Vj W W[j].ah j:=⟨by omega,fun i hi A_=>List.pairwise_iff_getElem.1 hW.sort i j hi fh A_,fun _=>by omega⟩
  rcases(p.cut hW.sort).2 with⟨_,_,h,_⟩ | ⟨bC,_⟩
  .exact h
  .exact(bC fh rfl).elim
 have get:∀{w':Wd}{K':V8},Ext No w6 w'->(∀v kC,bV (w'.heap.size<=·) kC.heap v W[j]->Ext No w' kC->K'.at v 0 kC)->iZ (eW m) r.p r.c r.g lv W[j].ah w' K':=fun {w' K'} x k' =>
  xT (R.no (AX.no x)) hT (by omega) hW tn (fun kC hf _=>by rw[fs]at hf;cases hf) fun v x kC hf sv x''=>by rw[fs]at hf;cases hf;exact k' v kC sv x''
 refine⟨Ext No w6,xd,_,uS g6 rfl,_,cq g6 rfl,_,cq g6 rfl,_,cq g6 rfl,EM (sw5.no x6) (by omega) h fun b2 o2 v2 qp YR zQ=>⟨v2.ah,ae.cell (zQ 0 _ rfl),?_⟩⟩;have ev:v2.ah=W[j].ah:=YR.ah;rw[ev]
 have nx:∀{w':Wd},Ext No w6 w'->∃m1,m1 < W.length - j/\∃j':Nat,(j:Int)+1=j'/\j'<=W.length/\m1=W.length - j'/\Ext No w5 w':=fun x=>⟨W.length - (j+1),by omega,j+1,by omega,by omega,rfl,x6.no x⟩
 constructor
 .refine get xd fun v w7 sv x7=>⟨xd.no x7,ag.mk fun b1 w8 n8=>⟨(xd.no x7).no n8.ext,rfl,jB.all n8.get rfl v.one fun w9 g9 x9 _=>?_⟩⟩
  have Bk:Ext (·=b1) w8 w9:=x9;have gE:=n8.at_;have y7:w6.heap.size<=w7.heap.size:=x7.size;have JM:Ext No w7 w9:=n8.ext.trans Bk fun q hq h=>by omega
  have Q_:=(xd.no x7).no JM;refine⟨Q_,?_⟩;exact Gq (K:=K) (N:=fun z w'=>∃m1,m1 < W.length - j/\∃j':Nat,z=j'/\j'<=W.length/\m1=W.length - j'/\Ext No w5 w') fh g9 (sv.no JM) ((sw5.no x6).no Q_) ((sr5.no x6).no Q_) hW rfl (by omega) fun w' x'=>nx (Q_.no x')
 .refine ag.mk fun b1 eG lD=>⟨xd.no lD.ext,get (xd.no lD.ext) fun v cX sv eE=>⟨(xd.no lD.ext).no eE,rfl,jB.all (ad lD.get eE) rfl v.one fun c_ kM gH _=>?_⟩⟩
  have Bv:Ext (·=b1) cX c_:=gH;have gE:=lD.at_;have Ro:=lD.size;have e6:(aa w6).heap.size=w6.heap.size:=rfl;have Vn:Ext No w6 c_:=((xd.no lD.ext).no eE).trans Bv fun q hq h=>by omega
  refine⟨Vn,?_⟩;exact Gq (K:=K) (N:=fun z w'=>∃m1,m1 < W.length - j/\∃j':Nat,z=j'/\j'<=W.length/\m1=W.length - j'/\Ext No w5 w') fh kM (sv.ext Bv fun q (hq:eG.heap.size<=q) h=>by omega) ((sw5.no x6).no Vn) ((sr5.no x6).no Vn) hW rfl (by omega) fun w' x'=>nx (Vn.no x')
end
end Go.Proofs.YtpjbalhhlaofmaaGreat
namespace Go.V
open Go.V.Pk Go.Proofs.YtpjbalhhlaofmaaGreat
structure Ig where
 v:bh
 x:aA
 d:Bool
def Ig.cs(e:Ig):List Value:=e.v.cells++[.bool e.d]
theorem Of(L:List Ig):∀e∈L,(Ig.cs e).length=10:=fun _ _=>rfl
structure KW(Q:Nat->Prop)(h:Array Obj)(s:Sl)(L:List Ig):Prop where
 rd:Rd h s 10 (L.flatMap Ig.cs)
 el:∀e∈L,bV Q h e.v e.x
 Z8:∀e∈L,Vi e.x
theorem KW.no{Q:Nat->Prop}{w w':Wd}{s:Sl}{L:List Ig}(r:KW Q w.heap s L)(x:Ext No w w'):KW Q w'.heap s L:=⟨r.rd.no x,fun e he=>(r.el e he).no x,r.Z8⟩
theorem KW.len{Q:Nat->Prop}{h:Array Obj}{s:Sl}{L:List Ig}(r:KW Q h s L):s.len=L.length:=by have:=r.rd.len;rw[aK (Of L)]at this;omega
abbrev Gs(r:Rf)(lv:Nat):List Value:=[.int .u32 r.p,.int .u64 r.c,.int .u16 r.g,.int .u8 lv]
structure MR(w0 w:Wd)(bm:Nat)(T:Nat->Option Nat)(m:bB)(M:Mm)(r:Rf)(lv:Nat)(ps:List Rf)(W:List aA):Prop where
 mem:aY w.heap T m M
 bm:m.bm=bm
 tn:∀q,q < w0.heap.size->T q=none
 tree:dB M.f 0 r lv (uN W) ps
 lvl:lv<=30
 t_:fE W
 pe:ps.Perm (live M.au)
 ext:Ext No w0 w
theorem MR.step{S:Nat->Prop}{w0 w w':Wd}{bm:Nat}{T:Nat->Option Nat}{m:bB}{M:Mm}{r:Rf}{lv:Nat}{ps:List Rf}{W:List aA}(c:MR w0 w bm T m M r lv ps W)(x:Ext S w w')(h:∀q,S q->T q=none)(h0:∀q,S q->w0.heap.size<=q):MR w0 w' bm T m M r lv ps W:=
 ⟨c.mem.ext x h,c.bm,c.tn,c.tree,c.lvl,c.t_,c.pe,c.ext.trans x fun q hq hs=>by have:=h0 q hs;omega⟩
theorem MR.no{w0 w w':Wd}{bm:Nat}{T:Nat->Option Nat}{m:bB}{M:Mm}{r:Rf}{lv:Nat}{ps:List Rf}{W:List aA}(c:MR w0 w bm T m M r lv ps W)(x:Ext No w w'):MR w0 w' bm T m M r lv ps W:=c.step x (fun _ h=>h.elim) fun _ h=>h.elim
def PlM(w0 w:Wd)(bm b b1 b2 j:Nat)(e:bh)(wv:Sl)(ev:Int):Prop:=∃(T:Nat->Option Nat) (m:bB) (M:Mm) (rc:Rf) (Ih:Nat) (ps:List Rf) (W:List aA) (rb:Rf) (lb:Nat) (r2:Rf) (l2:Nat),
 MR w0 w bm T m M rc Ih ps W/\bS (fun q=>T q=none/\q≠b) w.heap wv W/\W.length<=j+1/\M.aE=j+2/\M.au.length<=60 * (j+1)/\w.heap[b1]? = some (.cells e.cells.toArray 33 (0,0))/\T b1=none/\
 w.heap[b]? = some (.cells (Gs rb lb).toArray 30 (0,0))/\T b=none/\w.heap[b2]? = some (.cells (Gs r2 l2).toArray 30 (0,0))/\(ev=0->rc=r2/\Ih=l2)/\(ev≠0->rc=rb/\Ih=lb)
theorem KX{t:Int}:∀{W:List aA},W.Pairwise (fun a b=>a.ah < b.ah)->fD W t=none->pI t none W=W
 | [],_,_=>rfl
 | x::W,hs,h=>by
  obtain⟨h1,h2⟩:=List.pairwise_cons.1 hs;unfold fD at h;rw[List.find?_cons]at h;by_cases he:x.ah=t
  .simp[he]at h
  .rw[decide_eq_false he]at h;have ih:=KX h2 h;unfold pI loS hiS at ih ⊢;rcases Int.lt_or_gt_of_ne he with hl | hl
   .rw[List.filter_cons_of_pos (by simpa using hl),List.filter_cons_of_neg (by simp;omega)];simp only[Option.toList_none,List.nil_append,List.cons_append]at ih ⊢;rw[ih]
   .have e1:(x::W).filter (fun x=>decide (x.ah < t))=[]:=List.filter_eq_nil_iff.2 fun y hy h=>by
     have h:=of_decide_eq_true h;rcases List.mem_cons.1 hy with h' | h'
     .rw[h']at h;omega
     .have:=h1 y h';omega
    have e2:(x::W).filter (fun x=>decide (t < x.ah))=x::W:=List.filter_eq_self.2 fun y hy=>decide_eq_true (by
     rcases List.mem_cons.1 hy with h' | h'
     .rw[h'];omega
     .have:=h1 y h';omega)
    rw[e1,e2];rfl
end Go.V
namespace Go.Proofs.YtpjbalhhlaofmaaGreat
open Go.V Go.V.Pk
section
variable {w:Wd} {Q:Nat->Prop}
def Vo(w w':Wd)(T:Nat->Option Nat)(m:bB)(M:Mm)(ps:List Rf)(W:List aA)(x:aA)(e:Int)(r2:Rf)(l2:Nat):Prop:=
 (e=2/\¬ qd x/\r2 = .z/\l2=0/\Ext No w w')∨(e=0/\qd x/\∃cU T' m' M',NW w w' T T' m m' M M' 0 1 (uN (pI x.ah (some x) W)) ps cU r2 l2)
theorem Ii{T:Nat->Option Nat}{m:bB}{M:Mm}{lev:Nat}{r:Rf}{W:List aA}{ps:List Rf}{v:bh}{x:aA}{K:KRt}(R:aY w.heap T m M)(hT:dB M.f 0 r lev (uN W) ps)(dn:lev<=30)(hs:Sub ps M)(hn:M.au.length<=900000)(hW:fE W)(sr:bV Q w.heap v x)(rg:AY x)(hl:x.held.length<=1000000000000)
  (k:∀e (r2:Rf) (l2:Nat) w',Vo w w' T m M ps W x e r2 l2->K r2.p r2.c r2.g l2 e w'):fI (eW m) r.p r.c r.g lev v.ah v.aI v.mark v.root.p v.root.c v.root.g v.lev v.aw v.held w K:=
 pF R hT dn hs hn hW sr rg hl (fun w' h x=>k 2 .z 0 w' (.inl ⟨rfl,h,rfl,rfl,x⟩)) fun r' kI cU T' m' M' w' h A=>k 0 r' kI w' (.inr ⟨rfl,h,cU,T',m',M',A⟩)
set_option maxHeartbeats 8000000 in
theorem DO{l:Sl}{L:List Ig}{K:Bool->Pw}(hL0:KW Q w.heap l L)(k:∀w',Ext No w w'->K true w'):jF l w K:=by
 have hL:KW (fun q=>Q q/\q < w.heap.size) w.heap l L:=⟨hL0.rd,fun e he=>(hL0.el e he).lt,hL0.Z8⟩
 apply xg;have ll:=hL.len;refine If.dec (fun _=>Oe k) fun agY=>zW (by omega) fun T0 m0 w2 R2 hT0 x2=>ag.mk fun b w3 n3=>?_
 have eb:=n3.at_;have zb:=n3.size;have y2:=x2.size
 obtain⟨I,hI⟩ : ∃I:Nat->Sl->Int->Pw,I=fun q wv (i:Int) w'=>∃(j:Nat) (T:Nat->Option Nat) (m:bB) (M:Mm) (r:Rf) (lv:Nat) (ps:List Rf) (W:List aA),i=j/\j<=L.length/\q=L.length - j/\MR w w' m0.bm T m M r lv ps W/\
   bS (fun q=>T q=none/\q≠b) w'.heap wv W/\W.length<=j/\M.aE<=j+1/\M.au.length<=60 * j/\w'.heap[b]? = some (.cells (Gs r lv).toArray 30 (0,0))/\T b=none:=⟨_,rfl⟩
 refine⟨I,by
  rw[hI]
  exact⟨L.length,0,T0,m0,_,.z,0,[],[],rfl,by omega,by omega,⟨R2.no n3.ext,rfl,hT0,.inl ⟨rfl,rfl,rfl,rfl⟩,by omega,fE.nil,List.Perm.refl _,x2.no n3.ext⟩,bS.nil _ _,by simp,by decide,by simp,n3.get,R2.iA (by omega)⟩,?_⟩
 intro _ q0 wv i w4 hi;rw[hI]at hi;obtain⟨j,T,m,M,r,lv,ps,W,rfl,hj,rfl,C4,sw4,hWl,hcm,xW,TF,tb⟩:=hi;refine If.dec (fun h=>?_) fun h=>Oe fun Ql x43=>k Ql (C4.ext.no x43)
 have fh:j < L.length:=by omega
 have XX:L[j]∈L:=List.getElem_mem fh;have nT:∀{q},T q=none->¬ Ts T q:=fun h h'=>h' h
 have y4:=C4.ext.size;have bl4:=blt TF;have hL4:=hL.no C4.ext;have hB:=hL.Z8 _ XX
 -- the acR cells,acS it is looked at
 have el:∀{w':Wd}{K':Addr->Prop},Ext No w w'->(∀bb o,(∀i v,(Ig.cs L[j])[i]? = some v->Cell w' ⟨bb,o+i,none⟩ v)->K' ⟨bb,o,none⟩)->Ix l.a l.len (j:Nat) 10 K':=fun x' kk=>
  Ix.elem (hL.rd.no x') (Of L) (by decide) (by omega) (by omega) fun bb o hi _ hc=>kk bb o hc
 have ev0:∀i v,L[j].v.cells[i]? = some v->(Ig.cs L[j])[i]? = some v:=fun i v h=>by
  unfold Ig.cs;rw[List.getElem?_append_left (by
   rcases Nat.lt_or_ge i L[j].v.cells.length with h' | h'
   .exact h'
   .rw[List.getElem?_eq_none h']at h;cases h)];exact h
 have Y8:∀{w':Wd},Ext No w w'->bV (fun q=>Q q/\q < w.heap.size) w'.heap L[j].v L[j].x:=fun x'=>(hL.el _ XX).no x'
 have ed:(Ig.cs L[j])[9]? = some (.bool L[j].d):=rfl;generalize hE:L[j]=E at *;obtain⟨v,x,d⟩:=E;simp only at hB ev0 Y8 ed;refine el C4.ext fun bb o hc=>?_
 have xX:∀i y,v.cells[i]? = some y->Cell w4 ⟨bb,o+i,none⟩ y:=fun i y h=>hc i y (ev0 i y h)
 refine⟨v.ah,xX 0 _ rfl,v.aI,xX 1 _ rfl,v.mark,xX 2 _ rfl,v.root.p,xX 3 _ rfl,v.root.c,xX 4 _ rfl,v.root.g,xX 5 _ rfl,v.lev,xX 6 _ rfl,v.aw,xX 7 _ rfl,v.held,xX 8 _ rfl,bA (vs:=v.cells) rfl rfl v.one fun b1 w6 wj gE z6 x6=>?_⟩;have C6:=C4.no x6;refine⟨v.ah,Cell.ai wj rfl,v.aI,Cell.ai wj rfl,v.mark,Cell.ai wj rfl,v.root.p,Cell.ai wj rfl,v.root.c,Cell.ai wj rfl,v.root.g,Cell.ai wj rfl,v.lev,Cell.ai wj rfl,v.aw,Cell.ai wj rfl,v.held,Cell.ai wj rfl,MA (Y8 C6.ext) hB.mark hB.held hB.wr fun t7 w7 h7 x7=>If.mk (fun _=>?_) fun Yh=>?_⟩
 .have wC:=x6.no x7;exact Ar.i64 (by omega) ⟨L.length - (j+1),by omega,by rw[hI];exact⟨j+1,T,m,M,r,lv,ps,W,by omega,by omega,rfl,C4.no wC,sw4.no wC,by omega,by omega,by omega,ad TF wC,tb⟩⟩
 have sm:=h7 Yh;have UH:x.held.length<=1000000000000:=by have:=sm.2.1;omega
 have C7:=C6.no x7;have y6:=x6.size;have y7:=x7.size;have So:(some ⟨m0.bm,0,none⟩ : Option Addr)=some ⟨m.bm,0,none⟩:=by rw[C4.bm]
 refine Ar.i64 (by omega) (Ar.u64 (by omega) ?_);rw[So];refine EJ C7.mem (by omega) (by omega) (fun h=>by omega) fun w8 _ R8 x8=>If.bne (fun h=>(h rfl).elim) fun _=>?_
 have y8:=x8.size
 have C8:MR w w8 m0.bm T m (zu M ((j:Int)+2) 1) r lv ps W:=⟨R8,C7.bm,C7.tn,C7.tree,C7.lvl,C7.t_,C7.pe,C7.ext.trans x8 fun q hq h=>h (C7.tn q hq)⟩
 have wC:=x6.no x7;have sw8:bS (fun q=>(T q=none/\q≠b)/\q < w8.heap.size) w8.heap wv W:=((sw4.no wC).ext x8 fun q hq=>nT hq.1).lt;have FQ:T b1=none:=C4.mem.iA (by omega);have vN:=af (ad wj x7) x8 (nT FQ);have VT:=af (ad TF wC) x8 (nT tb);refine⟨_,Cell.ai VT rfl,_,Cell.ai VT rfl,_,Cell.ai VT rfl,_,Cell.ai VT rfl,bA (vs:=Gs r lv) rfl rfl (by simp[aN]) fun b2 dA Vp lO LS dR=>?_⟩;have x_:=C8.no dR;have sO:=ad vN dR;have Vq:=ad VT dR;have Y9:=sw8.no dR;have y10:=dR.size;have TM:T b2=none:=C8.mem.iA (by omega);have tn:=hB.sI.ah;have jr:Sub ps (zu M ((j:Int)+2) 1):=fun q=>Nat.le_of_eq (List.perm_iff_count.1 C8.pe q)
 have Th:(zu M ((j:Int)+2) 1).au.length<=900000:=by show M.au.length<=_;omega
 have sup:∀{q},dA.heap.size<=q->T q=none:=fun hq=>x_.mem.iA hq
 have agZ:=blt sO;have blb:=blt Vq;have ag0:=blt Vp
 -- a change of the tree,and the new root laid ag1 b2
 have mk:∀{dg eG cX:Wd}{T':Nat->Option Nat}{m':bB}{M':Mm}{r':Rf}{kI:Nat}{cU:List Rf}{W':List aA},Ext No dA dg->NW dg eG T T' m m' (zu M ((j:Int)+2) 1) M' 0 1 (uN W') ps cU r' kI->fE W'->Ext (·=b2) eG cX->
   MR w cX m0.bm T' m' M' r' kI cU W'/\M'.aE=j+2/\M'.au.length<=60 * (j+1)/\T' b=none/\T' b1=none/\T' b2=none:=fun {dg eG cX T' m' M' r' kI cU W'} fY A hW' eE=>by
  have ZD:=fY.size;have h2:T' b2=none:=(A.tg b2 (by omega)).trans TM;have Mi:Ext No w eG:=(x_.ext.no fY).trans A.ext fun q hq h=>h (x_.tn q hq)
  refine⟨⟨A.mem.ext eE fun q hq=>by rw[hq];exact h2,A.bm.trans x_.bm,fun q hq=>(A.tg q (by omega)).trans (x_.tn q hq),A.tree,A.lv,hW',?_,Mi.trans eE fun q hq h=>by omega⟩,A.FP.aE,?_,(A.tg b (by omega)).trans tb,(A.tg b1 (by omega)).trans FQ,h2⟩
  .refine List.perm_iff_count.2 fun q=>?_
   have h1:=A.FP.Iu q;have h3:=List.perm_iff_count.1 C8.pe q;omega
  .have h1:M'.au.length<=M.au.length+60 * 1:=A.FP.len;omega
 refine⟨fun wv1 ev w'=>PlM w w' m0.bm b b1 b2 j v wv1 ev,?_,?_⟩
 .refine el x_.ext fun bb o hc=>⟨_,hc 9 _ ed,If.mk (fun hd=>?_) fun hd=>?_⟩
  .have Qb:v.ah=x.ah:=(Y8 (Ext.refl _ _)).ah;refine⟨_,Cell.ai sO rfl,?_⟩;rw[Qb]
   have swT:∀{cX c_ dU:Wd},Ext No dA cX->Ext (Ts T) cX c_->Ext (·=b2) c_ dU->bS (fun q=>(T q=none/\q≠b)/\q < w8.heap.size) dU.heap wv W:=fun eE gH pH=>
    ((Y9.no eE).ext gH fun q hq=>nT hq.1.1).ext pH fun q hq h=>by have:=hq.2;omega
   refine rH Y9 x_.t_.sort (by omega) (fun v' x' dg hf sv' fY=>?_) fun dg hf fY=>?_
   .refine bA (vs:=v'.cells) rfl rfl v'.one fun b3 cX Sx xB K2 eE=>?_
    have mi:=fY.no eE;have Y_:=ad sO mi;have DP:=ad Vq mi;refine⟨_,Cell.ai DP rfl,_,Cell.ai DP rfl,_,Cell.ai DP rfl,_,Cell.ai DP rfl,_,Cell.ai Y_ rfl,?_⟩;rw[Qb];refine qn (x_.mem.no mi) x_.tree x_.lvl jr Th x_.t_ tn (fun w' h _=>by rw[hf]at h;cases h) fun r2 l2 KL T2 m2 M2 c_ _ A=>?_
    refine cK (af (ad Vp mi) A.ext (nT TM)) rfl rfl (by simp[aN]) fun dU HC pH Xw=>?_
    have iT:Ext (·=b2) c_ dU:=pH;have hW2:fE (pI x.ah none W):=x_.t_.op fun y hy=>by cases hy
    obtain⟨Za,cc,pp,t1,t2,t3⟩:=mk mi A hW2 iT;have ZC:=mi.size;have yA:=A.ext.size;have HW:=af (af (ad sO mi) A.ext (nT FQ)) iT (by omega);have Zb:=af (af DP A.ext (nT tb)) iT (by omega);refine If.not (If.mk (fun _=>If.not (If.yes ⟨_,Cell.ai HW rfl,?_⟩)) fun h=>absurd h (by decide));rw[Qb];refine mL (swT mi A.ext iT) x_.t_.sort (by omega) fun s' oS sr' qX=>?_
    refine⟨T2,m2,M2,r2,l2,KL,pI x.ah none W,r,lv,r2,l2,Za.no qX,sr'.mono fun q hq=>?_,by have:=H_ (W:=W) (t:=x.ah) (o:=none);omega,cc,pp,ad HW qX,t2,ad Zb qX,t1,ad HC qX,fun _=>⟨rfl,rfl⟩,fun h=>(h rfl).elim⟩;rcases hq with hq | hq
    .exact⟨(A.tg q (by have:=hq.2;omega)).trans hq.1.1,hq.1.2⟩
    .exact⟨Za.mem.iA hq,by omega⟩
   .refine bA (vs:=bt.cells) rfl rfl bt.one fun b3 cX Sx xB K2 eE=>?_
    have mi:=fY.no eE;have Y_:=ad sO mi;have DP:=ad Vq mi;refine⟨_,Cell.ai DP rfl,_,Cell.ai DP rfl,_,Cell.ai DP rfl,_,Cell.ai DP rfl,_,Cell.ai Y_ rfl,?_⟩;rw[Qb];refine qn (x_.mem.no mi) x_.tree x_.lvl jr Th x_.t_ tn (fun c_ _ gH=>?_) fun r2 l2 KL T2 m2 M2 c_ h _=>(h hf).elim
    refine cK (ad (ad Vp mi) gH) rfl rfl (by simp[aN]) fun dU HC pH Xw=>?_
    have iT:Ext (·=b2) c_ dU:=pH;have ZC:=mi.size;have y14:=gH.size;have HW:=af (ad (ad sO mi) gH) iT (by omega);have Zb:=af (ad DP gH) iT (by omega);refine If.not (If.mk (fun _=>If.not (If.no (If.bne (fun h=>(h rfl).elim) fun _=>⟨_,Cell.ai HC rfl,_,Cell.ai HC rfl,_,Cell.ai HC rfl,_,Cell.ai HC rfl,If.not (If.mk (fun _=>⟨_,Cell.ai HW rfl,?_⟩) fun h=>absurd h (by decide))⟩))) fun h=>absurd h (by decide));rw[Qb];refine mL (swT mi gH.aG iT) x_.t_.sort (by omega) fun s' oS sr' qX=>?_
    have Za:MR w dU m0.bm T m (zu M ((j:Int)+2) 1) r lv ps W:=((x_.no mi).no gH).step iT (fun q hq=>by rw[hq];exact TM) fun q hq=>by omega
    rw[KX x_.t_.sort hf]at sr';refine⟨T,m,_,r,lv,ps,W,r,lv,.z,0,Za.no qX,sr'.mono fun q hq=>?_,by omega,rfl,by show M.au.length<=_;omega,ad HW qX,FQ,ad Zb qX,tb,ad HC qX,fun h=>absurd h (by decide),fun _=>⟨rfl,rfl⟩⟩;rcases hq with hq | hq
    .exact hq.1
    .exact⟨Za.mem.iA hq,by omega⟩
  .refine⟨v.ah,Cell.ai sO rfl,v.aI,Cell.ai sO rfl,v.mark,Cell.ai sO rfl,v.root.p,Cell.ai sO rfl,v.root.c,Cell.ai sO rfl,v.root.g,Cell.ai sO rfl,v.lev,Cell.ai sO rfl,v.aw,Cell.ai sO rfl,v.held,Cell.ai sO rfl,FN (Y8 x_.ext) sm fun u vK ru om Bh=>bA (vs:=u.cells) rfl rfl u.one fun b4 pG EO Io z20 uH=>?_⟩;have DQ:=Bh.no uH;have y18:=Bh.size;have y20:=uH.size;have Ti:=ad Vq DQ;have afx:=ad sO DQ;have afy:=ad Vp DQ;have tb4:T b4=none:=sup (by omega);have mlt:∀{q},u.mark.aq=some q->dA.heap.size<=q/\q < vK.heap.size:=fun h=>om.lt h
   refine⟨_,Cell.ai Ti rfl,_,Cell.ai Ti rfl,_,Cell.ai Ti rfl,_,Cell.ai Ti rfl,u.ah,Cell.ai EO rfl,u.aI,Cell.ai EO rfl,u.mark,Cell.ai EO rfl,u.root.p,Cell.ai EO rfl,u.root.c,Cell.ai EO rfl,u.root.g,Cell.ai EO rfl,u.lev,Cell.ai EO rfl,u.aw,Cell.ai EO rfl,u.held,Cell.ai EO rfl,?_⟩;refine Ii (x_.mem.no DQ) x_.tree x_.lvl jr Th x_.t_ (ru.no uH) hB.sI UH fun e r2 l2 xD wr=>?_
   have Tk:Ext (Ts T) pG xD:=by
    rcases wr with⟨_,_,_,_,x'⟩ | ⟨_,_,_,_,_,_,A⟩
    .exact x'.aG
    .exact A.ext
   have y21:=Tk.size;refine cK (af afy Tk (nT TM)) rfl rfl (by simp[aN]) fun py afz Mo z22=>?_
   have PL:Ext (·=b2) xD py:=Mo
   have pw:∃(T':Nat->Option Nat) (m':bB) (M':Mm) (rc:Rf) (Ih:Nat) (cU:List Rf) (W2:List aA),MR w py m0.bm T' m' M' rc Ih cU W2/\M'.aE=j+2/\M'.au.length<=60 * (j+1)/\(∀q,q < pG.heap.size->T' q=T q)/\((e=0/\qd x/\rc=r2/\Ih=l2/\W2=pI x.ah (some x) W)∨(e=2/\¬ qd x/\r2 = .z/\l2=0/\rc=r/\Ih=lv/\W2=W)):=by
    rcases wr with⟨he,hm,h1,h2,x'⟩ | ⟨he,hm,KL,T2,m2,M2,A⟩
    .exact⟨T,m,_,r,lv,ps,W,((x_.no DQ).no x').step PL (fun q hq=>by rw[hq];exact TM) fun q hq=>by omega,rfl,by show M.au.length<=_;omega,fun _ _=>rfl,.inr ⟨he,hm,h1,h2,rfl,rfl,rfl⟩⟩
    .have hW2:fE (pI x.ah (some x) W):=x_.t_.op fun y hy=>by cases hy;exact⟨rfl,hm,hB.sI⟩
     obtain⟨Za,cc,pp,_,_,_⟩:=mk DQ A hW2 PL;exact⟨T2,m2,M2,r2,l2,KL,_,Za,cc,pp,fun q hq=>A.tg q hq,.inl ⟨he,hm,rfl,rfl,rfl⟩⟩
   obtain⟨T',m',M',rc,Ih,cU,W2,C22,cc,pp,tg,acT⟩:=pw;have Gt:Ext (fun q=>Ts T q∨q=b2) pG py:=(Tk.mono fun q _ h=> .inl h).trans PL fun q _ h=> .inr h
   have nS:∀{q},T q=none->q≠b2->¬ (Ts T q∨q=b2):=fun h1 h2 h=>h.elim (nT h1) h2
   have y22:=Gt.size;have afA:=af afx Gt (nS FQ (by omega));have afB:=af Ti Gt (nS tb (by omega));have afC:=af EO Gt (nS tb4 (by omega));have afD:aU py.heap dA.heap.size u.mark x.mark:=(om.no uH).ext Gt fun q hq=>nS (sup (mlt hq).1) (by have:=(mlt hq).1;omega)
   have afE:bS (fun q=>(T q=none/\q≠b)/\q < w8.heap.size) py.heap wv W:=(Y9.no DQ).ext Gt fun q hq=>nS hq.1.1 (by have:=hq.2;omega)
   have mn:∀{q},u.mark.aq=some q->T' q=none:=fun hq=>(tg _ (by have:=(mlt hq).2;omega)).trans (sup (mlt hq).1)
   refine⟨fun n kk w'=>∃(a:Nat) (ml:List Int),kk=a/\a<=x.mark.length/\n=x.mark.length - a/\ml.length=x.mark.length/\aU w'.heap dA.heap.size u.mark ml/\Ext (fun q=>u.mark.aq=some q) py w',⟨_,0,x.mark,rfl,Nat.zero_le _,rfl,rfl,afD,Ext.refl _ _⟩,?_⟩;rintro _ n0 _ xY ⟨a,ml,rfl,ha,rfl,hml,o23,mJ⟩;have acU:=af afC mJ fun(h:u.mark.aq=some b4)=>by have:=(mlt h).2;omega
   have ul:=aU.len o23;have sm1:=sm.1;refine⟨u.mark,Cell.ai acU rfl,If.dec (fun h=>?_) fun h=>?_⟩
   .refine⟨u.mark,Cell.ai acU rfl,Ix.int o23.rd (by omega) h fun _ _ _ hc=>⟨_,hc,Ar.T3 ?_⟩⟩;refine aF.own o23 (by omega) h rfl fun CH o24 sf _=>Ar.i64 (by omega) ⟨_,by omega,a+1,ml.set ((a:Nat):Int).toNat ((ml.getD ((a:Nat):Int).toNat 0+1) % 256),by omega,by omega,rfl,by rw[List.length_set];exact hml,?_,mJ.trans sf fun _ _ h=>h⟩
    rw[<- List.map_set]at o24;exact o24
   .have nm:∀{q},q < dA.heap.size->¬ u.mark.aq=some q:=fun hq h=>by have:=(mlt h).1;omega
    have C23:=C22.step mJ (fun q hq=>mn hq) fun q hq=>by have:=(mlt hq).1;omega
    have By:=af afA mJ (nm (by omega));have acV:=af afB mJ (nm (by omega));have Zc:=af afz mJ (nm (by omega));have afF:=afE.ext mJ fun q hq=>nm (by have:=hq.2;omega)
    have y23:=mJ.size;have acW:=Y8 C23.ext;refine⟨fun w'=>Ext No xY w',⟨v.ah,Cell.ai By rfl,v.aI,Cell.ai By rfl,v.mark,Cell.ai By rfl,v.root.p,Cell.ai By rfl,v.root.c,Cell.ai By rfl,v.root.g,Cell.ai By rfl,v.lev,Cell.ai By rfl,v.aw,Cell.ai By rfl,v.held,Cell.ai By rfl,tE acW hB.sI.held UH fun t25 fM TC vM=>?_⟩,?_⟩
    .have sQ:=ad By vM;have acX:=acW.no vM;rcases acT with⟨rfl,hm,_,_,_⟩ | ⟨rfl,hm,rfl,rfl,_,_,_⟩
     .rw[TC.2 hm];refine If.not (If.yes ⟨v.ah,Cell.ai sQ rfl,v.aI,Cell.ai sQ rfl,v.mark,Cell.ai sQ rfl,v.root.p,Cell.ai sQ rfl,v.root.c,Cell.ai sQ rfl,v.root.g,Cell.ai sQ rfl,v.lev,Cell.ai sQ rfl,v.aw,Cell.ai sQ rfl,v.held,Cell.ai sQ rfl,tE acX hB.sI.held UH fun t26 Fs h26 uX=>If.mk (fun _=>If.bne (fun h=>(h rfl).elim) fun _=>vM.no uX) fun _=>vM.no uX⟩)
     .have:t25=false:=by
       cases t25 with
       | false=>rfl
       | true=>exact(hm (TC.1 rfl)).elim
      rw[this];have Vr:=ad Zc vM;refine If.not (If.no (If.bne (fun h=>(h rfl).elim) fun _=>⟨_,Cell.ai Vr rfl,_,Cell.ai Vr rfl,_,Cell.ai Vr rfl,_,Cell.ai Vr rfl,If.not (If.mk (fun _=>⟨v.ah,Cell.ai sQ rfl,v.aI,Cell.ai sQ rfl,v.mark,Cell.ai sQ rfl,v.root.p,Cell.ai sQ rfl,v.root.c,Cell.ai sQ rfl,v.root.g,Cell.ai sQ rfl,v.lev,Cell.ai sQ rfl,v.aw,Cell.ai sQ rfl,v.held,Cell.ai sQ rfl,tE acX hB.sI.held UH fun t26 Fs h26 uX=>If.mk (fun ht=>(hm (h26.1 ht)).elim) fun _=>vM.no uX⟩) fun h=>absurd h (by decide))⟩))
    rintro _ Bc Fy;have EP:=ad By Fy;have C28:=C23.no Fy;have afG:=Y8 C28.ext;have acY:=afF.no Fy;have tgb:∀q,q < dA.heap.size->T' q=T q:=fun q hq=>tg q (by omega)
    rcases acT with⟨rfl,hm,rfl,rfl,rfl⟩ | ⟨rfl,hm,rfl,rfl,rfl,rfl,rfl⟩
    .refine If.beq (fun _=>⟨v.ah,Cell.ai EP rfl,v.aI,Cell.ai EP rfl,v.mark,Cell.ai EP rfl,v.root.p,Cell.ai EP rfl,v.root.c,Cell.ai EP rfl,v.root.g,Cell.ai EP rfl,v.lev,Cell.ai EP rfl,v.aw,Cell.ai EP rfl,v.held,Cell.ai EP rfl,FN afG sm fun u2 Bd ru2 _ x29=>?_⟩) fun h=>(h rfl).elim
     have y28:=Fy.size;have y29:=x29.size
     have afH:bS (fun q=>T' q=none/\q≠b) Bd.heap wv W:=(acY.no x29).mono fun q hq=>⟨(tgb q (by have:=hq.2;omega)).trans hq.1.1,hq.1.2⟩
     have afI:bV (fun q=>T' q=none/\q≠b) Bd.heap u2 x:=ru2.mono fun q (hq:Bc.heap.size<=q)=>⟨C28.mem.iA hq,by omega⟩
     refine Ie afH afI x_.t_.sort (by omega) fun s' Ba sr' x30=>?_
     have Og:=(Fy.no x29).no x30;refine⟨T',m',M',rc,Ih,cU,_,r,lv,rc,Ih,C23.no Og,sr'.mono fun q hq=>?_,by have:=H_ (W:=W) (t:=x.ah) (o:=some x);omega,cc,pp,ad By Og,(tgb b1 (by omega)).trans FQ,ad acV Og,(tgb b (by omega)).trans tb,ad Zc Og,fun _=>⟨rfl,rfl⟩,fun h=>(h rfl).elim⟩;rcases hq with hq | hq
     .exact hq
     .exact⟨(C28.no x29).mem.iA hq,by omega⟩
    .refine If.beq (fun h=>absurd h (by decide)) fun _=>?_
     exact⟨T',m',M',rc,Ih,cU,W2,rc,Ih,.z,0,C28,acY.mono fun q hq=>⟨(tgb q (by have:=hq.2;omega)).trans hq.1.1,hq.1.2⟩,by omega,cc,pp,EP,(tgb b1 (by omega)).trans FQ,ad acV Fy,(tgb b (by omega)).trans tb,ad Zc Fy,fun h=>absurd h (by decide),fun _=>⟨rfl,rfl⟩⟩
 .rintro _ wv1 ev Tv ⟨T',m',M',rc,Ih,cU,W',rb,lb,r2,l2,C31,acZ,ag2,af6,af7,ac0,t131,ac1,Zd,Vs,afJ,afK⟩;have Qb:v.ah=x.ah:=(Y8 (Ext.refl _ _)).ah;have y31:=C31.ext.size;have nT':∀{q},T' q=none->¬ Ts T' q:=fun h h'=>h' h
  refine⟨fun w'=>MR w w' m0.bm T' m' M' rc Ih cU W'/\bS (fun q=>T' q=none/\q≠b) w'.heap wv1 W'/\w'.heap[b1]? = some (.cells v.cells.toArray 33 (0,0))/\w'.heap[b]? = some (.cells (Gs rc Ih).toArray 30 (0,0)),?_,?_⟩
  .refine If.beq (fun he=>?_) fun he=>?_
   .obtain⟨rfl,rfl⟩:=afJ he;refine⟨_,Cell.ai Vs rfl,_,Cell.ai Vs rfl,_,Cell.ai Vs rfl,_,Cell.ai Vs rfl,cK ac1 rfl rfl (by simp[aN]) fun OG g32 R_ _=>?_⟩;have Ze:Ext (·=b) Tv OG:=R_;exact⟨C31.step Ze (fun q hq=>by rw[hq];exact Zd) fun q hq=>by omega,acZ.ext Ze fun q hq h=>hq.2 h,af ac0 Ze (by omega),g32⟩
   .obtain⟨rfl,rfl⟩:=afK he;exact⟨C31,acZ,ac0,ac1⟩
  rintro _ w33 ⟨Qu,afL,afM,afN⟩;have Al:Sub cU M':=fun q=>Nat.le_of_eq (List.perm_iff_count.1 Qu.pe q)
  have WO:(some ⟨m.bm,0,none⟩ : Option Addr)=some ⟨m'.bm,0,none⟩:=by rw[Qu.bm,C4.bm]
  refine⟨fun w'=>∃qT,MR w qT m0.bm T' m' (tY M') rc Ih cU W'/\bS (fun q=>T' q=none/\q≠b) qT.heap wv1 W'/\qT.heap[b1]? = some (.cells v.cells.toArray 33 (0,0))/\qT.heap[b]? = some (.cells (Gs rc Ih).toArray 30 (0,0))/\Ext No qT w',?_,?_⟩
  .rw[WO];refine EK Qu.mem fun qT R34 Bn=>If.bne (fun h=>(h rfl).elim) fun _=>?_
   have WQ:MR w qT m0.bm T' m' (tY M') rc Ih cU W':=⟨R34,Qu.bm,Qu.tn,Qu.tree.kp (iR.acu Qu.mem.Bl Al),Qu.lvl,Qu.t_,by rw[ML];exact Qu.pe,Qu.ext.trans Bn fun q hq h=>h (Qu.tn q hq)⟩
   have MS:=af afN Bn (nT' Zd);have Zf:=af afM Bn (nT' t131);have Vt:=afL.ext Bn fun q hq=>nT' hq.1
   refine⟨_,Cell.ai MS rfl,_,Cell.ai MS rfl,_,Cell.ai MS rfl,_,Cell.ai MS rfl,?_⟩
   refine Qe WQ.mem rfl WQ.tree WQ.lvl WQ.t_ (by omega) WQ.pe (by
    have h1:(tY M').au.length<=M'.au.length:=List.length_filter_le _ _
    omega) Vt fun Zy XC=>If.not (If.yes ⟨qT,WQ,Vt,Zf,MS,XC⟩)
  rintro _ Ma ⟨qT,WQ,Vt,Zf,MS,uK⟩;have Zg:=WQ.no uK;have Zh:=ad Zf uK;have Tl:=ad MS uK;have Zi:=Vt.no uK;have ag3:(tY M').au.length<=M'.au.length:=List.length_filter_le _ _
  have nxt:∀{w':Wd},Ext No Ma w'->∃m1,m1 < L.length - j/\I m1 wv1 ((j:Int)+1) w':=fun x'=>⟨L.length - (j+1),by omega,by rw[hI];exact⟨j+1,T',m',tY M',rc,Ih,cU,W',by omega,by omega,rfl,Zg.no x',Zi.no x',by omega,by show M'.aE<=_;omega,by omega,ad Tl x',Zd⟩⟩
  refine⟨_,Cell.ai Tl rfl,_,Cell.ai Tl rfl,_,Cell.ai Tl rfl,_,Cell.ai Tl rfl,_,Cell.ai Zh rfl,?_⟩;rw[Qb,WO];refine xT Zg.mem Zg.tree (by have:=Zg.lvl;omega) Zg.t_ tn (fun OH hf y_=>?_) fun v37 ag4 OH hf _ y_=>?_
  .refine bA (vs:=bt.cells) rfl rfl bt.one fun b5 yZ _ _ _ Md=>⟨_,Cell.ai (ad Zh (y_.no Md)) rfl,?_⟩
   rw[Qb];refine rH (Zi.no (y_.no Md)) Zg.t_.sort (by omega) (fun _ _ _ h _ _=>by rw[hf]at h;cases h) fun Rl _ x40=>?_
   refine bA (vs:=bt.cells) rfl rfl bt.one fun b6 uG _ _ _ Nv=>?_
   refine If.not (If.mk (fun _=>If.not (If.no (If.bne (fun h=>(h rfl).elim) fun _=>Ar.i64 (by omega) (nxt (((y_.no Md).no x40).no Nv))))) fun h=>absurd h (by decide))
  .refine bA (vs:=v37.cells) rfl rfl v37.one fun b5 yZ _ _ _ Md=>⟨_,Cell.ai (ad Zh (y_.no Md)) rfl,?_⟩
   rw[Qb];refine rH (Zi.no (y_.no Md)) Zg.t_.sort (by omega) (fun v40 _ Rl _ _ x40=>?_) fun _ h _=>by rw[hf]at h;cases h
   refine bA (vs:=v40.cells) rfl rfl v40.one fun b6 uG _ _ _ Nv=>?_
   refine If.not (If.mk (fun _=>If.not (If.yes (Ar.i64 (by omega) (nxt (((y_.no Md).no x40).no Nv))))) fun h=>absurd h (by decide))
end
end Go.Proofs.YtpjbalhhlaofmaaGreat
