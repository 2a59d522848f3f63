/- Texts for LRollPlays, part 13. -/
import Derived.Test.YtpjbalhhlaofmaaGreatQy12
set_option maxRecDepth 100000
namespace Go.V
structure kQ(h:Array Obj)(B:Nat->Prop)(s:Sl)(L:List (aL×aH)):Prop where
 own:aT h 0 151 9 s (L.flatMap aS)
 iw:∀p∈L,mG h p.1 p.2
 kb:∀p∈L,∀b,(p.1.k.aq=some b∨p.1.v.aq=some b)->B b/\b < h.size/\s.aq≠some b
 sb:∀b,s.aq=some b->B b
theorem kQ.nd{h:Array Obj}{B:Nat->Prop}{s:Sl}{L:List (aL×aH)}(o:kQ h B s L):oQ h s L:=⟨o.own.rd,o.iw⟩
theorem iP.q{h:Array Obj}{base:Nat}{B:Nat->Prop}{s:Sl}{L:List (aL×aH)}(o:iP h base s L)(hB:∀b,base<=b->b < h.size->B b):kQ h B s L:=
 ⟨o.own.mono (Nat.zero_le _),o.iw,fun p hp b hb=>by
  rcases hb with hb | hb
  .have:=o.kb p hp b hb;exact⟨hB b this.1 this.2.1,this.2⟩
  .have:=o.vb p hp b hb;exact⟨hB b this.1 this.2.1,this.2⟩,fun b hb=>hB b (o.own.lt hb).1 (o.own.lt hb).2⟩
theorem aT.base{h:Array Obj}{b0 base:Nat}{e:TypeId}{sz:Nat}{s:Sl}{cs:List Value}(o:aT h b0 e sz s cs)(hb:∀b,s.aq=some b->base<=b):aT h base e sz s cs:=by
 refine⟨o.len,?_,o.cells⟩;rcases o.is with h | ⟨b,rest,ha,_,r⟩
 .exact .inl h
 .exact .inr ⟨b,rest,ha,hb b (by simp[Sl.aq,ha]),r⟩
theorem kQ.o{h:Array Obj}{base:Nat}{s:Sl}{L:List (aL×aH)}(o:kQ h (fun b=>base<=b) s L):iP h base s L:=
 ⟨o.own.base o.sb,o.iw,fun p hp b hb=>o.kb p hp b (.inl hb),fun p hp b hb=>o.kb p hp b (.inr hb)⟩
theorem kQ.ext{S B:Nat->Prop}{w w':Wd}{s:Sl}{L:List (aL×aH)}(o:kQ w.heap B s L)(x:Ext S w w')(hS:∀b,B b->b < w.heap.size->¬ S b):kQ w'.heap B s L:=
 ⟨o.own.ext x fun b hb=>hS b (o.sb b hb) (o.own.lt hb).2,fun p hp=>(o.iw p hp).ext x (fun b h=>hS b (o.kb p hp b (.inl h)).1 (o.kb p hp b (.inl h)).2.1) (fun b h=>hS b (o.kb p hp b (.inr h)).1 (o.kb p hp b (.inr h)).2.1),
  fun p hp b h=>⟨(o.kb p hp b h).1,Nat.lt_of_lt_of_le (o.kb p hp b h).2.1 x.size,(o.kb p hp b h).2.2⟩,o.sb⟩
theorem kQ.no{B:Nat->Prop}{w w':Wd}{s:Sl}{L:List (aL×aH)}(o:kQ w.heap B s L)(x:Ext No w w'):kQ w'.heap B s L:=o.ext x fun _ _ _ h=>h
theorem kQ.mono{h:Array Obj}{B B':Nat->Prop}{s:Sl}{L:List (aL×aH)}(o:kQ h B s L)(hB:∀b,b < h.size->B b->B' b):kQ h B' s L:=
 ⟨o.own,o.iw,fun p hp b hb=>⟨hB b (o.kb p hp b hb).2.1 (o.kb p hp b hb).1,(o.kb p hp b hb).2⟩,fun b hb=>hB b (o.own.lt hb).2 (o.sb b hb)⟩
def Hy(t:Sl)(key:List Int)(p:aL×aH):aL×aH:=({ p.1 with k:=t },{ p.2 with key:=key })
theorem kQ.key{B:Nat->Prop}{w:Wd}{s t:Sl}{L:List (aL×aH)}{i:Int}{key:List Int}{K:Pw}(o:kQ w.heap B s L)(h0:0<=i)(hi:i.toNat < L.length)(ht:Rd w.heap t 1 (key.map (Value.int .u8)))(h8:B8 key)(tb:∀b,t.aq=some b->B b/\b < w.heap.size/\s.aq≠some b)
  (k:∀w',kQ w'.heap B s (L.set i.toNat (Hy t key L[i.toNat]))->Ext (fun b=>s.aq=some b) w w'->w'.heap.size=w.heap.size->K w'):Ix s.a s.len i 9 fun a=>aF w a (.slice t.a t.len t.cap) K:=by
 have hlen:=o.nd.len;have K0:=aK (bX L);have bC:L.flatMap aS≠[]:=by intro e;rw[e]at K0;simp at K0;omega
 obtain⟨b,rest,ha,_,hb,hc,jT⟩:=o.own.place bC;refine⟨_,ha,h0,by omega,?_⟩;rw[ay rfl];simp only[Nat.zero_add];have hle:i.toNat * 9+9<=(L.flatMap aS).length:=by rw[K0];omega
 refine aF.mk hb (by simp only[List.length_append];omega) rfl fun w' hw=>?_
 have LO:gI w b (.cells (setL (L.flatMap aS++rest) (i.toNat * 9) [.slice t.a t.len t.cap]).toArray 151 (0,0)) w':=hw;obtain⟨a1,a2,a3⟩:=o.own.upd ha (Nat.zero_le b) hb hc jT LO (by simp[aN]) (by show i.toNat * 9+1<=_;omega)
 have e1:setL (L.flatMap aS) (i.toNat * 9) [.slice t.a t.len t.cap]=(L.set i.toNat (Hy t key L[i.toNat])).flatMap aS:=by
  have:=xo (f:=aS) (n:=9) (l:=L) (i:=i.toNat) (o:=0) (vs:=[.slice t.a t.len t.cap]) (y:=Hy t key L[i.toNat]) (bX L) hi (by simp) rfl;simpa using this
 rw[e1]at a1;refine k w' ⟨a1,fun p hp=>?_,fun p hp q hq=>?_,o.sb⟩ a2 a3
 .rcases List.mem_or_eq_of_mem_set hp with h | h
  .exact(o.iw p h).ext a2 (fun q hq h2=>(o.kb p h q (.inl hq)).2.2 h2) (fun q hq h2=>(o.kb p h q (.inr hq)).2.2 h2)
  .subst h;have er:=(o.iw _ (List.getElem_mem hi)).ext a2 (fun q hq h2=>(o.kb _ (List.getElem_mem hi) q (.inl hq)).2.2 h2) (fun q hq h2=>(o.kb _ (List.getElem_mem hi) q (.inr hq)).2.2 h2);exact⟨ht.ext a2 fun a q QT hq h2=>(tb q (by simp[Sl.aq,QT,hq])).2.2 h2,er.v,er.n,er.ch,er.cd,h8,er.v8,er.n64,er.Ue,er.Ug⟩
 .rw[a3];rcases List.mem_or_eq_of_mem_set hp with h | h
  .exact o.kb p h q hq
  .subst h;rcases hq with hq | hq
   .exact tb q hq
   .exact o.kb _ (List.getElem_mem hi) q (.inr hq)
end Go.V
namespace Go.Proofs.YtpjbalhhlaofmaaGreat
open Go.V
section
variable {w:Wd}
abbrev sg(h:Array Obj)(b:Nat)(k v:Int)(s:Sl):Prop:=h[b]? = some (.cells [.int .u8 k,.int .u8 v,.slice s.a s.len s.cap].toArray 142 (0,0))
theorem oC{b:Nat}{k v:Int}{s:Sl}{K:Int->Int->Sl->Prop}(hb:sg w.heap b k v s)(kk:K k v s) :
  ∃c:Int,Cell w (Addr.mk b 0 none) (.int .u8 c)/\∃lk:Int,Cell w ((Addr.mk b 0 none).add 1) (.int .u8 lk)/\∃jC:Sl,Cell w ((Addr.mk b 0 none).add 2) (.slice jC.a jC.len jC.cap)/\K c lk jC:=
 ⟨_,Cell.ai hb rfl,_,Cell.ai hb rfl,s,Cell.ai hb rfl,kk⟩
theorem hd3{Q:Nat->Prop}{b:Nat}{k v:Int}{s:Sl}{K:Int->Int->Sl->Prop}(hb:sg w.heap b k v s)(hq:¬ Q b)(kk:K k v s) :
  ∃c:Int,ae (Ext Q w) (Addr.mk b 0 none) (.int .u8 c)/\∃lk:Int,ae (Ext Q w) ((Addr.mk b 0 none).add 1) (.int .u8 lk)/\∃jC:Sl,ae (Ext Q w) ((Addr.mk b 0 none).add 2) (.slice jC.a jC.len jC.cap)/\K c lk jC:=
 ⟨_,ae.dQ (Cell.ai hb rfl) hq,_,ae.dQ (Cell.ai hb rfl) hq,s,ae.dQ (Cell.ai hb rfl) hq,kk⟩
theorem vU{b:Nat}{k v:Int}{s:Sl}{zs:List Value}{K:Pw}(hb:w.heap[b]? = some (.cells zs.toArray 142 (0,0)))(hz:zs.length=3)(kk:∀w',sg w'.heap b k v s->Ext (·=b) w w'->w'.heap.size=w.heap.size->K w') :
  List.length (α:=Value) [.int .u8 k,.int .u8 v,.slice s.a s.len s.cap]=3/\jB w (Addr.mk b 0 none) [.int .u8 k,.int .u8 v,.slice s.a s.len s.cap] K:=cK hb rfl hz (by simp[aN]) kk
theorem XB{b1 b2:Nat}{k1 v1 k2 v2:Int}{s1 s2:Sl}{K:Int->Int->Sl->Int->Int->Sl->Pw}(h1:sg w.heap b1 k1 v1 s1)(h2:sg w.heap b2 k2 v2 s2)(bC:b1≠b2)(kk:∀w',Ext (fun i=>i=b1∨i=b2) w w'->w'.heap.size=w.heap.size->K k1 v1 s1 k2 v2 s2 w') :
  ∃S:Pw,S (aa w)/\
  ∃c:Int,ae S (Addr.mk b1 0 none) (.int .u8 c)/\∃lk:Int,ae S ((Addr.mk b1 0 none).add 1) (.int .u8 lk)/\∃jC:Sl,ae S ((Addr.mk b1 0 none).add 2) (.slice jC.a jC.len jC.cap)/\
  ∃r_:Int,ae S (Addr.mk b2 0 none) (.int .u8 r_)/\∃sd:Int,ae S ((Addr.mk b2 0 none).add 1) (.int .u8 sd)/\∃mq:Sl,ae S ((Addr.mk b2 0 none).add 2) (.slice mq.a mq.len mq.cap)/\
  List.length (α:=Value) [.int .u8 c,.int .u8 lk,.slice jC.a jC.len jC.cap]=3/\jB (aa w) (Addr.mk b1 0 none) [.int .u8 c,.int .u8 lk,.slice jC.a jC.len jC.cap] fun w1=>S w1/\
  List.length (α:=Value) [.int .u8 r_,.int .u8 sd,.slice mq.a mq.len mq.cap]=3/\jB w1 (Addr.mk b2 0 none) [.int .u8 r_,.int .u8 sd,.slice mq.a mq.len mq.cap] fun w2=>S w2/\
  ∃uF:Int,Cell w2 (Addr.mk b1 0 none) (.int .u8 uF)/\∃se:Int,Cell w2 ((Addr.mk b1 0 none).add 1) (.int .u8 se)/\∃ow:Sl,Cell w2 ((Addr.mk b1 0 none).add 2) (.slice ow.a ow.len ow.cap)/\
  ∃Rk:Int,Cell w2 (Addr.mk b2 0 none) (.int .u8 Rk)/\∃CJ:Int,Cell w2 ((Addr.mk b2 0 none).add 1) (.int .u8 CJ)/\∃vL:Sl,Cell w2 ((Addr.mk b2 0 none).add 2) (.slice vL.a vL.len vL.cap)/\K uF se ow Rk CJ vL w2:=by
 refine⟨fun w'=>sg w'.heap b1 k1 v1 s1/\sg w'.heap b2 k2 v2 s2,⟨h1,h2⟩,_,fun w' h=>Cell.ai h.1 rfl,_,fun w' h=>Cell.ai h.1 rfl,s1,fun w' h=>Cell.ai h.1 rfl,_,fun w' h=>Cell.ai h.2 rfl,_,fun w' h=>Cell.ai h.2 rfl,s2,fun w' h=>Cell.ai h.2 rfl,?_⟩
 refine vU (w:=aa w) h1 rfl fun w1 g1 x1 z1=>⟨⟨g1,af (w:=aa w) h2 x1 (Ne.symm bC)⟩,vU (af (w:=aa w) h2 x1 (Ne.symm bC)) rfl fun w2 g2 x2 z2=>⟨⟨af g1 x2 bC,g2⟩,oC (af g1 x2 bC) (oC g2 (kk w2 ?_ (z2.trans z1)))⟩⟩
 exact(x1.aj.mono fun _ _ h=> .inl h).trans x2 fun _ _ h=> .inr h
theorem CR{y:aL}{b:Nat}{w':Wd}(n:D_ w (.cells y.cs.toArray 151) b w'):aT w'.heap w.heap.size 151 9 ⟨some ⟨b,0,none⟩,1,1⟩ y.cs:=aT.new (n:=1) (sz:=9) n rfl (by intro v hv;unfold aL.cs at hv;simp only[List.mem_cons,List.not_mem_nil,or_false]at hv;rcases hv with h | h | h | h | h | h | h | h | h <;> subst h <;> rfl)
theorem jA(x:aL):∀v∈x.cs,aN v=true:=by
 intro v hv;unfold aL.cs at hv;simp only[List.mem_cons,List.not_mem_nil,or_false]at hv;rcases hv with h | h | h | h | h | h | h | h | h <;> subst h <;> rfl
set_option maxHeartbeats 1000000 in
theorem OR{x:aL}{e:aH}{K:Sl->Sl->Int->Int->Int->Int->Int->Int->Int->Pw}(er:mG w.heap x e)(hk:e.key.length<=65536)(hv:e.val.length<=65536)
  (k:∀(y:aL) w',mG w'.heap y e->(∀b,(y.k.aq=some b∨y.v.aq=some b)->w.heap.size<=b/\b < w'.heap.size)->Ext No w w'->K y.k y.v y.n y.ch.p y.ch.c y.ch.g y.cd.p y.cd.c y.cd.g w'):th x.k x.v x.n x.ch.p x.ch.c x.ch.g x.cd.p x.cd.c x.cd.g w K:=by
 apply Je;refine ag.mk fun b w1 n1=>ag.mk fun b1 w2 n2=>ag.mk fun b2 w3 n3=>?_
 have g1:w1.heap[b]? = some (.cells x.cs.toArray 151 (0,0)):=n1.get;have hb:=n1.at_;have gE:=n2.at_;have lO:=n3.at_;have z1:=n1.size;have z2:=n2.size;have z3:=n3.size;have gp:Ext No w w3:=(n1.ext.no n2.ext).no n3.ext;have g3:=ad (ad g1 n2.ext) n3.ext;refine⟨_,Cell.ai g3 rfl,xA (Q:=fun i=>w2.heap.size<=i) (n3.ext.aG) (fun i hi=>by simp[Sl.aq]at hi;omega) (fun i hi=>hi) (aU.new (l:=[]) (n:=0) n3 rfl) (by omega) (er.k.no gp) (by simp;omega) fun t4 w4 o4 q4 x4=>?_⟩;have g4:=af (ad g1 n2.ext) x4 (by omega);have gz4:=af n2.get x4 (by omega);refine aF.mk g4 (by simp[aL.cs]) rfl fun w5 h5=>ag.mk fun b3 w6 n6=>?_
 have g5:w5.heap[b]? = some (.cells ({ x with k:=t4 }:aL).cs.toArray 151 (0,0)):=h5.get g4;have x5:Ext (·=b) w4 w5:=h5.ext;have z5:w5.heap.size=w4.heap.size:=h5.size;have z4:=x4.size;have g6:=ad g5 n6.ext;have z6:=n6.size;have xB:=n6.at_;have xv:Ext No w w6:=(((n1.ext.no n2.ext).trans x4 fun i h1 h2=>by omega).trans x5 fun i h1 h2=>by omega).no n6.ext;refine⟨_,Cell.ai g6 rfl,xA (Q:=fun i=>w5.heap.size<=i) (n6.ext.aG) (fun i hi=>by simp[Sl.aq]at hi;omega) (fun i hi=>hi) (aU.new (l:=[]) (n:=0) n6 rfl) (by omega) (er.v.no xv) (by simp;omega) fun t7 w7 o7 q7 x7=>?_⟩;have g7:=af g5 x7 (by omega);have z7:=x7.size;refine aF.mk g7 (by simp[aL.cs]) rfl fun w8 h8=>?_
 have g8:w8.heap[b]? = some (.cells ({ x with k:=t4,v:=t7 }:aL).cs.toArray 151 (0,0)):=h8.get g7;have x8:Ext (·=b) w7 w8:=h8.ext;have z8:w8.heap.size=w7.heap.size:=h8.size;have gz8:=af (af (af gz4 x5 (by omega)) x7 (by omega)) x8 (by omega);refine fx g8 (cK gz8 rfl rfl (jA _) fun w9 g9 x9 z9=>?_)
 have b4:∀q,t4.aq=some q->w2.heap.size<=q/\q < w4.heap.size:=fun q hq=>⟨q4 q hq,(o4.lt hq).2⟩
 have b7:∀q,t7.aq=some q->w5.heap.size<=q/\q < w7.heap.size:=fun q hq=>⟨q7 q hq,(o7.lt hq).2⟩
 refine fx (x:={ x with k:=t4,v:=t7 }) g9 (k { x with k:=t4,v:=t7 } w9 ⟨?_,?_,er.n,er.ch,er.cd,er.k8,er.v8,er.n64,er.Ue,er.Ug⟩ (fun q hq=>?_) ?_)
 .have:=o4.rd.ext x5 (fun a q ha hq h=>by have:=b4 q (by simp[Sl.aq,ha,hq]);omega) |>.ext x7 (fun a q ha hq h=>by have:=b4 q (by simp[Sl.aq,ha,hq]);omega) |>.ext x8 (fun a q ha hq h=>by have:=b4 q (by simp[Sl.aq,ha,hq]);omega) |>.ext x9 (fun a q ha hq h=>by have:=b4 q (by simp[Sl.aq,ha,hq]);omega)
  simpa using this
 .have:=o7.rd.ext x8 (fun a q ha hq h=>by have:=b7 q (by simp[Sl.aq,ha,hq]);omega) |>.ext x9 (fun a q ha hq h=>by have:=b7 q (by simp[Sl.aq,ha,hq]);omega)
  simpa using this
 .rcases hq with hq | hq
  .have:=b4 q hq;omega
  .have:=b7 q hq;omega
 .exact(((((n1.ext.no n2.ext).trans x4 fun i h1 h2=>by omega).trans x5 fun i h1 h2=>by omega).trans x7 fun i h1 h2=>by omega).trans x8 fun i h1 h2=>by omega).trans x9 fun i h1 h2=>by omega
structure ZG(h:Array Obj)(sl:Sl)(ls:List (Sl×List (aL×aH))):Prop where
 rd:Rd h sl 1 (ls.map fun p=>p.1.v)
 nd:∀p∈ls,oQ h p.1 p.2
theorem ZG.no{w':Wd}{sl:Sl}{ls:List (Sl×List (aL×aH))}(r:ZG w.heap sl ls)(x:Ext No w w'):ZG w'.heap sl ls:=⟨r.rd.no x,fun p hp=>(r.nd p hp).no x⟩
def RF(w0:Wd)(b1 base:Nat)(kind lev:Int)(w':Wd)(l:List aH):Prop:=∃s L,sg w'.heap b1 kind lev s/\iP w'.heap base s L/\ents L=l/\Ext (·=b1) w0 w'/\base<=w'.heap.size
set_option maxHeartbeats 1000000 in
theorem jm{kind lev:Int}{sl:Sl}{ls:List (Sl×List (aL×aH))}{K:Int->Int->Sl->Pw}(r:ZG w.heap sl ls)(hn:ls.length<=16)(hl:∀p∈ls,p.2.length<=4096)(hs:∀p∈ls,∀q∈p.2,q.2.key.length<=65536/\q.2.val.length<=65536)
  (k:∀s L w',iP w'.heap w.heap.size s L->ents L=(ls.map fun p=>ents p.2).flatten->Ext No w w'->K kind lev s w'):dP kind lev sl w K:=by
 apply GX;have JF:sl.len=ls.length:=by have:=r.rd.len;simp at this;exact this.symm
 refine ag.mk fun b w1 n1=>ag.mk fun b1 w2 n2=>vU (s:=⟨none,0,0⟩) n2.get rfl fun w3 g3 x3 z3=>?_
 have hb:=n1.at_;have gE:=n2.at_;have z1:=n1.size;have z2:=n2.size;have gp:Ext No w w3:=(n1.ext.no n2.ext).trans x3 fun i h1 h2=>by omega
 have gb3:=af (ad n1.get n2.ext) x3 (by omega)
 have hle:∀j,((ls.take j).map fun p=>ents p.2).flatten.length<=j * 4096:=fun j=>by
  induction j with
  | zero=>simp
  | succ j ih=>
   rcases Nat.lt_or_ge j ls.length with h | h
   .rw[List.take_add_one,List.getElem?_eq_getElem h];simp only[Option.toList_some,List.map_append,List.flatten_append,List.length_append,List.map_cons,List.map_nil,List.flatten_cons,List.flatten_nil,List.append_nil,List.length_map];have:=hl _ (List.getElem_mem h);omega
   .rw[List.take_of_length_le (by omega)]at ih ⊢;omega
 refine⟨fun m t w'=>∃j:Nat,t=j/\j<=ls.length/\m=ls.length - j/\RF w3 b1 w3.heap.size kind lev w' ((ls.take j).map fun p=>ents p.2).flatten,⟨ls.length,0,rfl,by omega,by omega,⟨none,0,0⟩,[],g3,iP.nil _ _,rfl,Ext.refl _ _,Nat.le_refl _⟩,?_⟩;rintro _ m0 t w4 ⟨j,rfl,hj,hm,st⟩;refine If.dec (fun h=>?_) fun h=>?_
 .have oP:j < ls.length:=by omega
  obtain⟨_,_,_,_,_,Bn,_⟩:=id st;have gF:Ext No w w4:=gp.trans Bn fun q hq h=>by omega
  refine Ix.cell (r.rd.no gF) (by omega) h fun bb o v _ hv hc=>?_
  rw[Int.toNat_natCast,List.getElem?_map,List.getElem?_eq_getElem oP]at hv;simp only[Option.map_some,Option.some.injEq]at hv;subst hv;have TG:=r.nd _ (List.getElem_mem oP);have ZH:=hl _ (List.getElem_mem oP);have hsj:=hs _ (List.getElem_mem oP)
  have uR:((ls.take (j+1)).map fun p=>ents p.2).flatten=((ls.take j).map fun p=>ents p.2).flatten++ents ls[j].2:=by
   rw[List.take_add_one,List.getElem?_eq_getElem oP];simp only[Option.toList_some,List.map_append,List.map_cons,List.map_nil,List.flatten_append,List.flatten_cons,List.flatten_nil,List.append_nil]
  have agk:=hle j;generalize Zv:((ls.take j).map fun p=>ents p.2).flatten=l0 at *;generalize ls[j]=pj at *;obtain⟨sj,Lj⟩:=pj;simp only at TG ZH hsj hc uR;have nl:=TG.len;refine⟨sj,hc,fun m t w'=>∃i:Nat,t=i/\i<=Lj.length/\m=Lj.length - i/\RF w3 b1 w3.heap.size kind lev w' (l0++(ents Lj).take i),⟨Lj.length,0,rfl,by omega,by omega,by simpa using st⟩,?_⟩;rintro _ m1 t1 w5 ⟨i,rfl,hi,BQ,s5,L5,g5,nd5,el5,XC,eB⟩;have BB:Ext No w w5:=gp.trans XC fun q hq h=>by omega
  refine If.dec (fun h=>?_) fun h=>?_
  .refine qc (TG.rd.no BB) (by omega) h fun b2 w7 iv g7 lO z7 x7=>?_
   simp only[Int.toNat_natCast]at iv g7;have wA:=BB.no x7;have BF:=ad g5 x7;have er:=(TG.no wA).get iv;have hsi:=hsj _ (List.getElem_mem iv);have agl:b1 < w3.heap.size:=by omega
   refine⟨Ext (fun q=>w3.heap.size<=q/\q≠b2) w7,(Ext.refl _ _).drew,s5,ae.dQ (Cell.ai BF rfl) (show ¬ (w3.heap.size<=b1/\b1≠b2) by omega),?_⟩;refine⟨_,ae.dQ (Cell.ai g7 rfl) (by simp),_,ae.dQ (Cell.ai g7 rfl) (by simp),_,ae.dQ (Cell.ai g7 rfl) (by simp),_,ae.dQ (Cell.ai g7 rfl) (by simp),_,ae.dQ (Cell.ai g7 rfl) (by simp),_,ae.dQ (Cell.ai g7 rfl) (by simp),_,ae.dQ (Cell.ai g7 rfl) (by simp),_,ae.dQ (Cell.ai g7 rfl) (by simp),_,ae.dQ (Cell.ai g7 rfl) (by simp),?_⟩
   refine OR (w:=aa w7) er hsi.1 hsi.2 fun y w8 er8 yb x8=>⟨(x8.aj).aG,ag.mk fun b3 w9 n9=>⟨((x8.aj).no n9.ext).aG,?_⟩⟩
   have yb':∀q,(y.k.aq=some q∨y.v.aq=some q)->w7.heap.size<=q/\q < w8.heap.size:=yb
   have JM:Ext No w7 w9:=(x8.aj).no n9.ext;have TH:=(nd5.no x7).no JM;have z9:=n9.size;have s79:=JM.size;have s57:=x7.size;have n9':D_ w8 (.cells y.cs.toArray 151) b3 w9:=n9;have o9:=CR n9';have nl5:=nd5.nd.len;have l5:L5.length=l0.length+i:=by have:=congrArg List.length el5;simp only[List.length_map,List.length_append,List.length_take]at this;omega
   refine gn TH.own (by omega) o9.rd.src (by simp only;omega) fun OC dA Qj _ dR oR=>?_
   have UA:∀q,s5.aq=some q->w3.heap.size<=q/\q < w5.heap.size:=fun q hq=>nd5.own.lt hq
   have XD:iP dA.heap w3.heap.size OC (L5++[(y,Lj[i].2)]):=iP.push (p:=(y,Lj[i].2)) TH Qj dR oR (er8.no n9.ext) (fun q hq=>by have:=yb' q (.inl hq);exact⟨by omega,by omega,fun h=>by have:=UA q h;omega⟩) (fun q hq=>by have:=yb' q (.inr hq);exact⟨by omega,by omega,fun h=>by have:=UA q h;omega⟩)
   have uI:Ext (fun q=>w3.heap.size<=q/\q≠b2) w7 dA:=JM.aG.trans dR fun q hq h=>⟨(UA q h).1,by have:=UA q h;omega⟩
   have oq:=af BF uI (show ¬ (w3.heap.size<=b1/\b1≠b2) by omega);refine⟨uI,aF.mk oq (by simp) rfl fun dg wD=>?_⟩;have fY:Ext (·=b1) dA dg:=wD.ext;have e11:dg.heap.size=dA.heap.size:=wD.size;refine Ar.i64 (by omega) ⟨Lj.length - (i+1),by omega,i+1,by omega,by omega,rfl,OC,_,wD.get oq,XD.ext fY (fun q h1 h2 h=>by omega),?_,?_,?_⟩
   .show List.map Prod.snd (L5++[(y,Lj[i].2)])=_;rw[List.map_append,show List.map Prod.snd L5=_ from el5,List.take_add_one,List.getElem?_eq_getElem (by simpa using iv)];simp
   .exact((XC.no x7).trans uI fun q hq h=>by omega).trans fY fun q hq h=>h
   .have:=uI.size;omega
  .have e:i=Lj.length:=by omega
   refine Ar.i64 (by omega) ⟨ls.length - (j+1),by omega,j+1,by omega,by omega,rfl,s5,L5,g5,nd5,?_,XC,eB⟩;rw[uR,el5,e,List.take_of_length_le (by simp)]
 .have e:j=ls.length:=by omega
  obtain⟨s4,L4,g4,nd4,el4,Bn,eB⟩:=st;rw[e,List.take_length]at el4;have gF:Ext No w w4:=gp.trans Bn fun q hq h=>by omega
  refine oC g4 (vU (af gb3 Bn (by omega)) rfl fun eG JX gS Ro=>oC JX (k s4 L4 eG ((nd4.ext gS fun q h1 h2 h=>by omega).mono (by omega)) el4 (gF.trans gS fun q hq h=>by omega)))
end
end Go.Proofs.YtpjbalhhlaofmaaGreat
namespace Go.V
def jo:List aH->List aH
 | []=>[]
 | e::l=>{ e with key:=[] }::l
def lG(kind:Int)(l:List aH):List aH:=if kind=2 then jo l else l
theorem qe(l:List aH):(jo l).length=l.length:=by cases l <;> rfl
theorem CS(kind:Int)(l:List aH):(lG kind l).length=l.length:=by unfold lG;split;exact qe l;rfl
def szL(kind:Int)(l:List aH):Nat:=(l.map fun e=>(wrE kind e).length).sum
theorem dJ(kind:Int)(a b:List aH):szL kind (a++b)=szL kind a+szL kind b:=by simp[szL]
theorem dC(kind:Int)(e:aH)(l:List aH):szL kind (e::l)=(wrE kind e).length+szL kind l:=by simp[szL]
theorem q_(kind:Int):szL kind []=0:=rfl
theorem fA(kind lev:Int)(l:List aH):(wr kind lev l).length=3+szL kind l:=by simp[wr,szL,List.length_flatMap];omega
theorem Hz(kind:Int)(e:aH)(k:List Int):(wrE kind { e with key:=k }).length+e.key.length=(wrE kind e).length+k.length:=by
 unfold wrE;simp only[List.length_append,List.length_cons];omega
theorem JY(kind:Int)(l:List aH){j k:Nat}(h:j<=k):szL kind (l.take j)<=szL kind (l.take k):=by
 have:l.take k=l.take j++(l.take k).drop j:=by
  conv=>lhs;rw[<- List.take_append_drop j (l.take k)]
  rw[List.take_take,Nat.min_eq_left h]
 rw[this,dJ];omega
theorem aJ.take{kind lev:Int}{l:List aH}{k:Nat}(h:aJ kind lev l)(hk:1<=k):aJ kind lev (l.take k):=by
 refine⟨h.shape,fun h2=>?_,fun i hi=>?_,fun i hi=>?_⟩
 .have:=h.some h2
  cases l with
  | nil=>exact(this rfl).elim
  | cons e l=>cases k with
   | zero=>omega
   | succ k=>simp
 .simp only[List.length_take]at hi;rw[List.getElem_take];exact h.iw i (by omega)
 .simp only[List.length_take]at hi;rw[List.getElem_take,List.getElem_take];exact h.ord i (by omega)
theorem xH{kind i j:Int}{e:aH}(h:nW kind i e)(A_:kind=2->(i=0 ↔ j=0)):nW kind j e:=by
 obtain⟨h1,h2⟩:=h;refine⟨?_,h2⟩;unfold nf at h1 ⊢;rcases Classical.em (kind=2) with hk | hk
 .have:=A_ hk;rcases Classical.em (i=0) with h0 | h0
  .rw[if_pos ⟨hk,h0⟩]at h1;rw[if_pos ⟨hk,this.1 h0⟩];exact h1
  .rw[if_neg (fun h=>h0 h.2)]at h1;rw[if_neg (fun h=>h0 (this.2 h.2))];exact h1
 .rw[if_neg (fun h=>hk h.1)]at h1 ⊢;exact h1
theorem CT{l:List aH}{i:Nat}(h:i < (jo l).length)(h':i < l.length):(jo l)[i]=if i=0 then { l[i] with key:=[] } else l[i]:=by
 cases l with
 | nil=>simp at h'
 | cons e l=>cases i with
  | zero=>rfl
  | succ i=>simp[jo]
theorem aJ.lG{kind lev:Int}{l:List aH}{k:Nat}(h:aJ kind lev l)(h1:1<=k)(hk:k < l.length):aJ kind lev (lG kind (l.drop k)):=by
 have hd:(l.drop k).length=l.length - k:=List.length_drop
 have Bo:∀i (hi:i < (l.drop k).length),nW kind ((k+i:Nat):Int) (l.drop k)[i]:=fun i hi=>by
  rw[List.getElem_drop];exact h.iw (k+i) (by omega)
 have aaQ:∀i (hi:i+1 < (l.drop k).length),bW (l.drop k)[i].key (l.drop k)[i+1].key:=fun i hi=>by
  rw[List.getElem_drop,List.getElem_drop];exact h.ord (k+i) (by omega)
 unfold Go.V.lG;split
 .rename_i h2;refine⟨h.shape,fun _ e=>?_,fun i hi=>?_,fun i hi=>?_⟩
  .have:=congrArg List.length e;rw[qe]at this;simp at this;omega
  .have iv:i < (l.drop k).length:=by rw[qe]at hi;exact hi
   rw[CT hi iv];split
   .rename_i h0;subst h0;have:=Bo 0 iv;refine⟨by unfold nf;rw[if_pos ⟨h2,rfl⟩];rfl,?_⟩;have:=this.2;rw[if_pos h2]at this ⊢;exact this
   .exact xH (Bo i iv) fun _=>by omega
  .rw[qe]at hi;rw[CT (by rw[qe];omega) (by omega),CT (by rw[qe];omega) hi,if_neg (by omega:¬ i+1=0)];split
   .refine bW.nil fun e=>?_
    have:=(Bo (i+1) hi).1;unfold nf at this;rw[if_neg (by omega),e]at this;simp at this
   .exact aaQ i hi
 .rename_i h2;exact⟨h.shape,fun h=>(h2 h).elim,fun i hi=>xH (Bo i hi) fun h=>(h2 h).elim,aaQ⟩
def RG(kind lev:Int)(l:List aH)(k:Nat):Nat:=(wr kind lev (l.take k)).length
def VU(kind lev:Int)(l:List aH)(k:Nat):Nat:=(wr kind lev (lG kind (l.drop k))).length
def jW(kind lev:Int)(l:List aH)(k:Nat):Prop:=1<=k/\k < l.length/\RG kind lev l k<=224/\VU kind lev l k<=224
def RH(kind lev:Int)(l:List aH)(k:Nat):Int:=iE ((RG kind lev l k:Int) - VU kind lev l k) ((VU kind lev l k:Int) - RG kind lev l k)
structure ze(kind lev:Int)(l:List aH)(k:Nat):Prop where
 v:jW kind lev l k
 min:∀j,jW kind lev l j->RH kind lev l k<=RH kind lev l j
theorem Nz{L:List (aL×aH)}{k:Nat}(h:k<=L.length):(L.flatMap aS).take (k * 9)=(L.take k).flatMap aS/\(L.flatMap aS).drop (k * 9)=(L.drop k).flatMap aS:=by
 have e:L.flatMap aS=(L.take k).flatMap aS++(L.drop k).flatMap aS:=by rw[<- List.flatMap_append,List.take_append_drop]
 have hl:((L.take k).flatMap aS).length=k * 9:=by rw[aK (bX _),List.length_take,Nat.min_eq_left h]
 rw[e,List.take_left' hl,List.drop_left' hl];exact⟨rfl,rfl⟩
theorem oQ.aaR{w:Wd}{s:Sl}{L:List (aL×aH)}{lo hi mx:Int}{K:Sl->Prop}(r:oQ w.heap s L)(h0:0<=lo)(h1:lo<=hi)(h2:hi<=(L.length:Int))(hm:mx=s.cap)(k:∀s',oQ w.heap s' ((L.drop lo.toNat).take (hi - lo).toNat)->K s'):Cut s lo hi mx 9 K:=by
 have hl:=r.len;have hc:=r.rd.cap;subst hm;refine Cut.mk h0 h1 (by omega) (Int.le_refl _) (k _ ⟨?_,fun p hp=>r.iw p (List.mem_of_mem_drop (List.mem_of_mem_take hp))⟩);have:=r.rd.cut (lo:=lo.toNat) (hi:=hi.toNat) (mx:=s.cap) (by omega) (by omega) (by omega);rw[(Nz (k:=lo.toNat) (by omega)).2,(Nz (k:=hi.toNat - lo.toNat) (by rw[List.length_drop];omega)).1]at this;rw[show(hi - lo).toNat=hi.toNat - lo.toNat by omega,show(((s.cap:Nat):Int) - lo).toNat=s.cap - lo.toNat by omega,show(((s.cap:Nat):Int)).toNat=s.cap from rfl];exact this
end Go.V
namespace Go.Proofs.YtpjbalhhlaofmaaGreat
open Go.V
section
variable {w:Wd}
def HA(lN Iv:Nat)(S:Pw)(k1 v1:Int)(sa:Sl)(k2 v2:Int)(sb:Sl)(K:Int->Int->Sl->Int->Int->Sl->Sl->Pw)(w:Wd):Prop:=
 List.length (α:=Value) [.int .u8 k1,.int .u8 v1,.slice sa.a sa.len sa.cap]=3/\jB w (Addr.mk lN 0 none) [.int .u8 k1,.int .u8 v1,.slice sa.a sa.len sa.cap] fun w8=>
 S w8/\
 List.length (α:=Value) [.int .u8 k2,.int .u8 v2,.slice sb.a sb.len sb.cap]=3/\jB w8 (Addr.mk Iv 0 none) [.int .u8 k2,.int .u8 v2,.slice sb.a sb.len sb.cap] fun w9=>
 S w9/\
 ag w9 (.cells [].toArray 5) fun VV dA=>
 ∃qW:Sl,Cell dA ((Addr.mk Iv 0 none).add 2) (.slice qW.a qW.len qW.cap)/\
 Ix qW.a qW.len 0 9 fun a=>
 ∃pA:Sl,Cell dA a (.slice pA.a pA.len pA.cap)/\
 bz pz 23 23 ⟨some (Addr.mk VV 0 none),0,0⟩ (.slice pA.a pA.len pA.cap) (fun s_2 dg=>
 ∃sL:Int,Cell dg (Addr.mk Iv 0 none) (.int .u8 sL)/\
 If (sL == 2) (
 ∃sM:Sl,Cell dg ((Addr.mk Iv 0 none).add 2) (.slice sM.a sM.len sM.cap)/\
 Ix sM.a sM.len 0 9 fun AT=>
 aF dg AT (.slice none 0 0) fun eG=>
 ∃S:Pw,S (aa eG)/\
 ∃c:Int,ae S (Addr.mk lN 0 none) (.int .u8 c)/\
 ∃lk:Int,ae S ((Addr.mk lN 0 none).add 1) (.int .u8 lk)/\
 ∃jC:Sl,ae S ((Addr.mk lN 0 none).add 2) (.slice jC.a jC.len jC.cap)/\
 ∃r_:Int,ae S (Addr.mk Iv 0 none) (.int .u8 r_)/\
 ∃sd:Int,ae S ((Addr.mk Iv 0 none).add 1) (.int .u8 sd)/\
 ∃mq:Sl,ae S ((Addr.mk Iv 0 none).add 2) (.slice mq.a mq.len mq.cap)/\
 List.length (α:=Value) [.int .u8 c,.int .u8 lk,.slice jC.a jC.len jC.cap]=3/\jB (aa eG) (Addr.mk lN 0 none) [.int .u8 c,.int .u8 lk,.slice jC.a jC.len jC.cap] fun cX=>
 S cX/\
 List.length (α:=Value) [.int .u8 r_,.int .u8 sd,.slice mq.a mq.len mq.cap]=3/\jB cX (Addr.mk Iv 0 none) [.int .u8 r_,.int .u8 sd,.slice mq.a mq.len mq.cap] fun c_=>
 S c_/\
 ∃uF:Int,Cell c_ (Addr.mk lN 0 none) (.int .u8 uF)/\
 ∃se:Int,Cell c_ ((Addr.mk lN 0 none).add 1) (.int .u8 se)/\
 ∃ow:Sl,Cell c_ ((Addr.mk lN 0 none).add 2) (.slice ow.a ow.len ow.cap)/\
 ∃Rk:Int,Cell c_ (Addr.mk Iv 0 none) (.int .u8 Rk)/\
 ∃CJ:Int,Cell c_ ((Addr.mk Iv 0 none).add 1) (.int .u8 CJ)/\
 ∃vL:Sl,Cell c_ ((Addr.mk Iv 0 none).add 2) (.slice vL.a vL.len vL.cap)/\
 K uF se ow Rk CJ vL s_2 c_) (
 ∃S:Pw,S (aa dg)/\
 ∃Bf:Int,ae S (Addr.mk lN 0 none) (.int .u8 Bf)/\
 ∃Bg:Int,ae S ((Addr.mk lN 0 none).add 1) (.int .u8 Bg)/\
 ∃n_:Sl,ae S ((Addr.mk lN 0 none).add 2) (.slice n_.a n_.len n_.cap)/\
 ∃sN:Int,ae S (Addr.mk Iv 0 none) (.int .u8 sN)/\
 ∃tI:Int,ae S ((Addr.mk Iv 0 none).add 1) (.int .u8 tI)/\
 ∃oc:Sl,ae S ((Addr.mk Iv 0 none).add 2) (.slice oc.a oc.len oc.cap)/\
 List.length (α:=Value) [.int .u8 Bf,.int .u8 Bg,.slice n_.a n_.len n_.cap]=3/\jB (aa dg) (Addr.mk lN 0 none) [.int .u8 Bf,.int .u8 Bg,.slice n_.a n_.len n_.cap] fun dU=>
 S dU/\
 List.length (α:=Value) [.int .u8 sN,.int .u8 tI,.slice oc.a oc.len oc.cap]=3/\jB dU (Addr.mk Iv 0 none) [.int .u8 sN,.int .u8 tI,.slice oc.a oc.len oc.cap] fun oS=>
 S oS/\
 ∃lz:Int,Cell oS (Addr.mk lN 0 none) (.int .u8 lz)/\
 ∃lC:Int,Cell oS ((Addr.mk lN 0 none).add 1) (.int .u8 lC)/\
 ∃ng:Sl,Cell oS ((Addr.mk lN 0 none).add 2) (.slice ng.a ng.len ng.cap)/\
 ∃rp:Int,Cell oS (Addr.mk Iv 0 none) (.int .u8 rp)/\
 ∃xI:Int,Cell oS ((Addr.mk Iv 0 none).add 1) (.int .u8 xI)/\
 ∃uJ:Sl,Cell oS ((Addr.mk Iv 0 none).add 2) (.slice uJ.a uJ.len uJ.cap)/\
 K lz lC ng rp xI uJ s_2 oS)) dA
set_option maxHeartbeats 1000000 in
theorem RI{b1 b2 base:Nat}{kind lev:Int}{sa sb:Sl}{La Lb:List (aL×aH)}{z1 z2:List Value}{w0 wa:Wd}{K:Int->Int->Sl->Int->Int->Sl->Sl->Pw}
  (xs:Ext (fun q=>q=b1∨q=b2) w0 w) (h1:w.heap[b1]? = some (.cells z1.toArray 142 (0,0))) (h2:w.heap[b2]? = some (.cells z2.toArray 142 (0,0))) (l1:z1.length=3) (l2:z2.length=3) (bC:b1≠b2)
  (na:iP wa.heap base sa La) (xa:Ext No wa w) (nb:iP w.heap wa.heap.size sb Lb) (gE:b1 < base) (lO:b2 < base) (hbw:base<=wa.heap.size) (hl:0 < Lb.length) (hk:Lb[0].2.key.length<=65536)
  (k:∀Lb' st w',iP w'.heap base sa La->iP w'.heap base sb Lb'->ents Lb'=lG kind (ents Lb)->aU w'.heap base st Lb[0].2.key->Ext (fun q=>q=b1∨q=b2∨base<=q) w w'->K kind lev sa kind lev sb st w') :
  HA b1 b2 (Ext (fun q=>q=b1∨q=b2) w0) kind lev sa kind lev sb K w:=by
 unfold HA
 refine vU h1 l1 fun w8 g8 x8 z8=>⟨xs.trans x8 fun _ _ h=> .inl h,vU (af h2 x8 (Ne.symm bC)) l2 fun w9 g9 x9 z9=>⟨(xs.trans x8 fun _ _ h=> .inl h).trans x9 fun _ _ h=> .inr h,ag.mk fun b5 dA mH=>?_⟩⟩
 have Qi:=mH.at_;have LS:=mH.size;have hwa:=xa.size;have x89:Ext (fun q=>q=b1∨q=b2∨wa.heap.size<=q) w w9:=(x8.mono fun _ _ h=> .inl h).trans x9 fun _ _ h=> .inr (.inl h)
 have nb9:iP w9.heap wa.heap.size sb Lb:=(nb.ext x8 fun q h1 _ h=>by omega).ext x9 fun q h1 _ h=>by omega
 have nl:=(nb9.no mH.ext).nd.len;refine⟨sb,Cell.ai (ad g9 mH.ext) rfl,Ix.elem (nb9.no mH.ext).own.rd (bX Lb) (by decide) (by omega) (by omega) fun bb o hi _ hc=>⟨_,hc 0 _ rfl,?_⟩⟩;simp only[Int.toNat_zero]at hi hc ⊢;have er:=(nb9.no mH.ext).nd.get hi;refine xA (Q:=fun q=>w9.heap.size<=q) (mH.ext.aG) (fun i hi=>by simp[Sl.aq]at hi;omega) (fun i hi=>hi) (aU.new (l:=[]) (n:=0) mH rfl) (by omega) er.k (by simp;omega) fun st dg Uj q11 fY=>?_
 have g81:=af (af g8 x9 bC) fY (by omega);have g91:=af g9 fY (by omega);have Ui:=fY.size;have aaS:iP dg.heap wa.heap.size sb Lb:=nb9.ext fY fun q h1 h2 h=>by omega
 have XE:∀q,st.aq=some q->w9.heap.size<=q/\q < dg.heap.size:=fun q hq=>⟨q11 q hq,(Uj.lt hq).2⟩
 have Bb:Ext (fun q=>q=b1∨q=b2∨wa.heap.size<=q) w dg:=x89.trans fY fun q _ h=> .inr (.inr (by omega))
 have aaT:aU dg.heap base st Lb[0].2.key:=by have:=Uj.mono (base':=base) (by omega);simpa using this
 have fin:∀{w':Wd},Ext (fun q=>q=b1∨q=b2∨wa.heap.size<=q) dg w'->iP w'.heap base sa La/\Ext (fun q=>q=b1∨q=b2∨base<=q) w w':=fun x=>by
  have xx:=Bb.trans x fun _ _ h=>h
  exact⟨na.ext (S:=fun q=>q=b1∨q=b2∨wa.heap.size<=q) (xa.aG.trans xx fun q _ h=>h) fun q h1 h2 h=>by omega,xx.mono fun q _ h=>by omega⟩
 refine⟨_,Cell.ai g91 rfl,If.beq (fun Qk=>?_) fun Qk=>?_⟩
 .have sbb:∀q,sb.aq=some q->wa.heap.size<=q/\q < w9.heap.size:=fun q hq=>nb9.own.lt hq
  refine⟨sb,Cell.ai g91 rfl,kQ.key (t:=⟨none,0,0⟩) (key:=[]) (B:=fun q=>wa.heap.size<=q) (aaS.q fun _ h _=>h) (by omega) (by simpa using hl) (Rd.nil _ _) B8.nil (fun q hq=>by simp[Sl.aq]at hq) fun eG RC gS Ro=>?_⟩;have g82:=af g81 gS (fun h=>by have:=sbb b1 h;omega);have g92:=af g91 gS (fun h=>by have:=sbb b2 h;omega);refine XB g82 g92 bC fun c_ gH TA=>?_
  obtain⟨f1,f2⟩:=fin ((gS.mono fun q _ h=> .inr (.inr (sbb q h).1)).trans gH fun q _ h=>h.imp id .inl);refine k _ st c_ f1 ((RC.o.ext gH fun q h1 h2 h=>by omega).mono (by omega)) ?_ ((aaT.ext gS fun q hq h=>?_).ext gH fun q hq h=>?_) f2
  .unfold lG;rw[if_pos Qk]
   cases Lb with
   | nil=>simp at hl
   | cons p L=>rfl
  .have:=XE q hq;have:=sbb q h;omega
  .have:=XE q hq;omega
 .refine XB g81 g91 bC fun c_ gH TA=>?_
  obtain⟨f1,f2⟩:=fin (gH.mono fun q _ h=>h.imp id .inl);refine k Lb st c_ f1 ((aaS.ext gH fun q h1 h2 h=>by omega).mono (by omega)) ?_ (aaT.ext gH fun q hq h=>by have:=XE q hq;omega) f2;unfold lG;rw[if_neg Qk]
theorem OS{s:Sl}{L:List (aL×aH)}{b:Nat}{w':Wd}(n:D_ w (.cells [.slice s.a s.len s.cap].toArray 140) b w')(r:oQ w'.heap s L):ZG w'.heap ⟨some ⟨b,0,none⟩,1,1⟩ [(s,L)] :=
 ⟨(aT.new (n:=1) (sz:=1) (cs:=[s.v]) n rfl (by simp[aN,Sl.v])).rd,fun p hp=>by rw[List.mem_singleton]at hp;subst hp;exact r⟩
set_option maxHeartbeats 2000000 in
theorem FD{kind lev k:Int}{s:Sl}{L:List (aL×aH)}{K:Int->Int->Sl->Int->Int->Sl->Sl->Pw}(nd:oQ w.heap s L)(hk:0<=k)(BA:k.toNat < L.length)(hl:L.length<=4096)(hs:∀q∈L,q.2.key.length<=65536/\q.2.val.length<=65536)
  (kk:∀sa La sb Lb st w',iP w'.heap w.heap.size sa La->ents La=(ents L).take k.toNat->iP w'.heap w.heap.size sb Lb->ents Lb=lG kind ((ents L).drop k.toNat)->aU w'.heap w.heap.size st L[k.toNat].2.key->Ext No w w'->K kind lev sa kind lev sb st w'):oJ kind lev s k w K:=by
 apply Jf;refine ag.mk fun b w1 n1=>ag.mk fun b1 w2 n2=>ag.mk fun b2 w3 n3=>?_
 have hb:=n1.at_;have gE:=n2.at_;have lO:=n3.at_;have z1:=n1.size;have z2:=n2.size;have z3:=n3.size;have gp:Ext No w w3:=(n1.ext.no n2.ext).no n3.ext;have g3:sg w3.heap b kind lev s:=ad (ad n1.get n2.ext) n3.ext;have gG:=ad n2.get n3.ext;have ZI:=nd.no gp;have nl:=ZI.len;have nb:¬ (fun q=>q=b1∨q=b2) b:=fun h=>by omega
 refine⟨Ext (fun q=>q=b1∨q=b2) w3,(Ext.refl _ _).drew,kind,ae.dQ (Cell.ai g3 rfl) nb,lev,ae.dQ (Cell.ai g3 rfl) nb,s,ae.dQ (Cell.ai g3 rfl) nb,ZI.aaR (by omega) (by omega) (by omega) rfl fun s1 r1=>⟨kind,ae.dQ (Cell.ai g3 rfl) nb,lev,ae.dQ (Cell.ai g3 rfl) nb,s,ae.dQ (Cell.ai g3 rfl) nb,ZI.aaR hk (by omega) (by omega) rfl fun s2 r2=>?_⟩⟩;simp only[Int.toNat_zero,List.drop_zero,Int.sub_zero]at r1;have e2:(L.drop k.toNat).take ((s.len:Int) - k).toNat=L.drop k.toNat:=List.take_of_length_le (by rw[List.length_drop];omega);rw[e2]at r2;generalize hA:L.take k.toNat=A at r1;generalize hB:L.drop k.toNat=B at r2;have JA:∀q∈A,q.2.key.length<=65536/\q.2.val.length<=65536:=fun q hq=>hs q (by rw[<- hA]at hq;exact List.mem_of_mem_take hq)
 have Ip:∀q∈B,q.2.key.length<=65536/\q.2.val.length<=65536:=fun q hq=>hs q (by rw[<- hB]at hq;exact List.mem_of_mem_drop hq)
 have lA:A.length<=4096:=by rw[<- hA,List.length_take];omega
 have lB:B.length<=4096:=by rw[<- hB,List.length_drop];omega
 have lB0:0 < B.length:=by rw[<- hB,List.length_drop];omega
 have one:∀{s':Sl}{L':List (aL×aH)},(([(s',L')]:List (Sl×List (aL×aH))).map fun p=>ents p.2).flatten=ents L':=by intro s' L';simp
 -- behind the two nodes
 have tl:∀{wa w7:Wd}{sa sb:Sl}{La Lb:List (aL×aH)},Ext No w3 wa->Ext No wa w7->iP wa.heap w3.heap.size sa La->ents La=ents A->iP w7.heap wa.heap.size sb Lb->ents Lb=ents B->HA b1 b2 (Ext (fun q=>q=b1∨q=b2) w3) kind lev sa kind lev sb K w7:=fun {wa w7 sa sb La Lb} xa xb na ea XF eb=>by
  have y_:=xa.no xb;have Qp:Lb.length=B.length:=by have:=congrArg List.length eb;simpa using this
  have hk0:(Lb[0]'(by omega)).2=(L[k.toNat]).2:=by
   have:=congrArg (fun l=>l[0]?) eb;simp only[List.getElem?_map]at this;rw[<- hB,List.getElem?_drop,List.getElem?_eq_getElem (by omega:0 < Lb.length),Nat.add_zero,List.getElem?_eq_getElem BA]at this;simpa using this
  refine RI (base:=w3.heap.size) y_.aG (ad gG y_) (ad n3.get y_) rfl rfl (by omega) na xb XF (by omega) (by omega) xa.size (by omega) (by rw[hk0];exact(hs _ (List.getElem_mem BA)).1) fun Lb' st w' f1 f2 f3 f4 f5=>kk sa La sb Lb' st w' (f1.mono (by omega)) (by rw[ea,<- hA];simp) (f2.mono (by omega)) (by rw[f3,eb,<- hB];simp) (by rw[<- hk0];exact aT.mono f4 (by omega)) ?_
  exact(gp.no y_).trans f5 fun q hq h=>by omega
 refine⟨ag.mk fun b3 w4 n4=>⟨n4.ext.aj.aG,?_,?_⟩,ag.mk fun b8 w4 n4=>⟨n4.ext.aj.aG,ag.mk fun b9 w5 n5=>⟨(n4.ext.aj.no n5.ext).aG,?_⟩⟩⟩
 .have x4:Ext No w3 w4:=n4.ext.aj
  refine jm (OS n4 (r1.no x4)) (by simp) (by simpa using lA) (by simpa using JA) fun sa La w5 na ea x5=>⟨(x4.no x5).aG,ag.mk fun b4 w6 n6=>⟨((x4.no x5).no n6.ext).aG,?_⟩⟩
  rw[one]at ea;have x6:=(x4.no x5).no n6.ext
  refine jm (OS n6 (r2.no x6)) (by simp) (by simpa using lB) (by simpa using Ip) fun sb Lb w7 XF eb x7=>⟨(x6.no x7).aG,?_⟩
  rw[one]at eb;exact tl (wa:=w6) x6 x7 ((na.no n6.ext).mono x4.size) ea XF eb
 .have x4:Ext No w3 w4:=n4.ext.aj
  refine ag.mk fun b6 w5 n5=>⟨(x4.no n5.ext).aG,?_⟩
  have x5:=x4.no n5.ext
  refine jm ((OS n4 (r1.no x4)).no n5.ext) (by simp) (by simpa using lA) (by simpa using JA) fun sa La w6 na ea x6=>⟨(x5.no x6).aG,?_⟩
  rw[one]at ea
  refine jm ((OS n5 (r2.no x5)).no x6) (by simp) (by simpa using lB) (by simpa using Ip) fun sb Lb w7 XF eb x7=>⟨((x5.no x6).no x7).aG,?_⟩
  rw[one]at eb;exact tl (wa:=w6) (x5.no x6) x7 (na.mono x5.size) ea XF eb
 .have x4:Ext No w3 w4:=n4.ext.aj;have x5:=x4.no n5.ext
  refine jm (OS n5 (r1.no x5)) (by simp) (by simpa using lA) (by simpa using JA) fun sa La w6 na ea x6=>⟨(x5.no x6).aG,?_⟩
  rw[one]at ea
  refine jm ((OS n4 (r2.no x4)).no (n5.ext.no x6)) (by simp) (by simpa using lB) (by simpa using Ip) fun sb Lb w7 XF eb x7=>⟨((x5.no x6).no x7).aG,?_⟩
  rw[one]at eb;exact tl (wa:=w6) (x5.no x6) x7 (na.mono x5.size) ea XF eb
end
end Go.Proofs.YtpjbalhhlaofmaaGreat
namespace Go.V
theorem aJ.small{kind lev:Int}{l:List aH}(h:aJ kind lev l):∀e∈l,e.key.length<=32/\e.val.length<=64:=fun e he=>by
 obtain⟨i,hi,rfl⟩:=List.getElem_of_mem he;obtain⟨h1,h2⟩:=h.iw i hi;unfold nf at h1;constructor
 .split at h1 <;> omega
 .split at h2
  .omega
  .obtain⟨_,h2⟩:=h2;split at h2 <;> omega
theorem aJ.Ml{kind lev:Int}{L:List (aL×aH)}(h:aJ kind lev (L.map Prod.snd)):∀q∈L,q.2.key.length<=65536/\q.2.val.length<=65536:=fun q hq=>by
 have:=h.small q.2 (List.mem_map.2 ⟨q,hq,rfl⟩);omega
theorem RK(kind lev:Int)(l:List aH){j k:Nat}(h:j<=k):RG kind lev l j<=RG kind lev l k:=by
 unfold RG;rw[fA,fA];have:=JY kind l h;omega
def FE(kind lev:Int)(l:List aH)(k b:Nat)(off:Int):Prop:=
 (b=0/\∀j,j < k->¬ jW kind lev l j)∨(jW kind lev l b/\off=RH kind lev l b/\∀j,j < k->jW kind lev l j->RH kind lev l b<=RH kind lev l j)
theorem FE.skip{kind lev:Int}{l:List aH}{k b:Nat}{off:Int}(h:FE kind lev l k b off)(hn:¬ jW kind lev l k):FE kind lev l (k+1) b off:=by
 rcases h with⟨h1,h2⟩ | ⟨h1,h2,h3⟩
 .refine .inl ⟨h1,fun j hj=>?_⟩;rcases Nat.lt_or_ge j k with h | h
  .exact h2 j h
  .have:j=k:=by omega
   subst this;exact hn
 .refine .inr ⟨h1,h2,fun j hj hv=>?_⟩;rcases Nat.lt_or_ge j k with h | h
  .exact h3 j h hv
  .have:j=k:=by omega
   subst this;exact(hn hv).elim
theorem FE.end_{kind lev:Int}{l:List aH}{k b:Nat}{off:Int}(h:FE kind lev l k b off)(hn:∀j,k<=j->¬ jW kind lev l j)(hex:∃j,jW kind lev l j):b≠0/\ze kind lev l b:=by
 rcases h with⟨h1,h2⟩ | ⟨h1,h2,h3⟩
 .obtain⟨j,hj⟩:=hex;rcases Nat.lt_or_ge j k with h | h
  .exact(h2 j h hj).elim
  .exact(hn j h hj).elim
 .refine⟨by have:=h1.1;omega,h1,fun j hv=>?_⟩;rcases Nat.lt_or_ge j k with h | h
  .exact h3 j h hv
  .exact(hn j h hv).elim
end Go.V
namespace Go.Proofs.YtpjbalhhlaofmaaGreat
open Go.V
section
variable {w:Wd}
set_option maxHeartbeats 2000000 in
theorem CU{kind lev:Int}{s:Sl}{L:List (aL×aH)}{K:Int->Int->Sl->Int->Int->Sl->Sl->Int->Pw}(nd:oQ w.heap s L)(hr:aJ kind lev (ents L))(hl:L.length<=4096)(Cu:224 < (wr kind lev (ents L)).length)(hex:∃k,jW kind lev (ents L) k)
  (k0:∀(k:Nat) sa La sb Lb st w' (hk:k < (ents L).length),ze kind lev (ents L) k->iP w'.heap w.heap.size sa La->ents La=(ents L).take k->iP w'.heap w.heap.size sb Lb->ents Lb=lG kind ((ents L).drop k)->aU w'.heap w.heap.size st (ents L)[k].key->Ext No w w'->K kind lev sa kind lev sb st 0 w'):lM kind lev s w K:=by
 apply Eh;refine ag.mk fun b w1 n1=>ag.mk fun b1 w2 n2=>ag.mk fun b2 w3 n3=>?_
 have hb:=n1.at_;have gE:=n2.at_;have lO:=n3.at_;have z1:=n1.size;have z2:=n2.size;have z3:=n3.size;have gp:Ext No w w3:=(n1.ext.no n2.ext).no n3.ext;have g3:sg w3.heap b kind lev s:=ad (ad n1.get n2.ext) n3.ext;have gG:=ad n2.get n3.ext;have Mn:=n3.get;refine oC g3 (nC (nd.no gp) (by omega) (fun w4 _ x4=>If.bne (fun h=>(h rfl).elim) fun _=>If.dec (fun h=>by omega) fun _=>?_) (fun c w4 hn _ _=>(hn hr).elim));have hs:=hr.Ml;have Qp:(ents L).length=L.length:=by simp
 refine⟨fun RL w'=>∃bN:Nat,RL=bN/\bN≠0/\ze kind lev (ents L) bN/\Ext No w3 w',?_,?_⟩
 .refine⟨fun m RL off k w'=>∃bN kN:Nat,RL=bN/\k=kN/\1<=kN/\kN<=L.length/\m=L.length - kN/\FE kind lev (ents L) kN bN off/\Ext No w3 w',⟨L.length - 1,0,1,rfl,rfl,by omega,?_,rfl,.inl ⟨rfl,fun j hj hv=>by have:=hv.1;omega⟩,x4⟩,?_⟩
  .obtain⟨k,hk⟩:=hex;have:=hk.1;have:=hk.2.1;omega
  rintro _ m0 RL off k w9 ⟨bN,kN,rfl,rfl,VS,BA,hm,FF,x9⟩;have nl:=nd.len;have g9:=ad g3 x9;have TH:=nd.no (gp.no x9);refine⟨s,Cell.ai g9 rfl,If.dec (fun h=>?_) fun h=>?_⟩
  .have adC:kN < L.length:=by omega
   refine oC g9 (FD TH (by omega) (by simpa using adC) hl hs fun sa La sb Lb st dA na ea nb eb _ dR=>ag.mk fun b3 dg pB=>ag.mk fun b4 eG lD=>vU (ad pB.get lD.ext) rfl fun cX adD eE K2=>vU (af lD.get eE (by have:=pB.size;have:=lD.at_;have:=pB.at_;omega)) rfl fun c_ kM gH TA=>?_);have xB:=pB.at_;have Io:=lD.at_;have Re:=pB.size;have Ro:=lD.size;have JZ:=af adD gH (by omega);have aaU:Ext No dA eG:=pB.ext.no lD.ext;have tK:Ext No dA c_:=(aaU.trans eE fun q hq h=>by omega).trans gH fun q hq h=>by omega
   have aaV:Ext No w3 c_:=(x9.no dR).no tK;rw[Int.toNat_natCast]at ea eb;have RM:aJ kind lev (ents La):=by rw[ea];exact hr.take VS
   have Nk:aJ kind lev (ents Lb):=by rw[eb];exact hr.lG VS (by omega)
   have hxa:(wr kind lev (ents La)).length=RG kind lev (ents L) kN:=by rw[ea];rfl
   have hyb:(wr kind lev (ents Lb)).length=VU kind lev (ents L) kN:=by rw[eb];rfl
   have lla:La.length<=4096:=by have:=congrArg List.length ea;simp only[List.length_map,List.length_take]at this;omega
   have llb:Lb.length<=4096:=by have:=congrArg List.length eb;rw[CS]at this;simp only[List.length_map,List.length_drop]at this;omega
   refine oC JZ (nC (na.no tK).nd (by omega) (fun dU _ pH=>?_) (fun c dU hn _ _=>(hn RM).elim));rw[hxa];refine⟨fun w'=>w'=dU/\RG kind lev (ents L) kN<=224,If.bne (fun h=>(h rfl).elim) fun _=>If.dec (fun h=>?_) fun h=>⟨rfl,by omega⟩,?_⟩
   .obtain⟨e1,e2⟩:=FF.end_ (fun j hj hv=>by have:=RK kind lev (ents L) hj;have:=hv.2.2.1;omega) hex;exact⟨bN,rfl,e1,e2,aaV.no pH⟩
   rintro _ oS ⟨rfl,hx⟩;refine oC (ad kM pH) (nC ((nb.no tK).no pH).nd (by omega) (fun hU _ uW=>?_) (fun c dU hn _ _=>(hn Nk).elim));rw[hyb];have UB:=(aaV.no pH).no uW;refine⟨fun w'=>w'=hU/\VU kind lev (ents L) kN<=224,If.bne (fun h=>(h rfl).elim) fun _=>If.dec (fun h=>?_) fun h=>⟨rfl,by omega⟩,?_⟩
   .exact Ar.i64 (by omega) ⟨L.length - (kN+1),by omega,bN,kN+1,rfl,by omega,by omega,by omega,rfl,FF.skip (fun hv=>by have:=hv.2.2.2;omega),UB⟩
   rintro _ vK ⟨rfl,hy⟩
   have hv:jW kind lev (ents L) kN:=⟨VS,by omega,hx,hy⟩
   refine Ar.i64 (by omega) (Ar.i64 (by omega) (Nm.mk (If.beq (fun h0=>Ar.i64 (by omega) ?_) fun h0=>If.dec (fun cL=>Ar.i64 (by omega) ?_) fun zI=>Ar.i64 (by omega) ?_)))
   .refine⟨L.length - (kN+1),by omega,kN,kN+1,rfl,by omega,by omega,by omega,rfl,.inr ⟨hv,rfl,fun j hj VW=>?_⟩,UB⟩;rcases FF with⟨_,h2⟩ | ⟨h1,_⟩
    .rcases Nat.lt_or_ge j kN with h | h
     .exact(h2 j h VW).elim
     .have:j=kN:=by omega
      subst this;exact Int.le_refl _
    .have:=h1.1;omega
   .rcases FF with⟨h1,h2⟩ | ⟨h1,h2,h3⟩
    .omega
    refine⟨L.length - (kN+1),by omega,kN,kN+1,rfl,by omega,by omega,by omega,rfl,.inr ⟨hv,rfl,fun j hj VW=>?_⟩,UB⟩;rcases Nat.lt_or_ge j kN with h | h
    .have:=h3 j h VW;rw[<- h2]at this;exact Int.le_trans (Int.le_of_lt cL) this
    .have:j=kN:=by omega
     subst this;exact Int.le_refl _
   .rcases FF with⟨h1,h2⟩ | ⟨h1,h2,h3⟩
    .omega
    refine⟨L.length - (kN+1),by omega,bN,kN+1,rfl,by omega,by omega,by omega,rfl,.inr ⟨h1,h2,fun j hj VW=>?_⟩,UB⟩;rcases Nat.lt_or_ge j kN with h | h
    .exact h3 j h VW
    .have:j=kN:=by omega
     subst this;rw[<- h2];exact Int.not_lt.1 zI
  .obtain⟨e1,e2⟩:=FF.end_ (fun j hj hv=>by have:=hv.2.1;omega) hex;exact⟨bN,rfl,e1,e2,x9⟩
 rintro _ RL yX ⟨bN,rfl,hb0,NA,Ev⟩;refine If.beq (fun h=>by omega) fun _=>?_
 have cL:bN < L.length:=by have:=NA.v.2.1;omega
 refine oC (ad g3 Ev) (FD (nd.no (gp.no Ev)) (by omega) (by simpa using cL) hl hs fun sa La sb Lb st py na ea nb eb UC Mo=>?_);have UD:=Ev.no Mo;refine vU (ad gG UD) rfl fun xY adE mJ z23=>vU (af (ad Mn UD) mJ (by omega)) rfl fun CH wB sf z24=>XB (af adE sf (by omega)) wB (by omega) fun Fs uX z26=>?_
 have agm:=UD.size;have ZJ:=Ev.size;have xf:Ext (fun q=>q=b1∨q=b2) py Fs:=((mJ.mono fun _ _ h=> .inl h).trans sf fun _ _ h=> .inr h).trans uX fun _ _ h=>h
 rw[Int.toNat_natCast]at ea eb;refine k0 bN sa La sb Lb st Fs (by omega) NA ((na.ext xf fun q h1 h2 h=>by omega).mono (by omega)) ea ((nb.ext xf fun q h1 h2 h=>by omega).mono (by omega)) eb ?_ ((gp.no UD).trans xf fun q h1 h=>by omega);have:(ents L)[bN]'(by omega)=L[bN].2:=by simp
 rw[this];exact(aT.mono (UC.ext xf fun q hq h=>by have:=(UC.lt hq).1;omega) (by omega))
theorem RN{kind lev:Int}{s:Sl}{L:List (aL×aH)}{K:Bool->Pw}(nd:oQ w.heap s L)(hr:aJ kind lev (ents L))(hl:L.length<=4096)(k:∀w',Ext No w w'->K (decide (3 * (wr kind lev (ents L)).length < 224)) w'):tf kind lev s w K:=by
 apply Jg;refine ag.mk fun b w1 n1=>oC n1.get (nC (nd.no n1.ext) (by omega) (fun w2 _ x2=>If.beq (fun _=>?_) fun h=>(h rfl).elim) fun c w2 hn _ _=>(hn hr).elim)
 have h1:=(hr.short (by omega:L.length<=65536))
 have h2:(wr kind lev (ents L)).length<=4096 * 4194304+3:=by
  have:=Cx (kind:=kind) h1 L.length;rw[List.take_of_length_le (by simp)]at this;have h3:L.length * 4194304<=4096 * 4194304:=Nat.mul_le_mul_right _ hl;unfold wr;simp only[List.length_append,List.length_cons,List.length_nil];omega
 refine Ar.i64 (by omega) ?_;have e:decide (3 * ((wr kind lev (ents L)).length:Int) < 224)=decide (3 * (wr kind lev (ents L)).length < 224):=by rw[decide_eq_decide];omega
 rw[e];exact k w2 (n1.ext.no x2)
end
end Go.Proofs.YtpjbalhhlaofmaaGreat
namespace Go.V
def hdK(k:List Int):List aH->List aH
 | []=>[]
 | e::l=>{ e with key:=k }::l
def dH(kind:Int)(la:List aH)(above:List Int)(lb:List aH):List aH:=la++(if kind=2 then hdK above lb else lb)
theorem UE(k:List Int)(l:List aH):(hdK k l).length=l.length:=by cases l <;> rfl
theorem zf(kind:Int)(la:List aH)(above:List Int)(lb:List aH):(dH kind la above lb).length=la.length+lb.length:=by
 unfold dH;split <;> simp[UE]
structure oT where
 sep:Sl
 key:List Int
 s:Sl
 L:List (aL×aH)
def iy(kind lev:Int)(x:oT):List Value:=[.slice x.sep.a x.sep.len x.sep.cap,.int .u8 kind,.int .u8 lev,.slice x.s.a x.s.len x.s.cap]
structure dq(h:Array Obj)(B:Nat->Prop)(kind lev:Int)(sl:Sl)(ls:List oT):Prop where
 rd:Rd h sl 4 (ls.flatMap (iy kind lev))
 nd:∀x∈ls,kQ h B x.s x.L
 sep:∀x∈ls,Rd h x.sep 1 (x.key.map (Value.int .u8))/\B8 x.key/\∀b,x.sep.aq=some b->B b/\b < h.size
 sb:∀b,sl.aq=some b->B b/\b < h.size
theorem dq.ext{S B:Nat->Prop}{w w':Wd}{kind lev:Int}{sl:Sl}{ls:List oT}(r:dq w.heap B kind lev sl ls)(x:Ext S w w')(hS:∀b,B b->b < w.heap.size->¬ S b):dq w'.heap B kind lev sl ls:=
 ⟨r.rd.ext x fun a b ha hb=>have:=r.sb b (by simp[Sl.aq,ha,hb]);hS b this.1 this.2,fun y hy=>(r.nd y hy).ext x hS,
  fun y hy=>⟨(r.sep y hy).1.ext x fun a b ha hb=>have:=(r.sep y hy).2.2 b (by simp[Sl.aq,ha,hb]);hS b this.1 this.2,(r.sep y hy).2.1,fun b hb=>have:=(r.sep y hy).2.2 b hb;⟨this.1,Nat.lt_of_lt_of_le this.2 x.size⟩⟩,fun b hb=>have:=r.sb b hb;⟨this.1,Nat.lt_of_lt_of_le this.2 x.size⟩⟩
theorem dq.no{B:Nat->Prop}{w w':Wd}{kind lev:Int}{sl:Sl}{ls:List oT}(r:dq w.heap B kind lev sl ls)(x:Ext No w w'):dq w'.heap B kind lev sl ls:=r.ext x fun _ _ _ h=>h
theorem dq.mono{h:Array Obj}{B B':Nat->Prop}{kind lev:Int}{sl:Sl}{ls:List oT}(r:dq h B kind lev sl ls)(hB:∀b,b < h.size->B b->B' b):dq h B' kind lev sl ls:=
 ⟨r.rd,fun y hy=>(r.nd y hy).mono hB,fun y hy=>⟨(r.sep y hy).1,(r.sep y hy).2.1,fun b hb=>have:=(r.sep y hy).2.2 b hb;⟨hB b this.2 this.1,this.2⟩⟩,fun b hb=>have:=r.sb b hb;⟨hB b this.2 this.1,this.2⟩⟩
theorem dK(kind lev:Int)(ls:List oT):∀x∈ls,(iy kind lev x).length=4:=fun _ _=>rfl
theorem dq.len{h:Array Obj}{B:Nat->Prop}{kind lev:Int}{sl:Sl}{ls:List oT}(r:dq h B kind lev sl ls):sl.len=ls.length:=by
 have:=r.rd.len;rw[aK (dK kind lev ls)]at this;omega
inductive iz (kind lev:Int):List aH->List (List Int×List aH)->Prop
 | nil:iz kind lev [] []
 | one {l:List aH} (bC:l≠[]) (hr:aJ kind lev l) (hs:(wr kind lev l).length<=224):iz kind lev l [([],l)]
 | two {l:List aH} {k:Nat} (hr:aJ kind lev l) (hb:224 < (wr kind lev l).length) (h:ze kind lev l k) (hk:k < l.length):iz kind lev l [([],l.take k),(l[k].key,lG kind (l.drop k))]
def bf(ls:List oT):List (List Int×List aH):=ls.map fun x=>(x.key,x.L.map Prod.snd)
end Go.V
namespace Go.Proofs.YtpjbalhhlaofmaaGreat
open Go.V
section
variable {w:Wd}
set_option maxHeartbeats 2000000 in
theorem J_{kind lev:Int}{sa sb ab:Sl}{La Lb:List (aL×aH)}{above:List Int}{K:Int->Int->Sl->Bool->Pw}(na:oQ w.heap sa La)(nb:oQ w.heap sb Lb)(AU:cZ w.heap ab above)(h8:B8 above)(RM:aJ kind lev (ents La))(Nk:aJ kind lev (ents Lb))(hla:La.length<=2000)(Ud:Lb.length<=2000)(hk:above.length<=65536)
  (hj:aJ kind lev (dH kind (ents La) above (ents Lb))) (k:∀s L w',iP w'.heap w.heap.size s L->ents L=dH kind (ents La) above (ents Lb)->Ext No w w'->K kind lev s true w'):oM kind lev sa kind lev sb ab w K:=by
 apply Jh;refine ag.mk fun b w1 n1=>ag.mk fun b1 w2 n2=>ag.mk fun b2 w3 n3=>?_
 have hb:=n1.at_;have gE:=n2.at_;have lO:=n3.at_;have z1:=n1.size;have z2:=n2.size;have z3:=n3.size;have gp:Ext No w w3:=(n1.ext.no n2.ext).no n3.ext;have g3:sg w3.heap b kind lev sa:=ad (ad n1.get n2.ext) n3.ext;have gG:sg w3.heap b1 kind lev sb:=ad n2.get n3.ext;have Mn:=n3.get;refine⟨fun w'=>Ext No w3 w',?_,?_⟩
 .refine oC g3 (lq (na.no gp) (by omega) (fun w4 _ x4=>If.bne (fun h=>(h rfl).elim) fun _=>?_) fun c w4 hn _ _=>(hn RM).elim);refine oC (ad gG x4) (lq (nb.no (gp.no x4)) (by omega) (fun w6 _ x6=>If.bne (fun h=>(h rfl).elim) fun _=>?_) fun c w4 hn _ _=>(hn Nk).elim);have uK:=x4.no x6;exact⟨_,Cell.ai (ad g3 uK) rfl,_,Cell.ai (ad gG uK) rfl,If.bne (fun h=>(h rfl).elim) fun _=>⟨_,Cell.ai (ad g3 uK) rfl,_,Cell.ai (ad gG uK) rfl,If.bne (fun h=>(h rfl).elim) fun _=>uK⟩⟩
 intro _ dA dR;have oq:=ad g3 dR;have sO:=ad gG dR;have RO:=gp.no dR;refine⟨_,Cell.ai oq rfl,_,Cell.ai oq rfl,sa,Cell.ai oq rfl,sb,Cell.ai sO rfl,ag.mk fun b3 dg pB=>?_⟩;have zi:=RO.no pB.ext
 have lr:ZG dg.heap ⟨some ⟨b3,0,none⟩,2,2⟩ [(sa,La),(sb,Lb)]:=⟨(aT.new (n:=2) (sz:=1) (cs:=[sa.v,sb.v]) pB rfl (by simp[aN,Sl.v])).rd,fun p hp=>by
  simp only[List.mem_cons,List.not_mem_nil,or_false]at hp;rcases hp with h | h <;> subst h
  .exact na.no zi
  .exact nb.no zi⟩
 have OC:=dR.size
 refine jm lr (by simp) (by simp;omega) (by intro p hp;simp only[List.mem_cons,List.not_mem_nil,or_false]at hp;rcases hp with h | h <;> subst h;exact RM.Ml;exact Nk.Ml) fun s L eG nL eL gS=>ag.mk fun b4 cX Qq=>vU Qq.get rfl fun c_ kM gH TA=>⟨_,Cell.ai kM rfl,?_⟩
 have RP:ents L=ents La++ents Lb:=by rw[eL];simp
 have Io:=Qq.at_;have K2:=Qq.size;have s12:=gS.size;have Re:=pB.size;have tK:Ext No dA c_:=((pB.ext.no gS).no Qq.ext).trans gH fun q hq h=>by omega
 have UF:=RO.no tK;have VX:Ext (·=b4) eG c_:=Qq.ext.aG.trans gH fun q _ h=>h
 have RQ:iP c_.heap w.heap.size s L:=(nL.ext VX fun q h1 h2 h=>by omega).mono (by have:=zi.size;omega);have RR:iP c_.heap dg.heap.size s L:=nL.ext VX fun q h1 h2 h=>by omega
 have sb:∀q,s.aq=some q->dg.heap.size<=q/\q < c_.heap.size:=fun q hq=>RR.own.lt hq
 have lL:L.length=La.length+Lb.length:=by have:=congrArg List.length RP;simpa using this
 have Qp:(0:Int)<=(sa.len:Int):=by omega
 have nla:=na.len;refine If.beq (fun h2=>?_) fun h2=>?_
 .have hb0:0 < Lb.length:=by
   have:=Nk.some h2
   cases Lb with
   | nil=>exact(this rfl).elim
   | cons=>simp
  have adF:=ad oq tK
  have Uh:¬ (c_.heap.size<=b4∨s.aq=some b4):=fun h=>by
   rcases h with h | h
   .omega
   .have:=nL.own.lt h;omega
  have nb0:¬ (c_.heap.size<=b∨s.aq=some b):=fun h=>by
   rcases h with h | h
   .omega
   .have:=sb b h;omega
  refine⟨Ext (fun q=>c_.heap.size<=q∨s.aq=some q) c_,(Ext.refl _ _).drew,s,ae.dQ (Cell.ai kM rfl) Uh,sa,ae.dQ (Cell.ai adF rfl) nb0,ag.mk fun b5 dU NB=>⟨(NB.ext.aj).aG,?_⟩⟩;have pH:Ext No c_ dU:=NB.ext.aj;have Xw:dU.heap.size=c_.heap.size+1:=NB.size;have Qi:b5=c_.heap.size:=NB.at_
  refine xA (w0:=c_) (Q:=fun q=>c_.heap.size<=q) pH.aG (fun i hi=>by simp[Sl.aq]at hi;omega) (fun i hi=>hi) (aU.new (w:=aa c_) (l:=[]) (n:=0) NB rfl) (by show c_.heap.size<=_;omega) (Rd.no AU (UF.no pH)) (by simp;omega) fun st oS RS q16 qX=>⟨qX.mono fun _ _ h=> .inl h,?_⟩
  have UG:iP oS.heap dg.heap.size s L:=RR.ext qX fun q h1 h2 h=>by omega
  have aaW:aU oS.heap c_.heap.size st above:=by
   have:aU oS.heap c_.heap.size st ([]++above):=RS;rw[List.nil_append]at this;exact this
  have XE:∀q,st.aq=some q->c_.heap.size<=q/\q < oS.heap.size:=fun q hq=>aaW.lt hq
  refine kQ.key (key:=above) (B:=fun q=>dg.heap.size<=q) (UG.q fun _ h _=>h) Qp (by show sa.len < L.length;omega) aaW.rd h8 (fun q hq=>⟨by have:=XE q hq;omega,(XE q hq).2,fun h=>by have:=sb q h;have:=XE q hq;omega⟩) fun hU Mp uW z17=>?_
  have NC:sa.len < L.length:=by omega
  have eJ:ents (L.set sa.len (Hy st above L[sa.len]))=dH kind (ents La) above (ents Lb):=by
   rw[show ents (L.set sa.len (Hy st above L[sa.len]))=(ents L).set sa.len { L[sa.len].2 with key:=above } from List.map_set];have e2:(ents L)[sa.len]? = some L[sa.len].2:=by simp[NC]
   rw[RP,List.getElem?_append_right (by simp;omega)]at e2;unfold dH;rw[RP,if_pos h2,List.set_append_right _ _ (by simp;omega)];have e3:sa.len - (ents La).length=0:=by simp;omega
   rw[e3]at e2 ⊢
   cases hB:ents Lb with
   | nil=>rw[hB]at e2;simp at e2
   | cons e l=>rw[hB]at e2;simp only[List.getElem?_cons_zero,Option.some.injEq]at e2;rw[<- e2];rfl
  have yQ:L.set ((sa.len:Nat):Int).toNat (Hy st above (L[((sa.len:Nat):Int).toNat]'NC))=L.set sa.len (Hy st above L[sa.len]):=rfl;rw[yQ]at Mp;have tL:Ext (fun q=>c_.heap.size<=q∨s.aq=some q) c_ hU:=(qX.mono fun _ _ h=> .inl h).trans uW fun _ _ h=> .inr h
  have BF:=af kM tL Uh;have adG:(L.set sa.len (Hy st above L[sa.len])).length<=4294967296:=by rw[List.length_set];omega
  have VQ:¬ (c_.heap.size<=b2∨s.aq=some b2):=fun h=>by
   rcases h with h | h
   .omega
   .have:=sb b2 h;omega
  refine⟨Ext (·=b2) hU,(Ext.refl _ _).drew,hd3 (k:=kind) BF (by omega) (hd3 BF (by omega) (lq (w:=aa hU) Mp.nd adG (fun vK _ Bh=>⟨Bh.aj.aG,vU (ad (af (ad (ad Mn dR) tK) tL VQ) Bh.aj) rfl fun yX g19 Ev z19=>⟨Bh.aj.aG.trans Ev fun _ _ h=>h,oC g19 ?_⟩⟩) (fun c pG hn _ _=>(hn (by rw[eJ];exact hj)).elim)))⟩;refine k s _ yX (((Mp.o.no Bh.aj).ext Ev fun q h1 h2 h=>by omega).mono (by have:=zi.size;omega)) eJ ?_;refine(((UF.trans tL fun q hq h=>?_).no Bh.aj).trans Ev fun q hq h=>by omega);have:=UF.size;have:=zi.size;rcases h with h | h
  .omega
  .have:=sb q h;omega
 .have eJ:ents L=dH kind (ents La) above (ents Lb):=by unfold dH;rw[if_neg h2];exact RP
  refine⟨Ext (·=b2) c_,(Ext.refl _ _).drew,hd3 (k:=kind) kM (by omega) (hd3 kM (by omega) (lq (w:=aa c_) RQ.nd (by omega) (fun pG _ uH=>⟨uH.aj.aG,vU (ad (ad Mn dR) (tK.no uH.aj)) rfl fun xD g21 x21 z21=>⟨uH.aj.aG.trans x21 fun _ _ h=>h,oC g21 ?_⟩⟩) (fun c pG hn _ _=>(hn (by rw[eJ];exact hj)).elim)))⟩;exact k s L xD (((RR.no uH.aj).ext x21 fun q h1 h2 h=>by omega).mono (by have:=zi.size;omega)) eJ ((UF.no uH.aj).trans x21 fun q hq h=>by omega)
end
end Go.Proofs.YtpjbalhhlaofmaaGreat
namespace Go.V
abbrev aO(lev:Nat):Int:=if lev=0 then 1 else 2
theorem mg(x:List Int):¬ bW x []:=by
 intro h;unfold bW at h;cases x <;> simp[iM]at h
theorem bW.ne_nil{x y:List Int}(h:bW x y):y≠[]:=fun e=>mg x (e ▸ h)
theorem bW.of_le{a b c:List Int}(h:¬ bW b a)(k:bW b c):bW a c:=by
 rcases bW.total a b with h' | h' | h'
 .exact h'.trans k
 .exact h' ▸ k
 .exact(h h').elim
theorem bW.ND{a b c:List Int}(h:bW a b)(k:¬ bW c b):bW a c:=by
 rcases bW.total b c with h' | h' | h'
 .exact h.trans h'
 .exact h' ▸ h
 .exact(k h').elim
abbrev kT(l:List aH):Prop:=l.Pairwise fun a b=>bW a.key b.key
theorem fB{l:List aH}:za l ↔ kT l:=by
 unfold kT;rw[List.pairwise_iff_getElem];exact⟨fun h i j hi hj A_=>h.lt A_ hj,fun h i hi=>h i (i+1) (by omega) hi (by omega)⟩
structure xK(l:List aH):Prop where
 iw:∀e∈l,e.cd ≠ .z/\e.ch = .z/\e.val.length=0/\e.n=0/\e.key.length<=32
 xL:kT l
 hd:∀e l',l=e::l'->e.key=[]
theorem aJ.FG{lev:Int}{l:List aH}(h:aJ 2 lev l):xK l:=by
 refine⟨fun e he=>?_,fB.1 h.ord,fun e l' hl=>?_⟩
 .obtain⟨i,hi,rfl⟩:=List.getElem_of_mem he;have h2:=(h.iw i hi).2;have h3:=h.small _ he;rw[if_pos rfl]at h2;exact⟨h2.1,h2.2.1,h2.2.2.1,h2.2.2.2,h3.1⟩
 .subst hl;have:=(h.iw 0 (by simp)).1;unfold nf at this;rw[if_pos ⟨rfl,rfl⟩]at this;exact List.eq_nil_of_length_eq_zero (by simpa using this)
theorem xK.right{lev:Int}{l:List aH}(h:xK l)(bC:l≠[])(hl:1<=lev/\lev<=30):aJ 2 lev l:=by
 refine⟨.inr ⟨rfl,hl⟩,fun _=>bC,fun i hi=>⟨?_,?_⟩,fB.2 h.xL⟩
 .unfold nf
  cases i with
  | zero=>
   rw[if_pos ⟨rfl,rfl⟩]
   cases l with
   | nil=>simp at hi
   | cons e l=>have:=h.hd e l rfl;simp[this]
  | succ i=>
   rw[if_neg (by omega)];have h1:=(fB.2 h.xL) i hi;have h2:=(h.iw _ (List.getElem_mem hi)).2.2.2.2;have h3:=List.length_pos_iff.2 h1.ne_nil;omega
 .rw[if_pos rfl];have:=h.iw _ (List.getElem_mem hi);exact⟨this.1,this.2.1,this.2.2.1,this.2.2.2.1⟩
structure vV(l:List aH):Prop where
 iw:∀e∈l,nW 1 0 e
 xL:kT l
theorem aJ.lef{lev:Int}{l:List aH}(h:aJ 1 lev l):vV l:=by
 refine⟨fun e he=>?_,fB.1 h.ord⟩;obtain⟨i,hi,rfl⟩:=List.getElem_of_mem he;exact xH (h.iw i hi) fun h=>absurd h (by decide)
theorem vV.right{l:List aH}(h:vV l):aJ 1 0 l:=
 ⟨.inl ⟨rfl,rfl⟩,fun h=>absurd h (by decide),fun _ hi=>xH (h.iw _ (List.getElem_mem hi)) (fun h=>absurd h (by decide)),fB.2 h.xL⟩
section
variable {f:bH} {t:Int}
theorem cM.append{a b:List aH}{ka kb:List KV}{pa pb:List Rf}(h:cM f t a ka pa)(k:cM f t b kb pb):cM f t (a++b) (ka++kb) (pa++pb):=by
 induction h with
 | nil=>exact k
 | cons h r ih=>simp only[List.cons_append,List.append_assoc];exact .cons h ih
theorem cM.split{b:List aH}:∀{a:List aH}{kvs:List KV}{ps:List Rf},cM f t (a++b) kvs ps->∃ka kb pa pb,cM f t a ka pa/\cM f t b kb pb/\kvs=ka++kb/\ps=pa++pb
 | [],kvs,ps,h=>⟨[],kvs,[],ps,.nil,h,rfl,rfl⟩
 | e::a,_,_,.cons h r=>by
  obtain⟨ka,kb,pa,pb,h1,h2,rfl,rfl⟩:=cM.split (a:=a) r;exact⟨_,kb,_,pb,.cons h h1,h2,rfl,by rw[List.append_assoc]⟩
theorem cM.keys{l:List aH}{kvs:List KV}{ps:List Rf}(h:cM f t l kvs ps):kvs.map Prod.fst=l.map aH.key:=by
 induction h with
 | nil=>rfl
 | cons h r ih=>simp only[List.map_cons,ih,h.1]
theorem cM.mem{l:List aH}{kvs:List KV}{ps:List Rf}(h:cM f t l kvs ps){x:KV}(hx:x∈kvs):∃e∈l,e.key=x.1:=by
 have:x.1∈l.map aH.key:=h.keys ▸ List.mem_map.2 ⟨x,hx,rfl⟩;obtain⟨e,he,hk⟩:=List.mem_map.1 this;exact⟨e,he,hk⟩
theorem cM.aaX{l:List aH}{kvs:List KV}{ps:List Rf}(h:cM f t l kvs ps){e:aH}(he:e∈l):∃x∈kvs,e.key=x.1:=by
 have:e.key∈kvs.map Prod.fst:=h.keys ▸ List.mem_map.2 ⟨e,he,rfl⟩;obtain⟨x,hx,hk⟩:=List.mem_map.1 this;exact⟨x,hx,hk.symm⟩
variable {Q:Rf->List KV->List Rf->Prop}
theorem aM.append{a b:List aH}{ka kb:List KV}{pa pb:List Rf}(h:aM Q a ka pa)(k:aM Q b kb pb):(∀e b',b=e::b'->∀x∈ka,bW x.1 e.key)->aM Q (a++b) (ka++kb) (pa++pb):=by
 induction h with
 | nil=>intro _;exact k
 | @cons e l kv kvs p ps h lo hi r ih=>
  intro hb;simp only[List.cons_append,List.append_assoc];refine .cons h lo (fun e' l' hl x hx=>?_) (ih fun e' b' he x hx=>hb e' b' he x (List.mem_append_right _ hx))
  cases l with
  | nil=>
   cases r
   exact hb e' l' hl x (List.mem_append_left _ hx)
  | cons e2 l2=>
   simp only[List.cons_append,List.cons.injEq]at hl;exact hl.1 ▸ hi e2 l2 rfl x hx
theorem aM.split{b:List aH}:∀{a:List aH}{kvs:List KV}{ps:List Rf},aM Q (a++b) kvs ps->kT (a++b)->∃ka kb pa pb,aM Q a ka pa/\aM Q b kb pb/\kvs=ka++kb/\ps=pa++pb/\(∀e∈b,∀x∈ka,bW x.1 e.key)
 | [],kvs,ps,h,_=>⟨[],kvs,[],ps,.nil,h,rfl,rfl,by simp⟩
 | e::a,_,_,.cons h lo hi r,hr=>by
  simp only[List.cons_append,List.pairwise_cons]at hr;obtain⟨ka,kb,pa,pb,h1,h2,rfl,rfl,h3⟩:=aM.split (a:=a) r hr.2;refine⟨_,kb,_,pb,.cons h lo (fun e' l' hl x hx=>hi e' (l'++b) (by rw[hl];rfl) x hx) h1,h2,by rw[List.append_assoc],by rw[List.append_assoc],fun e' he x hx=>?_⟩;rcases List.mem_append.1 hx with hx | hx
  .cases hc:a++b with
   | nil=>rw[List.append_eq_nil_iff]at hc;rw[hc.2]at he;cases he
   | cons e2 l2=>
    have h4:=hi e2 l2 hc x hx;have:e'∈e2::l2:=hc ▸ List.mem_append_right _ he;rw[hc,List.pairwise_cons]at hr;rcases List.mem_cons.1 this with h5 | h5
    .rw[h5];exact h4
    .exact h4.trans (hr.2.1 e' h5)
  .exact h3 e' he x hx
theorem aM.head{e:aH}{l:List aH}{kvs:List KV}{ps:List Rf}{k:List Int}(h:aM Q (e::l) kvs ps)(hk:∀x∈kvs,¬ bW x.1 k):aM Q ({ e with key:=k }::l) kvs ps:=by
 cases h with
 | cons h lo hi r=>exact .cons h (fun x hx=>hk x (List.mem_append_left _ hx)) hi r
theorem aM.jo{l:List aH}{kvs:List KV}{ps:List Rf}(h:aM Q l kvs ps):aM Q (jo l) kvs ps:=by
 cases l with
 | nil=>exact h
 | cons e l=>exact h.head fun x _=>mg _
theorem aM.some{l:List aH}{kvs:List KV}{ps:List Rf}(hQ:∀r kv p,Q r kv p->kv≠[])(h:aM Q l kvs ps):∀e∈l,∃x∈kvs,¬ bW x.1 e.key:=by
 induction h with
 | nil=>intro e he;cases he
 | @cons e l kv kvs p ps h lo hi r ih=>
  intro e' he;rcases List.mem_cons.1 he with h' | h'
  .subst h';obtain⟨x,hx⟩:=List.exists_mem_of_ne_nil _ (hQ _ _ _ h);exact⟨x,List.mem_append_left _ hx,lo x hx⟩
  .obtain⟨x,hx,hh⟩:=ih e' h';exact⟨x,List.mem_append_right _ hx,hh⟩
def Body(f:bH)(t:Int):Nat->List aH->List KV->List Rf->Prop
 | 0=>cM f t
 | lev+1=>aM (bu f t lev)
def sS(l:List aH):Prop:=∀e∈l,(e.ch.ok/\e.cd.ok)/\B8 e.key/\B8 e.val
theorem bu.open_{lev:Nat}{r:Rf}{kvs:List KV}{ps:List Rf}(h:bu f t lev r kvs ps):∃l cU,mI f t (aO lev) lev r l/\l≠[]/\(0 < lev->2<=l.length)/\Body f t lev l kvs cU/\ps=r::cU:=by
 cases lev with
 | zero=>obtain⟨l,cU,a,b,c,d⟩:=h;exact⟨l,cU,a,b,fun h=>by omega,c,d⟩
 | succ lev=>
  obtain⟨l,cU,a,b,c,d⟩:=h;exact⟨l,cU,a,by intro h;rw[h]at b;simp at b,fun _=>b,c,d⟩
theorem bu.shut{lev:Nat}{r:Rf}{l:List aH}{kvs:List KV}{ps:List Rf}(a:mI f t (aO lev) lev r l)(b:l≠[])(c:0 < lev->2<=l.length)(d:Body f t lev l kvs ps):bu f t lev r kvs (r::ps):=by
 cases lev with
 | zero=>exact⟨l,ps,a,b,d,rfl⟩
 | succ lev=>exact⟨l,ps,a,c (by omega),d,rfl⟩
theorem Body.ne:∀{lev:Nat}{l:List aH}{kvs:List KV}{ps:List Rf},Body f t lev l kvs ps->l≠[]->kvs≠[]
 | 0,l,kvs,ps,h,bC=>fun e=>bC (by have:=cM.keys h;rw[e]at this;simpa using this.symm)
 | lev+1,l,kvs,ps,h,bC=>fun e=>by
  obtain⟨x,hx⟩:=List.exists_mem_of_ne_nil _ bC;obtain⟨y,hy,_⟩:=aM.some (fun r kv p h=>by obtain⟨l',_,_,h2,_,h3,_⟩:=h.open_;exact Body.ne h3 h2) h x hx;rw[e]at hy;cases hy
theorem bu.ne{lev:Nat}{r:Rf}{kvs:List KV}{ps:List Rf}(h:bu f t lev r kvs ps):kvs≠[]:=by
 obtain⟨l',_,_,h2,_,h3,_⟩:=h.open_;exact Body.ne h3 h2
theorem Body.cB{f':bH}{lev:Nat}{l:List aH}{kvs:List KV}{ps:List Rf}(h:Body f t lev l kvs ps)(hk:iR f f' ps):Body f' t lev l kvs ps:=by
 cases lev with
 | zero=>exact cM.cB h hk
 | succ lev=>exact aM.cB (R:=fun p=>iR f f' p) (fun h=>⟨h.sub fun _ h=>List.mem_append_left _ h,h.sub fun _ h=>List.mem_append_right _ h⟩) (fun h hk=>bu.cB h hk) h hk
structure vW(f:bH)(t:Int)(lev:Nat)(l:List aH)(kvs:List KV)(ps:List Rf):Prop where
 right:aJ (aO lev) lev l
 short:(wr (aO lev) lev l).length<=224
 ok:sS l
 body:Body f t lev l kvs ps
 ne:l≠[]
theorem vW.cB{f':bH}{lev:Nat}{l:List aH}{kvs:List KV}{ps:List Rf}(h:vW f t lev l kvs ps)(hk:iR f f' ps):vW f' t lev l kvs ps:=⟨h.right,h.short,h.ok,h.body.cB hk,h.ne⟩
inductive jX (f:bH) (t:Int) (lev:Nat):List (List Int×List aH)->List KV->List Rf->Prop
 | nil:jX f t lev [] [] []
 | one {l:List aH} {kvs:List KV} {ps:List Rf} (h:vW f t lev l kvs ps):jX f t lev [([],l)] kvs ps
 | two {l1 l2:List aH} {k1 k2:List KV} {p1 p2:List Rf} {sep:List Int} (h1:vW f t lev l1 k1 p1) (h2:vW f t lev l2 k2 p2) (s1:1<=sep.length) (s2:sep.length<=32) (s8:B8 sep) (lo:∀x∈k1,bW x.1 sep) (hi:∀x∈k2,¬ bW x.1 sep)
   (n1:0 < lev->2<=l1.length) (n2:0 < lev->2<=l2.length):jX f t lev [([],l1),(sep,l2)] (k1++k2) (p1++p2)
end
theorem Mq{kind i:Int}{e:aH}(h:nW kind i e):(wrE kind e).length<=99:=by
 obtain⟨h1,h2⟩:=h;have hk:e.key.length<=32:=by unfold nf at h1;split at h1 <;> omega
 unfold wrE;simp only[List.length_append,List.length_cons];split
 .rw[fy];omega
 .rename_i CO;rw[if_neg CO]at h2;obtain⟨_,h2⟩:=h2;split
  .simp[fy];omega
  .rw[if_pos (by split at h2 <;> omega)]at h2;simp;omega
theorem oU{e:aH}:(wrE 2 e).length=15+e.key.length:=by
 unfold wrE;rw[if_pos rfl];simp only[List.length_append,List.length_cons,fy];omega
theorem uh(kind:Int)(l:List aH)(k:Nat):szL kind l=szL kind (l.take k)+szL kind (l.drop k):=by
 conv=>lhs;rw[<- List.take_append_drop k l]
 exact dJ _ _ _
theorem Ka(kind:Int){l:List aH}{k:Nat}(h:k < l.length):szL kind (l.take (k+1))=szL kind (l.take k)+(wrE kind l[k]).length:=by
 rw[List.take_add_one,List.getElem?_eq_getElem h,dJ];simp[szL]
theorem Kb(kind:Int){l:List aH}{k:Nat}(h:k < l.length):szL kind (lG kind (l.drop k))+(if kind=2 then l[k].key.length else 0)=szL kind (l.drop k):=by
 rw[List.drop_eq_getElem_cons h];unfold lG;split
 .simp only[jo,dC];have:=Hz kind l[k] [];simp only[List.length_nil]at this;omega
 .omega
theorem VY{P:Nat->Nat}{c:Nat}:∀{n:Nat},P 0<=c->c < P n->∃k,k < n/\P k<=c/\c < P (k+1)
 | 0,h0,h1=>by omega
 | n+1,h0,h1=>by
  rcases Nat.lt_or_ge c (P n) with h | h
  .obtain⟨k,a,b⟩:=VY h0 h;exact⟨k,by omega,b⟩
  .exact⟨n,by omega,h,h1⟩
theorem CV{kind lev:Int}{l:List aH}(hr:aJ kind lev l)(h1:224 < (wr kind lev l).length)(h2:(wr kind lev l).length<=347):∃k,jW kind lev l k:=by
 rw[fA]at h1 h2;obtain⟨k,hk,a,b⟩:=VY (P:=fun k=>szL kind (l.take k)) (c:=221) (n:=l.length) (by simp[szL]) (by simp only[List.take_length];omega);have hs:=Ka kind hk;have he:=Mq (hr.iw k hk);have hc:=Kb kind hk;have NA:=uh kind l k;have a:szL kind (l.take k)<=221:=a;have b:221 < szL kind (l.take (k+1)):=b
 have hk0:k≠0:=by
  intro h;subst h;rw[List.take_zero,q_]at hs;omega
 refine⟨k,by omega,hk,?_,?_⟩
 .unfold RG;rw[fA];omega
 .unfold VU;rw[fA];omega
theorem FH{lev:Int}{l:List aH}{k:Nat}(hr:aJ 2 lev l)(hb:224 < (wr 2 lev l).length)(h:ze 2 lev l k):2<=k/\k+2<=l.length:=by
 have hi:=hr.FG;rw[fA]at hb;have BA:∀j (hj:j < l.length),l[j].key.length<=32:=fun j hj=>(hi.iw _ (List.getElem_mem hj)).2.2.2.2
 have hx:∀j,RG 2 lev l j=3+szL 2 (l.take j):=fun j=>by unfold RG;rw[fA]
 have hy:∀j (hj:j < l.length),VU 2 lev l j+l[j].key.length=3+szL 2 (l.drop j):=fun j hj=>by
  unfold VU;rw[fA];have:=Kb 2 hj;rw[if_pos rfl]at this;omega
 have tz:∀j (hj:j < l.length),szL 2 (l.take (j+1))=szL 2 (l.take j)+(15+l[j].key.length):=fun j hj=>by rw[Ka 2 hj,oU]
 have NA:=uh 2 l;obtain⟨v1,v2,v3,v4⟩:=h.v;have vX:=h.min;have t0:szL 2 (l.take 0)=0:=by simp[szL]
 have k0:l[0].key.length=0:=by
  cases l with
  | nil=>simp at v2
  | cons e l=>have:=hi.hd e l rfl;simp[this]
 have tn:szL 2 (l.take l.length)=szL 2 l:=by rw[List.take_length]
 constructor
 .refine Classical.byContradiction fun hc=>?_
  have hk:k=1:=by omega
  subst hk;have s0:szL 2 (l.take 1)=szL 2 (l.take 0)+(15+l[0].key.length):=tz 0 (by omega)
  have NF:2 < l.length:=by
   refine Classical.byContradiction fun hc=>?_
   have e:l.length=2:=by omega
   have s1:szL 2 (l.take 2)=szL 2 (l.take 1)+(15+l[1].key.length):=tz 1 (by omega);have:=BA 1 (by omega);rw[List.take_of_length_le (by omega)]at s1;omega
  have s1:szL 2 (l.take 2)=szL 2 (l.take 1)+(15+l[1].key.length):=tz 1 (by omega);have y1:=hy 1 (by omega);have y2:=hy 2 NF;have x1:=hx 1;have x2:=hx 2;have p1:=NA 1;have p2:=NA 2;have q1:=BA 1 (by omega);have q2:=BA 2 NF;have:=vX 2 ⟨by omega,NF,by omega,by omega⟩;unfold RH iE at this;split at this <;> split at this <;> omega
 .refine Classical.byContradiction fun hc=>?_
  have hk:k+1=l.length:=by omega
  have sk:=tz k v2;rw[hk,tn]at sk;have qk:=BA k v2;have yk:=hy k v2;have pk:=NA k;have xk:=hx k
  have VS:k≠1:=by
   intro e;subst e;have s0:szL 2 (l.take 1)=szL 2 (l.take 0)+(15+l[0].key.length):=tz 0 (by omega);omega
  have s':=tz (k - 1) (by omega);rw[show k - 1+1=k by omega]at s';have q':=BA (k - 1) (by omega);have y':=hy (k - 1) (by omega);have x':=hx (k - 1);have p':=NA (k - 1);have:=vX (k - 1) ⟨by omega,by omega,by omega,by omega⟩;unfold RH iE at this;split at this <;> split at this <;> omega
section
variable {f:bH} {t:Int}
theorem fC{a b:List aH}:kT (a++b) ↔ kT a/\kT b/\∀x∈a,∀y∈b,bW x.key y.key:=List.pairwise_append
theorem sS.take{l:List aH}{k:Nat}(h:sS l):sS (l.take k):=fun e he=>h e (List.mem_of_mem_take he)
theorem sS.jo{l:List aH}(h:sS l):sS (jo l):=fun e he=>by
 cases l with
 | nil=>cases he
 | cons e' l=>
  rcases List.mem_cons.1 he with h' | h'
  .subst h';have:=h e' (by simp);exact⟨this.1,B8.nil,this.2.2⟩
  .exact h e (List.mem_cons_of_mem _ h')
theorem sS.lG{kind:Int}{l:List aH}(h:sS l):sS (lG kind l):=by
 unfold Go.V.lG;split;exact h.jo;exact h
theorem sS.append{a b:List aH}(h:sS a)(k:sS b):sS (a++b):=fun e he=>(List.mem_append.1 he).elim (h e) (k e)
theorem iz.NG{lev:Nat}{l:List aH}{kvs:List KV}{ps:List Rf}{ls:List (List Int×List aH)}(p:iz (aO lev) lev l ls)(ok:sS l)(b:Body f t lev l kvs ps):jX f t lev ls kvs ps:=by
 cases p with
 | nil=>cases lev with
  | zero=>cases b;exact .nil
  | succ=>cases b;exact .nil
 | one bC hr hs=>exact .one ⟨hr,hs,ok,b,bC⟩
 | @two l k hr hb h hk=>
  have h1:=h.v.1;have dI:l[k]∈l:=List.getElem_mem hk;have n1:(l.take k).length=k:=by rw[List.length_take];omega
  have n2:(lG (aO lev) (l.drop k)).length=l.length - k:=by rw[CS,List.length_drop]
  have e:l=l.take k++l.drop k:=(List.take_append_drop k l).symm;have od:kT (l.take k++l.drop k):=e ▸ fB.1 hr.ord;have ne1:l.take k≠[]:=by intro h;rw[h]at n1;simp at n1;omega
  have ne2:lG (aO lev) (l.drop k)≠[]:=by intro h;rw[h]at n2;simp at n2;omega
  have gN:1<=l[k].key.length/\l[k].key.length<=32:=by
   have:=(hr.iw k hk).1;unfold nf at this;rw[if_neg (by omega)]at this;omega
  have two:0 < lev->2<=k/\k+2<=l.length:=fun h0=>by
   have e2:aO lev=2:=if_neg (by omega);rw[e2]at hr hb h;exact FH hr hb h
  rw[e]at b;have VZ:l.drop k=l[k]::l.drop (k+1):=List.drop_eq_getElem_cons hk
  cases lev with
  | zero=>
   obtain⟨ka,kb,pa,pb,b1,b2,rfl,rfl⟩:=cM.split b;have od:=fC.1 od;refine .two ⟨hr.take h1,h.v.2.2.1,ok.take,b1,ne1⟩ ⟨hr.lG h1 hk,h.v.2.2.2,sS.lG fun e he=>ok e (List.mem_of_mem_drop he),b2,ne2⟩ gN.1 gN.2 (ok _ dI).2.1 (fun x hx=>?_) (fun x hx=>?_) (fun h=>by omega) fun h=>by omega
   .obtain⟨e',he,V0⟩:=b1.mem hx;rw[<- V0];exact od.2.2 e' he _ (by rw[VZ];exact List.mem_cons_self)
   .obtain⟨e',he,V0⟩:=b2.mem hx;rw[<- V0];rw[VZ]at he od;rcases List.mem_cons.1 he with h' | h'
    .rw[h'];exact fun h=>h.irrefl
    .have:=(List.pairwise_cons.1 od.2.1).1 e' h';exact fun h=>(this.trans h).irrefl
  | succ lev=>
   obtain⟨ka,kb,pa,pb,b1,b2,rfl,rfl,b3⟩:=aM.split b od;have b2':aM (bu f t lev) (lG 2 (l.drop k)) kb pb:=by unfold lG;rw[if_pos rfl];exact b2.jo
   refine .two ⟨hr.take h1,h.v.2.2.1,ok.take,b1,ne1⟩ ⟨hr.lG h1 hk,h.v.2.2.2,sS.lG fun e he=>ok e (List.mem_of_mem_drop he),b2',ne2⟩ gN.1 gN.2 (ok _ dI).2.1 (fun x hx=>b3 _ (by rw[VZ];exact List.mem_cons_self) x hx) (fun x hx=>?_) (fun h=>by have:=two h;omega) fun h=>by have:=two h;omega
   have od:=fC.1 od;exact xF b2 (fB.2 od.2.1) _ _ VZ x hx
theorem OT{lev:Nat}{la lb:List aH}{above:List Int}{ka kb:List KV}{pa pb:List Rf}(RM:aJ (aO lev) lev la)(Nk:aJ (aO lev) lev lb)(oa:sS la)(ob:sS lb)(a8:B8 above)(al:above.length<=32)(ba:Body f t lev la ka pa)(bb:Body f t lev lb kb pb)
  (lo:∀x∈ka,bW x.1 above) (hi:∀x∈kb,¬ bW x.1 above):aJ (aO lev) lev (dH (aO lev) la above lb)/\sS (dH (aO lev) la above lb)/\Body f t lev (dH (aO lev) la above lb) (ka++kb) (pa++pb):=by
 cases lev with
 | zero=>
  have e:dH (aO 0) la above lb=la++lb:=by unfold dH;rw[if_neg (by decide)]
  rw[e];refine⟨?_,oa.append ob,cM.append ba bb⟩;have l1:=RM.lef;have l2:=Nk.lef;refine vV.right ⟨fun e he=>(List.mem_append.1 he).elim (l1.iw e) (l2.iw e),List.pairwise_append.2 ⟨l1.xL,l2.xL,fun x hx y hy=>?_⟩⟩;obtain⟨u,hu,eu⟩:=cM.aaX ba hx;obtain⟨v,hv,ev⟩:=cM.aaX bb hy;rw[eu,ev];exact(lo u hu).ND (hi v hv)
 | succ lev=>
  have e:dH (aO (lev+1)) la above lb=la++hdK above lb:=by unfold dH;rw[if_pos (show aO (lev+1)=2 from if_neg (by omega))]
  have XG:aJ 2 ((lev+1:Nat):Int) la:=RM;have aaY:aJ 2 ((lev+1:Nat):Int) lb:=Nk;have sh:=XG.shape;unfold jk at sh;have l1:=XG.FG;have l2:=aaY.FG;have nea:=XG.some rfl;have neb:=aaY.some rfl;have hQ:∀r kv p,bu f t lev r kv p->kv≠[]:=fun _ _ _ h=>h.ne
  have ltA:∀x∈la,bW x.key above:=fun x hx=>by
   obtain⟨u,hu,h⟩:=aM.some hQ ba x hx;exact bW.of_le h (lo u hu)
  rw[e]
  cases Ud:lb with
  | nil=>exact(neb Ud).elim
  | cons e0 lb' =>
   subst Ud;have l2r:=List.pairwise_cons.1 l2.xL;have he0:=l2.hd e0 lb' rfl
   have geB:∀y∈lb',bW above y.key:=fun y hy=>by
    cases bb with
    | @cons _ _ kv kvs p ps h blo bhi r=>
     obtain⟨u,hu⟩:=List.exists_mem_of_ne_nil _ (hQ _ _ _ h)
     have h1:bW u.1 y.key:=by
      cases lb' with
      | nil=>cases hy
      | cons e2 l3=>
       have h2:=bhi e2 l3 rfl u hu;rcases List.mem_cons.1 hy with h3 | h3
       .rw[h3];exact h2
       .exact h2.trans ((List.pairwise_cons.1 l2r.2).1 y h3)
     exact bW.of_le (hi u (List.mem_append_left _ hu)) h1
   have FG:xK (la++hdK above (e0::lb')):=by
    refine⟨fun x hx=>?_,List.pairwise_append.2 ⟨l1.xL,List.pairwise_cons.2 ⟨geB,l2r.2⟩,fun x hx y hy=>?_⟩,fun x l' hl=>?_⟩
    .rcases List.mem_append.1 hx with h | h
     .exact l1.iw x h
     .rcases List.mem_cons.1 h with h' | h'
      .subst h';have:=l2.iw e0 (by simp);exact⟨this.1,this.2.1,this.2.2.1,this.2.2.2.1,al⟩
      .exact l2.iw x (List.mem_cons_of_mem _ h')
    .rcases List.mem_cons.1 hy with h' | h'
     .subst h';exact ltA x hx
     .exact(ltA x hx).trans (geB y h')
    .cases la with
     | nil=>exact(nea rfl).elim
     | cons a la' =>
      simp only[List.cons_append,List.cons.injEq]at hl;rw[<- hl.1];exact l1.hd a la' rfl
   refine⟨FG.right (by simp[nea]) (by omega),oa.append fun x hx=>?_,aM.append ba (aM.head bb hi) fun e b' he x hx=>?_⟩
   .rcases List.mem_cons.1 hx with h' | h'
    .subst h';have:=ob e0 (by simp);exact⟨this.1,a8,this.2.2⟩
    .exact ob x (List.mem_cons_of_mem _ h')
   .cases he;exact lo x hx
theorem Mr{kind lev:Int}{la lb:List aH}{above:List Int}:(wr kind lev (dH kind la above lb)).length+3<=(wr kind lev la).length+(wr kind lev lb).length+above.length:=by
 rw[fA,fA,fA];unfold dH;rw[dJ];split
 .cases lb with
  | nil=>simp[hdK,szL]
  | cons e l=>
   rw[hdK,dC,dC];have:=Hz kind e above;omega
 .omega
theorem vV.sub{a b c:List aH}(h:vV (a++(b++c))):vV (a++c):=by
 have h2:=h.xL;have h2:=List.pairwise_append.1 h2;refine⟨fun e he=>h.iw e ?_,List.pairwise_append.2 ⟨h2.1,(List.pairwise_append.1 h2.2.1).2.1,fun x hx y hy=>h2.2.2 x hx y (List.mem_append_right _ hy)⟩⟩;rcases List.mem_append.1 he with h | h
 .exact List.mem_append_left _ h
 .exact List.mem_append_right _ (List.mem_append_right _ h)
theorem vV.insert{a c:List aH}{e:aH}(h:vV (a++c))(he:nW 1 0 e)(lo:∀x∈a,bW x.key e.key)(hi:∀x∈c,bW e.key x.key):vV (a++(e::c)):=by
 have h2:=h.xL;have h2:=List.pairwise_append.1 h2;refine⟨fun x hx=>?_,List.pairwise_append.2 ⟨h2.1,List.pairwise_cons.2 ⟨hi,h2.2.1⟩,fun x hx y hy=>?_⟩⟩
 .rcases List.mem_append.1 hx with h' | h'
  .exact h.iw x (List.mem_append_left _ h')
  .rcases List.mem_cons.1 h' with h' | h'
   .rw[h'];exact he
   .exact h.iw x (List.mem_append_right _ h')
 .rcases List.mem_cons.1 hy with h' | h'
  .rw[h'];exact lo x hx
  .exact h2.2.2 x hx y h'
theorem RT{l:List aH}{key:List Int}{i:Nat}{fd:Bool}(h:Go.Proofs.YtpjbalhhlaofmaaGreat.Rx l key i fd)(hr:kT l):(∀x∈l.take i,bW x.key key)/\(∀x∈l.drop (if fd then i+1 else i),bW key x.key)/\(fd=true->i < l.length):=by
 refine⟨fun x hx=>?_,fun x hx=>?_,fun e=>(h.eq.1 e).1⟩
 .obtain⟨j,hj,rfl⟩:=List.getElem_of_mem hx;simp only[List.length_take]at hj;rw[List.getElem_take];exact h.lt j (by omega) (by omega)
 .obtain⟨j,hj,rfl⟩:=List.getElem_of_mem hx;rw[List.length_drop]at hj;rw[List.getElem_drop];have hl:=fB.2 hr
  cases fd with
  | true=>
   obtain⟨hi,e⟩:=h.eq.1 rfl;simp only[if_true]at hj ⊢;rw[<- e];exact hl.lt (by omega) (by omega)
  | false=>
   simp only[Bool.false_eq_true,if_false]at hj ⊢;have zI:=h.ge (by omega);rcases Ng.1 zI with e | e
   .have:=h.eq.2 ⟨by omega,e⟩;cases this
   .rcases Nat.eq_zero_or_pos j with h0 | h0
    .subst h0;exact e
    .exact e.trans (hl.lt (by omega) (by omega))
end
end Go.V
namespace Go.Proofs.YtpjbalhhlaofmaaGreat
open Go.V
section
variable {w0 w:Wd} {base:Nat} {e:TypeId} {s:Sl} {n:Nat} {L0:List ByteArray} {cmp:Value}
theorem Ar.any{k:IntKind}{e:Int}{K:Int->Prop}(h:∀z,K z):Ar k e K:=fun z _=>h z
theorem XH:∀v:Nat,v < 256->∃b,(ByteArray.data (⟨#[0,1,2,2,3,3,3,3,4,4,4,4,4,4,4,4,5,5,5,5,5,5,5,5,5,5,5,5,5,5,5,5,6,6,6,6,6,6,6,6,6,6,6,6,6,6,6,6,6,6,6,6,6,6,6,6,6,6,6,6,6,6,6,6,7,7,7,7,7,7,7,7,7,7,7,7,7,7,7,7,7,7,7,7,7,7,7,7,7,7,7,7,7,7,7,7,7,7,7,7,7,7,7,7,7,7,7,7,7,7,7,7,7,7,7,7,7,7,7,7,7,7,7,7,7,7,7,7,8,8,8,8,8,8,8,8,8,8,8,8,8,8,8,8,8,8,8,8,8,8,8,8,8,8,8,8,8,8,8,8,8,8,8,8,8,8,8,8,8,8,8,8,8,8,8,8,8,8,8,8,8,8,8,8,8,8,8,8,8,8,8,8,8,8,8,8,8,8,8,8,8,8,8,8,8,8,8,8,8,8,8,8,8,8,8,8,8,8,8,8,8,8,8,8,8,8,8,8,8,8,8,8,8,8,8,8,8,8,8,8,8,8,8,8,8,8,8,8,8,8,8,8,8,8,8,8]⟩)).toList[v]? = some b/\b.toNat<=8/\(1<=v->2 ^ b.toNat<=2 * v):=by
 have h:∀v:Fin 256,((ByteArray.data (⟨#[0,1,2,2,3,3,3,3,4,4,4,4,4,4,4,4,5,5,5,5,5,5,5,5,5,5,5,5,5,5,5,5,6,6,6,6,6,6,6,6,6,6,6,6,6,6,6,6,6,6,6,6,6,6,6,6,6,6,6,6,6,6,6,6,7,7,7,7,7,7,7,7,7,7,7,7,7,7,7,7,7,7,7,7,7,7,7,7,7,7,7,7,7,7,7,7,7,7,7,7,7,7,7,7,7,7,7,7,7,7,7,7,7,7,7,7,7,7,7,7,7,7,7,7,7,7,7,7,8,8,8,8,8,8,8,8,8,8,8,8,8,8,8,8,8,8,8,8,8,8,8,8,8,8,8,8,8,8,8,8,8,8,8,8,8,8,8,8,8,8,8,8,8,8,8,8,8,8,8,8,8,8,8,8,8,8,8,8,8,8,8,8,8,8,8,8,8,8,8,8,8,8,8,8,8,8,8,8,8,8,8,8,8,8,8,8,8,8,8,8,8,8,8,8,8,8,8,8,8,8,8,8,8,8,8,8,8,8,8,8,8,8,8,8,8,8,8,8,8,8,8,8,8,8,8,8]⟩)).toList[v.1]?).any (fun b=>decide (b.toNat<=8) && (decide (v.1=0) || decide (2 ^ b.toNat<=2 * v.1)))=true:=by decide +kernel
 intro v hv;have:=h ⟨v,hv⟩;rw[Option.any_eq_true]at this;obtain⟨b,h1,h2⟩:=this;simp only[Bool.and_eq_true,Bool.or_eq_true,decide_eq_true_eq]at h2;exact⟨b,h1,h2.1,fun h3=>h2.2.resolve_left (by omega)⟩
theorem rq{x:Int}{K:Int->Pw}(h0:0<=x)(h1:x<=65535)(k:∀r:Nat,r<=16->(1<=x->(2:Int) ^ r<=2 * x)->K r w):gf x w K:=by
 apply Av;apply wS;refine⟨fun y m w'=>y=x/\m=0/\w'=w,If.dec (fun h=>by omega) fun _=>⟨rfl,rfl,rfl⟩,?_⟩;rintro _ y m w1 ⟨rfl,rfl,rfl⟩;refine⟨fun z m w'=>z=y/\m=0/\w'=w1,If.dec (fun h=>by omega) fun _=>⟨rfl,rfl,rfl⟩,?_⟩;rintro _ y2 m2 w2 ⟨rfl,rfl,rfl⟩;refine⟨fun z m w'=>w'=w2/\((m=0/\z=y2/\y2 < 256)∨(m=8/\z=y2 / 256/\256<=y2)),If.dec (fun h=>⟨by decide,Nm.mk (Ar.i64 (by omega) ⟨rfl,.inr ⟨by omega,?_,by omega⟩⟩)⟩) fun h=>⟨rfl,.inl ⟨rfl,rfl,by omega⟩⟩,?_⟩
 .rw[show(2:Int) ^ min (Int.toNat 8) (IntKind.bits .u64)=256 from by decide,Int.fdiv_eq_ediv_of_nonneg _ (by omega)]
 rintro _ z m w3 ⟨rfl,hz⟩;have hz2:0<=z/\z < 256/\0<=m/\m<=8:=by rcases hz with h | h <;> omega
 refine Ar.u8 (by omega) ?_;obtain⟨b,hb,OB,lO⟩:=XH z.toNat (by omega);refine⟨b,by omega,hb,Ar.i64 (by omega) (Ar.i64 (by omega) ?_)⟩;have e:m+(UInt8.toNat b:Int)=((m.toNat+b.toNat:Nat):Int):=by omega
 rw[e];refine k _ (by omega) fun hx=>?_
 have hp:((2:Int) ^ b.toNat)=((2 ^ b.toNat:Nat):Int):=by simp
 rcases hz with⟨rfl,rfl,h⟩ | ⟨rfl,rfl,h⟩
 .have:=lO (by omega);rw[show(0:Int).toNat+b.toNat=b.toNat by simp,hp];omega
 .have:=lO (by omega);rw[show(8:Int).toNat+b.toNat=8+b.toNat by simp,Int.pow_add,hp];omega
theorem XI{x y:Int}(h0:0<=y)(h1:y < 9223372036854775808):0<=kB .and .u64 x y/\kB .and .u64 x y<=y:=by
 have hw:∀z:Int,0<=z->z < 18446744073709551616->IntKind.wrap .u64 z=z:=fun z h0 h1=>by simp[IntKind.wrap,IntKind.bits,IntKind.signed];omega
 have hy:(BitVec.ofInt 64 y).toNat=y.toNat:=by rw[BitVec.toNat_ofInt];omega
 have hle:(BitVec.ofInt 64 x &&& BitVec.ofInt 64 y).toNat<=y.toNat:=by rw[BitVec.toNat_and,<- hy];exact Nat.and_le_right
 have cL:=(BitVec.ofInt 64 x &&& BitVec.ofInt 64 y).isLt;have e:kB .and .u64 x y=((BitVec.ofInt 64 x &&& BitVec.ofInt 64 y).toNat:Int):=hw ((BitVec.ofInt 64 x &&& BitVec.ofInt 64 y).toNat:Int) (by omega) (by omega);rw[e];omega
theorem Ew{b:Nat}{v:Int}{K:Int->Pw}(g:w.heap[b]? = some (.cells [.int .u64 v].toArray 256 (0,0)))(k:∀v' w',w'.heap[b]? = some (.cells [.int .u64 v'].toArray 256 (0,0))->Ext (·=b) w w'->K v' w'):fW (some ⟨b,0,none⟩) w K:=by
 apply qM
 have st:∀{w:Wd}{v v':Int}{K:Pw},w.heap[b]? = some (.cells [.int .u64 v].toArray 256 (0,0))->(∀w',w'.heap[b]? = some (.cells [.int .u64 v'].toArray 256 (0,0))->Ext (·=b) w w'->K w')->aF (aa w) ⟨b,0,none⟩ (.int .u64 v') K:=fun {w v v' K} g k=>
  aF.mk (w:=aa w) g (by simp) rfl fun w' h'=>k w' (h'.get (w:=aa w) g) h'.ext.aj
 refine⟨Ext No w,(Ext.refl _ _).drew,_,rfl,_,ae.cell (Cell.ai g rfl),_,rfl,_,ae.cell (Cell.ai g rfl),by decide,Ar.any fun z=>Nm.mk ⟨_,rfl,st g fun w1 g1 x1=>?_⟩⟩;refine⟨Ext No w1,(Ext.refl _ _).drew,_,rfl,_,ae.cell (Cell.ai g1 rfl),_,rfl,_,ae.cell (Cell.ai g1 rfl),by decide,Nm.mk (Nm.mk ⟨_,rfl,st g1 fun w2 g2 x2=>?_⟩)⟩;refine⟨Ext No w2,(Ext.refl _ _).drew,_,rfl,_,ae.cell (Cell.ai g2 rfl),_,rfl,_,ae.cell (Cell.ai g2 rfl),by decide,Ar.any fun z=>Nm.mk ⟨_,rfl,st g2 fun w3 g3 x3=>?_⟩⟩;exact⟨_,rfl,_,Cell.ai g3 rfl,k _ w3 g3 ((x1.trans x2 fun _ _ h=>h).trans x3 fun _ _ h=>h)⟩
theorem HB{x:Int}{K:Int->Pw}(h0:1<=x)(h1:x<=65535)(k:∀z:Int,1<=z->z<=2 * x->K z w):ft x w K:=by
 apply pV;refine Ar.u64 (by omega) (rq (by omega) h1 fun r hr h2=>⟨by omega,?_⟩);have h3:=h2 h0
 have e:(1:Int) * 2 ^ min (Int.toNat (r:Int)) (IntKind.bits .u64)=2 ^ r:=by
  rw[Int.toNat_natCast,Nat.min_eq_left (by show r<=64;omega)];simp
 rw[e]
 have h4:(1:Int)<=2 ^ r:=by
  have:=Nat.pow_pos (n:=r) (show 0 < 2 by decide);have e2:((2:Int) ^ r)=((2 ^ r:Nat):Int):=by simp
  omega
 exact Ar.u64 (by omega) (k _ h4 h3)
end
section
variable {w0 w:Wd} {base:Nat} {e:TypeId} {s:Sl} {n:Nat} {L0:List ByteArray} {cmp:Value}
theorem Ex{L:List ByteArray}{K:Pw}(hc:T_ w s cmp)(o:aT w.heap base e 1 s (strs L))(hn:L.length<=12)(k:∀L' w',L'.Perm L->aT w'.heap base e 1 s (strs L')->Ext (fun q=>s.aq=some q) w w'->K w'):di s cmp w K:=by
 apply kE;have hl:=o.len;simp only[List.length_map,Nat.mul_one]at hl;refine Ar.u64 (by omega) (rq (by omega) (by omega) fun r _ _=>?_);apply lf;refine⟨fun _ a' b' _ _ _ w'=>a'=0/\b'=(s.len:Int)/\w'=w,⟨0,rfl,rfl,rfl⟩,?_⟩;rintro _ m0 a1 b1 lim wb wp w1 ⟨rfl,rfl,rfl⟩;refine Ar.i64 (by omega) (If.dec (fun _=>Cs (n:=L.length) (L0:=L) (base:=base) (e:=e) hc ⟨⟨L,.refl _,o⟩,Ext.refl _ _,rfl⟩ (by omega) (by omega) (by omega) (by omega) fun w' h'=>?_) fun h=>by omega);obtain⟨⟨L',hp,ho⟩,hx,_⟩:=h';exact k L' w' hp ho hx
end
section
variable {w:Wd}
theorem dq.new{B:Nat->Prop}{kind lev:Int}{ls:List oT}{n b:Nat}{w':Wd}(nw:D_ w (.cells (ls.flatMap (iy kind lev)).toArray 209) b w')(hn:ls.length=n)(hB:B b)(sy:∀x∈ls,kQ w'.heap B x.s x.L)
  (Ey:∀x∈ls,cZ w'.heap x.sep x.key/\B8 x.key/\∀q,x.sep.aq=some q->B q/\q < w'.heap.size):dq w'.heap B kind lev ⟨some ⟨b,0,none⟩,n,n⟩ ls:=by
 refine⟨(aT.new (n:=n) (sz:=4) nw (by rw[aK (dK kind lev ls),hn]) (fun v hv=>?_)).rd,sy,Ey,fun q hq=>?_⟩
 .obtain⟨x,_,hx⟩:=List.mem_flatMap.1 hv;simp only[iy,List.mem_cons,List.not_mem_nil,or_false]at hx;rcases hx with h | h | h | h <;> subst h <;> rfl
 .simp[Sl.aq]at hq;subst hq;exact⟨hB,by have:=nw.size;have:=nw.at_;omega⟩
theorem Ms{kind lev:Int}{sa sb ab:Sl}{La Lb:List (aL×aH)}{above:List Int}{K:Int->Int->Sl->Bool->Pw}(na:oQ w.heap sa La)(nb:oQ w.heap sb Lb)(AU:cZ w.heap ab above)(h8:B8 above)(RM:aJ kind lev (ents La))(Nk:aJ kind lev (ents Lb))(hla:La.length<=2000)(Ud:Lb.length<=2000)(hk:above.length<=65536)
  (hj:aJ kind lev (dH kind (ents La) above (ents Lb)))
  (k1:∀s L w',(wr kind lev (dH kind (ents La) above (ents Lb))).length<=224->iP w'.heap w.heap.size s L->ents L=dH kind (ents La) above (ents Lb)->Ext No w w'->K kind lev s true w')
  (k0:∀w',224 < (wr kind lev (dH kind (ents La) above (ents Lb))).length->Ext No w w'->K 0 0 ⟨none,0,0⟩ false w'):qK kind lev sa kind lev sb ab w K:=by
 apply GZ;refine ag.mk fun b w1 n1=>ag.mk fun b1 w2 n2=>ag.mk fun b2 w3 n3=>?_
 have hb:=n1.at_;have gE:=n2.at_;have lO:=n3.at_;have z1:=n1.size;have z2:=n2.size;have z3:=n3.size;have gp:Ext No w w3:=(n1.ext.no n2.ext).no n3.ext;have g3:sg w3.heap b kind lev sa:=ad (ad n1.get n2.ext) n3.ext;have gG:sg w3.heap b1 kind lev sb:=ad n2.get n3.ext;refine oC g3 (oC gG (J_ (na.no gp) (nb.no gp) (Rd.no AU gp) h8 RM Nk hla Ud hk hj fun s L w4 nL eL x4=>vU (ad n3.get x4) rfl fun w5 g5 x5 z5=>If.not (If.yes (oC g5 ?_))));have nL5:iP w5.heap w3.heap.size s L:=nL.ext x5 fun q h1 h2 h=>by omega
 have lL:L.length=La.length+Lb.length:=by have:=congrArg List.length eL;rw[zf]at this;simpa using this
 have BB:Ext No w w5:=(gp.no x4).trans x5 fun q hq h=>by omega
 refine nC nL5.nd (by omega) (fun w7 _ x7=>If.bne (fun h=>(h rfl).elim) fun _=>If.dec (fun h=>?_) fun h=>?_) fun c w7 hn _ _=>(hn (by rw[eL];exact hj)).elim
 .rw[eL]at h;exact vU (s:=⟨none,0,0⟩) (ad g5 x7) rfl fun w9 g9 x9 z9=>oC g9 (k0 w9 (by omega) ((BB.no x7).trans x9 fun q hq h=>by omega))
 .rw[eL]at h;exact oC (ad g5 x7) (vU (ad g5 x7) rfl fun w9 g9 x9 z9=>oC g9 (k1 s L w9 (by omega) (((nL5.no x7).ext x9 fun q h1 h2 h=>by omega).mono (by omega)) eL ((BB.no x7).trans x9 fun q hq h=>by omega)))
theorem OU{kind lev:Int}{sa sb ab:Sl}{La Lb:List (aL×aH)}{above:List Int}{K:Int->Int->Sl->Int->Int->Sl->Sl->Int->Pw}(na:oQ w.heap sa La)(nb:oQ w.heap sb Lb)(AU:cZ w.heap ab above)(h8:B8 above)(RM:aJ kind lev (ents La))(Nk:aJ kind lev (ents Lb))(hla:La.length<=2000)(Ud:Lb.length<=2000)(hk:above.length<=65536)
  (hj:aJ kind lev (dH kind (ents La) above (ents Lb))) (Cu:224 < (wr kind lev (dH kind (ents La) above (ents Lb))).length) (hex:∃k,jW kind lev (dH kind (ents La) above (ents Lb)) k)
  (k0:∀(k:Nat) s1 L1 s2 L2 st w' (hk:k < (dH kind (ents La) above (ents Lb)).length),ze kind lev (dH kind (ents La) above (ents Lb)) k->iP w'.heap w.heap.size s1 L1->ents L1=(dH kind (ents La) above (ents Lb)).take k->iP w'.heap w.heap.size s2 L2->ents L2=lG kind ((dH kind (ents La) above (ents Lb)).drop k)->aU w'.heap w.heap.size st (dH kind (ents La) above (ents Lb))[k].key->B8 (dH kind (ents La) above (ents Lb))[k].key->Ext No w w'->K kind lev s1 kind lev s2 st 0 w') :
  qL kind lev sa kind lev sb ab w K:=by
 apply G_;refine ag.mk fun b w1 n1=>ag.mk fun b1 w2 n2=>ag.mk fun b2 w3 n3=>ag.mk fun b3 w4 n4=>?_
 have hb:=n1.at_;have gE:=n2.at_;have lO:=n3.at_;have xB:=n4.at_;have z1:=n1.size;have z2:=n2.size;have z3:=n3.size;have z4:=n4.size;have gF:Ext No w w4:=((n1.ext.no n2.ext).no n3.ext).no n4.ext;have g4:sg w4.heap b kind lev sa:=ad (ad (ad n1.get n2.ext) n3.ext) n4.ext;have kM:sg w4.heap b1 kind lev sb:=ad (ad n2.get n3.ext) n4.ext;have wB:=ad n3.get n4.ext;refine oC g4 (oC kM (J_ (na.no gF) (nb.no gF) (Rd.no AU gF) h8 RM Nk hla Ud hk hj fun s L w5 nL eL x5=>ag.mk fun b4 w6 n6=>vU n6.get rfl fun w7 g7 x7 z7=>If.not (If.yes (oC g7 ?_))));have Io:=n6.at_;have z6:=n6.size;have FI:Ext (·=b4) w5 w7:=n6.ext.aG.trans x7 fun _ _ h=>h
 have nL7:iP w7.heap w4.heap.size s L:=nL.ext FI fun q h1 h2 h=>by omega
 have lL:L.length=La.length+Lb.length:=by have:=congrArg List.length eL;rw[zf]at this;simpa using this
 have adH:Ext No w5 w7:=FI.mono fun q hq h=>by omega
 have wC:Ext No w4 w7:=x5.no adH;generalize hJ:dH kind (ents La) above (ents Lb)=J at *;refine CU nL7.nd (by rw[eL];exact hj) (by omega) (by rw[eL];exact Cu) (by rw[eL];exact hex) fun k s1 L1 s2 L2 st dA hk NA n1' e1 n2' e2 UC dR=>?_
 have s7:=wC.size;refine vU (ad wB (wC.no dR)) rfl fun dg Ir fY Re=>vU (af (ad n4.get (wC.no dR)) fY (by omega)) rfl fun eG JX gS Ro=>oC (af Ir gS (by omega)) (oC JX ?_)
 have xf:Ext (fun q=>q=b2∨q=b3) dA eG:=(fY.mono fun _ _ h=> .inl h).trans gS fun _ _ h=> .inr h
 subst eL
 have VP:B8 (ents L)[k].key:=by
  have e:(ents L)[k]=(L[k]'(by simpa using hk)).2:=by simp
  rw[e];exact(nL7.nd.get _).k8
 exact k0 k s1 L1 s2 L2 st eG hk NA ((n1'.ext xf fun q h1 h2 h=>by omega).mono (by omega)) e1 ((n2'.ext xf fun q h1 h2 h=>by omega).mono (by omega)) e2 (aT.mono (UC.ext xf fun q hq h=>by have:=(UC.lt hq).1;omega) (by omega)) VP (((gF.no wC).no dR).trans xf fun q hq h=>by omega)
theorem vY{B:Nat->Prop}{kind lev:Int}{s:Sl}{L:List (aL×aH)}{K:Sl->Int->Pw}(nd:kQ w.heap B s L)(hB:∀q,w.heap.size<=q->B q)(hr:ents L≠[]->aJ kind lev (ents L))(hl:L.length<=4096)(hex:224 < (wr kind lev (ents L)).length->∃k,jW kind lev (ents L) k)
  (k:∀ls sl w',dq w'.heap B kind lev sl ls->iz kind lev (ents L) (bf ls)->Ext No w w'->K sl 0 w'):dN kind lev s w K:=by
 apply GY;have nl:=nd.nd.len
 refine ag.mk fun b w1 n1=>⟨s,Cell.ai n1.get rfl,If.beq (fun h=>?_) fun h=>?_⟩
 .have:L=[]:=List.eq_nil_of_length_eq_zero (by omega);subst this;exact k [] ⟨none,0,0⟩ w1 ⟨Rd.nil _ _,by simp,by simp,by simp[Sl.aq]⟩ .nil n1.ext
 have bC:ents L≠[]:=by intro e;have:=congrArg List.length e;simp at this;simp[this]at nl;omega
 have hr:=hr bC;have hb:=n1.at_;refine⟨fun w'=>224 < (wr kind lev (ents L)).length/\Ext No w1 w',oC n1.get (nC (nd.nd.no n1.ext) (by omega) (fun w2 _ x2=>If.beq (fun _=>If.dec (fun h=>oC (ad n1.get x2) (ag.mk fun b1 w3 n3=>?_)) fun h=>⟨by omega,x2⟩) fun h=>(h rfl).elim) fun c w2 hn _ _=>(hn hr).elim),?_⟩
 .have gp:=(n1.ext.no x2).no n3.ext;have s2:=(n1.ext.no x2).size;refine k [⟨⟨none,0,0⟩,[],s,L⟩] ⟨some (Addr.mk b1 0 none),1,1⟩ w3 (dq.new n3 rfl (hB _ (by rw[n3.at_];exact s2)) (fun x hx=>?_) fun x hx=>?_) (.one bC hr (by omega)) gp
  .rw[List.mem_singleton]at hx;subst hx;exact nd.no gp
  .rw[List.mem_singleton]at hx;subst hx;exact⟨Rd.nil _ _,B8.nil,fun q hq=>by simp[Sl.aq]at hq⟩
 rintro _ w4 ⟨Cu,x4⟩;have gF:=n1.ext.no x4;refine oC (ad n1.get x4) (CU (nd.nd.no gF) hr hl Cu (hex Cu) fun k' s1 L1 s2 L2 st w5 hk NA n1' e1 n2' e2 UC x5=>ag.mk fun b2 w6 n6=>ag.mk fun b3 w7 n7=>vU (ad n6.get n7.ext) rfl fun w8 g8 x8 z8=>vU (af n7.get x8 (by have:=n6.size;have:=n7.at_;have:=n6.at_;omega)) rfl fun w9 g9 x9 z9=>If.bne (fun h=>(h rfl).elim) fun _=>oC (af g8 x9 (by have:=n6.size;have:=n7.at_;have:=n6.at_;omega)) (oC g9 (ag.mk fun b4 dA mH=>?_)));have lO:=n6.at_;have xB:=n7.at_;have z6:=n6.size;have z7:=n7.size;have LS:=mH.size;have x5w:Ext (fun q=>q=b2∨q=b3) w5 w9:=(((n6.ext.no n7.ext).aG).trans x8 fun _ _ h=> .inl h).trans x9 fun _ _ h=> .inr h
 have RU:Ext No w5 dA:=(x5w.mono fun q hq h=>by omega).no mH.ext;have s0:=gF.size;have s5:=x5.size;have s5w:=RU.size
 have VP:B8 (ents L)[k'].key:=by
  have e:(ents L)[k']=(L[k']'(by simpa using hk)).2:=by simp
  rw[e];exact(nd.nd.get _).k8
 have p1:kQ dA.heap B s1 L1:=(n1'.no RU).q fun q h _=>hB q (by omega)
 have p2:kQ dA.heap B s2 L2:=(n2'.no RU).q fun q h _=>hB q (by omega)
 have XJ:=UC.no RU;refine k [⟨⟨none,0,0⟩,[],s1,L1⟩,⟨st,(ents L)[k'].key,s2,L2⟩] ⟨some (Addr.mk b4 0 none),2,2⟩ dA (dq.new mH rfl (hB _ (by rw[mH.at_];have:=x5w.size;omega)) (fun x hx=>?_) fun x hx=>?_) ?_ ((gF.no x5).no RU)
 .simp only[List.mem_cons,List.not_mem_nil,or_false]at hx;rcases hx with h | h <;> subst h <;> assumption
 .simp only[List.mem_cons,List.not_mem_nil,or_false]at hx;rcases hx with h | h <;> subst h
  .exact⟨Rd.nil _ _,B8.nil,fun q hq=>by simp[Sl.aq]at hq⟩
  .exact⟨XJ.rd,VP,fun q hq=>⟨hB q (by have:=(XJ.lt hq).1;omega),(XJ.lt hq).2⟩⟩
 .have:=iz.two hr Cu NA hk;rw[<- e1,<- e2]at this;exact this
theorem OV{B:Nat->Prop}{kind lev:Int}{sn sm ab:Sl}{Ln Lm:List (aL×aH)}{above:List Int}{left:Bool}{J:List aH}{K:Sl->Int->Pw}(nn:oQ w.heap sn Ln)(nm:oQ w.heap sm Lm)(AU:cZ w.heap ab above)(h8:B8 above)(hrn:aJ kind lev (ents Ln))(hrm:aJ kind lev (ents Lm))(UH:Ln.length<=2000)(hlm:Lm.length<=2000)(hk:above.length<=65536)(hB:∀q,w.heap.size<=q->B q)
  (eJ:J=dH kind (ents (if left then Lm else Ln)) above (ents (if left then Ln else Lm))) (hj:aJ kind lev J) (bC:J≠[]) (hex:224 < (wr kind lev J).length->∃k,jW kind lev J k)
  (k:∀ls sl w',dq w'.heap B kind lev sl ls->iz kind lev J (bf ls)->Ext No w w'->K sl 0 w'):eS kind lev sn kind lev sm ab left w K:=by
 apply Ji;refine ag.mk fun b w1 n1=>ag.mk fun b1 w2 n2=>?_
 have hb:=n1.at_;have gE:=n2.at_;have z1:=n1.size;have z2:=n2.size;have hZ:Ext No w w2:=n1.ext.no n2.ext;have g2:sg w2.heap b kind lev sn:=ad n1.get n2.ext;have JX:sg w2.heap b1 kind lev sm:=n2.get;refine⟨fun w'=>sg w'.heap b kind lev (if left then sm else sn)/\sg w'.heap b1 kind lev (if left then sn else sm)/\Ext No w w',If.cases (fun h=>?_) fun h=>?_,?_⟩
 .subst h;refine oC JX (oC g2 (vU g2 rfl fun w3 g3 x3 z3=>vU (af JX x3 (by omega)) rfl fun w4 g4 x4 z4=>⟨af g3 x4 (by omega),g4,(hZ.trans x3 fun q _ h=>by omega).trans x4 fun q _ h=>by omega⟩))
 .subst h;exact⟨g2,JX,hZ⟩
 rintro _ w5 ⟨g5,HC,x5⟩;have hA:oQ w5.heap (if left then sm else sn) (if left then Lm else Ln):=by split <;> simp_all <;> first | exact nm.no x5 | exact nn.no x5
 have hBn:oQ w5.heap (if left then sn else sm) (if left then Ln else Lm):=by split <;> simp_all <;> first | exact nm.no x5 | exact nn.no x5
 have rA:aJ kind lev (ents (if left then Lm else Ln)):=by split <;> assumption
 have rB:aJ kind lev (ents (if left then Ln else Lm)):=by split <;> assumption
 have lA:(if left then Lm else Ln).length<=2000:=by split <;> assumption
 have lB:(if left then Ln else Lm).length<=2000:=by split <;> assumption
 generalize(if left then sm else sn)=sA at *;generalize(if left then sn else sm)=sB at *;generalize(if left then Lm else Ln)=LA at *;generalize(if left then Ln else Lm)=LB at *;have s5:=x5.size;rw[eJ]at hj bC hex;refine oC g5 (oC HC (Ms hA hBn (Rd.no AU x5) h8 rA rB lA lB hk hj (fun s L w6 hs nL eL x6=>ag.mk fun b2 w7 n7=>vU n7.get rfl fun w8 g8 x8 z8=>If.yes (oC g8 (ag.mk fun b3 w9 n9=>?_))) fun w6 Cu x6=>ag.mk fun b2 w7 n7=>vU (s:=⟨none,0,0⟩) n7.get rfl fun w8 g8 x8 z8=>If.no (oC (ad g5 ((x6.no n7.ext).trans x8 fun q hq h=>?_)) (oC (ad HC ((x6.no n7.ext).trans x8 fun q hq h=>?_)) ?_))))
 .have lO:=n7.at_;have z7:=n7.size;have z9:=n9.size;have s6:=x6.size;have Q_:Ext No w6 w9:=((n7.ext.aG.trans (S:=fun q=>q=b2) x8 fun _ _ h=>h).mono fun q hq h=>by omega).no n9.ext;have p1:kQ w9.heap B s L:=(nL.no Q_).q fun q h _=>hB q (by omega)
  refine k [⟨⟨none,0,0⟩,[],s,L⟩] ⟨some (Addr.mk b3 0 none),1,1⟩ w9 (dq.new n9 rfl (hB _ (by have:=n9.at_;omega)) (fun x hx=>?_) fun x hx=>?_) ?_ ((x5.no x6).no Q_)
  .rw[List.mem_singleton]at hx;subst hx;exact p1
  .rw[List.mem_singleton]at hx;subst hx;exact⟨Rd.nil _ _,B8.nil,fun q hq=>by simp[Sl.aq]at hq⟩
  .have:=iz.one bC hj hs;rw[eJ];rw[<- eL]at this ⊢;exact this
 .have:=n7.at_;have:=x6.size;have:=blt g5;omega
 .have:=n7.at_;have:=x6.size;have:=blt g5;omega
 .have lO:=n7.at_;have z7:=n7.size;have s6:=x6.size;have xZ:Ext No w5 w8:=(x6.no n7.ext).trans x8 fun q hq h=>by omega
  have qq:=x5.no xZ;refine OU (hA.no xZ) (hBn.no xZ) (Rd.no AU qq) h8 rA rB lA lB hk hj Cu (hex Cu) fun k' s1 L1 s2 L2 st dA V0 NA n1' e1 n2' e2 UC VP dR=>ag.mk fun b4 dg pB=>ag.mk fun b5 eG lD=>vU (ad pB.get lD.ext) rfl fun cX gG eE K2=>vU (af lD.get eE (by have:=pB.size;have:=lD.at_;have:=pB.at_;omega)) rfl fun c_ kM gH TA=>oC (af gG gH (by have:=pB.size;have:=lD.at_;have:=pB.at_;omega)) (oC kM (ag.mk fun b6 dU NB=>?_))
  have Io:=pB.at_;have Qi:=lD.at_;have Re:=pB.size;have Ro:=lD.size;have Xw:=NB.size;have tK:Ext (fun q=>q=b4∨q=b5) dA c_:=(((pB.ext.no lD.ext).aG).trans eE fun _ _ h=> .inl h).trans gH fun _ _ h=> .inr h
  have NH:Ext No dA dU:=(tK.mono fun q hq h=>by omega).no NB.ext;have s8:=qq.size;have OC:=dR.size;have V1:=tK.size;have p1:kQ dU.heap B s1 L1:=(n1'.no NH).q fun q h _=>hB q (by omega)
  have p2:kQ dU.heap B s2 L2:=(n2'.no NH).q fun q h _=>hB q (by omega)
  have XJ:=UC.no NH;refine k [⟨⟨none,0,0⟩,[],s1,L1⟩,⟨st,(dH kind (ents LA) above (ents LB))[k'].key,s2,L2⟩] ⟨some (Addr.mk b6 0 none),2,2⟩ dU (dq.new NB rfl (hB _ (by have:=NB.at_;omega)) (fun x hx=>?_) fun x hx=>?_) ?_ ((qq.no dR).no NH)
  .simp only[List.mem_cons,List.not_mem_nil,or_false]at hx;rcases hx with h | h <;> subst h <;> assumption
  .simp only[List.mem_cons,List.not_mem_nil,or_false]at hx;rcases hx with h | h <;> subst h
   .exact⟨Rd.nil _ _,B8.nil,fun q hq=>by simp[Sl.aq]at hq⟩
   .exact⟨XJ.rd,VP,fun q hq=>⟨hB q (by have:=(XJ.lt hq).1;omega),(XJ.lt hq).2⟩⟩
  .have:=iz.two hj Cu NA V0;rw[eJ];rw[<- e1,<- e2]at this;exact this
end
end Go.Proofs.YtpjbalhhlaofmaaGreat
namespace Go.V
abbrev Bp(k:List Int)(r:Rf):aH:=⟨k,[],0,.z,r⟩
def tM:List (List Int×List aH)->List Rf->List aH
 | (k,_)::ls,r::rs=>Bp k r::tM ls rs
 | _,_=>[]
def gO(first:List Int):List (List Int×List aH)->List Rf->List aH
 | _::ls,r::rs=>Bp first r::tM ls rs
 | _,_=>[]
theorem CW:∀{ls:List (List Int×List aH)}{rs:List Rf},rs.length<=ls.length->(tM ls rs).length=rs.length
 | _,[],_=>by unfold tM;split <;> simp_all
 | [],_::_,h=>by simp at h
 | x::ls,r::rs,h=>by
  obtain⟨k,l⟩:=x;simp only[tM,List.length_cons]at h ⊢;rw[CW (by omega)]
theorem CX{first:List Int}{ls:List (List Int×List aH)}{rs:List Rf}(h:rs.length<=ls.length):(gO first ls rs).length=rs.length:=by
 cases ls with
 | nil=>cases rs with
  | nil=>rfl
  | cons=>simp at h
 | cons x ls=>cases rs with
  | nil=>rfl
  | cons r rs=>simp only[gO,List.length_cons]at h ⊢;rw[CW (by omega)]
theorem Ae:∀{ls:List (List Int×List aH)}{rs:List Rf}{r:Rf}(h:rs.length < ls.length),tM ls (rs++[r])=tM ls rs++[Bp ls[rs.length].1 r]
 | [],rs,r,h=>by simp at h
 | x::ls,[],r,h=>by obtain⟨k,l⟩:=x;cases ls <;> rfl
 | x::ls,r0::rs,r,h=>by
  obtain⟨k,l⟩:=x;simp only[List.length_cons]at h;simp only[List.cons_append,tM,List.length_cons,List.getElem_cons_succ];rw[Ae (by omega)]
theorem Af{first:List Int}{ls:List (List Int×List aH)}{rs:List Rf}{r:Rf}(h:rs.length < ls.length):gO first ls (rs++[r])=gO first ls rs++[Bp (if rs.length=0 then first else ls[rs.length].1) r]:=by
 cases ls with
 | nil=>simp at h
 | cons x ls=>cases rs with
  | nil=>cases ls <;> rfl
  | cons r0 rs=>
   simp only[List.length_cons]at h;simp only[List.cons_append,gO,List.length_cons,List.getElem_cons_succ];rw[Ae (by omega),if_neg (by omega)]
section
variable {f:bH} {t:Int}
structure LD where
 k:List Int
 l:List aH
 kv:List KV
 p:List Rf
theorem jX.data{lev:Nat}{ls:List (List Int×List aH)}{FJ:List KV}{pm:List Rf}(h:jX f t lev ls FJ pm):∃D:List LD,D.map (fun d=>(d.k,d.l))=ls/\(D.map LD.kv).flatten=FJ/\(D.map LD.p).flatten=pm/\(∀d∈D,vW f t lev d.l d.kv d.p)/\D.length<=2/\
  (∀d1 d2,D=[d1,d2]->1<=d2.k.length/\d2.k.length<=32/\B8 d2.k/\(∀x∈d1.kv,bW x.1 d2.k)/\(∀x∈d2.kv,¬ bW x.1 d2.k)/\(0 < lev->2<=d1.l.length/\2<=d2.l.length)):=by
 cases h with
 | nil=>exact⟨[],rfl,rfl,rfl,by simp,by simp,fun _ _ h=>by cases h⟩
 | @one l kvs ps h=>exact⟨[⟨[],l,FJ,pm⟩],rfl,by simp,by simp,by simpa using h,by simp,fun _ _ h=>by cases h⟩
 | @two l1 l2 k1 k2 p1 p2 sep h1 h2 s1 s2 s8 lo hi n1 n2=>
  refine⟨[⟨[],l1,k1,p1⟩,⟨sep,l2,k2,p2⟩],rfl,by simp,by simp,fun d hd=>?_,by simp,fun d1 d2 h=>?_⟩
  .simp only[List.mem_cons,List.not_mem_nil,or_false]at hd;rcases hd with h | h <;> subst h <;> assumption
  .simp only[List.cons.injEq,and_true]at h;obtain⟨rfl,rfl⟩:=h;exact⟨s1,s2,s8,lo,hi,fun h=>⟨n1 h,n2 h⟩⟩
theorem aM.one{Q:Rf->List KV->List Rf->Prop}{e:aH}{kv:List KV}{p:List Rf}(h:Q e.cd kv p)(lo:∀x∈kv,¬ bW x.1 e.key):aM Q [e] kv p:=by
 have:=aM.cons (l:=[]) (kvs:=[]) (ps:=[]) h lo (fun _ _ h=>by cases h) .nil;simpa using this
theorem OW{l:List aH}(h:kT l):kT (jo l):=by
 cases l with
 | nil=>exact h
 | cons e l=>
  have h2:=List.pairwise_cons.1 h;exact List.pairwise_cons.2 ⟨fun y hy=>bW.nil (h2.1 y hy).ne_nil,h2.2⟩
theorem RV{l:List aH}(h1:∀e∈l,e.cd ≠ .z/\e.ch = .z/\e.val.length=0/\e.n=0/\e.key.length<=32)(h2:kT l):xK (jo l):=by
 refine⟨fun e he=>?_,OW h2,fun e l' hl=>?_⟩
 .cases l with
  | nil=>cases he
  | cons e' l=>
   rcases List.mem_cons.1 he with h' | h'
   .subst h';have:=h1 e' (by simp);exact⟨this.1,this.2.1,this.2.2.1,this.2.2.2.1,by simp⟩
   .exact h1 e (List.mem_cons_of_mem _ h')
 .cases l with
  | nil=>cases hl
  | cons e' l=>simp only[jo,List.cons.injEq]at hl;rw[<- hl.1]
theorem OX{l:List aH}:szL 2 (jo l)<=szL 2 l:=by
 cases l with
 | nil=>exact Nat.le_refl _
 | cons e l=>
  rw[jo,dC,dC];have:=Hz 2 e [];simp only[List.length_nil]at this;omega
theorem Mt{lev:Nat}{a c:List aH}{mid:aH}{D:List LD}{rs:List Rf}{ka kc:List KV}{pa pc:List Rf}(hi:xK (a++(mid::c)))(ok:sS (a++(mid::c)))(dn:lev+1<=30)
  (ba:aM (bu f t lev) a ka pa) (bc:aM (bu f t lev) c kc pc) (OY:∀x∈ka,bW x.1 mid.key)
  (hD:∀i (h:i < D.length) (h':i < rs.length),bu f t lev rs[i] D[i].kv (rs[i]::D[i].p)) (hlen:rs.length=D.length) (hr:∀r∈rs,r.ok/\r ≠ .z) (JR:D.length<=2)
  (two:∀d1 d2,D=[d1,d2]->1<=d2.k.length/\d2.k.length<=32/\B8 d2.k/\(∀x∈d1.kv,bW x.1 d2.k)/\(∀x∈d2.kv,¬ bW x.1 d2.k))
  (lo:∀d∈D,∀x∈d.kv,¬ bW x.1 mid.key) (hc:∀e∈c,∀d∈D,∀x∈d.kv,bW x.1 e.key) :
  (jo (a++(gO mid.key (D.map fun d=>(d.k,d.l)) rs++c))≠[]->aJ 2 ((lev+1:Nat):Int) (jo (a++(gO mid.key (D.map fun d=>(d.k,d.l)) rs++c))))/\
  sS (jo (a++(gO mid.key (D.map fun d=>(d.k,d.l)) rs++c)))/\
  (∃pm,aM (bu f t lev) (jo (a++(gO mid.key (D.map fun d=>(d.k,d.l)) rs++c))) (ka++((D.map LD.kv).flatten++kc)) (pa++(pm++pc))/\∀q,pm.count q=rs.count q+(D.map LD.p).flatten.count q)/\
  szL 2 (jo (a++(gO mid.key (D.map fun d=>(d.k,d.l)) rs++c)))<=szL 2 (a++(mid::c))+47:=by
 have od:=hi.xL;obtain⟨ra,rmc,ZK⟩:=fC.1 od;obtain⟨rm,rc⟩:=List.pairwise_cons.1 rmc;have aaZ:=hi.iw mid (by simp);have okm:=ok mid (by simp);have oka:sS a:=fun e he=>ok e (by simp[he])
 have okc:sS c:=fun e he=>ok e (by simp[he])
 have adI:∀e∈a,e.cd ≠ .z/\e.ch = .z/\e.val.length=0/\e.n=0/\e.key.length<=32:=fun e he=>hi.iw e (by simp[he])
 have adJ:∀e∈c,e.cd ≠ .z/\e.ch = .z/\e.val.length=0/\e.n=0/\e.key.length<=32:=fun e he=>hi.iw e (by simp[he])
 have Cz:∀e b',c=e::b'->∀x∈ka,bW x.1 e.key:=fun e b' h x hx=>(OY x hx).trans (rm e (by rw[h];simp))
 have okE:∀{k:List Int}{r:Rf},B8 k->r.ok->((Bp k r).ch.ok/\(Bp k r).cd.ok)/\B8 (Bp k r).key/\B8 (Bp k r).val:=fun h1 h2=>⟨⟨by show Rf.z.ok;decide,h2⟩,h1,B8.nil⟩
 have XK:∀{k:List Int}{r:Rf},k.length<=32->r ≠ .z->(Bp k r).cd ≠ .z/\(Bp k r).ch = .z/\(Bp k r).val.length=0/\(Bp k r).n=0/\(Bp k r).key.length<=32:=fun h1 h2=>⟨h2,rfl,rfl,rfl,h1⟩
 have szm:(wrE 2 mid).length=15+mid.key.length:=oU
 have fin:∀{fr:List aH},gO mid.key (D.map fun d=>(d.k,d.l)) rs=fr->(∀e∈fr,e.cd ≠ .z/\e.ch = .z/\e.val.length=0/\e.n=0/\e.key.length<=32)->sS fr->kT (a++(fr++c))->(∃pm,aM (bu f t lev) fr ((D.map LD.kv).flatten) pm/\∀q,pm.count q=rs.count q+(D.map LD.p).flatten.count q)->(∀e b',fr++c=e::b'->∀x∈ka,bW x.1 e.key)->szL 2 fr<=15+mid.key.length+47->
   (jo (a++(fr++c))≠[]->aJ 2 ((lev+1:Nat):Int) (jo (a++(fr++c))))/\sS (jo (a++(fr++c)))/\(∃pm,aM (bu f t lev) (jo (a++(fr++c))) (ka++((D.map LD.kv).flatten++kc)) (pa++(pm++pc))/\∀q,pm.count q=rs.count q+(D.map LD.p).flatten.count q)/\szL 2 (jo (a++(fr++c)))<=szL 2 (a++(mid::c))+47:=fun {fr} _ e1 e2 e3 e4 e5 e6=>by
  refine⟨fun bC=>(RV (fun e he=>?_) e3).right bC (by omega),sS.jo (oka.append (e2.append okc)),?_,?_⟩
  .rcases List.mem_append.1 he with h | h
   .exact adI e h
   .exact(List.mem_append.1 h).elim (e1 e) (adJ e)
  .obtain⟨pm,h1,h2⟩:=e4;refine⟨pm,aM.jo (aM.append ba (aM.append h1 bc fun e b' h x hx=>?_) e5),h2⟩;obtain⟨l',hl',Fb⟩:=List.mem_flatten.1 hx;obtain⟨d,hd,rfl⟩:=List.mem_map.1 hl';exact hc e (by rw[h];simp) d hd x Fb
  .refine Nat.le_trans OX ?_;rw[dJ,dJ,dJ,dC,szm];omega
 have shape:(D=[]/\rs=[])∨(∃d r,D=[d]/\rs=[r])∨∃d1 d2 r1 r2,D=[d1,d2]/\rs=[r1,r2]:=by
  match D,rs,hlen,JR with
  | [],[],_,_=>exact .inl ⟨rfl,rfl⟩
  | [d],[r],_,_=>exact .inr (.inl ⟨d,r,rfl,rfl⟩)
  | [d1,d2],[r1,r2],_,_=>exact .inr (.inr ⟨d1,d2,r1,r2,rfl,rfl⟩)
 rcases shape with⟨rfl,rfl⟩ | ⟨d,r,rfl,rfl⟩ | ⟨d1,d2,r1,r2,rfl,rfl⟩
 ·
  refine fin (fr:=[]) rfl (by simp) (fun e he=>by cases he) (fC.2 ⟨ra,rc,fun x hx y hy=>ZK x hx y (List.mem_cons_of_mem _ hy)⟩) ⟨[],.nil,fun q=>rfl⟩ (fun e b' h=>Cz e b' h) (by simp[szL])
 ·
  have hs:=hD 0 (by simp) (by simp);have h1:=hr r (by simp);refine fin (fr:=[Bp mid.key r]) rfl (fun e he=>by rw[List.mem_singleton]at he;subst he;exact XK aaZ.2.2.2.2 h1.2) (fun e he=>by rw[List.mem_singleton]at he;subst he;exact okE okm.2.1 h1.1) (fC.2 ⟨ra,List.pairwise_cons.2 ⟨fun y hy=>rm y hy,rc⟩,fun x hx y hy=>?_⟩) ⟨r::d.p,by simpa using aM.one (e:=Bp mid.key r) hs (lo d (by simp)),fun q=>by simp only[List.map_cons,List.map_nil,List.flatten_cons,List.flatten_nil,List.append_nil,List.count_cons,List.count_nil];omega⟩ (fun e b' h x hx=>?_) (by rw[dC,oU,q_];simp only;omega)
  .rcases List.mem_cons.1 hy with h | h
   .subst h;exact ZK x hx mid (by simp)
   .exact ZK x hx y (List.mem_cons_of_mem _ h)
  .simp only[List.cons_append,List.nil_append,List.cons.injEq]at h;rw[<- h.1];exact OY x hx
 ·
  have JA:=hD 0 (by simp) (by simp);have Ip:=hD 1 (by simp) (by simp);have h1:=hr r1 (by simp);have h2:=hr r2 (by simp);obtain⟨t1,t2,t3,t4,t5⟩:=two d1 d2 rfl;obtain⟨u1,hu1⟩:=List.exists_mem_of_ne_nil _ JA.ne;obtain⟨u2,VB⟩:=List.exists_mem_of_ne_nil _ Ip.ne;have ltm:bW mid.key d2.k:=bW.of_le (lo d1 (by simp) u1 hu1) (t4 u1 hu1);have ltc:∀y∈c,bW d2.k y.key:=fun y hy=>bW.of_le (t5 u2 VB) (hc y hy d2 (by simp) u2 VB)
  have k1:aM (bu f t lev) [Bp mid.key r1] d1.kv (r1::d1.p):=aM.one JA (lo d1 (by simp));have k2:aM (bu f t lev) [Bp d2.k r2] d2.kv (r2::d2.p):=aM.one Ip t5;refine fin (fr:=[Bp mid.key r1,Bp d2.k r2]) rfl (fun e he=>?_) (fun e he=>?_) (fC.2 ⟨ra,List.pairwise_cons.2 ⟨fun y hy=>?_,List.pairwise_cons.2 ⟨fun y hy=>ltc y hy,rc⟩⟩,fun x hx y hy=>?_⟩) ⟨(r1::d1.p)++(r2::d2.p),?_,fun q=>?_⟩ (fun e b' h x hx=>?_) (by rw[dC,dC,oU,oU,q_];simp only;omega)
  .simp only[List.mem_cons,List.not_mem_nil,or_false]at he;rcases he with h | h <;> subst h
   .exact XK aaZ.2.2.2.2 h1.2
   .exact XK t2 h2.2
  .simp only[List.mem_cons,List.not_mem_nil,or_false]at he;rcases he with h | h <;> subst h
   .exact okE okm.2.1 h1.1
   .exact okE t3 h2.1
  .rcases List.mem_cons.1 hy with h | h
   .subst h;exact ltm
   .exact rm y h
  .rcases List.mem_cons.1 hy with h | h
   .subst h;exact ZK x hx mid (by simp)
   .rcases List.mem_cons.1 h with h | h
    .subst h;exact(ZK x hx mid (by simp)).trans ltm
    .exact ZK x hx y (List.mem_cons_of_mem _ h)
  .have:=aM.append k1 k2 (fun e b' h x hx=>by simp only[List.cons.injEq]at h;rw[<- h.1];exact t4 x hx);simpa using this
  .simp only[List.map_cons,List.map_nil,List.flatten_cons,List.flatten_nil,List.append_nil,List.count_cons,List.count_nil,List.count_append];omega
  .simp only[List.cons_append,List.nil_append,List.cons.injEq]at h;rw[<- h.1];exact OY x hx
end
end Go.V
namespace Go.Proofs.YtpjbalhhlaofmaaGreat
open Go.V
section
variable {w0 w:Wd} {base:Nat} {e:TypeId} {s:Sl} {n:Nat} {L0:List Int}
theorem oW{x y:Int}{K:Bool->Pw}(k:∀r w',Ext No w w'->K r w'):av x y w K:=by
 apply wZ;refine nQ (If.cases (fun _=>nQ (If.not (If.cases (fun _=>k _ _ (Ext.refl _ _)) fun _=>k _ _ (Ext.refl _ _)))) fun _=>k _ _ (Ext.refl _ _))
abbrev si(L:List Int):List Value:=L.map (Value.int .u32)
theorem Ix.u32{w:Wd}{base:Nat}{e:TypeId}{s:Sl}{L:List Int}{i:Int}{K:Addr->Prop}(o:aT w.heap base e 1 s (si L))(h0:0<=i)(h1:i.toNat < L.length)
  (k:∀b,s.a=some ⟨b,0,none⟩->Cell w ⟨b,i.toNat,none⟩ (.int .u32 L[i.toNat])->K ⟨b,i.toNat,none⟩):Ix s.a s.len i 1 K:=by
 have hl:=o.len;simp only[List.length_map,Nat.mul_one]at hl;have bC:si L≠[]:=by intro h;rw[List.map_eq_nil_iff]at h;rw[h]at h1;simp at h1
 obtain⟨b,rest,ha,_,hb,_,_⟩:=o.place bC;refine⟨_,ha,h0,by omega,?_⟩;rw[ay rfl];simp only[Nat.zero_add,Nat.mul_one];refine k b ha (Cell.ai hb ?_);rw[List.getElem?_append_left (by simpa using h1)];simp[h1]
structure fN(w0:Wd)(base:Nat)(e:TypeId)(s:Sl)(n:Nat)(L0:List Int)(w:Wd):Prop where
 own:∃L:List Int,L.Perm L0/\aT w.heap base e 1 s (si L)
 ext:Ext (fun q=>s.aq=some q) w0 w
 n:L0.length=n
theorem fN.no{w':Wd}(h:fN w0 base e s n L0 w)(x:Ext No w w'):fN w0 base e s n L0 w':=by
 obtain⟨⟨L,hp,ho⟩,hx,hn⟩:=h;exact⟨⟨L,hp,ho.no x⟩,hx.no x,hn⟩
theorem fN.drew{w':Wd}(h:fN w0 base e s n L0 w)(x:Ext No (aa w) w'):fN w0 base e s n L0 w':=h.no x.aj
theorem fN.at_{i:Int}{K:Addr->Prop}(h:fN w0 base e s n L0 w)(h0:0<=i)(h1:i < n)(k:∀b v,Cell w ⟨b,i.toNat,none⟩ (.int .u32 v)->K ⟨b,i.toNat,none⟩):Ix s.a s.len i 1 K:=by
 obtain⟨⟨L,hp,ho⟩,hx,hn⟩:=h;exact Ix.u32 ho h0 (by have:=hp.length_eq;omega) fun b _ c=>k b _ c
theorem fN.rd{i:Int}{K:Int->Prop}(h:fN w0 base e s n L0 w)(h0:0<=i)(h1:i < n)(k:∀v,K v):Ix s.a s.len i 1 fun a=>∃vv:Int,ae (Ext No w) a (.int .u32 vv)/\K vv:=
 h.at_ h0 h1 fun _ v c=>⟨v,ae.cell c,k v⟩
theorem Ez{L:List Int}{x y:Nat}(hx:x < L.length)(hy:y < L.length):((L.set y L[x]).set x L[y]).Perm L:=by
 exact List.set_set_perm hy hx
theorem FK{L:List Int}{i:Nat}{v:Int}:(si L).set i (.int .u32 v)=si (L.set i v):=List.map_set.symm
def XL(s:Sl)(S:Pw)(w:Wd)(x y:Int)(AT Er:Addr)(K:Pw):Prop:=
  (∃vv:Int,Cell (aa w) AT (.int .u32 vv)/\S (aa w)/\∃sE:Int,Cell (aa w) Er (.int .u32 sE)/\S (aa w)/\
   Ix s.a s.len y 1 fun Jx=>aF (aa w) Jx (.int .u32 vv) fun w2=>S w2/\Ix s.a s.len x 1 fun LP=>aF w2 LP (.int .u32 sE) fun w3=>S w3/\K w3)/\
  (∃vj:Int,Cell (aa w) Er (.int .u32 vj)/\S (aa w)/\∃Cr:Int,Cell (aa w) AT (.int .u32 Cr)/\S (aa w)/\
   Ix s.a s.len y 1 fun QW=>aF (aa w) QW (.int .u32 Cr) fun w4=>S w4/\Ix s.a s.len x 1 fun Xh=>aF w4 Xh (.int .u32 vj) fun w5=>S w5/\K w5)
theorem fN.swp{S:Pw}{x y:Int}{K:Pw}(hS:∀w,S w)(h:fN w0 base e s n L0 w)(x0:0<=x)(x1:x < n)(y0:0<=y)(y1:y < n)(k:∀w',fN w0 base e s n L0 w'->Ext (fun q=>s.aq=some q) w w'->K w') :
  ∃b,s.a=some ⟨b,0,none⟩/\s.len=n/\XL s S w x y ⟨b,x.toNat,none⟩ ⟨b,y.toNat,none⟩ K:=by
 obtain⟨⟨L,hp,ho⟩,hx,hn⟩:=h;have xW:=hp.length_eq;have x2:x.toNat < L.length:=by omega
 have y2:y.toNat < L.length:=by omega
 have hl:=ho.len;simp only[List.length_map,Nat.mul_one]at hl
 have both:Ix s.a s.len y 1 fun Jx=>aF (aa w) Jx (.int .u32 L[x.toNat]) fun w2=>S w2/\Ix s.a s.len x 1 fun LP=>aF w2 LP (.int .u32 L[y.toNat]) fun w3=>S w3/\K w3:=by
  refine Ix.u32 (w:=aa w) ho y0 y2 fun b ha _=>?_
  refine aF.at_ (w:=aa w) ho ha (by simpa using y2) rfl fun w2 o2 e2 _=>⟨hS _,?_⟩
  rw[FK]at o2;refine Ix.u32 o2 x0 (by simpa using x2) fun b' QT _=>?_
  refine aF.at_ o2 QT (by simpa using x2) rfl fun w3 o3 e3 _=>⟨hS _,?_⟩
  rw[FK]at o3;have ex:Ext (fun q=>s.aq=some q) w w3:=e2.aj.trans e3 fun _ _ h=>h
  exact k w3 ⟨⟨_,(Ez x2 y2).trans hp,o3⟩,hx.trans ex fun _ _ h=>h,hn⟩ ex
 have bC:si L≠[]:=by intro h;rw[List.map_eq_nil_iff]at h;rw[h]at x2;simp at x2
 obtain⟨b,rest,ha,_,hb,_,_⟩:=ho.place bC;have cell:∀i (h:i < L.length),Cell (aa w) ⟨b,i,none⟩ (.int .u32 L[i]):=fun i h=>Cell.ai (w:=aa w) hb (by rw[List.getElem?_append_left (by simpa using h)];simp[h])
 exact⟨b,ha,by omega,⟨_,cell _ x2,hS _,_,cell _ y2,hS _,both⟩,_,cell _ y2,hS _,_,cell _ x2,hS _,both⟩
theorem jY{S:Pw}{x y:Int}{K:Pw}(hS:∀w,S w)(h:fN w0 base e s n L0 w)(x0:0<=x)(x1:x < n)(y0:0<=y)(y1:y < n)(k:∀w',fN w0 base e s n L0 w'->Ext (fun q=>s.aq=some q) w w'->K w') :
  Ix s.a s.len x 1 fun AT=>Ix s.a s.len y 1 fun Er=>XL s S w x y AT Er K:=by
 obtain⟨b,ha,hl,hk⟩:=h.swp hS x0 x1 y0 y1 k;exact Ix.of ha x0 (by omega) (Ix.of ha y0 (by omega) hk)
theorem UI{S:Pw}{x y:Int}{K:Pw}(hS:∀w,S w)(h:fN w0 base e s n L0 w)(x0:0<=x)(x1:x < n)(y0:0<=y)(y1:y < n)(hn:n<=65535)(k:∀w',fN w0 base e s n L0 w'->Ext (fun q=>s.aq=some q) w w'->K w') :
  Ix s.a s.len x 1 fun AT=>Ar .i64 y fun y'=>Ix s.a s.len y' 1 fun Er=>XL s S w x y AT Er K:=by
 obtain⟨b,ha,hl,hk⟩:=h.swp hS x0 x1 y0 y1 k;exact Ix.of ha x0 (by omega) (Ar.i64 (by omega) (Ix.of ha y0 (by omega) hk))
theorem Br{a b:Int}{K:Pw}(h:fN w0 base e s n L0 w)(h0:0<=a)(hb:b<=n)(hn:n<=65535)(AU:a<=65535)(k:∀w',fN w0 base e s n L0 w'->K w'):cH s a b w K:=by
 apply ir;refine Ar.i64 (by omega) ⟨fun q i w'=>q=(b - i).toNat/\a+1<=i/\i<=70000/\fN w0 base e s n L0 w',⟨_,rfl,by omega,by omega,h⟩,?_⟩;rintro _ m0 i w1 ⟨hm,hi,qp,h1⟩;refine If.dec (fun VI=>?_) fun VI=>k w1 h1
 refine⟨fun q j w'=>q=(j - a).toNat/\a<=j/\j<=i/\fN w0 base e s n L0 w',⟨_,rfl,by omega,by omega,h1⟩,?_⟩;rintro _ m1 j w2 ⟨BQ,hj,Im,h2⟩;have out:∀w',fN w0 base e s n L0 w'->Ar .i64 (i+1) fun z=>∃m1,m1 < m0/\(m1=(b - z).toNat/\a+1<=z/\z<=70000/\fN w0 base e s n L0 w'):=fun w' h'=>Ar.i64 (by omega) ⟨_,by omega,rfl,by omega,by omega,h'⟩
 refine⟨fun w'=>fN w0 base e s n L0 w'/\a < j,⟨Ext No w2,(Ext.refl _ _).drew,If.dec (fun Zr=>h2.rd (by omega) (by omega) fun x=>Ar.i64 (by omega) (h2.rd (by omega) (by omega) fun y=>oW fun r w3 x3=>⟨x3.aj,If.cases (fun _=>⟨h2.drew x3,Zr⟩) fun _=>out _ (h2.drew x3)⟩)) fun _=>out _ (h2.no (Ext.refl _ _).drew)⟩,?_⟩;rintro _ w4 ⟨h4,Zr⟩;exact⟨fun _=>True,trivial,Ar.i64 (by omega) (Ar.i64 (by omega) (jY (fun _=>trivial) h4 (by omega) (by omega) (by omega) (by omega) fun w6 h6 _=>Ar.i64 (by omega) ⟨_,by omega,rfl,by omega,by omega,h6⟩))⟩
theorem tN{lo hi first:Int}{K:Pw}(h:fN w0 base e s n L0 w)(h0:0<=lo)(hf:0<=first)(hb:first+hi<=n)(hn:n<=65535)(OQ:lo<=65535)(k:∀w',fN w0 base e s n L0 w'->K w'):bF s lo hi first w K:=by
 apply kF;refine⟨fun q root w'=>q=(hi - root).toNat/\0<=root/\root<=65535/\fN w0 base e s n L0 w',⟨_,rfl,h0,OQ,h⟩,?_⟩;rintro _ m0 root w1 ⟨hm,hr,OZ,h1⟩;refine Ar.i64 (by omega) (Ar.i64 (by omega) (If.dec (fun _=>k w1 h1) fun ZL=>?_));refine⟨fun child w'=>root < child/\child < hi/\fN w0 base e s n L0 w',⟨Ext No w1,(Ext.refl _ _).drew,Ar.i64 (by omega) (If.dec (fun zQ=>Ar.i64 (by omega) (h1.rd (by omega) (by omega) fun x=>Ar.i64 (by omega) (Ar.i64 (by omega) (h1.rd (by omega) (by omega) fun y=>oW fun r w2 x2=>⟨x2.aj,If.cases (fun _=>Ar.i64 (by omega) ⟨by omega,by omega,h1.drew x2⟩) fun _=>⟨by omega,by omega,h1.drew x2⟩⟩)))) fun zQ=>⟨by omega,by omega,h1.no (Ext.refl _ _).drew⟩)⟩,?_⟩;rintro _ child w3 ⟨hc1,zQ,h3⟩;refine⟨Ext No w3,(Ext.refl _ _).drew,Ar.i64 (by omega) (h3.rd (by omega) (by omega) fun x=>Ar.i64 (by omega) (h3.rd (by omega) (by omega) fun y=>oW fun r w4 x4=>⟨x4.aj,?_⟩))⟩;have h4:=h3.drew x4;refine If.not (If.cases (fun _=>?_) fun _=>k w4 h4);exact⟨fun _=>True,trivial,Ar.i64 (by omega) (Ar.i64 (by omega) (Ar.i64 (by omega) (UI (fun _=>trivial) h4 (by omega) (by omega) (by omega) (by omega) hn fun w6 h6 _=>⟨_,by omega,rfl,by omega,by omega,h6⟩)))⟩
theorem CY{a b:Int}{K:Pw}(h:fN w0 base e s n L0 w)(h0:0<=a)(AU:a < b)(hb:b<=n)(hn:n<=65535)(k:∀w',fN w0 base e s n L0 w'->K w'):dm s a b w K:=by
 apply kG;have q:Int.tdiv (b - a - 1) 2=(b - a - 1) / 2:=Int.tdiv_eq_ediv_of_nonneg (by omega);refine Ar.i64 (by omega) (Ar.i64 (by omega) ⟨by decide,?_⟩);rw[q];refine Ar.i64 (by omega) ⟨fun q i w'=>q=(i+1).toNat/\ -1<=i/\i<=b - a/\fN w0 base e s n L0 w',⟨_,rfl,by omega,by omega,h⟩,?_⟩;rintro _ m0 i w1 ⟨hm,hi,qp,h1⟩;refine If.dec (fun LU=>tN h1 (by omega) h0 (by omega) hn (by omega) fun w2 h2=>Ar.i64 (by omega) ⟨_,by omega,rfl,by omega,by omega,h2⟩) fun _=>?_
 refine Ar.i64 (by omega) ⟨fun q i w'=>q=(i+1).toNat/\ -1<=i/\i < b - a/\fN w0 base e s n L0 w',⟨_,rfl,by omega,by omega,h1⟩,?_⟩;rintro _ m1 j w3 ⟨BQ,hj,Im,h3⟩;refine If.dec (fun hj3=>⟨fun _=>True,trivial,Ar.i64 (by omega) (Ar.i64 (by omega) (jY (fun _=>trivial) h3 (by omega) (by omega) (by omega) (by omega) fun w5 h5 _=>tN h5 (by omega) h0 (by omega) hn (by omega) fun w6 h6=>Ar.i64 (by omega) ⟨_,by omega,rfl,by omega,by omega,h6⟩))⟩) fun _=>k w3 h3
theorem uL{a b:Int}{K:Pw}(h:fN w0 base e s n L0 w)(hw:w0.heap.size<=w.heap.size)(h0:0<=a)(AU:a<=b)(hb:b<=n)(hn:n<=65535)(k:∀w',fN w0 base e s n L0 w'->K w'):cI s a b w K:=by
 apply iu;have q:Int.tdiv (b - a) 4=(b - a) / 4:=Int.tdiv_eq_ediv_of_nonneg (by omega);refine Ar.i64 (by omega) (If.dec (fun h8=>Ar.u64 (by omega) (ag.mk fun b1 w1 n1=>aF.mk n1.get (by simp) rfl fun w2 h2=>?_)) fun _=>k w h);have gE:=n1.at_;have z1:=n1.size;have gS:Ext (·=b1) w1 w2:=h2.ext;have g2:w2.heap[b1]? = some (.cells [.int .u64 (b - a)].toArray 256 (0,0)):=h2.get n1.get;have hZ:Ext No w w2:=n1.ext.trans gS fun q hq h=>by omega
 have sq2:=h.no hZ
 have BG:s.aq≠some b1:=fun hs=>by
  obtain⟨L,_,ho⟩:=h.own;have:=ho.lt hs;omega
 refine HB (by omega) (by omega) fun p V2 oz=>⟨by decide,?_⟩
 simp only[q];refine Ar.i64 (by omega) (Ar.i64 (by omega) (Ar.i64 (by omega) (Ar.i64 (by omega) ⟨fun q i w'=>q=(b+1 - i).toNat/\a<=i/\i<=a+(b - a) / 4 * 2+2/\fN w0 base e s n L0 w'/\∃v,w'.heap[b1]? = some (.cells [.int .u64 v].toArray 256 (0,0)),⟨_,rfl,by omega,by omega,sq2,_,g2⟩,?_⟩)));rintro _ m0 i w4 ⟨hm,hi,qp,h4,v,g4⟩;refine⟨by decide,Ar.i64 (by omega) (Ar.i64 (by omega) (Ar.i64 (by omega) (Ar.i64 (by omega) (If.dec (fun hle=>?_) fun _=>k w4 h4))))⟩;refine Ew g4 fun v' w5 g5 x5=>Ar.u64 (by omega) (Nm.mk ?_)
 have hand:=XI (x:=v') (y:=p - 1) (by omega) (by omega)
 have sq5:fN w0 base e s n L0 w5:=by
  obtain⟨⟨L,hpm,ho⟩,hx,UH⟩:=h4;exact⟨⟨L,hpm,ho.ext x5 fun q hq h'=>BG (by rw[hq,h'])⟩,hx.trans x5 fun q hq h'=>by omega,UH⟩
 refine Ar.i64 (by omega) ⟨fun o w'=>0<=o/\o < b - a/\w'=w5,If.dec (fun _=>Ar.i64 (by omega) ⟨by omega,by omega,rfl⟩) fun _=>⟨by omega,by omega,rfl⟩,?_⟩;rintro _ o w6 ⟨ho1,ho2,rfl⟩;exact⟨fun _=>True,trivial,Ar.i64 (by omega) (Ar.i64 (by omega) (jY (fun _=>trivial) sq5 (by omega) (by omega) (by omega) (by omega) fun w8 h8' x8=>Ar.i64 (by omega) ⟨_,by omega,rfl,by omega,by omega,h8',v',af g5 x8 BG⟩))⟩
structure V3(w0:Wd)(base:Nat)(e:TypeId)(s:Sl)(n:Nat)(L0:List Int)(b1:Nat)(w:Wd):Prop where
 sq:fN w0 base e s n L0 w
 g:∃v,w.heap[b1]? = some (.cells [.int .i64 v].toArray 3 (0,0))
theorem rr{b1:Nat}{a b:Int}{K:Int->Int->Pw}(h:V3 w0 base e s n L0 b1 w)(gE:w0.heap.size<=b1)(BG:s.aq≠some b1)(a0:0<=a)(a1:a < n)(b0:0<=b)(b2:b < n)(k:∀r0 r1 w',(r0=a/\r1=b∨r0=b/\r1=a)->V3 w0 base e s n L0 b1 w'->K r0 r1 w'):bU s a b (some ⟨b1,0,none⟩) w K:=by
 apply lX;obtain⟨hs,v,g⟩:=h;refine⟨Ext No w,(Ext.refl _ _).drew,hs.rd b0 b2 fun x=>hs.rd a0 a1 fun y=>oW fun r w1 x1=>⟨x1.aj,?_⟩⟩;have g1:=ad g x1.aj;have s1:=hs.drew x1;refine If.cases (fun _=>⟨_,rfl,_,Cell.ai g1 rfl,Ar.any fun z=>⟨_,rfl,aF.mk g1 (by simp) rfl fun w2 h2=>?_⟩⟩) fun _=>k _ _ _ (.inl ⟨rfl,rfl⟩) ⟨s1,v,g1⟩
 have x2:Ext (·=b1) w1 w2:=h2.ext;refine k _ _ _ (.inr ⟨rfl,rfl⟩) ⟨?_,z,h2.get g1⟩;obtain⟨⟨L,hpm,ho⟩,hx,UH⟩:=s1;exact⟨⟨L,hpm,ho.ext x2 fun q hq h'=>BG (by rw[hq,h'])⟩,hx.trans x2 fun q hq h'=>by omega,UH⟩
theorem rz{b1:Nat}{a b c lo hi:Int}{K:Int->Pw}(h:V3 w0 base e s n L0 b1 w)(gE:w0.heap.size<=b1)(BG:s.aq≠some b1)(l0:0<=lo)(MV:hi<=n)(ha:lo<=a/\a < hi)(hb:lo<=b/\b < hi)(hcc:lo<=c/\c < hi)(k:∀r w',lo<=r/\r < hi->V3 w0 base e s n L0 b1 w'->K r w'):bT s a b c (some ⟨b1,0,none⟩) w K:=by
 apply lY;refine rr h gE BG (by omega) (by omega) (by omega) (by omega) fun r0 r1 w1 e1 h1=>?_
 refine rr h1 gE BG (by omega) (by omega) (by omega) (by omega) fun r2 r3 w2 e2 h2=>?_
 refine rr h2 gE BG (by omega) (by omega) (by omega) (by omega) fun r4 r5 w3 e3 h3=>k _ _ (by omega) h3
theorem mK{b1:Nat}{a lo hi:Int}{K:Int->Pw}(h:V3 w0 base e s n L0 b1 w)(gE:w0.heap.size<=b1)(BG:s.aq≠some b1)(l0:0<=lo)(MV:hi<=n)(hn:n<=65535)(ha:lo+1<=a/\a+1 < hi)(k:∀r w',lo<=r/\r < hi->V3 w0 base e s n L0 b1 w'->K r w'):aW s a (some ⟨b1,0,none⟩) w K:=by
 apply gZ;exact Ar.i64 (by omega) (Ar.i64 (by omega) (rz h gE BG l0 MV (by omega) (by omega) (by omega) k))
theorem xM{a b:Int}{K:Int->Int->Pw}(h:fN w0 base e s n L0 w)(hw:w0.heap.size<=w.heap.size)(h0:0<=a)(AU:a < b)(hb:b<=n)(hn:n<=65535)(k:∀r hint w',a<=r/\r < b->fN w0 base e s n L0 w'->K r hint w'):cS s a b w K:=by
 apply jg;have q:Int.tdiv (b - a) 4=(b - a) / 4:=Int.tdiv_eq_ediv_of_nonneg (by omega);refine Ar.i64 (by omega) (ag.mk fun b1 w1 n1=>⟨by decide,?_⟩);have gE:=n1.at_
 have BG:s.aq≠some b1:=fun hs=>by
  obtain⟨L,_,ho⟩:=h.own;have:=ho.lt hs;omega
 have sw1:V3 w0 base e s n L0 b1 w1:=⟨h.no n1.ext,0,n1.get⟩
 simp only[q];refine Ar.i64 (by omega) (Ar.i64 (by omega) (Ar.i64 (by omega) ⟨by decide,Ar.i64 (by omega) (Ar.i64 (by omega) (Ar.i64 (by omega) ⟨by decide,Ar.i64 (by omega) (Ar.i64 (by omega) (Ar.i64 (by omega) ?_))⟩))⟩));refine⟨fun j w'=>a<=j/\j < b/\V3 w0 base e s n L0 b1 w',If.dec (fun h8=>?_) fun _=>⟨by omega,by omega,sw1⟩,?_⟩
 .refine If.dec (fun h50=>?_) fun _=>rz (lo:=a) (hi:=b) sw1 (by omega) BG h0 hb (by omega) (by omega) (by omega) fun r w6 hr s6=>⟨hr.1,hr.2,s6⟩
  exact mK (lo:=a) (hi:=b) sw1 (by omega) BG h0 hb hn (by omega) fun r w2 hr s2=>mK (lo:=a) (hi:=b) s2 (by omega) BG h0 hb hn (by omega) fun r1 w3 hr1 s3=>mK (lo:=a) (hi:=b) s3 (by omega) BG h0 hb hn (by omega) fun r2 w4 OZ s4=>rz (lo:=a) (hi:=b) s4 (by omega) BG h0 hb hr hr1 OZ fun r w6 hr s6=>⟨hr.1,hr.2,s6⟩
 .rintro _ j w7 ⟨RW,Im,s7,v,g7⟩;exact⟨_,Cell.ai g7 rfl,If.beq (fun _=>k _ _ _ ⟨RW,Im⟩ s7) fun _=>If.beq (fun _=>k _ _ _ ⟨RW,Im⟩ s7) fun _=>k _ _ _ ⟨RW,Im⟩ s7⟩
theorem vZ{a b:Int}{K:Pw}(h:fN w0 base e s n L0 w)(h0:0<=a)(AU:a<=b)(hb:b<=n)(hn:n<=65535)(k:∀w',fN w0 base e s n L0 w'->K w'):cO s a b w K:=by
 apply iL;refine Ar.i64 (by omega) ⟨fun q i j w'=>q=(j+1 - i).toNat/\a<=i/\i<=b/\ -1<=j/\j < b/\fN w0 base e s n L0 w',⟨_,rfl,by omega,by omega,by omega,by omega,h⟩,?_⟩;rintro _ m0 i j w1 ⟨hm,hi,qp,hj,Im,h1⟩;exact If.dec (fun A_=>⟨fun _=>True,trivial,jY (fun _=>trivial) h1 (by omega) (by omega) (by omega) (by omega) fun w3 h3 _=>Ar.i64 (by omega) (Ar.i64 (by omega) ⟨_,by omega,rfl,by omega,by omega,by omega,by omega,h3⟩)⟩) fun _=>k w1 h1
theorem tP{a b p:Int}{K:Int->Pw}(h:fN w0 base e s n L0 w)(h0:0<=a)(AU:a < b)(hb:b<=n)(hn:n<=65535)(hp:a<=p/\p < b)(k:∀r w',a < r/\r<=b->fN w0 base e s n L0 w'->K r w'):cF s a b p w K:=by
 apply g_;refine⟨fun _=>True,trivial,jY (fun _=>trivial) h (by omega) (by omega) (by omega) (by omega) fun w2 h2 _=>Ar.i64 (by omega) (Ar.i64 (by omega) ?_)⟩;refine⟨fun q i j w'=>q=(j+2 - i).toNat/\a+1<=i/\i<=b/\a<=j/\j<=b - 1/\i<=j+2/\fN w0 base e s n L0 w',⟨_,rfl,by omega,by omega,by omega,by omega,by omega,h2⟩,?_⟩;rintro _ m0 i j w3 ⟨hm,hi,qp,hj,Im,A_,h3⟩;refine⟨fun i' w'=>i<=i'/\i'<=b/\(i'<=j+1∨i'=i)/\fN w0 base e s n L0 w',⟨fun q i' w'=>q=(b - i').toNat/\i<=i'/\i'<=b/\(i'<=j+1∨i'=i)/\fN w0 base e s n L0 w',⟨_,rfl,by omega,by omega,.inr rfl,h3⟩,?_⟩,?_⟩
 .rintro _ m1 i1 w4 ⟨BQ,a1,a2,a3,h4⟩;refine⟨Ext No w4,(Ext.refl _ _).drew,If.dec (fun hle=>h4.rd (by omega) (by omega) fun x=>h4.rd (by omega) (by omega) fun y=>oW fun r w5 x5=>⟨x5.aj,If.not (If.cases (fun _=>⟨a1,a2,a3,h4.drew x5⟩) fun _=>Ar.i64 (by omega) ⟨_,by omega,rfl,by omega,by omega,.inl (by omega),h4.drew x5⟩)⟩) fun _=>⟨a1,a2,a3,h4.no (Ext.refl _ _).drew⟩⟩
 rintro _ i2 w6 ⟨a1,a2,a3,h6⟩;refine⟨fun j' w'=>j'<=j/\a<=j'/\fN w0 base e s n L0 w',⟨fun q j' w'=>q=(j'+1 - a).toNat/\j'<=j/\a<=j'/\fN w0 base e s n L0 w',⟨_,rfl,by omega,hj,h6⟩,?_⟩,?_⟩
 .rintro _ m1 j1 w7 ⟨BQ,b1,b2,h7⟩;refine⟨Ext No w7,(Ext.refl _ _).drew,If.dec (fun hle=>h7.rd (by omega) (by omega) fun x=>h7.rd (by omega) (by omega) fun y=>oW fun r w8 x8=>⟨x8.aj,If.cases (fun _=>Ar.i64 (by omega) ⟨_,by omega,rfl,by omega,by omega,h7.drew x8⟩) fun _=>⟨b1,b2,h7.drew x8⟩⟩) fun _=>⟨b1,b2,h7.no (Ext.refl _ _).drew⟩⟩
 rintro _ j2 w9 ⟨b1,b2,h9⟩
 refine If.dec (fun _=>k _ _ (by omega) h9) fun hle=>⟨fun _=>True,trivial,jY (fun _=>trivial) h9 (by omega) (by omega) (by omega) (by omega) fun dg wD _=>Ar.i64 (by omega) (Ar.i64 (by omega) ⟨_,by omega,rfl,by omega,by omega,by omega,by omega,by omega,wD⟩)⟩
theorem Bs{a b p:Int}{K:Int->Bool->Pw}(h:fN w0 base e s n L0 w)(h0:0<=a)(AU:a < b)(hb:b<=n)(hn:n<=65535)(hp:a<=p/\p < b)(k:∀r d w',a<=r/\r < b->fN w0 base e s n L0 w'->K r d w'):df s a b p w K:=by
 apply jP;refine⟨fun _=>True,trivial,jY (fun _=>trivial) h (by omega) (by omega) (by omega) (by omega) fun w2 h2 _=>Ar.i64 (by omega) (Ar.i64 (by omega) ?_)⟩;refine⟨fun i w'=>a+1<=i/\i<=b/\fN w0 base e s n L0 w',⟨fun q i w'=>q=(b - i).toNat/\a+1<=i/\i<=b/\fN w0 base e s n L0 w',⟨_,rfl,by omega,by omega,h2⟩,?_⟩,?_⟩
 .rintro _ m1 i1 w4 ⟨BQ,a1,a2,h4⟩;refine⟨Ext No w4,(Ext.refl _ _).drew,If.dec (fun hle=>h4.rd (by omega) (by omega) fun x=>h4.rd (by omega) (by omega) fun y=>oW fun r w5 x5=>⟨x5.aj,If.cases (fun _=>Ar.i64 (by omega) ⟨_,by omega,rfl,by omega,by omega,h4.drew x5⟩) fun _=>⟨a1,a2,h4.drew x5⟩⟩) fun _=>⟨a1,a2,h4.no (Ext.refl _ _).drew⟩⟩
 rintro _ i1 w5 ⟨a1,a2,h5⟩;refine⟨fun j w'=>a<=j/\j<=b - 1/\fN w0 base e s n L0 w',⟨fun q j w'=>q=(j+1 - a).toNat/\a<=j/\j<=b - 1/\fN w0 base e s n L0 w',⟨_,rfl,by omega,by omega,h5⟩,?_⟩,?_⟩
 .rintro _ m1 j w7 ⟨BQ,b1,b2,h7⟩;refine⟨Ext No w7,(Ext.refl _ _).drew,If.dec (fun hle=>h7.rd (by omega) (by omega) fun x=>h7.rd (by omega) (by omega) fun y=>oW fun r w8 x8=>⟨x8.aj,If.not (If.cases (fun _=>⟨b1,b2,h7.drew x8⟩) fun _=>Ar.i64 (by omega) ⟨_,by omega,rfl,by omega,by omega,h7.drew x8⟩)⟩) fun _=>⟨b1,b2,h7.no (Ext.refl _ _).drew⟩⟩
 rintro _ j1 w8 ⟨b1,b2,h8⟩
 refine If.dec (fun _=>⟨fun _=>True,trivial,jY (fun _=>trivial) h8 (by omega) (by omega) (by omega) (by omega) fun dA AV _=>k _ _ _ (by omega) AV⟩) fun hle=>⟨fun _=>True,trivial,jY (fun _=>trivial) h8 (by omega) (by omega) (by omega) (by omega) fun eG K6 _=>Ar.i64 (by omega) (Ar.i64 (by omega) ?_)⟩
 refine⟨fun j w'=>a<=j/\j<=b - 1/\fN w0 base e s n L0 w',⟨fun q i j w'=>q=(j+2 - i).toNat/\a+1<=i/\i<=b/\a<=j/\j<=b - 1/\i<=j+2/\fN w0 base e s n L0 w',⟨_,rfl,by omega,by omega,by omega,by omega,by omega,K6⟩,?_⟩,?_⟩
 .rintro _ m0 i j w3 ⟨hm,hi,qp,hj,Im,A_,h3⟩;refine⟨fun i' w'=>i<=i'/\i'<=b/\(i'<=j+1∨i'=i)/\fN w0 base e s n L0 w',⟨fun q i' w'=>q=(b - i').toNat/\i<=i'/\i'<=b/\(i'<=j+1∨i'=i)/\fN w0 base e s n L0 w',⟨_,rfl,by omega,by omega,.inr rfl,h3⟩,?_⟩,?_⟩
  .rintro _ m1 i1 w4 ⟨BQ,a1,a2,a3,h4⟩;refine⟨Ext No w4,(Ext.refl _ _).drew,If.dec (fun hle=>h4.rd (by omega) (by omega) fun x=>h4.rd (by omega) (by omega) fun y=>oW fun r w5 x5=>⟨x5.aj,If.cases (fun _=>Ar.i64 (by omega) ⟨_,by omega,rfl,by omega,by omega,.inl (by omega),h4.drew x5⟩) fun _=>⟨a1,a2,a3,h4.drew x5⟩⟩) fun _=>⟨a1,a2,a3,h4.no (Ext.refl _ _).drew⟩⟩
  rintro _ i2 w6 ⟨a1,a2,a3,h6⟩;refine⟨fun j' w'=>j'<=j/\a<=j'/\fN w0 base e s n L0 w',⟨fun q j' w'=>q=(j'+1 - a).toNat/\j'<=j/\a<=j'/\fN w0 base e s n L0 w',⟨_,rfl,by omega,hj,h6⟩,?_⟩,?_⟩
  .rintro _ m1 j1 w7 ⟨BQ,b1,b2,h7⟩;refine⟨Ext No w7,(Ext.refl _ _).drew,If.dec (fun hle=>h7.rd (by omega) (by omega) fun x=>h7.rd (by omega) (by omega) fun y=>oW fun r w8 x8=>⟨x8.aj,If.not (If.cases (fun _=>⟨b1,b2,h7.drew x8⟩) fun _=>Ar.i64 (by omega) ⟨_,by omega,rfl,by omega,by omega,h7.drew x8⟩)⟩) fun _=>⟨b1,b2,h7.no (Ext.refl _ _).drew⟩⟩
  rintro _ j2 w9 ⟨b1,b2,h9⟩
  refine If.dec (fun _=>⟨by omega,by omega,h9⟩) fun hle=>⟨fun _=>True,trivial,jY (fun _=>trivial) h9 (by omega) (by omega) (by omega) (by omega) fun dg wD _=>Ar.i64 (by omega) (Ar.i64 (by omega) ⟨_,by omega,rfl,by omega,by omega,by omega,by omega,by omega,wD⟩)⟩
 rintro _ j5 py ⟨c1,c2,h22⟩;exact⟨fun _=>True,trivial,jY (fun _=>trivial) h22 (by omega) (by omega) (by omega) (by omega) fun CH h24 _=>k _ _ _ (by omega) h24⟩
theorem zj{a b:Int}{K:Bool->Pw}(h:fN w0 base e s n L0 w)(h0:0<=a)(AU:a < b)(hb:b<=n)(hn:n<=65535)(k:∀r w',fN w0 base e s n L0 w'->K r w'):bR s a b w K:=by
 apply fH;refine Ar.i64 (by omega) ⟨fun q i j w'=>q=(5 - j).toNat/\a+1<=i/\i<=b/\0<=j/\j<=5/\fN w0 base e s n L0 w',⟨_,rfl,by omega,by omega,by omega,by omega,h⟩,?_⟩;rintro _ m0 i j w1 ⟨hm,hi,qp,hj,Im,h1⟩;refine If.dec (fun hj5=>?_) fun _=>k _ _ h1
 refine⟨fun i' w'=>a+1<=i'/\i'<=b/\fN w0 base e s n L0 w',⟨fun q i' w'=>q=(b - i').toNat/\a+1<=i'/\i'<=b/\fN w0 base e s n L0 w',⟨_,rfl,hi,qp,h1⟩,?_⟩,?_⟩
 .rintro _ m1 i1 w2 ⟨BQ,a1,a2,h2⟩;refine⟨Ext No w2,(Ext.refl _ _).drew,If.dec (fun VI=>h2.rd (by omega) (by omega) fun x=>Ar.i64 (by omega) (h2.rd (by omega) (by omega) fun y=>oW fun r w3 x3=>⟨x3.aj,If.not (If.cases (fun _=>⟨a1,a2,h2.drew x3⟩) fun _=>Ar.i64 (by omega) ⟨_,by omega,rfl,by omega,by omega,h2.drew x3⟩)⟩)) fun _=>⟨a1,a2,h2.no (Ext.refl _ _).drew⟩⟩
 rintro _ i2 w4 ⟨a1,a2,h4⟩;have out:∀w',fN w0 base e s n L0 w'->Ar .i64 (j+1) fun z=>∃m1,m1 < m0/\(m1=(5 - z).toNat/\a+1<=i2/\i2<=b/\0<=z/\z<=5/\fN w0 base e s n L0 w'):=fun w' h'=>Ar.i64 (by omega) ⟨_,by omega,rfl,a1,a2,by omega,by omega,h'⟩
 refine If.beq (fun _=>k _ _ h4) fun bC=>Ar.i64 (by omega) (If.dec (fun _=>k _ _ h4) fun h50=>⟨fun _=>True,trivial,Ar.i64 (by omega) (Ar.i64 (by omega) (jY (fun _=>trivial) h4 (by omega) (by omega) (by omega) (by omega) fun w6 h6 _=>?_))⟩)
 refine⟨fun w'=>fN w0 base e s n L0 w',Ar.i64 (by omega) (If.dec (fun _=>Ar.i64 (by omega) ⟨fun q j1 w'=>q=j1.toNat/\0<=j1/\j1 < b/\fN w0 base e s n L0 w',⟨_,rfl,by omega,by omega,h6⟩,?_⟩) fun _=>h6),?_⟩
 .rintro _ m1 j1 w7 ⟨BQ,b1,b2,h7⟩;refine If.dec (fun RW=>?_) fun _=>h7
  refine⟨Ext No w7,(Ext.refl _ _).drew,h7.rd (by omega) (by omega) fun x=>Ar.i64 (by omega) (h7.rd (by omega) (by omega) fun y=>oW fun r w8 x8=>⟨x8.aj,If.not (If.cases (fun _=>?_) fun _=>h7.drew x8)⟩)⟩;exact⟨fun _=>True,trivial,Ar.i64 (by omega) (Ar.i64 (by omega) (jY (fun _=>trivial) (h7.drew x8) (by omega) (by omega) (by omega) (by omega) fun dA AV _=>Ar.i64 (by omega) ⟨_,by omega,rfl,by omega,by omega,AV⟩))⟩
 .rintro _ dg wD;refine Ar.i64 (by omega) (If.dec (fun _=>Ar.i64 (by omega) ⟨fun q j2 w'=>q=(b - j2).toNat/\a+1<=j2/\j2<=b/\fN w0 base e s n L0 w',⟨_,rfl,by omega,by omega,wD⟩,?_⟩) fun _=>out _ wD);rintro _ m1 j2 eG ⟨BQ,b1,b2,K6⟩;refine If.dec (fun Im=>?_) fun _=>out _ K6
  refine⟨Ext No eG,(Ext.refl _ _).drew,K6.rd (by omega) (by omega) fun x=>Ar.i64 (by omega) (K6.rd (by omega) (by omega) fun y=>oW fun r cX eE=>⟨eE.aj,If.not (If.cases (fun _=>?_) fun _=>out _ (K6.drew eE))⟩)⟩;exact⟨fun _=>True,trivial,Ar.i64 (by omega) (Ar.i64 (by omega) (jY (fun _=>trivial) (K6.drew eE) (by omega) (by omega) (by omega) (by omega) fun dU Mb _=>Ar.i64 (by omega) ⟨_,by omega,rfl,by omega,by omega,Mb⟩))⟩
theorem zk(hn:n<=65535):∀(N:Nat){a b rL:Int}{w:Wd}{K:Pw},fN w0 base e s n L0 w->0<=a->a<=b->b<=n->b - a<=N->(∀w',fN w0 base e s n L0 w'->K w')->bM s a b rL w K
 | N,a,b,rL,w,K,h,h0,AU,hb,hN,k=>by
  apply lg;have jw:∀{w'},fN w0 base e s n L0 w'->w0.heap.size<=w'.heap.size:=fun h=>h.ext.size
  refine⟨fun q a' b' _ _ _ w'=>q=(b' - a').toNat/\a<=a'/\a'<=b'/\b'<=b/\fN w0 base e s n L0 w',⟨_,rfl,by omega,AU,by omega,h⟩,?_⟩;rintro _ m0 a1 b1 lim wb wp w1 ⟨hm,ZM,agn,gE,h1⟩;refine Ar.i64 (by omega) (If.dec (fun K6=>Br h1 (by omega) (by omega) hn (by omega) fun w2 h2=>k _ h2) fun K6=>If.beq (fun _=>CY h1 (by omega) (by omega) (by omega) hn fun w3 h3=>k _ h3) fun _=>?_);have q8:Int.tdiv (b1 - a1) 8=(b1 - a1) / 8:=Int.tdiv_eq_ediv_of_nonneg (by omega);refine⟨fun _ w'=>fN w0 base e s n L0 w',If.not (If.cases (fun _=>h1) fun _=>uL h1 (jw h1) (by omega) (by omega) (by omega) hn fun w4 h4=>Ar.any fun _=>h4),?_⟩;rintro _ ago w5 h5;refine xM h5 (jw h5) (by omega) (by omega) (by omega) hn fun r0 r1 w6 NI h6=>?_
  refine⟨fun p _ w'=>a1<=p/\p < b1/\fN w0 base e s n L0 w',If.beq (fun _=>vZ h6 (by omega) (by omega) (by omega) hn fun w7 h7=>Ar.i64 (by omega) (Ar.i64 (by omega) (Ar.i64 (by omega) ⟨by omega,by omega,h7⟩))) fun _=>⟨NI.1,NI.2,h6⟩,?_⟩;rintro _ p hint w8 ⟨V2,oz,h8⟩;refine⟨fun w'=>fN w0 base e s n L0 w',If.cases (fun _=>If.cases (fun _=>If.beq (fun _=>zj h8 (by omega) (by omega) (by omega) hn fun r dA AV=>If.cases (fun _=>k _ AV) fun _=>AV) fun _=>h8) fun _=>h8) (fun _=>h8),?_⟩;rintro _ dg wD;refine⟨fun a' w'=>a'=a1/\fN w0 base e s n L0 w',⟨fun _ w'=>fN w0 base e s n L0 w',⟨Ext No dg,(Ext.refl _ _).drew,If.dec (fun _=>Ar.i64 (by omega) (wD.rd (by omega) (by omega) fun x=>wD.rd (by omega) (by omega) fun y=>oW fun r eG gS=>⟨gS.aj,wD.drew gS⟩)) fun _=>wD.no (Ext.refl _ _).drew⟩,?_⟩,?_⟩
  .rintro _ t cX Rn
   exact If.cases (fun _=>tP Rn (by omega) (by omega) (by omega) hn ⟨V2,oz⟩ fun r c_ hr V4=>⟨_,by omega,rfl,by omega,by omega,by omega,V4⟩) fun _=>⟨rfl,Rn⟩
  rintro _ a4 dU ⟨rfl,Mb⟩;refine Bs Mb (by omega) (by omega) (by omega) hn ⟨V2,oz⟩ fun r d oS hr h16=>Ar.i64 (by omega) (Ar.i64 (by omega) ⟨by decide,?_⟩)
  rw[q8];refine Ar.i64 (by omega) (If.dec (fun _=>?_) fun _=>Ar.i64 (by omega) ?_)
  .match N,hN with
   | 0,hN=>omega
   | N+1,hN=>exact zk hn N h16 (by omega) (by omega) (by omega) (by omega) fun hU K3=>Ar.i64 (by omega) ⟨_,by omega,rfl,by omega,by omega,by omega,K3⟩
  .match N,hN with
   | 0,hN=>omega
   | N+1,hN=>exact zk hn N h16 (by omega) (by omega) (by omega) (by omega) fun vK h18=>⟨_,by omega,rfl,by omega,by omega,by omega,h18⟩
theorem CZ{L:List Int}{K:Pw}(o:aT w.heap base e 1 s (si L))(hn:L.length<=65535)(k:∀L' w',L'.Perm L->aT w'.heap base e 1 s (si L')->Ext (fun q=>s.aq=some q) w w'->K w'):dO s w K:=by
 apply mZ;have hl:=o.len;simp only[List.length_map,Nat.mul_one]at hl;refine Ar.u64 (by omega) (rq (by omega) (by omega) fun r _ _=>?_);refine zk (n:=L.length) (L0:=L) (base:=base) (e:=e) hn L.length ⟨⟨L,.refl _,o⟩,Ext.refl _ _,rfl⟩ (by omega) (by omega) (by omega) (by omega) fun w' h'=>?_
 obtain⟨⟨L',hp,ho⟩,hx,_⟩:=h';exact k L' w' hp ho hx
end
end Go.Proofs.YtpjbalhhlaofmaaGreat
