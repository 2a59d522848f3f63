/- Texts for LRollSame,LRollBytes,LRollReads,LRollNone, part 17. -/
import Derived.Test.YtpjbalhhlaofmaaGreatQv16
set_option maxRecDepth 100000
namespace Go.V
structure eS where
 k:Int
 v:Int
 s:Sl
 L:List (aL×aF)
 i:Nat
def eS.cs(x:eS):List Value:=[.int .u8 x.k,.int .u8 x.v,.slice x.s.a x.s.len x.s.cap,.int .i64 x.i]
theorem dQ(l:List eS):∀x∈l,(eS.cs x).length=4:=fun _ _=>rfl
theorem UT(x:eS):∀v∈x.cs,aJ v=true:=by intro v hv;simp only[eS.cs,List.mem_cons,List.not_mem_nil,or_false]at hv;rcases hv with h | h | h | h <;> subst h <;> rfl
abbrev eS.abs(x:eS):Yf:=(Go.Proofs.YtpjbalhhlaofmaaGreat.ents x.L,x.i)
structure iH(h:Array Obj)(n0:Nat)(X:Nat->Prop)(s:Sl)(P:List eS):Prop where
 own:bf h n0 230 4 s (P.flatMap eS.cs)
 nd:∀x∈P,ki h (fun q=>n0<=q/\s.aj≠some q/\¬ X q) x.s x.L
 sm:∀x∈P,x.L.length<=65536/\x.i<=65536
theorem iH.len{h:Array Obj}{n0:Nat}{X:Nat->Prop}{s:Sl}{P:List eS}(r:iH h n0 X s P):s.len=P.length:=by have:=r.own.len;rw[aS (dQ P)]at this;omega
theorem iH.ext{S X:Nat->Prop}{w w':Wd}{n0:Nat}{s:Sl}{P:List eS}(r:iH w.heap n0 X s P)(x:Ext S w w')(h1:∀q,s.aj=some q->¬ S q)(h2:∀q,q < w.heap.size->n0<=q->s.aj≠some q->¬ X q->¬ S q):iH w'.heap n0 X s P:=
 ⟨r.own.ext x h1,fun y hy=>(r.nd y hy).ext x fun b hb hl=>h2 b hl hb.1 hb.2.1 hb.2.2,r.sm⟩
theorem iH.no{X:Nat->Prop}{w w':Wd}{n0:Nat}{s:Sl}{P:List eS}(r:iH w.heap n0 X s P)(x:Ext No w w'):iH w'.heap n0 X s P:=r.ext x (fun _ _ h=>h) fun _ _ _ _ _ h=>h
theorem iH.nil(h:Array Obj)(n0:Nat)(X:Nat->Prop):iH h n0 X ⟨none,0,0⟩ []:=⟨bf.nil _ _ _ _,by simp,by simp⟩
theorem iH.mono{X X':Nat->Prop}{h:Array Obj}{n0:Nat}{s:Sl}{P:List eS}(r:iH h n0 X s P)(hX:∀q,q < h.size->X' q->X q):iH h n0 X' s P:=
 ⟨r.own,fun y hy=>(r.nd y hy).mono fun b hb h=>⟨h.1,h.2.1,fun h'=>h.2.2 (hX b hb h')⟩,r.sm⟩
def mT(m:bJ)(t:Int)(r:Rf)(lev:Int)(p:Sl):List Value:=[Go.Proofs.YtpjbalhhlaofmaaGreat.eY m,.int .u32 t,.int .u32 r.p,.int .u64 r.c,.int .u16 r.g,.int .u8 lev,.slice p.a p.len p.cap]
end Go.V
namespace Go.Proofs.YtpjbalhhlaofmaaGreat
open Go.V
section
variable {w:Wd} {T:Nat->Option Nat} {m:bJ} {M:Mm}
theorem QR{bc:Nat}{t lev:Int}{r r0:Rf}{QS:Int}{p:Sl}{l:List aF}{K:Int->Int->Sl->Int->Pw}(R:bC w.heap T m M)(hc:w.heap[bc]? = some (.cells (mT m t r0 QS p).toArray 183 (0,0)))(h:kg M.f t (bE lev) lev r l)(bA:l≠[])
  (k:∀s L w',ic w'.heap w.heap.size s L->ents L=l->Ext No w w'->K (bE lev) lev s 0 w'):fF (some ⟨bc,0,none⟩) r.p r.c r.g lev w K:=by
 obtain⟨pg,h1,h2,h3,h4,h5,h6⟩:=h.at_;apply mE;refine af.mk fun b w1 n1=>af.mk fun b1 w2 n2=>?_
 have g1:=ad n1.get n2.ext;have jA:=n1.ext.no n2.ext;have gc:=ad hc jA;have z1:=n1.size;have z2:=n2.size;have jk:=n2.at_;refine⟨fun kd w'=>kd=bE lev/\w'=w2,⟨_,Cell.ah g1 rfl,If.beq (fun h=>⟨by unfold bE;rw[if_pos h],rfl⟩) fun h=>⟨by unfold bE;rw[if_neg h],rfl⟩⟩,?_⟩;rintro _ kd w3 ⟨rfl,rfl⟩;refine⟨Ext No w3,(Ext.refl _ _).drew,Nn.mk ⟨_,ae.cell (Cell.ah gc rfl),Nn.mk ⟨_,ae.cell (Cell.ah gc rfl),_,ae.cell (Cell.ah g1 rfl),_,ae.cell (Cell.ah g1 rfl),_,ae.cell (Cell.ah g1 rfl),_,ae.cell (Cell.ah g1 rfl),?_⟩⟩⟩;have R3:bC (aa w3).heap T m M:=R.no jA.drew;refine jg (DC (w:=aa w3) R3 h.at_ fun s4 w4 o4 x4=>⟨x4.ar,If.bne (fun h=>(h rfl).elim) fun _=>?_⟩);have Cc:Ext No w3 w4:=x4.ar;have p8:B8 (pad (wr (bE lev) lev l)):=by rw[<- h6];exact(R.find h1).p8
 refine Dx o4.rd h.right h.short p8 (fun e he=>(h.ok e he).1) fun s6 L w7 o7 eL x7=>aW rfl rfl (by simp[aJ]) fun b3 w9 g9 vB z9 x9=>If.bne (fun h=>(h rfl).elim) fun _=>?_
 have VF:Ext No w3 w9:=(Cc.no x7).no x9;have hLn:s6.len=l.length:=by have:=o7.nd.len;have:=mP eL;omega
 have hlp:1<=l.length:=List.length_pos_iff.2 bA;refine⟨_,Cell.ah g9 rfl,If.bne (fun h=>(h rfl).elim) fun _=>⟨_,Cell.ah g9 rfl,_,Cell.ah (ad g1 VF) rfl,If.bne (fun h=>(h rfl).elim) fun _=>⟨_,Cell.ah g9 rfl,If.beq (fun h0=>by omega) fun h0=>?_⟩⟩⟩;refine⟨_,Cell.ah g9 rfl,_,Cell.ah g9 rfl,_,Cell.ah g9 rfl,cR (ad n2.get VF) rfl rfl (by simp[aJ]) fun cM jH fI _=>⟨_,Cell.ah jH rfl,_,Cell.ah jH rfl,_,Cell.ah jH rfl,?_⟩⟩;have y34:=Cc.size;refine k s6 L cM (((o7.no x9).ext fI fun q h1 h2 h=>by omega).mono (by omega)) eL ((jA.no VF).trans fI fun q hq h=>by omega)
def o_(w:Wd)(S:Nat->Prop)(ch:Value)(Ch:Nat->List aF->Nat->Prop):Prop:=∀{w':Wd}{lev:Nat}{s:Sl}{L:List (aL×aF)}{K:Int->Pw},Ext S w w'->ny w'.heap s L->L.length<=65536->lev<=30->L≠[]->aH (bE lev) lev (ents L)->
 (∀(i:Nat) gE,Ch lev (ents L) i->Ext No w' gE->K i gE)->aD pz true ch [.agg ([.int .u8 (bE lev),.int .u8 lev,.slice s.a s.len s.cap]).toArray] [.one (.int .i64)] K cc w'
structure xA(f:bR)(t:Int)(Ch:Nat->List aF->Nat->Prop)(G:List KV->Nat->Prop):Prop where
 leaf:∀l kvs i,l.map aF.key=kvs.map Prod.fst->Ch 0 l i->i<=l.length/\G kvs i
 inner:∀lv l kvs ps i,aM (bq f t lv) l kvs ps->xe l->l≠[]->Ch (lv+1) l i->∃pre kv post p,eI (CR f t lv) (l.take i) pre/\(∃hi:i < l.length,bq f t lv l[i].cd kv p)/\eI (CR f t lv) (l.drop (i+1)) post/\kvs=pre++(kv++post)/\∀a',G kv a'->G kvs (pre.length+a')
set_option maxHeartbeats 2000000 in
theorem Ee{bc n0:Nat}{X:Nat->Prop}{t QS:Int}{r r0:Rf}{p0 path ch:_}{lev:Nat}{kvs:List KV}{ps:List Rf}{P0:List eS}{Ch:Nat->List aF->Nat->Prop}{G:List KV->Nat->Prop}{K:Sl->Int->Pw}
  (R:bC w.heap T m M) (hT:∀q,path.aj=some q->T q=none) (wm:n0<=w.heap.size) (hc:w.heap[bc]? = some (.cells (mT m t r0 QS p0).toArray 183 (0,0))) (IE:path.aj≠some bc) (hP:iH w.heap n0 X path P0) (hX:∀q,X q->q < w.heap.size) (hP0:P0.length<=100)
  (hS:bq M.f t lev r kvs ps) (dP:lev<=30) (hch:o_ w (fun q=>path.aj=some q) ch Ch) (hG:xA M.f t Ch G)
  (k:∀s P1 a w',iH w'.heap n0 X s (P0++P1)->(∀j (hj:j < P1.length),P1[j].v=((lev - j:Nat):Int))->fU M.f t lev kvs (P1.map eS.abs) a->G kvs a->Ext (fun q=>path.aj=some q) w w'->(s.aj=path.aj∨∃q,s.aj=some q/\w.heap.size<=q)->K s 0 w'):fD (some ⟨bc,0,none⟩) path r.p r.c r.g lev ch w K:=by
 apply lF;refine af.mk fun b w1 n1=>?_
 have hb:=n1.at_;have z1:=n1.size;have pb:∀q,path.aj=some q->n0<=q/\q < w.heap.size:=fun q hq=>hP.own.lt hq
 have aee:=blt hc;have hPb:iH w1.heap n0 (fun q=>q=b∨X q) path P0:=(hP.mono (X':=fun q=>q=b∨X q) fun q h1 h2=>h2.resolve_left (by omega)).no n1.ext
 refine⟨fun q kY w'=>∃(P1:List eS) (lv:Nat) (r':Rf) (Cb:List KV) (p':List Rf),bq M.f t lv r' Cb p'/\q=lv/\P1.length+lv=lev/\iH w'.heap n0 (fun q=>q=b∨X q) kY (P0++P1)/\(∀j (hj:j < P1.length),P1[j].v=((lev - j:Nat):Int))/\w'.heap[b]? = some (.cells [.int .u32 r'.p,.int .u64 r'.c,.int .u16 r'.g,.int .u8 lv].toArray 30 (0,0))/\Ext (fun q=>path.aj=some q) w w'/\(kY.aj=path.aj∨∃q,kY.aj=some q/\w1.heap.size<=q)/\
   ∀Pn a',fU M.f t lv Cb Pn a'->G Cb a'->∃a,fU M.f t lev kvs (P1.map eS.abs++Pn) a/\G kvs a,
  ⟨lev,[],lev,r,kvs,ps,hS,rfl,by simp,by simpa using hPb,by simp,n1.get,n1.ext.aE,.inl rfl,fun Pn a' h1 h2=>⟨a',by simpa using h1,h2⟩⟩,?_⟩
 rintro _ lv kY w2 ⟨P1,_,r',Cb,p',xF,rfl,hlen,Rs,hv2,g2,x2,jN,hgo⟩;refine⟨_,Cell.ah g2 rfl,_,Cell.ah g2 rfl,_,Cell.ah g2 rfl,_,Cell.ah g2 rfl,?_⟩;have y2:=x2.size;obtain⟨l,dG,hN,bA,Iq,_⟩:=xF.opens;have R2:=R.ext x2 hT;have QT:=ag hc x2 IE;have p1b:∀q,kY.aj=some q->n0<=q/\q < w2.heap.size:=fun q hq=>Rs.own.lt hq
 have b2l:=blt g2;refine QR R2 QT hN bA fun s3 L w3 o3 eL x3=>aW rfl rfl (by simp[aJ]) fun b1 w5 g5 jk z5 x5=>If.bne (fun h=>(h rfl).elim) fun _=>?_
 have yl:=x3.no x5;have y25:=yl.size;have y3:=x3.size;have Gb:=mP eL;have IY:=fZ hN.short;refine⟨_,Cell.ah g5 rfl,_,Cell.ah g5 rfl,_,Cell.ah g5 rfl,?_⟩;refine hch (x2.no yl) (o3.no x5).nd (by omega) (by omega) (by intro e;rw[e]at Gb;simp at Gb;exact bA (List.eq_nil_of_length_eq_zero Gb.symm)) (by rw[eL];exact hN.right) fun i w6 hi x6=>?_
 rw[eL]at hi;have g6:=ad g5 x6;refine⟨_,Cell.ah g6 rfl,_,Cell.ah g6 rfl,_,Cell.ah g6 rfl,af.mk fun b2 w7 n7=>?_⟩;have K1:=(yl.no x6).no n7.ext;have y27:=K1.size;have hP7:=Rs.no K1;have y6:=x6.size;have z7:=n7.size;have xT:=hP7.len;have e7:bf w7.heap w6.heap.size 230 4 ⟨some ⟨b2,0,none⟩,1,1⟩ (eS.cs ⟨bE lv,lv,s3,L,i⟩):=bf.new (n:=1) (sz:=4) n7 rfl (UT _);have hp1:P1.length<=30:=by omega
 refine CC hP7.own (by omega) e7.rd.src (by show(kY.len+1) * 40<=_;rw[xT,List.length_append];omega) fun s8 w8 o8 _ x8 oQ=>?_
 have Cf:Ext (fun q=>kY.aj=some q) w7 w8:=x8;have y8:=Cf.size
 have od:Ext (fun q=>path.aj=some q) w w8:=(x2.no K1).trans Cf fun q hq h=>by
  rcases jN with h' | ⟨c,h',B_⟩
  .rw[<- h'];exact h
  .rw[h']at h;cases h;omega
 have XF:¬ kY.aj=some b:=fun h=>by
  rcases jN with h' | ⟨c,h',B_⟩
  .rw[h']at h;have:=(pb b h).2;omega
  .rw[h']at h;cases h;omega
 have aef:¬ kY.aj=some b1:=fun h=>by have:=(p1b _ h).2;omega
 have g8:=ag (ad g2 K1) Cf XF;have zD:=ag (ad g6 n7.ext) Cf aef
 have hs8:∀q,s8.aj=some q->kY.aj=some q∨w7.heap.size<=q:=fun q hq=>by
  rcases oQ with h | ⟨c,h,B_⟩
  .exact .inl (by rw[<- h];exact hq)
  .rw[h]at hq;cases hq;exact .inr B_
 have YU:i<=l.length:=by
  rcases Iq with⟨h0,hL⟩ | ⟨mV,W8,hk⟩
  .rw[h0]at hi;exact(hG.leaf l Cb i hL.keys.symm hi).1
  .rw[W8]at hi;obtain⟨_,_,_,_,_,⟨Nf,_⟩,_⟩:=hG.inner mV l Cb dG i hk hN.right.ord bA hi;omega
 have o37:ic w7.heap w2.heap.size s3 L:=((o3.no x5).no x6).no n7.ext
 have toN:∀{s:Sl}{L:List (aL×aF)},ki w7.heap (fun q=>n0<=q/\kY.aj≠some q/\¬ (q=b∨X q)) s L->ki w8.heap (fun q=>n0<=q/\s8.aj≠some q/\¬ (q=b∨X q)) s L:=fun h=>by
  have h1:=h.mono (B':=fun q=>(n0<=q/\kY.aj≠some q/\¬ (q=b∨X q))/\q < w7.heap.size) fun q h1 h2=>⟨h2,h1⟩
  refine(h1.ext Cf fun q hq _ h'=>hq.1.2.1 h').mono fun q _ h'=>⟨h'.1.1,fun h2=>?_,h'.1.2.2⟩
  rcases hs8 q h2 with h3 | h3
  .exact h'.1.2.1 h3
  .omega
 have q37:ki w7.heap (fun q=>n0<=q/\kY.aj≠some q/\¬ (q=b∨X q)) s3 L:=o37.q fun q h1 h2=>⟨by omega,(fun h3=>by have:=(p1b _ h3).2;omega),fun h3=>h3.elim (by omega) fun h4=>by have:=hX q h4;omega⟩
 have hP8:iH w8.heap n0 (fun q=>q=b∨X q) s8 (P0++(P1++[⟨bE lv,lv,s3,L,i⟩])):=by
  refine⟨by rw[<- List.append_assoc,List.flatMap_append];simpa using o8,fun y hy=>?_,fun y hy=>?_⟩
  .rw[<- List.append_assoc]at hy;rcases List.mem_append.1 hy with h | h
   .exact toN (hP7.nd y h)
   .rw[List.mem_singleton]at h;subst h;exact toN q37
  .rw[<- List.append_assoc]at hy;rcases List.mem_append.1 hy with h | h
   .exact hP7.sm y h
   .rw[List.mem_singleton]at h;subst h;exact⟨by show L.length<=_;omega,by show i<=_;omega⟩
 have KH:ny w8.heap s3 L:=(toN q37).nd
 have hv8:∀j (hj:j < (P1++[(⟨bE lv,lv,s3,L,i⟩ : eS)]).length),(P1++[(⟨bE lv,lv,s3,L,i⟩ : eS)])[j].v=((lev - j:Nat):Int):=fun j hj=>by
  rcases Nat.lt_or_ge j P1.length with h | h
  .rw[List.getElem_append_left h];exact hv2 j h
  .have:j=P1.length:=by simp at hj;omega
   subst this;rw[List.getElem_append_right (Nat.le_refl _)];simp;omega
 have abq:∀Pn,(P1++[(⟨bE lv,lv,s3,L,i⟩ : eS)]).map eS.abs++Pn=P1.map eS.abs++((l,i)::Pn):=fun Pn=>by
  rw[List.map_append,List.append_assoc];simp[eS.abs,eL]
 have fs8:s8.aj=path.aj∨∃q,s8.aj=some q/\w1.heap.size<=q:=by
  rcases oQ with h | ⟨c,h,B_⟩
  .rcases jN with h' | h'
   .exact .inl (h.trans h')
   .rw[h];exact .inr h'
  .exact .inr ⟨c,h,by omega⟩
 refine⟨_,Cell.ah g8 rfl,If.beq (fun h0=>?_) fun h0=>?_⟩
 .have lv0:lv=0:=by omega
  subst lv0;rcases Iq with⟨_,hL⟩ | ⟨_,h,_⟩
  .obtain⟨Nf,hg⟩:=hG.leaf l Cb i hL.keys.symm hi;obtain⟨a,ha1,ha2⟩:=hgo [(l,i)] i ⟨l,rfl,hL.keys.symm,Nf,bA⟩ hg;refine k s8 _ a w8 (hP8.mono fun _ _ h=> .inr h) hv8 (by have:=abq [];rw[List.append_nil]at this;rw[this];exact ha1) ha2 od ?_;rcases fs8 with h | ⟨q,h1,h2⟩
   .exact .inl h
   .exact .inr ⟨q,h1,by omega⟩
  .omega
 .rcases Iq with⟨h,_⟩ | ⟨mV,W8,hk⟩
  .exact absurd h (by omega)
  subst W8;obtain⟨pre,kv,post,p2,j1,⟨Nf,j2⟩,j3,j4,j5⟩:=hG.inner mV l Cb dG i hk hN.right.ord bA hi;have KL:i < L.length:=by omega
  have e1:L[i].2=l[i]:=by
   have:=congrArg (fun l=>l[i]?) eL;simp only[List.getElem?_map,List.getElem?_eq_getElem KL,List.getElem?_eq_getElem Nf,Option.map_some,Option.some.injEq]at this;exact this
  have er:=KH.get KL;have hz:(((mV+1:Nat):Int) - 1)=(mV:Int):=by omega
  have nsb:∀q,s8.aj=some q->¬ q=b:=fun q hq h=>by
   rcases fs8 with h' | ⟨c,h',B_⟩
   .rw[h']at hq;have:=(pb q hq).2;omega
   .rw[h']at hq;cases hq;omega
  let I0:Nat->Sl->Pw:=fun q kY w'=>∃(P1:List eS) (lv:Nat) (r':Rf) (Cb:List KV) (p':List Rf),bq M.f t lv r' Cb p'/\q=lv/\P1.length+lv=lev/\iH w'.heap n0 (fun q=>q=b∨X q) kY (P0++P1)/\(∀j (hj:j < P1.length),P1[j].v=((lev - j:Nat):Int))/\w'.heap[b]? = some (.cells [.int .u32 r'.p,.int .u64 r'.c,.int .u16 r'.g,.int .u8 lv].toArray 30 (0,0))/\Ext (fun q=>path.aj=some q) w w'/\(kY.aj=path.aj∨∃q,kY.aj=some q/\w1.heap.size<=q)/\
   ∀Pn a',fU M.f t lv Cb Pn a'->G Cb a'->∃a,fU M.f t lev kvs (P1.map eS.abs++Pn) a/\G kvs a
  have fin:∀w9:Wd,w9.heap[b]? = some (.cells [.int .u32 L[i].1.cd.p,.int .u64 L[i].1.cd.c,.int .u16 L[i].1.cd.g,.int .u8 (((mV+1:Nat):Int) - 1)].toArray 30 (0,0))->Ext (·=b) w8 w9->∃m1,m1 < mV+1/\I0 m1 s8 w9:=fun w9 g9 x9=>by
   have DD:Ext (·=b) w8 w9:=x9;rw[er.cd,e1,hz]at g9;refine⟨mV,by omega,P1++[⟨bE (mV+1:Nat),(mV+1:Nat),s3,L,i⟩],mV,l[i].cd,kv,p2,j2,rfl,by simp;omega,hP8.ext DD nsb fun q _ _ _ h h'=>h (.inl h'),hv8,g9,od.trans DD fun q hq h=>by omega,fs8,fun Pn a' h1 h2=>?_⟩;rw[abq];exact hgo _ _ ⟨l,i,Pn,a',pre,kv,post,rfl,⟨Nf,p2,j2⟩,j1,j3,j4,h1,rfl⟩ (j5 a' h2)
  have aeg:ny (aa w8).heap s3 L:=KH;have ix:∀{K:Addr->Prop},(∀bb o,(∀j v,(aU L[i])[j]? = some v->Cell (aa w8) ⟨bb,o+j,none⟩ v)->K ⟨bb,o,none⟩)->Ix s3.a s3.len (i:Int) 9 K:=fun hk=>Ix.elem (w:=aa w8) aeg.rd (bO L) (by decide) (by omega) (by have:=KH.len;omega) fun bb o iO _ hc=>hk bb o (by simpa using hc)
  have g8d:(aa w8).heap[b]? = _:=g8;have abr:(aa w8).heap[b1]? = _:=zD;have tv:(1:Int)<=((mV+1:Nat):Int):=by omega
  have st:=fun(zz:Unit)=>cR (w:=aa w8) (n:=4) (vs:=[.int .u32 L[i].1.cd.p,.int .u64 L[i].1.cd.c,.int .u16 L[i].1.cd.g,.int .u8 (((mV+1:Nat):Int) - 1)]) (K:=fun w9=>True/\∃m1,m1 < mV+1/\I0 m1 s8 w9) g8d rfl rfl (by simp[aJ]) fun w9 g9 x9 _=>⟨trivial,fin w9 g9 x9.ar⟩
  refine⟨fun _=>True,trivial,⟨_,Cell.ah abr rfl,trivial,ix fun bb o hc=>⟨⟨_,hc 6 _ rfl,_,hc 7 _ rfl,_,hc 8 _ rfl,trivial,_,Cell.ah g8d rfl,trivial,Ar.u8 (by omega) (st ())⟩,⟨_,Cell.ah g8d rfl,trivial,Ar.u8 (by omega) ⟨_,hc 6 _ rfl,_,hc 7 _ rfl,_,hc 8 _ rfl,trivial,st ()⟩⟩⟩⟩,
   ⟨_,Cell.ah g8d rfl,trivial,Ar.u8 (by omega) ⟨_,Cell.ah abr rfl,trivial,ix fun bb o hc=>⟨_,hc 6 _ rfl,_,hc 7 _ rfl,_,hc 8 _ rfl,trivial,st ()⟩⟩⟩⟩
end
end Go.Proofs.YtpjbalhhlaofmaaGreat
namespace Go.V
def il(h:Array Obj)(n0:Nat)(X:Nat->Prop)(f:bR)(m:bJ)(t:Int)(r:Rf)(lev bc:Nat)(kvs:List KV)(a:Nat):Prop:=
 n0<=bc/\¬ X bc/\∃p:Sl,h[bc]? = some (.cells (mT m t r lev p).toArray 183 (0,0))/\((r = .z/\lev=0/\kvs=[]/\p=⟨none,0,0⟩/\a=0)∨(r ≠ .z/\∃P:List eS,iH h n0 (fun q=>q=bc∨X q) p P/\(∀q,p.aj=some q->q≠bc/\¬ X q)/\(∀j (hj:j < P.length),P[j].v=((lev - j:Nat):Int))/\fU f t lev kvs (P.map eS.abs) a))
theorem il.ext{S X X':Nat->Prop}{w w':Wd}{n0:Nat}{f:bR}{m:bJ}{t:Int}{r:Rf}{lev bc:Nat}{kvs:List KV}{a:Nat}(c:il w.heap n0 X f m t r lev bc kvs a)(x:Ext S w w')(h1:∀q,q < w.heap.size->n0<=q->q≠bc->¬ X q->¬ S q)(h2:¬ S bc)(h3:∀q,X' q->X q):il w'.heap n0 X' f m t r lev bc kvs a:=by
 obtain⟨hn,hx,p,hb,h⟩:=c;refine⟨hn,fun e=>hx (h3 _ e),p,Go.Proofs.YtpjbalhhlaofmaaGreat.ag hb x h2,?_⟩;rcases h with h | ⟨hr,P,hP,hp,hv,hA⟩
 .exact .inl h
 .refine .inr ⟨hr,P,(hP.ext x (fun q hq=>?_) fun q hl hn _ hX=>h1 q hl hn (fun e=>hX (.inl e)) fun e=>hX (.inr e)).mono fun q _ hq=>hq.imp id (h3 q),fun q hq=>⟨(hp q hq).1,fun e=>(hp q hq).2 (h3 q e)⟩,hv,hA⟩;exact h1 q (hP.own.lt hq).2 (hP.own.lt hq).1 (hp q hq).1 (hp q hq).2
theorem il.sub{X X':Nat->Prop}{h:Array Obj}{n0:Nat}{f:bR}{m:bJ}{t:Int}{r:Rf}{lev bc:Nat}{kvs:List KV}{a:Nat}(c:il h n0 X f m t r lev bc kvs a)(h3:∀q,X' q->X q):il h n0 X' f m t r lev bc kvs a:=by
 obtain⟨hn,hx,p,hb,h⟩:=c;refine⟨hn,fun e=>hx (h3 _ e),p,hb,?_⟩;rcases h with h | ⟨hr,P,hP,hp,hv,hA⟩
 .exact .inl h
 .exact .inr ⟨hr,P,hP.mono fun q _ hq=>hq.imp id (h3 q),fun q hq=>⟨(hp q hq).1,fun e=>(hp q hq).2 (h3 q e)⟩,hv,hA⟩
end Go.V
namespace Go.Proofs.YtpjbalhhlaofmaaGreat
open Go.V
section
variable {w:Wd} {T:Nat->Option Nat} {m:bJ} {M:Mm}
def Ld(_:Nat)(_:List aF)(i:Nat):Prop:=i=0
def xB(lev:Nat)(l:List aF)(i:Nat):Prop:=i=if lev=0 then l.length else l.length - 1
def QU(key:List Int)(lev:Nat)(l:List aF)(i:Nat):Prop:=(lev=0->∃f,Pb l key i f)/\(lev≠0->ui l key i)
theorem Ir{S:Nat->Prop}:o_ w S (.func (.func 103) #[] #[]) Ld:=by
 intro w' lev s L K _ _ _ _ _ _ hk;refine EX (EW (af.mk fun b w1 n1=>hk 0 w1 rfl n1.ext))
theorem Le{S:Nat->Prop}:o_ w S (.func (.func 149) #[] #[]) xB:=by
 intro w' lev s L K _ nd hl dP bA _ hk;have LN:=nd.len;have tv:1<=L.length:=List.length_pos_iff.2 bA;refine GY (GX (af.mk fun b w1 n1=>⟨_,Cell.ah n1.get rfl,If.beq (fun h=>⟨_,Cell.ah n1.get rfl,?_⟩) fun h=>⟨_,Cell.ah n1.get rfl,Ar.i64 (by omega) ?_⟩⟩))
 .rw[LN];exact hk L.length w1 (by unfold xB;rw[if_pos (by omega)];simp) n1.ext
 .have:=hk (L.length - 1) w1 (by unfold xB;rw[if_neg (by omega)];simp) n1.ext;have e:((L.length - 1:Nat):Int)=(s.len:Int) - 1:=by omega
  rw[e]at this;exact this
theorem Tz{S:Nat->Prop}{bk:Nat}{ks:Sl}{kb:List Int}(hb:w.heap[bk]? = some (.cells [.slice ks.a ks.len ks.cap].toArray 23 (0,0)))(hk:b_ w.heap ks kb)(k8:B8 kb)(hS:∀q,¬ S q):o_ w S (.func (.func 148) #[] #[.pointer (some (A1 bk))]) (QU kb):=by
 intro w' lev s L K x nd hl dP bA hR MT;have x':Ext No w w':=x.mono fun q _ h=>hS q h
 have g':=ad hb x';have Ud:=Rd.no hk x';refine qU (c0:=A1 bk) (qT (af.mk fun b w1 n1=>⟨_,Cell.ah n1.get rfl,If.dec (fun h=>⟨_,Cell.ah n1.get rfl,_,Cell.ah n1.get rfl,_,Cell.ah n1.get rfl,_,Cell.ah (ad g' n1.ext) rfl,?_⟩) fun h=>⟨_,Cell.ah n1.get rfl,_,Cell.ah n1.get rfl,_,Cell.ah n1.get rfl,_,Cell.ah (ad g' n1.ext) rfl,?_⟩⟩))
 .have abt:bE (lev:Int)=2:=by unfold bE;rw[if_neg (by omega)]
  have h0:∃e l,ents L=e::l/\e.key=[]:=by
   cases hL:ents L with
   | nil=>exact absurd (mP hL) (by simpa using bA)
   | cons e l=>
    refine⟨e,l,rfl,?_⟩;have:=(hR.h_ 0 (by rw[hL];simp)).1;rw[abt]at this;unfold lX at this;rw[if_pos ⟨rfl,rfl⟩]at this;have h2:(ents L)[0]'(by rw[hL];simp)=e:=by simp[hL]
    rw[h2]at this;exact List.eq_nil_of_length_eq_zero (by simpa using this)
  refine uj (nd.no n1.ext) (Rd.no Ud n1.ext) k8 hl hR.ord h0 fun i w2 hc x2=>MT i w2 ⟨fun h=>by omega,fun _=>hc⟩ (n1.ext.no x2)
 .refine find_spec (nd.no n1.ext) (Rd.no Ud n1.ext) k8 hl fun i f w2 hf x2=>MT i w2 ⟨fun _=>⟨f,hf⟩,fun h=>by omega⟩ (n1.ext.no x2)
theorem BQ{f:bR}{t:Int}:xA f t Ld fun _ a=>a=0:=by
 refine⟨fun l kvs i hk hi=>⟨by rw[hi];omega,hi⟩,fun lv l kvs ps i hk hr bA hi=>?_⟩;have iO:i=0:=hi;subst iO;obtain⟨pre,kv,post,p,h1,h2,h3,h4⟩:=FP hk (List.length_pos_iff.2 bA);refine⟨pre,kv,post,p,h1,⟨_,h2⟩,h3,h4,fun a' ha=>?_⟩;rw[List.take_zero]at h1
 cases h1
 simpa using ha
theorem Ef{f:bR}{t:Int}:xA f t xB fun kvs a=>a=kvs.length:=by
 refine⟨fun l kvs i hk hi=>?_,fun lv l kvs ps i hk hr bA hi=>?_⟩
 .have:=congrArg List.length hk;simp only[List.length_map]at this;unfold xB at hi;rw[if_pos rfl]at hi;exact⟨by omega,by omega⟩
 .unfold xB at hi;rw[if_neg (by omega)]at hi;have tv:=List.length_pos_iff.2 bA;obtain⟨pre,kv,post,p,h1,h2,h3,h4⟩:=FP hk (show i < l.length by omega);refine⟨pre,kv,post,p,h1,⟨_,h2⟩,h3,h4,fun a' ha=>?_⟩;rw[List.drop_eq_nil_of_le (by omega)]at h3
  cases h3
  rw[h4];simp;omega
theorem Ng{f:bR}{t:Int}{key:List Int}:xA f t (QU key) fun kvs a=>uG kvs key a:=by
 refine⟨fun l kvs i hk hi=>?_,fun lv l kvs ps i hk hr bA hi=>?_⟩
 .obtain⟨g,hf⟩:=hi.1 rfl;have hl:=congrArg List.length hk;simp only[List.length_map]at hl
  have ek:∀j (h1:j < l.length) (h2:j < kvs.length),l[j].key=kvs[j].1:=fun j h1 h2=>by
   have:=congrArg (fun x=>x[j]?) hk;simpa only[List.getElem?_map,List.getElem?_eq_getElem h1,List.getElem?_eq_getElem h2,Option.map_some,Option.some.injEq] using this
  refine⟨hf.le,⟨by have:=hf.le;omega,fun j hj Aa=>?_,fun hj=>?_⟩⟩
  .rw[<- ek j (by omega) hj];exact hf.lt j (by omega) Aa
  .rw[<- ek i (by omega) hj];exact hf.ge (by omega)
 .have hc:=hi.2 (by omega);obtain⟨pre,kv,post,p,h1,h2,h3,h4,h5,h6⟩:=Ed hk hr hc;exact⟨pre,kv,post,p,h1,⟨hc.lt,h2⟩,h3,h4,fun a' ha=>by rw[h4];exact ha.mid h5 h6⟩
theorem xC{bc n0:Nat}{t:Int}{r:Rf}{lev:Nat}{ch:Value}{kvs:List KV}{ps:List Rf}{Ch:Nat->List aF->Nat->Prop}{G:List KV->Nat->Prop}{K:Int->Pw}
  (R:bC w.heap T m M) (wm:n0<=w.heap.size) (sU:dS M.f t r lev kvs ps) (dP:lev<=30) (hc:∃p,w.heap[bc]? = some (.cells (mT m t r lev p).toArray 183 (0,0))/\(r = .z->p=⟨none,0,0⟩)) (IE:n0<=bc) (hch:o_ w (fun _=>False) ch Ch) (hG:xA M.f t Ch G) (hG0:kvs=[]->G kvs 0)
  (k:∀a w',il w'.heap n0 (fun q=>q < w.heap.size/\q≠bc) M.f m t r lev bc kvs a->G kvs a->Ext (·=bc) w w'->K 0 w'):dN (some ⟨bc,0,none⟩) ch w K:=by
 apply mF;obtain⟨p,gc,hp⟩:=hc;refine⟨fun w'=>w'=w,If.no (Nn.mk ⟨_,Cell.ah gc rfl,trivial,If.no rfl⟩),?_⟩;rintro _ w1 rfl;refine Nn.mk ⟨_,Cell.ah gc rfl,_,Cell.ah gc rfl,_,Cell.ah gc rfl,_,Cell.ah gc rfl,?_⟩;dsimp only;rw[Hx];rcases sU with⟨h1,h2,h3,h4⟩ | ⟨h1,h2,hS⟩
 .have n_:=hp h1;have l0:lev=0:=by omega
  subst l0;rw[h1];refine If.yes (k 0 _ ⟨IE,fun h=>h.2 rfl,p,gc,.inl ⟨h1,rfl,h3,n_,rfl⟩⟩ (hG0 h3) (Ext.refl _ _))
 .rw[decide_eq_false h1];rw[Int.toNat_natCast]at hS;refine If.no (Nn.mk ⟨_,Cell.ah gc rfl,_,Cell.ah gc rfl,_,Cell.ah gc rfl,_,Cell.ah gc rfl,?_⟩);have oQ:=blt gc;refine Ee (X:=fun q=>q < w1.heap.size) (path:=⟨none,0,0⟩) (P0:=[]) R (fun q h=>by simp[Sl.aj]at h) wm gc (by simp[Sl.aj]) (iH.nil _ _ _) (fun q h=>h) (by simp) hS dP (fun x=>hch (x.mono fun q _ h=>by simp[Sl.aj]at h)) hG fun s P1 a w2 hP hv hA hg x2 hs=>If.beq (fun _=>?_) fun h=>(h rfl).elim
  have x2':Ext No w1 w2:=x2.mono fun q _ h=>by simp[Sl.aj]at h
  have QT:=ad gc x2'
  have sb:∀q,s.aj=some q->w1.heap.size<=q:=fun q hq=>by
   rcases hs with h | ⟨c,h,hc⟩
   .rw[h]at hq;simp[Sl.aj]at hq
   .rw[h]at hq;cases hq;exact hc
  refine Nn.mk (aQ.mk QT (by show 6 < 7;decide) rfl fun w3 h3=>?_);have g3:w3.heap[bc]? = some (.cells (mT m t r lev s).toArray 183 (0,0)):=h3.get QT;have x3:Ext (·=bc) w2 w3:=h3.ext;refine k a w3 ⟨IE,fun h=>h.2 rfl,s,g3,.inr ⟨h1,P1,?_,fun q hq=>⟨by have:=sb q hq;omega,fun h=>by have:=sb q hq;have:=h.1;omega⟩,hv,hA⟩⟩ hg (x2'.aE.trans x3 fun _ _ h=>h);rw[List.nil_append]at hP;exact(hP.ext x3 (fun q hq h=>by have:=sb q hq;omega) fun q _ _ _ h h'=>h (by omega)).mono fun q _ h=>h.elim (fun h=>by omega) fun h=>h.1
end
end Go.Proofs.YtpjbalhhlaofmaaGreat
namespace Go.V
theorem il.path{h:Array Obj}{n0:Nat}{X:Nat->Prop}{f:bR}{m:bJ}{t:Int}{r:Rf}{lev bc:Nat}{kvs:List KV}{a:Nat}(c:il h n0 X f m t r lev bc kvs a):∃p,h[bc]? = some (.cells (mT m t r lev p).toArray 183 (0,0))/\(r = .z->p=⟨none,0,0⟩):=by
 obtain⟨_,_,p,hb,h | ⟨hr,_⟩⟩:=c
 .exact⟨p,hb,fun _=>h.2.2.2.1⟩
 .exact⟨p,hb,fun h=>(hr h).elim⟩
theorem il.no{X:Nat->Prop}{w w':Wd}{n0:Nat}{f:bR}{m:bJ}{t:Int}{r:Rf}{lev bc:Nat}{kvs:List KV}{a:Nat}(c:il w.heap n0 X f m t r lev bc kvs a)(x:Ext No w w'):il w'.heap n0 X f m t r lev bc kvs a:=c.ext x (fun _ _ _ _ _ h=>h) (fun h=>h) fun _ h=>h
end Go.V
namespace Go.Proofs.YtpjbalhhlaofmaaGreat
open Go.V
section
variable {w:Wd} {T:Nat->Option Nat} {m:bJ} {M:Mm}
theorem Nh{n0:Nat}{t:Int}{r:Rf}{lev:Nat}{kvs:List KV}{ps:List Rf}{K:Option Addr->Int->Pw}(R:bC w.heap T m M)(wm:n0<=w.heap.size)(sU:dS M.f t r lev kvs ps)(dP:lev<=30)
  (k:∀bc w',il w'.heap n0 (fun q=>q < w.heap.size) M.f m t r lev bc kvs 0->w.heap.size<=bc->Ext No w w'->K (some ⟨bc,0,none⟩) 0 w'):fY (eY m) t r.p r.c r.g lev w K:=by
 apply qS
 refine af.mk fun b w1 n1=>⟨trivial,If.no ⟨_,Cell.ah n1.get rfl,_,Cell.ah n1.get rfl,_,Cell.ah n1.get rfl,_,Cell.ah n1.get rfl,rfl,af.mk fun b1 w2 n2=>?_⟩⟩
 have jA:=n1.ext.no n2.ext;have jk:=n2.at_;have z1:=n1.size;have z2:=n2.size;have g2:w2.heap[b1]? = some (.cells (mT m t r lev ⟨none,0,0⟩).toArray 183 (0,0)):=n2.get;refine xC (n0:=n0) (R.no jA) (by omega) sU dP ⟨_,g2,fun _=>rfl⟩ (by omega) Ir BQ (fun _=>rfl) fun a w3 c hg x3=>If.bne (fun h=>(h rfl).elim) fun _=>?_
 have Zo:a=0:=hg;rw[Zo]at c;exact k b1 w3 (c.sub fun q h=>⟨by omega,by omega⟩) (by omega) (jA.trans x3 fun q hq h=>by omega)
theorem BR{n0 bc:Nat}{t:Int}{r:Rf}{lev a0:Nat}{ks:Sl}{kb:List Int}{X:Nat->Prop}{kvs:List KV}{ps:List Rf}{K:Int->Pw}(R:bC w.heap T m M)(wm:n0<=w.heap.size)(sU:dS M.f t r lev kvs ps)(dP:lev<=30)(c:il w.heap n0 X M.f m t r lev bc kvs a0)(hk:b_ w.heap ks kb)(k8:B8 kb)
  (k:∀a w',il w'.heap n0 (fun q=>q < w.heap.size/\q≠bc) M.f m t r lev bc kvs a->uG kvs kb a->Ext (·=bc) w w'->K 0 w'):fC (some ⟨bc,0,none⟩) ks w K:=by
 apply tU;refine af.mk fun b w1 n1=>?_
 obtain⟨p,gc,hp⟩:=c.path;have z1:=n1.size;refine xC (R.no n1.ext) (by omega) sU dP ⟨p,ad gc n1.ext,hp⟩ c.1 (Tz n1.get (Rd.no hk n1.ext) k8 fun _ h=>h) Ng (fun h=>?_) fun a w2 c2 hg x2=>k a w2 (c2.sub fun q h=>⟨by have:=h.1;omega,h.2⟩) hg (n1.ext.aE.trans x2 fun _ _ h=>h)
 rw[h];exact⟨by simp,fun j hj _=>absurd hj (by simp),fun hj=>absurd hj (by simp)⟩
theorem Ni{n0 bc:Nat}{X:Nat->Prop}{t:Int}{r:Rf}{lev a0:Nat}{kvs:List KV}{ps:List Rf}{K:Int->Pw}(R:bC w.heap T m M)(wm:n0<=w.heap.size)(sU:dS M.f t r lev kvs ps)(dP:lev<=30)(c:il w.heap n0 X M.f m t r lev bc kvs a0)
  (k:∀w',il w'.heap n0 (fun q=>q < w.heap.size/\q≠bc) M.f m t r lev bc kvs kvs.length->Ext (·=bc) w w'->K 0 w'):ja (some ⟨bc,0,none⟩) w K:=by
 apply vj;obtain⟨p,gc,hp⟩:=c.path;refine xC R wm sU dP ⟨p,gc,hp⟩ c.1 Le Ef (fun h=>by rw[h];rfl) fun a w2 c2 hg x2=>?_
 have Zo:a=kvs.length:=hg;rw[Zo]at c2;exact k w2 c2 x2
theorem BS{bc:Nat}{t:Int}{r:Rf}{lev:Nat}{p:Sl}{x:aL}{e:aF}{v:List Int}{kvs:List KV}{ps:List Rf}{K:Sl->Sl->Int->Pw}(R:bC w.heap T m M)(sU:dS M.f t r lev kvs ps)(dP:lev<=30)(gc:w.heap[bc]? = some (.cells (mT m t r lev p).toArray 183 (0,0)))(er:lD w.heap x e)(kl:1<=e.key.length/\e.key.length<=32)(k8:B8 e.key)(hv:bU kvs e.key=some v)
  (k:∀ks vs w',aK w'.heap w.heap.size ks e.key->aK w'.heap w.heap.size vs v->(∀q,ks.aj=some q->vs.aj≠some q)->Ext No w w'->K ks vs 0 w'):cq (some ⟨bc,0,none⟩) x.k x.v x.n x.ch.p x.ch.c x.ch.g x.cd.p x.cd.c x.cd.g w K:=by
 apply tM;refine af.mk fun b w1 n1=>af.mk fun b1 w2 n2=>?_
 have jA:=n1.ext.no n2.ext;have g2:w2.heap[b]? = some (.cells x.cs.toArray 151 (0,0)):=ad n1.get n2.ext;have QT:=ad gc jA;have jk:=n2.at_;have z1:=n1.size;have z2:=n2.size;refine⟨Ext No w2,(Ext.refl _ _).drew,Nn.mk ⟨_,ae.cell (Cell.ah QT rfl),Nn.mk ⟨_,ae.cell (Cell.ah QT rfl),Nn.mk ⟨_,ae.cell (Cell.ah QT rfl),_,ae.cell (Cell.ah QT rfl),_,ae.cell (Cell.ah QT rfl),_,ae.cell (Cell.ah QT rfl),_,ae.cell (Cell.ah g2 rfl),?_⟩⟩⟩⟩;have er2:=er.no jA;have R2:bC (aa w2).heap T m M:=R.no jA.drew;have CJ:b_ (aa w2).heap x.k e.key:=er2.k;refine pR (w:=aa w2) R2 sU (by omega) CJ k8 (fun w' h _=>by omega) (fun w' _ _ h _=>by rw[hv]at h;cases h) fun v' vs w3 _ _ XK o3 x3=>?_
 rw[hv]at XK;cases XK;have lH:Ext No w2 w3:=x3.ar;refine⟨lH,If.bne (fun h=>(h rfl).elim) fun _=>⟨_,Cell.ah (ad g2 lH) rfl,?_⟩⟩;have o3':aK w3.heap w2.heap.size vs v:=o3;have y3:=lH.size
 refine jX (er2.no lH).k (by omega) fun ks w5 o5 x5=>cR (ad (ad n2.get lH) x5) rfl rfl (by simp[aJ]) fun w6 g6 x6 _=>⟨_,Cell.ah g6 rfl,_,Cell.ah g6 rfl,?_⟩
 have W9:Ext (·=b1) w5 w6:=x6;refine k ks vs w6 ((bf.mono o5 (by omega)).ext W9 fun q hq h=>by have:=(o5.lt hq).1;omega) ((bf.mono (o3'.no x5) (by omega)).ext W9 fun q hq h=>by have:=(o3'.lt hq).1;omega) (fun q h1 h2=>by have:=(o5.lt h1).1;have:=(o3'.lt h2).2;omega) (((jA.no lH).no x5).trans W9 fun q hq h=>by omega)
set_option maxHeartbeats 2000000 in
theorem Eg{bc n0:Nat}{X:Nat->Prop}{d t:Int}{r:Rf}{lev a:Nat}{p:Sl}{P:List eS}{ch:Value}{Ch:Nat->List aF->Nat->Prop}{G:List KV->Nat->Prop}{kvs:List KV}{K:Sl->Int->Pw}(hd:d=1∨d = -1)
  (R:bC w.heap T m M) (wm:n0<=w.heap.size) (dP:lev<=30) (gc:w.heap[bc]? = some (.cells (mT m t r lev p).toArray 183 (0,0))) (hP:iH w.heap n0 (fun q=>q=bc∨X q) p P) (hX:∀q,X q->q < w.heap.size) (hv:∀j (hj:j < P.length),P[j].v=((lev - j:Nat):Int)) (hA:fU M.f t lev kvs (P.map eS.abs) a)
  (hl:∀x,(P.map eS.abs).getLast? = some x->if d=1 then x.2=x.1.length else x.2=0) (hch:∀{w' S},o_ w' S ch Ch) (hG:xA M.f t Ch G) (hGe:∀kv a,G kv a->a=if d=1 then 0 else kv.length)
  (abu:∀w',a=(if d=1 then kvs.length else 0)->Ext No w w'->K ⟨none,0,0⟩ 0 w')
  (k:∀s P' w',iH w'.heap n0 (fun q=>q=bc∨X q) s P'->(∀q,s.aj=some q->w.heap.size<=q)->(∀j (hj:j < P'.length),P'[j].v=((lev - j:Nat):Int))->fU M.f t lev kvs (P'.map eS.abs) a->(∀x,(P'.map eS.abs).getLast? = some x->x.1≠[]/\if d=1 then x.2=0 else x.2=x.1.length)->Ext No w w'->K s 0 w'):fE (some ⟨bc,0,none⟩) d ch w K:=by
 apply tL;have xT:=hP.len;have Rr:P.length=lev+1:=by have:=hA.len;simpa using this
 have hml:(P.map eS.abs).length=P.length:=by simp
 have aee:=blt gc;refine Nn.mk ⟨_,Cell.ah gc rfl,Ar.i64 (by omega) ?_⟩;refine⟨fun q i w'=>w'=w/\ -1<=i/\i+2<=(P.length:Int)/\q=(i+1).toNat/\∀j (h:j+1 < (P.map eS.abs).length),i < (j:Int)->¬ Ip d (P.map eS.abs)[j],⟨_,rfl,by omega,by omega,rfl,fun j h1 h2=>by simp at h1;omega⟩,?_⟩;rintro _ m0 i w1 ⟨rfl,TN,uJ,hq,wv⟩;refine If.dec (fun h=>?_) fun h=>?_
 .obtain⟨j,rfl⟩ : ∃j:Nat,i=j:=⟨i.toNat,by omega⟩
  have hj:j < P.length:=by omega
  have aeh:=hP.nd _ (List.getElem_mem hj);have eO:=aeh.nd.len;refine Nn.mk ⟨_,Cell.ah gc rfl,Ix.elem hP.own.rd (dQ P) (by decide) (by omega) (by omega) fun bb o _ _ hc=>?_⟩;simp only[Int.toNat_natCast]at hc
  -- places are small
  have WI:=hP.sm _ (List.getElem_mem hj);have hjm:j < (P.map eS.abs).length:=by rw[hml];exact hj
  refine⟨_,hc 3 _ rfl,Ar.i64 (by omega) ?_⟩
  have cont:∀w':Wd,w'=w1->¬ Ip d (P.map eS.abs)[j]->∃m1,m1 < m0/\(w'=w1/\ -1<=(j:Int) - 1/\(j:Int) - 1+2<=(P.length:Int)/\m1=((j:Int) - 1+1).toNat/\∀j' (h:j'+1 < (P.map eS.abs).length),(j:Int) - 1 < (j':Int)->¬ Ip d (P.map eS.abs)[j']):=fun w' hw hm=>⟨((j:Int) - 1+1).toNat,by omega,hw,by omega,by omega,rfl,fun j' h1 h2=>by
   rcases Nat.lt_or_ge j j' with h3 | h3
   .exact wv j' h1 (by omega)
   .have:j'=j:=by omega
    subst this;exact hm⟩
  refine⟨fun w'=>w'=w1/\Ip d (P.map eS.abs)[j],If.dec (fun hz=>Ar.i64 (by omega) (cont w1 rfl fun hm=>?_)) fun hz=>Nn.mk ⟨_,Cell.ah gc rfl,Ix.elem hP.own.rd (dQ P) (by decide) (by omega) (by omega) fun bb o _ _ hc=>?_⟩,?_⟩
  .have:=hm.1;simp[eS.abs]at this;omega
  .simp only[Int.toNat_natCast]at hc;refine⟨_,hc 2 _ rfl,If.dec (fun hz2=>Ar.i64 (by omega) (cont w1 rfl fun hm=>?_)) fun hz2=>⟨rfl,?_,?_⟩⟩
   .have:=hm.2;simp[eS.abs]at this;omega
   .simp[eS.abs];omega
   .simp[eS.abs];omega
  rintro _ w2 ⟨rfl,abv⟩;rcases hA.over hd hl with⟨j',mH,m1,m2,i',e1,iO,kv,p',hS,hN⟩ | ⟨abw,_⟩
  .have W7:j'=j:=by
    simp only[List.length_map]at mH;rcases Nat.lt_trichotomy j' j with h3 | h3 | h3
    .exact absurd abv (m2 j (by simp;omega) h3)
    .exact h3
    .exact absurd m1 (wv j' (by simp;omega) (by omega))
   subst W7;have eP:(P.map eS.abs)[j']=P[j'].abs:=by simp
   simp only[eP]at e1 iO hS hN;have e1':(i':Int)=(P[j'].i:Int)+d:=e1;have abx:i' < (ents P[j'].L).length:=iO;have xF:bq M.f t (lev - 1 - j') (ents P[j'].L)[i'].cd kv p':=hS;refine Ar.i64 (by omega) (Nn.mk ⟨_,Cell.ah gc rfl,FZ.mk (by omega) (by omega) (by omega) (by omega) fun b w3 n3=>Nn.mk ⟨_,Cell.ah (ad gc n3.ext) rfl,?_⟩⟩);have hb:=n3.at_;have z3:=n3.size;have t1:((j':Int)+1).toNat=j'+1:=by omega
   have t2:((p.len:Int)).toNat=P.length:=by omega
   rw[t1,t2];have n3':=n3.get;rw[t2]at n3';have W_:((List.replicate P.length [Value.int .u8 0,Value.int .u8 0,Value.slice none 0 0,Value.int .i64 0]).flatten).length=P.length * 4:=by simp
   have ur:min p.len (j'+1)=j'+1:=by omega
   have Ou:(P.flatMap eS.cs).take ((j'+1) * 4)=(P.take (j'+1)).flatMap eS.cs:=by
    conv=>lhs;rw[<- List.take_append_drop (j'+1) P]
    rw[List.flatMap_append,List.take_append];have KN:((P.take (j'+1)).flatMap eS.cs).length=(j'+1) * 4:=by rw[aS (dQ _),List.length_take,Nat.min_eq_left (by omega)]
    rw[KN,Nat.sub_self,List.take_zero,List.append_nil,List.take_of_length_le (by omega)]
   refine AI (d:=⟨some ⟨b,0,none⟩,j'+1,P.length⟩) (x:=p) rfl n3' (hP.own.no n3.ext).rd (by rw[W_];simp only[ur];omega) fun w4 h4=>?_
   simp only[ur,Ou]at h4;have g4:=h4.get n3';have l4:((P.take (j'+1)).flatMap eS.cs).length=(j'+1) * 4:=by rw[aS (dQ _),List.length_take,Nat.min_eq_left (by omega)]
   rw[dK _ _ _ (by rw[W_,l4];omega),List.take_zero,List.nil_append]at g4;have Cc:Ext (·=b) w3 w4:=h4.ext;have z4:w4.heap.size=w3.heap.size:=h4.size
   have o4:bf w4.heap n0 230 4 ⟨some ⟨b,0,none⟩,j'+1,P.length⟩ ((P.take (j'+1)).flatMap eS.cs):=by
    refine⟨l4,.inr ⟨b,_,rfl,by omega,g4,?_,by simp only;omega⟩,fun v hv=>?_⟩
    .rw[List.length_append,List.length_drop,W_,l4];simp only;omega
    .obtain⟨y,_,hy⟩:=List.mem_flatMap.1 hv;exact UT y v hy
   refine⟨_,rfl,by omega,by simp only;omega,?_⟩;have ea:(⟨b,0,none⟩ : Addr).add ((j':Int).toNat * 4)=⟨b,j' * 4,none⟩:=by rw[aw rfl];simp
   rw[ea];refine aQ.at_ (b:=b) (off:=j' * 4+3) o4 rfl (by rw[l4];omega) rfl fun w5 o5 x5 z5=>?_
   have ML:Ext (·=b) w4 w5:=x5.mono fun q _ h=>by simp[Sl.aj]at h;exact h.symm
   have xY:Ext No w2 w5:=(n3.ext.trans Cc fun q hq h=>by omega).trans ML fun q hq h=>by omega
   have wV:((P.take (j'+1)).flatMap eS.cs).set (j' * 4+3) (.int .i64 ((P[j'].i:Int)+d))=(P.take j'++[{ P[j'] with i:=i' }]).flatMap eS.cs:=by
    have hjt:j' < (P.take (j'+1)).length:=by rw[List.length_take];omega
    have h1:=vt (f:=eS.cs) (n:=4) (l:=P.take (j'+1)) (i:=j') (o:=3) (vs:=[.int .i64 ((P[j'].i:Int)+d)]) (y:={ P[j'] with i:=i' }) (dQ _) hjt (by simp) (by
     rw[List.getElem_take,<- e1'];rfl)
    have h2:(P.take (j'+1)).set j' { P[j'] with i:=i' }=P.take j'++[{ P[j'] with i:=i' }]:=by
     have cF:(P.take j').length=j':=by rw[List.length_take];omega
     rw[List.take_add_one,List.getElem?_eq_getElem hj,Option.toList_some,List.set_append_right _ _ (by omega),cF,Nat.sub_self];rfl
    rw[h2]at h1;exact h1
   rw[wV]at o5;generalize Rs:P.take j'++[({ P[j'] with i:=i' }:eS)]=P2 at o5;have l2:P2.length=j'+1:=by rw[<- Rs,List.length_append,List.length_take];simp;omega
   have g2j:P2[j']'(by omega)={ P[j'] with i:=i' }:=by
    have cF:(P.take j').length=j':=by rw[List.length_take];omega
    subst Rs;rw[List.getElem_append_right (by omega)];simp[cF]
   have g2o:∀k (h1:k < P2.length),P2[k].v=P[k].v:=fun k h1=>by
    rcases Nat.lt_or_ge k j' with h | h
    .subst Rs;rw[List.getElem_append_left (by rw[List.length_take];omega),List.getElem_take]
    .have:k=j':=by omega
     subst this;rw[g2j]
   have hy2:∀y∈P2,∃z∈P,y.s=z.s/\y.L=z.L/\(y.i=z.i∨y.i=i'/\y.L=P[j'].L):=fun y hy=>by
    rw[<- Rs]at hy;rcases List.mem_append.1 hy with h | h
    .exact⟨y,List.mem_of_mem_take h,rfl,rfl,.inl rfl⟩
    .rw[List.mem_singleton]at h;exact⟨P[j'],List.getElem_mem hj,by rw[h],by rw[h],.inr ⟨by rw[h],by rw[h]⟩⟩
   have UU:iH w5.heap n0 (fun q=>q=bc∨X q) ⟨some ⟨b,0,none⟩,j'+1,P.length⟩ P2:=by
    refine⟨o5,fun y hy=>?_,fun y hy=>?_⟩
    .obtain⟨z,hz,e2,e3,_⟩:=hy2 y hy;rw[e2,e3]
     have h1:=(hP.nd z hz).mono (B':=fun q=>(n0<=q/\¬ (q=bc∨X q))/\q < w2.heap.size) fun q h1 h2=>⟨⟨h2.1,h2.2.2⟩,h1⟩
     exact(h1.no xY).mono fun q _ h2=>⟨h2.1.1,(fun h3=>by simp[Sl.aj]at h3;omega),h2.1.2⟩
    .obtain⟨z,hz,e2,e3,e4⟩:=hy2 y hy;have h1:=hP.sm z hz;rw[e3];refine⟨h1.1,?_⟩;rcases e4 with h | ⟨h,h2⟩
     .rw[h];exact h1.2
     .have h3:=(hP.sm _ (List.getElem_mem hj)).1;simp at abx;omega
   refine Ix.elem UU.own.rd (dQ P2) (by decide) (by omega) (by simp only;omega) fun b5 o5' hi5 _ hc5=>?_
   simp only[Int.toNat_natCast,g2j]at hc5;refine⟨_,hc5 0 _ rfl,_,hc5 1 _ rfl,_,hc5 2 _ rfl,aW rfl rfl (by simp[aJ]) fun b2 w7 g7 jN z7 x7=>?_⟩;have ub:=xY.no x7;have y07:=ub.size;have Lf:=UU.no x7;have ndq:=Lf.nd P2[j'] (List.getElem_mem (by omega));rw[g2j]at ndq;have Xa:ny w7.heap P[j'].s P[j'].L:=ndq.nd;have KL:i' < P[j'].L.length:=by simpa using abx
   have hl7:=Xa.len;have XJ:¬ (⟨some ⟨b,0,none⟩,j'+1,P.length⟩ : Sl).aj=some b2:=fun h=>by simp[Sl.aj]at h;have:=xY.size;omega
   have X6:j'+1<=lev:=by omega
   refine⟨Ext (fun q=>(⟨some ⟨b,0,none⟩,j'+1,P.length⟩ : Sl).aj=some q) w7,(Ext.refl _ _).drew,_,ae.dI (Cell.ah g7 rfl) XJ,?_⟩;rw[show(P[j'].i:Int)+d=(i':Int) from e1'.symm];refine Ix.elem Xa.rd (bO _) (by decide) (by omega) (by show(i':Int) < (P[j'].s.len:Int);omega) fun bb ob YU hbb hcb=>?_
   simp only[Int.toNat_natCast]at YU hcb;have zV:¬ (⟨some ⟨b,0,none⟩,j'+1,P.length⟩ : Sl).aj=some bb:=fun h=>(ndq.sb bb hbb).2.1 h
   have Ua:=hv j' hj;refine⟨_,ae.dI (hcb 6 _ rfl) zV,_,ae.dI (hcb 7 _ rfl) zV,_,ae.dI (hcb 8 _ rfl) zV,_,ae.dI (Cell.ah g7 rfl) XJ,Ar.u8 (by simp only[Ua];omega) ?_⟩;have er:=Xa.get KL;have ec:(P[j'].L[i'].1).cd=(ents P[j'].L)[i'].cd:=by rw[er.cd];simp
   have ev:((P[j'].v) - 1)=((lev - 1 - j':Nat):Int):=by rw[Ua];omega
   simp only[ec,ev];have R7:bC (aa w7).heap T m M:=R.no ub.drew
   have Xb:iH (aa w7).heap n0 (fun q=>q=bc∨X q) ⟨some ⟨b,0,none⟩,j'+1,P.length⟩ P2:=⟨Lf.own,Lf.nd,Lf.sm⟩
   have y7d:(aa w7).heap.size=w7.heap.size:=rfl
   refine Ee (w:=aa w7) R7 (fun q h=>R.mS (by simp[Sl.aj]at h;omega)) (by omega) (ad gc ub.drew) (by simp[Sl.aj];omega) Xb (fun q hq=>?_) (by omega) xF (by omega) hch hG fun s9 P9 a9 w9 hP9 hv9 hA9 hg9 x9 hs9=>⟨x9.ar,?_⟩
   .rcases hq with h | h
    .omega
    .have:=hX q h;omega
   have hga:=hGe kv a9 hg9;have CG:=x9.ar;refine k s9 (P2++P9) w9 hP9 (fun q hq=>?_) (fun k2 CJ=>?_) ?_ (fun x hx=>?_) (ub.trans CG fun q hq h=>by simp[Sl.aj]at h;omega)
   .rcases hs9 with h | ⟨c,h,hc9⟩
    .rw[h]at hq;simp[Sl.aj]at hq;omega
    .rw[h]at hq;cases hq;omega
   .rcases Nat.lt_or_ge k2 P2.length with h | h
    .rw[List.getElem_append_left h,g2o k2 h];exact hv k2 (by omega)
    .rw[List.getElem_append_right h,hv9 _ (by simp at CJ;omega)];simp at CJ;omega
   .rw[hga]at hA9;have:=hN _ hA9;rw[List.map_append,<- Rs,List.map_append,List.append_assoc,List.map_take];exact this
   .obtain⟨Q,l9,i9,b9,eQ,_,aei,Xy,ha9,Rt,_⟩:=hA9.leaf;rw[List.map_append,eQ,<- List.append_assoc,List.getLast?_append]at hx;simp at hx;rw[<- hx];refine⟨aei,?_⟩;split
    .rename_i h;rw[if_pos h]at hga;show i9=0;omega
    .rename_i h;rw[if_neg h]at hga;show i9=l9.length;omega
  .exact absurd abv (abw j (by simp;omega))
 .have hi:i = -1:=by omega
  rcases hA.over hd hl with⟨j',mH,m1,_⟩ | ⟨_,ha⟩
  .exact absurd m1 (wv j' mH (by omega))
  .exact abu _ ha (Ext.refl _ _)
end
section
variable {w:Wd} {T:Nat->Option Nat} {m:bJ} {M:Mm}
abbrev JW(x:eS)(i:Nat):eS:=⟨x.k,x.v,x.s,x.L,i⟩
def wh(g:Int->Int)(la:Addr)(bc b b1:Nat)(path:Sl)(K:Sl->Sl->Int->Pw)(r1:Int)(eN:Wd):Prop:=
 Nn (some la) fun a_8=>
 ∃pP:Int,Cell eN (a_8.add 3) (.int .i64 pP)/\
 Ar .i64 (g pP) fun Rv=>
 Nn (some la) fun a_9=>
 aQ eN (a_9.add 3) (.int .i64 Rv) fun cO=>
 Nn (some (Addr.mk bc 0 none)) fun WM=>
 aQ cO (WM.add 6) (.slice path.a path.len path.cap) fun cM=>
 ∃lY:Sl,Cell cM (Addr.mk b1 0 none) (.slice lY.a lY.len lY.cap)/\
 ∃lZ:Sl,Cell cM ((Addr.mk b1 0 none).add 1) (.slice lZ.a lZ.len lZ.cap)/\
 List.length (α:=Value) [.slice lY.a lY.len lY.cap,.slice lZ.a lZ.len lZ.cap]=2/\gT cM (Addr.mk b 0 none) [.slice lY.a lY.len lY.cap,.slice lZ.a lZ.len lZ.cap] fun dY=>
 ∃nW:Sl,Cell dY (Addr.mk b 0 none) (.slice nW.a nW.len nW.cap)/\
 ∃sQ:Sl,Cell dY ((Addr.mk b 0 none).add 1) (.slice sQ.a sQ.len sQ.cap)/\
 K nW sQ r1 dY
theorem Nj{g:Int->Int}{n0 pb bc b b1 n i':Nat}{X:Nat->Prop}{t lev:Int}{r:Rf}{path p0 ks vs:Sl}{P:List eS}{zs:List Value}{K:Sl->Sl->Int->Pw}(hP:iH w.heap n0 (fun q=>q=bc∨X q) path P)(Cg:path.a=some ⟨pb,0,none⟩)(hn:P.length=n+1)(hpX:∀q,path.aj=some q->q≠bc/\¬ X q)
  (hg:g (P[n]'(by omega)).i=i') (iO:i'<=65536) (gc:w.heap[bc]? = some (.cells (mT m t r lev p0).toArray 183 (0,0))) (g1:w.heap[b1]? = some (.cells [.slice ks.a ks.len ks.cap,.slice vs.a vs.len vs.cap].toArray 92 (0,0))) (gb:w.heap[b]? = some (.cells zs.toArray 92 (0,0))) (hz:zs.length=2) (hb:X b) (IE:b≠bc) (jk:b1≠bc/\b1≠pb)
  (k:∀w',iH w'.heap n0 (fun q=>q=bc∨X q) path (P.take n++[JW (P[n]'(by omega)) i'])->w'.heap[bc]? = some (.cells (mT m t r lev path).toArray 183 (0,0))->Ext (fun q=>q=pb∨q=bc∨q=b) w w'->K ks vs 0 w'):wh g ⟨pb,n * 4,none⟩ bc b b1 path K 0 w:=by
 have IF:n < P.length:=by omega
 have BT:path.aj=some pb:=by simp[Sl.aj,Cg]
 have hpb:=hpX pb BT;have hbp:b≠pb:=fun h=>hpb.2 (h ▸ hb)
 have hl:(P.flatMap eS.cs).length=P.length * 4:=aS (dQ P)
 have bS:Cell w ⟨pb,n * 4+3,none⟩ (.int .i64 (P[n]'IF).i):=by
  obtain⟨bb,rest,ha,_,hh,_,_⟩:=hP.own.place (by intro e;rw[e]at hl;simp at hl;omega);rw[Cg]at ha;cases ha;refine Cell.aj hh ?_;have h1:=vr (f:=eS.cs) (n:=4) (l:=P) (i:=n) (j:=3) (dQ P) IF (by decide);rw[List.getElem?_toArray,List.getElem?_append_left (by rw[hl];omega),h1];rfl
 refine Nn.mk ⟨_,bS,?_⟩;rw[hg];refine Ar.i64 (by omega) (Nn.mk (aQ.at_ (b:=pb) (off:=n * 4+3) hP.own Cg (by rw[hl];omega) rfl fun cO zE ew JA=>Nn.mk ?_));have qy:Ext (·=pb) w cO:=ew.mono fun q _ h=>by rw[BT]at h;exact(Option.some.inj h).symm
 have wV:(P.flatMap eS.cs).set (n * 4+3) (.int .i64 (i':Int))=(P.take n++[JW (P[n]'IF) i']).flatMap eS.cs:=by
  have h1:=vt (f:=eS.cs) (n:=4) (l:=P) (i:=n) (o:=3) (vs:=[.int .i64 (i':Int)]) (y:=JW (P[n]'IF) i') (dQ _) IF (by simp) rfl
  have h2:∀y,P.set n y=P.take n++[y]:=fun y=>by
   have e:P=P.take n++[P[n]'IF]:=by
    conv=>lhs;rw[<- List.take_append_drop n P]
    rw[List.drop_eq_getElem_cons IF,List.drop_eq_nil_of_le (by omega)]
   have cF:(P.take n).length=n:=by rw[List.length_take];omega
   generalize P[n]'IF=z at e;generalize P.take n=q at e cF ⊢;subst e;rw[List.set_append_right _ _ (by omega),cF,Nat.sub_self];rfl
  rw[h2]at h1;exact h1
 rw[wV]at zE
 have aej:iH cO.heap n0 (fun q=>q=bc∨X q) path (P.take n++[JW (P[n]'IF) i']):=by
  have nd:∀y∈P,ki cO.heap (fun q=>n0<=q/\path.aj≠some q/\¬ (q=bc∨X q)) y.s y.L:=fun y hy=>(hP.nd y hy).ext qy fun q hq _ h=>hq.2.1 (by rw[h];exact BT)
  refine⟨zE,fun y hy=>?_,fun y hy=>?_⟩
  .rcases List.mem_append.1 hy with h | h
   .exact nd y (List.mem_of_mem_take h)
   .rw[List.mem_singleton]at h;subst h;exact nd (P[n]'IF) (List.getElem_mem IF)
  .rcases List.mem_append.1 hy with h | h
   .exact hP.sm y (List.mem_of_mem_take h)
   .rw[List.mem_singleton]at h;subst h;exact⟨(hP.sm _ (List.getElem_mem IF)).1,iO⟩
 have aby:=ag gc qy (fun h=>hpb.1 h.symm);refine aQ.mk aby (by show 6 < 7;decide) rfl fun cM X5=>?_
 have jH:cM.heap[bc]? = some (.cells (mT m t r lev path).toArray 183 (0,0)):=X5.get aby;have fI:Ext (·=bc) cO cM:=X5.ext;have aek:=aej.ext fI (fun q hq h=>(hpX q hq).1 h) fun q _ _ _ h h'=>h (.inl h')
 have WZ:=ag (ag g1 qy jk.2) fI jk.1;have gb':=ag (ag gb qy hbp) fI IE;refine⟨_,Cell.ah WZ rfl,_,Cell.ah WZ rfl,cR gb' rfl hz (by simp[aJ]) fun dY PF sN _=>⟨_,Cell.ah PF rfl,_,Cell.ah PF rfl,?_⟩⟩;have mZ:Ext (·=b) cM dY:=sN;refine k dY (aek.ext mZ (fun q hq h=>(hpX q hq).2 (h ▸ hb)) fun q _ _ _ h h'=>h (.inr (h' ▸ hb))) (ag jH mZ (fun h=>IE h.symm)) (((qy.mono fun _ _ h=> .inl h).trans fI fun _ _ h=> .inr (.inl h)).trans mZ fun _ _ h=> .inr (.inr h))
theorem UW{b:Nat}{zs:List Value}{e:Int}{K:Sl->Sl->Int->Pw}(hb:w.heap[b]? = some (.cells zs.toArray 92 (0,0)))(hz:zs.length=2)(k:∀w',Ext (·=b) w w'->K ⟨none,0,0⟩ ⟨none,0,0⟩ e w') :
  List.length (α:=Value) [.slice none 0 0,.slice none 0 0]=2/\gT w (Addr.mk b 0 none) [.slice none 0 0,.slice none 0 0] fun w9=>
   ∃oP:Sl,Cell w9 (Addr.mk b 0 none) (.slice oP.a oP.len oP.cap)/\∃lG:Sl,Cell w9 ((Addr.mk b 0 none).add 1) (.slice lG.a lG.len lG.cap)/\K oP lG e w9:=
 cR hb rfl hz (by simp[aJ]) fun w' g x _=>⟨⟨none,0,0⟩,Cell.ah g rfl,⟨none,0,0⟩,Cell.ah g rfl,k w' x⟩
theorem sq{f:bR}{t:Int}{lev a:Nat}{kvs:List KV}{P:List eS}(hA:fU f t lev kvs (P.map eS.abs) a):∃ (hn:P.length=lev+1) (b':Nat),(P.map eS.abs).getLast? = some (P[lev]'(by omega)).abs/\(P[lev]'(by omega)).L≠[]/\(P[lev]'(by omega)).i<=(P[lev]'(by omega)).L.length/\a=b'+(P[lev]'(by omega)).i/\b'+(P[lev]'(by omega)).L.length<=kvs.length /\
    (∀k (h:k < (P[lev]'(by omega)).L.length) (h':b'+k < kvs.length),(P[lev]'(by omega)).L[k].2.key=kvs[b'+k].1)/\∀k,k<=(P[lev]'(by omega)).L.length->fU f t lev kvs ((P.take lev++[JW (P[lev]'(by omega)) k]).map eS.abs) (b'+k):=by
  have hn:P.length=lev+1:=by have:=hA.len;simpa using this
  have cF:lev < P.length:=by omega
  obtain⟨Q,l,i,b',e,hQ,bA,Nf,ha,hb,hk,hp⟩:=hA.leaf
  have oZ:(P[lev]'cF).abs=(l,i):=by
    have:=congrArg (fun x=>x[lev]?) e;simp only[List.getElem?_map,List.getElem?_eq_getElem cF,Option.map_some]at this;rw[List.getElem?_append_right (by omega),hQ,Nat.sub_self]at this;simpa using this
  have hQe:(P.take lev).map eS.abs=Q:=by
    have:=congrArg (fun x=>x.take lev) e;simp only[<- List.map_take]at this;rw[this,List.take_append_of_le_length (by omega),List.take_of_length_le (by omega)]
  have h1:ents (P[lev]'cF).L=l:=congrArg Prod.fst oZ;have h2:(P[lev]'cF).i=i:=congrArg Prod.snd oZ;have h3:=mP h1;refine⟨hn,b',?_,?_,by omega,by omega,by omega,fun k h h'=>?_,fun k h=>?_⟩
  · rw[e,oZ];simp
  · intro h;rw[h]at h1;exact bA (by rw[<- h1];rfl)
  · have:=hk k (by omega) h';rw[<- this];subst h1;simp
  · rw[List.map_append,hQe,List.map_singleton];have:eS.abs (JW (P[lev]'cF) k)=(l,k):=by simp[eS.abs,h1]
    rw[this];exact hp k (by omega)
theorem pd{n0 pb n j:Nat}{X:Nat->Prop}{path:Sl}{P:List eS}{v:Value}(hP:iH w.heap n0 X path P)(Cg:path.a=some ⟨pb,0,none⟩)(hn:n < P.length)(hj:j < 4)(hv:(eS.cs P[n])[j]? = some v):Cell w ⟨pb,n * 4+j,none⟩ v:=by
 have hl:(P.flatMap eS.cs).length=P.length * 4:=aS (dQ P);obtain⟨bb,rest,ha,_,hh,_,_⟩:=hP.own.place (by intro e;rw[e]at hl;simp at hl;omega);rw[Cg]at ha;cases ha;refine Cell.aj hh ?_;have h1:=vr (f:=eS.cs) (n:=4) (l:=P) (i:=n) (j:=j) (dQ P) hn hj;rw[List.getElem?_toArray,List.getElem?_append_left (by rw[hl];omega),h1,hv]
structure OnP(w:Wd)(n0 bc b:Nat)(X:Nat->Prop)(f:bR)(t:Int)(lev a:Nat)(kvs:List KV)(path:Sl)(P:List eS):Prop where
 Ci:iH w.heap n0 (fun q=>q=bc∨(q=b∨X q)) path P
 aj:∀q,path.aj=some q->q≠bc/\q≠b/\¬ X q
 lv:∀j (hj:j < P.length),P[j].v=((lev - j:Nat):Int)
 at_:fU f t lev kvs (P.map eS.abs) a
theorem step_end{X:Nat->Prop}{Z:Sl->Sl->Int->Nat->Pw}{n0 bc b a:Nat}{g:Int->Int}{t:Int}{r:Rf}{lev idx i':Nat}{p path:Sl}{P:List eS}{kvs:List KV}{ps:List Rf}{zs:List Value}{K:Sl->Sl->Int->Pw}(R:bC w.heap T m M)(sU:dS M.f t r lev kvs ps)(hr:r ≠ .z)(dP:lev<=30)(IE:n0<=bc)(hbb:n0<=b)(gc:w.heap[bc]? = some (.cells (mT m t r lev p).toArray 183 (0,0)))(gb:w.heap[b]? = some (.cells zs.toArray 92 (0,0)))(hz:zs.length=2)(Hz:b≠bc)(hXb:¬ X b)(Yg:¬ X bc)(O:OnP w n0 bc b X M.f t lev a kvs path P)
  (hn:P.length=lev+1) (ael:idx < (P[lev]'(by omega)).L.length) (hg:g (P[lev]'(by omega)).i=i') (iO:i'<=65536) (ak:Nat) (Gk:ak < kvs.length) (jm:(P[lev]'(by omega)).L[idx].2.key=kvs[ak].1) (a':Nat) (hA':fU M.f t lev kvs ((P.take lev++[JW (P[lev]'(by omega)) i']).map eS.abs) a')
  (k0:∀ks vs w',aK w'.heap w.heap.size ks kvs[ak].1->aK w'.heap w.heap.size vs kvs[ak].2->(∀q,ks.aj=some q->vs.aj≠some q)->il w'.heap n0 (fun q=>X q∨ks.aj=some q∨vs.aj=some q) M.f m t r lev bc kvs a'->Ext (fun q=>n0<=q/\¬ X q) w w'->K ks vs 0 w') :
  ∃pb:Nat,path.a=some ⟨pb,0,none⟩/\Cell w ⟨pb,lev * 4+2,none⟩ (.slice (P[lev]'(by omega)).s.a (P[lev]'(by omega)).s.len (P[lev]'(by omega)).s.cap)/\Cell w ⟨pb,lev * 4+3,none⟩ (.int .i64 (P[lev]'(by omega)).i)/\ny w.heap (P[lev]'(by omega)).s (P[lev]'(by omega)).L/\
   (∀{x:aL},x=(P[lev]'(by omega)).L[idx].1->
    (cq (some ⟨bc,0,none⟩) x.k x.v x.n x.ch.p x.ch.c x.ch.g x.cd.p x.cd.c x.cd.g (aa w) fun Gh Gi r1 dV=>Ext No w dV/\af dV (.cells [.slice none 0 0,.slice none 0 0].toArray 92) fun b1 di=>Ext No w di/\List.length (α:=Value) [.slice Gh.a Gh.len Gh.cap,.slice Gi.a Gi.len Gi.cap]=2/\gT di (Addr.mk b1 0 none) [.slice Gh.a Gh.len Gh.cap,.slice Gi.a Gi.len Gi.cap] fun eN=>Ext No w eN/\If (r1 == 0) (wh g ⟨pb,lev * 4,none⟩ bc b b1 path K r1 eN) (Z Gh Gi r1 b1 eN))/\
    (af (aa w) (.cells [.slice none 0 0,.slice none 0 0].toArray 92) fun b1 di=>Ext No w di/\cq (some ⟨bc,0,none⟩) x.k x.v x.n x.ch.p x.ch.c x.ch.g x.cd.p x.cd.c x.cd.g di fun Gh Gi r1 eN=>Ext No w eN/\List.length (α:=Value) [.slice Gh.a Gh.len Gh.cap,.slice Gi.a Gi.len Gi.cap]=2/\gT eN (Addr.mk b1 0 none) [.slice Gh.a Gh.len Gh.cap,.slice Gi.a Gi.len Gi.cap] fun cO=>Ext No w cO/\If (r1 == 0) (wh g ⟨pb,lev * 4,none⟩ bc b b1 path K r1 cO) (Z Gh Gi r1 b1 cO))):=by
 have cF:lev < P.length:=by omega
 have hl:(P.flatMap eS.cs).length=P.length * 4:=aS (dQ P);obtain⟨pb,rest,Cg,abz,hh,_,_⟩:=O.Ci.own.place (by intro e;rw[e]at hl;simp at hl;omega);have BT:path.aj=some pb:=by simp[Sl.aj,Cg]
 have xT:=blt hh;have oQ:=blt gb;have qE:=blt gc;have uW:=(O.Ci.nd _ (List.getElem_mem cF)).nd;refine⟨pb,Cg,pd O.Ci Cg cF (by decide) rfl,pd O.Ci Cg cF (by decide) rfl,uW,?_⟩;rintro x rfl;have er:=uW.get ael
 have hS:bq M.f t lev r kvs ps:=by
  rcases sU with⟨h,_⟩ | ⟨_,_,h⟩
  .exact(hr h).elim
  .simpa using h
 have MT:=hS.keys _ (List.getElem_mem Gk)
 have FJ:bU kvs (P[lev]'cF).L[idx].2.key=some kvs[ak].2:=by
  rw[jm];exact(xy sU.sort (x:=kvs[ak])).1 (List.getElem_mem Gk)
 have fin:∀(eN:Wd)(b1:Nat)(ks vs:Sl),Ext No w eN->aK eN.heap w.heap.size ks kvs[ak].1->aK eN.heap w.heap.size vs kvs[ak].2->(∀q,ks.aj=some q->vs.aj≠some q)->eN.heap[b1]? = some (.cells [.slice ks.a ks.len ks.cap,.slice vs.a vs.len vs.cap].toArray 92 (0,0))->w.heap.size<=b1->wh g ⟨pb,lev * 4,none⟩ bc b b1 path K 0 eN:=fun eN b1 ks vs x ok ov dj g1 jk=>by
  have aem:=(O.Ci.mono (X':=fun q=>q=bc∨(q=b∨X q∨w.heap.size<=q)) fun q h1 h2=>h2.imp id fun h3=>h3.imp id fun h4=>h4.resolve_right (by omega)).no x;refine Nj (X:=fun q=>q=b∨X q∨w.heap.size<=q) aem Cg hn (fun q hq=>?_) hg iO (ad gc x) g1 (ad gb x) hz (.inl rfl) Hz (by omega) fun w' hP' gc' x'=>?_
  .have:=O.aj q hq;rw[BT]at hq;cases hq;exact⟨this.1,fun h=>h.elim this.2.1 fun h=>h.elim this.2.2 fun h=>by omega⟩
  have nk:∀{s:Sl}{l:List Int},aK eN.heap w.heap.size s l->∀q,s.aj=some q->¬ (q=pb∨q=bc∨q=b):=fun o q hq h=>by have:=(o.lt hq).1;omega
  refine k0 ks vs w' (ok.ext x' (nk ok)) (ov.ext x' (nk ov)) dj ⟨IE,fun h=>?_,path,gc',.inr ⟨hr,_,hP'.mono fun q _ h=>h.imp id fun h=> .inr ?_,fun q hq=>?_,fun j hj=>?_,hA'⟩⟩ ((x.aE).trans x' fun q hq h=>?_)
  .rcases h with h | h | h
   .exact Yg h
   .have:=(ok.lt h).1;omega
   .have:=(ov.lt h).1;omega
  .rcases h with h | h | h
   .exact .inl h
   .exact .inr (ok.lt h).1
   .exact .inr (ov.lt h).1
  .have h1:=O.aj q hq;rw[BT]at hq;cases hq;exact⟨h1.1,fun h=>h.elim h1.2.2 fun h=>h.elim (fun h=>by have:=(ok.lt h).1;omega) fun h=>by have:=(ov.lt h).1;omega⟩
  .have htl:(P.take lev).length=lev:=by rw[List.length_take];omega
   rcases Nat.lt_or_ge j lev with h | h
   .rw[List.getElem_append_left (by omega),List.getElem_take];exact O.lv j (by omega)
   .have:j=lev:=by simp at hj;omega
    subst this;rw[List.getElem_append_right (by omega)];have:=O.lv _ cF;simpa[htl] using this
  .have hpX:=(O.aj pb BT).2.2;rcases h with h | h | h
   .exact⟨by omega,by rw[h];exact hpX⟩
   .exact⟨by omega,by rw[h];exact Yg⟩
   .exact⟨by omega,by rw[h];exact hXb⟩
 have Rd':bC (aa w).heap T m M:=R;refine⟨?_,?_⟩
 .refine BS (w:=aa w) Rd' sU (by omega) gc er (by rw[jm];exact⟨MT.1,MT.2.1⟩) (by rw[jm];exact MT.2.2) FJ fun ks vs dV ok ov dj dW=>⟨dW.ar,af.mk fun b1 di nY=>⟨dW.ar.no nY.ext,?_⟩⟩
  have Py:Ext No w dV:=dW.ar;have y10:=Py.size;have jk:=nY.at_;rw[jm]at ok;refine cR nY.get rfl rfl (by simp[aJ]) fun eN Cd fJ _=>?_
  have MZ:Ext (·=b1) di eN:=fJ;have vM:=(Py.no nY.ext).trans MZ fun q hq h=>by omega
  exact⟨vM,If.yes <| fin eN b1 ks vs vM ((ok.no nY.ext).ext MZ fun q hq h=>by have:=(ok.lt hq).2;omega) ((ov.no nY.ext).ext MZ fun q hq h=>by have:=(ov.lt hq).2;omega) dj Cd (by omega)⟩
 .refine af.mk fun b1 di nY=>?_
  have sR:Ext No w di:=nY.ext.ar;have jk:b1=w.heap.size:=nY.at_;have ND:di.heap.size=w.heap.size+1:=nY.size;refine⟨sR,BS (R.no sR) sU (by omega) (ad gc sR) (er.no sR) (by rw[jm];exact⟨MT.1,MT.2.1⟩) (by rw[jm];exact MT.2.2) FJ fun ks vs eN ok ov dj fJ=>⟨sR.no fJ,?_⟩⟩;rw[jm]at ok;refine cR (ad nY.get fJ) rfl rfl (by simp[aJ]) fun cO fN ew _=>?_
  have qy:Ext (·=b1) eN cO:=ew;have BF:=(sR.no fJ).trans qy fun q hq h=>by omega
  exact⟨BF,If.yes <| fin cO b1 ks vs BF ((ok.ext qy fun q hq h=>by have:=(ok.lt hq).1;omega).mono (by omega)) ((ov.ext qy fun q hq h=>by have:=(ov.lt hq).1;omega).mono (by omega)) dj fN (by omega)⟩
theorem Lg{n0 bc b a:Nat}{w1:Wd}{t:Int}{lev:Nat}{kvs:List KV}{p:Sl}{P:List eS}(x:Ext No w w1)(hb:w.heap.size<=b){X:Nat->Prop}(hP:iH w.heap n0 (fun q=>q=bc∨X q) p P)(hp:∀q,p.aj=some q->q≠bc/\¬ X q)(hv:∀j (hj:j < P.length),P[j].v=((lev - j:Nat):Int))(hA:fU M.f t lev kvs (P.map eS.abs) a):OnP w1 n0 bc b X M.f t lev a kvs p P:=
 ⟨(hP.mono (X':=fun q=>q=bc∨(q=b∨X q)) fun q h1 h2=>h2.imp id fun h=>h.resolve_left (by omega)).no x,fun q hq=>⟨(hp q hq).1,by have:=(hP.own.lt hq).2;omega,(hp q hq).2⟩,hv,hA⟩
set_option maxHeartbeats 2000000 in
theorem Nk{n0 bc:Nat}{X:Nat->Prop}{t:Int}{r:Rf}{lev a:Nat}{kvs:List KV}{ps:List Rf}{K:Sl->Sl->Int->Pw}(R:bC w.heap T m M)(wm:n0<=w.heap.size)(sU:dS M.f t r lev kvs ps)(dP:lev<=30)(c:il w.heap n0 X M.f m t r lev bc kvs a)(hX:∀q,X q->q < w.heap.size)
  (k7:a=kvs.length->∀w',il w'.heap n0 X M.f m t r lev bc kvs a->Ext No w w'->K ⟨none,0,0⟩ ⟨none,0,0⟩ 7 w')
  (k0:∀(h:a < kvs.length) ks vs w',aK w'.heap w.heap.size ks kvs[a].1->aK w'.heap w.heap.size vs kvs[a].2->(∀q,ks.aj=some q->vs.aj≠some q)->il w'.heap n0 (fun q=>X q∨ks.aj=some q∨vs.aj=some q) M.f m t r lev bc kvs (a+1)->Ext (fun q=>n0<=q/\¬ X q) w w'->K ks vs 0 w'):iu (some ⟨bc,0,none⟩) w K:=by
 apply tQ;refine af.mk fun b w1 n1=>?_
 have c0:=c;obtain⟨IE,Yg,p,gc,QV⟩:=c;have hb:=n1.at_;have z1:=n1.size;have oQ:=blt gc;have PL:=ad gc n1.ext;refine⟨fun w'=>w'=w1,If.no (Nn.mk ⟨_,Cell.ah PL rfl,trivial,If.no rfl⟩),?_⟩;rintro _ w4 rfl;refine Nn.mk ⟨p,Cell.ah PL rfl,?_⟩;have R1:=R.no n1.ext
 -- S2 the path is
 refine⟨fun path w'=>Ext No w4 w'/\((path.len=0/\a=kvs.length)∨r ≠ .z/\∃P,∃hn:P.length=lev+1,OnP w' n0 bc b X M.f t lev a kvs path P/\(P[lev]'(by omega)).i < (P[lev]'(by omega)).L.length),?_,?_⟩
 .rcases QV with⟨h1,h2,h3,h4,h5⟩ | ⟨hr,P,hP,hp,hv,hA⟩
  .refine⟨fun tt w'=>tt=false/\Ext No w4 w',⟨Ext No w4,(Ext.refl _ _).drew,If.dec (fun h=>by rw[h4]at h;simp at h) fun h=>⟨rfl,(Ext.refl _ _).drew⟩⟩,?_⟩;rintro _ tt w5 ⟨rfl,x5⟩;exact If.no ⟨x5,.inl ⟨by rw[h4],by rw[h5,h3];rfl⟩⟩
  .obtain⟨hn,b',oZ,bA,Nf,ha,jN,jm,hmv⟩:=sq hA;have cF:lev < P.length:=by omega
   have O4:=Lg (b:=b) n1.ext (by omega) hP hp hv hA;have xT:=O4.Ci.len;have hl:(P.flatMap eS.cs).length=P.length * 4:=aS (dQ P);obtain⟨pb,rest,Cg,abz,hh,_,_⟩:=O4.Ci.own.place (by intro e;rw[e]at hl;simp at hl;omega);have t1:(p.len:Int) - 1=(lev:Int):=by omega
   have UX:∀{K:Addr->Prop},K ⟨pb,lev * 4,none⟩->Ix p.a p.len ((p.len:Int) - 1) 4 K:=fun hk=>⟨_,Cg,by omega,by omega,by rw[t1,Int.toNat_natCast,aw rfl,Nat.zero_add];exact hk⟩
   refine⟨fun tt w'=>tt=((P[lev].i:Int) == (P[lev].s.len:Int))/\Ext No w4 w',⟨Ext No w4,(Ext.refl _ _).drew,If.dec (fun _=>Ar.i64 (by omega) (UX ⟨_,ae.cell (pd O4.Ci Cg cF (by decide) rfl),Ar.i64 (by omega) (UX ⟨_,ae.cell (pd O4.Ci Cg cF (by decide) rfl),rfl,(Ext.refl _ _).drew⟩)⟩)) fun h=>by omega⟩,?_⟩;rintro _ tt w5 ⟨rfl,x5⟩;have LN:=(O4.Ci.nd _ (List.getElem_mem cF)).nd.len;have hX5:=x5.size;refine If.beq (fun he=>?_) fun he=>?_
   .refine Eg (X:=fun q=>q=b∨X q) (p:=p) (P:=P) (.inl rfl) (R1.no x5) (by omega) dP (ad PL x5) (O4.Ci.no x5) (fun q h=>h.elim (fun h=>by omega) fun h=>by have:=hX q h;omega) hv hA (fun x hx=>?_) Ir BQ (fun kv a h=>by rw[if_pos rfl];exact h) (fun w6 ha6 x6=>If.bne (fun h=>(h rfl).elim) fun _=>⟨x5.no x6,.inl ⟨rfl,by rw[if_pos rfl]at ha6;exact ha6⟩⟩) fun s P' w6 hP6 Xc hv6 Xe hl6 x6=>If.bne (fun h=>(h rfl).elim) fun _=>⟨x5.no x6,.inr ⟨hr,P',by have:=Xe.len;simpa using this,⟨hP6,fun q hq=>⟨by have:=Xc q hq;omega,by have:=Xc q hq;omega,fun h=>by have:=hX q h;have:=Xc q hq;omega⟩,hv6,Xe⟩,?_⟩⟩
    .rw[oZ]at hx;cases hx;rw[if_pos rfl];show P[lev].i=(ents P[lev].L).length;simp;omega
    .obtain⟨hn6,_,JX,Xf,_⟩:=sq Xe;have:=hl6 _ JX;rw[if_pos rfl]at this;have h0:P'[lev].i=0:=this.2;rw[h0];exact List.length_pos_iff.2 Xf
   .exact⟨x5,.inr ⟨hr,P,hn,⟨O4.Ci.no x5,O4.aj,hv,hA⟩,by omega⟩⟩
 rintro _ path w8 ⟨x8,qX⟩;have y8:=x8.size;have g8:=ad n1.get x8;have gc8:=ad PL x8;have od:Ext No w w8:=n1.ext.no x8;rcases qX with⟨hp0,ha⟩ | ⟨hr,P,hn,O,hi⟩
 .refine If.beq (fun _=>UW g8 rfl fun w9 x9=>?_) fun h=>by omega
  have DD:Ext (·=b) w8 w9:=x9;have JO:=od.trans DD fun q hq h=>by omega
  exact k7 ha w9 (c0.no JO) JO
 .have xT:=O.Ci.len;have cF:lev < P.length:=by omega
  obtain⟨_,b',oZ,bA,Nf,ha,jN,jm,hmv⟩:=sq O.at_;have Gk:a < kvs.length:=by omega
  have CJ:=jm P[lev].i hi (by omega);have hsm:=O.Ci.sm _ (List.getElem_mem cF);have em:b'+(P[lev].i+1)=a+1:=by omega
  obtain⟨pb,Cg,LC,Ss,uW,QW⟩:=step_end (b:=b) (g:=fun v=>v+1) (idx:=P[lev].i) (i':=P[lev].i+1) (R.no od) sU hr dP IE (by omega) gc8 g8 rfl (by omega) (fun h=>by have:=hX b h;omega) Yg O hn hi (by simp) (by omega) a Gk (by rw[CJ];congr 2;omega) (a+1) (by rw[<- em];exact hmv _ (by omega)) (K:=K) fun ks vs w' ok ov dj c' x'=>k0 Gk ks vs w' (ok.mono od.size) (ov.mono od.size) dj c' (od.aE.trans x' fun q _ h=>h)
  have t1:(path.len:Int) - 1=(lev:Int):=by omega
  have UX:∀{K:Addr->Prop},K ⟨pb,lev * 4,none⟩->Ix path.a path.len ((path.len:Int) - 1) 4 K:=fun hk=>⟨_,Cg,by omega,by omega,by rw[t1,Int.toNat_natCast,aw rfl,Nat.zero_add];exact hk⟩
  refine If.beq (fun h=>by omega) fun _=>Ar.i64 (by omega) (UX ⟨Ext No w8,(Ext.refl _ _).drew,Nn.mk ⟨_,ae.cell LC,Nn.mk ⟨_,ae.cell Ss,Ix.elem uW.rd (bO _) (by decide) (by omega) (by have:=uW.len;omega) fun bb o _ _ hc=>?_⟩⟩⟩)
  simp only[Int.toNat_natCast]at hc;exact⟨_,ae.cell (hc 0 _ rfl),_,ae.cell (hc 1 _ rfl),_,ae.cell (hc 2 _ rfl),_,ae.cell (hc 3 _ rfl),_,ae.cell (hc 4 _ rfl),_,ae.cell (hc 5 _ rfl),_,ae.cell (hc 6 _ rfl),_,ae.cell (hc 7 _ rfl),_,ae.cell (hc 8 _ rfl),QW rfl⟩
set_option maxHeartbeats 2000000 in
theorem Nl{n0 bc:Nat}{X:Nat->Prop}{t:Int}{r:Rf}{lev a:Nat}{kvs:List KV}{ps:List Rf}{K:Sl->Sl->Int->Pw}(R:bC w.heap T m M)(wm:n0<=w.heap.size)(sU:dS M.f t r lev kvs ps)(dP:lev<=30)(c:il w.heap n0 X M.f m t r lev bc kvs a)(hX:∀q,X q->q < w.heap.size)
  (k7:a=0->∀w',il w'.heap n0 X M.f m t r lev bc kvs a->Ext No w w'->K ⟨none,0,0⟩ ⟨none,0,0⟩ 7 w')
  (k0:∀(h:a - 1 < kvs.length) ks vs w',1<=a->aK w'.heap w.heap.size ks kvs[a - 1].1->aK w'.heap w.heap.size vs kvs[a - 1].2->(∀q,ks.aj=some q->vs.aj≠some q)->il w'.heap n0 (fun q=>X q∨ks.aj=some q∨vs.aj=some q) M.f m t r lev bc kvs (a - 1)->Ext (fun q=>n0<=q/\¬ X q) w w'->K ks vs 0 w'):iv (some ⟨bc,0,none⟩) w K:=by
 apply tN;refine af.mk fun b w1 n1=>?_
 have c0:=c;obtain⟨IE,Yg,p,gc,QV⟩:=c;have hb:=n1.at_;have z1:=n1.size;have oQ:=blt gc;have PL:=ad gc n1.ext;refine⟨fun w'=>w'=w1,If.no (Nn.mk ⟨_,Cell.ah PL rfl,trivial,If.no rfl⟩),?_⟩;rintro _ w4 rfl;refine Nn.mk ⟨p,Cell.ah PL rfl,?_⟩;have R1:=R.no n1.ext
 -- S2 the path is
 refine⟨fun path w'=>Ext No w4 w'/\((path.len=0/\a=0)∨r ≠ .z/\∃P,∃hn:P.length=lev+1,OnP w' n0 bc b X M.f t lev a kvs path P/\1<=(P[lev]'(by omega)).i),?_,?_⟩
 .rcases QV with⟨h1,h2,h3,h4,h5⟩ | ⟨hr,P,hP,hp,hv,hA⟩
  .refine⟨fun tt w'=>tt=false/\Ext No w4 w',If.dec (fun h=>by rw[h4]at h;simp at h) fun h=>⟨rfl,Ext.refl _ _⟩,?_⟩;rintro _ tt w5 ⟨rfl,x5⟩;exact If.no ⟨x5,.inl ⟨by rw[h4],h5⟩⟩
  .obtain⟨hn,b',oZ,bA,Nf,ha,jN,jm,hmv⟩:=sq hA;have cF:lev < P.length:=by omega
   have O4:=Lg (b:=b) n1.ext (by omega) hP hp hv hA;have xT:=O4.Ci.len;have hl:(P.flatMap eS.cs).length=P.length * 4:=aS (dQ P);obtain⟨pb,rest,Cg,abz,hh,_,_⟩:=O4.Ci.own.place (by intro e;rw[e]at hl;simp at hl;omega);have t1:(p.len:Int) - 1=(lev:Int):=by omega
   have UX:∀{K:Addr->Prop},K ⟨pb,lev * 4,none⟩->Ix p.a p.len ((p.len:Int) - 1) 4 K:=fun hk=>⟨_,Cg,by omega,by omega,by rw[t1,Int.toNat_natCast,aw rfl,Nat.zero_add];exact hk⟩
   refine⟨fun tt w'=>tt=((P[lev].i:Int) == 0)/\Ext No w4 w',If.dec (fun _=>Ar.i64 (by omega) (UX ⟨_,pd O4.Ci Cg cF (by decide) rfl,rfl,Ext.refl _ _⟩)) fun h=>by omega,?_⟩;rintro _ tt w5 ⟨rfl,x5⟩;have LN:=(O4.Ci.nd _ (List.getElem_mem cF)).nd.len;have hX5:=x5.size;refine If.beq (fun he=>?_) fun he=>?_
   .refine Eg (X:=fun q=>q=b∨X q) (p:=p) (P:=P) (.inr rfl) (R1.no x5) (by omega) dP (ad PL x5) (O4.Ci.no x5) (fun q h=>h.elim (fun h=>by omega) fun h=>by have:=hX q h;omega) hv hA (fun x hx=>?_) Le Ef (fun kv a h=>by rw[if_neg (by decide)];exact h) (fun w6 ha6 x6=>If.bne (fun h=>(h rfl).elim) fun _=>⟨x5.no x6,.inl ⟨rfl,by rw[if_neg (by decide)]at ha6;exact ha6⟩⟩) fun s P' w6 hP6 Xc hv6 Xe hl6 x6=>If.bne (fun h=>(h rfl).elim) fun _=>⟨x5.no x6,.inr ⟨hr,P',by have:=Xe.len;simpa using this,⟨hP6,fun q hq=>⟨by have:=Xc q hq;omega,by have:=Xc q hq;omega,fun h=>by have:=hX q h;have:=Xc q hq;omega⟩,hv6,Xe⟩,?_⟩⟩
    .rw[oZ]at hx;cases hx;rw[if_neg (by decide)];show P[lev].i=0;omega
    .obtain⟨hn6,_,JX,Xf,_⟩:=sq Xe;have:=hl6 _ JX;rw[if_neg (by decide)]at this;have h0:P'[lev].i=(ents P'[lev].L).length:=this.2;have h7:=List.length_pos_iff.2 Xf;simp at h0;omega
   .exact⟨x5,.inr ⟨hr,P,hn,⟨O4.Ci.no x5,O4.aj,hv,hA⟩,by omega⟩⟩
 rintro _ path w8 ⟨x8,qX⟩;have y8:=x8.size;have g8:=ad n1.get x8;have gc8:=ad PL x8;have od:Ext No w w8:=n1.ext.no x8;rcases qX with⟨hp0,ha⟩ | ⟨hr,P,hn,O,hi⟩
 .refine If.beq (fun _=>UW g8 rfl fun w9 x9=>?_) fun h=>by omega
  have DD:Ext (·=b) w8 w9:=x9;have JO:=od.trans DD fun q hq h=>by omega
  exact k7 ha w9 (c0.no JO) JO
 .have xT:=O.Ci.len;have cF:lev < P.length:=by omega
  obtain⟨_,b',oZ,bA,Nf,ha,jN,jm,hmv⟩:=sq O.at_;have Gk:a - 1 < kvs.length:=by omega
  have CJ:=jm (P[lev].i - 1) (by omega) (by omega);have hsm:=O.Ci.sm _ (List.getElem_mem cF);have em:b'+(P[lev].i - 1)=a - 1:=by omega
  obtain⟨pb,Cg,LC,Ss,uW,QW⟩:=step_end (b:=b) (g:=fun v=>v - 1) (idx:=P[lev].i - 1) (i':=P[lev].i - 1) (R.no od) sU hr dP IE (by omega) gc8 g8 rfl (by omega) (fun h=>by have:=hX b h;omega) Yg O hn (by omega) (by show(P[lev].i:Int) - 1=_;omega) (by omega) (a - 1) Gk (by rw[CJ];congr 2) (a - 1) (by rw[<- em];exact hmv _ (by omega)) (K:=K) fun ks vs w' ok ov dj c' x'=>k0 Gk ks vs w' (by omega) (ok.mono od.size) (ov.mono od.size) dj c' (od.aE.trans x' fun q _ h=>h)
  have t1:(path.len:Int) - 1=(lev:Int):=by omega
  have UX:∀{K:Addr->Prop},K ⟨pb,lev * 4,none⟩->Ix path.a path.len ((path.len:Int) - 1) 4 K:=fun hk=>⟨_,Cg,by omega,by omega,by rw[t1,Int.toNat_natCast,aw rfl,Nat.zero_add];exact hk⟩
  refine If.beq (fun h=>by omega) fun _=>Ar.i64 (by omega) (UX ⟨Ext No w8,(Ext.refl _ _).drew,Nn.mk ⟨_,ae.cell LC,Nn.mk ⟨_,ae.cell Ss,Ar.i64 (by omega) (Ix.elem uW.rd (bO _) (by decide) (by omega) (by have:=uW.len;omega) fun bb o _ _ hc=>?_)⟩⟩⟩)
  have et:((P[lev].i:Int) - 1).toNat=P[lev].i - 1:=by omega
  simp only[et]at hc;exact⟨_,ae.cell (hc 0 _ rfl),_,ae.cell (hc 1 _ rfl),_,ae.cell (hc 2 _ rfl),_,ae.cell (hc 3 _ rfl),_,ae.cell (hc 4 _ rfl),_,ae.cell (hc 5 _ rfl),_,ae.cell (hc 6 _ rfl),_,ae.cell (hc 7 _ rfl),_,ae.cell (hc 8 _ rfl),QW rfl⟩
end
end Go.Proofs.YtpjbalhhlaofmaaGreat
namespace Go.V
section
variable {f:bR} {t:Int}
end
end Go.V
namespace Go.Proofs.YtpjbalhhlaofmaaGreat
open Go.V
section
variable {w:Wd} {T:Nat->Option Nat} {m:bJ} {M:Mm}
end
end Go.Proofs.YtpjbalhhlaofmaaGreat
namespace Go.V
end Go.V
namespace Go.Proofs.YtpjbalhhlaofmaaGreat
open Go.V
section
variable {w:Wd} {T:Nat->Option Nat} {m:bJ} {M:Mm}
end
end Go.Proofs.YtpjbalhhlaofmaaGreat
namespace Go.V
theorem il.more{h:Array Obj}{X X':Nat->Prop}{n0:Nat}{f:bR}{m:bJ}{t:Int}{r:Rf}{lev bc:Nat}{kvs:List KV}{a:Nat}(c:il h n0 X f m t r lev bc kvs a)(hX:∀q,X' q->X q∨h.size<=q):il h n0 X' f m t r lev bc kvs a:=by
 obtain⟨hn,hx,p,hb,hc⟩:=c;have oQ:=blt hb;refine⟨hn,fun e=>(hX _ e).elim hx fun h=>by omega,p,hb,?_⟩;rcases hc with h | ⟨hr,P,hP,hp,hv,hA⟩
 .exact .inl h
 .exact .inr ⟨hr,P,hP.mono fun q hl hq=>hq.imp id fun e=>(hX q e).resolve_right (by omega),fun q hq=>⟨(hp q hq).1,fun e=>(hX q e).elim (hp q hq).2 fun h=>by have:=(hP.own.lt hq).2;omega⟩,hv,hA⟩
end Go.V
namespace Go.Proofs.YtpjbalhhlaofmaaGreat
open Go.V
section
variable {w:Wd} {T:Nat->Option Nat} {m:bJ} {M:Mm}
end
end Go.Proofs.YtpjbalhhlaofmaaGreat
namespace Go.V
def Eh(fb tb:List Int)(x:KV):Bool:=!decide (bM x.1 fb) && (tb.isEmpty || decide (bM x.1 tb))
abbrev gh(kvs:List KV)(back:Bool)(a:Nat):List KV:=if back then(kvs.take a).reverse else kvs.drop a
abbrev iI(kvs:List KV)(fb tb:List Int)(back:Bool):List KV:=(if back then kvs.reverse else kvs).filter (Eh fb tb)
structure mU(kvs:List KV)(fb tb:List Int)(back:Bool)(a n:Nat):Prop where
 hn:n<=(iI kvs fb tb back).length
 eq:(gh kvs back a).filter (Eh fb tb)=(iI kvs fb tb back).drop n
 ok:∀x∈gh kvs back a,if back then(tb=[]∨bM x.1 tb) else ¬ bM x.1 fb
theorem dS.keys{f:bR}{t:Int}{r:Rf}{lev:Int}{kvs:List KV}{ps:List Rf}(h:dS f t r lev kvs ps):∀x∈kvs,1<=x.1.length/\x.1.length<=32/\B8 x.1:=by
 rcases h with⟨_,_,h,_⟩ | ⟨_,_,h⟩
 .intro x hx;rw[h]at hx;cases hx
 .exact h.keys
theorem mU.Xg{kvs:List KV}{fb tb:List Int}{a:Nat}(hs:gg kvs)(p:uG kvs fb a):mU kvs fb tb false a 0:=by
 refine⟨Nat.zero_le _,?_,fun x hx=>?_⟩
 .have e:kvs.filter (Eh fb tb)=(kvs.take a++kvs.drop a).filter (Eh fb tb):=by rw[List.take_append_drop]
  simp only[gh,iI,Bool.false_eq_true,if_false,List.drop_zero]
  have e0:(kvs.take a).filter (Eh fb tb)=[]:=List.filter_eq_nil_iff.2 fun x hx=>by
   obtain⟨j,hj,rfl⟩:=List.getElem_of_mem hx;rw[List.getElem_take];simp only[List.length_take]at hj;have:=p.lt j (by omega) (by omega);simp[Eh,this]
  rw[e,List.filter_append,e0,List.nil_append]
 .simp only[Bool.false_eq_true,if_false]at hx ⊢;simp only[gh,Bool.false_eq_true,if_false]at hx;obtain⟨j,hj,rfl⟩:=List.getElem_of_mem hx;simp only[List.length_drop]at hj;rw[List.getElem_drop];intro h;have h0:=p.ge (by omega);rcases Nat.eq_zero_or_pos j with h1 | h1
  .subst h1;exact h0 h
  .exact h0 ((hs.lt (i:=a) (j:=a+j) (by omega) (by omega)).trans h)
theorem mU.Xh{kvs:List KV}{fb:List Int}:mU kvs fb [] true kvs.length 0:=by
 refine⟨Nat.zero_le _,?_,fun x _=>by simp⟩;simp[gh,iI]
theorem mU.Xi{kvs:List KV}{fb tb:List Int}{a:Nat}(hs:gg kvs)(h0:tb≠[])(p:uG kvs tb a):mU kvs fb tb true a 0:=by
 refine⟨Nat.zero_le _,?_,fun x hx=>?_⟩
 .have e:kvs.filter (Eh fb tb)=(kvs.take a++kvs.drop a).filter (Eh fb tb):=by rw[List.take_append_drop]
  simp only[gh,iI,if_true,List.drop_zero]
  have e0:(kvs.drop a).filter (Eh fb tb)=[]:=List.filter_eq_nil_iff.2 fun x hx=>by
   obtain⟨j,hj,rfl⟩:=List.getElem_of_mem hx;simp only[List.length_drop]at hj;rw[List.getElem_drop]
   have bA:¬ bM kvs[a+j].1 tb:=fun h=>by
    have h2:=p.ge (by omega);rcases Nat.eq_zero_or_pos j with h1 | h1
    .subst h1;exact h2 h
    .exact h2 ((hs.lt (i:=a) (j:=a+j) (by omega) (by omega)).trans h)
   simp[Eh,bA,h0]
  rw[List.filter_reverse,List.filter_reverse,e,List.filter_append,e0,List.append_nil]
 .simp only[if_true];simp only[gh,if_true,List.mem_reverse]at hx;obtain⟨j,hj,rfl⟩:=List.getElem_of_mem hx;simp only[List.length_take]at hj;rw[List.getElem_take];exact .inr (p.lt j (by omega) (by omega))
theorem mU.fin{kvs:List KV}{fb tb:List Int}{back:Bool}{a n:Nat}(r:mU kvs fb tb back a n)(h:gh kvs back a=[]):n=(iI kvs fb tb back).length:=by
 have:=r.eq;rw[h]at this;have h2:=congrArg List.length this;simp only[List.filter_nil,List.length_nil,List.length_drop]at h2;have:=r.hn;omega
theorem mU.next{kvs:List KV}{fb tb:List Int}{back:Bool}{a a' n:Nat}{x:KV}(r:mU kvs fb tb back a n)(h:gh kvs back a=x::gh kvs back a')(hx:Eh fb tb x=true):∃hn:n < (iI kvs fb tb back).length,(iI kvs fb tb back)[n]=x/\mU kvs fb tb back a' (n+1):=by
 have e:=r.eq;rw[h,List.filter_cons,if_pos hx]at e
 have hn:n < (iI kvs fb tb back).length:=by
  have h2:=congrArg List.length e;simp only[List.length_cons,List.length_drop]at h2;omega
 rw[List.drop_eq_getElem_cons hn]at e;refine⟨hn,(List.cons.inj e).1.symm,hn,(List.cons.inj e).2,fun y hy=>r.ok y (by rw[h];exact List.mem_cons_of_mem _ hy)⟩
theorem mU.stop{kvs:List KV}{fb tb:List Int}{back:Bool}{a n:Nat}(r:mU kvs fb tb back a n)(h:∀y∈gh kvs back a,Eh fb tb y=false):n=(iI kvs fb tb back).length:=by
 have e:=r.eq;rw[List.filter_eq_nil_iff.2 fun y hy=>by simp[h y hy]]at e;have h2:=congrArg List.length e;simp only[List.length_nil,List.length_drop]at h2;have:=r.hn;omega
theorem mU.Xj{kvs:List KV}{fb tb:List Int}{a n:Nat}(hs:gg kvs)(r:mU kvs fb tb false a n)(ha:a < kvs.length)(h0:tb≠[])(h:¬ bM kvs[a].1 tb):n=(iI kvs fb tb false).length:=by
 refine r.stop fun y hy=>?_
 simp only[gh,Bool.false_eq_true,if_false]at hy;obtain⟨j,hj,rfl⟩:=List.getElem_of_mem hy;simp only[List.length_drop]at hj;rw[List.getElem_drop]
 have bA:¬ bM kvs[a+j].1 tb:=fun h2=>by
  rcases Nat.eq_zero_or_pos j with h1 | h1
  .subst h1;exact h h2
  .exact h ((hs.lt (i:=a) (j:=a+j) (by omega) (by omega)).trans h2)
 simp[Eh,bA,h0]
theorem mU.Xk{kvs:List KV}{fb tb:List Int}{a n:Nat}(hs:gg kvs)(r:mU kvs fb tb true a n)(ha:a - 1 < kvs.length)(h1:1<=a)(h:bM kvs[a - 1].1 fb):n=(iI kvs fb tb true).length:=by
 refine r.stop fun y hy=>?_
 simp only[gh,if_true,List.mem_reverse]at hy;obtain⟨j,hj,rfl⟩:=List.getElem_of_mem hy;simp only[List.length_take]at hj;rw[List.getElem_take]
 have cF:bM kvs[j].1 fb:=by
  rcases Nat.lt_or_ge j (a - 1) with h2 | h2
  .exact(hs.lt (i:=j) (j:=a - 1) h2 ha).trans h
  .have:j=a - 1:=by omega
   subst this;exact h
 simp[Eh,cF]
theorem QX{kvs:List KV}{a:Nat}(h:a < kvs.length):gh kvs false a=kvs[a]::gh kvs false (a+1):=by
 simp only[gh,Bool.false_eq_true,if_false];exact List.drop_eq_getElem_cons h
theorem QY{kvs:List KV}{a:Nat}(h:a - 1 < kvs.length)(h1:1<=a):gh kvs true a=kvs[a - 1]::gh kvs true (a - 1):=by
 simp only[gh,if_true]
 obtain⟨b,rfl⟩ : ∃b,a=b+1:=⟨a - 1,by omega⟩
 have h':b < kvs.length:=by simpa using h
 rw[List.take_add_one,List.getElem?_eq_getElem h',Option.toList_some,List.reverse_append];simp
end Go.V
namespace Go.Proofs.YtpjbalhhlaofmaaGreat
open Go.V
section
variable {w:Wd} {T:Nat->Option Nat} {m:bJ} {M:Mm}
abbrev abA(bc:Nat):Bool->Value
 | false=> .func (.func 105) #[.pointer (some ⟨bc,0,none⟩)] #[]
 | true=> .func (.func 108) #[.pointer (some ⟨bc,0,none⟩)] #[]
abbrev JY(kvs:List KV)(a:Nat):Bool->Nat
 | false=>kvs.length - a
 | true=>a
set_option maxHeartbeats 2000000 in
theorem Np{n0 bc a0 c0 c1 c2 c3 i0 i1 i2 i3:Nat}{X B:Nat->Prop}{t:Int}{r:Rf}{lev:Nat}{kvs:List KV}{ps:List Rf}{fj to:Sl}{fb tb:List Int}{back:Bool}{yield:Value}{J:Nat->Wd->(Nat->Prop)->Prop}{Z:Pw}{K:Pw}
  (R:bC w.heap T m M) (hT:∀q,n0<=q->T q=none) (wm:n0<=w.heap.size) (sU:dS M.f t r lev kvs ps) (dP:lev<=30) (c:il w.heap n0 X M.f m t r lev bc kvs a0)
  (g0:w.heap[c0]? = some (.cells [.pointer (some ⟨bc,0,none⟩)].toArray i0 (0,0))) (g1:w.heap[c1]? = some (.cells [.bool back].toArray i1 (0,0))) (g2:w.heap[c2]? = some (.cells [.slice fj.a fj.len fj.cap].toArray i2 (0,0))) (g3:w.heap[c3]? = some (.cells [.slice to.a to.len to.cap].toArray i3 (0,0)))
  (hc:∀q,q=c0∨q=c1∨q=c2∨q=c3->X q/\¬ B q) (hX:∀q,X q->q < w.heap.size) (hB:∀q,B q->X q/\n0<=q)
  (hf:b_ w.heap fj fb) (f8:B8 fb) (hfq:fb≠[]->∀q,fj.aj=some q->q < n0) (ht:b_ w.heap to tb) (t8:B8 tb) (htq:tb≠[]->∀q,to.aj=some q->q < n0) (hJ:J 0 w B)
  (mono:∀{j w1 w2 B' S},J j w1 B'->Ext S w1 w2->(∀q,B' q->¬ S q)->J j w2 B')
  (step:∀n w1 B' ks vs base (hn:n < (iI kvs fb tb back).length) (Kr:Bool->Pw),J n w1 B'->aK w1.heap base ks (iI kvs fb tb back)[n].1->aK w1.heap base vs (iI kvs fb tb back)[n].2->(∀q,ks.aj=some q->vs.aj≠some q)->w.heap.size<=base/\base<=w1.heap.size->(∀q,B' q->q < base)->
   (∀w' X7,J (n+1) w' X7->Ext B' w1 w'->(∀q,X7 q->(B' q∨ks.aj=some q∨vs.aj=some q∨w1.heap.size<=q)/\q < w'.heap.size)->Kr true w')->(∀w',Z w'->Ext B' w1 w'->Kr false w')->
   aD pz true yield [.agg ([.slice ks.a ks.len ks.cap,.slice vs.a vs.len vs.cap]).toArray,.int .i64 0] [.one .bool] Kr cc w1)
  (k:∀w',(∃B',J (iI kvs fb tb back).length w' B'/\∀q,B' q->B q∨w.heap.size<=q)∨Z w'->Ext (fun q=>n0<=q/\(X q->B q)) w w'->K w'):gH yield ⟨c0,0,none⟩ ⟨c1,0,none⟩ ⟨c2,0,none⟩ ⟨c3,0,none⟩ w K:=by
 apply sG;have hs:gg kvs:=sU.sort;have IE:=c.1;have abB:=c.2.1;have oQ:bc < w.heap.size:=by obtain⟨_,_,p,h,_⟩:=c;exact blt h
 have k0:=hc c0 (.inl rfl);have k1:=hc c1 (.inr (.inl rfl));have k2:=hc c2 (.inr (.inr (.inl rfl)));have k3:=hc c3 (.inr (.inr (.inr rfl)));have nX:∀q,X q->q≠bc:=fun q h e=>abB (e ▸ h)
 refine⟨_,Cell.ah g0 rfl,?_⟩;refine⟨fun ev step w'=>ev=0/\step=abA bc back/\∃a,mU kvs fb tb back a 0/\il w'.heap n0 X M.f m t r lev bc kvs a/\Ext (·=bc) w w',?_,?_⟩
 .have Rd':bC (aa w).heap T m M:=R
  have uC:∀q,X q->q < w.heap.size/\q≠bc:=fun q h=>⟨hX q h,nX q h⟩
  cases back
  .exact⟨_,Cell.ah g1 rfl,If.not (If.no ⟨_,Cell.ah g0 rfl,_,Cell.ah g2 rfl,BR R wm sU dP c hf f8 fun a w1 c1' hp x1=>⟨rfl,rfl,a,mU.Xg hs hp,c1'.sub uC,x1⟩⟩)⟩
  .refine⟨_,Cell.ah g1 rfl,If.not (If.yes ⟨_,Cell.ah g3 rfl,If.beq (fun h=>?_) fun h=>?_⟩)⟩
   .have Xl:tb=[]:=by have:=b_.len ht;exact List.length_eq_zero_iff.1 (by omega)
    refine⟨Ext (·=bc) w,(Ext.refl _ _).drew,_,ae.dI (Cell.ah g0 rfl) (nX _ k0.1),_,ae.dI (Cell.ah g0 rfl) (nX _ k0.1),Ni (w:=aa w) Rd' wm sU dP c fun w1 c1' x1=>?_⟩;refine⟨x1.ar,rfl,rfl,kvs.length,by rw[Xl];exact mU.Xh,c1'.sub uC,x1.ar⟩
   .have Xl:tb≠[]:=fun e=>by have:=b_.len ht;rw[e]at this;simp at this;omega
    refine⟨Ext (·=bc) w,(Ext.refl _ _).drew,_,ae.dI (Cell.ah g0 rfl) (nX _ k0.1),_,ae.dI (Cell.ah g3 rfl) (nX _ k3.1),_,ae.dI (Cell.ah g0 rfl) (nX _ k0.1),BR (w:=aa w) Rd' wm sU dP c ht t8 fun a w1 c1' hp x1=>?_⟩;exact⟨x1.ar,rfl,rfl,a,mU.Xi hs Xl hp,c1'.sub uC,x1.ar⟩
 rintro _ ev stp w4 ⟨rfl,rfl,a1,I1,c4,x4⟩;have y4:=x4.size;refine⟨fun q ev w'=>ev=0/\∃n a B',q=JY kvs a back/\mU kvs fb tb back a n/\J n w' B'/\(∀q,B' q->(B q∨w.heap.size<=q)/\q < w'.heap.size)/\il w'.heap n0 (fun q=>X q∨B' q) M.f m t r lev bc kvs a/\Ext (fun q=>n0<=q/\(X q->B q)) w w',⟨_,rfl,0,a1,B,rfl,I1,mono hJ x4 fun q hq h=>nX _ (hB q hq).1 h,fun q hq=>⟨.inl hq,by have:=hX q (hB q hq).1;omega⟩,c4.sub fun q h=>h.elim id fun h=>(hB q h).1,x4.mono fun q _ h=>?_⟩,?_⟩
 .have h':q=bc:=h;subst h';exact⟨IE,fun h=>(abB h).elim⟩
 rintro _ m0 ev w5 ⟨rfl,n,a,B',rfl,I,hJ5,VM,c5,x5⟩;refine If.beq (fun _=>?_) fun h=>absurd rfl h
 refine af.mk fun b w6 n6=>?_
 have hb:=n6.at_;have z6:=n6.size;have y5:=x5.size;have R6:bC w6.heap T m M:=(R.ext x5 fun q hq=>hT q hq.1).no n6.ext;have c6:=(c5.more (X':=fun q=>(X q∨B' q)∨q=b) fun q h=>h.imp id fun h=>by omega).no n6.ext
 have hX6:∀q,(X q∨B' q)∨q=b->q < w6.heap.size:=fun q h=>by
  rcases h with(h | h) | h
  .have:=hX q h;omega
  .have:=(VM q h).2;omega
  .omega
 -- a fixed block stays
 have aen:∀{q:Nat}{o:Obj},w.heap[q]? = some o->(X q/\¬ B q)->w5.heap[q]? = some o:=fun h h2=>ag h x5 fun h3=>h2.2 (h3.2 h2.1)
 have JZ:∀{w8:Wd}{q:Nat}{o:Obj},Ext (fun q=>n0<=q/\¬ (X q∨B' q)) w5 w8->w.heap[q]? = some o->(X q/\¬ B q)->w8.heap[q]? = some o:=fun x h h2=>ag (aen h h2) x fun h3=>h3.2 (.inl h2.1)
 have rd8:∀{w8:Wd}{s:Sl}{l:List Int},Ext (fun q=>n0<=q/\¬ (X q∨B' q)) w5 w8->b_ w.heap s l->(l≠[]->∀q,s.aj=some q->q < n0)->b_ w8.heap s l:=fun x h h2=>Rd.HX (Rd.HX h x5 fun hn q hl hq h3=>by have:=h2 hn q hq;omega) x fun hn q hl hq h3=>by have:=h2 hn q hq;omega
 -- the end
 have done:∀{w7:Wd}{zs:List Value},zs.length=2->w7.heap[b]? = some (.cells zs.toArray 92 (0,0))->n=(iI kvs fb tb back).length->Ext (fun q=>n0<=q/\¬ (X q∨B' q)) w5 w7->K w7:=fun {w7 zs} hz g7 hn x7=>by
  refine k w7 (.inl ⟨B',hn ▸ mono hJ5 x7 fun q hq h=>h.2 (.inr hq),fun q hq=>(VM q hq).1⟩) (x5.trans x7 fun q hq h=>⟨h.1,fun h2=>(h.2 (.inl h2)).elim⟩)
 -- one more
 have tail:∀{a':Nat}{x:KV}{ks vs:Sl}{w8:Wd},w8.heap[b]? = some (.cells [.slice ks.a ks.len ks.cap,.slice vs.a vs.len vs.cap].toArray 92 (0,0))->aK w8.heap w6.heap.size ks x.1->aK w8.heap w6.heap.size vs x.2->(∀q,ks.aj=some q->vs.aj≠some q)->il w8.heap n0 (fun q=>((X q∨B' q)∨q=b)∨ks.aj=some q∨vs.aj=some q) M.f m t r lev bc kvs a'->Ext (fun q=>n0<=q/\¬ (X q∨B' q)) w5 w8->gh kvs back a=x::gh kvs back a'->Eh fb tb x=true->JY kvs a' back < JY kvs a back->
   ∃c:Sl,Cell w8 (Addr.mk b 0 none) (.slice c.a c.len c.cap)/\∃jz:Sl,Cell w8 ((Addr.mk b 0 none).add 1) (.slice jz.a jz.len jz.cap)/\
   aD pz true yield [.agg ([.slice c.a c.len c.cap,.slice jz.a jz.len jz.cap]).toArray,.int .i64 0] [.one (.bool)] (fun IA di=>If (!IA) (K di) (∃m1,m1 < JY kvs a back/\(0:Int)=0/\∃n a B',m1=JY kvs a back/\mU kvs fb tb back a n/\J n di B'/\(∀q,B' q->(B q∨w.heap.size<=q)/\q < di.heap.size)/\il di.heap n0 (fun q=>X q∨B' q) M.f m t r lev bc kvs a/\Ext (fun q=>n0<=q/\(X q->B q)) w di)) cc w8:=fun {a' x ks vs w8} g8 ok ov dj c8 x8 Iq RU hm=>by
  obtain⟨hn,hx,I'⟩:=I.next Iq RU
  have od:Ext (fun q=>n0<=q/\(X q->B q)) w w8:=x5.trans x8 fun q hq h=>⟨h.1,fun h2=>(h.2 (.inl h2)).elim⟩
  have y8:=x8.size
  have ext:∀{w':Wd},Ext B' w8 w'->Ext (fun q=>n0<=q/\(X q->B q)) w w':=fun x'=>od.trans x' fun q hq h=>by
   have h2:B q:=((VM q h).1).resolve_right (by omega);exact⟨(hB q h2).2,fun _=>h2⟩
  refine⟨⟨ks.a,ks.len,ks.cap⟩,Cell.ah g8 rfl,⟨vs.a,vs.len,vs.cap⟩,Cell.ah g8 rfl,step n w8 B' ks vs w6.heap.size hn _ (mono hJ5 x8 fun q hq h=>h.2 (.inr hq)) (by rw[hx];exact ok) (by rw[hx];exact ov) dj ⟨by omega,by have:=blt g8;omega⟩ (fun q hq=>by have:=(VM q hq).2;omega) (fun w' X7 hJ' x' Vy=>?_) fun w' hz x'=>If.not (If.no (k w' (.inr hz) (ext x')))⟩;refine If.not (If.yes ⟨_,hm,rfl,n+1,a',X7,rfl,I',hJ',fun q hq=>⟨?_,(Vy q hq).2⟩,?_,ext x'⟩)
  .rcases(Vy q hq).1 with h | h | h | h
   .exact(VM q h).1
   .have:=(ok.lt h).1;exact .inr (by omega)
   .have:=(ov.lt h).1;exact .inr (by omega)
   .exact .inr (by omega)
  .refine(c8.more (X':=fun q=>(((X q∨B' q)∨q=b)∨ks.aj=some q∨vs.aj=some q)∨w8.heap.size<=q) fun q h=>h).ext x' (fun q _ _ _ h h2=>h (.inl (.inl (.inl (.inr h2))))) (fun h=>?_) fun q h=>?_
   .exact c5.2.1 (.inr h)
   .rcases h with h | h
    .exact .inl (.inl (.inl (.inl h)))
    .rcases(Vy q h).1 with h | h | h | h
     .exact .inl (.inl (.inl (.inr h)))
     .exact .inl (.inr (.inl h))
     .exact .inl (.inr (.inr h))
     .exact .inr h
 have zY:Ext (fun q=>n0<=q/\¬ (X q∨B' q)) w5 w6:=n6.ext.aE;have nb:¬ (X b∨B' b):=fun h=>h.elim (fun h=>by have:=hX b h;omega) fun h=>by have:=(VM b h).2;omega
 have bbc:b≠bc:=by omega
 cases back
 .refine tR (Nk (X:=fun q=>(X q∨B' q)∨q=b) R6 (by omega) sU dP c6 hX6 (fun ha w7 c7 x7=>?_) fun Gk ks vs w7 ok ov dj c7 x7=>?_)
  .have DM:=zY.no x7;refine cR (ad n6.get x7) rfl rfl (by simp[aJ]) fun w8 g8 x8 _=>If.beq (fun _=>done rfl g8 (I.fin (by simp[gh,ha])) (DM.trans x8 fun q hq h=>?_)) fun h=>absurd rfl h
   have h':q=b:=h;subst h';exact⟨by omega,nb⟩
  .have DM:Ext (fun q=>n0<=q/\¬ (X q∨B' q)) w5 w7:=zY.trans x7 fun q _ h=>⟨h.1,fun h2=>h.2 (.inl h2)⟩
   have y7:=x7.size;refine cR (ag n6.get x7 fun h=>h.2 (.inr rfl)) rfl rfl (by simp[aJ]) fun w8 g8 x8 _=>If.beq (fun h=>by omega) fun _=>If.beq (fun _=>?_) fun h=>absurd rfl h
   have Cf:Ext (·=b) w7 w8:=x8;have uk:Ext (fun q=>n0<=q/\¬ (X q∨B' q)) w5 w8:=DM.trans Cf fun q hq h=>by subst h;exact⟨by omega,nb⟩
   have ok8:aK w8.heap w6.heap.size ks kvs[a].1:=ok.ext Cf fun q hq h=>by have:=(ok.lt hq).1;omega
   have ov8:aK w8.heap w6.heap.size vs kvs[a].2:=ov.ext Cf fun q hq h=>by have:=(ov.lt hq).1;omega
   have c8:=c7.ext Cf (X':=fun q=>((X q∨B' q)∨q=b)∨ks.aj=some q∨vs.aj=some q) (fun q _ _ _ h h2=>h (.inl (.inr h2))) (fun h=>bbc h.symm) fun q h=>h
   have k8:B8 kvs[a].1:=(sU.keys _ (List.getElem_mem Gk)).2.2;have tl:=fun RU=>tail g8 ok8 ov8 dj c8 uk (QX Gk) RU (by simp only[JY];omega)
   have XP:¬ bM kvs[a].1 fb:=by have:=I.ok _ (by rw[QX Gk];exact List.mem_cons_self);simpa using this
   have t3:b_ w8.heap to tb:=rd8 uk ht htq;refine⟨_,Cell.ah (JZ uk g1 k1) rfl,If.no ⟨_,Cell.ah (JZ uk g1 k1) rfl,If.not (If.no ⟨_,Cell.ah (JZ uk g3 k3) rfl,If.dec (fun hl=>?_) fun hl=>?_⟩)⟩⟩
   .have Xl:tb≠[]:=fun e=>by have:=b_.len ht;rw[e]at this;simp at this;omega
    refine⟨_,Cell.ah g8 rfl,_,Cell.ah (JZ uk g3 k3) rfl,gz ok8.rd t3 k8 t8 (If.dec (fun hg=>?_) fun hg=>?_)⟩
    .exact done rfl g8 (I.Xj hs Gk Xl (lW.1 hg)) uk
    .have cF:bM kvs[a].1 tb:=Decidable.of_not_not fun h=>hg (lW.2 h)
     exact tl (by simp[Eh,XP,cF])
   .have Xl:tb=[]:=by have:=b_.len ht;exact List.length_eq_zero_iff.1 (by omega)
    exact tl (by simp[Eh,XP,Xl])
 .refine tP (Nl (X:=fun q=>(X q∨B' q)∨q=b) R6 (by omega) sU dP c6 hX6 (fun ha w7 c7 x7=>?_) fun Gk ks vs w7 ha1 ok ov dj c7 x7=>?_)
  .have DM:=zY.no x7;refine cR (ad n6.get x7) rfl rfl (by simp[aJ]) fun w8 g8 x8 _=>If.beq (fun _=>done rfl g8 (I.fin (by simp[gh,ha])) (DM.trans x8 fun q hq h=>?_)) fun h=>absurd rfl h
   have h':q=b:=h;subst h';exact⟨by omega,nb⟩
  .have DM:Ext (fun q=>n0<=q/\¬ (X q∨B' q)) w5 w7:=zY.trans x7 fun q _ h=>⟨h.1,fun h2=>h.2 (.inl h2)⟩
   have y7:=x7.size;refine cR (ag n6.get x7 fun h=>h.2 (.inr rfl)) rfl rfl (by simp[aJ]) fun w8 g8 x8 _=>If.beq (fun h=>by omega) fun _=>If.beq (fun _=>?_) fun h=>absurd rfl h
   have Cf:Ext (·=b) w7 w8:=x8;have uk:Ext (fun q=>n0<=q/\¬ (X q∨B' q)) w5 w8:=DM.trans Cf fun q hq h=>by subst h;exact⟨by omega,nb⟩
   have ok8:aK w8.heap w6.heap.size ks kvs[a - 1].1:=ok.ext Cf fun q hq h=>by have:=(ok.lt hq).1;omega
   have ov8:aK w8.heap w6.heap.size vs kvs[a - 1].2:=ov.ext Cf fun q hq h=>by have:=(ov.lt hq).1;omega
   have c8:=c7.ext Cf (X':=fun q=>((X q∨B' q)∨q=b)∨ks.aj=some q∨vs.aj=some q) (fun q _ _ _ h h2=>h (.inl (.inr h2))) (fun h=>bbc h.symm) fun q h=>h
   have k8:B8 kvs[a - 1].1:=(sU.keys _ (List.getElem_mem Gk)).2.2;have tl:=fun RU=>tail g8 ok8 ov8 dj c8 uk (QY Gk ha1) RU (by simp only[JY];omega)
   have hnt:tb=[]∨bM kvs[a - 1].1 tb:=by have:=I.ok _ (by rw[QY Gk ha1];exact List.mem_cons_self);simpa using this
   have t2:b_ w8.heap fj fb:=rd8 uk hf hfq;refine⟨_,Cell.ah (JZ uk g1 k1) rfl,If.yes ⟨_,Cell.ah g8 rfl,_,Cell.ah (JZ uk g2 k2) rfl,gz ok8.rd t2 k8 f8 (If.dec (fun hg=>?_) fun hg=>?_)⟩⟩
   .exact done rfl g8 (I.Xk hs Gk ha1 (Decidable.of_not_not fun h=>by have:=lW.2 h;omega)) uk
   .have XP:¬ bM kvs[a - 1].1 fb:=lW.1 (by omega);refine⟨_,Cell.ah (JZ uk g1 k1) rfl,If.not (If.yes (tl ?_))⟩;rcases hnt with h | h <;> simp[Eh,XP,h]
end
section
variable {w:Wd} {T:Nat->Option Nat} {m:bJ} {M:Mm}
structure RO(base b1 b2 b3 b4:Nat)(most:Int)(LL:List KV)(n:Nat)(w':Wd)(D:Nat->Prop)(s:Sl)(L:List Pr):Prop where
 c1:w'.heap[b1]? = some (.cells [.int .i64 most].toArray 3 (0,0))
 c2:w'.heap[b2]? = some (.cells [.slice none 0 0].toArray 88 (0,0))
 c3:w'.heap[b3]? = some (.cells [.int .i64 0].toArray 34 (0,0))
 c4:w'.heap[b4]? = some (.cells [.slice s.a s.len s.cap].toArray 88 (0,0))
 own:bf w'.heap base 92 2 s (L.flatMap Pr.cs)
 pr:∀p∈L,UR w'.heap D p
 dd:∀q,D q->s.aj≠some q/\base<=q/\q < w'.heap.size
 kv:Io L=LL.take n
 hn:n<=LL.length
theorem RO.len{base b1 b2 b3 b4:Nat}{most:Int}{LL:List KV}{n:Nat}{w':Wd}{D:Nat->Prop}{s:Sl}{L:List Pr}(g:RO base b1 b2 b3 b4 most LL n w' D s L):L.length=n/\s.len=n:=by
 have h1:=congrArg List.length g.kv;have h2:=g.own.len;rw[aS (BP L)]at h2;have:=g.hn;simp only[List.length_map,List.length_take]at h1;omega
theorem RO.ext{base b1 b2 b3 b4:Nat}{most:Int}{LL:List KV}{n:Nat}{w' gE:Wd}{D S:Nat->Prop}{s:Sl}{L:List Pr}(g:RO base b1 b2 b3 b4 most LL n w' D s L)(x:Ext S w' gE)(h:∀q,(q=b1∨q=b2∨q=b3∨q=b4)∨s.aj=some q∨D q->¬ S q):RO base b1 b2 b3 b4 most LL n gE D s L:=by
 have y:=x.size;exact⟨ag g.c1 x (h _ (.inl (.inl rfl))),ag g.c2 x (h _ (.inl (.inr (.inl rfl)))),ag g.c3 x (h _ (.inl (.inr (.inr (.inl rfl))))),ag g.c4 x (h _ (.inl (.inr (.inr (.inr rfl))))),g.own.ext x fun q hq=>h q (.inr (.inl hq)),fun p hp=>(g.pr p hp).ext x fun q _ hq=>h q (.inr (.inr hq)),fun q hq=>⟨(g.dd q hq).1,(g.dd q hq).2.1,by have:=(g.dd q hq).2.2;omega⟩,g.kv,g.hn⟩
set_option maxHeartbeats 2000000 in
theorem J_{t:Int}{r:Rf}{lev:Nat}{kvs:List KV}{ps:List Rf}{fj to:Sl}{fb tb:List Int}{most:Int}{back:Bool}{K:Sl->Int->Pw}(R:bC w.heap T m M)(sU:dS M.f t r lev kvs ps)(dP:lev<=30)(zS:kvs.length<=100000)(h8:∀x∈kvs,B8 x.2)
  (hf:b_ w.heap fj fb) (f8:B8 fb) (ht:b_ w.heap to tb) (t8:B8 tb)
  (k:∀s L w',Nd w'.heap (fun q=>w.heap.size<=q/\q < w'.heap.size) s L->(∀q,s.aj=some q->w.heap.size<=q/\q < w'.heap.size)->Io L=(iI kvs fb tb back).take most.toNat->Ext No w w'->K s 0 w'):lO (eY m) t r.p r.c r.g lev fj to most back w K:=by
 apply vY;refine af.mk fun b w1 n1=>af.mk fun b1 w2 n2=>af.mk fun b2 w3 n3=>af.mk fun b3 w4 n4=>?_
 have e1:=n1.at_;have e2:=n2.at_;have e3:=n3.at_;have e4:=n4.at_;have z1:=n1.size;have z2:=n2.size;have z3:=n3.size;have z4:=n4.size;have fg:Ext No w w4:=((n1.ext.no n2.ext).no n3.ext).no n4.ext;have TA:=ad (ad (ad n1.get n2.ext) n3.ext) n4.ext;refine⟨_,Cell.ah TA rfl,_,Cell.ah TA rfl,_,Cell.ah TA rfl,_,Cell.ah TA rfl,?_⟩;have hT:∀q,w.heap.size<=q->T q=none:=fun q hq=>R.mS hq
 refine Nh (n0:=w.heap.size) (R.no fg) (by omega) sU dP fun bc w5 c5 IE x5=>If.bne (fun h=>(h rfl).elim) fun _=>af.mk fun b4 w8 n8=>?_
 have e8:=n8.at_;have z8:=n8.size;have y5:=x5.size;have IC:Ext No w4 w8:=x5.no n8.ext;have od:=fg.no IC;have g1:=ad (ad (ad n2.get n3.ext) n4.ext) IC;have g2:=ad (ad n3.get n4.ext) IC;have g3:=ad n4.get IC;have g4:=n8.get
 have ll8:∀x∈iI kvs fb tb back,x∈kvs:=fun x hx=>by
  have:=(List.mem_filter.1 hx).1
  cases back <;> simpa using this
 have lll:(iI kvs fb tb back).length<=kvs.length:=by
  refine Nat.le_trans (List.length_filter_le _ _) ?_
  cases back <;> simp
 refine⟨_,Cell.ah g1 rfl,If.dec (fun hm=>?_) fun hm=>?_⟩
 .refine aQ.mk g2 (by simp) rfl fun w9 h9=>?_
  have x9:Ext (·=b2) w8 w9:=h9.ext;refine aQ.mk (ag g3 x9 (by omega)) (by simp) rfl fun dV xW=>?_
  have dW:Ext (·=b3) w9 dV:=xW.ext;refine⟨⟨none,0,0⟩,Cell.ah (ag (h9.get g2) dW (by omega)) rfl,_,Cell.ah (xW.get (ag g3 x9 (by omega))) rfl,k ⟨none,0,0⟩ [] dV ⟨Rd.nil _ _,by simp⟩ (by simp[Sl.aj]) ?_ ((od.trans x9 fun q hq h=>by omega).trans dW fun q hq h=>by omega)⟩;have:most.toNat=0:=by omega
  simp[this]
 apply vk;refine af.mk fun d0 w9 n9=>af.mk fun d1 dV lE=>af.mk fun d2 di nY=>af.mk fun d3 eN mN=>?_
 have f0:=n9.at_;have f1:=lE.at_;have f2:=nY.at_;have f3:=mN.at_;have z9:=n9.size;have Kv:=lE.size;have ND:=nY.size;have OQ:=mN.size;have aeo:Ext No w8 eN:=((n9.ext.no lE.ext).no nY.ext).no mN.ext;intro rf dk lp cO jG JR;obtain⟨ew,JA,hrf,hdf⟩:=jG.facts;have hlp:lp=eN.heap.size+1:=jG.l;have VS:dk=eN.heap.size:=jG.d;have uD:=aeo.no ew;have abC:Ext No w5 cO:=n8.ext.no uD;have BF:=od.no uD;have c13:=(c5.more (X':=fun q=>q < w4.heap.size∨(w5.heap.size<=q/\q < cO.heap.size)) fun q h=>h.imp id fun h=>h.1).no abC;have q0:=ad (ad (ad (ad n9.get lE.ext) nY.ext) mN.ext) ew;have q1:=ad (ad (ad lE.get nY.ext) mN.ext) ew;have q2:=ad (ad nY.get mN.ext) ew;have q3:=ad mN.get ew;have y13:=uD.size;have afB:=abC.size
 -- the end
 have fin:∀{n:Nat}{w':Wd}{D:Nat->Prop}{s:Sl}{L:List Pr}{p:Option Code},RO cO.heap.size b1 b2 b3 b4 most (iI kvs fb tb back) n w' D s L->fS dk w'->Ext (fun q=>w.heap.size<=q) cO w'->(iI kvs fb tb back).take n=(iI kvs fb tb back).take most.toNat->
   ∃ig:Sl,Cell (bz lp rf .exhausted p w') (Addr.mk b4 0 none) (.slice ig.a ig.len ig.cap)/\aQ (bz lp rf .exhausted p w') (Addr.mk b2 0 none) (.slice ig.a ig.len ig.cap) fun pf=>aQ pf (Addr.mk b3 0 none) (.int .i64 0) fun rJ=>fS dk rJ/\∃kT:Sl,Cell ((bQ dk rJ)) (Addr.mk b2 0 none) (.slice kT.a kT.len kT.cap)/\∃mM:Int,Cell ((bQ dk rJ)) (Addr.mk b3 0 none) (.int .i64 mM)/\K kT mM ((bQ dk rJ)):=fun {n w' D s L p} G hd x' hn=>by
  have y':=x'.size;have xp:Ext (·=lp) w' (bz lp rf .exhausted p w'):=gA;have ds:∀q,s.aj=some q->cO.heap.size<=q/\q < w'.heap.size:=fun q hq=>G.own.lt hq
  have Gp:=G.ext xp fun q hq h=>by
   rcases hq with hq | hq | hq
   .omega
   .have:=ds q hq;omega
   .have:=(G.dd q hq).2;omega
  refine⟨s,Cell.ah Gp.c4 rfl,aQ.mk Gp.c2 (by simp) rfl fun pf X3=>?_⟩;have Gd:Ext (·=b2) (bz lp rf .exhausted p w') pf:=X3.ext;have t2:pf.heap[b2]? = some (.cells [.slice s.a s.len s.cap].toArray 88 (0,0)):=X3.get Gp.c2;refine aQ.mk (ag Gp.c3 Gd (by omega)) (by simp) rfl fun rJ NK=>?_
  have lH:Ext (·=b3) pf rJ:=NK.ext;have t3:rJ.heap[b3]? = some (.cells [.int .i64 0].toArray 34 (0,0)):=NK.get (ag Gp.c3 Gd (by omega));have xd:Ext (·=dk) rJ (bQ dk rJ):=rV;have xa:Ext (fun q=>q=lp∨q=b2∨q=b3∨q=dk) w' (bQ dk rJ):=(((xp.mono fun _ _ h=> .inl h).trans Gd fun _ _ h=> .inr (.inl h)).trans lH fun _ _ h=> .inr (.inr (.inl h))).trans xd fun _ _ h=> .inr (.inr (.inr h))
  have ya:=xa.size;refine⟨((hd.ext xp (by omega)).ext Gd (by omega)).ext lH (by omega),s,Cell.ah (ag (ag t2 lH (by omega)) xd (by omega)) rfl,0,Cell.ah (ag t3 xd (by omega)) rfl,k s L _ ⟨G.own.rd.ext xa fun a q h1 h2 h=>by have:=ds q (by simp[Sl.aj,h1,h2]);omega,fun p hp=>((G.pr p hp).ext xa fun q _ hq h=>by have:=(G.dd q hq).2;omega).mono fun q _ hq=>?_⟩ (fun q hq=>?_) (by rw[G.kv,hn]) ((BF.trans x' fun q hq h=>by omega).trans xa fun q hq h=>by omega)⟩
  .have:=(G.dd q hq).2;omega
  .have:=ds q hq;omega
 refine sH (Np (w:=cO) (n0:=w.heap.size) (bc:=bc) (a0:=0) (X:=fun q=>q < w4.heap.size∨(w5.heap.size<=q/\q < cO.heap.size)) (B:=fun q=>q=b1∨q=b2∨q=b3∨q=b4∨q=dk∨q=lp) (fb:=fb) (tb:=tb)
  (J:=fun n w' B'=>dX lp rf .ready none w'/\fS dk w'/\(n:Int) < most/\∃D s L,RO cO.heap.size b1 b2 b3 b4 most (iI kvs fb tb back) n w' D s L/\∀q,B' q ↔ (q=b1∨q=b2∨q=b3∨q=b4∨q=dk∨q=lp)∨s.aj=some q∨D q)
  (Z:=fun w'=>dX lp rf .done (some (.exit 0)) w'/\fS dk w'/\∃(n:Nat),∃D s L,(n:Int)=most/\RO cO.heap.size b1 b2 b3 b4 most (iI kvs fb tb back) n w' D s L)
  (R.no BF) hT (by omega) sU dP c13 q0 q3 q1 q2 (fun q hq=>⟨.inr (by omega),by omega⟩) (fun q hq=>by omega) (fun q hq=>⟨by omega,by omega⟩)
  (Rd.no hf BF) f8 (fun hn q hq=>Rd.lt hf (by simpa using hn) hq) (Rd.no ht BF) t8 (fun hn q hq=>Rd.lt ht (by simpa using hn) hq)
  ⟨hrf,hdf,by omega,No,⟨none,0,0⟩,[],⟨ad g1 uD,ad g2 uD,ad g3 uD,ad g4 uD,bf.nil _ _ _ _,by simp,fun q h=>h.elim,by simp,Nat.zero_le _⟩,fun q=>by simp[Sl.aj,No]⟩
  (fun {j w1 w2 B' S} hJ x hS=>?_) (fun n v1 B' ks vs base hn Kr hJ ok ov dj hb hBb kt kf=>?_) fun w' hJ x=>?_)
 .obtain⟨h1,h2,h3,D,s,L,h5,h6⟩:=hJ;exact⟨h1.ext x (hS _ ((h6 _).2 (by simp))),h2.ext x (hS _ ((h6 _).2 (by simp))),h3,D,s,L,h5.ext x fun q hq=>hS q ((h6 q).2 (hq.imp (fun h=>by omega) id)),h6⟩
 .obtain⟨h1,h2,h3,D,s,L,h5,h6⟩:=hJ;have v13:=hb.1;have bv:=hb.2;refine JR ks vs 0 v1 Kr h1 (af.mk fun b5 cM NN=>?_);have u5:=NN.at_;have OR:=NN.size;refine cR NN.get rfl rfl (by simp[aJ]) fun dY PF sN _=>?_
  have mZ:Ext (·=b5) cM dY:=sN;have y15:=mZ.size;have sl:∀q,s.aj=some q->cO.heap.size<=q/\q < v1.heap.size:=fun q hq=>h5.own.lt hq
  have vJ:=(h1.ext NN.ext fun h=>h).ext mZ (by have:=h1.lt;omega);have NC:=(h2.ext NN.ext fun h=>h).ext mZ (by have:=h2.lt;omega);have abD:Ext No v1 dY:=NN.ext.trans mZ fun q hq h=>by omega
  refine⟨vJ,If.bne (fun h=>(h rfl).elim) fun _=>?_⟩;have xb:Ext (·=lp) dY (bz lp rf .busy none dY):=gA
  have G:=(h5.ext abD fun _ _ h=>h).ext xb fun q hq h=>by
   rcases hq with hq | hq | hq
   .omega
   .have:=sl q hq;omega
   .have:=(h5.dd q hq).2;omega
  have zb:(bz lp rf .busy none dY).heap.size=dY.heap.size:=mR;have S6:=ag PF xb (by have:=h1.lt;omega);refine⟨s,Cell.ah G.c4 rfl,ks,Cell.ah S6 rfl,vs,Cell.ah S6 rfl,af.mk fun b6 vG MX=>?_⟩;have u6:=MX.at_;have z18:=MX.size;have Xm:=G.ext MX.ext fun _ _ h=>h
  have gl:=Xm.len;have qX:dX lp rf .busy none vG:=(vJ.put).ext MX.ext fun h=>h
  have aep:fS dk vG:=(NC.ext xb (by omega)).ext MX.ext fun h=>h
  have o6:bf vG.heap (bz lp rf .busy none dY).heap.size 92 2 ⟨some ⟨b6,0,none⟩,1,1⟩ [.slice ks.a ks.len ks.cap,.slice vs.a vs.len vs.cap]:=bf.new MX rfl (by simp[aJ]);refine Fe Xm.own (by omega) o6.rd.src (by show(s.len+1) * 48<=_;omega) fun s1 uK ZP l19 vQ oQ=>?_
  have afC:s1.len=s.len+1:=l19;have FQ:Ext (fun q=>s.aj=some q) vG uK:=vQ;have y19:=FQ.size;have nl:∀q,q < cO.heap.size->¬ s.aj=some q:=fun q h hq=>by have:=sl q hq;omega
  refine aQ.mk (ag Xm.c4 FQ (nl _ (by omega))) (by simp) rfl fun oc OU=>?_
  have rL:Ext (·=b4) uK oc:=OU.ext;have y20:=rL.size;have g20:oc.heap[b4]? = some (.cells [.slice s1.a s1.len s1.cap].toArray 88 (0,0)):=OU.get (ag Xm.c4 FQ (nl _ (by omega)))
  have sl1:∀q,s1.aj=some q->s.aj=some q∨vG.heap.size<=q:=fun q hq=>by
   rcases oQ with h | ⟨c,h,hc⟩
   .exact .inl (by rw[<- h];exact hq)
   .rw[h]at hq;cases hq;exact .inr hc
  have Lh:=(qX.ext FQ (nl _ (by omega))).ext rL (by omega);have abE:=(aep.ext FQ (nl _ (by omega))).ext rL (by omega);have abF:Ext (·=lp) v1 vG:=(abD.aE.trans xb fun _ _ h=>h).no MX.ext;have Li:Ext (fun q=>q=lp∨s.aj=some q∨q=b4) v1 oc:=((abF.mono fun _ _ h=> .inl h).trans FQ fun _ _ h=> .inr (.inl h)).trans rL fun _ _ h=> .inr (.inr h)
  have kx:∀{sx:Sl}{l:List Int},aK v1.heap base sx l->aK oc.heap base sx l:=fun o=>o.ext Li fun q hq h=>by
   have h7:=(o.lt hq).1;rcases h with h | h | h
   .omega
   .have:=hBb q ((h6 q).2 (.inr (.inl h)));omega
   .omega
  have aeq:=kx ok;have aer:=kx ov;have hx:(iI kvs fb tb back)[n]∈kvs:=ll8 _ (List.getElem_mem hn)
  -- S2 is abG now
  have G20:RO cO.heap.size b1 b2 b3 b4 most (iI kvs fb tb back) (n+1) oc (fun q=>D q∨ks.aj=some q∨vs.aj=some q) s1 (L++[(⟨ks,vs⟩,(iI kvs fb tb back)[n])]):=by
   refine⟨ag (ag Xm.c1 FQ (nl _ (by omega))) rL (by omega),ag (ag Xm.c2 FQ (nl _ (by omega))) rL (by omega),ag (ag Xm.c3 FQ (nl _ (by omega))) rL (by omega),g20,?_,fun p hp=>?_,fun q hq=>?_,?_,hn⟩
   .have XS:=ZP.ext rL fun q hq h=>by
     rcases sl1 q hq with h7 | h7
     .exact nl q (by omega) h7
     .omega
    rw[List.flatMap_append];exact XS
   .rcases List.mem_append.1 hp with h | h
    .refine((h5.pr p h).ext Li fun q _ hq h7=>?_).mono fun q _ h=> .inl h
     have:=h5.dd q hq;rcases h7 with h7 | h7 | h7
     .omega
     .exact this.1 h7
     .omega
    .rw[List.mem_singleton]at h;subst h;exact⟨aeq.rd,aer.rd,(sU.keys _ hx).2.2,h8 _ hx,fun _ q hq=> .inr (.inl hq),fun _ q hq=> .inr (.inr hq)⟩
   .have Pq:∀q,q < v1.heap.size->¬ s.aj=some q->s1.aj≠some q:=fun q h1 h2 h3=>(sl1 q h3).elim h2 fun h=>by omega
    rcases hq with hq | hq | hq
    .have:=h5.dd q hq;exact⟨Pq q this.2.2 this.1,this.2.1,by omega⟩
    .have:=ok.lt hq;exact⟨Pq q this.2 fun h=>by have:=hBb q ((h6 q).2 (.inr (.inl h)));omega,by omega,by omega⟩
    .have:=ov.lt hq;exact⟨Pq q this.2 fun h=>by have:=hBb q ((h6 q).2 (.inr (.inl h)));omega,by omega,by omega⟩
   .rw[Io,List.map_append,List.map_singleton,List.take_add_one,List.getElem?_eq_getElem hn];have:=h5.kv;rw[Io]at this;rw[this];rfl
  have Rz:Ext B' v1 oc:=Li.mono fun q _ h=>(h6 q).2 (by
   rcases h with h | h | h
   .exact .inl (by omega)
   .exact .inr (.inl h)
   .exact .inl (by omega))
  have xr:∀{st:LoopState}{p:Option Code},Ext (·=lp) oc (bz lp rf st p oc):=gA
  have blp:B' lp:=(h6 lp).2 (.inl (by omega))
  have Gr:∀{st:LoopState}{p:Option Code},RO cO.heap.size b1 b2 b3 b4 most (iI kvs fb tb back) (n+1) (bz lp rf st p oc) (fun q=>D q∨ks.aj=some q∨vs.aj=some q) s1 (L++[(⟨ks,vs⟩,(iI kvs fb tb back)[n])]):=G20.ext xr fun q hq h=>by
   rcases hq with hq | hq | hq
   .omega
   .have:=(G20.own.lt hq).1;omega
   .have:=(G20.dd q hq).2;omega
  refine⟨s1,Cell.ah g20 rfl,most,Cell.ah G20.c1 rfl,If.dec (fun uI=>⟨Lh,kf _ ⟨Lh.put,abE.ext xr (by omega),n+1,_,s1,_,by omega,Gr⟩ (Rz.trans xr fun q _ h=>h ▸ blp)⟩) fun uI=>⟨Lh,kt _ _ ⟨Lh.put,abE.ext xr (by omega),by omega,_,s1,_,Gr,fun q=>Iff.rfl⟩ (Rz.trans xr fun q _ h=>h ▸ blp) fun q hq=>?_⟩⟩;have yr:(bz lp rf .ready none oc).heap.size=oc.heap.size:=mR;have y1:=Li.size;rcases hq with hq | hq | hq | hq | hq
  .exact⟨.inl ((h6 q).2 (.inl hq)),by omega⟩
  .have h7:=(G20.own.lt hq).2;refine⟨?_,by omega⟩;rcases sl1 q hq with h | h
   .exact .inl ((h6 q).2 (.inr (.inl h)))
   .exact .inr (.inr (.inr (by omega)))
  .exact⟨.inl ((h6 q).2 (.inr (.inr hq))),by have:=(h5.dd q hq).2;omega⟩
  .exact⟨.inr (.inl hq),by have:=(ok.lt hq).2;omega⟩
  .exact⟨.inr (.inr (.inl hq)),by have:=(ov.lt hq).2;omega⟩
 .have x':Ext (fun q=>w.heap.size<=q) cO w':=x.mono fun q _ h=>h.1
  rcases hJ with⟨B',⟨h1,h2,h3,D,s,L,h5,_⟩,_⟩ | ⟨h1,h2,n,D,s,L,h3,h5⟩
  .refine .inr (.inr ⟨h1,fin h5 h2 x' ?_⟩);rw[List.take_length,List.take_of_length_le (by omega)]
  .refine .inr (.inl ⟨h1,fin h5 h2 x' ?_⟩);have:most.toNat=n:=by omega
   rw[this]
end
end Go.Proofs.YtpjbalhhlaofmaaGreat
namespace Go.V
end Go.V
namespace Go.Proofs.YtpjbalhhlaofmaaGreat
open Go.V
section
variable {w:Wd} {T:Nat->Option Nat} {m:bJ} {M:Mm}
end
section
variable {w:Wd} {T:Nat->Option Nat} {m:bJ} {M:Mm}
theorem QZ{bc:Nat}{t t' lev:Int}{r r0:Rf}{QS:Int}{p:Sl}{l:List aF}{K:Int->Int->Sl->Int->Pw}(R:bC w.heap T m M)(hc:w.heap[bc]? = some (.cells (mT m t' r0 QS p).toArray 183 (0,0)))(h:kg M.f t (bE lev) lev r l)(ht:t'≠t)
  (k:∀a b s w',Ext No w w'->K a b s 150 w'):fF (some ⟨bc,0,none⟩) r.p r.c r.g lev w K:=by
 obtain⟨pg,h1,h2,h3,h4,h5,h6⟩:=h.at_;have vJ:iC r.p M.aC=some pg:=h1;apply mE;refine af.mk fun b w1 n1=>af.mk fun b1 w2 n2=>?_
 have g1:=ad n1.get n2.ext;have jA:=n1.ext.no n2.ext;have gc:=ad hc jA;refine⟨fun kd w'=>kd=bE lev/\w'=w2,⟨_,Cell.ah g1 rfl,If.beq (fun h=>⟨by unfold bE;rw[if_pos h],rfl⟩) fun h=>⟨by unfold bE;rw[if_neg h],rfl⟩⟩,?_⟩;rintro _ kd w3 ⟨rfl,rfl⟩;refine⟨Ext No w3,(Ext.refl _ _).drew,Nn.mk ⟨_,ae.cell (Cell.ah gc rfl),Nn.mk ⟨_,ae.cell (Cell.ah gc rfl),_,ae.cell (Cell.ah g1 rfl),_,ae.cell (Cell.ah g1 rfl),_,ae.cell (Cell.ah g1 rfl),_,ae.cell (Cell.ah g1 rfl),?_⟩⟩⟩;have R3:bC (aa w3).heap T m M:=R.no jA.drew;refine jg (rI (w:=aa w3) R3 (fun q s w' hq Dh _ _ _ _ _=>?_) (fun w' hq _=>?_) fun q w4 hq _ x4=>⟨x4.ar,If.bne (fun _=>?_) fun h=>absurd h (by decide)⟩)
 .rw[vJ]at hq;cases hq;exact(ht (Dh.symm.trans h3)).elim
 .rw[vJ]at hq;cases hq
 .have Cc:Ext No w3 w4:=x4.ar;have y34:=Cc.size
  refine cR (ad n2.get Cc) rfl rfl (by simp[aJ]) fun w5 g5 x5 _=>⟨_,Cell.ah g5 rfl,_,Cell.ah g5 rfl,⟨none,0,0⟩,Cell.ah g5 rfl,k _ _ _ w5 ((jA.no Cc).trans x5 fun q hq h=>?_)⟩
  have h':q=b1:=h;have:=n2.at_;have:=n1.size;omega
theorem TB{t t':Int}{r:Rf}{lev:Nat}{kvs:List KV}{ps:List Rf}{K:Option Addr->Int->Pw}(R:bC w.heap T m M)(sU:dS M.f t r lev kvs ps)(hr:kvs≠[])(ht:t'≠t)
  (k:∀w',Ext No w w'->K none 150 w'):fY (eY m) t' r.p r.c r.g lev w K:=by
 apply qS
 refine af.mk fun b w1 n1=>⟨trivial,If.no ⟨_,Cell.ah n1.get rfl,_,Cell.ah n1.get rfl,_,Cell.ah n1.get rfl,_,Cell.ah n1.get rfl,rfl,af.mk fun b1 w2 n2=>?_⟩⟩
 have jA:=n1.ext.no n2.ext;have gc:w2.heap[b1]? = some (.cells (mT m t' r lev ⟨none,0,0⟩).toArray 183 (0,0)):=n2.get;apply mF;refine⟨fun w'=>w'=w2,If.no (Nn.mk ⟨_,Cell.ah gc rfl,trivial,If.no rfl⟩),?_⟩;rintro _ w3 rfl;refine Nn.mk ⟨_,Cell.ah gc rfl,_,Cell.ah gc rfl,_,Cell.ah gc rfl,_,Cell.ah gc rfl,?_⟩;dsimp only;rw[Hx];rcases sU with⟨_,_,h3,_⟩ | ⟨h1,h2,hS⟩
 .exact(hr h3).elim
 rw[decide_eq_false h1];rw[Int.toNat_natCast]at hS;obtain⟨l,dG,hN,_⟩:=hS.opens;refine If.no (Nn.mk ⟨_,Cell.ah gc rfl,_,Cell.ah gc rfl,_,Cell.ah gc rfl,_,Cell.ah gc rfl,?_⟩);apply lF
 refine af.mk fun b2 w4 n4=>⟨fun q s w'=>w'=w4,⟨0,rfl⟩,?_⟩
 rintro _ _ s w5 rfl;have fg:=jA.no n4.ext;refine⟨_,Cell.ah n4.get rfl,_,Cell.ah n4.get rfl,_,Cell.ah n4.get rfl,_,Cell.ah n4.get rfl,?_⟩;refine QZ (R.no fg) (ad gc n4.ext) hN ht fun a b' s' w6 x6=>aW rfl rfl (by simp[aJ]) fun b3 w7 g7 vB z7 x7=>If.bne (fun _=>?_) fun h=>absurd h (by decide)
 refine If.beq (fun h=>absurd h (by decide)) fun _=>If.bne (fun _=>?_) fun h=>absurd h (by decide)
 exact k w7 ((fg.no x6).no x7)
theorem Nq{s:Value}{t' t0 t1 t2 t3 e:Int}{fj to:Sl}{most:Int}{back:Bool}{K:Sl->Int->Pw}(he:e≠0)(ho:∀{w':Wd}{K':Option Addr->Int->Pw},Ext No w w'->(∀gE,Ext No w' gE->K' none e gE)->fY s t' t0 t1 t2 t3 w' K')
  (k:∀s w',Ext No w w'->K s e w'):lO s t' t0 t1 t2 t3 fj to most back w K:=by
 apply vY;refine af.mk fun b w1 n1=>af.mk fun b1 w2 n2=>af.mk fun b2 w3 n3=>af.mk fun b3 w4 n4=>?_
 have e1:=n1.at_;have e2:=n2.at_;have e3:=n3.at_;have e4:=n4.at_;have z1:=n1.size;have z2:=n2.size;have z3:=n3.size;have z4:=n4.size;have fg:Ext No w w4:=((n1.ext.no n2.ext).no n3.ext).no n4.ext;have TA:=ad (ad (ad n1.get n2.ext) n3.ext) n4.ext;refine⟨_,Cell.ah TA rfl,_,Cell.ah TA rfl,_,Cell.ah TA rfl,_,Cell.ah TA rfl,ho fg fun w5 x5=>If.bne (fun _=>?_) fun h=>(he h).elim⟩;refine aQ.mk (ad (ad n3.get n4.ext) x5) (by simp) rfl fun w9 h9=>?_
 have x9:Ext (·=b2) w5 w9:=h9.ext;have g3:=ag (ad n4.get x5) x9 (by omega);refine aQ.mk g3 (by simp) rfl fun dV xW=>?_
 have dW:Ext (·=b3) w9 dV:=xW.ext;exact⟨⟨none,0,0⟩,Cell.ah (ag (h9.get (ad (ad n3.get n4.ext) x5)) dW (by omega)) rfl,e,Cell.ah (xW.get g3) rfl,k _ dV (((fg.no x5).trans x9 fun q hq h=>by omega).trans dW fun q hq h=>by omega)⟩
theorem Q2{t' t0 t1 t2 t3:Int}{K:Option Addr->Int->Pw}(k:∀w',Ext No w w'->K none 1 w'):fY .nilIface t' t0 t1 t2 t3 w K:=by
 apply qS
 exact af.mk fun b w1 n1=>⟨trivial,If.yes (k w1 n1.ext)⟩
end
end Go.Proofs.YtpjbalhhlaofmaaGreat
namespace Go.V
open Go.V.Pk Go.Proofs.YtpjbalhhlaofmaaGreat
abbrev sC(L:List (aV×aO)):List Value:=L.flatMap fun e=>e.1.cells
theorem Ka(L:List (aV×aO)):∀e∈L,(e.1.cells).length=9:=fun _ _=>rfl
def FR(Q:Nat->Prop)(h:Array Obj)(s:Sl)(l:List aO):Prop:=∃L:List (aV×aO),L.map Prod.snd=l/\Rd h s 9 (sC L)/\(L≠[]->∀b,s.aj=some b->Q b)/\∀e∈L,bL Q h e.1 e.2
theorem FR.len{Q:Nat->Prop}{h:Array Obj}{s:Sl}{l:List aO}(r:FR Q h s l):s.len=l.length:=by
 obtain⟨L,h1,h2,h3,h4⟩:=r;have:=h2.len;rw[aS (Ka L)]at this;rw[<- h1,List.length_map];omega
theorem abH{Q:Nat->Prop}{w:Wd}{s:Sl}{l:List aO}{i:Int}{K:Addr->Prop}(r:FR Q w.heap s l)(h0:0<=i)(h1:i < (s.len:Int))
  (k:∀b o (v:aV) (hi:i.toNat < l.length),bL Q w.heap v l[i.toNat]->(∀j x,v.cells[j]? = some x->Cell w ⟨b,o+j,none⟩ x)->K ⟨b,o,none⟩):Ix s.a s.len i 9 K:=by
 obtain⟨L,h2,h3,h4,h5⟩:=r;refine Ix.elem (f:=fun e:aV×aO=>e.1.cells) h3 (Ka L) (by decide) h0 h1 fun b o hi hb hc=>?_
 have hl:L.length=l.length:=by rw[<- h2,List.length_map]
 refine k b o L[i.toNat].1 (by omega) ?_ hc;have e:l[i.toNat]'(by omega)=L[i.toNat].2:=by simp[<- h2]
 rw[e];exact h5 _ (List.getElem_mem hi)
abbrev KRt:Type:=Int->Int->Int->Int->Int->Pw
end Go.V
namespace Go.Proofs.YtpjbalhhlaofmaaGreat
open Go.V Go.V.Pk
section
variable {w:Wd} {Q:Nat->Prop} {T:Nat->Option Nat} {m:bJ} {M:Mm}
theorem Is{S:Nat->Prop}{w:Wd}{b j:Nat}{x:Value}{cs:List Value}{T:TypeId}{fz:Nat×Nat}(g:w.heap[b]? = some (.cells cs.toArray T fz))(h:cs[j]? = some x)(hb:¬ S b):ae (Ext S w) ((Addr.mk b 0 none).add j) x:=by
 rw[aw rfl,Nat.zero_add];exact ae.dI (Cell.ah g h) hb
theorem Xn{b:Nat}{cs:List Value}{T:TypeId}{v:aV}{K:X4}(hb:w.heap[b]? = some (.cells cs.toArray T (0,0)))(Lq:cs.length=9)(k:∀w',Ext (·=b) w w'->w'.heap.size=w.heap.size->K.at v w') :
  List.length v.cells=9/\gT w (Addr.mk b 0 none) v.cells fun dH=>
   ∃c:Int,Cell dH (Addr.mk b 0 none) (.int .u32 c)/\∃jz:Int,Cell dH ((Addr.mk b 0 none).add 1) (.int .i64 jz)/\∃ia:Sl,Cell dH ((Addr.mk b 0 none).add 2) (.slice ia.a ia.len ia.cap)/\∃oN:Int,Cell dH ((Addr.mk b 0 none).add 3) (.int .u32 oN)/\∃oO:Int,Cell dH ((Addr.mk b 0 none).add 4) (.int .u64 oO)/\∃jY:Int,Cell dH ((Addr.mk b 0 none).add 5) (.int .u16 jY)/\∃qA:Int,Cell dH ((Addr.mk b 0 none).add 6) (.int .u8 qA)/\∃oP:Int,Cell dH ((Addr.mk b 0 none).add 7) (.int .i64 oP)/\∃lG:Sl,Cell dH ((Addr.mk b 0 none).add 8) (.slice lG.a lG.len lG.cap)/\K c jz ia oN oO jY qA oP lG dH:=
 ⟨rfl,gT.all hb (by rw[Lq];rfl) v.one fun w' g x z=>⟨v.ai,Cell.ah g rfl,v.ay,Cell.ah g rfl,v.mark,Cell.ah g rfl,v.root.p,Cell.ah g rfl,v.root.c,Cell.ah g rfl,v.root.g,Cell.ah g rfl,v.lev,Cell.ah g rfl,v.au,Cell.ah g rfl,v.held,Cell.ah g rfl,k w' x z⟩⟩
theorem xD{t:Int}{K:Sl->Pw}(ht:FN t)(k:∀s w',aK w'.heap w.heap.size s (kX t)->Ext No w w'->K s w'):jV t w K:=by
 obtain⟨h0,h1⟩:=ht;exact Jf (Ar.u64 (by omega) (kM h0 (by decide) (by decide) (by show t < 4294967296;omega) k))
theorem xE{s:Value}{r:Rf}{lev t:Int}{G:Sl->Int->Wd->Pw}{K:PO}(ht:FN t)
  (hg:∀{w1:Wd}{ks:Sl}{K':Sl->Int->Pw},Ext No w w1->b_ w1.heap ks (kX t)->(∀s e w',G s e w1 w'->Ext No w1 w'->K' s e w')->fw s 0 r.p r.c r.g lev ks w1 K')
  (ke:∀s e w1 w2 w',G s e w1 w2->e≠0->Ext No w w'->K.at aR e w')
  (kr:∀s w1 w2,Ext No w w1->Ext No w w2->G s 0 w1 w2->∃l,b_ w2.heap s l/\B8 l/\l.length<=1000000000/\(∀w',(∀x,¬ Good t l x)->Ext No w w'->K.at aR 5 w')/\(∀v x w',Good t l x->bL (w.heap.size<=·) w'.heap v x->Ext No w w'->K.at v 0 w')):jT s r.p r.c r.g lev t w K:=by
 apply Jg;refine af.mk fun b w1 n1=>af.mk fun b1 w2 n2=>?_
 have g2:=ad n1.get n2.ext;have e1:=n1.at_;have z1:=n1.size;have e2:=n2.at_;have z2:=n2.size;have jA:=n1.ext.no n2.ext;refine⟨Ext No w2,(Ext.refl _ _).drew,_,eo g2 rfl,_,aq g2 rfl,_,aq g2 rfl,_,aq g2 rfl,xD ht fun ks w3 o3 x3=>⟨(Ext.refl _ _).drew.no x3,?_⟩⟩;have lH:Ext No w2 w3:=(Ext.refl _ _).drew.no x3;have ib:=jA.no lH
 refine hg ib o3.rd fun s4 e w4 h4 x4=>⟨lH.no x4,?_⟩
 have qm:=lH.no x4;have fg:=jA.no qm;have g4:=ad n2.get qm;refine If.bne (fun he=>?_) fun he=>?_
 .refine Xn (v:=aR) (K:=fun c c1 c2 c3 c4 c5 c6 c7 c8 w'=>K c c1 c2 c3 c4 c5 c6 c7 c8 e w') g4 rfl fun w5 x5 _=>ke s4 e w3 w4 w5 h4 he ?_
  have LO:Ext (·=b1) w4 w5:=x5;exact fg.trans LO fun q hq h=>by omega
 .subst he;obtain⟨l,hl,h8,SI,k5,k0⟩:=kr s4 w3 w4 ib fg h4;refine si ht hl h8 SI (fun w6 wv x6=>?_) fun v x w6 hgd sr x6=>?_
  .refine Xn (v:=aR) (K:=fun c c1 c2 c3 c4 c5 c6 c7 c8 w'=>K c c1 c2 c3 c4 c5 c6 c7 c8 5 w') (ad g4 x6) rfl fun w7 x7 _=>k5 w7 wv ?_
   have x7':Ext (·=b1) w6 w7:=x7;exact(fg.no x6).trans x7' fun q hq h=>by omega
  .refine Xn (v:=v) (K:=fun c c1 c2 c3 c4 c5 c6 c7 c8 w'=>K c c1 c2 c3 c4 c5 c6 c7 c8 0 w') (ad g4 x6) rfl fun w7 x7 _=>?_
   have x7':Ext (·=b1) w6 w7:=x7;have s4':=fg.size;have s24:=qm.size;exact k0 v x w7 hgd ((sr.ext x7' fun q hq h=>by omega).mono fun q hq=>by show w.heap.size<=q;omega) ((fg.no x6).trans x7' fun q hq h=>by omega)
theorem RN.wrap{w1 w2 w3:Wd}{T':Nat->Option Nat}{m':bJ}{M':Mm}{t:Int}{n mV b:Nat}{HY:List KV}{ps dG:List Rf}{r':Rf}(R:bC w.heap T m M)(x1:Ext No w w1)(A:RN w1 w2 T T' m m' M M' t n HY ps dG r' mV)(hb:w.heap.size<=b)(jk:b < w1.heap.size)(x3:Ext (·=b) w2 w3):RN w w3 T T' m m' M M' t n HY ps dG r' mV:=by
 have y1:=x1.size;have hT:T' b=none:=(A.tg b jk).trans (R.mS hb);exact⟨A.mem.ext x3 fun q hq=>by rw[hq];exact hT,A.bm,fun q hq=>A.tg q (by omega),(x1.aE.trans A.ext fun _ _ h=>h).trans x3 fun q hq h=>by omega,A.tree,A.lv,A.DT⟩
theorem th{lev:Nat}{r:Rf}{W:List aO}{ps:List Rf}{v:aV}{x:aO}{K:KRt}(R:bC w.heap T m M)(hT:dS M.f 0 r lev (FO W) ps)(dP:lev<=30)(hs:Sub ps M)(hn:M.aC.length<=900000)(hW:lJ W)(sr:bL Q w.heap v x)(rg:vC x)(hl:x.held.length<=1000000000000)
  (k2:∀w',¬ pM x->Ext No w w'->K 0 0 0 0 2 w')
  (k:∀(r':Rf)(mV:Nat) dG T' m' M' w',pM x->RN w w' T T' m m' M M' 0 1 (FO (K_ x.ai (some x) W)) ps dG r' mV->K r'.p r'.c r'.g mV 0 w'):fi (eY m) r.p r.c r.g lev v.ai v.ay v.mark v.root.p v.root.c v.root.g v.lev v.au v.held w K:=by
 apply xQ
 refine af.mk fun b w1 n1=>af.mk fun b1 w2 n2=>af.mk fun b2 w3 n3=>⟨trivial,If.no ?_⟩
 have e1:=n1.at_;have z1:=n1.size;have e2:=n2.at_;have z2:=n2.size;have e3:=n3.at_;have z3:=n3.size;have gb:=ad (ad n1.get n2.ext) n3.ext;have g1:w3.heap[b1]? = some (.cells v.cells.toArray 33 (0,0)):=ad n2.get n3.ext;have ib:=(n1.ext.no n2.ext).no n3.ext;refine⟨v.ai,Cell.ah g1 rfl,v.ay,Cell.ah g1 rfl,v.mark,Cell.ah g1 rfl,v.root.p,Cell.ah g1 rfl,v.root.c,Cell.ah g1 rfl,v.root.g,Cell.ah g1 rfl,v.lev,Cell.ah g1 rfl,v.au,Cell.ah g1 rfl,v.held,Cell.ah g1 rfl,ux (sr.no ib) rg hl (fun w5 hm x5=>If.bne (fun _=>?_) fun h=>absurd h (by decide)) fun tb w5 hm o5 x5=>If.bne (fun h=>absurd rfl h) fun _=>?_⟩
 .refine zN (ad n3.get x5) rfl fun w6 x6 _=>k2 w6 hm ?_
  have W9:Ext (·=b2) w5 w6:=x6;exact(ib.no x5).trans W9 fun q hq h=>by omega
 have y5:=x5.size;have sup:∀{q},w.heap.size<=q->T q=none:=fun hq=>R.mS hq
 have nS:∀{q},w.heap.size<=q->¬ Ts T q:=fun hq h=>h (sup hq)
 have S6:=ad gb x5;have PF:=ad g1 x5;have htn:v.ai=x.ai:=sr.ai;have nS2:∀{q},w.heap.size<=q->q≠b2->¬ (Ts T q∨q=b2):=fun hq h1 h=>h.elim (nS hq) h1
 refine⟨Ext (fun q=>Ts T q∨q=b2) w5,(Ext.refl _ _).drew,_,Is (j:=0) S6 rfl (nS2 (by omega) (by omega)),_,Is S6 rfl (nS2 (by omega) (by omega)),_,Is S6 rfl (nS2 (by omega) (by omega)),_,Is S6 rfl (nS2 (by omega) (by omega)),_,Is (j:=0) PF rfl (nS2 (by omega) (by omega)),?_⟩;rw[htn];refine xD rg.ai fun ks w7 o7 x7=>?_
 have DM:Ext No w5 w7:=(Ext.refl _ _).drew.no x7;refine⟨DM.aE,af.mk fun b3 w8 n8=>⟨(DM.no n8.ext).aE,?_⟩⟩;have uk:=DM.no n8.ext;have od:=(ib.no x5).no uk;have y7:w5.heap.size<=w7.heap.size:=DM.size;have z8:=n8.size
 let op:jB:=⟨ks,tb,false,kX x.ai,eH x⟩
 have JV:Rd w8.heap ⟨some ⟨b3,0,none⟩,1,1⟩ 3 ([op].flatMap jB.cs):=(bf.new (sz:=3) (n:=1) n8 rfl (by simp[aJ])).rd;have fl:=xz hm rg;have o8:=o7.no n8.ext;have o58:=o5.no uk
 have hop:∀y∈[op],Tw w8.heap T y:=fun y hy=>by
  rw[List.mem_singleton]at hy;subst hy;exact⟨o8.rd,o58.rd,jK _ _,vX rg,fun _ q hq=>⟨sup (by have:=(o8.lt hq).1;show w.heap.size<=q;have e:(aa w5).heap.size=w5.heap.size:=rfl;omega),(o8.lt hq).2⟩,fun _ q hq=>⟨sup (by have:=(o58.lt hq).1;omega),(o58.lt hq).2⟩⟩
 have FJ:opsL [op] (FO W)=FO (K_ x.ai (some x) W):=W6 (o:=some x) hW.tn rg.ai fun y hy=>by cases hy;rfl
 refine uF (xs:=[op]) (R.no od) hT dP hs JV hop (by simp) hn (fun w' hb _=>?_) fun r' mV dG T' m' M' w9 _ A=>?_
 .obtain⟨y,hy,hf⟩:=hb;rw[List.mem_singleton]at hy;subst hy;refine(hf ⟨⟨?_,?_⟩,?_,fun h=>by cases h⟩).elim
  .show 1<=(be 4 _).length;rw[bu];omega
  .show(be 4 _).length<=32;rw[bu];omega
  .show(eH x).length<=1024;omega
 rw[FJ]at A;have g29:=ag (ad (ad n3.get x5) uk) A.ext (nS (by omega));refine⟨uk.aE.trans A.ext fun _ _ h=> .inl h,cR g29 rfl rfl (by simp[aJ]) fun dV nz dW Kv=>?_⟩;have sS:Ext (·=b2) w9 dV:=dW;have y9:=A.ext.size;refine⟨(uk.aE.trans A.ext fun _ _ h=> .inl h).trans sS fun q hq h=> .inr h,_,Cell.ah nz rfl,_,Cell.ah nz rfl,_,Cell.ah nz rfl,_,Cell.ah nz rfl,k r' mV dG T' m' M' dV hm (RN.wrap R od A (by omega) (by omega) sS)⟩
end
end Go.Proofs.YtpjbalhhlaofmaaGreat
namespace Go.Proofs.YtpjbalhhlaofmaaGreat
open Go.V Go.V.Pk
section
variable {w:Wd} {Q:Nat->Prop} {T:Nat->Option Nat} {m:bJ} {M:Mm}
theorem Q4(l:List KV):iI l [] [] false=l:=by
 show l.filter (Eh [] [])=l;refine List.filter_eq_self.2 fun x _=>?_
 simp[Eh,kW]
theorem FT{lev:Nat}{r:Rf}{W:List aO}{ps:List Rf}{K:Sl->Int->Pw}(R:bC w.heap T m M)(hT:dS M.f 0 r lev (FO W) ps)(dP:lev<=30)(hW:lJ W)(hl:W.length<=100000)
  (k:∀s w',FR (w.heap.size<=·) w'.heap s W->Ext No w w'->K s 0 w'):fu (eY m) r.p r.c r.g lev w K:=by
 apply AA
 refine af.mk fun b w1 n1=>⟨_,Cell.ah n1.get rfl,_,Cell.ah n1.get rfl,_,Cell.ah n1.get rfl,_,Cell.ah n1.get rfl,?_⟩
 refine J_ (fb:=[]) (tb:=[]) (R.no n1.ext) hT dP (by rw[List.length_map];omega) (fun x hx=>?_) (Rd.nil _ _) B8.nil (Rd.nil _ _) B8.nil fun s2 L w2 pr _ FJ x2=>If.bne (fun h=>absurd rfl h) fun _=>?_
 .obtain⟨y,hy,rfl⟩:=List.mem_map.1 hx;exact vX (hW.gC y hy)
 rw[Q4,List.take_of_length_le (by rw[List.length_map];show W.length<=4611686018427387904;omega)]at FJ;have Gb:L.length=W.length:=by have:=congrArg List.length FJ;simpa using this
 have sl:=pr.len;have jA:=n1.ext.no x2
 refine⟨fun q out i w'=>∃(j:Nat) (A:List (aV×aO)),i=j/\j<=W.length/\q=W.length - j/\A.map Prod.snd=W.take j/\bf w'.heap w2.heap.size 33 9 out (sC A)/\(∀e∈A,bL (fun q=>w2.heap.size<=q/\out.aj≠some q) w'.heap e.1 e.2)/\Ext No w2 w',
  ⟨_,0,[],rfl,Nat.zero_le _,rfl,by simp,bf.nil _ _ _ _,by simp,Ext.refl _ _⟩,?_⟩
 rintro _ m0 out _ w3 ⟨j,A,rfl,hj,rfl,hA,oA,rA,lH⟩;have yy:∀{q:Nat},out.aj=some q->w2.heap.size<=q/\q < w3.heap.size:=fun h=>oA.lt h
 have y23:=lH.size;refine If.dec (fun h=>?_) fun h=>?_
 .have eO:j < W.length:=by omega
  have QA:j < L.length:=by omega
  have pr3:=pr.no lH
  have hpj:L[j].2=kvS W[j]:=by
   have h1:(Io L)[j]? = (FO W)[j]?:=by rw[FJ]
   rw[List.getElem?_map,List.getElem?_map,List.getElem?_eq_getElem QA,List.getElem?_eq_getElem eO]at h1;exact Option.some.inj h1
  have pj:=pr3.pr L[j] (List.getElem_mem QA);generalize hp:L[j]=p at *;have hm:W[j]∈W:=List.getElem_mem eO;have tk:=dO eO;generalize W[j]=x at *;have ek:p.2.1=kX x.ai:=by rw[hpj]
  have ev:p.2.2=eH x:=by rw[hpj]
  have rg:=hW.gC x hm;have mx:=hW.may x hm;refine Ix.elem (f:=Pr.cs) pr3.rd (BP L) (by decide) (by omega) h fun bb o hi hb hc=>?_
  have el:L[((j:Nat):Int).toNat]'hi=p:=hp;rw[el]at hc;refine⟨p.1.k,hc 0 _ rfl,p.1.v,hc 1 _ rfl,aW rfl rfl (by simp[aJ]) fun b1 w5 g5 jk z5 x5=>⟨p.1.k,Cell.ah g5 rfl,?_⟩⟩;have kl:p.2.1.length=4:=by rw[ek,bu]
  refine mG (pj.k.no x5) pj.k8 (by omega) (by omega) ⟨fun w'=>w5=w',If.bne (fun h=>absurd rfl h) fun _=>⟨p.1.k,Cell.ah g5 rfl,If.bne (fun h=>(h ?_).elim) fun _=>rfl⟩,?_⟩
  .have:=b_.len pj.k;omega
  rintro _ _ rfl;have tn:=rg.ai;have en:num p.2.1=x.ai:=by rw[ek];exact iA 4 tn.1 (by show x.ai < 4294967296;omega)
  rw[en];have fl:=xz mx rg;refine Ar.u32 (by omega) ⟨p.1.v,Cell.ah g5 rfl,si tn (pj.v.no x5) pj.v8 (by rw[ev];omega) (fun w' wv _=>?_) fun v y w8 gy sr x8=>?_⟩
  .rw[ev]at wv;exact(wv x ⟨mx,rg,rfl,rfl⟩).elim
  rw[ev]at gy;have:=Good.uniq gy ⟨mx,rg,rfl,rfl⟩;subst this;have y5:=x5.size;have y8:=x8.size
  refine aW (vs:=v.cells) rfl rfl v.one fun b2 dV nz jN Kv dW=>If.bne (fun h=>absurd rfl h) fun _=>⟨v.ai,Cell.ah nz rfl,v.ay,Cell.ah nz rfl,v.mark,Cell.ah nz rfl,v.root.p,Cell.ah nz rfl,v.root.c,Cell.ah nz rfl,v.root.g,Cell.ah nz rfl,v.lev,Cell.ah nz rfl,v.au,Cell.ah nz rfl,v.held,Cell.ah nz rfl,af.mk fun b3 di nY=>?_⟩
  have aes:=(x8.no dW).no nY.ext;have TC:=x5.no aes;have Nr:=dW.no nY.ext
  have hAl:A.length=j:=by
   have:=congrArg List.length hA;rw[List.length_map,List.length_take]at this;omega
  have ol:out.len=A.length:=by
   have:=oA.rd.len;rw[aS (Ka A)]at this;omega
  have src:Src pz di (.slice (some (Addr.mk b3 0 none)) 1 1) 9 1 v.cells:=(bf.new (sz:=9) (n:=1) nY rfl v.one).rd.src;have y11:=TC.size;have afD:=Nr.size;refine Fc (oA.no TC) (by omega) src (by rw[ol];omega) fun s' eN Jq _ fJ oQ=>?_
  have key:∀{u y},bL (fun q=>w2.heap.size<=q/\out.aj≠some q) di.heap u y->bL (fun q=>w2.heap.size<=q/\s'.aj≠some q) eN.heap u y:=fun {u y} h=>by
   refine((h.lt).ext fJ fun q hq h=>hq.1.2 h).mono fun q hq=>⟨hq.1.1,fun h=>?_⟩
   rcases oQ with h1 | ⟨b',h1,h3⟩
   .exact hq.1.2 (h1 ▸ h)
   .rw[h1]at h;cases h;have:=hq.2;omega
  refine Ar.i64 (by omega) ⟨_,by omega,j+1,A++[(v,y)],by omega,by omega,rfl,?_,?_,fun e he=>?_,?_⟩
  .rw[List.map_append,hA,tk];rfl
  .rw[show sC (A++[(v,y)])=sC A++v.cells by simp];exact Jq
  .rcases List.mem_append.1 he with h | h
   .exact key ((rA e h).no TC)
   .rw[List.mem_singleton]at h;subst h;exact key ((sr.no Nr).mono fun q hq=>⟨by omega,fun h=>by have:=(yy h).2;omega⟩)
  .exact(lH.no TC).trans fJ fun q hq h=>by have:=(yy h).1;omega
 .have x_:j=W.length:=by omega
  have y02:=jA.size;exact k out w3 ⟨A,by rw[hA,x_,List.take_length],oA.rd,fun _ q hq=>by have:=(yy hq).1;show w.heap.size<=q;omega,fun e he=>(rA e he).mono fun q hq=>by have:=hq.1;show w.heap.size<=q;omega⟩ (jA.no lH)
theorem It{r:Rf}{lev t:Int}{K:PO}(ht:FN t)(k:∀w',Ext No w w'->K.at aR 1 w'):jT .nilIface r.p r.c r.g lev t w K:=
 xE (G:=fun _ e _ _=>e=1) ht (fun _ _ k'=>QQ fun w' x=>k' _ _ w' rfl x) (fun _ e _ _ w' h _ x=>by rw[h];exact k w' x) fun _ _ _ _ _ h=>by cases h
theorem FU{t0 t1 t2 t3:Int}{v:aV}{K:KRt}(k:∀w',Ext No w w'->K 0 0 0 0 1 w'):fi .nilIface t0 t1 t2 t3 v.ai v.ay v.mark v.root.p v.root.c v.root.g v.lev v.au v.held w K:=by
 apply xQ
 refine af.mk fun b w1 n1=>af.mk fun b1 w2 n2=>af.mk fun b2 w3 n3=>⟨trivial,If.yes (zN n3.get rfl fun w4 x4 _=>k w4 ?_)⟩
 have Ce:Ext (·=b2) w3 w4:=x4;have e3:=n3.at_;have z1:=n1.size;have z2:=n2.size;exact((n1.ext.no n2.ext).no n3.ext).trans Ce fun q hq h=>by omega
theorem zO{t0 t1 t2 t3 t:Int}{K:KRt}(ht:FN t)(k:∀w',Ext No w w'->K 0 0 0 0 1 w'):mw .nilIface t0 t1 t2 t3 t w K:=by
 apply AB;refine af.mk fun b w1 n1=>af.mk fun b1 w2 n2=>?_
 have g2:=ad n1.get n2.ext;have e2:=n2.at_;have z1:=n1.size;refine⟨Ext No w2,(Ext.refl _ _).drew,_,eo g2 rfl,_,aq g2 rfl,_,aq g2 rfl,_,aq g2 rfl,xD ht fun ks w3 o3 x3=>?_⟩;have lH:Ext No w2 w3:=(Ext.refl _ _).drew.no x3;refine⟨lH,QQ fun w4 x4=>⟨lH.no x4,If.bne (fun _=>zN (ad n2.get (lH.no x4)) rfl fun w6 x6 _=>k w6 ?_) fun h=>absurd h (by decide)⟩⟩;have W9:Ext (·=b1) w4 w6:=x6;exact(((n1.ext.no n2.ext).no lH).no x4).trans W9 fun q hq h=>by omega
theorem yP{s:Value}{r:Rf}{lev e:Int}{K:Sl->Int->Pw}(he:e≠0)(ho:∀{w':Wd}{K':Option Addr->Int->Pw},Ext No w w'->(∀gE,Ext No w' gE->K' none e gE)->fY s 0 r.p r.c r.g lev w' K')(k:∀w',Ext No w w'->K ⟨none,0,0⟩ e w'):fu s r.p r.c r.g lev w K:=by
 apply AA
 refine af.mk fun b w1 n1=>⟨_,Cell.ah n1.get rfl,_,Cell.ah n1.get rfl,_,Cell.ah n1.get rfl,_,Cell.ah n1.get rfl,?_⟩
 exact Nq he (fun x k'=>ho (n1.ext.no x) k') fun s2 w2 x2=>If.bne (fun _=>k w2 (n1.ext.no x2)) fun h=>(he h).elim
theorem Iu{r:Rf}{lev:Int}{K:Sl->Int->Pw}(k:∀w',Ext No w w'->K ⟨none,0,0⟩ 1 w'):fu .nilIface r.p r.c r.g lev w K:=
 yP (by decide) (fun _ k'=>Q2 k') k
end
end Go.Proofs.YtpjbalhhlaofmaaGreat
namespace Go.V
open Go.V.Pk Go.Proofs.YtpjbalhhlaofmaaGreat
abbrev zB(n:Nat):List Int:=List.replicate n 0
def im(t:Int):aO:=⟨t,9,zB 16,.z,0,0,[⟨1,2,zB 32⟩]⟩
theorem zB8(n:Nat):B8 (zB n):=fun x hx=>by rw[List.eq_of_mem_replicate hx];omega
theorem ss{t:Int}(h:t≠0):pM (im t):=⟨h,by show(1:Int)<=9;decide,by show(9:Int)<=1000;decide,rfl,by show(0:Int)<=0;decide,by show(0:Int)<=9;decide,⟨fun _=>⟨rfl,rfl⟩,fun _=>rfl⟩,.inl ⟨_,rfl,rfl⟩⟩
theorem su{t:Int}(h:FN t):vC (im t):=⟨h,zB8 16,by show Rf.ok .z;decide,by show(0:Int)<=0/\(0:Int)<=255;decide,fun y hy=>by
 have:y=⟨1,2,zB 32⟩:=List.mem_singleton.1 hy
 subst this;exact⟨by decide,by decide,zB8 32⟩⟩
end Go.V
namespace Go.Proofs.YtpjbalhhlaofmaaGreat
open Go.V Go.V.Pk
section
variable {w:Wd}
theorem mkZ{n:Nat}{z:Int}{K:Sl->Pw}(hz:z=n)(h:n<=1000)(k:∀s w',aK w'.heap w.heap.size s (zB n)->Ext No w w'->K s w'):FZ w 5 [.int .u8 0] 1 z z K:=by
 subst hz;refine FZ.mk (by omega) (Int.le_refl _) (by omega) (by omega) fun b w3 jG=>?_
 have o3:=bf.make (l:=n) jG (Nat.le_refl _) (fun v hv=>by rw[List.mem_singleton]at hv;subst hv;rfl);have e3:(List.replicate n [Value.int .u8 0]).flatten=(List.replicate n (0:Int)).map (Value.int .u8):=by simp[List.flatten_replicate_singleton]
 rw[e3]at o3;exact k _ w3 o3 jG.ext
theorem BU{w4:Wd}{b b1:Nat}{s s1:Sl}{t:Int}{K:X4}(hb:w.heap.size<=b)(g:w4.heap[b]? = some (.cells aR.cells.toArray 33 (0,0)))(x:Ext No w w4)(Ge:pe (fun q=>w.heap.size<=q/\q≠b) w4.heap s (zB 16))(o32:pe (fun q=>w.heap.size<=q/\q≠b) w4.heap s1 (zB 32))
  (o1:Rd w4.heap ⟨some ⟨b1,0,none⟩,1,1⟩ 3 [.int .u16 1,.int .u64 2,.slice s1.a s1.len s1.cap]) (jk:w.heap.size<=b1/\b1≠b) (k:∀v w',bL (w.heap.size<=·) w'.heap v (im t)->Ext No w w'->K.at v w') :
  List.length (α:=Value) [.int .u32 t,.int .i64 9,.slice s.a s.len s.cap,.int .u32 0,.int .u64 0,.int .u16 0,.int .u8 0,.int .i64 0,.slice (some (Addr.mk b1 0 none)) 1 1]=9/\gT w4 (Addr.mk b 0 none) [.int .u32 t,.int .i64 9,.slice s.a s.len s.cap,.int .u32 0,.int .u64 0,.int .u16 0,.int .u8 0,.int .i64 0,.slice (some (Addr.mk b1 0 none)) 1 1] fun dH=>True/\
   ∃c:Int,Cell dH (Addr.mk b 0 none) (.int .u32 c)/\∃jz:Int,Cell dH ((Addr.mk b 0 none).add 1) (.int .i64 jz)/\∃ia:Sl,Cell dH ((Addr.mk b 0 none).add 2) (.slice ia.a ia.len ia.cap)/\∃oN:Int,Cell dH ((Addr.mk b 0 none).add 3) (.int .u32 oN)/\∃oO:Int,Cell dH ((Addr.mk b 0 none).add 4) (.int .u64 oO)/\∃jY:Int,Cell dH ((Addr.mk b 0 none).add 5) (.int .u16 jY)/\∃qA:Int,Cell dH ((Addr.mk b 0 none).add 6) (.int .u8 qA)/\∃oP:Int,Cell dH ((Addr.mk b 0 none).add 7) (.int .i64 oP)/\∃lG:Sl,Cell dH ((Addr.mk b 0 none).add 8) (.slice lG.a lG.len lG.cap)/\K c jz ia oN oO jY qA oP lG dH:=by
 let v:aV:=⟨t,9,s,.z,0,0,⟨some ⟨b1,0,none⟩,1,1⟩⟩
 refine⟨rfl,gT.all g rfl v.one fun w5 g5 x5 _=>⟨trivial,v.ai,Cell.ah g5 rfl,v.ay,Cell.ah g5 rfl,v.mark,Cell.ah g5 rfl,v.root.p,Cell.ah g5 rfl,v.root.c,Cell.ah g5 rfl,v.root.g,Cell.ah g5 rfl,v.lev,Cell.ah g5 rfl,v.au,Cell.ah g5 rfl,v.held,Cell.ah g5 rfl,?_⟩⟩;have LO:Ext (·=b) w4 w5:=x5;have o1':Rd w5.heap ⟨some ⟨b1,0,none⟩,1,1⟩ 3 [.int .u16 1,.int .u64 2,.slice s1.a s1.len s1.cap]:=o1.ext LO fun a q ha hq h=>by simp at ha;subst ha;exact jk.2 (hq.trans h)
 refine k v w5 ⟨rfl,rfl,(Ge.ext LO fun q hq h=>hq.2 h).mono fun q hq=>hq.1,rfl,rfl,rfl,[(⟨1,2,s1⟩,⟨1,2,zB 32⟩)],rfl,o1',fun _ q hq=>?_,fun e he=>?_⟩ (x.trans LO fun q hq h=>by omega)
 .cases hq;exact jk.1
 .rw[List.mem_singleton]at he;subst he;exact⟨rfl,rfl,(o32.ext LO fun q hq h=>hq.2 h).mono fun q hq=>hq.1⟩
theorem sv{t:Int}{K:X4}(k:∀v w',bL (w.heap.size<=·) w'.heap v (im t)->Ext No w w'->K.at v w'):gp t w K:=by
 apply EV
 refine af.mk fun b w1 n1=>⟨fun _=>True,trivial,?_⟩
 have e1:=n1.at_;have z1:=n1.size;have xd:Ext No w1 (aa w1):=(Ext.refl _ _).drew;have zd:(aa w1).heap.size=w1.heap.size:=rfl;have gd:(aa w1).heap[b]? = some (.cells aR.cells.toArray 33 (0,0)):=n1.get
 have q:∀{h:Array Obj}{base n:Nat}{s:Sl},aK h base s (zB n)->w1.heap.size<=base->pe (fun q=>w.heap.size<=q/\q≠b) h s (zB n):=fun o hb=> .own o fun q h1 _=>⟨by omega,by omega⟩
 constructor
 .refine mkZ (n:=16) rfl (by omega) fun s w2 o2 x2=>⟨trivial,mkZ (n:=32) rfl (by omega) fun s1 w3 o3 x3=>⟨trivial,af.mk fun b1 w4 n4=>⟨trivial,?_⟩⟩⟩
  have y2:=x2.size;have y3:=x3.size;have e4:=n4.at_;exact BU (by omega) (ad (ad (ad gd x2) x3) n4.ext) (((n1.ext.no (xd.no x2)).no x3).no n4.ext) (((q o2 (by omega)).no x3).no n4.ext) ((q o3 (by omega)).no n4.ext) (bf.new (sz:=3) (n:=1) n4 rfl (by simp[aJ])).rd ⟨by omega,by omega⟩ k
 .refine mkZ (n:=32) rfl (by omega) fun s1 w6 o6 x6=>⟨trivial,?_,?_⟩
  .refine mkZ (n:=16) rfl (by omega) fun s w7 o7 x7=>⟨trivial,af.mk fun b1 w8 n8=>⟨trivial,?_⟩⟩
   have y6:=x6.size;have y7:=x7.size;have e8:=n8.at_;exact BU (by omega) (ad (ad (ad gd x6) x7) n8.ext) (((n1.ext.no (xd.no x6)).no x7).no n8.ext) ((q o7 (by omega)).no n8.ext) (((q o6 (by omega)).no x7).no n8.ext) (bf.new (sz:=3) (n:=1) n8 rfl (by simp[aJ])).rd ⟨by omega,by omega⟩ k
  .refine af.mk fun b1 dV lE=>⟨trivial,mkZ (n:=16) rfl (by omega) fun s di Sr fH=>⟨trivial,?_⟩⟩
   have y6:=x6.size;have y11:=fH.size;have e10:=lE.at_;have Kv:=lE.size;exact BU (by omega) (ad (ad (ad gd x6) lE.ext) fH) (((n1.ext.no (xd.no x6)).no lE.ext).no fH) (q Sr (by omega)) (((q o6 (by omega)).no lE.ext).no fH) ((bf.new (sz:=3) (n:=1) lE rfl (by simp[aJ])).rd.no fH) ⟨by omega,by omega⟩ k
theorem Q5:K_ 3 (some (im 3)) (K_ 5 (some (im 5)) [])=[im 3,im 5]:=by decide
theorem Ei{w7:Wd}{T2:Nat->Option Nat}{m2:bJ}{M2:Mm}{r2:Rf}{Gj b:Nat}{K8:List Rf}{zs:List Value}{W2:List aO}{K:Bool->Pw}(ub:Ext No w w7)(R7:bC w7.heap T2 m2 M2)(tr:dS M2.f 0 r2 Gj (FO W2) K8)(SE:Gj<=30)(hW:lJ W2)(hW2:W2=[im 3,im 5])
  (hb:w.heap.size<=b) (tb:T2 b=none) (gb:w7.heap[b]? = some (.cells zs.toArray 30 (0,0))) (hz:zs.length=4) (k:∀w',Ext No w w'->K true w') :
  List.length (α:=Value) [.int .u32 r2.p,.int .u64 r2.c,.int .u16 r2.g,.int .u8 Gj]=4/\gT w7 (Addr.mk b 0 none) [.int .u32 r2.p,.int .u64 r2.c,.int .u16 r2.g,.int .u8 Gj] fun w8=>True/\
   ∃oO:Int,Cell w8 (Addr.mk b 0 none) (.int .u32 oO)/\∃jY:Int,Cell w8 ((Addr.mk b 0 none).add 1) (.int .u64 jY)/\∃qA:Int,Cell w8 ((Addr.mk b 0 none).add 2) (.int .u16 qA)/\∃oP:Int,Cell w8 ((Addr.mk b 0 none).add 3) (.int .u8 oP)/\
   fu (eY m2) oO jY qA oP w8 fun Ib Tt w9=>
    If ((0:Int) == 0) (If ((0:Int) == 0) (If (Tt == 0) (If (((Ib.len:Int)) == 2) (
     Ix Ib.a Ib.len 0 9 fun a=>∃vv:Int,Cell w9 a (.int .u32 vv)/\If (vv == 3) (
     Ix Ib.a Ib.len 1 9 fun TU=>∃wG:Int,Cell w9 TU (.int .u32 wG)/\K (wG == 5) w9) (K false w9)) (K false w9)) (K false w9)) (K false w9)) (K false w9):=by
 refine cR gb rfl hz (by simp[aJ]) fun w8 g8 x8 _=>⟨trivial,_,Cell.ah g8 rfl,_,Cell.ah g8 rfl,_,Cell.ah g8 rfl,_,Cell.ah g8 rfl,?_⟩
 have Cf:Ext (·=b) w7 w8:=x8;have od:Ext No w w8:=ub.trans Cf fun q hq h=>by omega
 refine FT (R7.ext Cf fun q hq=>by rw[hq];exact tb) tr SE hW (by rw[hW2];decide) fun s w9 sr x9=>?_
 subst hW2;have sl:s.len=2:=sr.len;refine If.beq (fun _=>If.beq (fun _=>If.beq (fun _=>If.beq (fun _=>?_) fun h=>(h (by omega)).elim) fun h=>(h rfl).elim) fun h=>(h rfl).elim) fun h=>(h rfl).elim
 refine abH sr (by decide) (by omega) fun b1 o1 v hi hv hc=>⟨_,hc 0 _ rfl,If.beq (fun _=>?_) fun h=>(h hv.ai).elim⟩
 refine abH sr (by decide) (by omega) fun b2 o2 v2 uJ hv2 LC=>⟨_,LC 0 _ rfl,?_⟩
 have e5:v2.ai=5:=hv2.ai;rw[e5];exact k w9 (od.no x9)
set_option maxHeartbeats 2000000 in
theorem kF{K:Bool->Pw}(k:∀w',Ext No w w'->K true w'):cr w K:=by
 apply AH;refine yd (by omega) fun T m w1 R1 hT x1=>sv fun v5 w2 sr5 x2=>?_
 have fJ:Ext No w w2:=x1.no x2
 have t5:FN 5:=⟨by decide,by decide⟩
 have t3:FN 3:=⟨by decide,by decide⟩
 refine th (r:= .z) (lev:=0) (W:=[]) (ps:=[]) (R1.no x2) (.inl ⟨rfl,rfl,rfl,rfl⟩) (by omega) (fun q=>by simp) (by simp) lJ.nil sr5 (su t5) (by decide) (fun w' h _=>(h (ss (by decide))).elim) fun r' mV dG T' m' M' w3 _ A=>?_
 have Iz:Ext No w w3:=fJ.trans A.ext fun q hq h=>h (hT q hq)
 have W1:lJ (K_ 5 (some (im 5)) []):=lJ.op lJ.nil fun x hx=>by cases hx;exact⟨rfl,ss (by decide),su t5⟩
 have A':RN w2 w3 T T' m m' _ M' 0 1 (FO (K_ 5 (some (im 5)) [])) [] dG r' mV:=A;refine aW rfl rfl (by simp[aJ]) fun b w5 g5 hb z5 x5=>?_
 have OB:=Iz.no x5;have R5:=A.mem.no x5;have xd:Ext No w5 (aa w5):=(Ext.refl _ _).drew;have Qn:(Value.iface 47 (.pointer (some ⟨m.bm,0,none⟩)))=eY m':=(jw A.bm).symm;have hs:Sub dG M':=A.DT.sub fun q=>by simp
 have hn:M'.aC.length<=900000:=by have:=A.DT.len;simp at this;omega
 have bw:w.heap.size<=b:=by have:=Iz.size;omega
 have b5:b < w5.heap.size:=by omega
 have step:∀{w6:Wd}{v3:aV}{L:Int->Int->Int->Int->Int->Pw},Ext No w5 w6->bL (w5.heap.size<=·) w6.heap v3 (im 3)->
   (∀(r2:Rf)(Gj:Nat) K8 T2 m2 M2 w7,RN w6 w7 T' T2 m' m2 M' M2 0 1 (FO [im 3,im 5]) dG K8 r2 Gj->Ext No w w7->T2 b=none->w7.heap[b]? = some (.cells [.int .u32 r'.p,.int .u64 r'.c,.int .u16 r'.g,.int .u8 mV].toArray 30 (0,0))->L r2.p r2.c r2.g Gj 0 w7)->
   fi (eY m') r'.p r'.c r'.g mV v3.ai v3.ay v3.mark v3.root.p v3.root.c v3.root.g v3.lev v3.au v3.held w6 L:=fun {w6 v3 L} x6 sr k'=>by
  refine th (R5.no x6) A.tree A.lv hs hn W1 sr (su t3) (by decide) (fun w' h _=>(h (ss (by decide))).elim) fun r2 Gj K8 T2 m2 M2 w7 _ A2=>?_
  have A2':RN w6 w7 T' T2 m' m2 M' M2 0 1 (FO (K_ 3 (some (im 3)) (K_ 5 (some (im 5)) []))) dG K8 r2 Gj:=A2;rw[Q5]at A2';have tb:T' b=none:=A.mem.mS (by omega);have y6:=x6.size
  exact k' r2 Gj K8 T2 m2 M2 w7 A2' ((OB.no x6).trans A2.ext fun q hq h=>h (by
   have h1:T' q=T q:=A.tg q (by have:=fJ.size;omega)
   rw[h1];exact hT q hq)) ((A2.tg b (by omega)).trans tb) (ag (ad g5 x6) A2.ext fun h=>h tb)
 have W2:lJ [im 3,im 5]:=by
  rw[<- Q5];exact lJ.op W1 fun x hx=>by cases hx;exact⟨rfl,ss (by decide),su t3⟩
 have fin:∀{r2:Rf}{Gj:Nat}{K8:List Rf}{T2:Nat->Option Nat}{m2:bJ}{M2:Mm}{w6 w7:Wd},RN w6 w7 T' T2 m' m2 M' M2 0 1 (FO [im 3,im 5]) dG K8 r2 Gj->eY m'=eY m2:=fun A2=>(jw A2.bm).symm
 rw[Qn];refine⟨fun _=>True,trivial,?_,?_⟩
 .refine⟨_,Cell.ah g5 rfl,_,Cell.ah g5 rfl,_,Cell.ah g5 rfl,_,Cell.ah g5 rfl,trivial,sv fun v3 w6 sr3 x6=>⟨trivial,step (xd.no x6) sr3 fun r2 Gj K8 T2 m2 M2 w7 A2 ub tb g7=>⟨trivial,?_⟩⟩⟩;rw[fin A2];exact Ei ub A2.mem A2.tree A2.lv W2 rfl bw tb g7 rfl k
 .refine sv fun v3 w6 sr3 x6=>⟨trivial,?_⟩
  have g6:=ad g5 (xd.no x6);refine⟨_,Cell.ah g6 rfl,_,Cell.ah g6 rfl,_,Cell.ah g6 rfl,_,Cell.ah g6 rfl,trivial,step (xd.no x6) sr3 fun r2 Gj K8 T2 m2 M2 w7 A2 ub tb g7=>⟨trivial,?_⟩⟩;rw[fin A2];exact Ei ub A2.mem A2.tree A2.lv W2 rfl bw tb g7 rfl k
end
end Go.Proofs.YtpjbalhhlaofmaaGreat
namespace Go.V
open Go.V.Pk Go.Proofs.YtpjbalhhlaofmaaGreat
structure TD(x:aO):Prop where
 gC:vC x
 mark:x.mark.length<=140737488355328
 held:x.held.length<=140737488355328
 wr:∀h∈x.held,h.wr.length<=140737488351232
def nE(t:Int)(l:List Int)(e:Int)(x:aO):Prop:=(e=5/\x=AS/\∀y,¬ Good t l y)∨(e=0/\Good t l x)
theorem nE.uniq{t:Int}{l:List Int}{e e':Int}{x x':aO}(h:nE t l e x)(h':nE t l e' x'):e=e'/\x=x':=by
 rcases h with⟨h1,h2,h3⟩ | ⟨h1,h2⟩ <;> rcases h' with⟨k1,k2,k3⟩ | ⟨k1,k2⟩
 .exact⟨h1.trans k1.symm,h2.trans k2.symm⟩
 .exact(h3 _ k2).elim
 .exact(k3 _ h2).elim
 .exact⟨h1.trans k1.symm,Good.uniq h2 k2⟩
theorem nE.gC{t:Int}{l:List Int}{e:Int}{x:aO}(h:nE t l e x):B8 x.mark/\(∀y∈x.held,j_ y)/\x.held.length<=2:=by
 rcases h with⟨_,rfl,_⟩ | ⟨_,h⟩
 .exact⟨B8.nil,fun x (hx:x∈([]:List bX))=>(nomatch hx),Nat.zero_le _⟩
 .exact⟨h.gC.mark,h.gC.held,h.le.2.2.2.2.2.2.1⟩
end Go.V
namespace Go.Proofs.YtpjbalhhlaofmaaGreat
open Go.V Go.V.Pk
section
variable {w:Wd} {Q Q':Nat->Prop}
theorem CS{va vb:aV}{a c:aO}{K:Bool->Pw}(ra:bL Q w.heap va a)(rb:bL Q' w.heap vb c)(ga:TD a)(gc:TD c)(k:∀w',Ext No w w'->K true w'):jS va.ai va.ay va.mark va.root.p va.root.c va.root.g va.lev va.au va.held vb.ai vb.ay vb.mark vb.root.p vb.root.c vb.root.g vb.lev vb.au vb.held w K:=by
 apply wU;refine af.mk fun b w1 n1=>af.mk fun b1 w2 n2=>?_
 have g2:w2.heap[b]? = some (.cells va.cells.toArray 33 (0,0)):=ad n1.get n2.ext;have Cd:w2.heap[b1]? = some (.cells vb.cells.toArray 33 (0,0)):=n2.get;have jA:=n1.ext.no n2.ext;have e1:=n1.at_;have z1:=n1.size;have e2:=n2.at_;have z2:=n2.size;refine⟨fun w'=>Ext No w2 w'/\SmS a/\SmS c,?_,?_⟩
 .refine⟨va.ai,Cell.ah g2 rfl,va.ay,Cell.ah g2 rfl,va.mark,Cell.ah g2 rfl,va.root.p,Cell.ah g2 rfl,va.root.c,Cell.ah g2 rfl,va.root.g,Cell.ah g2 rfl,va.lev,Cell.ah g2 rfl,va.au,Cell.ah g2 rfl,va.held,Cell.ah g2 rfl,uy (ra.no jA) ga.mark ga.held ga.wr fun t w3 h3 x3=>If.mk (fun _=>kF fun w4 x4=>k w4 ((jA.no x3).no x4)) fun hf=>?_⟩;have fN:=ad Cd x3;exact⟨vb.ai,Cell.ah fN rfl,vb.ay,Cell.ah fN rfl,vb.mark,Cell.ah fN rfl,vb.root.p,Cell.ah fN rfl,vb.root.c,Cell.ah fN rfl,vb.root.g,Cell.ah fN rfl,vb.lev,Cell.ah fN rfl,vb.au,Cell.ah fN rfl,vb.held,Cell.ah fN rfl,uy (rb.no (jA.no x3)) gc.mark gc.held gc.wr fun t5 w5 h5 x5=>If.mk (fun _=>kF fun w6 x6=>k w6 (((jA.no x3).no x5).no x6)) fun hf5=>⟨x3.no x5,h3 hf,h5 hf5⟩⟩
 rintro _ w7 ⟨K1,sa,sc⟩;have g7:=ad g2 K1;have fc:=ad Cd K1;have ub:=jA.no K1;have Ns:Ext No w7 (aa w7):=(Ext.refl _ _).drew;have Yh:=(ra.no ub).no Ns;have rb7:=(rb.no ub).no Ns;have la:a.held.length<=1000000000000:=by have:=sa.2.1;omega
 have lc:c.held.length<=1000000000000:=by have:=sc.2.1;omega
 refine⟨Ext No w7,Ns,va.ai,eo g7 rfl,va.ay,aq g7 rfl,va.mark,aq g7 rfl,va.root.p,aq g7 rfl,va.root.c,aq g7 rfl,va.root.g,aq g7 rfl,va.lev,aq g7 rfl,va.au,aq g7 rfl,va.held,aq g7 rfl,vb.ai,eo fc rfl,vb.ay,aq fc rfl,vb.mark,aq fc rfl,vb.root.p,aq fc rfl,vb.root.c,aq fc rfl,vb.root.g,aq fc rfl,vb.lev,aq fc rfl,vb.au,aq fc rfl,vb.held,aq fc rfl,va.ai,eo g7 rfl,va.ay,aq g7 rfl,va.mark,aq g7 rfl,va.root.p,aq g7 rfl,va.root.c,aq g7 rfl,va.root.g,aq g7 rfl,va.lev,aq g7 rfl,va.au,aq g7 rfl,va.held,aq g7 rfl,vb.ai,eo fc rfl,vb.ay,aq fc rfl,vb.mark,aq fc rfl,vb.root.p,aq fc rfl,vb.root.c,aq fc rfl,vb.root.g,aq fc rfl,vb.lev,aq fc rfl,vb.au,aq fc rfl,vb.held,aq fc rfl,?_⟩
 refine sd Yh rb7 ga.gC.mark gc.gC.mark ga.gC.held gc.gC.held la fun t8 w8 h8 x8=>⟨Ns.no x8,?_⟩
 refine eG (Yh.no x8) (rb7.no x8) ga.gC.mark gc.gC.mark ga.gC.held gc.gC.held la fun t9 w9 h9 x9=>⟨(Ns.no x8).no x9,?_⟩
 have e89:t8=t9:=Bool.eq_iff_iff.2 (h8.trans h9.symm);have CG:=(Ns.no x8).no x9;rw[e89,beq_self_eq_true];refine If.yes ⟨vb.ai,eo fc rfl,vb.ay,aq fc rfl,vb.mark,aq fc rfl,vb.root.p,aq fc rfl,vb.root.c,aq fc rfl,vb.root.g,aq fc rfl,vb.lev,aq fc rfl,vb.au,aq fc rfl,vb.held,aq fc rfl,va.ai,eo g7 rfl,va.ay,aq g7 rfl,va.mark,aq g7 rfl,va.root.p,aq g7 rfl,va.root.c,aq g7 rfl,va.root.g,aq g7 rfl,va.lev,aq g7 rfl,va.au,aq g7 rfl,va.held,aq g7 rfl,va.ai,eo g7 rfl,va.ay,aq g7 rfl,va.mark,aq g7 rfl,va.root.p,aq g7 rfl,va.root.c,aq g7 rfl,va.root.g,aq g7 rfl,va.lev,aq g7 rfl,va.au,aq g7 rfl,va.held,aq g7 rfl,vb.ai,eo fc rfl,vb.ay,aq fc rfl,vb.mark,aq fc rfl,vb.root.p,aq fc rfl,vb.root.c,aq fc rfl,vb.root.g,aq fc rfl,vb.lev,aq fc rfl,vb.au,aq fc rfl,vb.held,aq fc rfl,?_⟩;have UY:=x8.no x9
 refine sd (rb7.no UY) (Yh.no UY) gc.gC.mark ga.gC.mark gc.gC.held ga.gC.held lc fun t10 dV xW dW=>⟨CG.no dW,?_⟩
 refine eG (Yh.no (UY.no dW)) (rb7.no (UY.no dW)) ga.gC.mark gc.gC.mark ga.gC.held gc.gC.held la fun t11 di CH fH=>⟨(CG.no dW).no fH,?_⟩
 have abI:t10=t11:=Bool.eq_iff_iff.2 ((xW.trans eq_comm).trans CH.symm);have Iv:=(CG.no dW).no fH;have abJ:=(UY.no dW).no fH;rw[abI,beq_self_eq_true];refine If.yes ⟨va.ai,eo g7 rfl,va.ay,aq g7 rfl,va.mark,aq g7 rfl,va.root.p,aq g7 rfl,va.root.c,aq g7 rfl,va.root.g,aq g7 rfl,va.lev,aq g7 rfl,va.au,aq g7 rfl,va.held,aq g7 rfl,va.ai,eo g7 rfl,va.ay,aq g7 rfl,va.mark,aq g7 rfl,va.root.p,aq g7 rfl,va.root.c,aq g7 rfl,va.root.g,aq g7 rfl,va.lev,aq g7 rfl,va.au,aq g7 rfl,va.held,aq g7 rfl,?_⟩
 refine DQ (Yh.no abJ) sa fun u eN ru _ fJ=>⟨Iv.no fJ,?_⟩
 refine sd ((Yh.no abJ).no fJ) ru ga.gC.mark ga.gC.mark ga.gC.held ga.gC.held la fun t13 cO Rx ew=>⟨(Iv.no fJ).no ew,?_⟩
 have SR:t13=true:=Rx.2 rfl;rw[SR];exact If.yes (kF fun cM fI=>⟨((Iv.no fJ).no ew).no fI,k cM (((ub.no Iv).no fJ).no (ew.no fI))⟩)
theorem Q6{t:Int}{b:Sl}{l:List Int}{K:PO}(ht:FN t)(hb:b_ w.heap b l)(h8:B8 l)(hl:l.length<=1000000000)(k:∀e v x w',nE t l e x->bL (w.heap.size<=·) w'.heap v x->Ext No w w'->K.at v e w'):fW t b w K:=
 si ht hb h8 hl (fun w' h x=>k 5 aR AS w' (.inl ⟨rfl,rfl,h⟩) (bL.zero _ _) x) fun v x w' h s y=>k 0 v x w' (.inr ⟨rfl,h⟩) s y
theorem yQ{t:Int}{b:Sl}{l:List Int}{K:PO}(ht:FN t)(hb:b_ w.heap b l)(h8:B8 l)(hl:l.length<=1000000000)(k:∀e v x w',nE t l e x->bL (w.heap.size<=·) w'.heap v x->Ext No w w'->K.at v e w'):iY t b w K:=
 FD ht hb h8 hl (fun w' h x=>k 5 aR AS w' (.inl ⟨rfl,rfl,h⟩) (bL.zero _ _) x) fun v x w' h s y=>k 0 v x w' (.inr ⟨rfl,h⟩) s y
theorem Nt{h:Array Obj}{base:Nat}{s vs:Sl}{l:List Int}{c z:Int}{K:Sl->Prop}(o:aK h base s (l++[c]))(ha:vs.a=s.a)(hc:vs.cap=s.cap)(hz:z=(l.length:Int)+1)(k:∀s',s'.len=l.length+1->b_ h s' (l++[c])->K s'):Cut vs 0 z (((vs.cap:Nat):Int)) 1 K:=by
 have hl:=aK.len o;have hcp:=o.rd.cap;simp only[List.length_append,List.length_singleton]at hl;refine Cut.mk (Int.le_refl _) (by omega) (by omega) (Int.le_refl _) ?_
 have e1:iQ vs.a vs.cap 0 1=s.a:=by
  rw[ha,hc];rcases o.is with⟨_,h2⟩ | ⟨b,rest,ha,_⟩
  .simp at h2
  .unfold iQ;split
   .rfl
   .rw[ha];simp[aw]
 rw[show((vs.cap:Nat):Int).toNat=vs.cap from rfl,show Int.toNat 0=0 from rfl,e1,show(z - 0).toNat=s.len by omega,show(((vs.cap:Nat):Int) - 0).toNat=s.cap by omega];exact k ⟨s.a,s.len,s.cap⟩ hl o.rd
theorem Nu{h:Array Obj}{base:Nat}{s:Sl}{l:List Int}{c z:Int}{K:Sl->Prop}(o:aK h base s (l++[c]))(hz:z=l.length)(k:∀s',s'.a=s.a->s'.cap=s.cap->b_ h s' l->K s'):Cut s 0 z (((s.cap:Nat):Int)) 1 K:=by
 have hl:=aK.len o;have hcp:=o.rd.cap;simp only[List.length_append,List.length_singleton]at hl;refine Cut.mk (Int.le_refl _) (by omega) (by omega) (Int.le_refl _) ?_
 have e1:iQ s.a s.cap 0 1=s.a:=by
  rcases o.is with⟨_,h2⟩ | ⟨b,rest,ha,_⟩
  .simp at h2
  .unfold iQ;split
   .rfl
   .rw[ha];simp[aw]
 have r:=Rd.cut o.rd (lo:=0) (hi:=l.length) (mx:=s.cap) (by omega) (by omega) (by omega);rw[e1]at r;rw[show((s.cap:Nat):Int).toNat=s.cap from rfl,show Int.toNat 0=0 from rfl,e1,show(z - 0).toNat=l.length by omega,show(((s.cap:Nat):Int) - 0).toNat=s.cap by omega];refine k ⟨s.a,l.length,s.cap⟩ rfl rfl ?_;have e:((((l++[c]).map (Value.int .u8)).drop (0 * 1)).take ((l.length - 0) * 1))=l.map (Value.int .u8):=by simp
 rw[e]at r;simpa using r
theorem BV{t:Int}{b:Sl}{l:List Int}{K:Bool->Pw}(ht:FN t)(hb:b_ w.heap b l)(h8:B8 l)(k:∀w',Ext No w w'->K true w'):iW t b w K:=by
 apply vo;have bl:=b_.len hb;refine If.dec (fun _=>kF k) fun hl=>af.mk fun b1 w2 n2=>BB n2 (hb.no n2.ext) (by omega) fun s w3 o3 x3=>af.mk fun b2 w4 n4=>?_
 have fg:=x3.no n4.ext;have y3:=x3.size;have s3:=aK.len o3;refine Wa (x:=⟨some ⟨b2,0,none⟩,1,1⟩) (B:=[77]) (o3.no n4.ext) (by have:=fg.size;omega) (bf.new (sz:=1) (n:=1) n4 rfl (by simp[aJ])).rd (by omega) (by simp) fun s1 w5 o5 x5=>?_
 have y4:=n4.ext.size;have xY:Ext No w w5:=fg.trans x5 fun q hq h=>by have:=(o3.lt h).1;omega
 refine Nu o5 (by omega) fun s2 ha hc r5=>?_
 refine Q6 ht r5 h8 (by omega) fun e v x w6 gx sx x6=>aW (vs:=v.cells) rfl rfl v.one fun b3 w8 g8 vB z8 x8=>?_
 have uk:=x6.no x8;have od:=xY.no uk;refine yQ ht (hb.no od) h8 (by omega) fun e2 v2 x2 w9 gx2 sx2 x9=>aW (vs:=v2.cells) rfl rfl v2.one fun b4 di oS Hm ND fH=>?_
 obtain⟨rfl,rfl⟩:=gx.uniq gx2;obtain⟨q1,q2,q3⟩:=gx.gC;have Nr:=x9.no fH;have FV:=ad g8 Nr;rw[beq_self_eq_true];refine If.yes ⟨v.ai,Cell.ah FV rfl,v.ay,Cell.ah FV rfl,v.mark,Cell.ah FV rfl,v.root.p,Cell.ah FV rfl,v.root.c,Cell.ah FV rfl,v.root.g,Cell.ah FV rfl,v.lev,Cell.ah FV rfl,v.au,Cell.ah FV rfl,v.held,Cell.ah FV rfl,v2.ai,Cell.ah oS rfl,v2.ay,Cell.ah oS rfl,v2.mark,Cell.ah oS rfl,v2.root.p,Cell.ah oS rfl,v2.root.c,Cell.ah oS rfl,v2.root.g,Cell.ah oS rfl,v2.lev,Cell.ah oS rfl,v2.au,Cell.ah oS rfl,v2.held,Cell.ah oS rfl,eG ((sx.no x8).no Nr) (sx2.no fH) q1 q1 q2 q2 (by omega) fun t12 eN PJ fJ=>?_⟩;rw[PJ.2 rfl];have Xo:=(uk.no Nr).no fJ;have vM:=xY.no Xo;refine If.yes (iR.mk (r5.no Xo) (fun _ _ _ h=>Cell.mk h) (iR.mk (hb.no vM) (fun _ _ _ h=>Cell.mk h) ?_));rw[beq_self_eq_true];have e2:s2.a=s1.a:=ha;refine If.yes (Ar.i64 (by omega) (Nt (o5.no Xo) ha hc (by omega) fun s3 l3 r3=>Ix.int r3 (by omega) (by omega) fun _ _ _ bS=>⟨_,bS,?_⟩))
 have eg:(l++[77]).getD ((b.len:Nat):Int).toNat 0=77:=by
  rw[Int.toNat_natCast,bl];simp[List.getD]
 rw[eg];exact If.yes (kF fun cO ew=>k cO (vM.no ew))
end
end Go.Proofs.YtpjbalhhlaofmaaGreat
namespace Go.Proofs.YtpjbalhhlaofmaaGreat
open Go.V Go.V.Pk
section
variable {w:Wd} {Q:Nat->Prop}
theorem Nv{v:aV}{x:aO}{K:Sl->Int->Pw}(r:bL Q w.heap v x)(rg:vC x)(hl:x.held.length<=1000000000000)
  (k:∀e t l w',(¬ pM x/\e=2/\l=[])∨(pM x/\e=0/\l=eH x)->aK w'.heap w.heap.size t l->Ext No w w'->K t e w'):de v.ai v.ay v.mark v.root.p v.root.c v.root.g v.lev v.au v.held w K:=
 ux r rg hl (fun w' h x=>k 2 _ [] w' (.inl ⟨h,rfl,rfl⟩) (bf.nil _ _ _ _) x) fun t w' h o x=>k 0 t _ w' (.inr ⟨h,rfl,rfl⟩) o x
set_option maxHeartbeats 2000000 in
theorem BW{v:aV}{x:aO}{K:Bool->Pw}(r0:bL Q w.heap v x)(gx:TD x)(k:∀w',Ext No w w'->K true w'):iX v.ai v.ay v.mark v.root.p v.root.c v.root.g v.lev v.au v.held w K:=by
 have r:=r0.lt;obtain⟨rg,bm,bh,bw⟩:=gx;apply tY;refine af.mk fun b w1 n1=>?_
 have g1:w1.heap[b]? = some (.cells v.cells.toArray 33 (0,0)):=n1.get;have e1:=n1.at_;have z1:=n1.size;refine⟨v.ai,Cell.ah g1 rfl,v.ay,Cell.ah g1 rfl,v.mark,Cell.ah g1 rfl,v.root.p,Cell.ah g1 rfl,v.root.c,Cell.ah g1 rfl,v.root.g,Cell.ah g1 rfl,v.lev,Cell.ah g1 rfl,v.au,Cell.ah g1 rfl,v.held,Cell.ah g1 rfl,uy (r.no n1.ext) bm bh bw fun t2 w2 h2 x2=>If.mk (fun _=>kF fun w3 x3=>k w3 ((n1.ext.no x2).no x3)) fun hf=>?_⟩;have sm:=h2 hf;have hl:x.held.length<=1000000000000:=by have:=sm.2.1;omega
 have jA:=n1.ext.no x2;have g2:=ad g1 x2;refine⟨v.ai,Cell.ah g2 rfl,v.ay,Cell.ah g2 rfl,v.mark,Cell.ah g2 rfl,v.root.p,Cell.ah g2 rfl,v.root.c,Cell.ah g2 rfl,v.root.g,Cell.ah g2 rfl,v.lev,Cell.ah g2 rfl,v.au,Cell.ah g2 rfl,v.held,Cell.ah g2 rfl,DQ (r.no jA) sm fun u w4 ru _ x4=>aW (vs:=u.cells) rfl rfl u.one fun b1 w6 g6 jk z6 x6=>?_⟩;have sO:=x4.no x6;have AP:=jA.no sO;have ru6:=ru.no x6;have Uh:=ad g2 sO;have la:x.held.length<=1000000000000:=hl;refine⟨u.ai,Cell.ah g6 rfl,u.ay,Cell.ah g6 rfl,u.mark,Cell.ah g6 rfl,u.root.p,Cell.ah g6 rfl,u.root.c,Cell.ah g6 rfl,u.root.g,Cell.ah g6 rfl,u.lev,Cell.ah g6 rfl,u.au,Cell.ah g6 rfl,u.held,Cell.ah g6 rfl,Nv ru6 rg hl fun e tb l w7 br o7 x7=>⟨fun w'=>Ext No w7 w',?_,?_⟩⟩
 .have fc:=ad g6 x7;have g7:=ad Uh x7;have Ns:Ext No w7 (aa w7):=(Ext.refl _ _).drew;have ru7:=(ru6.no x7).no Ns;have r7:=((r.no AP).no x7).no Ns;refine⟨Ext No w7,Ns,u.ai,eo fc rfl,u.ay,aq fc rfl,u.mark,aq fc rfl,u.root.p,aq fc rfl,u.root.c,aq fc rfl,u.root.g,aq fc rfl,u.lev,aq fc rfl,u.au,aq fc rfl,u.held,aq fc rfl,v.ai,eo g7 rfl,v.ay,aq g7 rfl,v.mark,aq g7 rfl,v.root.p,aq g7 rfl,v.root.c,aq g7 rfl,v.root.g,aq g7 rfl,v.lev,aq g7 rfl,v.au,aq g7 rfl,v.held,aq g7 rfl,Hq ru7 rg.held hl fun t8 w8 h8 x8=>⟨Ns.no x8,rE (r7.no x8) rg.held hl fun t9 w9 h9 x9=>⟨(Ns.no x8).no x9,?_⟩⟩⟩;rw[Bool.eq_iff_iff.2 (h8.trans h9.symm),beq_self_eq_true];have CG:=(Ns.no x8).no x9;have UY:=x8.no x9;refine If.not (If.yes ⟨u.ai,eo fc rfl,u.ay,aq fc rfl,u.mark,aq fc rfl,u.root.p,aq fc rfl,u.root.c,aq fc rfl,u.root.g,aq fc rfl,u.lev,aq fc rfl,u.au,aq fc rfl,u.held,aq fc rfl,v.ai,eo g7 rfl,v.ay,aq g7 rfl,v.mark,aq g7 rfl,v.root.p,aq g7 rfl,v.root.c,aq g7 rfl,v.root.g,aq g7 rfl,v.lev,aq g7 rfl,v.au,aq g7 rfl,v.held,aq g7 rfl,eG (ru7.no UY) (r7.no UY) rg.mark rg.mark rg.held rg.held hl fun t10 dV xW dW=>⟨CG.no dW,?_⟩⟩);rw[xW.2 rfl];exact If.not (If.yes (CG.no dW))
 rintro _ di Iv;have abK:=x7.no Iv;have sR:=AP.no abK;have oS:=ad Uh abK;refine⟨v.ai,Cell.ah oS rfl,v.ay,Cell.ah oS rfl,v.mark,Cell.ah oS rfl,v.root.p,Cell.ah oS rfl,v.root.c,Cell.ah oS rfl,v.root.g,Cell.ah oS rfl,v.lev,Cell.ah oS rfl,v.au,Cell.ah oS rfl,v.held,Cell.ah oS rfl,rE (r.no sR) rg.held hl fun t12 eN PJ fJ=>?_⟩;have vM:=sR.no fJ;rcases br with⟨hm,rfl,rfl⟩ | ⟨hm,rfl,rfl⟩
 .have:t12=false:=by
   cases t12 with
   | false=>rfl
   | true=>exact(hm (PJ.1 rfl)).elim
  rw[this];refine If.not (If.no (If.beq (fun _=>If.beq (fun _=>kF fun cO ew=>k cO (vM.no ew)) fun h=>(h ?_).elim) fun h=>(h rfl).elim));have:=aK.len o7;simp at this;omega
 rw[PJ.2 hm];refine If.not (If.yes ?_);have Cd:=ad oS fJ;have abL:=Iv.no fJ;have Jq:=o7.no abL;have fl:=xz hm rg;have f8:=vX rg;refine⟨_,Cell.ah Cd rfl,?_⟩;rw[r.ai];refine si rg.ai Jq.rd f8 (by omega) (fun w' wv _=>(wv x ⟨hm,rg,rfl,rfl⟩).elim) fun vy y cM gy ry fI=>?_
 have:=Good.uniq gy ⟨hm,rg,rfl,rfl⟩;subst this;refine aW (vs:=vy.cells) rfl rfl vy.one fun b2 kE so jN VC qC=>?_
 have Q7:=fI.no qC;have aet:=abL.no Q7;have sT:=vM.no Q7;have Ge:=o7.no aet;have jI:=ad Cd Q7;have abM:=ry.no qC;refine⟨fun w'=>Ext No kE w',?_,?_⟩
 .have UZ:Ext No kE (aa kE):=(Ext.refl _ _).drew;have XY:=(r.no sT).no UZ;have ry6:=abM.no UZ;refine⟨Ext No kE,UZ,If.bne (fun h=>(h rfl).elim) fun _=>If.bne (fun h=>(h rfl).elim) fun _=>If.dec (fun h=>?_) fun _=>?_⟩
  .have:=aK.len o7;omega
  refine iR.mk (w:=kE) Ge.rd (fun _ _ _ h=>ae.cell (Cell.mk h)) ⟨v.ai,eo jI rfl,v.ay,aq jI rfl,v.mark,aq jI rfl,v.root.p,aq jI rfl,v.root.c,aq jI rfl,v.root.g,aq jI rfl,v.lev,aq jI rfl,v.au,aq jI rfl,v.held,aq jI rfl,vW XY rg hm fun t17 fR KS l_=>⟨UZ.no l_,iR.mk KS.rd (fun _ _ _ h=>Cell.mk h) ⟨UZ.no l_,?_⟩⟩⟩;rw[beq_self_eq_true];refine If.not (If.yes ⟨v.ai,eo jI rfl,v.ay,aq jI rfl,v.mark,aq jI rfl,v.root.p,aq jI rfl,v.root.c,aq jI rfl,v.root.g,aq jI rfl,v.lev,aq jI rfl,v.au,aq jI rfl,v.held,aq jI rfl,vy.ai,eo so rfl,vy.ay,aq so rfl,vy.mark,aq so rfl,vy.root.p,aq so rfl,vy.root.c,aq so rfl,vy.root.g,aq so rfl,vy.lev,aq so rfl,vy.au,aq so rfl,vy.held,aq so rfl,eG (XY.no l_) (ry6.no l_) rg.mark rg.mark rg.held rg.held hl fun t18 vG h18 tf=>⟨(UZ.no l_).no tf,?_⟩⟩);rw[h18.2 rfl];refine If.not (If.yes ⟨v.ai,eo jI rfl,v.ay,aq jI rfl,v.mark,aq jI rfl,v.root.p,aq jI rfl,v.root.c,aq jI rfl,v.root.g,aq jI rfl,v.lev,aq jI rfl,v.au,aq jI rfl,v.held,aq jI rfl,vy.ai,eo so rfl,vy.ay,aq so rfl,vy.mark,aq so rfl,vy.root.p,aq so rfl,vy.root.c,aq so rfl,vy.root.g,aq so rfl,vy.lev,aq so rfl,vy.au,aq so rfl,vy.held,aq so rfl,sd ((XY.no l_).no tf) ((ry6.no l_).no tf) rg.mark rg.mark rg.held rg.held hl fun t19 uK h19 vQ=>⟨((UZ.no l_).no tf).no vQ,?_⟩⟩);rw[h19.2 rfl];exact If.not (If.yes (((UZ.no l_).no tf).no vQ))
 rintro _ oc rL;have afE:=(x2.no sO).size;have y7:=Iv.size;have y12:=fJ.size;have y06:=AP.size;have y67:=x7.size;have tlt:∀{q},tb.aj=some q->w6.heap.size<=q/\q < w7.heap.size:=fun h=>o7.lt h
 have zb1:b2=cM.heap.size:=jN;have y14:=fI.size
 refine⟨fun m i w'=>∃(j:Nat) (l:List Int),i=j/\j<=(eH y).length/\m=(eH y).length - j/\l.length=(eH y).length/\aK w'.heap w6.heap.size tb l/\Ext (fun q=>tb.aj=some q) oc w',
  ⟨_,0,eH y,rfl,Nat.zero_le _,rfl,rfl,Ge.no rL,Ext.refl _ _⟩,?_⟩
 rintro _ m0 _ uL ⟨j,l,rfl,hj,rfl,hlen,Un,NJ⟩;have tl:=aK.len Un;refine If.dec (fun h=>?_) fun h=>?_
 .refine Ix.int Un.rd (by omega) h fun _ _ _ hc=>⟨_,hc,Ar.Ly ?_⟩
  refine aQ.own Un (by omega) h rfl fun pf Z4 Gd _=>Ar.i64 (by omega) ⟨_,by omega,j+1,l.set ((j:Nat):Int).toNat ((l.getD ((j:Nat):Int).toNat 0+1) % 256),by omega,by omega,rfl,by rw[List.length_set];exact hlen,?_,NJ.trans Gd fun _ _ h=>h⟩
  rw[<- List.map_set]at Z4;exact Z4
 .have nb:∀{q},q < w6.heap.size->¬ tb.aj=some q:=fun hq h=>by have:=(tlt h).1;omega
  have PC:=ag (ad jI rL) NJ (nb (by omega));have FW:=ag (ad so rL) NJ fun(h:tb.aj=some b2)=>absurd (tlt h).2 (by omega)
  refine⟨v.ai,Cell.ah PC rfl,v.ay,Cell.ah PC rfl,v.mark,Cell.ah PC rfl,v.root.p,Cell.ah PC rfl,v.root.c,Cell.ah PC rfl,v.root.g,Cell.ah PC rfl,v.lev,Cell.ah PC rfl,v.au,Cell.ah PC rfl,v.held,Cell.ah PC rfl,vy.ai,Cell.ah FW rfl,vy.ay,Cell.ah FW rfl,vy.mark,Cell.ah FW rfl,vy.root.p,Cell.ah FW rfl,vy.root.c,Cell.ah FW rfl,vy.root.g,Cell.ah FW rfl,vy.lev,Cell.ah FW rfl,vy.au,Cell.ah FW rfl,vy.held,Cell.ah FW rfl,?_⟩;have aeu:=((r.no sT).no rL).ext NJ fun q hq=>nb (by have:=hq.2;omega)
  have aev:=(abM.no rL).ext NJ fun q (hq:eN.heap.size<=q) (h:tb.aj=some q)=>by have:=(tlt h).2;omega
  refine eG aeu aev rg.mark rg.mark rg.held rg.held hl fun t23 rJ NK lH=>?_
  rw[NK.2 rfl];refine If.yes (kF fun te qm=>k te ?_);exact((((sT.no rL).trans NJ fun q hq=>nb (by omega)).no lH).no qm)
end
end Go.Proofs.YtpjbalhhlaofmaaGreat
namespace Go.V
theorem dS.kp{f f':bR}{t:Int}{r:Rf}{lev:Int}{kvs:List KV}{ps:List Rf}(h:dS f t r lev kvs ps)(k:iS f f' ps):dS f' t r lev kvs ps:=by
 rcases h with h | ⟨a,b,c⟩
 .exact .inl h
 .exact .inr ⟨a,b,c.cv k⟩
theorem wg.other{M M':Mm}{n:Nat}{ds ns ps:List Rf}(c:wg M M' n ds ns)(hs:Sub ps M)(hd:∀q∈ps,q ∉ ds):iS M.f M'.f ps:=fun r hr p hp he=>by
 obtain⟨p',h⟩:=c.ko r.p p hp (by rw[he];exact hs.mem hr) (by rw[he];exact hd r hr);exact⟨p',h⟩
end Go.V
namespace Go.Proofs.YtpjbalhhlaofmaaGreat
open Go.V Go.V.Pk
section
variable {w:Wd} {T:Nat->Option Nat} {m:bJ} {M:Mm}
theorem fd{t:Int}{k:Nat}(hk:k<=24):Int.fdiv t (2 ^ min (Int.toNat k) (IntKind.bits .u32))=t / 2 ^ k:=by
 have e:min (Int.toNat (k:Int)) (IntKind.bits .u32)=k:=by
  have:IntKind.bits .u32=32:=rfl;omega
 rw[e,Int.fdiv_eq_ediv_of_nonneg _ (Int.le_of_lt (Int.pow_pos (by decide)))]
set_option maxHeartbeats 4000000 in
theorem CT{t:Int}{value:Sl}{l:List Int}{K:Bool->Pw}(ht:FN t)(hv:b_ w.heap value l)(h8:B8 l)(k:∀w',Ext No w w'->K true w'):jR t value w K:=by
 apply wR;have vl:=b_.len hv;have ht0:=ht;refine If.dec (fun _=>kF k) fun hl=>It (r:= .z) (lev:=0) ht fun w2 x2=>?_
 refine aW (vs:=aR.cells) rfl rfl aR.one fun b w4 _ _ _ x4=>sv fun v5 w5 _ x5=>FU fun w6 x6=>?_
 refine aW rfl rfl (by simp[aJ]) fun b1 w8 _ _ _ x8=>zO ht fun w9 x9=>aW rfl rfl (by simp[aJ]) fun b2 di _ _ _ fH=>Iu (r:= .z) (lev:=0) fun eN fJ=>?_
 have vM:=((((((x2.no x4).no x5).no x6).no x8).no x9).no fH).no fJ;refine⟨fun w'=>Ext No w w',If.bne (fun h=>(h rfl).elim) fun _=>If.bne (fun h=>(h rfl).elim) fun _=>If.bne (fun h=>(h rfl).elim) fun _=>If.bne (fun h=>(h rfl).elim) fun _=>vM,?_⟩;clear vM fJ fH x9 x8 x6 x5 x4 x2;rintro _ cO ew;refine yd (by omega) fun T m cM R14 hT fI=>?_
 have Mf:=ew.no fI;obtain⟨t0,t1⟩:=ht;have p24:(2:Int) ^ 24=16777216:=by decide
 have p16:(2:Int) ^ 16=65536:=by decide
 have p8:(2:Int) ^ 8=256:=by decide
 refine⟨by decide,Nm.as (e':=t / 256 / 256 / 256) (by rw[show(24:Int)=((24:Nat):Int) from rfl,fd (by omega),p24];omega) (Ar.Ly ⟨by decide,Nm.as (e':=t / 256 / 256) (by rw[show(16:Int)=((16:Nat):Int) from rfl,fd (by omega),p16];omega) (Ar.Ly ⟨by decide,Nm.as (e':=t / 256) (by rw[show(8:Int)=((8:Nat):Int) from rfl,fd (by omega),p8]) (Ar.Ly (Ar.Ly ?_))⟩)⟩)⟩;refine af.mk fun b3 dY DJ=>?_
 have rk:b_ dY.heap ⟨some ⟨b3,0,none⟩,4,4⟩ (kX t):=(bf.new (sz:=1) (n:=4) DJ rfl (by simp[aJ])).rd;have vB:=DJ.at_;have XI:=DJ.size;refine af.mk fun b4 kE KU=>?_
 have sup:∀{q},cM.heap.size<=q->T q=none:=fun hq=>R14.mS hq
 have sT:=(Mf.no DJ.ext).no KU.ext;have y13:=ew.size;have y14:=fI.size
 let op:jB:=⟨⟨some ⟨b3,0,none⟩,4,4⟩,value,false,kX t,l⟩
 have JV:Rd kE.heap ⟨some ⟨b4,0,none⟩,1,1⟩ 3 ([op].flatMap jB.cs):=(bf.new (sz:=3) (n:=1) KU rfl (by simp[aJ])).rd;have tn:∀q,q < cM.heap.size->q < cO.heap.size∨T q≠none∨T q=none:=fun q _=>by by_cases h:T q=none <;> simp[h]
 have vb:l≠[]->∀q,value.aj=some q->q < w.heap.size:=fun bA q hq=>Rd.lt hv (by simpa using bA) hq
 have opR:∀{w':Wd}{T':Nat->Option Nat},Ext No kE w'∨b_ w'.heap ⟨some ⟨b3,0,none⟩,4,4⟩ (kX t)/\b_ w'.heap value l/\kE.heap.size<=w'.heap.size->(∀q,q < kE.heap.size->T' q=T q)->∀y∈[op],Tw w'.heap T' y:=fun {w' T'} hx LJ y hy=>by
  rw[List.mem_singleton]at hy;subst hy
  have h1:b_ w'.heap ⟨some ⟨b3,0,none⟩,4,4⟩ (kX t)/\b_ w'.heap value l/\kE.heap.size<=w'.heap.size:=by
   rcases hx with h | h
   .exact⟨(rk.no KU.ext).no h,(hv.no sT).no h,h.size⟩
   .exact h
  have VC:=KU.size;have h3:=h1.2.2
  exact⟨h1.1,h1.2.1,jK _ _,h8,fun _ q hq=>by
    cases hq
    exact⟨(LJ b3 (by omega)).trans (sup (by omega)),show b3 < w'.heap.size by omega⟩,fun bA q hq=>by
    have:=vb bA q hq
    exact⟨(LJ q (by omega)).trans (hT q (by omega)),by omega⟩⟩
 have fit:∀y∈[op],y.fit:=fun y hy=>by
  rw[List.mem_singleton]at hy;subst hy;refine⟨⟨?_,?_⟩,?_,fun h=>by cases h⟩
  .show 1<=(be 4 _).length;rw[bu];omega
  .show(be 4 _).length<=32;rw[bu];omega
  .show l.length<=1024;omega
 have FJ:opsL [op] []=[(kX t,l)]:=by
  show jo (kX t) (some l) []=_;rw[vZ];rfl
 refine uF (r:= .z) (lev:=0) (kvs:=[]) (ps:=[]) (xs:=[op]) ((R14.no DJ.ext).no KU.ext) (.inl ⟨rfl,rfl,rfl,rfl⟩) (by omega) (fun q=>by simp) JV (opR (.inl (Ext.refl _ _)) fun _ _=>rfl) (by simp) (by simp) (fun w' hb _=>?_) fun r1 lv1 ps1 T1 m1 M1 fR _ A1=>?_
 .obtain⟨y,hy,hf⟩:=hb;exact(hf (fit y hy)).elim
 rw[FJ]at A1;have VC:=KU.size;have y16:=sT.size;have ME:Ext No w fR:=sT.trans A1.ext fun q hq h=>h (hT q (by omega))
 refine aW rfl rfl (by simp[aJ]) fun b5 uK g19 LK z19 vQ=>af.mk fun b6 oc n20=>?_
 have abN:=(ME.no vQ).no n20.ext;have Q8:=vQ.no n20.ext;have y17:=A1.ext.size;have y20:=Q8.size
 have aew:b_ fR.heap ⟨some ⟨b3,0,none⟩,4,4⟩ (kX t):=(rk.no KU.ext).ext A1.ext fun a q ha hq h=>by
  simp at ha;subst ha;subst hq;exact h (sup (show cM.heap.size<=b3 by omega))
 have Qn:(Value.iface 47 (.pointer (some ⟨m.bm,0,none⟩)))=eY m1:=(jw A1.bm).symm;rw[Qn];have Rp:M1.aC.length<=60:=by have:=A1.DT.len;simp at this;omega
 have abO:Rd oc.heap ⟨some ⟨b6,0,none⟩,1,1⟩ 3 ([op].flatMap jB.cs):=(bf.new (sz:=3) (n:=1) n20 rfl (by simp[aJ])).rd;refine uF (t:=9) (r:= .z) (lev:=0) (kvs:=[]) (ps:=[]) (xs:=[op]) (A1.mem.no Q8) (.inl ⟨rfl,rfl,rfl,rfl⟩) (by omega) (fun q=>by simp) abO (opR (.inr ⟨aew.no Q8,hv.no abN,by omega⟩) fun q hq=>A1.tg q hq) (by simp) (by omega) (fun w' hb _=>?_) fun r2 Gj K8 T2 m2 M2 uL _ A2=>?_
 .obtain⟨y,hy,hf⟩:=hb;exact(hf (fit y hy)).elim
 rw[FJ]at A2;have T1n:∀q,q < cO.heap.size->T1 q=none:=fun q hq=>(A1.tg q (by omega)).trans (hT q hq)
 have aex:Ext No w uL:=abN.trans A2.ext fun q hq h=>h (T1n q (by omega))
 have Fm:Sub ps1 M1:=A1.DT.sub fun q=>by simp
 have tr1:dS M2.f 0 r1 lv1 [(kX t,l)] ps1:=A1.tree.kp (A2.DT.other Fm fun q _ h=>by cases h);have abP:eY m1=eY m2:=(jw A2.bm).symm;rw[abP];have aey:T1 b5=none:=A1.mem.mS (by omega);have aez:=ag (ad g19 n20.ext) A2.ext fun h=>h aey
 have y21:=A2.ext.size;refine aW rfl rfl (by simp[aJ]) fun b7 rJ DH Y2 z23 lH=>?_
 have TE:=ad aez lH;have aeA:=aex.no lH;have R23:=A2.mem.no lH;have gk:bU [(kX t,l)] (kX t)=some l:=by simp[bU]
 refine⟨_,Cell.ah TE rfl,_,Cell.ah TE rfl,_,Cell.ah TE rfl,_,Cell.ah TE rfl,?_⟩
 -- S2 aeB there
 refine xE (G:=fun s e _ w'=>e=0/\b_ w'.heap s l) ht0 (fun {w1 ks K'} x1 rk k'=>?_) (fun s e w1 w2 w' h he _=>(he h.1).elim) fun s w1 w2 _ _ h=>⟨l,h.2,h8,by omega,?_⟩
 .refine pR (R23.no x1) tr1 (by have:=A1.lv;omega) rk (jK _ _) (fun w' h _=>?_) (fun w' _ _ h _=>?_) fun v s w' _ _ h o x=>?_
  .rw[bu]at h;omega
  .rw[gk]at h;cases h
  .rw[gk]at h;cases h;exact k' s 0 w' ⟨rfl,o.rd⟩ x
 suffices hh:∀e v x te,nE t l e x->bL (rJ.heap.size<=·) te.heap v x->Ext No rJ te->PO.at _ v e te from⟨fun w' h x'=>hh 5 aR AS w' (.inl ⟨rfl,rfl,h⟩) (bL.zero _ _) x',fun v x w' h sr x'=>hh 0 v x w' (.inr ⟨rfl,h⟩) sr x'⟩
 intro e v x te rr sr qm;refine aW (vs:=v.cells) rfl rfl v.one fun b8 Bc JN Ku z26 sO=>?_
 have Q9:=qm.no sO;have TF:=ad DH Q9;refine⟨_,Cell.ah TF rfl,_,Cell.ah TF rfl,_,Cell.ah TF rfl,_,Cell.ah TF rfl,?_⟩;have ZZ:=A2.tree;have bA:([(kX t,l)]:List KV)≠[]:=by simp
 have r2z:r2 ≠ .z/\bq M2.f 9 Gj r2 [(kX t,l)] K8:=by
  rcases ZZ with⟨_,_,h,_⟩ | ⟨h1,_,h3⟩
  .cases h
  .rw[Int.toNat_natCast]at h3;exact⟨h1,h3⟩
 refine xE (G:=fun s e _ _=>e=150) ht0 (fun {w1 ks K'} x1 rk k'=>CQ (R23.no (Q9.no x1)) r2z.1 r2z.2 (by decide) rk (by rw[bu];omega) fun w' x=>k' _ _ w' rfl x) (fun s e w1 w2 qB h _ K1=>?_) fun s w1 w2 _ _ h=>by cases h
 subst h;refine aW (vs:=aR.cells) rfl rfl aR.one fun b9 zy g29 Rt z29 x29=>?_
 have Q_:=K1.no x29;have Ra:=Q9.no Q_;have TG:=ad DH Ra;refine⟨_,Cell.ah TG rfl,_,Cell.ah TG rfl,_,Cell.ah TG rfl,_,Cell.ah TG rfl,?_⟩;refine yP (e:=150) (by decide) (fun x' k'=>TB ((R23.no Ra).no x') ZZ bA (by decide) k') fun vE V_=>?_
 have abQ:=(aeA.no Ra).no V_;refine yQ ht0 (hv.no abQ) h8 (by omega) fun e2 v2 x2 OJ rr2 sr2 SV=>aW (vs:=v2.cells) rfl rfl v2.one fun b10 Y7 TH Sn z33 RG=>?_
 obtain⟨rfl,rfl⟩:=rr.uniq rr2;obtain⟨q1,q2,q3⟩:=rr.gC;have abR:=((sO.no Q_).no V_).no (SV.no RG);have abS:=(Q_.no V_).no (SV.no RG);have wi:=ad JN abS;refine If.beq (fun _=>If.beq (fun _=>If.beq (fun _=>?_) fun h=>(h rfl).elim) fun h=>(h rfl).elim) fun h=>(h rfl).elim
 refine⟨v.ai,Cell.ah wi rfl,v.ay,Cell.ah wi rfl,v.mark,Cell.ah wi rfl,v.root.p,Cell.ah wi rfl,v.root.c,Cell.ah wi rfl,v.root.g,Cell.ah wi rfl,v.lev,Cell.ah wi rfl,v.au,Cell.ah wi rfl,v.held,Cell.ah wi rfl,v2.ai,Cell.ah TH rfl,v2.ay,Cell.ah TH rfl,v2.mark,Cell.ah TH rfl,v2.root.p,Cell.ah TH rfl,v2.root.c,Cell.ah TH rfl,v2.root.g,Cell.ah TH rfl,v2.lev,Cell.ah TH rfl,v2.au,Cell.ah TH rfl,v2.held,Cell.ah TH rfl,eG (sr.no abR) (sr2.no RG) q1 q1 q2 q2 (by omega) fun t34 rH h34 Cc=>?_⟩;rw[h34.2 rfl];exact If.yes (If.beq (fun _=>If.beq (fun _=>kF fun NB OB=>k NB (((abQ.no (SV.no RG)).no Cc).no OB)) fun h=>(h rfl).elim) fun h=>(h rfl).elim)
end
end Go.Proofs.YtpjbalhhlaofmaaGreat
namespace Go.V
open Go.V.Pk Go.Proofs.YtpjbalhhlaofmaaGreat
end Go.V
namespace Go.Proofs.YtpjbalhhlaofmaaGreat
open Go.V Go.V.Pk
section
variable {w:Wd} {Q:Nat->Prop}
end
end Go.Proofs.YtpjbalhhlaofmaaGreat
namespace Go.Proofs.YtpjbalhhlaofmaaGreat
open Go.V Go.V.Pk
section
variable {w:Wd} {Q Q' Q3:Nat->Prop} {T:Nat->Option Nat} {m:bJ} {M:Mm}
end
end Go.Proofs.YtpjbalhhlaofmaaGreat
namespace Go.V
open Go.V.Pk Go.Proofs.YtpjbalhhlaofmaaGreat
end Go.V
namespace Go.Proofs.YtpjbalhhlaofmaaGreat
open Go.V Go.V.Pk
section
variable {w:Wd} {Q:Nat->Prop}
end
end Go.Proofs.YtpjbalhhlaofmaaGreat
