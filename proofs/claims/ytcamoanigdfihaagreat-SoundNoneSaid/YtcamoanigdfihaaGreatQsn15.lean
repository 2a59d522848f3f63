/- Texts for LSoundNone,LSoundMade, part 15. -/
import Derived.Test.YtcamoanigdfihaaGreatQsn14
set_option maxRecDepth 100000
namespace Go.V
structure Lab where
 t:Int
 k:Int
 v:Int
 r:Rf
def Lab.cs(x:Lab):List Value:=[.int .u32 x.t, .int .u8 x.k, .int .u8 x.v, .int .u32 x.r.p, .int .u64 x.r.c, .int .u16 x.r.g]
theorem labCs_len(l:List Lab):∀ x∈l,(Lab.cs x).length=6:=fun _ _=>rfl
abbrev Lab.agg(x:Lab):Value := .agg ([.int .u32 x.t, .int .u8 x.k, .int .u8 x.v, .int .u32 x.r.p, .int .u64 x.r.c, .int .u16 x.r.g]).toArray
def GotL(bo base:Nat)(ls:List Lab)(w:World)(B:Nat->Prop):Prop :=
 ∃ (sl:Sl),w.heap[bo]? = some (.cells [.slice sl.a sl.len sl.cap].toArray 65 (0,0))/\Own w.heap base 106 6 sl (ls.flatMap Lab.cs)/\(bo < base/\base<=w.heap.size)/\(∀ q,B q ↔ q=bo∨sl.blk=some q)
theorem GotL.mono{bo base:Nat}{ls:List Lab}{w1 w2:World}{B S:Nat->Prop}(h:GotL bo base ls w1 B)(x:Ext S w1 w2)(hS:∀ q,B q->¬ S q):GotL bo base ls w2 B:=by
 obtain ⟨sl,h1,h2,h3,h4⟩:=h
 exact ⟨sl,Go.Proofs.YtcamoanigdfihaaGreat.get_ext h1 x (hS _ ((h4 _).2 (.inl rfl))),h2.ext x (fun q hq=>hS _ ((h4 _).2 (.inr hq))),⟨h3.1,Nat.le_trans h3.2 x.size⟩,h4⟩
theorem GotL.lt{bo base:Nat}{ls:List Lab}{w1:World}{B:Nat->Prop}(h:GotL bo base ls w1 B){q:Nat}(hq:B q):q < w1.heap.size:=by
 obtain ⟨sl,h1,h2,h3,h4⟩:=h
 rcases (h4 q).1 hq with h | h
 .omega
 .exact (h2.lt h).2
def RestP(f:Pages)(t:Int)(lev:Nat)(l:List Ent)(kvs:List KV)(ps:List Rf):Prop:=(lev=0/\LeafL f t l kvs ps)∨∃ lv,lev=lv+1/\KidsP (SubT f t lv) l kvs ps
end Go.V
namespace Go.Proofs.YtcamoanigdfihaaGreat
open Go.V
section
variable {w:World} {T:Nat->Option Nat} {m:MemV} {M:Mm}
theorem _root_.Go.V.SubT.opens{f:Pages}{t:Int}{lev:Nat}{r:Rf}{kvs:List KV}{ps:List Rf}(h:SubT f t lev r kvs ps):∃ l ps',NodeAt f t (kindOf lev) lev r l/\l≠[]/\RestP f t lev l kvs ps'/\ps=r::ps':=by
 cases lev with
 | zero =>
  obtain ⟨l,ps',a,b,c,d⟩:=h
  exact ⟨l,ps',a,b, .inl ⟨rfl,c⟩,d⟩
 | succ lv =>
  obtain ⟨l,ps',a,b,c,d⟩:=h
  refine ⟨l,ps',?_,by intro h; rw [h] at b; simp at b, .inr ⟨lv,rfl,c⟩,d⟩
  unfold kindOf; rw [if_neg (by omega)]; exact a
theorem GotL.step{bo base:Nat}{ls:List Lab}{w1:World}{B:Nat->Prop}{x:Lab}{K':World->Prop}(hl:ls.length<=1000000)(h:GotL bo base ls w1 B)
  (k:∀ w' B',GotL bo base (ls++[x]) w' B'->Ext B w1 w'->(∀ q,B' q->B q∨w1.heap.size<=q/\q < w'.heap.size)->K' w') :
  dynV Tryz.prog true (.func (.func 76) #[] #[.pointer (some (A1 bo))]) [x.agg] [] K' NoX w1:=by
 obtain ⟨sl,h1,h2,h3,h6⟩:=h
 refine V_tree_Labels_1 (c0:=A1 bo) (S_tree_Labels_1 ?_)
 refine NewW.mk fun b w2 n2=>⟨_,Cell.lst (get_no h1 n2.ext) rfl,_,Cell.lst n2.get rfl,_,Cell.lst n2.get rfl,_,Cell.lst n2.get rfl,_,Cell.lst n2.get rfl,_,Cell.lst n2.get rfl,_,Cell.lst n2.get rfl,NewW.mk fun b1 w3 n3=>?_⟩
 have x3:=n2.ext.no n3.ext
 have z2:=n2.size; have z3:=n3.size
 have o3:=h2.no x3
 have e3:Own w3.heap w2.heap.size 106 6 ⟨some ⟨b1,0,none⟩,1,1⟩ x.cs:=Own.new (n:=1) (sz:=6) n3 rfl (by simp [oneC,Lab.cs])
 have hsl:sl.len=ls.length:=by have:=h2.len; rw [flat_len' (labCs_len _)] at this; omega
 have slb:∀ q,sl.blk=some q->B q:=fun q hq=>(h6 q).2 (.inr hq)
 have hbv:B bo:=(h6 bo).2 (.inl rfl)
 have nbv:sl.blk≠some bo:=fun h=>by have:=(h2.lt h).1; omega
 refine app_api_Label o3 (by omega) e3.rd.src (by simp only; omega) fun s' w4 o4 _ x4 hbl=>?_
 have y4:=x4.size
 have s'b:∀ q,s'.blk=some q->B q∨w1.heap.size<=q/\q < w4.heap.size:=fun q hq=>by
  rcases hbl with h | ⟨c,h,hc⟩
  .exact .inl (slb q (h ▸ hq))
  .rw [h] at hq; cases hq; exact .inr ⟨by omega,(o4.lt h).2⟩
 have g4:=get_ext (get_no h1 x3) x4 nbv
 refine St1.b1 g4 rfl fun w5 h5'=>?_
 have z5:=h5'.size
 have x5:Ext (·=bo) w4 w5:=h5'.ext
 have x15:Ext B w1 w5:=((x3.of_no).trans x4 fun q _ hq=>slb q hq).trans x5 fun q _ hq=>by rw [hq]; exact hbv
 refine k w5 (fun q=>q=bo∨s'.blk=some q) ⟨s',h5'.get g4,?_,⟨h3.1,by have:=x15.size; omega⟩,fun q=>Iff.rfl⟩ x15 fun q hq=>?_
 .rw [List.flatMap_append]
  have:[x].flatMap Lab.cs=x.cs:=by simp
  rw [this]
  refine o4.ext x5 fun q hq e=>?_
  have:=(o4.lt hq).1; omega
 .rcases hq with h | h
  .rw [h]; exact .inl hbv
  .rcases s'b q h with h | h
   .exact .inl h
   .exact .inr ⟨h.1,by omega⟩
def GotW(bs bg bo base:Nat)(t:Int)(ls:List Lab)(cs:List (Rf×List Int))(j:Nat)(w:World)(B:Nat->Prop):Prop :=
 ∃ B0,GotL bo base (ls++(cs.take j).map fun c=>⟨t,3,0,c.1⟩) w B0/\w.heap[bs]? = some (.cells [.func (.func 76) #[] #[.pointer (some (A1 bo))]].toArray 167 (0,0))/\w.heap[bg]? = some (.cells [srcV m, .int .u32 t].toArray 163 (0,0))/\(∀ q,B q ↔ B0 q∨q=bs∨q=bg)/\¬ B0 bs/\¬ B0 bg
theorem GotW.mono{bs bg bo base:Nat}{t:Int}{ls:List Lab}{cs:List (Rf×List Int)}{j:Nat}{w1 w2:World}{B S:Nat->Prop}(h:GotW (m:=m) bs bg bo base t ls cs j w1 B)(x:Ext S w1 w2)(hS:∀ q,B q->¬ S q):GotW (m:=m) bs bg bo base t ls cs j w2 B:=by
 obtain ⟨B0,h1,h2,h3,h4,h5,h6⟩:=h
 exact ⟨B0,h1.mono x fun q hq=>hS q ((h4 q).2 (.inl hq)),get_ext h2 x (hS _ ((h4 _).2 (.inr (.inl rfl)))),get_ext h3 x (hS _ ((h4 _).2 (.inr (.inr rfl)))),h4,h5,h6⟩
theorem GotW.step{bs bg bo base:Nat}{t:Int}{ls:List Lab}{cs:List (Rf×List Int)}{j:Nat}{w1:World}{B:Nat->Prop}{s:Sl}{K':World->Prop}(hl:ls.length+cs.length<=1000000)(hj:j < cs.length)(h:GotW (m:=m) bs bg bo base t ls cs j w1 B)
  (k:∀ w' B',GotW (m:=m) bs bg bo base t ls cs (j+1) w' B'->Ext B w1 w'->(∀ q,B' q->B q∨w1.heap.size<=q/\q < w'.heap.size)->K' w') :
  dynV Tryz.prog true (.func (.func 128) #[] #[.pointer (some (A1 bs)), .pointer (some (A1 bg))]) [.agg ([.int .u32 cs[j].1.p, .int .u64 cs[j].1.c, .int .u16 cs[j].1.g]).toArray, .slice s.a s.len s.cap] [] K' NoX w1:=by
 obtain ⟨B0,h1,h2,h3,h4,h5,h6⟩:=h
 refine V_tree_grove_walk_1 (c0:=A1 bs) (c1:=A1 bg) (S_tree_grove_walk_1 ?_)
 refine NewW.mk fun b w2 n2=>⟨_,Cell.lst (get_no h2 n2.ext) rfl,_,Cell.lst (get_no h3 n2.ext) rfl,_,Cell.lst n2.get rfl,_,Cell.lst n2.get rfl,_,Cell.lst n2.get rfl,?_⟩
 have z2:=n2.size
 have hlt:bs < w1.heap.size:=blt h2
 have hlg:bg < w1.heap.size:=blt h3
 refine GotL.step (x:=⟨t,3,0,cs[j].1⟩) (by simp; omega) (h1.mono n2.ext fun _ _ h=>h) fun w3 B3 G3 x3 hB3=>?_
 have n3:∀ q,q < w1.heap.size->¬ B0 q->¬ B3 q:=fun q hq h h'=>by
  rcases hB3 q h' with h2 | h2
  .exact h h2
  .omega
 refine k w3 (fun q=>B3 q∨q=bs∨q=bg) ⟨B3,?_,get_ext (get_no h2 n2.ext) x3 h5,get_ext (get_no h3 n2.ext) x3 h6,fun q=>Iff.rfl,n3 _ hlt h5,n3 _ hlg h6⟩ (n2.ext.of_no.trans x3 fun q _ hq=>(h4 q).2 (.inl hq)) fun q hq=>?_
 .rw [List.take_add_one,List.getElem?_eq_getElem hj,List.map_append,<- List.append_assoc]; exact G3
 .rcases hq with h | h
  .rcases hB3 q h with h | h
   .exact .inl ((h4 q).2 (.inl h))
   .exact .inr ⟨by omega,h.2⟩
  .exact .inl ((h4 q).2 (.inr h))
def WalkOK(T:Nat->Option Nat)(m:MemV)(M:Mm)(t:Int)(bo:Nat)(lev:Nat):Prop :=
 ∀{w:World}{B:Nat->Prop}{base:Nat}{L:List Lab}{r:Rf}{kvs:List KV}{ps:List Rf}{K:Int->World->Prop},MemR w.heap T m M->SubT M.f t lev r kvs ps->lev<=30->GotL bo base L w B->(∀ q,B q->T q=none)->L.length+ps.length<=900000 ->
 (∀(w':World)(B':Nat->Prop)(L':List Lab),L'.map Lab.r=ps->(∀ x∈L',x.t=t)->(∀ x:Lab,L'[0]? = some x->x.v=(lev:Int))->GotL bo base (L++L') w' B'->Ext B w w'->(∀ q,B' q->B q∨w.heap.size<=q/\q < w'.heap.size)->K 0 w') ->
 C_tree_grove_walk (srcV m) t r.p r.c r.g lev (.func (.func 76) #[] #[.pointer (some (A1 bo))]) w K
set_option maxHeartbeats 2000000 in
theorem walk_step{t:Int}{bo lev:Nat}(ih:∀ lv,lev=lv+1->WalkOK T m M t bo lv):WalkOK T m M t bo lev:=by
 intro w B base L r kvs ps K R hS hlev hG hB hlen k
 have sup:∀ q,w.heap.size<=q->T q=none:=fun q hq=>R.supT hq
 have hBl:∀ q,B q->q < w.heap.size:=fun q hq=>hG.lt hq
 obtain ⟨l,ps',hN,hne,hrest,rfl⟩:=hS.opens
 have hr:r ≠ .z:=fun h=>by have:=(at_lo R hN.at_).1; rw [h] at this; exact absurd this (by decide)
 apply S_tree_grove_walk
 refine NewW.mk fun b w1 n1=>NewW.mk fun b1 w2 n2=>⟨rfl,NewW.mk fun b2 w3 n3=>?_⟩
 have hb:=n1.at_; have hb1:=n2.at_; have hb2:=n3.at_; have z1:=n1.size; have z2:=n2.size; have z3:=n3.size
 have x03:=(n1.ext.no n2.ext).no n3.ext
 have g3:=get_no (get_no n1.get n2.ext) n3.ext
 have g13:=get_no n2.get n3.ext
 have g23:=n3.get
 refine ⟨_,Cell.lst g13 rfl,_,Cell.lst g13 rfl,_,Cell.lst g13 rfl,_,Cell.lst g13 rfl,?_⟩
 rw [z_iff,decide_eq_false hr]
 refine If.no ⟨_,Cell.lst g3 rfl,_,Cell.lst g3 rfl,_,Cell.lst g13 rfl,_,Cell.lst g13 rfl,_,Cell.lst g13 rfl,_,Cell.lst g13 rfl,?_⟩
 refine node_at (R.no x03) hN hne fun s4 N4 w4 o4 eL x4=>new_set rfl rfl (by simp [oneC]) fun b3 w6 g6 hb3 z6 x6=>If.bne (fun h=>(h rfl).elim) fun _=>?_
 have x36:=x4.no x6
 have x06:=x03.no x36
 have y4:=x4.size
 have y6:=x6.size
 have g06:=get_no g3 x36
 have g16:=get_no g13 x36
 have g26:=get_no g23 x36
 refine ⟨_,Cell.lst g26 rfl,_,Cell.lst g06 rfl,_,Cell.lst g6 rfl,_,Cell.lst g16 rfl,_,Cell.lst g16 rfl,_,Cell.lst g16 rfl,_,Cell.lst g16 rfl,?_⟩
 refine GotL.step (x:=⟨t,kindOf lev,lev,r⟩) (by omega) (hG.mono x06 fun _ _ h=>h) fun w7 B7 G7 x7 hB7=>?_
 have nB:∀{q},w.heap.size<=q->¬ B q:=fun h h'=>by have:=hBl _ h'; omega
 refine ⟨_,Cell.lst (get_ext g6 x7 (nB (q:=b3) (by omega))) rfl,?_⟩
 have q6:NdQ w6.heap (fun q=>w3.heap.size<=q) s4 N4:=(o4.no x6).q fun q h1 _=>h1
 have hNl:=ents_len eL
 have hcnt:=wr_count hN.short
 refine ⟨fun q tt w'=>∃ (j:Nat) (Lj:List Lab) (kv':List KV) (pr:List Rf) (B':Nat->Prop),tt=j/\j<=l.length/\q=l.length - j/\RestP M.f t lev (l.drop j) kv' pr/\ps'=Lj.map Lab.r++pr/\(∀ x∈Lj,x.t=t)/\GotL bo base (L++(⟨t,kindOf lev,lev,r⟩::Lj)) w' B'/\(∀ q,B' q->B q∨w6.heap.size<=q/\q < w'.heap.size)/\Ext (fun q=>B q∨q=b2∨q=b) w6 w'/\w'.heap[b2]? = some (.cells [.func (.func 76) #[] #[.pointer (some (A1 bo))]].toArray 167 (0,0))/\w'.heap[b]? = some (.cells [srcV m, .int .u32 t].toArray 163 (0,0)),
  ⟨l.length,0,[],kvs,ps',B7,rfl,by omega,by omega,hrest,rfl,by simp,G7,hB7,x7.mono fun _ _ h => .inl h,get_ext g26 x7 (nB (by omega)),get_ext g06 x7 (nB (by omega))⟩,?_⟩
 rintro _ m0 tt w8 ⟨j,Lj,kv',pr,B8,rfl,hj,hq,hrest8,hps,ht,G8,hB8,x8,g28,g08⟩
 have nS:∀{q},w.heap.size<=q->q≠b2->q≠b->¬ (B q∨q=b2∨q=b):=fun h h1 h2 h'=>by
  rcases h' with h' | h' | h'
  .exact nB h h'
  .exact h1 h'
  .exact h2 h'
 have g18:=get_ext g16 x8 (nS (by omega) (by omega) (by omega))
 have g68:=get_ext g6 x8 (nS (by omega) (by omega) (by omega))
 have q8:=q6.ext x8 fun q hq _=>nS (by omega) (by omega) (by omega)
 have nd8:=q8.nd
 have y8:=x8.size
 have hll:ps'.length=Lj.length+pr.length:=by rw [hps]; simp
 simp only [List.length_cons] at hlen
 have R8:MemR w8.heap T m M:=(R.no x06).ext x8 fun q hq=>by
  rcases hq with h | h | h
  .exact hB q h
  .rw [h]; exact sup _ (by omega)
  .rw [h]; exact sup _ (by omega)
 have nB8:∀{q},w.heap.size<=q->q < w6.heap.size->¬ B8 q:=fun h1 h2 h=>by
  rcases hB8 _ h with h' | h'
  .exact nB h1 h'
  .omega
 have hT8:∀ q,B8 q->T q=none:=fun q hq=>by
  rcases hB8 q hq with h | h
  .exact hB q h
  .exact sup q (by omega)
 refine If.dec (fun h=>?_) fun h=>?_
 .have hjl:j < l.length:=by have:=nd8.len; omega
  refine ent_copy nd8.rd (by omega) h fun b4 w10 hi g10 hb4 z10 x10=>⟨_,Cell.lst (get_no g18 x10) rfl,?_⟩
  simp only [Int.toNat_natCast] at hi g10
  have e1:N4[j].2=l[j]:=by
   have:=congrArg (fun l=>l[j]?) eL
   simp only [List.getElem?_map,List.getElem?_eq_getElem hi,List.getElem?_eq_getElem hjl,Option.map_some,Option.some.injEq] at this
   exact this
  have g0a:=get_no g08 x10
  have g2a:=get_no g28 x10
  have g6a:=get_no g68 x10
  have Ga:=G8.mono x10 fun _ _ h=>h
  refine If.dec (fun hpos=>?_) fun hpos=>?_
  .rcases hrest8 with ⟨h0,_⟩ | ⟨lv,hlv,hk⟩
   .omega
   rw [List.drop_eq_getElem_cons hjl] at hk
   cases hk with
   | @cons _ _ kv kvs2 p pr2 hkid lo hi' hk2 =>
   have nb0:¬ B8 b:=nB8 (by omega) (by omega)
   have nb2:¬ B8 b2:=nB8 (by omega) (by omega)
   have nb3:¬ B8 b3:=nB8 (by omega) (by omega)
   refine ⟨Ext B8 w10,(Ext.refl _ _).drew,_,Held.but (Cell.lst g0a rfl) nb0,_,Held.but (Cell.lst g0a rfl) nb0,_,Held.but (Cell.lst g6a rfl) nb3,_,Held.but (Cell.lst g6a rfl) nb3,_,Held.but (Cell.lst g6a rfl) nb3,_,Held.but (Cell.lst g2a rfl) nb2,?_⟩
   refine below_spec (w:=drewW w10) (nd8.no x10.drew) (by omega) (by simpa using hi) (by omega) fun w11 x11=>⟨(x11.drew_left).of_no,?_⟩
   have x11':Ext No w10 w11:=x11.drew_left
   have y11:=x11'.size
   simp only [Int.toNat_natCast]
   rw [e1,show ((lev:Nat):Int) - 1=((lv:Nat):Int) by omega]
   simp only [List.length_append] at hll
   refine ih lv hlv ((R8.no x10).no x11') hkid (by omega) (Ga.mono x11' fun _ _ h=>h) hT8 (by simp; omega) fun w12 B12 L12 e12 t12 _ G12 x12 hB12=>⟨x11'.of_no.trans x12 fun _ _ h=>h,If.bne (fun h=>(h rfl).elim) fun _=>Ar.i64 (by omega) ⟨l.length - (j+1),by omega,j+1,Lj++L12,kvs2,pr2,B12,by omega,by omega,rfl, .inr ⟨lv,hlv,hk2⟩,?_,fun x hx=>?_,by simpa using G12,fun q hq=>?_,?_,?_,?_⟩⟩
   .rw [hps,List.map_append,e12,List.append_assoc]
   .rcases List.mem_append.1 hx with h | h
    .exact ht x h
    .exact t12 x h
   .have y12:=x12.size
    rcases hB12 q hq with h | h
    .rcases hB8 q h with h | h
     .exact .inl h
     .exact .inr ⟨h.1,by omega⟩
    .exact .inr ⟨by omega,h.2⟩
   .refine ((x8.no x10).no x11').trans x12 fun q hq h=>?_
    rcases hB8 q h with h | h
    .exact .inl h
    .omega
   .exact get_ext (get_no g2a x11') x12 (nB8 (by omega) (by omega))
   .exact get_ext (get_no g0a x11') x12 (nB8 (by omega) (by omega))
  .have h0:lev=0:=by omega
   rcases hrest8 with ⟨_,hL⟩ | ⟨lv,hlv,_⟩
   .rw [List.drop_eq_getElem_cons hjl] at hL
    cases hL with
    | @cons _ _ x kvs2 p pr2 hE hL2 =>
    have hent:=hN.right.ent j hjl
    rw [show kindOf (lev:Int)=1 by rw [h0]; rfl] at hent
    obtain ⟨cs,hc,hcp,hcl⟩:=leafE_chain hE hent
    have er:=(nd8.no x10).get hi
    refine ⟨_,Cell.lst g0a rfl,_,Cell.lst g0a rfl,_,Cell.lst g10 rfl,_,Cell.lst g10 rfl,_,Cell.lst g10 rfl,?_⟩
    rw [er.ch,e1]
    have hlt:∀ q,B8 q->q < w10.heap.size:=fun q hq=>Ga.lt hq
    simp only [List.length_append] at hll
    have hcpl:cs.length=p.length:=by rw [<- hcp]; simp
    refine links_spec (J:=GotW (m:=m) b2 b bo base t (L++(⟨t,kindOf lev,lev,r⟩::Lj)) cs) (B:=fun q=>B8 q∨q=b2∨q=b) (R8.no x10) hc hcl ⟨B8,by simpa using Ga,g2a,g0a,fun q=>Iff.rfl,nB8 (by omega) (by omega),nB8 (by omega) (by omega)⟩ (fun q hq=>?_) (fun h x hS=>h.mono x hS)
     (fun j w5 B' s base hj K' hJ o hb hB kk=>GotW.step (by simp; omega) hj hJ fun w' B'' hJ' hx hq=>kk w' B'' hJ' hx fun q hq'=>(hq q hq').imp id fun h=>⟨by omega,h.2⟩) fun w13 B13 J13 x13 R13 hB13=>If.bne (fun h=>(h rfl).elim) fun _=>?_
    .rcases hq with h | h | h
     .exact ⟨hT8 q h,hlt q h⟩
     .rw [h]; exact ⟨sup _ (by omega),by omega⟩
     .rw [h]; exact ⟨sup _ (by omega),by omega⟩
    obtain ⟨B0,a1,a2,a3,a4,a5,a6⟩:=J13
    rw [List.take_length] at a1
    have y13:=x13.size
    refine Ar.i64 (by omega) ⟨l.length - (j+1),by omega,j+1,Lj++cs.map fun c=>⟨t,3,0,c.1⟩,kvs2,pr2,B0,by omega,by omega,rfl, .inl ⟨h0,hL2⟩,?_,fun x hx=>?_,by simpa using a1,fun q hq=>?_,?_,a2,a3⟩
    .rw [hps,List.map_append,List.map_map,<- hcp,List.append_assoc]; rfl
    .rcases List.mem_append.1 hx with h | h
     .exact ht x h
     .obtain ⟨c,_,rfl⟩:=List.mem_map.1 h; rfl
    .rcases hB13 q ((a4 q).2 (.inl hq)) with h | h
     .rcases h with h | h | h
      .rcases hB8 q h with h | h
       .exact .inl h
       .exact .inr ⟨h.1,by omega⟩
      .exact (a5 (h ▸ hq)).elim
      .exact (a6 (h ▸ hq)).elim
     .exact .inr ⟨by omega,h.2⟩
    .refine (x8.no x10).trans x13 fun q hq h=>?_
     rcases h with h | h
     .rcases hB8 q h with h | h
      .exact .inl h
      .omega
     .exact .inr h
   .omega
 .have hjl:j=l.length:=by have:=nd8.len; omega
  rw [hjl,List.drop_length] at hrest8
  have hpr:pr=[]:=by
   rcases hrest8 with ⟨_,h⟩ | ⟨_,_,h⟩
   .cases h; rfl
   .cases h; rfl
  refine k w8 B8 (⟨t,kindOf lev,lev,r⟩::Lj) ?_ (fun x hx=>?_) (fun x hx=>?_) G8 ?_ fun q hq=>?_
  .rw [hps,hpr]; simp
  .rcases List.mem_cons.1 hx with h | h
   .rw [h]
   .exact ht x h
  .simp at hx; rw [<- hx]
  .refine x06.of_no.trans x8 fun q hq h=>?_
   rcases h with h | h | h
   .exact h
   .omega
   .omega
  .rcases hB8 q hq with h | h
   .exact .inl h
   .exact .inr ⟨by omega,h.2⟩
theorem walk_all{t:Int}{bo:Nat}:∀ lev,WalkOK T m M t bo lev:=by
 intro lev
 induction lev with
 | zero =>
  intro w B base L r kvs ps K
  exact walk_step (lev:=0) fun _ h=>by omega
 | succ n ih =>
  intro w B base L r kvs ps K
  exact walk_step (lev:=n+1) fun lv h=>by
   have e:n=lv:=by omega
   rw [<- e]; exact @ih
theorem labels_spec{t lev:Int}{r:Rf}{kvs:List KV}{ps:List Rf}{K:Sl->Int->World->Prop}(R:MemR w.heap T m M)(hT:TreeT M.f t r lev kvs ps)(hlev:lev<=30)(hl:ps.length<=900000)
  (k:∀ s (L:List Lab) w',L.map Lab.r=ps->(∀ x∈L,x.t=t)->(∀ x,L[0]? = some x->x.r=r/\x.v=lev)->Own w'.heap w.heap.size 106 6 s (L.flatMap Lab.cs)->Ext No w w'->K s 0 w'):C_tree_Labels (srcV m) t r.p r.c r.g lev w K:=by
 apply S_tree_Labels
 refine NewW.mk fun b w1 n1=>⟨trivial,If.no (NewW.mk fun b1 w2 n2=>⟨rfl,?_⟩)⟩
 have hb:=n1.at_; have hb1:=n2.at_; have z1:=n1.size; have z2:=n2.size
 have x02:=n1.ext.no n2.ext
 have g2:=get_no n1.get n2.ext
 refine ⟨_,Cell.lst g2 rfl,_,Cell.lst g2 rfl,_,Cell.lst g2 rfl,_,Cell.lst g2 rfl,?_⟩
 have g12:=n2.get
 rcases hT with ⟨h1,h2,h3,h4⟩ | ⟨h1,h2,hS⟩
 .apply S_tree_grove_walk
  refine NewW.mk fun b3 w3 n3=>NewW.mk fun b4 w4 n4=>⟨rfl,NewW.mk fun b5 w5 n5=>?_⟩
  have x25:=(n3.ext.no n4.ext).no n5.ext
  have g4:=get_no n4.get n5.ext
  refine ⟨_,Cell.lst g4 rfl,_,Cell.lst g4 rfl,_,Cell.lst g4 rfl,_,Cell.lst g4 rfl,?_⟩
  rw [z_iff,h1,h2]
  refine If.yes (If.bne (fun h=>(h rfl).elim) fun _=>⟨⟨none,0,0⟩,Cell.lst (get_no g12 x25) rfl,?_⟩)
  exact k _ [] w5 (by rw [h4]; rfl) (by simp) (by simp) (Own.nil _ _ _ _) (x02.no x25)
 .obtain ⟨lv,rfl⟩ : ∃ lv:Nat,lev=lv:=⟨lev.toNat,by omega⟩
  rw [Int.toNat_natCast] at hS
  refine walk_all lv (bo:=b1) (base:=w2.heap.size) (L:=[]) (B:=fun q=>q=b1) (R.no x02) hS (by omega) ⟨⟨none,0,0⟩,g12,Own.nil _ _ _ _,⟨by omega,Nat.le_refl _⟩,fun q=>by simp [Sl.blk]⟩ (fun q hq=>by rw [hq]; exact R.supT (by omega)) (by simpa using hl) fun w3 B3 L3 e3 t3 v3 G3 x3 hB3=>If.bne (fun h=>(h rfl).elim) fun _=>?_
  obtain ⟨sl,a1,a2,a3,a4⟩:=G3
  refine ⟨sl,Cell.lst a1 rfl,k sl L3 w3 e3 t3 (fun x hx=>⟨?_,v3 x hx⟩) (by simpa using Own.mono a2 (by omega)) (x02.trans x3 fun q hq h=>by omega)⟩
  have:=congrArg (fun l=>l[0]?) e3
  simp only [List.getElem?_map,hx,Option.map_some] at this
  obtain ⟨l,ps',_,_,_,rfl⟩:=hS.opens
  simpa using this
end
end Go.Proofs.YtcamoanigdfihaaGreat
set_option maxRecDepth 100000
namespace Go.V
abbrev beginM(M:Mm)(c g:Int):Mm:={ M with commit:=c,gen:=g }
section
variable {α:Type} [DecidableEq α] {P:Program} {w:World} {mt kt et:TypeId} {enc:α->Value} {r:Nat} {m:List (α×Value)} {a:α}
end
end Go.V
namespace Go.Proofs.YtcamoanigdfihaaGreat
open Go.V
section
variable {w:World} {T:Nat->Option Nat} {m:MemV} {M:Mm}
theorem memBegin_spec{c g:Int}{K:Int->World->Prop}(R:MemR w.heap T m M)(hc:0<=c/\c<=18446744073709551615)(hg:0<=g/\g<=65535)(k2:c<=M.commit->K 2 w)
  (k:∀ w',M.commit < c->MemR w'.heap T m (beginM M c g)->Ext (Ts T) w w'->K 0 w'):C_tree_Mem_Begin (some ⟨m.bm,0,none⟩) c g w K:=by
 apply S_tree_Mem_Begin
 refine If.no (Nn.mk ⟨_,Cell.lst R.mem rfl,If.dec (fun h=>k2 h) fun h=>Nn.mk (St1.mk R.mem (by show 1 < 3; decide) rfl fun w1 h1=>Nn.mk ?_)⟩)
 have g1:w1.heap[m.bm]? = some (.cells [.map (some m.r), .int .u64 c, .int .u16 M.gen].toArray 136 (0,0)):=h1.get R.mem
 refine St1.mk g1 (by show 2 < 3; decide) rfl fun w2 h2=>?_
 have g2:w2.heap[m.bm]? = some (.cells [.map (some m.r), .int .u64 c, .int .u16 g].toArray 136 (0,0)):=h2.get g1
 have x2:Ext (·=m.bm) w w2:=(h1.ext).trans h2.ext fun _ _ h=>h
 have nS:∀{q t},T q=some t->t≠0->¬ (q=m.bm):=fun h ht h'=>by rw [h',R.tm] at h; cases h; exact ht rfl
 refine k w2 (by omega) ⟨g2,R.map.ext x2 (nS R.tr (by decide)),fun p hp=>(R.pg p hp).ext x2 (nS (R.pg p hp).tb (by omega)) (fun b h=>nS ((R.pg p hp).ts b h) (by omega)),R.nd,R.lo,R.tm,R.tr,fun q h=>Nat.lt_of_lt_of_le (R.sup q h) x2.size,hc,hg,fun p hp=>?_⟩ (x2.mono fun q _ h=>by rw [h]; show T m.bm≠none; rw [R.tm]; simp)
 have:=R.cm p hp
 show p.2.r.c<=c
 omega
end
end Go.Proofs.YtcamoanigdfihaaGreat
set_option maxRecDepth 100000
namespace Go.Proofs.YtcamoanigdfihaaGreat
open Go.V
section
variable {w:World} {T:Nat->Option Nat} {m:MemV} {M:Mm}
theorem conv40{b n c:Nat}{cs:Array Value}{t:TypeId}{fz:Nat×Nat}(hb:w.heap[b]? = some (.cells cs t fz)):∃ w',Sem.run Tryz.prog (convert 40 40 (.slice (some ⟨b,0,none⟩) n c)) w = .ok (.slice (some ⟨b,0,none⟩) n c) w'/\Ext (·=b) w w'/\w'.heap.size=w.heap.size/\∃ fz',w'.heap[b]? = some (.cells cs t fz'):=by
 have h40:Tryz.prog.underlying 40=some (.slice 5):=by kernel_rfl
 have h5:Tryz.prog.underlying 5=some (.int .u8):=by kernel_rfl
 have hsh:w.shape? b=some (t,cs.size):=by simp [World.shape?,hb]
 refine ⟨w.freeze { block:=b,off:=cs.size } 1,?_,⟨rfl,rfl,rfl,?_,fun i hi hne=>?_⟩,?_,?_⟩
 .simp [convert,run_und h40,run_und h5,markStringish,shape,Sem.run,hsh,freeze]
 .simp [World.freeze]
 .have hne':¬ b=i:=fun e=>hne e.symm
  simp [World.freeze,Array.getElem?_modify,hne']
 .simp [World.freeze]
 .obtain ⟨lo,hi⟩:=fz
  simp [World.freeze,Array.getElem?_modify,hb]
end
end Go.Proofs.YtcamoanigdfihaaGreat
set_option maxRecDepth 100000
namespace Go.V
structure OpA(h:Array Obj)(x:OpV):Prop where
 k:Rd h x.k 1 (x.key.map (Value.int .u8))
 v:Rd h x.v 1 (x.val.map (Value.int .u8))
 k8:B8 x.key
 v8:B8 x.val
theorem OpA.no{w w':World}{x:OpV}(o:OpA w.heap x)(e:Ext No w w'):OpA w'.heap x:=⟨Rd.no o.k e,Rd.no o.v e,o.k8,o.v8⟩
theorem OpA.r{w w':World}{T:Nat->Option Nat}{x:OpV}(o:OpA w.heap x)(e:Ext No w w')(hT:∀ q,q < w.heap.size->T q=none):OpR w'.heap T x :=
 ⟨Rd.no o.k e,Rd.no o.v e,o.k8,o.v8,fun hn q hq=>⟨hT q (Rd.lt o.k (by simpa using hn) hq),Nat.lt_of_lt_of_le (Rd.lt o.k (by simpa using hn) hq) e.size⟩,fun hn q hq=>⟨hT q (Rd.lt o.v (by simpa using hn) hq),Nat.lt_of_lt_of_le (Rd.lt o.v (by simpa using hn) hq) e.size⟩⟩
end Go.V
namespace Go.Proofs.YtcamoanigdfihaaGreat
open Go.V
section
variable {w:World} {T:Nat->Option Nat} {m:MemV} {M:Mm}
theorem refRight_spec{x:OpV}{K:Bool->World->Prop}(hk:x.k.len=x.key.length)(hv:x.v.len=x.val.length)(k:∀ w',Ext No w w'->K (decide x.fit) w'):C_ref15_Right x.k x.v x.d w K:=by
 apply S_ref15_Right
 refine NewW.mk fun b w1 n1=>⟨_,Cell.lst n1.get rfl,?_⟩
 have kk:∀ p:Bool,(p=decide x.fit)->K p w1:=fun p hp=>by rw [hp]; exact k w1 n1.ext
 have no:¬ x.fit->K false w1:=fun h=>kk _ (by rw [decide_eq_false h])
 refine If.dec (fun h1=>⟨_,Cell.lst n1.get rfl,If.dec (fun h2=>⟨_,Cell.lst n1.get rfl,If.dec (fun h3=>⟨_,Cell.lst n1.get rfl,If.not (If.cases (fun hd=>⟨_,Cell.lst n1.get rfl,kk _ ?_⟩) fun hd=>kk _ ?_)⟩) fun h=>no fun f=>by have:=f.2.1; omega⟩) fun h=>no fun f=>by have:=f.1; omega⟩) fun h=>no fun f=>by have:=f.1; omega
 .rw [Bool.eq_iff_iff,decide_eq_true_iff,beq_iff_eq]
  exact ⟨fun h=>⟨by omega,by omega,fun _=>by omega⟩,fun f=>by have:=f.2.2 hd; omega⟩
 .exact (decide_eq_true ⟨by omega,by omega,fun h=>by rw [hd] at h; cases h⟩).symm
theorem opOne(x:OpV):∀ v∈x.cs,oneC v=true:=by intro v hv; simp only [OpV.cs,List.mem_cons,List.not_mem_nil,or_false] at hv; rcases hv with h | h | h <;> subst h <;> rfl
end
end Go.Proofs.YtcamoanigdfihaaGreat
set_option maxRecDepth 100000
namespace Go.V
structure PV where
 k:Sl
 v:Sl
abbrev Pr:=PV×KV
def Pr.cs(p:Pr):List Value:=[.slice p.1.k.a p.1.k.len p.1.k.cap, .slice p.1.v.a p.1.v.len p.1.v.cap]
theorem prCs_len(l:List Pr):∀ x∈l,(Pr.cs x).length=2:=fun _ _=>rfl
theorem prOne(x:Pr):∀ v∈x.cs,oneC v=true:=by intro v hv; simp only [Pr.cs,List.mem_cons,List.not_mem_nil,or_false] at hv; rcases hv with h | h <;> subst h <;> rfl
abbrev kvsOf(l:List Pr):List KV:=l.map Prod.snd
structure PrR(h:Array Obj)(Q:Nat->Prop)(p:Pr):Prop where
 k:Rd h p.1.k 1 (p.2.1.map (Value.int .u8))
 v:Rd h p.1.v 1 (p.2.2.map (Value.int .u8))
 k8:B8 p.2.1
 v8:B8 p.2.2
 kq:p.2.1≠[]->∀ q,p.1.k.blk=some q->Q q
 vq:p.2.2≠[]->∀ q,p.1.v.blk=some q->Q q
theorem PrR.ext{S Q:Nat->Prop}{w w':World}{p:Pr}(r:PrR w.heap Q p)(x:Ext S w w')(hS:∀ q,q < w.heap.size->Q q->¬ S q):PrR w'.heap Q p :=
 ⟨Rd.extE r.k x fun hn q hl hq=>hS q hl (r.kq hn q hq),Rd.extE r.v x fun hn q hl hq=>hS q hl (r.vq hn q hq),r.k8,r.v8,r.kq,r.vq⟩
theorem PrR.mono{Q Q':Nat->Prop}{h:Array Obj}{p:Pr}(r:PrR h Q p)(hq:∀ q,q < h.size->Q q->Q' q):PrR h Q' p :=
 ⟨r.k,r.v,r.k8,r.v8,fun hn q h=>hq q (Rd.lt r.k (by simpa using hn) h) (r.kq hn q h),fun hn q h=>hq q (Rd.lt r.v (by simpa using hn) h) (r.vq hn q h)⟩
structure PrsR(h:Array Obj)(Q:Nat->Prop)(s:Sl)(l:List Pr):Prop where
 rd:Rd h s 2 (l.flatMap Pr.cs)
 pr:∀ p∈l,PrR h Q p
theorem PrsR.len{h:Array Obj}{Q:Nat->Prop}{s:Sl}{l:List Pr}(r:PrsR h Q s l):s.len=l.length:=by have:=r.rd.len; rw [flat_len' (prCs_len l)] at this; omega
theorem PrsR.no{Q:Nat->Prop}{w w':World}{s:Sl}{l:List Pr}(r:PrsR w.heap Q s l)(x:Ext No w w'):PrsR w'.heap Q s l:=⟨r.rd.no x,fun p hp=>(r.pr p hp).ext x fun _ _ _ h=>h⟩
theorem bytesLess_lt:∀{a b:List Int},B8 a->B8 b->Op.bytesLess (toB a) (toB b)=decide (LtB a b)
 | [],[],_,_=>rfl
 | _::_,[],_,_=>rfl
 | [],_::_,_,_=>rfl
 | x::a,y::b,ha,hb=>by
  have hx:=ha x (by simp)
  have hy:=hb y (by simp)
  have ih:=bytesLess_lt (a:=a) (b:=b) (fun z hz=>ha z (by simp [hz])) (fun z hz=>hb z (by simp [hz]))
  have e1:(UInt8.ofNat x.toNat < UInt8.ofNat y.toNat) ↔ x < y:=by
   rw [UInt8.lt_iff_toNat_lt,UInt8.toNat_ofNat',UInt8.toNat_ofNat']; omega
  have e2:(UInt8.ofNat x.toNat=UInt8.ofNat y.toNat) ↔ x=y:=by
   constructor
   .intro h
    have:=congrArg UInt8.toNat h
    rw [UInt8.toNat_ofNat',UInt8.toNat_ofNat'] at this; omega
   .intro h; rw [h]
  have l1:Op.bytesLess (toB (x::a)) (toB (y::b))=(decide (UInt8.ofNat x.toNat < UInt8.ofNat y.toNat) || ((UInt8.ofNat x.toNat == UInt8.ofNat y.toNat) && Op.bytesLess (toB a) (toB b))):=rfl
  rw [l1,ih,Bool.eq_iff_iff]
  simp only [Bool.or_eq_true,Bool.and_eq_true,decide_eq_true_eq,beq_iff_eq,e1,e2]
  unfold LtB
  simp only [cmpB]
  constructor
  .rintro (h | ⟨h,h2⟩)
   .rw [if_pos h]
   .rw [if_neg (by omega),if_neg (by omega)]; exact h2
  .intro h
   split at h
   .exact .inl (by assumption)
   .split at h
    .exact absurd h (by decide)
    .exact .inr ⟨by omega,h⟩
structure PlaceP(l:List KV)(key:List Int)(i:Nat):Prop where
 le:i<=l.length
 lt:∀ j (h:j < l.length),j < i->LtB l[j].1 key
 ge:∀ h:i < l.length,¬ LtB l[i].1 key
theorem SortK.lt{l:List KV}(h:SortK l){i j:Nat}(hij:i < j)(hj:j < l.length):LtB l[i].1 l[j].1:=List.pairwise_iff_getElem.1 h i j (by omega) hj hij
theorem PlaceP.lo{l:List KV}{key:List Int}{i:Nat}(p:PlaceP l key i)(hs:SortK l):kvLo key l=l.take i:=by
 have e:l=l.take i++l.drop i:=(List.take_append_drop i l).symm
 unfold kvLo
 conv=>lhs; rw [e]
 rw [List.filter_append,List.filter_eq_self.2 fun x hx=>?_,List.filter_eq_nil_iff.2 fun x hx=>?_,List.append_nil]
 .obtain ⟨j,hj,rfl⟩:=List.getElem_of_mem hx
  simp only [List.length_drop] at hj
  rw [List.getElem_drop]
  have hi:i < l.length:=by omega
  intro h
  have h1:=of_decide_eq_true h
  rcases Nat.eq_zero_or_pos j with h0 | h0
  .subst h0; exact p.ge hi h1
  .exact p.ge hi ((hs.lt (i:=i) (j:=i+j) (by omega) (by omega)).trans h1)
 .obtain ⟨j,hj,rfl⟩:=List.getElem_of_mem hx
  simp only [List.length_take] at hj
  rw [List.getElem_take]
  exact decide_eq_true (p.lt j (by omega) (by omega))
theorem PlaceP.hi{l:List KV}{key:List Int}{i:Nat}(p:PlaceP l key i)(hs:SortK l):kvHi key l=if ∃ h:i < l.length,l[i].1=key then l.drop (i+1) else l.drop i:=by
 have e:l=l.take i++l.drop i:=(List.take_append_drop i l).symm
 have h1:(l.take i).filter (fun x=>decide (LtB key x.1))=[]:=List.filter_eq_nil_iff.2 fun x hx=>by
  obtain ⟨j,hj,rfl⟩:=List.getElem_of_mem hx
  simp only [List.length_take] at hj
  rw [List.getElem_take]
  intro h
  exact ((p.lt j (by omega) (by omega)).trans (of_decide_eq_true h)).irrefl
 unfold kvHi
 conv=>lhs; rw [e]
 rw [List.filter_append,h1,List.nil_append]
 have all:∀ k,i<=k->(∀ h:k < l.length,LtB key l[k].1)->(l.drop k).filter (fun x=>decide (LtB key x.1))=l.drop k:=fun k hk h=>List.filter_eq_self.2 fun x hx=>by
  obtain ⟨j,hj,rfl⟩:=List.getElem_of_mem hx
  simp only [List.length_drop] at hj
  rw [List.getElem_drop]
  rcases Nat.eq_zero_or_pos j with h0 | h0
  .subst h0; exact decide_eq_true (h (by omega))
  .exact decide_eq_true ((h (by omega)).trans (hs.lt (by omega) (by omega)))
 split
 .rename_i h
  obtain ⟨hi,hk⟩:=h
  rw [List.drop_eq_getElem_cons hi,List.filter_cons,if_neg (by rw [hk]; simpa using fun h=>LtB.irrefl h)]
  refine all (i+1) (by omega) fun h=>?_
  rw [<- hk]; exact hs.lt (by omega) h
 .rename_i h
  refine all i (Nat.le_refl _) fun hi=>?_
  rcases LtB.total l[i].1 key with h2 | h2 | h2
  .exact (p.ge hi h2).elim
  .exact (h ⟨hi,h2⟩).elim
  .exact h2
end Go.V
namespace Go.Proofs.YtcamoanigdfihaaGreat
open Go.V
section
variable {w:World} {T:Nat->Option Nat} {m:MemV} {M:Mm}
theorem heldNo{b o:Nat}{v:Value}(h:hcell w.heap b o=some v):Held (Ext No w) ⟨b,o,none⟩ v:=Held.no h
theorem place_spec{Q:Nat->Prop}{s key:Sl}{l:List Pr}{kb:List Int}{K:Int->World->Prop}(hl:PrsR w.heap Q s l)(hk:RdB w.heap key kb)(k8:B8 kb)(hn:l.length<=1000000)
  (k:∀ i w',PlaceP (kvsOf l) kb i->Ext No w w'->K (i:Nat) w'):C_ref15_place s key w K:=by
 apply S_ref15_place
 have hsl:=hl.len
 refine ⟨fun q n w'=>∃ j:Nat,n=j/\j<=l.length/\q=l.length - j/\(∀ i (h:i < (kvsOf l).length),i < j->LtB (kvsOf l)[i].1 kb)/\Ext No w w',⟨l.length,0,rfl,by omega,by omega,fun i _ h=>by omega,Ext.refl _ _⟩,?_⟩
 rintro _ m0 n w1 ⟨j,rfl,hj,hq,hlt,x1⟩
 refine ⟨Ext No w1,(Ext.refl _ _).drew,If.dec (fun h=>?_) fun h=>?_⟩
 .have hjl:j < l.length:=by omega
  refine Ix.elem (hl.rd.no x1) (prCs_len l) (by decide) (by omega) h fun bb o hi _ hc=>?_
  simp only [Int.toNat_natCast] at hi hc
  have pj:=(hl.pr _ (List.getElem_mem hjl)).ext x1 fun _ _ _ h=>h
  refine ⟨_,Held.cell (hc 0 _ rfl),StrC.mk pj.k (fun bb o v hv=>heldNo hv) (StrC.mk (Rd.no hk x1) (fun bb o v hv=>heldNo hv) ?_)⟩
  rw [toList_mk,toList_mk,bytesLess_lt pj.k8 k8]
  refine If.dec (fun h2=>Ar.i64 (by omega) ⟨l.length - (j+1),by omega,j+1,by omega,by omega,rfl,fun i h3 h4=>?_,x1.drew⟩) fun h2=>k j _ ⟨by simpa using hj,hlt,fun h3=>by simpa using h2⟩ x1.drew
  rcases Nat.lt_or_ge i j with h5 | h5
  .exact hlt i h3 h5
  .have:i=j:=by omega
   subst this; simpa using h2
 .exact k j _ ⟨by simpa using hj,hlt,fun h3=>absurd h3 (by simp; omega)⟩ x1.drew
end
end Go.Proofs.YtcamoanigdfihaaGreat
set_option maxRecDepth 100000
namespace Go.Proofs.YtcamoanigdfihaaGreat
open Go.V
section
variable {w:World} {T:Nat->Option Nat} {m:MemV} {M:Mm}
theorem Rd.pre{h:Array Obj}{s:Sl}{n:Nat}{α:Type}{f:α->List Value}{l:List α}(r:Rd h s n (l.flatMap f))(hf:∀ x∈l,(f x).length=n)(hl:s.len=l.length){lo hi:Nat}(h1:lo<=hi)(h2:hi<=l.length):Rd h ⟨cutA s.a s.cap lo n,hi - lo,s.cap - lo⟩ n (((l.drop lo).take (hi - lo)).flatMap f):=by
 have rc:=r.cut (lo:=lo) (hi:=hi) (mx:=s.cap) h1 (by omega) (by have:=r.cap; omega)
 have e:((l.flatMap f).drop (lo * n)).take ((hi - lo) * n)=((l.drop lo).take (hi - lo)).flatMap f:=by
  have hd:(l.flatMap f).drop (lo * n)=(l.drop lo).flatMap f:=by
   conv=>lhs; rw [<- List.take_append_drop lo l]
   rw [List.flatMap_append,List.drop_append]
   have hl3:((l.take lo).flatMap f).length=lo * n:=by rw [flat_len' fun x hx=>hf x (List.mem_of_mem_take hx),List.length_take,Nat.min_eq_left (by omega)]
   rw [hl3,List.drop_eq_nil_of_le (by omega),Nat.sub_self,List.drop_zero,List.nil_append]
  rw [hd]
  conv=>lhs; rw [<- List.take_append_drop (hi - lo) (l.drop lo)]
  rw [List.flatMap_append,List.take_append]
  have hl3:(((l.drop lo).take (hi - lo)).flatMap f).length=(hi - lo) * n:=by rw [flat_len' fun x hx=>hf x (List.mem_of_mem_drop (List.mem_of_mem_take hx)),List.length_take,List.length_drop,Nat.min_eq_left (by omega)]
  rw [hl3,Nat.sub_self,List.take_zero,List.append_nil,List.take_of_length_le (by omega)]
 rw [e] at rc; exact rc
theorem Cut.pre{h:Array Obj}{s:Sl}{n:Nat}{α:Type}{f:α->List Value}{l:List α}{lo hi mx:Int}{K:Sl->Prop}(r:Rd h s n (l.flatMap f))(hf:∀ x∈l,(f x).length=n)(hl:s.len=l.length)(h0:0<=lo)(h1:lo<=hi)(h2:hi<=(l.length:Int))(hm:mx=s.cap)
  (k:∀ s':Sl,Rd h s' n (((l.drop lo.toNat).take (hi.toNat - lo.toNat)).flatMap f)->s'.len=hi.toNat - lo.toNat->K s'):Cut s lo hi mx n K:=by
 have rc:=Rd.pre r hf hl (lo:=lo.toNat) (hi:=hi.toNat) (by omega) (by omega)
 have hc:=r.cap
 subst hm
 refine Cut.mk h0 h1 (by omega) (Int.le_refl _) ?_
 have e1:(hi - lo).toNat=hi.toNat - lo.toNat:=by omega
 have e2:((s.cap:Int) - lo).toNat=s.cap - lo.toNat:=by omega
 rw [e1,e2,Int.toNat_natCast]
 exact k _ rc rfl
theorem app_lit{b:Nat}{s':Sl}{l:List Int}{K:Sl->World->Prop}(hb:w.heap[b]? = some (.cells ([]:List Value).toArray 5 (0,0)))(base:Nat)(hbb:base<=b)(r:RdB w.heap s' l)(hn:l.length<=100000)
  (k:∀ s w',OwnB w'.heap base s l->Ext (·=b) w w'->(s.blk=some b∨∃ q,s.blk=some q/\w.heap.size<=q)->K s w'):AppW Tryz.prog 40 40 ⟨some ⟨b,0,none⟩,0,0⟩ (.slice s'.a s'.len s'.cap) K w:=by
 have hlt:=blt hb
 have o:Own w.heap base 5 1 ⟨some ⟨b,0,none⟩,0,0⟩ []:=⟨rfl, .inr ⟨b,[],rfl,hbb,hb,rfl,Nat.le_refl _⟩,by simp⟩
 have hl:=RdB.len r
 refine app_uint8 o (by omega) r.src (by simp only; omega) fun s w' o' _ x hbl=>k s w' (by simpa using o') (x.mono fun q _ h=>by simp [Sl.blk] at h; omega) ?_
 rcases hbl with h | ⟨q,h,hq⟩
 .exact .inl (by rw [h]; rfl)
 .exact .inr ⟨q,h,hq⟩
structure MkP(w0 w':World)(Q:Nat->Prop)(out:Sl)(L:List Pr):Prop where
 own:Own w'.heap w0.heap.size 70 2 out (L.flatMap Pr.cs)
 pr:∀ p∈L,PrR w'.heap (fun q=>(Q q/\q < w0.heap.size)∨(w0.heap.size<=q/\out.blk≠some q)) p
theorem MkP.app{w0:World}{Q:Nat->Prop}{out s:Sl}{L xs:List Pr}{K:Sl->World->Prop}(h:MkP w0 w Q out L)(hw:w0.heap.size<=w.heap.size)(r:Rd w.heap s 2 (xs.flatMap Pr.cs))(hx:∀ p∈xs,PrR w.heap (fun q=>(Q q/\q < w0.heap.size)∨(w0.heap.size<=q/\out.blk≠some q)) p)(hn:L.length+xs.length<=1000000)
  (k:∀ s' w',MkP w0 w' Q s' (L++xs)->Ext (fun q=>out.blk=some q) w w'->K s' w'):AppW Tryz.prog 62 62 out (.slice s.a s.len s.cap) K w:=by
 have hol:out.len=L.length:=by have:=h.own.len; rw [flat_len' (prCs_len L)] at this; omega
 have hsl:s.len=xs.length:=by have:=r.len; rw [flat_len' (prCs_len xs)] at this; omega
 refine app_api_Pair h.own hw r.src (by rw [hol,hsl]; omega) fun s' w' o' _ x hbl=>k s' w' ⟨by rw [List.flatMap_append]; exact o',fun p hp=>?_⟩ x
 have x':Ext (fun q=>out.blk=some q) w w':=x
 have hp':PrR w.heap (fun q=>(Q q/\q < w0.heap.size)∨(w0.heap.size<=q/\out.blk≠some q)) p:=by
  rcases List.mem_append.1 hp with h1 | h1
  .exact h.pr p h1
  .exact hx p h1
 have ne:∀ q,q < w.heap.size->(Q q/\q < w0.heap.size)∨(w0.heap.size<=q/\out.blk≠some q)->¬ out.blk=some q:=fun q _ hq hb=>by
  rcases hq with h1 | h1
  .have:=(h.own.lt hb).1; omega
  .exact h1.2 hb
 have hlt:PrR w.heap (fun q=>q < w.heap.size/\((Q q/\q < w0.heap.size)∨(w0.heap.size<=q/\out.blk≠some q))) p:=hp'.mono fun q h1 h2=>⟨h1,h2⟩
 refine (hlt.ext x' fun q h1 h2=>ne q h1 h2.2).mono fun q _ hq=>?_
 rcases hq with ⟨h0,h1 | h1⟩
 .exact .inl h1
 .refine .inr ⟨h1.1,fun hb=>?_⟩
  rcases hbl with h2 | ⟨c,h2,h3⟩
  .exact h1.2 (by rw [<- h2]; exact hb)
  .rw [h2] at hb; cases hb; omega
theorem with_tail{w0 w4:World}{Q:Nat->Prop}{out ks vs:Sl}{L:List Pr}{kb vb:List Int}{J:Sl->World->Prop}(h:MkP w0 w4 Q out L)(hw:w0.heap.size<=w4.heap.size)(x4:Ext No w4 w)(hk:OwnB w.heap w4.heap.size ks kb)(hv:OwnB w.heap w4.heap.size vs vb)(k8:B8 kb)(v8:B8 vb)(hn:L.length<=900000)
  (hJ:∀ s' w',MkP w0 w' Q s' (L++[(⟨ks,vs⟩,(kb,vb))])->Ext (fun q=>out.blk=some q) w4 w'->J s' w') :
  NewW w (.cells [.slice ks.a ks.len ks.cap, .slice vs.a vs.len vs.cap].toArray 70) fun b w5=>Ext (fun q=>out.blk=some q) w4 w5/\AppW Tryz.prog 62 62 out (.slice (some (Addr.mk b 0 none)) 1 1) (fun s w6=>Ext (fun q=>out.blk=some q) w4 w6/\J s w6) w5:=by
 refine NewW.mk fun b w5 n5=>⟨(x4.no n5.ext).of_no,?_⟩
 have x45:=x4.no n5.ext
 have y4:=x4.size
 have obl:∀ q,out.blk=some q->q < w4.heap.size:=fun q hq=>(h.own.lt hq).2
 have h5:MkP w0 w5 Q out L:=⟨h.own.no x45,fun p hp=>(h.pr p hp).ext x45 fun _ _ _ h=>h⟩
 have e5:Own w5.heap w.heap.size 70 2 ⟨some ⟨b,0,none⟩,1,1⟩ (Pr.cs (⟨ks,vs⟩,(kb,vb))):=Own.new (n:=1) (sz:=2) n5 rfl (prOne _)
 have z5:=x45.size
 refine h5.app (s:=⟨some ⟨b,0,none⟩,1,1⟩) (xs:=[(⟨ks,vs⟩,(kb,vb))]) (by omega) (by simpa using e5.rd) (fun p hp=>?_) (by simp; omega) fun s' w' m' x'=>⟨x45.of_no.trans x' fun _ _ h=>h,hJ s' w' m' (x45.of_no.trans x' fun _ _ h=>h)⟩
 rw [List.mem_singleton] at hp; subst hp
 have bd:∀{s:Sl}{l:List Int},OwnB w.heap w4.heap.size s l->∀ q,s.blk=some q->(Q q/\q < w0.heap.size)∨(w0.heap.size<=q/\out.blk≠some q):=fun o q hq=>by
  have:=(o.lt hq).1
  exact .inr ⟨by omega,fun hb=>by have:=obl q hb; omega⟩
 exact ⟨(hk.no n5.ext).rd,(hv.no n5.ext).rd,k8,v8,fun _=>bd hk,fun _=>bd hv⟩
set_option maxHeartbeats 2000000 in
theorem with_spec{Q:Nat->Prop}{s:Sl}{l:List Pr}{x:OpV}{K:Sl->World->Prop}(hl:PrsR w.heap Q s l)(hs:SortK (kvsOf l))(hx:OpA w.heap x)(hf:x.key.length<=100000/\x.val.length<=100000)(hn:l.length<=800000)
  (k:∀ s' L w',MkP w w' Q s' L->kvsOf L=kvOp x.key (opV x.d x.val) (kvsOf l)->L.length<=l.length+1->Ext No w w'->K s' w'):C_ref15_With s x.k x.v x.d w K:=by
 apply S_ref15_With
 have hsl:=hl.len
 refine NewW.mk fun b w1 n1=>⟨_,Cell.lst n1.get rfl,?_⟩
 have hb:=n1.at_; have z1:=n1.size
 refine place_spec (hl.no n1.ext) (Rd.no hx.k n1.ext) hx.k8 (by omega) fun i w2 P x2=>NewW.mk fun b1 w3 n3=>?_
 have hb1:=n3.at_; have z3:=n3.size
 have x03:=(n1.ext.no x2).no n3.ext
 have y2:=x2.size
 have g3:=get_no (get_no n1.get x2) n3.ext
 have hil:i<=l.length:=by have:=P.le; simpa using this
 have hl3:=hl.no x03
 have pq:∀{w':World}{out:Sl}{p:Pr},Ext No w w'->p∈l->PrR w'.heap (fun q=>(Q q/\q < w.heap.size)∨(w.heap.size<=q/\out.blk≠some q)) p:=fun xe hp=>((hl.pr _ hp).mono (Q':=fun q=>Q q/\q < w.heap.size) fun q h1 h2=>⟨h2,h1⟩).ext xe (fun _ _ _ h=>h) |>.mono fun q _ h => .inl h
 refine Cut.pre hl3.rd (prCs_len l) hsl (by omega) (by omega) (by omega) rfl fun sc rc lc=>?_
 simp only [Int.toNat_natCast,Int.toNat_zero,List.drop_zero,Nat.sub_zero] at rc lc
 have m3:MkP w w3 Q ⟨some ⟨b1,0,none⟩,0,0⟩ []:=⟨⟨rfl, .inr ⟨b1,[],rfl,by omega,n3.get,rfl,Nat.le_refl _⟩,by simp⟩,by simp⟩
 refine m3.app (by omega) rc (fun p hp=>pq x03 (List.mem_of_mem_take hp)) (by simp; omega) fun s4 w4 m4 x4=>?_
 rw [List.nil_append] at m4
 have x04:Ext No w w4:=x03.trans x4 fun q hq h=>by simp [Sl.blk] at h; omega
 have y4:=x4.size
 have g4:=get_ext g3 x4 (fun h=>by simp [Sl.blk] at h; omega)
 have s4b:∀ q,s4.blk=some q->w.heap.size<=q/\q < w4.heap.size:=fun q hq=>m4.own.lt hq
 have s4nb:s4.blk≠some b:=fun h=>by
  -- the pairs' block is not the op's
  have:=Own.lt m4.own h
  rcases m4.own.is with ⟨h1,_⟩ | ⟨c,rest,ha,_,hc,_⟩
  .rw [h1] at h; simp [Sl.blk] at h
  .simp [Sl.blk,ha] at h
   subst h
   rw [g4] at hc
   simp at hc
 refine ⟨fun out w'=>∃ L,MkP w w' Q out L/\kvsOf L=(kvsOf l).take i++((opV x.d x.val).map fun v=>(x.key,v)).toList/\L.length<=i+1/\Ext (fun q=>s4.blk=some q) w4 w',⟨_,Cell.lst g4 rfl,If.not (If.cases (fun hd=>?_) fun hd=>?_)⟩,?_⟩
 .exact ⟨_,m4,by rw [hd]; simp [kvsOf,List.map_take],by rw [List.length_take]; omega,Ext.refl _ _⟩
 .have hkv:kvsOf (l.take i++[(⟨⟨none,0,0⟩,⟨none,0,0⟩⟩,(x.key,x.val))])=(kvsOf l).take i++((opV x.d x.val).map fun v=>(x.key,v)).toList:=by rw [hd]; simp [kvsOf,List.map_take,opV]
  have fin:∀{ks vs:Sl}(s':Sl)(w':World),MkP w w' Q s' (l.take i++[(⟨ks,vs⟩,(x.key,x.val))])->Ext (fun q=>s4.blk=some q) w4 w'->∃ L,MkP w w' Q s' L/\kvsOf L=(kvsOf l).take i++((opV x.d x.val).map fun v=>(x.key,v)).toList/\L.length<=i+1/\Ext (fun q=>s4.blk=some q) w4 w':=fun s' w' h1 h2=>⟨_,h1,by rw [<- hkv]; simp [kvsOf],by simp [List.length_take]; omega,h2⟩
  have hw4:w.heap.size<=w4.heap.size:=by omega
  have hli:(l.take i).length<=900000:=by rw [List.length_take]; omega
  have kR:∀{w'},Ext No w4 w'->RdB w'.heap x.k x.key:=fun e=>Rd.no hx.k (x04.no e)
  have vR:∀{w'},Ext No w4 w'->RdB w'.heap x.v x.val:=fun e=>Rd.no hx.v (x04.no e)
  have toN:∀{w' w'':World}{c:Nat},Ext No w4 w'->w4.heap.size<=c->Ext (·=c) w' w''->Ext No w4 w'':=fun e hc e2=>e.trans e2 fun q hq h=>by omega
  refine ⟨Ext (fun q=>s4.blk=some q) w4,(Ext.refl _ _).drew,_,Held.but (Cell.lst g4 rfl) s4nb,_,Held.but (Cell.lst g4 rfl) s4nb,⟨?_,?_⟩⟩
  .refine NewW.mk fun b2 w5 n5=>?_
   have x5:Ext No w4 w5:=n5.ext.drew_left
   have z5:w5.heap.size=w4.heap.size+1:=n5.size
   have hb2:b2=w4.heap.size:=n5.at_
   refine ⟨x5.of_no,⟨?_,?_⟩⟩
   .refine app_lit n5.get w4.heap.size (by omega) (kR x5) hf.1 fun s6 w6 o6 x6 b6=>?_
    have x46:=toN x5 (by omega) x6
    have y6:=x6.size
    refine ⟨x46.of_no,NewW.mk fun b3 w7 n7=>?_⟩
    have x47:=x46.no n7.ext
    have z7:=n7.size; have hb3:=n7.at_
    refine ⟨x47.of_no,app_lit n7.get w4.heap.size (by omega) (vR x47) hf.2 fun s8 w8 o8 x8 b8=>?_⟩
    have x48:=toN x47 (by omega) x8
    refine ⟨x48.of_no,with_tail m4 hw4 x48 ((o6.no n7.ext).ext x8 fun q hq h=>by have:=(o6.lt hq).2; omega) o8 hx.k8 hx.v8 hli fun s' w' h1 h2=>fin s' w' h1 h2⟩
   .refine NewW.mk fun b5 w6 n6=>?_
    have x46:=x5.no n6.ext
    have z6:=n6.size; have hb5:=n6.at_
    refine ⟨x46.of_no,app_lit (get_no n5.get n6.ext) w4.heap.size (by omega) (kR x46) hf.1 fun s7 w7 o7 x7 b7=>?_⟩
    have x47:=toN x46 (by omega) x7
    have y7:=x7.size
    refine ⟨x47.of_no,app_lit (get_ext n6.get x7 (by omega)) w4.heap.size (by omega) (vR x47) hf.2 fun s8 w8 o8 x8 b8=>?_⟩
    have x48:=toN x47 (by omega) x8
    refine ⟨x48.of_no,with_tail m4 hw4 x48 (o7.ext x8 fun q hq h=>?_) o8 hx.k8 hx.v8 hli fun s' w' h1 h2=>fin s' w' h1 h2⟩
    rcases b7 with h3 | ⟨c,h3,h4⟩
    .rw [h3] at hq; cases hq; omega
    .rw [h3] at hq; cases hq; omega
  .refine NewW.mk fun b7 w5 n5=>?_
   have x5:Ext No w4 w5:=n5.ext.drew_left
   have z5:w5.heap.size=w4.heap.size+1:=n5.size
   have hb7:b7=w4.heap.size:=n5.at_
   refine ⟨x5.of_no,NewW.mk fun b8 w6 n6=>?_⟩
   have x46:=x5.no n6.ext
   have z6:=n6.size; have hb8:=n6.at_
   refine ⟨x46.of_no,app_lit n6.get w4.heap.size (by omega) (kR x46) hf.1 fun s7 w7 o7 x7 bb7=>?_⟩
   have x47:=toN x46 (by omega) x7
   have y7:=x7.size
   refine ⟨x47.of_no,app_lit (get_ext (get_no n5.get n6.ext) x7 (by omega)) w4.heap.size (by omega) (vR x47) hf.2 fun s8 w8 o8 x8 bb8=>?_⟩
   have x48:=toN x47 (by omega) x8
   refine ⟨x48.of_no,with_tail m4 hw4 x48 (o7.ext x8 fun q hq h=>?_) o8 hx.k8 hx.v8 hli fun s' w' h1 h2=>fin s' w' h1 h2⟩
   rcases bb7 with h3 | ⟨c,h3,h4⟩
   .rw [h3] at hq; cases hq; omega
   .rw [h3] at hq; cases hq; omega
 rintro _ out w5 ⟨L,m5,hL,hLl,x5⟩
 have x05:Ext No w w5:=x04.trans x5 fun q hq h=>by have:=(s4b q h).1; omega
 have y5:=x5.size
 have hl5:=hl.no x05
 have g5:=get_ext g4 x5 s4nb
 have hlen:∀ k',i<=k'->L.length+((l.drop k').take (l.length - k')).length<=l.length+1:=fun k' hk'=>by rw [List.length_take,List.length_drop]; omega
 have done:∀{k':Nat}{s':Sl}{w':World},i<=k'->(kvHi x.key (kvsOf l)=(kvsOf l).drop k')->MkP w w' Q s' (L++(l.drop k').take (l.length - k'))->Ext (fun q=>out.blk=some q) (drewW w5) w'->K s' w':=fun {k' s' w'} hik hk' m' x'=>by
  refine k s' _ w' m' ?_ (by rw [List.length_append]; exact hlen k' hik) (x05.drew.trans x' fun q hq h=>by have:=(m5.own.lt h).1; omega)
  have e1:(l.drop k').take (l.length - k')=l.drop k':=List.take_of_length_le (by rw [List.length_drop]; omega)
  rw [e1,kvsOf,List.map_append,show List.map Prod.snd L=kvsOf L from rfl,hL]
  unfold kvOp
  rw [P.lo hs,hk',List.append_assoc,List.map_drop]
 have m5d:MkP w (drewW w5) Q out L:=⟨m5.own,m5.pr⟩
 have hdec:∀ h:i < l.length,(∃ h:i < (kvsOf l).length,(kvsOf l)[i].1=x.key) ↔ l[i].2.1=x.key:=fun h=>⟨fun ⟨_,e⟩=>by simpa using e,fun e=>⟨by simpa using h,by simpa using e⟩⟩
 refine ⟨Ext No w5,(Ext.refl _ _).drew,If.dec (fun h=>?_) fun h=>?_⟩
 .have hi':i < l.length:=by omega
  refine Ix.elem hl5.rd (prCs_len l) (by decide) (by omega) h fun bb o hi _ hc=>?_
  simp only [Int.toNat_natCast] at hi hc
  have pj:=hl5.pr _ (List.getElem_mem hi')
  refine ⟨_,Held.cell (hc 0 _ rfl),StrC.mk pj.k (fun bb o v hv=>heldNo hv) ⟨_,Held.cell (Cell.lst g5 rfl),StrC.mk (Rd.no hx.k x05) (fun bb o v hv=>heldNo hv) ?_⟩⟩
  rw [toList_mk,toList_mk]
  refine If.cases (fun he=>?_) fun he=>?_
  .rw [beq_iff_eq,toB_inj pj.k8 hx.k8] at he
   refine Ar.i64 (by omega) (Cut.pre hl5.rd (prCs_len l) hsl (by omega) (by omega) (by omega) rfl fun s6 r6 _=>?_)
   have e1:((i:Int)+1).toNat=i+1:=by omega
   have e2:((s.len:Int)).toNat=l.length:=by omega
   rw [e1,e2] at r6
   refine m5d.app (w:=drewW w5) (by show _<=w5.heap.size; omega) r6 (fun p hp=>pq x05.drew (List.mem_of_mem_drop (List.mem_of_mem_take hp))) (by have:=hlen (i+1) (by omega); omega) fun s7 w7 m7 x7=>done (by omega) ?_ m7 x7
   rw [P.hi hs,if_pos ((hdec hi').2 he)]
  .have he':l[i].2.1≠x.key:=fun e=>by
    have:(toB l[i].2.1 == toB x.key)=true:=by rw [beq_iff_eq,toB_inj pj.k8 hx.k8]; exact e
    rw [this] at he; cases he
   refine Cut.pre hl5.rd (prCs_len l) hsl (by omega) (by omega) (by omega) rfl fun s6 r6 _=>?_
   have e2:((s.len:Int)).toNat=l.length:=by omega
   rw [e2,Int.toNat_natCast] at r6
   refine m5d.app (w:=drewW w5) (by show _<=w5.heap.size; omega) r6 (fun p hp=>pq x05.drew (List.mem_of_mem_drop (List.mem_of_mem_take hp))) (by have:=hlen i (by omega); omega) fun s7 w7 m7 x7=>done (by omega) ?_ m7 x7
   rw [P.hi hs,if_neg fun e=>he' ((hdec hi').1 e)]
 .refine Cut.pre hl5.rd (prCs_len l) hsl (by omega) (by omega) (by omega) rfl fun s6 r6 _=>?_
  have e2:((s.len:Int)).toNat=l.length:=by omega
  rw [e2,Int.toNat_natCast] at r6
  refine m5d.app (w:=drewW w5) (by show _<=w5.heap.size; omega) r6 (fun p hp=>pq x05.drew (List.mem_of_mem_drop (List.mem_of_mem_take hp))) (by have:=hlen i (by omega); omega) fun s7 w7 m7 x7=>done (by omega) ?_ m7 x7
  rw [P.hi hs,if_neg (by rintro ⟨h1,_⟩; simp at h1; omega)]
end
end Go.Proofs.YtcamoanigdfihaaGreat
set_option maxRecDepth 100000
namespace Go.V
end Go.V
namespace Go.Proofs.YtcamoanigdfihaaGreat
open Go.V
section
variable {w:World} {T:Nat->Option Nat} {m:MemV} {M:Mm}
set_option maxHeartbeats 1000000 in
theorem refApply_spec{Q:Nat->Prop}{s ops:Sl}{l:List Pr}{xs:List OpV}{K:Sl->World->Prop}(hl:PrsR w.heap Q s l)(hs:SortK (kvsOf l))(ho:Rd w.heap ops 3 (xs.flatMap OpV.cs))(hx:∀ x∈xs,OpA w.heap x)(hf:∀ x∈xs,x.fit)(hn:l.length+xs.length<=700000)
  (k:∀ s' L w',PrsR w'.heap (fun q=>(Q q/\q < w.heap.size)∨(w.heap.size<=q/\q < w'.heap.size)) s' L->(∀ q,s'.blk=some q->w.heap.size<=q/\q < w'.heap.size)->kvsOf L=opsL xs (kvsOf l)->L.length<=l.length+xs.length->Ext No w w'->K s' w'):C_ref15_Apply s ops w K:=by
 apply S_ref15_Apply
 have hsl:=hl.len
 have hol:ops.len=xs.length:=by have:=ho.len; rw [flat_len' (opCs_len xs)] at this; omega
 refine NewW.mk fun b w1 n1=>?_
 have hb:=n1.at_; have z1:=n1.size
 have m1:MkP w w1 Q ⟨some ⟨b,0,none⟩,0,0⟩ []:=⟨⟨rfl, .inr ⟨b,[],rfl,by omega,n1.get,rfl,Nat.le_refl _⟩,by simp⟩,by simp⟩
 have hl1:=hl.no n1.ext
 refine m1.app (by omega) hl1.rd (fun p hp=>((hl.pr p hp).mono (Q':=fun q=>Q q/\q < w.heap.size) fun q h1 h2=>⟨h2,h1⟩).ext n1.ext (fun _ _ _ h=>h) |>.mono fun q _ h => .inl h) (by simp; omega) fun s2 w2 m2 x2=>?_
 rw [List.nil_append] at m2
 have x02:Ext No w w2:=n1.ext.trans x2 fun q hq h=>by simp [Sl.blk] at h; omega
 refine ⟨fun q out tt w'=>∃ (j:Nat) (L:List Pr),tt=j/\j<=xs.length/\q=xs.length - j/\PrsR w'.heap (fun q=>(Q q/\q < w.heap.size)∨w.heap.size<=q) out L/\(∀ q,out.blk=some q->w.heap.size<=q/\q < w'.heap.size)/\kvsOf L=opsL (xs.take j) (kvsOf l)/\L.length<=l.length+j/\Ext No w w',
  ⟨xs.length,0,l,rfl,by omega,by omega,⟨m2.own.rd,fun p hp=>(m2.pr p hp).mono fun q _ h=>h.imp id fun h=>h.1⟩,fun q hq=>m2.own.lt hq,rfl,by omega,x02⟩,?_⟩
 rintro _ m0 out tt w3 ⟨j,L,rfl,hj,hq,r3,b3,k3,l3,x3⟩
 refine If.dec (fun h=>?_) fun h=>?_
 .have hjl:j < xs.length:=by omega
  refine Ix.elem (ho.no x3) (opCs_len xs) (by decide) (by omega) h fun bb o hi _ hc=>?_
  simp only [Int.toNat_natCast] at hi hc
  have ox:=(hx _ (List.getElem_mem hjl)).no x3
  have fx:=hf _ (List.getElem_mem hjl)
  refine ⟨_,hc 0 _ rfl,_,hc 1 _ rfl,_,hc 2 _ rfl,?_⟩
  refine with_spec r3 (by rw [k3]; exact opsL_sort hs) ox ⟨by have:=fx.1; omega,by have:=fx.2.1; omega⟩ (by omega) fun s4 L4 w4 m4 k4 l4 x4=>Ar.i64 (by omega) ⟨xs.length - (j+1),by omega,j+1,L4,by omega,by omega,rfl,⟨m4.own.rd,fun p hp=>(m4.pr p hp).mono fun q _ h=>?_⟩,fun q hq=>?_,?_,by omega,x3.no x4⟩
  .have:=x3.size
   rcases h with h | h
   .exact h.1
   .exact .inr (by omega)
  .have:=m4.own.lt hq; have:=x3.size; omega
  .rw [k4,k3,List.take_add_one,List.getElem?_eq_getElem hjl,Option.toList_some,opsL_snoc]
 .have hjl:j=xs.length:=by omega
  rw [hjl,List.take_length] at k3
  exact k out L w3 ⟨r3.rd,fun p hp=>(r3.pr p hp).mono fun q h1 h2=>h2.imp id fun h=>⟨h,h1⟩⟩ b3 k3 (by omega) x3
theorem refAllRight_spec{ops:Sl}{xs:List OpV}{K:Bool->World->Prop}(ho:Rd w.heap ops 3 (xs.flatMap OpV.cs))(hx:∀ x∈xs,OpA w.heap x)(hn:xs.length<=1000000)(k:∀ w',Ext No w w'->K (decide (∀ x∈xs,x.fit)) w'):C_ref15_AllRight ops w K:=by
 apply S_ref15_AllRight
 have hol:ops.len=xs.length:=by have:=ho.len; rw [flat_len' (opCs_len xs)] at this; omega
 refine ⟨fun q tt w'=>∃ j:Nat,tt=j/\j<=xs.length/\q=xs.length - j/\(∀ x∈xs.take j,x.fit)/\Ext No w w',⟨xs.length,0,rfl,by omega,by omega,by simp,Ext.refl _ _⟩,?_⟩
 rintro _ m0 tt w1 ⟨j,rfl,hj,hq,hf,x1⟩
 refine If.dec (fun h=>?_) fun h=>?_
 .have hjl:j < xs.length:=by omega
  refine Ix.elem (ho.no x1) (opCs_len xs) (by decide) (by omega) h fun bb o hi _ hc=>?_
  simp only [Int.toNat_natCast] at hi hc
  have ox:=hx _ (List.getElem_mem hjl)
  refine ⟨_,hc 0 _ rfl,_,hc 1 _ rfl,_,hc 2 _ rfl,refRight_spec (RdB.len ox.k) (RdB.len ox.v) fun w2 x2=>If.not (If.dec (fun hft=>Ar.i64 (by omega) ⟨xs.length - (j+1),by omega,j+1,by omega,by omega,rfl,fun x hx'=>?_,x1.no x2⟩) fun hft=>?_)⟩
  .rw [List.take_add_one,List.getElem?_eq_getElem hjl] at hx'
   rcases List.mem_append.1 hx' with h' | h'
   .exact hf x h'
   .simp at h'; rw [h']; exact hft
  .have:=k w2 (x1.no x2)
   rwa [decide_eq_false fun h=>hft (h _ (List.getElem_mem hjl))] at this
 .have hjl:j=xs.length:=by omega
  rw [hjl,List.take_length] at hf
  have:=k w1 x1
  rwa [decide_eq_true hf] at this
def pcs(v:List Int):Nat:=if v.length<=64 then 0 else (v.length+207) / 208
theorem refPieces_spec{s:Sl}{v:List Int}{K:Int->World->Prop}(hs:s.len=v.length)(hn:v.length<=1000000)(k:K (pcs v:Nat) w):C_ref15_Pieces s w K:=by
 apply S_ref15_Pieces
 unfold pcs at k
 refine If.dec (fun h=>?_) fun h=>?_
 .rw [if_pos (by omega)] at k; exact k
 .rw [if_neg (by omega)] at k
  refine Ar.i64 (by omega) (Ar.i64 (by omega) ⟨by decide,?_⟩)
  have e:Int.tdiv ((s.len:Int)+208 - 1) 208=(((v.length+207) / 208:Nat):Int):=by
   rw [hs,Int.tdiv_eq_ediv_of_nonneg (by omega)]; omega
  rw [e]
  exact Ar.i64 (by omega) k
end
end Go.Proofs.YtcamoanigdfihaaGreat
set_option maxRecDepth 100000
namespace Go.V
section
variable {f:Pages} {t:Int}
end
end Go.V
set_option maxRecDepth 100000
namespace Go.V
end Go.V
namespace Go.Proofs.YtcamoanigdfihaaGreat
open Go.V
section
variable {w:World} {T:Nat->Option Nat} {m:MemV} {M:Mm}
end
end Go.Proofs.YtcamoanigdfihaaGreat
set_option maxRecDepth 100000
namespace Go.V
end Go.V
namespace Go.Proofs.YtcamoanigdfihaaGreat
open Go.V
section
variable {w:World} {T:Nat->Option Nat} {m:MemV} {M:Mm}
end
end Go.Proofs.YtcamoanigdfihaaGreat
set_option maxRecDepth 100000
namespace Go.V
end Go.V
namespace Go.Proofs.YtcamoanigdfihaaGreat
open Go.V
section
variable {w:World} {T:Nat->Option Nat} {m:MemV} {M:Mm}
end
end Go.Proofs.YtcamoanigdfihaaGreat
set_option maxRecDepth 100000
namespace Go.Proofs.YtcamoanigdfihaaGreat
open Go.V
section
variable {w:World} {T:Nat->Option Nat} {m:MemV} {M:Mm}
end
end Go.Proofs.YtcamoanigdfihaaGreat
set_option maxRecDepth 100000
namespace Go.V
section
variable {f:Pages} {t:Int}
theorem KidsP.fewer{Q:Rf->List KV->List Rf->Prop}(hQ:∀ r kv p,Q r kv p->kv≠[]){l:List Ent}{kvs:List KV}{ps:List Rf}(h:KidsP Q l kvs ps):l.length<=kvs.length:=by
 induction h with
 | nil=>simp
 | cons h lo hi r ih=>have:=List.length_pos_iff.2 (hQ _ _ _ h); simp only [List.length_cons,List.length_append]; omega
theorem one_page{lev:Nat}{r:Rf}{x:KV}{ps:List Rf}(h:SubT f t lev r [x] ps)(hv:x.2.length<=64):ps=[r]:=by
 cases lev with
 | zero =>
  obtain ⟨l,ps',hN,_,hL,rfl⟩:=h
  cases hL with
  | @cons e _ _ _ p _ he hr =>
   cases hr
   have h2:=he.2
   have h3:RightP 1 0 [e]:=hN.right
   have h4:=(h3.lef.ent e (by simp)).2
   rw [if_neg (by decide)] at h4
   split at h2
   .rw [h2.2]; rfl
   .rename_i h0
    rw [if_neg h0] at h4
    have h5:=h4.2.1; have h6:=h2.1; omega
 | succ lev =>
  obtain ⟨l,ps',_,h2,hk,_⟩:=h
  have:=KidsP.fewer (fun r kv p h=>SubT.ne h) hk
  simp at this; omega
end
end Go.V
namespace Go.Proofs.YtcamoanigdfihaaGreat
open Go.V
section
variable {w:World} {T:Nat->Option Nat} {m:MemV} {M:Mm}
theorem lit1{c:Int}{K:Sl->World->Prop}(k:∀ b w',RdB w'.heap ⟨some ⟨b,0,none⟩,1,1⟩ [c]->w.heap.size<=b->b < w'.heap.size->Ext No w w'->K ⟨some ⟨b,0,none⟩,1,1⟩ w') :
  NewW w (.cells [.int .u8 c].toArray 5) fun b w2=>∃ r:Sl,∃ w3,Sem.run Tryz.prog (convert 40 40 (.slice (some (Addr.mk b 0 none)) 1 1)) w2 = .ok (.slice r.a r.len r.cap) w3/\K r w3:=by
 refine NewW.mk fun b w2 n2=>?_
 obtain ⟨w3,h1,x3,z3,fz,g3⟩:=conv40 (n:=1) (c:=1) n2.get
 have hb:=n2.at_; have z2:=n2.size
 refine ⟨⟨some ⟨b,0,none⟩,1,1⟩,w3,h1,k b w3 ⟨rfl,by simp,fun _=>⟨b,0,rfl,fun i hi=>?_⟩,by simp [oneC]⟩ (by omega) (by omega) (n2.ext.trans x3 fun q hq h=>by omega)⟩
 unfold hcell; rw [g3]
 simp only [List.map_cons,List.map_nil,List.length_cons,List.length_nil] at hi
 have:i=0:=by omega
 subst this; rfl
end
end Go.Proofs.YtcamoanigdfihaaGreat
set_option maxRecDepth 100000
namespace Go.V
end Go.V
namespace Go.Proofs.YtcamoanigdfihaaGreat
open Go.V
section
variable {w:World} {T:Nat->Option Nat} {m:MemV} {M:Mm}
end
end Go.Proofs.YtcamoanigdfihaaGreat
set_option maxRecDepth 100000
namespace Go.V
end Go.V
namespace Go.Proofs.YtcamoanigdfihaaGreat
open Go.V
section
variable {w:World} {T:Nat->Option Nat} {m:MemV} {M:Mm}
end
end Go.Proofs.YtcamoanigdfihaaGreat
set_option maxRecDepth 100000
namespace Go.V
end Go.V
namespace Go.Proofs.YtcamoanigdfihaaGreat
open Go.V
section
variable {w:World} {T:Nat->Option Nat} {m:MemV} {M:Mm}
end
end Go.Proofs.YtcamoanigdfihaaGreat
set_option maxRecDepth 100000
namespace Go.Proofs.YtcamoanigdfihaaGreat
open Go.V
section
variable {w:World} {T:Nat->Option Nat} {m:MemV} {M:Mm}
end
end Go.Proofs.YtcamoanigdfihaaGreat
set_option maxRecDepth 100000
namespace Go.V
end Go.V
namespace Go.Proofs.YtcamoanigdfihaaGreat
open Go.V
section
variable {w:World} {T:Nat->Option Nat} {m:MemV} {M:Mm}
end
end Go.Proofs.YtcamoanigdfihaaGreat
set_option maxRecDepth 100000
namespace Go.Proofs.YtcamoanigdfihaaGreat
open Go.V
section
variable {w:World} {T:Nat->Option Nat} {m:MemV} {M:Mm}
end
end Go.Proofs.YtcamoanigdfihaaGreat
set_option maxRecDepth 100000
namespace Go.V
abbrev encR(q:Rf):Value := .agg (#[.int .u32 q.p, .int .u64 q.c, .int .u16 q.g])
end Go.V
namespace Go.Proofs.YtcamoanigdfihaaGreat
open Go.V
theorem eq36(a x:Rf)(w:World):(Op.equal 36 (encR a) (encR x)).run Tryz.prog w = .ok (decide (a=x)) w:=by
 have h:eqS Tryz.prog 36 [.int .u32 a.p, .int .u64 a.c, .int .u16 a.g] [.int .u32 x.p, .int .u64 x.c, .int .u16 x.g]=some ((a.p == x.p) && ((a.c == x.c) && ((a.g == x.g) && true))):=by kernel_rfl
 have:=(eqS_sound (cs:=#[.int .u32 a.p, .int .u64 a.c, .int .u16 a.g]) (ds:=#[.int .u32 x.p, .int .u64 x.c, .int .u16 x.g]) h).2 w
 have e:((a.p == x.p) && ((a.c == x.c) && ((a.g == x.g) && true)))=decide (a=x):=by
  rw [Bool.eq_iff_iff]
  simp only [Bool.and_eq_true,beq_iff_eq,decide_eq_true_eq]
  constructor
  .rintro ⟨h1,h2,h3,_⟩
   cases a; cases x; simp_all
  .rintro rfl; simp
 rw [e] at this
 exact this
theorem ck36(b:Bool)(a:Rf)(w:World):(Instr.checkKey b 10000 36 (encR a)).run Tryz.prog w = .ok () w:=by kernel_rfl
theorem und36:∃ fs,Tryz.prog.underlying 36=some (.struct fs):=by
 have h:(match Tryz.prog.underlying 36 with | some (.struct _)=>true | _=>false)=true:=by kernel_rfl
 split at h
 .exact ⟨_,by assumption⟩
 .cases h
theorem ref36:KeyOK Tryz.prog 36 encR:=by
 refine ⟨ck36,fun a es m w he=>?_,fun a=>by simp [Instr.sameBits]⟩
 obtain ⟨fs,hu⟩:=und36
 have ask:∀(es:List MapEntry)(m:List (Rf×Value))(i:Nat),es.map (fun e=>(e.key,e.val))=m.map (fun p=>(encR p.1,p.2))->(Instr.findAsking 36 (encR a) es i).run Tryz.prog w = .ok (findA a m i) w:=by
  intro es
  induction es with
  | nil=>intro m i h; cases m with | nil=>rfl | cons=>cases h
  | cons e es ih =>
   intro m i h
   cases m with
   | nil=>cases h
   | cons p m =>
    simp only [List.map_cons,List.cons.injEq,Prod.mk.injEq] at h
    unfold Instr.findAsking findA
    rw [h.1.1]
    simp only [Sem.run_bind,eq36,Result.andThen_ok]
    by_cases hap:a=p.1
    .simp [hap,h.1.2]
    .simp only [hap,decide_false,Bool.false_eq_true,if_false]
     exact ih m (i+1) h.2
 simp only [Instr.findKey,Sem.run_bind,run_und hu,Result.andThen_ok]
 cases es with
 | nil=>cases m with
  | nil=>rfl
  | cons=>cases he
 | cons e es =>
  have:Instr.findNow (.struct fs) (encR a) (e::es) 0=none:=by unfold Instr.findNow; simp [Instr.sameNow]
  rw [this]
  exact ask _ _ 0 he
section
variable {w:World} {T:Nat->Option Nat} {m:MemV} {M:Mm}
theorem map145:Tryz.prog.underlying 145=some (.map 36 4):=by kernel_rfl
abbrev seenM(S:List Rf):List (Rf×Value):=S.map fun q=>(q,Value.bool true)
theorem getA_seen{r:Rf}:∀{S:List Rf},r ∉ S->getA r (seenM S)=none
 | [],_=>rfl
 | q::S,h=>by
  simp only [List.mem_cons,not_or] at h
  show (if r=q then _ else getA r (seenM S))=none
  rw [if_neg h.1]; exact getA_seen h.2
theorem putA_seen{r:Rf}:∀{S:List Rf},r ∉ S->putA r (.bool true) (seenM S)=seenM (S++[r])
 | [],_=>rfl
 | q::S,h=>by
  simp only [List.mem_cons,not_or] at h
  show (if r=q then _ else (q,Value.bool true)::putA r (.bool true) (seenM S))=_
  rw [if_neg h.1,putA_seen h.2]; rfl
structure WkR(h:Array Obj)(m:MemV)(t:Int)(bw sr:Nat)(S:List Rf)(kn pn cn:Nat):Prop where
 at_:h[bw]? = some (.cells [srcV m, .int .u32 t, .map (some sr), .int .i64 kn, .int .i64 pn, .int .i64 cn, .int .u32 0, .int .u64 0, .int .u16 0].toArray 147 (0,0))
 map:MapR h encR sr (seenM S)
theorem WkR.ext{Z:Nat->Prop}{w':World}{t:Int}{bw sr kn pn cn:Nat}{S:List Rf}(W:WkR w.heap m t bw sr S kn pn cn)(x:Ext Z w w')(h1:¬ Z bw)(h2:¬ Z sr):WkR w'.heap m t bw sr S kn pn cn:=⟨get_ext W.at_ x h1,W.map.ext x h2⟩
theorem WkR.no{w':World}{t:Int}{bw sr kn pn cn:Nat}{S:List Rf}(W:WkR w.heap m t bw sr S kn pn cn)(x:Ext No w w'):WkR w'.heap m t bw sr S kn pn cn:=W.ext x (fun h=>h) fun h=>h
theorem WkR.lt{t:Int}{bw sr kn pn cn:Nat}{S:List Rf}(W:WkR w.heap m t bw sr S kn pn cn):bw < w.heap.size/\sr < w.heap.size:=⟨blt W.at_,by obtain ⟨es,c,h,_⟩:=W.map; exact blt h⟩
set_option maxHeartbeats 1000000 in
theorem wpage_spec{t k v:Int}{r:Rf}{pay:List Int}{bw sr kn pn cn:Nat}{S:List Rf}{K:Sl->World->Prop}{X:PX}(R:MemR w.heap T m M)(W:WkR w.heap m t bw sr S kn pn cn)(hb:T bw=none/\T sr=none/\bw≠sr)(h:At M.f r t k v pay)(hn:r ∉ S)(hp:pn<=1000000000)
  (k0:∀ s w',OwnB w'.heap w.heap.size s pay->WkR w'.heap m t bw sr (S++[r]) kn (pn+1) cn->Ext (fun q=>q=bw∨q=sr) w w'->K s w'):C_sound_walk_page (some ⟨bw,0,none⟩) k v r.p r.c r.g w K X:=by
 apply S_sound_walk_page
 refine NewW.mk fun b w1 n1=>?_
 have e1:=n1.at_; have z1:=n1.size
 have W1:=W.no n1.ext
 have lt:=W.lt
 have hbs:b≠sr:=by omega
 refine ⟨fun w'=>Ext No w1 w',?_,?_⟩
 .refine ⟨Ext No w1,(Ext.refl _ _).drew,Nn.mk ⟨_,Held.cell (Cell.lst W1.at_ rfl),_,Held.cell (Cell.lst n1.get rfl),_,Held.cell (Cell.lst n1.get rfl),_,Held.cell (Cell.lst n1.get rfl),false,drewW w1,?_,(Ext.refl _ _).drew,If.no (Ext.refl _ _).drew⟩⟩
  have:=run_lookup (w:=drewW w1) (a:=r) ref36 map145 (z := .bool false) (by kernel_rfl) W1.map
  rw [getA_seen hn] at this
  exact this
 rintro _ w4 x4
 have W4:=W1.no x4
 have g4:=get_no n1.get x4
 obtain ⟨w5,hrun,hmap,x5,z5⟩:=run_mapUpdate (w:=drewW w4) (a:=r) ref36 map145 (v := .bool true) W4.map
 rw [putA_seen hn] at hmap
 have x45:Ext (·=sr) w4 w5:=x5.drew_left
 refine ⟨Ext (·=sr) w4,(Ext.refl _ _).drew,Nn.mk ⟨_,Held.but (Cell.lst W4.at_ rfl) hb.2.2,_,Held.but (Cell.lst g4 rfl) hbs,_,Held.but (Cell.lst g4 rfl) hbs,_,Held.but (Cell.lst g4 rfl) hbs,w5,hrun,x45,?_⟩⟩
 have g5:=get_ext g4 x45 (by omega)
 have a5:=get_ext W4.at_ x45 hb.2.2
 have R5:MemR w5.heap T m M:=((R.no n1.ext).no x4).ext x45 fun q hq=>by rw [hq]; exact hb.2.1
 refine ⟨Ext No w5,(Ext.refl _ _).drew,Nn.mk ⟨_,Held.cell (Cell.lst a5 rfl),Nn.mk ⟨_,Held.cell (Cell.lst a5 rfl),_,Held.cell (Cell.lst g5 rfl),_,Held.cell (Cell.lst g5 rfl),_,Held.cell (Cell.lst g5 rfl),?_⟩⟩⟩
 have R5':MemR (drewW w5).heap T m M:=R5
 refine I_tree_Mem_Get (memGet_at (w:=drewW w5) R5' h fun s w6 o6 x6=>⟨x6.drew_left,fun w'=>w'=w6,If.bne (fun h=>absurd rfl h) fun _=>rfl,?_⟩)
 rintro _ w8 rfl
 have x56:Ext No w5 w8:=x6.drew_left
 have a6:=get_no a5 x56
 refine Nn.mk ⟨_,Cell.lst a6 rfl,Ar.i64 (by omega) (Nn.mk (St1.mk a6 (by show 4 < 9; decide) rfl fun w9 h9=>?_))⟩
 have x9:Ext (·=bw) w8 w9:=h9.ext
 have y4:=x4.size; have y5:=x45.size; have y6:=x56.size
 have o6':OwnB w8.heap w5.heap.size s pay:=o6
 refine k0 s w9 ((o6'.mono (by omega)).ext x9 fun q hq h=>by have:=(o6'.lt hq).1; omega) ⟨h9.get a6,(hmap.ext x56 fun h=>h).ext x9 fun h=>hb.2.2 h.symm⟩ (((((n1.ext.no x4).of_no (S:=fun q=>q=bw∨q=sr)).trans x45 fun q _ h => .inr h).no x56).trans x9 fun q _ h => .inl h)
theorem whas_spec{b0 b1 key:Sl}{lo hi kb:List Int}{K:Bool->World->Prop}(h0:RdB w.heap b0 lo)(l8:B8 lo)(h1:RdB w.heap b1 hi)(i8:B8 hi)(hk:RdB w.heap key kb)(k8:B8 kb)(hlo:¬ LtB kb lo)(hhi:hi=[]∨LtB kb hi)
  (k:∀ w',Ext No w w'->K true w'):C_sound_bounds_has b0 b1 key w K:=by
 apply S_sound_bounds_has
 refine NewW.mk fun b w1 n1=>⟨_,Cell.lst n1.get rfl,compare_spec (Rd.no hk n1.ext) (Rd.no h0 n1.ext) k8 l8 (If.dec (fun _=>⟨_,Cell.lst n1.get rfl,If.beq (fun _=>k w1 n1.ext) fun hz=>?_⟩) fun hg=>absurd (cmpB_ge.2 hlo) hg)⟩
 have hne:hi≠[]:=fun e=>hz (by have:=RdB.len h1; rw [e] at this; simpa using this)
 have hlt:=hhi.resolve_left hne
 refine ⟨_,Cell.lst n1.get rfl,compare_spec (Rd.no hk n1.ext) (Rd.no h1 n1.ext) k8 i8 ?_⟩
 have:cmpB kb hi < 0:=by unfold LtB at hlt; omega
 rw [decide_eq_true this]
 exact k w1 n1.ext
set_option maxHeartbeats 1000000 in
theorem wchain_spec{t:Int}{r:Rf}{cs:List (Rf×List Int)}{bw sr kn pn cn:Nat}{S:List Rf}{K:World->Prop}{X:PX}(R:MemR w.heap T m M)(W:WkR w.heap m t bw sr S kn pn cn)(hb:T bw=none/\T sr=none/\bw≠sr)(c:ChainP M.f t r cs)(hn:(S++cs.map Prod.fst).Nodup)(hp:pn+cs.length<=1000000000)(hc:cn+cs.length<=1000000000)(hl:(chV cs).length<=1000000)
  (k0:∀ w',WkR w'.heap m t bw sr (S++cs.map Prod.fst) kn (pn+cs.length) (cn+cs.length)->Ext (fun q=>q=bw∨q=sr) w w'->K w'):C_sound_walk_chain (some ⟨bw,0,none⟩) r.p r.c r.g (chV cs).length w K X:=by
 apply S_sound_walk_chain
 refine NewW.mk fun b w1 n1=>?_
 have e1:=n1.at_; have z1:=n1.size
 have lt:=W.lt
 refine ⟨fun q left w'=>∃ (r2:Rf) (c1 c2:List (Rf×List Int)),cs=c1++c2/\ChainP M.f t r2 c2/\left=((chV c2).length:Nat)/\q=c2.length/\w'.heap[b]? = some (.cells [.int .u32 r2.p, .int .u64 r2.c, .int .u16 r2.g].toArray 36 (0,0))/\WkR w'.heap m t bw sr (S++c1.map Prod.fst) kn (pn+c1.length) (cn+c1.length)/\Ext (fun q=>q=bw∨q=sr) w w',
  ⟨_,r,[],cs,rfl,c,rfl,rfl,n1.get,by simpa using W.no n1.ext,n1.ext.of_no⟩,?_⟩
 rintro _ m0 left w2 ⟨r2,c1,c2,hcs,c2P,rfl,rfl,g2,W2,x2⟩
 have y2:=x2.size
 have bl:=blt g2
 refine ⟨_,Cell.lst g2 rfl,_,Cell.lst g2 rfl,_,Cell.lst g2 rfl,?_⟩
 rw [z_iff]
 cases c2P with
 | nil =>
  refine If.not (If.dec (fun _=>?_) fun h=>(h rfl).elim)
  have:cs=c1:=by rw [hcs]; simp
  rw [<- this] at W2
  exact k0 w2 W2 x2
 | @cons _ next piece c3 hz ho hat h1 h2 hf h8 cnx =>
  refine If.not (If.dec (fun h=>(hz h).elim) fun _=>⟨_,Cell.lst g2 rfl,_,Cell.lst g2 rfl,_,Cell.lst g2 rfl,?_⟩)
  have hlen:cs.length=c1.length+(c3.length+1):=by rw [hcs]; simp
  have R2:MemR w2.heap T m M:=R.ext x2 fun q hq=>by rcases hq with h | h <;> subst h; exact hb.1; exact hb.2.1
  have hns:r2 ∉ S++c1.map Prod.fst:=fun hm=>by
   rw [hcs,List.map_append,List.map_cons,<- List.append_assoc] at hn
   have:=(List.nodup_append.1 hn).2.2 r2 hm r2 (by simp)
   exact this rfl
  have hv:(chV ((r2,piece)::c3)).length=piece.length+(chV c3).length:=by simp [chV]
  have hv2:(chV ((r2,piece)::c3)).length<=(chV cs).length:=by rw [hcs]; simp [chV]
  refine wpage_spec R2 W2 hb hat hns (by omega) fun s w3 o3 W3 x3=>?_
  have g3:=get_ext g2 x3 (by omega)
  have y3:=x3.size
  refine read_ok o3.rd h1 h2 cnx.ok fun s4 w4 o4 x4=>new_set rfl rfl (by simp [oneC]) fun b1 w6 g6 hb1 z6 x6=>?_
  have x36:=x4.no x6
  have y4:=x4.size; have y6:=x6.size
  have sl:s4.len=piece.length:=by have:=RdB.len o4.rd; exact this
  have g36:=get_no g3 x36
  have W6:=W3.no x36
  rw [hv]
  refine Ar.i64 (by omega) ⟨fun w'=>w'=w6,If.bne (fun h=>(h rfl).elim) fun _=>If.dec (fun h=>by omega) fun _=>⟨_,Cell.lst g6 rfl,_,Cell.lst g6 rfl,_,Cell.lst g6 rfl,?_⟩,?_⟩
  .rw [z_iff]
   have:((((piece.length+(chV c3).length:Nat):Int) - (s4.len:Int) == 0) == decide (next = .z))=true:=by
    rw [beq_iff_eq,Bool.eq_iff_iff,beq_iff_eq,decide_eq_true_eq]
    constructor
    .intro h
     have h0:(chV c3).length=0:=by omega
     cases cnx with
     | nil=>rfl
     | @cons _ _ p3 _ _ _ _ h1' _ _ _ _=>simp [chV] at h0; rw [h0.1] at h1'; simp at h1'
    .intro h
     cases cnx with
     | nil=>simp [chV]; omega
     | cons hz'=>exact (hz' h).elim
   rw [this]; exact If.no rfl
  rintro _ w10 rfl
  refine Nn.mk ⟨_,Cell.lst W6.at_ rfl,Ar.i64 (by omega) (Nn.mk (St1.mk W6.at_ (by show 5 < 9; decide) rfl fun w11 h11=>?_))⟩
  have x11:Ext (·=bw) w10 w11:=h11.ext
  have b1n:b1≠bw:=by omega
  have g11:=get_ext g6 x11 b1n
  have g311:=get_ext g36 x11 (by omega)
  refine ⟨_,Cell.lst g11 rfl,_,Cell.lst g11 rfl,_,Cell.lst g11 rfl,st_all g311 rfl rfl (by simp [oneC]) fun w12 g12 x12 _=>?_⟩
  have x12':Ext (·=b) w11 w12:=x12
  refine ⟨c3.length,by simp,next,c1++[(r2,piece)],c3,by rw [hcs]; simp,cnx,by omega,rfl,g12,?_,(((x2.trans x3 fun q _ h=>h).no x36).trans x11 fun q _ h => .inl h).trans x12' fun q hq h=>by omega⟩
  have W11:WkR w11.heap m t bw sr (S++c1.map Prod.fst++[r2]) kn (pn+c1.length+1) (cn+c1.length+1):=⟨h11.get W6.at_,W6.map.ext x11 fun h=>hb.2.2 h.symm⟩
  have W12:=W11.ext x12' (by omega) (by omega)
  simpa [List.append_assoc,Nat.add_assoc] using W12
end
end Go.Proofs.YtcamoanigdfihaaGreat
set_option maxRecDepth 100000
namespace Go.Proofs.YtcamoanigdfihaaGreat
open Go.V
theorem _root_.Go.V.SubT.opens2{f:Pages}{t:Int}{lev:Nat}{r:Rf}{kvs:List KV}{ps:List Rf}(h:SubT f t lev r kvs ps):∃ l ps',NodeAt f t (kindOf lev) lev r l/\(if lev=0 then 1 else 2)<=l.length/\RestP f t lev l kvs ps'/\ps=r::ps':=by
 cases lev with
 | zero =>
  obtain ⟨l,ps',a,b,c,d⟩:=h
  exact ⟨l,ps',a,by rw [if_pos rfl]; exact List.length_pos_iff.2 b, .inl ⟨rfl,c⟩,d⟩
 | succ lv =>
  obtain ⟨l,ps',a,b,c,d⟩:=h
  refine ⟨l,ps',?_,by rw [if_neg (by omega)]; exact b, .inr ⟨lv,rfl,c⟩,d⟩
  unfold kindOf; rw [if_neg (by omega)]; exact a
def chgP(kvs:List KV):Nat:=(kvs.map fun x=>1+pcs x.2).sum
theorem chgP_app(a b:List KV):chgP (a++b)=chgP a+chgP b:=by simp [chgP]
theorem leaf_walk{f:Pages}{t i:Int}{e:Ent}{x:KV}{p:List Rf}(h:LeafE f t e x p)(he:entP 1 i e):∃ cs,ChainP f t e.ch cs/\cs.map Prod.fst=p/\e.n=((chV cs).length:Nat)/\cs.length=pcs x.2/\(chV cs).length<=1024:=by
 obtain ⟨hk,h2⟩:=h
 obtain ⟨_,he⟩:=he
 rw [if_neg (by decide)] at he
 obtain ⟨_,he⟩:=he
 by_cases hn:e.n=0
 .rw [if_pos hn] at h2 he
  refine ⟨[],by rw [he.1]; exact .nil,by rw [h2.2]; rfl,by simpa [chV] using hn,?_,by simp [chV]⟩
  unfold pcs; rw [if_pos (by rw [<- h2.1]; exact he.2)]; rfl
 .rw [if_neg hn] at h2 he
  obtain ⟨h3,cs,hc,hv,hp⟩:=h2
  have hs:=(chain_sizes hc).2.1
  have e1:(chV cs).length=x.2.length:=by rw [hv]
  refine ⟨cs,hc,hp,by rw [e1]; exact h3,?_,by omega⟩
  unfold pcs; rw [if_neg (by omega)]; omega
def InB(lo hi:List Int)(k:List Int):Prop:=¬ LtB k lo/\(hi=[]∨LtB k hi)
theorem _root_.Go.V.LeafL.inb{f:Pages}{t:Int}{lo hi:List Int}{l:List Ent}{kvs:List KV}{ps:List Rf}(h:LeafL f t l kvs ps)(hk:∀ x∈kvs,InB lo hi x.1):∀ e∈l,InB lo hi e.key:=by
 induction h with
 | nil=>intro e he; cases he
 | cons h r ih =>
  intro e he
  rcases List.mem_cons.1 he with h1 | h1
  .rw [h1,h.1]; exact hk _ List.mem_cons_self
  .exact ih (fun x hx=>hk x (List.mem_cons_of_mem _ hx)) e h1
theorem _root_.Go.V.KidsP.inb{Q:Rf->List KV->List Rf->Prop}{lo hi:List Int}(hQ:∀ r kv p,Q r kv p->kv≠[]){l:List Ent}{kvs:List KV}{ps:List Rf}(h:KidsP Q l kvs ps)(hk:∀ x∈kvs,InB lo hi x.1):∀ j (hj:j < l.length),1<=j->InB lo hi l[j].key:=by
 induction h with
 | nil=>intro j hj; simp at hj
 | @cons e l kv kvs p ps h hlo hhi r ih =>
  intro j hj h1
  obtain ⟨j,rfl⟩ : ∃ i,j=i+1:=⟨j - 1,by omega⟩
  simp only [List.length_cons] at hj
  rw [List.getElem_cons_succ]
  rcases Nat.eq_zero_or_pos j with h2 | h2
  .subst h2
   cases r with
   | nil=>simp at hj
   | @cons e2 l2 kv2 kvs2 p2 ps2 h' lo' hi' r' =>
    obtain ⟨x,hx⟩:=List.exists_mem_of_ne_nil _ (hQ _ _ _ h)
    obtain ⟨y,hy⟩:=List.exists_mem_of_ne_nil _ (hQ _ _ _ h')
    have k1:=hk x (List.mem_append_left _ hx)
    have k2:=hk y (List.mem_append_right _ (List.mem_append_left _ hy))
    have hlt:=hhi e2 l2 rfl x hx
    refine ⟨fun h3=>k1.1 (hlt.trans h3),k2.2.imp id fun h3=>LtB.of_le (lo' y hy) h3⟩
  .exact ih (fun x hx=>hk x (List.mem_append_right _ hx)) j (by omega) h2
section
variable {T:Nat->Option Nat} {m:MemV} {M:Mm}
set_option maxHeartbeats 4000000 in
theorem wnode_spec{t:Int}{bw sr:Nat}(hb:T bw=none/\T sr=none/\bw≠sr):∀(lev:Nat){w:World}{r:Rf}{kvs:List KV}{ps:List Rf}{lo hi:List Int}{b0 b1:Sl}{S:List Rf}{kn pn cn:Nat}{K:World->Prop}{X:PX},MemR w.heap T m M->SubT M.f t lev r kvs ps->lev<=30->WkR w.heap m t bw sr S kn pn cn ->
  RdB w.heap b0 lo->B8 lo->(lo≠[]->∀ q,b0.blk=some q->q≠bw/\q≠sr)->RdB w.heap b1 hi->B8 hi->(hi≠[]->∀ q,b1.blk=some q->q≠bw/\q≠sr)->(∀ x∈kvs,InB lo hi x.1)->(S++ps).Nodup->kn+kvs.length<=1000000000->pn+ps.length<=1000000000->cn+chgP kvs<=1000000000 ->
  (∀ w',WkR w'.heap m t bw sr (S++ps) (kn+kvs.length) (pn+ps.length) (cn+chgP kvs)->Ext (fun q=>q=bw∨q=sr) w w'->K w')->C_sound_walk_node (some ⟨bw,0,none⟩) r.p r.c r.g lev b0 b1 w K X:=by
 intro lev
 induction lev using Nat.strongRecOn with
 | _ lev ih =>
 intro w r kvs ps lo hi b0 b1 S kn pn cn K X R hS hlev W hlo l8 hlq hhi i8 hhq hin hnd hkn hpn hcn k0
 apply S_sound_walk_node
 refine NewW.mk fun b w1 n1=>NewW.mk fun b1' w2 n2=>?_
 have e1:=n1.at_; have e2:=n2.at_; have z1:=n1.size; have z2:=n2.size
 have x02:=n1.ext.no n2.ext
 have g12:=get_no n1.get n2.ext
 obtain ⟨l,ps',hN,hmin,hrest,rfl⟩:=hS.opens2
 have lt:=W.lt
 have hns:r ∉ S:=fun h=>(List.nodup_append.1 hnd).2.2 r h r (by simp) rfl
 simp only [List.length_cons] at hpn
 refine ⟨fun kind least w'=>kind=kindOf lev/\least=(if lev=0 then 1 else 2:Nat)/\w'=w2,⟨_,Cell.lst g12 rfl,If.dec (fun h=>⟨by unfold kindOf; rw [if_neg (by omega)],by rw [if_neg (by omega)]; rfl,rfl⟩) fun h=>⟨by unfold kindOf; rw [if_pos (by omega)],by rw [if_pos (by omega)]; rfl,rfl⟩⟩,?_⟩
 rintro _ kind least w3 ⟨rfl,rfl,rfl⟩
 refine ⟨_,Cell.lst g12 rfl,_,Cell.lst g12 rfl,_,Cell.lst g12 rfl,_,Cell.lst g12 rfl,?_⟩
 refine wpage_spec (R.no x02) (W.no x02) hb hN.at_ hns (by omega) fun s w4 o4 W4 x4=>?_
 have y4:=x4.size
 have p8:B8 (pad (wr (kindOf lev) lev l)):=by
  obtain ⟨pg,h1,h2,h3,h4,h5,h6⟩:=hN.at_
  rw [<- h6]; exact (R.find h1).p8
 refine decode_ok o4.rd hN.right hN.short p8 (fun e he=>(hN.ok e he).1) fun s5 N5 w5 o5 eL x5=>new_set rfl rfl (by simp [oneC]) fun b2 w7 g7 hb2 z7 x7=>?_
 have x57:=x5.no x7
 have y5:=x5.size; have y7:=x7.size
 have x47:Ext (fun q=>q=bw∨q=sr) w w7:=(x02.of_no.trans x4 fun _ _ h=>h).no x57
 have g17:=get_no (get_ext g12 x4 (by omega)) x57
 have g27:=get_no (get_ext n2.get x4 (by omega)) x57
 have W7:=W4.no x57
 have R7:MemR w7.heap T m M:=R.ext x47 fun q hq=>by rcases hq with h | h <;> subst h; exact hb.1; exact hb.2.1
 have nd7:=(o5.no x7).nd
 have hcnt:=wr_count hN.short
 have hsl:s5.len=l.length:=by have:=nd7.len; have:=ents_len eL; omega
 have q7:NdQ w7.heap (fun q=>w4.heap.size<=q) s5 N5:=(o5.no x7).q fun q h1 _=>h1
 refine ⟨fun w'=>w'=w7,⟨fun tt w'=>tt=false/\w'=w7,If.bne (fun h=>(h rfl).elim) fun _=>⟨_,Cell.lst g7 rfl,If.bne (fun h=>(h rfl).elim) fun _=>⟨_,Cell.lst g7 rfl,_,Cell.lst g17 rfl,If.bne (fun h=>(h rfl).elim) fun _=>⟨_,Cell.lst g7 rfl,decide_eq_false (by omega),rfl⟩⟩⟩,?_⟩,?_⟩
 .rintro _ tt w8 ⟨rfl,rfl⟩; exact If.no rfl
 rintro _ w10 rfl
 have eN:∀{j:Nat}(hj:j < N5.length)(hjl:j < l.length),N5[j].2=l[j]:=fun {j} hj hjl=>by
  have:=congrArg (fun l=>l[j]?) eL
  simp only [List.getElem?_map,List.getElem?_eq_getElem hj,List.getElem?_eq_getElem hjl,Option.map_some,Option.some.injEq] at this
  exact this
 have keyin:∀ j (hj:j < l.length),l[j].key≠[]->InB lo hi l[j].key:=fun j hj hne=>by
  rcases hrest with ⟨h0,hL⟩ | ⟨lv,hlv,hK⟩
  .exact hL.inb hin _ (List.getElem_mem hj)
  .rcases Nat.eq_zero_or_pos j with h | h
   .subst h
    have h2:=(hN.right.ent 0 hj).1
    rw [show kindOf (lev:Int)=2 by unfold kindOf; rw [if_neg (by omega)]] at h2
    unfold keyP at h2
    rw [if_pos ⟨rfl,rfl⟩] at h2
    exact (hne (List.length_eq_zero_iff.1 (by omega))).elim
   .exact hK.inb (fun _ _ _ h=>h.ne) hin j hj h
 refine ⟨_,Cell.lst g7 rfl,?_⟩
 have nbk:∀{q},w3.heap.size<=q->q≠bw/\q≠sr:=fun h=>by omega
 have hlo7:RdB w10.heap b0 lo:=Rd.extE (Rd.no hlo x02) (x4.no x57) fun hn q _ hq h=>by have:=hlq (by simpa using hn) q hq; omega
 have hhi7:RdB w10.heap b1 hi:=Rd.extE (Rd.no hhi x02) (x4.no x57) fun hn q _ hq h=>by have:=hhq (by simpa using hn) q hq; omega
 refine ⟨fun q i w'=>∃ j:Nat,i=j/\j<=l.length/\q=l.length - j/\Ext No w10 w',⟨l.length,0,rfl,by omega,by omega,Ext.refl _ _⟩,?_⟩
 rintro _ m0 i w11 ⟨j,rfl,hj,hq,x11⟩
 refine If.dec (fun h=>?_) fun h=>?_
 .have hjl:j < l.length:=by omega
  refine ent_copy (nd7.no x11).rd (by omega) h fun b4 w13 hi4 g13 hb4 z13 x13=>?_
  simp only [Int.toNat_natCast] at hi4 g13
  have x1013:=x11.no x13
  have er:=(nd7.no x1013).get hi4
  have ej:=eN hi4 hjl
  have hkl:(N5[j].1.k.len:Int)=(l[j].key.length:Nat):=by rw [<- ej]; have:=RdB.len er.k; omega
  refine ⟨fun tt w'=>tt=false/\Ext No w13 w',⟨_,Cell.lst g13 rfl,If.dec (fun hpos=>?_) fun _=>⟨rfl,Ext.refl _ _⟩⟩,?_⟩
  .have hne:l[j].key≠[]:=fun e=>by rw [e] at hkl; simp at hkl; omega
   have hkin:=keyin j hjl hne
   refine ⟨_,Cell.lst (get_no g27 x1013) rfl,_,Cell.lst (get_no g27 x1013) rfl,_,Cell.lst g13 rfl,whas_spec (Rd.no hlo7 x1013) l8 (Rd.no hhi7 x1013) i8 er.k (by rw [ej]; exact (hN.ok _ (List.getElem_mem hjl)).2.1) (by rw [ej]; exact hkin.1) (by rw [ej]; exact hkin.2) fun w14 x14=>⟨rfl,x14⟩⟩
  rintro _ tt w15 ⟨rfl,x15⟩
  exact If.no (Ar.i64 (by omega) ⟨l.length - (j+1),by omega,j+1,by omega,by omega,rfl,x1013.no x15⟩)
 refine ⟨_,Cell.lst (get_no g7 x11) rfl,?_⟩
 refine ⟨fun q i w'=>∃ (j:Nat) (kv1 kv2:List KV) (p1 p2:List Rf),i=j/\j<=l.length/\q=l.length - j/\RestP M.f t lev (l.drop j) kv2 p2/\kvs=kv1++kv2/\ps'=p1++p2/\WkR w'.heap m t bw sr (S++r::p1) (kn+kv1.length) (pn+1+p1.length) (cn+chgP kv1)/\Ext (fun q=>q=bw∨q=sr) w11 w',
  ⟨l.length,0,[],kvs,[],ps',rfl,by omega,by omega,by simpa using hrest,rfl,rfl,by simpa [chgP] using W7.no x11,Ext.refl _ _⟩,?_⟩
 rintro _ m1 i w17 ⟨j2,kv1,kv2,p1,p2,rfl,hj2,hq2,hrest2,hkv,hps,W17,x17⟩
 have y11:=x11.size; have y17:=x17.size
 have R17:MemR w17.heap T m M:=(R7.no x11).ext x17 fun q hq=>by rcases hq with h | h <;> subst h; exact hb.1; exact hb.2.1
 have q17:NdQ w17.heap (fun q=>w4.heap.size<=q) s5 N5:=(q7.no x11).ext x17 fun q _ hq h=>by omega
 have nd17:=q17.nd
 have hll:ps'.length=p1.length+p2.length:=by rw [hps]; simp
 have hkl2:kvs.length=kv1.length+kv2.length:=by rw [hkv]; simp
 have hcl2:chgP kvs=chgP kv1+chgP kv2:=by rw [hkv,chgP_app]
 have hlo17:RdB w17.heap b0 lo:=Rd.extE (Rd.no hlo7 x11) x17 fun hn q _ hq h=>by have:=hlq (by simpa using hn) q hq; omega
 have hhi17:RdB w17.heap b1 hi:=Rd.extE (Rd.no hhi7 x11) x17 fun hn q _ hq h=>by have:=hhq (by simpa using hn) q hq; omega
 have g117:=get_ext (get_no g17 x11) x17 (by omega)
 have g217:=get_ext (get_no g27 x11) x17 (by omega)
 have g717:=get_ext (get_no g7 x11) x17 (by omega)
 have x017:Ext (fun q=>q=bw∨q=sr) w w17:=(x47.no x11).trans x17 fun _ _ h=>h
 refine If.dec (fun h2=>?_) fun h2=>?_
 .have hjl:j2 < l.length:=by omega
  refine ent_copy nd17.rd (by omega) h2 fun b6 w19 hi6 g19 hb6 z19 x19=>⟨_,Cell.lst (get_no g117 x19) rfl,?_⟩
  simp only [Int.toNat_natCast] at hi6 g19
  have er:=(nd17.no x19).get hi6
  have ej:=eN hi6 hjl
  have W19:=W17.no x19
  have R19:=R17.no x19
  refine If.beq (fun hz=>?_) fun hz=>?_
  .have h0:lev=0:=by omega
   have hL:LeafL M.f t (l.drop j2) kv2 p2:=by
    rcases hrest2 with ⟨_,hL⟩ | ⟨lv,hlv,_⟩
    .exact hL
    .omega
   rw [List.drop_eq_getElem_cons hjl] at hL
   cases hL with
   | @cons _ _ x kvs2 p pr2 hE hL2 =>
   have hent:=hN.right.ent j2 hjl
   rw [show kindOf (lev:Int)=1 by rw [h0]; rfl] at hent
   obtain ⟨cs,hc,hcp,hcn,hcl,hcv⟩:=leaf_walk hE hent
   have hcs:cs.length=p.length:=by rw [<- hcp]; simp
   simp only [List.length_cons,List.length_append] at hkl2 hll
   have hch:chgP (x::kvs2)=1+pcs x.2+chgP kvs2:=by simp [chgP]
   refine Nn.mk ⟨_,Cell.lst W19.at_ rfl,Ar.i64 (by omega) (Nn.mk (St1.mk W19.at_ (by show 3 < 9; decide) rfl fun w20 h20=>?_))⟩
   have x20:Ext (·=bw) w19 w20:=h20.ext
   have a20:w20.heap[bw]? = some (.cells [srcV m, .int .u32 t, .map (some sr), .int .i64 ((kn+kv1.length:Nat)+1), .int .i64 (pn+1+p1.length:Nat), .int .i64 (cn+chgP kv1:Nat), .int .u32 0, .int .u64 0, .int .u16 0].toArray 147 (0,0)):=h20.get W19.at_
   refine Nn.mk ⟨_,Cell.lst a20 rfl,Ar.i64 (by omega) (Nn.mk (St1.mk a20 (by show 5 < 9; decide) rfl fun w21 h21=>?_))⟩
   have x21:Ext (·=bw) w20 w21:=h21.ext
   have x1921:=x20.trans x21 fun _ _ h=>h
   have W21:WkR w21.heap m t bw sr (S++r::p1) (kn+kv1.length+1) (pn+1+p1.length) (cn+chgP kv1+1):=⟨h21.get a20,W19.map.ext x1921 fun h=>hb.2.2 h.symm⟩
   have g21:=get_ext g19 x1921 (by omega)
   refine ⟨_,Cell.lst g21 rfl,_,Cell.lst g21 rfl,_,Cell.lst g21 rfl,_,Cell.lst g21 rfl,?_⟩
   rw [er.ch,show N5[j2].1.n=N5[j2].2.n from er.n,ej,hcn]
   have R21:MemR w21.heap T m M:=R19.ext x1921 fun q hq=>by rw [hq]; exact hb.1
   have hnd2:(S++r::p1++cs.map Prod.fst).Nodup:=by
    rw [hcp]
    rw [hps] at hnd
    have e:S++r::(p1++(p++pr2))=(S++r::p1++p)++pr2:=by simp
    rw [e] at hnd
    exact (List.nodup_append.1 hnd).1
   refine wchain_spec R21 W21 hb hc hnd2 (by omega) (by omega) (by omega) fun w22 W22 x22=>Ar.i64 (by omega) ⟨l.length - (j2+1),by omega,j2+1,kv1++[x],kvs2,p1++p,pr2,by omega,by omega,rfl, .inl ⟨h0,hL2⟩,by rw [hkv]; simp,by rw [hps]; simp,?_,(((x17.no x19).trans x1921 fun q _ h => .inl h).trans x22 fun _ _ h=>h)⟩
   have e1:S++r::p1++cs.map Prod.fst=S++r::(p1++p):=by rw [hcp]; simp
   have e2:kn+kv1.length+1=kn+(kv1++[x]).length:=by simp; omega
   have e3:pn+1+p1.length+cs.length=pn+1+(p1++p).length:=by simp; omega
   have e4:cn+chgP kv1+1+cs.length=cn+chgP (kv1++[x]):=by rw [chgP_app]; simp [chgP]; omega
   rw [e1,e2,e3,e4] at W22
   exact W22
  .have hKK:∃ lv,lev=lv+1/\KidsP (SubT M.f t lv) (l.drop j2) kv2 p2:=by
    rcases hrest2 with ⟨h0,_⟩ | h
    .omega
    .exact h
   obtain ⟨lv,hlv,hK⟩:=hKK
   rw [List.drop_eq_getElem_cons hjl] at hK
   generalize hrst:l.drop (j2+1)=lr at hK
   cases hK with
   | @cons _ _ kv kvs2 p pr2 hkid lo' hi' hK2 =>
   simp only [List.length_append] at hkl2 hll
   rw [chgP_app] at hcl2
   refine ⟨_,Cell.lst (get_no g217 x19) rfl,_,Cell.lst (get_no g217 x19) rfl,new_set rfl rfl (by simp [oneC]) fun b7 w24 g24 hb7 z24 x24=>?_⟩
   have x1724:=x19.no x24
   have y24:=x1724.size; have y19:=x19.size
   have q24:=q17.no x1724
   have g1924:=get_no g19 x24
   have hb67:b6≠b7:=by have:=blt g19; omega
   have inkv:∀ x∈kv,x∈kvs:=fun x hx=>by rw [hkv]; exact List.mem_append_right _ (List.mem_append_left _ hx)
   have kfact:∀{j3:Nat}(hj3:j3 < N5.length)(q:Nat),N5[j3].1.k.blk=some q->q≠bw/\q≠sr/\q≠b7:=fun {j3} hj3 q hq=>by
    have h1:=q17.kb _ (List.getElem_mem hj3) q (.inl hq)
    have h2:=h1.1; have h3:=h1.2.1
    exact ⟨by omega,by omega,by omega⟩
   have e24:=q24.nd
   refine ⟨fun w'=>∃ (low:Sl) (lo2:List Int),w'.heap[b7]? = some (.cells [.slice low.a low.len low.cap, .slice b1.a b1.len b1.cap].toArray 150 (0,0))/\RdB w24.heap low lo2/\B8 lo2/\(lo2≠[]->∀ q,low.blk=some q->q≠bw/\q≠sr/\q≠b7)/\(∀ x∈kv,¬ LtB x.1 lo2)/\Ext (·=b7) w24 w',
    If.dec (fun _=>⟨_,Cell.lst g1924 rfl,St1.mk g24 (by show 0 < 2; decide) rfl fun w25 h25=>⟨N5[j2].1.k,N5[j2].2.key,h25.get g24,(e24.get hi6).k,by rw [ej]; exact (hN.ok _ (List.getElem_mem hjl)).2.1,fun _=>kfact hi6,by rw [ej]; exact lo',h25.ext⟩⟩) fun _=>⟨b0,lo,g24,Rd.no hlo17 x1724,l8,fun hn q hq=>⟨(hlq hn q hq).1,(hlq hn q hq).2,by have:=Rd.lt hlo (by simpa using hn) hq; omega⟩,fun x hx=>(hin x (inkv x hx)).1,Ext.refl _ _⟩,?_⟩
   rintro _ w26 ⟨low,lo2,g26,hl1,hl2,hl3,hl4,x26⟩
   have g726:=get_ext (get_no g717 x1724) x26 (by have:=blt g7; omega)
   have q26:NdQ w26.heap (fun q=>w4.heap.size<=q) s5 N5:=by
    have h1:NdQ w24.heap (fun q=>w4.heap.size<=q/\q < w17.heap.size) s5 N5:=((q17.mono (B':=fun q=>w4.heap.size<=q/\q < w17.heap.size) fun q h1 h2=>⟨h2,h1⟩)).no x1724
    exact (h1.ext x26 fun q _ hq h=>by omega).mono fun q _ h=>h.1
   have nd26:=q26.nd
   refine ⟨fun w'=>∃ (high:Sl) (hi2:List Int),w'.heap[b7]? = some (.cells [.slice low.a low.len low.cap, .slice high.a high.len high.cap].toArray 150 (0,0))/\RdB w24.heap high hi2/\B8 hi2/\(hi2≠[]->∀ q,high.blk=some q->q≠bw/\q≠sr/\q≠b7)/\(∀ x∈kv,hi2=[]∨LtB x.1 hi2)/\Ext (·=b7) w24 w',
    Ar.i64 (by omega) ⟨_,Cell.lst g726 rfl,If.dec (fun h3=>⟨_,Cell.lst g726 rfl,Ar.i64 (by omega) (Ix.elem nd26.rd (entCs_len _) (by decide) (by omega) (by omega) fun bb o hi7 _ hc=>?_)⟩) fun h3=>⟨b1,hi,g26,Rd.no hhi17 x1724,i8,fun hn q hq=>⟨(hhq hn q hq).1,(hhq hn q hq).2,by have:=Rd.lt hhi (by simpa using hn) hq; omega⟩,fun x hx=>(hin x (inkv x hx)).2,x26⟩⟩,?_⟩
   .have et:((j2:Int)+1).toNat=j2+1:=by omega
    simp only [et] at hi7 hc
    have hj3:j2+1 < l.length:=by omega
    have ej3:=eN hi7 hj3
    refine ⟨_,hc 0 _ rfl,St1.mk g26 (by show 1 < 2; decide) rfl fun w27 h27=>⟨N5[j2+1].1.k,N5[j2+1].2.key,h27.get g26,(e24.get hi7).k,by rw [ej3]; exact (hN.ok _ (List.getElem_mem hj3)).2.1,fun _=>kfact hi7,fun x hx => .inr ?_,x26.trans h27.ext fun _ _ h=>h⟩⟩
    rw [ej3]
    exact hi' l[j2+1] (l.drop (j2+1+1)) (by rw [<- hrst,List.drop_eq_getElem_cons hj3]) x hx
   rintro _ w28 ⟨high,hi2,g28,hh1,hh2,hh3,hh4,x28⟩
   have g628:=get_ext g1924 x28 hb67
   have g128:=get_ext (get_no g117 x1724) x28 (by omega)
   refine ⟨_,Cell.lst g628 rfl,_,Cell.lst g628 rfl,_,Cell.lst g628 rfl,_,Cell.lst g128 rfl,Ar.u8 (by omega) ⟨_,Cell.lst g28 rfl,_,Cell.lst g28 rfl,?_⟩⟩
   rw [er.cd,ej,show (lev:Int) - 1=((lv:Nat):Int) by omega]
   have hnd2:(S++r::p1++p).Nodup:=by
    rw [hps] at hnd
    have e:S++r::(p1++(p++pr2))=(S++r::p1++p)++pr2:=by simp
    rw [e] at hnd
    exact (List.nodup_append.1 hnd).1
   have x1728:Ext (·=b7) w17 w28:=x1724.of_no.trans x28 fun _ _ h=>h
   have b7n:b7≠bw/\b7≠sr:=by omega
   refine ih lv (by omega) ((R17.no x1724).ext x28 fun q hq=>(R17.no x19).supT (by omega)) hkid (by omega) ((W17.no x1724).ext x28 (fun h=>b7n.1 h.symm) fun h=>b7n.2 h.symm) (Rd.extE hl1 x28 fun hn q _ hq h=>(hl3 (by simpa using hn) q hq).2.2 h) hl2 (fun hn q hq=>⟨(hl3 hn q hq).1,(hl3 hn q hq).2.1⟩) (Rd.extE hh1 x28 fun hn q _ hq h=>(hh3 (by simpa using hn) q hq).2.2 h) hh2 (fun hn q hq=>⟨(hh3 hn q hq).1,(hh3 hn q hq).2.1⟩) (fun x hx=>⟨hl4 x hx,hh4 x hx⟩) hnd2 (by omega) (by omega) (by omega) fun w29 W29 x29=>Ar.i64 (by omega) ⟨l.length - (j2+1),by omega,j2+1,kv1++kv,kvs2,p1++p,pr2,by omega,by omega,rfl, .inr ⟨lv,hlv,by rw [hrst]; exact hK2⟩,by rw [hkv]; simp,by rw [hps]; simp,?_,(x17.trans x1728 fun q hq h=>by omega).trans x29 fun _ _ h=>h⟩
   have e1:S++r::p1++p=S++r::(p1++p):=by simp
   have e2:kn+kv1.length+kv.length=kn+(kv1++kv).length:=by simp; omega
   have e3:pn+1+p1.length+p.length=pn+1+(p1++p).length:=by simp; omega
   have e4:cn+chgP kv1+chgP kv=cn+chgP (kv1++kv):=by rw [chgP_app]; omega
   rw [e1,e2,e3,e4] at W29
   exact W29
 .have hjl:j2=l.length:=by omega
  rw [hjl,List.drop_length] at hrest2
  have hem:kv2=[]/\p2=[]:=by
   rcases hrest2 with ⟨_,h⟩ | ⟨_,_,h⟩
   .cases h; exact ⟨rfl,rfl⟩
   .cases h; exact ⟨rfl,rfl⟩
  obtain ⟨rfl,rfl⟩:=hem
  rw [List.append_nil] at hkv hps
  subst hkv hps
  exact k0 w17 (by simpa [Nat.add_assoc,Nat.add_comm 1] using W17) x017
end
end Go.Proofs.YtcamoanigdfihaaGreat
set_option maxRecDepth 100000
namespace Go.Proofs.YtcamoanigdfihaaGreat
open Go.V
section
variable {w:World} {T:Nat->Option Nat} {m:MemV} {M:Mm}
set_option maxHeartbeats 1000000 in
theorem wpage_no{t t' k v:Int}{r:Rf}{pay:List Int}{bw sr kn pn cn:Nat}{S:List Rf}{K:Sl->World->Prop}{X:PX}(R:MemR w.heap T m M)(W:WkR w.heap m t' bw sr S kn pn cn)(hb:T bw=none/\T sr=none/\bw≠sr)(h:At M.f r t k v pay)(ht:t'≠t)(hn:r ∉ S)
  (kx:∀ b w',w'.heap[b]? = some (.cells [.int .i64 150, .int .u32 r.p, .int .u64 r.c, .int .u16 r.g].toArray 143 (0,0))->w.heap.size<=b->Ext (fun q=>q=bw∨q=sr) w w'->X [{ v := .iface 141 (.pointer (some ⟨b,0,none⟩)),recovered:=false }] w'):C_sound_walk_page (some ⟨bw,0,none⟩) k v r.p r.c r.g w K X:=by
 obtain ⟨pg,p1,p2,p3,p4,p5,p6⟩:=h
 have p1':pgA r.p M.pages=some pg:=p1
 apply S_sound_walk_page
 refine NewW.mk fun b w1 n1=>?_
 have e1:=n1.at_; have z1:=n1.size
 have W1:=W.no n1.ext
 have lt:=W.lt
 have hbs:b≠sr:=by omega
 refine ⟨fun w'=>Ext No w1 w',?_,?_⟩
 .refine ⟨Ext No w1,(Ext.refl _ _).drew,Nn.mk ⟨_,Held.cell (Cell.lst W1.at_ rfl),_,Held.cell (Cell.lst n1.get rfl),_,Held.cell (Cell.lst n1.get rfl),_,Held.cell (Cell.lst n1.get rfl),false,drewW w1,?_,(Ext.refl _ _).drew,If.no (Ext.refl _ _).drew⟩⟩
  have:=run_lookup (w:=drewW w1) (a:=r) ref36 map145 (z := .bool false) (by kernel_rfl) W1.map
  rw [getA_seen hn] at this
  exact this
 rintro _ w4 x4
 have W4:=W1.no x4
 have g4:=get_no n1.get x4
 obtain ⟨w5,hrun,hmap,x5,z5⟩:=run_mapUpdate (w:=drewW w4) (a:=r) ref36 map145 (v := .bool true) W4.map
 have x45:Ext (·=sr) w4 w5:=x5.drew_left
 refine ⟨Ext (·=sr) w4,(Ext.refl _ _).drew,Nn.mk ⟨_,Held.but (Cell.lst W4.at_ rfl) hb.2.2,_,Held.but (Cell.lst g4 rfl) hbs,_,Held.but (Cell.lst g4 rfl) hbs,_,Held.but (Cell.lst g4 rfl) hbs,w5,hrun,x45,?_⟩⟩
 have g5:=get_ext g4 x45 hbs
 have a5:=get_ext W4.at_ x45 hb.2.2
 have R5:MemR w5.heap T m M:=((R.no n1.ext).no x4).ext x45 fun q hq=>by rw [hq]; exact hb.2.1
 refine ⟨Ext No w5,(Ext.refl _ _).drew,Nn.mk ⟨_,Held.cell (Cell.lst a5 rfl),Nn.mk ⟨_,Held.cell (Cell.lst a5 rfl),_,Held.cell (Cell.lst g5 rfl),_,Held.cell (Cell.lst g5 rfl),_,Held.cell (Cell.lst g5 rfl),?_⟩⟩⟩
 have R5':MemR (drewW w5).heap T m M:=R5
 refine I_tree_Mem_Get (memGet_spec (w:=drewW w5) R5' (fun q s w' hq ht' _ _ _ _ _=>?_) (fun w' hq _=>?_) fun q w6 hq _ x6=>⟨x6.drew_left,fun w'=>False,If.bne (fun _=>?_) fun h=>absurd h (by decide),fun _ _ h=>h.elim⟩)
 .rw [p1'] at hq; cases hq; exact (ht (ht'.symm.trans p3)).elim
 .rw [p1'] at hq; cases hq
 .have x56:Ext No w5 w6:=x6.drew_left
  have g6:=get_no g5 x56
  refine ⟨_,Cell.lst g6 rfl,_,Cell.lst g6 rfl,_,Cell.lst g6 rfl,NewW.mk fun b1 w7 n7=>kx b1 w7 n7.get ?_ (((((n1.ext.no x4).of_no (S:=fun q=>q=bw∨q=sr)).trans x45 fun q _ h => .inr h).no x56).no n7.ext)⟩
  have:=n7.at_; have:=x4.size; have:=x45.size; have:=x56.size; omega
theorem wnode_no{t t':Int}{r:Rf}{lev:Nat}{kvs:List KV}{ps:List Rf}{bw sr kn pn cn:Nat}{S:List Rf}{b0 b1:Sl}{K:World->Prop}{X:PX}(R:MemR w.heap T m M)(W:WkR w.heap m t' bw sr S kn pn cn)(hb:T bw=none/\T sr=none/\bw≠sr)(hS:SubT M.f t lev r kvs ps)(ht:t'≠t)(hn:r ∉ S)
  (kx:∀ b w',w'.heap[b]? = some (.cells [.int .i64 150, .int .u32 r.p, .int .u64 r.c, .int .u16 r.g].toArray 143 (0,0))->w.heap.size<=b->Ext (fun q=>q=bw∨q=sr) w w'->X [{ v := .iface 141 (.pointer (some ⟨b,0,none⟩)),recovered:=false }] w'):C_sound_walk_node (some ⟨bw,0,none⟩) r.p r.c r.g lev b0 b1 w K X:=by
 apply S_sound_walk_node
 refine NewW.mk fun b w1 n1=>NewW.mk fun b1' w2 n2=>?_
 have z1:=n1.size; have z2:=n2.size
 have x02:=n1.ext.no n2.ext
 have g12:=get_no n1.get n2.ext
 obtain ⟨l,ps',hN,_⟩:=hS.opens2
 refine ⟨fun kind least w'=>kind=kindOf lev/\w'=w2,⟨_,Cell.lst g12 rfl,If.dec (fun h=>⟨by unfold kindOf; rw [if_neg (by omega)],rfl⟩) fun h=>⟨by unfold kindOf; rw [if_pos (by omega)],rfl⟩⟩,?_⟩
 rintro _ kind least w3 ⟨rfl,rfl⟩
 refine ⟨_,Cell.lst g12 rfl,_,Cell.lst g12 rfl,_,Cell.lst g12 rfl,_,Cell.lst g12 rfl,?_⟩
 exact wpage_no (R.no x02) (W.no x02) hb hN.at_ ht hn fun b3 w4 g4 h4 x4=>kx b3 w4 g4 (by omega) (x02.of_no.trans x4 fun _ _ h=>h)
end
end Go.Proofs.YtcamoanigdfihaaGreat
set_option maxRecDepth 100000
namespace Go.Proofs.YtcamoanigdfihaaGreat
open Go.V
section
variable {w:World} {T:Nat->Option Nat} {m:MemV} {M:Mm}
theorem f67_ok{b1 b2 xb:Nat}{e p c g:Int}{cs:List Value}{v:Value}{K:World->Prop}(hx:w.heap[xb]? = some (.cells [.int .i64 e, .int .u32 p, .int .u64 c, .int .u16 g].toArray 143 (0,0)))(h1:w.heap[b1]? = some (.cells cs.toArray 49 (0,0)))(hl:cs.length=6)(h2:w.heap[b2]? = some (.cells [v].toArray 50 (0,0)))(hn:xb≠b1/\xb≠b2/\b1≠b2)
  (k:∀ w',w'.heap[b1]? = some (.cells [.int .i64 0, .int .i64 0, .int .i64 0, .int .u32 p, .int .u64 c, .int .u16 g].toArray 49 (0,0))->w'.heap[b2]? = some (.cells [.int .i64 e].toArray 50 (0,0))->Ext (fun q=>q=b1∨q=b2) w w'->K w'):F67 ⟨b1,0,none⟩ ⟨b2,0,none⟩ ⟨xb,0,none⟩ w K:=by
 have nx:¬ (xb=b1∨xb=b2):=by omega
 refine ⟨Ext (fun q=>q=b1∨q=b2) w,(Ext.refl _ _).drew,Nn.mk ⟨_,Held.but (Cell.lst hx rfl) nx,_,Held.but (Cell.lst hx rfl) nx,_,Held.but (Cell.lst hx rfl) nx,Nn.mk ⟨_,Held.but (Cell.lst hx rfl) nx,st_all (w:=drewW w) h1 rfl hl (by simp [oneC]) fun w1 g1 x1 _=>?_⟩⟩⟩
 have x01:Ext (·=b1) w w1:=x1.drew_left
 have g2:=get_ext h2 x01 (by omega)
 have x01':Ext (fun q=>q=b1∨q=b2) w w1:=(Ext.refl _ _).trans x01 fun q _ h => .inl h
 refine ⟨x01',St1.b1 g2 rfl fun w2 h=>?_⟩
 have x2:Ext (·=b2) w1 w2:=h.ext
 have x02:=x01'.trans x2 fun q _ h => .inr h
 exact ⟨x02,k w2 (get_ext g1 x2 (by omega)) (h.get g2) x02⟩
theorem check_nil{t:Int}{p c g lev:Int}{K:Int->Int->Int->Int->Int->Int->Int->World->Prop}(k:∀ w',Ext No w w'->K 0 0 0 0 0 0 1 w'):C_sound_Check .nilIface t p c g lev w K:=by
 apply S_sound_Check
 refine NewW.mk fun b w1 n1=>NewW.mk fun b1 w2 n2=>NewW.mk fun b2 w3 n3=>⟨trivial,If.yes ?_⟩
 have e2:=n2.at_; have e3:=n3.at_; have z2:=n2.size; have z1:=n1.size
 have g2:=get_no n2.get n3.ext
 refine ⟨_,Cell.lst g2 rfl,_,Cell.lst g2 rfl,_,Cell.lst g2 rfl,_,Cell.lst g2 rfl,_,Cell.lst g2 rfl,_,Cell.lst g2 rfl,st_all g2 rfl rfl (by simp [oneC]) fun w4 g4 x4 _=>?_⟩
 have g34:=get_ext n3.get x4 (by omega)
 refine St1.b1 g34 rfl fun w5 h5=>?_
 have x5:Ext (·=b2) w4 w5:=h5.ext
 have g5:=get_ext g4 x5 (by omega)
 have g6:=h5.get g34
 refine ⟨_,Cell.lst g5 rfl,_,Cell.lst g5 rfl,_,Cell.lst g5 rfl,_,Cell.lst g5 rfl,_,Cell.lst g5 rfl,_,Cell.lst g5 rfl,_,Cell.lst g6 rfl,k w5 ?_⟩
 have x03:Ext No w w3:=(n1.ext.no n2.ext).no n3.ext
 exact (x03.trans x4 fun q hq h=>by omega).trans x5 fun q hq h=>by omega
theorem check_z{t:Int}{K:Int->Int->Int->Int->Int->Int->Int->World->Prop}(k:∀ w',Ext No w w'->K 0 0 0 0 0 0 0 w'):C_sound_Check (srcV m) t 0 0 0 0 w K:=by
 apply S_sound_Check
 refine NewW.mk fun b w1 n1=>NewW.mk fun b1 w2 n2=>NewW.mk fun b2 w3 n3=>⟨trivial,If.no (NewW.mk fun b3 w6 n6=>⟨rfl,NewW.mk fun b4 w7 n7=>?_⟩)⟩
 have e1:=n1.at_; have e2:=n2.at_; have e3:=n3.at_; have e6:=n6.at_; have e7:=n7.at_
 have z1:=n1.size; have z2:=n2.size; have z3:=n3.size; have z6:=n6.size; have z7:=n7.size
 have x37:Ext No w3 w7:=n6.ext.no n7.ext
 have g17:=get_no n1.get ((n2.ext.no n3.ext).no x37)
 have g27:=get_no n2.get (n3.ext.no x37)
 have g37:=get_no n3.get x37
 have g77:=n7.get
 refine ⟨_,Cell.lst g17 rfl,_,Cell.lst g17 rfl,_,Cell.lst g17 rfl,_,Cell.lst g17 rfl,If.not (If.yes (Nn.mk ⟨_,Cell.lst g77 rfl,_,Cell.lst g77 rfl,_,Cell.lst g77 rfl,_,Cell.lst g77 rfl,_,Cell.lst g77 rfl,_,Cell.lst g77 rfl,st_all g27 rfl rfl (by simp [oneC]) fun w4 g4 x4 _=>?_⟩))⟩
 have g34:=get_ext g37 x4 (by omega)
 refine St1.b1 g34 rfl fun w5 h5=>?_
 have x5:Ext (·=b2) w4 w5:=h5.ext
 have g5:=get_ext g4 x5 (by omega)
 have g6:=h5.get g34
 refine ⟨_,Cell.lst g5 rfl,_,Cell.lst g5 rfl,_,Cell.lst g5 rfl,_,Cell.lst g5 rfl,_,Cell.lst g5 rfl,_,Cell.lst g5 rfl,_,Cell.lst g6 rfl,k w5 ?_⟩
 have x07:Ext No w w7:=((n1.ext.no n2.ext).no n3.ext).no x37
 exact (x07.trans x4 fun q hq h=>by omega).trans x5 fun q hq h=>by omega
theorem check_spec{t:Int}{p c g lev:Int}{K:Int->Int->Int->Int->Int->Int->Int->World->Prop}(hz:¬ (p=0/\c=0/\g=0/\lev=0))
  (h:∀ bw sr w1,WkR w1.heap m t bw sr [] 0 0 0->bw≠sr->w.heap.size<=bw->w.heap.size<=sr->Ext No w w1->∀(K1:World->Prop)(X1:PX),
   (∀ S kn pn cn w',WkR w'.heap m t bw sr S kn pn cn->Ext (fun q=>q=bw∨q=sr) w1 w'->(∀ w'',Ext No w w''->K kn pn cn 0 0 0 0 w'')->K1 w') ->
   (∀ b e p c g w',w'.heap[b]? = some (.cells [.int .i64 e, .int .u32 p, .int .u64 c, .int .u16 g].toArray 143 (0,0))->w1.heap.size<=b->Ext (fun q=>q=bw∨q=sr) w1 w'->(∀ w'',Ext No w w''->K 0 0 0 p c g e w'')->X1 [{ v := .iface 141 (.pointer (some ⟨b,0,none⟩)),recovered:=false }] w') ->
   C_sound_walk_node (some ⟨bw,0,none⟩) p c g lev ⟨none,0,0⟩ ⟨none,0,0⟩ w1 K1 X1):C_sound_Check (srcV m) t p c g lev w K:=by
 apply S_sound_Check
 refine NewW.mk fun b w1 n1=>NewW.mk fun b1 w2 n2=>NewW.mk fun b2 w3 n3=>⟨trivial,If.no (NewW.mk fun b3 w6 n6=>⟨rfl,NewW.mk fun b4 w7 n7=>?_⟩)⟩
 have e1:=n1.at_; have e2:=n2.at_; have e3:=n3.at_; have e6:=n6.at_; have e7:=n7.at_
 have z1:=n1.size; have z2:=n2.size; have z3:=n3.size; have z6:=n6.size; have z7:=n7.size
 have x37:Ext No w3 w7:=n6.ext.no n7.ext
 have x07:Ext No w w7:=((n1.ext.no n2.ext).no n3.ext).no x37
 have g17:=get_no n1.get ((n2.ext.no n3.ext).no x37)
 have g27:=get_no n2.get (n3.ext.no x37)
 have g37:=get_no n3.get x37
 have hc:(((p == 0) && ((c == 0) && ((g == 0) && true))) && ((lev == 0) && true))=false:=by
  rw [Bool.eq_false_iff]; simp only [ne_eq,Bool.and_eq_true,beq_iff_eq,and_true]; rintro ⟨⟨h1,h2,h3⟩,h4⟩; exact hz ⟨h1,h2,h3,h4⟩
 refine ⟨_,Cell.lst g17 rfl,_,Cell.lst g17 rfl,_,Cell.lst g17 rfl,_,Cell.lst g17 rfl,?_⟩
 rw [hc]
 refine If.not (If.no ⟨_,Cell.lst g17 rfl,_,Cell.lst g17 rfl,_,Cell.lst g17 rfl,_,Cell.lst g17 rfl,?_⟩)
 refine h b4 b3 w7 ⟨n7.get,⟨#[],0,get_no n6.get n7.ext,rfl,BornOK.nil⟩⟩ (by omega) (by omega) (by omega) x07 _ _ (fun S kn pn cn w8 W8 x8 hk=>?_) fun xb e p c g w8 hx hxb x8 hk=>?_
 .have g28:=get_ext g27 x8 (by omega)
  have g38:=get_ext g37 x8 (by omega)
  have g88:=W8.at_
  refine Nn.mk ⟨_,Cell.lst g88 rfl,_,Cell.lst g88 rfl,_,Cell.lst g88 rfl,_,Cell.lst g88 rfl,_,Cell.lst g88 rfl,_,Cell.lst g88 rfl,st_all g28 rfl rfl (by simp [oneC]) fun w4 g4 x4 _=>?_⟩
  have g34:=get_ext g38 x4 (by omega)
  refine St1.b1 g34 rfl fun w5 h5=>?_
  have x5:Ext (·=b2) w4 w5:=h5.ext
  have g5:=get_ext g4 x5 (by omega)
  have g6:=h5.get g34
  refine ⟨_,Cell.lst g5 rfl,_,Cell.lst g5 rfl,_,Cell.lst g5 rfl,_,Cell.lst g5 rfl,_,Cell.lst g5 rfl,_,Cell.lst g5 rfl,_,Cell.lst g6 rfl,hk w5 ?_⟩
  exact ((x07.trans x8 fun q hq h=>by omega).trans x4 fun q hq h=>by omega).trans x5 fun q hq h=>by omega
 .have g28:=get_ext g27 x8 (by omega)
  have g38:=get_ext g37 x8 (by omega)
  refine ⟨⟨xb,0,none⟩,rfl,f67_ok hx g28 rfl g38 (by omega) fun w5 g5 g6 x5=>⟨_,Cell.lst g5 rfl,_,Cell.lst g5 rfl,_,Cell.lst g5 rfl,_,Cell.lst g5 rfl,_,Cell.lst g5 rfl,_,Cell.lst g5 rfl,_,Cell.lst g6 rfl,hk w5 ?_⟩⟩
  exact (x07.trans x8 fun q hq h=>by omega).trans x5 fun q hq h=>by omega
theorem check_ok{t:Int}{lev:Nat}{r:Rf}{kvs:List KV}{ps:List Rf}{K:Int->Int->Int->Int->Int->Int->Int->World->Prop}(R:MemR w.heap T m M)(hT:TreeT M.f t r lev kvs ps)(hl:lev<=30)(hnd:ps.Nodup)(hk:kvs.length<=1000000000)(hp:ps.length<=1000000000)(hc:chgP kvs<=1000000000)
  (k:∀ w',Ext No w w'->K kvs.length ps.length (chgP kvs:Nat) 0 0 0 0 w'):C_sound_Check (srcV m) t r.p r.c r.g lev w K:=by
 rcases hT with ⟨rfl,h1,rfl,rfl⟩ | ⟨hr,_,hS⟩
 .have:lev=0:=by omega
  subst this; exact check_z k
 refine check_spec (fun h=>hr (by cases r; simp only [Rf.z,Rf.mk.injEq]; exact ⟨h.1,h.2.1,h.2.2.1⟩)) fun bw sr w1 W hbs hb hs x1 K1 X1 k1 kx=>?_
 have R1:=R.no x1
 refine wnode_spec ⟨R.supT hb,R.supT hs,hbs⟩ lev R1 (by simpa using hS) hl W (Rd.nil _ _) B8.nil (fun h=>(h rfl).elim) (Rd.nil _ _) B8.nil (fun h=>(h rfl).elim) (fun x _=>⟨?_, .inl rfl⟩) (by simpa using hnd) (by omega) (by omega) (by omega) fun w2 W2 x2=>k1 _ _ _ _ w2 W2 x2 fun w3 x3=>?_
 .unfold LtB; cases x.1 <;> simp [cmpB]
 .have:=k w3 x3; simpa using this
theorem check_no{t t':Int}{lev:Nat}{r:Rf}{kvs:List KV}{ps:List Rf}{K:Int->Int->Int->Int->Int->Int->Int->World->Prop}(R:MemR w.heap T m M)(hr:r ≠ .z)(hS:SubT M.f t lev r kvs ps)(ht:t'≠t)
  (k:∀ w',Ext No w w'->K 0 0 0 r.p r.c r.g 150 w'):C_sound_Check (srcV m) t' r.p r.c r.g lev w K:=by
 refine check_spec (fun h=>hr (by cases r; simp only [Rf.z,Rf.mk.injEq]; exact ⟨h.1,h.2.1,h.2.2.1⟩)) fun bw sr w1 W hbs hb hs x1 K1 X1 k1 kx=>?_
 exact wnode_no (R.no x1) W ⟨R.supT hb,R.supT hs,hbs⟩ hS ht (by simp) fun b w2 g2 hb2 x2=>kx b _ _ _ _ w2 g2 hb2 x2 k
end
end Go.Proofs.YtcamoanigdfihaaGreat
set_option maxRecDepth 100000
namespace Go.Proofs.YtcamoanigdfihaaGreat
open Go.V
section
variable {w:World} {T:Nat->Option Nat} {m:MemV} {M:Mm}
end
end Go.Proofs.YtcamoanigdfihaaGreat
set_option maxRecDepth 100000
namespace Go.Proofs.YtcamoanigdfihaaGreat
open Go.V
section
variable {w:World} {T:Nat->Option Nat} {m:MemV} {M:Mm}
theorem wnode_form{t:Int}{r:Rf}{lev:Nat}{l:List Ent}{bw sr kn pn cn:Nat}{S:List Rf}{b0 b1:Sl}{K:World->Prop}{X:PX}(R:MemR w.heap T m M)(W:WkR w.heap m t bw sr S kn pn cn)(hb:T bw=none/\T sr=none/\bw≠sr)(hN:NodeAt M.f t (kindOf lev) lev r l)(hl:l.length < if lev=0 then 1 else 2)(hn:r ∉ S)(hp:pn<=1000000000)
    (kx:∀ b w',w'.heap[b]? = some (.cells [.int .i64 5, .int .u32 r.p, .int .u64 r.c, .int .u16 r.g].toArray 143 (0,0))->w.heap.size<=b->Ext (fun q=>q=bw∨q=sr) w w'->X [{ v := .iface 141 (.pointer (some ⟨b,0,none⟩)),recovered:=false }] w'):C_sound_walk_node (some ⟨bw,0,none⟩) r.p r.c r.g lev b0 b1 w K X:=by
  apply S_sound_walk_node
  refine NewW.mk fun b w1 n1=>NewW.mk fun b1' w2 n2=>?_
  have e1:=n1.at_; have e2:=n2.at_; have z1:=n1.size; have z2:=n2.size
  have x02:=n1.ext.no n2.ext
  have g12:=get_no n1.get n2.ext
  have lt:=W.lt
  refine ⟨fun kind least w'=>kind=kindOf lev/\least=(if lev=0 then 1 else 2:Nat)/\w'=w2,⟨_,Cell.lst g12 rfl,If.dec (fun h=>⟨by unfold kindOf; rw [if_neg (by omega)],by rw [if_neg (by omega)]; rfl,rfl⟩) fun h=>⟨by unfold kindOf; rw [if_pos (by omega)],by rw [if_pos (by omega)]; rfl,rfl⟩⟩,?_⟩
  rintro _ kind least w3 ⟨rfl,rfl,rfl⟩
  refine ⟨_,Cell.lst g12 rfl,_,Cell.lst g12 rfl,_,Cell.lst g12 rfl,_,Cell.lst g12 rfl,?_⟩
  refine wpage_spec (R.no x02) (W.no x02) hb hN.at_ hn (by omega) fun s w4 o4 W4 x4=>?_
  have y4:=x4.size
  have p8:B8 (pad (wr (kindOf lev) lev l)):=by
    obtain ⟨pg,h1,h2,h3,h4,h5,h6⟩:=hN.at_
    rw [<- h6]; exact (R.find h1).p8
  refine decode_ok o4.rd hN.right hN.short p8 (fun e he=>(hN.ok e he).1) fun s5 N5 w5 o5 eL x5=>new_set rfl rfl (by simp [oneC]) fun b2 w7 g7 hb2 z7 x7=>?_
  have x57:=x5.no x7
  have y5:=x5.size; have y7:=x7.size
  have g17:=get_no (get_ext g12 x4 (by omega)) x57
  have nd7:=(o5.no x7).nd
  have hsl:s5.len=l.length:=by have:=nd7.len; have:=ents_len eL; omega
  refine ⟨fun _=>False,⟨fun tt w'=>tt=true/\w'=w7,If.bne (fun h=>(h rfl).elim) fun _=>⟨_,Cell.lst g7 rfl,If.bne (fun h=>(h rfl).elim) fun _=>⟨_,Cell.lst g7 rfl,_,Cell.lst g17 rfl,If.bne (fun h=>(h rfl).elim) fun _=>⟨_,Cell.lst g7 rfl,decide_eq_true (by omega),rfl⟩⟩⟩,?_⟩,fun _ _ h=>h.elim⟩
  rintro _ tt w8 ⟨rfl,rfl⟩
  refine If.yes ⟨_,Cell.lst g17 rfl,_,Cell.lst g17 rfl,_,Cell.lst g17 rfl,NewW.mk fun b3 w9 n9=>kx b3 w9 n9.get ?_ (((x02.of_no.trans x4 fun _ _ h=>h).no x57).no n9.ext)⟩
  have:=n9.at_; omega
theorem one_right{r:Rf}(hr:r ≠ .z):RightP 2 1 [⟨[],[],0, .z,r⟩]/\(wr 2 1 [⟨[],[],0, .z,r⟩]).length<=224:=by
 refine ⟨⟨.inr ⟨rfl,by decide,by decide⟩,fun _=>by simp,fun i hi=>?_,fun i hi=>?_⟩,?_⟩
 .simp only [List.length_cons,List.length_nil] at hi
  have:i=0:=by omega
  subst this
  exact ⟨by unfold keyP; rw [if_pos ⟨rfl,rfl⟩]; rfl,by rw [if_pos rfl]; exact ⟨hr,rfl,rfl,rfl⟩⟩
 .simp at hi
 .simp [wr,wrE,refB_len]
set_option maxHeartbeats 1000000 in
theorem known17{K:Bool->World->Prop}(k:∀ w',Ext No w w'->K true w'):C_law17_known w K:=by
 apply S_law17_known
 refine newMem_spec (by omega) fun T m w1 R1 hT x1=>lit1 fun c1 w2 r1 hc1 hl1 x2=>lit1 fun c2 w3 r2 hc2 hl2 x3=>NewW.mk fun b5 w12 n12=>?_
 have sup:∀ q,w1.heap.size<=q->T q=none:=fun q hq=>R1.supT hq
 have s2:=x2.size; have s3:=x3.size; have z12:=n12.size
 have x112:Ext No w1 w12:=(x2.no x3).no n12.ext
 have R12:=R1.no x112
 have b8:∀ c:Int,0<=c->c<=255->B8 [c]:=fun c h1 h2=>by intro y hy; rw [List.mem_singleton] at hy; subst hy; omega
 generalize hxs:([⟨⟨some ⟨c1,0,none⟩,1,1⟩,⟨some ⟨c2,0,none⟩,1,1⟩,false,[97],[49]⟩]:List OpV)=xs
 have hops:Rd w12.heap ⟨some ⟨b5,0,none⟩,1,1⟩ 3 (xs.flatMap OpV.cs):=by
  rw [<- hxs]; exact (Own.new n12 rfl (by simp [oneC])).rd
 have hlen:xs.length=1:=by rw [<- hxs]; rfl
 have hx:∀ x∈xs,OpR w12.heap T x:=fun x hx=>by
  rw [<- hxs,List.mem_singleton] at hx
  have bl:∀{c:Nat},w1.heap.size<=c->c < w12.heap.size->∀ q,(⟨some ⟨c,0,none⟩,1,1⟩ : Sl).blk=some q->T q=none/\q < w12.heap.size:=fun {c} h1 h2 q hq=>by
   simp [Sl.blk] at hq; subst hq; exact ⟨sup _ h1,h2⟩
  subst hx
  exact ⟨Rd.no r1 (x3.no n12.ext),Rd.no r2 n12.ext,b8 _ (by decide) (by decide),b8 _ (by decide) (by decide),fun _=>bl (by omega) (by omega),fun _=>bl (by omega) (by omega)⟩
 have hkv:opsL xs []=[([97],[49])]:=by
  rw [<- hxs]; show kvOp [97] (some [49]) []=_; decide
 refine apply_spec (t:=5) (lev:=0) (r := .z) (kvs:=[]) (ps:=[]) R12 (.inl ⟨rfl,rfl,rfl,rfl⟩) (by omega) (fun q=>by simp) hops hx (by omega) (by simp) (fun w' hb _=>?_) fun r' lv' ps' T' m' M' w13 _ A=>?_
 .exfalso
  obtain ⟨x,hx',hf⟩:=hb
  rw [<- hxs,List.mem_singleton] at hx'
  subst hx'
  exact hf (by simp [OpV.fit])
 obtain ⟨R13,hbm,tg,x13,tr,hlv,cg⟩:=A
 rw [hkv] at tr
 have x013:Ext No w w13:=(x1.no x112).trans x13 fun q hq h=>h (hT q hq)
 have hsrc:(Value.iface 24 (.pointer (some ⟨m.bm,0,none⟩)))=srcV m':=(srcV_eq hbm).symm
 have hS:r' ≠ .z/\SubT M'.f 5 lv' r' [([97],[49])] ps':=by
  rcases tr with ⟨_,_,h,_⟩ | ⟨h1,_,h⟩
  .cases h
  .exact ⟨h1,by simpa using h⟩
 have hps:ps'=[r']:=one_page hS.2 (by decide)
 refine new_set rfl rfl (by simp [oneC]) fun b6 w15 g15 hb6 z15 x15=>⟨_,Cell.lst g15 rfl,_,Cell.lst g15 rfl,_,Cell.lst g15 rfl,_,Cell.lst g15 rfl,?_⟩
 rw [hsrc]
 have hch:chgP [(([97]:List Int),([49]:List Int))]=1:=by decide
 refine check_ok (R13.no x15) tr hlv (by rw [hps]; simp) (by simp) (by rw [hps]; simp) (by rw [hch]; decide) fun w16 x16=>new_set rfl rfl (by simp [oneC]) fun b7 w18 g18 hb7 z18 x18=>?_
 have g1518:=get_no (get_no g15 x16) x18
 refine ⟨_,Cell.lst g1518 rfl,_,Cell.lst g1518 rfl,_,Cell.lst g1518 rfl,NewW.mk fun b8' w19 n19=>?_⟩
 have x1319:=((x15.no x16).no x18).no n19.ext
 have R19:=R13.no x1319
 have o19:Own w19.heap w18.heap.size 133 9 ⟨some ⟨b8',0,none⟩,1,1⟩ (([(⟨⟨none,0,0⟩,⟨none,0,0⟩,0, .z,r'⟩,⟨[],[],0, .z,r'⟩)]:List (EntV×Ent)).flatMap entCs):=Own.new (n:=1) (sz:=9) n19 rfl (by simp [entCs,EntV.cs,oneC])
 have hro:r'.ok:=by
  have:∃ p,M'.f r'.p=some p/\p.r=r':=by
   obtain ⟨l,p',hN,_⟩:=hS.2.opens2
   obtain ⟨pg,h1,h2,_⟩:=hN.at_
   exact ⟨pg,h1,h2⟩
  obtain ⟨pg,h1,h2⟩:=this
  have:=(R13.find h1).ok
  rw [h2] at this; exact this
 have nd19:NdR w19.heap ⟨some ⟨b8',0,none⟩,1,1⟩ [(⟨⟨none,0,0⟩,⟨none,0,0⟩,0, .z,r'⟩,⟨[],[],0, .z,r'⟩)]:=⟨o19.rd,fun p hp=>by
  rw [List.mem_singleton] at hp; subst hp
  exact ⟨Rd.nil _ _,Rd.nil _ _,rfl,rfl,rfl,B8.nil,B8.nil,(by show (-9223372036854775808:Int)<=0/\(0:Int)<=_; omega),(by show Rf.z.ok; decide),hro⟩⟩
 have hri:=one_right hS.1
 refine encode_spec nd19 (by simp) (fun t20 w20 _ _ o20 x20=>?_) fun c w20 hno _ _=>(hno hri).elim
 have g1820:=get_no (get_no g18 n19.ext) x20
 have x1320:=x1319.no x20
 refine ⟨fun w'=>w'=w20,If.bne (fun h=>(h rfl).elim) fun _=>If.bne (fun h=>(h rfl).elim) fun _=>If.bne (fun h=>(h rfl).elim) fun _=>⟨_,Cell.lst g1820 rfl,_,Cell.lst g1820 rfl,_,Cell.lst g1820 rfl,_,Cell.lst g1820 rfl,_,Cell.lst g1820 rfl,_,Cell.lst g1820 rfl,?_⟩,?_⟩
 .rw [hch,hps]; exact If.no rfl
 rintro _ w21 rfl
 rw [<- hbm]
 have R20:=R13.no x1320
 have hM13:M'.pages.length<=60:=by have:=cg.len; rw [hlen] at this; simp at this; omega
 refine memPut_spec R20 o20.rd (pad_b8 (wr_b8 (by decide) (by decide) fun e he=>?_)) (by omega) (fun n T2 m2 w22 hPl hfree R22 hbm2 tg2 x22=>?_) fun w22 hPl _=>?_
 .rw [show ents [((⟨⟨none,0,0⟩,⟨none,0,0⟩,0, .z,r'⟩ : EntV),(⟨[],[],0, .z,r'⟩ : Ent))]=[⟨[],[],0, .z,r'⟩] from rfl,List.mem_singleton] at he
  subst he; exact ⟨B8.nil,B8.nil⟩
 .refine new_set rfl rfl (by simp [oneC]) fun b9 w24 g24 hb9 z24 x24=>⟨_,Cell.lst g24 rfl,_,Cell.lst g24 rfl,_,Cell.lst g24 rfl,?_⟩
  have R24:=R22.no x24
  have hsrc2:srcV m'=srcV m2:=(srcV_eq hbm2).symm
  rw [hsrc2]
  refine check_spec (fun h=>by have:=hfree.lo; omega) fun bw sr w25 W hbs hb hs x25 K1 X1 k1 kx=>?_
  have R25:MemR w25.heap T2 m2 (putM M' n 5 2 1 (pad (wr 2 1 [⟨[],[],0, .z,r'⟩]))):=R24.no x25
  have hN:NodeAt (putM M' n 5 2 1 (pad (wr 2 1 [⟨[],[],0, .z,r'⟩]))).f 5 (kindOf (1:Nat)) (1:Nat) ⟨n,M'.commit,M'.gen⟩ [⟨[],[],0, .z,r'⟩]:=⟨putM_at hfree,hri.1,hri.2,fun e he=>by
   rw [List.mem_singleton] at he; subst he
   exact ⟨⟨(by show Rf.z.ok; decide),hro⟩,B8.nil,B8.nil⟩⟩
  have hC:=wnode_form (t:=5) (r:=⟨n,M'.commit,M'.gen⟩) (lev:=1) (b0:=⟨none,0,0⟩) (b1:=⟨none,0,0⟩) (K:=K1) (X:=X1) R25 W ⟨R24.supT hb,R24.supT hs,hbs⟩ hN (by simp) (by simp) (by omega)
  refine hC fun b w26 g26 hb26 x26=>kx b _ _ _ _ w26 g26 hb26 x26 fun w27 x27=>new_set rfl rfl (by simp [oneC]) fun b10 w29 g29 hb10 z29 x29=>If.beq (fun _=>If.beq (fun _=>?_) fun h=>(h rfl).elim) fun h=>(h rfl).elim
  have g2429:=get_no (get_no g24 x27) x29
  refine ⟨_,Cell.lst g29 rfl,_,Cell.lst g29 rfl,_,Cell.lst g29 rfl,_,Cell.lst g29 rfl,_,Cell.lst g29 rfl,_,Cell.lst g29 rfl,_,Cell.lst g2429 rfl,_,Cell.lst g2429 rfl,_,Cell.lst g2429 rfl,?_⟩
  simp only [beq_self_eq_true,Bool.and_self]
  have hT':∀ q,q < w.heap.size->T' q=none:=fun q hq=>by rw [tg q (by have:=x1.size; have:=x112.size; omega)]; exact hT q hq
  exact k w29 ((((x013.no x1320).trans x22 fun q hq h=>h (hT' q hq)).no x24).no x27 |>.no x29)
 .exact absurd (pad_len hri.2) hPl
theorem soundNone_spec{tenant:Int}{K:Bool->World->Prop}(k:∀ w',Ext No w w'->K true w'):C_law17_SoundNone tenant w K:=by
 apply S_law17_SoundNone
 refine newMem_spec (by omega) fun T m w1 R1 hT x1=>check_nil fun w2 x2=>new_set rfl rfl (by simp [oneC]) fun b w4 g4 hb4 z4 x4=>check_z (m:=m) fun w5 x5=>new_set rfl rfl (by simp [oneC]) fun b1 w7 g7 hb7 z7 x7=>lit1 fun c1 w9 r1 hc1 hl1 x9=>NewW.mk fun b3 w10 n10=>?_
 have sup:∀ q,w1.heap.size<=q->T q=none:=fun q hq=>R1.supT hq
 have s2:=x2.size; have s5:=x5.size; have s9:=x9.size; have z10:=n10.size
 have x19:Ext No w1 w9:=(((x2.no x4).no x5).no x7).no x9
 have x110:=x19.no n10.ext
 have R10:=R1.no x110
 have b8:∀ c:Int,0<=c->c<=255->B8 [c]:=fun c h1 h2=>by intro y hy; rw [List.mem_singleton] at hy; subst hy; omega
 generalize hxs:([⟨⟨some ⟨c1,0,none⟩,1,1⟩,⟨none,0,0⟩,false,[97],[]⟩]:List OpV)=xs
 have hops:Rd w10.heap ⟨some ⟨b3,0,none⟩,1,1⟩ 3 (xs.flatMap OpV.cs):=by
  rw [<- hxs]; exact (Own.new n10 rfl (by simp [oneC])).rd
 have hlen:xs.length=1:=by rw [<- hxs]; rfl
 have hx:∀ x∈xs,OpR w10.heap T x:=fun x hx=>by
  rw [<- hxs,List.mem_singleton] at hx
  subst hx
  exact ⟨Rd.no r1 n10.ext,Rd.nil _ _,b8 _ (by decide) (by decide),B8.nil,fun _ q hq=>by
   simp [Sl.blk] at hq; subst hq; exact ⟨sup _ (by omega),by omega⟩,fun h=>(h rfl).elim⟩
 have hkv:opsL xs []=[([97],[])]:=by
  rw [<- hxs]; show kvOp [97] (some []) []=_; decide
 refine apply_spec (t:=tenant) (lev:=0) (r := .z) (kvs:=[]) (ps:=[]) R10 (.inl ⟨rfl,rfl,rfl,rfl⟩) (by omega) (fun q=>by simp) hops hx (by omega) (by simp) (fun w' hb _=>?_) fun r' lv' ps' T' m' M' w11 _ A=>?_
 .exfalso
  obtain ⟨x,hx',hf⟩:=hb
  rw [<- hxs,List.mem_singleton] at hx'
  subst hx'
  exact hf (by simp [OpV.fit])
 obtain ⟨R11,hbm,tg,x11,tr,hlv,cg⟩:=A
 rw [hkv] at tr
 have x111:Ext No w w11:=(x1.no x110).trans x11 fun q hq h=>h (hT q hq)
 have hsrc:(Value.iface 24 (.pointer (some ⟨m.bm,0,none⟩)))=srcV m':=(srcV_eq hbm).symm
 have hS:r' ≠ .z/\SubT M'.f tenant lv' r' [([97],[])] ps':=by
  rcases tr with ⟨_,_,h,_⟩ | ⟨h1,_,h⟩
  .cases h
  .exact ⟨h1,by simpa using h⟩
 refine new_set rfl rfl (by simp [oneC]) fun b4 w13 g13 hb13 z13 x13=>?_
 intro z hz
 have hzt:z≠tenant:=by
  have hw:IntKind.wrap .u32 (tenant+1)=(tenant+1) % 4294967296:=by simp [IntKind.wrap,IntKind.bits,IntKind.signed]
  rw [hw] at hz; omega
 refine ⟨_,Cell.lst g13 rfl,_,Cell.lst g13 rfl,_,Cell.lst g13 rfl,_,Cell.lst g13 rfl,?_⟩
 rw [hsrc]
 refine check_no (R11.no x13) hS.1 hS.2 hzt fun w14 x14=>new_set rfl rfl (by simp [oneC]) fun b5 w16 g16 hb16 z16 x16=>If.beq (fun _=>If.beq (fun _=>?_) fun h=>(h rfl).elim) fun h=>(h rfl).elim
 have x1116:=(x13.no x14).no x16
 have hb1T:¬ Ts T b1:=fun h=>h (sup b1 (by have:=x4.size; omega))
 have g716:=get_no (get_ext (get_no (get_no g7 x9) n10.ext) x11 hb1T) x1116
 refine ⟨_,Cell.lst g716 rfl,_,Cell.lst g716 rfl,_,Cell.lst g716 rfl,_,Cell.lst g716 rfl,_,Cell.lst g716 rfl,_,Cell.lst g716 rfl,If.yes (If.beq (fun _=>If.beq (fun _=>?_) fun h=>(h rfl).elim) fun h=>(h rfl).elim)⟩
 have g1316:=get_no (get_no g13 x14) x16
 refine ⟨_,Cell.lst g16 rfl,_,Cell.lst g16 rfl,_,Cell.lst g16 rfl,_,Cell.lst g16 rfl,_,Cell.lst g16 rfl,_,Cell.lst g16 rfl,_,Cell.lst g1316 rfl,_,Cell.lst g1316 rfl,_,Cell.lst g1316 rfl,?_⟩
 simp only [beq_self_eq_true,Bool.and_self]
 exact If.yes (known17 fun w17 x17=>k w17 ((x111.no x1116).no x17))
end
end Go.Proofs.YtcamoanigdfihaaGreat
set_option maxRecDepth 100000
namespace Go.V
theorem Perm.nodup_of{M:Mm}{ps:List Rf}(S:Sane M)(h:ps.Perm (live M.pages)):ps.Nodup:=h.nodup_iff.2 (live_nodup S)
theorem opsL_vals{xs:List OpV}{kvs:List KV}(hs:SortK kvs)(hf:∀ x∈xs,x.fit)(hv:∀ x∈kvs,x.2.length<=1024):∀ x∈opsL xs kvs,x.2.length<=1024:=fun x hx=>by
 have h:=(kvGet_mem (opsL_sort hs)).1 hx
 rw [kvGet_opsL] at h
 cases hl:lastOp xs x.1 with
 | some y =>
  rw [hl] at h
  have hm:=(lastOp_mem hl).1
  have:=(hf y hm).2.1
  simp only [opV] at h
  split at h
  .cases h
  .simp only [Option.some.injEq] at h; rw [<- h]; exact this
 | none=>rw [hl] at h; exact hv _ ((kvGet_mem hs).2 h)
theorem chgP_take{l:List KV}{j:Nat}(h:j < l.length):Go.Proofs.YtcamoanigdfihaaGreat.chgP (l.take (j+1))=Go.Proofs.YtcamoanigdfihaaGreat.chgP (l.take j)+(1+Go.Proofs.YtcamoanigdfihaaGreat.pcs l[j].2):=by
 unfold Go.Proofs.YtcamoanigdfihaaGreat.chgP
 rw [List.take_add_one,List.getElem?_eq_getElem h,Option.toList_some,List.map_append,List.sum_append]
 simp
theorem chgP_le{l:List KV}(hv:∀ x∈l,x.2.length<=1024):Go.Proofs.YtcamoanigdfihaaGreat.chgP l<=6 * l.length:=by
 induction l with
 | nil=>simp [Go.Proofs.YtcamoanigdfihaaGreat.chgP]
 | cons x l ih =>
  have h1:=hv x (by simp)
  have h2:=ih fun y hy=>hv y (by simp [hy])
  have h3:Go.Proofs.YtcamoanigdfihaaGreat.pcs x.2<=5:=by unfold Go.Proofs.YtcamoanigdfihaaGreat.pcs; split <;> omega
  unfold Go.Proofs.YtcamoanigdfihaaGreat.chgP at h2 ⊢
  simp only [List.map_cons,List.sum_cons,List.length_cons]; omega
abbrev rowV(p:Sl×List OpV):Value := .slice p.1.a p.1.len p.1.cap
structure RowsR(h:Array Obj)(l:Sl)(L:List (Sl×List OpV)):Prop where
 rd:Rd h l 1 (L.map rowV)
 row:∀ p∈L,Rd h p.1 3 (p.2.flatMap OpV.cs)
 op:∀ p∈L,∀ x∈p.2,OpA h x
 sz:∀ p∈L,p.2.length<=1152921504606846976
theorem RowsR.no{w w':World}{l:Sl}{L:List (Sl×List OpV)}(r:RowsR w.heap l L)(x:Ext No w w'):RowsR w'.heap l L:=⟨r.rd.no x,fun p hp=>(r.row p hp).no x,fun p hp y hy=>(r.op p hp y hy).no x,r.sz⟩
theorem RowsR.len{h:Array Obj}{l:Sl}{L:List (Sl×List OpV)}(r:RowsR h l L):l.len=L.length:=by have:=r.rd.len; simp at this; omega
def rowN(L:List (Sl×List OpV)):Nat:=(L.map fun p=>1+p.2.length).sum
theorem rowN_take{L:List (Sl×List OpV)}{j:Nat}(h:j < L.length):rowN (L.take (j+1))=rowN (L.take j)+(1+L[j].2.length):=by
 unfold rowN
 rw [List.take_add_one,List.getElem?_eq_getElem h,Option.toList_some,List.map_append,List.sum_append]
 simp
theorem rowN_le(L:List (Sl×List OpV))(j:Nat):rowN (L.take j)<=rowN L/\L.length<=rowN L:=by
 constructor
 .have h:rowN L=rowN (L.take j)+rowN (L.drop j):=by
   unfold rowN; rw [<- List.sum_append,<- List.map_append,List.take_append_drop]
  omega
 .unfold rowN
  induction L with
  | nil=>simp
  | cons x L ih=>simp only [List.map_cons,List.sum_cons,List.length_cons]; omega
end Go.V
namespace Go.Proofs.YtcamoanigdfihaaGreat
open Go.V
theorem Ix.row{w:World}{l:Sl}{L:List (Sl×List OpV)}{j:Nat}{K:Addr->Prop}(h:RowsR w.heap l L)(hj:j < L.length)(k:∀ b o,l.blk=some b->Cell w ⟨b,o,none⟩ (.slice L[j].1.a L[j].1.len L[j].1.cap)->K ⟨b,o,none⟩):Ix l.a l.len (j:Nat) 1 K:=by
 have hl:=h.len
 refine Ix.cell h.rd (by omega) (by omega) fun b o v hb hv hc=>?_
 have:v=rowV L[j]:=by
  simp only [Int.toNat_natCast,List.getElem?_map,List.getElem?_eq_getElem hj,Option.map_some,Option.some.injEq] at hv; exact hv.symm
 rw [this] at hc
 exact k b o hb hc
section
variable {w:World} {T:Nat->Option Nat} {m:MemV} {M:Mm}
structure MadeS(w0 w':World)(t:Int)(L:List (Sl×List OpV))(bm b j:Nat)(wv:Sl)(T:Nat->Option Nat)(m:MemV)(M:Mm)(r:Rf)(lv:Nat)(ps:List Rf)(lp:List Pr):Prop where
 mem:MemR w'.heap T m M
 bm:m.bm=bm
 tn:∀ q,q < w0.heap.size->T q=none
 tree:TreeT M.f t r lv (kvsOf lp) ps
 lv:lv<=30
 pe:ps.Perm (live M.pages)
 prs:PrsR w'.heap (fun q=>T q=none/\q≠b) wv lp
 wb:∀ q,wv.blk=some q->T q=none/\q≠b
 sort:SortK (kvsOf lp)
 vals:∀ x∈kvsOf lp,x.2.length<=1024
 cm:M.commit<=j+1
 len:M.pages.length<=60 * rowN (L.take j)
 kn:lp.length<=rowN (L.take j)
 ext:Ext No w0 w'
theorem MadeS.no{w0 w1 w2:World}{t:Int}{L:List (Sl×List OpV)}{bm b j:Nat}{wv:Sl}{r:Rf}{lv:Nat}{ps:List Rf}{lp:List Pr}(s:MadeS w0 w1 t L bm b j wv T m M r lv ps lp)(x:Ext No w1 w2):MadeS w0 w2 t L bm b j wv T m M r lv ps lp :=
 ⟨s.mem.no x,s.bm,s.tn,s.tree,s.lv,s.pe,s.prs.no x,s.wb,s.sort,s.vals,s.cm,s.len,s.kn,s.ext.no x⟩
def MadeT(l:Sl)(r_1:Option Addr)(tenant i_1:Int)(b b_1:Nat)(wv:Sl)(r1:Int)(w11:World)(K:Bool->World->Prop)(N:Sl->Int->World->Prop):Prop :=
 Ix l.a l.len i_1 1 fun a_3 =>
 ∃ vv_3:Sl,Cell w11 a_3 (.slice vv_3.a vv_3.len vv_3.cap) /\
 C_ref15_Apply wv vv_3 w11 fun r_3 w12 =>
 ∃ c_4:Int,Cell w12 (Addr.mk b_1 0 none) (.int .u32 c_4) /\
 ∃ c_5:Int,Cell w12 ((Addr.mk b_1 0 none).add 1) (.int .u64 c_5) /\
 ∃ c_6:Int,Cell w12 ((Addr.mk b_1 0 none).add 2) (.int .u16 c_6) /\
 ∃ c_7:Int,Cell w12 ((Addr.mk b_1 0 none).add 3) (.int .u8 c_7) /\
 C_sound_Check (.iface 24 (.pointer r_1)) tenant c_4 c_5 c_6 c_7 w12 fun r00_1 r01_1 r02_1 r03_1 r04 r05 r1_1 w13 =>
 NewW w13 (.cells [.int .i64 0, .int .i64 0, .int .i64 0, .int .u32 0, .int .u64 0, .int .u16 0].toArray 49) fun b_2 w14 =>
 List.length (α:=Value) [.int .i64 r00_1, .int .i64 r01_1, .int .i64 r02_1, .int .u32 r03_1, .int .u64 r04, .int .u16 r05]=6/\StN w14 (Addr.mk b_2 0 none) [.int .i64 r00_1, .int .i64 r01_1, .int .i64 r02_1, .int .u32 r03_1, .int .u64 r04, .int .u16 r05] fun w15 =>
 ∃ c_8:Int,Cell w15 (Addr.mk b_1 0 none) (.int .u32 c_8) /\
 ∃ c_9:Int,Cell w15 ((Addr.mk b_1 0 none).add 1) (.int .u64 c_9) /\
 ∃ c_10:Int,Cell w15 ((Addr.mk b_1 0 none).add 2) (.int .u16 c_10) /\
 ∃ c_11:Int,Cell w15 ((Addr.mk b_1 0 none).add 3) (.int .u8 c_11) /\
 C_tree_Labels (.iface 24 (.pointer r_1)) tenant c_8 c_9 c_10 c_11 w15 fun r0_1 r1_2 w16 =>
 ∃ I0:Nat->Int->Int->World->Prop,(∃ m,I0 m 0 0 w16)/\∀(_:Env)(m0_2:Nat)(c_12:Int)(k:Int)(w17:World),I0 m0_2 c_12 k w17 ->
 If (decide (k < ((r_3.len:Int)))) (
 Ar .i64 (c_12+1) fun z_4 =>
 Ix r_3.a r_3.len k 2 fun a_4 =>
 ∃ vv_4:Sl,Cell w17 (a_4.add 1) (.slice vv_4.a vv_4.len vv_4.cap) /\
 C_ref15_Pieces vv_4 w17 fun r_4 w18 =>
 Ar .i64 (z_4+r_4) fun z_5 =>
 Ar .i64 (k+1) fun z_6 =>
 ∃ m1_2,m1_2 < m0_2/\I0 m1_2 z_5 z_6 w18) (
 If (r1 != 0) (
 K false w17) (
 If (r1_1 != 0) (
 K false w17) (
 If (r1_2 != 0) (
 K false w17) (
 ∃ c_13:Int,Cell w17 (Addr.mk b_2 0 none) (.int .i64 c_13) /\
 ∃ c_14:Int,Cell w17 ((Addr.mk b_2 0 none).add 1) (.int .i64 c_14) /\
 ∃ c_15:Int,Cell w17 ((Addr.mk b_2 0 none).add 2) (.int .i64 c_15) /\
 ∃ c_16:Int,Cell w17 ((Addr.mk b_2 0 none).add 3) (.int .u32 c_16) /\
 ∃ c_17:Int,Cell w17 ((Addr.mk b_2 0 none).add 4) (.int .u64 c_17) /\
 ∃ c_18:Int,Cell w17 ((Addr.mk b_2 0 none).add 5) (.int .u16 c_18) /\
 If (!((c_13 == ((r_3.len:Int))) && ((c_14 == ((r0_1.len:Int))) && ((c_15 == c_12) && (((c_16 == 0) && ((c_17 == 0) && ((c_18 == 0) && (true)))) && (true)))))) (
 K false w17) (
 Ar .i64 (i_1+2) fun z_7 =>
 Ar .u64 z_7 fun z_8 =>
 C_tree_Mem_Begin r_1 z_8 1 w17 fun r_5 w19 =>
 If (r_5 != 0) (
 K false w19) (
 ∃ c_19:Int,Cell w19 (Addr.mk b_1 0 none) (.int .u32 c_19) /\
 ∃ c_20:Int,Cell w19 ((Addr.mk b_1 0 none).add 1) (.int .u64 c_20) /\
 ∃ c_21:Int,Cell w19 ((Addr.mk b_1 0 none).add 2) (.int .u16 c_21) /\
 ∃ c_22:Int,Cell w19 ((Addr.mk b_1 0 none).add 3) (.int .u8 c_22) /\
 List.length (α:=Value) [.int .u32 c_19, .int .u64 c_20, .int .u16 c_21, .int .u8 c_22]=4/\StN w19 (Addr.mk b 0 none) [.int .u32 c_19, .int .u64 c_20, .int .u16 c_21, .int .u8 c_22] fun w20 =>
 Ar .i64 (i_1+1) fun z_9 =>
 N r_3 z_9 w20))))))
set_option maxHeartbeats 2000000 in
theorem made_tail{w0:World}{t:Int}{l wv:Sl}{L:List (Sl×List OpV)}{bm b b1 j:Nat}{r':Rf}{lv':Nat}{ps':List Rf}{lp:List Pr}{zs:List Value}{K:Bool->World->Prop}{N:Sl->Int->World->Prop}(hL:RowsR w.heap l L)(hj:j < L.length)(hN:rowN L<=300)(hf:∀ x∈L[j].2,x.fit)
  (R:MemR w.heap T m M) (hbm:m.bm=bm) (tn:∀ q,q < w0.heap.size->T q=none) (hT:TreeT M.f t r' lv' (opsL L[j].2 (kvsOf lp)) ps') (hlv:lv'<=30) (pe:ps'.Perm (live M.pages))
  (prs:PrsR w.heap (fun q=>T q=none/\q≠b) wv lp) (so:SortK (kvsOf lp)) (vl:∀ x∈kvsOf lp,x.2.length<=1024) (cm:M.commit<=j+1) (len:M.pages.length<=60 * rowN (L.take (j+1))) (kn:lp.length<=rowN (L.take j)) (ex:Ext No w0 w)
  (g:w.heap[b]? = some (.cells zs.toArray 47 (0,0))) (hz:zs.length=4) (tb:T b=none) (hb0:w0.heap.size<=b) (g1:w.heap[b1]? = some (.cells [.int .u32 r'.p, .int .u64 r'.c, .int .u16 r'.g, .int .u8 lv'].toArray 47 (0,0))) (tb1:T b1=none)
  (k:∀ s' lp' T' m' M' w',MadeS w0 w' t L bm b (j+1) s' T' m' M' r' lv' ps' lp'->w'.heap[b]? = some (.cells [.int .u32 r'.p, .int .u64 r'.c, .int .u16 r'.g, .int .u8 lv'].toArray 47 (0,0))->T' b=none->N s' ((j:Int)+1) w'):MadeT l (some ⟨bm,0,none⟩) t j b b1 wv 0 w K N:=by
 have hrow:=rowN_le L (j+1)
 have hrowj:=rowN_le L j
 have rt:=rowN_take hj
 have hLj:L[j]∈L:=List.getElem_mem hj
 have hsrc:(Value.iface 24 (.pointer (some ⟨bm,0,none⟩)))=srcV m:=by rw [<- hbm]
 refine Ix.row hL hj fun bb o _ hc=>⟨_,hc,?_⟩
 refine refApply_spec prs so (hL.row _ hLj) (hL.op _ hLj) hf (by omega) fun s' lp' w12 prs' bl' kv' ln' x12=>?_
 have g112:=get_no g1 x12
 have so':SortK (kvsOf lp'):=by rw [kv']; exact opsL_sort so
 have vl':∀ x∈kvsOf lp',x.2.length<=1024:=by rw [kv']; exact opsL_vals so hf vl
 have hk2:(kvsOf lp').length=lp'.length:=by simp
 have hcg:=chgP_le vl'
 rw [<- kv'] at hT
 have hpl:ps'.length<=18000:=by have:=pe.length_eq; have:=live_len M.pages; omega
 refine ⟨_,Cell.lst g112 rfl,_,Cell.lst g112 rfl,_,Cell.lst g112 rfl,_,Cell.lst g112 rfl,?_⟩
 rw [hsrc]
 refine check_ok (R.no x12) hT hlv (Perm.nodup_of R.sane pe) (by omega) (by omega) (by omega) fun w13 x13=>new_set rfl rfl (by simp [oneC]) fun b2 w15 g15 hb2 z15 x15=>?_
 have x1315:=x13.no x15
 have g115:=get_no g112 x1315
 refine ⟨_,Cell.lst g115 rfl,_,Cell.lst g115 rfl,_,Cell.lst g115 rfl,_,Cell.lst g115 rfl,?_⟩
 refine labels_spec ((R.no x12).no x1315) hT (by omega) (by omega) fun s16 Ls w16 hLs _ _ o16 x16=>?_
 have hsl:s16.len=ps'.length:=by have:=o16.len; rw [flat_len' (labCs_len _)] at this; rw [<- hLs]; simp; omega
 have sl':=prs'.len
 refine ⟨fun q c tt w'=>∃ i:Nat,tt=i/\i<=lp'.length/\q=lp'.length - i/\c=(chgP ((kvsOf lp').take i):Nat)/\chgP ((kvsOf lp').take i)<=6 * i/\w'=w16,⟨lp'.length,0,rfl,by omega,by omega,rfl,by simp [chgP],rfl⟩,?_⟩
 rintro _ m0 c tt w17 ⟨i,rfl,hi,hq,rfl,hci,rfl⟩
 have prs17:=((prs'.no x1315).no x16)
 refine If.dec (fun h=>?_) fun h=>?_
 .have hil:i < lp'.length:=by omega
  have ct:=chgP_take (l:=kvsOf lp') (j:=i) (by simpa using hil)
  have hmem:lp'[i].2∈kvsOf lp':=List.mem_map.2 ⟨_,List.getElem_mem hil,rfl⟩
  have hp5:pcs lp'[i].2.2<=5:=by have:=vl' _ hmem; unfold pcs; split <;> omega
  simp only [List.getElem_map] at ct
  refine Ar.i64 (by omega) (Ix.elem prs17.rd (prCs_len lp') (by decide) (by omega) h fun bb o hi2 _ hc=>?_)
  simp only [Int.toNat_natCast] at hi2 hc
  refine ⟨_,hc 1 _ rfl,refPieces_spec (v:=lp'[i].2.2) (RdB.len (prs17.pr _ (List.getElem_mem hil)).v) (by have:=vl' _ hmem; omega) (Ar.i64 (by omega) (Ar.i64 (by omega) ⟨lp'.length - (i+1),by omega,i+1,by omega,by omega,rfl,by rw [ct]; omega,by rw [ct]; omega,rfl⟩))⟩
 have hil:i=lp'.length:=by omega
 have e1:(kvsOf lp').take i=kvsOf lp':=List.take_of_length_le (by simp [hil])
 rw [e1]
 have g1516:=get_no g15 x16
 refine If.bne (fun h=>(h rfl).elim) fun _=>If.bne (fun h=>(h rfl).elim) fun _=>If.bne (fun h=>(h rfl).elim) fun _=>⟨_,Cell.lst g1516 rfl,_,Cell.lst g1516 rfl,_,Cell.lst g1516 rfl,_,Cell.lst g1516 rfl,_,Cell.lst g1516 rfl,_,Cell.lst g1516 rfl,?_⟩
 rw [sl',hsl,hk2]
 simp only [beq_self_eq_true,Bool.and_self,Bool.not_true]
 refine If.no (Ar.i64 (by omega) (Ar.u64 (by omega) ?_))
 have x016:=(x12.no x1315).no x16
 have y016:=x016.size
 rw [<- hbm]
 refine memBegin_spec (R.no x016) (by omega) (by omega) (fun h=>by omega) fun w19 _ R19 x19=>If.bne (fun h=>(h rfl).elim) fun _=>?_
 have nT:∀{q},T q=none->¬ Ts T q:=fun h h'=>h' h
 have g119:=get_ext (get_no (get_no g115 x16) (Ext.refl No _)) x19 (nT tb1)
 have g19:=get_ext (get_no g x016) x19 (nT tb)
 refine ⟨_,Cell.lst g119 rfl,_,Cell.lst g119 rfl,_,Cell.lst g119 rfl,_,Cell.lst g119 rfl,st_all g19 rfl hz (by simp [oneC]) fun w20 g20 x20 _=>Ar.i64 (by omega) ?_⟩
 have sup:∀ q,w.heap.size<=q->T q=none:=fun q hq=>R.supT hq
 have blb:=blt g
 have pT:∀ q,(((T q=none/\q≠b)/\q < w.heap.size)∨(w.heap.size<=q/\q < w12.heap.size))->T q=none/\q≠b:=fun q h=>by
  rcases h with h | h
  .exact h.1
  .exact ⟨sup q h.1,by omega⟩
 have hbs:∀ q,s'.blk=some q->T q=none/\q≠b:=fun q hq=>⟨sup q (bl' q hq).1,by have:=(bl' q hq).1; omega⟩
 have nS:∀{q},(T q=none/\q≠b)->¬ (Ts T q∨q=b):=fun h h'=>h'.elim (fun h2=>h2 h.1) h.2
 have x1620:Ext (fun q=>Ts T q∨q=b) w17 w20:=(x19.mono fun q _ h => .inl h).trans x20 fun q _ h => .inr h
 have R20:MemR w20.heap T m (beginM M ((j:Int)+2) 1):=R19.ext x20 fun q hq=>by rw [hq]; exact tb
 refine k s' lp' T m _ w20 ⟨R20,hbm,tn,hT,hlv,pe,⟨prs17.rd.ext x1620 fun a q ha hb=>?_,fun p hp=>?_⟩,hbs,so',vl',?_,len,by omega,?_⟩ g20 tb
 .exact nS (hbs q (by simp [Sl.blk,ha,hb]))
 .exact ((prs17.pr p hp).mono fun q _ h=>pT q h).ext x1620 fun q _ h=>nS h
 .show (j:Int)+2<=((j+1:Nat):Int)+1; omega
 .exact (ex.no x016).trans x1620 fun q hq h=>by
   rcases h with h | h
   .exact h (tn q hq)
   .omega
theorem MadeS.skip{w0 w1:World}{t:Int}{L:List (Sl×List OpV)}{bm b j:Nat}{wv:Sl}{r:Rf}{lv:Nat}{ps:List Rf}{lp:List Pr}(s:MadeS w0 w1 t L bm b j wv T m M r lv ps lp)(hj:j < L.length):MadeS w0 w1 t L bm b (j+1) wv T m M r lv ps lp:=by
 have:=rowN_take hj
 exact ⟨s.mem,s.bm,s.tn,s.tree,s.lv,s.pe,s.prs,s.wb,s.sort,s.vals,by have:=s.cm; omega,by have:=s.len; omega,by have:=s.kn; omega,s.ext⟩
theorem prsT{w1 w2:World}{T':Nat->Option Nat}{b:Nat}{wv:Sl}{lp:List Pr}(h:PrsR w1.heap (fun q=>T q=none/\q≠b) wv lp)(hw:∀ q,wv.blk=some q->T q=none/\q≠b)(x:Ext (Ts T) w1 w2)(ht:∀ q,q < w1.heap.size->T' q=T q):PrsR w2.heap (fun q=>T' q=none/\q≠b) wv lp:=by
 have h1:PrsR w2.heap (fun q=>(T q=none/\q≠b)/\q < w1.heap.size) wv lp:=⟨h.rd.ext x fun a q ha hb h'=>h' (hw q (by simp [Sl.blk,ha,hb])).1,fun p hp=>((h.pr p hp).mono (Q':=fun q=>(T q=none/\q≠b)/\q < w1.heap.size) fun q h1 h2=>⟨h2,h1⟩).ext x fun q _ h h'=>h' h.1.1⟩
 exact ⟨h1.rd,fun p hp=>(h1.pr p hp).mono fun q _ h=>⟨(ht q h.2).trans h.1.1,h.1.2⟩⟩
set_option maxHeartbeats 2000000 in
theorem soundMade_spec{tenant:Int}{l:Sl}{L:List (Sl×List OpV)}{K:Bool->World->Prop}(hL:RowsR w.heap l L)(k:∀ w',Ext No w w'->K true w'):C_law17_SoundMade tenant l w K:=by
 apply S_law17_SoundMade
 have hl:=hL.len
 refine ⟨fun n w'=>w'=w/\(n<=300->n=(rowN L:Nat)),⟨fun q n i w'=>∃ j:Nat,i=j/\j<=L.length/\q=L.length - j/\n=(rowN (L.take j):Nat)/\w'=w/\rowN (L.take j)<=1152921504606846976+400,⟨L.length,0,rfl,by omega,by omega,by simp [rowN],rfl,by simp [rowN]⟩,?_⟩,?_⟩
 .rintro _ m0 n i w1 ⟨j,rfl,hj,hq,rfl,hw1,hb⟩
  subst hw1
  refine ⟨fun w'=>w'=w1/\j < L.length/\rowN (L.take j)<=300,If.dec (fun h=>If.dec (fun h2=>⟨rfl,by omega,by omega⟩) fun h2=>⟨rfl,fun h3=>(h2 h3).elim⟩) fun h=>⟨rfl,fun _=>by rw [List.take_of_length_le (by omega)]⟩,?_⟩
  rintro _ w2 ⟨hw2,hjl,h300⟩
  subst hw2
  have hLj:L[j]∈L:=List.getElem_mem hjl
  have hrl:L[j].1.len=L[j].2.length:=by have:=(hL.row _ hLj).len; rw [flat_len' (opCs_len _)] at this; omega
  have hsz:=hL.sz _ hLj
  have rt:=rowN_take hjl
  exact Ar.i64 (by omega) (Ix.row hL hjl fun bb o _ hc=>⟨_,hc,Ar.i64 (by omega) (Ar.i64 (by have:=(rowN_le (L.take j) (L.take j).length).2; simp at this; omega) ⟨L.length - (j+1),by omega,j+1,by omega,by omega,rfl,by rw [rt]; omega,rfl,by rw [rt]; omega⟩)⟩)
 rintro _ n w3 ⟨hw3,hn⟩
 subst hw3
 refine If.dec (fun _=>known17 k) fun h300=>?_
 have hN:rowN L<=300:=by have:=hn (by omega); omega
 have hNl:=(rowN_le L 0).2
 refine newMem_spec (by omega) fun T m w5 R5 hT x5=>NewW.mk fun b w6 n6=>?_
 have hb:=n6.at_; have z6:=n6.size; have y5:=x5.size
 obtain ⟨I,hI⟩ : ∃ I:Nat->Sl->Int->World->Prop,I=fun q wv (i:Int) w'=>∃ (j:Nat) (T':Nat->Option Nat) (m':MemV) (M':Mm) (r:Rf) (lv:Nat) (ps:List Rf) (lp:List Pr),i=j/\j<=L.length/\q=L.length - j/\MadeS w3 w' tenant L m.bm b j wv T' m' M' r lv ps lp/\w'.heap[b]? = some (.cells [.int .u32 r.p, .int .u64 r.c, .int .u16 r.g, .int .u8 lv].toArray 47 (0,0))/\T' b=none:=⟨_,rfl⟩
 refine ⟨I,by
  rw [hI]
  exact ⟨L.length,0,T,m,_, .z,0,[],[],rfl,by omega,by omega,⟨R5.no n6.ext,rfl,hT, .inl ⟨rfl,rfl,rfl,rfl⟩,by omega,List.Perm.refl _,⟨Rd.nil _ _,by simp⟩,fun q hq=>by simp [Sl.blk] at hq, .nil,by simp,by decide,by simp,by simp,x5.no n6.ext⟩,n6.get,R5.supT (by omega)⟩,?_⟩
 intro _ m0 wv i w7 hi
 rw [hI] at hi
 obtain ⟨j,T1,m1,M1,r,lv,ps,lp,rfl,hj,hq,s,g7,tb⟩:=hi
 refine If.dec (fun h=>?_) fun h=>known17 fun w8 x8=>k w8 (s.ext.no x8)
 have hjl:j < L.length:=by omega
 have hLj:L[j]∈L:=List.getElem_mem hjl
 have hL7:=hL.no s.ext
 have hrl:L[j].1.len=L[j].2.length:=by have:=(hL.row _ hLj).len; rw [flat_len' (opCs_len _)] at this; omega
 have rt:=rowN_take hjl
 have rl:=(rowN_le L (j+1)).1
 refine Ix.row hL7 hjl fun bb o _ hc=>⟨_,hc,refAllRight_spec (hL7.row _ hLj) (hL7.op _ hLj) (by omega) fun w8 x8=>If.not (If.dec (fun hf=>?_) fun _=>Ar.i64 (by omega) ⟨L.length - (j+1),by omega,by rw [hI]; exact ⟨j+1,T1,m1,M1,r,lv,ps,lp,by omega,by omega,rfl,(s.no x8).skip hjl,get_no g7 x8,tb⟩⟩)⟩
 have s8:=s.no x8
 have g8:=get_no g7 x8
 have hL8:=hL7.no x8
 have nT:∀{q},T1 q=none->¬ Ts T1 q:=fun h h'=>h' h
 have y8:=s8.ext.size
 have lT:∀ q,l.blk=some q->T1 q=none:=fun q hq=>s8.tn q (Rd.lt hL.rd (fun e=>Nat.lt_irrefl 0 (by have h:(L.map rowV).length=0:=(congrArg List.length e); rw [List.length_map] at h; omega)) hq)
 have sup:∀ q,w8.heap.size<=q->T1 q=none:=fun q hq=>s8.mem.supT hq
 have hlp:=s8.kn; have hlen:=s8.len
 have rl0:=(rowN_le L j).1
 have hops8:∀{w9:World},Ext No w8 w9->∀ x∈L[j].2,OpR w9.heap T1 x:=fun x9 x hx=>(hL.op _ hLj x hx).r (s8.ext.no x9) s8.tn
 have hsub:Sub ps M1:=fun q=>Nat.le_of_eq (List.perm_iff_count.1 s8.pe q)
 have hsrc:(Value.iface 24 (.pointer (some ⟨m.bm,0,none⟩)))=srcV m1:=by rw [<- s8.bm]
 have pe':∀{M':Mm}{n:Nat}{ps':List Rf},ChgW M1 M' n ps ps'->ps'.Perm (live M'.pages):=fun c=>List.perm_iff_count.2 fun q=>by
  have h1:=c.cnt q
  have h2:=List.perm_iff_count.1 s8.pe q
  omega
 have blt8:=blt g8
 refine ⟨Ext (Ts T1) w8,(Ext.refl _ _).drew,_,Held.but (Cell.lst g8 rfl) (nT tb),_,Held.but (Cell.lst g8 rfl) (nT tb),_,Held.but (Cell.lst g8 rfl) (nT tb),_,Held.but (Cell.lst g8 rfl) (nT tb),Ix.row hL8 hjl fun bb o hbl hc=>⟨_,Held.but hc (nT (lT bb hbl)),?_,?_⟩⟩
 .rw [hsrc]
  refine apply_spec (w:=drewW w8) (xs:=L[j].2) (ps:=ps) (kvs:=kvsOf lp) s8.mem s8.tree s8.lv hsub (hL8.row _ hLj) (hops8 (Ext.refl _ _).drew) (by omega) (by omega) (fun w' hbad _=>?_) fun r' lv' ps' T' m' M' w9 _ A=>?_
  .obtain ⟨x,hx,hbx⟩:=hbad; exact (hbx (hf x hx)).elim
  obtain ⟨R9,hbm9,tg9,x9,tr9,hlv9,cg9⟩:=A
  have x89:Ext (Ts T1) w8 w9:=x9.drew_left
  have tg:∀ q,q < w8.heap.size->T' q=T1 q:=tg9
  have y9:=x89.size
  refine ⟨x89,NewW.mk fun b1 w10 n10=>⟨x89.no n10.ext,st_all n10.get rfl rfl (by simp [oneC]) fun w11 g11 x11 _=>?_⟩⟩
  have hb1:=n10.at_; have z10:=n10.size
  have x911:Ext No w9 w11:=n10.ext.trans x11 fun q hq h=>by omega
  refine ⟨x89.no x911,?_⟩
  have tgx:∀ q,q < w8.heap.size->T' q=T1 q:=tg9
  have nT':T' b1=none:=R9.supT (by omega)
  rw [<- hsrc]
  show MadeT l (some ⟨m.bm,0,none⟩) tenant j b b1 wv 0 w11 K fun s z w'=>∃ m1,m1 < m0/\I m1 s z w'
  refine made_tail (T:=T') (m:=m') (M:=M') (w0:=w3) (bm:=m.bm) (ps':=ps') (hL.no (s8.ext.trans (x89.no x911) fun q hq h=>h (s8.tn q hq))) hjl hN hf (R9.no x911) (hbm9.trans s8.bm) (fun q hq=>(tgx q (by omega)).trans (s8.tn q hq)) tr9 hlv9 (pe' cg9) ?_ s8.sort s8.vals (by have:=s8.cm; have:=cg9.commit; omega) (by have:=cg9.len; omega) s8.kn (s8.ext.trans (x89.no x911) fun q hq h=>h (s8.tn q hq)) (zs:=[.int .u32 r.p, .int .u64 r.c, .int .u16 r.g, .int .u8 lv]) (get_ext g8 (x89.no x911) (nT tb)) rfl ((tgx b blt8).trans tb) (by omega) g11 nT' fun s' lp' T2 m2 M2 w20 ms g20 tb20=>⟨L.length - (j+1),by omega,by rw [hI]; exact ⟨j+1,T2,m2,M2,r',lv',ps',lp',by omega,by omega,rfl,ms,g20,tb20⟩⟩
  exact prsT s8.prs s8.wb (x89.no x911) tgx
 .refine NewW.mk fun b1 w21 n21=>⟨(Ext.refl _ _).drew.no n21.ext,?_⟩
  have hb1:b1=w8.heap.size:=n21.at_
  have z21:w21.heap.size=w8.heap.size+1:=n21.size
  have x821:Ext No w8 w21:=(Ext.refl _ _).drew.no n21.ext
  rw [hsrc]
  refine apply_spec (xs:=L[j].2) (ps:=ps) (kvs:=kvsOf lp) (s8.mem.no x821) s8.tree s8.lv hsub ((hL8.row _ hLj).no x821) (hops8 x821) (by omega) (by omega) (fun w' hbad _=>?_) fun r' lv' ps' T' m' M' w9 _ A=>?_
  .obtain ⟨x,hx,hbx⟩:=hbad; exact (hbx (hf x hx)).elim
  obtain ⟨R9,hbm9,tg9',x9,tr9,hlv9,cg9⟩:=A
  have x89:Ext (Ts T1) w8 w9:=x821.of_no.trans x9 fun _ _ h=>h
  have tg9:∀ q,q < w8.heap.size->T' q=T1 q:=fun q hq=>tg9' q (by omega)
  have y9:=x9.size
  have g9:=get_ext n21.get x9 (nT (sup b1 (by omega)))
  refine ⟨x89,st_all g9 rfl rfl (by simp [oneC]) fun w11 g11 x11 _=>?_⟩
  have x811:Ext (Ts T1) w8 w11:=x89.trans x11 fun q hq h=>by omega
  refine ⟨x811,?_⟩
  have nb1:T' b1=none:=(tg9' b1 (by omega)).trans (sup b1 (by omega))
  have tgx:∀ q,q < w8.heap.size->T' q=T1 q:=tg9
  have nT':T' b1=none:=nb1
  rw [<- hsrc]
  show MadeT l (some ⟨m.bm,0,none⟩) tenant j b b1 wv 0 w11 K fun s z w'=>∃ m1,m1 < m0/\I m1 s z w'
  refine made_tail (T:=T') (m:=m') (M:=M') (w0:=w3) (bm:=m.bm) (ps':=ps') (hL.no (s8.ext.trans x811 fun q hq h=>h (s8.tn q hq))) hjl hN hf (R9.ext x11 fun q hq=>by rw [hq]; exact nb1) (hbm9.trans s8.bm) (fun q hq=>(tgx q (by omega)).trans (s8.tn q hq)) tr9 hlv9 (pe' cg9) ?_ s8.sort s8.vals (by have:=s8.cm; have:=cg9.commit; omega) (by have:=cg9.len; omega) s8.kn (s8.ext.trans x811 fun q hq h=>h (s8.tn q hq)) (zs:=[.int .u32 r.p, .int .u64 r.c, .int .u16 r.g, .int .u8 lv]) (get_ext g8 x811 (nT tb)) rfl ((tgx b blt8).trans tb) (by omega) g11 nT' fun s' lp' T2 m2 M2 w20 ms g20 tb20=>⟨L.length - (j+1),by omega,by rw [hI]; exact ⟨j+1,T2,m2,M2,r',lv',ps',lp',by omega,by omega,rfl,ms,g20,tb20⟩⟩
  exact prsT s8.prs s8.wb x811 tgx
end
end Go.Proofs.YtcamoanigdfihaaGreat
