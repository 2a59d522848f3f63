/- Texts for LScanOld, part 15. -/
import Derived.Test.YtcamoanigdfihaaGreatQTo14
set_option maxRecDepth 100000
namespace Go.Proofs.YtcamoanigdfihaaGreat
open Go.V
section
variable {w:World} {T:Nat->Option Nat} {m:MemV} {M:Mm}
theorem Rd.pre{h:Array Obj}{s:Sl}{n:Nat}{α:Type}{f:α->List Value}{l:List α}(r:Rd h s n (l.flatMap f))(hf:∀ x∈l,(f x).length=n)(hl:s.len=l.length){lo hi:Nat}(h1:lo<=hi)(h2:hi<=l.length):Rd h ⟨cutA s.a s.cap lo n,hi - lo,s.cap - lo⟩ n (((l.drop lo).take (hi - lo)).flatMap f):=by
 have rc:=r.cut (lo:=lo) (hi:=hi) (mx:=s.cap) h1 (by omega) (by have:=r.cap; omega)
 have e:((l.flatMap f).drop (lo * n)).take ((hi - lo) * n)=((l.drop lo).take (hi - lo)).flatMap f:=by
  have hd:(l.flatMap f).drop (lo * n)=(l.drop lo).flatMap f:=by
   conv=>lhs; rw [<- List.take_append_drop lo l]
   rw [List.flatMap_append,List.drop_append]
   have hl3:((l.take lo).flatMap f).length=lo * n:=by rw [flat_len' fun x hx=>hf x (List.mem_of_mem_take hx),List.length_take,Nat.min_eq_left (by omega)]
   rw [hl3,List.drop_eq_nil_of_le (by omega),Nat.sub_self,List.drop_zero,List.nil_append]
  rw [hd]
  conv=>lhs; rw [<- List.take_append_drop (hi - lo) (l.drop lo)]
  rw [List.flatMap_append,List.take_append]
  have hl3:(((l.drop lo).take (hi - lo)).flatMap f).length=(hi - lo) * n:=by rw [flat_len' fun x hx=>hf x (List.mem_of_mem_drop (List.mem_of_mem_take hx)),List.length_take,List.length_drop,Nat.min_eq_left (by omega)]
  rw [hl3,Nat.sub_self,List.take_zero,List.append_nil,List.take_of_length_le (by omega)]
 rw [e] at rc; exact rc
theorem Cut.pre{h:Array Obj}{s:Sl}{n:Nat}{α:Type}{f:α->List Value}{l:List α}{lo hi mx:Int}{K:Sl->Prop}(r:Rd h s n (l.flatMap f))(hf:∀ x∈l,(f x).length=n)(hl:s.len=l.length)(h0:0<=lo)(h1:lo<=hi)(h2:hi<=(l.length:Int))(hm:mx=s.cap)
  (k:∀ s':Sl,Rd h s' n (((l.drop lo.toNat).take (hi.toNat - lo.toNat)).flatMap f)->s'.len=hi.toNat - lo.toNat->K s'):Cut s lo hi mx n K:=by
 have rc:=Rd.pre r hf hl (lo:=lo.toNat) (hi:=hi.toNat) (by omega) (by omega)
 have hc:=r.cap
 subst hm
 refine Cut.mk h0 h1 (by omega) (Int.le_refl _) ?_
 have e1:(hi - lo).toNat=hi.toNat - lo.toNat:=by omega
 have e2:((s.cap:Int) - lo).toNat=s.cap - lo.toNat:=by omega
 rw [e1,e2,Int.toNat_natCast]
 exact k _ rc rfl
theorem app_lit{b:Nat}{s':Sl}{l:List Int}{K:Sl->World->Prop}(hb:w.heap[b]? = some (.cells ([]:List Value).toArray 5 (0,0)))(base:Nat)(hbb:base<=b)(r:RdB w.heap s' l)(hn:l.length<=100000)
  (k:∀ s w',OwnB w'.heap base s l->Ext (·=b) w w'->(s.blk=some b∨∃ q,s.blk=some q/\w.heap.size<=q)->K s w'):AppW Tryz.prog 40 40 ⟨some ⟨b,0,none⟩,0,0⟩ (.slice s'.a s'.len s'.cap) K w:=by
 have hlt:=blt hb
 have o:Own w.heap base 5 1 ⟨some ⟨b,0,none⟩,0,0⟩ []:=⟨rfl, .inr ⟨b,[],rfl,hbb,hb,rfl,Nat.le_refl _⟩,by simp⟩
 have hl:=RdB.len r
 refine app_uint8 o (by omega) r.src (by simp only; omega) fun s w' o' _ x hbl=>k s w' (by simpa using o') (x.mono fun q _ h=>by simp [Sl.blk] at h; omega) ?_
 rcases hbl with h | ⟨q,h,hq⟩
 .exact .inl (by rw [h]; rfl)
 .exact .inr ⟨q,h,hq⟩
structure MkP(w0 w':World)(Q:Nat->Prop)(out:Sl)(L:List Pr):Prop where
 own:Own w'.heap w0.heap.size 70 2 out (L.flatMap Pr.cs)
 pr:∀ p∈L,PrR w'.heap (fun q=>(Q q/\q < w0.heap.size)∨(w0.heap.size<=q/\out.blk≠some q)) p
theorem MkP.app{w0:World}{Q:Nat->Prop}{out s:Sl}{L xs:List Pr}{K:Sl->World->Prop}(h:MkP w0 w Q out L)(hw:w0.heap.size<=w.heap.size)(r:Rd w.heap s 2 (xs.flatMap Pr.cs))(hx:∀ p∈xs,PrR w.heap (fun q=>(Q q/\q < w0.heap.size)∨(w0.heap.size<=q/\out.blk≠some q)) p)(hn:L.length+xs.length<=1000000)
  (k:∀ s' w',MkP w0 w' Q s' (L++xs)->Ext (fun q=>out.blk=some q) w w'->K s' w'):AppW Tryz.prog 62 62 out (.slice s.a s.len s.cap) K w:=by
 have hol:out.len=L.length:=by have:=h.own.len; rw [flat_len' (prCs_len L)] at this; omega
 have hsl:s.len=xs.length:=by have:=r.len; rw [flat_len' (prCs_len xs)] at this; omega
 refine app_api_Pair h.own hw r.src (by rw [hol,hsl]; omega) fun s' w' o' _ x hbl=>k s' w' ⟨by rw [List.flatMap_append]; exact o',fun p hp=>?_⟩ x
 have x':Ext (fun q=>out.blk=some q) w w':=x
 have hp':PrR w.heap (fun q=>(Q q/\q < w0.heap.size)∨(w0.heap.size<=q/\out.blk≠some q)) p:=by
  rcases List.mem_append.1 hp with h1 | h1
  .exact h.pr p h1
  .exact hx p h1
 have ne:∀ q,q < w.heap.size->(Q q/\q < w0.heap.size)∨(w0.heap.size<=q/\out.blk≠some q)->¬ out.blk=some q:=fun q _ hq hb=>by
  rcases hq with h1 | h1
  .have:=(h.own.lt hb).1; omega
  .exact h1.2 hb
 have hlt:PrR w.heap (fun q=>q < w.heap.size/\((Q q/\q < w0.heap.size)∨(w0.heap.size<=q/\out.blk≠some q))) p:=hp'.mono fun q h1 h2=>⟨h1,h2⟩
 refine (hlt.ext x' fun q h1 h2=>ne q h1 h2.2).mono fun q _ hq=>?_
 rcases hq with ⟨h0,h1 | h1⟩
 .exact .inl h1
 .refine .inr ⟨h1.1,fun hb=>?_⟩
  rcases hbl with h2 | ⟨c,h2,h3⟩
  .exact h1.2 (by rw [<- h2]; exact hb)
  .rw [h2] at hb; cases hb; omega
theorem with_tail{w0 w4:World}{Q:Nat->Prop}{out ks vs:Sl}{L:List Pr}{kb vb:List Int}{J:Sl->World->Prop}(h:MkP w0 w4 Q out L)(hw:w0.heap.size<=w4.heap.size)(x4:Ext No w4 w)(hk:OwnB w.heap w4.heap.size ks kb)(hv:OwnB w.heap w4.heap.size vs vb)(k8:B8 kb)(v8:B8 vb)(hn:L.length<=900000)
  (hJ:∀ s' w',MkP w0 w' Q s' (L++[(⟨ks,vs⟩,(kb,vb))])->Ext (fun q=>out.blk=some q) w4 w'->J s' w') :
  NewW w (.cells [.slice ks.a ks.len ks.cap, .slice vs.a vs.len vs.cap].toArray 70) fun b w5=>Ext (fun q=>out.blk=some q) w4 w5/\AppW Tryz.prog 62 62 out (.slice (some (Addr.mk b 0 none)) 1 1) (fun s w6=>Ext (fun q=>out.blk=some q) w4 w6/\J s w6) w5:=by
 refine NewW.mk fun b w5 n5=>⟨(x4.no n5.ext).of_no,?_⟩
 have x45:=x4.no n5.ext
 have y4:=x4.size
 have obl:∀ q,out.blk=some q->q < w4.heap.size:=fun q hq=>(h.own.lt hq).2
 have h5:MkP w0 w5 Q out L:=⟨h.own.no x45,fun p hp=>(h.pr p hp).ext x45 fun _ _ _ h=>h⟩
 have e5:Own w5.heap w.heap.size 70 2 ⟨some ⟨b,0,none⟩,1,1⟩ (Pr.cs (⟨ks,vs⟩,(kb,vb))):=Own.new (n:=1) (sz:=2) n5 rfl (prOne _)
 have z5:=x45.size
 refine h5.app (s:=⟨some ⟨b,0,none⟩,1,1⟩) (xs:=[(⟨ks,vs⟩,(kb,vb))]) (by omega) (by simpa using e5.rd) (fun p hp=>?_) (by simp; omega) fun s' w' m' x'=>⟨x45.of_no.trans x' fun _ _ h=>h,hJ s' w' m' (x45.of_no.trans x' fun _ _ h=>h)⟩
 rw [List.mem_singleton] at hp; subst hp
 have bd:∀{s:Sl}{l:List Int},OwnB w.heap w4.heap.size s l->∀ q,s.blk=some q->(Q q/\q < w0.heap.size)∨(w0.heap.size<=q/\out.blk≠some q):=fun o q hq=>by
  have:=(o.lt hq).1
  exact .inr ⟨by omega,fun hb=>by have:=obl q hb; omega⟩
 exact ⟨(hk.no n5.ext).rd,(hv.no n5.ext).rd,k8,v8,fun _=>bd hk,fun _=>bd hv⟩
set_option maxHeartbeats 2000000 in
theorem with_spec{Q:Nat->Prop}{s:Sl}{l:List Pr}{x:OpV}{K:Sl->World->Prop}(hl:PrsR w.heap Q s l)(hs:SortK (kvsOf l))(hx:OpA w.heap x)(hf:x.key.length<=100000/\x.val.length<=100000)(hn:l.length<=800000)
  (k:∀ s' L w',MkP w w' Q s' L->kvsOf L=kvOp x.key (opV x.d x.val) (kvsOf l)->L.length<=l.length+1->Ext No w w'->K s' w'):C_ref15_With s x.k x.v x.d w K:=by
 apply S_ref15_With
 have hsl:=hl.len
 refine NewW.mk fun b w1 n1=>⟨_,Cell.lst n1.get rfl,?_⟩
 have hb:=n1.at_; have z1:=n1.size
 refine place_spec (hl.no n1.ext) (Rd.no hx.k n1.ext) hx.k8 (by omega) fun i w2 P x2=>NewW.mk fun b1 w3 n3=>?_
 have hb1:=n3.at_; have z3:=n3.size
 have x03:=(n1.ext.no x2).no n3.ext
 have y2:=x2.size
 have g3:=get_no (get_no n1.get x2) n3.ext
 have hil:i<=l.length:=by have:=P.le; simpa using this
 have hl3:=hl.no x03
 have pq:∀{w':World}{out:Sl}{p:Pr},Ext No w w'->p∈l->PrR w'.heap (fun q=>(Q q/\q < w.heap.size)∨(w.heap.size<=q/\out.blk≠some q)) p:=fun xe hp=>((hl.pr _ hp).mono (Q':=fun q=>Q q/\q < w.heap.size) fun q h1 h2=>⟨h2,h1⟩).ext xe (fun _ _ _ h=>h) |>.mono fun q _ h => .inl h
 refine Cut.pre hl3.rd (prCs_len l) hsl (by omega) (by omega) (by omega) rfl fun sc rc lc=>?_
 simp only [Int.toNat_natCast,Int.toNat_zero,List.drop_zero,Nat.sub_zero] at rc lc
 have m3:MkP w w3 Q ⟨some ⟨b1,0,none⟩,0,0⟩ []:=⟨⟨rfl, .inr ⟨b1,[],rfl,by omega,n3.get,rfl,Nat.le_refl _⟩,by simp⟩,by simp⟩
 refine m3.app (by omega) rc (fun p hp=>pq x03 (List.mem_of_mem_take hp)) (by simp; omega) fun s4 w4 m4 x4=>?_
 rw [List.nil_append] at m4
 have x04:Ext No w w4:=x03.trans x4 fun q hq h=>by simp [Sl.blk] at h; omega
 have y4:=x4.size
 have g4:=get_ext g3 x4 (fun h=>by simp [Sl.blk] at h; omega)
 have s4b:∀ q,s4.blk=some q->w.heap.size<=q/\q < w4.heap.size:=fun q hq=>m4.own.lt hq
 have s4nb:s4.blk≠some b:=fun h=>by
  -- the pairs' block is not the op's
  have:=Own.lt m4.own h
  rcases m4.own.is with ⟨h1,_⟩ | ⟨c,rest,ha,_,hc,_⟩
  .rw [h1] at h; simp [Sl.blk] at h
  .simp [Sl.blk,ha] at h
   subst h
   rw [g4] at hc
   simp at hc
 refine ⟨fun out w'=>∃ L,MkP w w' Q out L/\kvsOf L=(kvsOf l).take i++((opV x.d x.val).map fun v=>(x.key,v)).toList/\L.length<=i+1/\Ext (fun q=>s4.blk=some q) w4 w',⟨_,Cell.lst g4 rfl,If.not (If.cases (fun hd=>?_) fun hd=>?_)⟩,?_⟩
 .exact ⟨_,m4,by rw [hd]; simp [kvsOf,List.map_take],by rw [List.length_take]; omega,Ext.refl _ _⟩
 .have hkv:kvsOf (l.take i++[(⟨⟨none,0,0⟩,⟨none,0,0⟩⟩,(x.key,x.val))])=(kvsOf l).take i++((opV x.d x.val).map fun v=>(x.key,v)).toList:=by rw [hd]; simp [kvsOf,List.map_take,opV]
  have fin:∀{ks vs:Sl}(s':Sl)(w':World),MkP w w' Q s' (l.take i++[(⟨ks,vs⟩,(x.key,x.val))])->Ext (fun q=>s4.blk=some q) w4 w'->∃ L,MkP w w' Q s' L/\kvsOf L=(kvsOf l).take i++((opV x.d x.val).map fun v=>(x.key,v)).toList/\L.length<=i+1/\Ext (fun q=>s4.blk=some q) w4 w':=fun s' w' h1 h2=>⟨_,h1,by rw [<- hkv]; simp [kvsOf],by simp [List.length_take]; omega,h2⟩
  have hw4:w.heap.size<=w4.heap.size:=by omega
  have hli:(l.take i).length<=900000:=by rw [List.length_take]; omega
  have kR:∀{w'},Ext No w4 w'->RdB w'.heap x.k x.key:=fun e=>Rd.no hx.k (x04.no e)
  have vR:∀{w'},Ext No w4 w'->RdB w'.heap x.v x.val:=fun e=>Rd.no hx.v (x04.no e)
  have toN:∀{w' w'':World}{c:Nat},Ext No w4 w'->w4.heap.size<=c->Ext (·=c) w' w''->Ext No w4 w'':=fun e hc e2=>e.trans e2 fun q hq h=>by omega
  refine ⟨Ext (fun q=>s4.blk=some q) w4,(Ext.refl _ _).drew,_,Held.but (Cell.lst g4 rfl) s4nb,_,Held.but (Cell.lst g4 rfl) s4nb,⟨?_,?_⟩⟩
  .refine NewW.mk fun b2 w5 n5=>?_
   have x5:Ext No w4 w5:=n5.ext.drew_left
   have z5:w5.heap.size=w4.heap.size+1:=n5.size
   have hb2:b2=w4.heap.size:=n5.at_
   refine ⟨x5.of_no,⟨?_,?_⟩⟩
   .refine app_lit n5.get w4.heap.size (by omega) (kR x5) hf.1 fun s6 w6 o6 x6 b6=>?_
    have x46:=toN x5 (by omega) x6
    have y6:=x6.size
    refine ⟨x46.of_no,NewW.mk fun b3 w7 n7=>?_⟩
    have x47:=x46.no n7.ext
    have z7:=n7.size; have hb3:=n7.at_
    refine ⟨x47.of_no,app_lit n7.get w4.heap.size (by omega) (vR x47) hf.2 fun s8 w8 o8 x8 b8=>?_⟩
    have x48:=toN x47 (by omega) x8
    refine ⟨x48.of_no,with_tail m4 hw4 x48 ((o6.no n7.ext).ext x8 fun q hq h=>by have:=(o6.lt hq).2; omega) o8 hx.k8 hx.v8 hli fun s' w' h1 h2=>fin s' w' h1 h2⟩
   .refine NewW.mk fun b5 w6 n6=>?_
    have x46:=x5.no n6.ext
    have z6:=n6.size; have hb5:=n6.at_
    refine ⟨x46.of_no,app_lit (get_no n5.get n6.ext) w4.heap.size (by omega) (kR x46) hf.1 fun s7 w7 o7 x7 b7=>?_⟩
    have x47:=toN x46 (by omega) x7
    have y7:=x7.size
    refine ⟨x47.of_no,app_lit (get_ext n6.get x7 (by omega)) w4.heap.size (by omega) (vR x47) hf.2 fun s8 w8 o8 x8 b8=>?_⟩
    have x48:=toN x47 (by omega) x8
    refine ⟨x48.of_no,with_tail m4 hw4 x48 (o7.ext x8 fun q hq h=>?_) o8 hx.k8 hx.v8 hli fun s' w' h1 h2=>fin s' w' h1 h2⟩
    rcases b7 with h3 | ⟨c,h3,h4⟩
    .rw [h3] at hq; cases hq; omega
    .rw [h3] at hq; cases hq; omega
  .refine NewW.mk fun b7 w5 n5=>?_
   have x5:Ext No w4 w5:=n5.ext.drew_left
   have z5:w5.heap.size=w4.heap.size+1:=n5.size
   have hb7:b7=w4.heap.size:=n5.at_
   refine ⟨x5.of_no,NewW.mk fun b8 w6 n6=>?_⟩
   have x46:=x5.no n6.ext
   have z6:=n6.size; have hb8:=n6.at_
   refine ⟨x46.of_no,app_lit n6.get w4.heap.size (by omega) (kR x46) hf.1 fun s7 w7 o7 x7 bb7=>?_⟩
   have x47:=toN x46 (by omega) x7
   have y7:=x7.size
   refine ⟨x47.of_no,app_lit (get_ext (get_no n5.get n6.ext) x7 (by omega)) w4.heap.size (by omega) (vR x47) hf.2 fun s8 w8 o8 x8 bb8=>?_⟩
   have x48:=toN x47 (by omega) x8
   refine ⟨x48.of_no,with_tail m4 hw4 x48 (o7.ext x8 fun q hq h=>?_) o8 hx.k8 hx.v8 hli fun s' w' h1 h2=>fin s' w' h1 h2⟩
   rcases bb7 with h3 | ⟨c,h3,h4⟩
   .rw [h3] at hq; cases hq; omega
   .rw [h3] at hq; cases hq; omega
 rintro _ out w5 ⟨L,m5,hL,hLl,x5⟩
 have x05:Ext No w w5:=x04.trans x5 fun q hq h=>by have:=(s4b q h).1; omega
 have y5:=x5.size
 have hl5:=hl.no x05
 have g5:=get_ext g4 x5 s4nb
 have hlen:∀ k',i<=k'->L.length+((l.drop k').take (l.length - k')).length<=l.length+1:=fun k' hk'=>by rw [List.length_take,List.length_drop]; omega
 have done:∀{k':Nat}{s':Sl}{w':World},i<=k'->(kvHi x.key (kvsOf l)=(kvsOf l).drop k')->MkP w w' Q s' (L++(l.drop k').take (l.length - k'))->Ext (fun q=>out.blk=some q) (drewW w5) w'->K s' w':=fun {k' s' w'} hik hk' m' x'=>by
  refine k s' _ w' m' ?_ (by rw [List.length_append]; exact hlen k' hik) (x05.drew.trans x' fun q hq h=>by have:=(m5.own.lt h).1; omega)
  have e1:(l.drop k').take (l.length - k')=l.drop k':=List.take_of_length_le (by rw [List.length_drop]; omega)
  rw [e1,kvsOf,List.map_append,show List.map Prod.snd L=kvsOf L from rfl,hL]
  unfold kvOp
  rw [P.lo hs,hk',List.append_assoc,List.map_drop]
 have m5d:MkP w (drewW w5) Q out L:=⟨m5.own,m5.pr⟩
 have hdec:∀ h:i < l.length,(∃ h:i < (kvsOf l).length,(kvsOf l)[i].1=x.key) ↔ l[i].2.1=x.key:=fun h=>⟨fun ⟨_,e⟩=>by simpa using e,fun e=>⟨by simpa using h,by simpa using e⟩⟩
 refine ⟨Ext No w5,(Ext.refl _ _).drew,If.dec (fun h=>?_) fun h=>?_⟩
 .have hi':i < l.length:=by omega
  refine Ix.elem hl5.rd (prCs_len l) (by decide) (by omega) h fun bb o hi _ hc=>?_
  simp only [Int.toNat_natCast] at hi hc
  have pj:=hl5.pr _ (List.getElem_mem hi')
  refine ⟨_,Held.cell (hc 0 _ rfl),StrC.mk pj.k (fun bb o v hv=>heldNo hv) ⟨_,Held.cell (Cell.lst g5 rfl),StrC.mk (Rd.no hx.k x05) (fun bb o v hv=>heldNo hv) ?_⟩⟩
  rw [toList_mk,toList_mk]
  refine If.cases (fun he=>?_) fun he=>?_
  .rw [beq_iff_eq,toB_inj pj.k8 hx.k8] at he
   refine Ar.i64 (by omega) (Cut.pre hl5.rd (prCs_len l) hsl (by omega) (by omega) (by omega) rfl fun s6 r6 _=>?_)
   have e1:((i:Int)+1).toNat=i+1:=by omega
   have e2:((s.len:Int)).toNat=l.length:=by omega
   rw [e1,e2] at r6
   refine m5d.app (w:=drewW w5) (by show _<=w5.heap.size; omega) r6 (fun p hp=>pq x05.drew (List.mem_of_mem_drop (List.mem_of_mem_take hp))) (by have:=hlen (i+1) (by omega); omega) fun s7 w7 m7 x7=>done (by omega) ?_ m7 x7
   rw [P.hi hs,if_pos ((hdec hi').2 he)]
  .have he':l[i].2.1≠x.key:=fun e=>by
    have:(toB l[i].2.1 == toB x.key)=true:=by rw [beq_iff_eq,toB_inj pj.k8 hx.k8]; exact e
    rw [this] at he; cases he
   refine Cut.pre hl5.rd (prCs_len l) hsl (by omega) (by omega) (by omega) rfl fun s6 r6 _=>?_
   have e2:((s.len:Int)).toNat=l.length:=by omega
   rw [e2,Int.toNat_natCast] at r6
   refine m5d.app (w:=drewW w5) (by show _<=w5.heap.size; omega) r6 (fun p hp=>pq x05.drew (List.mem_of_mem_drop (List.mem_of_mem_take hp))) (by have:=hlen i (by omega); omega) fun s7 w7 m7 x7=>done (by omega) ?_ m7 x7
   rw [P.hi hs,if_neg fun e=>he' ((hdec hi').1 e)]
 .refine Cut.pre hl5.rd (prCs_len l) hsl (by omega) (by omega) (by omega) rfl fun s6 r6 _=>?_
  have e2:((s.len:Int)).toNat=l.length:=by omega
  rw [e2,Int.toNat_natCast] at r6
  refine m5d.app (w:=drewW w5) (by show _<=w5.heap.size; omega) r6 (fun p hp=>pq x05.drew (List.mem_of_mem_drop (List.mem_of_mem_take hp))) (by have:=hlen i (by omega); omega) fun s7 w7 m7 x7=>done (by omega) ?_ m7 x7
  rw [P.hi hs,if_neg (by rintro ⟨h1,_⟩; simp at h1; omega)]
end
end Go.Proofs.YtcamoanigdfihaaGreat
set_option maxRecDepth 100000
namespace Go.V
theorem opsL_len(xs:List OpV)(kvs:List KV):(opsL xs kvs).length<=kvs.length+xs.length:=by
 refine snoc_ind (P:=fun l=>(opsL l kvs).length<=kvs.length+l.length) (Nat.le_refl _) (fun l x ih=>?_) xs
 rw [opsL_snoc,List.length_append,List.length_singleton]
 have:∀(k:List Int)(o:Option (List Int))(a:List KV),(kvOp k o a).length<=a.length+1:=fun k o a=>by
  unfold kvOp kvLo kvHi
  have h:(a.filter fun x=>decide (LtB x.1 k)).length+(a.filter fun x=>decide (LtB k x.1)).length<=a.length:=by
   induction a with
   | nil=>simp
   | cons x a ih =>
    rw [List.filter_cons,List.filter_cons]
    by_cases h1:LtB x.1 k
    .have h2:¬ LtB k x.1:=fun h2=>(h1.trans h2).irrefl
     simp [h1,h2]; omega
    .by_cases h2:LtB k x.1 <;> simp [h1,h2] <;> omega
  simp only [List.length_append]
  cases o <;> simp <;> omega
 have:=this x.key (opV x.d x.val) (opsL l kvs)
 omega
end Go.V
namespace Go.Proofs.YtcamoanigdfihaaGreat
open Go.V
section
variable {w:World} {T:Nat->Option Nat} {m:MemV} {M:Mm}
set_option maxHeartbeats 1000000 in
theorem refApply_spec{Q:Nat->Prop}{s ops:Sl}{l:List Pr}{xs:List OpV}{K:Sl->World->Prop}(hl:PrsR w.heap Q s l)(hs:SortK (kvsOf l))(ho:Rd w.heap ops 3 (xs.flatMap OpV.cs))(hx:∀ x∈xs,OpA w.heap x)(hf:∀ x∈xs,x.fit)(hn:l.length+xs.length<=700000)
  (k:∀ s' L w',PrsR w'.heap (fun q=>(Q q/\q < w.heap.size)∨(w.heap.size<=q/\q < w'.heap.size)) s' L->(∀ q,s'.blk=some q->w.heap.size<=q/\q < w'.heap.size)->kvsOf L=opsL xs (kvsOf l)->L.length<=l.length+xs.length->Ext No w w'->K s' w'):C_ref15_Apply s ops w K:=by
 apply S_ref15_Apply
 have hsl:=hl.len
 have hol:ops.len=xs.length:=by have:=ho.len; rw [flat_len' (opCs_len xs)] at this; omega
 refine NewW.mk fun b w1 n1=>?_
 have hb:=n1.at_; have z1:=n1.size
 have m1:MkP w w1 Q ⟨some ⟨b,0,none⟩,0,0⟩ []:=⟨⟨rfl, .inr ⟨b,[],rfl,by omega,n1.get,rfl,Nat.le_refl _⟩,by simp⟩,by simp⟩
 have hl1:=hl.no n1.ext
 refine m1.app (by omega) hl1.rd (fun p hp=>((hl.pr p hp).mono (Q':=fun q=>Q q/\q < w.heap.size) fun q h1 h2=>⟨h2,h1⟩).ext n1.ext (fun _ _ _ h=>h) |>.mono fun q _ h => .inl h) (by simp; omega) fun s2 w2 m2 x2=>?_
 rw [List.nil_append] at m2
 have x02:Ext No w w2:=n1.ext.trans x2 fun q hq h=>by simp [Sl.blk] at h; omega
 refine ⟨fun q out tt w'=>∃ (j:Nat) (L:List Pr),tt=j/\j<=xs.length/\q=xs.length - j/\PrsR w'.heap (fun q=>(Q q/\q < w.heap.size)∨w.heap.size<=q) out L/\(∀ q,out.blk=some q->w.heap.size<=q/\q < w'.heap.size)/\kvsOf L=opsL (xs.take j) (kvsOf l)/\L.length<=l.length+j/\Ext No w w',
  ⟨xs.length,0,l,rfl,by omega,by omega,⟨m2.own.rd,fun p hp=>(m2.pr p hp).mono fun q _ h=>h.imp id fun h=>h.1⟩,fun q hq=>m2.own.lt hq,rfl,by omega,x02⟩,?_⟩
 rintro _ m0 out tt w3 ⟨j,L,rfl,hj,hq,r3,b3,k3,l3,x3⟩
 refine If.dec (fun h=>?_) fun h=>?_
 .have hjl:j < xs.length:=by omega
  refine Ix.elem (ho.no x3) (opCs_len xs) (by decide) (by omega) h fun bb o hi _ hc=>?_
  simp only [Int.toNat_natCast] at hi hc
  have ox:=(hx _ (List.getElem_mem hjl)).no x3
  have fx:=hf _ (List.getElem_mem hjl)
  refine ⟨_,hc 0 _ rfl,_,hc 1 _ rfl,_,hc 2 _ rfl,?_⟩
  refine with_spec r3 (by rw [k3]; exact opsL_sort hs) ox ⟨by have:=fx.1; omega,by have:=fx.2.1; omega⟩ (by omega) fun s4 L4 w4 m4 k4 l4 x4=>Ar.i64 (by omega) ⟨xs.length - (j+1),by omega,j+1,L4,by omega,by omega,rfl,⟨m4.own.rd,fun p hp=>(m4.pr p hp).mono fun q _ h=>?_⟩,fun q hq=>?_,?_,by omega,x3.no x4⟩
  .have:=x3.size
   rcases h with h | h
   .exact h.1
   .exact .inr (by omega)
  .have:=m4.own.lt hq; have:=x3.size; omega
  .rw [k4,k3,List.take_add_one,List.getElem?_eq_getElem hjl,Option.toList_some,opsL_snoc]
 .have hjl:j=xs.length:=by omega
  rw [hjl,List.take_length] at k3
  exact k out L w3 ⟨r3.rd,fun p hp=>(r3.pr p hp).mono fun q h1 h2=>h2.imp id fun h=>⟨h,h1⟩⟩ b3 k3 (by omega) x3
theorem refSame_spec{Q Q':Nat->Prop}{a b:Sl}{la lb:List Pr}{K:Bool->World->Prop}(ha:PrsR w.heap Q a la)(hb:PrsR w.heap Q' b lb)(he:kvsOf la=kvsOf lb)(hn:la.length<=1000000)(k:∀ w',Ext No w w'->K true w'):C_ref15_Same a b w K:=by
 apply S_ref15_Same
 have h1:=ha.len; have h2:=hb.len
 have hll:la.length=lb.length:=by have:=congrArg List.length he; simpa using this
 refine If.bne (fun h=>by omega) fun _=>?_
 refine ⟨fun q tt w'=>∃ j:Nat,tt=j/\j<=la.length/\q=la.length - j/\Ext No w w',⟨la.length,0,rfl,by omega,by omega,Ext.refl _ _⟩,?_⟩
 rintro _ m0 tt w1 ⟨j,rfl,hj,hq,x1⟩
 refine If.dec (fun h=>?_) fun h=>k w1 x1
 have hja:j < la.length:=by omega
 have hjb:j < lb.length:=by omega
 have ej:la[j].2=lb[j].2:=by
  have:=congrArg (fun l=>l[j]?) he
  simpa [List.getElem?_map,List.getElem?_eq_getElem hja,List.getElem?_eq_getElem hjb] using this
 have pa:=(ha.pr _ (List.getElem_mem hja)).ext x1 fun _ _ _ h=>h
 have pb:=(hb.pr _ (List.getElem_mem hjb)).ext x1 fun _ _ _ h=>h
 refine ⟨Ext No w1,(Ext.refl _ _).drew,?_⟩
 refine Ix.elem (ha.rd.no x1) (prCs_len la) (by decide) (by omega) h fun b1 o1 _ _ c1=>?_
 refine ⟨_,Held.cell (c1 0 _ rfl),StrC.mk pa.k (fun bb o v hv=>heldNo hv) ?_⟩
 refine Ix.elem (hb.rd.no x1) (prCs_len lb) (by decide) (by omega) (by omega) fun b2 o2 _ _ c2=>?_
 refine ⟨_,Held.cell (c2 0 _ rfl),StrC.mk pb.k (fun bb o v hv=>heldNo hv) ?_⟩
 rw [ej,beq_self_eq_true]
 refine If.not (If.yes ?_)
 refine Ix.elem (ha.rd.no x1) (prCs_len la) (by decide) (by omega) h fun b1 o1 _ _ c1=>?_
 refine ⟨_,Held.cell (c1 1 _ rfl),StrC.mk pa.v (fun bb o v hv=>heldNo hv) ?_⟩
 refine Ix.elem (hb.rd.no x1) (prCs_len lb) (by decide) (by omega) (by omega) fun b2 o2 _ _ c2=>?_
 refine ⟨_,Held.cell (c2 1 _ rfl),StrC.mk pb.v (fun bb o v hv=>heldNo hv) ?_⟩
 rw [ej,beq_self_eq_true]
 exact If.not (If.yes (Ar.i64 (by omega) ⟨la.length - (j+1),by omega,j+1,by omega,by omega,rfl,x1.drew⟩))
end
end Go.Proofs.YtcamoanigdfihaaGreat
set_option maxRecDepth 100000
namespace Go.V
inductive KidsQ (Q:Rf->List KV->Prop):List Ent->List KV->Prop
 | nil:KidsQ Q [] []
 | cons {e:Ent} {l:List Ent} {kv kvs:List KV} (h:Q e.cd kv) (r:KidsQ Q l kvs):KidsQ Q (e::l) (kv++kvs)
theorem KidsQ.app{Q:Rf->List KV->Prop}{a b:List Ent}{x y:List KV}(h:KidsQ Q a x)(k:KidsQ Q b y):KidsQ Q (a++b) (x++y):=by
 induction h with
 | nil=>exact k
 | cons h r ih=>rw [List.append_assoc]; exact .cons h ih
theorem KidsQ.one{Q:Rf->List KV->Prop}{e:Ent}{kv:List KV}(h:Q e.cd kv):KidsQ Q [e] kv:=by
 have:=KidsQ.cons (e:=e) h .nil; rwa [List.append_nil] at this
theorem KidsQ.split{Q:Rf->List KV->Prop}:∀{a b:List Ent}{x:List KV},KidsQ Q (a++b) x->∃ y z,x=y++z/\KidsQ Q a y/\KidsQ Q b z
 | [],b,x,h=>⟨[],x,rfl, .nil,h⟩
 | e::a,b,x,h=>by
  cases h with
  | cons h r =>
   obtain ⟨y,z,rfl,h1,h2⟩:=KidsQ.split r
   exact ⟨_,z,by rw [List.append_assoc], .cons h h1,h2⟩
theorem KidsQ.last{Q:Rf->List KV->Prop}{e:Ent}{x:List KV}(h:KidsQ Q [e] x):Q e.cd x:=by
 cases h with
 | cons h r=>cases r; rwa [List.append_nil]
abbrev SubQ(f:Pages)(t:Int)(lev:Nat):Rf->List KV->Prop:=fun r kv=>∃ p,SubT f t lev r kv p
theorem KidsP.q{f:Pages}{t:Int}{lev:Nat}{l:List Ent}{kvs:List KV}{ps:List Rf}(h:KidsP (SubT f t lev) l kvs ps):KidsQ (SubQ f t lev) l kvs:=by
 induction h with
 | nil=>exact .nil
 | cons h lo hi r ih=>exact .cons ⟨_,h⟩ ih
abbrev Stp:=List Ent×Nat
def PathP(f:Pages)(t:Int):Nat->List KV->List Stp->Nat->Prop
 | 0,kvs,P,a=>∃ l,P=[(l,a)]/\l.map Ent.key=kvs.map Prod.fst/\a<=l.length/\l≠[]
 | lev+1,kvs,P,a=>∃ l i P' a' pre kv post,P=(l,i)::P'/\(∃ hi:i < l.length,SubQ f t lev l[i].cd kv)/\KidsQ (SubQ f t lev) (l.take i) pre/\KidsQ (SubQ f t lev) (l.drop (i+1)) post/\kvs=pre++(kv++post)/\PathP f t lev kv P' a'/\a=pre.length+a'
section
variable {f:Pages} {t:Int}
theorem PathP.len:∀{lev:Nat}{kvs:List KV}{P:List Stp}{a:Nat},PathP f t lev kvs P a->P.length=lev+1
 | 0,_,_,_,h=>by obtain ⟨l,rfl,_⟩:=h; rfl
 | lev+1,_,_,_,h=>by
  obtain ⟨l,i,P',a',pre,kv,post,rfl,_,_,_,_,hp,_⟩:=h
  simp [hp.len]
theorem PathP.leaf:∀{lev:Nat}{kvs:List KV}{P:List Stp}{a:Nat},PathP f t lev kvs P a->∃ Q l i b,P=Q++[(l,i)]/\Q.length=lev/\l≠[]/\i<=l.length/\a=b+i/\b+l.length<=kvs.length/\(∀ k (h:k < l.length) (h':b+k < kvs.length),l[k].key=kvs[b+k].1)/\∀ k,k<=l.length->PathP f t lev kvs (Q++[(l,k)]) (b+k)
 | 0,kvs,P,a,h=>by
  obtain ⟨l,rfl,h1,h2,hn⟩:=h
  have hl:=congrArg List.length h1
  simp only [List.length_map] at hl
  refine ⟨[],l,a,0,rfl,rfl,hn,h2,by omega,by omega,fun k h3 h4=>?_,fun k hk=>⟨l,by simp,h1,by omega,hn⟩⟩
  have:=congrArg (fun x=>x[k]?) h1
  simp only [List.getElem?_map,List.getElem?_eq_getElem h3,List.getElem?_eq_getElem (show k < kvs.length by omega),Option.map_some,Option.some.injEq] at this
  simpa using this
 | lev+1,kvs,P,a,h=>by
  obtain ⟨l,i,P',a',pre,kv,post,rfl,hi,h1,h2,rfl,hp,rfl⟩:=h
  obtain ⟨Q,l',i',b,rfl,hQ,a0,a1,rfl,a3,a4,a5⟩:=hp.leaf
  refine ⟨(l,i)::Q,l',i',pre.length+b,rfl,by simp [hQ],a0,a1,by omega,by simp only [List.length_append]; omega,fun k h3 h4=>?_,fun k hk=>⟨l,i,Q++[(l',k)],b+k,pre,kv,post,rfl,hi,h1,h2,rfl,a5 k hk,by omega⟩⟩
  rw [a4 k h3 (by omega)]
  have e:((pre++(kv++post))[pre.length+b+k]'h4)=kv[b+k]'(by omega):=by
   rw [List.getElem_append_right (by omega),List.getElem_append_left (by omega)]
   congr 1; omega
  rw [e]
def MovP(d:Int)(x:Stp):Prop:=0<=(x.2:Int)+d/\(x.2:Int)+d < (x.1.length:Int)
theorem PathP.over{d:Int}(hd:d=1∨d = -1):∀{lev:Nat}{kvs:List KV}{P:List Stp}{a:Nat},PathP f t lev kvs P a->(∀ x,P.getLast? = some x->if d=1 then x.2=x.1.length else x.2=0) ->
    (∃ j,∃ hj:j+1 < P.length,MovP d P[j]/\(∀ j' (h:j'+1 < P.length),j < j'->¬ MovP d P[j'])/\∃ i':Nat,(i':Int)=(P[j].2:Int)+d/\∃ hi:i' < P[j].1.length,∃ kv p,SubT f t (lev - 1 - j) P[j].1[i'].cd kv p/\∀ Pn,PathP f t (lev - 1 - j) kv Pn (if d=1 then 0 else kv.length)->PathP f t lev kvs (P.take j++(P[j].1,i')::Pn) a) ∨
    (∀ j (h:j+1 < P.length),¬ MovP d P[j])/\a=if d=1 then kvs.length else 0
  | 0,kvs,P,a,h,hl=>by
    obtain ⟨l,rfl,h1,h2,_⟩:=h
    refine .inr ⟨fun j h=>by simp at h,?_⟩
    have:=hl (l,a) rfl
    have h3:=congrArg List.length h1
    simp only [List.length_map] at h3
    split at this
    · rename_i h; rw [if_pos h]; simp at this; omega
    · rename_i h; rw [if_neg h]; simpa using this
  | lev+1,kvs,P,a,h,hl=>by
    obtain ⟨l,i,P',a',pre,kv,post,rfl,hi,h1,h2,rfl,hp,rfl⟩:=h
    have hP':=hp.len
    have hl':∀ x,P'.getLast? = some x->if d=1 then x.2=x.1.length else x.2=0:=fun x hx=>hl x (by
      rw [List.getLast?_cons]; rw [hx]; rfl)
    rcases PathP.over hd hp hl' with ⟨j,hj,m1,m2,i',e1,hi',kv',p',hS,hN⟩ | ⟨m2,ha⟩
    · refine .inl ⟨j+1,by simp; omega,m1,fun j' h hjj=>?_,i',e1,hi',kv',p',?_,fun Pn hPn=>?_⟩
      · cases j' with
        | zero=>omega
        | succ j'=>simp only [List.getElem_cons_succ]; exact m2 j' (by simp at h; omega) (by omega)
      · have e:lev+1 - 1 - (j+1)=lev - 1 - j:=by omega
        rw [e]; exact hS
      · have e:lev+1 - 1 - (j+1)=lev - 1 - j:=by omega
        rw [e] at hPn
        exact ⟨l,i,_,a',pre,kv,post,rfl,hi,h1,h2,rfl,hN Pn hPn,rfl⟩
    · obtain ⟨hil,hq⟩:=hi
      have mAll:∀ j' (h:j'+1 < ((l,i)::P').length),0 < j'->¬ MovP d ((l,i)::P')[j']:=fun j' h hjj=>by
        cases j' with
        | zero=>omega
        | succ j'=>simp only [List.getElem_cons_succ]; exact m2 j' (by simp at h; omega)
      rcases hd with hd | hd
      · rw [if_pos hd] at ha
        by_cases hm:i+1 < l.length
        · refine .inl ⟨0,by simp; omega,⟨by simp; omega,by simp; omega⟩,fun j' h hjj=>mAll j' h hjj,i+1,by simp [hd],hm,?_⟩
          rw [List.drop_eq_getElem_cons hm] at h2
          cases h2 with
          | @cons _ _ kv2 post2 hq2 r2 =>
          obtain ⟨p2,hS2⟩:=hq2
          refine ⟨kv2,p2,by simpa using hS2,fun Pn hPn=>?_⟩
          rw [if_pos hd] at hPn
          refine ⟨l,i+1,Pn,0,pre++kv,kv2,post2,rfl,⟨hm,p2,hS2⟩,?_,r2,by simp,by simpa using hPn,by simp; omega⟩
          rw [List.take_add_one,List.getElem?_eq_getElem hil]
          exact h1.app (KidsQ.one hq)
        · refine .inr ⟨fun j h=>?_,?_⟩
          · rcases Nat.eq_zero_or_pos j with h0 | h0
            · subst h0; rintro ⟨_,h3⟩; simp at h3; omega
            · exact mAll j h h0
          · rw [if_pos hd,List.drop_eq_nil_of_le (by omega)] at *
            cases h2
            simp; omega
      · have hd1:d≠1:=by omega
        rw [if_neg hd1] at ha
        by_cases hm:1<=i
        · have hi1:i - 1 < l.length:=by omega
          refine .inl ⟨0,by simp; omega,⟨by simp; omega,by simp; omega⟩,fun j' h hjj=>mAll j' h hjj,i - 1,by simp; omega,hi1,?_⟩
          have et:l.take i=l.take (i - 1)++[l[i - 1]]:=by
            have:i=i - 1+1:=by omega
            conv=>lhs; rw [this]
            rw [List.take_add_one,List.getElem?_eq_getElem hi1]; rfl
          rw [et] at h1
          obtain ⟨y,z,rfl,k1,k2⟩:=KidsQ.split h1
          obtain ⟨p2,hS2⟩:=k2.last
          refine ⟨z,p2,by simpa using hS2,fun Pn hPn=>?_⟩
          rw [if_neg hd1] at hPn
          refine ⟨l,i - 1,Pn,z.length,y,z,kv++post,rfl,⟨hi1,p2,hS2⟩,k1,?_,by simp,by simpa using hPn,by simp; omega⟩
          have:i - 1+1=i:=by omega
          rw [this,List.drop_eq_getElem_cons hil]
          exact .cons hq h2
        · refine .inr ⟨fun j h=>?_,?_⟩
          · rcases Nat.eq_zero_or_pos j with h0 | h0
            · subst h0; rintro ⟨h3,_⟩; simp at h3; omega
            · exact mAll j h h0
          · have i0:i=0:=by omega
            subst i0
            rw [List.take_zero] at h1
            cases h1
            rw [if_neg hd1]; simp; omega
theorem SubT.keys:∀{lev:Nat}{r:Rf}{kvs:List KV}{ps:List Rf},SubT f t lev r kvs ps->∀ x∈kvs,1<=x.1.length/\x.1.length<=32/\B8 x.1
 | 0,r,kvs,ps,h=>by
  obtain ⟨l,ps',hN,_,hL,_⟩:=h
  have hk:=hL.keys
  intro x hx
  have hm:x.1∈l.map Ent.key:=by rw [<- hk]; exact List.mem_map.2 ⟨x,hx,rfl⟩
  obtain ⟨e,he,hek⟩:=List.mem_map.1 hm
  obtain ⟨i,hi,rfl⟩:=List.getElem_of_mem he
  have h1:=(hN.right.ent i hi).1
  unfold keyP at h1
  rw [if_neg (by omega)] at h1
  rw [<- hek]
  exact ⟨by omega,by omega,(hN.ok _ he).2.1⟩
 | lev+1,r,kvs,ps,h=>by
  obtain ⟨l,ps',_,_,hK,_⟩:=h
  intro x hx
  have:∀{l kvs ps},KidsP (SubT f t lev) l kvs ps->∀ x∈kvs,1<=x.1.length/\x.1.length<=32/\B8 x.1:=fun h=>by
   induction h with
   | nil=>intro x hx; cases hx
   | cons h lo hi r ih =>
    intro x hx
    rcases List.mem_append.1 hx with h1 | h1
    .exact SubT.keys h x h1
    .exact ih x h1
  exact this hK x hx
theorem kids_at{lev:Nat}:∀{l:List Ent}{kvs:List KV}{ps:List Rf}{i:Nat},KidsP (SubT f t lev) l kvs ps->(hi:i < l.length)->∃ pre kv post p,KidsQ (SubQ f t lev) (l.take i) pre/\SubT f t lev l[i].cd kv p/\KidsQ (SubQ f t lev) (l.drop (i+1)) post/\kvs=pre++(kv++post)
 | _,_,_,i, .nil,hi=>by simp at hi
 | _,_,_,0, .cons (kv:=kv) (kvs:=kvs) (p:=p) h lo hi r,_=>⟨[],kv,kvs,p, .nil,h,r.q,rfl⟩
 | _,_,_,i+1, .cons (kv:=kv) h lo hi r,hl=>by
  obtain ⟨pre,kv',post,p',h1,h2,h3,h4⟩:=kids_at (i:=i) r (by simpa using hl)
  exact ⟨kv++pre,kv',post,p', .cons ⟨_,h⟩ h1,h2,h3,by rw [h4,List.append_assoc]⟩
theorem kids_seek{lev:Nat}{key:List Int}:∀{l:List Ent}{kvs:List KV}{ps:List Rf}{i:Nat},KidsP (SubT f t lev) l kvs ps->Rise l->(c:ChildP l key i)->∃ pre kv post p,KidsQ (SubQ f t lev) (l.take i) pre/\SubT f t lev (l[i]'c.lt).cd kv p/\KidsQ (SubQ f t lev) (l.drop (i+1)) post/\kvs=pre++(kv++post)/\(∀ x∈pre,LtB x.1 key)/\∀ x∈post,¬ LtB x.1 key
 | _,_,_,i, .nil,_,c=>absurd c.lt (by simp)
 | _,_,_,0,@KidsP.cons _ e l kv kvs p _ h lo hi r,hr,c=>by
  refine ⟨[],kv,kvs,p, .nil,h,r.q,rfl,by simp,fun x hx=>?_⟩
  cases l with
  | nil=>cases r; cases hx
  | cons e2 l2 =>
   have h1:=kids_lo r hr.tail e2 l2 rfl x hx
   have h2:LtB key e2.key:=c.gt 1 (by simp) (by omega)
   intro h3
   exact h1 (h3.trans h2)
 | _,_,_,i+1,@KidsP.cons _ e l kv kvs p _ h lo hi r,hr,c=>by
  have ci:ChildP l key i:=⟨by have:=c.lt; simp at this; omega,fun j hj hji=>c.le (j+1) (by simp; omega) (by omega),fun j hj hij=>c.gt (j+1) (by simp; omega) (by omega)⟩
  obtain ⟨pre,kv',post,p',h1,h2,h3,h4,h5,h6⟩:=kids_seek (i:=i) r hr.tail ci
  refine ⟨kv++pre,kv',post,p', .cons ⟨_,h⟩ h1,h2,h3,by rw [h4,List.append_assoc],fun x hx=>?_,h6⟩
  rcases List.mem_append.1 hx with h7 | h7
  .cases l with
   | nil=>exact absurd ci.lt (by simp)
   | cons e2 l2 =>
    have h8:LtB x.1 e2.key:=hi e2 l2 rfl x h7
    have h9:¬ LtB key e2.key:=c.le 1 (by simp) (by omega)
    rcases not_LtB.1 h9 with h10 | h10
    .rw [h10]; exact h8
    .exact h8.trans h10
  .exact h5 x h7
end
theorem PlaceP.mid{pre kv post:List KV}{key:List Int}{a:Nat}(hp:PlaceP kv key a)(h1:∀ x∈pre,LtB x.1 key)(h2:∀ x∈post,¬ LtB x.1 key):PlaceP (pre++(kv++post)) key (pre.length+a):=by
 have hle:=hp.le
 refine ⟨by simp only [List.length_append]; omega,fun j hj hja=>?_,fun hj=>?_⟩
 .rcases Nat.lt_or_ge j pre.length with h | h
  .rw [List.getElem_append_left h]; exact h1 _ (List.getElem_mem _)
  .rw [List.getElem_append_right h,List.getElem_append_left (by omega)]
   exact hp.lt _ (by omega) (by omega)
 .rw [List.getElem_append_right (by omega)]
  rcases Nat.lt_or_ge a kv.length with h | h
  .rw [List.getElem_append_left (by omega)]
   have:=hp.ge h
   simpa using this
  .rw [List.getElem_append_right (by omega)]
   exact h2 _ (List.getElem_mem _)
end Go.V
set_option maxRecDepth 100000
namespace Go.V
structure StV where
 k:Int
 v:Int
 s:Sl
 L:List (EntV×Ent)
 i:Nat
def StV.cs(x:StV):List Value:=[.int .u8 x.k, .int .u8 x.v, .slice x.s.a x.s.len x.s.cap, .int .i64 x.i]
theorem stCs_len(l:List StV):∀ x∈l,(StV.cs x).length=4:=fun _ _=>rfl
theorem stOne(x:StV):∀ v∈x.cs,oneC v=true:=by intro v hv; simp only [StV.cs,List.mem_cons,List.not_mem_nil,or_false] at hv; rcases hv with h | h | h | h <;> subst h <;> rfl
abbrev StV.abs(x:StV):Stp:=(Go.Proofs.YtcamoanigdfihaaGreat.ents x.L,x.i)
structure PthX(h:Array Obj)(n0:Nat)(X:Nat->Prop)(s:Sl)(P:List StV):Prop where
 own:Own h n0 174 4 s (P.flatMap StV.cs)
 nd:∀ x∈P,NdQ h (fun q=>n0<=q/\s.blk≠some q/\¬ X q) x.s x.L
 sm:∀ x∈P,x.L.length<=65536/\x.i<=65536
theorem PthX.len{h:Array Obj}{n0:Nat}{X:Nat->Prop}{s:Sl}{P:List StV}(r:PthX h n0 X s P):s.len=P.length:=by have:=r.own.len; rw [flat_len' (stCs_len P)] at this; omega
theorem PthX.ext{S X:Nat->Prop}{w w':World}{n0:Nat}{s:Sl}{P:List StV}(r:PthX w.heap n0 X s P)(x:Ext S w w')(h1:∀ q,s.blk=some q->¬ S q)(h2:∀ q,q < w.heap.size->n0<=q->s.blk≠some q->¬ X q->¬ S q):PthX w'.heap n0 X s P :=
 ⟨r.own.ext x h1,fun y hy=>(r.nd y hy).ext x fun b hb hl=>h2 b hl hb.1 hb.2.1 hb.2.2,r.sm⟩
theorem PthX.no{X:Nat->Prop}{w w':World}{n0:Nat}{s:Sl}{P:List StV}(r:PthX w.heap n0 X s P)(x:Ext No w w'):PthX w'.heap n0 X s P:=r.ext x (fun _ _ h=>h) fun _ _ _ _ _ h=>h
theorem PthX.nil(h:Array Obj)(n0:Nat)(X:Nat->Prop):PthX h n0 X ⟨none,0,0⟩ []:=⟨Own.nil _ _ _ _,by simp,by simp⟩
theorem PthX.mono{X X':Nat->Prop}{h:Array Obj}{n0:Nat}{s:Sl}{P:List StV}(r:PthX h n0 X s P)(hX:∀ q,q < h.size->X' q->X q):PthX h n0 X' s P :=
 ⟨r.own,fun y hy=>(r.nd y hy).mono fun b hb h=>⟨h.1,h.2.1,fun h'=>h.2.2 (hX b hb h')⟩,r.sm⟩
def curCs(m:MemV)(t:Int)(r:Rf)(lev:Int)(p:Sl):List Value:=[Go.Proofs.YtcamoanigdfihaaGreat.srcV m, .int .u32 t, .int .u32 r.p, .int .u64 r.c, .int .u16 r.g, .int .u8 lev, .slice p.a p.len p.cap]
end Go.V
namespace Go.Proofs.YtcamoanigdfihaaGreat
open Go.V
section
variable {w:World} {T:Nat->Option Nat} {m:MemV} {M:Mm}
theorem cnode_at{bc:Nat}{t lev:Int}{r r0:Rf}{lev0:Int}{p:Sl}{l:List Ent}{K:Int->Int->Sl->Int->World->Prop}(R:MemR w.heap T m M)(hc:w.heap[bc]? = some (.cells (curCs m t r0 lev0 p).toArray 170 (0,0)))(h:NodeAt M.f t (kindOf lev) lev r l)(hne:l≠[])
  (k:∀ s L w',NdO w'.heap w.heap.size s L->ents L=l->Ext No w w'->K (kindOf lev) lev s 0 w'):C_scan_Cursor_node (some ⟨bc,0,none⟩) r.p r.c r.g lev w K:=by
 obtain ⟨pg,h1,h2,h3,h4,h5,h6⟩:=h.at_
 apply S_scan_Cursor_node
 refine NewW.mk fun b w1 n1=>NewW.mk fun b1 w2 n2=>?_
 have g1:=get_no n1.get n2.ext
 have x02:=n1.ext.no n2.ext
 have gc:=get_no hc x02
 have z1:=n1.size; have z2:=n2.size; have hb1:=n2.at_
 refine ⟨fun kd w'=>kd=kindOf lev/\w'=w2,⟨_,Cell.lst g1 rfl,If.beq (fun h=>⟨by unfold kindOf; rw [if_pos h],rfl⟩) fun h=>⟨by unfold kindOf; rw [if_neg h],rfl⟩⟩,?_⟩
 rintro _ kd w3 ⟨rfl,rfl⟩
 refine ⟨Ext No w3,(Ext.refl _ _).drew,Nn.mk ⟨_,Held.cell (Cell.lst gc rfl),Nn.mk ⟨_,Held.cell (Cell.lst gc rfl),_,Held.cell (Cell.lst g1 rfl),_,Held.cell (Cell.lst g1 rfl),_,Held.cell (Cell.lst g1 rfl),_,Held.cell (Cell.lst g1 rfl),?_⟩⟩⟩
 have R3:MemR (drewW w3).heap T m M:=R.no x02.drew
 refine I_tree_Mem_Get (memGet_at (w:=drewW w3) R3 h.at_ fun s4 w4 o4 x4=>⟨x4.drew_left,If.bne (fun h=>(h rfl).elim) fun _=>?_⟩)
 have x34:Ext No w3 w4:=x4.drew_left
 have p8:B8 (pad (wr (kindOf lev) lev l)):=by rw [<- h6]; exact (R.find h1).p8
 refine decode_ok o4.rd h.right h.short p8 (fun e he=>(h.ok e he).1) fun s6 L w7 o7 eL x7=>new_set rfl rfl (by simp [oneC]) fun b3 w9 g9 hb3 z9 x9=>If.bne (fun h=>(h rfl).elim) fun _=>?_
 have x39:Ext No w3 w9:=(x34.no x7).no x9
 have hLn:s6.len=l.length:=by have:=o7.nd.len; have:=ents_len eL; omega
 have hlp:1<=l.length:=List.length_pos_iff.2 hne
 refine ⟨_,Cell.lst g9 rfl,If.bne (fun h=>(h rfl).elim) fun _=>⟨_,Cell.lst g9 rfl,_,Cell.lst (get_no g1 x39) rfl,If.bne (fun h=>(h rfl).elim) fun _=>⟨_,Cell.lst g9 rfl,If.beq (fun h0=>by omega) fun h0=>?_⟩⟩⟩
 refine ⟨_,Cell.lst g9 rfl,_,Cell.lst g9 rfl,_,Cell.lst g9 rfl,st_all (get_no n2.get x39) rfl rfl (by simp [oneC]) fun w14 g14 x14 _=>⟨_,Cell.lst g14 rfl,_,Cell.lst g14 rfl,_,Cell.lst g14 rfl,?_⟩⟩
 have y34:=x34.size
 refine k s6 L w14 (((o7.no x9).ext x14 fun q h1 h2 h=>by omega).mono (by omega)) eL ((x02.no x39).trans x14 fun q hq h=>by omega)
def ChooseOK(w:World)(S:Nat->Prop)(ch:Value)(Ch:Nat->List Ent->Nat->Prop):Prop:=∀{w':World}{lev:Nat}{s:Sl}{L:List (EntV×Ent)}{K:Int->World->Prop},Ext S w w'->NdR w'.heap s L->L.length<=65536->lev<=30->L≠[]->RightP (kindOf lev) lev (ents L) ->
 (∀(i:Nat) w'',Ch lev (ents L) i->Ext No w' w''->K i w'')->dynV Tryz.prog true ch [.agg ([.int .u8 (kindOf lev), .int .u8 lev, .slice s.a s.len s.cap]).toArray] [.one (.int .i64)] K NoX w'
structure GoalOK(f:Pages)(t:Int)(Ch:Nat->List Ent->Nat->Prop)(G:List KV->Nat->Prop):Prop where
 leaf:∀ l kvs i,l.map Ent.key=kvs.map Prod.fst->Ch 0 l i->i<=l.length/\G kvs i
 inner:∀ lv l kvs ps i,KidsP (SubT f t lv) l kvs ps->Rise l->l≠[]->Ch (lv+1) l i->∃ pre kv post p,KidsQ (SubQ f t lv) (l.take i) pre/\(∃ hi:i < l.length,SubT f t lv l[i].cd kv p)/\KidsQ (SubQ f t lv) (l.drop (i+1)) post/\kvs=pre++(kv++post)/\∀ a',G kv a'->G kvs (pre.length+a')
set_option maxHeartbeats 2000000 in
theorem down_spec{bc n0:Nat}{X:Nat->Prop}{t lev0:Int}{r r0:Rf}{p0 path ch:_}{lev:Nat}{kvs:List KV}{ps:List Rf}{P0:List StV}{Ch:Nat->List Ent->Nat->Prop}{G:List KV->Nat->Prop}{K:Sl->Int->World->Prop}
  (R:MemR w.heap T m M) (hT:∀ q,path.blk=some q->T q=none) (hn0:n0<=w.heap.size) (hc:w.heap[bc]? = some (.cells (curCs m t r0 lev0 p0).toArray 170 (0,0))) (hbc:path.blk≠some bc) (hP:PthX w.heap n0 X path P0) (hX:∀ q,X q->q < w.heap.size) (hP0:P0.length<=100)
  (hS:SubT M.f t lev r kvs ps) (hlev:lev<=30) (hch:ChooseOK w (fun q=>path.blk=some q) ch Ch) (hG:GoalOK M.f t Ch G)
  (k:∀ s P1 a w',PthX w'.heap n0 X s (P0++P1)->(∀ j (hj:j < P1.length),P1[j].v=((lev - j:Nat):Int))->PathP M.f t lev kvs (P1.map StV.abs) a->G kvs a->Ext (fun q=>path.blk=some q) w w'->(s.blk=path.blk∨∃ q,s.blk=some q/\w.heap.size<=q)->K s 0 w'):C_scan_Cursor_down (some ⟨bc,0,none⟩) path r.p r.c r.g lev ch w K:=by
 apply S2_scan_Cursor_down
 refine NewW.mk fun b w1 n1=>?_
 have hb:=n1.at_; have z1:=n1.size
 have pb:∀ q,path.blk=some q->n0<=q/\q < w.heap.size:=fun q hq=>hP.own.lt hq
 have hbcl:=blt hc
 have hPb:PthX w1.heap n0 (fun q=>q=b∨X q) path P0:=(hP.mono (X':=fun q=>q=b∨X q) fun q h1 h2=>h2.resolve_left (by omega)).no n1.ext
 refine ⟨fun q path1 w'=>∃ (P1:List StV) (lv:Nat) (r':Rf) (kv':List KV) (p':List Rf),SubT M.f t lv r' kv' p'/\q=lv/\P1.length+lv=lev/\PthX w'.heap n0 (fun q=>q=b∨X q) path1 (P0++P1)/\(∀ j (hj:j < P1.length),P1[j].v=((lev - j:Nat):Int))/\w'.heap[b]? = some (.cells [.int .u32 r'.p, .int .u64 r'.c, .int .u16 r'.g, .int .u8 lv].toArray 47 (0,0))/\Ext (fun q=>path.blk=some q) w w'/\(path1.blk=path.blk∨∃ q,path1.blk=some q/\w1.heap.size<=q) /\
   ∀ Pn a',PathP M.f t lv kv' Pn a'->G kv' a'->∃ a,PathP M.f t lev kvs (P1.map StV.abs++Pn) a/\G kvs a,
  ⟨lev,[],lev,r,kvs,ps,hS,rfl,by simp,by simpa using hPb,by simp,n1.get,n1.ext.of_no, .inl rfl,fun Pn a' h1 h2=>⟨a',by simpa using h1,h2⟩⟩,?_⟩
 rintro _ lv path1 w2 ⟨P1,_,r',kv',p',hS',rfl,hlen,hP2,hv2,g2,x2,hb2,hgo⟩
 refine ⟨_,Cell.lst g2 rfl,_,Cell.lst g2 rfl,_,Cell.lst g2 rfl,_,Cell.lst g2 rfl,?_⟩
 have y2:=x2.size
 obtain ⟨l,ps',hN,hne,hrest,_⟩:=hS'.opens
 have R2:=R.ext x2 hT
 have gc2:=get_ext hc x2 hbc
 have p1b:∀ q,path1.blk=some q->n0<=q/\q < w2.heap.size:=fun q hq=>hP2.own.lt hq
 have b2l:=blt g2
 refine cnode_at R2 gc2 hN hne fun s3 L w3 o3 eL x3=>new_set rfl rfl (by simp [oneC]) fun b1 w5 g5 hb1 z5 x5=>If.bne (fun h=>(h rfl).elim) fun _=>?_
 have x25:=x3.no x5
 have y25:=x25.size
 have y3:=x3.size
 have hLl:=ents_len eL
 have hcnt:=wr_count hN.short
 refine ⟨_,Cell.lst g5 rfl,_,Cell.lst g5 rfl,_,Cell.lst g5 rfl,?_⟩
 refine hch (x2.no x25) (o3.no x5).nd (by omega) (by omega) (by intro e; rw [e] at hLl; simp at hLl; exact hne (List.eq_nil_of_length_eq_zero hLl.symm)) (by rw [eL]; exact hN.right) fun i w6 hi x6=>?_
 rw [eL] at hi
 have g6:=get_no g5 x6
 refine ⟨_,Cell.lst g6 rfl,_,Cell.lst g6 rfl,_,Cell.lst g6 rfl,NewW.mk fun b2 w7 n7=>?_⟩
 have x27:=(x25.no x6).no n7.ext
 have y27:=x27.size
 have hP7:=hP2.no x27
 have y6:=x6.size
 have z7:=n7.size
 have hpl:=hP7.len
 have e7:Own w7.heap w6.heap.size 174 4 ⟨some ⟨b2,0,none⟩,1,1⟩ (StV.cs ⟨kindOf lv,lv,s3,L,i⟩):=Own.new (n:=1) (sz:=4) n7 rfl (stOne _)
 have hp1:P1.length<=30:=by omega
 refine app_scan_step hP7.own (by omega) e7.rd.src (by show (path1.len+1) * 40<=_; rw [hpl,List.length_append]; omega) fun s8 w8 o8 _ x8 hbl=>?_
 have x8':Ext (fun q=>path1.blk=some q) w7 w8:=x8
 have y8:=x8'.size
 have x08:Ext (fun q=>path.blk=some q) w w8:=(x2.no x27).trans x8' fun q hq h=>by
  rcases hb2 with h' | ⟨c,h',hc'⟩
  .rw [<- h']; exact h
  .rw [h'] at h; cases h; omega
 have nb1:¬ path1.blk=some b:=fun h=>by
  rcases hb2 with h' | ⟨c,h',hc'⟩
  .rw [h'] at h; have:=(pb b h).2; omega
  .rw [h'] at h; cases h; omega
 have nbb1:¬ path1.blk=some b1:=fun h=>by have:=(p1b _ h).2; omega
 have g8:=get_ext (get_no g2 x27) x8' nb1
 have g18:=get_ext (get_no g6 n7.ext) x8' nbb1
 have hs8:∀ q,s8.blk=some q->path1.blk=some q∨w7.heap.size<=q:=fun q hq=>by
  rcases hbl with h | ⟨c,h,hc'⟩
  .exact .inl (by rw [<- h]; exact hq)
  .rw [h] at hq; cases hq; exact .inr hc'
 have hib:i<=l.length:=by
  rcases hrest with ⟨h0,hL⟩ | ⟨lv',hlv',hk⟩
  .rw [h0] at hi; exact (hG.leaf l kv' i hL.keys.symm hi).1
  .rw [hlv'] at hi
   obtain ⟨_,_,_,_,_,⟨hil,_⟩,_⟩:=hG.inner lv' l kv' ps' i hk hN.right.ord hne hi
   omega
 have o37:NdO w7.heap w2.heap.size s3 L:=((o3.no x5).no x6).no n7.ext
 have toN:∀{s:Sl}{L:List (EntV×Ent)},NdQ w7.heap (fun q=>n0<=q/\path1.blk≠some q/\¬ (q=b∨X q)) s L->NdQ w8.heap (fun q=>n0<=q/\s8.blk≠some q/\¬ (q=b∨X q)) s L:=fun h=>by
  have h1:=h.mono (B':=fun q=>(n0<=q/\path1.blk≠some q/\¬ (q=b∨X q))/\q < w7.heap.size) fun q h1 h2=>⟨h2,h1⟩
  refine (h1.ext x8' fun q hq _ h'=>hq.1.2.1 h').mono fun q _ h'=>⟨h'.1.1,fun h2=>?_,h'.1.2.2⟩
  rcases hs8 q h2 with h3 | h3
  .exact h'.1.2.1 h3
  .omega
 have q37:NdQ w7.heap (fun q=>n0<=q/\path1.blk≠some q/\¬ (q=b∨X q)) s3 L:=o37.q fun q h1 h2=>⟨by omega,(fun h3=>by have:=(p1b _ h3).2; omega),fun h3=>h3.elim (by omega) fun h4=>by have:=hX q h4; omega⟩
 have hP8:PthX w8.heap n0 (fun q=>q=b∨X q) s8 (P0++(P1++[⟨kindOf lv,lv,s3,L,i⟩])):=by
  refine ⟨by rw [<- List.append_assoc,List.flatMap_append]; simpa using o8,fun y hy=>?_,fun y hy=>?_⟩
  .rw [<- List.append_assoc] at hy
   rcases List.mem_append.1 hy with h | h
   .exact toN (hP7.nd y h)
   .rw [List.mem_singleton] at h; subst h
    exact toN q37
  .rw [<- List.append_assoc] at hy
   rcases List.mem_append.1 hy with h | h
   .exact hP7.sm y h
   .rw [List.mem_singleton] at h; subst h
    exact ⟨by show L.length<=_; omega,by show i<=_; omega⟩
 have nd8:NdR w8.heap s3 L:=(toN q37).nd
 have hv8:∀ j (hj:j < (P1++[(⟨kindOf lv,lv,s3,L,i⟩ : StV)]).length),(P1++[(⟨kindOf lv,lv,s3,L,i⟩ : StV)])[j].v=((lev - j:Nat):Int):=fun j hj=>by
  rcases Nat.lt_or_ge j P1.length with h | h
  .rw [List.getElem_append_left h]; exact hv2 j h
  .have:j=P1.length:=by simp at hj; omega
   subst this
   rw [List.getElem_append_right (Nat.le_refl _)]
   simp; omega
 have habs:∀ Pn,(P1++[(⟨kindOf lv,lv,s3,L,i⟩ : StV)]).map StV.abs++Pn=P1.map StV.abs++((l,i)::Pn):=fun Pn=>by
  rw [List.map_append,List.append_assoc]; simp [StV.abs,eL]
 have fs8:s8.blk=path.blk∨∃ q,s8.blk=some q/\w1.heap.size<=q:=by
  rcases hbl with h | ⟨c,h,hc'⟩
  .rcases hb2 with h' | h'
   .exact .inl (h.trans h')
   .rw [h]; exact .inr h'
  .exact .inr ⟨c,h,by omega⟩
 refine ⟨_,Cell.lst g8 rfl,If.beq (fun h0=>?_) fun h0=>?_⟩
 .have lv0:lv=0:=by omega
  subst lv0
  rcases hrest with ⟨_,hL⟩ | ⟨_,h,_⟩
  .obtain ⟨hil,hg⟩:=hG.leaf l kv' i hL.keys.symm hi
   obtain ⟨a,ha1,ha2⟩:=hgo [(l,i)] i ⟨l,rfl,hL.keys.symm,hil,hne⟩ hg
   refine k s8 _ a w8 (hP8.mono fun _ _ h => .inr h) hv8 (by have:=habs []; rw [List.append_nil] at this; rw [this]; exact ha1) ha2 x08 ?_
   rcases fs8 with h | ⟨q,h1,h2⟩
   .exact .inl h
   .exact .inr ⟨q,h1,by omega⟩
  .omega
 .rcases hrest with ⟨h,_⟩ | ⟨lv',hlv',hk⟩
  .exact absurd h (by omega)
  subst hlv'
  obtain ⟨pre,kv,post,p2,j1,⟨hil,j2⟩,j3,j4,j5⟩:=hG.inner lv' l kv' ps' i hk hN.right.ord hne hi
  have hiL:i < L.length:=by omega
  have e1:L[i].2=l[i]:=by
   have:=congrArg (fun l=>l[i]?) eL
   simp only [List.getElem?_map,List.getElem?_eq_getElem hiL,List.getElem?_eq_getElem hil,Option.map_some,Option.some.injEq] at this
   exact this
  have er:=nd8.get hiL
  have hz:(((lv'+1:Nat):Int) - 1)=(lv':Int):=by omega
  have nsb:∀ q,s8.blk=some q->¬ q=b:=fun q hq h=>by
   rcases fs8 with h' | ⟨c,h',hc'⟩
   .rw [h'] at hq; have:=(pb q hq).2; omega
   .rw [h'] at hq; cases hq; omega
  let I0:Nat->Sl->World->Prop:=fun q path1 w'=>∃ (P1:List StV) (lv:Nat) (r':Rf) (kv':List KV) (p':List Rf),SubT M.f t lv r' kv' p'/\q=lv/\P1.length+lv=lev/\PthX w'.heap n0 (fun q=>q=b∨X q) path1 (P0++P1)/\(∀ j (hj:j < P1.length),P1[j].v=((lev - j:Nat):Int))/\w'.heap[b]? = some (.cells [.int .u32 r'.p, .int .u64 r'.c, .int .u16 r'.g, .int .u8 lv].toArray 47 (0,0))/\Ext (fun q=>path.blk=some q) w w'/\(path1.blk=path.blk∨∃ q,path1.blk=some q/\w1.heap.size<=q) /\
   ∀ Pn a',PathP M.f t lv kv' Pn a'->G kv' a'->∃ a,PathP M.f t lev kvs (P1.map StV.abs++Pn) a/\G kvs a
  have fin:∀ w9:World,w9.heap[b]? = some (.cells [.int .u32 L[i].1.cd.p, .int .u64 L[i].1.cd.c, .int .u16 L[i].1.cd.g, .int .u8 (((lv'+1:Nat):Int) - 1)].toArray 47 (0,0))->Ext (·=b) w8 w9->∃ m1,m1 < lv'+1/\I0 m1 s8 w9:=fun w9 g9 x9=>by
   have x9':Ext (·=b) w8 w9:=x9
   rw [er.cd,e1,hz] at g9
   refine ⟨lv',by omega,P1++[⟨kindOf (lv'+1:Nat),(lv'+1:Nat),s3,L,i⟩],lv',l[i].cd,kv,p2,j2,rfl,by simp; omega,hP8.ext x9' nsb fun q _ _ _ h h'=>h (.inl h'),hv8,g9,x08.trans x9' fun q hq h=>by omega,fs8,fun Pn a' h1 h2=>?_⟩
   rw [habs]
   exact hgo _ _ ⟨l,i,Pn,a',pre,kv,post,rfl,⟨hil,p2,j2⟩,j1,j3,j4,h1,rfl⟩ (j5 a' h2)
  have nd8d:NdR (drewW w8).heap s3 L:=nd8
  have ix:∀{K:Addr->Prop},(∀ bb o,(∀ j v,(entCs L[i])[j]? = some v->Cell (drewW w8) ⟨bb,o+j,none⟩ v)->K ⟨bb,o,none⟩)->Ix s3.a s3.len (i:Int) 9 K:=fun hk=>Ix.elem (w:=drewW w8) nd8d.rd (entCs_len L) (by decide) (by omega) (by have:=nd8.len; omega) fun bb o hi' _ hc=>hk bb o (by simpa using hc)
  have g8d:(drewW w8).heap[b]? = _:=g8
  have g18d:(drewW w8).heap[b1]? = _:=g18
  have hpos:(1:Int)<=((lv'+1:Nat):Int):=by omega
  have st:=fun (zz:Unit)=>st_all (w:=drewW w8) (n:=4) (vs:=[.int .u32 L[i].1.cd.p, .int .u64 L[i].1.cd.c, .int .u16 L[i].1.cd.g, .int .u8 (((lv'+1:Nat):Int) - 1)]) (K:=fun w9=>True/\∃ m1,m1 < lv'+1/\I0 m1 s8 w9) g8d rfl rfl (by simp [oneC]) fun w9 g9 x9 _=>⟨trivial,fin w9 g9 x9.drew_left⟩
  refine ⟨fun _=>True,trivial,⟨_,Cell.lst g18d rfl,trivial,ix fun bb o hc=>⟨⟨_,hc 6 _ rfl,_,hc 7 _ rfl,_,hc 8 _ rfl,trivial,_,Cell.lst g8d rfl,trivial,Ar.u8 (by omega) (st ())⟩,⟨_,Cell.lst g8d rfl,trivial,Ar.u8 (by omega) ⟨_,hc 6 _ rfl,_,hc 7 _ rfl,_,hc 8 _ rfl,trivial,st ()⟩⟩⟩⟩,
   ⟨_,Cell.lst g8d rfl,trivial,Ar.u8 (by omega) ⟨_,Cell.lst g18d rfl,trivial,ix fun bb o hc=>⟨_,hc 6 _ rfl,_,hc 7 _ rfl,_,hc 8 _ rfl,trivial,st ()⟩⟩⟩⟩
end
end Go.Proofs.YtcamoanigdfihaaGreat
set_option maxRecDepth 100000
namespace Go.V
def CurR(h:Array Obj)(n0:Nat)(X:Nat->Prop)(f:Pages)(m:MemV)(t:Int)(r:Rf)(lev bc:Nat)(kvs:List KV)(a:Nat):Prop :=
 n0<=bc/\¬ X bc/\∃ p:Sl,h[bc]? = some (.cells (curCs m t r lev p).toArray 170 (0,0))/\((r = .z/\lev=0/\kvs=[]/\p=⟨none,0,0⟩/\a=0)∨(r ≠ .z/\∃ P:List StV,PthX h n0 (fun q=>q=bc∨X q) p P/\(∀ q,p.blk=some q->q≠bc/\¬ X q)/\(∀ j (hj:j < P.length),P[j].v=((lev - j:Nat):Int))/\PathP f t lev kvs (P.map StV.abs) a))
theorem CurR.ext{S X X':Nat->Prop}{w w':World}{n0:Nat}{f:Pages}{m:MemV}{t:Int}{r:Rf}{lev bc:Nat}{kvs:List KV}{a:Nat}(c:CurR w.heap n0 X f m t r lev bc kvs a)(x:Ext S w w')(h1:∀ q,q < w.heap.size->n0<=q->q≠bc->¬ X q->¬ S q)(h2:¬ S bc)(h3:∀ q,X' q->X q):CurR w'.heap n0 X' f m t r lev bc kvs a:=by
 obtain ⟨hn,hx,p,hb,h⟩:=c
 refine ⟨hn,fun e=>hx (h3 _ e),p,Go.Proofs.YtcamoanigdfihaaGreat.get_ext hb x h2,?_⟩
 rcases h with h | ⟨hr,P,hP,hp,hv,hA⟩
 .exact .inl h
 .refine .inr ⟨hr,P,(hP.ext x (fun q hq=>?_) fun q hl hn _ hX=>h1 q hl hn (fun e=>hX (.inl e)) fun e=>hX (.inr e)).mono fun q _ hq=>hq.imp id (h3 q),fun q hq=>⟨(hp q hq).1,fun e=>(hp q hq).2 (h3 q e)⟩,hv,hA⟩
  exact h1 q (hP.own.lt hq).2 (hP.own.lt hq).1 (hp q hq).1 (hp q hq).2
theorem CurR.sub{X X':Nat->Prop}{h:Array Obj}{n0:Nat}{f:Pages}{m:MemV}{t:Int}{r:Rf}{lev bc:Nat}{kvs:List KV}{a:Nat}(c:CurR h n0 X f m t r lev bc kvs a)(h3:∀ q,X' q->X q):CurR h n0 X' f m t r lev bc kvs a:=by
 obtain ⟨hn,hx,p,hb,h⟩:=c
 refine ⟨hn,fun e=>hx (h3 _ e),p,hb,?_⟩
 rcases h with h | ⟨hr,P,hP,hp,hv,hA⟩
 .exact .inl h
 .exact .inr ⟨hr,P,hP.mono fun q _ hq=>hq.imp id (h3 q),fun q hq=>⟨(hp q hq).1,fun e=>(hp q hq).2 (h3 q e)⟩,hv,hA⟩
theorem CurR.weak{X:Nat->Prop}{h:Array Obj}{n0:Nat}{f:Pages}{m:MemV}{t:Int}{r:Rf}{lev bc:Nat}{kvs:List KV}{a:Nat}(c:CurR h n0 X f m t r lev bc kvs a):CurR h n0 No f m t r lev bc kvs a:=c.sub fun _ h=>h.elim
end Go.V
namespace Go.Proofs.YtcamoanigdfihaaGreat
open Go.V
section
variable {w:World} {T:Nat->Option Nat} {m:MemV} {M:Mm}
def ChFirst(_:Nat)(_:List Ent)(i:Nat):Prop:=i=0
def ChLast(lev:Nat)(l:List Ent)(i:Nat):Prop:=i=if lev=0 then l.length else l.length - 1
def ChSeek(key:List Int)(lev:Nat)(l:List Ent)(i:Nat):Prop:=(lev=0->∃ f,FindP l key i f)/\(lev≠0->ChildP l key i)
theorem first_ok{S:Nat->Prop}:ChooseOK w S (.func (.func 78) #[] #[]) ChFirst:=by
 intro w' lev s L K _ _ _ _ _ _ hk
 refine V_scan_first (S_scan_first (NewW.mk fun b w1 n1=>hk 0 w1 rfl n1.ext))
theorem last_ok{S:Nat->Prop}:ChooseOK w S (.func (.func 81) #[] #[]) ChLast:=by
 intro w' lev s L K _ nd hl hlev hne _ hk
 have hsl:=nd.len
 have hpos:1<=L.length:=List.length_pos_iff.2 hne
 refine V_scan_last (S_scan_last (NewW.mk fun b w1 n1=>⟨_,Cell.lst n1.get rfl,If.beq (fun h=>⟨_,Cell.lst n1.get rfl,?_⟩) fun h=>⟨_,Cell.lst n1.get rfl,Ar.i64 (by omega) ?_⟩⟩))
 .rw [hsl]
  exact hk L.length w1 (by unfold ChLast; rw [if_pos (by omega)]; simp) n1.ext
 .have:=hk (L.length - 1) w1 (by unfold ChLast; rw [if_neg (by omega)]; simp) n1.ext
  have e:((L.length - 1:Nat):Int)=(s.len:Int) - 1:=by omega
  rw [e] at this; exact this
theorem seek_ok{S:Nat->Prop}{bk:Nat}{ks:Sl}{kb:List Int}(hb:w.heap[bk]? = some (.cells [.slice ks.a ks.len ks.cap].toArray 40 (0,0)))(hk:RdB w.heap ks kb)(k8:B8 kb)(hS:∀ q,¬ S q):ChooseOK w S (.func (.func 82) #[] #[.pointer (some (A1 bk))]) (ChSeek kb):=by
 intro w' lev s L K x nd hl hlev hne hR hkk
 have x':Ext No w w':=x.mono fun q _ h=>hS q h
 have g':=get_no hb x'
 have hk':=Rd.no hk x'
 refine V_scan_Cursor_Seek_1 (c0:=A1 bk) (S_scan_Cursor_Seek_1 (NewW.mk fun b w1 n1=>⟨_,Cell.lst n1.get rfl,If.dec (fun h=>⟨_,Cell.lst n1.get rfl,_,Cell.lst n1.get rfl,_,Cell.lst n1.get rfl,_,Cell.lst (get_no g' n1.ext) rfl,?_⟩) fun h=>⟨_,Cell.lst n1.get rfl,_,Cell.lst n1.get rfl,_,Cell.lst n1.get rfl,_,Cell.lst (get_no g' n1.ext) rfl,?_⟩⟩))
 .have hkind:kindOf (lev:Int)=2:=by unfold kindOf; rw [if_neg (by omega)]
  have h0:∃ e l,ents L=e::l/\e.key=[]:=by
   cases hL:ents L with
   | nil=>exact absurd (ents_len hL) (by simpa using hne)
   | cons e l =>
    refine ⟨e,l,rfl,?_⟩
    have:=(hR.ent 0 (by rw [hL]; simp)).1
    rw [hkind] at this
    unfold keyP at this
    rw [if_pos ⟨rfl,rfl⟩] at this
    have h2:(ents L)[0]'(by rw [hL]; simp)=e:=by simp [hL]
    rw [h2] at this
    exact List.eq_nil_of_length_eq_zero (by simpa using this)
  refine child_spec (nd.no n1.ext) (Rd.no hk' n1.ext) k8 hl hR.ord h0 fun i w2 hc x2=>hkk i w2 ⟨fun h=>by omega,fun _=>hc⟩ (n1.ext.no x2)
 .refine find_spec (nd.no n1.ext) (Rd.no hk' n1.ext) k8 hl fun i f w2 hf x2=>hkk i w2 ⟨fun _=>⟨f,hf⟩,fun h=>by omega⟩ (n1.ext.no x2)
theorem first_goal{f:Pages}{t:Int}:GoalOK f t ChFirst fun _ a=>a=0:=by
 refine ⟨fun l kvs i hk hi=>⟨by rw [hi]; omega,hi⟩,fun lv l kvs ps i hk hr hne hi=>?_⟩
 have hi':i=0:=hi
 subst hi'
 obtain ⟨pre,kv,post,p,h1,h2,h3,h4⟩:=kids_at hk (List.length_pos_iff.2 hne)
 refine ⟨pre,kv,post,p,h1,⟨_,h2⟩,h3,h4,fun a' ha=>?_⟩
 rw [List.take_zero] at h1
 cases h1
 simpa using ha
theorem last_goal{f:Pages}{t:Int}:GoalOK f t ChLast fun kvs a=>a=kvs.length:=by
 refine ⟨fun l kvs i hk hi=>?_,fun lv l kvs ps i hk hr hne hi=>?_⟩
 .have:=congrArg List.length hk
  simp only [List.length_map] at this
  unfold ChLast at hi; rw [if_pos rfl] at hi
  exact ⟨by omega,by omega⟩
 .unfold ChLast at hi; rw [if_neg (by omega)] at hi
  have hpos:=List.length_pos_iff.2 hne
  obtain ⟨pre,kv,post,p,h1,h2,h3,h4⟩:=kids_at hk (show i < l.length by omega)
  refine ⟨pre,kv,post,p,h1,⟨_,h2⟩,h3,h4,fun a' ha=>?_⟩
  rw [List.drop_eq_nil_of_le (by omega)] at h3
  cases h3
  rw [h4]; simp; omega
theorem seek_goal{f:Pages}{t:Int}{key:List Int}:GoalOK f t (ChSeek key) fun kvs a=>PlaceP kvs key a:=by
 refine ⟨fun l kvs i hk hi=>?_,fun lv l kvs ps i hk hr hne hi=>?_⟩
 .obtain ⟨g,hf⟩:=hi.1 rfl
  have hl:=congrArg List.length hk
  simp only [List.length_map] at hl
  have ek:∀ j (h1:j < l.length) (h2:j < kvs.length),l[j].key=kvs[j].1:=fun j h1 h2=>by
   have:=congrArg (fun x=>x[j]?) hk
   simpa only [List.getElem?_map,List.getElem?_eq_getElem h1,List.getElem?_eq_getElem h2,Option.map_some,Option.some.injEq] using this
  refine ⟨hf.le,⟨by have:=hf.le; omega,fun j hj hji=>?_,fun hj=>?_⟩⟩
  .rw [<- ek j (by omega) hj]; exact hf.lt j (by omega) hji
  .rw [<- ek i (by omega) hj]; exact hf.ge (by omega)
 .have hc:=hi.2 (by omega)
  obtain ⟨pre,kv,post,p,h1,h2,h3,h4,h5,h6⟩:=kids_seek hk hr hc
  exact ⟨pre,kv,post,p,h1,⟨hc.lt,h2⟩,h3,h4,fun a' ha=>by rw [h4]; exact ha.mid h5 h6⟩
theorem goes_spec{bc n0:Nat}{t:Int}{r:Rf}{lev:Nat}{ch:Value}{kvs:List KV}{ps:List Rf}{Ch:Nat->List Ent->Nat->Prop}{G:List KV->Nat->Prop}{K:Int->World->Prop}
  (R:MemR w.heap T m M) (hn0:n0<=w.heap.size) (hTr:TreeT M.f t r lev kvs ps) (hlev:lev<=30) (hc:∃ p,w.heap[bc]? = some (.cells (curCs m t r lev p).toArray 170 (0,0))/\(r = .z->p=⟨none,0,0⟩)) (hbc:n0<=bc) (hch:ChooseOK w (fun _=>False) ch Ch) (hG:GoalOK M.f t Ch G) (hG0:kvs=[]->G kvs 0)
  (k:∀ a w',CurR w'.heap n0 (fun q=>q < w.heap.size/\q≠bc) M.f m t r lev bc kvs a->G kvs a->Ext (·=bc) w w'->K 0 w'):C_scan_Cursor_goes (some ⟨bc,0,none⟩) ch w K:=by
 apply S_scan_Cursor_goes
 obtain ⟨p,gc,hp⟩:=hc
 refine ⟨fun w'=>w'=w,If.no (Nn.mk ⟨_,Cell.lst gc rfl,trivial,If.no rfl⟩),?_⟩
 rintro _ w1 rfl
 refine Nn.mk ⟨_,Cell.lst gc rfl,_,Cell.lst gc rfl,_,Cell.lst gc rfl,_,Cell.lst gc rfl,?_⟩
 rw [z_iff]
 rcases hTr with ⟨h1,h2,h3,h4⟩ | ⟨h1,h2,hS⟩
 .have hp':=hp h1
  have l0:lev=0:=by omega
  subst l0
  rw [h1]
  refine If.yes (k 0 _ ⟨hbc,fun h=>h.2 rfl,p,gc, .inl ⟨h1,rfl,h3,hp',rfl⟩⟩ (hG0 h3) (Ext.refl _ _))
 .rw [decide_eq_false h1]
  rw [Int.toNat_natCast] at hS
  refine If.no (Nn.mk ⟨_,Cell.lst gc rfl,_,Cell.lst gc rfl,_,Cell.lst gc rfl,_,Cell.lst gc rfl,?_⟩)
  have hbl:=blt gc
  refine down_spec (X:=fun q=>q < w1.heap.size) (path:=⟨none,0,0⟩) (P0:=[]) R (fun q h=>by simp [Sl.blk] at h) hn0 gc (by simp [Sl.blk]) (PthX.nil _ _ _) (fun q h=>h) (by simp) hS hlev (fun x=>hch (x.mono fun q _ h=>by simp [Sl.blk] at h)) hG fun s P1 a w2 hP hv hA hg x2 hs=>If.beq (fun _=>?_) fun h=>(h rfl).elim
  have x2':Ext No w1 w2:=x2.mono fun q _ h=>by simp [Sl.blk] at h
  have gc2:=get_no gc x2'
  have sb:∀ q,s.blk=some q->w1.heap.size<=q:=fun q hq=>by
   rcases hs with h | ⟨c,h,hc⟩
   .rw [h] at hq; simp [Sl.blk] at hq
   .rw [h] at hq; cases hq; exact hc
  refine Nn.mk (St1.mk gc2 (by show 6 < 7; decide) rfl fun w3 h3=>?_)
  have g3:w3.heap[bc]? = some (.cells (curCs m t r lev s).toArray 170 (0,0)):=h3.get gc2
  have x3:Ext (·=bc) w2 w3:=h3.ext
  refine k a w3 ⟨hbc,fun h=>h.2 rfl,s,g3, .inr ⟨h1,P1,?_,fun q hq=>⟨by have:=sb q hq; omega,fun h=>by have:=sb q hq; have:=h.1; omega⟩,hv,hA⟩⟩ hg (x2'.of_no.trans x3 fun _ _ h=>h)
  rw [List.nil_append] at hP
  exact (hP.ext x3 (fun q hq h=>by have:=sb q hq; omega) fun q _ _ _ h h'=>h (by omega)).mono fun q _ h=>h.elim (fun h=>by omega) fun h=>h.1
end
end Go.Proofs.YtcamoanigdfihaaGreat
set_option maxRecDepth 100000
namespace Go.V
theorem CurR.path{h:Array Obj}{n0:Nat}{X:Nat->Prop}{f:Pages}{m:MemV}{t:Int}{r:Rf}{lev bc:Nat}{kvs:List KV}{a:Nat}(c:CurR h n0 X f m t r lev bc kvs a):∃ p,h[bc]? = some (.cells (curCs m t r lev p).toArray 170 (0,0))/\(r = .z->p=⟨none,0,0⟩):=by
 obtain ⟨_,_,p,hb,h | ⟨hr,_⟩⟩:=c
 .exact ⟨p,hb,fun _=>h.2.2.2.1⟩
 .exact ⟨p,hb,fun h=>(hr h).elim⟩
theorem CurR.no{X:Nat->Prop}{w w':World}{n0:Nat}{f:Pages}{m:MemV}{t:Int}{r:Rf}{lev bc:Nat}{kvs:List KV}{a:Nat}(c:CurR w.heap n0 X f m t r lev bc kvs a)(x:Ext No w w'):CurR w'.heap n0 X f m t r lev bc kvs a:=c.ext x (fun _ _ _ _ _ h=>h) (fun h=>h) fun _ h=>h
end Go.V
namespace Go.Proofs.YtcamoanigdfihaaGreat
open Go.V
section
variable {w:World} {T:Nat->Option Nat} {m:MemV} {M:Mm}
theorem open_spec{n0:Nat}{t:Int}{r:Rf}{lev:Nat}{kvs:List KV}{ps:List Rf}{K:Option Addr->Int->World->Prop}(R:MemR w.heap T m M)(hn0:n0<=w.heap.size)(hTr:TreeT M.f t r lev kvs ps)(hlev:lev<=30)
  (k:∀ bc w',CurR w'.heap n0 (fun q=>q < w.heap.size) M.f m t r lev bc kvs 0->w.heap.size<=bc->Ext No w w'->K (some ⟨bc,0,none⟩) 0 w'):C_scan_Open (srcV m) t r.p r.c r.g lev w K:=by
 apply S_scan_Open
 refine NewW.mk fun b w1 n1=>⟨trivial,If.no ⟨_,Cell.lst n1.get rfl,_,Cell.lst n1.get rfl,_,Cell.lst n1.get rfl,_,Cell.lst n1.get rfl,rfl,NewW.mk fun b1 w2 n2=>?_⟩⟩
 have x02:=n1.ext.no n2.ext
 have hb1:=n2.at_; have z1:=n1.size; have z2:=n2.size
 have g2:w2.heap[b1]? = some (.cells (curCs m t r lev ⟨none,0,0⟩).toArray 170 (0,0)):=n2.get
 refine goes_spec (n0:=n0) (R.no x02) (by omega) hTr hlev ⟨_,g2,fun _=>rfl⟩ (by omega) first_ok first_goal (fun _=>rfl) fun a w3 c hg x3=>If.bne (fun h=>(h rfl).elim) fun _=>?_
 have hg':a=0:=hg
 rw [hg'] at c
 exact k b1 w3 (c.sub fun q h=>⟨by omega,by omega⟩) (by omega) (x02.trans x3 fun q hq h=>by omega)
theorem cseek_spec{n0 bc:Nat}{t:Int}{r:Rf}{lev a0:Nat}{ks:Sl}{kb:List Int}{X:Nat->Prop}{kvs:List KV}{ps:List Rf}{K:Int->World->Prop}(R:MemR w.heap T m M)(hn0:n0<=w.heap.size)(hTr:TreeT M.f t r lev kvs ps)(hlev:lev<=30)(c:CurR w.heap n0 X M.f m t r lev bc kvs a0)(hk:RdB w.heap ks kb)(k8:B8 kb)
  (k:∀ a w',CurR w'.heap n0 (fun q=>q < w.heap.size/\q≠bc) M.f m t r lev bc kvs a->PlaceP kvs kb a->Ext (·=bc) w w'->K 0 w'):C_scan_Cursor_Seek (some ⟨bc,0,none⟩) ks w K:=by
 apply S_scan_Cursor_Seek
 refine NewW.mk fun b w1 n1=>?_
 obtain ⟨p,gc,hp⟩:=c.path
 have z1:=n1.size
 refine goes_spec (R.no n1.ext) (by omega) hTr hlev ⟨p,get_no gc n1.ext,hp⟩ c.1 (seek_ok n1.get (Rd.no hk n1.ext) k8 fun _ h=>h) seek_goal (fun h=>?_) fun a w2 c2 hg x2=>k a w2 (c2.sub fun q h=>⟨by have:=h.1; omega,h.2⟩) hg (n1.ext.of_no.trans x2 fun _ _ h=>h)
 rw [h]
 exact ⟨by simp,fun j hj _=>absurd hj (by simp),fun hj=>absurd hj (by simp)⟩
theorem cend_spec{n0 bc:Nat}{X:Nat->Prop}{t:Int}{r:Rf}{lev a0:Nat}{kvs:List KV}{ps:List Rf}{K:Int->World->Prop}(R:MemR w.heap T m M)(hn0:n0<=w.heap.size)(hTr:TreeT M.f t r lev kvs ps)(hlev:lev<=30)(c:CurR w.heap n0 X M.f m t r lev bc kvs a0)
  (k:∀ w',CurR w'.heap n0 (fun q=>q < w.heap.size/\q≠bc) M.f m t r lev bc kvs kvs.length->Ext (·=bc) w w'->K 0 w'):C_scan_Cursor_End (some ⟨bc,0,none⟩) w K:=by
 apply S_scan_Cursor_End
 obtain ⟨p,gc,hp⟩:=c.path
 refine goes_spec R hn0 hTr hlev ⟨p,gc,hp⟩ c.1 last_ok last_goal (fun h=>by rw [h]; rfl) fun a w2 c2 hg x2=>?_
 have hg':a=kvs.length:=hg
 rw [hg'] at c2
 exact k w2 c2 x2
theorem cpair_spec{bc:Nat}{t:Int}{r:Rf}{lev:Nat}{p:Sl}{x:EntV}{e:Ent}{v:List Int}{kvs:List KV}{ps:List Rf}{K:Sl->Sl->Int->World->Prop}(R:MemR w.heap T m M)(hTr:TreeT M.f t r lev kvs ps)(hlev:lev<=30)(gc:w.heap[bc]? = some (.cells (curCs m t r lev p).toArray 170 (0,0)))(er:EntR w.heap x e)(kl:1<=e.key.length/\e.key.length<=32)(k8:B8 e.key)(hv:kvGet kvs e.key=some v)
  (k:∀ ks vs w',OwnB w'.heap w.heap.size ks e.key->OwnB w'.heap w.heap.size vs v->(∀ q,ks.blk=some q->vs.blk≠some q)->Ext No w w'->K ks vs 0 w'):C_scan_Cursor_pair (some ⟨bc,0,none⟩) x.k x.v x.n x.ch.p x.ch.c x.ch.g x.cd.p x.cd.c x.cd.g w K:=by
 apply S_scan_Cursor_pair
 refine NewW.mk fun b w1 n1=>NewW.mk fun b1 w2 n2=>?_
 have x02:=n1.ext.no n2.ext
 have g2:w2.heap[b]? = some (.cells x.cs.toArray 133 (0,0)):=get_no n1.get n2.ext
 have gc2:=get_no gc x02
 have hb1:=n2.at_; have z1:=n1.size; have z2:=n2.size
 refine ⟨Ext No w2,(Ext.refl _ _).drew,Nn.mk ⟨_,Held.cell (Cell.lst gc2 rfl),Nn.mk ⟨_,Held.cell (Cell.lst gc2 rfl),Nn.mk ⟨_,Held.cell (Cell.lst gc2 rfl),_,Held.cell (Cell.lst gc2 rfl),_,Held.cell (Cell.lst gc2 rfl),_,Held.cell (Cell.lst gc2 rfl),_,Held.cell (Cell.lst g2 rfl),?_⟩⟩⟩⟩
 have er2:=er.no x02
 have R2:MemR (drewW w2).heap T m M:=R.no x02.drew
 have hk2:RdB (drewW w2).heap x.k e.key:=er2.k
 refine treeGet_spec (w:=drewW w2) R2 hTr (by omega) hk2 k8 (fun w' h _=>by omega) (fun w' _ _ h _=>by rw [hv] at h; cases h) fun v' vs w3 _ _ hv' o3 x3=>?_
 rw [hv] at hv'; cases hv'
 have x23:Ext No w2 w3:=x3.drew_left
 refine ⟨x23,If.bne (fun h=>(h rfl).elim) fun _=>⟨_,Cell.lst (get_no g2 x23) rfl,?_⟩⟩
 have o3':OwnB w3.heap w2.heap.size vs v:=o3
 have y3:=x23.size
 refine clone_spec (er2.no x23).k (by omega) fun ks w5 o5 x5=>st_all (get_no (get_no n2.get x23) x5) rfl rfl (by simp [oneC]) fun w6 g6 x6 _=>⟨_,Cell.lst g6 rfl,_,Cell.lst g6 rfl,?_⟩
 have x6':Ext (·=b1) w5 w6:=x6
 refine k ks vs w6 ((Own.mono o5 (by omega)).ext x6' fun q hq h=>by have:=(o5.lt hq).1; omega) ((Own.mono (o3'.no x5) (by omega)).ext x6' fun q hq h=>by have:=(o3'.lt hq).1; omega) (fun q h1 h2=>by have:=(o5.lt h1).1; have:=(o3'.lt h2).2; omega) (((x02.no x23).no x5).trans x6' fun q hq h=>by omega)
set_option maxHeartbeats 2000000 in
theorem over_spec{bc n0:Nat}{X:Nat->Prop}{d t:Int}{r:Rf}{lev a:Nat}{p:Sl}{P:List StV}{ch:Value}{Ch:Nat->List Ent->Nat->Prop}{G:List KV->Nat->Prop}{kvs:List KV}{K:Sl->Int->World->Prop}(hd:d=1∨d = -1)
  (R:MemR w.heap T m M) (hn0:n0<=w.heap.size) (hlev:lev<=30) (gc:w.heap[bc]? = some (.cells (curCs m t r lev p).toArray 170 (0,0))) (hP:PthX w.heap n0 (fun q=>q=bc∨X q) p P) (hX:∀ q,X q->q < w.heap.size) (hv:∀ j (hj:j < P.length),P[j].v=((lev - j:Nat):Int)) (hA:PathP M.f t lev kvs (P.map StV.abs) a)
  (hl:∀ x,(P.map StV.abs).getLast? = some x->if d=1 then x.2=x.1.length else x.2=0) (hch:∀{w' S},ChooseOK w' S ch Ch) (hG:GoalOK M.f t Ch G) (hGe:∀ kv a,G kv a->a=if d=1 then 0 else kv.length)
  (knone:∀ w',a=(if d=1 then kvs.length else 0)->Ext No w w'->K ⟨none,0,0⟩ 0 w')
  (k:∀ s P' w',PthX w'.heap n0 (fun q=>q=bc∨X q) s P'->(∀ q,s.blk=some q->w.heap.size<=q)->(∀ j (hj:j < P'.length),P'[j].v=((lev - j:Nat):Int))->PathP M.f t lev kvs (P'.map StV.abs) a->(∀ x,(P'.map StV.abs).getLast? = some x->x.1≠[]/\if d=1 then x.2=0 else x.2=x.1.length)->Ext No w w'->K s 0 w'):C_scan_Cursor_over (some ⟨bc,0,none⟩) d ch w K:=by
 apply S_scan_Cursor_over
 have hpl:=hP.len
 have hPl:P.length=lev+1:=by have:=hA.len; simpa using this
 have hml:(P.map StV.abs).length=P.length:=by simp
 have hbcl:=blt gc
 refine Nn.mk ⟨_,Cell.lst gc rfl,Ar.i64 (by omega) ?_⟩
 refine ⟨fun q i w'=>w'=w /\ -1<=i/\i+2<=(P.length:Int)/\q=(i+1).toNat/\∀ j (h:j+1 < (P.map StV.abs).length),i < (j:Int)->¬ MovP d (P.map StV.abs)[j],⟨_,rfl,by omega,by omega,rfl,fun j h1 h2=>by simp at h1; omega⟩,?_⟩
 rintro _ m0 i w1 ⟨rfl,hi1,hi2,hq,hno⟩
 refine If.dec (fun h=>?_) fun h=>?_
 .obtain ⟨j,rfl⟩ : ∃ j:Nat,i=j:=⟨i.toNat,by omega⟩
  have hj:j < P.length:=by omega
  have hndj:=hP.nd _ (List.getElem_mem hj)
  have hjl:=hndj.nd.len
  refine Nn.mk ⟨_,Cell.lst gc rfl,Ix.elem hP.own.rd (stCs_len P) (by decide) (by omega) (by omega) fun bb o _ _ hc=>?_⟩
  simp only [Int.toNat_natCast] at hc
  -- places are small
  have hsmall:=hP.sm _ (List.getElem_mem hj)
  have hjm:j < (P.map StV.abs).length:=by rw [hml]; exact hj
  refine ⟨_,hc 3 _ rfl,Ar.i64 (by omega) ?_⟩
  have cont:∀ w':World,w'=w1->¬ MovP d (P.map StV.abs)[j]->∃ m1,m1 < m0/\(w'=w1 /\ -1<=(j:Int) - 1/\(j:Int) - 1+2<=(P.length:Int)/\m1=((j:Int) - 1+1).toNat/\∀ j' (h:j'+1 < (P.map StV.abs).length),(j:Int) - 1 < (j':Int)->¬ MovP d (P.map StV.abs)[j']):=fun w' hw hm=>⟨((j:Int) - 1+1).toNat,by omega,hw,by omega,by omega,rfl,fun j' h1 h2=>by
   rcases Nat.lt_or_ge j j' with h3 | h3
   .exact hno j' h1 (by omega)
   .have:j'=j:=by omega
    subst this; exact hm⟩
  refine ⟨fun w'=>w'=w1/\MovP d (P.map StV.abs)[j],If.dec (fun hz=>Ar.i64 (by omega) (cont w1 rfl fun hm=>?_)) fun hz=>Nn.mk ⟨_,Cell.lst gc rfl,Ix.elem hP.own.rd (stCs_len P) (by decide) (by omega) (by omega) fun bb o _ _ hc=>?_⟩,?_⟩
  .have:=hm.1; simp [StV.abs] at this; omega
  .simp only [Int.toNat_natCast] at hc
   refine ⟨_,hc 2 _ rfl,If.dec (fun hz2=>Ar.i64 (by omega) (cont w1 rfl fun hm=>?_)) fun hz2=>⟨rfl,?_,?_⟩⟩
   .have:=hm.2; simp [StV.abs] at this; omega
   .simp [StV.abs]; omega
   .simp [StV.abs]; omega
  rintro _ w2 ⟨rfl,hmov⟩
  rcases hA.over hd hl with ⟨j',hj',m1,m2,i',e1,hi',kv,p',hS,hN⟩ | ⟨hnone,_⟩
  .have hjj:j'=j:=by
    simp only [List.length_map] at hj'
    rcases Nat.lt_trichotomy j' j with h3 | h3 | h3
    .exact absurd hmov (m2 j (by simp; omega) h3)
    .exact h3
    .exact absurd m1 (hno j' (by simp; omega) (by omega))
   subst hjj
   have eP:(P.map StV.abs)[j']=P[j'].abs:=by simp
   simp only [eP] at e1 hi' hS hN
   have e1':(i':Int)=(P[j'].i:Int)+d:=e1
   have hi'':i' < (ents P[j'].L).length:=hi'
   have hS':SubT M.f t (lev - 1 - j') (ents P[j'].L)[i'].cd kv p':=hS
   refine Ar.i64 (by omega) (Nn.mk ⟨_,Cell.lst gc rfl,MkW.mk (by omega) (by omega) (by omega) (by omega) fun b w3 n3=>Nn.mk ⟨_,Cell.lst (get_no gc n3.ext) rfl,?_⟩⟩)
   have hb:=n3.at_; have z3:=n3.size
   have t1:((j':Int)+1).toNat=j'+1:=by omega
   have t2:((p.len:Int)).toNat=P.length:=by omega
   rw [t1,t2]
   have n3':=n3.get
   rw [t2] at n3'
   have rowl:((List.replicate P.length [Value.int .u8 0,Value.int .u8 0,Value.slice none 0 0,Value.int .i64 0]).flatten).length=P.length * 4:=by simp
   have hmin:min p.len (j'+1)=j'+1:=by omega
   have htk:(P.flatMap StV.cs).take ((j'+1) * 4)=(P.take (j'+1)).flatMap StV.cs:=by
    conv=>lhs; rw [<- List.take_append_drop (j'+1) P]
    rw [List.flatMap_append,List.take_append]
    have hl3:((P.take (j'+1)).flatMap StV.cs).length=(j'+1) * 4:=by rw [flat_len' (stCs_len _),List.length_take,Nat.min_eq_left (by omega)]
    rw [hl3,Nat.sub_self,List.take_zero,List.append_nil,List.take_of_length_le (by omega)]
   refine copy_scan_step (d:=⟨some ⟨b,0,none⟩,j'+1,P.length⟩) (x:=p) rfl n3' (hP.own.no n3.ext).rd (by rw [rowl]; simp only [hmin]; omega) fun w4 h4=>?_
   simp only [hmin,htk] at h4
   have g4:=h4.get n3'
   have l4:((P.take (j'+1)).flatMap StV.cs).length=(j'+1) * 4:=by rw [flat_len' (stCs_len _),List.length_take,Nat.min_eq_left (by omega)]
   rw [setL_parts _ _ _ (by rw [rowl,l4]; omega),List.take_zero,List.nil_append] at g4
   have x34:Ext (·=b) w3 w4:=h4.ext
   have z4:w4.heap.size=w3.heap.size:=h4.size
   have o4:Own w4.heap n0 174 4 ⟨some ⟨b,0,none⟩,j'+1,P.length⟩ ((P.take (j'+1)).flatMap StV.cs):=by
    refine ⟨l4, .inr ⟨b,_,rfl,by omega,g4,?_,by simp only; omega⟩,fun v hv=>?_⟩
    .rw [List.length_append,List.length_drop,rowl,l4]; simp only; omega
    .obtain ⟨y,_,hy⟩:=List.mem_flatMap.1 hv
     exact stOne y v hy
   refine ⟨_,rfl,by omega,by simp only; omega,?_⟩
   have ea:(⟨b,0,none⟩ : Addr).add ((j':Int).toNat * 4)=⟨b,j' * 4,none⟩:=by rw [addr_add_none rfl]; simp
   rw [ea]
   refine St1.at_ (b:=b) (off:=j' * 4+3) o4 rfl (by rw [l4]; omega) rfl fun w5 o5 x5 z5=>?_
   have x45:Ext (·=b) w4 w5:=x5.mono fun q _ h=>by simp [Sl.blk] at h; exact h.symm
   have x05:Ext No w2 w5:=(n3.ext.trans x34 fun q hq h=>by omega).trans x45 fun q hq h=>by omega
   have hset:((P.take (j'+1)).flatMap StV.cs).set (j' * 4+3) (.int .i64 ((P[j'].i:Int)+d))=(P.take j'++[{ P[j'] with i:=i' }]).flatMap StV.cs:=by
    have hjt:j' < (P.take (j'+1)).length:=by rw [List.length_take]; omega
    have h1:=flat_set (f:=StV.cs) (n:=4) (l:=P.take (j'+1)) (i:=j') (o:=3) (vs:=[.int .i64 ((P[j'].i:Int)+d)]) (y:={ P[j'] with i:=i' }) (stCs_len _) hjt (by simp) (by
     rw [List.getElem_take,<- e1']; rfl)
    have h2:(P.take (j'+1)).set j' { P[j'] with i:=i' }=P.take j'++[{ P[j'] with i:=i' }]:=by
     have hlt:(P.take j').length=j':=by rw [List.length_take]; omega
     rw [List.take_add_one,List.getElem?_eq_getElem hj,Option.toList_some,List.set_append_right _ _ (by omega),hlt,Nat.sub_self]; rfl
    rw [h2] at h1
    exact h1
   rw [hset] at o5
   generalize hP2:P.take j'++[({ P[j'] with i:=i' }:StV)]=P2 at o5
   have l2:P2.length=j'+1:=by rw [<- hP2,List.length_append,List.length_take]; simp; omega
   have g2j:P2[j']'(by omega)={ P[j'] with i:=i' }:=by
    have hlt:(P.take j').length=j':=by rw [List.length_take]; omega
    subst hP2
    rw [List.getElem_append_right (by omega)]; simp [hlt]
   have g2o:∀ k (h1:k < P2.length),P2[k].v=P[k].v:=fun k h1=>by
    rcases Nat.lt_or_ge k j' with h | h
    .subst hP2
     rw [List.getElem_append_left (by rw [List.length_take]; omega),List.getElem_take]
    .have:k=j':=by omega
     subst this; rw [g2j]
   have hy2:∀ y∈P2,∃ z∈P,y.s=z.s/\y.L=z.L/\(y.i=z.i∨y.i=i'/\y.L=P[j'].L):=fun y hy=>by
    rw [<- hP2] at hy
    rcases List.mem_append.1 hy with h | h
    .exact ⟨y,List.mem_of_mem_take h,rfl,rfl, .inl rfl⟩
    .rw [List.mem_singleton] at h
     exact ⟨P[j'],List.getElem_mem hj,by rw [h],by rw [h], .inr ⟨by rw [h],by rw [h]⟩⟩
   have hPth5:PthX w5.heap n0 (fun q=>q=bc∨X q) ⟨some ⟨b,0,none⟩,j'+1,P.length⟩ P2:=by
    refine ⟨o5,fun y hy=>?_,fun y hy=>?_⟩
    .obtain ⟨z,hz,e2,e3,_⟩:=hy2 y hy
     rw [e2,e3]
     have h1:=(hP.nd z hz).mono (B':=fun q=>(n0<=q/\¬ (q=bc∨X q))/\q < w2.heap.size) fun q h1 h2=>⟨⟨h2.1,h2.2.2⟩,h1⟩
     exact (h1.no x05).mono fun q _ h2=>⟨h2.1.1,(fun h3=>by simp [Sl.blk] at h3; omega),h2.1.2⟩
    .obtain ⟨z,hz,e2,e3,e4⟩:=hy2 y hy
     have h1:=hP.sm z hz
     rw [e3]
     refine ⟨h1.1,?_⟩
     rcases e4 with h | ⟨h,h2⟩
     .rw [h]; exact h1.2
     .have h3:=(hP.sm _ (List.getElem_mem hj)).1
      simp at hi''; omega
   refine Ix.elem hPth5.own.rd (stCs_len P2) (by decide) (by omega) (by simp only; omega) fun b5 o5' hi5 _ hc5=>?_
   simp only [Int.toNat_natCast,g2j] at hc5
   refine ⟨_,hc5 0 _ rfl,_,hc5 1 _ rfl,_,hc5 2 _ rfl,new_set rfl rfl (by simp [oneC]) fun b2 w7 g7 hb2 z7 x7=>?_⟩
   have x07:=x05.no x7
   have y07:=x07.size
   have hPth7:=hPth5.no x7
   have ndq:=hPth7.nd P2[j'] (List.getElem_mem (by omega))
   rw [g2j] at ndq
   have hnd7:NdR w7.heap P[j'].s P[j'].L:=ndq.nd
   have hiL:i' < P[j'].L.length:=by simpa using hi''
   have hl7:=hnd7.len
   have nb2:¬ (⟨some ⟨b,0,none⟩,j'+1,P.length⟩ : Sl).blk=some b2:=fun h=>by simp [Sl.blk] at h; have:=x05.size; omega
   have hj1:j'+1<=lev:=by omega
   refine ⟨Ext (fun q=>(⟨some ⟨b,0,none⟩,j'+1,P.length⟩ : Sl).blk=some q) w7,(Ext.refl _ _).drew,_,Held.but (Cell.lst g7 rfl) nb2,?_⟩
   rw [show (P[j'].i:Int)+d=(i':Int) from e1'.symm]
   refine Ix.elem hnd7.rd (entCs_len _) (by decide) (by omega) (by show (i':Int) < (P[j'].s.len:Int); omega) fun bb ob hib hbb hcb=>?_
   simp only [Int.toNat_natCast] at hib hcb
   have nbb:¬ (⟨some ⟨b,0,none⟩,j'+1,P.length⟩ : Sl).blk=some bb:=fun h=>(ndq.sb bb hbb).2.1 h
   have hvj:=hv j' hj
   refine ⟨_,Held.but (hcb 6 _ rfl) nbb,_,Held.but (hcb 7 _ rfl) nbb,_,Held.but (hcb 8 _ rfl) nbb,_,Held.but (Cell.lst g7 rfl) nb2,Ar.u8 (by simp only [hvj]; omega) ?_⟩
   have er:=hnd7.get hiL
   have ec:(P[j'].L[i'].1).cd=(ents P[j'].L)[i'].cd:=by rw [er.cd]; simp
   have ev:((P[j'].v) - 1)=((lev - 1 - j':Nat):Int):=by rw [hvj]; omega
   simp only [ec,ev]
   have R7:MemR (drewW w7).heap T m M:=R.no x07.drew
   have hPth7d:PthX (drewW w7).heap n0 (fun q=>q=bc∨X q) ⟨some ⟨b,0,none⟩,j'+1,P.length⟩ P2:=⟨hPth7.own,hPth7.nd,hPth7.sm⟩
   have y7d:(drewW w7).heap.size=w7.heap.size:=rfl
   refine down_spec (w:=drewW w7) R7 (fun q h=>R.supT (by simp [Sl.blk] at h; omega)) (by omega) (get_no gc x07.drew) (by simp [Sl.blk]; omega) hPth7d (fun q hq=>?_) (by omega) hS' (by omega) hch hG fun s9 P9 a9 w9 hP9 hv9 hA9 hg9 x9 hs9=>⟨x9.drew_left,?_⟩
   .rcases hq with h | h
    .omega
    .have:=hX q h; omega
   have hga:=hGe kv a9 hg9
   have x79:=x9.drew_left
   refine k s9 (P2++P9) w9 hP9 (fun q hq=>?_) (fun k2 hk2=>?_) ?_ (fun x hx=>?_) (x07.trans x79 fun q hq h=>by simp [Sl.blk] at h; omega)
   .rcases hs9 with h | ⟨c,h,hc9⟩
    .rw [h] at hq; simp [Sl.blk] at hq; omega
    .rw [h] at hq; cases hq; omega
   .rcases Nat.lt_or_ge k2 P2.length with h | h
    .rw [List.getElem_append_left h,g2o k2 h]; exact hv k2 (by omega)
    .rw [List.getElem_append_right h,hv9 _ (by simp at hk2; omega)]
     simp at hk2; omega
   .rw [hga] at hA9
    have:=hN _ hA9
    rw [List.map_append,<- hP2,List.map_append,List.append_assoc,List.map_take]
    exact this
   .obtain ⟨Q,l9,i9,b9,eQ,_,hne9,hi9,ha9,hb9,_⟩:=hA9.leaf
    rw [List.map_append,eQ,<- List.append_assoc,List.getLast?_append] at hx
    simp at hx
    rw [<- hx]
    refine ⟨hne9,?_⟩
    split
    .rename_i h; rw [if_pos h] at hga; show i9=0; omega
    .rename_i h; rw [if_neg h] at hga; show i9=l9.length; omega
  .exact absurd hmov (hnone j (by simp; omega))
 .have hi:i = -1:=by omega
  rcases hA.over hd hl with ⟨j',hj',m1,_⟩ | ⟨_,ha⟩
  .exact absurd m1 (hno j' hj' (by omega))
  .exact knone _ ha (Ext.refl _ _)
end
end Go.Proofs.YtcamoanigdfihaaGreat
set_option maxRecDepth 100000
namespace Go.Proofs.YtcamoanigdfihaaGreat
open Go.V
section
variable {w:World} {T:Nat->Option Nat} {m:MemV} {M:Mm}
abbrev stTo(x:StV)(i:Nat):StV:=⟨x.k,x.v,x.s,x.L,i⟩
def StepTail(g:Int->Int)(la:Addr)(bc b b1:Nat)(path:Sl)(K:Sl->Sl->Int->World->Prop)(r1:Int)(w12:World):Prop :=
 Nn (some la) fun a_8 =>
 ∃ vv_6:Int,Cell w12 (a_8.add 3) (.int .i64 vv_6) /\
 Ar .i64 (g vv_6) fun z_3 =>
 Nn (some la) fun a_9 =>
 St1 w12 (a_9.add 3) (.int .i64 z_3) fun w13 =>
 Nn (some (Addr.mk bc 0 none)) fun a_10 =>
 St1 w13 (a_10.add 6) (.slice path.a path.len path.cap) fun w14 =>
 ∃ c_18:Sl,Cell w14 (Addr.mk b1 0 none) (.slice c_18.a c_18.len c_18.cap) /\
 ∃ c_19:Sl,Cell w14 ((Addr.mk b1 0 none).add 1) (.slice c_19.a c_19.len c_19.cap) /\
 List.length (α:=Value) [.slice c_18.a c_18.len c_18.cap, .slice c_19.a c_19.len c_19.cap]=2/\StN w14 (Addr.mk b 0 none) [.slice c_18.a c_18.len c_18.cap, .slice c_19.a c_19.len c_19.cap] fun w15 =>
 ∃ c_20:Sl,Cell w15 (Addr.mk b 0 none) (.slice c_20.a c_20.len c_20.cap) /\
 ∃ c_21:Sl,Cell w15 ((Addr.mk b 0 none).add 1) (.slice c_21.a c_21.len c_21.cap) /\
 K c_20 c_21 r1 w15
theorem step_tail{g:Int->Int}{n0 pb bc b b1 n i':Nat}{X:Nat->Prop}{t lev:Int}{r:Rf}{path p0 ks vs:Sl}{P:List StV}{zs:List Value}{K:Sl->Sl->Int->World->Prop}(hP:PthX w.heap n0 (fun q=>q=bc∨X q) path P)(hpa:path.a=some ⟨pb,0,none⟩)(hn:P.length=n+1)(hpX:∀ q,path.blk=some q->q≠bc/\¬ X q)
  (hg:g (P[n]'(by omega)).i=i') (hi':i'<=65536) (gc:w.heap[bc]? = some (.cells (curCs m t r lev p0).toArray 170 (0,0))) (g1:w.heap[b1]? = some (.cells [.slice ks.a ks.len ks.cap, .slice vs.a vs.len vs.cap].toArray 70 (0,0))) (gb:w.heap[b]? = some (.cells zs.toArray 70 (0,0))) (hz:zs.length=2) (hb:X b) (hbc:b≠bc) (hb1:b1≠bc/\b1≠pb)
  (k:∀ w',PthX w'.heap n0 (fun q=>q=bc∨X q) path (P.take n++[stTo (P[n]'(by omega)) i'])->w'.heap[bc]? = some (.cells (curCs m t r lev path).toArray 170 (0,0))->Ext (fun q=>q=pb∨q=bc∨q=b) w w'->K ks vs 0 w'):StepTail g ⟨pb,n * 4,none⟩ bc b b1 path K 0 w:=by
 have hnl:n < P.length:=by omega
 have hpblk:path.blk=some pb:=by simp [Sl.blk,hpa]
 have hpb:=hpX pb hpblk
 have hbp:b≠pb:=fun h=>hpb.2 (h ▸ hb)
 have hl:(P.flatMap StV.cs).length=P.length * 4:=flat_len' (stCs_len P)
 have hcell:Cell w ⟨pb,n * 4+3,none⟩ (.int .i64 (P[n]'hnl).i):=by
  obtain ⟨bb,rest,ha,_,hh,_,_⟩:=hP.own.place (by intro e; rw [e] at hl; simp at hl; omega)
  rw [hpa] at ha; cases ha
  refine Cell.blk hh ?_
  have h1:=flat_get (f:=StV.cs) (n:=4) (l:=P) (i:=n) (j:=3) (stCs_len P) hnl (by decide)
  rw [List.getElem?_toArray,List.getElem?_append_left (by rw [hl]; omega),h1]; rfl
 refine Nn.mk ⟨_,hcell,?_⟩
 rw [hg]
 refine Ar.i64 (by omega) (Nn.mk (St1.at_ (b:=pb) (off:=n * 4+3) hP.own hpa (by rw [hl]; omega) rfl fun w13 o13 x13 z13=>Nn.mk ?_))
 have x13':Ext (·=pb) w w13:=x13.mono fun q _ h=>by rw [hpblk] at h; exact (Option.some.inj h).symm
 have hset:(P.flatMap StV.cs).set (n * 4+3) (.int .i64 (i':Int))=(P.take n++[stTo (P[n]'hnl) i']).flatMap StV.cs:=by
  have h1:=flat_set (f:=StV.cs) (n:=4) (l:=P) (i:=n) (o:=3) (vs:=[.int .i64 (i':Int)]) (y:=stTo (P[n]'hnl) i') (stCs_len _) hnl (by simp) rfl
  have h2:∀ y,P.set n y=P.take n++[y]:=fun y=>by
   have e:P=P.take n++[P[n]'hnl]:=by
    conv=>lhs; rw [<- List.take_append_drop n P]
    rw [List.drop_eq_getElem_cons hnl,List.drop_eq_nil_of_le (by omega)]
   have hlt:(P.take n).length=n:=by rw [List.length_take]; omega
   generalize P[n]'hnl=z at e
   generalize P.take n=q at e hlt ⊢
   subst e
   rw [List.set_append_right _ _ (by omega),hlt,Nat.sub_self]; rfl
  rw [h2] at h1; exact h1
 rw [hset] at o13
 have hP13:PthX w13.heap n0 (fun q=>q=bc∨X q) path (P.take n++[stTo (P[n]'hnl) i']):=by
  have nd:∀ y∈P,NdQ w13.heap (fun q=>n0<=q/\path.blk≠some q/\¬ (q=bc∨X q)) y.s y.L:=fun y hy=>(hP.nd y hy).ext x13' fun q hq _ h=>hq.2.1 (by rw [h]; exact hpblk)
  refine ⟨o13,fun y hy=>?_,fun y hy=>?_⟩
  .rcases List.mem_append.1 hy with h | h
   .exact nd y (List.mem_of_mem_take h)
   .rw [List.mem_singleton] at h; subst h; exact nd (P[n]'hnl) (List.getElem_mem hnl)
  .rcases List.mem_append.1 hy with h | h
   .exact hP.sm y (List.mem_of_mem_take h)
   .rw [List.mem_singleton] at h; subst h; exact ⟨(hP.sm _ (List.getElem_mem hnl)).1,hi'⟩
 have gc13:=get_ext gc x13' (fun h=>hpb.1 h.symm)
 refine St1.mk gc13 (by show 6 < 7; decide) rfl fun w14 h14=>?_
 have g14:w14.heap[bc]? = some (.cells (curCs m t r lev path).toArray 170 (0,0)):=h14.get gc13
 have x14:Ext (·=bc) w13 w14:=h14.ext
 have hP14:=hP13.ext x14 (fun q hq h=>(hpX q hq).1 h) fun q _ _ _ h h'=>h (.inl h')
 have g1':=get_ext (get_ext g1 x13' hb1.2) x14 hb1.1
 have gb':=get_ext (get_ext gb x13' hbp) x14 hbc
 refine ⟨_,Cell.lst g1' rfl,_,Cell.lst g1' rfl,st_all gb' rfl hz (by simp [oneC]) fun w15 g15 x15 _=>⟨_,Cell.lst g15 rfl,_,Cell.lst g15 rfl,?_⟩⟩
 have x15':Ext (·=b) w14 w15:=x15
 refine k w15 (hP14.ext x15' (fun q hq h=>(hpX q hq).2 (h ▸ hb)) fun q _ _ _ h h'=>h (.inr (h' ▸ hb))) (get_ext g14 x15' (fun h=>hbc h.symm)) (((x13'.mono fun _ _ h => .inl h).trans x14 fun _ _ h => .inr (.inl h)).trans x15' fun _ _ h => .inr (.inr h))
theorem pair0{b:Nat}{zs:List Value}{e:Int}{K:Sl->Sl->Int->World->Prop}(hb:w.heap[b]? = some (.cells zs.toArray 70 (0,0)))(hz:zs.length=2)(k:∀ w',Ext (·=b) w w'->K ⟨none,0,0⟩ ⟨none,0,0⟩ e w') :
  List.length (α:=Value) [.slice none 0 0, .slice none 0 0]=2/\StN w (Addr.mk b 0 none) [.slice none 0 0, .slice none 0 0] fun w9 =>
   ∃ c_7:Sl,Cell w9 (Addr.mk b 0 none) (.slice c_7.a c_7.len c_7.cap)/\∃ c_8:Sl,Cell w9 ((Addr.mk b 0 none).add 1) (.slice c_8.a c_8.len c_8.cap)/\K c_7 c_8 e w9 :=
 st_all hb rfl hz (by simp [oneC]) fun w' g x _=>⟨⟨none,0,0⟩,Cell.lst g rfl,⟨none,0,0⟩,Cell.lst g rfl,k w' x⟩
theorem leaf_of{f:Pages}{t:Int}{lev a:Nat}{kvs:List KV}{P:List StV}(hA:PathP f t lev kvs (P.map StV.abs) a):∃ (hn:P.length=lev+1) (b':Nat),(P.map StV.abs).getLast? = some (P[lev]'(by omega)).abs/\(P[lev]'(by omega)).L≠[]/\(P[lev]'(by omega)).i<=(P[lev]'(by omega)).L.length/\a=b'+(P[lev]'(by omega)).i/\b'+(P[lev]'(by omega)).L.length<=kvs.length /\
    (∀ k (h:k < (P[lev]'(by omega)).L.length) (h':b'+k < kvs.length),(P[lev]'(by omega)).L[k].2.key=kvs[b'+k].1)/\∀ k,k<=(P[lev]'(by omega)).L.length->PathP f t lev kvs ((P.take lev++[stTo (P[lev]'(by omega)) k]).map StV.abs) (b'+k):=by
  have hn:P.length=lev+1:=by have:=hA.len; simpa using this
  have hlt:lev < P.length:=by omega
  obtain ⟨Q,l,i,b',e,hQ,hne,hil,ha,hb,hk,hp⟩:=hA.leaf
  have hlast:(P[lev]'hlt).abs=(l,i):=by
    have:=congrArg (fun x=>x[lev]?) e
    simp only [List.getElem?_map,List.getElem?_eq_getElem hlt,Option.map_some] at this
    rw [List.getElem?_append_right (by omega),hQ,Nat.sub_self] at this
    simpa using this
  have hQe:(P.take lev).map StV.abs=Q:=by
    have:=congrArg (fun x=>x.take lev) e
    simp only [<- List.map_take] at this
    rw [this,List.take_append_of_le_length (by omega),List.take_of_length_le (by omega)]
  have h1:ents (P[lev]'hlt).L=l:=congrArg Prod.fst hlast
  have h2:(P[lev]'hlt).i=i:=congrArg Prod.snd hlast
  have h3:=ents_len h1
  refine ⟨hn,b',?_,?_,by omega,by omega,by omega,fun k h h'=>?_,fun k h=>?_⟩
  · rw [e,hlast]; simp
  · intro h; rw [h] at h1; exact hne (by rw [<- h1]; rfl)
  · have:=hk k (by omega) h'
    rw [<- this]
    subst h1
    simp
  · rw [List.map_append,hQe,List.map_singleton]
    have:StV.abs (stTo (P[lev]'hlt) k)=(l,k):=by simp [StV.abs,h1]
    rw [this]; exact hp k (by omega)
theorem leaf_cell{n0 pb n j:Nat}{X:Nat->Prop}{path:Sl}{P:List StV}{v:Value}(hP:PthX w.heap n0 X path P)(hpa:path.a=some ⟨pb,0,none⟩)(hn:n < P.length)(hj:j < 4)(hv:(StV.cs P[n])[j]? = some v):Cell w ⟨pb,n * 4+j,none⟩ v:=by
 have hl:(P.flatMap StV.cs).length=P.length * 4:=flat_len' (stCs_len P)
 obtain ⟨bb,rest,ha,_,hh,_,_⟩:=hP.own.place (by intro e; rw [e] at hl; simp at hl; omega)
 rw [hpa] at ha; cases ha
 refine Cell.blk hh ?_
 have h1:=flat_get (f:=StV.cs) (n:=4) (l:=P) (i:=n) (j:=j) (stCs_len P) hn hj
 rw [List.getElem?_toArray,List.getElem?_append_left (by rw [hl]; omega),h1,hv]
structure OnP(w:World)(n0 bc b:Nat)(X:Nat->Prop)(f:Pages)(t:Int)(lev a:Nat)(kvs:List KV)(path:Sl)(P:List StV):Prop where
 pth:PthX w.heap n0 (fun q=>q=bc∨(q=b∨X q)) path P
 blk:∀ q,path.blk=some q->q≠bc/\q≠b/\¬ X q
 lv:∀ j (hj:j < P.length),P[j].v=((lev - j:Nat):Int)
 at_:PathP f t lev kvs (P.map StV.abs) a
theorem step_end{X:Nat->Prop}{Z:Sl->Sl->Int->Nat->World->Prop}{n0 bc b a:Nat}{g:Int->Int}{t:Int}{r:Rf}{lev idx i':Nat}{p path:Sl}{P:List StV}{kvs:List KV}{ps:List Rf}{zs:List Value}{K:Sl->Sl->Int->World->Prop}(R:MemR w.heap T m M)(hTr:TreeT M.f t r lev kvs ps)(hr:r ≠ .z)(hlev:lev<=30)(hbc:n0<=bc)(hbb:n0<=b)(gc:w.heap[bc]? = some (.cells (curCs m t r lev p).toArray 170 (0,0)))(gb:w.heap[b]? = some (.cells zs.toArray 70 (0,0)))(hz:zs.length=2)(hbne:b≠bc)(hXb:¬ X b)(hXc:¬ X bc)(O:OnP w n0 bc b X M.f t lev a kvs path P)
  (hn:P.length=lev+1) (hidx:idx < (P[lev]'(by omega)).L.length) (hg:g (P[lev]'(by omega)).i=i') (hi':i'<=65536) (ak:Nat) (hak:ak < kvs.length) (hkey:(P[lev]'(by omega)).L[idx].2.key=kvs[ak].1) (a':Nat) (hA':PathP M.f t lev kvs ((P.take lev++[stTo (P[lev]'(by omega)) i']).map StV.abs) a')
  (k0:∀ ks vs w',OwnB w'.heap w.heap.size ks kvs[ak].1->OwnB w'.heap w.heap.size vs kvs[ak].2->(∀ q,ks.blk=some q->vs.blk≠some q)->CurR w'.heap n0 (fun q=>X q∨ks.blk=some q∨vs.blk=some q) M.f m t r lev bc kvs a'->Ext (fun q=>n0<=q/\¬ X q) w w'->K ks vs 0 w') :
  ∃ pb:Nat,path.a=some ⟨pb,0,none⟩/\Cell w ⟨pb,lev * 4+2,none⟩ (.slice (P[lev]'(by omega)).s.a (P[lev]'(by omega)).s.len (P[lev]'(by omega)).s.cap)/\Cell w ⟨pb,lev * 4+3,none⟩ (.int .i64 (P[lev]'(by omega)).i)/\NdR w.heap (P[lev]'(by omega)).s (P[lev]'(by omega)).L /\
   (∀{x:EntV},x=(P[lev]'(by omega)).L[idx].1 ->
    (C_scan_Cursor_pair (some ⟨bc,0,none⟩) x.k x.v x.n x.ch.p x.ch.c x.ch.g x.cd.p x.cd.c x.cd.g (drewW w) fun r00 r01 r1 w10=>Ext No w w10/\NewW w10 (.cells [.slice none 0 0, .slice none 0 0].toArray 70) fun b1 w11=>Ext No w w11/\List.length (α:=Value) [.slice r00.a r00.len r00.cap, .slice r01.a r01.len r01.cap]=2/\StN w11 (Addr.mk b1 0 none) [.slice r00.a r00.len r00.cap, .slice r01.a r01.len r01.cap] fun w12=>Ext No w w12/\If (r1 == 0) (StepTail g ⟨pb,lev * 4,none⟩ bc b b1 path K r1 w12) (Z r00 r01 r1 b1 w12)) /\
    (NewW (drewW w) (.cells [.slice none 0 0, .slice none 0 0].toArray 70) fun b1 w11=>Ext No w w11/\C_scan_Cursor_pair (some ⟨bc,0,none⟩) x.k x.v x.n x.ch.p x.ch.c x.ch.g x.cd.p x.cd.c x.cd.g w11 fun r00 r01 r1 w12=>Ext No w w12/\List.length (α:=Value) [.slice r00.a r00.len r00.cap, .slice r01.a r01.len r01.cap]=2/\StN w12 (Addr.mk b1 0 none) [.slice r00.a r00.len r00.cap, .slice r01.a r01.len r01.cap] fun w13=>Ext No w w13/\If (r1 == 0) (StepTail g ⟨pb,lev * 4,none⟩ bc b b1 path K r1 w13) (Z r00 r01 r1 b1 w13))):=by
 have hlt:lev < P.length:=by omega
 have hl:(P.flatMap StV.cs).length=P.length * 4:=flat_len' (stCs_len P)
 obtain ⟨pb,rest,hpa,hpb0,hh,_,_⟩:=O.pth.own.place (by intro e; rw [e] at hl; simp at hl; omega)
 have hpblk:path.blk=some pb:=by simp [Sl.blk,hpa]
 have hpl:=blt hh
 have hbl:=blt gb
 have hcl:=blt gc
 have hnd:=(O.pth.nd _ (List.getElem_mem hlt)).nd
 refine ⟨pb,hpa,leaf_cell O.pth hpa hlt (by decide) rfl,leaf_cell O.pth hpa hlt (by decide) rfl,hnd,?_⟩
 rintro x rfl
 have er:=hnd.get hidx
 have hS:SubT M.f t lev r kvs ps:=by
  rcases hTr with ⟨h,_⟩ | ⟨_,_,h⟩
  .exact (hr h).elim
  .simpa using h
 have hkk:=hS.keys _ (List.getElem_mem hak)
 have hkv:kvGet kvs (P[lev]'hlt).L[idx].2.key=some kvs[ak].2:=by
  rw [hkey]; exact (kvGet_mem hTr.sort (x:=kvs[ak])).1 (List.getElem_mem hak)
 have fin:∀(w12:World)(b1:Nat)(ks vs:Sl),Ext No w w12->OwnB w12.heap w.heap.size ks kvs[ak].1->OwnB w12.heap w.heap.size vs kvs[ak].2->(∀ q,ks.blk=some q->vs.blk≠some q)->w12.heap[b1]? = some (.cells [.slice ks.a ks.len ks.cap, .slice vs.a vs.len vs.cap].toArray 70 (0,0))->w.heap.size<=b1->StepTail g ⟨pb,lev * 4,none⟩ bc b b1 path K 0 w12:=fun w12 b1 ks vs x ok ov dj g1 hb1=>by
  have hP12:=(O.pth.mono (X':=fun q=>q=bc∨(q=b∨X q∨w.heap.size<=q)) fun q h1 h2=>h2.imp id fun h3=>h3.imp id fun h4=>h4.resolve_right (by omega)).no x
  refine step_tail (X:=fun q=>q=b∨X q∨w.heap.size<=q) hP12 hpa hn (fun q hq=>?_) hg hi' (get_no gc x) g1 (get_no gb x) hz (.inl rfl) hbne (by omega) fun w' hP' gc' x'=>?_
  .have:=O.blk q hq
   rw [hpblk] at hq; cases hq
   exact ⟨this.1,fun h=>h.elim this.2.1 fun h=>h.elim this.2.2 fun h=>by omega⟩
  have nk:∀{s:Sl}{l:List Int},OwnB w12.heap w.heap.size s l->∀ q,s.blk=some q->¬ (q=pb∨q=bc∨q=b):=fun o q hq h=>by have:=(o.lt hq).1; omega
  refine k0 ks vs w' (ok.ext x' (nk ok)) (ov.ext x' (nk ov)) dj ⟨hbc,fun h=>?_,path,gc', .inr ⟨hr,_,hP'.mono fun q _ h=>h.imp id fun h => .inr ?_,fun q hq=>?_,fun j hj=>?_,hA'⟩⟩ ((x.of_no).trans x' fun q hq h=>?_)
  .rcases h with h | h | h
   .exact hXc h
   .have:=(ok.lt h).1; omega
   .have:=(ov.lt h).1; omega
  .rcases h with h | h | h
   .exact .inl h
   .exact .inr (ok.lt h).1
   .exact .inr (ov.lt h).1
  .have h1:=O.blk q hq
   rw [hpblk] at hq; cases hq
   exact ⟨h1.1,fun h=>h.elim h1.2.2 fun h=>h.elim (fun h=>by have:=(ok.lt h).1; omega) fun h=>by have:=(ov.lt h).1; omega⟩
  .have htl:(P.take lev).length=lev:=by rw [List.length_take]; omega
   rcases Nat.lt_or_ge j lev with h | h
   .rw [List.getElem_append_left (by omega),List.getElem_take]; exact O.lv j (by omega)
   .have:j=lev:=by simp at hj; omega
    subst this
    rw [List.getElem_append_right (by omega)]
    have:=O.lv _ hlt
    simpa [htl] using this
  .have hpX:=(O.blk pb hpblk).2.2
   rcases h with h | h | h
   .exact ⟨by omega,by rw [h]; exact hpX⟩
   .exact ⟨by omega,by rw [h]; exact hXc⟩
   .exact ⟨by omega,by rw [h]; exact hXb⟩
 have Rd':MemR (drewW w).heap T m M:=R
 refine ⟨?_,?_⟩
 .refine cpair_spec (w:=drewW w) Rd' hTr (by omega) gc er (by rw [hkey]; exact ⟨hkk.1,hkk.2.1⟩) (by rw [hkey]; exact hkk.2.2) hkv fun ks vs w10 ok ov dj x10=>⟨x10.drew_left,NewW.mk fun b1 w11 n11=>⟨x10.drew_left.no n11.ext,?_⟩⟩
  have x010:Ext No w w10:=x10.drew_left
  have y10:=x010.size
  have hb1:=n11.at_
  rw [hkey] at ok
  refine st_all n11.get rfl rfl (by simp [oneC]) fun w12 g12 x12 _=>?_
  have x12':Ext (·=b1) w11 w12:=x12
  have x012:=(x010.no n11.ext).trans x12' fun q hq h=>by omega
  exact ⟨x012,If.yes <| fin w12 b1 ks vs x012 ((ok.no n11.ext).ext x12' fun q hq h=>by have:=(ok.lt hq).2; omega) ((ov.no n11.ext).ext x12' fun q hq h=>by have:=(ov.lt hq).2; omega) dj g12 (by omega)⟩
 .refine NewW.mk fun b1 w11 n11=>?_
  have x011:Ext No w w11:=n11.ext.drew_left
  have hb1:b1=w.heap.size:=n11.at_
  have z11:w11.heap.size=w.heap.size+1:=n11.size
  refine ⟨x011,cpair_spec (R.no x011) hTr (by omega) (get_no gc x011) (er.no x011) (by rw [hkey]; exact ⟨hkk.1,hkk.2.1⟩) (by rw [hkey]; exact hkk.2.2) hkv fun ks vs w12 ok ov dj x12=>⟨x011.no x12,?_⟩⟩
  rw [hkey] at ok
  refine st_all (get_no n11.get x12) rfl rfl (by simp [oneC]) fun w13 g13 x13 _=>?_
  have x13':Ext (·=b1) w12 w13:=x13
  have x013:=(x011.no x12).trans x13' fun q hq h=>by omega
  exact ⟨x013,If.yes <| fin w13 b1 ks vs x013 ((ok.ext x13' fun q hq h=>by have:=(ok.lt hq).1; omega).mono (by omega)) ((ov.ext x13' fun q hq h=>by have:=(ov.lt hq).1; omega).mono (by omega)) dj g13 (by omega)⟩
theorem curR_on{n0 bc b a:Nat}{w1:World}{t:Int}{lev:Nat}{kvs:List KV}{p:Sl}{P:List StV}(x:Ext No w w1)(hb:w.heap.size<=b){X:Nat->Prop}(hP:PthX w.heap n0 (fun q=>q=bc∨X q) p P)(hp:∀ q,p.blk=some q->q≠bc/\¬ X q)(hv:∀ j (hj:j < P.length),P[j].v=((lev - j:Nat):Int))(hA:PathP M.f t lev kvs (P.map StV.abs) a):OnP w1 n0 bc b X M.f t lev a kvs p P :=
 ⟨(hP.mono (X':=fun q=>q=bc∨(q=b∨X q)) fun q h1 h2=>h2.imp id fun h=>h.resolve_left (by omega)).no x,fun q hq=>⟨(hp q hq).1,by have:=(hP.own.lt hq).2; omega,(hp q hq).2⟩,hv,hA⟩
set_option maxHeartbeats 2000000 in
theorem next_spec{n0 bc:Nat}{X:Nat->Prop}{t:Int}{r:Rf}{lev a:Nat}{kvs:List KV}{ps:List Rf}{K:Sl->Sl->Int->World->Prop}(R:MemR w.heap T m M)(hn0:n0<=w.heap.size)(hTr:TreeT M.f t r lev kvs ps)(hlev:lev<=30)(c:CurR w.heap n0 X M.f m t r lev bc kvs a)(hX:∀ q,X q->q < w.heap.size)
  (k7:a=kvs.length->∀ w',CurR w'.heap n0 X M.f m t r lev bc kvs a->Ext No w w'->K ⟨none,0,0⟩ ⟨none,0,0⟩ 7 w')
  (k0:∀(h:a < kvs.length) ks vs w',OwnB w'.heap w.heap.size ks kvs[a].1->OwnB w'.heap w.heap.size vs kvs[a].2->(∀ q,ks.blk=some q->vs.blk≠some q)->CurR w'.heap n0 (fun q=>X q∨ks.blk=some q∨vs.blk=some q) M.f m t r lev bc kvs (a+1)->Ext (fun q=>n0<=q/\¬ X q) w w'->K ks vs 0 w'):C_scan_Cursor_Next (some ⟨bc,0,none⟩) w K:=by
 apply S_scan_Cursor_Next
 refine NewW.mk fun b w1 n1=>?_
 have c0:=c
 obtain ⟨hbc,hXc,p,gc,hcase⟩:=c
 have hb:=n1.at_; have z1:=n1.size
 have hbl:=blt gc
 have gc1:=get_no gc n1.ext
 refine ⟨fun w'=>w'=w1,If.no (Nn.mk ⟨_,Cell.lst gc1 rfl,trivial,If.no rfl⟩),?_⟩
 rintro _ w4 rfl
 refine Nn.mk ⟨p,Cell.lst gc1 rfl,?_⟩
 have R1:=R.no n1.ext
 -- what the path is
 refine ⟨fun path w'=>Ext No w4 w'/\((path.len=0/\a=kvs.length)∨r ≠ .z/\∃ P,∃ hn:P.length=lev+1,OnP w' n0 bc b X M.f t lev a kvs path P/\(P[lev]'(by omega)).i < (P[lev]'(by omega)).L.length),?_,?_⟩
 .rcases hcase with ⟨h1,h2,h3,h4,h5⟩ | ⟨hr,P,hP,hp,hv,hA⟩
  .refine ⟨fun tt w'=>tt=false/\Ext No w4 w',⟨Ext No w4,(Ext.refl _ _).drew,If.dec (fun h=>by rw [h4] at h; simp at h) fun h=>⟨rfl,(Ext.refl _ _).drew⟩⟩,?_⟩
   rintro _ tt w5 ⟨rfl,x5⟩
   exact If.no ⟨x5, .inl ⟨by rw [h4],by rw [h5,h3]; rfl⟩⟩
  .obtain ⟨hn,b',hlast,hne,hil,ha,hb2,hkey,hmv⟩:=leaf_of hA
   have hlt:lev < P.length:=by omega
   have O4:=curR_on (b:=b) n1.ext (by omega) hP hp hv hA
   have hpl:=O4.pth.len
   have hl:(P.flatMap StV.cs).length=P.length * 4:=flat_len' (stCs_len P)
   obtain ⟨pb,rest,hpa,hpb0,hh,_,_⟩:=O4.pth.own.place (by intro e; rw [e] at hl; simp at hl; omega)
   have t1:(p.len:Int) - 1=(lev:Int):=by omega
   have ixp:∀{K:Addr->Prop},K ⟨pb,lev * 4,none⟩->Ix p.a p.len ((p.len:Int) - 1) 4 K:=fun hk=>⟨_,hpa,by omega,by omega,by rw [t1,Int.toNat_natCast,addr_add_none rfl,Nat.zero_add]; exact hk⟩
   refine ⟨fun tt w'=>tt=((P[lev].i:Int) == (P[lev].s.len:Int))/\Ext No w4 w',⟨Ext No w4,(Ext.refl _ _).drew,If.dec (fun _=>Ar.i64 (by omega) (ixp ⟨_,Held.cell (leaf_cell O4.pth hpa hlt (by decide) rfl),Ar.i64 (by omega) (ixp ⟨_,Held.cell (leaf_cell O4.pth hpa hlt (by decide) rfl),rfl,(Ext.refl _ _).drew⟩)⟩)) fun h=>by omega⟩,?_⟩
   rintro _ tt w5 ⟨rfl,x5⟩
   have hsl:=(O4.pth.nd _ (List.getElem_mem hlt)).nd.len
   have hX5:=x5.size
   refine If.beq (fun he=>?_) fun he=>?_
   .refine over_spec (X:=fun q=>q=b∨X q) (p:=p) (P:=P) (.inl rfl) (R1.no x5) (by omega) hlev (get_no gc1 x5) (O4.pth.no x5) (fun q h=>h.elim (fun h=>by omega) fun h=>by have:=hX q h; omega) hv hA (fun x hx=>?_) first_ok first_goal (fun kv a h=>by rw [if_pos rfl]; exact h) (fun w6 ha6 x6=>If.bne (fun h=>(h rfl).elim) fun _=>⟨x5.no x6, .inl ⟨rfl,by rw [if_pos rfl] at ha6; exact ha6⟩⟩) fun s P' w6 hP6 hs6 hv6 hA6 hl6 x6=>If.bne (fun h=>(h rfl).elim) fun _=>⟨x5.no x6, .inr ⟨hr,P',by have:=hA6.len; simpa using this,⟨hP6,fun q hq=>⟨by have:=hs6 q hq; omega,by have:=hs6 q hq; omega,fun h=>by have:=hX q h; have:=hs6 q hq; omega⟩,hv6,hA6⟩,?_⟩⟩
    .rw [hlast] at hx; cases hx
     rw [if_pos rfl]
     show P[lev].i=(ents P[lev].L).length
     simp; omega
    .obtain ⟨hn6,_,hlast6,hne6,_⟩:=leaf_of hA6
     have:=hl6 _ hlast6
     rw [if_pos rfl] at this
     have h0:P'[lev].i=0:=this.2
     rw [h0]; exact List.length_pos_iff.2 hne6
   .exact ⟨x5, .inr ⟨hr,P,hn,⟨O4.pth.no x5,O4.blk,hv,hA⟩,by omega⟩⟩
 rintro _ path w8 ⟨x8,hst⟩
 have y8:=x8.size
 have g8:=get_no n1.get x8
 have gc8:=get_no gc1 x8
 have x08:Ext No w w8:=n1.ext.no x8
 rcases hst with ⟨hp0,ha⟩ | ⟨hr,P,hn,O,hi⟩
 .refine If.beq (fun _=>pair0 g8 rfl fun w9 x9=>?_) fun h=>by omega
  have x9':Ext (·=b) w8 w9:=x9
  have x09:=x08.trans x9' fun q hq h=>by omega
  exact k7 ha w9 (c0.no x09) x09
 .have hpl:=O.pth.len
  have hlt:lev < P.length:=by omega
  obtain ⟨_,b',hlast,hne,hil,ha,hb2,hkey,hmv⟩:=leaf_of O.at_
  have hak:a < kvs.length:=by omega
  have hk2:=hkey P[lev].i hi (by omega)
  have hsm:=O.pth.sm _ (List.getElem_mem hlt)
  have em:b'+(P[lev].i+1)=a+1:=by omega
  obtain ⟨pb,hpa,hc2,hc3,hnd,hbody⟩:=step_end (b:=b) (g:=fun v=>v+1) (idx:=P[lev].i) (i':=P[lev].i+1) (R.no x08) hTr hr hlev hbc (by omega) gc8 g8 rfl (by omega) (fun h=>by have:=hX b h; omega) hXc O hn hi (by simp) (by omega) a hak (by rw [hk2]; congr 2; omega) (a+1) (by rw [<- em]; exact hmv _ (by omega)) (K:=K) fun ks vs w' ok ov dj c' x'=>k0 hak ks vs w' (ok.mono x08.size) (ov.mono x08.size) dj c' (x08.of_no.trans x' fun q _ h=>h)
  have t1:(path.len:Int) - 1=(lev:Int):=by omega
  have ixp:∀{K:Addr->Prop},K ⟨pb,lev * 4,none⟩->Ix path.a path.len ((path.len:Int) - 1) 4 K:=fun hk=>⟨_,hpa,by omega,by omega,by rw [t1,Int.toNat_natCast,addr_add_none rfl,Nat.zero_add]; exact hk⟩
  refine If.beq (fun h=>by omega) fun _=>Ar.i64 (by omega) (ixp ⟨Ext No w8,(Ext.refl _ _).drew,Nn.mk ⟨_,Held.cell hc2,Nn.mk ⟨_,Held.cell hc3,Ix.elem hnd.rd (entCs_len _) (by decide) (by omega) (by have:=hnd.len; omega) fun bb o _ _ hc=>?_⟩⟩⟩)
  simp only [Int.toNat_natCast] at hc
  exact ⟨_,Held.cell (hc 0 _ rfl),_,Held.cell (hc 1 _ rfl),_,Held.cell (hc 2 _ rfl),_,Held.cell (hc 3 _ rfl),_,Held.cell (hc 4 _ rfl),_,Held.cell (hc 5 _ rfl),_,Held.cell (hc 6 _ rfl),_,Held.cell (hc 7 _ rfl),_,Held.cell (hc 8 _ rfl),hbody rfl⟩
set_option maxHeartbeats 2000000 in
theorem prev_spec{n0 bc:Nat}{X:Nat->Prop}{t:Int}{r:Rf}{lev a:Nat}{kvs:List KV}{ps:List Rf}{K:Sl->Sl->Int->World->Prop}(R:MemR w.heap T m M)(hn0:n0<=w.heap.size)(hTr:TreeT M.f t r lev kvs ps)(hlev:lev<=30)(c:CurR w.heap n0 X M.f m t r lev bc kvs a)(hX:∀ q,X q->q < w.heap.size)
  (k7:a=0->∀ w',CurR w'.heap n0 X M.f m t r lev bc kvs a->Ext No w w'->K ⟨none,0,0⟩ ⟨none,0,0⟩ 7 w')
  (k0:∀(h:a - 1 < kvs.length) ks vs w',1<=a->OwnB w'.heap w.heap.size ks kvs[a - 1].1->OwnB w'.heap w.heap.size vs kvs[a - 1].2->(∀ q,ks.blk=some q->vs.blk≠some q)->CurR w'.heap n0 (fun q=>X q∨ks.blk=some q∨vs.blk=some q) M.f m t r lev bc kvs (a - 1)->Ext (fun q=>n0<=q/\¬ X q) w w'->K ks vs 0 w'):C_scan_Cursor_Prev (some ⟨bc,0,none⟩) w K:=by
 apply S_scan_Cursor_Prev
 refine NewW.mk fun b w1 n1=>?_
 have c0:=c
 obtain ⟨hbc,hXc,p,gc,hcase⟩:=c
 have hb:=n1.at_; have z1:=n1.size
 have hbl:=blt gc
 have gc1:=get_no gc n1.ext
 refine ⟨fun w'=>w'=w1,If.no (Nn.mk ⟨_,Cell.lst gc1 rfl,trivial,If.no rfl⟩),?_⟩
 rintro _ w4 rfl
 refine Nn.mk ⟨p,Cell.lst gc1 rfl,?_⟩
 have R1:=R.no n1.ext
 -- what the path is
 refine ⟨fun path w'=>Ext No w4 w'/\((path.len=0/\a=0)∨r ≠ .z/\∃ P,∃ hn:P.length=lev+1,OnP w' n0 bc b X M.f t lev a kvs path P/\1<=(P[lev]'(by omega)).i),?_,?_⟩
 .rcases hcase with ⟨h1,h2,h3,h4,h5⟩ | ⟨hr,P,hP,hp,hv,hA⟩
  .refine ⟨fun tt w'=>tt=false/\Ext No w4 w',If.dec (fun h=>by rw [h4] at h; simp at h) fun h=>⟨rfl,Ext.refl _ _⟩,?_⟩
   rintro _ tt w5 ⟨rfl,x5⟩
   exact If.no ⟨x5, .inl ⟨by rw [h4],h5⟩⟩
  .obtain ⟨hn,b',hlast,hne,hil,ha,hb2,hkey,hmv⟩:=leaf_of hA
   have hlt:lev < P.length:=by omega
   have O4:=curR_on (b:=b) n1.ext (by omega) hP hp hv hA
   have hpl:=O4.pth.len
   have hl:(P.flatMap StV.cs).length=P.length * 4:=flat_len' (stCs_len P)
   obtain ⟨pb,rest,hpa,hpb0,hh,_,_⟩:=O4.pth.own.place (by intro e; rw [e] at hl; simp at hl; omega)
   have t1:(p.len:Int) - 1=(lev:Int):=by omega
   have ixp:∀{K:Addr->Prop},K ⟨pb,lev * 4,none⟩->Ix p.a p.len ((p.len:Int) - 1) 4 K:=fun hk=>⟨_,hpa,by omega,by omega,by rw [t1,Int.toNat_natCast,addr_add_none rfl,Nat.zero_add]; exact hk⟩
   refine ⟨fun tt w'=>tt=((P[lev].i:Int) == 0)/\Ext No w4 w',If.dec (fun _=>Ar.i64 (by omega) (ixp ⟨_,leaf_cell O4.pth hpa hlt (by decide) rfl,rfl,Ext.refl _ _⟩)) fun h=>by omega,?_⟩
   rintro _ tt w5 ⟨rfl,x5⟩
   have hsl:=(O4.pth.nd _ (List.getElem_mem hlt)).nd.len
   have hX5:=x5.size
   refine If.beq (fun he=>?_) fun he=>?_
   .refine over_spec (X:=fun q=>q=b∨X q) (p:=p) (P:=P) (.inr rfl) (R1.no x5) (by omega) hlev (get_no gc1 x5) (O4.pth.no x5) (fun q h=>h.elim (fun h=>by omega) fun h=>by have:=hX q h; omega) hv hA (fun x hx=>?_) last_ok last_goal (fun kv a h=>by rw [if_neg (by decide)]; exact h) (fun w6 ha6 x6=>If.bne (fun h=>(h rfl).elim) fun _=>⟨x5.no x6, .inl ⟨rfl,by rw [if_neg (by decide)] at ha6; exact ha6⟩⟩) fun s P' w6 hP6 hs6 hv6 hA6 hl6 x6=>If.bne (fun h=>(h rfl).elim) fun _=>⟨x5.no x6, .inr ⟨hr,P',by have:=hA6.len; simpa using this,⟨hP6,fun q hq=>⟨by have:=hs6 q hq; omega,by have:=hs6 q hq; omega,fun h=>by have:=hX q h; have:=hs6 q hq; omega⟩,hv6,hA6⟩,?_⟩⟩
    .rw [hlast] at hx; cases hx
     rw [if_neg (by decide)]
     show P[lev].i=0
     omega
    .obtain ⟨hn6,_,hlast6,hne6,_⟩:=leaf_of hA6
     have:=hl6 _ hlast6
     rw [if_neg (by decide)] at this
     have h0:P'[lev].i=(ents P'[lev].L).length:=this.2
     have h7:=List.length_pos_iff.2 hne6
     simp at h0; omega
   .exact ⟨x5, .inr ⟨hr,P,hn,⟨O4.pth.no x5,O4.blk,hv,hA⟩,by omega⟩⟩
 rintro _ path w8 ⟨x8,hst⟩
 have y8:=x8.size
 have g8:=get_no n1.get x8
 have gc8:=get_no gc1 x8
 have x08:Ext No w w8:=n1.ext.no x8
 rcases hst with ⟨hp0,ha⟩ | ⟨hr,P,hn,O,hi⟩
 .refine If.beq (fun _=>pair0 g8 rfl fun w9 x9=>?_) fun h=>by omega
  have x9':Ext (·=b) w8 w9:=x9
  have x09:=x08.trans x9' fun q hq h=>by omega
  exact k7 ha w9 (c0.no x09) x09
 .have hpl:=O.pth.len
  have hlt:lev < P.length:=by omega
  obtain ⟨_,b',hlast,hne,hil,ha,hb2,hkey,hmv⟩:=leaf_of O.at_
  have hak:a - 1 < kvs.length:=by omega
  have hk2:=hkey (P[lev].i - 1) (by omega) (by omega)
  have hsm:=O.pth.sm _ (List.getElem_mem hlt)
  have em:b'+(P[lev].i - 1)=a - 1:=by omega
  obtain ⟨pb,hpa,hc2,hc3,hnd,hbody⟩:=step_end (b:=b) (g:=fun v=>v - 1) (idx:=P[lev].i - 1) (i':=P[lev].i - 1) (R.no x08) hTr hr hlev hbc (by omega) gc8 g8 rfl (by omega) (fun h=>by have:=hX b h; omega) hXc O hn (by omega) (by show (P[lev].i:Int) - 1=_; omega) (by omega) (a - 1) hak (by rw [hk2]; congr 2) (a - 1) (by rw [<- em]; exact hmv _ (by omega)) (K:=K) fun ks vs w' ok ov dj c' x'=>k0 hak ks vs w' (by omega) (ok.mono x08.size) (ov.mono x08.size) dj c' (x08.of_no.trans x' fun q _ h=>h)
  have t1:(path.len:Int) - 1=(lev:Int):=by omega
  have ixp:∀{K:Addr->Prop},K ⟨pb,lev * 4,none⟩->Ix path.a path.len ((path.len:Int) - 1) 4 K:=fun hk=>⟨_,hpa,by omega,by omega,by rw [t1,Int.toNat_natCast,addr_add_none rfl,Nat.zero_add]; exact hk⟩
  refine If.beq (fun h=>by omega) fun _=>Ar.i64 (by omega) (ixp ⟨Ext No w8,(Ext.refl _ _).drew,Nn.mk ⟨_,Held.cell hc2,Nn.mk ⟨_,Held.cell hc3,Ar.i64 (by omega) (Ix.elem hnd.rd (entCs_len _) (by decide) (by omega) (by have:=hnd.len; omega) fun bb o _ _ hc=>?_)⟩⟩⟩)
  have et:((P[lev].i:Int) - 1).toNat=P[lev].i - 1:=by omega
  simp only [et] at hc
  exact ⟨_,Held.cell (hc 0 _ rfl),_,Held.cell (hc 1 _ rfl),_,Held.cell (hc 2 _ rfl),_,Held.cell (hc 3 _ rfl),_,Held.cell (hc 4 _ rfl),_,Held.cell (hc 5 _ rfl),_,Held.cell (hc 6 _ rfl),_,Held.cell (hc 7 _ rfl),_,Held.cell (hc 8 _ rfl),hbody rfl⟩
end
end Go.Proofs.YtcamoanigdfihaaGreat
set_option maxRecDepth 100000
namespace Go.V
section
variable {f:Pages} {t:Int}
end
end Go.V
namespace Go.Proofs.YtcamoanigdfihaaGreat
open Go.V
section
variable {w:World} {T:Nat->Option Nat} {m:MemV} {M:Mm}
theorem lit1{c:Int}{K:Sl->World->Prop}(k:∀ b w',RdB w'.heap ⟨some ⟨b,0,none⟩,1,1⟩ [c]->w.heap.size<=b->b < w'.heap.size->Ext No w w'->K ⟨some ⟨b,0,none⟩,1,1⟩ w') :
  NewW w (.cells [.int .u8 c].toArray 5) fun b w2=>∃ r:Sl,∃ w3,Sem.run Tryz.prog (convert 40 40 (.slice (some (Addr.mk b 0 none)) 1 1)) w2 = .ok (.slice r.a r.len r.cap) w3/\K r w3:=by
 refine NewW.mk fun b w2 n2=>?_
 obtain ⟨w3,h1,x3,z3,fz,g3⟩:=conv40 (n:=1) (c:=1) n2.get
 have hb:=n2.at_; have z2:=n2.size
 refine ⟨⟨some ⟨b,0,none⟩,1,1⟩,w3,h1,k b w3 ⟨rfl,by simp,fun _=>⟨b,0,rfl,fun i hi=>?_⟩,by simp [oneC]⟩ (by omega) (by omega) (n2.ext.trans x3 fun q hq h=>by omega)⟩
 unfold hcell; rw [g3]
 simp only [List.map_cons,List.map_nil,List.length_cons,List.length_nil] at hi
 have:i=0:=by omega
 subst this; rfl
end
end Go.Proofs.YtcamoanigdfihaaGreat
set_option maxRecDepth 100000
namespace Go.V
end Go.V
namespace Go.Proofs.YtcamoanigdfihaaGreat
open Go.V
section
variable {w:World} {T:Nat->Option Nat} {m:MemV} {M:Mm}
theorem cellOf{b o:Nat}{v:Value}(h:hcell w.heap b o=some v):Cell w ⟨b,o,none⟩ v:=by show w.cell? _=_; rw [cell_eq]; exact h
structure Built(w w':World)(T:Nat->Option Nat)(m:MemV)(M:Mm)(ys:List OpV)(r:Rf)(lev:Nat)(ps:List Rf)(s:Sl)(L:List Pr):Prop where
 mem:MemR w'.heap T m M
 tg:∀ q,q < w.heap.size->T q=none
 tree:TreeT M.f 5 r lev (opsL ys []) ps
 lv:lev<=30
 prs:PrsR w'.heap (fun q=>T q=none/\q < w'.heap.size) s L
 sb:∀ q,s.blk=some q->T q=none/\q < w'.heap.size
 kv:kvsOf L=opsL ys []
 chg:ChgW ⟨[],1,1⟩ M (60 * ys.length) [] ps
 ext:Ext No w w'
set_option maxHeartbeats 1000000 in
theorem built_spec{l:Sl}{xs:List OpV}{K:Option Addr->Int->Int->Int->Int->Sl->Bool->World->Prop}(hl:Rd w.heap l 3 (xs.flatMap OpV.cs))(hx:∀ x∈xs,OpA w.heap x)(hn:xs.length<=1000)
  (k:∀ T m M r lev ps s L w',Built w w' T m M (xs.filter fun x=>decide x.fit) r lev ps s L->K (some ⟨m.bm,0,none⟩) r.p r.c r.g (lev:Nat) s true w'):C_law16_built l w K:=by
 apply S_law16_built
 have hol:l.len=xs.length:=by have:=hl.len; rw [flat_len' (opCs_len xs)] at this; omega
 refine NewW.mk fun b0 w1 n1=>?_
 have hb0:=n1.at_; have z1:=n1.size
 refine ⟨fun q out tt w'=>∃ (j:Nat) (ys:List OpV),tt=j/\j<=xs.length/\q=xs.length - j/\ys=(xs.take j).filter (fun x=>decide x.fit)/\ys.length<=j/\Own w'.heap w.heap.size 58 3 out (ys.flatMap OpV.cs)/\Ext No w1 w'/\(∀ q,out.blk=some q->w1.heap.size<=q),⟨xs.length,0,[],rfl,by omega,by omega,rfl,by simp,Own.nil _ _ _ _,Ext.refl _ _,by simp [Sl.blk]⟩,?_⟩
 rintro _ m0 out tt w2 ⟨j,ys,rfl,hj,hq,hys,hyl,o2,x12,hob⟩
 have x2:=n1.ext.no x12
 refine If.dec (fun h=>?_) fun h=>?_
 .have hjl:j < xs.length:=by omega
  refine Ix.elem (hl.no x2) (opCs_len xs) (by decide) (by omega) h fun bb o hi _ hc=>?_
  simp only [Int.toNat_natCast] at hi hc
  have ox:=hx _ (List.getElem_mem hjl)
  refine ⟨_,hc 0 _ rfl,_,hc 1 _ rfl,_,hc 2 _ rfl,refRight_spec (RdB.len ox.k) (RdB.len ox.v) fun w3 x3=>?_⟩
  have tk:(xs.take (j+1)).filter (fun x=>decide x.fit)=ys++if xs[j].fit then [xs[j]] else []:=by
   rw [List.take_add_one,List.getElem?_eq_getElem hjl,Option.toList_some,List.filter_append,<- hys,List.filter_cons]
   by_cases hf:xs[j].fit <;> simp [hf]
  refine If.dec (fun hf=>?_) fun hf=>?_
  .rw [if_pos hf] at tk
   refine Ix.elem (hl.no (x2.no x3)) (opCs_len xs) (by decide) (by omega) h fun bb o hi _ hc=>?_
   simp only [Int.toNat_natCast] at hi hc
   refine ⟨_,hc 0 _ rfl,_,hc 1 _ rfl,_,hc 2 _ rfl,NewW.mk fun b w4 n4=>?_⟩
   have o4:=(o2.no x3).no n4.ext
   have e4:Own w4.heap w3.heap.size 58 3 ⟨some ⟨b,0,none⟩,1,1⟩ xs[j].cs:=Own.new (n:=1) (sz:=3) n4 rfl (opOne _)
   have hyo:out.len=ys.length:=by have:=o2.len; rw [flat_len' (opCs_len ys)] at this; omega
   have s4:=((x2.no x3).no n4.ext).size
   have s14:=((x12.no x3).no n4.ext).size
   refine app_api_Op o4 s4 e4.rd.src (by show (out.len+1) * 56<=_; omega) fun s' w5 o5 _ x5 hbl=>Ar.i64 (by omega) ⟨xs.length - (j+1),by omega,j+1,ys++[xs[j]],by omega,by omega,rfl,tk.symm,by simp; omega,?_,?_,fun q hq=>?_⟩
   .rw [List.flatMap_append]
    have:[xs[j]].flatMap OpV.cs=xs[j].cs:=by simp
    rw [this]; exact o5
   .exact ((x12.no x3).no n4.ext).trans x5 fun q hq h=>by have:=hob q h; omega
   .rcases hbl with h | ⟨c,h,hc'⟩
    .rw [h] at hq; exact hob q hq
    .rw [h] at hq; cases hq; omega
  .rw [if_neg hf,List.append_nil] at tk
   exact Ar.i64 (by omega) ⟨xs.length - (j+1),by omega,j+1,ys,by omega,by omega,rfl,tk.symm,by omega,o2.no x3,x12.no x3,hob⟩
 .have hjl:j=xs.length:=by omega
  rw [hjl,List.take_length] at hys
  subst hys
  generalize hys:(xs.filter fun x=>decide x.fit)=ys at *
  have hmem:∀ x∈ys,x∈xs/\x.fit:=fun x hx=>by rw [<- hys] at hx; have:=List.mem_filter.1 hx; exact ⟨this.1,of_decide_eq_true this.2⟩
  have hy:∀ x∈ys,OpA w2.heap x:=fun x h=>(hx x (hmem x h).1).no x2
  have g2:=get_no n1.get x12
  have b0l:=blt g2
  refine newMem_spec (by omega) fun T m w6 R6 hT x6=>?_
  refine apply_spec (t:=5) (lev:=0) (r := .z) (kvs:=[]) (ps:=[]) R6 (.inl ⟨rfl,rfl,rfl,rfl⟩) (by omega) (fun q=>by simp) (o2.no x6).rd (fun x h=>(hy x h).r x6 hT) (by omega) (by simp) (fun w' hb _=>?_) fun ra la pa T7 m7 M7 w7 _ A=>?_
  .obtain ⟨x,hx',hf⟩:=hb; exact (hf (hmem x hx').2).elim
  obtain ⟨R7,hbm7,tg7,x7,tr7,hlv7,cg7⟩:=A
  have y6:=x6.size; have y7:=x7.size
  have x27:Ext No w2 w7:=x6.trans x7 fun q hq h=>h (hT q hq)
  have hT7:∀ q,q < w2.heap.size->T7 q=none:=fun q hq=>by rw [tg7 q (by omega)]; exact hT q hq
  refine new_set rfl rfl (by simp [oneC]) fun b2 w9 g9 hb2 z9 x9=>?_
  have x29:=x27.no x9
  have R9:=R7.no x9
  have gb9:=get_no g2 x29
  have y9:=x9.size
  have nb2:¬ b2=b0:=by omega
  refine ⟨Ext (·=b0) w9,(Ext.refl _ _).drew,_,Held.but (Cell.lst g9 rfl) nb2,_,Held.but (Cell.lst g9 rfl) nb2,_,Held.but (Cell.lst g9 rfl) nb2,_,Held.but (Cell.lst g9 rfl) nb2,?_⟩
  have x29d:Ext No w2 (drewW w9):=x29.drew
  refine refApply_spec (w:=drewW w9) (Q:=No) (l:=[]) ⟨Rd.nil _ _,by simp⟩ .nil ((o2.no x29d).rd) (fun x h=>(hy x h).no x29d) (fun x h=>(hmem x h).2) (by simp; omega) fun s L w10 hPr hsb hkv hLl x10=>?_
  have x910:Ext No w9 w10:=x10.drew_left
  have y10:=x910.size
  refine ⟨x910.of_no,st_all (get_no gb9 x910) rfl rfl (by simp [oneC]) fun w11 g11 x11 _=>⟨?_,_,Cell.lst g11 rfl,_,Cell.lst g11 rfl,_,Cell.lst g11 rfl,_,Cell.lst g11 rfl,?_⟩⟩
  .have x11':Ext (·=b0) w10 w11:=x11
   exact x910.of_no.trans x11' fun _ _ h=>h
  have x11':Ext (·=b0) w10 w11:=x11
  have y11:=x11'.size
  rw [<- hbm7]
  have nT:∀ q,w9.heap.size<=q->T7 q=none:=fun q hq=>R9.supT hq
  refine k T7 m7 M7 ra la pa s L w11 ⟨(R9.no x910).ext x11' fun q hq=>by rw [hq]; exact hT7 b0 b0l,fun q hq=>hT7 q (by have:=x2.size; omega),tr7,hlv7,⟨hPr.rd.ext x11' fun a q ha hq=>?_,fun p hp=>?_⟩,fun q hq=>?_,hkv,by simpa using cg7,?_⟩
  .have:=hsb q (by simp [Sl.blk,ha,hq])
   have h9:w9.heap.size<=q:=this.1
   omega
  .refine ((hPr.pr p hp).ext x11' fun q _ h=>?_).mono fun q h1 h=>?_
   .rcases h with h | h
    .exact h.1.elim
    .have h9:w9.heap.size<=q:=h.1
     omega
   .rcases h with h | h
    .exact h.1.elim
    .exact ⟨nT q h.1,h1⟩
  .have:=hsb q hq
   exact ⟨nT q this.1,by have:=this.2; omega⟩
  .exact (x2.no (x29.no x910)).trans x11' fun q hq h=>by omega
end
end Go.Proofs.YtcamoanigdfihaaGreat
set_option maxRecDepth 100000
namespace Go.V
theorem opsL_mem{kvs:List KV}{x:KV}(ys:List OpV):x∈opsL ys kvs->x∈kvs∨∃ y∈ys,y.key=x.1/\y.val=x.2:=by
 refine snoc_ind (P:=fun l=>x∈opsL l kvs->x∈kvs∨∃ y∈l,y.key=x.1/\y.val=x.2) (fun h => .inl h) (fun l y ih h=>?_) ys
 rw [opsL_snoc] at h
 unfold kvOp kvLo kvHi at h
 have old:x∈opsL l kvs->x∈kvs∨∃ y'∈l++[y],y'.key=x.1/\y'.val=x.2:=fun h=>(ih h).imp id fun ⟨y',h1,h2⟩=>⟨y',by simp [h1],h2⟩
 rcases List.mem_append.1 h with h1 | h1
 .exact old (List.mem_filter.1 h1).1
 .rcases List.mem_append.1 h1 with h2 | h2
  .right
   refine ⟨y,by simp,?_⟩
   unfold opV at h2
   cases hd:y.d <;> rw [hd] at h2 <;> simp at h2
   rw [h2]; exact ⟨rfl,rfl⟩
  .exact old (List.mem_filter.1 h2).1
theorem CurR.more{h:Array Obj}{X X':Nat->Prop}{n0:Nat}{f:Pages}{m:MemV}{t:Int}{r:Rf}{lev bc:Nat}{kvs:List KV}{a:Nat}(c:CurR h n0 X f m t r lev bc kvs a)(hX:∀ q,X' q->X q∨h.size<=q):CurR h n0 X' f m t r lev bc kvs a:=by
 obtain ⟨hn,hx,p,hb,hc⟩:=c
 have hbl:=blt hb
 refine ⟨hn,fun e=>(hX _ e).elim hx fun h=>by omega,p,hb,?_⟩
 rcases hc with h | ⟨hr,P,hP,hp,hv,hA⟩
 .exact .inl h
 .exact .inr ⟨hr,P,hP.mono fun q hl hq=>hq.imp id fun e=>(hX q e).resolve_right (by omega),fun q hq=>⟨(hp q hq).1,fun e=>(hX q e).elim (hp q hq).2 fun h=>by have:=(hP.own.lt hq).2; omega⟩,hv,hA⟩
end Go.V
namespace Go.Proofs.YtcamoanigdfihaaGreat
open Go.V
section
variable {w:World} {T:Nat->Option Nat} {m:MemV} {M:Mm}
set_option maxHeartbeats 1000000 in
theorem known16{K:Bool->World->Prop}(k:∀ w',Ext No w w'->K true w'):C_law16_known w K:=by
 apply S_law16_known
 refine lit1 fun c1 w2 r1 hc1 hl1 x2=>lit1 fun c2 w4 r2 hc2 hl2 x4=>lit1 fun c3 w6 r3 hc3 hl3 x6=>lit1 fun c4 w8 r4 hc4 hl4 x8=>NewW.mk fun b4 w9 n9=>?_
 have x9:=n9.ext
 have x09:Ext No w w9:=(((x2.no x4).no x6).no x8).no x9
 generalize hxs:([⟨⟨some ⟨c1,0,none⟩,1,1⟩,⟨some ⟨c2,0,none⟩,1,1⟩,false,[99],[51]⟩,⟨⟨some ⟨c3,0,none⟩,1,1⟩,⟨some ⟨c4,0,none⟩,1,1⟩,false,[97],[49]⟩]:List OpV)=xs
 have hops:Rd w9.heap ⟨some ⟨b4,0,none⟩,2,2⟩ 3 (xs.flatMap OpV.cs):=by
  rw [<- hxs]; exact (Own.new n9 rfl (by simp [oneC])).rd
 have b8:∀ c:Int,0<=c->c<=255->B8 [c]:=fun c h1 h2=>by intro y hy; rw [List.mem_singleton] at hy; subst hy; omega
 have hx:∀ x∈xs,OpA w9.heap x:=fun x hx=>by
  rw [<- hxs] at hx
  simp only [List.mem_cons,List.not_mem_nil,or_false] at hx
  rcases hx with h | h <;> subst h
  .exact ⟨Rd.no r1 (((x4.no x6).no x8).no x9),Rd.no r2 ((x6.no x8).no x9),b8 _ (by decide) (by decide),b8 _ (by decide) (by decide)⟩
  .exact ⟨Rd.no r3 (x8.no x9),Rd.no r4 x9,b8 _ (by decide) (by decide),b8 _ (by decide) (by decide)⟩
 have hfl:xs.filter (fun x=>decide x.fit)=xs:=by
  rw [<- hxs]; refine List.filter_eq_self.2 fun x hx=>?_
  simp only [List.mem_cons,List.not_mem_nil,or_false] at hx
  rcases hx with h | h <;> subst h <;> simp [OpV.fit]
 have hkv:opsL xs []=[([97],[49]),([99],[51])]:=by
  rw [<- hxs]; show kvOp [97] (some [49]) (kvOp [99] (some [51]) [])=_; decide
 refine built_spec hops hx (by rw [<- hxs]; simp) fun T m M r lev ps s L w10 B=>?_
 rw [hfl] at B
 have hTr:=B.tree
 rw [hkv] at hTr
 have x010:=x09.no B.ext
 refine new_set rfl rfl (by simp [oneC]) fun b5 w12 g12 hb5 z12 x12=>⟨_,Cell.lst g12 rfl,_,Cell.lst g12 rfl,_,Cell.lst g12 rfl,_,Cell.lst g12 rfl,?_⟩
 have R12:=B.mem.no x12
 have hT:∀ q,w12.heap.size<=q->T q=none:=fun q hq=>R12.supT hq
 refine open_spec (n0:=w12.heap.size) R12 (Nat.le_refl _) hTr B.lv fun bc w13 c13 hbc x13=>?_
 refine ⟨fun w'=>w'=w13,If.not (If.yes (If.bne (fun h=>(h rfl).elim) fun _=>rfl)),?_⟩
 rintro _ w14 rfl
 have y13:=x13.size
 refine next_spec (X:=No) (R12.no x13) (by omega) hTr B.lv c13.weak (fun _ h=>h.elim) (fun h=>by simp at h) fun h0 k1 v1 w15 ok1 ov1 dj1 c15 x15=>?_
 have ok1':OwnB w15.heap w14.heap.size k1 [97]:=ok1
 have ov1':OwnB w15.heap w14.heap.size v1 [49]:=ov1
 refine new_set rfl rfl (by simp [oneC]) fun b6 w17 g17 hb6 z17 x17=>?_
 have R17:MemR w17.heap T m M:=((R12.no x13).ext x15 fun q hq=>hT q hq.1).no x17
 have y15:=x15.size; have y17:=x17.size
 have c17:=(c15.more (X':=fun q=>q=b6∨(No q∨k1.blk=some q∨v1.blk=some q)) fun q h=>h.elim (fun h => .inr (by omega)) .inl).no x17
 refine next_spec (X:=fun q=>q=b6∨(No q∨k1.blk=some q∨v1.blk=some q)) R17 (by omega) hTr B.lv c17 (fun q h=>?_) (fun h=>by simp at h) fun h1 k2 v2 w18 ok2 ov2 dj2 c18 x18=>?_
 .rcases h with h | h | h | h
  .omega
  .exact h.elim
  .have:=(ok1.lt h).2; omega
  .have:=(ov1.lt h).2; omega
 have ok2':OwnB w18.heap w17.heap.size k2 [99]:=ok2
 have g18:=get_ext g17 x18 (fun h=>h.2 (.inl rfl))
 have o18:=(ok1'.no x17).ext x18 fun q hq h=>h.2 (.inr (.inr (.inl hq)))
 have p18:=(ov1'.no x17).ext x18 fun q hq h=>h.2 (.inr (.inr (.inr hq)))
 refine new_set rfl rfl (by simp [oneC]) fun b7 w20 g20 hb7 z20 x20=>If.beq (fun _=>If.beq (fun _=>⟨_,Cell.lst (get_no g18 x20) rfl,StrC.mk (o18.no x20).rd (fun bb o v hv=>cellOf hv) ?_⟩) fun h=>(h rfl).elim) fun h=>(h rfl).elim
 rw [show (ByteArray.toList ⟨(toB [97]).toArray⟩ == ByteArray.toList (⟨#[97]⟩ : ByteArray))=true from beq_iff_eq.2 rfl]
 refine If.yes ⟨_,Cell.lst (get_no g18 x20) rfl,StrC.mk (p18.no x20).rd (fun bb o v hv=>cellOf hv) ?_⟩
 rw [show (ByteArray.toList ⟨(toB [49]).toArray⟩ == ByteArray.toList (⟨#[49]⟩ : ByteArray))=true from beq_iff_eq.2 rfl]
 refine If.yes ⟨_,Cell.lst g20 rfl,StrC.mk (ok2'.no x20).rd (fun bb o v hv=>cellOf hv) ?_⟩
 rw [show (ByteArray.toList ⟨(toB [99]).toArray⟩ == ByteArray.toList (⟨#[99]⟩ : ByteArray))=true from beq_iff_eq.2 rfl]
 have x1220:Ext (fun q=>w12.heap.size<=q) w12 w20:=(((((x13.of_no (S:=fun q=>w12.heap.size<=q)).trans x15 fun q _ h=>h.1).no x17).trans x18 fun q _ h=>h.1).no x20)
 exact k w20 ((x010.no x12).trans x1220 fun q hq h=>by have:=(x010.no x12).size; omega)
end
end Go.Proofs.YtcamoanigdfihaaGreat
set_option maxRecDepth 100000
namespace Go.V
def inR(fb tb:List Int)(x:KV):Bool:=!decide (LtB x.1 fb) && (tb.isEmpty || decide (LtB x.1 tb))
abbrev restL(kvs:List KV)(back:Bool)(a:Nat):List KV:=if back then (kvs.take a).reverse else kvs.drop a
abbrev rngL(kvs:List KV)(fb tb:List Int)(back:Bool):List KV:=(if back then kvs.reverse else kvs).filter (inR fb tb)
structure RngI(kvs:List KV)(fb tb:List Int)(back:Bool)(a n:Nat):Prop where
 hn:n<=(rngL kvs fb tb back).length
 eq:(restL kvs back a).filter (inR fb tb)=(rngL kvs fb tb back).drop n
 ok:∀ x∈restL kvs back a,if back then (tb=[]∨LtB x.1 tb) else ¬ LtB x.1 fb
theorem TreeT.keys{f:Pages}{t:Int}{r:Rf}{lev:Int}{kvs:List KV}{ps:List Rf}(h:TreeT f t r lev kvs ps):∀ x∈kvs,1<=x.1.length/\x.1.length<=32/\B8 x.1:=by
 rcases h with ⟨_,_,h,_⟩ | ⟨_,_,h⟩
 .intro x hx; rw [h] at hx; cases hx
 .exact h.keys
theorem RngI.init_f{kvs:List KV}{fb tb:List Int}{a:Nat}(hs:SortK kvs)(p:PlaceP kvs fb a):RngI kvs fb tb false a 0:=by
 refine ⟨Nat.zero_le _,?_,fun x hx=>?_⟩
 .have e:kvs.filter (inR fb tb)=(kvs.take a++kvs.drop a).filter (inR fb tb):=by rw [List.take_append_drop]
  simp only [restL,rngL,Bool.false_eq_true,if_false,List.drop_zero]
  have e0:(kvs.take a).filter (inR fb tb)=[]:=List.filter_eq_nil_iff.2 fun x hx=>by
   obtain ⟨j,hj,rfl⟩:=List.getElem_of_mem hx
   rw [List.getElem_take]
   simp only [List.length_take] at hj
   have:=p.lt j (by omega) (by omega)
   simp [inR,this]
  rw [e,List.filter_append,e0,List.nil_append]
 .simp only [Bool.false_eq_true,if_false] at hx ⊢
  simp only [restL,Bool.false_eq_true,if_false] at hx
  obtain ⟨j,hj,rfl⟩:=List.getElem_of_mem hx
  simp only [List.length_drop] at hj
  rw [List.getElem_drop]
  intro h
  have h0:=p.ge (by omega)
  rcases Nat.eq_zero_or_pos j with h1 | h1
  .subst h1; exact h0 h
  .exact h0 ((hs.lt (i:=a) (j:=a+j) (by omega) (by omega)).trans h)
theorem RngI.init_e{kvs:List KV}{fb:List Int}:RngI kvs fb [] true kvs.length 0:=by
 refine ⟨Nat.zero_le _,?_,fun x _=>by simp⟩
 simp [restL,rngL]
theorem RngI.init_b{kvs:List KV}{fb tb:List Int}{a:Nat}(hs:SortK kvs)(h0:tb≠[])(p:PlaceP kvs tb a):RngI kvs fb tb true a 0:=by
 refine ⟨Nat.zero_le _,?_,fun x hx=>?_⟩
 .have e:kvs.filter (inR fb tb)=(kvs.take a++kvs.drop a).filter (inR fb tb):=by rw [List.take_append_drop]
  simp only [restL,rngL,if_true,List.drop_zero]
  have e0:(kvs.drop a).filter (inR fb tb)=[]:=List.filter_eq_nil_iff.2 fun x hx=>by
   obtain ⟨j,hj,rfl⟩:=List.getElem_of_mem hx
   simp only [List.length_drop] at hj
   rw [List.getElem_drop]
   have hne:¬ LtB kvs[a+j].1 tb:=fun h=>by
    have h2:=p.ge (by omega)
    rcases Nat.eq_zero_or_pos j with h1 | h1
    .subst h1; exact h2 h
    .exact h2 ((hs.lt (i:=a) (j:=a+j) (by omega) (by omega)).trans h)
   simp [inR,hne,h0]
  rw [List.filter_reverse,List.filter_reverse,e,List.filter_append,e0,List.append_nil]
 .simp only [if_true]
  simp only [restL,if_true,List.mem_reverse] at hx
  obtain ⟨j,hj,rfl⟩:=List.getElem_of_mem hx
  simp only [List.length_take] at hj
  rw [List.getElem_take]
  exact .inr (p.lt j (by omega) (by omega))
theorem RngI.fin{kvs:List KV}{fb tb:List Int}{back:Bool}{a n:Nat}(r:RngI kvs fb tb back a n)(h:restL kvs back a=[]):n=(rngL kvs fb tb back).length:=by
 have:=r.eq
 rw [h] at this
 have h2:=congrArg List.length this
 simp only [List.filter_nil,List.length_nil,List.length_drop] at h2
 have:=r.hn; omega
theorem RngI.next{kvs:List KV}{fb tb:List Int}{back:Bool}{a a' n:Nat}{x:KV}(r:RngI kvs fb tb back a n)(h:restL kvs back a=x::restL kvs back a')(hx:inR fb tb x=true):∃ hn:n < (rngL kvs fb tb back).length,(rngL kvs fb tb back)[n]=x/\RngI kvs fb tb back a' (n+1):=by
 have e:=r.eq
 rw [h,List.filter_cons,if_pos hx] at e
 have hn:n < (rngL kvs fb tb back).length:=by
  have h2:=congrArg List.length e
  simp only [List.length_cons,List.length_drop] at h2; omega
 rw [List.drop_eq_getElem_cons hn] at e
 refine ⟨hn,(List.cons.inj e).1.symm,hn,(List.cons.inj e).2,fun y hy=>r.ok y (by rw [h]; exact List.mem_cons_of_mem _ hy)⟩
theorem RngI.stop{kvs:List KV}{fb tb:List Int}{back:Bool}{a n:Nat}(r:RngI kvs fb tb back a n)(h:∀ y∈restL kvs back a,inR fb tb y=false):n=(rngL kvs fb tb back).length:=by
 have e:=r.eq
 rw [List.filter_eq_nil_iff.2 fun y hy=>by simp [h y hy]] at e
 have h2:=congrArg List.length e
 simp only [List.length_nil,List.length_drop] at h2
 have:=r.hn; omega
theorem RngI.stop_f{kvs:List KV}{fb tb:List Int}{a n:Nat}(hs:SortK kvs)(r:RngI kvs fb tb false a n)(ha:a < kvs.length)(h0:tb≠[])(h:¬ LtB kvs[a].1 tb):n=(rngL kvs fb tb false).length:=by
 refine r.stop fun y hy=>?_
 simp only [restL,Bool.false_eq_true,if_false] at hy
 obtain ⟨j,hj,rfl⟩:=List.getElem_of_mem hy
 simp only [List.length_drop] at hj
 rw [List.getElem_drop]
 have hne:¬ LtB kvs[a+j].1 tb:=fun h2=>by
  rcases Nat.eq_zero_or_pos j with h1 | h1
  .subst h1; exact h h2
  .exact h ((hs.lt (i:=a) (j:=a+j) (by omega) (by omega)).trans h2)
 simp [inR,hne,h0]
theorem RngI.stop_b{kvs:List KV}{fb tb:List Int}{a n:Nat}(hs:SortK kvs)(r:RngI kvs fb tb true a n)(ha:a - 1 < kvs.length)(h1:1<=a)(h:LtB kvs[a - 1].1 fb):n=(rngL kvs fb tb true).length:=by
 refine r.stop fun y hy=>?_
 simp only [restL,if_true,List.mem_reverse] at hy
 obtain ⟨j,hj,rfl⟩:=List.getElem_of_mem hy
 simp only [List.length_take] at hj
 rw [List.getElem_take]
 have hlt:LtB kvs[j].1 fb:=by
  rcases Nat.lt_or_ge j (a - 1) with h2 | h2
  .exact (hs.lt (i:=j) (j:=a - 1) h2 ha).trans h
  .have:j=a - 1:=by omega
   subst this; exact h
 simp [inR,hlt]
theorem rest_f{kvs:List KV}{a:Nat}(h:a < kvs.length):restL kvs false a=kvs[a]::restL kvs false (a+1):=by
 simp only [restL,Bool.false_eq_true,if_false]; exact List.drop_eq_getElem_cons h
theorem rest_b{kvs:List KV}{a:Nat}(h:a - 1 < kvs.length)(h1:1<=a):restL kvs true a=kvs[a - 1]::restL kvs true (a - 1):=by
 simp only [restL,if_true]
 obtain ⟨b,rfl⟩ : ∃ b,a=b+1:=⟨a - 1,by omega⟩
 have h':b < kvs.length:=by simpa using h
 rw [List.take_add_one,List.getElem?_eq_getElem h',Option.toList_some,List.reverse_append]; simp
end Go.V
namespace Go.Proofs.YtcamoanigdfihaaGreat
open Go.V
section
variable {w:World} {T:Nat->Option Nat} {m:MemV} {M:Mm}
abbrev stepV(bc:Nat):Bool->Value
 | false => .func (.func 31) #[.pointer (some ⟨bc,0,none⟩)] #[]
 | true => .func (.func 34) #[.pointer (some ⟨bc,0,none⟩)] #[]
abbrev meaA(kvs:List KV)(a:Nat):Bool->Nat
 | false=>kvs.length - a
 | true=>a
set_option maxHeartbeats 2000000 in
theorem all1_spec{n0 bc a0 c0 c1 c2 c3 i0 i1 i2 i3:Nat}{X B:Nat->Prop}{t:Int}{r:Rf}{lev:Nat}{kvs:List KV}{ps:List Rf}{fromv to:Sl}{fb tb:List Int}{back:Bool}{yield:Value}{J:Nat->World->(Nat->Prop)->Prop}{Z:World->Prop}{K:World->Prop}
  (R:MemR w.heap T m M) (hT:∀ q,n0<=q->T q=none) (hn0:n0<=w.heap.size) (hTr:TreeT M.f t r lev kvs ps) (hlev:lev<=30) (c:CurR w.heap n0 X M.f m t r lev bc kvs a0)
  (g0:w.heap[c0]? = some (.cells [.pointer (some ⟨bc,0,none⟩)].toArray i0 (0,0))) (g1:w.heap[c1]? = some (.cells [.bool back].toArray i1 (0,0))) (g2:w.heap[c2]? = some (.cells [.slice fromv.a fromv.len fromv.cap].toArray i2 (0,0))) (g3:w.heap[c3]? = some (.cells [.slice to.a to.len to.cap].toArray i3 (0,0)))
  (hc:∀ q,q=c0∨q=c1∨q=c2∨q=c3->X q/\¬ B q) (hX:∀ q,X q->q < w.heap.size) (hB:∀ q,B q->X q/\n0<=q)
  (hf:RdB w.heap fromv fb) (f8:B8 fb) (hfq:fb≠[]->∀ q,fromv.blk=some q->q < n0) (ht:RdB w.heap to tb) (t8:B8 tb) (htq:tb≠[]->∀ q,to.blk=some q->q < n0) (hJ:J 0 w B)
  (mono:∀{j w1 w2 B' S},J j w1 B'->Ext S w1 w2->(∀ q,B' q->¬ S q)->J j w2 B')
  (step:∀ n w1 B' ks vs base (hn:n < (rngL kvs fb tb back).length) (Kr:Bool->World->Prop),J n w1 B'->OwnB w1.heap base ks (rngL kvs fb tb back)[n].1->OwnB w1.heap base vs (rngL kvs fb tb back)[n].2->(∀ q,ks.blk=some q->vs.blk≠some q)->w.heap.size<=base/\base<=w1.heap.size->(∀ q,B' q->q < base) ->
   (∀ w' B'',J (n+1) w' B''->Ext B' w1 w'->(∀ q,B'' q->(B' q∨ks.blk=some q∨vs.blk=some q∨w1.heap.size<=q)/\q < w'.heap.size)->Kr true w')->(∀ w',Z w'->Ext B' w1 w'->Kr false w') ->
   dynV Tryz.prog true yield [.agg ([.slice ks.a ks.len ks.cap, .slice vs.a vs.len vs.cap]).toArray, .int .i64 0] [.one .bool] Kr NoX w1)
  (k:∀ w',(∃ B',J (rngL kvs fb tb back).length w' B'/\∀ q,B' q->B q∨w.heap.size<=q)∨Z w'->Ext (fun q=>n0<=q/\(X q->B q)) w w'->K w'):C_scan_Cursor_all_1 yield ⟨c0,0,none⟩ ⟨c1,0,none⟩ ⟨c2,0,none⟩ ⟨c3,0,none⟩ w K:=by
 apply S_scan_Cursor_all_1
 have hs:SortK kvs:=hTr.sort
 have hbc:=c.1
 have hXbc:=c.2.1
 have hbl:bc < w.heap.size:=by obtain ⟨_,_,p,h,_⟩:=c; exact blt h
 have k0:=hc c0 (.inl rfl); have k1:=hc c1 (.inr (.inl rfl)); have k2:=hc c2 (.inr (.inr (.inl rfl))); have k3:=hc c3 (.inr (.inr (.inr rfl)))
 have nX:∀ q,X q->q≠bc:=fun q h e=>hXbc (e ▸ h)
 refine ⟨_,Cell.lst g0 rfl,?_⟩
 refine ⟨fun ev step w'=>ev=0/\step=stepV bc back/\∃ a,RngI kvs fb tb back a 0/\CurR w'.heap n0 X M.f m t r lev bc kvs a/\Ext (·=bc) w w',?_,?_⟩
 .have Rd':MemR (drewW w).heap T m M:=R
  have hsub:∀ q,X q->q < w.heap.size/\q≠bc:=fun q h=>⟨hX q h,nX q h⟩
  cases back
  .exact ⟨_,Cell.lst g1 rfl,If.not (If.no ⟨_,Cell.lst g0 rfl,_,Cell.lst g2 rfl,cseek_spec R hn0 hTr hlev c hf f8 fun a w1 c1' hp x1=>⟨rfl,rfl,a,RngI.init_f hs hp,c1'.sub hsub,x1⟩⟩)⟩
  .refine ⟨_,Cell.lst g1 rfl,If.not (If.yes ⟨_,Cell.lst g3 rfl,If.beq (fun h=>?_) fun h=>?_⟩)⟩
   .have htb:tb=[]:=by have:=RdB.len ht; exact List.length_eq_zero_iff.1 (by omega)
    refine ⟨Ext (·=bc) w,(Ext.refl _ _).drew,_,Held.but (Cell.lst g0 rfl) (nX _ k0.1),_,Held.but (Cell.lst g0 rfl) (nX _ k0.1),cend_spec (w:=drewW w) Rd' hn0 hTr hlev c fun w1 c1' x1=>?_⟩
    refine ⟨x1.drew_left,rfl,rfl,kvs.length,by rw [htb]; exact RngI.init_e,c1'.sub hsub,x1.drew_left⟩
   .have htb:tb≠[]:=fun e=>by have:=RdB.len ht; rw [e] at this; simp at this; omega
    refine ⟨Ext (·=bc) w,(Ext.refl _ _).drew,_,Held.but (Cell.lst g0 rfl) (nX _ k0.1),_,Held.but (Cell.lst g3 rfl) (nX _ k3.1),_,Held.but (Cell.lst g0 rfl) (nX _ k0.1),cseek_spec (w:=drewW w) Rd' hn0 hTr hlev c ht t8 fun a w1 c1' hp x1=>?_⟩
    exact ⟨x1.drew_left,rfl,rfl,a,RngI.init_b hs htb hp,c1'.sub hsub,x1.drew_left⟩
 rintro _ ev stp w4 ⟨rfl,rfl,a1,I1,c4,x4⟩
 have y4:=x4.size
 refine ⟨fun q ev w'=>ev=0/\∃ n a B',q=meaA kvs a back/\RngI kvs fb tb back a n/\J n w' B'/\(∀ q,B' q->(B q∨w.heap.size<=q)/\q < w'.heap.size)/\CurR w'.heap n0 (fun q=>X q∨B' q) M.f m t r lev bc kvs a/\Ext (fun q=>n0<=q/\(X q->B q)) w w',⟨_,rfl,0,a1,B,rfl,I1,mono hJ x4 fun q hq h=>nX _ (hB q hq).1 h,fun q hq=>⟨.inl hq,by have:=hX q (hB q hq).1; omega⟩,c4.sub fun q h=>h.elim id fun h=>(hB q h).1,x4.mono fun q _ h=>?_⟩,?_⟩
 .have h':q=bc:=h
  subst h'; exact ⟨hbc,fun h=>(hXbc h).elim⟩
 rintro _ m0 ev w5 ⟨rfl,n,a,B',rfl,I,hJ5,hB5,c5,x5⟩
 refine If.beq (fun _=>?_) fun h=>absurd rfl h
 refine NewW.mk fun b w6 n6=>?_
 have hb:=n6.at_; have z6:=n6.size; have y5:=x5.size
 have R6:MemR w6.heap T m M:=(R.ext x5 fun q hq=>hT q hq.1).no n6.ext
 have c6:=(c5.more (X':=fun q=>(X q∨B' q)∨q=b) fun q h=>h.imp id fun h=>by omega).no n6.ext
 have hX6:∀ q,(X q∨B' q)∨q=b->q < w6.heap.size:=fun q h=>by
  rcases h with (h | h) | h
  .have:=hX q h; omega
  .have:=(hB5 q h).2; omega
  .omega
 -- a fixed block stays
 have fix5:∀{q:Nat}{o:Obj},w.heap[q]? = some o->(X q/\¬ B q)->w5.heap[q]? = some o:=fun h h2=>get_ext h x5 fun h3=>h2.2 (h3.2 h2.1)
 have fixr:∀{w8:World}{q:Nat}{o:Obj},Ext (fun q=>n0<=q/\¬ (X q∨B' q)) w5 w8->w.heap[q]? = some o->(X q/\¬ B q)->w8.heap[q]? = some o:=fun x h h2=>get_ext (fix5 h h2) x fun h3=>h3.2 (.inl h2.1)
 have rd8:∀{w8:World}{s:Sl}{l:List Int},Ext (fun q=>n0<=q/\¬ (X q∨B' q)) w5 w8->RdB w.heap s l->(l≠[]->∀ q,s.blk=some q->q < n0)->RdB w8.heap s l:=fun x h h2=>Rd.extE (Rd.extE h x5 fun hn q hl hq h3=>by have:=h2 hn q hq; omega) x fun hn q hl hq h3=>by have:=h2 hn q hq; omega
 -- the end
 have done:∀{w7:World}{zs:List Value},zs.length=2->w7.heap[b]? = some (.cells zs.toArray 70 (0,0))->n=(rngL kvs fb tb back).length->Ext (fun q=>n0<=q/\¬ (X q∨B' q)) w5 w7->K w7:=fun {w7 zs} hz g7 hn x7=>by
  refine k w7 (.inl ⟨B',hn ▸ mono hJ5 x7 fun q hq h=>h.2 (.inr hq),fun q hq=>(hB5 q hq).1⟩) (x5.trans x7 fun q hq h=>⟨h.1,fun h2=>(h.2 (.inl h2)).elim⟩)
 -- one more
 have tail:∀{a':Nat}{x:KV}{ks vs:Sl}{w8:World},w8.heap[b]? = some (.cells [.slice ks.a ks.len ks.cap, .slice vs.a vs.len vs.cap].toArray 70 (0,0))->OwnB w8.heap w6.heap.size ks x.1->OwnB w8.heap w6.heap.size vs x.2->(∀ q,ks.blk=some q->vs.blk≠some q)->CurR w8.heap n0 (fun q=>((X q∨B' q)∨q=b)∨ks.blk=some q∨vs.blk=some q) M.f m t r lev bc kvs a'->Ext (fun q=>n0<=q/\¬ (X q∨B' q)) w5 w8->restL kvs back a=x::restL kvs back a'->inR fb tb x=true->meaA kvs a' back < meaA kvs a back ->
   ∃ c:Sl,Cell w8 (Addr.mk b 0 none) (.slice c.a c.len c.cap)/\∃ c_1:Sl,Cell w8 ((Addr.mk b 0 none).add 1) (.slice c_1.a c_1.len c_1.cap) /\
   dynV Tryz.prog true yield [.agg ([.slice c.a c.len c.cap, .slice c_1.a c_1.len c_1.cap]).toArray, .int .i64 0] [.one (.bool)] (fun r_5 w11=>If (!r_5) (K w11) (∃ m1,m1 < meaA kvs a back/\(0:Int)=0/\∃ n a B',m1=meaA kvs a back/\RngI kvs fb tb back a n/\J n w11 B'/\(∀ q,B' q->(B q∨w.heap.size<=q)/\q < w11.heap.size)/\CurR w11.heap n0 (fun q=>X q∨B' q) M.f m t r lev bc kvs a/\Ext (fun q=>n0<=q/\(X q->B q)) w w11)) NoX w8:=fun {a' x ks vs w8} g8 ok ov dj c8 x8 hrest hin hm=>by
  obtain ⟨hn,hx,I'⟩:=I.next hrest hin
  have x08:Ext (fun q=>n0<=q/\(X q->B q)) w w8:=x5.trans x8 fun q hq h=>⟨h.1,fun h2=>(h.2 (.inl h2)).elim⟩
  have y8:=x8.size
  have ext:∀{w':World},Ext B' w8 w'->Ext (fun q=>n0<=q/\(X q->B q)) w w':=fun x'=>x08.trans x' fun q hq h=>by
   have h2:B q:=((hB5 q h).1).resolve_right (by omega)
   exact ⟨(hB q h2).2,fun _=>h2⟩
  refine ⟨⟨ks.a,ks.len,ks.cap⟩,Cell.lst g8 rfl,⟨vs.a,vs.len,vs.cap⟩,Cell.lst g8 rfl,step n w8 B' ks vs w6.heap.size hn _ (mono hJ5 x8 fun q hq h=>h.2 (.inr hq)) (by rw [hx]; exact ok) (by rw [hx]; exact ov) dj ⟨by omega,by have:=blt g8; omega⟩ (fun q hq=>by have:=(hB5 q hq).2; omega) (fun w' B'' hJ' x' hq'=>?_) fun w' hz x'=>If.not (If.no (k w' (.inr hz) (ext x')))⟩
  refine If.not (If.yes ⟨_,hm,rfl,n+1,a',B'',rfl,I',hJ',fun q hq=>⟨?_,(hq' q hq).2⟩,?_,ext x'⟩)
  .rcases (hq' q hq).1 with h | h | h | h
   .exact (hB5 q h).1
   .have:=(ok.lt h).1; exact .inr (by omega)
   .have:=(ov.lt h).1; exact .inr (by omega)
   .exact .inr (by omega)
  .refine (c8.more (X':=fun q=>(((X q∨B' q)∨q=b)∨ks.blk=some q∨vs.blk=some q)∨w8.heap.size<=q) fun q h=>h).ext x' (fun q _ _ _ h h2=>h (.inl (.inl (.inl (.inr h2))))) (fun h=>?_) fun q h=>?_
   .exact c5.2.1 (.inr h)
   .rcases h with h | h
    .exact .inl (.inl (.inl (.inl h)))
    .rcases (hq' q h).1 with h | h | h | h
     .exact .inl (.inl (.inl (.inr h)))
     .exact .inl (.inr (.inl h))
     .exact .inl (.inr (.inr h))
     .exact .inr h
 have x56:Ext (fun q=>n0<=q/\¬ (X q∨B' q)) w5 w6:=n6.ext.of_no
 have nb:¬ (X b∨B' b):=fun h=>h.elim (fun h=>by have:=hX b h; omega) fun h=>by have:=(hB5 b h).2; omega
 have bbc:b≠bc:=by omega
 cases back
 .refine V_scan_Cursor_Next (next_spec (X:=fun q=>(X q∨B' q)∨q=b) R6 (by omega) hTr hlev c6 hX6 (fun ha w7 c7 x7=>?_) fun hak ks vs w7 ok ov dj c7 x7=>?_)
  .have x57:=x56.no x7
   refine st_all (get_no n6.get x7) rfl rfl (by simp [oneC]) fun w8 g8 x8 _=>If.beq (fun _=>done rfl g8 (I.fin (by simp [restL,ha])) (x57.trans x8 fun q hq h=>?_)) fun h=>absurd rfl h
   have h':q=b:=h
   subst h'; exact ⟨by omega,nb⟩
  .have x57:Ext (fun q=>n0<=q/\¬ (X q∨B' q)) w5 w7:=x56.trans x7 fun q _ h=>⟨h.1,fun h2=>h.2 (.inl h2)⟩
   have y7:=x7.size
   refine st_all (get_ext n6.get x7 fun h=>h.2 (.inr rfl)) rfl rfl (by simp [oneC]) fun w8 g8 x8 _=>If.beq (fun h=>by omega) fun _=>If.beq (fun _=>?_) fun h=>absurd rfl h
   have x8':Ext (·=b) w7 w8:=x8
   have x58:Ext (fun q=>n0<=q/\¬ (X q∨B' q)) w5 w8:=x57.trans x8' fun q hq h=>by subst h; exact ⟨by omega,nb⟩
   have ok8:OwnB w8.heap w6.heap.size ks kvs[a].1:=ok.ext x8' fun q hq h=>by have:=(ok.lt hq).1; omega
   have ov8:OwnB w8.heap w6.heap.size vs kvs[a].2:=ov.ext x8' fun q hq h=>by have:=(ov.lt hq).1; omega
   have c8:=c7.ext x8' (X':=fun q=>((X q∨B' q)∨q=b)∨ks.blk=some q∨vs.blk=some q) (fun q _ _ _ h h2=>h (.inl (.inr h2))) (fun h=>bbc h.symm) fun q h=>h
   have k8:B8 kvs[a].1:=(hTr.keys _ (List.getElem_mem hak)).2.2
   have tl:=fun hin=>tail g8 ok8 ov8 dj c8 x58 (rest_f hak) hin (by simp only [meaA]; omega)
   have hnf:¬ LtB kvs[a].1 fb:=by have:=I.ok _ (by rw [rest_f hak]; exact List.mem_cons_self); simpa using this
   have t3:RdB w8.heap to tb:=rd8 x58 ht htq
   refine ⟨_,Cell.lst (fixr x58 g1 k1) rfl,If.no ⟨_,Cell.lst (fixr x58 g1 k1) rfl,If.not (If.no ⟨_,Cell.lst (fixr x58 g3 k3) rfl,If.dec (fun hl=>?_) fun hl=>?_⟩)⟩⟩
   .have htb:tb≠[]:=fun e=>by have:=RdB.len ht; rw [e] at this; simp at this; omega
    refine ⟨_,Cell.lst g8 rfl,_,Cell.lst (fixr x58 g3 k3) rfl,compare_spec ok8.rd t3 k8 t8 (If.dec (fun hg=>?_) fun hg=>?_)⟩
    .exact done rfl g8 (I.stop_f hs hak htb (cmpB_ge.1 hg)) x58
    .have hlt:LtB kvs[a].1 tb:=Decidable.of_not_not fun h=>hg (cmpB_ge.2 h)
     exact tl (by simp [inR,hnf,hlt])
   .have htb:tb=[]:=by have:=RdB.len ht; exact List.length_eq_zero_iff.1 (by omega)
    exact tl (by simp [inR,hnf,htb])
 .refine V_scan_Cursor_Prev (prev_spec (X:=fun q=>(X q∨B' q)∨q=b) R6 (by omega) hTr hlev c6 hX6 (fun ha w7 c7 x7=>?_) fun hak ks vs w7 ha1 ok ov dj c7 x7=>?_)
  .have x57:=x56.no x7
   refine st_all (get_no n6.get x7) rfl rfl (by simp [oneC]) fun w8 g8 x8 _=>If.beq (fun _=>done rfl g8 (I.fin (by simp [restL,ha])) (x57.trans x8 fun q hq h=>?_)) fun h=>absurd rfl h
   have h':q=b:=h
   subst h'; exact ⟨by omega,nb⟩
  .have x57:Ext (fun q=>n0<=q/\¬ (X q∨B' q)) w5 w7:=x56.trans x7 fun q _ h=>⟨h.1,fun h2=>h.2 (.inl h2)⟩
   have y7:=x7.size
   refine st_all (get_ext n6.get x7 fun h=>h.2 (.inr rfl)) rfl rfl (by simp [oneC]) fun w8 g8 x8 _=>If.beq (fun h=>by omega) fun _=>If.beq (fun _=>?_) fun h=>absurd rfl h
   have x8':Ext (·=b) w7 w8:=x8
   have x58:Ext (fun q=>n0<=q/\¬ (X q∨B' q)) w5 w8:=x57.trans x8' fun q hq h=>by subst h; exact ⟨by omega,nb⟩
   have ok8:OwnB w8.heap w6.heap.size ks kvs[a - 1].1:=ok.ext x8' fun q hq h=>by have:=(ok.lt hq).1; omega
   have ov8:OwnB w8.heap w6.heap.size vs kvs[a - 1].2:=ov.ext x8' fun q hq h=>by have:=(ov.lt hq).1; omega
   have c8:=c7.ext x8' (X':=fun q=>((X q∨B' q)∨q=b)∨ks.blk=some q∨vs.blk=some q) (fun q _ _ _ h h2=>h (.inl (.inr h2))) (fun h=>bbc h.symm) fun q h=>h
   have k8:B8 kvs[a - 1].1:=(hTr.keys _ (List.getElem_mem hak)).2.2
   have tl:=fun hin=>tail g8 ok8 ov8 dj c8 x58 (rest_b hak ha1) hin (by simp only [meaA]; omega)
   have hnt:tb=[]∨LtB kvs[a - 1].1 tb:=by have:=I.ok _ (by rw [rest_b hak ha1]; exact List.mem_cons_self); simpa using this
   have t2:RdB w8.heap fromv fb:=rd8 x58 hf hfq
   refine ⟨_,Cell.lst (fixr x58 g1 k1) rfl,If.yes ⟨_,Cell.lst g8 rfl,_,Cell.lst (fixr x58 g2 k2) rfl,compare_spec ok8.rd t2 k8 f8 (If.dec (fun hg=>?_) fun hg=>?_)⟩⟩
   .exact done rfl g8 (I.stop_b hs hak ha1 (Decidable.of_not_not fun h=>by have:=cmpB_ge.2 h; omega)) x58
   .have hnf:¬ LtB kvs[a - 1].1 fb:=cmpB_ge.1 (by omega)
    refine ⟨_,Cell.lst (fixr x58 g1 k1) rfl,If.not (If.yes (tl ?_))⟩
    rcases hnt with h | h <;> simp [inR,hnf,h]
end
end Go.Proofs.YtcamoanigdfihaaGreat
set_option maxRecDepth 100000
namespace Go.Proofs.YtcamoanigdfihaaGreat
open Go.V
section
variable {w:World} {T:Nat->Option Nat} {m:MemV} {M:Mm}
structure Gth(base b1 b2 b3 b4:Nat)(most:Int)(LL:List KV)(n:Nat)(w':World)(D:Nat->Prop)(s:Sl)(L:List Pr):Prop where
 c1:w'.heap[b1]? = some (.cells [.int .i64 most].toArray 3 (0,0))
 c2:w'.heap[b2]? = some (.cells [.slice none 0 0].toArray 62 (0,0))
 c3:w'.heap[b3]? = some (.cells [.int .i64 0].toArray 50 (0,0))
 c4:w'.heap[b4]? = some (.cells [.slice s.a s.len s.cap].toArray 62 (0,0))
 own:Own w'.heap base 70 2 s (L.flatMap Pr.cs)
 pr:∀ p∈L,PrR w'.heap D p
 dd:∀ q,D q->s.blk≠some q/\base<=q/\q < w'.heap.size
 kv:kvsOf L=LL.take n
 hn:n<=LL.length
theorem Gth.len{base b1 b2 b3 b4:Nat}{most:Int}{LL:List KV}{n:Nat}{w':World}{D:Nat->Prop}{s:Sl}{L:List Pr}(g:Gth base b1 b2 b3 b4 most LL n w' D s L):L.length=n/\s.len=n:=by
 have h1:=congrArg List.length g.kv
 have h2:=g.own.len
 rw [flat_len' (prCs_len L)] at h2
 have:=g.hn
 simp only [List.length_map,List.length_take] at h1
 omega
theorem Gth.ext{base b1 b2 b3 b4:Nat}{most:Int}{LL:List KV}{n:Nat}{w' w'':World}{D S:Nat->Prop}{s:Sl}{L:List Pr}(g:Gth base b1 b2 b3 b4 most LL n w' D s L)(x:Ext S w' w'')(h:∀ q,(q=b1∨q=b2∨q=b3∨q=b4)∨s.blk=some q∨D q->¬ S q):Gth base b1 b2 b3 b4 most LL n w'' D s L:=by
 have y:=x.size
 exact ⟨get_ext g.c1 x (h _ (.inl (.inl rfl))),get_ext g.c2 x (h _ (.inl (.inr (.inl rfl)))),get_ext g.c3 x (h _ (.inl (.inr (.inr (.inl rfl))))),get_ext g.c4 x (h _ (.inl (.inr (.inr (.inr rfl))))),g.own.ext x fun q hq=>h q (.inr (.inl hq)),fun p hp=>(g.pr p hp).ext x fun q _ hq=>h q (.inr (.inr hq)),fun q hq=>⟨(g.dd q hq).1,(g.dd q hq).2.1,by have:=(g.dd q hq).2.2; omega⟩,g.kv,g.hn⟩
set_option maxHeartbeats 2000000 in
theorem range_spec{t:Int}{r:Rf}{lev:Nat}{kvs:List KV}{ps:List Rf}{fromv to:Sl}{fb tb:List Int}{most:Int}{back:Bool}{K:Sl->Int->World->Prop}(R:MemR w.heap T m M)(hTr:TreeT M.f t r lev kvs ps)(hlev:lev<=30)(hkl:kvs.length<=100000)(h8:∀ x∈kvs,B8 x.2)
  (hf:RdB w.heap fromv fb) (f8:B8 fb) (ht:RdB w.heap to tb) (t8:B8 tb)
  (k:∀ s L w',PrsR w'.heap (fun q=>w.heap.size<=q/\q < w'.heap.size) s L->(∀ q,s.blk=some q->w.heap.size<=q/\q < w'.heap.size)->kvsOf L=(rngL kvs fb tb back).take most.toNat->Ext No w w'->K s 0 w'):C_scan_Range (srcV m) t r.p r.c r.g lev fromv to most back w K:=by
 apply S_scan_Range
 refine NewW.mk fun b w1 n1=>NewW.mk fun b1 w2 n2=>NewW.mk fun b2 w3 n3=>NewW.mk fun b3 w4 n4=>?_
 have e1:=n1.at_; have e2:=n2.at_; have e3:=n3.at_; have e4:=n4.at_
 have z1:=n1.size; have z2:=n2.size; have z3:=n3.size; have z4:=n4.size
 have x04:Ext No w w4:=((n1.ext.no n2.ext).no n3.ext).no n4.ext
 have gt4:=get_no (get_no (get_no n1.get n2.ext) n3.ext) n4.ext
 refine ⟨_,Cell.lst gt4 rfl,_,Cell.lst gt4 rfl,_,Cell.lst gt4 rfl,_,Cell.lst gt4 rfl,?_⟩
 have hT:∀ q,w.heap.size<=q->T q=none:=fun q hq=>R.supT hq
 refine open_spec (n0:=w.heap.size) (R.no x04) (by omega) hTr hlev fun bc w5 c5 hbc x5=>If.bne (fun h=>(h rfl).elim) fun _=>NewW.mk fun b4 w8 n8=>?_
 have e8:=n8.at_; have z8:=n8.size; have y5:=x5.size
 have x48:Ext No w4 w8:=x5.no n8.ext
 have x08:=x04.no x48
 have g1:=get_no (get_no (get_no n2.get n3.ext) n4.ext) x48
 have g2:=get_no (get_no n3.get n4.ext) x48
 have g3:=get_no n4.get x48
 have g4:=n8.get
 have ll8:∀ x∈rngL kvs fb tb back,x∈kvs:=fun x hx=>by
  have:=(List.mem_filter.1 hx).1
  cases back <;> simpa using this
 have lll:(rngL kvs fb tb back).length<=kvs.length:=by
  refine Nat.le_trans (List.length_filter_le _ _) ?_
  cases back <;> simp
 refine ⟨_,Cell.lst g1 rfl,If.dec (fun hm=>?_) fun hm=>?_⟩
 .refine St1.mk g2 (by simp) rfl fun w9 h9=>?_
  have x9:Ext (·=b2) w8 w9:=h9.ext
  refine St1.mk (get_ext g3 x9 (by omega)) (by simp) rfl fun w10 h10=>?_
  have x10:Ext (·=b3) w9 w10:=h10.ext
  refine ⟨⟨none,0,0⟩,Cell.lst (get_ext (h9.get g2) x10 (by omega)) rfl,_,Cell.lst (h10.get (get_ext g3 x9 (by omega))) rfl,k ⟨none,0,0⟩ [] w10 ⟨Rd.nil _ _,by simp⟩ (by simp [Sl.blk]) ?_ ((x08.trans x9 fun q hq h=>by omega).trans x10 fun q hq h=>by omega)⟩
  have:most.toNat=0:=by omega
  simp [this]
 apply S_scan_Cursor_all
 refine NewW.mk fun d0 w9 n9=>NewW.mk fun d1 w10 n10=>NewW.mk fun d2 w11 n11=>NewW.mk fun d3 w12 n12=>?_
 have f0:=n9.at_; have f1:=n10.at_; have f2:=n11.at_; have f3:=n12.at_
 have z9:=n9.size; have z10:=n10.size; have z11:=n11.size; have z12:=n12.size
 have x812:Ext No w8 w12:=((n9.ext.no n10.ext).no n11.ext).no n12.ext
 intro rf dk lp w13 hnew hyield
 obtain ⟨x13,z13,hrf,hdf⟩:=hnew.facts
 have hlp:lp=w12.heap.size+1:=hnew.l
 have hdk:dk=w12.heap.size:=hnew.d
 have x813:=x812.no x13
 have x513:Ext No w5 w13:=n8.ext.no x813
 have x013:=x08.no x813
 have c13:=(c5.more (X':=fun q=>q < w4.heap.size∨(w5.heap.size<=q/\q < w13.heap.size)) fun q h=>h.imp id fun h=>h.1).no x513
 have q0:=get_no (get_no (get_no (get_no n9.get n10.ext) n11.ext) n12.ext) x13
 have q1:=get_no (get_no (get_no n10.get n11.ext) n12.ext) x13
 have q2:=get_no (get_no n11.get n12.ext) x13
 have q3:=get_no n12.get x13
 have y13:=x813.size; have y513:=x513.size
 -- the end
 have fin:∀{n:Nat}{w':World}{D:Nat->Prop}{s:Sl}{L:List Pr}{p:Option Code},Gth w13.heap.size b1 b2 b3 b4 most (rngL kvs fb tb back) n w' D s L->DefSt dk w'->Ext (fun q=>w.heap.size<=q) w13 w'->(rngL kvs fb tb back).take n=(rngL kvs fb tb back).take most.toNat ->
   ∃ vv_10:Sl,Cell (rfPut lp rf .exhausted p w') (Addr.mk b4 0 none) (.slice vv_10.a vv_10.len vv_10.cap)/\St1 (rfPut lp rf .exhausted p w') (Addr.mk b2 0 none) (.slice vv_10.a vv_10.len vv_10.cap) fun w22=>St1 w22 (Addr.mk b3 0 none) (.int .i64 0) fun w23=>DefSt dk w23/\∃ vv_11:Sl,Cell ((defShut dk w23)) (Addr.mk b2 0 none) (.slice vv_11.a vv_11.len vv_11.cap)/\∃ vv_12:Int,Cell ((defShut dk w23)) (Addr.mk b3 0 none) (.int .i64 vv_12)/\K vv_11 vv_12 ((defShut dk w23)):=fun {n w' D s L p} G hd x' hn=>by
  have y':=x'.size
  have xp:Ext (·=lp) w' (rfPut lp rf .exhausted p w'):=rfPut_ext
  have ds:∀ q,s.blk=some q->w13.heap.size<=q/\q < w'.heap.size:=fun q hq=>G.own.lt hq
  have Gp:=G.ext xp fun q hq h=>by
   rcases hq with hq | hq | hq
   .omega
   .have:=ds q hq; omega
   .have:=(G.dd q hq).2; omega
  refine ⟨s,Cell.lst Gp.c4 rfl,St1.mk Gp.c2 (by simp) rfl fun w22 h22=>?_⟩
  have x22:Ext (·=b2) (rfPut lp rf .exhausted p w') w22:=h22.ext
  have t2:w22.heap[b2]? = some (.cells [.slice s.a s.len s.cap].toArray 62 (0,0)):=h22.get Gp.c2
  refine St1.mk (get_ext Gp.c3 x22 (by omega)) (by simp) rfl fun w23 h23=>?_
  have x23:Ext (·=b3) w22 w23:=h23.ext
  have t3:w23.heap[b3]? = some (.cells [.int .i64 0].toArray 50 (0,0)):=h23.get (get_ext Gp.c3 x22 (by omega))
  have xd:Ext (·=dk) w23 (defShut dk w23):=defShut_ext
  have xa:Ext (fun q=>q=lp∨q=b2∨q=b3∨q=dk) w' (defShut dk w23):=(((xp.mono fun _ _ h => .inl h).trans x22 fun _ _ h => .inr (.inl h)).trans x23 fun _ _ h => .inr (.inr (.inl h))).trans xd fun _ _ h => .inr (.inr (.inr h))
  have ya:=xa.size
  refine ⟨((hd.ext xp (by omega)).ext x22 (by omega)).ext x23 (by omega),s,Cell.lst (get_ext (get_ext t2 x23 (by omega)) xd (by omega)) rfl,0,Cell.lst (get_ext t3 xd (by omega)) rfl,k s L _ ⟨G.own.rd.ext xa fun a q h1 h2 h=>by have:=ds q (by simp [Sl.blk,h1,h2]); omega,fun p hp=>((G.pr p hp).ext xa fun q _ hq h=>by have:=(G.dd q hq).2; omega).mono fun q _ hq=>?_⟩ (fun q hq=>?_) (by rw [G.kv,hn]) ((x013.trans x' fun q hq h=>by omega).trans xa fun q hq h=>by omega)⟩
  .have:=(G.dd q hq).2; omega
  .have:=ds q hq; omega
 refine V_scan_Cursor_all_1 (all1_spec (w:=w13) (n0:=w.heap.size) (bc:=bc) (a0:=0) (X:=fun q=>q < w4.heap.size∨(w5.heap.size<=q/\q < w13.heap.size)) (B:=fun q=>q=b1∨q=b2∨q=b3∨q=b4∨q=dk∨q=lp) (fb:=fb) (tb:=tb)
  (J:=fun n w' B'=>RfSt lp rf .ready none w'/\DefSt dk w'/\(n:Int) < most/\∃ D s L,Gth w13.heap.size b1 b2 b3 b4 most (rngL kvs fb tb back) n w' D s L/\∀ q,B' q ↔ (q=b1∨q=b2∨q=b3∨q=b4∨q=dk∨q=lp)∨s.blk=some q∨D q)
  (Z:=fun w'=>RfSt lp rf .done (some (.exit 0)) w'/\DefSt dk w'/\∃ (n:Nat),∃ D s L,(n:Int)=most/\Gth w13.heap.size b1 b2 b3 b4 most (rngL kvs fb tb back) n w' D s L)
  (R.no x013) hT (by omega) hTr hlev c13 q0 q3 q1 q2 (fun q hq=>⟨.inr (by omega),by omega⟩) (fun q hq=>by omega) (fun q hq=>⟨by omega,by omega⟩)
  (Rd.no hf x013) f8 (fun hn q hq=>Rd.lt hf (by simpa using hn) hq) (Rd.no ht x013) t8 (fun hn q hq=>Rd.lt ht (by simpa using hn) hq)
  ⟨hrf,hdf,by omega,No,⟨none,0,0⟩,[],⟨get_no g1 x813,get_no g2 x813,get_no g3 x813,get_no g4 x813,Own.nil _ _ _ _,by simp,fun q h=>h.elim,by simp,Nat.zero_le _⟩,fun q=>by simp [Sl.blk,No]⟩
  (fun {j w1 w2 B' S} hJ x hS=>?_) (fun n v1 B' ks vs base hn Kr hJ ok ov dj hb hBb kt kf=>?_) fun w' hJ x=>?_)
 .obtain ⟨h1,h2,h3,D,s,L,h5,h6⟩:=hJ
  exact ⟨h1.ext x (hS _ ((h6 _).2 (by simp))),h2.ext x (hS _ ((h6 _).2 (by simp))),h3,D,s,L,h5.ext x fun q hq=>hS q ((h6 q).2 (hq.imp (fun h=>by omega) id)),h6⟩
 .obtain ⟨h1,h2,h3,D,s,L,h5,h6⟩:=hJ
  have v13:=hb.1
  have bv:=hb.2
  refine hyield ks vs 0 v1 Kr h1 (NewW.mk fun b5 w14 n14=>?_)
  have u5:=n14.at_; have z14:=n14.size
  refine st_all n14.get rfl rfl (by simp [oneC]) fun w15 g15 x15 _=>?_
  have x15':Ext (·=b5) w14 w15:=x15
  have y15:=x15'.size
  have sl:∀ q,s.blk=some q->w13.heap.size<=q/\q < v1.heap.size:=fun q hq=>h5.own.lt hq
  have h1':=(h1.ext n14.ext fun h=>h).ext x15' (by have:=h1.lt; omega)
  have h2':=(h2.ext n14.ext fun h=>h).ext x15' (by have:=h2.lt; omega)
  have x115:Ext No v1 w15:=n14.ext.trans x15' fun q hq h=>by omega
  refine ⟨h1',If.bne (fun h=>(h rfl).elim) fun _=>?_⟩
  have xb:Ext (·=lp) w15 (rfPut lp rf .busy none w15):=rfPut_ext
  have G:=(h5.ext x115 fun _ _ h=>h).ext xb fun q hq h=>by
   rcases hq with hq | hq | hq
   .omega
   .have:=sl q hq; omega
   .have:=(h5.dd q hq).2; omega
  have zb:(rfPut lp rf .busy none w15).heap.size=w15.heap.size:=rfPut_size
  have gb5:=get_ext g15 xb (by have:=h1.lt; omega)
  refine ⟨s,Cell.lst G.c4 rfl,ks,Cell.lst gb5 rfl,vs,Cell.lst gb5 rfl,NewW.mk fun b6 w18 n18=>?_⟩
  have u6:=n18.at_; have z18:=n18.size
  have G18:=G.ext n18.ext fun _ _ h=>h
  have gl:=G18.len
  have hst:RfSt lp rf .busy none w18:=(h1'.put).ext n18.ext fun h=>h
  have hd18:DefSt dk w18:=(h2'.ext xb (by omega)).ext n18.ext fun h=>h
  have o6:Own w18.heap (rfPut lp rf .busy none w15).heap.size 70 2 ⟨some ⟨b6,0,none⟩,1,1⟩ [.slice ks.a ks.len ks.cap, .slice vs.a vs.len vs.cap]:=Own.new n18 rfl (by simp [oneC])
  refine app_api_Pair G18.own (by omega) o6.rd.src (by show (s.len+1) * 48<=_; omega) fun s1 w19 o19 l19 x19 hbl=>?_
  have l19':s1.len=s.len+1:=l19
  have x19':Ext (fun q=>s.blk=some q) w18 w19:=x19
  have y19:=x19'.size
  have nl:∀ q,q < w13.heap.size->¬ s.blk=some q:=fun q h hq=>by have:=sl q hq; omega
  refine St1.mk (get_ext G18.c4 x19' (nl _ (by omega))) (by simp) rfl fun w20 h20=>?_
  have x20:Ext (·=b4) w19 w20:=h20.ext
  have y20:=x20.size
  have g20:w20.heap[b4]? = some (.cells [.slice s1.a s1.len s1.cap].toArray 62 (0,0)):=h20.get (get_ext G18.c4 x19' (nl _ (by omega)))
  have sl1:∀ q,s1.blk=some q->s.blk=some q∨w18.heap.size<=q:=fun q hq=>by
   rcases hbl with h | ⟨c,h,hc⟩
   .exact .inl (by rw [<- h]; exact hq)
   .rw [h] at hq; cases hq; exact .inr hc
  have hst20:=(hst.ext x19' (nl _ (by omega))).ext x20 (by omega)
  have hd20:=(hd18.ext x19' (nl _ (by omega))).ext x20 (by omega)
  have x1518:Ext (·=lp) v1 w18:=(x115.of_no.trans xb fun _ _ h=>h).no n18.ext
  have x1520:Ext (fun q=>q=lp∨s.blk=some q∨q=b4) v1 w20:=((x1518.mono fun _ _ h => .inl h).trans x19' fun _ _ h => .inr (.inl h)).trans x20 fun _ _ h => .inr (.inr h)
  have kx:∀{sx:Sl}{l:List Int},OwnB v1.heap base sx l->OwnB w20.heap base sx l:=fun o=>o.ext x1520 fun q hq h=>by
   have h7:=(o.lt hq).1
   rcases h with h | h | h
   .omega
   .have:=hBb q ((h6 q).2 (.inr (.inl h))); omega
   .omega
  have ok20:=kx ok
  have ov20:=kx ov
  have hx:(rngL kvs fb tb back)[n]∈kvs:=ll8 _ (List.getElem_mem hn)
  -- what is gathered now
  have G20:Gth w13.heap.size b1 b2 b3 b4 most (rngL kvs fb tb back) (n+1) w20 (fun q=>D q∨ks.blk=some q∨vs.blk=some q) s1 (L++[(⟨ks,vs⟩,(rngL kvs fb tb back)[n])]):=by
   refine ⟨get_ext (get_ext G18.c1 x19' (nl _ (by omega))) x20 (by omega),get_ext (get_ext G18.c2 x19' (nl _ (by omega))) x20 (by omega),get_ext (get_ext G18.c3 x19' (nl _ (by omega))) x20 (by omega),g20,?_,fun p hp=>?_,fun q hq=>?_,?_,hn⟩
   .have o20:=o19.ext x20 fun q hq h=>by
     rcases sl1 q hq with h7 | h7
     .exact nl q (by omega) h7
     .omega
    rw [List.flatMap_append]; exact o20
   .rcases List.mem_append.1 hp with h | h
    .refine ((h5.pr p h).ext x1520 fun q _ hq h7=>?_).mono fun q _ h => .inl h
     have:=h5.dd q hq
     rcases h7 with h7 | h7 | h7
     .omega
     .exact this.1 h7
     .omega
    .rw [List.mem_singleton] at h; subst h
     exact ⟨ok20.rd,ov20.rd,(hTr.keys _ hx).2.2,h8 _ hx,fun _ q hq => .inr (.inl hq),fun _ q hq => .inr (.inr hq)⟩
   .have dif:∀ q,q < v1.heap.size->¬ s.blk=some q->s1.blk≠some q:=fun q h1 h2 h3=>(sl1 q h3).elim h2 fun h=>by omega
    rcases hq with hq | hq | hq
    .have:=h5.dd q hq
     exact ⟨dif q this.2.2 this.1,this.2.1,by omega⟩
    .have:=ok.lt hq
     exact ⟨dif q this.2 fun h=>by have:=hBb q ((h6 q).2 (.inr (.inl h))); omega,by omega,by omega⟩
    .have:=ov.lt hq
     exact ⟨dif q this.2 fun h=>by have:=hBb q ((h6 q).2 (.inr (.inl h))); omega,by omega,by omega⟩
   .rw [kvsOf,List.map_append,List.map_singleton,List.take_add_one,List.getElem?_eq_getElem hn]
    have:=h5.kv
    rw [kvsOf] at this
    rw [this]; rfl
  have hB':Ext B' v1 w20:=x1520.mono fun q _ h=>(h6 q).2 (by
   rcases h with h | h | h
   .exact .inl (by omega)
   .exact .inr (.inl h)
   .exact .inl (by omega))
  have xr:∀{st:LoopState}{p:Option Code},Ext (·=lp) w20 (rfPut lp rf st p w20):=rfPut_ext
  have blp:B' lp:=(h6 lp).2 (.inl (by omega))
  have Gr:∀{st:LoopState}{p:Option Code},Gth w13.heap.size b1 b2 b3 b4 most (rngL kvs fb tb back) (n+1) (rfPut lp rf st p w20) (fun q=>D q∨ks.blk=some q∨vs.blk=some q) s1 (L++[(⟨ks,vs⟩,(rngL kvs fb tb back)[n])]):=G20.ext xr fun q hq h=>by
   rcases hq with hq | hq | hq
   .omega
   .have:=(G20.own.lt hq).1; omega
   .have:=(G20.dd q hq).2; omega
  refine ⟨s1,Cell.lst g20 rfl,most,Cell.lst G20.c1 rfl,If.dec (fun hge=>⟨hst20,kf _ ⟨hst20.put,hd20.ext xr (by omega),n+1,_,s1,_,by omega,Gr⟩ (hB'.trans xr fun q _ h=>h ▸ blp)⟩) fun hge=>⟨hst20,kt _ _ ⟨hst20.put,hd20.ext xr (by omega),by omega,_,s1,_,Gr,fun q=>Iff.rfl⟩ (hB'.trans xr fun q _ h=>h ▸ blp) fun q hq=>?_⟩⟩
  have yr:(rfPut lp rf .ready none w20).heap.size=w20.heap.size:=rfPut_size
  have y1:=x1520.size
  rcases hq with hq | hq | hq | hq | hq
  .exact ⟨.inl ((h6 q).2 (.inl hq)),by omega⟩
  .have h7:=(G20.own.lt hq).2
   refine ⟨?_,by omega⟩
   rcases sl1 q hq with h | h
   .exact .inl ((h6 q).2 (.inr (.inl h)))
   .exact .inr (.inr (.inr (by omega)))
  .exact ⟨.inl ((h6 q).2 (.inr (.inr hq))),by have:=(h5.dd q hq).2; omega⟩
  .exact ⟨.inr (.inl hq),by have:=(ok.lt hq).2; omega⟩
  .exact ⟨.inr (.inr (.inl hq)),by have:=(ov.lt hq).2; omega⟩
 .have x':Ext (fun q=>w.heap.size<=q) w13 w':=x.mono fun q _ h=>h.1
  rcases hJ with ⟨B',⟨h1,h2,h3,D,s,L,h5,_⟩,_⟩ | ⟨h1,h2,n,D,s,L,h3,h5⟩
  .refine .inr (.inr ⟨h1,fin h5 h2 x' ?_⟩)
   rw [List.take_length,List.take_of_length_le (by omega)]
  .refine .inr (.inl ⟨h1,fin h5 h2 x' ?_⟩)
   have:most.toNat=n:=by omega
   rw [this]
end
end Go.Proofs.YtcamoanigdfihaaGreat
set_option maxRecDepth 100000
namespace Go.V
end Go.V
namespace Go.Proofs.YtcamoanigdfihaaGreat
open Go.V
section
variable {w:World} {T:Nat->Option Nat} {m:MemV} {M:Mm}
theorem b8nil:B8 []:=by intro y hy; cases hy
theorem rngAll{kvs:List KV}{back:Bool}:rngL kvs [] [] back=if back then kvs.reverse else kvs :=
 List.filter_eq_self.2 fun x _=>by have:=not_LtB_nil x.1; simp [inR,this]
end
end Go.Proofs.YtcamoanigdfihaaGreat
set_option maxRecDepth 100000
namespace Go.V
end Go.V
namespace Go.Proofs.YtcamoanigdfihaaGreat
open Go.V
section
variable {w:World} {T:Nat->Option Nat} {m:MemV} {M:Mm}
end
end Go.Proofs.YtcamoanigdfihaaGreat
set_option maxRecDepth 100000
namespace Go.V
theorem TreeT.keep{f f':Pages}{t:Int}{r:Rf}{lev:Int}{kvs:List KV}{ps:List Rf}(h:TreeT f t r lev kvs ps)(k:Keep f f' ps):TreeT f' t r lev kvs ps:=by
 rcases h with h | ⟨a,b,c⟩
 .exact .inl h
 .exact .inr ⟨a,b,c.keep k⟩
theorem KidsQ.mono{Q Q':Rf->List KV->Prop}{l:List Ent}{x:List KV}(h:KidsQ Q l x)(k:∀ r y,Q r y->Q' r y):KidsQ Q' l x:=by
 induction h with
 | nil=>exact .nil
 | cons h r ih=>exact .cons (k _ _ h) ih
theorem PathP.keep{f f':Pages}{t:Int}(k:∀ qs,Keep f f' qs):∀{lev:Nat}{kvs:List KV}{P:List Stp}{a:Nat},PathP f t lev kvs P a->PathP f' t lev kvs P a
 | 0,_,_,_,h=>h
 | lev+1,_,_,_,h=>by
  have kq:∀ r y,SubQ f t lev r y->SubQ f' t lev r y:=fun r y ⟨p,h⟩=>⟨p,h.keep (k p)⟩
  obtain ⟨l,i,P',a',pre,kv,post,e1,⟨hi,h1⟩,h2,h3,e2,hp,e3⟩:=h
  exact ⟨l,i,P',a',pre,kv,post,e1,⟨hi,kq _ _ h1⟩,h2.mono kq,h3.mono kq,e2,PathP.keep k hp,e3⟩
theorem CurR.f_keep{h:Array Obj}{n0:Nat}{X:Nat->Prop}{f f':Pages}{m:MemV}{t:Int}{r:Rf}{lev bc:Nat}{kvs:List KV}{a:Nat}(c:CurR h n0 X f m t r lev bc kvs a)(k:∀ qs,Keep f f' qs):CurR h n0 X f' m t r lev bc kvs a:=by
 obtain ⟨h1,h2,p,h3,h | ⟨hr,P,a1,a2,a3,a4⟩⟩:=c
 .exact ⟨h1,h2,p,h3, .inl h⟩
 .exact ⟨h1,h2,p,h3, .inr ⟨hr,P,a1,a2,a3,a4.keep k⟩⟩
theorem CurR.m_eq{h:Array Obj}{n0:Nat}{X:Nat->Prop}{f:Pages}{m m':MemV}{t:Int}{r:Rf}{lev bc:Nat}{kvs:List KV}{a:Nat}(c:CurR h n0 X f m t r lev bc kvs a)(e:m'.bm=m.bm):CurR h n0 X f m' t r lev bc kvs a:=by
 obtain ⟨h1,h2,p,h3,h⟩:=c
 refine ⟨h1,h2,p,?_,h⟩
 have:curCs m' t r lev p=curCs m t r lev p:=by simp only [curCs,Go.Proofs.YtcamoanigdfihaaGreat.srcV,e]
 rw [this]; exact h3
theorem PrsR.ext{S Q:Nat->Prop}{w w':World}{s:Sl}{l:List Pr}(r:PrsR w.heap Q s l)(x:Ext S w w')(hs:∀ q,s.blk=some q->¬ S q)(hq:∀ q,q < w.heap.size->Q q->¬ S q):PrsR w'.heap Q s l :=
 ⟨r.rd.ext x fun a q h1 h2=>hs q (by simp [Sl.blk,h1,h2]),fun p hp=>(r.pr p hp).ext x hq⟩
structure NxR(w w':World)(n0:Nat)(X:Nat->Prop)(f:Pages)(m:MemV)(t:Int)(r:Rf)(lev bc:Nat)(kvs:List KV)(a:Nat)(e:Int)(ks vs:Sl):Prop where
 cur:∃ a',CurR w'.heap n0 (fun q=>X q∨ks.blk=some q∨vs.blk=some q) f m t r lev bc kvs a'/\(e=0->a'=a+1)
 ext:Ext (fun q=>n0<=q/\¬ X q) w w'
 bk:∀ q,ks.blk=some q∨vs.blk=some q->w.heap.size<=q/\q < w'.heap.size
 res:(e=7/\a=kvs.length)∨(e=0/\∃ h:a < kvs.length,Go.Proofs.YtcamoanigdfihaaGreat.RdB w'.heap ks kvs[a].1/\Go.Proofs.YtcamoanigdfihaaGreat.RdB w'.heap vs kvs[a].2)
structure OldI(n0 lo hi b2:Nat)(X D:Nat->Prop)(f:Pages)(m:MemV)(t:Int)(r:Rf)(lev bc:Nat)(kvs:List KV)(a:Nat)(e:Int)(ks vs seen:Sl)(Ls:List Pr)(w':World):Prop where
 cur:∃ a',CurR w'.heap n0 X f m t r lev bc kvs a'/\(e=0->a'=a+1)
 hX:∀ q,X q->q < w'.heap.size
 fx:∀ q,lo<=q->q < hi->X q
 cell:w'.heap[b2]? = some (.cells [.slice ks.a ks.len ks.cap, .slice vs.a vs.len vs.cap].toArray 70 (0,0))
 own:Own w'.heap hi 70 2 seen (Ls.flatMap Pr.cs)
 pr:∀ p∈Ls,PrR w'.heap D p
 dd:∀ q,D q->X q/\n0<=q/\seen.blk≠some q/\q≠b2
 sx:∀ q,seen.blk=some q->X q
 kv:kvsOf Ls=kvs.take a
 al:a<=kvs.length
 res:(e=7/\a=kvs.length)∨(e=0/\∃ h:a < kvs.length,Go.Proofs.YtcamoanigdfihaaGreat.RdB w'.heap ks kvs[a].1/\Go.Proofs.YtcamoanigdfihaaGreat.RdB w'.heap vs kvs[a].2)
 kb:∀ q,ks.blk=some q∨vs.blk=some q->D q
end Go.V
namespace Go.Proofs.YtcamoanigdfihaaGreat
open Go.V
section
variable {w:World} {T:Nat->Option Nat} {m:MemV} {M:Mm}
theorem next_any{n0 bc:Nat}{X:Nat->Prop}{t:Int}{r:Rf}{lev a:Nat}{kvs:List KV}{ps:List Rf}{K:Sl->Sl->Int->World->Prop}(R:MemR w.heap T m M)(hn0:n0<=w.heap.size)(hTr:TreeT M.f t r lev kvs ps)(hlev:lev<=30)(c:CurR w.heap n0 X M.f m t r lev bc kvs a)(hX:∀ q,X q->q < w.heap.size)
  (k:∀ ks vs e w',NxR w w' n0 X M.f m t r lev bc kvs a e ks vs->K ks vs e w'):C_scan_Cursor_Next (some ⟨bc,0,none⟩) w K:=by
 refine next_spec (X:=X) R hn0 hTr hlev c hX (fun ha w' c' x=>k _ _ 7 w' ⟨⟨a,c'.sub fun q h=>?_,fun h=>absurd h (by decide)⟩,x.of_no,by simp [Sl.blk], .inl ⟨rfl,ha⟩⟩) fun ha ks vs w' ok ov _ c' x=>k ks vs 0 w' ⟨⟨a+1,c',fun _=>rfl⟩,x,fun q h=>h.elim ok.lt ov.lt, .inr ⟨rfl,ha,ok.rd,ov.rd⟩⟩
 simpa [Sl.blk] using h
set_option maxHeartbeats 4000000 in
theorem scanOld_spec{l more:Sl}{xs zs:List OpV}{K:Bool->World->Prop}(hl:Rd w.heap l 3 (xs.flatMap OpV.cs))(hx:∀ x∈xs,OpA w.heap x)(hm:Rd w.heap more 3 (zs.flatMap OpV.cs))(hz:∀ x∈zs,OpA w.heap x)(k:∀ w',Ext No w w'->K true w'):C_law16_ScanOld l more w K:=by
 apply S_law16_ScanOld
 have hol:l.len=xs.length:=by have:=hl.len; rw [flat_len' (opCs_len xs)] at this; omega
 have hml:more.len=zs.length:=by have:=hm.len; rw [flat_len' (opCs_len zs)] at this; omega
 refine ⟨fun w'=>w'=w/\xs.length<=80/\zs.length<=80,If.dec (fun _=>known16 k) fun h1=>If.dec (fun _=>known16 k) fun h2=>⟨rfl,by omega,by omega⟩,?_⟩
 rintro _ w3 ⟨rfl,hxl,hzl⟩
 refine built_spec hl hx (by omega) fun T m M r lev ps s L w4 B=>?_
 have hyl:(xs.filter fun x=>decide x.fit).length<=80:=Nat.le_trans (List.length_filter_le _ _) hxl
 generalize (xs.filter fun x=>decide x.fit)=ys at B hyl
 have x04:=B.ext
 have hTr:=B.tree
 have hkv:=B.kv
 have hcg:=B.chg
 have hLl:L.length<=80:=by
  have h1:=opsL_len ys []
  have h3:L.length=(opsL ys []).length:=by rw [<- hkv]; simp
  simp at h1; omega
 have h8:∀ x∈opsL ys [],B8 x.2:=fun x hx'=>by
  rw [<- hkv] at hx'
  obtain ⟨p,hp,rfl⟩:=List.mem_map.1 hx'
  exact (B.prs.pr p hp).v8
 generalize opsL ys []=kvs at hTr hkv h8
 have hLk:L.length=kvs.length:=by rw [<- hkv]; simp
 have hs:SortK kvs:=hTr.sort
 have y4:=x04.size
 refine new_set rfl rfl (by simp [oneC]) fun b w6 g6 hb z6 x6=>?_
 have x06:=x04.no x6
 have R6:=B.mem.no x6
 have y6:=x6.size
 refine ⟨fun q good i w'=>∃ (j:Nat) (gs:List OpV),i=j/\j<=zs.length/\q=zs.length - j/\gs=(zs.take j).filter (fun x=>decide x.fit)/\gs.length<=j/\Own w'.heap w6.heap.size 58 3 good (gs.flatMap OpV.cs)/\Ext No w6 w',⟨zs.length,0,[],rfl,by omega,by omega,rfl,by simp,Own.nil _ _ _ _,Ext.refl _ _⟩,?_⟩
 rintro _ m0 good i w7 ⟨j,gs,rfl,hj,hq,hgs,hgl,o7,x7⟩
 have x07:=x06.no x7
 refine If.dec (fun h=>?_) fun h=>?_
 .have hjl:j < zs.length:=by omega
  refine Ix.elem (hm.no x07) (opCs_len zs) (by decide) (by omega) h fun bb o hi _ hc=>?_
  simp only [Int.toNat_natCast] at hi hc
  have ox:=hz _ (List.getElem_mem hjl)
  refine ⟨_,hc 0 _ rfl,_,hc 1 _ rfl,_,hc 2 _ rfl,refRight_spec (RdB.len ox.k) (RdB.len ox.v) fun w8 x8=>?_⟩
  have tk:(zs.take (j+1)).filter (fun x=>decide x.fit)=gs++if zs[j].fit then [zs[j]] else []:=by
   rw [List.take_add_one,List.getElem?_eq_getElem hjl,Option.toList_some,List.filter_append,<- hgs,List.filter_cons]
   by_cases hf:zs[j].fit <;> simp [hf]
  refine If.dec (fun hf=>?_) fun hf=>?_
  .rw [if_pos hf] at tk
   refine Ix.elem (hm.no (x07.no x8)) (opCs_len zs) (by decide) (by omega) h fun bb o hi _ hc=>?_
   simp only [Int.toNat_natCast] at hi hc
   refine ⟨_,hc 0 _ rfl,_,hc 1 _ rfl,_,hc 2 _ rfl,NewW.mk fun b1 w9 n9=>?_⟩
   have o9:=(o7.no x8).no n9.ext
   have e9:Own w9.heap w8.heap.size 58 3 ⟨some ⟨b1,0,none⟩,1,1⟩ zs[j].cs:=Own.new (n:=1) (sz:=3) n9 rfl (opOne _)
   have hyo:good.len=gs.length:=by have:=o7.len; rw [flat_len' (opCs_len gs)] at this; omega
   have s9:=((x7.no x8).no n9.ext).size
   refine app_api_Op o9 s9 e9.rd.src (by show (good.len+1) * 56<=_; omega) fun s' w10 o10 _ x10 _=>Ar.i64 (by omega) ⟨zs.length - (j+1),by omega,j+1,gs++[zs[j]],by omega,by omega,rfl,tk.symm,by simp; omega,?_,((x7.no x8).no n9.ext).trans x10 fun q hq h=>by have:=(o7.lt h).1; omega⟩
   rw [List.flatMap_append]
   have:[zs[j]].flatMap OpV.cs=zs[j].cs:=by simp
   rw [this]; exact o10
  .rw [if_neg hf,List.append_nil] at tk
   exact Ar.i64 (by omega) ⟨zs.length - (j+1),by omega,j+1,gs,by omega,by omega,rfl,tk.symm,by omega,o7.no x8,x7.no x8⟩
 have hjl:j=zs.length:=by omega
 rw [hjl,List.take_length] at hgs
 have hgz:∀ x∈gs,x∈zs/\x.fit:=fun x hx=>by rw [hgs] at hx; have:=List.mem_filter.1 hx; exact ⟨this.1,of_decide_eq_true this.2⟩
 have hgl':gs.length<=80:=by omega
 have g7:=get_no g6 x7
 have y7:=x7.size
 refine ⟨_,Cell.lst g7 rfl,_,Cell.lst g7 rfl,_,Cell.lst g7 rfl,_,Cell.lst g7 rfl,?_⟩
 have R7:=R6.no x7
 have cm1:M.commit=1:=hcg.commit
 refine open_spec (n0:=w7.heap.size) R7 (Nat.le_refl _) hTr B.lv fun bc w8 c8 hbc x8=>?_
 have y8:=x8.size
 refine ⟨fun w'=>MemR w'.heap T m (beginM M 2 1)/\Ext (Ts T) w8 w',If.not (If.yes (If.bne (fun h=>absurd rfl h) fun _=>memBegin_spec (R7.no x8) (by omega) (by omega) (fun h=>by omega) fun w9 _ R9 x9=>If.bne (fun h=>absurd rfl h) fun _=>⟨R9,x9⟩)),?_⟩
 rintro _ w9 ⟨R9,x9⟩
 have nT:∀{q},w4.heap.size<=q->¬ Ts T q:=fun h h'=>h' (B.mem.supT h)
 have nT3:∀{q},q < w3.heap.size->¬ Ts T q:=fun h h'=>h' (B.tg _ h)
 have y9:=x9.size
 have c9:CurR w9.heap w7.heap.size (fun q=>q < w7.heap.size) M.f m 5 r lev bc kvs 0:=c8.ext x9 (fun q _ hn _ _=>nT (by omega)) (nT (by omega)) fun _ h=>h
 have hTr9:TreeT (beginM M 2 1).f 5 r lev kvs ps:=hTr
 refine next_any (X:=fun q=>q < w7.heap.size) (M:=beginM M 2 1) R9 (by omega) hTr9 B.lv c9 (fun q h=>by omega) fun ks0 vs0 e0 w10 N=>?_
 have x10:=N.ext
 have y10:=x10.size
 have R10:MemR w10.heap T m (beginM M 2 1):=R9.ext x10 fun q hq=>B.mem.supT (by omega)
 refine new_set rfl rfl (by simp [oneC]) fun b2 w12 g12 hb2 z12 x12=>?_
 have y12:=x12.size
 have R12:=R10.no x12
 have x912:Ext (fun q=>w7.heap.size<=q) w9 w12:=(x10.mono fun q _ h=>h.1).no x12
 have g9:=get_ext (get_no g7 x8) x9 (nT (by omega))
 have g12b:=get_ext g9 x912 (by omega)
 refine ⟨_,Cell.lst g12b rfl,_,Cell.lst g12b rfl,_,Cell.lst g12b rfl,_,Cell.lst g12b rfl,?_⟩
 have x012:Ext No w3 w12:=((x07.no x8).trans x9 fun q hq h=>nT3 hq h).trans x912 fun q hq h=>by have:=x07.size; omega
 have o12:Own w12.heap w6.heap.size 58 3 good (gs.flatMap OpV.cs):=((o7.no x8).ext x9 fun q hq=>nT (by have:=(o7.lt hq).1; omega)).ext x912 fun q hq h=>by have:=(o7.lt hq).2; omega
 have ln:M.pages.length<=4800:=by have:=hcg.len; simp at this; omega
 have sb:Sub ps M:=hcg.sub fun q=>by simp
 refine apply_spec (t:=5) (xs:=gs) (ps:=ps) R12 hTr9 B.lv sb o12.rd (fun x h=>(hz x (hgz x h).1).r x012 B.tg) (by omega) (by show M.pages.length<=_; omega) (fun w' hb _=>?_) fun r' lev' ps' T' m' M' w13 _ A=>?_
 .obtain ⟨x,hx',hf⟩:=hb; exact (hf (hgz x hx').2).elim
 obtain ⟨R13,hbm,tg,x13,tr,hlv,cg⟩:=A
 have y13:=x13.size
 refine new_set rfl rfl (by simp [oneC]) fun b3 w15 g15 hb3 z15 x15=>?_
 have R15:=R13.no x15
 have y15:=x15.size
 have hle0:(e0=0/\0 < kvs.length)∨(e0=7/\kvs.length=0):=by
  rcases N.res with ⟨h1,h2⟩ | ⟨h1,h2,_⟩
  .exact .inr ⟨h1,h2.symm⟩
  .exact .inl ⟨h1,h2⟩
 have hsl:=B.prs.len
 refine ⟨fun w'=>w'=w15,If.bne (fun h=>absurd rfl h) fun _=>?_,?_⟩
 .rcases hle0 with ⟨h1,h2⟩ | ⟨h1,h2⟩
  .rw [show (!((e0 == 0) == decide ((s.len:Int) > 0)))=false by rw [h1,decide_eq_true (by omega)]; rfl]
   exact If.no rfl
  .rw [show (!((e0 == 0) == decide ((s.len:Int) > 0)))=false by rw [h1,decide_eq_false (by omega)]; rfl]
   exact If.no rfl
 rintro _ w16 rfl
 -- the old tree under what has been written
 have kp:∀ qs,Keep (beginM M 2 1).f M'.f qs:=fun _ q _ p hp _=>cg.kp q.p p hp (by
  have h1:p.r.c<=M.commit:=B.mem.cm _ (pgA_mem hp)
  show p.r.c≠2
  omega)
 have hTo:TreeT M'.f 5 r lev kvs ps:=hTr9.keep (kp _)
 have tT:∀{q},w12.heap.size<=q->¬ Ts T q:=fun h=>nT (by omega)
 have x1016:Ext (fun q=>w10.heap.size<=q∨Ts T q) w10 w16:=((x12.of_no).trans x13 fun q hq h => .inr h).no x15
 have ext16:Ext (Ts T) w10 w16:=(x12.of_no.trans x13 fun q hq h=>h).no x15
 have g16:w16.heap[b2]? = some (.cells [.slice ks0.a ks0.len ks0.cap, .slice vs0.a vs0.len vs0.cap].toArray 70 (0,0)):=get_no (get_ext g12 x13 (nT (by omega))) x15
 have y16:=ext16.size
 have hTn:∀{q},w7.heap.size<=q->q < w10.heap.size->T' q=none:=fun h1 h2=>by rw [tg _ (by omega)]; exact B.mem.supT (by omega)
 have hTs:∀{q},w16.heap.size<=q->T' q=none:=fun h1=>R15.supT h1
 have bk0:=N.bk
 have start:OldI w7.heap.size w10.heap.size w16.heap.size b2 (fun q=>(q < w7.heap.size∨ks0.blk=some q∨vs0.blk=some q)∨(w10.heap.size<=q/\q < w16.heap.size)) (fun q=>ks0.blk=some q∨vs0.blk=some q) M'.f m' 5 r lev bc kvs 0 e0 ks0 vs0 ⟨none,0,0⟩ [] w16:=by
  obtain ⟨a',ca,ha'⟩:=N.cur
  have c10:=(ca.more (X':=fun q=>(q < w7.heap.size∨ks0.blk=some q∨vs0.blk=some q)∨(w10.heap.size<=q/\q < w16.heap.size)) fun q h=>h.imp id fun h=>h.1).ext ext16 (X':=fun q=>(q < w7.heap.size∨ks0.blk=some q∨vs0.blk=some q)∨(w10.heap.size<=q/\q < w16.heap.size)) (fun q _ hn _ _=>nT (by omega)) (nT (by omega)) fun _ h=>h
  refine ⟨⟨a',(c10.f_keep kp).m_eq hbm,ha'⟩,fun q h=>?_,fun q h1 h2 => .inr ⟨h1,h2⟩,g16,Own.nil _ _ _ _,by simp,fun q h=>⟨.inl (.inr h),?_,by simp [Sl.blk],?_⟩,fun q h=>by simp [Sl.blk] at h,by simp,Nat.zero_le _,?_,fun q h=>h⟩
  .rcases h with (h | h) | h
   .omega
   .have:=bk0 q h; omega
   .omega
  .have:=bk0 q h; omega
  .have:=bk0 q h; omega
  .rcases N.res with h | ⟨h1,h2,h3,h4⟩
   .exact .inl h
   .exact .inr ⟨h1,h2,Rd.ext h3 ext16 fun a q ha hq=>nT (by have:=bk0 q (.inl (by simp [Sl.blk,ha,hq])); omega),Rd.ext h4 ext16 fun a q ha hq=>nT (by have:=bk0 q (.inr (by simp [Sl.blk,ha,hq])); omega)⟩
 have hb2':w10.heap.size<=b2/\b2 < w16.heap.size:=by omega
 have tN:∀{X:Nat->Prop},(∀ q,w10.heap.size<=q->q < w16.heap.size->X q)->∀ q,w7.heap.size<=q/\¬ X q->T' q=none:=fun fx q hq=>by
  rcases Nat.lt_or_ge q w10.heap.size with h | h
  .exact hTn hq.1 h
  .rcases Nat.lt_or_ge q w16.heap.size with h2 | h2
   .exact (hq.2 (fx q h h2)).elim
   .exact hTs h2
 have tb2:T' b2=none:=by rw [tg _ (by omega)]; exact B.mem.supT (by omega)
 have hTS:∀ q,(q=b2∨(w7.heap.size<=q/\¬ (w10.heap.size<=q/\q < w16.heap.size)))->T' q=none:=fun q h=>by
  rcases h with h | h
  .rw [h]; exact tb2
  .exact tN (X:=fun q=>w10.heap.size<=q/\q < w16.heap.size) (fun q h1 h2=>⟨h1,h2⟩) q h
 refine ⟨fun f seen w'=>f=7/\Ext (fun q=>q=b2∨(w7.heap.size<=q/\¬ (w10.heap.size<=q/\q < w16.heap.size))) w16 w'/\∃ Q Ls,PrsR w'.heap Q seen Ls/\kvsOf Ls=kvs,⟨fun q f seen w'=>∃ a X D ks vs Ls,q=(if f=0 then kvs.length - a else 0)/\OldI w7.heap.size w10.heap.size w16.heap.size b2 X D M'.f m' 5 r lev bc kvs a f ks vs seen Ls w'/\Ext (fun q=>q=b2∨(w7.heap.size<=q/\¬ (w10.heap.size<=q/\q < w16.heap.size))) w16 w',⟨_,0,_,_,_,_,[],rfl,start,Ext.refl _ _⟩,?_⟩,?_⟩
 .rintro _ m1 f seen w21 ⟨a,X,D,ks,vs,Ls,rfl,I,x21⟩
  have hal:=I.al
  have hLs:Ls.length=a/\seen.len=a:=by
   have h1:=congrArg List.length I.kv
   have h2:=I.own.len
   rw [flat_len' (prCs_len Ls)] at h2
   simp only [List.length_map,List.length_take] at h1
   omega
  refine ⟨fun w'=>w'=w21/\f=0,If.beq (fun hf=>If.dec (fun _=>⟨rfl,hf⟩) fun h=>absurd h (by omega)) fun hf=>?_,?_⟩
  .rcases I.res with ⟨h1,h2⟩ | ⟨h1,_⟩
   .exact ⟨h1,x21,D,Ls,⟨I.own.rd,I.pr⟩,by rw [I.kv,h2,List.take_length]⟩
   .exact absurd h1 hf
  rintro _ w22 ⟨rfl,hf⟩
  obtain ⟨ha,hks,hvs⟩ : ∃ h:a < kvs.length,RdB w22.heap ks kvs[a].1/\RdB w22.heap vs kvs[a].2:=by
   rcases I.res with ⟨h1,_⟩ | ⟨_,h⟩
   .omega
   .exact h
  refine ⟨ks,Cell.lst I.cell rfl,vs,Cell.lst I.cell rfl,NewW.mk fun b4 w23 n23=>?_⟩
  have y22:=x21.size; have z23:=n23.size
  have oy:Own w23.heap w22.heap.size 70 2 ⟨some ⟨b4,0,none⟩,1,1⟩ [.slice ks.a ks.len ks.cap, .slice vs.a vs.len vs.cap]:=Own.new n23 rfl (by simp [oneC])
  refine app_api_Pair (I.own.no n23.ext) (by omega) oy.rd.src (by show (seen.len+1) * 48<=_; omega) fun s1 w24 o24 _ x24 hbl=>?_
  have x24':Ext (fun q=>seen.blk=some q) w23 w24:=x24
  have y24:=x24'.size
  obtain ⟨a',ca,ha'⟩:=I.cur
  obtain rfl:a'=a+1:=ha' hf
  have sb1:∀ q,seen.blk=some q->w16.heap.size<=q:=fun q hq=>(I.own.lt hq).1
  have sl1:∀ q,s1.blk=some q->(seen.blk=some q∨w23.heap.size<=q)/\w16.heap.size<=q/\q < w24.heap.size:=fun q hq=>by
   refine ⟨?_,(o24.lt hq).1,(o24.lt hq).2⟩
   rcases hbl with h | ⟨c,h,hc⟩
   .exact .inl (by rw [<- h]; exact hq)
   .rw [h] at hq; cases hq; exact .inr hc
  have c24:=((ca.more (X':=fun q=>X q∨w22.heap.size<=q) fun q h=>h).no n23.ext).ext x24' (X':=fun q=>X q∨(w22.heap.size<=q/\q < w24.heap.size)) (fun q _ _ _ h h2=>h (.inl (I.sx q h2))) (fun h=>ca.2.1 (I.sx _ h)) fun q h=>h.imp id fun h=>h.1
  have R24:MemR w24.heap T' m' M':=((R15.ext x21 hTS).no n23.ext).ext x24' fun q hq=>hTs (sb1 q hq)
  refine next_any (X:=fun q=>X q∨(w22.heap.size<=q/\q < w24.heap.size)) R24 (by omega) hTo B.lv c24 (fun q h=>by
   rcases h with h | h
   .have:=I.hX q h; omega
   .omega) fun ks' vs' e' w25 N'=>?_
  have x25:=N'.ext
  have y25:=x25.size
  have Xb2:X b2:=I.fx b2 hb2'.1 hb2'.2
  have g25:w25.heap[b2]? = some (.cells [.slice ks.a ks.len ks.cap, .slice vs.a vs.len vs.cap].toArray 70 (0,0)):=get_ext (get_ext (get_no I.cell n23.ext) x24' fun h=>by have:=sb1 b2 h; omega) x25 fun h=>h.2 (.inl Xb2)
  refine st_all g25 rfl rfl (by simp [oneC]) fun w26 g26 x26 _=>?_
  have x26':Ext (·=b2) w25 w26:=x26
  have y26:=x26'.size
  have bk':=N'.bk
  have Xs1:∀ q,s1.blk=some q->X q∨(w22.heap.size<=q/\q < w24.heap.size):=fun q hq=>by
   have h:=sl1 q hq
   rcases h.1 with h1 | h1
   .exact .inl (I.sx q h1)
   .exact .inr ⟨by omega,h.2.2⟩
  have dlt:∀ q,D q->q < w22.heap.size:=fun q hq=>I.hX q (I.dd q hq).1
  have prs:∀ p:Pr,PrR w22.heap D p->PrR w26.heap (fun q=>D q∨ks'.blk=some q∨vs'.blk=some q) p:=fun p hp=>by
   have h1:=hp.ext n23.ext fun _ _ _ h=>h
   have h2:=h1.ext x24' fun q _ hq h=>(I.dd q hq).2.2.1 h
   have h3:=h2.ext x25 fun q _ hq h=>h.2 (.inl (I.dd q hq).1)
   have h4:=h3.ext x26' fun q _ hq h=>(I.dd q hq).2.2.2 h
   exact h4.mono fun q _ h => .inl h
  refine ⟨_,?_,a+1,fun q=>(X q∨(w22.heap.size<=q/\q < w24.heap.size))∨ks'.blk=some q∨vs'.blk=some q,fun q=>D q∨ks'.blk=some q∨vs'.blk=some q,ks',vs',Ls++[(⟨ks,vs⟩,kvs[a])],rfl,⟨?_,fun q h=>?_,fun q h1 h2 => .inl (.inl (I.fx q h1 h2)),g26,?_,fun p hp=>?_,fun q hq=>?_,fun q hq => .inl (Xs1 q hq),?_,by omega,?_,fun q h => .inr h⟩,?_⟩
  .rw [if_pos hf]; split <;> omega
  .obtain ⟨a2,c2,h2⟩:=N'.cur
   exact ⟨a2,c2.ext x26' (fun q _ _ _ h h3=>h (.inl (.inl (h3 ▸ Xb2)))) (fun h=>c2.2.1 (.inl (.inl (h ▸ Xb2)))) fun q h=>h,h2⟩
  .rcases h with (h | h) | h
   .have:=I.hX q h; omega
   .omega
   .have:=bk' q h; omega
  .have h1:=(o24.ext x25 fun q hq h=>h.2 (Xs1 q hq)).ext x26' fun q hq h=>by have:=(sl1 q hq).2; omega
   rw [List.flatMap_append]; exact h1
  .rcases List.mem_append.1 hp with h | h
   .exact prs p (I.pr p h)
   .rw [List.mem_singleton] at h; subst h
    exact prs _ ⟨hks,hvs,(hTr.keys _ (List.getElem_mem ha)).2.2,h8 _ (List.getElem_mem ha),fun _ q hq=>I.kb q (.inl hq),fun _ q hq=>I.kb q (.inr hq)⟩
  .rcases hq with hq | hq
   .have h1:=I.dd q hq
    refine ⟨.inl (.inl h1.1),h1.2.1,fun h=>?_,h1.2.2.2⟩
    rcases (sl1 q h).1 with h2 | h2
    .exact h1.2.2.1 h2
    .have:=dlt q hq; omega
   .have h1:=bk' q hq
    exact ⟨.inr hq,by omega,fun h=>by have:=(sl1 q h).2; omega,by omega⟩
  .rw [kvsOf,List.map_append,List.map_singleton,List.take_add_one,List.getElem?_eq_getElem ha]
   have:=I.kv
   rw [kvsOf] at this
   rw [this]; rfl
  .rcases N'.res with h | ⟨h1,h2,h3,h4⟩
   .exact .inl h
   .exact .inr ⟨h1,h2,Rd.ext h3 x26' fun a q ha hq h=>by have:=bk' q (.inl (by simp [Sl.blk,ha,hq])); omega,Rd.ext h4 x26' fun a q ha hq h=>by have:=bk' q (.inr (by simp [Sl.blk,ha,hq])); omega⟩
  .refine (((x21.no n23.ext).trans x24' fun q _ h => .inr ⟨by have:=sb1 q h; omega,fun h2=>by have:=sb1 q h; omega⟩).trans x25 fun q _ h => .inr ⟨h.1,fun h2=>h.2 (.inl (I.fx q h2.1 h2.2))⟩).trans x26' fun q _ h => .inl h
 rintro _ f seen w27 ⟨rfl,x27,Q,Ls,hp,hkvs⟩
 have y27:=x27.size
 have R27:MemR w27.heap T' m' M':=R15.ext x27 hTS
 have gb16:=get_no (get_ext g12b x13 (nT (by omega))) x15
 have gb27:=get_ext gb16 x27 (by omega)
 have gc27:=get_ext g15 x27 (by omega)
 refine ⟨_,Cell.lst gb27 rfl,_,Cell.lst gb27 rfl,_,Cell.lst gb27 rfl,_,Cell.lst gb27 rfl,?_⟩
 rw [<- hbm]
 have tk:∀{a:List KV},a.length<=1000->a.take (1000:Int).toNat=a:=fun h=>List.take_of_length_le (by show _<=1000; omega)
 refine range_spec (fb:=[]) (tb:=[]) R27 hTo B.lv (by omega) h8 (Rd.nil _ _) b8nil (Rd.nil _ _) b8nil fun s1 L1 w28 p1 _ e1 x28=>?_
 have gc28:=get_no gc27 x28
 refine ⟨_,Cell.lst gc28 rfl,_,Cell.lst gc28 rfl,_,Cell.lst gc28 rfl,_,Cell.lst gc28 rfl,?_⟩
 have hgs160:(opsL gs kvs).length<=160:=by have:=opsL_len gs kvs; omega
 have h8g:∀ x∈opsL gs kvs,B8 x.2:=fun x hx'=>by
  rcases opsL_mem gs hx' with h | ⟨y,hy,_,h⟩
  .exact h8 x h
  .rw [<- h]; exact (hz y (hgz y hy).1).v8
 refine range_spec (fb:=[]) (tb:=[]) (R27.no x28) tr hlv (by omega) h8g (Rd.nil _ _) b8nil (Rd.nil _ _) b8nil fun s2 L2 w29 p2 sb2 e2 x29=>?_
 rw [rngAll,if_neg (by decide),tk (by omega)] at e1 e2
 have x2729:=x28.no x29
 have l1:L1.length=kvs.length:=by rw [<- e1]; simp
 have l2:L2.length=(opsL gs kvs).length:=by rw [<- e2]; simp
 have lL:Ls.length=kvs.length:=by rw [<- hkvs]; simp
 -- the document's pairs
 have x416:Ext (fun q=>Ts T q∨w4.heap.size<=q) w4 w16:=(((((x6.of_no.no x7).no x8).trans x9 fun q _ h => .inl h).trans x912 fun q _ h => .inr (by omega)).trans x13 fun q _ h => .inl h).no x15
 have sbs:=B.sb
 have prs16:PrsR w16.heap (fun q=>T q=none/\q < w4.heap.size) s L:=B.prs.ext x416 (fun q hq h=>h.elim (fun h=>h (sbs q hq).1) fun h=>by have:=(sbs q hq).2; omega) fun q _ hq h=>h.elim (fun h=>h hq.1) fun h=>by omega
 have prs29:=(prs16.ext x27 (fun q hq h=>by have:=(sbs q hq).2; omega) fun q _ hq h=>by omega).no x2729
 have good29:Rd w29.heap good 3 (gs.flatMap OpV.cs):=((((o12.ext x13 fun q hq=>nT (by have:=(o7.lt hq).1; omega)).no x15).ext x27 fun q hq h=>by have:=(o7.lt hq).2; omega).no x2729).rd
 have x016:Ext No w3 w16:=(x012.trans x13 fun q hq h=>nT3 hq h).no x15
 have y03:=x07.size
 have x029:Ext No w3 w29:=(x016.trans x27 fun q hq h=>by omega).no x2729
 have hT':∀ q,q < w3.heap.size->T' q=none:=fun q hq=>by rw [tg _ (by omega)]; exact B.tg q hq
 refine ⟨fun w'=>MemR w'.heap T' m' (scrubM M')/\Ext (Ts T') w29 w',If.bne (fun h=>absurd rfl h) fun _=>If.bne (fun h=>absurd rfl h) fun _=>If.bne (fun h=>absurd rfl h) fun _=>?_,?_⟩
 .refine refSame_spec (hp.no x2729) prs29 (hkvs.trans hkv.symm) (by omega) fun w30 x30=>If.not (If.yes ?_)
  refine refSame_spec (p1.no (x29.no x30)) (prs29.no x30) (e1.trans hkv.symm) (by omega) fun w31 x31=>If.not (If.yes ?_)
  have x2931:=x30.no x31
  refine refApply_spec (prs29.no x2931) (by rw [hkv]; exact hs) (good29.no x2931) (fun x h=>(hz x (hgz x h).1).no (x029.no x2931)) (fun x h=>(hgz x h).2) (by omega) fun s3 L3 w32 p3 _ e3 _ x32=>?_
  refine refSame_spec (p2.no (x2931.no x32)) p3 (by rw [e2,e3,hkv]) (by omega) fun w33 x33=>If.not (If.yes ?_)
  have x2933:=(x2931.no x32).no x33
  exact memScrub_spec ((R27.no x2729).no x2933) fun w34 R34 x34=>If.bne (fun h=>absurd rfl h) fun _=>⟨R34,x2933.of_no.trans x34 fun q _ h=>h⟩
 rintro _ w35 ⟨R35,x35⟩
 have tn13:∀{q},w13.heap.size<=q->¬ Ts T' q:=fun h h'=>h' (R13.supT h)
 have gc35:=get_ext (get_no gc28 x29) x35 (tn13 (by omega))
 refine ⟨_,Cell.lst gc35 rfl,_,Cell.lst gc35 rfl,_,Cell.lst gc35 rfl,_,Cell.lst gc35 rfl,?_⟩
 have y28:=x28.size
 refine range_spec (fb:=[]) (tb:=[]) R35 (tr.keep (Keep.scrub R13.sane (cg.sub sb))) hlv (by omega) h8g (Rd.nil _ _) b8nil (Rd.nil _ _) b8nil fun s4 L4 w36 p4 _ e4 x36=>If.beq (fun _=>?_) fun h=>absurd rfl h
 rw [rngAll,if_neg (by decide),tk (by omega)] at e4
 have p2':=p2.ext x35 (fun q hq=>tn13 (by have:=(sb2 q hq).1; omega)) fun q _ hq=>tn13 (by omega)
 exact refSame_spec (p2'.no x36) p4 (e2.trans e4.symm) (by omega) fun w37 x37=>If.yes (known16 fun w38 x38=>k w38 ((((x029.trans x35 fun q hq h=>h (hT' q hq)).no x36).no x37).no x38))
end
end Go.Proofs.YtcamoanigdfihaaGreat
