/- Texts for LWitnessNone, part 13. -/
import Derived.Lib.MakeNoZero
import Derived.Test.YtmbckodpbdlblaaGreatQw12
set_option maxRecDepth 100000
namespace Go.V
theorem ext_alloc(w:Wd)(o:Obj):Ext No w (w.alloc o):=by
 refine ⟨rfl,rfl,rfl,?_,fun b hb _=>?_⟩
 .show w.heap.size<=(w.heap.push o).size
  rw [Array.size_push]; omega
 .exact heap_push _ _ _ hb
theorem setL_take{row vs:List Value}{o:Nat}(h:o+vs.length<=row.length):(setL row o vs).take (o+vs.length)=row.take o++vs/\(setL row o vs).length=row.length:=by
 rw [setL_eq _ _ _ h]
 constructor
 .rw [List.take_append_of_le_length (by rw [List.length_append,List.length_take]; omega),List.take_of_length_le (by rw [List.length_append,List.length_take]; omega)]
 .simp only [List.length_append,List.length_take,List.length_drop]; omega
end Go.V
namespace Go.Proofs.YtmbckodpbdlblaaGreat
open Go.V Go.V.Pk
section
variable {w:Wd} {Q:Nat->Prop}
theorem run_mnz(n:Nat)(hn:n<=281474976710656)(w:Wd):∃ cs:Array Value,Sem.run pz (callFunc 389 #[.int .i64 n]) w = .ok (.value (.slice (some ⟨w.heap.size,0,none⟩) n cs.size)) (w.drew.drew.alloc (.cells cs 5))/\n<=cs.size:=by
 obtain ⟨cs,h1,h2,_⟩:=Lib.run_makeNoZero (P:=pz) w #[3] 22 5 (by kernel_rfl) n hn
 refine ⟨cs,?_,h2⟩
 rw [run_callFunc_extern Tryz.func389 (by kernel_rfl) (by kernel_rfl) (by kernel_rfl) (e:=Extern.BytealgMakeNoZero.makeNoZero #[3] #[22]) (by kernel_rfl),h1]; rfl
theorem cpy{b n bp:Nat}{row:List Value}{x:Sl}{xs:List Value}{T:TypeId}{K:Int->Wd->Prop}(hb:w.heap[b]? = some (.cells row.toArray T (0,0)))(hr:n<=row.length)(hbp:bp<=n)(hx:Rd w.heap x 1 xs)(hxl:x.len<=n - bp)
  (hk:∀ w',w'.heap[b]? = some (.cells (setL row bp xs).toArray T (0,0))->Ext (·=b) w w'->w'.heap.size=w.heap.size->K (x.len:Int) w'):Cut ⟨some ⟨b,0,none⟩,n,n⟩ (bp:Int) ((n:Nat):Int) ((n:Nat):Int) 1 fun d=>CopyW pz 22 22 d (.slice x.a x.len x.cap) K w:=by
 refine Cut.mk (by omega) (by omega) (by omega) (by simp) ?_
 have e1:((n:Int) - (bp:Int)).toNat=n - bp:=by omega
 simp only [Int.toNat_natCast,e1]
 have hxs:xs.length=x.len:=by have:=hx.len; omega
 have full:xs.take (x.len * 1)=xs:=List.take_of_length_le (by omega)
 have hmin:min x.len (n - bp)=x.len:=Nat.min_eq_left hxl
 by_cases e:n=bp
 .subst e
  have hx0:xs=[]:=List.eq_nil_of_length_eq_zero (by omega)
  refine copy_uint8 (off:=0) (b:=b) (by unfold cutA; rw [if_pos rfl]) hb hx (by simp) fun w' h=>?_
  simp only [hmin,full] at h ⊢
  refine hk w' ?_ h.ext h.size
  have:=h.get hb
  rw [hx0] at this ⊢
  simpa [setL] using this
 .refine copy_uint8 (off:=bp) (b:=b) (by unfold cutA; rw [if_neg e]; simp [addr_add_none]) hb hx (by simp only; omega) fun w' h=>?_
  simp only [hmin,full] at h ⊢
  exact hk w' (h.get hb) h.ext h.size
abbrev cat(ps:List (Sl×List Int)):List Int:=(ps.map Prod.snd).flatten
theorem cat_snoc{ps:List (Sl×List Int)}{j:Nat}(h:j < ps.length):cat (ps.take (j+1))=cat (ps.take j)++ps[j].2:=by
 unfold cat
 rw [List.take_add_one,List.getElem?_eq_getElem h]; simp only [Option.toList_some,List.map_append,List.map_cons,List.map_nil,List.flatten_append,List.flatten_cons,List.flatten_nil,List.append_nil]
theorem cat_le(ps:List (Sl×List Int))(j:Nat):(cat (ps.take j)).length<=(cat ps).length:=by
 have e:cat ps=cat (ps.take j)++cat (ps.drop j):=by unfold cat; rw [<- List.flatten_append,<- List.map_append,List.take_append_drop]
 rw [e,List.length_append]; omega
set_option maxHeartbeats 1000000 in
theorem bjoin_spec{sl:Sl}{ps:List (Sl×List Int)}{K:Sl->Wd->Prop}(hs:Rd w.heap sl 1 (ps.map fun p=>p.1.v))(hp:∀ p∈ps,RdB w.heap p.1 p.2)(hb:(cat ps).length<=1099511627776)(hn:ps.length<=4294967296)
  (k:∀ s w',RdB w'.heap s (cat ps)->(2<=ps.length->s.cap=s.len)->(∀ b,s.blk=some b->w.heap.size<=b)->Ext No w w'->K s w'):C_bytes_Join sl ⟨none,0,0⟩ w K:=by
 apply S_bytes_Join
 have hl:sl.len=ps.length:=by have:=hs.len; simp at this; exact this.symm
 have pick:∀{w':Wd}{j:Nat}(h:j < ps.length){K':Addr->Prop},Ext No w w'->(∀ a,Cell w' a (.slice ps[j].1.a ps[j].1.len ps[j].1.cap)->K' a)->Ix sl.a sl.len ((j:Nat):Int) 1 K':=fun {w' j} h {K'} x k'=>by
  refine Ix.cell (hs.no x) (by omega) (by omega) fun bb o v _ hv hc=>?_
  rw [Int.toNat_natCast,List.getElem?_map,List.getElem?_eq_getElem h] at hv
  simp only [Option.map_some,Option.some.injEq] at hv
  subst hv
  exact k' _ hc
 refine If.beq (fun h0=>?_) fun h0=>If.beq (fun h1=>?_) fun h1=>?_
 .have hnil:ps=[]:=List.eq_nil_of_length_eq_zero (by omega)
  subst hnil
  refine NewW.mk fun b w1 n1=>?_
  have o:=Own.new (sz:=1) (n:=0) n1 rfl (by simp)
  refine k _ w1 (by simpa [RdB,cat] using o.rd) (fun h=>absurd h (by simp)) (fun q hq=>(o.lt hq).1) n1.ext
 .have h1':ps.length=1:=by omega
  have h0':0 < ps.length:=by omega
  refine pick (j:=0) h0' (Ext.refl _ _) fun a hc=>⟨_,hc,?_⟩
  have hr:=hp _ (List.getElem_mem h0')
  have hlen:=RdB.len hr
  have e:cat ps=ps[0].2:=by
   have h3:=cat_snoc h0'
   rw [show ps.take (0+1)=ps from List.take_of_length_le (by omega)] at h3
   simpa [cat] using h3
  rw [e] at hb k
  exact app_uint8 (Own.nil w.heap w.heap.size 5 1) (Nat.le_refl _) hr.src (by simp only; omega) fun s' w' o' _ x' _=>k s' w' (by simpa [RdB] using o'.rd) (fun h=>by omega) (fun q hq=>(o'.lt hq).1) (x'.mono fun q _ h=>by simp [Sl.blk] at h)
 .have h2:2<=ps.length:=by omega
  refine ⟨fun n w'=>n=0/\w'=w,If.dec (fun h=>absurd h (by decide)) fun _=>⟨rfl,rfl⟩,?_⟩
  rintro _ n w4 ⟨rfl,rfl⟩
  refine ⟨fun m n t w'=>w'=w4/\∃ j:Nat,t=j/\j<=ps.length/\m=ps.length - j/\n=((cat (ps.take j)).length:Int),⟨_,rfl,0,rfl,Nat.zero_le _,rfl,by simp [cat]⟩,?_⟩
  rintro _ m0 n t w5 ⟨rfl,j,rfl,hj,rfl,rfl⟩
  have hle:=cat_le ps j
  refine If.dec (fun h=>?_) fun h=>?_
  .have hj':j < ps.length:=by omega
   refine pick hj' (Ext.refl _ _) fun a hc=>⟨_,hc,?_⟩
   have hlen:=RdB.len (hp _ (List.getElem_mem hj'))
   have h3:=cat_le ps (j+1)
   rw [cat_snoc hj',List.length_append] at h3
   refine Ar.i64 (by omega) (If.dec (fun h=>by omega) fun _=>Ar.i64 (by omega) (Ar.i64 (by omega) ⟨_,by omega,rfl,j+1,by omega,by omega,rfl,?_⟩))
   rw [cat_snoc hj',List.length_append]; omega
  .have hjn:j=ps.length:=by omega
   rw [hjn,List.take_length]
   obtain ⟨cs,hr,hcs⟩:=run_mnz (cat ps).length (by omega) w5
   let q:=w5.heap.size
   let w6:=(World.drew (World.drew w5)).alloc (.cells cs 5)
   have x6:Ext No w5 w6:=by
    have e:Ext No (World.drew (World.drew w5)) w6:=ext_alloc _ _
    have e0:Ext No w5 (World.drew (World.drew w5)):=⟨rfl,rfl,rfl,Nat.le_refl _,fun _ _ _=>rfl⟩
    exact e0.no e
   have g6:w6.heap[q]? = some (.cells cs.toList.toArray 5 (0,0)):=by
    have:w6.heap[q]? = some (.cells cs 5 (0,0)):=by show (w5.heap.push _)[w5.heap.size]? = _; simp
    simpa using this
   have z6:q < w6.heap.size:=by show w5.heap.size < (w5.heap.push _).size; rw [Array.size_push]; omega
   refine ⟨⟨some ⟨q,0,none⟩,(cat ps).length,cs.size⟩,w6,hr,?_⟩
   refine Cut.mk (Int.le_refl _) (by omega) (Int.le_refl _) (by simp only; omega) ?_
   have ec:cutA (some ⟨q,0,none⟩) (cat ps).length 0 1=some (⟨q,0,none⟩ : Addr):=by
    unfold cutA; split
    .rfl
    .simp [addr_add_none]
   have e0:(((cat ps).length:Int) - 0).toNat=(cat ps).length:=by omega
   simp only [Int.toNat_natCast,Int.toNat_zero,ec,e0]
   refine pick (j:=0) (by omega) x6 fun a hc=>⟨_,hc,?_⟩
   have h0':0 < ps.length:=by omega
   have hrd0:=hp _ (List.getElem_mem h0')
   have hlen0:=RdB.len hrd0
   have hc1:cat (ps.take 1)=ps[0].2:=by
    have:=cat_snoc h0'
    simpa [cat] using this
   have hle1:=cat_le ps 1
   rw [hc1] at hle1
   have hcl:cs.toList.length=cs.size:=by simp
   refine copy_uint8 (off:=0) (b:=q) rfl g6 (Rd.no hrd0 x6) (by simp only; omega) fun w7 h7=>?_
   have hmin:min ps[0].1.len (cat ps).length=ps[0].1.len:=Nat.min_eq_left (by omega)
   have hfull:(ps[0].2.map (Value.int .u8)).take (ps[0].1.len * 1)=ps[0].2.map (Value.int .u8):=List.take_of_length_le (by simp; omega)
   simp only [hmin,hfull] at h7 ⊢
   have g7:=h7.get g6
   have x7:Ext (·=q) w6 w7:=h7.ext
   have s7:=setL_take (row:=cs.toList) (vs:=ps[0].2.map (Value.int .u8)) (o:=0) (by simp; omega)
   have x57:Ext No w5 w7:=x6.trans x7 fun i hi h=>by have h':i=w5.heap.size:=h; omega
   have hscap:=hs.cap
   refine Cut.mk (by decide) (by omega) (by omega) (Int.le_refl _) ?_
   -- the rest of the pieces
   have hsr:Rd w5.heap ⟨cutA sl.a sl.cap 1 1,sl.len - 1,sl.cap - 1⟩ 1 ((ps.map fun p=>p.1.v).drop 1):=by
    have hcap:=hs.cap
    have:=hs.cut (lo:=1) (hi:=sl.len) (mx:=sl.cap) (by omega) (Nat.le_refl _) hcap
    have e2:(((ps.map fun p=>p.1.v).drop (1 * 1)).take ((sl.len - 1) * 1))=(ps.map fun p=>p.1.v).drop 1:=List.take_of_length_le (by simp; omega)
    rw [e2] at this; exact this
   have e1:((sl.len:Int) - 1).toNat=sl.len - 1:=by omega
   have e2:((sl.cap:Int) - 1).toNat=sl.cap - 1:=by have:=hs.cap; omega
   have e3:(1:Int).toNat=1:=rfl
   simp only [Int.toNat_natCast,e1,e3]
   refine ⟨fun m bp t w'=>∃ (j:Nat) (row:List Value),t=j/\j+1<=ps.length/\m=ps.length - j/\bp=((cat (ps.take (j+1))).length:Int)/\w'.heap[q]? = some (.cells row.toArray 5 (0,0))/\row.length=cs.size/\row.take (cat (ps.take (j+1))).length=(cat (ps.take (j+1))).map (Value.int .u8)/\Ext No w5 w'/\q < w'.heap.size,
    ⟨_,0,_,rfl,by omega,rfl,?_,g7,by rw [s7.2,hcl],?_,x57,by have:=x7.size; omega⟩,?_⟩
   .show _=((cat (ps.take (0+1))).length:Int)
    rw [Nat.zero_add,hc1,hlen0]
   .show (setL _ _ _).take (cat (ps.take (0+1))).length=(cat (ps.take (0+1))).map _
    rw [Nat.zero_add,hc1]
    have:=s7.1
    simpa using this
   rintro _ m1 bp t w8 ⟨j,row,rfl,hj,rfl,rfl,g8,hrl,hrow,x8,z8⟩
   refine If.dec (fun h=>?_) fun h=>?_
   .have hj':j+1 < ps.length:=by have h':(j:Int) < ((sl.len - 1:Nat):Int):=h; omega
    refine Ix.cell (hsr.no x8) (by omega) h fun bb o v _ hv hc=>?_
    rw [Int.toNat_natCast,List.getElem?_drop,Nat.add_comm 1 j,List.getElem?_map,List.getElem?_eq_getElem hj'] at hv
    simp only [Option.map_some,Option.some.injEq] at hv
    subst hv
    have hrd:=hp _ (List.getElem_mem hj')
    have hlen:=RdB.len hrd
    have hle2:=cat_le ps (j+2)
    have hcs2:=cat_snoc hj'
    rw [hcs2,List.length_append] at hle2
    have hle3:=cat_le ps (j+1)
    refine ⟨_,hc,cpy g8 (by omega) (by omega) (x:=⟨none,0,0⟩) (xs:=[]) (Rd.nil _ _) (Nat.zero_le _) fun w9 g9 x9 z9=>Ar.i64 (by simp only; omega) ?_⟩
    have es:setL row (cat (ps.take (j+1))).length []=row:=by simp [setL]
    rw [es] at g9
    have x59:Ext No w5 w9:=x8.trans x9 fun i hi h=>by have h':i=w5.heap.size:=h; omega
    have ez:(((cat (ps.take (j+1))).length:Int)+((0:Nat):Int))=((cat (ps.take (j+1))).length:Int):=by omega
    simp only [ez]
    refine cpy g9 (by omega) (by omega) (hrd.no x59) (by omega) fun w10 g10 x10 z10=>Ar.i64 (by omega) (Ar.i64 (by omega) ⟨_,by omega,j+1,_,by omega,by omega,rfl,?_,g10,?_,?_,x59.trans x10 fun i hi h=>by have h':i=w5.heap.size:=h; omega,by omega⟩)
    .rw [hcs2,List.length_append]; omega
    .rw [(setL_take (by rw [List.length_map]; omega)).2,hrl]
    .have:=(setL_take (row:=row) (vs:=ps[j+1].2.map (Value.int .u8)) (o:=(cat (ps.take (j+1))).length) (by rw [List.length_map]; omega)).1
     rw [List.length_map] at this
     rw [hcs2,List.length_append,this,hrow,List.map_append]
   .have hjn:j+1=ps.length:=by have h':¬ (j:Int) < ((sl.len - 1:Nat):Int):=h; omega
    rw [hjn,List.take_length] at hrow
    have own:Own w8.heap w5.heap.size 5 1 ⟨some ⟨q,0,none⟩,(cat ps).length,cs.size⟩ ((cat ps).map (Value.int .u8)):=by
     have e:(cat ps).map (Value.int .u8)++row.drop (cat ps).length=row:=by
      conv=>rhs; rw [<- List.take_append_drop (cat ps).length row,hrow]
     refine ⟨by rw [List.length_map,Nat.mul_one], .inr ⟨q,row.drop (cat ps).length,rfl,Nat.le_refl _,?_,?_,hcs⟩,oneC_ints⟩
     .rw [e]; exact g8
     .rw [e,hrl,Nat.mul_one]
    refine k _ w8 ?_ (fun _=>rfl) (fun b hb=>by simp [Sl.blk] at hb; show w5.heap.size<=b; omega) x8
    exact ⟨own.rd.len,Nat.le_refl _,own.rd.at_,own.rd.cells⟩
end
end Go.Proofs.YtmbckodpbdlblaaGreat
namespace Go.V
open Go.V.Pk
theorem textB_len(l:List Int)(h:l.length<=1000000000):(textB l).length<=l.length+10:=by
 unfold textB; rw [List.length_append]; have:=numB_len10 (n:=l.length) (by omega); omega
abbrev numsB(l:List Int):List Int:=(l.map fun n=>numB n.toNat).flatten
end Go.V
namespace Go.Proofs.YtmbckodpbdlblaaGreat
open Go.V Go.V.Pk
section
variable {w:Wd} {Q:Nat->Prop}
theorem app_bytes_new{s x:Sl}{cs xs:List Int}{K:Sl->Wd->Prop}(rd:RdB w.heap s cs)(rx:RdB w.heap x xs)(hcap:s.cap < s.len+x.len)(hb:s.len+x.len<=1099511627776)(hk:∀ s' w',OwnB w'.heap w.heap.size s' (cs++xs)->Ext No w w'->K s' w') :
  AppW pz 22 22 s (.slice x.a x.len x.cap) K w :=
 app_new (P:=pz) (e:=5) (d := .slice 5) (ie:=Tryz.t5) (z:=Tryz.t5.zero.getD .nilFunc) (by kernel_rfl) (by kernel_rfl) (fun k h=>by cases h) (by kernel_rfl) (by kernel_rfl) (by kernel_rfl) (by kernel_rfl) (by decide) rd hcap rx.src (by show (s.len+x.len) * 1<=_; omega)
  fun s' w' o _ x'=>hk s' w' (by show Own _ _ 5 1 s' ((cs++xs).map _); rw [List.map_append]; exact o) x'
abbrev pcV(ps:List (Sl×List Int)):List Value:=ps.map fun p=>p.1.v
theorem push_pc{w1:Wd}{base b:Nat}{out r:Sl}{ps:List (Sl×List Int)}{m:List Int}{K:Sl->Wd->Prop}(o:Own w.heap base 22 1 out (pcV ps))(hp:∀ p∈ps,RdQ (fun q=>base<=q/\out.blk≠some q) w.heap p.1 p.2)
  (hr:RdQ (fun q=>base<=q/\out.blk≠some q) w.heap r m) (n:New w (.cells [.slice r.a r.len r.cap].toArray 22) b w1) (hb:base<=w.heap.size) (hl:ps.length<=1000)
  (k:∀ s' w',Own w'.heap base 22 1 s' (pcV (ps++[(r,m)]))->(∀ p∈ps++[(r,m)],RdQ (fun q=>base<=q/\s'.blk≠some q) w'.heap p.1 p.2)->Ext (fun q=>out.blk=some q) w w'->K s' w'):AppW pz 25 25 out (.slice (some (Addr.mk b 0 none)) 1 1) K w1:=by
 have x:=n.ext
 have z:=n.size
 have hol:out.len=ps.length:=by have:=o.rd.len; simp at this; exact this.symm
 have src:Src pz w1 (.slice (some (Addr.mk b 0 none)) 1 1) 1 1 [r.v]:=(Own.new (sz:=1) (n:=1) n rfl (by simp [oneC])).rd.src
 refine app_sl_uint8 (o.no x) (by omega) src (by rw [hol]; omega) fun s' w' o' _ x' hbl=>?_
 have x2:Ext (fun q=>out.blk=some q) w w':=x.of_no.trans x' fun _ _ h=>h
 refine k s' w' (by unfold pcV; rw [List.map_append]; exact o') (fun p hp'=>?_) x2
 have key:∀{t l},RdQ (fun q=>base<=q/\out.blk≠some q) w.heap t l->RdQ (fun q=>base<=q/\s'.blk≠some q) w'.heap t l:=fun {t l} h=>by
  refine ((h.lt).ext x2 fun q hq h=>hq.1.2 h).mono fun q hq=>⟨hq.1.1,fun h=>?_⟩
  rcases hbl with h1 | ⟨b',h1,h2⟩
  .exact hq.1.2 (h1 ▸ h)
  .rw [h1] at h; cases h; have:=hq.2; omega
 rcases List.mem_append.1 hp' with h | h
 .exact key (hp p h)
 .rw [List.mem_singleton] at h; subst h; exact key hr
theorem joinedN_spec{s:Sl}{l:List Int}{K:Sl->Wd->Prop}(rl:Rd w.heap s 1 (l.map (Value.int .u64)))(hr:∀ x∈l,0<=x/\x<=18446744073709551615)(hl:l.length<=1000)
  (k:∀ o ps w',Own w'.heap w.heap.size 22 1 o (pcV ps)->(∀ p∈ps,RdQ (fun q=>w.heap.size<=q/\o.blk≠some q) w'.heap p.1 p.2)->ps.map Prod.snd=l.map (fun n=>numB n.toNat)->Ext No w w'->K o w'):C_roll_joined_uint64_byte s (.func (.func 307) #[] #[]) w K:=by
 apply S_roll_joined_uint64_byte
 have hsl:s.len=l.length:=by have:=rl.len; simp at this; exact this.symm
 refine ⟨fun m out t w'=>∃ (j:Nat) (ps:List (Sl×List Int)),t=j/\j<=l.length/\m=l.length - j/\Own w'.heap w.heap.size 22 1 out (pcV ps)/\(∀ p∈ps,RdQ (fun q=>w.heap.size<=q/\out.blk≠some q) w'.heap p.1 p.2)/\ps.map Prod.snd=(l.take j).map (fun n=>numB n.toNat)/\Ext No w w',
  ⟨_,0,[],rfl,Nat.zero_le _,rfl,Own.nil _ _ _ _,by simp,by simp,Ext.refl _ _⟩,?_⟩
 rintro _ m0 out _ w1 ⟨j,ps,rfl,hj,rfl,o1,hp,hpl,x1⟩
 have hpn:ps.length=j:=by have:=congrArg List.length hpl; simp at this; omega
 refine If.dec (fun h=>?_) fun h=>?_
 .have hjl:j < l.length:=by omega
  refine Ix.cell (rl.no x1) (by omega) h fun b o v _ hv hc=>?_
  rw [Int.toNat_natCast,List.getElem?_map,List.getElem?_eq_getElem hjl] at hv
  simp only [Option.map_some,Option.some.injEq] at hv
  subst hv
  have hx:=hr _ (List.getElem_mem hjl)
  have z1:=x1.size
  refine ⟨_,hc,V_pack_Num (num_spec hx.1 hx.2 fun r w2 o2 x2=>NewW.mk fun b1 w3 n3=>?_)⟩
  have z2:=x2.size
  refine push_pc (m:=numB l[j].toNat) (o1.no x2) (fun p hp'=>(hp p hp').no x2) (.own o2 fun q h1 _=>⟨by omega,fun h=>by have:=(o1.lt h).2; omega⟩) n3 (by omega) (by omega) fun s' w4 o4 hp4 x4=>Ar.i64 (by omega) ⟨_,by omega,j+1,_,by omega,by omega,rfl,o4,hp4,?_,?_⟩
  .rw [take_snocH hjl,List.map_append,List.map_append,hpl]; rfl
  .exact (x1.no x2).trans x4 fun q hq h=>by have:=(o1.lt h).1; omega
 .have hjn:j=l.length:=by omega
  rw [hjn,List.take_length] at hpl
  exact k out ps w1 o1 hp hpl x1
theorem rnumbers_spec{s:Sl}{l:List Int}{K:Sl->Wd->Prop}(rl:Rd w.heap s 1 (l.map (Value.int .u64)))(hr:∀ x∈l,0<=x/\x<=18446744073709551615)(hl:l.length<=1000)(h2:2<=l.length)
  (k:∀ t w',RdB w'.heap t (numsB l)->t.cap=t.len->Ext No w w'->K t w'):C_roll_Bytes_1 s w K:=by
 apply S_roll_Bytes_1
 refine joinedN_spec rl hr hl fun o ps w1 o1 hp hpl x1=>?_
 have hpn:ps.length=l.length:=by have:=congrArg List.length hpl; simpa using this
 have hcat:cat ps=numsB l:=by unfold cat; rw [hpl]
 have hlen:∀(l:List Int),(∀ x∈l,0<=x/\x<=18446744073709551615)->(numsB l).length<=l.length * 10:=fun l=>by
  induction l with
  | nil=>simp
  | cons x l ih =>
   intro h
   have h1:=ih fun y hy=>h y (List.mem_cons_of_mem _ hy)
   have h3:=h x List.mem_cons_self
   have h4:=numB_len10 (n:=x.toNat) (by omega)
   simp only [numsB,List.map_cons,List.flatten_cons,List.length_append,List.length_cons] at h1 ⊢
   omega
 have hb:=hlen l hr
 refine bjoin_spec o1.rd (fun p hp'=>(hp p hp').rd) (by rw [hcat]; omega) (by omega) fun t w2 r2 hcap _ x2=>k t w2 (by rw [<- hcat]; exact r2) (hcap (by omega)) (x1.no x2)
theorem heldB_len{h:HeldP}(r:RngH h)(hw:h.wr.length<=1000):(heldB h).length<=h.wr.length+30:=by
 have h1:=numB_len10 (n:=h.gen.toNat) (by have:=r.gen; omega)
 have h2:=numB_len10 (n:=h.cm.toNat) (by have:=r.cm; omega)
 have h3:=textB_len h.wr (by omega)
 unfold heldB; simp only [List.length_append]; omega
theorem heldBytes_spec{v:HeldV}{x:HeldP}{cb:Nat}{K:Sl->Wd->Prop}(r:HeldR Q w.heap v x)(rg:RngH x)(hw:x.wr.length<=1000)(gc:w.heap[cb]? = some (.cells [.func (.func 304) #[] #[]].toArray 415 (0,0)))
  (k:∀ t w',OwnB w'.heap w.heap.size t (heldB x)->Ext No w w'->K t w'):C_roll_Bytes_2 v.gen v.cm v.wr ⟨cb,0,none⟩ w K:=by
 apply S_roll_Bytes_2
 refine NewW.mk fun b w1 n1=>?_
 have x1:=n1.ext
 have g1:w1.heap[b]? = some (.cells v.cells.toArray 172 (0,0)):=n1.get
 have gc1:=get_no gc x1
 have e1:=r.gen; have e2:=r.cm
 have hg:=rg.gen; have hc:=rg.cm
 refine ⟨Ext No w1,(Ext.refl _ _).drew, .func (.func 304) #[] #[],held0 gc1 rfl,v.gen,held0 g1 rfl,Ar.u64 (by omega) ⟨v.cm,heldE g1 rfl,v.wr,heldE g1 rfl,NewW.mk fun b2 w2 n2=>⟨(Ext.refl No w1).drew.no n2.ext,?_⟩⟩⟩
 have rl:Rd w2.heap ⟨some ⟨b2,0,none⟩,2,2⟩ 1 ([v.gen,v.cm].map (Value.int .u64)):=(Own.new (sz:=1) (n:=2) n2 rfl (by simp [oneC])).rd
 have x12:Ext No w1 w2:=(Ext.refl No w1).drew.no n2.ext
 refine V_roll_Bytes_1 (l:=⟨some ⟨b2,0,none⟩,2,2⟩) (rnumbers_spec rl (by simp; omega) (by simp) (by simp) fun t w3 r3 hcap x3=>⟨x12.no x3,?_⟩)
 have x13:=x12.no x3
 have hwr:=RdB.len r.wr.rd
 refine text_spec ((r.wr.no x1).no x13).rd (by omega) fun t2 w4 o4 x4=>⟨x13.no x4,?_⟩
 have l4:=OwnB.len o4
 have l3:=RdB.len r3
 have n3:(numsB [v.gen,v.cm]).length<=20:=by
  have h1:=numB_len10 (n:=v.gen.toNat) (by omega)
  have h2:=numB_len10 (n:=v.cm.toNat) (by omega)
  simp [numsB]; omega
 have n4:=numB_len10 (n:=x.wr.length) (by omega)
 have hne:0 < (numB x.wr.length).length:=List.length_pos_iff.2 (numB_ne _)
 rw [List.length_append] at l4
 refine app_bytes_new (r3.no x4) o4.rd (by omega) (by omega) fun s' w5 o5 x5=>⟨(x13.no x4).no x5,k s' w5 ?_ (((x1.no x13).no x4).no x5)⟩
 have e:numsB [v.gen,v.cm]++(numB x.wr.length++x.wr)=heldB x:=by simp [numsB,heldB,textB,e1,e2]
 rw [e] at o5
 have z:=((x1.no x13).no x4).size
 exact o5.mono z
theorem joinedH_spec{s:Sl}{l:List HeldP}{cb:Nat}{K:Sl->Wd->Prop}(rl:HeldsR Q w.heap s l)(hr:∀ x∈l,RngH x/\x.wr.length<=1000)(hl:l.length<=1000)(gc:w.heap[cb]? = some (.cells [.func (.func 304) #[] #[]].toArray 415 (0,0)))
  (k:∀ o ps w',Own w'.heap w.heap.size 22 1 o (pcV ps)->(∀ p∈ps,RdQ (fun q=>w.heap.size<=q/\o.blk≠some q) w'.heap p.1 p.2)->ps.map Prod.snd=l.map heldB->Ext No w w'->K o w'):C_roll_joined_api_Held_byte s (.func (.func 311) #[] #[.pointer (some ⟨cb,0,none⟩)]) w K:=by
 apply S_roll_joined_api_Held_byte
 have hsl:=rl.len
 refine ⟨fun m out t w'=>∃ (j:Nat) (ps:List (Sl×List Int)),t=j/\j<=l.length/\m=l.length - j/\Own w'.heap w.heap.size 22 1 out (pcV ps)/\(∀ p∈ps,RdQ (fun q=>w.heap.size<=q/\out.blk≠some q) w'.heap p.1 p.2)/\ps.map Prod.snd=(l.take j).map heldB/\Ext No w w',
  ⟨_,0,[],rfl,Nat.zero_le _,rfl,Own.nil _ _ _ _,by simp,by simp,Ext.refl _ _⟩,?_⟩
 rintro _ m0 out _ w1 ⟨j,ps,rfl,hj,rfl,o1,hp,hpl,x1⟩
 have hpn:ps.length=j:=by have:=congrArg List.length hpl; simp at this; omega
 refine If.dec (fun h=>?_) fun h=>?_
 .refine ixHd (rl.no x1) (by omega) h fun b o v hi hrd hc=>?_
  have hjl:j < l.length:=hi
  have el:l[((j:Nat):Int).toNat]'hi=l[j]:=rfl
  rw [el] at hrd
  have hx:=hr _ (List.getElem_mem hjl)
  have z1:=x1.size
  refine ⟨_,hc 0 _ rfl,_,hc 1 _ rfl,_,hc 2 _ rfl,NewW.mk fun b1 w2 n2=>⟨rfl,StN.all n2.get rfl v.one fun w3 g3 x3 _=>?_⟩⟩
  have x3':Ext (·=b1) w2 w3:=x3
  have hb1:=n2.at_; have z2:=n2.size; have z3:=x3'.size
  have x13:Ext No w1 w3:=n2.ext.trans x3' fun q hq h=>by omega
  have x03:=x1.no x13
  refine ⟨_,Cell.lst g3 rfl,_,Cell.lst g3 rfl,_,Cell.lst g3 rfl,V_roll_Bytes_2 (heldBytes_spec (hrd.no x13) hx.1 hx.2 (get_no gc x03) fun r w4 o4 x4=>NewW.mk fun b2 w5 n5=>?_)⟩
  have z4:=x4.size
  have x14:=x13.no x4
  refine push_pc (m:=heldB l[j]) (o1.no x14) (fun p hp'=>(hp p hp').no x14) (.own o4 fun q h1 _=>⟨by omega,fun h=>by have:=(o1.lt h).2; omega⟩) n5 (by omega) (by omega) fun s' w6 o6 hp6 x6=>Ar.i64 (by omega) ⟨_,by omega,j+1,_,by omega,by omega,rfl,o6,hp6,?_,?_⟩
  .rw [take_snocH hjl,List.map_append,List.map_append,hpl]; rfl
  .exact (x1.no x14).trans x6 fun q hq h=>by have:=(o1.lt h).1; omega
 .have hjn:j=l.length:=by omega
  rw [hjn,List.take_length] at hpl
  exact k out ps w1 o1 hp hpl x1
end
end Go.Proofs.YtmbckodpbdlblaaGreat
namespace Go.V
open Go.V.Pk
theorem formB_eq(x:SeatP):formB x=numsB [x.quota,x.charge]++(textB x.mark++(numsB [x.root.p,x.root.c,x.root.g,x.lev,((x.held.length:Nat):Int)]++(x.held.map heldB).flatten)):=by
 simp [formB,numsB,List.flatMap]
end Go.V
namespace Go.Proofs.YtmbckodpbdlblaaGreat
open Go.V Go.V.Pk
section
variable {w:Wd} {Q:Nat->Prop}
theorem bytes_tail{w0:Wd}{vh rA rB:Sl}{x:SeatP}{cb b4:Nat}{A B:List Int}{K:Sl->Int->Wd->Prop}(x0:Ext No w0 w)(gc:w.heap[cb]? = some (.cells [.func (.func 304) #[] #[]].toArray 415 (0,0)))(rh:HeldsR Q w.heap vh x.held)(rg:RngS x)(hh:∀ h∈x.held,h.wr.length<=1000)(hl:x.held.length<=2)
  (ra:RdB w.heap rA A) (rb:RdB w.heap rB B) (hA:A.length<=1000) (hB:B.length<=1000) (g4:w.heap[b4]? = some (.cells ([x.root.p,x.root.c,x.root.g,x.lev,((x.held.length:Nat):Int)].map (Value.int .u64)).toArray 24 (0,0)))
  (k:∀ t w',OwnB w'.heap w.heap.size t (A++(B++(numsB [x.root.p,x.root.c,x.root.g,x.lev,((x.held.length:Nat):Int)]++(x.held.map heldB).flatten)))->Ext No w0 w'->K t 0 w') :
  dynV pz false (.func (.func 304) #[] #[]) [.slice (some (Addr.mk b4 0 none)) 5 5] [.one (.sl)] (fun r_3 w11 =>
   Ext No w0 w11 /\
   C_roll_joined_api_Held_byte vh (.func (.func 311) #[] #[.pointer (some (Addr.mk cb 0 none))]) w11 fun r_4 w12 =>
   Ext No w0 w12 /\
   C_bytes_Join r_4 ⟨none,0,0⟩ w12 fun r_5 w13 =>
   Ext No w0 w13 /\
   NewW w13 (.cells [.slice rA.a rA.len rA.cap, .slice rB.a rB.len rB.cap, .slice r_3.a r_3.len r_3.cap, .slice r_5.a r_5.len r_5.cap].toArray 22) fun b_5 w14 =>
   Ext No w0 w14 /\
   C_slices_Concat_byte_byte ⟨some (Addr.mk b_5 0 none),4,4⟩ w14 fun r_6 w15 =>
   Ext No w0 w15 /\
   K r_6 0 w15) NoX w:=by
 have ok:=rg.root; have lv:=rg.lev
 have rl:Rd w.heap ⟨some ⟨b4,0,none⟩,5,5⟩ 1 ([x.root.p,x.root.c,x.root.g,x.lev,((x.held.length:Nat):Int)].map (Value.int .u64)) :=
  (⟨rfl, .inr ⟨b4,[],rfl,Nat.zero_le _,by simpa using g4,rfl,Nat.le_refl _⟩,by simp [oneC]⟩ : Own w.heap 0 24 1 ⟨some ⟨b4,0,none⟩,5,5⟩ _).rd
 have rng:∀ y∈[x.root.p,x.root.c,x.root.g,x.lev,((x.held.length:Nat):Int)],0<=y/\y<=18446744073709551615:=by
  intro y hy
  simp only [List.mem_cons,List.not_mem_nil,or_false] at hy
  obtain ⟨h1,h2,h3⟩:=ok
  rcases hy with rfl | rfl | rfl | rfl | rfl <;> omega
 refine V_roll_Bytes_1 (l:=⟨some ⟨b4,0,none⟩,5,5⟩) (rnumbers_spec rl rng (by simp) (by simp) fun t w1 r1 _ x1=>⟨x0.no x1,?_⟩)
 refine joinedH_spec (rh.no x1) (fun h hm=>⟨rg.held h hm,hh h hm⟩) (by omega) (get_no gc x1) fun o ps w2 o2 hp hpl x2=>⟨(x0.no x1).no x2,?_⟩
 have hpn:ps.length=x.held.length:=by have:=congrArg List.length hpl; simpa using this
 have hcat:cat ps=(x.held.map heldB).flatten:=by unfold cat; rw [hpl]
 have hcl:∀(l:List HeldP),(∀ h∈l,RngH h/\h.wr.length<=1000)->((l.map heldB).flatten).length<=l.length * 1030:=fun l=>by
  induction l with
  | nil=>simp
  | cons h l ih =>
   intro hm
   have h1:=ih fun y hy=>hm y (List.mem_cons_of_mem _ hy)
   have h2:=hm h List.mem_cons_self
   have h3:=heldB_len h2.1 h2.2
   simp only [List.map_cons,List.flatten_cons,List.length_append,List.length_cons] at h1 ⊢
   omega
 have hc:=hcl x.held fun h hm=>⟨rg.held h hm,hh h hm⟩
 refine bjoin_spec o2.rd (fun p hp'=>(hp p hp').rd) (by rw [hcat]; omega) (by omega) fun t2 w3 r3 _ _ x3=>⟨((x0.no x1).no x2).no x3,NewW.mk fun b5 w4 n4=>⟨(((x0.no x1).no x2).no x3).no n4.ext,?_⟩⟩
 have x14:=((x1.no x2).no x3).no n4.ext
 have x24:=(x2.no x3).no n4.ext
 have n5:=numB_len10 (n:=x.root.p.toNat) (by have:=ok.1; omega)
 have hn:(numsB [x.root.p,x.root.c,x.root.g,x.lev,((x.held.length:Nat):Int)]).length<=50:=by
  have h1:=numB_len10 (n:=x.root.p.toNat) (by have:=ok.1; omega)
  have h2:=numB_len10 (n:=x.root.c.toNat) (by have:=ok.2.1; omega)
  have h3:=numB_len10 (n:=x.root.g.toNat) (by have:=ok.2.2; omega)
  have h4:=numB_len10 (n:=x.lev.toNat) (by omega)
  have h5:=numB_len10 (n:=((x.held.length:Nat):Int).toNat) (by omega)
  simp only [numsB,List.map_cons,List.map_nil,List.flatten_cons,List.flatten_nil,List.length_append,List.length_nil]
  omega
 let P:List (Sl×List Int):=[(rA,A),(rB,B),(t,numsB [x.root.p,x.root.c,x.root.g,x.lev,((x.held.length:Nat):Int)]),(t2,cat ps)]
 have rP:Rd w4.heap ⟨some ⟨b5,0,none⟩,4,4⟩ 1 (P.map fun p=>p.1.v):=(Own.new (sz:=1) (n:=4) n4 rfl (by simp [oneC])).rd
 refine concat_spec (ps:=P) rP (fun p hp'=>?_) ?_ (by simp [P]) fun s w5 o5 x5=>⟨(((((x0.no x1).no x2).no x3).no n4.ext)).no x5,k s w5 ?_ ((((((x0.no x1).no x2).no x3).no n4.ext)).no x5)⟩
 .simp only [P,List.mem_cons,List.not_mem_nil,or_false] at hp'
  rcases hp' with rfl | rfl | rfl | rfl
  .exact ra.no x14
  .exact rb.no x14
  .exact r1.no x24
  .exact r3.no n4.ext
 .have e:((P.map Prod.snd).flatten).length=A.length+(B.length+((numsB [x.root.p,x.root.c,x.root.g,x.lev,((x.held.length:Nat):Int)]).length+(cat ps).length)):=by
   simp only [P,List.map_cons,List.map_nil,List.flatten_cons,List.flatten_nil,List.length_append,List.length_nil,Nat.add_zero]
  rw [e,hcat]; omega
 .have e:(P.map Prod.snd).flatten=A++(B++(numsB [x.root.p,x.root.c,x.root.g,x.lev,((x.held.length:Nat):Int)]++(x.held.map heldB).flatten)):=by
   simp only [P,List.map_cons,List.map_nil,List.flatten_cons,List.flatten_nil,List.append_nil,hcat]
  rw [e] at o5
  exact o5.mono x14.size
set_option maxHeartbeats 2000000 in
theorem bytes_spec{v:SeatV}{x:SeatP}{K:Sl->Int->Wd->Prop}(r:SeatR Q w.heap v x)(rg:RngS x)(hl:x.held.length<=1000000000000)
  (k2:∀ w',¬ MayS x->Ext No w w'->K ⟨none,0,0⟩ 2 w') (k0:∀ t w',MayS x->OwnB w'.heap w.heap.size t (formB x)->Ext No w w'->K t 0 w'):C_roll_Bytes v.tenant v.quota v.mark v.root.p v.root.c v.root.g v.lev v.charge v.held w K:=by
 apply S_roll_Bytes
 refine NewW.mk fun b w1 n1=>?_
 have g1:w1.heap[b]? = some (.cells v.cells.toArray 113 (0,0)):=n1.get
 have x1:=n1.ext
 refine ⟨v.tenant,Cell.lst g1 rfl,v.quota,Cell.lst g1 rfl,v.mark,Cell.lst g1 rfl,v.root.p,Cell.lst g1 rfl,v.root.c,Cell.lst g1 rfl,v.root.g,Cell.lst g1 rfl,v.lev,Cell.lst g1 rfl,v.charge,Cell.lst g1 rfl,v.held,Cell.lst g1 rfl,rmay_spec (r.no x1) rg.held hl fun t w2 ht x2=>If.not (If.cases (fun h=>?_) fun h=>k2 w2 (fun m=>by rw [ht.2 m] at h; cases h) (x1.no x2))⟩
 have may:=ht.1 h
 have x02:=x1.no x2
 have g2:=get_no g1 x2
 refine ⟨_,Cell.lst g2 rfl,_,Cell.lst g2 rfl,_,Cell.lst g2 rfl,_,Cell.lst g2 rfl,NewW.mk fun b1 w3 n3=>⟨rfl,StN.all n3.get rfl (by simp [oneC]) fun w4 g4 x4 _=>NewW.mk fun b2 w5 n5=>St1.mk n5.get (by simp) rfl fun w6 h6=>?_⟩⟩
 have hb1:=n3.at_; have z3:=n3.size; have hb2:=n5.at_; have z5:=n5.size
 have x4':Ext (·=b1) w3 w4:=x4
 have z4:=x4'.size
 have x6:Ext (·=b2) w5 w6:=h6.ext
 have x24:Ext No w2 w4:=n3.ext.trans x4' fun q hq h=>by omega
 have x26:Ext No w2 w6:=(x24.no n5.ext).trans x6 fun q hq h=>by have:=x24.size; omega
 have x06:=x02.no x26
 have gb6:=get_no g2 x26
 have gr6:w6.heap[b1]? = some (.cells [.int .u32 v.root.p, .int .u64 v.root.c, .int .u16 v.root.g, .int .u8 v.lev].toArray 38 (0,0)):=get_ext (get_no g4 n5.ext) x6 (by have:=x24.size; omega)
 have gc6:w6.heap[b2]? = some (.cells [.func (.func 304) #[] #[]].toArray 415 (0,0)):=h6.get n5.get
 have e1:=r.quota; have e2:=r.charge; have e4:=r.root; have e5:=r.lev
 have lh:=r.held.len; have lm:=RdB.len r.mark.rd
 have ok:=rg.root; have lv:=rg.lev
 obtain ⟨m1,m2,m3,m4,m5,m6,m7,m8⟩:=may
 have hl2:x.held.length<=2:=by rcases m8 with ⟨a,h,_⟩ | ⟨a,c,h,_⟩ <;> rw [h] <;> simp
 have hh:∀ y∈x.held,y.wr.length<=1000:=fun y hy=>by
  rcases m8 with ⟨a,h,h1⟩ | ⟨a,c,h,h1,h2,_⟩ <;> rw [h] at hy <;> simp at hy
  .rw [hy]; omega
  .rcases hy with e | e <;> rw [e] <;> omega
 have xd:Ext No w6 (drewW w6):=(Ext.refl _ _).drew
 obtain ⟨k1,k3,k4⟩:=ok
 refine ⟨Ext No w6,xd, .func (.func 304) #[] #[],held0 gc6 rfl,v.quota,heldE gb6 rfl,Ar.u64 (by omega) ⟨v.charge,heldE gb6 rfl,Ar.u64 (by omega) ⟨v.mark,heldE gb6 rfl, .func (.func 304) #[] #[],held0 gc6 rfl,v.root.p,held0 gr6 rfl,Ar.u64 (by rw [e4]; omega) ⟨v.root.c,heldE gr6 rfl,v.root.g,heldE gr6 rfl,Ar.u64 (by rw [e4]; omega) ⟨v.lev,heldE gr6 rfl,Ar.u64 (by omega) ⟨v.held,heldE gb6 rfl,Ar.u64 (by omega) ⟨v.held,heldE gb6 rfl,?_⟩⟩⟩⟩⟩⟩⟩
 have e5l:[v.root.p,v.root.c,v.root.g,v.lev,((v.held.len:Nat):Int)]=[x.root.p,x.root.c,x.root.g,x.lev,((x.held.length:Nat):Int)]:=by rw [e4,e5,lh]
 have e2l:[v.quota,v.charge]=[x.quota,x.charge]:=by rw [e1,e2]
 have rng2:∀ y∈[v.quota,v.charge],0<=y/\y<=18446744073709551615:=by
  intro y hy
  simp only [List.mem_cons,List.not_mem_nil,or_false] at hy
  rcases hy with rfl | rfl <;> omega
 have n2:(numsB [x.quota,x.charge]).length<=1000:=by
  have h1:=numB_len10 (n:=x.quota.toNat) (by omega)
  have h2:=numB_len10 (n:=x.charge.toNat) (by omega)
  simp only [numsB,List.map_cons,List.map_nil,List.flatten_cons,List.flatten_nil,List.length_append,List.length_nil]; omega
 have nm:(numB x.mark.length++x.mark).length<=1000:=by
  have:=numB_len10 (n:=x.mark.length) (by omega)
  rw [List.length_append]; omega
 -- the two parts that the orders turn
 have nums:∀{w7:Wd}{b3:Nat}{K':Sl->Wd->Prop},Ext No w6 w7->w7.heap[b3]? = some (.cells ([v.quota,v.charge].map (Value.int .u64)).toArray 24 (0,0))->(∀ t w',RdB w'.heap t (numsB [x.quota,x.charge])->Ext No w7 w'->K' t w') ->
   dynV pz false (.func (.func 304) #[] #[]) [.slice (some (Addr.mk b3 0 none)) 2 2] [.one (.sl)] K' NoX w7:=fun {w7 b3 K'} x7 g7 k'=>by
  have rl:Rd w7.heap ⟨some ⟨b3,0,none⟩,2,2⟩ 1 ([v.quota,v.charge].map (Value.int .u64)) :=
   (⟨rfl, .inr ⟨b3,[],rfl,Nat.zero_le _,by simpa using g7,rfl,Nat.le_refl _⟩,by simp [oneC]⟩ : Own w7.heap 0 24 1 ⟨some ⟨b3,0,none⟩,2,2⟩ _).rd
  exact V_roll_Bytes_1 (l:=⟨some ⟨b3,0,none⟩,2,2⟩) (rnumbers_spec rl rng2 (by simp) (by simp) fun t w8 r8 _ x8=>k' t w8 (by rw [<- e2l]; exact r8) x8)
 have text:∀{w7:Wd}{K':Sl->Wd->Prop},Ext No w6 w7->(∀ t w',RdB w'.heap t (numB x.mark.length++x.mark)->Ext No w7 w'->K' t w')->C_pack_Text v.mark w7 K':=fun {w7 K'} x7 k' =>
  text_spec (r.mark.no (x06.no x7)).rd (by omega) fun t w8 o8 x8=>k' t w8 o8.rd x8
 have fin:∀{w7:Wd}{rA rB:Sl}{b4:Nat},Ext No w6 w7->w7.heap[b4]? = some (.cells ([v.root.p,v.root.c,v.root.g,v.lev,((v.held.len:Nat):Int)].map (Value.int .u64)).toArray 24 (0,0))->RdB w7.heap rA (numsB [x.quota,x.charge])->RdB w7.heap rB (numB x.mark.length++x.mark)->_:=fun {w7 rA rB b4} x7 g7 ra rb =>
  bytes_tail (Q:=Q) (w0:=w6) (K:=K) x7 (get_no gc6 x7) (r.held.no (x06.no x7)) rg hh hl2 ra rb n2 nm (by rw [<- e5l]; exact g7) fun t w' o' x'=>k0 t w' ⟨m1,m2,m3,m4,m5,m6,m7,m8⟩ (by rw [formB_eq]; exact o'.mono (x06.no x7).size) (x06.no x')
 refine ⟨?_,?_⟩
 .refine NewW.mk fun b3 w7 n7=>?_
  have x7:=xd.no n7.ext
  refine ⟨x7,nums x7 n7.get fun rA w8 rdA x8=>?_,?_⟩
  .have x68:=x7.no x8
   refine ⟨x68,text x68 fun rB w9 rdB x9=>⟨x68.no x9,NewW.mk fun b4 w10 n10=>⟨(x68.no x9).no n10.ext,?_⟩⟩,NewW.mk fun b6 w16 n16=>⟨x68.no n16.ext,text (x68.no n16.ext) fun rB w17 rdB x17=>⟨(x68.no n16.ext).no x17,?_⟩⟩⟩
   .exact fin ((x68.no x9).no n10.ext) n10.get ((rdA.no x9).no n10.ext) (rdB.no n10.ext)
   .exact fin ((x68.no n16.ext).no x17) (get_no n16.get x17) ((rdA.no n16.ext).no x17) rdB
  .refine NewW.mk fun b8 w23 n23=>?_
   have x23:=x7.no n23.ext
   refine ⟨x23,nums x23 (get_no n7.get n23.ext) fun rA w24 rdA x24=>⟨x23.no x24,text (x23.no x24) fun rB w25 rdB x25=>⟨(x23.no x24).no x25,?_⟩⟩⟩
   exact fin ((x23.no x24).no x25) (get_no (get_no n23.get x24) x25) (rdA.no x25) rdB
 .refine NewW.mk fun b10 w31 n31=>?_
  have x31:=xd.no n31.ext
  refine ⟨x31,NewW.mk fun b11 w32 n32=>?_⟩
  have x32:=x31.no n32.ext
  refine ⟨x32,nums x32 n32.get fun rA w33 rdA x33=>⟨x32.no x33,text (x32.no x33) fun rB w34 rdB x34=>⟨(x32.no x33).no x34,?_⟩⟩⟩
  exact fin ((x32.no x33).no x34) (get_no (get_no (get_no n31.get n32.ext) x33) x34) (rdA.no x34) rdB
end
end Go.Proofs.YtmbckodpbdlblaaGreat
