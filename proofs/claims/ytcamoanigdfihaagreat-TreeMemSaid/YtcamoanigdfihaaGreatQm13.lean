/- Texts for LTreeMem, part 13. -/
import Derived.Lib.Overlaps
import Derived.Test.YtcamoanigdfihaaGreatQm12
set_option maxRecDepth 100000
namespace Go.V
structure RowO(h:Array Obj)(s:Sl)(b:Nat)(row:List Value):Prop where
 a:s.a=some ⟨b,0,none⟩
 blk:h[b]? = some (.cells row.toArray 133 (0,0))
 len:row.length=s.cap * 9
 le:s.len<=s.cap
section
variable {w:Wd} {s:Sl} {b:Nat} {row:List Value}
theorem RowO.cut{lo hi mx:Int}{K:Sl->Prop}(r:RowO w.heap s b row)(h0:0<=lo)(h1:lo<=hi)(h2:hi<=mx)(h3:mx=s.cap)(k:∀ s' off,s'.len=(hi - lo).toNat->s'.len<=s'.cap->s'.a=some ⟨b,off,none⟩->off<=lo.toNat * 9->(lo < hi->off=lo.toNat * 9)->K s'):Cut s lo hi mx 9 K:=by
 refine Cut.mk h0 h1 h2 (by omega) ?_
 unfold cutA
 split
 .exact k _ 0 rfl (by simp only; omega) r.a (by omega) (fun h=>by omega)
 .rw [r.a]
  refine k _ (lo.toNat * 9) rfl (by simp only; omega) ?_ (Nat.le_refl _) fun _=>rfl
  simp [addr_add_none]
theorem RowO.cut0{hi mx:Int}{K:Sl->Prop}(r:RowO w.heap s b row)(h1:0<=hi)(h2:hi<=mx)(h3:mx=s.cap)(k:K ⟨some ⟨b,0,none⟩,hi.toNat,s.cap⟩):Cut s 0 hi mx 9 K:=by
 refine Cut.mk (Int.le_refl _) h1 h2 (by omega) ?_
 have e1:cutA s.a mx.toNat (Int.toNat 0) 9=some ⟨b,0,none⟩:=by
  unfold cutA
  split
  .exact r.a
  .rw [r.a]; simp [addr_add_none]
 rw [e1,show (hi - 0).toNat=hi.toNat by omega,show (mx - 0).toNat=s.cap by omega]
 exact k
theorem RowO.sub{n:Nat}(r:RowO w.heap s b row)(h:n<=s.cap):RowO w.heap ⟨some ⟨b,0,none⟩,n,s.cap⟩ b row:=⟨rfl,r.blk,r.len,h⟩
theorem rd_row{off:Nat}{xs:List Value}(hb:w.heap[b]? = some (.cells row.toArray 133 (0,0)))(ha:s.a=some ⟨b,off,none⟩)(hcap:s.len<=s.cap)(hl:xs.length=s.len * 9)(hx:∀ i (h:i < xs.length),row[off+i]? = some xs[i])(hone:∀ v∈xs,oneC v=true):Rd w.heap s 9 xs:=by
 refine ⟨hl,hcap,fun _=>⟨b,off,ha,fun i hi=>?_⟩,hone⟩
 unfold hcell; rw [hb]
 simpa using hx i hi
theorem app_fit{P:Program}{t e:TypeId}{ie:TypeInfo}{n:Nat}{x:Value}{xs:List Value}{K:Sl->Wd->Prop}(ht:P.underlying t=some (.slice e))(hi:P.info? e=some ie)(hsz:ie.size=9)
  (r:RowO w.heap s b row) (src:Src P w x 9 n xs) (hfit:s.len+n<=s.cap) (hk:∀ w',Wrt w b (.cells (setL row (s.len * 9) xs).toArray 133 (0,0)) w'->K ⟨s.a,s.len+n,s.cap⟩ w'):AppW P t t s x K w:=by
 have hlt:s.len * 9+xs.length<=row.length:=by rw [src.len,r.len]; omega
 have hst:=StN_run (P:=P) (b:=b) (T:=133) (fz:=(0,0)) xs w row.toArray (s.len * 9) 0 r.blk (by simpa using hlt) (.inr (.inr (Nat.le_refl _))) src.cells
 have ha:=r.a
 refine ⟨⟨s.a,s.len+n,s.cap⟩,World.setBlk w b (.cells (setL row (s.len * 9) xs).toArray 133 (0,0)),fun ty=>?_,hk _ rfl⟩
 obtain ⟨sa,sl,sc⟩:=s
 simp only at ha hfit
 subst ha
 have h0:=src.num
 have h1:=src.get w rfl
 have ea:(⟨b,0,none⟩ : Addr).add (sl * 9)=⟨b,sl * 9,none⟩:=by rw [addr_add_none rfl]; simp
 simp only [Nat.add_zero] at hst
 simp [Builtin.append_,run_und ht,run_size hi,hsz,h0,h1,hfit,ea,hst]
theorem run_clear{P:Program}{t e:TypeId}{ie:TypeInfo}{z:Value}{off n c:Nat}(ht:P.underlying t=some (.slice e))(hi:P.info? e=some ie)(hz:ie.zero=some z)(hzs:z.cells.size=9)(hz1:∀ v∈z.cells,oneC v=true)(hb:w.heap[b]? = some (.cells row.toArray 133 (0,0)))(hle:off+n * 9<=row.length) :
  ∃ w' zs,(Builtin.clear_ #[t] 0 #[.slice (some ⟨b,off,none⟩) n c]).run P w = .ok (.tuple #[]) w'/\zs.length=n * 9/\Wrt w b (.cells (setL row off zs).toArray 133 (0,0)) w':=by
 rcases Nat.eq_zero_or_pos n with h | h
 .subst h
  refine ⟨w,[],?_,by simp,?_⟩
  .simp [Builtin.clear_,run_und ht]
  .unfold Wrt World.setBlk setL
   have e2:w.heap.setIfInBounds b (.cells row.toArray 133 (0,0))=w.heap:=by
    apply Array.ext_getElem?
    intro i
    rw [Array.getElem?_setIfInBounds]
    split
    .rename_i h; subst h
     split
     .exact hb.symm
     .rename_i h2; rw [Array.getElem?_eq_none (by omega)] at hb; cases hb
    .rfl
   rw [e2]
 .have hzl:(Builtin.zeroCells z.cells n).toList.length=n * 9:=by simp [zeroCells_size,hzs]
  have hst:=StN_run (P:=P) (b:=b) (T:=133) (fz:=(0,0)) (Builtin.zeroCells z.cells n).toList w row.toArray off 0 hb (by simp only [hzl]; simpa using hle) (.inr (.inr (Nat.le_refl _))) (fun v hv=>by
   simp only [Builtin.zeroCells,Array.toList_map,List.mem_map] at hv
   obtain ⟨i,hi2,rfl⟩:=hv
   have:i % z.cells.size < z.cells.size:=Nat.mod_lt _ (by omega)
   refine hz1 _ ?_
   simp [this])
  refine ⟨World.setBlk w b (.cells (setL row off (Builtin.zeroCells z.cells n).toList).toArray 133 (0,0)),_,?_,hzl,rfl⟩
  obtain ⟨m,rfl⟩ : ∃ m,n=m+1:=⟨n - 1,by omega⟩
  simp only [Nat.add_zero] at hst
  simp [Builtin.clear_,run_und ht,run_zero hi hz,hst]
theorem zeroCells_oneC{zc:Array Value}{n:Nat}(hs:0 < zc.size)(hz:∀ v∈zc,oneC v=true):∀ v∈(Builtin.zeroCells zc n).toList,oneC v=true:=fun v hv=>by
 simp only [Builtin.zeroCells,Array.toList_map,List.mem_map] at hv
 obtain ⟨i,hi2,rfl⟩:=hv
 have:i % zc.size < zc.size:=Nat.mod_lt _ hs
 refine hz _ ?_
 simp [this]
theorem app_grow{P:Program}{t t' e:TypeId}{ie:TypeInfo}{z:Value}{n:Nat}{cs:List Value}{K:Sl->Wd->Prop}(ht:P.underlying t=some (.slice e))(ht':P.underlying t'=some (.int .i64))(hi:P.info? e=some ie)(hz:ie.zero=some z)(hsz:ie.size=9)(hzs:z.cells.size=9)(hz1:∀ v∈z.cells,oneC v=true)(hby:ie.bytes=104)(he:e=133)
  (rd:Rd w.heap s 9 cs) (hfit:s.cap < s.len+n) (hb:s.len+n<=1099511627776) (hk:∀ s' w' zs,RowO w'.heap s' w.heap.size (cs++zs)->s'.len=s.len+n->(∀ v∈zs,oneC v=true)->Ext No w w'->K s' w'):AppW P t t' s (.int .i64 n) K w:=by
 have hwr:IntKind.i64.wrap (n:Int)=n:=IntWalk.i64_in _ ⟨by omega,by omega⟩
 have hfits:=growslice_fits (bytes:=ie.bytes) hfit (by rw [hby]; omega)
 have hge:=grownCap_ge (w:=w) (need:=s.len+n) (old:=s.cap) (e:=e)
 have hold:=(rd.src (P:=P)).get (drewW w) rfl
 have hn1:0 < n:=by have:=rd.cap; omega
 have hn0:¬ ((n:Int) < 0):=by omega
 refine ⟨⟨some ⟨w.heap.size,0,none⟩,s.len+n,grownCap w (s.len+n) s.cap e⟩,World.pushBlk (drewW w) (.cells (cs++((Builtin.zeroCells z.cells n).toList++(Builtin.zeroCells z.cells (grownCap w (s.len+n) s.cap e - (s.len+n))).toList)).toArray e),fun ty=>?_,hk _ _ ((Builtin.zeroCells z.cells n).toList++(Builtin.zeroCells z.cells (grownCap w (s.len+n) s.cap e - (s.len+n))).toList) ⟨rfl,?_,?_,hge⟩ rfl (fun v hv=>?_) ?_⟩
 .obtain ⟨sa,sl,sc⟩:=s
  simp only at hfit hfits hold hge hb
  have hnf:¬ (sl+n<=sc):=by omega
  have hnot:¬ (Builtin.nextslicecap (sl+n) sc * 104 > 281474976710656):=by rw [hby] at hfits; omega
  have hmax2:¬ (9223372036854775807 < (sl:Int)+(n:Int)):=by omega
  have h48:¬ (281474976710656 < (n:Int) * 104):=by omega
  simp [hn0,h48,hmax2,-run_choose,Builtin.append_,run_und ht,run_und ht',run_size hi,hsz,asInt,asIntOf,hwr,hnf,run_info hi,hby,hnot,run_choose_cap,hold,run_zero hi hz,run_newRow]
  have ea:cs.toArray++(Builtin.zeroCells z.cells n++Builtin.zeroCells z.cells (grownCap w (sl+n) sc e - (sl+n)))=(cs++((Builtin.zeroCells z.cells n).toList++(Builtin.zeroCells z.cells (grownCap w (sl+n) sc e - (sl+n))).toList)).toArray:=by
   apply Array.toList_inj.1; simp
  rw [if_neg (by omega),ea]; rfl
 .subst he
  unfold World.pushBlk drewW
  simp only [Array.getElem?_push,if_true]
 .have hc:cs.length=s.len * 9:=rd.len
  simp only [List.length_append,Array.length_toList,zeroCells_size,hzs,hc]; omega
 .rcases List.mem_append.1 hv with h | h <;> exact zeroCells_oneC (by omega) hz1 v h
 .refine ⟨rfl,rfl,rfl,by simp [World.pushBlk,drewW],fun i hi _=>?_⟩
  simp only [World.pushBlk,drewW]
  exact heap_push _ _ _ hi
theorem NdQ.re{B:Nat->Prop}{w':Wd}{s':Sl}{L L':List (EntV×Ent)}(o:NdQ w.heap B s L)(x:Ext (fun b=>s.blk=some b) w w')(o':Own w'.heap 0 133 9 s' (L'.flatMap entCs))(hb:s'.blk=s.blk∨∃ b,s'.blk=some b/\w.heap.size<=b/\B b)
  (hL:∀ p∈L',p∈L∨(EntR w'.heap p.1 p.2/\∀ b,(p.1.k.blk=some b∨p.1.v.blk=some b)->B b/\b < w.heap.size/\s.blk≠some b)):NdQ w'.heap B s' L':=by
 have key:∀ b,B b/\b < w.heap.size/\s.blk≠some b->B b/\b < w'.heap.size/\s'.blk≠some b:=fun b h=>⟨h.1,Nat.lt_of_lt_of_le h.2.1 x.size,fun e=>by
  rcases hb with h' | ⟨c,h',hc,_⟩
  .exact h.2.2 (h' ▸ e)
  .rw [h'] at e; cases e; omega⟩
 refine ⟨o',fun p hp=>?_,fun p hp b hbk=>?_,fun b hb'=>?_⟩
 .rcases hL p hp with h | h
  .exact (o.ent p h).ext x (fun b hb h2=>(o.kb p h b (.inl hb)).2.2 h2) (fun b hb h2=>(o.kb p h b (.inr hb)).2.2 h2)
  .exact h.1
 .rcases hL p hp with h | h
  .exact key b (o.kb p h b hbk)
  .exact key b (h.2 b hbk)
 .rcases hb with h' | ⟨c,h',_,hc⟩
  .exact o.sb b (h' ▸ hb')
  .rw [h'] at hb'; cases hb'; exact hc
theorem RowO.own{w':Wd}{cs rest:List Value}(r:RowO w'.heap s b (cs++rest))(hl:cs.length=s.len * 9)(hc:∀ v∈cs,oneC v=true):Own w'.heap 0 133 9 s cs:=⟨hl, .inr ⟨b,rest,r.a,Nat.zero_le _,r.blk,r.len,r.le⟩,hc⟩
theorem RowO.wrt{w':Wd}{row':List Value}(r:RowO w.heap s b row)(h:Wrt w b (.cells row'.toArray 133 (0,0)) w')(hl:row'.length=row.length):RowO w'.heap s b row':=⟨r.a,h.get r.blk,by rw [hl]; exact r.len,r.le⟩
theorem Own.atRow{cs:List Value}(o:Own w.heap 0 133 9 s cs)(hne:cs≠[]):∃ b rest,RowO w.heap s b (cs++rest):=by
 obtain ⟨b,rest,ha,_,hb,hl,hc⟩:=o.place hne
 exact ⟨b,rest,ha,hb,hl,hc⟩
theorem entsC{L:List (EntV×Ent)}:∀ v∈L.flatMap entCs,oneC v=true:=fun v hv=>by
 obtain ⟨x,_,hx⟩:=List.mem_flatMap.1 hv
 unfold entCs EntV.cs at hx; simp only [List.mem_cons,List.not_mem_nil,or_false] at hx; rcases hx with h | h | h | h | h | h | h | h | h <;> subst h <;> rfl
theorem flat9(L:List (EntV×Ent)):(L.flatMap entCs).length=L.length * 9:=flat_len' (entCs_len L)
theorem row_at{pre xs suf:List Value}{off:Nat}(h:off=pre.length):∀ i (h:i < xs.length),(pre++(xs++suf))[off+i]? = some xs[i]:=fun i hi=>by
 subst h
 rw [List.getElem?_append_right (by omega),Nat.add_sub_cancel_left,List.getElem?_append_left hi,List.getElem?_eq_getElem hi]
end
end Go.V
namespace Go.Proofs.YtcamoanigdfihaaGreat
open Go.V
section
variable {w:Wd}
theorem clear_entry{b off n c:Nat}{row:List Value}(hb:w.heap[b]? = some (.cells row.toArray 133 (0,0)))(hle:off+n * 9<=row.length):∃ w' zs,(Builtin.clear_ #[37] 0 #[.slice (some ⟨b,off,none⟩) n c]).run pz w = .ok (.tuple #[]) w'/\zs.length=n * 9/\Wrt w b (.cells (setL row off zs).toArray 133 (0,0)) w' :=
 run_clear (e:=133) (ie:=Tryz.t133) (z:=Tryz.t133.zero.getD .nilFunc) (by kernel_rfl) (by kernel_rfl) (by kernel_rfl) (by kernel_rfl) (by decide +kernel) hb hle
theorem delete_spec{B:Nat->Prop}{s:Sl}{L:List (EntV×Ent)}{i:Int}{K:Sl->Wd->Prop}(nd:NdQ w.heap B s L)(h0:0<=i)(hi:i.toNat < L.length)(hl:L.length<=65536)
  (k:∀ s' w',NdQ w'.heap B s' (L.take i.toNat++L.drop (i.toNat+1))->s'.blk=s.blk->Ext (fun b=>s.blk=some b) w w'->K s' w'):C_slices_Delete_api_Entry_api_Entry s i (i+1) w K:=by
 apply S_slices_Delete_api_Entry_api_Entry
 have nl:=nd.nd.len
 have hne:L.flatMap entCs≠[]:=by intro e; have:=flat9 L; rw [e] at this; simp at this; omega
 obtain ⟨b,rest,r⟩:=nd.own.atRow hne
 have eL:L.flatMap entCs=(L.take i.toNat).flatMap entCs++(([L[i.toNat]].flatMap entCs)++(L.drop (i.toNat+1)).flatMap entCs):=by
  have:L=L.take i.toNat++(L[i.toNat]::L.drop (i.toNat+1)):=by rw [<- List.drop_eq_getElem_cons hi,List.take_append_drop]
  conv=>lhs; rw [this]
  rw [List.flatMap_append,List.flatMap_cons]; simp
 have hA:((L.take i.toNat).flatMap entCs).length=i.toNat * 9:=by rw [flat9,List.length_take]; omega
 have hM:([L[i.toNat]].flatMap entCs).length=9:=by rw [flat9]; simp
 have hT:((L.drop (i.toNat+1)).flatMap entCs).length=(L.length - (i.toNat+1)) * 9:=by rw [flat9,List.length_drop]
 have cA:=entsC (L:=L.take i.toNat)
 have cT:=entsC (L:=L.drop (i.toNat+1))
 have own0:=nd.own
 rw [eL] at r
 generalize hAe:(L.take i.toNat).flatMap entCs=A at *
 generalize hMe:[L[i.toNat]].flatMap entCs=Mc at *
 generalize hTe:(L.drop (i.toNat+1)).flatMap entCs=T at *
 have hrl:=r.len
 have hcap:=r.le
 have hl2:=nd.own.len
 rw [eL] at hl2
 simp only [List.length_append] at hrl hl2
 refine Cut.mk h0 (by omega) (by omega) (by omega) (If.beq (fun h=>by omega) fun _=>⟨fun _=>True,trivial,RowO.cut0 (w:=drewW w) r h0 (by omega) rfl (RowO.cut (w:=drewW w) r (by omega) (by omega) (by omega) rfl fun s3 o3 l3 c3 a3 o3le o3e=>?_)⟩)
 have r2:RowO (drewW w).heap ⟨some ⟨b,0,none⟩,i.toNat,s.cap⟩ b (A++(Mc++T)++rest):=RowO.sub (w:=drewW w) r (by omega)
 have hs3:Rd (drewW w).heap s3 9 T:=by
  rcases Nat.eq_zero_or_pos T.length with h | h
  .have:T=[]:=List.eq_nil_of_length_eq_zero h
   subst this
   exact ⟨by simp; omega,c3,fun h=>(h rfl).elim,by simp⟩
  .refine rd_row (w:=drewW w) (row:=(A++Mc)++(T++rest)) (by rw [show (A++Mc)++(T++rest)=A++(Mc++T)++rest by simp]; exact r.blk) a3 c3 (by omega) (row_at ?_) cT
   rw [o3e (by omega),List.length_append]; omega
 refine app_fit (e:=133) (ie:=Tryz.t133) (by kernel_rfl) (by kernel_rfl) (by kernel_rfl) r2 hs3.src (by simp only; omega) fun w1 h1=>⟨trivial,?_⟩
 have e1:setL (A++(Mc++T)++rest) (i.toNat * 9) T=A++T++((Mc++(T++rest)).drop T.length):=by
  rw [show A++(Mc++T)++rest=A++(Mc++(T++rest)) by simp,show i.toNat * 9=A.length+0 by omega,setL_app_right,setL_parts _ _ _ (by simp; omega)]
  simp
 simp only at h1
 rw [e1] at h1
 have r1:RowO w1.heap ⟨some ⟨b,0,none⟩,i.toNat+s3.len,s.cap⟩ b (A++T++((Mc++(T++rest)).drop T.length)):=⟨rfl,h1.get r2.blk,by simp only [List.length_append,List.length_drop]; omega,by simp only; omega⟩
 refine RowO.cut r1 (by simp only; omega) (by simp only; omega) (by simp only; omega) rfl fun s5 o5 l5 c5 a5 o5le o5e=>?_
 obtain ⟨s5a,s5l,s5c⟩:=s5
 simp only at a5 l5 o5le o5e
 subst a5
 obtain ⟨w2,zs,hrun,hzl,hw2⟩:=clear_entry (b:=b) (off:=o5) (n:=s5l) (c:=s5c) r1.blk (by simp only [List.length_append,List.length_drop]; omega)
 refine ⟨w2,hrun,k _ w2 ?_ (by simp [Sl.blk,r.a]) ?_⟩
 .refine nd.re ?_ ?_ (.inl (by simp [Sl.blk,r.a])) fun p hp => .inl ?_
  .exact ((h1.ext.drew_left).trans hw2.ext fun q _ h=>h).mono fun q _ h=>by subst h; simp [Sl.blk,r.a]
  .have e2:setL (A++T++((Mc++(T++rest)).drop T.length)) o5 zs=A++T++setL ((Mc++(T++rest)).drop T.length) 0 zs:=by
    rw [o5e (by omega),show ((i.toNat+s3.len:Nat):Int).toNat * 9=(A++T).length+0 by simp only [List.length_append]; omega,setL_app_right]
   rw [e2] at hw2
   have r3:=r1.wrt hw2 (by simp only [List.length_append,length_setL])
   rw [List.flatMap_append,hAe,hTe]
   exact r3.own (by simp only [List.length_append]; omega) fun v hv=>(List.mem_append.1 hv).elim (cA v) (cT v)
  .rcases List.mem_append.1 hp with h | h
   .exact List.mem_of_mem_take h
   .exact List.mem_of_mem_drop h
 .exact ((h1.ext.drew_left).trans hw2.ext fun q _ h=>h).mono fun q _ h=>by subst h; simp [Sl.blk,r.a]
end
end Go.Proofs.YtcamoanigdfihaaGreat
namespace Go.V
theorem copy_pre{P:Program}{t t' e:TypeId}{ie:TypeInfo}{w:Wd}{d x:Sl}{b off n:Nat}{row xs:List Value}{K:Int->Wd->Prop}
  (ht:P.underlying t=some (.slice e)) (hi:P.info? e=some ie) (hsz:ie.size=9) (hd:d.a=some ⟨b,off,none⟩) (hb:w.heap[b]? = some (.cells row.toArray 133 (0,0))) (hn:min x.len d.len=n) (hx:Rd w.heap ⟨x.a,n,x.cap⟩ 9 xs)
  (hle:off+n * 9<=row.length) (hk:∀ w',Wrt w b (.cells (setL row off xs).toArray 133 (0,0)) w'->K (n:Nat) w'):CopyW P t t' d x.v K w:=by
 subst hn
 refine ⟨_,_,fun ty=>?_,hk _ rfl⟩
 have h1:=firstCells_rd (P:=P) hx (k:=min x.len d.len) (Nat.le_refl _)
 rw [List.take_of_length_le (by rw [hx.len]; exact Nat.le_refl _)] at h1
 have hst:=StN_run (P:=P) (b:=b) (T:=133) (fz:=(0,0)) xs w row.toArray off 0 hb (by have:=hx.len; simp only at this; simp only [List.size_toArray]; omega) (.inr (.inr (Nat.le_refl _))) (fun v hv=>hx.cells v hv)
 obtain ⟨da,dl,dc⟩:=d
 obtain ⟨xa,xl,xc⟩:=x
 simp only at hd
 subst hd
 simp only [Nat.add_zero] at hst
 simp only at h1 hst
 have h2:(Builtin.firstCells 9 (xl.min dl) (Sl.v ⟨xa,xl,xc⟩)).run P w = .ok xs.toArray w:=by
  rw [<- h1]; cases xa <;> rfl
 simp [Builtin.copy_,run_und ht,Builtin.lenOf,run_size hi,hsz,h2,hst,goInt]
theorem ins_row{A X V T:List Value}(h:V.length+T.length<=X.length):setL (setL (A++X) (A.length+V.length) T) (A.length+0) V=A++(V++(T++X.drop (V.length+T.length))):=by
 rw [setL_app_right,setL_app_right,setL_parts T X V.length (by omega),setL_parts _ _ _ (by simp; omega)]
 simp [List.length_take,Nat.min_eq_left (by omega:V.length<=X.length)]
theorem ins_row2{A X V T:List Value}(h:V.length+T.length<=X.length):setL (setL (A++X) (A.length+0) V) (A.length+V.length) T=A++(V++(T++X.drop (V.length+T.length))):=by
 rw [setL_app_right,setL_app_right,setL_parts V X 0 (by omega)]
 simp only [List.take_zero,List.nil_append,Nat.zero_add]
 rw [show V.length=V.length+0 by omega,setL_app_right,setL_parts _ _ _ (by simp; omega)]
 simp
end Go.V
namespace Go.Proofs.YtcamoanigdfihaaGreat
open Go.V
section
variable {w:Wd}
theorem copy_entry{d x:Sl}{b off n:Nat}{row xs:List Value}{K:Int->Wd->Prop}(hd:d.a=some ⟨b,off,none⟩)(hb:w.heap[b]? = some (.cells row.toArray 133 (0,0)))(hn:min x.len d.len=n)(hx:Rd w.heap ⟨x.a,n,x.cap⟩ 9 xs)
  (hle:off+n * 9<=row.length) (hk:∀ w',Wrt w b (.cells (setL row off xs).toArray 133 (0,0)) w'->K (n:Nat) w'):CopyW pz 37 37 d (.slice x.a x.len x.cap) K w :=
 copy_pre (x:=x) (e:=133) (ie:=Tryz.t133) (by kernel_rfl) (by kernel_rfl) (by kernel_rfl) hd hb hn hx hle hk
theorem _root_.Go.V.Rd.pre{h:Array Obj}{s:Sl}{sz n:Nat}{cs:List Value}(r:Rd h s sz cs)(hn:n=s.len):Rd h ⟨s.a,n,s.cap⟩ sz cs:=by subst hn; exact r
set_option maxHeartbeats 1000000 in
theorem grow_copies{s s4 vv:Sl}{b b4 m t:Nat}{i jj:Int}{A zs P T rest Vc:List Value}{K:Sl->Wd->Prop}(r4:RowO w.heap s4 b4 (A++zs))(h4:s4.len=i.toNat+m+t)(hA:A.length=i.toNat * 9)(hi:0<=i)(hib:i<=1099511627776)(hmb:m<=1099511627776)
  (r:RowO w.heap s b (P++(T++rest))) (hj:0<=jj) (hP:P.length=jj.toNat * 9) (hs:s.len=jj.toNat+t) (hT:T.length=t * 9) (cT:∀ v∈T,oneC v=true) (hne:b≠b4) (hv:Rd w.heap vv 9 Vc) (hvl:vv.len=m)
  (k:∀ w' zs',RowO w'.heap s4 b4 (A++(Vc++(T++zs')))->Ext (·=b4) w w'->K s4 w') :
  Cut s4 i (((s4.len:Nat):Int)) (((s4.cap:Nat):Int)) 9 fun s5=>CopyW pz 37 37 s5 (.slice vv.a vv.len vv.cap) (fun _z_3 w3=>∃ S:Wd->Prop,S (drewW w3)/\Ar .i64 (i+((vv.len:Int))) fun z_4 =>
   Cut s4 z_4 (((s4.len:Nat):Int)) (((s4.cap:Nat):Int)) 9 fun s_6=>Cut s jj (((s.len:Nat):Int)) (((s.cap:Nat):Int)) 9 fun s_7=>CopyW pz 37 37 s_6 (.slice s_7.a s_7.len s_7.cap) (fun _z_5 w4=>S w4/\K s4 w4) (drewW w3)) w:=by
 have hle:=r.le; have hle4:=r4.le
 have hVl:Vc.length=m * 9:=by rw [hv.len,hvl]
 have hz:=r4.len
 simp only [List.length_append] at hz
 refine RowO.cut r4 hi (by omega) (by omega) rfl fun s5 o5 l5 c5 a5 o5le o5e=>?_
 refine copy_entry (n:=m) (xs:=Vc) a5 r4.blk (by rw [l5,hvl]; omega) (hv.pre hvl.symm) (by simp only [List.length_append]; omega) fun w3 h3=>⟨fun _=>True,trivial,Ar.i64 (by omega) ?_⟩
 have r43':=r4.wrt h3 (length_setL _ _ _)
 have r43:RowO (drewW w3).heap s4 b4 (setL (A++zs) o5 Vc):=r43'
 have r3:RowO (drewW w3).heap s b (P++(T++rest)):=⟨r.a,by show w3.heap[b]? = _; rw [h3.other hne]; exact r.blk,r.len,r.le⟩
 refine RowO.cut r43 (by omega) (by omega) (by omega) rfl fun s6 o6 l6 c6 a6 o6le o6e=>RowO.cut r3 hj (by omega) (by omega) rfl fun s7 o7 l7 c7 a7 o7le o7e=>?_
 have hs7:Rd (drewW w3).heap ⟨s7.a,t,s7.cap⟩ 9 T:=by
  rcases Nat.eq_zero_or_pos t with h | h
  .have:T=[]:=List.eq_nil_of_length_eq_zero (by omega)
   subst this; subst h
   exact ⟨by simp,by simp,fun h=>(h rfl).elim,by simp⟩
  .exact rd_row (s:=⟨s7.a,t,s7.cap⟩) r3.blk a7 (by simp only; omega) hT (row_at (by rw [o7e (by omega)]; omega)) cT
 refine copy_entry (n:=t) (xs:=T) a6 r43.blk (by rw [l6,l7]; omega) hs7 (by rw [length_setL]; simp only [List.length_append]; omega) fun w4 h4'=>⟨trivial,?_⟩
 have e0:setL (A++zs) o5 Vc=setL (A++zs) (A.length+0) Vc:=by
  rcases Nat.eq_zero_or_pos (m+t) with h | h
  .have:Vc=[]:=List.eq_nil_of_length_eq_zero (by omega)
   subst this; rfl
  .rw [o5e (by omega)]; congr 1; omega
 have e1:setL (setL (A++zs) o5 Vc) o6 T=A++(Vc++(T++zs.drop (Vc.length+T.length))):=by
  rw [<- ins_row2 (by omega),e0]
  rcases Nat.eq_zero_or_pos t with h | h
  .have:T=[]:=List.eq_nil_of_length_eq_zero (by omega)
   subst this; rfl
  .rw [o6e (by omega)]; congr 1; omega
 rw [e1] at h4'
 refine k w4 _ (r43.wrt h4' ?_) (h3.ext.trans h4'.ext.drew_left fun _ _ h=>h)
 rw [<- e1]; exact length_setL _ _ _
theorem overlaps_apart{x y:Sl}{bx ox by_ oy:Nat}{rx ry:List Value}(hx:x.a=some ⟨bx,ox,none⟩)(hy:y.a=some ⟨by_,oy,none⟩)(gx:w.heap[bx]? = some (.cells rx.toArray 133 (0,0)))(gy:w.heap[by_]? = some (.cells ry.toArray 133 (0,0)))(hne:bx≠by_)(hl:ry.length≠0) :
  Sem.run pz (callFunc 196 #[.slice x.a x.len x.cap, .slice y.a y.len y.cap]) w = .ok (.value (.bool false)) w:=by
 rw [run_callFunc_extern (e:=Extern.SlicesOverlaps.overlaps #[37,37] #[4]) Tryz.func196 (by kernel_rfl) (by kernel_rfl) (by kernel_rfl) (by kernel_rfl),hx,hy]
 rw [Lib.run_overlaps_apart (P:=pz) w 37 4 133 (by kernel_rfl) 9 (fun w=>run_size (i:=Tryz.t133) (by kernel_rfl)) ⟨bx,ox,none⟩ ⟨by_,oy,none⟩ x.len x.cap y.len y.cap hne 133 133 rx.length ry.length (by simp [World.shape?,gx]) (by simp [World.shape?,gy]) hl (by simp [World.frozen?,gx]) (by simp [World.frozen?,gx])]
 rfl
theorem three_parts{L:List (EntV×Ent)}{i j:Nat}(hij:i<=j):L.flatMap entCs=(L.take i).flatMap entCs++(((L.drop i).take (j - i)).flatMap entCs++(L.drop j).flatMap entCs):=by
 have:L=L.take i++((L.drop i).take (j - i)++L.drop j):=by
  have e:L.drop j=(L.drop i).drop (j - i):=by rw [List.drop_drop]; congr 1; omega
  rw [e,List.take_append_drop,List.take_append_drop]
 conv=>lhs; rw [this]
 rw [List.flatMap_append,List.flatMap_append]
structure NewE(w:Wd)(B:Nat->Prop)(s vv:Sl)(V:List (EntV×Ent)):Prop where
 own:Own w.heap 0 133 9 vv (V.flatMap entCs)
 ent:∀ p∈V,EntR w.heap p.1 p.2
 kb:∀ p∈V,∀ b,(p.1.k.blk=some b∨p.1.v.blk=some b)->B b/\b < w.heap.size/\s.blk≠some b
 ne:∀ b,vv.blk=some b->s.blk≠some b
theorem NewE.len{B:Nat->Prop}{s vv:Sl}{V:List (EntV×Ent)}(n:NewE w B s vv V):vv.len=V.length:=by have:=n.own.len; rw [flat9] at this; omega
set_option maxHeartbeats 1000000 in
theorem insert_spec{B:Nat->Prop}{s vv:Sl}{L V:List (EntV×Ent)}{i:Int}{K:Sl->Wd->Prop}(nd:NdQ w.heap B s L)(nv:NewE w B s vv V)(hV:V≠[])(h0:0<=i)(hi:i.toNat<=L.length)(hl:L.length<=65536)(hlv:V.length<=65536)(hB:∀ q,w.heap.size<=q->B q)
  (k:∀ s' w',NdQ w'.heap B s' (L.take i.toNat++(V++L.drop i.toNat))->(s'.blk=s.blk∨∃ b,s'.blk=some b/\w.heap.size<=b)->Ext (fun b=>s.blk=some b) w w'->K s' w'):C_slices_Insert_api_Entry_api_Entry s i vv w K:=by
 apply S_slices_Insert_api_Entry_api_Entry
 have nl:=nd.nd.len
 have vl:=nv.len
 have hVp:0 < V.length:=List.length_pos_iff.2 hV
 have hcap:=nd.own.rd.cap
 have fin:∀{s':Sl}{w':Wd},Ext (fun b=>s.blk=some b) w w'->Own w'.heap 0 133 9 s' ((L.take i.toNat++(V++L.drop i.toNat)).flatMap entCs)->(s'.blk=s.blk∨∃ b,s'.blk=some b/\w.heap.size<=b)->K s' w':=fun {s' w'} x o hb =>
  k s' w' (nd.re x o (hb.imp id fun ⟨b,h1,h2⟩=>⟨b,h1,h2,hB b h2⟩) fun p hp=>by
   rcases List.mem_append.1 hp with h | h
   .exact .inl (List.mem_of_mem_take h)
   .rcases List.mem_append.1 h with h | h
    .exact .inr ⟨(nv.ent p h).ext x (fun b hb h2=>(nv.kb p h b (.inl hb)).2.2 h2) (fun b hb h2=>(nv.kb p h b (.inr hb)).2.2 h2),nv.kb p h⟩
    .exact .inl (List.mem_of_mem_drop h)) hb x
 refine Cut.mk h0 (by omega) (by omega) (by omega) (If.beq (fun h=>by omega) fun _=>If.beq (fun h=>?_) fun h=>?_)
 .have e:i.toNat=L.length:=by omega
  refine app_api_Entry nd.own (Nat.zero_le _) nv.own.rd.src (by omega) fun s' w' o _ x hb=>fin x ?_ hb
  rw [e,List.take_length,List.drop_length,List.append_nil,List.flatMap_append]; exact o
 have hne:L.flatMap entCs≠[]:=by intro e; have:=flat9 L; rw [e] at this; simp at this; omega
 obtain ⟨b,rest,r⟩:=nd.own.atRow hne
 have eL:L.flatMap entCs=(L.take i.toNat).flatMap entCs++(L.drop i.toNat).flatMap entCs:=by rw [<- List.flatMap_append,List.take_append_drop]
 have hsb:s.blk=some b:=by simp [Sl.blk,r.a]
 have hA:((L.take i.toNat).flatMap entCs).length=i.toNat * 9:=by rw [flat9,List.length_take,Nat.min_eq_left hi]
 have hT:((L.drop i.toNat).flatMap entCs).length=(L.length - i.toNat) * 9:=by rw [flat9,List.length_drop]
 have hVl:(V.flatMap entCs).length=V.length * 9:=flat9 V
 have cA:=entsC (L:=L.take i.toNat)
 have cT:=entsC (L:=L.drop i.toNat)
 have cV:=entsC (L:=V)
 have vrd:=nv.own.rd
 have ef:(L.take i.toNat++(V++L.drop i.toNat)).flatMap entCs=(L.take i.toNat).flatMap entCs++(V.flatMap entCs++(L.drop i.toNat).flatMap entCs):=by rw [List.flatMap_append,List.flatMap_append]
 rw [ef] at fin
 rw [eL] at r
 have hne':V.flatMap entCs≠[]:=by intro e; rw [e] at hVl; simp at hVl; omega
 obtain ⟨bv,restv,rv⟩:=nv.own.atRow hne'
 have hbv:bv≠b:=fun e=>nv.ne bv (by simp [Sl.blk,rv.a]) (by rw [hsb,e])
 generalize (L.take i.toNat).flatMap entCs=A at *
 generalize (L.drop i.toNat).flatMap entCs=T at *
 generalize V.flatMap entCs=Vc at *
 have hrl:=r.len
 simp only [List.length_append] at hrl
 rw [List.append_assoc] at r
 refine Ar.i64 (by omega) (If.dec (fun hg=>?_) fun hg=>?_)
 .refine RowO.cut0 r h0 (by omega) rfl (Ar.i64 (by omega) (Ar.i64 (by omega) ?_))
  have r2:RowO w.heap ⟨some ⟨b,0,none⟩,i.toNat,s.cap⟩ b (A++(T++rest)):=r.sub (by omega)
  have rd2:Rd w.heap ⟨some ⟨b,0,none⟩,i.toNat,s.cap⟩ 9 A:=rd_row (row:=[]++(A++(T++rest))) r.blk rfl (by simp only; omega) hA (row_at rfl) cA
  rw [show ((s.len:Int)+(vv.len:Int) - i)=((L.length+V.length - i.toNat:Nat):Int) by omega]
  refine app_grow (e:=133) (ie:=Tryz.t133) (z:=Tryz.t133.zero.getD .nilFunc) (by kernel_rfl) (by kernel_rfl) (by kernel_rfl) (by kernel_rfl) (by kernel_rfl) (by kernel_rfl) (by decide +kernel) (by kernel_rfl) rfl rd2 (by simp only; omega) (by simp only; omega) fun s4 w2 zs r4 l4 _ x2=>?_
  have rlt:=blt r.blk
  have r2':RowO w2.heap s b (A++(T++rest)):=⟨r.a,get_no r.blk x2,r.len,r.le⟩
  refine grow_copies (t:=L.length - i.toNat) (m:=V.length) (P:=A) (T:=T) (rest:=rest) (Vc:=Vc) r4 (by rw [l4]; simp only; omega) hA h0 (by omega) (by omega) r2' h0 hA (by omega) hT cT (by omega) (vrd.no x2) vl fun w' zs' r' x'=>fin ((x2.of_no).trans x' fun q hq h=>by omega) ?_ (.inr ⟨_,by simp [Sl.blk,r'.a],Nat.le_refl _⟩)
  have r'':RowO w'.heap s4 w.heap.size ((A++(Vc++T))++zs'):=by simpa using r'
  exact r''.own (by rw [l4]; simp only [List.length_append]; omega) fun v hv=>by
   rcases List.mem_append.1 hv with h | h
   .exact cA v h
   .exact (List.mem_append.1 h).elim (cV v) (cT v)
 .refine Ar.i64 (by omega) (RowO.cut0 r (by omega) (by omega) rfl (Ar.i64 (by omega) ?_))
  have r8:RowO w.heap ⟨some ⟨b,0,none⟩,((s.len:Int)+(vv.len:Int)).toNat,s.cap⟩ b (A++(T++rest)):=r.sub (by omega)
  refine RowO.cut r8 (by omega) (by simp only; omega) (by simp only; omega) rfl fun s9 o9 l9 c9 a9 o9le o9e=>?_
  refine ⟨false,w,overlaps_apart rv.a a9 rv.blk r.blk hbv (by simp only [List.length_append]; omega),If.not (If.no ?_)⟩
  refine ⟨fun _=>True,trivial,Ar.i64 (by omega) (RowO.cut (w:=drewW w) r8 (by omega) (by simp only; omega) (by simp only; omega) rfl fun s10 o10 l10 c10 a10 o10le o10e=>RowO.cut (w:=drewW w) r8 h0 (by simp only; omega) (by simp only; omega) rfl fun s11 o11 l11 c11 a11 o11le o11e=>?_)⟩
  simp only at l10 l11 o10e o11e
  have hs11:Rd (drewW w).heap ⟨s11.a,L.length - i.toNat,s11.cap⟩ 9 T:=rd_row (w:=drewW w) (s:=⟨s11.a,L.length - i.toNat,s11.cap⟩) r.blk a11 (by simp only; omega) hT (row_at (by rw [o11e (by omega)]; omega)) cT
  refine copy_entry (w:=drewW w) (n:=L.length - i.toNat) (xs:=T) a10 r.blk (by rw [l10,l11]; omega) hs11 (by simp only [List.length_append]; omega) fun w6 h6=>⟨trivial,?_⟩
  have r6:=RowO.wrt (w:=drewW w) r8 h6 (length_setL _ _ _)
  refine RowO.cut r6 h0 (by simp only; omega) (by simp only; omega) rfl fun s12 o12 l12 c12 a12 o12le o12e=>?_
  have vrd6:Rd w6.heap vv 9 Vc:=Rd.ext (w:=drewW w) vrd h6.ext fun a q ha hq h=>by have:=nv.ne q (by simp [Sl.blk,ha,hq]); rw [hsb,h] at this; exact this rfl
  simp only at l12
  refine copy_entry (n:=V.length) (xs:=Vc) a12 r6.blk (by rw [l12,vl]; omega) (vrd6.pre vl.symm) (by rw [length_setL]; simp only [List.length_append]; omega) fun w7 h7=>?_
  have e1:setL (setL (A++(T++rest)) o10 T) o12 Vc=A++(Vc++(T++(T++rest).drop (Vc.length+T.length))):=by
   have e10:o10=A.length+Vc.length:=by rw [o10e (by omega)]; omega
   have e12:o12=A.length+0:=by rw [o12e (by simp only; omega)]; omega
   rw [e10,e12]; exact ins_row (by simp only [List.length_append]; omega)
  rw [e1] at h7
  have r7:=r6.wrt h7 (by rw [<- e1,length_setL])
  have r7':RowO w7.heap ⟨some ⟨b,0,none⟩,((s.len:Int)+(vv.len:Int)).toNat,s.cap⟩ b ((A++(Vc++T))++(T++rest).drop (Vc.length+T.length)):=by simpa using r7
  refine fin (((h6.ext.drew_left).trans h7.ext fun q _ h=>h).mono fun q _ h=>by rw [hsb,h]) (r7'.own (by simp only [List.length_append]; omega) fun v hv=>?_) (.inl (by rw [hsb]; rfl))
  rcases List.mem_append.1 hv with h | h
  .exact cA v h
  .exact (List.mem_append.1 h).elim (cV v) (cT v)
end
section
variable {w:Wd}
set_option maxHeartbeats 2000000 in
theorem replace_spec{B:Nat->Prop}{s vv:Sl}{L V:List (EntV×Ent)}{i:Int}{K:Sl->Wd->Prop}(nd:NdQ w.heap B s L)(nv:NewE w B s vv V)(h0:0<=i)(hi:i.toNat < L.length)(hl:L.length<=65536)(hlv:V.length<=65536)(hB:∀ q,w.heap.size<=q->B q)
  (k:∀ s' w',NdQ w'.heap B s' (L.take i.toNat++(V++L.drop (i.toNat+1)))->(s'.blk=s.blk∨∃ b,s'.blk=some b/\w.heap.size<=b)->Ext (fun b=>s.blk=some b) w w'->K s' w'):C_slices_Replace_api_Entry_api_Entry s i (i+1) vv w K:=by
 apply S_slices_Replace_api_Entry_api_Entry
 have nl:=nd.nd.len
 have vl:=nv.len
 have hcap:=nd.own.rd.cap
 have fin:∀{s':Sl}{w':Wd},Ext (fun b=>s.blk=some b) w w'->Own w'.heap 0 133 9 s' ((L.take i.toNat++(V++L.drop (i.toNat+1))).flatMap entCs)->(s'.blk=s.blk∨∃ b,s'.blk=some b/\w.heap.size<=b)->K s' w':=fun {s' w'} x o hb =>
  k s' w' (nd.re x o (hb.imp id fun ⟨b,h1,h2⟩=>⟨b,h1,h2,hB b h2⟩) fun p hp=>by
   rcases List.mem_append.1 hp with h | h
   .exact .inl (List.mem_of_mem_take h)
   .rcases List.mem_append.1 h with h | h
    .exact .inr ⟨(nv.ent p h).ext x (fun b hb h2=>(nv.kb p h b (.inl hb)).2.2 h2) (fun b hb h2=>(nv.kb p h b (.inr hb)).2.2 h2),nv.kb p h⟩
    .exact .inl (List.mem_of_mem_drop h)) hb x
 have hne:L.flatMap entCs≠[]:=by intro e; have:=flat9 L; rw [e] at this; simp at this; omega
 obtain ⟨b,rest,r⟩:=nd.own.atRow hne
 have eL:=three_parts (L:=L) (i:=i.toNat) (j:=i.toNat+1) (by omega)
 have hsb:s.blk=some b:=by simp [Sl.blk,r.a]
 have hA:((L.take i.toNat).flatMap entCs).length=i.toNat * 9:=by rw [flat9,List.length_take,Nat.min_eq_left (by omega)]
 have hM:(((L.drop i.toNat).take (i.toNat+1 - i.toNat)).flatMap entCs).length=9:=by rw [flat9,List.length_take,List.length_drop,show i.toNat+1 - i.toNat=1 by omega,Nat.min_eq_left (by omega)]
 have hT:((L.drop (i.toNat+1)).flatMap entCs).length=(L.length - (i.toNat+1)) * 9:=by rw [flat9,List.length_drop]
 have hVl:(V.flatMap entCs).length=V.length * 9:=flat9 V
 have cA:=entsC (L:=L.take i.toNat)
 have cT:=entsC (L:=L.drop (i.toNat+1))
 have cV:=entsC (L:=V)
 have vown:=nv.own
 have vrd:=nv.own.rd
 have nvne:=nv.ne
 have ef:(L.take i.toNat++(V++L.drop (i.toNat+1))).flatMap entCs=(L.take i.toNat).flatMap entCs++(V.flatMap entCs++(L.drop (i.toNat+1)).flatMap entCs):=by rw [List.flatMap_append,List.flatMap_append]
 rw [ef] at fin
 rw [eL] at r
 clear nd nv eL ef k hne
 generalize (L.take i.toNat).flatMap entCs=A at *
 generalize ((L.drop i.toNat).take (i.toNat+1 - i.toNat)).flatMap entCs=M at *
 generalize (L.drop (i.toNat+1)).flatMap entCs=T at *
 generalize V.flatMap entCs=Vc at *
 generalize hn:L.length=n at *
 generalize hm:V.length=m at *
 obtain ⟨iN,rfl⟩:=Int.eq_ofNat_of_zero_le h0
 simp only [Int.toNat_natCast] at *
 have cAVT:∀ v∈A++(Vc++T),oneC v=true:=fun v hv=>by
  rcases List.mem_append.1 hv with h | h
  .exact cA v h
  .exact (List.mem_append.1 h).elim (cV v) (cT v)
 have cAV:∀ v∈A++Vc,oneC v=true:=fun v hv=>(List.mem_append.1 hv).elim (cA v) (cV v)
 have hrl:=r.len
 simp only [List.length_append] at hrl
 rw [List.append_assoc,List.append_assoc] at r
 have rT:RowO w.heap s b ((A++M)++(T++rest)):=by simpa using r
 have sX:∀{q},q=b->s.blk=some q:=fun h=>by rw [hsb,h]
 refine Cut.mk h0 (by omega) (by omega) (by omega) (If.beq (fun h=>by omega) fun _=>If.beq (fun h=>?_) fun h=>?_)
 .have hT0:T=[]:=List.eq_nil_of_length_eq_zero (by omega)
  subst hT0
  refine RowO.cut0 r (by omega) (by omega) rfl ?_
  have r2:RowO w.heap ⟨some ⟨b,0,none⟩,iN,s.cap⟩ b (A++(M++([]++rest))):=r.sub (by omega)
  rcases Nat.eq_zero_or_pos m with hm0 | hm0
  .have hV0:Vc=[]:=List.eq_nil_of_length_eq_zero (by omega)
   subst hV0
   refine app_fit (e:=133) (ie:=Tryz.t133) (by kernel_rfl) (by kernel_rfl) (by kernel_rfl) r2 vrd.src (by simp only; omega) fun w2 h2=>If.dec (fun _=>?_) fun h=>by simp only at h; omega
   have r2':=r.wrt h2 (length_setL _ _ _)
   refine RowO.cut r2' (by simp only; omega) (by simp only; omega) (by omega) rfl fun s4 o4 l4 c4 a4 o4le o4e=>?_
   obtain ⟨s4a,s4l,s4c⟩:=s4
   simp only at a4 l4 o4le o4e
   subst a4
   obtain ⟨w3,zs,hrun,hzl,hw3⟩:=clear_entry (b:=b) (off:=o4) (n:=s4l) (c:=s4c) r2'.blk (by rw [length_setL]; simp only [List.length_append,List.length_nil]; omega)
   have e2:o4=A.length+0:=by rw [o4e (by omega)]; omega
   have hw3':Wrt w2 b (.cells (A++setL (M++([]++rest)) 0 zs).toArray 133 (0,0)) w3:=by
    have:=hw3
    rw [show setL (A++(M++([]++rest))) ((⟨some ⟨b,0,none⟩,((iN:Nat):Int).toNat,s.cap⟩ : Sl).len * 9) []=A++(M++([]++rest)) from rfl,e2,setL_app_right] at this
    exact this
   refine ⟨w3,hrun,fin ((h2.ext.trans hw3.ext fun _ _ h=>h).mono fun q _ h=>sX h) ?_ (.inl (by rw [hsb]; rfl))⟩
   have r3:RowO w3.heap ⟨some ⟨b,0,none⟩,((iN:Nat):Int).toNat+vv.len,s.cap⟩ b (A++setL (M++([]++rest)) 0 zs):=⟨rfl,hw3'.get r2'.blk,by simp only [List.length_append,length_setL,List.length_nil]; omega,by simp only; omega⟩
   have:=r3.own (by simp only; omega) cA
   rw [List.append_nil,List.append_nil]; exact this
  .refine app_api_Entry (r2.own hA cA) (Nat.zero_le _) vrd.src (by simp only; omega) fun s3 w2 o3 l3 x3 hb3=>If.dec (fun h=>by simp only at l3; omega) fun _=>fin (x3.mono fun q _ h=>?_) ?_ (hb3.imp (fun h=>by rw [h,hsb]; rfl) id)
   .simp [Sl.blk] at h; exact sX h.symm
   .rw [List.append_nil]; exact o3
 have rd2:Rd (drewW w).heap ⟨some ⟨b,0,none⟩,iN,s.cap⟩ 9 A:=rd_row (w:=drewW w) (row:=[]++(A++(M++(T++rest)))) r.blk rfl (by simp only; omega) hA (row_at rfl) cA
 refine ⟨fun _=>True,trivial,RowO.cut0 (w:=drewW w) r (by omega) (by omega) rfl (Ar.i64 (by dsimp only; omega) (RowO.cut (w:=drewW w) r (by omega) (by omega) (by omega) rfl fun s6 o6 l6 c6 a6 _ _=>Ar.i64 (by dsimp only; omega) ?_))⟩
 have l6':s6.len=n - (iN+1):=by omega
 rw [l6']
 clear l6 c6 a6 l6'
 rw [show (((((iN:Nat):Int).toNat:Nat):Int)+(vv.len:Int)+((n - (iN+1):Nat):Int))=((iN+m+(n - (iN+1)):Nat):Int) by omega]
 refine If.dec (fun hg=>?_) fun hg=>?_
 .refine RowO.cut0 (w:=drewW w) r (by omega) (by omega) rfl (Ar.i64 (by omega) ?_)
  rw [show ((iN+m+(n - (iN+1)):Nat):Int) - (iN:Int)=((m+(n - (iN+1)):Nat):Int) by omega]
  refine app_grow (w:=drewW w) (e:=133) (ie:=Tryz.t133) (z:=Tryz.t133.zero.getD .nilFunc) (by kernel_rfl) (by kernel_rfl) (by kernel_rfl) (by kernel_rfl) (by kernel_rfl) (by kernel_rfl) (by decide +kernel) (by kernel_rfl) rfl rd2 (by simp only; omega) (by simp only; omega) fun s8 w4 zs r8 l8 _ x4=>?_
  simp only at l8
  have x4':Ext No w w4:=x4.drew_left
  have rlt:=blt r.blk
  have rT':RowO w4.heap s b ((A++M)++(T++rest)):=⟨rT.a,get_no rT.blk x4',rT.len,rT.le⟩
  refine grow_copies (t:=n - (iN+1)) (m:=m) (P:=A++M) (T:=T) (rest:=rest) (Vc:=Vc) r8 (by omega) hA h0 (by omega) (by omega) rT' (by omega) (by simp only [List.length_append]; omega) (by omega) hT cT (by show b≠w.heap.size; omega) (vrd.no x4') vl fun w' zs' r' x'=>fin ((x4'.of_no).trans x' fun q hq h=>by have:q=w.heap.size:=h; omega) ?_ (.inr ⟨w.heap.size,by show s8.a.map _=_; rw [r'.a]; rfl,Nat.le_refl _⟩)
  have r'':RowO w'.heap s8 w.heap.size ((A++(Vc++T))++zs'):=by have:=r'; simp only [List.append_assoc] at this ⊢; exact this
  exact r''.own (by rw [l8]; simp only [List.length_append]; omega) cAVT
 .refine RowO.cut0 (w:=drewW w) r (by omega) (by omega) rfl (Ar.i64 (by omega) ?_)
  have r12:RowO (drewW w).heap ⟨some ⟨b,0,none⟩,((iN+m+(n - (iN+1)):Nat):Int).toNat,s.cap⟩ b (A++(M++(T++rest))):=r.sub (by omega)
  have r12':RowO (drewW w).heap ⟨some ⟨b,0,none⟩,((iN+m+(n - (iN+1)):Nat):Int).toNat,s.cap⟩ b ((A++M)++(T++rest)):=rT.sub (by omega)
  have hX:Vc.length+T.length<=(M++(T++rest)).length:=by simp only [List.length_append]; omega
  refine If.dec (fun hm1=>?_) fun hm1=>?_
  .refine RowO.cut r12 (by omega) (by simp only; omega) (by simp only; omega) rfl fun s13 o13 l13 c13 a13 o13le o13e=>?_
   simp only at l13 o13e
   refine copy_entry (w:=drewW w) (n:=m) (xs:=Vc) a13 r12.blk (by rw [l13,vl]; omega) (Rd.pre (h:=(drewW w).heap) vrd vl.symm) (by simp only [List.length_append]; omega) fun w7 h7=>⟨fun _=>True,trivial,Ar.i64 (by omega) ?_⟩
   have e7:setL (A++(M++(T++rest))) o13 Vc=(A++(Vc++M.drop Vc.length))++(T++rest):=by
    have e13:Vc=[]∨o13=A.length+0:=by
     rcases Nat.eq_zero_or_pos m with h | h
     .exact .inl (List.eq_nil_of_length_eq_zero (by omega))
     .exact .inr (by rw [o13e (by omega)]; omega)
    rcases e13 with h | h
    .subst h; simp [setL]
    .rw [h,setL_app_right,setL_parts _ _ _ (by simp only [List.length_append]; omega)]
     simp only [List.take_zero,List.nil_append,Nat.zero_add,List.append_assoc]
     rw [List.drop_append_of_le_length (by omega)]
   have e7b:setL (A++(M++(T++rest))) o13 Vc=setL (A++(M++(T++rest))) (A.length+0) Vc:=by
    rcases Nat.eq_zero_or_pos m with h | h
    .have:Vc=[]:=List.eq_nil_of_length_eq_zero (by omega)
     subst this; rfl
    .rw [o13e (by omega)]; congr 1; omega
   have r7':=r12.wrt h7 (length_setL _ _ _)
   have r7:RowO (drewW w7).heap ⟨some ⟨b,0,none⟩,((iN+m+(n - (iN+1)):Nat):Int).toNat,s.cap⟩ b (setL (A++(M++(T++rest))) o13 Vc):=r7'
   have rs7:RowO (drewW w7).heap s b (setL (A++(M++(T++rest))) o13 Vc):=⟨r.a,r7.blk,by rw [length_setL]; exact r.len,r.le⟩
   refine RowO.cut r7 (by omega) (by simp only; omega) (by simp only; omega) rfl fun s14 o14 l14 c14 a14 o14le o14e=>RowO.cut rs7 (by omega) (by omega) (by omega) rfl fun s15 o15 l15 c15 a15 o15le o15e=>?_
   simp only at l14 o14e
   have hs15:Rd (drewW w7).heap ⟨s15.a,n - (iN+1),s15.cap⟩ 9 T:=rd_row (w:=drewW w7) (s:=⟨s15.a,n - (iN+1),s15.cap⟩) (by rw [<- e7]; exact rs7.blk) a15 (by simp only; omega) hT (row_at (by rw [o15e (by omega)]; simp only [List.length_append,List.length_drop]; omega)) cT
   refine copy_entry (w:=drewW w7) (n:=n - (iN+1)) (xs:=T) a14 r7.blk (by rw [l14,l15]; omega) hs15 (by rw [length_setL]; simp only [List.length_append]; omega) fun w8 h8=>⟨trivial,?_⟩
   have e8:setL (setL (A++(M++(T++rest))) o13 Vc) o14 T=(A++(Vc++T))++(M++(T++rest)).drop (Vc.length+T.length):=by
    rw [e7b,o14e (by omega),show ((iN:Int)+(vv.len:Int)).toNat * 9=A.length+Vc.length by omega,ins_row2 hX]
    simp only [List.append_assoc]
   rw [e8] at h8
   have r8:=r7.wrt h8 (by rw [<- e8,length_setL,length_setL])
   have rs8:RowO w8.heap s b ((A++(Vc++T))++(M++(T++rest)).drop (Vc.length+T.length)):=⟨r.a,r8.blk,r8.len,r.le⟩
   refine RowO.cut rs8 (by omega) (by omega) (by omega) rfl fun s16 o16 l16 c16 a16 o16le o16e=>?_
   obtain ⟨s16a,s16l,s16c⟩:=s16
   simp only at a16 l16 o16le o16e
   subst a16
   obtain ⟨w9,zs,hrun,hzl,hw9⟩:=clear_entry (b:=b) (off:=o16) (n:=s16l) (c:=s16c) rs8.blk (by simp only [List.length_append,List.length_drop]; omega)
   have x9:Ext (fun q=>s.blk=some q) w w9:=(((h7.ext.drew_left).trans h8.ext.drew_left fun _ _ h=>h).trans hw9.ext fun _ _ h=>h).mono fun q _ h=>sX h
   refine ⟨w9,hrun,fin x9 ?_ (.inl (by rw [hsb]; rfl))⟩
   have e9:∃ R,setL ((A++(Vc++T))++(M++(T++rest)).drop (Vc.length+T.length)) o16 zs=(A++(Vc++T))++R:=by
    rcases Nat.eq_zero_or_pos s16l with h | h
    .have:zs=[]:=List.eq_nil_of_length_eq_zero (by omega)
     subst this; exact ⟨_,rfl⟩
    .rw [o16e (by omega),show ((iN+m+(n - (iN+1)):Nat):Int).toNat * 9=(A++(Vc++T)).length+0 by simp only [List.length_append]; omega,setL_app_right]
     exact ⟨_,rfl⟩
   obtain ⟨R,e9⟩:=e9
   have hlR:=congrArg List.length e9
   rw [length_setL] at hlR
   rw [e9] at hw9
   exact (r8.wrt hw9 hlR.symm).own (by simp only [List.length_append]; omega) cAVT
  .have hV0:Vc≠[]:=by intro h; rw [h] at hVl; simp at hVl; omega
   obtain ⟨bv,restv,rv⟩:=vown.atRow hV0
   have hbv:b≠bv:=fun e=>nvne bv (by simp [Sl.blk,rv.a]) (by rw [hsb,e])
   refine Ar.i64 (by omega) (RowO.cut r12 (by omega) (by simp only; omega) (by simp only; omega) rfl fun s17 o17 l17 c17 a17 o17le o17e=>?_)
   refine ⟨false,drewW w,overlaps_apart (w:=drewW w) a17 rv.a r.blk rv.blk hbv (by simp only [List.length_append]; omega),If.not (If.no ?_)⟩
   refine ⟨fun _=>True,trivial,Ar.i64 (by omega) (RowO.cut (w:=drewW (drewW w)) r12 (by omega) (by simp only; omega) (by simp only; omega) rfl fun s18 o18 l18 c18 a18 o18le o18e=>RowO.cut (w:=drewW (drewW w)) rT (by omega) (by omega) (by omega) rfl fun s19 o19 l19 c19 a19 o19le o19e=>?_)⟩
   simp only at l18 o18e
   have hs19:Rd (drewW (drewW w)).heap ⟨s19.a,n - (iN+1),s19.cap⟩ 9 T:=rd_row (w:=drewW (drewW w)) (s:=⟨s19.a,n - (iN+1),s19.cap⟩) rT.blk a19 (by simp only; omega) hT (row_at (by rw [o19e (by omega)]; simp only [List.length_append]; omega)) cT
   refine copy_entry (w:=drewW (drewW w)) (n:=n - (iN+1)) (xs:=T) a18 r.blk (by rw [l18,l19]; omega) hs19 (by simp only [List.length_append]; omega) fun w11 h11=>⟨trivial,?_⟩
   have r11:=RowO.wrt (w:=drewW (drewW w)) r12 h11 (length_setL _ _ _)
   refine RowO.cut r11 (by omega) (by simp only; omega) (by simp only; omega) rfl fun s20 o20 l20 c20 a20 o20le o20e=>?_
   simp only at l20 o20e
   have vrd11:Rd w11.heap vv 9 Vc:=Rd.ext (w:=drewW (drewW w)) vrd h11.ext fun a q ha hq h=>by have:=nvne q (by simp [Sl.blk,ha,hq]); rw [hsb,h] at this; exact this rfl
   refine copy_entry (n:=m) (xs:=Vc) a20 r11.blk (by rw [l20,vl]; omega) (vrd11.pre vl.symm) (by rw [length_setL]; simp only [List.length_append]; omega) fun w12 h12=>?_
   have e12:setL (setL (A++(M++(T++rest))) o18 T) o20 Vc=(A++(Vc++T))++(M++(T++rest)).drop (Vc.length+T.length):=by
    have f18:o18=A.length+Vc.length:=by rw [o18e (by omega)]; omega
    have f20:o20=A.length+0:=by rw [o20e (by omega)]; omega
    rw [f18,f20,ins_row hX]
    simp only [List.append_assoc]
   rw [e12] at h12
   have x12:Ext (fun q=>s.blk=some q) w w12:=(((h11.ext.drew_left).drew_left).trans h12.ext fun _ _ h=>h).mono fun q _ h=>sX h
   refine fin x12 ((r11.wrt h12 (by rw [<- e12,length_setL])).own (by simp only [List.length_append]; omega) cAVT) (.inl (by rw [hsb]; rfl))
end
end Go.Proofs.YtcamoanigdfihaaGreat
namespace Go.V
abbrev mkE(k:List Int)(r:Rf):Ent:=⟨k,[],0, .z,r⟩
def freshR:List (List Int×List Ent)->List Rf->List Ent
 | (k,_)::ls,r::rs=>mkE k r::freshR ls rs
 | _,_=>[]
def freshE(first:List Int):List (List Int×List Ent)->List Rf->List Ent
 | _::ls,r::rs=>mkE first r::freshR ls rs
 | _,_=>[]
theorem freshR_len:∀{ls:List (List Int×List Ent)}{rs:List Rf},rs.length<=ls.length->(freshR ls rs).length=rs.length
 | _,[],_=>by unfold freshR; split <;> simp_all
 | [],_::_,h=>by simp at h
 | x::ls,r::rs,h=>by
  obtain ⟨k,l⟩:=x
  simp only [freshR,List.length_cons] at h ⊢
  rw [freshR_len (by omega)]
theorem freshE_len{first:List Int}{ls:List (List Int×List Ent)}{rs:List Rf}(h:rs.length<=ls.length):(freshE first ls rs).length=rs.length:=by
 cases ls with
 | nil=>cases rs with
  | nil=>rfl
  | cons=>simp at h
 | cons x ls=>cases rs with
  | nil=>rfl
  | cons r rs=>simp only [freshE,List.length_cons] at h ⊢; rw [freshR_len (by omega)]
theorem freshR_snoc:∀{ls:List (List Int×List Ent)}{rs:List Rf}{r:Rf}(h:rs.length < ls.length),freshR ls (rs++[r])=freshR ls rs++[mkE ls[rs.length].1 r]
 | [],rs,r,h=>by simp at h
 | x::ls,[],r,h=>by obtain ⟨k,l⟩:=x; cases ls <;> rfl
 | x::ls,r0::rs,r,h=>by
  obtain ⟨k,l⟩:=x
  simp only [List.length_cons] at h
  simp only [List.cons_append,freshR,List.length_cons,List.getElem_cons_succ]
  rw [freshR_snoc (by omega)]
theorem freshE_snoc{first:List Int}{ls:List (List Int×List Ent)}{rs:List Rf}{r:Rf}(h:rs.length < ls.length):freshE first ls (rs++[r])=freshE first ls rs++[mkE (if rs.length=0 then first else ls[rs.length].1) r]:=by
 cases ls with
 | nil=>simp at h
 | cons x ls=>cases rs with
  | nil=>cases ls <;> rfl
  | cons r0 rs =>
   simp only [List.length_cons] at h
   simp only [List.cons_append,freshE,List.length_cons,List.getElem_cons_succ]
   rw [freshR_snoc (by omega),if_neg (by omega)]
section
variable {f:Pages} {t:Int}
structure LD where
 k:List Int
 l:List Ent
 kv:List KV
 p:List Rf
theorem LimbsP.data{lev:Nat}{ls:List (List Int×List Ent)}{kvm:List KV}{pm:List Rf}(h:LimbsP f t lev ls kvm pm):∃ D:List LD,D.map (fun d=>(d.k,d.l))=ls/\(D.map LD.kv).flatten=kvm/\(D.map LD.p).flatten=pm/\(∀ d∈D,Limb f t lev d.l d.kv d.p)/\D.length<=2 /\
  (∀ d1 d2,D=[d1,d2]->1<=d2.k.length/\d2.k.length<=32/\B8 d2.k/\(∀ x∈d1.kv,LtB x.1 d2.k)/\(∀ x∈d2.kv,¬ LtB x.1 d2.k)/\(0 < lev->2<=d1.l.length/\2<=d2.l.length)):=by
 cases h with
 | nil=>exact ⟨[],rfl,rfl,rfl,by simp,by simp,fun _ _ h=>by cases h⟩
 | @one l kvs ps h=>exact ⟨[⟨[],l,kvm,pm⟩],rfl,by simp,by simp,by simpa using h,by simp,fun _ _ h=>by cases h⟩
 | @two l1 l2 k1 k2 p1 p2 sep h1 h2 s1 s2 s8 lo hi n1 n2 =>
  refine ⟨[⟨[],l1,k1,p1⟩,⟨sep,l2,k2,p2⟩],rfl,by simp,by simp,fun d hd=>?_,by simp,fun d1 d2 h=>?_⟩
  .simp only [List.mem_cons,List.not_mem_nil,or_false] at hd
   rcases hd with h | h <;> subst h <;> assumption
  .simp only [List.cons.injEq,and_true] at h
   obtain ⟨rfl,rfl⟩:=h
   exact ⟨s1,s2,s8,lo,hi,fun h=>⟨n1 h,n2 h⟩⟩
theorem KidsP.one{Q:Rf->List KV->List Rf->Prop}{e:Ent}{kv:List KV}{p:List Rf}(h:Q e.cd kv p)(lo:∀ x∈kv,¬ LtB x.1 e.key):KidsP Q [e] kv p:=by
 have:=KidsP.cons (l:=[]) (kvs:=[]) (ps:=[]) h lo (fun _ _ h=>by cases h) .nil
 simpa using this
theorem nilK_rise{l:List Ent}(h:RiseP l):RiseP (nilK l):=by
 cases l with
 | nil=>exact h
 | cons e l =>
  have h2:=List.pairwise_cons.1 h
  exact List.pairwise_cons.2 ⟨fun y hy=>LtB.nil (h2.1 y hy).ne_nil,h2.2⟩
theorem nilK_inn{l:List Ent}(h1:∀ e∈l,e.cd ≠ .z/\e.ch = .z/\e.val.length=0/\e.n=0/\e.key.length<=32)(h2:RiseP l):InnP (nilK l):=by
 refine ⟨fun e he=>?_,nilK_rise h2,fun e l' hl=>?_⟩
 .cases l with
  | nil=>cases he
  | cons e' l =>
   rcases List.mem_cons.1 he with h' | h'
   .subst h'; have:=h1 e' (by simp); exact ⟨this.1,this.2.1,this.2.2.1,this.2.2.2.1,by simp⟩
   .exact h1 e (List.mem_cons_of_mem _ h')
 .cases l with
  | nil=>cases hl
  | cons e' l=>simp only [nilK,List.cons.injEq] at hl; rw [<- hl.1]
theorem nilK_size{l:List Ent}:szL 2 (nilK l)<=szL 2 l:=by
 cases l with
 | nil=>exact Nat.le_refl _
 | cons e l =>
  rw [nilK,szL_cons,szL_cons]
  have:=wrE_key 2 e []
  simp only [List.length_nil] at this; omega
theorem branch_law{lev:Nat}{a c:List Ent}{mid:Ent}{D:List LD}{rs:List Rf}{ka kc:List KV}{pa pc:List Rf}(hi:InnP (a++(mid::c)))(ok:EOk (a++(mid::c)))(hlev:lev+1<=30)
  (ba:KidsP (SubT f t lev) a ka pa) (bc:KidsP (SubT f t lev) c kc pc) (hka:∀ x∈ka,LtB x.1 mid.key)
  (hD:∀ i (h:i < D.length) (h':i < rs.length),SubT f t lev rs[i] D[i].kv (rs[i]::D[i].p)) (hlen:rs.length=D.length) (hr:∀ r∈rs,r.ok/\r ≠ .z) (hl2:D.length<=2)
  (two:∀ d1 d2,D=[d1,d2]->1<=d2.k.length/\d2.k.length<=32/\B8 d2.k/\(∀ x∈d1.kv,LtB x.1 d2.k)/\(∀ x∈d2.kv,¬ LtB x.1 d2.k))
  (lo:∀ d∈D,∀ x∈d.kv,¬ LtB x.1 mid.key) (hc:∀ e∈c,∀ d∈D,∀ x∈d.kv,LtB x.1 e.key) :
  (nilK (a++(freshE mid.key (D.map fun d=>(d.k,d.l)) rs++c))≠[]->RightP 2 ((lev+1:Nat):Int) (nilK (a++(freshE mid.key (D.map fun d=>(d.k,d.l)) rs++c)))) /\
  EOk (nilK (a++(freshE mid.key (D.map fun d=>(d.k,d.l)) rs++c))) /\
  (∃ pm,KidsP (SubT f t lev) (nilK (a++(freshE mid.key (D.map fun d=>(d.k,d.l)) rs++c))) (ka++((D.map LD.kv).flatten++kc)) (pa++(pm++pc))/\∀ q,pm.count q=rs.count q+(D.map LD.p).flatten.count q) /\
  szL 2 (nilK (a++(freshE mid.key (D.map fun d=>(d.k,d.l)) rs++c)))<=szL 2 (a++(mid::c))+47:=by
 have hrise:=hi.rise
 obtain ⟨ra,rmc,rac⟩:=riseP_app.1 hrise
 obtain ⟨rm,rc⟩:=List.pairwise_cons.1 rmc
 have hmid:=hi.ent mid (by simp)
 have okm:=ok mid (by simp)
 have oka:EOk a:=fun e he=>ok e (by simp [he])
 have okc:EOk c:=fun e he=>ok e (by simp [he])
 have enta:∀ e∈a,e.cd ≠ .z/\e.ch = .z/\e.val.length=0/\e.n=0/\e.key.length<=32:=fun e he=>hi.ent e (by simp [he])
 have entc:∀ e∈c,e.cd ≠ .z/\e.ch = .z/\e.val.length=0/\e.n=0/\e.key.length<=32:=fun e he=>hi.ent e (by simp [he])
 have hac:∀ e b',c=e::b'->∀ x∈ka,LtB x.1 e.key:=fun e b' h x hx=>(hka x hx).trans (rm e (by rw [h]; simp))
 have okE:∀{k:List Int}{r:Rf},B8 k->r.ok->((mkE k r).ch.ok/\(mkE k r).cd.ok)/\B8 (mkE k r).key/\B8 (mkE k r).val:=fun h1 h2=>⟨⟨by show Rf.z.ok; decide,h2⟩,h1,B8.nil⟩
 have entE:∀{k:List Int}{r:Rf},k.length<=32->r ≠ .z->(mkE k r).cd ≠ .z/\(mkE k r).ch = .z/\(mkE k r).val.length=0/\(mkE k r).n=0/\(mkE k r).key.length<=32:=fun h1 h2=>⟨h2,rfl,rfl,rfl,h1⟩
 have szm:(wrE 2 mid).length=15+mid.key.length:=szE_inn
 have fin:∀{fr:List Ent},freshE mid.key (D.map fun d=>(d.k,d.l)) rs=fr->(∀ e∈fr,e.cd ≠ .z/\e.ch = .z/\e.val.length=0/\e.n=0/\e.key.length<=32)->EOk fr->RiseP (a++(fr++c))->(∃ pm,KidsP (SubT f t lev) fr ((D.map LD.kv).flatten) pm/\∀ q,pm.count q=rs.count q+(D.map LD.p).flatten.count q)->(∀ e b',fr++c=e::b'->∀ x∈ka,LtB x.1 e.key)->szL 2 fr<=15+mid.key.length+47 ->
   (nilK (a++(fr++c))≠[]->RightP 2 ((lev+1:Nat):Int) (nilK (a++(fr++c))))/\EOk (nilK (a++(fr++c)))/\(∃ pm,KidsP (SubT f t lev) (nilK (a++(fr++c))) (ka++((D.map LD.kv).flatten++kc)) (pa++(pm++pc))/\∀ q,pm.count q=rs.count q+(D.map LD.p).flatten.count q)/\szL 2 (nilK (a++(fr++c)))<=szL 2 (a++(mid::c))+47:=fun {fr} _ e1 e2 e3 e4 e5 e6=>by
  refine ⟨fun hne=>(nilK_inn (fun e he=>?_) e3).right hne (by omega),EOk.nilK (oka.append (e2.append okc)),?_,?_⟩
  .rcases List.mem_append.1 he with h | h
   .exact enta e h
   .exact (List.mem_append.1 h).elim (e1 e) (entc e)
  .obtain ⟨pm,h1,h2⟩:=e4
   refine ⟨pm,KidsP.nilK (KidsP.append ba (KidsP.append h1 bc fun e b' h x hx=>?_) e5),h2⟩
   obtain ⟨l',hl',hx'⟩:=List.mem_flatten.1 hx
   obtain ⟨d,hd,rfl⟩:=List.mem_map.1 hl'
   exact hc e (by rw [h]; simp) d hd x hx'
  .refine Nat.le_trans nilK_size ?_
   rw [szL_append,szL_append,szL_append,szL_cons,szm]; omega
 have shape:(D=[]/\rs=[])∨(∃ d r,D=[d]/\rs=[r])∨∃ d1 d2 r1 r2,D=[d1,d2]/\rs=[r1,r2]:=by
  match D,rs,hlen,hl2 with
  | [],[],_,_=>exact .inl ⟨rfl,rfl⟩
  | [d],[r],_,_=>exact .inr (.inl ⟨d,r,rfl,rfl⟩)
  | [d1,d2],[r1,r2],_,_=>exact .inr (.inr ⟨d1,d2,r1,r2,rfl,rfl⟩)
 rcases shape with ⟨rfl,rfl⟩ | ⟨d,r,rfl,rfl⟩ | ⟨d1,d2,r1,r2,rfl,rfl⟩
 ·
  refine fin (fr:=[]) rfl (by simp) (fun e he=>by cases he) (riseP_app.2 ⟨ra,rc,fun x hx y hy=>rac x hx y (List.mem_cons_of_mem _ hy)⟩) ⟨[], .nil,fun q=>rfl⟩ (fun e b' h=>hac e b' h) (by simp [szL])
 ·
  have hs:=hD 0 (by simp) (by simp)
  have h1:=hr r (by simp)
  refine fin (fr:=[mkE mid.key r]) rfl (fun e he=>by rw [List.mem_singleton] at he; subst he; exact entE hmid.2.2.2.2 h1.2) (fun e he=>by rw [List.mem_singleton] at he; subst he; exact okE okm.2.1 h1.1) (riseP_app.2 ⟨ra,List.pairwise_cons.2 ⟨fun y hy=>rm y hy,rc⟩,fun x hx y hy=>?_⟩) ⟨r::d.p,by simpa using KidsP.one (e:=mkE mid.key r) hs (lo d (by simp)),fun q=>by simp only [List.map_cons,List.map_nil,List.flatten_cons,List.flatten_nil,List.append_nil,List.count_cons,List.count_nil]; omega⟩ (fun e b' h x hx=>?_) (by rw [szL_cons,szE_inn,szL_nil]; simp only; omega)
  .rcases List.mem_cons.1 hy with h | h
   .subst h; exact rac x hx mid (by simp)
   .exact rac x hx y (List.mem_cons_of_mem _ h)
  .simp only [List.cons_append,List.nil_append,List.cons.injEq] at h; rw [<- h.1]; exact hka x hx
 ·
  have hs1:=hD 0 (by simp) (by simp)
  have hs2:=hD 1 (by simp) (by simp)
  have h1:=hr r1 (by simp)
  have h2:=hr r2 (by simp)
  obtain ⟨t1,t2,t3,t4,t5⟩:=two d1 d2 rfl
  obtain ⟨u1,hu1⟩:=List.exists_mem_of_ne_nil _ hs1.ne
  obtain ⟨u2,hu2⟩:=List.exists_mem_of_ne_nil _ hs2.ne
  have ltm:LtB mid.key d2.k:=LtB.of_le (lo d1 (by simp) u1 hu1) (t4 u1 hu1)
  have ltc:∀ y∈c,LtB d2.k y.key:=fun y hy=>LtB.of_le (t5 u2 hu2) (hc y hy d2 (by simp) u2 hu2)
  have k1:KidsP (SubT f t lev) [mkE mid.key r1] d1.kv (r1::d1.p):=KidsP.one hs1 (lo d1 (by simp))
  have k2:KidsP (SubT f t lev) [mkE d2.k r2] d2.kv (r2::d2.p):=KidsP.one hs2 t5
  refine fin (fr:=[mkE mid.key r1,mkE d2.k r2]) rfl (fun e he=>?_) (fun e he=>?_) (riseP_app.2 ⟨ra,List.pairwise_cons.2 ⟨fun y hy=>?_,List.pairwise_cons.2 ⟨fun y hy=>ltc y hy,rc⟩⟩,fun x hx y hy=>?_⟩) ⟨(r1::d1.p)++(r2::d2.p),?_,fun q=>?_⟩ (fun e b' h x hx=>?_) (by rw [szL_cons,szL_cons,szE_inn,szE_inn,szL_nil]; simp only; omega)
  .simp only [List.mem_cons,List.not_mem_nil,or_false] at he
   rcases he with h | h <;> subst h
   .exact entE hmid.2.2.2.2 h1.2
   .exact entE t2 h2.2
  .simp only [List.mem_cons,List.not_mem_nil,or_false] at he
   rcases he with h | h <;> subst h
   .exact okE okm.2.1 h1.1
   .exact okE t3 h2.1
  .rcases List.mem_cons.1 hy with h | h
   .subst h; exact ltm
   .exact rm y h
  .rcases List.mem_cons.1 hy with h | h
   .subst h; exact rac x hx mid (by simp)
   .rcases List.mem_cons.1 h with h | h
    .subst h; exact (rac x hx mid (by simp)).trans ltm
    .exact rac x hx y (List.mem_cons_of_mem _ h)
  .have:=KidsP.append k1 k2 (fun e b' h x hx=>by simp only [List.cons.injEq] at h; rw [<- h.1]; exact t4 x hx)
   simpa using this
  .simp only [List.map_cons,List.map_nil,List.flatten_cons,List.flatten_nil,List.append_nil,List.count_cons,List.count_nil,List.count_append]; omega
  .simp only [List.cons_append,List.nil_append,List.cons.injEq] at h; rw [<- h.1]; exact hka x hx
end
end Go.V
