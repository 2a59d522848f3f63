/- Texts for LPlayUnlines,LPlayParses,LPlayTexts,LPlayNotes,LPlayLines, part 12. -/
import Derived.Lib.Builder
import Derived.Lib.UnsafeStr
import Derived.Lib.MakeNoZero
import Derived.Test.YtimonamjecmlcaaGreatDoorPp11
set_option maxRecDepth 100000
namespace Go.V
abbrev uB(l:Bs):List Int:=l.map fun b=>(b.toNat:Int)
abbrev byV(l:Bs):List Value:=(uB l).map (Value.int .u8)
theorem byV_len(l:Bs):(byV l).length=l.length:=by simp
theorem byV_one(l:Bs):∀ v∈byV l,oneC v=true:=oneC_ints
theorem toB_uB(l:Bs):toB (uB l)=l:=by
 unfold toB
 rw [List.map_map]
 conv=>rhs; rw [<- List.map_id l]
 refine List.map_congr_left fun b _=>?_
 simp
def BdR(h:Array Obj)(base b:Nat)(L:Bs):Prop:=∃ (p:Option Addr) (s:Sl),h[b]? = some (.cells [.pointer p, .slice s.a s.len s.cap].toArray 66 (0,0))/\(p=none∨p=some ⟨b,0,none⟩)/\Own h base 5 1 s (byV L)/\b < base
theorem BdR.no{w w':Wd}{base b:Nat}{L:Bs}(h:BdR w.heap base b L)(x:Ext No w w'):BdR w'.heap base b L:=by
 obtain ⟨p,s,g,hp,o,hb⟩:=h
 obtain ⟨hlt,_⟩:=Array.getElem?_eq_some_iff.1 g
 exact ⟨p,s,by rw [x.blk _ hlt id]; exact g,hp,o.no x,hb⟩
theorem ext_alloc(w:Wd)(o:Obj):Ext No w (w.alloc o):=by
 refine ⟨rfl,rfl,rfl,?_,fun i hi _=>?_⟩
 .show w.heap.size<=(w.heap.push o).size; simp
 .exact heap_push _ _ _ hi
theorem ext_freeze(w:Wd)(a:Addr)(n:Nat):Ext (·=a.block) w (w.freeze a n):=by
 unfold World.freeze
 split
 .exact Ext.refl _ _
 .refine ⟨rfl,rfl,rfl,by simp,fun i _ hi=>?_⟩
  simp only [Array.getElem?_modify]
  rw [if_neg (fun e=>hi e.symm)]
end Go.V
namespace Go.Proofs.YtimonamjecmlcaaGreatDoor
open Go.V
section
variable {w:Wd} {base b:Nat} {L:Bs}
theorem get_ext{S:Nat->Prop}{w w':Wd}{b:Nat}{o:Obj}(h:w.heap[b]? = some o)(x:Ext S w w')(hb:¬ S b):w'.heap[b]? = some o:=by
 obtain ⟨hlt,_⟩:=Array.getElem?_eq_some_iff.1 h
 rw [x.blk _ hlt hb]; exact h
theorem get_no{w w':Wd}{b:Nat}{o:Obj}(h:w.heap[b]? = some o)(x:Ext No w w'):w'.heap[b]? = some o:=get_ext h x id
theorem blt{h:Array Obj}{b:Nat}{o:Obj}(hb:h[b]? = some o):b < h.size:=(Array.getElem?_eq_some_iff.1 hb).1
theorem shape_of{w:Wd}{b:Nat}{cs:List Value}{T:TypeId}{fz:Nat×Nat}(h:w.heap[b]? = some (.cells cs.toArray T fz)):w.shape? b=some (T,cs.length):=by
 unfold World.shape?; rw [h]; simp
theorem run_ptr_same(a:Addr)(x y:Operand)(w:Wd):Sem.run pz (ptrCmp .neq 64 x y (.pointer (some a)) (.pointer (some a))) w = .ok (.bool false) w:=by
 unfold ptrCmp
 rw [Sem.run_bind,eqGuard_quiet (by rintro c d ⟨h,_⟩; cases h) (by intro h; cases h)]
 exact Lib.run_neq_ptr_same (te:=66) (j:=Tryz.t66) w a (by kernel_rfl) (by kernel_rfl)
theorem run_noesc(p:Option Addr)(w:Wd):Sem.run pz (callFunc 114 #[.pointer p]) w = .ok (.value (.pointer p)) w:=by
 rw [run_callFunc_extern Tryz.func114 (by kernel_rfl) (by kernel_rfl) (by kernel_rfl) (e:=Extern.AbiNoEscape.same) (by kernel_rfl),Lib.run_noEscape]; rfl
theorem copyCheck_spec{p:Option Addr}{v:Sl}{K:Wd->Prop}(g:w.heap[b]? = some (.cells [.pointer p, .slice v.a v.len v.cap].toArray 66 (0,0)))(hp:p=none∨p=some ⟨b,0,none⟩)
  (k:∀ w',w'.heap[b]? = some (.cells [.pointer (some ⟨b,0,none⟩), .slice v.a v.len v.cap].toArray 66 (0,0))->Ext (·=b) w w'->K w'):C_strings_Builder_copyCheck (some ⟨b,0,none⟩) w K:=by
 apply S_strings_Builder_copyCheck
 have hsh:=shape_of g
 refine Nn.mk ⟨p,Cell.lst g rfl,?_⟩
 rcases hp with rfl | rfl
 .refine If.yes ⟨_,w,Lib.run_to_unsafe (t:=66) (j:=Tryz.t66) w ⟨b,0,none⟩ (by kernel_rfl) (by kernel_rfl) (by kernel_rfl) (by rw [show Tryz.t66.size=2 by kernel_rfl]; decide) hsh (by show 0 < 2; decide),_,w,run_noesc _ w,_,w,Lib.run_from_unsafe (u:=66) (j:=Tryz.t66) w ⟨b,0,none⟩ (by kernel_rfl) (by kernel_rfl) (by kernel_rfl) hsh (by kernel_rfl),?_⟩
  exact Nn.mk (St1.mk g (by simp) rfl fun w1 h1=>k w1 (h1.get g) h1.ext)
 .exact If.no (Nn.mk ⟨_,Cell.lst g rfl,_,w,run_ptr_same _ _ _ w,If.no (k w g (Ext.refl _ _))⟩)
theorem src_str(l:Bs)(w:Wd):Src pz w (.string (stB l)) 1 l.length (byV l):=by
 refine ⟨by simp,by simp [Builtin.lenOf,stB_size],fun w' _=>?_,byV_one l⟩
 have e:((stB l).extract 0 l.length).data.toList=l:=by rw [Lib.extract_data,stB_data]; simp
 have e2:((stB l).extract 0 l.length).data=l.toArray:=by apply Array.toList_inj.1; rw [e]
 show Sem.run pz (pure (((stB l).extract 0 l.length).data.map fun b=>Value.int .u8 b.toNat)) w'=_
 rw [e2]
 simp [byV,uB,Function.comp_def]
theorem app_str{s:Sl}{l:Bs}{cs:List Value}{K:Sl->Wd->Prop}(own:Own w.heap base 5 1 s cs)(hbase:base<=w.heap.size)(hb:(s.len+l.length) * 1<=140737488355328)
  (hk:∀ s' w',Own w'.heap base 5 1 s' (cs++byV l)->s'.len=s.len+l.length->Ext (fun b=>s.blk=some b) w w'->(s'.blk=s.blk∨∃ b,s'.blk=some b/\w.heap.size<=b)->K s' w'):AppW pz 25 9 s (.string (stB l)) K w :=
 app_own (P:=pz) (e:=5) (d := .string) (ie:=Tryz.t5) (z:=Tryz.t5.zero.getD .nilFunc) (by kernel_rfl) (by kernel_rfl) (fun k h=>by cases h) (by kernel_rfl) (by kernel_rfl) (by kernel_rfl) (by kernel_rfl) (by decide) own hbase (src_str l w) hb hk
theorem wrStr_spec{l:Bs}{K:Int->Value->Wd->Prop}(h:BdR w.heap base b L)(hw:base<=w.heap.size)(hn:L.length+l.length<=100000000000)(k:∀ w',BdR w'.heap base b (L++l)->Ext (fun q=>q=b∨base<=q) w w'->K (l.length:Int) .nilIface w'):C_strings_Builder_WriteString (some ⟨b,0,none⟩) (stB l) w K:=by
 apply S_strings_Builder_WriteString
 obtain ⟨p,s,g,hp,o,hb⟩:=h
 refine copyCheck_spec g hp fun w1 g1 x1=>?_
 have nb:∀ q,s.blk=some q->base<=q:=fun q hq=>(o.lt hq).1
 have o1:=o.ext x1 fun q hq h=>by have:=nb q hq; omega
 have z1:=x1.size
 have hl:s.len=L.length:=by have:=o.len; simp at this; exact this.symm
 refine Nn.mk ⟨s,Cell.lst g1 rfl,app_str o1 (by omega) (by omega) fun s2 w2 o2 l2 x2 _=>?_⟩
 have x2':Ext (fun q=>s.blk=some q) w1 w2:=x2
 have g2:=get_ext g1 x2' fun h=>by have:=nb b h; omega
 refine Nn.mk (St1.mk g2 (by show 1 < 2; decide) rfl fun w3 h3=>?_)
 have x3:Ext (·=b) w2 w3:=h3.ext
 rw [stB_size]
 refine k w3 ⟨_,s2,h3.get g2, .inr rfl,?_,hb⟩ (((x1.mono fun _ _ h => .inl h).trans x2' fun q _ h => .inr (nb q h)).trans x3 fun _ _ h => .inl h)
 have o3:=o2.ext x3 fun q hq h=>by have:=(o2.lt hq).1; omega
 simpa [byV,uB] using o3
theorem str_spec{K:ByteArray->Wd->Prop}(h:BdR w.heap base b L)(hn:L.length<=100000000000)(k:∀ w',Ext (fun q=>base<=q) w w'->K (stB L) w'):C_strings_Builder_String (some ⟨b,0,none⟩) w K:=by
 apply S_strings_Builder_String
 obtain ⟨p,s,g,hp,o,hb⟩:=h
 have hl:s.len=L.length:=by have:=o.len; simp at this; exact this.symm
 have nb:¬ base<=b:=by omega
 refine ⟨Ext (fun q=>base<=q) w,(Ext.refl _ _).drew,Nn.mk ⟨s,Held.but (Cell.lst g rfl) nb,Nn.mk ⟨s,Held.but (Cell.lst g rfl) nb,?_⟩⟩⟩
 have xd:Ext (fun q=>base<=q) w (drewW w):=(Ext.refl _ _).drew
 by_cases hL:L=[]
 .subst hL
  have h0:s.len=0:=hl
  have hs0:∃ r w1,Sem.run pz (Builtin.unsafeSliceData_ #[25] 111 #[.slice s.a s.len s.cap]) (drewW w) = .ok (.pointer r) w1/\Ext No (drewW w) w1:=by
   obtain ⟨a,n,c⟩:=s
   cases a with
   | none=>exact ⟨_,_,Lib.run_unsafeSliceData_nil _ _ _ _ _,Ext.refl _ _⟩
   | some a =>
    by_cases hc:c=0
    .subst hc
     rcases o.is with ⟨h1,_⟩ | ⟨q,rest,ha,_,hq,_⟩
     .cases h1
     .cases ha
      exact ⟨_,_,Lib.run_unsafeSliceData_zero (drewW w) _ 111 5 (by kernel_rfl) ⟨q,0,none⟩ n _ (shape_of (w:=drewW w) hq),ext_alloc _ _⟩
    .exact ⟨_,_,Lib.run_unsafeSliceData_row _ _ _ a n c hc,Ext.refl _ _⟩
  obtain ⟨r,w1,hr,x1⟩:=hs0
  refine ⟨r,w1,hr,xd.no x1,_,w1,?_,xd.no x1,k w1 (xd.no x1)⟩
  rw [h0]
  exact Lib.run_unsafeString_none w1 _ _ _ r
 .have hne:byV L≠[]:=by simpa using hL
  obtain ⟨q,rest,ha,hq0,hq,hc,hcap⟩:=o.place hne
  have hpos:0 < L.length:=List.length_pos_iff.2 hL
  have hc0:s.cap≠0:=by omega
  refine ⟨_,drewW w,by rw [ha]; exact Lib.run_unsafeSliceData_row _ _ _ _ _ _ hc0,xd,stB L,(drewW w).freeze ⟨q,0,none⟩ L.length,?_,?_,?_⟩
  .rw [hl]
   have hcells:((byV L++rest).length)=s.cap:=by rw [hc,Nat.mul_one]
   refine Lib.run_unsafeString_row (drewW w) 111 3 9 5 (by kernel_rfl) (by kernel_rfl) q _ (shape_of (w:=drewW w) hq) L hL (by rw [List.length_append,byV_len]; omega) (by omega) fun j x hx=>?_
   rw [addr_add_none rfl,Lib.cell_of_heap (w:=drewW w) hq]
   simp only [Nat.zero_add,List.getElem?_toArray]
   have hj:=(List.getElem?_eq_some_iff.1 hx).1
   rw [List.getElem?_append_left (by simpa using hj)]
   simp [hx]
  .exact xd.trans (ext_freeze _ _ _) fun i _ h=>by rw [h]; exact hq0
  .exact k _ (xd.trans (ext_freeze _ _ _) fun i _ h=>by rw [h]; exact hq0)
theorem run_mnz(n:Nat)(hn:n<=281474976710656)(w:Wd):∃ cs:Array Value,Sem.run pz (callFunc 135 #[.int .i64 n]) w = .ok (.value (.slice (some ⟨w.heap.size,0,none⟩) n cs.size)) (w.drew.drew.alloc (.cells cs 5))/\n<=cs.size:=by
 obtain ⟨cs,h1,h2,_⟩:=Lib.run_makeNoZero (P:=pz) w #[3] 25 5 (by kernel_rfl) n hn
 refine ⟨cs,?_,h2⟩
 rw [run_callFunc_extern Tryz.func135 (by kernel_rfl) (by kernel_rfl) (by kernel_rfl) (e:=Extern.BytealgMakeNoZero.makeNoZero #[3] #[25]) (by kernel_rfl),h1]; rfl
theorem grow0_spec{n:Int}{K:Wd->Prop}(g:w.heap[b]? = some (.cells [.pointer none, .slice none 0 0].toArray 66 (0,0)))(hb:b < base)(hw:base<=w.heap.size)(h0:0<=n)(hn:n<=100000000000)
  (k:∀ w',BdR w'.heap base b []->Ext (fun q=>q=b∨base<=q) w w'->K w'):C_strings_Builder_Grow (some ⟨b,0,none⟩) n w K:=by
 apply S_strings_Builder_Grow
 refine copyCheck_spec (v:=⟨none,0,0⟩) g (.inl rfl) fun w1 g1 x1=>?_
 have z1:=x1.size
 refine ⟨fun w'=>w'=w1,If.dec (fun h=>by omega) fun _=>rfl,?_⟩
 rintro _ w2 rfl
 refine ⟨Ext No w2,(Ext.refl _ _).drew,Nn.mk ⟨⟨none,0,0⟩,Held.cell (Cell.lst g1 rfl),Nn.mk ⟨⟨none,0,0⟩,Held.cell (Cell.lst g1 rfl),Ar.i64 (by simp only; omega) (If.dec (fun hpos=>?_) fun _=>?_)⟩⟩⟩
 .apply S_strings_Builder_grow
  have g1d:(drewW w2).heap[b]? = some (.cells [.pointer (some ⟨b,0,none⟩), .slice none 0 0].toArray 66 (0,0)):=g1
  refine ⟨Ext No (drewW w2),(Ext.refl _ _).drew,Nn.mk ⟨⟨none,0,0⟩,Held.cell (Cell.lst g1d rfl),Ar.i64 (by simp only; omega) (Ar.i64 (by simp only; omega) (Nn.mk ⟨⟨none,0,0⟩,Held.cell (Cell.lst g1d rfl),?_⟩))⟩⟩
  have en:(2 * (((⟨none,0,0⟩ : Sl).cap:Nat):Int)+n)=(n.toNat:Int):=by simp only; omega
  rw [en]
  obtain ⟨cs,hr,hcs⟩:=run_mnz n.toNat (by omega) (drewW (drewW w2))
  let q:=w2.heap.size
  let w3:=(World.drew (World.drew (drewW (drewW w2)))).alloc (.cells cs 5)
  have x3:Ext No w2 w3:=by
   have e:Ext No (World.drew (World.drew (drewW (drewW w2)))) w3:=ext_alloc _ _
   have e0:Ext No w2 (World.drew (World.drew (drewW (drewW w2)))):=⟨rfl,rfl,rfl,Nat.le_refl _,fun _ _ _=>rfl⟩
   exact e0.no e
  have g3:w3.heap[q]? = some (.cells cs 5 (0,0)):=by show (w2.heap.push _)[w2.heap.size]? = _; simp
  have gb3:=get_no g1 x3
  refine ⟨⟨some ⟨q,0,none⟩,n.toNat,cs.size⟩,w3,hr,⟨x3.os,x3.tape,x3.output,x3.size,x3.blk⟩,?_⟩
  refine Cut.mk (Int.le_refl _) (by simp only; omega) (by simp only; omega) (Int.le_refl _) ?_
  have ec:cutA (some ⟨q,0,none⟩) cs.size 0 1=some (⟨q,0,none⟩ : Addr):=by
   unfold cutA; split
   .rfl
   .simp [addr_add_none]
  refine Nn.mk ⟨⟨none,0,0⟩,Cell.lst gb3 rfl,?_⟩
  have hrow:w3.heap[q]? = some (.cells cs.toList.toArray 5 (0,0)):=by simpa using g3
  simp only [Int.toNat_natCast,Int.toNat_zero,Int.sub_zero]
  rw [ec]
  have rn:Rd w3.heap ⟨none,0,0⟩ 1 []:=Rd.nil _ _
  refine copy_uint8 (d:=⟨some ⟨q,0,none⟩,0,cs.size⟩) (b:=q) (off:=0) (row:=cs.toList) (T:=5) rfl hrow rn (by simp) fun w4 h4=>?_
  have h4':Wrt w3 q (.cells cs.toList.toArray 5) w4:=h4
  have x4:Ext (·=q) w3 w4:=h4'.ext
  have hqb:b≠q:=by have:=blt g; show b≠w2.heap.size; omega
  have gb4:=get_ext gb3 x4 hqb
  refine Nn.mk (St1.mk gb4 (by show 1 < 2; decide) rfl fun w5 h5=>?_)
  have x5:Ext (·=b) w4 w5:=h5.ext
  refine k w5 ⟨_,⟨some ⟨q,0,none⟩,0,cs.size⟩,h5.get gb4, .inr rfl,⟨rfl, .inr ⟨q,cs.toList,rfl,by show base<=w2.heap.size; omega,?_,by simp,Nat.zero_le _⟩,by simp⟩,hb⟩ ?_
  .have:=get_ext (h4'.get hrow) x5 (fun h=>hqb h.symm)
   simpa using this
  .refine (((x1.mono fun _ _ h => .inl h).no x3).trans x4 fun i hi h => .inr ?_).trans x5 fun _ _ h => .inl h
   rw [h]; show base<=w2.heap.size; omega
 .have g1d:(drewW w2).heap[b]? = some (.cells [.pointer (some ⟨b,0,none⟩), .slice none 0 0].toArray 66 (0,0)):=g1
  exact k _ ⟨_,⟨none,0,0⟩,g1d, .inr rfl,Own.nil _ _ _ _,hb⟩ ((x1.mono fun _ _ h => .inl h).drew)
end
end Go.Proofs.YtimonamjecmlcaaGreatDoor
namespace Go.V
theorem joinB_snoc(c:UInt8):∀{W:List Bs}{x:Bs},W≠[]->joinB c (W++[x])=joinB c W++c::x
 | [],_,h=>(h rfl).elim
 | [y],x,_=>rfl
 | y::z::r,x,_=>by
  have ih:=joinB_snoc c (W:=z::r) (x:=x) (by simp)
  show joinB c (y::((z::r)++[x]))=_
  rw [joinB_cons c y (by simp),ih]
  show _=(y++c::joinB c (z::r))++c::x
  simp
def lenW(W:List Bs):Nat:=(W.map List.length).sum
theorem joinB_len(c:UInt8):∀{W:List Bs},W≠[]->(joinB c W).length+1=lenW W+W.length
 | [],h=>(h rfl).elim
 | [x],_=>by simp [joinB,lenW]
 | x::y::r,_=>by
  have ih:=joinB_len c (W:=y::r) (by simp)
  show (x++c::joinB c (y::r)).length+1=_
  simp only [lenW,List.map_cons,List.sum_cons,List.length_append,List.length_cons] at ih ⊢
  omega
theorem lenW_take(W:List Bs)(j:Nat):lenW (W.take j)<=lenW W:=by
 conv=>rhs; rw [<- List.take_append_drop j W]
 simp only [lenW,List.map_append,List.sum_append]; omega
theorem lenW_succ{W:List Bs}{j:Nat}(h:j < W.length):lenW (W.take (j+1))=lenW (W.take j)+W[j].length:=by
 unfold lenW
 rw [List.take_add_one,List.getElem?_eq_getElem h,Option.toList_some,List.map_append,List.sum_append]
 simp
end Go.V
namespace Go.Proofs.YtimonamjecmlcaaGreatDoor
open Go.V
section
variable {w:Wd}
set_option maxHeartbeats 1000000 in
theorem join_spec{s:Sl}{W:List Bs}{c:UInt8}{K:ByteArray->Wd->Prop}(r:RdW w.heap s W)(hn:W.length<=10000000)(hs:lenW W<=10000000000)(k:∀ w',Ext No w w'->K (stB (joinB c W)) w'):C_strings_Join s (stB [c]) w K:=by
 apply S_strings_Join
 have hl:=RdW.len r
 refine If.beq (fun h=>?_) fun h0=>If.beq (fun h=>?_) fun h1=>?_
 .have:W=[]:=List.length_eq_zero_iff.1 (by omega)
  subst this; exact k w (Ext.refl _ _)
 .refine ixW r (by omega) (by omega) fun b o hi _ hc=>⟨_,hc,?_⟩
  match W,hl,h,hi with
  | [x],_,_,_=>exact k w (Ext.refl _ _)
  | [],hl,h,_=>simp at hl; omega
  | _::_::_,hl,h,_=>simp at hl; omega
 have hWne:W≠[]:=by intro e; subst e; simp at hl; omega
 refine ⟨fun n w'=>n=(s.len:Int) - 1/\w'=w,If.dec (fun _=>⟨fun w'=>w'=w,Ar.i64 (by omega) ⟨by omega,?_⟩,?_⟩) fun h=>(h (by rw [stB_size]; simp)).elim,?_⟩
 .have hq:900000000000<=Int.tdiv 9223372036854775807 ((s.len:Int) - 1):=by
   rw [Int.tdiv_eq_ediv_of_nonneg (by omega)]
   refine (Int.le_ediv_iff_mul_le (by omega)).2 ?_
   omega
  have hq2:Int.tdiv 9223372036854775807 ((s.len:Int) - 1)<=9223372036854775807:=by
   rw [Int.tdiv_eq_ediv_of_nonneg (by omega)]
   exact Int.ediv_le_self _ (by omega)
  refine Ar.i64 (by omega) (If.dec (fun h=>?_) fun _=>rfl)
  rw [stB_size] at h
  simp only [List.length_cons,List.length_nil] at h
  omega
 .rintro _ w1 rfl
  rw [stB_size]
  simp only [List.length_cons,List.length_nil]
  exact Ar.i64 (by omega) (Ar.i64 (by omega) (Ar.i64 (by omega) ⟨by omega,trivial⟩))
 rintro _ n w1 ⟨rfl,rfl⟩
 refine ⟨fun q n t w'=>∃ j:Nat,t=j/\j<=W.length/\q=W.length - j/\n=(s.len:Int) - 1+(lenW (W.take j):Nat)/\w'=w1,⟨_,0,rfl,by omega,rfl,by simp [lenW],rfl⟩,?_⟩
 rintro _ m0 n t w2 ⟨j,rfl,hj,hq,rfl,rfl⟩
 have hlt:=lenW_take W j
 refine If.dec (fun h=>?_) fun h=>?_
 .have hjl:j < W.length:=by omega
  refine ixW r (by omega) h fun b o hi _ hc=>⟨_,hc,?_⟩
  have hlt1:=lenW_take W (j+1)
  rw [lenW_succ hjl] at hlt1
  simp only [Int.toNat_natCast,stB_size]
  refine Ar.i64 (by omega) (If.dec (fun h=>by omega) fun _=>Ar.i64 (by omega) (Ar.i64 (by omega) ⟨_,by omega,j+1,by omega,by omega,rfl,by rw [lenW_succ hjl]; omega,trivial⟩))
 have hjn:j=W.length:=by omega
 rw [hjn,List.take_length] at hlt ⊢
 refine NewW.mk fun b w3 n3=>?_
 have hb:=n3.at_; have z3:=n3.size
 have r3:=r.no n3.ext
 refine grow0_spec (base:=w3.heap.size) n3.get (by omega) (Nat.le_refl _) (by omega) (by omega) fun w4 B4 x4=>?_
 have z4:=x4.size
 have old:∀{w':Wd},Ext (fun q=>q=b∨w3.heap.size<=q) w3 w'->Ext No w2 w':=fun x=>n3.ext.trans x fun q hq h=>by omega
 have rr:∀{w':Wd},Ext (fun q=>q=b∨w3.heap.size<=q) w3 w'->RdW w'.heap s W:=fun x=>r.no (old x)
 refine ixW (rr x4) (by omega) (by omega) fun bb o hi _ hc=>⟨_,hc,?_⟩
 have h0:0 < W.length:=by omega
 have hW0:(W[(0:Int).toNat]'hi)=W[0]:=rfl
 have tk1:W.take 1=[W[0]]:=by
  rw [List.take_add_one,List.take_zero,List.getElem?_eq_getElem h0]; rfl
 have hfl:∀ j,j<=W.length->0 < j->(joinB c (W.take j)).length+1<=lenW W+W.length:=fun j h1 h2=>by
  have l3:(W.take j).length=j:=by rw [List.length_take]; omega
  have l1:=joinB_len c (W:=W.take j) (by intro e; rw [e] at l3; simp at l3; omega)
  have l2:=lenW_take W j
  rw [l3] at l1
  omega
 have hw0l:W[0].length<=lenW W:=by
  have:=lenW_take W 1
  rw [tk1] at this
  simpa [lenW] using this
 show C_strings_Builder_WriteString _ (stB W[0]) w4 _
 refine wrStr_spec (base:=w3.heap.size) B4 (by omega) (by simp; omega) fun w5 B5 x5=>?_
 have x35:=x4.trans x5 fun _ _ h=>h
 rw [List.nil_append] at B5
 refine Cut.mk (by omega) (by omega) (by have:=r.cap; omega) (Int.le_refl _) ?_
 have rc:=r.cut (lo:=1) (hi:=s.len) (mx:=s.cap) (by omega) (Nat.le_refl _) r.cap
 have e1:(((s.len:Nat):Int) - 1).toNat=s.len - 1:=by omega
 have e2:(((s.cap:Nat):Int) - 1).toNat=s.cap - 1:=by omega
 rw [Int.toNat_natCast,show Int.toNat 1=1 from rfl,e1,e2]
 have ec:((strW W).drop (1 * 1)).take ((s.len - 1) * 1)=strW (W.drop 1):=by
  show ((W.map strV).drop (1 * 1)).take _=_
  rw [Nat.mul_one,Nat.mul_one,<- List.map_drop,List.take_of_length_le (by rw [List.length_map,List.length_drop]; omega)]
 rw [ec] at rc
 refine ⟨fun q t w'=>∃ j:Nat,t=j/\j+1<=W.length/\q=W.length - j/\BdR w'.heap w3.heap.size b (joinB c (W.take (j+1)))/\Ext (fun q=>q=b∨w3.heap.size<=q) w3 w',⟨_,0,rfl,by omega,rfl,by rw [tk1]; exact B5,x35⟩,?_⟩
 rintro _ m1 t w6 ⟨j,rfl,hj1,hq1,B6,x6⟩
 have rc6:RdW w6.heap ⟨cutA s.a s.cap 1 1,s.len - 1,s.cap - 1⟩ (W.drop 1):=rc.no (old x6)
 have z6:=x6.size
 refine If.dec (fun h=>?_) fun h=>?_
 .simp only at h
  have hj2:j+1 < W.length:=by omega
  refine ixW rc6 (by omega) (by simp only; omega) fun b3 o3 hi3 _ hc3=>⟨_,hc3,?_⟩
  have e3:((W.drop 1)[((j:Nat):Int).toNat]'hi3)=W[j+1]:=by
   rw [List.getElem_drop]; simp only [Int.toNat_natCast]; congr 1; omega
  have f1:=hfl (j+1) (by omega) (by omega)
  have f2:=hfl (j+2) (by omega) (by omega)
  have tk:W.take (j+2)=W.take (j+1)++[W[j+1]]:=by rw [List.take_add_one,List.getElem?_eq_getElem hj2]; rfl
  have hne:W.take (j+1)≠[]:=by
   intro e
   have l3:(W.take (j+1)).length=j+1:=by rw [List.length_take]; omega
   rw [e] at l3; simp at l3
  rw [tk,joinB_snoc c hne,List.length_append,List.length_cons] at f2
  refine wrStr_spec (base:=w3.heap.size) B6 (by omega) (by rw [List.length_singleton]; omega) fun w7 B7 x7=>?_
  have z7:=x7.size
  rw [e3]
  refine wrStr_spec (base:=w3.heap.size) B7 (by omega) (by rw [List.length_append,List.length_singleton]; omega) fun w8 B8 x8=>Ar.i64 (by omega) ⟨_,by omega,j+1,by omega,by omega,rfl,?_,(x6.trans x7 fun _ _ h=>h).trans x8 fun _ _ h=>h⟩
  rw [tk,joinB_snoc c hne]
  simpa using B8
 .have hj3:j+1=W.length:=by simp only at h; omega
  rw [hj3,List.take_length] at B6
  have f1:=joinB_len c hWne
  exact str_spec B6 (by omega) fun w7 x7=>k w7 (old (x6.trans x7 fun _ _ h => .inr h))
end
end Go.Proofs.YtimonamjecmlcaaGreatDoor
namespace Go.V
def digs:Nat->Nat->Bs
 | 0,_=>[]
 | k+1,u=>digs k (u / 10)++[UInt8.ofNat (48+u % 10)]
theorem digs_len:∀ k u,(digs k u).length=k
 | 0,_=>rfl
 | k+1,u=>by rw [digs,List.length_append,digs_len k]; rfl
theorem digs_add(a:Nat):∀ b u,digs (a+b) u=digs a (u / 10 ^ b)++digs b u
 | 0,u=>by simp [digs]
 | b+1,u=>by
  rw [<- Nat.add_assoc,digs,digs_add a b,digs,List.append_assoc,Nat.div_div_eq_div_mul,Nat.pow_succ,Nat.mul_comm 10]
theorem digs_mod(k u:Nat):digs k (u % 10 ^ k)=digs k u:=by
 induction k generalizing u with
 | zero=>rfl
 | succ k ih =>
  rw [digs,digs]
  have e1:u % 10 ^ (k+1) / 10=u / 10 % 10 ^ k:=by
   rw [Nat.pow_succ,Nat.mul_comm,Nat.mod_mul_right_div_self]
  have e2:u % 10 ^ (k+1) % 10=u % 10:=by
   rw [Nat.pow_succ,Nat.mul_comm]; exact Nat.mod_mul_right_mod _ _ _
  rw [e1,e2,ih]
def two(y:Nat):Bs:=[UInt8.ofNat (48+y / 10),UInt8.ofNat (48+y % 10)]
theorem digs_two{y:Nat}(h:y < 100):digs 2 y=two y:=by
 simp only [digs,two,List.nil_append,List.singleton_append]
 rw [Nat.mod_eq_of_lt (by omega:y / 10 < 10)]
def nd(u:Nat):Nat:=if u < 10 then 1 else nd (u / 10)+1
termination_by u
theorem nd_pos(u:Nat):1<=nd u:=by unfold nd; split <;> omega
theorem nd_lt:∀ u,u < 10 ^ nd u:=fun u=>by
 induction u using Nat.strongRecOn with
 | _ u ih =>
  unfold nd
  split
  .simpa using ‹u < 10›
  .have:=ih (u / 10) (by omega)
   rw [Nat.pow_succ]; omega
theorem nd_ge:∀ u,10<=u->10 ^ (nd u - 1)<=u:=fun u=>by
 induction u using Nat.strongRecOn with
 | _ u ih =>
  intro h
  unfold nd
  rw [if_neg (by omega),Nat.add_sub_cancel]
  by_cases h2:10<=u / 10
  .have:=ih (u / 10) (by omega) h2
   have hp:=nd_pos (u / 10)
   obtain ⟨m,hm⟩ : ∃ m,nd (u / 10)=m+1:=⟨nd (u / 10) - 1,by omega⟩
   rw [hm,Nat.add_sub_cancel] at this
   rw [hm,Nat.pow_succ]; omega
  .have:nd (u / 10)=1:=by unfold nd; rw [if_pos (by omega)]
   rw [this]; omega
theorem nd_of{u k:Nat}(h1:10 ^ k<=u)(h2:u < 10 ^ (k+1))(h3:10<=u):nd u=k+1:=by
 have a:=nd_lt u
 have b:=nd_ge u h3
 have hp:=nd_pos u
 have c1:k < nd u:=(Nat.pow_lt_pow_iff_right (by decide:1 < 10)).1 (Nat.lt_of_le_of_lt h1 a)
 have c2:nd u - 1 < k+1:=(Nat.pow_lt_pow_iff_right (by decide:1 < 10)).1 (Nat.lt_of_le_of_lt b h2)
 omega
def decB(u:Nat):Bs:=digs (nd u) u
theorem decB_lt{u:Nat}(h:u < 10):decB u=[UInt8.ofNat (48+u)]:=by
 unfold decB nd
 rw [if_pos h]
 simp [digs,Nat.mod_eq_of_lt h]
theorem decB_ge{u:Nat}(h:10<=u):decB u=decB (u / 10)++[UInt8.ofNat (48+u % 10)]:=by
 unfold decB
 conv=>lhs; unfold nd
 rw [if_neg (by omega),digs]
theorem decB_100{u:Nat}(h:u < 100)(h2:10<=u):decB u=two u:=by
 rw [decB_ge h2,decB_lt (by omega)]; rfl
def smalls:Bs:=[48,48,48,49,48,50,48,51,48,52,48,53,48,54,48,55,48,56,48,57,49,48,49,49,49,50,49,51,49,52,49,53,49,54,49,55,49,56,49,57,50,48,50,49,50,50,50,51,50,52,50,53,50,54,50,55,50,56,50,57,51,48,51,49,51,50,51,51,51,52,51,53,51,54,51,55,51,56,51,57,52,48,52,49,52,50,52,51,52,52,52,53,52,54,52,55,52,56,52,57,53,48,53,49,53,50,53,51,53,52,53,53,53,54,53,55,53,56,53,57,54,48,54,49,54,50,54,51,54,52,54,53,54,54,54,55,54,56,54,57,55,48,55,49,55,50,55,51,55,52,55,53,55,54,55,55,55,56,55,57,56,48,56,49,56,50,56,51,56,52,56,53,56,54,56,55,56,56,56,57,57,48,57,49,57,50,57,51,57,52,57,53,57,54,57,55,57,56,57,57]
def len8:Bs:=[0,1,2,2,3,3,3,3,4,4,4,4,4,4,4,4,5,5,5,5,5,5,5,5,5,5,5,5,5,5,5,5,6,6,6,6,6,6,6,6,6,6,6,6,6,6,6,6,6,6,6,6,6,6,6,6,6,6,6,6,6,6,6,6,7,7,7,7,7,7,7,7,7,7,7,7,7,7,7,7,7,7,7,7,7,7,7,7,7,7,7,7,7,7,7,7,7,7,7,7,7,7,7,7,7,7,7,7,7,7,7,7,7,7,7,7,7,7,7,7,7,7,7,7,7,7,7,7,8,8,8,8,8,8,8,8,8,8,8,8,8,8,8,8,8,8,8,8,8,8,8,8,8,8,8,8,8,8,8,8,8,8,8,8,8,8,8,8,8,8,8,8,8,8,8,8,8,8,8,8,8,8,8,8,8,8,8,8,8,8,8,8,8,8,8,8,8,8,8,8,8,8,8,8,8,8,8,8,8,8,8,8,8,8,8,8,8,8,8,8,8,8,8,8,8,8,8,8,8,8,8,8,8,8,8,8,8,8,8,8,8,8,8,8,8,8,8,8,8,8,8,8,8,8,8,8]
theorem len8_at:∀ x:Fin 256,0 < x.val->∃ b:Nat,b<=8/\1<=b/\len8[x.val]? = some (UInt8.ofNat b)/\2 ^ (b - 1)<=x.val/\x.val < 2 ^ b:=fun x=>by
 have h:∀ x:Fin 256,0 < x.val->(len8.getD x.val 0).toNat<=8/\1<=(len8.getD x.val 0).toNat/\len8[x.val]? = some (UInt8.ofNat (len8.getD x.val 0).toNat)/\2 ^ ((len8.getD x.val 0).toNat - 1)<=x.val/\x.val < 2 ^ (len8.getD x.val 0).toNat:=by decide +kernel
 exact fun hx=>⟨_,(h x hx).1,(h x hx).2.1,(h x hx).2.2.1,(h x hx).2.2.2.1,(h x hx).2.2.2.2⟩
def dig36:Bs:=[48,49,50,51,52,53,54,55,56,57,97,98,99,100,101,102,103,104,105,106,107,108,109,110,111,112,113,114,115,116,117,118,119,120,121,122]
theorem smalls_at:∀ y:Fin 100,smalls[2 * y.val]? = some (UInt8.ofNat (48+y.val / 10))/\smalls[2 * y.val+1]? = some (UInt8.ofNat (48+y.val % 10)):=by decide +kernel
structure Gl(h:Array Obj):Prop where
 p10:∀ i,i < 20->hcell h 0 i=some (.int .u64 ((10 ^ i:Nat):Int))
 tz:∀ i,i < 64->∃ n:Int,hcell h 7 i=some (.int .u8 n)/\0<=n/\n<=255
 syn:∃ v,hcell h 4 0=some v/\IsI v
 rng:∃ v,hcell h 5 0=some v/\IsI v
theorem Gl.ext{S:Nat->Prop}{w w':Wd}(g:Gl w.heap)(x:Ext S w w')(hS:∀ q,q < 8->¬ S q):Gl w'.heap:=by
 have key:∀{b o:Nat}{v:Value},b < 8->hcell w.heap b o=some v->hcell w'.heap b o=some v:=fun hb h=>by rw [hcell_congr (x.blk _ (hcell_lt h) (hS _ hb))]; exact h
 refine ⟨fun i hi=>key (by decide) (g.p10 i hi),fun i hi=>?_,?_,?_⟩
 .obtain ⟨n,h,hn⟩:=g.tz i hi; exact ⟨n,key (by decide) h,hn⟩
 .obtain ⟨v,h,hv⟩:=g.syn; exact ⟨v,key (by decide) h,hv⟩
 .obtain ⟨v,h,hv⟩:=g.rng; exact ⟨v,key (by decide) h,hv⟩
theorem Gl.no{w w':Wd}(g:Gl w.heap)(x:Ext No w w'):Gl w'.heap:=g.ext x fun _ _ h=>h
theorem fdiv_nat{a:Nat}{k b:Nat}(h:k<=b):Int.fdiv (a:Int) (2 ^ min k b)=((a / 2 ^ k:Nat):Int):=by
 rw [Nat.min_eq_left h,Int.fdiv_eq_ediv_of_nonneg _ (Int.le_of_lt (Int.pow_pos (by decide)))]
 rw [show (2:Int) ^ k=((2 ^ k:Nat):Int) by norm_cast]
 norm_cast
end Go.V
namespace Go.Proofs.YtimonamjecmlcaaGreatDoor
open Go.V
section
variable {w:Wd}
theorem small_spec{u:Nat}{K:ByteArray->Wd->Prop}(h:u < 100)(k:K (stB (decB u)) w):C_internal_strconv_small (u:Int) w K:=by
 apply S_internal_strconv_small
 have l36:dig36.length=36:=by decide +kernel
 have l200:smalls.length=200:=by decide +kernel
 refine If.dec (fun h1=>Ar.i64 (by omega) (CutS.mk (l:=dig36) (by omega) (by omega) (by omega) ?_)) fun h1=>Ar.i64 (by omega) (Ar.i64 (by omega) (Ar.i64 (by omega) (CutS.mk (l:=smalls) (by omega) (by omega) (by omega) ?_)))
 .have e:∀ y:Fin 10,(dig36.drop y.val).take 1=[UInt8.ofNat (48+y.val)]:=by decide +kernel
  have:=e ⟨u,by omega⟩
  rw [show ((u:Int)+1).toNat - (u:Int).toNat=1 by omega,Int.toNat_natCast,this,<- decB_lt (by omega)]
  exact k
 .have e:∀ y:Fin 100,(smalls.drop (y.val * 2)).take 2=two y.val:=by decide +kernel
  have:=e ⟨u,h⟩
  rw [show ((u:Int) * 2+2).toNat - ((u:Int) * 2).toNat=2 by omega,show ((u:Int) * 2).toNat=u * 2 by omega,this,<- decB_100 h (by omega)]
  exact k
theorem len64_spec{x:Nat}{K:Int->Wd->Prop}(h0:0 < x)(h:x < 2 ^ 64)(k:∀ r:Nat,1<=r->r<=64->2 ^ (r - 1)<=x->x < 2 ^ r->K (r:Int) w):C_math_bits_Len64 (x:Int) w K:=by
 apply S_math_bits_Len64
 -- what is left,how far it was moved
 let P:Nat->Nat->Nat->Prop:=fun m y n=>0 < y/\y < 2 ^ m/\n+m<=64/\y * 2 ^ n<=x/\x < (y+1) * 2 ^ n
 have shr:∀{y n s:Nat},2 ^ s<=y->y * 2 ^ n<=x->x < (y+1) * 2 ^ n->0 < y / 2 ^ s/\(y / 2 ^ s) * 2 ^ (n+s)<=x/\x < (y / 2 ^ s+1) * 2 ^ (n+s):=fun {y n s} h1 h2 h3=>by
  have hp:0 < 2 ^ s:=Nat.pow_pos (by decide)
  have hq:0 < 2 ^ n:=Nat.pow_pos (by decide)
  refine ⟨Nat.div_pos h1 hp,?_,?_⟩
  .have:y / 2 ^ s * 2 ^ s<=y:=Nat.div_mul_le_self _ _
   calc y / 2 ^ s * 2 ^ (n+s)=(y / 2 ^ s * 2 ^ s) * 2 ^ n:=by rw [Nat.pow_add,Nat.mul_comm (2 ^ n),Nat.mul_assoc]
    _<=y * 2 ^ n:=Nat.mul_le_mul_right _ this
    _<=x:=h2
  .have:y+1<=(y / 2 ^ s+1) * 2 ^ s:=by
    have:=Nat.lt_div_mul_add hp (a:=y)
    rw [Nat.add_mul]; omega
   calc x < (y+1) * 2 ^ n:=h3
    _<=((y / 2 ^ s+1) * 2 ^ s) * 2 ^ n:=Nat.mul_le_mul_right _ this
    _=(y / 2 ^ s+1) * 2 ^ (n+s):=by rw [Nat.pow_add,Nat.mul_comm (2 ^ n),Nat.mul_assoc]
 have lt:∀{y a b:Nat},y < 2 ^ (a+b)->y / 2 ^ b < 2 ^ a:=fun h=>by rw [Nat.pow_add] at h; exact Nat.div_lt_of_lt_mul (by rw [Nat.mul_comm]; exact h)
 refine ⟨fun y n w'=>∃ y' n':Nat,y=y'/\n=n'/\P 32 y' n'/\w'=w,If.dec (fun h1=>⟨by decide,Nm.as (fdiv_nat (a:=x) (k:=32) (by decide)) ⟨_,32,rfl,rfl,?_,rfl⟩⟩) fun h1=>⟨x,0,rfl,rfl,⟨h0,by omega,by decide,by simp,by simp⟩,rfl⟩,?_⟩
 .have:=shr (y:=x) (n:=0) (s:=32) (by omega) (by simp) (by simp)
  exact ⟨this.1,lt (a:=32) (b:=32) h,by decide,by simpa using this.2.1,by simpa using this.2.2⟩
 rintro _ _ _ w1 ⟨y,n,rfl,rfl,⟨a1,a2,a3,a4,a5⟩,rfl⟩
 refine ⟨fun y n w'=>∃ y' n':Nat,y=y'/\n=n'/\P 16 y' n'/\w'=w1,If.dec (fun h1=>⟨by decide,Nm.as (fdiv_nat (a:=y) (k:=16) (by decide)) (Ar.i64 (by omega) ⟨_,n+16,rfl,by omega,?_,rfl⟩)⟩) fun h1=>⟨y,n,rfl,rfl,⟨a1,by omega,by omega,a4,a5⟩,rfl⟩,?_⟩
 .have:=shr (s:=16) (by omega) a4 a5
  exact ⟨this.1,lt (a:=16) (b:=16) a2,by omega,this.2.1,this.2.2⟩
 rintro _ _ _ w2 ⟨y,n,rfl,rfl,⟨a1,a2,a3,a4,a5⟩,rfl⟩
 refine ⟨fun y n w'=>∃ y' n':Nat,y=y'/\n=n'/\P 8 y' n'/\w'=w2,If.dec (fun h1=>⟨by decide,Nm.as (fdiv_nat (a:=y) (k:=8) (by decide)) (Ar.i64 (by omega) ⟨_,n+8,rfl,by omega,?_,rfl⟩)⟩) fun h1=>⟨y,n,rfl,rfl,⟨a1,by omega,by omega,a4,a5⟩,rfl⟩,?_⟩
 .have:=shr (s:=8) (by omega) a4 a5
  exact ⟨this.1,lt (a:=8) (b:=8) a2,by omega,this.2.1,this.2.2⟩
 rintro _ _ _ w3 ⟨y,n,rfl,rfl,⟨a1,a2,a3,a4,a5⟩,rfl⟩
 have a2':y < 256:=a2
 obtain ⟨b,b1,b2,b3,b4,b5⟩:=len8_at ⟨y,a2'⟩ a1
 refine Ar.u8 (by omega) ⟨_,by omega,(by rw [Int.toNat_natCast]; exact b3),?_⟩
 have eb:((UInt8.ofNat b).toNat:Int)=b:=by simp; omega
 rw [eb]
 refine Ar.i64 (by omega) (Ar.i64 (by omega) ?_)
 rw [show (n:Int)+(b:Int)=((n+b:Nat):Int) by omega]
 refine k (n+b) (by omega) (by omega) ?_ ?_
 .calc 2 ^ (n+b - 1)=2 ^ (b - 1) * 2 ^ n:=by rw [<- Nat.pow_add]; congr 1; omega
   _<=y * 2 ^ n:=Nat.mul_le_mul_right _ b4
   _<=x:=a4
 .calc x < (y+1) * 2 ^ n:=a5
   _<=2 ^ b * 2 ^ n:=Nat.mul_le_mul_right _ b5
   _=2 ^ (n+b):=by rw [<- Nat.pow_add,Nat.add_comm]
theorem p10_at:∀ r:Fin 65,4<=r.val->1<=r.val * 78913 / 262144/\r.val * 78913 / 262144<=19/\2 ^ r.val<=10 ^ (r.val * 78913 / 262144+1)/\10 ^ (r.val * 78913 / 262144 - 1)<=2 ^ (r.val - 1):=by decide +kernel
theorem numDigits_spec{u:Nat}{K:Int->Wd->Prop}(g:Gl w.heap)(h0:10<=u)(h:u < 2 ^ 64)(k:K (nd u:Int) w):C_internal_strconv_numDigits (u:Int) w K:=by
 apply S_internal_strconv_numDigits
 refine len64_spec (by omega) h fun r r1 r2 r3 r4=>?_
 apply S_internal_strconv_log10Pow2
 have hr4:4<=r:=by
  rcases Nat.lt_or_ge r 4 with h1 | h1
  .have:2 ^ r<=2 ^ 3:=Nat.pow_le_pow_right (by decide) (by omega)
   omega
  .exact h1
 obtain ⟨p1,p2,p3,p4⟩:=p10_at ⟨r,by omega⟩ hr4
 simp only at p1 p2 p3 p4
 refine Ar.i64 (by omega) ⟨by decide,Nm.as (e':=((r * 78913 / 262144:Nat):Int)) ?_ ?_⟩
 .rw [show (r:Int) * 78913=((r * 78913:Nat):Int) by omega]
  exact fdiv_nat (k:=18) (by decide)
 generalize r * 78913 / 262144=p at p1 p2 p3 p4 ⊢
 refine ⟨by omega,by omega,((10 ^ p:Nat):Int),?_,?_⟩
 .rw [addr_add_none rfl,Int.toNat_natCast,Nat.mul_one,Nat.zero_add]
  exact Cell.mk (g.p10 p (by omega))
 apply S_internal_strconv_bool2_int
 have hge:(decide ((u:Int)≥((10 ^ p:Nat):Int)))=decide (10 ^ p<=u):=by
  rw [Bool.eq_iff_iff,decide_eq_true_iff,decide_eq_true_iff]; omega
 rw [hge]
 refine If.dec (fun h1=>Ar.i64 (by omega) ?_) fun h1=>Ar.i64 (by omega) ?_
 .have:=nd_of (u:=u) (k:=p) h1 (by omega) h0
  rw [this] at k
  rw [show (p:Int)+1=((p+1:Nat):Int) by omega]; exact k
 .obtain ⟨q,rfl⟩ : ∃ q,p=q+1:=⟨p - 1,by omega⟩
  rw [Nat.add_sub_cancel] at p4
  have:=nd_of (u:=u) (k:=q) (by omega) (by omega) h0
  rw [this] at k
  rw [Int.add_zero]; exact k
end
section
variable {w:Wd} {base:Nat} {e:TypeId} {a:Sl}
def PairT(a:Sl)(i j x:Int)(w:Wd)(K:Wd->Prop):Prop :=
 ∃ S:Wd->Prop,S (drewW w) /\
 Ar .i64 i fun z_13 =>
 Ar .i64 j fun z_14 =>
 Ar .u32 (x+1) fun z_15 =>
 ∃ b,(0:Int)<=z_15/\(ByteArray.data (stB smalls)).toList[Int.toNat z_15]? = some b /\
 ∃ b_1,(0:Int)<=x/\(ByteArray.data (stB smalls)).toList[Int.toNat x]? = some b_1 /\
 Ix a.a a.len z_13 1 fun a_1 =>
 St1 (drewW w) a_1 (.int .u8 ((UInt8.toNat b:Int))) fun w2 =>
 S w2 /\
 Ix a.a a.len z_14 1 fun a_2 =>
 St1 w2 a_2 (.int .u8 ((UInt8.toNat b_1:Int))) fun w3 =>
 S w3/\K w3
theorem pair_ok{X:List Int}{D:Bs}{p q:Int}{m y:Nat}{i j x:Int}{K:Wd->Prop}(o:Own w.heap base e 1 a ((X++p::q::uB D).map (Value.int .u8)))(hm:X.length=m)(hi:i=(m:Int)+1)(hj:j=m)(hx:x=2 * (y:Int))(hy:y < 100)(hml:m<=1000)
  (k:∀ w',Own w'.heap base e 1 a ((X++uB (two y++D)).map (Value.int .u8))->Ext (fun q=>a.blk=some q) w w'->K w'):PairT a i j x w K:=by
 subst hi hj hx
 obtain ⟨s1,s2⟩:=smalls_at ⟨y,hy⟩
 simp only at s1 s2
 have hl:a.len=m+2+D.length:=by have:=o.len; simp at this; omega
 have od:Own (drewW w).heap base e 1 a ((X++p::q::uB D).map (Value.int .u8)):=o
 have back:∀ n,n < 256->((UInt8.ofNat n).toNat:Int)=(n:Int):=fun n hn=>by simp; omega
 refine ⟨fun _=>True,trivial,Ar.i64 (by omega) (Ar.i64 (by omega) (Ar.u32 (by omega) ⟨UInt8.ofNat (48+y % 10),by omega,?_,UInt8.ofNat (48+y / 10),by omega,?_,St1.own od (by omega) (by omega) rfl fun w2 o2 x2 _=>⟨trivial,St1.own o2 (by omega) (by omega) rfl fun w3 o3 x3 _=>⟨trivial,k w3 ?_ ?_⟩⟩⟩))⟩
 .rw [stB_data,show (2 * (y:Int)+1).toNat=2 * y+1 by omega]; exact s2
 .rw [stB_data,show (2 * (y:Int)).toNat=2 * y by omega]; exact s1
 .rw [<- List.map_set (l:=X++p::q::uB D),<- List.map_set] at o3
  have e1:((X++p::q::uB D).set ((m:Int)+1).toNat ((UInt8.ofNat (48+y % 10)).toNat:Int)).set (m:Int).toNat ((UInt8.ofNat (48+y / 10)).toNat:Int)=X++uB (two y++D):=by
   rw [show ((m:Int)+1).toNat=m+1 by omega,Int.toNat_natCast,List.set_append_right _ _ (by omega),List.set_append_right _ _ (by omega),hm,Nat.sub_self,show m+1 - m=1 by omega]
   rfl
  rw [e1] at o3
  exact o3
 .have x2':Ext (fun q=>a.blk=some q) w w2:=x2.drew_left
  exact x2'.trans x3 fun _ _ h=>h
theorem split2{X:List Int}{m:Nat}(h:X.length=m+2):∃ Y p q,X=Y++[p,q]/\Y.length=m:=by
 have h1:X.length≠0:=by omega
 refine ⟨X.take m,X[m]'(by omega),X[m+1]'(by omega),?_,by rw [List.length_take]; omega⟩
 conv=>lhs; rw [<- List.take_append_drop m X]
 congr 1
 rw [List.drop_eq_getElem_cons (by omega),List.drop_eq_getElem_cons (by omega),List.drop_eq_nil_of_le (by omega)]
theorem tmod_nat(a b:Nat):Int.tmod (a:Int) (b:Int)=((a % b:Nat):Int):=by rw [Int.tmod_eq_emod_of_nonneg (by omega)]; norm_cast
theorem tdiv_nat(a b:Nat):Int.tdiv (a:Int) (b:Int)=((a / b:Nat):Int):=by rw [Int.tdiv_eq_ediv_of_nonneg (by omega)]; norm_cast
def Wr10(base:Nat)(e:TypeId)(a:Sl)(n u:Nat)(w:Wd)(m v:Nat)(w':Wd):Prop :=
 m<=n/\v=u / 10 ^ (n - m)/\(∃ X:List Int,X.length=m/\Own w'.heap base e 1 a ((X++uB (digs (n - m) u)).map (Value.int .u8)))/\Ext (fun q=>a.blk=some q) w w'
theorem Wr10.pair{n u m v:Nat}{w0:Wd}{i j x:Int}{K:Wd->Prop}(h:Wr10 base e a n u w0 (m+2) v w)(hn:n<=100)(hi:i=(m:Int)+1)(hj:j=m)(hx:x=2 * ((v % 100:Nat):Int))(k:∀ w',Wr10 base e a n u w0 m (v / 100) w'->K w'):PairT a i j x w K:=by
 obtain ⟨h1,h2,⟨X,h3,h4⟩,h5⟩:=h
 obtain ⟨Y,p,q,rfl,hY⟩:=split2 h3
 rw [List.append_assoc] at h4
 refine pair_ok (y:=v % 100) h4 hY hi hj hx (Nat.mod_lt _ (by decide)) (by omega) fun w' o' x'=>k w' ⟨by omega,?_,⟨Y,hY,?_⟩,h5.trans x' fun _ _ h=>h⟩
 .rw [h2,Nat.div_div_eq_div_mul,show (100:Nat)=10 ^ 2 from rfl,<- Nat.pow_add]; congr 2; omega
 .have e1:digs (n - m) u=two (v % 100)++digs (n - (m+2)) u:=by
   rw [show n - m=2+(n - (m+2)) by omega,digs_add,<- h2,<- digs_mod 2 v,show (10:Nat) ^ 2=100 from rfl,digs_two (Nat.mod_lt _ (by decide))]
  rw [e1]; exact o'
set_option maxHeartbeats 2000000 in
theorem formatBase10_spec{n u:Nat}{L:List Int}{K:Wd->Prop}(o:Own w.heap base e 1 a (L.map (Value.int .u8)))(hL:L.length=n)(hn:n<=100)(hu:u < 10 ^ n)(h64:u < 2 ^ 64)(k:∀ w',Own w'.heap base e 1 a (byV (digs n u))->Ext (fun q=>a.blk=some q) w w'->K w'):C_internal_strconv_formatBase10 a (u:Int) w K:=by
 apply S_internal_strconv_formatBase10
 have hl:a.len=n:=by have:=o.len; simp at this; omega
 have vlt:∀{m v:Nat},m<=n->v=u / 10 ^ (n - m)->v < 10 ^ m:=fun {m v} h1 h2=>by
  rw [h2]
  refine Nat.div_lt_of_lt_mul ?_
  rw [<- Nat.pow_add,show n - m+m=n by omega]; exact hu
 have vle:∀{m v:Nat},v=u / 10 ^ (n - m)->v < 18446744073709551616:=fun h2=>by rw [h2]; exact Nat.lt_of_le_of_lt (Nat.div_le_self _ _) h64
 refine ⟨fun q v m w'=>∃ m' v':Nat,m=m'/\v=v'/\q=m'/\Wr10 base e a n u w m' v' w',⟨_,n,u,by omega,rfl,rfl,Nat.le_refl _,by simp,⟨L,hL,by simpa [digs] using o⟩,Ext.refl _ _⟩,?_⟩
 rintro _ m0 _ _ w1 ⟨m,v,rfl,rfl,hq0,H⟩
 have h1:=H.1; have h2:=H.2.1
 have hv1:=vlt h1 h2; have hv2:=vle h2
 refine If.dec (fun h=>?_) fun h=>?_
 .obtain ⟨q,rfl⟩ : ∃ q,m=q+8:=⟨m - 8,by omega⟩
  have c1:v % 100000000 < 100000000:=Nat.mod_lt _ (by decide)
  refine ⟨by decide,Nm.as (tmod_nat v 100000000) (Ar.u32 (by omega) ⟨by decide,Ar.u64 (by rw [show ((100000000:Int))=((100000000:Nat):Int) from rfl,tdiv_nat]; omega) ?_⟩)⟩
  refine ⟨by decide,Ar.u32 (by rw [show ((10000:Int))=((10000:Nat):Int) from rfl,tdiv_nat]; omega) ⟨by decide,Nm.as (tmod_nat (v % 100000000) 10000) ?_⟩⟩
  rw [show ((10000:Int))=((10000:Nat):Int) from rfl,tdiv_nat]
  have c2:v % 100000000 / 10000 < 10000:=by omega
  have c3:v % 100000000 % 10000 < 10000:=Nat.mod_lt _ (by decide)
  refine ⟨by decide,Ar.u32 (by rw [show ((100:Int))=((100:Nat):Int) from rfl,tdiv_nat]; omega) ?_⟩
  rw [show ((100:Int))=((100:Nat):Int) from rfl,tdiv_nat]
  refine Ar.u32 (by omega) ⟨by decide,Nm.as (tmod_nat _ 100) (Ar.u32 (by omega) ⟨by decide,?_⟩)⟩
  rw [tdiv_nat]
  refine Ar.u32 (by omega) (Ar.u32 (by omega) ⟨by decide,Nm.as (tmod_nat _ 100) (Ar.u32 (by omega) ?_)⟩)
  have d1:v % 100000000 % 10000 % 100=v % 100:=by omega
  have d2:v % 100000000 % 10000 / 100=v / 100 % 100:=by omega
  have d3:v % 100000000 / 10000 % 100=v / 100 / 100 % 100:=by omega
  have d4:v % 100000000 / 10000 / 100=v / 100 / 100 / 100 % 100:=by omega
  refine Wr10.pair (m:=q+6) H hn (by omega) (by omega) (by omega) fun w3 H3=>?_
  refine Wr10.pair (m:=q+4) H3 hn (by omega) (by omega) (by omega) fun w5 H5=>?_
  refine Wr10.pair (m:=q+2) H5 hn (by omega) (by omega) (by omega) fun w7 H7=>?_
  refine Wr10.pair (m:=q) H7 hn (by omega) (by omega) (by omega) fun w9 H9=>Ar.i64 (by omega) ⟨_,by omega,q,v / 100 / 100 / 100 / 100,by omega,?_,rfl,H9⟩
  rw [show ((100000000:Int))=((100000000:Nat):Int) from rfl,tdiv_nat]; omega
 .have p7:(10:Nat) ^ m<=10 ^ 7:=Nat.pow_le_pow_right (by decide) (by omega)
  refine Ar.u32 (by omega) ⟨fun m v w'=>∃ m' v':Nat,m=m'/\v=v'/\m' < 4/\Wr10 base e a n u w m' v' w',If.dec (fun h4=>?_) fun h4=>⟨m,v,rfl,rfl,by omega,H⟩,?_⟩
  .obtain ⟨q,rfl⟩ : ∃ q,m=q+4:=⟨m - 4,by omega⟩
   have c3:v % 10000 < 10000:=Nat.mod_lt _ (by decide)
   refine ⟨by decide,Nm.as (tmod_nat v 10000) ⟨by decide,Ar.u32 (by rw [show ((10000:Int))=((10000:Nat):Int) from rfl,tdiv_nat]; omega) ⟨by decide,Ar.u32 (by rw [show ((100:Int))=((100:Nat):Int) from rfl,tdiv_nat]; omega) ?_⟩⟩⟩
   rw [show ((100:Int))=((100:Nat):Int) from rfl,tdiv_nat]
   refine Ar.u32 (by omega) ⟨by decide,Nm.as (tmod_nat _ 100) (Ar.u32 (by omega) ?_)⟩
   refine Wr10.pair (m:=q+2) H hn (by omega) (by omega) (by omega) fun w3 H3=>?_
   refine Wr10.pair (m:=q) H3 hn (by omega) (by omega) (by omega) fun w5 H5=>Ar.i64 (by omega) ⟨q,v / 100 / 100,by omega,?_,by omega,H5⟩
   rw [show ((10000:Int))=((10000:Nat):Int) from rfl,tdiv_nat]; omega
  rintro _ _ _ w14 ⟨m,v,rfl,rfl,hm4,H⟩
  have h1:=H.1; have h2:=H.2.1
  have hv1:=vlt h1 h2
  have p3:(10:Nat) ^ m<=10 ^ 3:=Nat.pow_le_pow_right (by decide) (by omega)
  refine ⟨fun m v w'=>∃ m' v':Nat,m=m'/\v=v'/\m' < 2/\Wr10 base e a n u w m' v' w',If.dec (fun h4=>?_) fun h4=>⟨m,v,rfl,rfl,by omega,H⟩,?_⟩
  .obtain ⟨q,rfl⟩ : ∃ q,m=q+2:=⟨m - 2,by omega⟩
   have c3:v % 100 < 100:=Nat.mod_lt _ (by decide)
   refine ⟨by decide,Nm.as (tmod_nat v 100) (Ar.u32 (by omega) ⟨by decide,Ar.u32 (by rw [show ((100:Int))=((100:Nat):Int) from rfl,tdiv_nat]; omega) ?_⟩)⟩
   rw [show ((100:Int))=((100:Nat):Int) from rfl,tdiv_nat]
   exact Wr10.pair (m:=q) H hn (by omega) (by omega) (by omega) fun w3 H3=>Ar.i64 (by omega) ⟨q,v / 100,by omega,rfl,by omega,H3⟩
  rintro _ _ _ w17 ⟨m,v,rfl,rfl,hm2,H⟩
  obtain ⟨h1,h2,⟨X,h3,h4⟩,h5⟩:=H
  have hv1:=vlt h1 h2
  refine If.dec (fun h=>?_) fun h=>?_
  .have hm1:m=1:=by omega
   subst hm1
   match X,h3 with
   | [p],_ =>
    refine Ar.u32 (by omega) (Ar.u8 (by omega) (St1.own h4 (by omega) (by omega) rfl fun w18 o8 x8 _=>k w18 ?_ (h5.trans x8 fun _ _ h=>h)))
    have e1:digs n u=UInt8.ofNat (48+v)::digs (n - 1) u:=by
     rw [show n=1+(n - 1) by omega,digs_add,show 1+(n - 1) - 1=n - 1 by omega,<- h2]
     simp only [digs,List.nil_append,List.singleton_append]
     rw [Nat.mod_eq_of_lt (by omega:v < 10)]
    rw [e1]
    have e2:((UInt8.ofNat (48+v)).toNat:Int)=48+(v:Int):=by simp; omega
    have e3:(([p]++uB (digs (n - 1) u)).map (Value.int .u8)).set (0:Int).toNat (.int .u8 (48+(v:Int)))=byV (UInt8.ofNat (48+v)::digs (n - 1) u):=by
     simp only [byV,uB,List.map_cons,e2]; rfl
    rw [e3] at o8
    exact o8
  .have hm0:m=0:=by omega
   subst hm0
   match X,h3 with
   | [],_=>exact k w17 (by simpa using h4) h5
theorem formatUint_spec{u:Nat}{K:ByteArray->Wd->Prop}(g:Gl w.heap)(h:u < 2 ^ 64)(k:∀ w',Ext No w w'->K (stB (decB u)) w'):C_strconv_FormatUint (u:Int) 10 w K:=by
 apply S_strconv_FormatUint
 apply S_internal_strconv_FormatUint
 refine If.yes (If.dec (fun h1=>Ar.i64 (by omega) (small_spec (by omega) (k w (Ext.refl _ _)))) fun h1=>NewW.mk fun b w2 n2=>?_)
 have hb:=n2.at_; have z2:=n2.size
 have hnd:nd u<=20:=by
  have:=nd_ge u (by omega)
  rcases Nat.lt_or_ge 20 (nd u) with h3 | h3
  .have:10 ^ 20<=10 ^ (nd u - 1):=Nat.pow_le_pow_right (by decide) (by omega)
   omega
  .exact h3
 have cut24:∀{K:Sl->Prop},K ⟨some ⟨b,0,none⟩,nd u,24⟩->Cut ⟨some ⟨b,0,none⟩,24,24⟩ 0 (nd u:Int) (((24:Nat):Int)) 1 K:=fun {K} hk=>by
  refine Cut.mk (Int.le_refl _) (by omega) (by omega) (Int.le_refl _) ?_
  have e1:cutA (some ⟨b,0,none⟩) 24 0 1=some (⟨b,0,none⟩ : Addr):=by simp [cutA,addr_add_none]
  rw [Int.sub_zero,Int.toNat_natCast,Int.sub_zero,Int.toNat_natCast,show Int.toNat 0=0 from rfl,e1]
  exact hk
 refine numDigits_spec (g.no n2.ext) (by omega) h (cut24 ?_)
 have o2:Own w2.heap w.heap.size 136 1 ⟨some ⟨b,0,none⟩,nd u,24⟩ ((List.replicate (nd u) (0:Int)).map (Value.int .u8)):=by
  refine ⟨by simp, .inr ⟨b,List.replicate (24 - nd u) (.int .u8 0),rfl,by omega,?_,by simp; omega,by simp only; omega⟩,oneC_ints⟩
  have e1:(List.replicate (nd u) (0:Int)).map (Value.int .u8)++List.replicate (24 - nd u) (.int .u8 0)=List.replicate 24 (.int .u8 0):=by
   rw [List.map_replicate,List.replicate_append_replicate]; congr 1; omega
  rw [e1]; exact n2.get
 refine formatBase10_spec o2 (by simp) (by omega) (nd_lt u) h fun w4 o4 x4=>cut24 (StrC.mk o4.rd (fun _ _ _ h=>Cell.mk h) ?_)
 rw [toB_uB]
 have x4':Ext (fun q=>(some b:Option Nat)=some q) w2 w4:=x4
 exact k w4 (n2.ext.trans x4' fun q hq h=>by cases h; omega)
end
end Go.Proofs.YtimonamjecmlcaaGreatDoor
