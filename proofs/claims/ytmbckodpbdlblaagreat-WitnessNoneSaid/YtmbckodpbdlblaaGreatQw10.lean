/- Texts for LWitnessNone, part 10. -/
import Derived.Laws.Strings
import Derived.Test.YtmbckodpbdlblaaGreatProg
import Derived.Test.YtmbckodpbdlblaaGreatQw9
namespace Go.V
theorem ofInt_toNat{n:Nat}{x:Int}(h0:0<=x)(h1:x < 2 ^ n):(BitVec.ofInt n x).toNat=x.toNat:=by
 rw [BitVec.toNat_ofInt]
 rw [Int.emod_eq_of_lt h0 (by exact_mod_cast h1)]
theorem bitI_or_u64{a b:Int}(ha:0<=a/\a<=18446744073709551615)(hb:0<=b/\b<=18446744073709551615):bitI .or .u64 a b=((a.toNat ||| b.toNat:Nat):Int):=by
 show IntKind.u64.wrap ((BitVec.ofInt 64 a ||| BitVec.ofInt 64 b).toNat:Int)=_
 rw [BitVec.toNat_or,ofInt_toNat ha.1 (by omega),ofInt_toNat hb.1 (by omega)]
 refine IntWalk.u64_in _ ⟨by omega,?_⟩
 have:a.toNat ||| b.toNat < 2 ^ 64:=Nat.or_lt_two_pow (by omega) (by omega)
 omega
theorem bitI_or_add{n x:Int}{i:Nat}(hn:0<=n/\n < 2 ^ i)(hx:0<=x)(hb:n+x * 2 ^ i<=18446744073709551615):bitI .or .u64 n (x * 2 ^ i)=n+x * 2 ^ i:=by
 have hp:(0:Int) < 2 ^ i:=Int.pow_pos (by omega)
 have hxx:0<=x * 2 ^ i:=Int.mul_nonneg hx (Int.le_of_lt hp)
 rw [bitI_or_u64 ⟨hn.1,by omega⟩ ⟨hxx,by omega⟩]
 obtain ⟨m,rfl⟩:=Int.eq_ofNat_of_zero_le hn.1
 obtain ⟨y,rfl⟩:=Int.eq_ofNat_of_zero_le hx
 have h1:m < 2 ^ i:=by exact_mod_cast hn.2
 have e1:((y:Int) * 2 ^ i).toNat=2 ^ i * y:=by
  have:((y:Int) * 2 ^ i)=((2 ^ i * y:Nat):Int):=by simp [Int.mul_comm]
  rw [this]; rfl
 rw [e1,Int.toNat_natCast,Nat.or_comm,<- Nat.two_pow_add_eq_or_of_lt h1]
 simp [Int.add_comm,Int.mul_comm]
theorem fin256{p:Int->Prop}(h:∀ x:Fin 256,p (x.val:Int)){x:Int}(hx:0<=x/\x<=255):p x:=by
 have:=h ⟨x.toNat,by omega⟩
 simpa [Int.toNat_of_nonneg hx.1] using this
theorem bitI_or128{x:Int}(hx:0<=x/\x<=255):bitI .or .u8 x 128=x % 128+128:=fin256 (p:=fun x=>bitI .or .u8 x 128=x % 128+128) (by decide +kernel) hx
theorem fdiv_pow{n:Int}{k b:Nat}:Int.fdiv n (2 ^ min k b)=n / 2 ^ min k b:=by
 rw [Int.fdiv_eq_ediv_of_nonneg]
 exact Int.le_of_lt (Int.pow_pos (by omega))
theorem Held.no{w:Wd}{b o:Nat}{v:Value}(h:hcell w.heap b o=some v):Held (Ext No w) ⟨b,o,none⟩ v:=fun w' e=>by
 rw [cell_eq,hcell_congr (e.blk b (hcell_lt h) id)]; exact h
theorem Held.cell{w:Wd}{b o:Nat}{v:Value}(h:Cell w ⟨b,o,none⟩ v):Held (Ext No w) ⟨b,o,none⟩ v:=Held.no (by rw [<- cell_eq]; exact h)
theorem Held.but{S:Nat->Prop}{w:Wd}{b o:Nat}{v:Value}(h:Cell w ⟨b,o,none⟩ v)(hb:¬ S b):Held (Ext S w) ⟨b,o,none⟩ v:=fun w' e=>by
 have h':hcell w.heap b o=some v:=by rw [<- cell_eq]; exact h
 rw [cell_eq,hcell_congr (e.blk b (hcell_lt h') hb)]; exact h'
theorem Rd.lt{h:Array Obj}{s:Sl}{sz b:Nat}{cs:List Value}(r:Rd h s sz cs)(hne:cs≠[])(hb:s.blk=some b):b < h.size:=by
 obtain ⟨b',off,ha,hc⟩:=r.at_ hne
 simp [Sl.blk,ha] at hb
 subst hb
 exact hcell_lt (hc 0 (List.length_pos_iff.2 hne))
theorem St1.mk{w:Wd}{b o:Nat}{cs:List Value}{T:TypeId}{v:Value}{K:Wd->Prop}(hb:w.heap[b]? = some (.cells cs.toArray T (0,0)))(ho:o < cs.length)(hv:oneC v=true)
  (k:∀ w',Wrt w b (.cells (cs.set o v).toArray T (0,0)) w'->K w'):St1 w ⟨b,o,none⟩ v K :=
 ⟨cs.toArray,T,(0,0),hb,rfl,by simpa using ho, .inr (.inr (Nat.le_refl _)),hv,fun w' hw=>k w' hw⟩
theorem Cell.lst{w:Wd}{b o:Nat}{v:Value}{cs:List Value}{T:TypeId}{fz:Nat×Nat}(h:w.heap[b]? = some (.cells cs.toArray T fz))(hc:cs[o]? = some v):Cell w ⟨b,o,none⟩ v :=
 Cell.blk h (by simpa using hc)
def toB(l:List Int):List UInt8:=l.map fun n=>UInt8.ofNat n.toNat
theorem StrC.mk{C:Addr->Value->Prop}{w:Wd}{s:Sl}{l:List Int}{K:ByteArray->Prop}(h:Rd w.heap s 1 (l.map (Value.int .u8)))(hC:∀ b o v,hcell w.heap b o=some v->C ⟨b,o,none⟩ v)
  (k:K ⟨(toB l).toArray⟩):StrC C s K:=by
 refine ⟨toB l,⟨by simpa [toB] using h.len,fun i hi=>?_,fun hn=>?_⟩,k⟩
 .simp only [toB,List.length_map] at hi
  obtain ⟨b,off,ha,hc⟩:=h.at_ (by intro e; simp at e; subst e; simp at hi)
  refine ⟨_,l[i],ha,?_,by simp [toB]⟩
  rw [addr_add_none rfl]
  exact hC _ _ _ (by have:=hc i (by simpa using hi); rw [List.getElem_map] at this; exact this)
 .have:l=[]:=Classical.byContradiction fun hne=>by
   obtain ⟨b,off,ha,_⟩:=h.at_ (by simpa using hne)
   rw [hn] at ha; cases ha
  subst this; rfl
theorem toList_mk(bs:List UInt8):ByteArray.toList ⟨bs.toArray⟩=bs:=by
 simp [ByteArray.toList_eq]
theorem toB_inj{l m:List Int}(hl:B8 l)(hm:B8 m):toB l=toB m ↔ l=m:=by
 constructor
 .intro h
  induction l generalizing m with
  | nil=>cases m with
   | nil=>rfl
   | cons y m=>simp [toB] at h
  | cons x l ih=>cases m with
   | nil=>simp [toB] at h
   | cons y m =>
    simp only [toB,List.map_cons,List.cons.injEq] at h
    have h1:=hl x (by simp)
    have h2:=hm y (by simp)
    have e:x=y:=by
     have:=congrArg UInt8.toNat h.1
     simp only [UInt8.toNat_ofNat'] at this
     omega
    subst e
    rw [ih (hl.sub (by simp_all)) (hm.sub (by simp_all)) h.2]
 .intro h; rw [h]
theorem firstCells_rd{P:Program}{w:Wd}{s:Sl}{sz k:Nat}{cs:List Value}(h:Rd w.heap s sz cs)(hk:k<=s.len):(Builtin.firstCells sz k s.v).run P w = .ok (cs.take (k * sz)).toArray w:=by
 have hcut:=Rd.src (P:=P) (h.cut (lo:=0) (hi:=k) (mx:=s.cap) (Nat.zero_le _) hk (Nat.le_trans hk h.cap))
 have:=hcut.get w rfl
 simp only [Nat.zero_mul,List.drop_zero,Nat.sub_zero] at this
 rw [<- this]
 obtain ⟨a,n,c⟩:=s
 cases a with
 | none=>simp [Builtin.firstCells,cutA]
 | some a =>
  have e:a.add 0=a:=rfl
  simp [Builtin.firstCells,cutA,e]
theorem copy_at{P:Program}{t t' e:TypeId}{ie:TypeInfo}{w:Wd}{d x:Sl}{b off sz:Nat}{row xs:List Value}{T:TypeId}{K:Int->Wd->Prop}
  (ht:P.underlying t=some (.slice e)) (hi:P.info? e=some ie) (hsz:ie.size=sz) (hd:d.a=some ⟨b,off,none⟩) (hb:w.heap[b]? = some (.cells row.toArray T (0,0))) (hx:Rd w.heap x sz xs)
  (hle:off+min x.len d.len * sz<=row.length)
  (hk:∀ w',Wrt w b (.cells (setL row off (xs.take (min x.len d.len * sz))).toArray T (0,0)) w'->K (min x.len d.len:Nat) w'):CopyW P t t' d x.v K w:=by
 have hlen:(xs.take (min x.len d.len * sz)).length=min x.len d.len * sz:=by
  rw [List.length_take,hx.len]
  exact Nat.min_eq_left (Nat.mul_le_mul_right _ (Nat.min_le_left _ _))
 refine ⟨_,_,fun ty=>?_,hk _ rfl⟩
 have h1:=firstCells_rd (P:=P) hx (k:=min x.len d.len) (Nat.min_le_left _ _)
 have hst:=StN_run (P:=P) (b:=b) (T:=T) (fz:=(0,0)) (xs.take (min x.len d.len * sz)) w row.toArray off 0 hb (by simp only [hlen,List.size_toArray]; omega) (.inr (.inr (Nat.le_refl _))) (fun v hv=>hx.cells v (List.mem_of_mem_take hv))
 obtain ⟨da,dl,dc⟩:=d
 simp only at hd
 subst hd
 simp only [Nat.add_zero] at hst
 simp only at h1 hst
 have h2:(Builtin.firstCells sz (x.len.min dl) x.v).run P w = .ok (xs.take (min x.len dl * sz)).toArray w:=h1
 simp [Builtin.copy_,run_und ht,Builtin.lenOf,run_size hi,hsz,h2,hst,goInt]
theorem MkW.mk{w:Wd}{e:TypeId}{zs:List Value}{bytes:Nat}{l c:Int}{K:Sl->Wd->Prop}(h0:0<=l)(h1:l<=c)(h2:c<=9223372036854775807)(h3:bytes * c<=281474976710656)
  (k:∀ b w',New w (.cells (List.replicate c.toNat zs).flatten.toArray e) b w'->K ⟨some ⟨b,0,none⟩,l.toNat,c.toNat⟩ w'):MkW w e zs bytes l c K:=⟨h0,h1,h2,h3,fun b w' h=>k b w' h⟩
theorem Own.make{w w':Wd}{b l c:Nat}{e:TypeId}{zs:List Value}(h:New w (.cells (List.replicate c zs).flatten.toArray e) b w')(hl:l<=c)(hz:∀ v∈zs,oneC v=true) :
  Own w'.heap w.heap.size e zs.length ⟨some ⟨b,0,none⟩,l,c⟩ (List.replicate l zs).flatten:=by
 have e1:List.replicate c zs=List.replicate l zs++List.replicate (c - l) zs:=by rw [List.replicate_append_replicate]; congr 1; omega
 refine ⟨by simp, .inr ⟨b,(List.replicate (c - l) zs).flatten,rfl,by rw [h.at_]; exact Nat.le_refl _,?_,?_,hl⟩,?_⟩
 .rw [<- List.flatten_append,<- e1]; exact h.get
 .rw [<- List.flatten_append,<- e1]; simp
 .intro v hv
  simp only [List.mem_flatten,List.mem_replicate] at hv
  obtain ⟨x,⟨_,rfl⟩,hx⟩:=hv
  exact hz v hx
theorem St1.own{w:Wd}{base:Nat}{e:TypeId}{s:Sl}{cs:List Value}{i:Int}{v:Value}{K:Wd->Prop}(o:Own w.heap base e 1 s cs)(h0:0<=i)(h1:i < (s.len:Int))(hv:oneC v=true)
  (k:∀ w',Own w'.heap base e 1 s (cs.set i.toNat v)->Ext (fun b=>s.blk=some b) w w'->w'.heap.size=w.heap.size->K w'):Ix s.a s.len i 1 fun a=>St1 w a v K:=by
 have hl:cs.length=s.len:=by simpa using o.len
 rcases o.is with ⟨rfl,rfl⟩ | ⟨b,rest,ha,hle,hb,hc,hcap⟩
 .simp at h1; omega
 .refine ⟨_,ha,h0,h1,?_⟩
  rw [addr_add_none rfl]
  simp only [Nat.zero_add,Nat.mul_one]
  refine St1.mk hb (by simp; omega) hv fun w' hw=>k w' ⟨by simpa using o.len, .inr ⟨b,rest,ha,hle,?_,by simpa using hc,hcap⟩,fun u hu=>?_⟩ (hw.ext.mono fun j _ hj=>by subst hj; simp [Sl.blk,ha]) hw.size
  .rw [hw.get hb,List.set_append_left _ _ (by omega)]
  .rcases List.mem_or_eq_of_mem_set hu with h | h
   .exact o.cells u h
   .subst h; exact hv
end Go.V
set_option maxRecDepth 100000
namespace Go.Proofs.YtmbckodpbdlblaaGreat
open Go.V
abbrev T_uint8:TypeId:=5
abbrev T_sl_uint8:TypeId:=22
theorem app_uint8{w:Wd}{base:Nat}{s:Sl}{x:Value}{n:Nat}{cs xs:List Value}{K:Sl->Wd->Prop}(own:Own w.heap base 5 1 s cs)(hbase:base<=w.heap.size)(src:Src pz w x 1 n xs)(hb:(s.len+n) * 1<=140737488355328)
  (hk:∀ s' w',Own w'.heap base 5 1 s' (cs++xs)->s'.len=s.len+n->Ext (fun b=>s.blk=some b) w w'->(s'.blk=s.blk∨∃ b,s'.blk=some b/\w.heap.size<=b)->K s' w'):AppW pz 22 22 s x K w :=
 app_own (P:=pz) (e:=5) (d := .slice 5) (ie:=Tryz.t5) (z:=Tryz.t5.zero.getD .nilFunc) (by kernel_rfl) (by kernel_rfl) (fun k h=>by cases h) (by kernel_rfl) (by kernel_rfl) (by kernel_rfl) (by kernel_rfl) (by decide) own hbase src hb hk
theorem copy_uint8{w:Wd}{d x:Sl}{b off:Nat}{row xs:List Value}{T:TypeId}{K:Int->Wd->Prop}(hd:d.a=some ⟨b,off,none⟩)(hb:w.heap[b]? = some (.cells row.toArray T (0,0)))(hx:Rd w.heap x 1 xs)
  (hle:off+min x.len d.len * 1<=row.length) (hk:∀ w',Wrt w b (.cells (setL row off (xs.take (min x.len d.len * 1))).toArray T (0,0)) w'->K (min x.len d.len:Nat) w'):CopyW pz 22 22 d x.v K w :=
 copy_at (P:=pz) (e:=5) (ie:=Tryz.t5) (by kernel_rfl) (by kernel_rfl) (by kernel_rfl) hd hb hx hle hk
theorem app_sl_uint8{w:Wd}{base:Nat}{s:Sl}{x:Value}{n:Nat}{cs xs:List Value}{K:Sl->Wd->Prop}(own:Own w.heap base 22 1 s cs)(hbase:base<=w.heap.size)(src:Src pz w x 1 n xs)(hb:(s.len+n) * 24<=140737488355328)
  (hk:∀ s' w',Own w'.heap base 22 1 s' (cs++xs)->s'.len=s.len+n->Ext (fun b=>s.blk=some b) w w'->(s'.blk=s.blk∨∃ b,s'.blk=some b/\w.heap.size<=b)->K s' w'):AppW pz 25 25 s x K w :=
 app_own (P:=pz) (e:=22) (d := .slice 22) (ie:=Tryz.t22) (z:=Tryz.t22.zero.getD .nilFunc) (by kernel_rfl) (by kernel_rfl) (fun k h=>by cases h) (by kernel_rfl) (by kernel_rfl) (by kernel_rfl) (by kernel_rfl) (by decide) own hbase src hb hk
theorem app_api_Label{w:Wd}{base:Nat}{s:Sl}{x:Value}{n:Nat}{cs xs:List Value}{K:Sl->Wd->Prop}(own:Own w.heap base 88 6 s cs)(hbase:base<=w.heap.size)(src:Src pz w x 6 n xs)(hb:(s.len+n) * 32<=140737488355328)
  (hk:∀ s' w',Own w'.heap base 88 6 s' (cs++xs)->s'.len=s.len+n->Ext (fun b=>s.blk=some b) w w'->(s'.blk=s.blk∨∃ b,s'.blk=some b/\w.heap.size<=b)->K s' w'):AppW pz 44 44 s x K w :=
 app_own (P:=pz) (e:=88) (d := .slice 88) (ie:=Tryz.t88) (z:=Tryz.t88.zero.getD .nilFunc) (by kernel_rfl) (by kernel_rfl) (fun k h=>by cases h) (by kernel_rfl) (by kernel_rfl) (by kernel_rfl) (by kernel_rfl) (by decide) own hbase src hb hk
theorem app_int{w:Wd}{base:Nat}{s:Sl}{x:Value}{n:Nat}{cs xs:List Value}{K:Sl->Wd->Prop}(own:Own w.heap base 3 1 s cs)(hbase:base<=w.heap.size)(src:Src pz w x 1 n xs)(hb:(s.len+n) * 8<=140737488355328)
  (hk:∀ s' w',Own w'.heap base 3 1 s' (cs++xs)->s'.len=s.len+n->Ext (fun b=>s.blk=some b) w w'->(s'.blk=s.blk∨∃ b,s'.blk=some b/\w.heap.size<=b)->K s' w'):AppW pz 45 45 s x K w :=
 app_own (P:=pz) (e:=3) (d := .slice 3) (ie:=Tryz.t3) (z:=Tryz.t3.zero.getD .nilFunc) (by kernel_rfl) (by kernel_rfl) (fun k h=>by cases h) (by kernel_rfl) (by kernel_rfl) (by kernel_rfl) (by kernel_rfl) (by decide) own hbase src hb hk
theorem app_uint16{w:Wd}{base:Nat}{s:Sl}{x:Value}{n:Nat}{cs xs:List Value}{K:Sl->Wd->Prop}(own:Own w.heap base 34 1 s cs)(hbase:base<=w.heap.size)(src:Src pz w x 1 n xs)(hb:(s.len+n) * 2<=140737488355328)
  (hk:∀ s' w',Own w'.heap base 34 1 s' (cs++xs)->s'.len=s.len+n->Ext (fun b=>s.blk=some b) w w'->(s'.blk=s.blk∨∃ b,s'.blk=some b/\w.heap.size<=b)->K s' w'):AppW pz 60 60 s x K w :=
 app_own (P:=pz) (e:=34) (d := .slice 34) (ie:=Tryz.t34) (z:=Tryz.t34.zero.getD .nilFunc) (by kernel_rfl) (by kernel_rfl) (fun k h=>by cases h) (by kernel_rfl) (by kernel_rfl) (by kernel_rfl) (by kernel_rfl) (by decide) own hbase src hb hk
theorem app_uint32{w:Wd}{base:Nat}{s:Sl}{x:Value}{n:Nat}{cs xs:List Value}{K:Sl->Wd->Prop}(own:Own w.heap base 33 1 s cs)(hbase:base<=w.heap.size)(src:Src pz w x 1 n xs)(hb:(s.len+n) * 4<=140737488355328)
  (hk:∀ s' w',Own w'.heap base 33 1 s' (cs++xs)->s'.len=s.len+n->Ext (fun b=>s.blk=some b) w w'->(s'.blk=s.blk∨∃ b,s'.blk=some b/\w.heap.size<=b)->K s' w'):AppW pz 68 68 s x K w :=
 app_own (P:=pz) (e:=33) (d := .slice 33) (ie:=Tryz.t33) (z:=Tryz.t33.zero.getD .nilFunc) (by kernel_rfl) (by kernel_rfl) (fun k h=>by cases h) (by kernel_rfl) (by kernel_rfl) (by kernel_rfl) (by kernel_rfl) (by decide) own hbase src hb hk
theorem app_uint64{w:Wd}{base:Nat}{s:Sl}{x:Value}{n:Nat}{cs xs:List Value}{K:Sl->Wd->Prop}(own:Own w.heap base 24 1 s cs)(hbase:base<=w.heap.size)(src:Src pz w x 1 n xs)(hb:(s.len+n) * 8<=140737488355328)
  (hk:∀ s' w',Own w'.heap base 24 1 s' (cs++xs)->s'.len=s.len+n->Ext (fun b=>s.blk=some b) w w'->(s'.blk=s.blk∨∃ b,s'.blk=some b/\w.heap.size<=b)->K s' w'):AppW pz 118 118 s x K w :=
 app_own (P:=pz) (e:=24) (d := .slice 24) (ie:=Tryz.t24) (z:=Tryz.t24.zero.getD .nilFunc) (by kernel_rfl) (by kernel_rfl) (fun k h=>by cases h) (by kernel_rfl) (by kernel_rfl) (by kernel_rfl) (by kernel_rfl) (by decide) own hbase src hb hk
theorem app_seal_sealed{w:Wd}{base:Nat}{s:Sl}{x:Value}{n:Nat}{cs xs:List Value}{K:Sl->Wd->Prop}(own:Own w.heap base 134 9 s cs)(hbase:base<=w.heap.size)(src:Src pz w x 9 n xs)(hb:(s.len+n) * 80<=140737488355328)
  (hk:∀ s' w',Own w'.heap base 134 9 s' (cs++xs)->s'.len=s.len+n->Ext (fun b=>s.blk=some b) w w'->(s'.blk=s.blk∨∃ b,s'.blk=some b/\w.heap.size<=b)->K s' w'):AppW pz 130 130 s x K w :=
 app_own (P:=pz) (e:=134) (d := .slice 134) (ie:=Tryz.t134) (z:=Tryz.t134.zero.getD .nilFunc) (by kernel_rfl) (by kernel_rfl) (fun k h=>by cases h) (by kernel_rfl) (by kernel_rfl) (by kernel_rfl) (by kernel_rfl) (by decide) own hbase src hb hk
theorem copy_disk_block{w:Wd}{d x:Sl}{b off:Nat}{row xs:List Value}{T:TypeId}{K:Int->Wd->Prop}(hd:d.a=some ⟨b,off,none⟩)(hb:w.heap[b]? = some (.cells row.toArray T (0,0)))(hx:Rd w.heap x 256 xs)
  (hle:off+min x.len d.len * 256<=row.length) (hk:∀ w',Wrt w b (.cells (setL row off (xs.take (min x.len d.len * 256))).toArray T (0,0)) w'->K (min x.len d.len:Nat) w'):CopyW pz 140 140 d x.v K w :=
 copy_at (P:=pz) (e:=145) (ie:=Tryz.t145) (by kernel_rfl) (by kernel_rfl) (by kernel_rfl) hd hb hx hle hk
theorem app_disk_write{w:Wd}{base:Nat}{s:Sl}{x:Value}{n:Nat}{cs xs:List Value}{K:Sl->Wd->Prop}(own:Own w.heap base 147 257 s cs)(hbase:base<=w.heap.size)(src:Src pz w x 257 n xs)(hb:(s.len+n) * 264<=140737488355328)
  (hk:∀ s' w',Own w'.heap base 147 257 s' (cs++xs)->s'.len=s.len+n->Ext (fun b=>s.blk=some b) w w'->(s'.blk=s.blk∨∃ b,s'.blk=some b/\w.heap.size<=b)->K s' w'):AppW pz 141 141 s x K w :=
 app_own (P:=pz) (e:=147) (d := .slice 147) (ie:=Tryz.t147) (z:=Tryz.t147.zero.getD .nilFunc) (by kernel_rfl) (by kernel_rfl) (fun k h=>by cases h) (by kernel_rfl) (by kernel_rfl) (by kernel_rfl) (by kernel_rfl) (by decide) own hbase src hb hk
abbrev T_disk_Disk:TypeId:=143
abbrev T_disk_block:TypeId:=145
abbrev T_disk_write:TypeId:=147
abbrev T_regs_Regs:TypeId:=149
theorem app_api_Run{w:Wd}{base:Nat}{s:Sl}{x:Value}{n:Nat}{cs xs:List Value}{K:Sl->Wd->Prop}(own:Own w.heap base 215 2 s cs)(hbase:base<=w.heap.size)(src:Src pz w x 2 n xs)(hb:(s.len+n) * 8<=140737488355328)
  (hk:∀ s' w',Own w'.heap base 215 2 s' (cs++xs)->s'.len=s.len+n->Ext (fun b=>s.blk=some b) w w'->(s'.blk=s.blk∨∃ b,s'.blk=some b/\w.heap.size<=b)->K s' w'):AppW pz 197 197 s x K w :=
 app_own (P:=pz) (e:=215) (d := .slice 215) (ie:=Tryz.t215) (z:=Tryz.t215.zero.getD .nilFunc) (by kernel_rfl) (by kernel_rfl) (fun k h=>by cases h) (by kernel_rfl) (by kernel_rfl) (by kernel_rfl) (by kernel_rfl) (by decide) own hbase src hb hk
abbrev T_api_Run:TypeId:=215
theorem app_api_Entry{w:Wd}{base:Nat}{s:Sl}{x:Value}{n:Nat}{cs xs:List Value}{K:Sl->Wd->Prop}(own:Own w.heap base 240 9 s cs)(hbase:base<=w.heap.size)(src:Src pz w x 9 n xs)(hb:(s.len+n) * 104<=140737488355328)
  (hk:∀ s' w',Own w'.heap base 240 9 s' (cs++xs)->s'.len=s.len+n->Ext (fun b=>s.blk=some b) w w'->(s'.blk=s.blk∨∃ b,s'.blk=some b/\w.heap.size<=b)->K s' w'):AppW pz 234 234 s x K w :=
 app_own (P:=pz) (e:=240) (d := .slice 240) (ie:=Tryz.t240) (z:=Tryz.t240.zero.getD .nilFunc) (by kernel_rfl) (by kernel_rfl) (fun k h=>by cases h) (by kernel_rfl) (by kernel_rfl) (by kernel_rfl) (by kernel_rfl) (by decide) own hbase src hb hk
theorem app_string{w:Wd}{base:Nat}{s:Sl}{x:Value}{n:Nat}{cs xs:List Value}{K:Sl->Wd->Prop}(own:Own w.heap base 9 1 s cs)(hbase:base<=w.heap.size)(src:Src pz w x 1 n xs)(hb:(s.len+n) * 16<=140737488355328)
  (hk:∀ s' w',Own w'.heap base 9 1 s' (cs++xs)->s'.len=s.len+n->Ext (fun b=>s.blk=some b) w w'->(s'.blk=s.blk∨∃ b,s'.blk=some b/\w.heap.size<=b)->K s' w'):AppW pz 371 371 s x K w :=
 app_own (P:=pz) (e:=9) (d := .slice 9) (ie:=Tryz.t9) (z:=Tryz.t9.zero.getD .nilFunc) (by kernel_rfl) (by kernel_rfl) (fun k h=>by cases h) (by kernel_rfl) (by kernel_rfl) (by kernel_rfl) (by kernel_rfl) (by decide) own hbase src hb hk
end Go.Proofs.YtmbckodpbdlblaaGreat
namespace Go.V
abbrev By(x:Int):Prop:=0<=x/\x<=255
theorem bitI_by(op:BinOp)(x y:Int):By (bitI op .u8 x y):=by
 unfold bitI; cases op <;> simp only [wrap_u8] <;> constructor <;> omega
theorem By.mod(e:Int):By (e % 256):=by constructor <;> omega
theorem half_nat{m b:Nat}(hb:1<=b):Int.fdiv ((m:Nat):Int) (2 ^ min (Int.toNat 1) b)=((m / 2:Nat):Int):=by
 rw [fdiv_pow]
 have e:min (Int.toNat 1) b=1:=by show min 1 b=1; omega
 rw [e]
 omega
end Go.V
namespace Go.Proofs.YtmbckodpbdlblaaGreat
open Go.V
section
variable {w:Wd}
theorem double_spec{a:Int}{K:Int->Wd->Prop}(k:∀ r,By r->K r w):C_galois_double a w K:=by
 apply S_galois_double
 refine Nm.mk (If.bne (fun _=>⟨by decide,Ar.u8m (Nm.mk (k _ (bitI_by _ _ _)))⟩) fun _=>⟨by decide,Ar.u8m (k _ (By.mod _))⟩)
theorem mul_spec{a b:Int}{K:Int->Wd->Prop}(hb:By b)(k:∀ r,By r->K r w):C_galois_Mul a b w K:=by
 apply S_galois_Mul
 refine ⟨fun m _ b' c w'=>b'=(m:Int)/\By c/\w'=w,⟨b.toNat,by omega,⟨by omega,by omega⟩,rfl⟩,?_⟩
 rintro _ m a1 b1 c w1 ⟨rfl,hc,rfl⟩
 refine If.bne (fun h=>Nm.mk (If.bne (fun _=>Nm.mk (double_spec fun r _=>⟨by decide,Nm.as (half_nat (by decide)) ⟨m / 2,by omega,rfl,bitI_by _ _ _,rfl⟩⟩))
  fun _=>double_spec fun r _=>⟨by decide,Nm.as (half_nat (by decide)) ⟨m / 2,by omega,rfl,hc,rfl⟩⟩)) fun _=>k c hc
theorem power_spec{a n:Int}{K:Int->Wd->Prop}(ha:By a)(hn:0<=n)(k:∀ r,By r->K r w):C_galois_Power a n w K:=by
 apply S_galois_Power
 refine ⟨fun m a' n' c w'=>n'=(m:Int)/\By a'/\By c/\w'=w,⟨n.toNat,by omega,ha,⟨by omega,by omega⟩,rfl⟩,?_⟩
 rintro _ m a1 n1 c w1 ⟨rfl,h1,hc,rfl⟩
 refine If.dec (fun h=>⟨fun c' w'=>By c'/\w'=w1,Nm.mk (If.bne (fun _=>mul_spec h1 fun r hr=>⟨hr,rfl⟩) fun _=>⟨hc,rfl⟩),?_⟩) fun _=>k c hc
 rintro _ c2 w2 ⟨hc2,rfl⟩
 exact mul_spec h1 fun r hr=>⟨by decide,Nm.as (half_nat (by decide)) ⟨m / 2,by omega,rfl,hr,hc2,rfl⟩⟩
theorem inv_spec{a:Int}{K:Int->Wd->Prop}(ha:By a)(k:∀ r,By r->K r w):C_galois_Inv a w K:=by
 apply S_galois_Inv
 exact power_spec ha (by decide) k
theorem round_spec{a n:Int}{K:Int->Wd->Prop}(hn:0<=n/\n<=8)(k:∀ r,By r->K r (drewW w)):C_galois_round a n w K:=by
 apply S_galois_round
 exact ⟨fun _=>True,trivial,hn.1,Ar.u8m (Ar.i64 (by omega) ⟨by omega,Nm.mk (Nm.mk (k _ (bitI_by _ _ _)))⟩)⟩
theorem sub_spec{a:Int}{K:Int->Wd->Prop}(ha:By a)(k:∀ r w',By r->Ext No w w'->K r w'):C_galois_Sub a w K:=by
 apply S_galois_Sub
 refine inv_spec ha fun r hr=>round_spec (by decide) fun r1 _=>Nm.mk (round_spec (by decide) fun r2 _=>Nm.mk (round_spec (by decide) fun r3 _=>Nm.mk (round_spec (by decide) fun r4 _=>Nm.mk (Nm.mk (k _ _ (bitI_by _ _ _) ?_)))))
 exact (Ext.refl _ _).drew.drew.drew.drew
end
end Go.Proofs.YtmbckodpbdlblaaGreat
namespace Go.V
section
variable {α:Type} {f:α->List Value} {n:Nat}
theorem flat_len':∀{l:List α},(∀ x∈l,(f x).length=n)->(l.flatMap f).length=l.length * n
 | [],_=>by simp
 | x::l,h=>by
  rw [List.flatMap_cons,List.length_append,h x List.mem_cons_self,flat_len' fun y hy=>h y (List.mem_cons_of_mem _ hy),List.length_cons,Nat.add_mul]; omega
theorem flat_get:∀{l:List α}{i j:Nat}(_:∀ x∈l,(f x).length=n)(hi:i < l.length)(_:j < n),(l.flatMap f)[i * n+j]? = (f l[i])[j]?
 | [],i,j,_,hi,_=>by simp at hi
 | x::l,0,j,h,hi,hj=>by
  have:=h x List.mem_cons_self
  rw [List.flatMap_cons,Nat.zero_mul,Nat.zero_add,List.getElem?_append_left (by omega)]; rfl
 | x::l,i+1,j,h,hi,hj=>by
  have h1:=h x List.mem_cons_self
  have e:(i+1) * n+j=(f x).length+(i * n+j):=by rw [h1,Nat.add_mul]; omega
  rw [List.flatMap_cons,e,List.getElem?_append_right (by omega),Nat.add_sub_cancel_left,flat_get (fun y hy=>h y (List.mem_cons_of_mem _ hy)) (by simpa using hi) hj]
  rfl
theorem setL_app_left:∀(vs a b:List Value)(o:Nat),o+vs.length<=a.length->setL (a++b) o vs=setL a o vs++b
 | [],a,b,o,_=>rfl
 | v::vs,a,b,o,h=>by
  simp only [List.length_cons] at h
  rw [setL,setL,List.set_append_left _ _ (by omega),setL_app_left vs _ _ _ (by simp; omega)]
theorem setL_app_right:∀(vs a b:List Value)(o:Nat),setL (a++b) (a.length+o) vs=a++setL b o vs
 | [],a,b,o=>rfl
 | v::vs,a,b,o=>by
  rw [setL,setL,List.set_append_right _ _ (by omega),Nat.add_sub_cancel_left,Nat.add_assoc,setL_app_right vs]
theorem setL_all(vs a:List Value)(h:vs.length=a.length):setL a 0 vs=vs:=by
 rw [setL_parts _ _ _ (by omega)]; simp [h]
theorem flat_set:∀{l:List α}{i o:Nat}{vs:List Value}{y:α}(_:∀ x∈l,(f x).length=n)(hi:i < l.length)(_:o+vs.length<=n)(_:f y=setL (f l[i]) o vs),setL (l.flatMap f) (i * n+o) vs=(l.set i y).flatMap f
 | [],i,o,vs,y,_,hi,_,_=>by simp at hi
 | x::l,0,o,vs,y,h,hi,ho,hy=>by
  have:=h x List.mem_cons_self
  rw [List.flatMap_cons,Nat.zero_mul,Nat.zero_add,setL_app_left _ _ _ _ (by omega),List.set_cons_zero,List.flatMap_cons,hy]; rfl
 | x::l,i+1,o,vs,y,h,hi,ho,hy=>by
  have h1:=h x List.mem_cons_self
  have e:(i+1) * n+o=(f x).length+(i * n+o):=by rw [h1,Nat.add_mul]; omega
  rw [List.flatMap_cons,e,setL_app_right,flat_set (fun y hy=>h y (List.mem_cons_of_mem _ hy)) (by simpa using hi) ho hy,List.set_cons_succ,List.flatMap_cons]
end
section
variable {w:Wd} {base:Nat} {e:TypeId} {sz:Nat} {s:Sl} {cs:List Value}
theorem Own.place{h:Array Obj}(o:Own h base e sz s cs)(hne:cs≠[]):∃ b rest,s.a=some ⟨b,0,none⟩/\base<=b/\h[b]? = some (.cells (cs++rest).toArray e (0,0))/\(cs++rest).length=s.cap * sz/\s.len<=s.cap:=by
 rcases o.is with ⟨_,rfl⟩ | h
 .exact absurd rfl hne
 .exact h
theorem Own.upd{w':Wd}{b off:Nat}{rest vs:List Value}(o:Own w.heap base e sz s cs)(ha:s.a=some ⟨b,0,none⟩)(hle:base<=b)(hb:w.heap[b]? = some (.cells (cs++rest).toArray e (0,0)))(hc:(cs++rest).length=s.cap * sz)(hcap:s.len<=s.cap)
  (hw:Wrt w b (.cells (setL (cs++rest) off vs).toArray e (0,0)) w') (hv:∀ v∈vs,oneC v=true) (ho:off+vs.length<=cs.length) :
  Own w'.heap base e sz s (setL cs off vs)/\Ext (fun i=>s.blk=some i) w w'/\w'.heap.size=w.heap.size:=by
 refine ⟨⟨by rw [length_setL]; exact o.len, .inr ⟨b,rest,ha,hle,?_,?_,hcap⟩,fun v h=>?_⟩,hw.ext.mono fun i _ hi=>by subst hi; simp [Sl.blk,ha],hw.size⟩
 .rw [hw.get hb,setL_app_left _ _ _ _ ho]
 .rw [List.length_append,length_setL,<- List.length_append]; exact hc
 .rw [setL_parts _ _ _ ho] at h
  rcases List.mem_append.1 h with h | h
  .exact o.cells v (List.mem_of_mem_take h)
  .rcases List.mem_append.1 h with h | h
   .exact hv v h
   .exact o.cells v (List.mem_of_mem_drop h)
theorem StN.own{i:Int}{vs:List Value}{K:Wd->Prop}(o:Own w.heap base e sz s cs)(h0:0<=i)(h1:i < (s.len:Int))(hv:∀ v∈vs,oneC v=true)(hl:vs.length=sz)(hsz:0 < sz)
  (k:∀ w',Own w'.heap base e sz s (setL cs (i.toNat * sz) vs)->Ext (fun i=>s.blk=some i) w w'->w'.heap.size=w.heap.size->K w'):Ix s.a s.len i sz fun a=>StN w a vs K:=by
 have hlen:=o.len
 have hle:i.toNat * sz+sz<=cs.length:=by
  rw [hlen]; have:(i.toNat+1) * sz<=s.len * sz:=Nat.mul_le_mul_right _ (by omega)
  rw [Nat.add_mul] at this; omega
 have hne:cs≠[]:=by intro e; subst e; simp at hle; omega
 obtain ⟨b,rest,ha,hba,hb,hc,hcap⟩:=o.place hne
 refine ⟨_,ha,h0,h1,?_⟩
 rw [addr_add_none rfl]
 simp only [Nat.zero_add]
 refine ⟨_,_,_,hb,rfl,by show i.toNat * sz+vs.length<=_; simp only [List.size_toArray,List.length_append]; omega, .inr (.inr (Nat.le_refl _)),hv,fun w' hw=>?_⟩
 obtain ⟨a1,a2,a3⟩:=o.upd (off:=i.toNat * sz) ha hba hb hc hcap hw hv (by omega)
 exact k w' a1 a2 a3
end
theorem Ix.elem{α:Type}{f:α->List Value}{n:Nat}{w:Wd}{s:Sl}{l:List α}{i:Int}{K:Addr->Prop}(h:Rd w.heap s n (l.flatMap f))(hf:∀ x∈l,(f x).length=n)(hn:0 < n)(h0:0<=i)(h1:i < (s.len:Int))
  (k:∀ b o (hi:i.toNat < l.length),s.blk=some b->(∀ j v,(f l[i.toNat])[j]? = some v->Cell w ⟨b,o+j,none⟩ v)->K ⟨b,o,none⟩):Ix s.a s.len i n K:=by
 have hl:l.length=s.len:=by have:=h.len; rw [flat_len' hf] at this; exact Nat.eq_of_mul_eq_mul_right hn this
 have hlt:i.toNat < l.length:=by omega
 have hfl:=flat_len' hf
 have hle:i.toNat * n+n<=(l.flatMap f).length:=by
  rw [hfl]; have:(i.toNat+1) * n<=l.length * n:=Nat.mul_le_mul_right _ (by omega)
  rw [Nat.add_mul] at this; omega
 obtain ⟨b,off,ha,hc⟩:=h.at_ (by intro e; rw [e] at hle; simp at hle; omega)
 refine ⟨_,ha,h0,h1,?_⟩
 rw [addr_add_none rfl]
 refine k b _ hlt (by simp [Sl.blk,ha]) fun j v hv=>?_
 have hj:j < n:=by
  have:=hf _ (List.getElem_mem hlt)
  rcases Nat.lt_or_ge j n with h | h
  .exact h
  .rw [List.getElem?_eq_none (by omega)] at hv; cases hv
 have hg:=flat_get (i:=i.toNat) (j:=j) hf hlt hj
 rw [hv] at hg
 obtain ⟨hlt2,hval⟩:=List.getElem?_eq_some_iff.1 hg
 refine Cell.mk ?_
 simp only
 rw [Nat.add_assoc,hc _ hlt2,hval]
theorem Cell.row{w:Wd}{b o i:Nat}{k:IntKind}{l:List Int}(h:∀ j (hj:j < l.length),Cell w ⟨b,o+i+j,none⟩ (.int k l[j])):RowC (Cell w) ⟨b,o,none⟩ i k l:=by
 intro j hj
 rw [addr_add_none rfl,<- Nat.add_assoc]
 exact h j hj
theorem Held.row{S:Wd->Prop}{b o i:Nat}{k:IntKind}{l:List Int}(h:∀ j (hj:j < l.length),Held S ⟨b,o+i+j,none⟩ (.int k l[j])):RowC (Held S) ⟨b,o,none⟩ i k l:=by
 intro j hj
 rw [addr_add_none rfl,<- Nat.add_assoc]
 exact h j hj
abbrev ArrR(h:Array Obj)(b:Nat)(T:TypeId)(k:IntKind)(l:List Int):Prop:=h[b]? = some (.cells (l.map (Value.int k)).toArray T (0,0))
section
variable {w w':Wd} {b:Nat} {T:TypeId} {k:IntKind} {l:List Int}
theorem ArrR.new(h:New w (.cells (List.map (Value.int k) l++[]).toArray T) b w'):ArrR w'.heap b T k l:=by
 have:=h.get; rwa [List.append_nil] at this
theorem ArrR.ext{S:Nat->Prop}(a:ArrR w.heap b T k l)(x:Ext S w w')(hb:¬ S b):ArrR w'.heap b T k l:=by
 have hl:b < w.heap.size:=(Array.getElem?_eq_some_iff.1 a).1
 show w'.heap[b]? = _
 rw [x.blk b hl hb]; exact a
theorem ArrR.lt(a:ArrR w.heap b T k l):b < w.heap.size:=(Array.getElem?_eq_some_iff.1 a).1
theorem ArrR.cell0(a:ArrR w.heap b T k l){i:Nat}(hi:i < l.length):Cell w ⟨b,i,none⟩ (.int k (l.getD i 0)):=Cell.lst a (by simp [hi])
theorem ArrR.cell(a:ArrR w.heap b T k l){t:Int}(h0:0<=t)(h1:t < (l.length:Int)):Cell w ((Addr.mk b 0 none).add (Int.toNat t * 1)) (.int k (l.getD t.toNat 0)):=by
 rw [addr_add_none rfl]
 show Cell w ⟨b,0+t.toNat * 1,none⟩ _
 rw [Nat.zero_add,Nat.mul_one]
 exact a.cell0 (by omega)
theorem ArrR.held{S:Nat->Prop}(a:ArrR w.heap b T k l)(hb:¬ S b){t:Int}(h0:0<=t)(h1:t < (l.length:Int)):Held (Ext S w) ((Addr.mk b 0 none).add (Int.toNat t * 1)) (.int k (l.getD t.toNat 0)):=by
 rw [addr_add_none rfl]
 show Held (Ext S w) ⟨b,0+t.toNat * 1,none⟩ _
 rw [Nat.zero_add,Nat.mul_one]
 exact Held.but (a.cell0 (by omega)) hb
theorem ArrR.row(a:ArrR w.heap b T k l):RowC (Cell w) (Addr.mk b 0 none) 0 k l:=Cell.row fun j hj=>by
 have:=a.cell0 hj
 simp only [List.getD_eq_getElem?_getD,List.getElem?_eq_getElem hj,Option.getD_some] at this
 simp only [Nat.zero_add]; exact this
theorem ArrR.rowH{S:Nat->Prop}(a:ArrR w.heap b T k l)(hb:¬ S b):RowC (Held (Ext S w)) (Addr.mk b 0 none) 0 k l:=Held.row fun j hj=>by
 have:=a.cell0 hj
 simp only [List.getD_eq_getElem?_getD,List.getElem?_eq_getElem hj,Option.getD_some] at this
 simp only [Nat.zero_add]; exact Held.but this hb
theorem ArrR.st{t z:Int}{K:Wd->Prop}(a:ArrR w.heap b T k l)(h0:0<=t)(h1:t < (l.length:Int))(hk:∀ w',ArrR w'.heap b T k (l.set t.toNat z)->Ext (·=b) w w'->K w'):St1 w ((Addr.mk b 0 none).add (Int.toNat t * 1)) (.int k z) K:=by
 rw [addr_add_none rfl]
 show St1 w ⟨b,0+t.toNat * 1,none⟩ _ K
 rw [Nat.zero_add,Nat.mul_one]
 refine St1.mk (cs:=l.map (Value.int k)) a (by simp; omega) rfl fun w' hw=>hk w' ?_ hw.ext
 have:=hw.get a
 rwa [<- List.map_set] at this
theorem ArrR.st0{o:Nat}{z:Int}{K:Wd->Prop}(a:ArrR w.heap b T k l)(ho:o < l.length)(hk:∀ w',ArrR w'.heap b T k (l.set o z)->Ext (·=b) w w'->K w'):St1 w ⟨b,o,none⟩ (.int k z) K:=by
 refine St1.mk (cs:=l.map (Value.int k)) a (by simp; omega) rfl fun w' hw=>hk w' ?_ hw.ext
 have:=hw.get a
 rwa [<- List.map_set] at this
theorem ArrR.stN{l':List Int}{K:Wd->Prop}(a:ArrR w.heap b T k l)(hl:l'.length=l.length)(hk:∀ w',ArrR w'.heap b T k l'->Ext (·=b) w w'->K w'):StN w (Addr.mk b 0 none) (List.map (Value.int k) l'++[]) K:=by
 refine ⟨_,_,_,a,rfl,by show 0+_<=_; simp [hl], .inr (.inr (Nat.le_refl _)),fun v hv=>?_,fun w' hw=>hk w' ?_ hw.ext⟩
 .rw [List.append_nil] at hv; exact oneC_ints v hv
 .have:=hw.get a
  have e:setL (l.map (Value.int k)) 0 (List.map (Value.int k) l'++[])=l'.map (Value.int k):=by
   rw [List.append_nil]; exact setL_all _ _ (by simp [hl])
  simp only [e] at this
  exact this
end
theorem Ext.out{w w1 w2:Wd}{b:Nat}(h:Ext No w w1)(k:Ext (·=b) w1 w2)(hb:w.heap.size<=b):Ext No w w2:=h.trans k fun i hi e=>by subst e; omega
theorem B8.set{l:List Int}{z:Int}(h:B8 l)(hz:By z)(i:Nat):B8 (l.set i z):=fun x hx=>by
 rcases List.mem_or_eq_of_mem_set hx with h1 | rfl
 .exact h x h1
 .exact hz
theorem B8.at{l:List Int}(h:B8 l){i:Nat}(hi:i < l.length):By (l.getD i 0):=by
 simp only [List.getD_eq_getElem?_getD,List.getElem?_eq_getElem hi,Option.getD_some]
 exact h _ (List.getElem_mem hi)
theorem four{t:Int}(h0:0<=t)(h1:t < 4):t=0∨t=1∨t=2∨t=3:=by omega
theorem len4{l:List Int}(h:l.length=4):∃ a b c d,l=[a,b,c,d]:=by
 match l,h with
 | [a,b,c,d],_=>exact ⟨a,b,c,d,rfl⟩
theorem len16{l:List Int}(h:l.length=16):∃ a0 a1 a2 a3 b0 b1 b2 b3 c0 c1 c2 c3 d0 d1 d2 d3,l=[a0,a1,a2,a3,b0,b1,b2,b3,c0,c1,c2,c3,d0,d1,d2,d3]:=by
 match l,h with
 | [a0,a1,a2,a3,b0,b1,b2,b3,c0,c1,c2,c3,d0,d1,d2,d3],_=>exact ⟨_,_,_,_,_,_,_,_,_,_,_,_,_,_,_,_,rfl⟩
end Go.V
namespace Go.Proofs.YtmbckodpbdlblaaGreat
open Go.V
section
variable {w:Wd}
theorem idx467{l:List Int}(hl:l.length=16){t:Int}(h0:0<=t)(h1:t < 4):∃ r0 r1 r2 r3:Int,Sem.run pz (Instr.index 467 (.agg (List.map (Value.int .u8) l++[]).toArray) (.int .i64 t)) w = .ok (.agg ([.int .u8 r0, .int .u8 r1, .int .u8 r2, .int .u8 r3]).toArray) w:=by
 obtain ⟨a0,a1,a2,a3,b0,b1,b2,b3,c0,c1,c2,c3,d0,d1,d2,d3,rfl⟩:=len16 hl
 rcases four h0 h1 with rfl | rfl | rfl | rfl
 .exact ⟨a0,a1,a2,a3,by kernel_rfl⟩
 .exact ⟨b0,b1,b2,b3,by kernel_rfl⟩
 .exact ⟨c0,c1,c2,c3,by kernel_rfl⟩
 .exact ⟨d0,d1,d2,d3,by kernel_rfl⟩
theorem idx463{c0 c1 c2 c3:Int}{t:Int}(h0:0<=t)(h1:t < 4):∃ r:Int,Sem.run pz (Instr.index 463 (.agg ([.int .u8 c0, .int .u8 c1, .int .u8 c2, .int .u8 c3]).toArray) (.int .i64 t)) w = .ok (.int .u8 r) w:=by
 rcases four h0 h1 with rfl | rfl | rfl | rfl
 .exact ⟨c0,by kernel_rfl⟩
 .exact ⟨c1,by kernel_rfl⟩
 .exact ⟨c2,by kernel_rfl⟩
 .exact ⟨c3,by kernel_rfl⟩
theorem by_spec{rows0:List Int}{c0 c1 c2 c3:Int}{K:Int->Int->Int->Int->Wd->Prop}(hl:rows0.length=16)(hc:B8 [c0,c1,c2,c3])
  (k:∀ r0 r1 r2 r3 w',B8 [r0,r1,r2,r3]->Ext No w w'->K r0 r1 r2 r3 w'):C_galois_by rows0 c0 c1 c2 c3 w K:=by
 apply S_galois_by
 refine fun b w1 n1 b1 w2 n2 b2 w3 n3 b3 w4 n4=>⟨rows0,hl,?_,?_⟩
 .exact ArrR.row ((((ArrR.new n1).ext n2.ext fun h=>h).ext n3.ext fun h=>h).ext n4.ext fun h=>h)
 have s1:=n1.at_; have s2:=n2.at_; have s3:=n3.at_; have s4:=n4.at_
 have z1:=n1.size; have z2:=n2.size; have z3:=n3.size; have z4:=n4.size
 have x4:Ext No w w4:=((n1.ext.no n2.ext).no n3.ext).no n4.ext
 have a1:ArrR w4.heap b1 463 .u8 [c0,c1,c2,c3]:=((show ArrR w2.heap b1 463 .u8 [c0,c1,c2,c3] from n2.get).ext n3.ext fun h=>h).ext n4.ext fun h=>h
 have a2:ArrR w4.heap b2 463 .u8 [0,0,0,0]:=(show ArrR w3.heap b2 463 .u8 [0,0,0,0] from n3.get).ext n4.ext fun h=>h
 have a3:ArrR w4.heap b3 463 .u8 [0,0,0,0]:=n4.get
 let Inv:Wd->Prop:=fun w'=>Ext No w w'/\ArrR w'.heap b1 463 .u8 [c0,c1,c2,c3]/\ArrR w'.heap b2 463 .u8 [0,0,0,0]/\∃ o,o.length=4/\B8 o/\ArrR w'.heap b3 463 .u8 o
 have i4:Inv w4:=⟨x4,a1,a2,[0,0,0,0],rfl,fun x hx=>by simp at hx; subst hx; exact ⟨by omega,by omega⟩,a3⟩
 have inv_no:∀{u u':Wd},Inv u->Ext No u u'->Inv u':=fun h x=>⟨h.1.no x,h.2.1.ext x fun h=>h,h.2.2.1.ext x fun h=>h,by obtain ⟨o,o1,o2,o3⟩:=h.2.2.2; exact ⟨o,o1,o2,o3.ext x fun h=>h⟩⟩
 refine ⟨fun m t w'=>t=4 - (m:Int)/\m<=4/\Inv w',⟨4,by omega,by omega,i4⟩,?_⟩
 rintro _ m t w5 ⟨ht,hm,hi⟩
 refine If.dec (fun h=>?_) fun h=>?_
 .obtain ⟨r0,r1,r2,r3,hr⟩:=idx467 (w:=w5) hl (t:=t) (by omega) (by omega)
  refine ⟨r0,r1,r2,r3,w5,hr,fun b4 w6 n6=>⟨rfl,?_⟩⟩
  have a4:ArrR w6.heap b4 463 .u8 [0,0,0,0]:=n6.get
  have i6:=inv_no hi n6.ext
  have lt1:=i6.2.1.lt; have lt2:=i6.2.2.1.lt
  obtain ⟨o6,ho6,_,ao6⟩:=i6.2.2.2
  have lt3:=ao6.lt
  have s6:=n6.at_; have z6:=n6.size; have z5:=hi.1.size
  have lt1':=hi.2.1.lt; have lt2':=hi.2.2.1.lt
  have lt3':b3 < w5.heap.size:=by obtain ⟨o,_,_,q⟩:=hi.2.2.2; exact q.lt
  refine ArrR.stN (l':=[r0,r1,r2,r3]) a4 rfl fun w7 a7 x7=>⟨r0,Cell.lst a7 rfl,r1,Cell.lst a7 rfl,r2,Cell.lst a7 rfl,r3,Cell.lst a7 rfl,?_⟩
  have i7:Inv w7:=⟨i6.1.out x7 (by omega),i6.2.1.ext x7 (by omega),i6.2.2.1.ext x7 (by omega),by obtain ⟨o,o1,o2,o3⟩:=i6.2.2.2; exact ⟨o,o1,o2,o3.ext x7 (by omega)⟩⟩
  refine ⟨fun m' t' w'=>t'=4 - (m':Int)/\m'<=4/\Inv w',⟨4,by omega,by omega,i7⟩,?_⟩
  rintro _ m2 t2 w8 ⟨ht2,hm2,i8⟩
  refine If.dec (fun h2=>?_) fun h2=>Ar.i64 (by omega) ⟨m - 1,by omega,by omega,by omega,i8⟩
  obtain ⟨r,hr2⟩:=idx463 (w:=w8) (c0:=r0) (c1:=r1) (c2:=r2) (c3:=r3) (t:=t2) (by omega) (by omega)
  obtain ⟨o,ho,hob,ao⟩:=i8.2.2.2
  refine ⟨r,w8,hr2,Ext No w8,(Ext.refl _ _).drew,by omega,by omega,_,ao.held (fun h=>h) (by omega) (by omega),by omega,by omega,_,i8.2.1.held (fun h=>h) (by omega) (by show t2 < 4; omega),?_⟩
  refine mul_spec (hc.at (by show t2.toNat < 4; omega)) fun q hq=>⟨(Ext.refl _ _).drew,Nm.mk ⟨by omega,by omega,?_⟩⟩
  have aod:ArrR (drewW w8).heap b3 463 .u8 o:=ao
  refine aod.st (by omega) (by omega) fun w9 a9 x9=>Ar.i64 (by omega) ⟨m2 - 1,by omega,by omega,by omega,?_⟩
  have lt4:=i8.1.size
  exact ⟨(i8.1.drew).out x9 (by omega),(show ArrR (drewW w8).heap b1 463 .u8 _ from i8.2.1).ext x9 (by omega),(show ArrR (drewW w8).heap b2 463 .u8 _ from i8.2.2.1).ext x9 (by omega),_,by simpa using ho,hob.set (bitI_by _ _ _) _,a9⟩
 .obtain ⟨o,ho,hob,ao⟩:=hi.2.2.2
  obtain ⟨p0,p1,p2,p3,rfl⟩:=len4 ho
  refine ⟨p0,Cell.lst ao rfl,p1,Cell.lst ao rfl,p2,Cell.lst ao rfl,p3,Cell.lst ao rfl,rfl,?_⟩
  refine ArrR.stN (l':=[p0,p1,p2,p3]) hi.2.2.1 rfl fun w7 a7 x7=>⟨p0,Cell.lst a7 rfl,p1,Cell.lst a7 rfl,p2,Cell.lst a7 rfl,p3,Cell.lst a7 rfl,?_⟩
  exact k _ _ _ _ _ hob (hi.1.out x7 (by omega))
end
end Go.Proofs.YtmbckodpbdlblaaGreat
namespace Go.V
section
variable {w w':Wd} {b:Nat} {T:TypeId} {k:IntKind} {l:List Int}
theorem ArrR.cellA(a:ArrR w.heap b T k l){o j:Nat}(h:o+j < l.length):Cell w ((⟨b,o,none⟩ : Addr).add j) (.int k (l.getD (o+j) 0)):=by
 rw [addr_add_none rfl]; exact a.cell0 h
theorem ArrR.heldA{S:Nat->Prop}(a:ArrR w.heap b T k l)(hb:¬ S b){o j:Nat}(h:o+j < l.length):Held (Ext S w) ((⟨b,o,none⟩ : Addr).add j) (.int k (l.getD (o+j) 0)):=by
 rw [addr_add_none rfl]; exact Held.but (a.cell0 h) hb
theorem ArrR.stAt{vs:List Int}{o:Nat}{K:Wd->Prop}(a:ArrR w.heap b T k l)(ho:o+vs.length<=l.length)(hk:∀ w' l',l'.length=l.length->(B8 l->B8 vs->B8 l')->ArrR w'.heap b T k l'->Ext (·=b) w w'->K w'):StN w ⟨b,o,none⟩ (vs.map (Value.int k)) K:=by
 refine ⟨_,_,_,a,rfl,by simpa using ho, .inr (.inr (Nat.le_refl _)),fun v hv=>oneC_ints v hv,fun w' hw=>hk w' (l.take o++(vs++l.drop (o+vs.length))) (by simp; omega) (fun h1 h2=>(h1.take o).append (h2.append (h1.drop _))) ?_ hw.ext⟩
 have:=hw.get a
 have e:setL (l.map (Value.int k)) o (vs.map (Value.int k))=(l.take o++(vs++l.drop (o+vs.length))).map (Value.int k):=by
  rw [setL_parts _ _ _ (by simpa using ho)]; simp
 simp only [e] at this
 exact this
theorem Ix.arr{n:Nat}{t:Int}{sz:Nat}{K:Addr->Prop}(h0:0<=t)(h1:t < (n:Int))(hk:K ⟨b,t.toNat * sz,none⟩):Ix (some ⟨b,0,none⟩) n t sz K :=
 ⟨_,rfl,h0,h1,by rw [addr_add_none rfl]; simpa using hk⟩
theorem B8.zeros(n:Nat):B8 (List.replicate n 0):=fun x hx=>by rw [(List.mem_replicate.1 hx).2]; exact ⟨by omega,by omega⟩
theorem tmod_nat{t:Int}{n:Int}(h:0<=t):Int.tmod t n=t % n:=Int.tmod_eq_emod_of_nonneg h
theorem tdiv_nat{t:Int}{n:Int}(h:0<=t):Int.tdiv t n=t / n:=Int.tdiv_eq_ediv_of_nonneg h
theorem Rd.cellI{s:Sl}{sz:Nat}{ks:IntKind}(r:Rd w.heap s sz (l.map (Value.int ks))){K:Addr->Prop}{z:Int}(hs:l.length=s.len * sz)(hz:0 < sz)(h0:0<=z)(h1:z < (s.len:Int))
  (hk:∀ b o,(∀ j,j < sz->Cell w ⟨b,o+j,none⟩ (.int ks (l.getD (z.toNat * sz+j) 0)))->K ⟨b,o,none⟩):Ix s.a s.len z sz K:=by
 have hlt:z.toNat * sz+sz<=l.length:=by
  rw [hs]
  have:z.toNat+1<=s.len:=by omega
  have:=Nat.mul_le_mul_right sz this
  rw [Nat.add_mul] at this; omega
 have hne:l.map (Value.int ks)≠[]:=fun e=>by
  have:=congrArg List.length e; simp at this; subst this; simp at hlt; omega
 obtain ⟨b,off,ha,hc⟩:=r.at_ hne
 refine ⟨_,ha,h0,h1,?_⟩
 rw [addr_add_none rfl]
 refine hk b _ fun j hj=>Cell.mk ?_
 have:=hc (z.toNat * sz+j) (by simp; omega)
 rw [<- Nat.add_assoc] at this
 rw [this]
 have hl:z.toNat * sz+j < l.length:=by omega
 simp [List.getD_eq_getElem?_getD,List.getElem?_eq_getElem hl]
end
end Go.V
namespace Go.Proofs.YtmbckodpbdlblaaGreat
open Go.V
abbrev St16(l:List Int):Prop:=l.length=16/\B8 l
section
variable {w:Wd}
theorem bld463{a b c d:Int}:Sem.run pz (Instr.build 463 #[(0, .int .u8 a),(1, .int .u8 b),(2, .int .u8 c),(3, .int .u8 d)]) w = .ok (.agg ([.int .u8 a, .int .u8 b, .int .u8 c, .int .u8 d]).toArray) w:=by kernel_rfl
theorem mix_spec{c0 c1 c2 c3:Int}{K:Int->Int->Int->Int->Wd->Prop}(hc:B8 [c0,c1,c2,c3])(k:∀ r0 r1 r2 r3 w',B8 [r0,r1,r2,r3]->Ext No w w'->K r0 r1 r2 r3 w'):C_galois_Mix c0 c1 c2 c3 w K:=by
 apply S_galois_Mix
 refine fun b w1 n1 b1 w2 n2=>⟨2,3,1,1,w2,bld463,1,2,3,1,w2,bld463,1,1,2,3,w2,bld463,3,1,1,2,w2,bld463,[2,3,1,1,1,2,3,1,1,1,2,3,3,1,1,2],rfl,w2,by kernel_rfl,?_⟩
 have a0:ArrR w2.heap b 463 .u8 [c0,c1,c2,c3]:=(show ArrR w1.heap b 463 .u8 [c0,c1,c2,c3] from n1.get).ext n2.ext fun h=>h
 have a1:ArrR w2.heap b1 463 .u8 [0,0,0,0]:=n2.get
 have s1:=n1.at_; have s2:=n2.at_; have z1:=n1.size
 refine ⟨c0,Cell.lst a0 rfl,c1,Cell.lst a0 rfl,c2,Cell.lst a0 rfl,c3,Cell.lst a0 rfl,by_spec rfl hc fun r0 r1 r2 r3 w3 hr x3=>⟨rfl,?_⟩⟩
 refine ArrR.stN (l':=[r0,r1,r2,r3]) (a1.ext x3 fun h=>h) rfl fun w4 a4 x4=>⟨r0,Cell.lst a4 rfl,r1,Cell.lst a4 rfl,r2,Cell.lst a4 rfl,r3,Cell.lst a4 rfl,k _ _ _ _ _ hr ?_⟩
 exact ((n1.ext.no n2.ext).no x3).out x4 (by omega)
theorem fin16{b b1:Nat}{T:TypeId}{l z:List Int}{K:List Int->Wd->Prop}(a:ArrR w.heap b T .u8 l)(a1:ArrR w.heap b1 T .u8 z)(hl:l.length=16)(hz:z.length=16)(k:∀ w',Ext (·=b1) w w'->K l w') :
  ∃ l:List Int,l.length=16/\RowC (Cell w) (Addr.mk b 0 none) 0 .u8 l/\List.length (α:=Value) (List.map (Value.int .u8) l++[])=16/\StN w (Addr.mk b1 0 none) (List.map (Value.int .u8) l++[]) fun w5 =>
   ∃ l_1:List Int,l_1.length=16/\RowC (Cell w5) (Addr.mk b1 0 none) 0 .u8 l_1/\RowR .u8 16 (List.map (Value.int .u8) l_1++[]) fun l_2 vs=>getCS [] vs (K l_2) fun Kv=>Kv w5 :=
 ⟨l,hl,a.row,by rw [List.append_nil,List.length_map]; exact hl,a1.stN (by omega) fun w5 a5 x5=>⟨l,hl,a5.row,RowR.mk hl (k w5 x5)⟩⟩
theorem addKey_spec{s0 wl:List Int}{words:Sl}{K:List Int->Wd->Prop}(h0:St16 s0)(hw:Rd w.heap words 4 (wl.map (Value.int .u8)))(hl:wl.length=words.len * 4)(h4:4<=words.len)(k:∀ r w',St16 r->Ext No w w'->K r w'):C_aes_state_add s0 words w K:=by
 apply S_aes_state_add
 refine fun b w1 n1 b1 w2 n2=>?_
 have s1:=n1.at_; have s2:=n2.at_; have z1:=n1.size
 have x2:Ext No w w2:=n1.ext.no n2.ext
 refine ⟨fun m t w'=>t=16 - (m:Int)/\m<=16/\Ext No w w'/\ArrR w'.heap b1 388 .u8 (List.replicate 16 0)/\∃ l,St16 l/\ArrR w'.heap b 388 .u8 l,⟨16,by omega,by omega,x2,n2.get,s0,h0,(ArrR.new n1).ext n2.ext fun h=>h⟩,?_⟩
 rintro _ m t w3 ⟨ht,hm,x3,a1,l,hl3,a⟩
 refine If.dec (fun h=>?_) fun h=>?_
 .refine ⟨Ext No w3,(Ext.refl _ _).drew,by omega,by omega,_,a.held (fun h=>h) (by omega) (by have:=hl3.1; omega),by decide,Ar.i64 (by rw [tdiv_nat (by omega)]; omega) ⟨by decide,Nm.as (tmod_nat (by omega)) ?_⟩⟩
  rw [tdiv_nat (by omega)]
  refine (hw.no x3).cellI hl (by decide) (by omega) (by omega) fun b' o hc=>⟨by omega,by omega,wl.getD ((t / 4).toNat * 4+(t % 4).toNat * 1) 0,?_,Nm.mk ⟨by omega,by omega,?_⟩⟩
  .rw [addr_add_none rfl]; exact Held.cell (hc _ (by omega))
  .have a':ArrR (drewW w3).heap b 388 .u8 l:=a
   have lt:=x3.size
   refine a'.st (by omega) (by have:=hl3.1; omega) fun w4 a4 x4=>Ar.i64 (by omega) ⟨m - 1,by omega,by omega,by omega,x3.drew.out x4 (by omega),?_,_,⟨by simpa using hl3.1,hl3.2.set (bitI_by _ _ _) _⟩,a4⟩
   exact (show ArrR (drewW w3).heap b1 388 .u8 _ from a1).ext x4 (by omega)
 .exact fin16 a a1 hl3.1 (by simp) fun w' x'=>k l w' hl3 (x3.out x' (by omega))
theorem shift_spec{s0:List Int}{K:List Int->Wd->Prop}(h0:St16 s0)(k:∀ r w',St16 r->Ext No w w'->K r w'):C_aes_state_shift s0 1 w K:=by
 apply S_aes_state_shift
 refine fun b w1 n1 b1 w2 n2 b2 w3 n3=>?_
 have s1:=n1.at_; have s2:=n2.at_; have s3:=n3.at_; have z1:=n1.size; have z2:=n2.size
 have x3:Ext No w w3:=(n1.ext.no n2.ext).no n3.ext
 refine ⟨fun m t w'=>t=16 - (m:Int)/\m<=16/\Ext No w w'/\ArrR w'.heap b1 388 .u8 (List.replicate 16 0)/\ArrR w'.heap b 388 .u8 s0/\∃ l,St16 l/\ArrR w'.heap b2 388 .u8 l,⟨16,by omega,by omega,x3,(show ArrR w2.heap b1 388 .u8 (List.replicate 16 0) from n2.get).ext n3.ext fun h=>h,((ArrR.new n1).ext n2.ext fun h=>h).ext n3.ext fun h=>h,List.replicate 16 0,⟨rfl,B8.zeros 16⟩,n3.get⟩,?_⟩
 rintro _ m t w4 ⟨ht,hm,x4,a1,a,l,hl,a2⟩
 refine If.dec (fun h=>?_) fun h=>?_
 .refine ⟨by decide,Nm.as (tmod_nat (by omega)) ⟨by decide,Ar.i64 (by rw [tdiv_nat (by omega)]; omega) ?_⟩⟩
  rw [tdiv_nat (by omega)]
  refine Ar.i64 (by omega) (Ar.i64 (by omega) ⟨by decide,Nm.as (tmod_nat (by omega)) (Ar.i64 (by omega) (Ar.i64 (by omega) ⟨by omega,by omega,_,a.cell (by omega) (by have:=h0.1; omega),by omega,by omega,?_⟩))⟩)
  have lt:=x4.size
  refine a2.st (by omega) (by have:=hl.1; omega) fun w5 a5 x5=>Ar.i64 (by omega) ⟨m - 1,by omega,by omega,by omega,x4.out x5 (by omega),a1.ext x5 (by omega),a.ext x5 (by omega),_,⟨by simpa using hl.1,hl.2.set (h0.2.at (by have:=h0.1; omega)) _⟩,a5⟩
 .exact fin16 a2 a1 hl.1 (by simp) fun w' x'=>k l w' hl (x4.out x' (by omega))
end
end Go.Proofs.YtmbckodpbdlblaaGreat
namespace Go.V
section
variable {w w':Wd} {b:Nat} {T:TypeId} {k:IntKind} {l:List Int}
theorem Cut.arr{n:Nat}{lo hi:Int}{K:Sl->Prop}(h0:0<=lo)(h1:lo<=hi)(h2:hi<=(n:Int))(h3:lo < (n:Int))(hk:K ⟨some ⟨b,lo.toNat,none⟩,(hi - lo).toNat,((n:Int) - lo).toNat⟩):Cut ⟨some (Addr.mk b 0 none),n,n⟩ lo hi (((n:Nat):Int)) 1 K :=
 Cut.mk h0 h1 h2 (by simp) (by
  have e:cutA (some (Addr.mk b 0 none)) ((n:Int)).toNat lo.toNat 1=some ⟨b,lo.toNat,none⟩:=by
   unfold cutA; rw [if_neg (by simp; omega)]; simp [addr_add_none]
  simp only [e]; exact hk)
theorem ArrR.rd(a:ArrR w.heap b T k l){o n c:Nat}(h:o+n<=l.length)(hc:n<=c):Rd w.heap ⟨some ⟨b,o,none⟩,n,c⟩ 1 (((l.drop o).take n).map (Value.int k)):=by
 refine ⟨by simp; omega,hc,fun _=>⟨b,o,rfl,fun i hi=>?_⟩,fun v hv=>oneC_ints v hv⟩
 have hi':i < n:=by simp at hi; omega
 have:=a.cell0 (i:=o+i) (by omega)
 unfold Cell at this
 rw [cell_eq] at this
 rw [this]
 simp [List.getD_eq_getElem?_getD,List.getElem?_eq_getElem (show o+i < l.length by omega)]
end
end Go.V
namespace Go.Proofs.YtmbckodpbdlblaaGreat
open Go.V
section
variable {w w':Wd}
theorem copyA{b:Nat}{T:TypeId}{l xs:List Int}{x:Sl}{o n c:Nat}{K:Int->Wd->Prop}(a:ArrR w.heap b T .u8 l)(hx:Rd w.heap x 1 (xs.map (Value.int .u8)))(ho:o+min x.len n<=l.length)
  (hk:∀ w' l',l'.length=l.length->(B8 l->B8 xs->B8 l')->ArrR w'.heap b T .u8 l'->Ext (·=b) w w'->K ((min x.len n:Nat):Int) w'):CopyW pz 22 22 ⟨some ⟨b,o,none⟩,n,c⟩ x.v K w:=by
 have hxl:xs.length=x.len:=by have:=hx.len; simpa using this
 refine copy_uint8 (row:=l.map (Value.int .u8)) rfl a hx (by simpa using ho) fun w' hw=>?_
 refine hk w' (l.take o++(xs.take (min x.len n)++l.drop (o+min x.len n))) (by simp; omega) (fun h1 h2=>(h1.take o).append ((h2.take _).append (h1.drop _))) ?_ hw.ext
 have:=hw.get a
 have e:setL (l.map (Value.int .u8)) o ((xs.map (Value.int .u8)).take (min x.len n * 1))=(l.take o++(xs.take (min x.len n)++l.drop (o+min x.len n))).map (Value.int .u8):=by
  rw [setL_parts _ _ _ (by simp; omega)]
  have:min (min x.len n) xs.length=min x.len n:=by omega
  simp [List.map_take,List.map_drop,this]
 simp only [e] at this
 exact this
def TabR(w:Wd)(b o:Nat):Prop:=∀ i,i < 256->∃ v,By v/\Held (Ext No w) ⟨b,o+i,none⟩ (.int .u8 v)
theorem TabR.no{b o:Nat}(h:TabR w b o)(x:Ext No w w'):TabR w' b o:=fun i hi=>by
 obtain ⟨v,h1,h2⟩:=h i hi
 exact ⟨v,h1,fun w2 x2=>h2 w2 (x.no x2)⟩
theorem each_spec{s0:List Int}{tb o:Nat}{K:List Int->Wd->Prop}(h0:St16 s0)(ht:TabR w tb o)(k:∀ r w',St16 r->Ext No w w'->K r w'):C_aes_state_each s0 (some ⟨tb,o,none⟩) w K:=by
 apply S_aes_state_each
 refine fun b w1 n1 b1 w2 n2=>?_
 have s1:=n1.at_; have s2:=n2.at_; have z1:=n1.size
 have x2:Ext No w w2:=n1.ext.no n2.ext
 refine ⟨fun m t w'=>t=16 - (m:Int)/\m<=16/\Ext No w w'/\ArrR w'.heap b1 388 .u8 (List.replicate 16 0)/\∃ l,St16 l/\ArrR w'.heap b 388 .u8 l,⟨16,by omega,by omega,x2,n2.get,s0,h0,(ArrR.new n1).ext n2.ext fun h=>h⟩,?_⟩
 rintro _ m t w3 ⟨hm0,hm,x3,a1,l,hl3,a⟩
 refine If.dec (fun h=>?_) fun h=>?_
 .have hv:=hl3.2.at (i:=t.toNat) (by have:=hl3.1; omega)
  obtain ⟨v,hvb,hvc⟩:=(ht.no x3) (l.getD t.toNat 0).toNat (by omega)
  refine ⟨Ext No w3,(Ext.refl _ _).drew,by omega,by omega,_,a.held (fun h=>h) (by omega) (by have:=hl3.1; omega),Nn.mk ⟨hv.1,by omega,v,?_,by omega,by omega,?_⟩⟩
  .rw [addr_add_none rfl]
   show Held (Ext No w3) ⟨tb,o+(l.getD t.toNat 0).toNat * 1,none⟩ _
   rw [Nat.mul_one]; exact hvc
  .have a':ArrR (drewW w3).heap b 388 .u8 l:=a
   have lt:=x3.size
   refine a'.st (by omega) (by have:=hl3.1; omega) fun w4 a4 x4=>Ar.i64 (by omega) ⟨m - 1,by omega,by omega,by omega,x3.drew.out x4 (by omega),?_,_,⟨by simpa using hl3.1,hl3.2.set hvb _⟩,a4⟩
   exact (show ArrR (drewW w3).heap b1 388 .u8 _ from a1).ext x4 (by omega)
 .exact fin16 a a1 hl3.1 (by simp) fun w' x'=>k l w' hl3 (x3.out x' (by omega))
theorem columns_spec{s0:List Int}{K:List Int->Wd->Prop}(h0:St16 s0)(k:∀ r w',St16 r->Ext No w w'->K r w'):C_aes_state_columns s0 (.func (.func 287) #[] #[]) w K:=by
 apply S_aes_state_columns
 refine fun b w1 n1 b1 w2 n2=>?_
 have s1:=n1.at_; have s2:=n2.at_; have z1:=n1.size
 have x2:Ext No w w2:=n1.ext.no n2.ext
 refine ⟨fun m t w'=>t=16 - 4 * (m:Int)/\m<=4/\Ext No w w'/\ArrR w'.heap b1 388 .u8 (List.replicate 16 0)/\∃ l,St16 l/\ArrR w'.heap b 388 .u8 l,⟨4,by omega,by omega,x2,n2.get,s0,h0,(ArrR.new n1).ext n2.ext fun h=>h⟩,?_⟩
 rintro _ m t w3 ⟨hm0,hm,x3,a1,l,hl3,a⟩
 refine If.dec (fun h=>?_) fun h=>?_
 .have hl16:=hl3.1
  refine Ar.i64 (by omega) (Cut.arr (by omega) (by omega) (by omega) (by omega) ⟨by show 4<=(t+4 - t).toNat; omega,Nn.mk ?_⟩)
  have hB:∀ j,j < 4->By (l.getD (t.toNat+j) 0):=fun j hj=>hl3.2.at (by omega)
  refine ⟨l.getD (t.toNat+0) 0,a.cell0 (by omega),l.getD (t.toNat+1) 0,a.cellA (by omega),l.getD (t.toNat+2) 0,a.cellA (by omega),l.getD (t.toNat+3) 0,a.cellA (by omega),V_galois_Mix (mix_spec ?_ fun r0 r1 r2 r3 w4 hr x4=>?_)⟩
  .exact (B8.nil.cons (hB 3 (by decide))).cons (hB 2 (by decide)) |>.cons (hB 1 (by decide)) |>.cons (hB 0 (by decide))
  refine fun b2 w5 n5=>⟨rfl,ArrR.stN (l':=[r0,r1,r2,r3]) (l:=[0,0,0,0]) n5.get rfl fun w6 a6 x6=>?_⟩
  have lt3:=x3.size; have lt4:=x4.size; have s5:=n5.at_; have z5:=n5.size
  have x5:Ext No w w5:=(x3.no x4).no n5.ext
  have x6':Ext No w w6:=x5.out x6 (by omega)
  have ltb:=a.lt; have ltb1:=a1.lt
  have ab:ArrR w6.heap b 388 .u8 l:=((a.ext x4 fun h=>h).ext n5.ext fun h=>h).ext x6 (by omega)
  have ab1:ArrR w6.heap b1 388 .u8 (List.replicate 16 0):=((a1.ext x4 fun h=>h).ext n5.ext fun h=>h).ext x6 (by omega)
  refine ⟨Ext (·=b) w6,(Ext.refl _ _).drew,Cut.arr (by omega) (by omega) (by omega) (by omega) (Cut.arr (by decide) (by decide) (by decide) (by decide) ?_)⟩
  have abd:ArrR (drewW w6).heap b 388 .u8 l:=ab
  have ad:ArrR (drewW w6).heap b2 463 .u8 [r0,r1,r2,r3]:=a6
  refine copyA (xs:=[r0,r1,r2,r3]) abd (ad.rd (o:=0) (n:=4) (c:=4) (by simp) (Nat.le_refl 4)) (by show t.toNat+min _ _<=_; simp; omega) fun w7 l7 h7 hb7 a7 x7=>?_
  have lt6:=x6'.size
  exact ⟨x7.drew_left,Ar.i64 (by omega) ⟨m - 1,by omega,by omega,by omega,x6'.drew.out x7 (by omega),(show ArrR (drewW w6).heap b1 388 .u8 _ from ab1).ext x7 (by omega),l7,⟨by omega,hb7 hl3.2 hr⟩,a7⟩⟩
 .exact fin16 a a1 hl3.1 (by simp) fun w' x'=>k l w' hl3 (x3.out x' (by omega))
end
end Go.Proofs.YtmbckodpbdlblaaGreat
namespace Go.V
section
variable {w w':Wd} {s:Sl} {ks:IntKind} {l:List Int}
theorem Rd.cutI(r:Rd w.heap s 1 (l.map (Value.int ks))){lo hi:Int}{K:Sl->Prop}(h0:0<=lo)(h1:lo < hi)(h2:hi<=(s.len:Int))
  (hk:∀ b o c,(∀ j:Nat,(j:Int) < hi - lo->Cell w ⟨b,o+j,none⟩ (.int ks (l.getD (lo.toNat+j) 0)))->K ⟨some ⟨b,o,none⟩,(hi - lo).toNat,c⟩):Cut s lo hi (((s.cap:Nat):Int)) 1 K:=by
 have hl:l.length=s.len:=by have:=r.len; simpa using this
 have hcap:=r.cap
 have hne:l.map (Value.int ks)≠[]:=fun e=>by
  have:=congrArg List.length e; simp at this; subst this; simp at hl; omega
 obtain ⟨b,off,ha,hc⟩:=r.at_ hne
 refine Cut.mk h0 (by omega) (by omega) (Int.le_refl _) ?_
 have e:cutA s.a ((s.cap:Int)).toNat lo.toNat 1=some ⟨b,off+lo.toNat,none⟩:=by
  unfold cutA; rw [if_neg (by simp; omega),ha]; simp [addr_add_none]
 simp only [e]
 refine hk b _ _ fun j hj=>Cell.mk ?_
 have:=hc (lo.toNat+j) (by simp; omega)
 rw [<- Nat.add_assoc] at this
 rw [this]
 simp [List.getD_eq_getElem?_getD,List.getElem?_eq_getElem (show lo.toNat+j < l.length by omega)]
theorem MkW.arr{T:TypeId}{k:IntKind}{sz:Nat}{zs:List Value}{bytes n:Nat}{c:Int}{K:Sl->Wd->Prop}(hz:zs=(List.replicate sz 0).map (Value.int k))(hc:c=(n:Int))(hn:bytes * n<=281474976710656)(hn2:n<=281474976710656)
    (hk:∀ b w',ArrR w'.heap b T k (List.replicate (n * sz) 0)->b=w.heap.size->Ext No w w'->w'.heap.size=w.heap.size+1->K ⟨some ⟨b,0,none⟩,n,n⟩ w'):MkW w T zs bytes c c K:=by
  subst hc hz
  refine MkW.mk (by omega) (Int.le_refl _) (by omega) (by have : ((bytes * n : Nat) : Int) ≤ 281474976710656 := by omega
                                                          simpa using this) fun b w' new=>?_
  have:=new.get
  rw [Int.toNat_natCast] at this ⊢
  refine hk b w' ?_ new.at_ new.ext new.size
  have e:(List.replicate n (List.map (Value.int k) (List.replicate sz 0))).flatten=(List.replicate (n * sz) 0).map (Value.int k):=by
    rw [List.map_replicate,List.map_replicate,List.flatten_replicate_replicate]
  rw [e] at this
  exact this
end
end Go.V
namespace Go.Proofs.YtmbckodpbdlblaaGreat
open Go.V
section
variable {w:Wd}
theorem words_spec{key:Sl}{kl:List Int}{K:Sl->Int->Wd->Prop}(hk:Rd w.heap key 1 (kl.map (Value.int .u8)))(hkB:B8 kl)(hlen:key.len=16∨key.len=32)
  (k:∀ b n l w',(n=44∨n=60)->ArrR w'.heap b 463 .u8 l->l.length=n * 4->w.heap.size<=b->Ext No w w'->K ⟨some ⟨b,0,none⟩,n,n⟩ 0 w'):C_aes_Words key w K:=by
 apply S_aes_Words
 have hkl:kl.length=key.len:=by have:=hk.len; simpa using this
 refine ⟨fun w'=>w'=w,If.bne (fun h=>If.bne (fun h2=>by omega) fun _=>rfl) fun _=>rfl,?_⟩
 rintro _ w1 rfl
 obtain ⟨kz,hkz,hz⟩ : ∃ kz:Nat,(kz=4∨kz=8)/\key.len=4 * kz:=by rcases hlen with h | h; exact ⟨4, .inl rfl,h⟩; exact ⟨8, .inr rfl,h⟩
 have ez:Int.tdiv ((key.len:Int)) 4=(kz:Int):=by rw [tdiv_nat (by omega)]; omega
 refine ⟨by decide,?_⟩
 rw [ez]
 refine Ar.i64 (by omega) (Ar.i64 (by omega) (Ar.i64 (by omega) ?_))
 obtain ⟨n,hn,hnz⟩ : ∃ n:Nat,(n=44∨n=60)/\n=4 * (kz+7):=⟨4 * (kz+7),by omega,rfl⟩
 refine MkW.arr (sz:=4) (k := .u8) (n:=n) rfl (by omega) (by omega) (by omega) fun bs w2 a2 hbs x2 hz2=>?_
 let Inv:Wd->Prop:=fun w'=>Ext No w1 w'/\∃ l,l.length=n * 4/\B8 l/\ArrR w'.heap bs 463 .u8 l
 have inv_no:∀{u u':Wd},Inv u->Ext No u u'->Inv u':=fun h x=>⟨h.1.no x,by obtain ⟨l,o1,o2,o3⟩:=h.2; exact ⟨l,o1,o2,o3.ext x fun h=>h⟩⟩
 refine ⟨fun m t w'=>t=(n:Int) - m/\m<=n/\Inv w',⟨n,by omega,Nat.le_refl _,x2,_,by simp,B8.zeros _,a2⟩,?_⟩
 rintro _ m t w3 ⟨ht,hm,i3⟩
 have i3':=i3
 obtain ⟨x3,l,hl,hlB,al⟩:=i3
 have lt3:=al.lt
 refine If.dec (fun h=>?_) fun h=>k bs n l w3 hn al hl (by omega) x3
 have h:t < (n:Int):=h
 refine If.dec (fun h2=>?_) fun h2=>?_
 .refine Ar.i64 (by omega) (Ar.i64 (by omega) (Ar.i64 (by omega) ((hk.no x3).cutI (by omega) (by omega) (by omega) fun kb ko kc hc=>⟨by show 4<=(4 * t+4 - 4 * t).toNat; omega,Nn.mk ?_⟩)))
  have hB:∀ j,j < 4->By (kl.getD ((4 * t).toNat+j) 0):=fun j hj=>hkB.at (by omega)
  have hc':∀ j:Nat,j < 4->Cell w3 ((⟨kb,ko,none⟩ : Addr).add j) (.int .u8 (kl.getD ((4 * t).toNat+j) 0)):=fun j hj=>by rw [addr_add_none rfl]; exact hc j (by omega)
  refine ⟨kl.getD ((4 * t).toNat+0) 0,hc 0 (by omega),kl.getD ((4 * t).toNat+1) 0,hc' 1 (by decide),kl.getD ((4 * t).toNat+2) 0,hc' 2 (by decide),kl.getD ((4 * t).toNat+3) 0,hc' 3 (by decide),Ix.arr (by omega) (by omega) ⟨rfl,?_⟩⟩
  refine al.stAt (vs:=[_,_,_,_]) (by rw [hl]; show t.toNat * 4+4<=_; omega) fun w4 l4 h4 hB4 a4 x4=>Ar.i64 (by omega) ⟨m - 1,by omega,by omega,by omega,x3.out x4 (by omega),l4,by omega,hB4 hlB ?_,a4⟩
  exact (B8.nil.cons (hB 3 (by decide))).cons (hB 2 (by decide)) |>.cons (hB 1 (by decide)) |>.cons (hB 0 (by decide))
 refine Ar.i64 (by omega) (Ix.arr (by omega) (by omega) ?_)
 have hB:∀ j,j < 4->By (l.getD ((t - 1).toNat * 4+j) 0):=fun j hj=>hlB.at (by omega)
 refine ⟨l.getD ((t - 1).toNat * 4+0) 0,al.cell0 (by omega),l.getD ((t - 1).toNat * 4+1) 0,al.cellA (by omega),l.getD ((t - 1).toNat * 4+2) 0,al.cellA (by omega),l.getD ((t - 1).toNat * 4+3) 0,al.cellA (by omega),fun b w5 n5=>⟨rfl,?_⟩⟩
 have s5:=n5.at_; have z5:=n5.size; have ltx:=x3.size
 refine ArrR.stN (l':=[l.getD ((t - 1).toNat * 4+0) 0,l.getD ((t - 1).toNat * 4+1) 0,l.getD ((t - 1).toNat * 4+2) 0,l.getD ((t - 1).toNat * 4+3) 0]) (l:=[0,0,0,0]) n5.get rfl fun w6 a6 x6=>?_
 have i6:Inv w6:=⟨(x3.no n5.ext).out x6 (by omega),l,hl,hlB,(al.ext n5.ext fun h=>h).ext x6 (by omega)⟩
 have q6B:B8 [l.getD ((t - 1).toNat * 4+0) 0,l.getD ((t - 1).toNat * 4+1) 0,l.getD ((t - 1).toNat * 4+2) 0,l.getD ((t - 1).toNat * 4+3) 0]:=(B8.nil.cons (hB 3 (by decide))).cons (hB 2 (by decide)) |>.cons (hB 1 (by decide)) |>.cons (hB 0 (by decide))
 have hbb:b≠bs:=by omega
 generalize l.getD ((t - 1).toNat * 4+0) 0=q0 at a6 q6B
 generalize l.getD ((t - 1).toNat * 4+1) 0=q1 at a6 q6B
 generalize l.getD ((t - 1).toNat * 4+2) 0=q2 at a6 q6B
 generalize l.getD ((t - 1).toNat * 4+3) 0=q3 at a6 q6B
 have by0:By q0:=q6B _ (by simp)
 have by1:By q1:=q6B _ (by simp)
 have by2:By q2:=q6B _ (by simp)
 have by3:By q3:=q6B _ (by simp)
 have hge:w1.heap.size<=b:=by omega
 refine ⟨fun w'=>Inv w'/\∃ q,q.length=4/\B8 q/\ArrR w'.heap b 463 .u8 q,⟨by omega,Nm.mk (If.beq (fun _=>?_) fun _=>?_)⟩,?_⟩
 .have hd:Int.tdiv t (kz:Int)=t / (kz:Int):=tdiv_nat (by omega)
  have hd2:1<=t / (kz:Int)/\t / (kz:Int)<=60:=by rcases hkz with rfl | rfl <;> omega
  refine ⟨Ext No w6,(Ext.refl _ _).drew,by decide,by decide,q1,a6.held (fun h=>h) (t:=1) (by decide) (by simp),by omega,?_⟩
  rw [hd]
  refine Ar.i64 (by omega) (Ar.i64 (by omega) (Ar.u32 (by omega) ⟨by decide,by decide,q2,a6.held (fun h=>h) (t:=2) (by decide) (by simp),by decide,by decide,q3,a6.held (fun h=>h) (t:=3) (by decide) (by simp),by decide,by decide,q0,a6.held (fun h=>h) (t:=0) (by decide) (by simp),?_⟩))
  refine sub_spec by1 fun r w7 hr x7=>⟨x7.drew_left,power_spec ⟨by omega,by omega⟩ (by omega) fun r1 hr1=>⟨x7.drew_left,Nm.mk (sub_spec by2 fun r2 w9 hr2 x9=>⟨x7.drew_left.no x9,sub_spec by3 fun r3 w10 hr3 x10=>⟨(x7.drew_left.no x9).no x10,sub_spec by0 fun r4 w11 hr4 x11=>?_⟩⟩)⟩⟩
  have x61:Ext No w6 w11:=((x7.drew_left.no x9).no x10).no x11
  refine ⟨x61,_,_,_,_,w11,bld463,x61,rfl,?_⟩
  have i11:=inv_no i6 x61
  refine ArrR.stN (l':=[_,r2,r3,r4]) (a6.ext x61 fun h=>h) rfl fun w13 a13 x13=>⟨⟨i11.1.out x13 hge,?_⟩,_,rfl,?_,a13⟩
  .obtain ⟨l',o1,o2,o3⟩:=i11.2; exact ⟨l',o1,o2,o3.ext x13 (Ne.symm hbb)⟩
  .exact (B8.nil.cons hr4).cons hr3 |>.cons hr2 |>.cons (bitI_by _ _ _)
 .refine ⟨fun _ w'=>w'=w6,If.beq (fun _=>⟨by decide,Nm.mk rfl⟩) (fun _=>rfl),?_⟩
  rintro _ t1 w14 rfl
  refine If.cases (fun _=>?_) fun _=>⟨i6,_,rfl,q6B,a6⟩
  refine ⟨Ext No w14,(Ext.refl _ _).drew,by decide,by decide,q0,a6.held (fun h=>h) (t:=0) (by decide) (by simp),by decide,by decide,q1,a6.held (fun h=>h) (t:=1) (by decide) (by simp),by decide,by decide,q2,a6.held (fun h=>h) (t:=2) (by decide) (by simp),by decide,by decide,q3,a6.held (fun h=>h) (t:=3) (by decide) (by simp),?_⟩
  refine sub_spec by0 fun r w7 hr x7=>⟨x7.drew_left,sub_spec by1 fun r2 w9 hr2 x9=>⟨x7.drew_left.no x9,sub_spec by2 fun r3 w10 hr3 x10=>⟨(x7.drew_left.no x9).no x10,sub_spec by3 fun r4 w11 hr4 x11=>?_⟩⟩⟩
  have x61:Ext No w14 w11:=((x7.drew_left.no x9).no x10).no x11
  refine ⟨x61,_,_,_,_,w11,bld463,x61,rfl,?_⟩
  have i11:=inv_no i6 x61
  refine ArrR.stN (l':=[r,r2,r3,r4]) (a6.ext x61 fun h=>h) rfl fun w13 a13 x13=>⟨⟨i11.1.out x13 hge,?_⟩,_,rfl,?_,a13⟩
  .obtain ⟨l',o1,o2,o3⟩:=i11.2; exact ⟨l',o1,o2,o3.ext x13 (Ne.symm hbb)⟩
  .exact (B8.nil.cons hr4).cons hr3 |>.cons hr2 |>.cons hr
 .rintro _ w21 ⟨i21,q,hq,hqB,aq⟩
  refine ⟨fun m' t' w'=>t'=4 - (m':Int)/\m'<=4/\Inv w'/\ArrR w'.heap b 463 .u8 q,⟨4,by omega,by omega,i21,aq⟩,?_⟩
  rintro _ m2 t2 w22 ⟨ht2,hm2,i22,aq2⟩
  refine If.dec (fun h3=>?_) fun h3=>Ar.i64 (by omega) ⟨m - 1,by omega,by omega,by omega,i22⟩
  obtain ⟨x22,l2,hl2,hl2B,al2⟩:=i22
  have e1:∀ i:Int,0<=i->i < n->i.toNat * 4+t2.toNat < l2.length:=fun i h1 h2=>by omega
  refine ⟨Ext No w22,(Ext.refl _ _).drew,by omega,by omega,_,aq2.held (fun h=>h) (by omega) (by omega),Ar.i64 (by omega) (Ix.arr (by omega) (by omega) ⟨by omega,by omega,l2.getD ((t - (kz:Int)).toNat * 4+t2.toNat * 1) 0,al2.heldA (fun h=>h) (by have:=e1 (t - kz) (by omega) (by omega); omega),Nm.mk (Ix.arr (by omega) (by omega) ⟨by omega,by omega,?_⟩)⟩)⟩
  have ad:ArrR (drewW w22).heap bs 463 .u8 l2:=al2
  have lt22:=x22.size
  have ltbs:=al2.lt
  have hlt:=e1 t (by omega) (by omega)
  rw [addr_add_none rfl]
  refine ArrR.st0 ad (by show t.toNat * 4+t2.toNat * 1 < _; omega) fun w23 a23 x23=>?_
  have x23:Ext (fun i=>i=bs) (drewW w22) w23:=x23
  exact Ar.i64 (by omega) ⟨m2 - 1,by omega,by omega,by omega,⟨x22.drew.out x23 (by omega),_,by simpa using hl2,hl2B.set (bitI_by _ _ _) _,a23⟩,(show ArrR (drewW w22).heap b 463 .u8 q from aq2).ext x23 hbb⟩
end
end Go.Proofs.YtmbckodpbdlblaaGreat
namespace Go.V
section
variable {w w':Wd} {s:Sl} {ks:IntKind} {l:List Int} {sz:Nat}
theorem Rd.cutN(r:Rd w.heap s sz (l.map (Value.int ks))){lo hi:Int}{K:Sl->Prop}(h0:0<=lo)(h1:lo<=hi)(h2:hi<=(s.len:Int))
  (hk:∀ s',Rd w.heap s' sz (((l.drop (lo.toNat * sz)).take ((hi - lo).toNat * sz)).map (Value.int ks))->s'.len=(hi - lo).toNat->K s'):Cut s lo hi (((s.cap:Nat):Int)) sz K:=by
 have hcap:=r.cap
 refine Cut.mk h0 h1 (by omega) (Int.le_refl _) (hk _ ?_ rfl)
 have:=r.cut (lo:=lo.toNat) (hi:=hi.toNat) (mx:=s.cap) (by omega) (by omega) (by omega)
 have e1:hi.toNat - lo.toNat=(hi - lo).toNat:=by omega
 have e2:s.cap - lo.toNat=((s.cap:Int) - lo).toNat:=by omega
 rw [e1,e2] at this
 simpa [List.map_take,List.map_drop] using this
theorem ArrR.rdN{b n:Nat}{T:TypeId}(a:ArrR w.heap b T ks l)(h:l.length=n * sz):Rd w.heap ⟨some ⟨b,0,none⟩,n,n⟩ sz (l.map (Value.int ks)):=by
 refine ⟨by simpa using h,Nat.le_refl _,fun _=>⟨b,0,rfl,fun i hi=>?_⟩,fun v hv=>oneC_ints v hv⟩
 have hi':i < l.length:=by simpa using hi
 have:=a.cell0 hi'
 unfold Cell at this
 rw [cell_eq] at this
 rw [Nat.zero_add,this]
 simp [List.getD_eq_getElem?_getD,List.getElem?_eq_getElem hi']
end
end Go.V
namespace Go.Proofs.YtmbckodpbdlblaaGreat
open Go.V
def CipR(w:Wd)(c:Nat):Prop:=∃ (bs n:Nat) (wl tbl:List Int),(n=44∨n=60)/\wl.length=n * 4/\tbl.length=512/\B8 tbl/\ArrR w.heap bs 463 .u8 wl/\w.heap[c]? = some (.cells (Value.slice (some ⟨bs,0,none⟩) n n::tbl.map (Value.int .u8)).toArray 386 (0,0))
section
variable {w w':Wd}
theorem CipR.no{c:Nat}(h:CipR w c)(x:Ext No w w'):CipR w' c:=by
 obtain ⟨bs,n,wl,tbl,h1,h2,h3,h4,h5,h6⟩:=h
 exact ⟨bs,n,wl,tbl,h1,h2,h3,h4,h5.ext x fun h=>h,by rw [x.blk c (Array.getElem?_eq_some_iff.1 h6).1 fun h=>h]; exact h6⟩
theorem tabSt{b o:Nat}{v:Value}{T:TypeId}{tbl:List Int}{z:Int}{K:Wd->Prop}(h:w.heap[b]? = some (.cells (v::tbl.map (Value.int .u8)).toArray T (0,0)))(ho:o < tbl.length)
  (hk:∀ w',w'.heap[b]? = some (.cells (v::(tbl.set o z).map (Value.int .u8)).toArray T (0,0))->Ext (·=b) w w'->K w'):St1 w ⟨b,o+1,none⟩ (.int .u8 z) K:=by
 refine St1.mk (cs:=v::tbl.map (Value.int .u8)) h (by simp; omega) rfl fun w' hw=>hk w' ?_ hw.ext
 have:=hw.get h
 rwa [List.set_cons_succ,<- List.map_set] at this
theorem CipR.tab{c:Nat}(h:CipR w c):TabR w c 1:=by
 obtain ⟨bs,n,wl,tbl,h1,h2,h3,h4,h5,h6⟩:=h
 intro i hi
 refine ⟨tbl.getD i 0,h4.at (by omega),Held.cell (Cell.lst h6 ?_)⟩
 rw [Nat.add_comm,List.getElem?_cons_succ,List.getElem?_map,List.getElem?_eq_getElem (show i < tbl.length by omega)]
 simp [List.getD_eq_getElem?_getD,List.getElem?_eq_getElem (show i < tbl.length by omega)]
theorem aesNew_spec{key:Sl}{kl:List Int}{K:Option Addr->Int->Wd->Prop}(hk:Rd w.heap key 1 (kl.map (Value.int .u8)))(hkB:B8 kl)(hlen:key.len=16∨key.len=32)
  (k:∀ c w',CipR w' c->w.heap.size<=c->Ext No w w'->K (some ⟨c,0,none⟩) 0 w'):C_aes_New key w K:=by
 apply S_aes_New
 refine words_spec hk hkB hlen fun bs n wl w1 hn a hl hbs x1=>If.bne (fun h=>absurd rfl h) fun _=>?_
 refine fun b w2 n2=>?_
 have s2:=n2.at_; have z2:=n2.size; have lt1:=x1.size; have ltb:=a.lt
 refine ⟨fun m t w'=>t=256 - (m:Int)/\m<=256/\Ext No w w'/\ArrR w'.heap bs 463 .u8 wl/\∃ tbl,tbl.length=512/\B8 tbl/\w'.heap[b]? = some (.cells (Value.slice (some ⟨bs,0,none⟩) n n::tbl.map (Value.int .u8)).toArray 386 (0,0)),
  ⟨256,by omega,by omega,x1.no n2.ext,a.ext n2.ext fun h=>h,List.replicate 512 0,by simp,B8.zeros _,by have:=n2.get; rw [List.map_replicate]; exact this⟩,?_⟩
 rintro _ m t w3 ⟨ht,hm,x3,a3,tbl,htl,htB,ht3⟩
 refine If.dec (fun h=>?_) fun h=>k b w3 ⟨bs,n,wl,tbl,hn,hl,htl,htB,a3,ht3⟩ (by omega) x3
 refine Ar.u8 (by omega) (sub_spec ⟨by omega,by omega⟩ fun r w4 hr x4=>Nn.mk ⟨by omega,by omega,?_⟩)
 have hbs':bs≠b:=by omega
 have lt3:=x3.size; have lt4:=x4.size
 have ht4:w4.heap[b]? = some (.cells (Value.slice (some ⟨bs,0,none⟩) n n::tbl.map (Value.int .u8)).toArray 386 (0,0)):=by rw [x4.blk b (Array.getElem?_eq_some_iff.1 ht3).1 fun h=>h]; exact ht3
 rw [addr_add_none rfl]
 show St1 w4 ⟨b,0+1+t.toNat * 1,none⟩ _ _
 rw [show 0+1+t.toNat * 1=t.toNat+1 by omega]
 refine tabSt ht4 (by omega) fun w5 ht5 x5=>Ar.u8 (by omega) (Nn.mk ⟨hr.1,by have:=hr.2; omega,?_⟩)
 rw [addr_add_none rfl]
 show St1 w5 ⟨b,0+257+r.toNat * 1,none⟩ _ _
 rw [show 0+257+r.toNat * 1=(256+r.toNat)+1 by omega]
 have:=hr.1; have:=hr.2
 refine tabSt ht5 (by simp; omega) fun w6 ht6 x6=>Ar.i64 (by omega) ⟨m - 1,by omega,by omega,by omega,((x3.no x4).out x5 (by omega)).out x6 (by omega),((a3.ext x4 fun h=>h).ext x5 hbs').ext x6 hbs',_,by simpa using htl,(htB.set hr _).set ⟨by omega,by omega⟩ _,ht6⟩
theorem enc_loop{cb b1 b2:Nat}{R:Int}{l:List Int}{K:List Int->Int->Wd->Prop}(w0:Wd)(hc:CipR w0 cb)(hR:∃ bs n:Nat,∃ wl:List Int,(n:Int)=4 * (R+1)/\1<=R/\R<=20/\wl.length=n * 4/\ArrR w0.heap bs 463 .u8 wl/\Held (Ext No w0) ⟨cb,0,none⟩ (.slice (some ⟨bs,0,none⟩) n n))
  (x:Ext No w0 w) (h1:w0.heap.size<=b1) (h2:w0.heap.size<=b2) (hb:b1≠b2) (hl:St16 l) (a:ArrR w.heap b2 388 .u8 l) (a1:ArrR w.heap b1 294 .u8 (List.replicate 16 0)) (k:∀ r w',St16 r->Ext No w0 w'->K r 0 w') :
  ∃ I0:Nat->Int->Wd->Prop,(∃ m,I0 m 1 w)/\∀(_:Env)(m0:Nat)(j:Int)(w8:Wd),I0 m0 j w8 ->
  If (decide (j<=R)) (
  ∃ S:Wd->Prop,S (drewW w8) /\
  ∃ l_3:List Int,l_3.length=16/\RowC (Held S) (Addr.mk b2 0 none) 0 .u8 l_3 /\
  Nn (some ⟨cb,0,none⟩) fun a_2 =>
  C_aes_state_each l_3 (some (a_2.add 1)) (drewW w8) fun r0_2 w9 =>
  S w9 /\
  C_aes_state_shift r0_2 1 w9 fun r0_3 w10 =>
  S w10 /\
  List.length (α:=Value) (List.map (Value.int .u8) r0_3++[])=16/\StN w10 (Addr.mk b2 0 none) (List.map (Value.int .u8) r0_3++[]) fun w11 =>
  ∃ J0:Wd->Prop,(
  If (decide (j < R)) (
  ∃ l_4:List Int,l_4.length=16/\RowC (Cell w11) (Addr.mk b2 0 none) 0 .u8 l_4 /\
  C_aes_state_columns l_4 (.func (.func 287) #[] #[]) w11 fun r0_4 w12 =>
  List.length (α:=Value) (List.map (Value.int .u8) r0_4++[])=16/\StN w12 (Addr.mk b2 0 none) (List.map (Value.int .u8) r0_4++[]) fun w13 =>
  J0 w13) (
  J0 w11))/\∀(_:Env)(w14:Wd),J0 w14 ->
  ∃ S:Wd->Prop,S (drewW w14) /\
  ∃ l_5:List Int,l_5.length=16/\RowC (Held S) (Addr.mk b2 0 none) 0 .u8 l_5 /\
  Nn (some ⟨cb,0,none⟩) fun a_3 =>
  ∃ vv_2:Sl,Held S a_3 (.slice vv_2.a vv_2.len vv_2.cap) /\
  Ar .i64 (4 * j) fun z_2 =>
  Ar .i64 (4 * j) fun z_3 =>
  Ar .i64 (z_3+4) fun z_4 =>
  Cut vv_2 z_2 z_4 (((vv_2.cap:Nat):Int)) 4 fun s_1 =>
  C_aes_state_add l_5 s_1 (drewW w14) fun r0_5 w15 =>
  S w15 /\
  List.length (α:=Value) (List.map (Value.int .u8) r0_5++[])=16/\StN w15 (Addr.mk b2 0 none) (List.map (Value.int .u8) r0_5++[]) fun w16 =>
  Ar .i64 (j+1) fun z_5 =>
  ∃ m1,m1 < m0/\I0 m1 z_5 w16) (
  ∃ l_6:List Int,l_6.length=16/\RowC (Cell w8) (Addr.mk b2 0 none) 0 .u8 l_6 /\
  List.length (α:=Value) (List.map (Value.int .u8) l_6++[])=16/\StN w8 (Addr.mk b1 0 none) (List.map (Value.int .u8) l_6++[]) fun w17 =>
  ∃ l_7:List Int,l_7.length=16/\RowC (Cell w17) (Addr.mk b1 0 none) 0 .u8 l_7 /\
  RowR .u8 16 (List.map (Value.int .u8) l_7++[]) fun l_8 vs_1=>getCS [] vs_1 (K l_8) fun Kv_1 =>
  Kv_1 0 w17):=by
 obtain ⟨bs,n,wl,hn,hR1,hR2,hwl,hw,hh⟩:=hR
 let Inv:Wd->Prop:=fun w'=>Ext No w0 w'/\ArrR w'.heap b1 294 .u8 (List.replicate 16 0)/\∃ l,St16 l/\ArrR w'.heap b2 388 .u8 l
 have st:∀{u u' u2:Wd}{q:List Int}{K':Wd->Prop},Inv u->Ext No u u'->St16 q->(∀ u2,Inv u2->ArrR u2.heap b2 388 .u8 q->K' u2)->List.length (α:=Value) (List.map (Value.int .u8) q++[])=16/\StN u' (Addr.mk b2 0 none) (List.map (Value.int .u8) q++[]) K':=fun {u u' u2 q K'} h x hq hk=>by
  obtain ⟨h1',h2',l',h3',h4'⟩:=h
  refine ⟨by rw [List.append_nil,List.length_map]; exact hq.1,(h4'.ext x fun h=>h).stN (by rw [hq.1,h3'.1]) fun u3 a3 x3=>hk u3 ⟨(h1'.no x).out x3 h2,(h2'.ext x fun h=>h).ext x3 hb,q,hq,a3⟩ a3⟩
 refine ⟨fun m t w'=>t=R+1 - (m:Int)/\m<=R.toNat/\Inv w',⟨R.toNat,by omega,Nat.le_refl _,x,a1,l,hl,a⟩,?_⟩
 rintro _ m t w8 ⟨ht,hm,i8⟩
 have i8':=i8
 obtain ⟨x8,a18,l8,hl8,a8⟩:=i8
 refine If.dec (fun h=>?_) fun h=>?_
 .refine ⟨Ext No w8,(Ext.refl _ _).drew,l8,hl8.1,a8.rowH fun h=>h,Nn.mk (each_spec (tb:=cb) (o:=1) hl8 (TabR.no hc.tab x8.drew) fun r w9 hr x9=>⟨x9.drew_left,shift_spec hr fun r2 w10 hr2 x10=>⟨x9.drew_left.no x10,?_⟩⟩)⟩
  refine st (u2:=w8) i8' (x9.drew_left.no x10) hr2 fun w11 i11 a11=>?_
  refine ⟨fun w'=>Inv w',If.dec (fun _=>⟨r2,hr2.1,a11.row,columns_spec hr2 fun r3 w12 hr3 x12=>st (u2:=w8) i11 x12 hr3 fun w13 i13 _=>i13⟩) fun _=>i11,?_⟩
  rintro _ w14 i14
  have i14':=i14
  obtain ⟨x14,a114,l14,hl14,a14⟩:=i14
  refine ⟨Ext No w14,(Ext.refl _ _).drew,l14,hl14.1,a14.rowH fun h=>h,Nn.mk ⟨⟨some ⟨bs,0,none⟩,n,n⟩,fun u hu=>hh u (x14.no hu),Ar.i64 (by omega) (Ar.i64 (by omega) (Ar.i64 (by omega) ?_))⟩⟩
  have hwd:ArrR (drewW w14).heap bs 463 .u8 wl:=(hw.ext x14.drew fun h=>h)
  refine (hwd.rdN hwl).cutN (by omega) (by omega) (by show 4 * t+4<=(n:Int); omega) fun s' hs' hsl=>?_
  refine addKey_spec hl14 hs' (by rw [hsl]; simp; omega) (by omega) fun r4 w15 hr4 x15=>⟨x15.drew_left,?_⟩
  exact st (u2:=w8) i14' x15.drew_left hr4 fun w16 i16 _=>Ar.i64 (by omega) ⟨m - 1,by omega,by omega,by omega,i16⟩
 .refine ⟨l8,hl8.1,a8.row,by rw [List.append_nil,List.length_map]; exact hl8.1,a18.stN (by rw [hl8.1]; simp) fun w17 a17 x17=>⟨l8,hl8.1,a17.row,RowR.mk hl8.1 (k l8 w17 hl8 (x8.out x17 h1))⟩⟩
theorem encrypt_spec{cb:Nat}{b0:List Int}{K:List Int->Int->Wd->Prop}(hc:CipR w cb)(hb:St16 b0)(k:∀ r w',St16 r->Ext No w w'->K r 0 w'):C_aes_Cipher_Encrypt (some ⟨cb,0,none⟩) b0 w K:=by
 apply S_aes_Cipher_Encrypt
 refine fun b w1 n1 b1 w2 n2=>If.no (Nn.mk ?_)
 have s1:=n1.at_; have s2:=n2.at_; have z1:=n1.size; have z2:=n2.size
 have x2:Ext No w w2:=n1.ext.no n2.ext
 have hc2:=hc
 obtain ⟨bs,n,wl,tbl,hn,hwl,h3,h4,hw0,h60⟩:=hc2
 have hw:ArrR w2.heap bs 463 .u8 wl:=hw0.ext x2 fun h=>h
 have h6:w2.heap[cb]? = some (.cells (Value.slice (some ⟨bs,0,none⟩) n n::tbl.map (Value.int .u8)).toArray 386 (0,0)):=by rw [x2.blk cb (Array.getElem?_eq_some_iff.1 h60).1 fun h=>h]; exact h60
 have hh:Held (Ext No w2) ⟨cb,0,none⟩ (.slice (some ⟨bs,0,none⟩) n n):=Held.cell (Cell.lst h6 rfl)
 have e4:Int.tdiv ((n:Int)) 4=(n:Int) / 4:=tdiv_nat (by omega)
 refine ⟨⟨some ⟨bs,0,none⟩,n,n⟩,Cell.lst h6 rfl,by decide,?_⟩
 show Ar .i64 (Int.tdiv ((n:Int)) 4) _
 rw [e4]
 have a0:ArrR w2.heap b 294 .u8 b0:=(ArrR.new n1).ext n2.ext fun h=>h
 have a1:ArrR w2.heap b1 294 .u8 (List.replicate 16 0):=n2.get
 refine Ar.i64 (by omega) (Ar.i64 (by omega) ⟨Ext No w2,(Ext.refl _ _).drew,b0,hb.1,a0.rowH (fun h=>h),Nn.mk ⟨⟨some ⟨bs,0,none⟩,n,n⟩,hh,?_⟩⟩)
 have hwd:ArrR (drewW w2).heap bs 463 .u8 wl:=hw
 refine (hwd.rdN hwl).cutN (by decide) (by decide) (by show (4:Int)<=(n:Int); omega) fun s' hs' hsl=>?_
 have lt1:=a1.lt
 have hR1:∃ bs n':Nat,∃ wl:List Int,(n':Int)=4 * (((n:Int) / 4 - 1)+1)/\1<=(n:Int) / 4 - 1/\(n:Int) / 4 - 1<=20/\wl.length=n' * 4/\ArrR w.heap bs 463 .u8 wl/\Held (Ext No w) ⟨cb,0,none⟩ (.slice (some ⟨bs,0,none⟩) n' n'):=⟨bs,n,wl,by rcases hn with rfl | rfl <;> rfl,by omega,by omega,hwl,hw0,Held.cell (Cell.lst h60 rfl)⟩
 constructor
 .refine addKey_spec hb hs' (by rw [hsl]; simp; omega) (by rw [hsl]; decide) fun r w5 hr x5=>⟨x5.drew_left,fun b2 w6 n6=>⟨x5.drew_left.no n6.ext,by rw [List.append_nil,List.length_map]; exact hr.1,?_⟩⟩
  have s6:=n6.at_; have lt5:=x5.size; have e5:(drewW w2).heap.size=w2.heap.size:=rfl
  refine ArrR.stN (l:=List.replicate 16 0) n6.get (by rw [hr.1]; rfl) fun w7 a7 x7=>?_
  refine enc_loop w hc hR1 (((x2.no x5.drew_left).no n6.ext).out x7 (by omega)) (by omega) (by omega) (by omega) hr a7 ?_ k
  exact (((a1.ext x5.drew_left fun h=>h).ext n6.ext fun h=>h)).ext x7 (by omega)
 .refine fun b2 w6 n6=>⟨n6.ext.drew_left,addKey_spec hb (hs'.no n6.ext) (by rw [hsl]; simp; omega) (by rw [hsl]; decide) fun r w5 hr x5=>⟨n6.ext.drew_left.no x5,by rw [List.append_nil,List.length_map]; exact hr.1,?_⟩⟩
  have s6:=n6.at_; have lt5:=x5.size; have e5:(drewW w2).heap.size=w2.heap.size:=rfl
  refine ArrR.stN (l:=List.replicate 16 0) ((show ArrR w6.heap b2 388 .u8 (List.replicate 16 0) from n6.get).ext x5 fun h=>h) (by rw [hr.1]; rfl) fun w7 a7 x7=>?_
  refine enc_loop w hc hR1 (((x2.no n6.ext.drew_left).no x5).out x7 (by omega)) (by omega) (by omega) (by omega) hr a7 ?_ k
  exact (((a1.ext n6.ext.drew_left fun h=>h).ext x5 fun h=>h)).ext x7 (by omega)
end
end Go.Proofs.YtmbckodpbdlblaaGreat
namespace Go.V
def be:Nat->Int->List Int
 | 0,_=>[]
 | k+1,n=>be k (n / 256)++[n % 256]
theorem be_len:∀(k:Nat)(n:Int),(be k n).length=k
 | 0,_=>rfl
 | k+1,n=>by simp [be,be_len k]
theorem be_b8:∀(k:Nat)(n:Int),B8 (be k n)
 | 0,_=>B8.nil
 | k+1,n=>(be_b8 k _).append (B8.cons (by omega) B8.nil)
def num(l:List Int):Int:=l.foldl (fun n x=>n * 256+x) 0
theorem num_snoc(l:List Int)(x:Int):num (l++[x])=num l * 256+x:=by simp [num]
theorem numF_bd:∀(l:List Int)(a:Int),B8 l->0<=a->0<=l.foldl (fun n x=>n * 256+x) a/\l.foldl (fun n x=>n * 256+x) a < (a+1) * 256 ^ l.length
 | [],a,_,h=>by simp; omega
 | x::l,a,h8,h=>by
  have hx:=h8 x List.mem_cons_self
  have ih:=numF_bd l (a * 256+x) (h8.sub fun _ h=>List.mem_cons_of_mem _ h) (by omega)
  rw [List.foldl_cons,List.length_cons,Int.pow_succ]
  refine ⟨ih.1,Int.lt_of_lt_of_le ih.2 ?_⟩
  rw [Int.mul_comm (256 ^ l.length) 256,<- Int.mul_assoc]
  exact Int.mul_le_mul_of_nonneg_right (by omega) (Int.le_of_lt (Int.pow_pos (by omega)))
theorem num_nonneg{l:List Int}(h:B8 l):0<=num l:=(numF_bd l 0 h (by omega)).1
theorem num_be:∀(k:Nat){n:Int},0<=n->n < 256 ^ k->num (be k n)=n
 | 0,n,h0,h1=>by simp at h1; simp [be,num]; omega
 | k+1,n,h0,h1=>by
  have e:(256:Int) ^ (k+1)=256 ^ k * 256:=Int.pow_succ _ _
  rw [be,num_snoc,num_be k (by omega) (by omega)]
  omega
theorem num_lt{l:List Int}(h:B8 l):num l < 256 ^ l.length:=by have:=(numF_bd l 0 h (by omega)).2; simpa [num] using this
theorem bitI_or_low{n x:Int}(hn:0<=n)(hx:0<=x/\x<=255)(hb:n * 256+x<=18446744073709551615):bitI .or .u64 (n * 256) x=n * 256+x:=by
 have h:=bitI_or_add (n:=x) (x:=n) (i:=8) ⟨hx.1,by omega⟩ hn (by omega)
 have e:(2:Int) ^ 8=256:=rfl
 rw [e] at h
 rw [bitI_or_u64 ⟨by omega,by omega⟩ ⟨by omega,by omega⟩] at h ⊢
 rw [Nat.or_comm]
 rw [h]; omega
theorem bitI_or_u8_zero{a b:Int}(ha:0<=a/\a<=255)(hb:0<=b/\b<=255):0<=bitI .or .u8 a b/\bitI .or .u8 a b<=255/\(bitI .or .u8 a b=0 ↔ a=0/\b=0):=by
 have hA:(BitVec.ofInt 8 a).toNat=a.toNat:=ofInt_toNat ha.1 (by omega)
 have hB:(BitVec.ofInt 8 b).toNat=b.toNat:=ofInt_toNat hb.1 (by omega)
 have e:bitI .or .u8 a b=((a.toNat ||| b.toNat:Nat):Int):=by
  show IntKind.u8.wrap ((BitVec.ofInt 8 a ||| BitVec.ofInt 8 b).toNat:Int)=_
  rw [BitVec.toNat_or,hA,hB]
  refine IntWalk.u8_in _ ⟨by omega,?_⟩
  have:a.toNat ||| b.toNat < 2 ^ 8:=Nat.or_lt_two_pow (by omega) (by omega)
  omega
 have hlt:a.toNat ||| b.toNat < 2 ^ 8:=Nat.or_lt_two_pow (by omega) (by omega)
 refine ⟨by omega,by omega,?_⟩
 rw [e]
 have:(a.toNat ||| b.toNat=0) ↔ a.toNat=0/\b.toNat=0:=Nat.or_eq_zero_iff
 omega
theorem zeroCells_one(z:Value)(n:Nat):Builtin.zeroCells #[z] n=(List.replicate n z).toArray:=by
 apply Array.toList_inj.1
 simp only [Builtin.zeroCells,Array.toList_map,Array.toList_range]
 apply List.ext_getElem (by simp)
 intro i h1 h2
 simp [Nat.mod_one]
theorem app_zero{P:Program}{t t' e:TypeId}{k:IntKind}{ie:TypeInfo}{z:Value}{w:Wd}{base:Nat}{s:Sl}{n:Nat}{cs:List Value}{K:Sl->Wd->Prop}
  (ht:P.underlying t=some (.slice e)) (ht':P.underlying t'=some (.int k)) (hi:P.info? e=some ie) (hz:ie.zero=some z) (hsz:ie.size=1) (hzs:z.cells=#[z]) (hz1:oneC z=true) (hby:ie.bytes=1)
  (own:Own w.heap base e 1 s cs) (hbase:base<=w.heap.size) (hb:s.len+n<=140737488355328)
  (hk:∀ s' w',Own w'.heap base e 1 s' (cs++List.replicate n z)->s'.len=s.len+n->Ext (fun b=>s.blk=some b) w w'->(s'.blk=s.blk∨∃ b,s'.blk=some b/\w.heap.size<=b)->K s' w'):AppW P t t' s (.int .i64 n) K w:=by
 have rd:=own.rd
 have hlen:=own.len
 simp only [Nat.mul_one] at hlen
 have hwr:IntKind.i64.wrap (n:Int)=n:=IntWalk.i64_in _ ⟨by omega,by omega⟩
 have hap:∀ w':Wd,((if n=0 then pure #[] else do pure (Builtin.zeroCells (<- zeroValue e).cells n)):Sem (Array Value)).run P w' = .ok (List.replicate n z).toArray w':=fun w'=>by
  by_cases h0:n=0
  .subst h0; simp
  .simp only [if_neg h0,Sem.run_bind,run_zero hi hz,Result.andThen_ok,hzs,zeroCells_one,Sem.run_pure]
 have h48:¬ (281474976710656 < (n:Int)):=by omega
 have hn0:¬ ((n:Int) < 0):=by omega
 by_cases hfit:s.len+n<=s.cap
 .rcases own.is with ⟨rfl,rfl⟩ | ⟨b,rest,ha,hle,hblk,hl,hc⟩
  .have hn:n=0:=by simp at hfit; omega
   subst hn
   refine ⟨⟨none,0,0⟩,w,fun ty=>?_,hk _ _ (by simpa using own) rfl (Ext.refl _ _) (.inl rfl)⟩
   have hw0:IntKind.i64.wrap 0=0:=rfl
   simp [Builtin.append_,run_und ht,run_und ht',run_size hi,hsz,asInt,asIntOf,hw0,run_info hi,hby]
  .simp only [Nat.mul_one] at hl
   have hlt:cs.length+(List.replicate n z).length<=(cs++rest).length:=by simp only [List.length_replicate]; omega
   have hst:=StN_run (P:=P) (b:=b) (T:=e) (fz:=(0,0)) (List.replicate n z) w (cs++rest).toArray cs.length 0 hblk (by simpa using hlt) (.inr (.inr (Nat.le_refl _))) (fun v hv=>by rw [List.mem_replicate] at hv; rw [hv.2]; exact hz1)
   have hset:setL (cs++rest) cs.length (List.replicate n z)=cs++(List.replicate n z++rest.drop n):=by
    rw [setL_eq _ _ _ hlt]
    simp [List.drop_append]
   refine ⟨⟨s.a,s.len+n,s.cap⟩,World.setBlk w b (.cells (cs++List.replicate n z++rest.drop n).toArray e (0,0)),fun ty=>?_,hk _ _ ?_ rfl ?_ (.inl rfl)⟩
   .obtain ⟨sa,sl,sc⟩:=s
    simp only at ha
    subst ha
    simp only at hlen hfit
    have ea:(⟨b,0,none⟩ : Addr).add sl=⟨b,cs.length,none⟩:=by rw [addr_add_none rfl,hlen]; simp
    have h1:=hap w
    simp only [Nat.add_zero] at hst
    by_cases h0:n=0
    .subst h0
     have hw0:IntKind.i64.wrap 0=0:=rfl
     simp at hst hset
     have hc2:sl<=sc:=by simpa using hfit
     simp [hc2,Builtin.append_,run_und ht,run_und ht',run_size hi,hsz,asInt,asIntOf,hw0,run_info hi,hby,ea,hst,hset]
    .simp only [if_neg h0] at h1
     simp [Builtin.append_,run_und ht,run_und ht',run_size hi,hsz,asInt,asIntOf,hwr,run_info hi,hby,hfit,ea,hst,hset,h0,run_zero hi hz,hzs,zeroCells_one,hn0,h48]
   .refine ⟨by simp; omega, .inr ⟨b,rest.drop n,ha,hle,?_,?_,hfit⟩,fun v hv=>?_⟩
    .exact heap_setBlk hblk
    .simp only [List.length_append,List.length_replicate,List.length_drop,Nat.mul_one] at hlt hl ⊢
     omega
    .rcases List.mem_append.1 hv with h | h
     .exact own.cells v h
     .rw [List.mem_replicate] at h; rw [h.2]; exact hz1
   .refine (Wrt.ext (w:=w) (b:=b) rfl).mono fun i _ hi=>?_
    subst hi; simp [Sl.blk,ha]
 .have hcap:s.cap < s.len+n:=by omega
  have hfits:=growslice_fits (bytes:=ie.bytes) hcap (by rw [hby]; omega)
  have hge:=grownCap_ge (w:=w) (need:=s.len+n) (old:=s.cap) (e:=e)
  have hold:=(rd.src (P:=P)).get (drewW w) rfl
  have hn1:n≠0:=by have:=rd.cap; omega
  refine ⟨⟨some ⟨w.heap.size,0,none⟩,s.len+n,grownCap w (s.len+n) s.cap e⟩,World.pushBlk (drewW w) (.cells (cs++(List.replicate n z++List.replicate (grownCap w (s.len+n) s.cap e - (s.len+n)) z)).toArray e),fun ty=>?_,hk _ _ ?_ rfl ?_ (.inr ⟨w.heap.size,rfl,Nat.le_refl _⟩)⟩
  .obtain ⟨sa,sl,sc⟩:=s
   simp only at hfit hfits hold hge hcap
   have hnot:¬ (Builtin.nextslicecap (sl+n) sc > 281474976710656):=by rw [hby] at hfits; omega
   have hmax:¬ ((sl:Int)+(n:Int) > IntKind.i64.max):=by
    have:IntKind.i64.max=9223372036854775807:=rfl
    simp only at hb; omega
   have hmax2:¬ (9223372036854775807 < (sl:Int)+(n:Int)):=by simp only at hb; omega
   simp [hn0,h48,hmax2,-run_choose,Builtin.append_,run_und ht,run_und ht',run_size hi,hsz,asInt,asIntOf,hwr,hfit,run_info hi,hby,hnot,run_choose_cap,hold,hn1,run_zero hi hz,hzs,zeroCells_one,run_newRow]
   refine ⟨rfl,?_⟩
   congr 2
   apply Array.toList_inj.1
   simp
  .refine ⟨by simp; omega, .inr ⟨w.heap.size,List.replicate (grownCap w (s.len+n) s.cap e - (s.len+n)) z,rfl,hbase,?_,?_,hge⟩,fun v hv=>?_⟩
   .unfold World.pushBlk drewW
    simp only [Array.getElem?_push,if_true,List.append_assoc]
   .simp only [List.length_append,List.length_replicate,hlen,Nat.mul_one]; omega
   .rcases List.mem_append.1 hv with h | h
    .exact own.cells v h
    .rw [List.mem_replicate] at h; rw [h.2]; exact hz1
  .refine ⟨rfl,rfl,rfl,by simp [World.pushBlk,drewW],fun i hi _=>?_⟩
   simp only [World.pushBlk,drewW]
   exact heap_push _ _ _ hi
theorem be_get:∀{k j:Nat}{n:Int},j < k->(be k n).getD (k - 1 - j) 0=n / 256 ^ j % 256
 | 0,j,n,h=>by omega
 | k+1,0,n,_=>by
  rw [be,List.getD_eq_getElem?_getD,List.getElem?_append_right (by rw [be_len]; omega),be_len]
  simp
 | k+1,j+1,n,h=>by
  rw [be,List.getD_eq_getElem?_getD,List.getElem?_append_left (by rw [be_len]; omega),<- List.getD_eq_getElem?_getD,show k+1 - 1 - (j+1)=k - 1 - j by omega,be_get (by omega),Int.ediv_ediv_of_nonneg (by decide),Int.pow_succ,Int.mul_comm]
theorem take_snoc{l:List Int}{j:Nat}(h:j < l.length):l.take (j+1)=l.take j++[l.getD j 0]:=by
 rw [List.take_add_one,List.getD_eq_getElem?_getD,List.getElem?_eq_getElem h]; rfl
theorem p256{j k:Nat}(h:j<=k):(256:Int) ^ j<=256 ^ k:=by
 obtain ⟨d,rfl⟩:=Nat.le.dest h
 rw [Int.pow_add]
 have h1:(0:Int) < 256 ^ d:=Int.pow_pos (by decide)
 have h2:(0:Int) < 256 ^ j:=Int.pow_pos (by decide)
 calc (256:Int) ^ j=256 ^ j * 1:=by rw [Int.mul_one]
  _<=_:=Int.mul_le_mul_of_nonneg_left (by omega) (by omega)
variable {α:Type} [DecidableEq α]
def findA(a:α):List (α×Value)->Nat->Option (Nat×Value)
 | [],_=>none
 | p::m,i=>if a=p.1 then some (i,p.2) else findA a m (i+1)
def getA(a:α):List (α×Value)->Option Value
 | []=>none
 | p::m=>if a=p.1 then some p.2 else getA a m
def putA(a:α)(v:Value):List (α×Value)->List (α×Value)
 | []=>[(a,v)]
 | p::m=>if a=p.1 then (a,v)::m else p::putA a v m
def delA(a:α):List (α×Value)->List (α×Value)
 | []=>[]
 | p::m=>if a=p.1 then m else p::delA a m
structure KeyOK(P:Program)(kt:TypeId)(enc:α->Value):Prop where
 ck:∀ b a w,(Instr.checkKey b 10000 kt (enc a)).run P w = .ok () w
 fk:∀ a (es:List MapEntry) (m:List (α×Value)) w,es.map (fun e=>(e.key,e.val))=m.map (fun p=>(enc p.1,p.2))->(Instr.findKey kt (enc a) es).run P w = .ok (findA a m 0) w
 st:∀ a,Instr.sameBits 10000 (enc a) (enc a)=true
def BornOK(es:List MapEntry)(clock:Nat):Prop:=(es.map (·.born)).Nodup/\∀ e∈es,e.born < clock
theorem BornOK.nil:BornOK [] 0:=⟨.nil,fun _ h=>nomatch h⟩
theorem BornOK.push{es:List MapEntry}{clock:Nat}(h:BornOK es clock)(k v:Value):BornOK (es++[{ key:=k,val:=v,born:=clock }]) (clock+1):=by
 refine ⟨?_,fun e he=>?_⟩
 .rw [List.map_append]
  refine List.nodup_append.2 ⟨h.1,by simp,fun a ha b hb=>?_⟩
  simp only [List.map_cons,List.map_nil,List.mem_singleton] at hb
  obtain ⟨e,he,rfl⟩:=List.mem_map.1 ha
  have:=h.2 e he; omega
 .rcases List.mem_append.1 he with h1 | h1
  .have:=h.2 e h1; omega
  .rw [List.mem_singleton] at h1; subst h1; exact Nat.lt_succ_self _
theorem BornOK.as{es es':List MapEntry}{clock:Nat}(h:BornOK es clock)(e:es'.map (·.born)=es.map (·.born)):BornOK es' clock:=by
 refine ⟨e ▸ h.1,fun x hx=>?_⟩
 have:x.born∈es.map (·.born):=e ▸ List.mem_map.2 ⟨x,hx,rfl⟩
 obtain ⟨y,hy,hb⟩:=List.mem_map.1 this
 rw [<- hb]; exact h.2 y hy
theorem BornOK.sub{es es':List MapEntry}{clock:Nat}(h:BornOK es clock)(e:es'.Sublist es):BornOK es' clock:=⟨h.1.sublist (e.map _),fun x hx=>h.2 x (e.subset hx)⟩
def MapR(h:Array Obj)(enc:α->Value)(r:Nat)(m:List (α×Value)):Prop:=∃ es clock,h[r]? = some (.map es clock)/\es.toList.map (fun e=>(e.key,e.val))=m.map (fun p=>(enc p.1,p.2))/\BornOK es.toList clock
theorem findA_get(a:α):∀(m:List (α×Value))(i:Nat),(findA a m i).map Prod.snd=getA a m
 | [],_=>rfl
 | p::m,i=>by
  unfold findA getA
  split
  .rfl
  .exact findA_get a m (i+1)
theorem findA_none{a:α}{v:Value}:∀{m:List (α×Value)}{i:Nat},findA a m i=none->putA a v m=m++[(a,v)]/\delA a m=m
 | [],_,_=>⟨rfl,rfl⟩
 | p::m,i,h=>by
  unfold findA at h
  split at h
  .cases h
  .rename_i hn
   have:=findA_none (v:=v) h
   unfold putA delA
   rw [if_neg hn,if_neg hn,this.1,this.2]
   exact ⟨rfl,rfl⟩
theorem findA_some{a:α}:∀{m:List (α×Value)}{i j:Nat}{u v:Value},findA a m i=some (j,u)->i<=j/\j - i < m.length/\putA a v m=m.set (j - i) (a,v)/\delA a m=m.eraseIdx (j - i)/\(m[j - i]?).map Prod.fst=some a
 | [],_,_,_,_,h=>by cases h
 | p::m,i,j,u,v,h=>by
  unfold findA at h
  split at h
  .rename_i hn
   cases h
   refine ⟨Nat.le_refl _,by simp,?_,?_,?_⟩
   .unfold putA; rw [if_pos hn]; simp
   .unfold delA; rw [if_pos hn]; simp
   .simp [hn]
  .rename_i hn
   obtain ⟨h1,h2,h3,h4,h5⟩:=findA_some (v:=v) h
   have e:j - i=(j - (i+1))+1:=by omega
   refine ⟨by omega,by simp; omega,?_,?_,?_⟩
   .unfold putA; rw [if_neg hn,h3,e]; rfl
   .unfold delA; rw [if_neg hn,h4,e]; rfl
   .rw [e]; simpa using h5
theorem map_eraseIdx'{β γ:Type}(f:β->γ):∀(l:List β)(i:Nat),(l.eraseIdx i).map f=(l.map f).eraseIdx i
 | [],_=>rfl
 | _::_,0=>rfl
 | x::l,i+1=>by simp [map_eraseIdx' f l i]
section
variable {P:Program} {w:Wd} {mt kt et:TypeId} {enc:α->Value} {r:Nat} {m:List (α×Value)} {a:α}
theorem run_getMap{es:Array MapEntry}{clock:Nat}(h:w.heap[r]? = some (.map es clock)):(getObj r).run P w = .ok (.map es clock) w:=by
 simp [getObj,Sem.run,h]
theorem run_setMap{es:Array MapEntry}{clock:Nat}(o:Obj)(h:w.heap[r]? = some (.map es clock)):(setObj r o).run P w = .ok () (World.setBlk w r o):=by
 simp [setObj,Sem.run,h,World.setBlk]
theorem run_lookup(K:KeyOK P kt enc)(ht:P.underlying mt=some (.map kt et)){z:Value}(hz:(zeroValue et).run P w = .ok z w)(h:MapR w.heap enc r m):(Instr.lookup mt (.map (some r)) (enc a) false).run P w = .ok ((getA a m).getD z) w:=by
 obtain ⟨es,clock,hb,he,hB⟩:=h
 have hf:=K.fk a es.toList m w he
 have hg:=findA_get a m 0
 simp only [Instr.lookup,Sem.run_bind,run_und ht,Result.andThen_ok,run_getMap hb,K.ck,hf,Sem.run_pure]
 cases hfa:findA a m 0 with
 | none=>rw [hfa] at hg; simp [<- hg,hz]
 | some p=>rw [hfa] at hg; simp [<- hg]
theorem run_mapUpdate(K:KeyOK P kt enc)(ht:P.underlying mt=some (.map kt et)){v:Value}(h:MapR w.heap enc r m):∃ w',(Instr.mapUpdate mt (.map (some r)) (enc a) v).run P w = .ok () w'/\MapR w'.heap enc r (putA a v m)/\Ext (·=r) w w'/\w'.heap.size=w.heap.size:=by
 obtain ⟨es,clock,hb,he,hB⟩:=h
 have hf:=K.fk a es.toList m w he
 cases hfa:findA a m 0 with
 | none =>
  refine ⟨World.setBlk w r (.map (es.push { key:=enc a,val:=v,born:=clock }) (clock+1)),?_,⟨_,_,heap_setBlk hb,?_,by rw [Array.toList_push]; exact hB.push _ _⟩,Wrt.ext rfl,Wrt.size rfl⟩
  .rw [hfa] at hf
   simp [Instr.mapUpdate,run_und ht,run_getMap hb,K.ck,hf,run_setMap _ hb]
  .rw [(findA_none (v:=v) hfa).1]; simp [he]
 | some p =>
  obtain ⟨j,u⟩:=p
  obtain ⟨_,h2,h3,_,h5⟩:=findA_some (v:=v) hfa
  simp only [Nat.sub_zero] at h2 h3 h5
  have hl:es.size=m.length:=by have:=congrArg List.length he; simpa using this
  have hk:((es[j]?).map (·.key)).getD (enc a)=enc a:=by
   have:=congrArg (fun l=>(l[j]?).map Prod.fst) he
   simp only [List.getElem?_map,Option.map_map] at this
   have e2:Option.map (fun x=>enc x.1) m[j]? = some (enc a):=by
    cases hm:m[j]? with
    | none=>rw [hm] at h5; cases h5
    | some q=>rw [hm] at h5; simp only [Option.map_some,Option.some.injEq] at h5 ⊢; rw [h5]
   have e3:Option.map (·.key) es[j]? = some (enc a):=by
    rw [<- e2]
    simpa [Function.comp_def] using this
   rw [e3]; rfl
  refine ⟨World.setBlk w r (.map (es.modify j fun e=>{ e with key:=enc a,val:=v }) clock),?_,⟨_,_,heap_setBlk hb,?_,hB.as ?_⟩,Wrt.ext rfl,Wrt.size rfl⟩
  .rw [hfa] at hf
   simp [Instr.mapUpdate,run_und ht,run_getMap hb,K.ck,hf,run_setMap _ hb,hk,Instr.keyThatStays,K.st]
  .rw [h3,Array.toList_modify]
   apply List.ext_getElem?
   intro i
   have hi:=congrArg (fun l=>l[i]?) he
   simp only [List.getElem?_map,List.getElem?_modify,List.getElem?_set] at hi ⊢
   by_cases hij:j=i
   .subst hij
    rw [if_pos rfl,if_pos h2,List.getElem?_eq_getElem (by simpa [hl] using h2)]
    simp
   .rw [if_neg hij]; simpa [hij] using hi
  .rw [Array.toList_modify]
   apply List.ext_getElem?
   intro i
   simp only [List.getElem?_map,List.getElem?_modify]
   by_cases hij:j=i
   .subst hij; cases es.toList[j]? <;> simp
   .simp [hij]
theorem run_delete(K:KeyOK P kt enc)(ht:P.underlying mt=some (.map kt et)){t:TypeId}(h:MapR w.heap enc r m):∃ w',(Builtin.delete_ #[mt,kt] t #[.map (some r),enc a]).run P w = .ok (.tuple #[]) w'/\MapR w'.heap enc r (delA a m)/\Ext (·=r) w w'/\w'.heap.size=w.heap.size:=by
 obtain ⟨es,clock,hb,he,hB⟩:=h
 have hf:=K.fk a es.toList m w he
 cases hfa:findA a m 0 with
 | none =>
  refine ⟨World.setBlk w r (.map es clock),?_,⟨_,_,heap_setBlk hb,?_,hB⟩,Wrt.ext rfl,Wrt.size rfl⟩
  .rw [hfa] at hf
   simp [Builtin.delete_,run_und ht,run_getMap hb,K.ck,hf,run_setMap _ hb]
  .rw [(findA_none (v := .nilFunc) hfa).2]; exact he
 | some p =>
  obtain ⟨j,u⟩:=p
  obtain ⟨_,h2,_,h4,_⟩:=findA_some (v := .nilFunc) hfa
  simp only [Nat.sub_zero] at h2 h4
  refine ⟨World.setBlk w r (.map (es.eraseIdxIfInBounds j) clock),?_,⟨_,_,heap_setBlk hb,?_,hB.sub (by rw [Array.toList_eraseIdxIfInBounds]; exact List.eraseIdx_sublist _ _)⟩,Wrt.ext rfl,Wrt.size rfl⟩
  .rw [hfa] at hf
   simp [Builtin.delete_,run_und ht,run_getMap hb,K.ck,hf,run_setMap _ hb]
  .rw [h4,Array.toList_eraseIdxIfInBounds,map_eraseIdx',he,map_eraseIdx']
omit [DecidableEq α] in
theorem MapR.ext{S:Nat->Prop}{w':Wd}(h:MapR w.heap enc r m)(x:Ext S w w')(hS:¬ S r):MapR w'.heap enc r m:=by
 obtain ⟨es,clock,hb,he,hB⟩:=h
 exact ⟨es,clock,by rw [x.blk r (by rcases Nat.lt_or_ge r w.heap.size with k | k; exact k; rw [Array.getElem?_eq_none k] at hb; cases hb) hS]; exact hb,he,hB⟩
theorem int_key{k:IntKind}(hk:P.underlying kt=some (.int k)):KeyOK P kt (fun a:Int=>Value.int k a):=by
 refine ⟨fun b a w=>?_,fun a es m w he=>?_,fun a=>by simp [Instr.sameBits]⟩
 .rw [show (10000:Nat)=9999+1 from rfl,Instr.checkKey]
  simp only [Sem.run_bind,run_und hk,Result.andThen_ok]
  rfl
 .have:∀(es:List MapEntry)(m:List (Int×Value))(i:Nat),es.map (fun e=>(e.key,e.val))=m.map (fun p=>(Value.int k p.1,p.2))->Instr.findNow (.int k) (.int k a) es i=some (findA a m i):=by
   intro es
   induction es with
   | nil=>intro m i h; cases m with | nil=>rfl | cons=>cases h
   | cons e es ih =>
    intro m i h
    cases m with
    | nil=>cases h
    | cons p m =>
     simp only [List.map_cons,List.cons.injEq,Prod.mk.injEq] at h
     unfold Instr.findNow findA
     rw [h.1.1]
     simp only [Instr.sameNow,if_true]
     by_cases hap:a=p.1
     .simp [hap,h.1.2]
     .rw [show (a == p.1)=false by simp [hap],if_neg hap]
      exact ih m (i+1) h.2
  simp [Instr.findKey,run_und hk,this es m 0 he]
theorem ba_beq(a b:ByteArray):(a == b)=decide (a=b):=by
 obtain ⟨a⟩:=a; obtain ⟨b⟩:=b
 show (a == b)=_
 by_cases h:a=b
 .subst h; simp
 .rw [decide_eq_false (by simpa using h)]; simpa using h
theorem str_key(hk:P.underlying kt=some .string):KeyOK P kt (fun a:ByteArray=>Value.string a):=by
 refine ⟨fun b a w=>?_,fun a es m w he=>?_,fun a=>by simp [Instr.sameBits,ba_beq]⟩
 .rw [show (10000:Nat)=9999+1 from rfl,Instr.checkKey]
  simp only [Sem.run_bind,run_und hk,Result.andThen_ok]
  rfl
 .have:∀(es:List MapEntry)(m:List (ByteArray×Value))(i:Nat),es.map (fun e=>(e.key,e.val))=m.map (fun p=>(Value.string p.1,p.2))->Instr.findNow .string (.string a) es i=some (findA a m i):=by
   intro es
   induction es with
   | nil=>intro m i h; cases m with | nil=>rfl | cons=>cases h
   | cons e es ih =>
    intro m i h
    cases m with
    | nil=>cases h
    | cons p m =>
     simp only [List.map_cons,List.cons.injEq,Prod.mk.injEq] at h
     unfold Instr.findNow findA
     rw [h.1.1]
     simp only [Instr.sameNow,ba_beq]
     by_cases hap:a=p.1
     .simp [hap,h.1.2]
     .simp only [hap,decide_false,if_false]
      exact ih m (i+1) h.2
  simp [Instr.findKey,run_und hk,this es m 0 he]
end
section
variable {P:Program} {w:Wd} {mt kt et:TypeId} {r it clock:Nat} {es:Array MapEntry} {seen:Array Nat}
theorem run_range(ht:P.underlying mt=some (.map kt et))(h:w.heap[r]? = some (.map es clock)):∃ w',(Instr.range mt (.map (some r))).run P w = .ok (.pointer (some ⟨w.heap.size,0,none⟩)) w'/\New w (.mapIter (some r) clock #[] clock) w.heap.size w':=by
 refine ⟨_,?_,rfl,rfl⟩
 simp [Instr.range,run_und ht,run_getMap h,newObj,Sem.run]
 rfl
theorem run_pick{n:Nat}(h:1<=n):∃ i w',(choose (.mapNext n)).run P w = .ok i w'/\i < n/\w'.heap=w.heap/\Ext No w w':=by
 rcases Nat.lt_or_ge 1 n with h1 | h1
 .refine ⟨w.tape w.drawn (.mapNext n) % n,drewW w,?_,Nat.mod_lt _ (by omega),rfl,(Ext.refl _ _).drew⟩
  simp [choose,Sem.run,Question.forced,Question.cut,drewW,show ¬ n<=1 by omega]
 .refine ⟨0,w,?_,by omega,rfl,Ext.refl _ _⟩
  simp [choose,Sem.run,Question.forced,h1]
theorem run_next(hi:w.heap[it]? = some (.mapIter (some r) clock seen clock))(h:w.heap[r]? = some (.map es clock))(hB:BornOK es.toList clock) :
  ((∀ e∈es.toList,e.born∈seen.toList)/\∃ w',(Instr.next (.pointer (some ⟨it,0,none⟩)) false 0).run P w = .ok (.tuple #[.bool false]) w'/\Ext No w w') ∨
  ∃ e∈es.toList,e.born ∉ seen.toList/\∃ w',(Instr.next (.pointer (some ⟨it,0,none⟩)) false 0).run P w = .ok (.tuple #[.bool true,e.key,e.val]) w'/\w'.heap[it]? = some (.mapIter (some r) clock (seen.push e.born) clock)/\Ext (·=it) w w':=by
 have hcond:(!seen.isEmpty && !es.isEmpty && es.all (fun e=>decide (e.born≥clock)))=false:=by
  cases he:es.isEmpty with
  | true=>simp
  | false =>
   have hne:es.size≠0:=by simpa using he
   have:es.all (fun e=>decide (e.born≥clock))=false:=by
    rw [Array.all_eq_false]
    refine ⟨0,by omega,?_⟩
    have:=hB.2 es[0] (by simp)
    simp; omega
   simp [this]
 have hgi:(getObj it).run P w = .ok (.mapIter (some r) clock seen clock) w:=by simp [getObj,Sem.run,hi]
 have hold:∀ e∈(es.filter fun e=>!seen.contains e.born),decide (e.born < clock)=true:=fun e he=>by
  have:=(Array.mem_filter.1 he).1
  have:=hB.2 e (by simpa using this)
  simpa using this
 have h1:(es.filter fun e=>!seen.contains e.born).filter (fun e=>decide (e.born < clock))=es.filter fun e=>!seen.contains e.born:=Array.filter_eq_self.2 hold
 have h2:(es.filter fun e=>!seen.contains e.born).filter (fun e=>decide (e.born≥clock))=#[]:=Array.filter_eq_empty_iff.2 fun e he=>by
  have:=hold e he
  simp at this ⊢; omega
 generalize hleft:(es.filter fun e=>!seen.contains e.born)=left at *
 rcases Nat.eq_zero_or_pos left.size with h0 | h0
 .refine .inl ⟨fun e he=>?_,?_⟩
  .have hm:e ∉ left:=by rw [Array.eq_empty_of_size_eq_zero h0]; simp
   rw [<- hleft,Array.mem_filter] at hm
   simp only [Array.mem_toList_iff] at he ⊢
   simpa [he] using hm
  .obtain ⟨i,w',hc,hlt,_,hx⟩:=run_pick (P:=P) (w:=w) (n:=1) (Nat.le_refl _)
   have hi0:i=0:=by omega
   subst hi0
   have he0:left=#[]:=Array.eq_empty_of_size_eq_zero h0
   refine ⟨w',?_,hx⟩
   simp only [Instr.next,Sem.run_bind,Result.andThen_ok,hgi,run_getMap h,hcond,Bool.false_eq_true,if_false,hleft,h1,h2]
   subst he0
   simp [hc,-run_choose]
 .obtain ⟨i,w',hc,hlt,hh,hx⟩:=run_pick (P:=P) (w:=w) (n:=left.size) h0
  have hne:left.isEmpty=false:=by simpa using (fun h=>by rw [h] at h0; simp at h0:¬ left=#[])
  have hmem:left[i]∈es.filter fun e=>!seen.contains e.born:=by rw [hleft]; exact Array.getElem_mem hlt
  have hm:=Array.mem_filter.1 hmem
  refine .inr ⟨left[i],by simpa using hm.1,by simpa using hm.2,World.setBlk w' it (.mapIter (some r) clock (seen.push left[i].born) clock),?_,?_,?_⟩
  .have hset:∀ o,(setObj it o).run P w' = .ok () (World.setBlk w' it o):=fun o=>by simp [setObj,Sem.run,World.setBlk,hh,hi]
   simp only [Instr.next,Sem.run_bind,Result.andThen_ok,hgi,run_getMap h,hcond,Bool.false_eq_true,if_false,hleft,h1,h2]
   simp [hne,hc,hset,hlt,-run_choose]
  .exact heap_setBlk (by rw [hh]; exact hi)
  .exact hx.of_no.trans (Wrt.ext rfl) fun _ _ h=>h
theorem run_entry{e:MapEntry}(hi:w.heap[it]? = some (.mapIter (some r) clock (seen.push e.born) clock))(h:w.heap[r]? = some (.map es clock))(hB:BornOK es.toList clock)(he:e∈es.toList):(Instr.entry (.pointer (some ⟨it,0,none⟩))).run P w = .ok (.tuple #[e.key,e.val]) w:=by
 have hgi:(getObj it).run P w = .ok (.mapIter (some r) clock (seen.push e.born) clock) w:=by simp [getObj,Sem.run,hi]
 have hf:es.find? (fun x=>x.born == e.born)=some e:=by
  rw [<- Array.find?_toList]
  have hn:=hB.1
  revert he hn
  generalize es.toList=l
  intro he hn
  induction l with
  | nil=>cases he
  | cons x l ih =>
   simp only [List.map_cons,List.nodup_cons] at hn
   rcases List.mem_cons.1 he with h' | h'
   .subst h'; simp
   .have:x.born≠e.born:=fun h2=>hn.1 (h2 ▸ List.mem_map.2 ⟨e,h',rfl⟩)
    rw [List.find?_cons_of_neg (by simpa using this)]
    exact ih h' hn.2
 simp [Instr.entry,hgi,run_getMap h,hf]
end
end Go.V
namespace Go.V.Dk
open Go.V
structure DS where
 now:List (List Int)
 firm:List (List Int)
 waits:List (Int×List Int)
 steps:Int
 fail:Int
 cut:Int
 down:Bool
abbrev Row(r:List Int):Prop:=r.length=256/\B8 r
structure WF(D:DS):Prop where
 n:D.firm.length=D.now.length
 lo:8<=D.now.length
 hi:D.now.length<=4096
 rn:∀ r∈D.now,Row r
 rf:∀ r∈D.firm,Row r
 rw:∀ p∈D.waits,0<=p.1/\p.1 < D.now.length/\Row p.2
 fl:0<=D.fail/\D.fail<=9223372036854775807
 ct:-1<=D.cut/\D.cut<=9223372036854775807
def blkC(r:List Int):List Value:=r.map (Value.int .u8)
def wtC(p:Int×List Int):List Value := .int .i64 p.1::p.2.map (Value.int .u8)
def zeroRow:List Int:=List.replicate 256 0
def newD(n:Nat):DS:=⟨List.replicate n zeroRow,List.replicate n zeroRow,[],0,0,-1,false⟩
def hasB(D:DS)(i:Int):Bool:=decide (0<=i/\i < D.now.length)
def stepD(D:DS):Int×DS :=
 if D.down=true∨D.cut=0 then (81,{ D with down:=true })
 else if D.fail > 0 then (if D.fail=1 then 80 else 0,{ D with cut:=if D.cut > 0 then D.cut - 1 else D.cut,steps:=D.steps+1,fail:=D.fail - 1 })
 else (0,{ D with cut:=if D.cut > 0 then D.cut - 1 else D.cut,steps:=D.steps+1 })
def writeD(D:DS)(i:Int)(r:List Int):DS:={ D with now:=D.now.set i.toNat r,waits:=D.waits++[(i,r)] }
def syncD(D:DS):DS:={ D with firm:=D.now,waits:=[] }
def mixB(m:Int)(i:Nat)(old new:Int):Int:=if m / 2 ^ (i / 64) % 2=1 then new else old
def mixR(m:Int)(old new:List Int):List Int:=(List.range 256).map fun i=>mixB m i (old.getD i 0) (new.getD i 0)
def crashF:List (List Int)->List (Int×List Int)->List Int->List (List Int)
 | F,p::ws,m::ms=>crashF (F.set p.1.toNat (mixR m (F.getD p.1.toNat []) p.2)) ws ms
 | F,_,_=>F
def crashD(D:DS)(ms:List Int):DS:={ D with now:=crashF D.firm D.waits ms,firm:=crashF D.firm D.waits ms,waits:=[],fail:=0,cut := -1,down:=false }
def splice(r:List Int)(o:Nat)(bs:List Int):List Int:=r.take o++(bs++r.drop (o+bs.length))
def foreignD(D:DS)(i:Int)(at_:Nat)(bs:List Int):DS :=
 { D with now:=D.now.set i.toNat (splice (D.now.getD i.toNat []) at_ bs),firm:=D.firm.set i.toNat (splice (D.firm.getD i.toNat []) at_ bs) }
theorem zeroRow_row:Row zeroRow:=⟨by unfold zeroRow; rw [List.length_replicate],fun x hx=>by unfold zeroRow at hx; rw [List.mem_replicate] at hx; omega⟩
theorem blkC_len{l:List (List Int)}(h:∀ r∈l,Row r):∀ r∈l,(blkC r).length=256:=fun r hr=>by simp [blkC,(h r hr).1]
theorem wtC_len{l:List (Int×List Int)}{n:Int}(h:∀ p∈l,0<=p.1/\p.1 < n/\Row p.2):∀ p∈l,(wtC p).length=257:=fun p hp=>by simp [wtC,(h p hp).2.2.1]
theorem getD_row{l:List (List Int)}(h:∀ r∈l,Row r){i:Nat}(hi:i < l.length):Row (l.getD i []):=by
 have:l.getD i []=l[i]:=by simp [List.getD,hi]
 rw [this]; exact h _ (List.getElem_mem hi)
theorem set_rows{l:List (List Int)}(h:∀ r∈l,Row r){i:Nat}{r:List Int}(hr:Row r):∀ x∈l.set i r,Row x:=fun x hx=>by
 rcases List.mem_or_eq_of_mem_set hx with h' | rfl
 .exact h x h'
 .exact hr
theorem newD_wf{n:Nat}(h:8<=n/\n<=4096):WF (newD n):=by
 refine ⟨by simp [newD],by simp [newD]; omega,by simp [newD]; omega,fun r hr=>?_,fun r hr=>?_,fun p hp=>by simp [newD] at hp,by simp [newD],by simp [newD]⟩
 .simp [newD] at hr; rw [hr.2]; exact zeroRow_row
 .simp [newD] at hr; rw [hr.2]; exact zeroRow_row
theorem step_same(D:DS):(stepD D).2.now=D.now/\(stepD D).2.firm=D.firm/\(stepD D).2.waits=D.waits:=by
 unfold stepD; split
 .exact ⟨rfl,rfl,rfl⟩
 .split <;> exact ⟨rfl,rfl,rfl⟩
theorem write_wf{D:DS}(h:WF D){i:Int}{r:List Int}(hi:0<=i/\i < D.now.length)(hr:Row r):WF (writeD D i r):=by
 refine ⟨by simp [writeD,h.n],by simp [writeD,h.lo],by simp [writeD,h.hi],set_rows h.rn hr,h.rf,fun p hp=>?_,h.fl,h.ct⟩
 simp only [writeD,List.length_set]
 rcases List.mem_append.1 hp with hp | hp
 .exact h.rw p hp
 .simp at hp; subst hp; exact ⟨hi.1,hi.2,hr⟩
theorem sync_wf{D:DS}(h:WF D):WF (syncD D):=⟨rfl,h.lo,h.hi,h.rn,h.rn,fun p hp=>by simp [syncD] at hp,h.fl,h.ct⟩
theorem mixR_row{m:Int}{old new:List Int}(ho:Row old)(hn:Row new):Row (mixR m old new):=by
 refine ⟨by simp [mixR],fun x hx=>?_⟩
 simp only [mixR,List.mem_map] at hx
 obtain ⟨i,_,rfl⟩:=hx
 unfold mixB; split
 .exact hn.2.get i
 .exact ho.2.get i
theorem crashF_len:∀(F:List (List Int))(ws:List (Int×List Int))(ms:List Int),(crashF F ws ms).length=F.length
 | F,[],ms=>rfl
 | F,p::ws,[]=>rfl
 | F,p::ws,m::ms=>by rw [crashF,crashF_len]; simp
theorem crashF_rows:∀{F:List (List Int)}{ws:List (Int×List Int)}{ms:List Int}{n:Int},(∀ r∈F,Row r)->(∀ p∈ws,0<=p.1/\p.1 < n/\Row p.2)->n<=F.length->∀ r∈crashF F ws ms,Row r
 | F,[],ms,n,hF,_,_=>hF
 | F,p::ws,[],n,hF,_,_=>hF
 | F,p::ws,m::ms,n,hF,hw,hn=>by
  have hp:=hw p List.mem_cons_self
  rw [crashF]
  exact crashF_rows (set_rows hF (mixR_row (getD_row hF (by omega)) hp.2.2)) (fun q hq=>hw q (List.mem_cons_of_mem _ hq)) (by simpa using hn)
theorem crash_wf{D:DS}(h:WF D)(ms:List Int):WF (crashD D ms):=by
 have hl:=crashF_len D.firm D.waits ms
 have hn:=h.n
 have hlo:=h.lo
 have hhi:=h.hi
 have hr:=crashF_rows (ms:=ms) h.rf h.rw (by omega)
 exact ⟨rfl,by simp only [crashD]; omega,by simp only [crashD]; omega,hr,hr,fun p hp=>by simp [crashD] at hp,by simp [crashD],by simp [crashD]⟩
theorem splice_row{r:List Int}{o:Nat}{bs:List Int}(h:Row r)(hb:B8 bs)(hle:o+bs.length<=256):Row (splice r o bs):=by
 refine ⟨by simp [splice,h.1]; omega,?_⟩
 exact (h.2.take o).append (hb.append (h.2.drop _))
theorem foreign_wf{D:DS}(h:WF D){i:Int}{at_:Nat}{bs:List Int}(hi:0<=i/\i < D.now.length)(hb:B8 bs)(hle:at_+bs.length<=256):WF (foreignD D i at_ bs):=by
 have hn:=h.n
 refine ⟨by simp [foreignD,h.n],by simp [foreignD,h.lo],by simp [foreignD,h.hi],set_rows h.rn (splice_row (getD_row h.rn (by omega)) hb hle),set_rows h.rf (splice_row (getD_row h.rf (by omega)) hb hle),fun p hp=>?_,h.fl,h.ct⟩
 simp only [foreignD,List.length_set]
 exact h.rw p hp
end Go.V.Dk
namespace Go.Proofs.YtmbckodpbdlblaaGreat
open Go.V Go.V.Dk
theorem blt{w:Wd}{b:Nat}{o:Obj}(h:w.heap[b]? = some o):b < w.heap.size:=(Array.getElem?_eq_some_iff.1 h).1
structure Dev where
 b:Nat
 sn:Sl
 sf:Sl
 sw:Sl
def Dev.fp(d:Dev)(i:Nat):Prop:=i=d.b∨d.sn.blk=some i∨d.sf.blk=some i∨d.sw.blk=some i
abbrev Dev.p(d:Dev):Option Addr:=some ⟨d.b,0,none⟩
abbrev diskC(d:Dev)(steps fail cut:Int)(down:Bool):List Value:=[d.sn.v,d.sf.v,d.sw.v, .int .u64 steps, .int .i64 fail, .int .i64 cut, .bool down]
structure DiskR(h:Array Obj)(d:Dev)(D:DS):Prop where
 blk:h[d.b]? = some (.cells (diskC d D.steps D.fail D.cut D.down).toArray T_disk_Disk (0,0))
 now:Own h 0 T_disk_block 256 d.sn (D.now.flatMap blkC)
 firm:Own h 0 T_disk_block 256 d.sf (D.firm.flatMap blkC)
 waits:Own h 0 T_disk_write 257 d.sw (D.waits.flatMap wtC)
 nb:d.sn.blk≠some d.b/\d.sf.blk≠some d.b/\d.sw.blk≠some d.b
 nn:∀ i,d.sn.blk=some i->d.sf.blk≠some i/\d.sw.blk≠some i
 nf:∀ i,d.sf.blk=some i->d.sw.blk≠some i
 wf:WF D
section
variable {w w':Wd} {d:Dev} {D:DS}
theorem DiskR.lt(r:DiskR w.heap d D){i:Nat}(h:d.fp i):i < w.heap.size:=by
 rcases h with rfl | h | h | h
 .exact blt r.blk
 .exact (r.now.lt h).2
 .exact (r.firm.lt h).2
 .exact (r.waits.lt h).2
theorem DiskR.ext{S:Nat->Prop}(r:DiskR w.heap d D)(x:Ext S w w')(hS:∀ i,d.fp i->¬ S i):DiskR w'.heap d D :=
 ⟨by rw [x.blk _ (blt r.blk) (hS _ (.inl rfl))]; exact r.blk,r.now.ext x fun i hi=>hS i (.inr (.inl hi)),r.firm.ext x fun i hi=>hS i (.inr (.inr (.inl hi))),r.waits.ext x fun i hi=>hS i (.inr (.inr (.inr hi))),r.nb,r.nn,r.nf,r.wf⟩
theorem DiskR.no(r:DiskR w.heap d D)(x:Ext No w w'):DiskR w'.heap d D:=r.ext x fun _ _ h=>h
theorem DiskR.ln(r:DiskR w.heap d D):d.sn.len=D.now.length:=by have:=r.now.len; rw [flat_len' (blkC_len r.wf.rn)] at this; omega
theorem DiskR.lf(r:DiskR w.heap d D):d.sf.len=D.now.length:=by have:=r.firm.len; rw [flat_len' (blkC_len r.wf.rf),r.wf.n] at this; omega
theorem DiskR.lw(r:DiskR w.heap d D):d.sw.len=D.waits.length:=by have:=r.waits.len; rw [flat_len' (wtC_len r.wf.rw)] at this; omega
theorem DiskR.scal{st fl ct:Int}{dn:Bool}(r:DiskR w.heap d D)(hw:Wrt w d.b (.cells (diskC d st fl ct dn).toArray T_disk_Disk (0,0)) w')(wf:WF { D with steps:=st,fail:=fl,cut:=ct,down:=dn }) :
    DiskR w'.heap d { D with steps:=st,fail:=fl,cut:=ct,down:=dn } :=
  ⟨hw.get r.blk,r.now.ext hw.ext fun i hi h=>r.nb.1 (by rw [hi,h]),r.firm.ext hw.ext fun i hi h=>r.nb.2.1 (by rw [hi,h]),r.waits.ext hw.ext fun i hi h=>r.nb.2.2 (by rw [hi,h]),r.nb,r.nn,r.nf,wf⟩
theorem DiskR.downEq{b:Bool}(r:DiskR w.heap d D)(h:D.down=b):DiskR w.heap d { D with down:=b }:=by subst h; exact r
theorem diskHas_spec{i:Int}{K:Bool->Wd->Prop}(r:DiskR w.heap d D)(k:K (hasB D i) w):C_disk_Disk_has d.p i w K:=by
 apply S_disk_Disk_has
 have hl:=r.ln
 refine If.dec (fun h=>Nn.mk ⟨d.sn,Cell.lst r.blk rfl,?_⟩) (fun h=>?_)
 .have:decide (i < ((d.sn.len:Int)))=hasB D i:=by unfold hasB; rw [hl]; simp; omega
  rw [this]; exact k
 .have:hasB D i=false:=by unfold hasB; simp; omega
  rw [this] at k; exact k
theorem diskBlocks_spec{K:Int->Wd->Prop}(r:DiskR w.heap d D)(k:K (D.now.length:Int) w):C_disk_Disk_Blocks d.p w K:=by
 apply S_disk_Disk_Blocks
 refine If.no (Nn.mk ⟨d.sn,Cell.lst r.blk rfl,?_⟩)
 rw [r.ln]; exact k
theorem diskstep_spec{K:Int->Wd->Prop}(r:DiskR w.heap d D)(hs:0<=D.steps/\D.steps < 18446744073709551615)(k:∀ w',DiskR w'.heap d (stepD D).2->Ext (·=d.b) w w'->w'.heap.size=w.heap.size->K (stepD D).1 w'):C_disk_Disk_step d.p w K:=by
 apply S_disk_Disk_step
 have hf:=r.wf.fl
 have hc:=r.wf.ct
 refine ⟨fun w2=>DiskR w2.heap d { D with steps:=D.steps,fail:=D.fail,cut:=D.cut,down:=D.down || decide (D.cut=0) }/\Ext (·=d.b) w w2/\w2.heap.size=w.heap.size,?_,?_⟩
 .refine Nn.mk ⟨_,Cell.lst r.blk rfl,If.not (If.cases (fun hd=>?_) (fun hd=>Nn.mk ⟨_,Cell.lst r.blk rfl,If.beq (fun h0=>Nn.mk (St1.mk r.blk (by simp) rfl fun w1 hw=>⟨?_,hw.ext,hw.size⟩)) (fun h0=>?_)⟩))⟩
  .rw [hd,Bool.true_or]; exact ⟨r.downEq hd,Ext.refl _ _,rfl⟩
  .have e:(D.down || decide (D.cut=0))=true:=by simp [h0]
   rw [e]; exact r.scal hw ⟨r.wf.n,r.wf.lo,r.wf.hi,r.wf.rn,r.wf.rf,r.wf.rw,r.wf.fl,r.wf.ct⟩
  .have e:(D.down || decide (D.cut=0))=D.down:=by simp [h0]
   rw [e]; exact ⟨r,Ext.refl _ _,rfl⟩
 .rintro _ w2 ⟨r2,x2,z2⟩
  refine Nn.mk ⟨_,Cell.lst r2.blk rfl,If.cases (fun hd=>?_) (fun hd=>?_)⟩
  .have hd':D.down=true∨D.cut=0:=by simpa using hd
   have e:stepD D=(81,{ D with down:=true }):=by unfold stepD; rw [if_pos hd']
   rw [e] at k
   refine k w2 ?_ x2 z2
   exact r2.downEq hd
  .have hd':¬ (D.down=true∨D.cut=0):=by simpa using hd
   have hdn:D.down=false:=by simp at hd; exact hd.1
   have wf4:∀{st fl:Int},0<=fl/\fl<=9223372036854775807->WF { D with steps:=st,fail:=fl,cut:=(if D.cut > 0 then D.cut - 1 else D.cut),down:=false }:=fun h=>⟨r.wf.n,r.wf.lo,r.wf.hi,r.wf.rn,r.wf.rf,r.wf.rw,h,by simp only; split <;> omega⟩
   refine ⟨fun w4=>DiskR w4.heap d { D with steps:=D.steps,fail:=D.fail,cut:=(if D.cut > 0 then D.cut - 1 else D.cut),down:=false }/\Ext (·=d.b) w w4/\w4.heap.size=w.heap.size,?_,?_⟩
   .have r2:=r2.downEq hd
    refine Nn.mk ⟨_,Cell.lst r2.blk rfl,If.dec (fun h=>Nn.mk ⟨_,Cell.lst r2.blk rfl,Ar.i64 (by simp only; omega) (Nn.mk (St1.mk r2.blk (by simp) rfl fun w3 hw=>⟨?_,x2.trans hw.ext fun _ _ h=>h,by rw [hw.size,z2]⟩))⟩) (fun h=>⟨?_,x2,z2⟩)⟩
    .simp only at h
     have w0:=wf4 (st:=D.steps) hf
     rw [if_pos h] at w0 ⊢
     exact r2.scal hw w0
    .simp only at h
     rw [if_neg h]; exact r2
   .rintro _ w4 ⟨r4,x4,z4⟩
    refine Nn.mk ⟨_,Cell.lst r4.blk rfl,Ar.u64 (by simp only; omega) (Nn.mk (St1.mk r4.blk (by simp) rfl fun w5 hw5=>?_))⟩
    have r5:DiskR w5.heap d { D with steps:=D.steps+1,fail:=D.fail,cut:=(if D.cut > 0 then D.cut - 1 else D.cut),down:=false }:=r4.scal hw5 (wf4 hf)
    have x5:=x4.trans hw5.ext (S:=(·=d.b)) fun _ _ h=>h
    have z5:w5.heap.size=w.heap.size:=by rw [hw5.size,z4]
    refine Nn.mk ⟨_,Cell.lst r5.blk rfl,If.dec (fun h=>Nn.mk ⟨_,Cell.lst r5.blk rfl,Ar.i64 (by simp only; omega) (Nn.mk (St1.mk r5.blk (by simp) rfl fun w6 hw6=>?_))⟩) (fun h=>?_)⟩
    .simp only at h
     have r6:DiskR w6.heap d { D with steps:=D.steps+1,fail:=D.fail - 1,cut:=(if D.cut > 0 then D.cut - 1 else D.cut),down:=false }:=r5.scal hw6 (wf4 (by omega))
     have x6:=x5.trans hw6.ext (S:=(·=d.b)) fun _ _ h=>h
     have e:stepD D=(if D.fail=1 then 80 else 0,{ D with steps:=D.steps+1,fail:=D.fail - 1,cut:=(if D.cut > 0 then D.cut - 1 else D.cut),down:=false }):=by
      unfold stepD; rw [if_neg hd',if_pos h,hdn]
     rw [e] at k
     refine Nn.mk ⟨_,Cell.lst r6.blk rfl,If.beq (fun h1=>?_) (fun h1=>?_)⟩
     .simp only at h1
      rw [if_pos (by omega)] at k
      exact k w6 r6 x6 (by rw [hw6.size,z5])
     .simp only at h1
      rw [if_neg (by omega)] at k
      exact k w6 r6 x6 (by rw [hw6.size,z5])
    .simp only at h
     have e:stepD D=(0,{ D with steps:=D.steps+1,fail:=D.fail,cut:=(if D.cut > 0 then D.cut - 1 else D.cut),down:=false }):=by
      unfold stepD; rw [if_neg hd',if_neg h,hdn]
     rw [e] at k
     exact k w5 r5 x5 z5
end
end Go.Proofs.YtmbckodpbdlblaaGreat
namespace Go.V.Rn
open Go.V
abbrev Run:=Int×Int
def gr(l:List Run)(i:Nat):Run:=l.getD i (0,0)
def rc(l:List Run):List Value:=l.flatMap fun r=>[.int .u32 r.1, .int .u32 r.2]
theorem rc_len:∀ l:List Run,(rc l).length=l.length * 2
 | []=>rfl
 | r::l=>by have:=rc_len l; simp only [rc,List.flatMap_cons,List.length_append,List.length_cons,List.length_nil] at this ⊢; omega
theorem rc_app(l m:List Run):rc (l++m)=rc l++rc m:=by simp [rc]
theorem rc_one:∀(l:List Run),∀ v∈rc l,oneC v=true:=by
 intro l v hv
 simp only [rc,List.mem_flatMap] at hv
 obtain ⟨r,_,h⟩:=hv
 simp at h
 rcases h with rfl | rfl <;> rfl
theorem gr_succ(r:Run)(l:List Run)(i:Nat):gr (r::l) (i+1)=gr l i:=by simp [gr]
theorem gr_zero(r:Run)(l:List Run):gr (r::l) 0=r:=by simp [gr]
theorem rc_get:∀(l:List Run)(i:Nat),i < l.length->(rc l)[i * 2]? = some (.int .u32 (gr l i).1)/\(rc l)[i * 2+1]? = some (.int .u32 (gr l i).2)
 | [],i,h=>by simp at h
 | r::l,0,_=>by simp [rc,gr]
 | r::l,i+1,h=>by
  have:=rc_get l i (by simpa using h)
  simp only [rc,List.flatMap_cons,gr_succ] at this ⊢
  rw [show (i+1) * 2=i * 2+2 by omega,show i * 2+2+1=(i * 2+1)+2 by omega]
  exact this
def U32(l:List Run):Prop:=∀ r∈l,0<=r.1/\r.1<=4294967295/\0<=r.2/\r.2<=4294967295
theorem U32.get{l:List Run}(h:U32 l)(i:Nat):0<=(gr l i).1/\(gr l i).1<=4294967295/\0<=(gr l i).2/\(gr l i).2<=4294967295:=by
 rcases Nat.lt_or_ge i l.length with hlt | hge
 .have:gr l i=l[i]:=by simp [gr,List.getD,hlt]
  rw [this]; exact h _ (List.getElem_mem _)
 .simp [gr,List.getD,List.getElem?_eq_none hge]
theorem drop_get{l:List Run}{j:Nat}(h:j < l.length):l.drop j=gr l j::l.drop (j+1):=by
 rw [List.drop_eq_getElem_cons h]; simp [gr,List.getD,h]
def okFrom:Int->List Run->Bool
 | _,[]=>true
 | e,r::l=>decide (r.1 < r.2) && (decide (e < r.1) && okFrom r.2 l)
def rightB(l:List Run):Bool:=okFrom (-1) l
def pe(l:List Run)(j:Nat):Int:=if j=0 then -1 else (gr l (j - 1)).2
theorem pe_succ(l:List Run)(j:Nat):pe l (j+1)=(gr l j).2:=by simp [pe]
def placeN(p:Int):List Run->Nat
 | []=>0
 | r::l=>if p < r.2 then 0 else placeN p l+1
def hasB(p:Int)(l:List Run):Bool:=l.any fun r=>decide (p≥r.1) && decide (p < r.2)
def mkR(a b:Int):List Run:=if a≥b then [] else [(a,b)]
theorem okFrom_beyond:∀{e:Int}{l:List Run},okFrom e l=true->∀ r∈l,e < r.1/\r.1 < r.2
 | e,[],_,r,hr=>by cases hr
 | e,r0::l,h,r,hr=>by
  simp only [okFrom,Bool.and_eq_true,decide_eq_true_eq] at h
  rcases List.mem_cons.1 hr with rfl | hr
  .exact ⟨h.2.1,h.1⟩
  .have:=okFrom_beyond h.2.2 r hr; exact ⟨by omega,this.2⟩
theorem has_place:∀{e:Int}{l:List Run}{p:Int},okFrom e l=true->hasB p l=(decide (placeN p l < l.length) && decide (p≥(gr l (placeN p l)).1))
 | e,[],p,_=>by simp [hasB,placeN]
 | e,r::l,p,h=>by
  simp only [okFrom,Bool.and_eq_true,decide_eq_true_eq] at h
  by_cases hp:p < r.2
  .have hno:(l.any fun r=>decide (p≥r.1) && decide (p < r.2))=false:=by
    rw [List.any_eq_false]
    intro x hx
    have:=okFrom_beyond h.2.2 x hx
    simp; intro; omega
   simp [hasB,placeN,hp,hno,gr_zero]
  .have ih:=has_place (p:=p) h.2.2
   simp only [hasB,List.any_cons,hp,decide_false,Bool.and_false,Bool.false_or,placeN,if_false,List.length_cons,Nat.add_lt_add_iff_right,gr_succ] at ih ⊢
   exact ih
end Go.V.Rn
namespace Go.V.Rn
open Go.V
def setTo(l:List Run)(i:Nat)(z:Int):List Run:=l.set i ((gr l i).1,z)
theorem setTo_len(l:List Run)(i:Nat)(z:Int):(setTo l i z).length=l.length:=by simp [setTo]
theorem rc_setTo:∀(l:List Run)(i:Nat)(z:Int),i < l.length->rc (setTo l i z)=(rc l).set (i * 2+1) (.int .u32 z)
 | [],i,z,h=>by simp at h
 | r::l,0,z,_=>by simp [setTo,rc,gr_zero]
 | r::l,i+1,z,h=>by
  have:=rc_setTo l i z (by simpa using h)
  simp only [setTo,List.set_cons_succ,gr_succ,rc,List.flatMap_cons] at this ⊢
  rw [this,show (i+1) * 2+1=(i * 2+1)+2 by omega]
  rfl
def lastTo(l:List Run):Int:=(gr l (l.length - 1)).2
def addR(l:List Run)(r:Run):List Run:=if 0 < l.length/\r.1<=lastTo l then setTo l (l.length - 1) (iMax (lastTo l) r.2) else l++[r]
theorem addR_len{l:List Run}{r:Run}:(addR l r).length<=l.length+1:=by
 unfold addR; split <;> simp [setTo_len]
def bothF:List Run->List Run->List Run->List Run
 | out,[],[]=>out
 | out,a::as1,[]=>bothF (addR out a) as1 []
 | out,[],b::bs=>bothF (addR out b) [] bs
 | out,a::as1,b::bs=>if a.1<=b.1 then bothF (addR out a) as1 (b::bs) else bothF (addR out b) (a::as1) bs
termination_by _ a b=>a.length+b.length
def bothR(a b:List Run):List Run:=bothF [] a b
theorem U32.tail{r:Run}{l:List Run}(h:U32 (r::l)):U32 l:=fun x hx=>h x (List.mem_cons_of_mem _ hx)
theorem U32.head{r:Run}{l:List Run}(h:U32 (r::l)):0<=r.1/\r.1<=4294967295/\0<=r.2/\r.2<=4294967295:=h r List.mem_cons_self
end Go.V.Rn
namespace Go.V.Rn
open Go.V
def takeR:List Run->List Run
 | []=>[]
 | r::l=>mkR (r.1+1) r.2++l
theorem okFrom_len:∀{e:Int}{l:List Run},okFrom e l=true->U32 l->e<=4294967295->(l.length:Int) * 2<=4294967295 - e
 | e,[],_,_,he=>by simp; omega
 | e,r::l,h,hu,he=>by
  simp only [okFrom,Bool.and_eq_true,decide_eq_true_eq] at h
  have hr:=hu.head
  have:=okFrom_len h.2.2 hu.tail (by omega)
  simp only [List.length_cons]; omega
theorem right_len{l:List Run}(h:rightB l=true)(hu:U32 l):l.length<=2147483648:=by have:=okFrom_len h hu (by omega); omega
end Go.V.Rn
namespace Go.Proofs.YtmbckodpbdlblaaGreat
open Go.V Go.V.Rn
abbrev OwnR(h:Array Obj)(base:Nat)(s:Sl)(l:List Run):Prop:=Own h base T_api_Run 2 s (rc l)
abbrev RdR(h:Array Obj)(s:Sl)(l:List Run):Prop:=Rd h s 2 (rc l)
theorem RdR.len{h:Array Obj}{s:Sl}{l:List Run}(o:RdR h s l):s.len=l.length:=by have:=Rd.len o; rw [rc_len] at this; omega
theorem OwnR.len{h:Array Obj}{base:Nat}{s:Sl}{l:List Run}(o:OwnR h base s l):s.len=l.length:=RdR.len o.rd
theorem Ix.run{w:Wd}{s:Sl}{l:List Run}{i:Int}{K:Addr->Prop}(h:RdR w.heap s l)(h0:0<=i)(h1:i < (s.len:Int))
  (k:∀ b o,s.blk=some b->Cell w ⟨b,o,none⟩ (.int .u32 (gr l i.toNat).1)->Cell w ((⟨b,o,none⟩ : Addr).add 1) (.int .u32 (gr l i.toNat).2)->K ⟨b,o,none⟩):Ix s.a s.len i 2 K:=by
 have hl:=h.len
 have hlt:i.toNat < l.length:=by omega
 have hr:=rc_len l
 obtain ⟨b,off,ha,hc⟩:=h.at_ (by intro e; rw [e] at hr; simp at hr; omega)
 obtain ⟨g1,g2⟩:=rc_get l i.toNat hlt
 refine ⟨_,ha,h0,h1,?_⟩
 rw [addr_add_none rfl]
 refine k _ _ (by simp [Sl.blk,ha]) (Cell.mk ?_) ?_
 .have:=hc (i.toNat * 2) (by omega)
  rw [List.getElem?_eq_getElem (by omega),Option.some.injEq] at g1
  rw [g1] at this
  exact this
 .rw [addr_add_none rfl]
  refine Cell.mk ?_
  have:=hc (i.toNat * 2+1) (by omega)
  rw [List.getElem?_eq_getElem (by omega),Option.some.injEq] at g2
  rw [g2,<- Nat.add_assoc] at this
  exact this
theorem Held.cell1{w:Wd}{b o:Nat}{v:Value}(h:Cell w ((⟨b,o,none⟩ : Addr).add 1) v):Held (Ext No w) ((⟨b,o,none⟩ : Addr).add 1) v:=by
 rw [addr_add_none rfl] at h ⊢; exact Held.cell h
theorem Held.but1{S:Nat->Prop}{w:Wd}{b o:Nat}{v:Value}(h:Cell w ((⟨b,o,none⟩ : Addr).add 1) v)(hb:¬ S b):Held (Ext S w) ((⟨b,o,none⟩ : Addr).add 1) v:=by
 rw [addr_add_none rfl] at h ⊢; exact Held.but h hb
abbrev pairO(c d:Int):Obj := .cells [.int .u32 c, .int .u32 d].toArray 215 (0,0)
theorem range_run{w1:Wd}{c d:Int}{K:Nat->Wd->Prop}(k:∀ b w3,w1.heap.size<=b->Ext No w1 w3->w3.heap[b]? = some (pairO c d)->K b w3) :
  NewW w1 (.cells [.int .u32 0, .int .u32 0].toArray 215) fun b w2=>List.length (α:=Value) [.int .u32 c, .int .u32 d]=2/\StN w2 (Addr.mk b 0 none) [.int .u32 c, .int .u32 d] fun w3=>K b w3:=by
 intro b w2 new
 refine ⟨rfl,_,_,_,new.get,rfl,by simp, .inr (.inr (Nat.le_refl _)),by simp [oneC],fun w3 hw=>k b w3 (by rw [new.at_]; exact Nat.le_refl _) ?_ ?_⟩
 .exact new.ext.trans hw.ext fun i hi e=>by subst e; have:=new.at_; omega
 .exact hw.get new.get
theorem right_spec{s:Sl}{w:Wd}{K:Bool->Wd->Prop}{L:List Run}(h:RdR w.heap s L)(hu:U32 L)(hn:L.length<=9223372036854775807)(k:∀ w',Ext No w w'->K (rightB L) w'):C_runs_Right s w K:=by
 apply S_runs_Right
 have hl:=h.len
 refine ⟨fun m t w'=>∃ j:Nat,t=j/\m=L.length - j/\j<=L.length/\rightB L=okFrom (pe L j) (L.drop j)/\Ext No w w',⟨_,0,rfl,rfl,Nat.zero_le _,rfl,Ext.refl _ _⟩,?_⟩
 rintro _ m t w1 ⟨j,rfl,rfl,hj,he,ext⟩
 have hg:=hu.get j
 refine If.dec (fun hlt=>?_) (fun hge=>?_)
 .have hjl:j < L.length:=by omega
  rw [drop_get hjl,okFrom] at he
  refine Ix.run (h.no ext) (by omega) hlt fun b o hb c1 c2=>⟨_,c1,_,c2,range_run fun b w3 hbs ext3 hb3=>⟨Ext No w3,(Ext.refl _ _).drew,?_⟩⟩
  rw [Int.toNat_natCast] at hb3
  have ext':=ext.no ext3
  refine ⟨_,Held.cell (Cell.lst hb3 rfl),_,Held.cell (Cell.lst hb3 rfl),If.dec (fun h1=>?_) (fun h1=>?_)⟩
  .have:rightB L=false:=by rw [he]; simp; intro; omega
   rw [<- this]; exact k _ ext'.drew
  .have next:∀(_:decide (pe L j < (gr L j).1)=true),∃ m1,m1 < L.length - j/\∃ j':Nat,(j:Int)+1=j'/\m1=L.length - j'/\j'<=L.length/\rightB L=okFrom (pe L j') (L.drop j')/\Ext No w (drewW w3):=fun hd =>
    ⟨_,by omega,j+1,by omega,rfl,by omega,by rw [he,hd,pe_succ]; simp; intro; omega,ext'.drew⟩
   refine If.dec (fun h2=>?_) (fun h2=>Ar.i64 (by omega) (next ?_))
   .refine ⟨_,Held.cell (Cell.lst hb3 rfl),Ar.i64 (by omega) (Ix.run (h.no ext') (by omega) (by omega) fun b o hb c1 c2=>⟨_,Held.cell1 c2,?_⟩)⟩
    have hpe:pe L j=(gr L ((j:Int) - 1).toNat).2:=by
     unfold pe; rw [if_neg (by omega),show ((j:Int) - 1).toNat=j - 1 by omega]
    rw [<- hpe]
    refine If.dec (fun h3=>?_) (fun h3=>Ar.i64 (by omega) (next (by simp; omega)))
    have:rightB L=false:=by rw [he]; simp; intro _ h; omega
    rw [<- this]; exact k _ ext'.drew
   .have:j=0:=by omega
    subst this; simp [pe]; omega
 .have hnil:L.drop j=[]:=List.drop_of_length_le (by omega)
  rw [hnil] at he
  have:=k w1 ext
  rw [he] at this
  exact this
end Go.Proofs.YtmbckodpbdlblaaGreat
namespace Go.Proofs.YtmbckodpbdlblaaGreat
open Go.V Go.V.Rn
theorem place_spec{s:Sl}{p:Int}{w:Wd}{K:Int->Wd->Prop}{L:List Run}(h:RdR w.heap s L)(hn:L.length<=9223372036854775807)(k:∀ w',Ext No w w'->K (placeN p L) w'):C_runs_place s p w K:=by
 apply S_runs_place
 have hl:=h.len
 refine ⟨fun m t w'=>∃ j:Nat,t=j/\m=L.length - j/\j<=L.length/\placeN p L=j+placeN p (L.drop j)/\Ext No w w',⟨_,0,rfl,rfl,Nat.zero_le _,by simp,Ext.refl _ _⟩,?_⟩
 rintro _ m t w1 ⟨j,rfl,rfl,hj,he,ext⟩
 refine If.dec (fun hlt=>?_) (fun hge=>?_)
 .have hjl:j < L.length:=by omega
  rw [drop_get hjl,placeN] at he
  refine Ix.run (h.no ext) (by omega) hlt fun b o hb c1 c2=>⟨_,c1,_,c2,range_run fun b w3 hbs ext3 hb3=>?_⟩
  rw [Int.toNat_natCast] at hb3
  have ext':=ext.no ext3
  refine ⟨_,Cell.lst hb3 rfl,If.dec (fun h1=>?_) (fun h1=>?_)⟩
  .rw [if_pos h1] at he
   have:=k w3 ext'
   rw [he] at this
   exact this
  .rw [if_neg h1] at he
   exact Ar.i64 (by omega) ⟨_,by omega,j+1,by omega,rfl,by omega,by omega,ext'⟩
 .have hnil:L.drop j=[]:=List.drop_of_length_le (by omega)
  rw [hnil] at he
  have:=k w1 ext
  have e:placeN p L=s.len:=by simp only [placeN] at he; omega
  rw [e] at this
  exact this
theorem has_spec{s:Sl}{p:Int}{w:Wd}{K:Bool->Int->Wd->Prop}{L:List Run}(h:RdR w.heap s L)(hu:U32 L)(hn:L.length<=9223372036854775807)
  (k:∀ w',Ext No w w'->K (rightB L && hasB p L) (if rightB L then 0 else 2) w'):C_runs_Has s p w K:=by
 apply S_runs_Has
 have hl:=h.len
 refine right_spec h hu hn fun w1 ext=>If.not (If.cases (fun hr=>?_) (fun hr=>?_))
 .rw [hr] at k
  refine place_spec (h.no ext) hn fun w2 ext2=>?_
  have ext':=ext.no ext2
  have hp:=has_place (p:=p) hr
  refine If.dec (fun h1=>?_) (fun h1=>?_)
  .refine Ix.run (h.no ext') (by omega) h1 fun _ _ _ c1 c2=>⟨_,c1,?_⟩
   have:=k w2 ext'
   rw [hp,decide_eq_true (by omega:placeN p L < L.length)] at this
   rw [Int.toNat_natCast]
   simpa using this
  .have:=k w2 ext'
   rw [hp,decide_eq_false (by omega:¬ placeN p L < L.length)] at this
   simpa using this
 .have:=k w1 ext
  rw [hr] at this
  exact this
theorem make_spec{a b:Int}{w:Wd}{K:Sl->Wd->Prop}(k:∀ s w',OwnR w'.heap w.heap.size s (mkR a b)->Ext No w w'->K s w'):C_runs_Make a b w K:=by
 apply S_runs_Make
 refine If.dec (fun h=>k _ _ ?_ (Ext.refl _ _)) (fun h=>fun b' w1 new=>k _ _ ?_ new.ext)
 .rw [mkR,if_pos h]; exact Own.nil _ _ _ _
 .rw [mkR,if_neg h]; exact Own.new (sz:=2) (n:=1) new rfl (rc_one [(a,b)])
end Go.Proofs.YtmbckodpbdlblaaGreat
namespace Go.Proofs.YtmbckodpbdlblaaGreat
open Go.V Go.V.Rn
theorem St1.run{w:Wd}{base:Nat}{s:Sl}{L:List Run}{i z:Int}{K:Wd->Prop}(o:OwnR w.heap base s L)(h0:0<=i)(h1:i < (s.len:Int))
  (k:∀ w',OwnR w'.heap base s (setTo L i.toNat z)->Ext (fun b=>s.blk=some b) w w'->w'.heap.size=w.heap.size->K w'):Ix s.a s.len i 2 fun a=>St1 w (a.add 1) (.int .u32 z) K:=by
 have hl:=OwnR.len o
 have hrc:=rc_len L
 have hset:=rc_setTo L i.toNat z (by omega)
 rcases o.is with ⟨rfl,hn⟩ | ⟨b,rest,ha,hle,hb,hc,hcap⟩
 .simp at h1; omega
 .refine ⟨_,ha,h0,h1,?_⟩
  rw [addr_add_none rfl]
  show St1 w (Addr.add ⟨b,0+i.toNat * 2,none⟩ 1) _ _
  rw [addr_add_none rfl,Nat.zero_add]
  refine St1.mk hb (by simp; omega) rfl fun w' hw=>k w' ⟨by rw [rc_len,setTo_len,hl], .inr ⟨b,rest,ha,hle,?_,?_,hcap⟩,rc_one _⟩ (hw.ext.mono fun j _ hj=>by subst hj; simp [Sl.blk,ha]) hw.size
  .rw [hw.get hb,List.set_append_left _ _ (by simp only; omega),hset]
  .rw [hset]; simpa using hc
theorem add_spec{l:Sl}{r:Run}{w:Wd}{base:Nat}{K:Sl->Wd->Prop}{L:List Run}(o:OwnR w.heap base l L)(hbase:base<=w.heap.size)(hn:L.length<=8796093022208)
  (k:∀ s w',OwnR w'.heap base s (addR L r)->Ext (fun b=>l.blk=some b) w w'->(s.blk=l.blk∨∃ b,s.blk=some b/\w.heap.size<=b)->K s w'):C_runs_add l r.1 r.2 w K:=by
 apply S_runs_add
 have hl:=OwnR.len o
 intro b w1 new
 have own1:=o.no new.ext
 have hb1:∀ i,l.blk=some i->i≠b:=fun i hi e=>by have:=(o.lt hi).2; have:=new.at_; omega
 refine ⟨fun t w2=>t=decide (0 < L.length/\r.1<=lastTo L)/\w2=drewW w1,?_,?_⟩
 .refine ⟨Ext No w1,(Ext.refl _ _).drew,If.dec (fun h=>?_) (fun h=>⟨?_,rfl⟩)⟩
  .refine ⟨_,Held.cell (Cell.lst new.get rfl),Ar.i64 (by omega) (Ix.run own1.rd (by omega) (by omega) fun _ _ _ c1 c2=>⟨_,Held.cell1 c2,?_,rfl⟩)⟩
   rw [decide_eq_decide,show ((l.len:Int) - 1).toNat=L.length - 1 by omega]
   exact ⟨fun h'=>⟨by omega,h'⟩,fun h'=>h'.2⟩
  .symm; rw [decide_eq_false_iff_not]; intro h'; omega
 .rintro _ t w2 ⟨rfl,rfl⟩
  refine If.dec (fun h=>⟨fun _=>True,trivial,?_⟩) (fun h=>?_)
  .have hadd:addR L r=setTo L (L.length - 1) (iMax (lastTo L) r.2):=by unfold addR; rw [if_pos h]
   have e1:((l.len:Int) - 1).toNat=L.length - 1:=by omega
   have own2:OwnR (drewW (drewW w1)).heap base l L:=own1
   have hbl:(drewW (drewW w1)).heap[b]? = some (pairO r.1 r.2):=new.get
   have fin:∀ z,z=iMax (lastTo L) r.2->Ix l.a l.len ((l.len:Int) - 1) 2 fun a=>St1 (drewW (drewW w1)) (a.add 1) (.int .u32 z) fun w3=>True/\K l w3:=fun z hz =>
    St1.run own2 (by omega) (by omega) fun w3 own3 ext3 _=>⟨trivial,k l w3 (by rw [hadd,<- hz,<- e1]; exact own3) ((new.ext.of_no.trans ext3.drew_left.drew_left fun _ _ h=>h)) (.inl rfl)⟩
   refine Ar.i64 (by omega) (Ar.i64 (by omega) (Ix.run own2.rd (by omega) (by omega) fun _ _ _ c1 c2=>⟨?_,?_⟩))
   .exact ⟨_,c2,trivial,_,Cell.lst hbl rfl,trivial,Nm.mk (fin _ (by rw [e1]; rfl))⟩
   .exact ⟨_,Cell.lst hbl rfl,trivial,_,c2,trivial,Nm.mk (fin _ (by rw [e1]; rfl))⟩
  .have hadd:addR L r=L++[r]:=by unfold addR; rw [if_neg h]
   refine ⟨_,Cell.lst (w:=drewW w1) new.get rfl,_,Cell.lst (w:=drewW w1) new.get rfl,fun b2 w3 new2=>?_⟩
   have:=new.size
   have:=new2.size
   have own2:OwnR (drewW w1).heap base l L:=own1
   refine app_api_Run (own2.no (w:=drewW w1) new2.ext) (by simp [drewW] at *; omega) ((Own.new (sz:=2) (n:=1) new2 rfl (rc_one [r])).rd.src) (by simp only; omega) fun s' w4 own' _ ext' hblk=>?_
   refine k s' w4 (by rw [hadd,OwnR,rc_app]; exact own') (((new.ext.drew.no new2.ext).of_no (S:=fun b=>l.blk=some b)).trans ext' fun _ _ h=>h) ?_
   rcases hblk with h | ⟨b',h,hge⟩
   .exact .inl h
   .exact .inr ⟨b',h,by simp [drewW] at *; omega⟩
end Go.Proofs.YtmbckodpbdlblaaGreat
namespace Go.Proofs.YtmbckodpbdlblaaGreat
open Go.V Go.V.Rn
theorem Cut.tail{H:Array Obj}{s:Sl}{r:Run}{L:List Run}{K:Sl->Prop}(h:RdR H s (r::L))(k:∀ s',RdR H s' L->K s'):Cut s 1 (((s.len:Nat):Int)) (((s.cap:Nat):Int)) 2 K:=by
 have hl:=h.len
 have hc:=h.cap
 simp only [List.length_cons] at hl
 refine Cut.mk (by omega) (by omega) (by omega) (by omega) (k _ ?_)
 have:=Rd.cut h (lo:=1) (hi:=s.len) (mx:=s.cap) (by omega) (Nat.le_refl _) hc
 have e:(List.drop (1 * 2) (rc (r::L))).take ((s.len - 1) * 2)=rc L:=by
  rw [show List.drop (1 * 2) (rc (r::L))=rc L from rfl]
  exact List.take_of_length_le (by rw [rc_len]; omega)
 rw [e] at this
 have e1:((s.len:Int) - 1).toNat=s.len - 1:=by omega
 have e2:((s.cap:Int) - 1).toNat=s.cap - 1:=by omega
 have e3:((s.cap:Int)).toNat=s.cap:=by omega
 have e4:(1:Int).toNat=1:=rfl
 rw [e1,e2,e3,e4]
 exact this
theorem cons_of_len{L:List Run}(h:0 < L.length):∃ r l,L=r::l:=by cases L with
 | nil=>simp at h
 | cons r l=>exact ⟨r,l,rfl⟩
theorem both_spec{a b:Sl}{w:Wd}{K:Sl->Int->Wd->Prop}{A B:List Run}(ha:RdR w.heap a A)(hb:RdR w.heap b B)(hua:U32 A)(hub:U32 B)(hna:A.length<=9223372036854775807)(hnb:B.length<=9223372036854775807)
  (k:∀ s w',OwnR w'.heap w.heap.size s (if rightB A && rightB B then bothR A B else [])->Ext No w w'->K s (if rightB A && rightB B then 0 else 2) w'):C_runs_Both a b w K:=by
 apply S_runs_Both
 refine ⟨fun w'=>(rightB A && rightB B)=true/\Ext No w w',?_,?_⟩
 .refine right_spec ha hua (by omega) fun w1 ext=>If.not (If.cases (fun hr=>?_) (fun hr=>?_))
  .refine right_spec (hb.no ext) hub (by omega) fun w2 ext2=>If.not (If.cases (fun hr2=>?_) (fun hr2=>?_))
   .exact ⟨by rw [hr,hr2]; rfl,ext.no ext2⟩
   .have:=k ⟨none,0,0⟩ w2
    rw [hr,hr2] at this
    exact this (Own.nil _ _ _ _) (ext.no ext2)
  .have:=k ⟨none,0,0⟩ w1
   rw [hr] at this
   exact this (Own.nil _ _ _ _) ext
 .rintro _ w3 ⟨hr,ext3⟩
  have hra:rightB A=true/\rightB B=true:=by simpa using hr
  have hn:A.length+B.length<=8796093022208:=by have:=right_len hra.1 hua; have:=right_len hra.2 hub; omega
  rw [hr] at k
  refine ⟨fun m a1 b1 l w'=>∃ A1 B1 O,RdR w.heap a1 A1/\RdR w.heap b1 B1/\OwnR w'.heap w.heap.size l O/\bothF O A1 B1=bothR A B/\m=A1.length+B1.length/\O.length+A1.length+B1.length<=A.length+B.length/\Ext No w w',
   ⟨_,A,B,[],ha,hb,Own.nil _ _ _ _,rfl,rfl,by simp,ext3⟩,?_⟩
  rintro _ m a1 b1 l w4 ⟨A1,B1,O,ra,rb,own,he,rfl,hle,ext4⟩
  have la:=ra.len
  have lb:=rb.len
  refine ⟨fun w5=>w5=w4/\(0 < A1.length∨0 < B1.length),?_,?_⟩
  .refine If.dec (fun h=>⟨rfl,by omega⟩) (fun h=>If.dec (fun h2=>⟨rfl,by omega⟩) (fun h2=>?_))
   have e1:A1=[]:=List.length_eq_zero_iff.1 (by omega)
   have e2:B1=[]:=List.length_eq_zero_iff.1 (by omega)
   subst e1 e2
   rw [bothF] at he
   rw [he] at own
   exact k l w4 own ext4
  .rintro _ w5 ⟨rfl,hsome⟩
   refine ⟨fun t w6=>w6=drewW w5/\t=(decide (B1.length=0) || (decide (0 < A1.length) && decide ((gr A1 0).1<=(gr B1 0).1))),?_,?_⟩
   .refine ⟨Ext No w5,(Ext.refl _ _).drew,If.beq (fun h=>⟨rfl,?_⟩) (fun h=>If.dec (fun h2=>?_) (fun h2=>⟨rfl,?_⟩))⟩
    .rw [decide_eq_true (by omega:B1.length=0)]; rfl
    .refine Ix.run (ra.no ext4) (by omega) (by omega) fun _ _ _ c1 c2=>⟨_,Held.cell c1,Ix.run (rb.no ext4) (by omega) (by omega) fun _ _ _ c1' c2'=>⟨_,Held.cell c1',rfl,?_⟩⟩
     rw [decide_eq_false (by omega:¬ B1.length=0),decide_eq_true (by omega:0 < A1.length)]; rfl
    .rw [decide_eq_false (by omega:¬ B1.length=0),decide_eq_false (by omega:¬ 0 < A1.length)]; rfl
   .rintro _ t w6 ⟨rfl,rfl⟩
    have ownD:OwnR (drewW (drewW w5)).heap w.heap.size l O:=own
    have extD:Ext No w (drewW (drewW w5)):=ext4.drew.drew
    have ne:∀{s:Sl}{i:Nat}{M:List Run},RdR w.heap s M->0 < M.length->s.blk=some i->¬ l.blk=some i:=fun {s i M} hm hp hi hl=>by
     have h1:=(own.lt hl).1
     have h2:=hm.lt (by intro e; have:=rc_len M; rw [e] at this; simp at this; omega) hi
     omega
    have toNo:∀{w7:Wd},Ext (fun b=>l.blk=some b) (drewW (drewW w5)) w7->Ext No w w7:=fun e=>extD.trans e fun i hi hb=>by have:=(own.lt hb).1; omega
    refine If.cases (fun h=>?_) (fun h=>?_)
    .have hA:0 < A1.length:=by
      simp only [Bool.or_eq_true,Bool.and_eq_true,decide_eq_true_eq] at h; omega
     obtain ⟨r,A2,rfl⟩:=cons_of_len hA
     refine ⟨Ext (fun b=>l.blk=some b) (drewW (drewW w5)),Ext.refl _ _,Ix.run (w:=drewW (drewW w5)) (ra.no extD) (by omega) (by simp at la; omega) fun b' o hb' c1 c2=>⟨_,Held.but c1 (ne ra hA hb'),_,Held.but1 c2 (ne ra hA hb'),Cut.tail ra fun s' ra'=>?_⟩⟩
     refine add_spec (r:=r) ownD (by have:=extD.size; omega) (by simp at hle; omega) fun s2 w7 own7 ext7 _=>⟨ext7,_,?_,A2,B1,addR O r,ra',rb,own7,?_,rfl,?_,toNo ext7⟩
     .simp
     .rw [<- he]
      cases B1 with
      | nil=>rw [bothF]
      | cons q B2 =>
       have:r.1<=q.1:=by simpa [gr_zero] using h
       rw [bothF,if_pos this]
     .have:=@addR_len O r; simp at hle; omega
    .have hB:0 < B1.length:=by
      simp only [Bool.or_eq_false_iff,decide_eq_false_iff_not] at h; omega
     obtain ⟨r,B2,rfl⟩:=cons_of_len hB
     refine ⟨Ext (fun b=>l.blk=some b) (drewW (drewW w5)),Ext.refl _ _,Ix.run (w:=drewW (drewW w5)) (rb.no extD) (by omega) (by simp at lb; omega) fun b' o hb' c1 c2=>⟨_,Held.but c1 (ne rb hB hb'),_,Held.but1 c2 (ne rb hB hb'),Cut.tail rb fun s' rb'=>?_⟩⟩
     refine add_spec (r:=r) ownD (by have:=extD.size; omega) (by simp at hle; omega) fun s2 w7 own7 ext7 _=>⟨ext7,_,?_,A1,B2,addR O r,ra,rb',own7,?_,rfl,?_,toNo ext7⟩
     .simp
     .rw [<- he]
      cases A1 with
      | nil=>rw [bothF]
      | cons q A2 =>
       have:¬ q.1<=r.1:=by simpa [gr_zero] using h
       rw [bothF,if_neg this]
     .have:=@addR_len O r; simp at hle; omega
end Go.Proofs.YtmbckodpbdlblaaGreat
namespace Go.Proofs.YtmbckodpbdlblaaGreat
open Go.V Go.V.Rn
theorem mkR_len(a b:Int):(mkR a b).length<=1:=by unfold mkR; split <;> simp
theorem take_spec{l:Sl}{w:Wd}{K:Int->Sl->Int->Wd->Prop}{L:List Run}(h:RdR w.heap l L)(hu:U32 L)(hn:L.length<=9223372036854775807)
    (k0:rightB L=false->∀ w',Ext No w w'->K 0 ⟨none,0,0⟩ 2 w') (k1:L=[]->∀ w',Ext No w w'->K 0 ⟨none,0,0⟩ 9 w')
    (k2:∀ r M,L=r::M->rightB L=true->∀ s w',OwnR w'.heap w.heap.size s (takeR L)->Ext No w w'->K r.1 s 0 w'):C_runs_Take l w K:=by
  apply S_runs_Take
  have hl:=h.len
  refine right_spec h hu hn fun w1 ext=>If.not (If.cases (fun hr=>?_) (fun hr=>k0 hr w1 ext))
  refine If.beq (fun h0=>k1 (List.length_eq_zero_iff.1 (by omega)) w1 ext) (fun h0=>?_)
  obtain ⟨r,M,rfl⟩:=cons_of_len (L:=L) (by omega)
  have hlen:=right_len hr hu
  have hrr:=hu.head
  have hlt:r.1 < r.2:=by
    have:=okFrom_beyond hr r List.mem_cons_self; exact this.2
  refine Ix.run (h.no ext) (by omega) (by omega) fun b o hb c1 c2=>⟨_,c1,_,c2,range_run fun b w3 hbs ext3 hb3=>?_⟩
  have e0:gr (r::M) (0:Int).toNat=r:=rfl
  rw [e0] at hb3
  have ext':=ext.no ext3
  refine ⟨_,Cell.lst hb3 rfl,Ar.u32 (by omega) ⟨_,Cell.lst hb3 rfl,make_spec fun s4 w4 own4 ext4=>?_⟩⟩
  have l4:=OwnR.len own4
  have hmk:=mkR_len (r.1+1) r.2
  have sz1:=ext.size
  have sz3:=ext3.size
  have sz4:=ext4.size
  have hblt:b < w3.heap.size:=(Array.getElem?_eq_some_iff.1 hb3).1
  refine app_api_Run (Own.nil _ w.heap.size _ _) (by omega) own4.rd.src (by simp only; omega) fun s5 w5 own5 len5 ext5 blk5=>?_
  simp only [List.nil_append] at own5
  have ext5':Ext No w4 w5:=ext5.mono fun i _ hi=>by simp [Sl.blk] at hi
  have sz5:=ext5'.size
  have hne:¬ s5.blk=some b:=by
    intro he
    rcases blk5 with h' | ⟨b',h',hge⟩
    · rw [he] at h'; simp [Sl.blk] at h'
    · rw [he] at h'; cases h'; omega
  have hb5:w5.heap[b]? = some (pairO r.1 r.2):=by
    rw [ext5'.blk b (by omega) id,ext4.blk b hblt id]; exact hb3
  have extw5:Ext No w w5:=(ext'.no ext4).no ext5'
  refine ⟨Ext (fun i=>s5.blk=some i) w5,(Ext.refl _ _).drew,_,Held.but (Cell.lst hb5 rfl) hne,?_⟩
  have rd5:RdR (drewW w5).heap l (r::M):=h.no extw5.drew
  have own5d:Own (drewW w5).heap w.heap.size T_api_Run 2 s5 (rc (mkR (r.1+1) r.2)):=own5
  refine Cut.tail rd5 fun s' rd' => app_api_Run own5d (by have : (drewW w5).heap.size = w5.heap.size := rfl
                                                          omega) rd'.src (by have:=rd'.len; simp only [List.length_cons] at hlen hl; simp only at len5; omega) fun s6 w6 own6 _ ext6 _=>⟨ext6.drew_left,?_⟩
  refine k2 r M rfl hr s6 w6 (by rw [OwnR,takeR,rc_app]; exact own6) (extw5.trans ext6.drew_left fun i hi hb=>?_)
  have:=(own5.lt hb).1; omega
theorem mk_one{p:Int}(h0:0<=p):mkR p (p+1)=[(p,p+1)]/\rightB [(p,p+1)]=true:=by
 refine ⟨by unfold mkR; rw [if_neg (by omega)],?_⟩
 simp only [rightB,okFrom,Bool.and_true,Bool.and_eq_true,decide_eq_true_eq]; omega
theorem give_spec{l:Sl}{p:Int}{w:Wd}{K:Sl->Int->Wd->Prop}{L:List Run}(h:RdR w.heap l L)(hu:U32 L)(hn:L.length<=9223372036854775807)(hp:0<=p/\p<=4294967295)
  (k0:rightB L=false->∀ w',Ext No w w'->K ⟨none,0,0⟩ 2 w') (k1:rightB L=true->p=4294967295->∀ w',Ext No w w'->K ⟨none,0,0⟩ 2 w')
  (k2:rightB L=true->p≠4294967295->hasB p L=true->∀ w',Ext No w w'->K ⟨none,0,0⟩ 8 w')
  (k3:rightB L=true->p≠4294967295->hasB p L=false->∀ s w',OwnR w'.heap w.heap.size s (bothR L [(p,p+1)])->Ext No w w'->K s 0 w'):C_runs_Give l p w K:=by
 apply S_runs_Give
 refine has_spec h hu hn fun w1 ext=>?_
 cases hr:rightB L with
 | false=>exact If.bne (fun _=>k0 hr w1 ext) (fun h=>by simp at h)
 | true =>
  refine If.bne (fun h=>by simp at h) (fun _=>If.beq (fun e=>k1 hr e w1 ext) (fun e=>If.cases (fun hh=>k2 hr e (by simpa using hh) w1 ext) (fun hh=>?_)))
  have hh':hasB p L=false:=by simpa using hh
  have hlen:=right_len hr hu
  obtain ⟨m1,m2⟩:=mk_one (p:=p) hp.1
  refine Ar.u32 (by omega) (make_spec fun s2 w2 own2 ext2=>?_)
  rw [m1] at own2
  have ext':=ext.no ext2
  refine both_spec (h.no ext') own2.rd hu (fun x hx=>by simp at hx; subst hx; exact ⟨by omega,by omega,by simp only; omega,by simp only; omega⟩) hn (by simp) fun s3 w3 own3 ext3=>?_
  rw [hr,m2] at own3 ⊢
  exact k3 hr e hh' s3 w3 (own3.mono ext'.size) (ext'.no ext3)
end Go.Proofs.YtmbckodpbdlblaaGreat
namespace Go.V.Pk
def numB(n:Nat):List Int:=if n < 128 then [(n:Int)] else ((n % 128+128:Nat):Int)::numB (n / 128)
termination_by n
theorem numB_lt{n:Nat}(h:n < 128):numB n=[(n:Int)]:=by rw [numB,if_pos h]
theorem numB_ge{n:Nat}(h:128<=n):numB n=((n % 128+128:Nat):Int)::numB (n / 128):=by rw [numB,if_neg (by omega)]
theorem numB_b8(n:Nat):B8 (numB n):=by
 induction n using Nat.strongRecOn with
 | _ n ih =>
  by_cases h:n < 128
  .rw [numB_lt h]; exact B8.cons (by omega) B8.nil
  .rw [numB_ge (by omega)]; exact B8.cons (by omega) (ih _ (by omega))
theorem numB_len:∀(k n:Nat),n < 128 ^ k->0 < k->(numB n).length<=k
 | 0,n,h,hk=>by omega
 | k+1,n,h,_=>by
  by_cases h1:n < 128
  .rw [numB_lt h1]; simp
  .rw [numB_ge (by omega)]
   rw [Nat.pow_succ] at h
   have hk:0 < k:=by
    rcases Nat.eq_zero_or_pos k with rfl | h'
    .simp at h; omega
    .exact h'
   have:=numB_len k (n / 128) (by omega) hk
   simp; omega
theorem numB_len10{n:Nat}(h:n < 18446744073709551616):(numB n).length<=10:=numB_len 10 n (Nat.lt_of_lt_of_le h (by decide)) (by decide)
theorem numB_ne(n:Nat):numB n≠[]:=by
 by_cases h:n < 128
 .rw [numB_lt h]; simp
 .rw [numB_ge (by omega)]; simp
end Go.V.Pk
