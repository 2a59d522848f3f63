/- Texts for LSoundNone,LSoundMade, part 9. -/
import Derived.Laws.Strings
import Derived.Test.YtcamoanigdfihaaGreatProg
import Derived.Test.YtcamoanigdfihaaGreatQsn8
namespace Go.V
theorem ofInt_toNat{n:Nat}{x:Int}(h0:0<=x)(h1:x < 2 ^ n):(BitVec.ofInt n x).toNat=x.toNat:=by
 rw [BitVec.toNat_ofInt]
 rw [Int.emod_eq_of_lt h0 (by exact_mod_cast h1)]
theorem bitI_or_u64{a b:Int}(ha:0<=a/\a<=18446744073709551615)(hb:0<=b/\b<=18446744073709551615):bitI .or .u64 a b=((a.toNat ||| b.toNat:Nat):Int):=by
 show IntKind.u64.wrap ((BitVec.ofInt 64 a ||| BitVec.ofInt 64 b).toNat:Int)=_
 rw [BitVec.toNat_or,ofInt_toNat ha.1 (by omega),ofInt_toNat hb.1 (by omega)]
 refine IntWalk.u64_in _ ⟨by omega,?_⟩
 have:a.toNat ||| b.toNat < 2 ^ 64:=Nat.or_lt_two_pow (by omega) (by omega)
 omega
theorem bitI_or_add{n x:Int}{i:Nat}(hn:0<=n/\n < 2 ^ i)(hx:0<=x)(hb:n+x * 2 ^ i<=18446744073709551615):bitI .or .u64 n (x * 2 ^ i)=n+x * 2 ^ i:=by
 have hp:(0:Int) < 2 ^ i:=Int.pow_pos (by omega)
 have hxx:0<=x * 2 ^ i:=Int.mul_nonneg hx (Int.le_of_lt hp)
 rw [bitI_or_u64 ⟨hn.1,by omega⟩ ⟨hxx,by omega⟩]
 obtain ⟨m,rfl⟩:=Int.eq_ofNat_of_zero_le hn.1
 obtain ⟨y,rfl⟩:=Int.eq_ofNat_of_zero_le hx
 have h1:m < 2 ^ i:=by exact_mod_cast hn.2
 have e1:((y:Int) * 2 ^ i).toNat=2 ^ i * y:=by
  have:((y:Int) * 2 ^ i)=((2 ^ i * y:Nat):Int):=by simp [Int.mul_comm]
  rw [this]; rfl
 rw [e1,Int.toNat_natCast,Nat.or_comm,<- Nat.two_pow_add_eq_or_of_lt h1]
 simp [Int.add_comm,Int.mul_comm]
theorem Held.no{w:World}{b o:Nat}{v:Value}(h:hcell w.heap b o=some v):Held (Ext No w) ⟨b,o,none⟩ v:=fun w' e=>by
 rw [cell_eq,hcell_congr (e.blk b (hcell_lt h) id)]; exact h
theorem Held.cell{w:World}{b o:Nat}{v:Value}(h:Cell w ⟨b,o,none⟩ v):Held (Ext No w) ⟨b,o,none⟩ v:=Held.no (by rw [<- cell_eq]; exact h)
theorem Held.but{S:Nat->Prop}{w:World}{b o:Nat}{v:Value}(h:Cell w ⟨b,o,none⟩ v)(hb:¬ S b):Held (Ext S w) ⟨b,o,none⟩ v:=fun w' e=>by
 have h':hcell w.heap b o=some v:=by rw [<- cell_eq]; exact h
 rw [cell_eq,hcell_congr (e.blk b (hcell_lt h') hb)]; exact h'
theorem Rd.lt{h:Array Obj}{s:Sl}{sz b:Nat}{cs:List Value}(r:Rd h s sz cs)(hne:cs≠[])(hb:s.blk=some b):b < h.size:=by
 obtain ⟨b',off,ha,hc⟩:=r.at_ hne
 simp [Sl.blk,ha] at hb
 subst hb
 exact hcell_lt (hc 0 (List.length_pos_iff.2 hne))
theorem St1.mk{w:World}{b o:Nat}{cs:List Value}{T:TypeId}{v:Value}{K:World->Prop}(hb:w.heap[b]? = some (.cells cs.toArray T (0,0)))(ho:o < cs.length)(hv:oneC v=true)
  (k:∀ w',Wrt w b (.cells (cs.set o v).toArray T (0,0)) w'->K w'):St1 w ⟨b,o,none⟩ v K :=
 ⟨cs.toArray,T,(0,0),hb,rfl,by simpa using ho, .inr (.inr (Nat.le_refl _)),hv,fun w' hw=>k w' hw⟩
theorem Cell.lst{w:World}{b o:Nat}{v:Value}{cs:List Value}{T:TypeId}{fz:Nat×Nat}(h:w.heap[b]? = some (.cells cs.toArray T fz))(hc:cs[o]? = some v):Cell w ⟨b,o,none⟩ v :=
 Cell.blk h (by simpa using hc)
def toB(l:List Int):List UInt8:=l.map fun n=>UInt8.ofNat n.toNat
theorem StrC.mk{C:Addr->Value->Prop}{w:World}{s:Sl}{l:List Int}{K:ByteArray->Prop}(h:Rd w.heap s 1 (l.map (Value.int .u8)))(hC:∀ b o v,hcell w.heap b o=some v->C ⟨b,o,none⟩ v)
  (k:K ⟨(toB l).toArray⟩):StrC C s K:=by
 refine ⟨toB l,⟨by simpa [toB] using h.len,fun i hi=>?_,fun hn=>?_⟩,k⟩
 .simp only [toB,List.length_map] at hi
  obtain ⟨b,off,ha,hc⟩:=h.at_ (by intro e; simp at e; subst e; simp at hi)
  refine ⟨_,l[i],ha,?_,by simp [toB]⟩
  rw [addr_add_none rfl]
  exact hC _ _ _ (by have:=hc i (by simpa using hi); rw [List.getElem_map] at this; exact this)
 .have:l=[]:=Classical.byContradiction fun hne=>by
   obtain ⟨b,off,ha,_⟩:=h.at_ (by simpa using hne)
   rw [hn] at ha; cases ha
  subst this; rfl
theorem toList_mk(bs:List UInt8):ByteArray.toList ⟨bs.toArray⟩=bs:=by
 simp [ByteArray.toList_eq]
theorem toB_inj{l m:List Int}(hl:B8 l)(hm:B8 m):toB l=toB m ↔ l=m:=by
 constructor
 .intro h
  induction l generalizing m with
  | nil=>cases m with
   | nil=>rfl
   | cons y m=>simp [toB] at h
  | cons x l ih=>cases m with
   | nil=>simp [toB] at h
   | cons y m =>
    simp only [toB,List.map_cons,List.cons.injEq] at h
    have h1:=hl x (by simp)
    have h2:=hm y (by simp)
    have e:x=y:=by
     have:=congrArg UInt8.toNat h.1
     simp only [UInt8.toNat_ofNat'] at this
     omega
    subst e
    rw [ih (hl.sub (by simp_all)) (hm.sub (by simp_all)) h.2]
 .intro h; rw [h]
end Go.V
namespace Go.V
theorem firstCells_rd{P:Program}{w:World}{s:Sl}{sz k:Nat}{cs:List Value}(h:Rd w.heap s sz cs)(hk:k<=s.len):(Builtin.firstCells sz k s.v).run P w = .ok (cs.take (k * sz)).toArray w:=by
 have hcut:=Rd.src (P:=P) (h.cut (lo:=0) (hi:=k) (mx:=s.cap) (Nat.zero_le _) hk (Nat.le_trans hk h.cap))
 have:=hcut.get w rfl
 simp only [Nat.zero_mul,List.drop_zero,Nat.sub_zero] at this
 rw [<- this]
 obtain ⟨a,n,c⟩:=s
 cases a with
 | none=>simp [Builtin.firstCells,cutA]
 | some a =>
  have e:a.add 0=a:=rfl
  simp [Builtin.firstCells,cutA,e]
theorem MkW.mk{w:World}{e:TypeId}{zs:List Value}{bytes:Nat}{l c:Int}{K:Sl->World->Prop}(h0:0<=l)(h1:l<=c)(h2:c<=9223372036854775807)(h3:bytes * c<=281474976710656)
  (k:∀ b w',New w (.cells (List.replicate c.toNat zs).flatten.toArray e) b w'->K ⟨some ⟨b,0,none⟩,l.toNat,c.toNat⟩ w'):MkW w e zs bytes l c K:=⟨h0,h1,h2,h3,fun b w' h=>k b w' h⟩
theorem Own.make{w w':World}{b l c:Nat}{e:TypeId}{zs:List Value}(h:New w (.cells (List.replicate c zs).flatten.toArray e) b w')(hl:l<=c)(hz:∀ v∈zs,oneC v=true) :
  Own w'.heap w.heap.size e zs.length ⟨some ⟨b,0,none⟩,l,c⟩ (List.replicate l zs).flatten:=by
 have e1:List.replicate c zs=List.replicate l zs++List.replicate (c - l) zs:=by rw [List.replicate_append_replicate]; congr 1; omega
 refine ⟨by simp, .inr ⟨b,(List.replicate (c - l) zs).flatten,rfl,by rw [h.at_]; exact Nat.le_refl _,?_,?_,hl⟩,?_⟩
 .rw [<- List.flatten_append,<- e1]; exact h.get
 .rw [<- List.flatten_append,<- e1]; simp
 .intro v hv
  simp only [List.mem_flatten,List.mem_replicate] at hv
  obtain ⟨x,⟨_,rfl⟩,hx⟩:=hv
  exact hz v hx
theorem St1.own{w:World}{base:Nat}{e:TypeId}{s:Sl}{cs:List Value}{i:Int}{v:Value}{K:World->Prop}(o:Own w.heap base e 1 s cs)(h0:0<=i)(h1:i < (s.len:Int))(hv:oneC v=true)
  (k:∀ w',Own w'.heap base e 1 s (cs.set i.toNat v)->Ext (fun b=>s.blk=some b) w w'->w'.heap.size=w.heap.size->K w'):Ix s.a s.len i 1 fun a=>St1 w a v K:=by
 have hl:cs.length=s.len:=by simpa using o.len
 rcases o.is with ⟨rfl,rfl⟩ | ⟨b,rest,ha,hle,hb,hc,hcap⟩
 .simp at h1; omega
 .refine ⟨_,ha,h0,h1,?_⟩
  rw [addr_add_none rfl]
  simp only [Nat.zero_add,Nat.mul_one]
  refine St1.mk hb (by simp; omega) hv fun w' hw=>k w' ⟨by simpa using o.len, .inr ⟨b,rest,ha,hle,?_,by simpa using hc,hcap⟩,fun u hu=>?_⟩ (hw.ext.mono fun j _ hj=>by subst hj; simp [Sl.blk,ha]) hw.size
  .rw [hw.get hb,List.set_append_left _ _ (by omega)]
  .rcases List.mem_or_eq_of_mem_set hu with h | h
   .exact o.cells u h
   .subst h; exact hv
end Go.V
set_option maxRecDepth 100000
namespace Go.Proofs.YtcamoanigdfihaaGreat
open Go.V
theorem app_api_Ref{w:World}{base:Nat}{s:Sl}{x:Value}{n:Nat}{cs xs:List Value}{K:Sl->World->Prop}(own:Own w.heap base 36 3 s cs)(hbase:base<=w.heap.size)(src:Src Tryz.prog w x 3 n xs)(hb:(s.len+n) * 24<=140737488355328)
  (hk:∀ s' w',Own w'.heap base 36 3 s' (cs++xs)->s'.len=s.len+n->Ext (fun b=>s.blk=some b) w w'->(s'.blk=s.blk∨∃ b,s'.blk=some b/\w.heap.size<=b)->K s' w'):AppW Tryz.prog 27 27 s x K w :=
 app_own (P:=Tryz.prog) (e:=36) (d := .slice 36) (ie:=Tryz.t36) (z:=Tryz.t36.zero.getD .nilFunc) (by kernel_rfl) (by kernel_rfl) (fun k h=>by cases h) (by kernel_rfl) (by kernel_rfl) (by kernel_rfl) (by kernel_rfl) (by decide) own hbase src hb hk
theorem app_sl_uint8{w:World}{base:Nat}{s:Sl}{x:Value}{n:Nat}{cs xs:List Value}{K:Sl->World->Prop}(own:Own w.heap base 40 1 s cs)(hbase:base<=w.heap.size)(src:Src Tryz.prog w x 1 n xs)(hb:(s.len+n) * 24<=140737488355328)
  (hk:∀ s' w',Own w'.heap base 40 1 s' (cs++xs)->s'.len=s.len+n->Ext (fun b=>s.blk=some b) w w'->(s'.blk=s.blk∨∃ b,s'.blk=some b/\w.heap.size<=b)->K s' w'):AppW Tryz.prog 29 29 s x K w :=
 app_own (P:=Tryz.prog) (e:=40) (d := .slice 40) (ie:=Tryz.t40) (z:=Tryz.t40.zero.getD .nilFunc) (by kernel_rfl) (by kernel_rfl) (fun k h=>by cases h) (by kernel_rfl) (by kernel_rfl) (by kernel_rfl) (by kernel_rfl) (by decide) own hbase src hb hk
theorem app_api_Entry{w:World}{base:Nat}{s:Sl}{x:Value}{n:Nat}{cs xs:List Value}{K:Sl->World->Prop}(own:Own w.heap base 133 9 s cs)(hbase:base<=w.heap.size)(src:Src Tryz.prog w x 9 n xs)(hb:(s.len+n) * 104<=140737488355328)
  (hk:∀ s' w',Own w'.heap base 133 9 s' (cs++xs)->s'.len=s.len+n->Ext (fun b=>s.blk=some b) w w'->(s'.blk=s.blk∨∃ b,s'.blk=some b/\w.heap.size<=b)->K s' w'):AppW Tryz.prog 37 37 s x K w :=
 app_own (P:=Tryz.prog) (e:=133) (d := .slice 133) (ie:=Tryz.t133) (z:=Tryz.t133.zero.getD .nilFunc) (by kernel_rfl) (by kernel_rfl) (fun k h=>by cases h) (by kernel_rfl) (by kernel_rfl) (by kernel_rfl) (by kernel_rfl) (by decide) own hbase src hb hk
theorem app_uint8{w:World}{base:Nat}{s:Sl}{x:Value}{n:Nat}{cs xs:List Value}{K:Sl->World->Prop}(own:Own w.heap base 5 1 s cs)(hbase:base<=w.heap.size)(src:Src Tryz.prog w x 1 n xs)(hb:(s.len+n) * 1<=140737488355328)
  (hk:∀ s' w',Own w'.heap base 5 1 s' (cs++xs)->s'.len=s.len+n->Ext (fun b=>s.blk=some b) w w'->(s'.blk=s.blk∨∃ b,s'.blk=some b/\w.heap.size<=b)->K s' w'):AppW Tryz.prog 40 40 s x K w :=
 app_own (P:=Tryz.prog) (e:=5) (d := .slice 5) (ie:=Tryz.t5) (z:=Tryz.t5.zero.getD .nilFunc) (by kernel_rfl) (by kernel_rfl) (fun k h=>by cases h) (by kernel_rfl) (by kernel_rfl) (by kernel_rfl) (by kernel_rfl) (by decide) own hbase src hb hk
abbrev T_api_Op:TypeId:=58
theorem app_api_Pair{w:World}{base:Nat}{s:Sl}{x:Value}{n:Nat}{cs xs:List Value}{K:Sl->World->Prop}(own:Own w.heap base 70 2 s cs)(hbase:base<=w.heap.size)(src:Src Tryz.prog w x 2 n xs)(hb:(s.len+n) * 48<=140737488355328)
  (hk:∀ s' w',Own w'.heap base 70 2 s' (cs++xs)->s'.len=s.len+n->Ext (fun b=>s.blk=some b) w w'->(s'.blk=s.blk∨∃ b,s'.blk=some b/\w.heap.size<=b)->K s' w'):AppW Tryz.prog 62 62 s x K w :=
 app_own (P:=Tryz.prog) (e:=70) (d := .slice 70) (ie:=Tryz.t70) (z:=Tryz.t70.zero.getD .nilFunc) (by kernel_rfl) (by kernel_rfl) (fun k h=>by cases h) (by kernel_rfl) (by kernel_rfl) (by kernel_rfl) (by kernel_rfl) (by decide) own hbase src hb hk
theorem app_api_Label{w:World}{base:Nat}{s:Sl}{x:Value}{n:Nat}{cs xs:List Value}{K:Sl->World->Prop}(own:Own w.heap base 106 6 s cs)(hbase:base<=w.heap.size)(src:Src Tryz.prog w x 6 n xs)(hb:(s.len+n) * 32<=140737488355328)
  (hk:∀ s' w',Own w'.heap base 106 6 s' (cs++xs)->s'.len=s.len+n->Ext (fun b=>s.blk=some b) w w'->(s'.blk=s.blk∨∃ b,s'.blk=some b/\w.heap.size<=b)->K s' w'):AppW Tryz.prog 65 65 s x K w :=
 app_own (P:=Tryz.prog) (e:=106) (d := .slice 106) (ie:=Tryz.t106) (z:=Tryz.t106.zero.getD .nilFunc) (by kernel_rfl) (by kernel_rfl) (fun k h=>by cases h) (by kernel_rfl) (by kernel_rfl) (by kernel_rfl) (by kernel_rfl) (by decide) own hbase src hb hk
theorem app_string{w:World}{base:Nat}{s:Sl}{x:Value}{n:Nat}{cs xs:List Value}{K:Sl->World->Prop}(own:Own w.heap base 9 1 s cs)(hbase:base<=w.heap.size)(src:Src Tryz.prog w x 1 n xs)(hb:(s.len+n) * 16<=140737488355328)
  (hk:∀ s' w',Own w'.heap base 9 1 s' (cs++xs)->s'.len=s.len+n->Ext (fun b=>s.blk=some b) w w'->(s'.blk=s.blk∨∃ b,s'.blk=some b/\w.heap.size<=b)->K s' w'):AppW Tryz.prog 156 156 s x K w :=
 app_own (P:=Tryz.prog) (e:=9) (d := .slice 9) (ie:=Tryz.t9) (z:=Tryz.t9.zero.getD .nilFunc) (by kernel_rfl) (by kernel_rfl) (fun k h=>by cases h) (by kernel_rfl) (by kernel_rfl) (by kernel_rfl) (by kernel_rfl) (by decide) own hbase src hb hk
end Go.Proofs.YtcamoanigdfihaaGreat
namespace Go.V
section
variable {α:Type} {f:α->List Value} {n:Nat}
theorem flat_len':∀{l:List α},(∀ x∈l,(f x).length=n)->(l.flatMap f).length=l.length * n
 | [],_=>by simp
 | x::l,h=>by
  rw [List.flatMap_cons,List.length_append,h x List.mem_cons_self,flat_len' fun y hy=>h y (List.mem_cons_of_mem _ hy),List.length_cons,Nat.add_mul]; omega
theorem flat_get:∀{l:List α}{i j:Nat}(_:∀ x∈l,(f x).length=n)(hi:i < l.length)(_:j < n),(l.flatMap f)[i * n+j]? = (f l[i])[j]?
 | [],i,j,_,hi,_=>by simp at hi
 | x::l,0,j,h,hi,hj=>by
  have:=h x List.mem_cons_self
  rw [List.flatMap_cons,Nat.zero_mul,Nat.zero_add,List.getElem?_append_left (by omega)]; rfl
 | x::l,i+1,j,h,hi,hj=>by
  have h1:=h x List.mem_cons_self
  have e:(i+1) * n+j=(f x).length+(i * n+j):=by rw [h1,Nat.add_mul]; omega
  rw [List.flatMap_cons,e,List.getElem?_append_right (by omega),Nat.add_sub_cancel_left,flat_get (fun y hy=>h y (List.mem_cons_of_mem _ hy)) (by simpa using hi) hj]
  rfl
theorem setL_app_left:∀(vs a b:List Value)(o:Nat),o+vs.length<=a.length->setL (a++b) o vs=setL a o vs++b
 | [],a,b,o,_=>rfl
 | v::vs,a,b,o,h=>by
  simp only [List.length_cons] at h
  rw [setL,setL,List.set_append_left _ _ (by omega),setL_app_left vs _ _ _ (by simp; omega)]
theorem setL_app_right:∀(vs a b:List Value)(o:Nat),setL (a++b) (a.length+o) vs=a++setL b o vs
 | [],a,b,o=>rfl
 | v::vs,a,b,o=>by
  rw [setL,setL,List.set_append_right _ _ (by omega),Nat.add_sub_cancel_left,Nat.add_assoc,setL_app_right vs]
theorem setL_all(vs a:List Value)(h:vs.length=a.length):setL a 0 vs=vs:=by
 rw [setL_parts _ _ _ (by omega)]; simp [h]
theorem flat_set:∀{l:List α}{i o:Nat}{vs:List Value}{y:α}(_:∀ x∈l,(f x).length=n)(hi:i < l.length)(_:o+vs.length<=n)(_:f y=setL (f l[i]) o vs),setL (l.flatMap f) (i * n+o) vs=(l.set i y).flatMap f
 | [],i,o,vs,y,_,hi,_,_=>by simp at hi
 | x::l,0,o,vs,y,h,hi,ho,hy=>by
  have:=h x List.mem_cons_self
  rw [List.flatMap_cons,Nat.zero_mul,Nat.zero_add,setL_app_left _ _ _ _ (by omega),List.set_cons_zero,List.flatMap_cons,hy]; rfl
 | x::l,i+1,o,vs,y,h,hi,ho,hy=>by
  have h1:=h x List.mem_cons_self
  have e:(i+1) * n+o=(f x).length+(i * n+o):=by rw [h1,Nat.add_mul]; omega
  rw [List.flatMap_cons,e,setL_app_right,flat_set (fun y hy=>h y (List.mem_cons_of_mem _ hy)) (by simpa using hi) ho hy,List.set_cons_succ,List.flatMap_cons]
end
section
variable {w:World} {base:Nat} {e:TypeId} {sz:Nat} {s:Sl} {cs:List Value}
theorem Own.place{h:Array Obj}(o:Own h base e sz s cs)(hne:cs≠[]):∃ b rest,s.a=some ⟨b,0,none⟩/\base<=b/\h[b]? = some (.cells (cs++rest).toArray e (0,0))/\(cs++rest).length=s.cap * sz/\s.len<=s.cap:=by
 rcases o.is with ⟨_,rfl⟩ | h
 .exact absurd rfl hne
 .exact h
theorem Own.upd{w':World}{b off:Nat}{rest vs:List Value}(o:Own w.heap base e sz s cs)(ha:s.a=some ⟨b,0,none⟩)(hle:base<=b)(hb:w.heap[b]? = some (.cells (cs++rest).toArray e (0,0)))(hc:(cs++rest).length=s.cap * sz)(hcap:s.len<=s.cap)
  (hw:Wrt w b (.cells (setL (cs++rest) off vs).toArray e (0,0)) w') (hv:∀ v∈vs,oneC v=true) (ho:off+vs.length<=cs.length) :
  Own w'.heap base e sz s (setL cs off vs)/\Ext (fun i=>s.blk=some i) w w'/\w'.heap.size=w.heap.size:=by
 refine ⟨⟨by rw [length_setL]; exact o.len, .inr ⟨b,rest,ha,hle,?_,?_,hcap⟩,fun v h=>?_⟩,hw.ext.mono fun i _ hi=>by subst hi; simp [Sl.blk,ha],hw.size⟩
 .rw [hw.get hb,setL_app_left _ _ _ _ ho]
 .rw [List.length_append,length_setL,<- List.length_append]; exact hc
 .rw [setL_parts _ _ _ ho] at h
  rcases List.mem_append.1 h with h | h
  .exact o.cells v (List.mem_of_mem_take h)
  .rcases List.mem_append.1 h with h | h
   .exact hv v h
   .exact o.cells v (List.mem_of_mem_drop h)
theorem St1.at_{b off:Nat}{v:Value}{K:World->Prop}(o:Own w.heap base e sz s cs)(ha:s.a=some ⟨b,0,none⟩)(h1:off < cs.length)(hv:oneC v=true)
  (k:∀ w',Own w'.heap base e sz s (cs.set off v)->Ext (fun i=>s.blk=some i) w w'->w'.heap.size=w.heap.size->K w'):St1 w ⟨b,off,none⟩ v K:=by
 have hne:cs≠[]:=by intro e; subst e; simp at h1
 obtain ⟨b',rest,ha',hba,hb,hc,hcap⟩:=o.place hne
 rw [ha] at ha'; cases ha'
 refine St1.mk hb (by simp; omega) hv fun w' hw=>?_
 have hw':Wrt w b (.cells (setL (cs++rest) off [v]).toArray e (0,0)) w':=hw
 obtain ⟨a1,a2,a3⟩:=o.upd ha hba hb hc hcap hw' (by simpa using hv) (by simp; omega)
 exact k w' a1 a2 a3
end
theorem Ix.elem{α:Type}{f:α->List Value}{n:Nat}{w:World}{s:Sl}{l:List α}{i:Int}{K:Addr->Prop}(h:Rd w.heap s n (l.flatMap f))(hf:∀ x∈l,(f x).length=n)(hn:0 < n)(h0:0<=i)(h1:i < (s.len:Int))
  (k:∀ b o (hi:i.toNat < l.length),s.blk=some b->(∀ j v,(f l[i.toNat])[j]? = some v->Cell w ⟨b,o+j,none⟩ v)->K ⟨b,o,none⟩):Ix s.a s.len i n K:=by
 have hl:l.length=s.len:=by have:=h.len; rw [flat_len' hf] at this; exact Nat.eq_of_mul_eq_mul_right hn this
 have hlt:i.toNat < l.length:=by omega
 have hfl:=flat_len' hf
 have hle:i.toNat * n+n<=(l.flatMap f).length:=by
  rw [hfl]; have:(i.toNat+1) * n<=l.length * n:=Nat.mul_le_mul_right _ (by omega)
  rw [Nat.add_mul] at this; omega
 obtain ⟨b,off,ha,hc⟩:=h.at_ (by intro e; rw [e] at hle; simp at hle; omega)
 refine ⟨_,ha,h0,h1,?_⟩
 rw [addr_add_none rfl]
 refine k b _ hlt (by simp [Sl.blk,ha]) fun j v hv=>?_
 have hj:j < n:=by
  have:=hf _ (List.getElem_mem hlt)
  rcases Nat.lt_or_ge j n with h | h
  .exact h
  .rw [List.getElem?_eq_none (by omega)] at hv; cases hv
 have hg:=flat_get (i:=i.toNat) (j:=j) hf hlt hj
 rw [hv] at hg
 obtain ⟨hlt2,hval⟩:=List.getElem?_eq_some_iff.1 hg
 refine Cell.mk ?_
 simp only
 rw [Nat.add_assoc,hc _ hlt2,hval]
end Go.V
namespace Go.V
def be:Nat->Int->List Int
 | 0,_=>[]
 | k+1,n=>be k (n / 256)++[n % 256]
theorem be_len:∀(k:Nat)(n:Int),(be k n).length=k
 | 0,_=>rfl
 | k+1,n=>by simp [be,be_len k]
theorem be_b8:∀(k:Nat)(n:Int),B8 (be k n)
 | 0,_=>B8.nil
 | k+1,n=>(be_b8 k _).append (B8.cons (by omega) B8.nil)
def num(l:List Int):Int:=l.foldl (fun n x=>n * 256+x) 0
theorem num_snoc(l:List Int)(x:Int):num (l++[x])=num l * 256+x:=by simp [num]
theorem numF_bd:∀(l:List Int)(a:Int),B8 l->0<=a->0<=l.foldl (fun n x=>n * 256+x) a/\l.foldl (fun n x=>n * 256+x) a < (a+1) * 256 ^ l.length
 | [],a,_,h=>by simp; omega
 | x::l,a,h8,h=>by
  have hx:=h8 x List.mem_cons_self
  have ih:=numF_bd l (a * 256+x) (h8.sub fun _ h=>List.mem_cons_of_mem _ h) (by omega)
  rw [List.foldl_cons,List.length_cons,Int.pow_succ]
  refine ⟨ih.1,Int.lt_of_lt_of_le ih.2 ?_⟩
  rw [Int.mul_comm (256 ^ l.length) 256,<- Int.mul_assoc]
  exact Int.mul_le_mul_of_nonneg_right (by omega) (Int.le_of_lt (Int.pow_pos (by omega)))
theorem num_nonneg{l:List Int}(h:B8 l):0<=num l:=(numF_bd l 0 h (by omega)).1
theorem num_be:∀(k:Nat){n:Int},0<=n->n < 256 ^ k->num (be k n)=n
 | 0,n,h0,h1=>by simp at h1; simp [be,num]; omega
 | k+1,n,h0,h1=>by
  have e:(256:Int) ^ (k+1)=256 ^ k * 256:=Int.pow_succ _ _
  rw [be,num_snoc,num_be k (by omega) (by omega)]
  omega
theorem num_lt{l:List Int}(h:B8 l):num l < 256 ^ l.length:=by have:=(numF_bd l 0 h (by omega)).2; simpa [num] using this
theorem bitI_or_low{n x:Int}(hn:0<=n)(hx:0<=x/\x<=255)(hb:n * 256+x<=18446744073709551615):bitI .or .u64 (n * 256) x=n * 256+x:=by
 have h:=bitI_or_add (n:=x) (x:=n) (i:=8) ⟨hx.1,by omega⟩ hn (by omega)
 have e:(2:Int) ^ 8=256:=rfl
 rw [e] at h
 rw [bitI_or_u64 ⟨by omega,by omega⟩ ⟨by omega,by omega⟩] at h ⊢
 rw [Nat.or_comm]
 rw [h]; omega
theorem bitI_or_u8_zero{a b:Int}(ha:0<=a/\a<=255)(hb:0<=b/\b<=255):0<=bitI .or .u8 a b/\bitI .or .u8 a b<=255/\(bitI .or .u8 a b=0 ↔ a=0/\b=0):=by
 have hA:(BitVec.ofInt 8 a).toNat=a.toNat:=ofInt_toNat ha.1 (by omega)
 have hB:(BitVec.ofInt 8 b).toNat=b.toNat:=ofInt_toNat hb.1 (by omega)
 have e:bitI .or .u8 a b=((a.toNat ||| b.toNat:Nat):Int):=by
  show IntKind.u8.wrap ((BitVec.ofInt 8 a ||| BitVec.ofInt 8 b).toNat:Int)=_
  rw [BitVec.toNat_or,hA,hB]
  refine IntWalk.u8_in _ ⟨by omega,?_⟩
  have:a.toNat ||| b.toNat < 2 ^ 8:=Nat.or_lt_two_pow (by omega) (by omega)
  omega
 have hlt:a.toNat ||| b.toNat < 2 ^ 8:=Nat.or_lt_two_pow (by omega) (by omega)
 refine ⟨by omega,by omega,?_⟩
 rw [e]
 have:(a.toNat ||| b.toNat=0) ↔ a.toNat=0/\b.toNat=0:=Nat.or_eq_zero_iff
 omega
theorem zeroCells_one(z:Value)(n:Nat):Builtin.zeroCells #[z] n=(List.replicate n z).toArray:=by
 apply Array.toList_inj.1
 simp only [Builtin.zeroCells,Array.toList_map,Array.toList_range]
 apply List.ext_getElem (by simp)
 intro i h1 h2
 simp [Nat.mod_one]
theorem app_zero{P:Program}{t t' e:TypeId}{k:IntKind}{ie:TypeInfo}{z:Value}{w:World}{base:Nat}{s:Sl}{n:Nat}{cs:List Value}{K:Sl->World->Prop}
  (ht:P.underlying t=some (.slice e)) (ht':P.underlying t'=some (.int k)) (hi:P.info? e=some ie) (hz:ie.zero=some z) (hsz:ie.size=1) (hzs:z.cells=#[z]) (hz1:oneC z=true) (hby:ie.bytes=1)
  (own:Own w.heap base e 1 s cs) (hbase:base<=w.heap.size) (hb:s.len+n<=140737488355328)
  (hk:∀ s' w',Own w'.heap base e 1 s' (cs++List.replicate n z)->s'.len=s.len+n->Ext (fun b=>s.blk=some b) w w'->(s'.blk=s.blk∨∃ b,s'.blk=some b/\w.heap.size<=b)->K s' w'):AppW P t t' s (.int .i64 n) K w:=by
 have rd:=own.rd
 have hlen:=own.len
 simp only [Nat.mul_one] at hlen
 have hwr:IntKind.i64.wrap (n:Int)=n:=IntWalk.i64_in _ ⟨by omega,by omega⟩
 have hap:∀ w':World,((if n=0 then pure #[] else do pure (Builtin.zeroCells (<- zeroValue e).cells n)):Sem (Array Value)).run P w' = .ok (List.replicate n z).toArray w':=fun w'=>by
  by_cases h0:n=0
  .subst h0; simp
  .simp only [if_neg h0,Sem.run_bind,run_zero hi hz,Result.andThen_ok,hzs,zeroCells_one,Sem.run_pure]
 have h48:¬ (281474976710656 < (n:Int)):=by omega
 have hn0:¬ ((n:Int) < 0):=by omega
 by_cases hfit:s.len+n<=s.cap
 .rcases own.is with ⟨rfl,rfl⟩ | ⟨b,rest,ha,hle,hblk,hl,hc⟩
  .have hn:n=0:=by simp at hfit; omega
   subst hn
   refine ⟨⟨none,0,0⟩,w,fun ty=>?_,hk _ _ (by simpa using own) rfl (Ext.refl _ _) (.inl rfl)⟩
   have hw0:IntKind.i64.wrap 0=0:=rfl
   simp [Builtin.append_,run_und ht,run_und ht',run_size hi,hsz,asInt,asIntOf,hw0,run_info hi,hby]
  .simp only [Nat.mul_one] at hl
   have hlt:cs.length+(List.replicate n z).length<=(cs++rest).length:=by simp only [List.length_replicate]; omega
   have hst:=StN_run (P:=P) (b:=b) (T:=e) (fz:=(0,0)) (List.replicate n z) w (cs++rest).toArray cs.length 0 hblk (by simpa using hlt) (.inr (.inr (Nat.le_refl _))) (fun v hv=>by rw [List.mem_replicate] at hv; rw [hv.2]; exact hz1)
   have hset:setL (cs++rest) cs.length (List.replicate n z)=cs++(List.replicate n z++rest.drop n):=by
    rw [setL_eq _ _ _ hlt]
    simp [List.drop_append]
   refine ⟨⟨s.a,s.len+n,s.cap⟩,World.setBlk w b (.cells (cs++List.replicate n z++rest.drop n).toArray e (0,0)),fun ty=>?_,hk _ _ ?_ rfl ?_ (.inl rfl)⟩
   .obtain ⟨sa,sl,sc⟩:=s
    simp only at ha
    subst ha
    simp only at hlen hfit
    have ea:(⟨b,0,none⟩ : Addr).add sl=⟨b,cs.length,none⟩:=by rw [addr_add_none rfl,hlen]; simp
    have h1:=hap w
    simp only [Nat.add_zero] at hst
    by_cases h0:n=0
    .subst h0
     have hw0:IntKind.i64.wrap 0=0:=rfl
     simp at hst hset
     have hc2:sl<=sc:=by simpa using hfit
     simp [hc2,Builtin.append_,run_und ht,run_und ht',run_size hi,hsz,asInt,asIntOf,hw0,run_info hi,hby,ea,hst,hset]
    .simp only [if_neg h0] at h1
     simp [Builtin.append_,run_und ht,run_und ht',run_size hi,hsz,asInt,asIntOf,hwr,run_info hi,hby,hfit,ea,hst,hset,h0,run_zero hi hz,hzs,zeroCells_one,hn0,h48]
   .refine ⟨by simp; omega, .inr ⟨b,rest.drop n,ha,hle,?_,?_,hfit⟩,fun v hv=>?_⟩
    .exact heap_setBlk hblk
    .simp only [List.length_append,List.length_replicate,List.length_drop,Nat.mul_one] at hlt hl ⊢
     omega
    .rcases List.mem_append.1 hv with h | h
     .exact own.cells v h
     .rw [List.mem_replicate] at h; rw [h.2]; exact hz1
   .refine (Wrt.ext (w:=w) (b:=b) rfl).mono fun i _ hi=>?_
    subst hi; simp [Sl.blk,ha]
 .have hcap:s.cap < s.len+n:=by omega
  have hfits:=growslice_fits (bytes:=ie.bytes) hcap (by rw [hby]; omega)
  have hge:=grownCap_ge (w:=w) (need:=s.len+n) (old:=s.cap) (e:=e)
  have hold:=(rd.src (P:=P)).get (drewW w) rfl
  have hn1:n≠0:=by have:=rd.cap; omega
  refine ⟨⟨some ⟨w.heap.size,0,none⟩,s.len+n,grownCap w (s.len+n) s.cap e⟩,World.pushBlk (drewW w) (.cells (cs++(List.replicate n z++List.replicate (grownCap w (s.len+n) s.cap e - (s.len+n)) z)).toArray e),fun ty=>?_,hk _ _ ?_ rfl ?_ (.inr ⟨w.heap.size,rfl,Nat.le_refl _⟩)⟩
  .obtain ⟨sa,sl,sc⟩:=s
   simp only at hfit hfits hold hge hcap
   have hnot:¬ (Builtin.nextslicecap (sl+n) sc > 281474976710656):=by rw [hby] at hfits; omega
   have hmax:¬ ((sl:Int)+(n:Int) > IntKind.i64.max):=by
    have:IntKind.i64.max=9223372036854775807:=rfl
    simp only at hb; omega
   have hmax2:¬ (9223372036854775807 < (sl:Int)+(n:Int)):=by simp only at hb; omega
   simp [hn0,h48,hmax2,-run_choose,Builtin.append_,run_und ht,run_und ht',run_size hi,hsz,asInt,asIntOf,hwr,hfit,run_info hi,hby,hnot,run_choose_cap,hold,hn1,run_zero hi hz,hzs,zeroCells_one,run_newRow]
   refine ⟨rfl,?_⟩
   congr 2
   apply Array.toList_inj.1
   simp
  .refine ⟨by simp; omega, .inr ⟨w.heap.size,List.replicate (grownCap w (s.len+n) s.cap e - (s.len+n)) z,rfl,hbase,?_,?_,hge⟩,fun v hv=>?_⟩
   .unfold World.pushBlk drewW
    simp only [Array.getElem?_push,if_true,List.append_assoc]
   .simp only [List.length_append,List.length_replicate,hlen,Nat.mul_one]; omega
   .rcases List.mem_append.1 hv with h | h
    .exact own.cells v h
    .rw [List.mem_replicate] at h; rw [h.2]; exact hz1
  .refine ⟨rfl,rfl,rfl,by simp [World.pushBlk,drewW],fun i hi _=>?_⟩
   simp only [World.pushBlk,drewW]
   exact heap_push _ _ _ hi
end Go.V
namespace Go.V
theorem be_get:∀{k j:Nat}{n:Int},j < k->(be k n).getD (k - 1 - j) 0=n / 256 ^ j % 256
 | 0,j,n,h=>by omega
 | k+1,0,n,_=>by
  rw [be,List.getD_eq_getElem?_getD,List.getElem?_append_right (by rw [be_len]; omega),be_len]
  simp
 | k+1,j+1,n,h=>by
  rw [be,List.getD_eq_getElem?_getD,List.getElem?_append_left (by rw [be_len]; omega),<- List.getD_eq_getElem?_getD,show k+1 - 1 - (j+1)=k - 1 - j by omega,be_get (by omega),Int.ediv_ediv_of_nonneg (by decide),Int.pow_succ,Int.mul_comm]
end Go.V
namespace Go.V
theorem take_snoc{l:List Int}{j:Nat}(h:j < l.length):l.take (j+1)=l.take j++[l.getD j 0]:=by
 rw [List.take_add_one,List.getD_eq_getElem?_getD,List.getElem?_eq_getElem h]; rfl
theorem p256{j k:Nat}(h:j<=k):(256:Int) ^ j<=256 ^ k:=by
 obtain ⟨d,rfl⟩:=Nat.le.dest h
 rw [Int.pow_add]
 have h1:(0:Int) < 256 ^ d:=Int.pow_pos (by decide)
 have h2:(0:Int) < 256 ^ j:=Int.pow_pos (by decide)
 calc (256:Int) ^ j=256 ^ j * 1:=by rw [Int.mul_one]
  _<=_:=Int.mul_le_mul_of_nonneg_left (by omega) (by omega)
end Go.V
