/- Texts for LTreeMem, part 7. -/
import Derived.Laws.Strings
import Derived.Test.YtcamoanigdfihaaGreatQm6
namespace Go.V
theorem ofInt_toNat{n:Nat}{x:Int}(h0:0<=x)(h1:x < 2 ^ n):(BitVec.ofInt n x).toNat=x.toNat:=by
 rw [BitVec.toNat_ofInt]
 rw [Int.emod_eq_of_lt h0 (by exact_mod_cast h1)]
theorem bitI_or_u64{a b:Int}(ha:0<=a/\a<=18446744073709551615)(hb:0<=b/\b<=18446744073709551615):bitI .or .u64 a b=((a.toNat ||| b.toNat:Nat):Int):=by
 show IntKind.u64.wrap ((BitVec.ofInt 64 a ||| BitVec.ofInt 64 b).toNat:Int)=_
 rw [BitVec.toNat_or,ofInt_toNat ha.1 (by omega),ofInt_toNat hb.1 (by omega)]
 refine IntWalk.u64_in _ ⟨by omega,?_⟩
 have:a.toNat ||| b.toNat < 2 ^ 64:=Nat.or_lt_two_pow (by omega) (by omega)
 omega
theorem bitI_or_add{n x:Int}{i:Nat}(hn:0<=n/\n < 2 ^ i)(hx:0<=x)(hb:n+x * 2 ^ i<=18446744073709551615):bitI .or .u64 n (x * 2 ^ i)=n+x * 2 ^ i:=by
 have hp:(0:Int) < 2 ^ i:=Int.pow_pos (by omega)
 have hxx:0<=x * 2 ^ i:=Int.mul_nonneg hx (Int.le_of_lt hp)
 rw [bitI_or_u64 ⟨hn.1,by omega⟩ ⟨hxx,by omega⟩]
 obtain ⟨m,rfl⟩:=Int.eq_ofNat_of_zero_le hn.1
 obtain ⟨y,rfl⟩:=Int.eq_ofNat_of_zero_le hx
 have h1:m < 2 ^ i:=by exact_mod_cast hn.2
 have e1:((y:Int) * 2 ^ i).toNat=2 ^ i * y:=by
  have:((y:Int) * 2 ^ i)=((2 ^ i * y:Nat):Int):=by simp [Int.mul_comm]
  rw [this]; rfl
 rw [e1,Int.toNat_natCast,Nat.or_comm,<- Nat.two_pow_add_eq_or_of_lt h1]
 simp [Int.add_comm,Int.mul_comm]
theorem Held.no{w:Wd}{b o:Nat}{v:Value}(h:hcell w.heap b o=some v):Held (Ext No w) ⟨b,o,none⟩ v:=fun w' e=>by
 rw [cell_eq,hcell_congr (e.blk b (hcell_lt h) id)]; exact h
theorem Held.cell{w:Wd}{b o:Nat}{v:Value}(h:Cell w ⟨b,o,none⟩ v):Held (Ext No w) ⟨b,o,none⟩ v:=Held.no (by rw [<- cell_eq]; exact h)
theorem Held.but{S:Nat->Prop}{w:Wd}{b o:Nat}{v:Value}(h:Cell w ⟨b,o,none⟩ v)(hb:¬ S b):Held (Ext S w) ⟨b,o,none⟩ v:=fun w' e=>by
 have h':hcell w.heap b o=some v:=by rw [<- cell_eq]; exact h
 rw [cell_eq,hcell_congr (e.blk b (hcell_lt h') hb)]; exact h'
theorem Rd.lt{h:Array Obj}{s:Sl}{sz b:Nat}{cs:List Value}(r:Rd h s sz cs)(hne:cs≠[])(hb:s.blk=some b):b < h.size:=by
 obtain ⟨b',off,ha,hc⟩:=r.at_ hne
 simp [Sl.blk,ha] at hb
 subst hb
 exact hcell_lt (hc 0 (List.length_pos_iff.2 hne))
theorem St1.mk{w:Wd}{b o:Nat}{cs:List Value}{T:TypeId}{v:Value}{K:Wd->Prop}(hb:w.heap[b]? = some (.cells cs.toArray T (0,0)))(ho:o < cs.length)(hv:oneC v=true)
  (k:∀ w',Wrt w b (.cells (cs.set o v).toArray T (0,0)) w'->K w'):St1 w ⟨b,o,none⟩ v K :=
 ⟨cs.toArray,T,(0,0),hb,rfl,by simpa using ho, .inr (.inr (Nat.le_refl _)),hv,fun w' hw=>k w' hw⟩
theorem Cell.lst{w:Wd}{b o:Nat}{v:Value}{cs:List Value}{T:TypeId}{fz:Nat×Nat}(h:w.heap[b]? = some (.cells cs.toArray T fz))(hc:cs[o]? = some v):Cell w ⟨b,o,none⟩ v :=
 Cell.blk h (by simpa using hc)
def toB(l:List Int):List UInt8:=l.map fun n=>UInt8.ofNat n.toNat
theorem StrC.mk{C:Addr->Value->Prop}{w:Wd}{s:Sl}{l:List Int}{K:ByteArray->Prop}(h:Rd w.heap s 1 (l.map (Value.int .u8)))(hC:∀ b o v,hcell w.heap b o=some v->C ⟨b,o,none⟩ v)
  (k:K ⟨(toB l).toArray⟩):StrC C s K:=by
 refine ⟨toB l,⟨by simpa [toB] using h.len,fun i hi=>?_,fun hn=>?_⟩,k⟩
 .simp only [toB,List.length_map] at hi
  obtain ⟨b,off,ha,hc⟩:=h.at_ (by intro e; simp at e; subst e; simp at hi)
  refine ⟨_,l[i],ha,?_,by simp [toB]⟩
  rw [addr_add_none rfl]
  exact hC _ _ _ (by have:=hc i (by simpa using hi); rw [List.getElem_map] at this; exact this)
 .have:l=[]:=Classical.byContradiction fun hne=>by
   obtain ⟨b,off,ha,_⟩:=h.at_ (by simpa using hne)
   rw [hn] at ha; cases ha
  subst this; rfl
theorem toList_mk(bs:List UInt8):ByteArray.toList ⟨bs.toArray⟩=bs:=by
 simp [ByteArray.toList_eq]
theorem toB_inj{l m:List Int}(hl:B8 l)(hm:B8 m):toB l=toB m ↔ l=m:=by
 constructor
 .intro h
  induction l generalizing m with
  | nil=>cases m with
   | nil=>rfl
   | cons y m=>simp [toB] at h
  | cons x l ih=>cases m with
   | nil=>simp [toB] at h
   | cons y m =>
    simp only [toB,List.map_cons,List.cons.injEq] at h
    have h1:=hl x (by simp)
    have h2:=hm y (by simp)
    have e:x=y:=by
     have:=congrArg UInt8.toNat h.1
     simp only [UInt8.toNat_ofNat'] at this
     omega
    subst e
    rw [ih (hl.sub (by simp_all)) (hm.sub (by simp_all)) h.2]
 .intro h; rw [h]
theorem firstCells_rd{P:Program}{w:Wd}{s:Sl}{sz k:Nat}{cs:List Value}(h:Rd w.heap s sz cs)(hk:k<=s.len):(Builtin.firstCells sz k s.v).run P w = .ok (cs.take (k * sz)).toArray w:=by
 have hcut:=Rd.src (P:=P) (h.cut (lo:=0) (hi:=k) (mx:=s.cap) (Nat.zero_le _) hk (Nat.le_trans hk h.cap))
 have:=hcut.get w rfl
 simp only [Nat.zero_mul,List.drop_zero,Nat.sub_zero] at this
 rw [<- this]
 obtain ⟨a,n,c⟩:=s
 cases a with
 | none=>simp [Builtin.firstCells,cutA]
 | some a =>
  have e:a.add 0=a:=rfl
  simp [Builtin.firstCells,cutA,e]
theorem MkW.mk{w:Wd}{e:TypeId}{zs:List Value}{bytes:Nat}{l c:Int}{K:Sl->Wd->Prop}(h0:0<=l)(h1:l<=c)(h2:c<=9223372036854775807)(h3:bytes * c<=281474976710656)
  (k:∀ b w',New w (.cells (List.replicate c.toNat zs).flatten.toArray e) b w'->K ⟨some ⟨b,0,none⟩,l.toNat,c.toNat⟩ w'):MkW w e zs bytes l c K:=⟨h0,h1,h2,h3,fun b w' h=>k b w' h⟩
theorem Own.make{w w':Wd}{b l c:Nat}{e:TypeId}{zs:List Value}(h:New w (.cells (List.replicate c zs).flatten.toArray e) b w')(hl:l<=c)(hz:∀ v∈zs,oneC v=true) :
  Own w'.heap w.heap.size e zs.length ⟨some ⟨b,0,none⟩,l,c⟩ (List.replicate l zs).flatten:=by
 have e1:List.replicate c zs=List.replicate l zs++List.replicate (c - l) zs:=by rw [List.replicate_append_replicate]; congr 1; omega
 refine ⟨by simp, .inr ⟨b,(List.replicate (c - l) zs).flatten,rfl,by rw [h.at_]; exact Nat.le_refl _,?_,?_,hl⟩,?_⟩
 .rw [<- List.flatten_append,<- e1]; exact h.get
 .rw [<- List.flatten_append,<- e1]; simp
 .intro v hv
  simp only [List.mem_flatten,List.mem_replicate] at hv
  obtain ⟨x,⟨_,rfl⟩,hx⟩:=hv
  exact hz v hx
theorem St1.own{w:Wd}{base:Nat}{e:TypeId}{s:Sl}{cs:List Value}{i:Int}{v:Value}{K:Wd->Prop}(o:Own w.heap base e 1 s cs)(h0:0<=i)(h1:i < (s.len:Int))(hv:oneC v=true)
  (k:∀ w',Own w'.heap base e 1 s (cs.set i.toNat v)->Ext (fun b=>s.blk=some b) w w'->w'.heap.size=w.heap.size->K w'):Ix s.a s.len i 1 fun a=>St1 w a v K:=by
 have hl:cs.length=s.len:=by simpa using o.len
 rcases o.is with ⟨rfl,rfl⟩ | ⟨b,rest,ha,hle,hb,hc,hcap⟩
 .simp at h1; omega
 .refine ⟨_,ha,h0,h1,?_⟩
  rw [addr_add_none rfl]
  simp only [Nat.zero_add,Nat.mul_one]
  refine St1.mk hb (by simp; omega) hv fun w' hw=>k w' ⟨by simpa using o.len, .inr ⟨b,rest,ha,hle,?_,by simpa using hc,hcap⟩,fun u hu=>?_⟩ (hw.ext.mono fun j _ hj=>by subst hj; simp [Sl.blk,ha]) hw.size
  .rw [hw.get hb,List.set_append_left _ _ (by omega)]
  .rcases List.mem_or_eq_of_mem_set hu with h | h
   .exact o.cells u h
   .subst h; exact hv
end Go.V
