/- Texts for LWitnessNone, part 11. -/
import Derived.Lib.BytesEntry
import Derived.Test.YtmbckodpbdlblaaGreatQw10
namespace Go.Proofs.YtmbckodpbdlblaaGreat
open Go.V
abbrev RdB(h:Array Obj)(s:Sl)(l:List Int):Prop:=Rd h s 1 (l.map (Value.int .u8))
abbrev OwnB(h:Array Obj)(base:Nat)(s:Sl)(l:List Int):Prop:=Own h base 5 1 s (l.map (Value.int .u8))
theorem RdB.len{h:Array Obj}{s:Sl}{l:List Int}(o:RdB h s l):s.len=l.length:=by have:=Rd.len o; simp at this; exact this.symm
theorem OwnB.len{h:Array Obj}{base:Nat}{s:Sl}{l:List Int}(o:OwnB h base s l):s.len=l.length:=RdB.len o.rd
section
variable {w:Wd}
theorem put_spec{n size:Int}{K:Sl->Int->Wd->Prop}(hn:0<=n)(h1:1<=size)(h8:size<=8)(hfit:n < 256 ^ size.toNat)
  (k:∀ s w',OwnB w'.heap w.heap.size s (be size.toNat n)->Ext No w w'->K s 0 w'):C_octet_Put n size w K:=by
 apply S_octet_Put
 refine ⟨fun w'=>w'=w,If.dec (fun h=>by omega) (fun _=>If.dec (fun h=>by omega) fun _=>rfl),?_⟩
 rintro _ w1 rfl
 refine ⟨fun w'=>w'=w1,If.dec (fun h=>Ar.i64 (by omega) ⟨by omega,Nm.as (e':=0) ?_ (If.bne (fun h=>(h rfl).elim) fun _=>rfl)⟩) fun _=>rfl,?_⟩
 .have e2:min (8 * size).toNat (IntKind.bits .u64)=8 * size.toNat:=by
   have:IntKind.bits .u64=64:=rfl
   omega
  rw [e2,Int.pow_mul,show (2:Int) ^ 8=256 from rfl,Int.fdiv_eq_ediv_of_nonneg _ (Int.le_of_lt (Int.pow_pos (by decide)))]
  exact Int.ediv_eq_zero_of_lt hn hfit
 rintro _ w2 rfl
 refine MkW.mk (by omega) (Int.le_refl _) (by omega) (by omega) fun b w3 hnew=>Ar.i64 (by omega) ?_
 have o3:=Own.make (l:=size.toNat) hnew (Nat.le_refl _) (fun v hv=>by rw [List.mem_singleton] at hv; subst hv; rfl)
 have e3:(List.replicate size.toNat [Value.int .u8 0]).flatten=(List.replicate size.toNat (0:Int)).map (Value.int .u8):=by simp [List.flatten_replicate_singleton]
 rw [e3] at o3
 -- after j steps: the last j bytes of n are there,n / 256^j is left
 refine ⟨fun m m' i w'=>∃ j:Nat,i=size - 1 - j/\j<=size.toNat/\m=size.toNat - j/\m'=n / 256 ^ j/\OwnB w'.heap w2.heap.size ⟨some ⟨b,0,none⟩,size.toNat,size.toNat⟩ (List.replicate (size.toNat - j) 0++(be size.toNat n).drop (size.toNat - j))/\Ext No w2 w',⟨size.toNat,0,by omega,by omega,by omega,by simp,?_,hnew.ext⟩,?_⟩
 .rw [Nat.sub_zero,List.drop_eq_nil_of_le (by rw [be_len]; exact Nat.le_refl _),List.append_nil]; exact o3
 rintro _ m0 n1 i w4 ⟨j,rfl,hj,hm,rfl,o4,x4⟩
 refine If.dec (fun h=>Ar.u8m ?_) (fun h=>?_)
 .have hq:0<=n / 256 ^ j:=Int.ediv_nonneg hn (Int.le_of_lt (Int.pow_pos (by decide)))
  refine St1.own o4 h (by simp only; omega) rfl fun w5 o5 x5 z5=>⟨by omega,Nm.as (e':=n / 256 ^ (j+1)) ?_ (Ar.i64 (by omega) ⟨size.toNat - (j+1),by omega,j+1,by omega,by omega,rfl,rfl,?_,?_⟩)⟩
  .rw [show min (Int.toNat 8) (IntKind.bits .u64)=8 from rfl,Int.fdiv_eq_ediv_of_nonneg _ (by decide),show (2:Int) ^ 8=256 from rfl,Int.ediv_ediv_of_nonneg (Int.le_of_lt (Int.pow_pos (by decide))),Int.pow_succ]
  .have e:(size - 1 - (j:Int)).toNat=size.toNat - (j+1):=by omega
   rw [e,<- List.map_set] at o5
   have hk:size.toNat - j=(size.toNat - (j+1))+1:=by omega
   have:(List.replicate (size.toNat - j) (0:Int)++(be size.toNat n).drop (size.toNat - j)).set (size.toNat - (j+1)) (n / 256 ^ j % 256)=List.replicate (size.toNat - (j+1)) 0++(be size.toNat n).drop (size.toNat - (j+1)):=by
    rw [hk,List.replicate_succ',List.append_assoc,List.set_append_right _ _ (by simp)]
    simp only [List.length_replicate,Nat.sub_self,List.singleton_append,List.set_cons_zero]
    rw [<- be_get (k:=size.toNat) (j:=j) (by omega),show size.toNat - 1 - j=size.toNat - (j+1) by omega]
    rw [List.getD_eq_getElem?_getD,List.getElem?_eq_getElem (by rw [be_len]; omega),Option.getD_some,<- List.drop_eq_getElem_cons]
   rw [this] at o5
   exact o5
  .exact x4.trans x5 fun q hq h=>by
    have h:=Option.some.inj h
    rw [<- h] at hq; have:=hnew.at_; simp only at hq; omega
 .have e:size.toNat - j=0:=by omega
  rw [e] at o4
  exact k _ _ (by simpa using o4) x4
theorem get_spec{b:Sl}{l:List Int}{K:Int->Int->Wd->Prop}(hb:RdB w.heap b l)(h8:B8 l)(h1:1<=l.length)(h2:l.length<=8)(k:K (num l) 0 w):C_octet_Get b w K:=by
 apply S_octet_Get
 have hl:=RdB.len hb
 refine ⟨fun w'=>w'=w,If.dec (fun h=>by omega) (fun _=>If.dec (fun h=>by omega) fun _=>rfl),?_⟩
 rintro _ w1 rfl
 refine ⟨fun m n t w'=>w'=w1/\∃ j:Nat,t=j/\j<=l.length/\m=l.length - j/\n=num (l.take j),⟨l.length,rfl,0,rfl,by omega,by omega,by simp [num]⟩,?_⟩
 rintro _ m0 n t w2 ⟨rfl,j,rfl,hj,hm,rfl⟩
 refine If.dec (fun h=>Ix.int hb (by omega) (by omega) fun bb o _ hc=>⟨_,hc,?_⟩) (fun h=>?_)
 .have hx:=h8.get j
  have hlt:num (l.take j) < 256 ^ j:=by have:=num_lt (h8.take j); rwa [List.length_take,Nat.min_eq_left hj] at this
  have h0:=num_nonneg (h8.take j)
  have hp:(256:Int) ^ (j+1)<=256 ^ 8:=p256 (by omega)
  rw [Int.pow_succ] at hp
  have hp8:(256:Int) ^ 8=18446744073709551616:=by decide
  have e1:num (l.take j) * 2 ^ min (Int.toNat 8) (IntKind.bits .u64)=num (l.take j) * 256:=rfl
  rw [Int.toNat_natCast]
  refine ⟨by omega,?_⟩
  rw [e1]
  refine Ar.u64 (by omega) (Ar.u64 (by omega) (Nm.as (bitI_or_low h0 hx (by omega)) (Ar.i64 (by omega) ⟨l.length - (j+1),by omega,rfl,j+1,by omega,by omega,rfl,?_⟩)))
  rw [take_snoc (by omega),num_snoc]
 .have e:j=l.length:=by omega
  rw [e,List.take_length]; exact k
theorem nought_spec{b:Sl}{l:List Int}{K:Bool->Wd->Prop}(hb:RdB w.heap b l)(h8:B8 l)(hs:l.length<=4294967296)(k:K (decide (∀ x∈l,x=0)) w):C_octet_Nought b w K:=by
 apply S_octet_Nought
 have hl:=RdB.len hb
 refine ⟨fun m n t w'=>w'=w/\∃ j:Nat,t=j/\j<=l.length/\m=l.length - j/\0<=n/\n<=255/\(n=0 ↔ ∀ x∈l.take j,x=0),⟨l.length,rfl,0,rfl,by omega,by omega,by omega,by omega,by simp⟩,?_⟩
 rintro _ m0 n t w2 ⟨rfl,j,rfl,hj,hm,hn0,hn1,hn⟩
 refine If.dec (fun h=>Ix.int hb (by omega) (by omega) fun bb o _ hc=>⟨_,hc,Nm.mk (Ar.i64 (by omega) ⟨l.length - (j+1),by omega,rfl,j+1,by omega,by omega,rfl,?_⟩)⟩) (fun h=>?_)
 .have hx:=h8.get j
  rw [Int.toNat_natCast]
  obtain ⟨a,b,c⟩:=bitI_or_u8_zero ⟨hn0,hn1⟩ hx
  refine ⟨a,b,c.trans ?_⟩
  rw [hn,take_snoc (by omega)]
  constructor
  .rintro ⟨p,q⟩ x hx
   rcases List.mem_append.1 hx with h | h
   .exact p x h
   .rw [List.mem_singleton] at h; rw [h]; exact q
  .intro p
   exact ⟨fun x hx=>p x (List.mem_append_left _ hx),p _ (List.mem_append_right _ (List.mem_singleton.2 rfl))⟩
 .have e:j=l.length:=by omega
  rw [e,List.take_length] at hn
  have:(n == 0)=decide (∀ x∈l,x=0):=by
   rw [Bool.eq_iff_iff,beq_iff_eq,decide_eq_true_iff]; exact hn
  rw [this]; exact k
theorem clone_spec{b:Sl}{l:List Int}{K:Sl->Wd->Prop}(hb:RdB w.heap b l)(hs:l.length<=1099511627776)(k:∀ s w',OwnB w'.heap w.heap.size s l->Ext No w w'->K s w'):C_bytes_Clone b w K:=by
 apply S_bytes_Clone
 have hl:=RdB.len hb
 refine If.cases (fun h=>?_) (fun h=>NewW.mk fun b1 w1 hn=>?_)
 .have:l=[]:=by
   rcases Classical.em (l=[]) with h' | h'
   .exact h'
   .obtain ⟨_,_,ha,_⟩:=Rd.at_ hb (by simpa using h')
    rw [ha] at h; cases h
  subst this
  exact k _ _ (Own.nil _ _ _ _) (Ext.refl _ _)
 .have o1:Own w1.heap w.heap.size 5 1 ⟨some ⟨b1,0,none⟩,0,0⟩ []:=by have:=Own.new (n:=0) (sz:=1) hn rfl (by simp); exact this
  refine app_uint8 o1 (by have:=hn.size; omega) (Rd.no hb hn.ext).src (by simp only; omega) fun s' w' o' _ x' _=>?_
  rw [List.nil_append] at o'
  refine k _ _ o' (hn.ext.trans x' fun q hq h=>?_)
  have h:=Option.some.inj h
  rw [<- h] at hq; have:=hn.at_; simp only at hq; omega
end
end Go.Proofs.YtmbckodpbdlblaaGreat
set_option maxRecDepth 100000
namespace Go.V
abbrev U64(x:Int):Prop:=0<=x/\x<=18446744073709551615
theorem bitI_u64(op:BinOp)(x y:Int):U64 (bitI op .u64 x y):=by
 unfold bitI; cases op <;> simp only [wrap_u64] <;> constructor <;> omega
end Go.V
namespace Go.Proofs.YtmbckodpbdlblaaGreat
open Go.V
section
variable {w w':Wd}
theorem u64B{x:Int}(h:U64 x):x < 256 ^ (8:Int).toNat:=by show x < 256 ^ 8; have:=h.2; omega
theorem of_spec{b0:List Int}{K:Int->Int->Wd->Prop}(hb:St16 b0)(k:∀ x y w',Ext No w w'->K x y w'):C_ghash_of b0 w K:=by
 apply S_ghash_of
 refine fun b w1 n1 b1 w2 n2=>?_
 have s1:=n1.at_; have s2:=n2.at_; have z1:=n1.size
 have a0:ArrR w2.heap b 294 .u8 b0:=(ArrR.new n1).ext n2.ext fun h=>h
 have a1:ArrR w2.heap b1 479 .u64 [0,0]:=n2.get
 have hl:=hb.1
 refine Cut.arr (by decide) (by decide) (by decide) (by decide) (get_spec (l:=(b0.drop 0).take 8) (a0.rd (o:=0) (n:=8) (c:=16) (by omega) (by decide)) ((hb.2.drop _).take _) (by simp; omega) (by simp; omega) ?_)
 refine Cut.arr (by decide) (by decide) (by decide) (by decide) (get_spec (l:=(b0.drop 8).take 8) (a0.rd (o:=8) (n:=8) (c:=8) (by omega) (by decide)) ((hb.2.drop _).take _) (by simp; omega) (by simp; omega) ⟨rfl,?_⟩)
 refine ArrR.stN (l':=[_,_]) a1 rfl fun w5 a5 x5=>⟨_,Cell.lst a5 rfl,_,Cell.lst a5 rfl,k _ _ _ ?_⟩
 exact (n1.ext.no n2.ext).out x5 (by omega)
theorem times_spec{x0 x1 y0 y1:Int}{K:Int->Int->Wd->Prop}(k:∀ x y w',U64 x->U64 y->Ext No w w'->K x y w'):C_ghash_element_times x0 x1 y0 y1 w K:=by
 apply S_ghash_element_times
 refine fun b w1 n1 b1 w2 n2 b2 w3 n3 b3 w4 n4=>⟨rfl,?_⟩
 have s1:=n1.at_; have s2:=n2.at_; have s3:=n3.at_; have s4:=n4.at_
 have z1:=n1.size; have z2:=n2.size; have z3:=n3.size; have z4:=n4.size
 have x4:Ext No w w4:=((n1.ext.no n2.ext).no n3.ext).no n4.ext
 have a0:ArrR w4.heap b 479 .u64 [x0,x1]:=((((show ArrR w1.heap b 479 .u64 [x0,x1] from n1.get).ext n2.ext fun h=>h).ext n3.ext fun h=>h).ext n4.ext fun h=>h)
 have a1:ArrR w4.heap b1 479 .u64 [y0,y1]:=((show ArrR w2.heap b1 479 .u64 [y0,y1] from n2.get).ext n3.ext fun h=>h).ext n4.ext fun h=>h
 have a2:ArrR w4.heap b2 479 .u64 [0,0]:=(show ArrR w3.heap b2 479 .u64 [0,0] from n3.get).ext n4.ext fun h=>h
 have a3:ArrR w4.heap b3 479 .u64 [0,0]:=n4.get
 refine ArrR.stN (l':=[0,0]) a3 rfl fun w5 a5 x5=>?_
 let Inv:Wd->Prop:=fun w'=>Ext No w w'/\ArrR w'.heap b 479 .u64 [x0,x1]/\ArrR w'.heap b2 479 .u64 [0,0]/\(∃ p q,ArrR w'.heap b1 479 .u64 [p,q])/\∃ p q,U64 p/\U64 q/\ArrR w'.heap b3 479 .u64 [p,q]
 have i5:Inv w5:=⟨x4.out x5 (by omega),a0.ext x5 (by omega),a2.ext x5 (by omega),⟨_,_,a1.ext x5 (by omega)⟩,0,0,⟨by omega,by omega⟩,⟨by omega,by omega⟩,a5⟩
 have st1:∀{u u':Wd}{p q:Int},Inv u->Ext (·=b1) u u'->ArrR u'.heap b1 479 .u64 [p,q]->Inv u':=fun {u u' p q} h x a=>by
  obtain ⟨h1,h2,h3,h4,p',q',h5,h6,h7⟩:=h
  exact ⟨h1.out x (by omega),h2.ext x (by omega),h3.ext x (by omega),⟨_,_,a⟩,p',q',h5,h6,h7.ext x (by omega)⟩
 have st3:∀{u u':Wd}{p q:Int},Inv u->Ext (·=b3) u u'->U64 p->U64 q->ArrR u'.heap b3 479 .u64 [p,q]->Inv u':=fun {u u' p q} h x hp hq a=>by
  obtain ⟨h1,h2,h3,⟨p',q',h4⟩,_⟩:=h
  exact ⟨h1.out x (by omega),h2.ext x (by omega),h3.ext x (by omega),⟨_,_,h4.ext x (by omega)⟩,p,q,hp,hq,a⟩
 have drw:∀{u:Wd},Inv u->Inv (drewW u):=fun {u} h=>⟨h.1.drew,h.2⟩
 refine ⟨fun m t w'=>t=128 - (m:Int)/\m<=128/\Inv w',⟨128,by omega,by omega,i5⟩,?_⟩
 rintro _ m t w6 ⟨ht,hm,i6⟩
 refine If.dec (fun h=>?_) fun h=>?_
 .refine ⟨x0,Cell.lst i6.2.1 rfl,fun _ w'=>w'=w6,If.dec (fun _=>⟨x1,Cell.lst i6.2.1 rfl,rfl⟩) fun _=>rfl,?_⟩
  rintro _ word w7 rfl
  refine ⟨fun w'=>Inv w',⟨by decide,Nm.as (tmod_nat (by omega)) (Ar.i64 (by omega) ⟨by omega,Nm.mk (Nm.mk (If.bne (fun _=>?_) fun _=>i6))⟩)⟩,?_⟩
  .obtain ⟨p,q,hp,hq,a⟩:=i6.2.2.2.2
   obtain ⟨r,s,a'⟩:=i6.2.2.2.1
   have ad:ArrR (drewW w7).heap b3 479 .u64 [p,q]:=a
   have ad':ArrR (drewW w7).heap b1 479 .u64 [r,s]:=a'
   let S:Wd->Prop:=fun u=>(∃ p',ArrR u.heap b3 479 .u64 [p',q])/\ArrR u.heap b1 479 .u64 [r,s]
   have s0:S (drewW w7):=⟨⟨p,ad⟩,ad'⟩
   have fin:∀ z5 z4:Int,U64 z5->U64 z4->St1 (drewW w7) (Addr.mk b3 0 none) (.int .u64 z5) fun w8=>S w8/\St1 w8 ((Addr.mk b3 0 none).add 1) (.int .u64 z4) fun w9=>Inv w9:=fun z5 z4 h5 h4=>by
    refine ad.st0 (o:=0) (by simp) fun w8 a8 x8=>⟨⟨⟨z5,a8⟩,ad'.ext x8 (by omega)⟩,?_⟩
    refine ArrR.st0 (o:=1) a8 (by simp) fun w9 a9 x9=>?_
    exact st3 (st3 (drw i6) x8 h5 hq a8) x9 h5 h4 a9
   refine ⟨S,s0,q,fun u hu=>?_,s,fun u hu=>Cell.lst hu.2 rfl,Nm.mk ⟨⟨p,Cell.lst ad rfl,s0,r,Cell.lst ad' rfl,s0,Nm.mk (fin _ _ (bitI_u64 _ _ _) (bitI_u64 _ _ _))⟩,⟨r,Cell.lst ad' rfl,s0,p,Cell.lst ad rfl,s0,Nm.mk (fin _ _ (bitI_u64 _ _ _) (bitI_u64 _ _ _))⟩⟩⟩
   obtain ⟨⟨p',hp'⟩,_⟩:=hu
   exact Cell.lst hp' rfl
  .rintro _ w12 i12
   obtain ⟨r,s,a'⟩:=i12.2.2.2.1
   refine ⟨s,Cell.lst a' rfl,Nm.mk ⟨r,Cell.lst a' rfl,by decide,Nm.mk ⟨s,Cell.lst a' rfl,by decide,Nm.mk ⟨r,Cell.lst a' rfl,by decide,Ar.u64m (Nm.mk ?_)⟩⟩⟩⟩
   refine a'.st0 (o:=0) (by simp) fun w13 a13 x13=>?_
   refine ArrR.st0 (o:=1) a13 (by simp) fun w14 a14 x14=>?_
   have i14:=st1 (st1 i12 x13 a13) x14 a14
   refine If.bne (fun _=>⟨_,Cell.lst a14 rfl,Nm.mk (a14.st0 (o:=0) (by simp) fun w15 a15 x15=>Ar.i64 (by omega) ⟨m - 1,by omega,by omega,by omega,st1 i14 x15 a15⟩)⟩) fun _=>Ar.i64 (by omega) ⟨m - 1,by omega,by omega,by omega,i14⟩
 .obtain ⟨p,q,hp,hq,a⟩:=i6.2.2.2.2
  refine ⟨p,Cell.lst a rfl,q,Cell.lst a rfl,rfl,ArrR.stN (l':=[p,q]) i6.2.2.1 rfl fun w16 a16 x16=>⟨p,Cell.lst a16 rfl,q,Cell.lst a16 rfl,k p q w16 hp hq (i6.1.out x16 (by omega))⟩⟩
end
section
variable {w w':Wd}
theorem bytes16_spec{x0 x1:Int}{K:List Int->Wd->Prop}(h0:U64 x0)(h1:U64 x1)(k:∀ r w',St16 r->Ext No w w'->K r w'):C_ghash_element_bytes x0 x1 w K:=by
 apply S_ghash_element_bytes
 refine fun b w1 n1 b1 w2 n2 b2 w3 n3=>?_
 have s1:=n1.at_; have s2:=n2.at_; have s3:=n3.at_; have z1:=n1.size; have z2:=n2.size; have z3:=n3.size
 have a0:ArrR w3.heap b 479 .u64 [x0,x1]:=((show ArrR w1.heap b 479 .u64 [x0,x1] from n1.get).ext n2.ext fun h=>h).ext n3.ext fun h=>h
 have a1:ArrR w3.heap b1 294 .u8 (List.replicate 16 0):=(show ArrR w2.heap b1 294 .u8 (List.replicate 16 0) from n2.get).ext n3.ext fun h=>h
 have a2:ArrR w3.heap b2 294 .u8 (List.replicate 16 0):=n3.get
 have x3:Ext No w w3:=(n1.ext.no n2.ext).no n3.ext
 refine ⟨x0,Cell.lst a0 rfl,put_spec h0.1 (by decide) (by decide) (u64B h0) fun s w4 o4 x4=>⟨x1,Cell.lst (a0.ext x4 fun h=>h) rfl,put_spec h1.1 (by decide) (by decide) (u64B h1) fun s5 w5 o5 x5=>?_⟩⟩
 have lt3:=x3.size; have lt4:=x4.size; have lt5:=x5.size
 have x35:=x4.no x5
 have hs:s.len=8:=by have:=OwnB.len o4; rw [be_len] at this; exact this
 have hs5:s5.len=8:=by have:=OwnB.len o5; rw [be_len] at this; exact this
 refine Cut.arr (by decide) (by decide) (by decide) (by decide) (copyA (xs:=be 8 x0) (a2.ext x35 fun h=>h) (o4.rd.no x5) (by rw [hs]; decide) fun w6 l6 h6 hB6 a6 x6=>?_)
 have ltb:∀ i,s5.blk=some i->i≠b2:=fun i hi=>by have:=(o5.lt hi).1; omega
 have r5:RdB w6.heap s5 (be 8 x1):=(o5.ext x6 fun i hi h=>ltb i hi h).rd
 refine Cut.arr (by decide) (by decide) (by decide) (by decide) (copyA (xs:=be 8 x1) a6 r5 (by rw [hs5,h6]; decide) fun w7 l7 h7 hB7 a7 x7=>?_)
 have q7:St16 l7:=⟨by rw [h7,h6]; simp,hB7 (hB6 (B8.zeros _) (be_b8 _ _)) (be_b8 _ _)⟩
 have x7':Ext No w w7:=((x3.no x35).out x6 (by omega)).out x7 (by omega)
 have lt7:=x7'.size
 refine fin16 a7 (((a1.ext x35 fun h=>h).ext x6 (by omega)).ext x7 (by omega)) q7.1 (by simp) fun w8 x8=>k l7 w8 q7 (x7'.out x8 (by omega))
theorem ghash_spec{h0 al tl:List Int}{aad text:Sl}{K:List Int->Wd->Prop}(hh:St16 h0)(ra:RdB w.heap aad al)(rt:RdB w.heap text tl)(ba:B8 al)(bt:B8 tl)(k:∀ r w',St16 r->Ext No w w'->K r w'):C_ghash_Sum h0 aad text w K:=by
 apply S_ghash_Sum
 refine fun b w1 n1 b1 w2 n2=>?_
 have s1:=n1.at_; have s2:=n2.at_; have z1:=n1.size; have z2:=n2.size
 have x2:Ext No w w2:=n1.ext.no n2.ext
 have a1:ArrR w2.heap b1 294 .u8 (List.replicate 16 0):=n2.get
 refine ⟨h0,hh.1,((ArrR.new n1).ext n2.ext fun h=>h).row,of_spec hh fun r0 r1 w3 x3=>?_⟩
 refine fun b2 w4 n4 b3 w5 n5=>⟨rfl,?_⟩
 have s4:=n4.at_; have s5:=n5.at_; have z4:=n4.size; have z5:=n5.size; have lt2:=x2.size; have lt3:=x3.size
 have x5:Ext No w w5:=((x2.no x3).no n4.ext).no n5.ext
 have a25:ArrR w5.heap b2 479 .u64 [0,0]:=(show ArrR w4.heap b2 479 .u64 [0,0] from n4.get).ext n5.ext fun h=>h
 have a35:ArrR w5.heap b3 479 .u64 [0,0]:=n5.get
 have a15:ArrR w5.heap b1 294 .u8 (List.replicate 16 0):=((a1.ext x3 fun h=>h).ext n4.ext fun h=>h).ext n5.ext fun h=>h
 refine ArrR.stN (l':=[r0,r1]) a25 rfl fun w6 a26 x6=>⟨rfl,?_⟩
 refine ArrR.stN (l':=[0,0]) (a35.ext x6 (by omega)) rfl fun w7 a37 x7 b4 w8 n8=>?_
 have s8:=n8.at_; have z8:=n8.size; have lt6:=x6.size; have lt7:=x7.size
 let Inv:Wd->Prop:=fun u=>Ext No w u/\w5.heap.size<=u.heap.size/\ArrR u.heap b1 294 .u8 (List.replicate 16 0)/\ArrR u.heap b2 479 .u64 [r0,r1]/\(∃ p q,ArrR u.heap b3 479 .u64 [p,q])/\u.heap[b4]? = some (.cells [Value.slice aad.a aad.len aad.cap,Value.slice text.a text.len text.cap].toArray 22 (0,0))
 have no_:∀{u u':Wd},Inv u->Ext No u u'->Inv u':=fun {u u'} h x=>by
  obtain ⟨h1,h2,h3,h4,⟨p,q,h5⟩,h6⟩:=h
  have:=x.size
  exact ⟨h1.no x,by omega,h3.ext x fun h=>h,h4.ext x fun h=>h,⟨p,q,h5.ext x fun h=>h⟩,by rw [x.blk b4 (Array.getElem?_eq_some_iff.1 h6).1 fun h=>h]; exact h6⟩
 have i8:Inv w8:=⟨((x5.out x6 (by omega)).out x7 (by omega)).no n8.ext,by omega,((a15.ext x6 (by omega)).ext x7 (by omega)).ext n8.ext fun h=>h,(a26.ext x7 (by omega)).ext n8.ext fun h=>h,⟨0,0,a37.ext n8.ext fun h=>h⟩,n8.get⟩
 refine ⟨fun m t u=>t=2 - (m:Int)/\m<=2/\Inv u,⟨2,by omega,by omega,i8⟩,?_⟩
 rintro _ m t w9 ⟨ht,hm,i9⟩
 refine If.dec (fun h=>?_) fun h=>?_
 .refine Ix.arr (by omega) (by omega) ?_
  obtain ⟨vv,vl,hv,hvr,hvB⟩ : ∃ (vv:Sl) (vl:List Int),Cell w9 ⟨b4,t.toNat * 1,none⟩ vv.v/\RdB w.heap vv vl/\B8 vl:=by
   have:t=0∨t=1:=by omega
   rcases this with e | e
   .subst e; exact ⟨aad,al,Cell.lst i9.2.2.2.2.2 rfl,ra,ba⟩
   .subst e; exact ⟨text,tl,Cell.lst i9.2.2.2.2.2 rfl,rt,bt⟩
  refine ⟨vv,hv,fun m2 l1 u=>l1.len=m2/\Inv u/\∃ ll,RdB w.heap l1 ll/\B8 ll,⟨_,rfl,i9,vl,hvr,hvB⟩,?_⟩
  rintro _ m2 l1 w10 ⟨hm2,i10,ll,rl,bl⟩
  refine If.dec (fun h2=>?_) fun h2=>Ar.i64 (by omega) ⟨m - 1,by omega,by omega,by omega,i10⟩
  refine fun b5 w11 n11=>?_
  have s11:=n11.at_; have z11:=n11.size; have lt10:=i10.2.1
  have i11:=no_ i10 n11.ext
  have hll:ll.length=l1.len:=(RdB.len rl).symm
  refine Cut.arr (by decide) (by decide) (by decide) (by decide) (copyA (xs:=ll) (l:=List.replicate 16 0) n11.get (rl.no i11.1) (by simp; omega) fun w12 l12 h12 hB12 a12 x12=>?_)
  have q12:St16 l12:=⟨by rw [h12]; simp,hB12 (B8.zeros _) bl⟩
  have i12:Inv w12:=by
   obtain ⟨h1,h2,h3,h4,⟨p,q,h5⟩,h6⟩:=i11
   have:=x12.size; have:=h1.size; have l4:=(Array.getElem?_eq_some_iff.1 i10.2.2.2.2.2).1
   exact ⟨h1.out x12 (by have:=i10.1.size; omega),by omega,h3.ext x12 (by omega),h4.ext x12 (by omega),⟨p,q,h5.ext x12 (by omega)⟩,by rw [x12.blk b4 (by omega) (by omega)]; exact h6⟩
  have e16:(16 - 0:Int).toNat=16:=rfl
  refine rl.cutN (by omega) (by omega) (Int.le_refl _) fun s' hs' hsl=>⟨l12,q12.1,a12.row,of_spec q12 fun p q w13 x13=>?_⟩
  refine fun b6 w14 n14=>⟨rfl,ArrR.stN (l:=[0,0]) (l':=[p,q]) n14.get rfl fun w15 a15' x15=>?_⟩
  have i13:=no_ i12 x13
  have s14:=n14.at_; have z14:=n14.size
  have i14:=no_ i13 n14.ext
  have i15:Inv w15:=by
   obtain ⟨h1,h2,h3,h4,⟨p,q,h5⟩,h6⟩:=i14
   have:=x15.size; have l4:=(Array.getElem?_eq_some_iff.1 i13.2.2.2.2.2).1; have:=i13.2.1
   exact ⟨h1.out x15 (by have:=i13.1.size; omega),by omega,h3.ext x15 (by omega),h4.ext x15 (by omega),⟨p,q,h5.ext x15 (by omega)⟩,by rw [x15.blk b4 (by omega) (by omega)]; exact h6⟩
  have i15':=i15
  obtain ⟨h1,h2,h3,h4,⟨p',q',h5⟩,h6⟩:=i15
  refine ⟨p',Cell.lst h5 rfl,p,Cell.lst a15' rfl,Nm.mk ⟨q',Cell.lst h5 rfl,q,Cell.lst a15' rfl,Nm.mk ⟨r0,Cell.lst h4 rfl,r1,Cell.lst h4 rfl,times_spec fun p3 q3 w16 _ _ x16=>⟨rfl,?_⟩⟩⟩⟩
  refine ArrR.stN (l':=[p3,q3]) (h5.ext x16 fun h=>h) rfl fun w17 a17 x17=>⟨(((l1.len:Nat):Int) - ((min l1.len (16 - 0:Int).toNat:Nat):Int)).toNat,by omega,hsl,?_,_,hs',(bl.drop _).take _⟩
  have l3:=h5.lt; have l4:=(Array.getElem?_eq_some_iff.1 h6).1; have:=x16.size; have:=x17.size
  exact ⟨(h1.no x16).out x17 (by omega),by omega,(h3.ext x16 fun h=>h).ext x17 (by omega),(h4.ext x16 fun h=>h).ext x17 (by omega),⟨_,_,a17⟩,by rw [x17.blk b4 (by omega) (by omega),x16.blk b4 l4 fun h=>h]; exact h6⟩
 .obtain ⟨h1,h2,h3,h4,⟨p,q,h5⟩,h6⟩:=i9
  refine ⟨p,Cell.lst h5 rfl,Ar.u64m (Ar.u64m (Nm.mk ⟨q,Cell.lst h5 rfl,Ar.u64m (Ar.u64m (Nm.mk ⟨r0,Cell.lst h4 rfl,r1,Cell.lst h4 rfl,times_spec fun p3 q3 w18 hp hq x18=>bytes16_spec hp hq fun r w19 hr x19=>⟨by rw [List.append_nil,List.length_map]; exact hr.1,?_⟩⟩))⟩))⟩
  have x9:=(h1.no x18).no x19
  refine ((h3.ext x18 fun h=>h).ext x19 fun h=>h).stN (by rw [hr.1]; simp) fun w20 a20 x20=>⟨r,hr.1,a20.row,RowR.mk hr.1 (k r w20 hr (x9.out x20 (by omega)))⟩
end
section
variable {w w':Wd}
theorem fin16g{X:Type}{b b1:Nat}{T:TypeId}{l z:List Int}{K:List Int->X}{F:X->Wd->Prop}(a:ArrR w.heap b T .u8 l)(a1:ArrR w.heap b1 T .u8 z)(hl:l.length=16)(hz:z.length=16)(k:∀ w',Ext (·=b1) w w'->F (K l) w') :
  ∃ l:List Int,l.length=16/\RowC (Cell w) (Addr.mk b 0 none) 0 .u8 l/\List.length (α:=Value) (List.map (Value.int .u8) l++[])=16/\StN w (Addr.mk b1 0 none) (List.map (Value.int .u8) l++[]) fun w5 =>
   ∃ l_1:List Int,l_1.length=16/\RowC (Cell w5) (Addr.mk b1 0 none) 0 .u8 l_1/\RowR .u8 16 (List.map (Value.int .u8) l_1++[]) fun l_2 vs=>getCS [] vs (K l_2) fun Kv=>F Kv w5 :=
 ⟨l,hl,a.row,by rw [List.append_nil,List.length_map]; exact hl,a1.stN (by omega) fun w5 a5 x5=>⟨l,hl,a5.row,RowR.mk hl (k w5 x5)⟩⟩
theorem ArrR.own{b base:Nat}{l:List Int}{n:Nat}(a:ArrR w.heap b 5 .u8 l)(hb:base<=b)(hn:l.length=n):OwnB w.heap base ⟨some ⟨b,0,none⟩,n,n⟩ l:=by
 subst hn
 refine ⟨by simp, .inr ⟨b,[],rfl,hb,?_,by simp,Nat.le_refl _⟩,oneC_ints⟩
 rw [List.append_nil]; exact a
theorem first_spec{nonce:Sl}{nl:List Int}{K:List Int->Int->Wd->Prop}(hn:RdB w.heap nonce nl)(hB:B8 nl)(hl:nonce.len=12)(k:∀ r w',St16 r->Ext No w w'->K r 0 w'):C_ctr_First nonce w K:=by
 apply S_ctr_First
 refine fun b w1 n1=>If.bne (fun h=>absurd (by rw [hl]; rfl) h) fun _ b1 w2 n2=>?_
 have s1:=n1.at_; have s2:=n2.at_; have z1:=n1.size
 have x2:Ext No w w2:=n1.ext.no n2.ext
 have a0:ArrR w2.heap b 294 .u8 (List.replicate 16 0):=(show ArrR w1.heap b 294 .u8 (List.replicate 16 0) from n1.get).ext n2.ext fun h=>h
 have a1:ArrR w2.heap b1 294 .u8 (List.replicate 16 0):=n2.get
 refine Cut.arr (by decide) (by decide) (by decide) (by decide) (copyA (xs:=nl) a1 (hn.no x2) (by rw [hl]; decide) fun w5 l5 h5 hB5 a5 x5=>⟨by decide,by decide,?_⟩)
 have q5:St16 l5:=⟨by rw [h5]; simp,hB5 (B8.zeros _) hB⟩
 refine a5.st (by decide) (by rw [q5.1]; decide) fun w6 a6 x6=>?_
 have q6:St16 (l5.set (15:Int).toNat 1):=⟨by simpa using q5.1,q5.2.set ⟨by decide,by decide⟩ _⟩
 exact fin16g (X:=Int->Wd->Prop) (F:=fun Kv w=>Kv 0 w) a6 ((a0.ext x5 (by omega)).ext x6 (by omega)) q6.1 (by simp) fun w7 x7=>k _ w7 q6 (((x2.out x5 (by omega)).out x6 (by omega)).out x7 (by omega))
theorem next_spec{c0:List Int}{K:List Int->Wd->Prop}(hc:St16 c0)(k:∀ r w',St16 r->Ext No w w'->K r w'):C_ctr_Next c0 w K:=by
 apply S_ctr_Next
 refine fun b w1 n1 b1 w2 n2=>?_
 have s1:=n1.at_; have s2:=n2.at_; have z1:=n1.size; have z2:=n2.size
 have x2:Ext No w w2:=n1.ext.no n2.ext
 have a0:ArrR w2.heap b 294 .u8 c0:=(ArrR.new n1).ext n2.ext fun h=>h
 have a1:ArrR w2.heap b1 294 .u8 (List.replicate 16 0):=n2.get
 have hl:=hc.1
 refine Cut.arr (by decide) (by decide) (by decide) (by decide) (get_spec (l:=(c0.drop 12).take 4) (a0.rd (o:=12) (n:=4) (c:=4) (by omega) (by decide)) ((hc.2.drop _).take _) (by simp; omega) (by simp; omega) (Ar.u64m (Ar.u32m (Ar.u64m ?_))))
 refine put_spec (by omega) (by decide) (by decide) (by show _ < (256:Int) ^ 4; omega) fun s w4 o4 x4=>?_
 have hs:s.len=4:=by have:=OwnB.len o4; rw [be_len] at this; exact this
 have lt2:=x2.size; have lt4:=x4.size
 refine Cut.arr (by decide) (by decide) (by decide) (by decide) (copyA (a0.ext x4 fun h=>h) o4.rd (by rw [hs]; omega) fun w5 l5 h5 hB5 a5 x5=>?_)
 have q5:St16 l5:=⟨by rw [h5]; exact hl,hB5 hc.2 (be_b8 _ _)⟩
 exact fin16 a5 ((a1.ext x4 fun h=>h).ext x5 (by omega)) q5.1 (by simp) fun w6 x6=>k _ w6 q5 (((x2.no x4).out x5 (by omega)).out x6 (by omega))
structure StrR(u:Wd)(b b1 b2 b3 cb:Nat):Prop where
 c:u.heap[b]? = some (.cells [Value.pointer (some ⟨cb,0,none⟩)].toArray 291 (0,0))
 ctr:∃ l,St16 l/\ArrR u.heap b1 294 .u8 l
 blk:∃ l,St16 l/\ArrR u.heap b2 294 .u8 l
 at_:∃ i:Int,0<=i/\i<=16/\ArrR u.heap b3 3 .i64 [i]
 cip:CipR u cb
 ne:b≠b1/\b≠b2/\b≠b3/\b1≠b2/\b1≠b3/\b2≠b3
abbrev StrS(b1 b2 b3:Nat)(i:Nat):Prop:=i=b1∨i=b2∨i=b3
theorem stream1_spec{b b1 b2 b3 cb:Nat}{w0:Wd}{K:Int->Wd->Prop}(h:StrR w b b1 b2 b3 cb)(x0:Ext No w0 w)(hc:CipR w0 cb)(h1:w0.heap.size<=b1)(h2:w0.heap.size<=b2)(h3:w0.heap.size<=b3)
  (k:∀ r w',By r->StrR w' b b1 b2 b3 cb->Ext No w0 w'->Ext (StrS b1 b2 b3) w w'->K r w'):C_ctr_stream_1 ⟨b3,0,none⟩ ⟨b1,0,none⟩ ⟨b,0,none⟩ ⟨b2,0,none⟩ w K:=by
 apply S_ctr_stream_1
 refine ⟨fun u=>StrR u b b1 b2 b3 cb/\Ext No w0 u/\Ext (StrS b1 b2 b3) w u/\∃ i:Int,0<=i/\i < 16/\ArrR u.heap b3 3 .i64 [i],?_,?_⟩
 .obtain ⟨i,hi0,hi1,ai⟩:=h.at_
  obtain ⟨e1,e2,e3,e4,e5,e6⟩:=h.ne
  refine ⟨i,Cell.lst ai rfl,If.beq (fun _=>?_) fun hne=>⟨h,x0,Ext.refl _ _,i,hi0,by omega,ai⟩⟩
  obtain ⟨l,hl,al⟩:=h.ctr
  obtain ⟨m,hm,am⟩:=h.blk
  refine ⟨l,hl.1,al.row,next_spec hl fun r w1 hr x1=>⟨by rw [List.append_nil,List.length_map]; exact hr.1,(al.ext x1 fun h=>h).stN (by rw [hr.1,hl.1]) fun w2 a2 x2=>?_⟩⟩
  have c1:w1.heap[b]? = _:=(x1.blk b (Array.getElem?_eq_some_iff.1 h.c).1 fun h=>h).trans h.c
  have c2:w2.heap[b]? = _:=(x2.blk b (Array.getElem?_eq_some_iff.1 c1).1 e1).trans c1
  have x02:Ext No w0 w2:=(x0.no x1).out x2 h1
  have y2:Ext (StrS b1 b2 b3) w w2:=(x1.of_no (S:=StrS b1 b2 b3)).trans x2 fun i _ e => .inl e
  refine ⟨some ⟨cb,0,none⟩,Cell.lst c2 rfl,r,hr.1,a2.row,encrypt_spec (hc.no x02) hr fun q w3 hq x3=>⟨by rw [List.append_nil,List.length_map]; exact hq.1,?_⟩⟩
  have am3:=((am.ext x1 fun h=>h).ext x2 (Ne.symm e4)).ext x3 fun h=>h
  refine am3.stN (by rw [hq.1,hm.1]) fun w4 a4 x4=>?_
  have ai4:ArrR w4.heap b3 3 .i64 [i]:=(((ai.ext x1 fun h=>h).ext x2 (Ne.symm e5)).ext x3 fun h=>h).ext x4 (Ne.symm e6)
  refine ArrR.st0 (o:=0) ai4 (by simp) fun w5 a5 x5=>?_
  have c3:w3.heap[b]? = _:=(x3.blk b (Array.getElem?_eq_some_iff.1 c2).1 fun h=>h).trans c2
  have c4:w4.heap[b]? = _:=(x4.blk b (Array.getElem?_eq_some_iff.1 c3).1 e2).trans c3
  have c5:w5.heap[b]? = _:=(x5.blk b (Array.getElem?_eq_some_iff.1 c4).1 e3).trans c4
  have x05:Ext No w0 w5:=((x02.no x3).out x4 h2).out x5 h3
  have y5:Ext (StrS b1 b2 b3) w w5:=((y2.trans (x3.of_no (S:=StrS b1 b2 b3)) fun i _ e=>e).trans x4 fun i _ e => .inr (.inl e)).trans x5 fun i _ e => .inr (.inr e)
  exact ⟨⟨c5,⟨r,hr,((a2.ext x3 fun h=>h).ext x4 e4).ext x5 e5⟩,⟨q,hq,a4.ext x5 e6⟩,⟨0,by omega,by omega,a5⟩,hc.no x05,h.ne⟩,x05,y5,0,by omega,by omega,a5⟩
 .rintro _ w6 ⟨h6,x6,y6,i,hi0,hi1,ai⟩
  obtain ⟨e1,e2,e3,e4,e5,e6⟩:=h6.ne
  obtain ⟨l,hl,al⟩:=h6.ctr
  obtain ⟨m,hm,am⟩:=h6.blk
  refine ⟨i,Cell.lst ai rfl,Ar.i64 (by omega) (ArrR.st0 (o:=0) ai (by simp) fun w7 a7 x7=>⟨i+1,Cell.lst a7 rfl,Ar.i64 (by omega) ⟨by omega,by omega,?_⟩⟩)⟩
  have am7:=am.ext x7 e6
  refine ⟨_,am7.cell (by omega) (by rw [hm.1]; omega),k _ w7 (hm.2.at (by rw [hm.1]; omega)) ?_ (x6.out x7 h3) (y6.trans x7 fun i _ e => .inr (.inr e))⟩
  have c7:w7.heap[b]? = _:=(x7.blk b (Array.getElem?_eq_some_iff.1 h6.c).1 e3).trans h6.c
  exact ⟨c7,⟨l,hl,al.ext x7 e5⟩,⟨m,hm,am7⟩,⟨i+1,by omega,by omega,a7⟩,hc.no (x6.out x7 h3),h6.ne⟩
end
section
variable {w w':Wd}
theorem crypt_spec{key nonce text:Sl}{kl nl tl:List Int}{K:Sl->Int->Wd->Prop}(hk:RdB w.heap key kl)(hkB:B8 kl)(hlen:key.len=16∨key.len=32)(hn:RdB w.heap nonce nl)(hnB:B8 nl)(hnl:nonce.len=12)(ht:RdB w.heap text tl)(htl:text.len<=65536)
  (k:∀ b l w',ArrR w'.heap b 5 .u8 l->w.heap.size<=b->l.length=text.len->B8 l->Ext No w w'->K ⟨some ⟨b,0,none⟩,text.len,text.len⟩ 0 w'):C_ctr_Crypt key nonce text w K:=by
 apply S_ctr_Crypt
 refine aesNew_spec hk hkB hlen fun cb w1 hc hcb x1=>If.bne (fun h=>absurd rfl h) fun _=>first_spec (hn.no x1) hnB hnl fun r w2 hr x2 b w3 n3=>⟨by rw [List.append_nil,List.length_map]; exact hr.1,?_⟩
 have s3:=n3.at_; have z3:=n3.size; have lt1:=x1.size; have lt2:=x2.size
 have x3:Ext No w w3:=(x1.no x2).no n3.ext
 refine ArrR.stN (l:=List.replicate 16 0) n3.get (by rw [hr.1]; simp) fun w4 a4 x4=>If.bne (fun h=>absurd rfl h) fun _=>If.dec (fun h=>by omega) fun _=>⟨r,hr.1,a4.row,?_⟩
 have x4':Ext No w w4:=x3.out x4 (by omega)
 have y4:Ext No w1 w4:=(x2.no n3.ext).out x4 (by omega)
 apply S_ctr_stream
 refine fun b0 w5 n5 b1 w6 n6 b2 w7 n7 b3 w8 n8=>?_
 have s5:=n5.at_; have s6:=n6.at_; have s7:=n7.at_; have s8:=n8.at_
 have z5:=n5.size; have z6:=n6.size; have z7:=n7.size; have z8:=n8.size; have lt4:=x4'.size; have lt14:=y4.size
 have a8:ArrR w8.heap b3 3 .i64 [0]:=n8.get
 refine a8.st0 (o:=0) (by simp) fun w9 a9 x9=>?_
 have y8:Ext No w4 w8:=((n5.ext.no n6.ext).no n7.ext).no n8.ext
 have y9:Ext No w4 w9:=y8.out x9 (by omega)
 have c5:w5.heap[b0]? = some (.cells [Value.pointer (some ⟨cb,0,none⟩)].toArray 291 (0,0)):=n5.get
 have mv:∀{i:Nat}{o:Obj}{u u':Wd}{S:Nat->Prop},u.heap[i]? = some o->Ext S u u'->¬ S i->u'.heap[i]? = some o:=fun {i o u u' S} h x hs=>(x.blk i (Array.getElem?_eq_some_iff.1 h).1 hs).trans h
 have c9:=mv (mv (mv (mv c5 n6.ext fun h=>h) n7.ext fun h=>h) n8.ext fun h=>h) x9 (by omega)
 have b19:ArrR w9.heap b1 294 .u8 r:=(((ArrR.new n6).ext n7.ext fun h=>h).ext n8.ext fun h=>h).ext x9 (by omega)
 have b29:ArrR w9.heap b2 294 .u8 (List.replicate 16 0):=((show ArrR w7.heap b2 294 .u8 (List.replicate 16 0) from n7.get).ext n8.ext fun h=>h).ext x9 (by omega)
 have z1w9:Ext No w1 w9:=y4.no y9
 have sr:StrR w9 b0 b1 b2 b3 cb:=⟨c9,⟨r,hr,b19⟩,⟨_,⟨by simp,B8.zeros _⟩,b29⟩,⟨16,by omega,by omega,a9⟩,hc.no z1w9,by omega⟩
 refine MkW.arr (sz:=1) (k := .u8) (n:=text.len) rfl rfl (by omega) (by omega) fun bs w10 a10 hbs x10 hz10=>?_
 have lt9:=z1w9.size
 have lt9b:=a9.lt
 have sr10:StrR w10 b0 b1 b2 b3 cb:=⟨mv sr.c x10 fun h=>h,by obtain ⟨l,h1,h2⟩:=sr.ctr; exact ⟨l,h1,h2.ext x10 fun h=>h⟩,by obtain ⟨l,h1,h2⟩:=sr.blk; exact ⟨l,h1,h2.ext x10 fun h=>h⟩,by obtain ⟨i,h0,h1,h2⟩:=sr.at_; exact ⟨i,h0,h1,h2.ext x10 fun h=>h⟩,sr.cip.no x10,sr.ne⟩
 have htl2:tl.length=text.len:=(RdB.len ht).symm
 refine ⟨fun m t u=>t=(text.len:Int) - m/\m<=text.len/\Ext No w1 u/\StrR u b0 b1 b2 b3 cb/\∃ l,l.length=text.len/\B8 l/\ArrR u.heap bs 5 .u8 l,⟨text.len,by omega,Nat.le_refl _,z1w9.no x10,sr10,_,by simp,B8.zeros _,a10⟩,?_⟩
 rintro _ m t w11 ⟨htm,hm,x11,sr11,l,hl,hlB,al⟩
 refine If.dec (fun h=>?_) fun h=>k bs l w11 al (by omega) hl hlB (x1.no x11)
 refine Ix.int (ht.no (x1.no x11)) (by omega) (by omega) fun tb to _ hcell=>⟨_,hcell,V_ctr_stream_1 (stream1_spec sr11 x11 hc (by omega) (by omega) (by omega) fun q w12 hq sr12 x12 y12=>Nm.mk (Ix.arr (by omega) (by omega) ?_))⟩
 have al12:ArrR w12.heap bs 5 .u8 l:=al.ext y12 (by rintro (e | e | e) <;> omega)
 refine ArrR.st0 (o:=t.toNat * 1) al12 (by omega) fun w13 a13 x13=>Ar.i64 (by omega) ⟨m - 1,by omega,by omega,by omega,x12.out x13 (by omega),?_,_,by simpa using hl,hlB.set (bitI_by _ _ _) _,a13⟩
 have x13':Ext (fun i=>i=bs) w12 w13:=x13
 exact ⟨mv sr12.c x13' (by omega),by obtain ⟨l,h1,h2⟩:=sr12.ctr; exact ⟨l,h1,h2.ext x13' (by omega)⟩,by obtain ⟨l,h1,h2⟩:=sr12.blk; exact ⟨l,h1,h2.ext x13' (by omega)⟩,by obtain ⟨i,h0,h1,h2⟩:=sr12.at_; exact ⟨i,h0,h1,h2.ext x13' (by omega)⟩,hc.no (x12.out x13' (by omega)),sr12.ne⟩
theorem xor_spec{a b:Sl}{al bl:List Int}{K:Sl->Int->Wd->Prop}(ra:RdB w.heap a al)(rb:RdB w.heap b bl)(hl:a.len=b.len)(hm:a.len<=65536)(k:∀ s l w',OwnB w'.heap w.heap.size s l->l.length=al.length->B8 l->Ext No w w'->K s 0 w'):C_octet_Xor a b w K:=by
 apply S_octet_Xor
 refine If.bne (fun h=>absurd (by rw [hl]) h) fun _=>?_
 have hal:al.length=a.len:=(RdB.len ra).symm
 refine MkW.arr (sz:=1) (k := .u8) (n:=a.len) rfl rfl (by omega) (by omega) fun bs w1 a1 hbs x1 hz1=>?_
 refine ⟨fun m t u=>t=(a.len:Int) - m/\m<=a.len/\Ext No w u/\∃ l,l.length=a.len/\B8 l/\ArrR u.heap bs 5 .u8 l,⟨a.len,by omega,Nat.le_refl _,x1,_,by simp,B8.zeros _,a1⟩,?_⟩
 rintro _ m t w2 ⟨htm,hm2,x2,l,hll,hlB,al2⟩
 refine If.dec (fun h=>?_) fun h=>k _ l w2 (ArrR.own al2 (by omega) hll) (by omega) hlB x2
 refine ⟨Ext (·=bs) w2,(Ext.refl _ _).drew,Ix.int (ra.no x2) (by omega) (by omega) fun ab ao hab hac=>⟨al.getD t.toNat 0,?_,Ix.int (rb.no x2) (by omega) (by omega) fun bb bo hbb hbc=>⟨bl.getD t.toNat 0,?_,Nm.mk (Ix.arr (by omega) (by omega) ?_)⟩⟩⟩
 .have hne:al.map (Value.int .u8)≠[]:=fun e=>by have:=congrArg List.length e; simp at this; subst this; simp at hal; omega
  exact Held.but hac (by have:=ra.lt hne hab; omega)
 .have hbl:bl.length=b.len:=(RdB.len rb).symm
  have hne:bl.map (Value.int .u8)≠[]:=fun e=>by have:=congrArg List.length e; simp at this; subst this; simp at hbl; omega
  exact Held.but hbc (by have:=rb.lt hne hbb; omega)
 .have al2':ArrR (drewW w2).heap bs 5 .u8 l:=al2
  refine ArrR.st0 (o:=t.toNat * 1) al2' (by omega) fun w3 a3 x3=>?_
  have x3':Ext (fun i=>i=bs) (drewW w2) w3:=x3
  exact ⟨x3'.drew_left,Ar.i64 (by omega) ⟨m - 1,by omega,by omega,by omega,x2.drew.out x3' (by omega),_,by simpa using hll,hlB.set (bitI_by _ _ _) _,a3⟩⟩
theorem bld294:Sem.run pz (Instr.build 294 #[]) w = .ok (.agg (List.map (Value.int .u8) (List.replicate 16 0)++[]).toArray) w:=by kernel_rfl
theorem tag_spec{key nonce aad b:Sl}{kl nl al bl:List Int}{K:Sl->Int->Wd->Prop}(hk:RdB w.heap key kl)(hkB:B8 kl)(hlen:key.len=16∨key.len=32)(hn:RdB w.heap nonce nl)(hnB:B8 nl)(hnl:nonce.len=12)(ra:RdB w.heap aad al)(ba:B8 al)(rb:RdB w.heap b bl)(bb:B8 bl)
  (k:∀ s l w',OwnB w'.heap w.heap.size s l->l.length=16->B8 l->Ext No w w'->K s 0 w'):C_gcm_tag key nonce aad b w K:=by
 apply S_gcm_tag
 refine aesNew_spec hk hkB hlen fun cb w1 hc hcb x1=>If.bne (fun h=>absurd rfl h) fun _=>first_spec (hn.no x1) hnB hnl fun r w2 hr x2 b1 w3 n3=>⟨by rw [List.append_nil,List.length_map]; exact hr.1,?_⟩
 have s3:=n3.at_; have z3:=n3.size; have lt1:=x1.size; have lt2:=x2.size
 have x3:Ext No w w3:=(x1.no x2).no n3.ext
 refine ArrR.stN (l:=List.replicate 16 0) n3.get (by rw [hr.1]; simp) fun w4 a4 x4=>If.bne (fun h=>absurd rfl h) fun _=>⟨List.replicate 16 0,by simp,w4,bld294,?_⟩
 have x4':Ext No w w4:=x3.out x4 (by omega)
 have y4:Ext No w1 w4:=(x2.no n3.ext).out x4 (by omega)
 refine encrypt_spec (hc.no y4) ⟨by simp,B8.zeros _⟩ fun h w6 hh x6 b2 w7 n7=>⟨by rw [List.append_nil,List.length_map]; exact hh.1,ArrR.stN (l:=List.replicate 16 0) n7.get (by rw [hh.1]; simp) fun w8 a8 x8=>⟨r,hr.1,?_,?_⟩⟩
 .exact (((a4.ext x6 fun h=>h).ext n7.ext fun h=>h).ext x8 (by have:=x6.size; have:=a4.lt; have:=n7.at_; omega)).row
 have s7:=n7.at_; have z7:=n7.size; have lt4:=x4'.size; have lt6:=x6.size; have ltb1:=a4.lt
 have y8:Ext No w4 w8:=(x6.no n7.ext).out x8 (by omega)
 have lt8:=y8.size
 refine encrypt_spec (hc.no (y4.no y8)) hr fun msk w9 hmk x9 b3 w10 n10=>⟨by rw [List.append_nil,List.length_map]; exact hmk.1,ArrR.stN (l:=List.replicate 16 0) n10.get (by rw [hmk.1]; simp) fun w11 a11 x11=>?_⟩
 have s10:=n10.at_; have z10:=n10.size; have lt9:=x9.size; have ltb2:=a8.lt
 have y11:Ext No w8 w11:=(x9.no n10.ext).out x11 (by omega)
 have x011:Ext No w w11:=(x4'.no y8).no y11
 refine ⟨h,hh.1,(((a8.ext x9 fun h=>h).ext n10.ext fun h=>h).ext x11 (by omega)).row,ghash_spec hh (ra.no x011) (rb.no x011) ba bb fun q w12 hq x12 b4 w13 n13=>⟨by rw [List.append_nil,List.length_map]; exact hq.1,ArrR.stN (l:=List.replicate 16 0) n13.get (by rw [hq.1]; simp) fun w14 a14 x14=>?_⟩⟩
 have s13:=n13.at_; have z13:=n13.size; have lt11:=y11.size; have lt12:=x12.size; have ltb3:=a11.lt
 have y14:Ext No w11 w14:=(x12.no n13.ext).out x14 (by omega)
 have a314:ArrR w14.heap b3 294 .u8 msk:=((a11.ext x12 fun h=>h).ext n13.ext fun h=>h).ext x14 (by omega)
 refine ⟨fun _=>True,trivial,Cut.arr (by decide) (by decide) (by decide) (by decide) (Cut.arr (by decide) (by decide) (by decide) (by decide) ?_)⟩
 have ad:ArrR (drewW w14).heap b4 294 .u8 q:=a14
 have ad3:ArrR (drewW w14).heap b3 294 .u8 msk:=a314
 have x014:Ext No w w14:=x011.no y14
 have lt14:=x014.size
 refine xor_spec (ad.rd (o:=0) (n:=16) (c:=16) (by rw [hq.1]; decide) (by decide)) (ad3.rd (o:=0) (n:=16) (c:=16) (by rw [hmk.1]; decide) (by decide)) rfl (by show 16<=65536; omega) fun s l w15 o15 hl15 hB15 x15=>⟨trivial,k s l w15 (o15.mono ?_) ?_ hB15 (x014.no x15.drew_left)⟩
 .exact lt14
 .rw [hl15]; simp [hq.1]
theorem opens_spec{key nonce:Sl}{K:Int->Wd->Prop}(hlen:key.len=16∨key.len=32)(hnl:nonce.len=12)(k:K 0 w):C_gcm_opens key nonce w K:=by
 apply S_gcm_opens
 exact If.bne (fun h=>If.bne (fun h2=>by omega) fun _=>If.bne (fun h=>by omega) fun _=>k) fun _=>If.bne (fun h=>by omega) fun _=>k
theorem gcmSeal_spec{key nonce aad text:Sl}{kl nl al tl:List Int}{K:Sl->Int->Wd->Prop}(hk:RdB w.heap key kl)(hkB:B8 kl)(hlen:key.len=16∨key.len=32)(hn:RdB w.heap nonce nl)(hnB:B8 nl)(hnl:nonce.len=12)(ra:RdB w.heap aad al)(ba:B8 al)(hal:aad.len<=65536)(ht:RdB w.heap text tl)(htl:text.len<=65536)(ht1:1<=text.len)
  (k:∀ s l w',OwnB w'.heap w.heap.size s l->l.length=text.len+16->B8 l->Ext No w w'->K s 0 w'):C_gcm_Seal key nonce aad text w K:=by
 apply S_gcm_Seal
 refine opens_spec hlen hnl (If.bne (fun h=>absurd rfl h) fun _=>⟨fun u=>u=w,If.dec (fun h=>by omega) fun _=>If.dec (fun h=>by omega) fun _=>rfl,?_⟩)
 rintro _ w2 rfl
 refine crypt_spec hk hkB hlen hn hnB hnl ht htl fun b l w3 a3 hb3 hl3 hB3 x3=>If.bne (fun h=>absurd rfl h) fun _=>?_
 have o3:OwnB w3.heap w2.heap.size ⟨some ⟨b,0,none⟩,text.len,text.len⟩ l:=ArrR.own a3 hb3 hl3
 refine tag_spec (hk.no x3) hkB hlen (hn.no x3) hnB hnl (ra.no x3) ba o3.rd hB3 fun s4 l4 w4 o4 hl4 hB4 x4=>?_
 refine Cut.arr (by decide) (by show (0:Int)<=(text.len:Int); omega) (Int.le_refl _) (by show (0:Int) < (text.len:Int); omega) ?_
 have o34:OwnB w4.heap w2.heap.size ⟨some ⟨b,(0:Int).toNat,none⟩,((text.len:Int) - 0).toNat,((text.len:Int) - 0).toNat⟩ l:=by
  have e:((text.len:Int) - 0).toNat=text.len:=by omega
  rw [e]; exact o3.no x4
 have hs4:s4.len=16:=by rw [OwnB.len o4]; exact hl4
 have lt3:=x3.size; have lt4:=x4.size
 refine app_uint8 o34 (by omega) o4.rd.src (by show (((text.len:Int) - 0).toNat+s4.len) * 1<=_; omega) fun s5 w5 o5 _ x5 _=>?_
 rw [<- List.map_append] at o5
 exact k s5 (l++l4) w5 o5 (by simp [hl3,hl4]) (hB3.append hB4) ((x3.no x4).trans x5 fun i hi e=>by simp [Sl.blk] at e; omega)
end
end Go.Proofs.YtmbckodpbdlblaaGreat
namespace Go.V
theorem app_new{P:Program}{t t' e:TypeId}{d:TypeDesc}{ie:TypeInfo}{z:Value}{w:Wd}{s:Sl}{x:Value}{n sz:Nat}{cs xs:List Value}{K:Sl->Wd->Prop}
  (ht:P.underlying t=some (.slice e)) (ht':P.underlying t'=some d) (hd:∀ k,d ≠ .int k) (hi:P.info? e=some ie) (hz:ie.zero=some z) (hsz:ie.size=sz) (hzs:z.cells.size=sz) (hbp:0 < ie.bytes)
  (rd:Rd w.heap s sz cs) (hcap:s.cap < s.len+n) (src:Src P w x sz n xs) (hb:(s.len+n) * ie.bytes<=140737488355328)
  (hk:∀ s' w',Own w'.heap w.heap.size e sz s' (cs++xs)->s'.len=s.len+n->Ext No w w'->K s' w'):AppW P t t' s x K w:=by
 have hfit:¬ s.len+n<=s.cap:=by omega
 have hfits:=growslice_fits (bytes:=ie.bytes) hcap hb
 have hge:=grownCap_ge (w:=w) (need:=s.len+n) (old:=s.cap) (e:=e)
 have hold:=(rd.src (P:=P)).get (drewW w) rfl
 have hnew:=src.get (drewW w) rfl
 refine ⟨⟨some ⟨w.heap.size,0,none⟩,s.len+n,grownCap w (s.len+n) s.cap e⟩,World.pushBlk (drewW w) (.cells (cs++(xs++(Builtin.zeroCells z.cells (grownCap w (s.len+n) s.cap e - (s.len+n))).toList)).toArray e),fun ty=>?_,hk _ _ ?_ rfl ?_⟩
 .obtain ⟨sa,sl,sc⟩:=s
  have h0:=src.num
  simp only at hfit hfits hold hge
  have hnot:¬ (Builtin.nextslicecap (sl+n) sc * ie.bytes > 2 ^ 48):=by omega
  have hbz:ie.bytes≠0:=by omega
  simp [-run_choose,Builtin.append_,run_und ht,run_und ht',run_size hi,hsz,h0,hfit,hbz,run_info hi,hnot,run_choose_cap,hold,hnew,run_zero hi hz,run_newRow]
  refine ⟨by simp [drewW],?_⟩
  congr 2
  apply Array.toList_inj.1; simp
 .have hlen:=rd.len
  have hx:=src.len
  refine ⟨by rw [List.length_append,hlen,hx,Nat.add_mul], .inr ⟨w.heap.size,(Builtin.zeroCells z.cells (grownCap w (s.len+n) s.cap e - (s.len+n))).toList,rfl,Nat.le_refl _,?_,?_,hge⟩,fun v hv=>?_⟩
  .unfold World.pushBlk drewW
   simp only [Array.getElem?_push,if_true,List.append_assoc]
  .simp only [List.length_append,hlen,hx,Array.length_toList,zeroCells_size,hzs]
   rw [<- Nat.add_mul,<- Nat.add_mul]
   congr 1; omega
  .rcases List.mem_append.1 hv with h | h
   .exact rd.cells v h
   .exact src.cells v h
 .refine ⟨rfl,rfl,rfl,by simp [World.pushBlk,drewW],fun i hi _=>?_⟩
  simp only [World.pushBlk,drewW]
  exact heap_push _ _ _ hi
end Go.V
namespace Go.Proofs.YtmbckodpbdlblaaGreat
open Go.V
section
variable {w w':Wd}
theorem app8_new{s x:Sl}{l m:List Int}{K:Sl->Wd->Prop}(rd:RdB w.heap s l)(hcap:s.cap < s.len+x.len)(rx:RdB w.heap x m)(hb:s.len+x.len<=1000000)(hk:∀ s' w',OwnB w'.heap w.heap.size s' (l++m)->Ext No w w'->K s' w'):AppW pz 22 22 s x.v K w :=
 app_new (P:=pz) (e:=5) (d := .slice 5) (ie:=Tryz.t5) (z:=Tryz.t5.zero.getD .nilFunc) (by kernel_rfl) (by kernel_rfl) (fun k h=>by cases h) (by kernel_rfl) (by kernel_rfl) (by kernel_rfl) (by kernel_rfl) (by decide) rd hcap rx.src (by show (s.len+x.len) * 1<=_; omega) fun s' w' o _ e=>hk s' w' (by rw [<- List.map_append] at o; exact o) e
theorem number_spec{n size:Int}{K:Sl->Wd->Prop}(hn:0<=n)(h1:1<=size)(h8:size<=8)(hfit:n < 256 ^ size.toNat)(k:∀ s w',OwnB w'.heap w.heap.size s (be size.toNat n)->Ext No w w'->K s w'):C_hier_number n size w K:=by
 apply S_hier_number
 exact put_spec hn h1 h8 hfit k
theorem around_spec{tenant gen commit:Int}{K:Sl->Sl->Wd->Prop}(ht:0<=tenant/\tenant<=4294967295)(hg:0<=gen/\gen<=65535)(hc:U64 commit)
  (k:∀ s s' l l' w',OwnB w'.heap w.heap.size s l->OwnB w'.heap w.heap.size s' l'->B8 l->B8 l'->l.length=12->l'.length=6->Ext No w w'->K s s' w'):C_hier_around tenant gen commit w K:=by
 apply S_hier_around
 refine Ar.u64 (by omega) (number_spec (by omega) (by decide) (by decide) (by show _ < (256:Int) ^ 4; omega) fun r w1 o1 x1=>?_)
 have hr:r.len=4:=by have:=OwnB.len o1; rw [be_len] at this; exact this
 have hrc:=o1.rd.cap
 have rc:RdB w1.heap ⟨cutA r.a 4 0 1,4 - 0,4 - 0⟩ (be 4 tenant):=by
  have:=o1.rd.cut (lo:=0) (hi:=4) (mx:=4) (by decide) (by omega) (by decide)
  simpa [be_len,List.take_of_length_le] using this
 refine ⟨fun _=>True,trivial,Cut.mk (by decide) (by decide) (by decide) (by omega) (Cut.mk (by decide) (by decide) (by decide) (by omega) (Ar.u64 (by omega) ?_))⟩
 refine number_spec hc.1 (by decide) (by decide) (u64B hc) fun r2 w2 o2 x2=>⟨trivial,?_⟩
 have hr2:r2.len=8:=by have:=OwnB.len o2; rw [be_len] at this; exact this
 have x12:Ext No w1 w2:=x2.drew_left
 refine app8_new (s:=⟨cutA r.a 4 0 1,4 - 0,4 - 0⟩) (rc.no x12) (by rw [hr2]; show 4 < 4+8; omega) o2.rd (by rw [hr2]; show 4+8<=1000000; omega) fun s w3 o3 x3=>⟨trivial,?_⟩
 refine number_spec (by omega) (by decide) (by decide) (by show _ < (256:Int) ^ 2; omega) fun r4 w4 o4 x4=>⟨trivial,?_⟩
 have hr4:r4.len=2:=by have:=OwnB.len o4; rw [be_len] at this; exact this
 refine app8_new (s:=⟨cutA r.a 4 0 1,4 - 0,4 - 0⟩) (((rc.no x12).no x3).no x4) (by rw [hr4]; show 4 < 4+2; omega) o4.rd (by rw [hr4]; show 4+2<=1000000; omega) fun s' w5 o5 x5=>⟨trivial,?_⟩
 have l1:=x1.size; have l2:=x12.size; have l3:=x3.size; have l4:=x4.size
 exact k s s' _ _ w5 (((o3.no x4).no x5).mono (by omega)) (o5.mono (by omega)) ((be_b8 _ _).append (be_b8 _ _)) ((be_b8 _ _).append (be_b8 _ _)) (by simp [be_len]) (by simp [be_len]) ((((x1.no x12).no x3).no x4).no x5)
theorem drawn1_spec{i p g:Int}{x0 x1 x2 cb:Nat}{K:List Int->Int->Wd->Prop}(h0:w.heap[x0]? = some (.cells [Value.pointer (some ⟨cb,0,none⟩)].toArray 291 (0,0)))(h1:w.heap[x1]? = some (.cells [Value.int .u8 p].toArray 5 (0,0)))(h2:w.heap[x2]? = some (.cells [Value.int .u16 g].toArray 34 (0,0)))(hc:CipR w cb)(hp:By p)
  (k:∀ r w',St16 r->Ext No w w'->K r 0 w'):C_hier_drawn_1 i ⟨x0,0,none⟩ ⟨x1,0,none⟩ ⟨x2,0,none⟩ w K:=by
 apply S_hier_drawn_1
 refine fun b w1 n1=>?_
 have s1:=n1.at_
 have mv:∀{i:Nat}{o:Obj},w.heap[i]? = some o->w1.heap[i]? = some o:=fun {i o} h=>(n1.ext.blk i (Array.getElem?_eq_some_iff.1 h).1 fun h=>h).trans h
 refine ⟨_,Cell.lst (mv h0) rfl,p,Cell.lst (mv h1) rfl,g,Cell.lst (mv h2) rfl,by decide,Nm.mk (Ar.u8m ⟨g,Cell.lst (mv h2) rfl,Ar.u8m (Ar.u8m ?_)⟩)⟩
 generalize hz1:Int.fdiv g (2 ^ min (Int.toNat 8) (IntKind.bits .u16)) % 256=z1
 generalize hz2:g % 256=z2
 generalize hz3:i % 256=z3
 have q:St16 [p,z1,z2,0,0,0,0,0,0,0,0,0,0,0,0,z3]:=⟨rfl,by
  intro x hx
  simp only [List.mem_cons,List.not_mem_nil,or_false] at hx
  have:=hp.1; have:=hp.2
  constructor <;> omega⟩
 refine ⟨[p,z1,z2,0,0,0,0,0,0,0,0,0,0,0,0,z3],rfl,w1,by kernel_rfl,encrypt_spec (hc.no n1.ext) q fun r w3 hr x3=>⟨by rw [List.append_nil,List.length_map]; exact hr.1,?_⟩⟩
 refine ArrR.stN (l:=List.replicate 16 0) ((show ArrR w1.heap b 294 .u8 (List.replicate 16 0) from n1.get).ext x3 fun h=>h) (by rw [hr.1]; simp) fun w4 a4 x4=>⟨r,hr.1,a4.row,RowR.mk hr.1 (k r w4 hr ((n1.ext.no x3).out x4 (by omega)))⟩
theorem drawn_spec{key:Sl}{kl:List Int}{p g:Int}{K:Sl->Int->Wd->Prop}(hk:RdB w.heap key kl)(hkB:B8 kl)(hlen:key.len=32)(hp:By p)(k:∀ s l w',OwnB w'.heap w.heap.size s l->l.length=32->B8 l->Ext No w w'->K s 0 w'):C_hier_drawn key 32 p g 2 w K:=by
 apply S_hier_drawn
 refine fun b w1 n1 b1 w2 n2=>If.bne (fun h=>absurd (by rw [hlen]; rfl) h) fun _=>?_
 have x2:Ext No w w2:=n1.ext.no n2.ext
 have s1:=n1.at_; have s2:=n2.at_; have z1:=n1.size; have z2:=n2.size
 have mv:∀{i:Nat}{o:Obj}{u u':Wd}{S:Nat->Prop},u.heap[i]? = some o->Ext S u u'->¬ S i->u'.heap[i]? = some o:=fun {i o u u' S} h x hs=>(x.blk i (Array.getElem?_eq_some_iff.1 h).1 hs).trans h
 refine aesNew_spec (hk.no x2) hkB (.inr hlen) fun cb w3 hc hcb x3 b2 w4 n4=>?_
 have s4:=n4.at_; have z4:=n4.size; have l3:=x3.size
 refine St1.mk (cs:=[Value.pointer none]) n4.get (by simp) rfl fun w5 hw5=>If.bne (fun h=>absurd rfl h) fun _=>?_
 have x5:Ext (·=b2) w4 w5:=hw5.ext
 have c5:w5.heap[b2]? = some (.cells [Value.pointer (some ⟨cb,0,none⟩)].toArray 291 (0,0)):=hw5.get n4.get
 have p5:w5.heap[b]? = some (.cells [Value.int .u8 p].toArray 5 (0,0)):=mv (mv (mv (mv (show w1.heap[b]? = some (.cells [Value.int .u8 p].toArray 5 (0,0)) from n1.get) n2.ext fun h=>h) x3 fun h=>h) n4.ext fun h=>h) x5 (by omega)
 have g5:w5.heap[b1]? = some (.cells [Value.int .u16 g].toArray 34 (0,0)):=mv (mv (mv (show w2.heap[b1]? = some (.cells [Value.int .u16 g].toArray 34 (0,0)) from n2.get) x3 fun h=>h) n4.ext fun h=>h) x5 (by omega)
 have y5:Ext No w w5:=((x2.no x3).no n4.ext).out x5 (by omega)
 have hc5:CipR w5 cb:=hc.no (n4.ext.out x5 (by omega))
 have l5:=y5.size
 refine ⟨fun m out t u=>t=2 - (m:Int)/\m<=2/\Ext No w5 u/\∃ l,OwnB u.heap w5.heap.size out l/\l.length=16 * t.toNat/\B8 l,⟨2,by omega,by omega,Ext.refl _ _,[],Own.nil _ _ _ _,rfl,B8.nil⟩,?_⟩
 rintro _ m out t w6 ⟨ht,hm,x6,l,o,hl,hB⟩
 refine If.dec (fun h=>?_) fun h=>k out l w6 (o.mono (by omega)) (by omega) hB (y5.no x6)
 refine V_hier_drawn_1 (drawn1_spec (mv c5 x6 fun h=>h) (mv p5 x6 fun h=>h) (mv g5 x6 fun h=>h) (hc5.no x6) hp fun r w7 hr x7 b3 w8 n8=>⟨by rw [List.append_nil,List.length_map]; exact hr.1,?_⟩)
 have s8:=n8.at_; have l6:=x6.size; have l7:=x7.size; have z8:=n8.size
 refine ArrR.stN (l:=List.replicate 16 0) n8.get (by rw [hr.1]; simp) fun w9 a9 x9=>If.bne (fun h=>absurd rfl h) fun _=>?_
 have y9:Ext No w6 w9:=(x7.no n8.ext).out x9 (by omega)
 have l9:=y9.size
 have hol:=OwnB.len o
 refine Cut.arr (by decide) (by decide) (by decide) (by decide) (app_uint8 (o.no y9) (by omega) (a9.rd (o:=0) (n:=16) (c:=16) (by rw [hr.1]; decide) (by decide)).src (by show (out.len+16) * 1<=_; omega) fun s w10 o10 _ x10 _=>?_)
 rw [<- List.map_append] at o10
 have y10:Ext No w5 w10:=(x6.no y9).trans x10 fun i hi e=>by have:=(o.lt e).1; omega
 exact Ar.i64 (by omega) ⟨m - 1,by omega,by omega,by omega,y10,_,o10,by simp [hr.1,hl]; omega,hB.append ((hr.2.drop _).take _)⟩
theorem root_spec{key:Sl}{kl:List Int}{gen:Int}{K:Sl->Int->Wd->Prop}(hk:RdB w.heap key kl)(hkB:B8 kl)(hlen:key.len=32)(k:∀ s l w',OwnB w'.heap w.heap.size s l->l.length=32->B8 l->Ext No w w'->K s 0 w'):C_hier_Root key gen w K:=by
 apply S_hier_Root
 exact drawn_spec hk hkB hlen ⟨by decide,by decide⟩ k
theorem wrapper_spec{key:Sl}{kl:List Int}{gen:Int}{K:Sl->Int->Wd->Prop}(hk:RdB w.heap key kl)(hkB:B8 kl)(hlen:key.len=32)(k:∀ s l w',OwnB w'.heap w.heap.size s l->l.length=32->B8 l->Ext No w w'->K s 0 w'):C_hier_Wrapper key gen w K:=by
 apply S_hier_Wrapper
 exact drawn_spec hk hkB hlen ⟨by decide,by decide⟩ k
theorem mark_spec{key secret:Sl}{kl sl:List Int}{K:Sl->Int->Wd->Prop}(hk:RdB w.heap key kl)(hkB:B8 kl)(hlen:key.len=32)(hs:RdB w.heap secret sl)(hsB:B8 sl)(hsl:secret.len=16)(k:∀ b l w',ArrR w'.heap b 294 .u8 l->w.heap.size<=b->l.length=16->B8 l->Ext No w w'->K ⟨some ⟨b,0,none⟩,16,16⟩ 0 w'):C_hier_Mark key secret w K:=by
 apply S_hier_Mark
 refine drawn_spec hk hkB hlen ⟨by decide,by decide⟩ fun kk kkl w1 o1 hl1 hB1 x1=>⟨fun u=>u=w1,If.bne (fun h=>absurd rfl h) fun _=>If.bne (fun h=>by omega) fun _=>rfl,?_⟩
 rintro _ w2 rfl
 have hkl:kk.len=32:=by rw [OwnB.len o1]; exact hl1
 refine aesNew_spec o1.rd hB1 (.inr hkl) fun cb w3 hc hcb x3=>If.bne (fun h=>absurd rfl h) fun _=>⟨by omega,?_⟩
 have hsl2:sl.length=16:=by have:=RdB.len hs; omega
 have hne:sl.map (Value.int .u8)≠[]:=fun e=>by have:=congrArg List.length e; simp [hsl2] at this
 obtain ⟨sb,so,ha,hcell⟩:=hs.at_ hne
 have x13:=x1.no x3
 have hr3:=hs.no x13
 obtain ⟨sb',so',ha',hcell'⟩:=hr3.at_ hne
 rw [ha'] 
 refine Nn.mk ⟨sl,hsl2,Cell.row fun j hj=>Cell.mk ?_,encrypt_spec hc ⟨hsl2,hsB⟩ fun r w4 hr x4 b w5 n5=>⟨by rw [List.append_nil,List.length_map]; exact hr.1,?_⟩⟩
 .have:=hcell' j (by simpa using hj)
  simpa using this
 have s5:=n5.at_; have z5:=n5.size; have l1:=x1.size; have l3:=x3.size; have l4:=x4.size
 refine ArrR.stN (l:=List.replicate 16 0) n5.get (by rw [hr.1]; simp) fun w6 a6 x6=>Cut.arr (by decide) (by decide) (by decide) (by decide) (k b r w6 a6 (by omega) hr.1 hr.2 (((x13.no x4).no n5.ext).out x6 (by omega)))
end
structure NS where
 n:Int
 z:Nat
abbrev NS.two(p:NS):List Int:=[p.n,(p.z:Int)]
abbrev NS.b(p:NS):List Int:=be p.z p.n
abbrev NS.OK(p:NS):Prop:=0<=p.n/\p.n < 256 ^ p.z/\1<=p.z/\p.z<=8
theorem two_len:∀ l:List NS,(l.flatMap NS.two).length=2 * l.length
 | []=>rfl
 | p::l=>by rw [List.flatMap_cons,List.length_append,two_len l]; simp; omega
section
variable {w w':Wd}
theorem numbers_spec{lb:Nat}{vs:List NS}{n:Nat}{K:Sl->Wd->Prop}(a:ArrR w.heap lb 24 .u64 (vs.flatMap NS.two))(hn:n=2 * vs.length)(hn2:vs.length<=100)(ok:∀ p∈vs,p.OK)(k:∀ s w',OwnB w'.heap w.heap.size s (vs.flatMap NS.b)->Ext No w w'->K s w'):C_seal_numbers ⟨some ⟨lb,0,none⟩,n,n⟩ w K:=by
 subst hn
 apply S_seal_numbers
 refine ⟨fun m b i u=>Ext No w u/\∃ d r,vs=d++r/\i=2 * (d.length:Int)/\m=r.length/\OwnB u.heap w.heap.size b (d.flatMap NS.b),⟨vs.length,Ext.refl _ _,[],vs,rfl,rfl,rfl,Own.nil _ _ _ _⟩,?_⟩
 rintro _ m b i w1 ⟨x1,d,r,hv,hi,hm,o⟩
 have hdl:d.length+r.length=vs.length:=by rw [hv,List.length_append]
 refine Ar.i64 (by omega) (If.dec (fun h=>?_) fun h=>?_)
 .have h':i+1 < ((2 * vs.length:Nat):Int):=h
  cases r with
  | nil=>simp at hdl; omega
  | cons p r =>
  have hp:=ok p (by rw [hv]; simp)
  have hl1:(vs.flatMap NS.two).length=2 * vs.length:=two_len vs
  have hdl2:(d.flatMap NS.two).length=2 * d.length:=two_len d
  have g0:(vs.flatMap NS.two).getD (i.toNat * 1+0) 0=p.n:=by
   rw [hv,List.flatMap_append,List.getD_eq_getElem?_getD,List.getElem?_append_right (by omega),List.flatMap_cons,show i.toNat * 1+0 - (d.flatMap NS.two).length=0 by omega]; rfl
  have g1:(vs.flatMap NS.two).getD ((i+1).toNat * 1+0) 0=(p.z:Int):=by
   rw [hv,List.flatMap_append,List.getD_eq_getElem?_getD,List.getElem?_append_right (by omega),List.flatMap_cons,show (i+1).toNat * 1+0 - (d.flatMap NS.two).length=1 by omega]; rfl
  have a1:=a.ext x1 fun h=>h
  have c0:=a1.heldA (S:=No) (fun h=>h) (o:=i.toNat * 1) (j:=0) (by omega)
  have c1:=a1.heldA (S:=No) (fun h=>h) (o:=(i+1).toNat * 1) (j:=0) (by omega)
  rw [g0] at c0; rw [g1] at c1
  refine ⟨Ext No w1,(Ext.refl _ _).drew,Ix.arr (by omega) (by omega) ⟨p.n,c0,Ar.i64 (by omega) (Ix.arr (by omega) h' ⟨(p.z:Int),c1,Ar.i64 (by omega) ?_⟩)⟩⟩
  refine put_spec hp.1 (by omega) (by omega) (by rw [Int.toNat_natCast]; exact hp.2.1) fun s w2 o2 x2=>⟨x2.drew_left,?_⟩
  rw [Int.toNat_natCast] at o2
  have x12:Ext No w1 w2:=x2.drew_left
  have l1:=x1.size; have l2:=x12.size
  have hs:s.len=p.z:=by rw [OwnB.len o2,be_len]
  have hb8:∀ d:List NS,(∀ q∈d,q.OK)->(d.flatMap NS.b).length<=8 * d.length:=fun d=>by
   induction d with
   | nil=>intro _; simp
   | cons q d ih =>
    intro hq
    have:=ih fun q hq'=>hq q (by simp [hq'])
    have:=hq q (by simp)
    rw [List.flatMap_cons,List.length_append,be_len,List.length_cons]; omega
  have hbl:b.len<=8 * d.length:=by rw [OwnB.len o]; exact hb8 d fun q hq=>ok q (by rw [hv]; simp [hq])
  refine app_uint8 (o.no x12) (by omega) o2.rd.src (by omega) fun s3 w3 o3 _ x3 _=>?_
  rw [<- List.map_append] at o3
  refine Ar.i64 (by omega) ⟨r.length,by rw [hm]; simp,(x1.no x12).trans x3 fun i hi e=>by have:=(o.lt e).1; omega,d++[p],r,by rw [hv]; simp,by simp; omega,rfl,?_⟩
  rw [List.flatMap_append,List.flatMap_cons,List.flatMap_nil,List.append_nil]; exact o3
 .have h':¬ i+1 < ((2 * vs.length:Nat):Int):=h
  have:r=[]:=List.length_eq_zero_iff.1 (by omega)
  subst this
  rw [List.append_nil] at hv; subst hv
  exact k b w1 o x1
structure Lab where
 t:Int
 kd:Int
 lv:Int
 pg:Int
 cm:Int
 gn:Int
abbrev Lab.OK(l:Lab):Prop:=(0<=l.t/\l.t<=4294967295)/\By l.kd/\By l.lv/\(0<=l.pg/\l.pg<=4294967295)/\U64 l.cm/\(0<=l.gn/\l.gn<=65535)
theorem nonceOf_spec{l:Lab}{K:Sl->Wd->Prop}(ok:l.OK)(k:∀ s r w',OwnB w'.heap w.heap.size s r->r.length=12->B8 r->Ext No w w'->K s w'):C_seal_NonceOf l.t l.kd l.lv l.pg l.cm l.gn w K:=by
 apply S_seal_NonceOf
 obtain ⟨h1,h2,h3,h4,h5,h6⟩:=ok
 refine fun b w1 n1=>⟨l.pg,Cell.lst n1.get rfl,Ar.u64 (by omega) ⟨l.cm,Cell.lst n1.get rfl,fun b1 w2 n2=>?_⟩⟩
 have l1:=n1.ext.size; have l2:=n2.ext.size
 refine numbers_spec (vs:=[⟨l.pg,4⟩,⟨l.cm,8⟩]) n2.get rfl (by simp) ?_ fun s w3 o3 x3=>k s _ w3 (o3.mono (by omega)) rfl ?_ ((n1.ext.no n2.ext).no x3)
 .intro p hp
  simp only [List.mem_cons,List.not_mem_nil,or_false] at hp
  rcases hp with rfl | rfl
  .exact ⟨h4.1,by show l.pg < (256:Int) ^ 4; omega,by simp,by simp⟩
  .exact ⟨h5.1,u64B h5,by simp,by simp⟩
 .exact (be_b8 _ _).append ((be_b8 _ _).append B8.nil)
theorem aadOf_spec{l:Lab}{K:Sl->Wd->Prop}(ok:l.OK)(k:∀ s r w',OwnB w'.heap w.heap.size s r->r.length=8->B8 r->Ext No w w'->K s w'):C_seal_AadOf l.t l.kd l.lv l.pg l.cm l.gn w K:=by
 apply S_seal_AadOf
 obtain ⟨h1,h2,h3,h4,h5,h6⟩:=ok
 have:=h2.1; have:=h2.2; have:=h3.1; have:=h3.2
 refine fun b w1 n1=>⟨l.t,Cell.lst n1.get rfl,Ar.u64 (by omega) ⟨l.kd,Cell.lst n1.get rfl,Ar.u64 (by omega) ⟨l.lv,Cell.lst n1.get rfl,Ar.u64 (by omega) ⟨l.gn,Cell.lst n1.get rfl,Ar.u64 (by omega) fun b1 w2 n2=>?_⟩⟩⟩⟩
 have l1:=n1.ext.size; have l2:=n2.ext.size
 refine numbers_spec (vs:=[⟨l.t,4⟩,⟨l.kd,1⟩,⟨l.lv,1⟩,⟨l.gn,2⟩]) n2.get rfl (by simp) ?_ fun s w3 o3 x3=>k s _ w3 (o3.mono (by omega)) rfl ?_ ((n1.ext.no n2.ext).no x3)
 .intro p hp
  simp only [List.mem_cons,List.not_mem_nil,or_false] at hp
  rcases hp with rfl | rfl | rfl | rfl
  .exact ⟨h1.1,by show l.t < (256:Int) ^ 4; omega,by simp,by simp⟩
  .exact ⟨h2.1,by show l.kd < (256:Int) ^ 1; omega,by simp,by simp⟩
  .exact ⟨h3.1,by show l.lv < (256:Int) ^ 1; omega,by simp,by simp⟩
  .exact ⟨h6.1,by show l.gn < (256:Int) ^ 2; omega,by simp,by simp⟩
 .exact (be_b8 _ _).append ((be_b8 _ _).append ((be_b8 _ _).append ((be_b8 _ _).append B8.nil)))
end
abbrev magic:List Int:=[67,72,84,49]
section
variable {w w':Wd}
theorem conv22{b n c:Nat}{cs:Array Value}{t:TypeId}{fz:Nat×Nat}(hb:w.heap[b]? = some (.cells cs t fz)):∃ w',Sem.run pz (convert 22 22 (.slice (some ⟨b,0,none⟩) n c)) w = .ok (.slice (some ⟨b,0,none⟩) n c) w'/\Ext (·=b) w w'/\w'.heap.size=w.heap.size/\∃ fz',w'.heap[b]? = some (.cells cs t fz'):=by
 have h40:Tryz.prog.underlying 22=some (.slice 5):=by kernel_rfl
 have h5:Tryz.prog.underlying 5=some (.int .u8):=by kernel_rfl
 have hsh:w.shape? b=some (t,cs.size):=by simp [World.shape?,hb]
 refine ⟨w.freeze { block:=b,off:=cs.size } 1,?_,⟨rfl,rfl,rfl,?_,fun i hi hne=>?_⟩,?_,?_⟩
 .simp [convert,run_und h40,run_und h5,markStringish,shape,Sem.run,hsh,freeze]
 .simp [World.freeze]
 .have hne':¬ b=i:=fun e=>hne e.symm
  simp [World.freeze,Array.getElem?_modify,hne']
 .simp [World.freeze]
 .obtain ⟨lo,hi⟩:=fz
  simp [World.freeze,Array.getElem?_modify,hb]
theorem headOf_spec{l:Lab}{K:Sl->Wd->Prop}(ok:l.OK)(k:∀ s r w',OwnB w'.heap w.heap.size s (magic++r)->r.length=12->B8 r->Ext No w w'->K s w'):C_seal_HeadOf l.t l.kd l.lv l.pg l.cm l.gn w K:=by
 apply S_seal_HeadOf
 obtain ⟨h1,h2,h3,h4,h5,h6⟩:=ok
 have:=h2.1; have:=h2.2; have:=h3.1; have:=h3.2
 refine fun b w1 n1 b1 w2 n2=>?_
 have s1:=n1.at_; have s2:=n2.at_; have z1:=n1.size; have z2:=n2.size
 obtain ⟨w3,hr,x3,hz3,fz,hb3⟩:=conv22 (n:=4) (c:=4) (show w2.heap[b1]? = some (.cells [Value.int .u8 67, .int .u8 72, .int .u8 84, .int .u8 49].toArray 5 (0,0)) from n2.get)
 have y3:Ext No w w3:=(n1.ext.no n2.ext).out x3 (by omega)
 have hb:w3.heap[b]? = some (.cells [Value.int .u32 l.t, .int .u8 l.kd, .int .u8 l.lv, .int .u32 l.pg, .int .u64 l.cm, .int .u16 l.gn].toArray 88 (0,0)):=by
  have e1:w2.heap[b]? = _:=(n2.ext.blk b (by omega) fun h=>h).trans n1.get
  exact (x3.blk b (by omega) (by omega)).trans e1
 have rm:RdB w3.heap ⟨some ⟨b1,0,none⟩,4,4⟩ magic:=by
  refine ⟨rfl,Nat.le_refl _,fun _=>⟨b1,0,rfl,fun i hi=>?_⟩,fun v hv=>oneC_ints v hv⟩
  have hi':i < 4:=hi
  unfold hcell
  rw [hb3]
  have:i=0∨i=1∨i=2∨i=3:=by omega
  rcases this with rfl | rfl | rfl | rfl <;> rfl
 refine ⟨⟨some ⟨b1,0,none⟩,4,4⟩,w3,hr,l.kd,Cell.lst hb rfl,Ar.u64 (by omega) ⟨l.lv,Cell.lst hb rfl,Ar.u64 (by omega) ⟨l.gn,Cell.lst hb rfl,Ar.u64 (by omega) ⟨l.cm,Cell.lst hb rfl,fun b2 w4 n4=>?_⟩⟩⟩⟩
 refine numbers_spec (vs:=[⟨l.kd,1⟩,⟨l.lv,1⟩,⟨l.gn,2⟩,⟨l.cm,8⟩]) n4.get rfl (by simp) ?_ fun s w5 o5 x5=>?_
 .intro p hp
  simp only [List.mem_cons,List.not_mem_nil,or_false] at hp
  rcases hp with rfl | rfl | rfl | rfl
  .exact ⟨h2.1,by show l.kd < (256:Int) ^ 1; omega,by simp,by simp⟩
  .exact ⟨h3.1,by show l.lv < (256:Int) ^ 1; omega,by simp,by simp⟩
  .exact ⟨h6.1,by show l.gn < (256:Int) ^ 2; omega,by simp,by simp⟩
  .exact ⟨h5.1,u64B h5,by simp,by simp⟩
 .have hs:s.len=12:=by rw [OwnB.len o5]; rfl
  have l3:=y3.size; have l4:=n4.ext.size; have l5:=x5.size
  refine app8_new ((rm.no n4.ext).no x5) (by rw [hs]; show 4 < 4+12; omega) o5.rd (by rw [hs]; show 4+12<=1000000; omega) fun s6 w6 o6 x6=>k s6 _ w6 (o6.mono (by omega)) rfl ?_ (((y3.no n4.ext).no x5).no x6)
  exact (be_b8 _ _).append ((be_b8 _ _).append ((be_b8 _ _).append ((be_b8 _ _).append B8.nil)))
theorem may_spec{key:Sl}{kind:Int}{K:Bool->Wd->Prop}(hlen:key.len=16∨key.len=32)(hk:1<=kind/\kind<=4)(k:K true w):C_seal_may key kind w K:=by
 apply S_seal_may
 have e:decide (kind<=4)=true:=decide_eq_true hk.2
 exact If.beq (fun _=>If.dec (fun _=>by rw [e]; exact k) fun h=>absurd hk.1 h) fun h=>If.beq (fun _=>If.dec (fun _=>by rw [e]; exact k) fun h=>absurd hk.1 h) fun h2=>by omega
theorem seal_spec{key payload:Sl}{l:Lab}{kl pl:List Int}{K:Sl->Int->Wd->Prop}(ok:l.OK)(hkd:1<=l.kd/\l.kd<=4)(hk:RdB w.heap key kl)(hkB:B8 kl)(hlen:key.len=16∨key.len=32)(hp:RdB w.heap payload pl)(hpl:payload.len=224)
  (k:∀ s r w',OwnB w'.heap w.heap.size s (magic++r)->r.length=252->B8 r->Ext No w w'->K s 0 w'):C_seal_Seal key l.t l.kd l.lv l.pg l.cm l.gn payload w K:=by
 apply S_seal_Seal
 refine fun b w1 n1=>?_
 have x1:=n1.ext; have l1:=x1.size
 have hb:w1.heap[b]? = some (.cells [Value.int .u32 l.t, .int .u8 l.kd, .int .u8 l.lv, .int .u32 l.pg, .int .u64 l.cm, .int .u16 l.gn].toArray 88 (0,0)):=n1.get
 refine ⟨fun u=>u=w1,⟨l.kd,Cell.lst hb rfl,may_spec hlen hkd (If.not (If.yes (If.bne (fun h=>by omega) fun _=>rfl)))⟩,?_⟩
 rintro _ w3 rfl
 have hld:∀{o:Nat}{v:Value},[Value.int .u32 l.t, .int .u8 l.kd, .int .u8 l.lv, .int .u32 l.pg, .int .u64 l.cm, .int .u16 l.gn][o]? = some v->Held (Ext No w3) ⟨b,o,none⟩ v:=fun h=>Held.cell (Cell.lst hb h)
 refine ⟨Ext No w3,(Ext.refl _ _).drew,l.t,hld (o:=0) rfl,l.kd,hld (o:=1) rfl,l.lv,hld (o:=2) rfl,l.pg,hld (o:=3) rfl,l.cm,hld (o:=4) rfl,l.gn,hld (o:=5) rfl,l.t,hld (o:=0) rfl,l.kd,hld (o:=1) rfl,l.lv,hld (o:=2) rfl,l.pg,hld (o:=3) rfl,l.cm,hld (o:=4) rfl,l.gn,hld (o:=5) rfl,?_⟩
 refine nonceOf_spec ok fun s4 r4 w4 o4 hl4 hB4 x4=>⟨x4.drew_left,aadOf_spec ok fun s5 r5 w5 o5 hl5 hB5 x5=>⟨x4.drew_left.no x5,?_⟩⟩
 have x35:Ext No w3 w5:=x4.drew_left.no x5
 have h4l:s4.len=12:=by rw [OwnB.len o4]; exact hl4
 have h5l:s5.len=8:=by rw [OwnB.len o5]; exact hl5
 have x05:=x1.no x35
 refine gcmSeal_spec (hk.no x05) hkB hlen (o4.rd.no x5) hB4 h4l o5.rd hB5 (by omega) (hp.no x05) (by omega) (by omega) fun s6 r6 w6 o6 hl6 hB6 x6=>⟨x35.no x6,If.bne (fun h=>absurd rfl h) fun _=>?_⟩
 have x36:=x35.no x6
 have hb6:w6.heap[b]? = _:=(x36.blk b (Array.getElem?_eq_some_iff.1 hb).1 fun h=>h).trans hb
 refine ⟨l.t,Cell.lst hb6 rfl,l.kd,Cell.lst hb6 rfl,l.lv,Cell.lst hb6 rfl,l.pg,Cell.lst hb6 rfl,l.cm,Cell.lst hb6 rfl,l.gn,Cell.lst hb6 rfl,headOf_spec ok fun s7 r7 w7 o7 hl7 hB7 x7=>?_⟩
 have l5:=x05.size; have l6:=x6.size; have l7:=x7.size
 have h7l:s7.len=16:=by rw [OwnB.len o7]; simp [hl7]
 have h6l:s6.len=240:=by rw [OwnB.len o6]; omega
 refine app_uint8 (o7.mono (base':=w.heap.size) (by omega)) (by omega) (o6.rd.no x7).src (by omega) fun s8 w8 o8 _ x8 _=>?_
 rw [<- List.map_append,List.append_assoc] at o8
 refine k s8 (r7++r6) w8 o8 (by simp; omega) (hB7.append hB6) (((x05.no x6).no x7).trans x8 fun i hi e=>by have:=(o7.lt e).1; omega)
end
section
variable {w w':Wd}
theorem wrap_spec{root key:Sl}{rl kl:List Int}{tenant gen commit:Int}{K:Int->Int->Sl->Int->Wd->Prop}(hr:RdB w.heap root rl)(hrB:B8 rl)(hrl:root.len=32)(ht:0<=tenant/\tenant<=4294967295)(hg:0<=gen/\gen<=65535)(hc:U64 commit)(hk:RdB w.heap key kl)(hkl:key.len=16)
  (k:∀ s l w',OwnB w'.heap w.heap.size s l->l.length=32->B8 l->Ext No w w'->K gen commit s 0 w'):C_hier_Wrap root tenant gen commit key w K:=by
 apply S_hier_Wrap
 refine fun b w1 n1=>wrapper_spec (hr.no n1.ext) hrB hrl fun s2 l2 w2 o2 hl2 hB2 x2=>⟨fun u=>u=w2,If.bne (fun h=>absurd rfl h) fun _=>If.bne (fun h=>by omega) fun _=>rfl,?_⟩
 rintro _ w5 rfl
 have s1:=n1.at_; have z1:=n1.size; have l2s:=x2.size
 have x02:Ext No w w5:=n1.ext.no x2
 have h2l:s2.len=32:=by rw [OwnB.len o2]; exact hl2
 refine around_spec ht hg hc fun sn sa ln la w6 on oa hBn hBa hln hla x6=>?_
 have hnl:sn.len=12:=by rw [OwnB.len on]; exact hln
 have hal:sa.len=6:=by rw [OwnB.len oa]; exact hla
 have x06:=x02.no x6
 refine gcmSeal_spec (o2.rd.no x6) hB2 (.inr h2l) on.rd hBn hnl oa.rd hBa (by omega) (hk.no x06) (by omega) (by omega) fun s7 l7 w7 o7 hl7 hB7 x7=>If.bne (fun h=>absurd rfl h) fun _=>⟨rfl,?_⟩
 have hb1:w1.heap[b]? = some (.cells [Value.int .u16 0, .int .u64 0, .slice none 0 0].toArray 172 (0,0)):=n1.get
 have x17:Ext No w1 w7:=(x2.no x6).no x7
 have hb7:w7.heap[b]? = _:=(x17.blk b (Array.getElem?_eq_some_iff.1 hb1).1 fun h=>h).trans hb1
 have l6:=x6.size; have l7s:=x7.size
 refine ⟨_,_,_,hb7,rfl,by show 0+3<=3; omega, .inr (.inr (Nat.le_refl _)),fun v hv=>?_,fun w9 hw9=>?_⟩
 .simp only [List.mem_cons,List.not_mem_nil,or_false] at hv
  rcases hv with rfl | rfl | rfl <;> rfl
 .have g9:w9.heap[b]? = some (.cells [Value.int .u16 gen, .int .u64 commit, .slice s7.a s7.len s7.cap].toArray 172 (0,0)):=hw9.get hb7
  have x9:Ext (fun i=>i=b) w7 w9:=hw9.ext
  refine ⟨gen,Cell.lst g9 rfl,commit,Cell.lst g9 rfl,s7,Cell.lst g9 rfl,k s7 l7 w9 ?_ (by omega) hB7 ((x06.no x7).out x9 (by omega))⟩
  exact (o7.ext x9 fun i hi e=>by have:=(o7.lt hi).1; omega).mono (by omega)
end
end Go.Proofs.YtmbckodpbdlblaaGreat
namespace Go.V
section
variable {α:Type} [DecidableEq α] {P:Program} {kt mt et:TypeId} {enc:α->Value} {w:Wd} {r:Nat} {m:List (α×Value)} {a:α}
theorem run_lookup2(K:KeyOK P kt enc)(ht:P.underlying mt=some (.map kt et)){z:Value}(hz:(zeroValue et).run P w = .ok z w)(h:MapR w.heap enc r m):(Instr.lookup mt (.map (some r)) (enc a) true).run P w = .ok (.tuple #[(getA a m).getD z, .bool (getA a m).isSome]) w:=by
 obtain ⟨es,clock,hb,he,hB⟩:=h
 have hf:=K.fk a es.toList m w he
 have hg:=findA_get a m 0
 simp only [Instr.lookup,Sem.run_bind,run_und ht,Result.andThen_ok,run_getMap hb,K.ck,hf,Sem.run_pure]
 cases hfa:findA a m 0 with
 | none=>rw [hfa] at hg; simp only [Option.map_none] at hg; rw [<- hg]; simp [hz]
 | some p=>rw [hfa] at hg; simp only [Option.map_some] at hg; rw [<- hg]; simp
end
end Go.V
namespace Go.Proofs.YtmbckodpbdlblaaGreat
open Go.V
structure Wh where
 t:Int
 g:Int
deriving DecidableEq
abbrev encW(q:Wh):Value := .agg (#[.int .u32 q.t, .int .u16 q.g])
theorem eq181(a x:Wh)(w:Wd):(Op.equal 181 (encW a) (encW x)).run pz w = .ok (decide (a=x)) w:=by
 have h:eqS pz 181 [.int .u32 a.t, .int .u16 a.g] [.int .u32 x.t, .int .u16 x.g]=some ((a.t == x.t) && ((a.g == x.g) && true)):=by kernel_rfl
 have:=(eqS_sound (cs:=#[.int .u32 a.t, .int .u16 a.g]) (ds:=#[.int .u32 x.t, .int .u16 x.g]) h).2 w
 have e:((a.t == x.t) && ((a.g == x.g) && true))=decide (a=x):=by
  rw [Bool.eq_iff_iff]
  simp only [Bool.and_eq_true,beq_iff_eq,decide_eq_true_eq]
  constructor
  .rintro ⟨h1,h2,_⟩
   cases a; cases x; simp_all
  .rintro rfl; simp
 rw [e] at this
 exact this
theorem ck181(b:Bool)(a:Wh)(w:Wd):(Instr.checkKey b 10000 181 (encW a)).run pz w = .ok () w:=by kernel_rfl
theorem und181:∃ fs,Tryz.prog.underlying 181=some (.struct fs):=by
 have h:(match Tryz.prog.underlying 181 with | some (.struct _)=>true | _=>false)=true:=by kernel_rfl
 split at h
 .exact ⟨_,by assumption⟩
 .cases h
theorem who181:KeyOK pz 181 encW:=by
 refine ⟨ck181,fun a es m w he=>?_,fun a=>by simp [Instr.sameBits]⟩
 obtain ⟨fs,hu⟩:=und181
 have ask:∀(es:List MapEntry)(m:List (Wh×Value))(i:Nat),es.map (fun e=>(e.key,e.val))=m.map (fun p=>(encW p.1,p.2))->(Instr.findAsking 181 (encW a) es i).run pz w = .ok (findA a m i) w:=by
  intro es
  induction es with
  | nil=>intro m i h; cases m with | nil=>rfl | cons=>cases h
  | cons e es ih =>
   intro m i h
   cases m with
   | nil=>cases h
   | cons p m =>
    simp only [List.map_cons,List.cons.injEq,Prod.mk.injEq] at h
    unfold Instr.findAsking findA
    rw [h.1.1]
    simp only [Sem.run_bind,eq181,Result.andThen_ok]
    by_cases hap:a=p.1
    .simp [hap,h.1.2]
    .simp only [hap,decide_false,Bool.false_eq_true,if_false]
     exact ih m (i+1) h.2
 simp only [Instr.findKey,Sem.run_bind,run_und hu,Result.andThen_ok]
 cases es with
 | nil=>cases m with
  | nil=>rfl
  | cons=>cases he
 | cons e es =>
  have:Instr.findNow (.struct fs) (encW a) (e::es) 0=none:=by unfold Instr.findNow; simp [Instr.sameNow]
  rw [this]
  exact ask _ _ 0 he
theorem map177:Tryz.prog.underlying 177=some (.map 181 22):=by kernel_rfl
structure RK where
 q:Wh
 s:Sl
 l:List Int
abbrev RK.e(k:RK):Wh×Value:=(k.q,k.s.v)
structure RingR(u:Wd)(rb mb:Nat)(ks:List RK):Prop where
 blk:u.heap[rb]? = some (.cells [Value.map (some mb)].toArray 179 (0,0))
 map:MapR u.heap encW mb (ks.map RK.e)
 key:∀ k∈ks,RdB u.heap k.s k.l/\B8 k.l/\(k.s.len=16∨k.s.len=32)
 ne:rb≠mb
 nk:∀ k∈ks,k.s.blk≠some mb
abbrev ringF(ks:List RK)(q:Wh):Option RK:=ks.find? fun k=>decide (q=k.q)
theorem ring_get(ks:List RK)(q:Wh):getA q (ks.map RK.e)=(ringF ks q).map fun k=>k.s.v:=by
 induction ks with
 | nil=>rfl
 | cons k ks ih =>
  simp only [List.map_cons,getA,ringF,List.find?_cons]
  by_cases h:q=k.q
  .simp [h]
  .simp only [h,if_false,decide_false]; exact ih
section
variable {w w':Wd} {rb mb:Nat} {ks:List RK}
theorem RingR.ext{S:Nat->Prop}(R:RingR w rb mb ks)(x:Ext S w w')(h1:¬ S rb)(h2:¬ S mb)(h3:∀ k∈ks,∀ i,k.s.blk=some i->¬ S i):RingR w' rb mb ks :=
 ⟨(x.blk rb (Array.getElem?_eq_some_iff.1 R.blk).1 h1).trans R.blk,R.map.ext x h2,fun k hk=>⟨(R.key k hk).1.ext x fun a b ha hb hS=>h3 k hk b (by simp [Sl.blk,ha,hb]) hS,(R.key k hk).2⟩,R.ne,R.nk⟩
theorem RingR.no(R:RingR w rb mb ks)(x:Ext No w w'):RingR w' rb mb ks:=R.ext x (fun h=>h) (fun h=>h) fun _ _ _ _ h=>h
theorem newRing_spec{K:Option Addr->Wd->Prop}(k:∀ rb mb w',RingR w' rb mb []->w.heap.size<=rb->w.heap.size<=mb->Ext No w w'->K (some ⟨rb,0,none⟩) w'):C_seal_NewRing w K:=by
 apply S_seal_NewRing
 refine fun b w1 n1 b1 w2 n2=>k b1 b w2 ⟨n2.get,?_,(fun _ h=>nomatch h),?_,(fun _ h=>nomatch h)⟩ ?_ ?_ (n1.ext.no n2.ext)
 .exact ⟨#[],0,(n2.ext.blk b (Array.getElem?_eq_some_iff.1 n1.get).1 fun h=>h).trans n1.get,rfl,BornOK.nil⟩
 all_goals (have s1:=n1.at_; have s2:=n2.at_; have z1:=n1.size; omega)
theorem copyNew{s:Sl}{l:List Int}{K:Sl->Wd->Prop}(r:RdB w.heap s l)(h1:1<=s.len)(h2:s.len<=100000)(k:∀ s' w',OwnB w'.heap w.heap.size s' l->Ext No w w'->K s' w') :
  NewW w (.cells ([]:List Value).toArray 5) fun b w2=>AppW pz 22 22 ⟨some (Addr.mk b 0 none),0,0⟩ (.slice s.a s.len s.cap) K w2:=by
 refine fun b w2 n2=>app8_new (l:=[]) ⟨rfl,Nat.le_refl _,fun h=>absurd rfl h,fun _ h=>nomatch h⟩ (by show 0 < 0+s.len; omega) (r.no n2.ext) (by show 0+s.len<=_; omega) fun s' w3 o x=>?_
 have:=n2.ext.size
 exact k s' w3 (by rw [List.nil_append] at o; exact o.mono (by omega)) (n2.ext.no x)
theorem lookZ(w:Wd):(zeroValue 22).run pz w = .ok (.slice none 0 0) w:=by kernel_rfl
theorem ringKey_spec{t g:Int}{q:RK}{K:Sl->Int->Wd->Prop}(R:RingR w rb mb ks)(hf:ringF ks ⟨t,g⟩=some q)(k:∀ s w',OwnB w'.heap w.heap.size s q.l->Ext No w w'->K s 0 w'):C_seal_Ring_Key (some ⟨rb,0,none⟩) t g w K:=by
 apply S_seal_Ring_Key
 have hm:q∈ks:=List.mem_of_find?_eq_some hf
 obtain ⟨r1,_,r3⟩:=R.key q hm
 have hl:=run_lookup2 (a:=(⟨t,g⟩ : Wh)) who181 map177 (lookZ w) R.map
 rw [ring_get,hf] at hl
 refine If.no (Nn.mk ⟨some mb,Cell.lst R.blk rfl,q.s,true,w,hl,If.no ?_⟩)
 exact copyNew r1 (by omega) (by omega) k
theorem ringAdd_spec{t g:Int}{key:Sl}{kl:List Int}{K:Int->Wd->Prop}(R:RingR w rb mb ks)(hf:ringF ks ⟨t,g⟩=none)(hk:RdB w.heap key kl)(hB:B8 kl)(hlen:key.len=16∨key.len=32)
  (k:∀ s w',RingR w' rb mb (ks++[⟨⟨t,g⟩,s,kl⟩])->(∀ i,s.blk=some i->w.heap.size<=i)->Ext (·=mb) w w'->K 0 w'):C_seal_Ring_Add (some ⟨rb,0,none⟩) t g key w K:=by
 apply S_seal_Ring_Add
 have hl:=run_lookup2 (a:=(⟨t,g⟩ : Wh)) who181 map177 (lookZ w) R.map
 rw [ring_get,hf] at hl
 refine If.no (may_spec hlen ⟨by decide,by decide⟩ (If.not (If.yes (Nn.mk ⟨some mb,Cell.lst R.blk rfl,⟨none,0,0⟩,false,w,hl,If.no ?_⟩))))
 refine ⟨Ext (·=mb) w,(Ext.refl _ _).drew,Nn.mk ⟨some mb,Held.but (Cell.lst R.blk rfl) R.ne,fun b w3 n3=>⟨(n3.ext.drew_left).of_no,?_⟩⟩⟩
 have x3:Ext No w w3:=n3.ext.drew_left
 refine app8_new (l:=[]) ⟨rfl,Nat.le_refl _,fun h=>absurd rfl h,fun _ h=>nomatch h⟩ (by show 0 < 0+key.len; omega) (hk.no x3) (by show 0+key.len<=_; omega) fun s w4 o4 x4=>⟨(x3.no x4).of_no,?_⟩
 rw [List.nil_append] at o4
 have R4:=R.no (x3.no x4)
 obtain ⟨w5,h5,m5,x5,z5⟩:=run_mapUpdate (a:=(⟨t,g⟩ : Wh)) (v:=s.v) who181 map177 R4.map
 have x05:Ext (·=mb) w w5:=((x3.no x4).of_no (S:=(·=mb))).trans x5 fun i _ e=>e
 have l3:=x3.size; have l4:=x4.size
 have hs:s.len=key.len:=by rw [OwnB.len o4,<- RdB.len hk]
 have hmb:mb < w.heap.size:=by obtain ⟨es,clock,hb,_⟩:=R.map; exact (Array.getElem?_eq_some_iff.1 hb).1
 refine ⟨w5,h5,x05,k s w5 ⟨(x5.blk rb (Array.getElem?_eq_some_iff.1 R4.blk).1 R.ne).trans R4.blk,?_,fun q hq=>?_,R.ne,fun q hq=>?_⟩ (fun i hi=>by have:=(o4.lt hi).1; omega) x05⟩
 .rw [List.map_append]
  have e:putA (⟨t,g⟩ : Wh) s.v (ks.map RK.e)=ks.map RK.e++[(⟨t,g⟩,s.v)]:=by
   have hg:getA (⟨t,g⟩ : Wh) (ks.map RK.e)=none:=by rw [ring_get,hf]; rfl
   have hfa:findA (⟨t,g⟩ : Wh) (ks.map RK.e) 0=none:=by have:=findA_get (⟨t,g⟩ : Wh) (ks.map RK.e) 0; rw [hg] at this; simpa using this
   exact (findA_none (v:=s.v) hfa).1
  rw [e] at m5; exact m5
 .rcases List.mem_append.1 hq with h | h
  .refine ⟨(R4.key q h).1.ext x5 fun a b ha hb hS=>?_,(R4.key q h).2⟩
   exact R.nk q h (by simp only [Sl.blk,ha,Option.map_some]; rw [hb]; exact congrArg some hS)
  .simp only [List.mem_singleton] at h; subst h
   exact ⟨(o4.ext x5 fun i hi e=>by have:=(o4.lt hi).1; omega).rd,hB,by simp only [hs]; exact hlen⟩
 .rcases List.mem_append.1 hq with h | h
  .exact R.nk q h
  .simp only [List.mem_singleton] at h; subst h
   exact fun e=>by have:=(o4.lt e).1; omega
end
section
variable {w w':Wd}
theorem must_ok{K:Wd->Prop}(k:K w):C_vault_must 0 w K:=by
 apply S_vault_must
 exact If.beq (fun _=>k) fun h=>absurd rfl h
theorem have_byte{x:Sl}{K:Sl->Wd->Prop}(k:K x w):C_vault_have_byte x 0 w K:=by
 apply S_vault_have_byte; exact must_ok k
theorem have_label{x:Sl}{K:Sl->Wd->Prop}(k:K x w):C_vault_have_api_Label x 0 w K:=by
 apply S_vault_have_api_Label; exact must_ok k
theorem have_seat{x:Sl}{K:Sl->Wd->Prop}(k:K x w):C_vault_have_api_Seat x 0 w K:=by
 apply S_vault_have_api_Seat; exact must_ok k
theorem have_pager{x:Option Addr}{K:Option Addr->Wd->Prop}(k:K x w):C_vault_have_pager_Pager x 0 w K:=by
 apply S_vault_have_pager_Pager; exact must_ok k
theorem have_u64{x:Int}{K:Int->Wd->Prop}(k:K x w):C_vault_have_uint64 x 0 w K:=by
 apply S_vault_have_uint64; exact must_ok k
theorem none_spec{b:Nat}{cs:List Value}{T:TypeId}{d:Addr}{K:Bool->Wd->Prop}(h:w.heap[b]? = some (.cells cs.toArray T (0,0)))(hd:cs[4]? = some (.pointer (some d)))(k:K false w):C_vault_Vault_none (some ⟨b,0,none⟩) w K:=by
 apply S_vault_Vault_none
 exact If.no (Nn.mk ⟨some d,Cell.lst h hd,k⟩)
theorem none_nil{K:Bool->Wd->Prop}(k:K true w):C_vault_Vault_none none w K:=by
 apply S_vault_Vault_none
 exact If.yes k
theorem capsNew_spec{K:Option Addr->Wd->Prop}(k:∀ b w',w'.heap[b]? = some (.cells [Value.map none, .int .u64 0].toArray 227 (0,0))->b=w.heap.size->Ext No w w'->K (some ⟨b,0,none⟩) w'):C_caps_New w K:=by
 apply S_caps_New
 exact fun b w1 n1=>k b w1 n1.get n1.at_ n1.ext
theorem newLog_spec{K:Option Addr->Wd->Prop}(k:∀ b w',w'.heap[b]? = some (.cells [Value.slice none 0 0].toArray 132 (0,0))->b=w.heap.size->Ext No w w'->K (some ⟨b,0,none⟩) w'):C_seal_NewLog w K:=by
 apply S_seal_NewLog
 exact fun b w1 n1=>k b w1 n1.get n1.at_ n1.ext
theorem quotaD_spec{n:Int}{K:Int->Int->Wd->Prop}(h:0<=n/\n<=64)(k:K (8 * n+4) 0 w):C_quota_D n w K:=by
 apply S_quota_D
 exact If.dec (fun h=>by omega) fun _=>If.dec (fun h=>by omega) fun _=>Ar.i64 (by omega) (Ar.i64 (by omega) k)
theorem quotaR_spec{q:Int}{K:Int->Int->Wd->Prop}(h:1<=q/\q<=1000)(k:K (4 * q+2) 0 w):C_quota_R q w K:=by
 apply S_quota_R
 exact If.dec (fun h=>by omega) fun _=>If.dec (fun h=>by omega) fun _=>Ar.i64 (by omega) (Ar.i64 (by omega) k)
theorem fits_spec{s:Sl}{q blocks:Int}{K:Bool->Int->Wd->Prop}(hs:Rd w.heap s 1 ([q].map (Value.int .i64)))(hq:1<=q/\q<=1000)(k:K (decide (12+(4 * q+2)<=blocks)) 0 w):C_quota_Fits blocks s w K:=by
 apply S_quota_Fits
 have hl:s.len=1:=by have:=hs.len; simpa using this.symm
 have e:((s.len:Nat):Int)=1:=by omega
 show C_quota_D ((s.len:Nat):Int) w _
 rw [e]
 refine quotaD_spec (by omega) (If.bne (fun h=>absurd rfl h) fun _=>?_)
 apply S_quota_sum_int
 refine ⟨fun m all t u=>u=w/\((m=1/\all=0/\t=0)∨(m=0/\all=4 * q+2/\t=1)),⟨1,rfl, .inl ⟨rfl,rfl,rfl⟩⟩,?_⟩
 rintro _ m all t w1 ⟨rfl,h⟩
 refine If.dec (fun ht=>?_) fun ht=>?_
 .have h1:m=1/\all=0/\t=0:=by rcases h with h | h; exact h; omega
  obtain ⟨rfl,rfl,rfl⟩:=h1
  refine Ix.int hs (by omega) (by omega) fun b o _ hc=>⟨q,hc,V_quota_R (quotaR_spec hq (If.bne (fun h=>absurd rfl h) fun _=>Ar.i64 (by omega) (Ar.i64 (by omega) ⟨0,by omega,rfl, .inr ⟨rfl,by omega,rfl⟩⟩)))⟩
 .have h1:all=4 * q+2:=by rcases h with h | h; omega; exact h.2.1
  subst h1
  refine If.bne (fun h=>absurd rfl h) fun _=>Ar.i64 (by omega) ?_
  exact k
theorem toldZ_spec{s:Sl}{K:Int->Int->Int->Int->Int->Wd->Prop}(h:RdB w.heap s (List.replicate 256 0))(k:K 0 0 0 0 100 w):C_seal_Told s w K:=by
 apply S_seal_Told
 have hl:s.len=256:=by rw [RdB.len h]; simp
 refine If.bne (fun h=>absurd (by rw [hl]; rfl) h) fun _=>⟨fun _=>False,?_,fun _ _ h=>h.elim⟩
 refine h.cutN (by decide) (by decide) (by omega) fun s' hs' hsl=>StrC.mk hs' (fun b o v hv=>Cell.mk hv) ?_
 have hc:(ByteArray.toList ⟨(toB ((List.replicate 256 (0:Int)).drop ((0:Int).toNat * 1) |>.take (((4:Int) - 0).toNat * 1))).toArray⟩ == ByteArray.toList ⟨#[67,72,84,49]⟩)=false:=by
  rw [toList_mk,show (⟨#[67,72,84,49]⟩ : ByteArray)=⟨([67,72,84,49]:List UInt8).toArray⟩ from rfl,toList_mk]
  decide
 rw [hc]
 exact If.yes k
end
end Go.Proofs.YtmbckodpbdlblaaGreat
namespace Go.V
section
variable {α:Type} {P:Program} {w w':Wd} {mt kt et:TypeId} {enc:α->Value} {r it:Nat} {m sm:List (α×Value)}
abbrev encM(enc:α->Value)(l:List (α×Value)):List (Value×Value):=l.map fun p=>(enc p.1,p.2)
def ItR(enc:α->Value)(w:Wd)(it r:Nat)(m sm:List (α×Value)):Prop:=∃ (es:Array MapEntry) (clock:Nat) (seen:List MapEntry),w.heap[it]? = some (.mapIter (some r) clock (seen.map (·.born)).toArray clock)/\w.heap[r]? = some (.map es clock)/\BornOK es.toList clock/\es.toList.map (fun e=>(e.key,e.val))=encM enc m/\seen.map (fun e=>(e.key,e.val))=encM enc sm/\(seen.map (·.born)).Nodup/\∀ e∈seen,e∈es.toList
theorem nodup_of_map{α β:Type}(f:α->β){l:List α}(h:(l.map f).Nodup):l.Nodup:=List.Pairwise.of_map f (fun a b h e=>h (by rw [e])) h
theorem born_inj{l:List MapEntry}(hn:(l.map (·.born)).Nodup){e e':MapEntry}(h:e∈l)(h':e'∈l)(hb:e.born=e'.born):e=e':=by
 induction l with
 | nil=>cases h
 | cons x l ih =>
  simp only [List.map_cons,List.nodup_cons] at hn
  rcases List.mem_cons.1 h with h1 | h1 <;> rcases List.mem_cons.1 h' with h2 | h2
  .rw [h1,h2]
  .exact absurd (List.mem_map.2 ⟨e',h2,by rw [<- hb,h1]⟩) hn.1
  .exact absurd (List.mem_map.2 ⟨e,h1,by rw [hb,h2]⟩) hn.1
  .exact ih hn.2 h1 h2
theorem ItR.ext{S:Nat->Prop}(h:ItR enc w it r m sm)(x:Ext S w w')(h1:¬ S it)(h2:¬ S r):ItR enc w' it r m sm:=by
 obtain ⟨es,clock,seen,a,b,c⟩:=h
 exact ⟨es,clock,seen,(x.blk it (Array.getElem?_eq_some_iff.1 a).1 h1).trans a,(x.blk r (Array.getElem?_eq_some_iff.1 b).1 h2).trans b,c⟩
theorem ItR.no(h:ItR enc w it r m sm)(x:Ext No w w'):ItR enc w' it r m sm:=h.ext x (fun h=>h) fun h=>h
theorem ItR.lt(h:ItR enc w it r m sm):it < w.heap.size:=by
 obtain ⟨es,clock,seen,a,b,c⟩:=h
 exact (Array.getElem?_eq_some_iff.1 a).1
theorem ItR.start(ht:P.underlying mt=some (.map kt et))(h:MapR w.heap enc r m):∃ w1,(Instr.range mt (.map (some r))).run P w = .ok (.pointer (some ⟨w.heap.size,0,none⟩)) w1/\ItR enc w1 w.heap.size r m []/\Ext No w w1/\w1.heap.size=w.heap.size+1:=by
 obtain ⟨es,clock,b,d,c⟩:=h
 obtain ⟨w1,hrun,hn⟩:=run_range (P:=P) ht b
 exact ⟨w1,hrun,⟨es,clock,[],hn.get,(hn.ext.blk r (Array.getElem?_eq_some_iff.1 b).1 fun h=>h).trans b,c,d,rfl, .nil,fun _ h=>nomatch h⟩,hn.ext,hn.size⟩
theorem perm_rest{es seen:List MapEntry}(hn:(es.map (·.born)).Nodup)(hs:(seen.map (·.born)).Nodup)(hsub:∀ e∈seen,e∈es):∃ rest,(seen++rest).Perm es:=by
 refine ⟨es.filter fun e=>!(seen.map (·.born)).contains e.born,(List.perm_ext_iff_of_nodup ?_ (nodup_of_map _ hn)).2 fun x=>?_⟩
 .refine List.nodup_append.2 ⟨nodup_of_map _ hs,(nodup_of_map _ hn).filter _,fun a ha b hb e=>?_⟩
  subst e
  have:=(List.mem_filter.1 hb).2
  simp only [Bool.not_eq_true',List.contains_eq_mem,decide_eq_false_iff_not] at this
  exact this (List.mem_map.2 ⟨a,ha,rfl⟩)
 .constructor
  .intro h
   rcases List.mem_append.1 h with h | h
   .exact hsub x h
   .exact (List.mem_filter.1 h).1
  .intro h
   by_cases hx:x.born∈seen.map (·.born)
   .obtain ⟨y,hy,e⟩:=List.mem_map.1 hx
    exact List.mem_append.2 (.inl (born_inj hn (hsub y hy) h e ▸ hy))
   .refine List.mem_append.2 (.inr (List.mem_filter.2 ⟨h,?_⟩))
    simpa using hx
theorem ItR.next(h:ItR enc w it r m sm)(hne:it≠r) :
  ((encM enc sm).Perm (encM enc m)/\∃ w',(Instr.next (.pointer (some ⟨it,0,none⟩)) false 0).run P w = .ok (.tuple #[.bool false]) w'/\Ext No w w') ∨
  ∃ p w',(Instr.next (.pointer (some ⟨it,0,none⟩)) false 0).run P w = .ok (.tuple #[.bool true,enc p.1,p.2]) w'/\(Instr.entry (.pointer (some ⟨it,0,none⟩))).run P w' = .ok (.tuple #[enc p.1,p.2]) w'/\ItR enc w' it r m (sm++[p])/\Ext (·=it) w w'/\p∈m/\(∃ rest,(encM enc (sm++[p])++rest).Perm (encM enc m))/\sm.length < m.length:=by
 obtain ⟨es,clock,seen,hi,hb,hB,hm,hs,hnd,hsub⟩:=h
 rcases run_next (P:=P) hi hb hB with ⟨hall,w',hrun,hx⟩ | ⟨e,hem,hes,w',hrun,hi',hx⟩
 .refine .inl ⟨?_,w',hrun,hx⟩
  have hp:seen.Perm es.toList:=(List.perm_ext_iff_of_nodup (nodup_of_map _ hnd) (nodup_of_map _ hB.1)).2 fun x=>⟨hsub x,fun hx'=>by
   have:=hall x hx'
   simp only [List.mem_map] at this
   obtain ⟨y,hy,hb⟩:=this
   exact born_inj hB.1 (hsub y hy) hx' hb ▸ hy⟩
  rw [<- hm,<- hs]; exact hp.map _
 .have:(e.key,e.val)∈encM enc m:=hm ▸ List.mem_map.2 ⟨e,hem,rfl⟩
  obtain ⟨p,hpm,hp⟩:=List.mem_map.1 this
  have hk:e.key=enc p.1:=(congrArg Prod.fst hp).symm
  have hv:e.val=p.2:=(congrArg Prod.snd hp).symm
  have hmr:w'.heap[r]? = some (.map es clock):=(hx.blk r (Array.getElem?_eq_some_iff.1 hb).1 (Ne.symm hne)).trans hb
  have hnd':((seen++[e]).map (·.born)).Nodup:=by
   rw [List.map_append]
   refine List.nodup_append.2 ⟨hnd,by simp,fun a ha b hb=>?_⟩
   simp only [List.map_cons,List.map_nil,List.mem_singleton] at hb
   subst hb
   rintro rfl
   exact hes (by simpa using ha)
  have hsub':∀ x∈seen++[e],x∈es.toList:=fun x hx=>by
   rcases List.mem_append.1 hx with h | h
   .exact hsub x h
   .rw [List.mem_singleton] at h; rw [h]; exact hem
  have hs':(seen++[e]).map (fun e=>(e.key,e.val))=encM enc (sm++[p]):=by rw [List.map_append,hs]; simp [encM,hk,hv]
  have hent:=run_entry (P:=P) hi' hmr hB hem
  rw [hk,hv] at hent hrun
  obtain ⟨rest,hrest⟩:=perm_rest hB.1 hnd' hsub'
  refine .inr ⟨p,w',hrun,hent,⟨es,clock,seen++[e],by simpa using hi',hmr,hB,hm,hs',hnd',hsub'⟩,hx,hpm,⟨rest.map fun e=>(e.key,e.val),?_⟩,?_⟩
  .rw [<- hs',<- hm,<- List.map_append]; exact hrest.map _
  .have h1:=hrest.length_eq
   have h2:es.toList.length=m.length:=by have:=congrArg List.length hm; simpa using this
   have h3:seen.length=sm.length:=by have:=congrArg List.length hs; simpa using this
   simp only [List.length_append,List.length_cons,List.length_nil] at h1; omega
end
end Go.V
namespace Go.Proofs.YtmbckodpbdlblaaGreat
open Go.V
section
variable {w:Wd}
theorem bitsLen1{x:Int}{K:Int->Wd->Prop}(h0:0<=x)(h1:x<=1)(k:∀ r,K r w):C_math_bits_Len x w K:=by
 apply S_math_bits_Len
 apply S_math_bits_Len64
 refine ⟨fun a b u=>x=a/\0=b/\w=u,If.dec (fun h=>by omega) fun _=>⟨rfl,rfl,rfl⟩,?_⟩
 rintro _ _ _ _ ⟨rfl,rfl,rfl⟩
 refine ⟨fun a b u=>x=a/\0=b/\w=u,If.dec (fun h=>by omega) fun _=>⟨rfl,rfl,rfl⟩,?_⟩
 rintro _ _ _ _ ⟨rfl,rfl,rfl⟩
 refine ⟨fun a b u=>x=a/\0=b/\w=u,If.dec (fun h=>by omega) fun _=>⟨rfl,rfl,rfl⟩,?_⟩
 rintro _ _ _ _ ⟨rfl,rfl,rfl⟩
 have hx:x=0∨x=1:=by omega
 refine Ar.u8 (by omega) ?_
 rcases hx with rfl | rfl
 .exact ⟨0,by omega,rfl,Ar.i64 (by decide) (Ar.i64 (by decide) (k _))⟩
 .exact ⟨1,by omega,rfl,Ar.i64 (by decide) (Ar.i64 (by decide) (k _))⟩
theorem sort1_uint16{x:Sl}{K:Wd->Prop}(h:x.len<=1)(k:K w):C_slices_Sort_uint16_uint16 x w K:=by
 apply S_slices_Sort_uint16_uint16
 refine Ar.u64 (by omega) (bitsLen1 (by omega) (by omega) fun r=>?_)
 apply S_slices_pdqsortOrdered_uint16
 refine ⟨fun _ a b _ _ _ u=>0=a/\(x.len:Int)=b/\w=u,⟨0,rfl,rfl,rfl⟩,?_⟩
 rintro _ _ _ _ l b1 b2 _ ⟨rfl,rfl,rfl⟩
 refine Ar.i64 (by omega) (If.dec (fun _=>?_) fun h=>by omega)
 apply S_slices_insertionSortOrdered_uint16
 refine Ar.i64 (by omega) ⟨fun _ i u=>1=i/\w=u,⟨0,rfl,rfl⟩,?_⟩
 rintro _ _ _ _ ⟨rfl,rfl⟩
 exact If.dec (fun h=>by omega) fun _=>k
theorem sort1_uint32{x:Sl}{K:Wd->Prop}(h:x.len<=1)(k:K w):C_slices_Sort_uint32_uint32 x w K:=by
 apply S_slices_Sort_uint32_uint32
 refine Ar.u64 (by omega) (bitsLen1 (by omega) (by omega) fun r=>?_)
 apply S_slices_pdqsortOrdered_uint32
 refine ⟨fun _ a b _ _ _ u=>0=a/\(x.len:Int)=b/\w=u,⟨0,rfl,rfl,rfl⟩,?_⟩
 rintro _ _ _ _ l b1 b2 _ ⟨rfl,rfl,rfl⟩
 refine Ar.i64 (by omega) (If.dec (fun _=>?_) fun h=>by omega)
 apply S_slices_insertionSortOrdered_uint32
 refine Ar.i64 (by omega) ⟨fun _ i u=>1=i/\w=u,⟨0,rfl,rfl⟩,?_⟩
 rintro _ _ _ _ ⟨rfl,rfl⟩
 exact If.dec (fun h=>by omega) fun _=>k
theorem sort1_uint64{x:Sl}{K:Wd->Prop}(h:x.len<=1)(k:K w):C_slices_Sort_uint64_uint64 x w K:=by
 apply S_slices_Sort_uint64_uint64
 refine Ar.u64 (by omega) (bitsLen1 (by omega) (by omega) fun r=>?_)
 apply S_slices_pdqsortOrdered_uint64
 refine ⟨fun _ a b _ _ _ u=>0=a/\(x.len:Int)=b/\w=u,⟨0,rfl,rfl,rfl⟩,?_⟩
 rintro _ _ _ _ l b1 b2 _ ⟨rfl,rfl,rfl⟩
 refine Ar.i64 (by omega) (If.dec (fun _=>?_) fun h=>by omega)
 apply S_slices_insertionSortOrdered_uint64
 refine Ar.i64 (by omega) ⟨fun _ i u=>1=i/\w=u,⟨0,rfl,rfl⟩,?_⟩
 rintro _ _ _ _ ⟨rfl,rfl⟩
 exact If.dec (fun h=>by omega) fun _=>k
end
section
variable {w w':Wd} {rb mb:Nat} {ks:List RK}
theorem hlt{o:Obj}{b:Nat}(h:w.heap[b]? = some o):b < w.heap.size:=(Array.getElem?_eq_some_iff.1 h).1
theorem StN.mk{b o:Nat}{cs vs:List Value}{T:TypeId}{K:Wd->Prop}(hb:w.heap[b]? = some (.cells cs.toArray T (0,0)))(ho:o+vs.length<=cs.length)(hv:∀ v∈vs,oneC v=true)
  (k:∀ w',Wrt w b (.cells (setL cs o vs).toArray T (0,0)) w'->K w'):StN w ⟨b,o,none⟩ vs K :=
 ⟨cs.toArray,T,(0,0),hb,rfl,by simpa using ho, .inr (.inr (Nat.le_refl _)),hv,fun w' hw=>k w' hw⟩
theorem NewSt{zs vs:List Value}{T:TypeId}{n:Nat}{K:Nat->Wd->Prop}(hz:zs.length=vs.length)(hn:vs.length=n)(hv:∀ v∈vs,oneC v=true)(k:∀ w',w'.heap[w.heap.size]? = some (.cells vs.toArray T (0,0))->w'.heap.size=w.heap.size+1->Ext No w w'->K w.heap.size w') :
  NewW w (.cells zs.toArray T) fun b w1=>List.length (α:=Value) vs=n/\StN w1 (Addr.mk b 0 none) vs (K b):=by
 intro b w1 n1
 have hb:=n1.at_
 refine ⟨hn,StN.mk n1.get (by omega) hv fun w2 h2=>?_⟩
 subst hb
 have g:=h2.get n1.get
 rw [setL_all vs zs hz.symm] at g
 exact k w2 g (by rw [h2.size]; exact n1.size) (n1.ext.out h2.ext (Nat.le_refl _))
theorem one_uint16{base:Nat}{s:Sl}{cs xs:List Value}{K:Sl->Wd->Prop}(own:Own w.heap base 34 1 s cs)(hbase:base<=w.heap.size)(hx:xs.length=1)(hv:∀ v∈xs,oneC v=true)(hb:s.len<=1000000)
  (hk:∀ s' w',Own w'.heap base 34 1 s' (cs++xs)->s'.len=s.len+1->Ext (fun b=>s.blk=some b) w w'->(s'.blk=s.blk∨∃ b,s'.blk=some b/\w.heap.size<=b)->K s' w'):NewW w (.cells xs.toArray 34) fun b w1=>AppW pz 60 60 s (.slice (some (Addr.mk b 0 none)) 1 1) K w1:=by
 intro b w1 n
 have hz:=n.ext.size
 refine app_uint16 (own.no n.ext) (by omega) (Rd.src (Own.new (n:=1) n (by omega) hv).rd) (by show (s.len+1) * _<=_; omega) fun s' w' o l x hs=>hk s' w' o l ?_ ?_
 .exact Ext.trans n.ext.of_no x fun i _ h=>h
 .rcases hs with h | ⟨b,h,hb⟩
  .exact .inl h
  .exact .inr ⟨b,h,by omega⟩
theorem one_uint32{base:Nat}{s:Sl}{cs xs:List Value}{K:Sl->Wd->Prop}(own:Own w.heap base 33 1 s cs)(hbase:base<=w.heap.size)(hx:xs.length=1)(hv:∀ v∈xs,oneC v=true)(hb:s.len<=1000000)
  (hk:∀ s' w',Own w'.heap base 33 1 s' (cs++xs)->s'.len=s.len+1->Ext (fun b=>s.blk=some b) w w'->(s'.blk=s.blk∨∃ b,s'.blk=some b/\w.heap.size<=b)->K s' w'):NewW w (.cells xs.toArray 33) fun b w1=>AppW pz 68 68 s (.slice (some (Addr.mk b 0 none)) 1 1) K w1:=by
 intro b w1 n
 have hz:=n.ext.size
 refine app_uint32 (own.no n.ext) (by omega) (Rd.src (Own.new (n:=1) n (by omega) hv).rd) (by show (s.len+1) * _<=_; omega) fun s' w' o l x hs=>hk s' w' o l ?_ ?_
 .exact Ext.trans n.ext.of_no x fun i _ h=>h
 .rcases hs with h | ⟨b,h,hb⟩
  .exact .inl h
  .exact .inr ⟨b,h,by omega⟩
theorem one_int{base:Nat}{s:Sl}{cs xs:List Value}{K:Sl->Wd->Prop}(own:Own w.heap base 3 1 s cs)(hbase:base<=w.heap.size)(hx:xs.length=1)(hv:∀ v∈xs,oneC v=true)(hb:s.len<=1000000)
  (hk:∀ s' w',Own w'.heap base 3 1 s' (cs++xs)->s'.len=s.len+1->Ext (fun b=>s.blk=some b) w w'->(s'.blk=s.blk∨∃ b,s'.blk=some b/\w.heap.size<=b)->K s' w'):NewW w (.cells xs.toArray 3) fun b w1=>AppW pz 45 45 s (.slice (some (Addr.mk b 0 none)) 1 1) K w1:=by
 intro b w1 n
 have hz:=n.ext.size
 refine app_int (own.no n.ext) (by omega) (Rd.src (Own.new (n:=1) n (by omega) hv).rd) (by show (s.len+1) * _<=_; omega) fun s' w' o l x hs=>hk s' w' o l ?_ ?_
 .exact Ext.trans n.ext.of_no x fun i _ h=>h
 .rcases hs with h | ⟨b,h,hb⟩
  .exact .inl h
  .exact .inr ⟨b,h,by omega⟩
theorem one_api_Label{base:Nat}{s:Sl}{cs xs:List Value}{K:Sl->Wd->Prop}(own:Own w.heap base 88 6 s cs)(hbase:base<=w.heap.size)(hx:xs.length=6)(hv:∀ v∈xs,oneC v=true)(hb:s.len<=1000000)
  (hk:∀ s' w',Own w'.heap base 88 6 s' (cs++xs)->s'.len=s.len+1->Ext (fun b=>s.blk=some b) w w'->(s'.blk=s.blk∨∃ b,s'.blk=some b/\w.heap.size<=b)->K s' w'):NewW w (.cells xs.toArray 88) fun b w1=>AppW pz 44 44 s (.slice (some (Addr.mk b 0 none)) 1 1) K w1:=by
 intro b w1 n
 have hz:=n.ext.size
 refine app_api_Label (own.no n.ext) (by omega) (Rd.src (Own.new (n:=1) n (by omega) hv).rd) (by show (s.len+1) * _<=_; omega) fun s' w' o l x hs=>hk s' w' o l ?_ ?_
 .exact Ext.trans n.ext.of_no x fun i _ h=>h
 .rcases hs with h | ⟨b,h,hb⟩
  .exact .inl h
  .exact .inr ⟨b,h,by omega⟩
theorem one_sl_uint8{base:Nat}{s:Sl}{cs xs:List Value}{K:Sl->Wd->Prop}(own:Own w.heap base 22 1 s cs)(hbase:base<=w.heap.size)(hx:xs.length=1)(hv:∀ v∈xs,oneC v=true)(hb:s.len<=1000000)
  (hk:∀ s' w',Own w'.heap base 22 1 s' (cs++xs)->s'.len=s.len+1->Ext (fun b=>s.blk=some b) w w'->(s'.blk=s.blk∨∃ b,s'.blk=some b/\w.heap.size<=b)->K s' w'):NewW w (.cells xs.toArray 22) fun b w1=>AppW pz 25 25 s (.slice (some (Addr.mk b 0 none)) 1 1) K w1:=by
 intro b w1 n
 have hz:=n.ext.size
 refine app_sl_uint8 (own.no n.ext) (by omega) (Rd.src (Own.new (n:=1) n (by omega) hv).rd) (by show (s.len+1) * _<=_; omega) fun s' w' o l x hs=>hk s' w' o l ?_ ?_
 .exact Ext.trans n.ext.of_no x fun i _ h=>h
 .rcases hs with h | ⟨b,h,hb⟩
  .exact .inl h
  .exact .inr ⟨b,h,by omega⟩
theorem one1{a:Value}(ha:oneC a=true):∀ v∈[a],oneC v=true:=fun v hv=>by simp only [List.mem_singleton] at hv; subst hv; exact ha
theorem one2{a b:Value}(ha:oneC a=true)(hb:oneC b=true):∀ v∈[a,b],oneC v=true:=fun v hv=>by simp only [List.mem_cons,List.mem_nil_iff,or_false] at hv; rcases hv with rfl | rfl <;> assumption
theorem oneL{l:List Value}(h:l.all oneC=true):∀ v∈l,oneC v=true:=List.all_eq_true.1 h
theorem st181{a:Addr}{q:Wh}{K:Wd->Prop}(h:StN w a [.int .u32 q.t, .int .u16 q.g] K):storeW pz 181 (.pointer (some a)) (encW q) K w:=by
 have e:storeW pz 181 (.pointer (some a)) (encW q) K w=(2=2/\StN w a [.int .u32 q.t, .int .u16 q.g] K):=by kernel_rfl
 rw [e]; exact ⟨rfl,h⟩
abbrev gensF(ks:List RK)(t:Int):List Int:=(ks.filter fun k=>decide (k.q.t=t)).map fun k=>k.q.g
abbrev gensM(sm:List (Wh×Value))(t:Int):List Int:=(sm.filter fun p=>decide (p.1.t=t)).map fun p=>p.1.g
theorem gensM_len(sm:List (Wh×Value))(t:Int):(gensM sm t).length<=sm.length:=by rw [List.length_map]; exact List.length_filter_le _ _
def whoV:Value->Wh
 | .agg a=>match a.toList with
  | [.int .u32 t, .int .u16 g]=>⟨t,g⟩
  | _=>⟨0,0⟩
 | _=>⟨0,0⟩
theorem gens_enc(sm:List (Wh×Value))(t:Int):gensM sm t=((encM encW sm).filter fun p=>decide ((whoV p.1).t=t)).map fun p=>(whoV p.1).g:=by
 induction sm with
 | nil=>rfl
 | cons p sm ih =>
  simp only [gensM,encM,List.map_cons,List.filter_cons] at ih ⊢
  have e:whoV (encW p.1)=p.1:=rfl
  rw [e]
  split
  .simp only [List.map_cons,e,ih]
  .exact ih
theorem gens_rk(ks:List RK)(t:Int):gensM (ks.map RK.e) t=gensF ks t:=by
 induction ks with
 | nil=>rfl
 | cons k ks ih =>
  simp only [gensM,gensF,List.map_cons,List.filter_cons] at ih ⊢
  split
  .simp only [List.map_cons,ih]
  .exact ih
theorem gens_spec{t:Int}{K:Sl->Wd->Prop}(R:RingR w rb mb ks)(hks:ks.length<=1000)(h1:(gensF ks t).length<=1)(k:∀ s w',Own w'.heap w.heap.size 34 1 s ((gensF ks t).map (Value.int .u16))->Ext No w w'->K s w'):C_seal_Ring_Gens (some ⟨rb,0,none⟩) t w K:=by
 apply S_seal_Ring_Gens
 refine If.no (Nn.mk ⟨some mb,Cell.lst R.blk rfl,?_⟩)
 obtain ⟨w1,hrun,hI,hx,hz⟩:=ItR.start (P:=pz) map177 R.map
 have hmb:mb < w.heap.size:=by obtain ⟨es,clock,hb,_⟩:=R.map; exact hlt hb
 refine ⟨some ⟨w.heap.size,0,none⟩,w1,hrun,fun q l u=>∃ sm,q=ks.length - sm.length/\ItR encW u w.heap.size mb (ks.map RK.e) sm/\Own u.heap (w.heap.size+1) 34 1 l ((gensM sm t).map (Value.int .u16))/\(∃ rest,(encM encW sm++rest).Perm (encM encW (ks.map RK.e)))/\Ext No w u,⟨_,[],rfl,hI,Own.nil _ _ _ _,⟨_, .refl _⟩,hx⟩,?_⟩
 rintro _ m0 l w2 ⟨sm,rfl,hI,ho,hr,x2⟩
 have hz2:=x2.size
 have hlt:=hI.lt
 rcases hI.next (P:=pz) (by omega) with ⟨hp,w3,hn,x3⟩ | ⟨p,w3,hn,he,hI3,x3,hpm,hr3,hlen⟩
 .refine .inl ⟨w3,hn,?_⟩
  have e:gensM sm t=gensF ks t:=by
   have hp':(gensM sm t).Perm (gensF ks t):=by rw [<- gens_rk,gens_enc,gens_enc]; exact (hp.filter _).map _
   have hl:=hp'.length_eq
   cases h:gensF ks t with
   | nil=>rw [h] at hl; exact List.length_eq_zero_iff.1 hl
   | cons a tl =>
    rw [h] at hp' h1
    have:tl=[]:=by simp only [List.length_cons] at h1; exact List.length_eq_zero_iff.1 (by omega)
    subst this
    exact hp'.eq_singleton
  rw [e] at ho
  have ho3:=(ho.no x3).mono (Nat.le_succ _)
  refine sort1_uint16 ?_ (k l w3 ho3 (x2.no x3))
  have:=ho3.len; rw [List.length_map] at this; omega
 .refine .inr ⟨encW p.1,p.2,w3,hn,encW p.1,p.2,w3,he,fun b w4 n4=>st181 (StN.mk n4.get (Nat.le_refl 2) (one2 rfl rfl) (fun w5 h5=>?_))⟩
  have hsz3:=x3.size
  have hb4:=n4.at_
  have x24:Ext (·=w.heap.size) w2 w4:=x3.trans (n4.ext.of_no) fun i _ h=>h
  have x25:Ext (·=w.heap.size) w2 w5:=x24.trans h5.ext fun i hi e=>by subst e; omega
  have x05:Ext No w w5:=x2.trans x25 fun i hi e=>by subst e; omega
  have g5:=h5.get n4.get
  have ho5:Own w5.heap (w.heap.size+1) 34 1 l ((gensM sm t).map (Value.int .u16)):=ho.ext x25 fun i hi e=>by have:=(ho.lt hi).1; omega
  have hI5:ItR encW w5 w.heap.size mb (ks.map RK.e) (sm++[p]):=(hI3.no n4.ext).ext h5.ext (by omega) (by omega)
  have hL:(ks.map RK.e).length=ks.length:=List.length_map _
  refine ⟨_,Cell.lst g5 rfl,If.beq (fun ht=>?_) fun ht=>?_⟩
  .refine ⟨_,Cell.lst g5 rfl,one_uint16 ho5 (by have:=x25.size; omega) rfl (one1 rfl) (by have:=ho5.len; rw [List.length_map] at this; have:=gensM_len sm t; omega) fun s w7 o7 l7 x7 hs7=>?_⟩
   refine ⟨ks.length - (sm.length+1),by omega,sm++[p],by simp,hI5.ext x7 ?_ ?_,?_,hr3,x05.trans x7 fun i hi e=>by have:=(ho5.lt e).1; omega⟩
   .intro e; have:=(ho5.lt e).1; omega
   .intro e; have:=(ho5.lt e).1; omega
   .have e:gensM (sm++[p]) t=gensM sm t++[p.1.g]:=by simp [gensM,List.filter_append,ht]
    rw [e,List.map_append]; exact o7
  .refine ⟨ks.length - (sm.length+1),by omega,sm++[p],by simp,hI5,?_,hr3,x05⟩
   have e:gensM (sm++[p]) t=gensM sm t:=by simp [gensM,List.filter_append,ht]
   rw [e]; exact ho5
theorem newest_spec{t g:Int}{K:Int->Int->Wd->Prop}(R:RingR w rb mb ks)(hks:ks.length<=1000)(h1:gensF ks t=[g])(k:∀ w',Ext No w w'->K g 0 w'):C_seal_Ring_Newest (some ⟨rb,0,none⟩) t w K:=by
 apply S_seal_Ring_Newest
 refine If.no (gens_spec R hks (by rw [h1]; exact Nat.le_refl _) fun s w1 o1 x1=>?_)
 rw [h1] at o1
 have hl:s.len=1:=by have:=o1.len; simpa using this.symm
 refine If.beq (fun h=>by omega) fun _=>Ar.i64 (by omega) (Ix.int o1.rd (by omega) (by omega) fun b o _ hc=>⟨_,hc,?_⟩)
 have e:([g]:List Int).getD ((s.len:Int) - 1).toNat 0=g:=by rw [hl]; rfl
 rw [e]
 exact k w1 x1
end
end Go.Proofs.YtmbckodpbdlblaaGreat
namespace Go.V
theorem StrC.at_{C:Addr->Value->Prop}{w:Wd}{s:Sl}{l:List Int}{K:ByteArray->Prop}(h:Rd w.heap s 1 (l.map (Value.int .u8)))(hC:∀ b o v,s.blk=some b->hcell w.heap b o=some v->C ⟨b,o,none⟩ v)
  (k:K ⟨(toB l).toArray⟩):StrC C s K:=by
 refine ⟨toB l,⟨by simpa [toB] using h.len,fun i hi=>?_,fun hn=>?_⟩,k⟩
 .simp only [toB,List.length_map] at hi
  obtain ⟨b,off,ha,hc⟩:=h.at_ (by intro e; simp at e; subst e; simp at hi)
  refine ⟨_,l[i],ha,?_,by simp [toB]⟩
  rw [addr_add_none rfl]
  exact hC _ _ _ (by simp [Sl.blk,ha]) (by have:=hc i (by simpa using hi); rw [List.getElem_map] at this; exact this)
 .have:l=[]:=Classical.byContradiction fun hne=>by
   obtain ⟨b,off,ha,_⟩:=h.at_ (by simpa using hne)
   rw [hn] at ha; cases ha
  subst this; rfl
section
variable {α:Type} [DecidableEq α] {P:Program} {kt:TypeId} {enc:α->Value}
theorem struct_key(hu:∃ fs,P.underlying kt=some (.struct fs))(ck:∀ b a w,(Instr.checkKey b 10000 kt (enc a)).run P w = .ok () w)(eq:∀ a x w,(Op.equal kt (enc a) (enc x)).run P w = .ok (decide (a=x)) w)(sb:∀ a,Instr.sameBits 10000 (enc a) (enc a)=true):KeyOK P kt enc:=by
 refine ⟨ck,fun a es m w he=>?_,sb⟩
 obtain ⟨fs,hu⟩:=hu
 have ask:∀(es:List MapEntry)(m:List (α×Value))(i:Nat),es.map (fun e=>(e.key,e.val))=m.map (fun p=>(enc p.1,p.2))->(Instr.findAsking kt (enc a) es i).run P w = .ok (findA a m i) w:=by
  intro es
  induction es with
  | nil=>intro m i h; cases m with | nil=>rfl | cons=>cases h
  | cons e es ih =>
   intro m i h
   cases m with
   | nil=>cases h
   | cons p m =>
    simp only [List.map_cons,List.cons.injEq,Prod.mk.injEq] at h
    unfold Instr.findAsking findA
    rw [h.1.1]
    simp only [Sem.run_bind,eq,Result.andThen_ok]
    by_cases hap:a=p.1
    .simp [hap,h.1.2]
    .simp only [hap,decide_false,Bool.false_eq_true,if_false]
     exact ih m (i+1) h.2
 simp only [Instr.findKey,Sem.run_bind,run_und hu,Result.andThen_ok]
 cases es with
 | nil=>cases m with
  | nil=>rfl
  | cons=>cases he
 | cons e es =>
  have:Instr.findNow (.struct fs) (enc a) (e::es) 0=none:=by unfold Instr.findNow; simp [Instr.sameNow]
  rw [this]
  exact ask _ _ 0 he
end
end Go.V
namespace Go.Proofs.YtmbckodpbdlblaaGreat
open Go.V
structure LE where
 lab:Lab
 key:List Int
 pay:List Int
 blk:List Int
abbrev baO(l:List Int):ByteArray:=⟨(toB l).toArray⟩
abbrev LE.c(e:LE):List Value:=[.int .u32 e.lab.t, .int .u8 e.lab.kd, .int .u8 e.lab.lv, .int .u32 e.lab.pg, .int .u64 e.lab.cm, .int .u16 e.lab.gn, .string (baO e.key), .string (baO e.pay), .string (baO e.blk)]
theorem LE.len{L:List LE}:∀ e∈L,e.c.length=9:=fun _ _=>rfl
structure LogR(h:Array Obj)(lb:Nat)(ls:Sl)(L:List LE):Prop where
 blk:h[lb]? = some (.cells [ls.v].toArray 132 (0,0))
 own:Own h 0 134 9 ls (L.flatMap LE.c)
 ne:ls.blk≠some lb
 b8:∀ e∈L,B8 e.blk
section
variable {w w':Wd} {lb:Nat} {ls:Sl} {L:List LE}
theorem LogR.ext{S:Nat->Prop}(R:LogR w.heap lb ls L)(x:Ext S w w')(h1:¬ S lb)(h2:∀ i,ls.blk=some i->¬ S i):LogR w'.heap lb ls L :=
 ⟨(x.blk lb (hlt R.blk) h1).trans R.blk,R.own.ext x h2,R.ne,R.b8⟩
theorem LogR.no(R:LogR w.heap lb ls L)(x:Ext No w w'):LogR w'.heap lb ls L:=R.ext x (fun h=>h) fun _ _ h=>h
theorem LogR.len(R:LogR w.heap lb ls L):ls.len=L.length:=by have:=R.own.len; rw [flat_len' LE.len] at this; omega
theorem logSeal_spec{key payload:Sl}{l:Lab}{kl pl:List Int}{K:Sl->Int->Wd->Prop}(R:LogR w.heap lb ls L)(hL:L.length<=1000)(ok:l.OK)(hkd:1<=l.kd/\l.kd<=4)(hk:RdB w.heap key kl)(hkB:B8 kl)(hlen:key.len=16∨key.len=32)(hp:RdB w.heap payload pl)(hpl:payload.len=224)
  (kb:∀ i,key.blk=some i->ls.blk≠some i) (pb:∀ i,payload.blk=some i->ls.blk≠some i)
  (k:∀ s r ls' w',OwnB w'.heap w.heap.size s (magic++r)->r.length=252->B8 r->LogR w'.heap lb ls' (L++[⟨l,kl,pl,magic++r⟩])->(∀ i,ls'.blk=some i->ls.blk=some i∨w.heap.size<=i)->(∀ i,s.blk=some i->ls'.blk≠some i)->Ext (fun i=>i=lb∨ls.blk=some i) w w'->K s 0 w'):C_seal_Log_Seal (some ⟨lb,0,none⟩) key l.t l.kd l.lv l.pg l.cm l.gn payload w K:=by
 apply S_seal_Log_Seal
 refine fun b w1 n1=>If.no ?_
 have hb:w1.heap[b]? = some (.cells [Value.int .u32 l.t, .int .u8 l.kd, .int .u8 l.lv, .int .u32 l.pg, .int .u64 l.cm, .int .u16 l.gn].toArray 88 (0,0)):=n1.get
 have x1:=n1.ext; have l1:=n1.size; have a1:=n1.at_
 refine ⟨l.t,Cell.lst hb rfl,l.kd,Cell.lst hb rfl,l.lv,Cell.lst hb rfl,l.pg,Cell.lst hb rfl,l.cm,Cell.lst hb rfl,l.gn,Cell.lst hb rfl,seal_spec ok hkd (hk.no x1) hkB hlen (hp.no x1) hpl fun s r w2 o2 hr hB x2=>If.beq (fun _=>?_) fun h=>absurd rfl h⟩
 have x02:=x1.no x2
 have z2:=x2.size
 have R2:=R.no x02
 have hb2:w2.heap[b]? = _:=(x2.blk b (hlt hb) fun h=>h).trans hb
 have hlsz:∀ i,ls.blk=some i->i < w.heap.size:=fun i hi=>(R.own.lt hi).2
 have hnb:¬ (ls.blk=some b):=fun e=>by have:=hlsz b e; omega
 have hld:∀{o:Nat}{v:Value},[Value.int .u32 l.t, .int .u8 l.kd, .int .u8 l.lv, .int .u32 l.pg, .int .u64 l.cm, .int .u16 l.gn][o]? = some v->Held (Ext (fun i=>ls.blk=some i) w2) ⟨b,o,none⟩ v:=fun h=>Held.but (Cell.lst hb2 h) hnb
 refine ⟨Ext (fun i=>ls.blk=some i) w2,(Ext.refl _ _).drew,Nn.mk ⟨ls,Held.but (Cell.lst R2.blk rfl) R.ne,l.t,hld (o:=0) rfl,l.kd,hld (o:=1) rfl,l.lv,hld (o:=2) rfl,l.pg,hld (o:=3) rfl,l.cm,hld (o:=4) rfl,l.gn,hld (o:=5) rfl,?_⟩⟩
 refine StrC.at_ (hk.no x02) (fun b o v e hv=>Held.but (Cell.mk hv) (kb b e)) (StrC.at_ (hp.no x02) (fun b o v e hv=>Held.but (Cell.mk hv) (pb b e)) (StrC.at_ o2.rd (fun b o v e hv=>Held.but (Cell.mk hv) fun h=>?_) ?_))
 .have:=(o2.lt e).1; have:=hlsz b h; omega
 .have R2d:LogR (drewW w2).heap lb ls L:=R2
  refine fun b3 w3 n3=>⟨(n3.ext.drew_left).of_no,?_⟩
  have hx3:Ext No w2 w3:=n3.ext.drew_left
  have z3:=hx3.size
  have hlen:=R2.len
  refine app_seal_sealed (R2d.own.no n3.ext) (Nat.zero_le _) (Rd.src (Own.new (n:=1) n3 rfl (oneL rfl)).rd) (by show (ls.len+1) * _<=_; omega) fun s4 w4 o4 l4 x4 hs4=>⟨hx3.of_no.trans x4 fun i _ h=>h,?_⟩
  have x24:Ext (fun i=>ls.blk=some i) w2 w4:=hx3.of_no.trans x4 fun i _ h=>h
  have x04:Ext (fun i=>ls.blk=some i) w w4:=x02.of_no.trans x24 fun i _ h=>h
  have hblk4:w4.heap[lb]? = some (.cells [ls.v].toArray 132 (0,0)):=(x04.blk lb (hlt R.blk) R.ne).trans R.blk
  refine Nn.mk (St1.mk hblk4 (Nat.le_refl 1) rfl fun w5 h5=>?_)
  have x05:Ext (fun i=>i=lb∨ls.blk=some i) w w5:=(x04.mono fun i _ h=>Or.inr h).trans h5.ext fun i _ h => .inl h
  have hs4n:s4.blk≠some lb:=fun e=>by
   rcases hs4 with h | ⟨b',h,hb'⟩
   .rw [h] at e; exact R.ne e
   .rw [h] at e; have:=hlt R.blk; have:=Option.some.inj e; have:=x02.size; omega
  have o25:OwnB w5.heap w.heap.size s (magic++r):=((o2.ext x24 fun i hi h=>by have:=(o2.lt hi).1; have:=hlsz i h; omega).ext h5.ext fun i hi e=>by have:=(o2.lt hi).1; have:=hlt R.blk; omega).mono (by have:=x1.size; omega)
  refine k s r s4 w5 o25 hr hB ⟨h5.get hblk4,?_,hs4n,fun e he=>?_⟩ (fun i hi=>?_) (fun i hi e=>?_) x05
  .have:=o4.ext h5.ext fun i hi e=>hs4n (e ▸ hi)
   rw [List.flatMap_append]
   simpa [LE.c] using this
  .rcases List.mem_append.1 he with h | h
   .exact R.b8 e h
   .simp only [List.mem_singleton] at h; subst h
    exact B8.append (by unfold magic; exact fun x hx=>by simp at hx; omega) hB
  .rcases hs4 with h | ⟨b',h,hb'⟩
   .exact .inl (h ▸ hi)
   .rw [h] at hi; have:=Option.some.inj hi; have:=x02.size; exact .inr (by omega)
  .rcases hs4 with h | ⟨b',h,hb'⟩
   .rw [h] at e; have:=hlsz i e; have:=(o2.lt hi).1; omega
   .rw [h] at e; have:=Option.some.inj e; have:=(o2.lt hi).2; omega
end
section
variable {w w':Wd} {lb:Nat} {ls:Sl} {L:List LE}
theorem LogR.at_(R:LogR w.heap lb ls L){i:Nat}(hi:i < L.length){K:Addr->Prop}(k:∀ b o,(∀ j v,(L[i].c)[j]? = some v->Cell w ⟨b,o+j,none⟩ v)->K ⟨b,o,none⟩):Ix ls.a ls.len (i:Int) 9 K:=by
 have hl:=R.len
 refine Ix.elem R.own.rd LE.len (by decide) (by omega) (by omega) fun b o hi' _ hc=>k b o fun j v hv=>?_
 exact hc j v (by simpa using hv)
theorem logHas_spec{block:Sl}{bl:List Int}{K:Bool->Wd->Prop}(R:LogR w.heap lb ls L)(hb:RdB w.heap block bl)(hB:B8 bl)(hL:L.length<=1000)(k:∀ w',Ext No w w'->K (decide (∃ e∈L,e.blk=bl)) w'):C_seal_Log_Has (some ⟨lb,0,none⟩) block w K:=by
 apply S_seal_Log_Has
 refine fun b w1 n1=>If.not (If.no (Nn.mk ⟨ls,Cell.lst (R.no n1.ext).blk rfl,?_⟩))
 apply S_slices_ContainsFunc_seal_sealed_seal_sealed
 apply S_slices_IndexFunc_seal_sealed_seal_sealed
 have hl:=R.len
 refine ⟨fun m t u=>∃ i:Nat,t=(i:Int)/\i<=L.length/\m=L.length - i/\Ext No w1 u/\∀ j (h:j < L.length),j < i->L[j].blk≠bl,⟨_,0,rfl,Nat.zero_le _,rfl,Ext.refl _ _,fun j _ h=>by omega⟩,?_⟩
 rintro _ m0 t w2 ⟨i,rfl,hi,rfl,x2,hn⟩
 have x02:=n1.ext.no x2
 refine If.dec (fun h=>?_) fun h=>?_
 .have hi':i < L.length:=by omega
  refine (R.no x02).at_ hi' fun bb o hc=>⟨_,hc 0 _ rfl,_,hc 1 _ rfl,_,hc 2 _ rfl,_,hc 3 _ rfl,_,hc 4 _ rfl,_,hc 5 _ rfl,_,hc 6 _ rfl,_,hc 7 _ rfl,_,hc 8 _ rfl,V_seal_Log_Has_1 ?_⟩
  apply S_seal_Log_Has_1
  refine fun b3 w3 n3=>⟨_,Cell.lst n3.get rfl,block,?_,StrC.mk (hb.no (x02.no n3.ext)) (fun b o v h=>Cell.mk h) ?_⟩
  .have g1:w3.heap[b]? = _:=((x2.no n3.ext).blk b (hlt n1.get) fun h=>h).trans n1.get
   exact Cell.lst g1 rfl
  .rw [toList_mk,toList_mk]
   refine If.mk (fun e=>?_) fun e=>?_
   .have e1:L[i].blk=bl:=(toB_inj (R.b8 _ (List.getElem_mem hi')) hB).1 (eq_of_beq e)
    have e2:decide ((i:Int)≥0)=true:=decide_eq_true (by omega)
    show K (decide ((i:Int)≥0)) w3
    rw [e2]
    have e3:decide (∃ e∈L,e.blk=bl)=true:=decide_eq_true ⟨_,List.getElem_mem hi',e1⟩
    rw [<- e3]
    exact k w3 (x02.no n3.ext)
   .refine Ar.i64 (by omega) ⟨_,?_,i+1,by omega,by omega,rfl,x2.no n3.ext,fun j hj hji=>?_⟩
    .omega
    .rcases Nat.lt_or_ge j i with h | h
     .exact hn j hj h
     .have:j=i:=by omega
      subst this
      intro e'
      rw [e'] at e
      simp at e
 .have e3:decide (∃ e∈L,e.blk=bl)=false:=decide_eq_false fun ⟨e,he,hb⟩=>by
   obtain ⟨j,hj,rfl⟩:=List.getElem_of_mem he
   exact hn j hj (by omega) hb
  have:=k w2 x02
  rw [e3] at this
  exact this
structure Nc where
 p:Int
 c:Int
deriving DecidableEq
abbrev encN(q:Nc):Value := .agg (#[.int .u32 q.p, .int .u64 q.c])
theorem eq136(a x:Nc)(w:Wd):(Op.equal 136 (encN a) (encN x)).run pz w = .ok (decide (a=x)) w:=by
 have h:eqS pz 136 [.int .u32 a.p, .int .u64 a.c] [.int .u32 x.p, .int .u64 x.c]=some ((a.p == x.p) && ((a.c == x.c) && true)):=by kernel_rfl
 have:=(eqS_sound (cs:=#[.int .u32 a.p, .int .u64 a.c]) (ds:=#[.int .u32 x.p, .int .u64 x.c]) h).2 w
 have e:((a.p == x.p) && ((a.c == x.c) && true))=decide (a=x):=by
  rw [Bool.eq_iff_iff]
  simp only [Bool.and_eq_true,beq_iff_eq,decide_eq_true_eq]
  constructor
  .rintro ⟨h1,h2,_⟩
   cases a; cases x; simp_all
  .rintro rfl; simp
 rw [e] at this
 exact this
theorem und136:∃ fs,Tryz.prog.underlying 136=some (.struct fs):=by
 have h:(match Tryz.prog.underlying 136 with | some (.struct _)=>true | _=>false)=true:=by kernel_rfl
 split at h
 .exact ⟨_,by assumption⟩
 .cases h
theorem non136:KeyOK pz 136 encN:=struct_key und136 (fun b a w=>by kernel_rfl) eq136 fun a=>by simp [Instr.sameBits]
theorem map128:Tryz.prog.underlying 128=some (.map 136 134):=by kernel_rfl
theorem look134(w:Wd):(zeroValue 134).run pz w = .ok (.agg (#[.int .u32 0, .int .u8 0, .int .u8 0, .int .u32 0, .int .u64 0, .int .u16 0, .string ⟨#[]⟩, .string ⟨#[]⟩, .string ⟨#[]⟩])) w:=by kernel_rfl
abbrev LE.n(e:LE):Nc:=⟨e.lab.pg,e.lab.cm⟩
theorem twice_spec{K:Sl->Wd->Prop}(R:LogR w.heap lb ls L)(hL:L.length<=1000)(hN:(L.map LE.n).Nodup)(k:∀ w',Ext No w w'->K ⟨none,0,0⟩ w'):C_seal_Log_Twice (some ⟨lb,0,none⟩) w K:=by
 apply S_seal_Log_Twice
 refine If.no fun b w1 n1 b1 w2 n2=>Nn.mk ⟨ls,Cell.lst ((R.no n1.ext).no n2.ext).blk rfl,?_⟩
 have hl:=R.len
 have hb:=n1.at_
 have m0:MapR w1.heap encN b ([]:List (Nc×Value)):=⟨#[],0,n1.get,rfl,BornOK.nil⟩
 refine ⟨fun m l t u=>∃ i:Nat,t=(i:Int)/\l=⟨none,0,0⟩/\i<=L.length/\m=L.length - i/\Ext No w u/\b < u.heap.size/\∃ ms:List (Nc×Value),MapR u.heap encN b ms/\ms.map Prod.fst=(L.take i).map LE.n,⟨_,0,rfl,rfl,Nat.zero_le _,rfl,n1.ext.no n2.ext,by have:=n1.size; have:=n2.size; omega,[],m0.ext n2.ext (fun h=>h),rfl⟩,?_⟩
 rintro _ q l t w3 ⟨i,rfl,rfl,hi,rfl,x3,hb3,ms,hm,hk⟩
 refine If.dec (fun h=>?_) fun h=>k w3 x3
 have hi':i < L.length:=by omega
 refine (R.no x3).at_ hi' fun bb o hc=>⟨_,hc 0 _ rfl,_,hc 1 _ rfl,_,hc 2 _ rfl,_,hc 3 _ rfl,_,hc 4 _ rfl,_,hc 5 _ rfl,_,hc 6 _ rfl,_,hc 7 _ rfl,_,hc 8 _ rfl,?_⟩
 refine NewSt rfl rfl (oneL rfl) fun w5 g5 z5 x5=>⟨_,Cell.lst g5 rfl,_,Cell.lst g5 rfl,NewSt rfl rfl (oneL rfl) fun w7 g7 z7 x7=>⟨_,Cell.lst g7 rfl,_,Cell.lst g7 rfl,?_⟩⟩
 have hm7:=hm.ext (x5.no x7) fun h=>h
 have hno:getA (L[i].n) ms=none:=by
  have hnot:L[i].n ∉ ms.map Prod.fst:=by
   rw [hk]
   intro hmem
   obtain ⟨e,he,hee⟩:=List.mem_map.1 hmem
   obtain ⟨j,hj,rfl⟩:=List.getElem_of_mem he
   simp only [List.length_take] at hj
   rw [List.getElem_take] at hee
   have:=List.pairwise_iff_getElem.1 hN j i (by simp; omega) (by simpa using hi') (by omega)
   simp only [List.getElem_map] at this
   exact this hee
  have gen:∀ ms:List (Nc×Value),L[i].n ∉ ms.map Prod.fst->getA (L[i].n) ms=none:=by
   intro ms
   induction ms with
   | nil=>intro _; rfl
   | cons p ms ih =>
    intro h
    simp only [List.map_cons,List.mem_cons,not_or] at h
    unfold getA
    rw [if_neg h.1]
    exact ih h.2
  exact gen ms hnot
 have hlk:=run_lookup2 (P:=pz) (a:=L[i].n) non136 map128 (look134 w7) hm7
 rw [hno] at hlk
 refine ⟨0,0,0,0,0,0,⟨#[]⟩,⟨#[]⟩,⟨#[]⟩,false,w7,hlk,NewSt rfl rfl (oneL rfl) fun w9 g9 z9 x9=>If.not (If.no ?_)⟩
 have g5':w9.heap[w3.heap.size]? = _:=((x7.no x9).blk _ (hlt g5) fun h=>h).trans g5
 have g7':w9.heap[w5.heap.size]? = _:=(x9.blk _ (hlt g7) fun h=>h).trans g7
 obtain ⟨w10,hup,hm10,x10,z10⟩:=run_mapUpdate (P:=pz) (a:=L[i].n) (v := .agg ((L[i].c).toArray)) non136 map128 (hm7.ext x9 fun h=>h)
 refine ⟨_,Cell.lst g7' rfl,_,Cell.lst g7' rfl,_,Cell.lst g5' rfl,_,Cell.lst g5' rfl,_,Cell.lst g5' rfl,_,Cell.lst g5' rfl,_,Cell.lst g5' rfl,_,Cell.lst g5' rfl,_,Cell.lst g5' rfl,_,Cell.lst g5' rfl,_,Cell.lst g5' rfl,w10,hup,Ar.i64 (by omega) ⟨L.length - (i+1),by omega,i+1,by omega,rfl,by omega,rfl,(((x3.no x5).no x7).no x9).out x10 (by omega),by omega,_,hm10,?_⟩⟩
 have hfa:findA (L[i].n) ms 0=none:=by have:=findA_get (L[i].n) ms 0; rw [hno] at this; simpa using this
 rw [(findA_none hfa).1,List.map_append,hk,List.take_succ_eq_append_getElem hi',List.map_append]
 rfl
end
end Go.Proofs.YtmbckodpbdlblaaGreat
namespace Go.Proofs.YtmbckodpbdlblaaGreat
open Go.V Go.V.Dk
theorem blkC_zero:blkC zeroRow=List.replicate 256 (.int .u8 0):=by unfold blkC zeroRow; rw [List.map_replicate]
theorem flat_zero(n:Nat):(List.replicate n (List.replicate 256 (Value.int .u8 0))).flatten=(List.replicate n zeroRow).flatMap blkC:=by
 rw [List.flatMap_def,List.map_replicate,blkC_zero]
theorem newRows{w w':Wd}{b n:Nat}(h:New w (.cells (List.replicate n (List.replicate 256 (Value.int .u8 0))).flatten.toArray T_disk_block) b w') :
  Own w'.heap w.heap.size T_disk_block 256 ⟨some ⟨b,0,none⟩,n,n⟩ ((List.replicate n zeroRow).flatMap blkC):=by
 have:=Own.make (l:=n) h (Nat.le_refl _) (fun v hv=>by rw [List.mem_replicate] at hv; rw [hv.2]; rfl)
 rw [List.length_replicate,flat_zero] at this
 exact this
theorem newDisk{w3 w4:Wd}{b:Nat}{sn sf:Sl}{n:Nat}(hn:8<=n/\n<=4096)(on:Own w3.heap 0 T_disk_block 256 sn ((List.replicate n zeroRow).flatMap blkC))(of:Own w3.heap 0 T_disk_block 256 sf ((List.replicate n zeroRow).flatMap blkC))
  (hne:∀ i,sn.blk=some i->sf.blk≠some i) (new:New w3 (.cells [sn.v,sf.v, .slice none 0 0, .int .u64 0, .int .i64 0, .int .i64 (-1), .bool false].toArray T_disk_Disk) b w4) :
  DiskR w4.heap ⟨b,sn,sf,⟨none,0,0⟩⟩ (newD n):=by
 have hb:=new.at_
 refine ⟨new.get,on.no new.ext,of.no new.ext,Own.nil _ _ _ _,⟨fun h=>?_,fun h=>?_,by simp [Sl.blk]⟩,fun i hi=>⟨hne i hi,by simp [Sl.blk]⟩,fun i _=>by simp [Sl.blk],newD_wf hn⟩
 .have:=(on.lt h).2; simp only at this; omega
 .have:=(of.lt h).2; simp only at this; omega
theorem diskNew_spec{n:Int}{w:Wd}{K:Option Addr->Int->Wd->Prop}(k2:¬ (8<=n/\n<=4096)->K none 2 w)
  (k:8<=n/\n<=4096->∀ d w',DiskR w'.heap d (newD n.toNat)->(∀ i,d.fp i->w.heap.size<=i)->Ext No w w'->K d.p 0 w'):C_disk_New n w K:=by
 apply S_disk_New
 refine ⟨fun w'=>w'=w/\8<=n/\n<=4096,?_,?_⟩
 .exact If.dec (fun h=>k2 (by omega)) (fun h=>If.dec (fun h=>k2 (by omega)) (fun h=>⟨rfl,by omega,by omega⟩))
 .rintro _ w1 ⟨rfl,hn⟩
  have fp:∀{b b1 b2:Nat}{w2 w3:Wd}{c c':List Value}{T T':TypeId},New (drewW w1) (.cells c.toArray T) b1 w2->New w2 (.cells c'.toArray T') b2 w3->b=w3.heap.size ->
    ∀ i,(i=b∨b1=i∨b2=i)->w1.heap.size<=i:=fun n1 n2 hb i hi=>by
   have:=n1.at_; have:=n2.at_; have:=n1.size; have:=n2.size
   have e:(drewW w1).heap.size=w1.heap.size:=rfl
   omega
  refine ⟨Ext No w1,(Ext.refl _ _).drew,?_,?_⟩
  .refine MkW.mk (by omega) (by omega) (by omega) (by omega) fun b1 w2 n1=>⟨(Ext.refl _ _).drew.no n1.ext,MkW.mk (by omega) (by omega) (by omega) (by omega) fun b2 w3 n2=>⟨((Ext.refl _ _).drew.no n1.ext).no n2.ext,fun b w4 new=>⟨(((Ext.refl _ _).drew.no n1.ext).no n2.ext).no new.ext,?_⟩⟩⟩
   refine k hn ⟨b,⟨some ⟨b1,0,none⟩,n.toNat,n.toNat⟩,⟨some ⟨b2,0,none⟩,n.toNat,n.toNat⟩,⟨none,0,0⟩⟩ w4 (newDisk ⟨by omega,by omega⟩ (((newRows n1).mono (Nat.zero_le _)).no n2.ext) ((newRows n2).mono (Nat.zero_le _)) (fun i h1 h2=>?_) new) (fun i hi=>?_) ((((Ext.refl _ _).drew.no n1.ext).no n2.ext).no new.ext)
   .simp [Sl.blk] at h1 h2; have:=n1.at_; have:=n2.at_; have:=n1.size; omega
   .exact fp n1 n2 new.at_ i (by simpa [Dev.fp,Sl.blk] using hi)
  .refine MkW.mk (by omega) (by omega) (by omega) (by omega) fun b1 w2 n1=>⟨(Ext.refl _ _).drew.no n1.ext,MkW.mk (by omega) (by omega) (by omega) (by omega) fun b2 w3 n2=>⟨((Ext.refl _ _).drew.no n1.ext).no n2.ext,fun b w4 new=>⟨(((Ext.refl _ _).drew.no n1.ext).no n2.ext).no new.ext,?_⟩⟩⟩
   refine k hn ⟨b,⟨some ⟨b2,0,none⟩,n.toNat,n.toNat⟩,⟨some ⟨b1,0,none⟩,n.toNat,n.toNat⟩,⟨none,0,0⟩⟩ w4 (newDisk ⟨by omega,by omega⟩ ((newRows n2).mono (Nat.zero_le _)) (((newRows n1).mono (Nat.zero_le _)).no n2.ext) (fun i h1 h2=>?_) new) (fun i hi=>?_) ((((Ext.refl _ _).drew.no n1.ext).no n2.ext).no new.ext)
   .simp [Sl.blk] at h1 h2; have:=n1.at_; have:=n2.at_; have:=n1.size; omega
   .exact fp n1 n2 new.at_ i (by rcases hi with h | h | h | h <;> simp [Sl.blk] at h <;> omega)
theorem Cut.whole{b n:Nat}{K:Sl->Prop}(hn:0 < n)(k:K ⟨some ⟨b,0,none⟩,n,n⟩):Cut ⟨some (Addr.mk b 0 none),n,n⟩ 0 (((n:Nat):Int)) (((n:Nat):Int)) 1 K:=by
 refine Cut.mk (by omega) (by omega) (by omega) (by simp) ?_
 have e:cutA (some (Addr.mk b 0 none)) ((n:Int)).toNat (0:Int).toNat 1=some ⟨b,0,none⟩:=by
  unfold cutA; rw [if_neg (by simp; omega)]; simp [addr_add_none]
 simp only [e]
 have e2:((n:Int) - 0).toNat=n:=by omega
 rw [e2]; exact k
theorem rowCopy{w1:Wd}{l:List Int}{K:Sl->Wd->Prop}(hl:l.length=256)(k:∀ s w',Own w'.heap w1.heap.size T_disk_block 1 s (blkC l)->Ext No w1 w'->K s w') :
  NewW w1 (.cells (List.replicate 256 (Value.int .u8 0)).toArray 145) fun b w2=>List.length (α:=Value) (List.map (Value.int .u8) l++[])=256/\StN w2 (Addr.mk b 0 none) (List.map (Value.int .u8) l++[]) fun w3 =>
   Cut ⟨some (Addr.mk b 0 none),256,256⟩ 0 (((256:Nat):Int)) (((256:Nat):Int)) 1 fun s=>K s w3:=by
 refine fun b w2 new=>⟨by rw [List.append_nil,List.length_map]; exact hl,_,_,_,new.get,rfl,by show 0+_<=_; rw [List.append_nil,List.length_map,List.size_toArray,List.length_replicate]; omega, .inr (.inr (Nat.le_refl _)),fun v hv=>?_,fun w3 hw=>Cut.whole (by decide) ?_⟩
 .rw [List.append_nil] at hv; exact oneC_ints v hv
 .have e:setL (List.replicate 256 (Value.int .u8 0)) 0 (List.map (Value.int .u8) l++[])=blkC l:=by
   rw [setL_all _ _ (by rw [List.append_nil,List.length_map,List.length_replicate]; exact hl),List.append_nil]; rfl
  refine k _ w3 ⟨by simp [blkC,hl], .inr ⟨b,[],rfl,by rw [new.at_]; exact Nat.le_refl _,?_,by simp [blkC,hl],Nat.le_refl _⟩,oneC_ints⟩ (new.ext.trans hw.ext fun i hi h=>by have:=new.at_; simp only at h; omega)
  rw [hw.get new.get]
  show some (Obj.cells ⟨setL (List.replicate 256 (Value.int .u8 0)) 0 (List.map (Value.int .u8) l++[])⟩ 145 (0,0))=_
  rw [e,List.append_nil]
section
variable {w:Wd} {d:Dev} {D:DS}
theorem rowAt{s:Sl}{l:List (List Int)}{i:Int}{K:Addr->Prop}(h:Rd w.heap s 256 (l.flatMap blkC))(hr:∀ r∈l,Row r)(h0:0<=i)(h1:i < (s.len:Int))
  (k:∀ b o,s.blk=some b->RowC (Cell w) ⟨b,o,none⟩ 0 .u8 (l.getD i.toNat [])->K ⟨b,o,none⟩):Ix s.a s.len i 256 K :=
 Ix.elem h (blkC_len hr) (by decide) h0 h1 fun b o hi hb hc=>by
  have e:l.getD i.toNat []=l[i.toNat]:=by simp [List.getD,hi]
  refine k b o hb (Cell.row fun j hj=>?_)
  rw [Nat.add_zero]
  refine hc j _ ?_
  simp only [e] at hj ⊢
  simp [blkC,hj]
theorem diskRead_spec{i:Int}{K:Sl->Int->Wd->Prop}(r:DiskR w.heap d D)(k2:hasB D i=false->K ⟨none,0,0⟩ 2 w)(k81:hasB D i=true->D.down=true->K ⟨none,0,0⟩ 81 w)
  (k0:hasB D i=true->D.down=false->∀ s w',Own w'.heap w.heap.size T_disk_block 1 s (blkC (D.now.getD i.toNat []))->Ext No w w'->K s 0 w'):C_disk_Disk_Read d.p i w K:=by
 apply S_disk_Disk_Read
 refine If.no (diskHas_spec r (If.not (If.cases (fun h=>?_) (fun h=>k2 h))))
 have hi:0<=i/\i < D.now.length:=by simpa [hasB] using h
 have hl:=r.ln
 refine Nn.mk ⟨_,Cell.lst r.blk rfl,If.cases (fun hd=>k81 h hd) (fun hd=>Nn.mk ⟨d.sn,Cell.lst r.blk rfl,rowAt r.now.rd r.wf.rn hi.1 (by omega) fun b o _ hc=>⟨_,(getD_row r.wf.rn (by omega)).1,hc,?_⟩⟩)⟩
 exact rowCopy (getD_row r.wf.rn (by omega)).1 (k0 h hd)
theorem diskFirm_spec{i:Int}{K:Sl->Int->Wd->Prop}(r:DiskR w.heap d D)(k2:hasB D i=false->K ⟨none,0,0⟩ 2 w)
  (k0:hasB D i=true->∀ s w',Own w'.heap w.heap.size T_disk_block 1 s (blkC (D.firm.getD i.toNat []))->Ext No w w'->K s 0 w'):C_disk_Disk_Firm d.p i w K:=by
 apply S_disk_Disk_Firm
 refine If.no (diskHas_spec r (If.not (If.cases (fun h=>?_) (fun h=>k2 h))))
 have hi:0<=i/\i < D.now.length:=by simpa [hasB] using h
 have hl:=r.lf
 have hn:=r.wf.n
 refine Nn.mk ⟨d.sf,Cell.lst r.blk rfl,rowAt r.firm.rd r.wf.rf hi.1 (by omega) fun b o _ hc=>⟨_,(getD_row r.wf.rf (by omega)).1,hc,?_⟩⟩
 exact rowCopy (getD_row r.wf.rf (by omega)).1 (k0 h)
end
end Go.Proofs.YtmbckodpbdlblaaGreat
namespace Go.V.Dk
def writeR(D:DS)(i:Int)(bs:List Int):Int×DS:=if hasB D i=true/\bs.length=256 then (if (stepD D).1=0 then (0,writeD (stepD D).2 i bs) else stepD D) else (2,D)
def syncR(D:DS):Int×DS:=if (stepD D).1=0 then (0,syncD (stepD D).2) else stepD D
end Go.V.Dk
namespace Go.Proofs.YtmbckodpbdlblaaGreat
open Go.V Go.V.Dk
structure Grow(w:Wd)(d d':Dev):Prop where
 b:d'.b=d.b
 fp:∀ i,d'.fp i->d.fp i∨w.heap.size<=i
theorem Grow.refl(w:Wd)(d:Dev):Grow w d d:=⟨rfl,fun _ h => .inl h⟩
theorem StN.ownL{w:Wd}{base:Nat}{e:TypeId}{sz:Nat}{s:Sl}{cs:List Value}{i:Int}{vs:List Value}{K:Wd->Prop}(o:Own w.heap base e sz s cs)(h0:0<=i)(h1:i < (s.len:Int))(hv:∀ v∈vs,oneC v=true)(hl:vs.length=sz)(hsz:0 < sz)
  (k:∀ w',Own w'.heap base e sz s (setL cs (i.toNat * sz) vs)->Ext (fun i=>s.blk=some i) w w'->w'.heap.size=w.heap.size->K w'):Ix s.a s.len i sz fun a=>List.length (α:=Value) vs=sz/\StN w a vs K:=by
 obtain ⟨a,h1,h2,h3,h4⟩:=StN.own (K:=K) o h0 h1 hv hl hsz k
 exact ⟨a,h1,h2,h3,hl,h4⟩
section
variable {w:Wd} {d:Dev} {D:DS}
theorem DiskR.setNow{w':Wd}{N:List (List Int)}(r:DiskR w.heap d D)(o:Own w'.heap 0 T_disk_block 256 d.sn (N.flatMap blkC))(x:Ext (fun i=>d.sn.blk=some i) w w')(wf:WF { D with now:=N }):DiskR w'.heap d { D with now:=N } :=
 ⟨by rw [x.blk _ (blt r.blk) r.nb.1]; exact r.blk,o,r.firm.ext x fun i hi h=>(r.nn i h).1 hi,r.waits.ext x fun i hi h=>(r.nn i h).2 hi,r.nb,r.nn,r.nf,wf⟩
theorem DiskR.setFirm{w':Wd}{N:List (List Int)}(r:DiskR w.heap d D)(o:Own w'.heap 0 T_disk_block 256 d.sf (N.flatMap blkC))(x:Ext (fun i=>d.sf.blk=some i) w w')(wf:WF { D with firm:=N }):DiskR w'.heap d { D with firm:=N } :=
 ⟨by rw [x.blk _ (blt r.blk) r.nb.2.1]; exact r.blk,r.now.ext x fun i hi h=>(r.nn i hi).1 h,o,r.waits.ext x fun i hi h=>r.nf i h hi,r.nb,r.nn,r.nf,wf⟩
theorem DiskR.setWaits{w':Wd}{s:Sl}{W:List (Int×List Int)}(r:DiskR w.heap d D)(o:Own w.heap 0 T_disk_write 257 s (W.flatMap wtC))(hw:Wrt w d.b (.cells (diskC ⟨d.b,d.sn,d.sf,s⟩ D.steps D.fail D.cut D.down).toArray T_disk_Disk (0,0)) w')
  (n1:s.blk≠some d.b) (n2:∀ i,d.sn.blk=some i->s.blk≠some i) (n3:∀ i,d.sf.blk=some i->s.blk≠some i) (wf:WF { D with waits:=W }):DiskR w'.heap ⟨d.b,d.sn,d.sf,s⟩ { D with waits:=W } :=
 ⟨hw.get r.blk,r.now.ext hw.ext fun i hi h=>r.nb.1 (by rw [hi,h]),r.firm.ext hw.ext fun i hi h=>r.nb.2.1 (by rw [hi,h]),o.ext hw.ext fun i hi h=>n1 (by rw [hi,h]),⟨r.nb.1,r.nb.2.1,n1⟩,fun i hi=>⟨(r.nn i hi).1,n2 i hi⟩,fun i hi=>n3 i hi,wf⟩
theorem setRow{l:List (List Int)}{i:Nat}{r:List Int}(h:∀ x∈l,Row x)(hi:i < l.length)(hr:r.length=256):setL (l.flatMap blkC) (i * 256) (List.map (Value.int .u8) r++[])=(l.set i r).flatMap blkC:=by
 have e:=flat_set (f:=blkC) (n:=256) (l:=l) (i:=i) (o:=0) (vs:=List.map (Value.int .u8) r++[]) (y:=r) (blkC_len h) hi (by rw [List.append_nil,List.length_map]; omega) (by
  rw [setL_all _ _ (by rw [List.append_nil,List.length_map,blkC_len h _ (List.getElem_mem hi)]; exact hr),List.append_nil]; rfl)
 rw [Nat.add_zero] at e
 exact e
theorem rowHeld{S:Nat->Prop}{bs:List Int}{bb off:Nat}(hb:∀ i (hi:i < (bs.map (Value.int .u8)).length),hcell w.heap bb (off+i)=some (bs.map (Value.int .u8))[i])(hS:¬ S bb):RowC (Held (Ext S w)) ⟨bb,off,none⟩ 0 .u8 bs:=by
 refine Held.row fun j hj=>?_
 rw [Nat.add_zero]
 have:=hb j (by simpa using hj)
 rw [List.getElem_map] at this
 exact Held.but (Cell.mk this) hS
theorem diskWrite_spec{i:Int}{b:Sl}{bs:List Int}{K:Int->Wd->Prop}(r:DiskR w.heap d D)(hb:RdB w.heap b bs)(h8:B8 bs)(hfp:∀ i,b.blk=some i->¬ d.fp i)(hs:0<=D.steps/\D.steps < 18446744073709551615)(hw:D.waits.length<=4294967296)
  (k:∀ d' w',DiskR w'.heap d' (writeR D i bs).2->Grow w d d'->Ext d.fp w w'->K (writeR D i bs).1 w'):C_disk_Disk_Write d.p i b w K:=by
 apply S_disk_Disk_Write
 have hbl:=RdB.len hb
 refine If.no ⟨fun w'=>w'=w/\hasB D i=true/\bs.length=256,?_,?_⟩
 .refine diskHas_spec r (If.not (If.cases (fun h=>If.bne (fun h1=>?_) (fun h1=>⟨rfl,h,by omega⟩)) (fun h=>?_)))
  .have e:writeR D i bs=(2,D):=by unfold writeR; rw [if_neg (by rintro ⟨_,h2⟩; omega)]
   rw [e] at k; exact k d w r (Grow.refl _ _) (Ext.refl _ _)
  .have e:writeR D i bs=(2,D):=by unfold writeR; rw [if_neg (by rintro ⟨h2,_⟩; rw [h] at h2; cases h2)]
   rw [e] at k; exact k d w r (Grow.refl _ _) (Ext.refl _ _)
 .rintro _ w2 ⟨rfl,hh,hlen⟩
  have hi:0<=i/\i < D.now.length:=by simpa [hasB] using hh
  refine diskstep_spec r hs fun w3 r3 x3 z3=>?_
  have x3':Ext d.fp w2 w3:=x3.mono fun j _ h => .inl h
  refine If.bne (fun he=>?_) (fun he=>?_)
  .have e:writeR D i bs=stepD D:=by unfold writeR; rw [if_pos ⟨hh,hlen⟩,if_neg he]
   rw [e] at k; exact k d w3 r3 (Grow.refl _ _) x3'
  .have e:writeR D i bs=(0,writeD (stepD D).2 i bs):=by unfold writeR; rw [if_pos ⟨hh,hlen⟩,if_pos he]
   rw [e] at k
   obtain ⟨s1,s2,s3⟩:=step_same D
   have hi3:0<=i/\i < (stepD D).2.now.length:=by rw [s1]; exact hi
   have hw3:(stepD D).2.waits.length<=4294967296:=by rw [s3]; exact hw
   generalize (stepD D).2=D3 at *
   have hb3:RdB w3.heap b bs:=Rd.ext hb x3 fun a j ha hj h=>hfp j (by simp [Sl.blk,ha,hj]) (.inl h)
   obtain ⟨bb,off,hba,hcs⟩:=hb3.at_ (by intro h; rw [List.map_eq_nil_iff] at h; rw [h] at hlen; simp at hlen)
   have hbb:b.blk=some bb:=by simp [Sl.blk,hba]
   have hnf:=hfp bb hbb
   have hl3:=r3.ln
   refine ⟨Ext (fun j=>d.sn.blk=some j) w3,(Ext.refl _ _).drew,Nn.mk ⟨d.sn,Held.but (Cell.lst r3.blk rfl) r3.nb.1,by omega,⟨_,hba,bs,hlen,rowHeld hcs fun h=>hnf (.inr (.inl h)),?_⟩⟩⟩
   have o3:Own (drewW w3).heap 0 T_disk_block 256 d.sn (D3.now.flatMap blkC):=r3.now
   refine StN.ownL o3 hi3.1 (by omega) (fun v hv=>by rw [List.append_nil] at hv; exact oneC_ints v hv) (by rw [List.append_nil,List.length_map]; exact hlen) (by decide) fun w4 o4 x4 z4=>⟨x4.drew_left,?_⟩
   rw [setRow r3.wf.rn (by omega) hlen] at o4
   have x4':Ext (fun j=>d.sn.blk=some j) w3 w4:=x4.drew_left
   have wf4:WF { D3 with now:=D3.now.set i.toNat bs }:=by
    have:=r3.wf
    refine ⟨by simp [this.n],by simp [this.lo],by simp [this.hi],set_rows this.rn ⟨hlen,h8⟩,this.rf,fun p hp=>?_,this.fl,this.ct⟩
    simp only [List.length_set]; exact this.rw p hp
   have r4:=r3.setNow o4 x4' wf4
   have hcs4:∀ i (hi:i < (bs.map (Value.int .u8)).length),hcell w4.heap bb (off+i)=some (bs.map (Value.int .u8))[i]:=fun j hj=>by
    rw [<- hcs j hj]; exact hcell_congr (x4'.blk bb (hcell_lt (hcs j hj)) fun h=>hnf (.inr (.inl h)))
   refine ⟨Ext (fun j=>d.sw.blk=some j) w4,(Ext.refl _ _).drew,Nn.mk ?_⟩
   have ec:((.int .i64 i:Value)::((List.map (Value.int .u8) bs++[])++[]))++[]=wtC (i,bs):=by simp [wtC]
   have ec1:(.int .i64 i:Value)::((List.map (Value.int .u8) bs++[])++[])=wtC (i,bs):=by simp [wtC]
   have ecl:(wtC (i,bs)).length=257:=by simp [wtC,hlen]
   have hsw:∀ j,d.sw.blk=some j->d.fp j:=fun j h => .inr (.inr (.inr h))
   refine ⟨d.sw,Held.but (Cell.lst r4.blk rfl) r4.nb.2.2,by omega,⟨_,hba,bs,hlen,rowHeld hcs4 fun h=>hnf (hsw _ h),by rw [List.append_nil,List.length_map]; exact hlen,?_⟩⟩
   rw [ec,ec1]
   refine ⟨ecl,fun b5 w5 new=>⟨(Ext.refl _ _).drew.no new.ext,?_⟩⟩
   have r4d:DiskR (drewW w4).heap d { D3 with now:=D3.now.set i.toNat bs }:=r4
   have r5:=r4d.no new.ext
   have src5:=(Own.new (sz:=257) (n:=1) new (by rw [ecl]) (fun v hv=>by
    simp only [wtC,List.mem_cons] at hv
    rcases hv with rfl | hv
    .rfl
    .exact oneC_ints v hv)).rd.src (P:=pz)
   have hlw:=r5.lw
   simp only at hlw
   refine app_disk_write r5.waits (Nat.zero_le _) src5 (by simp only; omega) fun s6 w6 o6 len6 x6 blk6=>?_
   have x46:Ext (fun j=>d.sw.blk=some j) w4 w6:=((Ext.refl _ _).drew.no new.ext).trans x6 fun _ _ h=>h
   refine ⟨x46,Nn.mk ?_⟩
   have z5:=new.size
   have ed:(drewW w4).heap.size=w4.heap.size:=rfl
   have ed3:(drewW w3).heap.size=w3.heap.size:=rfl
   have z6:=x6.size
   have o6':Own w6.heap 0 T_disk_write 257 s6 ((D3.waits++[(i,bs)]).flatMap wtC):=by
    rw [List.flatMap_append,List.flatMap_singleton]; exact o6
   have r6:w6.heap[d.b]? = some (.cells (diskC d D3.steps D3.fail D3.cut D3.down).toArray T_disk_Disk (0,0)):=by
    rw [x46.blk _ (blt r4.blk) r4.nb.2.2]; exact r4.blk
   have fresh:∀ j,s6.blk=some j->d.sw.blk=some j∨w4.heap.size<=j:=fun j hj=>by
    rcases blk6 with h | ⟨j',h,hge⟩
    .exact .inl (by rw [<- h]; exact hj)
    .rw [hj] at h; cases h; exact .inr (by omega)
   have lt4:∀ j,d.fp j->j < w4.heap.size:=fun j hj=>r4.lt hj
   refine St1.mk r6 (by simp) rfl fun w7 hw7=>?_
   have rn6:Own w6.heap 0 T_disk_block 256 d.sn ((D3.now.set i.toNat bs).flatMap blkC):=r4.now.ext x46 fun j hj h=>(r4.nn j hj).2 h
   have rf6:Own w6.heap 0 T_disk_block 256 d.sf (D3.firm.flatMap blkC):=r4.firm.ext x46 fun j hj h=>r4.nf j hj h
   have n1:s6.blk≠some d.b:=fun h=>by
    rcases fresh _ h with h | h
    .exact r4.nb.2.2 h
    .have:=lt4 d.b (.inl rfl); omega
   have n2:∀ j,d.sn.blk=some j->s6.blk≠some j:=fun j hj h=>by
    rcases fresh _ h with h | h
    .exact (r4.nn j hj).2 h
    .have:=lt4 j (.inr (.inl hj)); omega
   have n3:∀ j,d.sf.blk=some j->s6.blk≠some j:=fun j hj h=>by
    rcases fresh _ h with h | h
    .exact r4.nf j hj h
    .have:=lt4 j (.inr (.inr (.inl hj))); omega
   have r7:DiskR w7.heap ⟨d.b,d.sn,d.sf,s6⟩ (writeD D3 i bs) :=
    ⟨hw7.get r6,rn6.ext hw7.ext fun j hj h=>r4.nb.1 (by rw [hj,h]),rf6.ext hw7.ext fun j hj h=>r4.nb.2.1 (by rw [hj,h]),o6'.ext hw7.ext fun j hj h=>n1 (by rw [hj,h]),⟨r4.nb.1,r4.nb.2.1,n1⟩,fun j hj=>⟨(r4.nn j hj).1,n2 j hj⟩,fun j hj=>n3 j hj,write_wf r3.wf hi3 ⟨hlen,h8⟩⟩
   refine k ⟨d.b,d.sn,d.sf,s6⟩ w7 r7 ⟨rfl,fun j hj=>?_⟩ ?_
   .rcases hj with h | h | h | h
    .exact .inl (.inl h)
    .exact .inl (.inr (.inl h))
    .exact .inl (.inr (.inr (.inl h)))
    .rcases fresh j h with h | h
     .exact .inl (hsw j h)
     .exact .inr (by omega)
   .exact ((x3'.trans x4' fun j _ h => .inr (.inl h)).trans x46 fun j _ h=>hsw j h).trans hw7.ext fun j _ h => .inl h
theorem copyRows{a b:Sl}{A B:List (List Int)}{K:Int->Wd->Prop}(oa:Own w.heap 0 T_disk_block 256 a (A.flatMap blkC))(rb:Rd w.heap b 256 (B.flatMap blkC))(hA:∀ r∈A,Row r)(hB:∀ r∈B,Row r)(hl:B.length=A.length)(hne:0 < A.length)
  (k:∀ z w',Own w'.heap 0 T_disk_block 256 a (B.flatMap blkC)->Ext (fun i=>a.blk=some i) w w'->w'.heap.size=w.heap.size->K z w'):CopyW pz 140 140 a b.v K w:=by
 have la:=oa.len
 have lb:=rb.len
 have fa:=flat_len' (blkC_len hA)
 have fb:=flat_len' (blkC_len hB)
 obtain ⟨bn,rest,ha,hba,hb,hc,hcap⟩:=oa.place (by intro h; rw [h] at fa; simp at fa; omega)
 have hlen:b.len=a.len:=by omega
 have hmin:min b.len a.len * 256=(B.flatMap blkC).length:=by rw [hlen,Nat.min_self]; omega
 refine copy_disk_block ha hb rb (by rw [hmin,List.length_append]; omega) fun w' hw=>?_
 rw [hmin,List.take_of_length_le (Nat.le_refl _)] at hw
 obtain ⟨o',x',z'⟩:=oa.upd ha hba hb hc hcap hw rb.cells (by omega)
 rw [setL_all _ _ (by omega)] at o'
 exact k _ w' o' x' z'
theorem diskSync_spec{K:Int->Wd->Prop}(r:DiskR w.heap d D)(hs:0<=D.steps/\D.steps < 18446744073709551615)
  (k:∀ d' w',DiskR w'.heap d' (syncR D).2->Grow w d d'->Ext d.fp w w'->K (syncR D).1 w'):C_disk_Disk_Sync d.p w K:=by
 apply S_disk_Disk_Sync
 refine If.no (diskstep_spec r hs fun w3 r3 x3 z3=>?_)
 have x3':Ext d.fp w w3:=x3.mono fun j _ h => .inl h
 refine If.bne (fun he=>?_) (fun he=>?_)
 .have e:syncR D=stepD D:=by unfold syncR; rw [if_neg he]
  rw [e] at k; exact k d w3 r3 (Grow.refl _ _) x3'
 .have e:syncR D=(0,syncD (stepD D).2):=by unfold syncR; rw [if_pos he]
  rw [e] at k
  generalize (stepD D).2=D3 at *
  have hn:=r3.wf.n
  have hlo:=r3.wf.lo
  refine ⟨Ext (fun j=>d.sf.blk=some j) w3,(Ext.refl _ _).drew,Nn.mk ⟨d.sf,Held.but (Cell.lst r3.blk rfl) r3.nb.2.1,Nn.mk ⟨d.sn,Held.but (Cell.lst r3.blk rfl) r3.nb.2.1,?_⟩⟩⟩
  have rd:DiskR (drewW w3).heap d D3:=r3
  refine copyRows rd.firm rd.now.rd r3.wf.rf r3.wf.rn hn.symm (by omega) fun z w4 o4 x4 z4=>⟨x4.drew_left,Nn.mk ?_⟩
  have r4:=r3.setFirm o4 x4.drew_left ⟨rfl,r3.wf.lo,r3.wf.hi,r3.wf.rn,r3.wf.rn,r3.wf.rw,r3.wf.fl,r3.wf.ct⟩
  refine St1.mk r4.blk (by simp) rfl fun w5 hw5=>?_
  have r5:DiskR w5.heap ⟨d.b,d.sn,d.sf,⟨none,0,0⟩⟩ (syncD D3):=r4.setWaits (s:=⟨none,0,0⟩) (W:=[]) (Own.nil _ _ _ _) hw5 (by simp [Sl.blk]) (fun _ _=>by simp [Sl.blk]) (fun _ _=>by simp [Sl.blk]) (sync_wf (D:=D3) r3.wf)
  refine k _ w5 r5 ⟨rfl,fun j hj => .inl ?_⟩ ((x3'.trans x4.drew_left fun j _ h => .inr (.inr (.inl h))).trans hw5.ext fun j _ h => .inl h)
  rcases hj with h | h | h | h
  .exact .inl h
  .exact .inr (.inl h)
  .exact .inr (.inr (.inl h))
  .simp [Sl.blk] at h
end
end Go.Proofs.YtmbckodpbdlblaaGreat
namespace Go.V.Dk
open Go.V
def mixS(m:Int)(j:Nat)(old new:List Int):List Int:=(List.range 256).map fun i=>if i / 64 < j then mixB m i (old.getD i 0) (new.getD i 0) else old.getD i 0
theorem mixS_len(m:Int)(j:Nat)(old new:List Int):(mixS m j old new).length=256:=by simp [mixS]
theorem mixS_row{m:Int}{j:Nat}{old new:List Int}(ho:Row old)(hn:Row new):Row (mixS m j old new):=by
 refine ⟨mixS_len _ _ _ _,fun x hx=>?_⟩
 simp only [mixS,List.mem_map] at hx
 obtain ⟨i,_,rfl⟩:=hx
 split
 .unfold mixB; split
  .exact hn.2.get i
  .exact ho.2.get i
 .exact ho.2.get i
theorem mixS_zero{m:Int}{old new:List Int}(h:old.length=256):mixS m 0 old new=old:=by
 apply List.ext_getElem (by rw [mixS_len,h])
 intro i h1 h2
 simp [mixS,List.getD,h2]
theorem mixS_four(m:Int)(old new:List Int):mixS m 4 old new=mixR m old new:=by
 unfold mixS mixR
 apply List.map_congr_left
 intro i hi
 rw [List.mem_range] at hi
 rw [if_pos (by omega)]
theorem mixS_skip{m:Int}{j:Nat}{old new:List Int}(h:m / 2 ^ j % 2=0):mixS m (j+1) old new=mixS m j old new:=by
 unfold mixS
 apply List.map_congr_left
 intro i _
 by_cases h1:i / 64 < j
 .rw [if_pos h1,if_pos (by omega)]
 .rw [if_neg h1]
  by_cases h2:i / 64 < j+1
  .rw [if_pos h2,mixB]
   have:i / 64=j:=by omega
   rw [this,if_neg (by omega)]
  .rw [if_neg h2]
theorem mixS_take{m:Int}{j:Nat}{old new:List Int}(hj:j < 4)(hn:new.length=256)(h:m / 2 ^ j % 2=1):mixS m (j+1) old new=splice (mixS m j old new) (j * 64) ((new.drop (j * 64)).take 64):=by
 have hl:((new.drop (j * 64)).take 64).length=64:=by simp [hn]; omega
 unfold splice
 apply List.ext_getElem
 .rw [mixS_len,List.length_append,List.length_append,List.length_take,List.length_drop,mixS_len,hl]; omega
 .intro i h1 h2
  rw [mixS_len] at h1
  have hg:∀ k (hk:k < (mixS m j old new).length),(mixS m j old new)[k]=if k / 64 < j then mixB m k (old.getD k 0) (new.getD k 0) else old.getD k 0:=fun k hk=>by simp [mixS]
  have hg1:(mixS m (j+1) old new)[i]'(by rw [mixS_len]; exact h1)=if i / 64 < j+1 then mixB m i (old.getD i 0) (new.getD i 0) else old.getD i 0:=by simp [mixS]
  rw [hg1]
  by_cases c1:i < j * 64
  .rw [List.getElem_append_left (by rw [List.length_take,mixS_len]; omega),List.getElem_take,hg,if_pos (by omega),if_pos (by omega)]
  .rw [List.getElem_append_right (by rw [List.length_take,mixS_len]; omega)]
   have e:i - (List.take (j * 64) (mixS m j old new)).length=i - j * 64:=by rw [List.length_take,mixS_len]; omega
   by_cases c2:i < j * 64+64
   .rw [List.getElem_append_left (by rw [hl]; omega)]
    simp only [e,List.getElem_take,List.getElem_drop]
    rw [if_pos (by omega),mixB,show i / 64=j by omega,if_pos h]
    simp [List.getD,show j * 64+(i - j * 64)=i by omega,show i < new.length by omega]
   .rw [List.getElem_append_right (by rw [hl]; omega)]
    simp only [e,hl,List.getElem_drop]
    rw [hg,if_neg (by omega),if_neg (by omega)]
    congr 1; omega
theorem crashF_nil(F:List (List Int))(ws:List (Int×List Int)):crashF F ws []=F:=by cases ws <;> rfl
end Go.V.Dk
namespace Go.V
theorem bitI_and1{x:Int}(hx:0<=x/\x<=255):bitI .and .u8 x 1=x % 2:=fin256 (p:=fun x=>bitI .and .u8 x 1=x % 2) (by decide +kernel) hx
end Go.V
namespace Go.Proofs.YtmbckodpbdlblaaGreat
open Go.V Go.V.Dk
section
variable {w:Wd} {d:Dev} {D:DS}
theorem setSplice{l:List (List Int)}{i o:Nat}{vs:List Int}(h:∀ x∈l,Row x)(hi:i < l.length)(ho:o+vs.length<=256):setL (l.flatMap blkC) (i * 256+o) (vs.map (Value.int .u8))=(l.set i (splice (l.getD i []) o vs)).flatMap blkC:=by
 have e:l.getD i []=l[i]:=by simp [List.getD,hi]
 have hr:=(h _ (List.getElem_mem hi)).1
 refine flat_set (blkC_len h) hi (by rw [List.length_map]; exact ho) ?_
 rw [setL_parts _ _ _ (by rw [List.length_map,blkC_len h _ (List.getElem_mem hi)]; exact ho),e]
 simp [blkC,splice,List.map_take,List.map_drop]
theorem set_set{l:List (List Int)}{i:Nat}{a b:List Int}:(l.set i a).set i b=l.set i b:=by simp
theorem getD_set{l:List (List Int)}{i:Nat}{a:List Int}(hi:i < l.length):(l.set i a).getD i []=a:=by simp [List.getD,hi]
theorem Cut.from{b off n:Nat}{lo hi:Nat}{K:Sl->Prop}(h1:lo<=hi)(h2:hi<=n)(h3:lo < n)(k:K ⟨some ⟨b,off+lo,none⟩,hi - lo,n - lo⟩):Cut ⟨some (Addr.mk b off none),n,n⟩ (lo:Int) (hi:Int) (((n:Nat):Int)) 1 K:=by
 refine Cut.mk (by omega) (by omega) (by omega) (by simp) ?_
 have e:cutA (some (Addr.mk b off none)) ((n:Int)).toNat ((lo:Int)).toNat 1=some ⟨b,off+lo,none⟩:=by
  unfold cutA; rw [if_neg (by simp; omega)]; simp [addr_add_none]
 simp only [e]
 rw [show ((hi:Int) - (lo:Int)).toNat=hi - lo by omega,show ((n:Int) - (lo:Int)).toNat=n - lo by omega]
 exact k
theorem drop_cons{α:Type}{l:List α}{k:Nat}(h:k < l.length):l.drop k=l[k]::l.drop (k+1):=List.drop_eq_getElem_cons h
set_option maxRecDepth 20000 in
theorem sector{w4:Wd}{F:List (List Int)}{b:Nat}{p:Int×List Int}{j:Nat}{m:Int}{K:Wd->Prop}(r:DiskR w4.heap d { D with firm:=F.set p.1.toNat (mixS m j (F.getD p.1.toNat []) p.2) })
    (hF:F.length=D.now.length) (hr:∀ x∈F,Row x) (hp:0<=p.1/\p.1 < D.now.length/\Row p.2) (hb:w4.heap[b]? = some (.cells (wtC p).toArray 147 (0,0))) (hbf:d.sf.blk≠some b) (hj:j < 4) (hm:m / 2 ^ j % 2=1)
    (k:∀ w5,DiskR w5.heap d { D with firm:=F.set p.1.toNat (mixS m (j+1) (F.getD p.1.toNat []) p.2) }->w5.heap[b]? = some (.cells (wtC p).toArray 147 (0,0))->Ext (fun i=>d.sf.blk=some i) w4 w5->K w5) :
    ∃ S:Wd->Prop,S (drewW w4)/\Nn d.p fun a_3=>∃ vv_2:Sl,Held S (a_3.add 1) (.slice vv_2.a vv_2.len vv_2.cap)/\∃ vv_3:Int,Held S (Addr.mk b 0 none) (.int .i64 vv_3)/\Ix vv_2.a vv_2.len vv_3 256 fun a_4 =>
      Ar .i64 ((j:Int) * 64) fun z_2=>Ar .i64 ((j:Int)+1) fun z_3=>Ar .i64 (z_3 * 64) fun z_4=>Cut ⟨some a_4,256,256⟩ z_2 z_4 (((256:Nat):Int)) 1 fun s=>Ar .i64 ((j:Int) * 64) fun z_5 =>
      Cut ⟨some ((Addr.mk b 0 none).add 1),256,256⟩ z_5 (((256:Nat):Int)) (((256:Nat):Int)) 1 fun s_1=>CopyW pz 22 22 s (.slice s_1.a s_1.len s_1.cap) (fun _z_6 w5=>S w5/\K w5) (drewW w4):=by
  have hlf:=r.lf
  simp only at hlf
  refine ⟨Ext (fun i=>d.sf.blk=some i) w4,(Ext.refl _ _).drew,Nn.mk ⟨d.sf,Held.but (Cell.lst r.blk rfl) r.nb.2.1,p.1,Held.but (Cell.lst hb rfl) hbf,?_⟩⟩
  have hF1:(F.set p.1.toNat (mixS m j (F.getD p.1.toNat []) p.2)).length=D.now.length:=by rw [List.length_set]; exact hF
  have o1:Own (drewW w4).heap 0 T_disk_block 256 d.sf ((F.set p.1.toNat (mixS m j (F.getD p.1.toNat []) p.2)).flatMap blkC):=r.firm
  have rows1:=r.wf.rf
  simp only at rows1
  have fl:=flat_len' (blkC_len rows1)
  have hlt:p.1.toNat * 256+256<=((F.set p.1.toNat (mixS m j (F.getD p.1.toNat []) p.2)).flatMap blkC).length:=by rw [fl,hF1]; omega
  obtain ⟨bf,rest,ha,hba,hbk,hc,hcap⟩:=o1.place (by intro h; rw [h] at hlt; simp at hlt)
  refine ⟨_,ha,hp.1,by omega,?_⟩
  rw [show (⟨bf,0,none⟩ : Addr).add (p.1.toNat * 256)=⟨bf,p.1.toNat * 256,none⟩ by rw [addr_add_none rfl]; simp]
  refine Ar.i64 (by omega) (Ar.i64 (by omega) (Ar.i64 (by omega) ?_))
  rw [show (j:Int) * 64=((j * 64:Nat):Int) by omega,show ((j:Int)+1) * 64=((j * 64+64:Nat):Int) by omega]
  refine Cut.from (b:=bf) (off:=p.1.toNat * 256) (n:=256) (lo:=j * 64) (hi:=j * 64+64) (by omega) (by omega) (by omega) ?_
  refine Ar.i64 (by omega) ?_
  show Cut ⟨some (Addr.mk b 1 none),256,256⟩ ((j * 64:Nat):Int) (((256:Nat):Int)) (((256:Nat):Int)) 1 _
  refine Cut.from (b:=b) (off:=1) (n:=256) (lo:=j * 64) (hi:=256) (by omega) (by omega) (by omega) ?_
  have hb':(drewW w4).heap[b]? = some (.cells (wtC p).toArray 147 (0,0)):=hb
  have hx:Rd (drewW w4).heap ⟨some ⟨b,1+j * 64,none⟩,256 - j * 64,256 - j * 64⟩ 1 ((p.2.drop (j * 64)).map (Value.int .u8)):=by
    have hp2:=hp.2.2.1
    refine ⟨by simp [hp2],Nat.le_refl _,fun _=>⟨b,1+j * 64,rfl,fun i hi=>?_⟩,oneC_ints⟩
    unfold hcell; rw [hb']
    have hi':i < 256 - j * 64:=by simpa [hp2] using hi
    simp only [wtC,List.getElem?_toArray]
    rw [show 1+j * 64+i=(j * 64+i)+1 by omega,List.getElem?_cons_succ]
    simp [show j * 64+i < p.2.length by omega]
  refine copy_uint8 (x:=⟨some ⟨b,1+j * 64,none⟩,256 - j * 64,256 - j * 64⟩) rfl hbk hx (by rw [List.length_append]; simp only; omega) fun w5 hw5=>?_
  have et:((p.2.drop (j * 64)).map (Value.int .u8)).take (min (256 - j * 64) (j * 64+64 - j * 64) * 1)=((p.2.drop (j * 64)).take 64).map (Value.int .u8):=by
    rw [show min (256 - j * 64) (j * 64+64 - j * 64) * 1=64 by omega,List.map_take]
  simp only [et] at hw5
  have l64:((p.2.drop (j * 64)).take 64).length=64:=by have:=hp.2.2.1; simp [this]; omega
  obtain ⟨o5,x5,z5⟩:=o1.upd ha hba hbk hc hcap hw5 oneC_ints (by rw [List.length_map,l64]; omega)
  rw [setSplice rows1 (by rw [hF1]; omega) (by rw [l64]; omega),set_set,getD_set (by omega),<- mixS_take hj hp.2.2.1 hm] at o5
  have x5':Ext (fun i=>d.sf.blk=some i) w4 w5:=x5.drew_left
  have r5:=r.setFirm o5 x5' ⟨by simp only [List.length_set]; exact hF,r.wf.lo,r.wf.hi,r.wf.rn,set_rows hr (mixS_row (getD_row hr (by omega)) hp.2.2),r.wf.rw,r.wf.fl,r.wf.ct⟩
  exact ⟨x5',k w5 r5 (by rw [x5'.blk _ (blt hb) hbf]; exact hb) x5'⟩
end
end Go.Proofs.YtmbckodpbdlblaaGreat
namespace Go.Proofs.YtmbckodpbdlblaaGreat
open Go.V Go.V.Dk
section
variable {w:Wd} {d:Dev} {D:DS}
theorem Rd.extN{S:Nat->Prop}{w w':Wd}{s:Sl}{sz:Nat}{cs:List Value}(h:Rd w.heap s sz cs)(e:Ext S w w')(hS:cs≠[]->∀ a b,s.a=some a->a.block=b->¬ S b):Rd w'.heap s sz cs:=by
 by_cases hc:cs=[]
 .subst hc; exact ⟨h.len,h.cap,fun hne=>absurd rfl hne,h.cells⟩
 .exact h.ext e (hS hc)
set_option maxRecDepth 20000 in
theorem diskCrash_spec{masks:Sl}{ms:List Int}{K:Int->Wd->Prop}(r:DiskR w.heap d D)(hm:RdB w.heap masks ms)(h8:B8 ms)(hfp:ms≠[]->∀ i,masks.blk=some i->¬ d.fp i)(hw:D.waits.length<=4294967296)
    (k:∀ d' w',DiskR w'.heap d' (crashD D ms)->Grow w d d'->Ext d.fp w w'->K 0 w'):C_disk_Disk_Crash d.p masks w K:=by
  apply S_disk_Disk_Crash
  have hml:=RdB.len hm
  have hlw:=r.lw
  refine If.no ⟨fun w6=>DiskR w6.heap d { D with firm:=crashF D.firm D.waits ms }/\Ext (fun i=>d.sf.blk=some i) w w6,Nn.mk ⟨d.sw,Cell.lst r.blk rfl,?_⟩,?_⟩
  · refine ⟨fun m t w1=>∃ (q:Nat) (F:List (List Int)),t=q/\m=D.waits.length - q/\q<=D.waits.length/\F.length=D.now.length/\(∀ x∈F,Row x)/\crashF F (D.waits.drop q) (ms.drop q)=crashF D.firm D.waits ms/\DiskR w1.heap d { D with firm:=F }/\Ext (fun i=>d.sf.blk=some i) w w1,
      ⟨_,0,D.firm,rfl,rfl,Nat.zero_le _,r.wf.n,r.wf.rf,rfl,r,Ext.refl _ _⟩,?_⟩
    rintro _ m t w1 ⟨q,F,rfl,rfl,hq,hF,hr,hc,r1,x1⟩
    refine If.dec (fun hlt=>?_) (fun hge=>?_)
    · have hq':q < D.waits.length:=by omega
      have hwr:Rd w1.heap d.sw 257 (D.waits.flatMap wtC):=r1.waits.rd
      refine Ix.elem hwr (wtC_len r.wf.rw) (by decide) (by omega) hlt fun b o hi hb hcell=>?_
      rw [drop_cons hq'] at hc
      have ep:D.waits[(q:Int).toNat]=D.waits[q]:=rfl
      rw [ep] at hcell
      have hp:=r.wf.rw _ (List.getElem_mem hq')
      generalize D.waits[q]=p at *
      refine ⟨p.1,hcell 0 _ rfl,p.2,hp.2.2.1,Cell.row fun j hj=>?_,fun b2 w2 new=>?_⟩
      · have:=hcell (j+1) (.int .u8 p.2[j]) (by simp [wtC,hj])
        rw [show o+1+j=o+(j+1) by omega]; exact this
      · have ev:(.int .i64 p.1:Value)::(List.map (Value.int .u8) p.2++[])=wtC p:=by rw [List.append_nil]; rfl
        have el:(wtC p).length=257:=by simp [wtC,hp.2.2.1]
        rw [ev]
        refine ⟨el,_,_,_,new.get,rfl,?_, .inr (.inr (Nat.le_refl _)),fun v hv=>?_,fun w3 hw3=>?_⟩
        · show 0+_<=_
          rw [el,List.size_toArray,List.length_cons,List.length_replicate]; omega
        · simp only [wtC,List.mem_cons] at hv
          rcases hv with rfl | hv
          · rfl
          · exact oneC_ints v hv
        · have hset:setL ((Value.int .i64 0)::List.replicate 256 (Value.int .u8 0)) 0 (wtC p)=wtC p:=setL_all _ _ (by rw [el,List.length_cons,List.length_replicate])
          have hb3:w3.heap[b2]? = some (.cells (wtC p).toArray 147 (0,0)):=by
            rw [hw3.get new.get]
            show some (Obj.cells ⟨setL ((Value.int .i64 0)::List.replicate 256 (Value.int .u8 0)) 0 (wtC p)⟩ 147 (0,0))=_
            rw [hset]
          have a2:=new.at_
          have x13:Ext No w1 w3:=new.ext.trans hw3.ext fun i hi h=>by
            have h':i=b2:=h
            omega
          have r3:=r1.no x13
          have x3:=x1.no x13
          have hbf:d.sf.blk≠some b2:=fun h=>by have:=(r1.firm.lt h).2; omega
          refine If.dec (fun hmk=>?_) (fun hmk=>?_)
          · have hnil:ms.drop q=[]:=List.drop_of_length_le (by omega)
            rw [hnil,crashF_nil] at hc
            rw [<- hc]; exact ⟨r3,x3⟩
          · have hqm:q < ms.length:=by omega
            rw [drop_cons hqm,crashF] at hc
            have em:ms.getD q 0=ms[q]:=by simp [List.getD,hqm]
            have hmb:=h8.get q
            rw [<- em] at hc
            generalize hmke:ms.getD q 0=mk at hc hmb
            have hold:=getD_row hr (i:=p.1.toNat) (by omega)
            refine ⟨fun m1 t1 w4=>∃ j:Nat,t1=j/\m1=4 - j/\j<=4/\DiskR w4.heap d { D with firm:=F.set p.1.toNat (mixS mk j (F.getD p.1.toNat []) p.2) }/\w4.heap[b2]? = some (.cells (wtC p).toArray 147 (0,0))/\Ext (fun i=>d.sf.blk=some i) w w4,
              ⟨4,0,rfl,by omega,by omega,?_,hb3,x3⟩,?_⟩
            · have e0:F.set p.1.toNat (mixS mk 0 (F.getD p.1.toNat []) p.2)=F:=by
                rw [mixS_zero hold.1]
                have:F.getD p.1.toNat []=F[p.1.toNat]'(by omega):=by simp [List.getD,show p.1.toNat < F.length by omega]
                rw [this]; simp
              rw [e0]; exact r3
            · rintro _ m1 t1 w4 ⟨j,rfl,hm1,hj,r4,hb4,x4⟩
              refine If.dec (fun hlt4=>?_) (fun hge4=>?_)
              · have hj4:j < 4:=by omega
                have hm4:RdB w4.heap masks ms:=Rd.extN hm x4 fun hne a i ha hi h=>hfp (fun e=>hne (by rw [e]; rfl)) i (by simp [Sl.blk,ha,hi]) (.inr (.inr (.inl h)))
                refine Ix.int hm4 (by omega) (by omega) fun mb mo _ hcm=>⟨mk,?_,by omega,?_⟩
                · rw [Int.toNat_natCast,hmke] at hcm; exact hcm
                · have hdiv:0<=mk / 2 ^ j/\mk / 2 ^ j<=255:=by
                    have:j=0∨j=1∨j=2∨j=3:=by omega
                    rcases this with rfl | rfl | rfl | rfl <;> simp <;> omega
                  refine Nm.as (e':=mk / 2 ^ j) (by rw [fdiv_pow,Int.toNat_natCast,show min j (IntKind.bits .u8)=j from Nat.min_eq_left (by simp [IntKind.bits]; omega)]) (Nm.as (bitI_and1 hdiv) (If.bne (fun h1=>?_) (fun h1=>?_)))
                  · exact sector (K:=fun w5=>Ar .i64 ((j:Int)+1) fun z_7=>∃ m1_1,m1_1 < m1/\_) r4 hF hr hp hb4 hbf hj4 (by omega) fun w5 r5 hb5 x5=>Ar.i64 (by omega) ⟨4 - (j+1),by omega,j+1,by omega,rfl,by omega,r5,hb5,x4.trans x5 fun _ _ h=>h⟩
                  · refine Ar.i64 (by omega) ⟨4 - (j+1),by omega,j+1,by omega,rfl,by omega,?_,hb4,x4⟩
                    rw [mixS_skip h1]; exact r4
              · have:j=4:=by omega
                subst this
                rw [mixS_four] at r4
                refine Ar.i64 (by omega) ⟨D.waits.length - (q+1),by omega,q+1,_,by omega,rfl,by omega,by rw [List.length_set]; exact hF,set_rows hr (mixR_row hold hp.2.2),hc,r4,x4⟩
    · have hnil:D.waits.drop q=[]:=List.drop_of_length_le (by omega)
      rw [hnil,crashF] at hc
      · rw [<- hc]; exact ⟨r1,x1⟩
      · intros; simp_all
  · rintro _ w6 ⟨r6,x6⟩
    have x6':Ext d.fp w w6:=x6.mono fun j _ h => .inr (.inr (.inl h))
    have hn6:=r6.wf.n
    have hlo:=r6.wf.lo
    simp only at hn6 hlo
    refine ⟨Ext (fun j=>d.sn.blk=some j) w6,(Ext.refl _ _).drew,Nn.mk ⟨d.sn,Held.but (Cell.lst r6.blk rfl) r6.nb.1,Nn.mk ⟨d.sf,Held.but (Cell.lst r6.blk rfl) r6.nb.1,?_⟩⟩⟩
    have rd:DiskR (drewW w6).heap d { D with firm:=crashF D.firm D.waits ms }:=r6
    refine copyRows rd.now rd.firm.rd r6.wf.rn r6.wf.rf hn6 (by simp only; omega) fun z w7 o7 x7 z7=>⟨x7.drew_left,Nn.mk ?_⟩
    have wf7:WF { D with now:=crashF D.firm D.waits ms,firm:=crashF D.firm D.waits ms }:=⟨rfl,by simp only; omega,by have:=r6.wf.hi; simp only at this ⊢; omega,r6.wf.rf,r6.wf.rf,fun p hp=>by have:=r.wf.rw p hp; exact ⟨this.1,by simp only; omega,this.2.2⟩,r.wf.fl,r.wf.ct⟩
    have r7:=r6.setNow o7 x7.drew_left wf7
    refine St1.mk r7.blk (by simp) rfl fun w8 hw8=>?_
    have wf8:WF { D with now:=crashF D.firm D.waits ms,firm:=crashF D.firm D.waits ms,waits:=[] }:=⟨rfl,wf7.lo,wf7.hi,wf7.rn,wf7.rf,fun p hp=>by simp at hp,r.wf.fl,r.wf.ct⟩
    have r8:=r7.setWaits (s:=⟨none,0,0⟩) (W:=[]) (Own.nil _ _ _ _) hw8 (by simp [Sl.blk]) (fun _ _=>by simp [Sl.blk]) (fun _ _=>by simp [Sl.blk]) wf8
    refine Nn.mk (St1.mk r8.blk (by simp) rfl fun w9 hw9=>?_)
    have r9:=r8.scal (st:=D.steps) (fl:=0) (ct:=D.cut) (dn:=D.down) hw9 ⟨rfl,wf7.lo,wf7.hi,wf7.rn,wf7.rf,fun p hp=>by simp at hp,by simp,r.wf.ct⟩
    refine Nn.mk (St1.mk r9.blk (by simp) rfl fun w10 hw10=>?_)
    have r10:=r9.scal (st:=D.steps) (fl:=0) (ct := -1) (dn:=D.down) hw10 ⟨rfl,wf7.lo,wf7.hi,wf7.rn,wf7.rf,fun p hp=>by simp at hp,by simp,by simp⟩
    refine Nn.mk (St1.mk r10.blk (by simp) rfl fun w11 hw11=>?_)
    have r11:=r10.scal (st:=D.steps) (fl:=0) (ct := -1) (dn:=false) hw11 (crash_wf r.wf ms)
    have self:∀{a b:Wd}{o:Obj},Wrt a d.b o b->Ext d.fp w a->Ext d.fp w b:=fun h x=>x.trans h.ext fun j _ h => .inl h
    refine k ⟨d.b,d.sn,d.sf,⟨none,0,0⟩⟩ w11 r11 ⟨rfl,fun j hj => .inl ?_⟩ (self hw11 (self hw10 (self hw9 (self hw8 (x6'.trans x7.drew_left fun j _ h => .inr (.inl h))))))
    rcases hj with h | h | h | h
    · exact .inl h
    · exact .inr (.inl h)
    · exact .inr (.inr (.inl h))
    · simp [Sl.blk] at h
end
end Go.Proofs.YtmbckodpbdlblaaGreat
namespace Go.Proofs.YtmbckodpbdlblaaGreat
open Go.V Go.V.Dk
structure RS where
 dev:Option Addr
 limit:Int
 reserved:Int
 committed:Int
 draws:List (List Int)
structure Rgs where
 rb:Nat
 sd:Sl
 ins:List Sl
def Rgs.fp(g:Rgs)(i:Nat):Prop:=i=g.rb∨g.sd.blk=some i∨∃ s∈g.ins,s.blk=some i
abbrev Rgs.p(g:Rgs):Option Addr:=some ⟨g.rb,0,none⟩
abbrev slC(s:Sl):List Value:=[s.v]
abbrev regsC(R:RS)(sd:Sl):List Value:=[.pointer R.dev, .int .u64 R.limit, .int .u64 R.reserved, .int .u64 R.committed,sd.v]
structure RegsR(h:Array Obj)(g:Rgs)(R:RS):Prop where
 blk:h[g.rb]? = some (.cells (regsC R g.sd).toArray T_regs_Regs (0,0))
 outer:Rd h g.sd 1 (g.ins.flatMap slC)
 old:∀ i,g.sd.blk=some i->i < h.size
 n:g.ins.length=R.draws.length
 inner:∀ j (h1:j < g.ins.length) (h2:j < R.draws.length),Own h 0 T_uint8 1 g.ins[j] (R.draws[j].map (Value.int .u8))
 b8:∀ l∈R.draws,B8 l
 n1:g.sd.blk≠some g.rb
 n2:∀ s∈g.ins,∀ i,s.blk=some i->i≠g.rb/\g.sd.blk≠some i
 n3:g.ins.Pairwise fun s t=>∀ i,s.blk=some i->t.blk≠some i
theorem slC_len{l:List Sl}:∀ s∈l,(slC s).length=1:=fun _ _=>rfl
section
variable {w w':Wd} {g:Rgs} {R:RS}
theorem RegsR.lt(r:RegsR w.heap g R){i:Nat}(h:g.fp i):i < w.heap.size:=by
 rcases h with rfl | h | ⟨s,hs,h⟩
 .exact blt r.blk
 .exact r.old i h
 .obtain ⟨j,hj,rfl⟩:=List.getElem_of_mem hs
  exact ((r.inner j hj (by have:=r.n; omega)).lt h).2
theorem RegsR.len(r:RegsR w.heap g R):g.sd.len=R.draws.length:=by have:=r.outer.len; rw [flat_len' slC_len,r.n] at this; omega
theorem RegsR.ext{S:Nat->Prop}(r:RegsR w.heap g R)(x:Ext S w w')(hS:∀ i,g.fp i->¬ S i):RegsR w'.heap g R :=
 ⟨by rw [x.blk _ (blt r.blk) (hS _ (.inl rfl))]; exact r.blk,r.outer.ext x fun a b ha hb=>hS b (.inr (.inl (by simp [Sl.blk,ha,hb]))),fun i hi=>Nat.lt_of_lt_of_le (r.old i hi) x.size,r.n,
  fun j h1 h2=>(r.inner j h1 h2).ext x fun i hi=>hS i (.inr (.inr ⟨_,List.getElem_mem h1,hi⟩)),r.b8,r.n1,r.n2,r.n3⟩
theorem RegsR.scal{res com:Int}(r:RegsR w.heap g R)(hw:Wrt w g.rb (.cells (regsC { R with reserved:=res,committed:=com } g.sd).toArray T_regs_Regs (0,0)) w'):RegsR w'.heap g { R with reserved:=res,committed:=com } :=
 ⟨hw.get r.blk,r.outer.ext hw.ext fun a b ha hb h=>r.n1 (by simp [Sl.blk,ha,hb]; exact h),fun i hi=>by rw [hw.size]; exact r.old i hi,r.n,
  fun j h1 h2=>(r.inner j h1 h2).ext hw.ext fun i hi h=>(r.n2 _ (List.getElem_mem h1) i hi).1 h,r.b8,r.n1,r.n2,r.n3⟩
theorem regsReserved_spec{K:Int->Wd->Prop}(r:RegsR w.heap g R)(k:K R.reserved w):C_regs_Regs_Reserved g.p w K:=by
 apply S_regs_Regs_Reserved
 exact If.no (Nn.mk ⟨_,Cell.lst r.blk rfl,k⟩)
theorem regsCommitted_spec{K:Int->Wd->Prop}(r:RegsR w.heap g R)(k:K R.committed w):C_regs_Regs_Committed g.p w K:=by
 apply S_regs_Regs_Committed
 exact If.no (Nn.mk ⟨_,Cell.lst r.blk rfl,k⟩)
theorem diskStep_spec{d:Dev}{D:DS}{K:Int->Wd->Prop}(r:DiskR w.heap d D)(hs:0<=D.steps/\D.steps < 18446744073709551615)(k:∀ w',DiskR w'.heap d (stepD D).2->Ext (·=d.b) w w'->w'.heap.size=w.heap.size->K (stepD D).1 w'):C_disk_Disk_Step d.p w K:=by
 apply S_disk_Disk_Step
 exact If.no (diskstep_spec r hs k)
def reserveR(R:RS)(D:DS):Int×Int×RS×DS :=
 if R.reserved≥R.limit then (0,90,R,D) else if (stepD D).1=0 then (R.reserved+1,0,{ R with reserved:=R.reserved+1 },(stepD D).2) else (0,(stepD D).1,R,(stepD D).2)
def advanceR(R:RS)(D:DS)(n:Int):Int×RS×DS :=
 if n<=R.committed∨n > R.reserved then (2,R,D) else if (stepD D).1=0 then (0,{ R with committed:=n },(stepD D).2) else ((stepD D).1,R,(stepD D).2)
theorem regsReserve_spec{d:Dev}{D:DS}{K:Int->Int->Wd->Prop}(r:RegsR w.heap g R)(q:DiskR w.heap d D)(hd:R.dev=d.p)(dis:∀ i,g.fp i->¬ d.fp i)(hs:0<=D.steps/\D.steps < 18446744073709551615)(hr:0<=R.reserved/\R.limit<=18446744073709551615)
  (k:∀ w',RegsR w'.heap g (reserveR R D).2.2.1->DiskR w'.heap d (reserveR R D).2.2.2->Ext (fun i=>i=g.rb∨i=d.b) w w'->K (reserveR R D).1 (reserveR R D).2.1 w'):C_regs_Regs_Reserve g.p w K:=by
 apply S_regs_Regs_Reserve
 refine If.no ⟨Ext No w,(Ext.refl _ _).drew,Nn.mk ⟨_,Held.cell (Cell.lst r.blk rfl),Nn.mk ⟨_,Held.cell (Cell.lst r.blk rfl),If.dec (fun h=>?_) (fun h=>?_)⟩⟩⟩
 .have e:reserveR R D=(0,90,R,D):=by unfold reserveR; rw [if_pos h]
  rw [e] at k
  exact k (drewW w) r q (Ext.refl _ _).drew
 .have rd:RegsR (drewW w).heap g R:=r
  have qd:DiskR (drewW w).heap d D:=q
  refine Nn.mk ⟨R.dev,Cell.lst rd.blk rfl,?_⟩
  rw [hd]
  refine diskStep_spec qd hs fun w1 q1 x1 z1=>?_
  have r1:=rd.ext x1 fun i hi h=>dis i hi (.inl h)
  have x1':Ext (fun i=>i=g.rb∨i=d.b) w w1:=(x1.mono fun i _ h => .inr h).drew_left
  refine If.bne (fun he=>?_) (fun he=>?_)
  .have e:reserveR R D=(0,(stepD D).1,R,(stepD D).2):=by unfold reserveR; rw [if_neg h,if_neg he]
   rw [e] at k; exact k w1 r1 q1 x1'
  .have e:reserveR R D=(R.reserved+1,0,{ R with reserved:=R.reserved+1 },(stepD D).2):=by unfold reserveR; rw [if_neg h,if_pos he]
   rw [e] at k
   refine Nn.mk ⟨_,Cell.lst r1.blk rfl,Ar.u64 (by omega) (Nn.mk (St1.mk r1.blk (by simp) rfl fun w2 hw2=>?_))⟩
   have r2:RegsR w2.heap g { R with reserved:=R.reserved+1,committed:=R.committed }:=r1.scal hw2
   have q2:=q1.ext hw2.ext fun i hi h=>dis i (.inl h) hi
   exact Nn.mk ⟨_,Cell.lst r2.blk rfl,k w2 r2 q2 (x1'.trans hw2.ext fun i _ h => .inl h)⟩
theorem regsAdvance_spec{d:Dev}{D:DS}{n:Int}{K:Int->Wd->Prop}(r:RegsR w.heap g R)(q:DiskR w.heap d D)(hd:R.dev=d.p)(dis:∀ i,g.fp i->¬ d.fp i)(hs:0<=D.steps/\D.steps < 18446744073709551615)
  (k:∀ w',RegsR w'.heap g (advanceR R D n).2.1->DiskR w'.heap d (advanceR R D n).2.2->Ext (fun i=>i=g.rb∨i=d.b) w w'->K (advanceR R D n).1 w'):C_regs_Regs_Advance g.p n w K:=by
 apply S_regs_Regs_Advance
 refine If.no ⟨fun w'=>w'=w/\¬ (n<=R.committed∨n > R.reserved),?_,?_⟩
 .have bad:(n<=R.committed∨n > R.reserved)->K 2 w:=fun h=>by
   have e:advanceR R D n=(2,R,D):=by unfold advanceR; rw [if_pos h]
   rw [e] at k; exact k w r q (Ext.refl _ _)
  exact Nn.mk ⟨_,Cell.lst r.blk rfl,If.dec (fun h=>bad (.inl h)) (fun h=>Nn.mk ⟨_,Cell.lst r.blk rfl,If.dec (fun h1=>bad (.inr h1)) (fun h1=>⟨rfl,by omega⟩)⟩)⟩
 .rintro _ w0 ⟨rfl,h⟩
  refine Nn.mk ⟨R.dev,Cell.lst r.blk rfl,?_⟩
  rw [hd]
  refine diskStep_spec q hs fun w1 q1 x1 z1=>?_
  have r1:=r.ext x1 fun i hi h=>dis i hi (.inl h)
  have x1':Ext (fun i=>i=g.rb∨i=d.b) w0 w1:=x1.mono fun i _ h => .inr h
  refine If.bne (fun he=>?_) (fun he=>?_)
  .have e:advanceR R D n=((stepD D).1,R,(stepD D).2):=by unfold advanceR; rw [if_neg h,if_neg he]
   rw [e] at k; exact k w1 r1 q1 x1'
  .have e:advanceR R D n=(0,{ R with committed:=n },(stepD D).2):=by unfold advanceR; rw [if_neg h,if_pos he]
   rw [e] at k
   refine Nn.mk (St1.mk r1.blk (by simp) rfl fun w2 hw2=>?_)
   exact k w2 (r1.scal (res:=R.reserved) hw2) (q1.ext hw2.ext fun i hi h=>dis i (.inl h) hi) (x1'.trans hw2.ext fun i _ h => .inl h)
end
end Go.Proofs.YtmbckodpbdlblaaGreat
namespace Go.V
structure Wr(h:Array Obj)(s:Sl)(cs:List Value):Prop where
 len:cs.length=s.len
 cap:s.len<=s.cap
 is:cs≠[]->∃ b pre rest T,s.a=some ⟨b,pre.length,none⟩/\h[b]? = some (.cells (pre++(cs++rest)).toArray T (0,0))
 cells:∀ v∈cs,oneC v=true
theorem Wr.rd{h:Array Obj}{s:Sl}{cs:List Value}(r:Wr h s cs):Rd h s 1 cs:=by
 refine ⟨by simpa using r.len,r.cap,fun hne=>?_,r.cells⟩
 obtain ⟨b,pre,rest,T,ha,hb⟩:=r.is hne
 refine ⟨b,pre.length,ha,fun i hi=>?_⟩
 unfold hcell; rw [hb]
 simp only [List.getElem?_toArray]
 rw [List.getElem?_append_right (by omega),Nat.add_sub_cancel_left,List.getElem?_append_left hi,List.getElem?_eq_getElem hi]
theorem Wr.ext{S:Nat->Prop}{w w':Wd}{s:Sl}{cs:List Value}(r:Wr w.heap s cs)(x:Ext S w w')(hS:∀ b,s.blk=some b->¬ S b):Wr w'.heap s cs:=by
 refine ⟨r.len,r.cap,fun hne=>?_,r.cells⟩
 obtain ⟨b,pre,rest,T,ha,hb⟩:=r.is hne
 obtain ⟨hlt,_⟩:=Array.getElem?_eq_some_iff.1 hb
 exact ⟨b,pre,rest,T,ha,by rw [x.blk b hlt (hS b (by simp [Sl.blk,ha]))]; exact hb⟩
theorem Own.wr{h:Array Obj}{base:Nat}{e:TypeId}{s:Sl}{cs:List Value}(o:Own h base e 1 s cs):Wr h s cs:=by
 refine ⟨by simpa using o.len,o.rd.cap,fun hne=>?_,o.cells⟩
 obtain ⟨b,rest,ha,_,hb,_⟩:=o.place hne
 exact ⟨b,[],rest,e,ha,hb⟩
theorem Wr.take{h:Array Obj}{s:Sl}{cs:List Value}(r:Wr h s cs){n m:Nat}(hn:n<=s.len)(hm:n<=m):Wr h ⟨s.a,n,m⟩ (cs.take n):=by
 refine ⟨by rw [List.length_take,r.len]; exact Nat.min_eq_left hn,hm,fun hne=>?_,fun v hv=>r.cells v (List.mem_of_mem_take hv)⟩
 obtain ⟨b,pre,rest,T,ha,hb⟩:=r.is (by intro e; subst e; simp at hne)
 refine ⟨b,pre,cs.drop n++rest,T,ha,?_⟩
 rw [<- List.append_assoc (cs.take n),List.take_append_drop]; exact hb
end Go.V
namespace Go.Proofs.YtmbckodpbdlblaaGreat
open Go.V Go.V.Dk
section
variable {w w':Wd} {g:Rgs} {R:RS}
theorem regsDraw_spec{size:Int}{K:Sl->Int->Wd->Prop}(r:RegsR w.heap g R)(k2:¬ (1<=size/\size<=64)->K ⟨none,0,0⟩ 2 w)(k9:1<=size/\size<=64->R.draws=[]->K ⟨none,0,0⟩ 91 w)
  (k91:∀ l ls,1<=size/\size<=64->R.draws=l::ls->(l.length:Int) < size->K ⟨none,0,0⟩ 91 w)
  (k:∀ l ls s g' w',1<=size/\size<=64->R.draws=l::ls->size<=(l.length:Int)->Wr w'.heap s ((l.take size.toNat).map (Value.int .u8))->RegsR w'.heap g' { R with draws:=ls }->g'.rb=g.rb->(∀ i,g'.fp i->g.fp i)->(∀ i,s.blk=some i->g.fp i/\¬ g'.fp i) ->
   Ext (·=g.rb) w w'->w'.heap.size=w.heap.size->K s 0 w'):C_regs_Regs_Draw g.p size w K:=by
 apply S_regs_Regs_Draw
 have hlen:=r.len
 have hn:=r.n
 refine If.no ⟨fun w'=>w'=w/\1<=size/\size<=64,If.dec (fun h=>k2 (by omega)) (fun h=>If.dec (fun h1=>k2 (by omega)) (fun h1=>⟨rfl,by omega,by omega⟩)),?_⟩
 rintro _ w1 ⟨rfl,hsz⟩
 cases hd:R.draws with
 | nil =>
  refine ⟨fun _=>False,?_,fun _ _ h=>h.elim⟩
  rw [hd] at hlen
  exact Nn.mk ⟨g.sd,Cell.lst r.blk rfl,If.beq (fun _=>k9 hsz hd) (fun h=>by simp at hlen; omega)⟩
 | cons l ls =>
  rw [hd] at hlen hn
  simp only [List.length_cons] at hlen hn
  have hins:0 < g.ins.length:=by omega
  obtain ⟨rb,sd,ins⟩:=g
  cases ins with
  | nil=>simp at hins
  | cons s0 ins =>
  simp only at *
  have hn':ins.length=ls.length:=by simp only [List.length_cons] at hn; omega
  have inner0:=r.inner 0 (by simp) (by rw [hd]; simp)
  simp only [List.getElem_cons_zero] at inner0
  have e0:R.draws[0]'(by rw [hd]; simp)=l:=by simp [hd]
  rw [e0] at inner0
  have l0:s0.len=l.length:=RdB.len inner0.rd
  have hix:∀{K:Addr->Prop},(∀ b o,Cell w1 ⟨b,o,none⟩ s0.v->K ⟨b,o,none⟩)->Ix sd.a sd.len 0 1 K:=fun kk =>
   Ix.elem r.outer slC_len (by decide) (by omega) (by omega) fun b o hi hb hc=>kk b o (by have:=hc 0 s0.v (by simp [slC]); simpa using this)
  refine ⟨fun w'=>w'=w1/\size<=(l.length:Int),?_,?_⟩
  .refine Nn.mk ⟨sd,Cell.lst r.blk rfl,If.beq (fun h=>by omega) (fun _=>Nn.mk ⟨sd,Cell.lst r.blk rfl,hix fun b o hc=>⟨s0,hc,If.dec (fun h=>k91 l ls hsz hd (by omega)) (fun h=>⟨rfl,by omega⟩)⟩⟩)⟩
  .rintro _ w2 ⟨rfl,hle⟩
   refine Nn.mk ⟨sd,Cell.lst r.blk rfl,hix fun b o hc=>⟨s0,hc,Cut.mk (by omega) (by omega) (by omega) (by have:=inner0.rd.cap; omega) ?_⟩⟩
   have ea:cutA s0.a size.toNat (0:Int).toNat 1=s0.a:=by
    unfold cutA; split
    .rfl
    .cases s0.a with
     | none=>rfl
     | some a=>simp; rfl
   rw [ea]
   have hcapd:=r.outer.cap
   simp only at hcapd
   refine Nn.mk ⟨sd,Cell.lst r.blk rfl,Cut.mk (by omega) (by omega) (by omega) (by omega) ?_⟩
   have cut:=Rd.cut r.outer (lo:=1) (hi:=sd.len) (mx:=sd.cap) (by omega) (Nat.le_refl _) hcapd
   have ec:(((s0::ins).flatMap slC).drop (1 * 1)).take ((sd.len - 1) * 1)=ins.flatMap slC:=by
    have:((s0::ins).flatMap slC).drop (1 * 1)=ins.flatMap slC:=by simp [slC]
    rw [this]
    exact List.take_of_length_le (by rw [flat_len' slC_len]; omega)
   rw [ec] at cut
   have e1:((sd.len:Int) - 1).toNat=sd.len - 1:=by omega
   have e2:((sd.cap:Int) - 1).toNat=sd.cap - 1:=by omega
   have e3:((sd.cap:Int)).toNat=sd.cap:=by omega
   have e4:(1:Int).toNat=1:=rfl
   rw [e1,e2,e3,e4]
   have hblk:∀ i,(⟨cutA sd.a sd.cap 1 1,sd.len - 1,sd.cap - 1⟩ : Sl).blk=some i->sd.blk=some i:=fun i hi=>by
    simp only [Sl.blk,cutA] at hi ⊢
    split at hi
    .exact hi
    .cases ha:sd.a with
     | none=>rw [ha] at hi; simp at hi
     | some a =>
      rw [ha] at hi
      simp only [Option.map_some,Option.some.injEq] at hi ⊢
      rw [<- hi]; rfl
   generalize (⟨cutA sd.a sd.cap 1 1,sd.len - 1,sd.cap - 1⟩ : Sl)=sd' at *
   refine Nn.mk (St1.mk r.blk (by simp) rfl fun w3 hw3=>?_)
   have nb0:∀ i,s0.blk=some i->i≠rb:=fun i hi=>(r.n2 s0 List.mem_cons_self i hi).1
   have pw:=r.n3
   simp only [List.pairwise_cons] at pw
   have hsub:∀ i,(⟨rb,sd',ins⟩ : Rgs).fp i->(⟨rb,sd,s0::ins⟩ : Rgs).fp i:=fun i hi=>by
    rcases hi with h | h | ⟨s,hs,h⟩
    .exact .inl h
    .exact .inr (.inl (hblk i h))
    .exact .inr (.inr ⟨s,List.mem_cons_of_mem _ hs,h⟩)
   refine k l ls ⟨s0.a,(size - 0).toNat,(size - 0).toNat⟩ ⟨rb,sd',ins⟩ w3 hsz hd hle ?_ ?_ rfl hsub (fun i hi=>?_) hw3.ext hw3.size
   .have wr:=((inner0.wr).take (n:=size.toNat) (m:=size.toNat) (by omega) (Nat.le_refl _)).ext hw3.ext fun i hi h=>nb0 i hi h
    rw [show (size - 0).toNat=size.toNat by omega,List.map_take]; exact wr
   .refine ⟨hw3.get r.blk,cut.ext hw3.ext fun a b ha hb h=>r.n1 (hblk _ (by simp [Sl.blk,ha,hb]; exact h)),fun i hi=>by rw [hw3.size]; exact r.old i (hblk i hi),by simp only; omega,fun j h1 h2=>?_,fun x hx=>r.b8 x (by rw [hd]; exact List.mem_cons_of_mem _ hx),fun h=>r.n1 (hblk _ h),fun s hs i hi=>⟨(r.n2 s (List.mem_cons_of_mem _ hs) i hi).1,fun h=>(r.n2 s (List.mem_cons_of_mem _ hs) i hi).2 (hblk _ h)⟩,pw.2⟩
    have inn:=r.inner (j+1) (by simpa using h1) (by rw [hd]; simpa using h2)
    simp only [List.getElem_cons_succ,hd] at inn
    exact inn.ext hw3.ext fun i hi h=>(r.n2 _ (List.mem_cons_of_mem _ (List.getElem_mem h1)) i hi).1 h
   .have hi':s0.blk=some i:=hi
    refine ⟨.inr (.inr ⟨s0,List.mem_cons_self,hi'⟩),fun h=>?_⟩
    rcases h with h | h | ⟨s,hs,h⟩
    .exact nb0 i hi' h
    .exact (r.n2 s0 List.mem_cons_self i hi').2 (hblk i h)
    .exact pw.1 s hs i hi' h
structure RdL(h:Array Obj)(s:Sl)(L:List (List Int)):Prop where
 ex:∃ ins:List Sl,Rd h s 1 (ins.flatMap slC)/\ins.length=L.length/\∀ j (h1:j < ins.length) (h2:j < L.length),RdB h ins[j] L[j]
 b8:∀ l∈L,B8 l
theorem RdL.len{h:Array Obj}{s:Sl}{L:List (List Int)}(r:RdL h s L):s.len=L.length:=by
 obtain ⟨ins,h1,h2,_⟩:=r.ex
 have:=h1.len; rw [flat_len' slC_len] at this; omega
theorem regsNew_spec{p:Addr}{limit:Int}{draws:Sl}{L:List (List Int)}{K:Option Addr->Int->Wd->Prop}(hL:RdL w.heap draws L)(hn:L.length<=4294967296)(hl:∀ l∈L,l.length<=140737488355328)
  (k:∀ g w',RegsR w'.heap g ⟨some p,limit,0,0,L⟩->(∀ i,g.fp i->w.heap.size<=i)->Ext No w w'->K g.p 0 w'):C_regs_New (some p) limit draws w K:=by
 apply S_regs_New
 have hdl:=hL.len
 obtain ⟨ins0,ho,hi0,hin⟩:=hL.ex
 refine If.no fun b w1 new=>?_
 have ab:=new.at_
 have zb:=new.size
 refine ⟨fun m t w2=>∃ (j:Nat) (sd:Sl) (ins:List Sl),t=j/\m=L.length - j/\j<=L.length/\RegsR w2.heap ⟨b,sd,ins⟩ ⟨some p,limit,0,0,L.take j⟩/\Own w2.heap 0 T_sl_uint8 1 sd (ins.flatMap slC)/\(∀ i,(⟨b,sd,ins⟩ : Rgs).fp i->w.heap.size<=i)/\Ext No w w2,
  ⟨_,0,⟨none,0,0⟩,[],rfl,rfl,Nat.zero_le _,?_,Own.nil _ _ _ _,fun i hi=>?_,new.ext⟩,?_⟩
 .exact ⟨new.get,Rd.nil _ _,fun i hi=>by simp [Sl.blk] at hi,by simp,fun j h1=>by simp at h1,fun l hl=>by simp at hl,by simp [Sl.blk],fun s hs=>by simp at hs,List.Pairwise.nil⟩
 .rcases hi with h | h | ⟨s,hs,_⟩
  .simp only at h; omega
  .simp [Sl.blk] at h
  .simp at hs
 .rintro _ m t w2 ⟨j,sd,ins,rfl,rfl,hj,r2,own2,fp2,x2⟩
  refine If.dec (fun hlt=>?_) (fun hge=>?_)
  .have hj':j < L.length:=by omega
   have hlin:=r2.n
   simp only [List.length_take] at hlin
   have hinj:=hin j (by omega) hj'
   refine Ix.elem (ho.no x2) slC_len (by decide) (by omega) hlt fun bb o hi hb hc=>⟨ins0[j]'(by omega),by have:=hc 0 (ins0[j]'(by omega)).v (by simp [slC]); simpa using this,?_⟩
   have hlj:=hl _ (List.getElem_mem hj')
   have hbj:=hL.b8 _ (List.getElem_mem hj')
   generalize ins0[j]'(by omega)=vv at *
   generalize hLj:L[j]=lj at *
   have lvv:vv.len=lj.length:=RdB.len hinj
   have r2d:RegsR (drewW w2).heap ⟨b,sd,ins⟩ ⟨some p,limit,0,0,L.take j⟩:=r2
   refine ⟨Ext (fun i=>sd.blk=some i) w2,(Ext.refl _ _).drew,Nn.mk ⟨sd,Held.but (Cell.lst r2.blk rfl) r2.n1,fun b1 w3 n3=>⟨(Ext.refl _ _).drew.no n3.ext,?_⟩⟩⟩
   have own0:=Own.new (sz:=1) (n:=0) n3 rfl (by simp)
   have ed:(drewW w2).heap.size=w2.heap.size:=rfl
   have z3:=n3.size
   refine app_uint8 own0 (by omega) ((hinj.no x2).no ((Ext.refl No w2).drew.no n3.ext)).src (by simp only; omega) fun s4 w4 o4 len4 x4 blk4=>?_
   have x24:Ext No w2 w4:=((Ext.refl No w2).drew.no n3.ext).trans x4 fun i hi h=>by have:=(own0.lt h).1; omega
   refine ⟨x24.of_no,fun b2 w5 n5=>⟨(x24.no n5.ext).of_no,?_⟩⟩
   have x25:=x24.no n5.ext
   have z5:=x25.size
   have own2':=own2.no x25
   have hsd:sd.len=ins.length:=by have:=own2.len; rw [flat_len' slC_len] at this; omega
   refine app_sl_uint8 own2' (Nat.zero_le _) ((Own.new (sz:=1) (n:=1) n5 rfl (by simp [oneC])).rd.src) (by simp only; omega) fun s6 w6 o6 len6 x6 blk6=>?_
   have x26:Ext (fun i=>sd.blk=some i) w2 w6:=x25.of_no.trans x6 fun _ _ h=>h
   refine ⟨x26,Nn.mk ?_⟩
   have z24:=x24.size
   have o4':Own w4.heap 0 T_uint8 1 s4 (lj.map (Value.int .u8)):=by simpa using o4.mono (Nat.zero_le _)
   have f4:∀ i,s4.blk=some i->w2.heap.size<=i/\i < w4.heap.size:=fun i hi=>⟨by have:=(o4.lt hi).1; omega,(o4.lt hi).2⟩
   have lt2:∀ i,(⟨b,sd,ins⟩ : Rgs).fp i->i < w2.heap.size:=fun i hi=>r2.lt hi
   have fresh:∀ i,s6.blk=some i->sd.blk=some i∨w5.heap.size<=i:=fun i hi=>by
    rcases blk6 with h | ⟨i',h,hge⟩
    .exact .inl (by rw [<- h]; exact hi)
    .rw [hi] at h; cases h; exact .inr hge
   have b6:w6.heap[b]? = some (.cells (regsC ⟨some p,limit,0,0,L.take j⟩ sd).toArray T_regs_Regs (0,0)):=by
    rw [x26.blk _ (blt r2.blk) r2.n1]; exact r2.blk
   refine St1.mk b6 (by simp) rfl fun w7 hw7=>Ar.i64 (by omega) ⟨_,?_,j+1,s6,ins++[s4],by omega,rfl,by omega,?_,?_,fun i hi=>?_,?_⟩
   .omega
   .have n1:s6.blk≠some b:=fun h=>by
     rcases fresh b h with h | h
     .exact r2.n1 h
     .have:=lt2 b (.inl rfl); omega
    have ln5:w4.heap.size < w5.heap.size:=by rw [n5.size]; omega
    have n4b:∀ i,s4.blk=some i->i≠b:=fun i hi h=>by have:=(f4 i hi).1; have:=lt2 b (.inl rfl); omega
    refine ⟨hw7.get b6,?_,fun i hi=>?_,by simp only [List.length_append,List.length_singleton,List.length_take]; omega,fun q h1 h2=>?_,fun l hl=>hL.b8 l (List.mem_of_mem_take hl),n1,fun s hs i hi=>?_,?_⟩
    .have:=(o6.ext hw7.ext fun i hi h=>n1 (by rw [hi,h])).rd
     rw [List.flatMap_append,List.flatMap_singleton]; exact this
    .rw [hw7.size]; exact (o6.lt hi).2
    .by_cases hq:q < ins.length
     .have e1:(ins++[s4])[q]=ins[q]:=List.getElem_append_left hq
      have e2:(L.take (j+1))[q]=(L.take j)[q]'(by rw [List.length_take]; omega):=by simp
      simp only [e1,e2]
      exact ((r2.inner q hq (by simp only [List.length_take]; omega)).ext x26 fun i hi h=>(r2.n2 _ (List.getElem_mem hq) i hi).2 h).ext hw7.ext fun i hi h=>(r2.n2 _ (List.getElem_mem hq) i hi).1 h
     .have hq2:q=j:=by simp only [List.length_append,List.length_singleton] at h1; omega
      subst hq2
      have e1:(ins++[s4])[q]=s4:=by rw [List.getElem_append_right (by omega)]; simp
      have e2:(L.take (q+1))[q]=lj:=by simp [hLj]
      simp only [e1,e2]
      exact ((o4'.no n5.ext).ext x6 fun i hi h=>by have:=(f4 i hi).1; have:=lt2 i (.inr (.inl h)); omega).ext hw7.ext fun i hi h=>n4b i hi h
    .rcases List.mem_append.1 hs with hs | hs
     .refine ⟨(r2.n2 s hs i hi).1,fun h=>?_⟩
      rcases fresh i h with h | h
      .exact (r2.n2 s hs i hi).2 h
      .have:=lt2 i (.inr (.inr ⟨s,hs,hi⟩)); omega
     .simp at hs; subst hs
      refine ⟨n4b i hi,fun h=>?_⟩
      rcases fresh i h with h | h
      .have:=(f4 i hi).1; have:=lt2 i (.inr (.inl h)); omega
      .have:=(f4 i hi).2; omega
    .rw [List.pairwise_append]
     refine ⟨r2.n3,by simp,fun s hs t ht i hi h=>?_⟩
     simp at ht; subst ht
     have:=(f4 i h).1; have:=lt2 i (.inr (.inr ⟨s,hs,hi⟩)); omega
   .have n1:s6.blk≠some b:=fun h=>by
     rcases fresh b h with h | h
     .exact r2.n1 h
     .have:=lt2 b (.inl rfl); omega
    have:=o6.ext hw7.ext fun i hi h=>n1 (by rw [hi,h])
    rw [List.flatMap_append,List.flatMap_singleton]; exact this
   .have z2:=x2.size
    rcases hi with h | h | ⟨s,hs,h⟩
    .exact fp2 i (.inl h)
    .rcases fresh i h with h | h
     .exact fp2 i (.inr (.inl h))
     .omega
    .rcases List.mem_append.1 hs with hs | hs
     .exact fp2 i (.inr (.inr ⟨s,hs,h⟩))
     .simp at hs; subst hs; have:=(f4 i h).1; omega
   .exact (x2.trans x26 fun i hi h=>by have:=fp2 i (.inr (.inl h)); omega).trans hw7.ext fun i hi h=>by
     have h':i=b:=h
     have:=fp2 b (.inl rfl); omega
  .have ej:j=L.length:=by omega
   have:L.take j=L:=List.take_of_length_le (by omega)
   rw [this] at r2
   exact k _ w2 r2 fp2 x2
end
structure MP where
 cm:Int
 pg:Int
 rc:Int
 gn:Int
 lv:Int
 rg:Int
 tn:Int
structure MP.OK(m:MP):Prop where
 cm:1<=m.cm/\m.cm<=18446744073709551615
 pg:0<=m.pg/\m.pg<=4294967295
 rc:U64 m.rc
 gn:0<=m.gn/\m.gn<=65535
 lv:m.lv=0
 rg:0<=m.rg/\m.rg<=65535
 tn:0<=m.tn/\m.tn<=4294967295
abbrev MP.c(m:MP):List Value:=[.int .u64 m.cm, .int .u32 m.pg, .int .u64 m.rc, .int .u16 m.gn, .int .u8 m.lv, .int .u16 m.rg, .int .u32 m.tn]
abbrev MP.ns(m:MP):List NS:=[⟨m.cm,8⟩,⟨m.pg,4⟩,⟨m.rc,8⟩,⟨m.gn,2⟩,⟨m.lv,1⟩,⟨m.rg,2⟩,⟨m.tn,4⟩]
theorem MP.OK.ns{m:MP}(h:m.OK):∀ p∈m.ns,p.OK:=by
 obtain ⟨h1,h2,h3,h4,h5,h6,h7⟩:=h
 have u1:U64 m.cm:=⟨by omega,by omega⟩
 intro p hp
 simp only [MP.ns,List.mem_cons,List.not_mem_nil,or_false] at hp
 rcases hp with rfl | rfl | rfl | rfl | rfl | rfl | rfl
 .exact ⟨u1.1,u64B u1,by simp,by simp⟩
 .exact ⟨h2.1,by show m.pg < (256:Int) ^ 4; omega,by simp,by simp⟩
 .exact ⟨h3.1,u64B h3,by simp,by simp⟩
 .exact ⟨h4.1,by show m.gn < (256:Int) ^ 2; omega,by simp,by simp⟩
 .exact ⟨by show 0<=m.lv; omega,by show m.lv < (256:Int) ^ 1; omega,by simp,by simp⟩
 .exact ⟨h6.1,by show m.rg < (256:Int) ^ 2; omega,by simp,by simp⟩
 .exact ⟨h7.1,by show m.tn < (256:Int) ^ 4; omega,by simp,by simp⟩
section
variable {w w':Wd} {m:MP}
theorem metaRight_spec{K:Int->Wd->Prop}(ok:m.OK)(k:∀ w',Ext No w w'->K 0 w'):C_meta_Right m.cm m.pg m.rc m.gn m.lv m.rg m.tn w K:=by
 apply S_meta_Right
 refine fun b w1 n1=>NewSt rfl rfl (oneL rfl) fun w3 g3 z3 x3=>?_
 have g1:w3.heap[b]? = some (.cells m.c.toArray 40 (0,0)):=(x3.blk b (hlt n1.get) fun h=>h).trans n1.get
 have x:=n1.ext.no x3
 refine ⟨m.cm,Cell.lst g1 rfl,If.beq (fun h=>by have:=ok.cm; omega) fun _=>⟨m.lv,Cell.lst g1 rfl,If.dec (fun h=>by have:=ok.lv; omega) fun _=>⟨_,Cell.lst g1 rfl,_,Cell.lst g1 rfl,_,Cell.lst g1 rfl,_,Cell.lst g3 rfl,_,Cell.lst g3 rfl,_,Cell.lst g3 rfl,If.cases (fun _=>⟨m.lv,Cell.lst g1 rfl,If.bne (fun h=>absurd ok.lv h) fun _=>k w3 x⟩) fun _=>k w3 x⟩⟩⟩
abbrev NS.c2(p:NS):List Value:=[.int .u64 p.n, .int .i64 (p.z:Int)]
theorem metaEncode_spec{K:Sl->Int->Wd->Prop}(ok:m.OK)(k:∀ s l w',OwnB w'.heap w.heap.size s l->l.length=224->B8 l->Ext No w w'->K s 0 w'):C_meta_Encode m.cm m.pg m.rc m.gn m.lv m.rg m.tn w K:=by
 apply S_meta_Encode
 refine fun b w1 n1=>?_
 have g1:w1.heap[b]? = some (.cells m.c.toArray 40 (0,0)):=n1.get
 refine ⟨_,Cell.lst g1 rfl,_,Cell.lst g1 rfl,_,Cell.lst g1 rfl,_,Cell.lst g1 rfl,_,Cell.lst g1 rfl,_,Cell.lst g1 rfl,_,Cell.lst g1 rfl,metaRight_spec ok fun w2 x2=>If.bne (fun h=>absurd rfl h) fun _=>?_⟩
 have g2:w2.heap[b]? = some (.cells m.c.toArray 40 (0,0)):=(x2.blk b (hlt g1) fun h=>h).trans g1
 refine ⟨_,Cell.lst g2 rfl,_,Cell.lst g2 rfl,_,Cell.lst g2 rfl,NewSt rfl rfl (oneL rfl) fun w4 g4 z4 x4=>?_⟩
 have g5:w4.heap[b]? = some (.cells m.c.toArray 40 (0,0)):=(x4.blk b (hlt g2) fun h=>h).trans g2
 obtain ⟨h1,h2,h3,h4,h5,h6,h7⟩:=id ok
 refine ⟨_,Cell.lst g5 rfl,_,Cell.lst g4 rfl,Ar.u64 (by omega) ⟨_,Cell.lst g4 rfl,_,Cell.lst g4 rfl,Ar.u64 (by omega) ⟨_,Cell.lst g5 rfl,Ar.u64 (by omega) ⟨_,Cell.lst g5 rfl,Ar.u64 (by omega) ⟨_,Cell.lst g5 rfl,Ar.u64 (by omega) fun b2 w5 n5=>?_⟩⟩⟩⟩⟩
 have own:Own w5.heap w4.heap.size 529 2 ⟨some ⟨b2,0,none⟩,7,7⟩ (m.ns.flatMap NS.c2):=Own.new (n:=7) n5 rfl (oneL rfl)
 have x5:Ext No w w5:=((n1.ext.no x2).no x4).no n5.ext
 refine ⟨fun q s t u=>∃ i:Nat,t=(i:Int)/\i<=7/\q=7 - i/\Ext No w u/\Ext No w5 u/\OwnB u.heap w5.heap.size s ((m.ns.take i).flatMap NS.b),⟨_,0,rfl,by omega,rfl,x5,Ext.refl _ _,Own.nil _ _ _ _⟩,?_⟩
 rintro _ q s t w6 ⟨i,rfl,hi,rfl,x6,y6,o6⟩
 have lb:∀ i,i<=7->((m.ns.take i).flatMap NS.b).length<=224:=fun i hi=>by
  have:i=0∨i=1∨i=2∨i=3∨i=4∨i=5∨i=6∨i=7:=by omega
  rcases this with rfl | rfl | rfl | rfl | rfl | rfl | rfl | rfl <;> simp [be_len]
 have hs:s.len<=224:=by rw [OwnB.len o6]; exact lb i hi
 have hz6:=y6.size
 have hz5:=x5.size
 refine If.dec (fun h=>?_) fun h=>?_
 .have hi':i < m.ns.length:=by show i < 7; omega
  refine Ix.elem (s:=⟨some ⟨b2,0,none⟩,7,7⟩) (f:=NS.c2) (l:=m.ns) ((own.no y6).rd) (fun _ _=>rfl) (by decide) (by omega) h fun bb o hi2 _ hc=>?_
  have hp:=ok.ns _ (List.getElem_mem hi')
  refine ⟨(m.ns[i]).n,hc 0 _ rfl,((m.ns[i]).z:Int),hc 1 _ rfl,NewSt rfl rfl (oneL rfl) fun w8 g8 z8 x8=>⟨_,Cell.lst g8 rfl,_,Cell.lst g8 rfl,put_spec hp.1 (by have:=hp.2.2.1; omega) (by have:=hp.2.2.2; omega) (by rw [Int.toNat_natCast]; exact hp.2.1) fun s9 w9 o9 x9=>?_⟩⟩
  rw [Int.toNat_natCast] at o9
  have x69:=x8.no x9
  have hz9:=x69.size
  have hs9:s9.len<=8:=by rw [OwnB.len o9,be_len]; exact hp.2.2.2
  refine app_uint8 (o6.no x69) (by omega) o9.rd.src (by omega) fun s10 w10 o10 _ x10 _=>Ar.i64 (by omega) ⟨7 - (i+1),by omega,i+1,by omega,by omega,rfl,?_,?_,?_⟩
  .exact (x6.no x69).trans x10 fun j hj e=>by have:=(o6.lt e).1; omega
  .refine (y6.no x69).trans x10 fun j hj e=>?_
   have:=(o6.lt e).1; omega
  .rw [<- List.map_append] at o10
   rw [List.take_succ_eq_append_getElem hi',List.flatMap_append,List.flatMap_cons,List.flatMap_nil,List.append_nil]
   exact o10
 .have:i=7:=by omega
  subst this
  refine Ar.i64 (by omega) ?_
  have e:(224:Int) - (s.len:Int)=((224 - s.len:Nat):Int):=by omega
  rw [e]
  refine app_zero (k := .i64) (ie:=Tryz.t5) (z := .int .u8 0) (by kernel_rfl) (by kernel_rfl) (by kernel_rfl) (by kernel_rfl) (by kernel_rfl) (by kernel_rfl) rfl (by kernel_rfl) o6 hz6 (by omega) fun s' w' o _ x _=>?_
  rw [<- List.map_replicate,<- List.map_append] at o
  have hl:=OwnB.len o6
  refine k s' _ w' (o.mono hz5) ?_ ?_ (x6.trans x fun j hj e=>by have:=(o6.lt e).1; omega)
  .rw [List.length_append,List.length_replicate]; omega
  .refine B8.append ?_ (B8.zeros _)
   intro x hx
   obtain ⟨p,_,hp⟩:=List.mem_flatMap.1 hx
   exact be_b8 _ _ x hp
abbrev MP.lab(m:MP):Lab:=⟨0,4,0,m.cm % 2,m.cm,m.rg⟩
theorem MP.OK.lab(ok:m.OK):m.lab.OK:=by
 have h1:=ok.cm; have h6:=ok.rg
 simp only [Lab.OK,U64]; omega
theorem labelOf_spec{K:Int->Int->Int->Int->Int->Int->Wd->Prop}(ok:m.OK)(k:∀ w',Ext No w w'->K m.lab.t m.lab.kd m.lab.lv m.lab.pg m.lab.cm m.lab.gn w'):C_meta_LabelOf m.cm m.pg m.rc m.gn m.lv m.rg m.tn w K:=by
 apply S_meta_LabelOf
 refine fun b w1 n1 b1 w2 n2=>?_
 have g1:w2.heap[b]? = some (.cells m.c.toArray 40 (0,0)):=(n2.ext.blk b (hlt n1.get) fun h=>h).trans n1.get
 have h1:=ok.cm
 refine ⟨m.cm,Cell.lst g1 rfl,by decide,Nm.as (tmod_nat (by omega)) (Ar.u32 (by omega) ⟨m.cm,Cell.lst g1 rfl,m.rg,Cell.lst g1 rfl,rfl,StN.mk n2.get (Nat.le_refl 6) (oneL rfl) fun w3 h3=>?_⟩)⟩
 have g3:=h3.get n2.get
 have hb:=n2.at_
 have x3:Ext No w w3:=(n1.ext.no n2.ext).out h3.ext (by have:=n1.size; omega)
 exact ⟨_,Cell.lst g3 rfl,_,Cell.lst g3 rfl,_,Cell.lst g3 rfl,_,Cell.lst g3 rfl,_,Cell.lst g3 rfl,_,Cell.lst g3 rfl,k w3 x3⟩
theorem metaSeal_spec{rb mb lb:Nat}{ks:List RK}{q:RK}{ls:Sl}{L:List LE}{K:Sl->Int->Wd->Prop}(ok:m.OK)(R:RingR w rb mb ks)(hf:ringF ks ⟨0,m.rg⟩=some q)(G:LogR w.heap lb ls L)(hL:L.length<=1000)
  (k:∀ s r pl ls' w',OwnB w'.heap w.heap.size s (magic++r)->r.length=252->B8 r->LogR w'.heap lb ls' (L++[⟨m.lab,q.l,pl,magic++r⟩])->(∀ i,ls'.blk=some i->ls.blk=some i∨w.heap.size<=i)->(∀ i,s.blk=some i->ls'.blk≠some i)->Ext (fun i=>i=lb∨ls.blk=some i) w w'->K s 0 w'):C_meta_Seal (some ⟨rb,0,none⟩) (some ⟨lb,0,none⟩) m.cm m.pg m.rc m.gn m.lv m.rg m.tn w K:=by
 apply S_meta_Seal
 refine fun b w1 n1=>⟨fun u=>w1=u,If.no (If.no rfl),?_⟩
 rintro _ _ rfl
 have g1:w1.heap[b]? = some (.cells m.c.toArray 40 (0,0)):=n1.get
 refine ⟨_,Cell.lst g1 rfl,_,Cell.lst g1 rfl,_,Cell.lst g1 rfl,_,Cell.lst g1 rfl,_,Cell.lst g1 rfl,_,Cell.lst g1 rfl,_,Cell.lst g1 rfl,metaEncode_spec ok fun s3 l3 w3 o3 hl3 hB3 x3=>If.bne (fun h=>absurd rfl h) fun _=>?_⟩
 have g3:w3.heap[b]? = some (.cells m.c.toArray 40 (0,0)):=(x3.blk b (hlt g1) fun h=>h).trans g1
 have x03:=n1.ext.no x3
 refine ⟨m.rg,Cell.lst g3 rfl,ringKey_spec (R.no x03) hf fun s4 w4 o4 x4=>If.bne (fun h=>absurd rfl h) fun _=>?_⟩
 have g4:w4.heap[b]? = some (.cells m.c.toArray 40 (0,0)):=(x4.blk b (hlt g3) fun h=>h).trans g3
 refine ⟨_,Cell.lst g4 rfl,_,Cell.lst g4 rfl,_,Cell.lst g4 rfl,_,Cell.lst g4 rfl,_,Cell.lst g4 rfl,_,Cell.lst g4 rfl,_,Cell.lst g4 rfl,labelOf_spec ok fun w5 x5=>?_⟩
 have x04:=x03.no x4
 have x05:=x04.no x5
 have hq:=R.key q (List.mem_of_find?_eq_some hf)
 have z1:=n1.ext.size; have z3:=x03.size; have z4:=x04.size; have z5:=x05.size
 have hls:∀ i,ls.blk=some i->i < w.heap.size:=fun i hi=>(G.own.lt hi).2
 refine logSeal_spec (l:=m.lab) (G.no x05) hL ok.lab ⟨by show (1:Int)<=4; decide,by show (4:Int)<=4; decide⟩ (o4.rd.no x5) hq.2.1 (by rw [OwnB.len o4,<- RdB.len hq.1]; exact hq.2.2) (o3.rd.no (x4.no x5)) (by rw [OwnB.len o3]; exact hl3) (fun i hi e=>?_) (fun i hi e=>?_) fun s r ls' w6 o6 hr hB G6 hl6 hs6 x6=>k s r l3 ls' w6 (o6.mono z5) hr hB G6 (fun i hi=>(hl6 i hi).imp id fun h=>by omega) hs6 (x05.of_no.trans x6 fun i _ h=>h)
 .have:=hls i e; have:=(o4.lt hi).1; omega
 .have:=hls i e; have:=(o3.lt hi).1; omega
end
end Go.Proofs.YtmbckodpbdlblaaGreat
namespace Go.Proofs.YtmbckodpbdlblaaGreat
open Go.V Go.V.Dk
section
variable {w:Wd} {d:Dev} {D:DS}
theorem rowCut{s b:Sl}{l:List (List Int)}{i at_:Int}{bs:List Int}{K:Wd->Prop}(o1:Own w.heap 0 145 256 s (l.flatMap blkC))(rows:∀ x∈l,Row x)(hi:0<=i/\i.toNat < l.length)(hb:RdB w.heap b bs)(hat:0<=at_/\at_ < 256)(hle:at_+bs.length<=256)
  (k:∀ w',Own w'.heap 0 145 256 s ((l.set i.toNat (splice (l.getD i.toNat []) at_.toNat bs)).flatMap blkC)->Ext (fun j=>s.blk=some j) w w'->w'.heap.size=w.heap.size->K w') :
  Ix s.a s.len i 256 fun a=>Cut ⟨some a,256,256⟩ at_ (((256:Nat):Int)) (((256:Nat):Int)) 1 fun s1=>CopyW pz 22 22 s1 (.slice b.a b.len b.cap) (fun _ w3=>K w3) w:=by
 have fl:=flat_len' (blkC_len rows)
 have hlt:i.toNat * 256+256<=(l.flatMap blkC).length:=by rw [fl]; omega
 have hsl:s.len=l.length:=by have:=o1.len; rw [fl] at this; omega
 obtain ⟨bf,rest,ha,hba,hbk,hc,hcap⟩:=o1.place (by intro h; rw [h] at hlt; simp at hlt)
 refine ⟨_,ha,hi.1,by omega,?_⟩
 rw [show (⟨bf,0,none⟩ : Addr).add (i.toNat * 256)=⟨bf,i.toNat * 256,none⟩ by rw [addr_add_none rfl]; simp]
 rw [show at_=((at_.toNat:Nat):Int) by omega]
 refine Cut.from (b:=bf) (off:=i.toNat * 256) (n:=256) (lo:=at_.toNat) (hi:=256) (by omega) (by omega) (by omega) ?_
 have hbl:=RdB.len hb
 refine copy_uint8 rfl hbk hb (by rw [List.length_append]; simp only; omega) fun w5 hw5=>?_
 have et:(bs.map (Value.int .u8)).take (min b.len (256 - at_.toNat) * 1)=bs.map (Value.int .u8):=List.take_of_length_le (by rw [List.length_map]; omega)
 simp only [et] at hw5
 obtain ⟨o5,x5,z5⟩:=o1.upd ha hba hbk hc hcap hw5 oneC_ints (by rw [List.length_map]; omega)
 rw [setSplice rows hi.2 (by omega)] at o5
 exact k w5 o5 x5 z5
theorem diskForeign_spec{i at_:Int}{b:Sl}{bs:List Int}{K:Int->Wd->Prop}(r:DiskR w.heap d D)(hi:hasB D i=true)(hb:RdB w.heap b bs)(hB:B8 bs)(hfp:∀ i,b.blk=some i->¬ d.fp i)(hat:0<=at_/\at_ < 256)(hle:at_+bs.length<=256)
  (k:∀ w',DiskR w'.heap d (foreignD D i at_.toNat bs)->Ext d.fp w w'->K 0 w'):C_disk_Disk_Foreign d.p i at_ b w K:=by
 apply S_disk_Disk_Foreign
 have hbl:=RdB.len hb
 have hi':0<=i/\i < D.now.length:=by simpa [hasB] using hi
 have hn:=r.wf.n
 refine If.no ⟨fun u=>w=u,diskHas_spec r (by rw [hi]; exact If.not (If.yes (If.dec (fun h=>by omega) fun _=>If.dec (fun h=>by omega) fun _=>Ar.i64 (by omega) (If.dec (fun h=>by omega) fun _=>rfl)))),?_⟩
 rintro _ _ rfl
 refine Nn.mk ⟨d.sn,Cell.lst r.blk rfl,rowCut r.now r.wf.rn ⟨hi'.1,by omega⟩ hb hat hle fun w3 o3 x3 z3=>?_⟩
 have row3:Row (splice (D.now.getD i.toNat []) at_.toNat bs):=splice_row (getD_row r.wf.rn (by omega)) hB (by omega)
 have r3:=r.setNow o3 x3 ⟨by simp only [List.length_set]; exact hn,by simp only [List.length_set]; exact r.wf.lo,by simp only [List.length_set]; exact r.wf.hi,set_rows r.wf.rn row3,r.wf.rf,fun p hp=>by simp only [List.length_set]; exact r.wf.rw p hp,r.wf.fl,r.wf.ct⟩
 have hb3:RdB w3.heap b bs:=hb.ext x3 fun a c ha hc h=>hfp c (by simp [Sl.blk,ha,hc]) (.inr (.inl h))
 refine Nn.mk ⟨d.sf,Cell.lst r3.blk rfl,rowCut r3.firm r3.wf.rf ⟨hi'.1,by show _ < D.firm.length; omega⟩ hb3 hat hle fun w5 o5 x5 z5=>?_⟩
 have row5:Row (splice (D.firm.getD i.toNat []) at_.toNat bs):=splice_row (getD_row r.wf.rf (by omega)) hB (by omega)
 have r5:=r3.setFirm o5 x5 (foreign_wf r.wf hi' hB (by omega))
 exact k w5 r5 ((x3.mono fun j _ h => .inr (.inl h)).trans x5 fun j _ h => .inr (.inr (.inl h)))
end
end Go.Proofs.YtmbckodpbdlblaaGreat
namespace Go.Proofs.YtmbckodpbdlblaaGreat
open Go.V Go.V.Dk Go.V.Rn
structure KP where
 n:Int
 l:Lab
 s:Sl
 b:List Int
abbrev KP.v(k:KP):Value := .agg (#[.int .u32 k.l.t, .int .u8 k.l.kd, .int .u8 k.l.lv, .int .u32 k.l.pg, .int .u64 k.l.cm, .int .u16 k.l.gn,k.s.v])
abbrev KP.e(k:KP):Int×Value:=(k.n,k.v)
structure SA where
 d:Dev
 D:DS
 g:Rgs
 R:RS
 rb:Nat
 mb:Nat
 ks:List RK
 lb:Nat
 ls:Sl
 L:List LE
 pb:Nat
 fr:Sl
 F:List Run
 kb:Nat
 ps:List KP
 wb:Nat
 nb:Nat
 pm:Option Nat
 dm:Option Nat
 pu:List Int
 cm:Int
 la:Int
 fl:Bool
abbrev SA.pC(s:SA):List Value:=[.pointer s.d.p, .pointer (some ⟨s.rb,0,none⟩), .pointer (some ⟨s.lb,0,none⟩),s.fr.v, .map (some s.kb), .map (some s.wb), .map s.pm, .map s.dm, .map (some s.nb), .int .u64 s.cm, .int .u64 s.la, .bool s.fl, .bool false]
abbrev u32E:Int->Value:=Value.int .u32
abbrev puM(l:List Int):List (Int×Value):=l.map fun n=>(n,Value.bool true)
structure Calm(D:DS):Prop where
 n:D.now.length=100
 fail:D.fail=0
 cut:D.cut = -1
 down:D.down=false
 st:0<=D.steps/\D.steps<=1000
 w:D.waits.length<=1000
theorem Calm.step{D:DS}(c:Calm D):stepD D=(0,{ D with steps:=D.steps+1 }):=by
 obtain ⟨_,h1,h2,h3,_,_⟩:=c
 unfold stepD
 simp [h1,h2,h3]
section
variable {w w':Wd} {T T':Nat->Nat} {s:SA} {S:Nat->Prop}
structure DkC(w:Wd)(T:Nat->Nat)(d:Dev)(D:DS):Prop where
 r:DiskR w.heap d D
 t:∀ i,d.fp i->T i=1
 c:Calm D
structure RgC(w:Wd)(T:Nat->Nat)(d:Dev)(g:Rgs)(R:RS):Prop where
 r:RegsR w.heap g R
 t:∀ i,g.fp i->T i=2
 d:R.dev=d.p
structure RnC(w:Wd)(T:Nat->Nat)(rb mb:Nat)(ks:List RK):Prop where
 r:RingR w rb mb ks
 t:T rb=3
 t2:T mb=3
 t3:∀ k∈ks,∀ i,k.s.blk=some i->T i=3
 n:ks.length<=100
structure LgC(w:Wd)(T:Nat->Nat)(lb:Nat)(ls:Sl)(L:List LE):Prop where
 r:LogR w.heap lb ls L
 t:T lb=4
 t2:∀ i,ls.blk=some i->T i=4
 n:L.length<=100
structure PbC(w:Wd)(T:Nat->Nat)(pb:Nat)(cs:List Value):Prop where
 r:w.heap[pb]? = some (.cells cs.toArray 202 (0,0))
 t:T pb=5
structure FrC(w:Wd)(T:Nat->Nat)(fr:Sl)(F:List Run):Prop where
 r:RdR w.heap fr F
 t:∀ i,fr.blk=some i->T i=6/\i < w.heap.size
 u:U32 F
 n:F.length<=1000
structure KnC(w:Wd)(T:Nat->Nat)(kb:Nat)(ps:List KP):Prop where
 r:MapR w.heap u32E kb (ps.map KP.e)
 t:T kb=7
 p:∀ k∈ps,RdB w.heap k.s k.b/\(∀ i,k.s.blk=some i->T i=12/\i < w.heap.size)/\B8 k.b/\k.b.length=224/\k.l.OK/\(1<=k.l.kd/\k.l.kd<=4)
structure MpC(w:Wd)(T:Nat->Nat)(wb nb:Nat)(pm:Option Nat)(pu:List Int):Prop where
 r:MapR w.heap u32E wb ([]:List (Int×Value))
 t:T wb=8
 r2:MapR w.heap u32E nb ([]:List (Int×Value))
 t2:T nb=9
 r3:∀ m,pm=some m->MapR w.heap u32E m (puM pu)/\T m=10
structure Sy(w:Wd)(T:Nat->Nat)(s:SA):Prop where
 dk:DkC w T s.d s.D
 rg:RgC w T s.d s.g s.R
 rn:RnC w T s.rb s.mb s.ks
 lg:LgC w T s.lb s.ls s.L
 pb:PbC w T s.pb s.pC
 fr:FrC w T s.fr s.F
 kn:KnC w T s.kb s.ps
 mp:MpC w T s.wb s.nb s.pm s.pu
 out:∀ i,w.heap.size<=i->T i=0
abbrev Ag(T T':Nat->Nat)(n:Nat):Prop:=∀ i,i < n->T' i=T i
theorem map_lt{α:Type}{enc:α->Value}{r:Nat}{m:List (α×Value)}(h:MapR w.heap enc r m):r < w.heap.size:=by obtain ⟨es,clock,hb,_⟩:=h; exact hlt hb
theorem DkC.keep{d:Dev}{D:DS}(c:DkC w T d D)(x:Ext S w w')(a:Ag T T' w.heap.size)(h:∀ i,T i=1->¬ S i):DkC w' T' d D :=
 ⟨c.r.ext x fun i hi=>h i (c.t i hi),fun i hi=>(a i (c.r.lt hi)).trans (c.t i hi),c.c⟩
theorem RgC.keep{d:Dev}{g:Rgs}{R:RS}(c:RgC w T d g R)(x:Ext S w w')(a:Ag T T' w.heap.size)(h:∀ i,T i=2->¬ S i):RgC w' T' d g R :=
 ⟨c.r.ext x fun i hi=>h i (c.t i hi),fun i hi=>(a i (c.r.lt hi)).trans (c.t i hi),c.d⟩
theorem RingR.klt{rb mb:Nat}{ks:List RK}(R:RingR w rb mb ks){k:RK}(hk:k∈ks){i:Nat}(hi:k.s.blk=some i):i < w.heap.size:=by
 have:=R.key k hk
 refine Rd.lt this.1 ?_ hi
 intro e
 have h2:=RdB.len this.1
 have h3:k.l.length=0:=by have:=congrArg List.length e; simpa using this
 rcases this.2.2 with h | h <;> omega
theorem RnC.keep{rb mb:Nat}{ks:List RK}(c:RnC w T rb mb ks)(x:Ext S w w')(a:Ag T T' w.heap.size)(h:∀ i,T i=3->¬ S i):RnC w' T' rb mb ks :=
 ⟨c.r.ext x (h _ c.t) (h _ c.t2) fun k hk i hi=>h i (c.t3 k hk i hi),(a _ (hlt c.r.blk)).trans c.t,(a _ (map_lt c.r.map)).trans c.t2,fun k hk i hi=>(a i (c.r.klt hk hi)).trans (c.t3 k hk i hi),c.n⟩
theorem LgC.keep{lb:Nat}{ls:Sl}{L:List LE}(c:LgC w T lb ls L)(x:Ext S w w')(a:Ag T T' w.heap.size)(h:∀ i,T i=4->¬ S i):LgC w' T' lb ls L :=
 ⟨c.r.ext x (h _ c.t) fun i hi=>h i (c.t2 i hi),(a _ (hlt c.r.blk)).trans c.t,fun i hi=>(a i (c.r.own.lt hi).2).trans (c.t2 i hi),c.n⟩
theorem PbC.keep{pb:Nat}{cs:List Value}(c:PbC w T pb cs)(x:Ext S w w')(a:Ag T T' w.heap.size)(h:∀ i,T i=5->¬ S i):PbC w' T' pb cs :=
 ⟨(x.blk _ (hlt c.r) (h _ c.t)).trans c.r,(a _ (hlt c.r)).trans c.t⟩
theorem FrC.keep{fr:Sl}{F:List Run}(c:FrC w T fr F)(x:Ext S w w')(a:Ag T T' w.heap.size)(h:∀ i,T i=6->¬ S i):FrC w' T' fr F :=
 ⟨c.r.ext x fun p b hp hb=>h b (c.t b (by simp [Sl.blk,hp,hb])).1,fun i hi=>⟨(a i (c.t i hi).2).trans (c.t i hi).1,Nat.lt_of_lt_of_le (c.t i hi).2 x.size⟩,c.u,c.n⟩
theorem KnC.keep{kb:Nat}{ps:List KP}(c:KnC w T kb ps)(x:Ext S w w')(a:Ag T T' w.heap.size)(h:∀ i,T i=7->¬ S i)(h2:∀ i,T i=12->¬ S i):KnC w' T' kb ps :=
 ⟨c.r.ext x (h _ c.t),(a _ (map_lt c.r)).trans c.t,fun k hk=>⟨(c.p k hk).1.ext x fun p b hp hb=>h2 b ((c.p k hk).2.1 b (by simp [Sl.blk,hp,hb])).1,fun i hi=>⟨(a i ((c.p k hk).2.1 i hi).2).trans ((c.p k hk).2.1 i hi).1,Nat.lt_of_lt_of_le ((c.p k hk).2.1 i hi).2 x.size⟩,(c.p k hk).2.2⟩⟩
theorem MpC.keep{wb nb:Nat}{pm:Option Nat}{pu:List Int}(c:MpC w T wb nb pm pu)(x:Ext S w w')(a:Ag T T' w.heap.size)(h:∀ i,T i=8->¬ S i)(h2:∀ i,T i=9->¬ S i)(h3:∀ i,T i=10->¬ S i):MpC w' T' wb nb pm pu :=
 ⟨c.r.ext x (h _ c.t),(a _ (map_lt c.r)).trans c.t,c.r2.ext x (h2 _ c.t2),(a _ (map_lt c.r2)).trans c.t2,fun m hm=>⟨(c.r3 m hm).1.ext x (h3 _ (c.r3 m hm).2),(a _ (map_lt (c.r3 m hm).1)).trans (c.r3 m hm).2⟩⟩
def tup(T:Nat->Nat)(n n' c:Nat)(i:Nat):Nat:=if i < n then T i else if i < n' then c else 0
theorem tup_ag(T:Nat->Nat)(n n' c:Nat):Ag T (tup T n n' c) n:=fun _ hi=>if_pos hi
theorem tup_out(T:Nat->Nat)(n n' c:Nat)(h:n<=n'):∀ i,n'<=i->tup T n n' c i=0:=fun _ hi=>by unfold tup; rw [if_neg (by omega),if_neg (by omega)]
theorem tup_new(T:Nat->Nat){n n' c i:Nat}(h:n<=i)(h':i < n'):tup T n n' c i=c:=by unfold tup; rw [if_neg (by omega),if_pos h']
structure Stp(T:Nat->Nat)(w:Wd)(T':Nat->Nat)(w':Wd):Prop where
 a:Ag T T' w.heap.size
 x:Ext (fun i=>1<=T i/\T i<=12) w w'
theorem Stp.no(x:Ext No w w'):Stp T w T w':=⟨fun _ _=>rfl,x.of_no⟩
theorem Stp.trans{T1 T2:Nat->Nat}{w1 w2:Wd}(h:Stp T w T1 w1)(k:Stp T1 w1 T2 w2):Stp T w T2 w2 :=
 ⟨fun i hi=>(k.a i (Nat.lt_of_lt_of_le hi h.x.size)).trans (h.a i hi),h.x.trans k.x fun i hi hh=>by rw [h.a i hi] at hh; exact hh⟩
theorem Stp.of(h:∀ i,S i->1<=T i/\T i<=12)(x:Ext S w w')(a:Ag T T' w.heap.size):Stp T w T' w':=⟨a,x.mono fun i _ hi=>h i hi⟩
theorem Stp.nx{T1:Nat->Nat}{w1:Wd}(h:Stp T w T1 w1)(k:Ext No w1 w'):Stp T w T1 w':=h.trans (.no k)
theorem Stp.blk{o:Obj}{b:Nat}(h:Stp T w T' w')(hb:w.heap[b]? = some o)(ht:T b=0∨13<=T b):w'.heap[b]? = some o:=(h.x.blk b (hlt hb) fun hh=>by omega).trans hb
theorem Sy.tag(y:Sy w T s)(x:Ext No w w')(c:Nat):Sy w' (tup T w.heap.size w'.heap.size c) s:=by
 have a:=tup_ag T w.heap.size w'.heap.size c
 have f:∀(k i:Nat),T i=k->¬ No i:=fun _ _ _ h=>h
 exact ⟨y.dk.keep x a (f 1),y.rg.keep x a (f 2),y.rn.keep x a (f 3),y.lg.keep x a (f 4),y.pb.keep x a (f 5),y.fr.keep x a (f 6),y.kn.keep x a (f 7) (f 12),y.mp.keep x a (f 8) (f 9) (f 10),tup_out _ _ _ _ x.size⟩
theorem Sy.no(y:Sy w T s)(x:Ext No w w'):Sy w' T s:=by
 have a:Ag T T w.heap.size:=fun _ _=>rfl
 have f:∀(k i:Nat),T i=k->¬ No i:=fun _ _ _ h=>h
 exact ⟨y.dk.keep x a (f 1),y.rg.keep x a (f 2),y.rn.keep x a (f 3),y.lg.keep x a (f 4),y.pb.keep x a (f 5),y.fr.keep x a (f 6),y.kn.keep x a (f 7) (f 12),y.mp.keep x a (f 8) (f 9) (f 10),fun i hi=>y.out i (Nat.le_trans x.size hi)⟩
theorem Sy.disk{d':Dev}{D':DS}(y:Sy w T s)(r:DiskR w'.heap d' D')(g:Grow w s.d d')(x:Ext s.d.fp w w')(c:Calm D'):Sy w' (tup T w.heap.size w'.heap.size 1) { s with d:=d',D:=D' }/\Stp T w (tup T w.heap.size w'.heap.size 1) w':=by
 have a:=tup_ag T w.heap.size w'.heap.size 1
 have hp:d'.p=s.d.p:=by show some (Addr.mk d'.b 0 none)=some (Addr.mk s.d.b 0 none); rw [g.b]
 have f:∀(k:Nat),k≠1->∀ i,T i=k->¬ s.d.fp i:=fun k hk i h e=>hk (h.symm.trans (y.dk.t i e))
 refine ⟨⟨⟨r,fun i hi=>?_,c⟩,?_,y.rn.keep x a (f 3 (by decide)),y.lg.keep x a (f 4 (by decide)),?_,y.fr.keep x a (f 6 (by decide)),y.kn.keep x a (f 7 (by decide)) (f 12 (by decide)),y.mp.keep x a (f 8 (by decide)) (f 9 (by decide)) (f 10 (by decide)),tup_out _ _ _ _ x.size⟩, .of (fun i hi=>by rw [y.dk.t i hi]; decide) x a⟩
 .rcases g.fp i hi with h | h
  .exact (a i (y.dk.r.lt h)).trans (y.dk.t i h)
  .exact tup_new T h (r.lt hi)
 .have k:=y.rg.keep x a (f 2 (by decide))
  exact ⟨k.r,k.t,k.d.trans hp.symm⟩
 .have k:=y.pb.keep x a (f 5 (by decide))
  refine ⟨?_,k.t⟩
  have:=k.r
  simp only [SA.pC] at this ⊢
  rw [hp]; exact this
end
end Go.Proofs.YtmbckodpbdlblaaGreat
namespace Go.Proofs.YtmbckodpbdlblaaGreat
open Go.V Go.V.Dk Go.V.Rn
section
variable {w w':Wd} {T T':Nat->Nat} {s:SA} {S:Nat->Prop}
theorem Sy.regs{R':RS}{D':DS}(y:Sy w T s)(q:RegsR w'.heap s.g R')(r:DiskR w'.heap s.d D')(x:Ext (fun i=>i=s.g.rb∨i=s.d.b) w w')(hd:R'.dev=s.d.p)(c:Calm D'):Sy w' T { s with R:=R',D:=D' }/\Stp T w T w':=by
 have a:Ag T T w.heap.size:=fun _ _=>rfl
 have t1:T s.d.b=1:=y.dk.t _ (.inl rfl)
 have t2:T s.g.rb=2:=y.rg.t _ (.inl rfl)
 have f:∀(k:Nat),k≠1->k≠2->∀ i,T i=k->¬ (i=s.g.rb∨i=s.d.b):=fun k h1 h2 i h e=>by
  rcases e with rfl | rfl
  .exact h2 (h.symm.trans t2)
  .exact h1 (h.symm.trans t1)
 exact ⟨⟨⟨r,y.dk.t,c⟩,⟨q,y.rg.t,hd⟩,y.rn.keep x a (f 3 (by decide) (by decide)),y.lg.keep x a (f 4 (by decide) (by decide)),y.pb.keep x a (f 5 (by decide) (by decide)),y.fr.keep x a (f 6 (by decide) (by decide)),y.kn.keep x a (f 7 (by decide) (by decide)) (f 12 (by decide) (by decide)),y.mp.keep x a (f 8 (by decide) (by decide)) (f 9 (by decide) (by decide)) (f 10 (by decide) (by decide)),fun i hi=>y.out i (Nat.le_trans x.size hi)⟩,
  .of (fun i hi=>by rcases hi with rfl | rfl <;> simp [t1,t2]) x a⟩
theorem Sy.ring{k:RK}(y:Sy w T s)(r:RingR w' s.rb s.mb (s.ks++[k]))(hk:∀ i,k.s.blk=some i->w.heap.size<=i)(x:Ext (·=s.mb) w w')(hn:s.ks.length < 100):Sy w' (tup T w.heap.size w'.heap.size 3) { s with ks:=s.ks++[k] }/\Stp T w (tup T w.heap.size w'.heap.size 3) w':=by
 have a:=tup_ag T w.heap.size w'.heap.size 3
 have f:∀(k:Nat),k≠3->∀ i,T i=k->¬ (i=s.mb):=fun k hk i h e=>by subst e; exact hk (h.symm.trans y.rn.t2)
 have c:=y.rn
 refine ⟨⟨y.dk.keep x a (f 1 (by decide)),y.rg.keep x a (f 2 (by decide)),⟨r,(a _ (hlt c.r.blk)).trans c.t,(a _ (map_lt c.r.map)).trans c.t2,fun q hq i hi=>?_,by simp; omega⟩,y.lg.keep x a (f 4 (by decide)),y.pb.keep x a (f 5 (by decide)),y.fr.keep x a (f 6 (by decide)),y.kn.keep x a (f 7 (by decide)) (f 12 (by decide)),y.mp.keep x a (f 8 (by decide)) (f 9 (by decide)) (f 10 (by decide)),tup_out _ _ _ _ x.size⟩,
  .of (fun i hi=>by rw [hi,c.t2]; decide) x a⟩
 rcases List.mem_append.1 hq with h | h
 .exact (a i (c.r.klt h hi)).trans (c.t3 q h i hi)
 .simp only [List.mem_singleton] at h; subst h
  exact tup_new T (hk i hi) (r.klt (List.mem_append.2 (.inr (List.mem_singleton.2 rfl))) hi)
theorem Sy.log{e:LE}{ls':Sl}(y:Sy w T s)(r:LogR w'.heap s.lb ls' (s.L++[e]))(hl:∀ i,ls'.blk=some i->s.ls.blk=some i∨w.heap.size<=i)(x:Ext (fun i=>i=s.lb∨s.ls.blk=some i) w w')(hn:s.L.length < 100):Sy w' (tup T w.heap.size w'.heap.size 4) { s with ls:=ls',L:=s.L++[e] }/\Stp T w (tup T w.heap.size w'.heap.size 4) w':=by
  have a:=tup_ag T w.heap.size w'.heap.size 4
  have c:=y.lg
  have f:∀(k:Nat),k≠4->∀ i,T i=k->¬ (i=s.lb∨s.ls.blk=some i):=fun k hk i h e=>by
    rcases e with rfl | e
    · exact hk (h.symm.trans c.t)
    · exact hk (h.symm.trans (c.t2 i e))
  refine ⟨⟨y.dk.keep x a (f 1 (by decide)),y.rg.keep x a (f 2 (by decide)),y.rn.keep x a (f 3 (by decide)),⟨r,(a _ (hlt c.r.blk)).trans c.t,fun i hi=>?_,by simp; omega⟩,y.pb.keep x a (f 5 (by decide)),y.fr.keep x a (f 6 (by decide)),y.kn.keep x a (f 7 (by decide)) (f 12 (by decide)),y.mp.keep x a (f 8 (by decide)) (f 9 (by decide)) (f 10 (by decide)),tup_out _ _ _ _ x.size⟩,
    .of (fun i hi => by rcases hi with rfl | h; · rw [c.t]; decide
                        · rw [c.t2 i h]; decide) x a⟩
  rcases hl i hi with h | h
  · exact (a i (c.r.own.lt h).2).trans (c.t2 i h)
  · exact tup_new T h (r.own.lt hi).2
theorem Sy.pag{fr':Sl}{F':List Run}{pm' dm':Option Nat}{pu':List Int}{cm' la':Int}{fl':Bool}(y:Sy w T s)(r:w'.heap[s.pb]? = some (.cells ({ s with fr:=fr',pm:=pm',dm:=dm',cm:=cm',la:=la',fl:=fl' }:SA).pC.toArray 202 (0,0)))(x:Ext (·=s.pb) w w')
    (hf:FrC w T fr' F') (hm:MpC w T s.wb s.nb pm' pu'):Sy w' T { s with fr:=fr',F:=F',pm:=pm',dm:=dm',pu:=pu',cm:=cm',la:=la',fl:=fl' }/\Stp T w T w':=by
  have a:Ag T T w.heap.size:=fun _ _=>rfl
  have t5:=y.pb.t
  have f:∀(k:Nat),k≠5->∀ i,T i=k->¬ (i=s.pb):=fun k hk i h e=>by subst e; exact hk (h.symm.trans t5)
  exact ⟨⟨y.dk.keep x a (f 1 (by decide)),y.rg.keep x a (f 2 (by decide)),y.rn.keep x a (f 3 (by decide)),y.lg.keep x a (f 4 (by decide)),⟨r,t5⟩,hf.keep x a (f 6 (by decide)),y.kn.keep x a (f 7 (by decide)) (f 12 (by decide)),hm.keep x a (f 8 (by decide)) (f 9 (by decide)) (f 10 (by decide)),fun i hi=>y.out i (Nat.le_trans x.size hi)⟩,
    .of (fun i hi=>by rw [hi,t5]; decide) x a⟩
abbrev SA.p(s:SA):Option Addr:=some ⟨s.pb,0,none⟩
theorem pMay{p:Option Addr}{K:Int->Wd->Prop}(y:Sy w T s)(k:K 0 w)(hp:p=s.p:=by rfl):C_pager_Pager_may p w K:=by
 subst hp
 apply S_pager_Pager_may
 exact If.no (Nn.mk ⟨_,Cell.lst y.pb.r rfl,If.no k⟩)
theorem pHas{p:Option Addr}{n:Int}{K:Bool->Wd->Prop}(y:Sy w T s)(hn:0<=n/\n<=4294967295)(k:K (decide (2<=n/\n < 100)) w)(hp:p=s.p:=by rfl):C_pager_Pager_has p n w K:=by
 subst hp
 apply S_pager_Pager_has
 refine If.dec (fun h=>Ar.i64 (by omega) (Nn.mk ⟨_,Cell.lst y.pb.r rfl,diskBlocks_spec y.dk.r ?_⟩)) fun h=>?_
 .have e:decide (n < ((s.D.now.length:Nat):Int))=decide (2<=n/\n < 100):=by rw [y.dk.c.n]; exact decide_eq_decide.2 (by omega)
  rw [e]; exact k
 .rw [show decide (2<=n/\n < 100)=false from decide_eq_false (by omega)] at k; exact k
theorem pOpen{p:Option Addr}{K:Bool->Wd->Prop}(y:Sy w T s)(k:K (decide (s.cm≠0) && !s.fl) w)(hp:p=s.p:=by rfl):C_pager_Pager_open p w K:=by
 subst hp
 apply S_pager_Pager_open
 refine Nn.mk ⟨_,Cell.lst y.pb.r rfl,If.bne (fun h=>Nn.mk ⟨_,Cell.lst y.pb.r rfl,?_⟩) fun h=>?_⟩
 .rw [decide_eq_true h] at k; exact k
 .rw [decide_eq_false (fun e=>e h)] at k; exact k
theorem pFailed0{p:Option Addr}{K:Bool->Wd->Prop}(y:Sy w T s)(k:K false w)(hp:p=s.p:=by rfl):C_pager_Pager_Failed p w K:=by
 subst hp
 apply S_pager_Pager_Failed
 exact If.not (If.no (Nn.mk ⟨_,Cell.lst y.pb.r rfl,k⟩))
theorem pLast{p:Option Addr}{K:Int->Wd->Prop}(y:Sy w T s)(k:K s.la w)(hp:p=s.p:=by rfl):C_pager_Pager_Last p w K:=by
 subst hp
 apply S_pager_Pager_Last
 exact If.no (Nn.mk ⟨_,Cell.lst y.pb.r rfl,k⟩)
theorem pCommit{p:Option Addr}{K:Int->Bool->Wd->Prop}(y:Sy w T s)(k0:s.cm=0->K 0 false w)(k:s.cm≠0->K s.cm s.fl (drewW w))(hp:p=s.p:=by rfl):C_pager_Pager_Commit p w K:=by
 subst hp
 apply S_pager_Pager_Commit
 refine ⟨fun u=>w=u/\s.cm≠0,If.no (Nn.mk ⟨_,Cell.lst y.pb.r rfl,If.beq k0 fun h=>⟨rfl,h⟩⟩),?_⟩
 rintro _ _ ⟨rfl,h⟩
 exact ⟨Ext No w,(Ext.refl _ _).drew,Nn.mk ⟨_,Held.but (Cell.lst y.pb.r rfl) (fun h=>h),Nn.mk ⟨_,Held.but (Cell.lst y.pb.r rfl) (fun h=>h),k h⟩⟩⟩
theorem pFail0{p:Option Addr}{K:Int->Wd->Prop}(y:Sy w T s)(k:∀ w',Sy w' T s->Stp T w T w'->K 0 w')(hp:p=s.p:=by rfl):C_pager_Pager_failed p 0 w K:=by
 subst hp
 apply S_pager_Pager_failed
 refine Nn.mk ⟨_,Cell.lst y.pb.r rfl,If.no (Nn.mk (St1.mk y.pb.r (Nat.le_refl 13) rfl fun w1 h1=>?_))⟩
 obtain ⟨y1,s1⟩:=y.pag (F':=s.F) (pu':=s.pu) (h1.get y.pb.r) h1.ext y.fr y.mp
 exact k w1 y1 s1
end
end Go.Proofs.YtmbckodpbdlblaaGreat
namespace Go.V
theorem getA_not{α:Type}[DecidableEq α]{a:α}:∀{m:List (α×Value)},(∀ p∈m,p.1≠a)->getA a m=none
 | [],_=>rfl
 | p::m,h=>by
  unfold getA
  rw [if_neg (fun e=>h p List.mem_cons_self e.symm)]
  exact getA_not fun q hq=>h q (List.mem_cons_of_mem _ hq)
theorem putA_new{α:Type}[DecidableEq α]{a:α}{v:Value}{m:List (α×Value)}(h:∀ p∈m,p.1≠a):putA a v m=m++[(a,v)]:=by
 have hfa:findA a m 0=none:=by have:=findA_get a m 0; rw [getA_not h] at this; simpa using this
 exact (findA_none hfa).1
theorem delA_new{α:Type}[DecidableEq α]{a:α}{m:List (α×Value)}(h:∀ p∈m,p.1≠a):delA a m=m:=by
 have hfa:findA a m 0=none:=by have:=findA_get a m 0; rw [getA_not h] at this; simpa using this
 exact (findA_none (v := .nilFunc) hfa).2
end Go.V
namespace Go.Proofs.YtmbckodpbdlblaaGreat
open Go.V Go.V.Dk Go.V.Rn
section
variable {w w':Wd} {T T':Nat->Nat} {s:SA}
theorem key33:KeyOK pz 33 u32E:=int_key (by kernel_rfl)
theorem map199:Tryz.prog.underlying 199=some (.map 33 4):=by kernel_rfl
theorem map198:Tryz.prog.underlying 198=some (.map 33 204):=by kernel_rfl
def keyI:Value->Int
 | .int _ n=>n
 | _=>0
theorem rising_spec{m:Nat}{l:List Int}{K:Sl->Wd->Prop}(hm:MapR w.heap u32E m (puM l))(hl:l.length<=1)(k:∀ s w',Own w'.heap w.heap.size 33 1 s (l.map (Value.int .u32))->Ext No w w'->K s w'):C_pager_rising (some m) w K:=by
 apply S_pager_rising
 obtain ⟨w1,hrun,hI,hx,hz⟩:=ItR.start (P:=pz) map199 hm
 have hmlt:=map_lt hm
 refine ⟨some ⟨w.heap.size,0,none⟩,w1,hrun,fun q s u=>∃ sm,q=l.length - sm.length/\ItR u32E u w.heap.size m (puM l) sm/\Own u.heap (w.heap.size+1) 33 1 s ((sm.map Prod.fst).map (Value.int .u32))/\sm.length<=l.length/\Ext No w u,⟨_,[],rfl,hI,Own.nil _ _ _ _,Nat.zero_le _,hx⟩,?_⟩
 rintro _ m0 s w2 ⟨sm,rfl,hI,ho,hsl,x2⟩
 have hz2:=x2.size
 have hlt2:=hI.lt
 have hpl:(puM l).length=l.length:=List.length_map _
 rcases hI.next (P:=pz) (by omega) with ⟨hp,w3,hn,x3⟩ | ⟨p,w3,hn,he,hI3,x3,hpm,hr3,hlen⟩
 .refine .inl ⟨w3,hn,?_⟩
  have e:sm.map Prod.fst=l:=by
   have h1:(sm.map Prod.fst).Perm l:=by
    have:=hp.map (fun p:Value×Value=>keyI p.1)
    simp only [encM,List.map_map,Function.comp_def,keyI] at this
    simpa using this
   have h2:=h1.length_eq
   cases h:l with
   | nil=>rw [h] at h2; exact List.length_eq_zero_iff.1 h2
   | cons a tl =>
    rw [h] at h1 hl
    have:tl=[]:=by simp only [List.length_cons] at hl; exact List.length_eq_zero_iff.1 (by omega)
    subst this
    exact h1.eq_singleton
  rw [e] at ho
  have ho3:=(ho.no x3).mono (Nat.le_succ _)
  refine sort1_uint32 ?_ (k s w3 ho3 (x2.no x3))
  have:=ho3.len; rw [List.length_map] at this; omega
 .refine .inr ⟨u32E p.1,p.2,w3,hn,p.1,p.2,w3,he,?_⟩
  have x03:Ext No w w3:=x2.trans x3 fun i hi e=>by subst e; omega
  have hz3:=x3.size
  refine one_uint32 (ho.ext x3 fun i hi e=>by have:=(ho.lt hi).1; omega) (by omega) rfl (one1 rfl) (by have:=ho.len; rw [List.length_map,List.length_map] at this; omega) fun s4 w4 o4 l4 x4 _=>⟨l.length - (sm.length+1),by omega,sm++[p],by simp,hI3.ext x4 ?_ ?_,?_,by simp; omega,x03.trans x4 fun i hi e=>by have:=(ho.lt e).1; omega⟩
  .intro e; have:=(ho.lt e).1; omega
  .intro e; have:=(ho.lt e).1; omega
  .rw [List.map_append,List.map_append]; exact o4
theorem release_spec{p:Option Addr}{n:Int}{K:Wd->Prop}(y:Sy w T s)(hn:0<=n/\n < 4294967295)(hr:rightB s.F=true)(hh:Rn.hasB n s.F=false)(hk:∀ k∈s.ps,k.n≠n)(hl:(bothR s.F [(n,n+1)]).length<=1000)(hu:U32 (bothR s.F [(n,n+1)]))
  (k:∀ T' fr' w',Sy w' T' { s with fr:=fr',F:=bothR s.F [(n,n+1)] }->Stp T w T' w'->K w') (hp:p=s.p:=by rfl):C_pager_Pager_release p n w K:=by
 subst hp
 apply S_pager_Pager_release
 refine Nn.mk ⟨s.fr,Cell.lst y.pb.r rfl,?_⟩
 refine give_spec y.fr.r y.fr.u (by have:=y.fr.n; omega) (by omega) (fun h=>by rw [hr] at h; cases h) (fun _ h=>by omega) (fun _ _ h=>by rw [hh] at h; cases h) fun _ _ _ s1 w1 o1 x1=>?_
 have y1:=y.tag x1 6
 have st1:Stp T w (tup T w.heap.size w1.heap.size 6) w1:=⟨tup_ag _ _ _ _,x1.of_no⟩
 refine Nn.mk (St1.mk y1.pb.r (Nat.le_of_ble_eq_true rfl) rfl fun w2 h2=>?_)
 obtain ⟨y2,st2⟩:=y1.pag (fr':=s1) (F':=bothR s.F [(n,n+1)]) (pu':=s.pu) (h2.get y1.pb.r) h2.ext ⟨o1.rd,fun i hi=>⟨tup_new _ (o1.lt hi).1 (o1.lt hi).2,(o1.lt hi).2⟩,hu,hl⟩ y1.mp
 obtain ⟨w3,h3,m3,x3,z3⟩:=run_delete (P:=pz) (a:=n) (t:=0) key33 map198 y2.kn.r
 refine Nn.mk ⟨some s.kb,Cell.lst y2.pb.r rfl,w3,h3,?_⟩
 have hdel:delA n (s.ps.map KP.e)=s.ps.map KP.e:=delA_new fun p hp=>by obtain ⟨q,hq,rfl⟩:=List.mem_map.1 hp; exact hk q hq
 simp only at m3
 rw [hdel] at m3
 have a:Ag (tup T w.heap.size w1.heap.size 6) (tup T w.heap.size w1.heap.size 6) w2.heap.size:=fun _ _=>rfl
 have c:=y2.kn
 have f:∀(k:Nat),k≠7->∀ i,tup T w.heap.size w1.heap.size 6 i=k->¬ (i=s.kb):=fun k hk i h e=>by subst e; exact hk (h.symm.trans c.t)
 refine k _ s1 w3 ⟨y2.dk.keep x3 a (f 1 (by decide)),y2.rg.keep x3 a (f 2 (by decide)),y2.rn.keep x3 a (f 3 (by decide)),y2.lg.keep x3 a (f 4 (by decide)),y2.pb.keep x3 a (f 5 (by decide)),y2.fr.keep x3 a (f 6 (by decide)),?_,y2.mp.keep x3 a (f 8 (by decide)) (f 9 (by decide)) (f 10 (by decide)),fun i hi=>y2.out i (Nat.le_trans x3.size hi)⟩ ((st1.trans st2).trans (.of (fun i hi=>by rw [hi,c.t]; decide) x3 a))
 exact ⟨m3,c.t,fun q hq=>⟨(c.p q hq).1.ext x3 fun p b hp hb e=>f 12 (by decide) b ((c.p q hq).2.1 b (by simp [Sl.blk,hp,hb])).1 e,fun i hi=>⟨((c.p q hq).2.1 i hi).1,Nat.lt_of_lt_of_le ((c.p q hq).2.1 i hi).2 x3.size⟩,(c.p q hq).2.2⟩⟩
end
end Go.Proofs.YtmbckodpbdlblaaGreat
namespace Go.Proofs.YtmbckodpbdlblaaGreat
open Go.V Go.V.Dk Go.V.Rn
section
variable {w w':Wd} {T T':Nat->Nat} {s:SA}
theorem Sy.know{k:KP}(y:Sy w T s)(r:MapR w'.heap u32E s.kb ((s.ps++[k]).map KP.e))(x:Ext (·=s.kb) w w')(hk:RdB w.heap k.s k.b/\(∀ i,k.s.blk=some i->T i=12/\i < w.heap.size)/\B8 k.b/\k.b.length=224/\k.l.OK/\(1<=k.l.kd/\k.l.kd<=4)):Sy w' T { s with ps:=s.ps++[k] }/\Stp T w T w':=by
 have a:Ag T T w.heap.size:=fun _ _=>rfl
 have c:=y.kn
 have f:∀(k:Nat),k≠7->∀ i,T i=k->¬ (i=s.kb):=fun k hk i h e=>by subst e; exact hk (h.symm.trans c.t)
 refine ⟨⟨y.dk.keep x a (f 1 (by decide)),y.rg.keep x a (f 2 (by decide)),y.rn.keep x a (f 3 (by decide)),y.lg.keep x a (f 4 (by decide)),y.pb.keep x a (f 5 (by decide)),y.fr.keep x a (f 6 (by decide)),⟨r,c.t,fun q hq=>?_⟩,y.mp.keep x a (f 8 (by decide)) (f 9 (by decide)) (f 10 (by decide)),fun i hi=>y.out i (Nat.le_trans x.size hi)⟩, .of (fun i hi=>by rw [hi,c.t]; decide) x a⟩
 have h:RdB w.heap q.s q.b/\(∀ i,q.s.blk=some i->T i=12/\i < w.heap.size)/\B8 q.b/\q.b.length=224/\q.l.OK/\(1<=q.l.kd/\q.l.kd<=4):=by
  rcases List.mem_append.1 hq with h | h
  .exact c.p q h
  .simp only [List.mem_singleton] at h; subst h; exact hk
 exact ⟨h.1.ext x fun p b hp hb e=>f 12 (by decide) b (h.2.1 b (by simp [Sl.blk,hp,hb])).1 e,fun i hi=>⟨(h.2.1 i hi).1,Nat.lt_of_lt_of_le (h.2.1 i hi).2 x.size⟩,h.2.2⟩
theorem Sy.putm{m:Nat}{n:Int}(y:Sy w T s)(hm:s.pm=some m)(r:MapR w'.heap u32E m (puM (s.pu++[n])))(x:Ext (·=m) w w'):Sy w' T { s with pu:=s.pu++[n] }/\Stp T w T w':=by
 have a:Ag T T w.heap.size:=fun _ _=>rfl
 have c:=y.mp
 have tm:=(c.r3 m hm).2
 have f:∀(k:Nat),k≠10->∀ i,T i=k->¬ (i=m):=fun k hk i h e=>by subst e; exact hk (h.symm.trans tm)
 exact ⟨⟨y.dk.keep x a (f 1 (by decide)),y.rg.keep x a (f 2 (by decide)),y.rn.keep x a (f 3 (by decide)),y.lg.keep x a (f 4 (by decide)),y.pb.keep x a (f 5 (by decide)),y.fr.keep x a (f 6 (by decide)),y.kn.keep x a (f 7 (by decide)) (f 12 (by decide)),⟨c.r.ext x (f 8 (by decide) _ c.t),c.t,c.r2.ext x (f 9 (by decide) _ c.t2),c.t2,fun q hq=>by rw [hm] at hq; have:=Option.some.inj hq; subst this; exact ⟨r,tm⟩⟩,fun i hi=>y.out i (Nat.le_trans x.size hi)⟩, .of (fun i hi=>by rw [hi,tm]; decide) x a⟩
theorem Sy.loc{S:Nat->Prop}(y:Sy w T s)(x:Ext S w w')(h:∀ i,S i->T i=0∨13<=T i):Sy w' T s:=by
 have a:Ag T T w.heap.size:=fun _ _=>rfl
 have f:∀(k:Nat),1<=k->k < 13->∀ i,T i=k->¬ S i:=fun k h1 h2 i e hi=>by have:=h i hi; omega
 exact ⟨y.dk.keep x a (f 1 (by decide) (by decide)),y.rg.keep x a (f 2 (by decide) (by decide)),y.rn.keep x a (f 3 (by decide) (by decide)),y.lg.keep x a (f 4 (by decide) (by decide)),y.pb.keep x a (f 5 (by decide) (by decide)),y.fr.keep x a (f 6 (by decide) (by decide)),y.kn.keep x a (f 7 (by decide) (by decide)) (f 12 (by decide) (by decide)),y.mp.keep x a (f 8 (by decide) (by decide)) (f 9 (by decide) (by decide)) (f 10 (by decide) (by decide)),fun i hi=>y.out i (Nat.le_trans x.size hi)⟩
theorem Stp.out{w1:Wd}{b:Nat}(h:Stp T w T' w1)(x:Ext (·=b) w1 w')(hb:w.heap.size<=b):Stp T w T' w':=⟨h.a,h.x.trans x fun i hi e=>by subst e; omega⟩
theorem begin_spec{p:Option Addr}{n:Int}{K:Int->Wd->Prop}(y:Sy w T s)(h0:s.cm=0)(hn:s.la < n)
  (k:∀ T' m m' w',Sy w' T' { s with cm:=n,la:=n,fl:=false,pm:=some m,dm:=some m',pu:=[] }->Stp T w T' w'->K 0 w') (hp:p=s.p:=by rfl):C_pager_Pager_Begin p n w K:=by
 subst hp
 apply S_pager_Pager_Begin
 refine pMay y (If.bne (fun h=>absurd rfl h) fun _=>⟨fun u=>w=u,Nn.mk ⟨_,Cell.lst y.pb.r rfl,If.bne (fun h=>absurd h0 h) fun _=>Nn.mk ⟨_,Cell.lst y.pb.r rfl,If.dec (fun h=>by omega) fun _=>rfl⟩⟩,?_⟩)
 rintro _ _ rfl
 refine Nn.mk (St1.mk y.pb.r (Nat.le_of_ble_eq_true rfl) rfl fun w1 h1=>?_)
 obtain ⟨y1,s1⟩:=y.pag (cm':=n) (F':=s.F) (pu':=s.pu) (h1.get y.pb.r) h1.ext y.fr y.mp
 refine Nn.mk (St1.mk y1.pb.r (Nat.le_of_ble_eq_true rfl) rfl fun w2 h2=>?_)
 obtain ⟨y2,s2⟩:=y1.pag (la':=n) (F':=s.F) (pu':=s.pu) (h2.get y1.pb.r) h2.ext y1.fr y1.mp
 refine Nn.mk (St1.mk y2.pb.r (Nat.le_of_ble_eq_true rfl) rfl fun w3 h3=>?_)
 obtain ⟨y3,s3⟩:=y2.pag (fl':=false) (F':=s.F) (pu':=s.pu) (h3.get y2.pb.r) h3.ext y2.fr y2.mp
 refine fun b w4 n4 b1 w5 n5=>?_
 have x5:=n4.ext.no n5.ext
 have y5:=y3.tag x5 10
 have s5:Stp T w3 (tup T w3.heap.size w5.heap.size 10) w5:=⟨tup_ag _ _ _ _,x5.of_no⟩
 have z4:=n4.size; have z5:=n5.size; have a4:=n4.at_; have a5:=n5.at_
 have m5:MapR w5.heap u32E b (puM []):=⟨#[],0,(n5.ext.blk b (hlt n4.get) fun h=>h).trans n4.get,rfl,BornOK.nil⟩
 have t5:tup T w3.heap.size w5.heap.size 10 b=10:=tup_new _ (by omega) (by omega)
 refine Nn.mk (St1.mk y5.pb.r (Nat.le_of_ble_eq_true rfl) rfl fun w6 h6=>?_)
 obtain ⟨y6,s6⟩:=y5.pag (pm':=some b) (F':=s.F) (pu':=[]) (h6.get y5.pb.r) h6.ext y5.fr ⟨y5.mp.r,y5.mp.t,y5.mp.r2,y5.mp.t2,fun q hq=>by have:=Option.some.inj hq; subst this; exact ⟨m5,t5⟩⟩
 refine Nn.mk (St1.mk y6.pb.r (Nat.le_of_ble_eq_true rfl) rfl fun w7 h7=>?_)
 obtain ⟨y7,s7⟩:=y6.pag (dm':=some b1) (F':=s.F) (pu':=[]) (h7.get y6.pb.r) h7.ext y6.fr y6.mp
 exact k _ b b1 w7 y7 (((((s1.trans s2).trans s3).trans s5).trans s6).trans s7)
theorem put_page{p:Option Addr}{t kd lv g:Int}{payload:Sl}{pl:List Int}{r:Run}{M:List Run}{m:Nat}{K:Int->Int->Int->Int->Wd->Prop}(y:Sy w T s)(hc:s.cm≠0)(hfl:s.fl=false)(hkd:1<=kd/\kd<=3)(hp:RdB w.heap payload pl)(hpt:∀ i,payload.blk=some i->T i=0)(hpl:pl.length=224)(hB:B8 pl)
  (hg:gensF s.ks t=[g]) (hF:s.F=r::M) (hr:rightB s.F=true) (hm:s.pm=some m) (hnew:∀ k∈s.ps,k.n≠r.1) (hpu:∀ n∈s.pu,n≠r.1) (hok:Lab.OK ⟨t,kd,lv,r.1,s.cm,g⟩) (hu:U32 (takeR s.F)) (hlen:(takeR s.F).length<=1000)
  (k:∀ T' fr' sl w',Sy w' T' { s with fr:=fr',F:=takeR s.F,ps:=s.ps++[⟨r.1,⟨t,kd,lv,r.1,s.cm,g⟩,sl,pl⟩],pu:=s.pu++[r.1] }->Stp T w T' w'->K r.1 s.cm g 0 w') (hp:p=s.p:=by rfl):C_pager_Pager_Put p t kd lv payload w K:=by
 subst hp
 apply S_pager_Pager_Put
 refine fun b w1 n1=>?_
 have y1:=y.no n1.ext
 have z1:=n1.size; have a1:=n1.at_
 have tb:T b=0:=y.out b (by omega)
 have gb:w1.heap[b]? = some (.cells [Value.int .u32 0, .int .u64 0, .int .u16 0].toArray 36 (0,0)):=n1.get
 have hpl':payload.len=224:=by rw [RdB.len hp]; exact hpl
 refine pMay y1 (If.bne (fun h=>absurd rfl h) fun _=>⟨fun u=>w1=u,pOpen y1 ?_,?_⟩)
 .rw [decide_eq_true hc,hfl]
  exact If.no (If.dec (fun h=>by omega) fun _=>If.dec (fun h=>by omega) fun _=>If.bne (fun h=>by omega) fun _=>rfl)
 rintro _ _ rfl
 refine Nn.mk ⟨_,Cell.lst y1.pb.r rfl,newest_spec y1.rn.r (by have:=y1.rn.n; omega) hg fun w2 x2=>If.bne (fun h=>absurd rfl h) fun _=>?_⟩
 have y2:=y1.no x2
 refine Nn.mk ⟨s.fr,Cell.lst y2.pb.r rfl,take_spec y2.fr.r y2.fr.u (by have:=y2.fr.n; omega) (fun h=>by rw [hr] at h; cases h) (fun h=>by rw [hF] at h; cases h) fun r' M' hF' _ s3 w3 o3 x3=>If.bne (fun h=>absurd rfl h) fun _=>?_⟩
 obtain ⟨rfl,rfl⟩ : r'=r/\M'=M:=by rw [hF] at hF'; cases hF'; exact ⟨rfl,rfl⟩
 have y3:=y2.tag x3 6
 have s3':Stp T w2 (tup T w2.heap.size w3.heap.size 6) w3:=⟨tup_ag _ _ _ _,x3.of_no⟩
 refine Nn.mk (St1.mk y3.pb.r (Nat.le_of_ble_eq_true rfl) rfl fun w4 h4=>?_)
 obtain ⟨y4,s4⟩:=y3.pag (fr':=s3) (F':=takeR s.F) (pu':=s.pu) (h4.get y3.pb.r) h4.ext ⟨o3.rd,fun i hi=>⟨tup_new _ (o3.lt hi).1 (o3.lt hi).2,(o3.lt hi).2⟩,hu,hlen⟩ y3.mp
 refine Nn.mk ⟨s.cm,Cell.lst y4.pb.r rfl,NewSt rfl rfl (oneL rfl) fun w5 g5 z5 x5=>?_⟩
 have y5:=y4.no x5
 have st15:Stp T w1 (tup T w2.heap.size w3.heap.size 6) w5:=(((Stp.no x2).trans s3').trans s4).nx x5
 have tb5:tup T w2.heap.size w3.heap.size 6 w4.heap.size=0:=y4.out _ (Nat.le_refl _)
 have tk:=y5.kn.t
 have nb:w4.heap.size≠s.kb:=fun e=>by rw [e] at tb5; rw [tb5] at tk; cases tk
 have npb:s.pb≠s.kb:=fun e=>by have:=y5.pb.t; simp only at this; rw [e] at this; rw [this] at tk; cases tk
 refine ⟨Ext (·=s.kb) w5,(Ext.refl _ _).drew,Nn.mk ⟨some s.kb,Held.but (Cell.lst y5.pb.r rfl) npb,_,Held.but (Cell.lst g5 rfl) nb,_,Held.but (Cell.lst g5 rfl) nb,_,Held.but (Cell.lst g5 rfl) nb,fun b6 w6 n6=>⟨n6.ext.drew_left.of_no,?_⟩⟩⟩
 have x6:Ext No w5 w6:=n6.ext.drew_left
 have hp6:RdB w6.heap payload pl:=by
  refine Rd.no (w:=w5) (hp.ext (Stp.x ((Stp.no n1.ext).trans st15)) fun p c hp' hb' hh=>?_) x6
  have:=hpt c (by simp [Sl.blk,hp',hb']); omega
 refine app8_new (l:=[]) ⟨rfl,Nat.le_refl _,fun h=>absurd rfl h,fun _ h=>nomatch h⟩ (by show 0 < 0+payload.len; omega) hp6 (by show 0+payload.len<=_; omega) fun s7 w7 o7 x7=>⟨(x6.no x7).of_no,?_⟩
 rw [List.nil_append] at o7
 have x57:=x6.no x7
 have y7:=y5.tag x57 12
 have s7':Stp (tup T w2.heap.size w3.heap.size 6) w5 (tup (tup T w2.heap.size w3.heap.size 6) w5.heap.size w7.heap.size 12) w7:=⟨tup_ag _ _ _ _,x57.of_no⟩
 obtain ⟨w8,h8,m8,x8,z8⟩:=run_mapUpdate (P:=pz) (a:=r'.1) (v:=(⟨r'.1,⟨t,kd,lv,r'.1,s.cm,g⟩,s7,pl⟩ : KP).v) key33 map198 y7.kn.r
 simp only at m8
 rw [putA_new (fun p hp=>by obtain ⟨q,hq,rfl⟩:=List.mem_map.1 hp; exact hnew q hq)] at m8
 obtain ⟨y8,s8⟩:=y7.know (k:=⟨r'.1,⟨t,kd,lv,r'.1,s.cm,g⟩,s7,pl⟩) (by rw [List.map_append]; exact m8) x8 ⟨o7.rd,fun i hi=>⟨tup_new _ (by have:=(o7.lt hi).1; have:=x6.size; omega) (o7.lt hi).2,(o7.lt hi).2⟩,hB,hpl,hok,⟨hkd.1,by show kd<=4; omega⟩⟩
 refine ⟨w8,h8,x57.of_no.trans x8 fun i _ h=>h,Nn.mk ⟨s.pm,Cell.lst y8.pb.r rfl,?_⟩⟩
 have mm:=(y8.mp.r3 m hm).1
 obtain ⟨w9,h9,m9,x9,z9⟩:=run_mapUpdate (P:=pz) (a:=r'.1) (v := .bool true) key33 map199 mm
 simp only at m9
 rw [putA_new (fun p hp=>by obtain ⟨q,hq,rfl⟩:=List.mem_map.1 hp; exact hpu q hq)] at m9
 obtain ⟨y9,s9⟩:=y8.putm (n:=r'.1) hm (by simp only [puM,List.map_append]; exact m9) x9
 rw [hm]
 have st59:=(s7'.trans s8).trans s9
 have g5':w9.heap[w4.heap.size]? = _:=st59.blk g5 (.inl tb5)
 have gb9:w9.heap[b]? = _:=(st15.trans st59).blk gb (.inl tb)
 refine ⟨w9,h9,_,Cell.lst g5' rfl,_,Cell.lst g5' rfl,_,Cell.lst g5' rfl,rfl,StN.mk gb9 (Nat.le_refl 3) (oneL rfl) fun w10 h10=>?_⟩
 have g10:=h10.get gb9
 refine ⟨_,Cell.lst g10 rfl,_,Cell.lst g10 rfl,_,Cell.lst g10 rfl,?_⟩
 have st:=(Stp.no n1.ext).trans (st15.trans st59)
 have tb9:tup (tup T w2.heap.size w3.heap.size 6) w5.heap.size w7.heap.size 12 b=0:=((st15.trans st59).a b (by omega)).trans tb
 exact k _ s3 s7 w10 (y9.loc h10.ext fun i hi=>by subst hi; exact .inl tb9) (st.out h10.ext (by omega))
end
end Go.Proofs.YtmbckodpbdlblaaGreat
namespace Go.Proofs.YtmbckodpbdlblaaGreat
open Go.V Go.V.Dk Go.V.Rn
section
variable {w w':Wd} {T T':Nat->Nat} {s:SA}
theorem look204(w:Wd):(zeroValue 204).run pz w = .ok (.agg #[.int .u32 0, .int .u8 0, .int .u8 0, .int .u32 0, .int .u64 0, .int .u16 0, .slice none 0 0]) w:=by kernel_rfl
theorem get_page{p:Option Addr}{k:KP}{K:Sl->Int->Wd->Prop}(y:Sy w T s)(hk:getA k.n (s.ps.map KP.e)=some k.v)(hm:k∈s.ps)(h2:2<=k.n/\k.n < 100)(hl:k.l.pg=k.n)(hkd:1<=k.l.kd/\k.l.kd<=3)
  (kk:∀ sl w',OwnB w'.heap w.heap.size sl k.b->Ext No w w'->K sl 0 w') (hp:p=s.p:=by rfl):C_pager_Pager_Get p k.l.t k.l.kd k.l.lv k.l.pg k.l.cm k.l.gn w K:=by
 subst hp
 apply S_pager_Pager_Get
 refine fun b w1 n1=>?_
 have y1:=y.no n1.ext
 have gb:w1.heap[b]? = some (.cells [Value.int .u32 k.l.pg, .int .u64 k.l.cm, .int .u16 k.l.gn].toArray 36 (0,0)):=n1.get
 have z1:=n1.size
 refine pMay y1 (If.bne (fun h=>absurd rfl h) fun _=>⟨fun u=>w1=u,If.dec (fun h=>by omega) fun _=>If.dec (fun h=>by omega) fun _=>⟨_,Cell.lst gb rfl,pHas y1 (by omega) ?_⟩,?_⟩)
 .rw [decide_eq_true (by omega:2<=k.l.pg/\k.l.pg < 100)]; exact If.no rfl
 rintro _ _ rfl
 refine ⟨_,Cell.lst gb rfl,_,Cell.lst gb rfl,_,Cell.lst gb rfl,NewSt rfl rfl (oneL rfl) fun w6 g6 z6 x6=>?_⟩
 have y6:=y1.no x6
 have gb6:w6.heap[b]? = _:=(x6.blk b (hlt gb) fun h=>h).trans gb
 have x06:=n1.ext.no x6
 obtain ⟨hp1,hp2,hp3,hp4,hp5⟩:=y6.kn.p k hm
 have hksz:k.s.len=224:=by rw [RdB.len hp1]; exact hp4
 have look:∀ w,MapR w.heap u32E s.kb (s.ps.map KP.e)->Sem.run pz (Instr.lookup 198 (.map (some s.kb)) (.int .u32 k.l.pg) true) w = .ok (.tuple #[.agg #[.int .u32 k.l.t, .int .u8 k.l.kd, .int .u8 k.l.lv, .int .u32 k.l.pg, .int .u64 k.l.cm, .int .u16 k.l.gn,k.s.v], .bool true]) w:=fun w hw=>by
  have:=run_lookup2 (P:=pz) (a:=k.n) key33 map198 (look204 w) hw
  rw [hk] at this
  rw [<- hl] at this; exact this
 refine ⟨Ext No w6,(Ext.refl _ _).drew,Nn.mk ⟨some s.kb,Held.but (Cell.lst y6.pb.r rfl) (fun h=>h),k.l.pg,Held.but (Cell.lst gb6 rfl) (fun h=>h),?_,?_⟩⟩
 .refine ⟨_,_,_,_,_,_,k.s,true,drewW w6,look _ y6.kn.r,(Ext.refl _ _).drew,fun b2 w8 n8=>⟨n8.ext.drew_left,rfl,StN.mk n8.get (Nat.le_of_ble_eq_true rfl) (oneL rfl) fun w9 h9=>?_⟩⟩
  have a8:=n8.at_
  have x8:Ext No w6 w8:=n8.ext.drew_left
  have x9:Ext No w6 w9:=x8.out h9.ext (by show w6.heap.size<=b2; rw [a8]; exact Nat.le_refl _)
  have g9:=h9.get n8.get
  have g6':w9.heap[w1.heap.size]? = _:=(x9.blk _ (hlt g6) fun h=>h).trans g6
  refine ⟨x9,fun u=>w9=u,If.not (If.yes rfl),?_⟩
  rintro _ _ rfl
  refine ⟨_,Cell.lst g9 rfl,_,Cell.lst g9 rfl,_,Cell.lst g9 rfl,_,Cell.lst g9 rfl,_,Cell.lst g9 rfl,_,Cell.lst g9 rfl,_,Cell.lst g6' rfl,_,Cell.lst g6' rfl,_,Cell.lst g6' rfl,_,Cell.lst g6' rfl,_,Cell.lst g6' rfl,_,Cell.lst g6' rfl,If.not (If.cases (fun _=>?_) fun h=>by simp at h)⟩
  refine fun b3 w10 n10=>⟨k.s,Cell.lst (show w10.heap[b2]? = _ from (n10.ext.blk _ (hlt g9) fun h=>h).trans g9) rfl,app8_new (l:=[]) ⟨rfl,Nat.le_refl _,fun h=>absurd rfl h,fun _ h=>nomatch h⟩ (by show 0 < 0+k.s.len; omega) (hp1.no (x9.no n10.ext)) (by show 0+k.s.len<=_; omega) fun s11 w11 o11 x11=>?_⟩
  rw [List.nil_append] at o11
  have x:=x06.no (x9.no n10.ext)
  exact kk s11 w11 (o11.mono x.size) (x.no x11)
 .refine fun b2 w8 n8=>⟨n8.ext.drew_left,_,_,_,_,_,_,k.s,true,w8,look _ (y6.kn.r.ext (n8.ext.drew_left) fun h=>h),n8.ext.drew_left,rfl,StN.mk n8.get (Nat.le_of_ble_eq_true rfl) (oneL rfl) fun w9 h9=>?_⟩
  have a8:=n8.at_
  have x8:Ext No w6 w8:=n8.ext.drew_left
  have x9:Ext No w6 w9:=x8.out h9.ext (by show w6.heap.size<=b2; rw [a8]; exact Nat.le_refl _)
  have g9:=h9.get n8.get
  have g6':w9.heap[w1.heap.size]? = _:=(x9.blk _ (hlt g6) fun h=>h).trans g6
  refine ⟨x9,fun u=>w9=u,If.not (If.yes rfl),?_⟩
  rintro _ _ rfl
  refine ⟨_,Cell.lst g9 rfl,_,Cell.lst g9 rfl,_,Cell.lst g9 rfl,_,Cell.lst g9 rfl,_,Cell.lst g9 rfl,_,Cell.lst g9 rfl,_,Cell.lst g6' rfl,_,Cell.lst g6' rfl,_,Cell.lst g6' rfl,_,Cell.lst g6' rfl,_,Cell.lst g6' rfl,_,Cell.lst g6' rfl,If.not (If.cases (fun _=>?_) fun h=>by simp at h)⟩
  refine fun b3 w10 n10=>⟨k.s,Cell.lst (show w10.heap[b2]? = _ from (n10.ext.blk _ (hlt g9) fun h=>h).trans g9) rfl,app8_new (l:=[]) ⟨rfl,Nat.le_refl _,fun h=>absurd rfl h,fun _ h=>nomatch h⟩ (by show 0 < 0+k.s.len; omega) (hp1.no (x9.no n10.ext)) (by show 0+k.s.len<=_; omega) fun s11 w11 o11 x11=>?_⟩
  rw [List.nil_append] at o11
  have x:=x06.no (x9.no n10.ext)
  exact kk s11 w11 (o11.mono x.size) (x.no x11)
theorem blank0{p:Option Addr}{g:Sl}{K:Int->Wd->Prop}(hg:g.len=0)(k:K 0 w)(hp:p=s.p:=by rfl):C_pager_Pager_blank p g w K:=by
 subst hp
 apply S_pager_Pager_blank
 refine ⟨fun _ t u=>0=t/\w=u,⟨0,rfl,rfl⟩,?_⟩
 rintro _ _ _ _ ⟨rfl,rfl⟩
 exact If.dec (fun h=>by omega) fun _=>If.beq (fun _=>k) fun h=>by omega
theorem scrub_spec{p:Option Addr}{K:Int->Wd->Prop}(y:Sy w T s)(ho:s.cm=0∨s.fl=true)(k:∀ w',Sy w' T { s with cm:=0 }->Stp T w T w'->K 0 w')(hp:p=s.p:=by rfl):C_pager_Pager_Scrub p w K:=by
 subst hp
 apply S_pager_Pager_Scrub
 refine pMay y (If.bne (fun h=>absurd rfl h) fun _=>pOpen y ?_)
 have e:(decide (s.cm≠0) && !s.fl)=false:=by rcases ho with h | h <;> simp [h]
 rw [e]
 refine If.no (Nn.mk ⟨some s.wb,Cell.lst y.pb.r rfl,rising_spec (l:=[]) y.mp.r (Nat.zero_le _) fun s1 w1 o1 x1=>?_⟩)
 have hl:s1.len=0:=by have:=o1.len; simpa using this.symm
 refine ⟨fun _ g t u=>⟨none,0,0⟩=g/\0=t/\w1=u,⟨0,rfl,rfl,rfl⟩,?_⟩
 rintro _ _ _ _ _ ⟨rfl,rfl,rfl⟩
 have y1:=y.no x1
 refine If.dec (fun h=>by omega) fun _=>blank0 (s:=s) rfl (pFail0 y1 fun w2 y2 s2=>If.bne (fun h=>absurd rfl h) fun _=>⟨fun _ t u=>0=t/\w2=u,⟨0,rfl,rfl⟩,?_⟩)
 rintro _ _ _ _ ⟨rfl,rfl⟩
 refine If.dec (fun h=>by simp at h) fun _=>Nn.mk (St1.mk y2.pb.r (Nat.le_of_ble_eq_true rfl) rfl fun w3 h3=>?_)
 obtain ⟨y3,s3⟩:=y2.pag (cm':=0) (F':=s.F) (pu':=s.pu) (h3.get y2.pb.r) h3.ext y2.fr y2.mp
 exact k w3 y3 (((Stp.no x1).trans s2).trans s3)
end
end Go.Proofs.YtmbckodpbdlblaaGreat
namespace Go.V.Dk
abbrev Up(D:DS):DS:={ D with steps:=D.steps+1 }
abbrev Wd(D:DS)(i:Int)(bs:List Int):DS:=writeD (Up D) i bs
abbrev Sd(D:DS):DS:=syncD (Up D)
end Go.V.Dk
namespace Go.Proofs.YtmbckodpbdlblaaGreat
open Go.V Go.V.Dk Go.V.Rn
theorem Calm.has{D:DS}(c:Calm D){i:Int}(hi:0<=i/\i < 100):Dk.hasB D i=true:=decide_eq_true (by rw [c.n]; omega)
theorem Calm.write{D:DS}(c:Calm D){i:Int}{bs:List Int}(hi:0<=i/\i < 100)(hb:bs.length=256):writeR D i bs=(0,Wd D i bs):=by
 unfold writeR; rw [if_pos ⟨c.has hi,hb⟩,c.step,if_pos rfl]
theorem Calm.sync{D:DS}(c:Calm D):syncR D=(0,Sd D):=by unfold syncR; rw [c.step,if_pos rfl]
theorem Calm.up{D:DS}(c:Calm D)(h:D.steps < 1000):Calm (Up D):=⟨c.n,c.fail,c.cut,c.down,by have:=c.st; show 0<=D.steps+1/\D.steps+1<=1000; omega,c.w⟩
theorem Calm.wd{D:DS}(c:Calm D)(h:D.steps < 1000)(hw:D.waits.length < 1000)(i:Int)(bs:List Int):Calm (Wd D i bs):=by
 have u:=c.up h
 exact ⟨by simp [writeD,c.n],u.fail,u.cut,u.down,u.st,by simp [writeD]; omega⟩
theorem Calm.sd{D:DS}(c:Calm D)(h:D.steps < 1000):Calm (Sd D):=by
 have u:=c.up h
 exact ⟨u.n,u.fail,u.cut,u.down,u.st,Nat.zero_le _⟩
section
variable {w w':Wd} {T T':Nat->Nat} {s:SA}
theorem write_sy{p:Option Addr}{i:Int}{b:Sl}{bs:List Int}{K:Int->Wd->Prop}(y:Sy w T s)(hi:0<=i/\i < 100)(hb:RdB w.heap b bs)(h8:B8 bs)(hl:bs.length=256)(hfp:∀ i,b.blk=some i->T i≠1)(hs:s.D.steps < 1000)(hw:s.D.waits.length < 1000)
  (k:∀ T' d' w',Sy w' T' { s with d:=d',D:=Wd s.D i bs }->Stp T w T' w'->Ext s.d.fp w w'->K 0 w') (hp:p=s.d.p:=by rfl):C_disk_Disk_Write p i b w K:=by
 subst hp
 have c:=y.dk.c
 have st:=c.st
 refine diskWrite_spec y.dk.r hb h8 (fun i hi h=>hfp i hi (y.dk.t i h)) (by omega) (by omega) fun d' w' r g x=>?_
 rw [c.write hi hl] at r ⊢
 obtain ⟨y',s'⟩:=y.disk r g x (c.wd hs hw i bs)
 exact k _ d' w' y' s' x
theorem sync_sy{p:Option Addr}{K:Int->Wd->Prop}(y:Sy w T s)(hs:s.D.steps < 1000)
  (k:∀ T' d' w',Sy w' T' { s with d:=d',D:=Sd s.D }->Stp T w T' w'->K 0 w') (hp:p=s.d.p:=by rfl):C_disk_Disk_Sync p w K:=by
 subst hp
 have c:=y.dk.c
 have st:=c.st
 refine diskSync_spec y.dk.r (by omega) fun d' w' r g x=>?_
 rw [c.sync] at r ⊢
 obtain ⟨y',s'⟩:=y.disk r g x (c.sd hs)
 exact k _ d' w' y' s'
abbrev SA.lB(s:SA):Option Addr:=some ⟨s.lb,0,none⟩
abbrev SA.rB(s:SA):Option Addr:=some ⟨s.rb,0,none⟩
set_option maxHeartbeats 1000000 in
theorem flush_spec{p:Option Addr}{K:Int->Wd->Prop}{m:Nat}{k:KP}{q:RK}(y:Sy w T s)(hc:s.cm≠0)(hfl:s.fl=false)(hm:s.pm=some m)(hpu:s.pu=[k.n])(hk:getA k.n (s.ps.map KP.e)=some k.v)(hkm:k∈s.ps)(h2:2<=k.n/\k.n < 100)
  (hq:ringF s.ks ⟨k.l.t,k.l.gn⟩=some q) (hL:s.L.length < 100) (hst:s.D.steps < 900) (hw:s.D.waits.length < 900)
  (kk:∀ T' d' ls' r w',r.length=252->B8 r->Sy w' T' { s with d:=d',D:=Sd (Wd s.D k.n (magic++r)),ls:=ls',L:=s.L++[⟨k.l,q.l,k.b,magic++r⟩],fl:=true }->Stp T w T' w'->K 0 w') (hp:p=s.p:=by rfl):C_pager_Pager_Flush p w K:=by
 subst hp
 apply S_pager_Pager_Flush
 refine pMay y (If.bne (fun h=>absurd rfl h) fun _=>pOpen y ?_)
 rw [decide_eq_true hc,hfl]
 refine If.no (Nn.mk ⟨some m,Cell.lst y.pb.r (by simp [SA.pC,hm]),rising_spec (l:=s.pu) (y.mp.r3 m hm).1 (by rw [hpu]; exact Nat.le_refl 1) fun s3 w3 o3 x3=>?_⟩)
 rw [hpu] at o3
 have y3:=y.no x3
 have hl3:s3.len=1:=by have:=o3.len; simpa using this.symm
 refine ⟨fun n t u=>(n=1/\t=0/\w3=u)∨(n=0/\t=1/\∃ T' d' ls' r,r.length=252/\B8 r/\Sy u T' { s with d:=d',D:=Wd s.D k.n (magic++r),ls:=ls',L:=s.L++[⟨k.l,q.l,k.b,magic++r⟩] }/\Stp T w T' u),⟨1, .inl ⟨rfl,rfl,rfl⟩⟩,?_⟩
 rintro _ m0 t w4 (⟨rfl,rfl,rfl⟩ | ⟨rfl,rfl,T4,d4,ls4,r,hr,hB,y4,s4⟩)
 .refine If.dec (fun _=>?_) fun h=>absurd (by omega) h
  refine Ix.int o3.rd (by decide) (by omega) fun bb oo _ hcell=>⟨k.n,hcell,Nn.mk ⟨some s.kb,Cell.lst y3.pb.r rfl,?_⟩⟩
  have hrun:=run_lookup (P:=pz) (a:=k.n) key33 map198 (look204 w3) y3.kn.r
  rw [hk] at hrun
  refine ⟨_,_,_,_,_,_,k.s,w3,hrun,NewSt rfl rfl (oneL rfl) fun w6 g6 z6 x6=>?_⟩
  have y6:=y3.no x6
  have tb:T w3.heap.size=0:=y3.out _ (Nat.le_refl _)
  have y6d:=y6.no (Ext.refl No w6).drew
  refine ⟨Ext No w6,(Ext.refl _ _).drew,Nn.mk ⟨s.rB,Held.but (Cell.lst y6.pb.r rfl) (fun h=>h),k.l.t,Held.but (Cell.lst g6 rfl) (fun h=>h),k.l.gn,Held.but (Cell.lst g6 rfl) (fun h=>h),ringKey_spec y6d.rn.r hq fun s8 w8 o8 x8=>⟨x8.drew_left,If.bne (fun h=>absurd rfl h) fun _=>?_⟩⟩⟩
  have x68:Ext No w6 w8:=x8.drew_left
  have y8:=y6.no x68
  have g8:w8.heap[w3.heap.size]? = _:=(x68.blk _ (hlt g6) fun h=>h).trans g6
  have nb:¬ (w3.heap.size=s.lb∨s.ls.blk=some w3.heap.size):=fun e=>by
   rcases e with e | e
   .have:=y8.lg.t; rw [<- e] at this; omega
   .have:=y8.lg.t2 _ e; omega
  have npb:¬ (s.pb=s.lb∨s.ls.blk=some s.pb):=fun e=>by
   have:=y8.pb.t
   rcases e with e | e
   .have:=y8.lg.t; rw [<- e] at this; omega
   .have:=y8.lg.t2 _ e; omega
  have y8d:=y8.no (Ext.refl No w8).drew
  obtain ⟨hp1,hp2,hp3,hp4,hp5,hp6⟩:=y8d.kn.p k hkm
  have hkey:=y8d.rn.r.key q (List.mem_of_find?_eq_some hq)
  have z68:=x68.size; have z36:=x6.size
  refine ⟨Ext (fun i=>i=s.lb∨s.ls.blk=some i) w8,(Ext.refl _ _).drew,Nn.mk ⟨s.lB,Held.but (Cell.lst y8.pb.r rfl) npb,k.l.t,Held.but (Cell.lst g8 rfl) nb,k.l.kd,Held.but (Cell.lst g8 rfl) nb,k.l.lv,Held.but (Cell.lst g8 rfl) nb,k.l.pg,Held.but (Cell.lst g8 rfl) nb,k.l.cm,Held.but (Cell.lst g8 rfl) nb,k.l.gn,Held.but (Cell.lst g8 rfl) nb,k.s,Held.but (Cell.lst g8 rfl) nb,?_⟩⟩
  refine logSeal_spec (l:=k.l) y8d.lg.r (by omega) hp5 hp6 (Rd.no (w:=w8) o8.rd (Ext.refl No w8).drew) hkey.2.1 (by rw [OwnB.len o8,<- RdB.len hkey.1]; exact hkey.2.2) hp1 (by rw [RdB.len hp1]; exact hp4) (fun i hi e=>?_) (fun i hi e=>?_) fun s10 r ls' w10 o10 hr hB L10 hl10 hs10 x10=>⟨x10.drew_left,If.bne (fun h=>absurd rfl h) fun _=>?_⟩
  .have h1:=(y8.lg.r.own.lt e).2; have h2:=(o8.lt hi).1; have:=y8.lg.t2 _ e; rw [y6.out i h2] at this; cases this
  .have h1:=y8.lg.t2 _ e; have h2:=(hp2 _ hi).1; omega
  obtain ⟨y10,s10'⟩:=y8.log (e:=⟨k.l,q.l,k.b,magic++r⟩) L10 hl10 x10.drew_left hL
  have hB':B8 (magic++r):=L10.b8 ⟨k.l,q.l,k.b,magic++r⟩ (List.mem_append.2 (.inr (List.mem_singleton.2 rfl)))
  refine Nn.mk ⟨s.d.p,Cell.lst y10.pb.r rfl,Ar.i64 (by omega) (write_sy y10 (by omega) o10.rd hB' (by rw [List.length_append,hr]; rfl) (fun i hi=>?_) (by show s.D.steps < 1000; omega) (by show s.D.waits.length < 1000; omega) fun T12 d12 w12 y12 s12 _=>If.bne (fun h=>absurd rfl h) fun _=>Ar.i64 (by omega) ⟨0,Nat.one_pos, .inr ⟨rfl,rfl,T12,d12,ls',r,hr,hB,y12,(((Stp.no x3).nx x6).nx x68).trans (s10'.trans s12)⟩⟩)⟩
  rw [tup_new T (n:=w8.heap.size) (o10.lt hi).1 (o10.lt hi).2]; decide
 .refine If.dec (fun h=>absurd h (by omega)) fun _=>Nn.mk (St1.mk y4.pb.r (Nat.le_of_ble_eq_true rfl) rfl fun w14 h14=>?_)
  obtain ⟨y14,s14⟩:=y4.pag (fl':=true) (F':=s.F) (pu':=s.pu) (h14.get y4.pb.r) h14.ext y4.fr y4.mp
  refine Nn.mk ⟨d4.p,Cell.lst y14.pb.r rfl,sync_sy y14 (by show s.D.steps+1 < 1000; omega) fun T15 d15 w15 y15 s15=>pFail0 y15 fun w16 y16 s16=>?_⟩
  exact kk T15 d15 ls4 r w16 hr hB y16 (((s4.trans s14).trans s15).trans s16)
end
end Go.Proofs.YtmbckodpbdlblaaGreat
namespace Go.Proofs.YtmbckodpbdlblaaGreat
open Go.V Go.V.Dk Go.V.Rn
section
variable {w w':Wd} {T T':Nat->Nat} {s:SA}
set_option maxHeartbeats 1000000 in
theorem pMeta_spec{p:Option Addr}{K:Int->Wd->Prop}{m:MP}{q:RK}(y:Sy w T s)(ok:m.OK)(hc:s.cm≠0)(hcm:m.cm=s.cm)(hfl:s.fl=true)
  (hq:ringF s.ks ⟨0,m.rg⟩=some q) (hL:s.L.length < 100) (hst:s.D.steps < 900) (hw:s.D.waits.length < 900)
  (kk:∀ T' d' ls' pl r w',r.length=252->B8 r->Sy w' T' { s with d:=d',D:=Sd (Wd s.D (m.cm % 2) (magic++r)),ls:=ls',L:=s.L++[⟨m.lab,q.l,pl,magic++r⟩] }->Stp T w T' w'->K 0 w') (hp:p=s.p:=by rfl):C_pager_Pager_Meta p m.cm m.pg m.rc m.gn m.lv m.rg m.tn w K:=by
 subst hp
 apply S_pager_Pager_Meta
 refine fun b w1 n1=>?_
 have y1:=y.no n1.ext
 have gb:w1.heap[b]? = some (.cells m.c.toArray 40 (0,0)):=n1.get
 have a1:=n1.at_; have z1:=n1.size
 have tb:T b=0:=y.out b (by omega)
 refine pMay y1 (If.bne (fun h=>absurd rfl h) fun _=>⟨fun u=>drewW w1=u,⟨Ext No w1,(Ext.refl _ _).drew,Nn.mk ⟨s.cm,Held.but (Cell.lst y1.pb.r rfl) (fun h=>h),If.beq (fun h=>absurd h hc) fun _=>Nn.mk ⟨true,Held.but (Cell.lst y1.pb.r (by simp [SA.pC,hfl])) (fun h=>h),If.not (If.yes ⟨m.cm,Held.but (Cell.lst gb rfl) (fun h=>h),Nn.mk ⟨s.cm,Held.but (Cell.lst y1.pb.r rfl) (fun h=>h),If.bne (fun h=>absurd hcm h) fun _=>rfl⟩⟩)⟩⟩⟩,?_⟩)
 rintro _ _ rfl
 have xd:Ext No w1 (drewW w1):=(Ext.refl _ _).drew
 have y2:=y1.no xd
 have nb:¬ (b=s.lb∨s.ls.blk=some b):=fun e=>by
  rcases e with e | e
  .have:=y1.lg.t; rw [<- e] at this; omega
  .have:=y1.lg.t2 _ e; omega
 have npb:¬ (s.pb=s.lb∨s.ls.blk=some s.pb):=fun e=>by
  have:=y1.pb.t
  rcases e with e | e
  .have:=y1.lg.t; rw [<- e] at this; omega
  .have:=y1.lg.t2 _ e; omega
 have g2:(drewW w1).heap[b]? = some (.cells m.c.toArray 40 (0,0)):=gb
 have y3:=y2.no (Ext.refl No (drewW w1)).drew
 refine ⟨Ext (fun i=>i=s.lb∨s.ls.blk=some i) (drewW w1),(Ext.refl _ _).drew,Nn.mk ⟨s.rB,Held.but (Cell.lst y2.pb.r rfl) npb,Nn.mk ⟨s.lB,Held.but (Cell.lst y2.pb.r rfl) npb,m.cm,Held.but (Cell.lst g2 rfl) nb,m.pg,Held.but (Cell.lst g2 rfl) nb,m.rc,Held.but (Cell.lst g2 rfl) nb,m.gn,Held.but (Cell.lst g2 rfl) nb,m.lv,Held.but (Cell.lst g2 rfl) nb,m.rg,Held.but (Cell.lst g2 rfl) nb,m.tn,Held.but (Cell.lst g2 rfl) nb,?_⟩⟩⟩
 refine metaSeal_spec ok y3.rn.r hq y3.lg.r (by omega) fun s4 r pl ls' w4 o4 hr hB L4 hl4 hs4 x4=>⟨x4.drew_left,If.bne (fun h=>absurd rfl h) fun _=>?_⟩
 obtain ⟨y4,s4'⟩:=y2.log (e:=⟨m.lab,q.l,pl,magic++r⟩) L4 hl4 x4.drew_left hL
 have x14:Ext (fun i=>i=s.lb∨s.ls.blk=some i) w1 w4:=xd.of_no.trans x4.drew_left fun i _ h=>h
 have g4:w4.heap[b]? = some (.cells m.c.toArray 40 (0,0)):=(x14.blk b (hlt gb) nb).trans gb
 have tb4:tup T (drewW w1).heap.size w4.heap.size 4 b=0:=(s4'.a b (hlt g2)).trans tb
 have nb4:¬ s.d.fp b:=fun e=>by have:=y4.dk.t b e; omega
 have npb4:¬ s.d.fp s.pb:=fun e=>by have:=y4.dk.t _ e; have:=y4.pb.t; simp only at this; omega
 have hB':B8 (magic++r):=L4.b8 ⟨m.lab,q.l,pl,magic++r⟩ (List.mem_append.2 (.inr (List.mem_singleton.2 rfl)))
 refine ⟨Ext s.d.fp w4,(Ext.refl _ _).drew,Nn.mk ⟨s.d.p,Held.but (Cell.lst y4.pb.r rfl) npb4,m.cm,Held.but (Cell.lst g4 rfl) nb4,m.pg,Held.but (Cell.lst g4 rfl) nb4,m.rc,Held.but (Cell.lst g4 rfl) nb4,m.gn,Held.but (Cell.lst g4 rfl) nb4,m.lv,Held.but (Cell.lst g4 rfl) nb4,m.rg,Held.but (Cell.lst g4 rfl) nb4,m.tn,Held.but (Cell.lst g4 rfl) nb4,?_⟩⟩
 refine labelOf_spec ok fun w5 x5=>⟨x5.drew_left.of_no,?_⟩
 have x45:Ext No w4 w5:=x5.drew_left
 have y5:=y4.no x45
 have hcm0:=ok.cm
 refine Ar.i64 (by show -9223372036854775808<=m.cm % 2/\m.cm % 2<=9223372036854775807; omega) (write_sy y5 (by show 0<=m.cm % 2/\m.cm % 2 < 100; omega) (o4.rd.no x45) hB' (by rw [List.length_append,hr]; rfl) (fun i hi=>?_) (by show s.D.steps < 1000; omega) (by show s.D.waits.length < 1000; omega) fun T6 d6 w6 y6 s6 x6=>⟨x45.of_no.trans x6 fun i _ h=>h,If.bne (fun h=>absurd rfl h) fun _=>?_⟩)
 .rw [tup_new T (n:=(drewW w1).heap.size) (o4.lt hi).1 (o4.lt hi).2]; decide
 refine Nn.mk ⟨d6.p,Cell.lst y6.pb.r rfl,sync_sy y6 (by show s.D.steps+1 < 1000; omega) fun T7 d7 w7 y7 s7=>pFail0 y7 fun w8 y8 s8=>?_⟩
 exact kk T7 d7 ls' pl r w8 hr hB y8 ((((((Stp.no n1.ext).nx xd).trans s4').nx x45).trans s6).trans (s7.trans s8))
end
end Go.Proofs.YtmbckodpbdlblaaGreat
namespace Go.Proofs.YtmbckodpbdlblaaGreat
open Go.V Go.V.Dk Go.V.Rn
abbrev fF(j:Nat):List Run:=if j=0 then [] else [(2,2+(j:Int))]
theorem fF_next(j:Nat):bothR (fF j) [((2+(j:Int)),(2+(j:Int))+1)]=fF (j+1):=by
 unfold fF bothR
 rw [if_neg (Nat.succ_ne_zero j)]
 by_cases h:j=0
 .subst h; rw [if_pos rfl,bothF,bothF]; simp [addR]
 .rw [if_neg h,bothF,if_pos (by show (2:Int)<=2+j; omega),bothF,bothF]
  simp only [addR,List.length_nil,Nat.lt_irrefl,false_and,if_false,List.nil_append,List.length_singleton,lastTo,setTo,gr]
  rw [if_pos (by simp)]
  simp [iMax]
  omega
theorem fF_u(j:Nat)(h:j<=98):U32 (fF j):=by
 unfold fF; split
 .exact fun r hr=>nomatch hr
 .intro r hr; simp only [List.mem_singleton] at hr; subst hr; simp only; omega
theorem fF_right(j:Nat):rightB (fF j)=true:=by
 unfold fF; split
 .rfl
 .simp [rightB,okFrom]; omega
theorem fF_has(j:Nat):Rn.hasB (2+(j:Int)) (fF j)=false:=by
 unfold fF; split
 .rfl
 .simp [Rn.hasB]
theorem fF_len(j:Nat):(fF j).length<=1:=by unfold fF; split <;> simp
section
variable {w w':Wd} {T T':Nat->Nat} {s:SA}
theorem lookB(w:Wd):(zeroValue 4).run pz w = .ok (.bool false) w:=by kernel_rfl
theorem Sy.wb{wb':Nat}(y:Sy w T s)(r:w'.heap[s.pb]? = some (.cells ({ s with wb:=wb' }:SA).pC.toArray 202 (0,0)))(x:Ext (·=s.pb) w w')(hm:MapR w.heap u32E wb' ([]:List (Int×Value)))(ht:T wb'=8):Sy w' T { s with wb:=wb' }/\Stp T w T w':=by
 have a:Ag T T w.heap.size:=fun _ _=>rfl
 have t5:=y.pb.t
 have f:∀(k:Nat),k≠5->∀ i,T i=k->¬ (i=s.pb):=fun k hk i h e=>by subst e; exact hk (h.symm.trans t5)
 have c:=y.mp.keep x a (f 8 (by decide)) (f 9 (by decide)) (f 10 (by decide))
 exact ⟨⟨y.dk.keep x a (f 1 (by decide)),y.rg.keep x a (f 2 (by decide)),y.rn.keep x a (f 3 (by decide)),y.lg.keep x a (f 4 (by decide)),⟨r,t5⟩,y.fr.keep x a (f 6 (by decide)),y.kn.keep x a (f 7 (by decide)) (f 12 (by decide)),⟨hm.ext x (f 8 (by decide) _ ht),ht,c.r2,c.t2,c.r3⟩,fun i hi=>y.out i (Nat.le_trans x.size hi)⟩,
  .of (fun i hi=>by rw [hi,t5]; decide) x a⟩
abbrev goneL(j:Nat):List Int:=(List.range j).map fun i:Nat=>2+(i:Int)
theorem goneL_succ(j:Nat):goneL (j+1)=goneL j++[2+(j:Int)]:=by simp [goneL,List.range_succ]
set_option maxHeartbeats 1000000 in
theorem sweep_spec{p:Option Addr}{reached:Sl}{K:Int->Wd->Prop}(y:Sy w T s)(hc:s.cm=0)(hps:s.ps=[])(hz:∀ i:Nat,i < 100->s.D.now.getD i []=zeroRow)(hr:reached.len=0)
  (k:∀ T' fr' wb' w',Sy w' T' { s with fr:=fr',F:=[(2,100)],wb:=wb' }->Stp T w T' w'->K 0 w') (hp:p=s.p:=by rfl):C_pager_Pager_Sweep p reached w K:=by
 subst hp
 apply S_pager_Pager_Sweep
 refine pMay y (If.bne (fun h=>absurd rfl h) fun _=>Nn.mk ⟨_,Cell.lst y.pb.r rfl,If.bne (fun h=>absurd hc h) fun _=>fun b w2 n2=>?_⟩)
 have y2:=y.no n2.ext
 have m2:MapR w2.heap u32E b ([]:List (Int×Value)):=⟨#[],0,n2.get,rfl,BornOK.nil⟩
 refine ⟨fun _ t u=>0=t/\w2=u,⟨0,rfl,rfl⟩,?_⟩
 rintro _ _ _ _ ⟨rfl,rfl⟩
 refine If.dec (fun h=>by omega) fun _=>?_
 refine ⟨fun m g d n u=>∃ j:Nat,n=2+(j:Int)/\j<=98/\m=98 - j/\d=⟨none,0,0⟩/\Ext No w2 u/\Own u.heap w2.heap.size 33 1 g ((goneL j).map (Value.int .u32)),⟨_,0,rfl,Nat.zero_le _,rfl,rfl,Ext.refl _ _,Own.nil _ _ _ _⟩,?_⟩
 rintro _ m0 g d n w3 ⟨j,rfl,hj,rfl,rfl,x3,o3⟩
 have y3:=y2.no x3
 have hgl:g.len=j:=by have:=o3.len; simpa using this.symm
 refine pHas y3 (by omega) (If.dec (fun h=>?_) fun h=>?_)
 .have hrun:=run_lookup (P:=pz) (a:=2+(j:Int)) key33 map199 (lookB w3) (m2.ext x3 fun h=>h)
  refine ⟨false,w3,hrun,If.no ?_⟩
  refine one_uint32 o3 x3.size rfl (one1 rfl) (by omega) fun s4 w4 o4 l4 x4 _=>?_
  have x24:Ext No w2 w4:=x3.trans x4 fun i hi e=>by have:=(o3.lt e).1; omega
  have y4:=y2.no x24
  refine Nn.mk ⟨_,Cell.lst y4.pb.r rfl,Ar.i64 (by omega) (diskRead_spec y4.dk.r (fun hh=>by rw [y4.dk.c.has (by omega)] at hh; cases hh) (fun _ hh=>by rw [y4.dk.c.down] at hh; cases hh) fun _ _ s5 w5 o5 x5=>If.bne (fun h=>absurd rfl h) fun _=>?_)⟩
  have ez:s.D.now.getD (2+(j:Int)).toNat []=zeroRow:=hz _ (by omega)
  rw [ez] at o5
  refine nought_spec (l:=zeroRow) o5.rd (B8.zeros 256) (by simp [zeroRow]) (If.not (If.cases (fun _=>?_) fun h=>?_))
  .refine Ar.u32 (by omega) ⟨98 - (j+1),by omega,j+1,by push_cast; omega,by omega,rfl,rfl,x24.no x5,?_⟩
   rw [goneL_succ,List.map_append]
   exact o4.no x5
  .exact absurd (fun x hx=>by unfold zeroRow at hx; exact (List.mem_replicate.1 hx).2) (of_decide_eq_false h)
 .have ej:j=98:=by omega
  subst ej
  refine blank0 (s:=s) rfl (pFail0 y3 fun w4 y4 s4=>If.bne (fun h=>absurd rfl h) fun _=>Nn.mk (St1.mk y4.pb.r (Nat.le_of_ble_eq_true rfl) rfl fun w5 h5=>?_))
  obtain ⟨y5,s5⟩:=y4.pag (fr':=⟨none,0,0⟩) (F':=fF 0) (pu':=s.pu) (h5.get y4.pb.r) h5.ext ⟨⟨rfl,Nat.le_refl _,fun h=>absurd rfl h,fun _ h=>nomatch h⟩,fun i h=>(nomatch h),fF_u 0 (by decide),by decide⟩ y4.mp
  have hg5:∀ T' u,Stp T w3 T' u->Rd u.heap g 1 ((goneL 98).map (Value.int .u32)):=fun T' u st=>o3.rd.ext st.x fun a i ha hi hh=>by
   have h1:=(o3.lt (show g.blk=some i by simp [Sl.blk,ha,hi])).1
   have:=y2.out i h1
   omega
  refine ⟨fun m t u=>∃ j:Nat,t=(j:Int)/\j<=98/\m=98 - j/\∃ T' fr',Sy u T' { s with fr:=fr',F:=fF j }/\Stp T w3 T' u,⟨_,0,rfl,Nat.zero_le _,rfl,T,_,y5,s4.trans s5⟩,?_⟩
  rintro _ m1 t w6 ⟨j,rfl,hj,rfl,T6,fr6,y6,s6⟩
  refine If.dec (fun hlt=>?_) fun hge=>?_
  .refine Ix.int (hg5 _ _ s6) (by omega) (by omega) fun bb oo _ hcell=>⟨_,hcell,?_⟩
   have eg:(goneL 98).getD ((j:Int)).toNat 0=2+(j:Int):=by
    have:j < 98:=by omega
    simp [goneL,List.getD,this]
   rw [eg]
   refine release_spec y6 (by omega) (fF_right j) (fF_has j) (fun q hq=>by simp only [hps] at hq; cases hq) (by rw [fF_next]; exact Nat.le_trans (fF_len _) (by decide)) (by rw [fF_next]; exact fF_u _ (by omega)) fun T7 fr7 w7 y7 s7=>Ar.i64 (by omega) ⟨98 - (j+1),by omega,j+1,by push_cast; omega,by omega,rfl,T7,fr7,?_,s6.trans s7⟩
   have e:=fF_next j
   simp only at y7
   rw [e] at y7
   exact y7
  .have ej:j=98:=by omega
   subst ej
   refine fun b4 w7 n7=>?_
   have a7:=n7.at_; have z7:=n7.size
   have y7:=y6.tag n7.ext 8
   have m7:MapR w7.heap u32E b4 ([]:List (Int×Value)):=⟨#[],0,n7.get,rfl,BornOK.nil⟩
   refine Nn.mk (St1.mk y7.pb.r (Nat.le_of_ble_eq_true rfl) rfl fun w8 h8=>?_)
   obtain ⟨y8,s8⟩:=y7.wb (wb':=b4) (h8.get y7.pb.r) h8.ext m7 (tup_new _ (by omega) (by omega))
   have s7:Stp T6 w6 (tup T6 w6.heap.size w7.heap.size 8) w7:=⟨tup_ag _ _ _ _,n7.ext.of_no⟩
   exact k _ fr6 b4 w8 y8 ((((Stp.no n2.ext).nx x3).trans s6).trans (s7.trans s8))
theorem newPager_spec{d:Dev}{D:DS}{g:Rgs}{R:RS}{rb mb lb:Nat}{ks:List RK}{ls:Sl}{L:List LE}{K:Option Addr->Int->Wd->Prop}(dk:DkC w T d D)(rg:RgC w T d g R)(rn:RnC w T rb mb ks)(lg:LgC w T lb ls L)
  (k:∀ T' s w',Sy w' T' s->s.d=d->s.D=D->s.g=g->s.R=R->s.rb=rb->s.mb=mb->s.ks=ks->s.lb=lb->s.ls=ls->s.L=L->s.F=[]->s.ps=[]->s.pm=none->s.pu=[]->s.cm=0->s.la=0->s.fl=false->Stp T w T' w'->K s.p 0 w') :
  C_pager_New d.p (some ⟨rb,0,none⟩) (some ⟨lb,0,none⟩) ⟨none,0,0⟩ w K:=by
 apply S_pager_New
 refine ⟨fun u=>w=u,If.no (If.no (If.no rfl)),?_⟩
 rintro _ _ rfl
 refine fun b w2 n2 b1 w3 n3 b2 w4 n4 b3 w5 n5=>?_
 have a2:=n2.at_; have a3:=n3.at_; have a4:=n4.at_; have a5:=n5.at_
 have z2:=n2.size; have z3:=n3.size; have z4:=n4.size; have z5:=n5.size
 have x:Ext No w w5:=((n2.ext.no n3.ext).no n4.ext).no n5.ext
 obtain ⟨T5,hT⟩ : ∃ T5,T5=tup (tup (tup (tup T w.heap.size w2.heap.size 7) w2.heap.size w3.heap.size 8) w3.heap.size w4.heap.size 9) w4.heap.size w5.heap.size 5:=⟨_,rfl⟩
 have a:Ag T T5 w.heap.size:=fun i hi=>by
  rw [hT,tup_ag _ _ _ _ i (by omega),tup_ag _ _ _ _ i (by omega),tup_ag _ _ _ _ i (by omega),tup_ag _ _ _ _ i hi]
 have t2:T5 b=7:=by rw [hT,tup_ag _ _ _ _ b (by omega),tup_ag _ _ _ _ b (by omega),tup_ag _ _ _ _ b (by omega)]; exact tup_new _ (by omega) (by omega)
 have t3:T5 b1=8:=by rw [hT,tup_ag _ _ _ _ b1 (by omega),tup_ag _ _ _ _ b1 (by omega)]; exact tup_new _ (by omega) (by omega)
 have t4:T5 b2=9:=by rw [hT,tup_ag _ _ _ _ b2 (by omega)]; exact tup_new _ (by omega) (by omega)
 have t5:T5 b3=5:=by rw [hT]; exact tup_new _ (by omega) (by omega)
 have f:∀(k i:Nat),T i=k->¬ No i:=fun _ _ _ h=>h
 have nil:∀(u:Wd)(c:Nat),u.heap[c]? = some (.map #[] 0)->MapR u.heap u32E c ([]:List (Int×Value)):=fun u c h=>⟨#[],0,h,rfl,BornOK.nil⟩
 have gb:∀(c:Nat)(u:Wd),u.heap[c]? = some (.map #[] 0)->Ext No u w5->w5.heap[c]? = some (.map #[] 0):=fun c u h x=>(x.blk c (hlt h) fun h=>h).trans h
 have y5:Sy w5 T5 ⟨d,D,g,R,rb,mb,ks,lb,ls,L,b3,⟨none,0,0⟩,[],b,[],b1,b2,none,none,[],0,0,false⟩ :=
  ⟨dk.keep x a (f 1),rg.keep x a (f 2),rn.keep x a (f 3),lg.keep x a (f 4),⟨n5.get,t5⟩,⟨⟨rfl,Nat.le_refl _,fun h=>absurd rfl h,fun _ h=>nomatch h⟩,fun i h=>(nomatch h),fun r h=>(nomatch h),Nat.zero_le _⟩,
   ⟨nil _ _ (gb b w2 n2.get ((n3.ext.no n4.ext).no n5.ext)),t2,fun k h=>(nomatch h)⟩,⟨nil _ _ (gb b1 w3 n3.get (n4.ext.no n5.ext)),t3,nil _ _ (gb b2 w4 n4.get n5.ext),t4,fun m h=>(nomatch h)⟩,by rw [hT]; exact tup_out _ _ _ _ (by omega)⟩
 have s5:Stp T w T5 w5:=⟨a,x.of_no⟩
 refine ⟨fun u=>Ext No w5 u,right_spec (L:=[]) ⟨rfl,Nat.le_refl _,fun h=>absurd rfl h,fun _ h=>nomatch h⟩ (fun r h=>(nomatch h)) (by decide) fun w6 x6=>If.not (If.yes (If.dec (fun h=>by simp at h) fun _=>x6)),?_⟩
 rintro _ w6 x6
 have y6:=y5.no x6
 refine Nn.mk ⟨⟨none,0,0⟩,Cell.lst y6.pb.r rfl,app_api_Run (xs:=[]) (n:=0) (Own.nil w6.heap w6.heap.size 215 2) (Nat.le_refl _) (Rd.src (s:=⟨none,0,0⟩) (Rd.nil _ _)) (by decide) fun s7 w7 o7 l7 x7 hs7=>?_⟩
 have x67:Ext No w6 w7:=x7.mono fun _ _ h=>nomatch h
 have y7:=y6.tag x67 6
 refine Nn.mk (St1.mk y7.pb.r (Nat.le_of_ble_eq_true rfl) rfl fun w8 h8=>?_)
 obtain ⟨y8,s8⟩:=y7.pag (fr':=s7) (F':=[]) (pu':=[]) (h8.get y7.pb.r) h8.ext ⟨o7.rd,fun i hi=>⟨tup_new _ (o7.lt hi).1 (o7.lt hi).2,(o7.lt hi).2⟩,fun r h=>(nomatch h),Nat.zero_le _⟩ y7.mp
 exact k _ _ w8 y8 rfl rfl rfl rfl rfl rfl rfl rfl rfl rfl rfl rfl rfl rfl rfl rfl rfl ((s5.nx x6).trans ((⟨tup_ag _ _ _ _,x67.of_no⟩ : Stp T5 w6 _ w7).trans s8))
end
end Go.Proofs.YtmbckodpbdlblaaGreat
namespace Go.Proofs.YtmbckodpbdlblaaGreat
open Go.V Go.V.Dk Go.V.Rn
section
variable {w w':Wd} {T T':Nat->Nat} {s:SA}
abbrev SA.gB(s:SA):Option Addr:=s.g.p
theorem comMay{p pr:Option Addr}{K:Int->Wd->Prop}(y:Sy w T s)(k:K 0 w)(hp:p=s.p:=by rfl)(hpr:pr=s.gB:=by rfl):C_commit_may p pr w K:=by
 subst hp
 subst hpr
 apply S_commit_may
 refine ⟨fun t u=>false=t/\w=u,If.no ⟨rfl,rfl⟩,?_⟩
 rintro _ _ _ ⟨rfl,rfl⟩
 exact If.no (pFailed0 y (If.no k))
theorem Sy.dis(y:Sy w T s):∀ i,s.g.fp i->¬ s.d.fp i:=fun i h h'=>by have:=y.dk.t i h'; have:=y.rg.t i h; omega
theorem reserve_sy{p:Option Addr}{K:Int->Int->Wd->Prop}(y:Sy w T s)(h0:0<=s.R.reserved)(h1:s.R.reserved < s.R.limit)(h2:s.R.limit<=18446744073709551615)(hs:s.D.steps < 1000)
  (k:∀ w',Sy w' T { s with R:={ s.R with reserved:=s.R.reserved+1 },D:=Up s.D }->Stp T w T w'->K (s.R.reserved+1) 0 w') (hp:p=s.gB:=by rfl):C_regs_Regs_Reserve p w K:=by
 subst hp
 have c:=y.dk.c
 have st:=c.st
 have e:reserveR s.R s.D=(s.R.reserved+1,0,{ s.R with reserved:=s.R.reserved+1 },Up s.D):=by
  unfold reserveR; rw [if_neg (by omega),c.step,if_pos rfl]
 refine regsReserve_spec y.rg.r y.dk.r y.rg.d y.dis (by omega) ⟨h0,h2⟩ fun w' r q x=>?_
 rw [e] at r q ⊢
 obtain ⟨y',s'⟩:=y.regs r q x y.rg.d (c.up hs)
 exact k w' y' s'
theorem advance_sy{p:Option Addr}{n:Int}{K:Int->Wd->Prop}(y:Sy w T s)(h0:s.R.committed < n)(h1:n<=s.R.reserved)(hs:s.D.steps < 1000)
  (k:∀ w',Sy w' T { s with R:={ s.R with committed:=n },D:=Up s.D }->Stp T w T w'->K 0 w') (hp:p=s.gB:=by rfl):C_regs_Regs_Advance p n w K:=by
 subst hp
 have c:=y.dk.c
 have st:=c.st
 have e:advanceR s.R s.D n=(0,{ s.R with committed:=n },Up s.D):=by
  unfold advanceR; rw [if_neg (by omega),c.step,if_pos rfl]
 refine regsAdvance_spec y.rg.r y.dk.r y.rg.d y.dis (by omega) fun w' r q x=>?_
 rw [e] at r q ⊢
 obtain ⟨y',s'⟩:=y.regs r q x y.rg.d (c.up hs)
 exact k w' y' s'
theorem start_spec{p pr:Option Addr}{K:Int->Int->Wd->Prop}(y:Sy w T s)(hc:s.cm=0)(hla:0<=s.la/\s.la<=s.R.reserved)(h1:s.R.reserved < s.R.limit)(h2:s.R.limit<=18446744073709551615)(hs:s.D.steps < 1000)(hp:0<=s.R.committed/\(s.R.reserved+1) % 2≠s.R.committed % 2)
  (k:∀ T' m m' w',Sy w' T' { s with R:={ s.R with reserved:=s.R.reserved+1 },D:=Up s.D,cm:=s.R.reserved+1,la:=s.R.reserved+1,fl:=false,pm:=some m,dm:=some m',pu:=[] }->Stp T w T' w'->K (s.R.reserved+1) 0 w') (hp:p=s.p:=by rfl) (hpr:pr=s.gB:=by rfl):C_commit_Start p pr w K:=by
 subst hp
 subst hpr
 apply S_commit_Start
 refine comMay y (If.bne (fun h=>absurd rfl h) fun _=>⟨fun u=>w=u,pCommit y (fun _=>If.bne (fun h=>absurd rfl h) fun _=>pLast y (regsReserved_spec y.rg.r (If.dec (fun h=>by omega) fun _=>rfl))) (fun h=>absurd hc h),?_⟩)
 rintro _ _ rfl
 refine reserve_sy y (by omega) h1 h2 hs fun w1 y1 s1=>⟨fun n e u=>s.R.reserved+1=n/\0=e/\w1=u,⟨fun t u=>false=t/\w1=u,If.beq (fun _=>⟨by decide,Nm.as (tmod_nat (by omega)) (regsCommitted_spec y1.rg.r ⟨by decide,Nm.as (tmod_nat (by show 0<=s.R.committed; omega)) ⟨(beq_false_of_ne hp.2).symm,rfl⟩⟩)⟩) (fun h=>absurd rfl h),?_⟩,?_⟩
 .rintro _ _ _ ⟨rfl,rfl⟩
  exact If.no ⟨rfl,rfl,rfl⟩
 .rintro _ _ _ _ ⟨rfl,rfl,rfl⟩
  exact If.bne (fun h=>absurd rfl h) fun _=>begin_spec y1 hc (by show s.la < _; omega) fun T' m m' w' y' s'=>k T' m m' w' y' (s1.trans s')
abbrev SA.f1(s:SA)(e:LE)(d:Dev)(n:Int)(ls:Sl):SA:={ s with d:=d,D:=Sd (Wd s.D n e.blk),ls:=ls,L:=s.L++[e] }
set_option maxHeartbeats 2000000 in
theorem finish_spec{p pr:Option Addr}{K:Int->Wd->Prop}{m:MP}{k:KP}{mm:Nat}{q q0:RK}(y:Sy w T s)(ok:m.OK)(hc:s.cm≠0)(hcm:m.cm=s.cm)(hfl:s.fl=false)(hm:s.pm=some mm)(hpu:s.pu=[k.n])(hk:getA k.n (s.ps.map KP.e)=some k.v)(hkm:k∈s.ps)(h2:2<=k.n/\k.n < 100)
  (hq:ringF s.ks ⟨k.l.t,k.l.gn⟩=some q) (hq0:ringF s.ks ⟨0,m.rg⟩=some q0) (hL:s.L.length < 90) (hst:s.D.steps < 800) (hw:s.D.waits.length < 800) (hR:s.R.reserved=s.cm) (hRc:s.R.committed < s.cm)
  (kk:∀ T' d' ls' pl r r2 w',r.length=252->B8 r->r2.length=252->B8 r2->Sy w' T' { s with d:=d',D:=Up (Sd (Wd (Sd (Wd s.D k.n (magic++r))) (m.cm % 2) (magic++r2))),ls:=ls',L:=(s.L++[⟨k.l,q.l,k.b,magic++r⟩])++[⟨m.lab,q0.l,pl,magic++r2⟩],fl:=true,R:={ s.R with committed:=m.cm },cm:=0 }->Stp T w T' w'->K 0 w') (hp:p=s.p:=by rfl) (hpr:pr=s.gB:=by rfl):C_commit_Finish p pr m.cm m.pg m.rc m.gn m.lv m.rg m.tn w K:=by
 subst hp
 subst hpr
 apply S_commit_Finish
 refine fun b w1 n1 b1 w2 n2 b2 w3 n3=>?_
 have a1:=n1.at_; have a2:=n2.at_; have a3:=n3.at_; have z1:=n1.size; have z2:=n2.size; have z3:=n3.size
 have x3:Ext No w w3:=(n1.ext.no n2.ext).no n3.ext
 have y3:=y.no x3
 have g0:w3.heap[b]? = some (.cells [Value.pointer s.p].toArray 32 (0,0)):=((n2.ext.no n3.ext).blk b (hlt n1.get) fun h=>h).trans n1.get
 have g1:w3.heap[b1]? = some (.cells [Value.pointer s.gB].toArray 29 (0,0)):=(n3.ext.blk b1 (hlt n2.get) fun h=>h).trans n2.get
 have g2:w3.heap[b2]? = some (.cells m.c.toArray 40 (0,0)):=n3.get
 refine ⟨_,Cell.lst g0 rfl,_,Cell.lst g1 rfl,comMay y3 (If.bne (fun h=>absurd rfl h) fun _=>⟨_,Cell.lst g0 rfl,pCommit y3 (fun h=>absurd h hc) fun _=>?_⟩)⟩
 have y4:=y3.no (Ext.refl No w3).drew
 refine ⟨fun u=>Ext No w3 u,If.beq (fun h=>absurd h hc) fun _=>?_,?_⟩
 .rw [hfl]
  exact If.no ⟨_,Cell.lst (w:=drewW w3) g2 rfl,If.bne (fun h=>absurd hcm.symm h) fun _=>⟨_,Cell.lst (w:=drewW w3) g1 rfl,regsReserved_spec y4.rg.r (If.bne (fun h=>absurd hR.symm h) fun _=>⟨_,Cell.lst (w:=drewW w3) g2 rfl,_,Cell.lst (w:=drewW w3) g2 rfl,_,Cell.lst (w:=drewW w3) g2 rfl,_,Cell.lst (w:=drewW w3) g2 rfl,_,Cell.lst (w:=drewW w3) g2 rfl,_,Cell.lst (w:=drewW w3) g2 rfl,_,Cell.lst (w:=drewW w3) g2 rfl,metaRight_spec ok fun w7 x7=>If.bne (fun h=>absurd rfl h) fun _=>x7.drew_left⟩)⟩⟩
 rintro _ w5 x5
 have x05:=x3.no x5
 have z5:=x5.size
 have y5:=y.no x05
 have g0':w5.heap[b]? = _:=(x5.blk b (hlt g0) fun h=>h).trans g0
 have g1':w5.heap[b1]? = _:=(x5.blk b1 (hlt g1) fun h=>h).trans g1
 have g2':w5.heap[b2]? = _:=(x5.blk b2 (hlt g2) fun h=>h).trans g2
 refine ⟨_,Cell.lst g0' rfl,_,Cell.lst g0' rfl,fun b3 w6 n6=>?_⟩
 have x56:=n6.ext
 have a6:=n6.at_; have z6:=n6.size
 have y6:=y.no (x05.no x56)
 have h0:w6.heap[b]? = _:=(x56.blk b (hlt g0') fun h=>h).trans g0'
 have h1:w6.heap[b1]? = _:=(x56.blk b1 (hlt g1') fun h=>h).trans g1'
 have h2':w6.heap[b2]? = _:=(x56.blk b2 (hlt g2') fun h=>h).trans g2'
 have h3:=n6.get
 have t0:T b=0:=y.out b (by omega)
 have t1:T b1=0:=y.out b1 (by omega)
 have t2:T b2=0:=y.out b2 (by omega)
 have t3:T b3=0:=y.out b3 (by omega)
 refine ⟨fun n t u=>(n=4/\t=0/\w6=u) ∨
  (n=3/\t=1/\∃ T' d ls r,r.length=252/\B8 r/\Sy u T' { s with d:=d,D:=Sd (Wd s.D k.n (magic++r)),ls:=ls,L:=s.L++[⟨k.l,q.l,k.b,magic++r⟩],fl:=true }/\Stp T w6 T' u) ∨
  (n=2/\t=2/\∃ T' d ls r pl r2,r.length=252/\B8 r/\r2.length=252/\B8 r2/\Sy u T' { s with d:=d,D:=Sd (Wd (Sd (Wd s.D k.n (magic++r))) (m.cm % 2) (magic++r2)),ls:=ls,L:=(s.L++[⟨k.l,q.l,k.b,magic++r⟩])++[⟨m.lab,q0.l,pl,magic++r2⟩],fl:=true }/\Stp T w6 T' u) ∨
  (n=1/\t=3/\∃ T' d ls r pl r2,r.length=252/\B8 r/\r2.length=252/\B8 r2/\Sy u T' { s with d:=d,D:=Up (Sd (Wd (Sd (Wd s.D k.n (magic++r))) (m.cm % 2) (magic++r2))),ls:=ls,L:=(s.L++[⟨k.l,q.l,k.b,magic++r⟩])++[⟨m.lab,q0.l,pl,magic++r2⟩],fl:=true,R:={ s.R with committed:=m.cm } }/\Stp T w6 T' u) ∨
  (n=0/\t=4/\∃ T' d ls r pl r2,r.length=252/\B8 r/\r2.length=252/\B8 r2/\Sy u T' { s with d:=d,D:=Up (Sd (Wd (Sd (Wd s.D k.n (magic++r))) (m.cm % 2) (magic++r2))),ls:=ls,L:=(s.L++[⟨k.l,q.l,k.b,magic++r⟩])++[⟨m.lab,q0.l,pl,magic++r2⟩],fl:=true,R:={ s.R with committed:=m.cm },cm:=0 }/\Stp T w6 T' u),⟨4, .inl ⟨rfl,rfl,rfl⟩⟩,?_⟩
 rintro _ n t u (⟨rfl,rfl,rfl⟩ | ⟨rfl,rfl,T1,d,ls,r,hr,hB,y7,s7⟩ | ⟨rfl,rfl,T1,d,ls,r,pl,r2,hr,hB,hr2,hB2,y7,s7⟩ | ⟨rfl,rfl,T1,d,ls,r,pl,r2,hr,hB,hr2,hB2,y7,s7⟩ | ⟨rfl,rfl,T1,d,ls,r,pl,r2,hr,hB,hr2,hB2,y7,s7⟩)
 .refine If.dec (fun _=>Ix.arr (by decide) (by decide) ⟨_,Cell.lst h3 rfl,V_pager_Pager_Flush ?_⟩) fun h=>absurd (by decide) h
  refine flush_spec y6 hc hfl hm hpu hk hkm h2 hq (by omega) (by omega) (by omega) fun T' d' ls' r w' hr hB y' s'=>If.bne (fun h=>absurd rfl h) fun _=>Ar.i64 (by decide) ⟨3,by decide, .inr (.inl ⟨rfl,rfl,T',d',ls',r,hr,hB,y',s'⟩)⟩
 .refine If.dec (fun _=>Ix.arr (by decide) (by decide) ⟨_,Cell.lst (s7.blk h3 (.inl t3)) rfl,V_commit_Finish_1 (S_commit_Finish_1 ?_)⟩) fun h=>absurd (by decide) h
  have k0:=s7.blk h0 (.inl t0)
  have k2:=s7.blk h2' (.inl t2)
  refine ⟨_,Cell.lst k0 rfl,_,Cell.lst k2 rfl,_,Cell.lst k2 rfl,_,Cell.lst k2 rfl,_,Cell.lst k2 rfl,_,Cell.lst k2 rfl,_,Cell.lst k2 rfl,_,Cell.lst k2 rfl,?_⟩
  refine pMeta_spec y7 ok hc hcm rfl hq0 (by simp only [List.length_append,List.length_singleton]; omega) (by show s.D.steps+1+1 < 900; omega) (by show 0 < 900; decide) fun T' d' ls' pl r2 w' hr2 hB2 y' s'=>If.bne (fun h=>absurd rfl h) fun _=>Ar.i64 (by decide) ⟨2,by decide, .inr (.inr (.inl ⟨rfl,rfl,T',d',ls',r,pl,r2,hr,hB,hr2,hB2,y',s7.trans s'⟩))⟩
 .refine If.dec (fun _=>Ix.arr (by decide) (by decide) ⟨_,Cell.lst (s7.blk h3 (.inl t3)) rfl,V_commit_Finish_2 (S_commit_Finish_2 ?_)⟩) fun h=>absurd (by decide) h
  have k1:=s7.blk h1 (.inl t1)
  have k2:=s7.blk h2' (.inl t2)
  refine ⟨_,Cell.lst k1 rfl,_,Cell.lst k2 rfl,?_⟩
  refine advance_sy y7 (by show s.R.committed < m.cm; omega) (by show m.cm<=s.R.reserved; omega) (by show s.D.steps+1+1+1+1 < 1000; omega) fun w' y' s'=>If.bne (fun h=>absurd rfl h) fun _=>Ar.i64 (by decide) ⟨1,by decide, .inr (.inr (.inr (.inl ⟨rfl,rfl,T1,d,ls,r,pl,r2,hr,hB,hr2,hB2,y',s7.trans s'⟩)))⟩
 .refine If.dec (fun _=>Ix.arr (by decide) (by decide) ⟨_,Cell.lst (s7.blk h3 (.inl t3)) rfl,V_pager_Pager_Scrub ?_⟩) fun h=>absurd (by decide) h
  refine scrub_spec y7 (.inr rfl) fun w' y' s'=>If.bne (fun h=>absurd rfl h) fun _=>Ar.i64 (by decide) ⟨0,by decide, .inr (.inr (.inr (.inr ⟨rfl,rfl,T1,d,ls,r,pl,r2,hr,hB,hr2,hB2,y',s7.trans s'⟩)))⟩
 .refine If.dec (fun h=>absurd h (by decide)) fun _=>kk T1 d ls pl r r2 u hr hB hr2 hB2 y7 ((Stp.no (x05.no x56)).trans s7)
theorem revive_spec{d:Dev}{g:Rgs}{R:RS}{rb:Nat}{K:Int->Int->Int->Int->Int->Int->Int->Int->Wd->Prop}(r:RegsR w.heap g R)(h0:R.committed=0)(k:∀ w',Ext No w w'->K 0 0 0 0 0 0 0 0 w'):C_revive_Open d.p g.p (some ⟨rb,0,none⟩) w K:=by
 apply S_revive_Open
 refine fun b w1 n1=>⟨fun u=>w1=u,If.no (If.no (If.no rfl)),?_⟩
 rintro _ _ rfl
 have hb:=n1.at_
 refine regsCommitted_spec (r.ext n1.ext fun _ _ h=>h) ?_
 rw [h0]
 refine If.beq (fun _=>⟨rfl,StN.mk n1.get (Nat.le_refl 7) (oneL rfl) fun w2 h2=>?_⟩) fun h=>absurd rfl h
 have g2:=h2.get n1.get
 exact ⟨_,Cell.lst g2 rfl,_,Cell.lst g2 rfl,_,Cell.lst g2 rfl,_,Cell.lst g2 rfl,_,Cell.lst g2 rfl,_,Cell.lst g2 rfl,_,Cell.lst g2 rfl,k w2 (n1.ext.out h2.ext (by omega))⟩
end
end Go.Proofs.YtmbckodpbdlblaaGreat
