/- Texts for LPlayUnlines,LPlayParses,LPlayTexts,LPlayNotes,LPlayLines, part 13. -/
import Derived.Lib.ConvBytes
import Derived.Test.YtimonamjecmlcaaGreatDoorPp12
set_option maxRecDepth 100000
namespace Go.V
def valB(l:Bs):Nat:=l.foldl (fun n b=>n * 10+(b.toNat - 48)) 0
theorem valB_snoc(l:Bs)(b:UInt8):valB (l++[b])=valB l * 10+(b.toNat - 48):=by simp [valB]
theorem valB_mono:∀(r l:Bs),valB l<=valB (l++r)
 | [],l=>by simp
 | b::r,l=>by
  have ih:=valB_mono r (l++[b])
  rw [valB_snoc] at ih
  rw [List.append_assoc,List.singleton_append] at ih
  omega
theorem valB_take(l:Bs)(j:Nat):valB (l.take j)<=valB l:=by
 conv=>rhs; rw [<- List.take_append_drop j l]
 exact valB_mono _ _
abbrev isDig(b:UInt8):Prop:=48<=b.toNat/\b.toNat<=57
theorem decB_dig:∀ u,∀ b∈decB u,isDig b:=fun u=>by
 induction u using Nat.strongRecOn with
 | _ u ih =>
  by_cases h:u < 10
  .rw [decB_lt h]
   intro b hb
   rw [List.mem_singleton] at hb
   subst hb
   simp only [isDig,UInt8.toNat_ofNat']; omega
  .rw [decB_ge (by omega)]
   intro b hb
   rcases List.mem_append.1 hb with h1 | h1
   .exact ih (u / 10) (by omega) b h1
   .rw [List.mem_singleton] at h1
    subst h1
    simp only [isDig,UInt8.toNat_ofNat']; omega
theorem decB_ne(u:Nat):decB u≠[]:=by
 by_cases h:u < 10
 .rw [decB_lt h]; simp
 .rw [decB_ge (by omega)]; simp
theorem valB_dec:∀ u,valB (decB u)=u:=fun u=>by
 induction u using Nat.strongRecOn with
 | _ u ih =>
  by_cases h:u < 10
  .rw [decB_lt h]
   simp only [valB,List.foldl_cons,List.foldl_nil,UInt8.toNat_ofNat']; omega
  .rw [decB_ge (by omega),valB_snoc,ih (u / 10) (by omega)]
   simp only [UInt8.toNat_ofNat']; omega
def NoDec(B:Nat)(l:Bs):Prop:=∀ m,m < 2 ^ B->l≠decB m
theorem NoDec.big{B:Nat}{l:Bs}(h:2 ^ B<=valB l):NoDec B l:=fun m hm e=>by rw [e,valB_dec] at h; omega
theorem NoDec.chr{B:Nat}{l:Bs}{b:UInt8}(h:b∈l)(hb:¬ isDig b):NoDec B l:=fun m _ e=>hb (decB_dig m b (e ▸ h))
end Go.V
namespace Go.Proofs.YtimonamjecmlcaaGreatDoor
open Go.V
section
variable {w:Wd}
theorem run_err(x y:Operand)(a b:Int)(w:Wd):Sem.run pz (ptrCmp .eql 68 x y (.iface 157 (.int .i64 a)) (.iface 157 (.int .i64 b))) w = .ok (.bool (a == b)) w:=by
 unfold ptrCmp
 rw [Sem.run_bind,eqGuard_quiet (by rintro c d ⟨h,_⟩; cases h) (by intro h; cases h)]
 show Sem.run pz (binOp .eql 68 (.iface 157 (.int .i64 a)) (.iface 157 (.int .i64 b))) w=_
 simp only [binOp]
 kernel_rfl
theorem copy_str{d:Sl}{l:Bs}{b off:Nat}{row:List Value}{T:TypeId}{K:Int->Wd->Prop}(hd:d.a=some ⟨b,off,none⟩)(hb:w.heap[b]? = some (.cells row.toArray T (0,0)))(hl:d.len=l.length)
  (hle:off+l.length<=row.length) (hk:∀ w',Wrt w b (.cells (setL row off (byV l)).toArray T (0,0)) w'->K (l.length:Nat) w'):CopyW pz 25 9 d (.string (stB l)) K w:=by
 refine ⟨_,_,fun ty=>?_,hk _ rfl⟩
 have h1:=(src_str l w).get w rfl
 have hst:=StN_run (P:=pz) (b:=b) (T:=T) (fz:=(0,0)) (byV l) w row.toArray off 0 hb (by simp only [byV_len,List.size_toArray]; omega) (.inr (.inr (Nat.le_refl _))) (byV_one l)
 obtain ⟨da,dl,dc⟩:=d
 simp only at hd hl
 subst hd hl
 simp only [Nat.add_zero] at hst
 have ht:Tryz.prog.underlying 25=some (.slice 5):=by kernel_rfl
 have hi:Tryz.prog.info? 5=some Tryz.t5:=by kernel_rfl
 have hsz:Tryz.t5.size=1:=by kernel_rfl
 have hm:(stB l).size=l.length:=stB_size l
 have h2:(Builtin.firstCells 1 l.length (.string (stB l))).run pz w = .ok (byV l).toArray w:=h1
 generalize byV l=bv at h2 hst ⊢
 simp [Builtin.copy_,run_und ht,Builtin.lenOf,run_size hi,hsz,hm,h2,hst,goInt]
theorem clone_spec{l:Bs}{K:ByteArray->Wd->Prop}(hl:l.length<=100000000)(k:∀ r w',Ext No w w'->K r w'):C_internal_stringslite_Clone (stB l) w K:=by
 apply S_internal_stringslite_Clone
 unfold F_internal_stringslite_Clone
 simp only [stB_size]
 refine If.beq (fun _=>k _ w (Ext.refl _ _)) fun h0=>?_
 have hne:l≠[]:=by intro e; subst e; simp at h0
 have hpos:0 < l.length:=List.length_pos_iff.2 hne
 refine MkW.mk (by omega) (Int.le_refl _) (by omega) (by omega) fun b w1 n1=>?_
 have hb:=n1.at_; have z1:=n1.size
 have e1:(List.replicate ((l.length:Int)).toNat [Value.int .u8 0]).flatten=List.replicate l.length (.int .u8 0):=by simp
 have g1:=n1.get
 rw [e1] at g1
 refine copy_str (b:=b) (off:=0) rfl g1 rfl (by simp) fun w2 h2=>?_
 rw [setL_all _ _ (by simp)] at h2
 have g2:=h2.get g1
 have x2:Ext (·=b) w1 w2:=h2.ext
 have x02:Ext No w w2:=n1.ext.trans x2 fun q hq h=>by omega
 refine ⟨_,rfl,by omega,by simp only; omega,?_⟩
 have ea:({ block:=b,off:=0,spot:=none }:Addr).add ((0:Int).toNat * 1)=⟨b,0,none⟩:=by rw [addr_add_none rfl]; rfl
 refine ⟨stB l,w2.freeze ⟨b,0,none⟩ l.length,?_,k _ _ (x02.trans (ext_freeze _ _ _) fun q hq h=>by rw [h] at hq; show False; simp only at hq; omega)⟩
 rw [ea]
 refine Lib.run_unsafeString_row w2 111 3 9 5 (by kernel_rfl) (by kernel_rfl) b _ (shape_of g2) l hne (by simp) (by omega) fun j x hx=>?_
 rw [addr_add_none rfl,Lib.cell_of_heap g2]
 simp only [Nat.zero_add,List.getElem?_toArray]
 have hj:=(List.getElem?_eq_some_iff.1 hx).1
 simp [hx]
theorem toError_spec{fn l:Bs}{base bits a:Int}{K:Value->Wd->Prop}(g:Gl w.heap)(ha:a=1∨a=2)(hl:l.length<=100000000)(k:∀ b w',Ext No w w'->K (.iface 158 (.pointer (some b))) w'):C_strconv_toError (stB fn) (stB l) base bits (.iface 157 (.int .i64 a)) w K:=by
 apply S_strconv_toError
 have syn:∀{w0:Wd}{K0:Option Addr->Wd->Prop},Gl w0.heap->(∀ b w',Ext No w0 w'->K0 (some b) w')->C_strconv_syntaxError (stB fn) (stB l) w0 K0:=fun {w0 K0} g0 k0=>by
  apply S_strconv_syntaxError
  obtain ⟨v,hv,hi⟩:=g0.syn
  refine ⟨Ext No w0,(Ext.refl _ _).drew,v,Held.no hv,clone_spec (w:=drewW w0) hl fun r w1 x1=>⟨x1.drew_left,?_,NewW.mk fun b w2 n2=>⟨x1.drew_left.no n2.ext,k0 _ w2 (x1.drew_left.no n2.ext)⟩⟩⟩
  cases v <;> first | rfl | exact hi.elim
 have rng:∀{w0:Wd}{K0:Option Addr->Wd->Prop},Gl w0.heap->(∀ b w',Ext No w0 w'->K0 (some b) w')->C_strconv_rangeError (stB fn) (stB l) w0 K0:=fun {w0 K0} g0 k0=>by
  apply S_strconv_rangeError
  obtain ⟨v,hv,hi⟩:=g0.rng
  refine ⟨Ext No w0,(Ext.refl _ _).drew,v,Held.no hv,clone_spec (w:=drewW w0) hl fun r w1 x1=>⟨x1.drew_left,?_,NewW.mk fun b w2 n2=>⟨x1.drew_left.no n2.ext,k0 _ w2 (x1.drew_left.no n2.ext)⟩⟩⟩
  cases v <;> first | rfl | exact hi.elim
 refine ⟨_,w,run_err _ _ _ _ w,?_⟩
 rcases ha with rfl | rfl
 .exact If.no ⟨_,w,run_err _ _ _ _ w,If.yes (rng g fun b w' x=>k b w' x)⟩
 .exact If.yes (syn g fun b w' x=>k b w' x)
theorem u64_pow{B:Nat}(h:B<=64)(hb:1<=B){K:Int->Prop}(k:K ((2 ^ B - 1:Nat):Int)):Ar .u64 (B:Int) fun z_3=>(0:Int)<=z_3/\Ar .u64 (1 * 2 ^ min (Int.toNat z_3) (IntKind.bits .u64)) fun z_4=>Ar .u64 (z_4 - 1) K:=by
 have hp:1<=2 ^ B:=Nat.one_le_two_pow
 have h64:2 ^ B<=2 ^ 64:=Nat.pow_le_pow_right (by decide) h
 refine Ar.u64 (by omega) ⟨by omega,?_⟩
 have e:(1 * 2 ^ min (B:Int).toNat (IntKind.bits .u64):Int)=((2 ^ B:Nat):Int):=by
  rw [Int.toNat_natCast,Nat.min_eq_left (show B<=IntKind.bits .u64 from h)]; norm_cast; omega
 rw [e]
 refine Ar.u64m (Ar.u64m ?_)
 have e2:(((2 ^ B:Nat):Int) % 18446744073709551616 - 1) % 18446744073709551616=((2 ^ B - 1:Nat):Int):=by
  rcases Nat.lt_or_ge B 64 with h1 | h1
  .have:2 ^ B<=2 ^ 63:=Nat.pow_le_pow_right (by decide) (by omega)
   omega
  .have:B=64:=by omega
   subst this; decide
 rw [e2]; exact k
theorem lower_spec{c:Int}{K:Int->Wd->Prop}(k:K (bitI .or .u8 c 32) w):C_internal_strconv_lower c w K:=by
 apply S_internal_strconv_lower
 exact Nm.mk k
set_option maxHeartbeats 2000000 in
theorem parseI_spec{l:Bs}{B:Nat}{K:Int->Value->Wd->Prop}(hB:1<=B/\B<=64)(hl:l.length<=100000000)
  (k0:∀ n w',n < 2 ^ B->valB l=n->Ext No w w'->K (n:Int) .nilIface w') (k1:∀ n a w',a=1∨a=2->NoDec B l->Ext No w w'->K n (.iface 157 (.int .i64 a)) w'):C_internal_strconv_ParseUint (stB l) 10 (B:Int) w K:=by
 apply S_internal_strconv_ParseUint
 refine If.cases (fun h=>?_) fun h=>?_
 .rw [stB_toList,show (⟨#[]⟩ : ByteArray).toList=[] from toList_mk []] at h
  have:l=[]:=eq_of_beq h
  subst this
  exact k1 _ 2 w (.inr rfl) (fun m _ e=>decB_ne m e.symm) (Ext.refl _ _)
 refine ⟨fun s b w'=>s=stB l/\b=10/\w'=w,⟨fun t w'=>t=true/\w'=w,If.dec (fun _=>⟨rfl,rfl⟩) fun h=>(h (by decide)).elim,?_⟩,?_⟩
 .rintro _ t w1 ⟨rfl,rfl⟩; exact If.yes ⟨rfl,rfl,rfl⟩
 rintro _ _ _ w1 ⟨rfl,rfl,rfl⟩
 refine ⟨fun b w'=>b=B/\w'=w1,If.beq (fun h=>by omega) fun _=>If.dec (fun h=>by omega) fun _=>If.dec (fun h=>by omega) fun _=>⟨rfl,rfl⟩,?_⟩
 rintro _ _ w2 ⟨rfl,rfl⟩
 refine ⟨fun c w'=>c=1844674407370955162/\w'=w2,If.yes ⟨rfl,rfl⟩,?_⟩
 rintro _ _ w3 ⟨rfl,rfl⟩
 refine u64_pow hB.2 hB.1 ?_
 have hcv:=Lib.run_convert_string_bytes (P:=pz) w3 9 25 5 (stB l) (u := .string) (by kernel_rfl) (by kernel_rfl) (by kernel_rfl)
 have hx:Ext No w3 (Lib.bytesWorld w3 5 (stB l)):=⟨rfl,rfl,rfl,by rw [Lib.bytesWorld_size]; omega,fun q hq _=>Lib.bytesWorld_at_old w3 5 (stB l) q hq⟩
 have hcell:∀ j (hj:j < l.length),Cell (Lib.bytesWorld w3 5 (stB l)) ⟨w3.heap.size,j,none⟩ (.int .u8 (l[j].toNat:Int)):=fun j hj=>by
  have:=Lib.bytesWorld_cell w3 5 (stB l) j (by rw [stB_size]; exact hj)
  rw [stB_data] at this
  unfold Cell; rw [this]; simp [List.getD,hj]
 rw [stB_size] at hcv
 refine ⟨⟨some ⟨w3.heap.size,0,none⟩,l.length,grownCap w3 l.length 0 5⟩,_,hcv,?_⟩
 generalize Lib.bytesWorld w3 5 (stB l)=w4 at hx hcell
 generalize w3.heap.size=hb at hcell
 have p1:1<=2 ^ B:=Nat.one_le_two_pow
 have p64:2 ^ B<=2 ^ 64:=Nat.pow_le_pow_right (by decide) hB.2
 refine ⟨fun m un n t w'=>∃ j:Nat,un=false/\t=j/\j<=l.length/\m=l.length - j/\n=(valB (l.take j):Nat)/\valB (l.take j) < 2 ^ B/\w'=w4,⟨_,0,rfl,rfl,Nat.zero_le _,rfl,by simp [valB],by simp [valB]; omega,rfl⟩,?_⟩
 rintro _ m0 _ _ _ w5 ⟨j,rfl,rfl,hj,rfl,rfl,hv,rfl⟩
 refine If.dec (fun h=>?_) fun h=>?_
 .simp only at h
  have hjl:j < l.length:=by omega
  refine ⟨_,rfl,by omega,by simp only; omega,?_⟩
  rw [addr_add_none rfl]
  refine ⟨_,by simpa using hcell j hjl,?_⟩
  have hb:=(l[j]).toNat_lt
  have hmem:l[j]∈l:=List.getElem_mem _
  have htk:l.take (j+1)=l.take j++[l[j]]:=by rw [List.take_add_one,List.getElem?_eq_getElem hjl]; rfl
  have hvs:valB (l.take (j+1))=valB (l.take j) * 10+(l[j].toNat - 48):=by rw [htk,valB_snoc]
  have hvl:=valB_take l (j+1)
  generalize l[j]=c at *
  refine ⟨fun un d w'=>un=false/\w'=w5/\((isDig c/\d=((c.toNat - 48:Nat):Int))∨(¬ isDig c/\10<=d/\d<=255)),⟨fun t w'=>t=false/\w'=w5,If.beq (fun _=>⟨rfl,rfl⟩) (fun _=>⟨rfl,rfl⟩),?_⟩,?_⟩
  .rintro _ _ w6 ⟨rfl,rfl⟩
   refine If.no ⟨fun t w'=>t=decide (isDig c)/\w'=w6,If.dec (fun h1=>⟨?_,rfl⟩) (fun h1=>⟨?_,rfl⟩),?_⟩
   .exact decide_eq_decide.2 ⟨fun h2=>⟨by omega,by omega⟩,fun h2=>by have:=h2.2; omega⟩
   .exact (decide_eq_false fun h2=>h1 (by have:=h2.1; omega)).symm
   rintro _ _ w7 ⟨rfl,rfl⟩
   refine If.dec (fun h1=>Ar.u8 (by have:=h1.1; omega) ⟨rfl,rfl, .inl ⟨h1,by have:=h1.1; omega⟩⟩) fun h1=>?_
   refine ⟨fun t w'=>w'=w7/\(t=true->97<=bitI .or .u8 (c.toNat:Int) 32/\bitI .or .u8 (c.toNat:Int) 32<=122),lower_spec (If.dec (fun h2=>lower_spec ⟨rfl,fun h3=>⟨h2,of_decide_eq_true h3⟩⟩) fun _=>⟨rfl,fun h=>by cases h⟩),?_⟩
   rintro _ _ _ ⟨rfl,h2⟩
   refine If.cases (fun h3=>lower_spec ?_) fun _=>k1 _ 2 _ (.inr rfl) (.chr hmem h1) hx
   obtain ⟨h4,h5⟩:=h2 h3
   exact Ar.u8 (by omega) (Ar.u8 (by omega) ⟨rfl,rfl, .inr ⟨h1,by omega,by omega⟩⟩)
  rintro _ _ d _ ⟨rfl,rfl,hd⟩
  refine Ar.u8 (by omega) (If.dec (fun h1=>k1 _ 2 _ (.inr rfl) ?_ hx) fun h1=>?_)
  .rcases hd with ⟨h2,rfl⟩ | ⟨h2,_⟩
   .have:=h2.2; omega
   .exact .chr hmem h2
  obtain ⟨h2,rfl⟩ : isDig c/\d=((c.toNat - 48:Nat):Int):=by
   rcases hd with h | ⟨_,h,_⟩
   .exact h
   .omega
  have h21:=h2.1; have h22:=h2.2
  refine If.dec (fun h3=>k1 _ 1 _ (.inl rfl) (.big ?_) hx) fun h3=>Ar.u64 (by omega) (Ar.u64 (by omega) (Ar.u64 (by omega) (Ar.u64m (If.dec (fun h4=>k1 _ 1 _ (.inl rfl) (.big ?_) hx) fun h4=>If.dec (fun h5=>k1 _ 1 _ (.inl rfl) (.big ?_) hx) fun h5=>Ar.i64 (by omega) ⟨_,?_,j+1,rfl,by omega,by omega,rfl,?_,?_,rfl⟩))))
  all_goals omega
 .have hjn:j=l.length:=by simp only at h; omega
  subst hjn
  rw [List.take_length] at hv ⊢
  exact If.no (k0 _ _ hv rfl hx)
theorem parseUint_spec{l:Bs}{B:Nat}{K:Int->Value->Wd->Prop}(g:Gl w.heap)(hB:1<=B/\B<=64)(hl:l.length<=100000000)
  (k0:∀ n w',n < 2 ^ B->valB l=n->Ext No w w'->K (n:Int) .nilIface w') (k1:∀ n b w',NoDec B l->Ext No w w'->K n (.iface 158 (.pointer (some b))) w'):C_strconv_ParseUint (stB l) 10 (B:Int) w K:=by
 apply S_strconv_ParseUint
 refine parseI_spec hB hl (fun n w1 h1 h2 x1=>⟨trivial,If.no (k0 n w1 h1 h2 x1)⟩) fun n a w1 ha h1 x1=>⟨trivial,If.yes ?_⟩
 exact toError_spec (fn:=[80,97,114,115,101,85,105,110,116]) (g.no x1) ha hl fun b w2 x2=>k1 n b w2 h1 (x1.no x2)
end
end Go.Proofs.YtimonamjecmlcaaGreatDoor
namespace Go.V
def hx16:Bs:=[48,49,50,51,52,53,54,55,56,57,97,98,99,100,101,102]
def hexD(n:Nat):UInt8:=hx16.getD n 0
def dgt(b:UInt8):Nat:=if 48<=b.toNat/\b.toNat<=57 then b.toNat - 48 else if 97<=b.toNat/\b.toNat<=102 then b.toNat - 87 else 16
theorem dgt_le(b:UInt8):dgt b<=16:=by unfold dgt; split <;> (try split) <;> omega
theorem dgt_hexD:∀ n:Fin 16,dgt (hexD n.val)=n.val:=by decide +kernel
theorem hexD_dgt{b:UInt8}(h:dgt b < 16):hexD (dgt b)=b:=by
 have key:∀ n:Fin 256,dgt (UInt8.ofNat n.val) < 16->hexD (dgt (UInt8.ofNat n.val))=UInt8.ofNat n.val:=by decide +kernel
 have:=key ⟨b.toNat,b.toNat_lt⟩
 simp only [UInt8.ofNat_toNat] at this
 exact this h
theorem hx_at:∀ n:Fin 16,hx16[n.val]? = some (hexD n.val):=by decide +kernel
def hexB:Bs->Bs
 | []=>[]
 | b::l=>hexD (b.toNat / 16)::hexD (b.toNat % 16)::hexB l
theorem hexB_len:∀ l,(hexB l).length=2 * l.length
 | []=>rfl
 | b::l=>by rw [hexB,List.length_cons,List.length_cons,hexB_len l,List.length_cons]; omega
theorem hexB_app:∀ a b,hexB (a++b)=hexB a++hexB b
 | [],_=>rfl
 | x::a,b=>by rw [List.cons_append,hexB,hexB_app a b]; rfl
def pairsB(f:UInt8->Nat):Bs->Bs
 | a::b::l=>UInt8.ofNat (f a * 16+f b)::pairsB f l
 | _=>[]
theorem pairsB_app(f:UInt8->Nat):∀(l:Bs)(r:Bs),l.length % 2=0->pairsB f (l++r)=pairsB f l++pairsB f r
 | [],_,_=>rfl
 | [_],_,h=>by simp at h
 | a::b::l,r,h=>by
  rw [List.cons_append,List.cons_append,pairsB,pairsB,pairsB_app f l r (by simp at h; omega)]; rfl
theorem pairsB_len(f:UInt8->Nat):∀ l:Bs,(pairsB f l).length=l.length / 2
 | []=>rfl
 | [_]=>by simp [pairsB]
 | a::b::l=>by rw [pairsB,List.length_cons,pairsB_len f l,List.length_cons,List.length_cons]; omega
theorem hexB_dgt:∀ l,∀ x∈hexB l,dgt x < 16
 | [],x,h=>by cases h
 | b::l,x,h=>by
  have hb:=b.toNat_lt
  rcases List.mem_cons.1 h with rfl | h
  .rw [dgt_hexD ⟨b.toNat / 16,by omega⟩]; show b.toNat / 16 < 16; omega
  rcases List.mem_cons.1 h with rfl | h
  .rw [dgt_hexD ⟨b.toNat % 16,by omega⟩]; show b.toNat % 16 < 16; omega
  .exact hexB_dgt l x h
theorem pairsB_hexB{f:UInt8->Nat}(hf:∀ x,dgt x < 16->f x=dgt x):∀ l,pairsB f (hexB l)=l
 | []=>rfl
 | b::l=>by
  have hb:=b.toNat_lt
  have h1:=dgt_hexD ⟨b.toNat / 16,by omega⟩
  have h2:=dgt_hexD ⟨b.toNat % 16,by omega⟩
  simp only at h1 h2
  rw [hexB,pairsB,pairsB_hexB hf l,hf _ (by omega),hf _ (by omega),h1,h2,show b.toNat / 16 * 16+b.toNat % 16=b.toNat by omega]
  simp
theorem hexB_pairs:∀ l:Bs,l.length % 2=0->(∀ x∈l,dgt x < 16)->hexB (pairsB dgt l)=l
 | [],_,_=>rfl
 | [_],h,_=>by simp at h
 | a::b::l,h,hd=>by
  have ha:=hd a (by simp)
  have hb:=hd b (by simp)
  have e:(UInt8.ofNat (dgt a * 16+dgt b)).toNat=dgt a * 16+dgt b:=by simp; omega
  rw [pairsB,hexB,e,show (dgt a * 16+dgt b) / 16=dgt a by omega,show (dgt a * 16+dgt b) % 16=dgt b by omega,hexD_dgt ha,hexD_dgt hb,hexB_pairs l (by simp at h; omega) fun x hx=>hd x (by simp [hx])]
def unhexB(l:Bs):Option Bs:=if l.length % 2=0/\∀ x∈l,dgt x < 16 then some (pairsB dgt l) else none
theorem unhexB_hexB(l:Bs):unhexB (hexB l)=some l:=by
 unfold unhexB
 rw [if_pos ⟨by rw [hexB_len]; omega,hexB_dgt l⟩,pairsB_hexB (fun _ _=>rfl)]
theorem unhexB_some{l r:Bs}(h:unhexB l=some r):l=hexB r:=by
 unfold unhexB at h
 split at h
 .rename_i hh; cases h; rw [hexB_pairs l hh.1 hh.2]
 .cases h
theorem bitI_and15{x:Int}(hx:0<=x/\x<=255):bitI .and .u8 x 15=x % 16:=fin256 (p:=fun x=>bitI .and .u8 x 15=x % 16) (by decide +kernel) hx
theorem bitI_or16(x y:Fin 16):bitI .or .u8 ((x.val:Int) * 16) (y.val:Int)=((x.val * 16+y.val:Nat):Int):=by
 have:∀ x y:Fin 16,bitI .or .u8 ((x.val:Int) * 16) (y.val:Int)=((x.val * 16+y.val:Nat):Int):=by decide +kernel
 exact this x y
theorem byV_app(a b:Bs):byV (a++b)=byV a++byV b:=by simp
abbrev RdB(h:Array Obj)(s:Sl)(l:Bs):Prop:=Rd h s 1 (byV l)
abbrev OwnB(h:Array Obj)(base:Nat)(s:Sl)(l:Bs):Prop:=Own h base 5 1 s (byV l)
theorem RdB.len{h:Array Obj}{s:Sl}{l:Bs}(r:RdB h s l):s.len=l.length:=by have:=Rd.len r; simp at this; exact this.symm
theorem OwnB.len{h:Array Obj}{base:Nat}{s:Sl}{l:Bs}(r:OwnB h base s l):s.len=l.length:=RdB.len (Own.rd r)
theorem ixB{w:Wd}{s:Sl}{l:Bs}{i:Int}{K:Addr->Prop}(r:RdB w.heap s l)(h0:0<=i)(h1:i < (s.len:Int))(k:∀ b o (hi:i.toNat < l.length),s.blk=some b->Cell w ⟨b,o,none⟩ (.int .u8 (l[i.toNat].toNat:Int))->K ⟨b,o,none⟩):Ix s.a s.len i 1 K:=by
 have hl:=RdB.len r
 refine Ix.cell r h0 h1 fun b o v hb hv hc=>?_
 have hlt:i.toNat < l.length:=by omega
 rw [List.getElem?_map,List.getElem?_map,List.getElem?_eq_getElem hlt] at hv
 cases hv
 exact k b o hlt hb hc
theorem strB{C:Addr->Value->Prop}{w:Wd}{s:Sl}{l:Bs}{K:ByteArray->Prop}(h:RdB w.heap s l)(hC:∀ b o v,hcell w.heap b o=some v->C ⟨b,o,none⟩ v)(k:K (stB l)):StrC C s K:=by
 refine StrC.mk h hC ?_
 rw [toB_uB]; exact k
end Go.V
namespace Go.Proofs.YtimonamjecmlcaaGreatDoor
open Go.V
section
variable {w:Wd}
theorem take_snoc{α:Type}{l:List α}{j:Nat}(h:j < l.length):l.take (j+1)=l.take j++[l[j]]:=by rw [List.take_add_one,List.getElem?_eq_getElem h]; rfl
theorem octHex_spec{s:Sl}{l:Bs}{K:ByteArray->Wd->Prop}(r:RdB w.heap s l)(hl:l.length<=100000000)(k:∀ w',Ext No w w'->K (stB (hexB l)) w'):C_octet_Hex s w K:=by
 apply S_octet_Hex
 have hs:=RdB.len r
 refine Ar.i64 (by omega) (MkW.mk (Int.le_refl _) (by omega) (by omega) (by omega) fun b w1 n1=>?_)
 have o1:OwnB w1.heap w.heap.size ⟨some ⟨b,0,none⟩,0,(2 * (s.len:Int)).toNat⟩ []:=Own.make (l:=0) n1 (Nat.zero_le _) (by decide)
 refine ⟨fun m s' t w'=>∃ j:Nat,t=j/\j<=l.length/\m=l.length - j/\OwnB w'.heap w.heap.size s' (hexB (l.take j))/\Ext No w w',⟨_,0,rfl,Nat.zero_le _,rfl,o1,n1.ext⟩,?_⟩
 rintro _ m0 s' _ w2 ⟨j,rfl,hj,rfl,o2,x2⟩
 have hl2:=OwnB.len o2
 rw [hexB_len,List.length_take,Nat.min_eq_left hj] at hl2
 refine If.dec (fun h=>ixB (r.no x2) (by omega) h fun b2 o hi _ hc=>⟨_,hc,fun _=>True,trivial,by decide,?_⟩) fun h=>?_
 .have hjl:j < l.length:=by simpa using hi
  have hv:(l[((j:Nat):Int).toNat]'hi)=l[j]:=rfl
  rw [hv]
  have hb:=(l[j]).toNat_lt
  have htk:hexB (l.take (j+1))=hexB (l.take j)++[hexD ((l[j]).toNat / 16),hexD ((l[j]).toNat % 16)]:=by rw [take_snoc hjl,hexB_app]; rfl
  generalize l[j]=c at *
  refine Nm.as (fdiv_nat (k:=4) (by decide)) ⟨hexD (c.toNat / 16),by omega,?_,Nm.as (bitI_and15 (by omega)) ⟨hexD (c.toNat % 16),by omega,?_,?_⟩⟩
  .rw [Int.toNat_natCast]; exact hx_at ⟨c.toNat / 2 ^ 4,by omega⟩
  .rw [show ((c.toNat:Int) % 16).toNat=c.toNat % 16 by omega]; exact hx_at ⟨c.toNat % 16,by omega⟩
  .refine NewW.mk fun b3 w3 n3=>⟨trivial,?_⟩
   have x3:Ext No w2 w3:=n3.ext.drew_left
   have o3:=o2.no x3
   have s3:OwnB w3.heap (drewW w2).heap.size ⟨some ⟨b3,0,none⟩,2,2⟩ [hexD (c.toNat / 16),hexD (c.toNat % 16)]:=Own.new n3 rfl (byV_one _)
   refine app_uint8 o3 (by have:=(x2.no x3).size; omega) s3.rd.src (by simp only; omega) fun s4 w4 o4 l4 x4 _=>⟨trivial,Ar.i64 (by omega) ⟨_,by omega,j+1,by omega,by omega,rfl,?_,?_⟩⟩
   .rw [<- byV_app] at o4; rw [htk]; exact o4
   .exact (x2.no x3).trans x4 fun q hq h=>by have:=(o3.lt h).1; omega
 .have hjn:j=l.length:=by omega
  rw [hjn,List.take_length] at o2
  exact strB o2.rd (fun _ _ _ h=>Cell.mk h) (k w2 x2)
theorem digit_spec{c:UInt8}{K:Int->Wd->Prop}(k:K (dgt c:Nat) w):C_octet_digit (c.toNat:Int) w K:=by
 apply S_octet_digit
 have hc:=c.toNat_lt
 have e:dgt c=if 48<=c.toNat/\c.toNat<=57 then c.toNat - 48 else if 97<=c.toNat/\c.toNat<=102 then c.toNat - 87 else 16:=rfl
 refine ⟨fun t w'=>t=decide (48<=c.toNat/\c.toNat<=57)/\w'=w,If.dec (fun h1=>⟨decide_eq_decide.2 ⟨fun h2=>⟨by omega,by omega⟩,fun h2=>by have:=h2.2; omega⟩,rfl⟩) (fun h1=>⟨(decide_eq_false fun h2=>h1 (by have:=h2.1; omega)).symm,rfl⟩),?_⟩
 rintro _ _ _ ⟨rfl,rfl⟩
 refine If.dec (fun h=>Ar.u8 (by have:=h.1; omega) ?_) fun h=>If.dec (fun h1=>If.dec (fun h2=>Ar.u8 (by omega) (Ar.u8 (by omega) ?_)) fun h2=>?_) fun h1=>?_
 .rw [if_pos h] at e; rw [e] at k
  have:=h.1
  rw [show ((c.toNat:Int) - 48)=((c.toNat - 48:Nat):Int) by omega]; exact k
 .rw [if_neg h,if_pos ⟨by omega,by omega⟩] at e; rw [e] at k
  rw [show ((c.toNat:Int) - 97+10)=((c.toNat - 87:Nat):Int) by omega]; exact k
 .rw [if_neg h,if_neg (by omega)] at e; rw [e] at k; exact k
 .rw [if_neg h,if_neg (by omega)] at e; rw [e] at k; exact k
theorem unhex_spec{l:Bs}{K:Sl->Int->Int->Wd->Prop}(hl:l.length<=100000000)(k0:∀ s r w',unhexB l=some r->OwnB w'.heap w.heap.size s r->Ext No w w'->K s 0 0 w')(k1:∀ e i,unhexB l=none->e≠0->K ⟨none,0,0⟩ e i w):C_octet_Unhex (stB l) w K:=by
 apply S_octet_Unhex
 unfold F_octet_Unhex
 simp only [stB_size]
 refine ⟨fun m b i w'=>∃ j:Nat,b=⟨none,0,0⟩/\i=j/\j<=l.length/\m=l.length - j/\w'=w/\∀ x∈l.take j,dgt x < 16,⟨_,0,rfl,rfl,Nat.zero_le _,rfl,rfl,by simp⟩,?_⟩
 rintro _ m0 _ _ w ⟨j,rfl,rfl,hj,rfl,rfl,hd⟩
 refine If.dec (fun h=>ixS (by omega) (by omega) (digit_spec ?_)) fun h=>?_
 .have hjl:j < l.length:=by omega
  have hv:(l[((j:Nat):Int).toNat]'(by omega))=l[j]:=rfl
  rw [hv]
  refine If.dec (fun h1=>k1 5 _ ?_ (by decide)) fun h1=>Ar.i64 (by omega) ⟨_,by omega,j+1,rfl,by omega,by omega,rfl,rfl,fun x hx=>?_⟩
  .unfold unhexB
   rw [if_neg]
   intro hh
   have:=hh.2 _ (List.getElem_mem hjl)
   omega
  .rw [take_snoc hjl] at hx
   rcases List.mem_append.1 hx with h2 | h2
   .exact hd x h2
   .rw [List.mem_singleton] at h2; subst h2
    have:=dgt_le l[j]; omega
 have hjn:j=l.length:=by omega
 rw [hjn,List.take_length] at hd
 refine ⟨by decide,Nm.as (tmod_nat _ 2) (If.bne (fun h2=>k1 4 _ ?_ (by decide)) fun h2=>?_)⟩
 .unfold unhexB; rw [if_neg]; intro hh; have:=hh.1; omega
 have hev:l.length % 2=0:=by omega
 have hun:unhexB l=some (pairsB dgt l):=by unfold unhexB; rw [if_pos ⟨hev,hd⟩]
 refine ⟨fun m b i w'=>∃ q:Nat,i=(2 * q:Nat)/\2 * q<=l.length/\m=l.length - 2 * q/\OwnB w'.heap w.heap.size b (pairsB dgt (l.take (2 * q)))/\Ext No w w',⟨_,0,rfl,Nat.zero_le _,rfl,Own.nil _ _ _ _,Ext.refl _ _⟩,?_⟩
 rintro _ m1 b2 _ w3 ⟨q,rfl,hq,rfl,o3,x3⟩
 have hl3:=OwnB.len o3
 rw [pairsB_len,List.length_take,Nat.min_eq_left hq] at hl3
 refine If.dec (fun h3=>⟨fun _=>True,trivial,ixS (by omega) (by omega) (Ar.i64 (by omega) (ixS (by omega) (by omega) (digit_spec ⟨trivial,by decide,?_⟩)))⟩) fun h3=>?_
 .have h4:2 * q < l.length:=by omega
  have h5:2 * q+1 < l.length:=by omega
  have e1:(l[((2 * q:Nat):Int).toNat]'(by omega))=l[2 * q]:=rfl
  have e2:(l[(((2 * q:Nat):Int)+1).toNat]'(by omega))=l[2 * q+1]:=rfl
  rw [e1,e2]
  have d1:=hd _ (List.getElem_mem h4)
  have d2:=hd _ (List.getElem_mem h5)
  have htk:pairsB dgt (l.take (2 * (q+1)))=pairsB dgt (l.take (2 * q))++[UInt8.ofNat (dgt l[2 * q] * 16+dgt l[2 * q+1])]:=by
   rw [show 2 * (q+1)=2 * q+1+1 by omega,take_snoc h5,take_snoc h4,List.append_assoc,pairsB_app _ _ _ (by rw [List.length_take,Nat.min_eq_left hq]; omega)]; rfl
  generalize l[2 * q]=a at *
  generalize l[2 * q+1]=c at *
  have e3:((dgt a:Nat):Int) * 2 ^ min (Int.toNat 4) (IntKind.bits .u8)=((dgt a:Nat):Int) * 16:=rfl
  rw [e3]
  refine Ar.u8 (by omega) (digit_spec ⟨trivial,Nm.as (bitI_or16 ⟨dgt a,d1⟩ ⟨dgt c,d2⟩) (NewW.mk fun b4 w4 n4=>⟨trivial,?_⟩)⟩)
  have x4:Ext No w3 w4:=n4.ext.drew_left
  have o4:=o3.no x4
  have e4:[Value.int .u8 ((dgt a * 16+dgt c:Nat):Int)]=byV [UInt8.ofNat (dgt a * 16+dgt c)]:=by
   have:(UInt8.ofNat (dgt a * 16+dgt c)).toNat=dgt a * 16+dgt c:=by simp; omega
   simp only [byV,uB,List.map_cons,List.map_nil,this]
  change New (drewW w3) (.cells [Value.int .u8 ((dgt a * 16+dgt c:Nat):Int)].toArray 5) b4 w4 at n4
  rw [e4] at n4
  have s4:OwnB w4.heap (drewW w3).heap.size ⟨some ⟨b4,0,none⟩,1,1⟩ [UInt8.ofNat (dgt a * 16+dgt c)]:=Own.new n4 rfl (byV_one _)
  refine app_uint8 o4 (by have:=(x3.no x4).size; omega) s4.rd.src (by simp only; omega) fun s5 w5 o5 l5 x5 _=>⟨trivial,Ar.i64 (by omega) ⟨_,by omega,q+1,by omega,by omega,rfl,?_,?_⟩⟩
  .rw [<- byV_app] at o5; rw [htk]; exact o5
  .exact (x3.no x4).trans x5 fun p hp h=>by have:=(o4.lt h).1; omega
 .have hqn:2 * q=l.length:=by omega
  rw [hqn,List.take_length] at o3
  exact k0 b2 _ w3 hun o3 x3
end
end Go.Proofs.YtimonamjecmlcaaGreatDoor
namespace Go.V
abbrev wrongP:List PanicEntry:=[{ v := .iface 82 (.agg ([]).toArray),recovered:=false }]
def hexW(l:Bs):Bs:=if l=[] then [45] else hexB l
def rdByt:List Bs->Option (Bs×List Bs)
 | []=>none
 | x::W=>if x=[45] then some ([],W) else match unhexB x with
  | some (a::l)=>some (a::l,W)
  | _=>none
def rdNum(B:Nat):List Bs->Option (Nat×List Bs)
 | []=>none
 | x::W=>if x=decB (valB x)/\valB x < 2 ^ B then some (valB x,W) else none
theorem rdNum_dec{B n:Nat}{W:List Bs}(h:n < 2 ^ B):rdNum B (decB n::W)=some (n,W):=by
 rw [rdNum,valB_dec,if_pos ⟨rfl,h⟩]
theorem rdNum_some{B n:Nat}{W W':List Bs}(h:rdNum B W=some (n,W')):W=decB n::W'/\n < 2 ^ B:=by
 cases W with
 | nil=>cases h
 | cons x W =>
  rw [rdNum] at h
  split at h
  .rename_i hh; cases h; exact ⟨by rw [<- hh.1],hh.2⟩
  .cases h
theorem rdNum_no{B:Nat}{x:Bs}{W:List Bs}(h:NoDec B x):rdNum B (x::W)=none:=by
 rw [rdNum,if_neg]
 intro hh
 exact h _ hh.2 hh.1
theorem rdByt_hex(l:Bs)(W:List Bs):rdByt (hexW l::W)=some (l,W):=by
 cases l with
 | nil=>rfl
 | cons a l =>
  unfold hexW
  rw [if_neg (by simp),rdByt,if_neg (by simp [hexB]),unhexB_hexB]
theorem rdByt_some{l:Bs}{W W':List Bs}(h:rdByt W=some (l,W')):W=hexW l::W':=by
 cases W with
 | nil=>cases h
 | cons x W =>
  rw [rdByt] at h
  split at h
  .rename_i hh; cases h; rw [hh]; rfl
  .split at h
   .rename_i hh; cases h; rw [unhexB_some hh]; rfl
   .cases h
def rdNext:List Bs->Option (Bs×List Bs)
 | []=>none
 | x::W=>some (x,W)
theorem eqStr{a b:Bs}{A B:Prop}(t:a=b->A)(f:a≠b->B):If ((stB a).toList == (stB b).toList) A B:=by
 rw [stB_toList,stB_toList]
 exact .mk (fun h=>t (eq_of_beq h)) (fun h=>f (fun e=>by subst e; simp at h))
end Go.V
namespace Go.Proofs.YtimonamjecmlcaaGreatDoor
open Go.V
section
variable {w:Wd}
theorem trail16{K:Int->Wd->Prop}(g:Gl w.heap)(k:∀ n,0<=n->n<=255->K n w):C_math_bits_TrailingZeros 16 w K:=by
 apply S_math_bits_TrailingZeros
 apply S_math_bits_TrailingZeros64
 refine If.beq (fun h=>by cases h) fun _=>Ar.u64m (Nm.as (e':=16) (by decide +kernel) (Ar.u64m ⟨by decide,?_⟩))
 refine Nm.as (e':=15) (by decide +kernel) ⟨by decide,by decide,?_⟩
 obtain ⟨n,hn,h0,h1⟩:=g.tz 15 (by decide)
 refine ⟨n,Cell.mk hn,Ar.i64 (by omega) (k n h0 h1)⟩
set_option maxHeartbeats 1000000 in
theorem fmt16_spec{u:Nat}{K:ByteArray->Wd->Prop}(g:Gl w.heap)(h:u < 16)(k:∀ w',Ext No w w'->K (stB [hexD u]) w'):C_strconv_FormatUint (u:Int) 16 w K:=by
 apply S_strconv_FormatUint
 apply S_internal_strconv_FormatUint
 refine If.beq (fun h=>by cases h) fun _=>?_
 apply S_internal_strconv_formatBits
 refine ⟨fun w'=>w'=w,If.dec (fun h=>absurd h (by decide)) fun _=>If.beq (fun h=>by cases h) fun _=>If.dec (fun h=>absurd h (by decide)) fun _=>rfl,?_⟩
 rintro _ w ⟨⟩
 refine NewW.mk fun b w2 n2=>⟨fun z w'=>z=u/\w'=w2,If.no ⟨rfl,rfl⟩,?_⟩
 rintro _ _ w2 ⟨rfl,rfl⟩
 have hb:=n2.at_; have z2:=n2.size
 have g2:=g.no n2.ext
 have e65:List.replicate 65 (Value.int .u8 0)=List.replicate 64 (Value.int .u8 0)++byV [0]:=rfl
 refine ⟨fun i w'=>i=64/\w'.heap[b]? = some (.cells (List.replicate 64 (Value.int .u8 0)++byV [hexD u]).toArray 153 (0,0))/\Ext No w w',?_,?_⟩
 .apply S_internal_strconv_isPowerOfTwo
  refine Ar.i64 (by decide) (Nm.as (e':=0) (by decide +kernel) (If.beq (fun _=>?_) fun h=>absurd rfl h))
  refine Ar.u64 (by decide) (trail16 g2 fun n h0 h1=>Ar.u64 (by omega) (Ar.u64 (by decide) (Ar.u64 (by decide) (Ar.u64 (by decide) ?_))))
  refine ⟨fun m v i w'=>v=u/\i=65/\w'=w2,⟨0,rfl,rfl,rfl⟩,?_⟩
  rintro _ _ _ _ w2 ⟨rfl,rfl,rfl⟩
  refine If.dec (fun h=>by omega) fun _=>Ar.i64 (by decide) ⟨hexD u,by omega,?_,by decide,by decide,?_⟩
  .rw [Int.toNat_natCast]
   have:∀ n:Fin 16,dig36[n.val]? = some (hexD n.val):=by decide +kernel
   exact this ⟨u,h⟩
  .have g0:=n2.get
   refine St1.mk (o:=64) g0 (by simp) rfl fun w3 h3=>⟨rfl,?_,?_⟩
   .have:=h3.get g0
    rw [e65,List.set_append_right _ _ (by simp)] at this
    simpa using this
   .have x3:Ext (·=b) w2 w3:=h3.ext
    exact n2.ext.trans x3 fun q hq h=>by omega
 rintro _ _ w3 ⟨rfl,g3,x3⟩
 refine ⟨fun i w'=>i=64/\w'=w3,If.no ⟨rfl,rfl⟩,?_⟩
 rintro _ _ w3 ⟨rfl,rfl⟩
 refine If.no (Cut.mk (by decide) (by decide) (by decide) (Int.le_refl _) ?_)
 have e1:cutA (some ⟨b,0,none⟩) 65 64 1=some (⟨b,64,none⟩ : Addr):=by simp [cutA,addr_add_none]
 show StrC (Cell w3) ⟨cutA (some ⟨b,0,none⟩) 65 64 1,1,1⟩ _
 rw [e1]
 have r3:RdB w3.heap ⟨some ⟨b,64,none⟩,1,1⟩ [hexD u]:=by
  refine ⟨rfl,Nat.le_refl _,fun _=>⟨b,64,rfl,fun i hi=>?_⟩,byV_one _⟩
  have hi0:i=0:=by simp at hi; exact hi
  subst hi0
  unfold hcell; rw [g3]; rfl
 exact strB r3 (fun _ _ _ h=>Cell.mk h) (k w3 x3)
theorem word1{x:Bs}{K:Sl->Wd->Prop}(k:∀ s w',OwnW w'.heap w.heap.size s [x]->Ext No w w'->K s w'):NewW w (.cells [.string (stB x)].toArray 9) fun b w2=>K ⟨some (Addr.mk b 0 none),1,1⟩ w2 :=
 NewW.mk fun _ w2 n2=>k _ w2 (Own.new (cs:=strW [x]) n2 rfl (strW_one _)) n2.ext
theorem textInt{n:Nat}{K:Sl->Wd->Prop}(g:Gl w.heap)(h:n < 2 ^ 64)(k:∀ s w',OwnW w'.heap w.heap.size s [decB n]->Ext No w w'->K s w'):C_play_text_int (n:Int) w K:=by
 apply S_play_text_int
 exact Ar.u64 (by omega) (formatUint_spec g h fun w1 x1=>word1 fun s w2 o2 x2=>k s w2 (o2.mono x1.size) (x1.no x2))
theorem textU32{n:Nat}{K:Sl->Wd->Prop}(g:Gl w.heap)(h:n < 2 ^ 64)(k:∀ s w',OwnW w'.heap w.heap.size s [decB n]->Ext No w w'->K s w'):C_play_text_uint32 (n:Int) w K:=by
 apply S_play_text_uint32
 exact Ar.u64 (by omega) (formatUint_spec g h fun w1 x1=>word1 fun s w2 o2 x2=>k s w2 (o2.mono x1.size) (x1.no x2))
theorem textU64{n:Nat}{K:Sl->Wd->Prop}(g:Gl w.heap)(h:n < 2 ^ 64)(k:∀ s w',OwnW w'.heap w.heap.size s [decB n]->Ext No w w'->K s w'):C_play_text_uint64 (n:Int) w K:=by
 apply S_play_text_uint64
 exact formatUint_spec g h fun w1 x1=>word1 fun s w2 o2 x2=>k s w2 (o2.mono x1.size) (x1.no x2)
theorem textRights{n:Nat}{K:Sl->Wd->Prop}(g:Gl w.heap)(h:n < 2 ^ 64)(k:∀ s w',OwnW w'.heap w.heap.size s [decB n]->Ext No w w'->K s w'):C_play_text_api_Rights (n:Int) w K:=by
 apply S_play_text_api_Rights
 exact Ar.u64 (by omega) (formatUint_spec g h fun w1 x1=>word1 fun s w2 o2 x2=>k s w2 (o2.mono x1.size) (x1.no x2))
theorem digits_spec{s:Sl}{l:Bs}{K:ByteArray->Wd->Prop}(r:RdB w.heap s l)(hl:l.length<=100000000)(k:∀ w',Ext No w w'->K (stB (hexW l)) w'):C_play_digits s w K:=by
 apply S_play_digits
 have hs:=RdB.len r
 refine If.beq (fun h=>?_) fun h=>?_
 .have:l=[]:=List.length_eq_zero_iff.1 (by omega)
  subst this; exact k w (Ext.refl _ _)
 .have hne:l≠[]:=by intro e; subst e; simp at hs; omega
  unfold hexW at k
  rw [if_neg hne] at k
  exact octHex_spec r hl k
def RdrR(Q:Nat->Prop)(h:Array Obj)(b:Nat)(W:List Bs):Prop:=∃ s:Sl,h[b]? = some (.cells [.slice s.a s.len s.cap].toArray 86 (0,0))/\RdW h s W/\(W≠[]->∀ q,s.blk=some q->Q q)
theorem RdrR.ext{Q S:Nat->Prop}{w w':Wd}{b:Nat}{W:List Bs}(h:RdrR Q w.heap b W)(x:Ext S w w')(hb:¬ S b)(hS:∀ q,Q q->¬ S q):RdrR Q w'.heap b W:=by
 obtain ⟨s,g,r,hq⟩:=h
 refine ⟨s,get_ext g x hb,⟨Rd.len r,r.cap,fun hne=>?_,r.cells⟩,hq⟩
 have hW:W≠[]:=by rintro rfl; exact hne rfl
 obtain ⟨q,off,ha,hc⟩:=r.at_ hne
 refine ⟨q,off,ha,fun i hi=>?_⟩
 have h1:=hc i hi
 rw [hcell_congr (x.blk q (hcell_lt h1) (hS q (hq hW q (by simp [Sl.blk,ha]))))]; exact h1
theorem RdrR.no{Q:Nat->Prop}{w w':Wd}{b:Nat}{W:List Bs}(h:RdrR Q w.heap b W)(x:Ext No w w'):RdrR Q w'.heap b W:=h.ext x id fun _ _=>id
theorem RdrR.mono{Q Q':Nat->Prop}{h:Array Obj}{b:Nat}{W:List Bs}(r:RdrR Q h b W)(hq:∀ q,q < h.size->Q q->Q' q):RdrR Q' h b W:=by
 obtain ⟨s,g,r,h1⟩:=r
 exact ⟨s,g,r,fun hW q hb=>hq q (Rd.lt r (by simpa using hW) hb) (h1 hW q hb)⟩
section
variable {b:Nat} {W:List Bs} {X:PX} {Q:Nat->Prop}
theorem next_spec{K:ByteArray->Wd->Prop}(h:RdrR Q w.heap b W)(hl:W.length<=1000000000)(k:∀ x W' w',rdNext W=some (x,W')->RdrR Q w'.heap b W'->Ext (·=b) w w'->K (stB x) w')(kx:rdNext W=none->X wrongP w):C_play_reader_next (some ⟨b,0,none⟩) w K X:=by
 apply S_play_reader_next
 obtain ⟨s,g,r,hq⟩:=h
 have hs:=RdW.len r
 refine ⟨fun w'=>w'=w/\W≠[],Nn.mk ⟨s,Cell.lst g rfl,If.beq (fun h=>?_) fun h=>⟨rfl,by intro e; subst e; simp at hs; omega⟩⟩,?_⟩
 .have:W=[]:=List.length_eq_zero_iff.1 (by omega)
  subst this; exact kx rfl
 rintro _ w ⟨rfl,hne⟩
 cases W with
 | nil=>exact (hne rfl).elim
 | cons x W =>
  simp only [List.length_cons] at hs hl
  refine Nn.mk ⟨s,Cell.lst g rfl,ixW r (by omega) (by omega) fun b1 o hi hb1 hc=>⟨_,hc,Nn.mk ⟨s,Cell.lst g rfl,?_⟩⟩⟩
  have hcap:=r.cap
  refine Cut.mk (by omega) (by omega) (by omega) (Int.le_refl _) (Nn.mk (St1.mk g (by simp) rfl fun w1 h1=>?_))
  have x1:Ext (·=b) w w1:=h1.ext
  have rc:=r.cut (lo:=1) (hi:=s.len) (mx:=s.cap) (by omega) (Nat.le_refl _) hcap
  have ec:((strW (x::W)).drop (1 * 1)).take ((s.len - 1) * 1)=strW W:=by
   show (strW W).take _=_
   exact List.take_of_length_le (by rw [List.length_map]; omega)
  rw [ec] at rc
  refine k x W w1 rfl ⟨⟨cutA s.a s.cap 1 1,s.len - 1,s.cap - 1⟩,?_,⟨rc.len,rc.cap,fun hne=>?_,rc.cells⟩,fun hW q hb=>hq (by simp) q ?_⟩ x1
  .have:=h1.get g
   have e2:(((s.len:Nat):Int) - 1).toNat=s.len - 1:=by omega
   have e3:(((s.cap:Nat):Int) - 1).toNat=s.cap - 1:=by omega
   rw [e2,e3] at this
   exact this
  .obtain ⟨q,off,ha,hc2⟩:=rc.at_ hne
   refine ⟨q,off,ha,fun i hi2=>?_⟩
   have h2:=hc2 i hi2
   have hq:q≠b:=by
    intro e; subst e
    unfold hcell at h2; rw [g] at h2
    rw [List.getElem_map] at h2
    rcases hz:off+i with _ | n
    .rw [hz] at h2; cases h2
    .rw [hz] at h2; cases h2
   rw [hcell_congr (x1.blk q (hcell_lt h2) hq)]; exact h2
  .have hcut:(cutA s.a s.cap 1 1).map (·.block)=some q:=hb
   unfold cutA at hcut
   split at hcut
   .exact hcut
   .cases ha:s.a with
    | none=>rw [ha] at hcut; cases hcut
    | some a=>rw [ha] at hcut; simp [Sl.blk,ha]; simpa [Addr.add] using hcut
theorem number_spec{B:Nat}{K:Int->Wd->Prop}(h:RdrR Q w.heap b W)(g:Gl w.heap)(h8:8<=b)(hB:1<=B/\B<=64)(hl:W.length<=1000000000)(hw:∀ x∈W,x.length<=100000000)
  (k:∀ n W' w',rdNum B W=some (n,W')->RdrR Q w'.heap b W'->Ext (·=b) w w'->K (n:Int) w') (kx:∀ w',rdNum B W=none->Ext (·=b) w w'->X wrongP w'):C_play_reader_number (some ⟨b,0,none⟩) (B:Int) w K X:=by
 apply S_play_reader_number
 refine next_spec h hl (fun x W' w1 e1 h1 x1=>?_) fun e=>kx w (by cases W with | nil=>rfl | cons x W=>cases e) (Ext.refl _ _)
 cases W with
 | nil=>cases e1
 | cons y W =>
  cases e1
  have g1:Gl w1.heap:=g.ext x1 fun q hq e=>by omega
  refine parseUint_spec g1 hB (hw _ (by simp)) (fun n w2 hn hv x2=>⟨trivial,If.no ?_⟩) fun n b2 w2 hn x2=>⟨trivial,If.yes (kx w2 (rdNum_no hn) (x1.no x2))⟩
  have x12:=x1.no x2
  refine formatUint_spec (g1.no x2) (Nat.lt_of_lt_of_le hn (Nat.pow_le_pow_right (by decide) hB.2)) fun w3 x3=>?_
  refine If.not (eqStr (fun e=>?_) fun e=>kx w3 ?_ (x12.no x3))
  .refine k n W' w3 ?_ (h1.no (x2.no x3)) (x12.no x3)
   rw [<- e]; exact rdNum_dec hn
  .show (if x=decB (valB x)/\valB x < 2 ^ B then some (valB x,W') else none)=none
   rw [if_neg]
   intro hh
   exact e (by rw [<- hv]; exact hh.1.symm)
theorem bytes_spec{K:Sl->Wd->Prop}(h:RdrR Q w.heap b W)(hl:W.length<=1000000000)(hw:∀ x∈W,x.length<=100000000)
  (k:∀ l W' s w',rdByt W=some (l,W')->RdrR Q w'.heap b W'->OwnB w'.heap w.heap.size s l->Ext (·=b) w w'->K s w') (kx:∀ w',rdByt W=none->Ext (·=b) w w'->X wrongP w'):C_play_reader_bytes (some ⟨b,0,none⟩) w K X:=by
 apply S_play_reader_bytes
 refine next_spec h hl (fun x W' w1 e1 h1 x1=>?_) fun e=>kx w (by cases W with | nil=>rfl | cons x W=>cases e) (Ext.refl _ _)
 cases W with
 | nil=>cases e1
 | cons y W =>
  cases e1
  refine eqStr (b:=[45]) (fun e=>k [] W' _ w1 (by subst e; rfl) h1 (Own.nil _ _ _ _) x1) fun e0=>?_
  refine unhex_spec (hw _ (by simp)) (fun s r w2 hr o2 x2=>If.no (If.beq (fun h0=>kx w2 ?_ (x1.no x2)) fun h0=>?_)) fun e i hr he=>If.bne (fun _=>kx w1 ?_ x1) fun h0=>absurd h0 he
  .have hs:=OwnB.len o2
   have:r=[]:=List.length_eq_zero_iff.1 (by omega)
   subst this
   rw [rdByt,if_neg e0,hr]
  .cases r with
   | nil=>have hs:=OwnB.len o2; simp at hs; omega
   | cons a r=>exact k (a::r) W' s w2 (by rw [rdByt,if_neg e0,hr]) (h1.no x2) (o2.mono x1.size) (x1.no x2)
  .rw [rdByt,if_neg e0,hr]
end
end
end Go.Proofs.YtimonamjecmlcaaGreatDoor
namespace Go.V
structure OpP where
 key:Bs
 val:Bs
 drop:Bool
structure CallP where
 kind:Int
 tenant:Int
 secret:Bs
 quota:Int
 n:Int
 handle:Int
 other:Int
 snap:Int
 rights:Int
 ops:List OpP
 key:Bs
 frm:Bs
 upto:Bs
 back:Bool
structure OpV where
 key:Sl
 val:Sl
 drop:Bool
def OpV.cells(o:OpV):List Value:=[.slice o.key.a o.key.len o.key.cap, .slice o.val.a o.val.len o.val.cap, .bool o.drop]
structure CallV where
 kind:Int
 tenant:Int
 secret:Sl
 quota:Int
 n:Int
 handle:Int
 other:Int
 snap:Int
 rights:Int
 ops:Sl
 key:Sl
 frm:Sl
 upto:Sl
 back:Bool
def CallV.cells(v:CallV):List Value:=[.int .i64 v.kind, .int .u32 v.tenant, .slice v.secret.a v.secret.len v.secret.cap, .int .i64 v.quota, .int .i64 v.n, .int .u64 v.handle, .int .u64 v.other, .int .u64 v.snap, .int .u8 v.rights, .slice v.ops.a v.ops.len v.ops.cap, .slice v.key.a v.key.len v.key.cap, .slice v.frm.a v.frm.len v.frm.cap, .slice v.upto.a v.upto.len v.upto.cap, .bool v.back]
theorem StN.mk{w:Wd}{b o:Nat}{cs vs:List Value}{T:TypeId}{K:Wd->Prop}(hb:w.heap[b]? = some (.cells cs.toArray T (0,0)))(ho:o+vs.length<=cs.length)(hv:∀ v∈vs,oneC v=true)
  (k:∀ w',Wrt w b (.cells (setL cs o vs).toArray T (0,0)) w'->K w'):StN w ⟨b,o,none⟩ vs K :=
 ⟨cs.toArray,T,(0,0),hb,rfl,by simpa using ho, .inr (.inr (Nat.le_refl _)),hv,fun w' hw=>k w' hw⟩
theorem StN.all{w:Wd}{b:Nat}{cs vs:List Value}{T:TypeId}{K:Wd->Prop}(hb:w.heap[b]? = some (.cells cs.toArray T (0,0)))(hl:vs.length=cs.length)(hv:∀ v∈vs,oneC v=true)
  (k:∀ w',w'.heap[b]? = some (.cells vs.toArray T (0,0))->Ext (·=b) w w'->w'.heap.size=w.heap.size->K w'):StN w ⟨b,0,none⟩ vs K :=
 StN.mk hb (by omega) hv fun w' h=>k w' (by have:=h.get hb; rw [setL_all _ _ hl] at this; exact this) h.ext h.size
structure RdQ(Q:Nat->Prop)(h:Array Obj)(s:Sl)(l:Bs):Prop where
 rd:RdB h s l
 q:l≠[]->∀ b,s.blk=some b->Q b
theorem RdQ.ext{Q S:Nat->Prop}{w w':Wd}{s:Sl}{l:Bs}(r:RdQ Q w.heap s l)(x:Ext S w w')(h:∀ b,Q b->¬ S b):RdQ Q w'.heap s l:=by
 refine ⟨?_,r.q⟩
 by_cases hl:l=[]
 .subst hl
  exact ⟨Rd.len r.rd,r.rd.cap,fun h=>(h rfl).elim,by simp⟩
 .exact Rd.ext r.rd x fun a b ha hb=>h b (r.q hl b (by simp [Sl.blk,ha,hb]))
theorem RdQ.no{Q:Nat->Prop}{w w':Wd}{s:Sl}{l:Bs}(r:RdQ Q w.heap s l)(x:Ext No w w'):RdQ Q w'.heap s l:=r.ext x fun _ _=>id
theorem RdQ.mono{Q Q':Nat->Prop}{h:Array Obj}{s:Sl}{l:Bs}(r:RdQ Q h s l)(hq:∀ b,Q b->Q' b):RdQ Q' h s l:=⟨r.rd,fun hl b hb=>hq b (r.q hl b hb)⟩
theorem RdQ.own{Q:Nat->Prop}{h:Array Obj}{base:Nat}{s:Sl}{l:Bs}(o:OwnB h base s l)(hq:∀ b,base<=b->b < h.size->Q b):RdQ Q h s l:=⟨o.rd,fun _ b hb=>hq b (o.lt hb).1 (o.lt hb).2⟩
theorem RdQ.nil(Q:Nat->Prop)(h:Array Obj):RdQ Q h ⟨none,0,0⟩ []:=⟨Rd.nil _ _,fun h=>(h rfl).elim⟩
structure OpR(Q:Nat->Prop)(h:Array Obj)(v:OpV)(o:OpP):Prop where
 key:RdQ Q h v.key o.key
 val:RdQ Q h v.val o.val
 drop:v.drop=o.drop
abbrev opC(L:List (OpV×OpP)):List Value:=L.flatMap fun e=>e.1.cells
theorem opC_len(L:List (OpV×OpP)):∀ e∈L,e.1.cells.length=3:=fun _ _=>rfl
theorem opC_one(L:List (OpV×OpP)):∀ v∈opC L,oneC v=true:=by
 intro v hv
 obtain ⟨e,_,h⟩:=List.mem_flatMap.1 hv
 simp only [OpV.cells,List.mem_cons,List.not_mem_nil,or_false] at h
 rcases h with rfl | rfl | rfl <;> rfl
def OpsR(Q:Nat->Prop)(h:Array Obj)(s:Sl)(l:List OpP):Prop:=∃ L:List (OpV×OpP),L.map Prod.snd=l/\Rd h s 3 (opC L)/\(L≠[]->∀ b,s.blk=some b->Q b)/\∀ e∈L,OpR Q h e.1 e.2
theorem OpR.ext{Q S:Nat->Prop}{w w':Wd}{v:OpV}{o:OpP}(r:OpR Q w.heap v o)(x:Ext S w w')(h:∀ b,Q b->¬ S b):OpR Q w'.heap v o:=⟨r.key.ext x h,r.val.ext x h,r.drop⟩
theorem Rd.extQ{S:Nat->Prop}{w w':Wd}{s:Sl}{sz:Nat}{cs:List Value}(r:Rd w.heap s sz cs)(x:Ext S w w')(h:cs≠[]->∀ b,s.blk=some b->¬ S b):Rd w'.heap s sz cs:=by
 by_cases hl:cs=[]
 .subst hl
  exact ⟨r.len,r.cap,fun h=>(h rfl).elim,by simp⟩
 .exact r.ext x fun a b ha hb=>h hl b (by simp [Sl.blk,ha,hb])
theorem opC_ne{L:List (OpV×OpP)}(h:opC L≠[]):L≠[]:=by rintro rfl; exact h rfl
theorem OpsR.ext{Q S:Nat->Prop}{w w':Wd}{s:Sl}{l:List OpP}(r:OpsR Q w.heap s l)(x:Ext S w w')(h:∀ b,Q b->¬ S b):OpsR Q w'.heap s l:=by
 obtain ⟨L,h1,h2,h3,h4⟩:=r
 exact ⟨L,h1,h2.extQ x fun hne b hb=>h b (h3 (opC_ne hne) b hb),h3,fun e he=>(h4 e he).ext x h⟩
theorem OpsR.len{Q:Nat->Prop}{h:Array Obj}{s:Sl}{l:List OpP}(r:OpsR Q h s l):s.len=l.length:=by
 obtain ⟨L,h1,h2,h3,h4⟩:=r
 have:=h2.len
 rw [flat_len' (opC_len L)] at this
 rw [<- h1,List.length_map]; omega
structure CallR(Q:Nat->Prop)(h:Array Obj)(v:CallV)(c:CallP):Prop where
 kind:v.kind=c.kind
 tenant:v.tenant=c.tenant
 secret:RdQ Q h v.secret c.secret
 quota:v.quota=c.quota
 n:v.n=c.n
 handle:v.handle=c.handle
 other:v.other=c.other
 snap:v.snap=c.snap
 rights:v.rights=c.rights
 ops:OpsR Q h v.ops c.ops
 key:RdQ Q h v.key c.key
 frm:RdQ Q h v.frm c.frm
 upto:RdQ Q h v.upto c.upto
 back:v.back=c.back
theorem CallR.ext{Q S:Nat->Prop}{w w':Wd}{v:CallV}{c:CallP}(r:CallR Q w.heap v c)(x:Ext S w w')(h:∀ b,Q b->¬ S b):CallR Q w'.heap v c :=
 ⟨r.kind,r.tenant,r.secret.ext x h,r.quota,r.n,r.handle,r.other,r.snap,r.rights,r.ops.ext x h,r.key.ext x h,r.frm.ext x h,r.upto.ext x h,r.back⟩
theorem CallR.no{Q:Nat->Prop}{w w':Wd}{v:CallV}{c:CallP}(r:CallR Q w.heap v c)(x:Ext No w w'):CallR Q w'.heap v c:=r.ext x fun _ _=>id
structure LimC(c:CallP):Prop where
 tenant:0<=c.tenant/\c.tenant < 4294967296
 quota:0<=c.quota/\c.quota<=1073741824
 n:0<=c.n/\c.n<=1073741824
 handle:0<=c.handle/\c.handle < 18446744073709551616
 other:0<=c.other/\c.other < 18446744073709551616
 snap:0<=c.snap/\c.snap < 18446744073709551616
 rights:0<=c.rights/\c.rights < 256
 secret:c.secret.length<=32
 key:c.key.length<=64
 frm:c.frm.length<=64
 upto:c.upto.length<=64
 opl:c.ops.length<=110
 ops:∀ o∈c.ops,o.key.length<=64/\o.val.length<=1100/\(o.drop=true->o.val=[])
inductive FId where
 | tenant | handle | snap | count | quota | rights | other | ops | way | secret | key | frm | upto
def sdrop:Bs:=[100,114,111,112]
def sput:Bs:=[112,117,116]
def sback:Bs:=[98,97,99,107]
def son:Bs:=[111,110]
def opW1(o:OpP):List Bs:=if o.drop then [sdrop,hexW o.key] else [sput,hexW o.key,hexW o.val]
def telF:FId->CallP->List Bs
 | .tenant,c=>[decB c.tenant.toNat]
 | .handle,c=>[decB c.handle.toNat]
 | .snap,c=>[decB c.snap.toNat]
 | .count,c=>[decB c.n.toNat]
 | .quota,c=>[decB c.quota.toNat]
 | .rights,c=>[decB c.rights.toNat]
 | .other,c=>[decB c.other.toNat]
 | .ops,c=>c.ops.flatMap opW1
 | .way,c=>[if c.back then sback else son]
 | .secret,c=>[hexW c.secret]
 | .key,c=>[hexW c.key]
 | .frm,c=>[hexW c.frm]
 | .upto,c=>[hexW c.upto]
def fnsF:FId->(Nat×Nat) ⊕ Nat
 | .tenant => .inl (100,102)
 | .handle => .inl (106,107)
 | .snap => .inl (110,111)
 | .count => .inl (104,105)
 | .quota => .inl (56,57)
 | .rights => .inl (59,61)
 | .other => .inl (62,64)
 | .ops => .inl (108,109)
 | .way => .inl (112,113)
 | .secret => .inr 103
 | .key => .inr 66
 | .frm => .inr 67
 | .upto => .inr 68
abbrev fnV(n:Nat):Value := .func (.func n) #[] #[]
abbrev clV(n b:Nat):Value := .func (.func n) #[] #[.pointer (some ⟨b,0,none⟩)]
def FldV(Q:Nat->Prop)(h:Array Obj)(t r:Value)(f:FId):Prop:=match fnsF f with
 | .inl (i,j)=>t=fnV i/\r=fnV j
 | .inr i=>∃ b,Q b/\t=clV 98 b/\r=clV 99 b/\h[b]? = some (.cells [fnV i].toArray 109 (0,0))
theorem FldV.ext{Q S:Nat->Prop}{w w':Wd}{t r:Value}{f:FId}(h:FldV Q w.heap t r f)(x:Ext S w w')(hq:∀ b,Q b->¬ S b):FldV Q w'.heap t r f:=by
 unfold FldV at h ⊢
 split at h
 .exact h
 .obtain ⟨b,h1,h2,h3,h4⟩:=h
  refine ⟨b,h1,h2,h3,?_⟩
  rw [x.blk b (Array.getElem?_eq_some_iff.1 h4).1 (hq b h1)]; exact h4
end Go.V
namespace Go.Proofs.YtimonamjecmlcaaGreatDoor
open Go.V
section
variable {w:Wd} {Q:Nat->Prop} {v:CallV} {c:CallP} {K:Sl->Wd->Prop} {X:PX}
theorem tell_ops(r:CallR Q w.heap v c)(hl:LimC c)(k:∀ s w',OwnW w'.heap w.heap.size s (c.ops.flatMap opW1)->Ext No w w'->K s w'):C_play_ops_1 v.kind v.tenant v.secret v.quota v.n v.handle v.other v.snap v.rights v.ops v.key v.frm v.upto v.back w K:=by
 apply S_play_ops_1
 refine NewW.mk fun b w1 n1=>⟨v.ops,Cell.lst n1.get rfl,?_⟩
 obtain ⟨L,h1,h2,h3,h4⟩:=r.ops
 have hlen:=OpsR.len r.ops
 have hLl:L.length=c.ops.length:=by rw [<- h1,List.length_map]
 have hcl:=hl.opl
 have wl:∀ l:List OpP,(l.flatMap opW1).length<=3 * l.length:=by
  intro l
  induction l with
  | nil=>simp
  | cons o l ih =>
   rw [List.flatMap_cons,List.length_append,List.length_cons]
   have:(opW1 o).length<=3:=by unfold opW1; split <;> simp
   omega
 refine ⟨fun m s t w'=>∃ j:Nat,t=j/\j<=L.length/\m=L.length - j/\OwnW w'.heap w.heap.size s ((c.ops.take j).flatMap opW1)/\Ext No w w',⟨_,0,rfl,Nat.zero_le _,rfl,Own.nil _ _ _ _,n1.ext⟩,?_⟩
 rintro _ m0 s _ w2 ⟨j,rfl,hj,rfl,o2,x2⟩
 have z2:=x2.size
 have hs2:=OwnW.len o2
 have hwl:=wl (c.ops.take j)
 rw [List.length_take] at hwl
 refine If.dec (fun h=>?_) fun h=>?_
 .refine Ix.elem (f:=fun e:OpV×OpP=>e.1.cells) (h2.no x2) (opC_len L) (by decide) (by omega) h fun b1 o hi hb1 hc=>?_
  have hjl:j < L.length:=hi
  have hjc:j < c.ops.length:=by omega
  have he:=h4 L[j] (List.getElem_mem hjl)
  have eo:c.ops[j]=L[j].2:=by simp [<- h1]
  have hlo:=hl.ops _ (List.getElem_mem hjc)
  have htk:(c.ops.take (j+1)).flatMap opW1=(c.ops.take j).flatMap opW1++opW1 L[j].2:=by rw [take_snoc hjc,List.flatMap_append,eo]; simp
  rw [eo] at hlo
  have hev:(L[((j:Nat):Int).toNat]'hi)=L[j]:=rfl
  rw [hev] at hc
  generalize L[j]=e at *
  obtain ⟨ev,op⟩:=e
  refine ⟨ev.key,hc 0 _ rfl,ev.val,hc 1 _ rfl,ev.drop,hc 2 _ rfl,?_⟩
  refine NewW.mk fun b2 w3 n3=>⟨rfl,?_⟩
  refine StN.all n3.get rfl (by intro v hv; simp at hv; rcases hv with rfl | rfl | rfl <;> rfl) fun w4 g4 x4' _=>?_
  have hb2:=n3.at_; have z3:=n3.size
  have x4:Ext (·=b2) w3 w4:=x4'
  have x24:Ext No w2 w4:=n3.ext.trans x4 fun q hq h=>by omega
  have he4:=(he.ext (x2.no x24) fun _ _=>id)
  simp only at he4 hlo htk
  refine ⟨ev.drop,Cell.lst g4 rfl,If.cases (fun hd=>?_) fun hd=>?_⟩
  .have hdd:op.drop=true:=by rw [<- he4.drop]; exact hd
   refine ⟨ev.key,Cell.lst g4 rfl,digits_spec he4.key.rd (by omega) fun w5 x5=>NewW.mk fun b3 w6 n6=>?_⟩
   have x26:=(x24.no x5).no n6.ext
   have o6:=o2.no x26
   have s6:OwnW w6.heap w5.heap.size ⟨some ⟨b3,0,none⟩,2,2⟩ [sdrop,hexW op.key]:=Own.new n6 rfl (strW_one _)
   refine app_string o6 (by have:=x26.size; omega) s6.rd.src (by simp only; omega) fun s7 w7 o7 l7 x7 _=>Ar.i64 (by omega) ⟨_,by omega,j+1,by omega,by omega,rfl,?_,?_⟩
   .rw [htk,show opW1 op=[sdrop,hexW op.key] by unfold opW1; rw [hdd]; rfl]
    rw [<- List.map_append] at o7; exact o7
   .exact (x2.no x26).trans x7 fun q hq h=>by have:=(o6.lt h).1; omega
  .have hdd:op.drop=false:=by rw [<- he4.drop]; exact hd
   have hbs:¬ s.blk=some b2:=fun h=>by have:=(o2.lt h).2; omega
   refine ⟨Ext (fun q=>s.blk=some q) w4,(Ext.refl _ _).drew,ev.key,Held.but (Cell.lst g4 rfl) hbs,ev.val,Held.but (Cell.lst g4 rfl) hbs,digits_spec (w:=drewW w4) he4.key.rd (by omega) fun w5 x5=>⟨x5.drew_left.of_no,?_⟩⟩
   have he5:=he4.ext x5.drew_left fun _ _=>id
   refine digits_spec he5.val.rd (by omega) fun w6 x6=>⟨(x5.drew_left.no x6).of_no,NewW.mk fun b3 w7 n7=>⟨((x5.drew_left.no x6).no n7.ext).of_no,?_⟩⟩
   have x47:=(x5.drew_left.no x6).no n7.ext
   have x27:=x24.no x47
   have o7:=o2.no x27
   have s7:OwnW w7.heap w6.heap.size ⟨some ⟨b3,0,none⟩,3,3⟩ [sput,hexW op.key,hexW op.val]:=Own.new n7 rfl (strW_one _)
   refine app_string o7 (by have:=x27.size; omega) s7.rd.src (by simp only; omega) fun s8 w8 o8 l8 x8 _=>?_
   have x28:Ext No w w8:=(x2.no x27).trans x8 fun q hq h=>by have:=(o7.lt h).1; omega
   refine ⟨x47.of_no.trans x8 fun q hq h=>h,Ar.i64 (by omega) ⟨_,by omega,j+1,by omega,by omega,rfl,?_,x28⟩⟩
   .rw [htk,show opW1 op=[sput,hexW op.key,hexW op.val] by unfold opW1; rw [hdd]; rfl]
    rw [<- List.map_append] at o8; exact o8
 .have hjn:j=c.ops.length:=by omega
  rw [hjn,List.take_length] at o2
  exact k s w2 o2 x2
end
end Go.Proofs.YtimonamjecmlcaaGreatDoor
namespace Go.V
def rdB1(x:Bs):Option Bs:=if x=[45] then some [] else match unhexB x with
 | some (a::l)=>some (a::l)
 | _=>none
theorem rdByt_cons(x:Bs)(W:List Bs):rdByt (x::W)=(rdB1 x).map fun l=>(l,W):=by
 rw [rdByt,rdB1]
 by_cases hx:x=[45]
 .rw [if_pos hx,if_pos hx]; rfl
 .rw [if_neg hx,if_neg hx]
  cases unhexB x with
  | none=>rfl
  | some l=>cases l <;> rfl
def rdOps:List Bs->Option (List OpP)
  | []=>some []
  | [_]=>none
  | [x,y]=>if x=sdrop then (rdB1 y).map fun k=>[⟨k,[],true⟩] else none
  | x::y::z::W=>if x=sdrop then match rdB1 y,rdOps (z::W) with
      | some k,some l=>some (⟨k,[],true⟩::l)
      | _,_=>none
    else if x=sput then match rdB1 y,rdB1 z,rdOps W with
      | some k,some v,some l=>some (⟨k,v,false⟩::l)
      | _,_,_=>none
    else none
theorem rdOps_drop(W:List Bs):rdOps (sdrop::W)=match rdByt W with
  | some (k,W')=>(rdOps W').map (⟨k,[],true⟩::·)
  | none=>none:=by
 match W with
 | []=>rfl
 | [y] =>
  rw [rdByt_cons,rdOps,if_pos rfl]
  cases rdB1 y <;> rfl
 | y::z::W =>
  rw [rdByt_cons,rdOps,if_pos rfl]
  cases rdB1 y with
  | none=>rfl
  | some k=>cases h:rdOps (z::W) <;> simp [h]
theorem rdOps_put(W:List Bs):rdOps (sput::W)=match rdByt W with
  | some (k,W')=>match rdByt W' with
   | some (v,W'')=>(rdOps W'').map (⟨k,v,false⟩::·)
   | none=>none
  | none=>none:=by
 match W with
 | []=>rfl
 | [y] =>
  rw [rdByt_cons,rdOps,if_neg (by decide)]
  cases rdB1 y <;> rfl
 | y::z::W =>
  rw [rdByt_cons,rdOps,if_neg (by decide),if_pos rfl]
  cases rdB1 y with
  | none=>rfl
  | some k =>
   simp only [Option.map_some,rdByt_cons]
   cases rdB1 z with
   | none=>rfl
   | some v=>cases h:rdOps W <;> simp [h]
theorem rdOps_bad{x:Bs}(W:List Bs)(h1:x≠sdrop)(h2:x≠sput):rdOps (x::W)=none:=by
 match W with
 | []=>rfl
 | [y]=>rw [rdOps,if_neg h1]
 | y::z::W=>rw [rdOps,if_neg h1,if_neg h2]
def rdF:FId->List Bs->CallP->Option (CallP×List Bs)
 | .tenant,W,c=>(rdNum 32 W).map fun p=>({ c with tenant:=p.1 },p.2)
 | .handle,W,c=>(rdNum 64 W).map fun p=>({ c with handle:=p.1 },p.2)
 | .snap,W,c=>(rdNum 64 W).map fun p=>({ c with snap:=p.1 },p.2)
 | .count,W,c=>(rdNum 31 W).map fun p=>({ c with n:=p.1 },p.2)
 | .quota,W,c=>(rdNum 31 W).map fun p=>({ c with quota:=p.1 },p.2)
 | .rights,W,c=>(rdNum 8 W).map fun p=>({ c with rights:=p.1 },p.2)
 | .other,W,c=>(rdNum 64 W).map fun p=>({ c with other:=p.1 },p.2)
 | .ops,W,c=>(rdOps W).map fun l=>({ c with ops:=c.ops++l },[])
 | .way,W,c=>match W with
  | []=>none
  | x::W=>if x=sback then some ({ c with back:=true },W) else if x=son then some (c,W) else none
 | .secret,W,c=>(rdByt W).map fun p=>({ c with secret:=p.1 },p.2)
 | .key,W,c=>(rdByt W).map fun p=>({ c with key:=p.1 },p.2)
 | .frm,W,c=>(rdByt W).map fun p=>({ c with frm:=p.1 },p.2)
 | .upto,W,c=>(rdByt W).map fun p=>({ c with upto:=p.1 },p.2)
def SmW(W:List Bs):Prop:=W.length<=1000000000/\∀ x∈W,x.length<=100000000
theorem SmW.tail{x:Bs}{W:List Bs}(h:SmW (x::W)):SmW W:=⟨by have:=h.1; simp at this; omega,fun y hy=>h.2 y (by simp [hy])⟩
theorem rdNum_tail{B n:Nat}{W W':List Bs}(h:rdNum B W=some (n,W'))(s:SmW W):SmW W':=by rw [(rdNum_some h).1] at s; exact s.tail
theorem rdByt_tail{l:Bs}{W W':List Bs}(h:rdByt W=some (l,W'))(s:SmW W):SmW W':=by rw [rdByt_some h] at s; exact s.tail
structure CallD(Q:Nat->Prop)(bo:Nat)(h:Array Obj)(v:CallV)(c:CallP):Prop where
 kind:v.kind=c.kind
 tenant:v.tenant=c.tenant
 quota:v.quota=c.quota
 n:v.n=c.n
 handle:v.handle=c.handle
 other:v.other=c.other
 snap:v.snap=c.snap
 rights:v.rights=c.rights
 back:v.back=c.back
 secret:RdQ (fun q=>Q q/\v.ops.blk≠some q) h v.secret c.secret
 key:RdQ (fun q=>Q q/\v.ops.blk≠some q) h v.key c.key
 frm:RdQ (fun q=>Q q/\v.ops.blk≠some q) h v.frm c.frm
 upto:RdQ (fun q=>Q q/\v.ops.blk≠some q) h v.upto c.upto
 opq:∀ q,v.ops.blk=some q->Q q
 ops:∃ L:List (OpV×OpP),L.map Prod.snd=c.ops/\Own h bo 54 3 v.ops (opC L)/\∀ e∈L,OpR (fun q=>Q q/\v.ops.blk≠some q) h e.1 e.2
theorem CallD.ext{Q S:Nat->Prop}{bo:Nat}{w w':Wd}{v:CallV}{c:CallP}(r:CallD Q bo w.heap v c)(x:Ext S w w')(h:∀ b,Q b->¬ S b):CallD Q bo w'.heap v c:=by
 obtain ⟨L,h1,h2,h3⟩:=r.ops
 have k:∀ b,Q b/\v.ops.blk≠some b->¬ S b:=fun b hb=>h b hb.1
 exact ⟨r.kind,r.tenant,r.quota,r.n,r.handle,r.other,r.snap,r.rights,r.back,r.secret.ext x k,r.key.ext x k,r.frm.ext x k,r.upto.ext x k,r.opq,L,h1,h2.ext x fun b hb=>h b (r.opq b hb),fun e he=>(h3 e he).ext x k⟩
theorem OpR.mono{Q Q':Nat->Prop}{h:Array Obj}{v:OpV}{o:OpP}(r:OpR Q h v o)(hq:∀ b,Q b->Q' b):OpR Q' h v o:=⟨r.key.mono hq,r.val.mono hq,r.drop⟩
theorem CallD.rd{Q:Nat->Prop}{bo:Nat}{h:Array Obj}{v:CallV}{c:CallP}(r:CallD Q bo h v c):CallR Q h v c:=by
 obtain ⟨L,h1,h2,h3⟩:=r.ops
 exact ⟨r.kind,r.tenant,r.secret.mono fun _ h=>h.1,r.quota,r.n,r.handle,r.other,r.snap,r.rights,⟨L,h1,h2.rd,fun _ b hb=>r.opq b hb,fun e he=>(h3 e he).mono fun _ h=>h.1⟩,r.key.mono fun _ h=>h.1,r.frm.mono fun _ h=>h.1,r.upto.mono fun _ h=>h.1,r.back⟩
def callV0(k:Int):CallV:=⟨k,0,⟨none,0,0⟩,0,0,0,0,0,0,⟨none,0,0⟩,⟨none,0,0⟩,⟨none,0,0⟩,⟨none,0,0⟩,false⟩
def callP0(k:Int):CallP:=⟨k,0,[],0,0,0,0,0,0,[],[],[],[],false⟩
theorem CallD.zero(Q:Nat->Prop)(bo:Nat)(h:Array Obj)(k:Int):CallD Q bo h (callV0 k) (callP0 k) :=
 ⟨rfl,rfl,rfl,rfl,rfl,rfl,rfl,rfl,rfl,RdQ.nil _ _,RdQ.nil _ _,RdQ.nil _ _,RdQ.nil _ _,(fun q h=>by cases h),[],rfl,Own.nil _ _ _ _,by simp⟩
def PlD(h:Array Obj)(bc:Nat)(pre post:List Value)(T:TypeId)(v:CallV):Prop:=h[bc]? = some (.cells (pre++v.cells++post).toArray T (0,0))
theorem set_mid(pre cs post:List Value){j:Nat}(x:Value)(h:j < cs.length):(pre++cs++post).set (pre.length+j) x=pre++cs.set j x++post:=by
 rw [List.append_assoc,List.set_append_right _ _ (by omega),Nat.add_sub_cancel_left,List.set_append_left _ _ h,<- List.append_assoc]
theorem PlD.set{w:Wd}{bc:Nat}{pre post:List Value}{T:TypeId}{v v':CallV}{K:Wd->Prop}(h:PlD w.heap bc pre post T v)(j:Nat)(x:Value)(hj:j < 14)(hx:oneC x=true)(hv:v.cells.set j x=v'.cells)
  (k:∀ w',PlD w'.heap bc pre post T v'->Ext (·=bc) w w'->w'.heap.size=w.heap.size->K w'):St1 w ((Addr.mk bc pre.length none).add j) x K:=by
 rw [addr_add_none rfl]
 refine St1.mk h (by simp [CallV.cells]; omega) hx fun w' hw=>k w' ?_ hw.ext hw.size
 have:=hw.get h
 rw [set_mid _ _ _ _ (by simpa [CallV.cells] using hj),hv] at this
 exact this
theorem PlD.cell{w:Wd}{bc:Nat}{pre post:List Value}{T:TypeId}{v:CallV}(h:PlD w.heap bc pre post T v){j:Nat}{x:Value}(hx:v.cells[j]? = some x):Cell w ⟨bc,pre.length+j,none⟩ x:=by
 refine Cell.lst h ?_
 have hj:=(List.getElem?_eq_some_iff.1 hx).1
 rw [List.append_assoc,List.getElem?_append_right (by omega),Nat.add_sub_cancel_left,List.getElem?_append_left hj,hx]
end Go.V
namespace Go.Proofs.YtimonamjecmlcaaGreatDoor
open Go.V
section
variable {w:Wd} {Q:Nat->Prop} {v:CallV} {c:CallP} {X:PX} {rd:Bool}
theorem tell_spec{K:Sl->Wd->Prop}{f:FId}{t r:Value}(hf:FldV Q w.heap t r f)(g:Gl w.heap){Qc:Nat->Prop}(hr:CallR Qc w.heap v c)(hl:LimC c)(k:∀ s w',OwnW w'.heap w.heap.size s (telF f c)->Ext No w w'->K s w'):dynV pz rd t [.agg v.cells.toArray] [.one .sl] K X w:=by
 have nat:∀{z:Int},0<=z->((z.toNat:Nat):Int)=z:=fun h=>Int.toNat_of_nonneg h
 have text:∀{b:Nat}{w1:Wd}{x:Bs},New w (.cells v.cells.toArray 30) b w1->∀ s w2,OwnW w2.heap w1.heap.size s [x]->Ext No w1 w2->telF f c=[x]->K s w2:=fun n1 s w2 o2 x2 e=>k s w2 (by rw [e]; exact o2.mono n1.ext.size) (n1.ext.no x2)
 have bytes:∀{i:Nat}{s0:Sl}{l:Bs},(∀(b:Nat)(w1:Wd)(K:Option Addr->Wd->Prop),K (some ((Addr.mk b 0 none).add i)) w1->dynV pz true (fnV (match fnsF f with | .inr n=>n | _=>0)) [.pointer (some (Addr.mk b 0 none))] [.one .ptr] K NoX w1)->(∃ n,fnsF f = .inr n) ->
   (v.cells[i]? = some (.slice s0.a s0.len s0.cap))->RdB w.heap s0 l->l.length<=100->telF f c=[hexW l]->dynV pz rd t [.agg v.cells.toArray] [.one .sl] K X w:=by
  rintro i s0 l hw ⟨n,hn⟩ hi r0 hl0 e
  unfold FldV at hf
  rw [hn] at hf hw
  obtain ⟨bx,h1,rfl,h3,h4⟩:=hf
  have hC:C_play_bytes_1 v.kind v.tenant v.secret v.quota v.n v.handle v.other v.snap v.rights v.ops v.key v.frm v.upto v.back ⟨bx,0,none⟩ w K:=by
   apply S_play_bytes_1
   refine NewW.mk fun b w1 n1=>⟨_,Cell.lst (get_no h4 n1.ext) rfl,hw b w1 _ (Nn.mk ⟨s0,?_,?_⟩)⟩
   .rw [addr_add_none rfl,Nat.zero_add]; exact Cell.lst n1.get hi
   .refine digits_spec (r0.no n1.ext) (by omega) fun w2 x2=>word1 fun s w3 o3 x3=>?_
    exact text n1 s w3 (o3.mono x2.size) (x2.no x3) e
  exact mkV (f:=98) (ars:=#[.agg v.cells.toArray, .pointer (some ⟨bx,0,none⟩)]) (by kernel_rfl) (by kernel_rfl) hC
 cases f with
 | tenant =>
  obtain ⟨rfl,-⟩:=hf
  refine V_play_tenant_1 ?_
  apply S_play_tenant_1
  refine NewW.mk fun b w1 n1=>⟨v.tenant,Cell.lst n1.get rfl,?_⟩
  have h:=hl.tenant
  rw [hr.tenant,<- nat h.1]
  exact textU32 (g.no n1.ext) (by omega) fun s w2 o2 x2=>text n1 s w2 o2 x2 rfl
 | handle =>
  obtain ⟨rfl,-⟩:=hf
  refine V_play_handle_1 ?_
  apply S_play_handle_1
  refine NewW.mk fun b w1 n1=>⟨v.handle,Cell.lst n1.get rfl,?_⟩
  have h:=hl.handle
  rw [hr.handle,<- nat h.1]
  exact textU64 (g.no n1.ext) (by omega) fun s w2 o2 x2=>text n1 s w2 o2 x2 rfl
 | snap =>
  obtain ⟨rfl,-⟩:=hf
  refine V_play_snap_1 ?_
  apply S_play_snap_1
  refine NewW.mk fun b w1 n1=>⟨v.snap,Cell.lst n1.get rfl,?_⟩
  have h:=hl.snap
  rw [hr.snap,<- nat h.1]
  exact textU64 (g.no n1.ext) (by omega) fun s w2 o2 x2=>text n1 s w2 o2 x2 rfl
 | count =>
  obtain ⟨rfl,-⟩:=hf
  refine V_play_count_1 ?_
  apply S_play_count_1
  refine NewW.mk fun b w1 n1=>⟨v.n,Cell.lst n1.get rfl,?_⟩
  have h:=hl.n
  rw [hr.n,<- nat h.1]
  exact textInt (g.no n1.ext) (by omega) fun s w2 o2 x2=>text n1 s w2 o2 x2 rfl
 | quota =>
  obtain ⟨rfl,-⟩:=hf
  refine mkV (f:=56) (ars:=#[.agg v.cells.toArray]) (C:=C_play_forms_1 v.kind v.tenant v.secret v.quota v.n v.handle v.other v.snap v.rights v.ops v.key v.frm v.upto v.back w K) (by kernel_rfl) (by kernel_rfl) ?_
  apply S_play_forms_1
  refine NewW.mk fun b w1 n1=>⟨v.quota,Cell.lst n1.get rfl,?_⟩
  have h:=hl.quota
  rw [hr.quota,<- nat h.1]
  exact textInt (g.no n1.ext) (by omega) fun s w2 o2 x2=>text n1 s w2 o2 x2 rfl
 | rights =>
  obtain ⟨rfl,-⟩:=hf
  refine mkV (f:=59) (ars:=#[.agg v.cells.toArray]) (C:=C_play_forms_3 v.kind v.tenant v.secret v.quota v.n v.handle v.other v.snap v.rights v.ops v.key v.frm v.upto v.back w K) (by kernel_rfl) (by kernel_rfl) ?_
  apply S_play_forms_3
  refine NewW.mk fun b w1 n1=>⟨v.rights,Cell.lst n1.get rfl,?_⟩
  have h:=hl.rights
  rw [hr.rights,<- nat h.1]
  exact textRights (g.no n1.ext) (by omega) fun s w2 o2 x2=>text n1 s w2 o2 x2 rfl
 | other =>
  obtain ⟨rfl,-⟩:=hf
  refine mkV (f:=62) (ars:=#[.agg v.cells.toArray]) (C:=C_play_forms_5 v.kind v.tenant v.secret v.quota v.n v.handle v.other v.snap v.rights v.ops v.key v.frm v.upto v.back w K) (by kernel_rfl) (by kernel_rfl) ?_
  apply S_play_forms_5
  refine NewW.mk fun b w1 n1=>⟨v.other,Cell.lst n1.get rfl,?_⟩
  have h:=hl.other
  rw [hr.other,<- nat h.1]
  exact textU64 (g.no n1.ext) (by omega) fun s w2 o2 x2=>text n1 s w2 o2 x2 rfl
 | ops =>
  obtain ⟨rfl,-⟩:=hf
  exact V_play_ops_1 (tell_ops hr hl k)
 | way =>
  obtain ⟨rfl,-⟩:=hf
  refine V_play_way_1 ?_
  apply S_play_way_1
  refine NewW.mk fun b w1 n1=>⟨v.back,Cell.lst n1.get rfl,If.cases (fun h=>?_) fun h=>?_⟩
  .exact word1 (x:=sback) fun s w2 o2 x2=>text n1 s w2 o2 x2 (by show [if c.back then sback else son]=_; rw [<- hr.back,h]; rfl)
  .exact word1 (x:=son) fun s w2 o2 x2=>text n1 s w2 o2 x2 (by show [if c.back then sback else son]=_; rw [<- hr.back,h]; rfl)
 | secret=>exact bytes (i:=2) (fun b w1 K h=>V_play_secret_1 (by apply S_play_secret_1; exact Nn.mk h)) ⟨_,rfl⟩ rfl hr.secret.rd (by have:=hl.secret; omega) rfl
 | key=>exact bytes (i:=10) (fun b w1 K h=>mkV (f:=66) (ars:=#[.pointer (some ⟨b,0,none⟩)]) (C:=C_play_forms_7 (some ⟨b,0,none⟩) w1 K) (by kernel_rfl) (by kernel_rfl) (by apply S_play_forms_7; exact Nn.mk h)) ⟨_,rfl⟩ rfl hr.key.rd (by have:=hl.key; omega) rfl
 | frm=>exact bytes (i:=11) (fun b w1 K h=>mkV (f:=67) (ars:=#[.pointer (some ⟨b,0,none⟩)]) (C:=C_play_forms_8 (some ⟨b,0,none⟩) w1 K) (by kernel_rfl) (by kernel_rfl) (by apply S_play_forms_8; exact Nn.mk h)) ⟨_,rfl⟩ rfl hr.frm.rd (by have:=hl.frm; omega) rfl
 | upto=>exact bytes (i:=12) (fun b w1 K h=>mkV (f:=68) (ars:=#[.pointer (some ⟨b,0,none⟩)]) (C:=C_play_forms_9 (some ⟨b,0,none⟩) w1 K) (by kernel_rfl) (by kernel_rfl) (by apply S_play_forms_9; exact Nn.mk h)) ⟨_,rfl⟩ rfl hr.upto.rd (by have:=hl.upto; omega) rfl
end
section
variable {w:Wd} {v:CallV} {c:CallP} {X:PX} {rd:Bool} {br bc bo:Nat} {W:List Bs} {pre post:List Value} {T:TypeId}
structure FillR(h:Array Obj)(br bc bo:Nat)(pre post:List Value)(T:TypeId)(W:List Bs)(v:CallV)(c:CallP):Prop where
 rdr:RdrR (fun q=>q≠br/\q≠bc/\v.ops.blk≠some q) h br W
 pl:PlD h bc pre post T v
 d:CallD (fun q=>(q≠br/\bo<=q)/\q≠bc) bo h v c
 sm:SmW W
abbrev FillS(br bc bo:Nat):Nat->Prop:=fun q=>q=br∨q=bc∨bo<=q
theorem FillR.no{w w':Wd}(h:FillR w.heap br bc bo pre post T W v c)(x:Ext No w w'):FillR w'.heap br bc bo pre post T W v c :=
 ⟨h.rdr.no x,get_no h.pl x,h.d.ext x fun _ _=>id,h.sm⟩
theorem FillR.set{w:Wd}{c':CallP}{v':CallV}{K:Wd->Prop}(h:FillR w.heap br bc bo pre post T W v c)(hne:br≠bc)(j:Nat)(x:Value)(hj:j < 14)(hx:oneC x=true)(hv:v.cells.set j x=v'.cells)(ho:v'.ops=v.ops)
  (hc:∀ w',Ext (·=bc) w w'->CallD (fun q=>(q≠br/\bo<=q)/\q≠bc) bo w'.heap v c->CallD (fun q=>(q≠br/\bo<=q)/\q≠bc) bo w'.heap v' c')
  (k:∀ w',FillR w'.heap br bc bo pre post T W v' c'->Ext (·=bc) w w'->K w'):St1 w ((Addr.mk bc pre.length none).add j) x K:=by
 refine h.pl.set j x hj hx hv fun w' p' x' _=>k w' ⟨?_,p',hc w' x' (h.d.ext x' fun b hb h=>hb.2 h),h.sm⟩ x'
 rw [ho]
 exact h.rdr.ext x' hne fun q hq h=>hq.2.1 h
theorem _root_.Go.V.RdQ.lt{Q:Nat->Prop}{h:Array Obj}{s:Sl}{l:Bs}(r:RdQ Q h s l):RdQ (fun q=>Q q/\q < h.size) h s l:=⟨r.rd,fun hl b hb=>⟨r.q hl b hb,Rd.lt r.rd (by simpa using hl) hb⟩⟩
theorem fill_push{w:Wd}{e:OpV}{o:OpP}{x:Value}{K:Wd->Prop}{S:Wd->Prop}(h:FillR w.heap br bc bo pre post T W v c)(hne:br≠bc)(hbo:bo<=w.heap.size)(he:OpR (fun q=>((q≠br/\bo<=q)/\q≠bc)/\v.ops.blk≠some q) w.heap e o)(hx:Src pz w x 3 1 e.cells)(hz:c.ops.length<=10000000000)
  (hS:∀ w',Ext (fun q=>v.ops.blk=some q) w w'->S w') (k:∀ w' v',FillR w'.heap br bc bo pre post T W v' { c with ops:=c.ops++[o] }->Ext (fun q=>q=bc∨bo<=q) w w'->K w') :
  AppW pz 28 28 v.ops x (fun s w5=>S w5/\Nn (some (Addr.mk bc pre.length none)) fun a_2=>St1 w5 (a_2.add 9) (.slice s.a s.len s.cap) K) w:=by
 obtain ⟨L,hL1,hL2,hL3⟩:=h.d.ops
 have hlen:=OpsR.len h.d.rd.ops
 refine app_api_Op hL2 hbo hx (by omega) fun s w5 o5 l5 x5 hs=>⟨hS w5 x5,Nn.mk ?_⟩
 have hb5:∀ q,v.ops.blk=some q->bo<=q:=fun q hq=>(hL2.lt hq).1
 have hbc5:v.ops.blk≠some bc:=fun hq=>(h.d.opq bc hq).2 rfl
 have hbr5:v.ops.blk≠some br:=fun hq=>(h.d.opq br hq).1.1 rfl
 have new:∀ q,q < w.heap.size->v.ops.blk≠some q->s.blk≠some q:=fun q hq h1 h2=>by
  rcases hs with h3 | ⟨b,h3,h4⟩
  .exact h1 (h3 ▸ h2)
  .rw [h3] at h2; cases h2; omega
 have r5:RdrR (fun q=>q≠br/\q≠bc/\s.blk≠some q) w5.heap br W:=by
  have h1:=(h.rdr.mono (Q':=fun q=>(q≠br/\q≠bc/\v.ops.blk≠some q)/\q < w.heap.size) fun q hq h=>⟨h,hq⟩).ext x5 hbr5 fun q hq=>hq.1.2.2
  exact h1.mono fun q _ hq=>⟨hq.1.1,hq.1.2.1,new q hq.2 hq.1.2.2⟩
 have p5:PlD w5.heap bc pre post T v:=get_ext h.pl x5 hbc5
 have byt:∀{s':Sl}{l:Bs},RdQ (fun q=>((q≠br/\bo<=q)/\q≠bc)/\v.ops.blk≠some q) w.heap s' l->RdQ (fun q=>((q≠br/\bo<=q)/\q≠bc)/\s.blk≠some q) w5.heap s' l:=fun r=>(r.lt.ext x5 fun q hq=>hq.1.2).mono fun q hq=>⟨hq.1.1,new q hq.2 hq.1.2⟩
 have op5:∀{e:OpV}{o:OpP},OpR (fun q=>((q≠br/\bo<=q)/\q≠bc)/\v.ops.blk≠some q) w.heap e o->OpR (fun q=>((q≠br/\bo<=q)/\q≠bc)/\s.blk≠some q) w5.heap e o:=fun r=>⟨byt r.key,byt r.val,r.drop⟩
 have d5:CallD (fun q=>(q≠br/\bo<=q)/\q≠bc) bo w5.heap { v with ops:=s } { c with ops:=c.ops++[o] }:=by
  have d:=h.d
  refine ⟨d.kind,d.tenant,d.quota,d.n,d.handle,d.other,d.snap,d.rights,d.back,byt d.secret,byt d.key,byt d.frm,byt d.upto,fun q hq=>?_,L++[(e,o)],by rw [List.map_append,hL1]; rfl,?_,fun e' he'=>?_⟩
  .simp only at hq
   rcases hs with h3 | ⟨b,h3,h4⟩
   .exact d.opq q (h3 ▸ hq)
   .rw [h3] at hq; cases hq
    obtain ⟨s0,g0,_⟩:=h.rdr
    have h6:=blt g0; have h7:=blt h.pl
    exact ⟨⟨by omega,by omega⟩,by omega⟩
  .rw [show opC (L++[(e,o)])=opC L++e.cells by simp [opC]]; exact o5
  .rcases List.mem_append.1 he' with h1 | h1
   .exact op5 (hL3 e' h1)
   .rw [List.mem_singleton] at h1; subst h1; exact op5 he
 have hsb:∀ q,s.blk=some q->q≠bc/\q≠br:=fun q hq=>⟨(d5.opq q hq).2,(d5.opq q hq).1.1⟩
 refine p5.set (v':={ v with ops:=s }) 9 _ (by decide) rfl rfl fun w6 p6 x6 _=>k w6 _ ⟨?_,p6,d5.ext x6 fun b hb h=>hb.2 h,h.sm⟩ ?_
 .exact r5.ext x6 hne fun q hq h=>hq.2.1 h
 .exact (x5.mono fun q _ hq => .inr (hb5 q hq)).trans x6 fun q _ hq => .inl hq
theorem ops_src{w w':Wd}{b:Nat}{e:OpV}(n:New w (.cells e.cells.toArray 54) b w'):Src pz w' (.slice (some (Addr.mk b 0 none)) 1 1) 3 1 e.cells:=by
 have o:Own w'.heap w.heap.size 54 3 ⟨some ⟨b,0,none⟩,1,1⟩ e.cells:=Own.new n rfl (by intro v hv; simp [OpV.cells] at hv; rcases hv with rfl | rfl | rfl <;> rfl)
 exact o.rd.src
section
variable (h:FillR w.heap br bc bo pre post T W v c) (g:Gl w.heap) (hbr:8<=br) (hne:br≠bc)
include h hne
include g hbr in
theorem read_num{B:Nat}{K:Int->Wd->Prop}(hB:1<=B/\B<=64)(k:∀ n W' w',rdNum B W=some (n,W')->n < 2 ^ B->FillR w'.heap br bc bo pre post T W' v c->Ext (FillS br bc bo) w w'->K (n:Int) w')(kx:∀ w',rdNum B W=none->Ext (FillS br bc bo) w w'->X wrongP w'):C_play_reader_number (some ⟨br,0,none⟩) (B:Int) w K X:=by
 refine number_spec h.rdr g hbr hB h.sm.1 h.sm.2 (fun n W' w' e r x=>k n W' w' e (rdNum_some e).2 ⟨r,get_ext h.pl x hne.symm,h.d.ext x fun b hb h=>hb.1.1 h,rdNum_tail e h.sm⟩ (x.mono fun _ _ h => .inl h)) fun w' e x=>kx w' e (x.mono fun _ _ h => .inl h)
theorem read_byt{K:Sl->Wd->Prop}(hbo:bo<=w.heap.size)(k:∀ l W' s w',rdByt W=some (l,W')->FillR w'.heap br bc bo pre post T W' v c->RdQ (fun q=>((q≠br/\bo<=q)/\q≠bc)/\v.ops.blk≠some q) w'.heap s l->Ext (·=br) w w'->K s w')(kx:∀ w',rdByt W=none->Ext (FillS br bc bo) w w'->X wrongP w'):C_play_reader_bytes (some ⟨br,0,none⟩) w K X:=by
 refine bytes_spec h.rdr h.sm.1 h.sm.2 (fun l W' s w' e r o x=>k l W' s w' e ⟨r,get_ext h.pl x hne.symm,h.d.ext x fun b hb h=>hb.1.1 h,rdByt_tail e h.sm⟩ (.own o fun b h1 _=>⟨⟨⟨?_,by omega⟩,?_⟩,?_⟩) x) fun w' e x=>kx w' e (x.mono fun _ _ h => .inl h)
 .obtain ⟨s0,g0,_⟩:=h.rdr; have:=blt g0; omega
 .have:=blt h.pl; omega
 .intro hb
  obtain ⟨L,_,o,_⟩:=h.d.ops
  have:=(o.lt hb).2; omega
end
set_option maxHeartbeats 1000000 in
theorem read_ops{K:Wd->Prop}(h:FillR w.heap br bc bo pre post T W v c)(hne:br≠bc)(hbo:bo<=w.heap.size)(hco:c.ops.length<=1000000000)
  (k:∀ v' l w',rdOps W=some l->FillR w'.heap br bc bo pre post T [] v' { c with ops:=c.ops++l }->Ext (FillS br bc bo) w w'->K w') (kx:∀ w',rdOps W=none->Ext (FillS br bc bo) w w'->X wrongP w'):C_play_ops_2 (some ⟨br,0,none⟩) (some (Addr.mk bc pre.length none)) w K X:=by
 apply S_play_ops_2
 refine ⟨fun m w'=>∃ (W1:List Bs) (v1:CallV) (dn:List OpP),m=W1.length/\FillR w'.heap br bc bo pre post T W1 v1 { c with ops:=c.ops++dn }/\rdOps W=(rdOps W1).map (dn++·)/\dn.length+W1.length<=W.length/\Ext (FillS br bc bo) w w',⟨_,W,v,[],rfl,by simpa using h,by cases rdOps W <;> rfl,by simp,Ext.refl _ _⟩,?_⟩
 rintro _ m0 w1 ⟨W1,v1,dn,rfl,h1,hr,hl,x1⟩
 have hsm:=h.sm.1
 have z1:=x1.size
 obtain ⟨s1,g1,r1,q1⟩:=h1.rdr
 have hs1:=RdW.len r1
 refine Nn.mk ⟨s1,Cell.lst g1 rfl,If.dec (fun hpos=>?_) fun h0=>?_⟩
 .refine next_spec h1.rdr h1.sm.1 (fun x W2 w2 e2 r2 x2=>?_) fun e=>by cases W1 with | nil=>simp at hs1; omega | cons x W=>cases e
  cases W1 with
  | nil=>cases e2
  | cons y W1 =>
   cases e2
   have x12:Ext (FillS br bc bo) w w2:=x1.trans x2 fun q _ h => .inl h
   have h2:FillR w2.heap br bc bo pre post T W2 v1 { c with ops:=c.ops++dn }:=⟨r2,get_ext h1.pl x2 hne.symm,h1.d.ext x2 fun b hb h=>hb.1.1 h,h1.sm.tail⟩
   simp only [List.length_cons] at hl
   have hbc:v1.ops.blk≠some bc:=fun hq=>(h2.d.opq bc hq).2 rfl
   have z2:=x12.size
   have opsH:Held (Ext (fun q=>q=br∨v1.ops.blk=some q) w2) ((Addr.mk bc pre.length none).add 9) (.slice v1.ops.a v1.ops.len v1.ops.cap):=by
    rw [addr_add_none rfl]
    exact Held.but (h2.pl.cell (j:=9) rfl) fun h=>by rcases h with h | h; exact hne h.symm; exact hbc h
   refine eqStr (b:=sdrop) (fun e=>?_) fun e=>eqStr (b:=sput) (fun e'=>?_) fun e'=>?_
   .subst e
    rw [rdOps_drop] at hr
    refine ⟨Ext (fun q=>q=br∨v1.ops.blk=some q) w2,(Ext.refl _ _).drew,Nn.mk ⟨v1.ops,opsH,?_⟩⟩
    refine read_byt (w:=drewW w2) h2 hne (by simp only [drewW]; omega) (fun l W3 s w3 e3 h3 rq3 x3=>?_) fun w3 e3 x3=>kx w3 (by rw [hr,e3]; rfl) (x12.trans x3.drew_left fun _ _ h=>h)
    have x3':Ext (·=br) w2 w3:=x3.drew_left
    rw [e3] at hr
    refine ⟨x3'.mono fun _ _ h => .inl h,NewW.mk fun b w4 n4=>⟨(x3'.no n4.ext).mono fun _ _ h => .inl h,?_⟩⟩
    have h4:=h3.no n4.ext
    have z3:=x3'.size; have z4:=n4.size
    refine fill_push (e:=⟨s,⟨none,0,0⟩,true⟩) (o:=⟨l,[],true⟩) h4 hne (by omega) ⟨rq3.no n4.ext,RdQ.nil _ _,rfl⟩ (ops_src n4) (by simp only [List.length_append]; omega) (fun w5 x5=>((x3'.no n4.ext).mono fun _ _ h => .inl h).trans x5 fun _ _ h => .inr h) fun w6 v6 h6 x6=>?_
    have hl3:W3.length+1=W2.length:=by rw [rdByt_some e3]; rfl
    refine ⟨_,by simp only [List.length_cons]; omega,W3,v6,dn++[⟨l,[],true⟩],rfl,by simpa using h6,by rw [hr]; cases hW:rdOps W3 <;> simp [hW],by simp only [List.length_append,List.length_singleton]; omega,?_⟩
    exact (x12.trans (x3'.no n4.ext) fun _ _ h => .inl h).trans x6 fun q _ h => .inr h
   .subst e'
    rw [rdOps_put] at hr
    refine ⟨Ext (fun q=>q=br∨v1.ops.blk=some q) w2,(Ext.refl _ _).drew,Nn.mk ⟨v1.ops,opsH,?_⟩⟩
    refine read_byt (w:=drewW w2) h2 hne (by simp only [drewW]; omega) (fun l W3 s w3 e3 h3 rq3 x3=>?_) fun w3 e3 x3=>kx w3 (by rw [hr,e3]; rfl) (x12.trans x3.drew_left fun _ _ h=>h)
    have x3':Ext (·=br) w2 w3:=x3.drew_left
    rw [e3] at hr
    refine ⟨x3'.mono fun _ _ h => .inl h,?_⟩
    refine read_byt h3 hne (by have:=x3'.size; omega) (fun l' W4 s' w4 e4 h4 rq4 x4=>?_) fun w4 e4 x4=>kx w4 (by rw [hr]; simp only [e4]; rfl) ((x12.trans x3' fun _ _ h => .inl h).trans x4 fun _ _ h=>h)
    simp only [e4] at hr
    have x24:Ext (·=br) w2 w4:=x3'.trans x4 fun _ _ h=>h
    refine ⟨x24.mono fun _ _ h => .inl h,NewW.mk fun b w5 n5=>⟨(x24.no n5.ext).mono fun _ _ h => .inl h,?_⟩⟩
    have h5:=h4.no n5.ext
    have z4:=x24.size; have z5:=n5.size
    refine fill_push (e:=⟨s,s',false⟩) (o:=⟨l,l',false⟩) h5 hne (by omega) ⟨(rq3.ext x4 fun b hb h=>hb.1.1.1 h).no n5.ext,rq4.no n5.ext,rfl⟩ (ops_src n5) (by simp only [List.length_append]; omega) (fun w6 x6=>((x24.no n5.ext).mono fun _ _ h => .inl h).trans x6 fun _ _ h => .inr h) fun w6 v6 h6 x6=>?_
    have hl3:W3.length+1=W2.length:=by rw [rdByt_some e3]; rfl
    have hl4:W4.length+1=W3.length:=by rw [rdByt_some e4]; rfl
    refine ⟨_,by simp only [List.length_cons]; omega,W4,v6,dn++[⟨l,l',false⟩],rfl,by simpa using h6,by rw [hr]; cases rdOps W4 <;> simp,by simp only [List.length_append,List.length_singleton]; omega,?_⟩
    exact (x12.trans (x24.no n5.ext) fun _ _ h => .inl h).trans x6 fun q _ h => .inr h
   .exact kx w2 (by rw [hr,rdOps_bad _ e e']; rfl) x12
 .have:W1=[]:=List.length_eq_zero_iff.1 (by omega)
  subst this
  exact k v1 dn w1 (by rw [hr]; simp [rdOps]) h1 x1
theorem read_spec{K:Wd->Prop}{f:FId}{t r:Value}(hf:FldV (fun q=>q≠br/\q≠bc) w.heap t r f)(h:FillR w.heap br bc bo pre post T W v c)(g:Gl w.heap)(hbr:8<=br)(hne:br≠bc)(hbo:bo<=w.heap.size)(hco:c.ops.length<=1000000000)
  (k:∀ v' c' W' w',rdF f W c=some (c',W')->FillR w'.heap br bc bo pre post T W' v' c'->Ext (FillS br bc bo) w w'->K w') (kx:∀ w',rdF f W c=none->Ext (FillS br bc bo) w w'->X wrongP w') :
  dynV pz rd r [.pointer (some ⟨br,0,none⟩), .pointer (some (Addr.mk bc pre.length none))] [] K X w:=by
 have fin:∀{W':List Bs}{v':CallV}{c':CallP}{w1 w2:Wd},Ext (FillS br bc bo) w w1->rdF f W c=some (c',W')->FillR w2.heap br bc bo pre post T W' v' c'->Ext (·=bc) w1 w2->K w2:=fun x1 e h2 x2=>k _ _ _ _ e h2 (x1.trans x2 fun _ _ h => .inr (.inl h))
 have bytes:∀{i:Nat}{upd:Bs->CallP}{updV:Sl->CallV},(∀(w1:Wd)(K:Option Addr->Wd->Prop),K (some ((Addr.mk bc pre.length none).add i)) w1->dynV pz true (fnV (match fnsF f with | .inr n=>n | _=>0)) [.pointer (some (Addr.mk bc pre.length none))] [.one .ptr] K X w1)->(∃ n,fnsF f = .inr n) ->
   i < 14->(∀ s:Sl,v.cells.set i (.slice s.a s.len s.cap)=(updV s).cells/\(updV s).ops=v.ops)->rdF f W c=(rdByt W).map (fun p=>(upd p.1,p.2)) ->
   (∀ s l (w':Wd),RdQ (fun q=>((q≠br/\bo<=q)/\q≠bc)/\v.ops.blk≠some q) w'.heap s l->CallD (fun q=>(q≠br/\bo<=q)/\q≠bc) bo w'.heap v c->CallD (fun q=>(q≠br/\bo<=q)/\q≠bc) bo w'.heap (updV s) (upd l)) ->
   dynV pz rd r [.pointer (some ⟨br,0,none⟩), .pointer (some (Addr.mk bc pre.length none))] [] K X w:=by
  rintro i upd updV hw ⟨n,hn⟩ hi hv he hd
  unfold FldV at hf
  rw [hn] at hf hw
  obtain ⟨bx,h1,h2,rfl,h4⟩:=hf
  have hC:C_play_bytes_2 (some ⟨br,0,none⟩) (some (Addr.mk bc pre.length none)) ⟨bx,0,none⟩ w K X:=by
   apply S_play_bytes_2
   refine ⟨_,Cell.lst h4 rfl,hw w _ ?_⟩
   refine read_byt h hne hbo (fun l W' s w1 e1 h1 rq1 x1=>Nn.mk ?_) fun w1 e1 x1=>kx w1 (by rw [he,e1]; rfl) x1
   refine h1.set hne i _ hi rfl (hv s).1 (hv s).2 (fun w2 x2 d2=>hd s l w2 (rq1.ext x2 fun b hb h=>hb.1.2 h) d2) fun w2 h2 x2=>fin (x1.mono fun _ _ h => .inl h) (by rw [he,e1]; rfl) h2 x2
  exact mkVX (f:=99) (ars:=#[.pointer (some ⟨br,0,none⟩), .pointer (some (Addr.mk bc pre.length none)), .pointer (some ⟨bx,0,none⟩)]) (by kernel_rfl) (by kernel_rfl) hC
 cases f with
 | tenant =>
  obtain ⟨-,rfl⟩:=hf
  refine V_play_tenant_2 ?_
  apply S_play_tenant_2
  refine read_num h g hbr hne (B:=32) (by decide) (fun n W' w1 e1 hn h1 x1=>Ar.u32 (by omega) (Nn.mk ?_)) fun w1 e1 x1=>kx w1 (by simp [rdF,e1]) x1
  exact h1.set hne 1 _ (by decide) rfl (v':={ v with tenant:=n }) rfl rfl (c':={ c with tenant:=n }) (fun w2 x2 d=>⟨d.kind,rfl,d.quota,d.n,d.handle,d.other,d.snap,d.rights,d.back,d.secret,d.key,d.frm,d.upto,d.opq,d.ops⟩) fun w2 h2 x2=>fin x1 (by simp [rdF,e1]) h2 x2
 | handle =>
  obtain ⟨-,rfl⟩:=hf
  refine V_play_handle_2 ?_
  apply S_play_handle_2
  refine read_num h g hbr hne (B:=64) (by decide) (fun n W' w1 e1 hn h1 x1=>Nn.mk ?_) fun w1 e1 x1=>kx w1 (by simp [rdF,e1]) x1
  exact h1.set hne 5 _ (by decide) rfl (v':={ v with handle:=n }) rfl rfl (c':={ c with handle:=n }) (fun w2 x2 d=>⟨d.kind,d.tenant,d.quota,d.n,rfl,d.other,d.snap,d.rights,d.back,d.secret,d.key,d.frm,d.upto,d.opq,d.ops⟩) fun w2 h2 x2=>fin x1 (by simp [rdF,e1]) h2 x2
 | snap =>
  obtain ⟨-,rfl⟩:=hf
  refine V_play_snap_2 ?_
  apply S_play_snap_2
  refine read_num h g hbr hne (B:=64) (by decide) (fun n W' w1 e1 hn h1 x1=>Nn.mk ?_) fun w1 e1 x1=>kx w1 (by simp [rdF,e1]) x1
  exact h1.set hne 7 _ (by decide) rfl (v':={ v with snap:=n }) rfl rfl (c':={ c with snap:=n }) (fun w2 x2 d=>⟨d.kind,d.tenant,d.quota,d.n,d.handle,d.other,rfl,d.rights,d.back,d.secret,d.key,d.frm,d.upto,d.opq,d.ops⟩) fun w2 h2 x2=>fin x1 (by simp [rdF,e1]) h2 x2
 | count =>
  obtain ⟨-,rfl⟩:=hf
  refine V_play_count_2 ?_
  apply S_play_count_2
  refine read_num h g hbr hne (B:=31) (by decide) (fun n W' w1 e1 hn h1 x1=>Ar.i64 (by omega) (Nn.mk ?_)) fun w1 e1 x1=>kx w1 (by simp [rdF,e1]) x1
  exact h1.set hne 4 _ (by decide) rfl (v':={ v with n:=n }) rfl rfl (c':={ c with n:=n }) (fun w2 x2 d=>⟨d.kind,d.tenant,d.quota,rfl,d.handle,d.other,d.snap,d.rights,d.back,d.secret,d.key,d.frm,d.upto,d.opq,d.ops⟩) fun w2 h2 x2=>fin x1 (by simp [rdF,e1]) h2 x2
 | quota =>
  obtain ⟨-,rfl⟩:=hf
  refine mkVX (f:=57) (ars:=#[.pointer (some ⟨br,0,none⟩), .pointer (some (Addr.mk bc pre.length none))]) (C:=C_play_forms_2 (some ⟨br,0,none⟩) (some (Addr.mk bc pre.length none)) w K X) (by kernel_rfl) (by kernel_rfl) ?_
  apply S_play_forms_2
  refine read_num h g hbr hne (B:=31) (by decide) (fun n W' w1 e1 hn h1 x1=>Ar.i64 (by omega) (Nn.mk ?_)) fun w1 e1 x1=>kx w1 (by simp [rdF,e1]) x1
  exact h1.set hne 3 _ (by decide) rfl (v':={ v with quota:=n }) rfl rfl (c':={ c with quota:=n }) (fun w2 x2 d=>⟨d.kind,d.tenant,rfl,d.n,d.handle,d.other,d.snap,d.rights,d.back,d.secret,d.key,d.frm,d.upto,d.opq,d.ops⟩) fun w2 h2 x2=>fin x1 (by simp [rdF,e1]) h2 x2
 | rights =>
  obtain ⟨-,rfl⟩:=hf
  refine mkVX (f:=61) (ars:=#[.pointer (some ⟨br,0,none⟩), .pointer (some (Addr.mk bc pre.length none))]) (C:=C_play_forms_4 (some ⟨br,0,none⟩) (some (Addr.mk bc pre.length none)) w K X) (by kernel_rfl) (by kernel_rfl) ?_
  apply S_play_forms_4
  refine read_num h g hbr hne (B:=8) (by decide) (fun n W' w1 e1 hn h1 x1=>Ar.u8 (by omega) (Nn.mk ?_)) fun w1 e1 x1=>kx w1 (by simp [rdF,e1]) x1
  exact h1.set hne 8 _ (by decide) rfl (v':={ v with rights:=n }) rfl rfl (c':={ c with rights:=n }) (fun w2 x2 d=>⟨d.kind,d.tenant,d.quota,d.n,d.handle,d.other,d.snap,rfl,d.back,d.secret,d.key,d.frm,d.upto,d.opq,d.ops⟩) fun w2 h2 x2=>fin x1 (by simp [rdF,e1]) h2 x2
 | other =>
  obtain ⟨-,rfl⟩:=hf
  refine mkVX (f:=64) (ars:=#[.pointer (some ⟨br,0,none⟩), .pointer (some (Addr.mk bc pre.length none))]) (C:=C_play_forms_6 (some ⟨br,0,none⟩) (some (Addr.mk bc pre.length none)) w K X) (by kernel_rfl) (by kernel_rfl) ?_
  apply S_play_forms_6
  refine read_num h g hbr hne (B:=64) (by decide) (fun n W' w1 e1 hn h1 x1=>Nn.mk ?_) fun w1 e1 x1=>kx w1 (by simp [rdF,e1]) x1
  exact h1.set hne 6 _ (by decide) rfl (v':={ v with other:=n }) rfl rfl (c':={ c with other:=n }) (fun w2 x2 d=>⟨d.kind,d.tenant,d.quota,d.n,d.handle,rfl,d.snap,d.rights,d.back,d.secret,d.key,d.frm,d.upto,d.opq,d.ops⟩) fun w2 h2 x2=>fin x1 (by simp [rdF,e1]) h2 x2
 | ops =>
  obtain ⟨-,rfl⟩:=hf
  refine V_play_ops_2 (read_ops h hne hbo hco (fun v' l w1 e1 h1 x1=>k v' _ [] w1 (by simp [rdF,e1]) h1 x1) fun w1 e1 x1=>kx w1 (by simp [rdF,e1]) x1)
 | way =>
  obtain ⟨-,rfl⟩:=hf
  refine V_play_way_2 ?_
  apply S_play_way_2
  refine next_spec h.rdr h.sm.1 (fun x W2 w2 e2 r2 x2=>?_) fun e=>kx w (by cases W with | nil=>rfl | cons x W=>cases e) (Ext.refl _ _)
  cases W with
  | nil=>cases e2
  | cons y W1 =>
   cases e2
   have h2:FillR w2.heap br bc bo pre post T W2 v c:=⟨r2,get_ext h.pl x2 hne.symm,h.d.ext x2 fun b hb h=>hb.1.1 h,h.sm.tail⟩
   have x2':Ext (FillS br bc bo) w w2:=x2.mono fun _ _ h => .inl h
   refine eqStr (b:=sback) (fun e=>Nn.mk ?_) fun e=>eqStr (b:=son) (fun e'=>k v c W2 w2 (by subst e'; rw [rdF,if_neg e,if_pos rfl]) h2 x2') fun e'=>kx w2 (by simp [rdF,e,e']) x2'
   exact h2.set hne 13 _ (by decide) rfl (v':={ v with back:=true }) rfl rfl (c':={ c with back:=true }) (fun w3 x3 d=>⟨d.kind,d.tenant,d.quota,d.n,d.handle,d.other,d.snap,d.rights,rfl,d.secret,d.key,d.frm,d.upto,d.opq,d.ops⟩) fun w3 h3 x3=>fin x2' (by simp [rdF,e]) h3 x3
 | secret=>exact bytes (i:=2) (upd:=fun l=>{ c with secret:=l }) (updV:=fun s=>{ v with secret:=s }) (fun w1 K h=>V_play_secret_1 (by apply S_play_secret_1; exact Nn.mk h)) ⟨_,rfl⟩ (by decide) (fun s=>⟨rfl,rfl⟩) rfl fun s l w' r d=>⟨d.kind,d.tenant,d.quota,d.n,d.handle,d.other,d.snap,d.rights,d.back,r,d.key,d.frm,d.upto,d.opq,d.ops⟩
 | key=>exact bytes (i:=10) (upd:=fun l=>{ c with key:=l }) (updV:=fun s=>{ v with key:=s }) (fun w1 K h=>mkV (f:=66) (ars:=#[.pointer (some (Addr.mk bc pre.length none))]) (C:=C_play_forms_7 (some (Addr.mk bc pre.length none)) w1 K) (by kernel_rfl) (by kernel_rfl) (by apply S_play_forms_7; exact Nn.mk h)) ⟨_,rfl⟩ (by decide) (fun s=>⟨rfl,rfl⟩) rfl fun s l w' r d=>⟨d.kind,d.tenant,d.quota,d.n,d.handle,d.other,d.snap,d.rights,d.back,d.secret,r,d.frm,d.upto,d.opq,d.ops⟩
 | frm=>exact bytes (i:=11) (upd:=fun l=>{ c with frm:=l }) (updV:=fun s=>{ v with frm:=s }) (fun w1 K h=>mkV (f:=67) (ars:=#[.pointer (some (Addr.mk bc pre.length none))]) (C:=C_play_forms_8 (some (Addr.mk bc pre.length none)) w1 K) (by kernel_rfl) (by kernel_rfl) (by apply S_play_forms_8; exact Nn.mk h)) ⟨_,rfl⟩ (by decide) (fun s=>⟨rfl,rfl⟩) rfl fun s l w' r d=>⟨d.kind,d.tenant,d.quota,d.n,d.handle,d.other,d.snap,d.rights,d.back,d.secret,d.key,r,d.upto,d.opq,d.ops⟩
 | upto=>exact bytes (i:=12) (upd:=fun l=>{ c with upto:=l }) (updV:=fun s=>{ v with upto:=s }) (fun w1 K h=>mkV (f:=68) (ars:=#[.pointer (some (Addr.mk bc pre.length none))]) (C:=C_play_forms_9 (some (Addr.mk bc pre.length none)) w1 K) (by kernel_rfl) (by kernel_rfl) (by apply S_play_forms_9; exact Nn.mk h)) ⟨_,rfl⟩ (by decide) (fun s=>⟨rfl,rfl⟩) rfl fun s l w' r d=>⟨d.kind,d.tenant,d.quota,d.n,d.handle,d.other,d.snap,d.rights,d.back,d.secret,d.key,d.frm,r,d.opq,d.ops⟩
end
end Go.Proofs.YtimonamjecmlcaaGreatDoor
namespace Go.V
def formP:Nat->Option (Bs×List FId)
 | 1=>some ([99,114,101,97,116,101],[.tenant, .secret, .quota])
 | 2=>some ([100,101,108,101,116,101],[.tenant])
 | 3=>some ([116,117,114,110],[.tenant])
 | 4=>some ([115,116,101,112],[.tenant, .count])
 | 5=>some ([102,105,110,105,115,104],[.tenant])
 | 6=>some ([114,111,111,116],[])
 | 7=>some ([116,101,110,97,110,116,115],[])
 | 8=>some ([97,116,116,97,99,104],[.tenant, .secret])
 | 9=>some ([103,105,118,101],[.handle, .rights])
 | 10=>some ([114,101,118,111,107,101],[.handle, .other])
 | 11=>some ([98,97,116,99,104],[.handle, .ops])
 | 12=>some ([103,101,116],[.handle, .snap, .key])
 | 13=>some ([115,99,97,110],[.handle, .snap, .frm, .upto, .count, .way])
 | 14=>some ([115,110,97,112],[.handle])
 | 15=>some ([114,101,108,101,97,115,101],[.handle, .snap])
 | 16=>some ([117,115,97,103,101],[.handle])
 | _=>none
theorem FldV.mono{Q Q':Nat->Prop}{h:Array Obj}{t r:Value}{f:FId}(k:FldV Q h t r f)(hq:∀ b,Q b->Q' b):FldV Q' h t r f:=by
 unfold FldV at k ⊢
 split at k
 .exact k
 .obtain ⟨b,h1,h2⟩:=k; exact ⟨b,hq b h1,h2⟩
theorem FldV.one{Q:Nat->Prop}{h:Array Obj}{t r:Value}{f:FId}(k:FldV Q h t r f):oneC t=true/\oneC r=true:=by
 unfold FldV at k
 split at k
 .obtain ⟨rfl,rfl⟩:=k; exact ⟨rfl,rfl⟩
 .obtain ⟨b,_,rfl,rfl,_⟩:=k; exact ⟨rfl,rfl⟩
def FlL(Q:Nat->Prop)(h:Array Obj):List (Value×Value)->List FId->Prop
 | [],[]=>True
 | p::vs,f::fs=>FldV Q h p.1 p.2 f/\FlL Q h vs fs
 | _,_=>False
abbrev flC(vs:List (Value×Value)):List Value:=vs.flatMap fun p=>[p.1,p.2]
def FldsR(Q:Nat->Prop)(h:Array Obj)(s:Sl)(fs:List FId):Prop:=∃ vs,FlL Q h vs fs/\Rd h s 2 (flC vs)/\(vs≠[]->∀ b,s.blk=some b->Q b)
theorem FlL.mono{Q Q':Nat->Prop}{h h':Array Obj}(hq:∀ t r f,FldV Q h t r f->FldV Q' h' t r f):∀{vs:List (Value×Value)}{fs:List FId},FlL Q h vs fs->FlL Q' h' vs fs
 | [],[],k=>k
 | _::_,_::_,k=>⟨hq _ _ _ k.1,k.2.mono hq⟩
 | [],_::_,k=>k.elim
 | _::_,[],k=>k.elim
theorem FlL.len{Q:Nat->Prop}{h:Array Obj}:∀{vs:List (Value×Value)}{fs:List FId},FlL Q h vs fs->vs.length=fs.length
 | [],[],_=>rfl
 | _::_,_::_,k=>by rw [List.length_cons,List.length_cons,k.2.len]
 | [],_::_,k=>k.elim
 | _::_,[],k=>k.elim
theorem FlL.get{Q:Nat->Prop}{h:Array Obj}:∀{vs:List (Value×Value)}{fs:List FId},FlL Q h vs fs->∀ i (h1:i < vs.length) (h2:i < fs.length),FldV Q h vs[i].1 vs[i].2 fs[i]
 | _::_,_::_,k,0,_,_=>k.1
 | _::_,_::_,k,i+1,h1,h2=>k.2.get i (by simpa using h1) (by simpa using h2)
 | [],_,_,_,h1,_=>by simp at h1
 | _::_,[],k,_,_,_=>k.elim
theorem FlL.one{Q:Nat->Prop}{h:Array Obj}:∀{vs:List (Value×Value)}{fs:List FId},FlL Q h vs fs->∀ v∈flC vs,oneC v=true
 | [],[],_,v,hv=>by cases hv
 | p::vs,_::_,k,v,hv=>by
  simp only [flC,List.flatMap_cons,List.mem_append,List.mem_cons,List.not_mem_nil,or_false] at hv
  rcases hv with (rfl | rfl) | hv
  .exact k.1.one.1
  .exact k.1.one.2
  .exact k.2.one v hv
 | [],_::_,k,_,_=>k.elim
 | _::_,[],k,_,_=>k.elim
theorem FldsR.ext{Q S:Nat->Prop}{w w':Wd}{s:Sl}{fs:List FId}(r:FldsR Q w.heap s fs)(x:Ext S w w')(h:∀ b,Q b->¬ S b):FldsR Q w'.heap s fs:=by
 obtain ⟨vs,h1,h2,h3⟩:=r
 exact ⟨vs,h1.mono fun _ _ _ k=>k.ext x h,h2.extQ x fun hne b hb=>h b (h3 (by rintro rfl; exact hne rfl) b hb),h3⟩
abbrev MapS(w:Wd):Nat->Prop:=fun q=>∃ es c,w.heap[q]? = some (.map es c)
theorem FldV.mapS{Q:Nat->Prop}{w w':Wd}{t r:Value}{f:FId}(h:FldV Q w.heap t r f)(x:Ext (MapS w) w w'):FldV Q w'.heap t r f:=by
 unfold FldV at h ⊢
 split at h
 .exact h
 .obtain ⟨b,h1,h2,h3,h4⟩:=h
  refine ⟨b,h1,h2,h3,?_⟩
  rw [x.blk b (Array.getElem?_eq_some_iff.1 h4).1 fun ⟨es,c,hm⟩=>by rw [h4] at hm; cases hm]; exact h4
theorem Rd.mapS{w w':Wd}{s:Sl}{sz:Nat}{cs:List Value}(r:Rd w.heap s sz cs)(x:Ext (MapS w) w w'):Rd w'.heap s sz cs:=by
 refine ⟨r.len,r.cap,fun hne=>?_,r.cells⟩
 obtain ⟨b,off,ha,hc⟩:=r.at_ hne
 refine ⟨b,off,ha,fun i hi=>?_⟩
 have h1:=hc i hi
 rw [hcell_congr (x.blk b (hcell_lt h1) fun ⟨es,c,hm⟩=>by unfold hcell at h1; rw [hm] at h1; cases h1)]; exact h1
theorem FldsR.mapS{Q:Nat->Prop}{w w':Wd}{s:Sl}{fs:List FId}(r:FldsR Q w.heap s fs)(x:Ext (MapS w) w w'):FldsR Q w'.heap s fs:=by
 obtain ⟨vs,h1,h2,h3⟩:=r
 exact ⟨vs,h1.mono fun _ _ _ k=>k.mapS x,h2.mapS x,h3⟩
inductive Kd where
 | mk | fld (f:FId) | sl (fs:List FId) | fr (w:Bs) (fs:List FId) | ins (k:Nat) | cp
def FactV(base:Nat)(h:Array Obj)(v:Value):Kd->Prop
 | .fld f=>∃ x y,v = .agg [x,y].toArray/\FldV (base<=·) h x y f
 | .sl fs=>∃ s:Sl,v = .slice s.a s.len s.cap/\FldsR (base<=·) h s fs
 | .fr wd fs=>∃ s:Sl,v = .agg [.string (stB wd), .slice s.a s.len s.cap].toArray/\FldsR (base<=·) h s fs
 | _=>True
theorem FactV.mapS{base:Nat}{w w':Wd}{v:Value}{k:Kd}(h:FactV base w.heap v k)(x:Ext (MapS w) w w'):FactV base w'.heap v k:=by
 cases k with
 | fld f=>obtain ⟨a,b,e,h⟩:=h; exact ⟨a,b,e,h.mapS x⟩
 | sl fs=>obtain ⟨s,e,h⟩:=h; exact ⟨s,e,h.mapS x⟩
 | fr wd fs=>obtain ⟨s,e,h⟩:=h; exact ⟨s,e,h.mapS x⟩
 | _=>trivial
def tabK:List (Nat×Kd):=[(13, .mk),(14, .fld .tenant),(15, .fld .secret),(16, .fld .quota),(17, .sl [.tenant, .secret, .quota]),(18, .fr [99,114,101,97,116,101] [.tenant, .secret, .quota]),(106, .ins 1),(19, .fld .tenant),(20, .sl [.tenant]),(21, .fr [100,101,108,101,116,101] [.tenant]),(110, .ins 2),(22, .fld .tenant),(23, .sl [.tenant]),(24, .fr [116,117,114,110] [.tenant]),(114, .ins 3),(25, .fld .tenant),(26, .fld .count),(27, .sl [.tenant, .count]),(28, .fr [115,116,101,112] [.tenant, .count]),(119, .ins 4),(29, .fld .tenant),(30, .sl [.tenant]),(31, .fr [102,105,110,105,115,104] [.tenant]),(123, .ins 5),(32, .fr [114,111,111,116] []),(125, .ins 6),(33, .fr [116,101,110,97,110,116,115] []),(127, .ins 7),(34, .fld .tenant),(35, .fld .secret),(36, .sl [.tenant, .secret]),(37, .fr [97,116,116,97,99,104] [.tenant, .secret]),(132, .ins 8),(38, .fld .handle),(39, .fld .rights),(40, .sl [.handle, .rights]),(41, .fr [103,105,118,101] [.handle, .rights]),(137, .ins 9),(42, .fld .handle),(43, .fld .other),(44, .sl [.handle, .other]),(45, .fr [114,101,118,111,107,101] [.handle, .other]),(142, .ins 10),(46, .fld .handle),(47, .fld .ops),(48, .sl [.handle, .ops]),(49, .fr [98,97,116,99,104] [.handle, .ops]),(147, .ins 11),(50, .fld .handle),(51, .fld .snap),(52, .fld .key),(53, .sl [.handle, .snap, .key]),(54, .fr [103,101,116] [.handle, .snap, .key]),(153, .ins 12),(55, .fld .handle),(56, .fld .snap),(57, .fld .frm),(58, .fld .upto),(59, .fld .count),(60, .fld .way),(61, .sl [.handle, .snap, .frm, .upto, .count, .way]),(62, .fr [115,99,97,110] [.handle, .snap, .frm, .upto, .count, .way]),(162, .ins 13),(63, .fld .handle),(64, .sl [.handle]),(65, .fr [115,110,97,112] [.handle]),(166, .ins 14),(66, .fld .handle),(67, .fld .snap),(68, .sl [.handle, .snap]),(69, .fr [114,101,108,101,97,115,101] [.handle, .snap]),(171, .ins 15),(70, .fld .handle),(71, .sl [.handle]),(72, .fr [117,115,97,103,101] [.handle]),(175, .ins 16),(73, .cp),(0, .cp)]
def getT(i:Nat):Nat×Kd:=tabK.getD i (0, .mk)
def fidOf:Kd->FId
 | .fld f=>f
 | _ => .tenant
def isFld:Kd->Bool
 | .fld _=>true
 | _=>false
theorem tab_ok:∀ i:Fin 78,i.val≠0->i.val≠76->i.val≠77->13 < (getT i.val).1/\(getT i.val).1≠73:=by decide +kernel
theorem tab_inj:∀ i:Fin 78,∀ j:Fin 78,(getT i.val).1=(getT j.val).1->i=j:=by decide +kernel
def FldAt(base:Nat)(ρ:Env)(w:Wd)(t:Nat)(f:FId):Prop:=∃ b x y,ρ t = .pointer (some ⟨b,0,none⟩)/\w.heap[b]? = some (.cells [x,y].toArray 104 (0,0))/\FldV (base<=·) w.heap x y f
theorem FldAt.step{base:Nat}{ρ ρ':Env}{w w':Wd}{t:Nat}{f:FId}(h:FldAt base ρ w t f)(x:Ext (MapS w) w w')(e:ρ' t=ρ t):FldAt base ρ' w' t f:=by
 obtain ⟨b,p,q,h1,h2,h3⟩:=h
 refine ⟨b,p,q,e ▸ h1,?_,h3.mapS x⟩
 rw [x.blk b (Array.getElem?_eq_some_iff.1 h2).1 fun ⟨es,c,hm⟩=>by rw [h2] at hm; cases hm]; exact h2
def MapOK(base:Nat)(h:Array Obj)(r:Nat)(m:List (Int×Value)):Prop:=base<=r/\MapR h (fun a:Int=>Value.int .i64 a) r m/\∀ p∈m,∃ k:Nat,p.1=(k:Int)/\∃ g,formP k=some g/\FactV base h p.2 (.fr g.1 g.2)
structure FInv(w0:Wd)(d:Nat->Bool)(ρ:Env)(w:Wd):Prop where
 x:Ext No w0 w
 l1:FldAt w0.heap.size ρ w 1 .quota
 l2:FldAt w0.heap.size ρ w 2 .rights
 l3:FldAt w0.heap.size ρ w 3 .other
 l4:FldAt w0.heap.size ρ w 4 .key
 l5:FldAt w0.heap.size ρ w 5 .frm
 l6:FldAt w0.heap.size ρ w 6 .upto
 f:∀ i,i < 78->d i=true->FactV w0.heap.size w.heap (ρ (getT i).1) (getT i).2
 m:d 0=true->∃ r m,ρ 13 = .map (some r)/\MapOK w0.heap.size w.heap r m/\∀ i,i < 78->d i=true->∀ k,(getT i).2 = .ins k->(getA (k:Int) m).isSome
 z:∀ i,i < 78->d i=true->∀ k,(getT i).2 = .ins k->d 0=true
 c:d 76=true->d 0=true/\ρ 73=ρ 13
 c':d 77=true->d 76=true/\ρ 0=ρ 73
theorem Ext.mapS{w w':Wd}(x:Ext No w w'):Ext (MapS w) w w':=x.of_no
theorem doneB_iff{d:Nat->Bool}{i j:Nat}:doneB d i j=true ↔ j=i∨d j=true:=by
 unfold doneB
 by_cases e:j=i
 .subst e; simp
 .have:Nat.beq j i=false:=by
   cases hb:Nat.beq j i with
   | false=>rfl
   | true=>exact absurd (Nat.eq_of_beq_eq_true hb) e
  simp [this,e]
theorem FInv.step{w0:Wd}{d:Nat->Bool}{ρ:Env}{w w':Wd}(h:FInv w0 d ρ w){i d0:Nat}{v:Value}{kd:Kd}(hi:i < 78/\i≠0/\i≠76/\i≠77)(ht:getT i=(d0,kd))(hk:∀ k,kd ≠ .ins k)(x:Ext No w w')(hn:FactV w0.heap.size w'.heap v kd):FInv w0 (doneB d i) (put ρ d0 v) w':=by
 obtain ⟨h1,h2,h3,h4⟩:=hi
 have hd:=tab_ok ⟨i,h1⟩ h2 h3 h4
 simp only [ht] at hd
 have ne:∀{t},t<=13∨t=73->put ρ d0 v t=ρ t:=fun {t} ht=>put_ne _ _ (by omega)
 refine ⟨h.x.no x,h.l1.step x.mapS (ne (by decide)),h.l2.step x.mapS (ne (by decide)),h.l3.step x.mapS (ne (by decide)),h.l4.step x.mapS (ne (by decide)),h.l5.step x.mapS (ne (by decide)),h.l6.step x.mapS (ne (by decide)),fun j hj hdj=>?_,fun h0=>?_,fun j hj hdj k hk'=>?_,fun hh=>?_,fun hh=>?_⟩
 .rcases doneB_iff.1 hdj with rfl | hdj
  .rw [ht,put_same]; exact hn
  .by_cases e:j=i
   .subst e; rw [ht,put_same]; exact hn
   .rw [put_ne _ _ fun e2=>e (by have:=tab_inj ⟨j,hj⟩ ⟨i,h1⟩ (by simpa only [ht] using e2); simpa using this)]
    exact (h.f j hj hdj).mapS x.mapS
 .rcases doneB_iff.1 h0 with e | h0
  .exact absurd e.symm h2
  .obtain ⟨r,m,e,⟨hb,hm,hp⟩,hs⟩:=h.m h0
   refine ⟨r,m,by rw [ne (by decide),e],⟨hb,hm.ext x id,fun p hp'=>?_⟩,fun j hj hdj k hk'=>?_⟩
   .obtain ⟨k,e1,g,e2,e3⟩:=hp p hp'
    exact ⟨k,e1,g,e2,e3.mapS x.mapS⟩
   .rcases doneB_iff.1 hdj with rfl | hdj
    .rw [ht] at hk'; exact absurd hk' (hk k)
    .exact hs j hj hdj k hk'
 .rcases doneB_iff.1 hdj with rfl | hdj
  .rw [ht] at hk'; exact absurd hk' (hk k)
  .exact doneB_iff.2 (.inr (h.z j hj hdj k hk'))
 .rcases doneB_iff.1 hh with e | hh
  .exact absurd e.symm h3
  .rw [ne (by decide),ne (by decide)]
   exact ⟨doneB_iff.2 (.inr (h.c hh).1),(h.c hh).2⟩
 .rcases doneB_iff.1 hh with e | hh
  .exact absurd e.symm h4
  .rw [ne (by decide),ne (by decide)]
   exact ⟨doneB_iff.2 (.inr (h.c' hh).1),(h.c' hh).2⟩
def seqL:Code->Code
 | .seq a _=>a
 | c=>c
def seqR:Code->Code
 | .seq _ b=>b
 | c=>c
def regOps:Code->Array Oper
 | .region _ ops _=>ops
 | _=>#[]
end Go.V
namespace Go.Proofs.YtimonamjecmlcaaGreatDoor
open Go.V
section
variable {w:Wd} {K:Value->Value->Wd->Prop}
theorem fld_ret{x y:Value}{f:FId}(hx:oneC x=true)(hy:oneC y=true)(hf:∀ w':Wd,FldV (w.heap.size<=·) w'.heap x y f)(k:∀ x y w',FldV (w.heap.size<=·) w'.heap x y f->Ext No w w'->K x y w'):NewW w (.cells [.nilFunc, .nilFunc].toArray 104) fun b w1 =>
 oneC x=true/\oneC y=true/\List.length (α:=Value) [x,y]=2/\StN w1 (Addr.mk b 0 none) [x,y] fun w2 =>
 ∃ c:Value,Cell w2 (Addr.mk b 0 none) (c)/\∃ c_1:Value,Cell w2 ((Addr.mk b 0 none).add 1) (c_1)/\K c c_1 w2 :=
 NewW.mk fun b w1 n1=>⟨hx,hy,rfl,StN.all n1.get rfl (by intro v hv; simp at hv; rcases hv with rfl | rfl; exact hx; exact hy) fun w2 g2 x2 _=>by
  have x2':Ext (·=b) w1 w2:=x2
  have hb:=n1.at_
  exact ⟨x,Cell.lst g2 rfl,y,Cell.lst g2 rfl,k x y w2 (hf w2) (n1.ext.trans x2' fun q hq h=>by omega)⟩⟩
theorem tenant_fld(k:∀ x y w',FldV (w.heap.size<=·) w'.heap x y .tenant->Ext No w w'->K x y w'):C_play_tenant w K:=by
 apply S_play_tenant; exact fld_ret (f := .tenant) rfl rfl (fun _=>⟨rfl,rfl⟩) k
theorem count_fld(k:∀ x y w',FldV (w.heap.size<=·) w'.heap x y .count->Ext No w w'->K x y w'):C_play_count w K:=by
 apply S_play_count; exact fld_ret (f := .count) rfl rfl (fun _=>⟨rfl,rfl⟩) k
theorem handle_fld(k:∀ x y w',FldV (w.heap.size<=·) w'.heap x y .handle->Ext No w w'->K x y w'):C_play_handle w K:=by
 apply S_play_handle; exact fld_ret (f := .handle) rfl rfl (fun _=>⟨rfl,rfl⟩) k
theorem snap_fld(k:∀ x y w',FldV (w.heap.size<=·) w'.heap x y .snap->Ext No w w'->K x y w'):C_play_snap w K:=by
 apply S_play_snap; exact fld_ret (f := .snap) rfl rfl (fun _=>⟨rfl,rfl⟩) k
theorem ops_fld(k:∀ x y w',FldV (w.heap.size<=·) w'.heap x y .ops->Ext No w w'->K x y w'):C_play_ops w K:=by
 apply S_play_ops; exact fld_ret (f := .ops) rfl rfl (fun _=>⟨rfl,rfl⟩) k
theorem way_fld(k:∀ x y w',FldV (w.heap.size<=·) w'.heap x y .way->Ext No w w'->K x y w'):C_play_way w K:=by
 apply S_play_way; exact fld_ret (f := .way) rfl rfl (fun _=>⟨rfl,rfl⟩) k
theorem bytes_fld{n:Nat}{f:FId}(hf:fnsF f = .inr n)(k:∀ x y w',FldV (w.heap.size<=·) w'.heap x y f->Ext No w w'->K x y w'):C_play_bytes (fnV n) w K:=by
 apply S_play_bytes
 refine ⟨rfl,NewW.mk fun b w1 n1=>NewW.mk fun b1 w2 n2=>⟨rfl,rfl,rfl,StN.all n2.get rfl (by intro v hv; simp at hv; rcases hv with rfl | rfl <;> rfl) fun w3 g3 x3 _=>?_⟩⟩
 have x3':Ext (·=b1) w2 w3:=x3
 have hb:=n1.at_; have hb1:=n2.at_; have z1:=n1.size
 have x13:Ext No w1 w3:=n2.ext.trans x3' fun q hq h=>by omega
 refine ⟨_,Cell.lst g3 rfl,_,Cell.lst g3 rfl,k _ _ w3 ?_ (n1.ext.no x13)⟩
 unfold FldV
 rw [hf]
 exact ⟨b,by omega,rfl,rfl,get_no n1.get x13⟩
theorem secret_fld(k:∀ x y w',FldV (w.heap.size<=·) w'.heap x y .secret->Ext No w w'->K x y w'):C_play_secret w K:=by
 apply S_play_secret
 refine NewW.mk fun b w1 n1=>bytes_fld (f := .secret) rfl fun x y w2 h2 x2=>?_
 have hb:=n1.at_; have z1:=n1.size
 refine ⟨rfl,StN.all (get_no n1.get x2) rfl (by intro v hv; simp at hv; rcases hv with rfl | rfl; exact h2.one.1; exact h2.one.2) fun w3 g3 x3 _=>?_⟩
 have x3':Ext (·=b) w2 w3:=x3
 have x13:Ext No w w3:=(n1.ext.no x2).trans x3' fun q hq h=>by omega
 refine ⟨_,Cell.lst g3 rfl,_,Cell.lst g3 rfl,k _ _ w3 ?_ x13⟩
 exact (h2.ext x3' fun q hq h=>by omega).mono fun q hq=>by omega
end
noncomputable abbrev c24:Code:=Tryz.f24.body.getD .skip
noncomputable abbrev ops7:Array Oper:=regOps (seqL (seqR (seqR (seqR (seqR (seqR (seqR (seqR c24))))))))
abbrev r7(b1 b2 b3 b4 b5 b6:Nat)(x4 y4 x5 y5 x6 y6:Value):Env :=
 put (put (put (put (put (put (put (put (put (put (put (put (put (argEnv []) 0 (.map none)) 7 (.agg ([fnV 56,fnV 57]).toArray)) 1 (.pointer (some ⟨b1,0,none⟩))) 8 (.agg ([fnV 59,fnV 61]).toArray)) 2 (.pointer (some ⟨b2,0,none⟩))) 9 (.agg ([fnV 62,fnV 64]).toArray)) 3 (.pointer (some ⟨b3,0,none⟩)))
  10 (.agg ([x4,y4]).toArray)) 4 (.pointer (some ⟨b4,0,none⟩))) 11 (.agg ([x5,y5]).toArray)) 5 (.pointer (some ⟨b5,0,none⟩))) 12 (.agg ([x6,y6]).toArray)) 6 (.pointer (some ⟨b6,0,none⟩))
def F_play_forms(w:Wd)(K:Option Nat->Wd->Prop):Prop:=oneC (.func (.func 56) #[] #[])=true/\oneC (.func (.func 57) #[] #[])=true/\NewW w (.cells [.nilFunc, .nilFunc].toArray 104) fun g n=>StL n (A0 g) 2 [.func (.func 56) #[] #[], .func (.func 57) #[] #[]] fun u=>oneC (.func (.func 59) #[] #[])=true/\oneC (.func (.func 61) #[] #[])=true/\NewW u (.cells [.nilFunc, .nilFunc].toArray 104) fun h v=>StL v (A0 h) 2 [.func (.func 59) #[] #[], .func (.func 61) #[] #[]] fun x=>oneC (.func (.func 62) #[] #[])=true/\oneC (.func (.func 64) #[] #[])=true/\NewW x (.cells [.nilFunc, .nilFunc].toArray 104) fun i y=>StL y (A0 i) 2 [.func (.func 62) #[] #[], .func (.func 64) #[] #[]] fun z=>C_play_bytes (.func (.func 66) #[] #[]) z fun a d A=>NewW A (.cells [.nilFunc, .nilFunc].toArray 104) fun j B=>StL B (A0 j) 2 [a,d] fun C=>C_play_bytes (.func (.func 67) #[] #[]) C fun b e o=>NewW o (.cells [.nilFunc, .nilFunc].toArray 104) fun k p=>StL p (A0 k) 2 [b,e] fun q=>C_play_bytes (.func (.func 68) #[] #[]) q fun c f r=>NewW r (.cells [.nilFunc, .nilFunc].toArray 104) fun l s=>StL s (A0 l) 2 [c,f] fun t=>freeW pz PK NoX ops7 (fun ρ m=>Sh.get .map (ρ 0) fun D=>K D m) (r7 g h i j k l a d b e c f) (drewW t)
def A_play_forms:Ann:=(qz (qz (qz (qz (qz (qz (qz (.seq .free n0))))))))
theorem S_play_forms{w:Wd}{K:Option Nat->Wd->Prop}(h:F_play_forms w K):C_play_forms w K :=
 mkS (pk:=PK) (ann:=A_play_forms) (args:=[]) (tys:=[.one (.map)]) (K:=K) (w:=w) Tryz.func24 (by kernel_rfl) (by kernel_rfl) (by kernel_rfl) h
abbrev FStep(w0:Wd)(i:Nat):Prop:=∀ d ρ w,FInv w0 d ρ w->d i=false->afterB ops7 i d=true->stepW pz PK NoX ops7 i (fun ρ' w'=>FInv w0 (doneB d i) ρ' w') ρ w
section
variable {w0:Wd} {i d0:Nat}
theorem step_call{f:FId}(C:Wd->(Value->Value->Wd->Prop)->Prop)(hi:i < 78/\i≠0/\i≠76/\i≠77)(ht:getT i=(d0, .fld f))(he:∀(N:Env->Wd->Prop) ρ w,stepW pz PK NoX ops7 i N ρ w=C w fun r0 r1 w1=>N (put ρ d0 (.agg ([r0,r1]).toArray)) w1)
  (hC:∀{w K},(∀ x y w',FldV (w.heap.size<=·) w'.heap x y f->Ext No w w'->K x y w')->C w K):FStep w0 i:=by
 intro d ρ w h hd ha
 rw [he]
 refine hC fun x y w' hf x1=>h.step hi ht (fun k e=>by cases e) x1 ⟨x,y,rfl,hf.mono fun b hb=>Nat.le_trans h.x.size hb⟩
theorem step_load{t:Nat}{f:FId}(hi:i < 78/\i≠0/\i≠76/\i≠77)(ht:getT i=(d0, .fld f))(hl:∀{d ρ w},FInv w0 d ρ w->FldAt w0.heap.size ρ w t f)(he:∀(N:Env->Wd->Prop) ρ w b,stepW pz PK NoX ops7 i N (put ρ t (.pointer (some ⟨b,0,none⟩))) w=∃ c:Value,Cell w (Addr.mk b 0 none) c/\∃ c_1:Value,Cell w ((Addr.mk b 0 none).add 1) c_1/\N (put (put ρ t (.pointer (some ⟨b,0,none⟩))) d0 (.agg ([c,c_1]).toArray)) w):FStep w0 i:=by
 intro d ρ w h hd ha
 obtain ⟨b,x,y,e1,e2,e3⟩:=hl h
 have:=he (fun ρ' w'=>FInv w0 (doneB d i) ρ' w') ρ w b
 rw [put_eq e1] at this
 rw [this]
 exact ⟨x,Cell.lst e2 rfl,y,Cell.lst e2 rfl,h.step hi ht (fun k e=>by cases e) (Ext.refl _ _) ⟨x,y,rfl,e3⟩⟩
def putsF:List Nat->List (Value×Value)->Env->Env
 | t::ts,p::vs,ρ=>put (putsF ts vs ρ) t (.agg ([p.1,p.2]).toArray)
 | _,_,ρ=>ρ
def allV:Nat->(List (Value×Value)->Prop)->Prop
 | 0,P=>P []
 | n+1,P=>∀ x y,allV n fun vs=>P ((x,y)::vs)
theorem allV_elim:∀{n:Nat}{P:List (Value×Value)->Prop},allV n P->∀ vs,vs.length=n->P vs
 | 0,_,h,[],_=>h
 | 0,_,_,_::_,h=>by simp at h
 | n+1,_,_,[],h=>by simp at h
 | n+1,_,h,(x,y)::vs,hl=>allV_elim (h x y) vs (by simpa using hl)
theorem slice_ok{base:Nat}{h:Array Obj}{ρ:Env}:∀(js:List Nat),(∀ j∈js,FactV base h (ρ (getT j).1) (.fld (fidOf (getT j).2)))->∃ vs,FlL (base<=·) h vs (js.map fun j=>fidOf (getT j).2)/\putsF (js.map fun j=>(getT j).1) vs ρ=ρ
 | [],_=>⟨[],trivial,rfl⟩
 | j::js,hj=>by
  obtain ⟨x,y,e,hf⟩:=hj j (by simp)
  obtain ⟨vs,h1,h2⟩:=slice_ok js fun j' h'=>hj j' (by simp [h'])
  refine ⟨(x,y)::vs,⟨hf,h1⟩,?_⟩
  rw [List.map_cons,putsF,h2]
  exact put_eq e
theorem step_sl{js:List Nat}(hi:i < 78/\i≠0/\i≠76/\i≠77)(ht:getT i=(d0, .sl (js.map fun j=>fidOf (getT j).2)))(hj:∀ j∈js,j < 78/\isFld (getT j).2=true)(ha:∀ d,afterB ops7 i d=js.all d)
  (he:allV js.length fun vs=>∀(N:Env->Wd->Prop) ρ w,stepW pz PK NoX ops7 i N (putsF (js.map fun j=>(getT j).1) vs ρ) w=NewW w (.cells (flC vs).toArray 104) fun b w'=>N (put (putsF (js.map fun j=>(getT j).1) vs ρ) d0 (.slice (some ⟨b,0,none⟩) js.length js.length)) w'):FStep w0 i:=by
 intro d ρ w h hd haf
 rw [ha,List.all_eq_true] at haf
 obtain ⟨vs,hvs,hp⟩:=slice_ok (base:=w0.heap.size) (h:=w.heap) (ρ:=ρ) js fun j hjj=>by
  have h1:=h.f j (hj j hjj).1 (haf j hjj)
  have h2:=(hj j hjj).2
  revert h1 h2
  cases (getT j).2 with
  | fld f=>exact fun h1 _=>h1
  | _=>exact fun _ h2=>by cases h2
 have hl:vs.length=js.length:=by rw [hvs.len,List.length_map]
 have:=allV_elim he vs hl (fun ρ' w'=>FInv w0 (doneB d i) ρ' w') ρ w
 rw [hp] at this
 rw [this]
 refine NewW.mk fun b w' n=>?_
 have fl:(flC vs).length=vs.length * 2:=flat_len' (n:=2) fun _ _=>rfl
 have o:Own w'.heap w.heap.size 104 2 ⟨some ⟨b,0,none⟩,js.length,js.length⟩ (flC vs):=Own.new n (by rw [fl,hl]) hvs.one
 refine h.step hi ht (fun k e=>by cases e) n.ext ⟨⟨some ⟨b,0,none⟩,js.length,js.length⟩,rfl,vs,hvs.mono fun _ _ _ k=>k.ext n.ext fun _ _=>id,o.rd,fun _ q hq=>?_⟩
 have:=(o.lt hq).1
 exact Nat.le_trans h.x.size this
theorem step_fr{wd:Bs}{src j:Nat}{fs:List FId}(hi:i < 78/\i≠0/\i≠76/\i≠77)(hj:j < 78)(hts:getT j=(src, .sl fs))(ht:getT i=(d0, .fr wd fs))(ha:∀ d,afterB ops7 i d=(d j && true))
  (he:∀(N:Env->Wd->Prop) ρ w (a:Option Addr) (n c:Nat),stepW pz PK NoX ops7 i N (put ρ src (.slice a n c)) w=N (put (put ρ src (.slice a n c)) d0 (.agg ([.string (stB wd), .slice a n c]).toArray)) w):FStep w0 i:=by
 intro d ρ w h hd haf
 rw [ha,Bool.and_true] at haf
 have h1:=h.f j hj haf
 rw [hts] at h1
 obtain ⟨s,e,hs⟩:=h1
 have:=he (fun ρ' w'=>FInv w0 (doneB d i) ρ' w') ρ w s.a s.len s.cap
 rw [put_eq e] at this
 rw [this]
 exact h.step hi ht (fun k e=>by cases e) (Ext.refl _ _) ⟨s,rfl,hs⟩
theorem step_fr0{wd:Bs}(hi:i < 78/\i≠0/\i≠76/\i≠77)(ht:getT i=(d0, .fr wd []))(he:∀(N:Env->Wd->Prop) ρ w,stepW pz PK NoX ops7 i N ρ w=N (put ρ d0 (.agg ([.string (stB wd), .slice none 0 0]).toArray)) w):FStep w0 i:=by
 intro d ρ w h hd haf
 rw [he]
 exact h.step hi ht (fun k e=>by cases e) (Ext.refl _ _) ⟨⟨none,0,0⟩,rfl,[],trivial,Rd.nil _ _,fun h=>(h rfl).elim⟩
theorem getA_put{a b:Int}{v:Value}:∀{m:List (Int×Value)},((getA b m).isSome∨b=a)->(getA b (putA a v m)).isSome
 | [],h=>by
  rcases h with h | rfl
  .cases h
  .simp [putA,getA]
 | p::m,h=>by
  unfold putA
  split
  .rename_i e
   subst e
   unfold getA
   split
   .rfl
   .rename_i hne
    rcases h with h | h
    .unfold getA at h; rw [if_neg hne] at h; exact h
    .exact absurd h hne
  .unfold getA
   split
   .rfl
   .rename_i hne
    refine getA_put (h.imp (fun h=>?_) id)
    unfold getA at h; rw [if_neg hne] at h; exact h
theorem mem_put{a:Int}{v:Value}:∀{m:List (Int×Value)}{p:Int×Value},p∈putA a v m->p=(a,v)∨p∈m
 | [],p,h=>by simp [putA] at h; exact .inl h
 | q::m,p,h=>by
  unfold putA at h
  split at h
  .rcases List.mem_cons.1 h with h | h
   .exact .inl h
   .exact .inr (List.mem_cons_of_mem _ h)
  .rcases List.mem_cons.1 h with h | h
   .exact .inr (by rw [h]; exact List.mem_cons_self)
   .exact (mem_put h).imp id fun h=>List.mem_cons_of_mem _ h
theorem und60:Tryz.prog.underlying 60=some (.map 23 59):=by kernel_rfl
theorem key60:KeyOK pz 23 (fun a:Int=>Value.int .i64 a):=int_key (by kernel_rfl)
theorem step_ins{k src j:Nat}{g:Bs×List FId}(hi:i < 78/\i≠0/\i≠76/\i≠77)(hj:j < 78)(hg:formP k=some g)(hts:getT j=(src, .fr g.1 g.2))(ht:getT i=(100+i, .ins k))(ha:∀ d,afterB ops7 i d=(d 0 && (d j && true)))
  (he:∀(N:Env->Wd->Prop) ρ w,stepW pz PK NoX ops7 i N ρ w=∃ w',(Instr.mapUpdate 60 (ρ 13) (.int .i64 (k:Int)) (ρ src)).run pz w = .ok () w'/\N ρ w'):FStep w0 i:=by
 intro d ρ w h hd haf
 rw [ha,Bool.and_true,Bool.and_eq_true] at haf
 have h1:=h.f j hj haf.2
 rw [hts] at h1
 obtain ⟨r,m,e,⟨hb,hm,hp⟩,hs⟩:=h.m haf.1
 rw [he,e]
 obtain ⟨w',hr,hm',x',z'⟩:=run_mapUpdate (a:=(k:Int)) (v:=ρ src) key60 und60 hm
 have hmr:MapS w r:=by obtain ⟨es,c,h,_⟩:=hm; exact ⟨es,c,h⟩
 have xs:Ext (MapS w) w w':=x'.mono fun q _ hq=>by rw [hq]; exact hmr
 have hr0:w0.heap.size<=r:=hb
 obtain ⟨i1,i2,i3,i4⟩:=hi
 refine ⟨w',hr,⟨h.x.trans x' fun q hq hq2=>by omega,h.l1.step xs rfl,h.l2.step xs rfl,h.l3.step xs rfl,h.l4.step xs rfl,h.l5.step xs rfl,h.l6.step xs rfl,fun q hq hdq=>?_,fun _=>⟨r,putA (k:Int) (ρ src) m,e,⟨hb,hm',fun p hp'=>?_⟩,fun q hq hdq k' hk'=>?_⟩,fun q hq hdq k' hk'=>doneB_iff.2 (.inr haf.1),fun hh=>?_,fun hh=>?_⟩⟩
 .rcases doneB_iff.1 hdq with rfl | hdq
  .rw [ht]; trivial
  .exact (h.f q hq hdq).mapS xs
 .rcases mem_put hp' with rfl | hp'
  .exact ⟨k,rfl,g,hg,h1.mapS xs⟩
  .obtain ⟨k',e1,g',e2,e3⟩:=hp p hp'
   exact ⟨k',e1,g',e2,e3.mapS xs⟩
 .rcases doneB_iff.1 hdq with rfl | hdq
  .rw [ht] at hk'; cases hk'; exact getA_put (.inr rfl)
  .exact getA_put (.inl (hs q hq hdq k' hk'))
 .rcases doneB_iff.1 hh with e | hh
  .exact absurd e.symm i3
  .exact ⟨doneB_iff.2 (.inr haf.1),(h.c hh).2⟩
 .rcases doneB_iff.1 hh with e | hh
  .exact absurd e.symm i4
  .exact ⟨doneB_iff.2 (.inr (h.c' hh).1),(h.c' hh).2⟩
theorem step_mk(he:∀(N:Env->Wd->Prop) ρ w,stepW pz PK NoX ops7 0 N ρ w=NewW w (.map #[] 0) fun b w'=>N (put ρ 13 (.map (some b))) w'):FStep w0 0:=by
 intro d ρ w h hd haf
 rw [he]
 refine NewW.mk fun b w' n=>?_
 have hb:=n.at_
 have x:=n.ext
 have z:=h.x.size
 have ne:∀{t},t≠13->put ρ 13 (.map (some b)) t=ρ t:=fun {t} ht=>put_ne _ _ ht
 refine ⟨h.x.no x,h.l1.step x.mapS (ne (by decide)),h.l2.step x.mapS (ne (by decide)),h.l3.step x.mapS (ne (by decide)),h.l4.step x.mapS (ne (by decide)),h.l5.step x.mapS (ne (by decide)),h.l6.step x.mapS (ne (by decide)),fun j hj hdj=>?_,fun _=>⟨b,[],put_same _ _ _,⟨by omega,⟨#[],0,n.get,rfl, .nil⟩,fun p hp=>by cases hp⟩,fun j hj hdj k hk=>?_⟩,fun j hj hdj k hk=>doneB_iff.2 (.inl rfl),fun hh=>?_,fun hh=>?_⟩
 .rcases doneB_iff.1 hdj with rfl | hdj
  .trivial
  .by_cases e:j=0
   .subst e; trivial
   .rw [ne fun e2=>e (congrArg Fin.val (tab_inj ⟨j,hj⟩ ⟨0,by decide⟩ e2))]
    exact (h.f j hj hdj).mapS x.mapS
 .exfalso
  rcases doneB_iff.1 hdj with rfl | hdj
  .cases hk
  .have:=h.z j hj hdj k hk; rw [hd] at this; cases this
 .rcases doneB_iff.1 hh with e | hh
  .cases e
  .have:=(h.c hh).1; rw [hd] at this; cases this
 .rcases doneB_iff.1 hh with e | hh
  .cases e
  .have:=(h.c (h.c' hh).1).1; rw [hd] at this; cases this
theorem step_mv{l:List Nat}(h0:0∈l)(hl:∀ d,afterB ops7 76 d=l.all d)(he:∀(N:Env->Wd->Prop) ρ w,stepW pz PK NoX ops7 76 N ρ w=N (put ρ 73 (ρ 13)) w):FStep w0 76:=by
 intro d ρ w h hd haf
 have ha:∀ d,afterB ops7 76 d=true->d 0=true:=fun d h=>by rw [hl,List.all_eq_true] at h; exact h 0 h0
 rw [he]
 have ne:∀{t},t≠73->put ρ 73 (ρ 13) t=ρ t:=fun {t} ht=>put_ne _ _ ht
 have x:Ext (MapS w) w w:=Ext.refl _ _
 refine ⟨h.x,h.l1.step x (ne (by decide)),h.l2.step x (ne (by decide)),h.l3.step x (ne (by decide)),h.l4.step x (ne (by decide)),h.l5.step x (ne (by decide)),h.l6.step x (ne (by decide)),fun j hj hdj=>?_,fun h0=>?_,fun j hj hdj k hk=>?_,fun hh=>⟨doneB_iff.2 (.inr (ha d haf)),by rw [put_same,ne (by decide)]⟩,fun hh=>?_⟩
 .rcases doneB_iff.1 hdj with rfl | hdj
  .trivial
  .by_cases e:j=76
   .subst e; trivial
   .rw [ne fun e2=>e (congrArg Fin.val (tab_inj ⟨j,hj⟩ ⟨76,by decide⟩ e2))]
    exact h.f j hj hdj
 .rcases doneB_iff.1 h0 with e | h0
  .cases e
  .obtain ⟨r,m,e,h1,h2⟩:=h.m h0
   refine ⟨r,m,by rw [ne (by decide),e],h1,fun j hj hdj k hk=>?_⟩
   rcases doneB_iff.1 hdj with rfl | hdj
   .cases hk
   .exact h2 j hj hdj k hk
 .rcases doneB_iff.1 hdj with rfl | hdj
  .cases hk
  .exact doneB_iff.2 (.inr (h.z j hj hdj k hk))
 .rcases doneB_iff.1 hh with e | hh
  .cases e
  .have:=(h.c' hh).1; rw [hd] at this; cases this
theorem step_asg{l:List Nat}(h0:76∈l)(hl:∀ d,afterB ops7 77 d=l.all d)(he:∀(N:Env->Wd->Prop) ρ w,stepW pz PK NoX ops7 77 N ρ w=N (put ρ 0 (ρ 73)) w):FStep w0 77:=by
 intro d ρ w h hd haf
 have ha:∀ d,afterB ops7 77 d=true->d 76=true:=fun d h=>by rw [hl,List.all_eq_true] at h; exact h 76 h0
 rw [he]
 have ne:∀{t},t≠0->put ρ 0 (ρ 73) t=ρ t:=fun {t} ht=>put_ne _ _ ht
 have x:Ext (MapS w) w w:=Ext.refl _ _
 refine ⟨h.x,h.l1.step x (ne (by decide)),h.l2.step x (ne (by decide)),h.l3.step x (ne (by decide)),h.l4.step x (ne (by decide)),h.l5.step x (ne (by decide)),h.l6.step x (ne (by decide)),fun j hj hdj=>?_,fun h0=>?_,fun j hj hdj k hk=>?_,fun hh=>?_,fun hh=>⟨doneB_iff.2 (.inr (ha d haf)),by rw [put_same,ne (by decide)]⟩⟩
 .rcases doneB_iff.1 hdj with rfl | hdj
  .trivial
  .by_cases e:j=77
   .subst e; trivial
   .rw [ne fun e2=>e (congrArg Fin.val (tab_inj ⟨j,hj⟩ ⟨77,by decide⟩ e2))]
    exact h.f j hj hdj
 .rcases doneB_iff.1 h0 with e | h0
  .cases e
  .obtain ⟨r,m,e,h1,h2⟩:=h.m h0
   refine ⟨r,m,by rw [ne (by decide),e],h1,fun j hj hdj k hk=>?_⟩
   rcases doneB_iff.1 hdj with rfl | hdj
   .cases hk
   .exact h2 j hj hdj k hk
 .rcases doneB_iff.1 hdj with rfl | hdj
  .cases hk
  .exact doneB_iff.2 (.inr (h.z j hj hdj k hk))
 .rcases doneB_iff.1 hh with e | hh
  .cases e
  .rw [ne (by decide),ne (by decide)]
   exact ⟨doneB_iff.2 (.inr (h.c hh).1),(h.c hh).2⟩
end
section
variable {w0:Wd}
theorem st0:FStep w0 0:=step_mk (fun N ρ w=>by kernel_rfl)
theorem st1:FStep w0 1:=step_call C_play_tenant (f := .tenant) (d0:=14) (by decide) rfl (fun N ρ w=>by kernel_rfl) tenant_fld
theorem st2:FStep w0 2:=step_call C_play_secret (f := .secret) (d0:=15) (by decide) rfl (fun N ρ w=>by kernel_rfl) secret_fld
theorem st3:FStep w0 3:=step_load (t:=1) (f := .quota) (d0:=16) (by decide) rfl (fun h=>h.l1) (fun N ρ w b=>by kernel_rfl)
theorem st4:FStep w0 4:=step_sl (js:=[1,2,3]) (d0:=17) (by decide) rfl (by decide) (fun d=>by kernel_rfl) (fun x0 y0 x1 y1 x2 y2 N ρ w=>by kernel_rfl)
theorem st5:FStep w0 5:=step_fr (wd:=[99,114,101,97,116,101]) (src:=17) (j:=4) (d0:=18) (by decide) (by decide) rfl rfl (fun d=>by kernel_rfl) (fun N ρ w a n c=>by kernel_rfl)
theorem st6:FStep w0 6:=step_ins (k:=1) (src:=18) (j:=5) (by decide) (by decide) rfl rfl rfl (fun d=>by kernel_rfl) (fun N ρ w=>by kernel_rfl)
theorem st7:FStep w0 7:=step_call C_play_tenant (f := .tenant) (d0:=19) (by decide) rfl (fun N ρ w=>by kernel_rfl) tenant_fld
theorem st8:FStep w0 8:=step_sl (js:=[7]) (d0:=20) (by decide) rfl (by decide) (fun d=>by kernel_rfl) (fun x0 y0 N ρ w=>by kernel_rfl)
theorem st9:FStep w0 9:=step_fr (wd:=[100,101,108,101,116,101]) (src:=20) (j:=8) (d0:=21) (by decide) (by decide) rfl rfl (fun d=>by kernel_rfl) (fun N ρ w a n c=>by kernel_rfl)
theorem st10:FStep w0 10:=step_ins (k:=2) (src:=21) (j:=9) (by decide) (by decide) rfl rfl rfl (fun d=>by kernel_rfl) (fun N ρ w=>by kernel_rfl)
theorem st11:FStep w0 11:=step_call C_play_tenant (f := .tenant) (d0:=22) (by decide) rfl (fun N ρ w=>by kernel_rfl) tenant_fld
theorem st12:FStep w0 12:=step_sl (js:=[11]) (d0:=23) (by decide) rfl (by decide) (fun d=>by kernel_rfl) (fun x0 y0 N ρ w=>by kernel_rfl)
theorem st13:FStep w0 13:=step_fr (wd:=[116,117,114,110]) (src:=23) (j:=12) (d0:=24) (by decide) (by decide) rfl rfl (fun d=>by kernel_rfl) (fun N ρ w a n c=>by kernel_rfl)
theorem st14:FStep w0 14:=step_ins (k:=3) (src:=24) (j:=13) (by decide) (by decide) rfl rfl rfl (fun d=>by kernel_rfl) (fun N ρ w=>by kernel_rfl)
theorem st15:FStep w0 15:=step_call C_play_tenant (f := .tenant) (d0:=25) (by decide) rfl (fun N ρ w=>by kernel_rfl) tenant_fld
theorem st16:FStep w0 16:=step_call C_play_count (f := .count) (d0:=26) (by decide) rfl (fun N ρ w=>by kernel_rfl) count_fld
theorem st17:FStep w0 17:=step_sl (js:=[15,16]) (d0:=27) (by decide) rfl (by decide) (fun d=>by kernel_rfl) (fun x0 y0 x1 y1 N ρ w=>by kernel_rfl)
theorem st18:FStep w0 18:=step_fr (wd:=[115,116,101,112]) (src:=27) (j:=17) (d0:=28) (by decide) (by decide) rfl rfl (fun d=>by kernel_rfl) (fun N ρ w a n c=>by kernel_rfl)
theorem st19:FStep w0 19:=step_ins (k:=4) (src:=28) (j:=18) (by decide) (by decide) rfl rfl rfl (fun d=>by kernel_rfl) (fun N ρ w=>by kernel_rfl)
theorem st20:FStep w0 20:=step_call C_play_tenant (f := .tenant) (d0:=29) (by decide) rfl (fun N ρ w=>by kernel_rfl) tenant_fld
theorem st21:FStep w0 21:=step_sl (js:=[20]) (d0:=30) (by decide) rfl (by decide) (fun d=>by kernel_rfl) (fun x0 y0 N ρ w=>by kernel_rfl)
theorem st22:FStep w0 22:=step_fr (wd:=[102,105,110,105,115,104]) (src:=30) (j:=21) (d0:=31) (by decide) (by decide) rfl rfl (fun d=>by kernel_rfl) (fun N ρ w a n c=>by kernel_rfl)
theorem st23:FStep w0 23:=step_ins (k:=5) (src:=31) (j:=22) (by decide) (by decide) rfl rfl rfl (fun d=>by kernel_rfl) (fun N ρ w=>by kernel_rfl)
theorem st24:FStep w0 24:=step_fr0 (wd:=[114,111,111,116]) (d0:=32) (by decide) rfl (fun N ρ w=>by kernel_rfl)
theorem st25:FStep w0 25:=step_ins (k:=6) (src:=32) (j:=24) (by decide) (by decide) rfl rfl rfl (fun d=>by kernel_rfl) (fun N ρ w=>by kernel_rfl)
theorem st26:FStep w0 26:=step_fr0 (wd:=[116,101,110,97,110,116,115]) (d0:=33) (by decide) rfl (fun N ρ w=>by kernel_rfl)
theorem st27:FStep w0 27:=step_ins (k:=7) (src:=33) (j:=26) (by decide) (by decide) rfl rfl rfl (fun d=>by kernel_rfl) (fun N ρ w=>by kernel_rfl)
theorem st28:FStep w0 28:=step_call C_play_tenant (f := .tenant) (d0:=34) (by decide) rfl (fun N ρ w=>by kernel_rfl) tenant_fld
theorem st29:FStep w0 29:=step_call C_play_secret (f := .secret) (d0:=35) (by decide) rfl (fun N ρ w=>by kernel_rfl) secret_fld
theorem st30:FStep w0 30:=step_sl (js:=[28,29]) (d0:=36) (by decide) rfl (by decide) (fun d=>by kernel_rfl) (fun x0 y0 x1 y1 N ρ w=>by kernel_rfl)
theorem st31:FStep w0 31:=step_fr (wd:=[97,116,116,97,99,104]) (src:=36) (j:=30) (d0:=37) (by decide) (by decide) rfl rfl (fun d=>by kernel_rfl) (fun N ρ w a n c=>by kernel_rfl)
theorem st32:FStep w0 32:=step_ins (k:=8) (src:=37) (j:=31) (by decide) (by decide) rfl rfl rfl (fun d=>by kernel_rfl) (fun N ρ w=>by kernel_rfl)
theorem st33:FStep w0 33:=step_call C_play_handle (f := .handle) (d0:=38) (by decide) rfl (fun N ρ w=>by kernel_rfl) handle_fld
theorem st34:FStep w0 34:=step_load (t:=2) (f := .rights) (d0:=39) (by decide) rfl (fun h=>h.l2) (fun N ρ w b=>by kernel_rfl)
theorem st35:FStep w0 35:=step_sl (js:=[33,34]) (d0:=40) (by decide) rfl (by decide) (fun d=>by kernel_rfl) (fun x0 y0 x1 y1 N ρ w=>by kernel_rfl)
theorem st36:FStep w0 36:=step_fr (wd:=[103,105,118,101]) (src:=40) (j:=35) (d0:=41) (by decide) (by decide) rfl rfl (fun d=>by kernel_rfl) (fun N ρ w a n c=>by kernel_rfl)
theorem st37:FStep w0 37:=step_ins (k:=9) (src:=41) (j:=36) (by decide) (by decide) rfl rfl rfl (fun d=>by kernel_rfl) (fun N ρ w=>by kernel_rfl)
theorem st38:FStep w0 38:=step_call C_play_handle (f := .handle) (d0:=42) (by decide) rfl (fun N ρ w=>by kernel_rfl) handle_fld
theorem st39:FStep w0 39:=step_load (t:=3) (f := .other) (d0:=43) (by decide) rfl (fun h=>h.l3) (fun N ρ w b=>by kernel_rfl)
theorem st40:FStep w0 40:=step_sl (js:=[38,39]) (d0:=44) (by decide) rfl (by decide) (fun d=>by kernel_rfl) (fun x0 y0 x1 y1 N ρ w=>by kernel_rfl)
theorem st41:FStep w0 41:=step_fr (wd:=[114,101,118,111,107,101]) (src:=44) (j:=40) (d0:=45) (by decide) (by decide) rfl rfl (fun d=>by kernel_rfl) (fun N ρ w a n c=>by kernel_rfl)
theorem st42:FStep w0 42:=step_ins (k:=10) (src:=45) (j:=41) (by decide) (by decide) rfl rfl rfl (fun d=>by kernel_rfl) (fun N ρ w=>by kernel_rfl)
theorem st43:FStep w0 43:=step_call C_play_handle (f := .handle) (d0:=46) (by decide) rfl (fun N ρ w=>by kernel_rfl) handle_fld
theorem st44:FStep w0 44:=step_call C_play_ops (f := .ops) (d0:=47) (by decide) rfl (fun N ρ w=>by kernel_rfl) ops_fld
theorem st45:FStep w0 45:=step_sl (js:=[43,44]) (d0:=48) (by decide) rfl (by decide) (fun d=>by kernel_rfl) (fun x0 y0 x1 y1 N ρ w=>by kernel_rfl)
theorem st46:FStep w0 46:=step_fr (wd:=[98,97,116,99,104]) (src:=48) (j:=45) (d0:=49) (by decide) (by decide) rfl rfl (fun d=>by kernel_rfl) (fun N ρ w a n c=>by kernel_rfl)
theorem st47:FStep w0 47:=step_ins (k:=11) (src:=49) (j:=46) (by decide) (by decide) rfl rfl rfl (fun d=>by kernel_rfl) (fun N ρ w=>by kernel_rfl)
theorem st48:FStep w0 48:=step_call C_play_handle (f := .handle) (d0:=50) (by decide) rfl (fun N ρ w=>by kernel_rfl) handle_fld
theorem st49:FStep w0 49:=step_call C_play_snap (f := .snap) (d0:=51) (by decide) rfl (fun N ρ w=>by kernel_rfl) snap_fld
theorem st50:FStep w0 50:=step_load (t:=4) (f := .key) (d0:=52) (by decide) rfl (fun h=>h.l4) (fun N ρ w b=>by kernel_rfl)
theorem st51:FStep w0 51:=step_sl (js:=[48,49,50]) (d0:=53) (by decide) rfl (by decide) (fun d=>by kernel_rfl) (fun x0 y0 x1 y1 x2 y2 N ρ w=>by kernel_rfl)
theorem st52:FStep w0 52:=step_fr (wd:=[103,101,116]) (src:=53) (j:=51) (d0:=54) (by decide) (by decide) rfl rfl (fun d=>by kernel_rfl) (fun N ρ w a n c=>by kernel_rfl)
theorem st53:FStep w0 53:=step_ins (k:=12) (src:=54) (j:=52) (by decide) (by decide) rfl rfl rfl (fun d=>by kernel_rfl) (fun N ρ w=>by kernel_rfl)
theorem st54:FStep w0 54:=step_call C_play_handle (f := .handle) (d0:=55) (by decide) rfl (fun N ρ w=>by kernel_rfl) handle_fld
theorem st55:FStep w0 55:=step_call C_play_snap (f := .snap) (d0:=56) (by decide) rfl (fun N ρ w=>by kernel_rfl) snap_fld
theorem st56:FStep w0 56:=step_load (t:=5) (f := .frm) (d0:=57) (by decide) rfl (fun h=>h.l5) (fun N ρ w b=>by kernel_rfl)
theorem st57:FStep w0 57:=step_load (t:=6) (f := .upto) (d0:=58) (by decide) rfl (fun h=>h.l6) (fun N ρ w b=>by kernel_rfl)
theorem st58:FStep w0 58:=step_call C_play_count (f := .count) (d0:=59) (by decide) rfl (fun N ρ w=>by kernel_rfl) count_fld
theorem st59:FStep w0 59:=step_call C_play_way (f := .way) (d0:=60) (by decide) rfl (fun N ρ w=>by kernel_rfl) way_fld
theorem st60:FStep w0 60:=step_sl (js:=[54,55,56,57,58,59]) (d0:=61) (by decide) rfl (by decide) (fun d=>by kernel_rfl) (fun x0 y0 x1 y1 x2 y2 x3 y3 x4 y4 x5 y5 N ρ w=>by kernel_rfl)
theorem st61:FStep w0 61:=step_fr (wd:=[115,99,97,110]) (src:=61) (j:=60) (d0:=62) (by decide) (by decide) rfl rfl (fun d=>by kernel_rfl) (fun N ρ w a n c=>by kernel_rfl)
theorem st62:FStep w0 62:=step_ins (k:=13) (src:=62) (j:=61) (by decide) (by decide) rfl rfl rfl (fun d=>by kernel_rfl) (fun N ρ w=>by kernel_rfl)
theorem st63:FStep w0 63:=step_call C_play_handle (f := .handle) (d0:=63) (by decide) rfl (fun N ρ w=>by kernel_rfl) handle_fld
theorem st64:FStep w0 64:=step_sl (js:=[63]) (d0:=64) (by decide) rfl (by decide) (fun d=>by kernel_rfl) (fun x0 y0 N ρ w=>by kernel_rfl)
theorem st65:FStep w0 65:=step_fr (wd:=[115,110,97,112]) (src:=64) (j:=64) (d0:=65) (by decide) (by decide) rfl rfl (fun d=>by kernel_rfl) (fun N ρ w a n c=>by kernel_rfl)
theorem st66:FStep w0 66:=step_ins (k:=14) (src:=65) (j:=65) (by decide) (by decide) rfl rfl rfl (fun d=>by kernel_rfl) (fun N ρ w=>by kernel_rfl)
theorem st67:FStep w0 67:=step_call C_play_handle (f := .handle) (d0:=66) (by decide) rfl (fun N ρ w=>by kernel_rfl) handle_fld
theorem st68:FStep w0 68:=step_call C_play_snap (f := .snap) (d0:=67) (by decide) rfl (fun N ρ w=>by kernel_rfl) snap_fld
theorem st69:FStep w0 69:=step_sl (js:=[67,68]) (d0:=68) (by decide) rfl (by decide) (fun d=>by kernel_rfl) (fun x0 y0 x1 y1 N ρ w=>by kernel_rfl)
theorem st70:FStep w0 70:=step_fr (wd:=[114,101,108,101,97,115,101]) (src:=68) (j:=69) (d0:=69) (by decide) (by decide) rfl rfl (fun d=>by kernel_rfl) (fun N ρ w a n c=>by kernel_rfl)
theorem st71:FStep w0 71:=step_ins (k:=15) (src:=69) (j:=70) (by decide) (by decide) rfl rfl rfl (fun d=>by kernel_rfl) (fun N ρ w=>by kernel_rfl)
theorem st72:FStep w0 72:=step_call C_play_handle (f := .handle) (d0:=70) (by decide) rfl (fun N ρ w=>by kernel_rfl) handle_fld
theorem st73:FStep w0 73:=step_sl (js:=[72]) (d0:=71) (by decide) rfl (by decide) (fun d=>by kernel_rfl) (fun x0 y0 N ρ w=>by kernel_rfl)
theorem st74:FStep w0 74:=step_fr (wd:=[117,115,97,103,101]) (src:=71) (j:=73) (d0:=72) (by decide) (by decide) rfl rfl (fun d=>by kernel_rfl) (fun N ρ w a n c=>by kernel_rfl)
theorem st75:FStep w0 75:=step_ins (k:=16) (src:=72) (j:=74) (by decide) (by decide) rfl rfl rfl (fun d=>by kernel_rfl) (fun N ρ w=>by kernel_rfl)
theorem st76:FStep w0 76:=step_mv (l:=[0,1,2,3,4,5,6,7,8,9,10,11,12,13,14,15,16,17,18,19,20,21,22,23,24,25,26,27,28,29,30,31,32,33,34,35,36,37,38,39,40,41,42,43,44,45,46,47,48,49,50,51,52,53,54,55,56,57,58,59,60,61,62,63,64,65,66,67,68,69,70,71,72,73,74,75]) (by decide) (fun d=>by kernel_rfl) (fun N ρ w=>by kernel_rfl)
theorem st77:FStep w0 77:=step_asg (l:=[76,72,0,1,2,3,4,5,6,7,8,9,10,11,12,13,14,15,16,17,18,19,20,21,22,23,24,25,26,27,28,29,30,31,32,33,34,35,36,37,38,39,40,41,42,43,44,45,46,47,48,49,50,51,52,53,54,55,56,57,58,59,60,61,62,63,64,65,66,67,68,69,70,71,72,73,74,75,76]) (by decide) (fun d=>by kernel_rfl) (fun N ρ w=>by kernel_rfl)
theorem st_all:∀ i,i < 78->FStep w0 i
 | 0,_=>st0
 | 1,_=>st1
 | 2,_=>st2
 | 3,_=>st3
 | 4,_=>st4
 | 5,_=>st5
 | 6,_=>st6
 | 7,_=>st7
 | 8,_=>st8
 | 9,_=>st9
 | 10,_=>st10
 | 11,_=>st11
 | 12,_=>st12
 | 13,_=>st13
 | 14,_=>st14
 | 15,_=>st15
 | 16,_=>st16
 | 17,_=>st17
 | 18,_=>st18
 | 19,_=>st19
 | 20,_=>st20
 | 21,_=>st21
 | 22,_=>st22
 | 23,_=>st23
 | 24,_=>st24
 | 25,_=>st25
 | 26,_=>st26
 | 27,_=>st27
 | 28,_=>st28
 | 29,_=>st29
 | 30,_=>st30
 | 31,_=>st31
 | 32,_=>st32
 | 33,_=>st33
 | 34,_=>st34
 | 35,_=>st35
 | 36,_=>st36
 | 37,_=>st37
 | 38,_=>st38
 | 39,_=>st39
 | 40,_=>st40
 | 41,_=>st41
 | 42,_=>st42
 | 43,_=>st43
 | 44,_=>st44
 | 45,_=>st45
 | 46,_=>st46
 | 47,_=>st47
 | 48,_=>st48
 | 49,_=>st49
 | 50,_=>st50
 | 51,_=>st51
 | 52,_=>st52
 | 53,_=>st53
 | 54,_=>st54
 | 55,_=>st55
 | 56,_=>st56
 | 57,_=>st57
 | 58,_=>st58
 | 59,_=>st59
 | 60,_=>st60
 | 61,_=>st61
 | 62,_=>st62
 | 63,_=>st63
 | 64,_=>st64
 | 65,_=>st65
 | 66,_=>st66
 | 67,_=>st67
 | 68,_=>st68
 | 69,_=>st69
 | 70,_=>st70
 | 71,_=>st71
 | 72,_=>st72
 | 73,_=>st73
 | 74,_=>st74
 | 75,_=>st75
 | 76,_=>st76
 | 77,_=>st77
 | n+78,h=>by omega
end
end Go.Proofs.YtimonamjecmlcaaGreatDoor
namespace Go.V
def FormsR(base:Nat)(h:Array Obj)(r:Nat):Prop:=∃ m,MapOK base h r m/\∀ k g,formP k=some g->(getA (k:Int) m).isSome
theorem formP_ins:∀ k:Nat,(formP k).isSome->∃ i,i < 78/\(getT i).2 = .ins k:=by
 intro k hk
 match k,hk with
 | 1,_=>exact ⟨6,by decide,rfl⟩
 | 2,_=>exact ⟨10,by decide,rfl⟩
 | 3,_=>exact ⟨14,by decide,rfl⟩
 | 4,_=>exact ⟨19,by decide,rfl⟩
 | 5,_=>exact ⟨23,by decide,rfl⟩
 | 6,_=>exact ⟨25,by decide,rfl⟩
 | 7,_=>exact ⟨27,by decide,rfl⟩
 | 8,_=>exact ⟨32,by decide,rfl⟩
 | 9,_=>exact ⟨37,by decide,rfl⟩
 | 10,_=>exact ⟨42,by decide,rfl⟩
 | 11,_=>exact ⟨47,by decide,rfl⟩
 | 12,_=>exact ⟨53,by decide,rfl⟩
 | 13,_=>exact ⟨62,by decide,rfl⟩
 | 14,_=>exact ⟨66,by decide,rfl⟩
 | 15,_=>exact ⟨71,by decide,rfl⟩
 | 16,_=>exact ⟨75,by decide,rfl⟩
 | 0,h=>exact absurd h (by decide)
 | n+17,h=>exact absurd h (by simp [formP])
theorem FactV.ext{base:Nat}{S:Nat->Prop}{w w':Wd}{v:Value}{k:Kd}(h:FactV base w.heap v k)(x:Ext S w w')(hS:∀ q,base<=q->¬ S q):FactV base w'.heap v k:=by
 cases k with
 | fld f=>obtain ⟨a,b,e,h⟩:=h; exact ⟨a,b,e,h.ext x hS⟩
 | sl fs=>obtain ⟨s,e,h⟩:=h; exact ⟨s,e,h.ext x hS⟩
 | fr wd fs=>obtain ⟨s,e,h⟩:=h; exact ⟨s,e,h.ext x hS⟩
 | _=>trivial
end Go.V
namespace Go.Proofs.YtimonamjecmlcaaGreatDoor
open Go.V
section
variable {w:Wd}
theorem forms_spec{K:Option Nat->Wd->Prop}(k:∀ r w',FormsR w.heap.size w'.heap r->Ext No w w'->K (some r) w'):C_play_forms w K:=by
 apply S_play_forms
 have one2:∀{x y:Value},oneC x=true->oneC y=true->∀ v∈[x,y],oneC v=true:=fun hx hy v hv=>by simp at hv; rcases hv with rfl | rfl; exact hx; exact hy
 refine ⟨rfl,rfl,NewW.mk fun b1 w1 n1=>⟨rfl,StN.all n1.get rfl (one2 rfl rfl) fun w2 g2 x2 _=>⟨rfl,rfl,NewW.mk fun b2 w3 n3=>⟨rfl,StN.all n3.get rfl (one2 rfl rfl) fun w4 g4 x4 _=>⟨rfl,rfl,NewW.mk fun b3 w5 n5=>⟨rfl,StN.all n5.get rfl (one2 rfl rfl) fun w6 g6 x6 _=>?_⟩⟩⟩⟩⟩⟩
 have ix:∀{a b c:Wd}{o:Obj}{q:Nat},New a o q b->Ext (·=q) b c->Ext No a c:=fun n x=>n.ext.trans x fun i hi h=>by have:=n.at_; omega
 have x02:Ext No w w2:=ix n1 x2
 have x24:Ext No w2 w4:=ix n3 x4
 have x46:Ext No w4 w6:=ix n5 x6
 refine bytes_fld (f := .key) rfl fun p4 q4 w7 f7 x7=>NewW.mk fun b4 w8 n8=>⟨rfl,StN.all n8.get rfl (one2 f7.one.1 f7.one.2) fun w9 g9 x9 _=>?_⟩
 have x79:Ext No w7 w9:=ix n8 x9
 refine bytes_fld (f := .frm) rfl fun p5 q5 w10 f10 x10=>NewW.mk fun b5 w11 n11=>⟨rfl,StN.all n11.get rfl (one2 f10.one.1 f10.one.2) fun w12 g12 x12 _=>?_⟩
 have x1012:Ext No w10 w12:=ix n11 x12
 refine bytes_fld (f := .upto) rfl fun p6 q6 w13 f13 x13=>NewW.mk fun b6 w14 n14=>⟨rfl,StN.all n14.get rfl (one2 f13.one.1 f13.one.2) fun w15 g15 x15 _=>?_⟩
 have x1315:Ext No w13 w15:=ix n14 x15
 have x06:=(x02.no x24).no x46
 have x09:=(x06.no x7).no x79
 have x012:=(x09.no x10).no x1012
 have xd:Ext No w (drewW w15):=((x012.no x13).no x1315).drew
 have e915:=((x10.no x1012).no x13).no x1315
 have e1215:=x13.no x1315
 have e6:=(x7.no x79).no e915
 have hs:∀{a:Wd},Ext No w a->w.heap.size<=a.heap.size:=fun x=>x.size
 have fd:∀{a:Wd}{x y:Value}{f:FId},FldV (a.heap.size<=·) w15.heap x y f->Ext No w a->FldV (w.heap.size<=·) (drewW w15).heap x y f:=fun h x=>h.mono fun q hq=>Nat.le_trans x.size hq
 refine ⟨FInv w,⟨xd,⟨b1,_,_,rfl,get_no g2 ((x24.no x46).no e6).drew,rfl,rfl⟩,⟨b2,_,_,rfl,get_no g4 (x46.no e6).drew,rfl,rfl⟩,⟨b3,_,_,rfl,get_no g6 e6.drew,rfl,rfl⟩,⟨b4,p4,q4,rfl,get_no g9 e915.drew,fd (f7.ext (x79.no e915) fun _ _=>id) x06⟩,⟨b5,p5,q5,rfl,get_no g12 e1215.drew,fd (f10.ext (x1012.no e1215) fun _ _=>id) x09⟩,⟨b6,p6,q6,rfl,g15,fd (f13.ext x1315 fun _ _=>id) x012⟩,fun i _ h=>(by cases h),fun h=>(by cases h),fun i _ h=>(by cases h),fun h=>(by cases h),fun h=>(by cases h)⟩,?_,fun d ρ w' h i hd ha=>?_⟩
 .intro d ρ w' h hall
  have hsz:ops7.size=78:=by kernel_rfl
  rw [hsz] at hall
  obtain ⟨r,m,e,h1,h2⟩:=h.m (hall 0 (by decide))
  rw [(h.c' (hall 77 (by decide))).2,(h.c (hall 76 (by decide))).2,e]
  refine k r w' ⟨m,h1,fun k' g hk=>?_⟩ h.x
  obtain ⟨i,hi,ht⟩:=formP_ins k' (by rw [hk]; rfl)
  exact h2 i hi (hall i hi) k' ht
 .have hi:i < 78:=by
   have hsz:ops7.size=78:=by kernel_rfl
   rcases Nat.lt_or_ge i 78 with h3 | h3
   .exact h3
   .exfalso
    unfold afterB at ha
    rw [Array.getElem?_eq_none (by rw [hsz]; exact h3)] at ha
    cases ha
  exact st_all i hi d ρ w' h hd ha
theorem run_lookup2{P:Program}{mt kt et:TypeId}{α:Type}[DecidableEq α]{enc:α->Value}{r:Nat}{m:List (α×Value)}{a:α}(K:KeyOK P kt enc)(ht:P.underlying mt=some (.map kt et)){z:Value}(hz:(zeroValue et).run P w = .ok z w)(h:MapR w.heap enc r m):(Instr.lookup mt (.map (some r)) (enc a) true).run P w = .ok (.tuple #[(getA a m).getD z, .bool (getA a m).isSome]) w:=by
 obtain ⟨es,clock,hb,he,hB⟩:=h
 have hf:=K.fk a es.toList m w he
 have hg:=findA_get a m 0
 simp only [Instr.lookup,Sem.run_bind,run_und ht,Result.andThen_ok,run_getMap hb,K.ck,hf,Sem.run_pure]
 cases hfa:findA a m 0 with
 | none=>rw [hfa] at hg; simp [<- hg,hz]
 | some p=>rw [hfa] at hg; simp [<- hg]
theorem getA_mem{k:Int}{v:Value}:∀{m:List (Int×Value)},getA k m=some v->(k,v)∈m
 | [],h=>by cases h
 | p::m,h=>by
  unfold getA at h
  split at h
  .rename_i e; cases h; rw [e]; exact List.mem_cons_self
  .exact List.mem_cons_of_mem _ (getA_mem h)
theorem zero59:(zeroValue 59).run pz w = .ok (.agg ([.string ⟨#[]⟩, .slice none 0 0]).toArray) w:=run_zero (i:=Tryz.t59) (by kernel_rfl) (by kernel_rfl)
theorem forms_no{base r:Nat}{z:Int}(h:FormsR base w.heap r)(hk:∀ k:Nat,z=(k:Int)->formP k=none) :
  (Instr.lookup 60 (.map (some r)) (.int .i64 z) true).run pz w = .ok (.tuple #[.agg ([.string (stB []), .slice none 0 0]).toArray, .bool false]) w:=by
 obtain ⟨m,⟨hb,hm,hp⟩,hs⟩:=h
 have h1:=run_lookup2 (w:=w) (a:=z) key60 und60 zero59 hm
 have:getA z m=none:=by
  cases hv:getA z m with
  | none=>rfl
  | some v =>
   obtain ⟨k',e,g',hg,_⟩:=hp _ (getA_mem hv)
   rw [hk k' e] at hg; cases hg
 rw [this] at h1
 exact h1
theorem FormsR.ext{base r:Nat}{S:Nat->Prop}{w':Wd}(h:FormsR base w.heap r)(x:Ext S w w')(hS:∀ q,base<=q->¬ S q):FormsR base w'.heap r:=by
 obtain ⟨m,⟨hb,hm,hp⟩,hs⟩:=h
 refine ⟨m,⟨hb,hm.ext x (hS r hb),fun p hp'=>?_⟩,hs⟩
 obtain ⟨k,e,g,hg,hf⟩:=hp p hp'
 exact ⟨k,e,g,hg,hf.ext x hS⟩
end
section
variable {w:Wd} {Q Q':Nat->Prop}
theorem eqBytes{x y:Sl}{a b:Bs}{rd:Bool}{K:Bool->Wd->Prop}{X:PX}(ra:RdB w.heap x a)(rb:RdB w.heap y b)(k:∀ r,(r=true ↔ a=b)->K r w):dynV pz rd (fnV 81) [.slice x.a x.len x.cap, .slice y.a y.len y.cap] [.one .bool] K X w:=by
 refine V_play_same_1 ?_
 apply S_play_same_1
 refine strB ra (fun _ _ _ h=>Cell.mk h) (strB rb (fun _ _ _ h=>Cell.mk h) (k _ ?_))
 rw [stB_toList,stB_toList]
 exact beq_iff_eq
theorem eqOp{x y:OpV}{a b:OpP}{c:Nat}{rd:Bool}{K:Bool->Wd->Prop}{X:PX}(ra:OpR Q w.heap x a)(rb:OpR Q' w.heap y b)(hc:w.heap[c]? = some (.cells [fnV 81].toArray 115 (0,0)))(k:∀ r w',(r=true ↔ a=b)->Ext No w w'->K r w') :
  dynV pz rd (.func (.func 83) #[] #[.pointer (some ⟨c,0,none⟩)]) [.agg x.cells.toArray, .agg y.cells.toArray] [.one .bool] K X w:=by
 refine V_play_same_2 ?_
 apply S_play_same_2
 refine NewW.mk fun b1 w1 n1=>NewW.mk fun b2 w2 n2=>?_
 have x02:=n1.ext.no n2.ext
 have g1:=get_no n1.get n2.ext
 have ra2:=ra.ext x02 fun _ _=>id
 have rb2:=rb.ext x02 fun _ _=>id
 have hc2:=get_no hc x02
 have iff3:a=b ↔ a.key=b.key/\a.val=b.val/\a.drop=b.drop:=by
  cases a; cases b; simp
 refine ⟨_,Cell.lst hc2 rfl,x.key,Cell.lst g1 rfl,y.key,Cell.lst n2.get rfl,eqBytes ra2.key.rd rb2.key.rd fun r1 h1=>If.cases (fun e1=>?_) fun e1=>k _ _ ?_ x02⟩
 .refine ⟨_,Cell.lst hc2 rfl,x.val,Cell.lst g1 rfl,y.val,Cell.lst n2.get rfl,eqBytes ra2.val.rd rb2.val.rd fun r2 h2=>If.cases (fun e2=>?_) fun e2=>k _ _ ?_ x02⟩
  .refine ⟨x.drop,Cell.lst g1 rfl,y.drop,Cell.lst n2.get rfl,k _ _ ?_ x02⟩
   rw [iff3,beq_iff_eq,ra.drop,rb.drop]
   exact ⟨fun h=>⟨h1.1 e1,h2.1 e2,h⟩,fun h=>h.2.2⟩
  .rw [iff3]
   exact ⟨(fun h=>by cases h),fun h=>by have:=h2.2 h.2.1; rw [e2] at this; cases this⟩
 .rw [iff3]
  exact ⟨(fun h=>by cases h),fun h=>by have:=h1.2 h.1; rw [e1] at this; cases this⟩
theorem eqOps{x y:Sl}{a b:List OpP}{c:Nat}{K:Bool->Wd->Prop}(ra:OpsR Q w.heap x a)(rb:OpsR Q' w.heap y b)(hc:w.heap[c]? = some (.cells [fnV 81].toArray 115 (0,0)))(hl:a.length<=1000000000000000000)(k:∀ r w',(r=true ↔ a=b)->Ext No w w'->K r w') :
  C_slices_EqualFunc_api_Op_api_Op_api_Op_api_Op x y (.func (.func 83) #[] #[.pointer (some ⟨c,0,none⟩)]) w K:=by
 apply S_slices_EqualFunc_api_Op_api_Op_api_Op_api_Op
 have la:=OpsR.len ra; have lb:=OpsR.len rb
 obtain ⟨L,hL,r1,q1,h1⟩:=ra
 obtain ⟨M,hM,r2,q2,h2⟩:=rb
 have hLl:L.length=a.length:=by rw [<- hL,List.length_map]
 have hMl:M.length=b.length:=by rw [<- hM,List.length_map]
 refine If.bne (fun hne=>k _ _ ⟨(fun h=>by cases h),fun h=>by rw [h] at la; omega⟩ (Ext.refl _ _)) fun heq=>?_
 have hab:a.length=b.length:=by omega
 refine ⟨fun m t w'=>∃ j:Nat,t=j/\j<=a.length/\m=a.length - j/\a.take j=b.take j/\Ext No w w',⟨_,0,rfl,Nat.zero_le _,rfl,by simp,Ext.refl _ _⟩,?_⟩
 rintro _ m0 _ w1 ⟨j,rfl,hj,rfl,he,x1⟩
 refine If.dec (fun h=>?_) fun h=>?_
 .refine Ix.elem (f:=fun e:OpV×OpP=>e.1.cells) (r1.no x1) (opC_len L) (by decide) (by omega) h fun b1 o1 i1 hb1 c1=>?_
  have hjL:j < L.length:=i1
  have hjM:j < M.length:=by omega
  have el:L[((j:Nat):Int).toNat]'i1=L[j]:=rfl
  rw [el] at c1
  have opL:=(h1 L[j] (List.getElem_mem hjL)).ext x1 fun _ _=>id
  have opM:=(h2 M[j] (List.getElem_mem hjM)).ext x1 fun _ _=>id
  have ea:a[j]'(by omega)=L[j].2:=by simp [<- hL]
  have eb:b[j]'(by omega)=M[j].2:=by simp [<- hM]
  have ta:=take_snoc (l:=a) (j:=j) (by omega)
  have tb:=take_snoc (l:=b) (j:=j) (by omega)
  rw [ea] at ta; rw [eb] at tb
  refine ⟨L[j].1.key,c1 0 _ rfl,L[j].1.val,c1 1 _ rfl,L[j].1.drop,c1 2 _ rfl,NewW.mk fun b3 w2 n2=>⟨rfl,StN.all n2.get rfl (by intro v hv; simp at hv; rcases hv with rfl | rfl | rfl <;> rfl) fun w3 g3 x3 _=>?_⟩⟩
  have x3':Ext (·=b3) w2 w3:=x3
  have x13:Ext No w1 w3:=n2.ext.trans x3' fun q hq h=>by have:=n2.at_; omega
  refine Ix.elem (f:=fun e:OpV×OpP=>e.1.cells) (r2.no (x1.no x13)) (opC_len M) (by decide) (by omega) (by omega) fun b4 o4 i4 hb4 c4=>?_
  have em:M[((j:Nat):Int).toNat]'i4=M[j]:=rfl
  rw [em] at c4
  refine ⟨M[j].1.key,c4 0 _ rfl,M[j].1.val,c4 1 _ rfl,M[j].1.drop,c4 2 _ rfl,NewW.mk fun b5 w4 n4=>⟨rfl,StN.all n4.get rfl (by intro v hv; simp at hv; rcases hv with rfl | rfl | rfl <;> rfl) fun w5 g5 x5 _=>?_⟩⟩
  have x5':Ext (·=b5) w4 w5:=x5
  have x35:Ext No w3 w5:=n4.ext.trans x5' fun q hq h=>by have:=n4.at_; omega
  have g35:=get_no g3 x35
  have x15:=x13.no x35
  refine ⟨L[j].1.key,Cell.lst g35 rfl,L[j].1.val,Cell.lst g35 rfl,L[j].1.drop,Cell.lst g35 rfl,M[j].1.key,Cell.lst g5 rfl,M[j].1.val,Cell.lst g5 rfl,M[j].1.drop,Cell.lst g5 rfl,?_⟩
  refine eqOp (x:=L[j].1) (y:=M[j].1) (opL.ext x15 fun _ _=>id) (opM.ext x15 fun _ _=>id) (get_no hc (x1.no x15)) fun r w6 hr x6=>If.not (If.cases (fun e=>?_) fun e=>?_)
  .exact Ar.i64 (by omega) ⟨_,by omega,j+1,by omega,by omega,rfl,by rw [ta,tb,he,hr.1 e],(x1.no x15).no x6⟩
  .refine k _ _ ⟨(fun h=>by cases h),fun h=>?_⟩ ((x1.no x15).no x6)
   have:L[j].2=M[j].2:=by rw [<- ea,<- eb]; simp [h]
   rw [hr.2 this] at e; cases e
 .have hjn:j=a.length:=by omega
  refine k _ _ ⟨fun _=>?_,fun _=>rfl⟩ x1
  rw [hjn,List.take_length] at he
  rw [he,hab,List.take_length]
end
end Go.Proofs.YtimonamjecmlcaaGreatDoor
namespace Go.V
theorem callP_ext{a b:CallP}(h1:a.kind=b.kind)(h2:a.tenant=b.tenant)(h3:a.quota=b.quota)(h4:a.n=b.n)(h5:a.handle=b.handle)(h6:a.other=b.other)(h7:a.snap=b.snap)(h8:a.rights=b.rights)(h9:a.back=b.back)
  (h10:a.secret=b.secret) (h11:a.key=b.key) (h12:a.frm=b.frm) (h13:a.upto=b.upto) (h14:a.ops=b.ops):a=b:=by
 cases a; cases b; simp only at *; subst_vars; rfl
def badOp(o:OpP):Bool:=decide (64 < o.key.length) || decide (1100 < o.val.length) || (o.drop && decide (0 < o.val.length))
end Go.V
namespace Go.Proofs.YtimonamjecmlcaaGreatDoor
open Go.V
section
variable {w:Wd} {Q Q':Nat->Prop}
set_option maxHeartbeats 1000000 in
theorem same_spec{va vb:CallV}{a b:CallP}{K:Bool->Wd->Prop}(ra:CallR Q w.heap va a)(rb:CallR Q' w.heap vb b)(hl:a.ops.length<=1000000000000000000)(k:∀ r w',(r=true ↔ a=b)->Ext No w w'->K r w') :
  C_play_same va.kind va.tenant va.secret va.quota va.n va.handle va.other va.snap va.rights va.ops va.key va.frm va.upto va.back vb.kind vb.tenant vb.secret vb.quota vb.n vb.handle vb.other vb.snap vb.rights vb.ops vb.key vb.frm vb.upto vb.back w K:=by
 apply S_play_same
 refine NewW.mk fun p w1 n1=>NewW.mk fun q w2 n2=>NewW.mk fun c w3 n3=>St1.mk (cs:=[.nilFunc]) n3.get (by simp) rfl fun w4 h4=>?_
 have g4:w4.heap[c]? = some (.cells [fnV 81].toArray 115 (0,0)):=h4.get n3.get
 have x34:Ext (·=c) w3 w4:=h4.ext
 have hc:=n3.at_
 have x24:Ext No w2 w4:=n3.ext.trans x34 fun i hi h=>by omega
 have gp:=get_no n1.get (n2.ext.no x24)
 have gq:=get_no n2.get x24
 have x04:Ext No w w4:=(n1.ext.no n2.ext).no x24
 have ra4:=ra.no x04; have rb4:=rb.no x04
 have no:∀{w'},Ext No w w'->a≠b->K false w':=fun x h=>k _ _ ⟨(fun h=>by cases h),fun e=>(h e).elim⟩ x
 refine ⟨va.kind,Cell.lst gp rfl,vb.kind,Cell.lst gq rfl,If.beq (fun e1=>?_) fun n=>no x04 fun h=>n (by rw [ra.kind,rb.kind,h])⟩
 rw [ra.kind,rb.kind] at e1
 refine ⟨va.tenant,Cell.lst gp rfl,vb.tenant,Cell.lst gq rfl,If.beq (fun e2=>?_) fun n=>no x04 fun h=>n (by rw [ra.tenant,rb.tenant,h])⟩
 rw [ra.tenant,rb.tenant] at e2
 refine ⟨va.quota,Cell.lst gp rfl,vb.quota,Cell.lst gq rfl,If.beq (fun e3=>?_) fun n=>no x04 fun h=>n (by rw [ra.quota,rb.quota,h])⟩
 rw [ra.quota,rb.quota] at e3
 refine ⟨va.n,Cell.lst gp rfl,vb.n,Cell.lst gq rfl,If.beq (fun e4=>?_) fun n=>no x04 fun h=>n (by rw [ra.n,rb.n,h])⟩
 rw [ra.n,rb.n] at e4
 refine ⟨va.handle,Cell.lst gp rfl,vb.handle,Cell.lst gq rfl,If.beq (fun e5=>?_) fun n=>no x04 fun h=>n (by rw [ra.handle,rb.handle,h])⟩
 rw [ra.handle,rb.handle] at e5
 refine ⟨va.other,Cell.lst gp rfl,vb.other,Cell.lst gq rfl,If.beq (fun e6=>?_) fun n=>no x04 fun h=>n (by rw [ra.other,rb.other,h])⟩
 rw [ra.other,rb.other] at e6
 refine ⟨va.snap,Cell.lst gp rfl,vb.snap,Cell.lst gq rfl,If.beq (fun e7=>?_) fun n=>no x04 fun h=>n (by rw [ra.snap,rb.snap,h])⟩
 rw [ra.snap,rb.snap] at e7
 refine ⟨va.rights,Cell.lst gp rfl,vb.rights,Cell.lst gq rfl,If.beq (fun e8=>?_) fun n=>no x04 fun h=>n (by rw [ra.rights,rb.rights,h])⟩
 rw [ra.rights,rb.rights] at e8
 refine ⟨va.back,Cell.lst gp rfl,vb.back,Cell.lst gq rfl,If.cases (fun e=>?_) fun e=>no x04 fun h=>?_⟩
 case refine_2=>rw [ra.back,rb.back,h] at e; simp at e
 have e9:=eq_of_beq e
 rw [ra.back,rb.back] at e9
 refine ⟨_,Cell.lst g4 rfl,va.secret,Cell.lst gp rfl,vb.secret,Cell.lst gq rfl,eqBytes ra4.secret.rd rb4.secret.rd fun r10 h10=>If.cases (fun t10=>?_) fun t10=>no x04 fun h=>?_⟩
 case refine_2=>have:=h10.2 (by rw [h]); rw [t10] at this; cases this
 refine ⟨_,Cell.lst g4 rfl,va.key,Cell.lst gp rfl,vb.key,Cell.lst gq rfl,eqBytes ra4.key.rd rb4.key.rd fun r11 h11=>If.cases (fun t11=>?_) fun t11=>no x04 fun h=>?_⟩
 case refine_2=>have:=h11.2 (by rw [h]); rw [t11] at this; cases this
 refine ⟨_,Cell.lst g4 rfl,va.frm,Cell.lst gp rfl,vb.frm,Cell.lst gq rfl,eqBytes ra4.frm.rd rb4.frm.rd fun r12 h12=>If.cases (fun t12=>?_) fun t12=>no x04 fun h=>?_⟩
 case refine_2=>have:=h12.2 (by rw [h]); rw [t12] at this; cases this
 refine ⟨_,Cell.lst g4 rfl,va.upto,Cell.lst gp rfl,vb.upto,Cell.lst gq rfl,eqBytes ra4.upto.rd rb4.upto.rd fun r13 h13=>If.cases (fun t13=>?_) fun t13=>no x04 fun h=>?_⟩
 case refine_2=>have:=h13.2 (by rw [h]); rw [t13] at this; cases this
 refine ⟨va.ops,Cell.lst gp rfl,vb.ops,Cell.lst gq rfl,eqOps ra4.ops rb4.ops g4 hl fun r w5 h14 x5=>k r w5 ⟨fun t=>?_,fun h=>h14.2 (by rw [h])⟩ (x04.no x5)⟩
 exact callP_ext e1 e2 e3 e4 e5 e6 e7 e8 e9 (h10.1 t10) (h11.1 t11) (h12.1 t12) (h13.1 t13) (h14.1 t)
theorem badOp_spec{v:OpV}{o:OpP}{rd:Bool}{K:Bool->Wd->Prop}{X:PX}(r:OpR Q w.heap v o)(k:∀ w',Ext No w w'->K (badOp o) w'):dynV pz rd (fnV 85) [.agg v.cells.toArray] [.one .bool] K X w:=by
 refine V_play_mayCall_1 ?_
 apply S_play_mayCall_1
 refine NewW.mk fun b w1 n1=>?_
 have k1:=k w1 n1.ext
 have lk:=RdB.len r.key.rd; have lv:=RdB.len r.val.rd
 unfold badOp at k1
 refine ⟨v.key,Cell.lst n1.get rfl,If.dec (fun h=>?_) fun h=>⟨v.val,Cell.lst n1.get rfl,If.dec (fun h2=>?_) fun h2=>⟨v.drop,Cell.lst n1.get rfl,If.cases (fun h3=>⟨v.val,Cell.lst n1.get rfl,?_⟩) fun h3=>?_⟩⟩⟩
 .rw [decide_eq_true (by omega),Bool.true_or,Bool.true_or] at k1; exact k1
 .rw [decide_eq_false (by omega),decide_eq_true (by omega)] at k1; exact k1
 .rw [decide_eq_false (by omega),decide_eq_false (by omega),<- r.drop,h3] at k1
  have e:decide (((v.val.len:Nat):Int) > 0)=decide (0 < o.val.length):=decide_eq_decide.2 (by omega)
  rw [e]; exact k1
 .rw [decide_eq_false (by omega),decide_eq_false (by omega),<- r.drop,h3] at k1; exact k1
theorem anyOps{x:Sl}{l:List OpP}{K:Bool->Wd->Prop}(r:OpsR Q w.heap x l)(hl:l.length<=1000000000000000000)(k:∀ w',Ext No w w'->K (l.any badOp) w'):C_slices_ContainsFunc_api_Op_api_Op x (fnV 85) w K:=by
 apply S_slices_ContainsFunc_api_Op_api_Op
 apply S_slices_IndexFunc_api_Op_api_Op
 have la:=OpsR.len r
 obtain ⟨L,hL,r1,q1,h1⟩:=r
 have hLl:L.length=l.length:=by rw [<- hL,List.length_map]
 refine ⟨fun m t w'=>∃ j:Nat,t=j/\j<=l.length/\m=l.length - j/\(l.take j).any badOp=false/\Ext No w w',⟨_,0,rfl,Nat.zero_le _,rfl,by simp,Ext.refl _ _⟩,?_⟩
 rintro _ m0 _ w1 ⟨j,rfl,hj,rfl,he,x1⟩
 refine If.dec (fun h=>?_) fun h=>?_
 .refine Ix.elem (f:=fun e:OpV×OpP=>e.1.cells) (r1.no x1) (opC_len L) (by decide) (by omega) h fun b1 o1 i1 hb1 c1=>?_
  have hjL:j < L.length:=i1
  have el:L[((j:Nat):Int).toNat]'i1=L[j]:=rfl
  rw [el] at c1
  have ea:l[j]'(by omega)=L[j].2:=by simp [<- hL]
  have ta:=take_snoc (l:=l) (j:=j) (by omega)
  rw [ea] at ta
  refine ⟨L[j].1.key,c1 0 _ rfl,L[j].1.val,c1 1 _ rfl,L[j].1.drop,c1 2 _ rfl,badOp_spec (v:=L[j].1) ((h1 L[j] (List.getElem_mem hjL)).ext x1 fun _ _=>id) fun w2 x2=>If.cases (fun hb=>?_) fun hb=>Ar.i64 (by omega) ⟨_,by omega,j+1,by omega,by omega,rfl,by rw [ta,List.any_append,he]; simp [hb],x1.no x2⟩⟩
  have e:l.any badOp=true:=List.any_eq_true.2 ⟨L[j].2,by rw [<- ea]; exact List.getElem_mem _,hb⟩
  have:=k w2 (x1.no x2)
  rw [e] at this
  show K (decide ((j:Int)≥0)) w2
  rw [decide_eq_true (by omega)]; exact this
 .have hjn:j=l.length:=by omega
  rw [hjn,List.take_length] at he
  have:=k w1 x1
  rw [he] at this
  show K (decide ((-1:Int)≥0)) w1
  rw [decide_eq_false (by omega)]; exact this
theorem within_spec{n m:Int}{K:Bool->Wd->Prop}(k:K (decide (0<=n/\n<=m)) w):C_play_within n m w K:=by
 apply S_play_within
 refine If.dec (fun h=>?_) fun h=>?_
 .have e:decide (n<=m)=decide (0<=n/\n<=m):=decide_eq_decide.2 ⟨fun h2=>⟨h,h2⟩,fun h2=>h2.2⟩
  rw [e]; exact k
 .rw [decide_eq_false (fun h2=>h h2.1)] at k; exact k
end
end Go.Proofs.YtimonamjecmlcaaGreatDoor
namespace Go.V
def isOps:FId->Bool
 | .ops=>true
 | _=>false
def okFs:List FId->Bool
 | []=>true
 | [_]=>true
 | f::g::fs=>!isOps f && okFs (g::fs)
def pickF(c:CallP)(d:CallP):FId->CallP
 | .tenant=>{ d with tenant:=c.tenant }
 | .handle=>{ d with handle:=c.handle }
 | .snap=>{ d with snap:=c.snap }
 | .count=>{ d with n:=c.n }
 | .quota=>{ d with quota:=c.quota }
 | .rights=>{ d with rights:=c.rights }
 | .other=>{ d with other:=c.other }
 | .ops=>{ d with ops:=d.ops++c.ops }
 | .way=>if c.back then { d with back:=true } else d
 | .secret=>{ d with secret:=c.secret }
 | .key=>{ d with key:=c.key }
 | .frm=>{ d with frm:=c.frm }
 | .upto=>{ d with upto:=c.upto }
def bareF(fs:List FId)(c:CallP):CallP:=fs.foldl (pickF c) (callP0 c.kind)
def telFs(fs:List FId)(c:CallP):List Bs:=fs.flatMap fun f=>telF f c
def rdFs:List FId->List Bs->CallP->Option (CallP×List Bs)
 | [],W,c=>some (c,W)
 | f::fs,W,c=>match rdF f W c with
  | some (c',W')=>rdFs fs W' c'
  | none=>none
theorem rdOps_tell:∀(l:List OpP),(∀ o∈l,o.drop=true->o.val=[])->rdOps (l.flatMap opW1)=some l
 | [],_=>rfl
 | o::l,h=>by
  have ih:=rdOps_tell l fun x hx=>h x (by simp [hx])
  rw [List.flatMap_cons]
  cases hd:o.drop with
  | true =>
   have hv:=h o (by simp) hd
   have e:opW1 o=[sdrop,hexW o.key]:=by unfold opW1; rw [hd]; rfl
   rw [e,List.cons_append,List.cons_append,List.nil_append,rdOps_drop,rdByt_hex]
   simp only [ih,Option.map_some]
   obtain ⟨k,v,d⟩:=o
   simp only at hd hv; subst hd; subst hv; rfl
  | false =>
   have e:opW1 o=[sput,hexW o.key,hexW o.val]:=by unfold opW1; rw [hd]; rfl
   rw [e,List.cons_append,List.cons_append,List.cons_append,List.nil_append,rdOps_put,rdByt_hex]
   simp only [rdByt_hex,ih,Option.map_some]
   obtain ⟨k,v,d⟩:=o
   simp only at hd; subst hd; rfl
theorem rdF_tell{c d:CallP}(h:LimC c):∀(f:FId)(W:List Bs),(isOps f=true->W=[])->rdF f (telF f c++W) d=some (pickF c d f,W):=by
 intro f W hW
 have nat:∀{z:Int},0<=z->((z.toNat:Nat):Int)=z:=fun h=>Int.toNat_of_nonneg h
 cases f with
 | ops =>
  have:=hW rfl; subst this
  rw [List.append_nil]
  show (rdOps (c.ops.flatMap opW1)).map _=_
  rw [rdOps_tell _ fun o ho=>(h.ops o ho).2.2]; rfl
 | way =>
  show rdF .way ((if c.back then sback else son)::W) d=_
  cases hb:c.back with
  | true=>simp [rdF,pickF,hb]
  | false =>
   simp only [rdF,pickF,hb,Bool.false_eq_true,if_false]
   rw [if_neg (by decide)]; rfl
 | tenant =>
  have h1:=h.tenant
  show (rdNum 32 (decB c.tenant.toNat::W)).map _=_
  rw [rdNum_dec (by omega),Option.map_some,nat h1.1]; rfl
 | handle =>
  have h1:=h.handle
  show (rdNum 64 (decB c.handle.toNat::W)).map _=_
  rw [rdNum_dec (by omega),Option.map_some,nat h1.1]; rfl
 | snap =>
  have h1:=h.snap
  show (rdNum 64 (decB c.snap.toNat::W)).map _=_
  rw [rdNum_dec (by omega),Option.map_some,nat h1.1]; rfl
 | count =>
  have h1:=h.n
  show (rdNum 31 (decB c.n.toNat::W)).map _=_
  rw [rdNum_dec (by omega),Option.map_some,nat h1.1]; rfl
 | quota =>
  have h1:=h.quota
  show (rdNum 31 (decB c.quota.toNat::W)).map _=_
  rw [rdNum_dec (by omega),Option.map_some,nat h1.1]; rfl
 | rights =>
  have h1:=h.rights
  show (rdNum 8 (decB c.rights.toNat::W)).map _=_
  rw [rdNum_dec (by omega),Option.map_some,nat h1.1]; rfl
 | other =>
  have h1:=h.other
  show (rdNum 64 (decB c.other.toNat::W)).map _=_
  rw [rdNum_dec (by omega),Option.map_some,nat h1.1]; rfl
 | secret=>show (rdByt (hexW c.secret::W)).map _=_; rw [rdByt_hex]; rfl
 | key=>show (rdByt (hexW c.key::W)).map _=_; rw [rdByt_hex]; rfl
 | frm=>show (rdByt (hexW c.frm::W)).map _=_; rw [rdByt_hex]; rfl
 | upto=>show (rdByt (hexW c.upto::W)).map _=_; rw [rdByt_hex]; rfl
theorem rdFs_tell{c:CallP}(h:LimC c):∀(fs:List FId)(d:CallP),okFs fs=true->rdFs fs (telFs fs c) d=some (fs.foldl (pickF c) d,[])
 | [],d,_=>rfl
 | [f],d,_=>by
  show (match rdF f (telF f c++[]) d with | some (c',W')=>rdFs [] W' c' | none=>none)=_
  rw [rdF_tell h f [] fun _=>rfl]; rfl
 | f::g::fs,d,hf=>by
  simp only [okFs,Bool.and_eq_true,Bool.not_eq_true'] at hf
  show (match rdF f (telF f c++telFs (g::fs) c) d with | some (c',W')=>rdFs (g::fs) W' c' | none=>none)=_
  rw [rdF_tell h f _ fun hi=>by rw [hf.1] at hi; cases hi]
  exact rdFs_tell h (g::fs) _ hf.2
theorem formP_ok:∀ k g,formP k=some g->okFs g.2=true/\g.2.length<=6:=by
 intro k g h
 match k,h with
 | 1,h | 2,h | 3,h | 4,h | 5,h | 6,h | 7,h | 8,h | 9,h | 10,h | 11,h | 12,h | 13,h | 14,h | 15,h | 16,h=>cases h; exact ⟨by decide,by decide⟩
 | 0,h=>cases h
 | n+17,h=>cases h
theorem opW1_len:∀ l:List OpP,(l.flatMap opW1).length<=3 * l.length
 | []=>by simp
 | o::l=>by
  have ih:=opW1_len l
  rw [List.flatMap_cons,List.length_append,List.length_cons]
  have:(opW1 o).length<=3:=by unfold opW1; split <;> simp
  omega
theorem telF_len{c:CallP}(h:LimC c)(f:FId):(telF f c).length<=330:=by
 cases f with
 | ops=>have:=opW1_len c.ops; have:=h.opl; show (c.ops.flatMap opW1).length<=330; omega
 | _=>simp [telF]
theorem telFs_len{c:CallP}(h:LimC c):∀ fs:List FId,(telFs fs c).length<=330 * fs.length
 | []=>by simp [telFs]
 | f::fs=>by
  have:=telFs_len h fs
  have:=telF_len h f
  rw [telFs,List.flatMap_cons,List.length_append,List.length_cons]
  show (telF f c).length+(telFs fs c).length<=_
  omega
end Go.V
namespace Go.Proofs.YtimonamjecmlcaaGreatDoor
open Go.V
section
variable {w:Wd} {Q:Nat->Prop} {v:CallV} {c:CallP}
theorem told_spec{K:Sl->Wd->Prop}{wd:Bs}{s:Sl}{fs:List FId}(hf:FldsR Q w.heap s fs)(g:Gl w.heap){Qc:Nat->Prop}(hr:CallR Qc w.heap v c)(hl:LimC c)(hn:fs.length<=1000)(k:∀ s w',OwnW w'.heap w.heap.size s (wd::telFs fs c)->Ext No w w'->K s w') :
  C_play_form_told (stB wd) s v.kind v.tenant v.secret v.quota v.n v.handle v.other v.snap v.rights v.ops v.key v.frm v.upto v.back w K:=by
 apply S_play_form_told
 obtain ⟨vs,f1,f2,f3⟩:=hf
 have hvl:=f1.len
 have hsl:s.len=vs.length:=by
  have:=f2.len
  rw [flat_len' (f:=fun p:Value×Value=>[p.1,p.2]) (n:=2) fun _ _=>rfl] at this; omega
 refine NewW.mk fun b w1 n1=>NewW.mk fun b1 w2 n2=>⟨stB wd,Cell.lst (get_no n1.get n2.ext) rfl,NewW.mk fun b2 w3 n3=>⟨s,Cell.lst (get_no n1.get (n2.ext.no n3.ext)) rfl,?_⟩⟩
 have g2:=get_no n2.get n3.ext
 have x03:=(n1.ext.no n2.ext).no n3.ext
 have o3:OwnW w3.heap w2.heap.size ⟨some ⟨b2,0,none⟩,1,1⟩ [wd]:=Own.new n3 rfl (strW_one _)
 have z2:=(n1.ext.no n2.ext).size
 refine ⟨fun m s' t w'=>∃ j:Nat,t=j/\j<=fs.length/\m=fs.length - j/\OwnW w'.heap w.heap.size s' (wd::telFs (fs.take j) c)/\w'.heap[b1]? = some (.cells v.cells.toArray 30 (0,0))/\Ext No w w',⟨_,0,rfl,Nat.zero_le _,rfl,o3.mono z2,g2,x03⟩,?_⟩
 rintro _ m0 s' _ w4 ⟨j,rfl,hj,rfl,o4,g4,x4⟩
 have hwl:=telFs_len hl (fs.take j)
 rw [List.length_take] at hwl
 have hs4:=OwnW.len o4
 simp only [List.length_cons] at hs4
 refine If.dec (fun h=>?_) fun h=>?_
 .refine Ix.elem (f:=fun p:Value×Value=>[p.1,p.2]) (f2.no x4) (fun _ _=>rfl) (by decide) (by omega) h fun b5 o5 i5 hb5 c5=>?_
  have hjv:j < vs.length:=i5
  have hjf:j < fs.length:=by omega
  have el:vs[((j:Nat):Int).toNat]'i5=vs[j]:=rfl
  rw [el] at c5
  have fj:=(f1.get j hjv hjf).ext x4 fun _ _=>id
  have tk:=take_snoc hjf
  have ht:telFs (fs.take (j+1)) c=telFs (fs.take j) c++telF fs[j] c:=by rw [tk,telFs,List.flatMap_append]; simp [telFs]
  refine ⟨vs[j].1,c5 0 _ rfl,vs[j].2,c5 1 _ rfl,NewW.mk fun b6 w5 n5=>⟨rfl,StN.all n5.get rfl (by intro v hv; simp at hv; rcases hv with rfl | rfl; exact fj.one.1; exact fj.one.2) fun w6 g6 x6 _=>?_⟩⟩
  have x6':Ext (·=b6) w5 w6:=x6
  have x46:Ext No w4 w6:=n5.ext.trans x6' fun q hq h=>by have:=n5.at_; omega
  have g46:=get_no g4 x46
  refine ⟨vs[j].1,Cell.lst g6 rfl,?_⟩
  refine ⟨v.kind,Cell.lst g46 rfl,v.tenant,Cell.lst g46 rfl,v.secret,Cell.lst g46 rfl,v.quota,Cell.lst g46 rfl,v.n,Cell.lst g46 rfl,v.handle,Cell.lst g46 rfl,v.other,Cell.lst g46 rfl,v.snap,Cell.lst g46 rfl,v.rights,Cell.lst g46 rfl,v.ops,Cell.lst g46 rfl,v.key,Cell.lst g46 rfl,v.frm,Cell.lst g46 rfl,v.upto,Cell.lst g46 rfl,v.back,Cell.lst g46 rfl,?_⟩
  refine tell_spec (f:=fs[j]) (c:=c) (fj.ext x46 fun _ _=>id) (g.no (x4.no x46)) (hr.no (x4.no x46)) hl fun s7 w7 o7 x7=>?_
  have x47:=x46.no x7
  have hs7:=OwnW.len o7
  have htl:=telF_len hl fs[j]
  refine app_string (o4.no x47) (by have:=(x4.no x47).size; omega) o7.rd.src (by omega) fun s8 w8 o8 l8 x8 _=>Ar.i64 (by omega) ⟨_,by omega,j+1,by omega,by omega,rfl,?_,?_,?_⟩
  .rw [ht,<- List.cons_append]
   rw [<- List.map_append] at o8; exact o8
  .have hb1:¬ s'.blk=some b1:=by
    intro hb
    rcases o4.is with ⟨rfl,_⟩ | ⟨q,rest,ha,_,hq,_⟩
    .cases hb
    .simp [Sl.blk,ha] at hb; subst hb
     rw [g4] at hq; cases hq
   exact get_ext (get_no g4 x47) x8 hb1
  .exact (x4.no x47).trans x8 fun q hq h=>by have:=(o4.lt h).1; omega
 .have hjn:j=fs.length:=by omega
  rw [hjn,List.take_length] at o4
  exact k s' w4 o4 x4
end
end Go.Proofs.YtimonamjecmlcaaGreatDoor
namespace Go.V
structure RngC(c:CallP):Prop where
 tenant:0<=c.tenant/\c.tenant < 4294967296
 handle:0<=c.handle/\c.handle < 18446744073709551616
 other:0<=c.other/\c.other < 18446744073709551616
 snap:0<=c.snap/\c.snap < 18446744073709551616
 rights:0<=c.rights/\c.rights < 256
structure LimB(c:CallP):Prop where
 secret:c.secret.length<=32
 key:c.key.length<=64
 frm:c.frm.length<=64
 upto:c.upto.length<=64
 opl:c.ops.length<=110
 quota:0<=c.quota/\c.quota<=1073741824
 n:0<=c.n/\c.n<=1073741824
 ops:c.ops.any badOp=false
theorem LimB.lim{c:CallP}(h:LimB c)(r:RngC c):LimC c:=by
 refine ⟨r.tenant,h.quota,h.n,r.handle,r.other,r.snap,r.rights,h.secret,h.key,h.frm,h.upto,h.opl,fun o ho=>?_⟩
 have:=List.any_eq_false.1 h.ops o ho
 simp only [badOp,Bool.or_eq_true,Bool.and_eq_true,decide_eq_true_eq,not_or,not_and] at this
 exact ⟨by omega,by omega,fun hd=>List.length_eq_zero_iff.1 (by have:=this.2 hd; omega)⟩
def formI(z:Int):Option (Bs×List FId):=if 0<=z then formP z.toNat else none
theorem formI_nat{z:Int}{g:Bs×List FId}(h:formI z=some g):∃ k:Nat,z=(k:Int)/\formP k=some g:=by
 unfold formI at h
 split at h
 .exact ⟨z.toNat,by omega,h⟩
 .cases h
def MayC(c:CallP):Prop:=∃ g,formI c.kind=some g/\LimB c/\c=bareF g.2 c
theorem nd_20{u:Nat}(h:u < 2 ^ 64):nd u<=20:=by
 by_cases h1:u < 10
 .unfold nd; rw [if_pos h1]; omega
 have:=nd_ge u (by omega)
 rcases Nat.lt_or_ge 20 (nd u) with h3 | h3
 .have:10 ^ 20<=10 ^ (nd u - 1):=Nat.pow_le_pow_right (by decide) (by omega)
  omega
 .exact h3
theorem decB_20{u:Nat}(h:u < 2 ^ 64):(decB u).length<=20:=by unfold decB; rw [digs_len]; exact nd_20 h
theorem hexW_len{l:Bs}:(hexW l).length<=2 * l.length+1:=by
 unfold hexW; split
 .simp
 .rw [hexB_len]; omega
theorem telF_sm{c:CallP}(h:LimC c)(f:FId):∀ x∈telF f c,x.length<=3000:=by
 intro x hx
 have one:∀{y:Bs},x∈[y]->y.length<=3000->x.length<=3000:=fun h1 h2=>by rw [List.mem_singleton] at h1; rw [h1]; exact h2
 cases f with
 | ops =>
  obtain ⟨o,ho,hx⟩:=List.mem_flatMap.1 hx
  have hl:=h.ops o ho
  have h1:=hexW_len (l:=o.key); have h2:=hexW_len (l:=o.val)
  unfold opW1 at hx
  split at hx
  .simp only [List.mem_cons,List.not_mem_nil,or_false] at hx
   rcases hx with rfl | rfl
   .decide
   .omega
  .simp only [List.mem_cons,List.not_mem_nil,or_false] at hx
   rcases hx with rfl | rfl | rfl
   .decide
   .omega
   .omega
 | way=>exact one hx (by split <;> decide)
 | tenant=>have h1:=h.tenant; exact one hx (Nat.le_trans (decB_20 (by omega)) (by decide))
 | handle=>have h1:=h.handle; exact one hx (Nat.le_trans (decB_20 (by omega)) (by decide))
 | snap=>have h1:=h.snap; exact one hx (Nat.le_trans (decB_20 (by omega)) (by decide))
 | count=>have h1:=h.n; exact one hx (Nat.le_trans (decB_20 (by omega)) (by decide))
 | quota=>have h1:=h.quota; exact one hx (Nat.le_trans (decB_20 (by omega)) (by decide))
 | rights=>have h1:=h.rights; exact one hx (Nat.le_trans (decB_20 (by omega)) (by decide))
 | other=>have h1:=h.other; exact one hx (Nat.le_trans (decB_20 (by omega)) (by decide))
 | secret=>have h1:=h.secret; exact one hx (Nat.le_trans hexW_len (by omega))
 | key=>have h1:=h.key; exact one hx (Nat.le_trans hexW_len (by omega))
 | frm=>have h1:=h.frm; exact one hx (Nat.le_trans hexW_len (by omega))
 | upto=>have h1:=h.upto; exact one hx (Nat.le_trans hexW_len (by omega))
theorem telFs_sm{c:CallP}(h:LimC c){fs:List FId}(hn:fs.length<=6):SmW (telFs fs c):=by
 refine ⟨by have:=telFs_len h fs; omega,fun x hx=>?_⟩
 obtain ⟨f,_,hx⟩:=List.mem_flatMap.1 hx
 have:=telF_sm h f x hx
 omega
theorem pick_ops(c:CallP):∀(fs:List FId)(d:CallP),(fs.foldl (pickF c) d).ops.length<=d.ops.length+fs.length * c.ops.length
 | [],d=>by simp
 | f::fs,d=>by
  have ih:=pick_ops c fs (pickF c d f)
  have:(pickF c d f).ops.length<=d.ops.length+c.ops.length:=by
   cases f <;> simp [pickF]
   split <;> simp
  rw [List.foldl_cons,List.length_cons,Nat.add_mul]; omega
theorem okFs_drop:∀{fs:List FId}{j:Nat},okFs fs=true->okFs (fs.drop j)=true
 | fs,0,h=>h
 | [],_+1,_=>rfl
 | [_],j+1,_=>by simp [okFs]
 | f::g::fs,j+1,h=>by
  simp only [okFs,Bool.and_eq_true] at h
  exact okFs_drop (fs:=g::fs) h.2
theorem okFs_head{f:FId}{fs:List FId}(h:okFs (f::fs)=true):isOps f=true->fs=[]:=by
 cases fs with
 | nil=>exact fun _=>rfl
 | cons g fs=>simp only [okFs,Bool.and_eq_true,Bool.not_eq_true'] at h; exact fun h2=>by rw [h.1] at h2; cases h2
theorem CallV.one(v:CallV):∀ x∈v.cells,oneC x=true:=by
 intro x hx
 simp only [CallV.cells,List.mem_cons,List.not_mem_nil,or_false] at hx
 rcases hx with rfl | rfl | rfl | rfl | rfl | rfl | rfl | rfl | rfl | rfl | rfl | rfl | rfl | rfl <;> rfl
theorem cut_blk{a:Option Addr}{m l sz x y q:Nat}(h:(⟨cutA a m l sz,x,y⟩ : Sl).blk=some q):a.map (·.block)=some q:=by
 have hcut:(cutA a m l sz).map (·.block)=some q:=h
 unfold cutA at hcut
 split at hcut
 .exact hcut
 .cases ha:a with
  | none=>rw [ha] at hcut; cases hcut
  | some a =>
   rw [ha] at hcut
   simp only [Option.map_some,Option.some.injEq,Addr.add] at hcut ⊢
   split at hcut <;> exact hcut
theorem FldV.lt{Q:Nat->Prop}{h:Array Obj}{t r:Value}{f:FId}(k:FldV Q h t r f):FldV (fun b=>Q b/\b < h.size) h t r f:=by
 unfold FldV at k ⊢
 split at k
 .exact k
 .obtain ⟨b,h1,h2,h3,h4⟩:=k
  exact ⟨b,⟨h1,(Array.getElem?_eq_some_iff.1 h4).1⟩,h2,h3,h4⟩
end Go.V
namespace Go.Proofs.YtimonamjecmlcaaGreatDoor
open Go.V
section
variable {w:Wd}
theorem rdr_tail{w w':Wd}{base br:Nat}{s:Sl}{x:Bs}{W:List Bs}{Q:Nat->Prop}(o:Own w.heap base 9 1 s (strW (x::W)))(n:New w (.cells [.slice (cutA s.a s.cap 1 1) (s.len - 1) (s.cap - 1)].toArray 86) br w')(hq:∀ q,base<=q->q < br->Q q):RdrR Q w'.heap br W:=by
 have hs:=RdW.len o.rd
 simp only [List.length_cons] at hs
 have rc:=o.rd.cut (lo:=1) (hi:=s.len) (mx:=s.cap) (by omega) (Nat.le_refl _) o.rd.cap
 have ec:((strW (x::W)).drop (1 * 1)).take ((s.len - 1) * 1)=strW W:=by
  show (strW W).take _=_
  exact List.take_of_length_le (by rw [List.length_map]; omega)
 rw [ec] at rc
 refine ⟨⟨cutA s.a s.cap 1 1,s.len - 1,s.cap - 1⟩,n.get,rc.no n.ext,fun _ q hb=>?_⟩
 have:=o.lt (cut_blk hb)
 exact hq q this.1 (by rw [n.at_]; exact this.2)
theorem run_max3{a b c:Int}:Sem.run pz (Builtin.max_ #[3,3,3] 3 #[.int .i64 a, .int .i64 b, .int .i64 c]) w = .ok (.int .i64 (if c > (if b > a then b else a) then c else (if b > a then b else a))) w:=by
 simp [Builtin.max_,Builtin.max2]
def TailMay(b b_1:Nat)(r_1:Bool)(w5:Wd)(K:Bool->Wd->Prop):Prop :=
 ∃ J0:Wd->Prop,(
 If (!r_1) (
 K false w5) (
 ∃ vv_1:Sl,Cell w5 ((Addr.mk b 0 none).add 2) (.slice vv_1.a vv_1.len vv_1.cap) /\
 If (decide (((vv_1.len:Int)) > 32)) (
 K false w5) (
 ∃ vv_2:Sl,Cell w5 ((Addr.mk b 0 none).add 10) (.slice vv_2.a vv_2.len vv_2.cap) /\
 ∃ vv_3:Sl,Cell w5 ((Addr.mk b 0 none).add 11) (.slice vv_3.a vv_3.len vv_3.cap) /\
 ∃ vv_4:Sl,Cell w5 ((Addr.mk b 0 none).add 12) (.slice vv_4.a vv_4.len vv_4.cap) /\
 ∃ r_2:Int,∃ w6,Sem.run pz (Builtin.max_ #[3,3,3] 3 #[.int .i64 ((vv_2.len:Int)), .int .i64 ((vv_3.len:Int)), .int .i64 ((vv_4.len:Int))]) w5 = .ok (.int .i64 r_2) w6 /\
 If (decide (r_2 > 64)) (
 K false w6) (
 ∃ vv_5:Sl,Cell w6 ((Addr.mk b 0 none).add 9) (.slice vv_5.a vv_5.len vv_5.cap) /\
 If (decide (((vv_5.len:Int)) > 110)) (
 K false w6) (
 ∃ vv_6:Int,Cell w6 ((Addr.mk b 0 none).add 3) (.int .i64 vv_6) /\
 C_play_within vv_6 1073741824 w6 fun r_3 w7 =>
 If (!r_3) (
 K false w7) (
 ∃ vv_7:Int,Cell w7 ((Addr.mk b 0 none).add 4) (.int .i64 vv_7) /\
 C_play_within vv_7 1073741824 w7 fun r_4 w8 =>
 If (!r_4) (
 K false w8) (
 J0 w8)))))))/\∀(_:Env)(w9:Wd),J0 w9 ->
 ∃ vv_8:Sl,Cell w9 ((Addr.mk b 0 none).add 9) (.slice vv_8.a vv_8.len vv_8.cap) /\
 C_slices_ContainsFunc_api_Op_api_Op vv_8 (.func (.func 85) #[] #[]) w9 fun r_5 w10 =>
 If r_5 (
 K false w10) (
 ∃ vv_9:Int,Cell w10 (Addr.mk b 0 none) (.int .i64 vv_9) /\
 NewW w10 (.cells [.int .i64 0, .int .u32 0, .slice none 0 0, .int .i64 0, .int .i64 0, .int .u64 0, .int .u64 0, .int .u64 0, .int .u8 0, .slice none 0 0, .slice none 0 0, .slice none 0 0, .slice none 0 0, .bool false].toArray 30) fun b_2 w11 =>
 List.length (α:=Value) [.int .i64 vv_9, .int .u32 0, .slice none 0 0, .int .i64 0, .int .i64 0, .int .u64 0, .int .u64 0, .int .u64 0, .int .u8 0, .slice none 0 0, .slice none 0 0, .slice none 0 0, .slice none 0 0, .bool false]=14/\StN w11 (Addr.mk b_2 0 none) [.int .i64 vv_9, .int .u32 0, .slice none 0 0, .int .i64 0, .int .i64 0, .int .u64 0, .int .u64 0, .int .u64 0, .int .u8 0, .slice none 0 0, .slice none 0 0, .slice none 0 0, .slice none 0 0, .bool false] fun w12 =>
 ∃ c:ByteArray,Cell w12 (Addr.mk b_1 0 none) (.string c) /\
 ∃ c_1:Sl,Cell w12 ((Addr.mk b_1 0 none).add 1) (.slice c_1.a c_1.len c_1.cap) /\
 ∃ c_2:Int,Cell w12 (Addr.mk b 0 none) (.int .i64 c_2) /\
 ∃ c_3:Int,Cell w12 ((Addr.mk b 0 none).add 1) (.int .u32 c_3) /\
 ∃ c_4:Sl,Cell w12 ((Addr.mk b 0 none).add 2) (.slice c_4.a c_4.len c_4.cap) /\
 ∃ c_5:Int,Cell w12 ((Addr.mk b 0 none).add 3) (.int .i64 c_5) /\
 ∃ c_6:Int,Cell w12 ((Addr.mk b 0 none).add 4) (.int .i64 c_6) /\
 ∃ c_7:Int,Cell w12 ((Addr.mk b 0 none).add 5) (.int .u64 c_7) /\
 ∃ c_8:Int,Cell w12 ((Addr.mk b 0 none).add 6) (.int .u64 c_8) /\
 ∃ c_9:Int,Cell w12 ((Addr.mk b 0 none).add 7) (.int .u64 c_9) /\
 ∃ c_10:Int,Cell w12 ((Addr.mk b 0 none).add 8) (.int .u8 c_10) /\
 ∃ c_11:Sl,Cell w12 ((Addr.mk b 0 none).add 9) (.slice c_11.a c_11.len c_11.cap) /\
 ∃ c_12:Sl,Cell w12 ((Addr.mk b 0 none).add 10) (.slice c_12.a c_12.len c_12.cap) /\
 ∃ c_13:Sl,Cell w12 ((Addr.mk b 0 none).add 11) (.slice c_13.a c_13.len c_13.cap) /\
 ∃ c_14:Sl,Cell w12 ((Addr.mk b 0 none).add 12) (.slice c_14.a c_14.len c_14.cap) /\
 ∃ c_15:Bool,Cell w12 ((Addr.mk b 0 none).add 13) (.bool c_15) /\
 C_play_form_told c c_1 c_2 c_3 c_4 c_5 c_6 c_7 c_8 c_9 c_10 c_11 c_12 c_13 c_14 c_15 w12 fun r_6 w13 =>
 Cut r_6 1 (((r_6.len:Nat):Int)) (((r_6.cap:Nat):Int)) 1 fun s =>
 NewW w13 (.cells [.slice s.a s.len s.cap].toArray 86) fun b_3 w14 =>
 ∃ vv_10:Sl,Cell w14 ((Addr.mk b_1 0 none).add 1) (.slice vv_10.a vv_10.len vv_10.cap) /\
 ∃ I0:Nat->Int->Wd->Prop,(∃ m,I0 m 0 w14)/\∀(_:Env)(m0:Nat)(t:Int)(w15:Wd),I0 m0 t w15 ->
 If (decide (t < ((vv_10.len:Int)))) (
 Ix vv_10.a vv_10.len t 2 fun a =>
 ∃ c_16:Value,Cell w15 a (c_16) /\
 ∃ c_17:Value,Cell w15 (a.add 1) (c_17) /\
 NewW w15 (.cells [.nilFunc, .nilFunc].toArray 104) fun b_4 w16 =>
 List.length (α:=Value) [c_16,c_17]=2/\StN w16 (Addr.mk b_4 0 none) [c_16,c_17] fun w17 =>
 ∃ vv_11:Value,Cell w17 ((Addr.mk b_4 0 none).add 1) (vv_11) /\
 dynV pz true vv_11 [.pointer (some (Addr.mk b_3 0 none)), .pointer (some (Addr.mk b_2 0 none))] [] (fun w18 =>
 Ar .i64 (t+1) fun z =>
 ∃ m1,m1 < m0/\I0 m1 z w18) NoX w17) (
 ∃ c_18:Int,Cell w15 (Addr.mk b 0 none) (.int .i64 c_18) /\
 ∃ c_19:Int,Cell w15 ((Addr.mk b 0 none).add 1) (.int .u32 c_19) /\
 ∃ c_20:Sl,Cell w15 ((Addr.mk b 0 none).add 2) (.slice c_20.a c_20.len c_20.cap) /\
 ∃ c_21:Int,Cell w15 ((Addr.mk b 0 none).add 3) (.int .i64 c_21) /\
 ∃ c_22:Int,Cell w15 ((Addr.mk b 0 none).add 4) (.int .i64 c_22) /\
 ∃ c_23:Int,Cell w15 ((Addr.mk b 0 none).add 5) (.int .u64 c_23) /\
 ∃ c_24:Int,Cell w15 ((Addr.mk b 0 none).add 6) (.int .u64 c_24) /\
 ∃ c_25:Int,Cell w15 ((Addr.mk b 0 none).add 7) (.int .u64 c_25) /\
 ∃ c_26:Int,Cell w15 ((Addr.mk b 0 none).add 8) (.int .u8 c_26) /\
 ∃ c_27:Sl,Cell w15 ((Addr.mk b 0 none).add 9) (.slice c_27.a c_27.len c_27.cap) /\
 ∃ c_28:Sl,Cell w15 ((Addr.mk b 0 none).add 10) (.slice c_28.a c_28.len c_28.cap) /\
 ∃ c_29:Sl,Cell w15 ((Addr.mk b 0 none).add 11) (.slice c_29.a c_29.len c_29.cap) /\
 ∃ c_30:Sl,Cell w15 ((Addr.mk b 0 none).add 12) (.slice c_30.a c_30.len c_30.cap) /\
 ∃ c_31:Bool,Cell w15 ((Addr.mk b 0 none).add 13) (.bool c_31) /\
 ∃ c_32:Int,Cell w15 (Addr.mk b_2 0 none) (.int .i64 c_32) /\
 ∃ c_33:Int,Cell w15 ((Addr.mk b_2 0 none).add 1) (.int .u32 c_33) /\
 ∃ c_34:Sl,Cell w15 ((Addr.mk b_2 0 none).add 2) (.slice c_34.a c_34.len c_34.cap) /\
 ∃ c_35:Int,Cell w15 ((Addr.mk b_2 0 none).add 3) (.int .i64 c_35) /\
 ∃ c_36:Int,Cell w15 ((Addr.mk b_2 0 none).add 4) (.int .i64 c_36) /\
 ∃ c_37:Int,Cell w15 ((Addr.mk b_2 0 none).add 5) (.int .u64 c_37) /\
 ∃ c_38:Int,Cell w15 ((Addr.mk b_2 0 none).add 6) (.int .u64 c_38) /\
 ∃ c_39:Int,Cell w15 ((Addr.mk b_2 0 none).add 7) (.int .u64 c_39) /\
 ∃ c_40:Int,Cell w15 ((Addr.mk b_2 0 none).add 8) (.int .u8 c_40) /\
 ∃ c_41:Sl,Cell w15 ((Addr.mk b_2 0 none).add 9) (.slice c_41.a c_41.len c_41.cap) /\
 ∃ c_42:Sl,Cell w15 ((Addr.mk b_2 0 none).add 10) (.slice c_42.a c_42.len c_42.cap) /\
 ∃ c_43:Sl,Cell w15 ((Addr.mk b_2 0 none).add 11) (.slice c_43.a c_43.len c_43.cap) /\
 ∃ c_44:Sl,Cell w15 ((Addr.mk b_2 0 none).add 12) (.slice c_44.a c_44.len c_44.cap) /\
 ∃ c_45:Bool,Cell w15 ((Addr.mk b_2 0 none).add 13) (.bool c_45) /\
 C_play_same c_18 c_19 c_20 c_21 c_22 c_23 c_24 c_25 c_26 c_27 c_28 c_29 c_30 c_31 c_32 c_33 c_34 c_35 c_36 c_37 c_38 c_39 c_40 c_41 c_42 c_43 c_44 c_45 w15 fun r_7 w19 =>
 K r_7 w19))
theorem tail_no{b b1:Nat}{K:Bool->Wd->Prop}(k:K false w):TailMay b b1 false w K :=
 ⟨fun _=>False,If.yes k,fun _ _ h=>h.elim⟩
set_option maxHeartbeats 2000000 in
theorem tail_may{b b1:Nat}{va:CallV}{c:CallP}{wd:Bs}{s:Sl}{fs:List FId}{Qc Qf:Nat->Prop}{K:Bool->Wd->Prop}(hb:w.heap[b]? = some (.cells va.cells.toArray 30 (0,0)))(hb1:w.heap[b1]? = some (.cells [.string (stB wd), .slice s.a s.len s.cap].toArray 59 (0,0)))
  (hf:FldsR Qf w.heap s fs) (g:Gl w.heap) (h8:8<=w.heap.size) (r:CallR Qc w.heap va c) (rg:RngC c) (ho:okFs fs=true) (h6:fs.length<=6) (hl:c.ops.length<=1000000000000000000)
  (k:∀ r w',(r=true ↔ LimB c/\c=bareF fs c)->Ext No w w'->K r w'):TailMay b b1 true w K:=by
 have no:∀{w'},Ext No w w'->¬ LimB c->K false w':=fun x h=>k _ _ ⟨(fun h=>by cases h),fun e=>(h e.1).elim⟩ x
 have l1:=RdB.len r.secret.rd; have l2:=RdB.len r.key.rd; have l3:=RdB.len r.frm.rd; have l4:=RdB.len r.upto.rd; have l5:=OpsR.len r.ops
 refine ⟨fun w'=>w'=w/\c.secret.length<=32/\c.key.length<=64/\c.frm.length<=64/\c.upto.length<=64/\c.ops.length<=110/\(0<=c.quota/\c.quota<=1073741824)/\(0<=c.n/\c.n<=1073741824),?_,?_⟩
 .refine If.no ⟨va.secret,Cell.lst hb rfl,If.dec (fun h=>no (Ext.refl _ _) fun hl=>by have:=hl.secret; omega) fun h1=>⟨va.key,Cell.lst hb rfl,va.frm,Cell.lst hb rfl,va.upto,Cell.lst hb rfl,_,w,run_max3,If.dec (fun h=>no (Ext.refl _ _) fun hl=>?_) fun h2=>⟨va.ops,Cell.lst hb rfl,If.dec (fun h=>no (Ext.refl _ _) fun hl=>by have:=hl.opl; omega) fun h3=>⟨va.quota,Cell.lst hb rfl,within_spec (If.not (If.dec (fun h4=>⟨va.n,Cell.lst hb rfl,within_spec (If.not (If.dec (fun h5=>?_) fun h=>no (Ext.refl _ _) fun hl=>h (by rw [r.n]; exact hl.n)))⟩) fun h=>no (Ext.refl _ _) fun hl=>h (by rw [r.quota]; exact hl.quota)))⟩⟩⟩⟩
  .have:=hl.key; have:=hl.frm; have:=hl.upto
   split at h <;> split at h <;> omega
  .rw [r.quota] at h4; rw [r.n] at h5
   have h2':¬ (c.key.length > 64)/\¬ (c.frm.length > 64)/\¬ (c.upto.length > 64):=by
    split at h2 <;> split at h2 <;> omega
   exact ⟨rfl,by omega,by omega,by omega,by omega,by omega,h4,h5⟩
 rintro _ w ⟨rfl,b1',b2',b3',b4',b5',b6',b7'⟩
 refine ⟨va.ops,Cell.lst hb rfl,anyOps r.ops hl fun w1 x1=>If.cases (fun h=>no x1 fun hl=>by rw [hl.ops] at h; cases h) fun hops=>?_⟩
 have lb:LimB c:=⟨b1',b2',b3',b4',b5',b6',b7',hops⟩
 have lc:=lb.lim rg
 refine ⟨va.kind,Cell.lst (get_no hb x1) rfl,NewW.mk fun bd w2 n2=>⟨rfl,StN.all n2.get rfl (CallV.one (callV0 va.kind)) fun w3 g3 x3 _=>?_⟩⟩
 have x3':Ext (·=bd) w2 w3:=x3
 have hbd:=n2.at_; have z2:=n2.size; have z1:=x1.size; have z3:=x3'.size
 have x03:Ext No w w3:=(x1.no n2.ext).trans x3' fun q hq h=>by omega
 have hb3:=get_no hb x03; have hb13:=get_no hb1 x03
 refine ⟨stB wd,Cell.lst hb13 rfl,s,Cell.lst hb13 rfl,va.kind,Cell.lst hb3 rfl,va.tenant,Cell.lst hb3 rfl,va.secret,Cell.lst hb3 rfl,va.quota,Cell.lst hb3 rfl,va.n,Cell.lst hb3 rfl,va.handle,Cell.lst hb3 rfl,va.other,Cell.lst hb3 rfl,va.snap,Cell.lst hb3 rfl,va.rights,Cell.lst hb3 rfl,va.ops,Cell.lst hb3 rfl,va.key,Cell.lst hb3 rfl,va.frm,Cell.lst hb3 rfl,va.upto,Cell.lst hb3 rfl,va.back,Cell.lst hb3 rfl,?_⟩
 refine told_spec (hf.ext x03 fun _ _=>id) (g.no x03) (r.no x03) lc (by omega) fun s4 w4 o4 x4=>?_
 have hs4:=OwnW.len o4
 simp only [List.length_cons] at hs4
 have hcap:=o4.rd.cap
 refine Cut.mk (by omega) (by omega) (by omega) (Int.le_refl _) (NewW.mk fun br w5 n5=>?_)
 have e2:(((s4.len:Nat):Int) - 1).toNat=s4.len - 1:=by omega
 have e3:(((s4.cap:Nat):Int) - 1).toNat=s4.cap - 1:=by omega
 rw [e2,e3] at n5
 have hbr:=n5.at_; have z5:=n5.size; have z4:=x4.size
 have x35:=x4.no n5.ext
 have x05:=x03.no x35
 refine ⟨s,Cell.lst (get_no hb1 x05) rfl,?_⟩
 have rd5:RdrR (fun q=>q≠br/\q≠bd/\(callV0 va.kind).ops.blk≠some q) w5.heap br (telFs fs c):=rdr_tail o4 n5 fun q h1 h2=>⟨by omega,by omega,fun h=>by cases h⟩
 have pl5:PlD w5.heap bd [] [] 30 (callV0 va.kind):=by show _=_; rw [List.nil_append,List.append_nil]; exact get_no g3 x35
 have fl5:FillR w5.heap br bd w3.heap.size [] [] 30 (telFs fs c) (callV0 va.kind) (callP0 c.kind):=⟨rd5,pl5,r.kind ▸ CallD.zero _ _ _ _,telFs_sm lc h6⟩
 obtain ⟨vs,f1,f2,f3⟩:=hf
 have hvl:=f1.len
 have hsl:s.len=vs.length:=by
  have:=f2.len
  rw [flat_len' (f:=fun p:Value×Value=>[p.1,p.2]) (n:=2) fun _ _=>rfl] at this; omega
 refine ⟨fun m t w'=>∃ (j:Nat) (v':CallV),t=j/\j<=fs.length/\m=fs.length - j/\FillR w'.heap br bd w3.heap.size [] [] 30 (telFs (fs.drop j) c) v' ((fs.take j).foldl (pickF c) (callP0 c.kind))/\Ext (FillS br bd w3.heap.size) w5 w',⟨_,0,_,rfl,Nat.zero_le _,rfl,fl5,Ext.refl _ _⟩,?_⟩
 rintro _ m0 _ w6 ⟨j,v',rfl,hj,rfl,fl6,x6⟩
 have x06:Ext No w w6:=x05.trans x6 fun q hq h=>by rcases h with h | h | h <;> omega
 have z6:=x6.size
 refine If.dec (fun h=>?_) fun h=>?_
 .refine Ix.elem (f:=fun p:Value×Value=>[p.1,p.2]) (f2.no x06) (fun _ _=>rfl) (by decide) (by omega) h fun b7 o7 i7 hb7 c7=>?_
  have hjv:j < vs.length:=i7
  have hjf:j < fs.length:=by omega
  have el:vs[((j:Nat):Int).toNat]'i7=vs[j]:=rfl
  rw [el] at c7
  have fj:=(f1.get j hjv hjf)
  refine ⟨vs[j].1,c7 0 _ rfl,vs[j].2,c7 1 _ rfl,NewW.mk fun b8 w7 n7=>⟨rfl,StN.all n7.get rfl (by intro v hv; simp at hv; rcases hv with rfl | rfl; exact fj.one.1; exact fj.one.2) fun w8 g8 x8 _=>⟨vs[j].2,Cell.lst g8 rfl,?_⟩⟩⟩
  have x8':Ext (·=b8) w7 w8:=x8
  have x68:Ext No w6 w8:=n7.ext.trans x8' fun q hq h=>by have:=n7.at_; omega
  have z8:=x68.size
  have hdr:fs.drop j=fs[j]::fs.drop (j+1):=List.drop_eq_getElem_cons hjf
  have fl8:=fl6.no x68
  have htel:rdF fs[j] (telFs (fs.drop j) c) ((fs.take j).foldl (pickF c) (callP0 c.kind))=some ((fs.take (j+1)).foldl (pickF c) (callP0 c.kind),telFs (fs.drop (j+1)) c):=by
   rw [hdr,take_snoc hjf,List.foldl_append]
   exact rdF_tell lc fs[j] _ fun hi=>by
    have:=okFs_head (f:=fs[j]) (fs:=fs.drop (j+1)) (hdr ▸ okFs_drop ho) hi
    rw [this]; rfl
  have hops:((fs.take j).foldl (pickF c) (callP0 c.kind)).ops.length<=0+(fs.take j).length * c.ops.length:=pick_ops c (fs.take j) (callP0 c.kind)
  have hmul:(fs.take j).length * c.ops.length<=6 * 110:=Nat.mul_le_mul (by rw [List.length_take]; omega) (by omega)
  refine read_spec (pre:=[]) (f:=fs[j]) ((fj.lt.ext (x06.no x68) fun _ _=>id).mono fun q hq=>⟨by omega,by omega⟩) fl8 (g.no (x06.no x68)) (by omega) (by omega) (by omega) (by omega) (fun v9 c9 W9 w9 e9 fl9 x9=>?_) fun w9 e9 x9=>by rw [htel] at e9; cases e9
  rw [htel] at e9; cases e9
  exact Ar.i64 (by omega) ⟨_,by omega,j+1,v9,by omega,by omega,rfl,fl9,(x6.trans x68 fun _ _ h=>h.elim).trans x9 fun _ _ h=>h⟩
 .have hjn:j=fs.length:=by omega
  rw [hjn,List.take_length] at fl6
  have hb6:=get_no hb x06
  have gd:w6.heap[bd]? = some (.cells v'.cells.toArray 30 (0,0)):=by
   have:=fl6.pl
   unfold PlD at this
   rw [List.nil_append,List.append_nil] at this; exact this
  refine ⟨va.kind,Cell.lst hb6 rfl,va.tenant,Cell.lst hb6 rfl,va.secret,Cell.lst hb6 rfl,va.quota,Cell.lst hb6 rfl,va.n,Cell.lst hb6 rfl,va.handle,Cell.lst hb6 rfl,va.other,Cell.lst hb6 rfl,va.snap,Cell.lst hb6 rfl,va.rights,Cell.lst hb6 rfl,va.ops,Cell.lst hb6 rfl,va.key,Cell.lst hb6 rfl,va.frm,Cell.lst hb6 rfl,va.upto,Cell.lst hb6 rfl,va.back,Cell.lst hb6 rfl,?_⟩
  refine ⟨v'.kind,Cell.lst gd rfl,v'.tenant,Cell.lst gd rfl,v'.secret,Cell.lst gd rfl,v'.quota,Cell.lst gd rfl,v'.n,Cell.lst gd rfl,v'.handle,Cell.lst gd rfl,v'.other,Cell.lst gd rfl,v'.snap,Cell.lst gd rfl,v'.rights,Cell.lst gd rfl,v'.ops,Cell.lst gd rfl,v'.key,Cell.lst gd rfl,v'.frm,Cell.lst gd rfl,v'.upto,Cell.lst gd rfl,v'.back,Cell.lst gd rfl,?_⟩
  exact same_spec (r.no x06) fl6.d.rd hl fun r7 w7 h7 x7=>k r7 w7 ⟨fun h=>⟨lb,h7.1 h⟩,fun h=>h7.2 h.2⟩ (x06.no x7)
end
section
variable {w:Wd}
theorem formI_none{z:Int}(h:formI z=none):∀ k:Nat,z=(k:Int)->formP k=none:=by
 intro k e
 subst e
 unfold formI at h
 rw [if_pos (by omega),Int.toNat_natCast] at h
 exact h
theorem FldsR_lt{Q:Nat->Prop}{h:Array Obj}{s:Sl}{fs:List FId}(r:FldsR Q h s fs):FldsR (fun q=>Q q/\q < h.size) h s fs:=by
 obtain ⟨vs,h1,h2,h3⟩:=r
 refine ⟨vs,h1.mono fun _ _ _ k=>k.lt,h2,fun hne b hb=>⟨h3 hne b hb,Rd.lt h2 (fun e=>hne ?_) hb⟩⟩
 cases vs with
 | nil=>rfl
 | cons p vs=>cases e
theorem forms_at2{base k:Nat}{r:Nat}{g:Bs×List FId}{w':Wd}(h:FormsR base w.heap r)(hk:formP k=some g)(x:Ext No w w'):∃ s:Sl,FldsR (fun q=>base<=q/\q < w.heap.size) w'.heap s g.2 /\
  (Instr.lookup 60 (.map (some r)) (.int .i64 (k:Int)) true).run pz w' = .ok (.tuple #[.agg ([.string (stB g.1), .slice s.a s.len s.cap]).toArray, .bool true]) w' /\
  (Instr.lookup 60 (.map (some r)) (.int .i64 (k:Int)) false).run pz w' = .ok (.agg ([.string (stB g.1), .slice s.a s.len s.cap]).toArray) w':=by
 obtain ⟨m,⟨hb,hm,hp⟩,hs⟩:=h
 obtain ⟨v,hv⟩:=Option.isSome_iff_exists.1 (hs k g hk)
 obtain ⟨k',e,g',hg,s,e2,hf⟩:=hp _ (getA_mem hv)
 have:k'=k:=by simp only at e; omega
 subst this
 rw [hk] at hg; cases hg
 simp only at e2
 have hm':=hm.ext x id
 have h1:=run_lookup2 (w:=w') (a:=(k':Int)) key60 und60 zero59 hm'
 have h2:=run_lookup (w:=w') (a:=(k':Int)) key60 und60 zero59 hm'
 rw [hv] at h1 h2
 exact ⟨s,(FldsR_lt hf).ext x fun _ _=>id,by rw [h1,e2]; rfl,by rw [h2,e2]; rfl⟩
theorem look_form{base r:Nat}{z:Int}{w':Wd}(h:FormsR base w.heap r)(x:Ext No w w'):∃ (wd:Bs) (s:Sl) (ok:Bool),(Instr.lookup 60 (.map (some r)) (.int .i64 z) true).run pz w' = .ok (.tuple #[.agg ([.string (stB wd), .slice s.a s.len s.cap]).toArray, .bool ok]) w' /\
  ((ok=false/\formI z=none)∨∃ g,formI z=some g/\ok=true/\wd=g.1/\FldsR (fun q=>base<=q/\q < w.heap.size) w'.heap s g.2):=by
 cases hg:formI z with
 | none=>exact ⟨[],⟨none,0,0⟩,false,forms_no (FormsR.ext h x fun _ _=>id) (formI_none hg), .inl ⟨rfl,rfl⟩⟩
 | some g =>
  obtain ⟨k,rfl,hk⟩:=formI_nat hg
  obtain ⟨s,h1,h2,_⟩:=forms_at2 h hk x
  exact ⟨g.1,s,true,h2, .inr ⟨g,rfl,rfl,rfl,h1⟩⟩
theorem mayCall_spec{va:CallV}{c:CallP}{Q:Nat->Prop}{K:Bool->Wd->Prop}(g:Gl w.heap)(h8:8<=w.heap.size)(r:CallR Q w.heap va c)(rg:RngC c)(hl:c.ops.length<=1000000000000000000)(k:∀ r w',(r=true ↔ MayC c)->Ext No w w'->K r w') :
  C_play_mayCall va.kind va.tenant va.secret va.quota va.n va.handle va.other va.snap va.rights va.ops va.key va.frm va.upto va.back w K:=by
 apply S_play_mayCall
 refine NewW.mk fun b w1 n1=>?_
 have hv:Held (Ext No w1) (Addr.mk b 0 none) (.int .i64 va.kind):=Held.cell (Cell.lst n1.get rfl)
 have z1:=n1.size
 have tail:∀{b1:Nat}{wd:Bs}{s:Sl}{ok:Bool}{Qf:Nat->Prop}{w5:Wd},Ext No w w5->Ext No w1 w5->w5.heap[b1]? = some (.cells [.string (stB wd), .slice s.a s.len s.cap].toArray 59 (0,0)) ->
   ((ok=false/\formI va.kind=none)∨∃ g,formI va.kind=some g/\ok=true/\wd=g.1/\FldsR Qf w5.heap s g.2)->TailMay b b1 ok w5 K:=fun {b1 wd s ok Qf w5} x x1 hb1 h=>by
  rcases h with ⟨rfl,hn⟩ | ⟨gf,hg,rfl,rfl,hf⟩
  .refine tail_no (k _ _ ⟨(fun h=>by cases h),fun ⟨g,h,_⟩=>?_⟩ x)
   rw [r.kind] at hn
   rw [hn] at h; cases h
  .obtain ⟨kk,e,hk⟩:=formI_nat hg
   have hok:=formP_ok kk gf hk
   refine tail_may (get_no n1.get x1) hb1 hf (g.no x) (by have:=x.size; omega) (r.no x) rg hok.1 hok.2 hl fun r' w6 h x6=>k r' w6 (h.trans ⟨fun ⟨h1,h2⟩=>⟨gf,r.kind ▸ hg,h1,h2⟩,fun ⟨g',h1,h2,h3⟩=>?_⟩) (x.no x6)
   rw [r.kind,h1] at hg; cases hg
   exact ⟨h2,h3⟩
 have set59:∀{b1:Nat}{a b':Wd}{wd:Bs}{s:Sl}{K:Wd->Prop},a.heap[b1]? = some (.cells [.string ⟨#[]⟩, .slice none 0 0].toArray 59 (0,0))->(∀ w',w'.heap[b1]? = some (.cells [.string (stB wd), .slice s.a s.len s.cap].toArray 59 (0,0))->Ext (·=b1) a w'->K w')->StN a (Addr.mk b1 0 none) [.string (stB wd), .slice s.a s.len s.cap] K:=fun h k=>StN.all h rfl (by intro v hv; simp at hv; rcases hv with rfl | rfl <;> rfl) fun w' g x _=>k w' g x
 refine ⟨Ext No w1,(Ext.refl _ _).drew,va.kind,hv,?_,?_⟩
 .refine forms_spec fun r2 w2 f2 x2=>⟨x2.drew_left,?_,?_⟩
  .obtain ⟨wd,s,ok,hr,hh⟩:=look_form (z:=va.kind) f2 (Ext.refl _ _)
   refine ⟨stB wd,s,ok,w2,hr,x2.drew_left,NewW.mk fun b1 w4 n4=>⟨x2.drew_left.no n4.ext,rfl,set59 (b':=w4) n4.get fun w5 g5 x5=>?_⟩⟩
   have hb1:=n4.at_
   have x25:Ext No w2 w5:=n4.ext.trans x5 fun q hq h=>by omega
   have x15:=x2.drew_left.no x25
   exact ⟨x15,tail (n1.ext.no x15) x15 g5 (hh.imp id fun ⟨g,h1,h2,h3,h4⟩=>⟨g,h1,h2,h3,h4.ext x25 fun _ _=>id⟩)⟩
  .refine NewW.mk fun b1 w4 n4=>⟨x2.drew_left.no n4.ext,?_⟩
   have hb1:=n4.at_
   obtain ⟨wd,s,ok,hr,hh⟩:=look_form (z:=va.kind) f2 n4.ext
   refine ⟨stB wd,s,ok,w4,hr,x2.drew_left.no n4.ext,rfl,set59 (b':=w4) n4.get fun w5 g5 x5=>?_⟩
   have x25:Ext No w2 w5:=n4.ext.trans x5 fun q hq h=>by omega
   have x15:=x2.drew_left.no x25
   exact ⟨x15,tail (n1.ext.no x15) x15 g5 (hh.imp id fun ⟨g,h1,h2,h3,h4⟩=>⟨g,h1,h2,h3,h4.ext x5 fun q hq h=>by omega⟩)⟩
 .refine NewW.mk fun b1 w4 n4=>?_
  have x14:Ext No w1 w4:=n4.ext.drew_left
  have hb1:=n4.at_; have z4:=n4.size
  refine ⟨x14,forms_spec fun r2 w2 f2 x2=>⟨x14.no x2,?_⟩⟩
  obtain ⟨wd,s,ok,hr,hh⟩:=look_form (z:=va.kind) f2 (Ext.refl _ _)
  refine ⟨stB wd,s,ok,w2,hr,x14.no x2,rfl,set59 (b':=w4) (get_no n4.get x2) fun w5 g5 x5=>?_⟩
  have x15:Ext No w1 w5:=(x14.no x2).trans x5 fun q hq h=>by rw [hb1] at h; simp only [drewW] at h; omega
  exact ⟨x15,tail (n1.ext.no x15) x15 g5 (hh.imp id fun ⟨g,h1,h2,h3,h4⟩=>⟨g,h1,h2,h3,h4.ext x5 fun q hq h=>by omega⟩)⟩
end
end Go.Proofs.YtimonamjecmlcaaGreatDoor
namespace Go.V
structure EvP where
 kind:Int
 call:CallP
 n:Int
 block:Int
 masks:Bs
 bytes:Bs
structure EvV where
 kind:Int
 call:CallV
 n:Int
 block:Int
 masks:Sl
 bytes:Sl
abbrev EvV.post(v:EvV):List Value:=[.int .i64 v.n, .int .i64 v.block, .slice v.masks.a v.masks.len v.masks.cap, .slice v.bytes.a v.bytes.len v.bytes.cap]
def EvV.cells(v:EvV):List Value := .int .i64 v.kind::(v.call.cells++v.post)
theorem EvV.one(v:EvV):∀ x∈v.cells,oneC x=true:=by
 intro x hx
 simp only [EvV.cells,List.mem_cons,List.mem_append,List.not_mem_nil,or_false] at hx
 rcases hx with rfl | hx | rfl | rfl | rfl | rfl
 .rfl
 .exact v.call.one x hx
 all_goals rfl
structure EvR(Q:Nat->Prop)(h:Array Obj)(v:EvV)(e:EvP):Prop where
 kind:v.kind=e.kind
 call:CallR Q h v.call e.call
 n:v.n=e.n
 block:v.block=e.block
 masks:RdQ Q h v.masks e.masks
 bytes:RdQ Q h v.bytes e.bytes
theorem EvR.ext{Q S:Nat->Prop}{w w':Wd}{v:EvV}{e:EvP}(r:EvR Q w.heap v e)(x:Ext S w w')(h:∀ b,Q b->¬ S b):EvR Q w'.heap v e:=⟨r.kind,r.call.ext x h,r.n,r.block,r.masks.ext x h,r.bytes.ext x h⟩
theorem EvR.no{Q:Nat->Prop}{w w':Wd}{v:EvV}{e:EvP}(r:EvR Q w.heap v e)(x:Ext No w w'):EvR Q w'.heap v e:=r.ext x fun _ _=>id
theorem CallR.mono{Q Q':Nat->Prop}{h:Array Obj}{v:CallV}{c:CallP}(r:CallR Q h v c)(hq:∀ b,Q b->Q' b):CallR Q' h v c:=by
 obtain ⟨L,h1,h2,h3,h4⟩:=r.ops
 exact ⟨r.kind,r.tenant,r.secret.mono hq,r.quota,r.n,r.handle,r.other,r.snap,r.rights,⟨L,h1,h2,fun hne b hb=>hq b (h3 hne b hb),fun e he=>(h4 e he).mono hq⟩,r.key.mono hq,r.frm.mono hq,r.upto.mono hq,r.back⟩
theorem CallR.zero(Q:Nat->Prop)(h:Array Obj)(k:Int):CallR Q h (callV0 k) (callP0 k):=(CallD.zero Q 0 h k).rd.mono fun _ h=>h
def MayE(e:EvP):Prop :=
 (e.kind=1/\e.n=0/\e.masks=[]/\(e.block=0/\e.bytes=[])/\MayC e.call) ∨
 ((e.kind=2∨e.kind=3)/\e.call=callP0 0/\e.masks=[]/\(e.block=0/\e.bytes=[])/\(0<=e.n/\e.n<=1073741824)) ∨
 (e.kind=4/\e.call=callP0 0/\e.n=0/\(e.block=0/\e.bytes=[])/\e.masks.length<=1000/\∀ m∈e.masks,m.toNat<=15) ∨
 (e.kind=5/\e.call=callP0 0/\e.n=0/\e.masks=[]/\(e.block=0/\e.bytes=[])) ∨
 (e.kind=6/\e.call=callP0 0/\e.masks=[]/\(0<=e.n/\e.n<=1073741824)/\(0<=e.block/\e.block<=4095)/\0 < e.bytes.length/\e.bytes.length<=256)
section
variable {e:EvP}
theorem mayE_1(h:e.kind=1):MayE e ↔ (e.n=0/\e.masks=[]/\(e.block=0/\e.bytes=[])/\MayC e.call):=by
 constructor
 .rintro (h1 | h1 | h1 | h1 | h1)
  .exact h1.2
  all_goals (exfalso; have:=h1.1; omega)
 .exact fun h1 => .inl ⟨h,h1⟩
theorem mayE_2(h:e.kind=2∨e.kind=3):MayE e ↔ (e.call=callP0 0/\e.masks=[]/\(e.block=0/\e.bytes=[])/\(0<=e.n/\e.n<=1073741824)):=by
 constructor
 .rintro (h1 | h1 | h1 | h1 | h1)
  .exfalso; have:=h1.1; omega
  .exact h1.2
  all_goals (exfalso; have:=h1.1; omega)
 .exact fun h1 => .inr (.inl ⟨h,h1⟩)
theorem mayE_4(h:e.kind=4):MayE e ↔ (e.call=callP0 0/\e.n=0/\(e.block=0/\e.bytes=[])/\e.masks.length<=1000/\∀ m∈e.masks,m.toNat<=15):=by
 constructor
 .rintro (h1 | h1 | h1 | h1 | h1)
  .exfalso; have:=h1.1; omega
  .exfalso; have:=h1.1; omega
  .exact h1.2
  all_goals (exfalso; have:=h1.1; omega)
 .exact fun h1 => .inr (.inr (.inl ⟨h,h1⟩))
theorem mayE_5(h:e.kind=5):MayE e ↔ (e.call=callP0 0/\e.n=0/\e.masks=[]/\(e.block=0/\e.bytes=[])):=by
 constructor
 .rintro (h1 | h1 | h1 | h1 | h1)
  .exfalso; have:=h1.1; omega
  .exfalso; have:=h1.1; omega
  .exfalso; have:=h1.1; omega
  .exact h1.2
  .exfalso; have:=h1.1; omega
 .exact fun h1 => .inr (.inr (.inr (.inl ⟨h,h1⟩)))
theorem mayE_6(h:e.kind=6):MayE e ↔ (e.call=callP0 0/\e.masks=[]/\(0<=e.n/\e.n<=1073741824)/\(0<=e.block/\e.block<=4095)/\0 < e.bytes.length/\e.bytes.length<=256):=by
 constructor
 .rintro (h1 | h1 | h1 | h1 | h1)
  .exfalso; have:=h1.1; omega
  .exfalso; have:=h1.1; omega
  .exfalso; have:=h1.1; omega
  .exfalso; have:=h1.1; omega
  .exact h1.2
 .exact fun h1 => .inr (.inr (.inr (.inr ⟨h,h1⟩)))
theorem mayE_no(h:e.kind≠1/\e.kind≠2/\e.kind≠3/\e.kind≠4/\e.kind≠5/\e.kind≠6):¬ MayE e:=by
 rintro (h1 | h1 | h1 | h1 | h1) <;> (have:=h1.1; omega)
end
end Go.V
namespace Go.Proofs.YtimonamjecmlcaaGreatDoor
open Go.V
section
variable {w:Wd} {Q:Nat->Prop}
theorem anyMask{x:Sl}{l:Bs}{K:Bool->Wd->Prop}(r:RdB w.heap x l)(hl:l.length<=1000000)(k:∀ r w',(r=false ↔ ∀ m∈l,m.toNat<=15)->Ext No w w'->K r w'):C_slices_ContainsFunc_byte_byte x (fnV 37) w K:=by
  apply S_slices_ContainsFunc_byte_byte
  apply S_slices_IndexFunc_byte_byte
  have la:=RdB.len r
  refine ⟨fun m t w'=>∃ j:Nat,t=j/\j<=l.length/\m=l.length - j/\(∀ m∈l.take j,m.toNat<=15)/\w'=w,⟨_,0,rfl,Nat.zero_le _,rfl,by simp,rfl⟩,?_⟩
  rintro _ m0 _ w ⟨j,rfl,hj,rfl,he,rfl⟩
  refine If.dec (fun h=>?_) fun h=>?_
  · refine ixB r (by omega) h fun b o hi _ hc=>⟨_,hc,V_play_May_1 (by
      apply S_play_May_1
      have hjl:j < l.length:=hi
      have el:l[((j:Nat):Int).toNat]'hi=l[j]:=rfl
      rw [el]
      refine If.dec (fun h=>?_) fun h=>Ar.i64 (by omega) ⟨_,by omega,j+1,by omega,by omega,rfl,fun m hm=>?_,rfl⟩
      · refine k (decide ((j:Int)≥0)) w ⟨fun h1=>?_,fun h1=>?_⟩ (Ext.refl _ _)
        · have:=of_decide_eq_false h1; omega
        · have:=h1 _ (List.getElem_mem hjl); omega
      · rw [take_snoc hjl] at hm
        rcases List.mem_append.1 hm with h1 | h1
        · exact he m h1
        · rw [List.mem_singleton] at h1; subst h1; omega)⟩
  · have hjn:j=l.length:=by omega
    rw [hjn,List.take_length] at he
    exact k (decide ((-1:Int)≥0)) w ⟨fun _=>he,fun _=>by decide⟩ (Ext.refl _ _)
set_option maxHeartbeats 1000000 in
theorem may_spec{v:EvV}{e:EvP}{K:Bool->Wd->Prop}(g:Gl w.heap)(h8:8<=w.heap.size)(r:EvR Q w.heap v e)(rg:RngC e.call)(hl:e.call.ops.length<=1000000000000000000)(k:∀ r w',(r=true ↔ MayE e)->Ext No w w'->K r w') :
  C_play_May v.kind v.call.kind v.call.tenant v.call.secret v.call.quota v.call.n v.call.handle v.call.other v.call.snap v.call.rights v.call.ops v.call.key v.call.frm v.call.upto v.call.back v.n v.block v.masks v.bytes w K:=by
 apply S_play_May
 refine NewW.mk fun b w1 n1=>?_
 have z1:=n1.size
 have lm:=RdB.len r.masks.rd; have lb:=RdB.len r.bytes.rd
 have zm:((v.masks.len:Int) == 0)=true ↔ e.masks=[]:=by rw [beq_iff_eq,<- List.length_eq_zero_iff]; omega
 have zb:((v.bytes.len:Int) == 0)=true ↔ e.bytes=[]:=by rw [beq_iff_eq,<- List.length_eq_zero_iff]; omega
 have hv:∀{j x},v.cells[j]? = some x->Held (Ext No w1) ⟨b,j,none⟩ x:=fun h=>Held.cell (Cell.lst n1.get h)
 refine ⟨fun call n masks rest w'=>(call=true ↔ e.call=callP0 0)/\(n=true ↔ e.n=0)/\(masks=true ↔ e.masks=[])/\(rest=true ↔ e.block=0/\e.bytes=[])/\Ext No w1 w',?_,?_⟩
 .refine ⟨Ext No w1,(Ext.refl _ _).drew,v.call.kind,hv rfl,v.call.tenant,hv rfl,v.call.secret,hv rfl,v.call.quota,hv rfl,v.call.n,hv rfl,v.call.handle,hv rfl,v.call.other,hv rfl,v.call.snap,hv rfl,v.call.rights,hv rfl,v.call.ops,hv rfl,v.call.key,hv rfl,v.call.frm,hv rfl,v.call.upto,hv rfl,v.call.back,hv rfl,v.n,hv rfl,v.masks,hv rfl,v.block,hv rfl,?_⟩
  refine same_spec (w:=drewW w1) (Q':=fun _=>True) (vb:=callV0 0) (b:=callP0 0) (r.call.no n1.ext.drew) (CallR.zero _ _ 0) hl fun r1 w2 h1 x2=>⟨x2.drew_left,?_⟩
  refine If.beq (fun hb=>⟨v.bytes,hv rfl,h1,by rw [beq_iff_eq,r.n],zm,?_,x2.drew_left⟩) fun hb=>⟨h1,by rw [beq_iff_eq,r.n],zm,?_,x2.drew_left⟩
  .rw [zb]; rw [r.block] at hb; exact ⟨fun h=>⟨hb,h⟩,fun h=>h.2⟩
  .rw [r.block] at hb; exact ⟨(fun h=>by cases h),fun h=>(hb h.1).elim⟩
 rintro _ call n masks rest w3 ⟨hc,hn,hm,hr,x3⟩
 have c3:∀{j x},v.cells[j]? = some x->Cell w3 ⟨b,j,none⟩ x:=fun h=>Cell.lst (get_no n1.get x3) h
 have x03:=n1.ext.no x3
 have r3:=r.no x03
 have no:∀{w'},Ext No w w'->¬ MayE e->K false w':=fun x h=>k _ _ ⟨(fun h=>by cases h),fun h2=>(h h2).elim⟩ x
 refine ⟨v.kind,c3 rfl,If.beq (fun k1=>?_) fun k1=>?_⟩
 .rw [r.kind] at k1
  refine If.cases (fun hn'=>If.cases (fun hm'=>If.cases (fun hr'=>?_) fun h=>?_) fun h=>?_) fun h=>?_
  .refine ⟨v.call.kind,c3 rfl,v.call.tenant,c3 rfl,v.call.secret,c3 rfl,v.call.quota,c3 rfl,v.call.n,c3 rfl,v.call.handle,c3 rfl,v.call.other,c3 rfl,v.call.snap,c3 rfl,v.call.rights,c3 rfl,v.call.ops,c3 rfl,v.call.key,c3 rfl,v.call.frm,c3 rfl,v.call.upto,c3 rfl,v.call.back,c3 rfl,?_⟩
   refine mayCall_spec (g.no x03) (by have:=x03.size; omega) r3.call rg hl fun r4 w4 h4 x4=>k r4 w4 ?_ (x03.no x4)
   rw [h4,mayE_1 k1]
   exact ⟨fun h=>⟨hn.1 hn',hm.1 hm',hr.1 hr',h⟩,fun h=>h.2.2.2⟩
  .exact no x03 fun h2=>by have:=hr.2 ((mayE_1 k1).1 h2).2.2.1; rw [h] at this; cases this
  .exact no x03 fun h2=>by have:=hm.2 ((mayE_1 k1).1 h2).2.1; rw [h] at this; cases this
  .exact no x03 fun h2=>by have:=hn.2 ((mayE_1 k1).1 h2).1; rw [h] at this; cases this
 refine ⟨fun t w'=>t=decide (e.kind=2∨e.kind=3)/\w'=w3,If.beq (fun k2=>⟨?_,rfl⟩) fun k2=>⟨?_,rfl⟩,?_⟩
 .rw [r.kind] at k2
  rw [decide_eq_true (.inl k2),r.kind,k2]; rfl
 .rw [r.kind] at k2 ⊢
  by_cases h3:e.kind=3
  .rw [decide_eq_true (.inr h3),h3]; rfl
  .rw [decide_eq_false (by omega)]; exact beq_eq_false_iff_ne.2 h3
 rintro _ _ w3 ⟨rfl,rfl⟩
 refine If.dec (fun k2=>?_) fun k2=>?_
 .refine If.cases (fun hc'=>If.cases (fun hm'=>If.cases (fun hr'=>⟨v.n,c3 rfl,within_spec (k _ _ ?_ x03)⟩) fun h=>?_) fun h=>?_) fun h=>?_
  .rw [decide_eq_true_eq,mayE_2 k2,r.n]
   exact ⟨fun h=>⟨hc.1 hc',hm.1 hm',hr.1 hr',h⟩,fun h=>h.2.2.2⟩
  .exact no x03 fun h2=>by have:=hr.2 ((mayE_2 k2).1 h2).2.2.1; rw [h] at this; cases this
  .exact no x03 fun h2=>by have:=hm.2 ((mayE_2 k2).1 h2).2.1; rw [h] at this; cases this
  .exact no x03 fun h2=>by have:=hc.2 ((mayE_2 k2).1 h2).1; rw [h] at this; cases this
 refine If.beq (fun k4=>?_) fun k4=>?_
 .rw [r.kind] at k4
  refine If.cases (fun hc'=>If.cases (fun hn'=>If.cases (fun hr'=>⟨v.masks,c3 rfl,If.dec (fun hl4=>⟨v.masks,c3 rfl,anyMask r3.masks.rd (by omega) fun r5 w5 h5 x5=>k _ _ ?_ (x03.no x5)⟩) fun hl4=>?_⟩) fun h=>?_) fun h=>?_) fun h=>?_
  .rw [Bool.not_eq_true',h5,mayE_4 k4]
   exact ⟨fun h=>⟨hc.1 hc',hn.1 hn',hr.1 hr',by omega,h⟩,fun h=>h.2.2.2.2⟩
  .exact no x03 fun h2=>by have:=((mayE_4 k4).1 h2).2.2.2.1; omega
  .exact no x03 fun h2=>by have:=hr.2 ((mayE_4 k4).1 h2).2.2.1; rw [h] at this; cases this
  .exact no x03 fun h2=>by have:=hn.2 ((mayE_4 k4).1 h2).2.1; rw [h] at this; cases this
  .exact no x03 fun h2=>by have:=hc.2 ((mayE_4 k4).1 h2).1; rw [h] at this; cases this
 refine If.beq (fun k5=>?_) fun k5=>?_
 .rw [r.kind] at k5
  refine If.cases (fun hc'=>If.cases (fun hn'=>If.cases (fun hm'=>k _ _ ?_ x03) fun h=>?_) fun h=>?_) fun h=>?_
  .rw [hr,mayE_5 k5]
   exact ⟨fun h=>⟨hc.1 hc',hn.1 hn',hm.1 hm',h⟩,fun h=>h.2.2.2⟩
  .exact no x03 fun h2=>by have:=hm.2 ((mayE_5 k5).1 h2).2.2.1; rw [h] at this; cases this
  .exact no x03 fun h2=>by have:=hn.2 ((mayE_5 k5).1 h2).2.1; rw [h] at this; cases this
  .exact no x03 fun h2=>by have:=hc.2 ((mayE_5 k5).1 h2).1; rw [h] at this; cases this
 refine If.beq (fun k6=>?_) fun k6=>?_
 .rw [r.kind] at k6
  refine If.cases (fun hc'=>If.cases (fun hm'=>⟨v.n,c3 rfl,within_spec (If.dec (fun h6=>⟨v.block,c3 rfl,within_spec (If.dec (fun h7=>⟨v.bytes,c3 rfl,If.dec (fun h8=>⟨v.bytes,c3 rfl,k _ _ ?_ x03⟩) fun h=>?_⟩) fun h=>?_)⟩) fun h=>?_)⟩) fun h=>?_) fun h=>?_
  .rw [decide_eq_true_eq,mayE_6 k6]
   rw [r.n] at h6; rw [r.block] at h7
   exact ⟨fun h=>⟨hc.1 hc',hm.1 hm',h6,h7,by omega,by omega⟩,fun h=>by have:=h.2.2.2.2.2; omega⟩
  .exact no x03 fun h2=>by have:=((mayE_6 k6).1 h2).2.2.2.2.1; omega
  .exact no x03 fun h2=>h (by rw [r.block]; exact ((mayE_6 k6).1 h2).2.2.2.1)
  .exact no x03 fun h2=>h (by rw [r.n]; exact ((mayE_6 k6).1 h2).2.2.1)
  .exact no x03 fun h2=>by have:=hm.2 ((mayE_6 k6).1 h2).2.1; rw [h] at this; cases this
  .exact no x03 fun h2=>by have:=hc.2 ((mayE_6 k6).1 h2).1; rw [h] at this; cases this
 .rw [r.kind] at k4 k5 k6
  exact no x03 (mayE_no ⟨by rw [r.kind] at k1; exact k1,by omega,by omega,k4,k5,k6⟩)
end
end Go.Proofs.YtimonamjecmlcaaGreatDoor
namespace Go.V
def wfail:Bs:=[102,97,105,108]
def wcut:Bs:=[99,117,116]
def wcrash:Bs:=[99,114,97,115,104]
def wopen:Bs:=[111,112,101,110]
def wforeign:Bs:=[102,111,114,101,105,103,110]
def maskW(l:Bs):Bs:=if l=[] then [45] else l.map fun m=>hexD m.toNat
def wordsE(e:EvP):List Bs :=
 if e.kind=1 then (match formI e.call.kind with
  | some g=>g.1::telFs g.2 e.call
  | none=>[])
 else if e.kind=2 then [wfail,decB e.n.toNat]
 else if e.kind=3 then [wcut,decB e.n.toNat]
 else if e.kind=4 then [wcrash,maskW e.masks]
 else if e.kind=6 then [wforeign,decB e.block.toNat,decB e.n.toNat,hexW e.bytes]
 else [wopen]
def lineE(e:EvP):Bs:=joinB 32 (wordsE e)
end Go.V
namespace Go.Proofs.YtimonamjecmlcaaGreatDoor
open Go.V
section
variable {w:Wd}
theorem growW{n:Nat}{K:Sl->Wd->Prop}(h0:0 < n)(hn:n<=1000000)(k:∀ s w',OwnW w'.heap w.heap.size s []->Ext No w w'->K s w'):C_slices_Grow_string_string ⟨none,0,0⟩ (n:Int) w K:=by
 apply S_slices_Grow_string_string
 refine ⟨fun w'=>w'=w,If.dec (fun h=>by omega) fun _=>rfl,?_⟩
 rintro _ w ⟨⟩
 refine Ar.i64 (by simp) (Ar.i64 (by simp only; omega) (If.dec (fun _=>?_) fun h=>by simp only at h; omega))
 refine Cut.mk (Int.le_refl _) (by simp) (by simp) (by simp) ?_
 have e:((n:Int) - (((0:Nat):Int) - ((0:Nat):Int)))=(n:Int):=by simp
 simp only [cutA]
 show AppW pz 56 3 ⟨none,0,0⟩ (.int .i64 ((n:Int) - (((0:Nat):Int) - ((0:Nat):Int)))) _ w
 rw [e]
 refine app_made (e:=9) (k := .i64) (ie:=Tryz.t9) (z := .string ⟨#[]⟩) (by kernel_rfl) (by kernel_rfl) (by kernel_rfl) (by kernel_rfl) (by kernel_rfl) (by kernel_rfl) rfl (by rw [show Tryz.t9.bytes=16 by kernel_rfl]; decide) h0 (by rw [show Tryz.t9.bytes=16 by kernel_rfl]; omega) fun s' w' o x=>?_
 exact Own.pre o (by simp) (by simp) fun s3 o3 _ _ _=>k _ _ (by show Own _ _ 9 1 s3 []; simpa using o3) x
abbrev rowV(p:Sl×List Bs):Value := .slice p.1.a p.1.len p.1.cap
theorem concatW{sl:Sl}{ps:List (Sl×List Bs)}{K:Sl->Wd->Prop}(hs:Rd w.heap sl 1 (ps.map rowV))(hp:∀ p∈ps,RdW w.heap p.1 p.2)(h0:0 < (ps.flatMap Prod.snd).length)(hb:(ps.flatMap Prod.snd).length<=100000)
  (hn:ps.length<=100000) (k:∀ s w',OwnW w'.heap w.heap.size s (ps.flatMap Prod.snd)->Ext No w w'->K s w'):C_slices_Concat_string_string sl w K:=by
 apply S_slices_Concat_string_string
 have hl:sl.len=ps.length:=by have:=hs.len; simp at this; exact this.symm
 have hle:∀ j,((ps.take j).flatMap Prod.snd).length<=100000:=fun j=>by
  refine Nat.le_trans ?_ hb
  conv=>rhs; rw [<- List.take_append_drop j ps]
  rw [List.flatMap_append,List.length_append]; omega
 have hsnoc:∀ j (h:j < ps.length),(ps.take (j+1)).flatMap Prod.snd=(ps.take j).flatMap Prod.snd++ps[j].2:=fun j h=>by
  rw [take_snoc h,List.flatMap_append]; simp
 refine ⟨fun m n t w'=>w'=w/\∃ j:Nat,t=j/\j<=ps.length/\m=ps.length - j/\n=(((ps.take j).flatMap Prod.snd).length:Int),⟨ps.length,rfl,0,rfl,by omega,by omega,by simp⟩,?_⟩
 rintro _ m0 _ _ w ⟨rfl,j,rfl,hj,hm,rfl⟩
 refine If.dec (fun h=>Ix.cell hs (by omega) (by omega) fun bb o v _ hv hc=>?_) (fun h=>?_)
 .have hj':j < ps.length:=by omega
  rw [Int.toNat_natCast,List.getElem?_map,List.getElem?_eq_getElem hj'] at hv
  cases hv
  have hlen:=RdW.len (hp _ (List.getElem_mem hj'))
  have h1:=hle (j+1)
  rw [hsnoc j hj',List.length_append] at h1
  refine ⟨_,hc,Ar.i64 (by omega) (If.dec (fun h=>by omega) (fun _=>Ar.i64 (by omega) ⟨ps.length - (j+1),by omega,rfl,j+1,by omega,by omega,rfl,?_⟩))⟩
  rw [hsnoc j hj',List.length_append,hlen]; omega
 .have e:j=ps.length:=by omega
  rw [e,List.take_length]
  refine growW h0 (by omega) fun s0 w2 o2 x2=>?_
  refine ⟨fun m s t w'=>∃ j:Nat,t=j/\j<=ps.length/\m=ps.length - j/\OwnW w'.heap w.heap.size s ((ps.take j).flatMap Prod.snd)/\Ext No w w',⟨ps.length,0,rfl,by omega,by omega,by simpa using o2,x2⟩,?_⟩
  rintro _ m1 s1 _ w3 ⟨i,rfl,hi,hm1,o3,x3⟩
  refine If.dec (fun h=>Ix.cell (hs.no x3) (by omega) (by omega) fun bb o v _ hv hc=>?_) (fun h=>?_)
  .have hi':i < ps.length:=by omega
   rw [Int.toNat_natCast,List.getElem?_map,List.getElem?_eq_getElem hi'] at hv
   cases hv
   have hr:=hp _ (List.getElem_mem hi')
   have hlen:=RdW.len hr
   have h1:=hle (i+1)
   rw [hsnoc i hi',List.length_append] at h1
   have h2:=OwnW.len o3
   refine ⟨_,hc,app_string o3 (x3.size) (Rd.no hr x3).src (by omega) fun s' w' o' _ x' _=>Ar.i64 (by omega) ⟨ps.length - (i+1),by omega,i+1,by omega,by omega,rfl,?_,x3.trans x' fun q hq hh=>?_⟩⟩
   .rw [<- List.map_append,<- hsnoc i hi'] at o'; exact o'
   .have:=(o3.lt hh).1; omega
  .have e:i=ps.length:=by omega
   rw [e,List.take_length] at o3
   exact k _ _ o3 x3
theorem two_words{x y:Bs}{b:Nat}{s:Sl}{K:Sl->Wd->Prop}{w1:Wd}(n:New w (.cells (strW [x]).toArray 9) b w1){w2:Wd}(x2:Ext No w1 w2)(r:RdW w2.heap s [y])(k:∀ s' w',OwnW w'.heap w.heap.size s' [x,y]->Ext No w w'->K s' w'):AppW pz 56 56 ⟨some (Addr.mk b 0 none),1,1⟩ (.slice s.a s.len s.cap) K w2:=by
 have o:OwnW w1.heap w.heap.size ⟨some ⟨b,0,none⟩,1,1⟩ [x]:=Own.new n rfl (strW_one _)
 have hl:=RdW.len r
 have x02:=n.ext.no x2
 refine app_string (o.no x2) x02.size r.src (by rw [hl]; simp) fun s' w' o' _ x' _=>k s' w' o' (x02.trans x' fun q hq h=>?_)
 simp [Sl.blk] at h; have:=n.at_; omega
theorem foreign_tail{s1 s2 s3 s4:Sl}{x1 x2 x3 x4:Bs}{S:Wd->Prop}{K:ByteArray->Int->Wd->Prop}(r1:RdW w.heap s1 [x1])(r2:RdW w.heap s2 [x2])(r3:RdW w.heap s3 [x3])(r4:RdW w.heap s4 [x4])(hl:lenW [x1,x2,x3,x4]<=100000)(hS:∀ w',Ext No w w'->S w')
  (k:∀ w',Ext No w w'->K (stB (joinB 32 [x1,x2,x3,x4])) 0 w'):NewW w (.cells [.slice s1.a s1.len s1.cap, .slice s2.a s2.len s2.cap, .slice s3.a s3.len s3.cap, .slice s4.a s4.len s4.cap].toArray 56) fun b w30=>S w30 /\
   C_slices_Concat_string_string ⟨some (Addr.mk b 0 none),4,4⟩ w30 fun r w31=>S w31/\C_strings_Join r ⟨#[32]⟩ w31 fun r w32=>K r 0 w32:=by
 refine NewW.mk fun b w1 n1=>⟨hS _ n1.ext,?_⟩
 have o1:Own w1.heap w.heap.size 56 1 ⟨some ⟨b,0,none⟩,4,4⟩ ([(s1,[x1]),(s2,[x2]),(s3,[x3]),(s4,[x4])].map rowV):=Own.new n1 rfl (by intro v hv; simp at hv; rcases hv with rfl | rfl | rfl | rfl <;> rfl)
 refine concatW o1.rd (fun p hp=>?_) (by simp) (by simp) (by simp) fun s w2 o2 y2=>⟨hS _ (n1.ext.no y2),?_⟩
 .simp only [List.mem_cons,List.not_mem_nil,or_false] at hp
  rcases hp with rfl | rfl | rfl | rfl
  .exact r1.no n1.ext
  .exact r2.no n1.ext
  .exact r3.no n1.ext
  .exact r4.no n1.ext
 .exact join_spec (c:=32) o2.rd (by simp) (by show lenW [x1,x2,x3,x4]<=_; omega) fun w3 y3=>k w3 ((n1.ext.no y2).no y3)
end
end Go.Proofs.YtimonamjecmlcaaGreatDoor
namespace Go.V
theorem lenW_le{W:List Bs}{M:Nat}(h:∀ x∈W,x.length<=M):lenW W<=W.length * M:=by
 induction W with
 | nil=>simp [lenW]
 | cons x W ih =>
  have h1:=ih fun y hy=>h y (by simp [hy])
  have h2:=h x (by simp)
  simp only [lenW,List.map_cons,List.sum_cons,List.length_cons] at h1 ⊢
  rw [Nat.add_mul]; omega
theorem formP_wd:∀ k g,formP k=some g->g.1.length<=10:=by
 intro k g h
 match k,h with
 | 1,h | 2,h | 3,h | 4,h | 5,h | 6,h | 7,h | 8,h | 9,h | 10,h | 11,h | 12,h | 13,h | 14,h | 15,h | 16,h=>cases h; decide
 | 0,h=>cases h
 | n+17,h=>cases h
theorem wordsE_1{e:EvP}{g:Bs×List FId}(h:e.kind=1)(hg:formI e.call.kind=some g):wordsE e=g.1::telFs g.2 e.call:=by
 unfold wordsE; rw [if_pos h,hg]
theorem wordsE_2{e:EvP}(h:e.kind=2):wordsE e=[wfail,decB e.n.toNat]:=by unfold wordsE; rw [if_neg (by omega),if_pos h]
theorem wordsE_3{e:EvP}(h:e.kind=3):wordsE e=[wcut,decB e.n.toNat]:=by unfold wordsE; rw [if_neg (by omega),if_neg (by omega),if_pos h]
theorem wordsE_4{e:EvP}(h:e.kind=4):wordsE e=[wcrash,maskW e.masks]:=by unfold wordsE; rw [if_neg (by omega),if_neg (by omega),if_neg (by omega),if_pos h]
theorem wordsE_6{e:EvP}(h:e.kind=6):wordsE e=[wforeign,decB e.block.toNat,decB e.n.toNat,hexW e.bytes]:=by unfold wordsE; rw [if_neg (by omega),if_neg (by omega),if_neg (by omega),if_neg (by omega),if_pos h]
theorem wordsE_5{e:EvP}(h:e.kind=5):wordsE e=[wopen]:=by unfold wordsE; rw [if_neg (by omega),if_neg (by omega),if_neg (by omega),if_neg (by omega),if_neg (by omega)]
end Go.V
namespace Go.Proofs.YtimonamjecmlcaaGreatDoor
open Go.V
section
variable {w:Wd} {Q:Nat->Prop}
set_option maxHeartbeats 2000000 in
theorem line_spec{v:EvV}{e:EvP}{K:ByteArray->Int->Wd->Prop}(g:Gl w.heap)(h8:8<=w.heap.size)(r:EvR Q w.heap v e)(rg:RngC e.call)(hl:e.call.ops.length<=1000000000000000000)
  (k0:∀ w',MayE e->Ext No w w'->K (stB (lineE e)) 0 w') (k1:∀ w',¬ MayE e->Ext No w w'->K (stB []) 2 w') :
  C_play_Line v.kind v.call.kind v.call.tenant v.call.secret v.call.quota v.call.n v.call.handle v.call.other v.call.snap v.call.rights v.call.ops v.call.key v.call.frm v.call.upto v.call.back v.n v.block v.masks v.bytes w K:=by
 apply S_play_Line
 refine NewW.mk fun b w1 n1=>?_
 have z1:=n1.size
 have c1:∀{w':Wd}{j x},Ext No w1 w'->v.cells[j]? = some x->Cell w' ⟨b,j,none⟩ x:=fun x h=>Cell.lst (get_no n1.get x) h
 have rr:=Ext.refl No w1
 refine ⟨v.kind,c1 rr rfl,v.call.kind,c1 rr rfl,v.call.tenant,c1 rr rfl,v.call.secret,c1 rr rfl,v.call.quota,c1 rr rfl,v.call.n,c1 rr rfl,v.call.handle,c1 rr rfl,v.call.other,c1 rr rfl,v.call.snap,c1 rr rfl,v.call.rights,c1 rr rfl,v.call.ops,c1 rr rfl,v.call.key,c1 rr rfl,v.call.frm,c1 rr rfl,v.call.upto,c1 rr rfl,v.call.back,c1 rr rfl,v.n,c1 rr rfl,v.block,c1 rr rfl,v.masks,c1 rr rfl,v.bytes,c1 rr rfl,?_⟩
 refine may_spec (g.no n1.ext) (by omega) (r.no n1.ext) rg hl fun rm w2 hm x2=>If.not (If.cases (fun t=>?_) fun t=>k1 w2 (fun h=>by rw [hm.2 h] at t; cases t) (n1.ext.no x2))
 have may:=hm.1 t
 have x02:=n1.ext.no x2
 refine NewW.mk fun b1 w3 n3=>?_
 have x13:=x2.no n3.ext
 have x03:=n1.ext.no x13
 have z3:=x03.size
 have g3:=g.no x03
 have r3:=r.no x03
 have nat:∀{z:Int},0<=z->((z.toNat:Nat):Int)=z:=fun h=>Int.toNat_of_nonneg h
 have ln:∀{W:List Bs},(∀ x∈W,x.length<=3000)->W.length<=2000->lenW W<=10000000000:=fun h h2=>by have:=lenW_le h; have:_ * 3000<=2000 * 3000:=Nat.mul_le_mul_right _ h2; omega
 have numW:∀{wd:Bs}{K':ByteArray->Wd->Prop},wd.length<=10->0<=e.n/\e.n<=1073741824->(∀ w',Ext No w w'->K' (stB (joinB 32 [wd,decB e.n.toNat])) w')->NewW w3 (.cells [.string (stB wd)].toArray 9) fun b_2 w8=>∃ vv_2:Int,Cell w8 ((Addr.mk b 0 none).add 15) (.int .i64 vv_2) /\
   C_play_text_int vv_2 w8 fun r_4 w9=>AppW pz 56 56 ⟨some (Addr.mk b_2 0 none),1,1⟩ (.slice r_4.a r_4.len r_4.cap) (fun s w10=>C_strings_Join s ⟨#[32]⟩ w10 fun r_5 w11=>K' r_5 w11) w9:=fun {wd K'} hwd hn k'=>by
  refine NewW.mk fun b2 w4 n4=>⟨v.n,c1 (x13.no n4.ext) rfl,?_⟩
  rw [r.n,<- nat hn.1]
  refine textInt (g3.no n4.ext) (by omega) fun s w5 o5 x5=>two_words (x:=wd) n4 x5 o5.rd fun s6 w6 o6 x6=>?_
  have hd:=decB_20 (u:=e.n.toNat) (by omega)
  refine join_spec (c:=32) o6.rd (by simp) (ln (fun x hx=>?_) (by simp)) fun w7 x7=>k' w7 (x03.no (x6.no x7))
  simp only [List.mem_cons,List.not_mem_nil,or_false] at hx
  rcases hx with rfl | rfl <;> omega
 refine ⟨v.kind,c1 x13 rfl,If.beq (fun k1'=>?_) fun k1'=>If.beq (fun k2'=>?_) fun k2'=>If.beq (fun k3'=>?_) fun k3'=>If.beq (fun k4'=>?_) fun k4'=>If.beq (fun k6'=>?_) fun k6'=>?_⟩
 .rw [r.kind] at k1'
  obtain ⟨_,_,_,gf,hg,lb,hb⟩:=(mayE_1 k1').1 may
  obtain ⟨kk,ek,hk⟩:=formI_nat hg
  have hok:=formP_ok kk gf hk
  have hwd:=formP_wd kk gf hk
  have lc:=lb.lim rg
  have hv:∀{j x},v.cells[j]? = some x->Held (Ext No w3) ⟨b,j,none⟩ x:=fun h=>Held.cell (c1 x13 h)
  refine ⟨Ext No w3,(Ext.refl _ _).drew,v.call.kind,hv rfl,v.call.kind,hv rfl,v.call.tenant,hv rfl,v.call.secret,hv rfl,v.call.quota,hv rfl,v.call.n,hv rfl,v.call.handle,hv rfl,v.call.other,hv rfl,v.call.snap,hv rfl,v.call.rights,hv rfl,v.call.ops,hv rfl,v.call.key,hv rfl,v.call.frm,hv rfl,v.call.upto,hv rfl,v.call.back,hv rfl,?_⟩
  refine forms_spec fun r4 w4 f4 x4=>⟨x4.drew_left,?_⟩
  obtain ⟨s,hs1,_,hs2⟩:=forms_at2 f4 hk (Ext.refl _ _)
  rw [<- ek,<- r.call.kind] at hs2
  refine ⟨stB gf.1,s,w4,hs2,x4.drew_left,?_⟩
  refine told_spec hs1 (g3.no x4.drew_left) (r3.call.no x4.drew_left) lc (by omega) fun s5 w5 o5 x5=>⟨x4.drew_left.no x5,?_⟩
  have htl:=telFs_len lc gf.2
  refine join_spec (c:=32) o5.rd (by simp only [List.length_cons]; omega) (ln (fun x hx=>?_) (by simp only [List.length_cons]; omega)) fun w6 x6=>?_
  .rcases List.mem_cons.1 hx with rfl | hx
   .omega
   .obtain ⟨f,_,hx⟩:=List.mem_flatMap.1 hx
    exact telF_sm lc f x hx
  .have:=k0 w6 may (x03.no ((x4.drew_left.no x5).no x6))
   unfold lineE at this
   rw [wordsE_1 k1' hg] at this
   exact this
 .rw [r.kind] at k2'
  refine numW (wd:=wfail) (K':=fun s w'=>K s 0 w') (by decide) ((mayE_2 (.inl k2')).1 may).2.2.2 fun w' x'=>?_
  have:=k0 w' may x'
  unfold lineE at this; rw [wordsE_2 k2'] at this; exact this
 .rw [r.kind] at k3'
  refine numW (wd:=wcut) (K':=fun s w'=>K s 0 w') (by decide) ((mayE_2 (.inr k3')).1 may).2.2.2 fun w' x'=>?_
  have:=k0 w' may x'
  unfold lineE at this; rw [wordsE_3 k3'] at this; exact this
 .rw [r.kind] at k4'
  obtain ⟨_,_,_,hm1,hm2⟩:=(mayE_4 k4').1 may
  have lm:=RdB.len r.masks.rd
  have fin:∀{w4:Wd}{x:Bs},Ext No w w4->x=maskW e.masks->x.length<=1000->NewW w4 (.cells [.string (stB wcrash), .string (stB x)].toArray 9) fun b_5 w21=>C_strings_Join ⟨some (Addr.mk b_5 0 none),2,2⟩ ⟨#[32]⟩ w21 fun r_10 w22=>K r_10 0 w22:=fun {w4 x} x4 hx hxl=>by
   refine NewW.mk fun b5 w5 n5=>?_
   have o5:OwnW w5.heap w4.heap.size ⟨some ⟨b5,0,none⟩,2,2⟩ [wcrash,x]:=Own.new n5 rfl (strW_one _)
   refine join_spec (c:=32) o5.rd (by simp) (ln (fun y hy=>?_) (by simp)) fun w6 x6=>?_
   .simp only [List.mem_cons,List.not_mem_nil,or_false] at hy
    rcases hy with rfl | rfl
    .decide
    .omega
   .have:=k0 w6 may ((x4.no n5.ext).no x6)
    unfold lineE at this; rw [wordsE_4 k4',<- hx] at this; exact this
  refine ⟨v.masks,c1 x13 rfl,If.dec (fun hp=>?_) fun hp=>?_⟩
  .refine NewW.mk fun bb w4 n4=>⟨v.masks,c1 (x13.no n4.ext) rfl,?_⟩
   have hbb:=n4.at_; have z4:=n4.size
   have hne:e.masks≠[]:=by intro h; rw [h] at lm; simp at lm; omega
   have B0:BdR w4.heap w4.heap.size bb []:=⟨none,⟨none,0,0⟩,n4.get, .inl rfl,Own.nil _ _ _ _,by omega⟩
   refine ⟨fun m t w'=>∃ j:Nat,t=j/\j<=e.masks.length/\m=e.masks.length - j/\BdR w'.heap w4.heap.size bb ((e.masks.take j).map fun m=>hexD m.toNat)/\Ext (fun q=>q=bb∨w4.heap.size<=q) w4 w',⟨_,0,rfl,Nat.zero_le _,rfl,by simpa using B0,Ext.refl _ _⟩,?_⟩
   rintro _ m0 _ w5 ⟨j,rfl,hj,rfl,B5,x5⟩
   have x05:Ext No w w5:=(x03.no n4.ext).trans x5 fun q hq h=>by have:=x03.size; omega
   have z5:=x5.size
   refine If.dec (fun h=>ixB (r.masks.rd.no x05) (by omega) h fun b6 o6 hi _ hc=>⟨_,hc,?_⟩) fun h=>?_
   .have hjl:j < e.masks.length:=hi
    have el:e.masks[((j:Nat):Int).toNat]'hi=e.masks[j]:=rfl
    rw [el]
    have hm:=hm2 _ (List.getElem_mem hjl)
    have tk:=take_snoc hjl
    refine Ar.u64 (by omega) (fmt16_spec (g.no x05) (by omega) fun w6 x6=>?_)
    refine wrStr_spec (base:=w4.heap.size) (B5.no x6) (by have:=x6.size; omega) (by rw [List.length_map,List.length_take]; simp only [List.length_singleton]; omega) fun w7 B7 x7=>Ar.i64 (by omega) ⟨_,by omega,j+1,by omega,by omega,rfl,?_,(x5.no x6).trans x7 fun _ _ h=>h⟩
    rw [tk,List.map_append]; exact B7
   .have hjn:j=e.masks.length:=by omega
    rw [hjn,List.take_length] at B5
    refine str_spec B5 (by rw [List.length_map]; omega) fun w6 x6=>?_
    refine fin (x05.trans x6 fun q hq h=>by have:=x05.size; have:=x03.size; omega) ?_ (by rw [List.length_map]; omega)
    unfold maskW; rw [if_neg hne]
  .have he:e.masks=[]:=List.length_eq_zero_iff.1 (by omega)
   exact fin (x:=[45]) x03 (by rw [he]; rfl) (by simp)
 .rw [r.kind] at k6'
  obtain ⟨_,_,hn,hb,hb1,hb2⟩:=(mayE_6 k6').1 may
  have hv:∀{j x},v.cells[j]? = some x->Held (Ext No w3) ⟨b,j,none⟩ x:=fun h=>Held.cell (c1 x13 h)
  have eb:v.block=((e.block.toNat:Nat):Int):=by rw [r.block,nat hb.1]
  have en:v.n=((e.n.toNat:Nat):Int):=by rw [r.n,nat hn.1]
  have fin:∀ w',Ext No w3 w'->K (stB (joinB 32 [wforeign,decB e.block.toNat,decB e.n.toNat,hexW e.bytes])) 0 w':=fun w' x'=>by
   have:=k0 w' may (x03.no x')
   unfold lineE at this; rw [wordsE_6 k6'] at this; exact this
  have hlen:lenW [wforeign,decB e.block.toNat,decB e.n.toNat,hexW e.bytes]<=100000:=by
   have h1:=decB_20 (u:=e.block.toNat) (by omega)
   have h2:=decB_20 (u:=e.n.toNat) (by omega)
   have h3:=hexW_len (l:=e.bytes)
   simp only [lenW,List.map_cons,List.map_nil,List.sum_cons,List.sum_nil]
   have:wforeign.length=7:=rfl
   omega
  have tail:∀{w4:Wd}{s1 s2 s3 s4:Sl},Ext No w3 w4->RdW w4.heap s1 [wforeign]->RdW w4.heap s2 [decB e.block.toNat]->RdW w4.heap s3 [decB e.n.toNat]->RdW w4.heap s4 [hexW e.bytes]->NewW w4 (.cells [.slice s1.a s1.len s1.cap, .slice s2.a s2.len s2.cap, .slice s3.a s3.len s3.cap, .slice s4.a s4.len s4.cap].toArray 56) fun b w30=>Ext No w3 w30 /\
   C_slices_Concat_string_string ⟨some (Addr.mk b 0 none),4,4⟩ w30 fun r w31=>Ext No w3 w31/\C_strings_Join r ⟨#[32]⟩ w31 fun r w32=>K r 0 w32:=fun x4 r1 r2 r3 r4=>foreign_tail r1 r2 r3 r4 hlen (fun w' x'=>x4.no x') fun w' x'=>fin w' (x4.no x')
  have new1:∀{w4 w5:Wd}{bx:Nat}{x:Bs},New w4 (.cells [.string (stB x)].toArray 9) bx w5->RdW w5.heap ⟨some ⟨bx,0,none⟩,1,1⟩ [x]:=fun {w4 w5 bx x} n=>by
   have o:OwnW w5.heap w4.heap.size ⟨some ⟨bx,0,none⟩,1,1⟩ [x]:=Own.new (cs:=strW [x]) n rfl (strW_one _)
   exact o.rd
  have tI:∀{w4:Wd}{K:Sl->Wd->Prop},Ext No w3 w4->(∀ s w',RdW w'.heap s [decB e.block.toNat]->Ext No w4 w'->K s w')->C_play_text_int v.block w4 K:=fun x4 k=>by
   rw [eb]; exact textInt (g3.no x4) (by omega) fun s w' o x=>k s w' o.rd x
  have tN:∀{w4:Wd}{K:Sl->Wd->Prop},Ext No w3 w4->(∀ s w',RdW w'.heap s [decB e.n.toNat]->Ext No w4 w'->K s w')->C_play_text_int v.n w4 K:=fun x4 k=>by
   rw [en]; exact textInt (g3.no x4) (by omega) fun s w' o x=>k s w' o.rd x
  have tD:∀{w4:Wd}{K:ByteArray->Wd->Prop},Ext No w3 w4->(∀ w',Ext No w4 w'->K (stB (hexW e.bytes)) w')->C_play_digits v.bytes w4 K:=fun x4 k=>digits_spec (r3.bytes.rd.no x4) (by omega) k
  have d3:Ext No w3 (drewW w3):=(Ext.refl _ _).drew
  refine ⟨Ext No w3,d3,v.block,hv rfl,v.n,hv rfl,v.bytes,hv rfl,?_,?_⟩
  .refine NewW.mk fun b7 w4 n4=>?_
   have x4:=d3.no n4.ext
   refine ⟨x4,tI x4 fun s5 w5 r5 x5=>⟨x4.no x5,tN (x4.no x5) fun s6 w6 r6 x6=>⟨(x4.no x5).no x6,tD ((x4.no x5).no x6) fun w7 x7=>⟨((x4.no x5).no x6).no x7,NewW.mk fun b8 w8 n8=>?_⟩⟩⟩⟩
   have x8:=(((x4.no x5).no x6).no x7).no n8.ext
   exact ⟨x8,tail (s1:=⟨some ⟨b7,0,none⟩,1,1⟩) (s4:=⟨some ⟨b8,0,none⟩,1,1⟩) x8 (Rd.no (new1 (x:=wforeign) n4) (((x5.no x6).no x7).no n8.ext)) (Rd.no r5 ((x6.no x7).no n8.ext)) (Rd.no r6 (x7.no n8.ext)) (new1 n8)⟩
  .refine tI d3 fun s5 w5 r5 x5=>?_
   have y5:=d3.no x5
   refine ⟨y5,?_,?_⟩
   .refine NewW.mk fun b7 w4 n4=>?_
    have x4:=y5.no n4.ext
    refine ⟨x4,tN x4 fun s6 w6 r6 x6=>⟨x4.no x6,tD (x4.no x6) fun w7 x7=>⟨(x4.no x6).no x7,NewW.mk fun b8 w8 n8=>?_⟩⟩⟩
    have x8:=((x4.no x6).no x7).no n8.ext
    exact ⟨x8,tail (s1:=⟨some ⟨b7,0,none⟩,1,1⟩) (s4:=⟨some ⟨b8,0,none⟩,1,1⟩) x8 (Rd.no (new1 (x:=wforeign) n4) ((x6.no x7).no n8.ext)) (Rd.no r5 (((n4.ext.no x6).no x7).no n8.ext)) (Rd.no r6 (x7.no n8.ext)) (new1 n8)⟩
   .refine tN y5 fun s6 w6 r6 x6=>?_
    have y6:=y5.no x6
    refine ⟨y6,?_,?_⟩
    .refine NewW.mk fun b7 w4 n4=>?_
     have x4:=y6.no n4.ext
     refine ⟨x4,tD x4 fun w7 x7=>⟨x4.no x7,NewW.mk fun b8 w8 n8=>?_⟩⟩
     have x8:=(x4.no x7).no n8.ext
     exact ⟨x8,tail (s1:=⟨some ⟨b7,0,none⟩,1,1⟩) (s4:=⟨some ⟨b8,0,none⟩,1,1⟩) x8 (Rd.no (new1 (x:=wforeign) n4) (x7.no n8.ext)) (Rd.no r5 (((x6.no n4.ext).no x7).no n8.ext)) (Rd.no r6 ((n4.ext.no x7).no n8.ext)) (new1 n8)⟩
    .refine tD y6 fun w7 x7=>?_
     have y7:=y6.no x7
     refine ⟨y7,?_,?_⟩
     .refine NewW.mk fun b7 w4 n4=>⟨y7.no n4.ext,NewW.mk fun b8 w8 n8=>?_⟩
      have x8:=(y7.no n4.ext).no n8.ext
      exact ⟨x8,tail (s1:=⟨some ⟨b7,0,none⟩,1,1⟩) (s4:=⟨some ⟨b8,0,none⟩,1,1⟩) x8 (Rd.no (new1 (x:=wforeign) n4) n8.ext) (Rd.no r5 (((x6.no x7).no n4.ext).no n8.ext)) (Rd.no r6 ((x7.no n4.ext).no n8.ext)) (new1 n8)⟩
     .refine NewW.mk fun b7 w4 n4=>⟨y7.no n4.ext,NewW.mk fun b8 w8 n8=>?_⟩
      have x8:=(y7.no n4.ext).no n8.ext
      exact ⟨x8,tail (s1:=⟨some ⟨b8,0,none⟩,1,1⟩) (s4:=⟨some ⟨b7,0,none⟩,1,1⟩) x8 (new1 (x:=wforeign) n8) (Rd.no r5 (((x6.no x7).no n4.ext).no n8.ext)) (Rd.no r6 ((x7.no n4.ext).no n8.ext)) (Rd.no (new1 n4) n8.ext)⟩
 .rw [r.kind] at k1' k2' k3' k4' k6'
  have k5:e.kind=5:=by
   rcases may with h | h | h | h | h
   .exact absurd h.1 k1'
   .rcases h.1 with h | h
    .exact absurd h k2'
    .exact absurd h k3'
   .exact absurd h.1 k4'
   .exact h.1
   .exact absurd h.1 k6'
  have o3:OwnW w3.heap w2.heap.size ⟨some ⟨b1,0,none⟩,1,1⟩ [wopen]:=Own.new (cs:=strW [wopen]) n3 rfl (strW_one _)
  refine join_spec (c:=32) o3.rd (by simp) (ln (fun x hx=>by rw [List.mem_singleton] at hx; subst hx; decide) (by simp)) fun w4 x4=>?_
  have:=k0 w4 may (x03.no x4)
  unfold lineE at this; rw [wordsE_5 k5] at this; exact this
end
end Go.Proofs.YtimonamjecmlcaaGreatDoor
namespace Go.V
def evP0(k:Int):EvP:=⟨k,callP0 0,0,0,[],[]⟩
def findF(x:Bs):Option (Nat×List FId):=(List.range 17).findSome? fun k=>match formP k with
 | some g=>if g.1=x then some (k,g.2) else none
 | none=>none
theorem formP_lt{k:Nat}{g:Bs×List FId}(h:formP k=some g):1<=k/\k<=16:=by
 match k,h with
 | 1,h | 2,h | 3,h | 4,h | 5,h | 6,h | 7,h | 8,h | 9,h | 10,h | 11,h | 12,h | 13,h | 14,h | 15,h | 16,h=>omega
 | 0,h=>cases h
 | n+17,h=>cases h
theorem findF_some{x:Bs}{k:Nat}{fs:List FId}(h:findF x=some (k,fs)):formP k=some (x,fs):=by
 obtain ⟨j,hj,e⟩:=List.exists_of_findSome?_eq_some h
 split at e
 .rename_i g hg
  split at e
  .rename_i hx; cases e; rw [hg,<- hx]
  .cases e
 .cases e
theorem findF_form:∀ k g,formP k=some g->findF g.1=some (k,g.2):=by
 intro k g h
 match k,h with
 | 1,h | 2,h | 3,h | 4,h | 5,h | 6,h | 7,h | 8,h | 9,h | 10,h | 11,h | 12,h | 13,h | 14,h | 15,h | 16,h=>cases h; rfl
 | 0,h=>cases h
 | n+17,h=>cases h
def rdMask:List Bs->Option (Bs×List Bs)
 | []=>none
 | y::W=>if y=[45] then some ([],W) else if y≠[]/\∀ c∈y,dgt c < 16 then some (y.map fun c=>UInt8.ofNat (dgt c),W) else none
def rdE:List Bs->Option (EvP×List Bs)
 | []=>none
 | x::W =>
  if x=wfail then (rdNum 31 W).map fun p=>({ evP0 2 with n:=p.1 },p.2)
  else if x=wcut then (rdNum 31 W).map fun p=>({ evP0 3 with n:=p.1 },p.2)
  else if x=wcrash then (rdMask W).map fun p=>({ evP0 4 with masks:=p.1 },p.2)
  else if x=wopen then some (evP0 5,W)
  else if x=wforeign then match rdNum 31 W with
   | some (b,W1)=>match rdNum 31 W1 with
    | some (n,W2)=>(rdByt W2).map fun p=>({ evP0 6 with block:=b,n:=n,bytes:=p.1 },p.2)
    | none=>none
   | none=>none
  else match findF x with
   | some (k,fs)=>(rdFs fs W (callP0 k)).map fun p=>({ evP0 1 with call:=p.1 },p.2)
   | none=>none
open Classical in
noncomputable def unE (l:Bs):Option EvP:=match rdE (splitB 32 l) with
 | some (e,[])=>if MayE e then some e else none
 | _=>none
theorem mask_back{l:Bs}(h:∀ m∈l,m.toNat<=15):(l.map fun m=>hexD m.toNat).map (fun c=>UInt8.ofNat (dgt c))=l:=by
 rw [List.map_map]
 conv=>rhs; rw [<- List.map_id l]
 refine List.map_congr_left fun m hm=>?_
 have h1:=dgt_hexD ⟨m.toNat,by have:=h m hm; omega⟩
 simp only at h1
 simp only [Function.comp,h1,UInt8.ofNat_toNat,id]
theorem mask_dgt{l:Bs}(h:∀ m∈l,m.toNat<=15):∀ c∈l.map (fun m=>hexD m.toNat),dgt c < 16:=by
 intro c hc
 obtain ⟨m,hm,rfl⟩:=List.mem_map.1 hc
 have h1:=dgt_hexD ⟨m.toNat,by have:=h m hm; omega⟩
 simp only at h1
 have:=h m hm; omega
theorem dgt_45:dgt 45=16:=by decide
theorem rdMask_tell{l:Bs}(h:∀ m∈l,m.toNat<=15)(W:List Bs):rdMask (maskW l::W)=some (l,W):=by
 unfold maskW
 split
 .rename_i e; subst e; rfl
 .rename_i e
  have hd:=mask_dgt h
  rw [rdMask,if_neg,if_pos ⟨by simpa using e,hd⟩,mask_back h]
  intro e2
  have:=hd 45 (by rw [e2]; simp)
  rw [dgt_45] at this; omega
theorem formI_wd{z:Int}{g:Bs×List FId}(h:formI z=some g):g.1≠wfail/\g.1≠wcut/\g.1≠wcrash/\g.1≠wopen/\g.1≠wforeign:=by
 obtain ⟨k,rfl,hk⟩:=formI_nat h
 match k,hk with
 | 1,h | 2,h | 3,h | 4,h | 5,h | 6,h | 7,h | 8,h | 9,h | 10,h | 11,h | 12,h | 13,h | 14,h | 15,h | 16,h=>cases h; decide
 | 0,h=>cases h
 | n+17,h=>cases h
theorem nat_of{z:Int}(h:0<=z):((z.toNat:Nat):Int)=z:=Int.toNat_of_nonneg h
theorem evP_eta{e:EvP}{k c n b m y}(h1:e.kind=k)(h2:e.call=c)(h3:e.n=n)(h4:e.block=b)(h5:e.masks=m)(h6:e.bytes=y):(⟨k,c,n,b,m,y⟩ : EvP)=e:=by cases e; simp only at *; subst_vars; rfl
theorem rdE_tell{e:EvP}(h:MayE e)(rg:RngC e.call):rdE (wordsE e)=some (e,[]):=by
 rcases h with h | h | h | h | h
 .obtain ⟨hk,hn,hm,⟨hb,hy⟩,g,hg,lb,hc⟩:=h
  rw [wordsE_1 hk hg]
  obtain ⟨n1,n2,n3,n4,n5⟩:=formI_wd hg
  obtain ⟨k,ek,hf⟩:=formI_nat hg
  rw [rdE,if_neg n1,if_neg n2,if_neg n3,if_neg n4,if_neg n5,findF_form k g hf]
  have h1:=rdFs_tell (lb.lim rg) g.2 (callP0 k) (formP_ok k g hf).1
  simp only [h1,Option.map_some]
  have:g.2.foldl (pickF e.call) (callP0 k)=e.call:=by rw [<- ek]; exact hc.symm
  rw [this]
  exact congrArg (fun x=>some (x,([]:List Bs))) (evP_eta (e:=e) hk rfl hn hb hm hy)
 .obtain ⟨hk,hc,hm,⟨hb,hy⟩,hn⟩:=h
  rcases hk with hk | hk
  .rw [wordsE_2 hk,rdE,if_pos rfl,rdNum_dec (by omega),Option.map_some]
   simp only [nat_of hn.1]
   exact congrArg (fun x=>some (x,([]:List Bs))) (evP_eta (e:=e) hk hc rfl hb hm hy)
  .rw [wordsE_3 hk,rdE,if_neg (by decide),if_pos rfl,rdNum_dec (by omega),Option.map_some]
   simp only [nat_of hn.1]
   exact congrArg (fun x=>some (x,([]:List Bs))) (evP_eta (e:=e) hk hc rfl hb hm hy)
 .obtain ⟨hk,hc,hn,⟨hb,hy⟩,hl,hm⟩:=h
  rw [wordsE_4 hk,rdE,if_neg (by decide),if_neg (by decide),if_pos rfl,rdMask_tell hm,Option.map_some]
  exact congrArg (fun x=>some (x,([]:List Bs))) (evP_eta (e:=e) hk hc hn hb rfl hy)
 .obtain ⟨hk,hc,hn,hm,hb,hy⟩:=h
  rw [wordsE_5 hk,rdE,if_neg (by decide),if_neg (by decide),if_neg (by decide),if_pos rfl]
  exact congrArg (fun x=>some (x,([]:List Bs))) (evP_eta (e:=e) hk hc hn hb hm hy)
 .obtain ⟨hk,hc,hm,hn,hb,hy⟩:=h
  rw [wordsE_6 hk,rdE,if_neg (by decide),if_neg (by decide),if_neg (by decide),if_neg (by decide),if_pos rfl,rdNum_dec (by omega)]
  simp only [rdNum_dec (B:=31) (n:=e.n.toNat) (W:=[hexW e.bytes]) (by omega),rdByt_hex,Option.map_some,nat_of hn.1,nat_of hb.1]
  exact congrArg (fun x=>some (x,([]:List Bs))) (evP_eta (e:=e) hk hc rfl rfl hm rfl)
theorem rdB1_some{x l:Bs}(h:rdB1 x=some l):x=hexW l:=by
 have h1:rdByt [x]=some (l,[]):=by rw [rdByt_cons,h]; rfl
 have:=rdByt_some h1
 cases this; rfl
theorem rdOps_some:∀{W:List Bs}{l:List OpP},rdOps W=some l->W=l.flatMap opW1
 | [],l,h=>by cases h; rfl
 | [_],l,h=>by cases h
 | [x,y],l,h=>by
  rw [rdOps] at h
  split at h
  .rename_i hx
   cases hy:rdB1 y with
   | none=>rw [hy] at h; cases h
   | some k=>rw [hy] at h; cases h; rw [rdB1_some hy,hx]; rfl
  .cases h
 | x::y::z::W,l,h=>by
  rw [rdOps] at h
  split at h
  .rename_i hx
   split at h
   .rename_i k l' hy hl
    cases h
    rw [List.flatMap_cons,<- rdOps_some hl,rdB1_some hy,hx]; rfl
   .cases h
  .split at h
   .rename_i hx
    split at h
    .rename_i k v l' hy hz hl
     cases h
     rw [List.flatMap_cons,<- rdOps_some hl,rdB1_some hy,rdB1_some hz,hx]; rfl
    .cases h
   .cases h
theorem rdF_told{f:FId}{W W':List Bs}{c c':CallP}(h:rdF f W c=some (c',W'))(h1:f = .way->c.back=false)(h2:f = .ops->c.ops=[]):W=telF f c'++W':=by
 have num:∀{B:Nat}{g:Nat->CallP}{W:List Bs},(rdNum B W).map (fun p=>(g p.1,p.2))=some (c',W')->∃ n,c'=g n/\W=decB n::W':=fun {B g W} h=>by
  cases hn:rdNum B W with
  | none=>rw [hn] at h; cases h
  | some p=>rw [hn] at h; cases h; exact ⟨p.1,rfl,(rdNum_some (n:=p.1) (W':=p.2) hn).1⟩
 have byt:∀{g:Bs->CallP}{W:List Bs},(rdByt W).map (fun p=>(g p.1,p.2))=some (c',W')->∃ l,c'=g l/\W=hexW l::W':=fun {g W} h=>by
  cases hn:rdByt W with
  | none=>rw [hn] at h; cases h
  | some p=>rw [hn] at h; cases h; exact ⟨p.1,rfl,rdByt_some (l:=p.1) (W':=p.2) hn⟩
 cases f with
 | tenant=>obtain ⟨n,rfl,rfl⟩:=num (B:=32) (g:=fun n=>{ c with tenant:=n }) h; rfl
 | handle=>obtain ⟨n,rfl,rfl⟩:=num (B:=64) (g:=fun n=>{ c with handle:=n }) h; rfl
 | snap=>obtain ⟨n,rfl,rfl⟩:=num (B:=64) (g:=fun n=>{ c with snap:=n }) h; rfl
 | count=>obtain ⟨n,rfl,rfl⟩:=num (B:=31) (g:=fun n=>{ c with n:=n }) h; rfl
 | quota=>obtain ⟨n,rfl,rfl⟩:=num (B:=31) (g:=fun n=>{ c with quota:=n }) h; rfl
 | rights=>obtain ⟨n,rfl,rfl⟩:=num (B:=8) (g:=fun n=>{ c with rights:=n }) h; rfl
 | other=>obtain ⟨n,rfl,rfl⟩:=num (B:=64) (g:=fun n=>{ c with other:=n }) h; rfl
 | secret=>obtain ⟨n,rfl,rfl⟩:=byt (g:=fun n=>{ c with secret:=n }) h; rfl
 | key=>obtain ⟨n,rfl,rfl⟩:=byt (g:=fun n=>{ c with key:=n }) h; rfl
 | frm=>obtain ⟨n,rfl,rfl⟩:=byt (g:=fun n=>{ c with frm:=n }) h; rfl
 | upto=>obtain ⟨n,rfl,rfl⟩:=byt (g:=fun n=>{ c with upto:=n }) h; rfl
 | ops =>
  simp only [rdF] at h
  cases hn:rdOps W with
  | none=>rw [hn] at h; cases h
  | some l =>
   rw [hn] at h; cases h
   rw [h2 rfl,List.nil_append,List.append_nil]
   exact rdOps_some hn
 | way =>
  have hb:=h1 rfl
  cases W with
  | nil=>cases h
  | cons x W =>
   rw [rdF] at h
   split at h
   .rename_i hx; cases h; rw [hx]; rfl
   .split at h
    .rename_i hx; cases h; rw [hx]; simp [telF,hb]
    .cases h
theorem rdF_cases{g:FId}{W W':List Bs}{c c':CallP}(h:rdF g W c=some (c',W')):match g with
  | .tenant=>∃ n,c'={ c with tenant:=n }
  | .handle=>∃ n,c'={ c with handle:=n }
  | .snap=>∃ n,c'={ c with snap:=n }
  | .count=>∃ n,c'={ c with n:=n }
  | .quota=>∃ n,c'={ c with quota:=n }
  | .rights=>∃ n,c'={ c with rights:=n }
  | .other=>∃ n,c'={ c with other:=n }
  | .ops=>∃ n,c'={ c with ops:=n }
  | .way=>∃ n,c'={ c with back:=n }
  | .secret=>∃ n,c'={ c with secret:=n }
  | .key=>∃ n,c'={ c with key:=n }
  | .frm=>∃ n,c'={ c with frm:=n }
  | .upto=>∃ n,c'={ c with upto:=n }:=by
 have mp:∀{α:Type}{o:Option (α×List Bs)}{f:α->CallP},o.map (fun p=>(f p.1,p.2))=some (c',W')->∃ a,c'=f a:=fun {α o f} h=>by
  cases o with
  | none=>cases h
  | some p=>cases h; exact ⟨p.1,rfl⟩
 cases g with
 | ops =>
  simp only [rdF] at h
  cases hn:rdOps W with
  | none=>rw [hn] at h; cases h
  | some l=>rw [hn] at h; cases h; exact ⟨_,rfl⟩
 | way =>
  cases W with
  | nil=>cases h
  | cons x W =>
   rw [rdF] at h
   split at h
   .cases h; exact ⟨_,rfl⟩
   .split at h
    .cases h; exact ⟨c.back,rfl⟩
    .cases h
 | tenant=>obtain ⟨a,h⟩:=mp (α:=Nat) (o:=rdNum 32 W) (f:=fun n=>{ c with tenant:=n }) h; exact ⟨_,h⟩
 | handle=>obtain ⟨a,h⟩:=mp (α:=Nat) (o:=rdNum 64 W) (f:=fun n=>{ c with handle:=n }) h; exact ⟨_,h⟩
 | snap=>obtain ⟨a,h⟩:=mp (α:=Nat) (o:=rdNum 64 W) (f:=fun n=>{ c with snap:=n }) h; exact ⟨_,h⟩
 | count=>obtain ⟨a,h⟩:=mp (α:=Nat) (o:=rdNum 31 W) (f:=fun n=>{ c with n:=n }) h; exact ⟨_,h⟩
 | quota=>obtain ⟨a,h⟩:=mp (α:=Nat) (o:=rdNum 31 W) (f:=fun n=>{ c with quota:=n }) h; exact ⟨_,h⟩
 | rights=>obtain ⟨a,h⟩:=mp (α:=Nat) (o:=rdNum 8 W) (f:=fun n=>{ c with rights:=n }) h; exact ⟨_,h⟩
 | other=>obtain ⟨a,h⟩:=mp (α:=Nat) (o:=rdNum 64 W) (f:=fun n=>{ c with other:=n }) h; exact ⟨_,h⟩
 | secret=>obtain ⟨a,h⟩:=mp (o:=rdByt W) (f:=fun n=>{ c with secret:=n }) h; exact ⟨_,h⟩
 | key=>obtain ⟨a,h⟩:=mp (o:=rdByt W) (f:=fun n=>{ c with key:=n }) h; exact ⟨_,h⟩
 | frm=>obtain ⟨a,h⟩:=mp (o:=rdByt W) (f:=fun n=>{ c with frm:=n }) h; exact ⟨_,h⟩
 | upto=>obtain ⟨a,h⟩:=mp (o:=rdByt W) (f:=fun n=>{ c with upto:=n }) h; exact ⟨_,h⟩
theorem rdF_other{f g:FId}{W W':List Bs}{c c':CallP}(h:rdF g W c=some (c',W'))(hne:f≠g):telF f c'=telF f c/\c'.kind=c.kind/\(g ≠ .way->c'.back=c.back)/\(g ≠ .ops->c'.ops=c.ops):=by
 have hc:=rdF_cases h
 cases g <;> obtain ⟨n,rfl⟩:=hc <;> cases f <;> first | exact (hne rfl).elim | exact ⟨rfl,rfl,fun h=>by first | rfl | exact (h rfl).elim,fun h=>by first | rfl | exact (h rfl).elim⟩
theorem rdF_keep{g:FId}{W W':List Bs}{c c':CallP}(h:rdF g W c=some (c',W')):c'.kind=c.kind/\(g ≠ .way->c'.back=c.back)/\(g ≠ .ops->c'.ops=c.ops):=by
 have hc:=rdF_cases h
 cases g <;> obtain ⟨n,rfl⟩:=hc <;> exact ⟨rfl,fun h=>by first | rfl | exact (h rfl).elim,fun h=>by first | rfl | exact (h rfl).elim⟩
theorem rdFs_told:∀{fs:List FId}{W W':List Bs}{c c':CallP},fs.Nodup->(.way∈fs->c.back=false)->(.ops∈fs->c.ops=[])->rdFs fs W c=some (c',W')->W=telFs fs c'++W'/\c'.kind=c.kind/\∀ f,f ∉ fs->telF f c'=telF f c
 | [],W,W',c,c',_,_,_,h=>by cases h; exact ⟨rfl,rfl,fun _ _=>rfl⟩
 | f::fs,W,W',c,c',hn,hw,ho,h=>by
  rw [rdFs] at h
  split at h
  .rename_i c1 W1 h1
   obtain ⟨hf,hn⟩:=List.nodup_cons.1 hn
   obtain ⟨k1,k2,k3⟩:=rdF_keep h1
   obtain ⟨i1,i2,i3⟩:=rdFs_told hn (fun hm=>by rw [k2 (by rintro rfl; exact hf hm)]; exact hw (List.mem_cons_of_mem _ hm)) (fun hm=>by rw [k3 (by rintro rfl; exact hf hm)]; exact ho (List.mem_cons_of_mem _ hm)) h
   have h2:=rdF_told h1 (fun e=>hw (by rw [e]; simp)) (fun e=>ho (by rw [e]; simp))
   refine ⟨?_,i2.trans k1,fun g hg=>?_⟩
   .rw [h2,i1,<- i3 f hf]; show _=(telF f c'++telFs fs c')++W'; rw [List.append_assoc]
   .have g1:g≠f:=fun e=>hg (by rw [e]; simp)
    have g2:g ∉ fs:=fun e=>hg (List.mem_cons_of_mem _ e)
    rw [i3 g g2,(rdF_other h1 g1).1]
  .cases h
theorem formP_nodup:∀ k g,formP k=some g->g.2.Nodup:=by
 intro k g h
 match k,h with
 | 1,h | 2,h | 3,h | 4,h | 5,h | 6,h | 7,h | 8,h | 9,h | 10,h | 11,h | 12,h | 13,h | 14,h | 15,h | 16,h=>cases h; simp
 | 0,h=>cases h
 | n+17,h=>cases h
theorem rdMask_some{W W':List Bs}{l:Bs}(h:rdMask W=some (l,W')):W=maskW l::W':=by
 cases W with
 | nil=>cases h
 | cons y W =>
  rw [rdMask] at h
  split at h
  .rename_i e; cases h; rw [e]; rfl
  .split at h
   .rename_i hy
    cases h
    unfold maskW
    rw [if_neg (by simpa using hy.1),List.map_map]
    congr 1
    conv=>lhs; rw [<- List.map_id y]
    refine List.map_congr_left fun c hc=>?_
    have h1:=hy.2 c hc
    have e:(UInt8.ofNat (dgt c)).toNat=dgt c:=by simp; omega
    simp only [Function.comp,id,e]
    exact (hexD_dgt h1).symm
   .cases h
theorem rdE_told{W:List Bs}{e:EvP}(h:rdE W=some (e,[])):wordsE e=W:=by
 cases W with
 | nil=>cases h
 | cons x W =>
  have num:∀{B:Nat}{g:Nat->EvP},(rdNum B W).map (fun p=>(g p.1,p.2))=some (e,[])->∃ n,e=g n/\W=[decB n]:=fun {B g} h=>by
   cases hn:rdNum B W with
   | none=>rw [hn] at h; cases h
   | some p=>obtain ⟨a,b⟩:=p; rw [hn] at h; cases h; exact ⟨a,rfl,(rdNum_some hn).1⟩
  rw [rdE] at h
  split at h
  .rename_i hx
   obtain ⟨n,rfl,rfl⟩:=num (g:=fun n=>{ evP0 2 with n:=n }) h
   rw [wordsE_2 rfl,hx]; rfl
  split at h
  .rename_i hx
   obtain ⟨n,rfl,rfl⟩:=num (g:=fun n=>{ evP0 3 with n:=n }) h
   rw [wordsE_3 rfl,hx]; rfl
  split at h
  .rename_i hx
   cases hm:rdMask W with
   | none=>rw [hm] at h; cases h
   | some p =>
    obtain ⟨a,b⟩:=p
    rw [hm] at h; cases h
    have:=rdMask_some hm
    rw [wordsE_4 rfl,hx,this]
  split at h
  .rename_i hx; cases h; rw [wordsE_5 rfl,hx]
  split at h
  .rename_i hx
   split at h
   .rename_i b W1 h1
    split at h
    .rename_i n W2 h2
     cases hm:rdByt W2 with
     | none=>rw [hm] at h; cases h
     | some p =>
      obtain ⟨a,b⟩:=p
      rw [hm] at h; cases h
      have:=rdByt_some hm
      rw [wordsE_6 rfl,hx,(rdNum_some h1).1,(rdNum_some h2).1,this]; rfl
    .cases h
   .cases h
  split at h
  .rename_i k fs hf
   cases hr:rdFs fs W (callP0 k) with
   | none=>rw [hr] at h; cases h
   | some p =>
    obtain ⟨a,b⟩:=p
    rw [hr] at h; cases h
    have hp:=findF_some hf
    obtain ⟨h1,h2,_⟩:=rdFs_told (c:=callP0 k) (formP_nodup k _ hp) (fun _=>rfl) (fun _=>rfl) hr
    have hg:formI a.kind=some (x,fs):=by
     rw [h2]
     show formI (k:Int)=_
     unfold formI
     rw [if_pos (by omega),Int.toNat_natCast]; exact hp
    rw [wordsE_1 rfl hg,List.append_nil] at *
    rw [h1]
  .cases h
theorem RngC.zero(k:Int):RngC (callP0 k):=by
 refine ⟨?_,?_,?_,?_,?_⟩ <;> exact ⟨Int.le_refl _,by show (0:Int) < _; decide⟩
theorem rdF_rng{f:FId}{W W':List Bs}{c c':CallP}(h:rdF f W c=some (c',W'))(r:RngC c):RngC c':=by
 have num:∀{B:Nat}{g:Nat->CallP}{W:List Bs},(rdNum B W).map (fun p=>(g p.1,p.2))=some (c',W')->∃ n,c'=g n/\n < 2 ^ B:=fun {B g W} h=>by
  cases hn:rdNum B W with
  | none=>rw [hn] at h; cases h
  | some p=>rw [hn] at h; cases h; exact ⟨p.1,rfl,(rdNum_some (n:=p.1) (W':=p.2) hn).2⟩
 cases f with
 | tenant=>obtain ⟨n,rfl,hn⟩:=num (B:=32) (g:=fun n=>{ c with tenant:=n }) h; exact ⟨⟨Int.natCast_nonneg n,by show (n:Int) < _; omega⟩,r.handle,r.other,r.snap,r.rights⟩
 | handle=>obtain ⟨n,rfl,hn⟩:=num (B:=64) (g:=fun n=>{ c with handle:=n }) h; exact ⟨r.tenant,⟨Int.natCast_nonneg n,by show (n:Int) < _; omega⟩,r.other,r.snap,r.rights⟩
 | snap=>obtain ⟨n,rfl,hn⟩:=num (B:=64) (g:=fun n=>{ c with snap:=n }) h; exact ⟨r.tenant,r.handle,r.other,⟨Int.natCast_nonneg n,by show (n:Int) < _; omega⟩,r.rights⟩
 | rights=>obtain ⟨n,rfl,hn⟩:=num (B:=8) (g:=fun n=>{ c with rights:=n }) h; exact ⟨r.tenant,r.handle,r.other,r.snap,⟨Int.natCast_nonneg n,by show (n:Int) < _; omega⟩⟩
 | other=>obtain ⟨n,rfl,hn⟩:=num (B:=64) (g:=fun n=>{ c with other:=n }) h; exact ⟨r.tenant,r.handle,⟨Int.natCast_nonneg n,by show (n:Int) < _; omega⟩,r.snap,r.rights⟩
 | _ =>
  have hc:=rdF_cases h
  obtain ⟨n,rfl⟩:=hc
  exact ⟨r.tenant,r.handle,r.other,r.snap,r.rights⟩
theorem rdFs_rng:∀{fs:List FId}{W W':List Bs}{c c':CallP},rdFs fs W c=some (c',W')->RngC c->RngC c'
 | [],_,_,_,_,h,r=>by cases h; exact r
 | f::fs,W,W',c,c',h,r=>by
  rw [rdFs] at h
  split at h
  .rename_i c1 W1 h1; exact rdFs_rng h (rdF_rng h1 r)
  .cases h
theorem rdE_rng{W W':List Bs}{e:EvP}(h:rdE W=some (e,W')):RngC e.call:=by
 have mp:∀{α:Type}{o:Option (α×List Bs)}{f:α->EvP},(∀ a,RngC (f a).call)->o.map (fun p=>(f p.1,p.2))=some (e,W')->RngC e.call:=fun {α o f} hf h=>by
  cases o with
  | none=>cases h
  | some p=>cases h; exact hf p.1
 cases W with
 | nil=>cases h
 | cons x W =>
  rw [rdE] at h
  split at h
  .exact mp (f:=fun n:Nat=>{ evP0 2 with n:=n }) (fun _ => .zero _) h
  split at h
  .exact mp (f:=fun n:Nat=>{ evP0 3 with n:=n }) (fun _ => .zero _) h
  split at h
  .exact mp (f:=fun n=>{ evP0 4 with masks:=n }) (fun _ => .zero _) h
  split at h
  .cases h; exact .zero _
  split at h
  .split at h
   .split at h
    .rename_i b _ _ _ n _ _
     exact mp (f:=fun l=>{ evP0 6 with block:=(b:Nat),n:=(n:Nat),bytes:=l }) (fun _ => .zero _) h
    .cases h
   .cases h
  split at h
  .rename_i k fs hf
   cases hr:rdFs fs W (callP0 k) with
   | none=>rw [hr] at h; cases h
   | some p=>rw [hr] at h; cases h; exact rdFs_rng (c':=p.1) (W':=p.2) hr (.zero _)
  .cases h
theorem decB_no(u:Nat){c:UInt8}(h:¬ isDig c):c ∉ decB u:=fun hm=>h (decB_dig u c hm)
theorem hexB_no{l:Bs}{c:UInt8}(h:dgt c=16):c ∉ hexB l:=fun hm=>by have:=hexB_dgt l c hm; omega
theorem hexW_no{l:Bs}{c:UInt8}(h:dgt c=16)(h2:c≠45):c ∉ hexW l:=by
 unfold hexW
 split
 .simpa using h2
 .exact hexB_no h
theorem maskW_no{l:Bs}{c:UInt8}(hl:∀ m∈l,m.toNat<=15)(h:dgt c=16)(h2:c≠45):c ∉ maskW l:=by
 unfold maskW
 split
 .simpa using h2
 .exact fun hm=>by have:=mask_dgt hl c hm; omega
theorem telF_no(f:FId)(c:CallP){b:UInt8}(h1:¬ isDig b)(h2:dgt b=16)(h3:b≠45)(h4:b ∉ sdrop/\b ∉ sput/\b ∉ sback/\b ∉ son):∀ x∈telF f c,b ∉ x:=by
 intro x hx
 have one:∀{y:Bs},x∈[y]->b ∉ y->b ∉ x:=fun h1 h2=>by rw [List.mem_singleton] at h1; rw [h1]; exact h2
 cases f with
 | ops =>
  obtain ⟨o,ho,hx⟩:=List.mem_flatMap.1 hx
  unfold opW1 at hx
  split at hx
  .simp only [List.mem_cons,List.not_mem_nil,or_false] at hx
   rcases hx with rfl | rfl
   .exact h4.1
   .exact hexW_no h2 h3
  .simp only [List.mem_cons,List.not_mem_nil,or_false] at hx
   rcases hx with rfl | rfl | rfl
   .exact h4.2.1
   .exact hexW_no h2 h3
   .exact hexW_no h2 h3
 | way=>exact one hx (by split; exact h4.2.2.1; exact h4.2.2.2)
 | tenant=>exact one hx (decB_no _ h1)
 | handle=>exact one hx (decB_no _ h1)
 | snap=>exact one hx (decB_no _ h1)
 | count=>exact one hx (decB_no _ h1)
 | quota=>exact one hx (decB_no _ h1)
 | rights=>exact one hx (decB_no _ h1)
 | other=>exact one hx (decB_no _ h1)
 | secret=>exact one hx (hexW_no h2 h3)
 | key=>exact one hx (hexW_no h2 h3)
 | frm=>exact one hx (hexW_no h2 h3)
 | upto=>exact one hx (hexW_no h2 h3)
def OffB(b:UInt8):Prop:=¬ isDig b/\dgt b=16/\b≠45/\b.toNat < 97
theorem off_low{b:UInt8}(h:OffB b){x:Bs}(hx:x.all (fun c=>decide (97<=c.toNat))=true):b ∉ x:=fun hm=>by
 have:=List.all_eq_true.1 hx b hm
 simp only [decide_eq_true_eq] at this
 have:=h.2.2.2; omega
theorem formP_low:∀ k g,formP k=some g->g.1.all (fun c=>decide (97<=c.toNat))=true/\g.1≠[]:=by
 intro k g h
 match k,h with
 | 1,h | 2,h | 3,h | 4,h | 5,h | 6,h | 7,h | 8,h | 9,h | 10,h | 11,h | 12,h | 13,h | 14,h | 15,h | 16,h=>cases h; decide
 | 0,h=>cases h
 | n+17,h=>cases h
theorem words_no{e:EvP}(h:MayE e){b:UInt8}(hb:OffB b):∀ x∈wordsE e,b ∉ x:=by
 intro x hx
 have two:∀{a c:Bs},x∈[a,c]->b ∉ a->b ∉ c->b ∉ x:=fun h1 h2 h3=>by
  simp only [List.mem_cons,List.not_mem_nil,or_false] at h1
  rcases h1 with rfl | rfl
  .exact h2
  .exact h3
 rcases h with h | h | h | h | h
 .obtain ⟨hk,hn,hm,⟨hb',hy⟩,g,hg,lb,hc⟩:=h
  rw [wordsE_1 hk hg] at hx
  obtain ⟨k,ek,hf⟩:=formI_nat hg
  rcases List.mem_cons.1 hx with rfl | hx
  .exact off_low hb (formP_low k g hf).1
  .obtain ⟨f,_,hx⟩:=List.mem_flatMap.1 hx
   exact telF_no f _ hb.1 hb.2.1 hb.2.2.1 ⟨off_low hb (by decide),off_low hb (by decide),off_low hb (by decide),off_low hb (by decide)⟩ x hx
 .obtain ⟨hk,hc,hm,⟨hb',hy⟩,hn⟩:=h
  rcases hk with hk | hk
  .rw [wordsE_2 hk] at hx
   exact two hx (off_low hb (by decide)) (decB_no _ hb.1)
  .rw [wordsE_3 hk] at hx
   exact two hx (off_low hb (by decide)) (decB_no _ hb.1)
 .obtain ⟨hk,hc,hn,⟨hb',hy⟩,hl,hm⟩:=h
  rw [wordsE_4 hk] at hx
  exact two hx (off_low hb (by decide)) (maskW_no hm hb.2.1 hb.2.2.1)
 .obtain ⟨hk,hc,hn,hm,hb',hy⟩:=h
  rw [wordsE_5 hk,List.mem_singleton] at hx
  rw [hx]; exact off_low hb (by decide)
 .obtain ⟨hk,hc,hm,hn,hb',hy⟩:=h
  rw [wordsE_6 hk] at hx
  simp only [List.mem_cons,List.not_mem_nil,or_false] at hx
  rcases hx with rfl | rfl | rfl | rfl
  .exact off_low hb (by decide)
  .exact decB_no _ hb.1
  .exact decB_no _ hb.1
  .exact hexW_no hb.2.1 hb.2.2.1
theorem off32:OffB 32:=by unfold OffB; decide
theorem off10:OffB 10:=by unfold OffB; decide
theorem words_hd{e:EvP}(h:MayE e):∃ x W,wordsE e=x::W/\x.all (fun c=>decide (97<=c.toNat))=true/\x≠[]:=by
 rcases h with h | h | h | h | h
 .obtain ⟨hk,hn,hm,⟨hb',hy⟩,g,hg,lb,hc⟩:=h
  obtain ⟨k,ek,hf⟩:=formI_nat hg
  exact ⟨_,_,wordsE_1 hk hg,formP_low k g hf⟩
 .rcases h.1 with hk | hk
  .exact ⟨_,_,wordsE_2 hk,by decide,by decide⟩
  .exact ⟨_,_,wordsE_3 hk,by decide,by decide⟩
 .exact ⟨_,_,wordsE_4 h.1,by decide,by decide⟩
 .exact ⟨_,_,wordsE_5 h.1,by decide,by decide⟩
 .exact ⟨_,_,wordsE_6 h.1,by decide,by decide⟩
theorem split_line{e:EvP}(h:MayE e):splitB 32 (lineE e)=wordsE e:=by
 obtain ⟨x,W,hw,_⟩:=words_hd h
 exact splitB_join (by rw [hw]; simp) fun x hx=>words_no h off32 x hx
theorem unE_line{e:EvP}(h:MayE e)(rg:RngC e.call):unE (lineE e)=some e:=by
 unfold unE
 rw [split_line h,rdE_tell h rg]
 simp only [if_pos h]
theorem unE_some{l:Bs}{e:EvP}(h:unE l=some e):MayE e/\lineE e=l/\rdE (splitB 32 l)=some (e,[]):=by
 unfold unE at h
 split at h
 .rename_i e' hr
  split at h
  .rename_i hm; cases h
   refine ⟨hm,?_,hr⟩
   unfold lineE
   rw [rdE_told hr,joinB_split]
  .cases h
 .cases h
theorem mem_joinB{c b:UInt8}:∀{W:List Bs},b∈joinB c W->b=c∨∃ x∈W,b∈x
 | [],h=>by cases h
 | [x],h => .inr ⟨x,by simp,by simpa [joinB] using h⟩
 | x::y::W,h=>by
  rw [joinB_cons c x (by simp)] at h
  rcases List.mem_append.1 h with h | h
  .exact .inr ⟨x,by simp,h⟩
  .rcases List.mem_cons.1 h with h | h
   .exact .inl h
   .rcases mem_joinB h with h | ⟨z,hz,h⟩
    .exact .inl h
    .exact .inr ⟨z,List.mem_cons_of_mem _ hz,h⟩
theorem line_no10{e:EvP}(h:MayE e):(10:UInt8) ∉ lineE e:=fun hm=>by
 rcases mem_joinB hm with h1 | ⟨x,hx,h1⟩
 .exact absurd h1 (by decide)
 .exact words_no h off10 x hx h1
theorem line_hd{e:EvP}(h:MayE e):∃ b l,lineE e=b::l/\97<=b.toNat:=by
 obtain ⟨x,W,hw,hx,hne⟩:=words_hd h
 cases x with
 | nil=>exact (hne rfl).elim
 | cons b x =>
  have hb:=List.all_eq_true.1 hx b (by simp)
  simp only [decide_eq_true_eq] at hb
  unfold lineE
  rw [hw]
  cases W with
  | nil=>exact ⟨b,x,rfl,hb⟩
  | cons y W=>exact ⟨b,x++32::joinB 32 (y::W),by rw [joinB_cons 32 _ (by simp)]; rfl,hb⟩
def uStep(n:Nat)(c:UInt8):Nat:=(n * 10+(c.toNat+208) % 256) % 18446744073709551616
def uD(s:Bs):Nat:=(s.take 20).foldl uStep 0
theorem uStep_lt(l:Bs){n:Nat}(h:n < 18446744073709551616):l.foldl uStep n < 18446744073709551616:=by
 induction l generalizing n with
 | nil=>exact h
 | cons c l ih=>exact ih (Nat.mod_lt _ (by decide))
theorem uD_lt(s:Bs):uD s < 18446744073709551616:=uStep_lt _ (by decide)
theorem uStep_val:∀(l a:Bs),(∀ c∈l,isDig c)->valB (a++l) < 18446744073709551616->l.foldl uStep (valB a)=valB (a++l)
 | [],a,_,_=>by simp
 | c::l,a,hd,h=>by
  have hc:=hd c (by simp)
  have e:a++c::l=(a++[c])++l:=by simp
  rw [e] at h ⊢
  have hm:=valB_mono l (a++[c])
  have e2:uStep (valB a) c=valB (a++[c]):=by
   rw [valB_snoc] at hm ⊢
   have h1:=hc.1; have h2:=hc.2
   unfold uStep
   rw [show (c.toNat+208) % 256=c.toNat - 48 by omega]
   exact Nat.mod_eq_of_lt (by omega)
  rw [List.foldl_cons,e2]
  exact uStep_val l (a++[c]) (fun x hx=>hd x (by simp [hx])) h
theorem uD_dec{n:Nat}(h:n < 2 ^ 64):uD (decB n)=n:=by
 unfold uD
 rw [List.take_of_length_le (decB_20 h)]
 have:=uStep_val (decB n) [] (decB_dig n) (by rw [List.nil_append,valB_dec]; exact h)
 rw [List.nil_append,valB_dec] at this
 exact this
def numD(s:Bs):Nat:=if 1099511627776 < uD s∨12 < s.length then 1099511627776 else uD s
theorem nd_small{u:Nat}(h:u<=1073741824):nd u<=12:=by
 by_cases h1:u < 10
 .unfold nd; rw [if_pos h1]; omega
 have:=nd_ge u (by omega)
 rcases Nat.lt_or_ge 12 (nd u) with h3 | h3
 .have:10 ^ 12<=10 ^ (nd u - 1):=Nat.pow_le_pow_right (by decide) (by omega)
  omega
 .exact h3
theorem numD_dec{n:Nat}(h:n<=1073741824):numD (decB n)=n:=by
 unfold numD
 rw [uD_dec (by omega),if_neg]
 have:(decB n).length<=12:=by unfold decB; rw [digs_len]; exact nd_small h
 omega
def smallD(B:Nat)(s:Bs):Nat:=if uD s / 2 ^ B=0 then uD s else 0
theorem smallD_dec{B n:Nat}(h:n < 2 ^ B)(h2:n < 2 ^ 64):smallD B (decB n)=n:=by
 unfold smallD
 rw [uD_dec h2,if_pos (Nat.div_eq_of_lt h)]
def d16(c:UInt8):Nat:=if dgt c < 16 then dgt c else 0
theorem d16_lt(c:UInt8):d16 c < 16:=by unfold d16; split <;> omega
theorem d16_of{c:UInt8}(h:dgt c < 16):d16 c=dgt c:=if_pos h
def hxD(s:Bs):Bs:=pairsB d16 s
theorem hxD_hex(l:Bs):hxD (hexW l)=l:=by
 unfold hexW
 split
 .rename_i h; subst h; rfl
 .exact pairsB_hexB (fun x h=>d16_of h) l
def atD(W:List Bs)(i:Nat):Bs:=W.getD i []
def opsD:Nat->List Bs->List OpP
 | 0,_=>[]
 | _+1,[]=>[]
 | n+1,x::W=>if x=sdrop then ⟨hxD (atD W 0),[],true⟩::opsD n (W.drop 1) else ⟨hxD (atD W 0),hxD (atD W 1),false⟩::opsD n (W.drop 2)
theorem opsD_tell:∀(n:Nat)(l:List OpP),l.length<=n->(∀ o∈l,o.drop=true->o.val=[])->opsD n (l.flatMap opW1)=l
 | 0,l,h,_=>by have:l=[]:=List.length_eq_zero_iff.1 (by omega); subst this; rfl
 | n+1,[],_,_=>rfl
 | n+1,o::l,h,hv=>by
  have ih:=opsD_tell n l (by simp at h; omega) fun x hx=>hv x (by simp [hx])
  rw [List.flatMap_cons]
  obtain ⟨k,v,d⟩:=o
  cases d with
  | true =>
   have e:=hv _ (List.mem_cons_self) rfl
   simp only at e; subst e
   show opsD (n+1) (sdrop::hexW k::l.flatMap opW1)=_
   rw [opsD,if_pos rfl]
   simp only [atD,List.getD_cons_zero,hxD_hex,List.drop_one,List.tail_cons,ih]
  | false =>
   show opsD (n+1) (sput::hexW k::hexW v::l.flatMap opW1)=_
   rw [opsD,if_neg (by decide)]
   simp only [atD,List.getD_cons_zero,List.getD_cons_succ,hxD_hex,List.drop_succ_cons,List.drop_zero,ih]
def askP(k:Nat)(W:List Bs):CallP :=
 { kind:=k,tenant:=smallD 32 (atD W 1),secret:=hxD (atD W 2),quota:=numD (atD W 3),n:=if k=13 then numD (atD W 5) else numD (atD W 2),handle:=uD (atD W 1),other:=uD (atD W 2),snap:=uD (atD W 2),rights:=smallD 8 (atD W 2),ops:=if k=11 then opsD 200 (W.drop 2) else [],key:=hxD (atD W 3),frm:=hxD (atD W 3),upto:=hxD (atD W 4),back:=decide (k=13/\atD W 6=sback) }
def askD(W:List Bs):CallP:=match findF (atD W 0) with
 | some (k,fs)=>bareF fs (askP k W)
 | none=>askP 0 W
def maskD(m:Bs):Bs:=if m=[45] then [] else m.map fun c=>UInt8.ofNat (d16 c)
def candE(W:List Bs):EvP :=
 if atD W 0=wfail then { evP0 2 with n:=numD (atD W 1) }
 else if atD W 0=wcut then { evP0 3 with n:=numD (atD W 1) }
 else if atD W 0=wcrash then { evP0 4 with masks:=maskD (atD W 1) }
 else if atD W 0=wopen then evP0 5
 else if atD W 0=wforeign then { evP0 6 with block:=numD (atD W 1),n:=numD (atD W 2),bytes:=hxD (atD W 3) }
 else { evP0 1 with call:=askD W }
theorem maskD_mask{l:Bs}(h:∀ m∈l,m.toNat<=15):maskD (maskW l)=l:=by
 unfold maskW
 split
 .rename_i e; subst e; rfl
 .rename_i e
  have hd:=mask_dgt h
  unfold maskD
  rw [if_neg]
  .conv=>rhs; rw [<- mask_back h]
   exact List.map_congr_left fun c hc=>by rw [d16_of (hd c hc)]
  .intro e2
   have:=hd 45 (by rw [e2]; simp)
   rw [dgt_45] at this; omega
theorem ask_bare{k:Nat}{g:Bs×List FId}{c:CallP}(hk:formP k=some g)(h:LimC c)(ek:c.kind=(k:Int)):bareF g.2 (askP k (g.1::telFs g.2 c))=bareF g.2 c:=by
 have t:=h.tenant; have q:=h.quota; have n:=h.n; have hh:=h.handle; have ot:=h.other; have sn:=h.snap; have ri:=h.rights
 have e1:((smallD 32 (decB c.tenant.toNat):Nat):Int)=c.tenant:=by rw [smallD_dec (by omega) (by omega)]; exact nat_of t.1
 have e2:((numD (decB c.quota.toNat):Nat):Int)=c.quota:=by rw [numD_dec (by omega)]; exact nat_of q.1
 have e3:((numD (decB c.n.toNat):Nat):Int)=c.n:=by rw [numD_dec (by omega)]; exact nat_of n.1
 have e4:((uD (decB c.handle.toNat):Nat):Int)=c.handle:=by rw [uD_dec (by omega)]; exact nat_of hh.1
 have e5:((uD (decB c.other.toNat):Nat):Int)=c.other:=by rw [uD_dec (by omega)]; exact nat_of ot.1
 have e6:((uD (decB c.snap.toNat):Nat):Int)=c.snap:=by rw [uD_dec (by omega)]; exact nat_of sn.1
 have e7:((smallD 8 (decB c.rights.toNat):Nat):Int)=c.rights:=by rw [smallD_dec (by omega) (by omega)]; exact nat_of ri.1
 have e8:opsD 200 (c.ops.flatMap opW1)=c.ops:=opsD_tell 200 c.ops (by have:=h.opl; omega) fun o ho=>(h.ops o ho).2.2
 have e9:decide ((if c.back=true then sback else son)=sback)=c.back:=by
  cases c.back
  .decide
  .decide
 have hop:(askP 11 (g.1::decB c.handle.toNat::c.ops.flatMap opW1)).ops=c.ops:=by
  show (if 11=11 then opsD 200 ((g.1::decB c.handle.toNat::c.ops.flatMap opW1).drop 2) else [])=_
  rw [if_pos rfl]; exact e8
 match k,hk with
 | 1,hk=>cases hk; simp [bareF,pickF,askP,telFs,telF,atD,callP0,hxD_hex,e1,e2,ek]
 | 2,hk=>cases hk; simp [bareF,pickF,askP,telFs,telF,atD,callP0,e1,ek]
 | 3,hk=>cases hk; simp [bareF,pickF,askP,telFs,telF,atD,callP0,e1,ek]
 | 4,hk=>cases hk; simp [bareF,pickF,askP,telFs,telF,atD,callP0,e1,e3,ek]
 | 5,hk=>cases hk; simp [bareF,pickF,askP,telFs,telF,atD,callP0,e1,ek]
 | 6,hk=>cases hk; simp [bareF,askP,callP0,ek]
 | 7,hk=>cases hk; simp [bareF,askP,callP0,ek]
 | 8,hk=>cases hk; simp [bareF,pickF,askP,telFs,telF,atD,callP0,hxD_hex,e1,ek]
 | 9,hk=>cases hk; simp [bareF,pickF,askP,telFs,telF,atD,callP0,e4,e7,ek]
 | 10,hk=>cases hk; simp [bareF,pickF,askP,telFs,telF,atD,callP0,e4,e5,ek]
 | 11,hk=>cases hk; simp [bareF,pickF,askP,telFs,telF,atD,callP0,e4,e8,ek]
 | 12,hk=>cases hk; simp [bareF,pickF,askP,telFs,telF,atD,callP0,hxD_hex,e4,e6,ek]
 | 13,hk =>
  cases hk
  cases hb:c.back <;> simp [bareF,pickF,askP,telFs,telF,atD,callP0,hxD_hex,e4,e6,e3,ek,hb,sback,son]
 | 14,hk=>cases hk; simp [bareF,pickF,askP,telFs,telF,atD,callP0,e4,ek]
 | 15,hk=>cases hk; simp [bareF,pickF,askP,telFs,telF,atD,callP0,e4,e6,ek]
 | 16,hk=>cases hk; simp [bareF,pickF,askP,telFs,telF,atD,callP0,e4,ek]
 | 0,hk=>cases hk
 | n+17,hk=>cases hk
theorem atD_zero(x:Bs)(W:List Bs):atD (x::W) 0=x:=rfl
theorem candE_tell{e:EvP}(h:MayE e)(rg:RngC e.call):candE (wordsE e)=e:=by
 rcases h with h | h | h | h | h
 .obtain ⟨hk,hn,hm,⟨hb,hy⟩,g,hg,lb,hc⟩:=h
  rw [wordsE_1 hk hg]
  obtain ⟨n1,n2,n3,n4,n5⟩:=formI_wd hg
  obtain ⟨k,ek,hf⟩:=formI_nat hg
  have e0:atD (g.1::telFs g.2 e.call) 0=g.1:=rfl
  unfold candE
  rw [e0,if_neg n1,if_neg n2,if_neg n3,if_neg n4,if_neg n5]
  refine evP_eta (e:=e) hk ?_ hn hb hm hy
  unfold askD
  rw [e0,findF_form k g hf]
  simp only
  rw [ask_bare hf (lb.lim rg) ek]; exact hc
 .obtain ⟨hk,hc,hm,⟨hb,hy⟩,hn⟩:=h
  have e1:((numD (decB e.n.toNat):Nat):Int)=e.n:=by rw [numD_dec (by omega)]; exact nat_of hn.1
  rcases hk with hk | hk
  .rw [wordsE_2 hk]
   unfold candE
   rw [atD_zero,if_pos rfl]
   exact evP_eta (e:=e) hk hc e1.symm hb hm hy
  .rw [wordsE_3 hk]
   unfold candE
   rw [atD_zero,if_neg (by decide),if_pos rfl]
   exact evP_eta (e:=e) hk hc e1.symm hb hm hy
 .obtain ⟨hk,hc,hn,⟨hb,hy⟩,hl,hm⟩:=h
  rw [wordsE_4 hk]
  unfold candE
  rw [atD_zero,if_neg (by decide),if_neg (by decide),if_pos rfl]
  exact evP_eta (e:=e) hk hc hn hb (maskD_mask hm).symm hy
 .obtain ⟨hk,hc,hn,hm,hb,hy⟩:=h
  rw [wordsE_5 hk]
  unfold candE
  rw [atD_zero,if_neg (by decide),if_neg (by decide),if_neg (by decide),if_pos rfl]
  exact evP_eta (e:=e) hk hc hn hb hm hy
 .obtain ⟨hk,hc,hm,hn,hb,hy⟩:=h
  have e1:((numD (decB e.n.toNat):Nat):Int)=e.n:=by rw [numD_dec (by omega)]; exact nat_of hn.1
  have e2:((numD (decB e.block.toNat):Nat):Int)=e.block:=by rw [numD_dec (by omega)]; exact nat_of hb.1
  rw [wordsE_6 hk]
  unfold candE
  rw [atD_zero,if_neg (by decide),if_neg (by decide),if_neg (by decide),if_neg (by decide),if_pos rfl]
  exact evP_eta (e:=e) hk hc e1.symm e2.symm hm (hxD_hex _).symm
theorem uD_rng(s:Bs):(0:Int)<=(uD s:Nat)/\((uD s:Nat):Int) < 18446744073709551616:=⟨by omega,by have:=uD_lt s; omega⟩
theorem smallD_lt{B:Nat}(s:Bs):smallD B s < 2 ^ B:=by
 have hp:0 < 2 ^ B:=Nat.two_pow_pos B
 unfold smallD
 split
 .rename_i h
  rcases Nat.lt_or_ge (uD s) (2 ^ B) with h1 | h1
  .exact h1
  .have:=Nat.div_pos h1 hp; omega
 .exact hp
theorem unE_cand(l:Bs){e:EvP}(he:e=candE (splitB 32 l))(rg:RngC e.call):(MayE e/\lineE e=l->unE l=some e)/\(¬ (MayE e/\lineE e=l)->unE l=none):=by
 constructor
 .rintro ⟨h1,h2⟩
  rw [<- h2]; exact unE_line h1 rg
 .intro h
  cases hu:unE l with
  | none=>rfl
  | some x =>
   exfalso
   obtain ⟨h1,h2,h3⟩:=unE_some hu
   have rx:RngC x.call:=rdE_rng h3
   have e1:=candE_tell h1 rx
   rw [<- split_line h1,h2,<- he] at e1
   rw [e1] at h
   exact h ⟨h1,h2⟩
abbrev KEv:Type:=Int->Int->Int->Sl->Int->Int->Int->Int->Int->Int->Sl->Sl->Sl->Sl->Bool->Int->Int->Sl->Sl->Wd->Prop
abbrev CellsE(w:Wd)(b:Nat)(K:KEv):Prop :=
 ∃ c0:Int,Cell w (Addr.mk b 0 none) (.int .i64 c0) /\
 ∃ c1:Int,Cell w ((Addr.mk b 0 none).add 1) (.int .i64 c1) /\
 ∃ c2:Int,Cell w ((Addr.mk b 0 none).add 2) (.int .u32 c2) /\
 ∃ c3:Sl,Cell w ((Addr.mk b 0 none).add 3) (.slice c3.a c3.len c3.cap) /\
 ∃ c4:Int,Cell w ((Addr.mk b 0 none).add 4) (.int .i64 c4) /\
 ∃ c5:Int,Cell w ((Addr.mk b 0 none).add 5) (.int .i64 c5) /\
 ∃ c6:Int,Cell w ((Addr.mk b 0 none).add 6) (.int .u64 c6) /\
 ∃ c7:Int,Cell w ((Addr.mk b 0 none).add 7) (.int .u64 c7) /\
 ∃ c8:Int,Cell w ((Addr.mk b 0 none).add 8) (.int .u64 c8) /\
 ∃ c9:Int,Cell w ((Addr.mk b 0 none).add 9) (.int .u8 c9) /\
 ∃ c10:Sl,Cell w ((Addr.mk b 0 none).add 10) (.slice c10.a c10.len c10.cap) /\
 ∃ c11:Sl,Cell w ((Addr.mk b 0 none).add 11) (.slice c11.a c11.len c11.cap) /\
 ∃ c12:Sl,Cell w ((Addr.mk b 0 none).add 12) (.slice c12.a c12.len c12.cap) /\
 ∃ c13:Sl,Cell w ((Addr.mk b 0 none).add 13) (.slice c13.a c13.len c13.cap) /\
 ∃ c14:Bool,Cell w ((Addr.mk b 0 none).add 14) (.bool c14) /\
 ∃ c15:Int,Cell w ((Addr.mk b 0 none).add 15) (.int .i64 c15) /\
 ∃ c16:Int,Cell w ((Addr.mk b 0 none).add 16) (.int .i64 c16) /\
 ∃ c17:Sl,Cell w ((Addr.mk b 0 none).add 17) (.slice c17.a c17.len c17.cap) /\
 ∃ c18:Sl,Cell w ((Addr.mk b 0 none).add 18) (.slice c18.a c18.len c18.cap) /\
 K c0 c1 c2 c3 c4 c5 c6 c7 c8 c9 c10 c11 c12 c13 c14 c15 c16 c17 c18 w
abbrev KEv.at(K:KEv)(v:EvV)(w:Wd):Prop:=K v.kind v.call.kind v.call.tenant v.call.secret v.call.quota v.call.n v.call.handle v.call.other v.call.snap v.call.rights v.call.ops v.call.key v.call.frm v.call.upto v.call.back v.n v.block v.masks v.bytes w
theorem CellsE.mk{w:Wd}{b:Nat}{v:EvV}{T:TypeId}{K:KEv}(g:w.heap[b]? = some (.cells v.cells.toArray T (0,0)))(k:K.at v w):CellsE w b K :=
 ⟨v.kind,Cell.lst g rfl,v.call.kind,Cell.lst g rfl,v.call.tenant,Cell.lst g rfl,v.call.secret,Cell.lst g rfl,v.call.quota,Cell.lst g rfl,v.call.n,Cell.lst g rfl,v.call.handle,Cell.lst g rfl,v.call.other,Cell.lst g rfl,v.call.snap,Cell.lst g rfl,v.call.rights,Cell.lst g rfl,v.call.ops,Cell.lst g rfl,v.call.key,Cell.lst g rfl,v.call.frm,Cell.lst g rfl,v.call.upto,Cell.lst g rfl,v.call.back,Cell.lst g rfl,v.n,Cell.lst g rfl,v.block,Cell.lst g rfl,v.masks,Cell.lst g rfl,v.bytes,Cell.lst g rfl,k⟩
theorem born_inj{l:List MapEntry}(hn:(l.map (·.born)).Nodup){e e':MapEntry}(h:e∈l)(h':e'∈l)(hb:e.born=e'.born):e=e':=by
 induction l with
 | nil=>cases h
 | cons x l ih =>
  simp only [List.map_cons,List.nodup_cons] at hn
  rcases List.mem_cons.1 h with h1 | h1 <;> rcases List.mem_cons.1 h' with h2 | h2
  .rw [h1,h2]
  .exact absurd (List.mem_map.2 ⟨e',h2,by rw [<- hb,h1]⟩) hn.1
  .exact absurd (List.mem_map.2 ⟨e,h1,by rw [hb,h2]⟩) hn.1
  .exact ih hn.2 h1 h2
theorem indexB_hx(c:UInt8):Lib.indexByte hx16 c=if dgt c < 16 then (dgt c:Int) else -1:=by
 have key:∀ n:Fin 256,Lib.indexByte hx16 (UInt8.ofNat n.val)=if dgt (UInt8.ofNat n.val) < 16 then (dgt (UInt8.ofNat n.val):Int) else -1:=by decide +kernel
 have:=key ⟨c.toNat,c.toNat_lt⟩
 simp only [UInt8.ofNat_toNat] at this
 exact this
theorem EvR.mono{Q Q':Nat->Prop}{h:Array Obj}{v:EvV}{e:EvP}(r:EvR Q h v e)(hq:∀ b,Q b->Q' b):EvR Q' h v e:=⟨r.kind,r.call.mono hq,r.n,r.block,r.masks.mono hq,r.bytes.mono hq⟩
theorem SmW.next{x:Bs}{W W':List Bs}(h:SmW W)(e:rdNext W=some (x,W')):W=x::W':=by
 cases W with
 | nil=>cases e
 | cons y W=>cases e; rfl
theorem rdOps_len{W:List Bs}{l:List OpP}(h:rdOps W=some l):l.length<=W.length:=by
 rw [rdOps_some h]
 clear h
 induction l with
 | nil=>simp
 | cons o l ih =>
  rw [List.flatMap_cons,List.length_append,List.length_cons]
  have:1<=(opW1 o).length:=by unfold opW1; split <;> simp
  omega
theorem rdF_len{f:FId}{W W':List Bs}{c c':CallP}(h:rdF f W c=some (c',W')):c'.ops.length+W'.length<=c.ops.length+W.length:=by
 have num:∀{B:Nat}{g:Nat->CallP},(∀ n,(g n).ops=c.ops)->(rdNum B W).map (fun p=>(g p.1,p.2))=some (c',W')->c'.ops.length+W'.length<=c.ops.length+W.length:=fun {B g} hg h=>by
  cases hn:rdNum B W with
  | none=>rw [hn] at h; cases h
  | some p=>obtain ⟨a,b⟩:=p; rw [hn] at h; cases h; rw [hg,(rdNum_some hn).1]; simp
 have byt:∀{g:Bs->CallP},(∀ n,(g n).ops=c.ops)->(rdByt W).map (fun p=>(g p.1,p.2))=some (c',W')->c'.ops.length+W'.length<=c.ops.length+W.length:=fun {g} hg h=>by
  cases hn:rdByt W with
  | none=>rw [hn] at h; cases h
  | some p=>obtain ⟨a,b⟩:=p; rw [hn] at h; cases h; rw [hg,rdByt_some hn]; simp
 cases f with
 | tenant=>exact num (B:=32) (g:=fun n=>{ c with tenant:=n }) (fun _=>rfl) h
 | handle=>exact num (B:=64) (g:=fun n=>{ c with handle:=n }) (fun _=>rfl) h
 | snap=>exact num (B:=64) (g:=fun n=>{ c with snap:=n }) (fun _=>rfl) h
 | count=>exact num (B:=31) (g:=fun n=>{ c with n:=n }) (fun _=>rfl) h
 | quota=>exact num (B:=31) (g:=fun n=>{ c with quota:=n }) (fun _=>rfl) h
 | rights=>exact num (B:=8) (g:=fun n=>{ c with rights:=n }) (fun _=>rfl) h
 | other=>exact num (B:=64) (g:=fun n=>{ c with other:=n }) (fun _=>rfl) h
 | secret=>exact byt (g:=fun n=>{ c with secret:=n }) (fun _=>rfl) h
 | key=>exact byt (g:=fun n=>{ c with key:=n }) (fun _=>rfl) h
 | frm=>exact byt (g:=fun n=>{ c with frm:=n }) (fun _=>rfl) h
 | upto=>exact byt (g:=fun n=>{ c with upto:=n }) (fun _=>rfl) h
 | ops =>
  simp only [rdF] at h
  cases hn:rdOps W with
  | none=>rw [hn] at h; cases h
  | some l=>rw [hn] at h; cases h; have:=rdOps_len hn; simp only [List.length_append,List.length_nil]; omega
 | way =>
  cases W with
  | nil=>cases h
  | cons x W =>
   rw [rdF] at h
   split at h
   .cases h; simp
   .split at h
    .cases h; simp
    .cases h
theorem rdFs_step{f:FId}{fs:List FId}{W W':List Bs}{c c':CallP}(h:rdF f W c=some (c',W')):rdFs (f::fs) W c=rdFs fs W' c':=by rw [rdFs,h]
theorem rdFs_stop{f:FId}{fs:List FId}{W:List Bs}{c:CallP}(h:rdF f W c=none):rdFs (f::fs) W c=none:=by rw [rdFs,h]
end Go.V
namespace Go.Proofs.YtimonamjecmlcaaGreatDoor
open Go.V
def RdrL(h:Array Obj)(br n:Nat):Prop:=∃ s:Sl,h[br]? = some (.cells [.slice s.a s.len s.cap].toArray 86 (0,0))/\s.len=n
theorem RdrR.left{Q:Nat->Prop}{h:Array Obj}{br:Nat}{W:List Bs}(r:RdrR Q h br W):RdrL h br W.length:=by obtain ⟨s,g,r,_⟩:=r; exact ⟨s,g,RdW.len r⟩
theorem RdrL.ext{S:Nat->Prop}{w w':Wd}{br n:Nat}(r:RdrL w.heap br n)(x:Ext S w w')(h:¬ S br):RdrL w'.heap br n:=by obtain ⟨s,g,hl⟩:=r; exact ⟨s,get_ext g x h,hl⟩
section
variable {w:Wd} {b:Nat} {W:List Bs} {X:PX} {Q:Nat->Prop}
theorem masks_spec{K:Sl->Wd->Prop}(h:RdrR Q w.heap b W)(hl:W.length<=1000000000)(hw:∀ x∈W,x.length<=100000000)
  (k:∀ l W' s w',rdMask W=some (l,W')->RdrR Q w'.heap b W'->OwnB w'.heap w.heap.size s l->Ext (·=b) w w'->K s w') (kx:∀ w',rdMask W=none->Ext (·=b) w w'->X wrongP w'):C_play_reader_masks (some ⟨b,0,none⟩) w K X:=by
 apply S_play_reader_masks
 refine next_spec h hl (fun x W' w1 e1 h1 x1=>?_) fun e=>kx w (by cases W with | nil=>rfl | cons x W=>cases e) (Ext.refl _ _)
 cases W with
 | nil=>cases e1
 | cons y W =>
  cases e1
  have hx:=hw x (by simp)
  have z1:=x1.size
  refine eqStr (b:=[45]) (fun e=>k [] W' _ w1 (by subst e; rfl) h1 (Own.nil _ _ _ _) x1) fun e0=>?_
  simp only [stB_size]
  refine ⟨fun m s t w'=>∃ j:Nat,t=j/\j<=x.length/\m=x.length - j/\OwnB w'.heap w1.heap.size s ((x.take j).map fun c=>UInt8.ofNat (dgt c))/\(∀ c∈x.take j,dgt c < 16)/\Ext No w1 w',⟨_,0,rfl,Nat.zero_le _,rfl,Own.nil _ _ _ _,by simp,Ext.refl _ _⟩,?_⟩
  rintro _ m0 s _ w2 ⟨j,rfl,hj,rfl,o2,hd,x2⟩
  have hl2:=OwnB.len o2
  rw [List.length_map,List.length_take,Nat.min_eq_left hj] at hl2
  refine If.dec (fun h=>ixS (by omega) (by omega) (indexByteS_spec (l:=hx16) ?_)) fun h=>?_
  .have hjl:j < x.length:=by omega
   have hv:(x[((j:Nat):Int).toNat]'(by omega))=x[j]:=rfl
   have tk:=take_snoc hjl
   rw [hv,indexB_hx]
   have hmem:x[j]∈x:=List.getElem_mem hjl
   generalize x[j]=c at *
   refine If.dec (fun h3=>kx w2 ?_ (x1.no x2)) fun h3=>?_
   .have:¬ dgt c < 16:=fun h4=>by rw [if_pos h4] at h3; omega
    rw [rdMask,if_neg e0,if_neg]
    exact fun hh=>this (hh.2 c hmem)
   .have h4:dgt c < 16:=by
     rcases Nat.lt_or_ge (dgt c) 16 with h4 | h4
     .exact h4
     .rw [if_neg (by omega)] at h3; omega
    rw [if_pos h4]
    refine Ar.u8 (by omega) (NewW.mk fun b3 w3 n3=>?_)
    have x3:=n3.ext
    have o3:=o2.no x3
    have e4:[Value.int .u8 ((dgt c:Nat):Int)]=byV [UInt8.ofNat (dgt c)]:=by
     have:(UInt8.ofNat (dgt c)).toNat=dgt c:=by simp; omega
     simp only [byV,uB,List.map_cons,List.map_nil,this]
    rw [e4] at n3
    have s3:OwnB w3.heap w2.heap.size ⟨some ⟨b3,0,none⟩,1,1⟩ [UInt8.ofNat (dgt c)]:=Own.new n3 rfl (byV_one _)
    have z2:=x2.size; have z3:=x3.size
    refine app_uint8 o3 (by omega) s3.rd.src (by simp only; omega) fun s4 w4 o4 l4 x4 _=>Ar.i64 (by omega) ⟨_,by omega,j+1,by omega,by omega,rfl,?_,?_,?_⟩
    .rw [tk,List.map_append]
     rw [<- byV_app] at o4; exact o4
    .intro d hd'
     rw [tk] at hd'
     rcases List.mem_append.1 hd' with h5 | h5
     .exact hd d h5
     .rw [List.mem_singleton] at h5; rw [h5]; exact h4
    .exact (x2.no x3).trans x4 fun q hq h=>by have:=(o3.lt h).1; omega
  .have hjn:j=x.length:=by omega
   subst hjn
   rw [List.take_length] at o2 hd
   refine If.beq (fun h0=>kx w2 ?_ (x1.no x2)) fun h0=>?_
   .rw [rdMask,if_neg e0,if_neg]
    intro hh
    have:=List.length_pos_iff.2 hh.1
    omega
   .refine k _ W' s w2 ?_ (h1.no x2) (o2.mono z1) (x1.no x2)
    rw [rdMask,if_neg e0,if_pos ⟨fun e=>h0 (by rw [e] at hl2; simp at hl2; omega),hd⟩]
end
section
variable {w:Wd} {br:Nat} {W:List Bs} {X:PX}
set_option maxHeartbeats 2000000 in
theorem event_spec{K:KEv}(g:Gl w.heap)(hbr:8<=br)(h:RdrR (fun q=>q≠br/\q < w.heap.size) w.heap br W)(sm:SmW W)
  (k:∀ v e W' w',rdE W=some (e,W')->RdrL w'.heap br W'.length->EvR (w.heap.size<=·) w'.heap v e->Ext (·=br) w w'->K.at v w') (kx:∀ w',rdE W=none->Ext (·=br) w w'->X wrongP w'):C_play_reader_event (some ⟨br,0,none⟩) w K X:=by
 apply S_play_reader_event
 refine NewW.mk fun b w1 n1=>?_
 have hb:=n1.at_; have z1:=n1.size
 have x01:=n1.ext
 have hbl:br < w.heap.size:=by obtain ⟨s,g0,_⟩:=h; exact blt g0
 have x1e:∀{w'},Ext (·=br) w1 w'->Ext (·=br) w w':=fun x=>x01.of_no.trans x fun _ _ h=>h
 have fin:∀{v e W' w2},rdE W=some (e,W')->RdrL w2.heap br W'.length->EvR (w1.heap.size<=·) w2.heap v e->Ext (·=br) w1 w2->StN w2 (Addr.mk b 0 none) v.cells fun w3=>CellsE w3 b K:=fun {v e W' w2} e1 r2 r x2=>by
  have g2:=get_ext n1.get x2 (by omega)
  refine StN.all g2 (by show v.cells.length=19; rfl) v.one fun w3 g3 x3 _=>CellsE.mk g3 (k v e W' w3 e1 (r2.ext x3 (by omega)) ?_ ?_)
  .exact (r.ext x3 fun q hq h=>by omega).mono fun q hq=>by omega
  .exact (x1e x2).trans x3 fun q hq h=>by omega
 refine next_spec (h.no x01) sm.1 (fun x W1 w2 e2 r2 x2=>?_) fun e=>kx w1 (by cases W with | nil=>rfl | cons x W=>cases e) (x1e (Ext.refl _ _))
 have hW:=sm.next e2
 subst hW
 have sm1:=sm.tail
 have z2:=x2.size
 have num:∀{kd:Int}{K1:Int->Wd->Prop},(∀ n W' w',rdNum 31 W1=some (n,W')->n < 2 ^ 31->RdrR (fun q=>q≠br/\q < w.heap.size) w'.heap br W'->Ext (·=br) w1 w'->K1 (n:Int) w')->(rdNum 31 W1=none->rdE (x::W1)=none)->C_play_reader_number (some ⟨br,0,none⟩) 31 w2 K1 X:=fun {kd K1} k1 kn=>by
  refine number_spec r2 (g.ext (x1e x2) fun q hq h=>by omega) hbr (B:=31) (by decide) sm1.1 sm1.2 (fun n W' w' e r x'=>k1 n W' w' e (rdNum_some e).2 r (x2.trans x' fun _ _ h=>h)) fun w' e x'=>kx w' (kn e) ((x1e x2).trans x' fun _ _ h=>h)
 refine eqStr (b:=wfail) (fun e=>num (kd:=2) (fun n W' w' e1 hn r' x'=>Ar.i64 (by omega) ⟨rfl,fin (v:=⟨2,callV0 0,n,0,⟨none,0,0⟩,⟨none,0,0⟩⟩) (e:={ evP0 2 with n:=n }) (W':=W') ?_ r'.left ?_ x'⟩) fun e1=>?_) fun n1'=>?_
 .rw [rdE,if_pos e,e1]; rfl
 .exact ⟨rfl,CallR.zero _ _ 0,rfl,rfl,RdQ.nil _ _,RdQ.nil _ _⟩
 .rw [rdE,if_pos e,e1]; rfl
 refine eqStr (b:=wcut) (fun e=>num (kd:=3) (fun n W' w' e1 hn r' x'=>Ar.i64 (by omega) ⟨rfl,fin (v:=⟨3,callV0 0,n,0,⟨none,0,0⟩,⟨none,0,0⟩⟩) (e:={ evP0 3 with n:=n }) (W':=W') ?_ r'.left ?_ x'⟩) fun e1=>?_) fun n2'=>?_
 .rw [rdE,if_neg n1',if_pos e,e1]; rfl
 .exact ⟨rfl,CallR.zero _ _ 0,rfl,rfl,RdQ.nil _ _,RdQ.nil _ _⟩
 .rw [rdE,if_neg n1',if_pos e,e1]; rfl
 refine eqStr (b:=wcrash) (fun e=>masks_spec r2 sm1.1 sm1.2 (fun l W' s w' e1 r' o' x'=>⟨rfl,fin (v:=⟨4,callV0 0,0,0,s,⟨none,0,0⟩⟩) (e:={ evP0 4 with masks:=l }) (W':=W') ?_ r'.left ?_ (x2.trans x' fun _ _ h=>h)⟩) fun w' e1 x'=>kx w' ?_ ((x1e x2).trans x' fun _ _ h=>h)) fun n3'=>?_
 .rw [rdE,if_neg n1',if_neg n2',if_pos e,e1]; rfl
 .exact ⟨rfl,CallR.zero _ _ 0,rfl,rfl, .own o' fun q h1 _=>by omega,RdQ.nil _ _⟩
 .rw [rdE,if_neg n1',if_neg n2',if_pos e,e1]; rfl
 refine eqStr (b:=wopen) (fun e=>⟨rfl,fin (v:=⟨5,callV0 0,0,0,⟨none,0,0⟩,⟨none,0,0⟩⟩) (e:=evP0 5) (W':=W1) ?_ r2.left ?_ x2⟩) fun n4'=>?_
 .rw [rdE,if_neg n1',if_neg n2',if_neg n3',if_pos e]
 .exact ⟨rfl,CallR.zero _ _ 0,rfl,rfl,RdQ.nil _ _,RdQ.nil _ _⟩
 refine eqStr (b:=wforeign) (fun e=>num (kd:=6) (fun n W' w' e1 hn r' x'=>Ar.i64 (by omega) ?_) fun e1=>?_) fun n5'=>?_
 .have sm2:=rdNum_tail e1 sm1
  refine number_spec r' (g.ext (x1e x') fun q hq h=>by omega) hbr (B:=31) (by decide) sm2.1 sm2.2 (fun m W2 w3 e3 r3 x3=>?_) fun w3 e3 x3=>kx w3 (by rw [rdE,if_neg n1',if_neg n2',if_neg n3',if_neg n4',if_pos e,e1]; simp only [e3]) ((x1e x').trans x3 fun _ _ h=>h)
  have hm:=(rdNum_some e3).2
  have sm3:=rdNum_tail e3 sm2
  have x13:=x'.trans x3 fun _ _ h=>h
  have z3:=x13.size
  refine Ar.i64 (by omega) (bytes_spec r3 sm3.1 sm3.2 (fun l W3 s w4 e4 r4 o4 x4=>⟨rfl,fin (v:=⟨6,callV0 0,m,n,⟨none,0,0⟩,s⟩) (e:={ evP0 6 with block:=n,n:=m,bytes:=l }) (W':=W3) ?_ r4.left ?_ (x13.trans x4 fun _ _ h=>h)⟩) fun w4 e4 x4=>kx w4 (by rw [rdE,if_neg n1',if_neg n2',if_neg n3',if_neg n4',if_pos e,e1]; simp only [e3,e4,Option.map_none]) ((x1e x13).trans x4 fun _ _ h=>h))
  .rw [rdE,if_neg n1',if_neg n2',if_neg n3',if_neg n4',if_pos e,e1]; simp only [e3,e4,Option.map_some]
  .exact ⟨rfl,CallR.zero _ _ 0,rfl,rfl,RdQ.nil _ _, .own o4 fun q h1 _=>by omega⟩
 .rw [rdE,if_neg n1',if_neg n2',if_neg n3',if_neg n4',if_pos e,e1]
 have rde:rdE (x::W1)=match findF x with
   | some (k,fs)=>(rdFs fs W1 (callP0 k)).map fun p=>({ evP0 1 with call:=p.1 },p.2)
   | none=>none:=by rw [rdE,if_neg n1',if_neg n2',if_neg n3',if_neg n4',if_neg n5'] <;> rfl
 refine forms_spec fun r14 w14 f14 x14=>?_
 obtain ⟨m,⟨hbase,hm,hp⟩,hs⟩:=f14
 obtain ⟨es,clock,hr,he,hB⟩:=hm
 obtain ⟨w15,hrun,hnew⟩:=run_range (P:=pz) und60 hr
 have hrl:=blt hr
 have z14:=x14.size
 have x1_14:Ext (·=br) w1 w14:=x2.no x14
 refine ⟨some ⟨w14.heap.size,0,none⟩,w15,hrun,?_⟩
 refine ⟨fun q w'=>∃ seen:List MapEntry,q=es.toList.length - seen.length/\(∀ e∈seen,e∈es.toList)/\(seen.map (·.born)).Nodup/\w'.heap[w14.heap.size]? = some (.mapIter (some r14) clock (seen.map (·.born)).toArray clock) /\
  (∀ e∈seen,∀ k:Nat,∀ g,e.key = .int .i64 (k:Int)->formP k=some g->g.1≠x)/\Ext No w14 w',⟨_,[],rfl,by simp,by simp,hnew.get,by simp,hnew.ext⟩,?_⟩
 rintro _ m0 w16 ⟨seen,hq,hsub,hnd,hi,hne,x16⟩
 have hmr:=get_no hr x16
 rcases run_next (P:=pz) hi hmr hB with ⟨hall,w',hrun',hx⟩ | ⟨e,hem,hes',w',hrun',hi',hx⟩
 .refine .inl ⟨w',hrun',kx w' ?_ (x1e ((x1_14.no x16).no hx))⟩
  rw [rde]
  cases hf:findF x with
  | none=>rfl
  | some p =>
   exfalso
   obtain ⟨kk,fs⟩:=p
   have hk:=findF_some hf
   obtain ⟨v,hv⟩:=Option.isSome_iff_exists.1 (hs kk _ hk)
   have hmem:(Value.int .i64 (kk:Int),v)∈es.toList.map (fun e=>(e.key,e.val)):=by rw [he]; exact List.mem_map.2 ⟨_,getA_mem hv,rfl⟩
   obtain ⟨e,hem,ee⟩:=List.mem_map.1 hmem
   have h1:=hall e hem
   simp only [List.mem_map] at h1
   obtain ⟨y,hy,hyb⟩:=h1
   have:y=e:=born_inj hB.1 (hsub y hy) hem hyb
   subst this
   exact hne y hy kk _ (Prod.mk.inj ee).1 hk rfl
 .have hkv:∃ (kk:Nat) (gf:Bs×List FId) (s:Sl),formP kk=some gf/\e.key = .int .i64 (kk:Int)/\e.val = .agg [.string (stB gf.1), .slice s.a s.len s.cap].toArray/\FldsR (w2.heap.size<=·) w14.heap s gf.2:=by
   have h1:(e.key,e.val)∈es.toList.map (fun e=>(e.key,e.val)):=List.mem_map.2 ⟨e,hem,rfl⟩
   rw [he] at h1
   obtain ⟨p,hpm,ep⟩:=List.mem_map.1 h1
   obtain ⟨kk,e1,gf,hg,s,e3,hf⟩:=hp p hpm
   obtain ⟨h2,h3⟩:=Prod.mk.inj ep
   exact ⟨kk,gf,s,hg,by rw [<- h2,e1],by rw [<- h3]; exact e3,hf⟩
  obtain ⟨kk,gf,s,hg,ek,ev,hf⟩:=hkv
  have hit:Ext No w14 w':=x16.trans hx fun q hq h=>by omega
  have hmr':=get_no hr hit
  have hent:=run_entry (P:=pz) hi' hmr' hB hem
  refine .inr ⟨e.key,e.val,w',hrun',(kk:Int),stB gf.1,s,w',?_,?_⟩
  .rw [hent,ek,ev]
  refine NewW.mk fun b1 w20 n20=>⟨rfl,StN.all n20.get rfl (by intro v hv; simp at hv; rcases hv with rfl | rfl <;> rfl) fun w21 g21 x21 _=>?_⟩
  have x21':Ext (·=b1) w20 w21:=x21
  have hb1:=n20.at_; have z20:=n20.size; have zt:=hit.size
  have xw21:Ext No w' w21:=n20.ext.trans x21' fun q hq h=>by omega
  have x14_21:Ext No w14 w21:=hit.no xw21
  refine ⟨stB gf.1,Cell.lst g21 rfl,eqStr (fun ex=>?_) fun ex=>?_⟩
  .have hfind:findF x=some (kk,gf.2):=by rw [<- ex]; exact findF_form kk gf hg
   rw [hfind] at rde
   simp only at rde
   refine NewW.mk fun b2 w22 n22=>⟨rfl,StN.all n22.get rfl (EvV.one ⟨1,callV0 kk,0,0,⟨none,0,0⟩,⟨none,0,0⟩⟩) fun w23 g23 x23 _=>?_⟩
   have x23':Ext (·=b2) w22 w23:=x23
   have hb2:=n22.at_; have z22:=n22.size
   have x21_23:Ext No w21 w23:=n22.ext.trans x23' fun q hq h=>by omega
   have x14_23:=x14_21.no x21_23
   have z21:=x14_21.size; have z23:=x23'.size
   refine ⟨s,Cell.lst (get_no g21 x21_23) rfl,?_⟩
   have hfl:=FldsR_lt hf
   obtain ⟨vs,f1,f2,f3⟩:=hfl
   have hvl:=f1.len
   have hsl:s.len=vs.length:=by
    have:=f2.len
    rw [flat_len' (f:=fun p:Value×Value=>[p.1,p.2]) (n:=2) fun _ _=>rfl] at this; omega
   have h6:=(formP_ok kk gf hg).2
   have rd23:RdrR (fun q=>q≠br/\q≠b2/\(callV0 kk).ops.blk≠some q) w23.heap br W1:=(r2.no (x14.no x14_23)).mono fun q _ hq=>⟨hq.1,by have:=hq.2; omega,fun h=>by cases h⟩
   have fl23:FillR w23.heap br b2 w23.heap.size [.int .i64 1] [.int .i64 0, .int .i64 0, .slice none 0 0, .slice none 0 0] 32 W1 (callV0 kk) (callP0 kk):=⟨rd23,g23,CallD.zero _ _ _ _,sm1⟩
   refine ⟨fun m t w'=>∃ (j:Nat) (v':CallV) (c':CallP) (W':List Bs),t=j/\j<=gf.2.length/\m=gf.2.length - j/\FillR w'.heap br b2 w23.heap.size [.int .i64 1] [.int .i64 0, .int .i64 0, .slice none 0 0, .slice none 0 0] 32 W' v' c' /\
    rdFs gf.2 W1 (callP0 kk)=rdFs (gf.2.drop j) W' c'/\c'.ops.length+W'.length<=W1.length/\Ext (FillS br b2 w23.heap.size) w23 w',⟨_,0,_,_,_,rfl,Nat.zero_le _,rfl,fl23,rfl,by show 0+_<=_; omega,Ext.refl _ _⟩,?_⟩
   rintro _ m1 _ w24 ⟨j,v',c',W',rfl,hj,rfl,fl,hrd,hol,x24⟩
   have x14_24:Ext (·=br) w14 w24:=x14_23.of_no.trans x24 fun q hq h=>by rcases h with h | h | h <;> omega
   have x1_24:Ext (·=br) w1 w24:=x1_14.trans x14_24 fun _ _ h=>h
   have z24:=x24.size
   have hW1:=sm1.1
   refine If.dec (fun h=>?_) fun h=>?_
   .refine Ix.elem (f:=fun p:Value×Value=>[p.1,p.2]) (f2.extQ x14_24 fun hne q hq h=>by have:=f3 (by rintro rfl; exact hne rfl) q hq; omega) (fun _ _=>rfl) (by decide) (by omega) h fun b7 o7 i7 hb7 c7=>?_
    have hjv:j < vs.length:=i7
    have hjf:j < gf.2.length:=by omega
    have el:vs[((j:Nat):Int).toNat]'i7=vs[j]:=rfl
    rw [el] at c7
    have fj:=f1.get j hjv hjf
    refine ⟨vs[j].1,c7 0 _ rfl,vs[j].2,c7 1 _ rfl,NewW.mk fun b8 w25 n25=>⟨rfl,StN.all n25.get rfl (by intro v hv; simp at hv; rcases hv with rfl | rfl; exact fj.one.1; exact fj.one.2) fun w26 g26 x26 _=>⟨vs[j].2,Cell.lst g26 rfl,?_⟩⟩⟩
    have x26':Ext (·=b8) w25 w26:=x26
    have x24_26:Ext No w24 w26:=n25.ext.trans x26' fun q hq h=>by have:=n25.at_; omega
    have z26:=x24_26.size
    have fl26:=fl.no x24_26
    have hdr:gf.2.drop j=gf.2[j]::gf.2.drop (j+1):=List.drop_eq_getElem_cons hjf
    rw [hdr] at hrd
    refine read_spec (pre:=[.int .i64 1]) (bc:=b2) (f:=gf.2[j]) ((fj.ext (x14_24.no x24_26) fun q hq h=>by have:=hq.1; omega).mono fun q hq=>⟨by have:=hq.1; omega,by have:=hq.2; omega⟩) fl26 (g.ext (x1e (x1_24.no x24_26)) fun q hq h=>by omega) hbr (by omega) (by omega) (by omega) (fun v9 c9 W9 w9 e9 fl9 x9=>?_) fun w9 e9 x9=>kx w9 ?_ ?_
    .have:=rdF_len e9
     exact Ar.i64 (by omega) ⟨_,by omega,j+1,v9,c9,W9,by omega,by omega,rfl,fl9,by rw [hrd,rdFs_step e9],by omega,(x24.trans x24_26 fun _ _ h=>h.elim).trans x9 fun _ _ h=>h⟩
    .rw [rde,hrd,rdFs_stop e9]; rfl
    .have x9':Ext (FillS br b2 w23.heap.size) w26 w9:=x9
     exact (x1e (x1_24.no x24_26)).trans x9' fun q hq h=>by rcases h with h | h | h <;> omega
   .have hjn:j=gf.2.length:=by omega
    rw [hjn,List.drop_length] at hrd
    have gd:w24.heap[b2]? = some (.cells (EvV.cells ⟨1,v',0,0,⟨none,0,0⟩,⟨none,0,0⟩⟩).toArray 32 (0,0)):=fl.pl
    have st:=fin (v:=⟨1,v',0,0,⟨none,0,0⟩,⟨none,0,0⟩⟩) (e:={ evP0 1 with call:=c' }) (W':=W') (w2:=w24) (by rw [rde,hrd]; rfl) fl.rdr.left ⟨rfl,fl.d.rd.mono fun q hq=>by have:=hq.1.2; omega,rfl,rfl,RdQ.nil _ _,RdQ.nil _ _⟩ x1_24
    exact CellsE.mk (K:=fun c0 c1 c2 c3 c4 c5 c6 c7 c8 c9 c10 c11 c12 c13 c14 c15 c16 c17 c18 w0=>List.length (α:=Value) [.int .i64 c0, .int .i64 c1, .int .u32 c2, .slice c3.a c3.len c3.cap, .int .i64 c4, .int .i64 c5, .int .u64 c6, .int .u64 c7, .int .u64 c8, .int .u8 c9, .slice c10.a c10.len c10.cap, .slice c11.a c11.len c11.cap, .slice c12.a c12.len c12.cap, .slice c13.a c13.len c13.cap, .bool c14, .int .i64 c15, .int .i64 c16, .slice c17.a c17.len c17.cap, .slice c18.a c18.len c18.cap]=19 /\
     StN w0 (Addr.mk b 0 none) [.int .i64 c0, .int .i64 c1, .int .u32 c2, .slice c3.a c3.len c3.cap, .int .i64 c4, .int .i64 c5, .int .u64 c6, .int .u64 c7, .int .u64 c8, .int .u8 c9, .slice c10.a c10.len c10.cap, .slice c11.a c11.len c11.cap, .slice c12.a c12.len c12.cap, .slice c13.a c13.len c13.cap, .bool c14, .int .i64 c15, .int .i64 c16, .slice c17.a c17.len c17.cap, .slice c18.a c18.len c18.cap] fun w3=>CellsE w3 b K) gd ⟨rfl,st⟩
  .have hns:seen.length < es.toList.length:=by
    have h1:e ∉ seen:=fun h=>hes' (by simp only [List.mem_map]; exact ⟨e,h,rfl⟩)
    have h2:(e::seen).Nodup:=List.nodup_cons.2 ⟨h1,List.Pairwise.of_map (·.born) (fun a b h e=>h (by rw [e])) hnd⟩
    have:=List.Nodup.length_le_of_subset h2 (fun y hy=>by rcases List.mem_cons.1 hy with rfl | hy; exact hem; exact hsub y hy)
    rw [List.length_cons] at this; omega
   refine ⟨es.toList.length - (seen++[e]).length,by rw [hq,List.length_append,List.length_singleton]; omega,seen++[e],rfl,?_,?_,?_,?_,x14_21⟩
   .intro y hy
    rcases List.mem_append.1 hy with h | h
    .exact hsub y h
    .rw [List.mem_singleton] at h; rw [h]; exact hem
   .rw [List.map_append]
    refine List.nodup_append.2 ⟨hnd,by simp,fun a ha b hb=>?_⟩
    simp only [List.map_cons,List.map_nil,List.mem_singleton] at hb
    rintro rfl
    exact hes' (by rw [<- hb]; exact ha)
   .have:=get_no hi' xw21
    rw [this]; simp
   .intro y hy k' g' hy1 hy2
    rcases List.mem_append.1 hy with h | h
    .exact hne y h k' g' hy1 hy2
    .rw [List.mem_singleton] at h; subst h
     rw [ek] at hy1
     have:kk=k':=by injection hy1 with _ h; omega
     subst this
     rw [hg] at hy2; cases hy2; exact ex
end
end Go.Proofs.YtimonamjecmlcaaGreatDoor
