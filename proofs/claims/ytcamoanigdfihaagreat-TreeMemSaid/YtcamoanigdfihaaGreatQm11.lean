/- Texts for LTreeMem, part 11. -/
import Derived.Laws.Externs
import Derived.Test.YtcamoanigdfihaaGreatQm10
namespace Go.V
def cmpB:List Int->List Int->Int
 | [],[]=>0
 | [],_::_ => -1
 | _::_,[]=>1
 | x::a,y::b=>if x < y then -1 else if y < x then 1 else cmpB a b
theorem cmpB_self:∀ a:List Int,cmpB a a=0
 | []=>rfl
 | x::a=>by simp [cmpB,cmpB_self a]
theorem cmpB_eq:∀{a b:List Int},cmpB a b=0->a=b
 | [],[],_=>rfl
 | [],_::_,h=>by simp [cmpB] at h
 | _::_,[],h=>by simp [cmpB] at h
 | x::a,y::b,h=>by
  simp only [cmpB] at h
  split at h
  .omega
  .split at h
   .omega
   .rw [cmpB_eq h,show x=y by omega]
theorem cmpB_zero{a b:List Int}:cmpB a b=0 ↔ a=b:=⟨cmpB_eq,fun h=>h ▸ cmpB_self a⟩
theorem cmpB_neg:∀(a b:List Int),cmpB b a = - cmpB a b
 | [],[]=>rfl
 | [],_::_=>rfl
 | _::_,[]=>rfl
 | x::a,y::b=>by
  simp only [cmpB]
  rcases Int.lt_trichotomy x y with h | h | h
  .rw [if_neg (by omega),if_pos h,if_pos h]; rfl
  .rw [if_neg (by omega),if_neg (by omega),if_neg (by omega),if_neg (by omega)]; exact cmpB_neg a b
  .rw [if_pos h,if_neg (by omega),if_pos h]
theorem cmpB_vals:∀(a b:List Int),cmpB a b = -1∨cmpB a b=0∨cmpB a b=1
 | [],[] => .inr (.inl rfl)
 | [],_::_ => .inl rfl
 | _::_,[] => .inr (.inr rfl)
 | x::a,y::b=>by
  simp only [cmpB]
  split
  .simp
  .split
   .simp
   .exact cmpB_vals a b
def LtB(a b:List Int):Prop:=cmpB a b = -1
instance (a b:List Int):Decidable (LtB a b):=inferInstanceAs (Decidable (_=_))
theorem LtB.irrefl{a:List Int}(h:LtB a a):False:=by unfold LtB at h; rw [cmpB_self] at h; omega
theorem LtB.trans:∀{a b c:List Int},LtB a b->LtB b c->LtB a c
 | [],[],_,h,_=>by simp [LtB,cmpB] at h
 | [],_::_,[],_,h=>by simp [LtB,cmpB] at h
 | [],_::_,_::_,_,_=>rfl
 | _::_,[],_,h,_=>by simp [LtB,cmpB] at h
 | _::_,_::_,[],_,h=>by simp [LtB,cmpB] at h
 | x::a,y::b,z::c,h,k=>by
  simp only [LtB,cmpB] at *
  split at h
  .split at k
   .rw [if_pos (by omega)]
   .split at k
    .omega
    .rw [if_pos (by omega)]
  .split at h
   .omega
   .split at k
    .rw [if_pos (by omega)]
    .split at k
     .omega
     .rw [if_neg (by omega),if_neg (by omega)]; exact LtB.trans h k
theorem LtB.total(a b:List Int):LtB a b∨a=b∨LtB b a:=by
 rcases cmpB_vals a b with h | h | h
 .exact .inl h
 .exact .inr (.inl (cmpB_eq h))
 .exact .inr (.inr (by unfold LtB; rw [cmpB_neg]; omega))
theorem LtB.nil{a:List Int}(h:a≠[]):LtB [] a:=by cases a with | nil=>exact (h rfl).elim | cons=>rfl
theorem not_LtB{a b:List Int}:¬ LtB a b ↔ a=b∨LtB b a:=by
 constructor
 .intro h; rcases LtB.total a b with h' | h' | h'
  .exact (h h').elim
  .exact .inl h'
  .exact .inr h'
 .rintro (h | h) k
  .subst h; exact k.irrefl
  .exact (k.trans h).irrefl
theorem cmpB_ge{a b:List Int}:cmpB a b≥0 ↔ ¬ LtB a b:=by
 unfold LtB; rcases cmpB_vals a b with h | h | h <;> rw [h] <;> decide
theorem cmpB_gt{a b:List Int}:cmpB a b > 0 ↔ LtB b a:=by
 unfold LtB; rw [cmpB_neg a b]; rcases cmpB_vals a b with h | h | h <;> rw [h] <;> decide
theorem compareBytes_eq:∀{a b:List Int},B8 a->B8 b->Lib.compareBytes (Lib.bytesOf a) (Lib.bytesOf b)=cmpB a b
 | [],[],_,_=>rfl
 | [],_::_,_,_=>rfl
 | _::_,[],_,_=>rfl
 | x::a,y::b,h,k=>by
  have hx:=h x List.mem_cons_self
  have hy:=k y List.mem_cons_self
  have ih:=compareBytes_eq (h.sub fun _ h=>List.mem_cons_of_mem _ h) (k.sub fun _ h=>List.mem_cons_of_mem _ h)
  have hl:∀{x y:Int},(0<=x/\x<=255)->(0<=y/\y<=255)->(UInt8.ofNat x.toNat < UInt8.ofNat y.toNat ↔ x < y):=fun {x y} hx hy=>by
   rw [UInt8.lt_iff_toNat_lt,UInt8.toNat_ofNat',UInt8.toNat_ofNat',Nat.mod_eq_of_lt (by omega),Nat.mod_eq_of_lt (by omega)]
   omega
  simp only [Lib.bytesOf,List.map_cons,Lib.compareBytes,cmpB,hl hx hy,hl hy hx]
  rw [show Lib.compareBytes (a.map fun n=>UInt8.ofNat n.toNat) (b.map fun n=>UInt8.ofNat n.toNat)=cmpB a b from ih]
theorem run_bytesOf{P:Program}{w:Wd}{s:Sl}{l:List Int}(h:Rd w.heap s 1 (l.map (Value.int .u8))):(Extern.Bytes.bytesOf s.v).run P w = .ok ⟨(Lib.bytesOf l).toArray⟩ w:=by
 have hl:s.len=l.length:=by have:=h.len; simp at this; exact this.symm
 obtain ⟨sa,sl,sc⟩:=s
 simp only at hl
 subst hl
 cases sa with
 | none =>
  have:l=[]:=by
   rcases Classical.em (l=[]) with h' | h'
   .exact h'
   .obtain ⟨_,_,ha,_⟩:=Rd.at_ h (by simpa using h')
    cases ha
  subst this
  rfl
 | some a =>
  show Sem.run P (Extern.Bytes.loadBytes a l.length .empty) w=_
  rw [Lib.run_loadBytesX w l a .empty fun j x hj=>?_]
  .congr 1
   apply ByteArray.ext
   show (#[]:Array UInt8)++(Lib.bytesOf l).toArray=(Lib.bytesOf l).toArray
   simp
  .have hjl:j < l.length:=(List.getElem?_eq_some_iff.1 hj).1
   obtain ⟨b,o,ha,hc⟩:=Rd.at_ h (by intro e; rw [List.map_eq_nil_iff] at e; subst e; simp at hjl)
   simp only [Option.some.injEq] at ha
   subst ha
   rw [addr_add_none rfl,cell_eq,hc j (by simpa using hjl),List.getElem_map]
   rw [List.getElem?_eq_getElem hjl] at hj
   rw [Option.some.inj hj]
theorem Own.pre{h:Array Obj}{base:Nat}{e:TypeId}{sz:Nat}{s:Sl}{cs:List Value}{hi:Int}{K:Sl->Prop}(o:Own h base e sz s cs)(h0:0<=hi)(h1:hi<=(s.len:Int))
  (k:∀ s',Own h base e sz s' (cs.take (hi.toNat * sz))->s'.blk=s.blk->s'.len=hi.toNat->s'.cap=s.cap->K s'):Cut s 0 hi (((s.cap:Nat):Int)) sz K:=by
 have hcap:=o.rd.cap
 have hlen:=o.len
 refine Cut.mk (Int.le_refl _) h0 (by omega) (Int.le_refl _) ?_
 rcases o.is with ⟨rfl,rfl⟩ | ⟨b,rest,ha,hle,hblk,hl,hc⟩
 .have:hi=0:=by simp at h1; omega
  subst this
  exact k _ (by simpa [cutA] using Own.nil h base e sz) (by simp [cutA]) rfl rfl
 .have e1:cutA s.a s.cap 0 sz=s.a:=by
   unfold cutA
   split
   .rfl
   .rw [ha]; simp [addr_add_none]
  have hle2:hi.toNat * sz<=s.len * sz:=Nat.mul_le_mul_right _ (by omega)
  rw [show ((s.cap:Nat):Int).toNat=s.cap from rfl,show Int.toNat 0=0 from rfl,e1,show (hi - 0).toNat=hi.toNat by omega,show (((s.cap:Nat):Int) - 0).toNat=s.cap by omega]
  refine k _ ⟨by rw [List.length_take]; simp only; omega, .inr ⟨b,cs.drop (hi.toNat * sz)++rest,ha,hle,?_,?_,by simp only; omega⟩,fun v hv=>o.cells v (List.mem_of_mem_take hv)⟩ rfl rfl rfl
  .rw [<- List.append_assoc,List.take_append_drop]; exact hblk
  .rw [<- List.append_assoc,List.take_append_drop]; exact hl
end Go.V
namespace Go.Proofs.YtcamoanigdfihaaGreat
open Go.V
section
variable {w:Wd}
theorem compare_spec{a b:Sl}{x y:List Int}{K:Int->Wd->Prop}(ha:RdB w.heap a x)(hb:RdB w.heap b y)(hx:B8 x)(hy:B8 y)(k:K (cmpB x y) w):C_bytes_Compare a b w K:=by
 apply S_bytes_Compare
 refine ⟨cmpB x y,w,?_,k⟩
 rw [run_callFunc_extern (e:=Extern.BytealgCompare.compare) Tryz.func175 (by kernel_rfl) (by kernel_rfl) (by kernel_rfl) (by kernel_rfl)]
 change (Sem.run pz (do pure (goInt (Extern.BytealgCompare.cmp (<- Extern.Bytes.bytesOf a.v) (<- Extern.Bytes.bytesOf b.v)))) w).andThen _=_
 simp only [Sem.run_bind,run_bytesOf ha,run_bytesOf hb,Sem.run_pure,Result.andThen]
 rw [Lib.cmp_eq,<- compareBytes_eq hx hy]
 rfl
theorem grow_spec{n:Int}{K:Sl->Wd->Prop}(h0:0<=n)(h1:n<=1099511627776)(k:∀ s w',OwnB w'.heap w.heap.size s []->Ext No w w'->K s w'):C_slices_Grow_byte_byte ⟨none,0,0⟩ n w K:=by
 apply S_slices_Grow_byte_byte
 refine ⟨fun w'=>w'=w,If.dec (fun h=>by omega) fun _=>rfl,?_⟩
 rintro _ w1 rfl
 refine Ar.i64 (by simp) (Ar.i64 (by simp; omega) (If.dec (fun h=>?_) (fun h=>k _ _ (Own.nil _ _ _ _) (Ext.refl _ _))))
 refine Cut.mk (Int.le_refl _) (by simp) (by simp) (by simp) ?_
 have e:(n - ((0:Nat) - (0:Nat):Int))=(n.toNat:Int):=by simp; omega
 simp only [cutA]
 show AppW pz 40 3 ⟨none,0,0⟩ (.int .i64 (n - ((0:Nat) - (0:Nat):Int))) _ w1
 rw [e]
 refine app_zero (k := .i64) (ie:=Tryz.t5) (z := .int .u8 0) (by kernel_rfl) (by kernel_rfl) (by kernel_rfl) (by kernel_rfl) (by kernel_rfl) (by kernel_rfl) rfl (by kernel_rfl) (Own.nil _ w1.heap.size 5 1) (Nat.le_refl _) (by simp; omega) fun s' w' o hl x _=>?_
 refine Own.pre o (by simp) (by simp) fun s3 o3 _ _ _=>k _ _ (by show Own _ _ 5 1 s3 []; simpa using o3) (x.mono fun _ _ h=>by cases h)
theorem concat_spec{sl:Sl}{ps:List (Sl×List Int)}{K:Sl->Wd->Prop}(hs:Rd w.heap sl 1 (ps.map fun p=>p.1.v))(hp:∀ p∈ps,RdB w.heap p.1 p.2)(hb:((ps.map Prod.snd).flatten).length<=1099511627776)
  (hn:ps.length<=4294967296) (k:∀ s w',OwnB w'.heap w.heap.size s (ps.map Prod.snd).flatten->Ext No w w'->K s w'):C_slices_Concat_byte_byte sl w K:=by
 apply S_slices_Concat_byte_byte
 have hl:sl.len=ps.length:=by have:=hs.len; simp at this; exact this.symm
 have hle:∀ j,((ps.take j).map Prod.snd).flatten.length<=1099511627776:=fun j=>by
  refine Nat.le_trans ?_ hb
  have e:(ps.map Prod.snd).flatten=((ps.take j).map Prod.snd).flatten++((ps.drop j).map Prod.snd).flatten:=by
   rw [<- List.flatten_append,<- List.map_append,List.take_append_drop]
  rw [e,List.length_append]; omega
 have hsnoc:∀ j (h:j < ps.length),((ps.take (j+1)).map Prod.snd).flatten=((ps.take j).map Prod.snd).flatten++ps[j].2:=fun j h=>by
  rw [List.take_add_one,List.getElem?_eq_getElem h]; simp only [Option.toList_some,List.map_append,List.map_cons,List.map_nil,List.flatten_append,List.flatten_cons,List.flatten_nil,List.append_nil]
 refine ⟨fun m n t w'=>w'=w/\∃ j:Nat,t=j/\j<=ps.length/\m=ps.length - j/\n=(((ps.take j).map Prod.snd).flatten.length:Int),⟨ps.length,rfl,0,rfl,by omega,by omega,by simp⟩,?_⟩
 rintro _ m0 n t w1 ⟨rfl,j,rfl,hj,hm,rfl⟩
 refine If.dec (fun h=>Ix.cell hs (by omega) (by omega) fun bb o v _ hv hc=>?_) (fun h=>?_)
 .have hj':j < ps.length:=by omega
  rw [Int.toNat_natCast,List.getElem?_map,List.getElem?_eq_getElem hj'] at hv
  simp only [Option.map_some,Option.some.injEq] at hv
  subst hv
  have hlen:=RdB.len (hp _ (List.getElem_mem hj'))
  have h1:=hle (j+1)
  rw [hsnoc j hj',List.length_append] at h1
  refine ⟨_,hc,Ar.i64 (by omega) (If.dec (fun h=>by omega) (fun _=>Ar.i64 (by omega) ⟨ps.length - (j+1),by omega,rfl,j+1,by omega,by omega,rfl,?_⟩))⟩
  rw [hsnoc j hj',List.length_append,hlen]; omega
 .refine grow_spec (by omega) (by have:=hle j; omega) fun s0 w2 o2 x2=>?_
  refine ⟨fun m s t w'=>∃ j:Nat,t=j/\j<=ps.length/\m=ps.length - j/\OwnB w'.heap w1.heap.size s ((ps.take j).map Prod.snd).flatten/\Ext No w1 w',⟨ps.length,0,rfl,by omega,by omega,by simpa using o2,x2⟩,?_⟩
  rintro _ m1 s1 t1 w3 ⟨i,rfl,hi,hm1,o3,x3⟩
  refine If.dec (fun h=>Ix.cell (hs.no x3) (by omega) (by omega) fun bb o v _ hv hc=>?_) (fun h=>?_)
  .have hi':i < ps.length:=by omega
   rw [Int.toNat_natCast,List.getElem?_map,List.getElem?_eq_getElem hi'] at hv
   simp only [Option.map_some,Option.some.injEq] at hv
   subst hv
   have hr:=hp _ (List.getElem_mem hi')
   have hlen:=RdB.len hr
   have h1:=hle (i+1)
   rw [hsnoc i hi',List.length_append] at h1
   have h2:=OwnB.len o3
   refine ⟨_,hc,app_uint8 o3 (x3.size) (Rd.no hr x3).src (by omega) fun s' w' o' _ x' _=>Ar.i64 (by omega) ⟨ps.length - (i+1),by omega,i+1,by omega,by omega,rfl,?_,x3.trans x' fun q hq hh=>?_⟩⟩
   .rw [<- List.map_append,<- hsnoc i hi'] at o'; exact o'
   .have:=(o3.lt hh).1; omega
  .have e:i=ps.length:=by omega
   rw [e,List.take_length] at o3
   exact k _ _ o3 x3
end
end Go.Proofs.YtcamoanigdfihaaGreat
namespace Go.V
structure Rf where
 p:Int
 c:Int
 g:Int
deriving DecidableEq
def Rf.z:Rf:=⟨0,0,0⟩
def Rf.ok(r:Rf):Prop:=(0<=r.p/\r.p<=4294967295)/\(0<=r.c/\r.c<=18446744073709551615)/\(0<=r.g/\r.g<=65535)
instance (r:Rf):Decidable r.ok:=inferInstanceAs (Decidable (_/\_))
def Rf.cs(r:Rf):List Value:=[.int .u32 r.p, .int .u64 r.c, .int .u16 r.g]
structure EntV where
 k:Sl
 v:Sl
 n:Int
 ch:Rf
 cd:Rf
def EntV.cs(x:EntV):List Value:=[.slice x.k.a x.k.len x.k.cap, .slice x.v.a x.v.len x.v.cap, .int .i64 x.n, .int .u32 x.ch.p, .int .u64 x.ch.c, .int .u16 x.ch.g, .int .u32 x.cd.p, .int .u64 x.cd.c, .int .u16 x.cd.g]
structure Ent where
 key:List Int
 val:List Int
 n:Int
 ch:Rf
 cd:Rf
deriving DecidableEq
structure EntR(h:Array Obj)(x:EntV)(e:Ent):Prop where
 k:Rd h x.k 1 (e.key.map (Value.int .u8))
 v:Rd h x.v 1 (e.val.map (Value.int .u8))
 n:x.n=e.n
 ch:x.ch=e.ch
 cd:x.cd=e.cd
 k8:B8 e.key
 v8:B8 e.val
 n64:-9223372036854775808<=e.n/\e.n<=9223372036854775807
 cho:e.ch.ok
 cdo:e.cd.ok
theorem EntR.no{w w':Wd}{x:EntV}{e:Ent}(r:EntR w.heap x e)(h:Ext No w w'):EntR w'.heap x e:=⟨r.k.no h,r.v.no h,r.n,r.ch,r.cd,r.k8,r.v8,r.n64,r.cho,r.cdo⟩
abbrev entCs(p:EntV×Ent):List Value:=p.1.cs
theorem entCs_len(L:List (EntV×Ent)):∀ p∈L,(entCs p).length=9:=fun _ _=>rfl
structure NdR(h:Array Obj)(s:Sl)(L:List (EntV×Ent)):Prop where
 rd:Rd h s 9 (L.flatMap entCs)
 ent:∀ p∈L,EntR h p.1 p.2
theorem NdR.no{w w':Wd}{s:Sl}{L:List (EntV×Ent)}(r:NdR w.heap s L)(h:Ext No w w'):NdR w'.heap s L:=⟨r.rd.no h,fun p hp=>(r.ent p hp).no h⟩
theorem NdR.len{h:Array Obj}{s:Sl}{L:List (EntV×Ent)}(r:NdR h s L):s.len=L.length:=by
 have:=r.rd.len; rw [flat_len' (entCs_len L)] at this; omega
theorem blt{h:Array Obj}{b:Nat}{o:Obj}(e:h[b]? = some o):b < h.size:=by
 rcases Nat.lt_or_ge b h.size with k | k
 .exact k
 .rw [Array.getElem?_eq_none k] at e; cases e
theorem get_no{w w':Wd}{b:Nat}{o:Obj}(h:w.heap[b]? = some o)(x:Ext No w w'):w'.heap[b]? = some o:=by
 rw [x.blk b (blt h) (fun h=>h)]; exact h
section
variable {w:Wd}
theorem ent_load{s:Sl}{L:List (EntV×Ent)}{t:Int}{K:Sl->Sl->Int->Int->Int->Int->Int->Int->Int->Prop}(r:Rd w.heap s 9 (L.flatMap entCs))(h0:0<=t)(h1:t < (s.len:Int))
  (k:∀(hi:t.toNat < L.length),K L[t.toNat].1.k L[t.toNat].1.v L[t.toNat].1.n L[t.toNat].1.ch.p L[t.toNat].1.ch.c L[t.toNat].1.ch.g L[t.toNat].1.cd.p L[t.toNat].1.cd.c L[t.toNat].1.cd.g) :
  Ix s.a s.len t 9 fun a=>∃ c:Sl,Cell w a (.slice c.a c.len c.cap)/\∃ c_1:Sl,Cell w (a.add 1) (.slice c_1.a c_1.len c_1.cap)/\∃ c_2:Int,Cell w (a.add 2) (.int .i64 c_2)/\∃ c_3:Int,Cell w (a.add 3) (.int .u32 c_3) /\
   ∃ c_4:Int,Cell w (a.add 4) (.int .u64 c_4)/\∃ c_5:Int,Cell w (a.add 5) (.int .u16 c_5)/\∃ c_6:Int,Cell w (a.add 6) (.int .u32 c_6)/\∃ c_7:Int,Cell w (a.add 7) (.int .u64 c_7)/\∃ c_8:Int,Cell w (a.add 8) (.int .u16 c_8)/\K c c_1 c_2 c_3 c_4 c_5 c_6 c_7 c_8 :=
 Ix.elem r (entCs_len L) (by decide) h0 h1 fun b o hi _ hc =>
  ⟨_,hc 0 _ rfl,_,hc 1 _ rfl,_,hc 2 _ rfl,_,hc 3 _ rfl,_,hc 4 _ rfl,_,hc 5 _ rfl,_,hc 6 _ rfl,_,hc 7 _ rfl,_,hc 8 _ rfl,k hi⟩
theorem ent_read{b:Nat}{x:EntV}{T:TypeId}{K:Sl->Sl->Int->Int->Int->Int->Int->Int->Int->Prop}(hb:w.heap[b]? = some (.cells x.cs.toArray T (0,0)))(k:K x.k x.v x.n x.ch.p x.ch.c x.ch.g x.cd.p x.cd.c x.cd.g) :
  ∃ c:Sl,Cell w (Addr.mk b 0 none) (.slice c.a c.len c.cap)/\∃ c_1:Sl,Cell w ((Addr.mk b 0 none).add 1) (.slice c_1.a c_1.len c_1.cap)/\∃ c_2:Int,Cell w ((Addr.mk b 0 none).add 2) (.int .i64 c_2)/\∃ c_3:Int,Cell w ((Addr.mk b 0 none).add 3) (.int .u32 c_3) /\
   ∃ c_4:Int,Cell w ((Addr.mk b 0 none).add 4) (.int .u64 c_4)/\∃ c_5:Int,Cell w ((Addr.mk b 0 none).add 5) (.int .u16 c_5)/\∃ c_6:Int,Cell w ((Addr.mk b 0 none).add 6) (.int .u32 c_6)/\∃ c_7:Int,Cell w ((Addr.mk b 0 none).add 7) (.int .u64 c_7)/\∃ c_8:Int,Cell w ((Addr.mk b 0 none).add 8) (.int .u16 c_8)/\K c c_1 c_2 c_3 c_4 c_5 c_6 c_7 c_8 :=
 ⟨_,Cell.lst hb rfl,_,Cell.lst hb rfl,_,Cell.lst hb rfl,_,Cell.lst hb rfl,_,Cell.lst hb rfl,_,Cell.lst hb rfl,_,Cell.lst hb rfl,_,Cell.lst hb rfl,_,Cell.lst hb rfl,k⟩
theorem new_set{zs vs:List Value}{T:TypeId}{K:Nat->Wd->Prop}{n:Nat}(hl:vs.length=n)(hz:zs.length=n)(hv:∀ v∈vs,oneC v=true)
  (k:∀ b w',w'.heap[b]? = some (.cells vs.toArray T (0,0))->b=w.heap.size->w'.heap.size=w.heap.size+1->Ext No w w'->K b w'):NewW w (.cells zs.toArray T) fun b w1=>List.length (α:=Value) vs=n/\StN w1 (Addr.mk b 0 none) vs fun w2=>K b w2:=by
 intro b w1 hn
 refine ⟨hl,zs.toArray,T,(0,0),hn.get,rfl,by simp [hl,hz], .inr (.inr (Nat.le_refl _)),hv,fun w2 hw=>?_⟩
 have e:setL zs 0 vs=vs:=setL_all _ _ (by omega)
 have hw':Wrt w1 b (.cells vs.toArray T (0,0)) w2:=by rw [<- e]; exact hw
 refine k b w2 (hw'.get hn.get) hn.at_ (by rw [hw'.size,hn.size]) (hn.ext.trans hw'.ext fun q hq h=>?_)
 have:=hn.at_; rw [h] at hq; omega
theorem refeq(a b:Rf):((a.p == b.p) && ((a.c == b.c) && ((a.g == b.g) && true)))=decide (a=b):=by
 obtain ⟨a1,a2,a3⟩:=a; obtain ⟨b1,b2,b3⟩:=b
 rw [Bool.eq_iff_iff]; simp
end
def shapeP(kind lev:Int):Prop:=kind=1/\lev=0∨kind=2/\1<=lev/\lev<=30
instance (a b:Int):Decidable (shapeP a b):=inferInstanceAs (Decidable (_∨_))
def keyP(kind i len:Int):Prop:=if kind=2/\i=0 then len=0 else 1<=len/\len<=32
instance (a b c:Int):Decidable (keyP a b c):=inferInstanceAs (Decidable (ite _ _ _))
def entP(kind i:Int)(e:Ent):Prop:=keyP kind i e.key.length/\(if kind=2 then e.cd ≠ .z/\e.ch = .z/\e.val.length=0/\e.n=0 else e.cd = .z/\(if e.n=0 then e.ch = .z/\e.val.length<=64 else e.n > 64/\e.n<=1024/\e.ch ≠ .z/\e.val.length=0))
instance (a b:Int) (e:Ent):Decidable (entP a b e):=inferInstanceAs (Decidable (_/\_))
structure RightP(kind lev:Int)(l:List Ent):Prop where
 shape:shapeP kind lev
 some:kind=2->l≠[]
 ent:∀ i (h:i < l.length),entP kind i l[i]
 ord:∀ i (h:i+1 < l.length),LtB l[i].key l[i+1].key
def refB(r:Rf):List Int:=be 4 r.p++be 8 r.c++be 2 r.g
def wrE(kind:Int)(e:Ent):List Int:=(e.key.length % 256:Int)::e.key++(if kind=2 then refB e.cd else if e.n > 0 then [1,e.n / 256 % 256,e.n % 256]++refB e.ch else [0,(e.val.length % 256:Int)]++e.val)
def wr(kind lev:Int)(l:List Ent):List Int:=[kind,lev,(l.length % 256:Int)]++l.flatMap (wrE kind)
theorem refB_len(r:Rf):(refB r).length=14:=by simp [refB,be_len]
end Go.V
namespace Go.Proofs.YtcamoanigdfihaaGreat
open Go.V
section
variable {w:Wd}
theorem shape_spec{kind lev:Int}{K:Bool->Wd->Prop}(k:K (decide (shapeP kind lev)) w):C_slot_shape kind lev w K:=by
 apply S_slot_shape
 have yes:shapeP kind lev->K true w:=fun h=>by rw [decide_eq_true h] at k; exact k
 have no:¬ shapeP kind lev->K false w:=fun h=>by rw [decide_eq_false h] at k; exact k
 have two:kind=2->1<=lev->K (decide (lev<=30)) w:=fun a b=>by
  have:decide (lev<=30)=decide (shapeP kind lev):=by rw [decide_eq_decide]; unfold shapeP; omega
  rw [this]; exact k
 refine If.beq (fun h=>If.beq (fun h'=>yes (.inl ⟨h,h'⟩)) (fun h'=>If.beq (fun h2=>by omega) fun h2=>no (by unfold shapeP; omega))) (fun h=>If.beq (fun h2=>If.dec (fun h3=>two h2 h3) fun h3=>no (by unfold shapeP; omega)) fun h2=>no (by unfold shapeP; omega))
theorem key_spec{kind i n:Int}{K:Bool->Wd->Prop}(k:K (decide (keyP kind i n)) w):C_slot_key kind i n w K:=by
 apply S_slot_key
 refine ⟨fun w'=>w'=w/\¬ (kind=2/\i=0),If.beq (fun h=>If.beq (fun h'=>?_) fun h'=>⟨rfl,by omega⟩) (fun h=>⟨rfl,by omega⟩),?_⟩
 .have:(n == 0)=decide (keyP kind i n):=by rw [Bool.eq_iff_iff,decide_eq_true_iff,beq_iff_eq]; unfold keyP; rw [if_pos ⟨h,h'⟩]
  rw [this]; exact k
 .rintro _ w1 ⟨rfl,hn⟩
  refine If.dec (fun h=>?_) (fun h=>?_)
  .have:decide (n<=32)=decide (keyP kind i n):=by rw [decide_eq_decide]; unfold keyP; rw [if_neg hn]; omega
   rw [this]; exact k
  .have:decide (keyP kind i n)=false:=decide_eq_false (by unfold keyP; rw [if_neg hn]; omega)
   rw [this] at k; exact k
theorem entry_spec{kind i:Int}{x:EntV}{e:Ent}{K:Bool->Wd->Prop}(r:EntR w.heap x e)(k:∀ w',Ext No w w'->K (decide (entP kind i e)) w'):C_slot_entry kind i x.k x.v x.n x.ch.p x.ch.c x.ch.g x.cd.p x.cd.c x.cd.g w K:=by
 apply S_slot_entry
 refine NewW.mk fun b w1 h1=>new_set rfl rfl (by decide) fun b1 w3 hb1 _ _ x3=>?_
 have hb:w3.heap[b]? = some (.cells x.cs.toArray 133 (0,0)):=get_no h1.get x3
 have hz:w3.heap[b1]? = some (.cells Rf.z.cs.toArray 36 (0,0)):=hb1
 have xx:Ext No w w3:=h1.ext.no x3
 have k:=k w3 xx
 have hkl:=RdB.len r.k
 have hvl:=RdB.len r.v
 have no:¬ entP kind i e->K false w3:=fun h=>by rw [decide_eq_false h] at k; exact k
 refine ⟨_,Cell.lst hb rfl,key_spec (If.not (If.dec (fun hk=>?_) fun hk=>no fun h=>hk (by rw [hkl]; exact h.1)))⟩
 rw [hkl] at hk
 refine If.beq (fun h2=>?_) (fun h2=>?_)
 .refine ⟨_,Cell.lst hb rfl,_,Cell.lst hb rfl,_,Cell.lst hb rfl,_,Cell.lst hz rfl,_,Cell.lst hz rfl,_,Cell.lst hz rfl,?_⟩
  rw [refeq x.cd .z,r.cd]
  refine If.not (If.dec (fun h=>no fun h'=>?_) fun h=>?_)
  .have:=h'.2; rw [if_pos h2] at this; exact this.1 h
  refine ⟨_,Cell.lst hb rfl,_,Cell.lst hb rfl,_,Cell.lst hb rfl,_,Cell.lst hz rfl,_,Cell.lst hz rfl,_,Cell.lst hz rfl,?_⟩
  rw [refeq x.ch .z,r.ch]
  refine If.dec (fun h'=>?_) fun h'=>no fun h''=>?_
  .refine ⟨_,Cell.lst hb rfl,If.beq (fun h3=>⟨_,Cell.lst hb rfl,?_⟩) fun h3=>no fun h''=>?_⟩
   .have:(x.n == 0)=decide (entP kind i e):=by
     rw [Bool.eq_iff_iff,decide_eq_true_iff,beq_iff_eq]; unfold entP; rw [if_pos h2,r.n]
     exact ⟨fun h4=>⟨hk,h,h',by omega,h4⟩,fun h4=>h4.2.2.2.2⟩
    rw [this]; exact k
   .have:=h''.2; rw [if_pos h2] at this; omega
  .have:=h''.2; rw [if_pos h2] at this; exact h' this.2.1
 .refine ⟨_,Cell.lst hb rfl,_,Cell.lst hb rfl,_,Cell.lst hb rfl,_,Cell.lst hz rfl,_,Cell.lst hz rfl,_,Cell.lst hz rfl,?_⟩
  rw [refeq x.cd .z,r.cd]
  refine If.not (If.dec (fun h=>?_) fun h=>no fun h'=>?_)
  rotate_left
  .have:=h'.2; rw [if_neg h2] at this; exact h this.1
  refine ⟨_,Cell.lst hb rfl,?_⟩
  rw [r.n]
  refine If.beq (fun h3=>?_) fun h3=>?_
  .refine ⟨_,Cell.lst hb rfl,_,Cell.lst hb rfl,_,Cell.lst hb rfl,_,Cell.lst hz rfl,_,Cell.lst hz rfl,_,Cell.lst hz rfl,?_⟩
   rw [refeq x.ch .z,r.ch]
   refine If.dec (fun h'=>⟨_,Cell.lst hb rfl,?_⟩) fun h'=>no fun h''=>?_
   .have:decide ((x.v.len:Int)<=64)=decide (entP kind i e):=by
     rw [decide_eq_decide]; unfold entP; rw [if_neg h2,if_pos h3,hvl]
     exact ⟨fun h4=>⟨hk,h,h',by omega⟩,fun h4=>by have:=h4.2.2.2; omega⟩
    rw [this]; exact k
   .have:=h''.2; rw [if_neg h2,if_pos h3] at this; exact h' this.2.1
  .refine ⟨_,Cell.lst hb rfl,?_⟩
   rw [r.n]
   refine If.dec (fun h4=>⟨_,Cell.lst hb rfl,?_⟩) fun h4=>no fun h''=>?_
   rotate_left
   .have:=h''.2; rw [if_neg h2,if_neg h3] at this; exact h4 this.2.1
   rw [r.n]
   refine If.dec (fun h5=>?_) fun h5=>no fun h''=>?_
   rotate_left
   .have:=h''.2; rw [if_neg h2,if_neg h3] at this; exact h5 this.2.2.1
   refine ⟨_,Cell.lst hb rfl,_,Cell.lst hb rfl,_,Cell.lst hb rfl,_,Cell.lst hz rfl,_,Cell.lst hz rfl,_,Cell.lst hz rfl,?_⟩
   rw [refeq x.ch .z,r.ch]
   refine If.not (If.dec (fun h'=>no fun h''=>?_) fun h'=>⟨_,Cell.lst hb rfl,?_⟩)
   .have:=h''.2; rw [if_neg h2,if_neg h3] at this; exact this.2.2.2.1 h'
   .have:((x.v.len:Int) == 0)=decide (entP kind i e):=by
     rw [Bool.eq_iff_iff,decide_eq_true_iff,beq_iff_eq]; unfold entP; rw [if_neg h2,if_neg h3,hvl]
     exact ⟨fun h6=>⟨hk,h,h4,h5,h',by omega⟩,fun h6=>by have:=h6.2.2.2.2.2; omega⟩
    rw [this]; exact k
end
section
variable {w:Wd}
theorem ent_copy{s:Sl}{L:List (EntV×Ent)}{t:Int}{K:Nat->Wd->Prop}(r:Rd w.heap s 9 (L.flatMap entCs))(h0:0<=t)(h1:t < (s.len:Int))
  (k:∀ b w' (hi:t.toNat < L.length),w'.heap[b]? = some (.cells L[t.toNat].1.cs.toArray 133 (0,0))->b=w.heap.size->w'.heap.size=w.heap.size+1->Ext No w w'->K b w') :
  Ix s.a s.len t 9 fun a=>∃ c:Sl,Cell w a (.slice c.a c.len c.cap)/\∃ c_1:Sl,Cell w (a.add 1) (.slice c_1.a c_1.len c_1.cap)/\∃ c_2:Int,Cell w (a.add 2) (.int .i64 c_2)/\∃ c_3:Int,Cell w (a.add 3) (.int .u32 c_3) /\
   ∃ c_4:Int,Cell w (a.add 4) (.int .u64 c_4)/\∃ c_5:Int,Cell w (a.add 5) (.int .u16 c_5)/\∃ c_6:Int,Cell w (a.add 6) (.int .u32 c_6)/\∃ c_7:Int,Cell w (a.add 7) (.int .u64 c_7)/\∃ c_8:Int,Cell w (a.add 8) (.int .u16 c_8) /\
   NewW w (.cells [.slice none 0 0, .slice none 0 0, .int .i64 0, .int .u32 0, .int .u64 0, .int .u16 0, .int .u32 0, .int .u64 0, .int .u16 0].toArray 133) fun b_1 w5 =>
   List.length (α:=Value) [.slice c.a c.len c.cap, .slice c_1.a c_1.len c_1.cap, .int .i64 c_2, .int .u32 c_3, .int .u64 c_4, .int .u16 c_5, .int .u32 c_6, .int .u64 c_7, .int .u16 c_8]=9 /\
   StN w5 (Addr.mk b_1 0 none) [.slice c.a c.len c.cap, .slice c_1.a c_1.len c_1.cap, .int .i64 c_2, .int .u32 c_3, .int .u64 c_4, .int .u16 c_5, .int .u32 c_6, .int .u64 c_7, .int .u16 c_8] fun w6=>K b_1 w6 :=
 ent_load r h0 h1 fun hi=>new_set rfl rfl (by intro v hv; simp only [List.mem_cons,List.not_mem_nil,or_false] at hv; rcases hv with h | h | h | h | h | h | h | h | h <;> subst h <;> rfl) fun b w' hb e z x=>k b w' hi hb e z x
theorem _root_.Go.V.NdR.get{h:Array Obj}{s:Sl}{L:List (EntV×Ent)}(r:NdR h s L){i:Nat}(hi:i < L.length):EntR h L[i].1 L[i].2:=r.ent _ (List.getElem_mem hi)
abbrev ents(L:List (EntV×Ent)):List Ent:=L.map Prod.snd
theorem right_spec{kind lev:Int}{s:Sl}{L:List (EntV×Ent)}{K:Int->Wd->Prop}(r:NdR w.heap s L)(hs:L.length<=4294967296)
  (k0:∀ w',RightP kind lev (ents L)->Ext No w w'->K 0 w') (k1:∀ c w',¬ RightP kind lev (ents L)->c≠0->Ext No w w'->K c w'):C_slot_Right kind lev s w K:=by
 apply S_slot_Right
 refine NewW.mk fun b w1 h1=>?_
 have hb:=h1.get
 have hl:=r.len
 refine ⟨fun w'=>w'=w1/\shapeP kind lev/\(kind=2->L≠[]),?_,?_⟩
 .refine ⟨_,Cell.lst hb rfl,_,Cell.lst hb rfl,shape_spec (If.not (If.dec (fun hsh=>?_) fun hsh=>k1 2 _ (fun h=>hsh h.shape) (by decide) h1.ext))⟩
  refine ⟨_,Cell.lst hb rfl,If.beq (fun h2=>⟨_,Cell.lst hb rfl,If.beq (fun h3=>?_) fun h3=>⟨rfl,hsh,fun _ h=>?_⟩⟩) fun h2=>⟨rfl,hsh,fun h=>(h2 h).elim⟩⟩
  .refine k1 2 _ (fun h=>h.some h2 ?_) (by decide) h1.ext
   rw [List.map_eq_nil_iff]; exact List.eq_nil_of_length_eq_zero (by omega)
  .rw [h] at hl; simp at hl; omega
 rintro _ w3 ⟨rfl,hsh,hso⟩
 refine ⟨_,Cell.lst hb rfl,fun m t w'=>∃ i:Nat,t=i/\i<=L.length/\m=L.length - i/\Ext No w3 w'/\(∀ j (h:j < i) (h':j < L.length),entP kind j L[j].2)/\(∀ j (h:j+1 < i) (h':j+1 < L.length),LtB L[j].2.key L[j+1].2.key),⟨L.length,0,rfl,by omega,by omega,Ext.refl _ _,fun j h=>by omega,fun j h=>by omega⟩,?_⟩
 rintro _ m0 t w4 ⟨i,rfl,hi,hm,x4,he,ho⟩
 have x04:Ext No w w4:=h1.ext.no x4
 refine If.dec (fun h=>?_) (fun h=>?_)
 .refine ent_copy (r.rd.no x04) (by omega) h fun b1 w6 hi' hb1 eb1 _ x6=>?_
  simp only [Int.toNat_natCast] at hi' hb1
  have x06:=x04.no x6
  have e6:=(r.no x06).get hi'
  have hb6:=get_no hb (x4.no x6)
  refine ⟨_,Cell.lst hb6 rfl,ent_read hb1 (entry_spec e6 fun w7 x7=>If.not (If.dec (fun hp=>?_) fun hp=>k1 2 _ (fun h=>hp ?_) (by decide) (x06.no x7)))⟩
  rotate_left
  .have:=h.ent i (by simpa using hi'); simpa using this
  have hb7:=get_no hb6 x7
  have hb17:=get_no hb1 x7
  have x07:=x06.no x7
  refine ⟨Ext No w7,(Ext.refl _ _).drew,If.dec (fun h0=>?_) fun h0=>?_⟩
  .refine ⟨_,Held.cell (Cell.lst hb7 rfl),Ar.i64 (by omega) (Ix.elem (r.rd.no x07) (entCs_len L) (by decide) (by omega) (by omega) fun b2 o2 hi2 _ hc=>⟨_,Held.cell (hc 0 _ rfl),_,Held.cell (Cell.lst hb17 rfl),?_⟩)⟩
   have e2:((i:Int) - 1).toNat=i - 1:=by omega
   simp only [e2] at hi2 ⊢
   have r7:=r.no x07.drew
   have ea:=r7.get hi2
   have eb:=r7.get hi'
   refine compare_spec ea.k eb.k ea.k8 eb.k8 ⟨(Ext.refl _ _).drew,If.dec (fun hc=>k1 120 _ (fun hr=>?_) (by decide) x07.drew) fun hc=>Ar.i64 (by omega) ⟨L.length - (i+1),by omega,i+1,by omega,by omega,rfl,(x4.no (x6.no x7)).drew,fun j h h'=>?_,fun j h h'=>?_⟩⟩
   .have:=hr.ord (i - 1) (by simp; omega)
    simp only [List.getElem_map,show i - 1+1=i by omega] at this
    exact cmpB_ge.1 hc this
   .rcases Nat.lt_or_ge j i with h3 | h3
    .exact he j h3 h'
    .have:j=i:=by omega
     subst this; exact hp
   .rcases Nat.lt_or_ge (j+1) i with h3 | h3
    .exact ho j h3 h'
    .have:j=i - 1:=by omega
     subst this
     simp only [show i - 1+1=i by omega]
     exact Classical.not_not.1 fun hh=>hc (cmpB_ge.2 hh)
  .refine Ar.i64 (by omega) ⟨L.length - (i+1),by omega,i+1,by omega,by omega,rfl,(x4.no (x6.no x7)).drew,fun j h h'=>?_,fun j h h'=>by omega⟩
   have:j=i:=by omega
   subst this; exact hp
 .refine k0 _ ⟨hsh,fun h=>by rw [ne_eq,List.map_eq_nil_iff]; exact hso h,fun j hj=>?_,fun j hj=>?_⟩ x04
  .simp only [List.length_map,List.getElem_map] at hj ⊢; exact he j (by omega) hj
  .simp only [List.length_map,List.getElem_map] at hj ⊢; exact ho j (by omega) hj
theorem OwnB.new{n:Nat}{b:Nat}{w':Wd}{l:List Int}(h:New w (.cells (l.map (Value.int .u8)).toArray 5) b w')(hn:l.length=n):OwnB w'.heap w.heap.size ⟨some ⟨b,0,none⟩,n,n⟩ l :=
 Own.new h (by simp [hn]) oneC_ints
theorem slotref_spec{r:Rf}{K:Sl->Wd->Prop}(ok:r.ok)(k:∀ s w',OwnB w'.heap w.heap.size s (refB r)->Ext No w w'->K s w'):C_slot_ref r.p r.c r.g w K:=by
 apply S_slot_ref
 obtain ⟨h1,h2,h3⟩:=ok
 refine NewW.mk fun b w1 n1=>?_
 have hb:=n1.get
 refine ⟨_,Cell.lst hb rfl,Ar.u64 (by omega) (put_spec h1.1 (by decide) (by decide) (by show r.p < 256 ^ 4; omega) fun s1 w2 o2 x2=>?_)⟩
 refine ⟨_,Cell.lst (get_no hb x2) rfl,put_spec h2.1 (by decide) (by decide) (by show r.c < 256 ^ 8; omega) fun s2 w3 o3 x3=>?_⟩
 refine ⟨_,Cell.lst (get_no hb (x2.no x3)) rfl,Ar.u64 (by omega) (put_spec h3.1 (by decide) (by decide) (by show r.g < 256 ^ 2; omega) fun s3 w4 o4 x4=>NewW.mk fun b5 w5 n5=>?_)⟩
 have r5:Rd w5.heap ⟨some ⟨b5,0,none⟩,3,3⟩ 1 ([(s1,be 4 r.p),(s2,be 8 r.c),(s3,be 2 r.g)].map fun p=>p.1.v):=(Own.new (n:=3) (sz:=1) n5 rfl (by intro v hv; simp only [List.mem_cons,List.not_mem_nil,or_false] at hv; rcases hv with h | h | h <;> subst h <;> rfl)).rd
 refine concat_spec r5 (fun p hp=>?_) (by simp [be_len]) (by simp) fun s w' o x=>k s w' ?_ ?_
 .simp only [List.mem_cons,List.not_mem_nil,or_false] at hp
  rcases hp with h | h | h <;> subst h
  .exact o2.rd.no ((x3.no x4).no n5.ext)
  .exact o3.rd.no (x4.no n5.ext)
  .exact o4.rd.no n5.ext
 .have e:refB r=([(s1,be 4 r.p),(s2,be 8 r.c),(s3,be 2 r.g)].map Prod.snd).flatten:=by simp [refB]
  rw [e]
  exact Own.mono o ((n1.ext.no x2).no (x3.no (x4.no n5.ext))).size
 .exact ((n1.ext.no x2).no (x3.no (x4.no n5.ext))).no x
theorem get_ext{S:Nat->Prop}{w':Wd}{b:Nat}{o:Obj}(h:w.heap[b]? = some o)(x:Ext S w w')(hb:¬ S b):w'.heap[b]? = some o:=by
 rw [x.blk b (blt h) hb]; exact h
theorem appQ{w0:Wd}{Q:Nat->Prop}{s s':Sl}{base:Nat}{l m:List Int}{K:Sl->Wd->Prop}(xq:Ext Q w0 w)(hq:∀ i,s.blk=some i->Q i)(hq2:∀ i,w0.heap.size<=i->Q i)(o:OwnB w.heap base s l)(hb:base<=w.heap.size)(r:RdB w.heap s' m)(hn:l.length+m.length<=1099511627776)
  (k:∀ t w',OwnB w'.heap base t (l++m)->(∀ i,t.blk=some i->Q i)->Ext Q w0 w'->K t w'):AppW pz 40 40 s (.slice s'.a s'.len s'.cap) K w :=
 app_uint8 o hb r.src (by have:=OwnB.len o; have:=RdB.len r; omega) fun t w' o' _ x hbl=>k t w' (by show Own _ _ 5 1 t _; rw [List.map_append]; exact o') (fun i hi=>by
  rcases hbl with h | ⟨b,h,hle⟩
  .exact hq i (h ▸ hi)
  .rw [hi] at h; cases h; exact hq2 i (Nat.le_trans xq.size hle)) (xq.trans x fun i _ h=>hq i h)
theorem wrE_le(kind:Int){e:Ent}(h1:e.key.length<=1048576)(h2:e.val.length<=1048576):(wrE kind e).length<=4194304:=by
 unfold wrE
 simp only [List.length_append,List.length_cons]
 split
 .rw [refB_len]; omega
 .split
  .simp [refB_len]; omega
  .simp; omega
def Short(L:List (EntV×Ent)):Prop:=L.length<=65536/\∀ p∈L,p.2.key.length<=1048576/\p.2.val.length<=1048576
theorem wr_take_le{kind:Int}{L:List (EntV×Ent)}(h:Short L):∀ i,(((ents L).take i).flatMap (wrE kind)).length<=L.length * 4194304:=fun i=>by
 have h2:∀(l:List Ent),(∀ e∈l,e.key.length<=1048576/\e.val.length<=1048576)->(l.flatMap (wrE kind)).length<=l.length * 4194304:=by
  intro l hl
  induction l with
  | nil=>simp
  | cons e l ih =>
   have:=wrE_le kind (hl e List.mem_cons_self).1 (hl e List.mem_cons_self).2
   have:=ih fun e he=>hl e (List.mem_cons_of_mem _ he)
   simp only [List.flatMap_cons,List.length_append,List.length_cons]; omega
 refine Nat.le_trans (h2 _ fun e he=>?_) (Nat.mul_le_mul_right _ (by simp only [List.length_take,List.length_map]; omega))
 obtain ⟨p,hp,rfl⟩:=List.mem_map.1 (List.mem_of_mem_take he)
 exact h.2 p hp
set_option maxHeartbeats 400000 in
theorem write_spec{kind lev:Int}{s:Sl}{L:List (EntV×Ent)}{K:Sl->Wd->Prop}(r:NdR w.heap s L)(hs:Short L)
  (k:∀ t w',OwnB w'.heap w.heap.size t (wr kind lev (ents L))->Ext No w w'->K t w'):C_slot_write kind lev s w K:=by
 apply S_slot_write
 have hl:=r.len
 have hs1:=hs.1
 refine NewW.mk fun b w1 h1=>?_
 have hb:=h1.get
 refine ⟨_,Cell.lst hb rfl,_,Cell.lst hb rfl,_,Cell.lst hb rfl,Ar.u8m (NewW.mk fun b1 w2 h2=>⟨_,Cell.lst (get_no hb h2.ext) rfl,?_⟩)⟩
 have o2:OwnB w2.heap w1.heap.size ⟨some ⟨b1,0,none⟩,3,3⟩ ([kind,lev,(L.length % 256:Int)]):=by
  have:=OwnB.new (n:=3) (l:=[kind,lev,((s.len:Int) % 256)]) h2 rfl
  rw [hl] at this
  exact this
 have hf:∀ i (h:i < L.length),((ents L).take (i+1)).flatMap (wrE kind)=((ents L).take i).flatMap (wrE kind)++wrE kind L[i].2:=fun i h=>by
  rw [List.take_add_one,List.getElem?_eq_getElem (by simpa using h)]
  simp
 refine ⟨fun m t i w'=>∃ j:Nat,i=j/\j<=L.length/\m=L.length - j/\Ext No w w'/\w'.heap[b]? = some (.cells [.int .u8 kind, .int .u8 lev, .slice s.a s.len s.cap].toArray 39 (0,0))/\OwnB w'.heap w1.heap.size t ([kind,lev,(L.length % 256:Int)]++((ents L).take j).flatMap (wrE kind)),⟨L.length,0,rfl,by omega,by omega,h1.ext.no h2.ext,get_no hb h2.ext,by simpa using o2⟩,?_⟩
 rintro _ m0 t i w3 ⟨j,rfl,hj,hm,x3,hb3,o3⟩
 refine If.dec (fun h=>?_) (fun h=>?_)
 .refine ent_copy (r.rd.no x3) (by omega) h fun b4 w5 hi' hb4 eb4 z5 x5=>?_
  simp only [Int.toNat_natCast] at hi' hb4
  have x05:=x3.no x5
  have e5:=(r.no x05).get hi'
  have hs2:=hs.2 _ (List.getElem_mem hi')
  have hlen:([kind,lev,(L.length % 256:Int)]++((ents L).take j).flatMap (wrE kind)).length<=274877906950:=by
   have:=wr_take_le (kind:=kind) hs j
   simp only [List.length_append,List.length_cons,List.length_nil]; omega
  have z1:=h1.size
  have hx3:=x3.size
  have hw13:w1.heap.size<=w3.heap.size:=by have:=blt hb3; have:=h1.at_; omega
  generalize hl0:([kind,lev,(L.length % 256:Int)]++((ents L).take j).flatMap (wrE kind))=l0 at *
  let Q:Nat->Prop:=fun i=>w1.heap.size<=i/\i≠b4
  have nb:¬ Q b:=fun h=>by have:=h1.at_; have:=h.1; omega
  have nb4:¬ Q b4:=fun h=>h.2 rfl
  have hQ2:∀ i,w5.heap.size<=i->Q i:=fun i hi=>⟨by omega,by omega⟩
  have toNo:∀{w':Wd},Ext Q w5 w'->Ext No w w':=fun x=>x05.trans x fun i hi h=>by have:=h.1; omega
  have hq3:∀ i,t.blk=some i->Q i:=fun i hi=>by have:=o3.lt hi; exact ⟨this.1,by omega⟩
  have hb5:=get_no hb3 x5
  have o5:OwnB w5.heap w1.heap.size t l0:=o3.no x5
  have fin:∀{t':Sl}{w':Wd}{l:List Int},Ext Q w5 w'->OwnB w'.heap w1.heap.size t' (l0++l)->l=wrE kind L[j].2->∃ m1,m1 < m0/\∃ j':Nat,((j:Int)+1)=j'/\j'<=L.length/\m1=L.length - j'/\Ext No w w'/\w'.heap[b]? = some (.cells [.int .u8 kind, .int .u8 lev, .slice s.a s.len s.cap].toArray 39 (0,0))/\OwnB w'.heap w1.heap.size t' ([kind,lev,(L.length % 256:Int)]++((ents L).take j').flatMap (wrE kind)):=fun {t' w' l} x o e =>
   ⟨L.length - (j+1),by omega,j+1,by omega,by omega,rfl,toNo x,get_ext hb5 x nb,by rw [hf j hi',<- List.append_assoc,hl0,<- e]; exact o⟩
  have hkl:=RdB.len e5.k
  have hvl:=RdB.len e5.v
  refine ⟨Ext Q w5,(Ext.refl _ _).drew,_,Held.but (Cell.lst hb4 rfl) nb4,Ar.u8m ⟨_,Held.but (Cell.lst hb4 rfl) nb4,NewW.mk fun b6 w6 n6=>?_⟩⟩
  have x6:Ext Q w5 w6:=((Ext.refl _ _).drew).no n6.ext
  refine ⟨x6,appQ (s':=⟨some ⟨b6,0,none⟩,1,1⟩) (l:=l0) x6 hq3 hQ2 (o5.no ((Ext.refl No w5).drew.no n6.ext)) (by have:=x6.size; omega) (OwnB.new (n:=1) (l:=[((L[j].1.k.len:Int) % 256)]) n6 rfl).rd (by simp; omega) fun s7 w7 o7 q7 x7=>⟨x7,?_⟩⟩
  refine appQ x7 q7 hQ2 o7 (by have:=x7.size; omega) ((r.no (toNo x7)).get hi').k (by simp; omega) fun s8 w8 o8 q8 x8=>⟨x8,_,Cell.lst (get_ext hb5 x8 nb) rfl,?_⟩
  have e8:=(r.no (toNo x8)).get hi'
  have hb8:=get_ext hb4 x8 nb4
  have z8:=x8.size
  refine If.beq (fun h2=>?_) (fun h2=>?_)
  .refine ⟨_,Cell.lst hb8 rfl,_,Cell.lst hb8 rfl,_,Cell.lst hb8 rfl,?_⟩
   rw [e8.cd]
   refine slotref_spec e8.cdo fun s9 w9 o9 x9=>appQ (x8.no x9) q8 hQ2 (o8.no x9) (by have:=x9.size; omega) o9.rd (by simp [refB_len]; omega) fun s10 w10 o10 q10 x10=>Ar.i64 (by omega) (fin x10 (by simpa only [List.append_assoc] using o10) ?_)
   unfold wrE; rw [if_pos h2,hkl]; simp
  .refine ⟨_,Cell.lst hb8 rfl,?_⟩
   rw [e8.n]
   refine If.dec (fun h3=>?_) (fun h3=>?_)
   .refine ⟨_,Cell.lst hb8 rfl,by decide,Nm.as (e':=L[j].2.n / 256) (by rw [show min (Int.toNat 8) (IntKind.bits .i64)=8 from rfl,Int.fdiv_eq_ediv_of_nonneg _ (by decide),e8.n]; rfl) (Ar.u8m ⟨_,Cell.lst hb8 rfl,Ar.u8m (NewW.mk fun b9 w9 n9=>?_)⟩)⟩
    refine appQ (s':=⟨some ⟨b9,0,none⟩,3,3⟩) (x8.no n9.ext) q8 hQ2 (o8.no n9.ext) (by have:=n9.ext.size; omega) (OwnB.new (n:=3) (l:=[1,L[j].2.n / 256 % 256,L[j].1.n % 256]) n9 rfl).rd (by simp; omega) fun s10 w10 o10 q10 x10=>?_
    have hb10:=get_ext hb4 x10 nb4
    have z10:=x10.size
    refine ⟨_,Cell.lst hb10 rfl,_,Cell.lst hb10 rfl,_,Cell.lst hb10 rfl,?_⟩
    rw [e8.ch]
    refine slotref_spec e8.cho fun s11 w11 o11 x11=>appQ (x10.no x11) q10 hQ2 (o10.no x11) (by have:=x11.size; omega) o11.rd (by simp [refB_len]; omega) fun s12 w12 o12 q12 x12=>Ar.i64 (by omega) (fin x12 (by simpa only [List.append_assoc] using o12) ?_)
    unfold wrE; rw [if_neg h2,if_pos h3,hkl,e8.n]; simp
   .refine ⟨Ext Q w8,(Ext.refl _ _).drew,_,Held.but (Cell.lst hb8 rfl) nb4,Ar.u8m ⟨_,Held.but (Cell.lst hb8 rfl) nb4,NewW.mk fun b9 w9 n9=>?_⟩⟩
    have x9:Ext Q w8 w9:=((Ext.refl _ _).drew).no n9.ext
    have hQ8:∀ i,w8.heap.size<=i->Q i:=fun i hi=>hQ2 i (by omega)
    have tt:∀{w':Wd},Ext Q w8 w'->Ext Q w5 w':=fun x=>x8.trans x fun _ _ h=>h
    refine ⟨x9,appQ (s':=⟨some ⟨b9,0,none⟩,2,2⟩) x9 q8 hQ8 (o8.no ((Ext.refl No w8).drew.no n9.ext)) (by have:=x9.size; omega) (OwnB.new (n:=2) (l:=[0,((L[j].1.v.len:Int) % 256)]) n9 rfl).rd (by simp; omega) fun s10 w10 o10 q10 x10=>⟨x10,?_⟩⟩
    refine appQ x10 q10 hQ8 o10 (by have:=x10.size; omega) ((r.no (toNo (tt x10))).get hi').v (by simp; omega) fun s11 w11 o11 q11 x11=>⟨x11,Ar.i64 (by omega) (fin (tt x11) (by simpa only [List.append_assoc] using o11) ?_)⟩
    unfold wrE; rw [if_neg h2,if_neg h3,hkl,hvl]; simp
 .have e:j=L.length:=by omega
  subst e
  refine k _ _ ?_ x3
  refine Own.mono ?_ h1.ext.size
  have e2:(ents L).take L.length=ents L:=List.take_of_length_le (by simp)
  rw [e2] at o3
  unfold wr; simp only [List.length_map]; exact o3
theorem _root_.Go.V.RightP.short{kind lev:Int}{L:List (EntV×Ent)}(h:RightP kind lev (ents L))(hl:L.length<=65536):Short L:=by
 refine ⟨hl,fun p hp=>?_⟩
 obtain ⟨i,hi,rfl⟩:=List.getElem_of_mem hp
 have:=h.ent i (by simpa using hi)
 simp only [List.getElem_map] at this
 obtain ⟨h1,h2⟩:=this
 unfold keyP at h1
 constructor
 .split at h1 <;> omega
 .split at h2
  .omega
  .obtain ⟨_,h2⟩:=h2
   split at h2 <;> omega
theorem size_spec{kind lev:Int}{s:Sl}{L:List (EntV×Ent)}{K:Int->Int->Wd->Prop}(r:NdR w.heap s L)(hs:L.length<=65536)
  (k0:∀ w',RightP kind lev (ents L)->Ext No w w'->K ((wr kind lev (ents L)).length:Int) 0 w') (k1:∀ c w',¬ RightP kind lev (ents L)->c≠0->Ext No w w'->K 0 c w'):C_slot_Size kind lev s w K:=by
 apply S_slot_Size
 refine NewW.mk fun b w1 h1=>?_
 have hb:=h1.get
 refine ⟨_,Cell.lst hb rfl,_,Cell.lst hb rfl,_,Cell.lst hb rfl,right_spec (r.no h1.ext) (by omega) (fun w2 hr x2=>If.bne (fun h=>(h rfl).elim) fun _=>?_) (fun c w2 hr hc x2=>If.bne (fun _=>k1 c _ hr hc (h1.ext.no x2)) fun h=>(hc h).elim)⟩
 have hb2:=get_no hb x2
 refine ⟨_,Cell.lst hb2 rfl,_,Cell.lst hb2 rfl,_,Cell.lst hb2 rfl,write_spec (r.no (h1.ext.no x2)) (hr.short hs) fun t w3 o3 x3=>?_⟩
 rw [OwnB.len o3]
 exact k0 _ hr ((h1.ext.no x2).no x3)
def _root_.Go.V.pad(l:List Int):List Int:=l++List.replicate (224 - l.length) 0
theorem _root_.Go.V.pad_len{l:List Int}(h:l.length<=224):(pad l).length=224:=by simp [pad]; omega
theorem encode_spec{kind lev:Int}{s:Sl}{L:List (EntV×Ent)}{K:Sl->Int->Wd->Prop}(r:NdR w.heap s L)(hs:L.length<=65536)
  (k0:∀ t w',RightP kind lev (ents L)->(wr kind lev (ents L)).length<=224->OwnB w'.heap w.heap.size t (pad (wr kind lev (ents L)))->Ext No w w'->K t 0 w')
  (k1:∀ c w',¬ (RightP kind lev (ents L)/\(wr kind lev (ents L)).length<=224)->c≠0->Ext No w w'->K ⟨none,0,0⟩ c w'):C_slot_Encode kind lev s w K:=by
 apply S_slot_Encode
 refine NewW.mk fun b w1 h1=>?_
 have hb:=h1.get
 refine ⟨_,Cell.lst hb rfl,_,Cell.lst hb rfl,_,Cell.lst hb rfl,right_spec (r.no h1.ext) (by omega) (fun w2 hr x2=>If.bne (fun h=>(h rfl).elim) fun _=>?_) (fun c w2 hr hc x2=>If.bne (fun _=>k1 c _ (fun h=>hr h.1) hc (h1.ext.no x2)) fun h=>(hc h).elim)⟩
 have hb2:=get_no hb x2
 refine ⟨_,Cell.lst hb2 rfl,_,Cell.lst hb2 rfl,_,Cell.lst hb2 rfl,write_spec (r.no (h1.ext.no x2)) (hr.short hs) fun t w3 o3 x3=>?_⟩
 have x03:=(h1.ext.no x2).no x3
 have hl:=OwnB.len o3
 refine If.dec (fun h=>k1 3 _ (fun h'=>by omega) (by decide) x03) (fun h=>Ar.i64 (by omega) ?_)
 have e:(224 - (t.len:Int))=((224 - (wr kind lev (ents L)).length:Nat):Int):=by omega
 rw [e]
 refine app_zero (k := .i64) (ie:=Tryz.t5) (z := .int .u8 0) (by kernel_rfl) (by kernel_rfl) (by kernel_rfl) (by kernel_rfl) (by kernel_rfl) (by kernel_rfl) rfl (by kernel_rfl) o3 (x3.size) (by omega) fun s' w' o _ x _=>k0 _ _ hr (by omega) (Own.mono (base:=w2.heap.size) ?_ (h1.ext.no x2).size) (x03.trans x fun i hi h=>?_)
 .rw [<- List.map_replicate,<- List.map_append] at o; exact o
 .have:=(o3.lt h).1; have:=(h1.ext.no x2).size; omega
end
end Go.Proofs.YtcamoanigdfihaaGreat
namespace Go.V
variable {α:Type} [DecidableEq α]
def findA(a:α):List (α×Value)->Nat->Option (Nat×Value)
 | [],_=>none
 | p::m,i=>if a=p.1 then some (i,p.2) else findA a m (i+1)
def getA(a:α):List (α×Value)->Option Value
 | []=>none
 | p::m=>if a=p.1 then some p.2 else getA a m
def putA(a:α)(v:Value):List (α×Value)->List (α×Value)
 | []=>[(a,v)]
 | p::m=>if a=p.1 then (a,v)::m else p::putA a v m
def delA(a:α):List (α×Value)->List (α×Value)
 | []=>[]
 | p::m=>if a=p.1 then m else p::delA a m
structure KeyOK(P:Program)(kt:TypeId)(enc:α->Value):Prop where
 ck:∀ b a w,(Instr.checkKey b 10000 kt (enc a)).run P w = .ok () w
 fk:∀ a (es:List MapEntry) (m:List (α×Value)) w,es.map (fun e=>(e.key,e.val))=m.map (fun p=>(enc p.1,p.2))->(Instr.findKey kt (enc a) es).run P w = .ok (findA a m 0) w
 st:∀ a,Instr.sameBits 10000 (enc a) (enc a)=true
def BornOK(es:List MapEntry)(clock:Nat):Prop:=(es.map (·.born)).Nodup/\∀ e∈es,e.born < clock
theorem BornOK.nil:BornOK [] 0:=⟨.nil,fun _ h=>nomatch h⟩
theorem BornOK.push{es:List MapEntry}{clock:Nat}(h:BornOK es clock)(k v:Value):BornOK (es++[{ key:=k,val:=v,born:=clock }]) (clock+1):=by
 refine ⟨?_,fun e he=>?_⟩
 .rw [List.map_append]
  refine List.nodup_append.2 ⟨h.1,by simp,fun a ha b hb=>?_⟩
  simp only [List.map_cons,List.map_nil,List.mem_singleton] at hb
  obtain ⟨e,he,rfl⟩:=List.mem_map.1 ha
  have:=h.2 e he; omega
 .rcases List.mem_append.1 he with h1 | h1
  .have:=h.2 e h1; omega
  .rw [List.mem_singleton] at h1; subst h1; exact Nat.lt_succ_self _
theorem BornOK.as{es es':List MapEntry}{clock:Nat}(h:BornOK es clock)(e:es'.map (·.born)=es.map (·.born)):BornOK es' clock:=by
 refine ⟨e ▸ h.1,fun x hx=>?_⟩
 have:x.born∈es.map (·.born):=e ▸ List.mem_map.2 ⟨x,hx,rfl⟩
 obtain ⟨y,hy,hb⟩:=List.mem_map.1 this
 rw [<- hb]; exact h.2 y hy
theorem BornOK.sub{es es':List MapEntry}{clock:Nat}(h:BornOK es clock)(e:es'.Sublist es):BornOK es' clock:=⟨h.1.sublist (e.map _),fun x hx=>h.2 x (e.subset hx)⟩
def MapR(h:Array Obj)(enc:α->Value)(r:Nat)(m:List (α×Value)):Prop:=∃ es clock,h[r]? = some (.map es clock)/\es.toList.map (fun e=>(e.key,e.val))=m.map (fun p=>(enc p.1,p.2))/\BornOK es.toList clock
theorem findA_get(a:α):∀(m:List (α×Value))(i:Nat),(findA a m i).map Prod.snd=getA a m
 | [],_=>rfl
 | p::m,i=>by
  unfold findA getA
  split
  .rfl
  .exact findA_get a m (i+1)
theorem findA_none{a:α}{v:Value}:∀{m:List (α×Value)}{i:Nat},findA a m i=none->putA a v m=m++[(a,v)]/\delA a m=m
 | [],_,_=>⟨rfl,rfl⟩
 | p::m,i,h=>by
  unfold findA at h
  split at h
  .cases h
  .rename_i hn
   have:=findA_none (v:=v) h
   unfold putA delA
   rw [if_neg hn,if_neg hn,this.1,this.2]
   exact ⟨rfl,rfl⟩
theorem findA_some{a:α}:∀{m:List (α×Value)}{i j:Nat}{u v:Value},findA a m i=some (j,u)->i<=j/\j - i < m.length/\putA a v m=m.set (j - i) (a,v)/\delA a m=m.eraseIdx (j - i)/\(m[j - i]?).map Prod.fst=some a
 | [],_,_,_,_,h=>by cases h
 | p::m,i,j,u,v,h=>by
  unfold findA at h
  split at h
  .rename_i hn
   cases h
   refine ⟨Nat.le_refl _,by simp,?_,?_,?_⟩
   .unfold putA; rw [if_pos hn]; simp
   .unfold delA; rw [if_pos hn]; simp
   .simp [hn]
  .rename_i hn
   obtain ⟨h1,h2,h3,h4,h5⟩:=findA_some (v:=v) h
   have e:j - i=(j - (i+1))+1:=by omega
   refine ⟨by omega,by simp; omega,?_,?_,?_⟩
   .unfold putA; rw [if_neg hn,h3,e]; rfl
   .unfold delA; rw [if_neg hn,h4,e]; rfl
   .rw [e]; simpa using h5
theorem map_eraseIdx'{β γ:Type}(f:β->γ):∀(l:List β)(i:Nat),(l.eraseIdx i).map f=(l.map f).eraseIdx i
 | [],_=>rfl
 | _::_,0=>rfl
 | x::l,i+1=>by simp [map_eraseIdx' f l i]
section
variable {P:Program} {w:Wd} {mt kt et:TypeId} {enc:α->Value} {r:Nat} {m:List (α×Value)} {a:α}
theorem run_getMap{es:Array MapEntry}{clock:Nat}(h:w.heap[r]? = some (.map es clock)):(getObj r).run P w = .ok (.map es clock) w:=by
 simp [getObj,Sem.run,h]
theorem run_setMap{es:Array MapEntry}{clock:Nat}(o:Obj)(h:w.heap[r]? = some (.map es clock)):(setObj r o).run P w = .ok () (World.setBlk w r o):=by
 simp [setObj,Sem.run,h,World.setBlk]
theorem run_lookup(K:KeyOK P kt enc)(ht:P.underlying mt=some (.map kt et)){z:Value}(hz:(zeroValue et).run P w = .ok z w)(h:MapR w.heap enc r m):(Instr.lookup mt (.map (some r)) (enc a) false).run P w = .ok ((getA a m).getD z) w:=by
 obtain ⟨es,clock,hb,he,hB⟩:=h
 have hf:=K.fk a es.toList m w he
 have hg:=findA_get a m 0
 simp only [Instr.lookup,Sem.run_bind,run_und ht,Result.andThen_ok,run_getMap hb,K.ck,hf,Sem.run_pure]
 cases hfa:findA a m 0 with
 | none=>rw [hfa] at hg; simp [<- hg,hz]
 | some p=>rw [hfa] at hg; simp [<- hg]
theorem run_mapUpdate(K:KeyOK P kt enc)(ht:P.underlying mt=some (.map kt et)){v:Value}(h:MapR w.heap enc r m):∃ w',(Instr.mapUpdate mt (.map (some r)) (enc a) v).run P w = .ok () w'/\MapR w'.heap enc r (putA a v m)/\Ext (·=r) w w'/\w'.heap.size=w.heap.size:=by
 obtain ⟨es,clock,hb,he,hB⟩:=h
 have hf:=K.fk a es.toList m w he
 cases hfa:findA a m 0 with
 | none =>
  refine ⟨World.setBlk w r (.map (es.push { key:=enc a,val:=v,born:=clock }) (clock+1)),?_,⟨_,_,heap_setBlk hb,?_,by rw [Array.toList_push]; exact hB.push _ _⟩,Wrt.ext rfl,Wrt.size rfl⟩
  .rw [hfa] at hf
   simp [Instr.mapUpdate,run_und ht,run_getMap hb,K.ck,hf,run_setMap _ hb]
  .rw [(findA_none (v:=v) hfa).1]; simp [he]
 | some p =>
  obtain ⟨j,u⟩:=p
  obtain ⟨_,h2,h3,_,h5⟩:=findA_some (v:=v) hfa
  simp only [Nat.sub_zero] at h2 h3 h5
  have hl:es.size=m.length:=by have:=congrArg List.length he; simpa using this
  have hk:((es[j]?).map (·.key)).getD (enc a)=enc a:=by
   have:=congrArg (fun l=>(l[j]?).map Prod.fst) he
   simp only [List.getElem?_map,Option.map_map] at this
   have e2:Option.map (fun x=>enc x.1) m[j]? = some (enc a):=by
    cases hm:m[j]? with
    | none=>rw [hm] at h5; cases h5
    | some q=>rw [hm] at h5; simp only [Option.map_some,Option.some.injEq] at h5 ⊢; rw [h5]
   have e3:Option.map (·.key) es[j]? = some (enc a):=by
    rw [<- e2]
    simpa [Function.comp_def] using this
   rw [e3]; rfl
  refine ⟨World.setBlk w r (.map (es.modify j fun e=>{ e with key:=enc a,val:=v }) clock),?_,⟨_,_,heap_setBlk hb,?_,hB.as ?_⟩,Wrt.ext rfl,Wrt.size rfl⟩
  .rw [hfa] at hf
   simp [Instr.mapUpdate,run_und ht,run_getMap hb,K.ck,hf,run_setMap _ hb,hk,Instr.keyThatStays,K.st]
  .rw [h3,Array.toList_modify]
   apply List.ext_getElem?
   intro i
   have hi:=congrArg (fun l=>l[i]?) he
   simp only [List.getElem?_map,List.getElem?_modify,List.getElem?_set] at hi ⊢
   by_cases hij:j=i
   .subst hij
    rw [if_pos rfl,if_pos h2,List.getElem?_eq_getElem (by simpa [hl] using h2)]
    simp
   .rw [if_neg hij]; simpa [hij] using hi
  .rw [Array.toList_modify]
   apply List.ext_getElem?
   intro i
   simp only [List.getElem?_map,List.getElem?_modify]
   by_cases hij:j=i
   .subst hij; cases es.toList[j]? <;> simp
   .simp [hij]
theorem run_delete(K:KeyOK P kt enc)(ht:P.underlying mt=some (.map kt et)){t:TypeId}(h:MapR w.heap enc r m):∃ w',(Builtin.delete_ #[mt,kt] t #[.map (some r),enc a]).run P w = .ok (.tuple #[]) w'/\MapR w'.heap enc r (delA a m)/\Ext (·=r) w w'/\w'.heap.size=w.heap.size:=by
 obtain ⟨es,clock,hb,he,hB⟩:=h
 have hf:=K.fk a es.toList m w he
 cases hfa:findA a m 0 with
 | none =>
  refine ⟨World.setBlk w r (.map es clock),?_,⟨_,_,heap_setBlk hb,?_,hB⟩,Wrt.ext rfl,Wrt.size rfl⟩
  .rw [hfa] at hf
   simp [Builtin.delete_,run_und ht,run_getMap hb,K.ck,hf,run_setMap _ hb]
  .rw [(findA_none (v := .nilFunc) hfa).2]; exact he
 | some p =>
  obtain ⟨j,u⟩:=p
  obtain ⟨_,h2,_,h4,_⟩:=findA_some (v := .nilFunc) hfa
  simp only [Nat.sub_zero] at h2 h4
  refine ⟨World.setBlk w r (.map (es.eraseIdxIfInBounds j) clock),?_,⟨_,_,heap_setBlk hb,?_,hB.sub (by rw [Array.toList_eraseIdxIfInBounds]; exact List.eraseIdx_sublist _ _)⟩,Wrt.ext rfl,Wrt.size rfl⟩
  .rw [hfa] at hf
   simp [Builtin.delete_,run_und ht,run_getMap hb,K.ck,hf,run_setMap _ hb]
  .rw [h4,Array.toList_eraseIdxIfInBounds,map_eraseIdx',he,map_eraseIdx']
omit [DecidableEq α] in
theorem MapR.ext{S:Nat->Prop}{w':Wd}(h:MapR w.heap enc r m)(x:Ext S w w')(hS:¬ S r):MapR w'.heap enc r m:=by
 obtain ⟨es,clock,hb,he,hB⟩:=h
 exact ⟨es,clock,by rw [x.blk r (by rcases Nat.lt_or_ge r w.heap.size with k | k; exact k; rw [Array.getElem?_eq_none k] at hb; cases hb) hS]; exact hb,he,hB⟩
theorem int_key{k:IntKind}(hk:P.underlying kt=some (.int k)):KeyOK P kt (fun a:Int=>Value.int k a):=by
 refine ⟨fun b a w=>?_,fun a es m w he=>?_,fun a=>by simp [Instr.sameBits]⟩
 .rw [show (10000:Nat)=9999+1 from rfl,Instr.checkKey]
  simp only [Sem.run_bind,run_und hk,Result.andThen_ok]
  rfl
 .have:∀(es:List MapEntry)(m:List (Int×Value))(i:Nat),es.map (fun e=>(e.key,e.val))=m.map (fun p=>(Value.int k p.1,p.2))->Instr.findNow (.int k) (.int k a) es i=some (findA a m i):=by
   intro es
   induction es with
   | nil=>intro m i h; cases m with | nil=>rfl | cons=>cases h
   | cons e es ih =>
    intro m i h
    cases m with
    | nil=>cases h
    | cons p m =>
     simp only [List.map_cons,List.cons.injEq,Prod.mk.injEq] at h
     unfold Instr.findNow findA
     rw [h.1.1]
     simp only [Instr.sameNow,if_true]
     by_cases hap:a=p.1
     .simp [hap,h.1.2]
     .rw [show (a == p.1)=false by simp [hap],if_neg hap]
      exact ih m (i+1) h.2
  simp [Instr.findKey,run_und hk,this es m 0 he]
theorem ba_beq(a b:ByteArray):(a == b)=decide (a=b):=by
 obtain ⟨a⟩:=a; obtain ⟨b⟩:=b
 show (a == b)=_
 by_cases h:a=b
 .subst h; simp
 .rw [decide_eq_false (by simpa using h)]; simpa using h
theorem str_key(hk:P.underlying kt=some .string):KeyOK P kt (fun a:ByteArray=>Value.string a):=by
 refine ⟨fun b a w=>?_,fun a es m w he=>?_,fun a=>by simp [Instr.sameBits,ba_beq]⟩
 .rw [show (10000:Nat)=9999+1 from rfl,Instr.checkKey]
  simp only [Sem.run_bind,run_und hk,Result.andThen_ok]
  rfl
 .have:∀(es:List MapEntry)(m:List (ByteArray×Value))(i:Nat),es.map (fun e=>(e.key,e.val))=m.map (fun p=>(Value.string p.1,p.2))->Instr.findNow .string (.string a) es i=some (findA a m i):=by
   intro es
   induction es with
   | nil=>intro m i h; cases m with | nil=>rfl | cons=>cases h
   | cons e es ih =>
    intro m i h
    cases m with
    | nil=>cases h
    | cons p m =>
     simp only [List.map_cons,List.cons.injEq,Prod.mk.injEq] at h
     unfold Instr.findNow findA
     rw [h.1.1]
     simp only [Instr.sameNow,ba_beq]
     by_cases hap:a=p.1
     .simp [hap,h.1.2]
     .simp only [hap,decide_false,if_false]
      exact ih m (i+1) h.2
  simp [Instr.findKey,run_und hk,this es m 0 he]
end
end Go.V
set_option maxRecDepth 100000
namespace Go.V
section
variable {P:Program} {w:Wd} {mt kt et:TypeId} {r it clock:Nat} {es:Array MapEntry} {seen:Array Nat}
theorem run_range(ht:P.underlying mt=some (.map kt et))(h:w.heap[r]? = some (.map es clock)):∃ w',(Instr.range mt (.map (some r))).run P w = .ok (.pointer (some ⟨w.heap.size,0,none⟩)) w'/\New w (.mapIter (some r) clock #[] clock) w.heap.size w':=by
 refine ⟨_,?_,rfl,rfl⟩
 simp [Instr.range,run_und ht,run_getMap h,newObj,Sem.run]
 rfl
theorem run_pick{n:Nat}(h:1<=n):∃ i w',(choose (.mapNext n)).run P w = .ok i w'/\i < n/\w'.heap=w.heap/\Ext No w w':=by
 rcases Nat.lt_or_ge 1 n with h1 | h1
 .refine ⟨w.tape w.drawn (.mapNext n) % n,drewW w,?_,Nat.mod_lt _ (by omega),rfl,(Ext.refl _ _).drew⟩
  simp [choose,Sem.run,Question.forced,Question.cut,drewW,show ¬ n<=1 by omega]
 .refine ⟨0,w,?_,by omega,rfl,Ext.refl _ _⟩
  simp [choose,Sem.run,Question.forced,h1]
theorem run_next(hi:w.heap[it]? = some (.mapIter (some r) clock seen clock))(h:w.heap[r]? = some (.map es clock))(hB:BornOK es.toList clock) :
  ((∀ e∈es.toList,e.born∈seen.toList)/\∃ w',(Instr.next (.pointer (some ⟨it,0,none⟩)) false 0).run P w = .ok (.tuple #[.bool false]) w'/\Ext No w w') ∨
  ∃ e∈es.toList,e.born ∉ seen.toList/\∃ w',(Instr.next (.pointer (some ⟨it,0,none⟩)) false 0).run P w = .ok (.tuple #[.bool true,e.key,e.val]) w'/\w'.heap[it]? = some (.mapIter (some r) clock (seen.push e.born) clock)/\Ext (·=it) w w':=by
 have hcond:(!seen.isEmpty && !es.isEmpty && es.all (fun e=>decide (e.born≥clock)))=false:=by
  cases he:es.isEmpty with
  | true=>simp
  | false =>
   have hne:es.size≠0:=by simpa using he
   have:es.all (fun e=>decide (e.born≥clock))=false:=by
    rw [Array.all_eq_false]
    refine ⟨0,by omega,?_⟩
    have:=hB.2 es[0] (by simp)
    simp; omega
   simp [this]
 have hgi:(getObj it).run P w = .ok (.mapIter (some r) clock seen clock) w:=by simp [getObj,Sem.run,hi]
 have hold:∀ e∈(es.filter fun e=>!seen.contains e.born),decide (e.born < clock)=true:=fun e he=>by
  have:=(Array.mem_filter.1 he).1
  have:=hB.2 e (by simpa using this)
  simpa using this
 have h1:(es.filter fun e=>!seen.contains e.born).filter (fun e=>decide (e.born < clock))=es.filter fun e=>!seen.contains e.born:=Array.filter_eq_self.2 hold
 have h2:(es.filter fun e=>!seen.contains e.born).filter (fun e=>decide (e.born≥clock))=#[]:=Array.filter_eq_empty_iff.2 fun e he=>by
  have:=hold e he
  simp at this ⊢; omega
 generalize hleft:(es.filter fun e=>!seen.contains e.born)=left at *
 rcases Nat.eq_zero_or_pos left.size with h0 | h0
 .refine .inl ⟨fun e he=>?_,?_⟩
  .have hm:e ∉ left:=by rw [Array.eq_empty_of_size_eq_zero h0]; simp
   rw [<- hleft,Array.mem_filter] at hm
   simp only [Array.mem_toList_iff] at he ⊢
   simpa [he] using hm
  .obtain ⟨i,w',hc,hlt,_,hx⟩:=run_pick (P:=P) (w:=w) (n:=1) (Nat.le_refl _)
   have hi0:i=0:=by omega
   subst hi0
   have he0:left=#[]:=Array.eq_empty_of_size_eq_zero h0
   refine ⟨w',?_,hx⟩
   simp only [Instr.next,Sem.run_bind,Result.andThen_ok,hgi,run_getMap h,hcond,Bool.false_eq_true,if_false,hleft,h1,h2]
   subst he0
   simp [hc,-run_choose]
 .obtain ⟨i,w',hc,hlt,hh,hx⟩:=run_pick (P:=P) (w:=w) (n:=left.size) h0
  have hne:left.isEmpty=false:=by simpa using (fun h=>by rw [h] at h0; simp at h0:¬ left=#[])
  have hmem:left[i]∈es.filter fun e=>!seen.contains e.born:=by rw [hleft]; exact Array.getElem_mem hlt
  have hm:=Array.mem_filter.1 hmem
  refine .inr ⟨left[i],by simpa using hm.1,by simpa using hm.2,World.setBlk w' it (.mapIter (some r) clock (seen.push left[i].born) clock),?_,?_,?_⟩
  .have hset:∀ o,(setObj it o).run P w' = .ok () (World.setBlk w' it o):=fun o=>by simp [setObj,Sem.run,World.setBlk,hh,hi]
   simp only [Instr.next,Sem.run_bind,Result.andThen_ok,hgi,run_getMap h,hcond,Bool.false_eq_true,if_false,hleft,h1,h2]
   simp [hne,hc,hset,hlt,-run_choose]
  .exact heap_setBlk (by rw [hh]; exact hi)
  .exact hx.of_no.trans (Wrt.ext rfl) fun _ _ h=>h
theorem run_entry{e:MapEntry}(hi:w.heap[it]? = some (.mapIter (some r) clock (seen.push e.born) clock))(h:w.heap[r]? = some (.map es clock))(hB:BornOK es.toList clock)(he:e∈es.toList):(Instr.entry (.pointer (some ⟨it,0,none⟩))).run P w = .ok (.tuple #[e.key,e.val]) w:=by
 have hgi:(getObj it).run P w = .ok (.mapIter (some r) clock (seen.push e.born) clock) w:=by simp [getObj,Sem.run,hi]
 have hf:es.find? (fun x=>x.born == e.born)=some e:=by
  rw [<- Array.find?_toList]
  have hn:=hB.1
  revert he hn
  generalize es.toList=l
  intro he hn
  induction l with
  | nil=>cases he
  | cons x l ih =>
   simp only [List.map_cons,List.nodup_cons] at hn
   rcases List.mem_cons.1 he with h' | h'
   .subst h'; simp
   .have:x.born≠e.born:=fun h2=>hn.1 (h2 ▸ List.mem_map.2 ⟨e,h',rfl⟩)
    rw [List.find?_cons_of_neg (by simpa using this)]
    exact ih h' hn.2
 simp [Instr.entry,hgi,run_getMap h,hf]
end
end Go.V
namespace Go.Proofs.YtcamoanigdfihaaGreat
open Go.V
abbrev A1(b:Nat):Addr:=⟨b,0,none⟩
structure DecS(h:Array Obj)(n0:Nat)(b:Sl)(P:List Int)(kind lev:Int)(ls:Sl)(place fault:Int):Prop where
 c1:h[n0]? = some (.cells [.slice b.a b.len b.cap].toArray 40 (0,0))
 c2:h[n0+1]? = some (.cells [.int .u8 kind, .int .u8 lev, .slice ls.a ls.len ls.cap].toArray 39 (0,0))
 c3:h[n0+2]? = some (.cells [.int .i64 place].toArray 3 (0,0))
 c4:h[n0+3]? = some (.cells [.int .i64 fault].toArray 3 (0,0))
 c5:h[n0+4]? = some (.cells [.func (.func 144) #[] #[.pointer (some (A1 (n0+3)))]].toArray 251 (0,0))
 c6:h[n0+5]? = some (.cells [.func (.func 145) #[] #[.pointer (some (A1 (n0+3))), .pointer (some (A1 (n0+2))), .pointer (some (A1 (n0+4))), .pointer (some (A1 n0))]].toArray 255 (0,0))
 c7:h[n0+6]? = some (.cells [.func (.func 149) #[] #[]].toArray 252 (0,0))
 rd:RdB h b P
 low:∀ i,b.blk=some i->P≠[]->i < n0
 p8:B8 P
 len:P.length=224
section
variable {w:Wd} {n0:Nat} {b:Sl} {P:List Int} {kind lev:Int} {ls:Sl} {place fault:Int}
theorem DecS.ext{S:Nat->Prop}{w':Wd}(d:DecS w.heap n0 b P kind lev ls place fault)(x:Ext S w w')(hS:∀ i,i < n0+7->¬ S i):DecS w'.heap n0 b P kind lev ls place fault :=
 ⟨get_ext d.c1 x (hS _ (by omega)),get_ext d.c2 x (hS _ (by omega)),get_ext d.c3 x (hS _ (by omega)),get_ext d.c4 x (hS _ (by omega)),get_ext d.c5 x (hS _ (by omega)),get_ext d.c6 x (hS _ (by omega)),get_ext d.c7 x (hS _ (by omega)),
  d.rd.ext x (fun a i ha hi=>hS i (by have:=d.low i (by simp [Sl.blk,ha,hi]) (by intro h; have:=d.len; rw [h] at this; simp at this); omega)),d.low,d.p8,d.len⟩
theorem DecS.no{w':Wd}(d:DecS w.heap n0 b P kind lev ls place fault)(x:Ext No w w'):DecS w'.heap n0 b P kind lev ls place fault:=d.ext x fun _ _ h=>h
theorem DecS.setPlace{w':Wd}{p:Int}(d:DecS w.heap n0 b P kind lev ls place fault)(h:Wrt w (n0+2) (.cells [.int .i64 p].toArray 3 (0,0)) w'):DecS w'.heap n0 b P kind lev ls p fault:=by
 have o:∀{i:Nat}{o:Obj},i≠n0+2->w.heap[i]? = some o->w'.heap[i]? = some o:=fun hi ho=>by rw [h.other hi]; exact ho
 exact ⟨o (by omega) d.c1,o (by omega) d.c2,h.get d.c3,o (by omega) d.c4,o (by omega) d.c5,o (by omega) d.c6,o (by omega) d.c7,
  d.rd.ext h.ext (fun a i ha hi=>by have:=d.low i (by simp [Sl.blk,ha,hi]) (by intro h; have:=d.len; rw [h] at this; simp at this); omega),d.low,d.p8,d.len⟩
theorem DecS.setFault{w':Wd}{p:Int}(d:DecS w.heap n0 b P kind lev ls place fault)(h:Wrt w (n0+3) (.cells [.int .i64 p].toArray 3 (0,0)) w'):DecS w'.heap n0 b P kind lev ls place p:=by
 have o:∀{i:Nat}{o:Obj},i≠n0+3->w.heap[i]? = some o->w'.heap[i]? = some o:=fun hi ho=>by rw [h.other hi]; exact ho
 exact ⟨o (by omega) d.c1,o (by omega) d.c2,o (by omega) d.c3,h.get d.c4,o (by omega) d.c5,o (by omega) d.c6,o (by omega) d.c7,
  d.rd.ext h.ext (fun a i ha hi=>by have:=d.low i (by simp [Sl.blk,ha,hi]) (by intro h; have:=d.len; rw [h] at this; simp at this); omega),d.low,d.p8,d.len⟩
theorem DecS.setNode{w':Wd}{kind' lev':Int}{ls':Sl}(d:DecS w.heap n0 b P kind lev ls place fault)(h:Wrt w (n0+1) (.cells [.int .u8 kind', .int .u8 lev', .slice ls'.a ls'.len ls'.cap].toArray 39 (0,0)) w'):DecS w'.heap n0 b P kind' lev' ls' place fault:=by
 have o:∀{i:Nat}{o:Obj},i≠n0+1->w.heap[i]? = some o->w'.heap[i]? = some o:=fun hi ho=>by rw [h.other hi]; exact ho
 exact ⟨o (by omega) d.c1,h.get d.c2,o (by omega) d.c3,o (by omega) d.c4,o (by omega) d.c5,o (by omega) d.c6,o (by omega) d.c7,
  d.rd.ext h.ext (fun a i ha hi=>by have:=d.low i (by simp [Sl.blk,ha,hi]) (by intro h; have:=d.len; rw [h] at this; simp at this); omega),d.low,d.p8,d.len⟩
theorem cutB{s:Sl}{P pre x suf:List Int}{lo hi:Int}{K:Sl->Prop}(r:RdB w.heap s P)(hP:P=pre++(x++suf))(h1:lo=pre.length)(h2:hi=pre.length+x.length)(k:∀ s',RdB w.heap s' x->K s'):Cut s lo hi (((s.cap:Nat):Int)) 1 K:=by
 have hl:=RdB.len r
 have hc:=Rd.cap r
 have hPl:P.length=pre.length+(x.length+suf.length):=by rw [hP]; simp
 subst h1 h2
 refine Cut.mk (by omega) (by omega) (by omega) (Int.le_refl _) (k _ ?_)
 have:=Rd.cut r (lo:=pre.length) (hi:=pre.length+x.length) (mx:=s.cap) (by omega) (by omega) (by omega)
 rw [Nat.mul_one,Nat.mul_one,show pre.length+x.length - pre.length=x.length by omega] at this
 have e:(List.take x.length (List.drop pre.length (P.map (Value.int .u8))))=x.map (Value.int .u8):=by
  rw [hP,<- List.map_drop,<- List.map_take,List.drop_left,List.take_left]
 rw [e] at this
 have e2:((pre.length:Int)+(x.length:Int) - (pre.length:Int)).toNat=x.length:=by omega
 have e3:((s.cap:Int) - (pre.length:Int)).toNat=s.cap - pre.length:=by omega
 rw [e2,e3]
 exact this
theorem wrong_spec{p:Int}{K:Wd->Prop}(d:DecS w.heap n0 b P kind lev ls place fault)(hf:fault < 0)(k:∀ w',Wrt w (n0+3) (.cells [.int .i64 p].toArray 3 (0,0)) w'->K w'):C_slot_Decode_1 p (A1 (n0+3)) w K:=by
 apply S_slot_Decode_1
 exact ⟨_,Cell.lst d.c4 rfl,If.dec (fun _=>St1.mk d.c4 (by simp) rfl fun w' h=>k w' h) (fun h=>(h hf).elim)⟩
abbrev takeF(n0:Nat):Value := .func (.func 145) #[] #[.pointer (some (A1 (n0+3))), .pointer (some (A1 (n0+2))), .pointer (some (A1 (n0+4))), .pointer (some (A1 n0))]
theorem take_ok{may:Value}{size:Int}{pre x suf:List Int}{K:Int->Wd->Prop}{rd:Bool}(d:DecS w.heap n0 b P kind lev ls pre.length (-1))(hP:P=pre++(x++suf))(hx:(x.length:Int)=size)(h1:1<=size)(h8:size<=8)
  (hm:∀ K':Bool->Wd->Prop,K' true w->dynV pz true may [.int .u64 (num x)] [.one (.bool)] K' NoX w)
  (k:∀ w',DecS w'.heap n0 b P kind lev ls (pre.length+size) (-1)->Ext (·=n0+2) w w'->w'.heap.size=w.heap.size->K (num x) w'):dynV pz rd (takeF n0) [.int .i64 size,may] [.one (.int .u64)] K NoX w:=by
 refine V_slot_Decode_2 (c0:=A1 (n0+3)) (c1:=A1 (n0+2)) (c2:=A1 (n0+4)) (c3:=A1 n0) (S_slot_Decode_2 ?_)
 have hPl:pre.length+(x.length+suf.length)=224:=by rw [<- d.len,hP]; simp
 have hx8:B8 x:=d.p8.sub fun y hy=>by rw [hP]; simp [hy]
 refine ⟨_,Cell.lst d.c4 rfl,If.dec (fun h=>by omega) fun _=>⟨_,Cell.lst d.c3 rfl,Ar.i64 (by omega) (If.dec (fun h=>by omega) fun _=>⟨_,Cell.lst d.c1 rfl,_,Cell.lst d.c3 rfl,_,Cell.lst d.c3 rfl,Ar.i64 (by omega) ?_⟩)⟩⟩
 refine cutB d.rd hP rfl (by omega) fun s' r'=>get_spec r' hx8 (by omega) (by omega) (hm _ (If.no ⟨_,Cell.lst d.c3 rfl,Ar.i64 (by omega) (St1.mk d.c3 (by simp) rfl fun w' h=>?_)⟩))
 exact k w' (d.setPlace h) h.ext h.size
theorem text_ok{may:Value}{pre x suf:List Int}{K:Sl->Wd->Prop}{rd:Bool}(d:DecS w.heap n0 b P kind lev ls pre.length (-1))(hP:P=pre++(((x.length:Int))::x++suf))(hn:n0+7<=w.heap.size)(hm1:oneC may=true)
  (hm:∀ w' (K':Bool->Wd->Prop),Ext No w w'->K' true w'->dynV pz true may [.int .u64 (x.length:Int)] [.one (.bool)] K' NoX w')
  (k:∀ s w',DecS w'.heap n0 b P kind lev ls (pre.length+1+x.length) (-1)->OwnB w'.heap w.heap.size s x->Ext (·=n0+2) w w'->K s w') :
  dynV pz rd (.func (.func 147) #[] #[.pointer (some (A1 (n0+5))), .pointer (some (A1 (n0+2))), .pointer (some (A1 (n0+3))), .pointer (some (A1 n0))]) [may] [.one (.sl)] K NoX w:=by
 refine V_slot_Decode_3 (c0:=A1 (n0+5)) (c1:=A1 (n0+2)) (c2:=A1 (n0+3)) (c3:=A1 n0) (S_slot_Decode_3 ?_)
 have hPl:pre.length+(1+x.length+suf.length)=224:=by rw [<- d.len,hP]; simp; omega
 refine ⟨hm1,NewW.mk fun b1 w1 n1=>?_⟩
 have d1:=d.no n1.ext
 have hb1:=n1.at_
 refine ⟨_,Cell.lst d1.c6 rfl,?_⟩
 have hP2:P=pre++([(x.length:Int)]++(x++suf)):=by rw [hP]; simp
 have e1:num [(x.length:Int)]=x.length:=by simp [num]
 refine take_ok (x:=[(x.length:Int)]) d1 hP2 rfl (by decide) (by decide) (fun K' hK=>?_) fun w2 d2 x2 z2=>?_
 .rw [e1]
  apply V_slot_Decode_3_1
  apply S_slot_Decode_3_1
  refine ⟨_,Cell.lst n1.get rfl,hm w1 _ n1.ext (If.yes (Ar.i64 (by omega) ⟨_,Cell.lst d1.c3 rfl,Ar.i64 (by omega) (Ar.i64 (by omega) ?_)⟩))⟩
  have:decide ((x.length:Int)<=224 - (pre.length:Int) - 1)=true:=decide_eq_true (by omega)
  rw [this]; exact hK
 rw [e1]
 refine ⟨_,Cell.lst d2.c4 rfl,If.dec (fun h=>by omega) fun _=>⟨_,Cell.lst d2.c3 rfl,Ar.i64 (by omega) (Ar.i64 (by omega) (St1.mk d2.c3 (by simp) rfl fun w3 h3=>NewW.mk fun b4 w4 n4=>?_))⟩⟩
 have d3:DecS w3.heap n0 b P kind lev ls (pre.length+1+x.length) (-1):=d2.setPlace h3
 have d4:=d3.no n4.ext
 refine ⟨_,Cell.lst d4.c1 rfl,_,Cell.lst d4.c3 rfl,Ar.i64 (by omega) (Ar.i64 (by omega) ⟨_,Cell.lst d4.c3 rfl,?_⟩)⟩
 have hP3:P=(pre++[(x.length:Int)])++(x++suf):=by rw [hP]; simp
 refine cutB d4.rd hP3 (by simp) (by simp) fun s' r'=>?_
 have o4:OwnB w4.heap w3.heap.size ⟨some ⟨b4,0,none⟩,0,0⟩ []:=OwnB.new (l:=[]) n4 rfl
 have z4:=n4.size
 have z3:=h3.size
 have z1:=n1.size
 have hb4:=n4.at_
 refine appQ (s:=⟨some ⟨b4,0,none⟩,0,0⟩) (Q:=fun i=>w3.heap.size<=i) (Ext.refl _ w4) (fun i hi=>by have:=Option.some.inj hi; simp only at this; omega) (fun i hi=>by omega) o4 (by omega) r' (by simp; omega) fun s5 w5 o5 q5 x5=>?_
 refine k _ _ (d4.ext x5 fun i hi h=>by omega) (Own.mono o5 (by omega)) ?_
 refine ((((n1.ext.of_no).trans x2 fun i _ h=>h).trans h3.ext fun i _ h=>h).no n4.ext).trans x5 fun i hi h=>by omega
theorem num_zeros:∀(l:List Int),(∀ y∈l,y=0)->num l=0:=by
 intro l h
 have:∀(l:List Int)(a:Int),(∀ y∈l,y=0)->a=0->l.foldl (fun n x=>n * 256+x) a=0:=by
  intro l
  induction l with
  | nil=>intro a _ h; exact h
  | cons y l ih =>
   intro a h ha
   rw [List.foldl_cons]
   exact ih _ (fun z hz=>h z (List.mem_cons_of_mem _ hz)) (by rw [ha,h y List.mem_cons_self]; rfl)
 exact this l 0 h rfl
theorem refB_zero{r:Rf}(ok:r.ok)(h:∀ y∈refB r,y=0):r = .z:=by
 obtain ⟨h1,h2,h3⟩:=ok
 have a:=num_be 4 h1.1 (by omega)
 have b:=num_be 8 h2.1 (by omega)
 have c:=num_be 2 h3.1 (by omega)
 rw [num_zeros _ fun y hy=>h y (by simp [refB,hy])] at a b c
 cases r; simp only at a b c; simp [Rf.z,<- a,<- b,<- c]
theorem any_ok{v:Int}{K:Bool->Wd->Prop}(k:K true w):dynV pz true (.func (.func 149) #[] #[]) [.int .u64 v] [.one (.bool)] K NoX w:=V_slot_Decode_4 (S_slot_Decode_4 k)
theorem pin_ok{r:Rf}{pre suf:List Int}{K:Int->Int->Int->Wd->Prop}{rd:Bool}(d:DecS w.heap n0 b P kind lev ls pre.length (-1))(hP:P=pre++(refB r++suf))(hn:n0+7<=w.heap.size)(ok:r.ok)(hz:r ≠ .z)
  (k:∀ w',DecS w'.heap n0 b P kind lev ls (pre.length+14) (-1)->Ext (·=n0+2) w w'->K r.p r.c r.g w') :
  dynV pz rd (.func (.func 150) #[] #[.pointer (some (A1 (n0+3))), .pointer (some (A1 (n0+2))), .pointer (some (A1 n0)), .pointer (some (A1 (n0+4))), .pointer (some (A1 (n0+5))), .pointer (some (A1 (n0+6)))]) [] [.agg [.one (.int .u32), .one (.int .u64), .one (.int .u16)]] K NoX w:=by
 refine V_slot_Decode_5 (c0:=A1 (n0+3)) (c1:=A1 (n0+2)) (c2:=A1 n0) (c3:=A1 (n0+4)) (c4:=A1 (n0+5)) (c5:=A1 (n0+6)) (S_slot_Decode_5 ?_)
 have hPl:pre.length+(14+suf.length)=224:=by rw [<- d.len,hP]; simp [refB_len]
 have h8:B8 (refB r):=d.p8.sub fun y hy=>by rw [hP]; simp [hy]
 refine NewW.mk fun b1 w1 n1=>?_
 have d1:=d.no n1.ext
 have hb1:=n1.at_
 refine ⟨fun w'=>w'=w1,?_,?_⟩
 .refine ⟨_,Cell.lst d1.c4 rfl,If.dec (fun _=>⟨_,Cell.lst d1.c3 rfl,Ar.i64 (by omega) (If.dec (fun _=>⟨_,Cell.lst d1.c1 rfl,_,Cell.lst d1.c3 rfl,_,Cell.lst d1.c3 rfl,Ar.i64 (by omega) (cutB d1.rd hP rfl (by rw [refB_len]; rfl) fun s' r'=>nought_spec r' h8 (by rw [refB_len]; decide) ?_)⟩) fun _=>rfl)⟩) fun _=>rfl⟩
  rw [decide_eq_false fun h=>hz (refB_zero ok h)]
  exact If.no rfl
 rintro _ w4 rfl
 refine ⟨fun w'=>w'=w4,?_,?_⟩
 .exact ⟨_,Cell.lst d1.c4 rfl,If.dec (fun _=>⟨_,Cell.lst d1.c3 rfl,Ar.i64 (by omega) (If.dec (fun h=>by omega) fun _=>rfl)⟩) fun _=>rfl⟩
 rintro _ w6 rfl
 obtain ⟨h1,h2,h3⟩:=ok
 have nS:∀{i:Nat},n0+3<=i->i < n0+7->¬ (i=n0+2∨i=b1):=fun h h'=>by omega
 refine ⟨Ext (fun i=>i=n0+2∨i=b1) w6,(Ext.refl _ _).drew,_,Held.but (Cell.lst d1.c6 rfl) (nS (by omega) (by omega)),_,Held.but (Cell.lst d1.c7 rfl) (nS (by omega) (by omega)),_,Held.but (Cell.lst d1.c6 rfl) (nS (by omega) (by omega)),_,Held.but (Cell.lst d1.c7 rfl) (nS (by omega) (by omega)),_,Held.but (Cell.lst d1.c6 rfl) (nS (by omega) (by omega)),_,Held.but (Cell.lst d1.c7 rfl) (nS (by omega) (by omega)),?_⟩
 have toS:∀{w':Wd},Ext (·=n0+2) (drewW w6) w'->Ext (fun i=>i=n0+2∨i=b1) w6 w':=fun x=>(x.mono fun _ _ h => .inl h).drew_left
 have dd:DecS (drewW w6).heap n0 b P kind lev ls pre.length (-1):=d1
 refine take_ok (x:=be 4 r.p) (suf:=be 8 r.c++(be 2 r.g++suf)) dd (by rw [hP]; simp [refB]) (by rw [be_len]; rfl) (by decide) (by decide) (fun K' hK=>any_ok hK) fun w7 d7 x7 z7=>⟨toS x7,?_⟩
 rw [num_be 4 h1.1 (by omega)]
 have e7:((pre.length:Int)+4)=((pre++be 4 r.p).length:Nat):=by simp [be_len]
 rw [e7] at d7
 refine Ar.u32 (by omega) (take_ok (x:=be 8 r.c) (suf:=be 2 r.g++suf) d7 (by rw [hP]; simp [refB]) (by rw [be_len]; rfl) (by decide) (by decide) (fun K' hK=>any_ok hK) fun w8 d8 x8 z8=>⟨toS (x7.trans x8 fun _ _ h=>h),?_⟩)
 rw [num_be 8 h2.1 (by omega)]
 have e8:(((pre++be 4 r.p).length:Nat):Int)+8=((pre++be 4 r.p++be 8 r.c).length:Nat):=by simp [be_len]; omega
 rw [e8] at d8
 refine take_ok (x:=be 2 r.g) (suf:=suf) d8 (by rw [hP]; simp [refB]) (by rw [be_len]; rfl) (by decide) (by decide) (fun K' hK=>any_ok hK) fun w9 d9 x9 z9=>⟨toS ((x7.trans x8 fun _ _ h=>h).trans x9 fun _ _ h=>h),?_⟩
 rw [num_be 2 h3.1 (by omega)]
 have e9:(((pre++be 4 r.p++be 8 r.c).length:Nat):Int)+2=(pre.length:Int)+14:=by simp [be_len]; omega
 rw [e9] at d9
 have x69:=(x7.trans x8 fun _ _ h=>h).trans x9 fun _ _ h=>h
 have g9:w9.heap[b1]? = some (.cells [.int .u32 0, .int .u64 0, .int .u16 0].toArray 36 (0,0)):=get_ext (w:=drewW w6) n1.get x69 (by omega)
 refine Ar.u16 (by omega) ⟨rfl,_,_,_,g9,rfl,by simp, .inr (.inr (Nat.le_refl _)),?_,fun w10 h10=>?_⟩
 .intro v hv; simp only [List.mem_cons,List.not_mem_nil,or_false] at hv; rcases hv with h | h | h <;> subst h <;> rfl
 have g10:w10.heap[b1]? = some (.cells [.int .u32 r.p, .int .u64 r.c, .int .u16 r.g].toArray 36 (0,0)):=Wrt.get (b:=b1) h10 g9
 have x10:Ext (·=b1) w9 w10:=Wrt.ext (b:=b1) h10
 refine ⟨(toS x69).trans x10 fun _ _ h => .inr h,_,Cell.lst g10 rfl,_,Cell.lst g10 rfl,_,Cell.lst g10 rfl,k _ (d9.ext x10 fun i hi h=>by omega) ?_⟩
 exact ((n1.ext.drew.of_no).trans x69 fun _ _ h=>h).trans x10 fun i hi h=>by omega
end
end Go.Proofs.YtcamoanigdfihaaGreat
namespace Go.V
structure NdO(h:Array Obj)(base:Nat)(s:Sl)(L:List (EntV×Ent)):Prop where
 own:Own h base 133 9 s (L.flatMap entCs)
 ent:∀ p∈L,EntR h p.1 p.2
 kb:∀ p∈L,∀ b,p.1.k.blk=some b->base<=b/\b < h.size/\s.blk≠some b
 vb:∀ p∈L,∀ b,p.1.v.blk=some b->base<=b/\b < h.size/\s.blk≠some b
theorem NdO.nd{h:Array Obj}{base:Nat}{s:Sl}{L:List (EntV×Ent)}(o:NdO h base s L):NdR h s L:=⟨o.own.rd,o.ent⟩
theorem NdO.mono{h:Array Obj}{base base':Nat}{s:Sl}{L:List (EntV×Ent)}(o:NdO h base s L)(hb:base'<=base):NdO h base' s L:=⟨o.own.mono hb,o.ent,fun p hp b h=>⟨Nat.le_trans hb (o.kb p hp b h).1,(o.kb p hp b h).2⟩,fun p hp b h=>⟨Nat.le_trans hb (o.vb p hp b h).1,(o.vb p hp b h).2⟩⟩
theorem EntR.ext{S:Nat->Prop}{w w':Wd}{x:EntV}{e:Ent}(r:EntR w.heap x e)(h:Ext S w w')(h1:∀ b,x.k.blk=some b->¬ S b)(h2:∀ b,x.v.blk=some b->¬ S b):EntR w'.heap x e :=
 ⟨r.k.ext h fun a b ha hb=>h1 b (by simp [Sl.blk,ha,hb]),r.v.ext h fun a b ha hb=>h2 b (by simp [Sl.blk,ha,hb]),r.n,r.ch,r.cd,r.k8,r.v8,r.n64,r.cho,r.cdo⟩
theorem NdO.ext{S:Nat->Prop}{w w':Wd}{base:Nat}{s:Sl}{L:List (EntV×Ent)}(o:NdO w.heap base s L)(x:Ext S w w')(hS:∀ b,base<=b->b < w.heap.size->¬ S b):NdO w'.heap base s L :=
 ⟨o.own.ext x fun b hb=>hS b (o.own.lt hb).1 (o.own.lt hb).2,fun p hp=>(o.ent p hp).ext x (fun b h=>hS b (o.kb p hp b h).1 (o.kb p hp b h).2.1) (fun b h=>hS b (o.vb p hp b h).1 (o.vb p hp b h).2.1),
  fun p hp b h=>⟨(o.kb p hp b h).1,Nat.lt_of_lt_of_le (o.kb p hp b h).2.1 x.size,(o.kb p hp b h).2.2⟩,fun p hp b h=>⟨(o.vb p hp b h).1,Nat.lt_of_lt_of_le (o.vb p hp b h).2.1 x.size,(o.vb p hp b h).2.2⟩⟩
theorem NdO.no{w w':Wd}{base:Nat}{s:Sl}{L:List (EntV×Ent)}(o:NdO w.heap base s L)(x:Ext No w w'):NdO w'.heap base s L:=o.ext x fun _ _ _ h=>h
theorem NdO.nil(h:Array Obj)(base:Nat):NdO h base ⟨none,0,0⟩ []:=⟨Own.nil _ _ _ _,by simp,by simp,by simp⟩
theorem wr_cut{kind lev:Int}{l:List Ent}{i:Nat}(hi:i < l.length):pad (wr kind lev l)=([kind,lev,(l.length % 256:Int)]++(l.take i).flatMap (wrE kind))++(wrE kind l[i]++((l.drop (i+1)).flatMap (wrE kind)++List.replicate (224 - (wr kind lev l).length) 0)):=by
 have e:l.flatMap (wrE kind)=(l.take i).flatMap (wrE kind)++(wrE kind l[i]++(l.drop (i+1)).flatMap (wrE kind)):=by
  have:l=l.take i++(l[i]::l.drop (i+1)):=by rw [<- List.drop_eq_getElem_cons hi,List.take_append_drop]
  conv=>lhs; rw [this]
  rw [List.flatMap_append,List.flatMap_cons]
 have e2:pad (wr kind lev l)=[kind,lev,(l.length % 256:Int)]++l.flatMap (wrE kind)++List.replicate (224 - (wr kind lev l).length) 0:=rfl
 rw [e2,e]
 simp only [List.append_assoc]
end Go.V
namespace Go.Proofs.YtcamoanigdfihaaGreat
open Go.V
section
variable {w:Wd} {n0:Nat} {b:Sl} {P:List Int} {kind lev:Int} {ls:Sl} {place fault:Int}
theorem St1.b1{bb:Nat}{T:TypeId}{v v':Value}{K:Wd->Prop}(hb:w.heap[bb]? = some (.cells [v].toArray T (0,0)))(hv:oneC v'=true)(k:∀ w',Wrt w bb (.cells [v'].toArray T (0,0)) w'->K w'):St1 w (Addr.mk bb 0 none) v' K :=
 St1.mk hb (by simp) hv fun w' h=>k w' h
theorem NdO.push{w':Wd}{base:Nat}{s s':Sl}{L:List (EntV×Ent)}{p:EntV×Ent}(o:NdO w.heap base s L)(o':Own w'.heap base 133 9 s' (L.flatMap entCs++p.1.cs))(x:Ext (fun b=>s.blk=some b) w w')(hb:s'.blk=s.blk∨∃ b,s'.blk=some b/\w.heap.size<=b)
  (hp:EntR w.heap p.1 p.2) (h1:∀ b,p.1.k.blk=some b->base<=b/\b < w.heap.size/\s.blk≠some b) (h2:∀ b,p.1.v.blk=some b->base<=b/\b < w.heap.size/\s.blk≠some b):NdO w'.heap base s' (L++[p]):=by
 have key:∀ b,base<=b/\b < w.heap.size/\s.blk≠some b->base<=b/\b < w'.heap.size/\s'.blk≠some b:=fun b h=>⟨h.1,Nat.lt_of_lt_of_le h.2.1 x.size,fun e=>by
  rcases hb with h' | ⟨c,h',hc⟩
  .exact h.2.2 (h' ▸ e)
  .rw [h'] at e; cases e; omega⟩
 refine ⟨by rw [List.flatMap_append,List.flatMap_cons,List.flatMap_nil,List.append_nil]; exact o',fun q hq=>?_,fun q hq b h=>?_,fun q hq b h=>?_⟩
 .rcases List.mem_append.1 hq with h | h
  .exact (o.ent q h).ext x (fun b hb=>(o.kb q h b hb).2.2) (fun b hb=>(o.vb q h b hb).2.2)
  .rw [List.mem_singleton] at h; subst h; exact hp.ext x (fun b hb=>(h1 b hb).2.2) (fun b hb=>(h2 b hb).2.2)
 .rcases List.mem_append.1 hq with h' | h'
  .exact key b (o.kb q h' b h)
  .rw [List.mem_singleton] at h'; subst h'; exact key b (h1 b h)
 .rcases List.mem_append.1 hq with h' | h'
  .exact key b (o.vb q h' b h)
  .rw [List.mem_singleton] at h'; subst h'; exact key b (h2 b h)
def restB(kind:Int)(e:Ent):List Int:=if kind=2 then refB e.cd else if e.n > 0 then [1,e.n / 256 % 256,e.n % 256]++refB e.ch else [0,(e.val.length % 256:Int)]++e.val
theorem wrE_eq(kind:Int)(e:Ent):wrE kind e=(e.key.length % 256:Int)::e.key++restB kind e:=rfl
structure Got(w:Wd)(n0 b9:Nat)(base:Nat)(r3:Sl)(e:Ent)(x:EntV):Prop where
 blk:w.heap[b9]? = some (.cells x.cs.toArray 133 (0,0))
 k:x.k=r3
 v:Rd w.heap x.v 1 (e.val.map (Value.int .u8))
 vb:∀ b,x.v.blk=some b->base<=b/\b < w.heap.size
 n:x.n=e.n
 ch:x.ch=e.ch
 cd:x.cd=e.cd
set_option maxHeartbeats 1000000 in
theorem rest_ok{b9:Nat}{r3:Sl}{e:Ent}{i:Int}{pre suf:List Int}{J1:Wd->Prop}(d:DecS w.heap n0 b P kind lev ls pre.length (-1))(hP:P=pre++(restB kind e++suf))(hn:n0+7<=b9)
  (hb9:w.heap[b9]? = some (.cells (EntV.cs ⟨r3,⟨none,0,0⟩,0, .z, .z⟩).toArray 133 (0,0))) (hp:entP kind i e) (cho:e.ch.ok) (cdo:e.cd.ok)
  (k:∀ w' x,Got w' n0 b9 w.heap.size r3 e x->DecS w'.heap n0 b P kind lev ls (pre.length+(restB kind e).length) (-1)->Ext (fun q=>q=n0+2∨q=b9) w w'->J1 w') :
  ∃ vv_15:Int,Cell w (Addr.mk (n0+1) 0 none) (.int .u8 vv_15) /\
 If (vv_15 == 2) (
 dynV pz true (.func (.func 150) #[] #[.pointer (some (Addr.mk (n0+3) 0 none)), .pointer (some (Addr.mk (n0+2) 0 none)), .pointer (some (Addr.mk n0 0 none)), .pointer (some (Addr.mk (n0+4) 0 none)), .pointer (some (Addr.mk (n0+5) 0 none)), .pointer (some (Addr.mk (n0+6) 0 none))]) [] [.agg [.one (.int .u32), .one (.int .u64), .one (.int .u16)]] (fun r0 r1_1 r2_1 w30 =>
 List.length (α:=Value) [.int .u32 r0, .int .u64 r1_1, .int .u16 r2_1]=3/\StN w30 ((Addr.mk b9 0 none).add 6) [.int .u32 r0, .int .u64 r1_1, .int .u16 r2_1] fun w31 =>
 J1 w31) NoX w) (
 ∃ vv_16:Value,Cell w (Addr.mk (n0+5) 0 none) (vv_16) /\
 dynV pz true vv_16 [.int .i64 1, .func (.func 157) #[] #[]] [.one (.int .u64)] (fun r_5 w32 =>
 If (r_5 == 1) (
 ∃ vv_17:Value,Cell w32 (Addr.mk (n0+5) 0 none) (vv_17) /\
 dynV pz true vv_17 [.int .i64 2, .func (.func 158) #[] #[]] [.one (.int .u64)] (fun r_6 w33 =>
 Ar .i64 r_6 fun z_5 =>
 St1 w33 ((Addr.mk b9 0 none).add 2) (.int .i64 z_5) fun w34 =>
 dynV pz true (.func (.func 150) #[] #[.pointer (some (Addr.mk (n0+3) 0 none)), .pointer (some (Addr.mk (n0+2) 0 none)), .pointer (some (Addr.mk n0 0 none)), .pointer (some (Addr.mk (n0+4) 0 none)), .pointer (some (Addr.mk (n0+5) 0 none)), .pointer (some (Addr.mk (n0+6) 0 none))]) [] [.agg [.one (.int .u32), .one (.int .u64), .one (.int .u16)]] (fun r0_1 r1_2 r2_2 w35 =>
 List.length (α:=Value) [.int .u32 r0_1, .int .u64 r1_2, .int .u16 r2_2]=3/\StN w35 ((Addr.mk b9 0 none).add 3) [.int .u32 r0_1, .int .u64 r1_2, .int .u16 r2_2] fun w36 =>
 J1 w36) NoX w34) NoX w32) (
 dynV pz true (.func (.func 147) #[] #[.pointer (some (Addr.mk (n0+5) 0 none)), .pointer (some (Addr.mk (n0+2) 0 none)), .pointer (some (Addr.mk (n0+3) 0 none)), .pointer (some (Addr.mk n0 0 none))]) [.func (.func 159) #[] #[]] [.one (.sl)] (fun r_7 w37 =>
 St1 w37 ((Addr.mk b9 0 none).add 1) (.slice r_7.a r_7.len r_7.cap) fun w38 =>
 J1 w38) NoX w32)) NoX w):=by
 have hsz:n0+7<=w.heap.size:=by have:=blt hb9; omega
 refine ⟨_,Cell.lst d.c2 rfl,If.beq (fun h2=>?_) (fun h2=>?_)⟩
 .have hr:restB kind e=refB e.cd:=by unfold restB; rw [if_pos h2]
  have hp2:=hp.2
  rw [if_pos h2] at hp2
  rw [hr] at hP k
  refine pin_ok d hP hsz cdo hp2.1 fun w' d' x'=>⟨rfl,?_⟩
  have hb:=get_ext hb9 x' (by omega)
  refine ⟨_,_,_,hb,rfl,(by show 6+3<=9; decide), .inr (.inr (Nat.le_refl _)),?_,fun w2 h2'=>?_⟩
  .intro v hv; simp only [List.mem_cons,List.not_mem_nil,or_false] at hv; rcases hv with h | h | h <;> subst h <;> rfl
  have x2:Ext (·=b9) w' w2:=Wrt.ext (b:=b9) h2'
  have g2:w2.heap[b9]? = some (.cells (EntV.cs ⟨r3,⟨none,0,0⟩,0, .z,e.cd⟩).toArray 133 (0,0)):=Wrt.get (b:=b9) h2' hb
  have ev:e.val=[]:=List.eq_nil_of_length_eq_zero hp2.2.2.1
  refine k w2 _ ⟨g2,rfl,by rw [ev]; exact Rd.nil _ _,fun b h=>(by cases h),hp2.2.2.2.symm,hp2.2.1.symm,rfl⟩ ?_ ((x'.mono fun _ _ h => .inl h).trans x2 fun _ _ h => .inr h)
  rw [refB_len]
  exact d'.ext x2 fun q hq h=>by omega
 .have hp2:=hp.2
  rw [if_neg h2] at hp2
  obtain ⟨hcd,hp2⟩:=hp2
  refine ⟨_,Cell.lst d.c6 rfl,?_⟩
  rcases Classical.em (e.n=0) with h0 | h0
  .rw [if_pos h0] at hp2
   have hr:restB kind e=[0]++((e.val.length:Int)::e.val):=by
    unfold restB; rw [if_neg h2,if_neg (by omega),show ((e.val.length:Int) % 256)=e.val.length by omega]; rfl
   rw [hr] at hP k
   have e0:num [(0:Int)]=0:=rfl
   refine take_ok (x:=[0]) (suf:=((e.val.length:Int)::e.val)++suf) d (by rw [hP,List.append_assoc]) rfl (by decide) (by decide) (fun K' hK=>V_slot_Decode_10 (S_slot_Decode_10 (by rw [e0]; exact hK))) fun w2 d2 x2 z2=>?_
   rw [e0]
   refine If.no ?_
   have e1:((pre.length:Int)+1)=((pre++[(0:Int)]).length:Nat):=by simp
   rw [e1] at d2
   refine text_ok (x:=e.val) (suf:=suf) d2 (by rw [hP]; simp) (by omega) rfl (fun w' K' _ hK=>V_slot_Decode_12 (S_slot_Decode_12 (by unfold F_slot_Decode_12; rw [decide_eq_true (by omega)]; exact hK))) fun s3 w3 d3 o3 x3=>?_
   have hb:=get_ext (get_ext hb9 x2 (by omega)) x3 (by omega)
   refine St1.mk hb (by simp [EntV.cs]) rfl fun w4 h4=>?_
   have g4:w4.heap[b9]? = some (.cells (EntV.cs ⟨r3,s3,0, .z, .z⟩).toArray 133 (0,0)):=h4.get hb
   have hne:∀ q,s3.blk=some q->q≠b9:=fun q hq h=>by have:=(o3.lt hq).1; have:=blt hb9; omega
   refine k w4 _ ⟨g4,rfl,o3.rd.ext h4.ext (fun a q ha hq=>hne q (by simp [Sl.blk,ha,hq])),fun q hq=>?_,h0.symm,hp2.1.symm,hcd.symm⟩ ?_ (((x2.mono fun _ _ h => .inl h).trans x3 fun _ _ h => .inl h).trans h4.ext fun _ _ h => .inr h)
   .have:=o3.lt hq; have:=h4.size; omega
   .have e5:(((pre++[(0:Int)]).length:Nat):Int)+1+(e.val.length:Int)=(pre.length:Int)+(([0]++((e.val.length:Int)::e.val)).length:Nat):=by simp; omega
    rw [<- e5]
    exact d3.ext h4.ext fun q hq h=>by have h:q=b9:=h; omega
  .rw [if_neg h0] at hp2
   have hr:restB kind e=[1]++(be 2 e.n++refB e.ch):=by
    unfold restB; rw [if_neg h2,if_pos (by omega)]; simp [be]
   rw [hr] at hP k
   have e0:num [(1:Int)]=1:=rfl
   refine take_ok (x:=[1]) (suf:=(be 2 e.n++refB e.ch)++suf) d (by rw [hP,List.append_assoc]) rfl (by decide) (by decide) (fun K' hK=>V_slot_Decode_10 (S_slot_Decode_10 (by rw [e0]; exact hK))) fun w2 d2 x2 z2=>?_
   rw [e0]
   refine If.yes ⟨_,Cell.lst d2.c6 rfl,?_⟩
   have e1:((pre.length:Int)+1)=((pre++[(1:Int)]).length:Nat):=by simp
   rw [e1] at d2
   have en:num (be 2 e.n)=e.n:=num_be 2 (by omega) (by omega)
   refine take_ok (x:=be 2 e.n) (suf:=refB e.ch++suf) d2 (by rw [hP]; simp) (by rw [be_len]; rfl) (by decide) (by decide) (fun K' hK=>V_slot_Decode_11 (S_slot_Decode_11 (by unfold F_slot_Decode_11; rw [en]; exact If.dec (fun _=>by rw [decide_eq_true (by omega)]; exact hK) fun h=>(h hp2.1).elim))) fun w3 d3 x3 z3=>?_
   rw [en]
   have hb:=get_ext (get_ext hb9 x2 (by omega)) x3 (by omega)
   refine Ar.i64 (by omega) (St1.mk hb (by simp [EntV.cs]) rfl fun w4 h4=>?_)
   have g4:w4.heap[b9]? = some (.cells (EntV.cs ⟨r3,⟨none,0,0⟩,e.n, .z, .z⟩).toArray 133 (0,0)):=h4.get hb
   have d4:DecS w4.heap n0 b P kind lev ls (((pre++[(1:Int)]++be 2 e.n).length:Nat):Int) (-1):=by
    have e5:(((pre++[(1:Int)]++be 2 e.n).length:Nat):Int)=(((pre++[(1:Int)]).length:Nat):Int)+2:=by simp [be_len]; omega
    rw [e5]
    exact d3.ext h4.ext fun q hq h=>by have h:q=b9:=h; omega
   refine pin_ok (r:=e.ch) (suf:=suf) d4 (by rw [hP]; simp) (by have:=x3.size; have:=h4.size; omega) cho hp2.2.2.1 fun w5 d5 x5=>⟨rfl,?_⟩
   have hb5:=get_ext g4 x5 (by omega)
   refine ⟨_,_,_,hb5,rfl,(by show 3+3<=9; decide), .inr (.inr (Nat.le_refl _)),?_,fun w6 h6=>?_⟩
   .intro v hv; simp only [List.mem_cons,List.not_mem_nil,or_false] at hv; rcases hv with h | h | h <;> subst h <;> rfl
   have x6:Ext (·=b9) w5 w6:=Wrt.ext (b:=b9) h6
   have g6:w6.heap[b9]? = some (.cells (EntV.cs ⟨r3,⟨none,0,0⟩,e.n,e.ch, .z⟩).toArray 133 (0,0)):=Wrt.get (b:=b9) h6 hb5
   have ev:e.val=[]:=List.eq_nil_of_length_eq_zero hp2.2.2.2
   refine k w6 _ ⟨g6,rfl,by rw [ev]; exact Rd.nil _ _,fun b h=>(by cases h),rfl,rfl,hcd.symm⟩ ?_ (((((x2.mono fun _ _ h => .inl h).trans x3 fun _ _ h => .inl h).trans h4.ext fun _ _ h => .inr h).trans x5 fun _ _ h => .inl h).trans x6 fun _ _ h => .inr h)
   have e7:(((pre++[(1:Int)]++be 2 e.n).length:Nat):Int)+14=(pre.length:Int)+(([1]++(be 2 e.n++refB e.ch)).length:Nat):=by simp [be_len,refB_len]; omega
   rw [<- e7]
   exact d5.ext x6 fun q hq h=>by omega
end
end Go.Proofs.YtcamoanigdfihaaGreat
namespace Go.V
structure Pg where
 t:Int
 k:Int
 v:Int
 r:Rf
 pay:List Int
 waits:Bool
structure Mm where
 pages:List (Int×Pg)
 commit:Int
 gen:Int
def pgA(n:Int):List (Int×Pg)->Option Pg
 | []=>none
 | p::m=>if n=p.1 then some p.2 else pgA n m
structure MemV where
 bm:Nat
 r:Nat
 bl:Int->Nat
 sl:Int->Sl
def Pg.cs(p:Pg)(s:Sl):List Value:=[.int .u32 p.t, .int .u8 p.k, .int .u8 p.v, .int .u32 p.r.p, .int .u64 p.r.c, .int .u16 p.r.g, .slice s.a s.len s.cap, .bool p.waits]
abbrev MemV.vals(m:MemV)(l:List (Int×Pg)):List (Int×Value):=l.map fun p=>(p.1,Value.pointer (some ⟨m.bl p.1,0,none⟩))
structure PgR(h:Array Obj)(T:Nat->Option Nat)(m:MemV)(n:Int)(p:Pg):Prop where
 blk:h[m.bl n]? = some (.cells (p.cs (m.sl n)).toArray 189 (0,0))
 rd:Rd h (m.sl n) 1 (p.pay.map (Value.int .u8))
 tb:T (m.bl n)=some (2+2 * n.toNat)
 ts:∀ b,(m.sl n).blk=some b->T b=some (3+2 * n.toNat)
 p8:B8 p.pay
 len:p.pay.length=224
 rn:p.r.p=n
 ok:p.r.ok
structure MemR(h:Array Obj)(T:Nat->Option Nat)(m:MemV)(M:Mm):Prop where
 mem:h[m.bm]? = some (.cells [.map (some m.r), .int .u64 M.commit, .int .u16 M.gen].toArray 136 (0,0))
 map:MapR h (fun a:Int=>Value.int .u32 a) m.r (m.vals M.pages)
 pg:∀ p∈M.pages,PgR h T m p.1 p.2
 nd:(M.pages.map Prod.fst).Nodup
 lo:∀ p∈M.pages,2<=p.1
 tm:T m.bm=some 0
 tr:T m.r=some 1
 sup:∀ b,T b≠none->b < h.size
 co:0<=M.commit/\M.commit<=18446744073709551615
 go:0<=M.gen/\M.gen<=65535
 cm:∀ p∈M.pages,p.2.r.c<=M.commit
def Tg(w:Wd)(T T':Nat->Option Nat):Prop:=∀ b,b < w.heap.size->T' b=T b
abbrev Ts(T:Nat->Option Nat):Nat->Prop:=fun b=>T b≠none
theorem pgA_mem{n:Int}{p:Pg}:∀{l:List (Int×Pg)},pgA n l=some p->(n,p)∈l
 | [],h=>by cases h
 | q::l,h=>by
  unfold pgA at h
  split at h
  .rename_i hn; cases h; rw [hn]; exact List.mem_cons_self
  .exact List.mem_cons_of_mem _ (pgA_mem h)
theorem pgA_none{n:Int}:∀{l:List (Int×Pg)},pgA n l=none->n ∉ l.map Prod.fst
 | [],_=>by simp
 | q::l,h=>by
  unfold pgA at h
  split at h
  .cases h
  .rename_i hn; simp only [List.map_cons,List.mem_cons,not_or]; exact ⟨hn,pgA_none h⟩
theorem getA_vals(m:MemV)(n:Int):∀ l:List (Int×Pg),getA n (m.vals l)=(pgA n l).map fun _=>Value.pointer (some ⟨m.bl n,0,none⟩)
 | []=>rfl
 | q::l=>by
  simp only [MemV.vals,List.map_cons,getA,pgA]
  split
  .rename_i h; rw [h]; rfl
  .exact getA_vals m n l
section
variable {w w':Wd} {T:Nat->Option Nat} {m:MemV} {M:Mm}
theorem PgR.ext{S:Nat->Prop}{n:Int}{p:Pg}(r:PgR w.heap T m n p)(x:Ext S w w')(h1:¬ S (m.bl n))(h2:∀ b,(m.sl n).blk=some b->¬ S b):PgR w'.heap T m n p :=
 ⟨by rw [x.blk _ (blt r.blk) h1]; exact r.blk,r.rd.ext x fun a b ha hb=>h2 b (by simp [Sl.blk,ha,hb]),r.tb,r.ts,r.p8,r.len,r.rn,r.ok⟩
theorem MemR.ext{S:Nat->Prop}(r:MemR w.heap T m M)(x:Ext S w w')(hS:∀ b,S b->T b=none):MemR w'.heap T m M:=by
 have ns:∀{b t},T b=some t->¬ S b:=fun h hs=>by rw [hS _ hs] at h; cases h
 exact ⟨by rw [x.blk _ (blt r.mem) (ns r.tm)]; exact r.mem,r.map.ext x (ns r.tr),fun p hp=>(r.pg p hp).ext x (ns (r.pg p hp).tb) (fun b h=>ns ((r.pg p hp).ts b h)),r.nd,r.lo,r.tm,r.tr,fun b h=>Nat.lt_of_lt_of_le (r.sup b h) x.size,r.co,r.go,r.cm⟩
theorem MemR.no(r:MemR w.heap T m M)(x:Ext No w w'):MemR w'.heap T m M:=r.ext x fun _ h=>h.elim
theorem MemR.find(r:MemR w.heap T m M){n:Int}{p:Pg}(h:pgA n M.pages=some p):PgR w.heap T m n p:=r.pg _ (pgA_mem h)
end
end Go.V
namespace Go.Proofs.YtcamoanigdfihaaGreat
open Go.V
section
variable {w:Wd} {T:Nat->Option Nat} {m:MemV} {M:Mm}
theorem u32_key:KeyOK pz 33 (fun a:Int=>Value.int .u32 a):=int_key (by kernel_rfl)
theorem mem_look(r:MemR w.heap T m M)(n:Int):Sem.run pz (Instr.lookup 134 (.map (some m.r)) (.int .u32 n) false) w = .ok (.pointer ((pgA n M.pages).map fun _=>(⟨m.bl n,0,none⟩ : Addr))) w:=by
 have:=run_lookup (mt:=134) (et:=187) (a:=n) (z := .pointer none) u32_key (by kernel_rfl) (run_zero (i:=Tryz.t187) (by kernel_rfl) (by kernel_rfl)) r.map
 rw [this,getA_vals]
 cases pgA n M.pages <;> rfl
theorem newMem_spec{gen:Int}{K:Option Addr->Wd->Prop}(hg:0<=gen/\gen<=65535)(k:∀ T m w',MemR w'.heap T m ⟨[],1,gen⟩->(∀ b,b < w.heap.size->T b=none)->Ext No w w'->K (some ⟨m.bm,0,none⟩) w'):C_tree_NewMem gen w K:=by
 apply S_tree_NewMem
 refine NewW.mk fun b w1 n1=>NewW.mk fun b1 w2 n2=>?_
 have hb:=n1.at_; have hb1:=n2.at_; have z1:=n1.size; have z2:=n2.size
 refine k (fun q=>if q=b1 then some 0 else if q=b then some 1 else none) ⟨b1,b,fun _=>0,fun _=>⟨none,0,0⟩⟩ w2 ⟨n2.get,⟨#[],0,get_no n1.get n2.ext,rfl,BornOK.nil⟩,by simp,by simp,by simp,by simp,?_,fun q h=>?_,⟨(by decide:(0:Int)<=1),(by decide:(1:Int)<=18446744073709551615)⟩,hg,by simp⟩ (fun q hq=>?_) (n1.ext.no n2.ext)
 .show (if b=b1 then some 0 else if b=b then some 1 else none)=some 1
  rw [if_neg (by omega),if_pos rfl]
 .split at h
  .omega
  .split at h
   .omega
   .exact (h rfl).elim
 .rw [if_neg (by omega),if_neg (by omega)]
theorem memNil_get{t k v:Int}{r:Rf}{K:Sl->Int->Wd->Prop}(kk:∀ w',Ext No w w'->K ⟨none,0,0⟩ 1 w'):C_tree_Mem_Get none t k v r.p r.c r.g w K:=by
 apply S_tree_Mem_Get
 exact NewW.mk fun b w1 n1=>If.yes (kk w1 n1.ext)
theorem memGet_spec{t k v:Int}{r:Rf}{K:Sl->Int->Wd->Prop}(R:MemR w.heap T m M)
  (k0:∀ p s w',pgA r.p M.pages=some p->p.t=t->p.k=k->p.v=v->p.r=r->OwnB w'.heap w.heap.size s p.pay->Ext No w w'->K s 0 w')
  (k7:∀ w',pgA r.p M.pages=none->Ext No w w'->K ⟨none,0,0⟩ 7 w')
  (k150:∀ p w',pgA r.p M.pages=some p->¬ (p.t=t/\p.k=k/\p.v=v/\p.r=r)->Ext No w w'->K ⟨none,0,0⟩ 150 w'):C_tree_Mem_Get (some ⟨m.bm,0,none⟩) t k v r.p r.c r.g w K:=by
 apply S_tree_Mem_Get
 refine NewW.mk fun b w1 n1=>If.no ⟨Ext No w1,(Ext.refl _ _).drew,Nn.mk ?_⟩
 have R1:=R.no n1.ext
 have hb:=n1.get
 have R1d:MemR (drewW w1).heap T m M:=R1
 refine ⟨some m.r,Held.cell (Cell.lst R1.mem rfl),_,Held.cell (Cell.lst hb rfl),_,drewW w1,mem_look R1d r.p,(Ext.refl _ _).drew,?_⟩
 cases hp:pgA r.p M.pages with
 | none=>exact If.yes (k7 _ hp n1.ext.drew)
 | some p =>
  have P1:=R1.find hp
  refine If.no ⟨Ext No w1,(Ext.refl _ _).drew.drew,Nn.mk ?_⟩
  refine ⟨_,Held.cell (Cell.lst P1.blk rfl),_,Held.cell (Cell.lst P1.blk rfl),_,Held.cell (Cell.lst P1.blk rfl),_,Held.cell (Cell.lst P1.blk rfl),_,Held.cell (Cell.lst P1.blk rfl),_,Held.cell (Cell.lst P1.blk rfl),_,Held.cell (Cell.lst hb rfl),_,Held.cell (Cell.lst hb rfl),_,Held.cell (Cell.lst hb rfl),?_⟩
  rw [refeq p.r r]
  have eb:((p.t == t) && ((p.k == k) && ((p.v == v) && (decide (p.r=r) && true))))=decide (p.t=t/\p.k=k/\p.v=v/\p.r=r):=by
   rw [Bool.eq_iff_iff]; simp
  rw [eb]
  refine If.not (If.dec (fun h=>?_) fun h=>k150 p _ hp h n1.ext.drew.drew)
  refine Nn.mk ⟨m.sl r.p,Cell.lst (w:=drewW (drewW w1)) P1.blk rfl,clone_spec (w:=drewW (drewW w1)) P1.rd (by rw [P1.len]; decide) fun s w' o x=>?_⟩
  exact k0 p s w' hp h.1 h.2.1 h.2.2.1 h.2.2.2 (Own.mono o n1.ext.size) (n1.ext.drew.drew.no x)
structure IsFree(l:List (Int×Pg))(n:Int):Prop where
 lo:2<=n
 no:pgA n l=none
 all:∀ i,2<=i->i < n->pgA i l≠none
theorem ph:∀(k:Nat)(l:List Int)(n:Int),(∀ i:Nat,i < k->n+i∈l)->k<=l.length
 | 0,_,_,_=>by omega
 | k+1,l,n,h=>by
  have hm:=h k (by omega)
  have:=ph k (l.filter fun x=>decide (x≠n+k)) n fun i hi=>List.mem_filter.2 ⟨h i (by omega),by simp; omega⟩
  have h2:(l.filter fun x=>decide (x≠n+k)).length < l.length:=List.length_filter_lt_length_iff_exists.2 ⟨_,hm,by simp⟩
  omega
theorem IsFree.le{l:List (Int×Pg)}{n:Int}(h:∀ i,2<=i->i < n->pgA i l≠none)(h2:2<=n):n<=l.length+2:=by
 have:=ph (n - 2).toNat (l.map Prod.fst) 2 fun i hi=>by
  rcases Classical.em ((2+(i:Int))∈l.map Prod.fst) with h' | h'
  .exact h'
  .exfalso
   cases hp:pgA (2+(i:Int)) l with
   | none=>exact h _ (by omega) (by omega) hp
   | some p=>exact h' (List.mem_map.2 ⟨_,pgA_mem hp,rfl⟩)
 simp only [List.length_map] at this
 omega
theorem putA_vals{m:MemV}{n:Int}{v:Value}:∀{l:List (Int×Pg)},pgA n l=none->putA n v (m.vals l)=m.vals l++[(n,v)]
 | [],_=>rfl
 | q::l,h=>by
  unfold pgA at h
  split at h
  .cases h
  .rename_i hn
   simp only [MemV.vals,List.map_cons,putA]
   rw [if_neg hn]
   have:=putA_vals (m:=m) (v:=v) h
   simp only [MemV.vals] at this
   rw [this]; rfl
theorem memNil_put{t k v:Int}{s:Sl}{K:Int->Int->Int->Int->Wd->Prop}(kk:∀ w',Ext No w w'->K 0 0 0 1 w'):C_tree_Mem_Put none t k v s w K:=by
 apply S_tree_Mem_Put
 refine NewW.mk fun b w1 n1=>If.yes ⟨rfl,_,_,_,n1.get,rfl,by simp, .inr (.inr (Nat.le_refl _)),by decide,fun w2 h2=>?_⟩
 have g2:w2.heap[b]? = some (.cells [.int .u32 0, .int .u64 0, .int .u16 0].toArray 36 (0,0)):=Wrt.get (b:=b) h2 n1.get
 have x2:Ext (·=b) w1 w2:=Wrt.ext (b:=b) h2
 exact ⟨_,Cell.lst g2 rfl,_,Cell.lst g2 rfl,_,Cell.lst g2 rfl,kk w2 (n1.ext.trans x2 fun i hi h=>by have:=n1.at_; omega)⟩
set_option maxHeartbeats 1000000 in
theorem memPut_spec{t k v:Int}{s:Sl}{P:List Int}{K:Int->Int->Int->Int->Wd->Prop}(R:MemR w.heap T m M)(hs:RdB w.heap s P)(h8:B8 P)(hn:M.pages.length<=1048576)
  (k0:∀ n T' m' w',P.length=224->IsFree M.pages n->MemR w'.heap T' m' { M with pages:=M.pages++[(n,⟨t,k,v,⟨n,M.commit,M.gen⟩,P,false⟩)] }->m'.bm=m.bm->Tg w T T'->Ext (Ts T) w w'->K n M.commit M.gen 0 w')
  (k2:∀ w',P.length≠224->Ext No w w'->K 0 0 0 2 w'):C_tree_Mem_Put (some ⟨m.bm,0,none⟩) t k v s w K:=by
 apply S_tree_Mem_Put
 have hl:=RdB.len hs
 refine NewW.mk fun b w1 n1=>If.no (If.bne (fun h=>?_) fun h=>?_)
 .refine ⟨rfl,_,_,_,n1.get,rfl,by simp, .inr (.inr (Nat.le_refl _)),by decide,fun w2 h2=>?_⟩
  have g2:w2.heap[b]? = some (.cells [.int .u32 0, .int .u64 0, .int .u16 0].toArray 36 (0,0)):=Wrt.get (b:=b) h2 n1.get
  have x2:Ext (·=b) w1 w2:=Wrt.ext (b:=b) h2
  exact ⟨_,Cell.lst g2 rfl,_,Cell.lst g2 rfl,_,Cell.lst g2 rfl,k2 w2 (by omega) (n1.ext.trans x2 fun i hi h=>by have:=n1.at_; omega)⟩
 have hPl:P.length=224:=by omega
 have R1:=R.no n1.ext
 have hb:=n1.at_
 have z1:=n1.size
 refine ⟨fun q n w'=>w'=w1/\2<=n/\n<=M.pages.length+2/\q=(M.pages.length+3 - n).toNat/\∀ i,2<=i->i < n->pgA i M.pages≠none,⟨_,rfl,by omega,by omega,rfl,fun i h1 h2=>by omega⟩,?_⟩
 rintro _ m0 n w4 ⟨rfl,hn2,hnl,hm0,hall⟩
 refine Nn.mk ⟨some m.r,Cell.lst R1.mem rfl,_,_,mem_look R1 n,?_⟩
 cases hp:pgA n M.pages with
 | some p =>
  have hle:=IsFree.le (n:=n+1) (fun i h1 h2=>by
   rcases Int.lt_or_le i n with h | h
   .exact hall i h1 h
   .have:i=n:=by omega
    subst this; rw [hp]; simp) (by omega)
  refine If.yes (Ar.u32 (by omega) ⟨(M.pages.length+3 - (n+1)).toNat,by omega,rfl,by omega,by omega,rfl,fun i h1 h2=>?_⟩)
  rcases Int.lt_or_le i n with h | h
  .exact hall i h1 h
  .have:i=n:=by omega
   subst this; rw [hp]; simp
 | none =>
  refine If.no ⟨Ext No w4,(Ext.refl _ _).drew,Nn.mk ⟨_,Held.cell (Cell.lst R1.mem rfl),Nn.mk ⟨_,Held.cell (Cell.lst R1.mem rfl),?_⟩⟩⟩
  refine NewW.mk fun b1 w6 n6=>⟨(Ext.refl _ _).drew.no n6.ext,rfl,_,_,_,n6.get,rfl,by simp, .inr (.inr (Nat.le_refl _)),?_,fun w7 h7=>?_⟩
  .intro v hv; simp only [List.mem_cons,List.not_mem_nil,or_false] at hv; rcases hv with h | h | h <;> subst h <;> rfl
  have g7:w7.heap[b1]? = some (.cells [.int .u32 n, .int .u64 M.commit, .int .u16 M.gen].toArray 36 (0,0)):=Wrt.get (b:=b1) h7 n6.get
  have x7:Ext (·=b1) w6 w7:=Wrt.ext (b:=b1) h7
  have z7:w7.heap.size=w6.heap.size:=Wrt.size (b:=b1) h7
  have hb1:b1=w4.heap.size:=n6.at_
  have z6:w6.heap.size=w4.heap.size+1:=n6.size
  have x47:Ext No w4 w7:=((Ext.refl _ _).drew.no n6.ext).trans x7 fun i hi h=>by omega
  have R7:=R1.no x47
  refine ⟨x47,Ext (·=m.r) w7,(Ext.refl _ _).drew,Nn.mk ?_⟩
  have nr:∀{q},T q≠some 1->q≠m.r:=fun h e=>h (e ▸ R.tr)
  have hmr:m.r < w.heap.size:=R.sup _ (by rw [R.tr]; simp)
  have nb1:b1≠m.r:=by omega
  refine ⟨some m.r,Held.but (Cell.lst R7.mem rfl) (nr (by rw [R.tm]; simp)),_,Held.but (Cell.lst g7 rfl) nb1,_,Held.but (Cell.lst g7 rfl) nb1,_,Held.but (Cell.lst g7 rfl) nb1,?_⟩
  have hs7:RdB (drewW w7).heap s P:=Rd.no (Rd.no hs n1.ext) x47.drew
  refine clone_spec hs7 (by omega) fun s8 w8 o8 x8=>⟨x8.drew_left.of_no,NewW.mk fun b2 w9 n9=>⟨((x8.drew_left).no n9.ext).of_no,?_⟩⟩
  have x79:Ext No w7 w9:=(x8.drew_left).no n9.ext
  have R9:=R7.no x79
  have hb2:=n9.at_
  have z8:=x8.size
  have z9:=n9.size
  have z8':w7.heap.size<=w8.heap.size:=z8
  obtain ⟨w10,hrun,hmap,x10,z10⟩:=run_mapUpdate (a:=n) (v := .pointer (some ⟨b2,0,none⟩)) (mt:=134) (et:=187) u32_key (by kernel_rfl) R9.map
  refine ⟨w10,hrun,x79.of_no.trans x10 fun _ _ h=>h,?_⟩
  have g10:=get_ext (get_no g7 x79) x10 nb1
  have gb:w10.heap[b]? = some (.cells [.int .u32 0, .int .u64 0, .int .u16 0].toArray 36 (0,0)):=get_ext (get_no (get_no n1.get x47) x79) x10 (by omega)
  refine ⟨_,Cell.lst g10 rfl,_,Cell.lst g10 rfl,_,Cell.lst g10 rfl,rfl,_,_,_,gb,rfl,by simp, .inr (.inr (Nat.le_refl _)),?_,fun w11 h11=>?_⟩
  .intro v hv; simp only [List.mem_cons,List.not_mem_nil,or_false] at hv; rcases hv with h | h | h <;> subst h <;> rfl
  have g11:w11.heap[b]? = some (.cells [.int .u32 n, .int .u64 M.commit, .int .u16 M.gen].toArray 36 (0,0)):=Wrt.get (b:=b) h11 gb
  have x11:Ext (·=b) w10 w11:=Wrt.ext (b:=b) h11
  have z11:w11.heap.size=w10.heap.size:=Wrt.size (b:=b) h11
  refine ⟨_,Cell.lst g11 rfl,_,Cell.lst g11 rfl,_,Cell.lst g11 rfl,?_⟩
  have lt:∀{q t},T q=some t->q < w.heap.size:=fun h=>R.sup _ (by rw [h]; simp)
  have s8b:∀ q,s8.blk=some q->w7.heap.size<=q/\q < w8.heap.size:=fun q hq=>o8.lt hq
  have x911:Ext (fun q=>q=m.r∨q=b) w9 w11:=(x10.mono fun _ _ h => .inl h).trans x11 fun _ _ h => .inr h
  have nS:∀{q t},T q=some t->t≠1->¬ (q=m.r∨q=b):=fun h ht hq=>by
   rcases hq with h' | h'
   .rw [h',R.tr] at h; cases h; exact ht rfl
   .have:=lt h; omega
  let T':Nat->Option Nat:=fun q=>if q=b2 then some (2+2 * n.toNat) else if s8.blk=some q then some (3+2 * n.toNat) else T q
  have hT':∀ q,q < w.heap.size->T' q=T q:=fun q hq=>by
   show (if q=b2 then _ else if s8.blk=some q then _ else T q)=T q
   rw [if_neg (by omega),if_neg (fun h=>by have:=s8b q h; omega)]
  let m':MemV:=⟨m.bm,m.r,fun i=>if i=n then b2 else m.bl i,fun i=>if i=n then s8 else m.sl i⟩
  have eb:∀ i,i≠n->m'.bl i=m.bl i:=fun i hi=>if_neg hi
  have es:∀ i,i≠n->m'.sl i=m.sl i:=fun i hi=>if_neg hi
  have ebn:m'.bl n=b2:=if_pos rfl
  have esn:m'.sl n=s8:=if_pos rfl
  have hne:∀ p∈M.pages,p.1≠n:=fun p hp' h=>pgA_none hp (List.mem_map.2 ⟨p,hp',h⟩)
  have ev:m'.vals M.pages=m.vals M.pages:=List.map_congr_left fun p hp'=>by simp only [eb _ (hne p hp')]
  refine k0 n T' m' w11 hPl ⟨hn2,hp,hall⟩ ⟨?_,?_,fun p hp'=>?_,?_,fun p hp'=>?_,?_,?_,fun q hq=>?_,R.co,R.go,fun p hp'=>?_⟩ rfl hT' ?_
  .exact get_ext R9.mem x911 (nS R.tm (by decide))
  .have hmap':=hmap.ext x11 (by omega)
   rw [putA_vals hp] at hmap'
   have:m'.vals (M.pages++[(n,⟨t,k,v,⟨n,M.commit,M.gen⟩,P,false⟩)])=m.vals M.pages++[(n, .pointer (some ⟨b2,0,none⟩))]:=by
    simp only [MemV.vals,List.map_append,List.map_cons,List.map_nil,ebn]
    rw [show List.map (fun p=>(p.1,Value.pointer (some ⟨m'.bl p.1,0,none⟩))) M.pages=_ from ev]
   rw [this]; exact hmap'
  .rcases List.mem_append.1 hp' with h | h
   .have pr:=(R9.pg p h).ext x911 (nS (R9.pg p h).tb (by omega)) (fun q hq=>nS ((R9.pg p h).ts q hq) (by omega))
    have hn':=hne p h
    refine ⟨by rw [eb _ hn',es _ hn']; exact pr.blk,by rw [es _ hn']; exact pr.rd,by rw [eb _ hn',hT' _ (lt pr.tb)]; exact pr.tb,fun q hq=>?_,pr.p8,pr.len,pr.rn,pr.ok⟩
    rw [es _ hn'] at hq
    rw [hT' _ (lt (pr.ts q hq))]; exact pr.ts q hq
   .rw [List.mem_singleton] at h
    subst h
    have nq:∀ q,w.heap.size < q->¬ (q=m.r∨q=b):=fun q hq h=>by omega
    refine ⟨?_,?_,?_,fun q hq=>?_,h8,hPl,rfl,⟨⟨by show (0:Int)<=n; omega,by show n<=4294967295; omega⟩,R.co,R.go⟩⟩
    .simp only [ebn,esn]; exact get_ext n9.get x911 (nq _ (by omega))
    .simp only [esn]; exact (o8.rd.no n9.ext).ext x911 fun a q ha hq=>nq q (by have:=s8b q (by simp [Sl.blk,ha,hq]); omega)
    .simp only [ebn]; show (if b2=b2 then _ else _)=_; rw [if_pos rfl]
    .simp only [esn] at hq
     show (if q=b2 then _ else if s8.blk=some q then _ else T q)=_
     have:=s8b q hq
     rw [if_neg (by omega),if_pos hq]
  .simp only [List.map_append,List.map_cons,List.map_nil]
   rw [List.nodup_append]
   refine ⟨R.nd,by simp,fun a ha c hc e=>?_⟩
   rw [List.mem_singleton] at hc
   subst hc; subst e; exact pgA_none hp ha
  .rcases List.mem_append.1 hp' with h | h
   .exact R.lo p h
   .rw [List.mem_singleton] at h; subst h; exact hn2
  .show T' m.bm=some 0; rw [hT' _ (lt R.tm)]; exact R.tm
  .show T' m.r=some 1; rw [hT' _ (lt R.tr)]; exact R.tr
  .rcases Nat.lt_or_ge q w.heap.size with h | h
   .omega
   .have hTq:T q=none:=by
     cases hq2:T q with
     | none=>rfl
     | some t=>have:=lt hq2; omega
    have hq':(if q=b2 then some (2+2 * n.toNat) else if s8.blk=some q then some (3+2 * n.toNat) else T q)≠none:=hq
    split at hq'
    .omega
    .split at hq'
     .rename_i h2; have:=s8b q h2; omega
     .exact (hq' hTq).elim
  .rcases List.mem_append.1 hp' with h | h
   .exact R.cm p h
   .rw [List.mem_singleton] at h; subst h; exact Int.le_refl _
  .refine (((n1.ext.no x47).no x79).of_no).trans x911 fun q hq h=>?_
   rcases h with h | h
   .rw [h]; show T m.r≠none; rw [R.tr]; simp
   .omega
end
end Go.Proofs.YtcamoanigdfihaaGreat
namespace Go.V
def delP(n:Int):List (Int×Pg)->List (Int×Pg)
 | []=>[]
 | p::m=>if n=p.1 then m else p::delP n m
def waitP(n:Int)(l:List (Int×Pg)):List (Int×Pg):=l.map fun p=>if p.1=n then (p.1,{ p.2 with waits:=true }) else p
def dropM(M:Mm)(r:Rf):Int×Mm:=match pgA r.p M.pages with
 | none=>(7,M)
 | some p=>if p.waits=true∨p.r≠r then (7,M) else if r.c=M.commit then (0,{ M with pages:=delP r.p M.pages }) else (0,{ M with pages:=waitP r.p M.pages })
theorem delA_vals(m:MemV)(n:Int):∀ l:List (Int×Pg),delA n (m.vals l)=m.vals (delP n l)
 | []=>rfl
 | q::l=>by
  simp only [MemV.vals,List.map_cons,delA,delP]
  split
  .rfl
  .rw [List.map_cons,show delA n (List.map _ l)=_ from delA_vals m n l]
theorem delP_sub(n:Int):∀ l:List (Int×Pg),(delP n l).Sublist l
 | []=>List.Sublist.refl _
 | q::l=>by
  unfold delP
  split
  .exact List.sublist_cons_self _ _
  .exact (delP_sub n l).cons_cons q
theorem pgA_of_mem{n:Int}{p:Pg}:∀{l:List (Int×Pg)},(l.map Prod.fst).Nodup->(n,p)∈l->pgA n l=some p
 | [],_,h=>by cases h
 | q::l,hn,h=>by
  simp only [List.map_cons,List.nodup_cons] at hn
  unfold pgA
  rcases List.mem_cons.1 h with h' | h'
  .subst h'; rw [if_pos rfl]
  .rw [if_neg (fun e=>hn.1 (by rw [<- e]; exact List.mem_map.2 ⟨_,h',rfl⟩))]
   exact pgA_of_mem hn.2 h'
theorem waitP_fst(n:Int)(l:List (Int×Pg)):(waitP n l).map Prod.fst=l.map Prod.fst:=by
 unfold waitP; rw [List.map_map]; apply List.map_congr_left; intro p _; simp only [Function.comp]; split <;> rfl
end Go.V
namespace Go.Proofs.YtcamoanigdfihaaGreat
open Go.V
section
variable {w:Wd} {T:Nat->Option Nat} {m:MemV} {M:Mm}
theorem memNil_drop{r:Rf}{K:Int->Wd->Prop}(kk:∀ w',Ext No w w'->K 1 w'):C_tree_Mem_Drop none r.p r.c r.g w K:=by
 apply S_tree_Mem_Drop
 exact NewW.mk fun b w1 n1=>If.yes (kk w1 n1.ext)
set_option maxHeartbeats 1000000 in
theorem memDrop_spec{r:Rf}{K:Int->Wd->Prop}(R:MemR w.heap T m M)(k:∀ w',MemR w'.heap T m (dropM M r).2->Ext (Ts T) w w'->K (dropM M r).1 w'):C_tree_Mem_Drop (some ⟨m.bm,0,none⟩) r.p r.c r.g w K:=by
 apply S_tree_Mem_Drop
 refine NewW.mk fun b w1 n1=>If.no ⟨Ext No w1,(Ext.refl _ _).drew,Nn.mk ?_⟩
 have R1:=R.no n1.ext
 have hb:=n1.get
 have hb1:=n1.at_
 have R1d:MemR (drewW w1).heap T m M:=R1
 have lt:∀{q t},T q=some t->q < w.heap.size:=fun h=>R.sup _ (by rw [h]; simp)
 refine ⟨some m.r,Held.cell (Cell.lst R1.mem rfl),_,Held.cell (Cell.lst hb rfl),_,drewW w1,mem_look R1d r.p,(Ext.refl _ _).drew,?_⟩
 cases hp:pgA r.p M.pages with
 | none =>
  have e:dropM M r=(7,M):=by unfold dropM; rw [hp]
  rw [e] at k
  exact ⟨fun _=>False,⟨Ext No w1,(Ext.refl _ _).drew.drew,If.yes (k _ R1 (n1.ext.drew.drew).of_no)⟩,fun _ _ h=>h.elim⟩
 | some p =>
  have P1:=R1.find hp
  refine ⟨fun w'=>w'=drewW (drewW w1)/\p.waits=false/\p.r=r,⟨Ext No w1,(Ext.refl _ _).drew.drew,If.no (Nn.mk ⟨_,Held.cell (Cell.lst P1.blk rfl),If.cases (fun h=>?_) fun h=>?_⟩)⟩,?_⟩
  .have e:dropM M r=(7,M):=by unfold dropM; rw [hp]; simp only; rw [if_pos (.inl h)]
   rw [e] at k
   exact k _ R1 (n1.ext.drew.drew).of_no
  .refine Nn.mk ⟨_,Held.cell (Cell.lst P1.blk rfl),_,Held.cell (Cell.lst P1.blk rfl),_,Held.cell (Cell.lst P1.blk rfl),_,Held.cell (Cell.lst hb rfl),_,Held.cell (Cell.lst hb rfl),_,Held.cell (Cell.lst hb rfl),?_⟩
   rw [refeq p.r r]
   refine If.not (If.dec (fun h'=>⟨rfl,h,h'⟩) fun h'=>?_)
   have e:dropM M r=(7,M):=by unfold dropM; rw [hp]; simp only; rw [if_pos (.inr h')]
   rw [e] at k
   exact k _ R1 (n1.ext.drew.drew).of_no
  rintro _ w3 ⟨rfl,hw,hr⟩
  refine ⟨Ext No w1,(Ext.refl _ _).drew.drew.drew,_,Held.cell (Cell.lst hb rfl),Nn.mk ⟨_,Held.cell (Cell.lst R1.mem rfl),If.beq (fun hc=>?_) fun hc=>?_⟩⟩
  .have e:dropM M r=(0,{ M with pages:=delP r.p M.pages }):=by unfold dropM; rw [hp]; simp only; rw [if_neg (by rw [hw,hr]; simp),if_pos hc]
   rw [e] at k
   refine ⟨Ext (·=m.r) w1,(Ext.refl _ _).drew.drew.drew.drew,Nn.mk ⟨some m.r,Held.but (Cell.lst R1.mem rfl) (fun h=>by have:=R.tm; rw [h,R.tr] at this; cases this),_,Held.but (Cell.lst hb rfl) (fun h=>by have:=lt R.tr; omega),?_⟩⟩
   obtain ⟨w4,hrun,hmap,x4,z4⟩:=run_delete (w:=drewW (drewW (drewW (drewW w1)))) (a:=r.p) (mt:=134) (et:=187) (t:=0) u32_key (by kernel_rfl) R1.map
   have x14:Ext (·=m.r) w1 w4:=((x4.drew_left).drew_left.drew_left).drew_left
   refine ⟨w4,hrun,x14,k w4 ?_ ((n1.ext.of_no).trans x14 fun q hq h=>by rw [h]; show T m.r≠none; rw [R.tr]; simp)⟩
   have nS:∀{q t},T q=some t->t≠1->¬ (q=m.r):=fun h ht h'=>by rw [h',R.tr] at h; cases h; exact ht rfl
   rw [delA_vals] at hmap
   refine ⟨get_ext R1.mem x14 (nS R.tm (by decide)),hmap,fun q hq=>?_,?_,fun q hq=>R.lo q ((delP_sub _ _).subset hq),R.tm,R.tr,fun q h=>Nat.lt_of_lt_of_le (R1.sup q h) x14.size,R.co,R.go,fun q hq=>R.cm q ((delP_sub _ _).subset hq)⟩
   .have:=R1.pg q ((delP_sub _ _).subset hq)
    exact this.ext x14 (nS this.tb (by omega)) (fun c hc=>nS (this.ts c hc) (by omega))
   .exact R.nd.sublist ((delP_sub _ _).map _)
  .have e:dropM M r=(0,{ M with pages:=waitP r.p M.pages }):=by unfold dropM; rw [hp]; simp only; rw [if_neg (by rw [hw,hr]; simp),if_neg hc]
   rw [e] at k
   have P1d:(drewW (drewW (drewW w1))).heap[m.bl r.p]? = some (.cells (p.cs (m.sl r.p)).toArray 189 (0,0)):=P1.blk
   refine Nn.mk (St1.mk P1d (by show 7 < 8; decide) rfl fun w5 h5=>?_)
   have x5:Ext (·=m.bl r.p) w1 w5:=((Ext.drew_left (h5.ext)).drew_left).drew_left
   have g5:w5.heap[m.bl r.p]? = some (.cells ({ p with waits:=true }.cs (m.sl r.p)).toArray 189 (0,0)):=h5.get P1d
   have z5:w5.heap.size=w1.heap.size:=h5.size
   refine k w5 ?_ ((n1.ext.of_no).trans x5 fun q hq h=>by rw [h]; show T (m.bl r.p)≠none; rw [P1.tb]; simp)
   have nS:∀{q t},T q=some t->t≠2+2 * r.p.toNat->¬ (q=m.bl r.p):=fun h ht h'=>by rw [h',P1.tb] at h; cases h; exact ht rfl
   have hpm:=pgA_mem hp
   refine ⟨get_ext R1.mem x5 (nS R.tm (by omega)),?_,fun q hq=>?_,by rw [waitP_fst]; exact R.nd,fun q hq=>?_,R.tm,R.tr,fun q h=>Nat.lt_of_lt_of_le (R1.sup q h) x5.size,R.co,R.go,fun q hq=>?_⟩
   .have:m.vals (waitP r.p M.pages)=m.vals M.pages:=by
     unfold waitP MemV.vals; rw [List.map_map]; apply List.map_congr_left; intro q _; simp only [Function.comp]; split <;> rfl
    rw [this]
    exact R1.map.ext x5 (nS R.tr (by omega))
   .obtain ⟨q0,hq0,rfl⟩:=List.mem_map.1 hq
    have pr:=R1.pg q0 hq0
    have l0:=R.lo q0 hq0
    have l1:=R.lo _ hpm
    simp only at l1
    split
    .rename_i he
     have e2:q0.2=p:=by
      have h1:=pgA_of_mem (n:=q0.1) (p:=q0.2) R.nd hq0
      rw [he,hp] at h1; exact (Option.some.inj h1).symm
     rw [e2] at pr ⊢
     refine ⟨by simp only [he]; exact g5,(pr.rd.ext x5 fun a c ha hc=>nS (pr.ts c (by simp [Sl.blk,ha,hc])) (by rw [he]; omega)),pr.tb,pr.ts,pr.p8,pr.len,pr.rn,pr.ok⟩
    .rename_i he
     exact pr.ext x5 (nS pr.tb (by omega)) (fun c hc=>nS (pr.ts c hc) (by omega))
   .obtain ⟨q0,hq0,rfl⟩:=List.mem_map.1 hq
    have:=R.lo q0 hq0
    split <;> exact this
   .obtain ⟨q0,hq0,rfl⟩:=List.mem_map.1 hq
    have:=R.cm q0 hq0
    split <;> exact this
end
theorem wrE_pos(kind:Int)(e:Ent):1<=(wrE kind e).length:=by unfold wrE; simp only [List.length_append,List.length_cons]; omega
theorem wr_count{kind lev:Int}{l:List Ent}(h:(wr kind lev l).length<=224):l.length<=221:=by
 have:∀ l:List Ent,l.length<=(l.flatMap (wrE kind)).length:=by
  intro l
  induction l with
  | nil=>simp
  | cons e l ih=>have:=wrE_pos kind e; simp only [List.flatMap_cons,List.length_append,List.length_cons]; omega
 have:=this l
 unfold wr at h
 simp only [List.length_append,List.length_cons,List.length_nil] at h
 omega
section
variable {w:Wd} {b:Sl} {P:List Int}
def DecBody(n0:Nat)(w13:Wd)(K:Int->Int->Sl->Int->Int->Wd->Prop):Prop :=
 ∃ vv_1:Value,Cell w13 (Addr.mk (n0+5) 0 none) (vv_1) /\
 dynV pz true vv_1 [.int .i64 1, .func (.func 152) #[] #[]] [.one (.int .u64)] (fun r w14 =>
 Ar .u8 r fun z =>
 St1 w14 (Addr.mk (n0+1) 0 none) (.int .u8 z) fun w15 =>
 ∃ vv_2:Value,Cell w15 (Addr.mk (n0+5) 0 none) (vv_2) /\
 dynV pz true vv_2 [.int .i64 1, .func (.func 153) #[] #[.pointer (some (Addr.mk (n0+1) 0 none))]] [.one (.int .u64)] (fun r_1 w16 =>
 Ar .u8 r_1 fun z_1 =>
 St1 w16 ((Addr.mk (n0+1) 0 none).add 1) (.int .u8 z_1) fun w17 =>
 ∃ vv_3:Value,Cell w17 (Addr.mk (n0+5) 0 none) (vv_3) /\
 dynV pz true vv_3 [.int .i64 1, .func (.func 154) #[] #[.pointer (some (Addr.mk (n0+1) 0 none))]] [.one (.int .u64)] (fun r_2 w18 =>
 ∃ J5:Wd->Prop,(
 NewW w18 (.cells [.int .i64 0].toArray 3) fun b_8 w19 =>
 St1 w19 (Addr.mk b_8 0 none) (.int .i64 0) fun w20 =>
 ∃ I1:Nat->Addr->Wd->Prop,(∃ m,I1 m (Addr.mk b_8 0 none) w20)/\∀(_:Env)(m0:Nat)(i:Addr)(w21:Wd),I1 m0 i w21 ->
 ∃ J4:Wd->Prop,(
 ∃ vv_4:Int,Cell w21 i (.int .i64 vv_4) /\
 Ar .i64 r_2 fun z_2 =>
 If (decide (vv_4 < z_2)) (
 ∃ vv_5:Int,Cell w21 (Addr.mk (n0+3) 0 none) (.int .i64 vv_5) /\
 If (decide (vv_5 < 0)) (
 J4 w21) (
 J5 w21)) (
 J5 w21))/\∀(_:Env)(w22:Wd),J4 w22 ->
 NewW w22 (.cells [.slice none 0 0, .slice none 0 0, .int .i64 0, .int .u32 0, .int .u64 0, .int .u16 0, .int .u32 0, .int .u64 0, .int .u16 0].toArray 133) fun b_9 w23 =>
 dynV pz true (.func (.func 147) #[] #[.pointer (some (Addr.mk (n0+5) 0 none)), .pointer (some (Addr.mk (n0+2) 0 none)), .pointer (some (Addr.mk (n0+3) 0 none)), .pointer (some (Addr.mk n0 0 none))]) [.func (.func 155) #[] #[.pointer (some (Addr.mk (n0+1) 0 none)), .pointer (some i)]] [.one (.sl)] (fun r_3 w24 =>
 St1 w24 (Addr.mk b_9 0 none) (.slice r_3.a r_3.len r_3.cap) fun w25 =>
 ∃ J3:Wd->Prop,(
 ∃ J2:Bool->Wd->Prop,(
 ∃ S:Wd->Prop,S (drewW w25) /\
 ∃ vv_6:Int,Held S (Addr.mk (n0+3) 0 none) (.int .i64 vv_6) /\
 If (decide (vv_6 < 0)) (
 ∃ vv_7:Int,Held S i (.int .i64 vv_7) /\
 If (decide (vv_7 > 0)) (
 ∃ vv_8:Sl,Held S ((Addr.mk (n0+1) 0 none).add 2) (.slice vv_8.a vv_8.len vv_8.cap) /\
 ∃ vv_9:Int,Held S i (.int .i64 vv_9) /\
 Ar .i64 (vv_9 - 1) fun z_3 =>
 Ix vv_8.a vv_8.len z_3 9 fun a =>
 ∃ vv_10:Sl,Held S a (.slice vv_10.a vv_10.len vv_10.cap) /\
 ∃ vv_11:Sl,Held S (Addr.mk b_9 0 none) (.slice vv_11.a vv_11.len vv_11.cap) /\
 C_bytes_Compare vv_10 vv_11 (drewW w25) fun r_4 w26 =>
 S w26 /\
 J2 (decide (r_4≥0)) w26) (
 J2 false ((drewW w25)))) (
 J2 false ((drewW w25))))/\∀(_:Env)(t:Bool)(w27:Wd),J2 t w27 ->
 If t (
 ∃ vv_12:Value,Cell w27 (Addr.mk (n0+4) 0 none) (vv_12) /\
 ∃ vv_13:Int,Cell w27 (Addr.mk (n0+2) 0 none) (.int .i64 vv_13) /\
 ∃ vv_14:Sl,Cell w27 (Addr.mk b_9 0 none) (.slice vv_14.a vv_14.len vv_14.cap) /\
 Ar .i64 (vv_13 - ((vv_14.len:Int))) fun z_4 =>
 dynV pz true vv_12 [.int .i64 z_4] [] (fun w28 =>
 J3 w28) NoX w27) (
 J3 w27))/\∀(_:Env)(w29:Wd),J3 w29 ->
 ∃ J1:Wd->Prop,(
 ∃ vv_15:Int,Cell w29 (Addr.mk (n0+1) 0 none) (.int .u8 vv_15) /\
 If (vv_15 == 2) (
 dynV pz true (.func (.func 150) #[] #[.pointer (some (Addr.mk (n0+3) 0 none)), .pointer (some (Addr.mk (n0+2) 0 none)), .pointer (some (Addr.mk n0 0 none)), .pointer (some (Addr.mk (n0+4) 0 none)), .pointer (some (Addr.mk (n0+5) 0 none)), .pointer (some (Addr.mk (n0+6) 0 none))]) [] [.agg [.one (.int .u32), .one (.int .u64), .one (.int .u16)]] (fun r0 r1_1 r2_1 w30 =>
 List.length (α:=Value) [.int .u32 r0, .int .u64 r1_1, .int .u16 r2_1]=3/\StN w30 ((Addr.mk b_9 0 none).add 6) [.int .u32 r0, .int .u64 r1_1, .int .u16 r2_1] fun w31 =>
 J1 w31) NoX w29) (
 ∃ vv_16:Value,Cell w29 (Addr.mk (n0+5) 0 none) (vv_16) /\
 dynV pz true vv_16 [.int .i64 1, .func (.func 157) #[] #[]] [.one (.int .u64)] (fun r_5 w32 =>
 If (r_5 == 1) (
 ∃ vv_17:Value,Cell w32 (Addr.mk (n0+5) 0 none) (vv_17) /\
 dynV pz true vv_17 [.int .i64 2, .func (.func 158) #[] #[]] [.one (.int .u64)] (fun r_6 w33 =>
 Ar .i64 r_6 fun z_5 =>
 St1 w33 ((Addr.mk b_9 0 none).add 2) (.int .i64 z_5) fun w34 =>
 dynV pz true (.func (.func 150) #[] #[.pointer (some (Addr.mk (n0+3) 0 none)), .pointer (some (Addr.mk (n0+2) 0 none)), .pointer (some (Addr.mk n0 0 none)), .pointer (some (Addr.mk (n0+4) 0 none)), .pointer (some (Addr.mk (n0+5) 0 none)), .pointer (some (Addr.mk (n0+6) 0 none))]) [] [.agg [.one (.int .u32), .one (.int .u64), .one (.int .u16)]] (fun r0_1 r1_2 r2_2 w35 =>
 List.length (α:=Value) [.int .u32 r0_1, .int .u64 r1_2, .int .u16 r2_2]=3/\StN w35 ((Addr.mk b_9 0 none).add 3) [.int .u32 r0_1, .int .u64 r1_2, .int .u16 r2_2] fun w36 =>
 J1 w36) NoX w34) NoX w32) (
 dynV pz true (.func (.func 147) #[] #[.pointer (some (Addr.mk (n0+5) 0 none)), .pointer (some (Addr.mk (n0+2) 0 none)), .pointer (some (Addr.mk (n0+3) 0 none)), .pointer (some (Addr.mk n0 0 none))]) [.func (.func 159) #[] #[]] [.one (.sl)] (fun r_7 w37 =>
 St1 w37 ((Addr.mk b_9 0 none).add 1) (.slice r_7.a r_7.len r_7.cap) fun w38 =>
 J1 w38) NoX w32)) NoX w29))/\∀(_:Env)(w39:Wd),J1 w39 ->
 ∃ vv_18:Sl,Cell w39 ((Addr.mk (n0+1) 0 none).add 2) (.slice vv_18.a vv_18.len vv_18.cap) /\
 ∃ c_3:Sl,Cell w39 (Addr.mk b_9 0 none) (.slice c_3.a c_3.len c_3.cap) /\
 ∃ c_4:Sl,Cell w39 ((Addr.mk b_9 0 none).add 1) (.slice c_4.a c_4.len c_4.cap) /\
 ∃ c_5:Int,Cell w39 ((Addr.mk b_9 0 none).add 2) (.int .i64 c_5) /\
 ∃ c_6:Int,Cell w39 ((Addr.mk b_9 0 none).add 3) (.int .u32 c_6) /\
 ∃ c_7:Int,Cell w39 ((Addr.mk b_9 0 none).add 4) (.int .u64 c_7) /\
 ∃ c_8:Int,Cell w39 ((Addr.mk b_9 0 none).add 5) (.int .u16 c_8) /\
 ∃ c_9:Int,Cell w39 ((Addr.mk b_9 0 none).add 6) (.int .u32 c_9) /\
 ∃ c_10:Int,Cell w39 ((Addr.mk b_9 0 none).add 7) (.int .u64 c_10) /\
 ∃ c_11:Int,Cell w39 ((Addr.mk b_9 0 none).add 8) (.int .u16 c_11) /\
 NewW w39 (.cells [.slice c_3.a c_3.len c_3.cap, .slice c_4.a c_4.len c_4.cap, .int .i64 c_5, .int .u32 c_6, .int .u64 c_7, .int .u16 c_8, .int .u32 c_9, .int .u64 c_10, .int .u16 c_11].toArray 133) fun b_10 w40 =>
 AppW pz 37 37 vv_18 (.slice (some (Addr.mk b_10 0 none)) 1 1) (fun s w41 =>
 St1 w41 ((Addr.mk (n0+1) 0 none).add 2) (.slice s.a s.len s.cap) fun w42 =>
 ∃ vv_19:Int,Cell w42 i (.int .i64 vv_19) /\
 NewW w42 (.cells [.int .i64 0].toArray 3) fun b_11 w43 =>
 St1 w43 (Addr.mk b_11 0 none) (.int .i64 vv_19) fun w44 =>
 ∃ vv_20:Int,Cell w44 (Addr.mk b_11 0 none) (.int .i64 vv_20) /\
 Ar .i64 (vv_20+1) fun z_6 =>
 St1 w44 (Addr.mk b_11 0 none) (.int .i64 z_6) fun w45 =>
 ∃ m1,m1 < m0/\I1 m1 (Addr.mk b_11 0 none) w45) w40) NoX w23)/\∀(_:Env)(w46:Wd),J5 w46 ->
 ∃ J0:Wd->Prop,(
 ∃ I0:Nat->Wd->Prop,(∃ m,I0 m w46)/\∀(_:Env)(m0_1:Nat)(w47:Wd),I0 m0_1 w47 ->
 ∃ vv_21:Int,Cell w47 (Addr.mk (n0+3) 0 none) (.int .i64 vv_21) /\
 If (decide (vv_21 < 0)) (
 ∃ vv_22:Int,Cell w47 (Addr.mk (n0+2) 0 none) (.int .i64 vv_22) /\
 If (decide (vv_22 < 224)) (
 ∃ vv_23:Value,Cell w47 (Addr.mk (n0+5) 0 none) (vv_23) /\
 dynV pz true vv_23 [.int .i64 1, .func (.func 160) #[] #[]] [.one (.int .u64)] (fun _r_8 w48 =>
 ∃ m1_1,m1_1 < m0_1/\I0 m1_1 w48) NoX w47) (
 J0 w47)) (
 J0 w47))/\∀(_:Env)(w49:Wd),J0 w49 ->
 ∃ vv_24:Int,Cell w49 (Addr.mk (n0+3) 0 none) (.int .i64 vv_24) /\
 If (decide (vv_24≥0)) (
 ∃ S:Wd->Prop,S (drewW w49) /\
 ∃ vv_25:Int,Held S (Addr.mk (n0+3) 0 none) (.int .i64 vv_25) /\
 List.length (α:=Value) [.int .u8 0, .int .u8 0, .slice none 0 0]=3/\StN (drewW w49) (Addr.mk (n0+1) 0 none) [.int .u8 0, .int .u8 0, .slice none 0 0] fun w50 =>
 S w50 /\
 ∃ c_12:Int,Cell w50 (Addr.mk (n0+1) 0 none) (.int .u8 c_12) /\
 ∃ c_13:Int,Cell w50 ((Addr.mk (n0+1) 0 none).add 1) (.int .u8 c_13) /\
 ∃ c_14:Sl,Cell w50 ((Addr.mk (n0+1) 0 none).add 2) (.slice c_14.a c_14.len c_14.cap) /\
 K c_12 c_13 c_14 5 vv_25 w50) (
 ∃ c_15:Int,Cell w49 (Addr.mk (n0+1) 0 none) (.int .u8 c_15) /\
 ∃ c_16:Int,Cell w49 ((Addr.mk (n0+1) 0 none).add 1) (.int .u8 c_16) /\
 ∃ c_17:Sl,Cell w49 ((Addr.mk (n0+1) 0 none).add 2) (.slice c_17.a c_17.len c_17.cap) /\
 List.length (α:=Value) [.int .u8 c_15, .int .u8 c_16, .slice c_17.a c_17.len c_17.cap]=3/\StN w49 (Addr.mk (n0+1) 0 none) [.int .u8 c_15, .int .u8 c_16, .slice c_17.a c_17.len c_17.cap] fun w51 =>
 ∃ c_18:Int,Cell w51 (Addr.mk (n0+1) 0 none) (.int .u8 c_18) /\
 ∃ c_19:Int,Cell w51 ((Addr.mk (n0+1) 0 none).add 1) (.int .u8 c_19) /\
 ∃ c_20:Sl,Cell w51 ((Addr.mk (n0+1) 0 none).add 2) (.slice c_20.a c_20.len c_20.cap) /\
 K c_18 c_19 c_20 0 0 w51)) NoX w17) NoX w15) NoX w13
theorem decode_enter{K:Int->Int->Sl->Int->Int->Wd->Prop}(hb:RdB w.heap b P)(h8:B8 P)(hl:P.length=224)
  (k:∀ w13,DecS w13.heap w.heap.size b P 0 0 ⟨none,0,0⟩ 0 (-1)->w13.heap.size=w.heap.size+7->Ext No w w13->DecBody w.heap.size w13 K):C_slot_Decode b w K:=by
 apply S_slot_Decode
 have hbl:=RdB.len hb
 refine NewW.mk fun b1 w1 n1=>NewW.mk fun b2 w2 n2=>⟨_,Cell.lst (get_no n1.get n2.ext) rfl,If.bne (fun h=>by omega) fun _=>?_⟩
 refine NewW.mk fun b3 w4 n4=>NewW.mk fun b4 w5 n5=>?_
 have hb1:=n1.at_; have hb2:=n2.at_; have hb3:=n4.at_; have hb4:=n5.at_
 have z1:=n1.size; have z2:=n2.size; have z4:=n4.size; have z5:=n5.size
 refine St1.b1 (get_no n4.get n5.ext) rfl fun w6 h6=>St1.b1 (T:=3) (v := .int .i64 0) (by rw [h6.other (by omega)]; exact n5.get) rfl fun w7 h7=>NewW.mk fun b5 w8 n8=>St1.b1 n8.get rfl fun w9 h9=>NewW.mk fun b6 w10 n10=>St1.b1 n10.get rfl fun w11 h11=>NewW.mk fun b7 w12 n12=>St1.b1 n12.get rfl fun w13 h13=>?_
 have hb5:=n8.at_; have hb6:=n10.at_; have hb7:=n12.at_
 have z6:=h6.size; have z7:=h7.size; have z8:=n8.size; have z9:=h9.size; have z10:=n10.size; have z11:=h11.size; have z12:=n12.size; have z13:=h13.size
 have x2:Ext No w w2:=n1.ext.no n2.ext
 have x5:=(x2.no n4.ext).no n5.ext
 have x13:Ext No w w13:=(((((((x5.trans h6.ext fun i hi h=>by omega).trans h7.ext fun i hi h=>by omega).no n8.ext).trans h9.ext fun i hi h=>by omega).no n10.ext).trans h11.ext fun i hi h=>by omega).no n12.ext).trans h13.ext fun i hi h=>by omega
 have k:=k w13
 generalize hn0:w.heap.size=n0 at *
 have e1:b1=n0:=by omega
 have e2:b2=n0+1:=by omega
 have e3:b3=n0+2:=by omega
 have e4:b4=n0+3:=by omega
 have e5:b5=n0+4:=by omega
 have e6:b6=n0+5:=by omega
 have e7:b7=n0+6:=by omega
 subst e1 e2 e3 e4 e5 e6 e7
 have y13:∀{i:Nat}{o:Obj},i≠b1+6->w12.heap[i]? = some o->w13.heap[i]? = some o:=fun hi ho=>by rw [h13.other hi]; exact ho
 have y11:∀{i:Nat}{o:Obj},i≠b1+5->i≠b1+6->w10.heap[i]? = some o->w13.heap[i]? = some o:=fun hi h6 ho=>y13 h6 (get_no (by rw [h11.other hi]; exact ho) n12.ext)
 have y9:∀{i:Nat}{o:Obj},i≠b1+4->i≠b1+5->i≠b1+6->w8.heap[i]? = some o->w13.heap[i]? = some o:=fun h4 h5 h6 ho=>y11 h5 h6 (get_no (by rw [h9.other h4]; exact ho) n10.ext)
 have y7:∀{i:Nat}{o:Obj},i < b1+4->w7.heap[i]? = some o->w13.heap[i]? = some o:=fun hi ho=>y9 (by omega) (by omega) (by omega) (get_no ho n8.ext)
 have y5:∀{i:Nat}{o:Obj},i < b1+2->w5.heap[i]? = some o->w13.heap[i]? = some o:=fun hi ho=>y7 (by omega) (by rw [h7.other (by omega),h6.other (by omega)]; exact ho)
 refine k ⟨y5 (by omega) (get_no n1.get ((n2.ext.no n4.ext).no n5.ext)),y5 (by omega) (get_no n2.get (n4.ext.no n5.ext)),y7 (by omega) ?_,y7 (by omega) ?_,?_,?_,?_,Rd.no hb x13,fun i hi hne=>?_,h8,hl⟩ (by omega) x13
 .rw [h7.other (by omega)]; exact h6.get (get_no n4.get n5.ext)
 .exact h7.get (by rw [h6.other (by omega)]; exact n5.get)
 .exact y11 (by omega) (by omega) (get_no (h9.get n8.get) n10.ext)
 .exact y13 (by omega) (get_no (h11.get n10.get) n12.ext)
 .exact h13.get n12.get
 .obtain ⟨bb,o,ha,hc⟩:=Rd.at_ hb (by simpa using hne)
  have:i=bb:=by simp [Sl.blk,ha] at hi; exact hi.symm
  subst this
  have:=hcell_lt (hc 0 (by simp; omega))
  omega
end
section
variable {w:Wd} {n0:Nat} {b:Sl} {P:List Int} {kind lev:Int} {ls:Sl} {place fault:Int}
structure DecL(w0:Wd)(n0:Nat)(b:Sl)(P:List Int)(kind lev:Int)(l:List Ent)(j:Nat)(bi:Nat)(w:Wd)(ls:Sl)(L:List (EntV×Ent)):Prop where
 d:DecS w.heap n0 b P kind lev ls ((([kind,lev,(l.length % 256:Int)]++(l.take j).flatMap (wrE kind)).length:Nat):Int) (-1)
 nd:NdO w.heap (n0+7) ls L
 el:ents L=l.take j
 hi:w.heap[bi]? = some (.cells [.int .i64 (j:Int)].toArray 3 (0,0))
 lo:n0+7<=bi
 ne:ls.blk≠some bi
 x:Ext No w0 w
set_option maxHeartbeats 4000000 in
theorem decode_ok{l:List Ent}{K:Int->Int->Sl->Int->Int->Wd->Prop}(hb:RdB w.heap b (pad (wr kind lev l)))(hr:RightP kind lev l)(hs:(wr kind lev l).length<=224)(h8:B8 (pad (wr kind lev l)))(hok:∀ e∈l,e.ch.ok/\e.cd.ok)
  (k:∀ s L w',NdO w'.heap w.heap.size s L->ents L=l->Ext No w w'->K kind lev s 0 0 w'):C_slot_Decode b w K:=by
 have hcnt:=wr_count hs
 have hPl:(pad (wr kind lev l)).length=224:=pad_len hs
 refine decode_enter hb h8 hPl fun w13 d13 z13 x13=>?_
 have hkl:(kind=1/\lev=0)∨(kind=2/\1<=lev/\lev<=30):=hr.shape
 generalize hn0:w.heap.size=n0 at *
 have elen:((l.length:Int) % 256)=l.length:=by omega
 have hP0:pad (wr kind lev l)=[kind,lev,((l.length:Int) % 256)]++(l.flatMap (wrE kind)++List.replicate (224 - (wr kind lev l).length) 0):=by simp [pad,wr]
 have hcut:=fun i (hi:i < l.length)=>wr_cut (kind:=kind) (lev:=lev) hi
 generalize hP:pad (wr kind lev l)=P at *
 unfold DecBody
 have toNo:∀{a c:Wd}{S:Nat->Prop},Ext No w a->Ext S a c->(∀ i,S i->n0<=i)->Ext No w c:=fun x y h=>x.trans y fun i hi hS=>by have:=h i hS; omega
 -- the kind
 refine ⟨_,Cell.lst d13.c6 rfl,take_ok (pre:=[]) (x:=[kind]) (suf:=[lev,((l.length:Int) % 256)]++(l.flatMap (wrE kind)++List.replicate (224 - (wr kind lev l).length) 0)) d13 (by rw [hP0]; rfl) rfl (by decide) (by decide) (fun K' hK=>V_slot_Decode_6 (S_slot_Decode_6 ?_)) fun w14 d14 x14 z14=>?_⟩
 .have e:num [kind]=kind:=by simp [num]
  unfold F_slot_Decode_6; rw [e]
  refine If.beq (fun _=>hK) fun h=>?_
  rw [show (kind == 2)=true by simp; omega]; exact hK
 have e:num [kind]=kind:=by simp [num]
 rw [e]
 refine Ar.u8 (by omega) (St1.mk d14.c2 (by simp) rfl fun w15 h15=>?_)
 have d15:DecS w15.heap n0 b P kind 0 ⟨none,0,0⟩ ((([kind]:List Int).length:Nat):Int) (-1):=d14.setNode h15
 have x15:=toNo (toNo x13 x14 fun i h=>by omega) h15.ext fun i h=>by have h:i=n0+1:=h; omega
 -- the level
 have e:num [lev]=lev:=by simp [num]
 refine ⟨_,Cell.lst d15.c6 rfl,take_ok (x:=[lev]) (suf:=[((l.length:Int) % 256)]++(l.flatMap (wrE kind)++List.replicate (224 - (wr kind lev l).length) 0)) d15 (by rw [hP0]; rfl) rfl (by decide) (by decide) (fun K' hK=>V_slot_Decode_7 (S_slot_Decode_7 ?_)) fun w16 d16 x16 z16=>?_⟩
 .rw [e]
  refine ⟨_,Cell.lst d15.c2 rfl,Ar.u8 (by omega) (shape_spec ?_)⟩
  rw [decide_eq_true hr.shape]; exact hK
 rw [e]
 refine Ar.u8 (by omega) (St1.mk d16.c2 (by simp) rfl fun w17 h17=>?_)
 have d17:DecS w17.heap n0 b P kind lev ⟨none,0,0⟩ ((([kind,lev]:List Int).length:Nat):Int) (-1):=d16.setNode h17
 have x17:=toNo (toNo x15 x16 fun i h=>by omega) h17.ext fun i h=>by have h:i=n0+1:=h; omega
 -- how many
 have e:num [((l.length:Int) % 256)]=l.length:=by simp [num]; omega
 refine ⟨_,Cell.lst d17.c6 rfl,take_ok (x:=[((l.length:Int) % 256)]) (suf:=l.flatMap (wrE kind)++List.replicate (224 - (wr kind lev l).length) 0) d17 (by rw [hP0]; rfl) rfl (by decide) (by decide) (fun K' hK=>V_slot_Decode_8 (S_slot_Decode_8 ?_)) fun w18 d18 x18 z18=>?_⟩
 .rw [e]
  refine If.dec (fun _=>hK) fun h=>⟨_,Cell.lst d17.c2 rfl,?_⟩
  have:kind≠2:=fun h2=>hr.some h2 (List.eq_nil_of_length_eq_zero (by omega))
  rw [show (kind == 1)=true by simp; omega]; exact hK
 rw [e]
 have x18':=toNo x17 x18 fun i h=>by omega
 have z18':w18.heap.size=n0+7:=by have:=h15.size; have:=h17.size; omega
 refine ⟨fun w'=>∃ s L,NdO w'.heap (n0+7) s L/\ents L=l/\Ext No w w'/\DecS w'.heap n0 b P kind lev s ((wr kind lev l).length:Nat) (-1),?_,?_⟩
 .refine NewW.mk fun b8 w19 n19=>St1.b1 n19.get rfl fun w20 h20=>?_
  have z19:=n19.size; have z20:=h20.size; have hb8:=n19.at_
  refine ⟨fun m i w'=>∃ j bi ls L,i=A1 bi/\j<=l.length/\m=l.length - j/\DecL w n0 b P kind lev l j bi w' ls L,⟨l.length,0,b8,⟨none,0,0⟩,[],rfl,by omega,by omega,?_,NdO.nil _ _,by simp,h20.get n19.get,by omega,by simp [Sl.blk],toNo (x18'.no n19.ext) h20.ext fun i h=>by omega⟩,?_⟩
  .have:=(d18.no n19.ext).ext h20.ext fun i hi h=>by omega
   simpa using this
  rintro _ m0 i w21 ⟨j,bi,ls,L,rfl,hj,hm,D⟩
  refine ⟨fun w'=>w'=w21/\j < l.length,?_,?_⟩
  .refine ⟨_,Cell.lst D.hi rfl,Ar.i64 (by omega) (If.dec (fun h=>⟨_,Cell.lst D.d.c4 rfl,If.dec (fun _=>⟨rfl,by omega⟩) fun h=>by omega⟩) fun h=>?_)⟩
   have hjl:j=l.length:=by omega
   refine ⟨ls,L,D.nd,by rw [D.el,hjl,List.take_length],D.x,?_⟩
   have:=D.d
   rw [hjl,List.take_length] at this
   exact this
  rintro _ w22 ⟨rfl,hjl⟩
  have hcj:=hcut j hjl
  generalize hpre:[kind,lev,((l.length:Int) % 256)]++(l.take j).flatMap (wrE kind)=pre at *
  generalize hsuf:(l.drop (j+1)).flatMap (wrE kind)++List.replicate (224 - (wr kind lev l).length) 0=suf at *
  have hpe:=hr.ent j hjl
  have hoe:=hok _ (List.getElem_mem hjl)
  generalize hee:l[j]=e at *
  have hk32:e.key.length<=32:=by
   have:=hpe.1; unfold keyP at this; split at this <;> omega
  have ek:((e.key.length:Int) % 256)=e.key.length:=by omega
  have dd:=D.d
  rw [hpre] at dd
  have hbi:=blt D.hi
  refine NewW.mk fun b9 w23 n23=>?_
  have hb9:=n23.at_; have z23:=n23.size
  have d23:=dd.no n23.ext
  have hbi23:=get_no D.hi n23.ext
  have hPk:P=pre++(((e.key.length:Int))::e.key++(restB kind e++suf)):=by rw [hcj,wrE_eq,ek]; simp
  have h8k:B8 e.key:=h8.sub fun y hy=>by rw [hPk]; simp [hy]
  have h8r:B8 (restB kind e):=h8.sub fun y hy=>by rw [hPk]; simp [hy]
  refine text_ok (x:=e.key) (suf:=restB kind e++suf) d23 hPk (by have:=D.lo; omega) rfl (fun w' K' x' hK=>V_slot_Decode_9 (S_slot_Decode_9 ?_)) fun r3 w24 d24 o24 x24=>?_
  .refine ⟨_,Cell.lst (get_no d23.c2 x') rfl,_,Cell.lst (get_no hbi23 x') rfl,Ar.i64 (by omega) (key_spec ?_)⟩
   rw [decide_eq_true hpe.1]; exact hK
  have lo:=D.lo
  have g24:=get_ext n23.get x24 (by omega)
  refine St1.mk g24 (by simp) rfl fun w25 h25=>?_
  have g25:w25.heap[b9]? = some (.cells (EntV.cs ⟨r3,⟨none,0,0⟩,0, .z, .z⟩).toArray 133 (0,0)):=h25.get g24
  have x25:Ext (·=b9) w24 w25:=h25.ext
  have z25:w25.heap.size=w24.heap.size:=h25.size
  have s24:=x24.size
  have d25:DecS w25.heap n0 b P kind lev ls ((pre++((e.key.length:Int)::e.key)).length:Nat) (-1):=by
   have e5:(((pre++((e.key.length:Int)::e.key)).length:Nat):Int)=(pre.length:Int)+1+e.key.length:=by simp; omega
   rw [e5]
   exact d24.ext x25 fun q hq h=>by omega
  have o25:OwnB w25.heap w23.heap.size r3 e.key:=o24.ext x25 fun q hq h=>by have:=(o24.lt hq).1; omega
  have xb25:Ext (fun q=>q=n0+2∨q=b9) w22 w25:=((n23.ext.of_no).trans (x24.mono fun _ _ h => .inl h) fun _ _ h=>h).trans x25 fun _ _ h => .inr h
  have nd25:NdO w25.heap (n0+7) ls L:=D.nd.ext xb25 fun q h1 h2 h=>by omega
  have hi25:=get_ext D.hi xb25 (by omega)
  refine ⟨fun w'=>w'=drewW w25,⟨fun t w'=>t=false/\w'=drewW w25,?_,?_⟩,?_⟩
  .refine ⟨Ext No w25,(Ext.refl _ _).drew,_,Held.cell (Cell.lst d25.c4 rfl),If.dec (fun _=>⟨_,Held.cell (Cell.lst hi25 rfl),If.dec (fun h0=>?_) fun _=>⟨rfl,rfl⟩⟩) fun _=>⟨rfl,rfl⟩⟩
   have hLl:L.length=j:=by have:=congrArg List.length D.el; simp only [List.length_map,List.length_take] at this; omega
   have nl:=nd25.nd.len
   refine ⟨_,Held.cell (Cell.lst d25.c2 rfl),_,Held.cell (Cell.lst hi25 rfl),Ar.i64 (by omega) (Ix.elem nd25.own.rd (entCs_len L) (by decide) (by omega) (by omega) fun b2 o2 hi2 _ hc=>⟨_,Held.cell (hc 0 _ rfl),_,Held.cell (Cell.lst g25 rfl),?_⟩)⟩
   have e2:((j:Int) - 1).toNat=j - 1:=by omega
   simp only [e2] at hi2 ⊢
   have ea:=nd25.nd.get hi2
   have hlk:L[j - 1].2=l[j - 1]:=by
    have:(ents L)[j - 1]? = (l.take j)[j - 1]?:=by rw [D.el]
    rw [List.getElem?_map,List.getElem?_eq_getElem hi2,List.getElem?_take_of_lt (by omega),List.getElem?_eq_getElem (by omega)] at this
    simpa using this
   refine compare_spec (w:=drewW w25) ea.k o25.rd ea.k8 h8k ⟨(Ext.refl _ _).drew,decide_eq_false fun hc=>?_,rfl⟩
   have:=hr.ord (j - 1) (by omega)
   simp only [show j - 1+1=j by omega] at this
   rw [hlk] at hc
   exact cmpB_ge.1 hc (by rw [<- hee]; exact this)
  .rintro _ t w27 ⟨rfl,rfl⟩
   exact If.no rfl
  rintro _ w29 rfl
  refine ⟨fun w'=>∃ x,Got w' n0 b9 w25.heap.size r3 e x/\DecS w'.heap n0 b P kind lev ls (pre.length+(wrE kind e).length) (-1)/\Ext (fun q=>q=n0+2∨q=b9) w25 w',?_,?_⟩
  .refine rest_ok (w:=drewW w25) (pre:=pre++((e.key.length:Int)::e.key)) (suf:=suf) d25 (by rw [hPk]; simp) (by omega) g25 hpe hoe.1 hoe.2 fun w' x gx dx xx=>⟨x,gx,?_,xx.drew_left⟩
   have e5:(((pre++((e.key.length:Int)::e.key)).length:Nat):Int)+((restB kind e).length:Nat)=(pre.length:Int)+((wrE kind e).length:Nat):=by rw [wrE_eq]; simp; omega
   rw [<- e5]; exact dx
  rintro _ w39 ⟨x,gx,d39,x39⟩
  have s39:=x39.size
  refine ⟨_,Cell.lst d39.c2 rfl,ent_read gx.blk (NewW.mk fun b10 w40 n40=>?_)⟩
  have x2239:Ext (fun q=>q=n0+2∨q=b9) w22 w39:=xb25.trans x39 fun _ _ h=>h
  have nd40:NdO w40.heap (n0+7) ls L:=(D.nd.ext x2239 fun q h1 h2 h=>by omega).no n40.ext
  have d40:=d39.no n40.ext
  have hi40:=get_no (get_ext D.hi x2239 (by omega)) n40.ext
  have z40:=n40.size
  have oe:Own w40.heap w39.heap.size 133 9 ⟨some ⟨b10,0,none⟩,1,1⟩ x.cs:=Own.new (n:=1) (sz:=9) n40 rfl (by intro v hv; unfold EntV.cs at hv; simp only [List.mem_cons,List.not_mem_nil,or_false] at hv; rcases hv with h | h | h | h | h | h | h | h | h <;> subst h <;> rfl)
  have nl:=nd40.nd.len
  have hLl:L.length=j:=by have:=congrArg List.length D.el; simp only [List.length_map,List.length_take] at this; omega
  have o39:OwnB w39.heap w23.heap.size r3 e.key:=o25.ext x39 fun q hq h=>by have:=(o25.lt hq).1; omega
  have kb:∀ q,x.k.blk=some q->n0+7<=q/\q < w40.heap.size/\ls.blk≠some q:=fun q hq=>by
   rw [gx.k] at hq
   have:=o39.lt hq
   refine ⟨by omega,by omega,fun hls=>?_⟩
   have:=(D.nd.own.lt hls).2; omega
  have vb:∀ q,x.v.blk=some q->n0+7<=q/\q < w40.heap.size/\ls.blk≠some q:=fun q hq=>by
   have:=gx.vb q hq
   refine ⟨by omega,by omega,fun hls=>?_⟩
   have:=(D.nd.own.lt hls).2; omega
  have er:EntR w40.heap x e:=by
   refine ⟨by rw [gx.k]; exact o39.rd.no n40.ext,gx.v.no n40.ext,gx.n,gx.ch,gx.cd,h8k,?_,?_,hoe.1,hoe.2⟩
   .intro y hy
    refine h8r y ?_
    have hp2:=hpe.2
    unfold restB
    split at hp2
    .rw [List.eq_nil_of_length_eq_zero hp2.2.2.1] at hy; cases hy
    .rename_i h2
     rw [if_neg h2]
     obtain ⟨_,hp2⟩:=hp2
     split at hp2
     .rw [if_neg (by omega)]; simp [hy]
     .rw [List.eq_nil_of_length_eq_zero hp2.2.2.2] at hy; cases hy
   .have hp2:=hpe.2
    split at hp2
    .omega
    .obtain ⟨_,hp2⟩:=hp2
     split at hp2 <;> omega
  refine app_api_Entry nd40.own (by omega) oe.rd.src (by simp only; omega) fun s41 w41 o41 _ x41 hbl=>?_
  have nd41:NdO w41.heap (n0+7) s41 (L++[(x,e)]):=NdO.push (p:=(x,e)) nd40 o41 x41 hbl er kb vb
  have s41s:=x41.size
  have d41:=d40.ext x41 fun q hq h=>by have:=(nd40.own.lt h).1; omega
  have hi41:=get_ext hi40 x41 D.ne
  refine St1.mk d41.c2 (by simp) rfl fun w42 h42=>?_
  have d42:DecS w42.heap n0 b P kind lev s41 (pre.length+(wrE kind e).length) (-1):=d41.setNode h42
  have x42:Ext (·=n0+1) w41 w42:=h42.ext
  have z42:w42.heap.size=w41.heap.size:=h42.size
  have nd42:NdO w42.heap (n0+7) s41 (L++[(x,e)]):=nd41.ext x42 fun q h1 h2 h=>by omega
  have hi42:=get_ext hi41 x42 (by omega)
  refine ⟨_,Cell.lst hi42 rfl,NewW.mk fun b11 w43 n43=>St1.b1 n43.get rfl fun w44 h44=>⟨_,Cell.lst (h44.get n43.get) rfl,Ar.i64 (by omega) (St1.b1 (h44.get n43.get) rfl fun w45 h45=>?_)⟩⟩
  have hb11:=n43.at_; have z43:=n43.size; have z44:=h44.size; have z45:=h45.size
  have xf:Ext (·=b11) w42 w45:=((n43.ext.of_no).trans h44.ext fun _ _ h=>h).trans h45.ext fun _ _ h=>h
  have s40s:=n40.ext.size
  refine ⟨l.length - (j+1),by omega,j+1,b11,s41,L++[(x,e)],rfl,by omega,rfl,?_,nd42.ext xf (fun q h1 h2 h=>by omega),?_,?_,by omega,fun h=>?_,?_⟩
  .have e6:(([kind,lev,((l.length:Int) % 256)]++(l.take (j+1)).flatMap (wrE kind)).length:Nat)=pre.length+(wrE kind e).length:=by
    rw [List.take_add_one,List.getElem?_eq_getElem hjl,hee,<- hpre]; simp; omega
   rw [e6]
   have:=d42.ext xf fun q hq h=>by omega
   simpa using this
  .show List.map Prod.snd (L++[(x,e)])=_
   rw [List.map_append,show List.map Prod.snd L=List.take j l from D.el,List.take_add_one,List.getElem?_eq_getElem hjl,hee]; rfl
  .exact h45.get (h44.get n43.get)
  .have:=(nd42.own.lt h).2; omega
  .refine toNo (toNo (toNo ((toNo D.x x2239 fun q h=>by omega).no n40.ext) x41 fun q h=>?_) x42 fun q h=>by omega) xf fun q h=>by omega
   have:=(nd40.own.lt h).1; omega
 .rintro _ w46 ⟨s,L,nd,el,x46,d46⟩
  refine ⟨fun w'=>NdO w'.heap (n0+7) s L/\Ext No w w'/\DecS w'.heap n0 b P kind lev s 224 (-1),?_,?_⟩
  .refine ⟨fun m w'=>∃ i:Nat,m=224 - ((wr kind lev l).length+i)/\(wr kind lev l).length+i<=224/\NdO w'.heap (n0+7) s L/\Ext No w w'/\DecS w'.heap n0 b P kind lev s (((wr kind lev l++List.replicate i 0).length:Nat):Int) (-1),⟨_,0,rfl,by omega,nd,x46,by simpa using d46⟩,?_⟩
   rintro _ m0 w47 ⟨i,rfl,hi,nd47,x47,d47⟩
   refine ⟨_,Cell.lst d47.c4 rfl,If.dec (fun _=>⟨_,Cell.lst d47.c3 rfl,If.dec (fun h=>⟨_,Cell.lst d47.c6 rfl,?_⟩) fun h=>?_⟩) fun h=>by omega⟩
   .simp only [List.length_append,List.length_replicate] at h
    have hPi:P=(wr kind lev l++List.replicate i 0)++([0]++List.replicate (224 - (wr kind lev l).length - i - 1) 0):=by
     rw [<- hP]; unfold pad
     rw [List.append_assoc]; congr 1
     rw [<- List.replicate_one,List.replicate_append_replicate,List.replicate_append_replicate]; congr 1; omega
    refine take_ok (x:=[0]) d47 hPi rfl (by decide) (by decide) (fun K' hK=>V_slot_Decode_13 (S_slot_Decode_13 hK)) fun w48 d48 x48 z48=>?_
    refine ⟨224 - ((wr kind lev l).length+(i+1)),by omega,i+1,rfl,by omega,nd47.ext x48 (fun q h1 h2 h=>by omega),toNo x47 x48 fun q h=>by omega,?_⟩
    have e6:(((wr kind lev l++List.replicate i 0).length:Nat):Int)+1=((wr kind lev l++List.replicate (i+1) 0).length:Nat):=by simp; omega
    rw [<- e6]; exact d48
   .have e6:(((wr kind lev l++List.replicate i 0).length:Nat):Int)=224:=by
     simp only [List.length_append,List.length_replicate] at h ⊢; omega
    rw [e6] at d47
    exact ⟨nd47,x47,d47⟩
  rintro _ w49 ⟨nd49,x49,d49⟩
  refine ⟨_,Cell.lst d49.c4 rfl,If.dec (fun h=>by omega) fun _=>⟨_,Cell.lst d49.c2 rfl,_,Cell.lst d49.c2 rfl,_,Cell.lst d49.c2 rfl,rfl,_,_,_,d49.c2,rfl,by simp, .inr (.inr (Nat.le_refl _)),?_,fun w51 h51=>?_⟩⟩
  .intro v hv; simp only [List.mem_cons,List.not_mem_nil,or_false] at hv; rcases hv with h | h | h <;> subst h <;> rfl
  have g51:w51.heap[n0+1]? = some (.cells [.int .u8 kind, .int .u8 lev, .slice s.a s.len s.cap].toArray 39 (0,0)):=Wrt.get (b:=n0+1) h51 d49.c2
  have x51:Ext (·=n0+1) w49 w51:=Wrt.ext (b:=n0+1) h51
  refine ⟨_,Cell.lst g51 rfl,_,Cell.lst g51 rfl,_,Cell.lst g51 rfl,k s L w51 ((nd49.ext x51 fun q h1 h2 h=>by omega).mono (by omega)) el (toNo x49 x51 fun q h=>by omega)⟩
theorem take_dead{may:Value}{size:Int}{K:Int->Wd->Prop}{rd:Bool}(d:DecS w.heap n0 b P kind lev ls place fault)(hf:0<=fault)(k:K 0 w):dynV pz rd (takeF n0) [.int .i64 size,may] [.one (.int .u64)] K NoX w :=
 V_slot_Decode_2 (c0:=A1 (n0+3)) (c1:=A1 (n0+2)) (c2:=A1 (n0+4)) (c3:=A1 n0) (S_slot_Decode_2 ⟨_,Cell.lst d.c4 rfl,If.dec (fun _=>k) fun h=>(h hf).elim⟩)
theorem take_bad{may:Value}{size:Int}{pre x suf:List Int}{K:Int->Wd->Prop}{rd:Bool}(d:DecS w.heap n0 b P kind lev ls pre.length (-1))(hP:P=pre++(x++suf))(hx:(x.length:Int)=size)(h1:1<=size)(h8:size<=8)
  (hm:∀ K':Bool->Wd->Prop,K' false w->dynV pz true may [.int .u64 (num x)] [.one (.bool)] K' NoX w)
  (k:∀ w',DecS w'.heap n0 b P kind lev ls pre.length pre.length->Ext (·=n0+3) w w'->w'.heap.size=w.heap.size->K 0 w'):dynV pz rd (takeF n0) [.int .i64 size,may] [.one (.int .u64)] K NoX w:=by
 refine V_slot_Decode_2 (c0:=A1 (n0+3)) (c1:=A1 (n0+2)) (c2:=A1 (n0+4)) (c3:=A1 n0) (S_slot_Decode_2 ?_)
 have hPl:pre.length+(x.length+suf.length)=224:=by rw [<- d.len,hP]; simp
 have hx8:B8 x:=d.p8.sub fun y hy=>by rw [hP]; simp [hy]
 refine ⟨_,Cell.lst d.c4 rfl,If.dec (fun h=>by omega) fun _=>⟨_,Cell.lst d.c3 rfl,Ar.i64 (by omega) (If.dec (fun h=>by omega) fun _=>⟨_,Cell.lst d.c1 rfl,_,Cell.lst d.c3 rfl,_,Cell.lst d.c3 rfl,Ar.i64 (by omega) ?_⟩)⟩⟩
 refine cutB d.rd hP rfl (by omega) fun s' r'=>get_spec r' hx8 (by omega) (by omega) (hm _ (If.yes ⟨_,Cell.lst d.c5 rfl,_,Cell.lst d.c3 rfl,V_slot_Decode_1 (wrong_spec d (by decide) fun w' h=>?_)⟩))
 exact k w' (d.setFault h) h.ext h.size
theorem decode_bad{K:Int->Int->Sl->Int->Int->Wd->Prop}{x:Int}{P':List Int}(hb:RdB w.heap b (x::P'))(h8:B8 (x::P'))(hl:(x::P').length=224)(hx:x≠1/\x≠2)
  (k:∀ w',Ext No w w'->K 0 0 ⟨none,0,0⟩ 5 0 w'):C_slot_Decode b w K:=by
 refine decode_enter hb h8 hl fun w13 d13 z13 x13=>?_
 generalize hn0:w.heap.size=n0 at *
 have toNo:∀{a c:Wd}{S:Nat->Prop},Ext No w a->Ext S a c->(∀ i,S i->n0<=i)->Ext No w c:=fun x y h=>x.trans y fun i hi hS=>by have:=h i hS; omega
 unfold DecBody
 refine ⟨_,Cell.lst d13.c6 rfl,take_bad (pre:=[]) (x:=[x]) (suf:=P') d13 rfl rfl (by decide) (by decide) (fun K' hK=>V_slot_Decode_6 (S_slot_Decode_6 ?_)) fun w14 d14 x14 z14=>?_⟩
 .have e:num [x]=x:=by simp [num]
  unfold F_slot_Decode_6; rw [e]
  refine If.beq (fun h=>(hx.1 h).elim) fun h=>?_
  rw [show (x == 2)=false by simp [hx.2]]; exact hK
 have d14':DecS w14.heap n0 b (x::P') 0 0 ⟨none,0,0⟩ 0 0:=d14
 refine Ar.u8 (by decide) (St1.mk d14.c2 (by simp) rfl fun w15 h15=>?_)
 have d15:DecS w15.heap n0 b (x::P') 0 0 ⟨none,0,0⟩ 0 0:=d14'.setNode h15
 refine ⟨_,Cell.lst d15.c6 rfl,take_dead d15 (Int.le_refl _) (Ar.u8 (by decide) (St1.mk d15.c2 (by simp) rfl fun w17 h17=>?_))⟩
 have d17:DecS w17.heap n0 b (x::P') 0 0 ⟨none,0,0⟩ 0 0:=d15.setNode h17
 have z15:w15.heap.size=w14.heap.size:=h15.size
 have z17:w17.heap.size=w15.heap.size:=h17.size
 have x17:Ext No w w17:=toNo (toNo (toNo x13 x14 fun i h=>by omega) h15.ext fun i h=>by have h:i=n0+1:=h; omega) h17.ext fun i h=>by have h:i=n0+1:=h; omega
 refine ⟨_,Cell.lst d17.c6 rfl,take_dead d17 (Int.le_refl _) ?_⟩
 refine ⟨fun w'=>Ext No w w'/\DecS w'.heap n0 b (x::P') 0 0 ⟨none,0,0⟩ 0 0,?_,?_⟩
 .refine NewW.mk fun b8 w19 n19=>St1.b1 n19.get rfl fun w20 h20=>?_
  have hb8:=n19.at_
  have d20:=(d17.no n19.ext).ext h20.ext fun i hi h=>by omega
  have x20:Ext No w w20:=toNo (x17.no n19.ext) h20.ext fun i h=>by omega
  refine ⟨fun m i w'=>i=A1 b8/\w'=w20,⟨0,rfl,rfl⟩,?_⟩
  rintro _ m0 i w21 ⟨rfl,rfl⟩
  refine ⟨fun _=>False,⟨_,Cell.lst (h20.get n19.get) rfl,Ar.i64 (by decide) (If.no ⟨x20,d20⟩)⟩,fun _ _ h=>h.elim⟩
 rintro _ w46 ⟨x46,d46⟩
 refine ⟨fun w'=>w'=w46,⟨fun m w'=>w'=w46,⟨0,rfl⟩,?_⟩,?_⟩
 .rintro _ m0 w47 rfl
  exact ⟨_,Cell.lst d46.c4 rfl,If.no rfl⟩
 rintro _ w49 rfl
 refine ⟨_,Cell.lst d46.c4 rfl,If.yes ⟨Ext (·=n0+1) w49,(Ext.refl _ _).drew,_,Held.but (Cell.lst d46.c4 rfl) (by omega),rfl,_,_,_,d46.c2,rfl,by simp, .inr (.inr (Nat.le_refl _)),(by decide),fun w51 h51=>?_⟩⟩
 have g51:w51.heap[n0+1]? = some (.cells [.int .u8 0, .int .u8 0, .slice none 0 0].toArray 39 (0,0)):=Wrt.get (b:=n0+1) (w:=drewW w49) h51 d46.c2
 have x51:Ext (·=n0+1) w49 w51:=Ext.drew_left (Wrt.ext (b:=n0+1) h51)
 exact ⟨x51,_,Cell.lst g51 rfl,_,Cell.lst g51 rfl,⟨none,0,0⟩,Cell.lst g51 rfl,k _ (toNo x46 x51 fun i h=>by omega)⟩
end
section
variable {w:Wd} {T:Nat->Option Nat} {m:MemV} {M:Mm}
theorem st_all{b n:Nat}{zs vs:List Value}{T:TypeId}{K:Wd->Prop}(hb:w.heap[b]? = some (.cells zs.toArray T (0,0)))(hl:vs.length=n)(hz:zs.length=n)(hv:∀ v∈vs,oneC v=true)
  (k:∀ w',w'.heap[b]? = some (.cells vs.toArray T (0,0))->Ext (·=b) w w'->w'.heap.size=w.heap.size->K w'):List.length (α:=Value) vs=n/\StN w (Addr.mk b 0 none) vs K:=by
 refine ⟨hl,zs.toArray,T,(0,0),hb,rfl,by simp [hl,hz], .inr (.inr (Nat.le_refl _)),hv,fun w2 hw=>?_⟩
 have e:setL zs 0 vs=vs:=setL_all _ _ (by omega)
 have hw':Wrt w b (.cells vs.toArray T (0,0)) w2:=by rw [<- e]; exact hw
 exact k w2 (hw'.get hb) hw'.ext hw'.size
abbrev srcV(m:MemV):Value := .iface 24 (.pointer (some ⟨m.bm,0,none⟩))
abbrev kindOf(lev:Int):Int:=if lev=0 then 1 else 2
structure NodeP(p:Pg)(l:List Ent):Prop where
 right:RightP p.k p.v l
 short:(wr p.k p.v l).length<=224
 ok:∀ e∈l,e.ch.ok/\e.cd.ok
 pay:p.pay=pad (wr p.k p.v l)
theorem nodeErr_spec{b2:Nat}{e:Int}{K:Int->Int->Sl->Int->Wd->Prop}{zs:List Value}(hb:w.heap[b2]? = some (.cells zs.toArray 39 (0,0)))(hz:zs.length=3)(k:∀ w',Ext (·=b2) w w'->K 0 0 ⟨none,0,0⟩ e w') :
  List.length (α:=Value) [.int .u8 0, .int .u8 0, .slice none 0 0]=3/\StN w (Addr.mk b2 0 none) [.int .u8 0, .int .u8 0, .slice none 0 0] fun w6 =>
   ∃ c_3:Int,Cell w6 (Addr.mk b2 0 none) (.int .u8 c_3)/\∃ c_4:Int,Cell w6 ((Addr.mk b2 0 none).add 1) (.int .u8 c_4)/\∃ c_5:Sl,Cell w6 ((Addr.mk b2 0 none).add 2) (.slice c_5.a c_5.len c_5.cap)/\K c_3 c_4 c_5 e w6 :=
 st_all hb rfl hz (by decide) fun w' g x _=>⟨_,Cell.lst g rfl,_,Cell.lst g rfl,⟨none,0,0⟩,Cell.lst g rfl,k w' x⟩
set_option maxHeartbeats 1000000 in
theorem node_spec{t lev:Int}{r:Rf}{l:List Ent}{K:Int->Int->Sl->Int->Wd->Prop}(R:MemR w.heap T m M)
  (k0:∀ p s L w',pgA r.p M.pages=some p->p.t=t->p.v=lev->p.r=r->NodeP p l->l≠[]->NdO w'.heap w.heap.size s L->ents L=l->Ext No w w'->K (kindOf lev) lev s 0 w')
  (hc:∀ p,pgA r.p M.pages=some p->p.t=t->p.k=kindOf lev->p.v=lev->p.r=r->NodeP p l∨∃ x q,p.pay=x::q/\x≠1/\x≠2)
  (k7:∀ w',pgA r.p M.pages=none->Ext No w w'->K 0 0 ⟨none,0,0⟩ 7 w')
  (k150:∀ p w',pgA r.p M.pages=some p->¬ (p.t=t/\p.k=kindOf lev/\p.v=lev/\p.r=r)->Ext No w w'->K 0 0 ⟨none,0,0⟩ 150 w')
  (k5:∀ p w',pgA r.p M.pages=some p->p.t=t->p.k=kindOf lev->p.v=lev->p.r=r->((l=[]/\NodeP p l)∨∃ x q,p.pay=x::q/\x≠1/\x≠2)->Ext No w w'->K 0 0 ⟨none,0,0⟩ 5 w'):C_tree_grove_node (srcV m) t r.p r.c r.g lev w K:=by
 apply S_tree_grove_node
 refine NewW.mk fun b w1 n1=>NewW.mk fun b1 w2 n2=>NewW.mk fun b2 w3 n3=>?_
 have g0:=get_no (get_no n1.get n2.ext) n3.ext
 have g1:=get_no n2.get n3.ext
 have g2:=n3.get
 have x3:Ext No w w3:=(n1.ext.no n2.ext).no n3.ext
 have hb2:=n3.at_
 have sz:w.heap.size<=b2:=by have:=(n1.ext.no n2.ext).size; omega
 refine ⟨fun kd w'=>kd=kindOf lev/\w'=w3,⟨_,Cell.lst g1 rfl,If.beq (fun h=>⟨by unfold kindOf; rw [if_pos h],rfl⟩) fun h=>⟨by unfold kindOf; rw [if_neg h],rfl⟩⟩,?_⟩
 rintro _ kd w4 ⟨rfl,rfl⟩
 have fin:∀{w5 w6:Wd},Ext No w4 w5->Ext (·=b2) w5 w6->Ext No w w6:=fun x y=>(x3.no x).trans y fun i hi h=>by omega
 refine ⟨_,Cell.lst g0 rfl,_,Cell.lst g0 rfl,_,Cell.lst g1 rfl,_,Cell.lst g1 rfl,_,Cell.lst g1 rfl,_,Cell.lst g1 rfl,I_tree_Mem_Get ?_⟩
 refine memGet_spec (R.no x3) (fun p s w5 hp h1 h2 h3 h4 o5 x5=>If.bne (fun h=>(h rfl).elim) fun _=>?_) (fun w5 hp x5=>If.bne (fun _=>nodeErr_spec (get_no g2 x5) rfl fun w6 x6=>k7 _ hp (fin x5 x6)) fun h=>by omega) (fun p w5 hp hne x5=>If.bne (fun _=>nodeErr_spec (get_no g2 x5) rfl fun w6 x6=>k150 p _ hp hne (fin x5 x6)) fun h=>by omega)
 have P4:=(R.no x3).find hp
 rcases hc p hp h1 h2 h3 h4 with hl | ⟨x,q,hq,hx1,hx2⟩
 .have hpay:p.pay=pad (wr (kindOf lev) lev l):=by rw [hl.pay,h2,h3]
  have hr:RightP (kindOf lev) lev l:=by rw [<- h2,<- h3]; exact hl.right
  have hs:(wr (kindOf lev) lev l).length<=224:=by rw [<- h2,<- h3]; exact hl.short
  rw [hpay] at o5
  have p8:=P4.p8
  rw [hpay] at p8
  refine decode_ok o5.rd hr hs p8 hl.ok fun s6 L w7 o7 eL x7=>new_set rfl rfl (by simp [oneC]) fun b3 w9 g9 _ _ x9=>If.bne (fun h=>(h rfl).elim) fun _=>?_
  have x49:Ext No w4 w9:=(x5.no x7).no x9
  refine ⟨_,Cell.lst g9 rfl,If.bne (fun h=>(h rfl).elim) fun _=>⟨_,Cell.lst g9 rfl,_,Cell.lst (get_no g1 x49) rfl,If.bne (fun h=>(h rfl).elim) fun _=>⟨_,Cell.lst g9 rfl,If.beq (fun h0=>?_) fun h0=>?_⟩⟩⟩
  .refine nodeErr_spec (get_no g2 x49) rfl fun w13 x13=>k5 p _ hp h1 h2 h3 h4 (.inl ⟨?_,hl⟩) (fin x49 x13)
   have hLn:L.length=0:=by have:=o7.nd.len; omega
   rw [<- eL]; simp [List.eq_nil_of_length_eq_zero hLn]
  .refine ⟨_,Cell.lst g9 rfl,_,Cell.lst g9 rfl,_,Cell.lst g9 rfl,st_all (get_no g2 x49) rfl rfl (by simp [oneC]) fun w14 g14 x14 _=>⟨_,Cell.lst g14 rfl,_,Cell.lst g14 rfl,_,Cell.lst g14 rfl,?_⟩⟩
   refine k0 p s6 L w14 hp h1 h3 h4 hl ?_ ?_ eL (fin x49 x14)
   .intro e; rw [e] at eL
    have:L=[]:=by simpa using eL
    have:=o7.nd.len; rw [‹L=[]›] at this; simp at this; omega
   .have hz5:=x5.size
    have hz3:=n3.size
    refine ((o7.no x9).ext x14 fun q h1 h2 h=>?_).mono ?_
    .omega
    .have:=x3.size; omega
 .rw [hq] at o5
  have p8:=P4.p8
  rw [hq] at p8
  refine decode_bad o5.rd p8 (by rw [<- hq]; exact P4.len) ⟨hx1,hx2⟩ fun w7 x7=>new_set rfl rfl (by decide) fun b3 w9 g9 _ _ x9=>If.bne (fun _=>?_) fun h=>by omega
  exact nodeErr_spec (get_no g2 ((x5.no x7).no x9)) rfl fun w13 x13=>k5 p _ hp h1 h2 h3 h4 (.inr ⟨x,q,hq,hx1,hx2⟩) (fin ((x5.no x7).no x9) x13)
end
end Go.Proofs.YtcamoanigdfihaaGreat
namespace Go.V
theorem wrE_b8{kind:Int}{e:Ent}(h1:B8 e.key)(h2:B8 e.val):B8 (wrE kind e):=by
 unfold wrE
 refine (B8.cons (by omega) h1).append ?_
 split
 .exact ((be_b8 _ _).append (be_b8 _ _)).append (be_b8 _ _)
 .split
  .exact (B8.cons (by omega) (B8.cons (by omega) (B8.cons (by omega) B8.nil))).append (((be_b8 _ _).append (be_b8 _ _)).append (be_b8 _ _))
  .exact (B8.cons (by omega) (B8.cons (by omega) B8.nil)).append h2
theorem pad_b8{l:List Int}(h:B8 l):B8 (pad l):=h.append fun x hx=>by rw [List.mem_replicate] at hx; omega
theorem wr_b8{kind lev:Int}{l:List Ent}(hk:0<=kind/\kind<=255)(hv:0<=lev/\lev<=255)(h:∀ e∈l,B8 e.key/\B8 e.val):B8 (wr kind lev l):=by
 refine (B8.cons hk (B8.cons hv (B8.cons (by omega) B8.nil))).append fun x hx=>?_
 obtain ⟨e,he,hx⟩:=List.mem_flatMap.1 hx
 exact wrE_b8 (h e he).1 (h e he).2 x hx
end Go.V
namespace Go.Proofs.YtcamoanigdfihaaGreat
open Go.V
section
variable {w:Wd} {T:Nat->Option Nat} {m:MemV} {M:Mm}
set_option maxHeartbeats 1000000 in
theorem gwrite_spec{t kind lev:Int}{s:Sl}{L:List (EntV×Ent)}{K:Int->Int->Int->Int->Int->Wd->Prop}(R:MemR w.heap T m M)(nd:NdR w.heap s L)(hl:L.length<=65536)(hr:RightP kind lev (ents L))(hs:(wr kind lev (ents L)).length<=224)(hn:M.pages.length<=1048576)
  (k:∀ n T' m' w',IsFree M.pages n->MemR w'.heap T' m' { M with pages:=M.pages++[(n,⟨t,kind,lev,⟨n,M.commit,M.gen⟩,pad (wr kind lev (ents L)),false⟩)] }->m'.bm=m.bm->Tg w T T'->Ext (Ts T) w w'->K n M.commit M.gen lev 0 w'):C_tree_grove_write (srcV m) t kind lev s w K:=by
 apply S_tree_grove_write
 refine NewW.mk fun b w1 n1=>NewW.mk fun b1 w2 n2=>NewW.mk fun b2 w3 n3=>?_
 have g0:=get_no (get_no n1.get n2.ext) n3.ext
 have g1:=get_no n2.get n3.ext
 have g2:=n3.get
 have x3:Ext No w w3:=(n1.ext.no n2.ext).no n3.ext
 have z1:=n1.size; have z2:=n2.size; have z3:=n3.size; have hb:=n1.at_; have hb1:=n2.at_; have hb2:=n3.at_
 have hsh:=hr.shape
 unfold shapeP at hsh
 refine ⟨_,Cell.lst g1 rfl,_,Cell.lst g1 rfl,_,Cell.lst g1 rfl,encode_spec (nd.no x3) hl (fun t4 w4 _ _ o4 x4=>If.bne (fun h=>(h rfl).elim) fun _=>?_) (fun c w4 h _ _=>(h ⟨hr,hs⟩).elim)⟩
 have x04:=x3.no x4
 refine ⟨_,Cell.lst (get_no g0 x4) rfl,_,Cell.lst (get_no g0 x4) rfl,_,Cell.lst (get_no g1 x4) rfl,_,Cell.lst (get_no g1 x4) rfl,I_tree_Mem_Put ?_⟩
 have b8:B8 (pad (wr kind lev (ents L))):=pad_b8 (wr_b8 (by omega) (by omega) fun e he=>by
  obtain ⟨p,hp,rfl⟩:=List.mem_map.1 he
  exact ⟨(nd.ent p hp).k8,(nd.ent p hp).v8⟩)
 have sup:∀ q,w.heap.size<=q->¬ Ts T q:=fun q hq h=>by have:=R.sup q h; omega
 refine memPut_spec (R.no x04) o4.rd b8 hn (fun n T' m' w6 _ hf R6 hm' hT x6=>new_set rfl rfl (by simp [oneC]) fun b3 w8 g8 hb3 z8 x8=>?_) fun w6 h _=>(h (pad_len hs)).elim
 have g18:=get_no (get_ext (get_no g1 x4) x6 (sup b1 (by omega))) x8
 have g28:=get_no (get_ext (get_no g2 x4) x6 (sup b2 (by omega))) x8
 refine ⟨_,Cell.lst g8 rfl,_,Cell.lst g8 rfl,_,Cell.lst g8 rfl,_,Cell.lst g18 rfl,st_all g28 rfl rfl (by simp [oneC]) fun w9 g9 x9 _=>⟨_,Cell.lst g9 rfl,_,Cell.lst g9 rfl,_,Cell.lst g9 rfl,_,Cell.lst g9 rfl,?_⟩⟩
 have z4:=x4.size
 refine k n T' m' w9 hf ((R6.no x8).ext x9 fun q h=>?_) hm' (fun q hq=>hT q (by have:=x04.size; omega)) ?_
 .rw [h,hT b2 (by omega)]
  cases hT2:T b2 with
  | none=>rfl
  | some t=>exact (sup b2 (by omega) (by show T b2≠none; rw [hT2]; simp)).elim
 .exact (((x04.of_no).trans x6 fun _ _ h=>h).no x8).trans x9 fun q hq h=>by omega
theorem below_spec{kind lev:Int}{s:Sl}{L:List (EntV×Ent)}{i:Int}{K:Int->Int->Int->Int->Wd->Prop}(nd:NdR w.heap s L)(h0:0<=i)(hi:i.toNat < L.length)(hlv:1<=lev/\lev<=255)
  (k:∀ w',Ext No w w'->K (L[i.toNat].2.cd).p (L[i.toNat].2.cd).c (L[i.toNat].2.cd).g (lev - 1) w'):C_tree_below kind lev s i w K:=by
 apply S_tree_below
 refine NewW.mk fun b w1 n1=>NewW.mk fun b1 w2 n2=>?_
 have x2:=n1.ext.no n2.ext
 have g0:=get_no n1.get n2.ext
 have nl:=nd.len
 have hb1:=n2.at_; have z1:=n1.size
 have nbb:¬ b=b1:=by have:=n1.at_; omega
 refine ⟨Ext (·=b1) w2,(Ext.refl _ _).drew,_,Held.but (Cell.lst g0 rfl) nbb,Ix.elem (nd.no x2).rd (entCs_len L) (by decide) h0 (by omega) fun bb o hi' hsb hc=>?_⟩
 have hlt:bb < w.heap.size:=by
  obtain ⟨c,o',ha,hcc⟩:=nd.rd.at_ (by intro h; have:=flat_len' (entCs_len L); rw [h] at this; simp at this; omega)
  have:bb=c:=by simp [Sl.blk,ha] at hsb; exact hsb.symm
  subst this
  have hfl:=flat_len' (entCs_len L)
  exact hcell_lt (hcc 0 (by omega))
 have nb:¬ bb=b1:=by omega
 have er:=(nd.no x2).get hi'
 refine ⟨_,Held.but (hc 6 _ rfl) nb,_,Held.but (hc 7 _ rfl) nb,_,Held.but (hc 8 _ rfl) nb,_,Held.but (Cell.lst g0 rfl) nbb,Ar.u8 (by omega) ?_⟩
 refine st_all (w:=drewW w2) n2.get rfl rfl (by simp [oneC]) fun w3 g3 x3 _=>⟨x3.drew_left,_,Cell.lst g3 rfl,_,Cell.lst g3 rfl,_,Cell.lst g3 rfl,_,Cell.lst g3 rfl,?_⟩
 rw [er.cd]
 exact k w3 (x2.trans x3.drew_left fun q hq h=>by omega)
structure FindP(l:List Ent)(key:List Int)(i:Nat)(f:Bool):Prop where
 le:i<=l.length
 lt:∀ j (h:j < l.length),j < i->LtB l[j].key key
 ge:∀(h:i < l.length),¬ LtB l[i].key key
 eq:f=true ↔ ∃ h:i < l.length,l[i].key=key
theorem find_spec{kind lev:Int}{s ks:Sl}{L:List (EntV×Ent)}{key:List Int}{K:Int->Bool->Wd->Prop}(nd:NdR w.heap s L)(hk:RdB w.heap ks key)(k8:B8 key)(hl:L.length<=65536)
  (k:∀(i:Nat) f w',FindP (ents L) key i f->Ext No w w'->K i f w'):C_graft_Find kind lev s ks w K:=by
 apply S_graft_Find
 refine NewW.mk fun b w1 n1=>⟨_,Cell.lst n1.get rfl,?_⟩
 have nl:=nd.len
 refine ⟨fun q t w'=>∃ i:Nat,t=i/\i<=L.length/\q=L.length - i/\Ext No w1 w'/\∀ j (h:j < L.length),j < i->LtB L[j].2.key key,⟨L.length,0,rfl,by omega,by omega,Ext.refl _ _,fun j h h'=>by omega⟩,?_⟩
 rintro _ m0 t w2 ⟨i,rfl,hi,hm,x2,hlt⟩
 have x02:=n1.ext.no x2
 refine If.dec (fun h=>?_) fun h=>?_
 .refine ent_copy (nd.rd.no x02) (by omega) h fun b1 w4 hi' g4 _ _ x4=>?_
  simp only [Int.toNat_natCast] at hi' g4
  have x04:=x02.no x4
  have er:=(nd.no x04).get hi'
  refine ⟨_,Cell.lst g4 rfl,compare_spec er.k (Rd.no hk x04) er.k8 k8 (If.dec (fun hc=>?_) fun hc=>Ar.i64 (by omega) ⟨L.length - (i+1),by omega,i+1,by omega,by omega,rfl,x2.no x4,fun j hj hji=>?_⟩)⟩
  .refine k i _ w4 ⟨by simp; omega,fun j hj hji=>?_,fun hj=>?_,?_⟩ x04
   .simp only [List.getElem_map]; exact hlt j (by simpa using hj) hji
   .simp only [List.getElem_map]; exact cmpB_ge.1 hc
   .rw [beq_iff_eq,cmpB_zero]
    exact ⟨fun e=>⟨by simpa using hi',by simpa using e⟩,fun ⟨_,e⟩=>by simpa using e⟩
  .rcases Nat.lt_or_ge j i with h3 | h3
   .exact hlt j hj h3
   .have:j=i:=by omega
    subst this; exact Classical.not_not.1 fun hh=>hc (cmpB_ge.2 hh)
 .have e:i=L.length:=by omega
  refine ⟨_,Cell.lst (get_no n1.get x2) rfl,?_⟩
  rw [nl,<- e]
  refine k i false w2 ⟨by simp; omega,fun j hj hji=>?_,fun hj=>?_,?_⟩ x02
  .simp only [List.getElem_map]; exact hlt j (by simpa using hj) hji
  .simp at hj; omega
  .constructor
   .intro h; cases h
   .rintro ⟨h,_⟩; simp at h; omega
theorem value_inline{t:Int}{x:EntV}{e:Ent}{g:Value}{K:Sl->Int->Wd->Prop}(er:EntR w.heap x e)(hz:e.ch = .z)(hl:e.val.length<=65536)(k:∀ s w',OwnB w'.heap w.heap.size s e.val->Ext No w w'->K s 0 w') :
  C_tree_grove_value g t x.k x.v x.n x.ch.p x.ch.c x.ch.g x.cd.p x.cd.c x.cd.g w K:=by
 apply S_tree_grove_value
 refine NewW.mk fun b w1 n1=>NewW.mk fun b1 w2 n2=>?_
 have x2:=n1.ext.no n2.ext
 have g2:w2.heap[b1]? = some (.cells x.cs.toArray 133 (0,0)):=n2.get
 refine ⟨_,Cell.lst g2 rfl,_,Cell.lst g2 rfl,_,Cell.lst g2 rfl,?_⟩
 rw [er.ch,hz]
 refine If.yes ⟨_,Cell.lst g2 rfl,clone_spec (er.no x2).v (by omega) fun s w3 o3 x3=>k s w3 (Own.mono o3 x2.size) (x2.no x3)⟩
end
end Go.Proofs.YtcamoanigdfihaaGreat
namespace Go.V
abbrev KV:=List Int×List Int
abbrev Pages:=Int->Option Pg
abbrev Mm.f(M:Mm):Pages:=fun n=>pgA n M.pages
def At(f:Pages)(r:Rf)(t k v:Int)(pay:List Int):Prop:=∃ p,f r.p=some p/\p.r=r/\p.t=t/\p.k=k/\p.v=v/\p.pay=pay
def chB(piece:List Int)(next:Rf):List Int:=refB next++(be 2 piece.length++(piece++List.replicate (208 - piece.length) 0))
inductive ChainP (f:Pages) (t:Int):Rf->List (Rf×List Int)->Prop
 | nil:ChainP f t .z []
 | cons {r next:Rf} {piece:List Int} {cs:List (Rf×List Int)} (hz:r ≠ .z) (ho:r.ok) (hat:At f r t 3 0 (chB piece next)) (h1:1<=piece.length) (h2:piece.length<=208) (hf:cs≠[]->piece.length=208) (h8:B8 piece) (c:ChainP f t next cs):ChainP f t r ((r,piece)::cs)
abbrev chV(cs:List (Rf×List Int)):List Int:=(cs.map Prod.snd).flatten
def LeafE(f:Pages)(t:Int)(e:Ent)(x:KV)(ps:List Rf):Prop:=e.key=x.1/\(if e.n=0 then e.val=x.2/\ps=[] else e.n=x.2.length/\∃ cs,ChainP f t e.ch cs/\chV cs=x.2/\cs.map Prod.fst=ps)
inductive LeafL (f:Pages) (t:Int):List Ent->List KV->List Rf->Prop
 | nil:LeafL f t [] [] []
 | cons {e:Ent} {l:List Ent} {x:KV} {kvs:List KV} {p ps:List Rf} (h:LeafE f t e x p) (r:LeafL f t l kvs ps):LeafL f t (e::l) (x::kvs) (p++ps)
inductive KidsP (Q:Rf->List KV->List Rf->Prop):List Ent->List KV->List Rf->Prop
 | nil:KidsP Q [] [] []
 | cons {e:Ent} {l:List Ent} {kv kvs:List KV} {p ps:List Rf} (h:Q e.cd kv p) (lo:∀ x∈kv,¬ LtB x.1 e.key) (hi:∀ e' l',l=e'::l'->∀ x∈kv,LtB x.1 e'.key) (r:KidsP Q l kvs ps):KidsP Q (e::l) (kv++kvs) (p++ps)
structure NodeAt(f:Pages)(t k v:Int)(r:Rf)(l:List Ent):Prop where
 at_:At f r t k v (pad (wr k v l))
 right:RightP k v l
 short:(wr k v l).length<=224
 ok:∀ e∈l,(e.ch.ok/\e.cd.ok)/\B8 e.key/\B8 e.val
def SubT(f:Pages)(t:Int):Nat->Rf->List KV->List Rf->Prop
 | 0,r,kvs,ps=>∃ l ps',NodeAt f t 1 0 r l/\l≠[]/\LeafL f t l kvs ps'/\ps=r::ps'
 | lev+1,r,kvs,ps=>∃ l ps',NodeAt f t 2 ((lev+1:Nat):Int) r l/\2<=l.length/\KidsP (SubT f t lev) l kvs ps'/\ps=r::ps'
def Keep(f f':Pages)(ps:List Rf):Prop:=∀ r∈ps,∀ p,f r.p=some p->p.r=r->∃ p',f' r.p=some p'/\p'.r=p.r/\p'.t=p.t/\p'.k=p.k/\p'.v=p.v/\p'.pay=p.pay
theorem Keep.sub{f f':Pages}{ps qs:List Rf}(h:Keep f f' ps)(hs:∀ r∈qs,r∈ps):Keep f f' qs:=fun r hr=>h r (hs r hr)
theorem At.keep{f f':Pages}{ps:List Rf}{r:Rf}{t k v:Int}{pay:List Int}(h:At f r t k v pay)(hk:Keep f f' ps)(hr:r∈ps):At f' r t k v pay:=by
 obtain ⟨p,h1,h2,h3,h4,h5,h6⟩:=h
 obtain ⟨p',k1,k2,k3,k4,k5,k6⟩:=hk r hr p h1 h2
 exact ⟨p',k1,k2.trans h2,k3.trans h3,k4.trans h4,k5.trans h5,k6.trans h6⟩
theorem ChainP.keep{f f':Pages}{t:Int}{r:Rf}{cs:List (Rf×List Int)}(h:ChainP f t r cs):Keep f f' (cs.map Prod.fst)->ChainP f' t r cs:=by
 induction h with
 | nil=>intro _; exact .nil
 | cons hz ho hat h1 h2 hf h8 c ih=>intro hk; exact .cons hz ho (hat.keep hk List.mem_cons_self) h1 h2 hf h8 (ih (hk.sub fun _ h=>List.mem_cons_of_mem _ h))
theorem ChainP.ok{f:Pages}{t:Int}{r:Rf}{cs:List (Rf×List Int)}(h:ChainP f t r cs):r.ok:=by
 cases h with
 | nil=>decide
 | cons hz ho=>exact ho
theorem LeafL.keep{f f':Pages}{t:Int}{l:List Ent}{kvs:List KV}{ps:List Rf}(h:LeafL f t l kvs ps):Keep f f' ps->LeafL f' t l kvs ps:=by
 induction h with
 | nil=>intro _; exact .nil
 | cons h r ih =>
  intro hk
  refine .cons ⟨h.1,?_⟩ (ih (hk.sub fun _ h=>List.mem_append_right _ h))
  have h2:=h.2
  split at h2
  .rename_i h0; rw [if_pos h0]; exact h2
  .rename_i h0; rw [if_neg h0]
   obtain ⟨a,cs,b,c,d⟩:=h2
   exact ⟨a,cs,b.keep (by rw [d]; exact hk.sub fun _ h=>List.mem_append_left _ h),c,d⟩
theorem KidsP.keep{Q Q':Rf->List KV->List Rf->Prop}{R:List Rf->Prop}(hR:∀{a b},R (a++b)->R a/\R b)(hQ:∀{r kv p},Q r kv p->R p->Q' r kv p){l:List Ent}{kvs:List KV}{ps:List Rf}(h:KidsP Q l kvs ps):R ps->KidsP Q' l kvs ps:=by
 induction h with
 | nil=>intro _; exact .nil
 | cons h lo hi r ih=>intro hk; exact .cons (hQ h (hR hk).1) lo hi (ih (hR hk).2)
theorem NodeAt.keep{f f':Pages}{t k v:Int}{r:Rf}{l:List Ent}{ps:List Rf}(h:NodeAt f t k v r l)(hk:Keep f f' ps)(hr:r∈ps):NodeAt f' t k v r l:=⟨h.at_.keep hk hr,h.right,h.short,h.ok⟩
theorem SubT.keep{f f':Pages}{t:Int}:∀{lev:Nat}{r:Rf}{kvs:List KV}{ps:List Rf},SubT f t lev r kvs ps->Keep f f' ps->SubT f' t lev r kvs ps
 | 0,r,kvs,ps,⟨l,ps',h1,h2,h3,h4⟩,hk=>by
  subst h4
  exact ⟨l,ps',h1.keep hk List.mem_cons_self,h2,h3.keep (hk.sub fun _ h=>List.mem_cons_of_mem _ h),rfl⟩
 | lev+1,r,kvs,ps,⟨l,ps',h1,h2,h3,h4⟩,hk=>by
  subst h4
  refine ⟨l,ps',h1.keep hk List.mem_cons_self,h2,h3.keep (R:=fun p=>Keep f f' p) (fun h=>⟨h.sub fun _ h=>List.mem_append_left _ h,h.sub fun _ h=>List.mem_append_right _ h⟩) (fun h hk=>SubT.keep h hk) (hk.sub fun _ h=>List.mem_cons_of_mem _ h),rfl⟩
def TreeT(f:Pages)(t:Int)(r:Rf)(lev:Int)(kvs:List KV)(ps:List Rf):Prop:=r = .z/\lev=0/\kvs=[]/\ps=[]∨r ≠ .z/\0<=lev/\SubT f t lev.toNat r kvs ps
end Go.V
namespace Go.Proofs.YtcamoanigdfihaaGreat
open Go.V
section
variable {w:Wd}
theorem pieces_spec{n:Int}{K:Int->Int->Wd->Prop}(h0:0<=n)(h1:n<=1024)(k:K ((n+207) / 208) 0 w):C_chain_Pieces n w K:=by
 apply S_chain_Pieces
 refine If.dec (fun h=>by omega) fun _=>If.dec (fun h=>by omega) fun _=>Ar.i64 (by omega) (Ar.i64 (by omega) ⟨by decide,?_⟩)
 have e:Int.tdiv (n+208 - 1) 208=(n+207) / 208:=by rw [Int.tdiv_eq_ediv_of_nonneg (by omega)]; congr 1; omega
 rw [e]
 exact Ar.i64 (by omega) k
theorem chB_len{piece:List Int}{next:Rf}(h:piece.length<=208):(chB piece next).length=224:=by simp [chB,refB_len,be_len]; omega
theorem chB_b8{piece:List Int}{next:Rf}(h:B8 piece):B8 (chB piece next) :=
 (((be_b8 _ _).append (be_b8 _ _)).append (be_b8 _ _)).append ((be_b8 _ _).append (h.append fun x hx=>by rw [List.mem_replicate] at hx; omega))
set_option maxHeartbeats 1000000 in
theorem read_ok{s:Sl}{piece:List Int}{next:Rf}{K:Sl->Int->Int->Int->Int->Wd->Prop}(hs:RdB w.heap s (chB piece next))(h1:1<=piece.length)(h2:piece.length<=208)(hn:next.ok)
  (k:∀ t w',OwnB w'.heap w.heap.size t piece->Ext No w w'->K t next.p next.c next.g 0 w'):C_chain_Read s w K:=by
 apply S_chain_Read
 have hl:=RdB.len hs
 rw [chB_len h2] at hl
 obtain ⟨o1,o2,o3⟩:=hn
 refine NewW.mk fun b w1 n1=>If.bne (fun h=>by omega) fun _=>?_
 have hs1:RdB w1.heap s (chB piece next):=Rd.no hs n1.ext
 have hP:chB piece next=[]++(be 4 next.p++(be 8 next.c++(be 2 next.g++(be 2 piece.length++(piece++List.replicate (208 - piece.length) 0))))):=by simp [chB,refB]
 refine cutB hs1 hP rfl (by simp [be_len]) fun s1 r1=>get_spec r1 (be_b8 _ _) (by simp [be_len]) (by simp [be_len]) ?_
 have hP:chB piece next=be 4 next.p++(be 8 next.c++(be 2 next.g++(be 2 piece.length++(piece++List.replicate (208 - piece.length) 0)))):=by simp [chB,refB]
 refine cutB hs1 hP (by simp [be_len]) (by simp [be_len]) fun s2 r2=>get_spec r2 (be_b8 _ _) (by simp [be_len]) (by simp [be_len]) ?_
 have hP:chB piece next=(be 4 next.p++be 8 next.c)++(be 2 next.g++(be 2 piece.length++(piece++List.replicate (208 - piece.length) 0))):=by simp [chB,refB]
 refine cutB hs1 hP (by simp [be_len]) (by simp [be_len]) fun s3 r3=>get_spec r3 (be_b8 _ _) (by simp [be_len]) (by simp [be_len]) ?_
 have hP:chB piece next=(be 4 next.p++be 8 next.c++be 2 next.g)++(be 2 piece.length++(piece++List.replicate (208 - piece.length) 0)):=by simp [chB,refB]
 refine cutB hs1 hP (by simp [be_len]) (by simp [be_len]) fun s4 r4=>get_spec r4 (be_b8 _ _) (by simp [be_len]) (by simp [be_len]) ?_
 rw [num_be 4 o1.1 (by omega),num_be 8 o2.1 (by omega),num_be 2 o3.1 (by omega),num_be 2 (by omega) (by omega)]
 refine ⟨fun w'=>w'=w1,?_,?_⟩
 .refine If.dec (fun h=>by omega) fun _=>If.dec (fun h=>by omega) fun _=>Ar.u64 (by omega) ?_
  have hP:chB piece next=(be 4 next.p++be 8 next.c++be 2 next.g++be 2 piece.length++piece)++(List.replicate (208 - piece.length) 0++[]):=by simp [chB,refB]
  refine cutB hs1 hP (by simp [be_len]; omega) (by simp [be_len]; omega) fun s5 r5=>nought_spec r5 (fun x hx=>by rw [List.mem_replicate] at hx; omega) (by simp; omega) ?_
  rw [decide_eq_true fun x hx=>(List.mem_replicate.1 hx).2]
  exact If.no rfl
 rintro _ w11 rfl
 refine NewW.mk fun b1 w12 n12=>Ar.u64 (by omega) ?_
 have hP:chB piece next=(be 4 next.p++be 8 next.c++be 2 next.g++be 2 piece.length)++(piece++List.replicate (208 - piece.length) 0):=by simp [chB,refB]
 have hb:=n1.at_; have hb1:=n12.at_; have z1:=n1.size; have z12:=n12.size
 refine cutB (Rd.no hs1 n12.ext) hP (by simp [be_len]) (by simp [be_len]) fun s6 r6=>?_
 have o12:OwnB w12.heap w11.heap.size ⟨some ⟨b1,0,none⟩,0,0⟩ []:=OwnB.new (l:=[]) n12 rfl
 refine appQ (s:=⟨some ⟨b1,0,none⟩,0,0⟩) (Q:=fun i=>w11.heap.size<=i) (Ext.refl _ w12) (fun i hi=>by have:=Option.some.inj hi; simp only at this; omega) (fun i hi=>by omega) o12 (by omega) r6 (by simp; omega) fun s7 w13 o13 q13 x13=>Ar.u32 (by omega) (Ar.u16 (by omega) ?_)
 have g13:=get_ext (get_no n1.get n12.ext) x13 (by omega)
 refine st_all g13 rfl rfl (by simp [oneC]) fun w14 g14 x14 _=>⟨_,Cell.lst g14 rfl,_,Cell.lst g14 rfl,_,Cell.lst g14 rfl,k s7 w14 ?_ ?_⟩
 .exact Own.mono (o13.ext x14 fun q hq h=>by have:=(o13.lt hq).1; omega) (by omega)
 .exact ((n1.ext.no n12.ext).trans x13 fun q hq h=>by omega).trans x14 fun q hq h=>by omega
set_option maxHeartbeats 1000000 in
theorem page_spec{s:Sl}{piece:List Int}{next:Rf}{K:Sl->Int->Wd->Prop}(hs:RdB w.heap s piece)(h1:1<=piece.length)(h2:piece.length<=208)(hn:next.ok)
  (k:∀ t w',OwnB w'.heap w.heap.size t (chB piece next)->Ext No w w'->K t 0 w'):C_chain_Page s next.p next.c next.g w K:=by
 apply S_chain_Page
 have hl:=RdB.len hs
 obtain ⟨o1,o2,o3⟩:=hn
 refine NewW.mk fun b w1 n1=>⟨fun w'=>w'=w1,If.dec (fun h=>by omega) fun _=>If.dec (fun h=>by omega) fun _=>rfl,?_⟩
 rintro _ w2 rfl
 refine ⟨_,Cell.lst n1.get rfl,Ar.u64 (by omega) (put_spec o1.1 (by decide) (by decide) (by show next.p < 256 ^ 4; omega) fun s1 w3 p3 x3=>?_)⟩
 refine ⟨_,Cell.lst (get_no n1.get x3) rfl,put_spec o2.1 (by decide) (by decide) (by show next.c < 256 ^ 8; omega) fun s2 w4 p4 x4=>?_⟩
 refine ⟨_,Cell.lst (get_no n1.get (x3.no x4)) rfl,Ar.u64 (by omega) (put_spec o3.1 (by decide) (by decide) (by show next.g < 256 ^ 2; omega) fun s3 w5 p5 x5=>Ar.u64 (by omega) (put_spec (by omega) (by decide) (by decide) (by show (s.len:Int) < 256 ^ 2; omega) fun s4 w6 p6 x6=>Ar.i64 (by omega) ?_))⟩
 refine MkW.mk (by omega) (Int.le_refl _) (by omega) (by omega) fun b7 w7 n7=>NewW.mk fun b8 w8 n8=>?_
 have o7:=Own.make (l:=(208 - (s.len:Int)).toNat) n7 (Nat.le_refl _) (fun v hv=>by rw [List.mem_singleton] at hv; subst hv; rfl)
 have e7:(List.replicate (208 - (s.len:Int)).toNat [Value.int .u8 0]).flatten=(List.replicate (208 - piece.length) (0:Int)).map (Value.int .u8):=by
  rw [show (208 - (s.len:Int)).toNat=208 - piece.length by omega]; simp [List.flatten_replicate_singleton]
 rw [e7] at o7
 have x26:Ext No w2 w6:=(x3.no x4).no (x5.no x6)
 have x28:Ext No w2 w8:=(x26.no n7.ext).no n8.ext
 let ps:List (Sl×List Int):=[(s1,be 4 next.p),(s2,be 8 next.c),(s3,be 2 next.g),(s4,be 2 piece.length),(s,piece),(⟨some ⟨b7,0,none⟩,(208 - (s.len:Int)).toNat,(208 - (s.len:Int)).toNat⟩,List.replicate (208 - piece.length) 0)]
 have r8:Rd w8.heap ⟨some ⟨b8,0,none⟩,6,6⟩ 1 (ps.map fun p=>p.1.v):=(Own.new (n:=6) (sz:=1) n8 rfl (by simp [oneC])).rd
 refine concat_spec (ps:=ps) r8 (fun p hp=>?_) (by simp [ps,be_len]; omega) (by simp [ps]) fun t w9 o9 x9=>k t w9 ?_ ((n1.ext.no x28).no x9)
 .simp only [ps,List.mem_cons,List.not_mem_nil,or_false] at hp
  rcases hp with h | h | h | h | h | h <;> subst h
  .exact p3.rd.no (((x4.no (x5.no x6)).no n7.ext).no n8.ext)
  .exact p4.rd.no (((x5.no x6).no n7.ext).no n8.ext)
  .exact p5.rd.no ((x6.no n7.ext).no n8.ext)
  .have:=p6.rd.no (n7.ext.no n8.ext)
   rw [show ((2:Int)).toNat=2 from rfl,hl] at this; exact this
  .exact Rd.no hs (n1.ext.no x28)
  .exact o7.rd.no n8.ext
 .have e:chB piece next=(ps.map Prod.snd).flatten:=by simp [ps,chB,refB]
  rw [e]
  exact Own.mono o9 (n1.ext.no x28).size
end
section
variable {w:Wd} {T:Nat->Option Nat} {m:MemV} {M:Mm}
theorem memGet_at{t k v:Int}{r:Rf}{pay:List Int}{K:Sl->Int->Wd->Prop}(R:MemR w.heap T m M)(h:At M.f r t k v pay)(k0:∀ s w',OwnB w'.heap w.heap.size s pay->Ext No w w'->K s 0 w'):C_tree_Mem_Get (some ⟨m.bm,0,none⟩) t k v r.p r.c r.g w K:=by
 obtain ⟨p,h1,h2,h3,h4,h5,h6⟩:=h
 have h1':pgA r.p M.pages=some p:=h1
 refine memGet_spec R (fun q s w' hq _ _ _ _ o x=>?_) (fun w' hq _=>?_) (fun q w' hq hn _=>?_)
 .rw [h1'] at hq; cases hq; rw [h6] at o; exact k0 s w' o x
 .rw [h1'] at hq; cases hq
 .rw [h1'] at hq; cases hq; exact (hn ⟨h3,h4,h5,h2⟩).elim
set_option maxHeartbeats 1000000 in
theorem links_spec{t:Int}{r:Rf}{cs:List (Rf×List Int)}{see:Value}{J:Nat->Wd->(Nat->Prop)->Prop}{B:Nat->Prop}{K:Int->Wd->Prop}(R:MemR w.heap T m M)(c:ChainP M.f t r cs)(hl:cs.length<=5)
  (hJ:J 0 w B) (hB:∀ q,B q->T q=none/\q < w.heap.size)
  (mono:∀{j w1 w2 B S},J j w1 B->Ext S w1 w2->(∀ q,B q->¬ S q)->J j w2 B)
  (step:∀ j w1 B s base (hj:j < cs.length) (K':Wd->Prop),J j w1 B->OwnB w1.heap base s cs[j].2->(w.heap.size<=base/\base<=w1.heap.size)->(∀ q,B q->q < base)->(∀ w' B',J (j+1) w' B'->Ext B w1 w'->(∀ q,B' q->B q∨base<=q/\q < w'.heap.size)->K' w') ->
   dynV pz true see [.agg ([.int .u32 cs[j].1.p, .int .u64 cs[j].1.c, .int .u16 cs[j].1.g]).toArray, .slice s.a s.len s.cap] [] K' NoX w1)
  (k:∀ w' B',J cs.length w' B'->Ext B w w'->MemR w'.heap T m M->(∀ q,B' q->B q∨w.heap.size<=q/\q < w'.heap.size)->K 0 w'):C_tree_grove_links (srcV m) t r.p r.c r.g see w K:=by
 apply S_tree_grove_links
 refine NewW.mk fun b w1 n1=>NewW.mk fun b1 w2 n2=>?_
 have hb:=n1.at_; have hb1:=n2.at_; have z1:=n1.size; have z2:=n2.size
 have x2:Ext No w w2:=n1.ext.no n2.ext
 have sup:∀ q,w.heap.size<=q->T q=none:=fun q hq=>by
  cases h:T q with
  | none=>rfl
  | some t=>have:=R.sup q (by rw [h]; simp); omega
 refine ⟨fun q n w'=>∃ (j:Nat) (r':Rf) (B':Nat->Prop),n=j/\q=cs.length - j/\j<=cs.length/\ChainP M.f t r' (cs.drop j)/\J j w' B'/\MemR w'.heap T m M/\w'.heap[b]? = some (.cells [srcV m, .int .u32 t].toArray 163 (0,0))/\w'.heap[b1]? = some (.cells [.int .u32 r'.p, .int .u64 r'.c, .int .u16 r'.g].toArray 36 (0,0))/\Ext B w w'/\(∀ q,B' q->B q∨w2.heap.size<=q/\q < w'.heap.size),⟨cs.length,0,r,B,rfl,rfl,by omega,c,mono hJ x2 (fun _ _ h=>h),R.no x2,get_no n1.get n2.ext,n2.get,x2.of_no,fun _ h => .inl h⟩,?_⟩
 rintro _ m0 n w3 ⟨j,r',B',rfl,hm,hj,cj,Jj,R3,g3,g13,x3,hB'⟩
 refine ⟨_,Cell.lst g13 rfl,_,Cell.lst g13 rfl,_,Cell.lst g13 rfl,?_⟩
 have s3:=x3.size
 have s23:w2.heap.size<=w3.heap.size:=by have:=blt g13; omega
 have e0:((r'.p == 0) && ((r'.c == 0) && ((r'.g == 0) && true)))=decide (r' = .z):=refeq r' .z
 rw [e0]
 have nB:∀{q},w.heap.size<=q->q < w2.heap.size->¬ B' q:=fun h1 h2 h=>by
  rcases hB' _ h with h' | h'
  .have:=(hB _ h').2; omega
  .omega
 refine If.not (If.dec (fun hz=>?_) fun hz=>?_)
 .have:cs.drop j=[]:=by
   generalize hd:cs.drop j=d at cj
   cases cj with
   | nil=>rfl
   | cons hz'=>exact (hz' hz).elim
  have hjl:j=cs.length:=by have:=List.drop_eq_nil_iff.1 this; omega
  rw [hjl] at Jj
  refine k w3 B' Jj x3 R3 fun q hq=>?_
  rcases hB' q hq with h | h
  .exact .inl h
  .exact .inr ⟨by omega,h.2⟩
 .have hjl:j < cs.length:=by
   rcases Nat.lt_or_ge j cs.length with h | h
   .exact h
   .rw [List.drop_eq_nil_of_le h] at cj; cases cj; exact (hz rfl).elim
  refine If.dec (fun h=>by omega) fun _=>⟨_,Cell.lst g3 rfl,_,Cell.lst g3 rfl,_,Cell.lst g13 rfl,_,Cell.lst g13 rfl,_,Cell.lst g13 rfl,I_tree_Mem_Get ?_⟩
  rw [List.drop_eq_getElem_cons hjl] at cj
  generalize hcj:cs[j]=cp at *
  cases cj with
  | @cons _ next piece _ hz' ho hat h1 h2 hf h8 cn =>
  refine memGet_at R3 hat fun s4 w4 o4 x4=>If.bne (fun h=>(h rfl).elim) fun _=>read_ok o4.rd h1 h2 cn.ok fun s5 w5 o5 x5=>new_set rfl rfl (by simp [oneC]) fun b2 w7 g7 hb2 z7 x7=>If.bne (fun h=>(h rfl).elim) fun _=>?_
  have x37:Ext No w3 w7:=(x4.no x5).no x7
  have s37:=x37.size
  have g17:=get_no g13 x37
  refine ⟨_,Cell.lst g17 rfl,_,Cell.lst g17 rfl,_,Cell.lst g17 rfl,?_⟩
  have y4:=x4.size
  have y5:=x5.size
  have:=step j w7 B' s5 w4.heap.size hjl
  rw [hcj] at this
  refine this _ (mono Jj x37 fun _ _ h=>h) (o5.no x7) ⟨by omega,by have:=x7.size; omega⟩ (fun q hq=>?_) fun w8 B8 J8 x8 hB8=>?_
  .rcases hB' q hq with h | h
   .have:=(hB _ h).2; omega
   .omega
  have nb2:¬ B' b2:=fun h=>by
   rcases hB' b2 h with h' | h'
   .have:=(hB _ h').2; omega
   .omega
  have g8:=get_ext g7 x8 nb2
  have g18:=get_ext g17 x8 (nB (by omega) (by omega))
  have g08:=get_ext (get_no g3 x37) x8 (nB (by omega) (by omega))
  have s8:=x8.size
  have R8:MemR w8.heap T m M:=(R3.no x37).ext x8 fun q hq=>by
   rcases hB' q hq with h | h
   .exact (hB q h).1
   .exact sup q (by omega)
  have nB8:¬ B8 b1:=fun h=>by
   rcases hB8 b1 h with h' | h'
   .exact nB (by omega) (by omega) h'
   .omega
  refine ⟨_,Cell.lst g8 rfl,_,Cell.lst g8 rfl,_,Cell.lst g8 rfl,st_all g18 rfl rfl (by simp [oneC]) fun w9 g9 x9 z9=>Ar.i64 (by omega) ⟨cs.length - (j+1),by omega,j+1,next,B8,by omega,rfl,by omega,cn,mono J8 x9 (fun q hq h=>nB8 (h ▸ hq)),R8.ext x9 (fun q hq=>by rw [hq]; exact sup b1 (by omega)),get_ext g08 x9 (by omega),g9,?_,fun q hq=>?_⟩⟩
  .refine (((x3.no x37).trans x8 fun q hq h=>?_).trans x9 fun q hq h=>by omega)
   rcases hB' q h with h' | h'
   .exact h'
   .omega
  .rcases hB8 q hq with h | h
   .rcases hB' q h with h' | h'
    .exact .inl h'
    .exact .inr ⟨h'.1,by omega⟩
   .exact .inr ⟨by omega,by omega⟩
def GotP(bv:Nat)(base:Nat)(cs:List (Rf×List Int))(j:Nat)(w:Wd)(B:Nat->Prop):Prop :=
 ∃ (sl:Sl) (ps:List (Sl×List Int)),w.heap[bv]? = some (.cells [.slice sl.a sl.len sl.cap].toArray 29 (0,0))/\Own w.heap base 40 1 sl (ps.map fun p=>p.1.v)/\(bv < base/\base<=w.heap.size)/\(∀ p∈ps,RdB w.heap p.1 p.2)/\ps.map Prod.snd=(cs.take j).map Prod.snd /\
  (∀ q,B q ↔ q=bv∨sl.blk=some q∨∃ p∈ps,p.1.blk=some q)/\(∀ p∈ps,∀ q,p.1.blk=some q->base<=q/\q < w.heap.size/\sl.blk≠some q)
theorem GotP.mono{bv base:Nat}{cs:List (Rf×List Int)}{j:Nat}{w1 w2:Wd}{B S:Nat->Prop}(h:GotP bv base cs j w1 B)(x:Ext S w1 w2)(hS:∀ q,B q->¬ S q):GotP bv base cs j w2 B:=by
 obtain ⟨sl,ps,h1,h2,h3,h4,h5,h6,h7⟩:=h
 refine ⟨sl,ps,get_ext h1 x (hS _ ((h6 _).2 (.inl rfl))),h2.ext x (fun q hq=>hS _ ((h6 _).2 (.inr (.inl hq)))),⟨h3.1,Nat.le_trans h3.2 x.size⟩,fun p hp=>(h4 p hp).ext x fun a q ha hq=>hS _ ((h6 _).2 (.inr (.inr ⟨p,hp,by simp [Sl.blk,ha,hq]⟩))),h5,h6,fun p hp q hq=>⟨(h7 p hp q hq).1,Nat.lt_of_lt_of_le (h7 p hp q hq).2.1 x.size,(h7 p hp q hq).2.2⟩⟩
theorem GotP.step{bv base:Nat}{cs:List (Rf×List Int)}{j:Nat}{w1:Wd}{B:Nat->Prop}{s:Sl}{b0:Nat}{K':Wd->Prop}(hl:cs.length<=5)(hj:j < cs.length)(h:GotP bv base cs j w1 B)(o:OwnB w1.heap b0 s cs[j].2)(hb0:∀ q,B q->q < b0)(hbase:base<=b0)
  (k:∀ w' B',GotP bv base cs (j+1) w' B'->Ext B w1 w'->(∀ q,B' q->B q∨b0<=q/\q < w'.heap.size)->K' w') (hbw:b0<=w1.heap.size) :
  dynV pz true (.func (.func 136) #[] #[.pointer (some (A1 bv))]) [.agg ([.int .u32 cs[j].1.p, .int .u64 cs[j].1.c, .int .u16 cs[j].1.g]).toArray, .slice s.a s.len s.cap] [] K' NoX w1:=by
 obtain ⟨sl,ps,h1,h2,h3,h4,h5,h6,h7⟩:=h
 refine V_tree_grove_value_1 (c0:=A1 bv) (S_tree_grove_value_1 ?_)
 refine NewW.mk fun b w2 n2=>⟨_,Cell.lst (get_no h1 n2.ext) rfl,NewW.mk fun b1 w3 n3=>?_⟩
 have x3:=n2.ext.no n3.ext
 have z2:=n2.size; have z3:=n3.size; have hb1:=n3.at_
 have o3:=h2.no x3
 have e3:Own w3.heap w2.heap.size 40 1 ⟨some ⟨b1,0,none⟩,1,1⟩ [s.v]:=Own.new (n:=1) (sz:=1) n3 rfl (by simp [oneC,Sl.v])
 have hlen:ps.length=j:=by have:=congrArg List.length h5; simp only [List.length_map,List.length_take] at this; omega
 have hsl:sl.len=ps.length:=by have:=h2.len; simp at this; omega
 have slb:∀ q,sl.blk=some q->B q:=fun q hq=>(h6 q).2 (.inr (.inl hq))
 have hbv:B bv:=(h6 bv).2 (.inl rfl)
 have nbv:sl.blk≠some bv:=fun h=>by have:=(h2.lt h).1; omega
 refine app_sl_uint8 o3 (by omega) e3.rd.src (by simp only; omega) fun s' w4 o4 _ x4 hbl=>?_
 have y4:=x4.size
 have s'b:∀ q,s'.blk=some q->B q∨w1.heap.size<=q:=fun q hq=>by
  rcases hbl with h | ⟨c,h,hc⟩
  .exact .inl (slb q (h ▸ hq))
  .rw [h] at hq; cases hq; exact .inr (by omega)
 have g4:=get_ext (get_no h1 x3) x4 nbv
 have nbv':s'.blk≠some bv:=fun h=>by have:=(o4.lt h).1; omega
 refine St1.b1 g4 rfl fun w5 h5'=>?_
 have z5:=h5'.size
 have x15:Ext B w1 w5:=((x3.of_no).trans x4 fun q _ hq=>slb q hq).trans h5'.ext fun q _ hq=>by rw [hq]; exact hbv
 have sb:∀ q,s.blk=some q->b0<=q/\q < w1.heap.size:=fun q hq=>o.lt hq
 have nBs:∀ q,s.blk=some q->¬ B q:=fun q hq h=>by have:=hb0 q h; have:=sb q hq; omega
 refine k w5 (fun q=>q=bv∨s'.blk=some q∨∃ p∈ps++[(s,cs[j].2)],p.1.blk=some q) ⟨s',ps++[(s,cs[j].2)],h5'.get g4,?_,⟨h3.1,by have:=x15.size; omega⟩,fun p hp=>?_,?_,fun q=>Iff.rfl,fun p hp q hq=>?_⟩ x15 fun q hq=>?_
 .have:(ps++[(s,cs[j].2)]).map (fun p=>p.1.v)=ps.map (fun p=>p.1.v)++[s.v]:=by simp
  rw [this]
  exact o4.ext h5'.ext fun q hq h=>nbv' (h ▸ hq)
 .rcases List.mem_append.1 hp with h | h
  .refine ((h4 p h).no x3).ext x4 (fun a q ha hq e=>(h7 p h q (by simp [Sl.blk,ha,hq])).2.2 e) |>.ext h5'.ext fun a q ha hq e=>?_
   have:=(h7 p h q (by simp [Sl.blk,ha,hq])).1; omega
  .rw [List.mem_singleton] at h; subst h
   exact o.rd.ext x15 fun a q ha hq=>nBs q (by simp [Sl.blk,ha,hq])
 .rw [List.map_append,h5,List.take_add_one,List.getElem?_eq_getElem hj,List.map_append]; rfl
 .rcases List.mem_append.1 hp with h | h
  .obtain ⟨a1,a2,a3⟩:=h7 p h q hq
   refine ⟨a1,by omega,fun e=>?_⟩
   rcases hbl with h' | ⟨c,h',hc⟩
   .exact a3 (h' ▸ e)
   .rw [h'] at e; cases e; omega
  .rw [List.mem_singleton] at h; subst h
   have:=sb q hq
   refine ⟨by omega,by omega,fun e=>?_⟩
   rcases s'b q e with h' | h'
   .exact nBs q hq h'
   .omega
 .rcases hq with h | h | ⟨p,hp,h⟩
  .exact .inl (h ▸ hbv)
  .rcases s'b q h with h' | h'
   .exact .inl h'
   .exact .inr ⟨by omega,by have:=(o4.lt h).2; omega⟩
  .rcases List.mem_append.1 hp with h' | h'
   .exact .inl ((h6 q).2 (.inr (.inr ⟨p,h',h⟩)))
   .rw [List.mem_singleton] at h'; subst h'
    have:=sb q h
    exact .inr ⟨this.1,by have:=x15.size; omega⟩
theorem chain_sizes{f:Pages}{t:Int}{r:Rf}{cs:List (Rf×List Int)}(h:ChainP f t r cs):(∀ j (hj:j < cs.length),cs[j].2.length=min 208 ((chV cs).length - (chV (cs.take j)).length))/\(cs.length:Int)=((chV cs).length+207) / 208/\(∀ p∈cs,B8 p.2):=by
 induction h with
 | nil=>exact ⟨fun j hj=>by simp at hj,by simp,by simp⟩
 | @cons r next piece cs hz ho hat h1 h2 hf h8 c ih =>
  obtain ⟨i1,i2,i3⟩:=ih
  have e:(chV ((r,piece)::cs)).length=piece.length+(chV cs).length:=by simp [chV]
  refine ⟨fun j hj=>?_,?_,fun p hp=>?_⟩
  .cases j with
   | zero =>
    simp only [List.getElem_cons_zero,List.take_zero]
    rw [e]
    rcases Classical.em (cs=[]) with h | h
    .subst h; simp [chV]; omega
    .have:=hf h; simp [chV]; omega
   | succ j =>
    simp only [List.length_cons] at hj
    have hne:cs≠[]:=by intro h; subst h; simp at hj
    have hp:=hf hne
    simp only [List.getElem_cons_succ,List.take_succ_cons]
    have e2:(chV ((r,piece)::cs.take j)).length=piece.length+(chV (cs.take j)).length:=by simp [chV]
    rw [i1 j (by omega),e,e2]
    congr 1; omega
  .rw [e]
   rcases Classical.em (cs=[]) with h | h
   .subst h; simp [chV]; omega
   .have hp:=hf h
    simp only [List.length_cons]
    omega
  .rcases List.mem_cons.1 hp with h | h
   .subst h; exact h8
   .exact i3 p h
theorem join_spec{sl:Sl}{ps:List (Sl×List Int)}{v:List Int}{K:Sl->Int->Wd->Prop}(hs:Rd w.heap sl 1 (ps.map fun p=>p.1.v))(hp:∀ p∈ps,RdB w.heap p.1 p.2)(hv:(ps.map Prod.snd).flatten=v)(hn:(ps.length:Int)=(v.length+207) / 208)(hl:v.length<=1024)
  (hz:∀ j (hj:j < ps.length),ps[j].2.length=min 208 (v.length - ((ps.take j).map Prod.snd).flatten.length)) (k:∀ s w',OwnB w'.heap w.heap.size s v->Ext No w w'->K s 0 w'):C_chain_Join sl v.length w K:=by
 apply S_chain_Join
 have hlen:sl.len=ps.length:=by have:=hs.len; simp at this; exact this.symm
 have hsnoc:∀ j (h:j < ps.length),((ps.take (j+1)).map Prod.snd).flatten=((ps.take j).map Prod.snd).flatten++ps[j].2:=fun j h=>by
  rw [List.take_add_one,List.getElem?_eq_getElem h]; simp only [Option.toList_some,List.map_append,List.map_cons,List.map_nil,List.flatten_append,List.flatten_cons,List.flatten_nil,List.append_nil]
 have hle:∀ j,((ps.take j).map Prod.snd).flatten.length<=v.length:=fun j=>by
  have e:v=((ps.take j).map Prod.snd).flatten++((ps.drop j).map Prod.snd).flatten:=by
   rw [<- List.flatten_append,<- List.map_append,List.take_append_drop,hv]
  rw [e,List.length_append]; omega
 refine pieces_spec (by omega) (by omega) (If.bne (fun h=>(h rfl).elim) fun _=>If.bne (fun h=>by omega) fun _=>?_)
 refine ⟨fun q s t w'=>∃ j:Nat,t=j/\j<=ps.length/\q=ps.length - j/\OwnB w'.heap w.heap.size s ((ps.take j).map Prod.snd).flatten/\Ext No w w',⟨ps.length,0,rfl,by omega,by omega,Own.nil _ _ _ _,Ext.refl _ _⟩,?_⟩
 rintro _ m0 s t w2 ⟨j,rfl,hj,hm,o2,x2⟩
 refine If.dec (fun h=>Ix.cell (hs.no x2) (by omega) (by omega) fun bb o vv _ hv' hc=>?_) fun h=>?_
 .have hj':j < ps.length:=by omega
  rw [Int.toNat_natCast,List.getElem?_map,List.getElem?_eq_getElem hj'] at hv'
  simp only [Option.map_some,Option.some.injEq] at hv'
  subst hv'
  have hr:=hp _ (List.getElem_mem hj')
  have l1:=RdB.len hr
  have l2:=OwnB.len o2
  have l3:=hz j hj'
  have l4:=hle j
  have l5:=hle (j+1)
  rw [hsnoc j hj',List.length_append] at l5
  refine ⟨_,hc,Ar.i64 (by omega) (Nm.mk (If.bne (fun h=>?_) fun _=>?_))⟩
  .exfalso
   apply h
   rw [l1,l3,l2]
   unfold iMin
   split <;> omega
  .refine app_uint8 o2 x2.size (Rd.no hr x2).src (by omega) fun s' w' o' _ x' _=>Ar.i64 (by omega) ⟨ps.length - (j+1),by omega,j+1,by omega,by omega,rfl,?_,x2.trans x' fun q hq hh=>?_⟩
   .rw [<- List.map_append,<- hsnoc j hj'] at o'; exact o'
   .have:=(o2.lt hh).1; omega
 .have e:j=ps.length:=by omega
  rw [e,List.take_length,hv] at o2
  exact k _ _ o2 x2
end
section
variable {w:Wd} {T:Nat->Option Nat} {m:MemV} {M:Mm}
theorem z_iff(r:Rf):((r.p == 0) && ((r.c == 0) && ((r.g == 0) && true)))=decide (r = .z):=refeq r .z
set_option maxHeartbeats 1000000 in
theorem value_spec{t i:Int}{x:EntV}{e:Ent}{kv:KV}{ps:List Rf}{K:Sl->Int->Wd->Prop}(R:MemR w.heap T m M)(er:EntR w.heap x e)(hp:entP 1 i e)(hl:LeafE M.f t e kv ps)(k:∀ s w',OwnB w'.heap w.heap.size s kv.2->Ext No w w'->K s 0 w') :
  C_tree_grove_value (srcV m) t x.k x.v x.n x.ch.p x.ch.c x.ch.g x.cd.p x.cd.c x.cd.g w K:=by
 have hp2:=hp.2
 rw [if_neg (by decide)] at hp2
 obtain ⟨hcd,hp2⟩:=hp2
 have hl2:=hl.2
 rcases Classical.em (e.n=0) with h0 | h0
 .rw [if_pos h0] at hp2 hl2
  refine value_inline er hp2.1 (by omega) fun s w' o x=>k s w' (by rw [<- hl2.1]; exact o) x
 .rw [if_neg h0] at hp2 hl2
  obtain ⟨hn,cs,hc,hcv,hps⟩:=hl2
  apply S_tree_grove_value
  refine NewW.mk fun b w1 n1=>NewW.mk fun b1 w2 n2=>?_
  have x2:=n1.ext.no n2.ext
  have g2:w2.heap[b1]? = some (.cells x.cs.toArray 133 (0,0)):=n2.get
  have g02:=get_no n1.get n2.ext
  have z1:=n1.size; have z2:=n2.size; have hb:=n1.at_; have hb1:=n2.at_
  obtain ⟨c1,c2,c3⟩:=chain_sizes hc
  have hlen:cs.length<=5:=by rw [hcv] at c2; omega
  refine ⟨_,Cell.lst g2 rfl,_,Cell.lst g2 rfl,_,Cell.lst g2 rfl,?_⟩
  rw [z_iff,er.ch]
  refine If.dec (fun h=>(hp2.2.2.1 h).elim) fun _=>NewW.mk fun b2 w4 n4=>?_
  have x4:=x2.no n4.ext
  have g4:=get_no g2 n4.ext
  have g04:=get_no g02 n4.ext
  have z4:=n4.size; have hb2:=n4.at_
  have R4:=R.no x4
  refine ⟨_,Cell.lst g04 rfl,_,Cell.lst g04 rfl,_,Cell.lst g4 rfl,_,Cell.lst g4 rfl,_,Cell.lst g4 rfl,?_⟩
  rw [er.ch]
  refine links_spec (J:=GotP b2 w4.heap.size cs) (B:=fun q=>q=b2) R4 hc hlen ⟨⟨none,0,0⟩,[],n4.get,Own.nil _ _ _ _,⟨by omega,Nat.le_refl _⟩,by simp,by simp,fun q=>by simp [Sl.blk],by simp⟩ (fun q hq=>⟨?_,by omega⟩) (fun h x hS=>h.mono x hS) (fun j w5 B' s base hj K' hJ o hb hB kk=>GotP.step hlen hj hJ o hB hb.1 kk hb.2) fun w5 B5 J5 x5 R5 hB5=>If.bne (fun h=>(h rfl).elim) fun _=>?_
  .cases h:T q with
   | none=>rfl
   | some t=>have:=R.sup q (by rw [h]; simp); omega
  obtain ⟨sl,qs,q1,q2,q3,q4,q5,q6,q7⟩:=J5
  rw [List.take_length] at q5
  have g5:=get_ext g4 x5 (by omega)
  refine ⟨_,Cell.lst q1 rfl,_,Cell.lst g5 rfl,?_⟩
  rw [er.n,hn]
  have x05:Ext No w w5:=x4.trans x5 fun q hq h=>by omega
  have ql:qs.length=cs.length:=by have:=congrArg List.length q5; simpa using this
  have qj:∀ j (hj:j < qs.length) (hj':j < cs.length),qs[j].2=cs[j].2:=fun j hj hj'=>by
   have:=congrArg (fun l=>l[j]?) q5
   simp only [List.getElem?_map,List.getElem?_eq_getElem hj,List.getElem?_eq_getElem hj',Option.map_some,Option.some.injEq] at this
   exact this
  refine join_spec q2.rd q4 (by rw [q5]; exact hcv) (by rw [ql,c2,hcv]) (by omega) (fun j hj=>?_) fun s w6 o6 x6=>k s w6 (Own.mono o6 x05.size) (x05.no x6)
  have:=c1 j (by omega)
  rw [hcv] at this
  rw [qj j hj (by omega),this,List.map_take,q5,<- List.map_take]
end
end Go.Proofs.YtcamoanigdfihaaGreat
namespace Go.V
def kvGet(kvs:List KV)(key:List Int):Option (List Int):=(kvs.find? fun x=>decide (x.1=key)).map Prod.snd
theorem kvGet_append(a b:List KV)(key:List Int):kvGet (a++b) key=(kvGet a key).or (kvGet b key):=by
 unfold kvGet; rw [List.find?_append]; cases List.find? _ a <;> rfl
theorem kvGet_none{a:List KV}{key:List Int}(h:∀ x∈a,x.1≠key):kvGet a key=none:=by
 unfold kvGet; rw [List.find?_eq_none.2 fun x hx=>by simpa using h x hx]; rfl
def Rise(l:List Ent):Prop:=∀ i (h:i+1 < l.length),LtB l[i].key l[i+1].key
theorem Rise.tail{e:Ent}{l:List Ent}(h:Rise (e::l)):Rise l:=fun i hi=>h (i+1) (by simp; omega)
theorem Rise.lt{l:List Ent}(h:Rise l):∀{i j:Nat}(hij:i < j)(hj:j < l.length),LtB (l[i]'(by omega)).key l[j].key:=by
 intro i j hij
 induction j with
 | zero=>omega
 | succ j ih =>
  intro hj
  rcases Nat.lt_or_ge i j with h' | h'
  .exact (ih h' (by omega)).trans (h j hj)
  .have:i=j:=by omega
   subst this; exact h i hj
theorem kids_lo{Q:Rf->List KV->List Rf->Prop}{l:List Ent}{kvs:List KV}{ps:List Rf}(h:KidsP Q l kvs ps):Rise l->∀ e l',l=e::l'->∀ x∈kvs,¬ LtB x.1 e.key:=by
 induction h with
 | nil=>intro _ e l' h; cases h
 | @cons e l kv kvs p ps h lo hi r ih =>
  intro hr e' l' he x hx
  cases he
  rcases List.mem_append.1 hx with h' | h'
  .exact lo x h'
  .cases l with
   | nil=>cases r; cases h'
   | cons e2 l2 =>
    intro hlt
    have h1:=ih hr.tail e2 l2 rfl x h'
    have h2:LtB e.key e2.key:=hr 0 (by simp)
    exact h1 (hlt.trans h2)
structure ChildP(l:List Ent)(key:List Int)(i:Nat):Prop where
 lt:i < l.length
 le:∀ j (h:j < l.length),j<=i->¬ LtB key l[j].key
 gt:∀ j (h:j < l.length),i < j->LtB key l[j].key
theorem kids_get{Q:Rf->List KV->List Rf->Prop}{key:List Int}{l:List Ent}{kvs:List KV}{ps:List Rf}(h:KidsP Q l kvs ps):∀{i:Nat},Rise l->(c:ChildP l key i)->∃ kv p,Q (l[i]'c.lt).cd kv p/\kvGet kvs key=kvGet kv key/\(∀ r∈p,r∈ps)/\∀ x∈kv,x∈kvs:=by
 induction h with
 | nil=>intro i _ c; exact absurd c.lt (by simp)
 | @cons e l kv kvs p ps h lo hi r ih =>
  intro i hr c
  cases i with
  | zero =>
   refine ⟨kv,p,h,?_,fun r hr=>List.mem_append_left _ hr,fun x hx=>List.mem_append_left _ hx⟩
   rw [kvGet_append]
   have:kvGet kvs key=none:=kvGet_none fun x hx e'=>by
    cases l with
    | nil=>cases r; cases hx
    | cons e2 l2 =>
     have h1:=kids_lo r hr.tail e2 l2 rfl x hx
     have h2:=c.gt 1 (by simp) (by omega)
     exact h1 (by rw [e']; exact h2)
   rw [this,Option.or_none]
  | succ i =>
   have ci:ChildP l key i:=⟨by have:=c.lt; simp at this; omega,fun j hj hji=>c.le (j+1) (by simp; omega) (by omega),fun j hj hij=>c.gt (j+1) (by simp; omega) (by omega)⟩
   obtain ⟨kv',p',h1,h2,h3,h4⟩:=ih hr.tail ci
   refine ⟨kv',p',h1,?_,fun r hr=>List.mem_append_right _ (h3 r hr),fun x hx=>List.mem_append_right _ (h4 x hx)⟩
   rw [kvGet_append]
   have:kvGet kv key=none:=kvGet_none fun x hx e'=>by
    cases l with
    | nil=>exact absurd ci.lt (by simp)
    | cons e2 l2 =>
     have h5:=hi e2 l2 rfl x hx
     rw [e'] at h5
     exact c.le 1 (by simp) (by omega) h5
   rw [this,Option.none_or,h2]
theorem leaf_get{f:Pages}{t:Int}{l:List Ent}{kvs:List KV}{ps:List Rf}(h:LeafL f t l kvs ps):kvs.length=l.length/\(∀ i (h1:i < l.length) (h2:i < kvs.length),∃ p,LeafE f t l[i] kvs[i] p/\∀ r∈p,r∈ps):=by
 induction h with
 | nil=>exact ⟨rfl,fun i h=>by simp at h⟩
 | @cons e l x kvs p ps h r ih =>
  refine ⟨by simp [ih.1],fun i h1 h2=>?_⟩
  cases i with
  | zero=>exact ⟨p,h,fun r hr=>List.mem_append_left _ hr⟩
  | succ i =>
   obtain ⟨p',a,b⟩:=ih.2 i (by simpa using h1) (by simpa using h2)
   exact ⟨p',a,fun r hr=>List.mem_append_right _ (b r hr)⟩
end Go.V
namespace Go.Proofs.YtcamoanigdfihaaGreat
open Go.V
section
variable {w:Wd} {T:Nat->Option Nat} {m:MemV} {M:Mm}
theorem child_spec{kind lev:Int}{s ks:Sl}{L:List (EntV×Ent)}{key:List Int}{K:Int->Wd->Prop}(nd:NdR w.heap s L)(hk:RdB w.heap ks key)(k8:B8 key)(hl:L.length<=65536)(hr:Rise (ents L))(h0:∃ e l,ents L=e::l/\e.key=[])
  (k:∀(i:Nat) w',ChildP (ents L) key i->Ext No w w'->K i w'):C_graft_Child kind lev s ks w K:=by
 apply S_graft_Child
 refine NewW.mk fun b w1 n1=>⟨_,Cell.lst n1.get rfl,?_⟩
 have nl:=nd.len
 obtain ⟨e0,l0,he0,hk0⟩:=h0
 have hne:0 < L.length:=by have:=congrArg List.length he0; simp at this; omega
 have hz:L[0].2.key=[]:=by
  have:=congrArg (fun l=>l[0]?) he0
  simp only [List.getElem?_map,List.getElem?_eq_getElem hne,Option.map_some,List.getElem?_cons_zero,Option.some.injEq] at this
  rw [this]; exact hk0
 refine ⟨fun q t w'=>∃ i:Nat,t=i/\i<=L.length/\q=L.length - i/\Ext No w1 w'/\∀ j (h:j < L.length),j < i->¬ LtB key L[j].2.key,⟨L.length,0,rfl,by omega,by omega,Ext.refl _ _,fun j h h'=>by omega⟩,?_⟩
 rintro _ m0 t w2 ⟨i,rfl,hi,hm,x2,hlt⟩
 have x02:=n1.ext.no x2
 refine If.dec (fun h=>?_) fun h=>?_
 .refine ent_copy (nd.rd.no x02) (by omega) h fun b1 w4 hi' g4 _ _ x4=>?_
  simp only [Int.toNat_natCast] at hi' g4
  have x04:=x02.no x4
  have er:=(nd.no x04).get hi'
  refine ⟨_,Cell.lst g4 rfl,compare_spec er.k (Rd.no hk x04) er.k8 k8 (If.dec (fun hc=>?_) fun hc=>Ar.i64 (by omega) ⟨L.length - (i+1),by omega,i+1,by omega,by omega,rfl,x2.no x4,fun j hj hji=>?_⟩)⟩
  .have hc':=cmpB_gt.1 hc
   have hi0:0 < i:=by
    rcases Nat.eq_zero_or_pos i with h | h
    .subst h; rw [hz] at hc'; cases key <;> cases hc'
    .exact h
   refine Ar.i64 (by omega) ?_
   have e:((i:Int) - 1)=((i - 1:Nat):Int):=by omega
   rw [e]
   refine k (i - 1) w4 ⟨by simp; omega,fun j hj hji=>?_,fun j hj hji=>?_⟩ x04
   .simp only [List.getElem_map]; exact hlt j (by simpa using hj) (by omega)
   .simp only [List.length_map] at hj
    rcases Nat.lt_or_ge i j with h' | h'
    .exact hc'.trans (by have:=hr.lt h' (by simpa using hj); simpa using this)
    .have:j=i:=by omega
     subst this; simpa using hc'
  .rcases Nat.lt_or_ge j i with h3 | h3
   .exact hlt j hj h3
   .have:j=i:=by omega
    subst this; exact fun hh=>hc (cmpB_gt.2 hh)
 .have e:i=L.length:=by omega
  refine ⟨_,Cell.lst (get_no n1.get x2) rfl,Ar.i64 (by omega) ?_⟩
  have e2:((s.len:Int) - 1)=((i - 1:Nat):Int):=by omega
  rw [e2]
  refine k (i - 1) w2 ⟨by simp; omega,fun j hj hji=>?_,fun j hj hji=>?_⟩ x02
  .simp only [List.getElem_map]; exact hlt j (by simpa using hj) (by omega)
  .simp at hj; omega
end
section
variable {w:Wd} {T:Nat->Option Nat} {m:MemV} {M:Mm}
theorem node_at{t lev:Int}{r:Rf}{l:List Ent}{K:Int->Int->Sl->Int->Wd->Prop}(R:MemR w.heap T m M)(h:NodeAt M.f t (kindOf lev) lev r l)(hne:l≠[])(k:∀ s L w',NdO w'.heap w.heap.size s L->ents L=l->Ext No w w'->K (kindOf lev) lev s 0 w'):C_tree_grove_node (srcV m) t r.p r.c r.g lev w K:=by
 obtain ⟨p,h1,h2,h3,h4,h5,h6⟩:=h.at_
 have h1':pgA r.p M.pages=some p:=h1
 have np:NodeP p l:=⟨by rw [h4,h5]; exact h.right,by rw [h4,h5]; exact h.short,fun e he=>(h.ok e he).1,by rw [h4,h5]; exact h6⟩
 refine node_spec (l:=l) R (fun q s L w' hq _ _ _ _ _ o eL x=>k s L w' o eL x) (fun q hq _ _ _ _=>?_) (fun w' hq _=>?_) (fun q w' hq hn _=>?_) (fun q w' hq _ _ _ _ hb _=>?_)
 .rw [h1'] at hq; cases hq; exact .inl np
 .rw [h1'] at hq; cases hq
 .rw [h1'] at hq; cases hq; exact (hn ⟨h3,h4,h5,h2⟩).elim
 .rcases hb with ⟨hb,_⟩ | ⟨x,q',hb,hx1,hx2⟩
  .exact (hne hb).elim
  .rw [h1'] at hq; cases hq
   rw [h6] at hb
   have hs:=h.right.shape
   unfold shapeP at hs
   simp only [pad,wr,List.cons_append,List.cons.injEq] at hb
   omega
theorem at_lo{f:Rf}{t k v:Int}{pay:List Int}(R:MemR w.heap T m M)(h:At M.f f t k v pay):2<=f.p/\f.ok:=by
 obtain ⟨p,h1,h2,h3,h4,h5,h6⟩:=h
 have:=R.find h1
 refine ⟨R.lo _ (pgA_mem h1),?_⟩
 rw [<- h2]; exact this.ok
theorem SubT.at_{f:Pages}{t:Int}:∀{lev:Nat}{r:Rf}{kvs:List KV}{ps:List Rf},SubT f t lev r kvs ps->∃ k v pay,At f r t k v pay
 | 0,_,_,_,⟨_,_,h,_⟩=>⟨_,_,_,h.at_⟩
 | _+1,_,_,_,⟨_,_,h,_⟩=>⟨_,_,_,h.at_⟩
theorem ents_len{L:List (EntV×Ent)}{l:List Ent}(h:ents L=l):L.length=l.length:=by rw [<- h]; simp
set_option maxHeartbeats 2000000 in
theorem treeGet_spec{t lev:Int}{r:Rf}{ks:Sl}{key:List Int}{kvs:List KV}{ps:List Rf}{K:Sl->Int->Wd->Prop}(R:MemR w.heap T m M)(hT:TreeT M.f t r lev kvs ps)(hlev:lev<=30)(hk:RdB w.heap ks key)(k8:B8 key)
  (k2:∀ w',key.length=0∨32 < key.length->Ext No w w'->K ⟨none,0,0⟩ 2 w')
  (k7:∀ w',1<=key.length->key.length<=32->kvGet kvs key=none->Ext No w w'->K ⟨none,0,0⟩ 7 w')
  (k0:∀ v s w',1<=key.length->key.length<=32->kvGet kvs key=some v->OwnB w'.heap w.heap.size s v->Ext No w w'->K s 0 w'):C_tree_Get (srcV m) t r.p r.c r.g lev ks w K:=by
 apply S_tree_Get
 have hkl:=RdB.len hk
 refine NewW.mk fun b w1 n1=>⟨fun w'=>w'=w1/\1<=key.length/\key.length<=32,⟨trivial,If.no (If.beq (fun h=>k2 _ (.inl (by omega)) n1.ext) fun h=>If.dec (fun h'=>k2 _ (.inr (by omega)) n1.ext) fun h'=>⟨rfl,by omega,by omega⟩)⟩,?_⟩
 rintro _ w2 ⟨rfl,hk1,hk2⟩
 refine ⟨rfl,new_set rfl rfl (by simp [oneC]) fun b1 w4 g4 hb1 z4 x4=>?_⟩
 have hb:=n1.at_; have z1:=n1.size
 have x04:=n1.ext.no x4
 have gb4:=get_no n1.get x4
 refine ⟨fun q w'=>∃ (r':Rf) (lv:Int) (kv:List KV) (ps':List Rf),TreeT M.f t r' lv kv ps'/\lv<=30/\q=lv.toNat/\kvGet kv key=kvGet kvs key/\w'.heap[b]? = some (.cells [.int .u32 r'.p, .int .u64 r'.c, .int .u16 r'.g, .int .u8 lv].toArray 47 (0,0))/\w'.heap[b1]? = some (.cells [srcV m, .int .u32 t].toArray 163 (0,0))/\Ext No w w',⟨_,r,lev,kvs,ps,hT,hlev,rfl,rfl,gb4,g4,x04⟩,?_⟩
 rintro _ m0 w5 ⟨r',lv,kv,ps',hT',hlv,rfl,hg,gb,g1,x5⟩
 refine ⟨_,Cell.lst gb rfl,_,Cell.lst gb rfl,_,Cell.lst gb rfl,_,Cell.lst gb rfl,?_⟩
 rw [z_iff]
 have R5:=R.no x5
 rcases hT' with ⟨h1,h2,h3,_⟩ | ⟨h1,h2,hS⟩
 .rw [h1,h2]
  refine If.no (k7 _ hk1 hk2 (by rw [<- hg,h3]; rfl) x5)
 .rw [decide_eq_false h1]
  refine If.yes ⟨_,Cell.lst g1 rfl,_,Cell.lst g1 rfl,_,Cell.lst gb rfl,_,Cell.lst gb rfl,_,Cell.lst gb rfl,_,Cell.lst gb rfl,?_⟩
  have hnd:∃ l,NodeAt M.f t (kindOf lv) lv r' l/\l≠[]/\(lv=0->∃ ps',LeafL M.f t l kv ps')/\(lv≠0->∃ ps',KidsP (SubT M.f t (lv.toNat - 1)) l kv ps'):=by
   rcases Classical.em (lv=0) with h0 | h0
   .rw [h0] at hS ⊢
    obtain ⟨l,q,a1,a2,a3,_⟩:=hS
    exact ⟨l,a1,a2,fun _=>⟨q,a3⟩,fun h=>(h rfl).elim⟩
   .have e:lv.toNat=(lv.toNat - 1)+1:=by omega
    rw [e] at hS
    obtain ⟨l,q,a1,a2,a3,_⟩:=hS
    have e2:(((lv.toNat - 1+1:Nat)):Int)=lv:=by omega
    rw [e2] at a1
    refine ⟨l,by unfold kindOf; rw [if_neg h0]; exact a1,by intro h; rw [h] at a2; simp at a2,fun h=>(h0 h).elim,fun _=>⟨q,a3⟩⟩
  obtain ⟨l,hN,hne,hleaf,hkids⟩:=hnd
  have hcnt:=wr_count hN.short
  refine node_at R5 hN hne fun s6 L w6 o6 eL x6=>new_set rfl rfl (by simp [oneC]) fun b2 w8 g8 hb2 z8 x8=>If.bne (fun h=>(h rfl).elim) fun _=>?_
  have x58:=x6.no x8
  have x08:=x5.no x58
  have gb8:=get_no gb x58
  have g18:=get_no g1 x58
  have nd8:NdR w8.heap s6 L:=(o6.no x8).nd
  have hL:=ents_len eL
  refine ⟨_,Cell.lst gb8 rfl,If.dec (fun hpos=>?_) fun hpos=>?_⟩
  .-- down
   obtain ⟨q,hK⟩:=hkids (by omega)
   have hr:Rise l:=hN.right.ord
   have k2e:kindOf lv=2:=by unfold kindOf; rw [if_neg (by omega)]
   have h0:∃ e l',ents L=e::l'/\e.key=[]:=by
    cases l with
    | nil=>exact (hne rfl).elim
    | cons e l' =>
     refine ⟨e,l',eL,?_⟩
     have:=(hN.right.ent 0 (by simp)).1
     rw [k2e] at this
     unfold keyP at this
     rw [if_pos ⟨rfl,rfl⟩] at this
     exact List.eq_nil_of_length_eq_zero (by simpa using this)
   have hbne:¬ b2=b:=by have:=blt gb; have:=x6.size; omega
   have nS:∀{q:Nat},q≠b->¬ (fun i=>i=b) q:=fun h h'=>h h'
   refine ⟨Ext (·=b) w8,(Ext.refl _ _).drew,_,Held.but (Cell.lst g8 rfl) hbne,_,Held.but (Cell.lst g8 rfl) hbne,_,Held.but (Cell.lst g8 rfl) hbne,_,Held.but (Cell.lst g8 rfl) hbne,_,Held.but (Cell.lst g8 rfl) hbne,_,Held.but (Cell.lst g8 rfl) hbne,?_⟩
   refine child_spec (w:=drewW w8) nd8 (Rd.no hk x08.drew) k8 (by omega) (by rw [eL]; exact hr) h0 fun i w9 hc x9=>⟨(x9.drew_left).of_no,?_⟩
   have x9':Ext No w8 w9:=x9.drew_left
   have hci:ChildP l key i:=by rw [<- eL]; exact hc
   have hi:i < L.length:=by have:=hci.lt; omega
   refine below_spec (nd8.no x9') (by omega) (by simpa using hi) (by omega) fun w10 x10=>⟨(x9'.no x10).of_no,?_⟩
   have x8a:Ext No w8 w10:=x9'.no x10
   refine st_all (get_no gb8 x8a) rfl rfl (by simp [oneC]) fun w11 g11 x11 _=>⟨x8a.of_no.trans x11 fun _ _ h=>h,?_⟩
   obtain ⟨kv',p',hQ,hg',hp',_⟩:=kids_get hK hr hci
   have e1:L[((i:Nat):Int).toNat].2=l[i]'hci.lt:=by
    have:=congrArg (fun l=>l[i]?) eL
    simp only [List.getElem?_map,List.getElem?_eq_getElem hi,List.getElem?_eq_getElem hci.lt,Option.map_some,Option.some.injEq] at this
    simpa using this
   rw [e1] at g11
   obtain ⟨_,_,_,hat⟩:=SubT.at_ hQ
   have hlo:=(at_lo R hat).1
   refine ⟨(lv - 1).toNat,by omega,(l[i]'hci.lt).cd,lv - 1,kv',p', .inr ⟨fun h=>by rw [h] at hlo; exact absurd hlo (by decide),by omega,by rw [show (lv - 1).toNat=lv.toNat - 1 by omega]; exact hQ⟩,by omega,rfl,by rw [<- hg',hg],g11,get_ext (get_no g18 x8a) x11 (by omega),(x08.no x8a).trans x11 fun q hq h=>by omega⟩
  .-- a leaf
   have h0:lv=0:=by omega
   obtain ⟨q,hLf⟩:=hleaf h0
   refine ⟨_,Cell.lst g8 rfl,_,Cell.lst g8 rfl,_,Cell.lst g8 rfl,find_spec nd8 (Rd.no hk x08) k8 (by omega) fun i f w12 hf x12=>?_⟩
   obtain ⟨hll,hle⟩:=leaf_get hLf
   have hr:Rise l:=hN.right.ord
   rw [eL] at hf
   have keyeq:∀ j (h1:j < l.length) (h2:j < kv.length),l[j].key=kv[j].1:=fun j h1 h2=>by
    obtain ⟨p,a,_⟩:=hle j h1 h2; exact a.1
   refine If.not (If.cases (fun hfb=>?_) fun hfb=>?_)
   .subst hfb
    obtain ⟨hi,hkey⟩:=hf.eq.1 rfl
    have hi':i < L.length:=by omega
    have hi2:i < kv.length:=by omega
    have hv:kvGet kv key=some kv[i].2:=by
     unfold kvGet
     have:kv.find? (fun x=>decide (x.1=key))=some kv[i]:=by
      rw [List.find?_eq_some_iff_getElem]
      refine ⟨by simp [<- keyeq i hi hi2,hkey],i,hi2,rfl,fun j hj=>?_⟩
      have hlt:=hf.lt j (by omega) hj
      rw [keyeq j (by omega) (by omega)] at hlt
      simp only [Bool.not_eq_true',decide_eq_false_iff_not]
      intro e; rw [e] at hlt; exact hlt.irrefl
     rw [this]; rfl
    have x8d:=x12
    have nd12:=nd8.no x12
    obtain ⟨p,hE,_⟩:=hle i hi hi2
    have k1e:kindOf lv=1:=by rw [h0]; rfl
    refine ⟨Ext No w12,(Ext.refl _ _).drew,_,Held.cell (Cell.lst (get_no g18 x12) rfl),_,Held.cell (Cell.lst (get_no g18 x12) rfl),_,Held.cell (Cell.lst (get_no g8 x12) rfl),Ix.elem nd12.rd (entCs_len L) (by decide) (by omega) (by have:=nd12.len; omega) fun bb o hi3 _ hc=>?_⟩
    refine ⟨_,Held.cell (hc 0 _ rfl),_,Held.cell (hc 1 _ rfl),_,Held.cell (hc 2 _ rfl),_,Held.cell (hc 3 _ rfl),_,Held.cell (hc 4 _ rfl),_,Held.cell (hc 5 _ rfl),_,Held.cell (hc 6 _ rfl),_,Held.cell (hc 7 _ rfl),_,Held.cell (hc 8 _ rfl),?_⟩
    simp only [Int.toNat_natCast] at hi3 ⊢
    have e1:L[i].2=l[i]:=by
     have:=congrArg (fun l=>l[i]?) eL
     simp only [List.getElem?_map,List.getElem?_eq_getElem hi3,List.getElem?_eq_getElem hi,Option.map_some,Option.some.injEq] at this
     exact this
    have er:=nd12.get hi3
    rw [e1] at er
    have hpe:=hN.right.ent i hi
    rw [k1e] at hpe
    refine value_spec (w:=drewW w12) (R.no (x08.no x12).drew) er hpe hE fun s w13 o13 x13=>⟨x13.drew_left,?_⟩
    have x012:=x08.no x12
    exact k0 _ s w13 hk1 hk2 (by rw [<- hg]; exact hv) (Own.mono o13 x012.size) (x012.no x13.drew_left)
   .refine k7 w12 hk1 hk2 ?_ (x08.no x12)
    rw [<- hg]
    refine kvGet_none fun x hx e=>?_
    obtain ⟨j,hj,rfl⟩:=List.getElem_of_mem hx
    have hj':j < l.length:=by omega
    have ek:=keyeq j hj' hj
    rw [e] at ek
    rcases Nat.lt_or_ge j i with h | h
    .have:=hf.lt j hj' h; rw [ek] at this; exact this.irrefl
    .rcases Nat.lt_or_ge i j with h' | h'
     .have h3:=hf.ge (by omega)
      have h4:=hr.lt h' hj'
      rw [ek] at h4
      exact h3 h4
     .have:j=i:=by omega
      subst this
      have:=hf.eq.2 ⟨hj',ek⟩
      rw [hfb] at this; cases this
end
end Go.Proofs.YtcamoanigdfihaaGreat
namespace Go.V
def live(l:List (Int×Pg)):List Rf:=(l.filter fun p=>!p.2.waits).map fun p=>p.2.r
structure Chg(M M':Mm)(k:Nat)(ds ns:List Rf):Prop where
 commit:M'.commit=M.commit
 gen:M'.gen=M.gen
 cnt:∀ q,(live M'.pages).count q+ds.count q=(live M.pages).count q+ns.count q
 kp:∀ n p,M.f n=some p->(p.r ∉ ds∨p.r.c≠M.commit)->∃ p',M'.f n=some p'/\p'.r=p.r/\p'.t=p.t/\p'.k=p.k/\p'.v=p.v/\p'.pay=p.pay
 len:M'.pages.length<=M.pages.length+k
theorem Chg.refl(M:Mm):Chg M M 0 [] []:=⟨rfl,rfl,fun _=>rfl,fun _ p h _=>⟨p,h,rfl,rfl,rfl,rfl,rfl⟩,Nat.le_refl _⟩
theorem Chg.trans{M0 M1 M2:Mm}{k1 k2:Nat}{d1 d2 n1 n2:List Rf}(a:Chg M0 M1 k1 d1 n1)(b:Chg M1 M2 k2 d2 n2):Chg M0 M2 (k1+k2) (d1++d2) (n1++n2):=by
 refine ⟨b.commit.trans a.commit,b.gen.trans a.gen,fun q=>?_,fun n p h hd=>?_,by have:=a.len; have:=b.len; omega⟩
 .have:=a.cnt q; have:=b.cnt q; simp only [List.count_append]; omega
 .simp only [List.mem_append,not_or] at hd
  obtain ⟨p1,h1,h2,h3,h4,h5,h6⟩:=a.kp n p h (hd.imp (fun h=>h.1) id)
  obtain ⟨p2,g1,g2,g3,g4,g5,g6⟩:=b.kp n p1 h1 (by rw [h2,a.commit]; exact hd.imp (fun h=>h.2) id)
  exact ⟨p2,g1,g2.trans h2,g3.trans h3,g4.trans h4,g5.trans h5,g6.trans h6⟩
theorem Chg.as{M M':Mm}{k k':Nat}{ds ns ds' ns':List Rf}(a:Chg M M' k ds ns)(hk:k<=k')(hm:∀ q∈ds,q∈ds')(hc:∀ q,ds'.count q+ns.count q=ds.count q+ns'.count q):Chg M M' k' ds' ns' :=
 ⟨a.commit,a.gen,fun q=>by have:=a.cnt q; have:=hc q; omega,fun n p h hd=>a.kp n p h (hd.imp (fun h h'=>h (hm _ h')) id),by have:=a.len; omega⟩
theorem Chg.keep{M M':Mm}{k:Nat}{ds ns ps:List Rf}(a:Chg M M' k ds ns)(h:∀ q∈ps,q ∉ ds∨q.c≠M.commit):Keep M.f M'.f ps:=fun r hr p hp he=>a.kp r.p p hp (by rw [he]; exact h r hr)
structure Sane(M:Mm):Prop where
 nd:(M.pages.map Prod.fst).Nodup
 rn:∀ p∈M.pages,p.2.r.p=p.1
theorem MemR.sane{h:Array Obj}{T:Nat->Option Nat}{m:MemV}{M:Mm}(R:MemR h T m M):Sane M:=⟨R.nd,fun p hp=>(R.pg p hp).rn⟩
theorem live_mem{l:List (Int×Pg)}{q:Rf}:q∈live l ↔ ∃ p∈l,p.2.waits=false/\p.2.r=q:=by
 unfold live
 simp only [List.mem_map,List.mem_filter,Bool.not_eq_true']
 constructor
 .rintro ⟨p,⟨h1,h2⟩,h3⟩; exact ⟨p,h1,h2,h3⟩
 .rintro ⟨p,h1,h2,h3⟩; exact ⟨p,⟨h1,h2⟩,h3⟩
theorem live_find{M:Mm}{q:Rf}(S:Sane M)(h:q∈live M.pages):∃ p,M.f q.p=some p/\p.r=q/\p.waits=false:=by
 obtain ⟨p,h1,h2,h3⟩:=live_mem.1 h
 refine ⟨p.2,?_,h3,h2⟩
 have:=S.rn p h1
 show pgA q.p M.pages=_
 rw [<- h3,this]
 exact pgA_of_mem S.nd h1
theorem live_nodup{M:Mm}(S:Sane M):(live M.pages).Nodup:=by
 have h:((live M.pages).map Rf.p).Nodup:=by
  have e:(live M.pages).map Rf.p=(M.pages.filter fun p=>!p.2.waits).map Prod.fst:=by
   unfold live; rw [List.map_map]
   exact List.map_congr_left fun p hp=>S.rn p (List.mem_filter.1 hp).1
  rw [e]
  exact S.nd.sublist (List.filter_sublist.map _)
 exact List.Pairwise.of_map Rf.p (fun a b h e=>h (by rw [e])) h
theorem live_append(a b:List (Int×Pg)):live (a++b)=live a++live b:=by simp [live]
theorem pgA_append{n:Int}{a b:List (Int×Pg)}:pgA n (a++b)=(pgA n a).or (pgA n b):=by
 induction a with
 | nil=>rfl
 | cons p a ih =>
  simp only [List.cons_append,pgA]
  split
  .rfl
  .exact ih
abbrev putM(M:Mm)(n t k v:Int)(pay:List Int):Mm:={ M with pages:=M.pages++[(n,⟨t,k,v,⟨n,M.commit,M.gen⟩,pay,false⟩)] }
theorem Chg.put{M:Mm}{n t k v:Int}{pay:List Int}:Chg M (putM M n t k v pay) 1 [] [⟨n,M.commit,M.gen⟩]:=by
 refine ⟨rfl,rfl,fun q=>?_,fun n' p h _=>⟨p,?_,rfl,rfl,rfl,rfl,rfl⟩,by simp⟩
 .show (live (M.pages++_)).count q+_=_
  rw [live_append,List.count_append]; rfl
 .have h':pgA n' M.pages=some p:=h
  show pgA n' (M.pages++_)=_
  rw [pgA_append,h']; rfl
theorem putM_at{M:Mm}{n t k v:Int}{pay:List Int}(h:Go.Proofs.YtcamoanigdfihaaGreat.IsFree M.pages n):At (putM M n t k v pay).f ⟨n,M.commit,M.gen⟩ t k v pay:=by
 refine ⟨⟨t,k,v,⟨n,M.commit,M.gen⟩,pay,false⟩,?_,rfl,rfl,rfl,rfl,rfl⟩
 show pgA n (M.pages++_)=_
 rw [pgA_append,h.no]; simp [pgA]
theorem waitP_of{n:Int}{l:List (Int×Pg)}(h:n ∉ l.map Prod.fst):waitP n l=l:=by
 unfold waitP
 conv=>rhs; rw [<- List.map_id l]
 refine List.map_congr_left fun p hp=>?_
 rw [if_neg (fun e=>h (List.mem_map.2 ⟨p,hp,e⟩))]; rfl
theorem pgA_wait{n n':Int}:∀{l:List (Int×Pg)},pgA n' (waitP n l)=(pgA n' l).map fun p=>if n'=n then { p with waits:=true } else p
 | []=>rfl
 | q::l=>by
  have ih:=pgA_wait (n:=n) (n':=n') (l:=l)
  simp only [waitP,List.map_cons,pgA] at ih ⊢
  by_cases h:q.1=n
  .rw [if_pos h]
   by_cases h2:n'=q.1
   .simp only [h2,if_true,Option.map_some,h]
   .simp only [if_neg h2]; exact ih
  .rw [if_neg h]
   by_cases h2:n'=q.1
   .simp only [h2,if_true,Option.map_some,if_neg h]
   .simp only [if_neg h2]; exact ih
theorem pgA_del{n n':Int}(h:n'≠n):∀{l:List (Int×Pg)},pgA n' (delP n l)=pgA n' l
 | []=>rfl
 | q::l=>by
  unfold delP
  split
  .rename_i h2
   rw [pgA,if_neg (by rw [<- h2]; exact h)]
  .simp only [pgA]
   split
   .rfl
   .exact pgA_del h
theorem live_cons(q:Int×Pg)(l:List (Int×Pg)):live (q::l)=if q.2.waits then live l else q.2.r::live l:=by
 unfold live
 cases h:q.2.waits <;> simp [h]
theorem live_del{n:Int}{r:Rf}:∀{l:List (Int×Pg)}{p:Pg},(l.map Prod.fst).Nodup->pgA n l=some p->p.waits=false->p.r=r->∀ q,(live (delP n l)).count q+[r].count q=(live l).count q
 | [],_,_,h,_,_,_=>by cases h
 | x::l,p,hnd,h,hw,hr,q=>by
  simp only [List.map_cons,List.nodup_cons] at hnd
  unfold pgA at h
  unfold delP
  split at h
  .rename_i h1
   cases h
   rw [if_pos h1,live_cons,hw,if_neg (by simp),hr]; simp only [List.count_cons,List.count_nil]; omega
  .rename_i h1
   rw [if_neg h1]
   have ih:=live_del hnd.2 h hw hr q
   rw [live_cons,live_cons]
   split
   .exact ih
   .simp only [List.count_cons,List.count_nil] at ih ⊢; omega
theorem live_wait{n:Int}{r:Rf}:∀{l:List (Int×Pg)}{p:Pg},(l.map Prod.fst).Nodup->pgA n l=some p->p.waits=false->p.r=r->∀ q,(live (waitP n l)).count q+[r].count q=(live l).count q
 | [],_,_,h,_,_,_=>by cases h
 | x::l,p,hnd,h,hw,hr,q=>by
  simp only [List.map_cons,List.nodup_cons] at hnd
  unfold pgA at h
  split at h
  .rename_i h1
   cases h
   have:waitP n (x::l)=(x.1,{ x.2 with waits:=true })::l:=by
    have:=waitP_of (n:=n) (l:=l) (by rw [h1]; exact hnd.1)
    unfold waitP at this ⊢
    rw [List.map_cons,this,if_pos h1.symm]
   rw [this,live_cons,live_cons,hw,if_pos rfl,if_neg (by simp),hr]; simp only [List.count_cons,List.count_nil]; omega
  .rename_i h1
   have ih:=live_wait hnd.2 h hw hr q
   have:waitP n (x::l)=x::waitP n l:=by
    unfold waitP; rw [List.map_cons,if_neg (fun e=>h1 e.symm)]
   rw [this,live_cons,live_cons]
   split
   .exact ih
   .simp only [List.count_cons,List.count_nil] at ih ⊢; omega
theorem Chg.drop{M:Mm}{r:Rf}(S:Sane M)(h:r∈live M.pages):(dropM M r).1=0/\Chg M (dropM M r).2 0 [r] []:=by
 obtain ⟨p,h1,h2,h3⟩:=live_find S h
 have h1':pgA r.p M.pages=some p:=h1
 have hlen:(delP r.p M.pages).length<=M.pages.length:=(delP_sub _ _).length_le
 unfold dropM
 rw [h1']
 simp only
 rw [if_neg (by rw [h3,h2]; simp)]
 split
 .rename_i hc
  refine ⟨rfl,rfl,rfl,fun q=>?_,fun n p' h hd=>?_,by simpa using hlen⟩
  .have:=live_del S.nd h1' h3 h2 q; simpa using this
  .have hn:n≠r.p:=fun e=>by
    have h':pgA n M.pages=some p':=h
    rw [e,h1'] at h'; cases h'
    rcases hd with hd | hd
    .exact hd (by rw [h2]; simp)
    .exact hd (by rw [h2]; exact hc)
   have h':pgA n M.pages=some p':=h
   exact ⟨p',by show pgA n (delP r.p M.pages)=_; rw [pgA_del hn]; exact h',rfl,rfl,rfl,rfl,rfl⟩
 .refine ⟨rfl,rfl,rfl,fun q=>?_,fun n p' h _=>?_,by simp [waitP]⟩
  .have:=live_wait S.nd h1' h3 h2 q; simpa using this
  .have h':pgA n M.pages=some p':=h
   refine ⟨if n=r.p then { p' with waits:=true } else p',by show pgA n (waitP r.p M.pages)=_; rw [pgA_wait,h']; rfl,?_⟩
   split <;> exact ⟨rfl,rfl,rfl,rfl,rfl⟩
def kvLo(k:List Int)(l:List KV):List KV:=l.filter fun x=>decide (LtB x.1 k)
def kvHi(k:List Int)(l:List KV):List KV:=l.filter fun x=>decide (LtB k x.1)
def kvOp(k:List Int)(o:Option (List Int))(l:List KV):List KV:=kvLo k l++((o.map fun v=>(k,v)).toList++kvHi k l)
theorem kvOp_mid{k:List Int}{o:Option (List Int)}{a b c:List KV}(ha:∀ x∈a,LtB x.1 k)(hc:∀ x∈c,LtB k x.1):kvOp k o (a++(b++c))=a++(kvOp k o b++c):=by
 have lo:∀{l:List KV},(∀ x∈l,LtB x.1 k)->kvLo k l=l/\kvHi k l=[]:=fun {l} h =>
  ⟨List.filter_eq_self.2 fun x hx=>decide_eq_true (h x hx),List.filter_eq_nil_iff.2 fun x hx h2=>((h x hx).trans (of_decide_eq_true h2)).irrefl⟩
 have hi:∀{l:List KV},(∀ x∈l,LtB k x.1)->kvHi k l=l/\kvLo k l=[]:=fun {l} h =>
  ⟨List.filter_eq_self.2 fun x hx=>decide_eq_true (h x hx),List.filter_eq_nil_iff.2 fun x hx h2=>((h x hx).trans (of_decide_eq_true h2)).irrefl⟩
 unfold kvOp
 have e1:kvLo k (a++(b++c))=a++kvLo k b:=by
  have h1:kvLo k (a++(b++c))=kvLo k a++(kvLo k b++kvLo k c):=by simp [kvLo]
  rw [h1,(lo ha).1,(hi hc).2]; simp
 have e2:kvHi k (a++(b++c))=kvHi k b++c:=by
  have h1:kvHi k (a++(b++c))=kvHi k a++(kvHi k b++kvHi k c):=by simp [kvHi]
  rw [h1,(lo ha).2,(hi hc).1]; simp
 rw [e1,e2]; simp
structure NdQ(h:Array Obj)(B:Nat->Prop)(s:Sl)(L:List (EntV×Ent)):Prop where
 own:Own h 0 133 9 s (L.flatMap entCs)
 ent:∀ p∈L,EntR h p.1 p.2
 kb:∀ p∈L,∀ b,(p.1.k.blk=some b∨p.1.v.blk=some b)->B b/\b < h.size/\s.blk≠some b
 sb:∀ b,s.blk=some b->B b
theorem NdQ.nd{h:Array Obj}{B:Nat->Prop}{s:Sl}{L:List (EntV×Ent)}(o:NdQ h B s L):NdR h s L:=⟨o.own.rd,o.ent⟩
theorem NdO.q{h:Array Obj}{base:Nat}{B:Nat->Prop}{s:Sl}{L:List (EntV×Ent)}(o:NdO h base s L)(hB:∀ b,base<=b->b < h.size->B b):NdQ h B s L :=
 ⟨o.own.mono (Nat.zero_le _),o.ent,fun p hp b hb=>by
  rcases hb with hb | hb
  .have:=o.kb p hp b hb; exact ⟨hB b this.1 this.2.1,this.2⟩
  .have:=o.vb p hp b hb; exact ⟨hB b this.1 this.2.1,this.2⟩,fun b hb=>hB b (o.own.lt hb).1 (o.own.lt hb).2⟩
theorem Own.base{h:Array Obj}{b0 base:Nat}{e:TypeId}{sz:Nat}{s:Sl}{cs:List Value}(o:Own h b0 e sz s cs)(hb:∀ b,s.blk=some b->base<=b):Own h base e sz s cs:=by
 refine ⟨o.len,?_,o.cells⟩
 rcases o.is with h | ⟨b,rest,ha,_,r⟩
 .exact .inl h
 .exact .inr ⟨b,rest,ha,hb b (by simp [Sl.blk,ha]),r⟩
theorem NdQ.o{h:Array Obj}{base:Nat}{s:Sl}{L:List (EntV×Ent)}(o:NdQ h (fun b=>base<=b) s L):NdO h base s L :=
 ⟨o.own.base o.sb,o.ent,fun p hp b hb=>o.kb p hp b (.inl hb),fun p hp b hb=>o.kb p hp b (.inr hb)⟩
theorem NdQ.ext{S B:Nat->Prop}{w w':Wd}{s:Sl}{L:List (EntV×Ent)}(o:NdQ w.heap B s L)(x:Ext S w w')(hS:∀ b,B b->b < w.heap.size->¬ S b):NdQ w'.heap B s L :=
 ⟨o.own.ext x fun b hb=>hS b (o.sb b hb) (o.own.lt hb).2,fun p hp=>(o.ent p hp).ext x (fun b h=>hS b (o.kb p hp b (.inl h)).1 (o.kb p hp b (.inl h)).2.1) (fun b h=>hS b (o.kb p hp b (.inr h)).1 (o.kb p hp b (.inr h)).2.1),
  fun p hp b h=>⟨(o.kb p hp b h).1,Nat.lt_of_lt_of_le (o.kb p hp b h).2.1 x.size,(o.kb p hp b h).2.2⟩,o.sb⟩
theorem NdQ.no{B:Nat->Prop}{w w':Wd}{s:Sl}{L:List (EntV×Ent)}(o:NdQ w.heap B s L)(x:Ext No w w'):NdQ w'.heap B s L:=o.ext x fun _ _ _ h=>h
theorem NdQ.mono{h:Array Obj}{B B':Nat->Prop}{s:Sl}{L:List (EntV×Ent)}(o:NdQ h B s L)(hB:∀ b,b < h.size->B b->B' b):NdQ h B' s L :=
 ⟨o.own,o.ent,fun p hp b hb=>⟨hB b (o.kb p hp b hb).2.1 (o.kb p hp b hb).1,(o.kb p hp b hb).2⟩,fun b hb=>hB b (o.own.lt hb).2 (o.sb b hb)⟩
def setK(t:Sl)(key:List Int)(p:EntV×Ent):EntV×Ent:=({ p.1 with k:=t },{ p.2 with key:=key })
theorem NdQ.key{B:Nat->Prop}{w:Wd}{s t:Sl}{L:List (EntV×Ent)}{i:Int}{key:List Int}{K:Wd->Prop}(o:NdQ w.heap B s L)(h0:0<=i)(hi:i.toNat < L.length)(ht:Rd w.heap t 1 (key.map (Value.int .u8)))(h8:B8 key)(tb:∀ b,t.blk=some b->B b/\b < w.heap.size/\s.blk≠some b)
  (k:∀ w',NdQ w'.heap B s (L.set i.toNat (setK t key L[i.toNat]))->Ext (fun b=>s.blk=some b) w w'->w'.heap.size=w.heap.size->K w'):Ix s.a s.len i 9 fun a=>St1 w a (.slice t.a t.len t.cap) K:=by
 have hlen:=o.nd.len
 have hfl:=flat_len' (entCs_len L)
 have hne:L.flatMap entCs≠[]:=by intro e; rw [e] at hfl; simp at hfl; omega
 obtain ⟨b,rest,ha,_,hb,hc,hcap⟩:=o.own.place hne
 refine ⟨_,ha,h0,by omega,?_⟩
 rw [addr_add_none rfl]
 simp only [Nat.zero_add]
 have hle:i.toNat * 9+9<=(L.flatMap entCs).length:=by rw [hfl]; omega
 refine St1.mk hb (by simp only [List.length_append]; omega) rfl fun w' hw=>?_
 have hw':Wrt w b (.cells (setL (L.flatMap entCs++rest) (i.toNat * 9) [.slice t.a t.len t.cap]).toArray 133 (0,0)) w':=hw
 obtain ⟨a1,a2,a3⟩:=o.own.upd ha (Nat.zero_le b) hb hc hcap hw' (by simp [oneC]) (by show i.toNat * 9+1<=_; omega)
 have e1:setL (L.flatMap entCs) (i.toNat * 9) [.slice t.a t.len t.cap]=(L.set i.toNat (setK t key L[i.toNat])).flatMap entCs:=by
  have:=flat_set (f:=entCs) (n:=9) (l:=L) (i:=i.toNat) (o:=0) (vs:=[.slice t.a t.len t.cap]) (y:=setK t key L[i.toNat]) (entCs_len L) hi (by simp) rfl
  simpa using this
 rw [e1] at a1
 refine k w' ⟨a1,fun p hp=>?_,fun p hp q hq=>?_,o.sb⟩ a2 a3
 .rcases List.mem_or_eq_of_mem_set hp with h | h
  .exact (o.ent p h).ext a2 (fun q hq h2=>(o.kb p h q (.inl hq)).2.2 h2) (fun q hq h2=>(o.kb p h q (.inr hq)).2.2 h2)
  .subst h
   have er:=(o.ent _ (List.getElem_mem hi)).ext a2 (fun q hq h2=>(o.kb _ (List.getElem_mem hi) q (.inl hq)).2.2 h2) (fun q hq h2=>(o.kb _ (List.getElem_mem hi) q (.inr hq)).2.2 h2)
   exact ⟨ht.ext a2 fun a q ha' hq h2=>(tb q (by simp [Sl.blk,ha',hq])).2.2 h2,er.v,er.n,er.ch,er.cd,h8,er.v8,er.n64,er.cho,er.cdo⟩
 .rw [a3]
  rcases List.mem_or_eq_of_mem_set hp with h | h
  .exact o.kb p h q hq
  .subst h
   rcases hq with hq | hq
   .exact tb q hq
   .exact o.kb _ (List.getElem_mem hi) q (.inr hq)
end Go.V
namespace Go.Proofs.YtcamoanigdfihaaGreat
open Go.V
section
variable {w:Wd}
abbrev NdB(h:Array Obj)(b:Nat)(k v:Int)(s:Sl):Prop:=h[b]? = some (.cells [.int .u8 k, .int .u8 v, .slice s.a s.len s.cap].toArray 39 (0,0))
theorem ld3{b:Nat}{k v:Int}{s:Sl}{K:Int->Int->Sl->Prop}(hb:NdB w.heap b k v s)(kk:K k v s) :
  ∃ c:Int,Cell w (Addr.mk b 0 none) (.int .u8 c)/\∃ c_1:Int,Cell w ((Addr.mk b 0 none).add 1) (.int .u8 c_1)/\∃ c_2:Sl,Cell w ((Addr.mk b 0 none).add 2) (.slice c_2.a c_2.len c_2.cap)/\K c c_1 c_2 :=
 ⟨_,Cell.lst hb rfl,_,Cell.lst hb rfl,s,Cell.lst hb rfl,kk⟩
theorem hd3{Q:Nat->Prop}{b:Nat}{k v:Int}{s:Sl}{K:Int->Int->Sl->Prop}(hb:NdB w.heap b k v s)(hq:¬ Q b)(kk:K k v s) :
  ∃ c:Int,Held (Ext Q w) (Addr.mk b 0 none) (.int .u8 c)/\∃ c_1:Int,Held (Ext Q w) ((Addr.mk b 0 none).add 1) (.int .u8 c_1)/\∃ c_2:Sl,Held (Ext Q w) ((Addr.mk b 0 none).add 2) (.slice c_2.a c_2.len c_2.cap)/\K c c_1 c_2 :=
 ⟨_,Held.but (Cell.lst hb rfl) hq,_,Held.but (Cell.lst hb rfl) hq,s,Held.but (Cell.lst hb rfl) hq,kk⟩
theorem st3{b:Nat}{k v:Int}{s:Sl}{zs:List Value}{K:Wd->Prop}(hb:w.heap[b]? = some (.cells zs.toArray 39 (0,0)))(hz:zs.length=3)(kk:∀ w',NdB w'.heap b k v s->Ext (·=b) w w'->w'.heap.size=w.heap.size->K w') :
  List.length (α:=Value) [.int .u8 k, .int .u8 v, .slice s.a s.len s.cap]=3/\StN w (Addr.mk b 0 none) [.int .u8 k, .int .u8 v, .slice s.a s.len s.cap] K:=st_all hb rfl hz (by simp [oneC]) kk
theorem ret2{b1 b2:Nat}{k1 v1 k2 v2:Int}{s1 s2:Sl}{K:Int->Int->Sl->Int->Int->Sl->Wd->Prop}(h1:NdB w.heap b1 k1 v1 s1)(h2:NdB w.heap b2 k2 v2 s2)(hne:b1≠b2)(kk:∀ w',Ext (fun i=>i=b1∨i=b2) w w'->w'.heap.size=w.heap.size->K k1 v1 s1 k2 v2 s2 w') :
  ∃ S:Wd->Prop,S (drewW w) /\
  ∃ c:Int,Held S (Addr.mk b1 0 none) (.int .u8 c)/\∃ c_1:Int,Held S ((Addr.mk b1 0 none).add 1) (.int .u8 c_1)/\∃ c_2:Sl,Held S ((Addr.mk b1 0 none).add 2) (.slice c_2.a c_2.len c_2.cap) /\
  ∃ c_3:Int,Held S (Addr.mk b2 0 none) (.int .u8 c_3)/\∃ c_4:Int,Held S ((Addr.mk b2 0 none).add 1) (.int .u8 c_4)/\∃ c_5:Sl,Held S ((Addr.mk b2 0 none).add 2) (.slice c_5.a c_5.len c_5.cap) /\
  List.length (α:=Value) [.int .u8 c, .int .u8 c_1, .slice c_2.a c_2.len c_2.cap]=3/\StN (drewW w) (Addr.mk b1 0 none) [.int .u8 c, .int .u8 c_1, .slice c_2.a c_2.len c_2.cap] fun w1=>S w1 /\
  List.length (α:=Value) [.int .u8 c_3, .int .u8 c_4, .slice c_5.a c_5.len c_5.cap]=3/\StN w1 (Addr.mk b2 0 none) [.int .u8 c_3, .int .u8 c_4, .slice c_5.a c_5.len c_5.cap] fun w2=>S w2 /\
  ∃ c_6:Int,Cell w2 (Addr.mk b1 0 none) (.int .u8 c_6)/\∃ c_7:Int,Cell w2 ((Addr.mk b1 0 none).add 1) (.int .u8 c_7)/\∃ c_8:Sl,Cell w2 ((Addr.mk b1 0 none).add 2) (.slice c_8.a c_8.len c_8.cap) /\
  ∃ c_9:Int,Cell w2 (Addr.mk b2 0 none) (.int .u8 c_9)/\∃ c_10:Int,Cell w2 ((Addr.mk b2 0 none).add 1) (.int .u8 c_10)/\∃ c_11:Sl,Cell w2 ((Addr.mk b2 0 none).add 2) (.slice c_11.a c_11.len c_11.cap)/\K c_6 c_7 c_8 c_9 c_10 c_11 w2:=by
 refine ⟨fun w'=>NdB w'.heap b1 k1 v1 s1/\NdB w'.heap b2 k2 v2 s2,⟨h1,h2⟩,_,fun w' h=>Cell.lst h.1 rfl,_,fun w' h=>Cell.lst h.1 rfl,s1,fun w' h=>Cell.lst h.1 rfl,_,fun w' h=>Cell.lst h.2 rfl,_,fun w' h=>Cell.lst h.2 rfl,s2,fun w' h=>Cell.lst h.2 rfl,?_⟩
 refine st3 (w:=drewW w) h1 rfl fun w1 g1 x1 z1=>⟨⟨g1,get_ext (w:=drewW w) h2 x1 (Ne.symm hne)⟩,st3 (get_ext (w:=drewW w) h2 x1 (Ne.symm hne)) rfl fun w2 g2 x2 z2=>⟨⟨get_ext g1 x2 hne,g2⟩,ld3 (get_ext g1 x2 hne) (ld3 g2 (kk w2 ?_ (z2.trans z1)))⟩⟩
 exact (x1.drew_left.mono fun _ _ h => .inl h).trans x2 fun _ _ h => .inr h
theorem entOwn{y:EntV}{b:Nat}{w':Wd}(n:New w (.cells y.cs.toArray 133) b w'):Own w'.heap w.heap.size 133 9 ⟨some ⟨b,0,none⟩,1,1⟩ y.cs:=Own.new (n:=1) (sz:=9) n rfl (by intro v hv; unfold EntV.cs at hv; simp only [List.mem_cons,List.not_mem_nil,or_false] at hv; rcases hv with h | h | h | h | h | h | h | h | h <;> subst h <;> rfl)
theorem entCs_one(x:EntV):∀ v∈x.cs,oneC v=true:=by
 intro v hv; unfold EntV.cs at hv; simp only [List.mem_cons,List.not_mem_nil,or_false] at hv; rcases hv with h | h | h | h | h | h | h | h | h <;> subst h <;> rfl
set_option maxHeartbeats 1000000 in
theorem gown_spec{x:EntV}{e:Ent}{K:Sl->Sl->Int->Int->Int->Int->Int->Int->Int->Wd->Prop}(er:EntR w.heap x e)(hk:e.key.length<=65536)(hv:e.val.length<=65536)
  (k:∀(y:EntV) w',EntR w'.heap y e->(∀ b,(y.k.blk=some b∨y.v.blk=some b)->w.heap.size<=b/\b < w'.heap.size)->Ext No w w'->K y.k y.v y.n y.ch.p y.ch.c y.ch.g y.cd.p y.cd.c y.cd.g w'):C_graft_own x.k x.v x.n x.ch.p x.ch.c x.ch.g x.cd.p x.cd.c x.cd.g w K:=by
 apply S_graft_own
 refine NewW.mk fun b w1 n1=>NewW.mk fun b1 w2 n2=>NewW.mk fun b2 w3 n3=>?_
 have g1:w1.heap[b]? = some (.cells x.cs.toArray 133 (0,0)):=n1.get
 have hb:=n1.at_; have hb1:=n2.at_; have hb2:=n3.at_; have z1:=n1.size; have z2:=n2.size; have z3:=n3.size
 have x03:Ext No w w3:=(n1.ext.no n2.ext).no n3.ext
 have g3:=get_no (get_no g1 n2.ext) n3.ext
 refine ⟨_,Cell.lst g3 rfl,appQ (Q:=fun i=>w2.heap.size<=i) (n3.ext.of_no) (fun i hi=>by simp [Sl.blk] at hi; omega) (fun i hi=>hi) (OwnB.new (l:=[]) (n:=0) n3 rfl) (by omega) (er.k.no x03) (by simp; omega) fun t4 w4 o4 q4 x4=>?_⟩
 have g4:=get_ext (get_no g1 n2.ext) x4 (by omega)
 have gz4:=get_ext n2.get x4 (by omega)
 refine St1.mk g4 (by simp [EntV.cs]) rfl fun w5 h5=>NewW.mk fun b3 w6 n6=>?_
 have g5:w5.heap[b]? = some (.cells ({ x with k:=t4 }:EntV).cs.toArray 133 (0,0)):=h5.get g4
 have x5:Ext (·=b) w4 w5:=h5.ext
 have z5:w5.heap.size=w4.heap.size:=h5.size
 have z4:=x4.size
 have g6:=get_no g5 n6.ext
 have z6:=n6.size; have hb3:=n6.at_
 have xv:Ext No w w6:=(((n1.ext.no n2.ext).trans x4 fun i h1 h2=>by omega).trans x5 fun i h1 h2=>by omega).no n6.ext
 refine ⟨_,Cell.lst g6 rfl,appQ (Q:=fun i=>w5.heap.size<=i) (n6.ext.of_no) (fun i hi=>by simp [Sl.blk] at hi; omega) (fun i hi=>hi) (OwnB.new (l:=[]) (n:=0) n6 rfl) (by omega) (er.v.no xv) (by simp; omega) fun t7 w7 o7 q7 x7=>?_⟩
 have g7:=get_ext g5 x7 (by omega)
 have z7:=x7.size
 refine St1.mk g7 (by simp [EntV.cs]) rfl fun w8 h8=>?_
 have g8:w8.heap[b]? = some (.cells ({ x with k:=t4,v:=t7 }:EntV).cs.toArray 133 (0,0)):=h8.get g7
 have x8:Ext (·=b) w7 w8:=h8.ext
 have z8:w8.heap.size=w7.heap.size:=h8.size
 have gz8:=get_ext (get_ext (get_ext gz4 x5 (by omega)) x7 (by omega)) x8 (by omega)
 refine ent_read g8 (st_all gz8 rfl rfl (entCs_one _) fun w9 g9 x9 z9=>?_)
 have b4:∀ q,t4.blk=some q->w2.heap.size<=q/\q < w4.heap.size:=fun q hq=>⟨q4 q hq,(o4.lt hq).2⟩
 have b7:∀ q,t7.blk=some q->w5.heap.size<=q/\q < w7.heap.size:=fun q hq=>⟨q7 q hq,(o7.lt hq).2⟩
 refine ent_read (x:={ x with k:=t4,v:=t7 }) g9 (k { x with k:=t4,v:=t7 } w9 ⟨?_,?_,er.n,er.ch,er.cd,er.k8,er.v8,er.n64,er.cho,er.cdo⟩ (fun q hq=>?_) ?_)
 .have:=o4.rd.ext x5 (fun a q ha hq h=>by have:=b4 q (by simp [Sl.blk,ha,hq]); omega) |>.ext x7 (fun a q ha hq h=>by have:=b4 q (by simp [Sl.blk,ha,hq]); omega) |>.ext x8 (fun a q ha hq h=>by have:=b4 q (by simp [Sl.blk,ha,hq]); omega) |>.ext x9 (fun a q ha hq h=>by have:=b4 q (by simp [Sl.blk,ha,hq]); omega)
  simpa using this
 .have:=o7.rd.ext x8 (fun a q ha hq h=>by have:=b7 q (by simp [Sl.blk,ha,hq]); omega) |>.ext x9 (fun a q ha hq h=>by have:=b7 q (by simp [Sl.blk,ha,hq]); omega)
  simpa using this
 .rcases hq with hq | hq
  .have:=b4 q hq; omega
  .have:=b7 q hq; omega
 .exact (((((n1.ext.no n2.ext).trans x4 fun i h1 h2=>by omega).trans x5 fun i h1 h2=>by omega).trans x7 fun i h1 h2=>by omega).trans x8 fun i h1 h2=>by omega).trans x9 fun i h1 h2=>by omega
structure LsR(h:Array Obj)(sl:Sl)(ls:List (Sl×List (EntV×Ent))):Prop where
 rd:Rd h sl 1 (ls.map fun p=>p.1.v)
 nd:∀ p∈ls,NdR h p.1 p.2
theorem LsR.no{w':Wd}{sl:Sl}{ls:List (Sl×List (EntV×Ent))}(r:LsR w.heap sl ls)(x:Ext No w w'):LsR w'.heap sl ls:=⟨r.rd.no x,fun p hp=>(r.nd p hp).no x⟩
def NodeSt(w0:Wd)(b1 base:Nat)(kind lev:Int)(w':Wd)(l:List Ent):Prop:=∃ s L,NdB w'.heap b1 kind lev s/\NdO w'.heap base s L/\ents L=l/\Ext (·=b1) w0 w'/\base<=w'.heap.size
set_option maxHeartbeats 1000000 in
theorem gnode_spec{kind lev:Int}{sl:Sl}{ls:List (Sl×List (EntV×Ent))}{K:Int->Int->Sl->Wd->Prop}(r:LsR w.heap sl ls)(hn:ls.length<=16)(hl:∀ p∈ls,p.2.length<=4096)(hs:∀ p∈ls,∀ q∈p.2,q.2.key.length<=65536/\q.2.val.length<=65536)
  (k:∀ s L w',NdO w'.heap w.heap.size s L->ents L=(ls.map fun p=>ents p.2).flatten->Ext No w w'->K kind lev s w'):C_graft_node kind lev sl w K:=by
 apply S_graft_node
 have hsl:sl.len=ls.length:=by have:=r.rd.len; simp at this; exact this.symm
 refine NewW.mk fun b w1 n1=>NewW.mk fun b1 w2 n2=>st3 (s:=⟨none,0,0⟩) n2.get rfl fun w3 g3 x3 z3=>?_
 have hb:=n1.at_; have hb1:=n2.at_; have z1:=n1.size; have z2:=n2.size
 have x03:Ext No w w3:=(n1.ext.no n2.ext).trans x3 fun i h1 h2=>by omega
 have gb3:=get_ext (get_no n1.get n2.ext) x3 (by omega)
 have hle:∀ j,((ls.take j).map fun p=>ents p.2).flatten.length<=j * 4096:=fun j=>by
  induction j with
  | zero=>simp
  | succ j ih =>
   rcases Nat.lt_or_ge j ls.length with h | h
   .rw [List.take_add_one,List.getElem?_eq_getElem h]
    simp only [Option.toList_some,List.map_append,List.flatten_append,List.length_append,List.map_cons,List.map_nil,List.flatten_cons,List.flatten_nil,List.append_nil,List.length_map]
    have:=hl _ (List.getElem_mem h); omega
   .rw [List.take_of_length_le (by omega)] at ih ⊢; omega
 refine ⟨fun m t w'=>∃ j:Nat,t=j/\j<=ls.length/\m=ls.length - j/\NodeSt w3 b1 w3.heap.size kind lev w' ((ls.take j).map fun p=>ents p.2).flatten,⟨ls.length,0,rfl,by omega,by omega,⟨none,0,0⟩,[],g3,NdO.nil _ _,rfl,Ext.refl _ _,Nat.le_refl _⟩,?_⟩
 rintro _ m0 t w4 ⟨j,rfl,hj,hm,st⟩
 refine If.dec (fun h=>?_) fun h=>?_
 .have hj':j < ls.length:=by omega
  obtain ⟨_,_,_,_,_,x34,_⟩:=id st
  have x04:Ext No w w4:=x03.trans x34 fun q hq h=>by omega
  refine Ix.cell (r.rd.no x04) (by omega) h fun bb o v _ hv hc=>?_
  rw [Int.toNat_natCast,List.getElem?_map,List.getElem?_eq_getElem hj'] at hv
  simp only [Option.map_some,Option.some.injEq] at hv
  subst hv
  have ndj:=r.nd _ (List.getElem_mem hj')
  have hlj:=hl _ (List.getElem_mem hj')
  have hsj:=hs _ (List.getElem_mem hj')
  have hsnoc:((ls.take (j+1)).map fun p=>ents p.2).flatten=((ls.take j).map fun p=>ents p.2).flatten++ents ls[j].2:=by
   rw [List.take_add_one,List.getElem?_eq_getElem hj']; simp only [Option.toList_some,List.map_append,List.map_cons,List.map_nil,List.flatten_append,List.flatten_cons,List.flatten_nil,List.append_nil]
  have hlej:=hle j
  generalize hl0:((ls.take j).map fun p=>ents p.2).flatten=l0 at *
  generalize ls[j]=pj at *
  obtain ⟨sj,Lj⟩:=pj
  simp only at ndj hlj hsj hc hsnoc
  have nl:=ndj.len
  refine ⟨sj,hc,fun m t w'=>∃ i:Nat,t=i/\i<=Lj.length/\m=Lj.length - i/\NodeSt w3 b1 w3.heap.size kind lev w' (l0++(ents Lj).take i),⟨Lj.length,0,rfl,by omega,by omega,by simpa using st⟩,?_⟩
  rintro _ m1 t1 w5 ⟨i,rfl,hi,hm1,s5,L5,g5,nd5,el5,x35,hbase⟩
  have x05:Ext No w w5:=x03.trans x35 fun q hq h=>by omega
  refine If.dec (fun h=>?_) fun h=>?_
  .refine ent_copy (ndj.rd.no x05) (by omega) h fun b2 w7 hi' g7 hb2 z7 x7=>?_
   simp only [Int.toNat_natCast] at hi' g7
   have x07:=x05.no x7
   have g17:=get_no g5 x7
   have er:=(ndj.no x07).get hi'
   have hsi:=hsj _ (List.getElem_mem hi')
   have b1lt:b1 < w3.heap.size:=by omega
   refine ⟨Ext (fun q=>w3.heap.size<=q/\q≠b2) w7,(Ext.refl _ _).drew,s5,Held.but (Cell.lst g17 rfl) (show ¬ (w3.heap.size<=b1/\b1≠b2) by omega),?_⟩
   refine ⟨_,Held.but (Cell.lst g7 rfl) (by simp),_,Held.but (Cell.lst g7 rfl) (by simp),_,Held.but (Cell.lst g7 rfl) (by simp),_,Held.but (Cell.lst g7 rfl) (by simp),_,Held.but (Cell.lst g7 rfl) (by simp),_,Held.but (Cell.lst g7 rfl) (by simp),_,Held.but (Cell.lst g7 rfl) (by simp),_,Held.but (Cell.lst g7 rfl) (by simp),_,Held.but (Cell.lst g7 rfl) (by simp),?_⟩
   refine gown_spec (w:=drewW w7) er hsi.1 hsi.2 fun y w8 er8 yb x8=>⟨(x8.drew_left).of_no,NewW.mk fun b3 w9 n9=>⟨((x8.drew_left).no n9.ext).of_no,?_⟩⟩
   have yb':∀ q,(y.k.blk=some q∨y.v.blk=some q)->w7.heap.size<=q/\q < w8.heap.size:=yb
   have x79:Ext No w7 w9:=(x8.drew_left).no n9.ext
   have nd9:=(nd5.no x7).no x79
   have z9:=n9.size; have s79:=x79.size; have s57:=x7.size
   have n9':New w8 (.cells y.cs.toArray 133) b3 w9:=n9
   have o9:=entOwn n9'
   have nl5:=nd5.nd.len
   have l5:L5.length=l0.length+i:=by have:=congrArg List.length el5; simp only [List.length_map,List.length_append,List.length_take] at this; omega
   refine app_api_Entry nd9.own (by omega) o9.rd.src (by simp only; omega) fun s10 w10 o10 _ x10 hbl=>?_
   have s5lt:∀ q,s5.blk=some q->w3.heap.size<=q/\q < w5.heap.size:=fun q hq=>nd5.own.lt hq
   have nd10:NdO w10.heap w3.heap.size s10 (L5++[(y,Lj[i].2)]):=NdO.push (p:=(y,Lj[i].2)) nd9 o10 x10 hbl (er8.no n9.ext) (fun q hq=>by have:=yb' q (.inl hq); exact ⟨by omega,by omega,fun h=>by have:=s5lt q h; omega⟩) (fun q hq=>by have:=yb' q (.inr hq); exact ⟨by omega,by omega,fun h=>by have:=s5lt q h; omega⟩)
   have x710:Ext (fun q=>w3.heap.size<=q/\q≠b2) w7 w10:=x79.of_no.trans x10 fun q hq h=>⟨(s5lt q h).1,by have:=s5lt q h; omega⟩
   have g10:=get_ext g17 x710 (show ¬ (w3.heap.size<=b1/\b1≠b2) by omega)
   refine ⟨x710,St1.mk g10 (by simp) rfl fun w11 h11=>?_⟩
   have x11:Ext (·=b1) w10 w11:=h11.ext
   have e11:w11.heap.size=w10.heap.size:=h11.size
   refine Ar.i64 (by omega) ⟨Lj.length - (i+1),by omega,i+1,by omega,by omega,rfl,s10,_,h11.get g10,nd10.ext x11 (fun q h1 h2 h=>by omega),?_,?_,?_⟩
   .show List.map Prod.snd (L5++[(y,Lj[i].2)])=_
    rw [List.map_append,show List.map Prod.snd L5=_ from el5,List.take_add_one,List.getElem?_eq_getElem (by simpa using hi')]
    simp
   .exact ((x35.no x7).trans x710 fun q hq h=>by omega).trans x11 fun q hq h=>h
   .have:=x710.size; omega
  .have e:i=Lj.length:=by omega
   refine Ar.i64 (by omega) ⟨ls.length - (j+1),by omega,j+1,by omega,by omega,rfl,s5,L5,g5,nd5,?_,x35,hbase⟩
   rw [hsnoc,el5,e,List.take_of_length_le (by simp)]
 .have e:j=ls.length:=by omega
  obtain ⟨s4,L4,g4,nd4,el4,x34,hbase⟩:=st
  rw [e,List.take_length] at el4
  have x04:Ext No w w4:=x03.trans x34 fun q hq h=>by omega
  refine ld3 g4 (st3 (get_ext gb3 x34 (by omega)) rfl fun w12 g12 x12 z12=>ld3 g12 (k s4 L4 w12 ((nd4.ext x12 fun q h1 h2 h=>by omega).mono (by omega)) el4 (x04.trans x12 fun q hq h=>by omega)))
end
end Go.Proofs.YtcamoanigdfihaaGreat
namespace Go.V
def nilK:List Ent->List Ent
 | []=>[]
 | e::l=>{ e with key:=[] }::l
def cutR(kind:Int)(l:List Ent):List Ent:=if kind=2 then nilK l else l
theorem nilK_len(l:List Ent):(nilK l).length=l.length:=by cases l <;> rfl
theorem cutR_len(kind:Int)(l:List Ent):(cutR kind l).length=l.length:=by unfold cutR; split; exact nilK_len l; rfl
def szL(kind:Int)(l:List Ent):Nat:=(l.map fun e=>(wrE kind e).length).sum
theorem szL_append(kind:Int)(a b:List Ent):szL kind (a++b)=szL kind a+szL kind b:=by simp [szL]
theorem szL_cons(kind:Int)(e:Ent)(l:List Ent):szL kind (e::l)=(wrE kind e).length+szL kind l:=by simp [szL]
theorem szL_nil(kind:Int):szL kind []=0:=rfl
theorem wr_len(kind lev:Int)(l:List Ent):(wr kind lev l).length=3+szL kind l:=by simp [wr,szL,List.length_flatMap]; omega
theorem wrE_key(kind:Int)(e:Ent)(k:List Int):(wrE kind { e with key:=k }).length+e.key.length=(wrE kind e).length+k.length:=by
 unfold wrE; simp only [List.length_append,List.length_cons]; omega
theorem szL_take_le(kind:Int)(l:List Ent){j k:Nat}(h:j<=k):szL kind (l.take j)<=szL kind (l.take k):=by
 have:l.take k=l.take j++(l.take k).drop j:=by
  conv=>lhs; rw [<- List.take_append_drop j (l.take k)]
  rw [List.take_take,Nat.min_eq_left h]
 rw [this,szL_append]; omega
theorem RightP.take{kind lev:Int}{l:List Ent}{k:Nat}(h:RightP kind lev l)(hk:1<=k):RightP kind lev (l.take k):=by
 refine ⟨h.shape,fun h2=>?_,fun i hi=>?_,fun i hi=>?_⟩
 .have:=h.some h2
  cases l with
  | nil=>exact (this rfl).elim
  | cons e l=>cases k with
   | zero=>omega
   | succ k=>simp
 .simp only [List.length_take] at hi
  rw [List.getElem_take]; exact h.ent i (by omega)
 .simp only [List.length_take] at hi
  rw [List.getElem_take,List.getElem_take]; exact h.ord i (by omega)
theorem entP_key{kind i j:Int}{e:Ent}(h:entP kind i e)(hij:kind=2->(i=0 ↔ j=0)):entP kind j e:=by
 obtain ⟨h1,h2⟩:=h
 refine ⟨?_,h2⟩
 unfold keyP at h1 ⊢
 rcases Classical.em (kind=2) with hk | hk
 .have:=hij hk
  rcases Classical.em (i=0) with h0 | h0
  .rw [if_pos ⟨hk,h0⟩] at h1; rw [if_pos ⟨hk,this.1 h0⟩]; exact h1
  .rw [if_neg (fun h=>h0 h.2)] at h1; rw [if_neg (fun h=>h0 (this.2 h.2))]; exact h1
 .rw [if_neg (fun h=>hk h.1)] at h1 ⊢; exact h1
theorem nilK_get{l:List Ent}{i:Nat}(h:i < (nilK l).length)(h':i < l.length):(nilK l)[i]=if i=0 then { l[i] with key:=[] } else l[i]:=by
 cases l with
 | nil=>simp at h'
 | cons e l=>cases i with
  | zero=>rfl
  | succ i=>simp [nilK]
theorem RightP.cutR{kind lev:Int}{l:List Ent}{k:Nat}(h:RightP kind lev l)(h1:1<=k)(hk:k < l.length):RightP kind lev (cutR kind (l.drop k)):=by
 have hd:(l.drop k).length=l.length - k:=List.length_drop
 have hent:∀ i (hi:i < (l.drop k).length),entP kind ((k+i:Nat):Int) (l.drop k)[i]:=fun i hi=>by
  rw [List.getElem_drop]; exact h.ent (k+i) (by omega)
 have hord:∀ i (hi:i+1 < (l.drop k).length),LtB (l.drop k)[i].key (l.drop k)[i+1].key:=fun i hi=>by
  rw [List.getElem_drop,List.getElem_drop]; exact h.ord (k+i) (by omega)
 unfold Go.V.cutR
 split
 .rename_i h2
  refine ⟨h.shape,fun _ e=>?_,fun i hi=>?_,fun i hi=>?_⟩
  .have:=congrArg List.length e; rw [nilK_len] at this; simp at this; omega
  .have hi':i < (l.drop k).length:=by rw [nilK_len] at hi; exact hi
   rw [nilK_get hi hi']
   split
   .rename_i h0
    subst h0
    have:=hent 0 hi'
    refine ⟨by unfold keyP; rw [if_pos ⟨h2,rfl⟩]; rfl,?_⟩
    have:=this.2
    rw [if_pos h2] at this ⊢; exact this
   .exact entP_key (hent i hi') fun _=>by omega
  .rw [nilK_len] at hi
   rw [nilK_get (by rw [nilK_len]; omega) (by omega),nilK_get (by rw [nilK_len]; omega) hi,if_neg (by omega:¬ i+1=0)]
   split
   .refine LtB.nil fun e=>?_
    have:=(hent (i+1) hi).1
    unfold keyP at this
    rw [if_neg (by omega),e] at this
    simp at this
   .exact hord i hi
 .rename_i h2
  exact ⟨h.shape,fun h=>(h2 h).elim,fun i hi=>entP_key (hent i hi) fun h=>(h2 h).elim,hord⟩
def xsz(kind lev:Int)(l:List Ent)(k:Nat):Nat:=(wr kind lev (l.take k)).length
def ysz(kind lev:Int)(l:List Ent)(k:Nat):Nat:=(wr kind lev (cutR kind (l.drop k))).length
def ValidC(kind lev:Int)(l:List Ent)(k:Nat):Prop:=1<=k/\k < l.length/\xsz kind lev l k<=224/\ysz kind lev l k<=224
def dif(kind lev:Int)(l:List Ent)(k:Nat):Int:=iMax ((xsz kind lev l k:Int) - ysz kind lev l k) ((ysz kind lev l k:Int) - xsz kind lev l k)
structure SplitP(kind lev:Int)(l:List Ent)(k:Nat):Prop where
 v:ValidC kind lev l k
 min:∀ j,ValidC kind lev l j->dif kind lev l k<=dif kind lev l j
theorem flat_td{L:List (EntV×Ent)}{k:Nat}(h:k<=L.length):(L.flatMap entCs).take (k * 9)=(L.take k).flatMap entCs/\(L.flatMap entCs).drop (k * 9)=(L.drop k).flatMap entCs:=by
 have e:L.flatMap entCs=(L.take k).flatMap entCs++(L.drop k).flatMap entCs:=by rw [<- List.flatMap_append,List.take_append_drop]
 have hl:((L.take k).flatMap entCs).length=k * 9:=by rw [flat_len' (entCs_len _),List.length_take,Nat.min_eq_left h]
 rw [e,List.take_left' hl,List.drop_left' hl]
 exact ⟨rfl,rfl⟩
theorem NdR.cutQ{w:Wd}{s:Sl}{L:List (EntV×Ent)}{lo hi mx:Int}{K:Sl->Prop}(r:NdR w.heap s L)(h0:0<=lo)(h1:lo<=hi)(h2:hi<=(L.length:Int))(hm:mx=s.cap)(k:∀ s',NdR w.heap s' ((L.drop lo.toNat).take (hi - lo).toNat)->K s'):Cut s lo hi mx 9 K:=by
 have hl:=r.len
 have hc:=r.rd.cap
 subst hm
 refine Cut.mk h0 h1 (by omega) (Int.le_refl _) (k _ ⟨?_,fun p hp=>r.ent p (List.mem_of_mem_drop (List.mem_of_mem_take hp))⟩)
 have:=r.rd.cut (lo:=lo.toNat) (hi:=hi.toNat) (mx:=s.cap) (by omega) (by omega) (by omega)
 rw [(flat_td (k:=lo.toNat) (by omega)).2,(flat_td (k:=hi.toNat - lo.toNat) (by rw [List.length_drop]; omega)).1] at this
 rw [show (hi - lo).toNat=hi.toNat - lo.toNat by omega,show (((s.cap:Nat):Int) - lo).toNat=s.cap - lo.toNat by omega,show (((s.cap:Nat):Int)).toNat=s.cap from rfl]
 exact this
end Go.V
namespace Go.Proofs.YtcamoanigdfihaaGreat
open Go.V
section
variable {w:Wd}
def CutTail(b_1 b_2:Nat)(S:Wd->Prop)(k1 v1:Int)(sa:Sl)(k2 v2:Int)(sb:Sl)(K:Int->Int->Sl->Int->Int->Sl->Sl->Wd->Prop)(w:Wd):Prop :=
 List.length (α:=Value) [.int .u8 k1, .int .u8 v1, .slice sa.a sa.len sa.cap]=3/\StN w (Addr.mk b_1 0 none) [.int .u8 k1, .int .u8 v1, .slice sa.a sa.len sa.cap] fun w8 =>
 S w8 /\
 List.length (α:=Value) [.int .u8 k2, .int .u8 v2, .slice sb.a sb.len sb.cap]=3/\StN w8 (Addr.mk b_2 0 none) [.int .u8 k2, .int .u8 v2, .slice sb.a sb.len sb.cap] fun w9 =>
 S w9 /\
 NewW w9 (.cells [].toArray 5) fun b_5 w10 =>
 ∃ vv_6:Sl,Cell w10 ((Addr.mk b_2 0 none).add 2) (.slice vv_6.a vv_6.len vv_6.cap) /\
 Ix vv_6.a vv_6.len 0 9 fun a =>
 ∃ vv_7:Sl,Cell w10 a (.slice vv_7.a vv_7.len vv_7.cap) /\
 AppW pz 40 40 ⟨some (Addr.mk b_5 0 none),0,0⟩ (.slice vv_7.a vv_7.len vv_7.cap) (fun s_2 w11 =>
 ∃ vv_8:Int,Cell w11 (Addr.mk b_2 0 none) (.int .u8 vv_8) /\
 If (vv_8 == 2) (
 ∃ vv_9:Sl,Cell w11 ((Addr.mk b_2 0 none).add 2) (.slice vv_9.a vv_9.len vv_9.cap) /\
 Ix vv_9.a vv_9.len 0 9 fun a_1 =>
 St1 w11 a_1 (.slice none 0 0) fun w12 =>
 ∃ S:Wd->Prop,S (drewW w12) /\
 ∃ c:Int,Held S (Addr.mk b_1 0 none) (.int .u8 c) /\
 ∃ c_1:Int,Held S ((Addr.mk b_1 0 none).add 1) (.int .u8 c_1) /\
 ∃ c_2:Sl,Held S ((Addr.mk b_1 0 none).add 2) (.slice c_2.a c_2.len c_2.cap) /\
 ∃ c_3:Int,Held S (Addr.mk b_2 0 none) (.int .u8 c_3) /\
 ∃ c_4:Int,Held S ((Addr.mk b_2 0 none).add 1) (.int .u8 c_4) /\
 ∃ c_5:Sl,Held S ((Addr.mk b_2 0 none).add 2) (.slice c_5.a c_5.len c_5.cap) /\
 List.length (α:=Value) [.int .u8 c, .int .u8 c_1, .slice c_2.a c_2.len c_2.cap]=3/\StN (drewW w12) (Addr.mk b_1 0 none) [.int .u8 c, .int .u8 c_1, .slice c_2.a c_2.len c_2.cap] fun w13 =>
 S w13 /\
 List.length (α:=Value) [.int .u8 c_3, .int .u8 c_4, .slice c_5.a c_5.len c_5.cap]=3/\StN w13 (Addr.mk b_2 0 none) [.int .u8 c_3, .int .u8 c_4, .slice c_5.a c_5.len c_5.cap] fun w14 =>
 S w14 /\
 ∃ c_6:Int,Cell w14 (Addr.mk b_1 0 none) (.int .u8 c_6) /\
 ∃ c_7:Int,Cell w14 ((Addr.mk b_1 0 none).add 1) (.int .u8 c_7) /\
 ∃ c_8:Sl,Cell w14 ((Addr.mk b_1 0 none).add 2) (.slice c_8.a c_8.len c_8.cap) /\
 ∃ c_9:Int,Cell w14 (Addr.mk b_2 0 none) (.int .u8 c_9) /\
 ∃ c_10:Int,Cell w14 ((Addr.mk b_2 0 none).add 1) (.int .u8 c_10) /\
 ∃ c_11:Sl,Cell w14 ((Addr.mk b_2 0 none).add 2) (.slice c_11.a c_11.len c_11.cap) /\
 K c_6 c_7 c_8 c_9 c_10 c_11 s_2 w14) (
 ∃ S:Wd->Prop,S (drewW w11) /\
 ∃ c_12:Int,Held S (Addr.mk b_1 0 none) (.int .u8 c_12) /\
 ∃ c_13:Int,Held S ((Addr.mk b_1 0 none).add 1) (.int .u8 c_13) /\
 ∃ c_14:Sl,Held S ((Addr.mk b_1 0 none).add 2) (.slice c_14.a c_14.len c_14.cap) /\
 ∃ c_15:Int,Held S (Addr.mk b_2 0 none) (.int .u8 c_15) /\
 ∃ c_16:Int,Held S ((Addr.mk b_2 0 none).add 1) (.int .u8 c_16) /\
 ∃ c_17:Sl,Held S ((Addr.mk b_2 0 none).add 2) (.slice c_17.a c_17.len c_17.cap) /\
 List.length (α:=Value) [.int .u8 c_12, .int .u8 c_13, .slice c_14.a c_14.len c_14.cap]=3/\StN (drewW w11) (Addr.mk b_1 0 none) [.int .u8 c_12, .int .u8 c_13, .slice c_14.a c_14.len c_14.cap] fun w15 =>
 S w15 /\
 List.length (α:=Value) [.int .u8 c_15, .int .u8 c_16, .slice c_17.a c_17.len c_17.cap]=3/\StN w15 (Addr.mk b_2 0 none) [.int .u8 c_15, .int .u8 c_16, .slice c_17.a c_17.len c_17.cap] fun w16 =>
 S w16 /\
 ∃ c_18:Int,Cell w16 (Addr.mk b_1 0 none) (.int .u8 c_18) /\
 ∃ c_19:Int,Cell w16 ((Addr.mk b_1 0 none).add 1) (.int .u8 c_19) /\
 ∃ c_20:Sl,Cell w16 ((Addr.mk b_1 0 none).add 2) (.slice c_20.a c_20.len c_20.cap) /\
 ∃ c_21:Int,Cell w16 (Addr.mk b_2 0 none) (.int .u8 c_21) /\
 ∃ c_22:Int,Cell w16 ((Addr.mk b_2 0 none).add 1) (.int .u8 c_22) /\
 ∃ c_23:Sl,Cell w16 ((Addr.mk b_2 0 none).add 2) (.slice c_23.a c_23.len c_23.cap) /\
 K c_18 c_19 c_20 c_21 c_22 c_23 s_2 w16)) w10
set_option maxHeartbeats 1000000 in
theorem cut_tail{b1 b2 base:Nat}{kind lev:Int}{sa sb:Sl}{La Lb:List (EntV×Ent)}{z1 z2:List Value}{w0 wa:Wd}{K:Int->Int->Sl->Int->Int->Sl->Sl->Wd->Prop}
  (xs:Ext (fun q=>q=b1∨q=b2) w0 w) (h1:w.heap[b1]? = some (.cells z1.toArray 39 (0,0))) (h2:w.heap[b2]? = some (.cells z2.toArray 39 (0,0))) (l1:z1.length=3) (l2:z2.length=3) (hne:b1≠b2)
  (na:NdO wa.heap base sa La) (xa:Ext No wa w) (nb:NdO w.heap wa.heap.size sb Lb) (hb1:b1 < base) (hb2:b2 < base) (hbw:base<=wa.heap.size) (hl:0 < Lb.length) (hk:Lb[0].2.key.length<=65536)
  (k:∀ Lb' st w',NdO w'.heap base sa La->NdO w'.heap base sb Lb'->ents Lb'=cutR kind (ents Lb)->OwnB w'.heap base st Lb[0].2.key->Ext (fun q=>q=b1∨q=b2∨base<=q) w w'->K kind lev sa kind lev sb st w') :
  CutTail b1 b2 (Ext (fun q=>q=b1∨q=b2) w0) kind lev sa kind lev sb K w:=by
 unfold CutTail
 refine st3 h1 l1 fun w8 g8 x8 z8=>⟨xs.trans x8 fun _ _ h => .inl h,st3 (get_ext h2 x8 (Ne.symm hne)) l2 fun w9 g9 x9 z9=>⟨(xs.trans x8 fun _ _ h => .inl h).trans x9 fun _ _ h => .inr h,NewW.mk fun b5 w10 n10=>?_⟩⟩
 have hb5:=n10.at_; have z10:=n10.size
 have hwa:=xa.size
 have x89:Ext (fun q=>q=b1∨q=b2∨wa.heap.size<=q) w w9:=(x8.mono fun _ _ h => .inl h).trans x9 fun _ _ h => .inr (.inl h)
 have nb9:NdO w9.heap wa.heap.size sb Lb:=(nb.ext x8 fun q h1 _ h=>by omega).ext x9 fun q h1 _ h=>by omega
 have nl:=(nb9.no n10.ext).nd.len
 refine ⟨sb,Cell.lst (get_no g9 n10.ext) rfl,Ix.elem (nb9.no n10.ext).own.rd (entCs_len Lb) (by decide) (by omega) (by omega) fun bb o hi _ hc=>⟨_,hc 0 _ rfl,?_⟩⟩
 simp only [Int.toNat_zero] at hi hc ⊢
 have er:=(nb9.no n10.ext).nd.get hi
 refine appQ (Q:=fun q=>w9.heap.size<=q) (n10.ext.of_no) (fun i hi=>by simp [Sl.blk] at hi; omega) (fun i hi=>hi) (OwnB.new (l:=[]) (n:=0) n10 rfl) (by omega) er.k (by simp; omega) fun st w11 o11 q11 x11=>?_
 have g81:=get_ext (get_ext g8 x9 hne) x11 (by omega)
 have g91:=get_ext g9 x11 (by omega)
 have s11:=x11.size
 have nb11:NdO w11.heap wa.heap.size sb Lb:=nb9.ext x11 fun q h1 h2 h=>by omega
 have stb:∀ q,st.blk=some q->w9.heap.size<=q/\q < w11.heap.size:=fun q hq=>⟨q11 q hq,(o11.lt hq).2⟩
 have x911:Ext (fun q=>q=b1∨q=b2∨wa.heap.size<=q) w w11:=x89.trans x11 fun q _ h => .inr (.inr (by omega))
 have o11':OwnB w11.heap base st Lb[0].2.key:=by have:=o11.mono (base':=base) (by omega); simpa using this
 have fin:∀{w':Wd},Ext (fun q=>q=b1∨q=b2∨wa.heap.size<=q) w11 w'->NdO w'.heap base sa La/\Ext (fun q=>q=b1∨q=b2∨base<=q) w w':=fun x=>by
  have xx:=x911.trans x fun _ _ h=>h
  exact ⟨na.ext (S:=fun q=>q=b1∨q=b2∨wa.heap.size<=q) (xa.of_no.trans xx fun q _ h=>h) fun q h1 h2 h=>by omega,xx.mono fun q _ h=>by omega⟩
 refine ⟨_,Cell.lst g91 rfl,If.beq (fun h2'=>?_) fun h2'=>?_⟩
 .have sbb:∀ q,sb.blk=some q->wa.heap.size<=q/\q < w9.heap.size:=fun q hq=>nb9.own.lt hq
  refine ⟨sb,Cell.lst g91 rfl,NdQ.key (t:=⟨none,0,0⟩) (key:=[]) (B:=fun q=>wa.heap.size<=q) (nb11.q fun _ h _=>h) (by omega) (by simpa using hl) (Rd.nil _ _) B8.nil (fun q hq=>by simp [Sl.blk] at hq) fun w12 nd12 x12 z12=>?_⟩
  have g82:=get_ext g81 x12 (fun h=>by have:=sbb b1 h; omega)
  have g92:=get_ext g91 x12 (fun h=>by have:=sbb b2 h; omega)
  refine ret2 g82 g92 hne fun w14 x14 z14=>?_
  obtain ⟨f1,f2⟩:=fin ((x12.mono fun q _ h => .inr (.inr (sbb q h).1)).trans x14 fun q _ h=>h.imp id .inl)
  refine k _ st w14 f1 ((nd12.o.ext x14 fun q h1 h2 h=>by omega).mono (by omega)) ?_ ((o11'.ext x12 fun q hq h=>?_).ext x14 fun q hq h=>?_) f2
  .unfold cutR; rw [if_pos h2']
   cases Lb with
   | nil=>simp at hl
   | cons p L=>rfl
  .have:=stb q hq; have:=sbb q h; omega
  .have:=stb q hq; omega
 .refine ret2 g81 g91 hne fun w14 x14 z14=>?_
  obtain ⟨f1,f2⟩:=fin (x14.mono fun q _ h=>h.imp id .inl)
  refine k Lb st w14 f1 ((nb11.ext x14 fun q h1 h2 h=>by omega).mono (by omega)) ?_ (o11'.ext x14 fun q hq h=>by have:=stb q hq; omega) f2
  unfold cutR; rw [if_neg h2']
theorem lsr1{s:Sl}{L:List (EntV×Ent)}{b:Nat}{w':Wd}(n:New w (.cells [.slice s.a s.len s.cap].toArray 37) b w')(r:NdR w'.heap s L):LsR w'.heap ⟨some ⟨b,0,none⟩,1,1⟩ [(s,L)] :=
 ⟨(Own.new (n:=1) (sz:=1) (cs:=[s.v]) n rfl (by simp [oneC,Sl.v])).rd,fun p hp=>by rw [List.mem_singleton] at hp; subst hp; exact r⟩
set_option maxHeartbeats 2000000 in
theorem gcut_spec{kind lev k:Int}{s:Sl}{L:List (EntV×Ent)}{K:Int->Int->Sl->Int->Int->Sl->Sl->Wd->Prop}(nd:NdR w.heap s L)(hk:0<=k)(hkl:k.toNat < L.length)(hl:L.length<=4096)(hs:∀ q∈L,q.2.key.length<=65536/\q.2.val.length<=65536)
  (kk:∀ sa La sb Lb st w',NdO w'.heap w.heap.size sa La->ents La=(ents L).take k.toNat->NdO w'.heap w.heap.size sb Lb->ents Lb=cutR kind ((ents L).drop k.toNat)->OwnB w'.heap w.heap.size st L[k.toNat].2.key->Ext No w w'->K kind lev sa kind lev sb st w'):C_graft_cut kind lev s k w K:=by
 apply S_graft_cut
 refine NewW.mk fun b w1 n1=>NewW.mk fun b1 w2 n2=>NewW.mk fun b2 w3 n3=>?_
 have hb:=n1.at_; have hb1:=n2.at_; have hb2:=n3.at_; have z1:=n1.size; have z2:=n2.size; have z3:=n3.size
 have x03:Ext No w w3:=(n1.ext.no n2.ext).no n3.ext
 have g3:NdB w3.heap b kind lev s:=get_no (get_no n1.get n2.ext) n3.ext
 have g13:=get_no n2.get n3.ext
 have nd3:=nd.no x03
 have nl:=nd3.len
 have nb:¬ (fun q=>q=b1∨q=b2) b:=fun h=>by omega
 refine ⟨Ext (fun q=>q=b1∨q=b2) w3,(Ext.refl _ _).drew,kind,Held.but (Cell.lst g3 rfl) nb,lev,Held.but (Cell.lst g3 rfl) nb,s,Held.but (Cell.lst g3 rfl) nb,nd3.cutQ (by omega) (by omega) (by omega) rfl fun s1 r1=>⟨kind,Held.but (Cell.lst g3 rfl) nb,lev,Held.but (Cell.lst g3 rfl) nb,s,Held.but (Cell.lst g3 rfl) nb,nd3.cutQ hk (by omega) (by omega) rfl fun s2 r2=>?_⟩⟩
 simp only [Int.toNat_zero,List.drop_zero,Int.sub_zero] at r1
 have e2:(L.drop k.toNat).take ((s.len:Int) - k).toNat=L.drop k.toNat:=List.take_of_length_le (by rw [List.length_drop]; omega)
 rw [e2] at r2
 generalize hA:L.take k.toNat=A at r1
 generalize hB:L.drop k.toNat=B at r2
 have hs1:∀ q∈A,q.2.key.length<=65536/\q.2.val.length<=65536:=fun q hq=>hs q (by rw [<- hA] at hq; exact List.mem_of_mem_take hq)
 have hs2:∀ q∈B,q.2.key.length<=65536/\q.2.val.length<=65536:=fun q hq=>hs q (by rw [<- hB] at hq; exact List.mem_of_mem_drop hq)
 have lA:A.length<=4096:=by rw [<- hA,List.length_take]; omega
 have lB:B.length<=4096:=by rw [<- hB,List.length_drop]; omega
 have lB0:0 < B.length:=by rw [<- hB,List.length_drop]; omega
 have one:∀{s':Sl}{L':List (EntV×Ent)},(([(s',L')]:List (Sl×List (EntV×Ent))).map fun p=>ents p.2).flatten=ents L':=by intro s' L'; simp
 -- behind the two nodes
 have tl:∀{wa w7:Wd}{sa sb:Sl}{La Lb:List (EntV×Ent)},Ext No w3 wa->Ext No wa w7->NdO wa.heap w3.heap.size sa La->ents La=ents A->NdO w7.heap wa.heap.size sb Lb->ents Lb=ents B->CutTail b1 b2 (Ext (fun q=>q=b1∨q=b2) w3) kind lev sa kind lev sb K w7:=fun {wa w7 sa sb La Lb} xa xb na ea nb' eb=>by
  have x37:=xa.no xb
  have hll:Lb.length=B.length:=by have:=congrArg List.length eb; simpa using this
  have hk0:(Lb[0]'(by omega)).2=(L[k.toNat]).2:=by
   have:=congrArg (fun l=>l[0]?) eb
   simp only [List.getElem?_map] at this
   rw [<- hB,List.getElem?_drop,List.getElem?_eq_getElem (by omega:0 < Lb.length),Nat.add_zero,List.getElem?_eq_getElem hkl] at this
   simpa using this
  refine cut_tail (base:=w3.heap.size) x37.of_no (get_no g13 x37) (get_no n3.get x37) rfl rfl (by omega) na xb nb' (by omega) (by omega) xa.size (by omega) (by rw [hk0]; exact (hs _ (List.getElem_mem hkl)).1) fun Lb' st w' f1 f2 f3 f4 f5=>kk sa La sb Lb' st w' (f1.mono (by omega)) (by rw [ea,<- hA]; simp) (f2.mono (by omega)) (by rw [f3,eb,<- hB]; simp) (by rw [<- hk0]; exact Own.mono f4 (by omega)) ?_
  exact (x03.no x37).trans f5 fun q hq h=>by omega
 refine ⟨NewW.mk fun b3 w4 n4=>⟨n4.ext.drew_left.of_no,?_,?_⟩,NewW.mk fun b8 w4 n4=>⟨n4.ext.drew_left.of_no,NewW.mk fun b9 w5 n5=>⟨(n4.ext.drew_left.no n5.ext).of_no,?_⟩⟩⟩
 .have x4:Ext No w3 w4:=n4.ext.drew_left
  refine gnode_spec (lsr1 n4 (r1.no x4)) (by simp) (by simpa using lA) (by simpa using hs1) fun sa La w5 na ea x5=>⟨(x4.no x5).of_no,NewW.mk fun b4 w6 n6=>⟨((x4.no x5).no n6.ext).of_no,?_⟩⟩
  rw [one] at ea
  have x6:=(x4.no x5).no n6.ext
  refine gnode_spec (lsr1 n6 (r2.no x6)) (by simp) (by simpa using lB) (by simpa using hs2) fun sb Lb w7 nb' eb x7=>⟨(x6.no x7).of_no,?_⟩
  rw [one] at eb
  exact tl (wa:=w6) x6 x7 ((na.no n6.ext).mono x4.size) ea nb' eb
 .have x4:Ext No w3 w4:=n4.ext.drew_left
  refine NewW.mk fun b6 w5 n5=>⟨(x4.no n5.ext).of_no,?_⟩
  have x5:=x4.no n5.ext
  refine gnode_spec ((lsr1 n4 (r1.no x4)).no n5.ext) (by simp) (by simpa using lA) (by simpa using hs1) fun sa La w6 na ea x6=>⟨(x5.no x6).of_no,?_⟩
  rw [one] at ea
  refine gnode_spec ((lsr1 n5 (r2.no x5)).no x6) (by simp) (by simpa using lB) (by simpa using hs2) fun sb Lb w7 nb' eb x7=>⟨((x5.no x6).no x7).of_no,?_⟩
  rw [one] at eb
  exact tl (wa:=w6) (x5.no x6) x7 (na.mono x5.size) ea nb' eb
 .have x4:Ext No w3 w4:=n4.ext.drew_left
  have x5:=x4.no n5.ext
  refine gnode_spec (lsr1 n5 (r1.no x5)) (by simp) (by simpa using lA) (by simpa using hs1) fun sa La w6 na ea x6=>⟨(x5.no x6).of_no,?_⟩
  rw [one] at ea
  refine gnode_spec ((lsr1 n4 (r2.no x4)).no (n5.ext.no x6)) (by simp) (by simpa using lB) (by simpa using hs2) fun sb Lb w7 nb' eb x7=>⟨((x5.no x6).no x7).of_no,?_⟩
  rw [one] at eb
  exact tl (wa:=w6) (x5.no x6) x7 (na.mono x5.size) ea nb' eb
end
end Go.Proofs.YtcamoanigdfihaaGreat
namespace Go.V
theorem RightP.small{kind lev:Int}{l:List Ent}(h:RightP kind lev l):∀ e∈l,e.key.length<=32/\e.val.length<=64:=fun e he=>by
 obtain ⟨i,hi,rfl⟩:=List.getElem_of_mem he
 obtain ⟨h1,h2⟩:=h.ent i hi
 unfold keyP at h1
 constructor
 .split at h1 <;> omega
 .split at h2
  .omega
  .obtain ⟨_,h2⟩:=h2
   split at h2 <;> omega
theorem RightP.smallL{kind lev:Int}{L:List (EntV×Ent)}(h:RightP kind lev (L.map Prod.snd)):∀ q∈L,q.2.key.length<=65536/\q.2.val.length<=65536:=fun q hq=>by
 have:=h.small q.2 (List.mem_map.2 ⟨q,hq,rfl⟩); omega
theorem xsz_mono(kind lev:Int)(l:List Ent){j k:Nat}(h:j<=k):xsz kind lev l j<=xsz kind lev l k:=by
 unfold xsz; rw [wr_len,wr_len]; have:=szL_take_le kind l h; omega
def BestP(kind lev:Int)(l:List Ent)(k b:Nat)(off:Int):Prop :=
 (b=0/\∀ j,j < k->¬ ValidC kind lev l j)∨(ValidC kind lev l b/\off=dif kind lev l b/\∀ j,j < k->ValidC kind lev l j->dif kind lev l b<=dif kind lev l j)
theorem BestP.skip{kind lev:Int}{l:List Ent}{k b:Nat}{off:Int}(h:BestP kind lev l k b off)(hn:¬ ValidC kind lev l k):BestP kind lev l (k+1) b off:=by
 rcases h with ⟨h1,h2⟩ | ⟨h1,h2,h3⟩
 .refine .inl ⟨h1,fun j hj=>?_⟩
  rcases Nat.lt_or_ge j k with h | h
  .exact h2 j h
  .have:j=k:=by omega
   subst this; exact hn
 .refine .inr ⟨h1,h2,fun j hj hv=>?_⟩
  rcases Nat.lt_or_ge j k with h | h
  .exact h3 j h hv
  .have:j=k:=by omega
   subst this; exact (hn hv).elim
theorem BestP.end_{kind lev:Int}{l:List Ent}{k b:Nat}{off:Int}(h:BestP kind lev l k b off)(hn:∀ j,k<=j->¬ ValidC kind lev l j)(hex:∃ j,ValidC kind lev l j):b≠0/\SplitP kind lev l b:=by
 rcases h with ⟨h1,h2⟩ | ⟨h1,h2,h3⟩
 .obtain ⟨j,hj⟩:=hex
  rcases Nat.lt_or_ge j k with h | h
  .exact (h2 j h hj).elim
  .exact (hn j h hj).elim
 .refine ⟨by have:=h1.1; omega,h1,fun j hv=>?_⟩
  rcases Nat.lt_or_ge j k with h | h
  .exact h3 j h hv
  .exact (hn j h hv).elim
end Go.V
namespace Go.Proofs.YtcamoanigdfihaaGreat
open Go.V
section
variable {w:Wd}
set_option maxHeartbeats 2000000 in
theorem split_spec{kind lev:Int}{s:Sl}{L:List (EntV×Ent)}{K:Int->Int->Sl->Int->Int->Sl->Sl->Int->Wd->Prop}(nd:NdR w.heap s L)(hr:RightP kind lev (ents L))(hl:L.length<=4096)(hbig:224 < (wr kind lev (ents L)).length)(hex:∃ k,ValidC kind lev (ents L) k)
  (k0:∀(k:Nat) sa La sb Lb st w' (hk:k < (ents L).length),SplitP kind lev (ents L) k->NdO w'.heap w.heap.size sa La->ents La=(ents L).take k->NdO w'.heap w.heap.size sb Lb->ents Lb=cutR kind ((ents L).drop k)->OwnB w'.heap w.heap.size st (ents L)[k].key->Ext No w w'->K kind lev sa kind lev sb st 0 w'):C_graft_Split kind lev s w K:=by
 apply S_graft_Split
 refine NewW.mk fun b w1 n1=>NewW.mk fun b1 w2 n2=>NewW.mk fun b2 w3 n3=>?_
 have hb:=n1.at_; have hb1:=n2.at_; have hb2:=n3.at_; have z1:=n1.size; have z2:=n2.size; have z3:=n3.size
 have x03:Ext No w w3:=(n1.ext.no n2.ext).no n3.ext
 have g3:NdB w3.heap b kind lev s:=get_no (get_no n1.get n2.ext) n3.ext
 have g13:=get_no n2.get n3.ext
 have g23:=n3.get
 refine ld3 g3 (size_spec (nd.no x03) (by omega) (fun w4 _ x4=>If.bne (fun h=>(h rfl).elim) fun _=>If.dec (fun h=>by omega) fun _=>?_) (fun c w4 hn _ _=>(hn hr).elim))
 have hs:=hr.smallL
 have hll:(ents L).length=L.length:=by simp
 refine ⟨fun best w'=>∃ bN:Nat,best=bN/\bN≠0/\SplitP kind lev (ents L) bN/\Ext No w3 w',?_,?_⟩
 .refine ⟨fun m best off k w'=>∃ bN kN:Nat,best=bN/\k=kN/\1<=kN/\kN<=L.length/\m=L.length - kN/\BestP kind lev (ents L) kN bN off/\Ext No w3 w',⟨L.length - 1,0,1,rfl,rfl,by omega,?_,rfl, .inl ⟨rfl,fun j hj hv=>by have:=hv.1; omega⟩,x4⟩,?_⟩
  .obtain ⟨k,hk⟩:=hex
   have:=hk.1; have:=hk.2.1; omega
  rintro _ m0 best off k w9 ⟨bN,kN,rfl,rfl,hk1,hkl,hm,hbest,x9⟩
  have nl:=nd.len
  have g9:=get_no g3 x9
  have nd9:=nd.no (x03.no x9)
  refine ⟨s,Cell.lst g9 rfl,If.dec (fun h=>?_) fun h=>?_⟩
  .have hkl':kN < L.length:=by omega
   refine ld3 g9 (gcut_spec nd9 (by omega) (by simpa using hkl') hl hs fun sa La sb Lb st w10 na ea nb eb _ x10=>NewW.mk fun b3 w11 n11=>NewW.mk fun b4 w12 n12=>st3 (get_no n11.get n12.ext) rfl fun w13 g13' x13 z13=>st3 (get_ext n12.get x13 (by have:=n11.size; have:=n12.at_; have:=n11.at_; omega)) rfl fun w14 g14 x14 z14=>?_)
   have hb3:=n11.at_; have hb4:=n12.at_; have z11:=n11.size; have z12:=n12.size
   have g314:=get_ext g13' x14 (by omega)
   have x1012:Ext No w10 w12:=n11.ext.no n12.ext
   have x1014:Ext No w10 w14:=(x1012.trans x13 fun q hq h=>by omega).trans x14 fun q hq h=>by omega
   have x314:Ext No w3 w14:=(x9.no x10).no x1014
   rw [Int.toNat_natCast] at ea eb
   have hra:RightP kind lev (ents La):=by rw [ea]; exact hr.take hk1
   have hrb:RightP kind lev (ents Lb):=by rw [eb]; exact hr.cutR hk1 (by omega)
   have hxa:(wr kind lev (ents La)).length=xsz kind lev (ents L) kN:=by rw [ea]; rfl
   have hyb:(wr kind lev (ents Lb)).length=ysz kind lev (ents L) kN:=by rw [eb]; rfl
   have lla:La.length<=4096:=by have:=congrArg List.length ea; simp only [List.length_map,List.length_take] at this; omega
   have llb:Lb.length<=4096:=by have:=congrArg List.length eb; rw [cutR_len] at this; simp only [List.length_map,List.length_drop] at this; omega
   refine ld3 g314 (size_spec (na.no x1014).nd (by omega) (fun w15 _ x15=>?_) (fun c w15 hn _ _=>(hn hra).elim))
   rw [hxa]
   refine ⟨fun w'=>w'=w15/\xsz kind lev (ents L) kN<=224,If.bne (fun h=>(h rfl).elim) fun _=>If.dec (fun h=>?_) fun h=>⟨rfl,by omega⟩,?_⟩
   .obtain ⟨e1,e2⟩:=hbest.end_ (fun j hj hv=>by have:=xsz_mono kind lev (ents L) hj; have:=hv.2.2.1; omega) hex
    exact ⟨bN,rfl,e1,e2,x314.no x15⟩
   rintro _ w16 ⟨rfl,hx⟩
   refine ld3 (get_no g14 x15) (size_spec ((nb.no x1014).no x15).nd (by omega) (fun w17 _ x17=>?_) (fun c w15 hn _ _=>(hn hrb).elim))
   rw [hyb]
   have x317:=(x314.no x15).no x17
   refine ⟨fun w'=>w'=w17/\ysz kind lev (ents L) kN<=224,If.bne (fun h=>(h rfl).elim) fun _=>If.dec (fun h=>?_) fun h=>⟨rfl,by omega⟩,?_⟩
   .exact Ar.i64 (by omega) ⟨L.length - (kN+1),by omega,bN,kN+1,rfl,by omega,by omega,by omega,rfl,hbest.skip (fun hv=>by have:=hv.2.2.2; omega),x317⟩
   rintro _ w18 ⟨rfl,hy⟩
   have hv:ValidC kind lev (ents L) kN:=⟨hk1,by omega,hx,hy⟩
   refine Ar.i64 (by omega) (Ar.i64 (by omega) (Nm.mk (If.beq (fun h0=>Ar.i64 (by omega) ?_) fun h0=>If.dec (fun hlt=>Ar.i64 (by omega) ?_) fun hge=>Ar.i64 (by omega) ?_)))
   .refine ⟨L.length - (kN+1),by omega,kN,kN+1,rfl,by omega,by omega,by omega,rfl, .inr ⟨hv,rfl,fun j hj hvj=>?_⟩,x317⟩
    rcases hbest with ⟨_,h2⟩ | ⟨h1,_⟩
    .rcases Nat.lt_or_ge j kN with h | h
     .exact (h2 j h hvj).elim
     .have:j=kN:=by omega
      subst this; exact Int.le_refl _
    .have:=h1.1; omega
   .rcases hbest with ⟨h1,h2⟩ | ⟨h1,h2,h3⟩
    .omega
    refine ⟨L.length - (kN+1),by omega,kN,kN+1,rfl,by omega,by omega,by omega,rfl, .inr ⟨hv,rfl,fun j hj hvj=>?_⟩,x317⟩
    rcases Nat.lt_or_ge j kN with h | h
    .have:=h3 j h hvj
     rw [<- h2] at this
     exact Int.le_trans (Int.le_of_lt hlt) this
    .have:j=kN:=by omega
     subst this; exact Int.le_refl _
   .rcases hbest with ⟨h1,h2⟩ | ⟨h1,h2,h3⟩
    .omega
    refine ⟨L.length - (kN+1),by omega,bN,kN+1,rfl,by omega,by omega,by omega,rfl, .inr ⟨h1,h2,fun j hj hvj=>?_⟩,x317⟩
    rcases Nat.lt_or_ge j kN with h | h
    .exact h3 j h hvj
    .have:j=kN:=by omega
     subst this
     rw [<- h2]
     exact Int.not_lt.1 hge
  .obtain ⟨e1,e2⟩:=hbest.end_ (fun j hj hv=>by have:=hv.2.1; omega) hex
   exact ⟨bN,rfl,e1,e2,x9⟩
 rintro _ best w19 ⟨bN,rfl,hb0,hsp,x19⟩
 refine If.beq (fun h=>by omega) fun _=>?_
 have hlt:bN < L.length:=by have:=hsp.v.2.1; omega
 refine ld3 (get_no g3 x19) (gcut_spec (nd.no (x03.no x19)) (by omega) (by simpa using hlt) hl hs fun sa La sb Lb st w22 na ea nb eb ost x22=>?_)
 have x322:=x19.no x22
 refine st3 (get_no g13 x322) rfl fun w23 g23' x23 z23=>st3 (get_ext (get_no g23 x322) x23 (by omega)) rfl fun w24 g24 x24 z24=>ret2 (get_ext g23' x24 (by omega)) g24 (by omega) fun w26 x26 z26=>?_
 have s322:=x322.size
 have s19:=x19.size
 have xf:Ext (fun q=>q=b1∨q=b2) w22 w26:=((x23.mono fun _ _ h => .inl h).trans x24 fun _ _ h => .inr h).trans x26 fun _ _ h=>h
 rw [Int.toNat_natCast] at ea eb
 refine k0 bN sa La sb Lb st w26 (by omega) hsp ((na.ext xf fun q h1 h2 h=>by omega).mono (by omega)) ea ((nb.ext xf fun q h1 h2 h=>by omega).mono (by omega)) eb ?_ ((x03.no x322).trans xf fun q h1 h=>by omega)
 have:(ents L)[bN]'(by omega)=L[bN].2:=by simp
 rw [this]
 exact (Own.mono (ost.ext xf fun q hq h=>by have:=(ost.lt hq).1; omega) (by omega))
theorem low_spec{kind lev:Int}{s:Sl}{L:List (EntV×Ent)}{K:Bool->Wd->Prop}(nd:NdR w.heap s L)(hr:RightP kind lev (ents L))(hl:L.length<=4096)(k:∀ w',Ext No w w'->K (decide (3 * (wr kind lev (ents L)).length < 224)) w'):C_graft_Low kind lev s w K:=by
 apply S_graft_Low
 refine NewW.mk fun b w1 n1=>ld3 n1.get (size_spec (nd.no n1.ext) (by omega) (fun w2 _ x2=>If.beq (fun _=>?_) fun h=>(h rfl).elim) fun c w2 hn _ _=>(hn hr).elim)
 have h1:=(hr.short (by omega:L.length<=65536))
 have h2:(wr kind lev (ents L)).length<=4096 * 4194304+3:=by
  have:=wr_take_le (kind:=kind) h1 L.length
  rw [List.take_of_length_le (by simp)] at this
  have h3:L.length * 4194304<=4096 * 4194304:=Nat.mul_le_mul_right _ hl
  unfold wr; simp only [List.length_append,List.length_cons,List.length_nil]; omega
 refine Ar.i64 (by omega) ?_
 have e:decide (3 * ((wr kind lev (ents L)).length:Int) < 224)=decide (3 * (wr kind lev (ents L)).length < 224):=by rw [decide_eq_decide]; omega
 rw [e]
 exact k w2 (n1.ext.no x2)
end
end Go.Proofs.YtcamoanigdfihaaGreat
namespace Go.V
def hdK(k:List Int):List Ent->List Ent
 | []=>[]
 | e::l=>{ e with key:=k }::l
def joinL(kind:Int)(la:List Ent)(above:List Int)(lb:List Ent):List Ent:=la++(if kind=2 then hdK above lb else lb)
theorem hdK_len(k:List Int)(l:List Ent):(hdK k l).length=l.length:=by cases l <;> rfl
theorem joinL_len(kind:Int)(la:List Ent)(above:List Int)(lb:List Ent):(joinL kind la above lb).length=la.length+lb.length:=by
 unfold joinL; split <;> simp [hdK_len]
structure LimbV where
 sep:Sl
 key:List Int
 s:Sl
 L:List (EntV×Ent)
def limbCs(kind lev:Int)(x:LimbV):List Value:=[.slice x.sep.a x.sep.len x.sep.cap, .int .u8 kind, .int .u8 lev, .slice x.s.a x.s.len x.s.cap]
structure LimbsR(h:Array Obj)(B:Nat->Prop)(kind lev:Int)(sl:Sl)(ls:List LimbV):Prop where
 rd:Rd h sl 4 (ls.flatMap (limbCs kind lev))
 nd:∀ x∈ls,NdQ h B x.s x.L
 sep:∀ x∈ls,Rd h x.sep 1 (x.key.map (Value.int .u8))/\B8 x.key/\∀ b,x.sep.blk=some b->B b/\b < h.size
 sb:∀ b,sl.blk=some b->B b/\b < h.size
theorem LimbsR.ext{S B:Nat->Prop}{w w':Wd}{kind lev:Int}{sl:Sl}{ls:List LimbV}(r:LimbsR w.heap B kind lev sl ls)(x:Ext S w w')(hS:∀ b,B b->b < w.heap.size->¬ S b):LimbsR w'.heap B kind lev sl ls :=
 ⟨r.rd.ext x fun a b ha hb=>have:=r.sb b (by simp [Sl.blk,ha,hb]); hS b this.1 this.2,fun y hy=>(r.nd y hy).ext x hS,
  fun y hy=>⟨(r.sep y hy).1.ext x fun a b ha hb=>have:=(r.sep y hy).2.2 b (by simp [Sl.blk,ha,hb]); hS b this.1 this.2,(r.sep y hy).2.1,fun b hb=>have:=(r.sep y hy).2.2 b hb; ⟨this.1,Nat.lt_of_lt_of_le this.2 x.size⟩⟩,fun b hb=>have:=r.sb b hb; ⟨this.1,Nat.lt_of_lt_of_le this.2 x.size⟩⟩
theorem LimbsR.no{B:Nat->Prop}{w w':Wd}{kind lev:Int}{sl:Sl}{ls:List LimbV}(r:LimbsR w.heap B kind lev sl ls)(x:Ext No w w'):LimbsR w'.heap B kind lev sl ls:=r.ext x fun _ _ _ h=>h
theorem LimbsR.mono{h:Array Obj}{B B':Nat->Prop}{kind lev:Int}{sl:Sl}{ls:List LimbV}(r:LimbsR h B kind lev sl ls)(hB:∀ b,b < h.size->B b->B' b):LimbsR h B' kind lev sl ls :=
 ⟨r.rd,fun y hy=>(r.nd y hy).mono hB,fun y hy=>⟨(r.sep y hy).1,(r.sep y hy).2.1,fun b hb=>have:=(r.sep y hy).2.2 b hb; ⟨hB b this.2 this.1,this.2⟩⟩,fun b hb=>have:=r.sb b hb; ⟨hB b this.2 this.1,this.2⟩⟩
theorem limbCs_len(kind lev:Int)(ls:List LimbV):∀ x∈ls,(limbCs kind lev x).length=4:=fun _ _=>rfl
theorem LimbsR.len{h:Array Obj}{B:Nat->Prop}{kind lev:Int}{sl:Sl}{ls:List LimbV}(r:LimbsR h B kind lev sl ls):sl.len=ls.length:=by
 have:=r.rd.len; rw [flat_len' (limbCs_len kind lev ls)] at this; omega
inductive PartsP (kind lev:Int):List Ent->List (List Int×List Ent)->Prop
 | nil:PartsP kind lev [] []
 | one {l:List Ent} (hne:l≠[]) (hr:RightP kind lev l) (hs:(wr kind lev l).length<=224):PartsP kind lev l [([],l)]
 | two {l:List Ent} {k:Nat} (hr:RightP kind lev l) (hb:224 < (wr kind lev l).length) (h:SplitP kind lev l k) (hk:k < l.length):PartsP kind lev l [([],l.take k),(l[k].key,cutR kind (l.drop k))]
def limbsOf(ls:List LimbV):List (List Int×List Ent):=ls.map fun x=>(x.key,x.L.map Prod.snd)
end Go.V
namespace Go.Proofs.YtcamoanigdfihaaGreat
open Go.V
section
variable {w:Wd}
set_option maxHeartbeats 2000000 in
theorem one_spec{kind lev:Int}{sa sb ab:Sl}{La Lb:List (EntV×Ent)}{above:List Int}{K:Int->Int->Sl->Bool->Wd->Prop}(na:NdR w.heap sa La)(nb:NdR w.heap sb Lb)(hab:RdB w.heap ab above)(h8:B8 above)(hra:RightP kind lev (ents La))(hrb:RightP kind lev (ents Lb))(hla:La.length<=2000)(hlb:Lb.length<=2000)(hk:above.length<=65536)
  (hj:RightP kind lev (joinL kind (ents La) above (ents Lb))) (k:∀ s L w',NdO w'.heap w.heap.size s L->ents L=joinL kind (ents La) above (ents Lb)->Ext No w w'->K kind lev s true w'):C_graft_one kind lev sa kind lev sb ab w K:=by
 apply S_graft_one
 refine NewW.mk fun b w1 n1=>NewW.mk fun b1 w2 n2=>NewW.mk fun b2 w3 n3=>?_
 have hb:=n1.at_; have hb1:=n2.at_; have hb2:=n3.at_; have z1:=n1.size; have z2:=n2.size; have z3:=n3.size
 have x03:Ext No w w3:=(n1.ext.no n2.ext).no n3.ext
 have g3:NdB w3.heap b kind lev sa:=get_no (get_no n1.get n2.ext) n3.ext
 have g13:NdB w3.heap b1 kind lev sb:=get_no n2.get n3.ext
 have g23:=n3.get
 refine ⟨fun w'=>Ext No w3 w',?_,?_⟩
 .refine ld3 g3 (right_spec (na.no x03) (by omega) (fun w4 _ x4=>If.bne (fun h=>(h rfl).elim) fun _=>?_) fun c w4 hn _ _=>(hn hra).elim)
  refine ld3 (get_no g13 x4) (right_spec (nb.no (x03.no x4)) (by omega) (fun w6 _ x6=>If.bne (fun h=>(h rfl).elim) fun _=>?_) fun c w4 hn _ _=>(hn hrb).elim)
  have x36:=x4.no x6
  exact ⟨_,Cell.lst (get_no g3 x36) rfl,_,Cell.lst (get_no g13 x36) rfl,If.bne (fun h=>(h rfl).elim) fun _=>⟨_,Cell.lst (get_no g3 x36) rfl,_,Cell.lst (get_no g13 x36) rfl,If.bne (fun h=>(h rfl).elim) fun _=>x36⟩⟩
 intro _ w10 x10
 have g10:=get_no g3 x10
 have g110:=get_no g13 x10
 have x010:=x03.no x10
 refine ⟨_,Cell.lst g10 rfl,_,Cell.lst g10 rfl,sa,Cell.lst g10 rfl,sb,Cell.lst g110 rfl,NewW.mk fun b3 w11 n11=>?_⟩
 have x011:=x010.no n11.ext
 have lr:LsR w11.heap ⟨some ⟨b3,0,none⟩,2,2⟩ [(sa,La),(sb,Lb)]:=⟨(Own.new (n:=2) (sz:=1) (cs:=[sa.v,sb.v]) n11 rfl (by simp [oneC,Sl.v])).rd,fun p hp=>by
  simp only [List.mem_cons,List.not_mem_nil,or_false] at hp
  rcases hp with h | h <;> subst h
  .exact na.no x011
  .exact nb.no x011⟩
 have s10:=x10.size
 refine gnode_spec lr (by simp) (by simp; omega) (by intro p hp; simp only [List.mem_cons,List.not_mem_nil,or_false] at hp; rcases hp with h | h <;> subst h; exact hra.smallL; exact hrb.smallL) fun s L w12 nL eL x12=>NewW.mk fun b4 w13 n13=>st3 n13.get rfl fun w14 g14 x14 z14=>⟨_,Cell.lst g14 rfl,?_⟩
 have eL':ents L=ents La++ents Lb:=by rw [eL]; simp
 have hb4:=n13.at_; have z13:=n13.size; have s12:=x12.size; have z11:=n11.size
 have x1014:Ext No w10 w14:=((n11.ext.no x12).no n13.ext).trans x14 fun q hq h=>by omega
 have x014:=x010.no x1014
 have x1214:Ext (·=b4) w12 w14:=n13.ext.of_no.trans x14 fun q _ h=>h
 have nd14:NdO w14.heap w.heap.size s L:=(nL.ext x1214 fun q h1 h2 h=>by omega).mono (by have:=x011.size; omega)
 have nd14':NdO w14.heap w11.heap.size s L:=nL.ext x1214 fun q h1 h2 h=>by omega
 have sb:∀ q,s.blk=some q->w11.heap.size<=q/\q < w14.heap.size:=fun q hq=>nd14'.own.lt hq
 have lL:L.length=La.length+Lb.length:=by have:=congrArg List.length eL'; simpa using this
 have hll:(0:Int)<=(sa.len:Int):=by omega
 have nla:=na.len
 refine If.beq (fun h2=>?_) fun h2=>?_
 .have hb0:0 < Lb.length:=by
   have:=hrb.some h2
   cases Lb with
   | nil=>exact (this rfl).elim
   | cons=>simp
  have g014:=get_no g10 x1014
  have nb4:¬ (w14.heap.size<=b4∨s.blk=some b4):=fun h=>by
   rcases h with h | h
   .omega
   .have:=nL.own.lt h; omega
  have nb0:¬ (w14.heap.size<=b∨s.blk=some b):=fun h=>by
   rcases h with h | h
   .omega
   .have:=sb b h; omega
  refine ⟨Ext (fun q=>w14.heap.size<=q∨s.blk=some q) w14,(Ext.refl _ _).drew,s,Held.but (Cell.lst g14 rfl) nb4,sa,Held.but (Cell.lst g014 rfl) nb0,NewW.mk fun b5 w15 n15=>⟨(n15.ext.drew_left).of_no,?_⟩⟩
  have x15:Ext No w14 w15:=n15.ext.drew_left
  have z15:w15.heap.size=w14.heap.size+1:=n15.size
  have hb5:b5=w14.heap.size:=n15.at_
  refine appQ (w0:=w14) (Q:=fun q=>w14.heap.size<=q) x15.of_no (fun i hi=>by simp [Sl.blk] at hi; omega) (fun i hi=>hi) (OwnB.new (w:=drewW w14) (l:=[]) (n:=0) n15 rfl) (by show w14.heap.size<=_; omega) (Rd.no hab (x014.no x15)) (by simp; omega) fun st w16 o16 q16 x16=>⟨x16.mono fun _ _ h => .inl h,?_⟩
  have nd16:NdO w16.heap w11.heap.size s L:=nd14'.ext x16 fun q h1 h2 h=>by omega
  have o16':OwnB w16.heap w14.heap.size st above:=by
   have:OwnB w16.heap w14.heap.size st ([]++above):=o16
   rw [List.nil_append] at this; exact this
  have stb:∀ q,st.blk=some q->w14.heap.size<=q/\q < w16.heap.size:=fun q hq=>o16'.lt hq
  refine NdQ.key (key:=above) (B:=fun q=>w11.heap.size<=q) (nd16.q fun _ h _=>h) hll (by show sa.len < L.length; omega) o16'.rd h8 (fun q hq=>⟨by have:=stb q hq; omega,(stb q hq).2,fun h=>by have:=sb q h; have:=stb q hq; omega⟩) fun w17 nd17 x17 z17=>?_
  have hiL:sa.len < L.length:=by omega
  have eJ:ents (L.set sa.len (setK st above L[sa.len]))=joinL kind (ents La) above (ents Lb):=by
   rw [show ents (L.set sa.len (setK st above L[sa.len]))=(ents L).set sa.len { L[sa.len].2 with key:=above } from List.map_set]
   have e2:(ents L)[sa.len]? = some L[sa.len].2:=by simp [hiL]
   rw [eL',List.getElem?_append_right (by simp; omega)] at e2
   unfold joinL
   rw [eL',if_pos h2,List.set_append_right _ _ (by simp; omega)]
   have e3:sa.len - (ents La).length=0:=by simp; omega
   rw [e3] at e2 ⊢
   cases hB:ents Lb with
   | nil=>rw [hB] at e2; simp at e2
   | cons e l=>rw [hB] at e2; simp only [List.getElem?_cons_zero,Option.some.injEq] at e2; rw [<- e2]; rfl
  have hset:L.set ((sa.len:Nat):Int).toNat (setK st above (L[((sa.len:Nat):Int).toNat]'hiL))=L.set sa.len (setK st above L[sa.len]):=rfl
  rw [hset] at nd17
  have x1417:Ext (fun q=>w14.heap.size<=q∨s.blk=some q) w14 w17:=(x16.mono fun _ _ h => .inl h).trans x17 fun _ _ h => .inr h
  have g17:=get_ext g14 x1417 nb4
  have nL17:(L.set sa.len (setK st above L[sa.len])).length<=4294967296:=by rw [List.length_set]; omega
  have nb2:¬ (w14.heap.size<=b2∨s.blk=some b2):=fun h=>by
   rcases h with h | h
   .omega
   .have:=sb b2 h; omega
  refine ⟨Ext (·=b2) w17,(Ext.refl _ _).drew,hd3 (k:=kind) g17 (by omega) (hd3 g17 (by omega) (right_spec (w:=drewW w17) nd17.nd nL17 (fun w18 _ x18=>⟨x18.drew_left.of_no,st3 (get_no (get_ext (get_no (get_no g23 x10) x1014) x1417 nb2) x18.drew_left) rfl fun w19 g19 x19 z19=>⟨x18.drew_left.of_no.trans x19 fun _ _ h=>h,ld3 g19 ?_⟩⟩) (fun c w20 hn _ _=>(hn (by rw [eJ]; exact hj)).elim)))⟩
  refine k s _ w19 (((nd17.o.no x18.drew_left).ext x19 fun q h1 h2 h=>by omega).mono (by have:=x011.size; omega)) eJ ?_
  refine (((x014.trans x1417 fun q hq h=>?_).no x18.drew_left).trans x19 fun q hq h=>by omega)
  have:=x014.size; have:=x011.size
  rcases h with h | h
  .omega
  .have:=sb q h; omega
 .have eJ:ents L=joinL kind (ents La) above (ents Lb):=by unfold joinL; rw [if_neg h2]; exact eL'
  refine ⟨Ext (·=b2) w14,(Ext.refl _ _).drew,hd3 (k:=kind) g14 (by omega) (hd3 g14 (by omega) (right_spec (w:=drewW w14) nd14.nd (by omega) (fun w20 _ x20=>⟨x20.drew_left.of_no,st3 (get_no (get_no g23 x10) (x1014.no x20.drew_left)) rfl fun w21 g21 x21 z21=>⟨x20.drew_left.of_no.trans x21 fun _ _ h=>h,ld3 g21 ?_⟩⟩) (fun c w20 hn _ _=>(hn (by rw [eJ]; exact hj)).elim)))⟩
  exact k s L w21 (((nd14'.no x20.drew_left).ext x21 fun q h1 h2 h=>by omega).mono (by have:=x011.size; omega)) eJ ((x014.no x20.drew_left).trans x21 fun q hq h=>by omega)
end
end Go.Proofs.YtcamoanigdfihaaGreat
