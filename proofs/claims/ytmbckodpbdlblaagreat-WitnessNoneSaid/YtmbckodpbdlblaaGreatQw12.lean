/- Texts for LWitnessNone, part 12. -/
import Derived.Laws.Externs
import Derived.Test.YtmbckodpbdlblaaGreatQw11
namespace Go.V
def cmpB:List Int->List Int->Int
 | [],[]=>0
 | [],_::_ => -1
 | _::_,[]=>1
 | x::a,y::b=>if x < y then -1 else if y < x then 1 else cmpB a b
theorem cmpB_vals:∀(a b:List Int),cmpB a b = -1∨cmpB a b=0∨cmpB a b=1
 | [],[] => .inr (.inl rfl)
 | [],_::_ => .inl rfl
 | _::_,[] => .inr (.inr rfl)
 | x::a,y::b=>by
  simp only [cmpB]
  split
  .simp
  .split
   .simp
   .exact cmpB_vals a b
def LtB(a b:List Int):Prop:=cmpB a b = -1
instance (a b:List Int):Decidable (LtB a b):=inferInstanceAs (Decidable (_=_))
theorem cmpB_ge{a b:List Int}:cmpB a b≥0 ↔ ¬ LtB a b:=by
 unfold LtB; rcases cmpB_vals a b with h | h | h <;> rw [h] <;> decide
theorem compareBytes_eq:∀{a b:List Int},B8 a->B8 b->Lib.compareBytes (Lib.bytesOf a) (Lib.bytesOf b)=cmpB a b
 | [],[],_,_=>rfl
 | [],_::_,_,_=>rfl
 | _::_,[],_,_=>rfl
 | x::a,y::b,h,k=>by
  have hx:=h x List.mem_cons_self
  have hy:=k y List.mem_cons_self
  have ih:=compareBytes_eq (h.sub fun _ h=>List.mem_cons_of_mem _ h) (k.sub fun _ h=>List.mem_cons_of_mem _ h)
  have hl:∀{x y:Int},(0<=x/\x<=255)->(0<=y/\y<=255)->(UInt8.ofNat x.toNat < UInt8.ofNat y.toNat ↔ x < y):=fun {x y} hx hy=>by
   rw [UInt8.lt_iff_toNat_lt,UInt8.toNat_ofNat',UInt8.toNat_ofNat',Nat.mod_eq_of_lt (by omega),Nat.mod_eq_of_lt (by omega)]
   omega
  simp only [Lib.bytesOf,List.map_cons,Lib.compareBytes,cmpB,hl hx hy,hl hy hx]
  rw [show Lib.compareBytes (a.map fun n=>UInt8.ofNat n.toNat) (b.map fun n=>UInt8.ofNat n.toNat)=cmpB a b from ih]
theorem run_bytesOf{P:Program}{w:Wd}{s:Sl}{l:List Int}(h:Rd w.heap s 1 (l.map (Value.int .u8))):(Extern.Bytes.bytesOf s.v).run P w = .ok ⟨(Lib.bytesOf l).toArray⟩ w:=by
 have hl:s.len=l.length:=by have:=h.len; simp at this; exact this.symm
 obtain ⟨sa,sl,sc⟩:=s
 simp only at hl
 subst hl
 cases sa with
 | none =>
  have:l=[]:=by
   rcases Classical.em (l=[]) with h' | h'
   .exact h'
   .obtain ⟨_,_,ha,_⟩:=Rd.at_ h (by simpa using h')
    cases ha
  subst this
  rfl
 | some a =>
  show Sem.run P (Extern.Bytes.loadBytes a l.length .empty) w=_
  rw [Lib.run_loadBytesX w l a .empty fun j x hj=>?_]
  .congr 1
   apply ByteArray.ext
   show (#[]:Array UInt8)++(Lib.bytesOf l).toArray=(Lib.bytesOf l).toArray
   simp
  .have hjl:j < l.length:=(List.getElem?_eq_some_iff.1 hj).1
   obtain ⟨b,o,ha,hc⟩:=Rd.at_ h (by intro e; rw [List.map_eq_nil_iff] at e; subst e; simp at hjl)
   simp only [Option.some.injEq] at ha
   subst ha
   rw [addr_add_none rfl,cell_eq,hc j (by simpa using hjl),List.getElem_map]
   rw [List.getElem?_eq_getElem hjl] at hj
   rw [Option.some.inj hj]
theorem Own.pre{h:Array Obj}{base:Nat}{e:TypeId}{sz:Nat}{s:Sl}{cs:List Value}{hi:Int}{K:Sl->Prop}(o:Own h base e sz s cs)(h0:0<=hi)(h1:hi<=(s.len:Int))
  (k:∀ s',Own h base e sz s' (cs.take (hi.toNat * sz))->s'.blk=s.blk->s'.len=hi.toNat->s'.cap=s.cap->K s'):Cut s 0 hi (((s.cap:Nat):Int)) sz K:=by
 have hcap:=o.rd.cap
 have hlen:=o.len
 refine Cut.mk (Int.le_refl _) h0 (by omega) (Int.le_refl _) ?_
 rcases o.is with ⟨rfl,rfl⟩ | ⟨b,rest,ha,hle,hblk,hl,hc⟩
 .have:hi=0:=by simp at h1; omega
  subst this
  exact k _ (by simpa [cutA] using Own.nil h base e sz) (by simp [cutA]) rfl rfl
 .have e1:cutA s.a s.cap 0 sz=s.a:=by
   unfold cutA
   split
   .rfl
   .rw [ha]; simp [addr_add_none]
  have hle2:hi.toNat * sz<=s.len * sz:=Nat.mul_le_mul_right _ (by omega)
  rw [show ((s.cap:Nat):Int).toNat=s.cap from rfl,show Int.toNat 0=0 from rfl,e1,show (hi - 0).toNat=hi.toNat by omega,show (((s.cap:Nat):Int) - 0).toNat=s.cap by omega]
  refine k _ ⟨by rw [List.length_take]; simp only; omega, .inr ⟨b,cs.drop (hi.toNat * sz)++rest,ha,hle,?_,?_,by simp only; omega⟩,fun v hv=>o.cells v (List.mem_of_mem_take hv)⟩ rfl rfl rfl
  .rw [<- List.append_assoc,List.take_append_drop]; exact hblk
  .rw [<- List.append_assoc,List.take_append_drop]; exact hl
end Go.V
namespace Go.Proofs.YtmbckodpbdlblaaGreat
open Go.V
section
variable {w:Wd}
theorem compare_spec{a b:Sl}{x y:List Int}{K:Int->Wd->Prop}(ha:RdB w.heap a x)(hb:RdB w.heap b y)(hx:B8 x)(hy:B8 y)(k:K (cmpB x y) w):C_bytes_Compare a b w K:=by
 apply S_bytes_Compare
 refine ⟨cmpB x y,w,?_,k⟩
 rw [run_callFunc_extern (e:=Extern.BytealgCompare.compare) Tryz.func386 (by kernel_rfl) (by kernel_rfl) (by kernel_rfl) (by kernel_rfl)]
 change (Sem.run pz (do pure (goInt (Extern.BytealgCompare.cmp (<- Extern.Bytes.bytesOf a.v) (<- Extern.Bytes.bytesOf b.v)))) w).andThen _=_
 simp only [Sem.run_bind,run_bytesOf ha,run_bytesOf hb,Sem.run_pure,Result.andThen]
 rw [Lib.cmp_eq,<- compareBytes_eq hx hy]
 rfl
theorem grow_spec{n:Int}{K:Sl->Wd->Prop}(h0:0<=n)(h1:n<=1099511627776)(k:∀ s w',OwnB w'.heap w.heap.size s []->Ext No w w'->K s w'):C_slices_Grow_byte_byte ⟨none,0,0⟩ n w K:=by
 apply S_slices_Grow_byte_byte
 refine ⟨fun w'=>w'=w,If.dec (fun h=>by omega) fun _=>rfl,?_⟩
 rintro _ w1 rfl
 refine Ar.i64 (by simp) (Ar.i64 (by simp; omega) (If.dec (fun h=>?_) (fun h=>k _ _ (Own.nil _ _ _ _) (Ext.refl _ _))))
 refine Cut.mk (Int.le_refl _) (by simp) (by simp) (by simp) ?_
 have e:(n - ((0:Nat) - (0:Nat):Int))=(n.toNat:Int):=by simp; omega
 simp only [cutA]
 show AppW pz 22 3 ⟨none,0,0⟩ (.int .i64 (n - ((0:Nat) - (0:Nat):Int))) _ w1
 rw [e]
 refine app_zero (k := .i64) (ie:=Tryz.t5) (z := .int .u8 0) (by kernel_rfl) (by kernel_rfl) (by kernel_rfl) (by kernel_rfl) (by kernel_rfl) (by kernel_rfl) rfl (by kernel_rfl) (Own.nil _ w1.heap.size 5 1) (Nat.le_refl _) (by simp; omega) fun s' w' o hl x _=>?_
 refine Own.pre o (by simp) (by simp) fun s3 o3 _ _ _=>k _ _ (by show Own _ _ 5 1 s3 []; simpa using o3) (x.mono fun _ _ h=>by cases h)
theorem concat_spec{sl:Sl}{ps:List (Sl×List Int)}{K:Sl->Wd->Prop}(hs:Rd w.heap sl 1 (ps.map fun p=>p.1.v))(hp:∀ p∈ps,RdB w.heap p.1 p.2)(hb:((ps.map Prod.snd).flatten).length<=1099511627776)
  (hn:ps.length<=4294967296) (k:∀ s w',OwnB w'.heap w.heap.size s (ps.map Prod.snd).flatten->Ext No w w'->K s w'):C_slices_Concat_byte_byte sl w K:=by
 apply S_slices_Concat_byte_byte
 have hl:sl.len=ps.length:=by have:=hs.len; simp at this; exact this.symm
 have hle:∀ j,((ps.take j).map Prod.snd).flatten.length<=1099511627776:=fun j=>by
  refine Nat.le_trans ?_ hb
  have e:(ps.map Prod.snd).flatten=((ps.take j).map Prod.snd).flatten++((ps.drop j).map Prod.snd).flatten:=by
   rw [<- List.flatten_append,<- List.map_append,List.take_append_drop]
  rw [e,List.length_append]; omega
 have hsnoc:∀ j (h:j < ps.length),((ps.take (j+1)).map Prod.snd).flatten=((ps.take j).map Prod.snd).flatten++ps[j].2:=fun j h=>by
  rw [List.take_add_one,List.getElem?_eq_getElem h]; simp only [Option.toList_some,List.map_append,List.map_cons,List.map_nil,List.flatten_append,List.flatten_cons,List.flatten_nil,List.append_nil]
 refine ⟨fun m n t w'=>w'=w/\∃ j:Nat,t=j/\j<=ps.length/\m=ps.length - j/\n=(((ps.take j).map Prod.snd).flatten.length:Int),⟨ps.length,rfl,0,rfl,by omega,by omega,by simp⟩,?_⟩
 rintro _ m0 n t w1 ⟨rfl,j,rfl,hj,hm,rfl⟩
 refine If.dec (fun h=>Ix.cell hs (by omega) (by omega) fun bb o v _ hv hc=>?_) (fun h=>?_)
 .have hj':j < ps.length:=by omega
  rw [Int.toNat_natCast,List.getElem?_map,List.getElem?_eq_getElem hj'] at hv
  simp only [Option.map_some,Option.some.injEq] at hv
  subst hv
  have hlen:=RdB.len (hp _ (List.getElem_mem hj'))
  have h1:=hle (j+1)
  rw [hsnoc j hj',List.length_append] at h1
  refine ⟨_,hc,Ar.i64 (by omega) (If.dec (fun h=>by omega) (fun _=>Ar.i64 (by omega) ⟨ps.length - (j+1),by omega,rfl,j+1,by omega,by omega,rfl,?_⟩))⟩
  rw [hsnoc j hj',List.length_append,hlen]; omega
 .refine grow_spec (by omega) (by have:=hle j; omega) fun s0 w2 o2 x2=>?_
  refine ⟨fun m s t w'=>∃ j:Nat,t=j/\j<=ps.length/\m=ps.length - j/\OwnB w'.heap w1.heap.size s ((ps.take j).map Prod.snd).flatten/\Ext No w1 w',⟨ps.length,0,rfl,by omega,by omega,by simpa using o2,x2⟩,?_⟩
  rintro _ m1 s1 t1 w3 ⟨i,rfl,hi,hm1,o3,x3⟩
  refine If.dec (fun h=>Ix.cell (hs.no x3) (by omega) (by omega) fun bb o v _ hv hc=>?_) (fun h=>?_)
  .have hi':i < ps.length:=by omega
   rw [Int.toNat_natCast,List.getElem?_map,List.getElem?_eq_getElem hi'] at hv
   simp only [Option.map_some,Option.some.injEq] at hv
   subst hv
   have hr:=hp _ (List.getElem_mem hi')
   have hlen:=RdB.len hr
   have h1:=hle (i+1)
   rw [hsnoc i hi',List.length_append] at h1
   have h2:=OwnB.len o3
   refine ⟨_,hc,app_uint8 o3 (x3.size) (Rd.no hr x3).src (by omega) fun s' w' o' _ x' _=>Ar.i64 (by omega) ⟨ps.length - (i+1),by omega,i+1,by omega,by omega,rfl,?_,x3.trans x' fun q hq hh=>?_⟩⟩
   .rw [<- List.map_append,<- hsnoc i hi'] at o'; exact o'
   .have:=(o3.lt hh).1; omega
  .have e:i=ps.length:=by omega
   rw [e,List.take_length] at o3
   exact k _ _ o3 x3
end
end Go.Proofs.YtmbckodpbdlblaaGreat
namespace Go.V
structure Rf where
 p:Int
 c:Int
 g:Int
deriving DecidableEq
def Rf.z:Rf:=⟨0,0,0⟩
def Rf.ok(r:Rf):Prop:=(0<=r.p/\r.p<=4294967295)/\(0<=r.c/\r.c<=18446744073709551615)/\(0<=r.g/\r.g<=65535)
instance (r:Rf):Decidable r.ok:=inferInstanceAs (Decidable (_/\_))
def Rf.cs(r:Rf):List Value:=[.int .u32 r.p, .int .u64 r.c, .int .u16 r.g]
structure EntV where
 k:Sl
 v:Sl
 n:Int
 ch:Rf
 cd:Rf
def EntV.cs(x:EntV):List Value:=[.slice x.k.a x.k.len x.k.cap, .slice x.v.a x.v.len x.v.cap, .int .i64 x.n, .int .u32 x.ch.p, .int .u64 x.ch.c, .int .u16 x.ch.g, .int .u32 x.cd.p, .int .u64 x.cd.c, .int .u16 x.cd.g]
structure Ent where
 key:List Int
 val:List Int
 n:Int
 ch:Rf
 cd:Rf
deriving DecidableEq
structure EntR(h:Array Obj)(x:EntV)(e:Ent):Prop where
 k:Rd h x.k 1 (e.key.map (Value.int .u8))
 v:Rd h x.v 1 (e.val.map (Value.int .u8))
 n:x.n=e.n
 ch:x.ch=e.ch
 cd:x.cd=e.cd
 k8:B8 e.key
 v8:B8 e.val
 n64:-9223372036854775808<=e.n/\e.n<=9223372036854775807
 cho:e.ch.ok
 cdo:e.cd.ok
theorem EntR.no{w w':Wd}{x:EntV}{e:Ent}(r:EntR w.heap x e)(h:Ext No w w'):EntR w'.heap x e:=⟨r.k.no h,r.v.no h,r.n,r.ch,r.cd,r.k8,r.v8,r.n64,r.cho,r.cdo⟩
abbrev entCs(p:EntV×Ent):List Value:=p.1.cs
theorem entCs_len(L:List (EntV×Ent)):∀ p∈L,(entCs p).length=9:=fun _ _=>rfl
structure NdR(h:Array Obj)(s:Sl)(L:List (EntV×Ent)):Prop where
 rd:Rd h s 9 (L.flatMap entCs)
 ent:∀ p∈L,EntR h p.1 p.2
theorem NdR.no{w w':Wd}{s:Sl}{L:List (EntV×Ent)}(r:NdR w.heap s L)(h:Ext No w w'):NdR w'.heap s L:=⟨r.rd.no h,fun p hp=>(r.ent p hp).no h⟩
theorem NdR.len{h:Array Obj}{s:Sl}{L:List (EntV×Ent)}(r:NdR h s L):s.len=L.length:=by
 have:=r.rd.len; rw [flat_len' (entCs_len L)] at this; omega
theorem blt{h:Array Obj}{b:Nat}{o:Obj}(e:h[b]? = some o):b < h.size:=by
 rcases Nat.lt_or_ge b h.size with k | k
 .exact k
 .rw [Array.getElem?_eq_none k] at e; cases e
theorem get_no{w w':Wd}{b:Nat}{o:Obj}(h:w.heap[b]? = some o)(x:Ext No w w'):w'.heap[b]? = some o:=by
 rw [x.blk b (blt h) (fun h=>h)]; exact h
section
variable {w:Wd}
theorem ent_load{s:Sl}{L:List (EntV×Ent)}{t:Int}{K:Sl->Sl->Int->Int->Int->Int->Int->Int->Int->Prop}(r:Rd w.heap s 9 (L.flatMap entCs))(h0:0<=t)(h1:t < (s.len:Int))
  (k:∀(hi:t.toNat < L.length),K L[t.toNat].1.k L[t.toNat].1.v L[t.toNat].1.n L[t.toNat].1.ch.p L[t.toNat].1.ch.c L[t.toNat].1.ch.g L[t.toNat].1.cd.p L[t.toNat].1.cd.c L[t.toNat].1.cd.g) :
  Ix s.a s.len t 9 fun a=>∃ c:Sl,Cell w a (.slice c.a c.len c.cap)/\∃ c_1:Sl,Cell w (a.add 1) (.slice c_1.a c_1.len c_1.cap)/\∃ c_2:Int,Cell w (a.add 2) (.int .i64 c_2)/\∃ c_3:Int,Cell w (a.add 3) (.int .u32 c_3) /\
   ∃ c_4:Int,Cell w (a.add 4) (.int .u64 c_4)/\∃ c_5:Int,Cell w (a.add 5) (.int .u16 c_5)/\∃ c_6:Int,Cell w (a.add 6) (.int .u32 c_6)/\∃ c_7:Int,Cell w (a.add 7) (.int .u64 c_7)/\∃ c_8:Int,Cell w (a.add 8) (.int .u16 c_8)/\K c c_1 c_2 c_3 c_4 c_5 c_6 c_7 c_8 :=
 Ix.elem r (entCs_len L) (by decide) h0 h1 fun b o hi _ hc =>
  ⟨_,hc 0 _ rfl,_,hc 1 _ rfl,_,hc 2 _ rfl,_,hc 3 _ rfl,_,hc 4 _ rfl,_,hc 5 _ rfl,_,hc 6 _ rfl,_,hc 7 _ rfl,_,hc 8 _ rfl,k hi⟩
theorem ent_read{b:Nat}{x:EntV}{T:TypeId}{K:Sl->Sl->Int->Int->Int->Int->Int->Int->Int->Prop}(hb:w.heap[b]? = some (.cells x.cs.toArray T (0,0)))(k:K x.k x.v x.n x.ch.p x.ch.c x.ch.g x.cd.p x.cd.c x.cd.g) :
  ∃ c:Sl,Cell w (Addr.mk b 0 none) (.slice c.a c.len c.cap)/\∃ c_1:Sl,Cell w ((Addr.mk b 0 none).add 1) (.slice c_1.a c_1.len c_1.cap)/\∃ c_2:Int,Cell w ((Addr.mk b 0 none).add 2) (.int .i64 c_2)/\∃ c_3:Int,Cell w ((Addr.mk b 0 none).add 3) (.int .u32 c_3) /\
   ∃ c_4:Int,Cell w ((Addr.mk b 0 none).add 4) (.int .u64 c_4)/\∃ c_5:Int,Cell w ((Addr.mk b 0 none).add 5) (.int .u16 c_5)/\∃ c_6:Int,Cell w ((Addr.mk b 0 none).add 6) (.int .u32 c_6)/\∃ c_7:Int,Cell w ((Addr.mk b 0 none).add 7) (.int .u64 c_7)/\∃ c_8:Int,Cell w ((Addr.mk b 0 none).add 8) (.int .u16 c_8)/\K c c_1 c_2 c_3 c_4 c_5 c_6 c_7 c_8 :=
 ⟨_,Cell.lst hb rfl,_,Cell.lst hb rfl,_,Cell.lst hb rfl,_,Cell.lst hb rfl,_,Cell.lst hb rfl,_,Cell.lst hb rfl,_,Cell.lst hb rfl,_,Cell.lst hb rfl,_,Cell.lst hb rfl,k⟩
theorem new_set{zs vs:List Value}{T:TypeId}{K:Nat->Wd->Prop}{n:Nat}(hl:vs.length=n)(hz:zs.length=n)(hv:∀ v∈vs,oneC v=true)
  (k:∀ b w',w'.heap[b]? = some (.cells vs.toArray T (0,0))->b=w.heap.size->w'.heap.size=w.heap.size+1->Ext No w w'->K b w'):NewW w (.cells zs.toArray T) fun b w1=>List.length (α:=Value) vs=n/\StN w1 (Addr.mk b 0 none) vs fun w2=>K b w2:=by
 intro b w1 hn
 refine ⟨hl,zs.toArray,T,(0,0),hn.get,rfl,by simp [hl,hz], .inr (.inr (Nat.le_refl _)),hv,fun w2 hw=>?_⟩
 have e:setL zs 0 vs=vs:=setL_all _ _ (by omega)
 have hw':Wrt w1 b (.cells vs.toArray T (0,0)) w2:=by rw [<- e]; exact hw
 refine k b w2 (hw'.get hn.get) hn.at_ (by rw [hw'.size,hn.size]) (hn.ext.trans hw'.ext fun q hq h=>?_)
 have:=hn.at_; rw [h] at hq; omega
theorem refeq(a b:Rf):((a.p == b.p) && ((a.c == b.c) && ((a.g == b.g) && true)))=decide (a=b):=by
 obtain ⟨a1,a2,a3⟩:=a; obtain ⟨b1,b2,b3⟩:=b
 rw [Bool.eq_iff_iff]; simp
end
def shapeP(kind lev:Int):Prop:=kind=1/\lev=0∨kind=2/\1<=lev/\lev<=30
instance (a b:Int):Decidable (shapeP a b):=inferInstanceAs (Decidable (_∨_))
def keyP(kind i len:Int):Prop:=if kind=2/\i=0 then len=0 else 1<=len/\len<=32
instance (a b c:Int):Decidable (keyP a b c):=inferInstanceAs (Decidable (ite _ _ _))
def entP(kind i:Int)(e:Ent):Prop:=keyP kind i e.key.length/\(if kind=2 then e.cd ≠ .z/\e.ch = .z/\e.val.length=0/\e.n=0 else e.cd = .z/\(if e.n=0 then e.ch = .z/\e.val.length<=64 else e.n > 64/\e.n<=1024/\e.ch ≠ .z/\e.val.length=0))
instance (a b:Int) (e:Ent):Decidable (entP a b e):=inferInstanceAs (Decidable (_/\_))
structure RightP(kind lev:Int)(l:List Ent):Prop where
 shape:shapeP kind lev
 some:kind=2->l≠[]
 ent:∀ i (h:i < l.length),entP kind i l[i]
 ord:∀ i (h:i+1 < l.length),LtB l[i].key l[i+1].key
def refB(r:Rf):List Int:=be 4 r.p++be 8 r.c++be 2 r.g
def wrE(kind:Int)(e:Ent):List Int:=(e.key.length % 256:Int)::e.key++(if kind=2 then refB e.cd else if e.n > 0 then [1,e.n / 256 % 256,e.n % 256]++refB e.ch else [0,(e.val.length % 256:Int)]++e.val)
def wr(kind lev:Int)(l:List Ent):List Int:=[kind,lev,(l.length % 256:Int)]++l.flatMap (wrE kind)
theorem refB_len(r:Rf):(refB r).length=14:=by simp [refB,be_len]
end Go.V
namespace Go.Proofs.YtmbckodpbdlblaaGreat
open Go.V
section
variable {w:Wd}
theorem shape_spec{kind lev:Int}{K:Bool->Wd->Prop}(k:K (decide (shapeP kind lev)) w):C_slot_shape kind lev w K:=by
 apply S_slot_shape
 have yes:shapeP kind lev->K true w:=fun h=>by rw [decide_eq_true h] at k; exact k
 have no:¬ shapeP kind lev->K false w:=fun h=>by rw [decide_eq_false h] at k; exact k
 have two:kind=2->1<=lev->K (decide (lev<=30)) w:=fun a b=>by
  have:decide (lev<=30)=decide (shapeP kind lev):=by rw [decide_eq_decide]; unfold shapeP; omega
  rw [this]; exact k
 refine If.beq (fun h=>If.beq (fun h'=>yes (.inl ⟨h,h'⟩)) (fun h'=>If.beq (fun h2=>by omega) fun h2=>no (by unfold shapeP; omega))) (fun h=>If.beq (fun h2=>If.dec (fun h3=>two h2 h3) fun h3=>no (by unfold shapeP; omega)) fun h2=>no (by unfold shapeP; omega))
theorem key_spec{kind i n:Int}{K:Bool->Wd->Prop}(k:K (decide (keyP kind i n)) w):C_slot_key kind i n w K:=by
 apply S_slot_key
 refine ⟨fun w'=>w'=w/\¬ (kind=2/\i=0),If.beq (fun h=>If.beq (fun h'=>?_) fun h'=>⟨rfl,by omega⟩) (fun h=>⟨rfl,by omega⟩),?_⟩
 .have:(n == 0)=decide (keyP kind i n):=by rw [Bool.eq_iff_iff,decide_eq_true_iff,beq_iff_eq]; unfold keyP; rw [if_pos ⟨h,h'⟩]
  rw [this]; exact k
 .rintro _ w1 ⟨rfl,hn⟩
  refine If.dec (fun h=>?_) (fun h=>?_)
  .have:decide (n<=32)=decide (keyP kind i n):=by rw [decide_eq_decide]; unfold keyP; rw [if_neg hn]; omega
   rw [this]; exact k
  .have:decide (keyP kind i n)=false:=decide_eq_false (by unfold keyP; rw [if_neg hn]; omega)
   rw [this] at k; exact k
theorem entry_spec{kind i:Int}{x:EntV}{e:Ent}{K:Bool->Wd->Prop}(r:EntR w.heap x e)(k:∀ w',Ext No w w'->K (decide (entP kind i e)) w'):C_slot_entry kind i x.k x.v x.n x.ch.p x.ch.c x.ch.g x.cd.p x.cd.c x.cd.g w K:=by
 apply S_slot_entry
 refine NewW.mk fun b w1 h1=>new_set rfl rfl (by decide) fun b1 w3 hb1 _ _ x3=>?_
 have hb:w3.heap[b]? = some (.cells x.cs.toArray 240 (0,0)):=get_no h1.get x3
 have hz:w3.heap[b1]? = some (.cells Rf.z.cs.toArray 36 (0,0)):=hb1
 have xx:Ext No w w3:=h1.ext.no x3
 have k:=k w3 xx
 have hkl:=RdB.len r.k
 have hvl:=RdB.len r.v
 have no:¬ entP kind i e->K false w3:=fun h=>by rw [decide_eq_false h] at k; exact k
 refine ⟨_,Cell.lst hb rfl,key_spec (If.not (If.dec (fun hk=>?_) fun hk=>no fun h=>hk (by rw [hkl]; exact h.1)))⟩
 rw [hkl] at hk
 refine If.beq (fun h2=>?_) (fun h2=>?_)
 .refine ⟨_,Cell.lst hb rfl,_,Cell.lst hb rfl,_,Cell.lst hb rfl,_,Cell.lst hz rfl,_,Cell.lst hz rfl,_,Cell.lst hz rfl,?_⟩
  rw [refeq x.cd .z,r.cd]
  refine If.not (If.dec (fun h=>no fun h'=>?_) fun h=>?_)
  .have:=h'.2; rw [if_pos h2] at this; exact this.1 h
  refine ⟨_,Cell.lst hb rfl,_,Cell.lst hb rfl,_,Cell.lst hb rfl,_,Cell.lst hz rfl,_,Cell.lst hz rfl,_,Cell.lst hz rfl,?_⟩
  rw [refeq x.ch .z,r.ch]
  refine If.dec (fun h'=>?_) fun h'=>no fun h''=>?_
  .refine ⟨_,Cell.lst hb rfl,If.beq (fun h3=>⟨_,Cell.lst hb rfl,?_⟩) fun h3=>no fun h''=>?_⟩
   .have:(x.n == 0)=decide (entP kind i e):=by
     rw [Bool.eq_iff_iff,decide_eq_true_iff,beq_iff_eq]; unfold entP; rw [if_pos h2,r.n]
     exact ⟨fun h4=>⟨hk,h,h',by omega,h4⟩,fun h4=>h4.2.2.2.2⟩
    rw [this]; exact k
   .have:=h''.2; rw [if_pos h2] at this; omega
  .have:=h''.2; rw [if_pos h2] at this; exact h' this.2.1
 .refine ⟨_,Cell.lst hb rfl,_,Cell.lst hb rfl,_,Cell.lst hb rfl,_,Cell.lst hz rfl,_,Cell.lst hz rfl,_,Cell.lst hz rfl,?_⟩
  rw [refeq x.cd .z,r.cd]
  refine If.not (If.dec (fun h=>?_) fun h=>no fun h'=>?_)
  rotate_left
  .have:=h'.2; rw [if_neg h2] at this; exact h this.1
  refine ⟨_,Cell.lst hb rfl,?_⟩
  rw [r.n]
  refine If.beq (fun h3=>?_) fun h3=>?_
  .refine ⟨_,Cell.lst hb rfl,_,Cell.lst hb rfl,_,Cell.lst hb rfl,_,Cell.lst hz rfl,_,Cell.lst hz rfl,_,Cell.lst hz rfl,?_⟩
   rw [refeq x.ch .z,r.ch]
   refine If.dec (fun h'=>⟨_,Cell.lst hb rfl,?_⟩) fun h'=>no fun h''=>?_
   .have:decide ((x.v.len:Int)<=64)=decide (entP kind i e):=by
     rw [decide_eq_decide]; unfold entP; rw [if_neg h2,if_pos h3,hvl]
     exact ⟨fun h4=>⟨hk,h,h',by omega⟩,fun h4=>by have:=h4.2.2.2; omega⟩
    rw [this]; exact k
   .have:=h''.2; rw [if_neg h2,if_pos h3] at this; exact h' this.2.1
  .refine ⟨_,Cell.lst hb rfl,?_⟩
   rw [r.n]
   refine If.dec (fun h4=>⟨_,Cell.lst hb rfl,?_⟩) fun h4=>no fun h''=>?_
   rotate_left
   .have:=h''.2; rw [if_neg h2,if_neg h3] at this; exact h4 this.2.1
   rw [r.n]
   refine If.dec (fun h5=>?_) fun h5=>no fun h''=>?_
   rotate_left
   .have:=h''.2; rw [if_neg h2,if_neg h3] at this; exact h5 this.2.2.1
   refine ⟨_,Cell.lst hb rfl,_,Cell.lst hb rfl,_,Cell.lst hb rfl,_,Cell.lst hz rfl,_,Cell.lst hz rfl,_,Cell.lst hz rfl,?_⟩
   rw [refeq x.ch .z,r.ch]
   refine If.not (If.dec (fun h'=>no fun h''=>?_) fun h'=>⟨_,Cell.lst hb rfl,?_⟩)
   .have:=h''.2; rw [if_neg h2,if_neg h3] at this; exact this.2.2.2.1 h'
   .have:((x.v.len:Int) == 0)=decide (entP kind i e):=by
     rw [Bool.eq_iff_iff,decide_eq_true_iff,beq_iff_eq]; unfold entP; rw [if_neg h2,if_neg h3,hvl]
     exact ⟨fun h6=>⟨hk,h,h4,h5,h',by omega⟩,fun h6=>by have:=h6.2.2.2.2.2; omega⟩
    rw [this]; exact k
end
section
variable {w:Wd}
theorem ent_copy{s:Sl}{L:List (EntV×Ent)}{t:Int}{K:Nat->Wd->Prop}(r:Rd w.heap s 9 (L.flatMap entCs))(h0:0<=t)(h1:t < (s.len:Int))
  (k:∀ b w' (hi:t.toNat < L.length),w'.heap[b]? = some (.cells L[t.toNat].1.cs.toArray 240 (0,0))->b=w.heap.size->w'.heap.size=w.heap.size+1->Ext No w w'->K b w') :
  Ix s.a s.len t 9 fun a=>∃ c:Sl,Cell w a (.slice c.a c.len c.cap)/\∃ c_1:Sl,Cell w (a.add 1) (.slice c_1.a c_1.len c_1.cap)/\∃ c_2:Int,Cell w (a.add 2) (.int .i64 c_2)/\∃ c_3:Int,Cell w (a.add 3) (.int .u32 c_3) /\
   ∃ c_4:Int,Cell w (a.add 4) (.int .u64 c_4)/\∃ c_5:Int,Cell w (a.add 5) (.int .u16 c_5)/\∃ c_6:Int,Cell w (a.add 6) (.int .u32 c_6)/\∃ c_7:Int,Cell w (a.add 7) (.int .u64 c_7)/\∃ c_8:Int,Cell w (a.add 8) (.int .u16 c_8) /\
   NewW w (.cells [.slice none 0 0, .slice none 0 0, .int .i64 0, .int .u32 0, .int .u64 0, .int .u16 0, .int .u32 0, .int .u64 0, .int .u16 0].toArray 240) fun b_1 w5 =>
   List.length (α:=Value) [.slice c.a c.len c.cap, .slice c_1.a c_1.len c_1.cap, .int .i64 c_2, .int .u32 c_3, .int .u64 c_4, .int .u16 c_5, .int .u32 c_6, .int .u64 c_7, .int .u16 c_8]=9 /\
   StN w5 (Addr.mk b_1 0 none) [.slice c.a c.len c.cap, .slice c_1.a c_1.len c_1.cap, .int .i64 c_2, .int .u32 c_3, .int .u64 c_4, .int .u16 c_5, .int .u32 c_6, .int .u64 c_7, .int .u16 c_8] fun w6=>K b_1 w6 :=
 ent_load r h0 h1 fun hi=>new_set rfl rfl (by intro v hv; simp only [List.mem_cons,List.not_mem_nil,or_false] at hv; rcases hv with h | h | h | h | h | h | h | h | h <;> subst h <;> rfl) fun b w' hb e z x=>k b w' hi hb e z x
theorem _root_.Go.V.NdR.get{h:Array Obj}{s:Sl}{L:List (EntV×Ent)}(r:NdR h s L){i:Nat}(hi:i < L.length):EntR h L[i].1 L[i].2:=r.ent _ (List.getElem_mem hi)
abbrev ents(L:List (EntV×Ent)):List Ent:=L.map Prod.snd
theorem sright_spec{kind lev:Int}{s:Sl}{L:List (EntV×Ent)}{K:Int->Wd->Prop}(r:NdR w.heap s L)(hs:L.length<=4294967296)
  (k0:∀ w',RightP kind lev (ents L)->Ext No w w'->K 0 w') (k1:∀ c w',¬ RightP kind lev (ents L)->c≠0->Ext No w w'->K c w'):C_slot_Right kind lev s w K:=by
 apply S_slot_Right
 refine NewW.mk fun b w1 h1=>?_
 have hb:=h1.get
 have hl:=r.len
 refine ⟨fun w'=>w'=w1/\shapeP kind lev/\(kind=2->L≠[]),?_,?_⟩
 .refine ⟨_,Cell.lst hb rfl,_,Cell.lst hb rfl,shape_spec (If.not (If.dec (fun hsh=>?_) fun hsh=>k1 2 _ (fun h=>hsh h.shape) (by decide) h1.ext))⟩
  refine ⟨_,Cell.lst hb rfl,If.beq (fun h2=>⟨_,Cell.lst hb rfl,If.beq (fun h3=>?_) fun h3=>⟨rfl,hsh,fun _ h=>?_⟩⟩) fun h2=>⟨rfl,hsh,fun h=>(h2 h).elim⟩⟩
  .refine k1 2 _ (fun h=>h.some h2 ?_) (by decide) h1.ext
   rw [List.map_eq_nil_iff]; exact List.eq_nil_of_length_eq_zero (by omega)
  .rw [h] at hl; simp at hl; omega
 rintro _ w3 ⟨rfl,hsh,hso⟩
 refine ⟨_,Cell.lst hb rfl,fun m t w'=>∃ i:Nat,t=i/\i<=L.length/\m=L.length - i/\Ext No w3 w'/\(∀ j (h:j < i) (h':j < L.length),entP kind j L[j].2)/\(∀ j (h:j+1 < i) (h':j+1 < L.length),LtB L[j].2.key L[j+1].2.key),⟨L.length,0,rfl,by omega,by omega,Ext.refl _ _,fun j h=>by omega,fun j h=>by omega⟩,?_⟩
 rintro _ m0 t w4 ⟨i,rfl,hi,hm,x4,he,ho⟩
 have x04:Ext No w w4:=h1.ext.no x4
 refine If.dec (fun h=>?_) (fun h=>?_)
 .refine ent_copy (r.rd.no x04) (by omega) h fun b1 w6 hi' hb1 eb1 _ x6=>?_
  simp only [Int.toNat_natCast] at hi' hb1
  have x06:=x04.no x6
  have e6:=(r.no x06).get hi'
  have hb6:=get_no hb (x4.no x6)
  refine ⟨_,Cell.lst hb6 rfl,ent_read hb1 (entry_spec e6 fun w7 x7=>If.not (If.dec (fun hp=>?_) fun hp=>k1 2 _ (fun h=>hp ?_) (by decide) (x06.no x7)))⟩
  rotate_left
  .have:=h.ent i (by simpa using hi'); simpa using this
  have hb7:=get_no hb6 x7
  have hb17:=get_no hb1 x7
  have x07:=x06.no x7
  refine ⟨Ext No w7,(Ext.refl _ _).drew,If.dec (fun h0=>?_) fun h0=>?_⟩
  .refine ⟨_,Held.cell (Cell.lst hb7 rfl),Ar.i64 (by omega) (Ix.elem (r.rd.no x07) (entCs_len L) (by decide) (by omega) (by omega) fun b2 o2 hi2 _ hc=>⟨_,Held.cell (hc 0 _ rfl),_,Held.cell (Cell.lst hb17 rfl),?_⟩)⟩
   have e2:((i:Int) - 1).toNat=i - 1:=by omega
   simp only [e2] at hi2 ⊢
   have r7:=r.no x07.drew
   have ea:=r7.get hi2
   have eb:=r7.get hi'
   refine compare_spec ea.k eb.k ea.k8 eb.k8 ⟨(Ext.refl _ _).drew,If.dec (fun hc=>k1 120 _ (fun hr=>?_) (by decide) x07.drew) fun hc=>Ar.i64 (by omega) ⟨L.length - (i+1),by omega,i+1,by omega,by omega,rfl,(x4.no (x6.no x7)).drew,fun j h h'=>?_,fun j h h'=>?_⟩⟩
   .have:=hr.ord (i - 1) (by simp; omega)
    simp only [List.getElem_map,show i - 1+1=i by omega] at this
    exact cmpB_ge.1 hc this
   .rcases Nat.lt_or_ge j i with h3 | h3
    .exact he j h3 h'
    .have:j=i:=by omega
     subst this; exact hp
   .rcases Nat.lt_or_ge (j+1) i with h3 | h3
    .exact ho j h3 h'
    .have:j=i - 1:=by omega
     subst this
     simp only [show i - 1+1=i by omega]
     exact Classical.not_not.1 fun hh=>hc (cmpB_ge.2 hh)
  .refine Ar.i64 (by omega) ⟨L.length - (i+1),by omega,i+1,by omega,by omega,rfl,(x4.no (x6.no x7)).drew,fun j h h'=>?_,fun j h h'=>by omega⟩
   have:j=i:=by omega
   subst this; exact hp
 .refine k0 _ ⟨hsh,fun h=>by rw [ne_eq,List.map_eq_nil_iff]; exact hso h,fun j hj=>?_,fun j hj=>?_⟩ x04
  .simp only [List.length_map,List.getElem_map] at hj ⊢; exact he j (by omega) hj
  .simp only [List.length_map,List.getElem_map] at hj ⊢; exact ho j (by omega) hj
theorem OwnB.new{n:Nat}{b:Nat}{w':Wd}{l:List Int}(h:New w (.cells (l.map (Value.int .u8)).toArray 5) b w')(hn:l.length=n):OwnB w'.heap w.heap.size ⟨some ⟨b,0,none⟩,n,n⟩ l :=
 Own.new h (by simp [hn]) oneC_ints
theorem slotref_spec{r:Rf}{K:Sl->Wd->Prop}(ok:r.ok)(k:∀ s w',OwnB w'.heap w.heap.size s (refB r)->Ext No w w'->K s w'):C_slot_ref r.p r.c r.g w K:=by
 apply S_slot_ref
 obtain ⟨h1,h2,h3⟩:=ok
 refine NewW.mk fun b w1 n1=>?_
 have hb:=n1.get
 refine ⟨_,Cell.lst hb rfl,Ar.u64 (by omega) (put_spec h1.1 (by decide) (by decide) (by show r.p < 256 ^ 4; omega) fun s1 w2 o2 x2=>?_)⟩
 refine ⟨_,Cell.lst (get_no hb x2) rfl,put_spec h2.1 (by decide) (by decide) (by show r.c < 256 ^ 8; omega) fun s2 w3 o3 x3=>?_⟩
 refine ⟨_,Cell.lst (get_no hb (x2.no x3)) rfl,Ar.u64 (by omega) (put_spec h3.1 (by decide) (by decide) (by show r.g < 256 ^ 2; omega) fun s3 w4 o4 x4=>NewW.mk fun b5 w5 n5=>?_)⟩
 have r5:Rd w5.heap ⟨some ⟨b5,0,none⟩,3,3⟩ 1 ([(s1,be 4 r.p),(s2,be 8 r.c),(s3,be 2 r.g)].map fun p=>p.1.v):=(Own.new (n:=3) (sz:=1) n5 rfl (by intro v hv; simp only [List.mem_cons,List.not_mem_nil,or_false] at hv; rcases hv with h | h | h <;> subst h <;> rfl)).rd
 refine concat_spec r5 (fun p hp=>?_) (by simp [be_len]) (by simp) fun s w' o x=>k s w' ?_ ?_
 .simp only [List.mem_cons,List.not_mem_nil,or_false] at hp
  rcases hp with h | h | h <;> subst h
  .exact o2.rd.no ((x3.no x4).no n5.ext)
  .exact o3.rd.no (x4.no n5.ext)
  .exact o4.rd.no n5.ext
 .have e:refB r=([(s1,be 4 r.p),(s2,be 8 r.c),(s3,be 2 r.g)].map Prod.snd).flatten:=by simp [refB]
  rw [e]
  exact Own.mono o ((n1.ext.no x2).no (x3.no (x4.no n5.ext))).size
 .exact ((n1.ext.no x2).no (x3.no (x4.no n5.ext))).no x
theorem get_ext{S:Nat->Prop}{w':Wd}{b:Nat}{o:Obj}(h:w.heap[b]? = some o)(x:Ext S w w')(hb:¬ S b):w'.heap[b]? = some o:=by
 rw [x.blk b (blt h) hb]; exact h
theorem appQ{w0:Wd}{Q:Nat->Prop}{s s':Sl}{base:Nat}{l m:List Int}{K:Sl->Wd->Prop}(xq:Ext Q w0 w)(hq:∀ i,s.blk=some i->Q i)(hq2:∀ i,w0.heap.size<=i->Q i)(o:OwnB w.heap base s l)(hb:base<=w.heap.size)(r:RdB w.heap s' m)(hn:l.length+m.length<=1099511627776)
  (k:∀ t w',OwnB w'.heap base t (l++m)->(∀ i,t.blk=some i->Q i)->Ext Q w0 w'->K t w'):AppW pz 22 22 s (.slice s'.a s'.len s'.cap) K w :=
 app_uint8 o hb r.src (by have:=OwnB.len o; have:=RdB.len r; omega) fun t w' o' _ x hbl=>k t w' (by show Own _ _ 5 1 t _; rw [List.map_append]; exact o') (fun i hi=>by
  rcases hbl with h | ⟨b,h,hle⟩
  .exact hq i (h ▸ hi)
  .rw [hi] at h; cases h; exact hq2 i (Nat.le_trans xq.size hle)) (xq.trans x fun i _ h=>hq i h)
theorem wrE_le(kind:Int){e:Ent}(h1:e.key.length<=1048576)(h2:e.val.length<=1048576):(wrE kind e).length<=4194304:=by
 unfold wrE
 simp only [List.length_append,List.length_cons]
 split
 .rw [refB_len]; omega
 .split
  .simp [refB_len]; omega
  .simp; omega
def Short(L:List (EntV×Ent)):Prop:=L.length<=65536/\∀ p∈L,p.2.key.length<=1048576/\p.2.val.length<=1048576
theorem wr_take_le{kind:Int}{L:List (EntV×Ent)}(h:Short L):∀ i,(((ents L).take i).flatMap (wrE kind)).length<=L.length * 4194304:=fun i=>by
 have h2:∀(l:List Ent),(∀ e∈l,e.key.length<=1048576/\e.val.length<=1048576)->(l.flatMap (wrE kind)).length<=l.length * 4194304:=by
  intro l hl
  induction l with
  | nil=>simp
  | cons e l ih =>
   have:=wrE_le kind (hl e List.mem_cons_self).1 (hl e List.mem_cons_self).2
   have:=ih fun e he=>hl e (List.mem_cons_of_mem _ he)
   simp only [List.flatMap_cons,List.length_append,List.length_cons]; omega
 refine Nat.le_trans (h2 _ fun e he=>?_) (Nat.mul_le_mul_right _ (by simp only [List.length_take,List.length_map]; omega))
 obtain ⟨p,hp,rfl⟩:=List.mem_map.1 (List.mem_of_mem_take he)
 exact h.2 p hp
set_option maxHeartbeats 400000 in
theorem write_spec{kind lev:Int}{s:Sl}{L:List (EntV×Ent)}{K:Sl->Wd->Prop}(r:NdR w.heap s L)(hs:Short L)
  (k:∀ t w',OwnB w'.heap w.heap.size t (wr kind lev (ents L))->Ext No w w'->K t w'):C_slot_write kind lev s w K:=by
 apply S_slot_write
 have hl:=r.len
 have hs1:=hs.1
 refine NewW.mk fun b w1 h1=>?_
 have hb:=h1.get
 refine ⟨_,Cell.lst hb rfl,_,Cell.lst hb rfl,_,Cell.lst hb rfl,Ar.u8m (NewW.mk fun b1 w2 h2=>⟨_,Cell.lst (get_no hb h2.ext) rfl,?_⟩)⟩
 have o2:OwnB w2.heap w1.heap.size ⟨some ⟨b1,0,none⟩,3,3⟩ ([kind,lev,(L.length % 256:Int)]):=by
  have:=OwnB.new (n:=3) (l:=[kind,lev,((s.len:Int) % 256)]) h2 rfl
  rw [hl] at this
  exact this
 have hf:∀ i (h:i < L.length),((ents L).take (i+1)).flatMap (wrE kind)=((ents L).take i).flatMap (wrE kind)++wrE kind L[i].2:=fun i h=>by
  rw [List.take_add_one,List.getElem?_eq_getElem (by simpa using h)]
  simp
 refine ⟨fun m t i w'=>∃ j:Nat,i=j/\j<=L.length/\m=L.length - j/\Ext No w w'/\w'.heap[b]? = some (.cells [.int .u8 kind, .int .u8 lev, .slice s.a s.len s.cap].toArray 236 (0,0))/\OwnB w'.heap w1.heap.size t ([kind,lev,(L.length % 256:Int)]++((ents L).take j).flatMap (wrE kind)),⟨L.length,0,rfl,by omega,by omega,h1.ext.no h2.ext,get_no hb h2.ext,by simpa using o2⟩,?_⟩
 rintro _ m0 t i w3 ⟨j,rfl,hj,hm,x3,hb3,o3⟩
 refine If.dec (fun h=>?_) (fun h=>?_)
 .refine ent_copy (r.rd.no x3) (by omega) h fun b4 w5 hi' hb4 eb4 z5 x5=>?_
  simp only [Int.toNat_natCast] at hi' hb4
  have x05:=x3.no x5
  have e5:=(r.no x05).get hi'
  have hs2:=hs.2 _ (List.getElem_mem hi')
  have hlen:([kind,lev,(L.length % 256:Int)]++((ents L).take j).flatMap (wrE kind)).length<=274877906950:=by
   have:=wr_take_le (kind:=kind) hs j
   simp only [List.length_append,List.length_cons,List.length_nil]; omega
  have z1:=h1.size
  have hx3:=x3.size
  have hw13:w1.heap.size<=w3.heap.size:=by have:=blt hb3; have:=h1.at_; omega
  generalize hl0:([kind,lev,(L.length % 256:Int)]++((ents L).take j).flatMap (wrE kind))=l0 at *
  let Q:Nat->Prop:=fun i=>w1.heap.size<=i/\i≠b4
  have nb:¬ Q b:=fun h=>by have:=h1.at_; have:=h.1; omega
  have nb4:¬ Q b4:=fun h=>h.2 rfl
  have hQ2:∀ i,w5.heap.size<=i->Q i:=fun i hi=>⟨by omega,by omega⟩
  have toNo:∀{w':Wd},Ext Q w5 w'->Ext No w w':=fun x=>x05.trans x fun i hi h=>by have:=h.1; omega
  have hq3:∀ i,t.blk=some i->Q i:=fun i hi=>by have:=o3.lt hi; exact ⟨this.1,by omega⟩
  have hb5:=get_no hb3 x5
  have o5:OwnB w5.heap w1.heap.size t l0:=o3.no x5
  have fin:∀{t':Sl}{w':Wd}{l:List Int},Ext Q w5 w'->OwnB w'.heap w1.heap.size t' (l0++l)->l=wrE kind L[j].2->∃ m1,m1 < m0/\∃ j':Nat,((j:Int)+1)=j'/\j'<=L.length/\m1=L.length - j'/\Ext No w w'/\w'.heap[b]? = some (.cells [.int .u8 kind, .int .u8 lev, .slice s.a s.len s.cap].toArray 236 (0,0))/\OwnB w'.heap w1.heap.size t' ([kind,lev,(L.length % 256:Int)]++((ents L).take j').flatMap (wrE kind)):=fun {t' w' l} x o e =>
   ⟨L.length - (j+1),by omega,j+1,by omega,by omega,rfl,toNo x,get_ext hb5 x nb,by rw [hf j hi',<- List.append_assoc,hl0,<- e]; exact o⟩
  have hkl:=RdB.len e5.k
  have hvl:=RdB.len e5.v
  refine ⟨Ext Q w5,(Ext.refl _ _).drew,_,Held.but (Cell.lst hb4 rfl) nb4,Ar.u8m ⟨_,Held.but (Cell.lst hb4 rfl) nb4,NewW.mk fun b6 w6 n6=>?_⟩⟩
  have x6:Ext Q w5 w6:=((Ext.refl _ _).drew).no n6.ext
  refine ⟨x6,appQ (s':=⟨some ⟨b6,0,none⟩,1,1⟩) (l:=l0) x6 hq3 hQ2 (o5.no ((Ext.refl No w5).drew.no n6.ext)) (by have:=x6.size; omega) (OwnB.new (n:=1) (l:=[((L[j].1.k.len:Int) % 256)]) n6 rfl).rd (by simp; omega) fun s7 w7 o7 q7 x7=>⟨x7,?_⟩⟩
  refine appQ x7 q7 hQ2 o7 (by have:=x7.size; omega) ((r.no (toNo x7)).get hi').k (by simp; omega) fun s8 w8 o8 q8 x8=>⟨x8,_,Cell.lst (get_ext hb5 x8 nb) rfl,?_⟩
  have e8:=(r.no (toNo x8)).get hi'
  have hb8:=get_ext hb4 x8 nb4
  have z8:=x8.size
  refine If.beq (fun h2=>?_) (fun h2=>?_)
  .refine ⟨_,Cell.lst hb8 rfl,_,Cell.lst hb8 rfl,_,Cell.lst hb8 rfl,?_⟩
   rw [e8.cd]
   refine slotref_spec e8.cdo fun s9 w9 o9 x9=>appQ (x8.no x9) q8 hQ2 (o8.no x9) (by have:=x9.size; omega) o9.rd (by simp [refB_len]; omega) fun s10 w10 o10 q10 x10=>Ar.i64 (by omega) (fin x10 (by simpa only [List.append_assoc] using o10) ?_)
   unfold wrE; rw [if_pos h2,hkl]; simp
  .refine ⟨_,Cell.lst hb8 rfl,?_⟩
   rw [e8.n]
   refine If.dec (fun h3=>?_) (fun h3=>?_)
   .refine ⟨_,Cell.lst hb8 rfl,by decide,Nm.as (e':=L[j].2.n / 256) (by rw [show min (Int.toNat 8) (IntKind.bits .i64)=8 from rfl,Int.fdiv_eq_ediv_of_nonneg _ (by decide),e8.n]; rfl) (Ar.u8m ⟨_,Cell.lst hb8 rfl,Ar.u8m (NewW.mk fun b9 w9 n9=>?_)⟩)⟩
    refine appQ (s':=⟨some ⟨b9,0,none⟩,3,3⟩) (x8.no n9.ext) q8 hQ2 (o8.no n9.ext) (by have:=n9.ext.size; omega) (OwnB.new (n:=3) (l:=[1,L[j].2.n / 256 % 256,L[j].1.n % 256]) n9 rfl).rd (by simp; omega) fun s10 w10 o10 q10 x10=>?_
    have hb10:=get_ext hb4 x10 nb4
    have z10:=x10.size
    refine ⟨_,Cell.lst hb10 rfl,_,Cell.lst hb10 rfl,_,Cell.lst hb10 rfl,?_⟩
    rw [e8.ch]
    refine slotref_spec e8.cho fun s11 w11 o11 x11=>appQ (x10.no x11) q10 hQ2 (o10.no x11) (by have:=x11.size; omega) o11.rd (by simp [refB_len]; omega) fun s12 w12 o12 q12 x12=>Ar.i64 (by omega) (fin x12 (by simpa only [List.append_assoc] using o12) ?_)
    unfold wrE; rw [if_neg h2,if_pos h3,hkl,e8.n]; simp
   .refine ⟨Ext Q w8,(Ext.refl _ _).drew,_,Held.but (Cell.lst hb8 rfl) nb4,Ar.u8m ⟨_,Held.but (Cell.lst hb8 rfl) nb4,NewW.mk fun b9 w9 n9=>?_⟩⟩
    have x9:Ext Q w8 w9:=((Ext.refl _ _).drew).no n9.ext
    have hQ8:∀ i,w8.heap.size<=i->Q i:=fun i hi=>hQ2 i (by omega)
    have tt:∀{w':Wd},Ext Q w8 w'->Ext Q w5 w':=fun x=>x8.trans x fun _ _ h=>h
    refine ⟨x9,appQ (s':=⟨some ⟨b9,0,none⟩,2,2⟩) x9 q8 hQ8 (o8.no ((Ext.refl No w8).drew.no n9.ext)) (by have:=x9.size; omega) (OwnB.new (n:=2) (l:=[0,((L[j].1.v.len:Int) % 256)]) n9 rfl).rd (by simp; omega) fun s10 w10 o10 q10 x10=>⟨x10,?_⟩⟩
    refine appQ x10 q10 hQ8 o10 (by have:=x10.size; omega) ((r.no (toNo (tt x10))).get hi').v (by simp; omega) fun s11 w11 o11 q11 x11=>⟨x11,Ar.i64 (by omega) (fin (tt x11) (by simpa only [List.append_assoc] using o11) ?_)⟩
    unfold wrE; rw [if_neg h2,if_neg h3,hkl,hvl]; simp
 .have e:j=L.length:=by omega
  subst e
  refine k _ _ ?_ x3
  refine Own.mono ?_ h1.ext.size
  have e2:(ents L).take L.length=ents L:=List.take_of_length_le (by simp)
  rw [e2] at o3
  unfold wr; simp only [List.length_map]; exact o3
theorem _root_.Go.V.RightP.short{kind lev:Int}{L:List (EntV×Ent)}(h:RightP kind lev (ents L))(hl:L.length<=65536):Short L:=by
 refine ⟨hl,fun p hp=>?_⟩
 obtain ⟨i,hi,rfl⟩:=List.getElem_of_mem hp
 have:=h.ent i (by simpa using hi)
 simp only [List.getElem_map] at this
 obtain ⟨h1,h2⟩:=this
 unfold keyP at h1
 constructor
 .split at h1 <;> omega
 .split at h2
  .omega
  .obtain ⟨_,h2⟩:=h2
   split at h2 <;> omega
def _root_.Go.V.pad(l:List Int):List Int:=l++List.replicate (224 - l.length) 0
theorem _root_.Go.V.pad_len{l:List Int}(h:l.length<=224):(pad l).length=224:=by simp [pad]; omega
theorem encode_spec{kind lev:Int}{s:Sl}{L:List (EntV×Ent)}{K:Sl->Int->Wd->Prop}(r:NdR w.heap s L)(hs:L.length<=65536)
  (k0:∀ t w',RightP kind lev (ents L)->(wr kind lev (ents L)).length<=224->OwnB w'.heap w.heap.size t (pad (wr kind lev (ents L)))->Ext No w w'->K t 0 w')
  (k1:∀ c w',¬ (RightP kind lev (ents L)/\(wr kind lev (ents L)).length<=224)->c≠0->Ext No w w'->K ⟨none,0,0⟩ c w'):C_slot_Encode kind lev s w K:=by
 apply S_slot_Encode
 refine NewW.mk fun b w1 h1=>?_
 have hb:=h1.get
 refine ⟨_,Cell.lst hb rfl,_,Cell.lst hb rfl,_,Cell.lst hb rfl,sright_spec (r.no h1.ext) (by omega) (fun w2 hr x2=>If.bne (fun h=>(h rfl).elim) fun _=>?_) (fun c w2 hr hc x2=>If.bne (fun _=>k1 c _ (fun h=>hr h.1) hc (h1.ext.no x2)) fun h=>(hc h).elim)⟩
 have hb2:=get_no hb x2
 refine ⟨_,Cell.lst hb2 rfl,_,Cell.lst hb2 rfl,_,Cell.lst hb2 rfl,write_spec (r.no (h1.ext.no x2)) (hr.short hs) fun t w3 o3 x3=>?_⟩
 have x03:=(h1.ext.no x2).no x3
 have hl:=OwnB.len o3
 refine If.dec (fun h=>k1 3 _ (fun h'=>by omega) (by decide) x03) (fun h=>Ar.i64 (by omega) ?_)
 have e:(224 - (t.len:Int))=((224 - (wr kind lev (ents L)).length:Nat):Int):=by omega
 rw [e]
 refine app_zero (k := .i64) (ie:=Tryz.t5) (z := .int .u8 0) (by kernel_rfl) (by kernel_rfl) (by kernel_rfl) (by kernel_rfl) (by kernel_rfl) (by kernel_rfl) rfl (by kernel_rfl) o3 (x3.size) (by omega) fun s' w' o _ x _=>k0 _ _ hr (by omega) (Own.mono (base:=w2.heap.size) ?_ (h1.ext.no x2).size) (x03.trans x fun i hi h=>?_)
 .rw [<- List.map_replicate,<- List.map_append] at o; exact o
 .have:=(o3.lt h).1; have:=(h1.ext.no x2).size; omega
end
end Go.Proofs.YtmbckodpbdlblaaGreat
set_option maxRecDepth 100000
namespace Go.Proofs.YtmbckodpbdlblaaGreat
open Go.V
abbrev A1(b:Nat):Addr:=⟨b,0,none⟩
structure DecS(h:Array Obj)(n0:Nat)(b:Sl)(P:List Int)(kind lev:Int)(ls:Sl)(place fault:Int):Prop where
 c1:h[n0]? = some (.cells [.slice b.a b.len b.cap].toArray 22 (0,0))
 c2:h[n0+1]? = some (.cells [.int .u8 kind, .int .u8 lev, .slice ls.a ls.len ls.cap].toArray 236 (0,0))
 c3:h[n0+2]? = some (.cells [.int .i64 place].toArray 3 (0,0))
 c4:h[n0+3]? = some (.cells [.int .i64 fault].toArray 3 (0,0))
 c5:h[n0+4]? = some (.cells [.func (.func 326) #[] #[.pointer (some (A1 (n0+3)))]].toArray 127 (0,0))
 c6:h[n0+5]? = some (.cells [.func (.func 327) #[] #[.pointer (some (A1 (n0+3))), .pointer (some (A1 (n0+2))), .pointer (some (A1 (n0+4))), .pointer (some (A1 n0))]].toArray 433 (0,0))
 c7:h[n0+6]? = some (.cells [.func (.func 330) #[] #[]].toArray 195 (0,0))
 rd:RdB h b P
 low:∀ i,b.blk=some i->P≠[]->i < n0
 p8:B8 P
 len:P.length=224
section
variable {w:Wd} {n0:Nat} {b:Sl} {P:List Int} {kind lev:Int} {ls:Sl} {place fault:Int}
theorem DecS.ext{S:Nat->Prop}{w':Wd}(d:DecS w.heap n0 b P kind lev ls place fault)(x:Ext S w w')(hS:∀ i,i < n0+7->¬ S i):DecS w'.heap n0 b P kind lev ls place fault :=
 ⟨get_ext d.c1 x (hS _ (by omega)),get_ext d.c2 x (hS _ (by omega)),get_ext d.c3 x (hS _ (by omega)),get_ext d.c4 x (hS _ (by omega)),get_ext d.c5 x (hS _ (by omega)),get_ext d.c6 x (hS _ (by omega)),get_ext d.c7 x (hS _ (by omega)),
  d.rd.ext x (fun a i ha hi=>hS i (by have:=d.low i (by simp [Sl.blk,ha,hi]) (by intro h; have:=d.len; rw [h] at this; simp at this); omega)),d.low,d.p8,d.len⟩
theorem DecS.no{w':Wd}(d:DecS w.heap n0 b P kind lev ls place fault)(x:Ext No w w'):DecS w'.heap n0 b P kind lev ls place fault:=d.ext x fun _ _ h=>h
theorem DecS.setPlace{w':Wd}{p:Int}(d:DecS w.heap n0 b P kind lev ls place fault)(h:Wrt w (n0+2) (.cells [.int .i64 p].toArray 3 (0,0)) w'):DecS w'.heap n0 b P kind lev ls p fault:=by
 have o:∀{i:Nat}{o:Obj},i≠n0+2->w.heap[i]? = some o->w'.heap[i]? = some o:=fun hi ho=>by rw [h.other hi]; exact ho
 exact ⟨o (by omega) d.c1,o (by omega) d.c2,h.get d.c3,o (by omega) d.c4,o (by omega) d.c5,o (by omega) d.c6,o (by omega) d.c7,
  d.rd.ext h.ext (fun a i ha hi=>by have:=d.low i (by simp [Sl.blk,ha,hi]) (by intro h; have:=d.len; rw [h] at this; simp at this); omega),d.low,d.p8,d.len⟩
theorem DecS.setNode{w':Wd}{kind' lev':Int}{ls':Sl}(d:DecS w.heap n0 b P kind lev ls place fault)(h:Wrt w (n0+1) (.cells [.int .u8 kind', .int .u8 lev', .slice ls'.a ls'.len ls'.cap].toArray 236 (0,0)) w'):DecS w'.heap n0 b P kind' lev' ls' place fault:=by
 have o:∀{i:Nat}{o:Obj},i≠n0+1->w.heap[i]? = some o->w'.heap[i]? = some o:=fun hi ho=>by rw [h.other hi]; exact ho
 exact ⟨o (by omega) d.c1,h.get d.c2,o (by omega) d.c3,o (by omega) d.c4,o (by omega) d.c5,o (by omega) d.c6,o (by omega) d.c7,
  d.rd.ext h.ext (fun a i ha hi=>by have:=d.low i (by simp [Sl.blk,ha,hi]) (by intro h; have:=d.len; rw [h] at this; simp at this); omega),d.low,d.p8,d.len⟩
theorem cutB{s:Sl}{P pre x suf:List Int}{lo hi:Int}{K:Sl->Prop}(r:RdB w.heap s P)(hP:P=pre++(x++suf))(h1:lo=pre.length)(h2:hi=pre.length+x.length)(k:∀ s',RdB w.heap s' x->K s'):Cut s lo hi (((s.cap:Nat):Int)) 1 K:=by
 have hl:=RdB.len r
 have hc:=Rd.cap r
 have hPl:P.length=pre.length+(x.length+suf.length):=by rw [hP]; simp
 subst h1 h2
 refine Cut.mk (by omega) (by omega) (by omega) (Int.le_refl _) (k _ ?_)
 have:=Rd.cut r (lo:=pre.length) (hi:=pre.length+x.length) (mx:=s.cap) (by omega) (by omega) (by omega)
 rw [Nat.mul_one,Nat.mul_one,show pre.length+x.length - pre.length=x.length by omega] at this
 have e:(List.take x.length (List.drop pre.length (P.map (Value.int .u8))))=x.map (Value.int .u8):=by
  rw [hP,<- List.map_drop,<- List.map_take,List.drop_left,List.take_left]
 rw [e] at this
 have e2:((pre.length:Int)+(x.length:Int) - (pre.length:Int)).toNat=x.length:=by omega
 have e3:((s.cap:Int) - (pre.length:Int)).toNat=s.cap - pre.length:=by omega
 rw [e2,e3]
 exact this
abbrev takeF(n0:Nat):Value := .func (.func 327) #[] #[.pointer (some (A1 (n0+3))), .pointer (some (A1 (n0+2))), .pointer (some (A1 (n0+4))), .pointer (some (A1 n0))]
theorem take_ok{may:Value}{size:Int}{pre x suf:List Int}{K:Int->Wd->Prop}{rd:Bool}(d:DecS w.heap n0 b P kind lev ls pre.length (-1))(hP:P=pre++(x++suf))(hx:(x.length:Int)=size)(h1:1<=size)(h8:size<=8)
  (hm:∀ K':Bool->Wd->Prop,K' true w->dynV pz true may [.int .u64 (num x)] [.one (.bool)] K' NoX w)
  (k:∀ w',DecS w'.heap n0 b P kind lev ls (pre.length+size) (-1)->Ext (·=n0+2) w w'->w'.heap.size=w.heap.size->K (num x) w'):dynV pz rd (takeF n0) [.int .i64 size,may] [.one (.int .u64)] K NoX w:=by
 refine V_slot_Decode_2 (c0:=A1 (n0+3)) (c1:=A1 (n0+2)) (c2:=A1 (n0+4)) (c3:=A1 n0) (S_slot_Decode_2 ?_)
 have hPl:pre.length+(x.length+suf.length)=224:=by rw [<- d.len,hP]; simp
 have hx8:B8 x:=d.p8.sub fun y hy=>by rw [hP]; simp [hy]
 refine ⟨_,Cell.lst d.c4 rfl,If.dec (fun h=>by omega) fun _=>⟨_,Cell.lst d.c3 rfl,Ar.i64 (by omega) (If.dec (fun h=>by omega) fun _=>⟨_,Cell.lst d.c1 rfl,_,Cell.lst d.c3 rfl,_,Cell.lst d.c3 rfl,Ar.i64 (by omega) ?_⟩)⟩⟩
 refine cutB d.rd hP rfl (by omega) fun s' r'=>get_spec r' hx8 (by omega) (by omega) (hm _ (If.no ⟨_,Cell.lst d.c3 rfl,Ar.i64 (by omega) (St1.mk d.c3 (by simp) rfl fun w' h=>?_)⟩))
 exact k w' (d.setPlace h) h.ext h.size
theorem text_ok{may:Value}{pre x suf:List Int}{K:Sl->Wd->Prop}{rd:Bool}(d:DecS w.heap n0 b P kind lev ls pre.length (-1))(hP:P=pre++(((x.length:Int))::x++suf))(hn:n0+7<=w.heap.size)(hm1:oneC may=true)
  (hm:∀ w' (K':Bool->Wd->Prop),Ext No w w'->K' true w'->dynV pz true may [.int .u64 (x.length:Int)] [.one (.bool)] K' NoX w')
  (k:∀ s w',DecS w'.heap n0 b P kind lev ls (pre.length+1+x.length) (-1)->OwnB w'.heap w.heap.size s x->Ext (·=n0+2) w w'->K s w') :
  dynV pz rd (.func (.func 328) #[] #[.pointer (some (A1 (n0+5))), .pointer (some (A1 (n0+2))), .pointer (some (A1 (n0+3))), .pointer (some (A1 n0))]) [may] [.one (.sl)] K NoX w:=by
 refine V_slot_Decode_3 (c0:=A1 (n0+5)) (c1:=A1 (n0+2)) (c2:=A1 (n0+3)) (c3:=A1 n0) (S_slot_Decode_3 ?_)
 have hPl:pre.length+(1+x.length+suf.length)=224:=by rw [<- d.len,hP]; simp; omega
 refine ⟨hm1,NewW.mk fun b1 w1 n1=>?_⟩
 have d1:=d.no n1.ext
 have hb1:=n1.at_
 refine ⟨_,Cell.lst d1.c6 rfl,?_⟩
 have hP2:P=pre++([(x.length:Int)]++(x++suf)):=by rw [hP]; simp
 have e1:num [(x.length:Int)]=x.length:=by simp [num]
 refine take_ok (x:=[(x.length:Int)]) d1 hP2 rfl (by decide) (by decide) (fun K' hK=>?_) fun w2 d2 x2 z2=>?_
 .rw [e1]
  apply V_slot_Decode_3_1
  apply S_slot_Decode_3_1
  refine ⟨_,Cell.lst n1.get rfl,hm w1 _ n1.ext (If.yes (Ar.i64 (by omega) ⟨_,Cell.lst d1.c3 rfl,Ar.i64 (by omega) (Ar.i64 (by omega) ?_)⟩))⟩
  have:decide ((x.length:Int)<=224 - (pre.length:Int) - 1)=true:=decide_eq_true (by omega)
  rw [this]; exact hK
 rw [e1]
 refine ⟨_,Cell.lst d2.c4 rfl,If.dec (fun h=>by omega) fun _=>⟨_,Cell.lst d2.c3 rfl,Ar.i64 (by omega) (Ar.i64 (by omega) (St1.mk d2.c3 (by simp) rfl fun w3 h3=>NewW.mk fun b4 w4 n4=>?_))⟩⟩
 have d3:DecS w3.heap n0 b P kind lev ls (pre.length+1+x.length) (-1):=d2.setPlace h3
 have d4:=d3.no n4.ext
 refine ⟨_,Cell.lst d4.c1 rfl,_,Cell.lst d4.c3 rfl,Ar.i64 (by omega) (Ar.i64 (by omega) ⟨_,Cell.lst d4.c3 rfl,?_⟩)⟩
 have hP3:P=(pre++[(x.length:Int)])++(x++suf):=by rw [hP]; simp
 refine cutB d4.rd hP3 (by simp) (by simp) fun s' r'=>?_
 have o4:OwnB w4.heap w3.heap.size ⟨some ⟨b4,0,none⟩,0,0⟩ []:=OwnB.new (l:=[]) n4 rfl
 have z4:=n4.size
 have z3:=h3.size
 have z1:=n1.size
 have hb4:=n4.at_
 refine appQ (s:=⟨some ⟨b4,0,none⟩,0,0⟩) (Q:=fun i=>w3.heap.size<=i) (Ext.refl _ w4) (fun i hi=>by have:=Option.some.inj hi; simp only at this; omega) (fun i hi=>by omega) o4 (by omega) r' (by simp; omega) fun s5 w5 o5 q5 x5=>?_
 refine k _ _ (d4.ext x5 fun i hi h=>by omega) (Own.mono o5 (by omega)) ?_
 refine ((((n1.ext.of_no).trans x2 fun i _ h=>h).trans h3.ext fun i _ h=>h).no n4.ext).trans x5 fun i hi h=>by omega
theorem num_zeros:∀(l:List Int),(∀ y∈l,y=0)->num l=0:=by
 intro l h
 have:∀(l:List Int)(a:Int),(∀ y∈l,y=0)->a=0->l.foldl (fun n x=>n * 256+x) a=0:=by
  intro l
  induction l with
  | nil=>intro a _ h; exact h
  | cons y l ih =>
   intro a h ha
   rw [List.foldl_cons]
   exact ih _ (fun z hz=>h z (List.mem_cons_of_mem _ hz)) (by rw [ha,h y List.mem_cons_self]; rfl)
 exact this l 0 h rfl
theorem refB_zero{r:Rf}(ok:r.ok)(h:∀ y∈refB r,y=0):r = .z:=by
 obtain ⟨h1,h2,h3⟩:=ok
 have a:=num_be 4 h1.1 (by omega)
 have b:=num_be 8 h2.1 (by omega)
 have c:=num_be 2 h3.1 (by omega)
 rw [num_zeros _ fun y hy=>h y (by simp [refB,hy])] at a b c
 cases r; simp only at a b c; simp [Rf.z,<- a,<- b,<- c]
theorem any_ok{v:Int}{K:Bool->Wd->Prop}(k:K true w):dynV pz true (.func (.func 330) #[] #[]) [.int .u64 v] [.one (.bool)] K NoX w:=V_slot_Decode_4 (S_slot_Decode_4 k)
theorem pin_ok{r:Rf}{pre suf:List Int}{K:Int->Int->Int->Wd->Prop}{rd:Bool}(d:DecS w.heap n0 b P kind lev ls pre.length (-1))(hP:P=pre++(refB r++suf))(hn:n0+7<=w.heap.size)(ok:r.ok)(hz:r ≠ .z)
  (k:∀ w',DecS w'.heap n0 b P kind lev ls (pre.length+14) (-1)->Ext (·=n0+2) w w'->K r.p r.c r.g w') :
  dynV pz rd (.func (.func 331) #[] #[.pointer (some (A1 (n0+3))), .pointer (some (A1 (n0+2))), .pointer (some (A1 n0)), .pointer (some (A1 (n0+4))), .pointer (some (A1 (n0+5))), .pointer (some (A1 (n0+6)))]) [] [.agg [.one (.int .u32), .one (.int .u64), .one (.int .u16)]] K NoX w:=by
 refine V_slot_Decode_5 (c0:=A1 (n0+3)) (c1:=A1 (n0+2)) (c2:=A1 n0) (c3:=A1 (n0+4)) (c4:=A1 (n0+5)) (c5:=A1 (n0+6)) (S_slot_Decode_5 ?_)
 have hPl:pre.length+(14+suf.length)=224:=by rw [<- d.len,hP]; simp [refB_len]
 have h8:B8 (refB r):=d.p8.sub fun y hy=>by rw [hP]; simp [hy]
 refine NewW.mk fun b1 w1 n1=>?_
 have d1:=d.no n1.ext
 have hb1:=n1.at_
 refine ⟨fun w'=>w'=w1,?_,?_⟩
 .refine ⟨_,Cell.lst d1.c4 rfl,If.dec (fun _=>⟨_,Cell.lst d1.c3 rfl,Ar.i64 (by omega) (If.dec (fun _=>⟨_,Cell.lst d1.c1 rfl,_,Cell.lst d1.c3 rfl,_,Cell.lst d1.c3 rfl,Ar.i64 (by omega) (cutB d1.rd hP rfl (by rw [refB_len]; rfl) fun s' r'=>nought_spec r' h8 (by rw [refB_len]; decide) ?_)⟩) fun _=>rfl)⟩) fun _=>rfl⟩
  rw [decide_eq_false fun h=>hz (refB_zero ok h)]
  exact If.no rfl
 rintro _ w4 rfl
 refine ⟨fun w'=>w'=w4,?_,?_⟩
 .exact ⟨_,Cell.lst d1.c4 rfl,If.dec (fun _=>⟨_,Cell.lst d1.c3 rfl,Ar.i64 (by omega) (If.dec (fun h=>by omega) fun _=>rfl)⟩) fun _=>rfl⟩
 rintro _ w6 rfl
 obtain ⟨h1,h2,h3⟩:=ok
 have nS:∀{i:Nat},n0+3<=i->i < n0+7->¬ (i=n0+2∨i=b1):=fun h h'=>by omega
 refine ⟨Ext (fun i=>i=n0+2∨i=b1) w6,(Ext.refl _ _).drew,_,Held.but (Cell.lst d1.c6 rfl) (nS (by omega) (by omega)),_,Held.but (Cell.lst d1.c7 rfl) (nS (by omega) (by omega)),_,Held.but (Cell.lst d1.c6 rfl) (nS (by omega) (by omega)),_,Held.but (Cell.lst d1.c7 rfl) (nS (by omega) (by omega)),_,Held.but (Cell.lst d1.c6 rfl) (nS (by omega) (by omega)),_,Held.but (Cell.lst d1.c7 rfl) (nS (by omega) (by omega)),?_⟩
 have toS:∀{w':Wd},Ext (·=n0+2) (drewW w6) w'->Ext (fun i=>i=n0+2∨i=b1) w6 w':=fun x=>(x.mono fun _ _ h => .inl h).drew_left
 have dd:DecS (drewW w6).heap n0 b P kind lev ls pre.length (-1):=d1
 refine take_ok (x:=be 4 r.p) (suf:=be 8 r.c++(be 2 r.g++suf)) dd (by rw [hP]; simp [refB]) (by rw [be_len]; rfl) (by decide) (by decide) (fun K' hK=>any_ok hK) fun w7 d7 x7 z7=>⟨toS x7,?_⟩
 rw [num_be 4 h1.1 (by omega)]
 have e7:((pre.length:Int)+4)=((pre++be 4 r.p).length:Nat):=by simp [be_len]
 rw [e7] at d7
 refine Ar.u32 (by omega) (take_ok (x:=be 8 r.c) (suf:=be 2 r.g++suf) d7 (by rw [hP]; simp [refB]) (by rw [be_len]; rfl) (by decide) (by decide) (fun K' hK=>any_ok hK) fun w8 d8 x8 z8=>⟨toS (x7.trans x8 fun _ _ h=>h),?_⟩)
 rw [num_be 8 h2.1 (by omega)]
 have e8:(((pre++be 4 r.p).length:Nat):Int)+8=((pre++be 4 r.p++be 8 r.c).length:Nat):=by simp [be_len]; omega
 rw [e8] at d8
 refine take_ok (x:=be 2 r.g) (suf:=suf) d8 (by rw [hP]; simp [refB]) (by rw [be_len]; rfl) (by decide) (by decide) (fun K' hK=>any_ok hK) fun w9 d9 x9 z9=>⟨toS ((x7.trans x8 fun _ _ h=>h).trans x9 fun _ _ h=>h),?_⟩
 rw [num_be 2 h3.1 (by omega)]
 have e9:(((pre++be 4 r.p++be 8 r.c).length:Nat):Int)+2=(pre.length:Int)+14:=by simp [be_len]; omega
 rw [e9] at d9
 have x69:=(x7.trans x8 fun _ _ h=>h).trans x9 fun _ _ h=>h
 have g9:w9.heap[b1]? = some (.cells [.int .u32 0, .int .u64 0, .int .u16 0].toArray 36 (0,0)):=get_ext (w:=drewW w6) n1.get x69 (by omega)
 refine Ar.u16 (by omega) ⟨rfl,_,_,_,g9,rfl,by simp, .inr (.inr (Nat.le_refl _)),?_,fun w10 h10=>?_⟩
 .intro v hv; simp only [List.mem_cons,List.not_mem_nil,or_false] at hv; rcases hv with h | h | h <;> subst h <;> rfl
 have g10:w10.heap[b1]? = some (.cells [.int .u32 r.p, .int .u64 r.c, .int .u16 r.g].toArray 36 (0,0)):=Wrt.get (b:=b1) h10 g9
 have x10:Ext (·=b1) w9 w10:=Wrt.ext (b:=b1) h10
 refine ⟨(toS x69).trans x10 fun _ _ h => .inr h,_,Cell.lst g10 rfl,_,Cell.lst g10 rfl,_,Cell.lst g10 rfl,k _ (d9.ext x10 fun i hi h=>by omega) ?_⟩
 exact ((n1.ext.drew.of_no).trans x69 fun _ _ h=>h).trans x10 fun i hi h=>by omega
end
end Go.Proofs.YtmbckodpbdlblaaGreat
namespace Go.V
structure NdO(h:Array Obj)(base:Nat)(s:Sl)(L:List (EntV×Ent)):Prop where
 own:Own h base 240 9 s (L.flatMap entCs)
 ent:∀ p∈L,EntR h p.1 p.2
 kb:∀ p∈L,∀ b,p.1.k.blk=some b->base<=b/\b < h.size/\s.blk≠some b
 vb:∀ p∈L,∀ b,p.1.v.blk=some b->base<=b/\b < h.size/\s.blk≠some b
theorem NdO.nd{h:Array Obj}{base:Nat}{s:Sl}{L:List (EntV×Ent)}(o:NdO h base s L):NdR h s L:=⟨o.own.rd,o.ent⟩
theorem NdO.mono{h:Array Obj}{base base':Nat}{s:Sl}{L:List (EntV×Ent)}(o:NdO h base s L)(hb:base'<=base):NdO h base' s L:=⟨o.own.mono hb,o.ent,fun p hp b h=>⟨Nat.le_trans hb (o.kb p hp b h).1,(o.kb p hp b h).2⟩,fun p hp b h=>⟨Nat.le_trans hb (o.vb p hp b h).1,(o.vb p hp b h).2⟩⟩
theorem EntR.ext{S:Nat->Prop}{w w':Wd}{x:EntV}{e:Ent}(r:EntR w.heap x e)(h:Ext S w w')(h1:∀ b,x.k.blk=some b->¬ S b)(h2:∀ b,x.v.blk=some b->¬ S b):EntR w'.heap x e :=
 ⟨r.k.ext h fun a b ha hb=>h1 b (by simp [Sl.blk,ha,hb]),r.v.ext h fun a b ha hb=>h2 b (by simp [Sl.blk,ha,hb]),r.n,r.ch,r.cd,r.k8,r.v8,r.n64,r.cho,r.cdo⟩
theorem NdO.ext{S:Nat->Prop}{w w':Wd}{base:Nat}{s:Sl}{L:List (EntV×Ent)}(o:NdO w.heap base s L)(x:Ext S w w')(hS:∀ b,base<=b->b < w.heap.size->¬ S b):NdO w'.heap base s L :=
 ⟨o.own.ext x fun b hb=>hS b (o.own.lt hb).1 (o.own.lt hb).2,fun p hp=>(o.ent p hp).ext x (fun b h=>hS b (o.kb p hp b h).1 (o.kb p hp b h).2.1) (fun b h=>hS b (o.vb p hp b h).1 (o.vb p hp b h).2.1),
  fun p hp b h=>⟨(o.kb p hp b h).1,Nat.lt_of_lt_of_le (o.kb p hp b h).2.1 x.size,(o.kb p hp b h).2.2⟩,fun p hp b h=>⟨(o.vb p hp b h).1,Nat.lt_of_lt_of_le (o.vb p hp b h).2.1 x.size,(o.vb p hp b h).2.2⟩⟩
theorem NdO.no{w w':Wd}{base:Nat}{s:Sl}{L:List (EntV×Ent)}(o:NdO w.heap base s L)(x:Ext No w w'):NdO w'.heap base s L:=o.ext x fun _ _ _ h=>h
theorem NdO.nil(h:Array Obj)(base:Nat):NdO h base ⟨none,0,0⟩ []:=⟨Own.nil _ _ _ _,by simp,by simp,by simp⟩
theorem wr_cut{kind lev:Int}{l:List Ent}{i:Nat}(hi:i < l.length):pad (wr kind lev l)=([kind,lev,(l.length % 256:Int)]++(l.take i).flatMap (wrE kind))++(wrE kind l[i]++((l.drop (i+1)).flatMap (wrE kind)++List.replicate (224 - (wr kind lev l).length) 0)):=by
 have e:l.flatMap (wrE kind)=(l.take i).flatMap (wrE kind)++(wrE kind l[i]++(l.drop (i+1)).flatMap (wrE kind)):=by
  have:l=l.take i++(l[i]::l.drop (i+1)):=by rw [<- List.drop_eq_getElem_cons hi,List.take_append_drop]
  conv=>lhs; rw [this]
  rw [List.flatMap_append,List.flatMap_cons]
 have e2:pad (wr kind lev l)=[kind,lev,(l.length % 256:Int)]++l.flatMap (wrE kind)++List.replicate (224 - (wr kind lev l).length) 0:=rfl
 rw [e2,e]
 simp only [List.append_assoc]
end Go.V
namespace Go.Proofs.YtmbckodpbdlblaaGreat
open Go.V
section
variable {w:Wd} {n0:Nat} {b:Sl} {P:List Int} {kind lev:Int} {ls:Sl} {place fault:Int}
theorem St1.b1{bb:Nat}{T:TypeId}{v v':Value}{K:Wd->Prop}(hb:w.heap[bb]? = some (.cells [v].toArray T (0,0)))(hv:oneC v'=true)(k:∀ w',Wrt w bb (.cells [v'].toArray T (0,0)) w'->K w'):St1 w (Addr.mk bb 0 none) v' K :=
 St1.mk hb (by simp) hv fun w' h=>k w' h
theorem NdO.push{w':Wd}{base:Nat}{s s':Sl}{L:List (EntV×Ent)}{p:EntV×Ent}(o:NdO w.heap base s L)(o':Own w'.heap base 240 9 s' (L.flatMap entCs++p.1.cs))(x:Ext (fun b=>s.blk=some b) w w')(hb:s'.blk=s.blk∨∃ b,s'.blk=some b/\w.heap.size<=b)
  (hp:EntR w.heap p.1 p.2) (h1:∀ b,p.1.k.blk=some b->base<=b/\b < w.heap.size/\s.blk≠some b) (h2:∀ b,p.1.v.blk=some b->base<=b/\b < w.heap.size/\s.blk≠some b):NdO w'.heap base s' (L++[p]):=by
 have key:∀ b,base<=b/\b < w.heap.size/\s.blk≠some b->base<=b/\b < w'.heap.size/\s'.blk≠some b:=fun b h=>⟨h.1,Nat.lt_of_lt_of_le h.2.1 x.size,fun e=>by
  rcases hb with h' | ⟨c,h',hc⟩
  .exact h.2.2 (h' ▸ e)
  .rw [h'] at e; cases e; omega⟩
 refine ⟨by rw [List.flatMap_append,List.flatMap_cons,List.flatMap_nil,List.append_nil]; exact o',fun q hq=>?_,fun q hq b h=>?_,fun q hq b h=>?_⟩
 .rcases List.mem_append.1 hq with h | h
  .exact (o.ent q h).ext x (fun b hb=>(o.kb q h b hb).2.2) (fun b hb=>(o.vb q h b hb).2.2)
  .rw [List.mem_singleton] at h; subst h; exact hp.ext x (fun b hb=>(h1 b hb).2.2) (fun b hb=>(h2 b hb).2.2)
 .rcases List.mem_append.1 hq with h' | h'
  .exact key b (o.kb q h' b h)
  .rw [List.mem_singleton] at h'; subst h'; exact key b (h1 b h)
 .rcases List.mem_append.1 hq with h' | h'
  .exact key b (o.vb q h' b h)
  .rw [List.mem_singleton] at h'; subst h'; exact key b (h2 b h)
def restB(kind:Int)(e:Ent):List Int:=if kind=2 then refB e.cd else if e.n > 0 then [1,e.n / 256 % 256,e.n % 256]++refB e.ch else [0,(e.val.length % 256:Int)]++e.val
theorem wrE_eq(kind:Int)(e:Ent):wrE kind e=(e.key.length % 256:Int)::e.key++restB kind e:=rfl
structure Got(w:Wd)(n0 b9:Nat)(base:Nat)(r3:Sl)(e:Ent)(x:EntV):Prop where
 blk:w.heap[b9]? = some (.cells x.cs.toArray 240 (0,0))
 k:x.k=r3
 v:Rd w.heap x.v 1 (e.val.map (Value.int .u8))
 vb:∀ b,x.v.blk=some b->base<=b/\b < w.heap.size
 n:x.n=e.n
 ch:x.ch=e.ch
 cd:x.cd=e.cd
set_option maxHeartbeats 1000000 in
theorem rest_ok{b9:Nat}{r3:Sl}{e:Ent}{i:Int}{pre suf:List Int}{J1:Wd->Prop}(d:DecS w.heap n0 b P kind lev ls pre.length (-1))(hP:P=pre++(restB kind e++suf))(hn:n0+7<=b9)
  (hb9:w.heap[b9]? = some (.cells (EntV.cs ⟨r3,⟨none,0,0⟩,0, .z, .z⟩).toArray 240 (0,0))) (hp:entP kind i e) (cho:e.ch.ok) (cdo:e.cd.ok)
  (k:∀ w' x,Got w' n0 b9 w.heap.size r3 e x->DecS w'.heap n0 b P kind lev ls (pre.length+(restB kind e).length) (-1)->Ext (fun q=>q=n0+2∨q=b9) w w'->J1 w') :
  ∃ vv_15:Int,Cell w (Addr.mk (n0+1) 0 none) (.int .u8 vv_15) /\
 If (vv_15 == 2) (
 dynV pz true (.func (.func 331) #[] #[.pointer (some (Addr.mk (n0+3) 0 none)), .pointer (some (Addr.mk (n0+2) 0 none)), .pointer (some (Addr.mk n0 0 none)), .pointer (some (Addr.mk (n0+4) 0 none)), .pointer (some (Addr.mk (n0+5) 0 none)), .pointer (some (Addr.mk (n0+6) 0 none))]) [] [.agg [.one (.int .u32), .one (.int .u64), .one (.int .u16)]] (fun r0 r1_1 r2_1 w30 =>
 List.length (α:=Value) [.int .u32 r0, .int .u64 r1_1, .int .u16 r2_1]=3/\StN w30 ((Addr.mk b9 0 none).add 6) [.int .u32 r0, .int .u64 r1_1, .int .u16 r2_1] fun w31 =>
 J1 w31) NoX w) (
 ∃ vv_16:Value,Cell w (Addr.mk (n0+5) 0 none) (vv_16) /\
 dynV pz true vv_16 [.int .i64 1, .func (.func 338) #[] #[]] [.one (.int .u64)] (fun r_5 w32 =>
 If (r_5 == 1) (
 ∃ vv_17:Value,Cell w32 (Addr.mk (n0+5) 0 none) (vv_17) /\
 dynV pz true vv_17 [.int .i64 2, .func (.func 339) #[] #[]] [.one (.int .u64)] (fun r_6 w33 =>
 Ar .i64 r_6 fun z_5 =>
 St1 w33 ((Addr.mk b9 0 none).add 2) (.int .i64 z_5) fun w34 =>
 dynV pz true (.func (.func 331) #[] #[.pointer (some (Addr.mk (n0+3) 0 none)), .pointer (some (Addr.mk (n0+2) 0 none)), .pointer (some (Addr.mk n0 0 none)), .pointer (some (Addr.mk (n0+4) 0 none)), .pointer (some (Addr.mk (n0+5) 0 none)), .pointer (some (Addr.mk (n0+6) 0 none))]) [] [.agg [.one (.int .u32), .one (.int .u64), .one (.int .u16)]] (fun r0_1 r1_2 r2_2 w35 =>
 List.length (α:=Value) [.int .u32 r0_1, .int .u64 r1_2, .int .u16 r2_2]=3/\StN w35 ((Addr.mk b9 0 none).add 3) [.int .u32 r0_1, .int .u64 r1_2, .int .u16 r2_2] fun w36 =>
 J1 w36) NoX w34) NoX w32) (
 dynV pz true (.func (.func 328) #[] #[.pointer (some (Addr.mk (n0+5) 0 none)), .pointer (some (Addr.mk (n0+2) 0 none)), .pointer (some (Addr.mk (n0+3) 0 none)), .pointer (some (Addr.mk n0 0 none))]) [.func (.func 340) #[] #[]] [.one (.sl)] (fun r_7 w37 =>
 St1 w37 ((Addr.mk b9 0 none).add 1) (.slice r_7.a r_7.len r_7.cap) fun w38 =>
 J1 w38) NoX w32)) NoX w):=by
 have hsz:n0+7<=w.heap.size:=by have:=blt hb9; omega
 refine ⟨_,Cell.lst d.c2 rfl,If.beq (fun h2=>?_) (fun h2=>?_)⟩
 .have hr:restB kind e=refB e.cd:=by unfold restB; rw [if_pos h2]
  have hp2:=hp.2
  rw [if_pos h2] at hp2
  rw [hr] at hP k
  refine pin_ok d hP hsz cdo hp2.1 fun w' d' x'=>⟨rfl,?_⟩
  have hb:=get_ext hb9 x' (by omega)
  refine ⟨_,_,_,hb,rfl,(by show 6+3<=9; decide), .inr (.inr (Nat.le_refl _)),?_,fun w2 h2'=>?_⟩
  .intro v hv; simp only [List.mem_cons,List.not_mem_nil,or_false] at hv; rcases hv with h | h | h <;> subst h <;> rfl
  have x2:Ext (·=b9) w' w2:=Wrt.ext (b:=b9) h2'
  have g2:w2.heap[b9]? = some (.cells (EntV.cs ⟨r3,⟨none,0,0⟩,0, .z,e.cd⟩).toArray 240 (0,0)):=Wrt.get (b:=b9) h2' hb
  have ev:e.val=[]:=List.eq_nil_of_length_eq_zero hp2.2.2.1
  refine k w2 _ ⟨g2,rfl,by rw [ev]; exact Rd.nil _ _,fun b h=>(by cases h),hp2.2.2.2.symm,hp2.2.1.symm,rfl⟩ ?_ ((x'.mono fun _ _ h => .inl h).trans x2 fun _ _ h => .inr h)
  rw [refB_len]
  exact d'.ext x2 fun q hq h=>by omega
 .have hp2:=hp.2
  rw [if_neg h2] at hp2
  obtain ⟨hcd,hp2⟩:=hp2
  refine ⟨_,Cell.lst d.c6 rfl,?_⟩
  rcases Classical.em (e.n=0) with h0 | h0
  .rw [if_pos h0] at hp2
   have hr:restB kind e=[0]++((e.val.length:Int)::e.val):=by
    unfold restB; rw [if_neg h2,if_neg (by omega),show ((e.val.length:Int) % 256)=e.val.length by omega]; rfl
   rw [hr] at hP k
   have e0:num [(0:Int)]=0:=rfl
   refine take_ok (x:=[0]) (suf:=((e.val.length:Int)::e.val)++suf) d (by rw [hP,List.append_assoc]) rfl (by decide) (by decide) (fun K' hK=>V_slot_Decode_10 (S_slot_Decode_10 (by rw [e0]; exact hK))) fun w2 d2 x2 z2=>?_
   rw [e0]
   refine If.no ?_
   have e1:((pre.length:Int)+1)=((pre++[(0:Int)]).length:Nat):=by simp
   rw [e1] at d2
   refine text_ok (x:=e.val) (suf:=suf) d2 (by rw [hP]; simp) (by omega) rfl (fun w' K' _ hK=>V_slot_Decode_12 (S_slot_Decode_12 (by unfold F_slot_Decode_12; rw [decide_eq_true (by omega)]; exact hK))) fun s3 w3 d3 o3 x3=>?_
   have hb:=get_ext (get_ext hb9 x2 (by omega)) x3 (by omega)
   refine St1.mk hb (by simp [EntV.cs]) rfl fun w4 h4=>?_
   have g4:w4.heap[b9]? = some (.cells (EntV.cs ⟨r3,s3,0, .z, .z⟩).toArray 240 (0,0)):=h4.get hb
   have hne:∀ q,s3.blk=some q->q≠b9:=fun q hq h=>by have:=(o3.lt hq).1; have:=blt hb9; omega
   refine k w4 _ ⟨g4,rfl,o3.rd.ext h4.ext (fun a q ha hq=>hne q (by simp [Sl.blk,ha,hq])),fun q hq=>?_,h0.symm,hp2.1.symm,hcd.symm⟩ ?_ (((x2.mono fun _ _ h => .inl h).trans x3 fun _ _ h => .inl h).trans h4.ext fun _ _ h => .inr h)
   .have:=o3.lt hq; have:=h4.size; omega
   .have e5:(((pre++[(0:Int)]).length:Nat):Int)+1+(e.val.length:Int)=(pre.length:Int)+(([0]++((e.val.length:Int)::e.val)).length:Nat):=by simp; omega
    rw [<- e5]
    exact d3.ext h4.ext fun q hq h=>by have h:q=b9:=h; omega
  .rw [if_neg h0] at hp2
   have hr:restB kind e=[1]++(be 2 e.n++refB e.ch):=by
    unfold restB; rw [if_neg h2,if_pos (by omega)]; simp [be]
   rw [hr] at hP k
   have e0:num [(1:Int)]=1:=rfl
   refine take_ok (x:=[1]) (suf:=(be 2 e.n++refB e.ch)++suf) d (by rw [hP,List.append_assoc]) rfl (by decide) (by decide) (fun K' hK=>V_slot_Decode_10 (S_slot_Decode_10 (by rw [e0]; exact hK))) fun w2 d2 x2 z2=>?_
   rw [e0]
   refine If.yes ⟨_,Cell.lst d2.c6 rfl,?_⟩
   have e1:((pre.length:Int)+1)=((pre++[(1:Int)]).length:Nat):=by simp
   rw [e1] at d2
   have en:num (be 2 e.n)=e.n:=num_be 2 (by omega) (by omega)
   refine take_ok (x:=be 2 e.n) (suf:=refB e.ch++suf) d2 (by rw [hP]; simp) (by rw [be_len]; rfl) (by decide) (by decide) (fun K' hK=>V_slot_Decode_11 (S_slot_Decode_11 (by unfold F_slot_Decode_11; rw [en]; exact If.dec (fun _=>by rw [decide_eq_true (by omega)]; exact hK) fun h=>(h hp2.1).elim))) fun w3 d3 x3 z3=>?_
   rw [en]
   have hb:=get_ext (get_ext hb9 x2 (by omega)) x3 (by omega)
   refine Ar.i64 (by omega) (St1.mk hb (by simp [EntV.cs]) rfl fun w4 h4=>?_)
   have g4:w4.heap[b9]? = some (.cells (EntV.cs ⟨r3,⟨none,0,0⟩,e.n, .z, .z⟩).toArray 240 (0,0)):=h4.get hb
   have d4:DecS w4.heap n0 b P kind lev ls (((pre++[(1:Int)]++be 2 e.n).length:Nat):Int) (-1):=by
    have e5:(((pre++[(1:Int)]++be 2 e.n).length:Nat):Int)=(((pre++[(1:Int)]).length:Nat):Int)+2:=by simp [be_len]; omega
    rw [e5]
    exact d3.ext h4.ext fun q hq h=>by have h:q=b9:=h; omega
   refine pin_ok (r:=e.ch) (suf:=suf) d4 (by rw [hP]; simp) (by have:=x3.size; have:=h4.size; omega) cho hp2.2.2.1 fun w5 d5 x5=>⟨rfl,?_⟩
   have hb5:=get_ext g4 x5 (by omega)
   refine ⟨_,_,_,hb5,rfl,(by show 3+3<=9; decide), .inr (.inr (Nat.le_refl _)),?_,fun w6 h6=>?_⟩
   .intro v hv; simp only [List.mem_cons,List.not_mem_nil,or_false] at hv; rcases hv with h | h | h <;> subst h <;> rfl
   have x6:Ext (·=b9) w5 w6:=Wrt.ext (b:=b9) h6
   have g6:w6.heap[b9]? = some (.cells (EntV.cs ⟨r3,⟨none,0,0⟩,e.n,e.ch, .z⟩).toArray 240 (0,0)):=Wrt.get (b:=b9) h6 hb5
   have ev:e.val=[]:=List.eq_nil_of_length_eq_zero hp2.2.2.2
   refine k w6 _ ⟨g6,rfl,by rw [ev]; exact Rd.nil _ _,fun b h=>(by cases h),rfl,rfl,hcd.symm⟩ ?_ (((((x2.mono fun _ _ h => .inl h).trans x3 fun _ _ h => .inl h).trans h4.ext fun _ _ h => .inr h).trans x5 fun _ _ h => .inl h).trans x6 fun _ _ h => .inr h)
   have e7:(((pre++[(1:Int)]++be 2 e.n).length:Nat):Int)+14=(pre.length:Int)+(([1]++(be 2 e.n++refB e.ch)).length:Nat):=by simp [be_len,refB_len]; omega
   rw [<- e7]
   exact d5.ext x6 fun q hq h=>by omega
end
theorem wrE_pos(kind:Int)(e:Ent):1<=(wrE kind e).length:=by unfold wrE; simp only [List.length_append,List.length_cons]; omega
theorem wr_count{kind lev:Int}{l:List Ent}(h:(wr kind lev l).length<=224):l.length<=221:=by
 have:∀ l:List Ent,l.length<=(l.flatMap (wrE kind)).length:=by
  intro l
  induction l with
  | nil=>simp
  | cons e l ih=>have:=wrE_pos kind e; simp only [List.flatMap_cons,List.length_append,List.length_cons]; omega
 have:=this l
 unfold wr at h
 simp only [List.length_append,List.length_cons,List.length_nil] at h
 omega
section
variable {w:Wd} {b:Sl} {P:List Int}
def DecBody(n0:Nat)(w13:Wd)(K:Int->Int->Sl->Int->Int->Wd->Prop):Prop :=
 ∃ vv_1:Value,Cell w13 (Addr.mk (n0+5) 0 none) (vv_1) /\
 dynV pz true vv_1 [.int .i64 1, .func (.func 332) #[] #[]] [.one (.int .u64)] (fun r w14 =>
 Ar .u8 r fun z =>
 St1 w14 (Addr.mk (n0+1) 0 none) (.int .u8 z) fun w15 =>
 ∃ vv_2:Value,Cell w15 (Addr.mk (n0+5) 0 none) (vv_2) /\
 dynV pz true vv_2 [.int .i64 1, .func (.func 333) #[] #[.pointer (some (Addr.mk (n0+1) 0 none))]] [.one (.int .u64)] (fun r_1 w16 =>
 Ar .u8 r_1 fun z_1 =>
 St1 w16 ((Addr.mk (n0+1) 0 none).add 1) (.int .u8 z_1) fun w17 =>
 ∃ vv_3:Value,Cell w17 (Addr.mk (n0+5) 0 none) (vv_3) /\
 dynV pz true vv_3 [.int .i64 1, .func (.func 335) #[] #[.pointer (some (Addr.mk (n0+1) 0 none))]] [.one (.int .u64)] (fun r_2 w18 =>
 ∃ J5:Wd->Prop,(
 NewW w18 (.cells [.int .i64 0].toArray 3) fun b_8 w19 =>
 St1 w19 (Addr.mk b_8 0 none) (.int .i64 0) fun w20 =>
 ∃ I1:Nat->Addr->Wd->Prop,(∃ m,I1 m (Addr.mk b_8 0 none) w20)/\∀(_:Env)(m0:Nat)(i:Addr)(w21:Wd),I1 m0 i w21 ->
 ∃ J4:Wd->Prop,(
 ∃ vv_4:Int,Cell w21 i (.int .i64 vv_4) /\
 Ar .i64 r_2 fun z_2 =>
 If (decide (vv_4 < z_2)) (
 ∃ vv_5:Int,Cell w21 (Addr.mk (n0+3) 0 none) (.int .i64 vv_5) /\
 If (decide (vv_5 < 0)) (
 J4 w21) (
 J5 w21)) (
 J5 w21))/\∀(_:Env)(w22:Wd),J4 w22 ->
 NewW w22 (.cells [.slice none 0 0, .slice none 0 0, .int .i64 0, .int .u32 0, .int .u64 0, .int .u16 0, .int .u32 0, .int .u64 0, .int .u16 0].toArray 240) fun b_9 w23 =>
 dynV pz true (.func (.func 328) #[] #[.pointer (some (Addr.mk (n0+5) 0 none)), .pointer (some (Addr.mk (n0+2) 0 none)), .pointer (some (Addr.mk (n0+3) 0 none)), .pointer (some (Addr.mk n0 0 none))]) [.func (.func 336) #[] #[.pointer (some (Addr.mk (n0+1) 0 none)), .pointer (some i)]] [.one (.sl)] (fun r_3 w24 =>
 St1 w24 (Addr.mk b_9 0 none) (.slice r_3.a r_3.len r_3.cap) fun w25 =>
 ∃ J3:Wd->Prop,(
 ∃ J2:Bool->Wd->Prop,(
 ∃ S:Wd->Prop,S (drewW w25) /\
 ∃ vv_6:Int,Held S (Addr.mk (n0+3) 0 none) (.int .i64 vv_6) /\
 If (decide (vv_6 < 0)) (
 ∃ vv_7:Int,Held S i (.int .i64 vv_7) /\
 If (decide (vv_7 > 0)) (
 ∃ vv_8:Sl,Held S ((Addr.mk (n0+1) 0 none).add 2) (.slice vv_8.a vv_8.len vv_8.cap) /\
 ∃ vv_9:Int,Held S i (.int .i64 vv_9) /\
 Ar .i64 (vv_9 - 1) fun z_3 =>
 Ix vv_8.a vv_8.len z_3 9 fun a =>
 ∃ vv_10:Sl,Held S a (.slice vv_10.a vv_10.len vv_10.cap) /\
 ∃ vv_11:Sl,Held S (Addr.mk b_9 0 none) (.slice vv_11.a vv_11.len vv_11.cap) /\
 C_bytes_Compare vv_10 vv_11 (drewW w25) fun r_4 w26 =>
 S w26 /\
 J2 (decide (r_4≥0)) w26) (
 J2 false ((drewW w25)))) (
 J2 false ((drewW w25))))/\∀(_:Env)(t:Bool)(w27:Wd),J2 t w27 ->
 If t (
 ∃ vv_12:Value,Cell w27 (Addr.mk (n0+4) 0 none) (vv_12) /\
 ∃ vv_13:Int,Cell w27 (Addr.mk (n0+2) 0 none) (.int .i64 vv_13) /\
 ∃ vv_14:Sl,Cell w27 (Addr.mk b_9 0 none) (.slice vv_14.a vv_14.len vv_14.cap) /\
 Ar .i64 (vv_13 - ((vv_14.len:Int))) fun z_4 =>
 dynV pz true vv_12 [.int .i64 z_4] [] (fun w28 =>
 J3 w28) NoX w27) (
 J3 w27))/\∀(_:Env)(w29:Wd),J3 w29 ->
 ∃ J1:Wd->Prop,(
 ∃ vv_15:Int,Cell w29 (Addr.mk (n0+1) 0 none) (.int .u8 vv_15) /\
 If (vv_15 == 2) (
 dynV pz true (.func (.func 331) #[] #[.pointer (some (Addr.mk (n0+3) 0 none)), .pointer (some (Addr.mk (n0+2) 0 none)), .pointer (some (Addr.mk n0 0 none)), .pointer (some (Addr.mk (n0+4) 0 none)), .pointer (some (Addr.mk (n0+5) 0 none)), .pointer (some (Addr.mk (n0+6) 0 none))]) [] [.agg [.one (.int .u32), .one (.int .u64), .one (.int .u16)]] (fun r0 r1_1 r2_1 w30 =>
 List.length (α:=Value) [.int .u32 r0, .int .u64 r1_1, .int .u16 r2_1]=3/\StN w30 ((Addr.mk b_9 0 none).add 6) [.int .u32 r0, .int .u64 r1_1, .int .u16 r2_1] fun w31 =>
 J1 w31) NoX w29) (
 ∃ vv_16:Value,Cell w29 (Addr.mk (n0+5) 0 none) (vv_16) /\
 dynV pz true vv_16 [.int .i64 1, .func (.func 338) #[] #[]] [.one (.int .u64)] (fun r_5 w32 =>
 If (r_5 == 1) (
 ∃ vv_17:Value,Cell w32 (Addr.mk (n0+5) 0 none) (vv_17) /\
 dynV pz true vv_17 [.int .i64 2, .func (.func 339) #[] #[]] [.one (.int .u64)] (fun r_6 w33 =>
 Ar .i64 r_6 fun z_5 =>
 St1 w33 ((Addr.mk b_9 0 none).add 2) (.int .i64 z_5) fun w34 =>
 dynV pz true (.func (.func 331) #[] #[.pointer (some (Addr.mk (n0+3) 0 none)), .pointer (some (Addr.mk (n0+2) 0 none)), .pointer (some (Addr.mk n0 0 none)), .pointer (some (Addr.mk (n0+4) 0 none)), .pointer (some (Addr.mk (n0+5) 0 none)), .pointer (some (Addr.mk (n0+6) 0 none))]) [] [.agg [.one (.int .u32), .one (.int .u64), .one (.int .u16)]] (fun r0_1 r1_2 r2_2 w35 =>
 List.length (α:=Value) [.int .u32 r0_1, .int .u64 r1_2, .int .u16 r2_2]=3/\StN w35 ((Addr.mk b_9 0 none).add 3) [.int .u32 r0_1, .int .u64 r1_2, .int .u16 r2_2] fun w36 =>
 J1 w36) NoX w34) NoX w32) (
 dynV pz true (.func (.func 328) #[] #[.pointer (some (Addr.mk (n0+5) 0 none)), .pointer (some (Addr.mk (n0+2) 0 none)), .pointer (some (Addr.mk (n0+3) 0 none)), .pointer (some (Addr.mk n0 0 none))]) [.func (.func 340) #[] #[]] [.one (.sl)] (fun r_7 w37 =>
 St1 w37 ((Addr.mk b_9 0 none).add 1) (.slice r_7.a r_7.len r_7.cap) fun w38 =>
 J1 w38) NoX w32)) NoX w29))/\∀(_:Env)(w39:Wd),J1 w39 ->
 ∃ vv_18:Sl,Cell w39 ((Addr.mk (n0+1) 0 none).add 2) (.slice vv_18.a vv_18.len vv_18.cap) /\
 ∃ c_3:Sl,Cell w39 (Addr.mk b_9 0 none) (.slice c_3.a c_3.len c_3.cap) /\
 ∃ c_4:Sl,Cell w39 ((Addr.mk b_9 0 none).add 1) (.slice c_4.a c_4.len c_4.cap) /\
 ∃ c_5:Int,Cell w39 ((Addr.mk b_9 0 none).add 2) (.int .i64 c_5) /\
 ∃ c_6:Int,Cell w39 ((Addr.mk b_9 0 none).add 3) (.int .u32 c_6) /\
 ∃ c_7:Int,Cell w39 ((Addr.mk b_9 0 none).add 4) (.int .u64 c_7) /\
 ∃ c_8:Int,Cell w39 ((Addr.mk b_9 0 none).add 5) (.int .u16 c_8) /\
 ∃ c_9:Int,Cell w39 ((Addr.mk b_9 0 none).add 6) (.int .u32 c_9) /\
 ∃ c_10:Int,Cell w39 ((Addr.mk b_9 0 none).add 7) (.int .u64 c_10) /\
 ∃ c_11:Int,Cell w39 ((Addr.mk b_9 0 none).add 8) (.int .u16 c_11) /\
 NewW w39 (.cells [.slice c_3.a c_3.len c_3.cap, .slice c_4.a c_4.len c_4.cap, .int .i64 c_5, .int .u32 c_6, .int .u64 c_7, .int .u16 c_8, .int .u32 c_9, .int .u64 c_10, .int .u16 c_11].toArray 240) fun b_10 w40 =>
 AppW pz 234 234 vv_18 (.slice (some (Addr.mk b_10 0 none)) 1 1) (fun s w41 =>
 St1 w41 ((Addr.mk (n0+1) 0 none).add 2) (.slice s.a s.len s.cap) fun w42 =>
 ∃ vv_19:Int,Cell w42 i (.int .i64 vv_19) /\
 NewW w42 (.cells [.int .i64 0].toArray 3) fun b_11 w43 =>
 St1 w43 (Addr.mk b_11 0 none) (.int .i64 vv_19) fun w44 =>
 ∃ vv_20:Int,Cell w44 (Addr.mk b_11 0 none) (.int .i64 vv_20) /\
 Ar .i64 (vv_20+1) fun z_6 =>
 St1 w44 (Addr.mk b_11 0 none) (.int .i64 z_6) fun w45 =>
 ∃ m1,m1 < m0/\I1 m1 (Addr.mk b_11 0 none) w45) w40) NoX w23)/\∀(_:Env)(w46:Wd),J5 w46 ->
 ∃ J0:Wd->Prop,(
 ∃ I0:Nat->Wd->Prop,(∃ m,I0 m w46)/\∀(_:Env)(m0_1:Nat)(w47:Wd),I0 m0_1 w47 ->
 ∃ vv_21:Int,Cell w47 (Addr.mk (n0+3) 0 none) (.int .i64 vv_21) /\
 If (decide (vv_21 < 0)) (
 ∃ vv_22:Int,Cell w47 (Addr.mk (n0+2) 0 none) (.int .i64 vv_22) /\
 If (decide (vv_22 < 224)) (
 ∃ vv_23:Value,Cell w47 (Addr.mk (n0+5) 0 none) (vv_23) /\
 dynV pz true vv_23 [.int .i64 1, .func (.func 341) #[] #[]] [.one (.int .u64)] (fun _r_8 w48 =>
 ∃ m1_1,m1_1 < m0_1/\I0 m1_1 w48) NoX w47) (
 J0 w47)) (
 J0 w47))/\∀(_:Env)(w49:Wd),J0 w49 ->
 ∃ vv_24:Int,Cell w49 (Addr.mk (n0+3) 0 none) (.int .i64 vv_24) /\
 If (decide (vv_24≥0)) (
 ∃ S:Wd->Prop,S (drewW w49) /\
 ∃ vv_25:Int,Held S (Addr.mk (n0+3) 0 none) (.int .i64 vv_25) /\
 List.length (α:=Value) [.int .u8 0, .int .u8 0, .slice none 0 0]=3/\StN (drewW w49) (Addr.mk (n0+1) 0 none) [.int .u8 0, .int .u8 0, .slice none 0 0] fun w50 =>
 S w50 /\
 ∃ c_12:Int,Cell w50 (Addr.mk (n0+1) 0 none) (.int .u8 c_12) /\
 ∃ c_13:Int,Cell w50 ((Addr.mk (n0+1) 0 none).add 1) (.int .u8 c_13) /\
 ∃ c_14:Sl,Cell w50 ((Addr.mk (n0+1) 0 none).add 2) (.slice c_14.a c_14.len c_14.cap) /\
 K c_12 c_13 c_14 5 vv_25 w50) (
 ∃ c_15:Int,Cell w49 (Addr.mk (n0+1) 0 none) (.int .u8 c_15) /\
 ∃ c_16:Int,Cell w49 ((Addr.mk (n0+1) 0 none).add 1) (.int .u8 c_16) /\
 ∃ c_17:Sl,Cell w49 ((Addr.mk (n0+1) 0 none).add 2) (.slice c_17.a c_17.len c_17.cap) /\
 List.length (α:=Value) [.int .u8 c_15, .int .u8 c_16, .slice c_17.a c_17.len c_17.cap]=3/\StN w49 (Addr.mk (n0+1) 0 none) [.int .u8 c_15, .int .u8 c_16, .slice c_17.a c_17.len c_17.cap] fun w51 =>
 ∃ c_18:Int,Cell w51 (Addr.mk (n0+1) 0 none) (.int .u8 c_18) /\
 ∃ c_19:Int,Cell w51 ((Addr.mk (n0+1) 0 none).add 1) (.int .u8 c_19) /\
 ∃ c_20:Sl,Cell w51 ((Addr.mk (n0+1) 0 none).add 2) (.slice c_20.a c_20.len c_20.cap) /\
 K c_18 c_19 c_20 0 0 w51)) NoX w17) NoX w15) NoX w13
theorem decode_enter{K:Int->Int->Sl->Int->Int->Wd->Prop}(hb:RdB w.heap b P)(h8:B8 P)(hl:P.length=224)
  (k:∀ w13,DecS w13.heap w.heap.size b P 0 0 ⟨none,0,0⟩ 0 (-1)->w13.heap.size=w.heap.size+7->Ext No w w13->DecBody w.heap.size w13 K):C_slot_Decode b w K:=by
 apply S_slot_Decode
 have hbl:=RdB.len hb
 refine NewW.mk fun b1 w1 n1=>NewW.mk fun b2 w2 n2=>⟨_,Cell.lst (get_no n1.get n2.ext) rfl,If.bne (fun h=>by omega) fun _=>?_⟩
 refine NewW.mk fun b3 w4 n4=>NewW.mk fun b4 w5 n5=>?_
 have hb1:=n1.at_; have hb2:=n2.at_; have hb3:=n4.at_; have hb4:=n5.at_
 have z1:=n1.size; have z2:=n2.size; have z4:=n4.size; have z5:=n5.size
 refine St1.b1 (get_no n4.get n5.ext) rfl fun w6 h6=>St1.b1 (T:=3) (v := .int .i64 0) (by rw [h6.other (by omega)]; exact n5.get) rfl fun w7 h7=>NewW.mk fun b5 w8 n8=>St1.b1 n8.get rfl fun w9 h9=>NewW.mk fun b6 w10 n10=>St1.b1 n10.get rfl fun w11 h11=>NewW.mk fun b7 w12 n12=>St1.b1 n12.get rfl fun w13 h13=>?_
 have hb5:=n8.at_; have hb6:=n10.at_; have hb7:=n12.at_
 have z6:=h6.size; have z7:=h7.size; have z8:=n8.size; have z9:=h9.size; have z10:=n10.size; have z11:=h11.size; have z12:=n12.size; have z13:=h13.size
 have x2:Ext No w w2:=n1.ext.no n2.ext
 have x5:=(x2.no n4.ext).no n5.ext
 have x13:Ext No w w13:=(((((((x5.trans h6.ext fun i hi h=>by omega).trans h7.ext fun i hi h=>by omega).no n8.ext).trans h9.ext fun i hi h=>by omega).no n10.ext).trans h11.ext fun i hi h=>by omega).no n12.ext).trans h13.ext fun i hi h=>by omega
 have k:=k w13
 generalize hn0:w.heap.size=n0 at *
 have e1:b1=n0:=by omega
 have e2:b2=n0+1:=by omega
 have e3:b3=n0+2:=by omega
 have e4:b4=n0+3:=by omega
 have e5:b5=n0+4:=by omega
 have e6:b6=n0+5:=by omega
 have e7:b7=n0+6:=by omega
 subst e1 e2 e3 e4 e5 e6 e7
 have y13:∀{i:Nat}{o:Obj},i≠b1+6->w12.heap[i]? = some o->w13.heap[i]? = some o:=fun hi ho=>by rw [h13.other hi]; exact ho
 have y11:∀{i:Nat}{o:Obj},i≠b1+5->i≠b1+6->w10.heap[i]? = some o->w13.heap[i]? = some o:=fun hi h6 ho=>y13 h6 (get_no (by rw [h11.other hi]; exact ho) n12.ext)
 have y9:∀{i:Nat}{o:Obj},i≠b1+4->i≠b1+5->i≠b1+6->w8.heap[i]? = some o->w13.heap[i]? = some o:=fun h4 h5 h6 ho=>y11 h5 h6 (get_no (by rw [h9.other h4]; exact ho) n10.ext)
 have y7:∀{i:Nat}{o:Obj},i < b1+4->w7.heap[i]? = some o->w13.heap[i]? = some o:=fun hi ho=>y9 (by omega) (by omega) (by omega) (get_no ho n8.ext)
 have y5:∀{i:Nat}{o:Obj},i < b1+2->w5.heap[i]? = some o->w13.heap[i]? = some o:=fun hi ho=>y7 (by omega) (by rw [h7.other (by omega),h6.other (by omega)]; exact ho)
 refine k ⟨y5 (by omega) (get_no n1.get ((n2.ext.no n4.ext).no n5.ext)),y5 (by omega) (get_no n2.get (n4.ext.no n5.ext)),y7 (by omega) ?_,y7 (by omega) ?_,?_,?_,?_,Rd.no hb x13,fun i hi hne=>?_,h8,hl⟩ (by omega) x13
 .rw [h7.other (by omega)]; exact h6.get (get_no n4.get n5.ext)
 .exact h7.get (by rw [h6.other (by omega)]; exact n5.get)
 .exact y11 (by omega) (by omega) (get_no (h9.get n8.get) n10.ext)
 .exact y13 (by omega) (get_no (h11.get n10.get) n12.ext)
 .exact h13.get n12.get
 .obtain ⟨bb,o,ha,hc⟩:=Rd.at_ hb (by simpa using hne)
  have:i=bb:=by simp [Sl.blk,ha] at hi; exact hi.symm
  subst this
  have:=hcell_lt (hc 0 (by simp; omega))
  omega
end
section
variable {w:Wd} {n0:Nat} {b:Sl} {P:List Int} {kind lev:Int} {ls:Sl} {place fault:Int}
structure DecL(w0:Wd)(n0:Nat)(b:Sl)(P:List Int)(kind lev:Int)(l:List Ent)(j:Nat)(bi:Nat)(w:Wd)(ls:Sl)(L:List (EntV×Ent)):Prop where
 d:DecS w.heap n0 b P kind lev ls ((([kind,lev,(l.length % 256:Int)]++(l.take j).flatMap (wrE kind)).length:Nat):Int) (-1)
 nd:NdO w.heap (n0+7) ls L
 el:ents L=l.take j
 hi:w.heap[bi]? = some (.cells [.int .i64 (j:Int)].toArray 3 (0,0))
 lo:n0+7<=bi
 ne:ls.blk≠some bi
 x:Ext No w0 w
set_option maxHeartbeats 4000000 in
theorem decode_ok{l:List Ent}{K:Int->Int->Sl->Int->Int->Wd->Prop}(hb:RdB w.heap b (pad (wr kind lev l)))(hr:RightP kind lev l)(hs:(wr kind lev l).length<=224)(h8:B8 (pad (wr kind lev l)))(hok:∀ e∈l,e.ch.ok/\e.cd.ok)
  (k:∀ s L w',NdO w'.heap w.heap.size s L->ents L=l->Ext No w w'->K kind lev s 0 0 w'):C_slot_Decode b w K:=by
 have hcnt:=wr_count hs
 have hPl:(pad (wr kind lev l)).length=224:=pad_len hs
 refine decode_enter hb h8 hPl fun w13 d13 z13 x13=>?_
 have hkl:(kind=1/\lev=0)∨(kind=2/\1<=lev/\lev<=30):=hr.shape
 generalize hn0:w.heap.size=n0 at *
 have elen:((l.length:Int) % 256)=l.length:=by omega
 have hP0:pad (wr kind lev l)=[kind,lev,((l.length:Int) % 256)]++(l.flatMap (wrE kind)++List.replicate (224 - (wr kind lev l).length) 0):=by simp [pad,wr]
 have hcut:=fun i (hi:i < l.length)=>wr_cut (kind:=kind) (lev:=lev) hi
 generalize hP:pad (wr kind lev l)=P at *
 unfold DecBody
 have toNo:∀{a c:Wd}{S:Nat->Prop},Ext No w a->Ext S a c->(∀ i,S i->n0<=i)->Ext No w c:=fun x y h=>x.trans y fun i hi hS=>by have:=h i hS; omega
 -- the kind
 refine ⟨_,Cell.lst d13.c6 rfl,take_ok (pre:=[]) (x:=[kind]) (suf:=[lev,((l.length:Int) % 256)]++(l.flatMap (wrE kind)++List.replicate (224 - (wr kind lev l).length) 0)) d13 (by rw [hP0]; rfl) rfl (by decide) (by decide) (fun K' hK=>V_slot_Decode_6 (S_slot_Decode_6 ?_)) fun w14 d14 x14 z14=>?_⟩
 .have e:num [kind]=kind:=by simp [num]
  unfold F_slot_Decode_6; rw [e]
  refine If.beq (fun _=>hK) fun h=>?_
  rw [show (kind == 2)=true by simp; omega]; exact hK
 have e:num [kind]=kind:=by simp [num]
 rw [e]
 refine Ar.u8 (by omega) (St1.mk d14.c2 (by simp) rfl fun w15 h15=>?_)
 have d15:DecS w15.heap n0 b P kind 0 ⟨none,0,0⟩ ((([kind]:List Int).length:Nat):Int) (-1):=d14.setNode h15
 have x15:=toNo (toNo x13 x14 fun i h=>by omega) h15.ext fun i h=>by have h:i=n0+1:=h; omega
 -- the level
 have e:num [lev]=lev:=by simp [num]
 refine ⟨_,Cell.lst d15.c6 rfl,take_ok (x:=[lev]) (suf:=[((l.length:Int) % 256)]++(l.flatMap (wrE kind)++List.replicate (224 - (wr kind lev l).length) 0)) d15 (by rw [hP0]; rfl) rfl (by decide) (by decide) (fun K' hK=>V_slot_Decode_7 (S_slot_Decode_7 ?_)) fun w16 d16 x16 z16=>?_⟩
 .rw [e]
  refine ⟨_,Cell.lst d15.c2 rfl,Ar.u8 (by omega) (shape_spec ?_)⟩
  rw [decide_eq_true hr.shape]; exact hK
 rw [e]
 refine Ar.u8 (by omega) (St1.mk d16.c2 (by simp) rfl fun w17 h17=>?_)
 have d17:DecS w17.heap n0 b P kind lev ⟨none,0,0⟩ ((([kind,lev]:List Int).length:Nat):Int) (-1):=d16.setNode h17
 have x17:=toNo (toNo x15 x16 fun i h=>by omega) h17.ext fun i h=>by have h:i=n0+1:=h; omega
 -- how many
 have e:num [((l.length:Int) % 256)]=l.length:=by simp [num]; omega
 refine ⟨_,Cell.lst d17.c6 rfl,take_ok (x:=[((l.length:Int) % 256)]) (suf:=l.flatMap (wrE kind)++List.replicate (224 - (wr kind lev l).length) 0) d17 (by rw [hP0]; rfl) rfl (by decide) (by decide) (fun K' hK=>V_slot_Decode_8 (S_slot_Decode_8 ?_)) fun w18 d18 x18 z18=>?_⟩
 .rw [e]
  refine If.dec (fun _=>hK) fun h=>⟨_,Cell.lst d17.c2 rfl,?_⟩
  have:kind≠2:=fun h2=>hr.some h2 (List.eq_nil_of_length_eq_zero (by omega))
  rw [show (kind == 1)=true by simp; omega]; exact hK
 rw [e]
 have x18':=toNo x17 x18 fun i h=>by omega
 have z18':w18.heap.size=n0+7:=by have:=h15.size; have:=h17.size; omega
 refine ⟨fun w'=>∃ s L,NdO w'.heap (n0+7) s L/\ents L=l/\Ext No w w'/\DecS w'.heap n0 b P kind lev s ((wr kind lev l).length:Nat) (-1),?_,?_⟩
 .refine NewW.mk fun b8 w19 n19=>St1.b1 n19.get rfl fun w20 h20=>?_
  have z19:=n19.size; have z20:=h20.size; have hb8:=n19.at_
  refine ⟨fun m i w'=>∃ j bi ls L,i=A1 bi/\j<=l.length/\m=l.length - j/\DecL w n0 b P kind lev l j bi w' ls L,⟨l.length,0,b8,⟨none,0,0⟩,[],rfl,by omega,by omega,?_,NdO.nil _ _,by simp,h20.get n19.get,by omega,by simp [Sl.blk],toNo (x18'.no n19.ext) h20.ext fun i h=>by omega⟩,?_⟩
  .have:=(d18.no n19.ext).ext h20.ext fun i hi h=>by omega
   simpa using this
  rintro _ m0 i w21 ⟨j,bi,ls,L,rfl,hj,hm,D⟩
  refine ⟨fun w'=>w'=w21/\j < l.length,?_,?_⟩
  .refine ⟨_,Cell.lst D.hi rfl,Ar.i64 (by omega) (If.dec (fun h=>⟨_,Cell.lst D.d.c4 rfl,If.dec (fun _=>⟨rfl,by omega⟩) fun h=>by omega⟩) fun h=>?_)⟩
   have hjl:j=l.length:=by omega
   refine ⟨ls,L,D.nd,by rw [D.el,hjl,List.take_length],D.x,?_⟩
   have:=D.d
   rw [hjl,List.take_length] at this
   exact this
  rintro _ w22 ⟨rfl,hjl⟩
  have hcj:=hcut j hjl
  generalize hpre:[kind,lev,((l.length:Int) % 256)]++(l.take j).flatMap (wrE kind)=pre at *
  generalize hsuf:(l.drop (j+1)).flatMap (wrE kind)++List.replicate (224 - (wr kind lev l).length) 0=suf at *
  have hpe:=hr.ent j hjl
  have hoe:=hok _ (List.getElem_mem hjl)
  generalize hee:l[j]=e at *
  have hk32:e.key.length<=32:=by
   have:=hpe.1; unfold keyP at this; split at this <;> omega
  have ek:((e.key.length:Int) % 256)=e.key.length:=by omega
  have dd:=D.d
  rw [hpre] at dd
  have hbi:=blt D.hi
  refine NewW.mk fun b9 w23 n23=>?_
  have hb9:=n23.at_; have z23:=n23.size
  have d23:=dd.no n23.ext
  have hbi23:=get_no D.hi n23.ext
  have hPk:P=pre++(((e.key.length:Int))::e.key++(restB kind e++suf)):=by rw [hcj,wrE_eq,ek]; simp
  have h8k:B8 e.key:=h8.sub fun y hy=>by rw [hPk]; simp [hy]
  have h8r:B8 (restB kind e):=h8.sub fun y hy=>by rw [hPk]; simp [hy]
  refine text_ok (x:=e.key) (suf:=restB kind e++suf) d23 hPk (by have:=D.lo; omega) rfl (fun w' K' x' hK=>V_slot_Decode_9 (S_slot_Decode_9 ?_)) fun r3 w24 d24 o24 x24=>?_
  .refine ⟨_,Cell.lst (get_no d23.c2 x') rfl,_,Cell.lst (get_no hbi23 x') rfl,Ar.i64 (by omega) (key_spec ?_)⟩
   rw [decide_eq_true hpe.1]; exact hK
  have lo:=D.lo
  have g24:=get_ext n23.get x24 (by omega)
  refine St1.mk g24 (by simp) rfl fun w25 h25=>?_
  have g25:w25.heap[b9]? = some (.cells (EntV.cs ⟨r3,⟨none,0,0⟩,0, .z, .z⟩).toArray 240 (0,0)):=h25.get g24
  have x25:Ext (·=b9) w24 w25:=h25.ext
  have z25:w25.heap.size=w24.heap.size:=h25.size
  have s24:=x24.size
  have d25:DecS w25.heap n0 b P kind lev ls ((pre++((e.key.length:Int)::e.key)).length:Nat) (-1):=by
   have e5:(((pre++((e.key.length:Int)::e.key)).length:Nat):Int)=(pre.length:Int)+1+e.key.length:=by simp; omega
   rw [e5]
   exact d24.ext x25 fun q hq h=>by omega
  have o25:OwnB w25.heap w23.heap.size r3 e.key:=o24.ext x25 fun q hq h=>by have:=(o24.lt hq).1; omega
  have xb25:Ext (fun q=>q=n0+2∨q=b9) w22 w25:=((n23.ext.of_no).trans (x24.mono fun _ _ h => .inl h) fun _ _ h=>h).trans x25 fun _ _ h => .inr h
  have nd25:NdO w25.heap (n0+7) ls L:=D.nd.ext xb25 fun q h1 h2 h=>by omega
  have hi25:=get_ext D.hi xb25 (by omega)
  refine ⟨fun w'=>w'=drewW w25,⟨fun t w'=>t=false/\w'=drewW w25,?_,?_⟩,?_⟩
  .refine ⟨Ext No w25,(Ext.refl _ _).drew,_,Held.cell (Cell.lst d25.c4 rfl),If.dec (fun _=>⟨_,Held.cell (Cell.lst hi25 rfl),If.dec (fun h0=>?_) fun _=>⟨rfl,rfl⟩⟩) fun _=>⟨rfl,rfl⟩⟩
   have hLl:L.length=j:=by have:=congrArg List.length D.el; simp only [List.length_map,List.length_take] at this; omega
   have nl:=nd25.nd.len
   refine ⟨_,Held.cell (Cell.lst d25.c2 rfl),_,Held.cell (Cell.lst hi25 rfl),Ar.i64 (by omega) (Ix.elem nd25.own.rd (entCs_len L) (by decide) (by omega) (by omega) fun b2 o2 hi2 _ hc=>⟨_,Held.cell (hc 0 _ rfl),_,Held.cell (Cell.lst g25 rfl),?_⟩)⟩
   have e2:((j:Int) - 1).toNat=j - 1:=by omega
   simp only [e2] at hi2 ⊢
   have ea:=nd25.nd.get hi2
   have hlk:L[j - 1].2=l[j - 1]:=by
    have:(ents L)[j - 1]? = (l.take j)[j - 1]?:=by rw [D.el]
    rw [List.getElem?_map,List.getElem?_eq_getElem hi2,List.getElem?_take_of_lt (by omega),List.getElem?_eq_getElem (by omega)] at this
    simpa using this
   refine compare_spec (w:=drewW w25) ea.k o25.rd ea.k8 h8k ⟨(Ext.refl _ _).drew,decide_eq_false fun hc=>?_,rfl⟩
   have:=hr.ord (j - 1) (by omega)
   simp only [show j - 1+1=j by omega] at this
   rw [hlk] at hc
   exact cmpB_ge.1 hc (by rw [<- hee]; exact this)
  .rintro _ t w27 ⟨rfl,rfl⟩
   exact If.no rfl
  rintro _ w29 rfl
  refine ⟨fun w'=>∃ x,Got w' n0 b9 w25.heap.size r3 e x/\DecS w'.heap n0 b P kind lev ls (pre.length+(wrE kind e).length) (-1)/\Ext (fun q=>q=n0+2∨q=b9) w25 w',?_,?_⟩
  .refine rest_ok (w:=drewW w25) (pre:=pre++((e.key.length:Int)::e.key)) (suf:=suf) d25 (by rw [hPk]; simp) (by omega) g25 hpe hoe.1 hoe.2 fun w' x gx dx xx=>⟨x,gx,?_,xx.drew_left⟩
   have e5:(((pre++((e.key.length:Int)::e.key)).length:Nat):Int)+((restB kind e).length:Nat)=(pre.length:Int)+((wrE kind e).length:Nat):=by rw [wrE_eq]; simp; omega
   rw [<- e5]; exact dx
  rintro _ w39 ⟨x,gx,d39,x39⟩
  have s39:=x39.size
  refine ⟨_,Cell.lst d39.c2 rfl,ent_read gx.blk (NewW.mk fun b10 w40 n40=>?_)⟩
  have x2239:Ext (fun q=>q=n0+2∨q=b9) w22 w39:=xb25.trans x39 fun _ _ h=>h
  have nd40:NdO w40.heap (n0+7) ls L:=(D.nd.ext x2239 fun q h1 h2 h=>by omega).no n40.ext
  have d40:=d39.no n40.ext
  have hi40:=get_no (get_ext D.hi x2239 (by omega)) n40.ext
  have z40:=n40.size
  have oe:Own w40.heap w39.heap.size 240 9 ⟨some ⟨b10,0,none⟩,1,1⟩ x.cs:=Own.new (n:=1) (sz:=9) n40 rfl (by intro v hv; unfold EntV.cs at hv; simp only [List.mem_cons,List.not_mem_nil,or_false] at hv; rcases hv with h | h | h | h | h | h | h | h | h <;> subst h <;> rfl)
  have nl:=nd40.nd.len
  have hLl:L.length=j:=by have:=congrArg List.length D.el; simp only [List.length_map,List.length_take] at this; omega
  have o39:OwnB w39.heap w23.heap.size r3 e.key:=o25.ext x39 fun q hq h=>by have:=(o25.lt hq).1; omega
  have kb:∀ q,x.k.blk=some q->n0+7<=q/\q < w40.heap.size/\ls.blk≠some q:=fun q hq=>by
   rw [gx.k] at hq
   have:=o39.lt hq
   refine ⟨by omega,by omega,fun hls=>?_⟩
   have:=(D.nd.own.lt hls).2; omega
  have vb:∀ q,x.v.blk=some q->n0+7<=q/\q < w40.heap.size/\ls.blk≠some q:=fun q hq=>by
   have:=gx.vb q hq
   refine ⟨by omega,by omega,fun hls=>?_⟩
   have:=(D.nd.own.lt hls).2; omega
  have er:EntR w40.heap x e:=by
   refine ⟨by rw [gx.k]; exact o39.rd.no n40.ext,gx.v.no n40.ext,gx.n,gx.ch,gx.cd,h8k,?_,?_,hoe.1,hoe.2⟩
   .intro y hy
    refine h8r y ?_
    have hp2:=hpe.2
    unfold restB
    split at hp2
    .rw [List.eq_nil_of_length_eq_zero hp2.2.2.1] at hy; cases hy
    .rename_i h2
     rw [if_neg h2]
     obtain ⟨_,hp2⟩:=hp2
     split at hp2
     .rw [if_neg (by omega)]; simp [hy]
     .rw [List.eq_nil_of_length_eq_zero hp2.2.2.2] at hy; cases hy
   .have hp2:=hpe.2
    split at hp2
    .omega
    .obtain ⟨_,hp2⟩:=hp2
     split at hp2 <;> omega
  refine app_api_Entry nd40.own (by omega) oe.rd.src (by simp only; omega) fun s41 w41 o41 _ x41 hbl=>?_
  have nd41:NdO w41.heap (n0+7) s41 (L++[(x,e)]):=NdO.push (p:=(x,e)) nd40 o41 x41 hbl er kb vb
  have s41s:=x41.size
  have d41:=d40.ext x41 fun q hq h=>by have:=(nd40.own.lt h).1; omega
  have hi41:=get_ext hi40 x41 D.ne
  refine St1.mk d41.c2 (by simp) rfl fun w42 h42=>?_
  have d42:DecS w42.heap n0 b P kind lev s41 (pre.length+(wrE kind e).length) (-1):=d41.setNode h42
  have x42:Ext (·=n0+1) w41 w42:=h42.ext
  have z42:w42.heap.size=w41.heap.size:=h42.size
  have nd42:NdO w42.heap (n0+7) s41 (L++[(x,e)]):=nd41.ext x42 fun q h1 h2 h=>by omega
  have hi42:=get_ext hi41 x42 (by omega)
  refine ⟨_,Cell.lst hi42 rfl,NewW.mk fun b11 w43 n43=>St1.b1 n43.get rfl fun w44 h44=>⟨_,Cell.lst (h44.get n43.get) rfl,Ar.i64 (by omega) (St1.b1 (h44.get n43.get) rfl fun w45 h45=>?_)⟩⟩
  have hb11:=n43.at_; have z43:=n43.size; have z44:=h44.size; have z45:=h45.size
  have xf:Ext (·=b11) w42 w45:=((n43.ext.of_no).trans h44.ext fun _ _ h=>h).trans h45.ext fun _ _ h=>h
  have s40s:=n40.ext.size
  refine ⟨l.length - (j+1),by omega,j+1,b11,s41,L++[(x,e)],rfl,by omega,rfl,?_,nd42.ext xf (fun q h1 h2 h=>by omega),?_,?_,by omega,fun h=>?_,?_⟩
  .have e6:(([kind,lev,((l.length:Int) % 256)]++(l.take (j+1)).flatMap (wrE kind)).length:Nat)=pre.length+(wrE kind e).length:=by
    rw [List.take_add_one,List.getElem?_eq_getElem hjl,hee,<- hpre]; simp; omega
   rw [e6]
   have:=d42.ext xf fun q hq h=>by omega
   simpa using this
  .show List.map Prod.snd (L++[(x,e)])=_
   rw [List.map_append,show List.map Prod.snd L=List.take j l from D.el,List.take_add_one,List.getElem?_eq_getElem hjl,hee]; rfl
  .exact h45.get (h44.get n43.get)
  .have:=(nd42.own.lt h).2; omega
  .refine toNo (toNo (toNo ((toNo D.x x2239 fun q h=>by omega).no n40.ext) x41 fun q h=>?_) x42 fun q h=>by omega) xf fun q h=>by omega
   have:=(nd40.own.lt h).1; omega
 .rintro _ w46 ⟨s,L,nd,el,x46,d46⟩
  refine ⟨fun w'=>NdO w'.heap (n0+7) s L/\Ext No w w'/\DecS w'.heap n0 b P kind lev s 224 (-1),?_,?_⟩
  .refine ⟨fun m w'=>∃ i:Nat,m=224 - ((wr kind lev l).length+i)/\(wr kind lev l).length+i<=224/\NdO w'.heap (n0+7) s L/\Ext No w w'/\DecS w'.heap n0 b P kind lev s (((wr kind lev l++List.replicate i 0).length:Nat):Int) (-1),⟨_,0,rfl,by omega,nd,x46,by simpa using d46⟩,?_⟩
   rintro _ m0 w47 ⟨i,rfl,hi,nd47,x47,d47⟩
   refine ⟨_,Cell.lst d47.c4 rfl,If.dec (fun _=>⟨_,Cell.lst d47.c3 rfl,If.dec (fun h=>⟨_,Cell.lst d47.c6 rfl,?_⟩) fun h=>?_⟩) fun h=>by omega⟩
   .simp only [List.length_append,List.length_replicate] at h
    have hPi:P=(wr kind lev l++List.replicate i 0)++([0]++List.replicate (224 - (wr kind lev l).length - i - 1) 0):=by
     rw [<- hP]; unfold pad
     rw [List.append_assoc]; congr 1
     rw [<- List.replicate_one,List.replicate_append_replicate,List.replicate_append_replicate]; congr 1; omega
    refine take_ok (x:=[0]) d47 hPi rfl (by decide) (by decide) (fun K' hK=>V_slot_Decode_13 (S_slot_Decode_13 hK)) fun w48 d48 x48 z48=>?_
    refine ⟨224 - ((wr kind lev l).length+(i+1)),by omega,i+1,rfl,by omega,nd47.ext x48 (fun q h1 h2 h=>by omega),toNo x47 x48 fun q h=>by omega,?_⟩
    have e6:(((wr kind lev l++List.replicate i 0).length:Nat):Int)+1=((wr kind lev l++List.replicate (i+1) 0).length:Nat):=by simp; omega
    rw [<- e6]; exact d48
   .have e6:(((wr kind lev l++List.replicate i 0).length:Nat):Int)=224:=by
     simp only [List.length_append,List.length_replicate] at h ⊢; omega
    rw [e6] at d47
    exact ⟨nd47,x47,d47⟩
  rintro _ w49 ⟨nd49,x49,d49⟩
  refine ⟨_,Cell.lst d49.c4 rfl,If.dec (fun h=>by omega) fun _=>⟨_,Cell.lst d49.c2 rfl,_,Cell.lst d49.c2 rfl,_,Cell.lst d49.c2 rfl,rfl,_,_,_,d49.c2,rfl,by simp, .inr (.inr (Nat.le_refl _)),?_,fun w51 h51=>?_⟩⟩
  .intro v hv; simp only [List.mem_cons,List.not_mem_nil,or_false] at hv; rcases hv with h | h | h <;> subst h <;> rfl
  have g51:w51.heap[n0+1]? = some (.cells [.int .u8 kind, .int .u8 lev, .slice s.a s.len s.cap].toArray 236 (0,0)):=Wrt.get (b:=n0+1) h51 d49.c2
  have x51:Ext (·=n0+1) w49 w51:=Wrt.ext (b:=n0+1) h51
  refine ⟨_,Cell.lst g51 rfl,_,Cell.lst g51 rfl,_,Cell.lst g51 rfl,k s L w51 ((nd49.ext x51 fun q h1 h2 h=>by omega).mono (by omega)) el (toNo x49 x51 fun q h=>by omega)⟩
end
end Go.Proofs.YtmbckodpbdlblaaGreat
namespace Go.Proofs.YtmbckodpbdlblaaGreat
open Go.V Go.V.Dk Go.V.Rn
section
variable {w w':Wd} {T T':Nat->Nat} {s:SA}
abbrev SA.src(s:SA):Value := .iface 32 (.pointer s.p)
structure LeafP(k:KP)(l:List Ent):Prop where
 kd:k.l.kd=1
 lv:k.l.lv=0
 pg:k.l.pg=k.n
 n:2<=k.n/\k.n < 100
 right:RightP 1 0 l
 short:(wr 1 0 l).length<=224
 ok:∀ e∈l,e.ch.ok/\e.cd.ok
 ne:l≠[]
 pay:k.b=pad (wr 1 0 l)
set_option maxHeartbeats 1000000 in
theorem node_sy{k:KP}{l:List Ent}{K:Int->Int->Sl->Int->Wd->Prop}(y:Sy w T s)(hk:getA k.n (s.ps.map KP.e)=some k.v)(hm:k∈s.ps)(hl:LeafP k l)
  (kk:∀ sl L w',NdO w'.heap w.heap.size sl L->ents L=l->Ext No w w'->K 1 0 sl 0 w'):C_tree_grove_node s.src k.l.t k.l.pg k.l.cm k.l.gn 0 w K:=by
 apply S_tree_grove_node
 refine fun b w1 n1 b1 w2 n2 b2 w3 n3=>?_
 have x3:Ext No w w3:=(n1.ext.no n2.ext).no n3.ext
 have z1:=n1.size; have z2:=n2.size; have a3:=n3.at_
 have g0:=get_no (get_no n1.get n2.ext) n3.ext
 have g1:=get_no n2.get n3.ext
 have y3:=y.no x3
 refine ⟨fun kd u=>1=kd/\w3=u,⟨0,Cell.lst g1 rfl,If.beq (fun _=>⟨rfl,rfl⟩) fun h=>absurd rfl h⟩,?_⟩
 rintro _ _ _ ⟨rfl,rfl⟩
 refine ⟨_,Cell.lst g0 rfl,k.l.t,Cell.lst g0 rfl,0,Cell.lst g1 rfl,k.l.pg,Cell.lst g1 rfl,k.l.cm,Cell.lst g1 rfl,k.l.gn,Cell.lst g1 rfl,I_pager_Pager_Get ?_⟩
 have hget:=get_page (K:=?_) y3 hk hm hl.n hl.pg ⟨by rw [hl.kd]; decide,by rw [hl.kd]; decide⟩ ?_
 rw [hl.kd,hl.lv] at hget
 .exact hget
 intro sl w4 o4 x4
 rw [hl.pay] at o4
 have h8:=(y3.kn.p k hm).2.2.1
 rw [hl.pay] at h8
 refine If.bne (fun h=>absurd rfl h) fun _=>decode_ok o4.rd hl.right hl.short h8 hl.ok fun sl5 L w5 d5 hL x5=>?_
 refine NewSt rfl rfl (oneL rfl) fun w6 g6 z6 x6=>If.bne (fun h=>absurd rfl h) fun _=>?_
 have x36:Ext No w3 w6:=(x4.no x5).no x6
 have hlen:sl5.len=L.length:=d5.nd.len
 have hne:L.length≠0:=fun e=>hl.ne (by rw [<- hL,List.length_eq_zero_iff.1 e]; rfl)
 refine ⟨_,Cell.lst g6 rfl,If.bne (fun h=>absurd rfl h) fun _=>⟨_,Cell.lst g6 rfl,_,Cell.lst (get_no g1 x36) rfl,If.bne (fun h=>absurd rfl h) fun _=>⟨sl5,Cell.lst g6 rfl,If.beq (fun h=>by omega) fun _=>⟨_,Cell.lst g6 rfl,_,Cell.lst g6 rfl,sl5,Cell.lst g6 rfl,rfl,StN.mk (get_no n3.get x36) (Nat.le_refl 3) (oneL rfl) fun w7 h7=>?_⟩⟩⟩⟩
 have g7:=h7.get (get_no n3.get x36)
 have z36:=x3.size; have zz:=x4.size; have z45:=x5.size
 have x7:Ext No w w7:=(x3.no x36).out h7.ext (by omega)
 refine ⟨_,Cell.lst g7 rfl,_,Cell.lst g7 rfl,sl5,Cell.lst g7 rfl,kk sl5 L w7 ?_ hL x7⟩
 have x57:Ext (·=b2) w5 w7:=x6.of_no.trans h7.ext fun i _ h=>h
 have hb2:b2 < w4.heap.size:=by have:=hlt n3.get; omega
 refine (d5.ext x57 fun i hi e=>by omega).mono (by omega)
theorem links0{g:Value}{t:Int}{see:Value}{K:Int->Wd->Prop}(k:∀ w',Ext No w w'->K 0 w'):C_tree_grove_links g t 0 0 0 see w K:=by
 apply S_tree_grove_links
 refine fun b w1 n1 b1 w2 n2=>⟨fun _ _ u=>w2=u,⟨0,rfl⟩,?_⟩
 rintro _ _ _ _ rfl
 refine ⟨0,Cell.lst n2.get rfl,0,Cell.lst n2.get rfl,0,Cell.lst n2.get rfl,If.no (k w2 (n1.ext.no n2.ext))⟩
abbrev Lab.c(l:Lab):List Value:=[.int .u32 l.t, .int .u8 l.kd, .int .u8 l.lv, .int .u32 l.pg, .int .u64 l.cm, .int .u16 l.gn]
theorem see_label{l:Lab}{bs:Nat}{K:Wd->Prop}(g:w.heap[bs]? = some (.cells [Value.slice none 0 0].toArray 44 (0,0)))
  (k:∀ s w',w'.heap[bs]? = some (.cells [s.v].toArray 44 (0,0))->Own w'.heap w.heap.size 88 6 s l.c->Ext (·=bs) w w'->K w'):C_tree_Labels_1 l.t l.kd l.lv l.pg l.cm l.gn ⟨bs,0,none⟩ w K:=by
 apply S_tree_Labels_1
 refine fun b w1 n1=>⟨⟨none,0,0⟩,Cell.lst (get_no g n1.ext) rfl,_,Cell.lst n1.get rfl,_,Cell.lst n1.get rfl,_,Cell.lst n1.get rfl,_,Cell.lst n1.get rfl,_,Cell.lst n1.get rfl,_,Cell.lst n1.get rfl,?_⟩
 refine one_api_Label (cs:=[]) (xs:=l.c) (Own.nil _ _ _ _) (Nat.le_refl _) rfl (oneL rfl) (Nat.zero_le _) fun s2 w2 o2 l2 x2 hs2=>?_
 have x12:Ext No w1 w2:=x2.mono fun _ _ h=>nomatch h
 have g2:=get_no (get_no g n1.ext) x12
 refine St1.mk g2 (by decide) rfl fun w3 h3=>k s2 w3 (h3.get g2) ?_ ((n1.ext.no x12).of_no.trans h3.ext fun i _ h=>h)
 have z1:=n1.ext.size
 exact (o2.ext h3.ext fun i hi e=>by have:=(o2.lt hi).1; have:=hlt g; omega).mono z1
set_option maxHeartbeats 1000000 in
theorem walk_leaf{k:KP}{e:Ent}{bs:Nat}{K:Int->Wd->Prop}(y:Sy w T s)(hk:getA k.n (s.ps.map KP.e)=some k.v)(hm:k∈s.ps)(hl:LeafP k [e])(hch:e.ch = .z)(g:w.heap[bs]? = some (.cells [Value.slice none 0 0].toArray 44 (0,0)))
  (kk:∀ sl w',w'.heap[bs]? = some (.cells [sl.v].toArray 44 (0,0))->Own w'.heap w.heap.size 88 6 sl k.l.c->Ext (·=bs) w w'->K 0 w'):C_tree_grove_walk s.src k.l.t k.l.pg k.l.cm k.l.gn 0 (.func (.func 90) #[] #[.pointer (some ⟨bs,0,none⟩)]) w K:=by
 apply S_tree_grove_walk
 refine fun b w1 n1 b1 w2 n2=>⟨rfl,fun b2 w3 n3=>?_⟩
 have x3:Ext No w w3:=(n1.ext.no n2.ext).no n3.ext
 have z1:=n1.size; have z2:=n2.size; have z3:=n3.size; have a1:=n1.at_; have a2:=n2.at_; have a3:=n3.at_
 have g0:=get_no (get_no n1.get n2.ext) n3.ext
 have g1:=get_no n2.get n3.ext
 have y3:=y.no x3
 have hbs:=hlt g
 have hn:=hl.n; have hpg:=hl.pg
 refine ⟨k.l.pg,Cell.lst g1 rfl,k.l.cm,Cell.lst g1 rfl,k.l.gn,Cell.lst g1 rfl,0,Cell.lst g1 rfl,If.cases (fun h=>?_) fun _=>?_⟩
 .simp only [Bool.and_eq_true,beq_iff_eq] at h; omega
 refine ⟨_,Cell.lst g0 rfl,k.l.t,Cell.lst g0 rfl,_,Cell.lst g1 rfl,_,Cell.lst g1 rfl,_,Cell.lst g1 rfl,_,Cell.lst g1 rfl,node_sy y3 hk hm hl fun sl L w4 d4 hL x4=>?_⟩
 refine NewSt rfl rfl (oneL rfl) fun w6 g6 z6 x6=>If.bne (fun h=>absurd rfl h) fun _=>?_
 have x46:Ext No w3 w6:=x4.no x6
 have x06:=x3.no x46
 refine ⟨_,Cell.lst (get_no n3.get x46) rfl,_,Cell.lst (get_no g0 x46) rfl,1,Cell.lst g6 rfl,0,Cell.lst (get_no g1 x46) rfl,_,Cell.lst (get_no g1 x46) rfl,_,Cell.lst (get_no g1 x46) rfl,_,Cell.lst (get_no g1 x46) rfl,V_tree_Labels_1 ?_⟩
 have hsee:=see_label (K:=?_) (l:=k.l) (get_no g x06) ?_
 rw [hl.kd,hl.lv] at hsee
 .exact hsee
 intro sl7 w7 g7 o7 x7
 have zz6:=x06.size
 have l3:=hlt n3.get
 have z36:=x46.size
 have g67:w7.heap[w4.heap.size]? = _:=get_ext g6 x7 (by have:=x4.size; omega)
 have d7:NdO w7.heap w3.heap.size sl L:=(d4.no x6).ext x7 fun i hi e=>by omega
 refine ⟨sl,Cell.lst g67 rfl,?_⟩
 obtain ⟨p,rfl⟩ : ∃ p,L=[p]:=by
  have:=congrArg List.length hL
  match L,this with
  | [p],_=>exact ⟨p,rfl⟩
  | [],h=>simp at h
  | _::_::_,h=>simp at h
 have hpe:p.2=e:=by simpa [ents] using hL
 have hz:p.1.ch = .z:=by rw [(d7.nd.ent p (List.mem_singleton.2 rfl)).ch,hpe]; exact hch
 obtain ⟨⟨xk,xv,xn,xch,xcd⟩,e1⟩:=p
 simp only at hz
 subst hz
 have g07:w7.heap[b]? = some (.cells [s.src, .int .u32 k.l.t].toArray 189 (0,0)):=get_ext (get_no g0 x46) x7 (by omega)
 have g17:w7.heap[b1]? = some (.cells [Value.int .u32 k.l.pg, .int .u64 k.l.cm, .int .u16 k.l.gn, .int .u8 0].toArray 38 (0,0)):=get_ext (get_no g1 x46) x7 (by omega)
 have hlen:sl.len=1:=d7.nd.len
 have fin:∀ u,Ext No w7 u->K 0 u:=fun u x=>kk sl7 u (get_no g7 x) ((o7.no x).mono zz6) ((x06.of_no.trans x7 fun i _ h=>h).trans x.of_no fun i _ h=>h)
 refine ⟨fun n t u=>(n=1/\t=0/\w7=u)∨(n=0/\t=1/\Ext No w7 u),⟨1, .inl ⟨rfl,rfl,rfl⟩⟩,?_⟩
 rintro _ n t u (⟨rfl,rfl,rfl⟩ | ⟨rfl,rfl,x8⟩)
 .refine If.dec (fun _=>?_) fun h=>absurd (by omega) h
  refine ent_copy d7.nd.rd (by decide) (by omega) fun b9 w9 hi g9 e9 z9 x9=>?_
  exact ⟨0,Cell.lst (get_no g17 x9) rfl,If.dec (fun h=>absurd h (by decide)) fun _=>⟨_,Cell.lst (get_no g07 x9) rfl,k.l.t,Cell.lst (get_no g07 x9) rfl,0,Cell.lst g9 rfl,0,Cell.lst g9 rfl,0,Cell.lst g9 rfl,links0 fun w10 x10=>If.bne (fun h=>absurd rfl h) fun _=>Ar.i64 (by decide) ⟨0,by decide, .inr ⟨rfl,rfl,x9.no x10⟩⟩⟩⟩
 .exact If.dec (fun h=>absurd h (by omega)) fun _=>fin u x8
theorem labels_leaf{k:KP}{e:Ent}{K:Sl->Int->Wd->Prop}(y:Sy w T s)(hk:getA k.n (s.ps.map KP.e)=some k.v)(hm:k∈s.ps)(hl:LeafP k [e])(hch:e.ch = .z)
  (kk:∀ sl w',Own w'.heap w.heap.size 88 6 sl k.l.c->Ext No w w'->K sl 0 w'):C_tree_Labels s.src k.l.t k.l.pg k.l.cm k.l.gn 0 w K:=by
 apply S_tree_Labels
 refine fun b w1 n1=>⟨trivial,If.no fun b1 w2 n2=>⟨rfl,_,Cell.lst (get_no n1.get n2.ext) rfl,_,Cell.lst (get_no n1.get n2.ext) rfl,_,Cell.lst (get_no n1.get n2.ext) rfl,_,Cell.lst (get_no n1.get n2.ext) rfl,?_⟩⟩
 have x2:=n1.ext.no n2.ext
 have a2:=n2.at_; have z1:=n1.size; have z2:=n2.size
 refine walk_leaf (y.no x2) hk hm hl hch n2.get fun sl w3 g3 o3 x3=>If.bne (fun h=>absurd rfl h) fun _=>⟨sl,Cell.lst g3 rfl,kk sl w3 (o3.mono x2.size) (x2.out x3 (by omega))⟩
theorem labels0{t:Int}{K:Sl->Int->Wd->Prop}(k:∀ w',Ext No w w'->K ⟨none,0,0⟩ 0 w'):C_tree_Labels s.src t 0 0 0 0 w K:=by
 apply S_tree_Labels
 refine fun b w1 n1=>⟨trivial,If.no fun b1 w2 n2=>⟨rfl,0,Cell.lst (get_no n1.get n2.ext) rfl,0,Cell.lst (get_no n1.get n2.ext) rfl,0,Cell.lst (get_no n1.get n2.ext) rfl,0,Cell.lst (get_no n1.get n2.ext) rfl,?_⟩⟩
 apply S_tree_grove_walk
 refine fun b3 w3 n3 b4 w4 n4=>⟨rfl,fun b5 w5 n5=>?_⟩
 have g4:=get_no n4.get n5.ext
 have x25:Ext No w2 w5:=(n3.ext.no n4.ext).no n5.ext
 exact ⟨0,Cell.lst g4 rfl,0,Cell.lst g4 rfl,0,Cell.lst g4 rfl,0,Cell.lst g4 rfl,If.yes (If.bne (fun h=>absurd rfl h) fun _=>⟨⟨none,0,0⟩,Cell.lst (get_no n2.get x25) rfl,k w5 ((n1.ext.no n2.ext).no x25)⟩)⟩
end
end Go.Proofs.YtmbckodpbdlblaaGreat
namespace Go.Proofs.YtmbckodpbdlblaaGreat
open Go.V Go.V.Pk
theorem two7:(2:Int) ^ min (Int.toNat 7) (IntKind.bits .u64)=128:=by decide
theorem num_spec{n:Int}{w:Wd}{K:Sl->Wd->Prop}(h0:0<=n)(h1:n<=18446744073709551615)
  (hk:∀ s w',OwnB w'.heap w.heap.size s (numB n.toNat)->Ext No w w'->K s w'):C_pack_Num n w K:=by
 apply S_pack_Num
 have h10:=numB_len10 (n:=n.toNat) (by omega)
 refine ⟨fun m x s w'=>m=x.toNat/\0<=x/\x<=18446744073709551615/\∃ pre,OwnB w'.heap w.heap.size s pre/\pre++numB x.toNat=numB n.toNat/\Ext No w w',
  ⟨_,rfl,h0,h1,[],Own.nil _ _ _ _,rfl,Ext.refl _ _⟩,?_⟩
 rintro _ m x s w1 ⟨rfl,hx0,hx1,pre,own,hpre,ext⟩
 have hs:=own.len
 have hl:pre.length<=10:=by rw [<- hpre,List.length_append] at h10; omega
 have fin:∀ b w2 w3 (y:Int),New w1 (.cells [.int .u8 y].toArray 5) b w2->Ext (fun i=>s.blk=some i) w2 w3->Ext No w w3:=fun b w2 w3 y new e =>
  (ext.no new.ext).trans e fun i hi hb=>by have:=(own.lt hb).1; omega
 refine If.dec (fun hgt=>?_) (fun hle=>?_)
 .refine Ar.u8m (Nm.as (bitI_or128 (by omega)) fun b w2 new=>?_)
  refine app_uint8 (own.no new.ext) (by have:=new.ext.size; have:=ext.size; omega) ((Own.new (sz:=1) (n:=1) new rfl (by simp [oneC])).rd.src) (by simp at hs ⊢; omega) fun s' w3 own' _ ext' _=>?_
  refine ⟨by decide,Nm.as (e':=x / 128) (by rw [fdiv_pow,two7]) ⟨_,?_,rfl,by omega,by omega,pre++[x % 256 % 128+128],by simpa [OwnB] using own',?_,fin _ _ _ _ new ext'⟩⟩
  .omega
  .rw [<- hpre,numB_ge (n:=x.toNat) (by omega)]
   simp only [List.append_assoc,List.singleton_append]
   congr 2
   .omega
   .congr 1; omega
 .refine Ar.u8 (by omega) fun b w2 new=>?_
  refine app_uint8 (own.no new.ext) (by have:=new.ext.size; have:=ext.size; omega) ((Own.new (sz:=1) (n:=1) new rfl (by simp [oneC])).rd.src) (by simp at hs ⊢; omega) fun s' w3 own' _ ext' _=>?_
  refine hk s' w3 ?_ (fin _ _ _ _ new ext')
  rw [<- hpre,numB_lt (by omega)]
  simpa [OwnB,Int.toNat_of_nonneg hx0] using own'
theorem _root_.Go.V.Rd.extQ{S:Nat->Prop}{w w':Wd}{s:Sl}{sz:Nat}{cs:List Value}(r:Rd w.heap s sz cs)(x:Ext S w w')(h:cs≠[]->∀ b,s.blk=some b->¬ S b):Rd w'.heap s sz cs:=by
 by_cases hl:cs=[]
 .subst hl
  exact ⟨r.len,r.cap,fun h=>(h rfl).elim,by simp⟩
 .exact r.ext x fun a b ha hb=>h hl b (by simp [Sl.blk,ha,hb])
end Go.Proofs.YtmbckodpbdlblaaGreat
namespace Go.Proofs.YtmbckodpbdlblaaGreat
open Go.V Go.V.Pk
theorem text_spec{b:Sl}{w:Wd}{K:Sl->Wd->Prop}{l:List Int}(hb:RdB w.heap b l)(hl:l.length<=70368744177664)
  (k:∀ s w',OwnB w'.heap w.heap.size s (numB l.length++l)->Ext No w w'->K s w'):C_pack_Text b w K:=by
 apply S_pack_Text
 have hlb:=hb.len
 refine Ar.u64 (by omega) (num_spec (by omega) (by omega) fun s w1 own ext=>?_)
 have hs:=own.len
 have h10:=numB_len10 (n:=((b.len:Int)).toNat) (by omega)
 refine app_uint8 own ext.size (hb.no ext).src (by omega) fun s' w2 own' _ ext' _=>?_
 refine k s' w2 ?_ (ext.trans ext' fun i hi hbi=>by have:=(own.lt hbi).1; omega)
 have e:((b.len:Int)).toNat=l.length:=by omega
 rw [e] at own'
 simpa [OwnB] using own'
end Go.Proofs.YtmbckodpbdlblaaGreat
namespace Go.V
open Go.V.Pk Go.Proofs.YtmbckodpbdlblaaGreat
structure HeldP where
 gen:Int
 cm:Int
 wr:List Int
deriving DecidableEq
structure SeatP where
 tenant:Int
 quota:Int
 mark:List Int
 root:Rf
 lev:Int
 charge:Int
 held:List HeldP
deriving DecidableEq
def MayS(x:SeatP):Prop:=x.tenant≠0/\1<=x.quota/\x.quota<=1000/\x.mark.length=16/\0<=x.charge/\x.charge<=x.quota/\(x.charge=0 ↔ x.root = .z/\x.lev=0) /\
 ((∃ a,x.held=[a]/\a.wr.length=32)∨∃ a b,x.held=[a,b]/\a.wr.length=32/\b.wr.length=32/\b.gen=a.gen+1)
def textB(l:List Int):List Int:=numB l.length++l
def heldB(h:HeldP):List Int:=numB h.gen.toNat++(numB h.cm.toNat++textB h.wr)
def formB(x:SeatP):List Int :=
 numB x.quota.toNat++(numB x.charge.toNat++(textB x.mark++(numB x.root.p.toNat++(numB x.root.c.toNat++(numB x.root.g.toNat++(numB x.lev.toNat++(numB x.held.length++x.held.flatMap heldB)))))))
structure RngH(h:HeldP):Prop where
 gen:0<=h.gen/\h.gen<=65535
 cm:0<=h.cm/\h.cm<=18446744073709551615
 wr:B8 h.wr
structure RngS(x:SeatP):Prop where
 tenant:0<=x.tenant/\x.tenant<=4294967295
 mark:B8 x.mark
 root:x.root.ok
 lev:0<=x.lev/\x.lev<=255
 held:∀ h∈x.held,RngH h
structure HeldV where
 gen:Int
 cm:Int
 wr:Sl
def HeldV.cells(v:HeldV):List Value:=[.int .u16 v.gen, .int .u64 v.cm, .slice v.wr.a v.wr.len v.wr.cap]
structure SeatV where
 tenant:Int
 quota:Int
 mark:Sl
 root:Rf
 lev:Int
 charge:Int
 held:Sl
def SeatV.cells(v:SeatV):List Value:=[.int .u32 v.tenant, .int .i64 v.quota, .slice v.mark.a v.mark.len v.mark.cap, .int .u32 v.root.p, .int .u64 v.root.c, .int .u16 v.root.g, .int .u8 v.lev, .int .i64 v.charge, .slice v.held.a v.held.len v.held.cap]
theorem HeldV.one(v:HeldV):∀ x∈v.cells,oneC x=true:=by
 intro x hx
 simp only [HeldV.cells,List.mem_cons,List.not_mem_nil,or_false] at hx
 rcases hx with rfl | rfl | rfl <;> rfl
theorem SeatV.one(v:SeatV):∀ x∈v.cells,oneC x=true:=by
 intro x hx
 simp only [SeatV.cells,List.mem_cons,List.not_mem_nil,or_false] at hx
 rcases hx with rfl | rfl | rfl | rfl | rfl | rfl | rfl | rfl | rfl <;> rfl
theorem StN.mk{w:Wd}{b o:Nat}{cs vs:List Value}{T:TypeId}{K:Wd->Prop}(hb:w.heap[b]? = some (.cells cs.toArray T (0,0)))(ho:o+vs.length<=cs.length)(hv:∀ v∈vs,oneC v=true)
  (k:∀ w',Wrt w b (.cells (setL cs o vs).toArray T (0,0)) w'->K w'):StN w ⟨b,o,none⟩ vs K :=
 ⟨cs.toArray,T,(0,0),hb,rfl,by simpa using ho, .inr (.inr (Nat.le_refl _)),hv,fun w' hw=>k w' hw⟩
theorem setL_full(cs vs:List Value)(h:vs.length=cs.length):setL cs 0 vs=vs:=by
 rw [setL_eq _ _ _ (by omega),List.take_zero,List.nil_append,Nat.zero_add,h,List.drop_length,List.append_nil]
theorem StN.all{w:Wd}{b:Nat}{cs vs:List Value}{T:TypeId}{K:Wd->Prop}(hb:w.heap[b]? = some (.cells cs.toArray T (0,0)))(hl:vs.length=cs.length)(hv:∀ v∈vs,oneC v=true)
  (k:∀ w',w'.heap[b]? = some (.cells vs.toArray T (0,0))->Ext (·=b) w w'->w'.heap.size=w.heap.size->K w'):StN w ⟨b,0,none⟩ vs K :=
 StN.mk hb (by omega) hv fun w' h=>k w' (by have:=h.get hb; rw [setL_full _ _ hl] at this; exact this) h.ext h.size
structure RdQ(Q:Nat->Prop)(h:Array Obj)(s:Sl)(l:List Int):Prop where
 rd:RdB h s l
 q:l≠[]->∀ b,s.blk=some b->Q b
theorem RdQ.ext{Q S:Nat->Prop}{w w':Wd}{s:Sl}{l:List Int}(r:RdQ Q w.heap s l)(x:Ext S w w')(h:∀ b,Q b->¬ S b):RdQ Q w'.heap s l:=by
 refine ⟨?_,r.q⟩
 by_cases hl:l=[]
 .subst hl
  exact ⟨Rd.len r.rd,r.rd.cap,fun h=>(h rfl).elim,by simp⟩
 .exact Rd.ext r.rd x fun a b ha hb=>h b (r.q hl b (by simp [Sl.blk,ha,hb]))
theorem RdQ.no{Q:Nat->Prop}{w w':Wd}{s:Sl}{l:List Int}(r:RdQ Q w.heap s l)(x:Ext No w w'):RdQ Q w'.heap s l:=r.ext x fun _ _=>id
theorem RdQ.mono{Q Q':Nat->Prop}{h:Array Obj}{s:Sl}{l:List Int}(r:RdQ Q h s l)(hq:∀ b,Q b->Q' b):RdQ Q' h s l:=⟨r.rd,fun hl b hb=>hq b (r.q hl b hb)⟩
theorem RdQ.own{Q:Nat->Prop}{h:Array Obj}{base:Nat}{s:Sl}{l:List Int}(o:OwnB h base s l)(hq:∀ b,base<=b->b < h.size->Q b):RdQ Q h s l:=⟨o.rd,fun _ b hb=>hq b (o.lt hb).1 (o.lt hb).2⟩
theorem RdQ.lt{Q:Nat->Prop}{h:Array Obj}{s:Sl}{l:List Int}(r:RdQ Q h s l):RdQ (fun q=>Q q/\q < h.size) h s l:=⟨r.rd,fun hl b hb=>⟨r.q hl b hb,Rd.lt r.rd (by simpa using hl) hb⟩⟩
structure HeldR(Q:Nat->Prop)(h:Array Obj)(v:HeldV)(x:HeldP):Prop where
 gen:v.gen=x.gen
 cm:v.cm=x.cm
 wr:RdQ Q h v.wr x.wr
theorem HeldR.ext{Q S:Nat->Prop}{w w':Wd}{v:HeldV}{x:HeldP}(r:HeldR Q w.heap v x)(e:Ext S w w')(h:∀ b,Q b->¬ S b):HeldR Q w'.heap v x:=⟨r.gen,r.cm,r.wr.ext e h⟩
theorem HeldR.no{Q:Nat->Prop}{w w':Wd}{v:HeldV}{x:HeldP}(r:HeldR Q w.heap v x)(e:Ext No w w'):HeldR Q w'.heap v x:=r.ext e fun _ _=>id
abbrev hC(L:List (HeldV×HeldP)):List Value:=L.flatMap fun e=>e.1.cells
theorem hC_len(L:List (HeldV×HeldP)):∀ e∈L,e.1.cells.length=3:=fun _ _=>rfl
theorem hC_ne{L:List (HeldV×HeldP)}(h:hC L≠[]):L≠[]:=by rintro rfl; exact h rfl
def HeldsR(Q:Nat->Prop)(h:Array Obj)(s:Sl)(l:List HeldP):Prop:=∃ L:List (HeldV×HeldP),L.map Prod.snd=l/\Rd h s 3 (hC L)/\(L≠[]->∀ b,s.blk=some b->Q b)/\∀ e∈L,HeldR Q h e.1 e.2
theorem HeldsR.ext{Q S:Nat->Prop}{w w':Wd}{s:Sl}{l:List HeldP}(r:HeldsR Q w.heap s l)(x:Ext S w w')(h:∀ b,Q b->¬ S b):HeldsR Q w'.heap s l:=by
 obtain ⟨L,h1,h2,h3,h4⟩:=r
 exact ⟨L,h1,h2.extQ x fun hne b hb=>h b (h3 (hC_ne hne) b hb),h3,fun e he=>(h4 e he).ext x h⟩
theorem HeldsR.no{Q:Nat->Prop}{w w':Wd}{s:Sl}{l:List HeldP}(r:HeldsR Q w.heap s l)(x:Ext No w w'):HeldsR Q w'.heap s l:=r.ext x fun _ _=>id
theorem HeldsR.len{Q:Nat->Prop}{h:Array Obj}{s:Sl}{l:List HeldP}(r:HeldsR Q h s l):s.len=l.length:=by
 obtain ⟨L,h1,h2,h3,h4⟩:=r
 have:=h2.len
 rw [flat_len' (hC_len L)] at this
 rw [<- h1,List.length_map]; omega
structure SeatR(Q:Nat->Prop)(h:Array Obj)(v:SeatV)(x:SeatP):Prop where
 tenant:v.tenant=x.tenant
 quota:v.quota=x.quota
 mark:RdQ Q h v.mark x.mark
 root:v.root=x.root
 lev:v.lev=x.lev
 charge:v.charge=x.charge
 held:HeldsR Q h v.held x.held
theorem SeatR.ext{Q S:Nat->Prop}{w w':Wd}{v:SeatV}{x:SeatP}(r:SeatR Q w.heap v x)(e:Ext S w w')(h:∀ b,Q b->¬ S b):SeatR Q w'.heap v x:=⟨r.tenant,r.quota,r.mark.ext e h,r.root,r.lev,r.charge,r.held.ext e h⟩
theorem SeatR.no{Q:Nat->Prop}{w w':Wd}{v:SeatV}{x:SeatP}(r:SeatR Q w.heap v x)(e:Ext No w w'):SeatR Q w'.heap v x:=r.ext e fun _ _=>id
theorem ixHd{Q:Nat->Prop}{w:Wd}{s:Sl}{l:List HeldP}{i:Int}{K:Addr->Prop}(r:HeldsR Q w.heap s l)(h0:0<=i)(h1:i < (s.len:Int))
  (k:∀ b o (v:HeldV) (hi:i.toNat < l.length),HeldR Q w.heap v l[i.toNat]->(∀ j x,v.cells[j]? = some x->Cell w ⟨b,o+j,none⟩ x)->K ⟨b,o,none⟩):Ix s.a s.len i 3 K:=by
 obtain ⟨L,h2,h3,h4,h5⟩:=r
 refine Ix.elem (f:=fun e:HeldV×HeldP=>e.1.cells) h3 (hC_len L) (by decide) h0 h1 fun b o hi hb hc=>?_
 have hl:L.length=l.length:=by rw [<- h2,List.length_map]
 refine k b o L[i.toNat].1 (by omega) ?_ hc
 have e:l[i.toNat]'(by omega)=L[i.toNat].2:=by simp [<- h2]
 rw [e]; exact h5 _ (List.getElem_mem hi)
end Go.V
namespace Go.Proofs.YtmbckodpbdlblaaGreat
open Go.V
section
variable {w:Wd} {Q Q':Nat->Prop}
theorem heldE{w:Wd}{b j:Nat}{x:Value}{cs:List Value}{T:TypeId}{fz:Nat×Nat}(g:w.heap[b]? = some (.cells cs.toArray T fz))(h:cs[j]? = some x):Held (Ext No w) ((Addr.mk b 0 none).add j) x:=by
 rw [addr_add_none rfl,Nat.zero_add]; exact Held.cell (Cell.lst g h)
theorem heldA{w:Wd}{b i j:Nat}{x:Value}{cs:List Value}{T:TypeId}{fz:Nat×Nat}(g:w.heap[b]? = some (.cells cs.toArray T fz))(h:cs[i+j]? = some x):Held (Ext No w) (((Addr.mk b 0 none).add i).add j) x:=by
 rw [addr_add_none (a:=Addr.mk b 0 none) rfl,addr_add_none rfl,Nat.zero_add]; exact Held.cell (Cell.lst g h)
theorem held0{w:Wd}{b:Nat}{x:Value}{cs:List Value}{T:TypeId}{fz:Nat×Nat}(g:w.heap[b]? = some (.cells cs.toArray T fz))(h:cs[0]? = some x):Held (Ext No w) (Addr.mk b 0 none) x:=Held.cell (Cell.lst g h)
end
end Go.Proofs.YtmbckodpbdlblaaGreat
namespace Go.V
theorem root_zero{r:Rf}{lev:Int}:((((r.p == 0) && ((r.c == 0) && ((r.g == 0) && true))) && ((lev == 0) && true))=true) ↔ (r = .z/\lev=0):=by
 obtain ⟨p,c,g⟩:=r
 simp [Rf.z]
theorem held_two{l:List HeldP}(h:l.length=2):∃ a b,l=[a,b]:=by
 match l,h with
 | [a,b],_=>exact ⟨a,b,rfl⟩
theorem held_one{l:List HeldP}(h:l.length=1):∃ a,l=[a]:=by
 match l,h with
 | [a],_=>exact ⟨a,rfl⟩
theorem take_snocH{α:Type}{l:List α}{j:Nat}(h:j < l.length):l.take (j+1)=l.take j++[l[j]]:=by
 rw [List.take_succ_eq_append_getElem h]
end Go.V
namespace Go.Proofs.YtmbckodpbdlblaaGreat
open Go.V
section
variable {w:Wd} {Q Q':Nat->Prop}
theorem hasBad_spec{s:Sl}{l:List HeldP}{K:Bool->Wd->Prop}(r:HeldsR Q w.heap s l)(hl:l.length<=1000000000000)(k:∀ t w',(t=true ↔ ∃ h∈l,h.wr.length≠32)->Ext No w w'->K t w') :
  C_slices_ContainsFunc_api_Held_api_Held s (.func (.func 388) #[] #[]) w K:=by
 apply S_slices_ContainsFunc_api_Held_api_Held
 apply S_slices_IndexFunc_api_Held_api_Held
 have hsl:=r.len
 refine ⟨fun m t w'=>∃ j:Nat,t=j/\j<=l.length/\m=l.length - j/\(∀ h∈l.take j,h.wr.length=32)/\Ext No w w',⟨_,0,rfl,Nat.zero_le _,rfl,by simp,Ext.refl _ _⟩,?_⟩
 rintro _ m0 _ w1 ⟨j,rfl,hj,rfl,hall,x1⟩
 refine If.dec (fun h=>?_) fun h=>?_
 .refine ixHd (r.no x1) (by omega) h fun b o v hi hr hc=>?_
  have hjl:j < l.length:=hi
  have el:l[((j:Nat):Int).toNat]'hi=l[j]:=rfl
  rw [el] at hr
  refine ⟨v.gen,hc 0 _ rfl,v.cm,hc 1 _ rfl,v.wr,hc 2 _ rfl,V_roll_May_1 (S_roll_May_1 (NewW.mk fun b1 w2 n2=>⟨v.wr,Cell.lst (cs:=v.cells) n2.get rfl,?_⟩))⟩
  have hlw:=RdB.len hr.wr.rd
  have x2:=x1.no n2.ext
  refine If.bne (fun hne=>k _ w2 ?_ x2) fun he=>Ar.i64 (by omega) ⟨_,by omega,j+1,by omega,by omega,rfl,fun h hh=>?_,x2⟩
  .rw [decide_eq_true (by omega)]
   exact ⟨fun _=>⟨_,List.getElem_mem hjl,by omega⟩,fun _=>rfl⟩
  .rw [take_snocH hjl] at hh
   rcases List.mem_append.1 hh with h1 | h1
   .exact hall h h1
   .rw [List.mem_singleton] at h1; rw [h1]; omega
 .have hjn:j=l.length:=by omega
  rw [hjn,List.take_length] at hall
  refine k _ w1 ?_ x1
  rw [show decide ((-1:Int)≥0)=false from rfl]
  exact ⟨fun h=>(by cases h),fun ⟨h,hh,hne⟩=>(hne (hall h hh)).elim⟩
set_option maxHeartbeats 1000000 in
theorem rmay_spec{v:SeatV}{x:SeatP}{K:Bool->Wd->Prop}(r:SeatR Q w.heap v x)(rg:∀ h∈x.held,RngH h)(hl:x.held.length<=1000000000000)(k:∀ t w',(t=true ↔ MayS x)->Ext No w w'->K t w'):C_roll_May v.tenant v.quota v.mark v.root.p v.root.c v.root.g v.lev v.charge v.held w K:=by
 apply S_roll_May
 refine NewW.mk fun b w1 n1=>?_
 have g1:w1.heap[b]? = some (.cells v.cells.toArray 113 (0,0)):=n1.get
 have x1:=n1.ext
 have xd:Ext No w (drewW w1):=x1.drew
 have xdd:Ext No w (drewW (drewW w1)):=xd.drew
 have lm:=RdB.len r.mark.rd; have lh:=r.held.len
 have et:=r.tenant; have eq:=r.quota; have er:=r.root; have ev:=r.lev; have ec:=r.charge
 have no:∀{w'},Ext No w w'->¬ MayS x->K false w':=fun e h=>k _ _ ⟨fun h=>(by cases h),fun h'=>(h h').elim⟩ e
 refine ⟨_,Cell.lst g1 rfl,fun t w'=>(t=true ↔ ¬ (x.tenant≠0/\1<=x.quota/\x.quota<=1000/\x.mark.length=16))/\w'=w1,
  ⟨_,Cell.lst g1 rfl,If.beq (fun h=>⟨⟨fun _ h'=>by omega,fun _=>rfl⟩,rfl⟩) fun h1=>⟨_,Cell.lst g1 rfl,If.dec (fun h=>⟨⟨fun _ h'=>by omega,fun _=>rfl⟩,rfl⟩) fun h2=>⟨_,Cell.lst g1 rfl,If.dec (fun h=>⟨⟨fun _ h'=>by omega,fun _=>rfl⟩,rfl⟩) fun h3=>⟨_,Cell.lst g1 rfl,⟨?_,rfl⟩⟩⟩⟩⟩,?_⟩
 .rw [bne_iff_ne]
  exact ⟨fun h h'=>by omega,fun h h'=>h ⟨by omega,by omega,by omega,by omega⟩⟩
 rintro _ t w2 ⟨ht,rfl⟩
 refine If.cases (fun h=>no x1 fun m=>ht.1 h ⟨m.1,m.2.1,m.2.2.1,m.2.2.2.1⟩) fun h=>?_
 have hA:x.tenant≠0/\1<=x.quota/\x.quota<=1000/\x.mark.length=16:=Classical.byContradiction fun c=>by rw [ht.2 c] at h; cases h
 refine ⟨fun t w'=>(t=true ↔ ¬ (0<=x.charge/\x.charge<=x.quota/\(x.charge=0 ↔ x.root = .z/\x.lev=0)))/\w'=drewW w2,
  ⟨Ext No w2,(Ext.refl _ _).drew,v.charge,heldE g1 rfl,If.dec (fun h=>⟨⟨fun _ h'=>by omega,fun _=>rfl⟩,rfl⟩) fun h1=>⟨v.charge,heldE g1 rfl,v.quota,heldE g1 rfl,If.dec (fun h=>⟨⟨fun _ h'=>by omega,fun _=>rfl⟩,rfl⟩) fun h2=>⟨v.charge,heldE g1 rfl,v.root.p,heldE g1 rfl,v.root.c,heldA g1 rfl,v.root.g,heldA g1 rfl,v.lev,heldA g1 rfl,⟨?_,rfl⟩⟩⟩⟩,?_⟩
 .have e1:(v.charge == 0)=decide (x.charge=0):=by rw [ec]; rfl
  have e2:((((v.root.p == 0) && ((v.root.c == 0) && ((v.root.g == 0) && true))) && ((v.lev == 0) && true)))=decide (x.root = .z/\x.lev=0):=by rw [Bool.eq_iff_iff,root_zero,er,ev,decide_eq_true_iff]
  rw [e1,e2]
  by_cases c1:x.charge=0 <;> by_cases c2:x.root = .z/\x.lev=0 <;> simp [c1,c2] <;> omega
 rintro _ t w3 ⟨ht,rfl⟩
 refine If.cases (fun h=>no xd fun m=>ht.1 h ⟨m.2.2.2.2.1,m.2.2.2.2.2.1,m.2.2.2.2.2.2.1⟩) fun h=>?_
 have hB:0<=x.charge/\x.charge<=x.quota/\(x.charge=0 ↔ x.root = .z/\x.lev=0):=Classical.byContradiction fun c=>by rw [ht.2 c] at h; cases h
 have gd:(drewW w2).heap[b]? = some (.cells v.cells.toArray 113 (0,0)):=g1
 have len:MayS x->x.held.length=1∨x.held.length=2:=fun m=>by
  rcases m.2.2.2.2.2.2.2 with ⟨a,h,_⟩ | ⟨a,c,h,_⟩ <;> rw [h] <;> simp
 refine ⟨Ext No (drewW w2),(Ext.refl _ _).drew,If.dec (fun h=>no xdd fun m=>by have:=len m; omega) fun h1=>If.dec (fun h=>no xdd fun m=>by have:=len m; omega) fun h2=>If.beq (fun h3=>?_) fun h3=>?_⟩
 .obtain ⟨a,c,hac⟩:=held_two (l:=x.held) (by omega)
  have ga:=rg a (by rw [hac]; simp)
  have gc:=rg c (by rw [hac]; simp)
  have hr:HeldsR Q (drewW w2).heap v.held [a,c]:=by rw [<- hac]; exact r.held.no xd
  have two:x.held.length=2:=by omega
  have mayd:MayS x->c.gen=a.gen+1/\a.wr.length=32/\c.wr.length=32:=fun m=>by
   rcases m.2.2.2.2.2.2.2 with ⟨a',h,_⟩ | ⟨a',c',h,h1,h2,h3⟩
   .rw [h] at two; cases two
   .rw [hac] at h; cases h; exact ⟨h3,h1,h2⟩
  refine ⟨v.held,heldE gd rfl,ixHd hr (Int.le_refl _) (by omega) fun b1 o1 u hi hu hc=>⟨u.gen,Held.cell (hc 0 _ rfl),If.beq (fun h=>no xdd fun m=>?_) fun hne=>⟨v.held,heldE gd rfl,ixHd hr (by decide) (by omega) fun b2 o2 u2 hi2 hu2 hc2=>⟨u2.gen,Held.cell (hc2 0 _ rfl),v.held,heldE gd rfl,ixHd hr (Int.le_refl _) (by omega) fun b3 o3 u3 hi3 hu3 hc3=>⟨u3.gen,Held.cell (hc3 0 _ rfl),?_⟩⟩⟩⟩⟩
  .have:=mayd m; have e:=hu.gen; have e':([a,c][(0:Int).toNat]'hi)=a:=rfl; rw [e'] at e; have:=gc.gen; omega
  .have e1:u.gen=a.gen:=hu.gen
   have e2:u2.gen=c.gen:=hu2.gen
   have e3:u3.gen=a.gen:=hu3.gen
   have:=ga.gen
   refine Ar.u16 (by omega) (If.bne (fun h=>no xdd fun m=>?_) fun he=>⟨v.held,Cell.lst gd rfl,hasBad_spec hr (by simp) fun t w4 ht x4=>k _ w4 ?_ (xdd.no x4)⟩)
   .have:=mayd m; omega
   .have ht':t=true ↔ ¬ (a.wr.length=32/\c.wr.length=32):=ht.trans ⟨fun ⟨h,hh,hn⟩ hb=>by simp at hh; rcases hh with rfl | rfl; exact hn hb.1; exact hn hb.2,fun hb=>Classical.byContradiction fun hc=>hb ⟨Classical.byContradiction fun h1=>hc ⟨a,by simp,h1⟩,Classical.byContradiction fun h1=>hc ⟨c,by simp,h1⟩⟩⟩
    constructor
    .intro h
     have h0:a.wr.length=32/\c.wr.length=32:=Classical.byContradiction fun hb=>by rw [ht'.2 hb] at h; cases h
     exact ⟨hA.1,hA.2.1,hA.2.2.1,hA.2.2.2,hB.1,hB.2.1,hB.2.2, .inr ⟨a,c,hac,h0.1,h0.2,by omega⟩⟩
    .intro m
     have:=mayd m
     cases t with
     | false=>rfl
     | true=>exact (ht'.1 rfl ⟨this.2.1,this.2.2⟩).elim
 .obtain ⟨a,hac⟩:=held_one (l:=x.held) (by omega)
  have hr:HeldsR Q (drewW (drewW w2)).heap v.held [a]:=by rw [<- hac]; exact r.held.no xdd
  refine ⟨v.held,Cell.lst gd rfl,hasBad_spec hr (by simp) fun t w4 ht x4=>k _ w4 ?_ (xdd.no x4)⟩
  have ht':t=true ↔ a.wr.length≠32:=ht.trans ⟨fun ⟨h,hh,hn⟩=>by simp at hh; rw [<- hh]; exact hn,fun h=>⟨a,by simp,h⟩⟩
  constructor
  .intro h
   have h0:a.wr.length=32:=Classical.byContradiction fun hb=>by rw [ht'.2 hb] at h; cases h
   exact ⟨hA.1,hA.2.1,hA.2.2.1,hA.2.2.2,hB.1,hB.2.1,hB.2.2, .inl ⟨a,hac,h0⟩⟩
  .intro m
   have h0:a.wr.length=32:=by
    rcases m.2.2.2.2.2.2.2 with ⟨a',h,h1⟩ | ⟨a',c',h,_⟩
    .rw [hac] at h; cases h; exact h1
    .rw [hac] at h; cases h
   cases t with
   | false=>rfl
   | true=>exact (ht'.1 rfl h0).elim
end
end Go.Proofs.YtmbckodpbdlblaaGreat
