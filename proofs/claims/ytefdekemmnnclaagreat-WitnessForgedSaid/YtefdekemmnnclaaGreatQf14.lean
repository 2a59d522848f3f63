/- Texts for LWitnessForged, part 14. -/
import Derived.Laws.Externs
import Derived.Test.YtefdekemmnnclaaGreatQf13
namespace Go.V
def Cq:List Int->List Int->Int
 | [],[]=>0
 | [],_::_=> -1
 | _::_,[]=>1
 | x::a,y::b=>if x < y then -1 else if y < x then 1 else Cq a b
theorem F3:∀(a b:List Int),Cq a b = -1∨Cq a b=0∨Cq a b=1
 | [],[]=> .inr (.inl rfl)
 | [],_::_=> .inl rfl
 | _::_,[]=> .inr (.inr rfl)
 | x::a,y::b=>by
  simp only[Cq];split
  .simp
  .split
   .simp
   .exact F3 a b
def LtB(a b:List Int):Prop:=Cq a b = -1
instance (a b:List Int):Decidable (LtB a b):=inferInstanceAs (Decidable (_=_))
theorem HZ{a b:List Int}:Cq a b≥0 ↔ ¬ LtB a b:=by
 unfold LtB;rcases F3 a b with h | h | h <;> rw[h] <;> decide
theorem tC:∀{a b:List Int},B8 a->B8 b->Lib.compareBytes (Lib.bytesOf a) (Lib.bytesOf b)=Cq a b
 | [],[],_,_=>rfl
 | [],_::_,_,_=>rfl
 | _::_,[],_,_=>rfl
 | x::a,y::b,h,k=>by
  have hx:=h x List.mem_cons_self;have hy:=k y List.mem_cons_self;have ih:=tC (h.sub fun _ h=>List.mem_cons_of_mem _ h) (k.sub fun _ h=>List.mem_cons_of_mem _ h)
  have hl:∀{x y:Int},(0<=x/\x<=255)->(0<=y/\y<=255)->(UInt8.ofNat x.toNat < UInt8.ofNat y.toNat ↔ x < y):=fun {x y} hx hy=>by
   rw[UInt8.lt_iff_toNat_lt,UInt8.toNat_ofNat',UInt8.toNat_ofNat',Nat.mod_eq_of_lt (by omega),Nat.mod_eq_of_lt (by omega)];omega
  simp only[Lib.bytesOf,List.map_cons,Lib.compareBytes,Cq,hl hx hy,hl hy hx];rw[show Lib.compareBytes (a.map fun n=>UInt8.ofNat n.toNat) (b.map fun n=>UInt8.ofNat n.toNat)=Cq a b from ih]
theorem BF{P:Program}{w:Wd}{s:Sl}{l:List Int}(h:Rd w.heap s 1 (l.map (Value.int .u8))):(Extern.Bytes.bytesOf s.v).run P w = .ok ⟨(Lib.bytesOf l).toArray⟩ w:=by
 have hl:s.len=l.length:=by have:=h.len;simp at this;exact this.symm
 obtain⟨sa,sl,sc⟩:=s;simp only at hl;subst hl
 cases sa with
 | none=>
  have:l=[]:=by
   rcases Classical.em (l=[]) with h' | h'
   .exact h'
   .obtain⟨_,_,ha,_⟩:=Rd.at_ h (by simpa using h')
    cases ha
  subst this;rfl
 | some a=>
  show Sem.run P (Extern.Bytes.loadBytes a l.length .empty) w=_;rw[Lib.run_loadBytesX w l a .empty fun j x hj=>?_]
  .congr 1;apply ByteArray.ext;show(#[]:Array UInt8)++(Lib.bytesOf l).toArray=(Lib.bytesOf l).toArray;simp
  .have yd:j < l.length:=(List.getElem?_eq_some_iff.1 hj).1;obtain⟨b,o,ha,hc⟩:=Rd.at_ h (by intro e;rw[List.map_eq_nil_iff]at e;subst e;simp at yd);simp only[Option.some.injEq]at ha;subst ha;rw[ay rfl,dC,hc j (by simpa using yd),List.getElem_map];rw[List.getElem?_eq_getElem yd]at hj;rw[Option.some.inj hj]
theorem aP.pre{h:Array Obj}{base:Nat}{e:TypeId}{sz:Nat}{s:Sl}{cs:List Value}{hi:Int}{K:Sl->Prop}(o:aP h base e sz s cs)(h0:0<=hi)(h1:hi<=(s.len:Int))
  (k:∀s',aP h base e sz s' (cs.take (hi.toNat * sz))->s'.au=s.au->s'.len=hi.toNat->s'.cap=s.cap->K s'):Cut s 0 hi (((s.cap:Nat):Int)) sz K:=by
 have jB:=o.rd.cap;have hlen:=o.len;refine Cut.mk (Int.le_refl _) h0 (by omega) (Int.le_refl _) ?_;rcases o.is with⟨rfl,rfl⟩ | ⟨b,rest,ha,hle,rI,hl,hc⟩
 .have:hi=0:=by simp at h1;omega
  subst this;exact k _ (by simpa[gX] using aP.nil h base e sz) (by simp[gX]) rfl rfl
 .have e1:gX s.a s.cap 0 sz=s.a:=by
   unfold gX;split
   .rfl
   .rw[ha];simp[ay]
  have aby:hi.toNat * sz<=s.len * sz:=Nat.mul_le_mul_right _ (by omega);rw[show((s.cap:Nat):Int).toNat=s.cap from rfl,show Int.toNat 0=0 from rfl,e1,show(hi - 0).toNat=hi.toNat by omega,show(((s.cap:Nat):Int) - 0).toNat=s.cap by omega];refine k _ ⟨by rw[List.length_take];simp only;omega,.inr ⟨b,cs.drop (hi.toNat * sz)++rest,ha,hle,?_,?_,by simp only;omega⟩,fun v hv=>o.cells v (List.mem_of_mem_take hv)⟩ rfl rfl rfl
  .rw[<- List.append_assoc,List.take_append_drop];exact rI
  .rw[<- List.append_assoc,List.take_append_drop];exact hl
end Go.V
namespace Go.Proofs.YtefdekemmnnclaaGreat
open Go.V
section
variable {w:Wd}
theorem zN{a b:Sl}{x y:List Int}{K:Int->Pw}(ha:aL w.heap a x)(hb:aL w.heap b y)(hx:B8 x)(hy:B8 y)(k:K (Cq x y) w):cV a b w K:=by
 apply B9;refine⟨Cq x y,w,?_,k⟩;rw[run_callFunc_extern (e:=Extern.BytealgCompare.compare) Tryz.func417 (by kernel_rfl) (by kernel_rfl) (by kernel_rfl) (by kernel_rfl)];change(Sem.run pz (do pure (goInt (Extern.BytealgCompare.cmp (<- Extern.Bytes.bytesOf a.v) (<- Extern.Bytes.bytesOf b.v)))) w).andThen _=_;simp only[Sem.run_bind,BF ha,BF hb,Sem.run_pure,Result.andThen];rw[Lib.cmp_eq,<- tC hx hy];rfl
theorem Pa{n:Int}{K:Sl->Pw}(h0:0<=n)(h1:n<=1099511627776)(k:∀s w',aD w'.heap w.heap.size s []->Ext No w w'->K s w'):fA ⟨none,0,0⟩ n w K:=by
 apply qI;refine⟨fun w'=>w'=w,If.dec (fun h=>by omega) fun _=>rfl,?_⟩;rintro _ w1 rfl;refine Ar.i64 (by simp) (Ar.i64 (by simp;omega) (If.dec (fun h=>?_) (fun h=>k _ _ (aP.nil _ _ _ _) (Ext.refl _ _))));refine Cut.mk (Int.le_refl _) (by simp) (by simp) (by simp) ?_;have e:(n - ((0:Nat) - (0:Nat):Int))=(n.toNat:Int):=by simp;omega
 simp only[gX];show aU pz 25 3 ⟨none,0,0⟩ (.int .i64 (n - ((0:Nat) - (0:Nat):Int))) _ w1;rw[e];refine DZ (k:= .i64) (ie:=Tryz.t5) (z:= .int .u8 0) (by kernel_rfl) (by kernel_rfl) (by kernel_rfl) (by kernel_rfl) (by kernel_rfl) (by kernel_rfl) rfl (by kernel_rfl) (aP.nil _ w1.heap.size 5 1) (Nat.le_refl _) (by simp;omega) fun s' w' o hl x _=>?_
 refine aP.pre o (by simp) (by simp) fun s3 o3 _ _ _=>k _ _ (by show aP _ _ 5 1 s3 [];simpa using o3) (x.mono fun _ _ h=>by cases h)
theorem BG{sl:Sl}{ps:List (Sl×List Int)}{K:Sl->Pw}(hs:Rd w.heap sl 1 (ps.map fun p=>p.1.v))(hp:∀p∈ps,aL w.heap p.1 p.2)(hb:((ps.map Prod.snd).flatten).length<=1099511627776)
  (hn:ps.length<=4294967296) (k:∀s w',aD w'.heap w.heap.size s (ps.map Prod.snd).flatten->Ext No w w'->K s w'):aW sl w K:=by
 apply oO;have hl:sl.len=ps.length:=by have:=hs.len;simp at this;exact this.symm
 have hle:∀j,((ps.take j).map Prod.snd).flatten.length<=1099511627776:=fun j=>by
  refine Nat.le_trans ?_ hb
  have e:(ps.map Prod.snd).flatten=((ps.take j).map Prod.snd).flatten++((ps.drop j).map Prod.snd).flatten:=by
   rw[<- List.flatten_append,<- List.map_append,List.take_append_drop]
  rw[e,List.length_append];omega
 have NV:∀j (h:j < ps.length),((ps.take (j+1)).map Prod.snd).flatten=((ps.take j).map Prod.snd).flatten++ps[j].2:=fun j h=>by
  rw[List.take_add_one,List.getElem?_eq_getElem h];simp only[Option.toList_some,List.map_append,List.map_cons,List.map_nil,List.flatten_append,List.flatten_cons,List.flatten_nil,List.append_nil]
 refine⟨fun m n t w'=>w'=w/\∃j:Nat,t=j/\j<=ps.length/\m=ps.length - j/\n=(((ps.take j).map Prod.snd).flatten.length:Int),⟨ps.length,rfl,0,rfl,by omega,by omega,by simp⟩,?_⟩;rintro _ m0 n t w1 ⟨rfl,j,rfl,hj,hm,rfl⟩;refine If.dec (fun h=>Ix.cell hs (by omega) (by omega) fun bb o v _ hv hc=>?_) (fun h=>?_)
 .have Kk:j < ps.length:=by omega
  rw[Int.toNat_natCast,List.getElem?_map,List.getElem?_eq_getElem Kk]at hv;simp only[Option.map_some,Option.some.injEq]at hv;subst hv;have hlen:=aL.len (hp _ (List.getElem_mem Kk));have h1:=hle (j+1);rw[NV j Kk,List.length_append]at h1;refine⟨_,hc,Ar.i64 (by omega) (If.dec (fun h=>by omega) (fun _=>Ar.i64 (by omega) ⟨ps.length - (j+1),by omega,rfl,j+1,by omega,by omega,rfl,?_⟩))⟩;rw[NV j Kk,List.length_append,hlen];omega
 .refine Pa (by omega) (by have:=hle j;omega) fun s0 w2 o2 x2=>?_
  refine⟨fun m s t w'=>∃j:Nat,t=j/\j<=ps.length/\m=ps.length - j/\aD w'.heap w1.heap.size s ((ps.take j).map Prod.snd).flatten/\Ext No w1 w',⟨ps.length,0,rfl,by omega,by omega,by simpa using o2,x2⟩,?_⟩;rintro _ m1 s1 t1 w3 ⟨i,rfl,hi,S0,o3,x3⟩;refine If.dec (fun h=>Ix.cell (hs.no x3) (by omega) (by omega) fun bb o v _ hv hc=>?_) (fun h=>?_)
  .have iS:i < ps.length:=by omega
   rw[Int.toNat_natCast,List.getElem?_map,List.getElem?_eq_getElem iS]at hv;simp only[Option.map_some,Option.some.injEq]at hv;subst hv;have hr:=hp _ (List.getElem_mem iS);have hlen:=aL.len hr;have h1:=hle (i+1);rw[NV i iS,List.length_append]at h1;have h2:=aD.len o3;refine⟨_,hc,bO o3 (x3.size) (Rd.no hr x3).src (by omega) fun s' w' o' _ x' _=>Ar.i64 (by omega) ⟨ps.length - (i+1),by omega,i+1,by omega,by omega,rfl,?_,x3.trans x' fun q hq hh=>?_⟩⟩
   .rw[<- List.map_append,<- NV i iS]at o';exact o'
   .have:=(o3.lt hh).1;omega
  .have e:i=ps.length:=by omega
   rw[e,List.take_length]at o3;exact k _ _ o3 x3
end
end Go.Proofs.YtefdekemmnnclaaGreat
namespace Go.V
structure Rf where
 p:Int
 c:Int
 g:Int
deriving DecidableEq
def Rf.z:Rf:=⟨0,0,0⟩
def Rf.ok(r:Rf):Prop:=(0<=r.p/\r.p<=4294967295)/\(0<=r.c/\r.c<=18446744073709551615)/\(0<=r.g/\r.g<=65535)
instance (r:Rf):Decidable r.ok:=inferInstanceAs (Decidable (_/\_))
def Rf.cs(r:Rf):List Value:=[.int .u32 r.p,.int .u64 r.c,.int .u16 r.g]
structure eA where
 k:Sl
 v:Sl
 n:Int
 ch:Rf
 cd:Rf
def eA.cs(x:eA):List Value:=[.slice x.k.a x.k.len x.k.cap,.slice x.v.a x.v.len x.v.cap,.int .i64 x.n,.int .u32 x.ch.p,.int .u64 x.ch.c,.int .u16 x.ch.g,.int .u32 x.cd.p,.int .u64 x.cd.c,.int .u16 x.cd.g]
structure lU where
 key:List Int
 val:List Int
 n:Int
 ch:Rf
 cd:Rf
deriving DecidableEq
structure Bf(h:Array Obj)(x:eA)(e:lU):Prop where
 k:Rd h x.k 1 (e.key.map (Value.int .u8))
 v:Rd h x.v 1 (e.val.map (Value.int .u8))
 n:x.n=e.n
 ch:x.ch=e.ch
 cd:x.cd=e.cd
 k8:B8 e.key
 v8:B8 e.val
 n64:-9223372036854775808<=e.n/\e.n<=9223372036854775807
 cho:e.ch.ok
 cdo:e.cd.ok
theorem Bf.no{w w':Wd}{x:eA}{e:lU}(r:Bf w.heap x e)(h:Ext No w w'):Bf w'.heap x e:=⟨r.k.no h,r.v.no h,r.n,r.ch,r.cd,r.k8,r.v8,r.n64,r.cho,r.cdo⟩
abbrev Eo(p:eA×lU):List Value:=p.1.cs
theorem vA(L:List (eA×lU)):∀p∈L,(Eo p).length=9:=fun _ _=>rfl
structure Pb(h:Array Obj)(s:Sl)(L:List (eA×lU)):Prop where
 rd:Rd h s 9 (L.flatMap Eo)
 NW:∀p∈L,Bf h p.1 p.2
theorem Pb.no{w w':Wd}{s:Sl}{L:List (eA×lU)}(r:Pb w.heap s L)(h:Ext No w w'):Pb w'.heap s L:=⟨r.rd.no h,fun p hp=>(r.NW p hp).no h⟩
theorem Pb.len{h:Array Obj}{s:Sl}{L:List (eA×lU)}(r:Pb h s L):s.len=L.length:=by
 have:=r.rd.len;rw[cC (vA L)]at this;omega
theorem blt{h:Array Obj}{b:Nat}{o:Obj}(e:h[b]? = some o):b < h.size:=by
 rcases Nat.lt_or_ge b h.size with k | k
 .exact k
 .rw[Array.getElem?_eq_none k]at e;cases e
theorem aj{w w':Wd}{b:Nat}{o:Obj}(h:w.heap[b]? = some o)(x:Ext No w w'):w'.heap[b]? = some o:=by
 rw[x.au b (blt h) (fun h=>h)];exact h
section
variable {w:Wd}
theorem RR{s:Sl}{L:List (eA×lU)}{t:Int}{K:Sl->Sl->Int->Int->Int->Int->Int->Int->Int->Prop}(r:Rd w.heap s 9 (L.flatMap Eo))(h0:0<=t)(h1:t < (s.len:Int))
  (k:∀(hi:t.toNat < L.length),K L[t.toNat].1.k L[t.toNat].1.v L[t.toNat].1.n L[t.toNat].1.ch.p L[t.toNat].1.ch.c L[t.toNat].1.ch.g L[t.toNat].1.cd.p L[t.toNat].1.cd.c L[t.toNat].1.cd.g) :
  Ix s.a s.len t 9 fun a=>∃c:Sl,Cell w a (.slice c.a c.len c.cap)/\∃EJ:Sl,Cell w (a.add 1) (.slice EJ.a EJ.len EJ.cap)/\∃P1:Int,Cell w (a.add 2) (.int .i64 P1)/\∃My:Int,Cell w (a.add 3) (.int .u32 My)/\
   ∃Mz:Int,Cell w (a.add 4) (.int .u64 Mz)/\∃MA:Int,Cell w (a.add 5) (.int .u16 MA)/\∃P3:Int,Cell w (a.add 6) (.int .u32 P3)/\∃P4:Int,Cell w (a.add 7) (.int .u64 P4)/\∃P5:Int,Cell w (a.add 8) (.int .u16 P5)/\K c EJ P1 My Mz MA P3 P4 P5:=
 Ix.elem r (vA L) (by decide) h0 h1 fun b o hi _ hc=>
  ⟨_,hc 0 _ rfl,_,hc 1 _ rfl,_,hc 2 _ rfl,_,hc 3 _ rfl,_,hc 4 _ rfl,_,hc 5 _ rfl,_,hc 6 _ rfl,_,hc 7 _ rfl,_,hc 8 _ rfl,k hi⟩
theorem vi{b:Nat}{x:eA}{T:TypeId}{K:Sl->Sl->Int->Int->Int->Int->Int->Int->Int->Prop}(hb:w.heap[b]? = some (.cells x.cs.toArray T (0,0)))(k:K x.k x.v x.n x.ch.p x.ch.c x.ch.g x.cd.p x.cd.c x.cd.g) :
  ∃c:Sl,Cell w (Addr.mk b 0 none) (.slice c.a c.len c.cap)/\∃EJ:Sl,Cell w ((Addr.mk b 0 none).add 1) (.slice EJ.a EJ.len EJ.cap)/\∃P1:Int,Cell w ((Addr.mk b 0 none).add 2) (.int .i64 P1)/\∃My:Int,Cell w ((Addr.mk b 0 none).add 3) (.int .u32 My)/\
   ∃Mz:Int,Cell w ((Addr.mk b 0 none).add 4) (.int .u64 Mz)/\∃MA:Int,Cell w ((Addr.mk b 0 none).add 5) (.int .u16 MA)/\∃P3:Int,Cell w ((Addr.mk b 0 none).add 6) (.int .u32 P3)/\∃P4:Int,Cell w ((Addr.mk b 0 none).add 7) (.int .u64 P4)/\∃P5:Int,Cell w ((Addr.mk b 0 none).add 8) (.int .u16 P5)/\K c EJ P1 My Mz MA P3 P4 P5:=
 ⟨_,Cell.ah hb rfl,_,Cell.ah hb rfl,_,Cell.ah hb rfl,_,Cell.ah hb rfl,_,Cell.ah hb rfl,_,Cell.ah hb rfl,_,Cell.ah hb rfl,_,Cell.ah hb rfl,_,Cell.ah hb rfl,k⟩
theorem CL{zs vs:List Value}{T:TypeId}{K:Nat->Pw}{n:Nat}(hl:vs.length=n)(hz:zs.length=n)(hv:∀v∈vs,cn v=true)
  (k:∀b w',w'.heap[b]? = some (.cells vs.toArray T (0,0))->b=w.heap.size->w'.heap.size=w.heap.size+1->Ext No w w'->K b w'):an w (.cells zs.toArray T) fun b w1=>List.length (α:=Value) vs=n/\cr w1 (Addr.mk b 0 none) vs fun w2=>K b w2:=by
 intro b w1 hn;refine⟨hl,zs.toArray,T,(0,0),hn.get,rfl,by simp[hl,hz],.inr (.inr (Nat.le_refl _)),hv,fun w2 hw=>?_⟩;have e:setL zs 0 vs=vs:=nN _ _ (by omega);have hw':nI w1 b (.cells vs.toArray T (0,0)) w2:=by rw[<- e];exact hw
 refine k b w2 (hw'.get hn.get) hn.at_ (by rw[hw'.size,hn.size]) (hn.ext.trans hw'.ext fun q hq h=>?_);have:=hn.at_;rw[h]at hq;omega
theorem F4(a b:Rf):((a.p == b.p) && ((a.c == b.c) && ((a.g == b.g) && true)))=decide (a=b):=by
 obtain⟨a1,a2,a3⟩:=a;obtain⟨b1,b2,b3⟩:=b;rw[Bool.eq_iff_iff];simp
end
def oB(kind lev:Int):Prop:=kind=1/\lev=0∨kind=2/\1<=lev/\lev<=30
instance (a b:Int):Decidable (oB a b):=inferInstanceAs (Decidable (_∨_))
def Cr(kind i len:Int):Prop:=if kind=2/\i=0 then len=0 else 1<=len/\len<=32
instance (a b c:Int):Decidable (Cr a b c):=inferInstanceAs (Decidable (ite _ _ _))
def Cs(kind i:Int)(e:lU):Prop:=Cr kind i e.key.length/\(if kind=2 then e.cd ≠ .z/\e.ch = .z/\e.val.length=0/\e.n=0 else e.cd = .z/\(if e.n=0 then e.ch = .z/\e.val.length<=64 else e.n > 64/\e.n<=1024/\e.ch ≠ .z/\e.val.length=0))
instance (a b:Int) (e:lU):Decidable (Cs a b e):=inferInstanceAs (Decidable (_/\_))
structure qh(kind lev:Int)(l:List lU):Prop where
 shape:oB kind lev
 some:kind=2->l≠[]
 NW:∀i (h:i < l.length),Cs kind i l[i]
 ord:∀i (h:i+1 < l.length),LtB l[i].key l[i+1].key
def refB(r:Rf):List Int:=be 4 r.p++be 8 r.c++be 2 r.g
def wrE(kind:Int)(e:lU):List Int:=(e.key.length % 256:Int)::e.key++(if kind=2 then refB e.cd else if e.n > 0 then[1,e.n / 256 % 256,e.n % 256]++refB e.ch else[0,(e.val.length % 256:Int)]++e.val)
def wr(kind lev:Int)(l:List lU):List Int:=[kind,lev,(l.length % 256:Int)]++l.flatMap (wrE kind)
theorem kh(r:Rf):(refB r).length=14:=by simp[refB,aI]
end Go.V
namespace Go.Proofs.YtefdekemmnnclaaGreat
open Go.V
section
variable {w:Wd}
theorem Ep{kind lev:Int}{K:Bool->Pw}(k:K (decide (oB kind lev)) w):nc kind lev w K:=by
 apply GO;have yes:oB kind lev->K true w:=fun h=>by rw[decide_eq_true h]at k;exact k
 have no:¬ oB kind lev->K false w:=fun h=>by rw[decide_eq_false h]at k;exact k
 have two:kind=2->1<=lev->K (decide (lev<=30)) w:=fun a b=>by
  have:decide (lev<=30)=decide (oB kind lev):=by rw[decide_eq_decide];unfold oB;omega
  rw[this];exact k
 refine If.beq (fun h=>If.beq (fun h'=>yes (.inl ⟨h,h'⟩)) (fun h'=>If.beq (fun h2=>by omega) fun h2=>no (by unfold oB;omega))) (fun h=>If.beq (fun h2=>If.dec (fun h3=>two h2 h3) fun h3=>no (by unfold oB;omega)) fun h2=>no (by unfold oB;omega))
theorem Kq{kind i n:Int}{K:Bool->Pw}(k:K (decide (Cr kind i n)) w):su kind i n w K:=by
 apply LN;refine⟨fun w'=>w'=w/\¬ (kind=2/\i=0),If.beq (fun h=>If.beq (fun h'=>?_) fun h'=>⟨rfl,by omega⟩) (fun h=>⟨rfl,by omega⟩),?_⟩
 .have:(n == 0)=decide (Cr kind i n):=by rw[Bool.eq_iff_iff,decide_eq_true_iff,beq_iff_eq];unfold Cr;rw[if_pos ⟨h,h'⟩]
  rw[this];exact k
 .rintro _ w1 ⟨rfl,hn⟩;refine If.dec (fun h=>?_) (fun h=>?_)
  .have:decide (n<=32)=decide (Cr kind i n):=by rw[decide_eq_decide];unfold Cr;rw[if_neg hn];omega
   rw[this];exact k
  .have:decide (Cr kind i n)=false:=decide_eq_false (by unfold Cr;rw[if_neg hn];omega);rw[this]at k;exact k
theorem MN{kind i:Int}{x:eA}{e:lU}{K:Bool->Pw}(r:Bf w.heap x e)(k:∀w',Ext No w w'->K (decide (Cs kind i e)) w'):sD kind i x.k x.v x.n x.ch.p x.ch.c x.ch.g x.cd.p x.cd.c x.cd.g w K:=by
 apply Ha;refine an.mk fun b w1 h1=>CL rfl rfl (by decide) fun b1 w3 EI _ _ x3=>?_
 have hb:w3.heap[b]? = some (.cells x.cs.toArray 347 (0,0)):=aj h1.get x3;have hz:w3.heap[b1]? = some (.cells Rf.z.cs.toArray 29 (0,0)):=EI;have xx:Ext No w w3:=h1.ext.no x3;have k:=k w3 xx;have zm:=aL.len r.k;have Z1:=aL.len r.v;have no:¬ Cs kind i e->K false w3:=fun h=>by rw[decide_eq_false h]at k;exact k
 refine⟨_,Cell.ah hb rfl,Kq (If.not (If.dec (fun hk=>?_) fun hk=>no fun h=>hk (by rw[zm];exact h.1)))⟩;rw[zm]at hk;refine If.beq (fun h2=>?_) (fun h2=>?_)
 .refine⟨_,Cell.ah hb rfl,_,Cell.ah hb rfl,_,Cell.ah hb rfl,_,Cell.ah hz rfl,_,Cell.ah hz rfl,_,Cell.ah hz rfl,?_⟩;dsimp only;rw[F4 x.cd .z,r.cd];refine If.not (If.dec (fun h=>no fun h'=>?_) fun h=>?_)
  .have:=h'.2;rw[if_pos h2]at this;exact this.1 h
  refine⟨_,Cell.ah hb rfl,_,Cell.ah hb rfl,_,Cell.ah hb rfl,_,Cell.ah hz rfl,_,Cell.ah hz rfl,_,Cell.ah hz rfl,?_⟩;dsimp only;rw[F4 x.ch .z,r.ch];refine If.dec (fun h'=>?_) fun h'=>no fun RT=>?_
  .refine⟨_,Cell.ah hb rfl,If.beq (fun h3=>⟨_,Cell.ah hb rfl,?_⟩) fun h3=>no fun RT=>?_⟩
   .have:(x.n == 0)=decide (Cs kind i e):=by
     rw[Bool.eq_iff_iff,decide_eq_true_iff,beq_iff_eq];unfold Cs;rw[if_pos h2,r.n];exact⟨fun h4=>⟨hk,h,h',by omega,h4⟩,fun h4=>h4.2.2.2.2⟩
    rw[this];exact k
   .have:=RT.2;rw[if_pos h2]at this;omega
  .have:=RT.2;rw[if_pos h2]at this;exact h' this.2.1
 .refine⟨_,Cell.ah hb rfl,_,Cell.ah hb rfl,_,Cell.ah hb rfl,_,Cell.ah hz rfl,_,Cell.ah hz rfl,_,Cell.ah hz rfl,?_⟩;dsimp only;rw[F4 x.cd .z,r.cd];refine If.not (If.dec (fun h=>?_) fun h=>no fun h'=>?_)
  rotate_left
  .have:=h'.2;rw[if_neg h2]at this;exact h this.1
  refine⟨_,Cell.ah hb rfl,?_⟩;rw[r.n];refine If.beq (fun h3=>?_) fun h3=>?_
  .refine⟨_,Cell.ah hb rfl,_,Cell.ah hb rfl,_,Cell.ah hb rfl,_,Cell.ah hz rfl,_,Cell.ah hz rfl,_,Cell.ah hz rfl,?_⟩;dsimp only;rw[F4 x.ch .z,r.ch];refine If.dec (fun h'=>⟨_,Cell.ah hb rfl,?_⟩) fun h'=>no fun RT=>?_
   .have:decide ((x.v.len:Int)<=64)=decide (Cs kind i e):=by
     rw[decide_eq_decide];unfold Cs;rw[if_neg h2,if_pos h3,Z1];exact⟨fun h4=>⟨hk,h,h',by omega⟩,fun h4=>by have:=h4.2.2.2;omega⟩
    rw[this];exact k
   .have:=RT.2;rw[if_neg h2,if_pos h3]at this;exact h' this.2.1
  .refine⟨_,Cell.ah hb rfl,?_⟩;rw[r.n];refine If.dec (fun h4=>⟨_,Cell.ah hb rfl,?_⟩) fun h4=>no fun RT=>?_
   rotate_left
   .have:=RT.2;rw[if_neg h2,if_neg h3]at this;exact h4 this.2.1
   rw[r.n];refine If.dec (fun h5=>?_) fun h5=>no fun RT=>?_
   rotate_left
   .have:=RT.2;rw[if_neg h2,if_neg h3]at this;exact h5 this.2.2.1
   refine⟨_,Cell.ah hb rfl,_,Cell.ah hb rfl,_,Cell.ah hb rfl,_,Cell.ah hz rfl,_,Cell.ah hz rfl,_,Cell.ah hz rfl,?_⟩;dsimp only;rw[F4 x.ch .z,r.ch];refine If.not (If.dec (fun h'=>no fun RT=>?_) fun h'=>⟨_,Cell.ah hb rfl,?_⟩)
   .have:=RT.2;rw[if_neg h2,if_neg h3]at this;exact this.2.2.2.1 h'
   .have:((x.v.len:Int) == 0)=decide (Cs kind i e):=by
     rw[Bool.eq_iff_iff,decide_eq_true_iff,beq_iff_eq];unfold Cs;rw[if_neg h2,if_neg h3,Z1];exact⟨fun h6=>⟨hk,h,h4,h5,h',by omega⟩,fun h6=>by have:=h6.2.2.2.2.2;omega⟩
    rw[this];exact k
end
section
variable {w:Wd}
theorem Er{s:Sl}{L:List (eA×lU)}{t:Int}{K:Nat->Pw}(r:Rd w.heap s 9 (L.flatMap Eo))(h0:0<=t)(h1:t < (s.len:Int))
  (k:∀b w' (hi:t.toNat < L.length),w'.heap[b]? = some (.cells L[t.toNat].1.cs.toArray 347 (0,0))->b=w.heap.size->w'.heap.size=w.heap.size+1->Ext No w w'->K b w') :
  Ix s.a s.len t 9 fun a=>∃c:Sl,Cell w a (.slice c.a c.len c.cap)/\∃EJ:Sl,Cell w (a.add 1) (.slice EJ.a EJ.len EJ.cap)/\∃P1:Int,Cell w (a.add 2) (.int .i64 P1)/\∃My:Int,Cell w (a.add 3) (.int .u32 My)/\
   ∃Mz:Int,Cell w (a.add 4) (.int .u64 Mz)/\∃MA:Int,Cell w (a.add 5) (.int .u16 MA)/\∃P3:Int,Cell w (a.add 6) (.int .u32 P3)/\∃P4:Int,Cell w (a.add 7) (.int .u64 P4)/\∃P5:Int,Cell w (a.add 8) (.int .u16 P5)/\
   an w (.cells [.slice none 0 0,.slice none 0 0,.int .i64 0,.int .u32 0,.int .u64 0,.int .u16 0,.int .u32 0,.int .u64 0,.int .u16 0].toArray 347) fun b_1 w5=>
   List.length (α:=Value) [.slice c.a c.len c.cap,.slice EJ.a EJ.len EJ.cap,.int .i64 P1,.int .u32 My,.int .u64 Mz,.int .u16 MA,.int .u32 P3,.int .u64 P4,.int .u16 P5]=9/\
   cr w5 (Addr.mk b_1 0 none) [.slice c.a c.len c.cap,.slice EJ.a EJ.len EJ.cap,.int .i64 P1,.int .u32 My,.int .u64 Mz,.int .u16 MA,.int .u32 P3,.int .u64 P4,.int .u16 P5] fun w6=>K b_1 w6:=
 RR r h0 h1 fun hi=>CL rfl rfl (by intro v hv;simp only[List.mem_cons,List.not_mem_nil,or_false]at hv;rcases hv with h | h | h | h | h | h | h | h | h <;> subst h <;> rfl) fun b w' hb e z x=>k b w' hi hb e z x
theorem _root_.Go.V.Pb.get{h:Array Obj}{s:Sl}{L:List (eA×lU)}(r:Pb h s L){i:Nat}(hi:i < L.length):Bf h L[i].1 L[i].2:=r.NW _ (List.getElem_mem hi)
abbrev ki(L:List (eA×lU)):List lU:=L.map Prod.snd
theorem Kr{kind lev:Int}{s:Sl}{L:List (eA×lU)}{K:Int->Pw}(r:Pb w.heap s L)(hs:L.length<=4294967296)
  (k0:∀w',qh kind lev (ki L)->Ext No w w'->K 0 w') (k1:∀c w',¬ qh kind lev (ki L)->c≠0->Ext No w w'->K c w'):sB kind lev s w K:=by
 apply Hb;refine an.mk fun b w1 h1=>?_
 have hb:=h1.get;have hl:=r.len;refine⟨fun w'=>w'=w1/\oB kind lev/\(kind=2->L≠[]),?_,?_⟩
 .refine⟨_,Cell.ah hb rfl,_,Cell.ah hb rfl,Ep (If.not (If.dec (fun VK=>?_) fun VK=>k1 2 _ (fun h=>VK h.shape) (by decide) h1.ext))⟩;refine⟨_,Cell.ah hb rfl,If.beq (fun h2=>⟨_,Cell.ah hb rfl,If.beq (fun h3=>?_) fun h3=>⟨rfl,VK,fun _ h=>?_⟩⟩) fun h2=>⟨rfl,VK,fun h=>(h2 h).elim⟩⟩
  .refine k1 2 _ (fun h=>h.some h2 ?_) (by decide) h1.ext;rw[List.map_eq_nil_iff];exact List.eq_nil_of_length_eq_zero (by omega)
  .rw[h]at hl;simp at hl;omega
 rintro _ w3 ⟨rfl,VK,hso⟩;refine⟨_,Cell.ah hb rfl,fun m t w'=>∃i:Nat,t=i/\i<=L.length/\m=L.length - i/\Ext No w3 w'/\(∀j (h:j < i) (h':j < L.length),Cs kind j L[j].2)/\(∀j (h:j+1 < i) (h':j+1 < L.length),LtB L[j].2.key L[j+1].2.key),⟨L.length,0,rfl,by omega,by omega,Ext.refl _ _,fun j h=>by omega,fun j h=>by omega⟩,?_⟩;rintro _ m0 t w4 ⟨i,rfl,hi,hm,x4,he,ho⟩;have Bz:Ext No w w4:=h1.ext.no x4;refine If.dec (fun h=>?_) (fun h=>?_)
 .refine Er (r.rd.no Bz) (by omega) h fun b1 w6 iS EI eb1 _ x6=>?_
  simp only[Int.toNat_natCast]at iS EI;have wk:=Bz.no x6;have e6:=(r.no wk).get iS;have J7:=aj hb (x4.no x6);refine⟨_,Cell.ah J7 rfl,vi EI (MN e6 fun w7 x7=>If.not (If.dec (fun hp=>?_) fun hp=>k1 2 _ (fun h=>hp ?_) (by decide) (wk.no x7)))⟩
  rotate_left
  .have:=h.NW i (by simpa using iS);simpa using this
  have hb7:=aj J7 x7;have Rh:=aj EI x7;have HM:=wk.no x7;refine⟨Ext No w7,(Ext.refl _ _).drew,If.dec (fun h0=>?_) fun h0=>?_⟩
  .refine⟨_,af.cell (Cell.ah hb7 rfl),Ar.i64 (by omega) (Ix.elem (r.rd.no HM) (vA L) (by decide) (by omega) (by omega) fun b2 o2 Hv _ hc=>⟨_,af.cell (hc 0 _ rfl),_,af.cell (Cell.ah Rh rfl),?_⟩)⟩;have e2:((i:Int) - 1).toNat=i - 1:=by omega
   simp only[e2]at Hv ⊢;have r7:=r.no HM.drew;have ea:=r7.get Hv;have eb:=r7.get iS;refine zN ea.k eb.k ea.k8 eb.k8 ⟨(Ext.refl _ _).drew,If.dec (fun hc=>k1 120 _ (fun hr=>?_) (by decide) HM.drew) fun hc=>Ar.i64 (by omega) ⟨L.length - (i+1),by omega,i+1,by omega,by omega,rfl,(x4.no (x6.no x7)).drew,fun j h h'=>?_,fun j h h'=>?_⟩⟩
   .have:=hr.ord (i - 1) (by simp;omega);simp only[List.getElem_map,show i - 1+1=i by omega]at this;exact HZ.1 hc this
   .rcases Nat.lt_or_ge j i with h3 | h3
    .exact he j h3 h'
    .have:j=i:=by omega
     subst this;exact hp
   .rcases Nat.lt_or_ge (j+1) i with h3 | h3
    .exact ho j h3 h'
    .have:j=i - 1:=by omega
     subst this;simp only[show i - 1+1=i by omega];exact Classical.not_not.1 fun hh=>hc (HZ.2 hh)
  .refine Ar.i64 (by omega) ⟨L.length - (i+1),by omega,i+1,by omega,by omega,rfl,(x4.no (x6.no x7)).drew,fun j h h'=>?_,fun j h h'=>by omega⟩;have:j=i:=by omega
   subst this;exact hp
 .refine k0 _ ⟨VK,fun h=>by rw[ne_eq,List.map_eq_nil_iff];exact hso h,fun j hj=>?_,fun j hj=>?_⟩ Bz
  .simp only[List.length_map,List.getElem_map]at hj ⊢;exact he j (by omega) hj
  .simp only[List.length_map,List.getElem_map]at hj ⊢;exact ho j (by omega) hj
theorem aD.new{n:Nat}{b:Nat}{w':Wd}{l:List Int}(h:Bk w (.cells (l.map (Value.int .u8)).toArray 5) b w')(hn:l.length=n):aD w'.heap w.heap.size ⟨some ⟨b,0,none⟩,n,n⟩ l:=
 aP.new h (by simp[hn]) cZ
theorem zO{r:Rf}{K:Sl->Pw}(ok:r.ok)(k:∀s w',aD w'.heap w.heap.size s (refB r)->Ext No w w'->K s w'):sE r.p r.c r.g w K:=by
 apply L1;obtain⟨h1,h2,h3⟩:=ok;refine an.mk fun b w1 n1=>?_
 have hb:=n1.get;refine⟨_,Cell.ah hb rfl,Ar.u64 (by omega) (iK h1.1 (by decide) (by decide) (by show r.p < 256 ^ 4;omega) fun s1 w2 o2 x2=>?_)⟩;refine⟨_,Cell.ah (aj hb x2) rfl,iK h2.1 (by decide) (by decide) (by show r.c < 256 ^ 8;omega) fun s2 w3 o3 x3=>?_⟩;refine⟨_,Cell.ah (aj hb (x2.no x3)) rfl,Ar.u64 (by omega) (iK h3.1 (by decide) (by decide) (by show r.g < 256 ^ 2;omega) fun s3 w4 o4 x4=>an.mk fun b5 w5 n5=>?_)⟩;have r5:Rd w5.heap ⟨some ⟨b5,0,none⟩,3,3⟩ 1 ([(s1,be 4 r.p),(s2,be 8 r.c),(s3,be 2 r.g)].map fun p=>p.1.v):=(aP.new (n:=3) (sz:=1) n5 rfl (by intro v hv;simp only[List.mem_cons,List.not_mem_nil,or_false]at hv;rcases hv with h | h | h <;> subst h <;> rfl)).rd;refine BG r5 (fun p hp=>?_) (by simp[aI]) (by simp) fun s w' o x=>k s w' ?_ ?_
 .simp only[List.mem_cons,List.not_mem_nil,or_false]at hp;rcases hp with h | h | h <;> subst h
  .exact o2.rd.no ((x3.no x4).no n5.ext)
  .exact o3.rd.no (x4.no n5.ext)
  .exact o4.rd.no n5.ext
 .have e:refB r=([(s1,be 4 r.p),(s2,be 8 r.c),(s3,be 2 r.g)].map Prod.snd).flatten:=by simp[refB]
  rw[e];exact aP.mono o ((n1.ext.no x2).no (x3.no (x4.no n5.ext))).size
 .exact((n1.ext.no x2).no (x3.no (x4.no n5.ext))).no x
theorem aw{S:Nat->Prop}{w':Wd}{b:Nat}{o:Obj}(h:w.heap[b]? = some o)(x:Ext S w w')(hb:¬ S b):w'.heap[b]? = some o:=by
 rw[x.au b (blt h) hb];exact h
theorem Ks{w0:Wd}{Q:Nat->Prop}{s s':Sl}{base:Nat}{l m:List Int}{K:Sl->Pw}(xq:Ext Q w0 w)(hq:∀i,s.au=some i->Q i)(hq2:∀i,w0.heap.size<=i->Q i)(o:aD w.heap base s l)(hb:base<=w.heap.size)(r:aL w.heap s' m)(hn:l.length+m.length<=1099511627776)
  (k:∀t w',aD w'.heap base t (l++m)->(∀i,t.au=some i->Q i)->Ext Q w0 w'->K t w'):aU pz 25 25 s (.slice s'.a s'.len s'.cap) K w:=
 bO o hb r.src (by have:=aD.len o;have:=aL.len r;omega) fun t w' o' _ x z_=>k t w' (by show aP _ _ 5 1 t _;rw[List.map_append];exact o') (fun i hi=>by
  rcases z_ with h | ⟨b,h,hle⟩
  .exact hq i (h ▸ hi)
  .rw[hi]at h;cases h;exact hq2 i (Nat.le_trans xq.size hle)) (xq.trans x fun i _ h=>hq i h)
theorem Yq(kind:Int){e:lU}(h1:e.key.length<=1048576)(h2:e.val.length<=1048576):(wrE kind e).length<=4194304:=by
 unfold wrE;simp only[List.length_append,List.length_cons];split
 .rw[kh];omega
 .split
  .simp[kh];omega
  .simp;omega
def RU(L:List (eA×lU)):Prop:=L.length<=65536/\∀p∈L,p.2.key.length<=1048576/\p.2.val.length<=1048576
theorem MO{kind:Int}{L:List (eA×lU)}(h:RU L):∀i,(((ki L).take i).flatMap (wrE kind)).length<=L.length * 4194304:=fun i=>by
 have h2:∀(l:List lU),(∀e∈l,e.key.length<=1048576/\e.val.length<=1048576)->(l.flatMap (wrE kind)).length<=l.length * 4194304:=by
  intro l hl
  induction l with
  | nil=>simp
  | cons e l ih=>
   have:=Yq kind (hl e List.mem_cons_self).1 (hl e List.mem_cons_self).2;have:=ih fun e he=>hl e (List.mem_cons_of_mem _ he)
   simp only[List.flatMap_cons,List.length_append,List.length_cons];omega
 refine Nat.le_trans (h2 _ fun e he=>?_) (Nat.mul_le_mul_right _ (by simp only[List.length_take,List.length_map];omega));obtain⟨p,hp,rfl⟩:=List.mem_map.1 (List.mem_of_mem_take he);exact h.2 p hp
set_option maxHeartbeats 400000 in
theorem MQ{kind lev:Int}{s:Sl}{L:List (eA×lU)}{K:Sl->Pw}(r:Pb w.heap s L)(hs:RU L)
  (k:∀t w',aD w'.heap w.heap.size t (wr kind lev (ki L))->Ext No w w'->K t w'):sC kind lev s w K:=by
 apply Hc;have hl:=r.len;have ZV:=hs.1;refine an.mk fun b w1 h1=>?_
 have hb:=h1.get;refine⟨_,Cell.ah hb rfl,_,Cell.ah hb rfl,_,Cell.ah hb rfl,Ar.KS (an.mk fun b1 w2 h2=>⟨_,Cell.ah (aj hb h2.ext) rfl,?_⟩)⟩
 have o2:aD w2.heap w1.heap.size ⟨some ⟨b1,0,none⟩,3,3⟩ ([kind,lev,(L.length % 256:Int)]):=by
  have:=aD.new (n:=3) (l:=[kind,lev,((s.len:Int) % 256)]) h2 rfl;rw[hl]at this;exact this
 have hf:∀i (h:i < L.length),((ki L).take (i+1)).flatMap (wrE kind)=((ki L).take i).flatMap (wrE kind)++wrE kind L[i].2:=fun i h=>by
  rw[List.take_add_one,List.getElem?_eq_getElem (by simpa using h)];simp
 refine⟨fun m t i w'=>∃j:Nat,i=j/\j<=L.length/\m=L.length - j/\Ext No w w'/\w'.heap[b]? = some (.cells [.int .u8 kind,.int .u8 lev,.slice s.a s.len s.cap].toArray 338 (0,0))/\aD w'.heap w1.heap.size t ([kind,lev,(L.length % 256:Int)]++((ki L).take j).flatMap (wrE kind)),⟨L.length,0,rfl,by omega,by omega,h1.ext.no h2.ext,aj hb h2.ext,by simpa using o2⟩,?_⟩;rintro _ m0 t i w3 ⟨j,rfl,hj,hm,x3,tq,o3⟩;refine If.dec (fun h=>?_) (fun h=>?_)
 .refine Er (r.rd.no x3) (by omega) h fun b4 w5 iS S8 eb4 z5 x5=>?_
  simp only[Int.toNat_natCast]at iS S8;have nC:=x3.no x5;have e5:=(r.no nC).get iS;have Ui:=hs.2 _ (List.getElem_mem iS)
  have hlen:([kind,lev,(L.length % 256:Int)]++((ki L).take j).flatMap (wrE kind)).length<=274877906950:=by
   have:=MO (kind:=kind) hs j;simp only[List.length_append,List.length_cons,List.length_nil];omega
  have z1:=h1.size;have hx3:=x3.size;have afu:w1.heap.size<=w3.heap.size:=by have:=blt tq;have:=h1.at_;omega
  generalize hl0:([kind,lev,(L.length % 256:Int)]++((ki L).take j).flatMap (wrE kind))=l0 at *
  let Q:Nat->Prop:=fun i=>w1.heap.size<=i/\i≠b4
  have nb:¬ Q b:=fun h=>by have:=h1.at_;have:=h.1;omega
  have NU:¬ Q b4:=fun h=>h.2 rfl
  have Z2:∀i,w5.heap.size<=i->Q i:=fun i hi=>⟨by omega,by omega⟩
  have qQ:∀{w':Wd},Ext Q w5 w'->Ext No w w':=fun x=>nC.trans x fun i hi h=>by have:=h.1;omega
  have hq3:∀i,t.au=some i->Q i:=fun i hi=>by have:=o3.lt hi;exact⟨this.1,by omega⟩
  have Q4:=aj tq x5;have o5:aD w5.heap w1.heap.size t l0:=o3.no x5
  have fin:∀{t':Sl}{w':Wd}{l:List Int},Ext Q w5 w'->aD w'.heap w1.heap.size t' (l0++l)->l=wrE kind L[j].2->∃m1,m1 < m0/\∃j':Nat,((j:Int)+1)=j'/\j'<=L.length/\m1=L.length - j'/\Ext No w w'/\w'.heap[b]? = some (.cells [.int .u8 kind,.int .u8 lev,.slice s.a s.len s.cap].toArray 338 (0,0))/\aD w'.heap w1.heap.size t' ([kind,lev,(L.length % 256:Int)]++((ki L).take j').flatMap (wrE kind)):=fun {t' w' l} x o e=>
   ⟨L.length - (j+1),by omega,j+1,by omega,by omega,rfl,qQ x,aw Q4 x nb,by rw[hf j iS,<- List.append_assoc,hl0,<- e];exact o⟩
  have zm:=aL.len e5.k;have Z1:=aL.len e5.v;refine⟨Ext Q w5,(Ext.refl _ _).drew,_,af.bq (Cell.ah S8 rfl) NU,Ar.KS ⟨_,af.bq (Cell.ah S8 rfl) NU,an.mk fun b6 w6 n6=>?_⟩⟩;have x6:Ext Q w5 w6:=((Ext.refl _ _).drew).no n6.ext;refine⟨x6,Ks (s':=⟨some ⟨b6,0,none⟩,1,1⟩) (l:=l0) x6 hq3 Z2 (o5.no ((Ext.refl No w5).drew.no n6.ext)) (by have:=x6.size;omega) (aD.new (n:=1) (l:=[((L[j].1.k.len:Int) % 256)]) n6 rfl).rd (by simp;omega) fun s7 w7 o7 q7 x7=>⟨x7,?_⟩⟩
  refine Ks x7 q7 Z2 o7 (by have:=x7.size;omega) ((r.no (qQ x7)).get iS).k (by simp;omega) fun s8 w8 o8 q8 x8=>⟨x8,_,Cell.ah (aw Q4 x8 nb) rfl,?_⟩
  have e8:=(r.no (qQ x8)).get iS;have Rt:=aw S8 x8 NU;have z8:=x8.size;refine If.beq (fun h2=>?_) (fun h2=>?_)
  .refine⟨_,Cell.ah Rt rfl,_,Cell.ah Rt rfl,_,Cell.ah Rt rfl,?_⟩;rw[e8.cd];refine zO e8.cdo fun s9 w9 o9 x9=>Ks (x8.no x9) q8 Z2 (o8.no x9) (by have:=x9.size;omega) o9.rd (by simp[kh];omega) fun XW gG D9 q10 fo=>Ar.i64 (by omega) (fin fo (by simpa only[List.append_assoc] using D9) ?_)
   unfold wrE;rw[if_pos h2,zm];simp
  .refine⟨_,Cell.ah Rt rfl,?_⟩;rw[e8.n];refine If.dec (fun h3=>?_) (fun h3=>?_)
   .refine⟨_,Cell.ah Rt rfl,by decide,Nm.as (e':=L[j].2.n / 256) (by rw[show min (Int.toNat 8) (IntKind.bits .i64)=8 from rfl,Int.fdiv_eq_ediv_of_nonneg _ (by decide),e8.n];rfl) (Ar.KS ⟨_,Cell.ah Rt rfl,Ar.KS (an.mk fun b9 w9 n9=>?_)⟩)⟩;refine Ks (s':=⟨some ⟨b9,0,none⟩,3,3⟩) (x8.no n9.ext) q8 Z2 (o8.no n9.ext) (by have:=n9.ext.size;omega) (aD.new (n:=3) (l:=[1,L[j].2.n / 256 % 256,L[j].1.n % 256]) n9 rfl).rd (by simp;omega) fun XW gG D9 q10 fo=>?_
    have Yr:=aw S8 fo NU;have Tc:=fo.size;refine⟨_,Cell.ah Yr rfl,_,Cell.ah Yr rfl,_,Cell.ah Yr rfl,?_⟩;rw[e8.ch];refine zO e8.cho fun Ta hU HE oF=>Ks (fo.no oF) q10 Z2 (D9.no oF) (by have:=oF.size;omega) HE.rd (by simp[kh];omega) fun NK mw VS q12 gV=>Ar.i64 (by omega) (fin gV (by simpa only[List.append_assoc] using VS) ?_)
    unfold wrE;rw[if_neg h2,if_pos h3,zm,e8.n];simp
   .refine⟨Ext Q w8,(Ext.refl _ _).drew,_,af.bq (Cell.ah Rt rfl) NU,Ar.KS ⟨_,af.bq (Cell.ah Rt rfl) NU,an.mk fun b9 w9 n9=>?_⟩⟩;have x9:Ext Q w8 w9:=((Ext.refl _ _).drew).no n9.ext;have hQ8:∀i,w8.heap.size<=i->Q i:=fun i hi=>Z2 i (by omega)
    have tt:∀{w':Wd},Ext Q w8 w'->Ext Q w5 w':=fun x=>x8.trans x fun _ _ h=>h
    refine⟨x9,Ks (s':=⟨some ⟨b9,0,none⟩,2,2⟩) x9 q8 hQ8 (o8.no ((Ext.refl No w8).drew.no n9.ext)) (by have:=x9.size;omega) (aD.new (n:=2) (l:=[0,((L[j].1.v.len:Int) % 256)]) n9 rfl).rd (by simp;omega) fun XW gG D9 q10 fo=>⟨fo,?_⟩⟩
    refine Ks fo q10 hQ8 D9 (by have:=fo.size;omega) ((r.no (qQ (tt fo))).get iS).v (by simp;omega) fun Ta hU HE q11 oF=>⟨oF,Ar.i64 (by omega) (fin (tt oF) (by simpa only[List.append_assoc] using HE) ?_)⟩
    unfold wrE;rw[if_neg h2,if_neg h3,zm,Z1];simp
 .have e:j=L.length:=by omega
  subst e;refine k _ _ ?_ x3;refine aP.mono ?_ h1.ext.size;have e2:(ki L).take L.length=ki L:=List.take_of_length_le (by simp);rw[e2]at o3;unfold wr;simp only[List.length_map];exact o3
theorem _root_.Go.V.qh.short{kind lev:Int}{L:List (eA×lU)}(h:qh kind lev (ki L))(hl:L.length<=65536):RU L:=by
 refine⟨hl,fun p hp=>?_⟩;obtain⟨i,hi,rfl⟩:=List.getElem_of_mem hp;have:=h.NW i (by simpa using hi);simp only[List.getElem_map]at this;obtain⟨h1,h2⟩:=this;unfold Cr at h1;constructor
 .split at h1 <;> omega
 .split at h2
  .omega
  .obtain⟨_,h2⟩:=h2;split at h2 <;> omega
def _root_.Go.V.pad(l:List Int):List Int:=l++List.replicate (224 - l.length) 0
theorem _root_.Go.V.NX{l:List Int}(h:l.length<=224):(pad l).length=224:=by simp[pad];omega
theorem Kt{kind lev:Int}{s:Sl}{L:List (eA×lU)}{K:Sl->Int->Pw}(r:Pb w.heap s L)(hs:L.length<=65536)
  (k0:∀t w',qh kind lev (ki L)->(wr kind lev (ki L)).length<=224->aD w'.heap w.heap.size t (pad (wr kind lev (ki L)))->Ext No w w'->K t 0 w')
  (k1:∀c w',¬ (qh kind lev (ki L)/\(wr kind lev (ki L)).length<=224)->c≠0->Ext No w w'->K ⟨none,0,0⟩ c w'):pV kind lev s w K:=by
 apply E7;refine an.mk fun b w1 h1=>?_
 have hb:=h1.get;refine⟨_,Cell.ah hb rfl,_,Cell.ah hb rfl,_,Cell.ah hb rfl,Kr (r.no h1.ext) (by omega) (fun w2 hr x2=>If.bne (fun h=>(h rfl).elim) fun _=>?_) (fun c w2 hr hc x2=>If.bne (fun _=>k1 c _ (fun h=>hr h.1) hc (h1.ext.no x2)) fun h=>(hc h).elim)⟩;have Cz:=aj hb x2;refine⟨_,Cell.ah Cz rfl,_,Cell.ah Cz rfl,_,Cell.ah Cz rfl,MQ (r.no (h1.ext.no x2)) (hr.short hs) fun t w3 o3 x3=>?_⟩;have qf:=(h1.ext.no x2).no x3;have hl:=aD.len o3;refine If.dec (fun h=>k1 3 _ (fun h'=>by omega) (by decide) qf) (fun h=>Ar.i64 (by omega) ?_);have e:(224 - (t.len:Int))=((224 - (wr kind lev (ki L)).length:Nat):Int):=by omega
 rw[e];refine DZ (k:= .i64) (ie:=Tryz.t5) (z:= .int .u8 0) (by kernel_rfl) (by kernel_rfl) (by kernel_rfl) (by kernel_rfl) (by kernel_rfl) (by kernel_rfl) rfl (by kernel_rfl) o3 (x3.size) (by omega) fun s' w' o _ x _=>k0 _ _ hr (by omega) (aP.mono (base:=w2.heap.size) ?_ (h1.ext.no x2).size) (qf.trans x fun i hi h=>?_)
 .rw[<- List.map_replicate,<- List.map_append]at o;exact o
 .have:=(o3.lt h).1;have:=(h1.ext.no x2).size;omega
end
end Go.Proofs.YtefdekemmnnclaaGreat
set_option maxRecDepth 100000
namespace Go.Proofs.YtefdekemmnnclaaGreat
open Go.V
abbrev A1(b:Nat):Addr:=⟨b,0,none⟩
structure iA(h:Array Obj)(n0:Nat)(b:Sl)(P:List Int)(kind lev:Int)(ls:Sl)(place fault:Int):Prop where
 c1:h[n0]? = some (.cells [.slice b.a b.len b.cap].toArray 25 (0,0))
 c2:h[n0+1]? = some (.cells [.int .u8 kind,.int .u8 lev,.slice ls.a ls.len ls.cap].toArray 338 (0,0))
 c3:h[n0+2]? = some (.cells [.int .i64 place].toArray 3 (0,0))
 c4:h[n0+3]? = some (.cells [.int .i64 fault].toArray 3 (0,0))
 c5:h[n0+4]? = some (.cells [.func (.func 401) #[] #[.pointer (some (A1 (n0+3)))]].toArray 328 (0,0))
 c6:h[n0+5]? = some (.cells [.func (.func 402) #[] #[.pointer (some (A1 (n0+3))),.pointer (some (A1 (n0+2))),.pointer (some (A1 (n0+4))),.pointer (some (A1 n0))]].toArray 501 (0,0))
 c7:h[n0+6]? = some (.cells [.func (.func 405) #[] #[]].toArray 255 (0,0))
 rd:aL h b P
 low:∀i,b.au=some i->P≠[]->i < n0
 p8:B8 P
 len:P.length=224
section
variable {w:Wd} {n0:Nat} {b:Sl} {P:List Int} {kind lev:Int} {ls:Sl} {place fault:Int}
theorem iA.ext{S:Nat->Prop}{w':Wd}(d:iA w.heap n0 b P kind lev ls place fault)(x:Ext S w w')(hS:∀i,i < n0+7->¬ S i):iA w'.heap n0 b P kind lev ls place fault:=
 ⟨aw d.c1 x (hS _ (by omega)),aw d.c2 x (hS _ (by omega)),aw d.c3 x (hS _ (by omega)),aw d.c4 x (hS _ (by omega)),aw d.c5 x (hS _ (by omega)),aw d.c6 x (hS _ (by omega)),aw d.c7 x (hS _ (by omega)),
  d.rd.ext x (fun a i ha hi=>hS i (by have:=d.low i (by simp[Sl.au,ha,hi]) (by intro h;have:=d.len;rw[h]at this;simp at this);omega)),d.low,d.p8,d.len⟩
theorem iA.no{w':Wd}(d:iA w.heap n0 b P kind lev ls place fault)(x:Ext No w w'):iA w'.heap n0 b P kind lev ls place fault:=d.ext x fun _ _ h=>h
theorem iA.Ku{w':Wd}{p:Int}(d:iA w.heap n0 b P kind lev ls place fault)(h:nI w (n0+2) (.cells [.int .i64 p].toArray 3 (0,0)) w'):iA w'.heap n0 b P kind lev ls p fault:=by
 have o:∀{i:Nat}{o:Obj},i≠n0+2->w.heap[i]? = some o->w'.heap[i]? = some o:=fun hi ho=>by rw[h.other hi];exact ho
 exact⟨o (by omega) d.c1,o (by omega) d.c2,h.get d.c3,o (by omega) d.c4,o (by omega) d.c5,o (by omega) d.c6,o (by omega) d.c7,
  d.rd.ext h.ext (fun a i ha hi=>by have:=d.low i (by simp[Sl.au,ha,hi]) (by intro h;have:=d.len;rw[h]at this;simp at this);omega),d.low,d.p8,d.len⟩
theorem iA.setNode{w':Wd}{V_ abz:Int}{oR:Sl}(d:iA w.heap n0 b P kind lev ls place fault)(h:nI w (n0+1) (.cells [.int .u8 V_,.int .u8 abz,.slice oR.a oR.len oR.cap].toArray 338 (0,0)) w'):iA w'.heap n0 b P V_ abz oR place fault:=by
 have o:∀{i:Nat}{o:Obj},i≠n0+1->w.heap[i]? = some o->w'.heap[i]? = some o:=fun hi ho=>by rw[h.other hi];exact ho
 exact⟨o (by omega) d.c1,h.get d.c2,o (by omega) d.c3,o (by omega) d.c4,o (by omega) d.c5,o (by omega) d.c6,o (by omega) d.c7,
  d.rd.ext h.ext (fun a i ha hi=>by have:=d.low i (by simp[Sl.au,ha,hi]) (by intro h;have:=d.len;rw[h]at this;simp at this);omega),d.low,d.p8,d.len⟩
theorem Ys{s:Sl}{P pre x suf:List Int}{lo hi:Int}{K:Sl->Prop}(r:aL w.heap s P)(hP:P=pre++(x++suf))(h1:lo=pre.length)(h2:hi=pre.length+x.length)(k:∀s',aL w.heap s' x->K s'):Cut s lo hi (((s.cap:Nat):Int)) 1 K:=by
 have hl:=aL.len r;have hc:=Rd.cap r;have hPl:P.length=pre.length+(x.length+suf.length):=by rw[hP];simp
 subst h1 h2;refine Cut.mk (by omega) (by omega) (by omega) (Int.le_refl _) (k _ ?_);have:=Rd.cut r (lo:=pre.length) (hi:=pre.length+x.length) (mx:=s.cap) (by omega) (by omega) (by omega);rw[Nat.mul_one,Nat.mul_one,show pre.length+x.length - pre.length=x.length by omega]at this
 have e:(List.take x.length (List.drop pre.length (P.map (Value.int .u8))))=x.map (Value.int .u8):=by
  rw[hP,<- List.map_drop,<- List.map_take,List.drop_left,List.take_left]
 rw[e]at this;have e2:((pre.length:Int)+(x.length:Int) - (pre.length:Int)).toNat=x.length:=by omega
 have e3:((s.cap:Int) - (pre.length:Int)).toNat=s.cap - pre.length:=by omega
 rw[e2,e3];exact this
abbrev abA(n0:Nat):Value:= .func (.func 402) #[] #[.pointer (some (A1 (n0+3))),.pointer (some (A1 (n0+2))),.pointer (some (A1 (n0+4))),.pointer (some (A1 n0))]
theorem kj{may:Value}{size:Int}{pre x suf:List Int}{K:Int->Pw}{rd:Bool}(d:iA w.heap n0 b P kind lev ls pre.length (-1))(hP:P=pre++(x++suf))(hx:(x.length:Int)=size)(h1:1<=size)(h8:size<=8)
  (hm:∀K':Bool->Pw,K' true w->aG pz true may [.int .u64 (num x)] [.one (.bool)] K' cB w)
  (k:∀w',iA w'.heap n0 b P kind lev ls (pre.length+size) (-1)->Ext (·=n0+2) w w'->w'.heap.size=w.heap.size->K (num x) w'):aG pz rd (abA n0) [.int .i64 size,may] [.one (.int .u64)] K cB w:=by
 refine B7 (c0:=A1 (n0+3)) (c1:=A1 (n0+2)) (c2:=A1 (n0+4)) (c3:=A1 n0) (B6 ?_);have hPl:pre.length+(x.length+suf.length)=224:=by rw[<- d.len,hP];simp
 have hx8:B8 x:=d.p8.sub fun y hy=>by rw[hP];simp[hy]
 refine⟨_,Cell.ah d.c4 rfl,If.dec (fun h=>by omega) fun _=>⟨_,Cell.ah d.c3 rfl,Ar.i64 (by omega) (If.dec (fun h=>by omega) fun _=>⟨_,Cell.ah d.c1 rfl,_,Cell.ah d.c3 rfl,_,Cell.ah d.c3 rfl,Ar.i64 (by omega) ?_⟩)⟩⟩;refine Ys d.rd hP rfl (by omega) fun s' r'=>qY r' hx8 (by omega) (by omega) (hm _ (If.no ⟨_,Cell.ah d.c3 rfl,Ar.i64 (by omega) (aH.mk d.c3 (by simp) rfl fun w' h=>?_)⟩))
 exact k w' (d.Ku h) h.ext h.size
theorem NY{may:Value}{pre x suf:List Int}{K:Sl->Pw}{rd:Bool}(d:iA w.heap n0 b P kind lev ls pre.length (-1))(hP:P=pre++(((x.length:Int))::x++suf))(hn:n0+7<=w.heap.size)(S0:cn may=true)
  (hm:∀w' (K':Bool->Pw),Ext No w w'->K' true w'->aG pz true may [.int .u64 (x.length:Int)] [.one (.bool)] K' cB w')
  (k:∀s w',iA w'.heap n0 b P kind lev ls (pre.length+1+x.length) (-1)->aD w'.heap w.heap.size s x->Ext (·=n0+2) w w'->K s w') :
  aG pz rd (.func (.func 403) #[] #[.pointer (some (A1 (n0+5))),.pointer (some (A1 (n0+2))),.pointer (some (A1 (n0+3))),.pointer (some (A1 n0))]) [may] [.one (.sl)] K cB w:=by
 refine B5 (c0:=A1 (n0+5)) (c1:=A1 (n0+2)) (c2:=A1 (n0+3)) (c3:=A1 n0) (B4 ?_);have hPl:pre.length+(1+x.length+suf.length)=224:=by rw[<- d.len,hP];simp;omega
 refine⟨S0,an.mk fun b1 w1 n1=>?_⟩;have d1:=d.no n1.ext;have EI:=n1.at_;refine⟨_,Cell.ah d1.c6 rfl,?_⟩;have hP2:P=pre++([(x.length:Int)]++(x++suf)):=by rw[hP];simp
 have e1:num [(x.length:Int)]=x.length:=by simp[num]
 refine kj (x:=[(x.length:Int)]) d1 hP2 rfl (by decide) (by decide) (fun K' hK=>?_) fun w2 d2 x2 z2=>?_
 .rw[e1];apply yQ;apply yz;refine⟨_,Cell.ah n1.get rfl,hm w1 _ n1.ext (If.yes (Ar.i64 (by omega) ⟨_,Cell.ah d1.c3 rfl,Ar.i64 (by omega) (Ar.i64 (by omega) ?_)⟩))⟩;have:decide ((x.length:Int)<=224 - (pre.length:Int) - 1)=true:=decide_eq_true (by omega);rw[this];exact hK
 rw[e1];refine⟨_,Cell.ah d2.c4 rfl,If.dec (fun h=>by omega) fun _=>⟨_,Cell.ah d2.c3 rfl,Ar.i64 (by omega) (Ar.i64 (by omega) (aH.mk d2.c3 (by simp) rfl fun w3 h3=>an.mk fun b4 w4 n4=>?_))⟩⟩;have d3:iA w3.heap n0 b P kind lev ls (pre.length+1+x.length) (-1):=d2.Ku h3;have d4:=d3.no n4.ext;refine⟨_,Cell.ah d4.c1 rfl,_,Cell.ah d4.c3 rfl,Ar.i64 (by omega) (Ar.i64 (by omega) ⟨_,Cell.ah d4.c3 rfl,?_⟩)⟩;have hP3:P=(pre++[(x.length:Int)])++(x++suf):=by rw[hP];simp
 refine Ys d4.rd hP3 (by simp) (by simp) fun s' r'=>?_
 have o4:aD w4.heap w3.heap.size ⟨some ⟨b4,0,none⟩,0,0⟩ []:=aD.new (l:=[]) n4 rfl;have z4:=n4.size;have z3:=h3.size;have z1:=n1.size;have S8:=n4.at_;refine Ks (s:=⟨some ⟨b4,0,none⟩,0,0⟩) (Q:=fun i=>w3.heap.size<=i) (Ext.refl _ w4) (fun i hi=>by have:=Option.some.inj hi;simp only at this;omega) (fun i hi=>by omega) o4 (by omega) r' (by simp;omega) fun s5 w5 o5 q5 x5=>?_
 refine k _ _ (d4.ext x5 fun i hi h=>by omega) (aP.mono o5 (by omega)) ?_;refine((((n1.ext.aF).trans x2 fun i _ h=>h).trans h3.ext fun i _ h=>h).no n4.ext).trans x5 fun i hi h=>by omega
theorem Pc:∀(l:List Int),(∀y∈l,y=0)->num l=0:=by
 intro l h
 have:∀(l:List Int)(a:Int),(∀y∈l,y=0)->a=0->l.foldl (fun n x=>n * 256+x) a=0:=by
  intro l
  induction l with
  | nil=>intro a _ h;exact h
  | cons y l ih=>
   intro a h ha;rw[List.foldl_cons];exact ih _ (fun z hz=>h z (List.mem_cons_of_mem _ hz)) (by rw[ha,h y List.mem_cons_self];rfl)
 exact this l 0 h rfl
theorem Pd{r:Rf}(ok:r.ok)(h:∀y∈refB r,y=0):r = .z:=by
 obtain⟨h1,h2,h3⟩:=ok;have a:=mK 4 h1.1 (by omega);have b:=mK 8 h2.1 (by omega);have c:=mK 2 h3.1 (by omega);rw[Pc _ fun y hy=>h y (by simp[refB,hy])]at a b c
 cases r;simp only at a b c;simp[Rf.z,<- a,<- b,<- c]
theorem MR{v:Int}{K:Bool->Pw}(k:K true w):aG pz true (.func (.func 405) #[] #[]) [.int .u64 v] [.one (.bool)] K cB w:=B3 (B0 k)
theorem RV{r:Rf}{pre suf:List Int}{K:Int->Int->Int->Pw}{rd:Bool}(d:iA w.heap n0 b P kind lev ls pre.length (-1))(hP:P=pre++(refB r++suf))(hn:n0+7<=w.heap.size)(ok:r.ok)(hz:r ≠ .z)
  (k:∀w',iA w'.heap n0 b P kind lev ls (pre.length+14) (-1)->Ext (·=n0+2) w w'->K r.p r.c r.g w') :
  aG pz rd (.func (.func 406) #[] #[.pointer (some (A1 (n0+3))),.pointer (some (A1 (n0+2))),.pointer (some (A1 n0)),.pointer (some (A1 (n0+4))),.pointer (some (A1 (n0+5))),.pointer (some (A1 (n0+6)))]) [] [.agg [.one (.int .u32),.one (.int .u64),.one (.int .u16)]] K cB w:=by
 refine BY (c0:=A1 (n0+3)) (c1:=A1 (n0+2)) (c2:=A1 n0) (c3:=A1 (n0+4)) (c4:=A1 (n0+5)) (c5:=A1 (n0+6)) (BX ?_);have hPl:pre.length+(14+suf.length)=224:=by rw[<- d.len,hP];simp[kh]
 have h8:B8 (refB r):=d.p8.sub fun y hy=>by rw[hP];simp[hy]
 refine an.mk fun b1 w1 n1=>?_
 have d1:=d.no n1.ext;have EI:=n1.at_;refine⟨fun w'=>w'=w1,?_,?_⟩
 .refine⟨_,Cell.ah d1.c4 rfl,If.dec (fun _=>⟨_,Cell.ah d1.c3 rfl,Ar.i64 (by omega) (If.dec (fun _=>⟨_,Cell.ah d1.c1 rfl,_,Cell.ah d1.c3 rfl,_,Cell.ah d1.c3 rfl,Ar.i64 (by omega) (Ys d1.rd hP rfl (by rw[kh];rfl) fun s' r'=>mo r' h8 (by rw[kh];decide) ?_)⟩) fun _=>rfl)⟩) fun _=>rfl⟩;rw[decide_eq_false fun h=>hz (Pd ok h)];exact If.no rfl
 rintro _ w4 rfl;refine⟨fun w'=>w'=w4,?_,?_⟩
 .exact⟨_,Cell.ah d1.c4 rfl,If.dec (fun _=>⟨_,Cell.ah d1.c3 rfl,Ar.i64 (by omega) (If.dec (fun h=>by omega) fun _=>rfl)⟩) fun _=>rfl⟩
 rintro _ w6 rfl;obtain⟨h1,h2,h3⟩:=ok;have nS:∀{i:Nat},n0+3<=i->i < n0+7->¬ (i=n0+2∨i=b1):=fun h h'=>by omega
 refine⟨Ext (fun i=>i=n0+2∨i=b1) w6,(Ext.refl _ _).drew,_,af.bq (Cell.ah d1.c6 rfl) (nS (by omega) (by omega)),_,af.bq (Cell.ah d1.c7 rfl) (nS (by omega) (by omega)),_,af.bq (Cell.ah d1.c6 rfl) (nS (by omega) (by omega)),_,af.bq (Cell.ah d1.c7 rfl) (nS (by omega) (by omega)),_,af.bq (Cell.ah d1.c6 rfl) (nS (by omega) (by omega)),_,af.bq (Cell.ah d1.c7 rfl) (nS (by omega) (by omega)),?_⟩;have toS:∀{w':Wd},Ext (·=n0+2) (aa w6) w'->Ext (fun i=>i=n0+2∨i=b1) w6 w':=fun x=>(x.mono fun _ _ h=> .inl h).ae
 have dd:iA (aa w6).heap n0 b P kind lev ls pre.length (-1):=d1
 refine kj (x:=be 4 r.p) (suf:=be 8 r.c++(be 2 r.g++suf)) dd (by rw[hP];simp[refB]) (by rw[aI];rfl) (by decide) (by decide) (fun K' hK=>MR hK) fun w7 d7 x7 z7=>⟨toS x7,?_⟩
 rw[mK 4 h1.1 (by omega)];have e7:((pre.length:Int)+4)=((pre++be 4 r.p).length:Nat):=by simp[aI]
 rw[e7]at d7;refine Ar.u32 (by omega) (kj (x:=be 8 r.c) (suf:=be 2 r.g++suf) d7 (by rw[hP];simp[refB]) (by rw[aI];rfl) (by decide) (by decide) (fun K' hK=>MR hK) fun w8 d8 x8 z8=>⟨toS (x7.trans x8 fun _ _ h=>h),?_⟩);rw[mK 8 h2.1 (by omega)];have e8:(((pre++be 4 r.p).length:Nat):Int)+8=((pre++be 4 r.p++be 8 r.c).length:Nat):=by simp[aI];omega
 rw[e8]at d8
 refine kj (x:=be 2 r.g) (suf:=suf) d8 (by rw[hP];simp[refB]) (by rw[aI];rfl) (by decide) (by decide) (fun K' hK=>MR hK) fun w9 d9 x9 z9=>⟨toS ((x7.trans x8 fun _ _ h=>h).trans x9 fun _ _ h=>h),?_⟩
 rw[mK 2 h3.1 (by omega)];have e9:(((pre++be 4 r.p++be 8 r.c).length:Nat):Int)+2=(pre.length:Int)+14:=by simp[aI];omega
 rw[e9]at d9;have V0:=(x7.trans x8 fun _ _ h=>h).trans x9 fun _ _ h=>h
 have g9:w9.heap[b1]? = some (.cells [.int .u32 0,.int .u64 0,.int .u16 0].toArray 29 (0,0)):=aw (w:=aa w6) n1.get V0 (by omega);refine Ar.u16 (by omega) ⟨rfl,_,_,_,g9,rfl,by simp,.inr (.inr (Nat.le_refl _)),?_,fun gG Cp=>?_⟩
 .intro v hv;simp only[List.mem_cons,List.not_mem_nil,or_false]at hv;rcases hv with h | h | h <;> subst h <;> rfl
 have wa:gG.heap[b1]? = some (.cells [.int .u32 r.p,.int .u64 r.c,.int .u16 r.g].toArray 29 (0,0)):=nI.get (b:=b1) Cp g9;have fo:Ext (·=b1) w9 gG:=nI.ext (b:=b1) Cp;refine⟨(toS V0).trans fo fun _ _ h=> .inr h,_,Cell.ah wa rfl,_,Cell.ah wa rfl,_,Cell.ah wa rfl,k _ (d9.ext fo fun i hi h=>by omega) ?_⟩;exact((n1.ext.drew.aF).trans V0 fun _ _ h=>h).trans fo fun i hi h=>by omega
end
end Go.Proofs.YtefdekemmnnclaaGreat
namespace Go.V
structure zP(h:Array Obj)(base:Nat)(s:Sl)(L:List (eA×lU)):Prop where
 own:aP h base 347 9 s (L.flatMap Eo)
 NW:∀p∈L,Bf h p.1 p.2
 kb:∀p∈L,∀b,p.1.k.au=some b->base<=b/\b < h.size/\s.au≠some b
 vb:∀p∈L,∀b,p.1.v.au=some b->base<=b/\b < h.size/\s.au≠some b
theorem zP.nd{h:Array Obj}{base:Nat}{s:Sl}{L:List (eA×lU)}(o:zP h base s L):Pb h s L:=⟨o.own.rd,o.NW⟩
theorem zP.mono{h:Array Obj}{base base':Nat}{s:Sl}{L:List (eA×lU)}(o:zP h base s L)(hb:base'<=base):zP h base' s L:=⟨o.own.mono hb,o.NW,fun p hp b h=>⟨Nat.le_trans hb (o.kb p hp b h).1,(o.kb p hp b h).2⟩,fun p hp b h=>⟨Nat.le_trans hb (o.vb p hp b h).1,(o.vb p hp b h).2⟩⟩
theorem Bf.ext{S:Nat->Prop}{w w':Wd}{x:eA}{e:lU}(r:Bf w.heap x e)(h:Ext S w w')(h1:∀b,x.k.au=some b->¬ S b)(h2:∀b,x.v.au=some b->¬ S b):Bf w'.heap x e:=
 ⟨r.k.ext h fun a b ha hb=>h1 b (by simp[Sl.au,ha,hb]),r.v.ext h fun a b ha hb=>h2 b (by simp[Sl.au,ha,hb]),r.n,r.ch,r.cd,r.k8,r.v8,r.n64,r.cho,r.cdo⟩
theorem zP.ext{S:Nat->Prop}{w w':Wd}{base:Nat}{s:Sl}{L:List (eA×lU)}(o:zP w.heap base s L)(x:Ext S w w')(hS:∀b,base<=b->b < w.heap.size->¬ S b):zP w'.heap base s L:=
 ⟨o.own.ext x fun b hb=>hS b (o.own.lt hb).1 (o.own.lt hb).2,fun p hp=>(o.NW p hp).ext x (fun b h=>hS b (o.kb p hp b h).1 (o.kb p hp b h).2.1) (fun b h=>hS b (o.vb p hp b h).1 (o.vb p hp b h).2.1),
  fun p hp b h=>⟨(o.kb p hp b h).1,Nat.lt_of_lt_of_le (o.kb p hp b h).2.1 x.size,(o.kb p hp b h).2.2⟩,fun p hp b h=>⟨(o.vb p hp b h).1,Nat.lt_of_lt_of_le (o.vb p hp b h).2.1 x.size,(o.vb p hp b h).2.2⟩⟩
theorem zP.no{w w':Wd}{base:Nat}{s:Sl}{L:List (eA×lU)}(o:zP w.heap base s L)(x:Ext No w w'):zP w'.heap base s L:=o.ext x fun _ _ _ h=>h
theorem zP.nil(h:Array Obj)(base:Nat):zP h base ⟨none,0,0⟩ []:=⟨aP.nil _ _ _ _,by simp,by simp,by simp⟩
theorem Yt{kind lev:Int}{l:List lU}{i:Nat}(hi:i < l.length):pad (wr kind lev l)=([kind,lev,(l.length % 256:Int)]++(l.take i).flatMap (wrE kind))++(wrE kind l[i]++((l.drop (i+1)).flatMap (wrE kind)++List.replicate (224 - (wr kind lev l).length) 0)):=by
 have e:l.flatMap (wrE kind)=(l.take i).flatMap (wrE kind)++(wrE kind l[i]++(l.drop (i+1)).flatMap (wrE kind)):=by
  have:l=l.take i++(l[i]::l.drop (i+1)):=by rw[<- List.drop_eq_getElem_cons hi,List.take_append_drop]
  conv=>lhs;rw[this]
  rw[List.flatMap_append,List.flatMap_cons]
 have e2:pad (wr kind lev l)=[kind,lev,(l.length % 256:Int)]++l.flatMap (wrE kind)++List.replicate (224 - (wr kind lev l).length) 0:=rfl;rw[e2,e];simp only[List.append_assoc]
end Go.V
namespace Go.Proofs.YtefdekemmnnclaaGreat
open Go.V
section
variable {w:Wd} {n0:Nat} {b:Sl} {P:List Int} {kind lev:Int} {ls:Sl} {place fault:Int}
theorem aH.b1{bb:Nat}{T:TypeId}{v v':Value}{K:Pw}(hb:w.heap[bb]? = some (.cells [v].toArray T (0,0)))(hv:cn v'=true)(k:∀w',nI w bb (.cells [v'].toArray T (0,0)) w'->K w'):aH w (Addr.mk bb 0 none) v' K:=
 aH.mk hb (by simp) hv fun w' h=>k w' h
theorem zP.push{w':Wd}{base:Nat}{s s':Sl}{L:List (eA×lU)}{p:eA×lU}(o:zP w.heap base s L)(o':aP w'.heap base 347 9 s' (L.flatMap Eo++p.1.cs))(x:Ext (fun b=>s.au=some b) w w')(hb:s'.au=s.au∨∃b,s'.au=some b/\w.heap.size<=b)
  (hp:Bf w.heap p.1 p.2) (h1:∀b,p.1.k.au=some b->base<=b/\b < w.heap.size/\s.au≠some b) (h2:∀b,p.1.v.au=some b->base<=b/\b < w.heap.size/\s.au≠some b):zP w'.heap base s' (L++[p]):=by
 have key:∀b,base<=b/\b < w.heap.size/\s.au≠some b->base<=b/\b < w'.heap.size/\s'.au≠some b:=fun b h=>⟨h.1,Nat.lt_of_lt_of_le h.2.1 x.size,fun e=>by
  rcases hb with h' | ⟨c,h',hc⟩
  .exact h.2.2 (h' ▸ e)
  .rw[h']at e;cases e;omega⟩
 refine⟨by rw[List.flatMap_append,List.flatMap_cons,List.flatMap_nil,List.append_nil];exact o',fun q hq=>?_,fun q hq b h=>?_,fun q hq b h=>?_⟩
 .rcases List.mem_append.1 hq with h | h
  .exact(o.NW q h).ext x (fun b hb=>(o.kb q h b hb).2.2) (fun b hb=>(o.vb q h b hb).2.2)
  .rw[List.mem_singleton]at h;subst h;exact hp.ext x (fun b hb=>(h1 b hb).2.2) (fun b hb=>(h2 b hb).2.2)
 .rcases List.mem_append.1 hq with h' | h'
  .exact key b (o.kb q h' b h)
  .rw[List.mem_singleton]at h';subst h';exact key b (h1 b h)
 .rcases List.mem_append.1 hq with h' | h'
  .exact key b (o.vb q h' b h)
  .rw[List.mem_singleton]at h';subst h';exact key b (h2 b h)
def restB(kind:Int)(e:lU):List Int:=if kind=2 then refB e.cd else if e.n > 0 then[1,e.n / 256 % 256,e.n % 256]++refB e.ch else[0,(e.val.length % 256:Int)]++e.val
theorem RW(kind:Int)(e:lU):wrE kind e=(e.key.length % 256:Int)::e.key++restB kind e:=rfl
structure Got(w:Wd)(n0 b9:Nat)(base:Nat)(r3:Sl)(e:lU)(x:eA):Prop where
 au:w.heap[b9]? = some (.cells x.cs.toArray 347 (0,0))
 k:x.k=r3
 v:Rd w.heap x.v 1 (e.val.map (Value.int .u8))
 vb:∀b,x.v.au=some b->base<=b/\b < w.heap.size
 n:x.n=e.n
 ch:x.ch=e.ch
 cd:x.cd=e.cd
set_option maxHeartbeats 1000000 in
theorem UH{b9:Nat}{r3:Sl}{e:lU}{i:Int}{pre suf:List Int}{J1:Pw}(d:iA w.heap n0 b P kind lev ls pre.length (-1))(hP:P=pre++(restB kind e++suf))(hn:n0+7<=b9)
  (Z3:w.heap[b9]? = some (.cells (eA.cs ⟨r3,⟨none,0,0⟩,0,.z,.z⟩).toArray 347 (0,0))) (hp:Cs kind i e) (cho:e.ch.ok) (cdo:e.cd.ok)
  (k:∀w' x,Got w' n0 b9 w.heap.size r3 e x->iA w'.heap n0 b P kind lev ls (pre.length+(restB kind e).length) (-1)->Ext (fun q=>q=n0+2∨q=b9) w w'->J1 w') :
  ∃wz:Int,Cell w (Addr.mk (n0+1) 0 none) (.int .u8 wz)/\
 If (wz == 2) (
 aG pz true (.func (.func 406) #[] #[.pointer (some (Addr.mk (n0+3) 0 none)),.pointer (some (Addr.mk (n0+2) 0 none)),.pointer (some (Addr.mk n0 0 none)),.pointer (some (Addr.mk (n0+4) 0 none)),.pointer (some (Addr.mk (n0+5) 0 none)),.pointer (some (Addr.mk (n0+6) 0 none))]) [] [.agg [.one (.int .u32),.one (.int .u64),.one (.int .u16)]] (fun r0 RX RY Kw=>
 List.length (α:=Value) [.int .u32 r0,.int .u64 RX,.int .u16 RY]=3/\cr Kw ((Addr.mk b9 0 none).add 6) [.int .u32 r0,.int .u64 RX,.int .u16 RY] fun UI=>
 J1 UI) cB w) (
 ∃BH:Value,Cell w (Addr.mk (n0+5) 0 none) (BH)/\
 aG pz true BH [.int .i64 1,.func (.func 413) #[] #[]] [.one (.int .u64)] (fun Yu Wa=>
 If (Yu == 1) (
 ∃Kx:Value,Cell Wa (Addr.mk (n0+5) 0 none) (Kx)/\
 aG pz true Kx [.int .i64 2,.func (.func 414) #[] #[]] [.one (.int .u64)] (fun r_6 w33=>
 Ar .i64 r_6 fun z_5=>
 aH w33 ((Addr.mk b9 0 none).add 2) (.int .i64 z_5) fun w34=>
 aG pz true (.func (.func 406) #[] #[.pointer (some (Addr.mk (n0+3) 0 none)),.pointer (some (Addr.mk (n0+2) 0 none)),.pointer (some (Addr.mk n0 0 none)),.pointer (some (Addr.mk (n0+4) 0 none)),.pointer (some (Addr.mk (n0+5) 0 none)),.pointer (some (Addr.mk (n0+6) 0 none))]) [] [.agg [.one (.int .u32),.one (.int .u64),.one (.int .u16)]] (fun RZ R0 R3 w35=>
 List.length (α:=Value) [.int .u32 RZ,.int .u64 R0,.int .u16 R3]=3/\cr w35 ((Addr.mk b9 0 none).add 3) [.int .u32 RZ,.int .u64 R0,.int .u16 R3] fun Wb=>
 J1 Wb) cB w34) cB Wa) (
 aG pz true (.func (.func 403) #[] #[.pointer (some (Addr.mk (n0+5) 0 none)),.pointer (some (Addr.mk (n0+2) 0 none)),.pointer (some (Addr.mk (n0+3) 0 none)),.pointer (some (Addr.mk n0 0 none))]) [.func (.func 415) #[] #[]] [.one (.sl)] (fun r_7 Z4=>
 aH Z4 ((Addr.mk b9 0 none).add 1) (.slice r_7.a r_7.len r_7.cap) fun w38=>
 J1 w38) cB Wa)) cB w):=by
 have uh:n0+7<=w.heap.size:=by have:=blt Z3;omega
 refine⟨_,Cell.ah d.c2 rfl,If.beq (fun h2=>?_) (fun h2=>?_)⟩
 .have hr:restB kind e=refB e.cd:=by unfold restB;rw[if_pos h2]
  have uc:=hp.2;rw[if_pos h2]at uc;rw[hr]at hP k
  refine RV d hP uh cdo uc.1 fun w' d' x'=>⟨rfl,?_⟩
  have hb:=aw Z3 x' (by omega);refine⟨_,_,_,hb,rfl,(by show 6+3<=9;decide),.inr (.inr (Nat.le_refl _)),?_,fun w2 XH=>?_⟩
  .intro v hv;simp only[List.mem_cons,List.not_mem_nil,or_false]at hv;rcases hv with h | h | h <;> subst h <;> rfl
  have x2:Ext (·=b9) w' w2:=nI.ext (b:=b9) XH;have g2:w2.heap[b9]? = some (.cells (eA.cs ⟨r3,⟨none,0,0⟩,0,.z,e.cd⟩).toArray 347 (0,0)):=nI.get (b:=b9) XH hb;have ev:e.val=[]:=List.eq_nil_of_length_eq_zero uc.2.2.1;refine k w2 _ ⟨g2,rfl,by rw[ev];exact Rd.nil _ _,fun b h=>(by cases h),uc.2.2.2.symm,uc.2.1.symm,rfl⟩ ?_ ((x'.mono fun _ _ h=> .inl h).trans x2 fun _ _ h=> .inr h);rw[kh];exact d'.ext x2 fun q hq h=>by omega
 .have uc:=hp.2;rw[if_neg h2]at uc;obtain⟨hcd,uc⟩:=uc;refine⟨_,Cell.ah d.c6 rfl,?_⟩;rcases Classical.em (e.n=0) with h0 | h0
  .rw[if_pos h0]at uc
   have hr:restB kind e=[0]++((e.val.length:Int)::e.val):=by
    unfold restB;rw[if_neg h2,if_neg (by omega),show((e.val.length:Int) % 256)=e.val.length by omega];rfl
   rw[hr]at hP k;have e0:num [(0:Int)]=0:=rfl;refine kj (x:=[0]) (suf:=((e.val.length:Int)::e.val)++suf) d (by rw[hP,List.append_assoc]) rfl (by decide) (by decide) (fun K' hK=>qH (qG (by rw[e0];exact hK))) fun w2 d2 x2 z2=>?_
   rw[e0];refine If.no ?_;have e1:((pre.length:Int)+1)=((pre++[(0:Int)]).length:Nat):=by simp
   rw[e1]at d2;refine NY (x:=e.val) (suf:=suf) d2 (by rw[hP];simp) (by omega) rfl (fun w' K' _ hK=>Az (Ay (by unfold qE;rw[decide_eq_true (by omega)];exact hK))) fun s3 w3 d3 o3 x3=>?_
   have hb:=aw (aw Z3 x2 (by omega)) x3 (by omega);refine aH.mk hb (by simp[eA.cs]) rfl fun w4 h4=>?_
   have g4:w4.heap[b9]? = some (.cells (eA.cs ⟨r3,s3,0,.z,.z⟩).toArray 347 (0,0)):=h4.get hb;have dz:∀q,s3.au=some q->q≠b9:=fun q hq h=>by have:=(o3.lt hq).1;have:=blt Z3;omega
   refine k w4 _ ⟨g4,rfl,o3.rd.ext h4.ext (fun a q ha hq=>dz q (by simp[Sl.au,ha,hq])),fun q hq=>?_,h0.symm,uc.1.symm,hcd.symm⟩ ?_ (((x2.mono fun _ _ h=> .inl h).trans x3 fun _ _ h=> .inl h).trans h4.ext fun _ _ h=> .inr h)
   .have:=o3.lt hq;have:=h4.size;omega
   .have e5:(((pre++[(0:Int)]).length:Nat):Int)+1+(e.val.length:Int)=(pre.length:Int)+(([0]++((e.val.length:Int)::e.val)).length:Nat):=by simp;omega
    rw[<- e5];exact d3.ext h4.ext fun q hq h=>by have h:q=b9:=h;omega
  .rw[if_neg h0]at uc
   have hr:restB kind e=[1]++(be 2 e.n++refB e.ch):=by
    unfold restB;rw[if_neg h2,if_pos (by omega)];simp[be]
   rw[hr]at hP k;have e0:num [(1:Int)]=1:=rfl;refine kj (x:=[1]) (suf:=(be 2 e.n++refB e.ch)++suf) d (by rw[hP,List.append_assoc]) rfl (by decide) (by decide) (fun K' hK=>qH (qG (by rw[e0];exact hK))) fun w2 d2 x2 z2=>?_
   rw[e0];refine If.yes ⟨_,Cell.ah d2.c6 rfl,?_⟩;have e1:((pre.length:Int)+1)=((pre++[(1:Int)]).length:Nat):=by simp
   rw[e1]at d2;have en:num (be 2 e.n)=e.n:=mK 2 (by omega) (by omega);refine kj (x:=be 2 e.n) (suf:=refB e.ch++suf) d2 (by rw[hP];simp) (by rw[aI];rfl) (by decide) (by decide) (fun K' hK=>AB (AA (by unfold qF;rw[en];exact If.dec (fun _=>by rw[decide_eq_true (by omega)];exact hK) fun h=>(h uc.1).elim))) fun w3 d3 x3 z3=>?_
   rw[en];have hb:=aw (aw Z3 x2 (by omega)) x3 (by omega);refine Ar.i64 (by omega) (aH.mk hb (by simp[eA.cs]) rfl fun w4 h4=>?_);have g4:w4.heap[b9]? = some (.cells (eA.cs ⟨r3,⟨none,0,0⟩,e.n,.z,.z⟩).toArray 347 (0,0)):=h4.get hb
   have d4:iA w4.heap n0 b P kind lev ls (((pre++[(1:Int)]++be 2 e.n).length:Nat):Int) (-1):=by
    have e5:(((pre++[(1:Int)]++be 2 e.n).length:Nat):Int)=(((pre++[(1:Int)]).length:Nat):Int)+2:=by simp[aI];omega
    rw[e5];exact d3.ext h4.ext fun q hq h=>by have h:q=b9:=h;omega
   refine RV (r:=e.ch) (suf:=suf) d4 (by rw[hP];simp) (by have:=x3.size;have:=h4.size;omega) cho uc.2.2.1 fun w5 d5 x5=>⟨rfl,?_⟩
   have Q4:=aw g4 x5 (by omega);refine⟨_,_,_,Q4,rfl,(by show 3+3<=9;decide),.inr (.inr (Nat.le_refl _)),?_,fun w6 h6=>?_⟩
   .intro v hv;simp only[List.mem_cons,List.not_mem_nil,or_false]at hv;rcases hv with h | h | h <;> subst h <;> rfl
   have x6:Ext (·=b9) w5 w6:=nI.ext (b:=b9) h6;have g6:w6.heap[b9]? = some (.cells (eA.cs ⟨r3,⟨none,0,0⟩,e.n,e.ch,.z⟩).toArray 347 (0,0)):=nI.get (b:=b9) h6 Q4;have ev:e.val=[]:=List.eq_nil_of_length_eq_zero uc.2.2.2;refine k w6 _ ⟨g6,rfl,by rw[ev];exact Rd.nil _ _,fun b h=>(by cases h),rfl,rfl,hcd.symm⟩ ?_ (((((x2.mono fun _ _ h=> .inl h).trans x3 fun _ _ h=> .inl h).trans h4.ext fun _ _ h=> .inr h).trans x5 fun _ _ h=> .inl h).trans x6 fun _ _ h=> .inr h);have e7:(((pre++[(1:Int)]++be 2 e.n).length:Nat):Int)+14=(pre.length:Int)+(([1]++(be 2 e.n++refB e.ch)).length:Nat):=by simp[aI,kh];omega
   rw[<- e7];exact d5.ext x6 fun q hq h=>by omega
end
theorem UJ(kind:Int)(e:lU):1<=(wrE kind e).length:=by unfold wrE;simp only[List.length_append,List.length_cons];omega
theorem R5{kind lev:Int}{l:List lU}(h:(wr kind lev l).length<=224):l.length<=221:=by
 have:∀l:List lU,l.length<=(l.flatMap (wrE kind)).length:=by
  intro l
  induction l with
  | nil=>simp
  | cons e l ih=>have:=UJ kind e;simp only[List.flatMap_cons,List.length_append,List.length_cons];omega
 have:=this l;unfold wr at h;simp only[List.length_append,List.length_cons,List.length_nil]at h;omega
section
variable {w:Wd} {b:Sl} {P:List Int}
def NZ(n0:Nat)(lK:Wd)(K:Int->Int->Sl->Int->Int->Pw):Prop:=
 ∃E2:Value,Cell lK (Addr.mk (n0+5) 0 none) (E2)/\
 aG pz true E2 [.int .i64 1,.func (.func 407) #[] #[]] [.one (.int .u64)] (fun r pY=>
 Ar .u8 r fun z=>
 aH pY (Addr.mk (n0+1) 0 none) (.int .u8 z) fun kQ=>
 ∃Ca:Value,Cell kQ (Addr.mk (n0+5) 0 none) (Ca)/\
 aG pz true Ca [.int .i64 1,.func (.func 408) #[] #[.pointer (some (Addr.mk (n0+1) 0 none))]] [.one (.int .u64)] (fun r_1 ua=>
 Ar .u8 r_1 fun z_1=>
 aH ua ((Addr.mk (n0+1) 0 none).add 1) (.int .u8 z_1) fun rD=>
 ∃abB:Value,Cell rD (Addr.mk (n0+5) 0 none) (abB)/\
 aG pz true abB [.int .i64 1,.func (.func 410) #[] #[.pointer (some (Addr.mk (n0+1) 0 none))]] [.one (.int .u64)] (fun r_2 Q6=>
 ∃J5:Pw,(
 an Q6 (.cells [.int .i64 0].toArray 3) fun b_8 XR=>
 aH XR (Addr.mk b_8 0 none) (.int .i64 0) fun XS=>
 ∃I1:Nat->Addr->Pw,(∃m,I1 m (Addr.mk b_8 0 none) XS)/\∀(_:Env)(m0:Nat)(i:Addr)(zn:Wd),I1 m0 i zn->
 ∃J4:Pw,(
 ∃abC:Int,Cell zn i (.int .i64 abC)/\
 Ar .i64 r_2 fun z_2=>
 If (decide (abC < z_2)) (
 ∃abD:Int,Cell zn (Addr.mk (n0+3) 0 none) (.int .i64 abD)/\
 If (decide (abD < 0)) (
 J4 zn) (
 J5 zn)) (
 J5 zn))/\∀(_:Env)(FU:Wd),J4 FU->
 an FU (.cells (I5 0 0 0 0 0 0 0).toArray 347) fun K0 Nz=>
 aG pz true (.func (.func 403) #[] #[.pointer (some (Addr.mk (n0+5) 0 none)),.pointer (some (Addr.mk (n0+2) 0 none)),.pointer (some (Addr.mk (n0+3) 0 none)),.pointer (some (Addr.mk n0 0 none))]) [.func (.func 411) #[] #[.pointer (some (Addr.mk (n0+1) 0 none)),.pointer (some i)]] [.one (.sl)] (fun r_3 oQ=>
 aH oQ (Addr.mk K0 0 none) r_3.u fun wA=>
 ∃J3:Pw,(
 ∃J2:Bool->Pw,(
 ∃S:Pw,S (aa wA)/\
 ∃abE:Int,af S (Addr.mk (n0+3) 0 none) (.int .i64 abE)/\
 If (decide (abE < 0)) (
 ∃abF:Int,af S i (.int .i64 abF)/\
 If (decide (abF > 0)) (
 ∃Yv:Sl,af S ((Addr.mk (n0+1) 0 none).add 2) Yv.u/\
 ∃abG:Int,af S i (.int .i64 abG)/\
 Ar .i64 (abG - 1) fun z_3=>
 Ix Yv.a Yv.len z_3 9 fun a=>
 ∃Wc:Sl,af S a Wc.u/\
 ∃Nx:Sl,af S (Addr.mk K0 0 none) Nx.u/\
 cV Wc Nx (aa wA) fun r_4 We=>
 S We/\
 J2 (decide (r_4≥0)) We) (
 J2 false ((aa wA)))) (
 J2 false ((aa wA))))/\∀(_:Env)(t:Bool)(F5:Wd),J2 t F5->
 If t (
 ∃Wf:Value,Cell F5 (Addr.mk (n0+4) 0 none) (Wf)/\
 ∃Wg:Int,Cell F5 (Addr.mk (n0+2) 0 none) (.int .i64 Wg)/\
 ∃zQ:Sl,Cell F5 (Addr.mk K0 0 none) zQ.u/\
 Ar .i64 (Wg - ((zQ.len:Int))) fun z_4=>
 aG pz true Wf [.int .i64 z_4] [] (fun Fu=>
 J3 Fu) cB F5) (
 J3 F5))/\∀(_:Env)(K1:Wd),J3 K1->
 ∃J1:Pw,(
 ∃wz:Int,Cell K1 (Addr.mk (n0+1) 0 none) (.int .u8 wz)/\
 If (wz == 2) (
 aG pz true (.func (.func 406) #[] #[.pointer (some (Addr.mk (n0+3) 0 none)),.pointer (some (Addr.mk (n0+2) 0 none)),.pointer (some (Addr.mk n0 0 none)),.pointer (some (Addr.mk (n0+4) 0 none)),.pointer (some (Addr.mk (n0+5) 0 none)),.pointer (some (Addr.mk (n0+6) 0 none))]) [] [.agg [.one (.int .u32),.one (.int .u64),.one (.int .u16)]] (fun r0 RX RY Kw=>
 List.length (α:=Value) (dZ r0 RX RY)=3/\cr Kw ((Addr.mk K0 0 none).add 6) (dZ r0 RX RY) fun UI=>
 J1 UI) cB K1) (
 ∃BH:Value,Cell K1 (Addr.mk (n0+5) 0 none) (BH)/\
 aG pz true BH [.int .i64 1,.func (.func 413) #[] #[]] [.one (.int .u64)] (fun Yu Wa=>
 If (Yu == 1) (
 ∃Kx:Value,Cell Wa (Addr.mk (n0+5) 0 none) (Kx)/\
 aG pz true Kx [.int .i64 2,.func (.func 414) #[] #[]] [.one (.int .u64)] (fun r_6 w33=>
 Ar .i64 r_6 fun z_5=>
 aH w33 ((Addr.mk K0 0 none).add 2) (.int .i64 z_5) fun w34=>
 aG pz true (.func (.func 406) #[] #[.pointer (some (Addr.mk (n0+3) 0 none)),.pointer (some (Addr.mk (n0+2) 0 none)),.pointer (some (Addr.mk n0 0 none)),.pointer (some (Addr.mk (n0+4) 0 none)),.pointer (some (Addr.mk (n0+5) 0 none)),.pointer (some (Addr.mk (n0+6) 0 none))]) [] [.agg [.one (.int .u32),.one (.int .u64),.one (.int .u16)]] (fun RZ R0 R3 w35=>
 List.length (α:=Value) (dZ RZ R0 R3)=3/\cr w35 ((Addr.mk K0 0 none).add 3) (dZ RZ R0 R3) fun Wb=>
 J1 Wb) cB w34) cB Wa) (
 aG pz true (.func (.func 403) #[] #[.pointer (some (Addr.mk (n0+5) 0 none)),.pointer (some (Addr.mk (n0+2) 0 none)),.pointer (some (Addr.mk (n0+3) 0 none)),.pointer (some (Addr.mk n0 0 none))]) [.func (.func 415) #[] #[]] [.one (.sl)] (fun r_7 Z4=>
 aH Z4 ((Addr.mk K0 0 none).add 1) r_7.u fun w38=>
 J1 w38) cB Wa)) cB K1))/\∀(_:Env)(Ct:Wd),J1 Ct->
 ∃Wi:Sl,Cell Ct ((Addr.mk (n0+1) 0 none).add 2) Wi.u/\
 ∃My:Sl,Cell Ct (Addr.mk K0 0 none) My.u/\
 ∃Mz:Sl,Cell Ct ((Addr.mk K0 0 none).add 1) Mz.u/\
 ∃MA:Int,Cell Ct ((Addr.mk K0 0 none).add 2) (.int .i64 MA)/\
 ∃P3:Int,Cell Ct ((Addr.mk K0 0 none).add 3) (.int .u32 P3)/\
 ∃P4:Int,Cell Ct ((Addr.mk K0 0 none).add 4) (.int .u64 P4)/\
 ∃P5:Int,Cell Ct ((Addr.mk K0 0 none).add 5) (.int .u16 P5)/\
 ∃c_9:Int,Cell Ct ((Addr.mk K0 0 none).add 6) (.int .u32 c_9)/\
 ∃abH:Int,Cell Ct ((Addr.mk K0 0 none).add 7) (.int .u64 abH)/\
 ∃abI:Int,Cell Ct ((Addr.mk K0 0 none).add 8) (.int .u16 abI)/\
 an Ct (.cells (vG My Mz MA P3 P4 P5 c_9 abH abI).toArray 347) fun ad6 UK=>
 aU pz 336 336 Wi (.slice (some (Addr.mk ad6 0 none)) 1 1) (fun s w41=>
 aH w41 ((Addr.mk (n0+1) 0 none).add 2) s.u fun Pe=>
 ∃Wj:Int,Cell Pe i (.int .i64 Wj)/\
 an Pe (.cells [.int .i64 0].toArray 3) fun UL w43=>
 aH w43 (Addr.mk UL 0 none) (.int .i64 Wj) fun w44=>
 ∃Wk:Int,Cell w44 (Addr.mk UL 0 none) (.int .i64 Wk)/\
 Ar .i64 (Wk+1) fun z_6=>
 aH w44 (Addr.mk UL 0 none) (.int .i64 z_6) fun w45=>
 ∃m1,m1 < m0/\I1 m1 (Addr.mk UL 0 none) w45) UK) cB Nz)/\∀(_:Env)(w46:Wd),J5 w46->
 ∃J0:Pw,(
 ∃I0:Nat->Pw,(∃m,I0 m w46)/\∀(_:Env)(abJ:Nat)(Wl:Wd),I0 abJ Wl->
 ∃Wm:Int,Cell Wl (Addr.mk (n0+3) 0 none) (.int .i64 Wm)/\
 If (decide (Wm < 0)) (
 ∃Wn:Int,Cell Wl (Addr.mk (n0+2) 0 none) (.int .i64 Wn)/\
 If (decide (Wn < 224)) (
 ∃Wo:Value,Cell Wl (Addr.mk (n0+5) 0 none) (Wo)/\
 aG pz true Wo [.int .i64 1,.func (.func 416) #[] #[]] [.one (.int .u64)] (fun _r_8 w48=>
 ∃abK,abK < abJ/\I0 abK w48) cB Wl) (
 J0 Wl)) (
 J0 Wl))/\∀(_:Env)(Tm:Wd),J0 Tm->
 ∃Wp:Int,Cell Tm (Addr.mk (n0+3) 0 none) (.int .i64 Wp)/\
 If (decide (Wp≥0)) (
 ∃S:Pw,S (aa Tm)/\
 ∃Wq:Int,af S (Addr.mk (n0+3) 0 none) (.int .i64 Wq)/\
 List.length (α:=Value) (Ap 0 0)=3/\cr (aa Tm) (Addr.mk (n0+1) 0 none) (Ap 0 0) fun w50=>
 S w50/\
 ∃abL:Int,Cell w50 (Addr.mk (n0+1) 0 none) (.int .u8 abL)/\
 ∃abM:Int,Cell w50 ((Addr.mk (n0+1) 0 none).add 1) (.int .u8 abM)/\
 ∃abN:Sl,Cell w50 ((Addr.mk (n0+1) 0 none).add 2) abN.u/\
 K abL abM abN 5 Wq w50) (
 ∃Yw:Int,Cell Tm (Addr.mk (n0+1) 0 none) (.int .u8 Yw)/\
 ∃Yx:Int,Cell Tm ((Addr.mk (n0+1) 0 none).add 1) (.int .u8 Yx)/\
 ∃Yy:Sl,Cell Tm ((Addr.mk (n0+1) 0 none).add 2) Yy.u/\
 List.length (α:=Value) (wN Yw Yx Yy)=3/\cr Tm (Addr.mk (n0+1) 0 none) (wN Yw Yx Yy) fun Ws=>
 ∃abO:Int,Cell Ws (Addr.mk (n0+1) 0 none) (.int .u8 abO)/\
 ∃abP:Int,Cell Ws ((Addr.mk (n0+1) 0 none).add 1) (.int .u8 abP)/\
 ∃abQ:Sl,Cell Ws ((Addr.mk (n0+1) 0 none).add 2) abQ.u/\
 K abO abP abQ 0 0 Ws)) cB rD) cB kQ) cB lK
theorem H0{K:Int->Int->Sl->Int->Int->Pw}(hb:aL w.heap b P)(h8:B8 P)(hl:P.length=224)
  (k:∀lK,iA lK.heap w.heap.size b P 0 0 ⟨none,0,0⟩ 0 (-1)->lK.heap.size=w.heap.size+7->Ext No w lK->NZ w.heap.size lK K):lT b w K:=by
 apply E1;have z_:=aL.len hb
 refine an.mk fun b1 w1 n1=>an.mk fun b2 w2 n2=>⟨_,Cell.ah (aj n1.get n2.ext) rfl,If.bne (fun h=>by omega) fun _=>?_⟩
 refine an.mk fun b3 w4 n4=>an.mk fun b4 w5 n5=>?_
 have EI:=n1.at_;have Cz:=n2.at_;have tq:=n4.at_;have S8:=n5.at_;have z1:=n1.size;have z2:=n2.size;have z4:=n4.size;have z5:=n5.size;refine aH.b1 (aj n4.get n5.ext) rfl fun w6 h6=>aH.b1 (T:=3) (v:= .int .i64 0) (by rw[h6.other (by omega)];exact n5.get) rfl fun w7 h7=>an.mk fun b5 w8 n8=>aH.b1 n8.get rfl fun w9 h9=>an.mk fun b6 gG ji=>aH.b1 ji.get rfl fun hU K2=>an.mk fun b7 mw zA=>aH.b1 zA.get rfl fun lK Z5=>?_
 have Q4:=n8.at_;have J7:=ji.at_;have hb7:=zA.at_;have z6:=h6.size;have z7:=h7.size;have z8:=n8.size;have z9:=h9.size;have Tc:=ji.size;have z11:=K2.size;have X9:=zA.size;have z13:=Z5.size;have x2:Ext No w w2:=n1.ext.no n2.ext;have x5:=(x2.no n4.ext).no n5.ext;have mr:Ext No w lK:=(((((((x5.trans h6.ext fun i hi h=>by omega).trans h7.ext fun i hi h=>by omega).no n8.ext).trans h9.ext fun i hi h=>by omega).no ji.ext).trans K2.ext fun i hi h=>by omega).no zA.ext).trans Z5.ext fun i hi h=>by omega
 have k:=k lK;generalize Vw:w.heap.size=n0 at *;have e1:b1=n0:=by omega
 have e2:b2=n0+1:=by omega
 have e3:b3=n0+2:=by omega
 have e4:b4=n0+3:=by omega
 have e5:b5=n0+4:=by omega
 have e6:b6=n0+5:=by omega
 have e7:b7=n0+6:=by omega
 subst e1 e2 e3 e4 e5 e6 e7;have y13:∀{i:Nat}{o:Obj},i≠b1+6->mw.heap[i]? = some o->lK.heap[i]? = some o:=fun hi ho=>by rw[Z5.other hi];exact ho
 have XX:∀{i:Nat}{o:Obj},i≠b1+5->i≠b1+6->gG.heap[i]? = some o->lK.heap[i]? = some o:=fun hi h6 ho=>y13 h6 (aj (by rw[K2.other hi];exact ho) zA.ext)
 have y9:∀{i:Nat}{o:Obj},i≠b1+4->i≠b1+5->i≠b1+6->w8.heap[i]? = some o->lK.heap[i]? = some o:=fun h4 h5 h6 ho=>XX h5 h6 (aj (by rw[h9.other h4];exact ho) ji.ext)
 have y7:∀{i:Nat}{o:Obj},i < b1+4->w7.heap[i]? = some o->lK.heap[i]? = some o:=fun hi ho=>y9 (by omega) (by omega) (by omega) (aj ho n8.ext)
 have y5:∀{i:Nat}{o:Obj},i < b1+2->w5.heap[i]? = some o->lK.heap[i]? = some o:=fun hi ho=>y7 (by omega) (by rw[h7.other (by omega),h6.other (by omega)];exact ho)
 refine k ⟨y5 (by omega) (aj n1.get ((n2.ext.no n4.ext).no n5.ext)),y5 (by omega) (aj n2.get (n4.ext.no n5.ext)),y7 (by omega) ?_,y7 (by omega) ?_,?_,?_,?_,Rd.no hb mr,fun i hi dz=>?_,h8,hl⟩ (by omega) mr
 .rw[h7.other (by omega)];exact h6.get (aj n4.get n5.ext)
 .exact h7.get (by rw[h6.other (by omega)];exact n5.get)
 .exact XX (by omega) (by omega) (aj (h9.get n8.get) ji.ext)
 .exact y13 (by omega) (aj (K2.get ji.get) zA.ext)
 .exact Z5.get zA.get
 .obtain⟨bb,o,ha,hc⟩:=Rd.at_ hb (by simpa using dz);have:i=bb:=by simp[Sl.au,ha]at hi;exact hi.symm
  subst this;have:=nK (hc 0 (by simp;omega));omega
end
section
variable {w:Wd} {n0:Nat} {b:Sl} {P:List Int} {kind lev:Int} {ls:Sl} {place fault:Int}
structure ad7(w0:Wd)(n0:Nat)(b:Sl)(P:List Int)(kind lev:Int)(l:List lU)(j:Nat)(bi:Nat)(w:Wd)(ls:Sl)(L:List (eA×lU)):Prop where
 d:iA w.heap n0 b P kind lev ls ((([kind,lev,(l.length % 256:Int)]++(l.take j).flatMap (wrE kind)).length:Nat):Int) (-1)
 nd:zP w.heap (n0+7) ls L
 el:ki L=l.take j
 hi:w.heap[bi]? = some (.cells [.int .i64 (j:Int)].toArray 3 (0,0))
 lo:n0+7<=bi
 ne:ls.au≠some bi
 x:Ext No w0 w
set_option maxHeartbeats 4000000 in
theorem Pf{l:List lU}{K:Int->Int->Sl->Int->Int->Pw}(hb:aL w.heap b (pad (wr kind lev l)))(hr:qh kind lev l)(hs:(wr kind lev l).length<=224)(h8:B8 (pad (wr kind lev l)))(Bo:∀e∈l,e.ch.ok/\e.cd.ok)
  (k:∀s L w',zP w'.heap w.heap.size s L->ki L=l->Ext No w w'->K kind lev s 0 0 w'):lT b w K:=by
 have aas:=R5 hs;have hPl:(pad (wr kind lev l)).length=224:=NX hs;refine H0 hb h8 hPl fun lK d13 z13 mr=>?_
 have zm:(kind=1/\lev=0)∨(kind=2/\1<=lev/\lev<=30):=hr.shape;generalize Vw:w.heap.size=n0 at *;have afw:((l.length:Int) % 256)=l.length:=by omega
 have hP0:pad (wr kind lev l)=[kind,lev,((l.length:Int) % 256)]++(l.flatMap (wrE kind)++List.replicate (224 - (wr kind lev l).length) 0):=by simp[pad,wr]
 have Xh:=fun i (hi:i < l.length)=>Yt (kind:=kind) (lev:=lev) hi
 generalize hP:pad (wr kind lev l)=P at *;unfold NZ;have qQ:∀{a c:Wd}{S:Nat->Prop},Ext No w a->Ext S a c->(∀i,S i->n0<=i)->Ext No w c:=fun x y h=>x.trans y fun i hi hS=>by have:=h i hS;omega
 -- the kind
 refine⟨_,Cell.ah d13.c6 rfl,kj (pre:=[]) (x:=[kind]) (suf:=[lev,((l.length:Int) % 256)]++(l.flatMap (wrE kind)++List.replicate (224 - (wr kind lev l).length) 0)) d13 (by rw[hP0];rfl) rfl (by decide) (by decide) (fun K' hK=>BW (BV ?_)) fun pY d14 mJ z14=>?_⟩
 .have e:num [kind]=kind:=by simp[num]
  unfold tg;rw[e];refine If.beq (fun _=>hK) fun h=>?_
  rw[show(kind == 2)=true by simp;omega];exact hK
 have e:num [kind]=kind:=by simp[num]
 rw[e];refine Ar.u8 (by omega) (aH.mk d14.c2 (by simp) rfl fun kQ Tk=>?_);have d15:iA kQ.heap n0 b P kind 0 ⟨none,0,0⟩ ((([kind]:List Int).length:Nat):Int) (-1):=d14.setNode Tk;have gH:=qQ (qQ mr mJ fun i h=>by omega) Tk.ext fun i h=>by have h:i=n0+1:=h;omega
 -- the level
 have e:num [lev]=lev:=by simp[num]
 refine⟨_,Cell.ah d15.c6 rfl,kj (x:=[lev]) (suf:=[((l.length:Int) % 256)]++(l.flatMap (wrE kind)++List.replicate (224 - (wr kind lev l).length) 0)) d15 (by rw[hP0];rfl) rfl (by decide) (by decide) (fun K' hK=>BU (BT ?_)) fun ua d16 ub z16=>?_⟩
 .rw[e];refine⟨_,Cell.ah d15.c2 rfl,Ar.u8 (by omega) (Ep ?_)⟩;rw[decide_eq_true hr.shape];exact hK
 rw[e];refine Ar.u8 (by omega) (aH.mk d16.c2 (by simp) rfl fun rD h17=>?_);have d17:iA rD.heap n0 b P kind lev ⟨none,0,0⟩ ((([kind,lev]:List Int).length:Nat):Int) (-1):=d16.setNode h17;have zq:=qQ (qQ gH ub fun i h=>by omega) h17.ext fun i h=>by have h:i=n0+1:=h;omega
 -- how many
 have e:num [((l.length:Int) % 256)]=l.length:=by simp[num];omega
 refine⟨_,Cell.ah d17.c6 rfl,kj (x:=[((l.length:Int) % 256)]) (suf:=l.flatMap (wrE kind)++List.replicate (224 - (wr kind lev l).length) 0) d17 (by rw[hP0];rfl) rfl (by decide) (by decide) (fun K' hK=>BS (BR ?_)) fun Q6 d18 zt z18=>?_⟩
 .rw[e]
  refine If.dec (fun _=>hK) fun h=>⟨_,Cell.ah d17.c2 rfl,?_⟩
  have:kind≠2:=fun h2=>hr.some h2 (List.eq_nil_of_length_eq_zero (by omega))
  rw[show(kind == 1)=true by simp;omega];exact hK
 rw[e];have ad8:=qQ zq zt fun i h=>by omega
 have afx:Q6.heap.size=n0+7:=by have:=Tk.size;have:=h17.size;omega
 refine⟨fun w'=>∃s L,zP w'.heap (n0+7) s L/\ki L=l/\Ext No w w'/\iA w'.heap n0 b P kind lev s ((wr kind lev l).length:Nat) (-1),?_,?_⟩
 .refine an.mk fun b8 XR Z6=>aH.b1 Z6.get rfl fun XS UM=>?_
  have z19:=Z6.size;have z20:=UM.size;have Rt:=Z6.at_;refine⟨fun m i w'=>∃j bi ls L,i=A1 bi/\j<=l.length/\m=l.length - j/\ad7 w n0 b P kind lev l j bi w' ls L,⟨l.length,0,b8,⟨none,0,0⟩,[],rfl,by omega,by omega,?_,zP.nil _ _,by simp,UM.get Z6.get,by omega,by simp[Sl.au],qQ (ad8.no Z6.ext) UM.ext fun i h=>by omega⟩,?_⟩
  .have:=(d18.no Z6.ext).ext UM.ext fun i hi h=>by omega
   simpa using this
  rintro _ m0 i zn ⟨j,bi,ls,L,rfl,hj,hm,D⟩;refine⟨fun w'=>w'=zn/\j < l.length,?_,?_⟩
  .refine⟨_,Cell.ah D.hi rfl,Ar.i64 (by omega) (If.dec (fun h=>⟨_,Cell.ah D.d.c4 rfl,If.dec (fun _=>⟨rfl,by omega⟩) fun h=>by omega⟩) fun h=>?_)⟩;have yd:j=l.length:=by omega
   refine⟨ls,L,D.nd,by rw[D.el,yd,List.take_length],D.x,?_⟩;have:=D.d;rw[yd,List.take_length]at this;exact this
  rintro _ FU ⟨rfl,yd⟩;have hcj:=Xh j yd;generalize Pg:[kind,lev,((l.length:Int) % 256)]++(l.take j).flatMap (wrE kind)=pre at *;generalize afy:(l.drop (j+1)).flatMap (wrE kind)++List.replicate (224 - (wr kind lev l).length) 0=suf at *;have Ub:=hr.NW j yd;have hoe:=Bo _ (List.getElem_mem yd);generalize ZU:l[j]=e at *
  have afz:e.key.length<=32:=by
   have:=Ub.1;unfold Cr at this;split at this <;> omega
  have ek:((e.key.length:Int) % 256)=e.key.length:=by omega
  have dd:=D.d;rw[Pg]at dd;have hbi:=blt D.hi;refine an.mk fun b9 Nz H2=>?_
  have Z3:=H2.at_;have z23:=H2.size;have d23:=dd.no H2.ext;have abR:=aj D.hi H2.ext;have hPk:P=pre++(((e.key.length:Int))::e.key++(restB kind e++suf)):=by rw[hcj,RW,ek];simp
  have h8k:B8 e.key:=h8.sub fun y hy=>by rw[hPk];simp[hy]
  have h8r:B8 (restB kind e):=h8.sub fun y hy=>by rw[hPk];simp[hy]
  refine NY (x:=e.key) (suf:=restB kind e++suf) d23 hPk (by have:=D.lo;omega) rfl (fun w' K' x' hK=>BQ (BP ?_)) fun r3 oQ d24 o24 oz=>?_
  .refine⟨_,Cell.ah (aj d23.c2 x') rfl,_,Cell.ah (aj abR x') rfl,Ar.i64 (by omega) (Kq ?_)⟩;rw[decide_eq_true Ub.1];exact hK
  have lo:=D.lo;have g24:=aw H2.get oz (by omega);refine aH.mk g24 (by simp) rfl fun wA MS=>?_
  have Yz:wA.heap[b9]? = some (.cells (eA.cs ⟨r3,⟨none,0,0⟩,0,.z,.z⟩).toArray 347 (0,0)):=MS.get g24;have nD:Ext (·=b9) oQ wA:=MS.ext;have z25:wA.heap.size=oQ.heap.size:=MS.size;have s24:=oz.size
  have d25:iA wA.heap n0 b P kind lev ls ((pre++((e.key.length:Int)::e.key)).length:Nat) (-1):=by
   have e5:(((pre++((e.key.length:Int)::e.key)).length:Nat):Int)=(pre.length:Int)+1+e.key.length:=by simp;omega
   rw[e5];exact d24.ext nD fun q hq h=>by omega
  have o25:aD wA.heap Nz.heap.size r3 e.key:=o24.ext nD fun q hq h=>by have:=(o24.lt hq).1;omega
  have YA:Ext (fun q=>q=n0+2∨q=b9) FU wA:=((H2.ext.aF).trans (oz.mono fun _ _ h=> .inl h) fun _ _ h=>h).trans nD fun _ _ h=> .inr h
  have YB:zP wA.heap (n0+7) ls L:=D.nd.ext YA fun q h1 h2 h=>by omega
  have abS:=aw D.hi YA (by omega);refine⟨fun w'=>w'=aa wA,⟨fun t w'=>t=false/\w'=aa wA,?_,?_⟩,?_⟩
  .refine⟨Ext No wA,(Ext.refl _ _).drew,_,af.cell (Cell.ah d25.c4 rfl),If.dec (fun _=>⟨_,af.cell (Cell.ah abS rfl),If.dec (fun h0=>?_) fun _=>⟨rfl,rfl⟩⟩) fun _=>⟨rfl,rfl⟩⟩;have hLl:L.length=j:=by have:=congrArg List.length D.el;simp only[List.length_map,List.length_take]at this;omega
   have nl:=YB.nd.len;refine⟨_,af.cell (Cell.ah d25.c2 rfl),_,af.cell (Cell.ah abS rfl),Ar.i64 (by omega) (Ix.elem YB.own.rd (vA L) (by decide) (by omega) (by omega) fun b2 o2 Hv _ hc=>⟨_,af.cell (hc 0 _ rfl),_,af.cell (Cell.ah Yz rfl),?_⟩)⟩;have e2:((j:Int) - 1).toNat=j - 1:=by omega
   simp only[e2]at Hv ⊢;have ea:=YB.nd.get Hv
   have KZ:L[j - 1].2=l[j - 1]:=by
    have:(ki L)[j - 1]? = (l.take j)[j - 1]?:=by rw[D.el]
    rw[List.getElem?_map,List.getElem?_eq_getElem Hv,List.getElem?_take_of_lt (by omega),List.getElem?_eq_getElem (by omega)]at this;simpa using this
   refine zN (w:=aa wA) ea.k o25.rd ea.k8 h8k ⟨(Ext.refl _ _).drew,decide_eq_false fun hc=>?_,rfl⟩;have:=hr.ord (j - 1) (by omega);simp only[show j - 1+1=j by omega]at this;rw[KZ]at hc;exact HZ.1 hc (by rw[<- ZU];exact this)
  .rintro _ t F5 ⟨rfl,rfl⟩;exact If.no rfl
  rintro _ K1 rfl;refine⟨fun w'=>∃x,Got w' n0 b9 wA.heap.size r3 e x/\iA w'.heap n0 b P kind lev ls (pre.length+(wrE kind e).length) (-1)/\Ext (fun q=>q=n0+2∨q=b9) wA w',?_,?_⟩
  .refine UH (w:=aa wA) (pre:=pre++((e.key.length:Int)::e.key)) (suf:=suf) d25 (by rw[hPk];simp) (by omega) Yz Ub hoe.1 hoe.2 fun w' x gx dx xx=>⟨x,gx,?_,xx.ae⟩
   have e5:(((pre++((e.key.length:Int)::e.key)).length:Nat):Int)+((restB kind e).length:Nat)=(pre.length:Int)+((wrE kind e).length:Nat):=by rw[RW];simp;omega
   rw[<- e5];exact dx
  rintro _ Ct ⟨x,gx,d39,Tn⟩;have s39:=Tn.size;refine⟨_,Cell.ah d39.c2 rfl,vi gx.au (an.mk fun b10 UK UN=>?_)⟩;have R6:Ext (fun q=>q=n0+2∨q=b9) FU Ct:=YA.trans Tn fun _ _ h=>h
  have R7:zP UK.heap (n0+7) ls L:=(D.nd.ext R6 fun q h1 h2 h=>by omega).no UN.ext;have d40:=d39.no UN.ext;have ad9:=aj (aw D.hi R6 (by omega)) UN.ext;have z40:=UN.size;have oe:aP UK.heap Ct.heap.size 347 9 ⟨some ⟨b10,0,none⟩,1,1⟩ x.cs:=aP.new (n:=1) (sz:=9) UN rfl (by intro v hv;unfold eA.cs at hv;simp only[List.mem_cons,List.not_mem_nil,or_false]at hv;rcases hv with h | h | h | h | h | h | h | h | h <;> subst h <;> rfl);have nl:=R7.nd.len;have hLl:L.length=j:=by have:=congrArg List.length D.el;simp only[List.length_map,List.length_take]at this;omega
  have o39:aD Ct.heap Nz.heap.size r3 e.key:=o25.ext Tn fun q hq h=>by have:=(o25.lt hq).1;omega
  have kb:∀q,x.k.au=some q->n0+7<=q/\q < UK.heap.size/\ls.au≠some q:=fun q hq=>by
   rw[gx.k]at hq;have:=o39.lt hq;refine⟨by omega,by omega,fun Tl=>?_⟩;have:=(D.nd.own.lt Tl).2;omega
  have vb:∀q,x.v.au=some q->n0+7<=q/\q < UK.heap.size/\ls.au≠some q:=fun q hq=>by
   have:=gx.vb q hq;refine⟨by omega,by omega,fun Tl=>?_⟩;have:=(D.nd.own.lt Tl).2;omega
  have er:Bf UK.heap x e:=by
   refine⟨by rw[gx.k];exact o39.rd.no UN.ext,gx.v.no UN.ext,gx.n,gx.ch,gx.cd,h8k,?_,?_,hoe.1,hoe.2⟩
   .intro y hy;refine h8r y ?_;have uc:=Ub.2;unfold restB;split at uc
    .rw[List.eq_nil_of_length_eq_zero uc.2.2.1]at hy;cases hy
    .rename_i h2;rw[if_neg h2];obtain⟨_,uc⟩:=uc;split at uc
     .rw[if_neg (by omega)];simp[hy]
     .rw[List.eq_nil_of_length_eq_zero uc.2.2.2]at hy;cases hy
   .have uc:=Ub.2;split at uc
    .omega
    .obtain⟨_,uc⟩:=uc;split at uc <;> omega
  refine EX R7.own (by omega) oe.rd.src (by simp only;omega) fun s41 w41 o41 _ x41 z_=>?_
  have aea:zP w41.heap (n0+7) s41 (L++[(x,e)]):=zP.push (p:=(x,e)) R7 o41 x41 z_ er kb vb;have afA:=x41.size;have d41:=d40.ext x41 fun q hq h=>by have:=(R7.own.lt h).1;omega
  have aeb:=aw ad9 x41 D.ne;refine aH.mk d41.c2 (by simp) rfl fun Pe h42=>?_
  have d42:iA Pe.heap n0 b P kind lev s41 (pre.length+(wrE kind e).length) (-1):=d41.setNode h42;have YC:Ext (·=n0+1) w41 Pe:=h42.ext;have z42:Pe.heap.size=w41.heap.size:=h42.size;have abT:zP Pe.heap (n0+7) s41 (L++[(x,e)]):=aea.ext YC fun q h1 h2 h=>by omega
  have aec:=aw aeb YC (by omega);refine⟨_,Cell.ah aec rfl,an.mk fun b11 w43 YD=>aH.b1 YD.get rfl fun w44 F6=>⟨_,Cell.ah (F6.get YD.get) rfl,Ar.i64 (by omega) (aH.b1 (F6.get YD.get) rfl fun w45 P6=>?_)⟩⟩;have afB:=YD.at_;have z43:=YD.size;have z44:=F6.size;have z45:=P6.size;have xf:Ext (·=b11) Pe w45:=((YD.ext.aF).trans F6.ext fun _ _ h=>h).trans P6.ext fun _ _ h=>h
  have afC:=UN.ext.size;refine⟨l.length - (j+1),by omega,j+1,b11,s41,L++[(x,e)],rfl,by omega,rfl,?_,abT.ext xf (fun q h1 h2 h=>by omega),?_,?_,by omega,fun h=>?_,?_⟩
  .have e6:(([kind,lev,((l.length:Int) % 256)]++(l.take (j+1)).flatMap (wrE kind)).length:Nat)=pre.length+(wrE kind e).length:=by
    rw[List.take_add_one,List.getElem?_eq_getElem yd,ZU,<- Pg];simp;omega
   rw[e6];have:=d42.ext xf fun q hq h=>by omega
   simpa using this
  .show List.map Prod.snd (L++[(x,e)])=_;rw[List.map_append,show List.map Prod.snd L=List.take j l from D.el,List.take_add_one,List.getElem?_eq_getElem yd,ZU];rfl
  .exact P6.get (F6.get YD.get)
  .have:=(abT.own.lt h).2;omega
  .refine qQ (qQ (qQ ((qQ D.x R6 fun q h=>by omega).no UN.ext) x41 fun q h=>?_) YC fun q h=>by omega) xf fun q h=>by omega
   have:=(R7.own.lt h).1;omega
 .rintro _ w46 ⟨s,L,nd,el,yf,d46⟩;refine⟨fun w'=>zP w'.heap (n0+7) s L/\Ext No w w'/\iA w'.heap n0 b P kind lev s 224 (-1),?_,?_⟩
  .refine⟨fun m w'=>∃i:Nat,m=224 - ((wr kind lev l).length+i)/\(wr kind lev l).length+i<=224/\zP w'.heap (n0+7) s L/\Ext No w w'/\iA w'.heap n0 b P kind lev s (((wr kind lev l++List.replicate i 0).length:Nat):Int) (-1),⟨_,0,rfl,by omega,nd,yf,by simpa using d46⟩,?_⟩;rintro _ m0 Wl ⟨i,rfl,hi,abU,x47,d47⟩;refine⟨_,Cell.ah d47.c4 rfl,If.dec (fun _=>⟨_,Cell.ah d47.c3 rfl,If.dec (fun h=>⟨_,Cell.ah d47.c6 rfl,?_⟩) fun h=>?_⟩) fun h=>by omega⟩
   .simp only[List.length_append,List.length_replicate]at h
    have hPi:P=(wr kind lev l++List.replicate i 0)++([0]++List.replicate (224 - (wr kind lev l).length - i - 1) 0):=by
     rw[<- hP];unfold pad;rw[List.append_assoc];congr 1;rw[<- List.replicate_one,List.replicate_append_replicate,List.replicate_append_replicate];congr 1;omega
    refine kj (x:=[0]) d47 hPi rfl (by decide) (by decide) (fun K' hK=>Ax (Aw hK)) fun w48 d48 P8 z48=>?_
    refine⟨224 - ((wr kind lev l).length+(i+1)),by omega,i+1,rfl,by omega,abU.ext P8 (fun q h1 h2 h=>by omega),qQ x47 P8 fun q h=>by omega,?_⟩;have e6:(((wr kind lev l++List.replicate i 0).length:Nat):Int)+1=((wr kind lev l++List.replicate (i+1) 0).length:Nat):=by simp;omega
    rw[<- e6];exact d48
   .have e6:(((wr kind lev l++List.replicate i 0).length:Nat):Int)=224:=by
     simp only[List.length_append,List.length_replicate]at h ⊢;omega
    rw[e6]at d47;exact⟨abU,x47,d47⟩
  rintro _ Tm ⟨aed,x49,d49⟩;refine⟨_,Cell.ah d49.c4 rfl,If.dec (fun h=>by omega) fun _=>⟨_,Cell.ah d49.c2 rfl,_,Cell.ah d49.c2 rfl,_,Cell.ah d49.c2 rfl,rfl,_,_,_,d49.c2,rfl,by simp,.inr (.inr (Nat.le_refl _)),?_,fun Ws h51=>?_⟩⟩
  .intro v hv;simp only[List.mem_cons,List.not_mem_nil,or_false]at hv;rcases hv with h | h | h <;> subst h <;> rfl
  have g51:Ws.heap[n0+1]? = some (.cells [.int .u8 kind,.int .u8 lev,.slice s.a s.len s.cap].toArray 338 (0,0)):=nI.get (b:=n0+1) h51 d49.c2;have x51:Ext (·=n0+1) Tm Ws:=nI.ext (b:=n0+1) h51;refine⟨_,Cell.ah g51 rfl,_,Cell.ah g51 rfl,_,Cell.ah g51 rfl,k s L Ws ((aed.ext x51 fun q h1 h2 h=>by omega).mono (by omega)) el (qQ x49 x51 fun q h=>by omega)⟩
end
end Go.Proofs.YtefdekemmnnclaaGreat
namespace Go.Proofs.YtefdekemmnnclaaGreat
open Go.V Go.V.Dk Go.V.Rn
section
variable {w w':Wd} {T T':Nat->Nat} {s:SA}
abbrev SA.src(s:SA):Value:= .iface 83 (.pointer s.p)
structure F7(k:KP)(l:List lU):Prop where
 kd:k.l.kd=1
 lv:k.l.lv=0
 pg:k.l.pg=k.n
 n:2<=k.n/\k.n < 100
 right:qh 1 0 l
 short:(wr 1 0 l).length<=224
 ok:∀e∈l,e.ch.ok/\e.cd.ok
 ne:l≠[]
 pay:k.b=pad (wr 1 0 l)
set_option maxHeartbeats 1000000 in
theorem UO{k:KP}{l:List lU}{K:Int->Int->Sl->Int->Pw}(y:Sy w T s)(hk:mG k.n (s.ps.map KP.e)=some k.v)(hm:k∈s.ps)(hl:F7 k l)
  (kk:∀sl L w',zP w'.heap w.heap.size sl L->ki L=l->Ext No w w'->K 1 0 sl 0 w'):jR s.src k.l.t k.l.pg k.l.cm k.l.gn 0 w K:=by
 apply yR;refine fun b w1 n1 b1 w2 n2 b2 w3 n3=>?_
 have x3:Ext No w w3:=(n1.ext.no n2.ext).no n3.ext;have z1:=n1.size;have z2:=n2.size;have a3:=n3.at_;have g0:=aj (aj n1.get n2.ext) n3.ext;have g1:=aj n2.get n3.ext;have y3:=y.no x3;refine⟨fun kd u=>1=kd/\w3=u,⟨0,Cell.ah g1 rfl,If.beq (fun _=>⟨rfl,rfl⟩) fun h=>absurd rfl h⟩,?_⟩;rintro _ _ _ ⟨rfl,rfl⟩;refine⟨_,Cell.ah g0 rfl,k.l.t,Cell.ah g0 rfl,0,Cell.ah g1 rfl,k.l.pg,Cell.ah g1 rfl,k.l.cm,Cell.ah g1 rfl,k.l.gn,Cell.ah g1 rfl,zi ?_⟩;have R8:=RM (K:=?_) y3 hk hm hl.n hl.pg ⟨by rw[hl.kd];decide,by rw[hl.kd];decide⟩ ?_;rw[hl.kd,hl.lv]at R8
 .exact R8
 intro sl w4 o4 x4;rw[hl.pay]at o4;have h8:=(y3.kn.p k hm).2.2.1;rw[hl.pay]at h8;refine If.bne (fun h=>absurd rfl h) fun _=>Pf o4.rd hl.right hl.short h8 hl.ok fun sl5 L w5 d5 hL x5=>?_
 refine jy rfl rfl (cF rfl) fun w6 g6 z6 x6=>If.bne (fun h=>absurd rfl h) fun _=>?_
 have Mp:Ext No w3 w6:=(x4.no x5).no x6;have hlen:sl5.len=L.length:=d5.nd.len;have dz:L.length≠0:=fun e=>hl.ne (by rw[<- hL,List.length_eq_zero_iff.1 e];rfl)
 refine⟨_,Cell.ah g6 rfl,If.bne (fun h=>absurd rfl h) fun _=>⟨_,Cell.ah g6 rfl,_,Cell.ah (aj g1 Mp) rfl,If.bne (fun h=>absurd rfl h) fun _=>⟨sl5,Cell.ah g6 rfl,If.beq (fun h=>by omega) fun _=>⟨_,Cell.ah g6 rfl,_,Cell.ah g6 rfl,sl5,Cell.ah g6 rfl,rfl,cr.mk (aj n3.get Mp) (Nat.le_refl 3) (cF rfl) fun w7 h7=>?_⟩⟩⟩⟩;have g7:=h7.get (aj n3.get Mp);have z36:=x3.size;have zz:=x4.size;have z45:=x5.size;have x7:Ext No w w7:=(x3.no Mp).out h7.ext (by omega);refine⟨_,Cell.ah g7 rfl,_,Cell.ah g7 rfl,sl5,Cell.ah g7 rfl,kk sl5 L w7 ?_ hL x7⟩;have PZ:Ext (·=b2) w5 w7:=x6.aF.trans h7.ext fun i _ h=>h
 have Cz:b2 < w4.heap.size:=by have:=aV n3.get;omega
 refine(d5.ext PZ fun i hi e=>by omega).mono (by omega)
theorem YE{g:Value}{t:Int}{PT:Value}{K:Int->Pw}(k:∀w',Ext No w w'->K 0 w'):iX g t 0 0 0 PT w K:=by
 apply xe
 refine fun b w1 n1 b1 w2 n2=>⟨fun _ _ u=>w2=u,⟨0,rfl⟩,?_⟩
 rintro _ _ _ _ rfl;refine⟨0,Cell.ah n2.get rfl,0,Cell.ah n2.get rfl,0,Cell.ah n2.get rfl,If.no (k w2 (n1.ext.no n2.ext))⟩
abbrev gI.c(l:gI):List Value:=[.int .u32 l.t,.int .u8 l.kd,.int .u8 l.lv,.int .u32 l.pg,.int .u64 l.cm,.int .u16 l.gn]
theorem Ph{l:gI}{bs:Nat}{K:Pw}(g:w.heap[bs]? = some (.cells [Value.slice none 0 0].toArray 55 (0,0)))
  (k:∀s w',w'.heap[bs]? = some (.cells [s.v].toArray 55 (0,0))->aP w'.heap w.heap.size 31 6 s l.c->Ext (·=bs) w w'->K w'):mH l.t l.kd l.lv l.pg l.cm l.gn ⟨bs,0,none⟩ w K:=by
 apply BN
 refine fun b w1 n1=>⟨⟨none,0,0⟩,Cell.ah (aj g n1.ext) rfl,_,Cell.ah n1.get rfl,_,Cell.ah n1.get rfl,_,Cell.ah n1.get rfl,_,Cell.ah n1.get rfl,_,Cell.ah n1.get rfl,_,Cell.ah n1.get rfl,?_⟩
 refine wm (cs:=[]) (xs:=l.c) (aP.nil _ _ _ _) (Nat.le_refl _) rfl (cF rfl) (Nat.zero_le _) fun s2 w2 o2 l2 x2 Ui=>?_
 have gV:Ext No w1 w2:=x2.mono fun _ _ h=>nomatch h
 have g2:=aj (aj g n1.ext) gV;refine aH.mk g2 (by decide) rfl fun w3 h3=>k s2 w3 (h3.get g2) ?_ ((n1.ext.no gV).aF.trans h3.ext fun i _ h=>h)
 have z1:=n1.ext.size;exact(o2.ext h3.ext fun i hi e=>by have:=(o2.lt hi).1;have:=aV g;omega).mono z1
set_option maxHeartbeats 1000000 in
theorem Pj{k:KP}{e:lU}{bs:Nat}{K:Int->Pw}(y:Sy w T s)(hk:mG k.n (s.ps.map KP.e)=some k.v)(hm:k∈s.ps)(hl:F7 k [e])(hch:e.ch = .z)(g:w.heap[bs]? = some (.cells [Value.slice none 0 0].toArray 55 (0,0)))
  (kk:∀sl w',w'.heap[bs]? = some (.cells [sl.v].toArray 55 (0,0))->aP w'.heap w.heap.size 31 6 sl k.l.c->Ext (·=bs) w w'->K 0 w'):gz s.src k.l.t k.l.pg k.l.cm k.l.gn 0 (.func (.func 178) #[] #[.pointer (some ⟨bs,0,none⟩)]) w K:=by
 apply px
 refine fun b w1 n1 b1 w2 n2=>⟨rfl,fun b2 w3 n3=>?_⟩
 have x3:Ext No w w3:=(n1.ext.no n2.ext).no n3.ext;have z1:=n1.size;have z2:=n2.size;have z3:=n3.size;have a1:=n1.at_;have a2:=n2.at_;have a3:=n3.at_;have g0:=aj (aj n1.get n2.ext) n3.ext;have g1:=aj n2.get n3.ext;have y3:=y.no x3;have XD:=aV g;have hn:=hl.n;have hpg:=hl.pg;refine⟨k.l.pg,Cell.ah g1 rfl,k.l.cm,Cell.ah g1 rfl,k.l.gn,Cell.ah g1 rfl,0,Cell.ah g1 rfl,If.cases (fun h=>?_) fun _=>?_⟩
 .simp only[Bool.and_eq_true,beq_iff_eq]at h;omega
 refine⟨_,Cell.ah g0 rfl,k.l.t,Cell.ah g0 rfl,_,Cell.ah g1 rfl,_,Cell.ah g1 rfl,_,Cell.ah g1 rfl,_,Cell.ah g1 rfl,UO y3 hk hm hl fun sl L w4 d4 hL x4=>?_⟩;refine jy rfl rfl (cF rfl) fun w6 g6 z6 x6=>If.bne (fun h=>absurd rfl h) fun _=>?_
 have yf:Ext No w3 w6:=x4.no x6;have wk:=x3.no yf;refine⟨_,Cell.ah (aj n3.get yf) rfl,_,Cell.ah (aj g0 yf) rfl,1,Cell.ah g6 rfl,0,Cell.ah (aj g1 yf) rfl,_,Cell.ah (aj g1 yf) rfl,_,Cell.ah (aj g1 yf) rfl,_,Cell.ah (aj g1 yf) rfl,BO ?_⟩;have abV:=Ph (K:=?_) (l:=k.l) (aj g wk) ?_;rw[hl.kd,hl.lv]at abV
 .exact abV
 intro sl7 w7 g7 o7 x7;have zz6:=wk.size;have l3:=aV n3.get;have z36:=yf.size;have g67:w7.heap[w4.heap.size]? = _:=aw g6 x7 (by have:=x4.size;omega);have d7:zP w7.heap w3.heap.size sl L:=(d4.no x6).ext x7 fun i hi e=>by omega
 refine⟨sl,Cell.ah g67 rfl,?_⟩
 obtain⟨p,rfl⟩ : ∃p,L=[p]:=by
  have:=congrArg List.length hL
  match L,this with
  | [p],_=>exact⟨p,rfl⟩
  | [],h=>simp at h
  | _::_::_,h=>simp at h
 have Ub:p.2=e:=by simpa[ki] using hL
 have hz:p.1.ch = .z:=by rw[(d7.nd.NW p (List.mem_singleton.2 rfl)).ch,Ub];exact hch
 obtain⟨⟨xk,xv,xn,xch,xcd⟩,e1⟩:=p;simp only at hz;subst hz;have YF:w7.heap[b]? = some (.cells [s.src,.int .u32 k.l.t].toArray 249 (0,0)):=aw (aj g0 yf) x7 (by omega);have g17:w7.heap[b1]? = some (.cells [Value.int .u32 k.l.pg,.int .u64 k.l.cm,.int .u16 k.l.gn,.int .u8 0].toArray 85 (0,0)):=aw (aj g1 yf) x7 (by omega);have hlen:sl.len=1:=d7.nd.len;have fin:∀u,Ext No w7 u->K 0 u:=fun u x=>kk sl7 u (aj g7 x) ((o7.no x).mono zz6) ((wk.aF.trans x7 fun i _ h=>h).trans x.aF fun i _ h=>h)
 refine⟨fun n t u=>(n=1/\t=0/\w7=u)∨(n=0/\t=1/\Ext No w7 u),⟨1,.inl ⟨rfl,rfl,rfl⟩⟩,?_⟩;rintro _ n t u (⟨rfl,rfl,rfl⟩ | ⟨rfl,rfl,x8⟩)
 .refine If.dec (fun _=>?_) fun h=>absurd (by omega) h
  refine Er d7.nd.rd (by decide) (by omega) fun b9 w9 hi g9 e9 z9 x9=>?_
  exact⟨0,Cell.ah (aj g17 x9) rfl,If.dec (fun h=>absurd h (by decide)) fun _=>⟨_,Cell.ah (aj YF x9) rfl,k.l.t,Cell.ah (aj YF x9) rfl,0,Cell.ah g9 rfl,0,Cell.ah g9 rfl,0,Cell.ah g9 rfl,YE fun gG fo=>If.bne (fun h=>absurd rfl h) fun _=>Ar.i64 (by decide) ⟨0,by decide,.inr ⟨rfl,rfl,x9.no fo⟩⟩⟩⟩
 .exact If.dec (fun h=>absurd h (by omega)) fun _=>fin u x8
theorem Ky{k:KP}{e:lU}{K:Sl->Int->Pw}(y:Sy w T s)(hk:mG k.n (s.ps.map KP.e)=some k.v)(hm:k∈s.ps)(hl:F7 k [e])(hch:e.ch = .z)
  (kk:∀sl w',aP w'.heap w.heap.size 31 6 sl k.l.c->Ext No w w'->K sl 0 w'):fe s.src k.l.t k.l.pg k.l.cm k.l.gn 0 w K:=by
 apply wj
 refine fun b w1 n1=>⟨trivial,If.no fun b1 w2 n2=>⟨rfl,_,Cell.ah (aj n1.get n2.ext) rfl,_,Cell.ah (aj n1.get n2.ext) rfl,_,Cell.ah (aj n1.get n2.ext) rfl,_,Cell.ah (aj n1.get n2.ext) rfl,?_⟩⟩
 have x2:=n1.ext.no n2.ext;have a2:=n2.at_;have z1:=n1.size;have z2:=n2.size
 refine Pj (y.no x2) hk hm hl hch n2.get fun sl w3 g3 o3 x3=>If.bne (fun h=>absurd rfl h) fun _=>⟨sl,Cell.ah g3 rfl,kk sl w3 (o3.mono x2.size) (x2.out x3 (by omega))⟩
theorem N0{t:Int}{K:Sl->Int->Pw}(k:∀w',Ext No w w'->K ⟨none,0,0⟩ 0 w'):fe s.src t 0 0 0 0 w K:=by
 apply wj
 refine fun b w1 n1=>⟨trivial,If.no fun b1 w2 n2=>⟨rfl,0,Cell.ah (aj n1.get n2.ext) rfl,0,Cell.ah (aj n1.get n2.ext) rfl,0,Cell.ah (aj n1.get n2.ext) rfl,0,Cell.ah (aj n1.get n2.ext) rfl,?_⟩⟩
 apply px
 refine fun b3 w3 n3 b4 w4 n4=>⟨rfl,fun b5 w5 n5=>?_⟩
 have g4:=aj n4.get n5.ext;have nD:Ext No w2 w5:=(n3.ext.no n4.ext).no n5.ext;exact⟨0,Cell.ah g4 rfl,0,Cell.ah g4 rfl,0,Cell.ah g4 rfl,0,Cell.ah g4 rfl,If.yes (If.bne (fun h=>absurd rfl h) fun _=>⟨⟨none,0,0⟩,Cell.ah (aj n2.get nD) rfl,k w5 ((n1.ext.no n2.ext).no nD)⟩)⟩
end
end Go.Proofs.YtefdekemmnnclaaGreat
namespace Go.Proofs.YtefdekemmnnclaaGreat
open Go.V Go.V.Pk
theorem aee:(2:Int) ^ min (Int.toNat 7) (IntKind.bits .u64)=128:=by decide
theorem Kz{n:Int}{w:Wd}{K:Sl->Pw}(h0:0<=n)(h1:n<=18446744073709551615)
  (hk:∀s w',aD w'.heap w.heap.size s (numB n.toNat)->Ext No w w'->K s w'):si n w K:=by
 apply LR;have Cp:=bQ (n:=n.toNat) (by omega)
 refine⟨fun m x s w'=>m=x.toNat/\0<=x/\x<=18446744073709551615/\∃pre,aD w'.heap w.heap.size s pre/\pre++numB x.toNat=numB n.toNat/\Ext No w w',
  ⟨_,rfl,h0,h1,[],aP.nil _ _ _ _,rfl,Ext.refl _ _⟩,?_⟩
 rintro _ m x s w1 ⟨rfl,hx0,hx1,pre,own,Pg,ext⟩;have hs:=own.len;have hl:pre.length<=10:=by rw[<- Pg,List.length_append]at Cp;omega
 have fin:∀b w2 w3 (y:Int),Bk w1 (.cells [.int .u8 y].toArray 5) b w2->Ext (fun i=>s.au=some i) w2 w3->Ext No w w3:=fun b w2 w3 y new e=>
  (ext.no new.ext).trans e fun i hi hb=>by have:=(own.lt hb).1;omega
 refine If.dec (fun hgt=>?_) (fun hle=>?_)
 .refine Ar.KS (Nm.as (Lk (by omega)) fun b w2 new=>?_);refine bO (own.no new.ext) (by have:=new.ext.size;have:=ext.size;omega) ((aP.new (sz:=1) (n:=1) new rfl (by simp[cn])).rd.src) (by simp at hs ⊢;omega) fun s' w3 JR _ ext' _=>?_
  refine⟨by decide,Nm.as (e':=x / 128) (by rw[fdiv_pow,aee]) ⟨_,?_,rfl,by omega,by omega,pre++[x % 256 % 128+128],by simpa[aD] using JR,?_,fin _ _ _ _ new ext'⟩⟩
  .omega
  .rw[<- Pg,CH (n:=x.toNat) (by omega)];simp only[List.append_assoc,List.singleton_append];congr 2
   .omega
   .congr 1;omega
 .refine Ar.u8 (by omega) fun b w2 new=>?_
  refine bO (own.no new.ext) (by have:=new.ext.size;have:=ext.size;omega) ((aP.new (sz:=1) (n:=1) new rfl (by simp[cn])).rd.src) (by simp at hs ⊢;omega) fun s' w3 JR _ ext' _=>?_
  refine hk s' w3 ?_ (fin _ _ _ _ new ext');rw[<- Pg,yu (by omega)];simpa[aD,Int.toNat_of_nonneg hx0] using JR
theorem _root_.Go.V.Rd.aef{S:Nat->Prop}{w w':Wd}{s:Sl}{sz:Nat}{cs:List Value}(r:Rd w.heap s sz cs)(x:Ext S w w')(h:cs≠[]->∀b,s.au=some b->¬ S b):Rd w'.heap s sz cs:=by
 by_cases hl:cs=[]
 .subst hl;exact⟨r.len,r.cap,fun h=>(h rfl).elim,by simp⟩
 .exact r.ext x fun a b ha hb=>h hl b (by simp[Sl.au,ha,hb])
end Go.Proofs.YtefdekemmnnclaaGreat
namespace Go.Proofs.YtefdekemmnnclaaGreat
open Go.V Go.V.Pk
theorem F8{b:Sl}{w:Wd}{K:Sl->Pw}{l:List Int}(hb:aL w.heap b l)(hl:l.length<=70368744177664)
  (k:∀s w',aD w'.heap w.heap.size s (numB l.length++l)->Ext No w w'->K s w'):fL b w K:=by
 apply Jm;have UC:=hb.len;refine Ar.u64 (by omega) (Kz (by omega) (by omega) fun s w1 own ext=>?_);have hs:=own.len;have Cp:=bQ (n:=((b.len:Int)).toNat) (by omega);refine bO own ext.size (hb.no ext).src (by omega) fun s' w2 JR _ ext' _=>?_
 refine k s' w2 ?_ (ext.trans ext' fun i hi hbi=>by have:=(own.lt hbi).1;omega);have e:((b.len:Int)).toNat=l.length:=by omega
 rw[e]at JR;simpa[aD] using JR
end Go.Proofs.YtefdekemmnnclaaGreat
namespace Go.V
open Go.V.Pk Go.Proofs.YtefdekemmnnclaaGreat
structure gA where
 gen:Int
 cm:Int
 wr:List Int
deriving DecidableEq
structure ru where
 az:Int
 dy:Int
 mark:List Int
 root:Rf
 lev:Int
 bE:Int
 held:List gA
deriving DecidableEq
def KA(x:ru):Prop:=x.az≠0/\1<=x.dy/\x.dy<=1000/\x.mark.length=16/\0<=x.bE/\x.bE<=x.dy/\(x.bE=0 ↔ x.root = .z/\x.lev=0)/\
 ((∃a,x.held=[a]/\a.wr.length=32)∨∃a b,x.held=[a,b]/\a.wr.length=32/\b.wr.length=32/\b.gen=a.gen+1)
def textB(l:List Int):List Int:=numB l.length++l
def mO(h:gA):List Int:=numB h.gen.toNat++(numB h.cm.toNat++textB h.wr)
def zR(x:ru):List Int:=
 numB x.dy.toNat++(numB x.bE.toNat++(textB x.mark++(numB x.root.p.toNat++(numB x.root.c.toNat++(numB x.root.g.toNat++(numB x.lev.toNat++(numB x.held.length++x.held.flatMap mO)))))))
structure MT(h:gA):Prop where
 gen:0<=h.gen/\h.gen<=65535
 cm:0<=h.cm/\h.cm<=18446744073709551615
 wr:B8 h.wr
structure R_(x:ru):Prop where
 az:0<=x.az/\x.az<=4294967295
 mark:B8 x.mark
 root:x.root.ok
 lev:0<=x.lev/\x.lev<=255
 held:∀h∈x.held,MT h
structure oC where
 gen:Int
 cm:Int
 wr:Sl
def oC.cells(v:oC):List Value:=[.int .u16 v.gen,.int .u64 v.cm,.slice v.wr.a v.wr.len v.wr.cap]
structure oD where
 az:Int
 dy:Int
 mark:Sl
 root:Rf
 lev:Int
 bE:Int
 held:Sl
def oD.cells(v:oD):List Value:=[.int .u32 v.az,.int .i64 v.dy,.slice v.mark.a v.mark.len v.mark.cap,.int .u32 v.root.p,.int .u64 v.root.c,.int .u16 v.root.g,.int .u8 v.lev,.int .i64 v.bE,.slice v.held.a v.held.len v.held.cap]
theorem oC.one(v:oC):∀x∈v.cells,cn x=true:=by
 intro x hx;simp only[oC.cells,List.mem_cons,List.not_mem_nil,or_false]at hx;rcases hx with rfl | rfl | rfl <;> rfl
theorem oD.one(v:oD):∀x∈v.cells,cn x=true:=by
 intro x hx;simp only[oD.cells,List.mem_cons,List.not_mem_nil,or_false]at hx;rcases hx with rfl | rfl | rfl | rfl | rfl | rfl | rfl | rfl | rfl <;> rfl
theorem cr.mk{w:Wd}{b o:Nat}{cs vs:List Value}{T:TypeId}{K:Pw}(hb:w.heap[b]? = some (.cells cs.toArray T (0,0)))(ho:o+vs.length<=cs.length)(hv:∀v∈vs,cn v=true)
  (k:∀w',nI w b (.cells (setL cs o vs).toArray T (0,0)) w'->K w'):cr w ⟨b,o,none⟩ vs K:=
 ⟨cs.toArray,T,(0,0),hb,rfl,by simpa using ho,.inr (.inr (Nat.le_refl _)),hv,fun w' hw=>k w' hw⟩
theorem Pl(cs vs:List Value)(h:vs.length=cs.length):setL cs 0 vs=vs:=by
 rw[rF _ _ _ (by omega),List.take_zero,List.nil_append,Nat.zero_add,h,List.drop_length,List.append_nil]
theorem cr.all{w:Wd}{b:Nat}{cs vs:List Value}{T:TypeId}{K:Pw}(hb:w.heap[b]? = some (.cells cs.toArray T (0,0)))(hl:vs.length=cs.length)(hv:∀v∈vs,cn v=true)
  (k:∀w',w'.heap[b]? = some (.cells vs.toArray T (0,0))->Ext (·=b) w w'->w'.heap.size=w.heap.size->K w'):cr w ⟨b,0,none⟩ vs K:=
 cr.mk hb (by omega) hv fun w' h=>k w' (by have:=h.get hb;rw[Pl _ _ hl]at this;exact this) h.ext h.size
structure Cu(Q:Nat->Prop)(h:Array Obj)(s:Sl)(l:List Int):Prop where
 rd:aL h s l
 q:l≠[]->∀b,s.au=some b->Q b
theorem Cu.ext{Q S:Nat->Prop}{w w':Wd}{s:Sl}{l:List Int}(r:Cu Q w.heap s l)(x:Ext S w w')(h:∀b,Q b->¬ S b):Cu Q w'.heap s l:=by
 refine⟨?_,r.q⟩;by_cases hl:l=[]
 .subst hl;exact⟨Rd.len r.rd,r.rd.cap,fun h=>(h rfl).elim,by simp⟩
 .exact Rd.ext r.rd x fun a b ha hb=>h b (r.q hl b (by simp[Sl.au,ha,hb]))
theorem Cu.no{Q:Nat->Prop}{w w':Wd}{s:Sl}{l:List Int}(r:Cu Q w.heap s l)(x:Ext No w w'):Cu Q w'.heap s l:=r.ext x fun _ _=>id
theorem Cu.mono{Q Q':Nat->Prop}{h:Array Obj}{s:Sl}{l:List Int}(r:Cu Q h s l)(hq:∀b,Q b->Q' b):Cu Q' h s l:=⟨r.rd,fun hl b hb=>hq b (r.q hl b hb)⟩
theorem Cu.own{Q:Nat->Prop}{h:Array Obj}{base:Nat}{s:Sl}{l:List Int}(o:aD h base s l)(hq:∀b,base<=b->b < h.size->Q b):Cu Q h s l:=⟨o.rd,fun _ b hb=>hq b (o.lt hb).1 (o.lt hb).2⟩
theorem Cu.lt{Q:Nat->Prop}{h:Array Obj}{s:Sl}{l:List Int}(r:Cu Q h s l):Cu (fun q=>Q q/\q < h.size) h s l:=⟨r.rd,fun hl b hb=>⟨r.q hl b hb,Rd.lt r.rd (by simpa using hl) hb⟩⟩
structure zS(Q:Nat->Prop)(h:Array Obj)(v:oC)(x:gA):Prop where
 gen:v.gen=x.gen
 cm:v.cm=x.cm
 wr:Cu Q h v.wr x.wr
theorem zS.ext{Q S:Nat->Prop}{w w':Wd}{v:oC}{x:gA}(r:zS Q w.heap v x)(e:Ext S w w')(h:∀b,Q b->¬ S b):zS Q w'.heap v x:=⟨r.gen,r.cm,r.wr.ext e h⟩
theorem zS.no{Q:Nat->Prop}{w w':Wd}{v:oC}{x:gA}(r:zS Q w.heap v x)(e:Ext No w w'):zS Q w'.heap v x:=r.ext e fun _ _=>id
abbrev hC(L:List (oC×gA)):List Value:=L.flatMap fun e=>e.1.cells
theorem Sa(L:List (oC×gA)):∀e∈L,e.1.cells.length=3:=fun _ _=>rfl
theorem abW{L:List (oC×gA)}(h:hC L≠[]):L≠[]:=by rintro rfl;exact h rfl
def jj(Q:Nat->Prop)(h:Array Obj)(s:Sl)(l:List gA):Prop:=∃L:List (oC×gA),L.map Prod.snd=l/\Rd h s 3 (hC L)/\(L≠[]->∀b,s.au=some b->Q b)/\∀e∈L,zS Q h e.1 e.2
theorem jj.ext{Q S:Nat->Prop}{w w':Wd}{s:Sl}{l:List gA}(r:jj Q w.heap s l)(x:Ext S w w')(h:∀b,Q b->¬ S b):jj Q w'.heap s l:=by
 obtain⟨L,h1,h2,h3,h4⟩:=r;exact⟨L,h1,h2.aef x fun dz b hb=>h b (h3 (abW dz) b hb),h3,fun e he=>(h4 e he).ext x h⟩
theorem jj.no{Q:Nat->Prop}{w w':Wd}{s:Sl}{l:List gA}(r:jj Q w.heap s l)(x:Ext No w w'):jj Q w'.heap s l:=r.ext x fun _ _=>id
theorem jj.len{Q:Nat->Prop}{h:Array Obj}{s:Sl}{l:List gA}(r:jj Q h s l):s.len=l.length:=by
 obtain⟨L,h1,h2,h3,h4⟩:=r;have:=h2.len;rw[cC (Sa L)]at this;rw[<- h1,List.length_map];omega
structure wC(Q:Nat->Prop)(h:Array Obj)(v:oD)(x:ru):Prop where
 az:v.az=x.az
 dy:v.dy=x.dy
 mark:Cu Q h v.mark x.mark
 root:v.root=x.root
 lev:v.lev=x.lev
 bE:v.bE=x.bE
 held:jj Q h v.held x.held
theorem wC.ext{Q S:Nat->Prop}{w w':Wd}{v:oD}{x:ru}(r:wC Q w.heap v x)(e:Ext S w w')(h:∀b,Q b->¬ S b):wC Q w'.heap v x:=⟨r.az,r.dy,r.mark.ext e h,r.root,r.lev,r.bE,r.held.ext e h⟩
theorem wC.no{Q:Nat->Prop}{w w':Wd}{v:oD}{x:ru}(r:wC Q w.heap v x)(e:Ext No w w'):wC Q w'.heap v x:=r.ext e fun _ _=>id
theorem Sb{Q:Nat->Prop}{w:Wd}{s:Sl}{l:List gA}{i:Int}{K:Addr->Prop}(r:jj Q w.heap s l)(h0:0<=i)(h1:i < (s.len:Int))
  (k:∀b o (v:oC) (hi:i.toNat < l.length),zS Q w.heap v l[i.toNat]->(∀j x,v.cells[j]? = some x->Cell w ⟨b,o+j,none⟩ x)->K ⟨b,o,none⟩):Ix s.a s.len i 3 K:=by
 obtain⟨L,h2,h3,h4,h5⟩:=r;refine Ix.elem (f:=fun e:oC×gA=>e.1.cells) h3 (Sa L) (by decide) h0 h1 fun b o hi hb hc=>?_
 have hl:L.length=l.length:=by rw[<- h2,List.length_map]
 refine k b o L[i.toNat].1 (by omega) ?_ hc;have e:l[i.toNat]'(by omega)=L[i.toNat].2:=by simp[<- h2]
 rw[e];exact h5 _ (List.getElem_mem hi)
end Go.V
namespace Go.Proofs.YtefdekemmnnclaaGreat
open Go.V
section
variable {w:Wd} {Q Q':Nat->Prop}
theorem kT{w:Wd}{b j:Nat}{x:Value}{cs:List Value}{T:TypeId}{fz:Nat×Nat}(g:w.heap[b]? = some (.cells cs.toArray T fz))(h:cs[j]? = some x):af (Ext No w) ((Addr.mk b 0 none).add j) x:=by
 rw[ay rfl,Nat.zero_add];exact af.cell (Cell.ah g h)
theorem DY{w:Wd}{b i j:Nat}{x:Value}{cs:List Value}{T:TypeId}{fz:Nat×Nat}(g:w.heap[b]? = some (.cells cs.toArray T fz))(h:cs[i+j]? = some x):af (Ext No w) (((Addr.mk b 0 none).add i).add j) x:=by
 rw[ay (a:=Addr.mk b 0 none) rfl,ay rfl,Nat.zero_add];exact af.cell (Cell.ah g h)
theorem KB{w:Wd}{b:Nat}{x:Value}{cs:List Value}{T:TypeId}{fz:Nat×Nat}(g:w.heap[b]? = some (.cells cs.toArray T fz))(h:cs[0]? = some x):af (Ext No w) (Addr.mk b 0 none) x:=af.cell (Cell.ah g h)
end
end Go.Proofs.YtefdekemmnnclaaGreat
namespace Go.V
theorem Pm{r:Rf}{lev:Int}:((((r.p == 0) && ((r.c == 0) && ((r.g == 0) && true))) && ((lev == 0) && true))=true) ↔ (r = .z/\lev=0):=by
 obtain⟨p,c,g⟩:=r;simp[Rf.z]
theorem Sc{l:List gA}(h:l.length=2):∃a b,l=[a,b]:=by
 match l,h with
 | [a,b],_=>exact⟨a,b,rfl⟩
theorem Se{l:List gA}(h:l.length=1):∃a,l=[a]:=by
 match l,h with
 | [a],_=>exact⟨a,rfl⟩
theorem xY{α:Type}{l:List α}{j:Nat}(h:j < l.length):l.take (j+1)=l.take j++[l[j]]:=by
 rw[List.take_succ_eq_append_getElem h]
end Go.V
namespace Go.Proofs.YtefdekemmnnclaaGreat
open Go.V
section
variable {w:Wd} {Q Q':Nat->Prop}
theorem BI{s:Sl}{l:List gA}{K:Bool->Pw}(r:jj Q w.heap s l)(hl:l.length<=1000000000000)(k:∀t w',(t=true ↔ ∃h∈l,h.wr.length≠32)->Ext No w w'->K t w') :
  bh s (.func (.func 384) #[] #[]) w K:=by
 apply gF;apply iv;have pA:=r.len;refine⟨fun m t w'=>∃j:Nat,t=j/\j<=l.length/\m=l.length - j/\(∀h∈l.take j,h.wr.length=32)/\Ext No w w',⟨_,0,rfl,Nat.zero_le _,rfl,by simp,Ext.refl _ _⟩,?_⟩;rintro _ m0 _ w1 ⟨j,rfl,hj,rfl,lV,x1⟩;refine If.dec (fun h=>?_) fun h=>?_
 .refine Sb (r.no x1) (by omega) h fun b o v hi hr hc=>?_
  have yd:j < l.length:=hi;have el:l[((j:Nat):Int).toNat]'hi=l[j]:=rfl;rw[el]at hr;refine⟨v.gen,hc 0 _ rfl,v.cm,hc 1 _ rfl,v.wr,hc 2 _ rfl,G2 (G1 (an.mk fun b1 w2 n2=>⟨v.wr,Cell.ah (cs:=v.cells) n2.get rfl,?_⟩))⟩;have hlw:=aL.len hr.wr.rd;have x2:=x1.no n2.ext;refine If.bne (fun dz=>k _ w2 ?_ x2) fun he=>Ar.i64 (by omega) ⟨_,by omega,j+1,by omega,by omega,rfl,fun h hh=>?_,x2⟩
  .rw[decide_eq_true (by omega)];exact⟨fun _=>⟨_,List.getElem_mem yd,by omega⟩,fun _=>rfl⟩
  .rw[xY yd]at hh;rcases List.mem_append.1 hh with h1 | h1
   .exact lV h h1
   .rw[List.mem_singleton]at h1;rw[h1];omega
 .have UP:j=l.length:=by omega
  rw[UP,List.take_length]at lV;refine k _ w1 ?_ x1;rw[show decide ((-1:Int)≥0)=false from rfl];exact⟨fun h=>(by cases h),fun⟨h,hh,dz⟩=>(dz (lV h hh)).elim⟩
set_option maxHeartbeats 1000000 in
theorem Pn{v:oD}{x:ru}{K:Bool->Pw}(r:wC Q w.heap v x)(rg:∀h∈x.held,MT h)(hl:x.held.length<=1000000000000)(k:∀t w',(t=true ↔ KA x)->Ext No w w'->K t w'):wV v.az v.dy v.mark v.root.p v.root.c v.root.g v.lev v.bE v.held w K:=by
 apply LU;refine an.mk fun b w1 n1=>?_
 have g1:w1.heap[b]? = some (.cells v.cells.toArray 144 (0,0)):=n1.get;have x1:=n1.ext;have xd:Ext No w (aa w1):=x1.drew;have YG:Ext No w (aa (aa w1)):=xd.drew;have lm:=aL.len r.mark.rd;have lh:=r.held.len;have et:=r.az;have eq:=r.dy;have er:=r.root;have ev:=r.lev;have ec:=r.bE;have no:∀{w'},Ext No w w'->¬ KA x->K false w':=fun e h=>k _ _ ⟨fun h=>(by cases h),fun h'=>(h h').elim⟩ e
 refine⟨_,Cell.ah g1 rfl,fun t w'=>(t=true ↔ ¬ (x.az≠0/\1<=x.dy/\x.dy<=1000/\x.mark.length=16))/\w'=w1,
  ⟨_,Cell.ah g1 rfl,If.beq (fun h=>⟨⟨fun _ h'=>by omega,fun _=>rfl⟩,rfl⟩) fun h1=>⟨_,Cell.ah g1 rfl,If.dec (fun h=>⟨⟨fun _ h'=>by omega,fun _=>rfl⟩,rfl⟩) fun h2=>⟨_,Cell.ah g1 rfl,If.dec (fun h=>⟨⟨fun _ h'=>by omega,fun _=>rfl⟩,rfl⟩) fun h3=>⟨_,Cell.ah g1 rfl,⟨?_,rfl⟩⟩⟩⟩⟩,?_⟩
 .rw[bne_iff_ne];exact⟨fun h h'=>by omega,fun h h'=>h ⟨by omega,by omega,by omega,by omega⟩⟩
 rintro _ t w2 ⟨ht,rfl⟩;refine If.cases (fun h=>no x1 fun m=>ht.1 h ⟨m.1,m.2.1,m.2.2.1,m.2.2.2.1⟩) fun h=>?_
 have hA:x.az≠0/\1<=x.dy/\x.dy<=1000/\x.mark.length=16:=Classical.byContradiction fun c=>by rw[ht.2 c]at h;cases h
 refine⟨fun t w'=>(t=true ↔ ¬ (0<=x.bE/\x.bE<=x.dy/\(x.bE=0 ↔ x.root = .z/\x.lev=0)))/\w'=aa w2,
  ⟨Ext No w2,(Ext.refl _ _).drew,v.bE,kT g1 rfl,If.dec (fun h=>⟨⟨fun _ h'=>by omega,fun _=>rfl⟩,rfl⟩) fun h1=>⟨v.bE,kT g1 rfl,v.dy,kT g1 rfl,If.dec (fun h=>⟨⟨fun _ h'=>by omega,fun _=>rfl⟩,rfl⟩) fun h2=>⟨v.bE,kT g1 rfl,v.root.p,kT g1 rfl,v.root.c,DY g1 rfl,v.root.g,DY g1 rfl,v.lev,DY g1 rfl,⟨?_,rfl⟩⟩⟩⟩,?_⟩
 .have e1:(v.bE == 0)=decide (x.bE=0):=by rw[ec];rfl
  have e2:((((v.root.p == 0) && ((v.root.c == 0) && ((v.root.g == 0) && true))) && ((v.lev == 0) && true)))=decide (x.root = .z/\x.lev=0):=by rw[Bool.eq_iff_iff,Pm,er,ev,decide_eq_true_iff]
  rw[e1,e2];by_cases c1:x.bE=0 <;> by_cases c2:x.root = .z/\x.lev=0 <;> simp[c1,c2] <;> omega
 rintro _ t w3 ⟨ht,rfl⟩;refine If.cases (fun h=>no xd fun m=>ht.1 h ⟨m.2.2.2.2.1,m.2.2.2.2.2.1,m.2.2.2.2.2.2.1⟩) fun h=>?_
 have hB:0<=x.bE/\x.bE<=x.dy/\(x.bE=0 ↔ x.root = .z/\x.lev=0):=Classical.byContradiction fun c=>by rw[ht.2 c]at h;cases h
 have gd:(aa w2).heap[b]? = some (.cells v.cells.toArray 144 (0,0)):=g1
 have len:KA x->x.held.length=1∨x.held.length=2:=fun m=>by
  rcases m.2.2.2.2.2.2.2 with⟨a,h,_⟩ | ⟨a,c,h,_⟩ <;> rw[h] <;> simp
 refine⟨Ext No (aa w2),(Ext.refl _ _).drew,If.dec (fun h=>no YG fun m=>by have:=len m;omega) fun h1=>If.dec (fun h=>no YG fun m=>by have:=len m;omega) fun h2=>If.beq (fun h3=>?_) fun h3=>?_⟩
 .obtain⟨a,c,KY⟩:=Sc (l:=x.held) (by omega);have ga:=rg a (by rw[KY];simp);have gc:=rg c (by rw[KY];simp);have hr:jj Q (aa w2).heap v.held [a,c]:=by rw[<- KY];exact r.held.no xd
  have two:x.held.length=2:=by omega
  have YH:KA x->c.gen=a.gen+1/\a.wr.length=32/\c.wr.length=32:=fun m=>by
   rcases m.2.2.2.2.2.2.2 with⟨a',h,_⟩ | ⟨a',c',h,h1,h2,h3⟩
   .rw[h]at two;cases two
   .rw[KY]at h;cases h;exact⟨h3,h1,h2⟩
  refine⟨v.held,kT gd rfl,Sb hr (Int.le_refl _) (by omega) fun b1 o1 u hi hu hc=>⟨u.gen,af.cell (hc 0 _ rfl),If.beq (fun h=>no YG fun m=>?_) fun dz=>⟨v.held,kT gd rfl,Sb hr (by decide) (by omega) fun b2 o2 u2 Hv hu2 Ma=>⟨u2.gen,af.cell (Ma 0 _ rfl),v.held,kT gd rfl,Sb hr (Int.le_refl _) (by omega) fun b3 o3 u3 VG hu3 hc3=>⟨u3.gen,af.cell (hc3 0 _ rfl),?_⟩⟩⟩⟩⟩
  .have:=YH m;have e:=hu.gen;have e':([a,c][(0:Int).toNat]'hi)=a:=rfl;rw[e']at e;have:=gc.gen;omega
  .have e1:u.gen=a.gen:=hu.gen;have e2:u2.gen=c.gen:=hu2.gen;have e3:u3.gen=a.gen:=hu3.gen;have:=ga.gen;refine Ar.u16 (by omega) (If.bne (fun h=>no YG fun m=>?_) fun he=>⟨v.held,Cell.ah gd rfl,BI hr (by simp) fun t w4 ht x4=>k _ w4 ?_ (YG.no x4)⟩)
   .have:=YH m;omega
   .have Ie:t=true ↔ ¬ (a.wr.length=32/\c.wr.length=32):=ht.trans ⟨fun⟨h,hh,hn⟩ hb=>by simp at hh;rcases hh with rfl | rfl;exact hn hb.1;exact hn hb.2,fun hb=>Classical.byContradiction fun hc=>hb ⟨Classical.byContradiction fun h1=>hc ⟨a,by simp,h1⟩,Classical.byContradiction fun h1=>hc ⟨c,by simp,h1⟩⟩⟩;constructor
    .intro h;have h0:a.wr.length=32/\c.wr.length=32:=Classical.byContradiction fun hb=>by rw[Ie.2 hb]at h;cases h
     exact⟨hA.1,hA.2.1,hA.2.2.1,hA.2.2.2,hB.1,hB.2.1,hB.2.2,.inr ⟨a,c,KY,h0.1,h0.2,by omega⟩⟩
    .intro m;have:=YH m
     cases t with
     | false=>rfl
     | true=>exact(Ie.1 rfl ⟨this.2.1,this.2.2⟩).elim
 .obtain⟨a,KY⟩:=Se (l:=x.held) (by omega);have hr:jj Q (aa (aa w2)).heap v.held [a]:=by rw[<- KY];exact r.held.no YG
  refine⟨v.held,Cell.ah gd rfl,BI hr (by simp) fun t w4 ht x4=>k _ w4 ?_ (YG.no x4)⟩;have Ie:t=true ↔ a.wr.length≠32:=ht.trans ⟨fun⟨h,hh,hn⟩=>by simp at hh;rw[<- hh];exact hn,fun h=>⟨a,by simp,h⟩⟩;constructor
  .intro h;have h0:a.wr.length=32:=Classical.byContradiction fun hb=>by rw[Ie.2 hb]at h;cases h
   exact⟨hA.1,hA.2.1,hA.2.2.1,hA.2.2.2,hB.1,hB.2.1,hB.2.2,.inl ⟨a,KY,h0⟩⟩
  .intro m
   have h0:a.wr.length=32:=by
    rcases m.2.2.2.2.2.2.2 with⟨a',h,h1⟩ | ⟨a',c',h,_⟩
    .rw[KY]at h;cases h;exact h1
    .rw[KY]at h;cases h
   cases t with
   | false=>rfl
   | true=>exact(Ie.1 rfl h0).elim
end
end Go.Proofs.YtefdekemmnnclaaGreat
