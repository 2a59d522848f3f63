/- Texts for LVaultNew, part 14. -/
import Derived.Laws.Externs
import Derived.Test.YtiigcapldngijaaGreatQn13
namespace Go.V
def zv:List Int->List Int->Int
 | [],[]=>0
 | [],_::_=> -1
 | _::_,[]=>1
 | x::a,y::b=>if x < y then -1 else if y < x then 1 else zv a b
theorem HX:∀a:List Int,zv a a=0
 | []=>rfl
 | x::a=>by simp[zv,HX a]
theorem HY:∀(a b:List Int),zv a b = -1∨zv a b=0∨zv a b=1
 | [],[]=> .inr (.inl rfl)
 | [],_::_=> .inl rfl
 | _::_,[]=> .inr (.inr rfl)
 | x::a,y::b=>by
  simp only[zv];split
  .simp
  .split
   .simp
   .exact HY a b
def LtB(a b:List Int):Prop:=zv a b = -1
instance (a b:List Int):Decidable (LtB a b):=inferInstanceAs (Decidable (_=_))
theorem JL{a b:List Int}:zv a b≥0 ↔ ¬ LtB a b:=by
 unfold LtB;rcases HY a b with h | h | h <;> rw[h] <;> decide
theorem tV:∀{a b:List Int},B8 a->B8 b->Lib.compareBytes (Lib.bytesOf a) (Lib.bytesOf b)=zv a b
 | [],[],_,_=>rfl
 | [],_::_,_,_=>rfl
 | _::_,[],_,_=>rfl
 | x::a,y::b,h,k=>by
  have hx:=h x List.mem_cons_self;have hy:=k y List.mem_cons_self;have ih:=tV (h.sub fun _ h=>List.mem_cons_of_mem _ h) (k.sub fun _ h=>List.mem_cons_of_mem _ h)
  have hl:∀{x y:Int},(0<=x/\x<=255)->(0<=y/\y<=255)->(UInt8.ofNat x.toNat < UInt8.ofNat y.toNat ↔ x < y):=fun {x y} hx hy=>by
   rw[UInt8.lt_iff_toNat_lt,UInt8.toNat_ofNat',UInt8.toNat_ofNat',Nat.mod_eq_of_lt (by omega),Nat.mod_eq_of_lt (by omega)];omega
  simp only[Lib.bytesOf,List.map_cons,Lib.compareBytes,zv,hl hx hy,hl hy hx];rw[show Lib.compareBytes (a.map fun n=>UInt8.ofNat n.toNat) (b.map fun n=>UInt8.ofNat n.toNat)=zv a b from ih]
theorem CK{P:Program}{w:Wd}{s:Sl}{l:List Int}(h:Rd w.heap s 1 (l.map (Value.int .u8))):(Extern.Bytes.bytesOf s.v).run P w = .ok ⟨(Lib.bytesOf l).toArray⟩ w:=by
 have hl:s.len=l.length:=by have:=h.len;simp at this;exact this.symm
 obtain⟨sa,sl,sc⟩:=s;simp only at hl;subst hl
 cases sa with
 | none=>
  have:l=[]:=by
   rcases Classical.em (l=[]) with h' | h'
   .exact h'
   .obtain⟨_,_,ha,_⟩:=Rd.at_ h (by simpa using h')
    cases ha
  subst this;rfl
 | some a=>
  show Sem.run P (Extern.Bytes.loadBytes a l.length .empty) w=_;rw[Lib.run_loadBytesX w l a .empty fun j x hj=>?_]
  .congr 1;apply ByteArray.ext;show(#[]:Array UInt8)++(Lib.bytesOf l).toArray=(Lib.bytesOf l).toArray;simp
  .have wE:j < l.length:=(List.getElem?_eq_some_iff.1 hj).1;obtain⟨b,o,ha,hc⟩:=Rd.at_ h (by intro e;rw[List.map_eq_nil_iff]at e;subst e;simp at wE);simp only[Option.some.injEq]at ha;subst ha;rw[ay rfl,fE,hc j (by simpa using wE),List.getElem_map];rw[List.getElem?_eq_getElem wE]at hj;rw[Option.some.inj hj]
theorem aP.pre{h:Array Obj}{base:Nat}{e:TypeId}{sz:Nat}{s:Sl}{cs:List Value}{hi:Int}{K:Sl->Prop}(o:aP h base e sz s cs)(h0:0<=hi)(h1:hi<=(s.len:Int))
  (k:∀s',aP h base e sz s' (cs.take (hi.toNat * sz))->s'.aw=s.aw->s'.len=hi.toNat->s'.cap=s.cap->K s'):Cut s 0 hi (((s.cap:Nat):Int)) sz K:=by
 have iv:=o.rd.cap;have hlen:=o.len;refine Cut.mk (Int.le_refl _) h0 (by omega) (Int.le_refl _) ?_;rcases o.is with⟨rfl,rfl⟩ | ⟨b,rest,ha,hle,wI,hl,hc⟩
 .have:hi=0:=by simp at h1;omega
  subst this;exact k _ (by simpa[h_] using aP.nil h base e sz) (by simp[h_]) rfl rfl
 .have e1:h_ s.a s.cap 0 sz=s.a:=by
   unfold h_;split
   .rfl
   .rw[ha];simp[ay]
  have adq:hi.toNat * sz<=s.len * sz:=Nat.mul_le_mul_right _ (by omega);rw[show((s.cap:Nat):Int).toNat=s.cap from rfl,show Int.toNat 0=0 from rfl,e1,show(hi - 0).toNat=hi.toNat by omega,show(((s.cap:Nat):Int) - 0).toNat=s.cap by omega];refine k _ ⟨by rw[List.length_take];simp only;omega,.inr ⟨b,cs.drop (hi.toNat * sz)++rest,ha,hle,?_,?_,by simp only;omega⟩,fun v hv=>o.cells v (List.mem_of_mem_take hv)⟩ rfl rfl rfl
  .rw[<- List.append_assoc,List.take_append_drop];exact wI
  .rw[<- List.append_assoc,List.take_append_drop];exact hl
end Go.V
namespace Go.Proofs.YtiigcapldngijaaGreat
open Go.V
section
variable {w:Wd}
theorem ot{a b:Sl}{x y:List Int}{K:Int->Pw}(ha:aQ w.heap a x)(hb:aQ w.heap b y)(hx:B8 x)(hy:B8 y)(k:K (zv x y) w):cr a b w K:=by
 apply DC;refine⟨zv x y,w,?_,k⟩;rw[run_callFunc_extern (e:=Extern.BytealgCompare.compare) Tryz.func372 (by kernel_rfl) (by kernel_rfl) (by kernel_rfl) (by kernel_rfl)];change(Sem.run pz (do pure (goInt (Extern.BytealgCompare.cmp (<- Extern.Bytes.bytesOf a.v) (<- Extern.Bytes.bytesOf b.v)))) w).andThen _=_;simp only[Sem.run_bind,CK ha,CK hb,Sem.run_pure,Result.andThen];rw[Lib.cmp_eq,<- tV hx hy];rfl
theorem Ri{n:Int}{K:Sl->Pw}(h0:0<=n)(h1:n<=1099511627776)(k:∀s w',aL w'.heap w.heap.size s []->Ext No w w'->K s w'):fR ⟨none,0,0⟩ n w K:=by
 apply ry;refine⟨fun w'=>w'=w,If.dec (fun h=>by omega) fun _=>rfl,?_⟩;rintro _ w1 rfl;refine Ar.i64 (by simp) (Ar.i64 (by simp;omega) (If.dec (fun h=>?_) (fun h=>k _ _ (aP.nil _ _ _ _) (Ext.refl _ _))));refine Cut.mk (Int.le_refl _) (by simp) (by simp) (by simp) ?_;have e:(n - ((0:Nat) - (0:Nat):Int))=(n.toNat:Int):=by simp;omega
 simp only[h_];show bj pz 22 3 ⟨none,0,0⟩ (.int .i64 (n - ((0:Nat) - (0:Nat):Int))) _ w1;rw[e];refine Fw (k:= .i64) (ie:=Tryz.t5) (z:= .int .u8 0) (by kernel_rfl) (by kernel_rfl) (by kernel_rfl) (by kernel_rfl) (by kernel_rfl) (by kernel_rfl) rfl (by kernel_rfl) (aP.nil _ w1.heap.size 5 1) (Nat.le_refl _) (by simp;omega) fun s' w' o hl x _=>?_
 refine aP.pre o (by simp) (by simp) fun s3 o3 _ _ _=>k _ _ (by show aP _ _ 5 1 s3 [];simpa using o3) (x.mono fun _ _ h=>by cases h)
theorem CL{sl:Sl}{ps:List (Sl×List Int)}{K:Sl->Pw}(hs:Rd w.heap sl 1 (ps.map fun p=>p.1.v))(hp:∀p∈ps,aQ w.heap p.1 p.2)(hb:((ps.map Prod.snd).flatten).length<=1099511627776)
  (hn:ps.length<=4294967296) (k:∀s w',aL w'.heap w.heap.size s (ps.map Prod.snd).flatten->Ext No w w'->K s w'):aZ sl w K:=by
 apply pI;have hl:sl.len=ps.length:=by have:=hs.len;simp at this;exact this.symm
 have hle:∀j,((ps.take j).map Prod.snd).flatten.length<=1099511627776:=fun j=>by
  refine Nat.le_trans ?_ hb
  have e:(ps.map Prod.snd).flatten=((ps.take j).map Prod.snd).flatten++((ps.drop j).map Prod.snd).flatten:=by
   rw[<- List.flatten_append,<- List.map_append,List.take_append_drop]
  rw[e,List.length_append];omega
 have PV:∀j (h:j < ps.length),((ps.take (j+1)).map Prod.snd).flatten=((ps.take j).map Prod.snd).flatten++ps[j].2:=fun j h=>by
  rw[List.take_add_one,List.getElem?_eq_getElem h];simp only[Option.toList_some,List.map_append,List.map_cons,List.map_nil,List.flatten_append,List.flatten_cons,List.flatten_nil,List.append_nil]
 refine⟨fun m n t w'=>w'=w/\∃j:Nat,t=j/\j<=ps.length/\m=ps.length - j/\n=(((ps.take j).map Prod.snd).flatten.length:Int),⟨ps.length,rfl,0,rfl,by omega,by omega,by simp⟩,?_⟩;rintro _ m0 n t w1 ⟨rfl,j,rfl,hj,hm,rfl⟩;refine If.dec (fun h=>Ix.cell hs (by omega) (by omega) fun bb o v _ hv hc=>?_) (fun h=>?_)
 .have xG:j < ps.length:=by omega
  rw[Int.toNat_natCast,List.getElem?_map,List.getElem?_eq_getElem xG]at hv;simp only[Option.map_some,Option.some.injEq]at hv;subst hv;have hlen:=aQ.len (hp _ (List.getElem_mem xG));have h1:=hle (j+1);rw[PV j xG,List.length_append]at h1;refine⟨_,hc,Ar.i64 (by omega) (If.dec (fun h=>by omega) (fun _=>Ar.i64 (by omega) ⟨ps.length - (j+1),by omega,rfl,j+1,by omega,by omega,rfl,?_⟩))⟩;rw[PV j xG,List.length_append,hlen];omega
 .refine Ri (by omega) (by have:=hle j;omega) fun s0 w2 o2 x2=>?_
  refine⟨fun m s t w'=>∃j:Nat,t=j/\j<=ps.length/\m=ps.length - j/\aL w'.heap w1.heap.size s ((ps.take j).map Prod.snd).flatten/\Ext No w1 w',⟨ps.length,0,rfl,by omega,by omega,by simpa using o2,x2⟩,?_⟩;rintro _ m1 s1 t1 w3 ⟨i,rfl,hi,Yo,o3,x3⟩;refine If.dec (fun h=>Ix.cell (hs.no x3) (by omega) (by omega) fun bb o v _ hv hc=>?_) (fun h=>?_)
  .have qO:i < ps.length:=by omega
   rw[Int.toNat_natCast,List.getElem?_map,List.getElem?_eq_getElem qO]at hv;simp only[Option.map_some,Option.some.injEq]at hv;subst hv;have hr:=hp _ (List.getElem_mem qO);have hlen:=aQ.len hr;have h1:=hle (i+1);rw[PV i qO,List.length_append]at h1;have h2:=aL.len o3;refine⟨_,hc,dj o3 (x3.size) (Rd.no hr x3).src (by omega) fun s' w' o' _ x' _=>Ar.i64 (by omega) ⟨ps.length - (i+1),by omega,i+1,by omega,by omega,rfl,?_,x3.trans x' fun q hq hh=>?_⟩⟩
   .rw[<- List.map_append,<- PV i qO]at o';exact o'
   .have:=(o3.lt hh).1;omega
  .have e:i=ps.length:=by omega
   rw[e,List.take_length]at o3;exact k _ _ o3 x3
end
end Go.Proofs.YtiigcapldngijaaGreat
namespace Go.V
structure Rf where
 p:Int
 c:Int
 g:Int
deriving DecidableEq
def Rf.z:Rf:=⟨0,0,0⟩
def Rf.ok(r:Rf):Prop:=(0<=r.p/\r.p<=4294967295)/\(0<=r.c/\r.c<=18446744073709551615)/\(0<=r.g/\r.g<=65535)
instance (r:Rf):Decidable r.ok:=inferInstanceAs (Decidable (_/\_))
def Rf.cs(r:Rf):List Value:=[.int .u32 r.p,.int .u64 r.c,.int .u16 r.g]
structure ca where
 k:Sl
 v:Sl
 n:Int
 ch:Rf
 cd:Rf
def ca.cs(x:ca):List Value:=[.slice x.k.a x.k.len x.k.cap,.slice x.v.a x.v.len x.v.cap,.int .i64 x.n,.int .u32 x.ch.p,.int .u64 x.ch.c,.int .u16 x.ch.g,.int .u32 x.cd.p,.int .u64 x.cd.c,.int .u16 x.cd.g]
structure gN where
 key:List Int
 val:List Int
 n:Int
 ch:Rf
 cd:Rf
deriving DecidableEq
structure xg(h:Array Obj)(x:ca)(e:gN):Prop where
 k:Rd h x.k 1 (e.key.map (Value.int .u8))
 v:Rd h x.v 1 (e.val.map (Value.int .u8))
 n:x.n=e.n
 ch:x.ch=e.ch
 cd:x.cd=e.cd
 k8:B8 e.key
 v8:B8 e.val
 n64:-9223372036854775808<=e.n/\e.n<=9223372036854775807
 cho:e.ch.ok
 cdo:e.cd.ok
theorem xg.no{w w':Wd}{x:ca}{e:gN}(r:xg w.heap x e)(h:Ext No w w'):xg w'.heap x e:=⟨r.k.no h,r.v.no h,r.n,r.ch,r.cd,r.k8,r.v8,r.n64,r.cho,r.cdo⟩
abbrev tW(p:ca×gN):List Value:=p.1.cs
theorem wA(L:List (ca×gN)):∀p∈L,(tW p).length=9:=fun _ _=>rfl
structure Gk(h:Array Obj)(s:Sl)(L:List (ca×gN)):Prop where
 rd:Rd h s 9 (L.flatMap tW)
 JM:∀p∈L,xg h p.1 p.2
theorem Gk.no{w w':Wd}{s:Sl}{L:List (ca×gN)}(r:Gk w.heap s L)(h:Ext No w w'):Gk w'.heap s L:=⟨r.rd.no h,fun p hp=>(r.JM p hp).no h⟩
theorem Gk.len{h:Array Obj}{s:Sl}{L:List (ca×gN)}(r:Gk h s L):s.len=L.length:=by
 have:=r.rd.len;rw[cQ (wA L)]at this;omega
theorem blt{h:Array Obj}{b:Nat}{o:Obj}(e:h[b]? = some o):b < h.size:=by
 rcases Nat.lt_or_ge b h.size with k | k
 .exact k
 .rw[Array.getElem?_eq_none k]at e;cases e
theorem ah{w w':Wd}{b:Nat}{o:Obj}(h:w.heap[b]? = some o)(x:Ext No w w'):w'.heap[b]? = some o:=by
 rw[x.aw b (blt h) (fun h=>h)];exact h
section
variable {w:Wd}
theorem Ul{s:Sl}{L:List (ca×gN)}{t:Int}{K:Sl->Sl->Int->Int->Int->Int->Int->Int->Int->Prop}(r:Rd w.heap s 9 (L.flatMap tW))(h0:0<=t)(h1:t < (s.len:Int))
  (k:∀(hi:t.toNat < L.length),K L[t.toNat].1.k L[t.toNat].1.v L[t.toNat].1.n L[t.toNat].1.ch.p L[t.toNat].1.ch.c L[t.toNat].1.ch.g L[t.toNat].1.cd.p L[t.toNat].1.cd.c L[t.toNat].1.cd.g) :
  Ix s.a s.len t 9 fun a=>∃c:Sl,Cell w a (.slice c.a c.len c.cap)/\∃Gl:Sl,Cell w (a.add 1) (.slice Gl.a Gl.len Gl.cap)/\∃Sw:Int,Cell w (a.add 2) (.int .i64 Sw)/\∃Kr:Int,Cell w (a.add 3) (.int .u32 Kr)/\
   ∃Ks:Int,Cell w (a.add 4) (.int .u64 Ks)/\∃Kt:Int,Cell w (a.add 5) (.int .u16 Kt)/\∃Ku:Int,Cell w (a.add 6) (.int .u32 Ku)/\∃Kw:Int,Cell w (a.add 7) (.int .u64 Kw)/\∃Kx:Int,Cell w (a.add 8) (.int .u16 Kx)/\K c Gl Sw Kr Ks Kt Ku Kw Kx:=
 Ix.elem r (wA L) (by decide) h0 h1 fun b o hi _ hc=>
  ⟨_,hc 0 _ rfl,_,hc 1 _ rfl,_,hc 2 _ rfl,_,hc 3 _ rfl,_,hc 4 _ rfl,_,hc 5 _ rfl,_,hc 6 _ rfl,_,hc 7 _ rfl,_,hc 8 _ rfl,k hi⟩
theorem rJ{b:Nat}{x:ca}{T:TypeId}{K:Sl->Sl->Int->Int->Int->Int->Int->Int->Int->Prop}(hb:w.heap[b]? = some (.cells x.cs.toArray T (0,0)))(k:K x.k x.v x.n x.ch.p x.ch.c x.ch.g x.cd.p x.cd.c x.cd.g) :
  ∃c:Sl,Cell w (Addr.mk b 0 none) (.slice c.a c.len c.cap)/\∃Gl:Sl,Cell w ((Addr.mk b 0 none).add 1) (.slice Gl.a Gl.len Gl.cap)/\∃Sw:Int,Cell w ((Addr.mk b 0 none).add 2) (.int .i64 Sw)/\∃Kr:Int,Cell w ((Addr.mk b 0 none).add 3) (.int .u32 Kr)/\
   ∃Ks:Int,Cell w ((Addr.mk b 0 none).add 4) (.int .u64 Ks)/\∃Kt:Int,Cell w ((Addr.mk b 0 none).add 5) (.int .u16 Kt)/\∃Ku:Int,Cell w ((Addr.mk b 0 none).add 6) (.int .u32 Ku)/\∃Kw:Int,Cell w ((Addr.mk b 0 none).add 7) (.int .u64 Kw)/\∃Kx:Int,Cell w ((Addr.mk b 0 none).add 8) (.int .u16 Kx)/\K c Gl Sw Kr Ks Kt Ku Kw Kx:=
 ⟨_,Cell.af hb rfl,_,Cell.af hb rfl,_,Cell.af hb rfl,_,Cell.af hb rfl,_,Cell.af hb rfl,_,Cell.af hb rfl,_,Cell.af hb rfl,_,Cell.af hb rfl,_,Cell.af hb rfl,k⟩
theorem mF{zs vs:List Value}{T:TypeId}{K:Nat->Pw}{n:Nat}(hl:vs.length=n)(hz:zs.length=n)(hv:∀v∈vs,cB v=true)
  (k:∀b w',w'.heap[b]? = some (.cells vs.toArray T (0,0))->b=w.heap.size->w'.heap.size=w.heap.size+1->Ext No w w'->K b w'):au w (.cells zs.toArray T) fun b w1=>List.length (α:=Value) vs=n/\bO w1 (Addr.mk b 0 none) vs fun w2=>K b w2:=by
 intro b w1 hn;refine⟨hl,zs.toArray,T,(0,0),hn.get,rfl,by simp[hl,hz],.inr (.inr (Nat.le_refl _)),hv,fun w2 hw=>?_⟩;have e:setL zs 0 vs=vs:=qP _ _ (by omega);have hw':mG w1 b (.cells vs.toArray T (0,0)) w2:=by rw[<- e];exact hw
 refine k b w2 (hw'.get hn.get) hn.at_ (by rw[hw'.size,hn.size]) (hn.ext.trans hw'.ext fun q hq h=>?_);have:=hn.at_;rw[h]at hq;omega
theorem Mh(a b:Rf):((a.p == b.p) && ((a.c == b.c) && ((a.g == b.g) && true)))=decide (a=b):=by
 obtain⟨a1,a2,a3⟩:=a;obtain⟨b1,b2,b3⟩:=b;rw[Bool.eq_iff_iff];simp
end
def px(kind lev:Int):Prop:=kind=1/\lev=0∨kind=2/\1<=lev/\lev<=30
instance (a b:Int):Decidable (px a b):=inferInstanceAs (Decidable (_∨_))
def D6(kind i len:Int):Prop:=if kind=2/\i=0 then len=0 else 1<=len/\len<=32
instance (a b c:Int):Decidable (D6 a b c):=inferInstanceAs (Decidable (ite _ _ _))
def D7(kind i:Int)(e:gN):Prop:=D6 kind i e.key.length/\(if kind=2 then e.cd ≠ .z/\e.ch = .z/\e.val.length=0/\e.n=0 else e.cd = .z/\(if e.n=0 then e.ch = .z/\e.val.length<=64 else e.n > 64/\e.n<=1024/\e.ch ≠ .z/\e.val.length=0))
instance (a b:Int) (e:gN):Decidable (D7 a b e):=inferInstanceAs (Decidable (_/\_))
structure lA(kind lev:Int)(l:List gN):Prop where
 shape:px kind lev
 some:kind=2->l≠[]
 JM:∀i (h:i < l.length),D7 kind i l[i]
 ord:∀i (h:i+1 < l.length),LtB l[i].key l[i+1].key
def refB(r:Rf):List Int:=be 4 r.p++be 8 r.c++be 2 r.g
def wrE(kind:Int)(e:gN):List Int:=(e.key.length % 256:Int)::e.key++(if kind=2 then refB e.cd else if e.n > 0 then[1,e.n / 256 % 256,e.n % 256]++refB e.ch else[0,(e.val.length % 256:Int)]++e.val)
def wr(kind lev:Int)(l:List gN):List Int:=[kind,lev,(l.length % 256:Int)]++l.flatMap (wrE kind)
theorem lC(r:Rf):(refB r).length=14:=by simp[refB,aK]
end Go.V
namespace Go.Proofs.YtiigcapldngijaaGreat
open Go.V
section
variable {w:Wd}
theorem FV{kind lev:Int}{K:Bool->Pw}(k:K (decide (px kind lev)) w):nT kind lev w K:=by
 apply IM;have yes:px kind lev->K true w:=fun h=>by rw[decide_eq_true h]at k;exact k
 have no:¬ px kind lev->K false w:=fun h=>by rw[decide_eq_false h]at k;exact k
 have two:kind=2->1<=lev->K (decide (lev<=30)) w:=fun a b=>by
  have:decide (lev<=30)=decide (px kind lev):=by rw[decide_eq_decide];unfold px;omega
  rw[this];exact k
 refine If.beq (fun h=>If.beq (fun h'=>yes (.inl ⟨h,h'⟩)) (fun h'=>If.beq (fun h2=>by omega) fun h2=>no (by unfold px;omega))) (fun h=>If.beq (fun h2=>If.dec (fun h3=>two h2 h3) fun h3=>no (by unfold px;omega)) fun h2=>no (by unfold px;omega))
theorem Mi{kind i n:Int}{K:Bool->Pw}(k:K (decide (D6 kind i n)) w):sG kind i n w K:=by
 apply NW;refine⟨fun w'=>w'=w/\¬ (kind=2/\i=0),If.beq (fun h=>If.beq (fun h'=>?_) fun h'=>⟨rfl,by omega⟩) (fun h=>⟨rfl,by omega⟩),?_⟩
 .have:(n == 0)=decide (D6 kind i n):=by rw[Bool.eq_iff_iff,decide_eq_true_iff,beq_iff_eq];unfold D6;rw[if_pos ⟨h,h'⟩]
  rw[this];exact k
 .rintro _ w1 ⟨rfl,hn⟩;refine If.dec (fun h=>?_) (fun h=>?_)
  .have:decide (n<=32)=decide (D6 kind i n):=by rw[decide_eq_decide];unfold D6;rw[if_neg hn];omega
   rw[this];exact k
  .have:decide (D6 kind i n)=false:=decide_eq_false (by unfold D6;rw[if_neg hn];omega);rw[this]at k;exact k
theorem OG{kind i:Int}{x:ca}{e:gN}{K:Bool->Pw}(r:xg w.heap x e)(k:∀w',Ext No w w'->K (decide (D7 kind i e)) w'):sL kind i x.k x.v x.n x.ch.p x.ch.c x.ch.g x.cd.p x.cd.c x.cd.g w K:=by
 apply Ja;refine au.mk fun b w1 h1=>mF rfl rfl (by decide) fun b1 w3 Cz _ _ x3=>?_
 have hb:w3.heap[b]? = some (.cells x.cs.toArray 218 (0,0)):=ah h1.get x3;have hz:w3.heap[b1]? = some (.cells Rf.z.cs.toArray 44 (0,0)):=Cz;have xx:Ext No w w3:=h1.ext.no x3;have k:=k w3 xx;have Cy:=aQ.len r.k;have hvl:=aQ.len r.v;have no:¬ D7 kind i e->K false w3:=fun h=>by rw[decide_eq_false h]at k;exact k
 refine⟨_,Cell.af hb rfl,Mi (If.not (If.dec (fun hk=>?_) fun hk=>no fun h=>hk (by rw[Cy];exact h.1)))⟩;rw[Cy]at hk;refine If.beq (fun h2=>?_) (fun h2=>?_)
 .refine⟨_,Cell.af hb rfl,_,Cell.af hb rfl,_,Cell.af hb rfl,_,Cell.af hz rfl,_,Cell.af hz rfl,_,Cell.af hz rfl,?_⟩;dsimp only;rw[Mh x.cd .z,r.cd];refine If.not (If.dec (fun h=>no fun h'=>?_) fun h=>?_)
  .have:=h'.2;rw[if_pos h2]at this;exact this.1 h
  refine⟨_,Cell.af hb rfl,_,Cell.af hb rfl,_,Cell.af hb rfl,_,Cell.af hz rfl,_,Cell.af hz rfl,_,Cell.af hz rfl,?_⟩;dsimp only;rw[Mh x.ch .z,r.ch];refine If.dec (fun h'=>?_) fun h'=>no fun Um=>?_
  .refine⟨_,Cell.af hb rfl,If.beq (fun h3=>⟨_,Cell.af hb rfl,?_⟩) fun h3=>no fun Um=>?_⟩
   .have:(x.n == 0)=decide (D7 kind i e):=by
     rw[Bool.eq_iff_iff,decide_eq_true_iff,beq_iff_eq];unfold D7;rw[if_pos h2,r.n];exact⟨fun h4=>⟨hk,h,h',by omega,h4⟩,fun h4=>h4.2.2.2.2⟩
    rw[this];exact k
   .have:=Um.2;rw[if_pos h2]at this;omega
  .have:=Um.2;rw[if_pos h2]at this;exact h' this.2.1
 .refine⟨_,Cell.af hb rfl,_,Cell.af hb rfl,_,Cell.af hb rfl,_,Cell.af hz rfl,_,Cell.af hz rfl,_,Cell.af hz rfl,?_⟩;dsimp only;rw[Mh x.cd .z,r.cd];refine If.not (If.dec (fun h=>?_) fun h=>no fun h'=>?_)
  rotate_left
  .have:=h'.2;rw[if_neg h2]at this;exact h this.1
  refine⟨_,Cell.af hb rfl,?_⟩;rw[r.n];refine If.beq (fun h3=>?_) fun h3=>?_
  .refine⟨_,Cell.af hb rfl,_,Cell.af hb rfl,_,Cell.af hb rfl,_,Cell.af hz rfl,_,Cell.af hz rfl,_,Cell.af hz rfl,?_⟩;dsimp only;rw[Mh x.ch .z,r.ch];refine If.dec (fun h'=>⟨_,Cell.af hb rfl,?_⟩) fun h'=>no fun Um=>?_
   .have:decide ((x.v.len:Int)<=64)=decide (D7 kind i e):=by
     rw[decide_eq_decide];unfold D7;rw[if_neg h2,if_pos h3,hvl];exact⟨fun h4=>⟨hk,h,h',by omega⟩,fun h4=>by have:=h4.2.2.2;omega⟩
    rw[this];exact k
   .have:=Um.2;rw[if_neg h2,if_pos h3]at this;exact h' this.2.1
  .refine⟨_,Cell.af hb rfl,?_⟩;rw[r.n];refine If.dec (fun h4=>⟨_,Cell.af hb rfl,?_⟩) fun h4=>no fun Um=>?_
   rotate_left
   .have:=Um.2;rw[if_neg h2,if_neg h3]at this;exact h4 this.2.1
   rw[r.n];refine If.dec (fun h5=>?_) fun h5=>no fun Um=>?_
   rotate_left
   .have:=Um.2;rw[if_neg h2,if_neg h3]at this;exact h5 this.2.2.1
   refine⟨_,Cell.af hb rfl,_,Cell.af hb rfl,_,Cell.af hb rfl,_,Cell.af hz rfl,_,Cell.af hz rfl,_,Cell.af hz rfl,?_⟩;dsimp only;rw[Mh x.ch .z,r.ch];refine If.not (If.dec (fun h'=>no fun Um=>?_) fun h'=>⟨_,Cell.af hb rfl,?_⟩)
   .have:=Um.2;rw[if_neg h2,if_neg h3]at this;exact this.2.2.2.1 h'
   .have:((x.v.len:Int) == 0)=decide (D7 kind i e):=by
     rw[Bool.eq_iff_iff,decide_eq_true_iff,beq_iff_eq];unfold D7;rw[if_neg h2,if_neg h3,hvl];exact⟨fun h6=>⟨hk,h,h4,h5,h',by omega⟩,fun h6=>by have:=h6.2.2.2.2.2;omega⟩
    rw[this];exact k
end
section
variable {w:Wd}
theorem vQ{s:Sl}{L:List (ca×gN)}{t:Int}{K:Nat->Pw}(r:Rd w.heap s 9 (L.flatMap tW))(h0:0<=t)(h1:t < (s.len:Int))
  (k:∀b w' (hi:t.toNat < L.length),w'.heap[b]? = some (.cells L[t.toNat].1.cs.toArray 218 (0,0))->b=w.heap.size->w'.heap.size=w.heap.size+1->Ext No w w'->K b w') :
  Ix s.a s.len t 9 fun a=>∃c:Sl,Cell w a (.slice c.a c.len c.cap)/\∃Gl:Sl,Cell w (a.add 1) (.slice Gl.a Gl.len Gl.cap)/\∃Sw:Int,Cell w (a.add 2) (.int .i64 Sw)/\∃Kr:Int,Cell w (a.add 3) (.int .u32 Kr)/\
   ∃Ks:Int,Cell w (a.add 4) (.int .u64 Ks)/\∃Kt:Int,Cell w (a.add 5) (.int .u16 Kt)/\∃Ku:Int,Cell w (a.add 6) (.int .u32 Ku)/\∃Kw:Int,Cell w (a.add 7) (.int .u64 Kw)/\∃Kx:Int,Cell w (a.add 8) (.int .u16 Kx)/\
   au w (.cells [.slice none 0 0,.slice none 0 0,.int .i64 0,.int .u32 0,.int .u64 0,.int .u16 0,.int .u32 0,.int .u64 0,.int .u16 0].toArray 218) fun Ek w5=>
   List.length (α:=Value) [.slice c.a c.len c.cap,.slice Gl.a Gl.len Gl.cap,.int .i64 Sw,.int .u32 Kr,.int .u64 Ks,.int .u16 Kt,.int .u32 Ku,.int .u64 Kw,.int .u16 Kx]=9/\
   bO w5 (Addr.mk Ek 0 none) [.slice c.a c.len c.cap,.slice Gl.a Gl.len Gl.cap,.int .i64 Sw,.int .u32 Kr,.int .u64 Ks,.int .u16 Kt,.int .u32 Ku,.int .u64 Kw,.int .u16 Kx] fun w6=>K Ek w6:=
 Ul r h0 h1 fun hi=>mF rfl rfl (by intro v hv;simp only[List.mem_cons,List.not_mem_nil,or_false]at hv;rcases hv with h | h | h | h | h | h | h | h | h <;> subst h <;> rfl) fun b w' hb e z x=>k b w' hi hb e z x
theorem _root_.Go.V.Gk.get{h:Array Obj}{s:Sl}{L:List (ca×gN)}(r:Gk h s L){i:Nat}(hi:i < L.length):xg h L[i].1 L[i].2:=r.JM _ (List.getElem_mem hi)
abbrev fi(L:List (ca×gN)):List gN:=L.map Prod.snd
theorem CM{kind lev:Int}{s:Sl}{L:List (ca×gN)}{K:Int->Pw}(r:Gk w.heap s L)(hs:L.length<=4294967296)
  (k0:∀w',lA kind lev (fi L)->Ext No w w'->K 0 w') (k1:∀c w',¬ lA kind lev (fi L)->c≠0->Ext No w w'->K c w'):nX kind lev s w K:=by
 apply Jb;refine au.mk fun b w1 h1=>?_
 have hb:=h1.get;have hl:=r.len;refine⟨fun w'=>w'=w1/\px kind lev/\(kind=2->L≠[]),?_,?_⟩
 .refine⟨_,Cell.af hb rfl,_,Cell.af hb rfl,FV (If.not (If.dec (fun YN=>?_) fun YN=>k1 2 _ (fun h=>YN h.shape) (by decide) h1.ext))⟩;refine⟨_,Cell.af hb rfl,If.beq (fun h2=>⟨_,Cell.af hb rfl,If.beq (fun h3=>?_) fun h3=>⟨rfl,YN,fun _ h=>?_⟩⟩) fun h2=>⟨rfl,YN,fun h=>(h2 h).elim⟩⟩
  .refine k1 2 _ (fun h=>h.some h2 ?_) (by decide) h1.ext;rw[List.map_eq_nil_iff];exact List.eq_nil_of_length_eq_zero (by omega)
  .rw[h]at hl;simp at hl;omega
 rintro _ w3 ⟨rfl,YN,hso⟩;refine⟨_,Cell.af hb rfl,fun m t w'=>∃i:Nat,t=i/\i<=L.length/\m=L.length - i/\Ext No w3 w'/\(∀j (h:j < i) (h':j < L.length),D7 kind j L[j].2)/\(∀j (h:j+1 < i) (h':j+1 < L.length),LtB L[j].2.key L[j+1].2.key),⟨L.length,0,rfl,by omega,by omega,Ext.refl _ _,fun j h=>by omega,fun j h=>by omega⟩,?_⟩;rintro _ m0 t w4 ⟨i,rfl,hi,hm,x4,he,ho⟩;have th:Ext No w w4:=h1.ext.no x4;refine If.dec (fun h=>?_) (fun h=>?_)
 .refine vQ (r.rd.no th) (by omega) h fun b1 w6 qO Cz eb1 _ x6=>?_
  simp only[Int.toNat_natCast]at qO Cz;have zk:=th.no x6;have e6:=(r.no zk).get qO;have TM:=ah hb (x4.no x6);refine⟨_,Cell.af TM rfl,rJ Cz (OG e6 fun w7 x7=>If.not (If.dec (fun hp=>?_) fun hp=>k1 2 _ (fun h=>hp ?_) (by decide) (zk.no x7)))⟩
  rotate_left
  .have:=h.JM i (by simpa using qO);simpa using this
  have hb7:=ah TM x7;have afR:=ah Cz x7;have x07:=zk.no x7;refine⟨Ext No w7,(Ext.refl _ _).drew,If.dec (fun h0=>?_) fun h0=>?_⟩
  .refine⟨_,aj.cell (Cell.af hb7 rfl),Ar.i64 (by omega) (Ix.elem (r.rd.no x07) (wA L) (by decide) (by omega) (by omega) fun b2 o2 Tu _ hc=>⟨_,aj.cell (hc 0 _ rfl),_,aj.cell (Cell.af afR rfl),?_⟩)⟩;have e2:((i:Int) - 1).toNat=i - 1:=by omega
   simp only[e2]at Tu ⊢;have r7:=r.no x07.drew;have ea:=r7.get Tu;have eb:=r7.get qO;refine ot ea.k eb.k ea.k8 eb.k8 ⟨(Ext.refl _ _).drew,If.dec (fun hc=>k1 120 _ (fun hr=>?_) (by decide) x07.drew) fun hc=>Ar.i64 (by omega) ⟨L.length - (i+1),by omega,i+1,by omega,by omega,rfl,(x4.no (x6.no x7)).drew,fun j h h'=>?_,fun j h h'=>?_⟩⟩
   .have:=hr.ord (i - 1) (by simp;omega);simp only[List.getElem_map,show i - 1+1=i by omega]at this;exact JL.1 hc this
   .rcases Nat.lt_or_ge j i with h3 | h3
    .exact he j h3 h'
    .have:j=i:=by omega
     subst this;exact hp
   .rcases Nat.lt_or_ge (j+1) i with h3 | h3
    .exact ho j h3 h'
    .have:j=i - 1:=by omega
     subst this;simp only[show i - 1+1=i by omega];exact Classical.not_not.1 fun hh=>hc (JL.2 hh)
  .refine Ar.i64 (by omega) ⟨L.length - (i+1),by omega,i+1,by omega,by omega,rfl,(x4.no (x6.no x7)).drew,fun j h h'=>?_,fun j h h'=>by omega⟩;have:j=i:=by omega
   subst this;exact hp
 .refine k0 _ ⟨YN,fun h=>by rw[ne_eq,List.map_eq_nil_iff];exact hso h,fun j hj=>?_,fun j hj=>?_⟩ th
  .simp only[List.length_map,List.getElem_map]at hj ⊢;exact he j (by omega) hj
  .simp only[List.length_map,List.getElem_map]at hj ⊢;exact ho j (by omega) hj
theorem aL.new{n:Nat}{b:Nat}{w':Wd}{l:List Int}(h:Gq w (.cells (l.map (Value.int .u8)).toArray 5) b w')(hn:l.length=n):aL w'.heap w.heap.size ⟨some ⟨b,0,none⟩,n,n⟩ l:=
 aP.new h (by simp[hn]) df
theorem AR{r:Rf}{K:Sl->Pw}(ok:r.ok)(k:∀s w',aL w'.heap w.heap.size s (refB r)->Ext No w w'->K s w'):sM r.p r.c r.g w K:=by
 apply N9;obtain⟨h1,h2,h3⟩:=ok;refine au.mk fun b w1 n1=>?_
 have hb:=n1.get;refine⟨_,Cell.af hb rfl,Ar.u64 (by omega) (jl h1.1 (by decide) (by decide) (by show r.p < 256 ^ 4;omega) fun s1 w2 o2 x2=>?_)⟩;refine⟨_,Cell.af (ah hb x2) rfl,jl h2.1 (by decide) (by decide) (by show r.c < 256 ^ 8;omega) fun s2 w3 o3 x3=>?_⟩;refine⟨_,Cell.af (ah hb (x2.no x3)) rfl,Ar.u64 (by omega) (jl h3.1 (by decide) (by decide) (by show r.g < 256 ^ 2;omega) fun s3 w4 o4 x4=>au.mk fun b5 w5 n5=>?_)⟩;have r5:Rd w5.heap ⟨some ⟨b5,0,none⟩,3,3⟩ 1 ([(s1,be 4 r.p),(s2,be 8 r.c),(s3,be 2 r.g)].map fun p=>p.1.v):=(aP.new (n:=3) (sz:=1) n5 rfl (by intro v hv;simp only[List.mem_cons,List.not_mem_nil,or_false]at hv;rcases hv with h | h | h <;> subst h <;> rfl)).rd;refine CL r5 (fun p hp=>?_) (by simp[aK]) (by simp) fun s w' o x=>k s w' ?_ ?_
 .simp only[List.mem_cons,List.not_mem_nil,or_false]at hp;rcases hp with h | h | h <;> subst h
  .exact o2.rd.no ((x3.no x4).no n5.ext)
  .exact o3.rd.no (x4.no n5.ext)
  .exact o4.rd.no n5.ext
 .have e:refB r=([(s1,be 4 r.p),(s2,be 8 r.c),(s3,be 2 r.g)].map Prod.snd).flatten:=by simp[refB]
  rw[e];exact aP.mono o ((n1.ext.no x2).no (x3.no (x4.no n5.ext))).size
 .exact((n1.ext.no x2).no (x3.no (x4.no n5.ext))).no x
theorem ar{S:Nat->Prop}{w':Wd}{b:Nat}{o:Obj}(h:w.heap[b]? = some o)(x:Ext S w w')(hb:¬ S b):w'.heap[b]? = some o:=by
 rw[x.aw b (blt h) hb];exact h
theorem Mj{w0:Wd}{Q:Nat->Prop}{s s':Sl}{base:Nat}{l m:List Int}{K:Sl->Pw}(xq:Ext Q w0 w)(hq:∀i,s.aw=some i->Q i)(hq2:∀i,w0.heap.size<=i->Q i)(o:aL w.heap base s l)(hb:base<=w.heap.size)(r:aQ w.heap s' m)(hn:l.length+m.length<=1099511627776)
  (k:∀t w',aL w'.heap base t (l++m)->(∀i,t.aw=some i->Q i)->Ext Q w0 w'->K t w'):bj pz 22 22 s (.slice s'.a s'.len s'.cap) K w:=
 dj o hb r.src (by have:=aL.len o;have:=aQ.len r;omega) fun t w' o' _ x DW=>k t w' (by show aP _ _ 5 1 t _;rw[List.map_append];exact o') (fun i hi=>by
  rcases DW with h | ⟨b,h,hle⟩
  .exact hq i (h ▸ hi)
  .rw[hi]at h;cases h;exact hq2 i (Nat.le_trans xq.size hle)) (xq.trans x fun i _ h=>hq i h)
theorem aa0(kind:Int){e:gN}(h1:e.key.length<=1048576)(h2:e.val.length<=1048576):(wrE kind e).length<=4194304:=by
 unfold wrE;simp only[List.length_append,List.length_cons];split
 .rw[lC];omega
 .split
  .simp[lC];omega
  .simp;omega
def Un(L:List (ca×gN)):Prop:=L.length<=65536/\∀p∈L,p.2.key.length<=1048576/\p.2.val.length<=1048576
theorem OH{kind:Int}{L:List (ca×gN)}(h:Un L):∀i,(((fi L).take i).flatMap (wrE kind)).length<=L.length * 4194304:=fun i=>by
 have h2:∀(l:List gN),(∀e∈l,e.key.length<=1048576/\e.val.length<=1048576)->(l.flatMap (wrE kind)).length<=l.length * 4194304:=by
  intro l hl
  induction l with
  | nil=>simp
  | cons e l ih=>
   have:=aa0 kind (hl e List.mem_cons_self).1 (hl e List.mem_cons_self).2;have:=ih fun e he=>hl e (List.mem_cons_of_mem _ he)
   simp only[List.flatMap_cons,List.length_append,List.length_cons];omega
 refine Nat.le_trans (h2 _ fun e he=>?_) (Nat.mul_le_mul_right _ (by simp only[List.length_take,List.length_map];omega));obtain⟨p,hp,rfl⟩:=List.mem_map.1 (List.mem_of_mem_take he);exact h.2 p hp
set_option maxHeartbeats 400000 in
theorem FW{kind lev:Int}{s:Sl}{L:List (ca×gN)}{K:Sl->Pw}(r:Gk w.heap s L)(hs:Un L)
  (k:∀t w',aL w'.heap w.heap.size t (wr kind lev (fi L))->Ext No w w'->K t w'):nY kind lev s w K:=by
 apply Jc;have hl:=r.len;have hs1:=hs.1;refine au.mk fun b w1 h1=>?_
 have hb:=h1.get;refine⟨_,Cell.af hb rfl,_,Cell.af hb rfl,_,Cell.af hb rfl,Ar.Qy (au.mk fun b1 w2 h2=>⟨_,Cell.af (ah hb h2.ext) rfl,?_⟩)⟩
 have o2:aL w2.heap w1.heap.size ⟨some ⟨b1,0,none⟩,3,3⟩ ([kind,lev,(L.length % 256:Int)]):=by
  have:=aL.new (n:=3) (l:=[kind,lev,((s.len:Int) % 256)]) h2 rfl;rw[hl]at this;exact this
 have hf:∀i (h:i < L.length),((fi L).take (i+1)).flatMap (wrE kind)=((fi L).take i).flatMap (wrE kind)++wrE kind L[i].2:=fun i h=>by
  rw[List.take_add_one,List.getElem?_eq_getElem (by simpa using h)];simp
 refine⟨fun m t i w'=>∃j:Nat,i=j/\j<=L.length/\m=L.length - j/\Ext No w w'/\w'.heap[b]? = some (.cells [.int .u8 kind,.int .u8 lev,.slice s.a s.len s.cap].toArray 214 (0,0))/\aL w'.heap w1.heap.size t ([kind,lev,(L.length % 256:Int)]++((fi L).take j).flatMap (wrE kind)),⟨L.length,0,rfl,by omega,by omega,h1.ext.no h2.ext,ah hb h2.ext,by simpa using o2⟩,?_⟩;rintro _ m0 t i w3 ⟨j,rfl,hj,hm,x3,w_,o3⟩;refine If.dec (fun h=>?_) (fun h=>?_)
 .refine vQ (r.rd.no x3) (by omega) h fun b4 w5 qO YU eb4 z5 x5=>?_
  simp only[Int.toNat_natCast]at qO YU;have nI:=x3.no x5;have e5:=(r.no nI).get qO;have YJ:=hs.2 _ (List.getElem_mem qO)
  have hlen:([kind,lev,(L.length % 256:Int)]++((fi L).take j).flatMap (wrE kind)).length<=274877906950:=by
   have:=OH (kind:=kind) hs j;simp only[List.length_append,List.length_cons,List.length_nil];omega
  have z1:=h1.size;have hx3:=x3.size;have ahZ:w1.heap.size<=w3.heap.size:=by have:=blt w_;have:=h1.at_;omega
  generalize hl0:([kind,lev,(L.length % 256:Int)]++((fi L).take j).flatMap (wrE kind))=l0 at *
  let Q:Nat->Prop:=fun i=>w1.heap.size<=i/\i≠b4
  have nb:¬ Q b:=fun h=>by have:=h1.at_;have:=h.1;omega
  have PU:¬ Q b4:=fun h=>h.2 rfl
  have hQ2:∀i,w5.heap.size<=i->Q i:=fun i hi=>⟨by omega,by omega⟩
  have rC:∀{w':Wd},Ext Q w5 w'->Ext No w w':=fun x=>nI.trans x fun i hi h=>by have:=h.1;omega
  have hq3:∀i,t.aw=some i->Q i:=fun i hi=>by have:=o3.lt hi;exact⟨this.1,by omega⟩
  have WU:=ah w_ x5;have o5:aL w5.heap w1.heap.size t l0:=o3.no x5
  have fin:∀{t':Sl}{w':Wd}{l:List Int},Ext Q w5 w'->aL w'.heap w1.heap.size t' (l0++l)->l=wrE kind L[j].2->∃m1,m1 < m0/\∃j':Nat,((j:Int)+1)=j'/\j'<=L.length/\m1=L.length - j'/\Ext No w w'/\w'.heap[b]? = some (.cells [.int .u8 kind,.int .u8 lev,.slice s.a s.len s.cap].toArray 214 (0,0))/\aL w'.heap w1.heap.size t' ([kind,lev,(L.length % 256:Int)]++((fi L).take j').flatMap (wrE kind)):=fun {t' w' l} x o e=>
   ⟨L.length - (j+1),by omega,j+1,by omega,by omega,rfl,rC x,ar WU x nb,by rw[hf j qO,<- List.append_assoc,hl0,<- e];exact o⟩
  have Cy:=aQ.len e5.k;have hvl:=aQ.len e5.v;refine⟨Ext Q w5,(Ext.refl _ _).drew,_,aj.aF (Cell.af YU rfl) PU,Ar.Qy ⟨_,aj.aF (Cell.af YU rfl) PU,au.mk fun b6 w6 n6=>?_⟩⟩;have x6:Ext Q w5 w6:=((Ext.refl _ _).drew).no n6.ext;refine⟨x6,Mj (s':=⟨some ⟨b6,0,none⟩,1,1⟩) (l:=l0) x6 hq3 hQ2 (o5.no ((Ext.refl No w5).drew.no n6.ext)) (by have:=x6.size;omega) (aL.new (n:=1) (l:=[((L[j].1.k.len:Int) % 256)]) n6 rfl).rd (by simp;omega) fun s7 w7 o7 q7 x7=>⟨x7,?_⟩⟩
  refine Mj x7 q7 hQ2 o7 (by have:=x7.size;omega) ((r.no (rC x7)).get qO).k (by simp;omega) fun s8 w8 o8 q8 x8=>⟨x8,_,Cell.af (ar WU x8 nb) rfl,?_⟩
  have e8:=(r.no (rC x8)).get qO;have TO:=ar YU x8 PU;have z8:=x8.size;refine If.beq (fun h2=>?_) (fun h2=>?_)
  .refine⟨_,Cell.af TO rfl,_,Cell.af TO rfl,_,Cell.af TO rfl,?_⟩;rw[e8.cd];refine AR e8.cdo fun s9 w9 o9 x9=>Mj (x8.no x9) q8 hQ2 (o8.no x9) (by have:=x9.size;omega) o9.rd (by simp[lC];omega) fun WZ eK Jv q10 dQ=>Ar.i64 (by omega) (fin dQ (by simpa only[List.append_assoc] using Jv) ?_)
   unfold wrE;rw[if_pos h2,Cy];simp
  .refine⟨_,Cell.af TO rfl,?_⟩;rw[e8.n];refine If.dec (fun h3=>?_) (fun h3=>?_)
   .refine⟨_,Cell.af TO rfl,by decide,Nm.as (e':=L[j].2.n / 256) (by rw[show min (Int.toNat 8) (IntKind.bits .i64)=8 from rfl,Int.fdiv_eq_ediv_of_nonneg _ (by decide),e8.n];rfl) (Ar.Qy ⟨_,Cell.af TO rfl,Ar.Qy (au.mk fun b9 w9 n9=>?_)⟩)⟩;refine Mj (s':=⟨some ⟨b9,0,none⟩,3,3⟩) (x8.no n9.ext) q8 hQ2 (o8.no n9.ext) (by have:=n9.ext.size;omega) (aL.new (n:=3) (l:=[1,L[j].2.n / 256 % 256,L[j].1.n % 256]) n9 rfl).rd (by simp;omega) fun WZ eK Jv q10 dQ=>?_
    have aa1:=ar YU dQ PU;have Sq:=dQ.size;refine⟨_,Cell.af aa1 rfl,_,Cell.af aa1 rfl,_,Cell.af aa1 rfl,?_⟩;rw[e8.ch];refine AR e8.cho fun Sn eM Su nH=>Mj (dQ.no nH) q10 hQ2 (Jv.no nH) (by have:=nH.size;omega) Su.rd (by simp[lC];omega) fun FR gO o12 q12 lJ=>Ar.i64 (by omega) (fin lJ (by simpa only[List.append_assoc] using o12) ?_)
    unfold wrE;rw[if_neg h2,if_pos h3,Cy,e8.n];simp
   .refine⟨Ext Q w8,(Ext.refl _ _).drew,_,aj.aF (Cell.af TO rfl) PU,Ar.Qy ⟨_,aj.aF (Cell.af TO rfl) PU,au.mk fun b9 w9 n9=>?_⟩⟩;have x9:Ext Q w8 w9:=((Ext.refl _ _).drew).no n9.ext;have hQ8:∀i,w8.heap.size<=i->Q i:=fun i hi=>hQ2 i (by omega)
    have tt:∀{w':Wd},Ext Q w8 w'->Ext Q w5 w':=fun x=>x8.trans x fun _ _ h=>h
    refine⟨x9,Mj (s':=⟨some ⟨b9,0,none⟩,2,2⟩) x9 q8 hQ8 (o8.no ((Ext.refl No w8).drew.no n9.ext)) (by have:=x9.size;omega) (aL.new (n:=2) (l:=[0,((L[j].1.v.len:Int) % 256)]) n9 rfl).rd (by simp;omega) fun WZ eK Jv q10 dQ=>⟨dQ,?_⟩⟩
    refine Mj dQ q10 hQ8 Jv (by have:=dQ.size;omega) ((r.no (rC (tt dQ))).get qO).v (by simp;omega) fun Sn eM Su q11 nH=>⟨nH,Ar.i64 (by omega) (fin (tt nH) (by simpa only[List.append_assoc] using Su) ?_)⟩
    unfold wrE;rw[if_neg h2,if_neg h3,Cy,hvl];simp
 .have e:j=L.length:=by omega
  subst e;refine k _ _ ?_ x3;refine aP.mono ?_ h1.ext.size;have e2:(fi L).take L.length=fi L:=List.take_of_length_le (by simp);rw[e2]at o3;unfold wr;simp only[List.length_map];exact o3
theorem _root_.Go.V.lA.short{kind lev:Int}{L:List (ca×gN)}(h:lA kind lev (fi L))(hl:L.length<=65536):Un L:=by
 refine⟨hl,fun p hp=>?_⟩;obtain⟨i,hi,rfl⟩:=List.getElem_of_mem hp;have:=h.JM i (by simpa using hi);simp only[List.getElem_map]at this;obtain⟨h1,h2⟩:=this;unfold D6 at h1;constructor
 .split at h1 <;> omega
 .split at h2
  .omega
  .obtain⟨_,h2⟩:=h2;split at h2 <;> omega
theorem Rj{kind lev:Int}{s:Sl}{L:List (ca×gN)}{K:Int->Int->Pw}(r:Gk w.heap s L)(hs:L.length<=65536)
  (k0:∀w',lA kind lev (fi L)->Ext No w w'->K ((wr kind lev (fi L)).length:Int) 0 w') (k1:∀c w',¬ lA kind lev (fi L)->c≠0->Ext No w w'->K 0 c w'):vi kind lev s w K:=by
 apply LD;refine au.mk fun b w1 h1=>?_
 have hb:=h1.get;refine⟨_,Cell.af hb rfl,_,Cell.af hb rfl,_,Cell.af hb rfl,CM (r.no h1.ext) (by omega) (fun w2 hr x2=>If.bne (fun h=>(h rfl).elim) fun _=>?_) (fun c w2 hr hc x2=>If.bne (fun _=>k1 c _ hr hc (h1.ext.no x2)) fun h=>(hc h).elim)⟩;have zI:=ah hb x2;refine⟨_,Cell.af zI rfl,_,Cell.af zI rfl,_,Cell.af zI rfl,FW (r.no (h1.ext.no x2)) (hr.short hs) fun t w3 o3 x3=>?_⟩;rw[aL.len o3];exact k0 _ hr ((h1.ext.no x2).no x3)
def _root_.Go.V.pad(l:List Int):List Int:=l++List.replicate (224 - l.length) 0
theorem _root_.Go.V.Em{l:List Int}(h:l.length<=224):(pad l).length=224:=by simp[pad];omega
theorem Mk{kind lev:Int}{s:Sl}{L:List (ca×gN)}{K:Sl->Int->Pw}(r:Gk w.heap s L)(hs:L.length<=65536)
  (k0:∀t w',lA kind lev (fi L)->(wr kind lev (fi L)).length<=224->aL w'.heap w.heap.size t (pad (wr kind lev (fi L)))->Ext No w w'->K t 0 w')
  (k1:∀c w',¬ (lA kind lev (fi L)/\(wr kind lev (fi L)).length<=224)->c≠0->Ext No w w'->K ⟨none,0,0⟩ c w'):qB kind lev s w K:=by
 apply GP;refine au.mk fun b w1 h1=>?_
 have hb:=h1.get;refine⟨_,Cell.af hb rfl,_,Cell.af hb rfl,_,Cell.af hb rfl,CM (r.no h1.ext) (by omega) (fun w2 hr x2=>If.bne (fun h=>(h rfl).elim) fun _=>?_) (fun c w2 hr hc x2=>If.bne (fun _=>k1 c _ (fun h=>hr h.1) hc (h1.ext.no x2)) fun h=>(hc h).elim)⟩;have zI:=ah hb x2;refine⟨_,Cell.af zI rfl,_,Cell.af zI rfl,_,Cell.af zI rfl,FW (r.no (h1.ext.no x2)) (hr.short hs) fun t w3 o3 x3=>?_⟩;have iC:=(h1.ext.no x2).no x3;have hl:=aL.len o3;refine If.dec (fun h=>k1 3 _ (fun h'=>by omega) (by decide) iC) (fun h=>Ar.i64 (by omega) ?_);have e:(224 - (t.len:Int))=((224 - (wr kind lev (fi L)).length:Nat):Int):=by omega
 rw[e];refine Fw (k:= .i64) (ie:=Tryz.t5) (z:= .int .u8 0) (by kernel_rfl) (by kernel_rfl) (by kernel_rfl) (by kernel_rfl) (by kernel_rfl) (by kernel_rfl) rfl (by kernel_rfl) o3 (x3.size) (by omega) fun s' w' o _ x _=>k0 _ _ hr (by omega) (aP.mono (base:=w2.heap.size) ?_ (h1.ext.no x2).size) (iC.trans x fun i hi h=>?_)
 .rw[<- List.map_replicate,<- List.map_append]at o;exact o
 .have:=(o3.lt h).1;have:=(h1.ext.no x2).size;omega
end
end Go.Proofs.YtiigcapldngijaaGreat
set_option maxRecDepth 100000
namespace Go.Proofs.YtiigcapldngijaaGreat
open Go.V Go.V.Dk Go.V.Rn
section
variable {w w':Wd} {T T':Nat->Nat} {s:SA}
def PW(p:Option Addr)(tenant:Int)(b Ek Nc:Nat)(J0:Pw)(w9:Wd):Prop:=
 ∃GS:Int,Cell w9 (Addr.mk b 0 none) (.int .u32 GS)/\
 cH p GS w9 fun Xg eK=>
 If Xg (
 False) (
 ∃S:Pw,S (ae eK)/\
 Nn p fun a_1=>
 ∃Ml:Option Addr,aj S a_1 (.pointer Ml)/\
 ∃Mm:Int,aj S (Addr.mk b 0 none) (.int .u32 Mm)/\
 Ar .i64 Mm fun z=>
 cF Ml z (ae eK) fun WO afS eM=>
 S eM/\
 If (afS != 0) (
 False) (
 ∃S:Pw,S (ae eM)/\
 Nn p fun a_2=>
 ∃Mn:Option Addr,aj S (a_2.add 1) (.pointer Mn)/\
 ∃Uo:Int,aj S ((Addr.mk b 0 none).add 2) (.int .u16 Uo)/\
 bV Mn tenant Uo (ae eM) fun QP afT gO=>
 S gO/\
 If (afT != 0) (
 False) (
 ∃Kr:Int,Cell gO (Addr.mk Ek 0 none) (.int .u32 Kr)/\
 ∃Ks:Int,Cell gO ((Addr.mk Ek 0 none).add 1) (.int .u8 Ks)/\
 ∃Kt:Int,Cell gO ((Addr.mk Ek 0 none).add 2) (.int .u8 Kt)/\
 ∃Ku:Int,Cell gO ((Addr.mk Ek 0 none).add 3) (.int .u32 Ku)/\
 ∃Kw:Int,Cell gO ((Addr.mk Ek 0 none).add 4) (.int .u64 Kw)/\
 ∃Kx:Int,Cell gO ((Addr.mk Ek 0 none).add 5) (.int .u16 Kx)/\
 jZ QP Kr Ks Kt Ku Kw Kx WO gO fun Jn afU fV=>
 If (afU != 0) (
 False) (
 ∃VR:Int,Cell fV (Addr.mk Ek 0 none) (.int .u32 VR)/\
 ∃G_:Int,Cell fV ((Addr.mk Ek 0 none).add 1) (.int .u8 G_)/\
 ∃Ha:Int,Cell fV ((Addr.mk Ek 0 none).add 2) (.int .u8 Ha)/\
 ∃rK:Int,Cell fV ((Addr.mk Ek 0 none).add 3) (.int .u32 rK)/\
 ∃rL:Int,Cell fV ((Addr.mk Ek 0 none).add 4) (.int .u64 rL)/\
 ∃zw:Int,Cell fV ((Addr.mk Ek 0 none).add 5) (.int .u16 zw)/\
 List.length (α:=Value) [.int .u32 VR,.int .u8 G_,.int .u8 Ha,.int .u32 rK,.int .u64 rL,.int .u16 zw,.slice Jn.a Jn.len Jn.cap]=7/\bO fV (Addr.mk Nc 0 none) [.int .u32 VR,.int .u8 G_,.int .u8 Ha,.int .u32 rK,.int .u64 rL,.int .u16 zw,.slice Jn.a Jn.len Jn.cap] fun lR=>
 ∃S:Pw,S (ae lR)/\
 Nn p fun a_3=>
 ∃Rk:Option Nat,aj S (a_3.add 4) (.map Rk)/\
 ∃Uq:Int,aj S (Addr.mk b 0 none) (.int .u32 Uq)/\
 ∃zy:Int,aj S (Addr.mk Nc 0 none) (.int .u32 zy)/\
 ∃Hb:Int,aj S ((Addr.mk Nc 0 none).add 1) (.int .u8 Hb)/\
 ∃Hc:Int,aj S ((Addr.mk Nc 0 none).add 2) (.int .u8 Hc)/\
 ∃Mo:Int,aj S ((Addr.mk Nc 0 none).add 3) (.int .u32 Mo)/\
 ∃Mp:Int,aj S ((Addr.mk Nc 0 none).add 4) (.int .u64 Mp)/\
 ∃Mq:Int,aj S ((Addr.mk Nc 0 none).add 5) (.int .u16 Mq)/\
 ∃JN:Sl,aj S ((Addr.mk Nc 0 none).add 6) (.slice JN.a JN.len JN.cap)/\
 ∃mU,Sem.run pz (Instr.mapUpdate 176 (.map Rk) (.int .u32 Uq) (.agg ([.int .u32 zy,.int .u8 Hb,.int .u8 Hc,.int .u32 Mo,.int .u64 Mp,.int .u16 Mq,.slice JN.a JN.len JN.cap]).toArray)) ((ae lR)) = .ok () mU/\
 S mU/\
 J0 mU))))
structure OnD(s:SA)(k:KP)(q:RK):Prop where
 pg:k.l.pg=k.n
 new:∀x∈s.ps,x.n≠k.n
 right:bw s.F=true
 free:Rn.hasB k.n s.F=false
 at_:s.D.now.getD k.n.toNat []=bE q.l k.l k.b
 key:ki s.ks ⟨k.l.t,k.l.gn⟩=some q
 b8:B8 k.b
 len:k.b.length=224
 ok:k.l.OK
 kd:1<=k.l.kd/\k.l.kd<=3
 n:2<=k.n/\k.n < s.N
abbrev SA.Ur(s:SA)(k:KP)(sl:Sl):SA:={ s with ps:=s.ps++[⟨k.n,k.l,sl,k.b⟩] }
set_option maxHeartbeats 1000000 in
theorem Us{k:KP}{q:RK}{b b1 b2:Nat}{J:Pw}{w0:Wd}{cs:List Value}(y:Sy w T s)(D:OnD s k q)(s0:bu T w0 T w)(h0:w.heap[b]? = some (.cells [Value.int .u32 k.l.pg,.int .u64 k.l.cm,.int .u16 k.l.gn].toArray 44 (0,0)))(h1:w.heap[b1]? = some (.cells k.l.c.toArray 89 (0,0)))(h2:w.heap[b2]? = some (.cells cs.toArray 182 (0,0)))(Nz:cs.length=7)(t0:T b=0)(t1:T b1=0)(t2:T b2=0)(zI:w0.heap.size<=b2)(n1:b≠b2)(n2:b1≠b2)
  (kk:∀sl T' w',w'.heap[b1]? = some (.cells k.l.c.toArray 89 (0,0))->w'.heap[b2]? = some (.cells (k.l.c++[sl.v]).toArray 182 (0,0))->Sy w' T' (s.Ur k sl)->bu T w0 T' w'->J w'):PW s.p k.l.t b b1 b2 J w:=by
 have hN:=y.dk.c.nN;have hn:=D.n;have hpg:=D.pg;refine⟨k.l.pg,Cell.af h0 rfl,CI y D.right fun w1 x1=>?_⟩;have hh:Rn.hasB k.l.pg s.F=false:=by rw[hpg];exact D.free
 rw[hh];have y1:=y.no x1;have y1d:=y1.no (Ext.refl No w1).drew;have c1:=y1d.dk.c;refine If.no ⟨Ext No w1,(Ext.refl _ _).drew,Nn.mk ⟨s.d.p,aj.aF (Cell.af y1.pb.r rfl) (fun h=>h),k.l.pg,aj.aF (Cell.af (ah h0 x1) rfl) (fun h=>h),Ar.i64 (by omega) (jm y1d.dk.r (fun hh=>by rw[c1.has (by omega)]at hh;cases hh) (fun _ hh=>by rw[c1.down]at hh;cases hh) fun _ _ s2 w2 o2 x2=>⟨x2.an,If.bne (fun h=>absurd rfl h) fun _=>?_⟩)⟩⟩;rw[hpg,D.at_]at o2;have lJ:Ext No w1 w2:=x2.an;have vJ:=x1.no lJ;have y2:=y.no vJ;have y2d:=y2.no (Ext.refl No w2).drew;refine⟨Ext No w2,(Ext.refl _ _).drew,Nn.mk ⟨s.rB,aj.aF (Cell.af y2.pb.r rfl) (fun h=>h),k.l.gn,aj.aF (Cell.af (ah h0 vJ) rfl) (fun h=>h),gM y2d.rn.r D.key fun s3 w3 o3 x3=>⟨x3.an,If.bne (fun h=>absurd rfl h) fun _=>?_⟩⟩⟩;have DU:Ext No w2 w3:=x3.an;have iC:=vJ.no DU;have y3:=y.no iC;have g1:=ah h1 iC;have xe:=y2d.rn.r.key q (List.mem_of_find?_eq_some D.key);refine⟨_,Cell.af g1 rfl,_,Cell.af g1 rfl,_,Cell.af g1 rfl,_,Cell.af g1 rfl,_,Cell.af g1 rfl,_,Cell.af g1 rfl,FI D.ok ⟨D.kd.1,by have:=D.kd.2;omega⟩ o3.rd xe.2.1 (by rw[aL.len o3,<- aQ.len xe.1];exact xe.2.2) (o2.rd.no DU) D.b8 D.len fun s4 w4 o4 x4=>If.bne (fun h=>absurd rfl h) fun _=>?_⟩;have th:=iC.no x4;have z3:=iC.size;have y4:=y3.tag x4 12;have Mr:=ah h1 th;have l1:=aN h1;have l2:=aN h2;have l0:=aN h0;have e4:∀i,i < w.heap.size->fY T w3.heap.size w4.heap.size 12 i=T i:=fun i hi=>aY _ _ _ _ i (by omega)
 refine⟨_,Cell.af Mr rfl,_,Cell.af Mr rfl,_,Cell.af Mr rfl,_,Cell.af Mr rfl,_,Cell.af Mr rfl,_,Cell.af Mr rfl,rfl,bO.mk (ah h2 th) (by show 0+7<=cs.length;omega) (a_ rfl) fun w5 h5=>?_⟩;have PY:=h5.get (ah h2 th)
 have e7:setL cs 0 [Value.int .u32 k.l.t,.int .u8 k.l.kd,.int .u8 k.l.lv,.int .u32 k.l.pg,.int .u64 k.l.cm,.int .u16 k.l.gn,s4.v]=k.l.c++[s4.v]:=by
  match cs,Nz with
  | [_,_,_,_,_,_,_],_=>rfl
 have g15:=ar Mr h5.ext n2;have g05:=ar (ah h0 th) h5.ext n1;have afV:Cell w5 ⟨b,0,none⟩ (.int .u32 k.n):=by rw[<- hpg];exact Cell.af g05 rfl
 have y5:=y4.loc h5.ext fun i e=> .inl (by subst e;rw[e4 _ l2];exact t2)
 have nk:∀i,fY T w3.heap.size w4.heap.size 12 i≠7->¬ (i=s.kb):=fun i h e=>h (by rw[e];exact y5.kn.t)
 have y5d:=y5.no (Ext.refl No w5).drew;obtain⟨w6,h6,m6,x6,z6⟩:=aG (P:=pz) (a:=k.n) (v:= .agg (#[.int .u32 k.l.t,.int .u8 k.l.kd,.int .u8 k.l.lv,.int .u32 k.l.pg,.int .u64 k.l.cm,.int .u16 k.l.gn,s4.v])) ku B_ y5d.kn.r;refine⟨Ext (·=s.kb) w5,(Ext.refl _ _).drew,Nn.mk ⟨some s.kb,aj.aF (Cell.af y5.pb.r rfl) (nk _ (by rw[y5.pb.t];decide)),k.n,aj.aF afV (nk _ (by rw[e4 _ l0,t0];decide)),?_⟩⟩;have Ms:w5.heap[b2]? = some (.cells (k.l.c++[s4.v]).toArray 182 (0,0)):=by rw[<- e7];exact PY
 have Y7:=nk b2 (by rw[e4 _ l2,t2];decide);refine⟨_,aj.aF (Cell.af Ms rfl) Y7,_,aj.aF (Cell.af Ms rfl) Y7,_,aj.aF (Cell.af Ms rfl) Y7,_,aj.aF (Cell.af Ms rfl) Y7,_,aj.aF (Cell.af Ms rfl) Y7,_,aj.aF (Cell.af Ms rfl) Y7,s4,aj.aF (Cell.af Ms rfl) Y7,w6,h6,x6.an,?_⟩
 have ep:zU k.n (.agg (#[.int .u32 k.l.t,.int .u8 k.l.kd,.int .u8 k.l.lv,.int .u32 k.l.pg,.int .u64 k.l.cm,.int .u16 k.l.gn,s4.v])) (s.ps.map KP.e)=(s.ps++[(⟨k.n,k.l,s4,k.b⟩ : KP)]).map KP.e:=by
  rw[rI,List.map_append];rfl;intro p hp e;obtain⟨x,hx,rfl⟩:=List.mem_map.1 hp;exact D.new x hx e
 rw[ep]at m6;have z45:=h5.ext.size
 obtain⟨y6,s6⟩:=y5d.adf (k:=⟨k.n,k.l,s4,k.b⟩) m6 x6 ⟨(o4.rd.ext h5.ext.drew fun a i ha hi e=>by
  have h1:=(o4.lt (show s4.aw=some i by simp[Sl.aw,ha,hi])).1;have h2:i=b2:=e
  omega),fun i hi=>⟨bT _ (o4.lt hi).1 (o4.lt hi).2,Nat.lt_of_lt_of_le (o4.lt hi).2 z45⟩,D.b8,D.len,D.ok,by have:=D.kd;show 1<=k.l.kd/\k.l.kd<=4;omega⟩
 have JO:=ar g15 x6.an (nk b1 (by rw[e4 _ l1,t1];decide));have g26:=ar Ms x6.an Y7
 have s4':bu T w3 (fY T w3.heap.size w4.heap.size 12) w4:=⟨aY _ _ _ _,x4.az⟩
 have s5:bu T w0 (fY T w3.heap.size w4.heap.size 12) w5:=((s0.nx iC).trans s4').out h5.ext zI;exact kk s4 _ w6 JO g26 y6 (s5.trans ⟨s6.a,s6.x.an⟩)
set_option maxHeartbeats 1000000 in
theorem Mt{k:KP}{q:RK}(D:OnD s k q):G9 s k (fun s'=>∃sl,s'=s.Ur k sl):=by
 intro w T K y kk;apply qg;refine fun b w1 n1=>?_
 have y1:=y.no n1.ext;have gb:w1.heap[b]? = some (.cells [Value.int .u32 k.l.pg,.int .u64 k.l.cm,.int .u16 k.l.gn].toArray 44 (0,0)):=n1.get;have z1:=n1.size;have a1:=n1.at_;have hN:=y.dk.c.nN;have hn:=D.n;have hpg:=D.pg;have HR:=D.kd;refine G8 y1 (If.bne (fun h=>absurd rfl h) fun _=>⟨fun u=>w1=u,If.dec (fun h=>by omega) fun _=>If.dec (fun h=>by omega) fun _=>⟨_,Cell.af gb rfl,TV y1 (by omega) ?_⟩,?_⟩)
 .rw[decide_eq_true (by omega:2<=k.l.pg/\k.l.pg < s.N)];exact If.no rfl
 rintro _ _ rfl;refine⟨_,Cell.af gb rfl,_,Cell.af gb rfl,_,Cell.af gb rfl,fx rfl rfl (a_ rfl) fun w6 g6 z6 x6=>?_⟩;have y6:=y1.no x6;have Gh:=ah gb x6;have zk:=n1.ext.no x6
 have look:∀w,cY w.heap lz s.kb (s.ps.map KP.e)->Sem.run pz (Instr.lookup 176 (.map (some s.kb)) (.int .u32 k.l.pg) true) w = .ok (.tuple #[.agg #[.int .u32 0,.int .u8 0,.int .u8 0,.int .u32 0,.int .u64 0,.int .u16 0,.slice none 0 0],.bool false]) w:=fun w hw=>by
  have:=mX (P:=pz) (a:=k.l.pg) ku B_ (JJ w) hw;rw[AO fun p hp e=>by obtain⟨x,hx,rfl⟩:=List.mem_map.1 hp;exact D.new x hx (e.trans hpg)]at this;exact this
 have fin:∀{b2:Nat}{w9:Wd}{cs:List Value}{J:Pw},Ext No w6 w9->w9.heap[b2]? = some (.cells cs.toArray 182 (0,0))->cs.length=7->w6.heap.size<=b2->(∀sl T' w',w'.heap[w1.heap.size]? = some (.cells k.l.c.toArray 89 (0,0))->w'.heap[b2]? = some (.cells (k.l.c++[sl.v]).toArray 182 (0,0))->Sy w' T' (s.Ur k sl)->bu T w T' w'->J w')->PW s.p k.l.t b w1.heap.size b2 J w9:=fun {b2 w9 cs J} x9 g9 hc zI kj=>by
  have y9:=y6.no x9;exact Us y9 D (.no (zk.no x9)) (ah Gh x9) (ah g6 x9) g9 hc (y.out _ (by omega)) (y.out _ (by omega)) (y.out _ (by omega)) (by omega) (by omega) (by omega) kj
 have last:∀{b2:Nat}{u:Wd}{sl:Sl}{T':Nat->Nat},u.heap[w1.heap.size]? = some (.cells k.l.c.toArray 89 (0,0))->u.heap[b2]? = some (.cells (k.l.c++[sl.v]).toArray 182 (0,0))->Sy u T' (s.Ur k sl)->bu T w T' u->T0 w1.heap.size b2 K u:=fun {b2 u sl T'} h1 h2 yu su=>by
  have hp:=yu.kn.p ⟨k.n,k.l,sl,k.b⟩ (List.mem_append.2 (.inr (List.mem_singleton.2 rfl)));exact JI (k:=⟨k.n,k.l,sl,k.b⟩) h1 h2 hp.1 D.len fun xI w' o' x'=>kk xI _ T' w' (o'.mono su.x.size) (fun i hi=>yu.out i (o'.lt hi).1) (yu.no x') ⟨sl,rfl⟩ (su.nx x')
 refine⟨Ext No w6,(Ext.refl _ _).drew,Nn.mk ⟨some s.kb,aj.aF (Cell.af y6.pb.r rfl) (fun h=>h),k.l.pg,aj.aF (Cell.af Gh rfl) (fun h=>h),?_,?_⟩⟩
 .refine⟨_,_,_,_,_,_,⟨none,0,0⟩,false,ae w6,look _ y6.kn.r,(Ext.refl _ _).drew,fun b2 w8 n8=>⟨n8.ext.an,rfl,bO.mk n8.get (Nat.le_of_ble_eq_true rfl) (a_ rfl) fun w9 h9=>?_⟩⟩;have a8:=n8.at_;have zI:w6.heap.size<=b2:=by rw[a8];exact Nat.le_refl _
  have x9:Ext No w6 w9:=n8.ext.an.out h9.ext zI;have g9:=h9.get n8.get;refine⟨x9,fun u=>∃sl T',u.heap[w1.heap.size]? = some (.cells k.l.c.toArray 89 (0,0))/\u.heap[b2]? = some (.cells (k.l.c++[sl.v]).toArray 182 (0,0))/\Sy u T' (s.Ur k sl)/\bu T w T' u,If.not (If.no (fin x9 g9 rfl zI fun sl T' u h1 h2 h3 h4=>⟨sl,T',h1,h2,h3,h4⟩)),?_⟩;rintro _ u ⟨sl,T',h1,h2,h3,h4⟩;exact last h1 h2 h3 h4
 .refine fun b2 w8 n8=>⟨n8.ext.an,_,_,_,_,_,_,⟨none,0,0⟩,false,w8,look _ (y6.kn.r.ext (n8.ext.an) fun h=>h),n8.ext.an,rfl,bO.mk n8.get (Nat.le_of_ble_eq_true rfl) (a_ rfl) fun w9 h9=>?_⟩
  have a8:=n8.at_;have zI:w6.heap.size<=b2:=by rw[a8];exact Nat.le_refl _
  have x9:Ext No w6 w9:=n8.ext.an.out h9.ext zI;have g9:=h9.get n8.get;refine⟨x9,fun u=>∃sl T',u.heap[w1.heap.size]? = some (.cells k.l.c.toArray 89 (0,0))/\u.heap[b2]? = some (.cells (k.l.c++[sl.v]).toArray 182 (0,0))/\Sy u T' (s.Ur k sl)/\bu T w T' u,If.not (If.no (fin x9 g9 rfl zI fun sl T' u h1 h2 h3 h4=>⟨sl,T',h1,h2,h3,h4⟩)),?_⟩;rintro _ u ⟨sl,T',h1,h2,h3,h4⟩;exact last h1 h2 h3 h4
end
abbrev A1(b:Nat):Addr:=⟨b,0,none⟩
structure iW(h:Array Obj)(n0:Nat)(b:Sl)(P:List Int)(kind lev:Int)(ls:Sl)(place fault:Int):Prop where
 c1:h[n0]? = some (.cells [.slice b.a b.len b.cap].toArray 22 (0,0))
 c2:h[n0+1]? = some (.cells [.int .u8 kind,.int .u8 lev,.slice ls.a ls.len ls.cap].toArray 214 (0,0))
 c3:h[n0+2]? = some (.cells [.int .i64 place].toArray 3 (0,0))
 c4:h[n0+3]? = some (.cells [.int .i64 fault].toArray 3 (0,0))
 c5:h[n0+4]? = some (.cells [.func (.func 312) #[] #[.pointer (some (A1 (n0+3)))]].toArray 114 (0,0))
 c6:h[n0+5]? = some (.cells [.func (.func 313) #[] #[.pointer (some (A1 (n0+3))),.pointer (some (A1 (n0+2))),.pointer (some (A1 (n0+4))),.pointer (some (A1 n0))]].toArray 412 (0,0))
 c7:h[n0+6]? = some (.cells [.func (.func 316) #[] #[]].toArray 171 (0,0))
 rd:aQ h b P
 low:∀i,b.aw=some i->P≠[]->i < n0
 p8:B8 P
 len:P.length=224
section
variable {w:Wd} {n0:Nat} {b:Sl} {P:List Int} {kind lev:Int} {ls:Sl} {place fault:Int}
theorem iW.ext{S:Nat->Prop}{w':Wd}(d:iW w.heap n0 b P kind lev ls place fault)(x:Ext S w w')(hS:∀i,i < n0+7->¬ S i):iW w'.heap n0 b P kind lev ls place fault:=
 ⟨ar d.c1 x (hS _ (by omega)),ar d.c2 x (hS _ (by omega)),ar d.c3 x (hS _ (by omega)),ar d.c4 x (hS _ (by omega)),ar d.c5 x (hS _ (by omega)),ar d.c6 x (hS _ (by omega)),ar d.c7 x (hS _ (by omega)),
  d.rd.ext x (fun a i ha hi=>hS i (by have:=d.low i (by simp[Sl.aw,ha,hi]) (by intro h;have:=d.len;rw[h]at this;simp at this);omega)),d.low,d.p8,d.len⟩
theorem iW.no{w':Wd}(d:iW w.heap n0 b P kind lev ls place fault)(x:Ext No w w'):iW w'.heap n0 b P kind lev ls place fault:=d.ext x fun _ _ h=>h
theorem iW.Mu{w':Wd}{p:Int}(d:iW w.heap n0 b P kind lev ls place fault)(h:mG w (n0+2) (.cells [.int .i64 p].toArray 3 (0,0)) w'):iW w'.heap n0 b P kind lev ls p fault:=by
 have o:∀{i:Nat}{o:Obj},i≠n0+2->w.heap[i]? = some o->w'.heap[i]? = some o:=fun hi ho=>by rw[h.other hi];exact ho
 exact⟨o (by omega) d.c1,o (by omega) d.c2,h.get d.c3,o (by omega) d.c4,o (by omega) d.c5,o (by omega) d.c6,o (by omega) d.c7,
  d.rd.ext h.ext (fun a i ha hi=>by have:=d.low i (by simp[Sl.aw,ha,hi]) (by intro h;have:=d.len;rw[h]at this;simp at this);omega),d.low,d.p8,d.len⟩
theorem iW.setNode{w':Wd}{Y8 adr:Int}{pB:Sl}(d:iW w.heap n0 b P kind lev ls place fault)(h:mG w (n0+1) (.cells [.int .u8 Y8,.int .u8 adr,.slice pB.a pB.len pB.cap].toArray 214 (0,0)) w'):iW w'.heap n0 b P Y8 adr pB place fault:=by
 have o:∀{i:Nat}{o:Obj},i≠n0+1->w.heap[i]? = some o->w'.heap[i]? = some o:=fun hi ho=>by rw[h.other hi];exact ho
 exact⟨o (by omega) d.c1,h.get d.c2,o (by omega) d.c3,o (by omega) d.c4,o (by omega) d.c5,o (by omega) d.c6,o (by omega) d.c7,
  d.rd.ext h.ext (fun a i ha hi=>by have:=d.low i (by simp[Sl.aw,ha,hi]) (by intro h;have:=d.len;rw[h]at this;simp at this);omega),d.low,d.p8,d.len⟩
theorem aa2{s:Sl}{P pre x suf:List Int}{lo hi:Int}{K:Sl->Prop}(r:aQ w.heap s P)(hP:P=pre++(x++suf))(h1:lo=pre.length)(h2:hi=pre.length+x.length)(k:∀s',aQ w.heap s' x->K s'):Cut s lo hi (((s.cap:Nat):Int)) 1 K:=by
 have hl:=aQ.len r;have hc:=Rd.cap r;have hPl:P.length=pre.length+(x.length+suf.length):=by rw[hP];simp
 subst h1 h2;refine Cut.mk (by omega) (by omega) (by omega) (Int.le_refl _) (k _ ?_);have:=Rd.cut r (lo:=pre.length) (hi:=pre.length+x.length) (mx:=s.cap) (by omega) (by omega) (by omega);rw[Nat.mul_one,Nat.mul_one,show pre.length+x.length - pre.length=x.length by omega]at this
 have e:(List.take x.length (List.drop pre.length (P.map (Value.int .u8))))=x.map (Value.int .u8):=by
  rw[hP,<- List.map_drop,<- List.map_take,List.drop_left,List.take_left]
 rw[e]at this;have e2:((pre.length:Int)+(x.length:Int) - (pre.length:Int)).toNat=x.length:=by omega
 have e3:((s.cap:Int) - (pre.length:Int)).toNat=s.cap - pre.length:=by omega
 rw[e2,e3];exact this
abbrev ads(n0:Nat):Value:= .func (.func 313) #[] #[.pointer (some (A1 (n0+3))),.pointer (some (A1 (n0+2))),.pointer (some (A1 (n0+4))),.pointer (some (A1 n0))]
theorem lD{may:Value}{size:Int}{pre x suf:List Int}{K:Int->Pw}{rd:Bool}(d:iW w.heap n0 b P kind lev ls pre.length (-1))(hP:P=pre++(x++suf))(hx:(x.length:Int)=size)(h1:1<=size)(h8:size<=8)
  (hm:∀K':Bool->Pw,K' true w->aC pz true may [.int .u64 (num x)] [.one (.bool)] K' bJ w)
  (k:∀w',iW w'.heap n0 b P kind lev ls (pre.length+size) (-1)->Ext (·=n0+2) w w'->w'.heap.size=w.heap.size->K (num x) w'):aC pz rd (ads n0) [.int .i64 size,may] [.one (.int .u64)] K bJ w:=by
 refine DB (c0:=A1 (n0+3)) (c1:=A1 (n0+2)) (c2:=A1 (n0+4)) (c3:=A1 n0) (DA ?_);have hPl:pre.length+(x.length+suf.length)=224:=by rw[<- d.len,hP];simp
 have hx8:B8 x:=d.p8.sub fun y hy=>by rw[hP];simp[hy]
 refine⟨_,Cell.af d.c4 rfl,If.dec (fun h=>by omega) fun _=>⟨_,Cell.af d.c3 rfl,Ar.i64 (by omega) (If.dec (fun h=>by omega) fun _=>⟨_,Cell.af d.c1 rfl,_,Cell.af d.c3 rfl,_,Cell.af d.c3 rfl,Ar.i64 (by omega) ?_⟩)⟩⟩;refine aa2 d.rd hP rfl (by omega) fun s' r'=>mW r' hx8 (by omega) (by omega) (hm _ (If.no ⟨_,Cell.af d.c3 rfl,Ar.i64 (by omega) (aH.mk d.c3 (by simp) rfl fun w' h=>?_)⟩))
 exact k w' (d.Mu h) h.ext h.size
theorem PZ{may:Value}{pre x suf:List Int}{K:Sl->Pw}{rd:Bool}(d:iW w.heap n0 b P kind lev ls pre.length (-1))(hP:P=pre++(((x.length:Int))::x++suf))(hn:n0+7<=w.heap.size)(Yo:cB may=true)
  (hm:∀w' (K':Bool->Pw),Ext No w w'->K' true w'->aC pz true may [.int .u64 (x.length:Int)] [.one (.bool)] K' bJ w')
  (k:∀s w',iW w'.heap n0 b P kind lev ls (pre.length+1+x.length) (-1)->aL w'.heap w.heap.size s x->Ext (·=n0+2) w w'->K s w') :
  aC pz rd (.func (.func 314) #[] #[.pointer (some (A1 (n0+5))),.pointer (some (A1 (n0+2))),.pointer (some (A1 (n0+3))),.pointer (some (A1 n0))]) [may] [.one (.sl)] K bJ w:=by
 refine Dz (c0:=A1 (n0+5)) (c1:=A1 (n0+2)) (c2:=A1 (n0+3)) (c3:=A1 n0) (Dy ?_);have hPl:pre.length+(1+x.length+suf.length)=224:=by rw[<- d.len,hP];simp;omega
 refine⟨Yo,au.mk fun b1 w1 n1=>?_⟩;have d1:=d.no n1.ext;have Cz:=n1.at_;refine⟨_,Cell.af d1.c6 rfl,?_⟩;have hP2:P=pre++([(x.length:Int)]++(x++suf)):=by rw[hP];simp
 have e1:num [(x.length:Int)]=x.length:=by simp[num]
 refine lD (x:=[(x.length:Int)]) d1 hP2 rfl (by decide) (by decide) (fun K' hK=>?_) fun w2 d2 x2 z2=>?_
 .rw[e1];apply Aa;apply z_;refine⟨_,Cell.af n1.get rfl,hm w1 _ n1.ext (If.yes (Ar.i64 (by omega) ⟨_,Cell.af d1.c3 rfl,Ar.i64 (by omega) (Ar.i64 (by omega) ?_)⟩))⟩;have:decide ((x.length:Int)<=224 - (pre.length:Int) - 1)=true:=decide_eq_true (by omega);rw[this];exact hK
 rw[e1];refine⟨_,Cell.af d2.c4 rfl,If.dec (fun h=>by omega) fun _=>⟨_,Cell.af d2.c3 rfl,Ar.i64 (by omega) (Ar.i64 (by omega) (aH.mk d2.c3 (by simp) rfl fun w3 h3=>au.mk fun b4 w4 n4=>?_))⟩⟩;have d3:iW w3.heap n0 b P kind lev ls (pre.length+1+x.length) (-1):=d2.Mu h3;have d4:=d3.no n4.ext;refine⟨_,Cell.af d4.c1 rfl,_,Cell.af d4.c3 rfl,Ar.i64 (by omega) (Ar.i64 (by omega) ⟨_,Cell.af d4.c3 rfl,?_⟩)⟩;have hP3:P=(pre++[(x.length:Int)])++(x++suf):=by rw[hP];simp
 refine aa2 d4.rd hP3 (by simp) (by simp) fun s' r'=>?_
 have o4:aL w4.heap w3.heap.size ⟨some ⟨b4,0,none⟩,0,0⟩ []:=aL.new (l:=[]) n4 rfl;have z4:=n4.size;have z3:=h3.size;have z1:=n1.size;have YU:=n4.at_;refine Mj (s:=⟨some ⟨b4,0,none⟩,0,0⟩) (Q:=fun i=>w3.heap.size<=i) (Ext.refl _ w4) (fun i hi=>by have:=Option.some.inj hi;simp only at this;omega) (fun i hi=>by omega) o4 (by omega) r' (by simp;omega) fun s5 w5 o5 q5 x5=>?_
 refine k _ _ (d4.ext x5 fun i hi h=>by omega) (aP.mono o5 (by omega)) ?_;refine((((n1.ext.az).trans x2 fun i _ h=>h).trans h3.ext fun i _ h=>h).no n4.ext).trans x5 fun i hi h=>by omega
theorem Rl:∀(l:List Int),(∀y∈l,y=0)->num l=0:=by
 intro l h
 have:∀(l:List Int)(a:Int),(∀y∈l,y=0)->a=0->l.foldl (fun n x=>n * 256+x) a=0:=by
  intro l
  induction l with
  | nil=>intro a _ h;exact h
  | cons y l ih=>
   intro a h ha;rw[List.foldl_cons];exact ih _ (fun z hz=>h z (List.mem_cons_of_mem _ hz)) (by rw[ha,h y List.mem_cons_self];rfl)
 exact this l 0 h rfl
theorem Rm{r:Rf}(ok:r.ok)(h:∀y∈refB r,y=0):r = .z:=by
 obtain⟨h1,h2,h3⟩:=ok;have a:=jQ 4 h1.1 (by omega);have b:=jQ 8 h2.1 (by omega);have c:=jQ 2 h3.1 (by omega);rw[Rl _ fun y hy=>h y (by simp[refB,hy])]at a b c
 cases r;simp only at a b c;simp[Rf.z,<- a,<- b,<- c]
theorem OI{v:Int}{K:Bool->Pw}(k:K true w):aC pz true (.func (.func 316) #[] #[]) [.int .u64 v] [.one (.bool)] K bJ w:=Dx (Dw k)
theorem Ut{r:Rf}{pre suf:List Int}{K:Int->Int->Int->Pw}{rd:Bool}(d:iW w.heap n0 b P kind lev ls pre.length (-1))(hP:P=pre++(refB r++suf))(hn:n0+7<=w.heap.size)(ok:r.ok)(hz:r ≠ .z)
  (k:∀w',iW w'.heap n0 b P kind lev ls (pre.length+14) (-1)->Ext (·=n0+2) w w'->K r.p r.c r.g w') :
  aC pz rd (.func (.func 317) #[] #[.pointer (some (A1 (n0+3))),.pointer (some (A1 (n0+2))),.pointer (some (A1 n0)),.pointer (some (A1 (n0+4))),.pointer (some (A1 (n0+5))),.pointer (some (A1 (n0+6)))]) [] [.agg [.one (.int .u32),.one (.int .u64),.one (.int .u16)]] K bJ w:=by
 refine Du (c0:=A1 (n0+3)) (c1:=A1 (n0+2)) (c2:=A1 n0) (c3:=A1 (n0+4)) (c4:=A1 (n0+5)) (c5:=A1 (n0+6)) (Dt ?_);have hPl:pre.length+(14+suf.length)=224:=by rw[<- d.len,hP];simp[lC]
 have h8:B8 (refB r):=d.p8.sub fun y hy=>by rw[hP];simp[hy]
 refine au.mk fun b1 w1 n1=>?_
 have d1:=d.no n1.ext;have Cz:=n1.at_;refine⟨fun w'=>w'=w1,?_,?_⟩
 .refine⟨_,Cell.af d1.c4 rfl,If.dec (fun _=>⟨_,Cell.af d1.c3 rfl,Ar.i64 (by omega) (If.dec (fun _=>⟨_,Cell.af d1.c1 rfl,_,Cell.af d1.c3 rfl,_,Cell.af d1.c3 rfl,Ar.i64 (by omega) (aa2 d1.rd hP rfl (by rw[lC];rfl) fun s' r'=>CA r' h8 (by rw[lC];decide) ?_)⟩) fun _=>rfl)⟩) fun _=>rfl⟩;rw[decide_eq_false fun h=>hz (Rm ok h)];exact If.no rfl
 rintro _ w4 rfl;refine⟨fun w'=>w'=w4,?_,?_⟩
 .exact⟨_,Cell.af d1.c4 rfl,If.dec (fun _=>⟨_,Cell.af d1.c3 rfl,Ar.i64 (by omega) (If.dec (fun h=>by omega) fun _=>rfl)⟩) fun _=>rfl⟩
 rintro _ w6 rfl;obtain⟨h1,h2,h3⟩:=ok;have nS:∀{i:Nat},n0+3<=i->i < n0+7->¬ (i=n0+2∨i=b1):=fun h h'=>by omega
 refine⟨Ext (fun i=>i=n0+2∨i=b1) w6,(Ext.refl _ _).drew,_,aj.aF (Cell.af d1.c6 rfl) (nS (by omega) (by omega)),_,aj.aF (Cell.af d1.c7 rfl) (nS (by omega) (by omega)),_,aj.aF (Cell.af d1.c6 rfl) (nS (by omega) (by omega)),_,aj.aF (Cell.af d1.c7 rfl) (nS (by omega) (by omega)),_,aj.aF (Cell.af d1.c6 rfl) (nS (by omega) (by omega)),_,aj.aF (Cell.af d1.c7 rfl) (nS (by omega) (by omega)),?_⟩;have toS:∀{w':Wd},Ext (·=n0+2) (ae w6) w'->Ext (fun i=>i=n0+2∨i=b1) w6 w':=fun x=>(x.mono fun _ _ h=> .inl h).an
 have dd:iW (ae w6).heap n0 b P kind lev ls pre.length (-1):=d1
 refine lD (x:=be 4 r.p) (suf:=be 8 r.c++(be 2 r.g++suf)) dd (by rw[hP];simp[refB]) (by rw[aK];rfl) (by decide) (by decide) (fun K' hK=>OI hK) fun w7 d7 x7 z7=>⟨toS x7,?_⟩
 rw[jQ 4 h1.1 (by omega)];have e7:((pre.length:Int)+4)=((pre++be 4 r.p).length:Nat):=by simp[aK]
 rw[e7]at d7;refine Ar.u32 (by omega) (lD (x:=be 8 r.c) (suf:=be 2 r.g++suf) d7 (by rw[hP];simp[refB]) (by rw[aK];rfl) (by decide) (by decide) (fun K' hK=>OI hK) fun w8 d8 x8 z8=>⟨toS (x7.trans x8 fun _ _ h=>h),?_⟩);rw[jQ 8 h2.1 (by omega)];have e8:(((pre++be 4 r.p).length:Nat):Int)+8=((pre++be 4 r.p++be 8 r.c).length:Nat):=by simp[aK];omega
 rw[e8]at d8
 refine lD (x:=be 2 r.g) (suf:=suf) d8 (by rw[hP];simp[refB]) (by rw[aK];rfl) (by decide) (by decide) (fun K' hK=>OI hK) fun w9 d9 x9 z9=>⟨toS ((x7.trans x8 fun _ _ h=>h).trans x9 fun _ _ h=>h),?_⟩
 rw[jQ 2 h3.1 (by omega)];have e9:(((pre++be 4 r.p++be 8 r.c).length:Nat):Int)+2=(pre.length:Int)+14:=by simp[aK];omega
 rw[e9]at d9;have PS:=(x7.trans x8 fun _ _ h=>h).trans x9 fun _ _ h=>h
 have g9:w9.heap[b1]? = some (.cells [.int .u32 0,.int .u64 0,.int .u16 0].toArray 44 (0,0)):=ar (w:=ae w6) n1.get PS (by omega);refine Ar.u16 (by omega) ⟨rfl,_,_,_,g9,rfl,by simp,.inr (.inr (Nat.le_refl _)),?_,fun eK D2=>?_⟩
 .intro v hv;simp only[List.mem_cons,List.not_mem_nil,or_false]at hv;rcases hv with h | h | h <;> subst h <;> rfl
 have tU:eK.heap[b1]? = some (.cells [.int .u32 r.p,.int .u64 r.c,.int .u16 r.g].toArray 44 (0,0)):=mG.get (b:=b1) D2 g9;have dQ:Ext (·=b1) w9 eK:=mG.ext (b:=b1) D2;refine⟨(toS PS).trans dQ fun _ _ h=> .inr h,_,Cell.af tU rfl,_,Cell.af tU rfl,_,Cell.af tU rfl,k _ (d9.ext dQ fun i hi h=>by omega) ?_⟩;exact((n1.ext.drew.az).trans PS fun _ _ h=>h).trans dQ fun i hi h=>by omega
end
end Go.Proofs.YtiigcapldngijaaGreat
namespace Go.V
structure xh(h:Array Obj)(base:Nat)(s:Sl)(L:List (ca×gN)):Prop where
 own:aP h base 218 9 s (L.flatMap tW)
 JM:∀p∈L,xg h p.1 p.2
 kb:∀p∈L,∀b,p.1.k.aw=some b->base<=b/\b < h.size/\s.aw≠some b
 vb:∀p∈L,∀b,p.1.v.aw=some b->base<=b/\b < h.size/\s.aw≠some b
theorem xh.nd{h:Array Obj}{base:Nat}{s:Sl}{L:List (ca×gN)}(o:xh h base s L):Gk h s L:=⟨o.own.rd,o.JM⟩
theorem xh.mono{h:Array Obj}{base base':Nat}{s:Sl}{L:List (ca×gN)}(o:xh h base s L)(hb:base'<=base):xh h base' s L:=⟨o.own.mono hb,o.JM,fun p hp b h=>⟨Nat.le_trans hb (o.kb p hp b h).1,(o.kb p hp b h).2⟩,fun p hp b h=>⟨Nat.le_trans hb (o.vb p hp b h).1,(o.vb p hp b h).2⟩⟩
theorem xg.ext{S:Nat->Prop}{w w':Wd}{x:ca}{e:gN}(r:xg w.heap x e)(h:Ext S w w')(h1:∀b,x.k.aw=some b->¬ S b)(h2:∀b,x.v.aw=some b->¬ S b):xg w'.heap x e:=
 ⟨r.k.ext h fun a b ha hb=>h1 b (by simp[Sl.aw,ha,hb]),r.v.ext h fun a b ha hb=>h2 b (by simp[Sl.aw,ha,hb]),r.n,r.ch,r.cd,r.k8,r.v8,r.n64,r.cho,r.cdo⟩
theorem xh.ext{S:Nat->Prop}{w w':Wd}{base:Nat}{s:Sl}{L:List (ca×gN)}(o:xh w.heap base s L)(x:Ext S w w')(hS:∀b,base<=b->b < w.heap.size->¬ S b):xh w'.heap base s L:=
 ⟨o.own.ext x fun b hb=>hS b (o.own.lt hb).1 (o.own.lt hb).2,fun p hp=>(o.JM p hp).ext x (fun b h=>hS b (o.kb p hp b h).1 (o.kb p hp b h).2.1) (fun b h=>hS b (o.vb p hp b h).1 (o.vb p hp b h).2.1),
  fun p hp b h=>⟨(o.kb p hp b h).1,Nat.lt_of_lt_of_le (o.kb p hp b h).2.1 x.size,(o.kb p hp b h).2.2⟩,fun p hp b h=>⟨(o.vb p hp b h).1,Nat.lt_of_lt_of_le (o.vb p hp b h).2.1 x.size,(o.vb p hp b h).2.2⟩⟩
theorem xh.no{w w':Wd}{base:Nat}{s:Sl}{L:List (ca×gN)}(o:xh w.heap base s L)(x:Ext No w w'):xh w'.heap base s L:=o.ext x fun _ _ _ h=>h
theorem xh.nil(h:Array Obj)(base:Nat):xh h base ⟨none,0,0⟩ []:=⟨aP.nil _ _ _ _,by simp,by simp,by simp⟩
theorem aa3{kind lev:Int}{l:List gN}{i:Nat}(hi:i < l.length):pad (wr kind lev l)=([kind,lev,(l.length % 256:Int)]++(l.take i).flatMap (wrE kind))++(wrE kind l[i]++((l.drop (i+1)).flatMap (wrE kind)++List.replicate (224 - (wr kind lev l).length) 0)):=by
 have e:l.flatMap (wrE kind)=(l.take i).flatMap (wrE kind)++(wrE kind l[i]++(l.drop (i+1)).flatMap (wrE kind)):=by
  have:l=l.take i++(l[i]::l.drop (i+1)):=by rw[<- List.drop_eq_getElem_cons hi,List.take_append_drop]
  conv=>lhs;rw[this]
  rw[List.flatMap_append,List.flatMap_cons]
 have e2:pad (wr kind lev l)=[kind,lev,(l.length % 256:Int)]++l.flatMap (wrE kind)++List.replicate (224 - (wr kind lev l).length) 0:=rfl;rw[e2,e];simp only[List.append_assoc]
end Go.V
namespace Go.Proofs.YtiigcapldngijaaGreat
open Go.V
section
variable {w:Wd} {n0:Nat} {b:Sl} {P:List Int} {kind lev:Int} {ls:Sl} {place fault:Int}
theorem aH.b1{bb:Nat}{T:TypeId}{v v':Value}{K:Pw}(hb:w.heap[bb]? = some (.cells [v].toArray T (0,0)))(hv:cB v'=true)(k:∀w',mG w bb (.cells [v'].toArray T (0,0)) w'->K w'):aH w (Addr.mk bb 0 none) v' K:=
 aH.mk hb (by simp) hv fun w' h=>k w' h
theorem xh.push{w':Wd}{base:Nat}{s s':Sl}{L:List (ca×gN)}{p:ca×gN}(o:xh w.heap base s L)(o':aP w'.heap base 218 9 s' (L.flatMap tW++p.1.cs))(x:Ext (fun b=>s.aw=some b) w w')(hb:s'.aw=s.aw∨∃b,s'.aw=some b/\w.heap.size<=b)
  (hp:xg w.heap p.1 p.2) (h1:∀b,p.1.k.aw=some b->base<=b/\b < w.heap.size/\s.aw≠some b) (h2:∀b,p.1.v.aw=some b->base<=b/\b < w.heap.size/\s.aw≠some b):xh w'.heap base s' (L++[p]):=by
 have key:∀b,base<=b/\b < w.heap.size/\s.aw≠some b->base<=b/\b < w'.heap.size/\s'.aw≠some b:=fun b h=>⟨h.1,Nat.lt_of_lt_of_le h.2.1 x.size,fun e=>by
  rcases hb with h' | ⟨c,h',hc⟩
  .exact h.2.2 (h' ▸ e)
  .rw[h']at e;cases e;omega⟩
 refine⟨by rw[List.flatMap_append,List.flatMap_cons,List.flatMap_nil,List.append_nil];exact o',fun q hq=>?_,fun q hq b h=>?_,fun q hq b h=>?_⟩
 .rcases List.mem_append.1 hq with h | h
  .exact(o.JM q h).ext x (fun b hb=>(o.kb q h b hb).2.2) (fun b hb=>(o.vb q h b hb).2.2)
  .rw[List.mem_singleton]at h;subst h;exact hp.ext x (fun b hb=>(h1 b hb).2.2) (fun b hb=>(h2 b hb).2.2)
 .rcases List.mem_append.1 hq with h' | h'
  .exact key b (o.kb q h' b h)
  .rw[List.mem_singleton]at h';subst h';exact key b (h1 b h)
 .rcases List.mem_append.1 hq with h' | h'
  .exact key b (o.vb q h' b h)
  .rw[List.mem_singleton]at h';subst h';exact key b (h2 b h)
def restB(kind:Int)(e:gN):List Int:=if kind=2 then refB e.cd else if e.n > 0 then[1,e.n / 256 % 256,e.n % 256]++refB e.ch else[0,(e.val.length % 256:Int)]++e.val
theorem Uu(kind:Int)(e:gN):wrE kind e=(e.key.length % 256:Int)::e.key++restB kind e:=rfl
structure Got(w:Wd)(n0 b9:Nat)(base:Nat)(r3:Sl)(e:gN)(x:ca):Prop where
 aw:w.heap[b9]? = some (.cells x.cs.toArray 218 (0,0))
 k:x.k=r3
 v:Rd w.heap x.v 1 (e.val.map (Value.int .u8))
 vb:∀b,x.v.aw=some b->base<=b/\b < w.heap.size
 n:x.n=e.n
 ch:x.ch=e.ch
 cd:x.cd=e.cd
set_option maxHeartbeats 1000000 in
theorem Xh{b9:Nat}{r3:Sl}{e:gN}{i:Int}{pre suf:List Int}{J1:Pw}(d:iW w.heap n0 b P kind lev ls pre.length (-1))(hP:P=pre++(restB kind e++suf))(hn:n0+7<=b9)
  (hb9:w.heap[b9]? = some (.cells (ca.cs ⟨r3,⟨none,0,0⟩,0,.z,.z⟩).toArray 218 (0,0))) (hp:D7 kind i e) (cho:e.ch.ok) (cdo:e.cd.ok)
  (k:∀w' x,Got w' n0 b9 w.heap.size r3 e x->iW w'.heap n0 b P kind lev ls (pre.length+(restB kind e).length) (-1)->Ext (fun q=>q=n0+2∨q=b9) w w'->J1 w') :
  ∃Mv:Int,Cell w (Addr.mk (n0+1) 0 none) (.int .u8 Mv)/\
 If (Mv == 2) (
 aC pz true (.func (.func 317) #[] #[.pointer (some (Addr.mk (n0+3) 0 none)),.pointer (some (Addr.mk (n0+2) 0 none)),.pointer (some (Addr.mk n0 0 none)),.pointer (some (Addr.mk (n0+4) 0 none)),.pointer (some (Addr.mk (n0+5) 0 none)),.pointer (some (Addr.mk (n0+6) 0 none))]) [] [.agg [.one (.int .u32),.one (.int .u64),.one (.int .u16)]] (fun r0 OJ Uv CN=>
 List.length (α:=Value) [.int .u32 r0,.int .u64 OJ,.int .u16 Uv]=3/\bO CN ((Addr.mk b9 0 none).add 6) [.int .u32 r0,.int .u64 OJ,.int .u16 Uv] fun Nf=>
 J1 Nf) bJ w) (
 ∃Mw:Value,Cell w (Addr.mk (n0+5) 0 none) (Mw)/\
 aC pz true Mw [.int .i64 1,.func (.func 324) #[] #[]] [.one (.int .u64)] (fun Sx Xi=>
 If (Sx == 1) (
 ∃Mx:Value,Cell Xi (Addr.mk (n0+5) 0 none) (Mx)/\
 aC pz true Mx [.int .i64 2,.func (.func 325) #[] #[]] [.one (.int .u64)] (fun Xj w33=>
 Ar .i64 Xj fun z_5=>
 aH w33 ((Addr.mk b9 0 none).add 2) (.int .i64 z_5) fun w34=>
 aC pz true (.func (.func 317) #[] #[.pointer (some (Addr.mk (n0+3) 0 none)),.pointer (some (Addr.mk (n0+2) 0 none)),.pointer (some (Addr.mk n0 0 none)),.pointer (some (Addr.mk (n0+4) 0 none)),.pointer (some (Addr.mk (n0+5) 0 none)),.pointer (some (Addr.mk (n0+6) 0 none))]) [] [.agg [.one (.int .u32),.one (.int .u64),.one (.int .u16)]] (fun OL JP Uw w35=>
 List.length (α:=Value) [.int .u32 OL,.int .u64 JP,.int .u16 Uw]=3/\bO w35 ((Addr.mk b9 0 none).add 3) [.int .u32 OL,.int .u64 JP,.int .u16 Uw] fun Ro=>
 J1 Ro) bJ w34) bJ Xi) (
 aC pz true (.func (.func 314) #[] #[.pointer (some (Addr.mk (n0+5) 0 none)),.pointer (some (Addr.mk (n0+2) 0 none)),.pointer (some (Addr.mk (n0+3) 0 none)),.pointer (some (Addr.mk n0 0 none))]) [.func (.func 326) #[] #[]] [.one (.sl)] (fun P0 Xk=>
 aH Xk ((Addr.mk b9 0 none).add 1) (.slice P0.a P0.len P0.cap) fun w38=>
 J1 w38) bJ Xi)) bJ w):=by
 have rS:n0+7<=w.heap.size:=by have:=blt hb9;omega
 refine⟨_,Cell.af d.c2 rfl,If.beq (fun h2=>?_) (fun h2=>?_)⟩
 .have hr:restB kind e=refB e.cd:=by unfold restB;rw[if_pos h2]
  have uC:=hp.2;rw[if_pos h2]at uC;rw[hr]at hP k
  refine Ut d hP rS cdo uC.1 fun w' d' x'=>⟨rfl,?_⟩
  have hb:=ar hb9 x' (by omega);refine⟨_,_,_,hb,rfl,(by show 6+3<=9;decide),.inr (.inr (Nat.le_refl _)),?_,fun w2 h2'=>?_⟩
  .intro v hv;simp only[List.mem_cons,List.not_mem_nil,or_false]at hv;rcases hv with h | h | h <;> subst h <;> rfl
  have x2:Ext (·=b9) w' w2:=mG.ext (b:=b9) h2';have g2:w2.heap[b9]? = some (.cells (ca.cs ⟨r3,⟨none,0,0⟩,0,.z,e.cd⟩).toArray 218 (0,0)):=mG.get (b:=b9) h2' hb;have ev:e.val=[]:=List.eq_nil_of_length_eq_zero uC.2.2.1;refine k w2 _ ⟨g2,rfl,by rw[ev];exact Rd.nil _ _,fun b h=>(by cases h),uC.2.2.2.symm,uC.2.1.symm,rfl⟩ ?_ ((x'.mono fun _ _ h=> .inl h).trans x2 fun _ _ h=> .inr h);rw[lC];exact d'.ext x2 fun q hq h=>by omega
 .have uC:=hp.2;rw[if_neg h2]at uC;obtain⟨hcd,uC⟩:=uC;refine⟨_,Cell.af d.c6 rfl,?_⟩;rcases Classical.em (e.n=0) with h0 | h0
  .rw[if_pos h0]at uC
   have hr:restB kind e=[0]++((e.val.length:Int)::e.val):=by
    unfold restB;rw[if_neg h2,if_neg (by omega),show((e.val.length:Int) % 256)=e.val.length by omega];rfl
   rw[hr]at hP k;have e0:num [(0:Int)]=0:=rfl;refine lD (x:=[0]) (suf:=((e.val.length:Int)::e.val)++suf) d (by rw[hP,List.append_assoc]) rfl (by decide) (by decide) (fun K' hK=>ru (re (by rw[e0];exact hK))) fun w2 d2 x2 z2=>?_
   rw[e0];refine If.no ?_;have e1:((pre.length:Int)+1)=((pre++[(0:Int)]).length:Nat):=by simp
   rw[e1]at d2;refine PZ (x:=e.val) (suf:=suf) d2 (by rw[hP];simp) (by omega) rfl (fun w' K' _ hK=>Bw (Bv (by unfold qZ;rw[decide_eq_true (by omega)];exact hK))) fun s3 w3 d3 o3 x3=>?_
   have hb:=ar (ar hb9 x2 (by omega)) x3 (by omega);refine aH.mk hb (by simp[ca.cs]) rfl fun w4 h4=>?_
   have g4:w4.heap[b9]? = some (.cells (ca.cs ⟨r3,s3,0,.z,.z⟩).toArray 218 (0,0)):=h4.get hb;have du:∀q,s3.aw=some q->q≠b9:=fun q hq h=>by have:=(o3.lt hq).1;have:=blt hb9;omega
   refine k w4 _ ⟨g4,rfl,o3.rd.ext h4.ext (fun a q ha hq=>du q (by simp[Sl.aw,ha,hq])),fun q hq=>?_,h0.symm,uC.1.symm,hcd.symm⟩ ?_ (((x2.mono fun _ _ h=> .inl h).trans x3 fun _ _ h=> .inl h).trans h4.ext fun _ _ h=> .inr h)
   .have:=o3.lt hq;have:=h4.size;omega
   .have e5:(((pre++[(0:Int)]).length:Nat):Int)+1+(e.val.length:Int)=(pre.length:Int)+(([0]++((e.val.length:Int)::e.val)).length:Nat):=by simp;omega
    rw[<- e5];exact d3.ext h4.ext fun q hq h=>by have h:q=b9:=h;omega
  .rw[if_neg h0]at uC
   have hr:restB kind e=[1]++(be 2 e.n++refB e.ch):=by
    unfold restB;rw[if_neg h2,if_pos (by omega)];simp[be]
   rw[hr]at hP k;have e0:num [(1:Int)]=1:=rfl;refine lD (x:=[1]) (suf:=(be 2 e.n++refB e.ch)++suf) d (by rw[hP,List.append_assoc]) rfl (by decide) (by decide) (fun K' hK=>ru (re (by rw[e0];exact hK))) fun w2 d2 x2 z2=>?_
   rw[e0];refine If.yes ⟨_,Cell.af d2.c6 rfl,?_⟩;have e1:((pre.length:Int)+1)=((pre++[(1:Int)]).length:Nat):=by simp
   rw[e1]at d2;have en:num (be 2 e.n)=e.n:=jQ 2 (by omega) (by omega);refine lD (x:=be 2 e.n) (suf:=refB e.ch++suf) d2 (by rw[hP];simp) (by rw[aK];rfl) (by decide) (by decide) (fun K' hK=>Bz (Bx (by unfold q_;rw[en];exact If.dec (fun _=>by rw[decide_eq_true (by omega)];exact hK) fun h=>(h uC.1).elim))) fun w3 d3 x3 z3=>?_
   rw[en];have hb:=ar (ar hb9 x2 (by omega)) x3 (by omega);refine Ar.i64 (by omega) (aH.mk hb (by simp[ca.cs]) rfl fun w4 h4=>?_);have g4:w4.heap[b9]? = some (.cells (ca.cs ⟨r3,⟨none,0,0⟩,e.n,.z,.z⟩).toArray 218 (0,0)):=h4.get hb
   have d4:iW w4.heap n0 b P kind lev ls (((pre++[(1:Int)]++be 2 e.n).length:Nat):Int) (-1):=by
    have e5:(((pre++[(1:Int)]++be 2 e.n).length:Nat):Int)=(((pre++[(1:Int)]).length:Nat):Int)+2:=by simp[aK];omega
    rw[e5];exact d3.ext h4.ext fun q hq h=>by have h:q=b9:=h;omega
   refine Ut (r:=e.ch) (suf:=suf) d4 (by rw[hP];simp) (by have:=x3.size;have:=h4.size;omega) cho uC.2.2.1 fun w5 d5 x5=>⟨rfl,?_⟩
   have WU:=ar g4 x5 (by omega);refine⟨_,_,_,WU,rfl,(by show 3+3<=9;decide),.inr (.inr (Nat.le_refl _)),?_,fun w6 h6=>?_⟩
   .intro v hv;simp only[List.mem_cons,List.not_mem_nil,or_false]at hv;rcases hv with h | h | h <;> subst h <;> rfl
   have x6:Ext (·=b9) w5 w6:=mG.ext (b:=b9) h6;have g6:w6.heap[b9]? = some (.cells (ca.cs ⟨r3,⟨none,0,0⟩,e.n,e.ch,.z⟩).toArray 218 (0,0)):=mG.get (b:=b9) h6 WU;have ev:e.val=[]:=List.eq_nil_of_length_eq_zero uC.2.2.2;refine k w6 _ ⟨g6,rfl,by rw[ev];exact Rd.nil _ _,fun b h=>(by cases h),rfl,rfl,hcd.symm⟩ ?_ (((((x2.mono fun _ _ h=> .inl h).trans x3 fun _ _ h=> .inl h).trans h4.ext fun _ _ h=> .inr h).trans x5 fun _ _ h=> .inl h).trans x6 fun _ _ h=> .inr h);have e7:(((pre++[(1:Int)]++be 2 e.n).length:Nat):Int)+14=(pre.length:Int)+(([1]++(be 2 e.n++refB e.ch)).length:Nat):=by simp[aK,lC];omega
   rw[<- e7];exact d5.ext x6 fun q hq h=>by omega
end
theorem Xl(kind:Int)(e:gN):1<=(wrE kind e).length:=by unfold wrE;simp only[List.length_append,List.length_cons];omega
theorem Ux{kind lev:Int}{l:List gN}(h:(wr kind lev l).length<=224):l.length<=221:=by
 have:∀l:List gN,l.length<=(l.flatMap (wrE kind)).length:=by
  intro l
  induction l with
  | nil=>simp
  | cons e l ih=>have:=Xl kind e;simp only[List.flatMap_cons,List.length_append,List.length_cons];omega
 have:=this l;unfold wr at h;simp only[List.length_append,List.length_cons,List.length_nil]at h;omega
section
variable {w:Wd} {b:Sl} {P:List Int}
def P1(n0:Nat)(fV:Wd)(K:Int->Int->Sl->Int->Int->Pw):Prop:=
 ∃zZ:Value,Cell fV (Addr.mk (n0+5) 0 none) (zZ)/\
 aC pz true zZ [.int .i64 1,.func (.func 318) #[] #[]] [.one (.int .u64)] (fun r lR=>
 Ar .u8 r fun z=>
 aH lR (Addr.mk (n0+1) 0 none) (.int .u8 z) fun mU=>
 ∃oW:Value,Cell mU (Addr.mk (n0+5) 0 none) (oW)/\
 aC pz true oW [.int .i64 1,.func (.func 319) #[] #[.pointer (some (Addr.mk (n0+1) 0 none))]] [.one (.int .u64)] (fun r_1 iB=>
 Ar .u8 r_1 fun z_1=>
 aH iB ((Addr.mk (n0+1) 0 none).add 1) (.int .u8 z_1) fun pJ=>
 ∃GS:Value,Cell pJ (Addr.mk (n0+5) 0 none) (GS)/\
 aC pz true GS [.int .i64 1,.func (.func 321) #[] #[.pointer (some (Addr.mk (n0+1) 0 none))]] [.one (.int .u64)] (fun r_2 G1=>
 ∃J5:Pw,(
 au G1 (.cells [.int .i64 0].toArray 3) fun b_8 AE=>
 aH AE (Addr.mk b_8 0 none) (.int .i64 0) fun HO=>
 ∃I1:Nat->Addr->Pw,(∃m,I1 m (Addr.mk b_8 0 none) HO)/\∀(_:Env)(m0:Nat)(i:Addr)(yZ:Wd),I1 m0 i yZ->
 ∃J4:Pw,(
 ∃Ml:Int,Cell yZ i (.int .i64 Ml)/\
 Ar .i64 r_2 fun z_2=>
 If (decide (Ml < z_2)) (
 ∃Mm:Int,Cell yZ (Addr.mk (n0+3) 0 none) (.int .i64 Mm)/\
 If (decide (Mm < 0)) (
 J4 yZ) (
 J5 yZ)) (
 J5 yZ))/\∀(_:Env)(DT:Wd),J4 DT->
 au DT (.cells (Gy 0 0 0 0 0 0 0).toArray 218) fun Ng Jm=>
 aC pz true (.func (.func 314) #[] #[.pointer (some (Addr.mk (n0+5) 0 none)),.pointer (some (Addr.mk (n0+2) 0 none)),.pointer (some (Addr.mk (n0+3) 0 none)),.pointer (some (Addr.mk n0 0 none))]) [.func (.func 322) #[] #[.pointer (some (Addr.mk (n0+1) 0 none)),.pointer (some i)]] [.one (.sl)] (fun Xg iD=>
 aH iD (Addr.mk Ng 0 none) Xg.u fun py=>
 ∃J3:Pw,(
 ∃J2:Bool->Pw,(
 ∃S:Pw,S (ae py)/\
 ∃Mn:Int,aj S (Addr.mk (n0+3) 0 none) (.int .i64 Mn)/\
 If (decide (Mn < 0)) (
 ∃Uo:Int,aj S i (.int .i64 Uo)/\
 If (decide (Uo > 0)) (
 ∃Rk:Sl,aj S ((Addr.mk (n0+1) 0 none).add 2) Rk.u/\
 ∃Uq:Int,aj S i (.int .i64 Uq)/\
 Ar .i64 (Uq - 1) fun YA=>
 Ix Rk.a Rk.len YA 9 fun a=>
 ∃AP:Sl,aj S a AP.u/\
 ∃PC:Sl,aj S (Addr.mk Ng 0 none) PC.u/\
 cr AP PC (ae py) fun r_4 Hd=>
 S Hd/\
 J2 (decide (r_4≥0)) Hd) (
 J2 false ((ae py)))) (
 J2 false ((ae py))))/\∀(_:Env)(t:Bool)(xi:Wd),J2 t xi->
 If t (
 ∃Y9:Value,Cell xi (Addr.mk (n0+4) 0 none) (Y9)/\
 ∃Y_:Int,Cell xi (Addr.mk (n0+2) 0 none) (.int .i64 Y_)/\
 ∃Za:Sl,Cell xi (Addr.mk Ng 0 none) Za.u/\
 Ar .i64 (Y_ - ((Za.len:Int))) fun z_4=>
 aC pz true Y9 [.int .i64 z_4] [] (fun FX=>
 J3 FX) bJ xi) (
 J3 xi))/\∀(_:Env)(OM:Wd),J3 OM->
 ∃J1:Pw,(
 ∃Mv:Int,Cell OM (Addr.mk (n0+1) 0 none) (.int .u8 Mv)/\
 If (Mv == 2) (
 aC pz true (.func (.func 317) #[] #[.pointer (some (Addr.mk (n0+3) 0 none)),.pointer (some (Addr.mk (n0+2) 0 none)),.pointer (some (Addr.mk n0 0 none)),.pointer (some (Addr.mk (n0+4) 0 none)),.pointer (some (Addr.mk (n0+5) 0 none)),.pointer (some (Addr.mk (n0+6) 0 none))]) [] [.agg [.one (.int .u32),.one (.int .u64),.one (.int .u16)]] (fun r0 OJ Uv CN=>
 List.length (α:=Value) (pN r0 OJ Uv)=3/\bO CN ((Addr.mk Ng 0 none).add 6) (pN r0 OJ Uv) fun Nf=>
 J1 Nf) bJ OM) (
 ∃Mw:Value,Cell OM (Addr.mk (n0+5) 0 none) (Mw)/\
 aC pz true Mw [.int .i64 1,.func (.func 324) #[] #[]] [.one (.int .u64)] (fun Sx Xi=>
 If (Sx == 1) (
 ∃Mx:Value,Cell Xi (Addr.mk (n0+5) 0 none) (Mx)/\
 aC pz true Mx [.int .i64 2,.func (.func 325) #[] #[]] [.one (.int .u64)] (fun Xj w33=>
 Ar .i64 Xj fun z_5=>
 aH w33 ((Addr.mk Ng 0 none).add 2) (.int .i64 z_5) fun w34=>
 aC pz true (.func (.func 317) #[] #[.pointer (some (Addr.mk (n0+3) 0 none)),.pointer (some (Addr.mk (n0+2) 0 none)),.pointer (some (Addr.mk n0 0 none)),.pointer (some (Addr.mk (n0+4) 0 none)),.pointer (some (Addr.mk (n0+5) 0 none)),.pointer (some (Addr.mk (n0+6) 0 none))]) [] [.agg [.one (.int .u32),.one (.int .u64),.one (.int .u16)]] (fun OL JP Uw w35=>
 List.length (α:=Value) (pN OL JP Uw)=3/\bO w35 ((Addr.mk Ng 0 none).add 3) (pN OL JP Uw) fun Ro=>
 J1 Ro) bJ w34) bJ Xi) (
 aC pz true (.func (.func 314) #[] #[.pointer (some (Addr.mk (n0+5) 0 none)),.pointer (some (Addr.mk (n0+2) 0 none)),.pointer (some (Addr.mk (n0+3) 0 none)),.pointer (some (Addr.mk n0 0 none))]) [.func (.func 326) #[] #[]] [.one (.sl)] (fun P0 Xk=>
 aH Xk ((Addr.mk Ng 0 none).add 1) P0.u fun w38=>
 J1 w38) bJ Xi)) bJ OM))/\∀(_:Env)(tX:Wd),J1 tX->
 ∃Zb:Sl,Cell tX ((Addr.mk (n0+1) 0 none).add 2) Zb.u/\
 ∃Kr:Sl,Cell tX (Addr.mk Ng 0 none) Kr.u/\
 ∃Ks:Sl,Cell tX ((Addr.mk Ng 0 none).add 1) Ks.u/\
 ∃Kt:Int,Cell tX ((Addr.mk Ng 0 none).add 2) (.int .i64 Kt)/\
 ∃Ku:Int,Cell tX ((Addr.mk Ng 0 none).add 3) (.int .u32 Ku)/\
 ∃Kw:Int,Cell tX ((Addr.mk Ng 0 none).add 4) (.int .u64 Kw)/\
 ∃Kx:Int,Cell tX ((Addr.mk Ng 0 none).add 5) (.int .u16 Kx)/\
 ∃VR:Int,Cell tX ((Addr.mk Ng 0 none).add 6) (.int .u32 VR)/\
 ∃G_:Int,Cell tX ((Addr.mk Ng 0 none).add 7) (.int .u64 G_)/\
 ∃Ha:Int,Cell tX ((Addr.mk Ng 0 none).add 8) (.int .u16 Ha)/\
 au tX (.cells (sg Kr Ks Kt Ku Kw Kx VR G_ Ha).toArray 218) fun afW Cb=>
 bj pz 212 212 Zb (.slice (some (Addr.mk afW 0 none)) 1 1) (fun s w41=>
 aH w41 ((Addr.mk (n0+1) 0 none).add 2) s.u fun Ba=>
 ∃Zc:Int,Cell Ba i (.int .i64 Zc)/\
 au Ba (.cells [.int .i64 0].toArray 3) fun Xm w43=>
 aH w43 (Addr.mk Xm 0 none) (.int .i64 Zc) fun w44=>
 ∃Zd:Int,Cell w44 (Addr.mk Xm 0 none) (.int .i64 Zd)/\
 Ar .i64 (Zd+1) fun z_6=>
 aH w44 (Addr.mk Xm 0 none) (.int .i64 z_6) fun Xn=>
 ∃m1,m1 < m0/\I1 m1 (Addr.mk Xm 0 none) Xn) Cb) bJ Jm)/\∀(_:Env)(w46:Wd),J5 w46->
 ∃J0:Pw,(
 ∃I0:Nat->Pw,(∃m,I0 m w46)/\∀(_:Env)(adt:Nat)(P2:Wd),I0 adt P2->
 ∃Ze:Int,Cell P2 (Addr.mk (n0+3) 0 none) (.int .i64 Ze)/\
 If (decide (Ze < 0)) (
 ∃Zf:Int,Cell P2 (Addr.mk (n0+2) 0 none) (.int .i64 Zf)/\
 If (decide (Zf < 224)) (
 ∃Zg:Value,Cell P2 (Addr.mk (n0+5) 0 none) (Zg)/\
 aC pz true Zg [.int .i64 1,.func (.func 327) #[] #[]] [.one (.int .u64)] (fun _r_8 w48=>
 ∃adu,adu < adt/\I0 adu w48) bJ P2) (
 J0 P2)) (
 J0 P2))/\∀(_:Env)(P3:Wd),J0 P3->
 ∃Zh:Int,Cell P3 (Addr.mk (n0+3) 0 none) (.int .i64 Zh)/\
 If (decide (Zh≥0)) (
 ∃S:Pw,S (ae P3)/\
 ∃Zi:Int,aj S (Addr.mk (n0+3) 0 none) (.int .i64 Zi)/\
 List.length (α:=Value) (xX 0 0)=3/\bO (ae P3) (Addr.mk (n0+1) 0 none) (xX 0 0) fun ON=>
 S ON/\
 ∃rK:Int,Cell ON (Addr.mk (n0+1) 0 none) (.int .u8 rK)/\
 ∃rL:Int,Cell ON ((Addr.mk (n0+1) 0 none).add 1) (.int .u8 rL)/\
 ∃zw:Sl,Cell ON ((Addr.mk (n0+1) 0 none).add 2) zw.u/\
 K rK rL zw 5 Zi ON) (
 ∃zy:Int,Cell P3 (Addr.mk (n0+1) 0 none) (.int .u8 zy)/\
 ∃Hb:Int,Cell P3 ((Addr.mk (n0+1) 0 none).add 1) (.int .u8 Hb)/\
 ∃Hc:Sl,Cell P3 ((Addr.mk (n0+1) 0 none).add 2) Hc.u/\
 List.length (α:=Value) (uB zy Hb Hc)=3/\bO P3 (Addr.mk (n0+1) 0 none) (uB zy Hb Hc) fun Zj=>
 ∃Mo:Int,Cell Zj (Addr.mk (n0+1) 0 none) (.int .u8 Mo)/\
 ∃Mp:Int,Cell Zj ((Addr.mk (n0+1) 0 none).add 1) (.int .u8 Mp)/\
 ∃Mq:Sl,Cell Zj ((Addr.mk (n0+1) 0 none).add 2) Mq.u/\
 K Mo Mp Mq 0 0 Zj)) bJ pJ) bJ mU) bJ fV
theorem JQ{K:Int->Int->Sl->Int->Int->Pw}(hb:aQ w.heap b P)(h8:B8 P)(hl:P.length=224)
  (k:∀fV,iW fV.heap w.heap.size b P 0 0 ⟨none,0,0⟩ 0 (-1)->fV.heap.size=w.heap.size+7->Ext No w fV->P1 w.heap.size fV K):jf b w K:=by
 apply GH;have DW:=aQ.len hb
 refine au.mk fun b1 w1 n1=>au.mk fun b2 w2 n2=>⟨_,Cell.af (ah n1.get n2.ext) rfl,If.bne (fun h=>by omega) fun _=>?_⟩
 refine au.mk fun b3 w4 n4=>au.mk fun b4 w5 n5=>?_
 have Cz:=n1.at_;have zI:=n2.at_;have w_:=n4.at_;have YU:=n5.at_;have z1:=n1.size;have z2:=n2.size;have z4:=n4.size;have z5:=n5.size;refine aH.b1 (ah n4.get n5.ext) rfl fun w6 h6=>aH.b1 (T:=3) (v:= .int .i64 0) (by rw[h6.other (by omega)];exact n5.get) rfl fun w7 h7=>au.mk fun b5 w8 n8=>aH.b1 n8.get rfl fun w9 h9=>au.mk fun b6 eK ke=>aH.b1 ke.get rfl fun eM Gj=>au.mk fun b7 gO pK=>aH.b1 pK.get rfl fun fV Ky=>?_
 have WU:=n8.at_;have TM:=ke.at_;have hb7:=pK.at_;have z6:=h6.size;have z7:=h7.size;have z8:=n8.size;have z9:=h9.size;have Sq:=ke.size;have YI:=Gj.size;have VS:=pK.size;have W3:=Ky.size;have x2:Ext No w w2:=n1.ext.no n2.ext;have x5:=(x2.no n4.ext).no n5.ext;have iY:Ext No w fV:=(((((((x5.trans h6.ext fun i hi h=>by omega).trans h7.ext fun i hi h=>by omega).no n8.ext).trans h9.ext fun i hi h=>by omega).no ke.ext).trans Gj.ext fun i hi h=>by omega).no pK.ext).trans Ky.ext fun i hi h=>by omega
 have k:=k fV;generalize YC:w.heap.size=n0 at *;have e1:b1=n0:=by omega
 have e2:b2=n0+1:=by omega
 have e3:b3=n0+2:=by omega
 have e4:b4=n0+3:=by omega
 have e5:b5=n0+4:=by omega
 have e6:b6=n0+5:=by omega
 have e7:b7=n0+6:=by omega
 subst e1 e2 e3 e4 e5 e6 e7;have y13:∀{i:Nat}{o:Obj},i≠b1+6->gO.heap[i]? = some o->fV.heap[i]? = some o:=fun hi ho=>by rw[Ky.other hi];exact ho
 have W0:∀{i:Nat}{o:Obj},i≠b1+5->i≠b1+6->eK.heap[i]? = some o->fV.heap[i]? = some o:=fun hi h6 ho=>y13 h6 (ah (by rw[Gj.other hi];exact ho) pK.ext)
 have y9:∀{i:Nat}{o:Obj},i≠b1+4->i≠b1+5->i≠b1+6->w8.heap[i]? = some o->fV.heap[i]? = some o:=fun h4 h5 h6 ho=>W0 h5 h6 (ah (by rw[h9.other h4];exact ho) ke.ext)
 have y7:∀{i:Nat}{o:Obj},i < b1+4->w7.heap[i]? = some o->fV.heap[i]? = some o:=fun hi ho=>y9 (by omega) (by omega) (by omega) (ah ho n8.ext)
 have y5:∀{i:Nat}{o:Obj},i < b1+2->w5.heap[i]? = some o->fV.heap[i]? = some o:=fun hi ho=>y7 (by omega) (by rw[h7.other (by omega),h6.other (by omega)];exact ho)
 refine k ⟨y5 (by omega) (ah n1.get ((n2.ext.no n4.ext).no n5.ext)),y5 (by omega) (ah n2.get (n4.ext.no n5.ext)),y7 (by omega) ?_,y7 (by omega) ?_,?_,?_,?_,Rd.no hb iY,fun i hi du=>?_,h8,hl⟩ (by omega) iY
 .rw[h7.other (by omega)];exact h6.get (ah n4.get n5.ext)
 .exact h7.get (by rw[h6.other (by omega)];exact n5.get)
 .exact W0 (by omega) (by omega) (ah (h9.get n8.get) ke.ext)
 .exact y13 (by omega) (ah (Gj.get ke.get) pK.ext)
 .exact Ky.get pK.get
 .obtain⟨bb,o,ha,hc⟩:=Rd.at_ hb (by simpa using du);have:i=bb:=by simp[Sl.aw,ha]at hi;exact hi.symm
  subst this;have:=qN (hc 0 (by simp;omega));omega
end
section
variable {w:Wd} {n0:Nat} {b:Sl} {P:List Int} {kind lev:Int} {ls:Sl} {place fault:Int}
structure afX(w0:Wd)(n0:Nat)(b:Sl)(P:List Int)(kind lev:Int)(l:List gN)(j:Nat)(bi:Nat)(w:Wd)(ls:Sl)(L:List (ca×gN)):Prop where
 d:iW w.heap n0 b P kind lev ls ((([kind,lev,(l.length % 256:Int)]++(l.take j).flatMap (wrE kind)).length:Nat):Int) (-1)
 nd:xh w.heap (n0+7) ls L
 el:fi L=l.take j
 hi:w.heap[bi]? = some (.cells [.int .i64 (j:Int)].toArray 3 (0,0))
 lo:n0+7<=bi
 ne:ls.aw≠some bi
 x:Ext No w0 w
set_option maxHeartbeats 4000000 in
theorem HZ{l:List gN}{K:Int->Int->Sl->Int->Int->Pw}(hb:aQ w.heap b (pad (wr kind lev l)))(hr:lA kind lev l)(hs:(wr kind lev l).length<=224)(h8:B8 (pad (wr kind lev l)))(Cn:∀e∈l,e.ch.ok/\e.cd.ok)
  (k:∀s L w',xh w'.heap w.heap.size s L->fi L=l->Ext No w w'->K kind lev s 0 0 w'):jf b w K:=by
 have acq:=Ux hs;have hPl:(pad (wr kind lev l)).length=224:=Em hs;refine JQ hb h8 hPl fun fV d13 W3 iY=>?_
 have Cy:(kind=1/\lev=0)∨(kind=2/\1<=lev/\lev<=30):=hr.shape;generalize YC:w.heap.size=n0 at *;have ah1:((l.length:Int) % 256)=l.length:=by omega
 have hP0:pad (wr kind lev l)=[kind,lev,((l.length:Int) % 256)]++(l.flatMap (wrE kind)++List.replicate (224 - (wr kind lev l).length) 0):=by simp[pad,wr]
 have aak:=fun i (hi:i < l.length)=>aa3 (kind:=kind) (lev:=lev) hi
 generalize hP:pad (wr kind lev l)=P at *;unfold P1;have rC:∀{a c:Wd}{S:Nat->Prop},Ext No w a->Ext S a c->(∀i,S i->n0<=i)->Ext No w c:=fun x y h=>x.trans y fun i hi hS=>by have:=h i hS;omega
 -- the kind
 refine⟨_,Cell.af d13.c6 rfl,lD (pre:=[]) (x:=[kind]) (suf:=[lev,((l.length:Int) % 256)]++(l.flatMap (wrE kind)++List.replicate (224 - (wr kind lev l).length) 0)) d13 (by rw[hP0];rfl) rfl (by decide) (by decide) (fun K' hK=>Ds (Dr ?_)) fun lR d14 iT z14=>?_⟩
 .have e:num [kind]=kind:=by simp[num]
  unfold tO;rw[e];refine If.beq (fun _=>hK) fun h=>?_
  rw[show(kind == 2)=true by simp;omega];exact hK
 have e:num [kind]=kind:=by simp[num]
 rw[e];refine Ar.u8 (by omega) (aH.mk d14.c2 (by simp) rfl fun mU Xo=>?_);have d15:iW mU.heap n0 b P kind 0 ⟨none,0,0⟩ ((([kind]:List Int).length:Nat):Int) (-1):=d14.setNode Xo;have ld:=rC (rC iY iT fun i h=>by omega) Xo.ext fun i h=>by have h:i=n0+1:=h;omega
 -- the level
 have e:num [lev]=lev:=by simp[num]
 refine⟨_,Cell.af d15.c6 rfl,lD (x:=[lev]) (suf:=[((l.length:Int) % 256)]++(l.flatMap (wrE kind)++List.replicate (224 - (wr kind lev l).length) 0)) d15 (by rw[hP0];rfl) rfl (by decide) (by decide) (fun K' hK=>Dq (Dn ?_)) fun iB d16 uy z16=>?_⟩
 .rw[e];refine⟨_,Cell.af d15.c2 rfl,Ar.u8 (by omega) (FV ?_)⟩;rw[decide_eq_true hr.shape];exact hK
 rw[e];refine Ar.u8 (by omega) (aH.mk d16.c2 (by simp) rfl fun pJ Rp=>?_);have d17:iW pJ.heap n0 b P kind lev ⟨none,0,0⟩ ((([kind,lev]:List Int).length:Nat):Int) (-1):=d16.setNode Rp;have Eg:=rC (rC ld uy fun i h=>by omega) Rp.ext fun i h=>by have h:i=n0+1:=h;omega
 -- how many
 have e:num [((l.length:Int) % 256)]=l.length:=by simp[num];omega
 refine⟨_,Cell.af d17.c6 rfl,lD (x:=[((l.length:Int) % 256)]) (suf:=l.flatMap (wrE kind)++List.replicate (224 - (wr kind lev l).length) 0) d17 (by rw[hP0];rfl) rfl (by decide) (by decide) (fun K' hK=>Dm (Dl ?_)) fun G1 d18 Nb z18=>?_⟩
 .rw[e]
  refine If.dec (fun _=>hK) fun h=>⟨_,Cell.af d17.c2 rfl,?_⟩
  have:kind≠2:=fun h2=>hr.some h2 (List.eq_nil_of_length_eq_zero (by omega))
  rw[show(kind == 1)=true by simp;omega];exact hK
 rw[e];have OO:=rC Eg Nb fun i h=>by omega
 have ah2:G1.heap.size=n0+7:=by have:=Xo.size;have:=Rp.size;omega
 refine⟨fun w'=>∃s L,xh w'.heap (n0+7) s L/\fi L=l/\Ext No w w'/\iW w'.heap n0 b P kind lev s ((wr kind lev l).length:Nat) (-1),?_,?_⟩
 .refine au.mk fun b8 AE n19=>aH.b1 n19.get rfl fun HO Xp=>?_
  have z19:=n19.size;have z20:=Xp.size;have TO:=n19.at_;refine⟨fun m i w'=>∃j bi ls L,i=A1 bi/\j<=l.length/\m=l.length - j/\afX w n0 b P kind lev l j bi w' ls L,⟨l.length,0,b8,⟨none,0,0⟩,[],rfl,by omega,by omega,?_,xh.nil _ _,by simp,Xp.get n19.get,by omega,by simp[Sl.aw],rC (OO.no n19.ext) Xp.ext fun i h=>by omega⟩,?_⟩
  .have:=(d18.no n19.ext).ext Xp.ext fun i hi h=>by omega
   simpa using this
  rintro _ m0 i yZ ⟨j,bi,ls,L,rfl,hj,hm,D⟩;refine⟨fun w'=>w'=yZ/\j < l.length,?_,?_⟩
  .refine⟨_,Cell.af D.hi rfl,Ar.i64 (by omega) (If.dec (fun h=>⟨_,Cell.af D.d.c4 rfl,If.dec (fun _=>⟨rfl,by omega⟩) fun h=>by omega⟩) fun h=>?_)⟩;have wE:j=l.length:=by omega
   refine⟨ls,L,D.nd,by rw[D.el,wE,List.take_length],D.x,?_⟩;have:=D.d;rw[wE,List.take_length]at this;exact this
  rintro _ DT ⟨rfl,wE⟩;have hcj:=aak j wE;generalize Rq:[kind,lev,((l.length:Int) % 256)]++(l.take j).flatMap (wrE kind)=pre at *;generalize ah3:(l.drop (j+1)).flatMap (wrE kind)++List.replicate (224 - (wr kind lev l).length) 0=suf at *;have LQ:=hr.JM j wE;have hoe:=Cn _ (List.getElem_mem wE);generalize hee:l[j]=e at *
  have ah4:e.key.length<=32:=by
   have:=LQ.1;unfold D6 at this;split at this <;> omega
  have ek:((e.key.length:Int) % 256)=e.key.length:=by omega
  have dd:=D.d;rw[Rq]at dd;have hbi:=blt D.hi;refine au.mk fun b9 Jm My=>?_
  have hb9:=My.at_;have z23:=My.size;have d23:=dd.no My.ext;have adv:=ah D.hi My.ext;have hPk:P=pre++(((e.key.length:Int))::e.key++(restB kind e++suf)):=by rw[hcj,Uu,ek];simp
  have h8k:B8 e.key:=h8.sub fun y hy=>by rw[hPk];simp[hy]
  have h8r:B8 (restB kind e):=h8.sub fun y hy=>by rw[hPk];simp[hy]
  refine PZ (x:=e.key) (suf:=restB kind e++suf) d23 hPk (by have:=D.lo;omega) rfl (fun w' K' x' hK=>Dj (Di ?_)) fun r3 iD d24 o24 mq=>?_
  .refine⟨_,Cell.af (ah d23.c2 x') rfl,_,Cell.af (ah adv x') rfl,Ar.i64 (by omega) (Mi ?_)⟩;rw[decide_eq_true LQ.1];exact hK
  have lo:=D.lo;have Rs:=ar My.get mq (by omega);refine aH.mk Rs (by simp) rfl fun py OP=>?_
  have PY:py.heap[b9]? = some (.cells (ca.cs ⟨r3,⟨none,0,0⟩,0,.z,.z⟩).toArray 218 (0,0)):=OP.get Rs;have kv:Ext (·=b9) iD py:=OP.ext;have z25:py.heap.size=iD.heap.size:=OP.size;have s24:=mq.size
  have d25:iW py.heap n0 b P kind lev ls ((pre++((e.key.length:Int)::e.key)).length:Nat) (-1):=by
   have e5:(((pre++((e.key.length:Int)::e.key)).length:Nat):Int)=(pre.length:Int)+1+e.key.length:=by simp;omega
   rw[e5];exact d24.ext kv fun q hq h=>by omega
  have YW:aL py.heap Jm.heap.size r3 e.key:=o24.ext kv fun q hq h=>by have:=(o24.lt hq).1;omega
  have aa4:Ext (fun q=>q=n0+2∨q=b9) DT py:=((My.ext.az).trans (mq.mono fun _ _ h=> .inl h) fun _ _ h=>h).trans kv fun _ _ h=> .inr h
  have aa5:xh py.heap (n0+7) ls L:=D.nd.ext aa4 fun q h1 h2 h=>by omega
  have adw:=ar D.hi aa4 (by omega);refine⟨fun w'=>w'=ae py,⟨fun t w'=>t=false/\w'=ae py,?_,?_⟩,?_⟩
  .refine⟨Ext No py,(Ext.refl _ _).drew,_,aj.cell (Cell.af d25.c4 rfl),If.dec (fun _=>⟨_,aj.cell (Cell.af adw rfl),If.dec (fun h0=>?_) fun _=>⟨rfl,rfl⟩⟩) fun _=>⟨rfl,rfl⟩⟩;have hLl:L.length=j:=by have:=congrArg List.length D.el;simp only[List.length_map,List.length_take]at this;omega
   have nl:=aa5.nd.len;refine⟨_,aj.cell (Cell.af d25.c2 rfl),_,aj.cell (Cell.af adw rfl),Ar.i64 (by omega) (Ix.elem aa5.own.rd (wA L) (by decide) (by omega) (by omega) fun b2 o2 Tu _ hc=>⟨_,aj.cell (hc 0 _ rfl),_,aj.cell (Cell.af PY rfl),?_⟩)⟩;have e2:((j:Int) - 1).toNat=j - 1:=by omega
   simp only[e2]at Tu ⊢;have ea:=aa5.nd.get Tu
   have hlk:L[j - 1].2=l[j - 1]:=by
    have:(fi L)[j - 1]? = (l.take j)[j - 1]?:=by rw[D.el]
    rw[List.getElem?_map,List.getElem?_eq_getElem Tu,List.getElem?_take_of_lt (by omega),List.getElem?_eq_getElem (by omega)]at this;simpa using this
   refine ot (w:=ae py) ea.k YW.rd ea.k8 h8k ⟨(Ext.refl _ _).drew,decide_eq_false fun hc=>?_,rfl⟩;have:=hr.ord (j - 1) (by omega);simp only[show j - 1+1=j by omega]at this;rw[hlk]at hc;exact JL.1 hc (by rw[<- hee];exact this)
  .rintro _ t xi ⟨rfl,rfl⟩;exact If.no rfl
  rintro _ OM rfl;refine⟨fun w'=>∃x,Got w' n0 b9 py.heap.size r3 e x/\iW w'.heap n0 b P kind lev ls (pre.length+(wrE kind e).length) (-1)/\Ext (fun q=>q=n0+2∨q=b9) py w',?_,?_⟩
  .refine Xh (w:=ae py) (pre:=pre++((e.key.length:Int)::e.key)) (suf:=suf) d25 (by rw[hPk];simp) (by omega) PY LQ hoe.1 hoe.2 fun w' x gx dx xx=>⟨x,gx,?_,xx.an⟩
   have e5:(((pre++((e.key.length:Int)::e.key)).length:Nat):Int)+((restB kind e).length:Nat)=(pre.length:Int)+((wrE kind e).length:Nat):=by rw[Uu];simp;omega
   rw[<- e5];exact dx
  rintro _ tX ⟨x,gx,d39,Mz⟩;have s39:=Mz.size;refine⟨_,Cell.af d39.c2 rfl,rJ gx.aw (au.mk fun b10 Cb Xq=>?_)⟩;have Uy:Ext (fun q=>q=n0+2∨q=b9) DT tX:=aa4.trans Mz fun _ _ h=>h
  have Uz:xh Cb.heap (n0+7) ls L:=(D.nd.ext Uy fun q h1 h2 h=>by omega).no Xq.ext;have d40:=d39.no Xq.ext;have afY:=ah (ar D.hi Uy (by omega)) Xq.ext;have z40:=Xq.size;have oe:aP Cb.heap tX.heap.size 218 9 ⟨some ⟨b10,0,none⟩,1,1⟩ x.cs:=aP.new (n:=1) (sz:=9) Xq rfl (by intro v hv;unfold ca.cs at hv;simp only[List.mem_cons,List.not_mem_nil,or_false]at hv;rcases hv with h | h | h | h | h | h | h | h | h <;> subst h <;> rfl);have nl:=Uz.nd.len;have hLl:L.length=j:=by have:=congrArg List.length D.el;simp only[List.length_map,List.length_take]at this;omega
  have o39:aL tX.heap Jm.heap.size r3 e.key:=YW.ext Mz fun q hq h=>by have:=(YW.lt hq).1;omega
  have kb:∀q,x.k.aw=some q->n0+7<=q/\q < Cb.heap.size/\ls.aw≠some q:=fun q hq=>by
   rw[gx.k]at hq;have:=o39.lt hq;refine⟨by omega,by omega,fun hls=>?_⟩;have:=(D.nd.own.lt hls).2;omega
  have vb:∀q,x.v.aw=some q->n0+7<=q/\q < Cb.heap.size/\ls.aw≠some q:=fun q hq=>by
   have:=gx.vb q hq;refine⟨by omega,by omega,fun hls=>?_⟩;have:=(D.nd.own.lt hls).2;omega
  have er:xg Cb.heap x e:=by
   refine⟨by rw[gx.k];exact o39.rd.no Xq.ext,gx.v.no Xq.ext,gx.n,gx.ch,gx.cd,h8k,?_,?_,hoe.1,hoe.2⟩
   .intro y hy;refine h8r y ?_;have uC:=LQ.2;unfold restB;split at uC
    .rw[List.eq_nil_of_length_eq_zero uC.2.2.1]at hy;cases hy
    .rename_i h2;rw[if_neg h2];obtain⟨_,uC⟩:=uC;split at uC
     .rw[if_neg (by omega)];simp[hy]
     .rw[List.eq_nil_of_length_eq_zero uC.2.2.2]at hy;cases hy
   .have uC:=LQ.2;split at uC
    .omega
    .obtain⟨_,uC⟩:=uC;split at uC <;> omega
  refine xB Uz.own (by omega) oe.rd.src (by simp only;omega) fun s41 w41 o41 _ x41 DW=>?_
  have afZ:xh w41.heap (n0+7) s41 (L++[(x,e)]):=xh.push (p:=(x,e)) Uz o41 x41 DW er kb vb;have ah5:=x41.size;have d41:=d40.ext x41 fun q hq h=>by have:=(Uz.own.lt h).1;omega
  have af0:=ar afY x41 D.ne;refine aH.mk d41.c2 (by simp) rfl fun Ba h42=>?_
  have d42:iW Ba.heap n0 b P kind lev s41 (pre.length+(wrE kind e).length) (-1):=d41.setNode h42;have x42:Ext (·=n0+1) w41 Ba:=h42.ext;have z42:Ba.heap.size=w41.heap.size:=h42.size;have adx:xh Ba.heap (n0+7) s41 (L++[(x,e)]):=afZ.ext x42 fun q h1 h2 h=>by omega
  have af1:=ar af0 x42 (by omega);refine⟨_,Cell.af af1 rfl,au.mk fun b11 w43 n43=>aH.b1 n43.get rfl fun w44 VT=>⟨_,Cell.af (VT.get n43.get) rfl,Ar.i64 (by omega) (aH.b1 (VT.get n43.get) rfl fun Xn h45=>?_)⟩⟩;have ah6:=n43.at_;have z43:=n43.size;have z44:=VT.size;have z45:=h45.size;have xf:Ext (·=b11) Ba Xn:=((n43.ext.az).trans VT.ext fun _ _ h=>h).trans h45.ext fun _ _ h=>h
  have ah7:=Xq.ext.size;refine⟨l.length - (j+1),by omega,j+1,b11,s41,L++[(x,e)],rfl,by omega,rfl,?_,adx.ext xf (fun q h1 h2 h=>by omega),?_,?_,by omega,fun h=>?_,?_⟩
  .have e6:(([kind,lev,((l.length:Int) % 256)]++(l.take (j+1)).flatMap (wrE kind)).length:Nat)=pre.length+(wrE kind e).length:=by
    rw[List.take_add_one,List.getElem?_eq_getElem wE,hee,<- Rq];simp;omega
   rw[e6];have:=d42.ext xf fun q hq h=>by omega
   simpa using this
  .show List.map Prod.snd (L++[(x,e)])=_;rw[List.map_append,show List.map Prod.snd L=List.take j l from D.el,List.take_add_one,List.getElem?_eq_getElem wE,hee];rfl
  .exact h45.get (VT.get n43.get)
  .have:=(adx.own.lt h).2;omega
  .refine rC (rC (rC ((rC D.x Uy fun q h=>by omega).no Xq.ext) x41 fun q h=>?_) x42 fun q h=>by omega) xf fun q h=>by omega
   have:=(Uz.own.lt h).1;omega
 .rintro _ w46 ⟨s,L,nd,el,zr,d46⟩;refine⟨fun w'=>xh w'.heap (n0+7) s L/\Ext No w w'/\iW w'.heap n0 b P kind lev s 224 (-1),?_,?_⟩
  .refine⟨fun m w'=>∃i:Nat,m=224 - ((wr kind lev l).length+i)/\(wr kind lev l).length+i<=224/\xh w'.heap (n0+7) s L/\Ext No w w'/\iW w'.heap n0 b P kind lev s (((wr kind lev l++List.replicate i 0).length:Nat):Int) (-1),⟨_,0,rfl,by omega,nd,zr,by simpa using d46⟩,?_⟩;rintro _ m0 P2 ⟨i,rfl,hi,ady,x47,d47⟩;refine⟨_,Cell.af d47.c4 rfl,If.dec (fun _=>⟨_,Cell.af d47.c3 rfl,If.dec (fun h=>⟨_,Cell.af d47.c6 rfl,?_⟩) fun h=>?_⟩) fun h=>by omega⟩
   .simp only[List.length_append,List.length_replicate]at h
    have hPi:P=(wr kind lev l++List.replicate i 0)++([0]++List.replicate (224 - (wr kind lev l).length - i - 1) 0):=by
     rw[<- hP];unfold pad;rw[List.append_assoc];congr 1;rw[<- List.replicate_one,List.replicate_append_replicate,List.replicate_append_replicate];congr 1;omega
    refine lD (x:=[0]) d47 hPi rfl (by decide) (by decide) (fun K' hK=>Bu (Bt hK)) fun w48 d48 OQ z48=>?_
    refine⟨224 - ((wr kind lev l).length+(i+1)),by omega,i+1,rfl,by omega,ady.ext OQ (fun q h1 h2 h=>by omega),rC x47 OQ fun q h=>by omega,?_⟩;have e6:(((wr kind lev l++List.replicate i 0).length:Nat):Int)+1=((wr kind lev l++List.replicate (i+1) 0).length:Nat):=by simp;omega
    rw[<- e6];exact d48
   .have e6:(((wr kind lev l++List.replicate i 0).length:Nat):Int)=224:=by
     simp only[List.length_append,List.length_replicate]at h ⊢;omega
    rw[e6]at d47;exact⟨ady,x47,d47⟩
  rintro _ P3 ⟨af2,OR,d49⟩;refine⟨_,Cell.af d49.c4 rfl,If.dec (fun h=>by omega) fun _=>⟨_,Cell.af d49.c2 rfl,_,Cell.af d49.c2 rfl,_,Cell.af d49.c2 rfl,rfl,_,_,_,d49.c2,rfl,by simp,.inr (.inr (Nat.le_refl _)),?_,fun Zj h51=>?_⟩⟩
  .intro v hv;simp only[List.mem_cons,List.not_mem_nil,or_false]at hv;rcases hv with h | h | h <;> subst h <;> rfl
  have g51:Zj.heap[n0+1]? = some (.cells [.int .u8 kind,.int .u8 lev,.slice s.a s.len s.cap].toArray 214 (0,0)):=mG.get (b:=n0+1) h51 d49.c2;have x51:Ext (·=n0+1) P3 Zj:=mG.ext (b:=n0+1) h51;refine⟨_,Cell.af g51 rfl,_,Cell.af g51 rfl,_,Cell.af g51 rfl,k s L Zj ((af2.ext x51 fun q h1 h2 h=>by omega).mono (by omega)) el (rC OR x51 fun q h=>by omega)⟩
end
end Go.Proofs.YtiigcapldngijaaGreat
namespace Go.Proofs.YtiigcapldngijaaGreat
open Go.V Go.V.Dk Go.V.Rn
section
variable {w w':Wd} {T T':Nat->Nat} {s:SA}
abbrev SA.src(s:SA):Value:= .iface 41 (.pointer s.p)
structure lT(k:KP)(l:List gN):Prop where
 kd:k.l.kd=1
 lv:k.l.lv=0
 right:lA 1 0 l
 short:(wr 1 0 l).length<=224
 ok:∀e∈l,e.ch.ok/\e.cd.ok
 ne:l≠[]
 pay:k.b=pad (wr 1 0 l)
 b8:B8 k.b
set_option maxHeartbeats 1000000 in
theorem JR{k:KP}{l:List gN}{Q:SA->Prop}{K:Int->Int->Sl->Int->Pw}(y:Sy w T s)(G:G9 s k Q)(hl:lT k l)
  (kk:∀sl L s' T' base w',xh w'.heap base sl L->(∀i,base<=i->T' i=0)->w.heap.size<=base->fi L=l->Sy w' T' s'->Q s'->bu T w T' w'->K 1 0 sl 0 w'):eW s.src k.l.t k.l.pg k.l.cm k.l.gn 0 w K:=by
 apply Ab;refine fun b w1 n1 b1 w2 n2 b2 w3 n3=>?_
 have x3:Ext No w w3:=(n1.ext.no n2.ext).no n3.ext;have z1:=n1.size;have z2:=n2.size;have z3:=n3.size;have a1:=n1.at_;have a2:=n2.at_;have a3:=n3.at_;have g0:=ah (ah n1.get n2.ext) n3.ext;have g1:=ah n2.get n3.ext;have y3:=y.no x3;refine⟨fun kd u=>1=kd/\w3=u,⟨0,Cell.af g1 rfl,If.beq (fun _=>⟨rfl,rfl⟩) fun h=>absurd rfl h⟩,?_⟩;rintro _ _ _ ⟨rfl,rfl⟩;refine⟨_,Cell.af g0 rfl,k.l.t,Cell.af g0 rfl,0,Cell.af g1 rfl,k.l.pg,Cell.af g1 rfl,k.l.cm,Cell.af g1 rfl,k.l.gn,Cell.af g1 rfl,qh ?_⟩;have MA:=G w3 T ?_ y3 ?_;rw[hl.kd,hl.lv]at MA
 .exact MA
 intro sl s4 T4 w4 o4 _ y4 q4 p4;rw[hl.pay]at o4;have h8:=hl.b8;rw[hl.pay]at h8;refine If.bne (fun h=>absurd rfl h) fun _=>HZ o4.rd hl.right hl.short h8 hl.ok fun UA L w5 d5 hL x5=>?_
 refine fx rfl rfl (a_ rfl) fun w6 g6 z6 x6=>If.bne (fun h=>absurd rfl h) fun _=>?_
 have zr:Ext No w4 w6:=x5.no x6;have t1:T b1=0:=y.out b1 (by omega);have t2:T b2=0:=y.out b2 (by omega);have k1:=ah (p4.aw g1 (.inl t1)) zr;have k2:=ah (p4.aw n3.get (.inl t2)) zr;have hlen:UA.len=L.length:=d5.nd.len;have du:L.length≠0:=fun e=>hl.ne (by rw[<- hL,List.length_eq_zero_iff.1 e];rfl)
 refine⟨_,Cell.af g6 rfl,If.bne (fun h=>absurd rfl h) fun _=>⟨_,Cell.af g6 rfl,_,Cell.af k1 rfl,If.bne (fun h=>absurd rfl h) fun _=>⟨UA,Cell.af g6 rfl,If.beq (fun h=>by omega) fun _=>⟨_,Cell.af g6 rfl,_,Cell.af g6 rfl,UA,Cell.af g6 rfl,rfl,bO.mk k2 (Nat.le_refl 3) (a_ rfl) fun w7 h7=>?_⟩⟩⟩⟩;have g7:=h7.get k2;have l2:=aN n3.get;have z34:=p4.x.size;refine⟨_,Cell.af g7 rfl,_,Cell.af g7 rfl,UA,Cell.af g7 rfl,kk UA L s4 T4 w4.heap.size w7 ?_ y4.out (by omega) hL ((y4.no zr).loc h7.ext fun i e=> .inl (by subst e;rw[p4.a _ l2];exact t2)) q4 ((((bu.no x3).trans p4).nx zr).out h7.ext (by omega))⟩;have Kq:Ext (·=b2) w5 w7:=x6.az.trans h7.ext fun i _ h=>h
 exact d5.ext Kq fun i hi e=>by omega
theorem UB{g:Value}{t:Int}{Se:Value}{K:Int->Pw}(k:∀w',Ext No w w'->K 0 w'):gC g t 0 0 0 Se w K:=by
 apply yf
 refine fun b w1 n1 b1 w2 n2=>⟨fun _ _ u=>w2=u,⟨0,rfl⟩,?_⟩
 rintro _ _ _ _ rfl;refine⟨0,Cell.af n2.get rfl,0,Cell.af n2.get rfl,0,Cell.af n2.get rfl,If.no (k w2 (n1.ext.no n2.ext))⟩
theorem Rt{l:iV}{bs:Nat}{K:Pw}(g:w.heap[bs]? = some (.cells [Value.slice none 0 0].toArray 55 (0,0)))
  (k:∀s w',w'.heap[bs]? = some (.cells [s.v].toArray 55 (0,0))->aP w'.heap w.heap.size 89 6 s l.c->Ext (·=bs) w w'->K w'):nr l.t l.kd l.lv l.pg l.cm l.gn ⟨bs,0,none⟩ w K:=by
 apply Dg
 refine fun b w1 n1=>⟨⟨none,0,0⟩,Cell.af (ah g n1.ext) rfl,_,Cell.af n1.get rfl,_,Cell.af n1.get rfl,_,Cell.af n1.get rfl,_,Cell.af n1.get rfl,_,Cell.af n1.get rfl,_,Cell.af n1.get rfl,?_⟩
 refine G2 (cs:=[]) (xs:=l.c) (aP.nil _ _ _ _) (Nat.le_refl _) rfl (a_ rfl) (Nat.zero_le _) fun s2 w2 o2 l2 x2 YJ=>?_
 have lJ:Ext No w1 w2:=x2.mono fun _ _ h=>nomatch h
 have g2:=ah (ah g n1.ext) lJ;refine aH.mk g2 (by decide) rfl fun w3 h3=>k s2 w3 (h3.get g2) ?_ ((n1.ext.no lJ).az.trans h3.ext fun i _ h=>h)
 have z1:=n1.ext.size;exact(o2.ext h3.ext fun i hi e=>by have:=(o2.lt hi).1;have:=aN g;omega).mono z1
set_option maxHeartbeats 1000000 in
theorem Ru{k:KP}{e:gN}{bs:Nat}{w0:Wd}{Q:SA->Prop}{K:Int->Pw}(y:Sy w T s)(G:G9 s k Q)(hl:lT k [e])(En:e.ch = .z)(hn:k.l.pg≠0)(g:w.heap[bs]? = some (.cells [Value.slice none 0 0].toArray 55 (0,0)))(p0:bu T w0 T w)(h0:w0.heap.size<=bs)(tb:T bs=0)
  (kk:∀sl s' T' w',w'.heap[bs]? = some (.cells [sl.v].toArray 55 (0,0))->aP w'.heap w.heap.size 89 6 sl k.l.c->(∀i,sl.aw=some i->T' i=0)->Sy w' T' s'->Q s'->bu T w0 T' w'->K 0 w'):kI s.src k.l.t k.l.pg k.l.cm k.l.gn 0 (.func (.func 76) #[] #[.pointer (some ⟨bs,0,none⟩)]) w K:=by
 apply qe
 refine fun b w1 n1 b1 w2 n2=>⟨rfl,fun b2 w3 n3=>?_⟩
 have x3:Ext No w w3:=(n1.ext.no n2.ext).no n3.ext;have z1:=n1.size;have z2:=n2.size;have z3:=n3.size;have a1:=n1.at_;have a2:=n2.at_;have a3:=n3.at_;have g0:=ah (ah n1.get n2.ext) n3.ext;have g1:=ah n2.get n3.ext;have y3:=y.no x3;have hbs:=aN g;refine⟨k.l.pg,Cell.af g1 rfl,k.l.cm,Cell.af g1 rfl,k.l.gn,Cell.af g1 rfl,0,Cell.af g1 rfl,If.cases (fun h=>?_) fun _=>?_⟩
 .simp only[Bool.and_eq_true,beq_iff_eq]at h;omega
 refine⟨_,Cell.af g0 rfl,k.l.t,Cell.af g0 rfl,_,Cell.af g1 rfl,_,Cell.af g1 rfl,_,Cell.af g1 rfl,_,Cell.af g1 rfl,JR y3 G hl fun sl L s4 T4 base w4 d4 tz hz hL y4 q4 p4=>?_⟩;refine fx rfl rfl (a_ rfl) fun w6 g6 z6 x6=>If.bne (fun h=>absurd rfl h) fun _=>?_
 have tn:∀i,w.heap.size<=i->T i=0:=y.out
 have up:∀{i:Nat}{o:Obj},w3.heap[i]? = some o->T i=0->w6.heap[i]? = some o:=fun h t=>ah (p4.aw h (.inl t)) x6
 have k0:=up g0 (tn _ (by omega));have k1:=up g1 (tn _ (by omega));refine⟨_,Cell.af (up n3.get (tn _ (by omega))) rfl,_,Cell.af k0 rfl,1,Cell.af g6 rfl,0,Cell.af k1 rfl,_,Cell.af k1 rfl,_,Cell.af k1 rfl,_,Cell.af k1 rfl,Dh ?_⟩;have adz:=Rt (K:=?_) (l:=k.l) (up (ah g x3) tb) ?_;rw[hl.kd,hl.lv]at adz
 .exact adz
 intro sl7 w7 g7 o7 x7;have z34:=p4.x.size;have zx:=x6.size;have g67:w7.heap[w4.heap.size]? = _:=ar g6 x7 (by omega);have d7:xh w7.heap base sl L:=(d4.no x6).ext x7 fun i hi e=>by omega
 refine⟨sl,Cell.af g67 rfl,?_⟩
 obtain⟨p,rfl⟩ : ∃p,L=[p]:=by
  have:=congrArg List.length hL
  match L,this with
  | [p],_=>exact⟨p,rfl⟩
  | [],h=>simp at h
  | _::_::_,h=>simp at h
 have LQ:p.2=e:=by simpa[fi] using hL
 have hz':p.1.ch = .z:=by rw[(d7.nd.JM p (List.mem_singleton.2 rfl)).ch,LQ];exact En
 obtain⟨⟨xk,xv,xn,xch,xcd⟩,e1⟩:=p;simp only at hz';subst hz';have VU:w7.heap[b]? = some (.cells [s.src,.int .u32 k.l.t].toArray 165 (0,0)):=ar k0 x7 (by omega);have Cc:w7.heap[b1]? = some (.cells [Value.int .u32 k.l.pg,.int .u64 k.l.cm,.int .u16 k.l.gn,.int .u8 0].toArray 46 (0,0)):=ar k1 x7 (by omega);have hlen:sl.len=1:=d7.nd.len;have y7:=(y4.no x6).loc x7 fun i e=> .inl (by subst e;rw[p4.a _ (by omega)];exact tb)
 have p7:bu T w0 T4 w7:=(((p0.nx x3).trans p4).nx x6).out x7 h0;have fin:∀u,Ext No w7 u->K 0 u:=fun u x=>kk sl7 s4 T4 u (ah g7 x) ((o7.no x).mono (by omega)) (fun i hi=>y4.out i (by have:=(o7.lt hi).1;omega)) (y7.no x) q4 (p7.nx x)
 refine⟨fun n t u=>(n=1/\t=0/\w7=u)∨(n=0/\t=1/\Ext No w7 u),⟨1,.inl ⟨rfl,rfl,rfl⟩⟩,?_⟩;rintro _ n t u (⟨rfl,rfl,rfl⟩ | ⟨rfl,rfl,x8⟩)
 .refine If.dec (fun _=>?_) fun h=>absurd (by omega) h
  refine vQ d7.nd.rd (by decide) (by omega) fun b9 w9 hi g9 e9 z9 x9=>?_
  exact⟨0,Cell.af (ah Cc x9) rfl,If.dec (fun h=>absurd h (by decide)) fun _=>⟨_,Cell.af (ah VU x9) rfl,k.l.t,Cell.af (ah VU x9) rfl,0,Cell.af g9 rfl,0,Cell.af g9 rfl,0,Cell.af g9 rfl,UB fun eK dQ=>If.bne (fun h=>absurd rfl h) fun _=>Ar.i64 (by decide) ⟨0,by decide,.inr ⟨rfl,rfl,x9.no dQ⟩⟩⟩⟩
 .exact If.dec (fun h=>absurd h (by omega)) fun _=>fin u x8
theorem CO{k:KP}{e:gN}{Q:SA->Prop}{K:Sl->Int->Pw}(y:Sy w T s)(G:G9 s k Q)(hl:lT k [e])(En:e.ch = .z)(hn:k.l.pg≠0)
  (kk:∀sl s' T' w',aP w'.heap w.heap.size 89 6 sl k.l.c->(∀i,sl.aw=some i->T' i=0)->Sy w' T' s'->Q s'->bu T w T' w'->K sl 0 w'):jd s.src k.l.t k.l.pg k.l.cm k.l.gn 0 w K:=by
 apply xC
 refine fun b w1 n1=>⟨trivial,If.no fun b1 w2 n2=>⟨rfl,_,Cell.af (ah n1.get n2.ext) rfl,_,Cell.af (ah n1.get n2.ext) rfl,_,Cell.af (ah n1.get n2.ext) rfl,_,Cell.af (ah n1.get n2.ext) rfl,?_⟩⟩
 have x2:=n1.ext.no n2.ext;have a2:=n2.at_;have z1:=n1.size;have z2:=n2.size
 refine Ru (y.no x2) G hl En hn n2.get (.no x2) (by omega) (y.out _ (by omega)) fun sl s' T' w3 g3 o3 t3 y3 q3 p3=>If.bne (fun h=>absurd rfl h) fun _=>⟨sl,Cell.af g3 rfl,kk sl s' T' w3 (o3.mono x2.size) t3 y3 q3 p3⟩
theorem Xr{t:Int}{K:Sl->Int->Pw}(k:∀w',Ext No w w'->K ⟨none,0,0⟩ 0 w'):jd s.src t 0 0 0 0 w K:=by
 apply xC
 refine fun b w1 n1=>⟨trivial,If.no fun b1 w2 n2=>⟨rfl,0,Cell.af (ah n1.get n2.ext) rfl,0,Cell.af (ah n1.get n2.ext) rfl,0,Cell.af (ah n1.get n2.ext) rfl,0,Cell.af (ah n1.get n2.ext) rfl,?_⟩⟩
 apply qe
 refine fun b3 w3 n3 b4 w4 n4=>⟨rfl,fun b5 w5 n5=>?_⟩
 have g4:=ah n4.get n5.ext;have kv:Ext No w2 w5:=(n3.ext.no n4.ext).no n5.ext;exact⟨0,Cell.af g4 rfl,0,Cell.af g4 rfl,0,Cell.af g4 rfl,0,Cell.af g4 rfl,If.yes (If.bne (fun h=>absurd rfl h) fun _=>⟨⟨none,0,0⟩,Cell.af (ah n2.get kv) rfl,k w5 ((n1.ext.no n2.ext).no kv)⟩)⟩
end
end Go.Proofs.YtiigcapldngijaaGreat
namespace Go.Proofs.YtiigcapldngijaaGreat
open Go.V Go.V.Pk
theorem af3:(2:Int) ^ min (Int.toNat 7) (IntKind.bits .u64)=128:=by decide
theorem MB{n:Int}{w:Wd}{K:Sl->Pw}(h0:0<=n)(h1:n<=18446744073709551615)
  (hk:∀s w',aL w'.heap w.heap.size s (numB n.toNat)->Ext No w w'->K s w'):sC n w K:=by
 apply N1;have D2:=bK (n:=n.toNat) (by omega)
 refine⟨fun m x s w'=>m=x.toNat/\0<=x/\x<=18446744073709551615/\∃pre,aL w'.heap w.heap.size s pre/\pre++numB x.toNat=numB n.toNat/\Ext No w w',
  ⟨_,rfl,h0,h1,[],aP.nil _ _ _ _,rfl,Ext.refl _ _⟩,?_⟩
 rintro _ m x s w1 ⟨rfl,hx0,hx1,pre,own,Rq,ext⟩;have hs:=own.len;have hl:pre.length<=10:=by rw[<- Rq,List.length_append]at D2;omega
 have fin:∀b w2 w3 (y:Int),Gq w1 (.cells [.int .u8 y].toArray 5) b w2->Ext (fun i=>s.aw=some i) w2 w3->Ext No w w3:=fun b w2 w3 y new e=>
  (ext.no new.ext).trans e fun i hi hb=>by have:=(own.lt hb).1;omega
 refine If.dec (fun hgt=>?_) (fun hle=>?_)
 .refine Ar.Qy (Nm.as (NF (by omega)) fun b w2 new=>?_);refine dj (own.no new.ext) (by have:=new.ext.size;have:=ext.size;omega) ((aP.new (sz:=1) (n:=1) new rfl (by simp[cB])).rd.src) (by simp at hs ⊢;omega) fun s' w3 BS _ ext' _=>?_
  refine⟨by decide,Nm.as (e':=x / 128) (by rw[fdiv_pow,af3]) ⟨_,?_,rfl,by omega,by omega,pre++[x % 256 % 128+128],by simpa[aL] using BS,?_,fin _ _ _ _ new ext'⟩⟩
  .omega
  .rw[<- Rq,Ee (n:=x.toNat) (by omega)];simp only[List.append_assoc,List.singleton_append];congr 2
   .omega
   .congr 1;omega
 .refine Ar.u8 (by omega) fun b w2 new=>?_
  refine dj (own.no new.ext) (by have:=new.ext.size;have:=ext.size;omega) ((aP.new (sz:=1) (n:=1) new rfl (by simp[cB])).rd.src) (by simp at hs ⊢;omega) fun s' w3 BS _ ext' _=>?_
  refine hk s' w3 ?_ (fin _ _ _ _ new ext');rw[<- Rq,se (by omega)];simpa[aL,Int.toNat_of_nonneg hx0] using BS
theorem _root_.Go.V.Rd.adA{S:Nat->Prop}{w w':Wd}{s:Sl}{sz:Nat}{cs:List Value}(r:Rd w.heap s sz cs)(x:Ext S w w')(h:cs≠[]->∀b,s.aw=some b->¬ S b):Rd w'.heap s sz cs:=by
 by_cases hl:cs=[]
 .subst hl;exact⟨r.len,r.cap,fun h=>(h rfl).elim,by simp⟩
 .exact r.ext x fun a b ha hb=>h hl b (by simp[Sl.aw,ha,hb])
structure zH(h:Array Obj)(rb:Nat)(s:Sl)(l:List Int)(at_:Nat)(f:Int):Prop where
 aw:∃T,h[rb]? = some (.cells [s.v,.int .i64 at_,.int .i64 f].toArray T (0,0))
 rd:aQ h s l
 ne:l≠[]->s.aw≠some rb
 Kz:B8 l
 le:at_<=l.length
 len:l.length<=4611686018427387904
theorem zH.ext{S:Nat->Prop}{w w':Wd}{rb:Nat}{s:Sl}{l:List Int}{at_:Nat}{f:Int}(r:zH w.heap rb s l at_ f)(e:Ext S w w')(h1:¬ S rb)(h2:∀b,s.aw=some b->¬ S b):zH w'.heap rb s l at_ f:=by
 obtain⟨T,hT⟩:=r.aw;obtain⟨aN,_⟩:=Array.getElem?_eq_some_iff.1 hT;exact⟨⟨T,by rw[e.aw rb aN h1];exact hT⟩,r.rd.ext e (fun a b ha hb=>h2 b (by simp[Sl.aw,ha,hb])),r.ne,r.Kz,r.le,r.len⟩
theorem zH.no{w w':Wd}{rb:Nat}{s:Sl}{l:List Int}{at_:Nat}{f:Int}(r:zH w.heap rb s l at_ f)(e:Ext No w w'):zH w'.heap rb s l at_ f:=r.ext e id fun _ _=>id
theorem zH.set{w w':Wd}{rb:Nat}{s:Sl}{l:List Int}{at_ at':Nat}{f f':Int}{T:TypeId}(r:zH w.heap rb s l at_ f)(hw:mG w rb (.cells [s.v,.int .i64 at',.int .i64 f'].toArray T (0,0)) w')(hle:at'<=l.length) :
  zH w'.heap rb s l at' f':=by
 obtain⟨T',hT⟩:=r.aw;refine⟨⟨T,hw.get hT⟩,r.rd.adA hw.ext (fun du b hb e=>r.ne (fun h=>du (by rw[h];rfl)) (by rw[hb,e])),r.ne,r.Kz,hle,r.len⟩
theorem P4{w:Wd}{rb:Nat}{s:Sl}{l:List Int}{at_:Nat}{f:Int}{K:Bool->Pw}(r:zH w.heap rb s l at_ f)(k:K (f == 0) w):iz (some ⟨rb,0,none⟩) w K:=by
 apply BE;obtain⟨T,hT⟩:=r.aw;exact If.yes (Nn.mk ⟨_,Cell.af hT rfl,k⟩)
end Go.Proofs.YtiigcapldngijaaGreat
namespace Go.Proofs.YtiigcapldngijaaGreat
open Go.V Go.V.Pk
theorem H0{b:Sl}{w:Wd}{K:Sl->Pw}{l:List Int}(hb:aQ w.heap b l)(hl:l.length<=70368744177664)
  (k:∀s w',aL w'.heap w.heap.size s (numB l.length++l)->Ext No w w'->K s w'):gf b w K:=by
 apply Ly;have hlb:=hb.len;refine Ar.u64 (by omega) (MB (by omega) (by omega) fun s w1 own ext=>?_);have hs:=own.len;have D2:=bK (n:=((b.len:Int)).toNat) (by omega);refine dj own ext.size (hb.no ext).src (by omega) fun s' w2 BS _ ext' _=>?_
 refine k s' w2 ?_ (ext.trans ext' fun i hi hbi=>by have:=(own.lt hbi).1;omega);have e:((b.len:Int)).toNat=l.length:=by omega
 rw[e]at BS;simpa[aL] using BS
end Go.Proofs.YtiigcapldngijaaGreat
namespace Go.V
open Go.V.Pk Go.Proofs.YtiigcapldngijaaGreat
structure dX where
 gen:Int
 cm:Int
 wr:List Int
deriving DecidableEq
structure jn where
 tenant:Int
 bH:Int
 mark:List Int
 root:Rf
 lev:Int
 aO:Int
 held:List dX
deriving DecidableEq
def JS(x:jn):Prop:=x.tenant≠0/\1<=x.bH/\x.bH<=1000/\x.mark.length=16/\0<=x.aO/\x.aO<=x.bH/\(x.aO=0 ↔ x.root = .z/\x.lev=0)/\
 ((∃a,x.held=[a]/\a.wr.length=32)∨∃a b,x.held=[a,b]/\a.wr.length=32/\b.wr.length=32/\b.gen=a.gen+1)
def textB(l:List Int):List Int:=numB l.length++l
def lU(h:dX):List Int:=numB h.gen.toNat++(numB h.cm.toNat++textB h.wr)
def fy(x:jn):List Int:=
 numB x.bH.toNat++(numB x.aO.toNat++(textB x.mark++(numB x.root.p.toNat++(numB x.root.c.toNat++(numB x.root.g.toNat++(numB x.lev.toNat++(numB x.held.length++x.held.flatMap lU)))))))
structure OS(h:dX):Prop where
 gen:0<=h.gen/\h.gen<=65535
 cm:0<=h.cm/\h.cm<=18446744073709551615
 wr:B8 h.wr
structure Rv(x:jn):Prop where
 tenant:0<=x.tenant/\x.tenant<=4294967295
 mark:B8 x.mark
 root:x.root.ok
 lev:0<=x.lev/\x.lev<=255
 held:∀h∈x.held,OS h
structure iq where
 gen:Int
 cm:Int
 wr:Sl
def iq.cells(v:iq):List Value:=[.int .u16 v.gen,.int .u64 v.cm,.slice v.wr.a v.wr.len v.wr.cap]
structure dN where
 tenant:Int
 bH:Int
 mark:Sl
 root:Rf
 lev:Int
 aO:Int
 held:Sl
def dN.cells(v:dN):List Value:=[.int .u32 v.tenant,.int .i64 v.bH,.slice v.mark.a v.mark.len v.mark.cap,.int .u32 v.root.p,.int .u64 v.root.c,.int .u16 v.root.g,.int .u8 v.lev,.int .i64 v.aO,.slice v.held.a v.held.len v.held.cap]
def tu:dN:=⟨0,0,⟨none,0,0⟩,.z,0,0,⟨none,0,0⟩⟩
theorem iq.one(v:iq):∀x∈v.cells,cB x=true:=by
 intro x hx;simp only[iq.cells,List.mem_cons,List.not_mem_nil,or_false]at hx;rcases hx with rfl | rfl | rfl <;> rfl
theorem dN.one(v:dN):∀x∈v.cells,cB x=true:=by
 intro x hx;simp only[dN.cells,List.mem_cons,List.not_mem_nil,or_false]at hx;rcases hx with rfl | rfl | rfl | rfl | rfl | rfl | rfl | rfl | rfl <;> rfl
theorem bO.mk{w:Wd}{b o:Nat}{cs vs:List Value}{T:TypeId}{K:Pw}(hb:w.heap[b]? = some (.cells cs.toArray T (0,0)))(ho:o+vs.length<=cs.length)(hv:∀v∈vs,cB v=true)
  (k:∀w',mG w b (.cells (setL cs o vs).toArray T (0,0)) w'->K w'):bO w ⟨b,o,none⟩ vs K:=
 ⟨cs.toArray,T,(0,0),hb,rfl,by simpa using ho,.inr (.inr (Nat.le_refl _)),hv,fun w' hw=>k w' hw⟩
theorem Rw(cs vs:List Value)(h:vs.length=cs.length):setL cs 0 vs=vs:=by
 rw[we _ _ _ (by omega),List.take_zero,List.nil_append,Nat.zero_add,h,List.drop_length,List.append_nil]
theorem bO.all{w:Wd}{b:Nat}{cs vs:List Value}{T:TypeId}{K:Pw}(hb:w.heap[b]? = some (.cells cs.toArray T (0,0)))(hl:vs.length=cs.length)(hv:∀v∈vs,cB v=true)
  (k:∀w',w'.heap[b]? = some (.cells vs.toArray T (0,0))->Ext (·=b) w w'->w'.heap.size=w.heap.size->K w'):bO w ⟨b,0,none⟩ vs K:=
 bO.mk hb (by omega) hv fun w' h=>k w' (by have:=h.get hb;rw[Rw _ _ hl]at this;exact this) h.ext h.size
structure xJ(Q:Nat->Prop)(h:Array Obj)(s:Sl)(l:List Int):Prop where
 rd:aQ h s l
 q:l≠[]->∀b,s.aw=some b->Q b
theorem xJ.ext{Q S:Nat->Prop}{w w':Wd}{s:Sl}{l:List Int}(r:xJ Q w.heap s l)(x:Ext S w w')(h:∀b,Q b->¬ S b):xJ Q w'.heap s l:=by
 refine⟨?_,r.q⟩;by_cases hl:l=[]
 .subst hl;exact⟨Rd.len r.rd,r.rd.cap,fun h=>(h rfl).elim,by simp⟩
 .exact Rd.ext r.rd x fun a b ha hb=>h b (r.q hl b (by simp[Sl.aw,ha,hb]))
theorem xJ.no{Q:Nat->Prop}{w w':Wd}{s:Sl}{l:List Int}(r:xJ Q w.heap s l)(x:Ext No w w'):xJ Q w'.heap s l:=r.ext x fun _ _=>id
theorem xJ.mono{Q Q':Nat->Prop}{h:Array Obj}{s:Sl}{l:List Int}(r:xJ Q h s l)(hq:∀b,Q b->Q' b):xJ Q' h s l:=⟨r.rd,fun hl b hb=>hq b (r.q hl b hb)⟩
theorem xJ.own{Q:Nat->Prop}{h:Array Obj}{base:Nat}{s:Sl}{l:List Int}(o:aL h base s l)(hq:∀b,base<=b->b < h.size->Q b):xJ Q h s l:=⟨o.rd,fun _ b hb=>hq b (o.lt hb).1 (o.lt hb).2⟩
theorem xJ.lt{Q:Nat->Prop}{h:Array Obj}{s:Sl}{l:List Int}(r:xJ Q h s l):xJ (fun q=>Q q/\q < h.size) h s l:=⟨r.rd,fun hl b hb=>⟨r.q hl b hb,Rd.lt r.rd (by simpa using hl) hb⟩⟩
structure rM(Q:Nat->Prop)(h:Array Obj)(v:iq)(x:dX):Prop where
 gen:v.gen=x.gen
 cm:v.cm=x.cm
 wr:xJ Q h v.wr x.wr
theorem rM.ext{Q S:Nat->Prop}{w w':Wd}{v:iq}{x:dX}(r:rM Q w.heap v x)(e:Ext S w w')(h:∀b,Q b->¬ S b):rM Q w'.heap v x:=⟨r.gen,r.cm,r.wr.ext e h⟩
theorem rM.no{Q:Nat->Prop}{w w':Wd}{v:iq}{x:dX}(r:rM Q w.heap v x)(e:Ext No w w'):rM Q w'.heap v x:=r.ext e fun _ _=>id
theorem rM.mono{Q Q':Nat->Prop}{h:Array Obj}{v:iq}{x:dX}(r:rM Q h v x)(hq:∀b,Q b->Q' b):rM Q' h v x:=⟨r.gen,r.cm,r.wr.mono hq⟩
abbrev hC(L:List (iq×dX)):List Value:=L.flatMap fun e=>e.1.cells
theorem UC(L:List (iq×dX)):∀e∈L,e.1.cells.length=3:=fun _ _=>rfl
theorem adB{L:List (iq×dX)}(h:hC L≠[]):L≠[]:=by rintro rfl;exact h rfl
def hH(Q:Nat->Prop)(h:Array Obj)(s:Sl)(l:List dX):Prop:=∃L:List (iq×dX),L.map Prod.snd=l/\Rd h s 3 (hC L)/\(L≠[]->∀b,s.aw=some b->Q b)/\∀e∈L,rM Q h e.1 e.2
theorem hH.ext{Q S:Nat->Prop}{w w':Wd}{s:Sl}{l:List dX}(r:hH Q w.heap s l)(x:Ext S w w')(h:∀b,Q b->¬ S b):hH Q w'.heap s l:=by
 obtain⟨L,h1,h2,h3,h4⟩:=r;exact⟨L,h1,h2.adA x fun du b hb=>h b (h3 (adB du) b hb),h3,fun e he=>(h4 e he).ext x h⟩
theorem hH.no{Q:Nat->Prop}{w w':Wd}{s:Sl}{l:List dX}(r:hH Q w.heap s l)(x:Ext No w w'):hH Q w'.heap s l:=r.ext x fun _ _=>id
theorem hH.mono{Q Q':Nat->Prop}{h:Array Obj}{s:Sl}{l:List dX}(r:hH Q h s l)(hq:∀b,Q b->Q' b):hH Q' h s l:=by
 obtain⟨L,h1,h2,h3,h4⟩:=r;exact⟨L,h1,h2,fun du b hb=>hq b (h3 du b hb),fun e he=>(h4 e he).mono hq⟩
theorem hH.len{Q:Nat->Prop}{h:Array Obj}{s:Sl}{l:List dX}(r:hH Q h s l):s.len=l.length:=by
 obtain⟨L,h1,h2,h3,h4⟩:=r;have:=h2.len;rw[cQ (UC L)]at this;rw[<- h1,List.length_map];omega
structure iE(Q:Nat->Prop)(h:Array Obj)(v:dN)(x:jn):Prop where
 tenant:v.tenant=x.tenant
 bH:v.bH=x.bH
 mark:xJ Q h v.mark x.mark
 root:v.root=x.root
 lev:v.lev=x.lev
 aO:v.aO=x.aO
 held:hH Q h v.held x.held
theorem iE.ext{Q S:Nat->Prop}{w w':Wd}{v:dN}{x:jn}(r:iE Q w.heap v x)(e:Ext S w w')(h:∀b,Q b->¬ S b):iE Q w'.heap v x:=⟨r.tenant,r.bH,r.mark.ext e h,r.root,r.lev,r.aO,r.held.ext e h⟩
theorem iE.no{Q:Nat->Prop}{w w':Wd}{v:dN}{x:jn}(r:iE Q w.heap v x)(e:Ext No w w'):iE Q w'.heap v x:=r.ext e fun _ _=>id
theorem iE.mono{Q Q':Nat->Prop}{h:Array Obj}{v:dN}{x:jn}(r:iE Q h v x)(hq:∀b,Q b->Q' b):iE Q' h v x:=⟨r.tenant,r.bH,r.mark.mono hq,r.root,r.lev,r.aO,r.held.mono hq⟩
theorem UD{Q:Nat->Prop}{w:Wd}{s:Sl}{l:List dX}{i:Int}{K:Addr->Prop}(r:hH Q w.heap s l)(h0:0<=i)(h1:i < (s.len:Int))
  (k:∀b o (v:iq) (hi:i.toNat < l.length),rM Q w.heap v l[i.toNat]->(∀j x,v.cells[j]? = some x->Cell w ⟨b,o+j,none⟩ x)->K ⟨b,o,none⟩):Ix s.a s.len i 3 K:=by
 obtain⟨L,h2,h3,h4,h5⟩:=r;refine Ix.elem (f:=fun e:iq×dX=>e.1.cells) h3 (UC L) (by decide) h0 h1 fun b o hi hb hc=>?_
 have hl:L.length=l.length:=by rw[<- h2,List.length_map]
 refine k b o L[i.toNat].1 (by omega) ?_ hc;have e:l[i.toNat]'(by omega)=L[i.toNat].2:=by simp[<- h2]
 rw[e];exact h5 _ (List.getElem_mem hi)
end Go.V
namespace Go.Proofs.YtiigcapldngijaaGreat
open Go.V
section
variable {w:Wd} {Q Q':Nat->Prop}
theorem lV{w:Wd}{b j:Nat}{x:Value}{cs:List Value}{T:TypeId}{fz:Nat×Nat}(g:w.heap[b]? = some (.cells cs.toArray T fz))(h:cs[j]? = some x):aj (Ext No w) ((Addr.mk b 0 none).add j) x:=by
 rw[ay rfl,Nat.zero_add];exact aj.cell (Cell.af g h)
theorem Ft{w:Wd}{b i j:Nat}{x:Value}{cs:List Value}{T:TypeId}{fz:Nat×Nat}(g:w.heap[b]? = some (.cells cs.toArray T fz))(h:cs[i+j]? = some x):aj (Ext No w) (((Addr.mk b 0 none).add i).add j) x:=by
 rw[ay (a:=Addr.mk b 0 none) rfl,ay rfl,Nat.zero_add];exact aj.cell (Cell.af g h)
theorem MC{w:Wd}{b:Nat}{x:Value}{cs:List Value}{T:TypeId}{fz:Nat×Nat}(g:w.heap[b]? = some (.cells cs.toArray T fz))(h:cs[0]? = some x):aj (Ext No w) (Addr.mk b 0 none) x:=aj.cell (Cell.af g h)
theorem eqB{x y:List Int}(hx:B8 x)(hy:B8 y):(C_ x == C_ y)=decide (x=y):=by rw[Bool.eq_iff_iff];simp[Wi hx hy]
theorem CP{a b:Sl}{x y:List Int}{K:Bool->Pw}(ha:aQ w.heap a x)(hb:aQ w.heap b y)(hx:B8 x)(hy:B8 y)(k:K (decide (x=y)) w):dW a b w K:=by
 apply GL;refine mH.mk ha (fun _ _ _ h=>Cell.mk h) (mH.mk hb (fun _ _ _ h=>Cell.mk h) ?_);rw[toList_mk,toList_mk,eqB hx hy];exact k
end
end Go.Proofs.YtiigcapldngijaaGreat
namespace Go.V
theorem Rx{r:Rf}{lev:Int}:((((r.p == 0) && ((r.c == 0) && ((r.g == 0) && true))) && ((lev == 0) && true))=true) ↔ (r = .z/\lev=0):=by
 obtain⟨p,c,g⟩:=r;simp[Rf.z]
theorem UE{l:List dX}(h:l.length=2):∃a b,l=[a,b]:=by
 match l,h with
 | [a,b],_=>exact⟨a,b,rfl⟩
theorem UF{l:List dX}(h:l.length=1):∃a,l=[a]:=by
 match l,h with
 | [a],_=>exact⟨a,rfl⟩
theorem zA{α:Type}{l:List α}{j:Nat}(h:j < l.length):l.take (j+1)=l.take j++[l[j]]:=by
 rw[List.take_succ_eq_append_getElem h]
end Go.V
namespace Go.Proofs.YtiigcapldngijaaGreat
open Go.V
section
variable {w:Wd} {Q Q':Nat->Prop}
theorem CQ{s:Sl}{l:List dX}{K:Bool->Pw}(r:hH Q w.heap s l)(hl:l.length<=1000000000000)(k:∀t w',(t=true ↔ ∃h∈l,h.wr.length≠32)->Ext No w w'->K t w') :
  br s (.func (.func 374) #[] #[]) w K:=by
 apply hZ;apply iR;have od:=r.len;refine⟨fun m t w'=>∃j:Nat,t=j/\j<=l.length/\m=l.length - j/\(∀h∈l.take j,h.wr.length=32)/\Ext No w w',⟨_,0,rfl,Nat.zero_le _,rfl,by simp,Ext.refl _ _⟩,?_⟩;rintro _ m0 _ w1 ⟨j,rfl,hj,rfl,nK,x1⟩;refine If.dec (fun h=>?_) fun h=>?_
 .refine UD (r.no x1) (by omega) h fun b o v hi hr hc=>?_
  have wE:j < l.length:=hi;have el:l[((j:Nat):Int).toNat]'hi=l[j]:=rfl;rw[el]at hr;refine⟨v.gen,hc 0 _ rfl,v.cm,hc 1 _ rfl,v.wr,hc 2 _ rfl,I5 (I4 (au.mk fun b1 w2 n2=>⟨v.wr,Cell.af (cs:=v.cells) n2.get rfl,?_⟩))⟩;have hlw:=aQ.len hr.wr.rd;have x2:=x1.no n2.ext;refine If.bne (fun du=>k _ w2 ?_ x2) fun he=>Ar.i64 (by omega) ⟨_,by omega,j+1,by omega,by omega,rfl,fun h hh=>?_,x2⟩
  .rw[decide_eq_true (by omega)];exact⟨fun _=>⟨_,List.getElem_mem wE,by omega⟩,fun _=>rfl⟩
  .rw[zA wE]at hh;rcases List.mem_append.1 hh with h1 | h1
   .exact nK h h1
   .rw[List.mem_singleton]at h1;rw[h1];omega
 .have Xs:j=l.length:=by omega
  rw[Xs,List.take_length]at nK;refine k _ w1 ?_ x1;rw[show decide ((-1:Int)≥0)=false from rfl];exact⟨fun h=>(by cases h),fun⟨h,hh,du⟩=>(du (nK h hh)).elim⟩
set_option maxHeartbeats 1000000 in
theorem Ry{v:dN}{x:jn}{K:Bool->Pw}(r:iE Q w.heap v x)(rg:∀h∈x.held,OS h)(hl:x.held.length<=1000000000000)(k:∀t w',(t=true ↔ JS x)->Ext No w w'->K t w'):yb v.tenant v.bH v.mark v.root.p v.root.c v.root.g v.lev v.aO v.held w K:=by
 apply N3;refine au.mk fun b w1 n1=>?_
 have g1:w1.heap[b]? = some (.cells v.cells.toArray 100 (0,0)):=n1.get;have x1:=n1.ext;have xd:Ext No w (ae w1):=x1.drew;have xdd:Ext No w (ae (ae w1)):=xd.drew;have lm:=aQ.len r.mark.rd;have lh:=r.held.len;have et:=r.tenant;have eq:=r.bH;have er:=r.root;have ev:=r.lev;have ec:=r.aO;have no:∀{w'},Ext No w w'->¬ JS x->K false w':=fun e h=>k _ _ ⟨fun h=>(by cases h),fun h'=>(h h').elim⟩ e
 refine⟨_,Cell.af g1 rfl,fun t w'=>(t=true ↔ ¬ (x.tenant≠0/\1<=x.bH/\x.bH<=1000/\x.mark.length=16))/\w'=w1,
  ⟨_,Cell.af g1 rfl,If.beq (fun h=>⟨⟨fun _ h'=>by omega,fun _=>rfl⟩,rfl⟩) fun h1=>⟨_,Cell.af g1 rfl,If.dec (fun h=>⟨⟨fun _ h'=>by omega,fun _=>rfl⟩,rfl⟩) fun h2=>⟨_,Cell.af g1 rfl,If.dec (fun h=>⟨⟨fun _ h'=>by omega,fun _=>rfl⟩,rfl⟩) fun h3=>⟨_,Cell.af g1 rfl,⟨?_,rfl⟩⟩⟩⟩⟩,?_⟩
 .rw[bne_iff_ne];exact⟨fun h h'=>by omega,fun h h'=>h ⟨by omega,by omega,by omega,by omega⟩⟩
 rintro _ t w2 ⟨ht,rfl⟩;refine If.cases (fun h=>no x1 fun m=>ht.1 h ⟨m.1,m.2.1,m.2.2.1,m.2.2.2.1⟩) fun h=>?_
 have hA:x.tenant≠0/\1<=x.bH/\x.bH<=1000/\x.mark.length=16:=Classical.byContradiction fun c=>by rw[ht.2 c]at h;cases h
 refine⟨fun t w'=>(t=true ↔ ¬ (0<=x.aO/\x.aO<=x.bH/\(x.aO=0 ↔ x.root = .z/\x.lev=0)))/\w'=ae w2,
  ⟨Ext No w2,(Ext.refl _ _).drew,v.aO,lV g1 rfl,If.dec (fun h=>⟨⟨fun _ h'=>by omega,fun _=>rfl⟩,rfl⟩) fun h1=>⟨v.aO,lV g1 rfl,v.bH,lV g1 rfl,If.dec (fun h=>⟨⟨fun _ h'=>by omega,fun _=>rfl⟩,rfl⟩) fun h2=>⟨v.aO,lV g1 rfl,v.root.p,lV g1 rfl,v.root.c,Ft g1 rfl,v.root.g,Ft g1 rfl,v.lev,Ft g1 rfl,⟨?_,rfl⟩⟩⟩⟩,?_⟩
 .have e1:(v.aO == 0)=decide (x.aO=0):=by rw[ec];rfl
  have e2:((((v.root.p == 0) && ((v.root.c == 0) && ((v.root.g == 0) && true))) && ((v.lev == 0) && true)))=decide (x.root = .z/\x.lev=0):=by rw[Bool.eq_iff_iff,Rx,er,ev,decide_eq_true_iff]
  rw[e1,e2];by_cases c1:x.aO=0 <;> by_cases c2:x.root = .z/\x.lev=0 <;> simp[c1,c2] <;> omega
 rintro _ t w3 ⟨ht,rfl⟩;refine If.cases (fun h=>no xd fun m=>ht.1 h ⟨m.2.2.2.2.1,m.2.2.2.2.2.1,m.2.2.2.2.2.2.1⟩) fun h=>?_
 have hB:0<=x.aO/\x.aO<=x.bH/\(x.aO=0 ↔ x.root = .z/\x.lev=0):=Classical.byContradiction fun c=>by rw[ht.2 c]at h;cases h
 have gd:(ae w2).heap[b]? = some (.cells v.cells.toArray 100 (0,0)):=g1
 have len:JS x->x.held.length=1∨x.held.length=2:=fun m=>by
  rcases m.2.2.2.2.2.2.2 with⟨a,h,_⟩ | ⟨a,c,h,_⟩ <;> rw[h] <;> simp
 refine⟨Ext No (ae w2),(Ext.refl _ _).drew,If.dec (fun h=>no xdd fun m=>by have:=len m;omega) fun h1=>If.dec (fun h=>no xdd fun m=>by have:=len m;omega) fun h2=>If.beq (fun h3=>?_) fun h3=>?_⟩
 .obtain⟨a,c,PG⟩:=UE (l:=x.held) (by omega);have ga:=rg a (by rw[PG];simp);have gc:=rg c (by rw[PG];simp);have hr:hH Q (ae w2).heap v.held [a,c]:=by rw[<- PG];exact r.held.no xd
  have two:x.held.length=2:=by omega
  have aa6:JS x->c.gen=a.gen+1/\a.wr.length=32/\c.wr.length=32:=fun m=>by
   rcases m.2.2.2.2.2.2.2 with⟨a',h,_⟩ | ⟨a',c',h,h1,h2,h3⟩
   .rw[h]at two;cases two
   .rw[PG]at h;cases h;exact⟨h3,h1,h2⟩
  refine⟨v.held,lV gd rfl,UD hr (Int.le_refl _) (by omega) fun b1 o1 u hi hu hc=>⟨u.gen,aj.cell (hc 0 _ rfl),If.beq (fun h=>no xdd fun m=>?_) fun du=>⟨v.held,lV gd rfl,UD hr (by decide) (by omega) fun b2 o2 u2 Tu hu2 VK=>⟨u2.gen,aj.cell (VK 0 _ rfl),v.held,lV gd rfl,UD hr (Int.le_refl _) (by omega) fun b3 o3 u3 hi3 hu3 hc3=>⟨u3.gen,aj.cell (hc3 0 _ rfl),?_⟩⟩⟩⟩⟩
  .have:=aa6 m;have e:=hu.gen;have e':([a,c][(0:Int).toNat]'hi)=a:=rfl;rw[e']at e;have:=gc.gen;omega
  .have e1:u.gen=a.gen:=hu.gen;have e2:u2.gen=c.gen:=hu2.gen;have e3:u3.gen=a.gen:=hu3.gen;have:=ga.gen;refine Ar.u16 (by omega) (If.bne (fun h=>no xdd fun m=>?_) fun he=>⟨v.held,Cell.af gd rfl,CQ hr (by simp) fun t w4 ht x4=>k _ w4 ?_ (xdd.no x4)⟩)
   .have:=aa6 m;omega
   .have M_:t=true ↔ ¬ (a.wr.length=32/\c.wr.length=32):=ht.trans ⟨fun⟨h,hh,hn⟩ hb=>by simp at hh;rcases hh with rfl | rfl;exact hn hb.1;exact hn hb.2,fun hb=>Classical.byContradiction fun hc=>hb ⟨Classical.byContradiction fun h1=>hc ⟨a,by simp,h1⟩,Classical.byContradiction fun h1=>hc ⟨c,by simp,h1⟩⟩⟩;constructor
    .intro h;have h0:a.wr.length=32/\c.wr.length=32:=Classical.byContradiction fun hb=>by rw[M_.2 hb]at h;cases h
     exact⟨hA.1,hA.2.1,hA.2.2.1,hA.2.2.2,hB.1,hB.2.1,hB.2.2,.inr ⟨a,c,PG,h0.1,h0.2,by omega⟩⟩
    .intro m;have:=aa6 m
     cases t with
     | false=>rfl
     | true=>exact(M_.1 rfl ⟨this.2.1,this.2.2⟩).elim
 .obtain⟨a,PG⟩:=UF (l:=x.held) (by omega);have hr:hH Q (ae (ae w2)).heap v.held [a]:=by rw[<- PG];exact r.held.no xdd
  refine⟨v.held,Cell.af gd rfl,CQ hr (by simp) fun t w4 ht x4=>k _ w4 ?_ (xdd.no x4)⟩;have M_:t=true ↔ a.wr.length≠32:=ht.trans ⟨fun⟨h,hh,hn⟩=>by simp at hh;rw[<- hh];exact hn,fun h=>⟨a,by simp,h⟩⟩;constructor
  .intro h;have h0:a.wr.length=32:=Classical.byContradiction fun hb=>by rw[M_.2 hb]at h;cases h
   exact⟨hA.1,hA.2.1,hA.2.2.1,hA.2.2.2,hB.1,hB.2.1,hB.2.2,.inl ⟨a,PG,h0⟩⟩
  .intro m
   have h0:a.wr.length=32:=by
    rcases m.2.2.2.2.2.2.2 with⟨a',h,h1⟩ | ⟨a',c',h,_⟩
    .rw[PG]at h;cases h;exact h1
    .rw[PG]at h;cases h
   cases t with
   | false=>rfl
   | true=>exact(M_.1 rfl h0).elim
end
end Go.Proofs.YtiigcapldngijaaGreat
namespace Go.Proofs.YtiigcapldngijaaGreat
open Go.V Go.V.Pk
section
variable {w:Wd} {rb:Nat} {s:Sl} {l rest:List Int} {a:Nat} {z:Int}
theorem AS{p:List Int}(ha:a<=l.length)(h:l.drop a=p++rest):a+p.length<=l.length/\l.drop (a+p.length)=rest:=by
 refine⟨?_,by rw[<- List.drop_drop,h,List.drop_left]⟩;have:=congrArg List.length h;rw[List.length_drop,List.length_append]at this;omega
theorem P5{K:Int->Int->Int->Pw}(r:zH w.heap rb s l a 0)(hn:0<=z/\z<=127)(h:l.drop a=z::rest)(k:K z (a+1:Nat) 0 w):fe (some ⟨rb,0,none⟩) a w K:=by
 apply vq;obtain⟨T,hT⟩:=r.aw;have hs:=r.rd.len;have hlen:=r.len;obtain⟨hl,_⟩:=AS (p:=[z]) r.le h;simp only[List.length_singleton]at hl
 have hx:l.getD ((a:Int)+0).toNat 0=z:=by
  have e:((a:Int)+0).toNat=a:=by omega
  rw[e,List.getD_eq_getElem?_getD];have:=congrArg (fun x=>x[0]?) h;simp only[List.getElem?_drop,Nat.add_zero,List.getElem?_cons_zero]at this;rw[this];rfl
 refine⟨fun m n i u=>(m=0/\n=0)/\i=0/\w=u,⟨0,⟨rfl,rfl⟩,rfl,rfl⟩,?_⟩;rintro _ _ _ _ _ ⟨⟨rfl,rfl⟩,rfl,rfl⟩;refine Ar.i64 (by omega) (Nn.mk ⟨s,Cell.af hT rfl,If.dec (fun h=>absurd h (by omega)) fun _=>Nn.mk ⟨s,Cell.af hT rfl,Ar.i64 (by omega) (Ix.int r.rd (by omega) (by omega) fun _ _ _ hc=>?_)⟩⟩);rw[hx]at hc;refine⟨_,hc,fun u=>w=u,If.beq (fun h=>absurd h (by decide)) fun _=>rfl,?_⟩;rintro _ _ rfl;refine Nm.as (K1 (by omega)) (Ar.u64 (by omega) (Ar.i64 (by decide) ⟨by decide,?_⟩));have e1:min (Int.toNat (7 * 0)) (IntKind.bits .u64)=0:=by decide
 rw[e1];refine Ar.u64 (by omega) (Nm.as (Cq (by decide) (by omega) (by omega)) (If.dec (fun h=>absurd h (by omega)) fun _=>⟨fun u=>w=u,If.beq (fun _=>If.dec (fun h=>absurd h (by decide)) fun _=>rfl) fun _=>rfl,?_⟩));rintro _ _ rfl;refine Ar.i64 (by omega) (Ar.i64 (by omega) ?_);have e2:(0:Int)+z % 128 * 2 ^ 0=z:=by omega
 have e3:((a:Int)+0)+1=(a+1:Nat):=by omega
 rw[e2,e3];exact k
theorem UG{K:Int->Pw}(r:zH w.heap rb s l a 0)(hn:0<=z/\z<=127)(h:l.drop a=z::rest)(k:∀w',zH w'.heap rb s l (a+1) 0->l.drop (a+1)=rest->Ext (·=rb) w w'->w'.heap.size=w.heap.size->K z w'):aW (some ⟨rb,0,none⟩) w K:=by
 apply Ah;obtain⟨T,hT⟩:=r.aw;obtain⟨hl,hd⟩:=AS (p:=[z]) r.le h;exact P4 r (If.no (Nn.mk ⟨_,Cell.af hT rfl,P5 r hn h (If.bne (fun h=>absurd rfl h) fun _=>Nn.mk (aH.mk hT (Nat.le_of_ble_eq_true rfl) rfl fun w' hw=>k w' (r.set hw hl) hd hw.ext hw.size))⟩))
theorem aa7{K:Int->Int->Pw}(r:zH w.heap rb s l l.length 0)(k:∀w',Ext No w w'->K 0 l.length w'):cA (some ⟨rb,0,none⟩) w K:=by
 apply yo;obtain⟨T,hT⟩:=r.aw;have hs:=r.rd.len;have xd:Ext No w (ae w):=(Ext.refl _ _).drew;have hd:=ah hT xd;refine If.no ⟨fun u=>ae w=u,⟨fun t u=>false=t/\ae w=u,⟨Ext No w,xd,Nn.mk ⟨_,aj.cell (Cell.af hT rfl),If.beq (fun _=>Nn.mk ⟨_,aj.cell (Cell.af hT rfl),Nn.mk ⟨_,aj.cell (Cell.af hT rfl),(decide_eq_false (by omega)).symm,rfl⟩⟩) fun h=>absurd rfl h⟩⟩,?_⟩,?_⟩
 .rintro _ _ _ ⟨rfl,rfl⟩;exact If.no rfl
 rintro _ _ rfl;exact⟨Ext No (ae w),(Ext.refl _ _).drew,Nn.mk ⟨_,aj.cell (Cell.af hd rfl),Nn.mk ⟨_,aj.cell (Cell.af hd rfl),k _ xd.drew⟩⟩⟩
theorem Xt(x y:Int):CX x y=max x y:=by unfold CX;omega
theorem UH{lK:Int}{t:List Int}{K:Sl->Pw}(r:zH w.heap rb s l a 0)(hl:l.length<=1000)(ht:t.length < 128)(hm:(t.length:Int)<=lK/\lK<=1000)(h:l.drop a=(t.length:Int)::(t++rest))
  (k:∀sl w',zH w'.heap rb s l (a+1+t.length) 0->l.drop (a+1+t.length)=rest->Ext (·=rb) w w'->aL w'.heap w.heap.size sl t->K sl w'):aX (some ⟨rb,0,none⟩) lK w K:=by
 apply yn;obtain⟨T,hT⟩:=r.aw;have hs:=r.rd.len;obtain⟨h1,h2⟩:=AS (p:=[(t.length:Int)]) r.le h;simp only[List.length_singleton]at h1 h2;obtain⟨h3,h4⟩:=AS h1 h2;refine P4 r (If.no (Nn.mk ⟨_,Cell.af hT rfl,P5 r (by omega) h ⟨fun e u=>0=e/\w=u,If.bne (fun h=>absurd rfl h) fun _=>?_,?_⟩⟩))
 .exact Nm.as (Xt _ _) (Ar.u64 (by omega) (If.dec (fun h=>absurd h (by omega)) fun _=>Nn.mk ⟨_,Cell.af hT rfl,Ar.i64 (by omega) (Ar.u64 (by omega) (If.dec (fun h=>absurd h (by omega)) fun _=>⟨rfl,rfl⟩))⟩))
 rintro _ _ _ ⟨rfl,rfl⟩;refine If.bne (fun h=>absurd rfl h) fun _=>Ar.i64 (by omega) (Ar.i64 (by omega) (Nn.mk (aH.mk hT (Nat.le_of_ble_eq_true rfl) rfl fun w1 hw=>?_)))
 have e1:((a+1:Nat):Int)+(t.length:Int)=((a+1+t.length:Nat):Int):=by omega
 rw[e1]at hw;have r':zH w1.heap rb s l (a+1+t.length) 0:=r.set (T:=T) hw h3;obtain⟨T',hT'⟩:=r'.aw;have iv:=r'.rd.cap;refine⟨Ext No w1,(Ext.refl _ _).drew,Nn.mk ⟨_,aj.cell (Cell.af hT' rfl),Nn.mk ⟨_,aj.cell (Cell.af hT' rfl),Cut.mk (by omega) (by omega) (by omega) (by omega) fun b w2 n2=>⟨(Ext.refl _ _).drew.no n2.ext,?_⟩⟩⟩⟩;have Ma:=aP.new (sz:=1) (n:=0) n2 rfl (by simp);have adC:=Rd.no (w:=ae w1) (r'.rd.cut (lo:=a+1) (hi:=a+1+t.length) (mx:=s.cap) (by omega) (by omega) (by omega)) n2.ext;have e3:(((a+1+t.length:Nat):Int) - ((a+1:Nat):Int)).toNat=a+1+t.length - (a+1):=by omega
 have e4:(((s.cap:Nat):Int) - ((a+1:Nat):Int)).toNat=s.cap - (a+1):=by omega
 simp only[Int.toNat_natCast] at *;rw[e3,e4];refine dj Ma (by have:=n2.ext.size;exact this) adC.src (by simp;omega) fun s' w3 BS _ ext' _=>?_
 have VE:Ext No (ae w1) w3:=n2.ext.trans ext' fun i hi hb=>by have:=(Ma.lt hb).1;omega
 refine⟨(Ext.refl No w1).drew.no VE,k s' w3 (zH.no (w:=ae w1) (r'.no (Ext.refl _ _).drew) VE) h4 ((hw.ext.drew).no VE) ?_⟩;have z1:(ae w1).heap.size=w.heap.size:=hw.size;rw[z1]at BS;have e6:List.take t.length (List.drop (a+1) l)=t:=by rw[h2];exact List.take_left
 simpa[aL,<- List.map_drop,<- List.map_take,e6] using BS
end
theorem FY{b:Sl}{w:Wd}{K:Option Addr->Pw}{l:List Int}(hb:aQ w.heap b l)(h8:B8 l)(hl:l.length<=1000)
  (k:∀rb s w',zH w'.heap rb s l 0 0->w.heap.size<=rb->(∀i,s.aw=some i->w.heap.size<=i/\i < rb)->Ext No w w'->K (some ⟨rb,0,none⟩) w'):mg b w K:=by
 apply BF;refine fun b1 w1 new=>?_
 have Ma:=aP.new (sz:=1) (n:=0) new rfl (by simp);have hlb:=hb.len;refine dj Ma (by have:=new.ext.size;exact this) (hb.no new.ext).src (by simp;omega) fun s w2 own _ ext _ rb w3 Jr=>?_
 have VE:Ext No w w2:=new.ext.trans ext fun i hi hbi=>by have:=(Ma.lt hbi).1;omega
 have BS:=own.no Jr.ext;have a2:=Jr.at_;refine k rb s w3 ⟨⟨_,Jr.get⟩,by simpa[aQ] using BS.rd,fun _ h=>?_,h8,by omega,by omega⟩ (by rw[a2];exact VE.size) (fun i hi=>⟨(own.lt hi).1,by have:=(own.lt hi).2;omega⟩) (VE.no Jr.ext);have:=(own.lt h).2;omega
end Go.Proofs.YtiigcapldngijaaGreat
