/- Texts for LRollPlays, part 12. -/
import Derived.Laws.Externs
import Derived.Test.YtpjbalhhlaofmaaGreatQy11
namespace Go.V
def iM:List Int->List Int->Int
 | [],[]=>0
 | [],_::_=> -1
 | _::_,[]=>1
 | x::a,y::b=>if x < y then -1 else if y < x then 1 else iM a b
theorem yS:∀a:List Int,iM a a=0
 | []=>rfl
 | x::a=>by simp[iM,yS a]
theorem Ht:∀{a b:List Int},iM a b=0->a=b
 | [],[],_=>rfl
 | [],_::_,h=>by simp[iM]at h
 | _::_,[],h=>by simp[iM]at h
 | x::a,y::b,h=>by
  simp only[iM]at h;split at h
  .omega
  .split at h
   .omega
   .rw[Ht h,show x=y by omega]
theorem Ox{a b:List Int}:iM a b=0 ↔ a=b:=⟨Ht,fun h=>h ▸ yS a⟩
theorem Ct:∀(a b:List Int),iM b a = - iM a b
 | [],[]=>rfl
 | [],_::_=>rfl
 | _::_,[]=>rfl
 | x::a,y::b=>by
  simp only[iM];rcases Int.lt_trichotomy x y with h | h | h
  .rw[if_neg (by omega),if_pos h,if_pos h];rfl
  .rw[if_neg (by omega),if_neg (by omega),if_neg (by omega),if_neg (by omega)];exact Ct a b
  .rw[if_pos h,if_neg (by omega),if_pos h]
theorem ue:∀(a b:List Int),iM a b = -1∨iM a b=0∨iM a b=1
 | [],[]=> .inr (.inl rfl)
 | [],_::_=> .inl rfl
 | _::_,[]=> .inr (.inr rfl)
 | x::a,y::b=>by
  simp only[iM];split
  .simp
  .split
   .simp
   .exact ue a b
def bW(a b:List Int):Prop:=iM a b = -1
instance (a b:List Int):Decidable (bW a b):=inferInstanceAs (Decidable (_=_))
theorem bW.irrefl{a:List Int}(h:bW a a):False:=by unfold bW at h;rw[yS]at h;omega
theorem bW.trans:∀{a b c:List Int},bW a b->bW b c->bW a c
 | [],[],_,h,_=>by simp[bW,iM]at h
 | [],_::_,[],_,h=>by simp[bW,iM]at h
 | [],_::_,_::_,_,_=>rfl
 | _::_,[],_,h,_=>by simp[bW,iM]at h
 | _::_,_::_,[],_,h=>by simp[bW,iM]at h
 | x::a,y::b,z::c,h,k=>by
  simp only[bW,iM] at *;split at h
  .split at k
   .rw[if_pos (by omega)]
   .split at k
    .omega
    .rw[if_pos (by omega)]
  .split at h
   .omega
   .split at k
    .rw[if_pos (by omega)]
    .split at k
     .omega
     .rw[if_neg (by omega),if_neg (by omega)];exact bW.trans h k
theorem bW.total(a b:List Int):bW a b∨a=b∨bW b a:=by
 rcases ue a b with h | h | h
 .exact .inl h
 .exact .inr (.inl (Ht h))
 .exact .inr (.inr (by unfold bW;rw[Ct];omega))
theorem bW.nil{a:List Int}(h:a≠[]):bW [] a:=by cases a with | nil=>exact(h rfl).elim | cons=>rfl
theorem Ng{a b:List Int}:¬ bW a b ↔ a=b∨bW b a:=by
 constructor
 .intro h;rcases bW.total a b with h' | h' | h'
  .exact(h h').elim
  .exact .inl h'
  .exact .inr h'
 .rintro(h | h) k
  .subst h;exact k.irrefl
  .exact(k.trans h).irrefl
theorem nc{a b:List Int}:iM a b≥0 ↔ ¬ bW a b:=by
 unfold bW;rcases ue a b with h | h | h <;> rw[h] <;> decide
theorem Nh{a b:List Int}:iM a b > 0 ↔ bW b a:=by
 unfold bW;rw[Ct a b];rcases ue a b with h | h | h <;> rw[h] <;> decide
theorem rY:∀{a b:List Int},B8 a->B8 b->Lib.compareBytes (Lib.bytesOf a) (Lib.bytesOf b)=iM a b
 | [],[],_,_=>rfl
 | [],_::_,_,_=>rfl
 | _::_,[],_,_=>rfl
 | x::a,y::b,h,k=>by
  have hx:=h x List.mem_cons_self;have hy:=k y List.mem_cons_self;have ih:=rY (h.sub fun _ h=>List.mem_cons_of_mem _ h) (k.sub fun _ h=>List.mem_cons_of_mem _ h)
  have hl:∀{x y:Int},(0<=x/\x<=255)->(0<=y/\y<=255)->(UInt8.ofNat x.toNat < UInt8.ofNat y.toNat ↔ x < y):=fun {x y} hx hy=>by
   rw[UInt8.lt_iff_toNat_lt,UInt8.toNat_ofNat',UInt8.toNat_ofNat',Nat.mod_eq_of_lt (by omega),Nat.mod_eq_of_lt (by omega)];omega
  simp only[Lib.bytesOf,List.map_cons,Lib.compareBytes,iM,hl hx hy,hl hy hx];rw[show Lib.compareBytes (a.map fun n=>UInt8.ofNat n.toNat) (b.map fun n=>UInt8.ofNat n.toNat)=iM a b from ih]
theorem zS{P:Program}{w:Wd}{s:Sl}{l:List Int}(h:Rd w.heap s 1 (l.map (Value.int .u8))):(Extern.Bytes.bytesOf s.v).run P w = .ok ⟨(Lib.bytesOf l).toArray⟩ w:=by
 have hl:s.len=l.length:=by have:=h.len;simp at this;exact this.symm
 obtain⟨sa,sl,sc⟩:=s;simp only at hl;subst hl
 cases sa with
 | none=>
  have:l=[]:=by
   rcases Classical.em (l=[]) with h' | h'
   .exact h'
   .obtain⟨_,_,ha,_⟩:=Rd.at_ h (by simpa using h')
    cases ha
  subst this;rfl
 | some a=>
  show Sem.run P (Extern.Bytes.loadBytes a l.length .empty) w=_;rw[Lib.run_loadBytesX w l a .empty fun j x hj=>?_]
  .congr 1;apply ByteArray.ext;show(#[]:Array UInt8)++(Lib.bytesOf l).toArray=(Lib.bytesOf l).toArray;simp
  .have fh:j < l.length:=(List.getElem?_eq_some_iff.1 hj).1;obtain⟨b,o,ha,hc⟩:=Rd.at_ h (by intro e;rw[List.map_eq_nil_iff]at e;subst e;simp at fh);simp only[Option.some.injEq]at ha;subst ha;rw[ay rfl,m_,hc j (by simpa using fh),List.getElem_map];rw[List.getElem?_eq_getElem fh]at hj;rw[Option.some.inj hj]
theorem aT.pre{h:Array Obj}{base:Nat}{e:TypeId}{sz:Nat}{s:Sl}{cs:List Value}{hi:Int}{K:Sl->Prop}(o:aT h base e sz s cs)(h0:0<=hi)(h1:hi<=(s.len:Int))
  (k:∀s',aT h base e sz s' (cs.take (hi.toNat * sz))->s'.aq=s.aq->s'.len=hi.toNat->s'.cap=s.cap->K s'):Cut s 0 hi (((s.cap:Nat):Int)) sz K:=by
 have jT:=o.rd.cap;have hlen:=o.len;refine Cut.mk (Int.le_refl _) h0 (by omega) (Int.le_refl _) ?_;rcases o.is with⟨rfl,rfl⟩ | ⟨b,rest,ha,hle,vH,hl,hc⟩
 .have:hi=0:=by simp at h1;omega
  subst this;exact k _ (by simpa[mP] using aT.nil h base e sz) (by simp[mP]) rfl rfl
 .have e1:mP s.a s.cap 0 sz=s.a:=by
   unfold mP;split
   .rfl
   .rw[ha];simp[ay]
  have aaD:hi.toNat * sz<=s.len * sz:=Nat.mul_le_mul_right _ (by omega);rw[show((s.cap:Nat):Int).toNat=s.cap from rfl,show Int.toNat 0=0 from rfl,e1,show(hi - 0).toNat=hi.toNat by omega,show(((s.cap:Nat):Int) - 0).toNat=s.cap by omega];refine k _ ⟨by rw[List.length_take];simp only;omega,.inr ⟨b,cs.drop (hi.toNat * sz)++rest,ha,hle,?_,?_,by simp only;omega⟩,fun v hv=>o.cells v (List.mem_of_mem_take hv)⟩ rfl rfl rfl
  .rw[<- List.append_assoc,List.take_append_drop];exact vH
  .rw[<- List.append_assoc,List.take_append_drop];exact hl
end Go.V
namespace Go.Proofs.YtpjbalhhlaofmaaGreat
open Go.V
section
variable {w:Wd}
theorem hO{a b:Sl}{x y:List Int}{K:Int->Pw}(ha:cZ w.heap a x)(hb:cZ w.heap b y)(hx:B8 x)(hy:B8 y)(k:K (iM x y) w):cz a b w K:=by
 apply AM;refine⟨iM x y,w,?_,k⟩;rw[run_callFunc_extern (e:=Extern.BytealgCompare.compare) Tryz.func142 (by kernel_rfl) (by kernel_rfl) (by kernel_rfl) (by kernel_rfl)];change(Sem.run pz (do pure (goInt (Extern.BytealgCompare.cmp (<- Extern.Bytes.bytesOf a.v) (<- Extern.Bytes.bytesOf b.v)))) w).andThen _=_;simp only[Sem.run_bind,zS ha,zS hb,Sem.run_pure,Result.andThen];rw[Lib.cmp_eq,<- rY hx hy];rfl
theorem Oy{n:Int}{K:Sl->Pw}(h0:0<=n)(h1:n<=1099511627776)(k:∀s w',aU w'.heap w.heap.size s []->Ext No w w'->K s w'):fq ⟨none,0,0⟩ n w K:=by
 apply p_;refine⟨fun w'=>w'=w,If.dec (fun h=>by omega) fun _=>rfl,?_⟩;rintro _ w1 rfl;refine Ar.i64 (by simp) (Ar.i64 (by simp;omega) (If.dec (fun h=>?_) (fun h=>k _ _ (aT.nil _ _ _ _) (Ext.refl _ _))));refine Cut.mk (Int.le_refl _) (by simp) (by simp) (by simp) ?_;have e:(n - ((0:Nat) - (0:Nat):Int))=(n.toNat:Int):=by simp;omega
 simp only[mP];show bz pz 23 3 ⟨none,0,0⟩ (.int .i64 (n - ((0:Nat) - (0:Nat):Int))) _ w1;rw[e];refine Jv (k:= .i64) (ie:=Tryz.t5) (z:= .int .u8 0) (by kernel_rfl) (by kernel_rfl) (by kernel_rfl) (by kernel_rfl) (by kernel_rfl) (by kernel_rfl) rfl (by kernel_rfl) (aT.nil _ w1.heap.size 5 1) (Nat.le_refl _) (by simp;omega) fun s' w' o hl x _=>?_
 refine aT.pre o (by simp) (by simp) fun s3 o3 _ _ _=>k _ _ (by show aT _ _ 5 1 s3 [];simpa using o3) (x.mono fun _ _ h=>by cases h)
theorem tC{sl:Sl}{ps:List (Sl×List Int)}{K:Sl->Pw}(hs:Rd w.heap sl 1 (ps.map fun p=>p.1.v))(hp:∀p∈ps,cZ w.heap p.1 p.2)(hb:((ps.map Prod.snd).flatten).length<=1099511627776)
  (hn:ps.length<=4294967296) (k:∀s w',aU w'.heap w.heap.size s (ps.map Prod.snd).flatten->Ext No w w'->K s w'):aR sl w K:=by
 apply ot;have hl:sl.len=ps.length:=by have:=hs.len;simp at this;exact this.symm
 have hle:∀j,((ps.take j).map Prod.snd).flatten.length<=1099511627776:=fun j=>by
  refine Nat.le_trans ?_ hb
  have e:(ps.map Prod.snd).flatten=((ps.take j).map Prod.snd).flatten++((ps.drop j).map Prod.snd).flatten:=by
   rw[<- List.flatten_append,<- List.map_append,List.take_append_drop]
  rw[e,List.length_append];omega
 have uR:∀j (h:j < ps.length),((ps.take (j+1)).map Prod.snd).flatten=((ps.take j).map Prod.snd).flatten++ps[j].2:=fun j h=>by
  rw[List.take_add_one,List.getElem?_eq_getElem h];simp only[Option.toList_some,List.map_append,List.map_cons,List.map_nil,List.flatten_append,List.flatten_cons,List.flatten_nil,List.append_nil]
 refine⟨fun m n t w'=>w'=w/\∃j:Nat,t=j/\j<=ps.length/\m=ps.length - j/\n=(((ps.take j).map Prod.snd).flatten.length:Int),⟨ps.length,rfl,0,rfl,by omega,by omega,by simp⟩,?_⟩;rintro _ m0 n t w1 ⟨rfl,j,rfl,hj,hm,rfl⟩;refine If.dec (fun h=>Ix.cell hs (by omega) (by omega) fun bb o v _ hv hc=>?_) (fun h=>?_)
 .have oP:j < ps.length:=by omega
  rw[Int.toNat_natCast,List.getElem?_map,List.getElem?_eq_getElem oP]at hv;simp only[Option.map_some,Option.some.injEq]at hv;subst hv;have hlen:=cZ.len (hp _ (List.getElem_mem oP));have h1:=hle (j+1);rw[uR j oP,List.length_append]at h1;refine⟨_,hc,Ar.i64 (by omega) (If.dec (fun h=>by omega) (fun _=>Ar.i64 (by omega) ⟨ps.length - (j+1),by omega,rfl,j+1,by omega,by omega,rfl,?_⟩))⟩;rw[uR j oP,List.length_append,hlen];omega
 .refine Oy (by omega) (by have:=hle j;omega) fun s0 w2 o2 x2=>?_
  refine⟨fun m s t w'=>∃j:Nat,t=j/\j<=ps.length/\m=ps.length - j/\aU w'.heap w1.heap.size s ((ps.take j).map Prod.snd).flatten/\Ext No w1 w',⟨ps.length,0,rfl,by omega,by omega,by simpa using o2,x2⟩,?_⟩;rintro _ m1 s1 t1 w3 ⟨i,rfl,hi,BQ,o3,x3⟩;refine If.dec (fun h=>Ix.cell (hs.no x3) (by omega) (by omega) fun bb o v _ hv hc=>?_) (fun h=>?_)
  .have iv:i < ps.length:=by omega
   rw[Int.toNat_natCast,List.getElem?_map,List.getElem?_eq_getElem iv]at hv;simp only[Option.map_some,Option.some.injEq]at hv;subst hv;have hr:=hp _ (List.getElem_mem iv);have hlen:=cZ.len hr;have h1:=hle (i+1);rw[uR i iv,List.length_append]at h1;have h2:=aU.len o3;refine⟨_,hc,fu o3 (x3.size) (Rd.no hr x3).src (by omega) fun s' w' o' _ x' _=>Ar.i64 (by omega) ⟨ps.length - (i+1),by omega,i+1,by omega,by omega,rfl,?_,x3.trans x' fun q hq hh=>?_⟩⟩
   .rw[<- List.map_append,<- uR i iv]at o';exact o'
   .have:=(o3.lt hh).1;omega
  .have e:i=ps.length:=by omega
   rw[e,List.take_length]at o3;exact k _ _ o3 x3
end
end Go.Proofs.YtpjbalhhlaofmaaGreat
namespace Go.Proofs.YtpjbalhhlaofmaaGreat
open Go.V Go.V.Pk
theorem adr:(2:Int) ^ min (Int.toNat 7) (IntKind.bits .u64)=128:=by decide
theorem Jy{n:Int}{w:Wd}{K:Sl->Pw}(h0:0<=n)(h1:n<=18446744073709551615)
  (hk:∀s w',aU w'.heap w.heap.size s (numB n.toNat)->Ext No w w'->K s w'):qC n w K:=by
 apply LC;have AV:=bO (n:=n.toNat) (by omega)
 refine⟨fun m x s w'=>m=x.toNat/\0<=x/\x<=18446744073709551615/\∃pre,aU w'.heap w.heap.size s pre/\pre++numB x.toNat=numB n.toNat/\Ext No w w',
  ⟨_,rfl,h0,h1,[],aT.nil _ _ _ _,rfl,Ext.refl _ _⟩,?_⟩
 rintro _ m x s w1 ⟨rfl,hx0,Zs,pre,own,Oz,ext⟩;have hs:=own.len;have hl:pre.length<=10:=by rw[<- Oz,List.length_append]at AV;omega
 have fin:∀b w2 w3 (y:Int),D_ w1 (.cells [.int .u8 y].toArray 5) b w2->Ext (fun i=>s.aq=some i) w2 w3->Ext No w w3:=fun b w2 w3 y new e=>
  (ext.no new.ext).trans e fun i hi hb=>by have:=(own.lt hb).1;omega
 refine If.dec (fun hgt=>?_) (fun hle=>?_)
 .refine Ar.T3 (Nm.as (LK (by omega)) fun b w2 new=>?_);refine fu (own.no new.ext) (by have:=new.ext.size;have:=ext.size;omega) ((aT.new (sz:=1) (n:=1) new rfl (by simp[aN])).rd.src) (by simp at hs ⊢;omega) fun s' w3 yT _ ext' _=>?_
  refine⟨by decide,Nm.as (e':=x / 128) (by rw[fdiv_pow,adr]) ⟨_,?_,rfl,by omega,by omega,pre++[x % 256 % 128+128],by simpa[aU] using yT,?_,fin _ _ _ _ new ext'⟩⟩
  .omega
  .rw[<- Oz,ud (n:=x.toNat) (by omega)];simp only[List.append_assoc,List.singleton_append];congr 2
   .omega
   .congr 1;omega
 .refine Ar.u8 (by omega) fun b w2 new=>?_
  refine fu (own.no new.ext) (by have:=new.ext.size;have:=ext.size;omega) ((aT.new (sz:=1) (n:=1) new rfl (by simp[aN])).rd.src) (by simp at hs ⊢;omega) fun s' w3 yT _ ext' _=>?_
  refine hk s' w3 ?_ (fin _ _ _ _ new ext');rw[<- Oz,qP (by omega)];simpa[aU,Int.toNat_of_nonneg hx0] using yT
theorem _root_.Go.V.Rd.Xi{S:Nat->Prop}{w w':Wd}{s:Sl}{sz:Nat}{cs:List Value}(r:Rd w.heap s sz cs)(x:Ext S w w')(h:cs≠[]->∀b,s.aq=some b->¬ S b):Rd w'.heap s sz cs:=by
 by_cases hl:cs=[]
 .subst hl;exact⟨r.len,r.cap,fun h=>(h rfl).elim,by simp⟩
 .exact r.ext x fun a b ha hb=>h hl b (by simp[Sl.aq,ha,hb])
structure sR(h:Array Obj)(rb:Nat)(s:Sl)(l:List Int)(at_:Nat)(f:Int):Prop where
 aq:∃T,h[rb]? = some (.cells [s.v,.int .i64 at_,.int .i64 f].toArray T (0,0))
 rd:cZ h s l
 ne:l≠[]->s.aq≠some rb
 sI:B8 l
 le:at_<=l.length
 len:l.length<=4611686018427387904
theorem sR.ext{S:Nat->Prop}{w w':Wd}{rb:Nat}{s:Sl}{l:List Int}{at_:Nat}{f:Int}(r:sR w.heap rb s l at_ f)(e:Ext S w w')(h1:¬ S rb)(h2:∀b,s.aq=some b->¬ S b):sR w'.heap rb s l at_ f:=by
 obtain⟨T,hT⟩:=r.aq;obtain⟨cL,_⟩:=Array.getElem?_eq_some_iff.1 hT;exact⟨⟨T,by rw[e.aq rb cL h1];exact hT⟩,r.rd.ext e (fun a b ha hb=>h2 b (by simp[Sl.aq,ha,hb])),r.ne,r.sI,r.le,r.len⟩
theorem sR.no{w w':Wd}{rb:Nat}{s:Sl}{l:List Int}{at_:Nat}{f:Int}(r:sR w.heap rb s l at_ f)(e:Ext No w w'):sR w'.heap rb s l at_ f:=r.ext e id fun _ _=>id
theorem sR.set{w w':Wd}{rb:Nat}{s:Sl}{l:List Int}{at_ at':Nat}{f f':Int}{T:TypeId}(r:sR w.heap rb s l at_ f)(hw:gI w rb (.cells [s.v,.int .i64 at',.int .i64 f'].toArray T (0,0)) w')(hle:at'<=l.length) :
  sR w'.heap rb s l at' f':=by
 obtain⟨T',hT⟩:=r.aq;refine⟨⟨T,hw.get hT⟩,r.rd.Xi hw.ext (fun bC b hb e=>r.ne (fun h=>bC (by rw[h];rfl)) (by rw[hb,e])),r.ne,r.sI,hle,r.len⟩
theorem Ni{w:Wd}{rb:Nat}{s:Sl}{l:List Int}{at_:Nat}{f:Int}{K:Bool->Pw}(r:sR w.heap rb s l at_ f)(k:K (f == 0) w):gV (some ⟨rb,0,none⟩) w K:=by
 apply yw;obtain⟨T,hT⟩:=r.aq;exact If.yes (Nn.mk ⟨_,Cell.ai hT rfl,k⟩)
theorem Ua(i:Nat)(n x:Int)(l:List Int):tk i n (x::l) =
  if i=9/\x > 1 then(0,0,6) else if x≥128 then tk (i+1) (n+(x % 128) * 128 ^ i) l else if x=0/\0 < i then(0,0,5) else(n+(x % 128) * 128 ^ i,i+1,0):=rfl
theorem QX(i:Nat):(128:Int) ^ i=2 ^ (7 * i):=by
 rw[Int.pow_mul];rfl
theorem Nj{a b:Nat}(h:a<=b):(2:Int) ^ a<=2 ^ b:=by exact_mod_cast Nat.pow_le_pow_right (by decide) h
theorem zT{w:Wd}{rb:Nat}{s:Sl}{l:List Int}{at0:Nat}{f:Int}{at_:Nat}{K:Int->Int->Int->Pw}(r:sR w.heap rb s l at0 f)(Fi:at_<=l.length)
  (k:K (tk 0 0 (l.drop at_)).1 (if (tk 0 0 (l.drop at_)).2.2=0 then((at_+(tk 0 0 (l.drop at_)).2.1:Nat):Int) else 0) (tk 0 0 (l.drop at_)).2.2 w):eN (some ⟨rb,0,none⟩) at_ w K:=by
 apply tp;obtain⟨T,hT⟩:=r.aq;have hs:=r.rd.len;have hlen:=r.len
 refine⟨fun m n i w'=>w'=w/\∃j:Nat,i=j/\m=10 - j/\j<=9/\at_+j<=l.length/\0<=n/\n < 2 ^ (7 * j)/\tk 0 0 (l.drop at_)=tk j n (l.drop (at_+j)),
  ⟨_,rfl,0,rfl,rfl,by omega,by omega,by omega,by decide,rfl⟩,?_⟩
 rintro _ m n i w1 ⟨rfl,j,rfl,rfl,hj,hle,yR,T5,ht⟩;refine Ar.i64 (by omega) (Nn.mk ⟨_,Cell.ai hT rfl,If.dec (fun zI=>?_) (fun cL=>?_)⟩)
 .have:l.drop (at_+j)=[]:=List.drop_of_length_le (by omega);rw[this]at ht;simp only[ht,tk]at k;exact k
 .refine Nn.mk ⟨_,Cell.ai hT rfl,Ar.i64 (by omega) (Ix.int r.rd (by omega) (by omega) fun _ _ _ ha=>⟨_,ha,?_⟩)⟩;have hx:=r.sI.get (((at_:Int)+j).toNat)
  have aaE:l.drop (at_+j)=l.getD ((at_:Int)+j).toNat 0::l.drop (at_+(j+1)):=by
   have e:((at_:Int)+j).toNat=at_+j:=by omega
   rw[e,List.drop_eq_getElem_cons (by omega)];simp[List.getD,List.getElem?_eq_getElem (show at_+j < l.length by omega),Nat.add_assoc]
  generalize l.getD ((at_:Int)+j).toNat 0=x at *;rw[aaE,Ua]at ht;have h9:j=9->¬ x > 1->x=0∨x=1:=by omega
  refine⟨fun w2=>w2=w1/\¬ (j=9/\x > 1),?_,?_⟩
  .refine If.beq (fun h=>If.dec (fun h1=>?_) (fun h1=>⟨rfl,fun h2=>h1 h2.2⟩)) (fun h=>⟨rfl,fun h2=>h (by omega)⟩);rw[if_pos ⟨by omega,h1⟩]at ht;simp only[ht]at k;exact k
  .rintro _ w2 ⟨rfl,DX⟩;rw[if_neg DX]at ht
   have hp:(2:Int) ^ (7 * j)<=9223372036854775808:=by
    have:7 * j<=63:=by omega
    have h1:=Nj this;have e:(2:Int) ^ 63=9223372036854775808:=by decide
    omega
   have hpp:(0:Int) < 2 ^ (7 * j):=Int.pow_pos (by omega);refine Nm.as (Jr hx) (Ar.u64 (by omega) (Ar.i64 (by omega) ⟨by omega,?_⟩))
   have ads:min (Int.toNat (7 * (j:Int))) (IntKind.bits .u64)=7 * j:=by
    simp only[IntKind.bits];omega
   rw[ads]
   have Cu:x % 128 * 2 ^ (7 * j)+n<=18446744073709551615:=by
    by_cases h:j=9
    .subst h;have:x % 128<=1:=by omega
     have:x % 128 * 2 ^ (7 * 9)<=1 * 2 ^ (7 * 9):=Int.mul_le_mul_of_nonneg_right this (by decide);have e:(2:Int) ^ (7 * 9)=9223372036854775808:=by decide
     omega
    .have:7 * j<=56:=by omega
     have h1:(2:Int) ^ (7 * j)<=2 ^ 56:=Nj this;have e:(2:Int) ^ 56=72057594037927936:=by decide
     have:x % 128 * 2 ^ (7 * j)<=127 * 2 ^ (7 * j):=Int.mul_le_mul_of_nonneg_right (by omega) (by omega);omega
   have hnn:0<=x % 128 * 2 ^ (7 * j):=Int.mul_nonneg (by omega) (by omega);refine Ar.u64 (by omega) (Nm.as (zO ⟨yR,T5⟩ (by omega) (by omega)) (If.dec (fun h1=>?_) (fun h1=>?_)))
   .rw[if_pos (by omega),QX]at ht;have hj9:j≠9:=by omega
    refine Ar.i64 (by omega) ⟨_,?_,rfl,j+1,by omega,rfl,by omega,?_,by omega,?_,ht⟩
    .omega
    .have:l.length<=at_+j∨at_+j < l.length:=by omega
     omega
    .have:x % 128 * 2 ^ (7 * j)<=127 * 2 ^ (7 * j):=Int.mul_le_mul_of_nonneg_right (by omega) (by omega)
     have e:(2:Int) ^ (7 * (j+1))=128 * 2 ^ (7 * j):=by
      rw[Nat.mul_add,Int.pow_add,Int.mul_comm];rfl
     omega
   .rw[if_neg (by omega),QX]at ht;refine⟨fun w3=>w3=w2/\¬ (x=0/\0 < j),?_,?_⟩
    .refine If.beq (fun h=>If.dec (fun h2=>?_) (fun h2=>⟨rfl,fun h3=>h2 (by omega)⟩)) (fun h=>⟨rfl,fun h2=>h h2.1⟩);rw[if_pos ⟨h,by omega⟩]at ht;simp only[ht]at k;exact k
    .rintro _ w3 ⟨rfl,adt⟩;rw[if_neg adt]at ht;refine Ar.i64 (by omega) (Ar.i64 (by omega) ?_);simp only[ht,if_true]at k;have e:((at_+(j+1):Nat):Int)=(at_:Int)+j+1:=by omega
     rw[e]at k;exact k
end Go.Proofs.YtpjbalhhlaofmaaGreat
namespace Go.Proofs.YtpjbalhhlaofmaaGreat
open Go.V Go.V.Pk
section
variable {w:Wd} {rb:Nat} {s:Sl} {l:List Int} {at_:Nat} {f:Int}
theorem nV{K:Int->Pw}(r:sR w.heap rb s l at_ f)
  (k:∀w',sR w'.heap rb s l (dM l at_ f).2.1 (dM l at_ f).2.2->Ext (·=rb) w w'->w'.heap.size=w.heap.size->K (dM l at_ f).1 w'):aV (some ⟨rb,0,none⟩) w K:=by
 apply wW;obtain⟨T,hT⟩:=r.aq;refine Ni r (If.not (If.beq (fun hf=>?_) (fun hf=>?_)))
 .refine Nn.mk ⟨_,Cell.ai hT rfl,zT r r.le (If.bne (fun he=>?_) (fun he=>?_))⟩
  .have e:dM l at_ f=(0,at_,(tk 0 0 (l.drop at_)).2.2):=by simp[dM,hf,he]
   rw[e]at k;exact Nn.mk (aF.mk hT (by simp) rfl fun w' hw=>k w' (r.set hw r.le) hw.ext hw.size)
  .have e:dM l at_ f=((tk 0 0 (l.drop at_)).1,at_+(tk 0 0 (l.drop at_)).2.1,0):=by simp[dM,hf,he]
   have hle:=T8 l at_ f r.le;rw[e]at k hle;rw[if_pos he];refine Nn.mk (aF.mk hT (by simp) rfl fun w' hw=>k w' ?_ hw.ext hw.size);subst hf;exact r.set hw hle
 .have e:dM l at_ f=(0,at_,f):=by simp[dM,hf]
  rw[e]at k;exact k w r (Ext.refl _ _) rfl
theorem AW{K:Int->Int->Pw}(r:sR w.heap rb s l at_ f)(k:∀w',w'.heap=w.heap->Ext No w w'->K (Cq l at_ f).1 (Cq l at_ f).2 w'):cR (some ⟨rb,0,none⟩) w K:=by
 apply vr;obtain⟨T,hT⟩:=r.aq;have hs:=r.rd.len;refine⟨fun w2=>w2.heap=w.heap/\Ext No w w2/\¬ (f=0/\at_ < l.length),⟨fun t w1=>w1.heap=w.heap/\Ext No w w1/\t=decide (f=0/\at_ < l.length),?_,?_⟩,?_⟩
 .refine⟨Ext No w,(Ext.refl _ _).drew,Nn.mk ⟨_,ae.cell (Cell.ai hT rfl),If.beq (fun h=>Nn.mk ⟨_,ae.cell (Cell.ai hT rfl),Nn.mk ⟨_,ae.cell (Cell.ai hT rfl),rfl,(Ext.refl _ _).drew,?_⟩⟩) (fun h=>⟨rfl,(Ext.refl _ _).drew,by simp[h]⟩)⟩⟩;simp[h];omega
 .rintro _ t w1 ⟨hh,hx,rfl⟩;refine If.dec (fun h=>⟨Ext No w1,(Ext.refl _ _).drew,Nn.mk ⟨_,ae.cell (Cell.ai (by rw[hh];exact hT) rfl),?_⟩⟩) (fun h=>⟨hh,hx,h⟩);have e:Cq l at_ f=(5,(at_:Int)):=by simp only[Cq,if_pos h]
  rw[e]at k;exact k (aa w1) hh hx.drew
 .rintro _ w2 ⟨hh,hx,h⟩;have e:Cq l at_ f=(f,(at_:Int)):=by simp only[Cq,if_neg h]
  rw[e]at k;exact⟨Ext No w2,(Ext.refl _ _).drew,Nn.mk ⟨_,ae.cell (Cell.ai (by rw[hh];exact hT) rfl),Nn.mk ⟨_,ae.cell (Cell.ai (by rw[hh];exact hT) rfl),k (aa w2) hh hx.drew⟩⟩⟩
theorem Ub(x y:Int):iE x y=max x y:=by unfold iE;omega
theorem rZ{most:Int}{K:Sl->Pw}(hm:most<=9223372036854775807)(r:sR w.heap rb s l at_ f)(af9:l.length<=140737488355328)
    (k:∀t w',sR w'.heap rb s l (gg most l at_ f).2.1 (gg most l at_ f).2.2->Ext (·=rb) w w'->aU w'.heap w.heap.size t (gg most l at_ f).1->K t w'):aX (some ⟨rb,0,none⟩) most w K:=by
  apply vp;obtain⟨T,hT⟩:=r.aq;obtain⟨Nk,_⟩:=Array.getElem?_eq_some_iff.1 hT;have hs:=r.rd.len;have hlen:=r.len;have hle:=r.le;refine Ni r (If.not (If.beq (fun hf=>?_) (fun hf=>?_)))
  · subst hf;refine Nn.mk ⟨_,Cell.ai hT rfl,zT r r.le ?_⟩;have Uc:=Cp (l.drop at_) 0 0;have hnn:=Fh (l.drop at_) 0 0 (r.sI.drop _) (by omega)
    have hr:gg most l at_ 0=if (tk 0 0 (l.drop at_)).2.2≠0 then ([],at_,(tk 0 0 (l.drop at_)).2.2) else if (tk 0 0 (l.drop at_)).1 > max most 0 then ([],at_,3)
        else if (tk 0 0 (l.drop at_)).1 > (l.length:Int) - (at_+(tk 0 0 (l.drop at_)).2.1:Nat) then([],at_,4)
        else((l.drop (at_+(tk 0 0 (l.drop at_)).2.1)).take (tk 0 0 (l.drop at_)).1.toNat,at_+(tk 0 0 (l.drop at_)).2.1+(tk 0 0 (l.drop at_)).1.toNat,0):=rfl
    generalize tk 0 0 (l.drop at_)=t at *;obtain⟨n,j,e⟩:=t;simp only[List.length_drop]at Uc hr hnn ⊢;refine⟨fun e' w'=>w'=w/\((e'≠0/\gg most l at_ 0=([],at_,e'))∨(e'=0/\e=0/\n<=(l.length:Int) - (at_+j:Nat)/\gg most l at_ 0=((l.drop (at_+j)).take n.toNat,at_+j+n.toNat,0))),?_,?_⟩
    · refine If.bne (fun he=>⟨rfl,.inl ⟨he,by rw[hr,if_pos he]⟩⟩) (fun he=>?_);rw[if_neg (by simp[he])]at hr;rw[if_pos he];refine Nm.as (Ub _ _) (Ar.u64 (by omega) (If.dec (fun h=>⟨rfl,.inl ⟨by decide,by rw[hr,if_pos h]⟩⟩) (fun h=>?_)));rw[if_neg h]at hr;refine Nn.mk ⟨_,Cell.ai hT rfl,Ar.i64 (by omega) (Ar.u64 (by omega) (If.dec (fun h2=>⟨rfl,.inl ⟨by decide,by rw[hr,if_pos (by omega)]⟩⟩) (fun h2=>⟨rfl,.inr ⟨he,he,by omega,by rw[hr,if_neg (by omega)]⟩⟩)))⟩
    · rintro _ e' w' ⟨rfl,h⟩;refine If.bne (fun he=>?_) (fun he=>?_)
      · rcases h with⟨_,h⟩ | ⟨h,_⟩
        · rw[h]at k;refine Nn.mk (aF.mk hT (by simp) rfl fun w1 hw=>k _ w1 (r.set hw r.le) hw.ext (aT.nil _ _ _ _))
        · exact absurd h he
      · rcases h with⟨h,_⟩ | ⟨_,h0,h1,h⟩
        · exact absurd he h
        · subst h0;rw[h]at k;rw[if_pos rfl];have hj:j<=l.length - at_:=by rcases Uc with⟨_,_,h⟩ | ⟨h,_⟩;omega;exact absurd rfl h
          refine Ar.i64 (by omega) (Ar.i64 (by omega) (Nn.mk (aF.mk hT (by simp) rfl fun w1 hw=>?_)))
          have r':sR w1.heap rb s l (at_+j+n.toNat) 0:=by
            refine r.set (T:=T) ?_ (by omega);have e1:((at_+j:Nat):Int)+n=((at_+j+n.toNat:Nat):Int):=by omega
            rw[e1]at hw;exact hw
          obtain⟨T',Tq⟩:=r'.aq;refine⟨Ext No w1,(Ext.refl _ _).drew,Nn.mk ⟨_,ae.cell (Cell.ai Tq rfl),Nn.mk ⟨_,ae.cell (Cell.ai Tq rfl),?_⟩⟩⟩;have jT:=r'.rd.cap
          refine Cut.mk (by omega) (by omega) (by omega) (by omega) fun b w2 new=>⟨(Ext.refl _ _).drew.no new.ext,?_⟩
          have OA:=aT.new (sz:=1) (n:=0) new rfl (by simp);have Ho:=r'.rd.cut (lo:=at_+j) (hi:=at_+j+n.toNat) (mx:=s.cap) (by omega) (by omega) (by omega);have aaF:Rd w2.heap _ 1 _:=Rd.no (w:=aa w1) Ho new.ext;have e3:(((at_+j+n.toNat:Nat):Int) - ((at_+j:Nat):Int)).toNat=at_+j+n.toNat - (at_+j):=by omega
          have e4:(((s.cap:Nat):Int) - ((at_+j:Nat):Int)).toNat=s.cap - (at_+j):=by omega
          simp only[Int.toNat_natCast] at *;rw[e3,e4];refine fu OA (by have:=new.ext.size;exact this) aaF.src (by simp;omega) fun s' w3 yT _ ext' hb=>?_
          have DX:Ext No (aa w1) w3:=new.ext.trans ext' fun i hi Zt=>by have:=(OA.lt Zt).1;omega
          refine⟨(Ext.refl No w1).drew.no DX,k s' w3 (sR.no (w:=aa w1) (r'.no (Ext.refl _ _).drew) DX) ((hw.ext.drew).no DX) ?_⟩;have:w1.heap.size=w'.heap.size:=hw.size;have e5:(aa w1).heap.size=w'.heap.size:=this;rw[e5]at yT;have e6:List.take (at_+j+n.toNat - (at_+j)) (List.drop (at_+j) l)=List.take n.toNat (List.drop (at_+j) l):=by congr 1;omega
          simpa[aU,<- List.map_drop,<- List.map_take,e6] using yT
  · have e:gg most l at_ f=([],at_,f):=by simp[gg,hf]
    rw[e]at k;exact k _ w r (Ext.refl _ _) (aT.nil _ _ _ _)
end
theorem Cv{b:Sl}{w:Wd}{K:Option Addr->Pw}{l:List Int}(hb:cZ w.heap b l)(h8:B8 l)(hl:l.length<=140737488355328)
  (k:∀rb s w',sR w'.heap rb s l 0 0->w.heap.size<=rb->(∀i,s.aq=some i->w.heap.size<=i/\i < w'.heap.size)->Ext No w w'->K (some ⟨rb,0,none⟩) w'):kZ b w K:=by
 apply yx;refine fun b1 w1 new=>?_
 have OA:=aT.new (sz:=1) (n:=0) new rfl (by simp);have Ud:=hb.len;refine fu OA (by have:=new.ext.size;exact this) (hb.no new.ext).src (by simp;omega) fun s w2 own _ ext _=>?_
 refine fun rb w3 QY=>?_
 have DX:Ext No w w2:=new.ext.trans ext fun i hi Zt=>by have:=(OA.lt Zt).1;omega
 have yT:=own.no QY.ext;refine k rb s w3 ⟨⟨_,QY.get⟩,by simpa[cZ] using yT.rd,fun _ h=>?_,h8,by omega,by omega⟩ (by rw[QY.at_];exact DX.size) (fun i hi=>⟨(yT.lt hi).1,(yT.lt hi).2⟩) (DX.no QY.ext);have:=(own.lt h).2;rw[QY.at_]at this;omega
end Go.Proofs.YtpjbalhhlaofmaaGreat
namespace Go.Proofs.YtpjbalhhlaofmaaGreat
open Go.V Go.V.Pk
theorem Fj{b:Sl}{w:Wd}{K:Sl->Pw}{l:List Int}(hb:cZ w.heap b l)(hl:l.length<=70368744177664)
  (k:∀s w',aU w'.heap w.heap.size s (numB l.length++l)->Ext No w w'->K s w'):fK b w K:=by
 apply Jk;have Ud:=hb.len;refine Ar.u64 (by omega) (Jy (by omega) (by omega) fun s w1 own ext=>?_);have hs:=own.len;have AV:=bO (n:=((b.len:Int)).toNat) (by omega);refine fu own ext.size (hb.no ext).src (by omega) fun s' w2 yT _ ext' _=>?_
 refine k s' w2 ?_ (ext.trans ext' fun i hi Zt=>by have:=(own.lt Zt).1;omega);have e:((b.len:Int)).toNat=l.length:=by omega
 rw[e]at yT;simpa[aU] using yT
section
variable {w:Wd} {rb:Nat} {s:Sl} {l:List Int} {at_:Nat} {f:Int}
end
end Go.Proofs.YtpjbalhhlaofmaaGreat
namespace Go.V
structure Rf where
 p:Int
 c:Int
 g:Int
deriving DecidableEq
def Rf.z:Rf:=⟨0,0,0⟩
def Rf.ok(r:Rf):Prop:=(0<=r.p/\r.p<=4294967295)/\(0<=r.c/\r.c<=18446744073709551615)/\(0<=r.g/\r.g<=65535)
instance (r:Rf):Decidable r.ok:=inferInstanceAs (Decidable (_/\_))
def Rf.cs(r:Rf):List Value:=[.int .u32 r.p,.int .u64 r.c,.int .u16 r.g]
structure aL where
 k:Sl
 v:Sl
 n:Int
 ch:Rf
 cd:Rf
def aL.cs(x:aL):List Value:=[.slice x.k.a x.k.len x.k.cap,.slice x.v.a x.v.len x.v.cap,.int .i64 x.n,.int .u32 x.ch.p,.int .u64 x.ch.c,.int .u16 x.ch.g,.int .u32 x.cd.p,.int .u64 x.cd.c,.int .u16 x.cd.g]
structure aH where
 key:List Int
 val:List Int
 n:Int
 ch:Rf
 cd:Rf
deriving DecidableEq
structure mG(h:Array Obj)(x:aL)(e:aH):Prop where
 k:Rd h x.k 1 (e.key.map (Value.int .u8))
 v:Rd h x.v 1 (e.val.map (Value.int .u8))
 n:x.n=e.n
 ch:x.ch=e.ch
 cd:x.cd=e.cd
 k8:B8 e.key
 v8:B8 e.val
 n64:-9223372036854775808<=e.n/\e.n<=9223372036854775807
 Ue:e.ch.ok
 Ug:e.cd.ok
theorem mG.no{w w':Wd}{x:aL}{e:aH}(r:mG w.heap x e)(h:Ext No w w'):mG w'.heap x e:=⟨r.k.no h,r.v.no h,r.n,r.ch,r.cd,r.k8,r.v8,r.n64,r.Ue,r.Ug⟩
abbrev aS(p:aL×aH):List Value:=p.1.cs
theorem bX(L:List (aL×aH)):∀p∈L,(aS p).length=9:=fun _ _=>rfl
structure oQ(h:Array Obj)(s:Sl)(L:List (aL×aH)):Prop where
 rd:Rd h s 9 (L.flatMap aS)
 iw:∀p∈L,mG h p.1 p.2
theorem oQ.no{w w':Wd}{s:Sl}{L:List (aL×aH)}(r:oQ w.heap s L)(h:Ext No w w'):oQ w'.heap s L:=⟨r.rd.no h,fun p hp=>(r.iw p hp).no h⟩
theorem oQ.len{h:Array Obj}{s:Sl}{L:List (aL×aH)}(r:oQ h s L):s.len=L.length:=by
 have:=r.rd.len;rw[aK (bX L)]at this;omega
theorem blt{h:Array Obj}{b:Nat}{o:Obj}(e:h[b]? = some o):b < h.size:=by
 rcases Nat.lt_or_ge b h.size with k | k
 .exact k
 .rw[Array.getElem?_eq_none k]at e;cases e
theorem ad{w w':Wd}{b:Nat}{o:Obj}(h:w.heap[b]? = some o)(x:Ext No w w'):w'.heap[b]? = some o:=by
 rw[x.aq b (blt h) (fun h=>h)];exact h
section
variable {w:Wd}
theorem QZ{s:Sl}{L:List (aL×aH)}{t:Int}{K:Sl->Sl->Int->Int->Int->Int->Int->Int->Int->Prop}(r:Rd w.heap s 9 (L.flatMap aS))(h0:0<=t)(h1:t < (s.len:Int))
  (k:∀(hi:t.toNat < L.length),K L[t.toNat].1.k L[t.toNat].1.v L[t.toNat].1.n L[t.toNat].1.ch.p L[t.toNat].1.ch.c L[t.toNat].1.ch.g L[t.toNat].1.cd.p L[t.toNat].1.cd.c L[t.toNat].1.cd.g) :
  Ix s.a s.len t 9 fun a=>∃c:Sl,Cell w a (.slice c.a c.len c.cap)/\∃lk:Sl,Cell w (a.add 1) (.slice lk.a lk.len lk.cap)/\∃jC:Int,Cell w (a.add 2) (.int .i64 jC)/\∃r_:Int,Cell w (a.add 3) (.int .u32 r_)/\
   ∃sd:Int,Cell w (a.add 4) (.int .u64 sd)/\∃mq:Int,Cell w (a.add 5) (.int .u16 mq)/\∃uF:Int,Cell w (a.add 6) (.int .u32 uF)/\∃se:Int,Cell w (a.add 7) (.int .u64 se)/\∃ow:Int,Cell w (a.add 8) (.int .u16 ow)/\K c lk jC r_ sd mq uF se ow:=
 Ix.elem r (bX L) (by decide) h0 h1 fun b o hi _ hc=>
  ⟨_,hc 0 _ rfl,_,hc 1 _ rfl,_,hc 2 _ rfl,_,hc 3 _ rfl,_,hc 4 _ rfl,_,hc 5 _ rfl,_,hc 6 _ rfl,_,hc 7 _ rfl,_,hc 8 _ rfl,k hi⟩
theorem fx{b:Nat}{x:aL}{T:TypeId}{K:Sl->Sl->Int->Int->Int->Int->Int->Int->Int->Prop}(hb:w.heap[b]? = some (.cells x.cs.toArray T (0,0)))(k:K x.k x.v x.n x.ch.p x.ch.c x.ch.g x.cd.p x.cd.c x.cd.g) :
  ∃c:Sl,Cell w (Addr.mk b 0 none) (.slice c.a c.len c.cap)/\∃lk:Sl,Cell w ((Addr.mk b 0 none).add 1) (.slice lk.a lk.len lk.cap)/\∃jC:Int,Cell w ((Addr.mk b 0 none).add 2) (.int .i64 jC)/\∃r_:Int,Cell w ((Addr.mk b 0 none).add 3) (.int .u32 r_)/\
   ∃sd:Int,Cell w ((Addr.mk b 0 none).add 4) (.int .u64 sd)/\∃mq:Int,Cell w ((Addr.mk b 0 none).add 5) (.int .u16 mq)/\∃uF:Int,Cell w ((Addr.mk b 0 none).add 6) (.int .u32 uF)/\∃se:Int,Cell w ((Addr.mk b 0 none).add 7) (.int .u64 se)/\∃ow:Int,Cell w ((Addr.mk b 0 none).add 8) (.int .u16 ow)/\K c lk jC r_ sd mq uF se ow:=
 ⟨_,Cell.ai hb rfl,_,Cell.ai hb rfl,_,Cell.ai hb rfl,_,Cell.ai hb rfl,_,Cell.ai hb rfl,_,Cell.ai hb rfl,_,Cell.ai hb rfl,_,Cell.ai hb rfl,_,Cell.ai hb rfl,k⟩
theorem bA{zs vs:List Value}{T:TypeId}{K:Nat->Pw}{n:Nat}(hl:vs.length=n)(hz:zs.length=n)(hv:∀v∈vs,aN v=true)
  (k:∀b w',w'.heap[b]? = some (.cells vs.toArray T (0,0))->b=w.heap.size->w'.heap.size=w.heap.size+1->Ext No w w'->K b w'):ag w (.cells zs.toArray T) fun b w1=>List.length (α:=Value) vs=n/\jB w1 (Addr.mk b 0 none) vs fun w2=>K b w2:=by
 intro b w1 hn;refine⟨hl,zs.toArray,T,(0,0),hn.get,rfl,by simp[hl,hz],.inr (.inr (Nat.le_refl _)),hv,fun w2 hw=>?_⟩;have e:setL zs 0 vs=vs:=Js _ _ (by omega);have LO:gI w1 b (.cells vs.toArray T (0,0)) w2:=by rw[<- e];exact hw
 refine k b w2 (LO.get hn.get) hn.at_ (by rw[LO.size,hn.size]) (hn.ext.trans LO.ext fun q hq h=>?_);have:=hn.at_;rw[h]at hq;omega
theorem xy(a b:Rf):((a.p == b.p) && ((a.c == b.c) && ((a.g == b.g) && true)))=decide (a=b):=by
 obtain⟨a1,a2,a3⟩:=a;obtain⟨b1,b2,b3⟩:=b;rw[Bool.eq_iff_iff];simp
end
def jk(kind lev:Int):Prop:=kind=1/\lev=0∨kind=2/\1<=lev/\lev<=30
instance (a b:Int):Decidable (jk a b):=inferInstanceAs (Decidable (_∨_))
def nf(kind i len:Int):Prop:=if kind=2/\i=0 then len=0 else 1<=len/\len<=32
instance (a b c:Int):Decidable (nf a b c):=inferInstanceAs (Decidable (ite _ _ _))
def nW(kind i:Int)(e:aH):Prop:=nf kind i e.key.length/\(if kind=2 then e.cd ≠ .z/\e.ch = .z/\e.val.length=0/\e.n=0 else e.cd = .z/\(if e.n=0 then e.ch = .z/\e.val.length<=64 else e.n > 64/\e.n<=1024/\e.ch ≠ .z/\e.val.length=0))
instance (a b:Int) (e:aH):Decidable (nW a b e):=inferInstanceAs (Decidable (_/\_))
structure aJ(kind lev:Int)(l:List aH):Prop where
 shape:jk kind lev
 some:kind=2->l≠[]
 iw:∀i (h:i < l.length),nW kind i l[i]
 ord:∀i (h:i+1 < l.length),bW l[i].key l[i+1].key
def refB(r:Rf):List Int:=be 4 r.p++be 8 r.c++be 2 r.g
def wrE(kind:Int)(e:aH):List Int:=(e.key.length % 256:Int)::e.key++(if kind=2 then refB e.cd else if e.n > 0 then[1,e.n / 256 % 256,e.n % 256]++refB e.ch else[0,(e.val.length % 256:Int)]++e.val)
def wr(kind lev:Int)(l:List aH):List Int:=[kind,lev,(l.length % 256:Int)]++l.flatMap (wrE kind)
theorem fy(r:Rf):(refB r).length=14:=by simp[refB,br]
end Go.V
namespace Go.Proofs.YtpjbalhhlaofmaaGreat
open Go.V
section
variable {w:Wd}
theorem Cw{kind lev:Int}{K:Bool->Pw}(k:K (decide (jk kind lev)) w):mU kind lev w K:=by
 apply GN;have yes:jk kind lev->K true w:=fun h=>by rw[decide_eq_true h]at k;exact k
 have no:¬ jk kind lev->K false w:=fun h=>by rw[decide_eq_false h]at k;exact k
 have two:kind=2->1<=lev->K (decide (lev<=30)) w:=fun a b=>by
  have:decide (lev<=30)=decide (jk kind lev):=by rw[decide_eq_decide];unfold jk;omega
  rw[this];exact k
 refine If.beq (fun h=>If.beq (fun h'=>yes (.inl ⟨h,h'⟩)) (fun h'=>If.beq (fun h2=>by omega) fun h2=>no (by unfold jk;omega))) (fun h=>If.beq (fun h2=>If.dec (fun h3=>two h2 h3) fun h3=>no (by unfold jk;omega)) fun h2=>no (by unfold jk;omega))
theorem Jz{kind i n:Int}{K:Bool->Pw}(k:K (decide (nf kind i n)) w):qG kind i n w K:=by
 apply Lx;refine⟨fun w'=>w'=w/\¬ (kind=2/\i=0),If.beq (fun h=>If.beq (fun h'=>?_) fun h'=>⟨rfl,by omega⟩) (fun h=>⟨rfl,by omega⟩),?_⟩
 .have:(n == 0)=decide (nf kind i n):=by rw[Bool.eq_iff_iff,decide_eq_true_iff,beq_iff_eq];unfold nf;rw[if_pos ⟨h,h'⟩]
  rw[this];exact k
 .rintro _ w1 ⟨rfl,hn⟩;refine If.dec (fun h=>?_) (fun h=>?_)
  .have:decide (n<=32)=decide (nf kind i n):=by rw[decide_eq_decide];unfold nf;rw[if_neg hn];omega
   rw[this];exact k
  .have:decide (nf kind i n)=false:=decide_eq_false (by unfold nf;rw[if_neg hn];omega);rw[this]at k;exact k
theorem LQ{kind i:Int}{x:aL}{e:aH}{K:Bool->Pw}(r:mG w.heap x e)(k:∀w',Ext No w w'->K (decide (nW kind i e)) w'):qI kind i x.k x.v x.n x.ch.p x.ch.c x.ch.g x.cd.p x.cd.c x.cd.g w K:=by
 apply GU;refine ag.mk fun b w1 h1=>bA rfl rfl (by decide) fun b1 w3 gE _ _ x3=>?_
 have hb:w3.heap[b]? = some (.cells x.cs.toArray 151 (0,0)):=ad h1.get x3;have hz:w3.heap[b1]? = some (.cells Rf.z.cs.toArray 28 (0,0)):=gE;have xx:Ext No w w3:=h1.ext.no x3;have k:=k w3 xx;have BA:=cZ.len r.k;have Qh:=cZ.len r.v;have no:¬ nW kind i e->K false w3:=fun h=>by rw[decide_eq_false h]at k;exact k
 refine⟨_,Cell.ai hb rfl,Jz (If.not (If.dec (fun hk=>?_) fun hk=>no fun h=>hk (by rw[BA];exact h.1)))⟩;rw[BA]at hk;refine If.beq (fun h2=>?_) (fun h2=>?_)
 .refine⟨_,Cell.ai hb rfl,_,Cell.ai hb rfl,_,Cell.ai hb rfl,_,Cell.ai hz rfl,_,Cell.ai hz rfl,_,Cell.ai hz rfl,?_⟩;dsimp only;rw[xy x.cd .z,r.cd];refine If.not (If.dec (fun h=>no fun h'=>?_) fun h=>?_)
  .have:=h'.2;rw[if_pos h2]at this;exact this.1 h
  refine⟨_,Cell.ai hb rfl,_,Cell.ai hb rfl,_,Cell.ai hb rfl,_,Cell.ai hz rfl,_,Cell.ai hz rfl,_,Cell.ai hz rfl,?_⟩;dsimp only;rw[xy x.ch .z,r.ch];refine If.dec (fun h'=>?_) fun h'=>no fun LR=>?_
  .refine⟨_,Cell.ai hb rfl,If.beq (fun h3=>⟨_,Cell.ai hb rfl,?_⟩) fun h3=>no fun LR=>?_⟩
   .have:(x.n == 0)=decide (nW kind i e):=by
     rw[Bool.eq_iff_iff,decide_eq_true_iff,beq_iff_eq];unfold nW;rw[if_pos h2,r.n];exact⟨fun h4=>⟨hk,h,h',by omega,h4⟩,fun h4=>h4.2.2.2.2⟩
    rw[this];exact k
   .have:=LR.2;rw[if_pos h2]at this;omega
  .have:=LR.2;rw[if_pos h2]at this;exact h' this.2.1
 .refine⟨_,Cell.ai hb rfl,_,Cell.ai hb rfl,_,Cell.ai hb rfl,_,Cell.ai hz rfl,_,Cell.ai hz rfl,_,Cell.ai hz rfl,?_⟩;dsimp only;rw[xy x.cd .z,r.cd];refine If.not (If.dec (fun h=>?_) fun h=>no fun h'=>?_)
  rotate_left
  .have:=h'.2;rw[if_neg h2]at this;exact h this.1
  refine⟨_,Cell.ai hb rfl,?_⟩;rw[r.n];refine If.beq (fun h3=>?_) fun h3=>?_
  .refine⟨_,Cell.ai hb rfl,_,Cell.ai hb rfl,_,Cell.ai hb rfl,_,Cell.ai hz rfl,_,Cell.ai hz rfl,_,Cell.ai hz rfl,?_⟩;dsimp only;rw[xy x.ch .z,r.ch];refine If.dec (fun h'=>⟨_,Cell.ai hb rfl,?_⟩) fun h'=>no fun LR=>?_
   .have:decide ((x.v.len:Int)<=64)=decide (nW kind i e):=by
     rw[decide_eq_decide];unfold nW;rw[if_neg h2,if_pos h3,Qh];exact⟨fun h4=>⟨hk,h,h',by omega⟩,fun h4=>by have:=h4.2.2.2;omega⟩
    rw[this];exact k
   .have:=LR.2;rw[if_neg h2,if_pos h3]at this;exact h' this.2.1
  .refine⟨_,Cell.ai hb rfl,?_⟩;rw[r.n];refine If.dec (fun h4=>⟨_,Cell.ai hb rfl,?_⟩) fun h4=>no fun LR=>?_
   rotate_left
   .have:=LR.2;rw[if_neg h2,if_neg h3]at this;exact h4 this.2.1
   rw[r.n];refine If.dec (fun h5=>?_) fun h5=>no fun LR=>?_
   rotate_left
   .have:=LR.2;rw[if_neg h2,if_neg h3]at this;exact h5 this.2.2.1
   refine⟨_,Cell.ai hb rfl,_,Cell.ai hb rfl,_,Cell.ai hb rfl,_,Cell.ai hz rfl,_,Cell.ai hz rfl,_,Cell.ai hz rfl,?_⟩;dsimp only;rw[xy x.ch .z,r.ch];refine If.not (If.dec (fun h'=>no fun LR=>?_) fun h'=>⟨_,Cell.ai hb rfl,?_⟩)
   .have:=LR.2;rw[if_neg h2,if_neg h3]at this;exact this.2.2.2.1 h'
   .have:((x.v.len:Int) == 0)=decide (nW kind i e):=by
     rw[Bool.eq_iff_iff,decide_eq_true_iff,beq_iff_eq];unfold nW;rw[if_neg h2,if_neg h3,Qh];exact⟨fun h6=>⟨hk,h,h4,h5,h',by omega⟩,fun h6=>by have:=h6.2.2.2.2.2;omega⟩
    rw[this];exact k
end
section
variable {w:Wd}
theorem qc{s:Sl}{L:List (aL×aH)}{t:Int}{K:Nat->Pw}(r:Rd w.heap s 9 (L.flatMap aS))(h0:0<=t)(h1:t < (s.len:Int))
  (k:∀b w' (hi:t.toNat < L.length),w'.heap[b]? = some (.cells L[t.toNat].1.cs.toArray 151 (0,0))->b=w.heap.size->w'.heap.size=w.heap.size+1->Ext No w w'->K b w') :
  Ix s.a s.len t 9 fun a=>∃c:Sl,Cell w a (.slice c.a c.len c.cap)/\∃lk:Sl,Cell w (a.add 1) (.slice lk.a lk.len lk.cap)/\∃jC:Int,Cell w (a.add 2) (.int .i64 jC)/\∃r_:Int,Cell w (a.add 3) (.int .u32 r_)/\
   ∃sd:Int,Cell w (a.add 4) (.int .u64 sd)/\∃mq:Int,Cell w (a.add 5) (.int .u16 mq)/\∃uF:Int,Cell w (a.add 6) (.int .u32 uF)/\∃se:Int,Cell w (a.add 7) (.int .u64 se)/\∃ow:Int,Cell w (a.add 8) (.int .u16 ow)/\
   ag w (.cells [.slice none 0 0,.slice none 0 0,.int .i64 0,.int .u32 0,.int .u64 0,.int .u16 0,.int .u32 0,.int .u64 0,.int .u16 0].toArray 151) fun lN w5=>
   List.length (α:=Value) [.slice c.a c.len c.cap,.slice lk.a lk.len lk.cap,.int .i64 jC,.int .u32 r_,.int .u64 sd,.int .u16 mq,.int .u32 uF,.int .u64 se,.int .u16 ow]=9/\
   jB w5 (Addr.mk lN 0 none) [.slice c.a c.len c.cap,.slice lk.a lk.len lk.cap,.int .i64 jC,.int .u32 r_,.int .u64 sd,.int .u16 mq,.int .u32 uF,.int .u64 se,.int .u16 ow] fun w6=>K lN w6:=
 QZ r h0 h1 fun hi=>bA rfl rfl (by intro v hv;simp only[List.mem_cons,List.not_mem_nil,or_false]at hv;rcases hv with h | h | h | h | h | h | h | h | h <;> subst h <;> rfl) fun b w' hb e z x=>k b w' hi hb e z x
theorem _root_.Go.V.oQ.get{h:Array Obj}{s:Sl}{L:List (aL×aH)}(r:oQ h s L){i:Nat}(hi:i < L.length):mG h L[i].1 L[i].2:=r.iw _ (List.getElem_mem hi)
abbrev ents(L:List (aL×aH)):List aH:=L.map Prod.snd
theorem lq{kind lev:Int}{s:Sl}{L:List (aL×aH)}{K:Int->Pw}(r:oQ w.heap s L)(hs:L.length<=4294967296)
  (k0:∀w',aJ kind lev (ents L)->Ext No w w'->K 0 w') (k1:∀c w',¬ aJ kind lev (ents L)->c≠0->Ext No w w'->K c w'):eR kind lev s w K:=by
 apply GV;refine ag.mk fun b w1 h1=>?_
 have hb:=h1.get;have hl:=r.len;refine⟨fun w'=>w'=w1/\jk kind lev/\(kind=2->L≠[]),?_,?_⟩
 .refine⟨_,Cell.ai hb rfl,_,Cell.ai hb rfl,Cw (If.not (If.dec (fun Nl=>?_) fun Nl=>k1 2 _ (fun h=>Nl h.shape) (by decide) h1.ext))⟩;refine⟨_,Cell.ai hb rfl,If.beq (fun h2=>⟨_,Cell.ai hb rfl,If.beq (fun h3=>?_) fun h3=>⟨rfl,Nl,fun _ h=>?_⟩⟩) fun h2=>⟨rfl,Nl,fun h=>(h2 h).elim⟩⟩
  .refine k1 2 _ (fun h=>h.some h2 ?_) (by decide) h1.ext;rw[List.map_eq_nil_iff];exact List.eq_nil_of_length_eq_zero (by omega)
  .rw[h]at hl;simp at hl;omega
 rintro _ w3 ⟨rfl,Nl,hso⟩;refine⟨_,Cell.ai hb rfl,fun m t w'=>∃i:Nat,t=i/\i<=L.length/\m=L.length - i/\Ext No w3 w'/\(∀j (h:j < i) (h':j < L.length),nW kind j L[j].2)/\(∀j (h:j+1 < i) (h':j+1 < L.length),bW L[j].2.key L[j+1].2.key),⟨L.length,0,rfl,by omega,by omega,Ext.refl _ _,fun j h=>by omega,fun j h=>by omega⟩,?_⟩;rintro _ m0 t w4 ⟨i,rfl,hi,hm,x4,he,ho⟩;have gF:Ext No w w4:=h1.ext.no x4;refine If.dec (fun h=>?_) (fun h=>?_)
 .refine qc (r.rd.no gF) (by omega) h fun b1 w6 iv gE eb1 _ x6=>?_
  simp only[Int.toNat_natCast]at iv gE;have AX:=gF.no x6;have e6:=(r.no AX).get iv;have hb6:=ad hb (x4.no x6);refine⟨_,Cell.ai hb6 rfl,fx gE (LQ e6 fun w7 x7=>If.not (If.dec (fun hp=>?_) fun hp=>k1 2 _ (fun h=>hp ?_) (by decide) (AX.no x7)))⟩
  rotate_left
  .have:=h.iw i (by simpa using iv);simpa using this
  have hb7:=ad hb6 x7;have adu:=ad gE x7;have wA:=AX.no x7;refine⟨Ext No w7,(Ext.refl _ _).drew,If.dec (fun h0=>?_) fun h0=>?_⟩
  .refine⟨_,ae.cell (Cell.ai hb7 rfl),Ar.i64 (by omega) (Ix.elem (r.rd.no wA) (bX L) (by decide) (by omega) (by omega) fun b2 o2 qp _ hc=>⟨_,ae.cell (hc 0 _ rfl),_,ae.cell (Cell.ai adu rfl),?_⟩)⟩;have e2:((i:Int) - 1).toNat=i - 1:=by omega
   simp only[e2]at qp ⊢;have r7:=r.no wA.drew;have ea:=r7.get qp;have eb:=r7.get iv;refine hO ea.k eb.k ea.k8 eb.k8 ⟨(Ext.refl _ _).drew,If.dec (fun hc=>k1 120 _ (fun hr=>?_) (by decide) wA.drew) fun hc=>Ar.i64 (by omega) ⟨L.length - (i+1),by omega,i+1,by omega,by omega,rfl,(x4.no (x6.no x7)).drew,fun j h h'=>?_,fun j h h'=>?_⟩⟩
   .have:=hr.ord (i - 1) (by simp;omega);simp only[List.getElem_map,show i - 1+1=i by omega]at this;exact nc.1 hc this
   .rcases Nat.lt_or_ge j i with h3 | h3
    .exact he j h3 h'
    .have:j=i:=by omega
     subst this;exact hp
   .rcases Nat.lt_or_ge (j+1) i with h3 | h3
    .exact ho j h3 h'
    .have:j=i - 1:=by omega
     subst this;simp only[show i - 1+1=i by omega];exact Classical.not_not.1 fun hh=>hc (nc.2 hh)
  .refine Ar.i64 (by omega) ⟨L.length - (i+1),by omega,i+1,by omega,by omega,rfl,(x4.no (x6.no x7)).drew,fun j h h'=>?_,fun j h h'=>by omega⟩;have:j=i:=by omega
   subst this;exact hp
 .refine k0 _ ⟨Nl,fun h=>by rw[ne_eq,List.map_eq_nil_iff];exact hso h,fun j hj=>?_,fun j hj=>?_⟩ gF
  .simp only[List.length_map,List.getElem_map]at hj ⊢;exact he j (by omega) hj
  .simp only[List.length_map,List.getElem_map]at hj ⊢;exact ho j (by omega) hj
theorem aU.new{n:Nat}{b:Nat}{w':Wd}{l:List Int}(h:D_ w (.cells (l.map (Value.int .u8)).toArray 5) b w')(hn:l.length=n):aU w'.heap w.heap.size ⟨some ⟨b,0,none⟩,n,n⟩ l:=
 aT.new h (by simp[hn]) Ff
theorem xz{r:Rf}{K:Sl->Pw}(ok:r.ok)(k:∀s w',aU w'.heap w.heap.size s (refB r)->Ext No w w'->K s w'):qJ r.p r.c r.g w K:=by
 apply Lz;obtain⟨h1,h2,h3⟩:=ok;refine ag.mk fun b w1 n1=>?_
 have hb:=n1.get;refine⟨_,Cell.ai hb rfl,Ar.u64 (by omega) (lZ h1.1 (by decide) (by decide) (by show r.p < 256 ^ 4;omega) fun s1 w2 o2 x2=>?_)⟩;refine⟨_,Cell.ai (ad hb x2) rfl,lZ h2.1 (by decide) (by decide) (by show r.c < 256 ^ 8;omega) fun s2 w3 o3 x3=>?_⟩;refine⟨_,Cell.ai (ad hb (x2.no x3)) rfl,Ar.u64 (by omega) (lZ h3.1 (by decide) (by decide) (by show r.g < 256 ^ 2;omega) fun s3 w4 o4 x4=>ag.mk fun b5 w5 n5=>?_)⟩;have r5:Rd w5.heap ⟨some ⟨b5,0,none⟩,3,3⟩ 1 ([(s1,be 4 r.p),(s2,be 8 r.c),(s3,be 2 r.g)].map fun p=>p.1.v):=(aT.new (n:=3) (sz:=1) n5 rfl (by intro v hv;simp only[List.mem_cons,List.not_mem_nil,or_false]at hv;rcases hv with h | h | h <;> subst h <;> rfl)).rd;refine tC r5 (fun p hp=>?_) (by simp[br]) (by simp) fun s w' o x=>k s w' ?_ ?_
 .simp only[List.mem_cons,List.not_mem_nil,or_false]at hp;rcases hp with h | h | h <;> subst h
  .exact o2.rd.no ((x3.no x4).no n5.ext)
  .exact o3.rd.no (x4.no n5.ext)
  .exact o4.rd.no n5.ext
 .have e:refB r=([(s1,be 4 r.p),(s2,be 8 r.c),(s3,be 2 r.g)].map Prod.snd).flatten:=by simp[refB]
  rw[e];exact aT.mono o ((n1.ext.no x2).no (x3.no (x4.no n5.ext))).size
 .exact((n1.ext.no x2).no (x3.no (x4.no n5.ext))).no x
theorem af{S:Nat->Prop}{w':Wd}{b:Nat}{o:Obj}(h:w.heap[b]? = some o)(x:Ext S w w')(hb:¬ S b):w'.heap[b]? = some o:=by
 rw[x.aq b (blt h) hb];exact h
theorem xA{w0:Wd}{Q:Nat->Prop}{s s':Sl}{base:Nat}{l m:List Int}{K:Sl->Pw}(xq:Ext Q w0 w)(hq:∀i,s.aq=some i->Q i)(Zu:∀i,w0.heap.size<=i->Q i)(o:aU w.heap base s l)(hb:base<=w.heap.size)(r:cZ w.heap s' m)(hn:l.length+m.length<=1099511627776)
  (k:∀t w',aU w'.heap base t (l++m)->(∀i,t.aq=some i->Q i)->Ext Q w0 w'->K t w'):bz pz 23 23 s (.slice s'.a s'.len s'.cap) K w:=
 fu o hb r.src (by have:=aU.len o;have:=cZ.len r;omega) fun t w' o' _ x oR=>k t w' (by show aT _ _ 5 1 t _;rw[List.map_append];exact o') (fun i hi=>by
  rcases oR with h | ⟨b,h,hle⟩
  .exact hq i (h ▸ hi)
  .rw[hi]at h;cases h;exact Zu i (Nat.le_trans xq.size hle)) (xq.trans x fun i _ h=>hq i h)
theorem Xj(kind:Int){e:aH}(h1:e.key.length<=1048576)(h2:e.val.length<=1048576):(wrE kind e).length<=4194304:=by
 unfold wrE;simp only[List.length_append,List.length_cons];split
 .rw[fy];omega
 .split
  .simp[fy];omega
  .simp;omega
def Q2(L:List (aL×aH)):Prop:=L.length<=65536/\∀p∈L,p.2.key.length<=1048576/\p.2.val.length<=1048576
theorem Cx{kind:Int}{L:List (aL×aH)}(h:Q2 L):∀i,(((ents L).take i).flatMap (wrE kind)).length<=L.length * 4194304:=fun i=>by
 have h2:∀(l:List aH),(∀e∈l,e.key.length<=1048576/\e.val.length<=1048576)->(l.flatMap (wrE kind)).length<=l.length * 4194304:=by
  intro l hl
  induction l with
  | nil=>simp
  | cons e l ih=>
   have:=Xj kind (hl e List.mem_cons_self).1 (hl e List.mem_cons_self).2;have:=ih fun e he=>hl e (List.mem_cons_of_mem _ he)
   simp only[List.flatMap_cons,List.length_append,List.length_cons];omega
 refine Nat.le_trans (h2 _ fun e he=>?_) (Nat.mul_le_mul_right _ (by simp only[List.length_take,List.length_map];omega));obtain⟨p,hp,rfl⟩:=List.mem_map.1 (List.mem_of_mem_take he);exact h.2 p hp
set_option maxHeartbeats 400000 in
theorem Cy{kind lev:Int}{s:Sl}{L:List (aL×aH)}{K:Sl->Pw}(r:oQ w.heap s L)(hs:Q2 L)
  (k:∀t w',aU w'.heap w.heap.size t (wr kind lev (ents L))->Ext No w w'->K t w'):mV kind lev s w K:=by
 apply GW;have hl:=r.len;have JA:=hs.1;refine ag.mk fun b w1 h1=>?_
 have hb:=h1.get;refine⟨_,Cell.ai hb rfl,_,Cell.ai hb rfl,_,Cell.ai hb rfl,Ar.T3 (ag.mk fun b1 w2 h2=>⟨_,Cell.ai (ad hb h2.ext) rfl,?_⟩)⟩
 have o2:aU w2.heap w1.heap.size ⟨some ⟨b1,0,none⟩,3,3⟩ ([kind,lev,(L.length % 256:Int)]):=by
  have:=aU.new (n:=3) (l:=[kind,lev,((s.len:Int) % 256)]) h2 rfl;rw[hl]at this;exact this
 have hf:∀i (h:i < L.length),((ents L).take (i+1)).flatMap (wrE kind)=((ents L).take i).flatMap (wrE kind)++wrE kind L[i].2:=fun i h=>by
  rw[List.take_add_one,List.getElem?_eq_getElem (by simpa using h)];simp
 refine⟨fun m t i w'=>∃j:Nat,i=j/\j<=L.length/\m=L.length - j/\Ext No w w'/\w'.heap[b]? = some (.cells [.int .u8 kind,.int .u8 lev,.slice s.a s.len s.cap].toArray 142 (0,0))/\aU w'.heap w1.heap.size t ([kind,lev,(L.length % 256:Int)]++((ents L).take j).flatMap (wrE kind)),⟨L.length,0,rfl,by omega,by omega,h1.ext.no h2.ext,ad hb h2.ext,by simpa using o2⟩,?_⟩;rintro _ m0 t i w3 ⟨j,rfl,hj,hm,x3,xB,o3⟩;refine If.dec (fun h=>?_) (fun h=>?_)
 .refine qc (r.rd.no x3) (by omega) h fun b4 w5 iv Io eb4 z5 x5=>?_
  simp only[Int.toNat_natCast]at iv Io;have BB:=x3.no x5;have e5:=(r.no BB).get iv;have Ip:=hs.2 _ (List.getElem_mem iv)
  have hlen:([kind,lev,(L.length % 256:Int)]++((ents L).take j).flatMap (wrE kind)).length<=274877906950:=by
   have:=Cx (kind:=kind) hs j;simp only[List.length_append,List.length_cons,List.length_nil];omega
  have z1:=h1.size;have hx3:=x3.size;have aga:w1.heap.size<=w3.heap.size:=by have:=blt xB;have:=h1.at_;omega
  generalize Zv:([kind,lev,(L.length % 256:Int)]++((ents L).take j).flatMap (wrE kind))=l0 at *
  let Q:Nat->Prop:=fun i=>w1.heap.size<=i/\i≠b4
  have nb:¬ Q b:=fun h=>by have:=h1.at_;have:=h.1;omega
  have Uh:¬ Q b4:=fun h=>h.2 rfl
  have Zw:∀i,w5.heap.size<=i->Q i:=fun i hi=>⟨by omega,by omega⟩
  have nY:∀{w':Wd},Ext Q w5 w'->Ext No w w':=fun x=>BB.trans x fun i hi h=>by have:=h.1;omega
  have hq3:∀i,t.aq=some i->Q i:=fun i hi=>by have:=o3.lt hi;exact⟨this.1,by omega⟩
  have Qi:=ad xB x5;have o5:aU w5.heap w1.heap.size t l0:=o3.no x5
  have fin:∀{t':Sl}{w':Wd}{l:List Int},Ext Q w5 w'->aU w'.heap w1.heap.size t' (l0++l)->l=wrE kind L[j].2->∃m1,m1 < m0/\∃j':Nat,((j:Int)+1)=j'/\j'<=L.length/\m1=L.length - j'/\Ext No w w'/\w'.heap[b]? = some (.cells [.int .u8 kind,.int .u8 lev,.slice s.a s.len s.cap].toArray 142 (0,0))/\aU w'.heap w1.heap.size t' ([kind,lev,(L.length % 256:Int)]++((ents L).take j').flatMap (wrE kind)):=fun {t' w' l} x o e=>
   ⟨L.length - (j+1),by omega,j+1,by omega,by omega,rfl,nY x,af Qi x nb,by rw[hf j iv,<- List.append_assoc,Zv,<- e];exact o⟩
  have BA:=cZ.len e5.k;have Qh:=cZ.len e5.v;refine⟨Ext Q w5,(Ext.refl _ _).drew,_,ae.dQ (Cell.ai Io rfl) Uh,Ar.T3 ⟨_,ae.dQ (Cell.ai Io rfl) Uh,ag.mk fun b6 w6 n6=>?_⟩⟩;have x6:Ext Q w5 w6:=((Ext.refl _ _).drew).no n6.ext;refine⟨x6,xA (s':=⟨some ⟨b6,0,none⟩,1,1⟩) (l:=l0) x6 hq3 Zw (o5.no ((Ext.refl No w5).drew.no n6.ext)) (by have:=x6.size;omega) (aU.new (n:=1) (l:=[((L[j].1.k.len:Int) % 256)]) n6 rfl).rd (by simp;omega) fun s7 w7 o7 q7 x7=>⟨x7,?_⟩⟩
  refine xA x7 q7 Zw o7 (by have:=x7.size;omega) ((r.no (nY x7)).get iv).k (by simp;omega) fun s8 w8 o8 q8 x8=>⟨x8,_,Cell.ai (af Qi x8 nb) rfl,?_⟩
  have e8:=(r.no (nY x8)).get iv;have OB:=af Io x8 Uh;have z8:=x8.size;refine If.beq (fun h2=>?_) (fun h2=>?_)
  .refine⟨_,Cell.ai OB rfl,_,Cell.ai OB rfl,_,Cell.ai OB rfl,?_⟩;rw[e8.cd];refine xz e8.Ug fun s9 w9 o9 x9=>xA (x8.no x9) q8 Zw (o8.no x9) (by have:=x9.size;omega) o9.rd (by simp[fy];omega) fun OC dA Qj q10 dR=>Ar.i64 (by omega) (fin dR (by simpa only[List.append_assoc] using Qj) ?_)
   unfold wrE;rw[if_pos h2,BA];simp
  .refine⟨_,Cell.ai OB rfl,?_⟩;rw[e8.n];refine If.dec (fun h3=>?_) (fun h3=>?_)
   .refine⟨_,Cell.ai OB rfl,by decide,Nm.as (e':=L[j].2.n / 256) (by rw[show min (Int.toNat 8) (IntKind.bits .i64)=8 from rfl,Int.fdiv_eq_ediv_of_nonneg _ (by decide),e8.n];rfl) (Ar.T3 ⟨_,Cell.ai OB rfl,Ar.T3 (ag.mk fun b9 w9 n9=>?_)⟩)⟩;refine xA (s':=⟨some ⟨b9,0,none⟩,3,3⟩) (x8.no n9.ext) q8 Zw (o8.no n9.ext) (by have:=n9.ext.size;omega) (aU.new (n:=3) (l:=[1,L[j].2.n / 256 % 256,L[j].1.n % 256]) n9 rfl).rd (by simp;omega) fun OC dA Qj q10 dR=>?_
    have Xk:=af Io dR Uh;have LS:=dR.size;refine⟨_,Cell.ai Xk rfl,_,Cell.ai Xk rfl,_,Cell.ai Xk rfl,?_⟩;rw[e8.ch];refine xz e8.Ue fun Ui dg Uj fY=>xA (dR.no fY) q10 Zw (Qj.no fY) (by have:=fY.size;omega) Uj.rd (by simp[fy];omega) fun s12 eG VJ q12 gS=>Ar.i64 (by omega) (fin gS (by simpa only[List.append_assoc] using VJ) ?_)
    unfold wrE;rw[if_neg h2,if_pos h3,BA,e8.n];simp
   .refine⟨Ext Q w8,(Ext.refl _ _).drew,_,ae.dQ (Cell.ai OB rfl) Uh,Ar.T3 ⟨_,ae.dQ (Cell.ai OB rfl) Uh,ag.mk fun b9 w9 n9=>?_⟩⟩;have x9:Ext Q w8 w9:=((Ext.refl _ _).drew).no n9.ext;have hQ8:∀i,w8.heap.size<=i->Q i:=fun i hi=>Zw i (by omega)
    have tt:∀{w':Wd},Ext Q w8 w'->Ext Q w5 w':=fun x=>x8.trans x fun _ _ h=>h
    refine⟨x9,xA (s':=⟨some ⟨b9,0,none⟩,2,2⟩) x9 q8 hQ8 (o8.no ((Ext.refl No w8).drew.no n9.ext)) (by have:=x9.size;omega) (aU.new (n:=2) (l:=[0,((L[j].1.v.len:Int) % 256)]) n9 rfl).rd (by simp;omega) fun OC dA Qj q10 dR=>⟨dR,?_⟩⟩
    refine xA dR q10 hQ8 Qj (by have:=dR.size;omega) ((r.no (nY (tt dR))).get iv).v (by simp;omega) fun Ui dg Uj q11 fY=>⟨fY,Ar.i64 (by omega) (fin (tt fY) (by simpa only[List.append_assoc] using Uj) ?_)⟩
    unfold wrE;rw[if_neg h2,if_neg h3,BA,Qh];simp
 .have e:j=L.length:=by omega
  subst e;refine k _ _ ?_ x3;refine aT.mono ?_ h1.ext.size;have e2:(ents L).take L.length=ents L:=List.take_of_length_le (by simp);rw[e2]at o3;unfold wr;simp only[List.length_map];exact o3
theorem _root_.Go.V.aJ.short{kind lev:Int}{L:List (aL×aH)}(h:aJ kind lev (ents L))(hl:L.length<=65536):Q2 L:=by
 refine⟨hl,fun p hp=>?_⟩;obtain⟨i,hi,rfl⟩:=List.getElem_of_mem hp;have:=h.iw i (by simpa using hi);simp only[List.getElem_map]at this;obtain⟨h1,h2⟩:=this;unfold nf at h1;constructor
 .split at h1 <;> omega
 .split at h2
  .omega
  .obtain⟨_,h2⟩:=h2;split at h2 <;> omega
theorem nC{kind lev:Int}{s:Sl}{L:List (aL×aH)}{K:Int->Int->Pw}(r:oQ w.heap s L)(hs:L.length<=65536)
  (k0:∀w',aJ kind lev (ents L)->Ext No w w'->K ((wr kind lev (ents L)).length:Int) 0 w') (k1:∀c w',¬ aJ kind lev (ents L)->c≠0->Ext No w w'->K 0 c w'):fL kind lev s w K:=by
 apply Jd;refine ag.mk fun b w1 h1=>?_
 have hb:=h1.get;refine⟨_,Cell.ai hb rfl,_,Cell.ai hb rfl,_,Cell.ai hb rfl,lq (r.no h1.ext) (by omega) (fun w2 hr x2=>If.bne (fun h=>(h rfl).elim) fun _=>?_) (fun c w2 hr hc x2=>If.bne (fun _=>k1 c _ hr hc (h1.ext.no x2)) fun h=>(hc h).elim)⟩;have lO:=ad hb x2;refine⟨_,Cell.ai lO rfl,_,Cell.ai lO rfl,_,Cell.ai lO rfl,Cy (r.no (h1.ext.no x2)) (hr.short hs) fun t w3 o3 x3=>?_⟩;rw[aU.len o3];exact k0 _ hr ((h1.ext.no x2).no x3)
def _root_.Go.V.pad(l:List Int):List Int:=l++List.replicate (224 - l.length) 0
theorem _root_.Go.V.Np{l:List Int}(h:l.length<=224):(pad l).length=224:=by simp[pad];omega
theorem JB{kind lev:Int}{s:Sl}{L:List (aL×aH)}{K:Sl->Int->Pw}(r:oQ w.heap s L)(hs:L.length<=65536)
  (k0:∀t w',aJ kind lev (ents L)->(wr kind lev (ents L)).length<=224->aU w'.heap w.heap.size t (pad (wr kind lev (ents L)))->Ext No w w'->K t 0 w')
  (k1:∀c w',¬ (aJ kind lev (ents L)/\(wr kind lev (ents L)).length<=224)->c≠0->Ext No w w'->K ⟨none,0,0⟩ c w'):pq kind lev s w K:=by
 apply Eg;refine ag.mk fun b w1 h1=>?_
 have hb:=h1.get;refine⟨_,Cell.ai hb rfl,_,Cell.ai hb rfl,_,Cell.ai hb rfl,lq (r.no h1.ext) (by omega) (fun w2 hr x2=>If.bne (fun h=>(h rfl).elim) fun _=>?_) (fun c w2 hr hc x2=>If.bne (fun _=>k1 c _ (fun h=>hr h.1) hc (h1.ext.no x2)) fun h=>(hc h).elim)⟩;have lO:=ad hb x2;refine⟨_,Cell.ai lO rfl,_,Cell.ai lO rfl,_,Cell.ai lO rfl,Cy (r.no (h1.ext.no x2)) (hr.short hs) fun t w3 o3 x3=>?_⟩;have gp:=(h1.ext.no x2).no x3;have hl:=aU.len o3;refine If.dec (fun h=>k1 3 _ (fun h'=>by omega) (by decide) gp) (fun h=>Ar.i64 (by omega) ?_);have e:(224 - (t.len:Int))=((224 - (wr kind lev (ents L)).length:Nat):Int):=by omega
 rw[e];refine Jv (k:= .i64) (ie:=Tryz.t5) (z:= .int .u8 0) (by kernel_rfl) (by kernel_rfl) (by kernel_rfl) (by kernel_rfl) (by kernel_rfl) (by kernel_rfl) rfl (by kernel_rfl) o3 (x3.size) (by omega) fun s' w' o _ x _=>k0 _ _ hr (by omega) (aT.mono (base:=w2.heap.size) ?_ (h1.ext.no x2).size) (gp.trans x fun i hi h=>?_)
 .rw[<- List.map_replicate,<- List.map_append]at o;exact o
 .have:=(o3.lt h).1;have:=(h1.ext.no x2).size;omega
end
end Go.Proofs.YtpjbalhhlaofmaaGreat
set_option maxRecDepth 100000
namespace Go.V
open Go.V.Pk Go.Proofs.YtpjbalhhlaofmaaGreat
structure cW where
 gen:Int
 cm:Int
 wr:List Int
deriving DecidableEq
structure aA where
 ah:Int
 aI:Int
 mark:List Int
 root:Rf
 lev:Int
 aw:Int
 held:List cW
deriving DecidableEq
def qd(x:aA):Prop:=x.ah≠0/\1<=x.aI/\x.aI<=1000/\x.mark.length=16/\0<=x.aw/\x.aw<=x.aI/\(x.aw=0 ↔ x.root = .z/\x.lev=0)/\
 ((∃a,x.held=[a]/\a.wr.length=32)∨∃a b,x.held=[a,b]/\a.wr.length=32/\b.wr.length=32/\b.gen=a.gen+1)
def textB(l:List Int):List Int:=numB l.length++l
def eC(h:cW):List Int:=numB h.gen.toNat++(numB h.cm.toNat++textB h.wr)
def gh(x:aA):List Int:=
 numB x.aI.toNat++(numB x.aw.toNat++(textB x.mark++(numB x.root.p.toNat++(numB x.root.c.toNat++(numB x.root.g.toNat++(numB x.lev.toNat++(numB x.held.length++x.held.flatMap eC)))))))
structure qQ(h:cW):Prop where
 gen:0<=h.gen/\h.gen<=65535
 cm:0<=h.cm/\h.cm<=18446744073709551615
 wr:B8 h.wr
structure AY(x:aA):Prop where
 ah:0<=x.ah/\x.ah<=4294967295
 mark:B8 x.mark
 root:x.root.ok
 lev:0<=x.lev/\x.lev<=255
 held:∀h∈x.held,qQ h
structure gz where
 gen:Int
 cm:Int
 wr:Sl
def gz.cells(v:gz):List Value:=[.int .u16 v.gen,.int .u64 v.cm,.slice v.wr.a v.wr.len v.wr.cap]
structure bh where
 ah:Int
 aI:Int
 mark:Sl
 root:Rf
 lev:Int
 aw:Int
 held:Sl
def bh.cells(v:bh):List Value:=[.int .u32 v.ah,.int .i64 v.aI,.slice v.mark.a v.mark.len v.mark.cap,.int .u32 v.root.p,.int .u64 v.root.c,.int .u16 v.root.g,.int .u8 v.lev,.int .i64 v.aw,.slice v.held.a v.held.len v.held.cap]
def bt:bh:=⟨0,0,⟨none,0,0⟩,.z,0,0,⟨none,0,0⟩⟩
theorem gz.one(v:gz):∀x∈v.cells,aN x=true:=by
 intro x hx;simp only[gz.cells,List.mem_cons,List.not_mem_nil,or_false]at hx;rcases hx with rfl | rfl | rfl <;> rfl
theorem bh.one(v:bh):∀x∈v.cells,aN x=true:=by
 intro x hx;simp only[bh.cells,List.mem_cons,List.not_mem_nil,or_false]at hx;rcases hx with rfl | rfl | rfl | rfl | rfl | rfl | rfl | rfl | rfl <;> rfl
theorem jB.mk{w:Wd}{b o:Nat}{cs vs:List Value}{T:TypeId}{K:Pw}(hb:w.heap[b]? = some (.cells cs.toArray T (0,0)))(ho:o+vs.length<=cs.length)(hv:∀v∈vs,aN v=true)
  (k:∀w',gI w b (.cells (setL cs o vs).toArray T (0,0)) w'->K w'):jB w ⟨b,o,none⟩ vs K:=
 ⟨cs.toArray,T,(0,0),hb,rfl,by simpa using ho,.inr (.inr (Nat.le_refl _)),hv,fun w' hw=>k w' hw⟩
theorem OD(cs vs:List Value)(h:vs.length=cs.length):setL cs 0 vs=vs:=by
 rw[ub _ _ _ (by omega),List.take_zero,List.nil_append,Nat.zero_add,h,List.drop_length,List.append_nil]
theorem jB.all{w:Wd}{b:Nat}{cs vs:List Value}{T:TypeId}{K:Pw}(hb:w.heap[b]? = some (.cells cs.toArray T (0,0)))(hl:vs.length=cs.length)(hv:∀v∈vs,aN v=true)
  (k:∀w',w'.heap[b]? = some (.cells vs.toArray T (0,0))->Ext (·=b) w w'->w'.heap.size=w.heap.size->K w'):jB w ⟨b,0,none⟩ vs K:=
 jB.mk hb (by omega) hv fun w' h=>k w' (by have:=h.get hb;rw[OD _ _ hl]at this;exact this) h.ext h.size
structure tD(Q:Nat->Prop)(h:Array Obj)(s:Sl)(l:List Int):Prop where
 rd:cZ h s l
 q:l≠[]->∀b,s.aq=some b->Q b
theorem tD.ext{Q S:Nat->Prop}{w w':Wd}{s:Sl}{l:List Int}(r:tD Q w.heap s l)(x:Ext S w w')(h:∀b,Q b->¬ S b):tD Q w'.heap s l:=by
 refine⟨?_,r.q⟩;by_cases hl:l=[]
 .subst hl;exact⟨Rd.len r.rd,r.rd.cap,fun h=>(h rfl).elim,by simp⟩
 .exact Rd.ext r.rd x fun a b ha hb=>h b (r.q hl b (by simp[Sl.aq,ha,hb]))
theorem tD.no{Q:Nat->Prop}{w w':Wd}{s:Sl}{l:List Int}(r:tD Q w.heap s l)(x:Ext No w w'):tD Q w'.heap s l:=r.ext x fun _ _=>id
theorem tD.mono{Q Q':Nat->Prop}{h:Array Obj}{s:Sl}{l:List Int}(r:tD Q h s l)(hq:∀b,Q b->Q' b):tD Q' h s l:=⟨r.rd,fun hl b hb=>hq b (r.q hl b hb)⟩
theorem tD.own{Q:Nat->Prop}{h:Array Obj}{base:Nat}{s:Sl}{l:List Int}(o:aU h base s l)(hq:∀b,base<=b->b < h.size->Q b):tD Q h s l:=⟨o.rd,fun _ b hb=>hq b (o.lt hb).1 (o.lt hb).2⟩
theorem tD.lt{Q:Nat->Prop}{h:Array Obj}{s:Sl}{l:List Int}(r:tD Q h s l):tD (fun q=>Q q/\q < h.size) h s l:=⟨r.rd,fun hl b hb=>⟨r.q hl b hb,Rd.lt r.rd (by simpa using hl) hb⟩⟩
structure gA(Q:Nat->Prop)(h:Array Obj)(v:gz)(x:cW):Prop where
 gen:v.gen=x.gen
 cm:v.cm=x.cm
 wr:tD Q h v.wr x.wr
theorem gA.ext{Q S:Nat->Prop}{w w':Wd}{v:gz}{x:cW}(r:gA Q w.heap v x)(e:Ext S w w')(h:∀b,Q b->¬ S b):gA Q w'.heap v x:=⟨r.gen,r.cm,r.wr.ext e h⟩
theorem gA.no{Q:Nat->Prop}{w w':Wd}{v:gz}{x:cW}(r:gA Q w.heap v x)(e:Ext No w w'):gA Q w'.heap v x:=r.ext e fun _ _=>id
theorem gA.mono{Q Q':Nat->Prop}{h:Array Obj}{v:gz}{x:cW}(r:gA Q h v x)(hq:∀b,Q b->Q' b):gA Q' h v x:=⟨r.gen,r.cm,r.wr.mono hq⟩
abbrev hC(L:List (gz×cW)):List Value:=L.flatMap fun e=>e.1.cells
theorem Hu(L:List (gz×cW)):∀e∈L,e.1.cells.length=3:=fun _ _=>rfl
theorem aaG{L:List (gz×cW)}(h:hC L≠[]):L≠[]:=by rintro rfl;exact h rfl
def ei(Q:Nat->Prop)(h:Array Obj)(s:Sl)(l:List cW):Prop:=∃L:List (gz×cW),L.map Prod.snd=l/\Rd h s 3 (hC L)/\(L≠[]->∀b,s.aq=some b->Q b)/\∀e∈L,gA Q h e.1 e.2
theorem ei.ext{Q S:Nat->Prop}{w w':Wd}{s:Sl}{l:List cW}(r:ei Q w.heap s l)(x:Ext S w w')(h:∀b,Q b->¬ S b):ei Q w'.heap s l:=by
 obtain⟨L,h1,h2,h3,h4⟩:=r;exact⟨L,h1,h2.Xi x fun bC b hb=>h b (h3 (aaG bC) b hb),h3,fun e he=>(h4 e he).ext x h⟩
theorem ei.no{Q:Nat->Prop}{w w':Wd}{s:Sl}{l:List cW}(r:ei Q w.heap s l)(x:Ext No w w'):ei Q w'.heap s l:=r.ext x fun _ _=>id
theorem ei.mono{Q Q':Nat->Prop}{h:Array Obj}{s:Sl}{l:List cW}(r:ei Q h s l)(hq:∀b,Q b->Q' b):ei Q' h s l:=by
 obtain⟨L,h1,h2,h3,h4⟩:=r;exact⟨L,h1,h2,fun bC b hb=>hq b (h3 bC b hb),fun e he=>(h4 e he).mono hq⟩
theorem ei.len{Q:Nat->Prop}{h:Array Obj}{s:Sl}{l:List cW}(r:ei Q h s l):s.len=l.length:=by
 obtain⟨L,h1,h2,h3,h4⟩:=r;have:=h2.len;rw[aK (Hu L)]at this;rw[<- h1,List.length_map];omega
theorem ei.lt{Q:Nat->Prop}{h:Array Obj}{s:Sl}{l:List cW}(r:ei Q h s l):ei (fun q=>Q q/\q < h.size) h s l:=by
 obtain⟨L,h1,h2,h3,h4⟩:=r;refine⟨L,h1,h2,fun bC b hb=>⟨h3 bC b hb,Rd.lt h2 (fun e=>?_) hb⟩,fun e he=>⟨(h4 e he).gen,(h4 e he).cm,(h4 e he).wr.lt⟩⟩
 cases L with
 | nil=>exact bC rfl
 | cons p L=>cases e
structure bV(Q:Nat->Prop)(h:Array Obj)(v:bh)(x:aA):Prop where
 ah:v.ah=x.ah
 aI:v.aI=x.aI
 mark:tD Q h v.mark x.mark
 root:v.root=x.root
 lev:v.lev=x.lev
 aw:v.aw=x.aw
 held:ei Q h v.held x.held
theorem bV.ext{Q S:Nat->Prop}{w w':Wd}{v:bh}{x:aA}(r:bV Q w.heap v x)(e:Ext S w w')(h:∀b,Q b->¬ S b):bV Q w'.heap v x:=⟨r.ah,r.aI,r.mark.ext e h,r.root,r.lev,r.aw,r.held.ext e h⟩
theorem bV.no{Q:Nat->Prop}{w w':Wd}{v:bh}{x:aA}(r:bV Q w.heap v x)(e:Ext No w w'):bV Q w'.heap v x:=r.ext e fun _ _=>id
theorem bV.mono{Q Q':Nat->Prop}{h:Array Obj}{v:bh}{x:aA}(r:bV Q h v x)(hq:∀b,Q b->Q' b):bV Q' h v x:=⟨r.ah,r.aI,r.mark.mono hq,r.root,r.lev,r.aw,r.held.mono hq⟩
theorem bV.lt{Q:Nat->Prop}{h:Array Obj}{v:bh}{x:aA}(r:bV Q h v x):bV (fun q=>Q q/\q < h.size) h v x:=⟨r.ah,r.aI,r.mark.lt,r.root,r.lev,r.aw,r.held.lt⟩
theorem AZ{Q:Nat->Prop}{w:Wd}{s:Sl}{l:List cW}{i:Int}{K:Addr->Prop}(r:ei Q w.heap s l)(h0:0<=i)(h1:i < (s.len:Int))
  (k:∀b o (v:gz) (hi:i.toNat < l.length),gA Q w.heap v l[i.toNat]->(∀j x,v.cells[j]? = some x->Cell w ⟨b,o+j,none⟩ x)->K ⟨b,o,none⟩):Ix s.a s.len i 3 K:=by
 obtain⟨L,h2,h3,h4,h5⟩:=r;refine Ix.elem (f:=fun e:gz×cW=>e.1.cells) h3 (Hu L) (by decide) h0 h1 fun b o hi hb hc=>?_
 have hl:L.length=l.length:=by rw[<- h2,List.length_map]
 refine k b o L[i.toNat].1 (by omega) ?_ hc;have e:l[i.toNat]'(by omega)=L[i.toNat].2:=by simp[<- h2]
 rw[e];exact h5 _ (List.getElem_mem hi)
end Go.V
namespace Go.Proofs.YtpjbalhhlaofmaaGreat
open Go.V
section
variable {w:Wd} {Q Q':Nat->Prop}
theorem cq{w:Wd}{b j:Nat}{x:Value}{cs:List Value}{T:TypeId}{fz:Nat×Nat}(g:w.heap[b]? = some (.cells cs.toArray T fz))(h:cs[j]? = some x):ae (Ext No w) ((Addr.mk b 0 none).add j) x:=by
 rw[ay rfl,Nat.zero_add];exact ae.cell (Cell.ai g h)
theorem Fk{w:Wd}{b i j:Nat}{x:Value}{cs:List Value}{T:TypeId}{fz:Nat×Nat}(g:w.heap[b]? = some (.cells cs.toArray T fz))(h:cs[i+j]? = some x):ae (Ext No w) (((Addr.mk b 0 none).add i).add j) x:=by
 rw[ay (a:=Addr.mk b 0 none) rfl,ay rfl,Nat.zero_add];exact ae.cell (Cell.ai g h)
theorem uS{w:Wd}{b:Nat}{x:Value}{cs:List Value}{T:TypeId}{fz:Nat×Nat}(g:w.heap[b]? = some (.cells cs.toArray T fz))(h:cs[0]? = some x):ae (Ext No w) (Addr.mk b 0 none) x:=ae.cell (Cell.ai g h)
theorem eqB{x y:List Int}(hx:B8 x)(hy:B8 y):(Ov x == Ov y)=decide (x=y):=by rw[Bool.eq_iff_iff];simp[Nc hx hy]
theorem JC{a b:Sl}{x y:List Int}{K:Bool->Pw}(ha:cZ w.heap a x)(hb:cZ w.heap b y)(hx:B8 x)(hy:B8 y)(k:K (decide (x=y)) w):fa a b w K:=by
 apply Ej;refine su.mk ha (fun _ _ _ h=>Cell.mk h) (su.mk hb (fun _ _ _ h=>Cell.mk h) ?_);rw[toList_mk,toList_mk,eqB hx hy];exact k
end
end Go.Proofs.YtpjbalhhlaofmaaGreat
namespace Go.V
theorem Fl{r:Rf}{lev:Int}:((((r.p == 0) && ((r.c == 0) && ((r.g == 0) && true))) && ((lev == 0) && true))=true) ↔ (r = .z/\lev=0):=by
 obtain⟨p,c,g⟩:=r;simp[Rf.z]
theorem Nq{r s:Rf}{lev Q4:Int}:((((r.p == s.p) && ((r.c == s.c) && ((r.g == s.g) && true))) && ((lev == Q4) && true))=true) ↔ (r=s/\lev=Q4):=by
 obtain⟨p,c,g⟩:=r;obtain⟨p',c',g'⟩:=s;simp
theorem JD{l:List cW}(h:l.length=2):∃a b,l=[a,b]:=by
 match l,h with
 | [a,b],_=>exact⟨a,b,rfl⟩
theorem JE{l:List cW}(h:l.length=1):∃a,l=[a]:=by
 match l,h with
 | [a],_=>exact⟨a,rfl⟩
theorem aA.ext{a b:aA}(h1:a.ah=b.ah)(h2:a.aI=b.aI)(h3:a.mark=b.mark)(h4:a.root=b.root)(h5:a.lev=b.lev)(h6:a.aw=b.aw)(h7:a.held=b.held):a=b:=by
 cases a;cases b;simp_all
theorem cW.ext{a b:cW}(h1:a.gen=b.gen)(h2:a.cm=b.cm)(h3:a.wr=b.wr):a=b:=by
 cases a;cases b;simp_all
theorem fX{α:Type}{l:List α}{j:Nat}(h:j < l.length):l.take (j+1)=l.take j++[l[j]]:=by
 rw[List.take_succ_eq_append_getElem h]
end Go.V
namespace Go.Proofs.YtpjbalhhlaofmaaGreat
open Go.V
section
variable {w:Wd} {Q Q':Nat->Prop}
theorem zU{s:Sl}{l:List cW}{K:Bool->Pw}(r:ei Q w.heap s l)(hl:l.length<=1000000000000)(k:∀t w',(t=true ↔ ∃h∈l,h.wr.length≠32)->Ext No w w'->K t w') :
  bD s (.func (.func 61) #[] #[]) w K:=by
 apply gD;apply iq;have JF:=r.len;refine⟨fun m t w'=>∃j:Nat,t=j/\j<=l.length/\m=l.length - j/\(∀h∈l.take j,h.wr.length=32)/\Ext No w w',⟨_,0,rfl,Nat.zero_le _,rfl,by simp,Ext.refl _ _⟩,?_⟩;rintro _ m0 _ w1 ⟨j,rfl,hj,rfl,ff,x1⟩;refine If.dec (fun h=>?_) fun h=>?_
 .refine AZ (r.no x1) (by omega) h fun b o v hi hr hc=>?_
  have fh:j < l.length:=hi;have el:l[((j:Nat):Int).toNat]'hi=l[j]:=rfl;rw[el]at hr;refine⟨v.gen,hc 0 _ rfl,v.cm,hc 1 _ rfl,v.wr,hc 2 _ rfl,Hc (Hb (ag.mk fun b1 w2 n2=>⟨v.wr,Cell.ai (cs:=v.cells) n2.get rfl,?_⟩))⟩;have hlw:=cZ.len hr.wr.rd;have x2:=x1.no n2.ext;refine If.bne (fun bC=>k _ w2 ?_ x2) fun he=>Ar.i64 (by omega) ⟨_,by omega,j+1,by omega,by omega,rfl,fun h hh=>?_,x2⟩
  .rw[decide_eq_true (by omega)];exact⟨fun _=>⟨_,List.getElem_mem fh,by omega⟩,fun _=>rfl⟩
  .rw[fX fh]at hh;rcases List.mem_append.1 hh with h1 | h1
   .exact ff h h1
   .rw[List.mem_singleton]at h1;rw[h1];omega
 .have Fm:j=l.length:=by omega
  rw[Fm,List.take_length]at ff;refine k _ w1 ?_ x1;rw[show decide ((-1:Int)≥0)=false from rfl];exact⟨fun h=>(by cases h),fun⟨h,hh,bC⟩=>(bC (ff h hh)).elim⟩
set_option maxHeartbeats 1000000 in
theorem Q5{v:bh}{x:aA}{K:Bool->Pw}(r:bV Q w.heap v x)(rg:∀h∈x.held,qQ h)(hl:x.held.length<=1000000000000)(k:∀t w',(t=true ↔ qd x)->Ext No w w'->K t w'):vg v.ah v.aI v.mark v.root.p v.root.c v.root.g v.lev v.aw v.held w K:=by
 apply LG;refine ag.mk fun b w1 n1=>?_
 have g1:w1.heap[b]? = some (.cells v.cells.toArray 33 (0,0)):=n1.get;have x1:=n1.ext;have xd:Ext No w (aa w1):=x1.drew;have Tr:Ext No w (aa (aa w1)):=xd.drew;have lm:=cZ.len r.mark.rd;have lh:=r.held.len;have et:=r.ah;have eq:=r.aI;have er:=r.root;have ev:=r.lev;have ec:=r.aw;have no:∀{w'},Ext No w w'->¬ qd x->K false w':=fun e h=>k _ _ ⟨fun h=>(by cases h),fun h'=>(h h').elim⟩ e
 refine⟨_,Cell.ai g1 rfl,fun t w'=>(t=true ↔ ¬ (x.ah≠0/\1<=x.aI/\x.aI<=1000/\x.mark.length=16))/\w'=w1,
  ⟨_,Cell.ai g1 rfl,If.beq (fun h=>⟨⟨fun _ h'=>by omega,fun _=>rfl⟩,rfl⟩) fun h1=>⟨_,Cell.ai g1 rfl,If.dec (fun h=>⟨⟨fun _ h'=>by omega,fun _=>rfl⟩,rfl⟩) fun h2=>⟨_,Cell.ai g1 rfl,If.dec (fun h=>⟨⟨fun _ h'=>by omega,fun _=>rfl⟩,rfl⟩) fun h3=>⟨_,Cell.ai g1 rfl,⟨?_,rfl⟩⟩⟩⟩⟩,?_⟩
 .rw[bne_iff_ne];exact⟨fun h h'=>by omega,fun h h'=>h ⟨by omega,by omega,by omega,by omega⟩⟩
 rintro _ t w2 ⟨ht,rfl⟩;refine If.cases (fun h=>no x1 fun m=>ht.1 h ⟨m.1,m.2.1,m.2.2.1,m.2.2.2.1⟩) fun h=>?_
 have hA:x.ah≠0/\1<=x.aI/\x.aI<=1000/\x.mark.length=16:=Classical.byContradiction fun c=>by rw[ht.2 c]at h;cases h
 refine⟨fun t w'=>(t=true ↔ ¬ (0<=x.aw/\x.aw<=x.aI/\(x.aw=0 ↔ x.root = .z/\x.lev=0)))/\w'=aa w2,
  ⟨Ext No w2,(Ext.refl _ _).drew,v.aw,cq g1 rfl,If.dec (fun h=>⟨⟨fun _ h'=>by omega,fun _=>rfl⟩,rfl⟩) fun h1=>⟨v.aw,cq g1 rfl,v.aI,cq g1 rfl,If.dec (fun h=>⟨⟨fun _ h'=>by omega,fun _=>rfl⟩,rfl⟩) fun h2=>⟨v.aw,cq g1 rfl,v.root.p,cq g1 rfl,v.root.c,Fk g1 rfl,v.root.g,Fk g1 rfl,v.lev,Fk g1 rfl,⟨?_,rfl⟩⟩⟩⟩,?_⟩
 .have e1:(v.aw == 0)=decide (x.aw=0):=by rw[ec];rfl
  have e2:((((v.root.p == 0) && ((v.root.c == 0) && ((v.root.g == 0) && true))) && ((v.lev == 0) && true)))=decide (x.root = .z/\x.lev=0):=by rw[Bool.eq_iff_iff,Fl,er,ev,decide_eq_true_iff]
  rw[e1,e2];by_cases c1:x.aw=0 <;> by_cases c2:x.root = .z/\x.lev=0 <;> simp[c1,c2] <;> omega
 rintro _ t w3 ⟨ht,rfl⟩;refine If.cases (fun h=>no xd fun m=>ht.1 h ⟨m.2.2.2.2.1,m.2.2.2.2.2.1,m.2.2.2.2.2.2.1⟩) fun h=>?_
 have hB:0<=x.aw/\x.aw<=x.aI/\(x.aw=0 ↔ x.root = .z/\x.lev=0):=Classical.byContradiction fun c=>by rw[ht.2 c]at h;cases h
 have gd:(aa w2).heap[b]? = some (.cells v.cells.toArray 33 (0,0)):=g1
 have len:qd x->x.held.length=1∨x.held.length=2:=fun m=>by
  rcases m.2.2.2.2.2.2.2 with⟨a,h,_⟩ | ⟨a,c,h,_⟩ <;> rw[h] <;> simp
 refine⟨Ext No (aa w2),(Ext.refl _ _).drew,If.dec (fun h=>no Tr fun m=>by have:=len m;omega) fun h1=>If.dec (fun h=>no Tr fun m=>by have:=len m;omega) fun h2=>If.beq (fun h3=>?_) fun h3=>?_⟩
 .obtain⟨a,c,Cz⟩:=JD (l:=x.held) (by omega);have ga:=rg a (by rw[Cz];simp);have gc:=rg c (by rw[Cz];simp);have hr:ei Q (aa w2).heap v.held [a,c]:=by rw[<- Cz];exact r.held.no xd
  have two:x.held.length=2:=by omega
  have Xl:qd x->c.gen=a.gen+1/\a.wr.length=32/\c.wr.length=32:=fun m=>by
   rcases m.2.2.2.2.2.2.2 with⟨a',h,_⟩ | ⟨a',c',h,h1,h2,h3⟩
   .rw[h]at two;cases two
   .rw[Cz]at h;cases h;exact⟨h3,h1,h2⟩
  refine⟨v.held,cq gd rfl,AZ hr (Int.le_refl _) (by omega) fun b1 o1 u hi hu hc=>⟨u.gen,ae.cell (hc 0 _ rfl),If.beq (fun h=>no Tr fun m=>?_) fun bC=>⟨v.held,cq gd rfl,AZ hr (by decide) (by omega) fun b2 o2 u2 qp VB zQ=>⟨u2.gen,ae.cell (zQ 0 _ rfl),v.held,cq gd rfl,AZ hr (Int.le_refl _) (by omega) fun b3 o3 u3 LU hu3 JG=>⟨u3.gen,ae.cell (JG 0 _ rfl),?_⟩⟩⟩⟩⟩
  .have:=Xl m;have e:=hu.gen;have e':([a,c][(0:Int).toNat]'hi)=a:=rfl;rw[e']at e;have:=gc.gen;omega
  .have e1:u.gen=a.gen:=hu.gen;have e2:u2.gen=c.gen:=VB.gen;have e3:u3.gen=a.gen:=hu3.gen;have:=ga.gen;refine Ar.u16 (by omega) (If.bne (fun h=>no Tr fun m=>?_) fun he=>⟨v.held,Cell.ai gd rfl,zU hr (by simp) fun t w4 ht x4=>k _ w4 ?_ (Tr.no x4)⟩)
   .have:=Xl m;omega
   .have Il:t=true ↔ ¬ (a.wr.length=32/\c.wr.length=32):=ht.trans ⟨fun⟨h,hh,hn⟩ hb=>by simp at hh;rcases hh with rfl | rfl;exact hn hb.1;exact hn hb.2,fun hb=>Classical.byContradiction fun hc=>hb ⟨Classical.byContradiction fun h1=>hc ⟨a,by simp,h1⟩,Classical.byContradiction fun h1=>hc ⟨c,by simp,h1⟩⟩⟩;constructor
    .intro h;have h0:a.wr.length=32/\c.wr.length=32:=Classical.byContradiction fun hb=>by rw[Il.2 hb]at h;cases h
     exact⟨hA.1,hA.2.1,hA.2.2.1,hA.2.2.2,hB.1,hB.2.1,hB.2.2,.inr ⟨a,c,Cz,h0.1,h0.2,by omega⟩⟩
    .intro m;have:=Xl m
     cases t with
     | false=>rfl
     | true=>exact(Il.1 rfl ⟨this.2.1,this.2.2⟩).elim
 .obtain⟨a,Cz⟩:=JE (l:=x.held) (by omega);have hr:ei Q (aa (aa w2)).heap v.held [a]:=by rw[<- Cz];exact r.held.no Tr
  refine⟨v.held,Cell.ai gd rfl,zU hr (by simp) fun t w4 ht x4=>k _ w4 ?_ (Tr.no x4)⟩;have Il:t=true ↔ a.wr.length≠32:=ht.trans ⟨fun⟨h,hh,hn⟩=>by simp at hh;rw[<- hh];exact hn,fun h=>⟨a,by simp,h⟩⟩;constructor
  .intro h;have h0:a.wr.length=32:=Classical.byContradiction fun hb=>by rw[Il.2 hb]at h;cases h
   exact⟨hA.1,hA.2.1,hA.2.2.1,hA.2.2.2,hB.1,hB.2.1,hB.2.2,.inl ⟨a,Cz,h0⟩⟩
  .intro m
   have h0:a.wr.length=32:=by
    rcases m.2.2.2.2.2.2.2 with⟨a',h,h1⟩ | ⟨a',c',h,_⟩
    .rw[Cz]at h;cases h;exact h1
    .rw[Cz]at h;cases h
   cases t with
   | false=>rfl
   | true=>exact(Il.1 rfl h0).elim
end
section
variable {w:Wd} {Q Q':Nat->Prop}
theorem Es{va vb:gz}{a c:cW}{K:Bool->Pw}(ra:gA Q w.heap va a)(rb:gA Q' w.heap vb c)(ha:qQ a)(hb:qQ c)(k:∀t w',(t=true ↔ a=c)->Ext No w w'->K t w'):qy va.gen va.cm va.wr vb.gen vb.cm vb.wr w K:=by
 apply Hi;refine ag.mk fun b w1 n1=>ag.mk fun b1 w2 n2=>?_
 have x2:=n1.ext.no n2.ext;have g1:w2.heap[b]? = some (.cells va.cells.toArray 76 (0,0)):=ad n1.get n2.ext;have g2:w2.heap[b1]? = some (.cells vb.cells.toArray 76 (0,0)):=n2.get;have e1:=ra.gen;have e2:=ra.cm;have f1:=rb.gen;have f2:=rb.cm;have no:∀{w'},Ext No w w'->¬ a=c->K false w':=fun e h=>k _ _ ⟨fun h=>(by cases h),fun h'=>(h h').elim⟩ e
 refine⟨_,Cell.ai g1 rfl,_,Cell.ai g2 rfl,If.beq (fun h1=>⟨_,Cell.ai g1 rfl,_,Cell.ai g2 rfl,If.beq (fun h2=>⟨_,Cell.ai g1 rfl,su.mk (ra.wr.rd.no x2) (fun _ _ _ h=>Cell.mk h) ⟨_,Cell.ai g2 rfl,su.mk (rb.wr.rd.no x2) (fun _ _ _ h=>Cell.mk h) ?_⟩⟩) fun h=>no x2 fun e=>h (by rw[e2,f2,e])⟩) fun h=>no x2 fun e=>h (by rw[e1,f1,e])⟩;rw[toList_mk,toList_mk,eqB ha.wr hb.wr];refine k _ _ ?_ x2;rw[decide_eq_true_iff];exact⟨fun h=>cW.ext (by omega) (by omega) h,fun h=>by rw[h]⟩
theorem Hv{α:Type}{l m:List α}{j:Nat}(hj:j < l.length)(hm:l.length=m.length)(h:l.take j=m.take j)(e:l[j]=m[j]'(by omega)):l.take (j+1)=m.take (j+1):=by
 rw[fX hj,fX (by omega),h,e]
set_option maxHeartbeats 1000000 in
theorem uT{va vb:bh}{a c:aA}{K:Bool->Pw}(ra:bV Q w.heap va a)(rb:bV Q' w.heap vb c)(ha:B8 a.mark)(hb:B8 c.mark)(hh:∀h∈a.held,qQ h)(hh':∀h∈c.held,qQ h)(hl:a.held.length<=1000000000000)
  (k:∀t w',(t=true ↔ a=c)->Ext No w w'->K t w'):eI va.ah va.aI va.mark va.root.p va.root.c va.root.g va.lev va.aw va.held vb.ah vb.aI vb.mark vb.root.p vb.root.c vb.root.g vb.lev vb.aw vb.held w K:=by
 apply Hj;refine ag.mk fun b w1 n1=>ag.mk fun b1 w2 n2=>?_
 have x2:=n1.ext.no n2.ext;have g1:w2.heap[b]? = some (.cells va.cells.toArray 33 (0,0)):=ad n1.get n2.ext;have g2:w2.heap[b1]? = some (.cells vb.cells.toArray 33 (0,0)):=n2.get;have no:∀{w'},Ext No w w'->¬ a=c->K false w':=fun e h=>k _ _ ⟨fun h=>(by cases h),fun h'=>(h h').elim⟩ e
 have e1:=ra.ah;have e2:=ra.aI;have e4:=ra.root;have e5:=ra.lev;have e6:=ra.aw;have f1:=rb.ah;have f2:=rb.aI;have f4:=rb.root;have f5:=rb.lev;have f6:=rb.aw;have l1:=ra.held.len;have l2:=rb.held.len;refine⟨fun w'=>w'=w2/\a.ah=c.ah/\a.aI=c.aI/\a.mark=c.mark/\a.root=c.root/\a.lev=c.lev/\a.aw=c.aw/\a.held.length=c.held.length,?_,?_⟩
 .refine⟨_,Cell.ai g1 rfl,_,Cell.ai g2 rfl,If.bne (fun h=>no x2 fun e=>h (by rw[e1,f1,e])) fun h1=>⟨_,Cell.ai g1 rfl,_,Cell.ai g2 rfl,If.bne (fun h=>no x2 fun e=>h (by rw[e2,f2,e])) fun h2=>⟨_,Cell.ai g1 rfl,su.mk (ra.mark.rd.no x2) (fun _ _ _ h=>Cell.mk h) ⟨_,Cell.ai g2 rfl,su.mk (rb.mark.rd.no x2) (fun _ _ _ h=>Cell.mk h) ?_⟩⟩⟩⟩;rw[toList_mk,toList_mk,eqB ha hb];refine If.not (If.dec (fun h3=>⟨_,Cell.ai g1 rfl,_,Cell.ai g1 rfl,_,Cell.ai g1 rfl,_,Cell.ai g1 rfl,_,Cell.ai g2 rfl,_,Cell.ai g2 rfl,_,Cell.ai g2 rfl,_,Cell.ai g2 rfl,If.not (If.cases (fun h4=>?_) fun h4=>?_)⟩) fun h=>no x2 fun e=>h (by rw[e]))
  .have hr:=Nq.1 h4;rw[e4,f4,e5,f5]at hr;exact⟨_,Cell.ai g1 rfl,_,Cell.ai g2 rfl,If.bne (fun h=>no x2 fun e=>h (by rw[e6,f6,e])) fun h6=>⟨_,Cell.ai g1 rfl,_,Cell.ai g2 rfl,If.bne (fun h=>no x2 fun e=>h (by rw[l1,l2,e])) fun h7=>⟨rfl,by omega,by omega,h3,hr.1,hr.2,by omega,by omega⟩⟩⟩
  .refine no x2 fun e=>?_
   rw[Nq.2 ⟨by rw[e4,f4,e],by rw[e5,f5,e]⟩]at h4;cases h4
 rintro _ w3 ⟨rfl,q1,q2,q3,q4,q5,q6,q7⟩;refine⟨fun q i w'=>∃j:Nat,i=j/\j<=a.held.length/\q=a.held.length - j/\a.held.take j=c.held.take j/\Ext No w3 w',⟨_,0,rfl,Nat.zero_le _,rfl,by simp,Ext.refl _ _⟩,?_⟩;rintro _ m0 _ w4 ⟨j,rfl,hj,rfl,ff,x4⟩;have kM:=ad g1 x4;have wB:=ad g2 x4;have gF:=x2.no x4;refine⟨va.held,Cell.ai kM rfl,If.dec (fun h=>?_) fun h=>?_⟩
 .refine⟨Ext No w4,(Ext.refl _ _).drew,va.held,cq kM rfl,AZ (ra.held.no gF) (by omega) h fun bb o v hi hr hc=>⟨v.gen,ae.cell (hc 0 _ rfl),v.cm,ae.cell (hc 1 _ rfl),v.wr,ae.cell (hc 2 _ rfl),vb.held,cq wB rfl,AZ (rb.held.no gF) (by omega) (by omega) fun b' o' u iv hu xX=>⟨u.gen,ae.cell (xX 0 _ rfl),u.cm,ae.cell (xX 1 _ rfl),u.wr,ae.cell (xX 2 _ rfl),?_⟩⟩⟩;have fh:j < a.held.length:=hi;have el:a.held[((j:Nat):Int).toNat]'hi=a.held[j]:=rfl;have em:c.held[((j:Nat):Int).toNat]'iv=c.held[j]'(by omega):=rfl;rw[el]at hr;rw[em]at hu
  refine Es (hr.no (Ext.refl _ _).drew) (hu.no (Ext.refl _ _).drew) (hh _ (List.getElem_mem fh)) (hh' _ (List.getElem_mem _)) fun t w5 ht x5=>⟨x5.aj,If.not (If.cases (fun h1=>Ar.i64 (by omega) ⟨_,by omega,j+1,by omega,by omega,rfl,Hv fh q7 ff (ht.1 h1),x4.no x5.aj⟩) fun h1=>no (gF.no x5.aj) fun e=>?_)⟩
  subst e;rw[ht.2 rfl]at h1;cases h1
 .have Fm:j=a.held.length:=by omega
  rw[Fm,List.take_length,q7,List.take_length]at ff;exact k _ w4 ⟨fun _=>aA.ext q1 q2 q3 q4 q5 q6 ff,fun _=>rfl⟩ gF
set_option maxHeartbeats 1000000 in
theorem tE{v:bh}{x:aA}{K:Bool->Pw}(r:bV Q w.heap v x)(rg:∀h∈x.held,qQ h)(hl:x.held.length<=1000000000000)(k:∀t w',(t=true ↔ qd x)->Ext No w w'->K t w'):lQ v.ah v.aI v.mark v.root.p v.root.c v.root.g v.lev v.aw v.held w K:=by
 apply Jq;refine ag.mk fun b w1 n1=>?_
 have g1:w1.heap[b]? = some (.cells v.cells.toArray 33 (0,0)):=n1.get;have x1:=n1.ext;have xd:Ext No w (aa w1):=x1.drew;have lm:=cZ.len r.mark.rd;have lh:=r.held.len;have et:=r.ah;have eq:=r.aI;have er:=r.root;have ev:=r.lev;have ec:=r.aw;have no:∀{w'},Ext No w w'->¬ qd x->K false w':=fun e h=>k _ _ ⟨fun h=>(by cases h),fun h'=>(h h').elim⟩ e
 have len:qd x->x.held.length=1∨x.held.length=2:=fun m=>by
  rcases m.2.2.2.2.2.2.2 with⟨a,h,_⟩ | ⟨a,c,h,_⟩ <;> rw[h] <;> simp
 have e1:(v.aw == 0)=decide (x.aw=0):=by rw[ec];rfl
 have e2:((((v.root.p == 0) && ((v.root.c == 0) && ((v.root.g == 0) && true))) && ((v.lev == 0) && true)))=decide (x.root = .z/\x.lev=0):=by rw[Bool.eq_iff_iff,Fl,er,ev,decide_eq_true_iff]
 refine⟨fun w'=>w'=aa w1/\(x.ah≠0/\1<=x.aI/\x.aI<=1000/\x.mark.length=16)/\(0<=x.aw/\x.aw<=x.aI/\(x.aw=0 ↔ x.root = .z/\x.lev=0))/\(x.held.length=1∨x.held.length=2),?_,?_⟩
 .refine⟨Ext No w1,(Ext.refl _ _).drew,v.ah,uS g1 rfl,If.beq (fun h=>no xd fun m=>m.1 (by omega)) fun h1=>⟨v.aI,cq g1 rfl,If.dec (fun h=>no xd fun m=>by have:=m.2.1;omega) fun h2=>⟨v.aI,cq g1 rfl,If.dec (fun h=>no xd fun m=>by have:=m.2.2.1;omega) fun h3=>⟨v.mark,cq g1 rfl,If.bne (fun h=>no xd fun m=>by have:=m.2.2.2.1;omega) fun h4=>⟨v.aw,cq g1 rfl,If.dec (fun h=>no xd fun m=>by have:=m.2.2.2.2.1;omega) fun h5=>⟨v.aw,cq g1 rfl,v.aI,cq g1 rfl,If.dec (fun h=>no xd fun m=>by have:=m.2.2.2.2.2.1;omega) fun h6=>⟨v.root.p,cq g1 rfl,v.root.c,Fk g1 rfl,v.root.g,Fk g1 rfl,v.lev,Fk g1 rfl,v.aw,cq g1 rfl,?_⟩⟩⟩⟩⟩⟩⟩;rw[e1,e2];refine If.not (If.cases (fun h=>?_) fun h=>no xd fun m=>?_)
  .have hc:(x.aw=0 ↔ x.root = .z/\x.lev=0):=by
    have:=beq_iff_eq.1 h;rw[Bool.eq_iff_iff,decide_eq_true_iff,decide_eq_true_iff]at this;exact this.symm
   exact⟨v.held,cq g1 rfl,If.dec (fun h=>no xd fun m=>by have:=len m;omega) fun h7=>⟨v.held,cq g1 rfl,If.dec (fun h=>no xd fun m=>by have:=len m;omega) fun h8=>⟨rfl,⟨by omega,by omega,by omega,by omega⟩,⟨by omega,by omega,hc⟩,by omega⟩⟩⟩
  .have hc:=m.2.2.2.2.2.2.1;rw[show decide (x.aw=0)=decide (x.root = .z/\x.lev=0) from decide_eq_decide.2 hc]at h;simp at h
 rintro _ w2 ⟨rfl,hA,hB,hlen⟩;refine⟨fun q i w'=>∃j:Nat,i=j/\j<=x.held.length/\q=x.held.length - j/\(∀h∈x.held.take j,h.wr.length=32)/\w'=aa w1,⟨_,0,rfl,Nat.zero_le _,rfl,by simp,rfl⟩,?_⟩;rintro _ m0 _ w3 ⟨j,rfl,hj,rfl,ff,rfl⟩;have gd:(aa w1).heap[b]? = some (.cells v.cells.toArray 33 (0,0)):=g1;refine⟨v.held,Cell.ai gd rfl,If.dec (fun h=>⟨v.held,Cell.ai gd rfl,AZ (r.held.no xd) (by omega) h fun bb o u hi hr hc=>⟨u.wr,hc 2 _ rfl,?_⟩⟩) fun h=>?_⟩
 .have fh:j < x.held.length:=hi;have el:x.held[((j:Nat):Int).toNat]'hi=x.held[j]:=rfl;rw[el]at hr;have hlw:=cZ.len hr.wr.rd;refine If.bne (fun h=>no xd fun m=>?_) fun he=>Ar.i64 (by omega) ⟨_,by omega,j+1,by omega,by omega,rfl,fun h hh=>?_,rfl⟩
  .have dI:x.held[j]∈x.held:=List.getElem_mem fh
   have h32:x.held[j].wr.length=32:=by
    generalize x.held[j]=h0 at dI ⊢;rcases m.2.2.2.2.2.2.2 with⟨a,h,h1⟩ | ⟨a,c,h,h1,h2,_⟩ <;> rw[h]at dI <;> simp at dI
    .rw[dI];exact h1
    .rcases dI with e | e <;> rw[e] <;> assumption
   omega
  .rw[fX fh]at hh;rcases List.mem_append.1 hh with h1 | h1
   .exact ff h h1
   .rw[List.mem_singleton]at h1;rw[h1];omega
 .have Fm:j=x.held.length:=by omega
  rw[Fm,List.take_length]at ff;have Tr:Ext No w (aa (aa w1)):=xd.drew;refine⟨Ext No (aa w1),(Ext.refl _ _).drew,v.held,cq gd rfl,If.beq (fun h1=>?_) fun h1=>?_⟩
  .obtain⟨a,Cz⟩:=JE (l:=x.held) (by omega);exact k _ _ ⟨fun _=>⟨hA.1,hA.2.1,hA.2.2.1,hA.2.2.2,hB.1,hB.2.1,hB.2.2,.inl ⟨a,Cz,ff a (by rw[Cz];simp)⟩⟩,fun _=>rfl⟩ Tr
  .obtain⟨a,c,Cz⟩:=JD (l:=x.held) (by omega);have hr:ei Q (aa w1).heap v.held [a,c]:=by rw[<- Cz];exact r.held.no xd
   have ga:=(rg a (by rw[Cz];simp)).gen;have gc:=(rg c (by rw[Cz];simp)).gen;have two:x.held.length=2:=by omega
   refine⟨v.held,cq gd rfl,AZ hr (by decide) (by omega) fun b2 o2 u2 qp VB zQ=>⟨u2.gen,ae.cell (zQ 0 _ rfl),?_⟩⟩;have e2':u2.gen=c.gen:=VB.gen;refine Ar.i64 (by omega) ⟨v.held,cq gd rfl,AZ hr (Int.le_refl _) (by omega) fun b3 o3 u3 LU hu3 JG=>⟨u3.gen,ae.cell (JG 0 _ rfl),?_⟩⟩;have e3':u3.gen=a.gen:=hu3.gen;refine Ar.i64 (by omega) (Ar.i64 (by omega) (k _ _ ?_ Tr));rw[beq_iff_eq];constructor
   .intro h;exact⟨hA.1,hA.2.1,hA.2.2.1,hA.2.2.2,hB.1,hB.2.1,hB.2.2,.inr ⟨a,c,Cz,ff a (by rw[Cz];simp),ff c (by rw[Cz];simp),by omega⟩⟩
   .intro m;rcases m.2.2.2.2.2.2.2 with⟨a',h,_⟩ | ⟨a',c',h,h2,h3,h4⟩
    .rw[h]at two;cases two
    .rw[Cz]at h;cases h;omega
end
end Go.Proofs.YtpjbalhhlaofmaaGreat
namespace Go.V
variable {α:Type} [DecidableEq α]
def mN(a:α):List (α×Value)->Nat->Option (Nat×Value)
 | [],_=>none
 | p::m,i=>if a=p.1 then some (i,p.2) else mN a m (i+1)
def JH(a:α):List (α×Value)->Option Value
 | []=>none
 | p::m=>if a=p.1 then some p.2 else JH a m
def CA(a:α)(v:Value):List (α×Value)->List (α×Value)
 | []=>[(a,v)]
 | p::m=>if a=p.1 then(a,v)::m else p::CA a v m
def CB(a:α):List (α×Value)->List (α×Value)
 | []=>[]
 | p::m=>if a=p.1 then m else p::CB a m
structure zV(P:Program)(kt:TypeId)(enc:α->Value):Prop where
 ck:∀b a w,(Instr.checkKey b 10000 kt (enc a)).run P w = .ok () w
 fk:∀a (es:List MapEntry) (m:List (α×Value)) w,es.map (fun e=>(e.key,e.val))=m.map (fun p=>(enc p.1,p.2))->(Instr.findKey kt (enc a) es).run P w = .ok (mN a m 0) w
 st:∀a,Instr.sameBits 10000 (enc a) (enc a)=true
def gL(es:List MapEntry)(clock:Nat):Prop:=(es.map (·.born)).Nodup/\∀e∈es,e.born < clock
theorem gL.nil:gL [] 0:=⟨.nil,fun _ h=>nomatch h⟩
theorem gL.push{es:List MapEntry}{clock:Nat}(h:gL es clock)(k v:Value):gL (es++[{ key:=k,val:=v,born:=clock }]) (clock+1):=by
 refine⟨?_,fun e he=>?_⟩
 .rw[List.map_append];refine List.nodup_append.2 ⟨h.1,by simp,fun a ha b hb=>?_⟩;simp only[List.map_cons,List.map_nil,List.mem_singleton]at hb;obtain⟨e,he,rfl⟩:=List.mem_map.1 ha;have:=h.2 e he;omega
 .rcases List.mem_append.1 he with h1 | h1
  .have:=h.2 e h1;omega
  .rw[List.mem_singleton]at h1;subst h1;exact Nat.lt_succ_self _
theorem gL.as{es Iq:List MapEntry}{clock:Nat}(h:gL es clock)(e:Iq.map (·.born)=es.map (·.born)):gL Iq clock:=by
 refine⟨e ▸ h.1,fun x hx=>?_⟩;have:x.born∈es.map (·.born):=e ▸ List.mem_map.2 ⟨x,hx,rfl⟩;obtain⟨y,hy,hb⟩:=List.mem_map.1 this;rw[<- hb];exact h.2 y hy
theorem gL.sub{es Iq:List MapEntry}{clock:Nat}(h:gL es clock)(e:Iq.Sublist es):gL Iq clock:=⟨h.1.sublist (e.map _),fun x hx=>h.2 x (e.subset hx)⟩
def tF(h:Array Obj)(enc:α->Value)(r:Nat)(m:List (α×Value)):Prop:=∃es clock,h[r]? = some (.map es clock)/\es.toList.map (fun e=>(e.key,e.val))=m.map (fun p=>(enc p.1,p.2))/\gL es.toList clock
theorem Fo(a:α):∀(m:List (α×Value))(i:Nat),(mN a m i).map Prod.snd=JH a m
 | [],_=>rfl
 | p::m,i=>by
  unfold mN JH;split
  .rfl
  .exact Fo a m (i+1)
theorem qR{a:α}{v:Value}:∀{m:List (α×Value)}{i:Nat},mN a m i=none->CA a v m=m++[(a,v)]/\CB a m=m
 | [],_,_=>⟨rfl,rfl⟩
 | p::m,i,h=>by
  unfold mN at h;split at h
  .cases h
  .rename_i hn;have:=qR (v:=v) h;unfold CA CB;rw[if_neg hn,if_neg hn,this.1,this.2];exact⟨rfl,rfl⟩
theorem qS{a:α}:∀{m:List (α×Value)}{i j:Nat}{u v:Value},mN a m i=some (j,u)->i<=j/\j - i < m.length/\CA a v m=m.set (j - i) (a,v)/\CB a m=m.eraseIdx (j - i)/\(m[j - i]?).map Prod.fst=some a
 | [],_,_,_,_,h=>by cases h
 | p::m,i,j,u,v,h=>by
  unfold mN at h;split at h
  .rename_i hn
   cases h
   refine⟨Nat.le_refl _,by simp,?_,?_,?_⟩
   .unfold CA;rw[if_pos hn];simp
   .unfold CB;rw[if_pos hn];simp
   .simp[hn]
  .rename_i hn;obtain⟨h1,h2,h3,h4,h5⟩:=qS (v:=v) h;have e:j - i=(j - (i+1))+1:=by omega
   refine⟨by omega,by simp;omega,?_,?_,?_⟩
   .unfold CA;rw[if_neg hn,h3,e];rfl
   .unfold CB;rw[if_neg hn,h4,e];rfl
   .rw[e];simpa using h5
theorem iO{β γ:Type}(f:β->γ):∀(l:List β)(i:Nat),(l.eraseIdx i).map f=(l.map f).eraseIdx i
 | [],_=>rfl
 | _::_,0=>rfl
 | x::l,i+1=>by simp[iO f l i]
section
variable {P:Program} {w:Wd} {mt kt et:TypeId} {enc:α->Value} {r:Nat} {m:List (α×Value)} {a:α}
theorem ej{es:Array MapEntry}{clock:Nat}(h:w.heap[r]? = some (.map es clock)):(getObj r).run P w = .ok (.map es clock) w:=by
 simp[getObj,Sem.run,h]
theorem lu{es:Array MapEntry}{clock:Nat}(o:Obj)(h:w.heap[r]? = some (.map es clock)):(setObj r o).run P w = .ok () (World.cQ w r o):=by
 simp[setObj,Sem.run,h,World.cQ]
theorem CC(K:zV P kt enc)(ht:P.underlying mt=some (.map kt et)){z:Value}(hz:(zeroValue et).run P w = .ok z w)(h:tF w.heap enc r m):(Instr.lookup mt (.map (some r)) (enc a) false).run P w = .ok ((JH a m).getD z) w:=by
 obtain⟨es,clock,hb,he,hB⟩:=h;have hf:=K.fk a es.toList m w he;have hg:=Fo a m 0;simp only[Instr.lookup,Sem.run_bind,aD ht,Result.andThen_ok,ej hb,K.ck,hf,Sem.run_pure]
 cases JI:mN a m 0 with
 | none=>rw[JI]at hg;simp[<- hg,hz]
 | some p=>rw[JI]at hg;simp[<- hg]
theorem uU(K:zV P kt enc)(ht:P.underlying mt=some (.map kt et)){v:Value}(h:tF w.heap enc r m):∃w',(Instr.mapUpdate mt (.map (some r)) (enc a) v).run P w = .ok () w'/\tF w'.heap enc r (CA a v m)/\Ext (·=r) w w'/\w'.heap.size=w.heap.size:=by
 obtain⟨es,clock,hb,he,hB⟩:=h;have hf:=K.fk a es.toList m w he
 cases JI:mN a m 0 with
 | none=>
  refine⟨World.cQ w r (.map (es.push { key:=enc a,val:=v,born:=clock }) (clock+1)),?_,⟨_,_,dy hb,?_,by rw[Array.toList_push];exact hB.push _ _⟩,gI.ext rfl,gI.size rfl⟩
  .rw[JI]at hf;simp[Instr.mapUpdate,aD ht,ej hb,K.ck,hf,lu _ hb]
  .rw[(qR (v:=v) JI).1];simp[he]
 | some p=>
  obtain⟨j,u⟩:=p;obtain⟨_,h2,h3,_,h5⟩:=qS (v:=v) JI;simp only[Nat.sub_zero]at h2 h3 h5;have hl:es.size=m.length:=by have:=congrArg List.length he;simpa using this
  have hk:((es[j]?).map (·.key)).getD (enc a)=enc a:=by
   have:=congrArg (fun l=>(l[j]?).map Prod.fst) he;simp only[List.getElem?_map,Option.map_map]at this
   have e2:Option.map (fun x=>enc x.1) m[j]? = some (enc a):=by
    cases hm:m[j]? with
    | none=>rw[hm]at h5;cases h5
    | some q=>rw[hm]at h5;simp only[Option.map_some,Option.some.injEq]at h5 ⊢;rw[h5]
   have e3:Option.map (·.key) es[j]? = some (enc a):=by
    rw[<- e2];simpa[Function.comp_def] using this
   rw[e3];rfl
  refine⟨World.cQ w r (.map (es.modify j fun e=>{ e with key:=enc a,val:=v }) clock),?_,⟨_,_,dy hb,?_,hB.as ?_⟩,gI.ext rfl,gI.size rfl⟩
  .rw[JI]at hf;simp[Instr.mapUpdate,aD ht,ej hb,K.ck,hf,lu _ hb,hk,Instr.keyThatStays,K.st]
  .rw[h3,Array.toList_modify];apply List.ext_getElem?;intro i;have hi:=congrArg (fun l=>l[i]?) he;simp only[List.getElem?_map,List.getElem?_modify,List.getElem?_set]at hi ⊢;by_cases A_:j=i
   .subst A_;rw[if_pos rfl,if_pos h2,List.getElem?_eq_getElem (by simpa[hl] using h2)];simp
   .rw[if_neg A_];simpa[A_] using hi
  .rw[Array.toList_modify];apply List.ext_getElem?;intro i;simp only[List.getElem?_map,List.getElem?_modify];by_cases A_:j=i
   .subst A_;cases es.toList[j]? <;> simp
   .simp[A_]
theorem LV(K:zV P kt enc)(ht:P.underlying mt=some (.map kt et)){t:TypeId}(h:tF w.heap enc r m):∃w',(Builtin.delete_ #[mt,kt] t #[.map (some r),enc a]).run P w = .ok (.tuple #[]) w'/\tF w'.heap enc r (CB a m)/\Ext (·=r) w w'/\w'.heap.size=w.heap.size:=by
 obtain⟨es,clock,hb,he,hB⟩:=h;have hf:=K.fk a es.toList m w he
 cases JI:mN a m 0 with
 | none=>
  refine⟨World.cQ w r (.map es clock),?_,⟨_,_,dy hb,?_,hB⟩,gI.ext rfl,gI.size rfl⟩
  .rw[JI]at hf;simp[Builtin.delete_,aD ht,ej hb,K.ck,hf,lu _ hb]
  .rw[(qR (v:= .nilFunc) JI).2];exact he
 | some p=>
  obtain⟨j,u⟩:=p;obtain⟨_,h2,_,h4,_⟩:=qS (v:= .nilFunc) JI;simp only[Nat.sub_zero]at h2 h4;refine⟨World.cQ w r (.map (es.eraseIdxIfInBounds j) clock),?_,⟨_,_,dy hb,?_,hB.sub (by rw[Array.toList_eraseIdxIfInBounds];exact List.eraseIdx_sublist _ _)⟩,gI.ext rfl,gI.size rfl⟩
  .rw[JI]at hf;simp[Builtin.delete_,aD ht,ej hb,K.ck,hf,lu _ hb]
  .rw[h4,Array.toList_eraseIdxIfInBounds,iO,he,iO]
omit [DecidableEq α] in
theorem tF.ext{S:Nat->Prop}{w':Wd}(h:tF w.heap enc r m)(x:Ext S w w')(hS:¬ S r):tF w'.heap enc r m:=by
 obtain⟨es,clock,hb,he,hB⟩:=h;exact⟨es,clock,by rw[x.aq r (by rcases Nat.lt_or_ge r w.heap.size with k | k;exact k;rw[Array.getElem?_eq_none k]at hb;cases hb) hS];exact hb,he,hB⟩
theorem Uk{k:IntKind}(hk:P.underlying kt=some (.int k)):zV P kt (fun a:Int=>Value.int k a):=by
 refine⟨fun b a w=>?_,fun a es m w he=>?_,fun a=>by simp[Instr.sameBits]⟩
 .rw[show(10000:Nat)=9999+1 from rfl,Instr.checkKey];simp only[Sem.run_bind,aD hk,Result.andThen_ok];rfl
 .have:∀(es:List MapEntry)(m:List (Int×Value))(i:Nat),es.map (fun e=>(e.key,e.val))=m.map (fun p=>(Value.int k p.1,p.2))->Instr.findNow (.int k) (.int k a) es i=some (mN a m i):=by
   intro es
   induction es with
   | nil=>intro m i h;cases m with | nil=>rfl | cons=>cases h
   | cons e es ih=>
    intro m i h
    cases m with
    | nil=>cases h
    | cons p m=>
     simp only[List.map_cons,List.cons.injEq,Prod.mk.injEq]at h;unfold Instr.findNow mN;rw[h.1.1];simp only[Instr.sameNow,if_true];by_cases Qg:a=p.1
     .simp[Qg,h.1.2]
     .rw[show(a == p.1)=false by simp[Qg],if_neg Qg];exact ih m (i+1) h.2
  simp[Instr.findKey,aD hk,this es m 0 he]
theorem Q6(a b:ByteArray):(a == b)=decide (a=b):=by
 obtain⟨a⟩:=a;obtain⟨b⟩:=b;show(a == b)=_;by_cases h:a=b
 .subst h;simp
 .rw[decide_eq_false (by simpa using h)];simpa using h
theorem Ul(hk:P.underlying kt=some .string):zV P kt (fun a:ByteArray=>Value.string a):=by
 refine⟨fun b a w=>?_,fun a es m w he=>?_,fun a=>by simp[Instr.sameBits,Q6]⟩
 .rw[show(10000:Nat)=9999+1 from rfl,Instr.checkKey];simp only[Sem.run_bind,aD hk,Result.andThen_ok];rfl
 .have:∀(es:List MapEntry)(m:List (ByteArray×Value))(i:Nat),es.map (fun e=>(e.key,e.val))=m.map (fun p=>(Value.string p.1,p.2))->Instr.findNow .string (.string a) es i=some (mN a m i):=by
   intro es
   induction es with
   | nil=>intro m i h;cases m with | nil=>rfl | cons=>cases h
   | cons e es ih=>
    intro m i h
    cases m with
    | nil=>cases h
    | cons p m=>
     simp only[List.map_cons,List.cons.injEq,Prod.mk.injEq]at h;unfold Instr.findNow mN;rw[h.1.1];simp only[Instr.sameNow,Q6];by_cases Qg:a=p.1
     .simp[Qg,h.1.2]
     .simp only[Qg,decide_false,if_false];exact ih m (i+1) h.2
  simp[Instr.findKey,aD hk,this es m 0 he]
end
section
variable {P:Program} {w:Wd} {mt kt et:TypeId} {r it clock:Nat} {es:Array MapEntry} {seen:Array Nat}
theorem yU(ht:P.underlying mt=some (.map kt et))(h:w.heap[r]? = some (.map es clock)):∃w',(Instr.range mt (.map (some r))).run P w = .ok (.pointer (some ⟨w.heap.size,0,none⟩)) w'/\D_ w (.mapIter (some r) clock #[] clock) w.heap.size w':=by
 refine⟨_,?_,rfl,rfl⟩;simp[Instr.range,aD ht,ej h,newObj,Sem.run];rfl
theorem JJ{n:Nat}(h:1<=n):∃i w',(choose (.mapNext n)).run P w = .ok i w'/\i < n/\w'.heap=w.heap/\Ext No w w':=by
 rcases Nat.lt_or_ge 1 n with h1 | h1
 .refine⟨w.tape w.drawn (.mapNext n) % n,aa w,?_,Nat.mod_lt _ (by omega),rfl,(Ext.refl _ _).drew⟩;simp[choose,Sem.run,Question.forced,Question.cut,aa,show ¬ n<=1 by omega]
 .refine⟨0,w,?_,by omega,rfl,Ext.refl _ _⟩;simp[choose,Sem.run,Question.forced,h1]
theorem CD(hi:w.heap[it]? = some (.mapIter (some r) clock seen clock))(h:w.heap[r]? = some (.map es clock))(hB:gL es.toList clock) :
  ((∀e∈es.toList,e.born∈seen.toList)/\∃w',(Instr.next (.pointer (some ⟨it,0,none⟩)) false 0).run P w = .ok (.tuple #[.bool false]) w'/\Ext No w w')∨
  ∃e∈es.toList,e.born ∉ seen.toList/\∃w',(Instr.next (.pointer (some ⟨it,0,none⟩)) false 0).run P w = .ok (.tuple #[.bool true,e.key,e.val]) w'/\w'.heap[it]? = some (.mapIter (some r) clock (seen.push e.born) clock)/\Ext (·=it) w w':=by
 have VK:(!seen.isEmpty && !es.isEmpty && es.all (fun e=>decide (e.born≥clock)))=false:=by
  cases he:es.isEmpty with
  | true=>simp
  | false=>
   have bC:es.size≠0:=by simpa using he
   have:es.all (fun e=>decide (e.born≥clock))=false:=by
    rw[Array.all_eq_false];refine⟨0,by omega,?_⟩;have:=hB.2 es[0] (by simp);simp;omega
   simp[this]
 have hgi:(getObj it).run P w = .ok (.mapIter (some r) clock seen clock) w:=by simp[getObj,Sem.run,hi]
 have hold:∀e∈(es.filter fun e=>!seen.contains e.born),decide (e.born < clock)=true:=fun e he=>by
  have:=(Array.mem_filter.1 he).1;have:=hB.2 e (by simpa using this);simpa using this
 have h1:(es.filter fun e=>!seen.contains e.born).filter (fun e=>decide (e.born < clock))=es.filter fun e=>!seen.contains e.born:=Array.filter_eq_self.2 hold
 have h2:(es.filter fun e=>!seen.contains e.born).filter (fun e=>decide (e.born≥clock))=#[]:=Array.filter_eq_empty_iff.2 fun e he=>by
  have:=hold e he;simp at this ⊢;omega
 generalize Nr:(es.filter fun e=>!seen.contains e.born)=left at *;rcases Nat.eq_zero_or_pos left.size with h0 | h0
 .refine .inl ⟨fun e he=>?_,?_⟩
  .have hm:e ∉ left:=by rw[Array.eq_empty_of_size_eq_zero h0];simp
   rw[<- Nr,Array.mem_filter]at hm;simp only[Array.mem_toList_iff]at he ⊢;simpa[he] using hm
  .obtain⟨i,w',hc,cL,_,hx⟩:=JJ (P:=P) (w:=w) (n:=1) (Nat.le_refl _);have hi0:i=0:=by omega
   subst hi0;have he0:left=#[]:=Array.eq_empty_of_size_eq_zero h0;refine⟨w',?_,hx⟩;simp only[Instr.next,Sem.run_bind,Result.andThen_ok,hgi,ej h,VK,Bool.false_eq_true,if_false,Nr,h1,h2];subst he0;simp[hc,-run_choose]
 .obtain⟨i,w',hc,cL,hh,hx⟩:=JJ (P:=P) (w:=w) (n:=left.size) h0;have bC:left.isEmpty=false:=by simpa using(fun h=>by rw[h]at h0;simp at h0:¬ left=#[])
  have dI:left[i]∈es.filter fun e=>!seen.contains e.born:=by rw[Nr];exact Array.getElem_mem cL
  have hm:=Array.mem_filter.1 dI;refine .inr ⟨left[i],by simpa using hm.1,by simpa using hm.2,World.cQ w' it (.mapIter (some r) clock (seen.push left[i].born) clock),?_,?_,?_⟩
  .have yQ:∀o,(setObj it o).run P w' = .ok () (World.cQ w' it o):=fun o=>by simp[setObj,Sem.run,World.cQ,hh,hi]
   simp only[Instr.next,Sem.run_bind,Result.andThen_ok,hgi,ej h,VK,Bool.false_eq_true,if_false,Nr,h1,h2];simp[bC,hc,yQ,cL,-run_choose]
  .exact dy (by rw[hh];exact hi)
  .exact hx.aG.trans (gI.ext rfl) fun _ _ h=>h
theorem yV{e:MapEntry}(hi:w.heap[it]? = some (.mapIter (some r) clock (seen.push e.born) clock))(h:w.heap[r]? = some (.map es clock))(hB:gL es.toList clock)(he:e∈es.toList):(Instr.entry (.pointer (some ⟨it,0,none⟩))).run P w = .ok (.tuple #[e.key,e.val]) w:=by
 have hgi:(getObj it).run P w = .ok (.mapIter (some r) clock (seen.push e.born) clock) w:=by simp[getObj,Sem.run,hi]
 have hf:es.find? (fun x=>x.born == e.born)=some e:=by
  rw[<- Array.find?_toList];have hn:=hB.1
  revert he hn
  generalize es.toList=l;intro he hn
  induction l with
  | nil=>cases he
  | cons x l ih=>
   simp only[List.map_cons,List.nodup_cons]at hn;rcases List.mem_cons.1 he with h' | h'
   .subst h';simp
   .have:x.born≠e.born:=fun h2=>hn.1 (h2 ▸ List.mem_map.2 ⟨e,h',rfl⟩)
    rw[List.find?_cons_of_neg (by simpa using this)];exact ih h' hn.2
 simp[Instr.entry,hgi,ej h,hf]
end
end Go.V
namespace Go.Proofs.YtpjbalhhlaofmaaGreat
open Go.V
abbrev A1(b:Nat):Addr:=⟨b,0,none⟩
structure eU(h:Array Obj)(n0:Nat)(b:Sl)(P:List Int)(kind lev:Int)(ls:Sl)(place fault:Int):Prop where
 c1:h[n0]? = some (.cells [.slice b.a b.len b.cap].toArray 23 (0,0))
 c2:h[n0+1]? = some (.cells [.int .u8 kind,.int .u8 lev,.slice ls.a ls.len ls.cap].toArray 142 (0,0))
 c3:h[n0+2]? = some (.cells [.int .i64 place].toArray 3 (0,0))
 c4:h[n0+3]? = some (.cells [.int .i64 fault].toArray 3 (0,0))
 c5:h[n0+4]? = some (.cells [.func (.func 125) #[] #[.pointer (some (A1 (n0+3)))]].toArray 215 (0,0))
 c6:h[n0+5]? = some (.cells [.func (.func 126) #[] #[.pointer (some (A1 (n0+3))),.pointer (some (A1 (n0+2))),.pointer (some (A1 (n0+4))),.pointer (some (A1 n0))]].toArray 217 (0,0))
 c7:h[n0+6]? = some (.cells [.func (.func 129) #[] #[]].toArray 216 (0,0))
 rd:cZ h b P
 low:∀i,b.aq=some i->P≠[]->i < n0
 p8:B8 P
 len:P.length=224
section
variable {w:Wd} {n0:Nat} {b:Sl} {P:List Int} {kind lev:Int} {ls:Sl} {place fault:Int}
theorem eU.ext{S:Nat->Prop}{w':Wd}(d:eU w.heap n0 b P kind lev ls place fault)(x:Ext S w w')(hS:∀i,i < n0+7->¬ S i):eU w'.heap n0 b P kind lev ls place fault:=
 ⟨af d.c1 x (hS _ (by omega)),af d.c2 x (hS _ (by omega)),af d.c3 x (hS _ (by omega)),af d.c4 x (hS _ (by omega)),af d.c5 x (hS _ (by omega)),af d.c6 x (hS _ (by omega)),af d.c7 x (hS _ (by omega)),
  d.rd.ext x (fun a i ha hi=>hS i (by have:=d.low i (by simp[Sl.aq,ha,hi]) (by intro h;have:=d.len;rw[h]at this;simp at this);omega)),d.low,d.p8,d.len⟩
theorem eU.no{w':Wd}(d:eU w.heap n0 b P kind lev ls place fault)(x:Ext No w w'):eU w'.heap n0 b P kind lev ls place fault:=d.ext x fun _ _ h=>h
theorem eU.JK{w':Wd}{p:Int}(d:eU w.heap n0 b P kind lev ls place fault)(h:gI w (n0+2) (.cells [.int .i64 p].toArray 3 (0,0)) w'):eU w'.heap n0 b P kind lev ls p fault:=by
 have o:∀{i:Nat}{o:Obj},i≠n0+2->w.heap[i]? = some o->w'.heap[i]? = some o:=fun hi ho=>by rw[h.other hi];exact ho
 exact⟨o (by omega) d.c1,o (by omega) d.c2,h.get d.c3,o (by omega) d.c4,o (by omega) d.c5,o (by omega) d.c6,o (by omega) d.c7,
  d.rd.ext h.ext (fun a i ha hi=>by have:=d.low i (by simp[Sl.aq,ha,hi]) (by intro h;have:=d.len;rw[h]at this;simp at this);omega),d.low,d.p8,d.len⟩
theorem eU.Q7{w':Wd}{p:Int}(d:eU w.heap n0 b P kind lev ls place fault)(h:gI w (n0+3) (.cells [.int .i64 p].toArray 3 (0,0)) w'):eU w'.heap n0 b P kind lev ls place p:=by
 have o:∀{i:Nat}{o:Obj},i≠n0+3->w.heap[i]? = some o->w'.heap[i]? = some o:=fun hi ho=>by rw[h.other hi];exact ho
 exact⟨o (by omega) d.c1,o (by omega) d.c2,o (by omega) d.c3,h.get d.c4,o (by omega) d.c5,o (by omega) d.c6,o (by omega) d.c7,
  d.rd.ext h.ext (fun a i ha hi=>by have:=d.low i (by simp[Sl.aq,ha,hi]) (by intro h;have:=d.len;rw[h]at this;simp at this);omega),d.low,d.p8,d.len⟩
theorem eU.setNode{w':Wd}{VL Q4:Int}{Zx:Sl}(d:eU w.heap n0 b P kind lev ls place fault)(h:gI w (n0+1) (.cells [.int .u8 VL,.int .u8 Q4,.slice Zx.a Zx.len Zx.cap].toArray 142 (0,0)) w'):eU w'.heap n0 b P VL Q4 Zx place fault:=by
 have o:∀{i:Nat}{o:Obj},i≠n0+1->w.heap[i]? = some o->w'.heap[i]? = some o:=fun hi ho=>by rw[h.other hi];exact ho
 exact⟨o (by omega) d.c1,h.get d.c2,o (by omega) d.c3,o (by omega) d.c4,o (by omega) d.c5,o (by omega) d.c6,o (by omega) d.c7,
  d.rd.ext h.ext (fun a i ha hi=>by have:=d.low i (by simp[Sl.aq,ha,hi]) (by intro h;have:=d.len;rw[h]at this;simp at this);omega),d.low,d.p8,d.len⟩
theorem Et{s:Sl}{P pre x suf:List Int}{lo hi:Int}{K:Sl->Prop}(r:cZ w.heap s P)(hP:P=pre++(x++suf))(h1:lo=pre.length)(h2:hi=pre.length+x.length)(k:∀s',cZ w.heap s' x->K s'):Cut s lo hi (((s.cap:Nat):Int)) 1 K:=by
 have hl:=cZ.len r;have hc:=Rd.cap r;have Tt:P.length=pre.length+(x.length+suf.length):=by rw[hP];simp
 subst h1 h2;refine Cut.mk (by omega) (by omega) (by omega) (Int.le_refl _) (k _ ?_);have:=Rd.cut r (lo:=pre.length) (hi:=pre.length+x.length) (mx:=s.cap) (by omega) (by omega) (by omega);rw[Nat.mul_one,Nat.mul_one,show pre.length+x.length - pre.length=x.length by omega]at this
 have e:(List.take x.length (List.drop pre.length (P.map (Value.int .u8))))=x.map (Value.int .u8):=by
  rw[hP,<- List.map_drop,<- List.map_take,List.drop_left,List.take_left]
 rw[e]at this;have e2:((pre.length:Int)+(x.length:Int) - (pre.length:Int)).toNat=x.length:=by omega
 have e3:((s.cap:Int) - (pre.length:Int)).toNat=s.cap - pre.length:=by omega
 rw[e2,e3];exact this
theorem LW{p:Int}{K:Pw}(d:eU w.heap n0 b P kind lev ls place fault)(hf:fault < 0)(k:∀w',gI w (n0+3) (.cells [.int .i64 p].toArray 3 (0,0)) w'->K w'):mA p (A1 (n0+3)) w K:=by
 apply AK;exact⟨_,Cell.ai d.c4 rfl,If.dec (fun _=>aF.mk d.c4 (by simp) rfl fun w' h=>k w' h) (fun h=>(h hf).elim)⟩
abbrev Q8(n0:Nat):Value:= .func (.func 126) #[] #[.pointer (some (A1 (n0+3))),.pointer (some (A1 (n0+2))),.pointer (some (A1 (n0+4))),.pointer (some (A1 n0))]
theorem jV{may:Value}{size:Int}{pre x suf:List Int}{K:Int->Pw}{rd:Bool}(d:eU w.heap n0 b P kind lev ls pre.length (-1))(hP:P=pre++(x++suf))(hx:(x.length:Int)=size)(h1:1<=size)(h8:size<=8)
  (hm:∀K':Bool->Pw,K' true w->aC pz true may [.int .u64 (num x)] [.one (.bool)] K' cf w)
  (k:∀w',eU w'.heap n0 b P kind lev ls (pre.length+size) (-1)->Ext (·=n0+2) w w'->w'.heap.size=w.heap.size->K (num x) w'):aC pz rd (Q8 n0) [.int .i64 size,may] [.one (.int .u64)] K cf w:=by
 refine mE (c0:=A1 (n0+3)) (c1:=A1 (n0+2)) (c2:=A1 (n0+4)) (c3:=A1 n0) (mD ?_);have Tt:pre.length+(x.length+suf.length)=224:=by rw[<- d.len,hP];simp
 have hx8:B8 x:=d.p8.sub fun y hy=>by rw[hP];simp[hy]
 refine⟨_,Cell.ai d.c4 rfl,If.dec (fun h=>by omega) fun _=>⟨_,Cell.ai d.c3 rfl,Ar.i64 (by omega) (If.dec (fun h=>by omega) fun _=>⟨_,Cell.ai d.c1 rfl,_,Cell.ai d.c3 rfl,_,Cell.ai d.c3 rfl,Ar.i64 (by omega) ?_⟩)⟩⟩;refine Et d.rd hP rfl (by omega) fun s' r'=>nU r' hx8 (by omega) (by omega) (hm _ (If.no ⟨_,Cell.ai d.c3 rfl,Ar.i64 (by omega) (aF.mk d.c3 (by simp) rfl fun w' h=>?_)⟩))
 exact k w' (d.JK h) h.ext h.size
theorem Ns{may:Value}{pre x suf:List Int}{K:Sl->Pw}{rd:Bool}(d:eU w.heap n0 b P kind lev ls pre.length (-1))(hP:P=pre++(((x.length:Int))::x++suf))(hn:n0+7<=w.heap.size)(BQ:aN may=true)
  (hm:∀w' (K':Bool->Pw),Ext No w w'->K' true w'->aC pz true may [.int .u64 (x.length:Int)] [.one (.bool)] K' cf w')
  (k:∀s w',eU w'.heap n0 b P kind lev ls (pre.length+1+x.length) (-1)->aU w'.heap w.heap.size s x->Ext (·=n0+2) w w'->K s w') :
  aC pz rd (.func (.func 127) #[] #[.pointer (some (A1 (n0+5))),.pointer (some (A1 (n0+2))),.pointer (some (A1 (n0+3))),.pointer (some (A1 n0))]) [may] [.one (.sl)] K cf w:=by
 refine AJ (c0:=A1 (n0+5)) (c1:=A1 (n0+2)) (c2:=A1 (n0+3)) (c3:=A1 n0) (AI ?_);have Tt:pre.length+(1+x.length+suf.length)=224:=by rw[<- d.len,hP];simp;omega
 refine⟨BQ,ag.mk fun b1 w1 n1=>?_⟩;have d1:=d.no n1.ext;have gE:=n1.at_;refine⟨_,Cell.ai d1.c6 rfl,?_⟩;have Tu:P=pre++([(x.length:Int)]++(x++suf)):=by rw[hP];simp
 have e1:num [(x.length:Int)]=x.length:=by simp[num]
 refine jV (x:=[(x.length:Int)]) d1 Tu rfl (by decide) (by decide) (fun K' hK=>?_) fun w2 d2 x2 z2=>?_
 .rw[e1];apply wU;apply wT;refine⟨_,Cell.ai n1.get rfl,hm w1 _ n1.ext (If.yes (Ar.i64 (by omega) ⟨_,Cell.ai d1.c3 rfl,Ar.i64 (by omega) (Ar.i64 (by omega) ?_)⟩))⟩;have:decide ((x.length:Int)<=224 - (pre.length:Int) - 1)=true:=decide_eq_true (by omega);rw[this];exact hK
 rw[e1];refine⟨_,Cell.ai d2.c4 rfl,If.dec (fun h=>by omega) fun _=>⟨_,Cell.ai d2.c3 rfl,Ar.i64 (by omega) (Ar.i64 (by omega) (aF.mk d2.c3 (by simp) rfl fun w3 h3=>ag.mk fun b4 w4 n4=>?_))⟩⟩;have d3:eU w3.heap n0 b P kind lev ls (pre.length+1+x.length) (-1):=d2.JK h3;have d4:=d3.no n4.ext;refine⟨_,Cell.ai d4.c1 rfl,_,Cell.ai d4.c3 rfl,Ar.i64 (by omega) (Ar.i64 (by omega) ⟨_,Cell.ai d4.c3 rfl,?_⟩)⟩;have hP3:P=(pre++[(x.length:Int)])++(x++suf):=by rw[hP];simp
 refine Et d4.rd hP3 (by simp) (by simp) fun s' r'=>?_
 have o4:aU w4.heap w3.heap.size ⟨some ⟨b4,0,none⟩,0,0⟩ []:=aU.new (l:=[]) n4 rfl;have z4:=n4.size;have z3:=h3.size;have z1:=n1.size;have Io:=n4.at_;refine xA (s:=⟨some ⟨b4,0,none⟩,0,0⟩) (Q:=fun i=>w3.heap.size<=i) (Ext.refl _ w4) (fun i hi=>by have:=Option.some.inj hi;simp only at this;omega) (fun i hi=>by omega) o4 (by omega) r' (by simp;omega) fun s5 w5 o5 q5 x5=>?_
 refine k _ _ (d4.ext x5 fun i hi h=>by omega) (aT.mono o5 (by omega)) ?_;refine((((n1.ext.aG).trans x2 fun i _ h=>h).trans h3.ext fun i _ h=>h).no n4.ext).trans x5 fun i hi h=>by omega
theorem OE:∀(l:List Int),(∀y∈l,y=0)->num l=0:=by
 intro l h
 have:∀(l:List Int)(a:Int),(∀y∈l,y=0)->a=0->l.foldl (fun n x=>n * 256+x) a=0:=by
  intro l
  induction l with
  | nil=>intro a _ h;exact h
  | cons y l ih=>
   intro a h ha;rw[List.foldl_cons];exact ih _ (fun z hz=>h z (List.mem_cons_of_mem _ hz)) (by rw[ha,h y List.mem_cons_self];rfl)
 exact this l 0 h rfl
theorem OF{r:Rf}(ok:r.ok)(h:∀y∈refB r,y=0):r = .z:=by
 obtain⟨h1,h2,h3⟩:=ok;have a:=ji 4 h1.1 (by omega);have b:=ji 8 h2.1 (by omega);have c:=ji 2 h3.1 (by omega);rw[OE _ fun y hy=>h y (by simp[refB,hy])]at a b c
 cases r;simp only at a b c;simp[Rf.z,<- a,<- b,<- c]
theorem LX{v:Int}{K:Bool->Pw}(k:K true w):aC pz true (.func (.func 129) #[] #[]) [.int .u64 v] [.one (.bool)] K cf w:=AH (AG k)
theorem Q9{r:Rf}{pre suf:List Int}{K:Int->Int->Int->Pw}{rd:Bool}(d:eU w.heap n0 b P kind lev ls pre.length (-1))(hP:P=pre++(refB r++suf))(hn:n0+7<=w.heap.size)(ok:r.ok)(hz:r ≠ .z)
  (k:∀w',eU w'.heap n0 b P kind lev ls (pre.length+14) (-1)->Ext (·=n0+2) w w'->K r.p r.c r.g w') :
  aC pz rd (.func (.func 130) #[] #[.pointer (some (A1 (n0+3))),.pointer (some (A1 (n0+2))),.pointer (some (A1 n0)),.pointer (some (A1 (n0+4))),.pointer (some (A1 (n0+5))),.pointer (some (A1 (n0+6)))]) [] [.agg [.one (.int .u32),.one (.int .u64),.one (.int .u16)]] K cf w:=by
 refine AE (c0:=A1 (n0+3)) (c1:=A1 (n0+2)) (c2:=A1 n0) (c3:=A1 (n0+4)) (c4:=A1 (n0+5)) (c5:=A1 (n0+6)) (AD ?_);have Tt:pre.length+(14+suf.length)=224:=by rw[<- d.len,hP];simp[fy]
 have h8:B8 (refB r):=d.p8.sub fun y hy=>by rw[hP];simp[hy]
 refine ag.mk fun b1 w1 n1=>?_
 have d1:=d.no n1.ext;have gE:=n1.at_;refine⟨fun w'=>w'=w1,?_,?_⟩
 .refine⟨_,Cell.ai d1.c4 rfl,If.dec (fun _=>⟨_,Cell.ai d1.c3 rfl,Ar.i64 (by omega) (If.dec (fun _=>⟨_,Cell.ai d1.c1 rfl,_,Cell.ai d1.c3 rfl,_,Cell.ai d1.c3 rfl,Ar.i64 (by omega) (Et d1.rd hP rfl (by rw[fy];rfl) fun s' r'=>zR r' h8 (by rw[fy];decide) ?_)⟩) fun _=>rfl)⟩) fun _=>rfl⟩;rw[decide_eq_false fun h=>hz (OF ok h)];exact If.no rfl
 rintro _ w4 rfl;refine⟨fun w'=>w'=w4,?_,?_⟩
 .exact⟨_,Cell.ai d1.c4 rfl,If.dec (fun _=>⟨_,Cell.ai d1.c3 rfl,Ar.i64 (by omega) (If.dec (fun h=>by omega) fun _=>rfl)⟩) fun _=>rfl⟩
 rintro _ w6 rfl;obtain⟨h1,h2,h3⟩:=ok;have nS:∀{i:Nat},n0+3<=i->i < n0+7->¬ (i=n0+2∨i=b1):=fun h h'=>by omega
 refine⟨Ext (fun i=>i=n0+2∨i=b1) w6,(Ext.refl _ _).drew,_,ae.dQ (Cell.ai d1.c6 rfl) (nS (by omega) (by omega)),_,ae.dQ (Cell.ai d1.c7 rfl) (nS (by omega) (by omega)),_,ae.dQ (Cell.ai d1.c6 rfl) (nS (by omega) (by omega)),_,ae.dQ (Cell.ai d1.c7 rfl) (nS (by omega) (by omega)),_,ae.dQ (Cell.ai d1.c6 rfl) (nS (by omega) (by omega)),_,ae.dQ (Cell.ai d1.c7 rfl) (nS (by omega) (by omega)),?_⟩;have toS:∀{w':Wd},Ext (·=n0+2) (aa w6) w'->Ext (fun i=>i=n0+2∨i=b1) w6 w':=fun x=>(x.mono fun _ _ h=> .inl h).aj
 have dd:eU (aa w6).heap n0 b P kind lev ls pre.length (-1):=d1
 refine jV (x:=be 4 r.p) (suf:=be 8 r.c++(be 2 r.g++suf)) dd (by rw[hP];simp[refB]) (by rw[br];rfl) (by decide) (by decide) (fun K' hK=>LX hK) fun w7 d7 x7 z7=>⟨toS x7,?_⟩
 rw[ji 4 h1.1 (by omega)];have e7:((pre.length:Int)+4)=((pre++be 4 r.p).length:Nat):=by simp[br]
 rw[e7]at d7;refine Ar.u32 (by omega) (jV (x:=be 8 r.c) (suf:=be 2 r.g++suf) d7 (by rw[hP];simp[refB]) (by rw[br];rfl) (by decide) (by decide) (fun K' hK=>LX hK) fun w8 d8 x8 z8=>⟨toS (x7.trans x8 fun _ _ h=>h),?_⟩);rw[ji 8 h2.1 (by omega)];have e8:(((pre++be 4 r.p).length:Nat):Int)+8=((pre++be 4 r.p++be 8 r.c).length:Nat):=by simp[br];omega
 rw[e8]at d8
 refine jV (x:=be 2 r.g) (suf:=suf) d8 (by rw[hP];simp[refB]) (by rw[br];rfl) (by decide) (by decide) (fun K' hK=>LX hK) fun w9 d9 x9 z9=>⟨toS ((x7.trans x8 fun _ _ h=>h).trans x9 fun _ _ h=>h),?_⟩
 rw[ji 2 h3.1 (by omega)];have e9:(((pre++be 4 r.p++be 8 r.c).length:Nat):Int)+2=(pre.length:Int)+14:=by simp[br];omega
 rw[e9]at d9;have Q_:=(x7.trans x8 fun _ _ h=>h).trans x9 fun _ _ h=>h
 have g9:w9.heap[b1]? = some (.cells [.int .u32 0,.int .u64 0,.int .u16 0].toArray 28 (0,0)):=af (w:=aa w6) n1.get Q_ (by omega);refine Ar.u16 (by omega) ⟨rfl,_,_,_,g9,rfl,by simp,.inr (.inr (Nat.le_refl _)),?_,fun dA AV=>?_⟩
 .intro v hv;simp only[List.mem_cons,List.not_mem_nil,or_false]at hv;rcases hv with h | h | h <;> subst h <;> rfl
 have oq:dA.heap[b1]? = some (.cells [.int .u32 r.p,.int .u64 r.c,.int .u16 r.g].toArray 28 (0,0)):=gI.get (b:=b1) AV g9;have dR:Ext (·=b1) w9 dA:=gI.ext (b:=b1) AV;refine⟨(toS Q_).trans dR fun _ _ h=> .inr h,_,Cell.ai oq rfl,_,Cell.ai oq rfl,_,Cell.ai oq rfl,k _ (d9.ext dR fun i hi h=>by omega) ?_⟩;exact((n1.ext.drew.aG).trans Q_ fun _ _ h=>h).trans dR fun i hi h=>by omega
end
end Go.Proofs.YtpjbalhhlaofmaaGreat
namespace Go.V
structure iP(h:Array Obj)(base:Nat)(s:Sl)(L:List (aL×aH)):Prop where
 own:aT h base 151 9 s (L.flatMap aS)
 iw:∀p∈L,mG h p.1 p.2
 kb:∀p∈L,∀b,p.1.k.aq=some b->base<=b/\b < h.size/\s.aq≠some b
 vb:∀p∈L,∀b,p.1.v.aq=some b->base<=b/\b < h.size/\s.aq≠some b
theorem iP.nd{h:Array Obj}{base:Nat}{s:Sl}{L:List (aL×aH)}(o:iP h base s L):oQ h s L:=⟨o.own.rd,o.iw⟩
theorem iP.mono{h:Array Obj}{base base':Nat}{s:Sl}{L:List (aL×aH)}(o:iP h base s L)(hb:base'<=base):iP h base' s L:=⟨o.own.mono hb,o.iw,fun p hp b h=>⟨Nat.le_trans hb (o.kb p hp b h).1,(o.kb p hp b h).2⟩,fun p hp b h=>⟨Nat.le_trans hb (o.vb p hp b h).1,(o.vb p hp b h).2⟩⟩
theorem mG.ext{S:Nat->Prop}{w w':Wd}{x:aL}{e:aH}(r:mG w.heap x e)(h:Ext S w w')(h1:∀b,x.k.aq=some b->¬ S b)(h2:∀b,x.v.aq=some b->¬ S b):mG w'.heap x e:=
 ⟨r.k.ext h fun a b ha hb=>h1 b (by simp[Sl.aq,ha,hb]),r.v.ext h fun a b ha hb=>h2 b (by simp[Sl.aq,ha,hb]),r.n,r.ch,r.cd,r.k8,r.v8,r.n64,r.Ue,r.Ug⟩
theorem iP.ext{S:Nat->Prop}{w w':Wd}{base:Nat}{s:Sl}{L:List (aL×aH)}(o:iP w.heap base s L)(x:Ext S w w')(hS:∀b,base<=b->b < w.heap.size->¬ S b):iP w'.heap base s L:=
 ⟨o.own.ext x fun b hb=>hS b (o.own.lt hb).1 (o.own.lt hb).2,fun p hp=>(o.iw p hp).ext x (fun b h=>hS b (o.kb p hp b h).1 (o.kb p hp b h).2.1) (fun b h=>hS b (o.vb p hp b h).1 (o.vb p hp b h).2.1),
  fun p hp b h=>⟨(o.kb p hp b h).1,Nat.lt_of_lt_of_le (o.kb p hp b h).2.1 x.size,(o.kb p hp b h).2.2⟩,fun p hp b h=>⟨(o.vb p hp b h).1,Nat.lt_of_lt_of_le (o.vb p hp b h).2.1 x.size,(o.vb p hp b h).2.2⟩⟩
theorem iP.no{w w':Wd}{base:Nat}{s:Sl}{L:List (aL×aH)}(o:iP w.heap base s L)(x:Ext No w w'):iP w'.heap base s L:=o.ext x fun _ _ _ h=>h
theorem iP.nil(h:Array Obj)(base:Nat):iP h base ⟨none,0,0⟩ []:=⟨aT.nil _ _ _ _,by simp,by simp,by simp⟩
theorem Xm{kind lev:Int}{l:List aH}{i:Nat}(hi:i < l.length):pad (wr kind lev l)=([kind,lev,(l.length % 256:Int)]++(l.take i).flatMap (wrE kind))++(wrE kind l[i]++((l.drop (i+1)).flatMap (wrE kind)++List.replicate (224 - (wr kind lev l).length) 0)):=by
 have e:l.flatMap (wrE kind)=(l.take i).flatMap (wrE kind)++(wrE kind l[i]++(l.drop (i+1)).flatMap (wrE kind)):=by
  have:l=l.take i++(l[i]::l.drop (i+1)):=by rw[<- List.drop_eq_getElem_cons hi,List.take_append_drop]
  conv=>lhs;rw[this]
  rw[List.flatMap_append,List.flatMap_cons]
 have e2:pad (wr kind lev l)=[kind,lev,(l.length % 256:Int)]++l.flatMap (wrE kind)++List.replicate (224 - (wr kind lev l).length) 0:=rfl;rw[e2,e];simp only[List.append_assoc]
end Go.V
namespace Go.Proofs.YtpjbalhhlaofmaaGreat
open Go.V
section
variable {w:Wd} {n0:Nat} {b:Sl} {P:List Int} {kind lev:Int} {ls:Sl} {place fault:Int}
theorem aF.b1{bb:Nat}{T:TypeId}{v v':Value}{K:Pw}(hb:w.heap[bb]? = some (.cells [v].toArray T (0,0)))(hv:aN v'=true)(k:∀w',gI w bb (.cells [v'].toArray T (0,0)) w'->K w'):aF w (Addr.mk bb 0 none) v' K:=
 aF.mk hb (by simp) hv fun w' h=>k w' h
theorem iP.push{w':Wd}{base:Nat}{s s':Sl}{L:List (aL×aH)}{p:aL×aH}(o:iP w.heap base s L)(o':aT w'.heap base 151 9 s' (L.flatMap aS++p.1.cs))(x:Ext (fun b=>s.aq=some b) w w')(hb:s'.aq=s.aq∨∃b,s'.aq=some b/\w.heap.size<=b)
  (hp:mG w.heap p.1 p.2) (h1:∀b,p.1.k.aq=some b->base<=b/\b < w.heap.size/\s.aq≠some b) (h2:∀b,p.1.v.aq=some b->base<=b/\b < w.heap.size/\s.aq≠some b):iP w'.heap base s' (L++[p]):=by
 have key:∀b,base<=b/\b < w.heap.size/\s.aq≠some b->base<=b/\b < w'.heap.size/\s'.aq≠some b:=fun b h=>⟨h.1,Nat.lt_of_lt_of_le h.2.1 x.size,fun e=>by
  rcases hb with h' | ⟨c,h',hc⟩
  .exact h.2.2 (h' ▸ e)
  .rw[h']at e;cases e;omega⟩
 refine⟨by rw[List.flatMap_append,List.flatMap_cons,List.flatMap_nil,List.append_nil];exact o',fun q hq=>?_,fun q hq b h=>?_,fun q hq b h=>?_⟩
 .rcases List.mem_append.1 hq with h | h
  .exact(o.iw q h).ext x (fun b hb=>(o.kb q h b hb).2.2) (fun b hb=>(o.vb q h b hb).2.2)
  .rw[List.mem_singleton]at h;subst h;exact hp.ext x (fun b hb=>(h1 b hb).2.2) (fun b hb=>(h2 b hb).2.2)
 .rcases List.mem_append.1 hq with h' | h'
  .exact key b (o.kb q h' b h)
  .rw[List.mem_singleton]at h';subst h';exact key b (h1 b h)
 .rcases List.mem_append.1 hq with h' | h'
  .exact key b (o.vb q h' b h)
  .rw[List.mem_singleton]at h';subst h';exact key b (h2 b h)
def restB(kind:Int)(e:aH):List Int:=if kind=2 then refB e.cd else if e.n > 0 then[1,e.n / 256 % 256,e.n % 256]++refB e.ch else[0,(e.val.length % 256:Int)]++e.val
theorem Ra(kind:Int)(e:aH):wrE kind e=(e.key.length % 256:Int)::e.key++restB kind e:=rfl
structure Got(w:Wd)(n0 b9:Nat)(base:Nat)(r3:Sl)(e:aH)(x:aL):Prop where
 aq:w.heap[b9]? = some (.cells x.cs.toArray 151 (0,0))
 k:x.k=r3
 v:Rd w.heap x.v 1 (e.val.map (Value.int .u8))
 vb:∀b,x.v.aq=some b->base<=b/\b < w.heap.size
 n:x.n=e.n
 ch:x.ch=e.ch
 cd:x.cd=e.cd
set_option maxHeartbeats 1000000 in
theorem Um{b9:Nat}{r3:Sl}{e:aH}{i:Int}{pre suf:List Int}{J1:Pw}(d:eU w.heap n0 b P kind lev ls pre.length (-1))(hP:P=pre++(restB kind e++suf))(hn:n0+7<=b9)
  (Un:w.heap[b9]? = some (.cells (aL.cs ⟨r3,⟨none,0,0⟩,0,.z,.z⟩).toArray 151 (0,0))) (hp:nW kind i e) (Ue:e.ch.ok) (Ug:e.cd.ok)
  (k:∀w' x,Got w' n0 b9 w.heap.size r3 e x->eU w'.heap n0 b P kind lev ls (pre.length+(restB kind e).length) (-1)->Ext (fun q=>q=n0+2∨q=b9) w w'->J1 w') :
  ∃tG:Int,Cell w (Addr.mk (n0+1) 0 none) (.int .u8 tG)/\
 If (tG == 2) (
 aC pz true (.func (.func 130) #[] #[.pointer (some (Addr.mk (n0+3) 0 none)),.pointer (some (Addr.mk (n0+2) 0 none)),.pointer (some (Addr.mk n0 0 none)),.pointer (some (Addr.mk (n0+4) 0 none)),.pointer (some (Addr.mk (n0+5) 0 none)),.pointer (some (Addr.mk (n0+6) 0 none))]) [] [.agg [.one (.int .u32),.one (.int .u64),.one (.int .u16)]] (fun r0 Rb JL Ba=>
 List.length (α:=Value) [.int .u32 r0,.int .u64 Rb,.int .u16 JL]=3/\jB Ba ((Addr.mk b9 0 none).add 6) [.int .u32 r0,.int .u64 Rb,.int .u16 JL] fun Tv=>
 J1 Tv) cf w) (
 ∃uV:Value,Cell w (Addr.mk (n0+5) 0 none) (uV)/\
 aC pz true uV [.int .i64 1,.func (.func 138) #[] #[]] [.one (.int .u64)] (fun K1 OG=>
 If (K1 == 1) (
 ∃tH:Value,Cell OG (Addr.mk (n0+5) 0 none) (tH)/\
 aC pz true tH [.int .i64 2,.func (.func 139) #[] #[]] [.one (.int .u64)] (fun Tw w33=>
 Ar .i64 Tw fun Uo=>
 aF w33 ((Addr.mk b9 0 none).add 2) (.int .i64 Uo) fun qT=>
 aC pz true (.func (.func 130) #[] #[.pointer (some (Addr.mk (n0+3) 0 none)),.pointer (some (Addr.mk (n0+2) 0 none)),.pointer (some (Addr.mk n0 0 none)),.pointer (some (Addr.mk (n0+4) 0 none)),.pointer (some (Addr.mk (n0+5) 0 none)),.pointer (some (Addr.mk (n0+6) 0 none))]) [] [.agg [.one (.int .u32),.one (.int .u64),.one (.int .u16)]] (fun LY LZ L_ Zy=>
 List.length (α:=Value) [.int .u32 LY,.int .u64 LZ,.int .u16 L_]=3/\jB Zy ((Addr.mk b9 0 none).add 3) [.int .u32 LY,.int .u64 LZ,.int .u16 L_] fun Ma=>
 J1 Ma) cf qT) cf OG) (
 aC pz true (.func (.func 127) #[] #[.pointer (some (Addr.mk (n0+5) 0 none)),.pointer (some (Addr.mk (n0+2) 0 none)),.pointer (some (Addr.mk (n0+3) 0 none)),.pointer (some (Addr.mk n0 0 none))]) [.func (.func 140) #[] #[]] [.one (.sl)] (fun Rc OH=>
 aF OH ((Addr.mk b9 0 none).add 1) (.slice Rc.a Rc.len Rc.cap) fun w38=>
 J1 w38) cf OG)) cf w):=by
 have jw:n0+7<=w.heap.size:=by have:=blt Un;omega
 refine⟨_,Cell.ai d.c2 rfl,If.beq (fun h2=>?_) (fun h2=>?_)⟩
 .have hr:restB kind e=refB e.cd:=by unfold restB;rw[if_pos h2]
  have oz:=hp.2;rw[if_pos h2]at oz;rw[hr]at hP k
  refine Q9 d hP jw Ug oz.1 fun w' d' x'=>⟨rfl,?_⟩
  have hb:=af Un x' (by omega);refine⟨_,_,_,hb,rfl,(by show 6+3<=9;decide),.inr (.inr (Nat.le_refl _)),?_,fun w2 Qk=>?_⟩
  .intro v hv;simp only[List.mem_cons,List.not_mem_nil,or_false]at hv;rcases hv with h | h | h <;> subst h <;> rfl
  have x2:Ext (·=b9) w' w2:=gI.ext (b:=b9) Qk;have g2:w2.heap[b9]? = some (.cells (aL.cs ⟨r3,⟨none,0,0⟩,0,.z,e.cd⟩).toArray 151 (0,0)):=gI.get (b:=b9) Qk hb;have ev:e.val=[]:=List.eq_nil_of_length_eq_zero oz.2.2.1;refine k w2 _ ⟨g2,rfl,by rw[ev];exact Rd.nil _ _,fun b h=>(by cases h),oz.2.2.2.symm,oz.2.1.symm,rfl⟩ ?_ ((x'.mono fun _ _ h=> .inl h).trans x2 fun _ _ h=> .inr h);rw[fy];exact d'.ext x2 fun q hq h=>by omega
 .have oz:=hp.2;rw[if_neg h2]at oz;obtain⟨WY,oz⟩:=oz;refine⟨_,Cell.ai d.c6 rfl,?_⟩;rcases Classical.em (e.n=0) with h0 | h0
  .rw[if_pos h0]at oz
   have hr:restB kind e=[0]++((e.val.length:Int)::e.val):=by
    unfold restB;rw[if_neg h2,if_neg (by omega),show((e.val.length:Int) % 256)=e.val.length by omega];rfl
   rw[hr]at hP k;have e0:num [(0:Int)]=0:=rfl;refine jV (x:=[0]) (suf:=((e.val.length:Int)::e.val)++suf) d (by rw[hP,List.append_assoc]) rfl (by decide) (by decide) (fun K' hK=>pZ (pY (by rw[e0];exact hK))) fun w2 d2 x2 z2=>?_
   rw[e0];refine If.no ?_;have e1:((pre.length:Int)+1)=((pre++[(0:Int)]).length:Nat):=by simp
   rw[e1]at d2;refine Ns (x:=e.val) (suf:=suf) d2 (by rw[hP];simp) (by omega) rfl (fun w' K' _ hK=>yq (yp (by unfold pW;rw[decide_eq_true (by omega)];exact hK))) fun s3 w3 d3 o3 x3=>?_
   have hb:=af (af Un x2 (by omega)) x3 (by omega);refine aF.mk hb (by simp[aL.cs]) rfl fun w4 h4=>?_
   have g4:w4.heap[b9]? = some (.cells (aL.cs ⟨r3,s3,0,.z,.z⟩).toArray 151 (0,0)):=h4.get hb;have bC:∀q,s3.aq=some q->q≠b9:=fun q hq h=>by have:=(o3.lt hq).1;have:=blt Un;omega
   refine k w4 _ ⟨g4,rfl,o3.rd.ext h4.ext (fun a q ha hq=>bC q (by simp[Sl.aq,ha,hq])),fun q hq=>?_,h0.symm,oz.1.symm,WY.symm⟩ ?_ (((x2.mono fun _ _ h=> .inl h).trans x3 fun _ _ h=> .inl h).trans h4.ext fun _ _ h=> .inr h)
   .have:=o3.lt hq;have:=h4.size;omega
   .have e5:(((pre++[(0:Int)]).length:Nat):Int)+1+(e.val.length:Int)=(pre.length:Int)+(([0]++((e.val.length:Int)::e.val)).length:Nat):=by simp;omega
    rw[<- e5];exact d3.ext h4.ext fun q hq h=>by have h:q=b9:=h;omega
  .rw[if_neg h0]at oz
   have hr:restB kind e=[1]++(be 2 e.n++refB e.ch):=by
    unfold restB;rw[if_neg h2,if_pos (by omega)];simp[be]
   rw[hr]at hP k;have e0:num [(1:Int)]=1:=rfl;refine jV (x:=[1]) (suf:=(be 2 e.n++refB e.ch)++suf) d (by rw[hP,List.append_assoc]) rfl (by decide) (by decide) (fun K' hK=>pZ (pY (by rw[e0];exact hK))) fun w2 d2 x2 z2=>?_
   rw[e0];refine If.yes ⟨_,Cell.ai d2.c6 rfl,?_⟩;have e1:((pre.length:Int)+1)=((pre++[(1:Int)]).length:Nat):=by simp
   rw[e1]at d2;have en:num (be 2 e.n)=e.n:=ji 2 (by omega) (by omega);refine jV (x:=be 2 e.n) (suf:=refB e.ch++suf) d2 (by rw[hP];simp) (by rw[br];rfl) (by decide) (by decide) (fun K' hK=>yu (yt (by unfold pX;rw[en];exact If.dec (fun _=>by rw[decide_eq_true (by omega)];exact hK) fun h=>(h oz.1).elim))) fun w3 d3 x3 z3=>?_
   rw[en];have hb:=af (af Un x2 (by omega)) x3 (by omega);refine Ar.i64 (by omega) (aF.mk hb (by simp[aL.cs]) rfl fun w4 h4=>?_);have g4:w4.heap[b9]? = some (.cells (aL.cs ⟨r3,⟨none,0,0⟩,e.n,.z,.z⟩).toArray 151 (0,0)):=h4.get hb
   have d4:eU w4.heap n0 b P kind lev ls (((pre++[(1:Int)]++be 2 e.n).length:Nat):Int) (-1):=by
    have e5:(((pre++[(1:Int)]++be 2 e.n).length:Nat):Int)=(((pre++[(1:Int)]).length:Nat):Int)+2:=by simp[br];omega
    rw[e5];exact d3.ext h4.ext fun q hq h=>by have h:q=b9:=h;omega
   refine Q9 (r:=e.ch) (suf:=suf) d4 (by rw[hP];simp) (by have:=x3.size;have:=h4.size;omega) Ue oz.2.2.1 fun w5 d5 x5=>⟨rfl,?_⟩
   have Qi:=af g4 x5 (by omega);refine⟨_,_,_,Qi,rfl,(by show 3+3<=9;decide),.inr (.inr (Nat.le_refl _)),?_,fun w6 h6=>?_⟩
   .intro v hv;simp only[List.mem_cons,List.not_mem_nil,or_false]at hv;rcases hv with h | h | h <;> subst h <;> rfl
   have x6:Ext (·=b9) w5 w6:=gI.ext (b:=b9) h6;have g6:w6.heap[b9]? = some (.cells (aL.cs ⟨r3,⟨none,0,0⟩,e.n,e.ch,.z⟩).toArray 151 (0,0)):=gI.get (b:=b9) h6 Qi;have ev:e.val=[]:=List.eq_nil_of_length_eq_zero oz.2.2.2;refine k w6 _ ⟨g6,rfl,by rw[ev];exact Rd.nil _ _,fun b h=>(by cases h),rfl,rfl,WY.symm⟩ ?_ (((((x2.mono fun _ _ h=> .inl h).trans x3 fun _ _ h=> .inl h).trans h4.ext fun _ _ h=> .inr h).trans x5 fun _ _ h=> .inl h).trans x6 fun _ _ h=> .inr h);have e7:(((pre++[(1:Int)]++be 2 e.n).length:Nat):Int)+14=(pre.length:Int)+(([1]++(be 2 e.n++refB e.ch)).length:Nat):=by simp[br,fy];omega
   rw[<- e7];exact d5.ext x6 fun q hq h=>by omega
end
end Go.Proofs.YtpjbalhhlaofmaaGreat
namespace Go.V
structure Pg where
 t:Int
 k:Int
 v:Int
 r:Rf
 pay:List Int
 waits:Bool
structure Mm where
 au:List (Int×Pg)
 aE:Int
 gen:Int
def hY(n:Int):List (Int×Pg)->Option Pg
 | []=>none
 | p::m=>if n=p.1 then some p.2 else hY n m
structure bB where
 bm:Nat
 r:Nat
 bl:Int->Nat
 sl:Int->Sl
def Pg.cs(p:Pg)(s:Sl):List Value:=[.int .u32 p.t,.int .u8 p.k,.int .u8 p.v,.int .u32 p.r.p,.int .u64 p.r.c,.int .u16 p.r.g,.slice s.a s.len s.cap,.bool p.waits]
abbrev bB.oB(m:bB)(l:List (Int×Pg)):List (Int×Value):=l.map fun p=>(p.1,Value.pointer (some ⟨m.bl p.1,0,none⟩))
structure PgR(h:Array Obj)(T:Nat->Option Nat)(m:bB)(n:Int)(p:Pg):Prop where
 aq:h[m.bl n]? = some (.cells (p.cs (m.sl n)).toArray 128 (0,0))
 rd:Rd h (m.sl n) 1 (p.pay.map (Value.int .u8))
 tb:T (m.bl n)=some (2+2 * n.toNat)
 ts:∀b,(m.sl n).aq=some b->T b=some (3+2 * n.toNat)
 p8:B8 p.pay
 len:p.pay.length=224
 rn:p.r.p=n
 ok:p.r.ok
structure aY(h:Array Obj)(T:Nat->Option Nat)(m:bB)(M:Mm):Prop where
 mem:h[m.bm]? = some (.cells [.map (some m.r),.int .u64 M.aE,.int .u16 M.gen].toArray 97 (0,0))
 map:tF h (fun a:Int=>Value.int .u32 a) m.r (m.oB M.au)
 pg:∀p∈M.au,PgR h T m p.1 p.2
 nd:(M.au.map Prod.fst).Nodup
 lo:∀p∈M.au,2<=p.1
 tm:T m.bm=some 0
 tr:T m.r=some 1
 sup:∀b,T b≠none->b < h.size
 co:0<=M.aE/\M.aE<=18446744073709551615
 go:0<=M.gen/\M.gen<=65535
 cm:∀p∈M.au,p.2.r.c<=M.aE
def Tg(w:Wd)(T T':Nat->Option Nat):Prop:=∀b,b < w.heap.size->T' b=T b
abbrev Ts(T:Nat->Option Nat):Nat->Prop:=fun b=>T b≠none
theorem uf{n:Int}{p:Pg}:∀{l:List (Int×Pg)},hY n l=some p->(n,p)∈l
 | [],h=>by cases h
 | q::l,h=>by
  unfold hY at h;split at h
  .rename_i hn;cases h;rw[hn];exact List.mem_cons_self
  .exact List.mem_cons_of_mem _ (uf h)
theorem CE{n:Int}:∀{l:List (Int×Pg)},hY n l=none->n ∉ l.map Prod.fst
 | [],_=>by simp
 | q::l,h=>by
  unfold hY at h;split at h
  .cases h
  .rename_i hn;simp only[List.map_cons,List.mem_cons,not_or];exact⟨hn,CE h⟩
theorem Fp(m:bB)(n:Int):∀l:List (Int×Pg),JH n (m.oB l)=(hY n l).map fun _=>Value.pointer (some ⟨m.bl n,0,none⟩)
 | []=>rfl
 | q::l=>by
  simp only[bB.oB,List.map_cons,JH,hY];split
  .rename_i h;rw[h];rfl
  .exact Fp m n l
section
variable {w w':Wd} {T:Nat->Option Nat} {m:bB} {M:Mm}
theorem PgR.ext{S:Nat->Prop}{n:Int}{p:Pg}(r:PgR w.heap T m n p)(x:Ext S w w')(h1:¬ S (m.bl n))(h2:∀b,(m.sl n).aq=some b->¬ S b):PgR w'.heap T m n p:=
 ⟨by rw[x.aq _ (blt r.aq) h1];exact r.aq,r.rd.ext x fun a b ha hb=>h2 b (by simp[Sl.aq,ha,hb]),r.tb,r.ts,r.p8,r.len,r.rn,r.ok⟩
theorem aY.ext{S:Nat->Prop}(r:aY w.heap T m M)(x:Ext S w w')(hS:∀b,S b->T b=none):aY w'.heap T m M:=by
 have ns:∀{b t},T b=some t->¬ S b:=fun h hs=>by rw[hS _ hs]at h;cases h
 exact⟨by rw[x.aq _ (blt r.mem) (ns r.tm)];exact r.mem,r.map.ext x (ns r.tr),fun p hp=>(r.pg p hp).ext x (ns (r.pg p hp).tb) (fun b h=>ns ((r.pg p hp).ts b h)),r.nd,r.lo,r.tm,r.tr,fun b h=>Nat.lt_of_lt_of_le (r.sup b h) x.size,r.co,r.go,r.cm⟩
theorem aY.no(r:aY w.heap T m M)(x:Ext No w w'):aY w'.heap T m M:=r.ext x fun _ h=>h.elim
theorem aY.find(r:aY w.heap T m M){n:Int}{p:Pg}(h:hY n M.au=some p):PgR w.heap T m n p:=r.pg _ (uf h)
end
end Go.V
namespace Go.Proofs.YtpjbalhhlaofmaaGreat
open Go.V
section
variable {w:Wd} {T:Nat->Option Nat} {m:bB} {M:Mm}
theorem BC:zV pz 22 (fun a:Int=>Value.int .u32 a):=Uk (by kernel_rfl)
theorem xC(r:aY w.heap T m M)(n:Int):Sem.run pz (Instr.lookup 95 (.map (some m.r)) (.int .u32 n) false) w = .ok (.pointer ((hY n M.au).map fun _=>(⟨m.bl n,0,none⟩ : Addr))) w:=by
 have:=CC (mt:=95) (et:=124) (a:=n) (z:= .pointer none) BC (by kernel_rfl) (fp (i:=Tryz.t124) (by kernel_rfl) (by kernel_rfl)) r.map;rw[this,Fp]
 cases hY n M.au <;> rfl
theorem zW{gen:Int}{K:Option Addr->Pw}(hg:0<=gen/\gen<=65535)(k:∀T m w',aY w'.heap T m ⟨[],1,gen⟩->(∀b,b < w.heap.size->T b=none)->Ext No w w'->K (some ⟨m.bm,0,none⟩) w'):lK gen w K:=by
 apply Ek;refine ag.mk fun b w1 n1=>ag.mk fun b1 w2 n2=>?_
 have hb:=n1.at_;have gE:=n2.at_;have z1:=n1.size;have z2:=n2.size;refine k (fun q=>if q=b1 then some 0 else if q=b then some 1 else none) ⟨b1,b,fun _=>0,fun _=>⟨none,0,0⟩⟩ w2 ⟨n2.get,⟨#[],0,ad n1.get n2.ext,rfl,gL.nil⟩,by simp,by simp,by simp,by simp,?_,fun q h=>?_,⟨(by decide:(0:Int)<=1),(by decide:(1:Int)<=18446744073709551615)⟩,hg,by simp⟩ (fun q hq=>?_) (n1.ext.no n2.ext)
 .show(if b=b1 then some 0 else if b=b then some 1 else none)=some 1;rw[if_neg (by omega),if_pos rfl]
 .split at h
  .omega
  .split at h
   .omega
   .exact(h rfl).elim
 .rw[if_neg (by omega),if_neg (by omega)]
theorem zX{t k v:Int}{r:Rf}{K:Sl->Int->Pw}(R:aY w.heap T m M)
  (k0:∀p s w',hY r.p M.au=some p->p.t=t->p.k=k->p.v=v->p.r=r->aU w'.heap w.heap.size s p.pay->Ext No w w'->K s 0 w')
  (k7:∀w',hY r.p M.au=none->Ext No w w'->K ⟨none,0,0⟩ 7 w')
  (Xn:∀p w',hY r.p M.au=some p->¬ (p.t=t/\p.k=k/\p.v=v/\p.r=r)->Ext No w w'->K ⟨none,0,0⟩ 150 w'):jN (some ⟨m.bm,0,none⟩) t k v r.p r.c r.g w K:=by
 apply Cj;refine ag.mk fun b w1 n1=>If.no ⟨Ext No w1,(Ext.refl _ _).drew,Nn.mk ?_⟩
 have R1:=R.no n1.ext;have hb:=n1.get;have R1d:aY (aa w1).heap T m M:=R1;refine⟨some m.r,ae.cell (Cell.ai R1.mem rfl),_,ae.cell (Cell.ai hb rfl),_,aa w1,xC R1d r.p,(Ext.refl _ _).drew,?_⟩
 cases hp:hY r.p M.au with
 | none=>exact If.yes (k7 _ hp n1.ext.drew)
 | some p=>
  have P1:=R1.find hp;refine If.no ⟨Ext No w1,(Ext.refl _ _).drew.drew,Nn.mk ?_⟩;refine⟨_,ae.cell (Cell.ai P1.aq rfl),_,ae.cell (Cell.ai P1.aq rfl),_,ae.cell (Cell.ai P1.aq rfl),_,ae.cell (Cell.ai P1.aq rfl),_,ae.cell (Cell.ai P1.aq rfl),_,ae.cell (Cell.ai P1.aq rfl),_,ae.cell (Cell.ai hb rfl),_,ae.cell (Cell.ai hb rfl),_,ae.cell (Cell.ai hb rfl),?_⟩;dsimp only;rw[xy p.r r]
  have eb:((p.t == t) && ((p.k == k) && ((p.v == v) && (decide (p.r=r) && true))))=decide (p.t=t/\p.k=k/\p.v=v/\p.r=r):=by
   rw[Bool.eq_iff_iff];simp
  rw[eb];refine If.not (If.dec (fun h=>?_) fun h=>Xn p _ hp h n1.ext.drew.drew);refine Nn.mk ⟨m.sl r.p,Cell.ai (w:=aa (aa w1)) P1.aq rfl,lj (w:=aa (aa w1)) P1.rd (by rw[P1.len];decide) fun s w' o x=>?_⟩;exact k0 p s w' hp h.1 h.2.1 h.2.2.1 h.2.2.2 (aT.mono o n1.ext.size) (n1.ext.drew.drew.no x)
structure CF(l:List (Int×Pg))(n:Int):Prop where
 lo:2<=n
 no:hY n l=none
 all:∀i,2<=i->i < n->hY i l≠none
theorem ph:∀(k:Nat)(l:List Int)(n:Int),(∀i:Nat,i < k->n+i∈l)->k<=l.length
 | 0,_,_,_=>by omega
 | k+1,l,n,h=>by
  have hm:=h k (by omega);have:=ph k (l.filter fun x=>decide (x≠n+k)) n fun i hi=>List.mem_filter.2 ⟨h i (by omega),by simp;omega⟩
  have h2:(l.filter fun x=>decide (x≠n+k)).length < l.length:=List.length_filter_lt_length_iff_exists.2 ⟨_,hm,by simp⟩;omega
theorem CF.le{l:List (Int×Pg)}{n:Int}(h:∀i,2<=i->i < n->hY i l≠none)(h2:2<=n):n<=l.length+2:=by
 have:=ph (n - 2).toNat (l.map Prod.fst) 2 fun i hi=>by
  rcases Classical.em ((2+(i:Int))∈l.map Prod.fst) with h' | h'
  .exact h'
  .exfalso
   cases hp:hY (2+(i:Int)) l with
   | none=>exact h _ (by omega) (by omega) hp
   | some p=>exact h' (List.mem_map.2 ⟨_,uf hp,rfl⟩)
 simp only[List.length_map]at this;omega
theorem Fq{m:bB}{n:Int}{v:Value}:∀{l:List (Int×Pg)},hY n l=none->CA n v (m.oB l)=m.oB l++[(n,v)]
 | [],_=>rfl
 | q::l,h=>by
  unfold hY at h;split at h
  .cases h
  .rename_i hn;simp only[bB.oB,List.map_cons,CA];rw[if_neg hn];have:=Fq (m:=m) (v:=v) h;simp only[bB.oB]at this;rw[this];rfl
set_option maxHeartbeats 1000000 in
theorem zY{t k v:Int}{s:Sl}{P:List Int}{K:Int->Int->Int->Int->Pw}(R:aY w.heap T m M)(hs:cZ w.heap s P)(h8:B8 P)(hn:M.au.length<=1048576)
  (k0:∀n T' m' w',P.length=224->CF M.au n->aY w'.heap T' m' { M with au:=M.au++[(n,⟨t,k,v,⟨n,M.aE,M.gen⟩,P,false⟩)] }->m'.bm=m.bm->Tg w T T'->Ext (Ts T) w w'->K n M.aE M.gen 0 w')
  (k2:∀w',P.length≠224->Ext No w w'->K 0 0 0 2 w'):nM (some ⟨m.bm,0,none⟩) t k v s w K:=by
 apply Ck;have hl:=cZ.len hs;refine ag.mk fun b w1 n1=>If.no (If.bne (fun h=>?_) fun h=>?_)
 .refine⟨rfl,_,_,_,n1.get,rfl,by simp,.inr (.inr (Nat.le_refl _)),by decide,fun w2 h2=>?_⟩;have g2:w2.heap[b]? = some (.cells [.int .u32 0,.int .u64 0,.int .u16 0].toArray 28 (0,0)):=gI.get (b:=b) h2 n1.get;have x2:Ext (·=b) w1 w2:=gI.ext (b:=b) h2;exact⟨_,Cell.ai g2 rfl,_,Cell.ai g2 rfl,_,Cell.ai g2 rfl,k2 w2 (by omega) (n1.ext.trans x2 fun i hi h=>by have:=n1.at_;omega)⟩
 have Tt:P.length=224:=by omega
 have R1:=R.no n1.ext;have hb:=n1.at_;have z1:=n1.size;refine⟨fun q n w'=>w'=w1/\2<=n/\n<=M.au.length+2/\q=(M.au.length+3 - n).toNat/\∀i,2<=i->i < n->hY i M.au≠none,⟨_,rfl,by omega,by omega,rfl,fun i h1 h2=>by omega⟩,?_⟩;rintro _ m0 n w4 ⟨rfl,hn2,Lc,hm0,ff⟩;refine Nn.mk ⟨some m.r,Cell.ai R1.mem rfl,_,_,xC R1 n,?_⟩
 cases hp:hY n M.au with
 | some p=>
  have hle:=CF.le (n:=n+1) (fun i h1 h2=>by
   rcases Int.lt_or_le i n with h | h
   .exact ff i h1 h
   .have:i=n:=by omega
    subst this;rw[hp];simp) (by omega)
  refine If.yes (Ar.u32 (by omega) ⟨(M.au.length+3 - (n+1)).toNat,by omega,rfl,by omega,by omega,rfl,fun i h1 h2=>?_⟩);rcases Int.lt_or_le i n with h | h
  .exact ff i h1 h
  .have:i=n:=by omega
   subst this;rw[hp];simp
 | none=>
  refine If.no ⟨Ext No w4,(Ext.refl _ _).drew,Nn.mk ⟨_,ae.cell (Cell.ai R1.mem rfl),Nn.mk ⟨_,ae.cell (Cell.ai R1.mem rfl),?_⟩⟩⟩
  refine ag.mk fun b1 w6 n6=>⟨(Ext.refl _ _).drew.no n6.ext,rfl,_,_,_,n6.get,rfl,by simp,.inr (.inr (Nat.le_refl _)),?_,fun w7 h7=>?_⟩
  .intro v hv;simp only[List.mem_cons,List.not_mem_nil,or_false]at hv;rcases hv with h | h | h <;> subst h <;> rfl
  have g7:w7.heap[b1]? = some (.cells [.int .u32 n,.int .u64 M.aE,.int .u16 M.gen].toArray 28 (0,0)):=gI.get (b:=b1) h7 n6.get;have x7:Ext (·=b1) w6 w7:=gI.ext (b:=b1) h7;have z7:w7.heap.size=w6.heap.size:=gI.size (b:=b1) h7;have gE:b1=w4.heap.size:=n6.at_;have z6:w6.heap.size=w4.heap.size+1:=n6.size;have wC:Ext No w4 w7:=((Ext.refl _ _).drew.no n6.ext).trans x7 fun i hi h=>by omega
  have R7:=R1.no wC;refine⟨wC,Ext (·=m.r) w7,(Ext.refl _ _).drew,Nn.mk ?_⟩;have nr:∀{q},T q≠some 1->q≠m.r:=fun h e=>h (e ▸ R.tr)
  have Zz:m.r < w.heap.size:=R.sup _ (by rw[R.tr];simp);have ZA:b1≠m.r:=by omega
  refine⟨some m.r,ae.dQ (Cell.ai R7.mem rfl) (nr (by rw[R.tm];simp)),_,ae.dQ (Cell.ai g7 rfl) ZA,_,ae.dQ (Cell.ai g7 rfl) ZA,_,ae.dQ (Cell.ai g7 rfl) ZA,?_⟩;have hs7:cZ (aa w7).heap s P:=Rd.no (Rd.no hs n1.ext) wC.drew
  refine lj hs7 (by omega) fun s8 w8 o8 x8=>⟨x8.aj.aG,ag.mk fun b2 w9 n9=>⟨((x8.aj).no n9.ext).aG,?_⟩⟩
  have JM:Ext No w7 w9:=(x8.aj).no n9.ext;have R9:=R7.no JM;have lO:=n9.at_;have z8:=x8.size;have z9:=n9.size;have z8':w7.heap.size<=w8.heap.size:=z8;obtain⟨dA,vJ,Up,dR,LS⟩:=uU (a:=n) (v:= .pointer (some ⟨b2,0,none⟩)) (mt:=95) (et:=124) BC (by kernel_rfl) R9.map;refine⟨dA,vJ,JM.aG.trans dR fun _ _ h=>h,?_⟩;have oq:=af (ad g7 JM) dR ZA;have gb:dA.heap[b]? = some (.cells [.int .u32 0,.int .u64 0,.int .u16 0].toArray 28 (0,0)):=af (ad (ad n1.get wC) JM) dR (by omega);refine⟨_,Cell.ai oq rfl,_,Cell.ai oq rfl,_,Cell.ai oq rfl,rfl,_,_,_,gb,rfl,by simp,.inr (.inr (Nat.le_refl _)),?_,fun dg wD=>?_⟩
  .intro v hv;simp only[List.mem_cons,List.not_mem_nil,or_false]at hv;rcases hv with h | h | h <;> subst h <;> rfl
  have Ir:dg.heap[b]? = some (.cells [.int .u32 n,.int .u64 M.aE,.int .u16 M.gen].toArray 28 (0,0)):=gI.get (b:=b) wD gb;have fY:Ext (·=b) dA dg:=gI.ext (b:=b) wD;have Re:dg.heap.size=dA.heap.size:=gI.size (b:=b) wD;refine⟨_,Cell.ai Ir rfl,_,Cell.ai Ir rfl,_,Cell.ai Ir rfl,?_⟩;have lt:∀{q t},T q=some t->q < w.heap.size:=fun h=>R.sup _ (by rw[h];simp)
  have s8b:∀q,s8.aq=some q->w7.heap.size<=q/\q < w8.heap.size:=fun q hq=>o8.lt hq
  have Bb:Ext (fun q=>q=m.r∨q=b) w9 dg:=(dR.mono fun _ _ h=> .inl h).trans fY fun _ _ h=> .inr h
  have nS:∀{q t},T q=some t->t≠1->¬ (q=m.r∨q=b):=fun h ht hq=>by
   rcases hq with h' | h'
   .rw[h',R.tr]at h;cases h;exact ht rfl
   .have:=lt h;omega
  let T':Nat->Option Nat:=fun q=>if q=b2 then some (2+2 * n.toNat) else if s8.aq=some q then some (3+2 * n.toNat) else T q
  have Tq:∀q,q < w.heap.size->T' q=T q:=fun q hq=>by
   show(if q=b2 then _ else if s8.aq=some q then _ else T q)=T q;rw[if_neg (by omega),if_neg (fun h=>by have:=s8b q h;omega)]
  let m':bB:=⟨m.bm,m.r,fun i=>if i=n then b2 else m.bl i,fun i=>if i=n then s8 else m.sl i⟩
  have eb:∀i,i≠n->m'.bl i=m.bl i:=fun i hi=>if_neg hi
  have es:∀i,i≠n->m'.sl i=m.sl i:=fun i hi=>if_neg hi
  have ebn:m'.bl n=b2:=if_pos rfl;have esn:m'.sl n=s8:=if_pos rfl;have bC:∀p∈M.au,p.1≠n:=fun p sK h=>CE hp (List.mem_map.2 ⟨p,sK,h⟩)
  have ev:m'.oB M.au=m.oB M.au:=List.map_congr_left fun p sK=>by simp only[eb _ (bC p sK)]
  refine k0 n T' m' dg Tt ⟨hn2,hp,ff⟩ ⟨?_,?_,fun p sK=>?_,?_,fun p sK=>?_,?_,?_,fun q hq=>?_,R.co,R.go,fun p sK=>?_⟩ rfl Tq ?_
  .exact af R9.mem Bb (nS R.tm (by decide))
  .have VM:=Up.ext fY (by omega);rw[Fq hp]at VM
   have:m'.oB (M.au++[(n,⟨t,k,v,⟨n,M.aE,M.gen⟩,P,false⟩)])=m.oB M.au++[(n,.pointer (some ⟨b2,0,none⟩))]:=by
    simp only[bB.oB,List.map_append,List.map_cons,List.map_nil,ebn];rw[show List.map (fun p=>(p.1,Value.pointer (some ⟨m'.bl p.1,0,none⟩))) M.au=_ from ev]
   rw[this];exact VM
  .rcases List.mem_append.1 sK with h | h
   .have pr:=(R9.pg p h).ext Bb (nS (R9.pg p h).tb (by omega)) (fun q hq=>nS ((R9.pg p h).ts q hq) (by omega));have ZB:=bC p h;refine⟨by rw[eb _ ZB,es _ ZB];exact pr.aq,by rw[es _ ZB];exact pr.rd,by rw[eb _ ZB,Tq _ (lt pr.tb)];exact pr.tb,fun q hq=>?_,pr.p8,pr.len,pr.rn,pr.ok⟩;rw[es _ ZB]at hq;rw[Tq _ (lt (pr.ts q hq))];exact pr.ts q hq
   .rw[List.mem_singleton]at h;subst h;have nq:∀q,w.heap.size < q->¬ (q=m.r∨q=b):=fun q hq h=>by omega
    refine⟨?_,?_,?_,fun q hq=>?_,h8,Tt,rfl,⟨⟨by show(0:Int)<=n;omega,by show n<=4294967295;omega⟩,R.co,R.go⟩⟩
    .simp only[ebn,esn];exact af n9.get Bb (nq _ (by omega))
    .simp only[esn];exact(o8.rd.no n9.ext).ext Bb fun a q ha hq=>nq q (by have:=s8b q (by simp[Sl.aq,ha,hq]);omega)
    .simp only[ebn];show(if b2=b2 then _ else _)=_;rw[if_pos rfl]
    .simp only[esn]at hq;show(if q=b2 then _ else if s8.aq=some q then _ else T q)=_;have:=s8b q hq;rw[if_neg (by omega),if_pos hq]
  .simp only[List.map_append,List.map_cons,List.map_nil];rw[List.nodup_append];refine⟨R.nd,by simp,fun a ha c hc e=>?_⟩;rw[List.mem_singleton]at hc;subst hc;subst e;exact CE hp ha
  .rcases List.mem_append.1 sK with h | h
   .exact R.lo p h
   .rw[List.mem_singleton]at h;subst h;exact hn2
  .show T' m.bm=some 0;rw[Tq _ (lt R.tm)];exact R.tm
  .show T' m.r=some 1;rw[Tq _ (lt R.tr)];exact R.tr
  .rcases Nat.lt_or_ge q w.heap.size with h | h
   .omega
   .have hTq:T q=none:=by
     cases Zu:T q with
     | none=>rfl
     | some t=>have:=lt Zu;omega
    have Rg:(if q=b2 then some (2+2 * n.toNat) else if s8.aq=some q then some (3+2 * n.toNat) else T q)≠none:=hq;split at Rg
    .omega
    .split at Rg
     .rename_i h2;have:=s8b q h2;omega
     .exact(Rg hTq).elim
  .rcases List.mem_append.1 sK with h | h
   .exact R.cm p h
   .rw[List.mem_singleton]at h;subst h;exact Int.le_refl _
  .refine(((n1.ext.no wC).no JM).aG).trans Bb fun q hq h=>?_
   rcases h with h | h
   .rw[h];show T m.r≠none;rw[R.tr];simp
   .omega
end
end Go.Proofs.YtpjbalhhlaofmaaGreat
namespace Go.V
def qU(n:Int):List (Int×Pg)->List (Int×Pg)
 | []=>[]
 | p::m=>if n=p.1 then m else p::qU n m
def kP(n:Int)(l:List (Int×Pg)):List (Int×Pg):=l.map fun p=>if p.1=n then(p.1,{ p.2 with waits:=true }) else p
def l_(M:Mm)(r:Rf):Int×Mm:=match hY r.p M.au with
 | none=>(7,M)
 | some p=>if p.waits=true∨p.r≠r then(7,M) else if r.c=M.aE then(0,{ M with au:=qU r.p M.au }) else(0,{ M with au:=kP r.p M.au })
theorem yW(m:bB)(n:Int):∀l:List (Int×Pg),CB n (m.oB l)=m.oB (qU n l)
 | []=>rfl
 | q::l=>by
  simp only[bB.oB,List.map_cons,CB,qU];split
  .rfl
  .rw[List.map_cons,show CB n (List.map _ l)=_ from yW m n l]
theorem gi(n:Int):∀l:List (Int×Pg),(qU n l).Sublist l
 | []=>List.Sublist.refl _
 | q::l=>by
  unfold qU;split
  .exact List.sublist_cons_self _ _
  .exact(gi n l).cons_cons q
theorem gM{n:Int}{p:Pg}:∀{l:List (Int×Pg)},(l.map Prod.fst).Nodup->(n,p)∈l->hY n l=some p
 | [],_,h=>by cases h
 | q::l,hn,h=>by
  simp only[List.map_cons,List.nodup_cons]at hn;unfold hY;rcases List.mem_cons.1 h with h' | h'
  .subst h';rw[if_pos rfl]
  .rw[if_neg (fun e=>hn.1 (by rw[<- e];exact List.mem_map.2 ⟨_,h',rfl⟩))];exact gM hn.2 h'
theorem OI(n:Int)(l:List (Int×Pg)):(kP n l).map Prod.fst=l.map Prod.fst:=by
 unfold kP;rw[List.map_map];apply List.map_congr_left;intro p _;simp only[Function.comp];split <;> rfl
end Go.V
namespace Go.Proofs.YtpjbalhhlaofmaaGreat
open Go.V
section
variable {w:Wd} {T:Nat->Option Nat} {m:bB} {M:Mm}
set_option maxHeartbeats 1000000 in
theorem qV{r:Rf}{K:Int->Pw}(R:aY w.heap T m M)(k:∀w',aY w'.heap T m (l_ M r).2->Ext (Ts T) w w'->K (l_ M r).1 w'):mB (some ⟨m.bm,0,none⟩) r.p r.c r.g w K:=by
 apply AR;refine ag.mk fun b w1 n1=>If.no ⟨Ext No w1,(Ext.refl _ _).drew,Nn.mk ?_⟩
 have R1:=R.no n1.ext;have hb:=n1.get;have gE:=n1.at_;have R1d:aY (aa w1).heap T m M:=R1;have lt:∀{q t},T q=some t->q < w.heap.size:=fun h=>R.sup _ (by rw[h];simp)
 refine⟨some m.r,ae.cell (Cell.ai R1.mem rfl),_,ae.cell (Cell.ai hb rfl),_,aa w1,xC R1d r.p,(Ext.refl _ _).drew,?_⟩
 cases hp:hY r.p M.au with
 | none=>
  have e:l_ M r=(7,M):=by unfold l_;rw[hp]
  rw[e]at k;exact⟨fun _=>False,⟨Ext No w1,(Ext.refl _ _).drew.drew,If.yes (k _ R1 (n1.ext.drew.drew).aG)⟩,fun _ _ h=>h.elim⟩
 | some p=>
  have P1:=R1.find hp;refine⟨fun w'=>w'=aa (aa w1)/\p.waits=false/\p.r=r,⟨Ext No w1,(Ext.refl _ _).drew.drew,If.no (Nn.mk ⟨_,ae.cell (Cell.ai P1.aq rfl),If.cases (fun h=>?_) fun h=>?_⟩)⟩,?_⟩
  .have e:l_ M r=(7,M):=by unfold l_;rw[hp];simp only;rw[if_pos (.inl h)]
   rw[e]at k;exact k _ R1 (n1.ext.drew.drew).aG
  .refine Nn.mk ⟨_,ae.cell (Cell.ai P1.aq rfl),_,ae.cell (Cell.ai P1.aq rfl),_,ae.cell (Cell.ai P1.aq rfl),_,ae.cell (Cell.ai hb rfl),_,ae.cell (Cell.ai hb rfl),_,ae.cell (Cell.ai hb rfl),?_⟩;dsimp only;rw[xy p.r r];refine If.not (If.dec (fun h'=>⟨rfl,h,h'⟩) fun h'=>?_);have e:l_ M r=(7,M):=by unfold l_;rw[hp];simp only;rw[if_pos (.inr h')]
   rw[e]at k;exact k _ R1 (n1.ext.drew.drew).aG
  rintro _ w3 ⟨rfl,hw,hr⟩;refine⟨Ext No w1,(Ext.refl _ _).drew.drew.drew,_,ae.cell (Cell.ai hb rfl),Nn.mk ⟨_,ae.cell (Cell.ai R1.mem rfl),If.beq (fun hc=>?_) fun hc=>?_⟩⟩
  .have e:l_ M r=(0,{ M with au:=qU r.p M.au }):=by unfold l_;rw[hp];simp only;rw[if_neg (by rw[hw,hr];simp),if_pos hc]
   rw[e]at k;refine⟨Ext (·=m.r) w1,(Ext.refl _ _).drew.drew.drew.drew,Nn.mk ⟨some m.r,ae.dQ (Cell.ai R1.mem rfl) (fun h=>by have:=R.tm;rw[h,R.tr]at this;cases this),_,ae.dQ (Cell.ai hb rfl) (fun h=>by have:=lt R.tr;omega),?_⟩⟩;obtain⟨w4,vJ,Up,x4,z4⟩:=LV (w:=aa (aa (aa (aa w1)))) (a:=r.p) (mt:=95) (et:=124) (t:=0) BC (by kernel_rfl) R1.map;have gH:Ext (·=m.r) w1 w4:=((x4.aj).aj.aj).aj;refine⟨w4,vJ,gH,k w4 ?_ ((n1.ext.aG).trans gH fun q hq h=>by rw[h];show T m.r≠none;rw[R.tr];simp)⟩;have nS:∀{q t},T q=some t->t≠1->¬ (q=m.r):=fun h ht h'=>by rw[h',R.tr]at h;cases h;exact ht rfl
   rw[yW]at Up;refine⟨af R1.mem gH (nS R.tm (by decide)),Up,fun q hq=>?_,?_,fun q hq=>R.lo q ((gi _ _).subset hq),R.tm,R.tr,fun q h=>Nat.lt_of_lt_of_le (R1.sup q h) gH.size,R.co,R.go,fun q hq=>R.cm q ((gi _ _).subset hq)⟩
   .have:=R1.pg q ((gi _ _).subset hq);exact this.ext gH (nS this.tb (by omega)) (fun c hc=>nS (this.ts c hc) (by omega))
   .exact R.nd.sublist ((gi _ _).map _)
  .have e:l_ M r=(0,{ M with au:=kP r.p M.au }):=by unfold l_;rw[hp];simp only;rw[if_neg (by rw[hw,hr];simp),if_neg hc]
   rw[e]at k;have P1d:(aa (aa (aa w1))).heap[m.bl r.p]? = some (.cells (p.cs (m.sl r.p)).toArray 128 (0,0)):=P1.aq;refine Nn.mk (aF.mk P1d (by show 7 < 8;decide) rfl fun w5 h5=>?_);have x5:Ext (·=m.bl r.p) w1 w5:=((Ext.aj (h5.ext)).aj).aj;have g5:w5.heap[m.bl r.p]? = some (.cells ({ p with waits:=true }.cs (m.sl r.p)).toArray 128 (0,0)):=h5.get P1d;have z5:w5.heap.size=w1.heap.size:=h5.size;refine k w5 ?_ ((n1.ext.aG).trans x5 fun q hq h=>by rw[h];show T (m.bl r.p)≠none;rw[P1.tb];simp);have nS:∀{q t},T q=some t->t≠2+2 * r.p.toNat->¬ (q=m.bl r.p):=fun h ht h'=>by rw[h',P1.tb]at h;cases h;exact ht rfl
   have hpm:=uf hp;refine⟨af R1.mem x5 (nS R.tm (by omega)),?_,fun q hq=>?_,by rw[OI];exact R.nd,fun q hq=>?_,R.tm,R.tr,fun q h=>Nat.lt_of_lt_of_le (R1.sup q h) x5.size,R.co,R.go,fun q hq=>?_⟩
   .have:m.oB (kP r.p M.au)=m.oB M.au:=by
     unfold kP bB.oB;rw[List.map_map];apply List.map_congr_left;intro q _;simp only[Function.comp];split <;> rfl
    rw[this];exact R1.map.ext x5 (nS R.tr (by omega))
   .obtain⟨q0,Xo,rfl⟩:=List.mem_map.1 hq;have pr:=R1.pg q0 Xo;have l0:=R.lo q0 Xo;have l1:=R.lo _ hpm;simp only at l1;split
    .rename_i he
     have e2:q0.2=p:=by
      have h1:=gM (n:=q0.1) (p:=q0.2) R.nd Xo;rw[he,hp]at h1;exact(Option.some.inj h1).symm
     rw[e2]at pr ⊢;refine⟨by simp only[he];exact g5,(pr.rd.ext x5 fun a c ha hc=>nS (pr.ts c (by simp[Sl.aq,ha,hc])) (by rw[he];omega)),pr.tb,pr.ts,pr.p8,pr.len,pr.rn,pr.ok⟩
    .rename_i he;exact pr.ext x5 (nS pr.tb (by omega)) (fun c hc=>nS (pr.ts c hc) (by omega))
   .obtain⟨q0,Xo,rfl⟩:=List.mem_map.1 hq;have:=R.lo q0 Xo;split <;> exact this
   .obtain⟨q0,Xo,rfl⟩:=List.mem_map.1 hq;have:=R.cm q0 Xo;split <;> exact this
end
theorem Uq(kind:Int)(e:aH):1<=(wrE kind e).length:=by unfold wrE;simp only[List.length_append,List.length_cons];omega
theorem gk{kind lev:Int}{l:List aH}(h:(wr kind lev l).length<=224):l.length<=221:=by
 have:∀l:List aH,l.length<=(l.flatMap (wrE kind)).length:=by
  intro l
  induction l with
  | nil=>simp
  | cons e l ih=>have:=Uq kind e;simp only[List.flatMap_cons,List.length_append,List.length_cons];omega
 have:=this l;unfold wr at h;simp only[List.length_append,List.length_cons,List.length_nil]at h;omega
section
variable {w:Wd} {b:Sl} {P:List Int}
def Hw(n0:Nat)(cX:Wd)(K:Int->Int->Sl->Int->Int->Pw):Prop:=
 ∃sE:Value,Cell cX (Addr.mk (n0+5) 0 none) (sE)/\
 aC pz true sE [.int .i64 1,.func (.func 132) #[] #[]] [.one (.int .u64)] (fun r c_=>
 Ar .u8 r fun z=>
 aF c_ (Addr.mk (n0+1) 0 none) (.int .u8 z) fun dU=>
 ∃vj:Value,Cell dU (Addr.mk (n0+5) 0 none) (vj)/\
 aC pz true vj [.int .i64 1,.func (.func 133) #[] #[.pointer (some (Addr.mk (n0+1) 0 none))]] [.one (.int .u64)] (fun r_1 oS=>
 Ar .u8 r_1 fun z_1=>
 aF oS ((Addr.mk (n0+1) 0 none).add 1) (.int .u8 z_1) fun hU=>
 ∃Cr:Value,Cell hU (Addr.mk (n0+5) 0 none) (Cr)/\
 aC pz true Cr [.int .i64 1,.func (.func 135) #[] #[.pointer (some (Addr.mk (n0+1) 0 none))]] [.one (.int .u64)] (fun Ur vK=>
 ∃J5:Pw,(
 ag vK (.cells [.int .i64 0].toArray 3) fun CG yX=>
 aF yX (Addr.mk CG 0 none) (.int .i64 0) fun pG=>
 ∃I1:Nat->Addr->Pw,(∃m,I1 m (Addr.mk CG 0 none) pG)/\∀(_:Env)(m0:Nat)(i:Addr)(xD:Wd),I1 m0 i xD->
 ∃J4:Pw,(
 ∃Rh:Int,Cell xD i (.int .i64 Rh)/\
 Ar .i64 Ur fun Tx=>
 If (decide (Rh < Tx)) (
 ∃Ri:Int,Cell xD (Addr.mk (n0+3) 0 none) (.int .i64 Ri)/\
 If (decide (Ri < 0)) (
 J4 xD) (
 J5 xD)) (
 J5 xD))/\∀(_:Env)(py:Wd),J4 py->
 ag py (.cells (uu 0 0 0 0 0 0 0).toArray 151) fun Is xY=>
 aC pz true (.func (.func 127) #[] #[.pointer (some (Addr.mk (n0+5) 0 none)),.pointer (some (Addr.mk (n0+2) 0 none)),.pointer (some (Addr.mk (n0+3) 0 none)),.pointer (some (Addr.mk n0 0 none))]) [.func (.func 136) #[] #[.pointer (some (Addr.mk (n0+1) 0 none)),.pointer (some i)]] [.one (.sl)] (fun OJ CH=>
 aF CH (Addr.mk Is 0 none) OJ.u fun fM=>
 ∃J3:Pw,(
 ∃J2:Bool->Pw,(
 ∃S:Pw,S (aa fM)/\
 ∃qW:Int,ae S (Addr.mk (n0+3) 0 none) (.int .i64 qW)/\
 If (decide (qW < 0)) (
 ∃pA:Int,ae S i (.int .i64 pA)/\
 If (decide (pA > 0)) (
 ∃sL:Sl,ae S ((Addr.mk (n0+1) 0 none).add 2) sL.u/\
 ∃sM:Int,ae S i (.int .i64 sM)/\
 Ar .i64 (sM - 1) fun Tz=>
 Ix sL.a sL.len Tz 9 fun a=>
 ∃iQ:Sl,ae S a iQ.u/\
 ∃ma:Sl,ae S (Addr.mk Is 0 none) ma.u/\
 cz iQ ma (aa fM) fun VN Fs=>
 S Fs/\
 J2 (decide (VN≥0)) Fs) (
 J2 false ((aa fM)))) (
 J2 false ((aa fM))))/\∀(_:Env)(t:Bool)(yY:Wd),J2 t yY->
 If t (
 ∃nZ:Value,Cell yY (Addr.mk (n0+4) 0 none) (nZ)/\
 ∃Ft:Int,Cell yY (Addr.mk (n0+2) 0 none) (.int .i64 Ft)/\
 ∃zZ:Sl,Cell yY (Addr.mk Is 0 none) zZ.u/\
 Ar .i64 (Ft - ((zZ.len:Int))) fun Us=>
 aC pz true nZ [.int .i64 Us] [] (fun Bc=>
 J3 Bc) cf yY) (
 J3 yY))/\∀(_:Env)(Bd:Wd),J3 Bd->
 ∃J1:Pw,(
 ∃tG:Int,Cell Bd (Addr.mk (n0+1) 0 none) (.int .u8 tG)/\
 If (tG == 2) (
 aC pz true (.func (.func 130) #[] #[.pointer (some (Addr.mk (n0+3) 0 none)),.pointer (some (Addr.mk (n0+2) 0 none)),.pointer (some (Addr.mk n0 0 none)),.pointer (some (Addr.mk (n0+4) 0 none)),.pointer (some (Addr.mk (n0+5) 0 none)),.pointer (some (Addr.mk (n0+6) 0 none))]) [] [.agg [.one (.int .u32),.one (.int .u64),.one (.int .u16)]] (fun r0 Rb JL Ba=>
 List.length (α:=Value) (iY r0 Rb JL)=3/\jB Ba ((Addr.mk Is 0 none).add 6) (iY r0 Rb JL) fun Tv=>
 J1 Tv) cf Bd) (
 ∃uV:Value,Cell Bd (Addr.mk (n0+5) 0 none) (uV)/\
 aC pz true uV [.int .i64 1,.func (.func 138) #[] #[]] [.one (.int .u64)] (fun K1 OG=>
 If (K1 == 1) (
 ∃tH:Value,Cell OG (Addr.mk (n0+5) 0 none) (tH)/\
 aC pz true tH [.int .i64 2,.func (.func 139) #[] #[]] [.one (.int .u64)] (fun Tw w33=>
 Ar .i64 Tw fun Uo=>
 aF w33 ((Addr.mk Is 0 none).add 2) (.int .i64 Uo) fun qT=>
 aC pz true (.func (.func 130) #[] #[.pointer (some (Addr.mk (n0+3) 0 none)),.pointer (some (Addr.mk (n0+2) 0 none)),.pointer (some (Addr.mk n0 0 none)),.pointer (some (Addr.mk (n0+4) 0 none)),.pointer (some (Addr.mk (n0+5) 0 none)),.pointer (some (Addr.mk (n0+6) 0 none))]) [] [.agg [.one (.int .u32),.one (.int .u64),.one (.int .u16)]] (fun LY LZ L_ Zy=>
 List.length (α:=Value) (iY LY LZ L_)=3/\jB Zy ((Addr.mk Is 0 none).add 3) (iY LY LZ L_) fun Ma=>
 J1 Ma) cf qT) cf OG) (
 aC pz true (.func (.func 127) #[] #[.pointer (some (Addr.mk (n0+5) 0 none)),.pointer (some (Addr.mk (n0+2) 0 none)),.pointer (some (Addr.mk (n0+3) 0 none)),.pointer (some (Addr.mk n0 0 none))]) [.func (.func 140) #[] #[]] [.one (.sl)] (fun Rc OH=>
 aF OH ((Addr.mk Is 0 none).add 1) Rc.u fun w38=>
 J1 w38) cf OG)) cf Bd))/\∀(_:Env)(yZ:Wd),J1 yZ->
 ∃CI:Sl,Cell yZ ((Addr.mk (n0+1) 0 none).add 2) CI.u/\
 ∃r_:Sl,Cell yZ (Addr.mk Is 0 none) r_.u/\
 ∃sd:Sl,Cell yZ ((Addr.mk Is 0 none).add 1) sd.u/\
 ∃mq:Int,Cell yZ ((Addr.mk Is 0 none).add 2) (.int .i64 mq)/\
 ∃uF:Int,Cell yZ ((Addr.mk Is 0 none).add 3) (.int .u32 uF)/\
 ∃se:Int,Cell yZ ((Addr.mk Is 0 none).add 4) (.int .u64 se)/\
 ∃ow:Int,Cell yZ ((Addr.mk Is 0 none).add 5) (.int .u16 ow)/\
 ∃Rk:Int,Cell yZ ((Addr.mk Is 0 none).add 6) (.int .u32 Rk)/\
 ∃CJ:Int,Cell yZ ((Addr.mk Is 0 none).add 7) (.int .u64 CJ)/\
 ∃vL:Int,Cell yZ ((Addr.mk Is 0 none).add 8) (.int .u16 vL)/\
 ag yZ (.cells (ur r_ sd mq uF se ow Rk CJ vL).toArray 151) fun Xp Rl=>
 bz pz 140 140 CI (.slice (some (Addr.mk Xp 0 none)) 1 1) (fun s wE=>
 aF wE ((Addr.mk (n0+1) 0 none).add 2) s.u fun uG=>
 ∃CK:Int,Cell uG i (.int .i64 CK)/\
 ag uG (.cells [.int .i64 0].toArray 3) fun Ut Ql=>
 aF Ql (Addr.mk Ut 0 none) (.int .i64 CK) fun It=>
 ∃Fu:Int,Cell It (Addr.mk Ut 0 none) (.int .i64 Fu)/\
 Ar .i64 (Fu+1) fun Xq=>
 aF It (Addr.mk Ut 0 none) (.int .i64 Xq) fun Rm=>
 ∃m1,m1 < m0/\I1 m1 (Addr.mk Ut 0 none) Rm) Rl) cf xY)/\∀(_:Env)(VO:Wd),J5 VO->
 ∃J0:Pw,(
 ∃I0:Nat->Pw,(∃m,I0 m VO)/\∀(_:Env)(aaH:Nat)(Nt:Wd),I0 aaH Nt->
 ∃z_:Int,Cell Nt (Addr.mk (n0+3) 0 none) (.int .i64 z_)/\
 If (decide (z_ < 0)) (
 ∃Aa:Int,Cell Nt (Addr.mk (n0+2) 0 none) (.int .i64 Aa)/\
 If (decide (Aa < 224)) (
 ∃CL:Value,Cell Nt (Addr.mk (n0+5) 0 none) (CL)/\
 aC pz true CL [.int .i64 1,.func (.func 141) #[] #[]] [.one (.int .u64)] (fun _r_8 JN=>
 ∃aaI,aaI < aaH/\I0 aaI JN) cf Nt) (
 J0 Nt)) (
 J0 Nt))/\∀(_:Env)(Be:Wd),J0 Be->
 ∃Ab:Int,Cell Be (Addr.mk (n0+3) 0 none) (.int .i64 Ab)/\
 If (decide (Ab≥0)) (
 ∃S:Pw,S (aa Be)/\
 ∃CM:Int,ae S (Addr.mk (n0+3) 0 none) (.int .i64 CM)/\
 List.length (α:=Value) (kK 0 0)=3/\jB (aa Be) (Addr.mk (n0+1) 0 none) (kK 0 0) fun Qm=>
 S Qm/\
 ∃Bf:Int,Cell Qm (Addr.mk (n0+1) 0 none) (.int .u8 Bf)/\
 ∃Bg:Int,Cell Qm ((Addr.mk (n0+1) 0 none).add 1) (.int .u8 Bg)/\
 ∃n_:Sl,Cell Qm ((Addr.mk (n0+1) 0 none).add 2) n_.u/\
 K Bf Bg n_ 5 CM Qm) (
 ∃sN:Int,Cell Be (Addr.mk (n0+1) 0 none) (.int .u8 sN)/\
 ∃tI:Int,Cell Be ((Addr.mk (n0+1) 0 none).add 1) (.int .u8 tI)/\
 ∃oc:Sl,Cell Be ((Addr.mk (n0+1) 0 none).add 2) oc.u/\
 List.length (α:=Value) (dr sN tI oc)=3/\jB Be (Addr.mk (n0+1) 0 none) (dr sN tI oc) fun OK=>
 ∃lz:Int,Cell OK (Addr.mk (n0+1) 0 none) (.int .u8 lz)/\
 ∃lC:Int,Cell OK ((Addr.mk (n0+1) 0 none).add 1) (.int .u8 lC)/\
 ∃ng:Sl,Cell OK ((Addr.mk (n0+1) 0 none).add 2) ng.u/\
 K lz lC ng 0 0 OK)) cf hU) cf dU) cf cX
theorem xE{K:Int->Int->Sl->Int->Int->Pw}(hb:cZ w.heap b P)(h8:B8 P)(hl:P.length=224)
  (k:∀cX,eU cX.heap w.heap.size b P 0 0 ⟨none,0,0⟩ 0 (-1)->cX.heap.size=w.heap.size+7->Ext No w cX->Hw w.heap.size cX K):gm b w K:=by
 apply Ed;have oR:=cZ.len hb
 refine ag.mk fun b1 w1 n1=>ag.mk fun b2 w2 n2=>⟨_,Cell.ai (ad n1.get n2.ext) rfl,If.bne (fun h=>by omega) fun _=>?_⟩
 refine ag.mk fun b3 w4 n4=>ag.mk fun b4 w5 n5=>?_
 have gE:=n1.at_;have lO:=n2.at_;have xB:=n4.at_;have Io:=n5.at_;have z1:=n1.size;have z2:=n2.size;have z4:=n4.size;have z5:=n5.size;refine aF.b1 (ad n4.get n5.ext) rfl fun w6 h6=>aF.b1 (T:=3) (v:= .int .i64 0) (by rw[h6.other (by omega)];exact n5.get) rfl fun w7 h7=>ag.mk fun b5 w8 n8=>aF.b1 n8.get rfl fun w9 h9=>ag.mk fun b6 dA mH=>aF.b1 mH.get rfl fun dg wD=>ag.mk fun b7 eG lD=>aF.b1 lD.get rfl fun cX Rn=>?_
 have Qi:=n8.at_;have hb6:=mH.at_;have hb7:=lD.at_;have z6:=h6.size;have z7:=h7.size;have z8:=n8.size;have z9:=h9.size;have LS:=mH.size;have Re:=wD.size;have Ro:=lD.size;have K2:=Rn.size;have x2:Ext No w w2:=n1.ext.no n2.ext;have x5:=(x2.no n4.ext).no n5.ext;have eE:Ext No w cX:=(((((((x5.trans h6.ext fun i hi h=>by omega).trans h7.ext fun i hi h=>by omega).no n8.ext).trans h9.ext fun i hi h=>by omega).no mH.ext).trans wD.ext fun i hi h=>by omega).no lD.ext).trans Rn.ext fun i hi h=>by omega
 have k:=k cX;generalize yR:w.heap.size=n0 at *;have e1:b1=n0:=by omega
 have e2:b2=n0+1:=by omega
 have e3:b3=n0+2:=by omega
 have e4:b4=n0+3:=by omega
 have e5:b5=n0+4:=by omega
 have e6:b6=n0+5:=by omega
 have e7:b7=n0+6:=by omega
 subst e1 e2 e3 e4 e5 e6 e7;have ZC:∀{i:Nat}{o:Obj},i≠b1+6->eG.heap[i]? = some o->cX.heap[i]? = some o:=fun hi ho=>by rw[Rn.other hi];exact ho
 have ZD:∀{i:Nat}{o:Obj},i≠b1+5->i≠b1+6->dA.heap[i]? = some o->cX.heap[i]? = some o:=fun hi h6 ho=>ZC h6 (ad (by rw[wD.other hi];exact ho) lD.ext)
 have y9:∀{i:Nat}{o:Obj},i≠b1+4->i≠b1+5->i≠b1+6->w8.heap[i]? = some o->cX.heap[i]? = some o:=fun h4 h5 h6 ho=>ZD h5 h6 (ad (by rw[h9.other h4];exact ho) mH.ext)
 have y7:∀{i:Nat}{o:Obj},i < b1+4->w7.heap[i]? = some o->cX.heap[i]? = some o:=fun hi ho=>y9 (by omega) (by omega) (by omega) (ad ho n8.ext)
 have y5:∀{i:Nat}{o:Obj},i < b1+2->w5.heap[i]? = some o->cX.heap[i]? = some o:=fun hi ho=>y7 (by omega) (by rw[h7.other (by omega),h6.other (by omega)];exact ho)
 refine k ⟨y5 (by omega) (ad n1.get ((n2.ext.no n4.ext).no n5.ext)),y5 (by omega) (ad n2.get (n4.ext.no n5.ext)),y7 (by omega) ?_,y7 (by omega) ?_,?_,?_,?_,Rd.no hb eE,fun i hi bC=>?_,h8,hl⟩ (by omega) eE
 .rw[h7.other (by omega)];exact h6.get (ad n4.get n5.ext)
 .exact h7.get (by rw[h6.other (by omega)];exact n5.get)
 .exact ZD (by omega) (by omega) (ad (h9.get n8.get) mH.ext)
 .exact ZC (by omega) (ad (wD.get mH.get) lD.ext)
 .exact Rn.get lD.get
 .obtain⟨bb,o,ha,hc⟩:=Rd.at_ hb (by simpa using bC);have:i=bb:=by simp[Sl.aq,ha]at hi;exact hi.symm
  subst this;have:=qb (hc 0 (by simp;omega));omega
end
section
variable {w:Wd} {n0:Nat} {b:Sl} {P:List Int} {kind lev:Int} {ls:Sl} {place fault:Int}
structure adv(w0:Wd)(n0:Nat)(b:Sl)(P:List Int)(kind lev:Int)(l:List aH)(j:Nat)(bi:Nat)(w:Wd)(ls:Sl)(L:List (aL×aH)):Prop where
 d:eU w.heap n0 b P kind lev ls ((([kind,lev,(l.length % 256:Int)]++(l.take j).flatMap (wrE kind)).length:Nat):Int) (-1)
 nd:iP w.heap (n0+7) ls L
 el:ents L=l.take j
 hi:w.heap[bi]? = some (.cells [.int .i64 (j:Int)].toArray 3 (0,0))
 lo:n0+7<=bi
 ne:ls.aq≠some bi
 x:Ext No w0 w
set_option maxHeartbeats 4000000 in
theorem Fv{l:List aH}{K:Int->Int->Sl->Int->Int->Pw}(hb:cZ w.heap b (pad (wr kind lev l)))(hr:aJ kind lev l)(hs:(wr kind lev l).length<=224)(h8:B8 (pad (wr kind lev l)))(DU:∀e∈l,e.ch.ok/\e.cd.ok)
  (k:∀s L w',iP w'.heap w.heap.size s L->ents L=l->Ext No w w'->K kind lev s 0 0 w'):gm b w K:=by
 have IZ:=gk hs;have Tt:(pad (wr kind lev l)).length=224:=Np hs;refine xE hb h8 Tt fun cX d13 K2 eE=>?_
 have BA:(kind=1/\lev=0)∨(kind=2/\1<=lev/\lev<=30):=hr.shape;generalize yR:w.heap.size=n0 at *;have agc:((l.length:Int) % 256)=l.length:=by omega
 have hP0:pad (wr kind lev l)=[kind,lev,((l.length:Int) % 256)]++(l.flatMap (wrE kind)++List.replicate (224 - (wr kind lev l).length) 0):=by simp[pad,wr]
 have Ho:=fun i (hi:i < l.length)=>Xm (kind:=kind) (lev:=lev) hi
 generalize hP:pad (wr kind lev l)=P at *;unfold Hw;have nY:∀{a c:Wd}{S:Nat->Prop},Ext No w a->Ext S a c->(∀i,S i->n0<=i)->Ext No w c:=fun x y h=>x.trans y fun i hi hS=>by have:=h i hS;omega
 -- the kind
 refine⟨_,Cell.ai d13.c6 rfl,jV (pre:=[]) (x:=[kind]) (suf:=[lev,((l.length:Int) % 256)]++(l.flatMap (wrE kind)++List.replicate (224 - (wr kind lev l).length) 0)) d13 (by rw[hP0];rfl) rfl (by decide) (by decide) (fun K' hK=>rX (rW ?_)) fun c_ d14 gH TA=>?_⟩
 .have e:num [kind]=kind:=by simp[num]
  unfold mC;rw[e];refine If.beq (fun _=>hK) fun h=>?_
  rw[show(kind == 2)=true by simp;omega];exact hK
 have e:num [kind]=kind:=by simp[num]
 rw[e];refine Ar.u8 (by omega) (aF.mk d14.c2 (by simp) rfl fun dU Mb=>?_);have d15:eU dU.heap n0 b P kind 0 ⟨none,0,0⟩ ((([kind]:List Int).length:Nat):Int) (-1):=d14.setNode Mb;have pH:=nY (nY eE gH fun i h=>by omega) Mb.ext fun i h=>by have h:i=n0+1:=h;omega
 -- the level
 have e:num [lev]=lev:=by simp[num]
 refine⟨_,Cell.ai d15.c6 rfl,jV (x:=[lev]) (suf:=[((l.length:Int) % 256)]++(l.flatMap (wrE kind)++List.replicate (224 - (wr kind lev l).length) 0)) d15 (by rw[hP0];rfl) rfl (by decide) (by decide) (fun K' hK=>AB (AA ?_)) fun oS d16 qX z16=>?_⟩
 .rw[e];refine⟨_,Cell.ai d15.c2 rfl,Ar.u8 (by omega) (Cw ?_)⟩;rw[decide_eq_true hr.shape];exact hK
 rw[e];refine Ar.u8 (by omega) (aF.mk d16.c2 (by simp) rfl fun hU K3=>?_);have d17:eU hU.heap n0 b P kind lev ⟨none,0,0⟩ ((([kind,lev]:List Int).length:Nat):Int) (-1):=d16.setNode K3;have uW:=nY (nY pH qX fun i h=>by omega) K3.ext fun i h=>by have h:i=n0+1:=h;omega
 -- how many
 have e:num [((l.length:Int) % 256)]=l.length:=by simp[num];omega
 refine⟨_,Cell.ai d17.c6 rfl,jV (x:=[((l.length:Int) % 256)]) (suf:=l.flatMap (wrE kind)++List.replicate (224 - (wr kind lev l).length) 0) d17 (by rw[hP0];rfl) rfl (by decide) (by decide) (fun K' hK=>Az (Ay ?_)) fun vK d18 Bh z18=>?_⟩
 .rw[e]
  refine If.dec (fun _=>hK) fun h=>⟨_,Cell.ai d17.c2 rfl,?_⟩
  have:kind≠2:=fun h2=>hr.some h2 (List.eq_nil_of_length_eq_zero (by omega))
  rw[show(kind == 1)=true by simp;omega];exact hK
 rw[e];have Rp:=nY uW Bh fun i h=>by omega
 have agd:vK.heap.size=n0+7:=by have:=Mb.size;have:=K3.size;omega
 refine⟨fun w'=>∃s L,iP w'.heap (n0+7) s L/\ents L=l/\Ext No w w'/\eU w'.heap n0 b P kind lev s ((wr kind lev l).length:Nat) (-1),?_,?_⟩
 .refine ag.mk fun b8 yX Qn=>aF.b1 Qn.get rfl fun pG Rq=>?_
  have z19:=Qn.size;have z20:=Rq.size;have OB:=Qn.at_;refine⟨fun m i w'=>∃j bi ls L,i=A1 bi/\j<=l.length/\m=l.length - j/\adv w n0 b P kind lev l j bi w' ls L,⟨l.length,0,b8,⟨none,0,0⟩,[],rfl,by omega,by omega,?_,iP.nil _ _,by simp,Rq.get Qn.get,by omega,by simp[Sl.aq],nY (Rp.no Qn.ext) Rq.ext fun i h=>by omega⟩,?_⟩
  .have:=(d18.no Qn.ext).ext Rq.ext fun i hi h=>by omega
   simpa using this
  rintro _ m0 i xD ⟨j,bi,ls,L,rfl,hj,hm,D⟩;refine⟨fun w'=>w'=xD/\j < l.length,?_,?_⟩
  .refine⟨_,Cell.ai D.hi rfl,Ar.i64 (by omega) (If.dec (fun h=>⟨_,Cell.ai D.d.c4 rfl,If.dec (fun _=>⟨rfl,by omega⟩) fun h=>by omega⟩) fun h=>?_)⟩;have fh:j=l.length:=by omega
   refine⟨ls,L,D.nd,by rw[D.el,fh,List.take_length],D.x,?_⟩;have:=D.d;rw[fh,List.take_length]at this;exact this
  rintro _ py ⟨rfl,fh⟩;have hcj:=Ho j fh;generalize Oz:[kind,lev,((l.length:Int) % 256)]++(l.take j).flatMap (wrE kind)=pre at *;generalize age:(l.drop (j+1)).flatMap (wrE kind)++List.replicate (224 - (wr kind lev l).length) 0=suf at *;have TB:=hr.iw j fh;have hoe:=DU _ (List.getElem_mem fh);generalize Xr:l[j]=e at *
  have agf:e.key.length<=32:=by
   have:=TB.1;unfold nf at this;split at this <;> omega
  have ek:((e.key.length:Int) % 256)=e.key.length:=by omega
  have dd:=D.d;rw[Oz]at dd;have Zt:=blt D.hi;refine ag.mk fun b9 xY Rr=>?_
  have Un:=Rr.at_;have z23:=Rr.size;have d23:=dd.no Rr.ext;have aaJ:=ad D.hi Rr.ext;have hPk:P=pre++(((e.key.length:Int))::e.key++(restB kind e++suf)):=by rw[hcj,Ra,ek];simp
  have VP:B8 e.key:=h8.sub fun y hy=>by rw[hPk];simp[hy]
  have h8r:B8 (restB kind e):=h8.sub fun y hy=>by rw[hPk];simp[hy]
  refine Ns (x:=e.key) (suf:=restB kind e++suf) d23 hPk (by have:=D.lo;omega) rfl (fun w' K' x' hK=>Ax (Aw ?_)) fun r3 CH d24 o24 sf=>?_
  .refine⟨_,Cell.ai (ad d23.c2 x') rfl,_,Cell.ai (ad aaJ x') rfl,Ar.i64 (by omega) (Jz ?_)⟩;rw[decide_eq_true TB.1];exact hK
  have lo:=D.lo;have wB:=af Rr.get sf (by omega);refine aF.mk wB (by simp) rfl fun fM TC=>?_
  have Nu:fM.heap[b9]? = some (.cells (aL.cs ⟨r3,⟨none,0,0⟩,0,.z,.z⟩).toArray 151 (0,0)):=TC.get wB;have vM:Ext (·=b9) CH fM:=TC.ext;have z25:fM.heap.size=CH.heap.size:=TC.size;have s24:=sf.size
  have d25:eU fM.heap n0 b P kind lev ls ((pre++((e.key.length:Int)::e.key)).length:Nat) (-1):=by
   have e5:(((pre++((e.key.length:Int)::e.key)).length:Nat):Int)=(pre.length:Int)+1+e.key.length:=by simp;omega
   rw[e5];exact d24.ext vM fun q hq h=>by omega
  have o25:aU fM.heap xY.heap.size r3 e.key:=o24.ext vM fun q hq h=>by have:=(o24.lt hq).1;omega
  have Xs:Ext (fun q=>q=n0+2∨q=b9) py fM:=((Rr.ext.aG).trans (sf.mono fun _ _ h=> .inl h) fun _ _ h=>h).trans vM fun _ _ h=> .inr h
  have Xt:iP fM.heap (n0+7) ls L:=D.nd.ext Xs fun q h1 h2 h=>by omega
  have aaK:=af D.hi Xs (by omega);refine⟨fun w'=>w'=aa fM,⟨fun t w'=>t=false/\w'=aa fM,?_,?_⟩,?_⟩
  .refine⟨Ext No fM,(Ext.refl _ _).drew,_,ae.cell (Cell.ai d25.c4 rfl),If.dec (fun _=>⟨_,ae.cell (Cell.ai aaK rfl),If.dec (fun h0=>?_) fun _=>⟨rfl,rfl⟩⟩) fun _=>⟨rfl,rfl⟩⟩;have JO:L.length=j:=by have:=congrArg List.length D.el;simp only[List.length_map,List.length_take]at this;omega
   have nl:=Xt.nd.len;refine⟨_,ae.cell (Cell.ai d25.c2 rfl),_,ae.cell (Cell.ai aaK rfl),Ar.i64 (by omega) (Ix.elem Xt.own.rd (bX L) (by decide) (by omega) (by omega) fun b2 o2 qp _ hc=>⟨_,ae.cell (hc 0 _ rfl),_,ae.cell (Cell.ai Nu rfl),?_⟩)⟩;have e2:((j:Int) - 1).toNat=j - 1:=by omega
   simp only[e2]at qp ⊢;have ea:=Xt.nd.get qp
   have hlk:L[j - 1].2=l[j - 1]:=by
    have:(ents L)[j - 1]? = (l.take j)[j - 1]?:=by rw[D.el]
    rw[List.getElem?_map,List.getElem?_eq_getElem qp,List.getElem?_take_of_lt (by omega),List.getElem?_eq_getElem (by omega)]at this;simpa using this
   refine hO (w:=aa fM) ea.k o25.rd ea.k8 VP ⟨(Ext.refl _ _).drew,decide_eq_false fun hc=>?_,rfl⟩;have:=hr.ord (j - 1) (by omega);simp only[show j - 1+1=j by omega]at this;rw[hlk]at hc;exact nc.1 hc (by rw[<- Xr];exact this)
  .rintro _ t yY ⟨rfl,rfl⟩;exact If.no rfl
  rintro _ Bd rfl;refine⟨fun w'=>∃x,Got w' n0 b9 fM.heap.size r3 e x/\eU w'.heap n0 b P kind lev ls (pre.length+(wrE kind e).length) (-1)/\Ext (fun q=>q=n0+2∨q=b9) fM w',?_,?_⟩
  .refine Um (w:=aa fM) (pre:=pre++((e.key.length:Int)::e.key)) (suf:=suf) d25 (by rw[hPk];simp) (by omega) Nu TB hoe.1 hoe.2 fun w' x gx dx xx=>⟨x,gx,?_,xx.aj⟩
   have e5:(((pre++((e.key.length:Int)::e.key)).length:Nat):Int)+((restB kind e).length:Nat)=(pre.length:Int)+((wrE kind e).length:Nat):=by rw[Ra];simp;omega
   rw[<- e5];exact dx
  rintro _ yZ ⟨x,gx,d39,Md⟩;have s39:=Md.size;refine⟨_,Cell.ai d39.c2 rfl,fx gx.aq (ag.mk fun b10 Rl Uu=>?_)⟩;have Rs:Ext (fun q=>q=n0+2∨q=b9) py yZ:=Xs.trans Md fun _ _ h=>h
  have Rt:iP Rl.heap (n0+7) ls L:=(D.nd.ext Rs fun q h1 h2 h=>by omega).no Uu.ext;have d40:=d39.no Uu.ext;have adw:=ad (af D.hi Rs (by omega)) Uu.ext;have z40:=Uu.size;have oe:aT Rl.heap yZ.heap.size 151 9 ⟨some ⟨b10,0,none⟩,1,1⟩ x.cs:=aT.new (n:=1) (sz:=9) Uu rfl (by intro v hv;unfold aL.cs at hv;simp only[List.mem_cons,List.not_mem_nil,or_false]at hv;rcases hv with h | h | h | h | h | h | h | h | h <;> subst h <;> rfl);have nl:=Rt.nd.len;have JO:L.length=j:=by have:=congrArg List.length D.el;simp only[List.length_map,List.length_take]at this;omega
  have o39:aU yZ.heap xY.heap.size r3 e.key:=o25.ext Md fun q hq h=>by have:=(o25.lt hq).1;omega
  have kb:∀q,x.k.aq=some q->n0+7<=q/\q < Rl.heap.size/\ls.aq≠some q:=fun q hq=>by
   rw[gx.k]at hq;have:=o39.lt hq;refine⟨by omega,by omega,fun hls=>?_⟩;have:=(D.nd.own.lt hls).2;omega
  have vb:∀q,x.v.aq=some q->n0+7<=q/\q < Rl.heap.size/\ls.aq≠some q:=fun q hq=>by
   have:=gx.vb q hq;refine⟨by omega,by omega,fun hls=>?_⟩;have:=(D.nd.own.lt hls).2;omega
  have er:mG Rl.heap x e:=by
   refine⟨by rw[gx.k];exact o39.rd.no Uu.ext,gx.v.no Uu.ext,gx.n,gx.ch,gx.cd,VP,?_,?_,hoe.1,hoe.2⟩
   .intro y hy;refine h8r y ?_;have oz:=TB.2;unfold restB;split at oz
    .rw[List.eq_nil_of_length_eq_zero oz.2.2.1]at hy;cases hy
    .rename_i h2;rw[if_neg h2];obtain⟨_,oz⟩:=oz;split at oz
     .rw[if_neg (by omega)];simp[hy]
     .rw[List.eq_nil_of_length_eq_zero oz.2.2.2]at hy;cases hy
   .have oz:=TB.2;split at oz
    .omega
    .obtain⟨_,oz⟩:=oz;split at oz <;> omega
  refine gn Rt.own (by omega) oe.rd.src (by simp only;omega) fun s41 wE o41 _ x41 oR=>?_
  have adx:iP wE.heap (n0+7) s41 (L++[(x,e)]):=iP.push (p:=(x,e)) Rt o41 x41 oR er kb vb;have agh:=x41.size;have d41:=d40.ext x41 fun q hq h=>by have:=(Rt.own.lt h).1;omega
  have ady:=af adw x41 D.ne;refine aF.mk d41.c2 (by simp) rfl fun uG Uv=>?_
  have d42:eU uG.heap n0 b P kind lev s41 (pre.length+(wrE kind e).length) (-1):=d41.setNode Uv;have Nv:Ext (·=n0+1) wE uG:=Uv.ext;have z42:uG.heap.size=wE.heap.size:=Uv.size;have aaL:iP uG.heap (n0+7) s41 (L++[(x,e)]):=adx.ext Nv fun q h1 h2 h=>by omega
  have adz:=af ady Nv (by omega);refine⟨_,Cell.ai adz rfl,ag.mk fun b11 Ql Xu=>aF.b1 Xu.get rfl fun It h44=>⟨_,Cell.ai (h44.get Xu.get) rfl,Ar.i64 (by omega) (aF.b1 (h44.get Xu.get) rfl fun Rm ZE=>?_)⟩⟩;have agi:=Xu.at_;have z43:=Xu.size;have z44:=h44.size;have z45:=ZE.size;have xf:Ext (·=b11) uG Rm:=((Xu.ext.aG).trans h44.ext fun _ _ h=>h).trans ZE.ext fun _ _ h=>h
  have agj:=Uu.ext.size;refine⟨l.length - (j+1),by omega,j+1,b11,s41,L++[(x,e)],rfl,by omega,rfl,?_,aaL.ext xf (fun q h1 h2 h=>by omega),?_,?_,by omega,fun h=>?_,?_⟩
  .have e6:(([kind,lev,((l.length:Int) % 256)]++(l.take (j+1)).flatMap (wrE kind)).length:Nat)=pre.length+(wrE kind e).length:=by
    rw[List.take_add_one,List.getElem?_eq_getElem fh,Xr,<- Oz];simp;omega
   rw[e6];have:=d42.ext xf fun q hq h=>by omega
   simpa using this
  .show List.map Prod.snd (L++[(x,e)])=_;rw[List.map_append,show List.map Prod.snd L=List.take j l from D.el,List.take_add_one,List.getElem?_eq_getElem fh,Xr];rfl
  .exact ZE.get (h44.get Xu.get)
  .have:=(aaL.own.lt h).2;omega
  .refine nY (nY (nY ((nY D.x Rs fun q h=>by omega).no Uu.ext) x41 fun q h=>?_) Nv fun q h=>by omega) xf fun q h=>by omega
   have:=(Rt.own.lt h).1;omega
 .rintro _ VO ⟨s,L,nd,el,Eu,d46⟩;refine⟨fun w'=>iP w'.heap (n0+7) s L/\Ext No w w'/\eU w'.heap n0 b P kind lev s 224 (-1),?_,?_⟩
  .refine⟨fun m w'=>∃i:Nat,m=224 - ((wr kind lev l).length+i)/\(wr kind lev l).length+i<=224/\iP w'.heap (n0+7) s L/\Ext No w w'/\eU w'.heap n0 b P kind lev s (((wr kind lev l++List.replicate i 0).length:Nat):Int) (-1),⟨_,0,rfl,by omega,nd,Eu,by simpa using d46⟩,?_⟩;rintro _ m0 Nt ⟨i,rfl,hi,Ru,wC,d47⟩;refine⟨_,Cell.ai d47.c4 rfl,If.dec (fun _=>⟨_,Cell.ai d47.c3 rfl,If.dec (fun h=>⟨_,Cell.ai d47.c6 rfl,?_⟩) fun h=>?_⟩) fun h=>by omega⟩
   .simp only[List.length_append,List.length_replicate]at h
    have hPi:P=(wr kind lev l++List.replicate i 0)++([0]++List.replicate (224 - (wr kind lev l).length - i - 1) 0):=by
     rw[<- hP];unfold pad;rw[List.append_assoc];congr 1;rw[<- List.replicate_one,List.replicate_append_replicate,List.replicate_append_replicate];congr 1;omega
    refine jV (x:=[0]) d47 hPi rfl (by decide) (by decide) (fun K' hK=>yo (yn hK)) fun JN d48 K4 z48=>?_
    refine⟨224 - ((wr kind lev l).length+(i+1)),by omega,i+1,rfl,by omega,Ru.ext K4 (fun q h1 h2 h=>by omega),nY wC K4 fun q h=>by omega,?_⟩;have e6:(((wr kind lev l++List.replicate i 0).length:Nat):Int)+1=((wr kind lev l++List.replicate (i+1) 0).length:Nat):=by simp;omega
    rw[<- e6];exact d48
   .have e6:(((wr kind lev l++List.replicate i 0).length:Nat):Int)=224:=by
     simp only[List.length_append,List.length_replicate]at h ⊢;omega
    rw[e6]at d47;exact⟨Ru,wC,d47⟩
  rintro _ Be ⟨Rv,Fw,d49⟩;refine⟨_,Cell.ai d49.c4 rfl,If.dec (fun h=>by omega) fun _=>⟨_,Cell.ai d49.c2 rfl,_,Cell.ai d49.c2 rfl,_,Cell.ai d49.c2 rfl,rfl,_,_,_,d49.c2,rfl,by simp,.inr (.inr (Nat.le_refl _)),?_,fun OK h51=>?_⟩⟩
  .intro v hv;simp only[List.mem_cons,List.not_mem_nil,or_false]at hv;rcases hv with h | h | h <;> subst h <;> rfl
  have Xv:OK.heap[n0+1]? = some (.cells [.int .u8 kind,.int .u8 lev,.slice s.a s.len s.cap].toArray 142 (0,0)):=gI.get (b:=n0+1) h51 d49.c2;have x51:Ext (·=n0+1) Be OK:=gI.ext (b:=n0+1) h51;refine⟨_,Cell.ai Xv rfl,_,Cell.ai Xv rfl,_,Cell.ai Xv rfl,k s L OK ((Rv.ext x51 fun q h1 h2 h=>by omega).mono (by omega)) el (nY Fw x51 fun q h=>by omega)⟩
theorem Fx{may:Value}{size:Int}{K:Int->Pw}{rd:Bool}(d:eU w.heap n0 b P kind lev ls place fault)(hf:0<=fault)(k:K 0 w):aC pz rd (Q8 n0) [.int .i64 size,may] [.one (.int .u64)] K cf w:=
 mE (c0:=A1 (n0+3)) (c1:=A1 (n0+2)) (c2:=A1 (n0+4)) (c3:=A1 n0) (mD ⟨_,Cell.ai d.c4 rfl,If.dec (fun _=>k) fun h=>(h hf).elim⟩)
theorem Rw{may:Value}{size:Int}{pre x suf:List Int}{K:Int->Pw}{rd:Bool}(d:eU w.heap n0 b P kind lev ls pre.length (-1))(hP:P=pre++(x++suf))(hx:(x.length:Int)=size)(h1:1<=size)(h8:size<=8)
  (hm:∀K':Bool->Pw,K' false w->aC pz true may [.int .u64 (num x)] [.one (.bool)] K' cf w)
  (k:∀w',eU w'.heap n0 b P kind lev ls pre.length pre.length->Ext (·=n0+3) w w'->w'.heap.size=w.heap.size->K 0 w'):aC pz rd (Q8 n0) [.int .i64 size,may] [.one (.int .u64)] K cf w:=by
 refine mE (c0:=A1 (n0+3)) (c1:=A1 (n0+2)) (c2:=A1 (n0+4)) (c3:=A1 n0) (mD ?_);have Tt:pre.length+(x.length+suf.length)=224:=by rw[<- d.len,hP];simp
 have hx8:B8 x:=d.p8.sub fun y hy=>by rw[hP];simp[hy]
 refine⟨_,Cell.ai d.c4 rfl,If.dec (fun h=>by omega) fun _=>⟨_,Cell.ai d.c3 rfl,Ar.i64 (by omega) (If.dec (fun h=>by omega) fun _=>⟨_,Cell.ai d.c1 rfl,_,Cell.ai d.c3 rfl,_,Cell.ai d.c3 rfl,Ar.i64 (by omega) ?_⟩)⟩⟩;refine Et d.rd hP rfl (by omega) fun s' r'=>nU r' hx8 (by omega) (by omega) (hm _ (If.yes ⟨_,Cell.ai d.c5 rfl,_,Cell.ai d.c3 rfl,AL (LW d (by decide) fun w' h=>?_)⟩))
 exact k w' (d.Q7 h) h.ext h.size
theorem Me{K:Int->Int->Sl->Int->Int->Pw}{x:Int}{P':List Int}(hb:cZ w.heap b (x::P'))(h8:B8 (x::P'))(hl:(x::P').length=224)(hx:x≠1/\x≠2)
  (k:∀w',Ext No w w'->K 0 0 ⟨none,0,0⟩ 5 0 w'):gm b w K:=by
 refine xE hb h8 hl fun cX d13 K2 eE=>?_
 generalize yR:w.heap.size=n0 at *;have nY:∀{a c:Wd}{S:Nat->Prop},Ext No w a->Ext S a c->(∀i,S i->n0<=i)->Ext No w c:=fun x y h=>x.trans y fun i hi hS=>by have:=h i hS;omega
 unfold Hw;refine⟨_,Cell.ai d13.c6 rfl,Rw (pre:=[]) (x:=[x]) (suf:=P') d13 rfl rfl (by decide) (by decide) (fun K' hK=>rX (rW ?_)) fun c_ d14 gH TA=>?_⟩
 .have e:num [x]=x:=by simp[num]
  unfold mC;rw[e];refine If.beq (fun h=>(hx.1 h).elim) fun h=>?_
  rw[show(x == 2)=false by simp[hx.2]];exact hK
 have adA:eU c_.heap n0 b (x::P') 0 0 ⟨none,0,0⟩ 0 0:=d14;refine Ar.u8 (by decide) (aF.mk d14.c2 (by simp) rfl fun dU Mb=>?_);have d15:eU dU.heap n0 b (x::P') 0 0 ⟨none,0,0⟩ 0 0:=adA.setNode Mb;refine⟨_,Cell.ai d15.c6 rfl,Fx d15 (Int.le_refl _) (Ar.u8 (by decide) (aF.mk d15.c2 (by simp) rfl fun hU K3=>?_))⟩;have d17:eU hU.heap n0 b (x::P') 0 0 ⟨none,0,0⟩ 0 0:=d15.setNode K3;have Xw:dU.heap.size=c_.heap.size:=Mb.size;have z17:hU.heap.size=dU.heap.size:=K3.size;have uW:Ext No w hU:=nY (nY (nY eE gH fun i h=>by omega) Mb.ext fun i h=>by have h:i=n0+1:=h;omega) K3.ext fun i h=>by have h:i=n0+1:=h;omega
 refine⟨_,Cell.ai d17.c6 rfl,Fx d17 (Int.le_refl _) ?_⟩;refine⟨fun w'=>Ext No w w'/\eU w'.heap n0 b (x::P') 0 0 ⟨none,0,0⟩ 0 0,?_,?_⟩
 .refine ag.mk fun b8 yX Qn=>aF.b1 Qn.get rfl fun pG Rq=>?_
  have OB:=Qn.at_;have d20:=(d17.no Qn.ext).ext Rq.ext fun i hi h=>by omega
  have uH:Ext No w pG:=nY (uW.no Qn.ext) Rq.ext fun i h=>by omega
  refine⟨fun m i w'=>i=A1 b8/\w'=pG,⟨0,rfl,rfl⟩,?_⟩;rintro _ m0 i xD ⟨rfl,rfl⟩;refine⟨fun _=>False,⟨_,Cell.ai (Rq.get Qn.get) rfl,Ar.i64 (by decide) (If.no ⟨uH,d20⟩)⟩,fun _ _ h=>h.elim⟩
 rintro _ VO ⟨Eu,d46⟩;refine⟨fun w'=>w'=VO,⟨fun m w'=>w'=VO,⟨0,rfl⟩,?_⟩,?_⟩
 .rintro _ m0 Nt rfl;exact⟨_,Cell.ai d46.c4 rfl,If.no rfl⟩
 rintro _ Be rfl;refine⟨_,Cell.ai d46.c4 rfl,If.yes ⟨Ext (·=n0+1) Be,(Ext.refl _ _).drew,_,ae.dQ (Cell.ai d46.c4 rfl) (by omega),rfl,_,_,_,d46.c2,rfl,by simp,.inr (.inr (Nat.le_refl _)),(by decide),fun OK h51=>?_⟩⟩;have Xv:OK.heap[n0+1]? = some (.cells [.int .u8 0,.int .u8 0,.slice none 0 0].toArray 142 (0,0)):=gI.get (b:=n0+1) (w:=aa Be) h51 d46.c2;have x51:Ext (·=n0+1) Be OK:=Ext.aj (gI.ext (b:=n0+1) h51);exact⟨x51,_,Cell.ai Xv rfl,_,Cell.ai Xv rfl,⟨none,0,0⟩,Cell.ai Xv rfl,k _ (nY Eu x51 fun i h=>by omega)⟩
end
section
variable {w:Wd} {T:Nat->Option Nat} {m:bB} {M:Mm}
theorem cK{b n:Nat}{zs vs:List Value}{T:TypeId}{K:Pw}(hb:w.heap[b]? = some (.cells zs.toArray T (0,0)))(hl:vs.length=n)(hz:zs.length=n)(hv:∀v∈vs,aN v=true)
  (k:∀w',w'.heap[b]? = some (.cells vs.toArray T (0,0))->Ext (·=b) w w'->w'.heap.size=w.heap.size->K w'):List.length (α:=Value) vs=n/\jB w (Addr.mk b 0 none) vs K:=by
 refine⟨hl,zs.toArray,T,(0,0),hb,rfl,by simp[hl,hz],.inr (.inr (Nat.le_refl _)),hv,fun w2 hw=>?_⟩;have e:setL zs 0 vs=vs:=Js _ _ (by omega);have LO:gI w b (.cells vs.toArray T (0,0)) w2:=by rw[<- e];exact hw
 exact k w2 (LO.get hb) LO.ext LO.size
abbrev eW(m:bB):Value:= .iface 47 (.pointer (some ⟨m.bm,0,none⟩))
abbrev bE(lev:Int):Int:=if lev=0 then 1 else 2
structure Nw(p:Pg)(l:List aH):Prop where
 right:aJ p.k p.v l
 short:(wr p.k p.v l).length<=224
 ok:∀e∈l,e.ch.ok/\e.cd.ok
 pay:p.pay=pad (wr p.k p.v l)
theorem nh{b2:Nat}{e:Int}{K:Int->Int->Sl->Int->Pw}{zs:List Value}(hb:w.heap[b2]? = some (.cells zs.toArray 142 (0,0)))(hz:zs.length=3)(k:∀w',Ext (·=b2) w w'->K 0 0 ⟨none,0,0⟩ e w') :
  List.length (α:=Value) [.int .u8 0,.int .u8 0,.slice none 0 0]=3/\jB w (Addr.mk b2 0 none) [.int .u8 0,.int .u8 0,.slice none 0 0] fun w6=>
   ∃r_:Int,Cell w6 (Addr.mk b2 0 none) (.int .u8 r_)/\∃sd:Int,Cell w6 ((Addr.mk b2 0 none).add 1) (.int .u8 sd)/\∃mq:Sl,Cell w6 ((Addr.mk b2 0 none).add 2) (.slice mq.a mq.len mq.cap)/\K r_ sd mq e w6:=
 cK hb rfl hz (by decide) fun w' g x _=>⟨_,Cell.ai g rfl,_,Cell.ai g rfl,⟨none,0,0⟩,Cell.ai g rfl,k w' x⟩
set_option maxHeartbeats 1000000 in
theorem OL{t lev:Int}{r:Rf}{l:List aH}{K:Int->Int->Sl->Int->Pw}(R:aY w.heap T m M)
  (k0:∀p s L w',hY r.p M.au=some p->p.t=t->p.v=lev->p.r=r->Nw p l->l≠[]->iP w'.heap w.heap.size s L->ents L=l->Ext No w w'->K (bE lev) lev s 0 w')
  (hc:∀p,hY r.p M.au=some p->p.t=t->p.k=bE lev->p.v=lev->p.r=r->Nw p l∨∃x q,p.pay=x::q/\x≠1/\x≠2)
  (k7:∀w',hY r.p M.au=none->Ext No w w'->K 0 0 ⟨none,0,0⟩ 7 w')
  (Xn:∀p w',hY r.p M.au=some p->¬ (p.t=t/\p.k=bE lev/\p.v=lev/\p.r=r)->Ext No w w'->K 0 0 ⟨none,0,0⟩ 150 w')
  (k5:∀p w',hY r.p M.au=some p->p.t=t->p.k=bE lev->p.v=lev->p.r=r->((l=[]/\Nw p l)∨∃x q,p.pay=x::q/\x≠1/\x≠2)->Ext No w w'->K 0 0 ⟨none,0,0⟩ 5 w'):bn (eW m) t r.p r.c r.g lev w K:=by
 apply wV;refine ag.mk fun b w1 n1=>ag.mk fun b1 w2 n2=>ag.mk fun b2 w3 n3=>?_
 have g0:=ad (ad n1.get n2.ext) n3.ext;have g1:=ad n2.get n3.ext;have g2:=n3.get;have x3:Ext No w w3:=(n1.ext.no n2.ext).no n3.ext;have lO:=n3.at_;have sz:w.heap.size<=b2:=by have:=(n1.ext.no n2.ext).size;omega
 refine⟨fun kd w'=>kd=bE lev/\w'=w3,⟨_,Cell.ai g1 rfl,If.beq (fun h=>⟨by unfold bE;rw[if_pos h],rfl⟩) fun h=>⟨by unfold bE;rw[if_neg h],rfl⟩⟩,?_⟩;rintro _ kd w4 ⟨rfl,rfl⟩;have fin:∀{w5 w6:Wd},Ext No w4 w5->Ext (·=b2) w5 w6->Ext No w w6:=fun x y=>(x3.no x).trans y fun i hi h=>by omega
 refine⟨_,Cell.ai g0 rfl,_,Cell.ai g0 rfl,_,Cell.ai g1 rfl,_,Cell.ai g1 rfl,_,Cell.ai g1 rfl,_,Cell.ai g1 rfl,nR ?_⟩;refine zX (R.no x3) (fun p s w5 hp h1 h2 h3 h4 o5 x5=>If.bne (fun h=>(h rfl).elim) fun _=>?_) (fun w5 hp x5=>If.bne (fun _=>nh (ad g2 x5) rfl fun w6 x6=>k7 _ hp (fin x5 x6)) fun h=>by omega) (fun p w5 hp bC x5=>If.bne (fun _=>nh (ad g2 x5) rfl fun w6 x6=>Xn p _ hp bC (fin x5 x6)) fun h=>by omega);have P4:=(R.no x3).find hp;rcases hc p hp h1 h2 h3 h4 with hl | ⟨x,q,hq,Zs,hx2⟩
 .have aaM:p.pay=pad (wr (bE lev) lev l):=by rw[hl.pay,h2,h3]
  have hr:aJ (bE lev) lev l:=by rw[<- h2,<- h3];exact hl.right
  have hs:(wr (bE lev) lev l).length<=224:=by rw[<- h2,<- h3];exact hl.short
  rw[aaM]at o5;have p8:=P4.p8;rw[aaM]at p8;refine Fv o5.rd hr hs p8 hl.ok fun s6 L w7 o7 eL x7=>bA rfl rfl (by simp[aN]) fun b3 w9 g9 _ _ x9=>If.bne (fun h=>(h rfl).elim) fun _=>?_
  have Fw:Ext No w4 w9:=(x5.no x7).no x9;refine⟨_,Cell.ai g9 rfl,If.bne (fun h=>(h rfl).elim) fun _=>⟨_,Cell.ai g9 rfl,_,Cell.ai (ad g1 Fw) rfl,If.bne (fun h=>(h rfl).elim) fun _=>⟨_,Cell.ai g9 rfl,If.beq (fun h0=>?_) fun h0=>?_⟩⟩⟩
  .refine nh (ad g2 Fw) rfl fun cX eE=>k5 p _ hp h1 h2 h3 h4 (.inl ⟨?_,hl⟩) (fin Fw eE)
   have hLn:L.length=0:=by have:=o7.nd.len;omega
   rw[<- eL];simp[List.eq_nil_of_length_eq_zero hLn]
  .refine⟨_,Cell.ai g9 rfl,_,Cell.ai g9 rfl,_,Cell.ai g9 rfl,cK (ad g2 Fw) rfl rfl (by simp[aN]) fun c_ kM gH _=>⟨_,Cell.ai kM rfl,_,Cell.ai kM rfl,_,Cell.ai kM rfl,?_⟩⟩;refine k0 p s6 L c_ hp h1 h3 h4 hl ?_ ?_ eL (fin Fw gH)
   .intro e;rw[e]at eL;have:L=[]:=by simpa using eL
    have:=o7.nd.len;rw[‹L=[]›]at this;simp at this;omega
   .have hz5:=x5.size;have hz3:=n3.size;refine((o7.no x9).ext gH fun q h1 h2 h=>?_).mono ?_
    .omega
    .have:=x3.size;omega
 .rw[hq]at o5;have p8:=P4.p8;rw[hq]at p8;refine Me o5.rd p8 (by rw[<- hq];exact P4.len) ⟨Zs,hx2⟩ fun w7 x7=>bA rfl rfl (by decide) fun b3 w9 g9 _ _ x9=>If.bne (fun _=>?_) fun h=>by omega
  exact nh (ad g2 ((x5.no x7).no x9)) rfl fun cX eE=>k5 p _ hp h1 h2 h3 h4 (.inr ⟨x,q,hq,Zs,hx2⟩) (fin ((x5.no x7).no x9) eE)
end
end Go.Proofs.YtpjbalhhlaofmaaGreat
namespace Go.V
theorem Xx{kind:Int}{e:aH}(h1:B8 e.key)(h2:B8 e.val):B8 (wrE kind e):=by
 unfold wrE;refine(B8.cons (by omega) h1).append ?_;split
 .exact((jU _ _).append (jU _ _)).append (jU _ _)
 .split
  .exact(B8.cons (by omega) (B8.cons (by omega) (B8.cons (by omega) B8.nil))).append (((jU _ _).append (jU _ _)).append (jU _ _))
  .exact(B8.cons (by omega) (B8.cons (by omega) B8.nil)).append h2
theorem Xy{l:List Int}(h:B8 l):B8 (pad l):=h.append fun x hx=>by rw[List.mem_replicate]at hx;omega
theorem aaN{kind lev:Int}{l:List aH}(hk:0<=kind/\kind<=255)(hv:0<=lev/\lev<=255)(h:∀e∈l,B8 e.key/\B8 e.val):B8 (wr kind lev l):=by
 refine(B8.cons hk (B8.cons hv (B8.cons (by omega) B8.nil))).append fun x hx=>?_
 obtain⟨e,he,hx⟩:=List.mem_flatMap.1 hx;exact Xx (h e he).1 (h e he).2 x hx
end Go.V
namespace Go.Proofs.YtpjbalhhlaofmaaGreat
open Go.V
section
variable {w:Wd} {T:Nat->Option Nat} {m:bB} {M:Mm}
set_option maxHeartbeats 1000000 in
theorem mc{t kind lev:Int}{s:Sl}{L:List (aL×aH)}{K:Int->Int->Int->Int->Int->Pw}(R:aY w.heap T m M)(nd:oQ w.heap s L)(hl:L.length<=65536)(hr:aJ kind lev (ents L))(hs:(wr kind lev (ents L)).length<=224)(hn:M.au.length<=1048576)
  (k:∀n T' m' w',CF M.au n->aY w'.heap T' m' { M with au:=M.au++[(n,⟨t,kind,lev,⟨n,M.aE,M.gen⟩,pad (wr kind lev (ents L)),false⟩)] }->m'.bm=m.bm->Tg w T T'->Ext (Ts T) w w'->K n M.aE M.gen lev 0 w'):cv (eW m) t kind lev s w K:=by
 apply vm;refine ag.mk fun b w1 n1=>ag.mk fun b1 w2 n2=>ag.mk fun b2 w3 n3=>?_
 have g0:=ad (ad n1.get n2.ext) n3.ext;have g1:=ad n2.get n3.ext;have g2:=n3.get;have x3:Ext No w w3:=(n1.ext.no n2.ext).no n3.ext;have z1:=n1.size;have z2:=n2.size;have z3:=n3.size;have hb:=n1.at_;have gE:=n2.at_;have lO:=n3.at_;have Nl:=hr.shape;unfold jk at Nl;refine⟨_,Cell.ai g1 rfl,_,Cell.ai g1 rfl,_,Cell.ai g1 rfl,JB (nd.no x3) hl (fun t4 w4 _ _ o4 x4=>If.bne (fun h=>(h rfl).elim) fun _=>?_) (fun c w4 h _ _=>(h ⟨hr,hs⟩).elim)⟩;have gF:=x3.no x4;refine⟨_,Cell.ai (ad g0 x4) rfl,_,Cell.ai (ad g0 x4) rfl,_,Cell.ai (ad g1 x4) rfl,_,Cell.ai (ad g1 x4) rfl,tv ?_⟩
 have b8:B8 (pad (wr kind lev (ents L))):=Xy (aaN (by omega) (by omega) fun e he=>by
  obtain⟨p,hp,rfl⟩:=List.mem_map.1 he
  exact⟨(nd.iw p hp).k8,(nd.iw p hp).v8⟩)
 have sup:∀q,w.heap.size<=q->¬ Ts T q:=fun q hq h=>by have:=R.sup q h;omega
 refine zY (R.no gF) o4.rd b8 hn (fun n T' m' w6 _ hf R6 WZ hT x6=>bA rfl rfl (by simp[aN]) fun b3 w8 g8 xB z8 x8=>?_) fun w6 h _=>(h (Np hs)).elim
 have vN:=ad (af (ad g1 x4) x6 (sup b1 (by omega))) x8;have g28:=ad (af (ad g2 x4) x6 (sup b2 (by omega))) x8;refine⟨_,Cell.ai g8 rfl,_,Cell.ai g8 rfl,_,Cell.ai g8 rfl,_,Cell.ai vN rfl,cK g28 rfl rfl (by simp[aN]) fun w9 g9 x9 _=>⟨_,Cell.ai g9 rfl,_,Cell.ai g9 rfl,_,Cell.ai g9 rfl,_,Cell.ai g9 rfl,?_⟩⟩;have z4:=x4.size;refine k n T' m' w9 hf ((R6.no x8).ext x9 fun q h=>?_) WZ (fun q hq=>hT q (by have:=gF.size;omega)) ?_
 .rw[h,hT b2 (by omega)]
  cases hT2:T b2 with
  | none=>rfl
  | some t=>exact(sup b2 (by omega) (by show T b2≠none;rw[hT2];simp)).elim
 .exact(((gF.aG).trans x6 fun _ _ h=>h).no x8).trans x9 fun q hq h=>by omega
theorem lE{kind lev:Int}{s:Sl}{L:List (aL×aH)}{i:Int}{K:Int->Int->Int->Int->Pw}(nd:oQ w.heap s L)(h0:0<=i)(hi:i.toNat < L.length)(Mf:1<=lev/\lev<=255)
  (k:∀w',Ext No w w'->K (L[i.toNat].2.cd).p (L[i.toNat].2.cd).c (L[i.toNat].2.cd).g (lev - 1) w'):dw kind lev s i w K:=by
 apply GO;refine ag.mk fun b w1 n1=>ag.mk fun b1 w2 n2=>?_
 have x2:=n1.ext.no n2.ext;have g0:=ad n1.get n2.ext;have nl:=nd.len;have gE:=n2.at_;have z1:=n1.size;have BD:¬ b=b1:=by have:=n1.at_;omega
 refine⟨Ext (·=b1) w2,(Ext.refl _ _).drew,_,ae.dQ (Cell.ai g0 rfl) BD,Ix.elem (nd.no x2).rd (bX L) (by decide) h0 (by omega) fun bb o iv DT hc=>?_⟩
 have cL:bb < w.heap.size:=by
  obtain⟨c,o',ha,hcc⟩:=nd.rd.at_ (by intro h;have:=aK (bX L);rw[h]at this;simp at this;omega);have:bb=c:=by simp[Sl.aq,ha]at DT;exact DT.symm
  subst this;have K0:=aK (bX L);exact qb (hcc 0 (by omega))
 have nb:¬ bb=b1:=by omega
 have er:=(nd.no x2).get iv;refine⟨_,ae.dQ (hc 6 _ rfl) nb,_,ae.dQ (hc 7 _ rfl) nb,_,ae.dQ (hc 8 _ rfl) nb,_,ae.dQ (Cell.ai g0 rfl) BD,Ar.u8 (by omega) ?_⟩
 refine cK (w:=aa w2) n2.get rfl rfl (by simp[aN]) fun w3 g3 x3 _=>⟨x3.aj,_,Cell.ai g3 rfl,_,Cell.ai g3 rfl,_,Cell.ai g3 rfl,_,Cell.ai g3 rfl,?_⟩
 rw[er.cd];exact k w3 (x2.trans x3.aj fun q hq h=>by omega)
structure Rx(l:List aH)(key:List Int)(i:Nat)(f:Bool):Prop where
 le:i<=l.length
 lt:∀j (h:j < l.length),j < i->bW l[j].key key
 ge:∀(h:i < l.length),¬ bW l[i].key key
 eq:f=true ↔ ∃h:i < l.length,l[i].key=key
theorem find_spec{kind lev:Int}{s ks:Sl}{L:List (aL×aH)}{key:List Int}{K:Int->Bool->Pw}(nd:oQ w.heap s L)(hk:cZ w.heap ks key)(k8:B8 key)(hl:L.length<=65536)
  (k:∀(i:Nat) f w',Rx (ents L) key i f->Ext No w w'->K i f w'):jH kind lev s ks w K:=by
 apply GP
 refine ag.mk fun b w1 n1=>⟨_,Cell.ai n1.get rfl,?_⟩
 have nl:=nd.len;refine⟨fun q t w'=>∃i:Nat,t=i/\i<=L.length/\q=L.length - i/\Ext No w1 w'/\∀j (h:j < L.length),j < i->bW L[j].2.key key,⟨L.length,0,rfl,by omega,by omega,Ext.refl _ _,fun j h h'=>by omega⟩,?_⟩;rintro _ m0 t w2 ⟨i,rfl,hi,hm,x2,cL⟩;have hZ:=n1.ext.no x2;refine If.dec (fun h=>?_) fun h=>?_
 .refine qc (nd.rd.no hZ) (by omega) h fun b1 w4 iv g4 _ _ x4=>?_
  simp only[Int.toNat_natCast]at iv g4;have gF:=hZ.no x4;have er:=(nd.no gF).get iv;refine⟨_,Cell.ai g4 rfl,hO er.k (Rd.no hk gF) er.k8 k8 (If.dec (fun hc=>?_) fun hc=>Ar.i64 (by omega) ⟨L.length - (i+1),by omega,i+1,by omega,by omega,rfl,x2.no x4,fun j hj BJ=>?_⟩)⟩
  .refine k i _ w4 ⟨by simp;omega,fun j hj BJ=>?_,fun hj=>?_,?_⟩ gF
   .simp only[List.getElem_map];exact cL j (by simpa using hj) BJ
   .simp only[List.getElem_map];exact nc.1 hc
   .rw[beq_iff_eq,Ox];exact⟨fun e=>⟨by simpa using iv,by simpa using e⟩,fun⟨_,e⟩=>by simpa using e⟩
  .rcases Nat.lt_or_ge j i with h3 | h3
   .exact cL j hj h3
   .have:j=i:=by omega
    subst this;exact Classical.not_not.1 fun hh=>hc (nc.2 hh)
 .have e:i=L.length:=by omega
  refine⟨_,Cell.ai (ad n1.get x2) rfl,?_⟩;rw[nl,<- e];refine k i false w2 ⟨by simp;omega,fun j hj BJ=>?_,fun hj=>?_,?_⟩ hZ
  .simp only[List.getElem_map];exact cL j (by simpa using hj) BJ
  .simp at hj;omega
  .constructor
   .intro h;cases h
   .rintro⟨h,_⟩;simp at h;omega
theorem Hx{t:Int}{x:aL}{e:aH}{g:Value}{K:Sl->Int->Pw}(er:mG w.heap x e)(hz:e.ch = .z)(hl:e.val.length<=65536)(k:∀s w',aU w'.heap w.heap.size s e.val->Ext No w w'->K s 0 w') :
  fQ g t x.k x.v x.n x.ch.p x.ch.c x.ch.g x.cd.p x.cd.c x.cd.g w K:=by
 apply nO;refine ag.mk fun b w1 n1=>ag.mk fun b1 w2 n2=>?_
 have x2:=n1.ext.no n2.ext;have g2:w2.heap[b1]? = some (.cells x.cs.toArray 151 (0,0)):=n2.get;refine⟨_,Cell.ai g2 rfl,_,Cell.ai g2 rfl,_,Cell.ai g2 rfl,?_⟩;rw[er.ch,hz];refine If.yes ⟨_,Cell.ai g2 rfl,lj (er.no x2).v (by omega) fun s w3 o3 x3=>k s w3 (aT.mono o3 x2.size) (x2.no x3)⟩
end
end Go.Proofs.YtpjbalhhlaofmaaGreat
namespace Go.V
abbrev KV:=List Int×List Int
abbrev bH:=Int->Option Pg
abbrev Mm.f(M:Mm):bH:=fun n=>hY n M.au
def At(f:bH)(r:Rf)(t k v:Int)(pay:List Int):Prop:=∃p,f r.p=some p/\p.r=r/\p.t=t/\p.k=k/\p.v=v/\p.pay=pay
def BE(piece:List Int)(next:Rf):List Int:=refB next++(be 2 piece.length++(piece++List.replicate (208 - piece.length) 0))
inductive jl (f:bH) (t:Int):Rf->List (Rf×List Int)->Prop
 | nil:jl f t .z []
 | cons {r next:Rf} {piece:List Int} {cs:List (Rf×List Int)} (hz:r ≠ .z) (ho:r.ok) (Fi:At f r t 3 0 (BE piece next)) (h1:1<=piece.length) (h2:piece.length<=208) (hf:cs≠[]->piece.length=208) (h8:B8 piece) (c:jl f t next cs):jl f t r ((r,piece)::cs)
abbrev Mg(cs:List (Rf×List Int)):List Int:=(cs.map Prod.snd).flatten
def CN(f:bH)(t:Int)(e:aH)(x:KV)(ps:List Rf):Prop:=e.key=x.1/\(if e.n=0 then e.val=x.2/\ps=[] else e.n=x.2.length/\∃cs,jl f t e.ch cs/\Mg cs=x.2/\cs.map Prod.fst=ps)
inductive cM (f:bH) (t:Int):List aH->List KV->List Rf->Prop
 | nil:cM f t [] [] []
 | cons {e:aH} {l:List aH} {x:KV} {kvs:List KV} {p ps:List Rf} (h:CN f t e x p) (r:cM f t l kvs ps):cM f t (e::l) (x::kvs) (p++ps)
inductive aM (Q:Rf->List KV->List Rf->Prop):List aH->List KV->List Rf->Prop
 | nil:aM Q [] [] []
 | cons {e:aH} {l:List aH} {kv kvs:List KV} {p ps:List Rf} (h:Q e.cd kv p) (lo:∀x∈kv,¬ bW x.1 e.key) (hi:∀e' l',l=e'::l'->∀x∈kv,bW x.1 e'.key) (r:aM Q l kvs ps):aM Q (e::l) (kv++kvs) (p++ps)
structure mI(f:bH)(t k v:Int)(r:Rf)(l:List aH):Prop where
 at_:At f r t k v (pad (wr k v l))
 right:aJ k v l
 short:(wr k v l).length<=224
 ok:∀e∈l,(e.ch.ok/\e.cd.ok)/\B8 e.key/\B8 e.val
def bu(f:bH)(t:Int):Nat->Rf->List KV->List Rf->Prop
 | 0,r,kvs,ps=>∃l cU,mI f t 1 0 r l/\l≠[]/\cM f t l kvs cU/\ps=r::cU
 | lev+1,r,kvs,ps=>∃l cU,mI f t 2 ((lev+1:Nat):Int) r l/\2<=l.length/\aM (bu f t lev) l kvs cU/\ps=r::cU
def iR(f f':bH)(ps:List Rf):Prop:=∀r∈ps,∀p,f r.p=some p->p.r=r->∃p',f' r.p=some p'/\p'.r=p.r/\p'.t=p.t/\p'.k=p.k/\p'.v=p.v/\p'.pay=p.pay
theorem iR.sub{f f':bH}{ps qs:List Rf}(h:iR f f' ps)(hs:∀r∈qs,r∈ps):iR f f' qs:=fun r hr=>h r (hs r hr)
theorem At.cB{f f':bH}{ps:List Rf}{r:Rf}{t k v:Int}{pay:List Int}(h:At f r t k v pay)(hk:iR f f' ps)(hr:r∈ps):At f' r t k v pay:=by
 obtain⟨p,h1,h2,h3,h4,h5,h6⟩:=h;obtain⟨p',k1,k2,k3,k4,k5,k6⟩:=hk r hr p h1 h2;exact⟨p',k1,k2.trans h2,k3.trans h3,k4.trans h4,k5.trans h5,k6.trans h6⟩
theorem jl.cB{f f':bH}{t:Int}{r:Rf}{cs:List (Rf×List Int)}(h:jl f t r cs):iR f f' (cs.map Prod.fst)->jl f' t r cs:=by
 induction h with
 | nil=>intro _;exact .nil
 | cons hz ho Fi h1 h2 hf h8 c ih=>intro hk;exact .cons hz ho (Fi.cB hk List.mem_cons_self) h1 h2 hf h8 (ih (hk.sub fun _ h=>List.mem_cons_of_mem _ h))
theorem jl.ok{f:bH}{t:Int}{r:Rf}{cs:List (Rf×List Int)}(h:jl f t r cs):r.ok:=by
 cases h with
 | nil=>decide
 | cons hz ho=>exact ho
theorem cM.cB{f f':bH}{t:Int}{l:List aH}{kvs:List KV}{ps:List Rf}(h:cM f t l kvs ps):iR f f' ps->cM f' t l kvs ps:=by
 induction h with
 | nil=>intro _;exact .nil
 | cons h r ih=>
  intro hk;refine .cons ⟨h.1,?_⟩ (ih (hk.sub fun _ h=>List.mem_append_right _ h));have h2:=h.2;split at h2
  .rename_i h0;rw[if_pos h0];exact h2
  .rename_i h0;rw[if_neg h0];obtain⟨a,cs,b,c,d⟩:=h2;exact⟨a,cs,b.cB (by rw[d];exact hk.sub fun _ h=>List.mem_append_left _ h),c,d⟩
theorem aM.cB{Q Q':Rf->List KV->List Rf->Prop}{R:List Rf->Prop}(hR:∀{a b},R (a++b)->R a/\R b)(hQ:∀{r kv p},Q r kv p->R p->Q' r kv p){l:List aH}{kvs:List KV}{ps:List Rf}(h:aM Q l kvs ps):R ps->aM Q' l kvs ps:=by
 induction h with
 | nil=>intro _;exact .nil
 | cons h lo hi r ih=>intro hk;exact .cons (hQ h (hR hk).1) lo hi (ih (hR hk).2)
theorem mI.cB{f f':bH}{t k v:Int}{r:Rf}{l:List aH}{ps:List Rf}(h:mI f t k v r l)(hk:iR f f' ps)(hr:r∈ps):mI f' t k v r l:=⟨h.at_.cB hk hr,h.right,h.short,h.ok⟩
theorem bu.cB{f f':bH}{t:Int}:∀{lev:Nat}{r:Rf}{kvs:List KV}{ps:List Rf},bu f t lev r kvs ps->iR f f' ps->bu f' t lev r kvs ps
 | 0,r,kvs,ps,⟨l,cU,h1,h2,h3,h4⟩,hk=>by
  subst h4;exact⟨l,cU,h1.cB hk List.mem_cons_self,h2,h3.cB (hk.sub fun _ h=>List.mem_cons_of_mem _ h),rfl⟩
 | lev+1,r,kvs,ps,⟨l,cU,h1,h2,h3,h4⟩,hk=>by
  subst h4;refine⟨l,cU,h1.cB hk List.mem_cons_self,h2,h3.cB (R:=fun p=>iR f f' p) (fun h=>⟨h.sub fun _ h=>List.mem_append_left _ h,h.sub fun _ h=>List.mem_append_right _ h⟩) (fun h hk=>bu.cB h hk) (hk.sub fun _ h=>List.mem_cons_of_mem _ h),rfl⟩
def dB(f:bH)(t:Int)(r:Rf)(lev:Int)(kvs:List KV)(ps:List Rf):Prop:=r = .z/\lev=0/\kvs=[]/\ps=[]∨r ≠ .z/\0<=lev/\bu f t lev.toNat r kvs ps
end Go.V
namespace Go.Proofs.YtpjbalhhlaofmaaGreat
open Go.V
section
variable {w:Wd}
theorem Ac{n:Int}{K:Int->Int->Pw}(h0:0<=n)(h1:n<=1024)(k:K ((n+207) / 208) 0 w):jL n w K:=by
 apply Cd;refine If.dec (fun h=>by omega) fun _=>If.dec (fun h=>by omega) fun _=>Ar.i64 (by omega) (Ar.i64 (by omega) ⟨by decide,?_⟩)
 have e:Int.tdiv (n+208 - 1) 208=(n+207) / 208:=by rw[Int.tdiv_eq_ediv_of_nonneg (by omega)];congr 1;omega
 rw[e];exact Ar.i64 (by omega) k
theorem Nx{piece:List Int}{next:Rf}(h:piece.length<=208):(BE piece next).length=224:=by simp[BE,fy,br];omega
theorem Xz{piece:List Int}{next:Rf}(h:B8 piece):B8 (BE piece next):=
 (((jU _ _).append (jU _ _)).append (jU _ _)).append ((jU _ _).append (h.append fun x hx=>by rw[List.mem_replicate]at hx;omega))
set_option maxHeartbeats 1000000 in
theorem Uw{s:Sl}{piece:List Int}{next:Rf}{K:Sl->Int->Int->Int->Int->Pw}(hs:cZ w.heap s (BE piece next))(h1:1<=piece.length)(h2:piece.length<=208)(hn:next.ok)
  (k:∀t w',aU w'.heap w.heap.size t piece->Ext No w w'->K t next.p next.c next.g 0 w'):qH s w K:=by
 apply GQ;have hl:=cZ.len hs;rw[Nx h2]at hl;obtain⟨o1,o2,o3⟩:=hn;refine ag.mk fun b w1 n1=>If.bne (fun h=>by omega) fun _=>?_
 have JA:cZ w1.heap s (BE piece next):=Rd.no hs n1.ext;have hP:BE piece next=[]++(be 4 next.p++(be 8 next.c++(be 2 next.g++(be 2 piece.length++(piece++List.replicate (208 - piece.length) 0))))):=by simp[BE,refB]
 refine Et JA hP rfl (by simp[br]) fun s1 r1=>nU r1 (jU _ _) (by simp[br]) (by simp[br]) ?_
 have hP:BE piece next=be 4 next.p++(be 8 next.c++(be 2 next.g++(be 2 piece.length++(piece++List.replicate (208 - piece.length) 0)))):=by simp[BE,refB]
 refine Et JA hP (by simp[br]) (by simp[br]) fun s2 r2=>nU r2 (jU _ _) (by simp[br]) (by simp[br]) ?_
 have hP:BE piece next=(be 4 next.p++be 8 next.c)++(be 2 next.g++(be 2 piece.length++(piece++List.replicate (208 - piece.length) 0))):=by simp[BE,refB]
 refine Et JA hP (by simp[br]) (by simp[br]) fun s3 r3=>nU r3 (jU _ _) (by simp[br]) (by simp[br]) ?_
 have hP:BE piece next=(be 4 next.p++be 8 next.c++be 2 next.g)++(be 2 piece.length++(piece++List.replicate (208 - piece.length) 0)):=by simp[BE,refB]
 refine Et JA hP (by simp[br]) (by simp[br]) fun s4 r4=>nU r4 (jU _ _) (by simp[br]) (by simp[br]) ?_
 rw[ji 4 o1.1 (by omega),ji 8 o2.1 (by omega),ji 2 o3.1 (by omega),ji 2 (by omega) (by omega)];refine⟨fun w'=>w'=w1,?_,?_⟩
 .refine If.dec (fun h=>by omega) fun _=>If.dec (fun h=>by omega) fun _=>Ar.u64 (by omega) ?_
  have hP:BE piece next=(be 4 next.p++be 8 next.c++be 2 next.g++be 2 piece.length++piece)++(List.replicate (208 - piece.length) 0++[]):=by simp[BE,refB]
  refine Et JA hP (by simp[br];omega) (by simp[br];omega) fun s5 r5=>zR r5 (fun x hx=>by rw[List.mem_replicate]at hx;omega) (by simp;omega) ?_
  rw[decide_eq_true fun x hx=>(List.mem_replicate.1 hx).2];exact If.no rfl
 rintro _ dg rfl;refine ag.mk fun b1 eG lD=>Ar.u64 (by omega) ?_
 have hP:BE piece next=(be 4 next.p++be 8 next.c++be 2 next.g++be 2 piece.length)++(piece++List.replicate (208 - piece.length) 0):=by simp[BE,refB]
 have hb:=n1.at_;have gE:=lD.at_;have z1:=n1.size;have Ro:=lD.size;refine Et (Rd.no JA lD.ext) hP (by simp[br]) (by simp[br]) fun s6 r6=>?_
 have VJ:aU eG.heap dg.heap.size ⟨some ⟨b1,0,none⟩,0,0⟩ []:=aU.new (l:=[]) lD rfl;refine xA (s:=⟨some ⟨b1,0,none⟩,0,0⟩) (Q:=fun i=>dg.heap.size<=i) (Ext.refl _ eG) (fun i hi=>by have:=Option.some.inj hi;simp only at this;omega) (fun i hi=>by omega) VJ (by omega) r6 (by simp;omega) fun s7 cX Bi q13 eE=>Ar.u32 (by omega) (Ar.u16 (by omega) ?_)
 have gG:=af (ad n1.get lD.ext) eE (by omega)
 refine cK gG rfl rfl (by simp[aN]) fun c_ kM gH _=>⟨_,Cell.ai kM rfl,_,Cell.ai kM rfl,_,Cell.ai kM rfl,k s7 c_ ?_ ?_⟩
 .exact aT.mono (Bi.ext gH fun q hq h=>by have:=(Bi.lt hq).1;omega) (by omega)
 .exact((n1.ext.no lD.ext).trans eE fun q hq h=>by omega).trans gH fun q hq h=>by omega
set_option maxHeartbeats 1000000 in
theorem OM{s:Sl}{piece:List Int}{next:Rf}{K:Sl->Int->Pw}(hs:cZ w.heap s piece)(h1:1<=piece.length)(h2:piece.length<=208)(hn:next.ok)
  (k:∀t w',aU w'.heap w.heap.size t (BE piece next)->Ext No w w'->K t 0 w'):qF s next.p next.c next.g w K:=by
 apply GS;have hl:=cZ.len hs;obtain⟨o1,o2,o3⟩:=hn
 refine ag.mk fun b w1 n1=>⟨fun w'=>w'=w1,If.dec (fun h=>by omega) fun _=>If.dec (fun h=>by omega) fun _=>rfl,?_⟩
 rintro _ w2 rfl;refine⟨_,Cell.ai n1.get rfl,Ar.u64 (by omega) (lZ o1.1 (by decide) (by decide) (by show next.p < 256 ^ 4;omega) fun s1 w3 p3 x3=>?_)⟩;refine⟨_,Cell.ai (ad n1.get x3) rfl,lZ o2.1 (by decide) (by decide) (by show next.c < 256 ^ 8;omega) fun s2 w4 p4 x4=>?_⟩;refine⟨_,Cell.ai (ad n1.get (x3.no x4)) rfl,Ar.u64 (by omega) (lZ o3.1 (by decide) (by decide) (by show next.g < 256 ^ 2;omega) fun s3 w5 p5 x5=>Ar.u64 (by omega) (lZ (by omega) (by decide) (by decide) (by show(s.len:Int) < 256 ^ 2;omega) fun s4 w6 p6 x6=>Ar.i64 (by omega) ?_))⟩;refine Ik.mk (by omega) (Int.le_refl _) (by omega) (by omega) fun b7 w7 n7=>ag.mk fun b8 w8 n8=>?_
 have o7:=aT.make (l:=(208 - (s.len:Int)).toNat) n7 (Nat.le_refl _) (fun v hv=>by rw[List.mem_singleton]at hv;subst hv;rfl)
 have e7:(List.replicate (208 - (s.len:Int)).toNat [Value.int .u8 0]).flatten=(List.replicate (208 - piece.length) (0:Int)).map (Value.int .u8):=by
  rw[show(208 - (s.len:Int)).toNat=208 - piece.length by omega];simp[List.flatten_replicate_singleton]
 rw[e7]at o7;have uX:Ext No w2 w6:=(x3.no x4).no (x5.no x6);have Fy:Ext No w2 w8:=(uX.no n7.ext).no n8.ext
 let ps:List (Sl×List Int):=[(s1,be 4 next.p),(s2,be 8 next.c),(s3,be 2 next.g),(s4,be 2 piece.length),(s,piece),(⟨some ⟨b7,0,none⟩,(208 - (s.len:Int)).toNat,(208 - (s.len:Int)).toNat⟩,List.replicate (208 - piece.length) 0)]
 have r8:Rd w8.heap ⟨some ⟨b8,0,none⟩,6,6⟩ 1 (ps.map fun p=>p.1.v):=(aT.new (n:=6) (sz:=1) n8 rfl (by simp[aN])).rd;refine tC (ps:=ps) r8 (fun p hp=>?_) (by simp[ps,br];omega) (by simp[ps]) fun t w9 o9 x9=>k t w9 ?_ ((n1.ext.no Fy).no x9)
 .simp only[ps,List.mem_cons,List.not_mem_nil,or_false]at hp;rcases hp with h | h | h | h | h | h <;> subst h
  .exact p3.rd.no (((x4.no (x5.no x6)).no n7.ext).no n8.ext)
  .exact p4.rd.no (((x5.no x6).no n7.ext).no n8.ext)
  .exact p5.rd.no ((x6.no n7.ext).no n8.ext)
  .have:=p6.rd.no (n7.ext.no n8.ext);rw[show((2:Int)).toNat=2 from rfl,hl]at this;exact this
  .exact Rd.no hs (n1.ext.no Fy)
  .exact o7.rd.no n8.ext
 .have e:BE piece next=(ps.map Prod.snd).flatten:=by simp[ps,BE,refB]
  rw[e];exact aT.mono o9 (n1.ext.no Fy).size
end
section
variable {w:Wd} {T:Nat->Option Nat} {m:bB} {M:Mm}
theorem Fz{t k v:Int}{r:Rf}{pay:List Int}{K:Sl->Int->Pw}(R:aY w.heap T m M)(h:At M.f r t k v pay)(k0:∀s w',aU w'.heap w.heap.size s pay->Ext No w w'->K s 0 w'):jN (some ⟨m.bm,0,none⟩) t k v r.p r.c r.g w K:=by
 obtain⟨p,h1,h2,h3,h4,h5,h6⟩:=h;have Ad:hY r.p M.au=some p:=h1;refine zX R (fun q s w' hq _ _ _ _ o x=>?_) (fun w' hq _=>?_) (fun q w' hq hn _=>?_)
 .rw[Ad]at hq;cases hq;rw[h6]at o;exact k0 s w' o x
 .rw[Ad]at hq;cases hq
 .rw[Ad]at hq;cases hq;exact(hn ⟨h3,h4,h5,h2⟩).elim
set_option maxHeartbeats 1000000 in
theorem vP{t:Int}{r:Rf}{cs:List (Rf×List Int)}{Ou:Value}{J:Nat->Wd->(Nat->Prop)->Prop}{B:Nat->Prop}{K:Int->Pw}(R:aY w.heap T m M)(c:jl M.f t r cs)(hl:cs.length<=5)
  (hJ:J 0 w B) (hB:∀q,B q->T q=none/\q < w.heap.size)
  (mono:∀{j w1 w2 B S},J j w1 B->Ext S w1 w2->(∀q,B q->¬ S q)->J j w2 B)
  (step:∀j w1 B s base (hj:j < cs.length) (K':Pw),J j w1 B->aU w1.heap base s cs[j].2->(w.heap.size<=base/\base<=w1.heap.size)->(∀q,B q->q < base)->(∀w' B',J (j+1) w' B'->Ext B w1 w'->(∀q,B' q->B q∨base<=q/\q < w'.heap.size)->K' w')->
   aC pz true Ou [.agg ([.int .u32 cs[j].1.p,.int .u64 cs[j].1.c,.int .u16 cs[j].1.g]).toArray,.slice s.a s.len s.cap] [] K' cf w1)
  (k:∀w' B',J cs.length w' B'->Ext B w w'->aY w'.heap T m M->(∀q,B' q->B q∨w.heap.size<=q/\q < w'.heap.size)->K 0 w'):ee (eW m) t r.p r.c r.g Ou w K:=by
 apply vk;refine ag.mk fun b w1 n1=>ag.mk fun b1 w2 n2=>?_
 have hb:=n1.at_;have gE:=n2.at_;have z1:=n1.size;have z2:=n2.size;have x2:Ext No w w2:=n1.ext.no n2.ext
 have sup:∀q,w.heap.size<=q->T q=none:=fun q hq=>by
  cases h:T q with
  | none=>rfl
  | some t=>have:=R.sup q (by rw[h];simp);omega
 refine⟨fun q n w'=>∃(j:Nat) (r':Rf) (B':Nat->Prop),n=j/\q=cs.length - j/\j<=cs.length/\jl M.f t r' (cs.drop j)/\J j w' B'/\aY w'.heap T m M/\w'.heap[b]? = some (.cells [eW m,.int .u32 t].toArray 107 (0,0))/\w'.heap[b1]? = some (.cells [.int .u32 r'.p,.int .u64 r'.c,.int .u16 r'.g].toArray 28 (0,0))/\Ext B w w'/\(∀q,B' q->B q∨w2.heap.size<=q/\q < w'.heap.size),⟨cs.length,0,r,B,rfl,rfl,by omega,c,mono hJ x2 (fun _ _ h=>h),R.no x2,ad n1.get n2.ext,n2.get,x2.aG,fun _ h=> .inl h⟩,?_⟩;rintro _ m0 n w3 ⟨j,r',B',rfl,hm,hj,cj,Jj,R3,g3,gG,x3,TD⟩;refine⟨_,Cell.ai gG rfl,_,Cell.ai gG rfl,_,Cell.ai gG rfl,?_⟩;have s3:=x3.size;have s23:w2.heap.size<=w3.heap.size:=by have:=blt gG;omega
 have e0:((r'.p == 0) && ((r'.c == 0) && ((r'.g == 0) && true)))=decide (r' = .z):=xy r' .z;dsimp only;rw[e0]
 have nB:∀{q},w.heap.size<=q->q < w2.heap.size->¬ B' q:=fun h1 h2 h=>by
  rcases TD _ h with h' | h'
  .have:=(hB _ h').2;omega
  .omega
 refine If.not (If.dec (fun hz=>?_) fun hz=>?_)
 .have:cs.drop j=[]:=by
   generalize hd:cs.drop j=d at cj
   cases cj with
   | nil=>rfl
   | cons hz'=>exact(hz' hz).elim
  have fh:j=cs.length:=by have:=List.drop_eq_nil_iff.1 this;omega
  rw[fh]at Jj;refine k w3 B' Jj x3 R3 fun q hq=>?_
  rcases TD q hq with h | h
  .exact .inl h
  .exact .inr ⟨by omega,h.2⟩
 .have fh:j < cs.length:=by
   rcases Nat.lt_or_ge j cs.length with h | h
   .exact h
   .rw[List.drop_eq_nil_of_le h]at cj;cases cj;exact(hz rfl).elim
  refine If.dec (fun h=>by omega) fun _=>⟨_,Cell.ai g3 rfl,_,Cell.ai g3 rfl,_,Cell.ai gG rfl,_,Cell.ai gG rfl,_,Cell.ai gG rfl,nR ?_⟩
  rw[List.drop_eq_getElem_cons fh]at cj;generalize hcj:cs[j]=cp at *
  cases cj with
  | @cons _ next piece _ hz' ho Fi h1 h2 hf h8 cn=>
  refine Fz R3 Fi fun s4 w4 o4 x4=>If.bne (fun h=>(h rfl).elim) fun _=>Uw o4.rd h1 h2 cn.ok fun s5 w5 o5 x5=>bA rfl rfl (by simp[aN]) fun b2 w7 g7 lO z7 x7=>If.bne (fun h=>(h rfl).elim) fun _=>?_
  have y_:Ext No w3 w7:=(x4.no x5).no x7;have s37:=y_.size;have BF:=ad gG y_;refine⟨_,Cell.ai BF rfl,_,Cell.ai BF rfl,_,Cell.ai BF rfl,?_⟩;have y4:=x4.size;have y5:=x5.size;have:=step j w7 B' s5 w4.heap.size fh;rw[hcj]at this;refine this _ (mono Jj y_ fun _ _ h=>h) (o5.no x7) ⟨by omega,by have:=x7.size;omega⟩ (fun q hq=>?_) fun w8 B8 J8 x8 TE=>?_
  .rcases TD q hq with h | h
   .have:=(hB _ h).2;omega
   .omega
  have VQ:¬ B' b2:=fun h=>by
   rcases TD b2 h with h' | h'
   .have:=(hB _ h').2;omega
   .omega
  have g8:=af g7 x8 VQ;have vN:=af BF x8 (nB (by omega) (by omega));have g08:=af (ad g3 y_) x8 (nB (by omega) (by omega));have s8:=x8.size
  have R8:aY w8.heap T m M:=(R3.no y_).ext x8 fun q hq=>by
   rcases TD q hq with h | h
   .exact(hB q h).1
   .exact sup q (by omega)
  have Ux:¬ B8 b1:=fun h=>by
   rcases TE b1 h with h' | h'
   .exact nB (by omega) (by omega) h'
   .omega
  refine⟨_,Cell.ai g8 rfl,_,Cell.ai g8 rfl,_,Cell.ai g8 rfl,cK vN rfl rfl (by simp[aN]) fun w9 g9 x9 z9=>Ar.i64 (by omega) ⟨cs.length - (j+1),by omega,j+1,next,B8,by omega,rfl,by omega,cn,mono J8 x9 (fun q hq h=>Ux (h ▸ hq)),R8.ext x9 (fun q hq=>by rw[hq];exact sup b1 (by omega)),af g08 x9 (by omega),g9,?_,fun q hq=>?_⟩⟩
  .refine(((x3.no y_).trans x8 fun q hq h=>?_).trans x9 fun q hq h=>by omega);rcases TD q h with h' | h'
   .exact h'
   .omega
  .rcases TE q hq with h | h
   .rcases TD q h with h' | h'
    .exact .inl h'
    .exact .inr ⟨h'.1,by omega⟩
   .exact .inr ⟨by omega,by omega⟩
def JP(bv:Nat)(base:Nat)(cs:List (Rf×List Int))(j:Nat)(w:Wd)(B:Nat->Prop):Prop:=
 ∃(sl:Sl) (ps:List (Sl×List Int)),w.heap[bv]? = some (.cells [.slice sl.a sl.len sl.cap].toArray 111 (0,0))/\aT w.heap base 23 1 sl (ps.map fun p=>p.1.v)/\(bv < base/\base<=w.heap.size)/\(∀p∈ps,cZ w.heap p.1 p.2)/\ps.map Prod.snd=(cs.take j).map Prod.snd/\
  (∀q,B q ↔ q=bv∨sl.aq=some q∨∃p∈ps,p.1.aq=some q)/\(∀p∈ps,∀q,p.1.aq=some q->base<=q/\q < w.heap.size/\sl.aq≠some q)
theorem JP.mono{bv base:Nat}{cs:List (Rf×List Int)}{j:Nat}{w1 w2:Wd}{B S:Nat->Prop}(h:JP bv base cs j w1 B)(x:Ext S w1 w2)(hS:∀q,B q->¬ S q):JP bv base cs j w2 B:=by
 obtain⟨sl,ps,h1,h2,h3,h4,h5,h6,h7⟩:=h;refine⟨sl,ps,af h1 x (hS _ ((h6 _).2 (.inl rfl))),h2.ext x (fun q hq=>hS _ ((h6 _).2 (.inr (.inl hq)))),⟨h3.1,Nat.le_trans h3.2 x.size⟩,fun p hp=>(h4 p hp).ext x fun a q ha hq=>hS _ ((h6 _).2 (.inr (.inr ⟨p,hp,by simp[Sl.aq,ha,hq]⟩))),h5,h6,fun p hp q hq=>⟨(h7 p hp q hq).1,Nat.lt_of_lt_of_le (h7 p hp q hq).2.1 x.size,(h7 p hp q hq).2.2⟩⟩
theorem JP.step{bv base:Nat}{cs:List (Rf×List Int)}{j:Nat}{w1:Wd}{B:Nat->Prop}{s:Sl}{b0:Nat}{K':Pw}(hl:cs.length<=5)(hj:j < cs.length)(h:JP bv base cs j w1 B)(o:aU w1.heap b0 s cs[j].2)(hb0:∀q,B q->q < b0)(eB:base<=b0)
  (k:∀w' B',JP bv base cs (j+1) w' B'->Ext B w1 w'->(∀q,B' q->B q∨b0<=q/\q < w'.heap.size)->K' w') (hbw:b0<=w1.heap.size) :
  aC pz true (.func (.func 100) #[] #[.pointer (some (A1 bv))]) [.agg ([.int .u32 cs[j].1.p,.int .u64 cs[j].1.c,.int .u16 cs[j].1.g]).toArray,.slice s.a s.len s.cap] [] K' cf w1:=by
 obtain⟨sl,ps,h1,h2,h3,h4,h5,h6,h7⟩:=h;refine tj (c0:=A1 bv) (ti ?_)
 refine ag.mk fun b w2 n2=>⟨_,Cell.ai (ad h1 n2.ext) rfl,ag.mk fun b1 w3 n3=>?_⟩
 have x3:=n2.ext.no n3.ext;have z2:=n2.size;have z3:=n3.size;have gE:=n3.at_;have o3:=h2.no x3;have e3:aT w3.heap w2.heap.size 23 1 ⟨some ⟨b1,0,none⟩,1,1⟩ [s.v]:=aT.new (n:=1) (sz:=1) n3 rfl (by simp[aN,Sl.v]);have hlen:ps.length=j:=by have:=congrArg List.length h5;simp only[List.length_map,List.length_take]at this;omega
 have JF:sl.len=ps.length:=by have:=h2.len;simp at this;omega
 have Qo:∀q,sl.aq=some q->B q:=fun q hq=>(h6 q).2 (.inr (.inl hq))
 have ON:B bv:=(h6 bv).2 (.inl rfl);have nbv:sl.aq≠some bv:=fun h=>by have:=(h2.lt h).1;omega
 refine qO o3 (by omega) e3.rd.src (by simp only;omega) fun s' w4 o4 _ x4 oR=>?_
 have y4:=x4.size
 have Uy:∀q,s'.aq=some q->B q∨w1.heap.size<=q:=fun q hq=>by
  rcases oR with h | ⟨c,h,hc⟩
  .exact .inl (Qo q (h ▸ hq))
  .rw[h]at hq;cases hq;exact .inr (by omega)
 have g4:=af (ad h1 x3) x4 nbv;have adB:s'.aq≠some bv:=fun h=>by have:=(o4.lt h).1;omega
 refine aF.b1 g4 rfl fun w5 OO=>?_
 have z5:=OO.size;have pH:Ext B w1 w5:=((x3.aG).trans x4 fun q _ hq=>Qo q hq).trans OO.ext fun q _ hq=>by rw[hq];exact ON
 have sb:∀q,s.aq=some q->b0<=q/\q < w1.heap.size:=fun q hq=>o.lt hq
 have nBs:∀q,s.aq=some q->¬ B q:=fun q hq h=>by have:=hb0 q h;have:=sb q hq;omega
 refine k w5 (fun q=>q=bv∨s'.aq=some q∨∃p∈ps++[(s,cs[j].2)],p.1.aq=some q) ⟨s',ps++[(s,cs[j].2)],OO.get g4,?_,⟨h3.1,by have:=pH.size;omega⟩,fun p hp=>?_,?_,fun q=>Iff.rfl,fun p hp q hq=>?_⟩ pH fun q hq=>?_
 .have:(ps++[(s,cs[j].2)]).map (fun p=>p.1.v)=ps.map (fun p=>p.1.v)++[s.v]:=by simp
  rw[this];exact o4.ext OO.ext fun q hq h=>adB (h ▸ hq)
 .rcases List.mem_append.1 hp with h | h
  .refine((h4 p h).no x3).ext x4 (fun a q ha hq e=>(h7 p h q (by simp[Sl.aq,ha,hq])).2.2 e) |>.ext OO.ext fun a q ha hq e=>?_
   have:=(h7 p h q (by simp[Sl.aq,ha,hq])).1;omega
  .rw[List.mem_singleton]at h;subst h;exact o.rd.ext pH fun a q ha hq=>nBs q (by simp[Sl.aq,ha,hq])
 .rw[List.map_append,h5,List.take_add_one,List.getElem?_eq_getElem hj,List.map_append];rfl
 .rcases List.mem_append.1 hp with h | h
  .obtain⟨a1,a2,a3⟩:=h7 p h q hq;refine⟨a1,by omega,fun e=>?_⟩;rcases oR with h' | ⟨c,h',hc⟩
   .exact a3 (h' ▸ e)
   .rw[h']at e;cases e;omega
  .rw[List.mem_singleton]at h;subst h;have:=sb q hq;refine⟨by omega,by omega,fun e=>?_⟩;rcases Uy q e with h' | h'
   .exact nBs q hq h'
   .omega
 .rcases hq with h | h | ⟨p,hp,h⟩
  .exact .inl (h ▸ ON)
  .rcases Uy q h with h' | h'
   .exact .inl h'
   .exact .inr ⟨by omega,by have:=(o4.lt h).2;omega⟩
  .rcases List.mem_append.1 hp with h' | h'
   .exact .inl ((h6 q).2 (.inr (.inr ⟨p,h',h⟩)))
   .rw[List.mem_singleton]at h';subst h';have:=sb q h;exact .inr ⟨this.1,by have:=pH.size;omega⟩
theorem tJ{f:bH}{t:Int}{r:Rf}{cs:List (Rf×List Int)}(h:jl f t r cs):(∀j (hj:j < cs.length),cs[j].2.length=min 208 ((Mg cs).length - (Mg (cs.take j)).length))/\(cs.length:Int)=((Mg cs).length+207) / 208/\(∀p∈cs,B8 p.2):=by
 induction h with
 | nil=>exact⟨fun j hj=>by simp at hj,by simp,by simp⟩
 | @cons r next piece cs hz ho Fi h1 h2 hf h8 c ih=>
  obtain⟨i1,i2,i3⟩:=ih;have e:(Mg ((r,piece)::cs)).length=piece.length+(Mg cs).length:=by simp[Mg]
  refine⟨fun j hj=>?_,?_,fun p hp=>?_⟩
  .cases j with
   | zero=>
    simp only[List.getElem_cons_zero,List.take_zero];rw[e];rcases Classical.em (cs=[]) with h | h
    .subst h;simp[Mg];omega
    .have:=hf h;simp[Mg];omega
   | succ j=>
    simp only[List.length_cons]at hj;have bC:cs≠[]:=by intro h;subst h;simp at hj
    have hp:=hf bC;simp only[List.getElem_cons_succ,List.take_succ_cons];have e2:(Mg ((r,piece)::cs.take j)).length=piece.length+(Mg (cs.take j)).length:=by simp[Mg]
    rw[i1 j (by omega),e,e2];congr 1;omega
  .rw[e];rcases Classical.em (cs=[]) with h | h
   .subst h;simp[Mg];omega
   .have hp:=hf h;simp only[List.length_cons];omega
  .rcases List.mem_cons.1 hp with h | h
   .subst h;exact h8
   .exact i3 p h
theorem OP{sl:Sl}{ps:List (Sl×List Int)}{v:List Int}{K:Sl->Int->Pw}(hs:Rd w.heap sl 1 (ps.map fun p=>p.1.v))(hp:∀p∈ps,cZ w.heap p.1 p.2)(hv:(ps.map Prod.snd).flatten=v)(hn:(ps.length:Int)=(v.length+207) / 208)(hl:v.length<=1024)
  (hz:∀j (hj:j < ps.length),ps[j].2.length=min 208 (v.length - ((ps.take j).map Prod.snd).flatten.length)) (k:∀s w',aU w'.heap w.heap.size s v->Ext No w w'->K s 0 w'):qE sl v.length w K:=by
 apply GR;have hlen:sl.len=ps.length:=by have:=hs.len;simp at this;exact this.symm
 have uR:∀j (h:j < ps.length),((ps.take (j+1)).map Prod.snd).flatten=((ps.take j).map Prod.snd).flatten++ps[j].2:=fun j h=>by
  rw[List.take_add_one,List.getElem?_eq_getElem h];simp only[Option.toList_some,List.map_append,List.map_cons,List.map_nil,List.flatten_append,List.flatten_cons,List.flatten_nil,List.append_nil]
 have hle:∀j,((ps.take j).map Prod.snd).flatten.length<=v.length:=fun j=>by
  have e:v=((ps.take j).map Prod.snd).flatten++((ps.drop j).map Prod.snd).flatten:=by
   rw[<- List.flatten_append,<- List.map_append,List.take_append_drop,hv]
  rw[e,List.length_append];omega
 refine Ac (by omega) (by omega) (If.bne (fun h=>(h rfl).elim) fun _=>If.bne (fun h=>by omega) fun _=>?_);refine⟨fun q s t w'=>∃j:Nat,t=j/\j<=ps.length/\q=ps.length - j/\aU w'.heap w.heap.size s ((ps.take j).map Prod.snd).flatten/\Ext No w w',⟨ps.length,0,rfl,by omega,by omega,aT.nil _ _ _ _,Ext.refl _ _⟩,?_⟩;rintro _ m0 s t w2 ⟨j,rfl,hj,hm,o2,x2⟩;refine If.dec (fun h=>Ix.cell (hs.no x2) (by omega) (by omega) fun bb o vv _ ZF hc=>?_) fun h=>?_
 .have oP:j < ps.length:=by omega
  rw[Int.toNat_natCast,List.getElem?_map,List.getElem?_eq_getElem oP]at ZF;simp only[Option.map_some,Option.some.injEq]at ZF;subst ZF;have hr:=hp _ (List.getElem_mem oP);have l1:=cZ.len hr;have l2:=aU.len o2;have l3:=hz j oP;have l4:=hle j;have l5:=hle (j+1);rw[uR j oP,List.length_append]at l5;refine⟨_,hc,Ar.i64 (by omega) (Nm.mk (If.bne (fun h=>?_) fun _=>?_))⟩
  .exfalso;apply h;rw[l1,l3,l2];unfold gT;split <;> omega
  .refine fu o2 x2.size (Rd.no hr x2).src (by omega) fun s' w' o' _ x' _=>Ar.i64 (by omega) ⟨ps.length - (j+1),by omega,j+1,by omega,by omega,rfl,?_,x2.trans x' fun q hq hh=>?_⟩
   .rw[<- List.map_append,<- uR j oP]at o';exact o'
   .have:=(o2.lt hh).1;omega
 .have e:j=ps.length:=by omega
  rw[e,List.take_length,hv]at o2;exact k _ _ o2 x2
end
section
variable {w:Wd} {T:Nat->Option Nat} {m:bB} {M:Mm}
theorem JQ(r:Rf):((r.p == 0) && ((r.c == 0) && ((r.g == 0) && true)))=decide (r = .z):=xy r .z
set_option maxHeartbeats 1000000 in
theorem Mh{t i:Int}{x:aL}{e:aH}{kv:KV}{ps:List Rf}{K:Sl->Int->Pw}(R:aY w.heap T m M)(er:mG w.heap x e)(hp:nW 1 i e)(hl:CN M.f t e kv ps)(k:∀s w',aU w'.heap w.heap.size s kv.2->Ext No w w'->K s 0 w') :
  fQ (eW m) t x.k x.v x.n x.ch.p x.ch.c x.ch.g x.cd.p x.cd.c x.cd.g w K:=by
 have oz:=hp.2;rw[if_neg (by decide)]at oz;obtain⟨WY,oz⟩:=oz;have JR:=hl.2;rcases Classical.em (e.n=0) with h0 | h0
 .rw[if_pos h0]at oz JR;refine Hx er oz.1 (by omega) fun s w' o x=>k s w' (by rw[<- JR.1];exact o) x
 .rw[if_neg h0]at oz JR;obtain⟨hn,cs,hc,VR,K5⟩:=JR;apply nO;refine ag.mk fun b w1 n1=>ag.mk fun b1 w2 n2=>?_
  have x2:=n1.ext.no n2.ext;have g2:w2.heap[b1]? = some (.cells x.cs.toArray 151 (0,0)):=n2.get;have g02:=ad n1.get n2.ext;have z1:=n1.size;have z2:=n2.size;have hb:=n1.at_;have gE:=n2.at_;obtain⟨c1,c2,c3⟩:=tJ hc;have hlen:cs.length<=5:=by rw[VR]at c2;omega
  refine⟨_,Cell.ai g2 rfl,_,Cell.ai g2 rfl,_,Cell.ai g2 rfl,?_⟩;dsimp only;rw[JQ,er.ch];refine If.dec (fun h=>(oz.2.2.1 h).elim) fun _=>ag.mk fun b2 w4 n4=>?_
  have x4:=x2.no n4.ext;have g4:=ad g2 n4.ext;have g04:=ad g02 n4.ext;have z4:=n4.size;have lO:=n4.at_;have R4:=R.no x4;refine⟨_,Cell.ai g04 rfl,_,Cell.ai g04 rfl,_,Cell.ai g4 rfl,_,Cell.ai g4 rfl,_,Cell.ai g4 rfl,?_⟩;rw[er.ch];refine vP (J:=JP b2 w4.heap.size cs) (B:=fun q=>q=b2) R4 hc hlen ⟨⟨none,0,0⟩,[],n4.get,aT.nil _ _ _ _,⟨by omega,Nat.le_refl _⟩,by simp,by simp,fun q=>by simp[Sl.aq],by simp⟩ (fun q hq=>⟨?_,by omega⟩) (fun h x hS=>h.mono x hS) (fun j w5 B' s base hj K' hJ o hb hB kk=>JP.step hlen hj hJ o hB hb.1 kk hb.2) fun w5 B5 J5 x5 R5 XA=>If.bne (fun h=>(h rfl).elim) fun _=>?_
  .cases h:T q with
   | none=>rfl
   | some t=>have:=R.sup q (by rw[h];simp);omega
  obtain⟨sl,qs,q1,q2,q3,q4,q5,q6,q7⟩:=J5;rw[List.take_length]at q5;have g5:=af g4 x5 (by omega);refine⟨_,Cell.ai q1 rfl,_,Cell.ai g5 rfl,?_⟩;rw[er.n,hn];have BB:Ext No w w5:=x4.trans x5 fun q hq h=>by omega
  have ql:qs.length=cs.length:=by have:=congrArg List.length q5;simpa using this
  have qj:∀j (hj:j < qs.length) (oP:j < cs.length),qs[j].2=cs[j].2:=fun j hj oP=>by
   have:=congrArg (fun l=>l[j]?) q5;simp only[List.getElem?_map,List.getElem?_eq_getElem hj,List.getElem?_eq_getElem oP,Option.map_some,Option.some.injEq]at this;exact this
  refine OP q2.rd q4 (by rw[q5];exact VR) (by rw[ql,c2,VR]) (by omega) (fun j hj=>?_) fun s w6 o6 x6=>k s w6 (aT.mono o6 BB.size) (BB.no x6)
  have:=c1 j (by omega);rw[VR]at this;rw[qj j hj (by omega),this,List.map_take,q5,<- List.map_take]
end
end Go.Proofs.YtpjbalhhlaofmaaGreat
namespace Go.V
def ca(kvs:List KV)(key:List Int):Option (List Int):=(kvs.find? fun x=>decide (x.1=key)).map Prod.snd
theorem ni(a b:List KV)(key:List Int):ca (a++b) key=(ca a key).or (ca b key):=by
 unfold ca;rw[List.find?_append];cases List.find? _ a <;> rfl
theorem qY{a:List KV}{key:List Int}(h:∀x∈a,x.1≠key):ca a key=none:=by
 unfold ca;rw[List.find?_eq_none.2 fun x hx=>by simpa using h x hx];rfl
def za(l:List aH):Prop:=∀i (h:i+1 < l.length),bW l[i].key l[i+1].key
theorem za.tail{e:aH}{l:List aH}(h:za (e::l)):za l:=fun i hi=>h (i+1) (by simp;omega)
theorem za.lt{l:List aH}(h:za l):∀{i j:Nat}(A_:i < j)(hj:j < l.length),bW (l[i]'(by omega)).key l[j].key:=by
 intro i j A_
 induction j with
 | zero=>omega
 | succ j ih=>
  intro hj;rcases Nat.lt_or_ge i j with h' | h'
  .exact(ih h' (by omega)).trans (h j hj)
  .have:i=j:=by omega
   subst this;exact h i hj
theorem xF{Q:Rf->List KV->List Rf->Prop}{l:List aH}{kvs:List KV}{ps:List Rf}(h:aM Q l kvs ps):za l->∀e l',l=e::l'->∀x∈kvs,¬ bW x.1 e.key:=by
 induction h with
 | nil=>intro _ e l' h;cases h
 | @cons e l kv kvs p ps h lo hi r ih=>
  intro hr e' l' he x hx
  cases he
  rcases List.mem_append.1 hx with h' | h'
  .exact lo x h'
  .cases l with
   | nil=>cases r;cases h'
   | cons e2 l2=>
    intro cL;have h1:=ih hr.tail e2 l2 rfl x h';have h2:bW e.key e2.key:=hr 0 (by simp);exact h1 (cL.trans h2)
structure vQ(l:List aH)(key:List Int)(i:Nat):Prop where
 lt:i < l.length
 le:∀j (h:j < l.length),j<=i->¬ bW key l[j].key
 gt:∀j (h:j < l.length),i < j->bW key l[j].key
theorem Ry{Q:Rf->List KV->List Rf->Prop}{key:List Int}{l:List aH}{kvs:List KV}{ps:List Rf}(h:aM Q l kvs ps):∀{i:Nat},za l->(c:vQ l key i)->∃kv p,Q (l[i]'c.lt).cd kv p/\ca kvs key=ca kv key/\(∀r∈p,r∈ps)/\∀x∈kv,x∈kvs:=by
 induction h with
 | nil=>intro i _ c;exact absurd c.lt (by simp)
 | @cons e l kv kvs p ps h lo hi r ih=>
  intro i hr c
  cases i with
  | zero=>
   refine⟨kv,p,h,?_,fun r hr=>List.mem_append_left _ hr,fun x hx=>List.mem_append_left _ hx⟩;rw[ni]
   have:ca kvs key=none:=qY fun x hx e'=>by
    cases l with
    | nil=>cases r;cases hx
    | cons e2 l2=>
     have h1:=xF r hr.tail e2 l2 rfl x hx;have h2:=c.gt 1 (by simp) (by omega);exact h1 (by rw[e'];exact h2)
   rw[this,Option.or_none]
  | succ i=>
   have ci:vQ l key i:=⟨by have:=c.lt;simp at this;omega,fun j hj BJ=>c.le (j+1) (by simp;omega) (by omega),fun j hj A_=>c.gt (j+1) (by simp;omega) (by omega)⟩
   obtain⟨Bj,p',h1,h2,h3,h4⟩:=ih hr.tail ci;refine⟨Bj,p',h1,?_,fun r hr=>List.mem_append_right _ (h3 r hr),fun x hx=>List.mem_append_right _ (h4 x hx)⟩;rw[ni]
   have:ca kv key=none:=qY fun x hx e'=>by
    cases l with
    | nil=>exact absurd ci.lt (by simp)
    | cons e2 l2=>
     have h5:=hi e2 l2 rfl x hx;rw[e']at h5;exact c.le 1 (by simp) (by omega) h5
   rw[this,Option.none_or,h2]
theorem Rz{f:bH}{t:Int}{l:List aH}{kvs:List KV}{ps:List Rf}(h:cM f t l kvs ps):kvs.length=l.length/\(∀i (h1:i < l.length) (h2:i < kvs.length),∃p,CN f t l[i] kvs[i] p/\∀r∈p,r∈ps):=by
 induction h with
 | nil=>exact⟨rfl,fun i h=>by simp at h⟩
 | @cons e l x kvs p ps h r ih=>
  refine⟨by simp[ih.1],fun i h1 h2=>?_⟩
  cases i with
  | zero=>exact⟨p,h,fun r hr=>List.mem_append_left _ hr⟩
  | succ i=>
   obtain⟨p',a,b⟩:=ih.2 i (by simpa using h1) (by simpa using h2);exact⟨p',a,fun r hr=>List.mem_append_right _ (b r hr)⟩
end Go.V
namespace Go.Proofs.YtpjbalhhlaofmaaGreat
open Go.V
section
variable {w:Wd} {T:Nat->Option Nat} {m:bB} {M:Mm}
theorem vT{kind lev:Int}{s ks:Sl}{L:List (aL×aH)}{key:List Int}{K:Int->Pw}(nd:oQ w.heap s L)(hk:cZ w.heap ks key)(k8:B8 key)(hl:L.length<=65536)(hr:za (ents L))(h0:∃e l,ents L=e::l/\e.key=[])
  (k:∀(i:Nat) w',vQ (ents L) key i->Ext No w w'->K i w'):iH kind lev s ks w K:=by
 apply Ee
 refine ag.mk fun b w1 n1=>⟨_,Cell.ai n1.get rfl,?_⟩
 have nl:=nd.len;obtain⟨e0,l0,he0,hk0⟩:=h0;have bC:0 < L.length:=by have:=congrArg List.length he0;simp at this;omega
 have hz:L[0].2.key=[]:=by
  have:=congrArg (fun l=>l[0]?) he0;simp only[List.getElem?_map,List.getElem?_eq_getElem bC,Option.map_some,List.getElem?_cons_zero,Option.some.injEq]at this;rw[this];exact hk0
 refine⟨fun q t w'=>∃i:Nat,t=i/\i<=L.length/\q=L.length - i/\Ext No w1 w'/\∀j (h:j < L.length),j < i->¬ bW key L[j].2.key,⟨L.length,0,rfl,by omega,by omega,Ext.refl _ _,fun j h h'=>by omega⟩,?_⟩;rintro _ m0 t w2 ⟨i,rfl,hi,hm,x2,cL⟩;have hZ:=n1.ext.no x2;refine If.dec (fun h=>?_) fun h=>?_
 .refine qc (nd.rd.no hZ) (by omega) h fun b1 w4 iv g4 _ _ x4=>?_
  simp only[Int.toNat_natCast]at iv g4;have gF:=hZ.no x4;have er:=(nd.no gF).get iv;refine⟨_,Cell.ai g4 rfl,hO er.k (Rd.no hk gF) er.k8 k8 (If.dec (fun hc=>?_) fun hc=>Ar.i64 (by omega) ⟨L.length - (i+1),by omega,i+1,by omega,by omega,rfl,x2.no x4,fun j hj BJ=>?_⟩)⟩
  .have xX:=Nh.1 hc
   have hi0:0 < i:=by
    rcases Nat.eq_zero_or_pos i with h | h
    .subst h;rw[hz]at xX;cases key <;> cases xX
    .exact h
   refine Ar.i64 (by omega) ?_;have e:((i:Int) - 1)=((i - 1:Nat):Int):=by omega
   rw[e];refine k (i - 1) w4 ⟨by simp;omega,fun j hj BJ=>?_,fun j hj BJ=>?_⟩ gF
   .simp only[List.getElem_map];exact cL j (by simpa using hj) (by omega)
   .simp only[List.length_map]at hj;rcases Nat.lt_or_ge i j with h' | h'
    .exact xX.trans (by have:=hr.lt h' (by simpa using hj);simpa using this)
    .have:j=i:=by omega
     subst this;simpa using xX
  .rcases Nat.lt_or_ge j i with h3 | h3
   .exact cL j hj h3
   .have:j=i:=by omega
    subst this;exact fun hh=>hc (Nh.2 hh)
 .have e:i=L.length:=by omega
  refine⟨_,Cell.ai (ad n1.get x2) rfl,Ar.i64 (by omega) ?_⟩;have e2:((s.len:Int) - 1)=((i - 1:Nat):Int):=by omega
  rw[e2];refine k (i - 1) w2 ⟨by simp;omega,fun j hj BJ=>?_,fun j hj BJ=>?_⟩ hZ
  .simp only[List.getElem_map];exact cL j (by simpa using hj) (by omega)
  .simp at hj;omega
end
section
variable {w:Wd} {T:Nat->Option Nat} {m:bB} {M:Mm}
theorem ug{t lev:Int}{r:Rf}{l:List aH}{K:Int->Int->Sl->Int->Pw}(R:aY w.heap T m M)(h:mI M.f t (bE lev) lev r l)(bC:l≠[])(k:∀s L w',iP w'.heap w.heap.size s L->ents L=l->Ext No w w'->K (bE lev) lev s 0 w'):bn (eW m) t r.p r.c r.g lev w K:=by
 obtain⟨p,h1,h2,h3,h4,h5,h6⟩:=h.at_;have Ad:hY r.p M.au=some p:=h1
 have np:Nw p l:=⟨by rw[h4,h5];exact h.right,by rw[h4,h5];exact h.short,fun e he=>(h.ok e he).1,by rw[h4,h5];exact h6⟩
 refine OL (l:=l) R (fun q s L w' hq _ _ _ _ _ o eL x=>k s L w' o eL x) (fun q hq _ _ _ _=>?_) (fun w' hq _=>?_) (fun q w' hq hn _=>?_) (fun q w' hq _ _ _ _ hb _=>?_)
 .rw[Ad]at hq;cases hq;exact .inl np
 .rw[Ad]at hq;cases hq
 .rw[Ad]at hq;cases hq;exact(hn ⟨h3,h4,h5,h2⟩).elim
 .rcases hb with⟨hb,_⟩ | ⟨x,q',hb,Zs,hx2⟩
  .exact(bC hb).elim
  .rw[Ad]at hq;cases hq;rw[h6]at hb;have hs:=h.right.shape;unfold jk at hs;simp only[pad,wr,List.cons_append,List.cons.injEq]at hb;omega
theorem JS{f:Rf}{t k v:Int}{pay:List Int}(R:aY w.heap T m M)(h:At M.f f t k v pay):2<=f.p/\f.ok:=by
 obtain⟨p,h1,h2,h3,h4,h5,h6⟩:=h;have:=R.find h1;refine⟨R.lo _ (uf h1),?_⟩;rw[<- h2];exact this.ok
theorem bu.at_{f:bH}{t:Int}:∀{lev:Nat}{r:Rf}{kvs:List KV}{ps:List Rf},bu f t lev r kvs ps->∃k v pay,At f r t k v pay
 | 0,_,_,_,⟨_,_,h,_⟩=>⟨_,_,_,h.at_⟩
 | _+1,_,_,_,⟨_,_,h,_⟩=>⟨_,_,_,h.at_⟩
theorem me{L:List (aL×aH)}{l:List aH}(h:ents L=l):L.length=l.length:=by rw[<- h];simp
set_option maxHeartbeats 2000000 in
theorem nj{t lev:Int}{r:Rf}{ks:Sl}{key:List Int}{kvs:List KV}{ps:List Rf}{K:Sl->Int->Pw}(R:aY w.heap T m M)(hT:dB M.f t r lev kvs ps)(dn:lev<=30)(hk:cZ w.heap ks key)(k8:B8 key)
  (k2:∀w',key.length=0∨32 < key.length->Ext No w w'->K ⟨none,0,0⟩ 2 w')
  (k7:∀w',1<=key.length->key.length<=32->ca kvs key=none->Ext No w w'->K ⟨none,0,0⟩ 7 w')
  (k0:∀v s w',1<=key.length->key.length<=32->ca kvs key=some v->aU w'.heap w.heap.size s v->Ext No w w'->K s 0 w'):i_ (eW m) t r.p r.c r.g lev ks w K:=by
 apply Ly;have BA:=cZ.len hk
 refine ag.mk fun b w1 n1=>⟨fun w'=>w'=w1/\1<=key.length/\key.length<=32,⟨trivial,If.no (If.beq (fun h=>k2 _ (.inl (by omega)) n1.ext) fun h=>If.dec (fun h'=>k2 _ (.inr (by omega)) n1.ext) fun h'=>⟨rfl,by omega,by omega⟩)⟩,?_⟩
 rintro _ w2 ⟨rfl,VS,CO⟩;refine⟨rfl,bA rfl rfl (by simp[aN]) fun b1 w4 g4 gE z4 x4=>?_⟩;have hb:=n1.at_;have z1:=n1.size;have gF:=n1.ext.no x4;have TF:=ad n1.get x4;refine⟨fun q w'=>∃(r':Rf) (lv:Int) (kv:List KV) (cU:List Rf),dB M.f t r' lv kv cU/\lv<=30/\q=lv.toNat/\ca kv key=ca kvs key/\w'.heap[b]? = some (.cells [.int .u32 r'.p,.int .u64 r'.c,.int .u16 r'.g,.int .u8 lv].toArray 30 (0,0))/\w'.heap[b1]? = some (.cells [eW m,.int .u32 t].toArray 107 (0,0))/\Ext No w w',⟨_,r,lev,kvs,ps,hT,dn,rfl,rfl,TF,g4,gF⟩,?_⟩;rintro _ m0 w5 ⟨r',lv,kv,cU,Tq,Mf,rfl,hg,gb,g1,x5⟩;refine⟨_,Cell.ai gb rfl,_,Cell.ai gb rfl,_,Cell.ai gb rfl,_,Cell.ai gb rfl,?_⟩;dsimp only;rw[JQ];have R5:=R.no x5;rcases Tq with⟨h1,h2,h3,_⟩ | ⟨h1,h2,hS⟩
 .rw[h1,h2];refine If.no (k7 _ VS CO (by rw[<- hg,h3];rfl) x5)
 .rw[decide_eq_false h1];refine If.yes ⟨_,Cell.ai g1 rfl,_,Cell.ai g1 rfl,_,Cell.ai gb rfl,_,Cell.ai gb rfl,_,Cell.ai gb rfl,_,Cell.ai gb rfl,?_⟩
  have sy:∃l,mI M.f t (bE lv) lv r' l/\l≠[]/\(lv=0->∃cU,cM M.f t l kv cU)/\(lv≠0->∃cU,aM (bu M.f t (lv.toNat - 1)) l kv cU):=by
   rcases Classical.em (lv=0) with h0 | h0
   .rw[h0]at hS ⊢;obtain⟨l,q,a1,a2,a3,_⟩:=hS;exact⟨l,a1,a2,fun _=>⟨q,a3⟩,fun h=>(h rfl).elim⟩
   .have e:lv.toNat=(lv.toNat - 1)+1:=by omega
    rw[e]at hS;obtain⟨l,q,a1,a2,a3,_⟩:=hS;have e2:(((lv.toNat - 1+1:Nat)):Int)=lv:=by omega
    rw[e2]at a1;refine⟨l,by unfold bE;rw[if_neg h0];exact a1,by intro h;rw[h]at a2;simp at a2,fun h=>(h0 h).elim,fun _=>⟨q,a3⟩⟩
  obtain⟨l,hN,bC,aaO,aaP⟩:=sy;have IZ:=gk hN.short;refine ug R5 hN bC fun s6 L w6 o6 eL x6=>bA rfl rfl (by simp[aN]) fun b2 w8 g8 lO z8 x8=>If.bne (fun h=>(h rfl).elim) fun _=>?_
  have xZ:=x6.no x8;have qq:=x5.no xZ;have VT:=ad gb xZ;have vN:=ad g1 xZ;have FA:oQ w8.heap s6 L:=(o6.no x8).nd;have hL:=me eL;refine⟨_,Cell.ai VT rfl,If.dec (fun s_=>?_) fun s_=>?_⟩
  .-- down
   obtain⟨q,hK⟩:=aaP (by omega);have hr:za l:=hN.right.ord;have k2e:bE lv=2:=by unfold bE;rw[if_neg (by omega)]
   have h0:∃e l',ents L=e::l'/\e.key=[]:=by
    cases l with
    | nil=>exact(bC rfl).elim
    | cons e l' =>
     refine⟨e,l',eL,?_⟩;have:=(hN.right.iw 0 (by simp)).1;rw[k2e]at this;unfold nf at this;rw[if_pos ⟨rfl,rfl⟩]at this;exact List.eq_nil_of_length_eq_zero (by simpa using this)
   have JT:¬ b2=b:=by have:=blt gb;have:=x6.size;omega
   have nS:∀{q:Nat},q≠b->¬ (fun i=>i=b) q:=fun h h'=>h h'
   refine⟨Ext (·=b) w8,(Ext.refl _ _).drew,_,ae.dQ (Cell.ai g8 rfl) JT,_,ae.dQ (Cell.ai g8 rfl) JT,_,ae.dQ (Cell.ai g8 rfl) JT,_,ae.dQ (Cell.ai g8 rfl) JT,_,ae.dQ (Cell.ai g8 rfl) JT,_,ae.dQ (Cell.ai g8 rfl) JT,?_⟩
   refine vT (w:=aa w8) FA (Rd.no hk qq.drew) k8 (by omega) (by rw[eL];exact hr) h0 fun i w9 hc x9=>⟨(x9.aj).aG,?_⟩
   have Bk:Ext No w8 w9:=x9.aj;have RA:vQ l key i:=by rw[<- eL];exact hc
   have hi:i < L.length:=by have:=RA.lt;omega
   refine lE (FA.no Bk) (by omega) (by simpa using hi) (by omega) fun dA dR=>⟨(Bk.no dR).aG,?_⟩
   have x8a:Ext No w8 dA:=Bk.no dR
   refine cK (ad VT x8a) rfl rfl (by simp[aN]) fun dg Ir fY _=>⟨x8a.aG.trans fY fun _ _ h=>h,?_⟩
   obtain⟨Bj,p',hQ,hg',sK,_⟩:=Ry hK hr RA
   have e1:L[((i:Nat):Int).toNat].2=l[i]'RA.lt:=by
    have:=congrArg (fun l=>l[i]?) eL;simp only[List.getElem?_map,List.getElem?_eq_getElem hi,List.getElem?_eq_getElem RA.lt,Option.map_some,Option.some.injEq]at this;simpa using this
   rw[e1]at Ir;obtain⟨_,_,_,Fi⟩:=bu.at_ hQ;have OQ:=(JS R Fi).1;refine⟨(lv - 1).toNat,by omega,(l[i]'RA.lt).cd,lv - 1,Bj,p',.inr ⟨fun h=>by rw[h]at OQ;exact absurd OQ (by decide),by omega,by rw[show(lv - 1).toNat=lv.toNat - 1 by omega];exact hQ⟩,by omega,rfl,by rw[<- hg',hg],Ir,af (ad vN x8a) fY (by omega),(qq.no x8a).trans fY fun q hq h=>by omega⟩
  .-- a leaf
   have h0:lv=0:=by omega
   obtain⟨q,hLf⟩:=aaO h0;refine⟨_,Cell.ai g8 rfl,_,Cell.ai g8 rfl,_,Cell.ai g8 rfl,find_spec FA (Rd.no hk qq) k8 (by omega) fun i f eG hf gS=>?_⟩;obtain⟨Qp,hle⟩:=Rz hLf;have hr:za l:=hN.right.ord;rw[eL]at hf
   have RB:∀j (h1:j < l.length) (h2:j < kv.length),l[j].key=kv[j].1:=fun j h1 h2=>by
    obtain⟨p,a,_⟩:=hle j h1 h2;exact a.1
   refine If.not (If.cases (fun Uz=>?_) fun Uz=>?_)
   .subst Uz;obtain⟨hi,gN⟩:=hf.eq.1 rfl;have iv:i < L.length:=by omega
    have qp:i < kv.length:=by omega
    have hv:ca kv key=some kv[i].2:=by
     unfold ca
     have:kv.find? (fun x=>decide (x.1=key))=some kv[i]:=by
      rw[List.find?_eq_some_iff_getElem];refine⟨by simp[<- RB i hi qp,gN],i,qp,rfl,fun j hj=>?_⟩;have cL:=hf.lt j (by omega) hj;rw[RB j (by omega) (by omega)]at cL;simp only[Bool.not_eq_true',decide_eq_false_iff_not];intro e;rw[e]at cL;exact cL.irrefl
     rw[this];rfl
    have x8d:=gS;have RC:=FA.no gS;obtain⟨p,hE,_⟩:=hle i hi qp;have k1e:bE lv=1:=by rw[h0];rfl
    refine⟨Ext No eG,(Ext.refl _ _).drew,_,ae.cell (Cell.ai (ad vN gS) rfl),_,ae.cell (Cell.ai (ad vN gS) rfl),_,ae.cell (Cell.ai (ad g8 gS) rfl),Ix.elem RC.rd (bX L) (by decide) (by omega) (by have:=RC.len;omega) fun bb o LU _ hc=>?_⟩;refine⟨_,ae.cell (hc 0 _ rfl),_,ae.cell (hc 1 _ rfl),_,ae.cell (hc 2 _ rfl),_,ae.cell (hc 3 _ rfl),_,ae.cell (hc 4 _ rfl),_,ae.cell (hc 5 _ rfl),_,ae.cell (hc 6 _ rfl),_,ae.cell (hc 7 _ rfl),_,ae.cell (hc 8 _ rfl),?_⟩;simp only[Int.toNat_natCast]at LU ⊢
    have e1:L[i].2=l[i]:=by
     have:=congrArg (fun l=>l[i]?) eL;simp only[List.getElem?_map,List.getElem?_eq_getElem LU,List.getElem?_eq_getElem hi,Option.map_some,Option.some.injEq]at this;exact this
    have er:=RC.get LU;rw[e1]at er;have TB:=hN.right.iw i hi;rw[k1e]at TB
    refine Mh (w:=aa eG) (R.no (qq.no gS).drew) er TB hE fun s cX Bi eE=>⟨eE.aj,?_⟩
    have Mi:=qq.no gS;exact k0 _ s cX VS CO (by rw[<- hg];exact hv) (aT.mono Bi Mi.size) (Mi.no eE.aj)
   .refine k7 eG VS CO ?_ (qq.no gS);rw[<- hg];refine qY fun x hx e=>?_
    obtain⟨j,hj,rfl⟩:=List.getElem_of_mem hx;have oP:j < l.length:=by omega
    have ek:=RB j oP hj;rw[e]at ek;rcases Nat.lt_or_ge j i with h | h
    .have:=hf.lt j oP h;rw[ek]at this;exact this.irrefl
    .rcases Nat.lt_or_ge i j with h' | h'
     .have h3:=hf.ge (by omega);have h4:=hr.lt h' oP;rw[ek]at h4;exact h3 h4
     .have:j=i:=by omega
      subst this;have:=hf.eq.2 ⟨oP,ek⟩;rw[Uz]at this;cases this
end
end Go.Proofs.YtpjbalhhlaofmaaGreat
namespace Go.V
def live(l:List (Int×Pg)):List Rf:=(l.filter fun p=>!p.2.waits).map fun p=>p.2.r
structure mf(M M':Mm)(k:Nat)(ds ns:List Rf):Prop where
 aE:M'.aE=M.aE
 gen:M'.gen=M.gen
 Iu:∀q,(live M'.au).count q+ds.count q=(live M.au).count q+ns.count q
 kp:∀n p,M.f n=some p->(p.r ∉ ds∨p.r.c≠M.aE)->∃p',M'.f n=some p'/\p'.r=p.r/\p'.t=p.t/\p'.k=p.k/\p'.v=p.v/\p'.pay=p.pay
 len:M'.au.length<=M.au.length+k
theorem mf.refl(M:Mm):mf M M 0 [] []:=⟨rfl,rfl,fun _=>rfl,fun _ p h _=>⟨p,h,rfl,rfl,rfl,rfl,rfl⟩,Nat.le_refl _⟩
theorem mf.trans{M0 M1 M2:Mm}{k1 k2:Nat}{d1 d2 n1 n2:List Rf}(a:mf M0 M1 k1 d1 n1)(b:mf M1 M2 k2 d2 n2):mf M0 M2 (k1+k2) (d1++d2) (n1++n2):=by
 refine⟨b.aE.trans a.aE,b.gen.trans a.gen,fun q=>?_,fun n p h hd=>?_,by have:=a.len;have:=b.len;omega⟩
 .have:=a.Iu q;have:=b.Iu q;simp only[List.count_append];omega
 .simp only[List.mem_append,not_or]at hd;obtain⟨p1,h1,h2,h3,h4,h5,h6⟩:=a.kp n p h (hd.imp (fun h=>h.1) id);obtain⟨p2,g1,g2,g3,g4,g5,g6⟩:=b.kp n p1 h1 (by rw[h2,a.aE];exact hd.imp (fun h=>h.2) id);exact⟨p2,g1,g2.trans h2,g3.trans h3,g4.trans h4,g5.trans h5,g6.trans h6⟩
theorem mf.as{M M':Mm}{k k':Nat}{ds ns ds' ns':List Rf}(a:mf M M' k ds ns)(hk:k<=k')(hm:∀q∈ds,q∈ds')(hc:∀q,ds'.count q+ns.count q=ds.count q+ns'.count q):mf M M' k' ds' ns' :=
 ⟨a.aE,a.gen,fun q=>by have:=a.Iu q;have:=hc q;omega,fun n p h hd=>a.kp n p h (hd.imp (fun h h'=>h (hm _ h')) id),by have:=a.len;omega⟩
theorem mf.cB{M M':Mm}{k:Nat}{ds ns ps:List Rf}(a:mf M M' k ds ns)(h:∀q∈ps,q ∉ ds∨q.c≠M.aE):iR M.f M'.f ps:=fun r hr p hp he=>a.kp r.p p hp (by rw[he];exact h r hr)
structure Mk(M:Mm):Prop where
 nd:(M.au.map Prod.fst).Nodup
 rn:∀p∈M.au,p.2.r.p=p.1
theorem aY.Bl{h:Array Obj}{T:Nat->Option Nat}{m:bB}{M:Mm}(R:aY h T m M):Mk M:=⟨R.nd,fun p hp=>(R.pg p hp).rn⟩
theorem RD{l:List (Int×Pg)}{q:Rf}:q∈live l ↔ ∃p∈l,p.2.waits=false/\p.2.r=q:=by
 unfold live;simp only[List.mem_map,List.mem_filter,Bool.not_eq_true'];constructor
 .rintro⟨p,⟨h1,h2⟩,h3⟩;exact⟨p,h1,h2,h3⟩
 .rintro⟨p,h1,h2,h3⟩;exact⟨p,⟨h1,h2⟩,h3⟩
theorem FB{M:Mm}{q:Rf}(S:Mk M)(h:q∈live M.au):∃p,M.f q.p=some p/\p.r=q/\p.waits=false:=by
 obtain⟨p,h1,h2,h3⟩:=RD.1 h;refine⟨p.2,?_,h3,h2⟩;have:=S.rn p h1;show hY q.p M.au=_;rw[<- h3,this];exact gM S.nd h1
theorem CP{M:Mm}(S:Mk M):(live M.au).Nodup:=by
 have h:((live M.au).map Rf.p).Nodup:=by
  have e:(live M.au).map Rf.p=(M.au.filter fun p=>!p.2.waits).map Prod.fst:=by
   unfold live;rw[List.map_map];exact List.map_congr_left fun p hp=>S.rn p (List.mem_filter.1 hp).1
  rw[e];exact S.nd.sublist (List.filter_sublist.map _)
 exact List.Pairwise.of_map Rf.p (fun a b h e=>h (by rw[e])) h
theorem JU(a b:List (Int×Pg)):live (a++b)=live a++live b:=by simp[live]
theorem CQ{n:Int}{a b:List (Int×Pg)}:hY n (a++b)=(hY n a).or (hY n b):=by
 induction a with
 | nil=>rfl
 | cons p a ih=>
  simp only[List.cons_append,hY];split
  .rfl
  .exact ih
abbrev Bm(M:Mm)(n t k v:Int)(pay:List Int):Mm:={ M with au:=M.au++[(n,⟨t,k,v,⟨n,M.aE,M.gen⟩,pay,false⟩)] }
theorem mf.put{M:Mm}{n t k v:Int}{pay:List Int}:mf M (Bm M n t k v pay) 1 [] [⟨n,M.aE,M.gen⟩]:=by
 refine⟨rfl,rfl,fun q=>?_,fun n' p h _=>⟨p,?_,rfl,rfl,rfl,rfl,rfl⟩,by simp⟩
 .show(live (M.au++_)).count q+_=_;rw[JU,List.count_append];rfl
 .have h':hY n' M.au=some p:=h;show hY n' (M.au++_)=_;rw[CQ,h'];rfl
theorem qZ{M:Mm}{n t k v:Int}{pay:List Int}(h:Go.Proofs.YtpjbalhhlaofmaaGreat.CF M.au n):At (Bm M n t k v pay).f ⟨n,M.aE,M.gen⟩ t k v pay:=by
 refine⟨⟨t,k,v,⟨n,M.aE,M.gen⟩,pay,false⟩,?_,rfl,rfl,rfl,rfl,rfl⟩;show hY n (M.au++_)=_;rw[CQ,h.no];simp[hY]
theorem RE{n:Int}{l:List (Int×Pg)}(h:n ∉ l.map Prod.fst):kP n l=l:=by
 unfold kP
 conv=>rhs;rw[<- List.map_id l]
 refine List.map_congr_left fun p hp=>?_
 rw[if_neg (fun e=>h (List.mem_map.2 ⟨p,hp,e⟩))];rfl
theorem JV{n n':Int}:∀{l:List (Int×Pg)},hY n' (kP n l)=(hY n' l).map fun p=>if n'=n then { p with waits:=true } else p
 | []=>rfl
 | q::l=>by
  have ih:=JV (n:=n) (n':=n') (l:=l);simp only[kP,List.map_cons,hY]at ih ⊢;by_cases h:q.1=n
  .rw[if_pos h];by_cases h2:n'=q.1
   .simp only[h2,if_true,Option.map_some,h]
   .simp only[if_neg h2];exact ih
  .rw[if_neg h];by_cases h2:n'=q.1
   .simp only[h2,if_true,Option.map_some,if_neg h]
   .simp only[if_neg h2];exact ih
theorem Ny{n n':Int}(h:n'≠n):∀{l:List (Int×Pg)},hY n' (qU n l)=hY n' l
 | []=>rfl
 | q::l=>by
  unfold qU;split
  .rename_i h2;rw[hY,if_neg (by rw[<- h2];exact h)]
  .simp only[hY];split
   .rfl
   .exact Ny h
theorem lF(q:Int×Pg)(l:List (Int×Pg)):live (q::l)=if q.2.waits then live l else q.2.r::live l:=by
 unfold live
 cases h:q.2.waits <;> simp[h]
theorem JW{n:Int}{r:Rf}:∀{l:List (Int×Pg)}{p:Pg},(l.map Prod.fst).Nodup->hY n l=some p->p.waits=false->p.r=r->∀q,(live (qU n l)).count q+[r].count q=(live l).count q
 | [],_,_,h,_,_,_=>by cases h
 | x::l,p,sy,h,hw,hr,q=>by
  simp only[List.map_cons,List.nodup_cons]at sy;unfold hY at h;unfold qU;split at h
  .rename_i h1
   cases h
   rw[if_pos h1,lF,hw,if_neg (by simp),hr];simp only[List.count_cons,List.count_nil];omega
  .rename_i h1;rw[if_neg h1];have ih:=JW sy.2 h hw hr q;rw[lF,lF];split
   .exact ih
   .simp only[List.count_cons,List.count_nil]at ih ⊢;omega
theorem FC{n:Int}{r:Rf}:∀{l:List (Int×Pg)}{p:Pg},(l.map Prod.fst).Nodup->hY n l=some p->p.waits=false->p.r=r->∀q,(live (kP n l)).count q+[r].count q=(live l).count q
 | [],_,_,h,_,_,_=>by cases h
 | x::l,p,sy,h,hw,hr,q=>by
  simp only[List.map_cons,List.nodup_cons]at sy;unfold hY at h;split at h
  .rename_i h1
   cases h
   have:kP n (x::l)=(x.1,{ x.2 with waits:=true })::l:=by
    have:=RE (n:=n) (l:=l) (by rw[h1];exact sy.1)
    unfold kP at this ⊢;rw[List.map_cons,this,if_pos h1.symm]
   rw[this,lF,lF,hw,if_pos rfl,if_neg (by simp),hr];simp only[List.count_cons,List.count_nil];omega
  .rename_i h1;have ih:=FC sy.2 h hw hr q
   have:kP n (x::l)=x::kP n l:=by
    unfold kP;rw[List.map_cons,if_neg (fun e=>h1 e.symm)]
   rw[this,lF,lF];split
   .exact ih
   .simp only[List.count_cons,List.count_nil]at ih ⊢;omega
theorem mf.drop{M:Mm}{r:Rf}(S:Mk M)(h:r∈live M.au):(l_ M r).1=0/\mf M (l_ M r).2 0 [r] []:=by
 obtain⟨p,h1,h2,h3⟩:=FB S h;have Ad:hY r.p M.au=some p:=h1;have hlen:(qU r.p M.au).length<=M.au.length:=(gi _ _).length_le;unfold l_;rw[Ad];simp only;rw[if_neg (by rw[h3,h2];simp)];split
 .rename_i hc;refine⟨rfl,rfl,rfl,fun q=>?_,fun n p' h hd=>?_,by simpa using hlen⟩
  .have:=JW S.nd Ad h3 h2 q;simpa using this
  .have hn:n≠r.p:=fun e=>by
    have h':hY n M.au=some p':=h;rw[e,Ad]at h';cases h';rcases hd with hd | hd
    .exact hd (by rw[h2];simp)
    .exact hd (by rw[h2];exact hc)
   have h':hY n M.au=some p':=h;exact⟨p',by show hY n (qU r.p M.au)=_;rw[Ny hn];exact h',rfl,rfl,rfl,rfl,rfl⟩
 .refine⟨rfl,rfl,rfl,fun q=>?_,fun n p' h _=>?_,by simp[kP]⟩
  .have:=FC S.nd Ad h3 h2 q;simpa using this
  .have h':hY n M.au=some p':=h;refine⟨if n=r.p then { p' with waits:=true } else p',by show hY n (kP r.p M.au)=_;rw[JV,h'];rfl,?_⟩;split <;> exact⟨rfl,rfl,rfl,rfl,rfl⟩
def kvLo(k:List Int)(l:List KV):List KV:=l.filter fun x=>decide (bW x.1 k)
def kvHi(k:List Int)(l:List KV):List KV:=l.filter fun x=>decide (bW k x.1)
def kH(k:List Int)(o:Option (List Int))(l:List KV):List KV:=kvLo k l++((o.map fun v=>(k,v)).toList++kvHi k l)
theorem xG{k:List Int}{o:Option (List Int)}{a b c:List KV}(ha:∀x∈a,bW x.1 k)(hc:∀x∈c,bW k x.1):kH k o (a++(b++c))=a++(kH k o b++c):=by
 have lo:∀{l:List KV},(∀x∈l,bW x.1 k)->kvLo k l=l/\kvHi k l=[]:=fun {l} h=>
  ⟨List.filter_eq_self.2 fun x hx=>decide_eq_true (h x hx),List.filter_eq_nil_iff.2 fun x hx h2=>((h x hx).trans (of_decide_eq_true h2)).irrefl⟩
 have hi:∀{l:List KV},(∀x∈l,bW k x.1)->kvHi k l=l/\kvLo k l=[]:=fun {l} h=>
  ⟨List.filter_eq_self.2 fun x hx=>decide_eq_true (h x hx),List.filter_eq_nil_iff.2 fun x hx h2=>((h x hx).trans (of_decide_eq_true h2)).irrefl⟩
 unfold kH
 have e1:kvLo k (a++(b++c))=a++kvLo k b:=by
  have h1:kvLo k (a++(b++c))=kvLo k a++(kvLo k b++kvLo k c):=by simp[kvLo]
  rw[h1,(lo ha).1,(hi hc).2];simp
 have e2:kvHi k (a++(b++c))=kvHi k b++c:=by
  have h1:kvHi k (a++(b++c))=kvHi k a++(kvHi k b++kvHi k c):=by simp[kvHi]
  rw[h1,(lo ha).2,(hi hc).1];simp
 rw[e1,e2];simp
end Go.V
