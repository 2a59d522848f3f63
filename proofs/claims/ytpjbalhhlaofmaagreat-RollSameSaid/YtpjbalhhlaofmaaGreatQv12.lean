/- Texts for LRollSame,LRollBytes,LRollReads,LRollNone, part 12. -/
import Derived.Laws.Externs
import Derived.Test.YtpjbalhhlaofmaaGreatQv11
namespace Go.V
def hZ:List Int->List Int->Int
 | [],[]=>0
 | [],_::_=> -1
 | _::_,[]=>1
 | x::a,y::b=>if x < y then -1 else if y < x then 1 else hZ a b
theorem wY:∀a:List Int,hZ a a=0
 | []=>rfl
 | x::a=>by simp[hZ,wY a]
theorem Fi:∀{a b:List Int},hZ a b=0->a=b
 | [],[],_=>rfl
 | [],_::_,h=>by simp[hZ]at h
 | _::_,[],h=>by simp[hZ]at h
 | x::a,y::b,h=>by
  simp only[hZ]at h;split at h
  .omega
  .split at h
   .omega
   .rw[Fi h,show x=y by omega]
theorem LF{a b:List Int}:hZ a b=0 ↔ a=b:=⟨Fi,fun h=>h ▸ wY a⟩
theorem AK:∀(a b:List Int),hZ b a = - hZ a b
 | [],[]=>rfl
 | [],_::_=>rfl
 | _::_,[]=>rfl
 | x::a,y::b=>by
  simp only[hZ];rcases Int.lt_trichotomy x y with h | h | h
  .rw[if_neg (by omega),if_pos h,if_pos h];rfl
  .rw[if_neg (by omega),if_neg (by omega),if_neg (by omega),if_neg (by omega)];exact AK a b
  .rw[if_pos h,if_neg (by omega),if_pos h]
theorem r_:∀(a b:List Int),hZ a b = -1∨hZ a b=0∨hZ a b=1
 | [],[]=> .inr (.inl rfl)
 | [],_::_=> .inl rfl
 | _::_,[]=> .inr (.inr rfl)
 | x::a,y::b=>by
  simp only[hZ];split
  .simp
  .split
   .simp
   .exact r_ a b
def bM(a b:List Int):Prop:=hZ a b = -1
instance (a b:List Int):Decidable (bM a b):=inferInstanceAs (Decidable (_=_))
theorem bM.irrefl{a:List Int}(h:bM a a):False:=by unfold bM at h;rw[wY]at h;omega
theorem bM.trans:∀{a b c:List Int},bM a b->bM b c->bM a c
 | [],[],_,h,_=>by simp[bM,hZ]at h
 | [],_::_,[],_,h=>by simp[bM,hZ]at h
 | [],_::_,_::_,_,_=>rfl
 | _::_,[],_,h,_=>by simp[bM,hZ]at h
 | _::_,_::_,[],_,h=>by simp[bM,hZ]at h
 | x::a,y::b,z::c,h,k=>by
  simp only[bM,hZ] at *;split at h
  .split at k
   .rw[if_pos (by omega)]
   .split at k
    .omega
    .rw[if_pos (by omega)]
  .split at h
   .omega
   .split at k
    .rw[if_pos (by omega)]
    .split at k
     .omega
     .rw[if_neg (by omega),if_neg (by omega)];exact bM.trans h k
theorem bM.total(a b:List Int):bM a b∨a=b∨bM b a:=by
 rcases r_ a b with h | h | h
 .exact .inl h
 .exact .inr (.inl (Fi h))
 .exact .inr (.inr (by unfold bM;rw[AK];omega))
theorem bM.nil{a:List Int}(h:a≠[]):bM [] a:=by cases a with | nil=>exact(h rfl).elim | cons=>rfl
theorem Ko{a b:List Int}:¬ bM a b ↔ a=b∨bM b a:=by
 constructor
 .intro h;rcases bM.total a b with h' | h' | h'
  .exact(h h').elim
  .exact .inl h'
  .exact .inr h'
 .rintro(h | h) k
  .subst h;exact k.irrefl
  .exact(k.trans h).irrefl
theorem lW{a b:List Int}:hZ a b≥0 ↔ ¬ bM a b:=by
 unfold bM;rcases r_ a b with h | h | h <;> rw[h] <;> decide
theorem Kp{a b:List Int}:hZ a b > 0 ↔ bM b a:=by
 unfold bM;rw[AK a b];rcases r_ a b with h | h | h <;> rw[h] <;> decide
theorem qh:∀{a b:List Int},B8 a->B8 b->Lib.compareBytes (Lib.bytesOf a) (Lib.bytesOf b)=hZ a b
 | [],[],_,_=>rfl
 | [],_::_,_,_=>rfl
 | _::_,[],_,_=>rfl
 | x::a,y::b,h,k=>by
  have hx:=h x List.mem_cons_self;have hy:=k y List.mem_cons_self;have ih:=qh (h.sub fun _ h=>List.mem_cons_of_mem _ h) (k.sub fun _ h=>List.mem_cons_of_mem _ h)
  have hl:∀{x y:Int},(0<=x/\x<=255)->(0<=y/\y<=255)->(UInt8.ofNat x.toNat < UInt8.ofNat y.toNat ↔ x < y):=fun {x y} hx hy=>by
   rw[UInt8.lt_iff_toNat_lt,UInt8.toNat_ofNat',UInt8.toNat_ofNat',Nat.mod_eq_of_lt (by omega),Nat.mod_eq_of_lt (by omega)];omega
  simp only[Lib.bytesOf,List.map_cons,Lib.compareBytes,hZ,hl hx hy,hl hy hx];rw[show Lib.compareBytes (a.map fun n=>UInt8.ofNat n.toNat) (b.map fun n=>UInt8.ofNat n.toNat)=hZ a b from ih]
theorem xV{P:Program}{w:Wd}{s:Sl}{l:List Int}(h:Rd w.heap s 1 (l.map (Value.int .u8))):(Extern.Bytes.bytesOf s.v).run P w = .ok ⟨(Lib.bytesOf l).toArray⟩ w:=by
 have hl:s.len=l.length:=by have:=h.len;simp at this;exact this.symm
 obtain⟨sa,sl,sc⟩:=s;simp only at hl;subst hl
 cases sa with
 | none=>
  have:l=[]:=by
   rcases Classical.em (l=[]) with h' | h'
   .exact h'
   .obtain⟨_,_,ha,_⟩:=Rd.at_ h (by simpa using h')
    cases ha
  subst this;rfl
 | some a=>
  show Sem.run P (Extern.Bytes.loadBytes a l.length .empty) w=_;rw[Lib.run_loadBytesX w l a .empty fun j x hj=>?_]
  .congr 1;apply ByteArray.ext;show(#[]:Array UInt8)++(Lib.bytesOf l).toArray=(Lib.bytesOf l).toArray;simp
  .have eO:j < l.length:=(List.getElem?_eq_some_iff.1 hj).1;obtain⟨b,o,ha,hc⟩:=Rd.at_ h (by intro e;rw[List.map_eq_nil_iff]at e;subst e;simp at eO);simp only[Option.some.injEq]at ha;subst ha;rw[aw rfl,lU,hc j (by simpa using eO),List.getElem_map];rw[List.getElem?_eq_getElem eO]at hj;rw[Option.some.inj hj]
theorem bf.pre{h:Array Obj}{base:Nat}{e:TypeId}{sz:Nat}{s:Sl}{cs:List Value}{hi:Int}{K:Sl->Prop}(o:bf h base e sz s cs)(h0:0<=hi)(h1:hi<=(s.len:Int))
  (k:∀s',bf h base e sz s' (cs.take (hi.toNat * sz))->s'.aj=s.aj->s'.len=hi.toNat->s'.cap=s.cap->K s'):Cut s 0 hi (((s.cap:Nat):Int)) sz K:=by
 have iz:=o.rd.cap;have hlen:=o.len;refine Cut.mk (Int.le_refl _) h0 (by omega) (Int.le_refl _) ?_;rcases o.is with⟨rfl,rfl⟩ | ⟨b,rest,ha,hle,tZ,hl,hc⟩
 .have:hi=0:=by simp at h1;omega
  subst this;exact k _ (by simpa[iQ] using bf.nil h base e sz) (by simp[iQ]) rfl rfl
 .have e1:iQ s.a s.cap 0 sz=s.a:=by
   unfold iQ;split
   .rfl
   .rw[ha];simp[aw]
  have YV:hi.toNat * sz<=s.len * sz:=Nat.mul_le_mul_right _ (by omega);rw[show((s.cap:Nat):Int).toNat=s.cap from rfl,show Int.toNat 0=0 from rfl,e1,show(hi - 0).toNat=hi.toNat by omega,show(((s.cap:Nat):Int) - 0).toNat=s.cap by omega];refine k _ ⟨by rw[List.length_take];simp only;omega,.inr ⟨b,cs.drop (hi.toNat * sz)++rest,ha,hle,?_,?_,by simp only;omega⟩,fun v hv=>o.cells v (List.mem_of_mem_take hv)⟩ rfl rfl rfl
  .rw[<- List.append_assoc,List.take_append_drop];exact tZ
  .rw[<- List.append_assoc,List.take_append_drop];exact hl
end Go.V
namespace Go.Proofs.YtpjbalhhlaofmaaGreat
open Go.V
section
variable {w:Wd}
theorem gz{a b:Sl}{x y:List Int}{K:Int->Pw}(ha:b_ w.heap a x)(hb:b_ w.heap b y)(hx:B8 x)(hy:B8 y)(k:K (hZ x y) w):ct a b w K:=by
 apply zr;refine⟨hZ x y,w,?_,k⟩;rw[run_callFunc_extern (e:=Extern.BytealgCompare.compare) Tryz.func142 (by kernel_rfl) (by kernel_rfl) (by kernel_rfl) (by kernel_rfl)];change(Sem.run pz (do pure (goInt (Extern.BytealgCompare.cmp (<- Extern.Bytes.bytesOf a.v) (<- Extern.Bytes.bytesOf b.v)))) w).andThen _=_;simp only[Sem.run_bind,xV ha,xV hb,Sem.run_pure,Result.andThen];rw[Lib.cmp_eq,<- qh hx hy];rfl
theorem LG{n:Int}{K:Sl->Pw}(h0:0<=n)(h1:n<=1099511627776)(k:∀s w',aK w'.heap w.heap.size s []->Ext No w w'->K s w'):eU ⟨none,0,0⟩ n w K:=by
 apply oJ;refine⟨fun w'=>w'=w,If.dec (fun h=>by omega) fun _=>rfl,?_⟩;rintro _ w1 rfl;refine Ar.i64 (by simp) (Ar.i64 (by simp;omega) (If.dec (fun h=>?_) (fun h=>k _ _ (bf.nil _ _ _ _) (Ext.refl _ _))));refine Cut.mk (Int.le_refl _) (by simp) (by simp) (by simp) ?_;have e:(n - ((0:Nat) - (0:Nat):Int))=(n.toNat:Int):=by simp;omega
 simp only[iQ];show bg pz 23 3 ⟨none,0,0⟩ (.int .i64 (n - ((0:Nat) - (0:Nat):Int))) _ w1;rw[e];refine Hg (k:= .i64) (ie:=Tryz.t5) (z:= .int .u8 0) (by kernel_rfl) (by kernel_rfl) (by kernel_rfl) (by kernel_rfl) (by kernel_rfl) (by kernel_rfl) rfl (by kernel_rfl) (bf.nil _ w1.heap.size 5 1) (Nat.le_refl _) (by simp;omega) fun s' w' o hl x _=>?_
 refine bf.pre o (by simp) (by simp) fun s3 o3 _ _ _=>k _ _ (by show bf _ _ 5 1 s3 [];simpa using o3) (x.mono fun _ _ h=>by cases h)
theorem q_{sl:Sl}{ps:List (Sl×List Int)}{K:Sl->Pw}(hs:Rd w.heap sl 1 (ps.map fun p=>p.1.v))(hp:∀p∈ps,b_ w.heap p.1 p.2)(hb:((ps.map Prod.snd).flatten).length<=1099511627776)
  (hn:ps.length<=4294967296) (k:∀s w',aK w'.heap w.heap.size s (ps.map Prod.snd).flatten->Ext No w w'->K s w'):aT sl w K:=by
 apply mW;have hl:sl.len=ps.length:=by have:=hs.len;simp at this;exact this.symm
 have hle:∀j,((ps.take j).map Prod.snd).flatten.length<=1099511627776:=fun j=>by
  refine Nat.le_trans ?_ hb
  have e:(ps.map Prod.snd).flatten=((ps.take j).map Prod.snd).flatten++((ps.drop j).map Prod.snd).flatten:=by
   rw[<- List.flatten_append,<- List.map_append,List.take_append_drop]
  rw[e,List.length_append];omega
 have s_:∀j (h:j < ps.length),((ps.take (j+1)).map Prod.snd).flatten=((ps.take j).map Prod.snd).flatten++ps[j].2:=fun j h=>by
  rw[List.take_add_one,List.getElem?_eq_getElem h];simp only[Option.toList_some,List.map_append,List.map_cons,List.map_nil,List.flatten_append,List.flatten_cons,List.flatten_nil,List.append_nil]
 refine⟨fun m n t w'=>w'=w/\∃j:Nat,t=j/\j<=ps.length/\m=ps.length - j/\n=(((ps.take j).map Prod.snd).flatten.length:Int),⟨ps.length,rfl,0,rfl,by omega,by omega,by simp⟩,?_⟩;rintro _ m0 n t w1 ⟨rfl,j,rfl,hj,hm,rfl⟩;refine If.dec (fun h=>Ix.cell hs (by omega) (by omega) fun bb o v _ hv hc=>?_) (fun h=>?_)
 .have mH:j < ps.length:=by omega
  rw[Int.toNat_natCast,List.getElem?_map,List.getElem?_eq_getElem mH]at hv;simp only[Option.map_some,Option.some.injEq]at hv;subst hv;have hlen:=b_.len (hp _ (List.getElem_mem mH));have h1:=hle (j+1);rw[s_ j mH,List.length_append]at h1;refine⟨_,hc,Ar.i64 (by omega) (If.dec (fun h=>by omega) (fun _=>Ar.i64 (by omega) ⟨ps.length - (j+1),by omega,rfl,j+1,by omega,by omega,rfl,?_⟩))⟩;rw[s_ j mH,List.length_append,hlen];omega
 .refine LG (by omega) (by have:=hle j;omega) fun s0 w2 o2 x2=>?_
  refine⟨fun m s t w'=>∃j:Nat,t=j/\j<=ps.length/\m=ps.length - j/\aK w'.heap w1.heap.size s ((ps.take j).map Prod.snd).flatten/\Ext No w1 w',⟨ps.length,0,rfl,by omega,by omega,by simpa using o2,x2⟩,?_⟩;rintro _ m1 s1 t1 w3 ⟨i,rfl,hi,Nw,o3,x3⟩;refine If.dec (fun h=>Ix.cell (hs.no x3) (by omega) (by omega) fun bb o v _ hv hc=>?_) (fun h=>?_)
  .have iO:i < ps.length:=by omega
   rw[Int.toNat_natCast,List.getElem?_map,List.getElem?_eq_getElem iO]at hv;simp only[Option.map_some,Option.some.injEq]at hv;subst hv;have hr:=hp _ (List.getElem_mem iO);have hlen:=b_.len hr;have h1:=hle (i+1);rw[s_ i iO,List.length_append]at h1;have h2:=aK.len o3;refine⟨_,hc,c_ o3 (x3.size) (Rd.no hr x3).src (by omega) fun s' w' o' _ x' _=>Ar.i64 (by omega) ⟨ps.length - (i+1),by omega,i+1,by omega,by omega,rfl,?_,x3.trans x' fun q hq hh=>?_⟩⟩
   .rw[<- List.map_append,<- s_ i iO]at o';exact o'
   .have:=(o3.lt hh).1;omega
  .have e:i=ps.length:=by omega
   rw[e,List.take_length]at o3;exact k _ _ o3 x3
end
end Go.Proofs.YtpjbalhhlaofmaaGreat
namespace Go.Proofs.YtpjbalhhlaofmaaGreat
open Go.V Go.V.Pk
theorem ach:(2:Int) ^ min (Int.toNat 7) (IntKind.bits .u64)=128:=by decide
theorem Hj{n:Int}{w:Wd}{K:Sl->Pw}(h0:0<=n)(h1:n<=18446744073709551615)
  (hk:∀s w',aK w'.heap w.heap.size s (numB n.toNat)->Ext No w w'->K s w'):py n w K:=by
 apply Jc;have xW:=aI (n:=n.toNat) (by omega)
 refine⟨fun m x s w'=>m=x.toNat/\0<=x/\x<=18446744073709551615/\∃pre,aK w'.heap w.heap.size s pre/\pre++numB x.toNat=numB n.toNat/\Ext No w w',
  ⟨_,rfl,h0,h1,[],bf.nil _ _ _ _,rfl,Ext.refl _ _⟩,?_⟩
 rintro _ m x s w1 ⟨rfl,Vp,Xz,pre,own,LH,ext⟩;have hs:=own.len;have hl:pre.length<=10:=by rw[<- LH,List.length_append]at xW;omega
 have fin:∀b w2 w3 (y:Int),Da w1 (.cells [.int .u8 y].toArray 5) b w2->Ext (fun i=>s.aj=some i) w2 w3->Ext No w w3:=fun b w2 w3 y new e=>
  (ext.no new.ext).trans e fun i hi hb=>by have:=(own.lt hb).1;omega
 refine If.dec (fun hgt=>?_) (fun hle=>?_)
 .refine Ar.Ly (Nm.as (Jh (by omega)) fun b w2 new=>?_);refine c_ (own.no new.ext) (by have:=new.ext.size;have:=ext.size;omega) ((bf.new (sz:=1) (n:=1) new rfl (by simp[aJ])).rd.src) (by simp at hs ⊢;omega) fun s' w3 rp _ ext' _=>?_
  refine⟨by decide,Nm.as (e':=x / 128) (by rw[fdiv_pow,ach]) ⟨_,?_,rfl,by omega,by omega,pre++[x % 256 % 128+128],by simpa[aK] using rp,?_,fin _ _ _ _ new ext'⟩⟩
  .omega
  .rw[<- LH,pL (n:=x.toNat) (by omega)];simp only[List.append_assoc,List.singleton_append];congr 2
   .omega
   .congr 1;omega
 .refine Ar.u8 (by omega) fun b w2 new=>?_
  refine c_ (own.no new.ext) (by have:=new.ext.size;have:=ext.size;omega) ((bf.new (sz:=1) (n:=1) new rfl (by simp[aJ])).rd.src) (by simp at hs ⊢;omega) fun s' w3 rp _ ext' _=>?_
  refine hk s' w3 ?_ (fin _ _ _ _ new ext');rw[<- LH,nu (by omega)];simpa[aK,Int.toNat_of_nonneg Vp] using rp
theorem rq:∀(m:Nat){n:Int}{w:Wd}{K:Sl->Pw}(_:n.toNat<=m)(_:0<=n)(_:n<=18446744073709551615)
  (_:∀s w',aK w'.heap w.heap.size s (numB n.toNat)->Ext No w w'->K s w'),cD n w K:=by
 intro m
 induction m using Nat.strongRecOn with
 | _ m ih=>
  intro n w K hm h0 h1 hk;apply G_;refine If.dec (fun cF=>?_) (fun uI=>?_)
  .refine Ar.u8 (by omega) fun b w1 new=>hk _ _ ?_ new.ext
   rw[nu (by omega)];have:=bf.new (sz:=1) (n:=1) new rfl (by simp[aJ]);simpa[aK,Int.toNat_of_nonneg h0] using this
  .refine⟨by decide,Nm.as (e':=n % 128) (Int.tmod_eq_emod_of_nonneg h0) (Ar.u8 (by omega) (Ar.u8 (by omega) fun b w2 new=>⟨by decide,?_⟩))⟩;rw[Int.tdiv_eq_ediv_of_nonneg h0];refine Ar.u64 (by omega) (ih (n.toNat / 128) (by omega) (n:=n / 128) (by omega) (by omega) (by omega) fun s w3 own ext=>?_);have Fj:=bf.new (sz:=1) (n:=1) new rfl (by simp[aJ]);have hs:=own.len;have xW:=aI (n:=(n / 128).toNat) (by omega);have:=new.ext.size;have:=ext.size;refine c_ (Fj.no ext) (by omega) own.rd.src (by simp at hs ⊢;omega) fun s' w4 rp _ ext' _=>hk _ _ ?_ ((new.ext.no ext).trans ext' fun i hi hb=>?_)
   .rw[pL (n:=n.toNat) (by omega)];have e1:((n.toNat % 128+128:Nat):Int)=n % 128+128:=by omega
    have e2:n.toNat / 128=(n / 128).toNat:=by omega
    rw[e1,e2];simpa[aK] using rp
   .have:=(Fj.lt hb).1;omega
theorem _root_.Go.V.Rd.LI{S:Nat->Prop}{w w':Wd}{s:Sl}{sz:Nat}{cs:List Value}(r:Rd w.heap s sz cs)(x:Ext S w w')(h:cs≠[]->∀b,s.aj=some b->¬ S b):Rd w'.heap s sz cs:=by
 by_cases hl:cs=[]
 .subst hl;exact⟨r.len,r.cap,fun h=>(h rfl).elim,by simp⟩
 .exact r.ext x fun a b ha hb=>h hl b (by simp[Sl.aj,ha,hb])
structure kP(h:Array Obj)(rb:Nat)(s:Sl)(l:List Int)(at_:Nat)(f:Int):Prop where
 aj:∃T,h[rb]? = some (.cells [s.v,.int .i64 at_,.int .i64 f].toArray T (0,0))
 rd:b_ h s l
 ne:l≠[]->s.aj≠some rb
 gC:B8 l
 le:at_<=l.length
 len:l.length<=4611686018427387904
theorem kP.ext{S:Nat->Prop}{w w':Wd}{rb:Nat}{s:Sl}{l:List Int}{at_:Nat}{f:Int}(r:kP w.heap rb s l at_ f)(e:Ext S w w')(h1:¬ S rb)(h2:∀b,s.aj=some b->¬ S b):kP w'.heap rb s l at_ f:=by
 obtain⟨T,hT⟩:=r.aj;obtain⟨cF,_⟩:=Array.getElem?_eq_some_iff.1 hT;exact⟨⟨T,by rw[e.aj rb cF h1];exact hT⟩,r.rd.ext e (fun a b ha hb=>h2 b (by simp[Sl.aj,ha,hb])),r.ne,r.gC,r.le,r.len⟩
theorem kP.LI{S:Nat->Prop}{w w':Wd}{rb:Nat}{s:Sl}{l:List Int}{at_:Nat}{f:Int}(r:kP w.heap rb s l at_ f)(e:Ext S w w')(h1:¬ S rb)(h2:l≠[]->∀b,s.aj=some b->¬ S b):kP w'.heap rb s l at_ f:=by
 obtain⟨T,hT⟩:=r.aj;obtain⟨cF,_⟩:=Array.getElem?_eq_some_iff.1 hT;exact⟨⟨T,by rw[e.aj rb cF h1];exact hT⟩,r.rd.LI e (fun bA b hb=>h2 (fun h=>bA (by rw[h];rfl)) b hb),r.ne,r.gC,r.le,r.len⟩
theorem kP.no{w w':Wd}{rb:Nat}{s:Sl}{l:List Int}{at_:Nat}{f:Int}(r:kP w.heap rb s l at_ f)(e:Ext No w w'):kP w'.heap rb s l at_ f:=r.ext e id fun _ _=>id
theorem kP.set{w w':Wd}{rb:Nat}{s:Sl}{l:List Int}{at_ at':Nat}{f f':Int}{T:TypeId}(r:kP w.heap rb s l at_ f)(hw:gB w rb (.cells [s.v,.int .i64 at',.int .i64 f'].toArray T (0,0)) w')(hle:at'<=l.length) :
  kP w'.heap rb s l at' f':=by
 obtain⟨T',hT⟩:=r.aj;refine⟨⟨T,hw.get hT⟩,r.rd.LI hw.ext (fun bA b hb e=>r.ne (fun h=>bA (by rw[h];rfl)) (by rw[hb,e])),r.ne,r.gC,hle,r.len⟩
theorem Kq{w:Wd}{rb:Nat}{s:Sl}{l:List Int}{at_:Nat}{f:Int}{K:Bool->Pw}(r:kP w.heap rb s l at_ f)(k:K (f == 0) w):gr (some ⟨rb,0,none⟩) w K:=by
 apply wN;obtain⟨T,hT⟩:=r.aj;exact If.yes (Nn.mk ⟨_,Cell.ah hT rfl,k⟩)
theorem Ks(i:Nat)(n x:Int)(l:List Int):tk i n (x::l) =
  if i=9/\x > 1 then(0,0,6) else if x≥128 then tk (i+1) (n+(x % 128) * 128 ^ i) l else if x=0/\0 < i then(0,0,5) else(n+(x % 128) * 128 ^ i,i+1,0):=rfl
theorem AL(i:Nat):(128:Int) ^ i=2 ^ (7 * i):=by
 rw[Int.pow_mul];rfl
theorem Fk{a b:Nat}(h:a<=b):(2:Int) ^ a<=2 ^ b:=by exact_mod_cast Nat.pow_le_pow_right (by decide) h
theorem xX{w:Wd}{rb:Nat}{s:Sl}{l:List Int}{at0:Nat}{f:Int}{at_:Nat}{K:Int->Int->Int->Pw}(r:kP w.heap rb s l at0 f)(Dl:at_<=l.length)
  (k:K (tk 0 0 (l.drop at_)).1 (if (tk 0 0 (l.drop at_)).2.2=0 then((at_+(tk 0 0 (l.drop at_)).2.1:Nat):Int) else 0) (tk 0 0 (l.drop at_)).2.2 w):ed (some ⟨rb,0,none⟩) at_ w K:=by
 apply qR;obtain⟨T,hT⟩:=r.aj;have hs:=r.rd.len;have hlen:=r.len
 refine⟨fun m n i w'=>w'=w/\∃j:Nat,i=j/\m=10 - j/\j<=9/\at_+j<=l.length/\0<=n/\n < 2 ^ (7 * j)/\tk 0 0 (l.drop at_)=tk j n (l.drop (at_+j)),
  ⟨_,rfl,0,rfl,rfl,by omega,by omega,by omega,by decide,rfl⟩,?_⟩
 rintro _ m n i w1 ⟨rfl,j,rfl,rfl,hj,hle,wm,Rp,ht⟩;refine Ar.i64 (by omega) (Nn.mk ⟨_,Cell.ah hT rfl,If.dec (fun uI=>?_) (fun cF=>?_)⟩)
 .have:l.drop (at_+j)=[]:=List.drop_of_length_le (by omega);rw[this]at ht;simp only[ht,tk]at k;exact k
 .refine Nn.mk ⟨_,Cell.ah hT rfl,Ar.i64 (by omega) (Ix.int r.rd (by omega) (by omega) fun _ _ _ ha=>⟨_,ha,?_⟩)⟩;have hx:=r.gC.get (((at_:Int)+j).toNat)
  have Ot:l.drop (at_+j)=l.getD ((at_:Int)+j).toNat 0::l.drop (at_+(j+1)):=by
   have e:((at_:Int)+j).toNat=at_+j:=by omega
   rw[e,List.drop_eq_getElem_cons (by omega)];simp[List.getD,List.getElem?_eq_getElem (show at_+j < l.length by omega),Nat.add_assoc]
  generalize l.getD ((at_:Int)+j).toNat 0=x at *;rw[Ot,Ks]at ht;have h9:j=9->¬ x > 1->x=0∨x=1:=by omega
  refine⟨fun w2=>w2=w1/\¬ (j=9/\x > 1),?_,?_⟩
  .refine If.beq (fun h=>If.dec (fun h1=>?_) (fun h1=>⟨rfl,fun h2=>h1 h2.2⟩)) (fun h=>⟨rfl,fun h2=>h (by omega)⟩);rw[if_pos ⟨by omega,h1⟩]at ht;simp only[ht]at k;exact k
  .rintro _ w2 ⟨rfl,wv⟩;rw[if_neg wv]at ht
   have hp:(2:Int) ^ (7 * j)<=9223372036854775808:=by
    have:7 * j<=63:=by omega
    have h1:=Fk this;have e:(2:Int) ^ 63=9223372036854775808:=by decide
    omega
   have YW:(0:Int) < 2 ^ (7 * j):=Int.pow_pos (by omega);refine Nm.as (Hb hx) (Ar.u64 (by omega) (Ar.i64 (by omega) ⟨by omega,?_⟩))
   have aci:min (Int.toNat (7 * (j:Int))) (IntKind.bits .u64)=7 * j:=by
    simp only[IntKind.bits];omega
   rw[aci]
   have wZ:x % 128 * 2 ^ (7 * j)+n<=18446744073709551615:=by
    by_cases h:j=9
    .subst h;have:x % 128<=1:=by omega
     have:x % 128 * 2 ^ (7 * 9)<=1 * 2 ^ (7 * 9):=Int.mul_le_mul_of_nonneg_right this (by decide);have e:(2:Int) ^ (7 * 9)=9223372036854775808:=by decide
     omega
    .have:7 * j<=56:=by omega
     have h1:(2:Int) ^ (7 * j)<=2 ^ 56:=Fk this;have e:(2:Int) ^ 56=72057594037927936:=by decide
     have:x % 128 * 2 ^ (7 * j)<=127 * 2 ^ (7 * j):=Int.mul_le_mul_of_nonneg_right (by omega) (by omega);omega
   have YX:0<=x % 128 * 2 ^ (7 * j):=Int.mul_nonneg (by omega) (by omega);refine Ar.u64 (by omega) (Nm.as (xS ⟨wm,Rp⟩ (by omega) (by omega)) (If.dec (fun h1=>?_) (fun h1=>?_)))
   .rw[if_pos (by omega),AL]at ht;have hj9:j≠9:=by omega
    refine Ar.i64 (by omega) ⟨_,?_,rfl,j+1,by omega,rfl,by omega,?_,by omega,?_,ht⟩
    .omega
    .have:l.length<=at_+j∨at_+j < l.length:=by omega
     omega
    .have:x % 128 * 2 ^ (7 * j)<=127 * 2 ^ (7 * j):=Int.mul_le_mul_of_nonneg_right (by omega) (by omega)
     have e:(2:Int) ^ (7 * (j+1))=128 * 2 ^ (7 * j):=by
      rw[Nat.mul_add,Int.pow_add,Int.mul_comm];rfl
     omega
   .rw[if_neg (by omega),AL]at ht;refine⟨fun w3=>w3=w2/\¬ (x=0/\0 < j),?_,?_⟩
    .refine If.beq (fun h=>If.dec (fun h2=>?_) (fun h2=>⟨rfl,fun h3=>h2 (by omega)⟩)) (fun h=>⟨rfl,fun h2=>h h2.1⟩);rw[if_pos ⟨h,by omega⟩]at ht;simp only[ht]at k;exact k
    .rintro _ w3 ⟨rfl,acj⟩;rw[if_neg acj]at ht;refine Ar.i64 (by omega) (Ar.i64 (by omega) ?_);simp only[ht,if_true]at k;have e:((at_+(j+1):Nat):Int)=(at_:Int)+j+1:=by omega
     rw[e]at k;exact k
end Go.Proofs.YtpjbalhhlaofmaaGreat
namespace Go.Proofs.YtpjbalhhlaofmaaGreat
open Go.V Go.V.Pk
section
variable {w:Wd} {rb:Nat} {s:Sl} {l:List Int} {at_:Nat} {f:Int}
theorem mI{K:Int->Pw}(r:kP w.heap rb s l at_ f)
  (k:∀w',kP w'.heap rb s l (bH l at_ f).2.1 (bH l at_ f).2.2->Ext (·=rb) w w'->w'.heap.size=w.heap.size->K (bH l at_ f).1 w'):aX (some ⟨rb,0,none⟩) w K:=by
 apply vi;obtain⟨T,hT⟩:=r.aj;refine Kq r (If.not (If.beq (fun hf=>?_) (fun hf=>?_)))
 .refine Nn.mk ⟨_,Cell.ah hT rfl,xX r r.le (If.bne (fun he=>?_) (fun he=>?_))⟩
  .have e:bH l at_ f=(0,at_,(tk 0 0 (l.drop at_)).2.2):=by simp[bH,hf,he]
   rw[e]at k;exact Nn.mk (aQ.mk hT (by simp) rfl fun w' hw=>k w' (r.set hw r.le) hw.ext hw.size)
  .have e:bH l at_ f=((tk 0 0 (l.drop at_)).1,at_+(tk 0 0 (l.drop at_)).2.1,0):=by simp[bH,hf,he]
   have hle:=Sd l at_ f r.le;rw[e]at k hle;rw[if_pos he];refine Nn.mk (aQ.mk hT (by simp) rfl fun w' hw=>k w' ?_ hw.ext hw.size);subst hf;exact r.set hw hle
 .have e:bH l at_ f=(0,at_,f):=by simp[bH,hf]
  rw[e]at k;exact k w r (Ext.refl _ _) rfl
theorem zw{K:Int->Int->Pw}(r:kP w.heap rb s l at_ f)(k:∀w',w'.heap=w.heap->Ext No w w'->K (nx l at_ f).1 (nx l at_ f).2 w'):cK (some ⟨rb,0,none⟩) w K:=by
 apply tK;obtain⟨T,hT⟩:=r.aj;have hs:=r.rd.len;refine⟨fun w2=>w2.heap=w.heap/\Ext No w w2/\¬ (f=0/\at_ < l.length),⟨fun t w1=>w1.heap=w.heap/\Ext No w w1/\t=decide (f=0/\at_ < l.length),?_,?_⟩,?_⟩
 .refine⟨Ext No w,(Ext.refl _ _).drew,Nn.mk ⟨_,ae.cell (Cell.ah hT rfl),If.beq (fun h=>Nn.mk ⟨_,ae.cell (Cell.ah hT rfl),Nn.mk ⟨_,ae.cell (Cell.ah hT rfl),rfl,(Ext.refl _ _).drew,?_⟩⟩) (fun h=>⟨rfl,(Ext.refl _ _).drew,by simp[h]⟩)⟩⟩;simp[h];omega
 .rintro _ t w1 ⟨hh,hx,rfl⟩;refine If.dec (fun h=>⟨Ext No w1,(Ext.refl _ _).drew,Nn.mk ⟨_,ae.cell (Cell.ah (by rw[hh];exact hT) rfl),?_⟩⟩) (fun h=>⟨hh,hx,h⟩);have e:nx l at_ f=(5,(at_:Int)):=by simp only[nx,if_pos h]
  rw[e]at k;exact k (aa w1) hh hx.drew
 .rintro _ w2 ⟨hh,hx,h⟩;have e:nx l at_ f=(f,(at_:Int)):=by simp only[nx,if_neg h]
  rw[e]at k;exact⟨Ext No w2,(Ext.refl _ _).drew,Nn.mk ⟨_,ae.cell (Cell.ah (by rw[hh];exact hT) rfl),Nn.mk ⟨_,ae.cell (Cell.ah (by rw[hh];exact hT) rfl),k (aa w2) hh hx.drew⟩⟩⟩
theorem Si(x y:Int):gV x y=max x y:=by unfold gV;omega
theorem qi{most:Int}{K:Sl->Pw}(hm:most<=9223372036854775807)(r:kP w.heap rb s l at_ f)(ack:l.length<=140737488355328)
    (k:∀t w',kP w'.heap rb s l (cB most l at_ f).2.1 (cB most l at_ f).2.2->Ext (·=rb) w w'->aK w'.heap w.heap.size t (cB most l at_ f).1->K t w'):aY (some ⟨rb,0,none⟩) most w K:=by
  apply tJ;obtain⟨T,hT⟩:=r.aj;obtain⟨Jl,_⟩:=Array.getElem?_eq_some_iff.1 hT;have hs:=r.rd.len;have hlen:=r.len;have hle:=r.le;refine Kq r (If.not (If.beq (fun hf=>?_) (fun hf=>?_)))
  · subst hf;refine Nn.mk ⟨_,Cell.ah hT rfl,xX r r.le ?_⟩;have Ou:=qZ (l.drop at_) 0 0;have YX:=wX (l.drop at_) 0 0 (r.gC.drop _) (by omega)
    have hr:cB most l at_ 0=if (tk 0 0 (l.drop at_)).2.2≠0 then ([],at_,(tk 0 0 (l.drop at_)).2.2) else if (tk 0 0 (l.drop at_)).1 > max most 0 then ([],at_,3)
        else if (tk 0 0 (l.drop at_)).1 > (l.length:Int) - (at_+(tk 0 0 (l.drop at_)).2.1:Nat) then([],at_,4)
        else((l.drop (at_+(tk 0 0 (l.drop at_)).2.1)).take (tk 0 0 (l.drop at_)).1.toNat,at_+(tk 0 0 (l.drop at_)).2.1+(tk 0 0 (l.drop at_)).1.toNat,0):=rfl
    generalize tk 0 0 (l.drop at_)=t at *;obtain⟨n,j,e⟩:=t;simp only[List.length_drop]at Ou hr YX ⊢;refine⟨fun e' w'=>w'=w/\((e'≠0/\cB most l at_ 0=([],at_,e'))∨(e'=0/\e=0/\n<=(l.length:Int) - (at_+j:Nat)/\cB most l at_ 0=((l.drop (at_+j)).take n.toNat,at_+j+n.toNat,0))),?_,?_⟩
    · refine If.bne (fun he=>⟨rfl,.inl ⟨he,by rw[hr,if_pos he]⟩⟩) (fun he=>?_);rw[if_neg (by simp[he])]at hr;rw[if_pos he];refine Nm.as (Si _ _) (Ar.u64 (by omega) (If.dec (fun h=>⟨rfl,.inl ⟨by decide,by rw[hr,if_pos h]⟩⟩) (fun h=>?_)));rw[if_neg h]at hr;refine Nn.mk ⟨_,Cell.ah hT rfl,Ar.i64 (by omega) (Ar.u64 (by omega) (If.dec (fun h2=>⟨rfl,.inl ⟨by decide,by rw[hr,if_pos (by omega)]⟩⟩) (fun h2=>⟨rfl,.inr ⟨he,he,by omega,by rw[hr,if_neg (by omega)]⟩⟩)))⟩
    · rintro _ e' w' ⟨rfl,h⟩;refine If.bne (fun he=>?_) (fun he=>?_)
      · rcases h with⟨_,h⟩ | ⟨h,_⟩
        · rw[h]at k;refine Nn.mk (aQ.mk hT (by simp) rfl fun w1 hw=>k _ w1 (r.set hw r.le) hw.ext (bf.nil _ _ _ _))
        · exact absurd h he
      · rcases h with⟨h,_⟩ | ⟨_,h0,h1,h⟩
        · exact absurd he h
        · subst h0;rw[h]at k;rw[if_pos rfl];have hj:j<=l.length - at_:=by rcases Ou with⟨_,_,h⟩ | ⟨h,_⟩;omega;exact absurd rfl h
          refine Ar.i64 (by omega) (Ar.i64 (by omega) (Nn.mk (aQ.mk hT (by simp) rfl fun w1 hw=>?_)))
          have r':kP w1.heap rb s l (at_+j+n.toNat) 0:=by
            refine r.set (T:=T) ?_ (by omega);have e1:((at_+j:Nat):Int)+n=((at_+j+n.toNat:Nat):Int):=by omega
            rw[e1]at hw;exact hw
          obtain⟨T',LJ⟩:=r'.aj;refine⟨Ext No w1,(Ext.refl _ _).drew,Nn.mk ⟨_,ae.cell (Cell.ah LJ rfl),Nn.mk ⟨_,ae.cell (Cell.ah LJ rfl),?_⟩⟩⟩;have iz:=r'.rd.cap
          refine Cut.mk (by omega) (by omega) (by omega) (by omega) fun b w2 new=>⟨(Ext.refl _ _).drew.no new.ext,?_⟩
          have Fj:=bf.new (sz:=1) (n:=0) new rfl (by simp);have wW:=r'.rd.cut (lo:=at_+j) (hi:=at_+j+n.toNat) (mx:=s.cap) (by omega) (by omega) (by omega);have YY:Rd w2.heap _ 1 _:=Rd.no (w:=aa w1) wW new.ext;have e3:(((at_+j+n.toNat:Nat):Int) - ((at_+j:Nat):Int)).toNat=at_+j+n.toNat - (at_+j):=by omega
          have e4:(((s.cap:Nat):Int) - ((at_+j:Nat):Int)).toNat=s.cap - (at_+j):=by omega
          simp only[Int.toNat_natCast] at *;rw[e3,e4];refine c_ Fj (by have:=new.ext.size;exact this) YY.src (by simp;omega) fun s' w3 rp _ ext' hb=>?_
          have wv:Ext No (aa w1) w3:=new.ext.trans ext' fun i hi TV=>by have:=(Fj.lt TV).1;omega
          refine⟨(Ext.refl No w1).drew.no wv,k s' w3 (kP.no (w:=aa w1) (r'.no (Ext.refl _ _).drew) wv) ((hw.ext.drew).no wv) ?_⟩;have:w1.heap.size=w'.heap.size:=hw.size;have e5:(aa w1).heap.size=w'.heap.size:=this;rw[e5]at rp;have e6:List.take (at_+j+n.toNat - (at_+j)) (List.drop (at_+j) l)=List.take n.toNat (List.drop (at_+j) l):=by congr 1;omega
          simpa[aK,<- List.map_drop,<- List.map_take,e6] using rp
  · have e:cB most l at_ f=([],at_,f):=by simp[cB,hf]
    rw[e]at k;exact k _ w r (Ext.refl _ _) (bf.nil _ _ _ _)
end
theorem AM{b:Sl}{w:Wd}{K:Option Addr->Pw}{l:List Int}(hb:b_ w.heap b l)(h8:B8 l)(hl:l.length<=140737488355328)
  (k:∀rb s w',kP w'.heap rb s l 0 0->w.heap.size<=rb->(∀i,s.aj=some i->w.heap.size<=i/\i < w'.heap.size)->Ext No w w'->K (some ⟨rb,0,none⟩) w'):jU b w K:=by
 apply wO;refine fun b1 w1 new=>?_
 have Fj:=bf.new (sz:=1) (n:=0) new rfl (by simp);have Ov:=hb.len;refine c_ Fj (by have:=new.ext.size;exact this) (hb.no new.ext).src (by simp;omega) fun s w2 own _ ext _=>?_
 refine fun rb w3 Ow=>?_
 have wv:Ext No w w2:=new.ext.trans ext fun i hi TV=>by have:=(Fj.lt TV).1;omega
 have rp:=own.no Ow.ext;refine k rb s w3 ⟨⟨_,Ow.get⟩,by simpa[b_] using rp.rd,fun _ h=>?_,h8,by omega,by omega⟩ (by rw[Ow.at_];exact wv.size) (fun i hi=>⟨(rp.lt hi).1,(rp.lt hi).2⟩) (wv.no Ow.ext);have:=(own.lt h).2;rw[Ow.at_]at this;omega
end Go.Proofs.YtpjbalhhlaofmaaGreat
namespace Go.Proofs.YtpjbalhhlaofmaaGreat
open Go.V Go.V.Pk
theorem Dm{b:Sl}{w:Wd}{K:Sl->Pw}{l:List Int}(hb:b_ w.heap b l)(hl:l.length<=70368744177664)
  (k:∀s w',aK w'.heap w.heap.size s (numB l.length++l)->Ext No w w'->K s w'):fo b w K:=by
 apply GV;have Ov:=hb.len;refine Ar.u64 (by omega) (Hj (by omega) (by omega) fun s w1 own ext=>?_);have hs:=own.len;have xW:=aI (n:=((b.len:Int)).toNat) (by omega);refine c_ own ext.size (hb.no ext).src (by omega) fun s' w2 rp _ ext' _=>?_
 refine k s' w2 ?_ (ext.trans ext' fun i hi TV=>by have:=(own.lt TV).1;omega);have e:((b.len:Int)).toNat=l.length:=by omega
 rw[e]at rp;simpa[aK] using rp
theorem Fl{b:Sl}{w:Wd}{K:Sl->Pw}{l:List Int}(hb:b_ w.heap b l)(hl:l.length<=70368744177664)
  (k:∀s w',aK w'.heap w.heap.size s (numB l.length++l)->Ext No w w'->K s w'):iZ b w K:=by
 apply EY;have Ov:=hb.len;refine Ar.u64 (by omega) (rq _ (Nat.le_refl _) (by omega) (by omega) fun s w1 own ext=>?_);have xW:=aI (n:=((b.len:Int)).toNat) (by omega);have e:((b.len:Int)).toNat=l.length:=by omega
 rw[e]at own xW;refine⟨fun m t i w'=>∃j:Nat,i=j/\m=l.length - j/\j<=l.length/\aK w'.heap w.heap.size t (numB l.length++l.take j)/\Ext No w w',⟨_,0,rfl,rfl,Nat.zero_le _,by simpa using own,ext⟩,?_⟩;rintro _ m t i w2 ⟨j,rfl,rfl,hj,own,ext⟩;refine If.dec (fun cF=>?_) (fun uI=>?_)
 .refine Ix.int (hb.no ext) (by omega) (by omega) fun _ _ _ ha=>⟨_,ha,fun b1 w3 new=>?_⟩
  have hs:=own.len;refine c_ (own.no new.ext) (by have:=new.ext.size;have:=ext.size;omega) ((bf.new (sz:=1) (n:=1) new rfl (by simp[aJ])).rd.src) (by simp at hs ⊢;omega) fun s' w4 rp _ ext' _=>?_
  refine Ar.i64 (by omega) ⟨_,?_,j+1,by omega,rfl,by omega,?_,(ext.no new.ext).trans ext' fun i hi TV=>by have:=(own.lt TV).1;omega⟩
  .omega
  .have:l.take (j+1)=l.take j++[l.getD j 0]:=by
    rw[List.take_succ_eq_append_getElem (by omega)];simp[List.getD,List.getElem?_eq_getElem (show j < l.length by omega)]
   rw[this];simpa[aK] using rp
 .have:l.take j=l:=List.take_of_length_le (by omega);rw[this]at own;exact k t w2 own ext
theorem AN{b:Sl}{w:Wd}{K:Int->Int->Int->Pw}{l:List Int}(hb:b_ w.heap b l)(h8:B8 l)(hlen:l.length<=4611686018427387904)
  (k:K (tk 0 0 l).1 (tk 0 0 l).2.1 (tk 0 0 l).2.2 w):kB b w K:=by
 apply Cw;have Ov:=hb.len
 refine⟨fun m n Vq i w'=>w'=w/\∃j:Nat,i=j/\m=10 - j/\j<=9/\j<=l.length/\0<=n/\n < 128 ^ j/\Vq=128 ^ j/\tk 0 0 l=tk j n (l.drop j),
  ⟨_,rfl,0,rfl,rfl,by omega,by omega,by omega,by decide,by decide,rfl⟩,?_⟩
 rintro _ m n Vq i w1 ⟨rfl,j,rfl,rfl,hj,hle,wm,Rp,rfl,ht⟩;refine If.dec (fun cF=>?_) (fun uI=>?_)
 .have Ot:l.drop j=l.getD (j:Int).toNat 0::l.drop (j+1):=by
   have e:(j:Int).toNat=j:=by omega
   rw[e,List.drop_eq_getElem_cons (by omega)];simp[List.getD,List.getElem?_eq_getElem (show j < l.length by omega)]
  have hx:=h8.get (j:Int).toNat;have Vr:∀{C:Addr->Prop},(∀i o,b.aj=some i->Cell w1 ⟨i,o,none⟩ (.int .u8 (l.getD (j:Int).toNat 0))->C ⟨i,o,none⟩)->Ix b.a b.len j 1 C:=fun hC=>Ix.int hb (by omega) (by omega) hC
  generalize l.getD (j:Int).toNat 0=x at *;rw[Ot,Ks]at ht;refine⟨fun w2=>w2=w1/\¬ (j=9/\x > 1),?_,?_⟩
  .refine If.beq (fun h=>Vr fun _ _ _ ha=>⟨_,ha,If.dec (fun h1=>?_) (fun h1=>⟨rfl,fun h2=>h1 h2.2⟩)⟩) (fun h=>⟨rfl,fun h2=>h (by omega)⟩);rw[if_pos ⟨by omega,h1⟩]at ht;simp only[ht]at k;exact k
  .rintro _ w2 ⟨rfl,wv⟩;rw[if_neg wv]at ht;have YW:(0:Int) < 128 ^ j:=Int.pow_pos (by omega)
   have wZ:x % 128 * 128 ^ j+n<=18446744073709551615/\(j≠9->(128:Int) ^ j * 128<=9223372036854775808):=by
    rw[AL];rw[AL]at Rp;by_cases h:j=9
    .subst h;have:x % 128<=1:=by omega
     have:x % 128 * 2 ^ (7 * 9)<=1 * 2 ^ (7 * 9):=Int.mul_le_mul_of_nonneg_right this (by decide);have e:(2:Int) ^ (7 * 9)=9223372036854775808:=by decide
     exact⟨by omega,fun h=>absurd rfl h⟩
    .have:7 * j<=56:=by omega
     have h1:(2:Int) ^ (7 * j)<=2 ^ 56:=Fk this;have e:(2:Int) ^ 56=72057594037927936:=by decide
     rw[AL]at YW;have:x % 128 * 2 ^ (7 * j)<=127 * 2 ^ (7 * j):=Int.mul_le_mul_of_nonneg_right (by omega) (by omega);exact⟨by omega,fun _=>by omega⟩
   have YX:0<=x % 128 * 128 ^ j:=Int.mul_nonneg (by omega) (by omega)
   refine Vr fun _ _ _ ha=>⟨_,ha,by decide,Nm.as (Int.tmod_eq_emod_of_nonneg hx.1) (Ar.u64 (by omega) (Ar.u64 (by omega) (Ar.u64 (by omega) fun z4 hz4=>?_)))⟩
   refine Vr fun _ _ _ ha=>⟨_,ha,If.dec (fun h1=>?_) (fun h1=>?_)⟩
   .rw[if_pos h1]at ht;have hj9:j≠9:=by omega
    refine Ar.i64 (by omega) ⟨_,?_,rfl,j+1,by omega,rfl,by omega,by omega,by omega,?_,?_,ht⟩
    .omega
    .have:x % 128 * 128 ^ j<=127 * 128 ^ j:=Int.mul_le_mul_of_nonneg_right (by omega) (by omega);rw[Int.pow_succ];omega
    .rw[hz4,wrap_u64,Int.pow_succ];have:=wZ.2 hj9;exact Int.emod_eq_of_lt (by omega) (by omega)
   .rw[if_neg h1]at ht
    refine Vr fun _ _ _ ha=>⟨_,ha,If.beq (fun h=>If.dec (fun h2=>?_) (fun h2=>?_)) (fun h=>?_)⟩
    .rw[if_pos ⟨h,by omega⟩]at ht;simp only[ht]at k;exact k
    .rw[if_neg (fun h3=>h2 (by omega))]at ht;simp only[ht]at k;exact Ar.i64 (by omega) k
    .rw[if_neg (fun h3=>h h3.1)]at ht;simp only[ht]at k;exact Ar.i64 (by omega) k
 .have:l.drop j=[]:=List.drop_of_length_le (by omega);rw[this]at ht;simp only[ht,tk]at k;exact k
section
variable {w:Wd} {rb:Nat} {s:Sl} {l:List Int} {at_:Nat} {f:Int}
theorem bV{K:Int->Pw}(r:kP w.heap rb s l at_ f)
  (k:∀w',kP w'.heap rb s l (bH l at_ f).2.1 (bH l at_ f).2.2->Ext (·=rb) w w'->w'.heap.size=w.heap.size->K (bH l at_ f).1 w'):bt (some ⟨rb,0,none⟩) w K:=by
 apply tV;obtain⟨T,hT⟩:=r.aj;have hs:=r.rd.len;have hlen:=r.len;have hle:=r.le;have iz:=r.rd.cap;refine Nn.mk ⟨_,Cell.ah hT rfl,If.bne (fun hf=>?_) (fun hf=>?_)⟩
 .have e:bH l at_ f=(0,at_,f):=by simp[bH,hf]
  rw[e]at k;exact k w r (Ext.refl _ _) rfl
 .subst hf;refine⟨Ext No w,(Ext.refl _ _).drew,Nn.mk ⟨_,ae.cell (Cell.ah hT rfl),Nn.mk ⟨_,ae.cell (Cell.ah hT rfl),Cut.mk (by omega) (by omega) (by omega) (by omega) ?_⟩⟩⟩;have wW:=r.rd.cut (lo:=at_) (hi:=s.len) (mx:=s.cap) (by omega) (by omega) (by omega);have e3:(((s.len:Nat):Int) - (at_:Int)).toNat=s.len - at_:=by omega
  have e4:(((s.cap:Nat):Int) - (at_:Int)).toNat=s.cap - at_:=by omega
  simp only[Int.toNat_natCast,e3,e4]
  have hd:b_ (aa w).heap ⟨iQ s.a s.cap at_ 1,s.len - at_,s.cap - at_⟩ (l.drop at_):=by
   have e5:List.take (s.len - at_) (List.drop at_ l)=List.drop at_ l:=List.take_of_length_le (by simp;omega);have:=wW;simp only[Nat.mul_one,<- List.map_drop,<- List.map_take,e5]at this;exact this
  have Ou:=qZ (l.drop at_) 0 0;refine AN hd (r.gC.drop _) (by simp;omega) ⟨(Ext.refl _ _).drew,Nn.mk (aQ.mk (w:=aa w) hT (by simp) rfl fun w1 hw=>?_)⟩;have r1:kP w1.heap rb s l at_ (tk 0 0 (l.drop at_)).2.2:=kP.set (w:=aa w) (r.no (Ext.refl _ _).drew) hw hle;obtain⟨T1,hT1⟩:=r1.aj;have hr:bH l at_ 0=if (tk 0 0 (l.drop at_)).2.2≠0 then(0,at_,(tk 0 0 (l.drop at_)).2.2) else((tk 0 0 (l.drop at_)).1,at_+(tk 0 0 (l.drop at_)).2.1,0):=rfl
  simp only[List.length_drop]at Ou
  have key:at_+(tk 0 0 (l.drop at_)).2.1<=l.length/\bH l at_ 0=((tk 0 0 (l.drop at_)).1,at_+(tk 0 0 (l.drop at_)).2.1,(tk 0 0 (l.drop at_)).2.2):=by
   rcases Ou with⟨h1,h2,h3⟩ | ⟨h1,h2,h3⟩
   .rw[hr,if_neg (by simp[h1]),h1];exact⟨by omega,rfl⟩
   .rw[hr,if_pos h1,h2,h3];exact⟨by omega,rfl⟩
  rw[key.2]at k;refine Nn.mk ⟨_,Cell.ah hT1 rfl,Ar.i64 (by omega) (Nn.mk (aQ.mk hT1 (by simp) rfl fun w2 Hk=>?_))⟩;refine k w2 (r1.set (T:=T1) ?_ key.1) ((hw.ext.ar).trans Hk.ext fun _ _ h=>h) (by rw[Hk.size,hw.size];rfl);have e6:(at_:Int)+((tk 0 0 (l.drop at_)).2.1:Int)=((at_+(tk 0 0 (l.drop at_)).2.1:Nat):Int):=by omega
  rw[e6]at Hk;exact Hk
theorem ua{K:Int->Int->Pw}(r:kP w.heap rb s l at_ f)(k:∀w',w'.heap=w.heap->Ext No w w'->K (nx l at_ f).1 (nx l at_ f).2 w'):gF (some ⟨rb,0,none⟩) w K:=by
 apply sK;obtain⟨T,hT⟩:=r.aj;have hs:=r.rd.len;refine⟨fun w2=>w2.heap=w.heap/\Ext No w w2/\¬ (f=0/\at_ < l.length),⟨fun t w1=>w1.heap=w.heap/\Ext No w w1/\t=decide (f=0/\at_ < l.length),?_,?_⟩,?_⟩
 .refine⟨Ext No w,(Ext.refl _ _).drew,Nn.mk ⟨_,ae.cell (Cell.ah hT rfl),If.beq (fun h=>Nn.mk ⟨_,ae.cell (Cell.ah hT rfl),Nn.mk ⟨_,ae.cell (Cell.ah hT rfl),rfl,(Ext.refl _ _).drew,?_⟩⟩) (fun h=>⟨rfl,(Ext.refl _ _).drew,by simp[h]⟩)⟩⟩;simp[h];omega
 .rintro _ t w1 ⟨hh,hx,rfl⟩;refine If.dec (fun h=>⟨Ext No w1,(Ext.refl _ _).drew,Nn.mk ⟨_,ae.cell (Cell.ah (by rw[hh];exact hT) rfl),?_⟩⟩) (fun h=>⟨hh,hx,h⟩);have e:nx l at_ f=(5,(at_:Int)):=by simp only[nx,if_pos h]
  rw[e]at k;exact k (aa w1) hh hx.drew
 .rintro _ w2 ⟨hh,hx,h⟩;have e:nx l at_ f=(f,(at_:Int)):=by simp only[nx,if_neg h]
  rw[e]at k;exact⟨Ext No w2,(Ext.refl _ _).drew,Nn.mk ⟨_,ae.cell (Cell.ah (by rw[hh];exact hT) rfl),Nn.mk ⟨_,ae.cell (Cell.ah (by rw[hh];exact hT) rfl),k (aa w2) hh hx.drew⟩⟩⟩
end
theorem mJ{w:Wd}{rb:Nat}{s:Sl}{l:List Int}{at_:Nat}{f:Int}{most:Int}{K:Sl->Pw}(hm:most<=9223372036854775807)(r:kP w.heap rb s l at_ f)(ack:l.length<=70368744177664)
    (k:∀t w',kP w'.heap rb s l (cB most l at_ f).2.1 (cB most l at_ f).2.2->Ext (·=rb) w w'->aK w'.heap w.heap.size t (cB most l at_ f).1->K t w'):eR (some ⟨rb,0,none⟩) most w K:=by
  apply sI;obtain⟨T,hT⟩:=r.aj;obtain⟨Jl,_⟩:=Array.getElem?_eq_some_iff.1 hT;have hs:=r.rd.len;have hlen:=r.len;have hle:=r.le;have iz:=r.rd.cap;refine Nn.mk ⟨_,Cell.ah hT rfl,If.bne (fun hf=>?_) (fun hf=>?_)⟩
  · have e:cB most l at_ f=([],at_,f):=by simp[cB,hf]
    rw[e]at k;exact k _ w r (Ext.refl _ _) (bf.nil _ _ _ _)
  · subst hf;refine⟨Ext No w,(Ext.refl _ _).drew,Nn.mk ⟨_,ae.cell (Cell.ah hT rfl),Nn.mk ⟨_,ae.cell (Cell.ah hT rfl),Cut.mk (by omega) (by omega) (by omega) (by omega) ?_⟩⟩⟩;have wW:=r.rd.cut (lo:=at_) (hi:=s.len) (mx:=s.cap) (by omega) (by omega) (by omega);have e3:(((s.len:Nat):Int) - (at_:Int)).toNat=s.len - at_:=by omega
    have e4:(((s.cap:Nat):Int) - (at_:Int)).toNat=s.cap - at_:=by omega
    simp only[Int.toNat_natCast,e3,e4]
    have hd:b_ (aa w).heap ⟨iQ s.a s.cap at_ 1,s.len - at_,s.cap - at_⟩ (l.drop at_):=by
      have e5:List.take (s.len - at_) (List.drop at_ l)=List.drop at_ l:=List.take_of_length_le (by simp;omega);have:=wW;simp only[Nat.mul_one,<- List.map_drop,<- List.map_take,e5]at this;exact this
    refine AN hd (r.gC.drop _) (by simp;omega) ⟨(Ext.refl _ _).drew,?_⟩;have Ou:=qZ (l.drop at_) 0 0;have YX:=wX (l.drop at_) 0 0 (r.gC.drop _) (by omega)
    have hr:cB most l at_ 0=if (tk 0 0 (l.drop at_)).2.2≠0 then ([],at_,(tk 0 0 (l.drop at_)).2.2) else if (tk 0 0 (l.drop at_)).1 > max most 0 then ([],at_,3)
        else if (tk 0 0 (l.drop at_)).1 > (l.length:Int) - (at_+(tk 0 0 (l.drop at_)).2.1:Nat) then([],at_,4)
        else((l.drop (at_+(tk 0 0 (l.drop at_)).2.1)).take (tk 0 0 (l.drop at_)).1.toNat,at_+(tk 0 0 (l.drop at_)).2.1+(tk 0 0 (l.drop at_)).1.toNat,0):=rfl
    generalize tk 0 0 (l.drop at_)=t at *;obtain⟨n,j,e⟩:=t;simp only[List.length_drop]at Ou hr YX ⊢;refine⟨fun e' w'=>w'=aa w/\e'=(if e≠0 then e else if n > max most 0 then 3 else 0),?_,?_⟩
    · refine If.beq (fun he=>?_) (fun he=>⟨rfl,by rw[if_pos he]⟩);subst he;refine If.dec (fun h1=>If.dec (fun h2=>⟨rfl,?_⟩) (fun h2=>If.dec (fun h3=>by omega) (fun h3=>⟨rfl,?_⟩))) (fun h1=>If.dec (fun h2=>Ar.u64 (by omega) (If.dec (fun h3=>⟨rfl,?_⟩) (fun h3=>⟨rfl,?_⟩))) (fun h2=>by omega))
      · rw[if_neg (by simp),if_pos (by omega)]
      · rw[if_neg (by simp),if_neg (by omega)]
      · rw[if_neg (by simp),if_pos (by omega)]
      · rw[if_neg (by simp),if_neg (by omega)]
    · rintro _ e' w' ⟨rfl,Ll⟩;refine⟨fun e'' gE=>gE.heap=w.heap/\Ext No w gE/\((e''≠0/\cB most l at_ 0=([],at_,e''))∨(e''=0/\e=0/\n<=(l.length:Int) - (at_+j:Nat)/\cB most l at_ 0=((l.drop (at_+j)).take n.toNat,at_+j+n.toNat,0))),?_,?_⟩
      · refine⟨Ext No w,(Ext.refl _ _).drew.drew,If.beq (fun h0=>?_) (fun h0=>⟨rfl,(Ext.refl _ _).drew.drew,.inl ⟨h0,?_⟩⟩)⟩
        · have he:e=0:=by
            rw[h0]at Ll;by_cases h:e=0
            · exact h
            · rw[if_pos h]at Ll;exact absurd Ll.symm h
          have hnm:¬ n > max most 0:=fun h=>by
            rw[if_neg (by simp[he]),if_pos h]at Ll;omega
          subst he;rw[if_neg (by simp),if_neg hnm]at hr;have hj:j<=l.length - at_:=by rcases Ou with⟨_,_,h⟩ | ⟨h,_⟩;omega;exact absurd rfl h
          refine Nn.mk ⟨_,ae.cell (Cell.ah hT rfl),Nn.mk ⟨_,ae.cell (Cell.ah hT rfl),Ar.i64 (by omega) (Ar.i64 (by omega) (Ar.u64 (by omega) (If.dec (fun h=>⟨rfl,(Ext.refl _ _).drew.drew,.inl ⟨by decide,?_⟩⟩) (fun h=>⟨rfl,(Ext.refl _ _).drew.drew,.inr ⟨h0,rfl,by omega,?_⟩⟩))))⟩⟩
          · rw[hr,if_pos (by omega)]
          · rw[hr,if_neg (by omega)]
        · rw[hr];by_cases h:e≠0
          · rw[if_pos h]at Ll;rw[if_pos h,Ll]
          · rw[if_neg h]at Ll ⊢;by_cases h2:n > max most 0
            · rw[if_pos h2]at Ll;rw[if_pos h2,Ll]
            · rw[if_neg h2]at Ll;exact absurd Ll h0
      · rintro _ e'' w3 ⟨hh,hx,h⟩;have hT3:w3.heap[rb]? = some (.cells [s.v,.int .i64 at_,.int .i64 0].toArray T (0,0)):=by rw[hh];exact hT
        have r3:kP w3.heap rb s l at_ 0:=r.no hx;have e5:w3.heap.size=w.heap.size:=by rw[hh]
        refine If.bne (fun he=>?_) (fun he=>?_)
        · rcases h with⟨_,h⟩ | ⟨h,_⟩
          · rw[h]at k;exact Nn.mk (aQ.mk hT3 (by simp) rfl fun w4 hw=>k _ w4 (r3.set hw r3.le) ((Ext.aE hx).trans hw.ext fun _ _ h=>h) (bf.nil _ _ _ _))
          · exact absurd h he
        · rcases h with⟨h,_⟩ | ⟨_,h0,h1,h⟩
          · exact absurd he h
          · subst h0;rw[h]at k;have hj:j<=l.length - at_:=by rcases Ou with⟨_,_,h⟩ | ⟨h,_⟩;omega;exact absurd rfl h
            refine⟨fun m t i w'=>∃q:Nat,i=q/\m=n.toNat - q/\q<=n.toNat/\aK w'.heap w.heap.size t ((l.drop (at_+j)).take q)/\kP w'.heap rb s l at_ 0/\Ext No w w',⟨_,0,rfl,rfl,Nat.zero_le _,bf.nil _ _ _ _,r3,hx⟩,?_⟩;rintro _ m t i w5 ⟨q,rfl,rfl,hq,own,r5,Vs⟩;obtain⟨T5,hT5⟩:=r5.aj;refine Ar.i64 (by omega) (If.dec (fun cF=>?_) (fun uI=>?_))
            · have bA:l.map (Value.int .u8)≠[]:=by intro e;simp at e;subst e;simp at h1;omega
              have Vt:¬ t.aj=some rb:=fun e=>by have:=(own.lt e).1;omega
              have YZ:∀b,s.aj=some b->¬ t.aj=some b:=fun b hb e=>by
                have h1:=(own.lt e).1;have h2:=r.rd.lt bA hb;omega
              refine⟨Ext (fun b=>t.aj=some b) w5,(Ext.refl _ _).drew,Nn.mk ⟨_,ae.dI (Cell.ah hT5 rfl) Vt,Nn.mk ⟨_,ae.dI (Cell.ah hT5 rfl) Vt,Ar.i64 (by omega) (Ar.i64 (by omega) (Ix.int r5.rd (by omega) (by omega) fun b o zR ha=>⟨_,ae.dI ha (YZ b zR),fun b w6 new=>⟨(Ext.refl _ _).drew.no new.ext,?_⟩⟩))⟩⟩⟩;have acm:=bf.no (w:=aa w5) own new.ext;have ht:=own.len;have gZ:=Vs.size;have aeU:w5.heap.size<=w6.heap.size:=new.ext.size;rw[List.length_take]at ht;refine c_ acm (by omega) ((bf.new (sz:=1) (n:=1) new rfl (by simp[aJ])).rd.src) (by show(t.len+1) * 1<=_;omega) fun t' w7 Y0 _ acn _=>?_
              have wv:Ext (fun b=>t.aj=some b) w5 w7:=((Ext.refl _ w5).drew.no new.ext).trans acn fun i hi e=>e
              refine⟨wv,Ar.i64 (by omega) ⟨_,?_,q+1,by omega,rfl,by omega,?_,r5.ext wv Vt YZ,Vs.trans wv fun i hi e=>?_⟩⟩
              · omega
              · have e1:((at_:Int)+j+q).toNat=at_+j+q:=by omega
                rw[e1]at Y0
                have e2:List.take (q+1) (List.drop (at_+j) l)=List.take q (List.drop (at_+j) l)++[l.getD (at_+j+q) 0]:=by
                  rw[List.take_succ_eq_append_getElem (by rw[List.length_drop];omega)];simp[List.getD,List.getElem?_eq_getElem (show at_+j+q < l.length by omega)]
                rw[e2];simpa[aK] using Y0
              · have:=(own.lt e).1;omega
            · have eq:q=n.toNat:=by omega
              subst eq;refine Nn.mk ⟨_,Cell.ah hT5 rfl,Ar.i64 (by omega) (Ar.i64 (by omega) (Ar.i64 (by omega) (Nn.mk (aQ.mk hT5 (by simp) rfl fun w8 hw=>k t w8 (r5.set (T:=T5) ?_ (by show at_+j+n.toNat<=_;omega)) ((Ext.aE Vs).trans hw.ext fun _ _ h=>h) (own.ext hw.ext fun b hb e=>?_)))))⟩
              · have e1:(at_:Int)+j+n=((at_+j+n.toNat:Nat):Int):=by omega
                rw[e1]at hw;exact hw
              · have:=(own.lt hb).1;have e':b=rb:=e;omega
end Go.Proofs.YtpjbalhhlaofmaaGreat
namespace Go.V
structure Rf where
 p:Int
 c:Int
 g:Int
deriving DecidableEq
def Rf.z:Rf:=⟨0,0,0⟩
def Rf.ok(r:Rf):Prop:=(0<=r.p/\r.p<=4294967295)/\(0<=r.c/\r.c<=18446744073709551615)/\(0<=r.g/\r.g<=65535)
instance (r:Rf):Decidable r.ok:=inferInstanceAs (Decidable (_/\_))
def Rf.cs(r:Rf):List Value:=[.int .u32 r.p,.int .u64 r.c,.int .u16 r.g]
structure aL where
 k:Sl
 v:Sl
 n:Int
 ch:Rf
 cd:Rf
def aL.cs(x:aL):List Value:=[.slice x.k.a x.k.len x.k.cap,.slice x.v.a x.v.len x.v.cap,.int .i64 x.n,.int .u32 x.ch.p,.int .u64 x.ch.c,.int .u16 x.ch.g,.int .u32 x.cd.p,.int .u64 x.cd.c,.int .u16 x.cd.g]
structure aF where
 key:List Int
 val:List Int
 n:Int
 ch:Rf
 cd:Rf
deriving DecidableEq
structure lD(h:Array Obj)(x:aL)(e:aF):Prop where
 k:Rd h x.k 1 (e.key.map (Value.int .u8))
 v:Rd h x.v 1 (e.val.map (Value.int .u8))
 n:x.n=e.n
 ch:x.ch=e.ch
 cd:x.cd=e.cd
 k8:B8 e.key
 v8:B8 e.val
 n64:-9223372036854775808<=e.n/\e.n<=9223372036854775807
 Sj:e.ch.ok
 Sk:e.cd.ok
theorem lD.no{w w':Wd}{x:aL}{e:aF}(r:lD w.heap x e)(h:Ext No w w'):lD w'.heap x e:=⟨r.k.no h,r.v.no h,r.n,r.ch,r.cd,r.k8,r.v8,r.n64,r.Sj,r.Sk⟩
abbrev aU(p:aL×aF):List Value:=p.1.cs
theorem bO(L:List (aL×aF)):∀p∈L,(aU p).length=9:=fun _ _=>rfl
structure ny(h:Array Obj)(s:Sl)(L:List (aL×aF)):Prop where
 rd:Rd h s 9 (L.flatMap aU)
 h_:∀p∈L,lD h p.1 p.2
theorem ny.no{w w':Wd}{s:Sl}{L:List (aL×aF)}(r:ny w.heap s L)(h:Ext No w w'):ny w'.heap s L:=⟨r.rd.no h,fun p hp=>(r.h_ p hp).no h⟩
theorem ny.len{h:Array Obj}{s:Sl}{L:List (aL×aF)}(r:ny h s L):s.len=L.length:=by
 have:=r.rd.len;rw[aS (bO L)]at this;omega
theorem blt{h:Array Obj}{b:Nat}{o:Obj}(e:h[b]? = some o):b < h.size:=by
 rcases Nat.lt_or_ge b h.size with k | k
 .exact k
 .rw[Array.getElem?_eq_none k]at e;cases e
theorem ad{w w':Wd}{b:Nat}{o:Obj}(h:w.heap[b]? = some o)(x:Ext No w w'):w'.heap[b]? = some o:=by
 rw[x.aj b (blt h) (fun h=>h)];exact h
section
variable {w:Wd}
theorem Ox{s:Sl}{L:List (aL×aF)}{t:Int}{K:Sl->Sl->Int->Int->Int->Int->Int->Int->Int->Prop}(r:Rd w.heap s 9 (L.flatMap aU))(h0:0<=t)(h1:t < (s.len:Int))
  (k:∀(hi:t.toNat < L.length),K L[t.toNat].1.k L[t.toNat].1.v L[t.toNat].1.n L[t.toNat].1.ch.p L[t.toNat].1.ch.c L[t.toNat].1.ch.g L[t.toNat].1.cd.p L[t.toNat].1.cd.c L[t.toNat].1.cd.g) :
  Ix s.a s.len t 9 fun a=>∃c:Sl,Cell w a (.slice c.a c.len c.cap)/\∃jz:Sl,Cell w (a.add 1) (.slice jz.a jz.len jz.cap)/\∃ia:Int,Cell w (a.add 2) (.int .i64 ia)/\∃oN:Int,Cell w (a.add 3) (.int .u32 oN)/\
   ∃oO:Int,Cell w (a.add 4) (.int .u64 oO)/\∃jY:Int,Cell w (a.add 5) (.int .u16 jY)/\∃qA:Int,Cell w (a.add 6) (.int .u32 qA)/\∃oP:Int,Cell w (a.add 7) (.int .u64 oP)/\∃lG:Int,Cell w (a.add 8) (.int .u16 lG)/\K c jz ia oN oO jY qA oP lG:=
 Ix.elem r (bO L) (by decide) h0 h1 fun b o hi _ hc=>
  ⟨_,hc 0 _ rfl,_,hc 1 _ rfl,_,hc 2 _ rfl,_,hc 3 _ rfl,_,hc 4 _ rfl,_,hc 5 _ rfl,_,hc 6 _ rfl,_,hc 7 _ rfl,_,hc 8 _ rfl,k hi⟩
theorem eW{b:Nat}{x:aL}{T:TypeId}{K:Sl->Sl->Int->Int->Int->Int->Int->Int->Int->Prop}(hb:w.heap[b]? = some (.cells x.cs.toArray T (0,0)))(k:K x.k x.v x.n x.ch.p x.ch.c x.ch.g x.cd.p x.cd.c x.cd.g) :
  ∃c:Sl,Cell w (Addr.mk b 0 none) (.slice c.a c.len c.cap)/\∃jz:Sl,Cell w ((Addr.mk b 0 none).add 1) (.slice jz.a jz.len jz.cap)/\∃ia:Int,Cell w ((Addr.mk b 0 none).add 2) (.int .i64 ia)/\∃oN:Int,Cell w ((Addr.mk b 0 none).add 3) (.int .u32 oN)/\
   ∃oO:Int,Cell w ((Addr.mk b 0 none).add 4) (.int .u64 oO)/\∃jY:Int,Cell w ((Addr.mk b 0 none).add 5) (.int .u16 jY)/\∃qA:Int,Cell w ((Addr.mk b 0 none).add 6) (.int .u32 qA)/\∃oP:Int,Cell w ((Addr.mk b 0 none).add 7) (.int .u64 oP)/\∃lG:Int,Cell w ((Addr.mk b 0 none).add 8) (.int .u16 lG)/\K c jz ia oN oO jY qA oP lG:=
 ⟨_,Cell.ah hb rfl,_,Cell.ah hb rfl,_,Cell.ah hb rfl,_,Cell.ah hb rfl,_,Cell.ah hb rfl,_,Cell.ah hb rfl,_,Cell.ah hb rfl,_,Cell.ah hb rfl,_,Cell.ah hb rfl,k⟩
theorem aW{zs vs:List Value}{T:TypeId}{K:Nat->Pw}{n:Nat}(hl:vs.length=n)(hz:zs.length=n)(hv:∀v∈vs,aJ v=true)
  (k:∀b w',w'.heap[b]? = some (.cells vs.toArray T (0,0))->b=w.heap.size->w'.heap.size=w.heap.size+1->Ext No w w'->K b w'):af w (.cells zs.toArray T) fun b w1=>List.length (α:=Value) vs=n/\gT w1 (Addr.mk b 0 none) vs fun w2=>K b w2:=by
 intro b w1 hn;refine⟨hl,zs.toArray,T,(0,0),hn.get,rfl,by simp[hl,hz],.inr (.inr (Nat.le_refl _)),hv,fun w2 hw=>?_⟩;have e:setL zs 0 vs=vs:=Hd _ _ (by omega);have Jk:gB w1 b (.cells vs.toArray T (0,0)) w2:=by rw[<- e];exact hw
 refine k b w2 (Jk.get hn.get) hn.at_ (by rw[Jk.size,hn.size]) (hn.ext.trans Jk.ext fun q hq h=>?_);have:=hn.at_;rw[h]at hq;omega
theorem vx(a b:Rf):((a.p == b.p) && ((a.c == b.c) && ((a.g == b.g) && true)))=decide (a=b):=by
 obtain⟨a1,a2,a3⟩:=a;obtain⟨b1,b2,b3⟩:=b;rw[Bool.eq_iff_iff];simp
end
def iB(kind lev:Int):Prop:=kind=1/\lev=0∨kind=2/\1<=lev/\lev<=30
instance (a b:Int):Decidable (iB a b):=inferInstanceAs (Decidable (_∨_))
def lX(kind i len:Int):Prop:=if kind=2/\i=0 then len=0 else 1<=len/\len<=32
instance (a b c:Int):Decidable (lX a b c):=inferInstanceAs (Decidable (ite _ _ _))
def nR(kind i:Int)(e:aF):Prop:=lX kind i e.key.length/\(if kind=2 then e.cd ≠ .z/\e.ch = .z/\e.val.length=0/\e.n=0 else e.cd = .z/\(if e.n=0 then e.ch = .z/\e.val.length<=64 else e.n > 64/\e.n<=1024/\e.ch ≠ .z/\e.val.length=0))
instance (a b:Int) (e:aF):Decidable (nR a b e):=inferInstanceAs (Decidable (_/\_))
structure aH(kind lev:Int)(l:List aF):Prop where
 shape:iB kind lev
 some:kind=2->l≠[]
 h_:∀i (h:i < l.length),nR kind i l[i]
 ord:∀i (h:i+1 < l.length),bM l[i].key l[i+1].key
def refB(r:Rf):List Int:=be 4 r.p++be 8 r.c++be 2 r.g
def wrE(kind:Int)(e:aF):List Int:=(e.key.length % 256:Int)::e.key++(if kind=2 then refB e.cd else if e.n > 0 then[1,e.n / 256 % 256,e.n % 256]++refB e.ch else[0,(e.val.length % 256:Int)]++e.val)
def wr(kind lev:Int)(l:List aF):List Int:=[kind,lev,(l.length % 256:Int)]++l.flatMap (wrE kind)
theorem eX(r:Rf):(refB r).length=14:=by simp[refB,bu]
end Go.V
namespace Go.Proofs.YtpjbalhhlaofmaaGreat
open Go.V
section
variable {w:Wd}
theorem AO{kind lev:Int}{K:Bool->Pw}(k:K (decide (iB kind lev)) w):lP kind lev w K:=by
 apply EC;have yes:iB kind lev->K true w:=fun h=>by rw[decide_eq_true h]at k;exact k
 have no:¬ iB kind lev->K false w:=fun h=>by rw[decide_eq_false h]at k;exact k
 have two:kind=2->1<=lev->K (decide (lev<=30)) w:=fun a b=>by
  have:decide (lev<=30)=decide (iB kind lev):=by rw[decide_eq_decide];unfold iB;omega
  rw[this];exact k
 refine If.beq (fun h=>If.beq (fun h'=>yes (.inl ⟨h,h'⟩)) (fun h'=>If.beq (fun h2=>by omega) fun h2=>no (by unfold iB;omega))) (fun h=>If.beq (fun h2=>If.dec (fun h3=>two h2 h3) fun h3=>no (by unfold iB;omega)) fun h2=>no (by unfold iB;omega))
theorem Hl{kind i n:Int}{K:Bool->Pw}(k:K (decide (lX kind i n)) w):pD kind i n w K:=by
 apply Ja;refine⟨fun w'=>w'=w/\¬ (kind=2/\i=0),If.beq (fun h=>If.beq (fun h'=>?_) fun h'=>⟨rfl,by omega⟩) (fun h=>⟨rfl,by omega⟩),?_⟩
 .have:(n == 0)=decide (lX kind i n):=by rw[Bool.eq_iff_iff,decide_eq_true_iff,beq_iff_eq];unfold lX;rw[if_pos ⟨h,h'⟩]
  rw[this];exact k
 .rintro _ w1 ⟨rfl,hn⟩;refine If.dec (fun h=>?_) (fun h=>?_)
  .have:decide (n<=32)=decide (lX kind i n):=by rw[decide_eq_decide];unfold lX;rw[if_neg hn];omega
   rw[this];exact k
  .have:decide (lX kind i n)=false:=decide_eq_false (by unfold lX;rw[if_neg hn];omega);rw[this]at k;exact k
theorem Jm{kind i:Int}{x:aL}{e:aF}{K:Bool->Pw}(r:lD w.heap x e)(k:∀w',Ext No w w'->K (decide (nR kind i e)) w'):pF kind i x.k x.v x.n x.ch.p x.ch.c x.ch.g x.cd.p x.cd.c x.cd.g w K:=by
 apply EI;refine af.mk fun b w1 h1=>aW rfl rfl (by decide) fun b1 w3 jk _ _ x3=>?_
 have hb:w3.heap[b]? = some (.cells x.cs.toArray 151 (0,0)):=ad h1.get x3;have hz:w3.heap[b1]? = some (.cells Rf.z.cs.toArray 28 (0,0)):=jk;have xx:Ext No w w3:=h1.ext.no x3;have k:=k w3 xx;have zS:=b_.len r.k;have Nz:=b_.len r.v;have no:¬ nR kind i e->K false w3:=fun h=>by rw[decide_eq_false h]at k;exact k
 refine⟨_,Cell.ah hb rfl,Hl (If.not (If.dec (fun hk=>?_) fun hk=>no fun h=>hk (by rw[zS];exact h.1)))⟩;rw[zS]at hk;refine If.beq (fun h2=>?_) (fun h2=>?_)
 .refine⟨_,Cell.ah hb rfl,_,Cell.ah hb rfl,_,Cell.ah hb rfl,_,Cell.ah hz rfl,_,Cell.ah hz rfl,_,Cell.ah hz rfl,?_⟩;dsimp only;rw[vx x.cd .z,r.cd];refine If.not (If.dec (fun h=>no fun h'=>?_) fun h=>?_)
  .have:=h'.2;rw[if_pos h2]at this;exact this.1 h
  refine⟨_,Cell.ah hb rfl,_,Cell.ah hb rfl,_,Cell.ah hb rfl,_,Cell.ah hz rfl,_,Cell.ah hz rfl,_,Cell.ah hz rfl,?_⟩;dsimp only;rw[vx x.ch .z,r.ch];refine If.dec (fun h'=>?_) fun h'=>no fun Jn=>?_
  .refine⟨_,Cell.ah hb rfl,If.beq (fun h3=>⟨_,Cell.ah hb rfl,?_⟩) fun h3=>no fun Jn=>?_⟩
   .have:(x.n == 0)=decide (nR kind i e):=by
     rw[Bool.eq_iff_iff,decide_eq_true_iff,beq_iff_eq];unfold nR;rw[if_pos h2,r.n];exact⟨fun h4=>⟨hk,h,h',by omega,h4⟩,fun h4=>h4.2.2.2.2⟩
    rw[this];exact k
   .have:=Jn.2;rw[if_pos h2]at this;omega
  .have:=Jn.2;rw[if_pos h2]at this;exact h' this.2.1
 .refine⟨_,Cell.ah hb rfl,_,Cell.ah hb rfl,_,Cell.ah hb rfl,_,Cell.ah hz rfl,_,Cell.ah hz rfl,_,Cell.ah hz rfl,?_⟩;dsimp only;rw[vx x.cd .z,r.cd];refine If.not (If.dec (fun h=>?_) fun h=>no fun h'=>?_)
  rotate_left
  .have:=h'.2;rw[if_neg h2]at this;exact h this.1
  refine⟨_,Cell.ah hb rfl,?_⟩;rw[r.n];refine If.beq (fun h3=>?_) fun h3=>?_
  .refine⟨_,Cell.ah hb rfl,_,Cell.ah hb rfl,_,Cell.ah hb rfl,_,Cell.ah hz rfl,_,Cell.ah hz rfl,_,Cell.ah hz rfl,?_⟩;dsimp only;rw[vx x.ch .z,r.ch];refine If.dec (fun h'=>⟨_,Cell.ah hb rfl,?_⟩) fun h'=>no fun Jn=>?_
   .have:decide ((x.v.len:Int)<=64)=decide (nR kind i e):=by
     rw[decide_eq_decide];unfold nR;rw[if_neg h2,if_pos h3,Nz];exact⟨fun h4=>⟨hk,h,h',by omega⟩,fun h4=>by have:=h4.2.2.2;omega⟩
    rw[this];exact k
   .have:=Jn.2;rw[if_neg h2,if_pos h3]at this;exact h' this.2.1
  .refine⟨_,Cell.ah hb rfl,?_⟩;rw[r.n];refine If.dec (fun h4=>⟨_,Cell.ah hb rfl,?_⟩) fun h4=>no fun Jn=>?_
   rotate_left
   .have:=Jn.2;rw[if_neg h2,if_neg h3]at this;exact h4 this.2.1
   rw[r.n];refine If.dec (fun h5=>?_) fun h5=>no fun Jn=>?_
   rotate_left
   .have:=Jn.2;rw[if_neg h2,if_neg h3]at this;exact h5 this.2.2.1
   refine⟨_,Cell.ah hb rfl,_,Cell.ah hb rfl,_,Cell.ah hb rfl,_,Cell.ah hz rfl,_,Cell.ah hz rfl,_,Cell.ah hz rfl,?_⟩;dsimp only;rw[vx x.ch .z,r.ch];refine If.not (If.dec (fun h'=>no fun Jn=>?_) fun h'=>⟨_,Cell.ah hb rfl,?_⟩)
   .have:=Jn.2;rw[if_neg h2,if_neg h3]at this;exact this.2.2.2.1 h'
   .have:((x.v.len:Int) == 0)=decide (nR kind i e):=by
     rw[Bool.eq_iff_iff,decide_eq_true_iff,beq_iff_eq];unfold nR;rw[if_neg h2,if_neg h3,Nz];exact⟨fun h6=>⟨hk,h,h4,h5,h',by omega⟩,fun h6=>by have:=h6.2.2.2.2.2;omega⟩
    rw[this];exact k
end
section
variable {w:Wd}
theorem rz{s:Sl}{L:List (aL×aF)}{t:Int}{K:Nat->Pw}(r:Rd w.heap s 9 (L.flatMap aU))(h0:0<=t)(h1:t < (s.len:Int))
  (k:∀b w' (hi:t.toNat < L.length),w'.heap[b]? = some (.cells L[t.toNat].1.cs.toArray 151 (0,0))->b=w.heap.size->w'.heap.size=w.heap.size+1->Ext No w w'->K b w') :
  Ix s.a s.len t 9 fun a=>∃c:Sl,Cell w a (.slice c.a c.len c.cap)/\∃jz:Sl,Cell w (a.add 1) (.slice jz.a jz.len jz.cap)/\∃ia:Int,Cell w (a.add 2) (.int .i64 ia)/\∃oN:Int,Cell w (a.add 3) (.int .u32 oN)/\
   ∃oO:Int,Cell w (a.add 4) (.int .u64 oO)/\∃jY:Int,Cell w (a.add 5) (.int .u16 jY)/\∃qA:Int,Cell w (a.add 6) (.int .u32 qA)/\∃oP:Int,Cell w (a.add 7) (.int .u64 oP)/\∃lG:Int,Cell w (a.add 8) (.int .u16 lG)/\
   af w (.cells [.slice none 0 0,.slice none 0 0,.int .i64 0,.int .u32 0,.int .u64 0,.int .u16 0,.int .u32 0,.int .u64 0,.int .u16 0].toArray 151) fun kD w5=>
   List.length (α:=Value) [.slice c.a c.len c.cap,.slice jz.a jz.len jz.cap,.int .i64 ia,.int .u32 oN,.int .u64 oO,.int .u16 jY,.int .u32 qA,.int .u64 oP,.int .u16 lG]=9/\
   gT w5 (Addr.mk kD 0 none) [.slice c.a c.len c.cap,.slice jz.a jz.len jz.cap,.int .i64 ia,.int .u32 oN,.int .u64 oO,.int .u16 jY,.int .u32 qA,.int .u64 oP,.int .u16 lG] fun w6=>K kD w6:=
 Ox r h0 h1 fun hi=>aW rfl rfl (by intro v hv;simp only[List.mem_cons,List.not_mem_nil,or_false]at hv;rcases hv with h | h | h | h | h | h | h | h | h <;> subst h <;> rfl) fun b w' hb e z x=>k b w' hi hb e z x
theorem _root_.Go.V.ny.get{h:Array Obj}{s:Sl}{L:List (aL×aF)}(r:ny h s L){i:Nat}(hi:i < L.length):lD h L[i].1 L[i].2:=r.h_ _ (List.getElem_mem hi)
abbrev ents(L:List (aL×aF)):List aF:=L.map Prod.snd
theorem jZ{kind lev:Int}{s:Sl}{L:List (aL×aF)}{K:Int->Pw}(r:ny w.heap s L)(hs:L.length<=4294967296)
  (k0:∀w',aH kind lev (ents L)->Ext No w w'->K 0 w') (k1:∀c w',¬ aH kind lev (ents L)->c≠0->Ext No w w'->K c w'):eh kind lev s w K:=by
 apply EJ;refine af.mk fun b w1 h1=>?_
 have hb:=h1.get;have hl:=r.len;refine⟨fun w'=>w'=w1/\iB kind lev/\(kind=2->L≠[]),?_,?_⟩
 .refine⟨_,Cell.ah hb rfl,_,Cell.ah hb rfl,AO (If.not (If.dec (fun Kt=>?_) fun Kt=>k1 2 _ (fun h=>Kt h.shape) (by decide) h1.ext))⟩;refine⟨_,Cell.ah hb rfl,If.beq (fun h2=>⟨_,Cell.ah hb rfl,If.beq (fun h3=>?_) fun h3=>⟨rfl,Kt,fun _ h=>?_⟩⟩) fun h2=>⟨rfl,Kt,fun h=>(h2 h).elim⟩⟩
  .refine k1 2 _ (fun h=>h.some h2 ?_) (by decide) h1.ext;rw[List.map_eq_nil_iff];exact List.eq_nil_of_length_eq_zero (by omega)
  .rw[h]at hl;simp at hl;omega
 rintro _ w3 ⟨rfl,Kt,hso⟩;refine⟨_,Cell.ah hb rfl,fun m t w'=>∃i:Nat,t=i/\i<=L.length/\m=L.length - i/\Ext No w3 w'/\(∀j (h:j < i) (h':j < L.length),nR kind j L[j].2)/\(∀j (h:j+1 < i) (h':j+1 < L.length),bM L[j].2.key L[j+1].2.key),⟨L.length,0,rfl,by omega,by omega,Ext.refl _ _,fun j h=>by omega,fun j h=>by omega⟩,?_⟩;rintro _ m0 t w4 ⟨i,rfl,hi,hm,x4,he,ho⟩;have fg:Ext No w w4:=h1.ext.no x4;refine If.dec (fun h=>?_) (fun h=>?_)
 .refine rz (r.rd.no fg) (by omega) h fun b1 w6 iO jk eb1 _ x6=>?_
  simp only[Int.toNat_natCast]at iO jk;have AP:=fg.no x6;have e6:=(r.no AP).get iO;have Y1:=ad hb (x4.no x6);refine⟨_,Cell.ah Y1 rfl,eW jk (Jm e6 fun w7 x7=>If.not (If.dec (fun hp=>?_) fun hp=>k1 2 _ (fun h=>hp ?_) (by decide) (AP.no x7)))⟩
  rotate_left
  .have:=h.h_ i (by simpa using iO);simpa using this
  have Y2:=ad Y1 x7;have aco:=ad jk x7;have ub:=AP.no x7;refine⟨Ext No w7,(Ext.refl _ _).drew,If.dec (fun h0=>?_) fun h0=>?_⟩
  .refine⟨_,ae.cell (Cell.ah Y2 rfl),Ar.i64 (by omega) (Ix.elem (r.rd.no ub) (bO L) (by decide) (by omega) (by omega) fun b2 o2 uJ _ hc=>⟨_,ae.cell (hc 0 _ rfl),_,ae.cell (Cell.ah aco rfl),?_⟩)⟩;have e2:((i:Int) - 1).toNat=i - 1:=by omega
   simp only[e2]at uJ ⊢;have r7:=r.no ub.drew;have ea:=r7.get uJ;have eb:=r7.get iO;refine gz ea.k eb.k ea.k8 eb.k8 ⟨(Ext.refl _ _).drew,If.dec (fun hc=>k1 120 _ (fun hr=>?_) (by decide) ub.drew) fun hc=>Ar.i64 (by omega) ⟨L.length - (i+1),by omega,i+1,by omega,by omega,rfl,(x4.no (x6.no x7)).drew,fun j h h'=>?_,fun j h h'=>?_⟩⟩
   .have:=hr.ord (i - 1) (by simp;omega);simp only[List.getElem_map,show i - 1+1=i by omega]at this;exact lW.1 hc this
   .rcases Nat.lt_or_ge j i with h3 | h3
    .exact he j h3 h'
    .have:j=i:=by omega
     subst this;exact hp
   .rcases Nat.lt_or_ge (j+1) i with h3 | h3
    .exact ho j h3 h'
    .have:j=i - 1:=by omega
     subst this;simp only[show i - 1+1=i by omega];exact Classical.not_not.1 fun hh=>hc (lW.2 hh)
  .refine Ar.i64 (by omega) ⟨L.length - (i+1),by omega,i+1,by omega,by omega,rfl,(x4.no (x6.no x7)).drew,fun j h h'=>?_,fun j h h'=>by omega⟩;have:j=i:=by omega
   subst this;exact hp
 .refine k0 _ ⟨Kt,fun h=>by rw[ne_eq,List.map_eq_nil_iff];exact hso h,fun j hj=>?_,fun j hj=>?_⟩ fg
  .simp only[List.length_map,List.getElem_map]at hj ⊢;exact he j (by omega) hj
  .simp only[List.length_map,List.getElem_map]at hj ⊢;exact ho j (by omega) hj
theorem aK.new{n:Nat}{b:Nat}{w':Wd}{l:List Int}(h:Da w (.cells (l.map (Value.int .u8)).toArray 5) b w')(hn:l.length=n):aK w'.heap w.heap.size ⟨some ⟨b,0,none⟩,n,n⟩ l:=
 bf.new h (by simp[hn]) Di
theorem vz{r:Rf}{K:Sl->Pw}(ok:r.ok)(k:∀s w',aK w'.heap w.heap.size s (refB r)->Ext No w w'->K s w'):pG r.p r.c r.g w K:=by
 apply Jb;obtain⟨h1,h2,h3⟩:=ok;refine af.mk fun b w1 n1=>?_
 have hb:=n1.get;refine⟨_,Cell.ah hb rfl,Ar.u64 (by omega) (kM h1.1 (by decide) (by decide) (by show r.p < 256 ^ 4;omega) fun s1 w2 o2 x2=>?_)⟩;refine⟨_,Cell.ah (ad hb x2) rfl,kM h2.1 (by decide) (by decide) (by show r.c < 256 ^ 8;omega) fun s2 w3 o3 x3=>?_⟩;refine⟨_,Cell.ah (ad hb (x2.no x3)) rfl,Ar.u64 (by omega) (kM h3.1 (by decide) (by decide) (by show r.g < 256 ^ 2;omega) fun s3 w4 o4 x4=>af.mk fun b5 w5 n5=>?_)⟩;have r5:Rd w5.heap ⟨some ⟨b5,0,none⟩,3,3⟩ 1 ([(s1,be 4 r.p),(s2,be 8 r.c),(s3,be 2 r.g)].map fun p=>p.1.v):=(bf.new (n:=3) (sz:=1) n5 rfl (by intro v hv;simp only[List.mem_cons,List.not_mem_nil,or_false]at hv;rcases hv with h | h | h <;> subst h <;> rfl)).rd;refine q_ r5 (fun p hp=>?_) (by simp[bu]) (by simp) fun s w' o x=>k s w' ?_ ?_
 .simp only[List.mem_cons,List.not_mem_nil,or_false]at hp;rcases hp with h | h | h <;> subst h
  .exact o2.rd.no ((x3.no x4).no n5.ext)
  .exact o3.rd.no (x4.no n5.ext)
  .exact o4.rd.no n5.ext
 .have e:refB r=([(s1,be 4 r.p),(s2,be 8 r.c),(s3,be 2 r.g)].map Prod.snd).flatten:=by simp[refB]
  rw[e];exact bf.mono o ((n1.ext.no x2).no (x3.no (x4.no n5.ext))).size
 .exact((n1.ext.no x2).no (x3.no (x4.no n5.ext))).no x
theorem ag{S:Nat->Prop}{w':Wd}{b:Nat}{o:Obj}(h:w.heap[b]? = some o)(x:Ext S w w')(hb:¬ S b):w'.heap[b]? = some o:=by
 rw[x.aj b (blt h) hb];exact h
theorem vA{w0:Wd}{Q:Nat->Prop}{s s':Sl}{base:Nat}{l m:List Int}{K:Sl->Pw}(xq:Ext Q w0 w)(hq:∀i,s.aj=some i->Q i)(XA:∀i,w0.heap.size<=i->Q i)(o:aK w.heap base s l)(hb:base<=w.heap.size)(r:b_ w.heap s' m)(hn:l.length+m.length<=1099511627776)
  (k:∀t w',aK w'.heap base t (l++m)->(∀i,t.aj=some i->Q i)->Ext Q w0 w'->K t w'):bg pz 23 23 s (.slice s'.a s'.len s'.cap) K w:=
 c_ o hb r.src (by have:=aK.len o;have:=b_.len r;omega) fun t w' o' _ x oQ=>k t w' (by show bf _ _ 5 1 t _;rw[List.map_append];exact o') (fun i hi=>by
  rcases oQ with h | ⟨b,h,hle⟩
  .exact hq i (h ▸ hi)
  .rw[hi]at h;cases h;exact XA i (Nat.le_trans xq.size hle)) (xq.trans x fun i _ h=>hq i h)
theorem Vu(kind:Int){e:aF}(h1:e.key.length<=1048576)(h2:e.val.length<=1048576):(wrE kind e).length<=4194304:=by
 unfold wrE;simp only[List.length_append,List.length_cons];split
 .rw[eX];omega
 .split
  .simp[eX];omega
  .simp;omega
def Oy(L:List (aL×aF)):Prop:=L.length<=65536/\∀p∈L,p.2.key.length<=1048576/\p.2.val.length<=1048576
theorem AQ{kind:Int}{L:List (aL×aF)}(h:Oy L):∀i,(((ents L).take i).flatMap (wrE kind)).length<=L.length * 4194304:=fun i=>by
 have h2:∀(l:List aF),(∀e∈l,e.key.length<=1048576/\e.val.length<=1048576)->(l.flatMap (wrE kind)).length<=l.length * 4194304:=by
  intro l hl
  induction l with
  | nil=>simp
  | cons e l ih=>
   have:=Vu kind (hl e List.mem_cons_self).1 (hl e List.mem_cons_self).2;have:=ih fun e he=>hl e (List.mem_cons_of_mem _ he)
   simp only[List.flatMap_cons,List.length_append,List.length_cons];omega
 refine Nat.le_trans (h2 _ fun e he=>?_) (Nat.mul_le_mul_right _ (by simp only[List.length_take,List.length_map];omega));obtain⟨p,hp,rfl⟩:=List.mem_map.1 (List.mem_of_mem_take he);exact h.2 p hp
set_option maxHeartbeats 400000 in
theorem AR{kind lev:Int}{s:Sl}{L:List (aL×aF)}{K:Sl->Pw}(r:ny w.heap s L)(hs:Oy L)
  (k:∀t w',aK w'.heap w.heap.size t (wr kind lev (ents L))->Ext No w w'->K t w'):lQ kind lev s w K:=by
 apply EK;have hl:=r.len;have Fm:=hs.1;refine af.mk fun b w1 h1=>?_
 have hb:=h1.get;refine⟨_,Cell.ah hb rfl,_,Cell.ah hb rfl,_,Cell.ah hb rfl,Ar.Ly (af.mk fun b1 w2 h2=>⟨_,Cell.ah (ad hb h2.ext) rfl,?_⟩)⟩
 have o2:aK w2.heap w1.heap.size ⟨some ⟨b1,0,none⟩,3,3⟩ ([kind,lev,(L.length % 256:Int)]):=by
  have:=aK.new (n:=3) (l:=[kind,lev,((s.len:Int) % 256)]) h2 rfl;rw[hl]at this;exact this
 have hf:∀i (h:i < L.length),((ents L).take (i+1)).flatMap (wrE kind)=((ents L).take i).flatMap (wrE kind)++wrE kind L[i].2:=fun i h=>by
  rw[List.take_add_one,List.getElem?_eq_getElem (by simpa using h)];simp
 refine⟨fun m t i w'=>∃j:Nat,i=j/\j<=L.length/\m=L.length - j/\Ext No w w'/\w'.heap[b]? = some (.cells [.int .u8 kind,.int .u8 lev,.slice s.a s.len s.cap].toArray 142 (0,0))/\aK w'.heap w1.heap.size t ([kind,lev,(L.length % 256:Int)]++((ents L).take j).flatMap (wrE kind)),⟨L.length,0,rfl,by omega,by omega,h1.ext.no h2.ext,ad hb h2.ext,by simpa using o2⟩,?_⟩;rintro _ m0 t i w3 ⟨j,rfl,hj,hm,x3,vB,o3⟩;refine If.dec (fun h=>?_) (fun h=>?_)
 .refine rz (r.rd.no x3) (by omega) h fun b4 w5 iO Hm eb4 z5 x5=>?_
  simp only[Int.toNat_natCast]at iO Hm;have xY:=x3.no x5;have e5:=(r.no xY).get iO;have Jo:=hs.2 _ (List.getElem_mem iO)
  have hlen:([kind,lev,(L.length % 256:Int)]++((ents L).take j).flatMap (wrE kind)).length<=274877906950:=by
   have:=AQ (kind:=kind) hs j;simp only[List.length_append,List.length_cons,List.length_nil];omega
  have z1:=h1.size;have hx3:=x3.size;have aeV:w1.heap.size<=w3.heap.size:=by have:=blt vB;have:=h1.at_;omega
  generalize XB:([kind,lev,(L.length % 256:Int)]++((ents L).take j).flatMap (wrE kind))=l0 at *
  let Q:Nat->Prop:=fun i=>w1.heap.size<=i/\i≠b4
  have nb:¬ Q b:=fun h=>by have:=h1.at_;have:=h.1;omega
  have Sm:¬ Q b4:=fun h=>h.2 rfl
  have XC:∀i,w5.heap.size<=i->Q i:=fun i hi=>⟨by omega,by omega⟩
  have mK:∀{w':Wd},Ext Q w5 w'->Ext No w w':=fun x=>xY.trans x fun i hi h=>by have:=h.1;omega
  have hq3:∀i,t.aj=some i->Q i:=fun i hi=>by have:=o3.lt hi;exact⟨this.1,by omega⟩
  have LK:=ad vB x5;have o5:aK w5.heap w1.heap.size t l0:=o3.no x5
  have fin:∀{t':Sl}{w':Wd}{l:List Int},Ext Q w5 w'->aK w'.heap w1.heap.size t' (l0++l)->l=wrE kind L[j].2->∃m1,m1 < m0/\∃j':Nat,((j:Int)+1)=j'/\j'<=L.length/\m1=L.length - j'/\Ext No w w'/\w'.heap[b]? = some (.cells [.int .u8 kind,.int .u8 lev,.slice s.a s.len s.cap].toArray 142 (0,0))/\aK w'.heap w1.heap.size t' ([kind,lev,(L.length % 256:Int)]++((ents L).take j').flatMap (wrE kind)):=fun {t' w' l} x o e=>
   ⟨L.length - (j+1),by omega,j+1,by omega,by omega,rfl,mK x,ag LK x nb,by rw[hf j iO,<- List.append_assoc,XB,<- e];exact o⟩
  have zS:=b_.len e5.k;have Nz:=b_.len e5.v;refine⟨Ext Q w5,(Ext.refl _ _).drew,_,ae.dI (Cell.ah Hm rfl) Sm,Ar.Ly ⟨_,ae.dI (Cell.ah Hm rfl) Sm,af.mk fun b6 w6 n6=>?_⟩⟩;have x6:Ext Q w5 w6:=((Ext.refl _ _).drew).no n6.ext;refine⟨x6,vA (s':=⟨some ⟨b6,0,none⟩,1,1⟩) (l:=l0) x6 hq3 XC (o5.no ((Ext.refl No w5).drew.no n6.ext)) (by have:=x6.size;omega) (aK.new (n:=1) (l:=[((L[j].1.k.len:Int) % 256)]) n6 rfl).rd (by simp;omega) fun s7 w7 o7 q7 x7=>⟨x7,?_⟩⟩
  refine vA x7 q7 XC o7 (by have:=x7.size;omega) ((r.no (mK x7)).get iO).k (by simp;omega) fun s8 w8 o8 q8 x8=>⟨x8,_,Cell.ah (ag LK x8 nb) rfl,?_⟩
  have e8:=(r.no (mK x8)).get iO;have Ku:=ag Hm x8 Sm;have z8:=x8.size;refine If.beq (fun h2=>?_) (fun h2=>?_)
  .refine⟨_,Cell.ah Ku rfl,_,Cell.ah Ku rfl,_,Cell.ah Ku rfl,?_⟩;rw[e8.cd];refine vz e8.Sk fun s9 w9 o9 x9=>vA (x8.no x9) q8 XC (o8.no x9) (by have:=x9.size;omega) o9.rd (by simp[eX];omega) fun Oz dV Jp q10 dW=>Ar.i64 (by omega) (fin dW (by simpa only[List.append_assoc] using Jp) ?_)
   unfold wrE;rw[if_pos h2,zS];simp
  .refine⟨_,Cell.ah Ku rfl,?_⟩;rw[e8.n];refine If.dec (fun h3=>?_) (fun h3=>?_)
   .refine⟨_,Cell.ah Ku rfl,by decide,Nm.as (e':=L[j].2.n / 256) (by rw[show min (Int.toNat 8) (IntKind.bits .i64)=8 from rfl,Int.fdiv_eq_ediv_of_nonneg _ (by decide),e8.n];rfl) (Ar.Ly ⟨_,Cell.ah Ku rfl,Ar.Ly (af.mk fun b9 w9 n9=>?_)⟩)⟩;refine vA (s':=⟨some ⟨b9,0,none⟩,3,3⟩) (x8.no n9.ext) q8 XC (o8.no n9.ext) (by have:=n9.ext.size;omega) (aK.new (n:=3) (l:=[1,L[j].2.n / 256 % 256,L[j].1.n % 256]) n9 rfl).rd (by simp;omega) fun Oz dV Jp q10 dW=>?_
    have Sn:=ag Hm dW Sm;have Kv:=dW.size;refine⟨_,Cell.ah Sn rfl,_,Cell.ah Sn rfl,_,Cell.ah Sn rfl,?_⟩;rw[e8.ch];refine vz e8.Sj fun So di Sr fH=>vA (dW.no fH) q10 XC (Jp.no fH) (by have:=fH.size;omega) Sr.rd (by simp[eX];omega) fun s12 eN Jq q12 fJ=>Ar.i64 (by omega) (fin fJ (by simpa only[List.append_assoc] using Jq) ?_)
    unfold wrE;rw[if_neg h2,if_pos h3,zS,e8.n];simp
   .refine⟨Ext Q w8,(Ext.refl _ _).drew,_,ae.dI (Cell.ah Ku rfl) Sm,Ar.Ly ⟨_,ae.dI (Cell.ah Ku rfl) Sm,af.mk fun b9 w9 n9=>?_⟩⟩;have x9:Ext Q w8 w9:=((Ext.refl _ _).drew).no n9.ext;have hQ8:∀i,w8.heap.size<=i->Q i:=fun i hi=>XC i (by omega)
    have tt:∀{w':Wd},Ext Q w8 w'->Ext Q w5 w':=fun x=>x8.trans x fun _ _ h=>h
    refine⟨x9,vA (s':=⟨some ⟨b9,0,none⟩,2,2⟩) x9 q8 hQ8 (o8.no ((Ext.refl No w8).drew.no n9.ext)) (by have:=x9.size;omega) (aK.new (n:=2) (l:=[0,((L[j].1.v.len:Int) % 256)]) n9 rfl).rd (by simp;omega) fun Oz dV Jp q10 dW=>⟨dW,?_⟩⟩
    refine vA dW q10 hQ8 Jp (by have:=dW.size;omega) ((r.no (mK (tt dW))).get iO).v (by simp;omega) fun So di Sr q11 fH=>⟨fH,Ar.i64 (by omega) (fin (tt fH) (by simpa only[List.append_assoc] using Sr) ?_)⟩
    unfold wrE;rw[if_neg h2,if_neg h3,zS,Nz];simp
 .have e:j=L.length:=by omega
  subst e;refine k _ _ ?_ x3;refine bf.mono ?_ h1.ext.size;have e2:(ents L).take L.length=ents L:=List.take_of_length_le (by simp);rw[e2]at o3;unfold wr;simp only[List.length_map];exact o3
theorem _root_.Go.V.aH.short{kind lev:Int}{L:List (aL×aF)}(h:aH kind lev (ents L))(hl:L.length<=65536):Oy L:=by
 refine⟨hl,fun p hp=>?_⟩;obtain⟨i,hi,rfl⟩:=List.getElem_of_mem hp;have:=h.h_ i (by simpa using hi);simp only[List.getElem_map]at this;obtain⟨h1,h2⟩:=this;unfold lX at h1;constructor
 .split at h1 <;> omega
 .split at h2
  .omega
  .obtain⟨_,h2⟩:=h2;split at h2 <;> omega
theorem mo{kind lev:Int}{s:Sl}{L:List (aL×aF)}{K:Int->Int->Pw}(r:ny w.heap s L)(hs:L.length<=65536)
  (k0:∀w',aH kind lev (ents L)->Ext No w w'->K ((wr kind lev (ents L)).length:Int) 0 w') (k1:∀c w',¬ aH kind lev (ents L)->c≠0->Ext No w w'->K 0 c w'):fp kind lev s w K:=by
 apply GO;refine af.mk fun b w1 h1=>?_
 have hb:=h1.get;refine⟨_,Cell.ah hb rfl,_,Cell.ah hb rfl,_,Cell.ah hb rfl,jZ (r.no h1.ext) (by omega) (fun w2 hr x2=>If.bne (fun h=>(h rfl).elim) fun _=>?_) (fun c w2 hr hc x2=>If.bne (fun _=>k1 c _ hr hc (h1.ext.no x2)) fun h=>(hc h).elim)⟩;have jN:=ad hb x2;refine⟨_,Cell.ah jN rfl,_,Cell.ah jN rfl,_,Cell.ah jN rfl,AR (r.no (h1.ext.no x2)) (hr.short hs) fun t w3 o3 x3=>?_⟩;rw[aK.len o3];exact k0 _ hr ((h1.ext.no x2).no x3)
def _root_.Go.V.pad(l:List Int):List Int:=l++List.replicate (224 - l.length) 0
theorem _root_.Go.V.Kw{l:List Int}(h:l.length<=224):(pad l).length=224:=by simp[pad];omega
theorem Hn{kind lev:Int}{s:Sl}{L:List (aL×aF)}{K:Sl->Int->Pw}(r:ny w.heap s L)(hs:L.length<=65536)
  (k0:∀t w',aH kind lev (ents L)->(wr kind lev (ents L)).length<=224->aK w'.heap w.heap.size t (pad (wr kind lev (ents L)))->Ext No w w'->K t 0 w')
  (k1:∀c w',¬ (aH kind lev (ents L)/\(wr kind lev (ents L)).length<=224)->c≠0->Ext No w w'->K ⟨none,0,0⟩ c w'):nO kind lev s w K:=by
 apply Cr;refine af.mk fun b w1 h1=>?_
 have hb:=h1.get;refine⟨_,Cell.ah hb rfl,_,Cell.ah hb rfl,_,Cell.ah hb rfl,jZ (r.no h1.ext) (by omega) (fun w2 hr x2=>If.bne (fun h=>(h rfl).elim) fun _=>?_) (fun c w2 hr hc x2=>If.bne (fun _=>k1 c _ (fun h=>hr h.1) hc (h1.ext.no x2)) fun h=>(hc h).elim)⟩;have jN:=ad hb x2;refine⟨_,Cell.ah jN rfl,_,Cell.ah jN rfl,_,Cell.ah jN rfl,AR (r.no (h1.ext.no x2)) (hr.short hs) fun t w3 o3 x3=>?_⟩;have ib:=(h1.ext.no x2).no x3;have hl:=aK.len o3;refine If.dec (fun h=>k1 3 _ (fun h'=>by omega) (by decide) ib) (fun h=>Ar.i64 (by omega) ?_);have e:(224 - (t.len:Int))=((224 - (wr kind lev (ents L)).length:Nat):Int):=by omega
 rw[e];refine Hg (k:= .i64) (ie:=Tryz.t5) (z:= .int .u8 0) (by kernel_rfl) (by kernel_rfl) (by kernel_rfl) (by kernel_rfl) (by kernel_rfl) (by kernel_rfl) rfl (by kernel_rfl) o3 (x3.size) (by omega) fun s' w' o _ x _=>k0 _ _ hr (by omega) (bf.mono (base:=w2.heap.size) ?_ (h1.ext.no x2).size) (ib.trans x fun i hi h=>?_)
 .rw[<- List.map_replicate,<- List.map_append]at o;exact o
 .have:=(o3.lt h).1;have:=(h1.ext.no x2).size;omega
end
end Go.Proofs.YtpjbalhhlaofmaaGreat
set_option maxRecDepth 100000
namespace Go.V
open Go.V.Pk Go.Proofs.YtpjbalhhlaofmaaGreat
structure bX where
 gen:Int
 cm:Int
 wr:List Int
deriving DecidableEq
structure aO where
 ai:Int
 ay:Int
 mark:List Int
 root:Rf
 lev:Int
 au:Int
 held:List bX
deriving DecidableEq
def AS:aO:=⟨0,0,[],.z,0,0,[]⟩
def pM(x:aO):Prop:=x.ai≠0/\1<=x.ay/\x.ay<=1000/\x.mark.length=16/\0<=x.au/\x.au<=x.ay/\(x.au=0 ↔ x.root = .z/\x.lev=0)/\
 ((∃a,x.held=[a]/\a.wr.length=32)∨∃a b,x.held=[a,b]/\a.wr.length=32/\b.wr.length=32/\b.gen=a.gen+1)
def textB(l:List Int):List Int:=numB l.length++l
def cI(h:bX):List Int:=numB h.gen.toNat++(numB h.cm.toNat++textB h.wr)
def eH(x:aO):List Int:=
 numB x.ay.toNat++(numB x.au.toNat++(textB x.mark++(numB x.root.p.toNat++(numB x.root.c.toNat++(numB x.root.g.toNat++(numB x.lev.toNat++(numB x.held.length++x.held.flatMap cI)))))))
structure j_(h:bX):Prop where
 gen:0<=h.gen/\h.gen<=65535
 cm:0<=h.cm/\h.cm<=18446744073709551615
 wr:B8 h.wr
structure vC(x:aO):Prop where
 ai:0<=x.ai/\x.ai<=4294967295
 mark:B8 x.mark
 root:x.root.ok
 lev:0<=x.lev/\x.lev<=255
 held:∀h∈x.held,j_ h
structure ej where
 gen:Int
 cm:Int
 wr:Sl
def ej.cells(v:ej):List Value:=[.int .u16 v.gen,.int .u64 v.cm,.slice v.wr.a v.wr.len v.wr.cap]
structure aV where
 ai:Int
 ay:Int
 mark:Sl
 root:Rf
 lev:Int
 au:Int
 held:Sl
def aV.cells(v:aV):List Value:=[.int .u32 v.ai,.int .i64 v.ay,.slice v.mark.a v.mark.len v.mark.cap,.int .u32 v.root.p,.int .u64 v.root.c,.int .u16 v.root.g,.int .u8 v.lev,.int .i64 v.au,.slice v.held.a v.held.len v.held.cap]
def aR:aV:=⟨0,0,⟨none,0,0⟩,.z,0,0,⟨none,0,0⟩⟩
theorem ej.one(v:ej):∀x∈v.cells,aJ x=true:=by
 intro x hx;simp only[ej.cells,List.mem_cons,List.not_mem_nil,or_false]at hx;rcases hx with rfl | rfl | rfl <;> rfl
theorem aV.one(v:aV):∀x∈v.cells,aJ x=true:=by
 intro x hx;simp only[aV.cells,List.mem_cons,List.not_mem_nil,or_false]at hx;rcases hx with rfl | rfl | rfl | rfl | rfl | rfl | rfl | rfl | rfl <;> rfl
theorem gT.mk{w:Wd}{b o:Nat}{cs vs:List Value}{T:TypeId}{K:Pw}(hb:w.heap[b]? = some (.cells cs.toArray T (0,0)))(ho:o+vs.length<=cs.length)(hv:∀v∈vs,aJ v=true)
  (k:∀w',gB w b (.cells (setL cs o vs).toArray T (0,0)) w'->K w'):gT w ⟨b,o,none⟩ vs K:=
 ⟨cs.toArray,T,(0,0),hb,rfl,by simpa using ho,.inr (.inr (Nat.le_refl _)),hv,fun w' hw=>k w' hw⟩
theorem LM(cs vs:List Value)(h:vs.length=cs.length):setL cs 0 vs=vs:=by
 rw[rZ _ _ _ (by omega),List.take_zero,List.nil_append,Nat.zero_add,h,List.drop_length,List.append_nil]
theorem gT.all{w:Wd}{b:Nat}{cs vs:List Value}{T:TypeId}{K:Pw}(hb:w.heap[b]? = some (.cells cs.toArray T (0,0)))(hl:vs.length=cs.length)(hv:∀v∈vs,aJ v=true)
  (k:∀w',w'.heap[b]? = some (.cells vs.toArray T (0,0))->Ext (·=b) w w'->w'.heap.size=w.heap.size->K w'):gT w ⟨b,0,none⟩ vs K:=
 gT.mk hb (by omega) hv fun w' h=>k w' (by have:=h.get hb;rw[LM _ _ hl]at this;exact this) h.ext h.size
structure pe(Q:Nat->Prop)(h:Array Obj)(s:Sl)(l:List Int):Prop where
 rd:b_ h s l
 q:l≠[]->∀b,s.aj=some b->Q b
theorem pe.ext{Q S:Nat->Prop}{w w':Wd}{s:Sl}{l:List Int}(r:pe Q w.heap s l)(x:Ext S w w')(h:∀b,Q b->¬ S b):pe Q w'.heap s l:=by
 refine⟨?_,r.q⟩;by_cases hl:l=[]
 .subst hl;exact⟨Rd.len r.rd,r.rd.cap,fun h=>(h rfl).elim,by simp⟩
 .exact Rd.ext r.rd x fun a b ha hb=>h b (r.q hl b (by simp[Sl.aj,ha,hb]))
theorem pe.no{Q:Nat->Prop}{w w':Wd}{s:Sl}{l:List Int}(r:pe Q w.heap s l)(x:Ext No w w'):pe Q w'.heap s l:=r.ext x fun _ _=>id
theorem pe.mono{Q Q':Nat->Prop}{h:Array Obj}{s:Sl}{l:List Int}(r:pe Q h s l)(hq:∀b,Q b->Q' b):pe Q' h s l:=⟨r.rd,fun hl b hb=>hq b (r.q hl b hb)⟩
theorem pe.own{Q:Nat->Prop}{h:Array Obj}{base:Nat}{s:Sl}{l:List Int}(o:aK h base s l)(hq:∀b,base<=b->b < h.size->Q b):pe Q h s l:=⟨o.rd,fun _ b hb=>hq b (o.lt hb).1 (o.lt hb).2⟩
theorem pe.nil(Q:Nat->Prop)(h:Array Obj):pe Q h ⟨none,0,0⟩ []:=⟨Rd.nil _ _,fun h=>(h rfl).elim⟩
theorem pe.lt{Q:Nat->Prop}{h:Array Obj}{s:Sl}{l:List Int}(r:pe Q h s l):pe (fun q=>Q q/\q < h.size) h s l:=⟨r.rd,fun hl b hb=>⟨r.q hl b hb,Rd.lt r.rd (by simpa using hl) hb⟩⟩
structure dF(Q:Nat->Prop)(h:Array Obj)(v:ej)(x:bX):Prop where
 gen:v.gen=x.gen
 cm:v.cm=x.cm
 wr:pe Q h v.wr x.wr
theorem dF.ext{Q S:Nat->Prop}{w w':Wd}{v:ej}{x:bX}(r:dF Q w.heap v x)(e:Ext S w w')(h:∀b,Q b->¬ S b):dF Q w'.heap v x:=⟨r.gen,r.cm,r.wr.ext e h⟩
theorem dF.no{Q:Nat->Prop}{w w':Wd}{v:ej}{x:bX}(r:dF Q w.heap v x)(e:Ext No w w'):dF Q w'.heap v x:=r.ext e fun _ _=>id
theorem dF.mono{Q Q':Nat->Prop}{h:Array Obj}{v:ej}{x:bX}(r:dF Q h v x)(hq:∀b,Q b->Q' b):dF Q' h v x:=⟨r.gen,r.cm,r.wr.mono hq⟩
abbrev hC(L:List (ej×bX)):List Value:=L.flatMap fun e=>e.1.cells
theorem AT(L:List (ej×bX)):∀e∈L,e.1.cells.length=3:=fun _ _=>rfl
theorem Y3{L:List (ej×bX)}(h:hC L≠[]):L≠[]:=by rintro rfl;exact h rfl
def cW(Q:Nat->Prop)(h:Array Obj)(s:Sl)(l:List bX):Prop:=∃L:List (ej×bX),L.map Prod.snd=l/\Rd h s 3 (hC L)/\(L≠[]->∀b,s.aj=some b->Q b)/\∀e∈L,dF Q h e.1 e.2
theorem cW.ext{Q S:Nat->Prop}{w w':Wd}{s:Sl}{l:List bX}(r:cW Q w.heap s l)(x:Ext S w w')(h:∀b,Q b->¬ S b):cW Q w'.heap s l:=by
 obtain⟨L,h1,h2,h3,h4⟩:=r;exact⟨L,h1,h2.LI x fun bA b hb=>h b (h3 (Y3 bA) b hb),h3,fun e he=>(h4 e he).ext x h⟩
theorem cW.no{Q:Nat->Prop}{w w':Wd}{s:Sl}{l:List bX}(r:cW Q w.heap s l)(x:Ext No w w'):cW Q w'.heap s l:=r.ext x fun _ _=>id
theorem cW.mono{Q Q':Nat->Prop}{h:Array Obj}{s:Sl}{l:List bX}(r:cW Q h s l)(hq:∀b,Q b->Q' b):cW Q' h s l:=by
 obtain⟨L,h1,h2,h3,h4⟩:=r;exact⟨L,h1,h2,fun bA b hb=>hq b (h3 bA b hb),fun e he=>(h4 e he).mono hq⟩
theorem cW.len{Q:Nat->Prop}{h:Array Obj}{s:Sl}{l:List bX}(r:cW Q h s l):s.len=l.length:=by
 obtain⟨L,h1,h2,h3,h4⟩:=r;have:=h2.len;rw[aS (AT L)]at this;rw[<- h1,List.length_map];omega
theorem cW.nil(Q:Nat->Prop)(h:Array Obj):cW Q h ⟨none,0,0⟩ []:=⟨[],rfl,Rd.nil _ _,fun h=>(h rfl).elim,by simp⟩
theorem cW.lt{Q:Nat->Prop}{h:Array Obj}{s:Sl}{l:List bX}(r:cW Q h s l):cW (fun q=>Q q/\q < h.size) h s l:=by
 obtain⟨L,h1,h2,h3,h4⟩:=r;refine⟨L,h1,h2,fun bA b hb=>⟨h3 bA b hb,Rd.lt h2 (fun e=>?_) hb⟩,fun e he=>⟨(h4 e he).gen,(h4 e he).cm,(h4 e he).wr.lt⟩⟩
 cases L with
 | nil=>exact bA rfl
 | cons p L=>cases e
structure bL(Q:Nat->Prop)(h:Array Obj)(v:aV)(x:aO):Prop where
 ai:v.ai=x.ai
 ay:v.ay=x.ay
 mark:pe Q h v.mark x.mark
 root:v.root=x.root
 lev:v.lev=x.lev
 au:v.au=x.au
 held:cW Q h v.held x.held
theorem bL.ext{Q S:Nat->Prop}{w w':Wd}{v:aV}{x:aO}(r:bL Q w.heap v x)(e:Ext S w w')(h:∀b,Q b->¬ S b):bL Q w'.heap v x:=⟨r.ai,r.ay,r.mark.ext e h,r.root,r.lev,r.au,r.held.ext e h⟩
theorem bL.no{Q:Nat->Prop}{w w':Wd}{v:aV}{x:aO}(r:bL Q w.heap v x)(e:Ext No w w'):bL Q w'.heap v x:=r.ext e fun _ _=>id
theorem bL.mono{Q Q':Nat->Prop}{h:Array Obj}{v:aV}{x:aO}(r:bL Q h v x)(hq:∀b,Q b->Q' b):bL Q' h v x:=⟨r.ai,r.ay,r.mark.mono hq,r.root,r.lev,r.au,r.held.mono hq⟩
theorem bL.lt{Q:Nat->Prop}{h:Array Obj}{v:aV}{x:aO}(r:bL Q h v x):bL (fun q=>Q q/\q < h.size) h v x:=⟨r.ai,r.ay,r.mark.lt,r.root,r.lev,r.au,r.held.lt⟩
theorem bL.zero(Q:Nat->Prop)(h:Array Obj):bL Q h aR AS:=⟨rfl,rfl,.nil _ _,rfl,rfl,rfl,.nil _ _⟩
theorem rC{Q:Nat->Prop}{w:Wd}{s:Sl}{l:List bX}{i:Int}{K:Addr->Prop}(r:cW Q w.heap s l)(h0:0<=i)(h1:i < (s.len:Int))
  (k:∀b o (v:ej) (hi:i.toNat < l.length),dF Q w.heap v l[i.toNat]->(∀j x,v.cells[j]? = some x->Cell w ⟨b,o+j,none⟩ x)->K ⟨b,o,none⟩):Ix s.a s.len i 3 K:=by
 obtain⟨L,h2,h3,h4,h5⟩:=r;refine Ix.elem (f:=fun e:ej×bX=>e.1.cells) h3 (AT L) (by decide) h0 h1 fun b o hi hb hc=>?_
 have hl:L.length=l.length:=by rw[<- h2,List.length_map]
 refine k b o L[i.toNat].1 (by omega) ?_ hc;have e:l[i.toNat]'(by omega)=L[i.toNat].2:=by simp[<- h2]
 rw[e];exact h5 _ (List.getElem_mem hi)
end Go.V
namespace Go.Proofs.YtpjbalhhlaofmaaGreat
open Go.V
section
variable {w:Wd} {Q Q':Nat->Prop}
theorem aq{w:Wd}{b j:Nat}{x:Value}{cs:List Value}{T:TypeId}{fz:Nat×Nat}(g:w.heap[b]? = some (.cells cs.toArray T fz))(h:cs[j]? = some x):ae (Ext No w) ((Addr.mk b 0 none).add j) x:=by
 rw[aw rfl,Nat.zero_add];exact ae.cell (Cell.ah g h)
theorem Dn{w:Wd}{b i j:Nat}{x:Value}{cs:List Value}{T:TypeId}{fz:Nat×Nat}(g:w.heap[b]? = some (.cells cs.toArray T fz))(h:cs[i+j]? = some x):ae (Ext No w) (((Addr.mk b 0 none).add i).add j) x:=by
 rw[aw (a:=Addr.mk b 0 none) rfl,aw rfl,Nat.zero_add];exact ae.cell (Cell.ah g h)
theorem eo{w:Wd}{b:Nat}{x:Value}{cs:List Value}{T:TypeId}{fz:Nat×Nat}(g:w.heap[b]? = some (.cells cs.toArray T fz))(h:cs[0]? = some x):ae (Ext No w) (Addr.mk b 0 none) x:=ae.cell (Cell.ah g h)
theorem eqB{x y:List Int}(hx:B8 x)(hy:B8 y):(Lz x == Lz y)=decide (x=y):=by rw[Bool.eq_iff_iff];simp[Kl hx hy]
theorem rD{a b:Sl}{x y:List Int}{K:Bool->Pw}(ha:b_ w.heap a x)(hb:b_ w.heap b y)(hx:B8 x)(hy:B8 y)(k:K (decide (x=y)) w):df a b w K:=by
 apply Cu;refine iR.mk ha (fun _ _ _ h=>Cell.mk h) (iR.mk hb (fun _ _ _ h=>Cell.mk h) ?_);rw[toList_mk,toList_mk,eqB hx hy];exact k
end
end Go.Proofs.YtpjbalhhlaofmaaGreat
namespace Go.V
theorem Dp{r:Rf}{lev:Int}:((((r.p == 0) && ((r.c == 0) && ((r.g == 0) && true))) && ((lev == 0) && true))=true) ↔ (r = .z/\lev=0):=by
 obtain⟨p,c,g⟩:=r;simp[Rf.z]
theorem zT{r s:Rf}{lev OA:Int}:((((r.p == s.p) && ((r.c == s.c) && ((r.g == s.g) && true))) && ((lev == OA) && true))=true) ↔ (r=s/\lev=OA):=by
 obtain⟨p,c,g⟩:=r;obtain⟨p',c',g'⟩:=s;simp
theorem Ho{l:List bX}(h:l.length=2):∃a b,l=[a,b]:=by
 match l,h with
 | [a,b],_=>exact⟨a,b,rfl⟩
theorem Hp{l:List bX}(h:l.length=1):∃a,l=[a]:=by
 match l,h with
 | [a],_=>exact⟨a,rfl⟩
theorem aO.ext{a b:aO}(h1:a.ai=b.ai)(h2:a.ay=b.ay)(h3:a.mark=b.mark)(h4:a.root=b.root)(h5:a.lev=b.lev)(h6:a.au=b.au)(h7:a.held=b.held):a=b:=by
 cases a;cases b;simp_all
theorem bX.ext{a b:bX}(h1:a.gen=b.gen)(h2:a.cm=b.cm)(h3:a.wr=b.wr):a=b:=by
 cases a;cases b;simp_all
theorem dO{α:Type}{l:List α}{j:Nat}(h:j < l.length):l.take (j+1)=l.take j++[l[j]]:=by
 rw[List.take_succ_eq_append_getElem h]
end Go.V
namespace Go.Proofs.YtpjbalhhlaofmaaGreat
open Go.V
section
variable {w:Wd} {Q Q':Nat->Prop}
theorem xZ{s:Sl}{l:List bX}{K:Bool->Pw}(r:cW Q w.heap s l)(hl:l.length<=1000000000000)(k:∀t w',(t=true ↔ ∃h∈l,h.wr.length≠32)->Ext No w w'->K t w') :
  bB s (.func (.func 61) #[] #[]) w K:=by
 apply fV;apply gO;have LN:=r.len;refine⟨fun m t w'=>∃j:Nat,t=j/\j<=l.length/\m=l.length - j/\(∀h∈l.take j,h.wr.length=32)/\Ext No w w',⟨_,0,rfl,Nat.zero_le _,rfl,by simp,Ext.refl _ _⟩,?_⟩;rintro _ m0 _ w1 ⟨j,rfl,hj,rfl,dT,x1⟩;refine If.dec (fun h=>?_) fun h=>?_
 .refine rC (r.no x1) (by omega) h fun b o v hi hr hc=>?_
  have eO:j < l.length:=hi;have el:l[((j:Nat):Int).toNat]'hi=l[j]:=rfl;rw[el]at hr;refine⟨v.gen,hc 0 _ rfl,v.cm,hc 1 _ rfl,v.wr,hc 2 _ rfl,ES (ER (af.mk fun b1 w2 n2=>⟨v.wr,Cell.ah (cs:=v.cells) n2.get rfl,?_⟩))⟩;have hlw:=b_.len hr.wr.rd;have x2:=x1.no n2.ext;refine If.bne (fun bA=>k _ w2 ?_ x2) fun he=>Ar.i64 (by omega) ⟨_,by omega,j+1,by omega,by omega,rfl,fun h hh=>?_,x2⟩
  .rw[decide_eq_true (by omega)];exact⟨fun _=>⟨_,List.getElem_mem eO,by omega⟩,fun _=>rfl⟩
  .rw[dO eO]at hh;rcases List.mem_append.1 hh with h1 | h1
   .exact dT h h1
   .rw[List.mem_singleton]at h1;rw[h1];omega
 .have x_:j=l.length:=by omega
  rw[x_,List.take_length]at dT;refine k _ w1 ?_ x1;rw[show decide ((-1:Int)≥0)=false from rfl];exact⟨fun h=>(by cases h),fun⟨h,hh,bA⟩=>(bA (dT h hh)).elim⟩
set_option maxHeartbeats 1000000 in
theorem Hq{v:aV}{x:aO}{K:Bool->Pw}(r:bL Q w.heap v x)(rg:∀h∈x.held,j_ h)(hl:x.held.length<=1000000000000)(k:∀t w',(t=true ↔ pM x)->Ext No w w'->K t w'):pt v.ai v.ay v.mark v.root.p v.root.c v.root.g v.lev v.au v.held w K:=by
 apply Je;refine af.mk fun b w1 n1=>?_
 have g1:w1.heap[b]? = some (.cells v.cells.toArray 33 (0,0)):=n1.get;have x1:=n1.ext;have xd:Ext No w (aa w1):=x1.drew;have Rq:Ext No w (aa (aa w1)):=xd.drew;have lm:=b_.len r.mark.rd;have lh:=r.held.len;have et:=r.ai;have eq:=r.ay;have er:=r.root;have ev:=r.lev;have ec:=r.au;have no:∀{w'},Ext No w w'->¬ pM x->K false w':=fun e h=>k _ _ ⟨fun h=>(by cases h),fun h'=>(h h').elim⟩ e
 refine⟨_,Cell.ah g1 rfl,fun t w'=>(t=true ↔ ¬ (x.ai≠0/\1<=x.ay/\x.ay<=1000/\x.mark.length=16))/\w'=w1,
  ⟨_,Cell.ah g1 rfl,If.beq (fun h=>⟨⟨fun _ h'=>by omega,fun _=>rfl⟩,rfl⟩) fun h1=>⟨_,Cell.ah g1 rfl,If.dec (fun h=>⟨⟨fun _ h'=>by omega,fun _=>rfl⟩,rfl⟩) fun h2=>⟨_,Cell.ah g1 rfl,If.dec (fun h=>⟨⟨fun _ h'=>by omega,fun _=>rfl⟩,rfl⟩) fun h3=>⟨_,Cell.ah g1 rfl,⟨?_,rfl⟩⟩⟩⟩⟩,?_⟩
 .rw[bne_iff_ne];exact⟨fun h h'=>by omega,fun h h'=>h ⟨by omega,by omega,by omega,by omega⟩⟩
 rintro _ t w2 ⟨ht,rfl⟩;refine If.cases (fun h=>no x1 fun m=>ht.1 h ⟨m.1,m.2.1,m.2.2.1,m.2.2.2.1⟩) fun h=>?_
 have hA:x.ai≠0/\1<=x.ay/\x.ay<=1000/\x.mark.length=16:=Classical.byContradiction fun c=>by rw[ht.2 c]at h;cases h
 refine⟨fun t w'=>(t=true ↔ ¬ (0<=x.au/\x.au<=x.ay/\(x.au=0 ↔ x.root = .z/\x.lev=0)))/\w'=aa w2,
  ⟨Ext No w2,(Ext.refl _ _).drew,v.au,aq g1 rfl,If.dec (fun h=>⟨⟨fun _ h'=>by omega,fun _=>rfl⟩,rfl⟩) fun h1=>⟨v.au,aq g1 rfl,v.ay,aq g1 rfl,If.dec (fun h=>⟨⟨fun _ h'=>by omega,fun _=>rfl⟩,rfl⟩) fun h2=>⟨v.au,aq g1 rfl,v.root.p,aq g1 rfl,v.root.c,Dn g1 rfl,v.root.g,Dn g1 rfl,v.lev,Dn g1 rfl,⟨?_,rfl⟩⟩⟩⟩,?_⟩
 .have e1:(v.au == 0)=decide (x.au=0):=by rw[ec];rfl
  have e2:((((v.root.p == 0) && ((v.root.c == 0) && ((v.root.g == 0) && true))) && ((v.lev == 0) && true)))=decide (x.root = .z/\x.lev=0):=by rw[Bool.eq_iff_iff,Dp,er,ev,decide_eq_true_iff]
  rw[e1,e2];by_cases c1:x.au=0 <;> by_cases c2:x.root = .z/\x.lev=0 <;> simp[c1,c2] <;> omega
 rintro _ t w3 ⟨ht,rfl⟩;refine If.cases (fun h=>no xd fun m=>ht.1 h ⟨m.2.2.2.2.1,m.2.2.2.2.2.1,m.2.2.2.2.2.2.1⟩) fun h=>?_
 have hB:0<=x.au/\x.au<=x.ay/\(x.au=0 ↔ x.root = .z/\x.lev=0):=Classical.byContradiction fun c=>by rw[ht.2 c]at h;cases h
 have gd:(aa w2).heap[b]? = some (.cells v.cells.toArray 33 (0,0)):=g1
 have len:pM x->x.held.length=1∨x.held.length=2:=fun m=>by
  rcases m.2.2.2.2.2.2.2 with⟨a,h,_⟩ | ⟨a,c,h,_⟩ <;> rw[h] <;> simp
 refine⟨Ext No (aa w2),(Ext.refl _ _).drew,If.dec (fun h=>no Rq fun m=>by have:=len m;omega) fun h1=>If.dec (fun h=>no Rq fun m=>by have:=len m;omega) fun h2=>If.beq (fun h3=>?_) fun h3=>?_⟩
 .obtain⟨a,c,AU⟩:=Ho (l:=x.held) (by omega);have ga:=rg a (by rw[AU];simp);have gc:=rg c (by rw[AU];simp);have hr:cW Q (aa w2).heap v.held [a,c]:=by rw[<- AU];exact r.held.no xd
  have two:x.held.length=2:=by omega
  have Vv:pM x->c.gen=a.gen+1/\a.wr.length=32/\c.wr.length=32:=fun m=>by
   rcases m.2.2.2.2.2.2.2 with⟨a',h,_⟩ | ⟨a',c',h,h1,h2,h3⟩
   .rw[h]at two;cases two
   .rw[AU]at h;cases h;exact⟨h3,h1,h2⟩
  refine⟨v.held,aq gd rfl,rC hr (Int.le_refl _) (by omega) fun b1 o1 u hi hu hc=>⟨u.gen,ae.cell (hc 0 _ rfl),If.beq (fun h=>no Rq fun m=>?_) fun bA=>⟨v.held,aq gd rfl,rC hr (by decide) (by omega) fun b2 o2 u2 uJ Rm LC=>⟨u2.gen,ae.cell (LC 0 _ rfl),v.held,aq gd rfl,rC hr (Int.le_refl _) (by omega) fun b3 o3 u3 Jr Y4 Ss=>⟨u3.gen,ae.cell (Ss 0 _ rfl),?_⟩⟩⟩⟩⟩
  .have:=Vv m;have e:=hu.gen;have e':([a,c][(0:Int).toNat]'hi)=a:=rfl;rw[e']at e;have:=gc.gen;omega
  .have e1:u.gen=a.gen:=hu.gen;have e2:u2.gen=c.gen:=Rm.gen;have e3:u3.gen=a.gen:=Y4.gen;have:=ga.gen;refine Ar.u16 (by omega) (If.bne (fun h=>no Rq fun m=>?_) fun he=>⟨v.held,Cell.ah gd rfl,xZ hr (by simp) fun t w4 ht x4=>k _ w4 ?_ (Rq.no x4)⟩)
   .have:=Vv m;omega
   .have Dh:t=true ↔ ¬ (a.wr.length=32/\c.wr.length=32):=ht.trans ⟨fun⟨h,hh,hn⟩ hb=>by simp at hh;rcases hh with rfl | rfl;exact hn hb.1;exact hn hb.2,fun hb=>Classical.byContradiction fun hc=>hb ⟨Classical.byContradiction fun h1=>hc ⟨a,by simp,h1⟩,Classical.byContradiction fun h1=>hc ⟨c,by simp,h1⟩⟩⟩;constructor
    .intro h;have h0:a.wr.length=32/\c.wr.length=32:=Classical.byContradiction fun hb=>by rw[Dh.2 hb]at h;cases h
     exact⟨hA.1,hA.2.1,hA.2.2.1,hA.2.2.2,hB.1,hB.2.1,hB.2.2,.inr ⟨a,c,AU,h0.1,h0.2,by omega⟩⟩
    .intro m;have:=Vv m
     cases t with
     | false=>rfl
     | true=>exact(Dh.1 rfl ⟨this.2.1,this.2.2⟩).elim
 .obtain⟨a,AU⟩:=Hp (l:=x.held) (by omega);have hr:cW Q (aa (aa w2)).heap v.held [a]:=by rw[<- AU];exact r.held.no Rq
  refine⟨v.held,Cell.ah gd rfl,xZ hr (by simp) fun t w4 ht x4=>k _ w4 ?_ (Rq.no x4)⟩;have Dh:t=true ↔ a.wr.length≠32:=ht.trans ⟨fun⟨h,hh,hn⟩=>by simp at hh;rw[<- hh];exact hn,fun h=>⟨a,by simp,h⟩⟩;constructor
  .intro h;have h0:a.wr.length=32:=Classical.byContradiction fun hb=>by rw[Dh.2 hb]at h;cases h
   exact⟨hA.1,hA.2.1,hA.2.2.1,hA.2.2.2,hB.1,hB.2.1,hB.2.2,.inl ⟨a,AU,h0⟩⟩
  .intro m
   have h0:a.wr.length=32:=by
    rcases m.2.2.2.2.2.2.2 with⟨a',h,h1⟩ | ⟨a',c',h,_⟩
    .rw[AU]at h;cases h;exact h1
    .rw[AU]at h;cases h
   cases t with
   | false=>rfl
   | true=>exact(Dh.1 rfl h0).elim
end
section
variable {w:Wd} {Q Q':Nat->Prop}
theorem Js{va vb:ej}{a c:bX}{K:Bool->Pw}(ra:dF Q w.heap va a)(rb:dF Q' w.heap vb c)(ha:j_ a)(hb:j_ c)(k:∀t w',(t=true ↔ a=c)->Ext No w w'->K t w'):nN va.gen va.cm va.wr vb.gen vb.cm vb.wr w K:=by
 apply Cy;refine af.mk fun b w1 n1=>af.mk fun b1 w2 n2=>?_
 have x2:=n1.ext.no n2.ext;have g1:w2.heap[b]? = some (.cells va.cells.toArray 76 (0,0)):=ad n1.get n2.ext;have g2:w2.heap[b1]? = some (.cells vb.cells.toArray 76 (0,0)):=n2.get;have e1:=ra.gen;have e2:=ra.cm;have f1:=rb.gen;have f2:=rb.cm;have no:∀{w'},Ext No w w'->¬ a=c->K false w':=fun e h=>k _ _ ⟨fun h=>(by cases h),fun h'=>(h h').elim⟩ e
 refine⟨_,Cell.ah g1 rfl,_,Cell.ah g2 rfl,If.beq (fun h1=>⟨_,Cell.ah g1 rfl,_,Cell.ah g2 rfl,If.beq (fun h2=>⟨_,Cell.ah g1 rfl,_,Cell.ah g2 rfl,rD (ra.wr.rd.no x2) (rb.wr.rd.no x2) ha.wr hb.wr (k _ _ ?_ x2)⟩) fun h=>no x2 fun e=>h (by rw[e2,f2,e])⟩) fun h=>no x2 fun e=>h (by rw[e1,f1,e])⟩;rw[decide_eq_true_iff];exact⟨fun h=>bX.ext (by omega) (by omega) h,fun h=>by rw[h]⟩
theorem CD{va vb:ej}{a c:bX}{K:Bool->Pw}(ra:dF Q w.heap va a)(rb:dF Q' w.heap vb c)(ha:j_ a)(hb:j_ c)(k:∀t w',(t=true ↔ a=c)->Ext No w w'->K t w'):pv va.gen va.cm va.wr vb.gen vb.cm vb.wr w K:=by
 apply E_;refine af.mk fun b w1 n1=>af.mk fun b1 w2 n2=>?_
 have x2:=n1.ext.no n2.ext;have g1:w2.heap[b]? = some (.cells va.cells.toArray 76 (0,0)):=ad n1.get n2.ext;have g2:w2.heap[b1]? = some (.cells vb.cells.toArray 76 (0,0)):=n2.get;have e1:=ra.gen;have e2:=ra.cm;have f1:=rb.gen;have f2:=rb.cm;have no:∀{w'},Ext No w w'->¬ a=c->K false w':=fun e h=>k _ _ ⟨fun h=>(by cases h),fun h'=>(h h').elim⟩ e
 refine⟨_,Cell.ah g1 rfl,_,Cell.ah g2 rfl,If.beq (fun h1=>⟨_,Cell.ah g1 rfl,_,Cell.ah g2 rfl,If.beq (fun h2=>⟨_,Cell.ah g1 rfl,iR.mk (ra.wr.rd.no x2) (fun _ _ _ h=>Cell.mk h) ⟨_,Cell.ah g2 rfl,iR.mk (rb.wr.rd.no x2) (fun _ _ _ h=>Cell.mk h) ?_⟩⟩) fun h=>no x2 fun e=>h (by rw[e2,f2,e])⟩) fun h=>no x2 fun e=>h (by rw[e1,f1,e])⟩;rw[toList_mk,toList_mk,eqB ha.wr hb.wr];refine k _ _ ?_ x2;rw[decide_eq_true_iff];exact⟨fun h=>bX.ext (by omega) (by omega) h,fun h=>by rw[h]⟩
theorem vD{α:Type}{l m:List α}{j:Nat}(hj:j < l.length)(hm:l.length=m.length)(h:l.take j=m.take j)(e:l[j]=m[j]'(by omega)):l.take (j+1)=m.take (j+1):=by
 rw[dO hj,dO (by omega),h,e]
set_option maxHeartbeats 1000000 in
theorem Fo{s t:Sl}{l m:List bX}{K:Bool->Pw}(rs:cW Q w.heap s l)(rt:cW Q' w.heap t m)(hl:l.length<=1000000000000)(rl:∀h∈l,j_ h)(rm:∀h∈m,j_ h)(k:∀t w',(t=true ↔ l=m)->Ext No w w'->K t w') :
  aZ s t (.func (.func 65) #[] #[]) w K:=by
 apply dt;have hs:=rs.len;have ht:=rt.len;have no:∀{w'},Ext No w w'->¬ l=m->K false w':=fun e h=>k _ _ ⟨fun h=>(by cases h),fun h'=>(h h').elim⟩ e
 refine If.bne (fun h=>no (Ext.refl _ _) fun e=>h (by rw[hs,ht,e])) fun he=>?_
 have hlm:l.length=m.length:=by omega
 refine⟨fun q i w'=>∃j:Nat,i=j/\j<=l.length/\q=l.length - j/\l.take j=m.take j/\Ext No w w',⟨_,0,rfl,Nat.zero_le _,rfl,by simp,Ext.refl _ _⟩,?_⟩;rintro _ m0 _ w1 ⟨j,rfl,hj,rfl,dT,x1⟩;refine If.dec (fun h=>?_) fun h=>?_
 .refine rC (rs.no x1) (by omega) h fun b o v hi hr hc=>?_
  have eO:j < l.length:=hi;have el:l[((j:Nat):Int).toNat]'hi=l[j]:=rfl;rw[el]at hr;refine⟨v.gen,hc 0 _ rfl,v.cm,hc 1 _ rfl,v.wr,hc 2 _ rfl,af.mk fun b1 w2 n2=>⟨rfl,gT.all n2.get rfl v.one fun w3 g3 x3 _=>?_⟩⟩;have Iz:Ext (·=b1) w2 w3:=x3;have z1:=x1.size;have jk:=n2.at_;have z2:=n2.size;have z3:=Iz.size;have ew:Ext No w1 w3:=n2.ext.trans Iz fun q hq h=>by omega
  have ib:=x1.no ew;refine rC (rt.no ib) (by omega) (by omega) fun b' o' u iO hu B_=>?_
  have em:m[((j:Nat):Int).toNat]'iO=m[j]'(by omega):=rfl;rw[em]at hu;refine⟨u.gen,B_ 0 _ rfl,u.cm,B_ 1 _ rfl,u.wr,B_ 2 _ rfl,af.mk fun b2 w4 n4=>⟨rfl,gT.all n4.get rfl u.one fun w5 g5 x5 _=>?_⟩⟩;have LO:Ext (·=b2) w4 w5:=x5;have jN:=n4.at_;have z4:=n4.size;have OB:Ext No w3 w5:=n4.ext.trans LO fun q hq h=>by omega
  have xY:=ib.no OB;have g35:w5.heap[b1]? = some (.cells v.cells.toArray 76 (0,0)):=ag (ad g3 n4.ext) LO (by omega);refine⟨_,Cell.ah g35 rfl,_,Cell.ah g35 rfl,_,Cell.ah g35 rfl,_,Cell.ah g5 rfl,_,Cell.ah g5 rfl,_,Cell.ah g5 rfl,?_⟩;refine Cz (Js (hr.no (ew.no OB)) (hu.no OB) (rl _ (List.getElem_mem eO)) (rm _ (List.getElem_mem _)) fun t w6 ht6 x6=>If.not (If.cases (fun h1=>Ar.i64 (by omega) ⟨_,by omega,j+1,by omega,by omega,rfl,vD eO hlm dT (ht6.1 h1),xY.no x6⟩) fun h1=>no (xY.no x6) fun e=>?_));subst e;rw[ht6.2 rfl]at h1;cases h1
 .have x_:j=l.length:=by omega
  rw[x_,List.take_length,hlm,List.take_length]at dT;exact k _ w1 ⟨fun _=>dT,fun _=>rfl⟩ x1
set_option maxHeartbeats 1000000 in
theorem sd{va vb:aV}{a c:aO}{K:Bool->Pw}(ra:bL Q w.heap va a)(rb:bL Q' w.heap vb c)(ha:B8 a.mark)(hb:B8 c.mark)(hh:∀h∈a.held,j_ h)(Ys:∀h∈c.held,j_ h)(hl:a.held.length<=1000000000000)
  (k:∀t w',(t=true ↔ a=c)->Ext No w w'->K t w'):iL va.ai va.ay va.mark va.root.p va.root.c va.root.g va.lev va.au va.held vb.ai vb.ay vb.mark vb.root.p vb.root.c vb.root.g vb.lev vb.au vb.held w K:=by
 apply Ha;refine af.mk fun b w1 n1=>af.mk fun b1 w2 n2=>?_
 have x2:=n1.ext.no n2.ext;have g1:w2.heap[b]? = some (.cells va.cells.toArray 33 (0,0)):=ad n1.get n2.ext;have g2:w2.heap[b1]? = some (.cells vb.cells.toArray 33 (0,0)):=n2.get;have no:∀{w'},Ext No w w'->¬ a=c->K false w':=fun e h=>k _ _ ⟨fun h=>(by cases h),fun h'=>(h h').elim⟩ e
 have e1:=ra.ai;have e2:=ra.ay;have e4:=ra.root;have e5:=ra.lev;have e6:=ra.au;have f1:=rb.ai;have f2:=rb.ay;have f4:=rb.root;have f5:=rb.lev;have f6:=rb.au;refine⟨_,Cell.ah g1 rfl,_,Cell.ah g2 rfl,If.beq (fun h1=>⟨_,Cell.ah g1 rfl,_,Cell.ah g2 rfl,If.beq (fun h2=>⟨_,Cell.ah g1 rfl,_,Cell.ah g2 rfl,rD (ra.mark.rd.no x2) (rb.mark.rd.no x2) ha hb (If.dec (fun h3=>⟨_,Cell.ah g1 rfl,_,Cell.ah g1 rfl,_,Cell.ah g1 rfl,_,Cell.ah g1 rfl,_,Cell.ah g2 rfl,_,Cell.ah g2 rfl,_,Cell.ah g2 rfl,_,Cell.ah g2 rfl,If.cases (fun h4=>?_) fun h4=>?_⟩) fun h=>no x2 fun e=>h (by rw[e]))⟩) fun h=>no x2 fun e=>h (by rw[e2,f2,e])⟩) fun h=>no x2 fun e=>h (by rw[e1,f1,e])⟩
 .have hr:=zT.1 h4;rw[e4,f4,e5,f5]at hr;refine⟨_,Cell.ah g1 rfl,_,Cell.ah g2 rfl,If.beq (fun h6=>⟨_,Cell.ah g1 rfl,_,Cell.ah g2 rfl,Fo (ra.held.no x2) (rb.held.no x2) hl hh Ys fun t w3 ht x3=>k t w3 ⟨fun h=>?_,fun h=>ht.2 (by rw[h])⟩ (x2.no x3)⟩) fun h=>no x2 fun e=>h (by rw[e6,f6,e])⟩;exact aO.ext (by omega) (by omega) h3 hr.1 hr.2 (by omega) (ht.1 h)
 .refine no x2 fun e=>?_
  rw[zT.2 ⟨by rw[e4,f4,e],by rw[e5,f5,e]⟩]at h4;cases h4
set_option maxHeartbeats 1000000 in
theorem eG{va vb:aV}{a c:aO}{K:Bool->Pw}(ra:bL Q w.heap va a)(rb:bL Q' w.heap vb c)(ha:B8 a.mark)(hb:B8 c.mark)(hh:∀h∈a.held,j_ h)(Ys:∀h∈c.held,j_ h)(hl:a.held.length<=1000000000000)
  (k:∀t w',(t=true ↔ a=c)->Ext No w w'->K t w'):dz va.ai va.ay va.mark va.root.p va.root.c va.root.g va.lev va.au va.held vb.ai vb.ay vb.mark vb.root.p vb.root.c vb.root.g vb.lev vb.au vb.held w K:=by
 apply Fa;refine af.mk fun b w1 n1=>af.mk fun b1 w2 n2=>?_
 have x2:=n1.ext.no n2.ext;have g1:w2.heap[b]? = some (.cells va.cells.toArray 33 (0,0)):=ad n1.get n2.ext;have g2:w2.heap[b1]? = some (.cells vb.cells.toArray 33 (0,0)):=n2.get;have no:∀{w'},Ext No w w'->¬ a=c->K false w':=fun e h=>k _ _ ⟨fun h=>(by cases h),fun h'=>(h h').elim⟩ e
 have e1:=ra.ai;have e2:=ra.ay;have e4:=ra.root;have e5:=ra.lev;have e6:=ra.au;have f1:=rb.ai;have f2:=rb.ay;have f4:=rb.root;have f5:=rb.lev;have f6:=rb.au;have l1:=ra.held.len;have l2:=rb.held.len;refine⟨fun w'=>w'=w2/\a.ai=c.ai/\a.ay=c.ay/\a.mark=c.mark/\a.root=c.root/\a.lev=c.lev/\a.au=c.au/\a.held.length=c.held.length,?_,?_⟩
 .refine⟨_,Cell.ah g1 rfl,_,Cell.ah g2 rfl,If.bne (fun h=>no x2 fun e=>h (by rw[e1,f1,e])) fun h1=>⟨_,Cell.ah g1 rfl,_,Cell.ah g2 rfl,If.bne (fun h=>no x2 fun e=>h (by rw[e2,f2,e])) fun h2=>⟨_,Cell.ah g1 rfl,iR.mk (ra.mark.rd.no x2) (fun _ _ _ h=>Cell.mk h) ⟨_,Cell.ah g2 rfl,iR.mk (rb.mark.rd.no x2) (fun _ _ _ h=>Cell.mk h) ?_⟩⟩⟩⟩;rw[toList_mk,toList_mk,eqB ha hb];refine If.not (If.dec (fun h3=>⟨_,Cell.ah g1 rfl,_,Cell.ah g1 rfl,_,Cell.ah g1 rfl,_,Cell.ah g1 rfl,_,Cell.ah g2 rfl,_,Cell.ah g2 rfl,_,Cell.ah g2 rfl,_,Cell.ah g2 rfl,If.not (If.cases (fun h4=>?_) fun h4=>?_)⟩) fun h=>no x2 fun e=>h (by rw[e]))
  .have hr:=zT.1 h4;rw[e4,f4,e5,f5]at hr;exact⟨_,Cell.ah g1 rfl,_,Cell.ah g2 rfl,If.bne (fun h=>no x2 fun e=>h (by rw[e6,f6,e])) fun h6=>⟨_,Cell.ah g1 rfl,_,Cell.ah g2 rfl,If.bne (fun h=>no x2 fun e=>h (by rw[l1,l2,e])) fun h7=>⟨rfl,by omega,by omega,h3,hr.1,hr.2,by omega,by omega⟩⟩⟩
  .refine no x2 fun e=>?_
   rw[zT.2 ⟨by rw[e4,f4,e],by rw[e5,f5,e]⟩]at h4;cases h4
 rintro _ w3 ⟨rfl,q1,q2,q3,q4,q5,q6,q7⟩;refine⟨fun q i w'=>∃j:Nat,i=j/\j<=a.held.length/\q=a.held.length - j/\a.held.take j=c.held.take j/\Ext No w3 w',⟨_,0,rfl,Nat.zero_le _,rfl,by simp,Ext.refl _ _⟩,?_⟩;rintro _ m0 _ w4 ⟨j,rfl,hj,rfl,dT,x4⟩;have jH:=ad g1 x4;have se:=ad g2 x4;have fg:=x2.no x4;refine⟨va.held,Cell.ah jH rfl,If.dec (fun h=>?_) fun h=>?_⟩
 .refine⟨Ext No w4,(Ext.refl _ _).drew,va.held,aq jH rfl,rC (ra.held.no fg) (by omega) h fun bb o v hi hr hc=>⟨v.gen,ae.cell (hc 0 _ rfl),v.cm,ae.cell (hc 1 _ rfl),v.wr,ae.cell (hc 2 _ rfl),vb.held,aq se rfl,rC (rb.held.no fg) (by omega) (by omega) fun b' o' u iO hu B_=>⟨u.gen,ae.cell (B_ 0 _ rfl),u.cm,ae.cell (B_ 1 _ rfl),u.wr,ae.cell (B_ 2 _ rfl),?_⟩⟩⟩;have eO:j < a.held.length:=hi;have el:a.held[((j:Nat):Int).toNat]'hi=a.held[j]:=rfl;have em:c.held[((j:Nat):Int).toNat]'iO=c.held[j]'(by omega):=rfl;rw[el]at hr;rw[em]at hu
  refine CD (hr.no (Ext.refl _ _).drew) (hu.no (Ext.refl _ _).drew) (hh _ (List.getElem_mem eO)) (Ys _ (List.getElem_mem _)) fun t w5 ht x5=>⟨x5.ar,If.not (If.cases (fun h1=>Ar.i64 (by omega) ⟨_,by omega,j+1,by omega,by omega,rfl,vD eO q7 dT (ht.1 h1),x4.no x5.ar⟩) fun h1=>no (fg.no x5.ar) fun e=>?_)⟩
  subst e;rw[ht.2 rfl]at h1;cases h1
 .have x_:j=a.held.length:=by omega
  rw[x_,List.take_length,q7,List.take_length]at dT;exact k _ w4 ⟨fun _=>aO.ext q1 q2 q3 q4 q5 q6 dT,fun _=>rfl⟩ fg
set_option maxHeartbeats 1000000 in
theorem rE{v:aV}{x:aO}{K:Bool->Pw}(r:bL Q w.heap v x)(rg:∀h∈x.held,j_ h)(hl:x.held.length<=1000000000000)(k:∀t w',(t=true ↔ pM x)->Ext No w w'->K t w'):kH v.ai v.ay v.mark v.root.p v.root.c v.root.g v.lev v.au v.held w K:=by
 apply GZ;refine af.mk fun b w1 n1=>?_
 have g1:w1.heap[b]? = some (.cells v.cells.toArray 33 (0,0)):=n1.get;have x1:=n1.ext;have xd:Ext No w (aa w1):=x1.drew;have lm:=b_.len r.mark.rd;have lh:=r.held.len;have et:=r.ai;have eq:=r.ay;have er:=r.root;have ev:=r.lev;have ec:=r.au;have no:∀{w'},Ext No w w'->¬ pM x->K false w':=fun e h=>k _ _ ⟨fun h=>(by cases h),fun h'=>(h h').elim⟩ e
 have len:pM x->x.held.length=1∨x.held.length=2:=fun m=>by
  rcases m.2.2.2.2.2.2.2 with⟨a,h,_⟩ | ⟨a,c,h,_⟩ <;> rw[h] <;> simp
 have e1:(v.au == 0)=decide (x.au=0):=by rw[ec];rfl
 have e2:((((v.root.p == 0) && ((v.root.c == 0) && ((v.root.g == 0) && true))) && ((v.lev == 0) && true)))=decide (x.root = .z/\x.lev=0):=by rw[Bool.eq_iff_iff,Dp,er,ev,decide_eq_true_iff]
 refine⟨fun w'=>w'=aa w1/\(x.ai≠0/\1<=x.ay/\x.ay<=1000/\x.mark.length=16)/\(0<=x.au/\x.au<=x.ay/\(x.au=0 ↔ x.root = .z/\x.lev=0))/\(x.held.length=1∨x.held.length=2),?_,?_⟩
 .refine⟨Ext No w1,(Ext.refl _ _).drew,v.ai,eo g1 rfl,If.beq (fun h=>no xd fun m=>m.1 (by omega)) fun h1=>⟨v.ay,aq g1 rfl,If.dec (fun h=>no xd fun m=>by have:=m.2.1;omega) fun h2=>⟨v.ay,aq g1 rfl,If.dec (fun h=>no xd fun m=>by have:=m.2.2.1;omega) fun h3=>⟨v.mark,aq g1 rfl,If.bne (fun h=>no xd fun m=>by have:=m.2.2.2.1;omega) fun h4=>⟨v.au,aq g1 rfl,If.dec (fun h=>no xd fun m=>by have:=m.2.2.2.2.1;omega) fun h5=>⟨v.au,aq g1 rfl,v.ay,aq g1 rfl,If.dec (fun h=>no xd fun m=>by have:=m.2.2.2.2.2.1;omega) fun h6=>⟨v.root.p,aq g1 rfl,v.root.c,Dn g1 rfl,v.root.g,Dn g1 rfl,v.lev,Dn g1 rfl,v.au,aq g1 rfl,?_⟩⟩⟩⟩⟩⟩⟩;rw[e1,e2];refine If.not (If.cases (fun h=>?_) fun h=>no xd fun m=>?_)
  .have hc:(x.au=0 ↔ x.root = .z/\x.lev=0):=by
    have:=beq_iff_eq.1 h;rw[Bool.eq_iff_iff,decide_eq_true_iff,decide_eq_true_iff]at this;exact this.symm
   exact⟨v.held,aq g1 rfl,If.dec (fun h=>no xd fun m=>by have:=len m;omega) fun h7=>⟨v.held,aq g1 rfl,If.dec (fun h=>no xd fun m=>by have:=len m;omega) fun h8=>⟨rfl,⟨by omega,by omega,by omega,by omega⟩,⟨by omega,by omega,hc⟩,by omega⟩⟩⟩
  .have hc:=m.2.2.2.2.2.2.1;rw[show decide (x.au=0)=decide (x.root = .z/\x.lev=0) from decide_eq_decide.2 hc]at h;simp at h
 rintro _ w2 ⟨rfl,hA,hB,hlen⟩;refine⟨fun q i w'=>∃j:Nat,i=j/\j<=x.held.length/\q=x.held.length - j/\(∀h∈x.held.take j,h.wr.length=32)/\w'=aa w1,⟨_,0,rfl,Nat.zero_le _,rfl,by simp,rfl⟩,?_⟩;rintro _ m0 _ w3 ⟨j,rfl,hj,rfl,dT,rfl⟩;have gd:(aa w1).heap[b]? = some (.cells v.cells.toArray 33 (0,0)):=g1;refine⟨v.held,Cell.ah gd rfl,If.dec (fun h=>⟨v.held,Cell.ah gd rfl,rC (r.held.no xd) (by omega) h fun bb o u hi hr hc=>⟨u.wr,hc 2 _ rfl,?_⟩⟩) fun h=>?_⟩
 .have eO:j < x.held.length:=hi;have el:x.held[((j:Nat):Int).toNat]'hi=x.held[j]:=rfl;rw[el]at hr;have hlw:=b_.len hr.wr.rd;refine If.bne (fun h=>no xd fun m=>?_) fun he=>Ar.i64 (by omega) ⟨_,by omega,j+1,by omega,by omega,rfl,fun h hh=>?_,rfl⟩
  .have cN:x.held[j]∈x.held:=List.getElem_mem eO
   have h32:x.held[j].wr.length=32:=by
    generalize x.held[j]=h0 at cN ⊢;rcases m.2.2.2.2.2.2.2 with⟨a,h,h1⟩ | ⟨a,c,h,h1,h2,_⟩ <;> rw[h]at cN <;> simp at cN
    .rw[cN];exact h1
    .rcases cN with e | e <;> rw[e] <;> assumption
   omega
  .rw[dO eO]at hh;rcases List.mem_append.1 hh with h1 | h1
   .exact dT h h1
   .rw[List.mem_singleton]at h1;rw[h1];omega
 .have x_:j=x.held.length:=by omega
  rw[x_,List.take_length]at dT;have Rq:Ext No w (aa (aa w1)):=xd.drew;refine⟨Ext No (aa w1),(Ext.refl _ _).drew,v.held,aq gd rfl,If.beq (fun h1=>?_) fun h1=>?_⟩
  .obtain⟨a,AU⟩:=Hp (l:=x.held) (by omega);exact k _ _ ⟨fun _=>⟨hA.1,hA.2.1,hA.2.2.1,hA.2.2.2,hB.1,hB.2.1,hB.2.2,.inl ⟨a,AU,dT a (by rw[AU];simp)⟩⟩,fun _=>rfl⟩ Rq
  .obtain⟨a,c,AU⟩:=Ho (l:=x.held) (by omega);have hr:cW Q (aa w1).heap v.held [a,c]:=by rw[<- AU];exact r.held.no xd
   have ga:=(rg a (by rw[AU];simp)).gen;have gc:=(rg c (by rw[AU];simp)).gen;have two:x.held.length=2:=by omega
   refine⟨v.held,aq gd rfl,rC hr (by decide) (by omega) fun b2 o2 u2 uJ Rm LC=>⟨u2.gen,ae.cell (LC 0 _ rfl),?_⟩⟩;have e2':u2.gen=c.gen:=Rm.gen;refine Ar.i64 (by omega) ⟨v.held,aq gd rfl,rC hr (Int.le_refl _) (by omega) fun b3 o3 u3 Jr Y4 Ss=>⟨u3.gen,ae.cell (Ss 0 _ rfl),?_⟩⟩;have e3':u3.gen=a.gen:=Y4.gen;refine Ar.i64 (by omega) (Ar.i64 (by omega) (k _ _ ?_ Rq));rw[beq_iff_eq];constructor
   .intro h;exact⟨hA.1,hA.2.1,hA.2.2.1,hA.2.2.2,hB.1,hB.2.1,hB.2.2,.inr ⟨a,c,AU,dT a (by rw[AU];simp),dT c (by rw[AU];simp),by omega⟩⟩
   .intro m;rcases m.2.2.2.2.2.2.2 with⟨a',h,_⟩ | ⟨a',c',h,h2,h3,h4⟩
    .rw[h]at two;cases two
    .rw[AU]at h;cases h;omega
end
end Go.Proofs.YtpjbalhhlaofmaaGreat
namespace Go.V
variable {α:Type} [DecidableEq α]
def mL(a:α):List (α×Value)->Nat->Option (Nat×Value)
 | [],_=>none
 | p::m,i=>if a=p.1 then some (i,p.2) else mL a m (i+1)
def Hr(a:α):List (α×Value)->Option Value
 | []=>none
 | p::m=>if a=p.1 then some p.2 else Hr a m
def AV(a:α)(v:Value):List (α×Value)->List (α×Value)
 | []=>[(a,v)]
 | p::m=>if a=p.1 then(a,v)::m else p::AV a v m
def CE(a:α):List (α×Value)->List (α×Value)
 | []=>[]
 | p::m=>if a=p.1 then m else p::CE a m
structure AW(P:Program)(kt:TypeId)(enc:α->Value):Prop where
 ck:∀b a w,(Instr.checkKey b 10000 kt (enc a)).run P w = .ok () w
 fk:∀a (es:List MapEntry) (m:List (α×Value)) w,es.map (fun e=>(e.key,e.val))=m.map (fun p=>(enc p.1,p.2))->(Instr.findKey kt (enc a) es).run P w = .ok (mL a m 0) w
 st:∀a,Instr.sameBits 10000 (enc a) (enc a)=true
def gP(es:List MapEntry)(clock:Nat):Prop:=(es.map (·.born)).Nodup/\∀e∈es,e.born < clock
theorem gP.nil:gP [] 0:=⟨.nil,fun _ h=>nomatch h⟩
theorem gP.push{es:List MapEntry}{clock:Nat}(h:gP es clock)(k v:Value):gP (es++[{ key:=k,val:=v,born:=clock }]) (clock+1):=by
 refine⟨?_,fun e he=>?_⟩
 .rw[List.map_append];refine List.nodup_append.2 ⟨h.1,by simp,fun a ha b hb=>?_⟩;simp only[List.map_cons,List.map_nil,List.mem_singleton]at hb;obtain⟨e,he,rfl⟩:=List.mem_map.1 ha;have:=h.2 e he;omega
 .rcases List.mem_append.1 he with h1 | h1
  .have:=h.2 e h1;omega
  .rw[List.mem_singleton]at h1;subst h1;exact Nat.lt_succ_self _
theorem gP.as{es Y5:List MapEntry}{clock:Nat}(h:gP es clock)(e:Y5.map (·.born)=es.map (·.born)):gP Y5 clock:=by
 refine⟨e ▸ h.1,fun x hx=>?_⟩;have:x.born∈es.map (·.born):=e ▸ List.mem_map.2 ⟨x,hx,rfl⟩;obtain⟨y,hy,hb⟩:=List.mem_map.1 this;rw[<- hb];exact h.2 y hy
theorem gP.sub{es Y5:List MapEntry}{clock:Nat}(h:gP es clock)(e:Y5.Sublist es):gP Y5 clock:=⟨h.1.sublist (e.map _),fun x hx=>h.2 x (e.subset hx)⟩
def uc(h:Array Obj)(enc:α->Value)(r:Nat)(m:List (α×Value)):Prop:=∃es clock,h[r]? = some (.map es clock)/\es.toList.map (fun e=>(e.key,e.val))=m.map (fun p=>(enc p.1,p.2))/\gP es.toList clock
theorem Dq(a:α):∀(m:List (α×Value))(i:Nat),(mL a m i).map Prod.snd=Hr a m
 | [],_=>rfl
 | p::m,i=>by
  unfold mL Hr;split
  .rfl
  .exact Dq a m (i+1)
theorem ud{a:α}{v:Value}:∀{m:List (α×Value)}{i:Nat},mL a m i=none->AV a v m=m++[(a,v)]/\CE a m=m
 | [],_,_=>⟨rfl,rfl⟩
 | p::m,i,h=>by
  unfold mL at h;split at h
  .cases h
  .rename_i hn;have:=ud (v:=v) h;unfold AV CE;rw[if_neg hn,if_neg hn,this.1,this.2];exact⟨rfl,rfl⟩
theorem ue{a:α}:∀{m:List (α×Value)}{i j:Nat}{u v:Value},mL a m i=some (j,u)->i<=j/\j - i < m.length/\AV a v m=m.set (j - i) (a,v)/\CE a m=m.eraseIdx (j - i)/\(m[j - i]?).map Prod.fst=some a
 | [],_,_,_,_,h=>by cases h
 | p::m,i,j,u,v,h=>by
  unfold mL at h;split at h
  .rename_i hn
   cases h
   refine⟨Nat.le_refl _,by simp,?_,?_,?_⟩
   .unfold AV;rw[if_pos hn];simp
   .unfold CE;rw[if_pos hn];simp
   .simp[hn]
  .rename_i hn;obtain⟨h1,h2,h3,h4,h5⟩:=ue (v:=v) h;have e:j - i=(j - (i+1))+1:=by omega
   refine⟨by omega,by simp;omega,?_,?_,?_⟩
   .unfold AV;rw[if_neg hn,h3,e];rfl
   .unfold CE;rw[if_neg hn,h4,e];rfl
   .rw[e];simpa using h5
theorem nU{β γ:Type}(f:β->γ):∀(l:List β)(i:Nat),(l.eraseIdx i).map f=(l.map f).eraseIdx i
 | [],_=>rfl
 | _::_,0=>rfl
 | x::l,i+1=>by simp[nU f l i]
section
variable {P:Program} {w:Wd} {mt kt et:TypeId} {enc:α->Value} {r:Nat} {m:List (α×Value)} {a:α}
theorem fG{es:Array MapEntry}{clock:Nat}(h:w.heap[r]? = some (.map es clock)):(getObj r).run P w = .ok (.map es clock) w:=by
 simp[getObj,Sem.run,h]
theorem pN{es:Array MapEntry}{clock:Nat}(o:Obj)(h:w.heap[r]? = some (.map es clock)):(setObj r o).run P w = .ok () (World.cP w r o):=by
 simp[setObj,Sem.run,h,World.cP]
theorem AX(K:AW P kt enc)(ht:P.underlying mt=some (.map kt et)){z:Value}(hz:(zeroValue et).run P w = .ok z w)(h:uc w.heap enc r m):(Instr.lookup mt (.map (some r)) (enc a) false).run P w = .ok ((Hr a m).getD z) w:=by
 obtain⟨es,clock,hb,he,hB⟩:=h;have hf:=K.fk a es.toList m w he;have hg:=Dq a m 0;simp only[Instr.lookup,Sem.run_bind,aB ht,Result.andThen_ok,fG hb,K.ck,hf,Sem.run_pure]
 cases NA:mL a m 0 with
 | none=>rw[NA]at hg;simp[<- hg,hz]
 | some p=>rw[NA]at hg;simp[<- hg]
theorem ta(K:AW P kt enc)(ht:P.underlying mt=some (.map kt et)){v:Value}(h:uc w.heap enc r m):∃w',(Instr.mapUpdate mt (.map (some r)) (enc a) v).run P w = .ok () w'/\uc w'.heap enc r (AV a v m)/\Ext (·=r) w w'/\w'.heap.size=w.heap.size:=by
 obtain⟨es,clock,hb,he,hB⟩:=h;have hf:=K.fk a es.toList m w he
 cases NA:mL a m 0 with
 | none=>
  refine⟨World.cP w r (.map (es.push { key:=enc a,val:=v,born:=clock }) (clock+1)),?_,⟨_,_,dZ hb,?_,by rw[Array.toList_push];exact hB.push _ _⟩,gB.ext rfl,gB.size rfl⟩
  .rw[NA]at hf;simp[Instr.mapUpdate,aB ht,fG hb,K.ck,hf,pN _ hb]
  .rw[(ud (v:=v) NA).1];simp[he]
 | some p=>
  obtain⟨j,u⟩:=p;obtain⟨_,h2,h3,_,h5⟩:=ue (v:=v) NA;simp only[Nat.sub_zero]at h2 h3 h5;have hl:es.size=m.length:=by have:=congrArg List.length he;simpa using this
  have hk:((es[j]?).map (·.key)).getD (enc a)=enc a:=by
   have:=congrArg (fun l=>(l[j]?).map Prod.fst) he;simp only[List.getElem?_map,Option.map_map]at this
   have e2:Option.map (fun x=>enc x.1) m[j]? = some (enc a):=by
    cases hm:m[j]? with
    | none=>rw[hm]at h5;cases h5
    | some q=>rw[hm]at h5;simp only[Option.map_some,Option.some.injEq]at h5 ⊢;rw[h5]
   have e3:Option.map (·.key) es[j]? = some (enc a):=by
    rw[<- e2];simpa[Function.comp_def] using this
   rw[e3];rfl
  refine⟨World.cP w r (.map (es.modify j fun e=>{ e with key:=enc a,val:=v }) clock),?_,⟨_,_,dZ hb,?_,hB.as ?_⟩,gB.ext rfl,gB.size rfl⟩
  .rw[NA]at hf;simp[Instr.mapUpdate,aB ht,fG hb,K.ck,hf,pN _ hb,hk,Instr.keyThatStays,K.st]
  .rw[h3,Array.toList_modify];apply List.ext_getElem?;intro i;have hi:=congrArg (fun l=>l[i]?) he;simp only[List.getElem?_map,List.getElem?_modify,List.getElem?_set]at hi ⊢;by_cases Fp:j=i
   .subst Fp;rw[if_pos rfl,if_pos h2,List.getElem?_eq_getElem (by simpa[hl] using h2)];simp
   .rw[if_neg Fp];simpa[Fp] using hi
  .rw[Array.toList_modify];apply List.ext_getElem?;intro i;simp only[List.getElem?_map,List.getElem?_modify];by_cases Fp:j=i
   .subst Fp;cases es.toList[j]? <;> simp
   .simp[Fp]
theorem Jt(K:AW P kt enc)(ht:P.underlying mt=some (.map kt et)){t:TypeId}(h:uc w.heap enc r m):∃w',(Builtin.delete_ #[mt,kt] t #[.map (some r),enc a]).run P w = .ok (.tuple #[]) w'/\uc w'.heap enc r (CE a m)/\Ext (·=r) w w'/\w'.heap.size=w.heap.size:=by
 obtain⟨es,clock,hb,he,hB⟩:=h;have hf:=K.fk a es.toList m w he
 cases NA:mL a m 0 with
 | none=>
  refine⟨World.cP w r (.map es clock),?_,⟨_,_,dZ hb,?_,hB⟩,gB.ext rfl,gB.size rfl⟩
  .rw[NA]at hf;simp[Builtin.delete_,aB ht,fG hb,K.ck,hf,pN _ hb]
  .rw[(ud (v:= .nilFunc) NA).2];exact he
 | some p=>
  obtain⟨j,u⟩:=p;obtain⟨_,h2,_,h4,_⟩:=ue (v:= .nilFunc) NA;simp only[Nat.sub_zero]at h2 h4;refine⟨World.cP w r (.map (es.eraseIdxIfInBounds j) clock),?_,⟨_,_,dZ hb,?_,hB.sub (by rw[Array.toList_eraseIdxIfInBounds];exact List.eraseIdx_sublist _ _)⟩,gB.ext rfl,gB.size rfl⟩
  .rw[NA]at hf;simp[Builtin.delete_,aB ht,fG hb,K.ck,hf,pN _ hb]
  .rw[h4,Array.toList_eraseIdxIfInBounds,nU,he,nU]
omit [DecidableEq α] in
theorem uc.ext{S:Nat->Prop}{w':Wd}(h:uc w.heap enc r m)(x:Ext S w w')(hS:¬ S r):uc w'.heap enc r m:=by
 obtain⟨es,clock,hb,he,hB⟩:=h;exact⟨es,clock,by rw[x.aj r (by rcases Nat.lt_or_ge r w.heap.size with k | k;exact k;rw[Array.getElem?_eq_none k]at hb;cases hb) hS];exact hb,he,hB⟩
theorem Su{k:IntKind}(hk:P.underlying kt=some (.int k)):AW P kt (fun a:Int=>Value.int k a):=by
 refine⟨fun b a w=>?_,fun a es m w he=>?_,fun a=>by simp[Instr.sameBits]⟩
 .rw[show(10000:Nat)=9999+1 from rfl,Instr.checkKey];simp only[Sem.run_bind,aB hk,Result.andThen_ok];rfl
 .have:∀(es:List MapEntry)(m:List (Int×Value))(i:Nat),es.map (fun e=>(e.key,e.val))=m.map (fun p=>(Value.int k p.1,p.2))->Instr.findNow (.int k) (.int k a) es i=some (mL a m i):=by
   intro es
   induction es with
   | nil=>intro m i h;cases m with | nil=>rfl | cons=>cases h
   | cons e es ih=>
    intro m i h
    cases m with
    | nil=>cases h
    | cons p m=>
     simp only[List.map_cons,List.cons.injEq,Prod.mk.injEq]at h;unfold Instr.findNow mL;rw[h.1.1];simp only[Instr.sameNow,if_true];by_cases Ny:a=p.1
     .simp[Ny,h.1.2]
     .rw[show(a == p.1)=false by simp[Ny],if_neg Ny];exact ih m (i+1) h.2
  simp[Instr.findKey,aB hk,this es m 0 he]
theorem OC(a b:ByteArray):(a == b)=decide (a=b):=by
 obtain⟨a⟩:=a;obtain⟨b⟩:=b;show(a == b)=_;by_cases h:a=b
 .subst h;simp
 .rw[decide_eq_false (by simpa using h)];simpa using h
theorem Sv(hk:P.underlying kt=some .string):AW P kt (fun a:ByteArray=>Value.string a):=by
 refine⟨fun b a w=>?_,fun a es m w he=>?_,fun a=>by simp[Instr.sameBits,OC]⟩
 .rw[show(10000:Nat)=9999+1 from rfl,Instr.checkKey];simp only[Sem.run_bind,aB hk,Result.andThen_ok];rfl
 .have:∀(es:List MapEntry)(m:List (ByteArray×Value))(i:Nat),es.map (fun e=>(e.key,e.val))=m.map (fun p=>(Value.string p.1,p.2))->Instr.findNow .string (.string a) es i=some (mL a m i):=by
   intro es
   induction es with
   | nil=>intro m i h;cases m with | nil=>rfl | cons=>cases h
   | cons e es ih=>
    intro m i h
    cases m with
    | nil=>cases h
    | cons p m=>
     simp only[List.map_cons,List.cons.injEq,Prod.mk.injEq]at h;unfold Instr.findNow mL;rw[h.1.1];simp only[Instr.sameNow,OC];by_cases Ny:a=p.1
     .simp[Ny,h.1.2]
     .simp only[Ny,decide_false,if_false];exact ih m (i+1) h.2
  simp[Instr.findKey,aB hk,this es m 0 he]
end
section
variable {P:Program} {w:Wd} {mt kt et:TypeId} {r it clock:Nat} {es:Array MapEntry} {seen:Array Nat}
theorem LP(ht:P.underlying mt=some (.map kt et))(h:w.heap[r]? = some (.map es clock)):∃w',(Instr.range mt (.map (some r))).run P w = .ok (.pointer (some ⟨w.heap.size,0,none⟩)) w'/\Da w (.mapIter (some r) clock #[] clock) w.heap.size w':=by
 refine⟨_,?_,rfl,rfl⟩;simp[Instr.range,aB ht,fG h,newObj,Sem.run];rfl
theorem Hs{n:Nat}(h:1<=n):∃i w',(choose (.mapNext n)).run P w = .ok i w'/\i < n/\w'.heap=w.heap/\Ext No w w':=by
 rcases Nat.lt_or_ge 1 n with h1 | h1
 .refine⟨w.tape w.drawn (.mapNext n) % n,aa w,?_,Nat.mod_lt _ (by omega),rfl,(Ext.refl _ _).drew⟩;simp[choose,Sem.run,Question.forced,Question.cut,aa,show ¬ n<=1 by omega]
 .refine⟨0,w,?_,by omega,rfl,Ext.refl _ _⟩;simp[choose,Sem.run,Question.forced,h1]
theorem OD(hi:w.heap[it]? = some (.mapIter (some r) clock seen clock))(h:w.heap[r]? = some (.map es clock))(hB:gP es.toList clock) :
  ((∀e∈es.toList,e.born∈seen.toList)/\∃w',(Instr.next (.pointer (some ⟨it,0,none⟩)) false 0).run P w = .ok (.tuple #[.bool false]) w'/\Ext No w w')∨
  ∃e∈es.toList,e.born ∉ seen.toList/\∃w',(Instr.next (.pointer (some ⟨it,0,none⟩)) false 0).run P w = .ok (.tuple #[.bool true,e.key,e.val]) w'/\w'.heap[it]? = some (.mapIter (some r) clock (seen.push e.born) clock)/\Ext (·=it) w w':=by
 have TW:(!seen.isEmpty && !es.isEmpty && es.all (fun e=>decide (e.born≥clock)))=false:=by
  cases he:es.isEmpty with
  | true=>simp
  | false=>
   have bA:es.size≠0:=by simpa using he
   have:es.all (fun e=>decide (e.born≥clock))=false:=by
    rw[Array.all_eq_false];refine⟨0,by omega,?_⟩;have:=hB.2 es[0] (by simp);simp;omega
   simp[this]
 have hgi:(getObj it).run P w = .ok (.mapIter (some r) clock seen clock) w:=by simp[getObj,Sem.run,hi]
 have hold:∀e∈(es.filter fun e=>!seen.contains e.born),decide (e.born < clock)=true:=fun e he=>by
  have:=(Array.mem_filter.1 he).1;have:=hB.2 e (by simpa using this);simpa using this
 have h1:(es.filter fun e=>!seen.contains e.born).filter (fun e=>decide (e.born < clock))=es.filter fun e=>!seen.contains e.born:=Array.filter_eq_self.2 hold
 have h2:(es.filter fun e=>!seen.contains e.born).filter (fun e=>decide (e.born≥clock))=#[]:=Array.filter_eq_empty_iff.2 fun e he=>by
  have:=hold e he;simp at this ⊢;omega
 generalize Kx:(es.filter fun e=>!seen.contains e.born)=left at *;rcases Nat.eq_zero_or_pos left.size with h0 | h0
 .refine .inl ⟨fun e he=>?_,?_⟩
  .have hm:e ∉ left:=by rw[Array.eq_empty_of_size_eq_zero h0];simp
   rw[<- Kx,Array.mem_filter]at hm;simp only[Array.mem_toList_iff]at he ⊢;simpa[he] using hm
  .obtain⟨i,w',hc,cF,_,hx⟩:=Hs (P:=P) (w:=w) (n:=1) (Nat.le_refl _);have hi0:i=0:=by omega
   subst hi0;have Y6:left=#[]:=Array.eq_empty_of_size_eq_zero h0;refine⟨w',?_,hx⟩;simp only[Instr.next,Sem.run_bind,Result.andThen_ok,hgi,fG h,TW,Bool.false_eq_true,if_false,Kx,h1,h2];subst Y6;simp[hc,-run_choose]
 .obtain⟨i,w',hc,cF,hh,hx⟩:=Hs (P:=P) (w:=w) (n:=left.size) h0;have bA:left.isEmpty=false:=by simpa using(fun h=>by rw[h]at h0;simp at h0:¬ left=#[])
  have cN:left[i]∈es.filter fun e=>!seen.contains e.born:=by rw[Kx];exact Array.getElem_mem cF
  have hm:=Array.mem_filter.1 cN;refine .inr ⟨left[i],by simpa using hm.1,by simpa using hm.2,World.cP w' it (.mapIter (some r) clock (seen.push left[i].born) clock),?_,?_,?_⟩
  .have wV:∀o,(setObj it o).run P w' = .ok () (World.cP w' it o):=fun o=>by simp[setObj,Sem.run,World.cP,hh,hi]
   simp only[Instr.next,Sem.run_bind,Result.andThen_ok,hgi,fG h,TW,Bool.false_eq_true,if_false,Kx,h1,h2];simp[bA,hc,wV,cF,-run_choose]
  .exact dZ (by rw[hh];exact hi)
  .exact hx.aE.trans (gB.ext rfl) fun _ _ h=>h
theorem LQ{e:MapEntry}(hi:w.heap[it]? = some (.mapIter (some r) clock (seen.push e.born) clock))(h:w.heap[r]? = some (.map es clock))(hB:gP es.toList clock)(he:e∈es.toList):(Instr.entry (.pointer (some ⟨it,0,none⟩))).run P w = .ok (.tuple #[e.key,e.val]) w:=by
 have hgi:(getObj it).run P w = .ok (.mapIter (some r) clock (seen.push e.born) clock) w:=by simp[getObj,Sem.run,hi]
 have hf:es.find? (fun x=>x.born == e.born)=some e:=by
  rw[<- Array.find?_toList];have hn:=hB.1
  revert he hn
  generalize es.toList=l;intro he hn
  induction l with
  | nil=>cases he
  | cons x l ih=>
   simp only[List.map_cons,List.nodup_cons]at hn;rcases List.mem_cons.1 he with h' | h'
   .subst h';simp
   .have:x.born≠e.born:=fun h2=>hn.1 (h2 ▸ List.mem_map.2 ⟨e,h',rfl⟩)
    rw[List.find?_cons_of_neg (by simpa using this)];exact ih h' hn.2
 simp[Instr.entry,hgi,fG h,hf]
end
end Go.V
namespace Go.Proofs.YtpjbalhhlaofmaaGreat
open Go.V
abbrev A1(b:Nat):Addr:=⟨b,0,none⟩
structure eA(h:Array Obj)(n0:Nat)(b:Sl)(P:List Int)(kind lev:Int)(ls:Sl)(place fault:Int):Prop where
 c1:h[n0]? = some (.cells [.slice b.a b.len b.cap].toArray 23 (0,0))
 c2:h[n0+1]? = some (.cells [.int .u8 kind,.int .u8 lev,.slice ls.a ls.len ls.cap].toArray 142 (0,0))
 c3:h[n0+2]? = some (.cells [.int .i64 place].toArray 3 (0,0))
 c4:h[n0+3]? = some (.cells [.int .i64 fault].toArray 3 (0,0))
 c5:h[n0+4]? = some (.cells [.func (.func 125) #[] #[.pointer (some (A1 (n0+3)))]].toArray 215 (0,0))
 c6:h[n0+5]? = some (.cells [.func (.func 126) #[] #[.pointer (some (A1 (n0+3))),.pointer (some (A1 (n0+2))),.pointer (some (A1 (n0+4))),.pointer (some (A1 n0))]].toArray 217 (0,0))
 c7:h[n0+6]? = some (.cells [.func (.func 129) #[] #[]].toArray 216 (0,0))
 rd:b_ h b P
 low:∀i,b.aj=some i->P≠[]->i < n0
 p8:B8 P
 len:P.length=224
section
variable {w:Wd} {n0:Nat} {b:Sl} {P:List Int} {kind lev:Int} {ls:Sl} {place fault:Int}
theorem eA.ext{S:Nat->Prop}{w':Wd}(d:eA w.heap n0 b P kind lev ls place fault)(x:Ext S w w')(hS:∀i,i < n0+7->¬ S i):eA w'.heap n0 b P kind lev ls place fault:=
 ⟨ag d.c1 x (hS _ (by omega)),ag d.c2 x (hS _ (by omega)),ag d.c3 x (hS _ (by omega)),ag d.c4 x (hS _ (by omega)),ag d.c5 x (hS _ (by omega)),ag d.c6 x (hS _ (by omega)),ag d.c7 x (hS _ (by omega)),
  d.rd.ext x (fun a i ha hi=>hS i (by have:=d.low i (by simp[Sl.aj,ha,hi]) (by intro h;have:=d.len;rw[h]at this;simp at this);omega)),d.low,d.p8,d.len⟩
theorem eA.no{w':Wd}(d:eA w.heap n0 b P kind lev ls place fault)(x:Ext No w w'):eA w'.heap n0 b P kind lev ls place fault:=d.ext x fun _ _ h=>h
theorem eA.Ht{w':Wd}{p:Int}(d:eA w.heap n0 b P kind lev ls place fault)(h:gB w (n0+2) (.cells [.int .i64 p].toArray 3 (0,0)) w'):eA w'.heap n0 b P kind lev ls p fault:=by
 have o:∀{i:Nat}{o:Obj},i≠n0+2->w.heap[i]? = some o->w'.heap[i]? = some o:=fun hi ho=>by rw[h.other hi];exact ho
 exact⟨o (by omega) d.c1,o (by omega) d.c2,h.get d.c3,o (by omega) d.c4,o (by omega) d.c5,o (by omega) d.c6,o (by omega) d.c7,
  d.rd.ext h.ext (fun a i ha hi=>by have:=d.low i (by simp[Sl.aj,ha,hi]) (by intro h;have:=d.len;rw[h]at this;simp at this);omega),d.low,d.p8,d.len⟩
theorem eA.OE{w':Wd}{p:Int}(d:eA w.heap n0 b P kind lev ls place fault)(h:gB w (n0+3) (.cells [.int .i64 p].toArray 3 (0,0)) w'):eA w'.heap n0 b P kind lev ls place p:=by
 have o:∀{i:Nat}{o:Obj},i≠n0+3->w.heap[i]? = some o->w'.heap[i]? = some o:=fun hi ho=>by rw[h.other hi];exact ho
 exact⟨o (by omega) d.c1,o (by omega) d.c2,o (by omega) d.c3,h.get d.c4,o (by omega) d.c5,o (by omega) d.c6,o (by omega) d.c7,
  d.rd.ext h.ext (fun a i ha hi=>by have:=d.low i (by simp[Sl.aj,ha,hi]) (by intro h;have:=d.len;rw[h]at this;simp at this);omega),d.low,d.p8,d.len⟩
theorem eA.setNode{w':Wd}{TX OA:Int}{XD:Sl}(d:eA w.heap n0 b P kind lev ls place fault)(h:gB w (n0+1) (.cells [.int .u8 TX,.int .u8 OA,.slice XD.a XD.len XD.cap].toArray 142 (0,0)) w'):eA w'.heap n0 b P TX OA XD place fault:=by
 have o:∀{i:Nat}{o:Obj},i≠n0+1->w.heap[i]? = some o->w'.heap[i]? = some o:=fun hi ho=>by rw[h.other hi];exact ho
 exact⟨o (by omega) d.c1,h.get d.c2,o (by omega) d.c3,o (by omega) d.c4,o (by omega) d.c5,o (by omega) d.c6,o (by omega) d.c7,
  d.rd.ext h.ext (fun a i ha hi=>by have:=d.low i (by simp[Sl.aj,ha,hi]) (by intro h;have:=d.len;rw[h]at this;simp at this);omega),d.low,d.p8,d.len⟩
theorem CF{s:Sl}{P pre x suf:List Int}{lo hi:Int}{K:Sl->Prop}(r:b_ w.heap s P)(hP:P=pre++(x++suf))(h1:lo=pre.length)(h2:hi=pre.length+x.length)(k:∀s',b_ w.heap s' x->K s'):Cut s lo hi (((s.cap:Nat):Int)) 1 K:=by
 have hl:=b_.len r;have hc:=Rd.cap r;have Rr:P.length=pre.length+(x.length+suf.length):=by rw[hP];simp
 subst h1 h2;refine Cut.mk (by omega) (by omega) (by omega) (Int.le_refl _) (k _ ?_);have:=Rd.cut r (lo:=pre.length) (hi:=pre.length+x.length) (mx:=s.cap) (by omega) (by omega) (by omega);rw[Nat.mul_one,Nat.mul_one,show pre.length+x.length - pre.length=x.length by omega]at this
 have e:(List.take x.length (List.drop pre.length (P.map (Value.int .u8))))=x.map (Value.int .u8):=by
  rw[hP,<- List.map_drop,<- List.map_take,List.drop_left,List.take_left]
 rw[e]at this;have e2:((pre.length:Int)+(x.length:Int) - (pre.length:Int)).toNat=x.length:=by omega
 have e3:((s.cap:Int) - (pre.length:Int)).toNat=s.cap - pre.length:=by omega
 rw[e2,e3];exact this
theorem Ju{p:Int}{K:Pw}(d:eA w.heap n0 b P kind lev ls place fault)(hf:fault < 0)(k:∀w',gB w (n0+3) (.cells [.int .i64 p].toArray 3 (0,0)) w'->K w'):lj p (A1 (n0+3)) w K:=by
 apply zo;exact⟨_,Cell.ah d.c4 rfl,If.dec (fun _=>aQ.mk d.c4 (by simp) rfl fun w' h=>k w' h) (fun h=>(h hf).elim)⟩
abbrev OF(n0:Nat):Value:= .func (.func 126) #[] #[.pointer (some (A1 (n0+3))),.pointer (some (A1 (n0+2))),.pointer (some (A1 (n0+4))),.pointer (some (A1 n0))]
theorem jl{may:Value}{size:Int}{pre x suf:List Int}{K:Int->Pw}{rd:Bool}(d:eA w.heap n0 b P kind lev ls pre.length (-1))(hP:P=pre++(x++suf))(hx:(x.length:Int)=size)(h1:1<=size)(h8:size<=8)
  (hm:∀K':Bool->Pw,K' true w->aD pz true may [.int .u64 (num x)] [.one (.bool)] K' cc w)
  (k:∀w',eA w'.heap n0 b P kind lev ls (pre.length+size) (-1)->Ext (·=n0+2) w w'->w'.heap.size=w.heap.size->K (num x) w'):aD pz rd (OF n0) [.int .i64 size,may] [.one (.int .u64)] K cc w:=by
 refine lz (c0:=A1 (n0+3)) (c1:=A1 (n0+2)) (c2:=A1 (n0+4)) (c3:=A1 n0) (lu ?_);have Rr:pre.length+(x.length+suf.length)=224:=by rw[<- d.len,hP];simp
 have hx8:B8 x:=d.p8.sub fun y hy=>by rw[hP];simp[hy]
 refine⟨_,Cell.ah d.c4 rfl,If.dec (fun h=>by omega) fun _=>⟨_,Cell.ah d.c3 rfl,Ar.i64 (by omega) (If.dec (fun h=>by omega) fun _=>⟨_,Cell.ah d.c1 rfl,_,Cell.ah d.c3 rfl,_,Cell.ah d.c3 rfl,Ar.i64 (by omega) ?_⟩)⟩⟩;refine CF d.rd hP rfl (by omega) fun s' r'=>mG r' hx8 (by omega) (by omega) (hm _ (If.no ⟨_,Cell.ah d.c3 rfl,Ar.i64 (by omega) (aQ.mk d.c3 (by simp) rfl fun w' h=>?_)⟩))
 exact k w' (d.Ht h) h.ext h.size
theorem Ky{may:Value}{pre x suf:List Int}{K:Sl->Pw}{rd:Bool}(d:eA w.heap n0 b P kind lev ls pre.length (-1))(hP:P=pre++(((x.length:Int))::x++suf))(hn:n0+7<=w.heap.size)(Nw:aJ may=true)
  (hm:∀w' (K':Bool->Pw),Ext No w w'->K' true w'->aD pz true may [.int .u64 (x.length:Int)] [.one (.bool)] K' cc w')
  (k:∀s w',eA w'.heap n0 b P kind lev ls (pre.length+1+x.length) (-1)->aK w'.heap w.heap.size s x->Ext (·=n0+2) w w'->K s w') :
  aD pz rd (.func (.func 127) #[] #[.pointer (some (A1 (n0+5))),.pointer (some (A1 (n0+2))),.pointer (some (A1 (n0+3))),.pointer (some (A1 n0))]) [may] [.one (.sl)] K cc w:=by
 refine zl (c0:=A1 (n0+5)) (c1:=A1 (n0+2)) (c2:=A1 (n0+3)) (c3:=A1 n0) (zk ?_);have Rr:pre.length+(1+x.length+suf.length)=224:=by rw[<- d.len,hP];simp;omega
 refine⟨Nw,af.mk fun b1 w1 n1=>?_⟩;have d1:=d.no n1.ext;have jk:=n1.at_;refine⟨_,Cell.ah d1.c6 rfl,?_⟩;have Rs:P=pre++([(x.length:Int)]++(x++suf)):=by rw[hP];simp
 have e1:num [(x.length:Int)]=x.length:=by simp[num]
 refine jl (x:=[(x.length:Int)]) d1 Rs rfl (by decide) (by decide) (fun K' hK=>?_) fun w2 d2 x2 z2=>?_
 .rw[e1];apply ve;apply vd;refine⟨_,Cell.ah n1.get rfl,hm w1 _ n1.ext (If.yes (Ar.i64 (by omega) ⟨_,Cell.ah d1.c3 rfl,Ar.i64 (by omega) (Ar.i64 (by omega) ?_)⟩))⟩;have:decide ((x.length:Int)<=224 - (pre.length:Int) - 1)=true:=decide_eq_true (by omega);rw[this];exact hK
 rw[e1];refine⟨_,Cell.ah d2.c4 rfl,If.dec (fun h=>by omega) fun _=>⟨_,Cell.ah d2.c3 rfl,Ar.i64 (by omega) (Ar.i64 (by omega) (aQ.mk d2.c3 (by simp) rfl fun w3 h3=>af.mk fun b4 w4 n4=>?_))⟩⟩;have d3:eA w3.heap n0 b P kind lev ls (pre.length+1+x.length) (-1):=d2.Ht h3;have d4:=d3.no n4.ext;refine⟨_,Cell.ah d4.c1 rfl,_,Cell.ah d4.c3 rfl,Ar.i64 (by omega) (Ar.i64 (by omega) ⟨_,Cell.ah d4.c3 rfl,?_⟩)⟩;have hP3:P=(pre++[(x.length:Int)])++(x++suf):=by rw[hP];simp
 refine CF d4.rd hP3 (by simp) (by simp) fun s' r'=>?_
 have o4:aK w4.heap w3.heap.size ⟨some ⟨b4,0,none⟩,0,0⟩ []:=aK.new (l:=[]) n4 rfl;have z4:=n4.size;have z3:=h3.size;have z1:=n1.size;have Hm:=n4.at_;refine vA (s:=⟨some ⟨b4,0,none⟩,0,0⟩) (Q:=fun i=>w3.heap.size<=i) (Ext.refl _ w4) (fun i hi=>by have:=Option.some.inj hi;simp only at this;omega) (fun i hi=>by omega) o4 (by omega) r' (by simp;omega) fun s5 w5 o5 q5 x5=>?_
 refine k _ _ (d4.ext x5 fun i hi h=>by omega) (bf.mono o5 (by omega)) ?_;refine((((n1.ext.aE).trans x2 fun i _ h=>h).trans h3.ext fun i _ h=>h).no n4.ext).trans x5 fun i hi h=>by omega
theorem LR:∀(l:List Int),(∀y∈l,y=0)->num l=0:=by
 intro l h
 have:∀(l:List Int)(a:Int),(∀y∈l,y=0)->a=0->l.foldl (fun n x=>n * 256+x) a=0:=by
  intro l
  induction l with
  | nil=>intro a _ h;exact h
  | cons y l ih=>
   intro a h ha;rw[List.foldl_cons];exact ih _ (fun z hz=>h z (List.mem_cons_of_mem _ hz)) (by rw[ha,h y List.mem_cons_self];rfl)
 exact this l 0 h rfl
theorem LS{r:Rf}(ok:r.ok)(h:∀y∈refB r,y=0):r = .z:=by
 obtain⟨h1,h2,h3⟩:=ok;have a:=iA 4 h1.1 (by omega);have b:=iA 8 h2.1 (by omega);have c:=iA 2 h3.1 (by omega);rw[LR _ fun y hy=>h y (by simp[refB,hy])]at a b c
 cases r;simp only at a b c;simp[Rf.z,<- a,<- b,<- c]
theorem Jv{v:Int}{K:Bool->Pw}(k:K true w):aD pz true (.func (.func 129) #[] #[]) [.int .u64 v] [.one (.bool)] K cc w:=zj (zi k)
theorem OG{r:Rf}{pre suf:List Int}{K:Int->Int->Int->Pw}{rd:Bool}(d:eA w.heap n0 b P kind lev ls pre.length (-1))(hP:P=pre++(refB r++suf))(hn:n0+7<=w.heap.size)(ok:r.ok)(hz:r ≠ .z)
  (k:∀w',eA w'.heap n0 b P kind lev ls (pre.length+14) (-1)->Ext (·=n0+2) w w'->K r.p r.c r.g w') :
  aD pz rd (.func (.func 130) #[] #[.pointer (some (A1 (n0+3))),.pointer (some (A1 (n0+2))),.pointer (some (A1 n0)),.pointer (some (A1 (n0+4))),.pointer (some (A1 (n0+5))),.pointer (some (A1 (n0+6)))]) [] [.agg [.one (.int .u32),.one (.int .u64),.one (.int .u16)]] K cc w:=by
 refine ze (c0:=A1 (n0+3)) (c1:=A1 (n0+2)) (c2:=A1 n0) (c3:=A1 (n0+4)) (c4:=A1 (n0+5)) (c5:=A1 (n0+6)) (za ?_);have Rr:pre.length+(14+suf.length)=224:=by rw[<- d.len,hP];simp[eX]
 have h8:B8 (refB r):=d.p8.sub fun y hy=>by rw[hP];simp[hy]
 refine af.mk fun b1 w1 n1=>?_
 have d1:=d.no n1.ext;have jk:=n1.at_;refine⟨fun w'=>w'=w1,?_,?_⟩
 .refine⟨_,Cell.ah d1.c4 rfl,If.dec (fun _=>⟨_,Cell.ah d1.c3 rfl,Ar.i64 (by omega) (If.dec (fun _=>⟨_,Cell.ah d1.c1 rfl,_,Cell.ah d1.c3 rfl,_,Cell.ah d1.c3 rfl,Ar.i64 (by omega) (CF d1.rd hP rfl (by rw[eX];rfl) fun s' r'=>xU r' h8 (by rw[eX];decide) ?_)⟩) fun _=>rfl)⟩) fun _=>rfl⟩;rw[decide_eq_false fun h=>hz (LS ok h)];exact If.no rfl
 rintro _ w4 rfl;refine⟨fun w'=>w'=w4,?_,?_⟩
 .exact⟨_,Cell.ah d1.c4 rfl,If.dec (fun _=>⟨_,Cell.ah d1.c3 rfl,Ar.i64 (by omega) (If.dec (fun h=>by omega) fun _=>rfl)⟩) fun _=>rfl⟩
 rintro _ w6 rfl;obtain⟨h1,h2,h3⟩:=ok;have nS:∀{i:Nat},n0+3<=i->i < n0+7->¬ (i=n0+2∨i=b1):=fun h h'=>by omega
 refine⟨Ext (fun i=>i=n0+2∨i=b1) w6,(Ext.refl _ _).drew,_,ae.dI (Cell.ah d1.c6 rfl) (nS (by omega) (by omega)),_,ae.dI (Cell.ah d1.c7 rfl) (nS (by omega) (by omega)),_,ae.dI (Cell.ah d1.c6 rfl) (nS (by omega) (by omega)),_,ae.dI (Cell.ah d1.c7 rfl) (nS (by omega) (by omega)),_,ae.dI (Cell.ah d1.c6 rfl) (nS (by omega) (by omega)),_,ae.dI (Cell.ah d1.c7 rfl) (nS (by omega) (by omega)),?_⟩;have toS:∀{w':Wd},Ext (·=n0+2) (aa w6) w'->Ext (fun i=>i=n0+2∨i=b1) w6 w':=fun x=>(x.mono fun _ _ h=> .inl h).ar
 have dd:eA (aa w6).heap n0 b P kind lev ls pre.length (-1):=d1
 refine jl (x:=be 4 r.p) (suf:=be 8 r.c++(be 2 r.g++suf)) dd (by rw[hP];simp[refB]) (by rw[bu];rfl) (by decide) (by decide) (fun K' hK=>Jv hK) fun w7 d7 x7 z7=>⟨toS x7,?_⟩
 rw[iA 4 h1.1 (by omega)];have e7:((pre.length:Int)+4)=((pre++be 4 r.p).length:Nat):=by simp[bu]
 rw[e7]at d7;refine Ar.u32 (by omega) (jl (x:=be 8 r.c) (suf:=be 2 r.g++suf) d7 (by rw[hP];simp[refB]) (by rw[bu];rfl) (by decide) (by decide) (fun K' hK=>Jv hK) fun w8 d8 x8 z8=>⟨toS (x7.trans x8 fun _ _ h=>h),?_⟩);rw[iA 8 h2.1 (by omega)];have e8:(((pre++be 4 r.p).length:Nat):Int)+8=((pre++be 4 r.p++be 8 r.c).length:Nat):=by simp[bu];omega
 rw[e8]at d8
 refine jl (x:=be 2 r.g) (suf:=suf) d8 (by rw[hP];simp[refB]) (by rw[bu];rfl) (by decide) (by decide) (fun K' hK=>Jv hK) fun w9 d9 x9 z9=>⟨toS ((x7.trans x8 fun _ _ h=>h).trans x9 fun _ _ h=>h),?_⟩
 rw[iA 2 h3.1 (by omega)];have e9:(((pre++be 4 r.p++be 8 r.c).length:Nat):Int)+2=(pre.length:Int)+14:=by simp[bu];omega
 rw[e9]at d9;have XE:=(x7.trans x8 fun _ _ h=>h).trans x9 fun _ _ h=>h
 have g9:w9.heap[b1]? = some (.cells [.int .u32 0,.int .u64 0,.int .u16 0].toArray 28 (0,0)):=ag (w:=aa w6) n1.get XE (by omega);refine Ar.u16 (by omega) ⟨rfl,_,_,_,g9,rfl,by simp,.inr (.inr (Nat.le_refl _)),?_,fun dV xW=>?_⟩
 .intro v hv;simp only[List.mem_cons,List.not_mem_nil,or_false]at hv;rcases hv with h | h | h <;> subst h <;> rfl
 have nz:dV.heap[b1]? = some (.cells [.int .u32 r.p,.int .u64 r.c,.int .u16 r.g].toArray 28 (0,0)):=gB.get (b:=b1) xW g9;have dW:Ext (·=b1) w9 dV:=gB.ext (b:=b1) xW;refine⟨(toS XE).trans dW fun _ _ h=> .inr h,_,Cell.ah nz rfl,_,Cell.ah nz rfl,_,Cell.ah nz rfl,k _ (d9.ext dW fun i hi h=>by omega) ?_⟩;exact((n1.ext.drew.aE).trans XE fun _ _ h=>h).trans dW fun i hi h=>by omega
end
end Go.Proofs.YtpjbalhhlaofmaaGreat
namespace Go.V
structure ic(h:Array Obj)(base:Nat)(s:Sl)(L:List (aL×aF)):Prop where
 own:bf h base 151 9 s (L.flatMap aU)
 h_:∀p∈L,lD h p.1 p.2
 kb:∀p∈L,∀b,p.1.k.aj=some b->base<=b/\b < h.size/\s.aj≠some b
 vb:∀p∈L,∀b,p.1.v.aj=some b->base<=b/\b < h.size/\s.aj≠some b
theorem ic.nd{h:Array Obj}{base:Nat}{s:Sl}{L:List (aL×aF)}(o:ic h base s L):ny h s L:=⟨o.own.rd,o.h_⟩
theorem ic.mono{h:Array Obj}{base base':Nat}{s:Sl}{L:List (aL×aF)}(o:ic h base s L)(hb:base'<=base):ic h base' s L:=⟨o.own.mono hb,o.h_,fun p hp b h=>⟨Nat.le_trans hb (o.kb p hp b h).1,(o.kb p hp b h).2⟩,fun p hp b h=>⟨Nat.le_trans hb (o.vb p hp b h).1,(o.vb p hp b h).2⟩⟩
theorem lD.ext{S:Nat->Prop}{w w':Wd}{x:aL}{e:aF}(r:lD w.heap x e)(h:Ext S w w')(h1:∀b,x.k.aj=some b->¬ S b)(h2:∀b,x.v.aj=some b->¬ S b):lD w'.heap x e:=
 ⟨r.k.ext h fun a b ha hb=>h1 b (by simp[Sl.aj,ha,hb]),r.v.ext h fun a b ha hb=>h2 b (by simp[Sl.aj,ha,hb]),r.n,r.ch,r.cd,r.k8,r.v8,r.n64,r.Sj,r.Sk⟩
theorem ic.ext{S:Nat->Prop}{w w':Wd}{base:Nat}{s:Sl}{L:List (aL×aF)}(o:ic w.heap base s L)(x:Ext S w w')(hS:∀b,base<=b->b < w.heap.size->¬ S b):ic w'.heap base s L:=
 ⟨o.own.ext x fun b hb=>hS b (o.own.lt hb).1 (o.own.lt hb).2,fun p hp=>(o.h_ p hp).ext x (fun b h=>hS b (o.kb p hp b h).1 (o.kb p hp b h).2.1) (fun b h=>hS b (o.vb p hp b h).1 (o.vb p hp b h).2.1),
  fun p hp b h=>⟨(o.kb p hp b h).1,Nat.lt_of_lt_of_le (o.kb p hp b h).2.1 x.size,(o.kb p hp b h).2.2⟩,fun p hp b h=>⟨(o.vb p hp b h).1,Nat.lt_of_lt_of_le (o.vb p hp b h).2.1 x.size,(o.vb p hp b h).2.2⟩⟩
theorem ic.no{w w':Wd}{base:Nat}{s:Sl}{L:List (aL×aF)}(o:ic w.heap base s L)(x:Ext No w w'):ic w'.heap base s L:=o.ext x fun _ _ _ h=>h
theorem ic.nil(h:Array Obj)(base:Nat):ic h base ⟨none,0,0⟩ []:=⟨bf.nil _ _ _ _,by simp,by simp,by simp⟩
theorem Vw{kind lev:Int}{l:List aF}{i:Nat}(hi:i < l.length):pad (wr kind lev l)=([kind,lev,(l.length % 256:Int)]++(l.take i).flatMap (wrE kind))++(wrE kind l[i]++((l.drop (i+1)).flatMap (wrE kind)++List.replicate (224 - (wr kind lev l).length) 0)):=by
 have e:l.flatMap (wrE kind)=(l.take i).flatMap (wrE kind)++(wrE kind l[i]++(l.drop (i+1)).flatMap (wrE kind)):=by
  have:l=l.take i++(l[i]::l.drop (i+1)):=by rw[<- List.drop_eq_getElem_cons hi,List.take_append_drop]
  conv=>lhs;rw[this]
  rw[List.flatMap_append,List.flatMap_cons]
 have e2:pad (wr kind lev l)=[kind,lev,(l.length % 256:Int)]++l.flatMap (wrE kind)++List.replicate (224 - (wr kind lev l).length) 0:=rfl;rw[e2,e];simp only[List.append_assoc]
end Go.V
namespace Go.Proofs.YtpjbalhhlaofmaaGreat
open Go.V
section
variable {w:Wd} {n0:Nat} {b:Sl} {P:List Int} {kind lev:Int} {ls:Sl} {place fault:Int}
theorem aQ.b1{bb:Nat}{T:TypeId}{v v':Value}{K:Pw}(hb:w.heap[bb]? = some (.cells [v].toArray T (0,0)))(hv:aJ v'=true)(k:∀w',gB w bb (.cells [v'].toArray T (0,0)) w'->K w'):aQ w (Addr.mk bb 0 none) v' K:=
 aQ.mk hb (by simp) hv fun w' h=>k w' h
theorem ic.push{w':Wd}{base:Nat}{s s':Sl}{L:List (aL×aF)}{p:aL×aF}(o:ic w.heap base s L)(o':bf w'.heap base 151 9 s' (L.flatMap aU++p.1.cs))(x:Ext (fun b=>s.aj=some b) w w')(hb:s'.aj=s.aj∨∃b,s'.aj=some b/\w.heap.size<=b)
  (hp:lD w.heap p.1 p.2) (h1:∀b,p.1.k.aj=some b->base<=b/\b < w.heap.size/\s.aj≠some b) (h2:∀b,p.1.v.aj=some b->base<=b/\b < w.heap.size/\s.aj≠some b):ic w'.heap base s' (L++[p]):=by
 have key:∀b,base<=b/\b < w.heap.size/\s.aj≠some b->base<=b/\b < w'.heap.size/\s'.aj≠some b:=fun b h=>⟨h.1,Nat.lt_of_lt_of_le h.2.1 x.size,fun e=>by
  rcases hb with h' | ⟨c,h',hc⟩
  .exact h.2.2 (h' ▸ e)
  .rw[h']at e;cases e;omega⟩
 refine⟨by rw[List.flatMap_append,List.flatMap_cons,List.flatMap_nil,List.append_nil];exact o',fun q hq=>?_,fun q hq b h=>?_,fun q hq b h=>?_⟩
 .rcases List.mem_append.1 hq with h | h
  .exact(o.h_ q h).ext x (fun b hb=>(o.kb q h b hb).2.2) (fun b hb=>(o.vb q h b hb).2.2)
  .rw[List.mem_singleton]at h;subst h;exact hp.ext x (fun b hb=>(h1 b hb).2.2) (fun b hb=>(h2 b hb).2.2)
 .rcases List.mem_append.1 hq with h' | h'
  .exact key b (o.kb q h' b h)
  .rw[List.mem_singleton]at h';subst h';exact key b (h1 b h)
 .rcases List.mem_append.1 hq with h' | h'
  .exact key b (o.vb q h' b h)
  .rw[List.mem_singleton]at h';subst h';exact key b (h2 b h)
def restB(kind:Int)(e:aF):List Int:=if kind=2 then refB e.cd else if e.n > 0 then[1,e.n / 256 % 256,e.n % 256]++refB e.ch else[0,(e.val.length % 256:Int)]++e.val
theorem OH(kind:Int)(e:aF):wrE kind e=(e.key.length % 256:Int)::e.key++restB kind e:=rfl
structure Got(w:Wd)(n0 b9:Nat)(base:Nat)(r3:Sl)(e:aF)(x:aL):Prop where
 aj:w.heap[b9]? = some (.cells x.cs.toArray 151 (0,0))
 k:x.k=r3
 v:Rd w.heap x.v 1 (e.val.map (Value.int .u8))
 vb:∀b,x.v.aj=some b->base<=b/\b < w.heap.size
 n:x.n=e.n
 ch:x.ch=e.ch
 cd:x.cd=e.cd
set_option maxHeartbeats 1000000 in
theorem Sw{b9:Nat}{r3:Sl}{e:aF}{i:Int}{pre suf:List Int}{J1:Pw}(d:eA w.heap n0 b P kind lev ls pre.length (-1))(hP:P=pre++(restB kind e++suf))(hn:n0+7<=b9)
  (Rt:w.heap[b9]? = some (.cells (aL.cs ⟨r3,⟨none,0,0⟩,0,.z,.z⟩).toArray 151 (0,0))) (hp:nR kind i e) (Sj:e.ch.ok) (Sk:e.cd.ok)
  (k:∀w' x,Got w' n0 b9 w.heap.size r3 e x->eA w'.heap n0 b P kind lev ls (pre.length+(restB kind e).length) (-1)->Ext (fun q=>q=n0+2∨q=b9) w w'->J1 w') :
  ∃rF:Int,Cell w (Addr.mk (n0+1) 0 none) (.int .u8 rF)/\
 If (rF == 2) (
 aD pz true (.func (.func 130) #[] #[.pointer (some (Addr.mk (n0+3) 0 none)),.pointer (some (Addr.mk (n0+2) 0 none)),.pointer (some (Addr.mk n0 0 none)),.pointer (some (Addr.mk (n0+4) 0 none)),.pointer (some (Addr.mk (n0+5) 0 none)),.pointer (some (Addr.mk (n0+6) 0 none))]) [] [.agg [.one (.int .u32),.one (.int .u64),.one (.int .u16)]] (fun r0 OI Hu vE=>
 List.length (α:=Value) [.int .u32 r0,.int .u64 OI,.int .u16 Hu]=3/\gT vE ((Addr.mk b9 0 none).add 6) [.int .u32 r0,.int .u64 OI,.int .u16 Hu] fun OJ=>
 J1 OJ) cc w) (
 ∃td:Value,Cell w (Addr.mk (n0+5) 0 none) (td)/\
 aD pz true td [.int .i64 1,.func (.func 138) #[] #[]] [.one (.int .u64)] (fun IA IB=>
 If (IA == 1) (
 ∃rG:Value,Cell IB (Addr.mk (n0+5) 0 none) (rG)/\
 aD pz true rG [.int .i64 2,.func (.func 139) #[] #[]] [.one (.int .u64)] (fun Ru Y7=>
 Ar .i64 Ru fun Sx=>
 aQ Y7 ((Addr.mk b9 0 none).add 2) (.int .i64 Sx) fun rH=>
 aD pz true (.func (.func 130) #[] #[.pointer (some (Addr.mk (n0+3) 0 none)),.pointer (some (Addr.mk (n0+2) 0 none)),.pointer (some (Addr.mk n0 0 none)),.pointer (some (Addr.mk (n0+4) 0 none)),.pointer (some (Addr.mk (n0+5) 0 none)),.pointer (some (Addr.mk (n0+6) 0 none))]) [] [.agg [.one (.int .u32),.one (.int .u64),.one (.int .u16)]] (fun Jw Jx Jy NB=>
 List.length (α:=Value) [.int .u32 Jw,.int .u64 Jx,.int .u16 Jy]=3/\gT NB ((Addr.mk b9 0 none).add 3) [.int .u32 Jw,.int .u64 Jx,.int .u16 Jy] fun Dr=>
 J1 Dr) cc rH) cc IB) (
 aD pz true (.func (.func 127) #[] #[.pointer (some (Addr.mk (n0+5) 0 none)),.pointer (some (Addr.mk (n0+2) 0 none)),.pointer (some (Addr.mk (n0+3) 0 none)),.pointer (some (Addr.mk n0 0 none))]) [.func (.func 140) #[] #[]] [.one (.sl)] (fun OK Jz=>
 aQ Jz ((Addr.mk b9 0 none).add 1) (.slice OK.a OK.len OK.cap) fun Kz=>
 J1 Kz) cc IB)) cc w):=by
 have gZ:n0+7<=w.heap.size:=by have:=blt Rt;omega
 refine⟨_,Cell.ah d.c2 rfl,If.beq (fun h2=>?_) (fun h2=>?_)⟩
 .have hr:restB kind e=refB e.cd:=by unfold restB;rw[if_pos h2]
  have oR:=hp.2;rw[if_pos h2]at oR;rw[hr]at hP k
  refine OG d hP gZ Sk oR.1 fun w' d' x'=>⟨rfl,?_⟩
  have hb:=ag Rt x' (by omega);refine⟨_,_,_,hb,rfl,(by show 6+3<=9;decide),.inr (.inr (Nat.le_refl _)),?_,fun w2 NC=>?_⟩
  .intro v hv;simp only[List.mem_cons,List.not_mem_nil,or_false]at hv;rcases hv with h | h | h <;> subst h <;> rfl
  have x2:Ext (·=b9) w' w2:=gB.ext (b:=b9) NC;have g2:w2.heap[b9]? = some (.cells (aL.cs ⟨r3,⟨none,0,0⟩,0,.z,e.cd⟩).toArray 151 (0,0)):=gB.get (b:=b9) NC hb;have ev:e.val=[]:=List.eq_nil_of_length_eq_zero oR.2.2.1;refine k w2 _ ⟨g2,rfl,by rw[ev];exact Rd.nil _ _,fun b h=>(by cases h),oR.2.2.2.symm,oR.2.1.symm,rfl⟩ ?_ ((x'.mono fun _ _ h=> .inl h).trans x2 fun _ _ h=> .inr h);rw[eX];exact d'.ext x2 fun q hq h=>by omega
 .have oR:=hp.2;rw[if_neg h2]at oR;obtain⟨U6,oR⟩:=oR;refine⟨_,Cell.ah d.c6 rfl,?_⟩;rcases Classical.em (e.n=0) with h0 | h0
  .rw[if_pos h0]at oR
   have hr:restB kind e=[0]++((e.val.length:Int)::e.val):=by
    unfold restB;rw[if_neg h2,if_neg (by omega),show((e.val.length:Int) % 256)=e.val.length by omega];rfl
   rw[hr]at hP k;have e0:num [(0:Int)]=0:=rfl;refine jl (x:=[0]) (suf:=((e.val.length:Int)::e.val)++suf) d (by rw[hP,List.append_assoc]) rfl (by decide) (by decide) (fun K' hK=>oI (oH (by rw[e0];exact hK))) fun w2 d2 x2 z2=>?_
   rw[e0];refine If.no ?_;have e1:((pre.length:Int)+1)=((pre++[(0:Int)]).length:Nat):=by simp
   rw[e1]at d2;refine Ky (x:=e.val) (suf:=suf) d2 (by rw[hP];simp) (by omega) rfl (fun w' K' _ hK=>wK (wJ (by unfold oF;rw[decide_eq_true (by omega)];exact hK))) fun s3 w3 d3 o3 x3=>?_
   have hb:=ag (ag Rt x2 (by omega)) x3 (by omega);refine aQ.mk hb (by simp[aL.cs]) rfl fun w4 h4=>?_
   have g4:w4.heap[b9]? = some (.cells (aL.cs ⟨r3,s3,0,.z,.z⟩).toArray 151 (0,0)):=h4.get hb;have bA:∀q,s3.aj=some q->q≠b9:=fun q hq h=>by have:=(o3.lt hq).1;have:=blt Rt;omega
   refine k w4 _ ⟨g4,rfl,o3.rd.ext h4.ext (fun a q ha hq=>bA q (by simp[Sl.aj,ha,hq])),fun q hq=>?_,h0.symm,oR.1.symm,U6.symm⟩ ?_ (((x2.mono fun _ _ h=> .inl h).trans x3 fun _ _ h=> .inl h).trans h4.ext fun _ _ h=> .inr h)
   .have:=o3.lt hq;have:=h4.size;omega
   .have e5:(((pre++[(0:Int)]).length:Nat):Int)+1+(e.val.length:Int)=(pre.length:Int)+(([0]++((e.val.length:Int)::e.val)).length:Nat):=by simp;omega
    rw[<- e5];exact d3.ext h4.ext fun q hq h=>by have h:q=b9:=h;omega
  .rw[if_neg h0]at oR
   have hr:restB kind e=[1]++(be 2 e.n++refB e.ch):=by
    unfold restB;rw[if_neg h2,if_pos (by omega)];simp[be]
   rw[hr]at hP k;have e0:num [(1:Int)]=1:=rfl;refine jl (x:=[1]) (suf:=(be 2 e.n++refB e.ch)++suf) d (by rw[hP,List.append_assoc]) rfl (by decide) (by decide) (fun K' hK=>oI (oH (by rw[e0];exact hK))) fun w2 d2 x2 z2=>?_
   rw[e0];refine If.yes ⟨_,Cell.ah d2.c6 rfl,?_⟩;have e1:((pre.length:Int)+1)=((pre++[(1:Int)]).length:Nat):=by simp
   rw[e1]at d2;have en:num (be 2 e.n)=e.n:=iA 2 (by omega) (by omega);refine jl (x:=be 2 e.n) (suf:=refB e.ch++suf) d2 (by rw[hP];simp) (by rw[bu];rfl) (by decide) (by decide) (fun K' hK=>wM (wL (by unfold oG;rw[en];exact If.dec (fun _=>by rw[decide_eq_true (by omega)];exact hK) fun h=>(h oR.1).elim))) fun w3 d3 x3 z3=>?_
   rw[en];have hb:=ag (ag Rt x2 (by omega)) x3 (by omega);refine Ar.i64 (by omega) (aQ.mk hb (by simp[aL.cs]) rfl fun w4 h4=>?_);have g4:w4.heap[b9]? = some (.cells (aL.cs ⟨r3,⟨none,0,0⟩,e.n,.z,.z⟩).toArray 151 (0,0)):=h4.get hb
   have d4:eA w4.heap n0 b P kind lev ls (((pre++[(1:Int)]++be 2 e.n).length:Nat):Int) (-1):=by
    have e5:(((pre++[(1:Int)]++be 2 e.n).length:Nat):Int)=(((pre++[(1:Int)]).length:Nat):Int)+2:=by simp[bu];omega
    rw[e5];exact d3.ext h4.ext fun q hq h=>by have h:q=b9:=h;omega
   refine OG (r:=e.ch) (suf:=suf) d4 (by rw[hP];simp) (by have:=x3.size;have:=h4.size;omega) Sj oR.2.2.1 fun w5 d5 x5=>⟨rfl,?_⟩
   have LK:=ag g4 x5 (by omega);refine⟨_,_,_,LK,rfl,(by show 3+3<=9;decide),.inr (.inr (Nat.le_refl _)),?_,fun w6 h6=>?_⟩
   .intro v hv;simp only[List.mem_cons,List.not_mem_nil,or_false]at hv;rcases hv with h | h | h <;> subst h <;> rfl
   have x6:Ext (·=b9) w5 w6:=gB.ext (b:=b9) h6;have g6:w6.heap[b9]? = some (.cells (aL.cs ⟨r3,⟨none,0,0⟩,e.n,e.ch,.z⟩).toArray 151 (0,0)):=gB.get (b:=b9) h6 LK;have ev:e.val=[]:=List.eq_nil_of_length_eq_zero oR.2.2.2;refine k w6 _ ⟨g6,rfl,by rw[ev];exact Rd.nil _ _,fun b h=>(by cases h),rfl,rfl,U6.symm⟩ ?_ (((((x2.mono fun _ _ h=> .inl h).trans x3 fun _ _ h=> .inl h).trans h4.ext fun _ _ h=> .inr h).trans x5 fun _ _ h=> .inl h).trans x6 fun _ _ h=> .inr h);have e7:(((pre++[(1:Int)]++be 2 e.n).length:Nat):Int)+14=(pre.length:Int)+(([1]++(be 2 e.n++refB e.ch)).length:Nat):=by simp[bu,eX];omega
   rw[<- e7];exact d5.ext x6 fun q hq h=>by omega
end
end Go.Proofs.YtpjbalhhlaofmaaGreat
namespace Go.V
structure Pg where
 t:Int
 k:Int
 v:Int
 r:Rf
 pay:List Int
 waits:Bool
structure Mm where
 aC:List (Int×Pg)
 aG:Int
 gen:Int
def iC(n:Int):List (Int×Pg)->Option Pg
 | []=>none
 | p::m=>if n=p.1 then some p.2 else iC n m
structure bJ where
 bm:Nat
 r:Nat
 bl:Int->Nat
 sl:Int->Sl
def Pg.cs(p:Pg)(s:Sl):List Value:=[.int .u32 p.t,.int .u8 p.k,.int .u8 p.v,.int .u32 p.r.p,.int .u64 p.r.c,.int .u16 p.r.g,.slice s.a s.len s.cap,.bool p.waits]
abbrev bJ.qu(m:bJ)(l:List (Int×Pg)):List (Int×Value):=l.map fun p=>(p.1,Value.pointer (some ⟨m.bl p.1,0,none⟩))
structure Y8(h:Array Obj)(T:Nat->Option Nat)(m:bJ)(n:Int)(p:Pg):Prop where
 aj:h[m.bl n]? = some (.cells (p.cs (m.sl n)).toArray 128 (0,0))
 rd:Rd h (m.sl n) 1 (p.pay.map (Value.int .u8))
 tb:T (m.bl n)=some (2+2 * n.toNat)
 ts:∀b,(m.sl n).aj=some b->T b=some (3+2 * n.toNat)
 p8:B8 p.pay
 len:p.pay.length=224
 rn:p.r.p=n
 ok:p.r.ok
structure bC(h:Array Obj)(T:Nat->Option Nat)(m:bJ)(M:Mm):Prop where
 mem:h[m.bm]? = some (.cells [.map (some m.r),.int .u64 M.aG,.int .u16 M.gen].toArray 97 (0,0))
 map:uc h (fun a:Int=>Value.int .u32 a) m.r (m.qu M.aC)
 pg:∀p∈M.aC,Y8 h T m p.1 p.2
 nd:(M.aC.map Prod.fst).Nodup
 lo:∀p∈M.aC,2<=p.1
 tm:T m.bm=some 0
 tr:T m.r=some 1
 sup:∀b,T b≠none->b < h.size
 co:0<=M.aG/\M.aG<=18446744073709551615
 go:0<=M.gen/\M.gen<=65535
 cm:∀p∈M.aC,p.2.r.c<=M.aG
def Tg(w:Wd)(T T':Nat->Option Nat):Prop:=∀b,b < w.heap.size->T' b=T b
abbrev Ts(T:Nat->Option Nat):Nat->Prop:=fun b=>T b≠none
theorem vF{n:Int}{p:Pg}:∀{l:List (Int×Pg)},iC n l=some p->(n,p)∈l
 | [],h=>by cases h
 | q::l,h=>by
  unfold iC at h;split at h
  .rename_i hn;cases h;rw[hn];exact List.mem_cons_self
  .exact List.mem_cons_of_mem _ (vF h)
theorem AY{n:Int}:∀{l:List (Int×Pg)},iC n l=none->n ∉ l.map Prod.fst
 | [],_=>by simp
 | q::l,h=>by
  unfold iC at h;split at h
  .cases h
  .rename_i hn;simp only[List.map_cons,List.mem_cons,not_or];exact⟨hn,AY h⟩
theorem Ds(m:bJ)(n:Int):∀l:List (Int×Pg),Hr n (m.qu l)=(iC n l).map fun _=>Value.pointer (some ⟨m.bl n,0,none⟩)
 | []=>rfl
 | q::l=>by
  simp only[bJ.qu,List.map_cons,Hr,iC];split
  .rename_i h;rw[h];rfl
  .exact Ds m n l
section
variable {w w':Wd} {T:Nat->Option Nat} {m:bJ} {M:Mm}
theorem Y8.ext{S:Nat->Prop}{n:Int}{p:Pg}(r:Y8 w.heap T m n p)(x:Ext S w w')(h1:¬ S (m.bl n))(h2:∀b,(m.sl n).aj=some b->¬ S b):Y8 w'.heap T m n p:=
 ⟨by rw[x.aj _ (blt r.aj) h1];exact r.aj,r.rd.ext x fun a b ha hb=>h2 b (by simp[Sl.aj,ha,hb]),r.tb,r.ts,r.p8,r.len,r.rn,r.ok⟩
theorem bC.ext{S:Nat->Prop}(r:bC w.heap T m M)(x:Ext S w w')(hS:∀b,S b->T b=none):bC w'.heap T m M:=by
 have ns:∀{b t},T b=some t->¬ S b:=fun h hs=>by rw[hS _ hs]at h;cases h
 exact⟨by rw[x.aj _ (blt r.mem) (ns r.tm)];exact r.mem,r.map.ext x (ns r.tr),fun p hp=>(r.pg p hp).ext x (ns (r.pg p hp).tb) (fun b h=>ns ((r.pg p hp).ts b h)),r.nd,r.lo,r.tm,r.tr,fun b h=>Nat.lt_of_lt_of_le (r.sup b h) x.size,r.co,r.go,r.cm⟩
theorem bC.no(r:bC w.heap T m M)(x:Ext No w w'):bC w'.heap T m M:=r.ext x fun _ h=>h.elim
theorem bC.find(r:bC w.heap T m M){n:Int}{p:Pg}(h:iC n M.aC=some p):Y8 w.heap T m n p:=r.pg _ (vF h)
end
end Go.V
namespace Go.Proofs.YtpjbalhhlaofmaaGreat
open Go.V
section
variable {w:Wd} {T:Nat->Option Nat} {m:bJ} {M:Mm}
theorem Fq:AW pz 22 (fun a:Int=>Value.int .u32 a):=Su (by kernel_rfl)
theorem AZ(r:bC w.heap T m M)(n:Int):Sem.run pz (Instr.lookup 95 (.map (some m.r)) (.int .u32 n) false) w = .ok (.pointer ((iC n M.aC).map fun _=>(⟨m.bl n,0,none⟩ : Addr))) w:=by
 have:=AX (mt:=95) (et:=124) (a:=n) (z:= .pointer none) Fq (by kernel_rfl) (eT (i:=Tryz.t124) (by kernel_rfl) (by kernel_rfl)) r.map;rw[this,Ds]
 cases iC n M.aC <;> rfl
theorem yd{gen:Int}{K:Option Addr->Pw}(hg:0<=gen/\gen<=65535)(k:∀T m w',bC w'.heap T m ⟨[],1,gen⟩->(∀b,b < w.heap.size->T b=none)->Ext No w w'->K (some ⟨m.bm,0,none⟩) w'):kA gen w K:=by
 apply Cv;refine af.mk fun b w1 n1=>af.mk fun b1 w2 n2=>?_
 have hb:=n1.at_;have jk:=n2.at_;have z1:=n1.size;have z2:=n2.size;refine k (fun q=>if q=b1 then some 0 else if q=b then some 1 else none) ⟨b1,b,fun _=>0,fun _=>⟨none,0,0⟩⟩ w2 ⟨n2.get,⟨#[],0,ad n1.get n2.ext,rfl,gP.nil⟩,by simp,by simp,by simp,by simp,?_,fun q h=>?_,⟨(by decide:(0:Int)<=1),(by decide:(1:Int)<=18446744073709551615)⟩,hg,by simp⟩ (fun q hq=>?_) (n1.ext.no n2.ext)
 .show(if b=b1 then some 0 else if b=b then some 1 else none)=some 1;rw[if_neg (by omega),if_pos rfl]
 .split at h
  .omega
  .split at h
   .omega
   .exact(h rfl).elim
 .rw[if_neg (by omega),if_neg (by omega)]
theorem rI{t k v:Int}{r:Rf}{K:Sl->Int->Pw}(R:bC w.heap T m M)
  (k0:∀p s w',iC r.p M.aC=some p->p.t=t->p.k=k->p.v=v->p.r=r->aK w'.heap w.heap.size s p.pay->Ext No w w'->K s 0 w')
  (k7:∀w',iC r.p M.aC=none->Ext No w w'->K ⟨none,0,0⟩ 7 w')
  (Vx:∀p w',iC r.p M.aC=some p->¬ (p.t=t/\p.k=k/\p.v=v/\p.r=r)->Ext No w w'->K ⟨none,0,0⟩ 150 w'):je (some ⟨m.bm,0,none⟩) t k v r.p r.c r.g w K:=by
 apply AD;refine af.mk fun b w1 n1=>If.no ⟨Ext No w1,(Ext.refl _ _).drew,Nn.mk ?_⟩
 have R1:=R.no n1.ext;have hb:=n1.get;have R1d:bC (aa w1).heap T m M:=R1;refine⟨some m.r,ae.cell (Cell.ah R1.mem rfl),_,ae.cell (Cell.ah hb rfl),_,aa w1,AZ R1d r.p,(Ext.refl _ _).drew,?_⟩
 cases hp:iC r.p M.aC with
 | none=>exact If.yes (k7 _ hp n1.ext.drew)
 | some p=>
  have P1:=R1.find hp;refine If.no ⟨Ext No w1,(Ext.refl _ _).drew.drew,Nn.mk ?_⟩;refine⟨_,ae.cell (Cell.ah P1.aj rfl),_,ae.cell (Cell.ah P1.aj rfl),_,ae.cell (Cell.ah P1.aj rfl),_,ae.cell (Cell.ah P1.aj rfl),_,ae.cell (Cell.ah P1.aj rfl),_,ae.cell (Cell.ah P1.aj rfl),_,ae.cell (Cell.ah hb rfl),_,ae.cell (Cell.ah hb rfl),_,ae.cell (Cell.ah hb rfl),?_⟩;dsimp only;rw[vx p.r r]
  have eb:((p.t == t) && ((p.k == k) && ((p.v == v) && (decide (p.r=r) && true))))=decide (p.t=t/\p.k=k/\p.v=v/\p.r=r):=by
   rw[Bool.eq_iff_iff];simp
  rw[eb];refine If.not (If.dec (fun h=>?_) fun h=>Vx p _ hp h n1.ext.drew.drew);refine Nn.mk ⟨m.sl r.p,Cell.ah (w:=aa (aa w1)) P1.aj rfl,jX (w:=aa (aa w1)) P1.rd (by rw[P1.len];decide) fun s w' o x=>?_⟩;exact k0 p s w' hp h.1 h.2.1 h.2.2.1 h.2.2.2 (bf.mono o n1.ext.size) (n1.ext.drew.drew.no x)
structure A_(l:List (Int×Pg))(n:Int):Prop where
 lo:2<=n
 no:iC n l=none
 all:∀i,2<=i->i < n->iC i l≠none
theorem ph:∀(k:Nat)(l:List Int)(n:Int),(∀i:Nat,i < k->n+i∈l)->k<=l.length
 | 0,_,_,_=>by omega
 | k+1,l,n,h=>by
  have hm:=h k (by omega);have:=ph k (l.filter fun x=>decide (x≠n+k)) n fun i hi=>List.mem_filter.2 ⟨h i (by omega),by simp;omega⟩
  have h2:(l.filter fun x=>decide (x≠n+k)).length < l.length:=List.length_filter_lt_length_iff_exists.2 ⟨_,hm,by simp⟩;omega
theorem A_.le{l:List (Int×Pg)}{n:Int}(h:∀i,2<=i->i < n->iC i l≠none)(h2:2<=n):n<=l.length+2:=by
 have:=ph (n - 2).toNat (l.map Prod.fst) 2 fun i hi=>by
  rcases Classical.em ((2+(i:Int))∈l.map Prod.fst) with h' | h'
  .exact h'
  .exfalso
   cases hp:iC (2+(i:Int)) l with
   | none=>exact h _ (by omega) (by omega) hp
   | some p=>exact h' (List.mem_map.2 ⟨_,vF hp,rfl⟩)
 simp only[List.length_map]at this;omega
theorem Dt{m:bJ}{n:Int}{v:Value}:∀{l:List (Int×Pg)},iC n l=none->AV n v (m.qu l)=m.qu l++[(n,v)]
 | [],_=>rfl
 | q::l,h=>by
  unfold iC at h;split at h
  .cases h
  .rename_i hn;simp only[bJ.qu,List.map_cons,AV];rw[if_neg hn];have:=Dt (m:=m) (v:=v) h;simp only[bJ.qu]at this;rw[this];rfl
set_option maxHeartbeats 1000000 in
theorem ye{t k v:Int}{s:Sl}{P:List Int}{K:Int->Int->Int->Int->Pw}(R:bC w.heap T m M)(hs:b_ w.heap s P)(h8:B8 P)(hn:M.aC.length<=1048576)
  (k0:∀n T' m' w',P.length=224->A_ M.aC n->bC w'.heap T' m' { M with aC:=M.aC++[(n,⟨t,k,v,⟨n,M.aG,M.gen⟩,P,false⟩)] }->m'.bm=m.bm->Tg w T T'->Ext (Ts T) w w'->K n M.aG M.gen 0 w')
  (k2:∀w',P.length≠224->Ext No w w'->K 0 0 0 2 w'):mA (some ⟨m.bm,0,none⟩) t k v s w K:=by
 apply AE;have hl:=b_.len hs;refine af.mk fun b w1 n1=>If.no (If.bne (fun h=>?_) fun h=>?_)
 .refine⟨rfl,_,_,_,n1.get,rfl,by simp,.inr (.inr (Nat.le_refl _)),by decide,fun w2 h2=>?_⟩;have g2:w2.heap[b]? = some (.cells [.int .u32 0,.int .u64 0,.int .u16 0].toArray 28 (0,0)):=gB.get (b:=b) h2 n1.get;have x2:Ext (·=b) w1 w2:=gB.ext (b:=b) h2;exact⟨_,Cell.ah g2 rfl,_,Cell.ah g2 rfl,_,Cell.ah g2 rfl,k2 w2 (by omega) (n1.ext.trans x2 fun i hi h=>by have:=n1.at_;omega)⟩
 have Rr:P.length=224:=by omega
 have R1:=R.no n1.ext;have hb:=n1.at_;have z1:=n1.size;refine⟨fun q n w'=>w'=w1/\2<=n/\n<=M.aC.length+2/\q=(M.aC.length+3 - n).toNat/\∀i,2<=i->i < n->iC i M.aC≠none,⟨_,rfl,by omega,by omega,rfl,fun i h1 h2=>by omega⟩,?_⟩;rintro _ m0 n w4 ⟨rfl,hn2,IF,hm0,dT⟩;refine Nn.mk ⟨some m.r,Cell.ah R1.mem rfl,_,_,AZ R1 n,?_⟩
 cases hp:iC n M.aC with
 | some p=>
  have hle:=A_.le (n:=n+1) (fun i h1 h2=>by
   rcases Int.lt_or_le i n with h | h
   .exact dT i h1 h
   .have:i=n:=by omega
    subst this;rw[hp];simp) (by omega)
  refine If.yes (Ar.u32 (by omega) ⟨(M.aC.length+3 - (n+1)).toNat,by omega,rfl,by omega,by omega,rfl,fun i h1 h2=>?_⟩);rcases Int.lt_or_le i n with h | h
  .exact dT i h1 h
  .have:i=n:=by omega
   subst this;rw[hp];simp
 | none=>
  refine If.no ⟨Ext No w4,(Ext.refl _ _).drew,Nn.mk ⟨_,ae.cell (Cell.ah R1.mem rfl),Nn.mk ⟨_,ae.cell (Cell.ah R1.mem rfl),?_⟩⟩⟩
  refine af.mk fun b1 w6 n6=>⟨(Ext.refl _ _).drew.no n6.ext,rfl,_,_,_,n6.get,rfl,by simp,.inr (.inr (Nat.le_refl _)),?_,fun w7 h7=>?_⟩
  .intro v hv;simp only[List.mem_cons,List.not_mem_nil,or_false]at hv;rcases hv with h | h | h <;> subst h <;> rfl
  have g7:w7.heap[b1]? = some (.cells [.int .u32 n,.int .u64 M.aG,.int .u16 M.gen].toArray 28 (0,0)):=gB.get (b:=b1) h7 n6.get;have x7:Ext (·=b1) w6 w7:=gB.ext (b:=b1) h7;have z7:w7.heap.size=w6.heap.size:=gB.size (b:=b1) h7;have jk:b1=w4.heap.size:=n6.at_;have z6:w6.heap.size=w4.heap.size+1:=n6.size;have F_:Ext No w4 w7:=((Ext.refl _ _).drew.no n6.ext).trans x7 fun i hi h=>by omega
  have R7:=R1.no F_;refine⟨F_,Ext (·=m.r) w7,(Ext.refl _ _).drew,Nn.mk ?_⟩;have nr:∀{q},T q≠some 1->q≠m.r:=fun h e=>h (e ▸ R.tr)
  have hmr:m.r < w.heap.size:=R.sup _ (by rw[R.tr];simp);have XF:b1≠m.r:=by omega
  refine⟨some m.r,ae.dI (Cell.ah R7.mem rfl) (nr (by rw[R.tm];simp)),_,ae.dI (Cell.ah g7 rfl) XF,_,ae.dI (Cell.ah g7 rfl) XF,_,ae.dI (Cell.ah g7 rfl) XF,?_⟩;have hs7:b_ (aa w7).heap s P:=Rd.no (Rd.no hs n1.ext) F_.drew
  refine jX hs7 (by omega) fun s8 w8 o8 x8=>⟨x8.ar.aE,af.mk fun b2 w9 n9=>⟨((x8.ar).no n9.ext).aE,?_⟩⟩
  have CG:Ext No w7 w9:=(x8.ar).no n9.ext;have R9:=R7.no CG;have jN:=n9.at_;have z8:=x8.size;have z9:=n9.size;have z8':w7.heap.size<=w8.heap.size:=z8;obtain⟨dV,Ba,Sy,dW,Kv⟩:=ta (a:=n) (v:= .pointer (some ⟨b2,0,none⟩)) (mt:=95) (et:=124) Fq (by kernel_rfl) R9.map;refine⟨dV,Ba,CG.aE.trans dW fun _ _ h=>h,?_⟩;have nz:=ag (ad g7 CG) dW XF;have gb:dV.heap[b]? = some (.cells [.int .u32 0,.int .u64 0,.int .u16 0].toArray 28 (0,0)):=ag (ad (ad n1.get F_) CG) dW (by omega);refine⟨_,Cell.ah nz rfl,_,Cell.ah nz rfl,_,Cell.ah nz rfl,rfl,_,_,_,gb,rfl,by simp,.inr (.inr (Nat.le_refl _)),?_,fun di CH=>?_⟩
  .intro v hv;simp only[List.mem_cons,List.not_mem_nil,or_false]at hv;rcases hv with h | h | h <;> subst h <;> rfl
  have oS:di.heap[b]? = some (.cells [.int .u32 n,.int .u64 M.aG,.int .u16 M.gen].toArray 28 (0,0)):=gB.get (b:=b) CH gb;have fH:Ext (·=b) dV di:=gB.ext (b:=b) CH;have ND:di.heap.size=dV.heap.size:=gB.size (b:=b) CH;refine⟨_,Cell.ah oS rfl,_,Cell.ah oS rfl,_,Cell.ah oS rfl,?_⟩;have lt:∀{q t},T q=some t->q < w.heap.size:=fun h=>R.sup _ (by rw[h];simp)
  have s8b:∀q,s8.aj=some q->w7.heap.size<=q/\q < w8.heap.size:=fun q hq=>o8.lt hq
  have zx:Ext (fun q=>q=m.r∨q=b) w9 di:=(dW.mono fun _ _ h=> .inl h).trans fH fun _ _ h=> .inr h
  have nS:∀{q t},T q=some t->t≠1->¬ (q=m.r∨q=b):=fun h ht hq=>by
   rcases hq with h' | h'
   .rw[h',R.tr]at h;cases h;exact ht rfl
   .have:=lt h;omega
  let T':Nat->Option Nat:=fun q=>if q=b2 then some (2+2 * n.toNat) else if s8.aj=some q then some (3+2 * n.toNat) else T q
  have LJ:∀q,q < w.heap.size->T' q=T q:=fun q hq=>by
   show(if q=b2 then _ else if s8.aj=some q then _ else T q)=T q;rw[if_neg (by omega),if_neg (fun h=>by have:=s8b q h;omega)]
  let m':bJ:=⟨m.bm,m.r,fun i=>if i=n then b2 else m.bl i,fun i=>if i=n then s8 else m.sl i⟩
  have eb:∀i,i≠n->m'.bl i=m.bl i:=fun i hi=>if_neg hi
  have es:∀i,i≠n->m'.sl i=m.sl i:=fun i hi=>if_neg hi
  have ebn:m'.bl n=b2:=if_pos rfl;have esn:m'.sl n=s8:=if_pos rfl;have bA:∀p∈M.aC,p.1≠n:=fun p n_ h=>AY hp (List.mem_map.2 ⟨p,n_,h⟩)
  have ev:m'.qu M.aC=m.qu M.aC:=List.map_congr_left fun p n_=>by simp only[eb _ (bA p n_)]
  refine k0 n T' m' di Rr ⟨hn2,hp,dT⟩ ⟨?_,?_,fun p n_=>?_,?_,fun p n_=>?_,?_,?_,fun q hq=>?_,R.co,R.go,fun p n_=>?_⟩ rfl LJ ?_
  .exact ag R9.mem zx (nS R.tm (by decide))
  .have TY:=Sy.ext fH (by omega);rw[Dt hp]at TY
   have:m'.qu (M.aC++[(n,⟨t,k,v,⟨n,M.aG,M.gen⟩,P,false⟩)])=m.qu M.aC++[(n,.pointer (some ⟨b2,0,none⟩))]:=by
    simp only[bJ.qu,List.map_append,List.map_cons,List.map_nil,ebn];rw[show List.map (fun p=>(p.1,Value.pointer (some ⟨m'.bl p.1,0,none⟩))) M.aC=_ from ev]
   rw[this];exact TY
  .rcases List.mem_append.1 n_ with h | h
   .have pr:=(R9.pg p h).ext zx (nS (R9.pg p h).tb (by omega)) (fun q hq=>nS ((R9.pg p h).ts q hq) (by omega));have XG:=bA p h;refine⟨by rw[eb _ XG,es _ XG];exact pr.aj,by rw[es _ XG];exact pr.rd,by rw[eb _ XG,LJ _ (lt pr.tb)];exact pr.tb,fun q hq=>?_,pr.p8,pr.len,pr.rn,pr.ok⟩;rw[es _ XG]at hq;rw[LJ _ (lt (pr.ts q hq))];exact pr.ts q hq
   .rw[List.mem_singleton]at h;subst h;have nq:∀q,w.heap.size < q->¬ (q=m.r∨q=b):=fun q hq h=>by omega
    refine⟨?_,?_,?_,fun q hq=>?_,h8,Rr,rfl,⟨⟨by show(0:Int)<=n;omega,by show n<=4294967295;omega⟩,R.co,R.go⟩⟩
    .simp only[ebn,esn];exact ag n9.get zx (nq _ (by omega))
    .simp only[esn];exact(o8.rd.no n9.ext).ext zx fun a q ha hq=>nq q (by have:=s8b q (by simp[Sl.aj,ha,hq]);omega)
    .simp only[ebn];show(if b2=b2 then _ else _)=_;rw[if_pos rfl]
    .simp only[esn]at hq;show(if q=b2 then _ else if s8.aj=some q then _ else T q)=_;have:=s8b q hq;rw[if_neg (by omega),if_pos hq]
  .simp only[List.map_append,List.map_cons,List.map_nil];rw[List.nodup_append];refine⟨R.nd,by simp,fun a ha c hc e=>?_⟩;rw[List.mem_singleton]at hc;subst hc;subst e;exact AY hp ha
  .rcases List.mem_append.1 n_ with h | h
   .exact R.lo p h
   .rw[List.mem_singleton]at h;subst h;exact hn2
  .show T' m.bm=some 0;rw[LJ _ (lt R.tm)];exact R.tm
  .show T' m.r=some 1;rw[LJ _ (lt R.tr)];exact R.tr
  .rcases Nat.lt_or_ge q w.heap.size with h | h
   .omega
   .have hTq:T q=none:=by
     cases XA:T q with
     | none=>rfl
     | some t=>have:=lt XA;omega
    have Vy:(if q=b2 then some (2+2 * n.toNat) else if s8.aj=some q then some (3+2 * n.toNat) else T q)≠none:=hq;split at Vy
    .omega
    .split at Vy
     .rename_i h2;have:=s8b q h2;omega
     .exact(Vy hTq).elim
  .rcases List.mem_append.1 n_ with h | h
   .exact R.cm p h
   .rw[List.mem_singleton]at h;subst h;exact Int.le_refl _
  .refine(((n1.ext.no F_).no CG).aE).trans zx fun q hq h=>?_
   rcases h with h | h
   .rw[h];show T m.r≠none;rw[R.tr];simp
   .omega
end
end Go.Proofs.YtpjbalhhlaofmaaGreat
namespace Go.V
def w_(n:Int):List (Int×Pg)->List (Int×Pg)
 | []=>[]
 | p::m=>if n=p.1 then m else p::w_ n m
def jL(n:Int)(l:List (Int×Pg)):List (Int×Pg):=l.map fun p=>if p.1=n then(p.1,{ p.2 with waits:=true }) else p
def kQ(M:Mm)(r:Rf):Int×Mm:=match iC r.p M.aC with
 | none=>(7,M)
 | some p=>if p.waits=true∨p.r≠r then(7,M) else if r.c=M.aG then(0,{ M with aC:=w_ r.p M.aC }) else(0,{ M with aC:=jL r.p M.aC })
theorem Du(m:bJ)(n:Int):∀l:List (Int×Pg),CE n (m.qu l)=m.qu (w_ n l)
 | []=>rfl
 | q::l=>by
  simp only[bJ.qu,List.map_cons,CE,w_];split
  .rfl
  .rw[List.map_cons,show CE n (List.map _ l)=_ from Du m n l]
theorem oT(n:Int):∀l:List (Int×Pg),(w_ n l).Sublist l
 | []=>List.Sublist.refl _
 | q::l=>by
  unfold w_;split
  .exact List.sublist_cons_self _ _
  .exact(oT n l).cons_cons q
theorem uf{n:Int}{p:Pg}:∀{l:List (Int×Pg)},(l.map Prod.fst).Nodup->(n,p)∈l->iC n l=some p
 | [],_,h=>by cases h
 | q::l,hn,h=>by
  simp only[List.map_cons,List.nodup_cons]at hn;unfold iC;rcases List.mem_cons.1 h with h' | h'
  .subst h';rw[if_pos rfl]
  .rw[if_neg (fun e=>hn.1 (by rw[<- e];exact List.mem_map.2 ⟨_,h',rfl⟩))];exact uf hn.2 h'
theorem LU(n:Int)(l:List (Int×Pg)):(jL n l).map Prod.fst=l.map Prod.fst:=by
 unfold jL;rw[List.map_map];apply List.map_congr_left;intro p _;simp only[Function.comp];split <;> rfl
end Go.V
namespace Go.Proofs.YtpjbalhhlaofmaaGreat
open Go.V
section
variable {w:Wd} {T:Nat->Option Nat} {m:bJ} {M:Mm}
set_option maxHeartbeats 1000000 in
theorem pO{r:Rf}{K:Int->Pw}(R:bC w.heap T m M)(k:∀w',bC w'.heap T m (kQ M r).2->Ext (Ts T) w w'->K (kQ M r).1 w'):lk (some ⟨m.bm,0,none⟩) r.p r.c r.g w K:=by
 apply zt;refine af.mk fun b w1 n1=>If.no ⟨Ext No w1,(Ext.refl _ _).drew,Nn.mk ?_⟩
 have R1:=R.no n1.ext;have hb:=n1.get;have jk:=n1.at_;have R1d:bC (aa w1).heap T m M:=R1;have lt:∀{q t},T q=some t->q < w.heap.size:=fun h=>R.sup _ (by rw[h];simp)
 refine⟨some m.r,ae.cell (Cell.ah R1.mem rfl),_,ae.cell (Cell.ah hb rfl),_,aa w1,AZ R1d r.p,(Ext.refl _ _).drew,?_⟩
 cases hp:iC r.p M.aC with
 | none=>
  have e:kQ M r=(7,M):=by unfold kQ;rw[hp]
  rw[e]at k;exact⟨fun _=>False,⟨Ext No w1,(Ext.refl _ _).drew.drew,If.yes (k _ R1 (n1.ext.drew.drew).aE)⟩,fun _ _ h=>h.elim⟩
 | some p=>
  have P1:=R1.find hp;refine⟨fun w'=>w'=aa (aa w1)/\p.waits=false/\p.r=r,⟨Ext No w1,(Ext.refl _ _).drew.drew,If.no (Nn.mk ⟨_,ae.cell (Cell.ah P1.aj rfl),If.cases (fun h=>?_) fun h=>?_⟩)⟩,?_⟩
  .have e:kQ M r=(7,M):=by unfold kQ;rw[hp];simp only;rw[if_pos (.inl h)]
   rw[e]at k;exact k _ R1 (n1.ext.drew.drew).aE
  .refine Nn.mk ⟨_,ae.cell (Cell.ah P1.aj rfl),_,ae.cell (Cell.ah P1.aj rfl),_,ae.cell (Cell.ah P1.aj rfl),_,ae.cell (Cell.ah hb rfl),_,ae.cell (Cell.ah hb rfl),_,ae.cell (Cell.ah hb rfl),?_⟩;dsimp only;rw[vx p.r r];refine If.not (If.dec (fun h'=>⟨rfl,h,h'⟩) fun h'=>?_);have e:kQ M r=(7,M):=by unfold kQ;rw[hp];simp only;rw[if_pos (.inr h')]
   rw[e]at k;exact k _ R1 (n1.ext.drew.drew).aE
  rintro _ w3 ⟨rfl,hw,hr⟩;refine⟨Ext No w1,(Ext.refl _ _).drew.drew.drew,_,ae.cell (Cell.ah hb rfl),Nn.mk ⟨_,ae.cell (Cell.ah R1.mem rfl),If.beq (fun hc=>?_) fun hc=>?_⟩⟩
  .have e:kQ M r=(0,{ M with aC:=w_ r.p M.aC }):=by unfold kQ;rw[hp];simp only;rw[if_neg (by rw[hw,hr];simp),if_pos hc]
   rw[e]at k;refine⟨Ext (·=m.r) w1,(Ext.refl _ _).drew.drew.drew.drew,Nn.mk ⟨some m.r,ae.dI (Cell.ah R1.mem rfl) (fun h=>by have:=R.tm;rw[h,R.tr]at this;cases this),_,ae.dI (Cell.ah hb rfl) (fun h=>by have:=lt R.tr;omega),?_⟩⟩;obtain⟨w4,Ba,Sy,x4,z4⟩:=Jt (w:=aa (aa (aa (aa w1)))) (a:=r.p) (mt:=95) (et:=124) (t:=0) Fq (by kernel_rfl) R1.map;have fI:Ext (·=m.r) w1 w4:=((x4.ar).ar.ar).ar;refine⟨w4,Ba,fI,k w4 ?_ ((n1.ext.aE).trans fI fun q hq h=>by rw[h];show T m.r≠none;rw[R.tr];simp)⟩;have nS:∀{q t},T q=some t->t≠1->¬ (q=m.r):=fun h ht h'=>by rw[h',R.tr]at h;cases h;exact ht rfl
   rw[Du]at Sy;refine⟨ag R1.mem fI (nS R.tm (by decide)),Sy,fun q hq=>?_,?_,fun q hq=>R.lo q ((oT _ _).subset hq),R.tm,R.tr,fun q h=>Nat.lt_of_lt_of_le (R1.sup q h) fI.size,R.co,R.go,fun q hq=>R.cm q ((oT _ _).subset hq)⟩
   .have:=R1.pg q ((oT _ _).subset hq);exact this.ext fI (nS this.tb (by omega)) (fun c hc=>nS (this.ts c hc) (by omega))
   .exact R.nd.sublist ((oT _ _).map _)
  .have e:kQ M r=(0,{ M with aC:=jL r.p M.aC }):=by unfold kQ;rw[hp];simp only;rw[if_neg (by rw[hw,hr];simp),if_neg hc]
   rw[e]at k;have P1d:(aa (aa (aa w1))).heap[m.bl r.p]? = some (.cells (p.cs (m.sl r.p)).toArray 128 (0,0)):=P1.aj;refine Nn.mk (aQ.mk P1d (by show 7 < 8;decide) rfl fun w5 h5=>?_);have x5:Ext (·=m.bl r.p) w1 w5:=((Ext.ar (h5.ext)).ar).ar;have g5:w5.heap[m.bl r.p]? = some (.cells ({ p with waits:=true }.cs (m.sl r.p)).toArray 128 (0,0)):=h5.get P1d;have z5:w5.heap.size=w1.heap.size:=h5.size;refine k w5 ?_ ((n1.ext.aE).trans x5 fun q hq h=>by rw[h];show T (m.bl r.p)≠none;rw[P1.tb];simp);have nS:∀{q t},T q=some t->t≠2+2 * r.p.toNat->¬ (q=m.bl r.p):=fun h ht h'=>by rw[h',P1.tb]at h;cases h;exact ht rfl
   have hpm:=vF hp;refine⟨ag R1.mem x5 (nS R.tm (by omega)),?_,fun q hq=>?_,by rw[LU];exact R.nd,fun q hq=>?_,R.tm,R.tr,fun q h=>Nat.lt_of_lt_of_le (R1.sup q h) x5.size,R.co,R.go,fun q hq=>?_⟩
   .have:m.qu (jL r.p M.aC)=m.qu M.aC:=by
     unfold jL bJ.qu;rw[List.map_map];apply List.map_congr_left;intro q _;simp only[Function.comp];split <;> rfl
    rw[this];exact R1.map.ext x5 (nS R.tr (by omega))
   .obtain⟨q0,OL,rfl⟩:=List.mem_map.1 hq;have pr:=R1.pg q0 OL;have l0:=R.lo q0 OL;have l1:=R.lo _ hpm;simp only at l1;split
    .rename_i he
     have e2:q0.2=p:=by
      have h1:=uf (n:=q0.1) (p:=q0.2) R.nd OL;rw[he,hp]at h1;exact(Option.some.inj h1).symm
     rw[e2]at pr ⊢;refine⟨by simp only[he];exact g5,(pr.rd.ext x5 fun a c ha hc=>nS (pr.ts c (by simp[Sl.aj,ha,hc])) (by rw[he];omega)),pr.tb,pr.ts,pr.p8,pr.len,pr.rn,pr.ok⟩
    .rename_i he;exact pr.ext x5 (nS pr.tb (by omega)) (fun c hc=>nS (pr.ts c hc) (by omega))
   .obtain⟨q0,OL,rfl⟩:=List.mem_map.1 hq;have:=R.lo q0 OL;split <;> exact this
   .obtain⟨q0,OL,rfl⟩:=List.mem_map.1 hq;have:=R.cm q0 OL;split <;> exact this
end
theorem Sz(kind:Int)(e:aF):1<=(wrE kind e).length:=by unfold wrE;simp only[List.length_append,List.length_cons];omega
theorem fZ{kind lev:Int}{l:List aF}(h:(wr kind lev l).length<=224):l.length<=221:=by
 have:∀l:List aF,l.length<=(l.flatMap (wrE kind)).length:=by
  intro l
  induction l with
  | nil=>simp
  | cons e l ih=>have:=Sz kind e;simp only[List.flatMap_cons,List.length_append,List.length_cons];omega
 have:=this l;unfold wr at h;simp only[List.length_append,List.length_cons,List.length_nil]at h;omega
section
variable {w:Wd} {b:Sl} {P:List Int}
def Fs(n0:Nat)(cO:Wd)(K:Int->Int->Sl->Int->Int->Pw):Prop:=
 ∃wG:Value,Cell cO (Addr.mk (n0+5) 0 none) (wG)/\
 aD pz true wG [.int .i64 1,.func (.func 132) #[] #[]] [.one (.int .u64)] (fun r cM=>
 Ar .u8 r fun z=>
 aQ cM (Addr.mk (n0+1) 0 none) (.int .u8 z) fun dY=>
 ∃Cn:Value,Cell dY (Addr.mk (n0+5) 0 none) (Cn)/\
 aD pz true Cn [.int .i64 1,.func (.func 133) #[] #[.pointer (some (Addr.mk (n0+1) 0 none))]] [.one (.int .u64)] (fun r_1 kE=>
 Ar .u8 r_1 fun z_1=>
 aQ kE ((Addr.mk (n0+1) 0 none).add 1) (.int .u8 z_1) fun fR=>
 ∃Hi:Value,Cell fR (Addr.mk (n0+5) 0 none) (Hi)/\
 aD pz true Hi [.int .i64 1,.func (.func 135) #[] #[.pointer (some (Addr.mk (n0+1) 0 none))]] [.one (.int .u64)] (fun Vz vG=>
 ∃J5:Pw,(
 af vG (.cells [.int .i64 0].toArray 3) fun Bb uK=>
 aQ uK (Addr.mk Bb 0 none) (.int .i64 0) fun oc=>
 ∃I1:Nat->Addr->Pw,(∃m,I1 m (Addr.mk Bb 0 none) oc)/\∀(_:Env)(m0:Nat)(i:Addr)(uL:Wd),I1 m0 i uL->
 ∃J4:Pw,(
 ∃OM:Int,Cell uL i (.int .i64 OM)/\
 Ar .i64 Vz fun TZ=>
 If (decide (OM < TZ)) (
 ∃ON:Int,Cell uL (Addr.mk (n0+3) 0 none) (.int .i64 ON)/\
 If (decide (ON < 0)) (
 J4 uL) (
 J5 uL)) (
 J5 uL))/\∀(_:Env)(pf:Wd),J4 pf->
 af pf (.cells (I_ 0 0 0 0 0 0 0).toArray 151) fun Ga rJ=>
 aD pz true (.func (.func 127) #[] #[.pointer (some (Addr.mk (n0+5) 0 none)),.pointer (some (Addr.mk (n0+2) 0 none)),.pointer (some (Addr.mk (n0+3) 0 none)),.pointer (some (Addr.mk n0 0 none))]) [.func (.func 136) #[] #[.pointer (some (Addr.mk (n0+1) 0 none)),.pointer (some i)]] [.one (.sl)] (fun LV te=>
 aQ te (Addr.mk Ga 0 none) LV.u fun dH=>
 ∃J3:Pw,(
 ∃J2:Bool->Pw,(
 ∃S:Pw,S (aa dH)/\
 ∃pP:Int,ae S (Addr.mk (n0+3) 0 none) (.int .i64 pP)/\
 If (decide (pP < 0)) (
 ∃nV:Int,ae S i (.int .i64 nV)/\
 If (decide (nV > 0)) (
 ∃qv:Sl,ae S ((Addr.mk (n0+1) 0 none).add 2) qv.u/\
 ∃qw:Int,ae S i (.int .i64 qw)/\
 Ar .i64 (qw - 1) fun Rv=>
 Ix qv.a qv.len Rv 9 fun a=>
 ∃ig:Sl,ae S a ig.u/\
 ∃kT:Sl,ae S (Addr.mk Ga 0 none) kT.u/\
 ct ig kT (aa dH) fun T0 Bc=>
 S Bc/\
 J2 (decide (T0≥0)) Bc) (
 J2 false ((aa dH)))) (
 J2 false ((aa dH))))/\∀(_:Env)(t:Bool)(qB:Wd),J2 t qB->
 If t (
 ∃mM:Value,Cell qB (Addr.mk (n0+4) 0 none) (mM)/\
 ∃Dv:Int,Cell qB (Addr.mk (n0+2) 0 none) (.int .i64 Dv)/\
 ∃yf:Sl,Cell qB (Addr.mk Ga 0 none) yf.u/\
 Ar .i64 (Dv - ((yf.len:Int))) fun SA=>
 aD pz true mM [.int .i64 SA] [] (fun zU=>
 J3 zU) cc qB) (
 J3 qB))/\∀(_:Env)(zy:Wd),J3 zy->
 ∃J1:Pw,(
 ∃rF:Int,Cell zy (Addr.mk (n0+1) 0 none) (.int .u8 rF)/\
 If (rF == 2) (
 aD pz true (.func (.func 130) #[] #[.pointer (some (Addr.mk (n0+3) 0 none)),.pointer (some (Addr.mk (n0+2) 0 none)),.pointer (some (Addr.mk n0 0 none)),.pointer (some (Addr.mk (n0+4) 0 none)),.pointer (some (Addr.mk (n0+5) 0 none)),.pointer (some (Addr.mk (n0+6) 0 none))]) [] [.agg [.one (.int .u32),.one (.int .u64),.one (.int .u16)]] (fun r0 OI Hu vE=>
 List.length (α:=Value) (iT r0 OI Hu)=3/\gT vE ((Addr.mk Ga 0 none).add 6) (iT r0 OI Hu) fun OJ=>
 J1 OJ) cc zy) (
 ∃td:Value,Cell zy (Addr.mk (n0+5) 0 none) (td)/\
 aD pz true td [.int .i64 1,.func (.func 138) #[] #[]] [.one (.int .u64)] (fun IA IB=>
 If (IA == 1) (
 ∃rG:Value,Cell IB (Addr.mk (n0+5) 0 none) (rG)/\
 aD pz true rG [.int .i64 2,.func (.func 139) #[] #[]] [.one (.int .u64)] (fun Ru Y7=>
 Ar .i64 Ru fun Sx=>
 aQ Y7 ((Addr.mk Ga 0 none).add 2) (.int .i64 Sx) fun rH=>
 aD pz true (.func (.func 130) #[] #[.pointer (some (Addr.mk (n0+3) 0 none)),.pointer (some (Addr.mk (n0+2) 0 none)),.pointer (some (Addr.mk n0 0 none)),.pointer (some (Addr.mk (n0+4) 0 none)),.pointer (some (Addr.mk (n0+5) 0 none)),.pointer (some (Addr.mk (n0+6) 0 none))]) [] [.agg [.one (.int .u32),.one (.int .u64),.one (.int .u16)]] (fun Jw Jx Jy NB=>
 List.length (α:=Value) (iT Jw Jx Jy)=3/\gT NB ((Addr.mk Ga 0 none).add 3) (iT Jw Jx Jy) fun Dr=>
 J1 Dr) cc rH) cc IB) (
 aD pz true (.func (.func 127) #[] #[.pointer (some (Addr.mk (n0+5) 0 none)),.pointer (some (Addr.mk (n0+2) 0 none)),.pointer (some (Addr.mk (n0+3) 0 none)),.pointer (some (Addr.mk n0 0 none))]) [.func (.func 140) #[] #[]] [.one (.sl)] (fun OK Jz=>
 aQ Jz ((Addr.mk Ga 0 none).add 1) OK.u fun Kz=>
 J1 Kz) cc IB)) cc zy))/\∀(_:Env)(zA:Wd),J1 zA->
 ∃Bd:Sl,Cell zA ((Addr.mk (n0+1) 0 none).add 2) Bd.u/\
 ∃oN:Sl,Cell zA (Addr.mk Ga 0 none) oN.u/\
 ∃oO:Sl,Cell zA ((Addr.mk Ga 0 none).add 1) oO.u/\
 ∃jY:Int,Cell zA ((Addr.mk Ga 0 none).add 2) (.int .i64 jY)/\
 ∃qA:Int,Cell zA ((Addr.mk Ga 0 none).add 3) (.int .u32 qA)/\
 ∃oP:Int,Cell zA ((Addr.mk Ga 0 none).add 4) (.int .u64 oP)/\
 ∃lG:Int,Cell zA ((Addr.mk Ga 0 none).add 5) (.int .u16 lG)/\
 ∃OO:Int,Cell zA ((Addr.mk Ga 0 none).add 6) (.int .u32 OO)/\
 ∃Be:Int,Cell zA ((Addr.mk Ga 0 none).add 7) (.int .u64 Be)/\
 ∃ug:Int,Cell zA ((Addr.mk Ga 0 none).add 8) (.int .u16 ug)/\
 af zA (.cells (sY oN oO jY qA oP lG OO Be ug).toArray 151) fun VA NF=>
 bg pz 140 140 Bd (.slice (some (Addr.mk VA 0 none)) 1 1) (fun s uM=>
 aQ uM ((Addr.mk (n0+1) 0 none).add 2) s.u fun rK=>
 ∃Bf:Int,Cell rK i (.int .i64 Bf)/\
 af rK (.cells [.int .i64 0].toArray 3) fun SB Rw=>
 aQ Rw (Addr.mk SB 0 none) (.int .i64 Bf) fun CI=>
 ∃Dw:Int,Cell CI (Addr.mk SB 0 none) (.int .i64 Dw)/\
 Ar .i64 (Dw+1) fun VB=>
 aQ CI (Addr.mk SB 0 none) (.int .i64 VB) fun OP=>
 ∃m1,m1 < m0/\I1 m1 (Addr.mk SB 0 none) OP) NF) cc rJ)/\∀(_:Env)(T3:Wd),J5 T3->
 ∃J0:Pw,(
 ∃I0:Nat->Pw,(∃m,I0 m T3)/\∀(_:Env)(Y9:Nat)(KA:Wd),I0 Y9 KA->
 ∃yh:Int,Cell KA (Addr.mk (n0+3) 0 none) (.int .i64 yh)/\
 If (decide (yh < 0)) (
 ∃yi:Int,Cell KA (Addr.mk (n0+2) 0 none) (.int .i64 yi)/\
 If (decide (yi < 224)) (
 ∃Bg:Value,Cell KA (Addr.mk (n0+5) 0 none) (Bg)/\
 aD pz true Bg [.int .i64 1,.func (.func 141) #[] #[]] [.one (.int .u64)] (fun _r_8 Hv=>
 ∃Y_,Y_ < Y9/\I0 Y_ Hv) cc KA) (
 J0 KA)) (
 J0 KA))/\∀(_:Env)(zC:Wd),J0 zC->
 ∃yj:Int,Cell zC (Addr.mk (n0+3) 0 none) (.int .i64 yj)/\
 If (decide (yj≥0)) (
 ∃S:Pw,S (aa zC)/\
 ∃Bh:Int,ae S (Addr.mk (n0+3) 0 none) (.int .i64 Bh)/\
 List.length (α:=Value) (jQ 0 0)=3/\gT (aa zC) (Addr.mk (n0+1) 0 none) (jQ 0 0) fun NG=>
 S NG/\
 ∃Ft:Int,Cell NG (Addr.mk (n0+1) 0 none) (.int .u8 Ft)/\
 ∃Fu:Int,Cell NG ((Addr.mk (n0+1) 0 none).add 1) (.int .u8 Fu)/\
 ∃oU:Sl,Cell NG ((Addr.mk (n0+1) 0 none).add 2) oU.u/\
 K Ft Fu oU 5 Bh NG) (
 ∃uh:Int,Cell zC (Addr.mk (n0+1) 0 none) (.int .u8 uh)/\
 ∃vH:Int,Cell zC ((Addr.mk (n0+1) 0 none).add 1) (.int .u8 vH)/\
 ∃oW:Sl,Cell zC ((Addr.mk (n0+1) 0 none).add 2) oW.u/\
 List.length (α:=Value) (cY uh vH oW)=3/\gT zC (Addr.mk (n0+1) 0 none) (cY uh vH oW) fun LW=>
 ∃lY:Int,Cell LW (Addr.mk (n0+1) 0 none) (.int .u8 lY)/\
 ∃lZ:Int,Cell LW ((Addr.mk (n0+1) 0 none).add 1) (.int .u8 lZ)/\
 ∃nW:Sl,Cell LW ((Addr.mk (n0+1) 0 none).add 2) nW.u/\
 K lY lZ nW 0 0 LW)) cc fR) cc dY) cc cO
theorem vI{K:Int->Int->Sl->Int->Int->Pw}(hb:b_ w.heap b P)(h8:B8 P)(hl:P.length=224)
  (k:∀cO,eA cO.heap w.heap.size b P 0 0 ⟨none,0,0⟩ 0 (-1)->cO.heap.size=w.heap.size+7->Ext No w cO->Fs w.heap.size cO K):fL b w K:=by
 apply Co;have oQ:=b_.len hb
 refine af.mk fun b1 w1 n1=>af.mk fun b2 w2 n2=>⟨_,Cell.ah (ad n1.get n2.ext) rfl,If.bne (fun h=>by omega) fun _=>?_⟩
 refine af.mk fun b3 w4 n4=>af.mk fun b4 w5 n5=>?_
 have jk:=n1.at_;have jN:=n2.at_;have vB:=n4.at_;have Hm:=n5.at_;have z1:=n1.size;have z2:=n2.size;have z4:=n4.size;have z5:=n5.size;refine aQ.b1 (ad n4.get n5.ext) rfl fun w6 h6=>aQ.b1 (T:=3) (v:= .int .i64 0) (by rw[h6.other (by omega)];exact n5.get) rfl fun w7 h7=>af.mk fun b5 w8 n8=>aQ.b1 n8.get rfl fun w9 h9=>af.mk fun b6 dV lE=>aQ.b1 lE.get rfl fun di CH=>af.mk fun b7 eN mN=>aQ.b1 mN.get rfl fun cO Rx=>?_
 have LK:=n8.at_;have Y1:=lE.at_;have Y2:=mN.at_;have z6:=h6.size;have z7:=h7.size;have z8:=n8.size;have z9:=h9.size;have Kv:=lE.size;have ND:=CH.size;have OQ:=mN.size;have JA:=Rx.size;have x2:Ext No w w2:=n1.ext.no n2.ext;have x5:=(x2.no n4.ext).no n5.ext;have ew:Ext No w cO:=(((((((x5.trans h6.ext fun i hi h=>by omega).trans h7.ext fun i hi h=>by omega).no n8.ext).trans h9.ext fun i hi h=>by omega).no lE.ext).trans CH.ext fun i hi h=>by omega).no mN.ext).trans Rx.ext fun i hi h=>by omega
 have k:=k cO;generalize wm:w.heap.size=n0 at *;have e1:b1=n0:=by omega
 have e2:b2=n0+1:=by omega
 have e3:b3=n0+2:=by omega
 have e4:b4=n0+3:=by omega
 have e5:b5=n0+4:=by omega
 have e6:b6=n0+5:=by omega
 have e7:b7=n0+6:=by omega
 subst e1 e2 e3 e4 e5 e6 e7;have y13:∀{i:Nat}{o:Obj},i≠b1+6->eN.heap[i]? = some o->cO.heap[i]? = some o:=fun hi ho=>by rw[Rx.other hi];exact ho
 have y11:∀{i:Nat}{o:Obj},i≠b1+5->i≠b1+6->dV.heap[i]? = some o->cO.heap[i]? = some o:=fun hi h6 ho=>y13 h6 (ad (by rw[CH.other hi];exact ho) mN.ext)
 have y9:∀{i:Nat}{o:Obj},i≠b1+4->i≠b1+5->i≠b1+6->w8.heap[i]? = some o->cO.heap[i]? = some o:=fun h4 h5 h6 ho=>y11 h5 h6 (ad (by rw[h9.other h4];exact ho) lE.ext)
 have y7:∀{i:Nat}{o:Obj},i < b1+4->w7.heap[i]? = some o->cO.heap[i]? = some o:=fun hi ho=>y9 (by omega) (by omega) (by omega) (ad ho n8.ext)
 have y5:∀{i:Nat}{o:Obj},i < b1+2->w5.heap[i]? = some o->cO.heap[i]? = some o:=fun hi ho=>y7 (by omega) (by rw[h7.other (by omega),h6.other (by omega)];exact ho)
 refine k ⟨y5 (by omega) (ad n1.get ((n2.ext.no n4.ext).no n5.ext)),y5 (by omega) (ad n2.get (n4.ext.no n5.ext)),y7 (by omega) ?_,y7 (by omega) ?_,?_,?_,?_,Rd.no hb ew,fun i hi bA=>?_,h8,hl⟩ (by omega) ew
 .rw[h7.other (by omega)];exact h6.get (ad n4.get n5.ext)
 .exact h7.get (by rw[h6.other (by omega)];exact n5.get)
 .exact y11 (by omega) (by omega) (ad (h9.get n8.get) lE.ext)
 .exact y13 (by omega) (ad (CH.get lE.get) mN.ext)
 .exact Rx.get mN.get
 .obtain⟨bb,o,ha,hc⟩:=Rd.at_ hb (by simpa using bA);have:i=bb:=by simp[Sl.aj,ha]at hi;exact hi.symm
  subst this;have:=oM (hc 0 (by simp;omega));omega
end
section
variable {w:Wd} {n0:Nat} {b:Sl} {P:List Int} {kind lev:Int} {ls:Sl} {place fault:Int}
structure acp(w0:Wd)(n0:Nat)(b:Sl)(P:List Int)(kind lev:Int)(l:List aF)(j:Nat)(bi:Nat)(w:Wd)(ls:Sl)(L:List (aL×aF)):Prop where
 d:eA w.heap n0 b P kind lev ls ((([kind,lev,(l.length % 256:Int)]++(l.take j).flatMap (wrE kind)).length:Nat):Int) (-1)
 nd:ic w.heap (n0+7) ls L
 el:ents L=l.take j
 hi:w.heap[bi]? = some (.cells [.int .i64 (j:Int)].toArray 3 (0,0))
 lo:n0+7<=bi
 ne:ls.aj≠some bi
 x:Ext No w0 w
set_option maxHeartbeats 4000000 in
theorem Dx{l:List aF}{K:Int->Int->Sl->Int->Int->Pw}(hb:b_ w.heap b (pad (wr kind lev l)))(hr:aH kind lev l)(hs:(wr kind lev l).length<=224)(h8:B8 (pad (wr kind lev l)))(Ca:∀e∈l,e.ch.ok/\e.cd.ok)
  (k:∀s L w',ic w'.heap w.heap.size s L->ents L=l->Ext No w w'->K kind lev s 0 0 w'):fL b w K:=by
 have IY:=fZ hs;have Rr:(pad (wr kind lev l)).length=224:=Kw hs;refine vI hb h8 Rr fun cO d13 JA ew=>?_
 have zS:(kind=1/\lev=0)∨(kind=2/\1<=lev/\lev<=30):=hr.shape;generalize wm:w.heap.size=n0 at *;have aeX:((l.length:Int) % 256)=l.length:=by omega
 have hP0:pad (wr kind lev l)=[kind,lev,((l.length:Int) % 256)]++(l.flatMap (wrE kind)++List.replicate (224 - (wr kind lev l).length) 0):=by simp[pad,wr]
 have wW:=fun i (hi:i < l.length)=>Vw (kind:=kind) (lev:=lev) hi
 generalize hP:pad (wr kind lev l)=P at *;unfold Fs;have mK:∀{a c:Wd}{S:Nat->Prop},Ext No w a->Ext S a c->(∀i,S i->n0<=i)->Ext No w c:=fun x y h=>x.trans y fun i hi hS=>by have:=h i hS;omega
 -- the kind
 refine⟨_,Cell.ah d13.c6 rfl,jl (pre:=[]) (x:=[kind]) (suf:=[lev,((l.length:Int) % 256)]++(l.flatMap (wrE kind)++List.replicate (224 - (wr kind lev l).length) 0)) d13 (by rw[hP0];rfl) rfl (by decide) (by decide) (fun K' hK=>qg (qf ?_)) fun cM d14 fI OR=>?_⟩
 .have e:num [kind]=kind:=by simp[num]
  unfold lq;rw[e];refine If.beq (fun _=>hK) fun h=>?_
  rw[show(kind == 2)=true by simp;omega];exact hK
 have e:num [kind]=kind:=by simp[num]
 rw[e];refine Ar.u8 (by omega) (aQ.mk d14.c2 (by simp) rfl fun dY OS=>?_);have d15:eA dY.heap n0 b P kind 0 ⟨none,0,0⟩ ((([kind]:List Int).length:Nat):Int) (-1):=d14.setNode OS;have sN:=mK (mK ew fI fun i h=>by omega) OS.ext fun i h=>by have h:i=n0+1:=h;omega
 -- the level
 have e:num [lev]=lev:=by simp[num]
 refine⟨_,Cell.ah d15.c6 rfl,jl (x:=[lev]) (suf:=[((l.length:Int) % 256)]++(l.flatMap (wrE kind)++List.replicate (224 - (wr kind lev l).length) 0)) d15 (by rw[hP0];rfl) rfl (by decide) (by decide) (fun K' hK=>y_ (yZ ?_)) fun kE d16 qC VC=>?_⟩
 .rw[e];refine⟨_,Cell.ah d15.c2 rfl,Ar.u8 (by omega) (AO ?_)⟩;rw[decide_eq_true hr.shape];exact hK
 rw[e];refine Ar.u8 (by omega) (aQ.mk d16.c2 (by simp) rfl fun fR KB=>?_);have d17:eA fR.heap n0 b P kind lev ⟨none,0,0⟩ ((([kind,lev]:List Int).length:Nat):Int) (-1):=d16.setNode KB;have l_:=mK (mK sN qC fun i h=>by omega) KB.ext fun i h=>by have h:i=n0+1:=h;omega
 -- how many
 have e:num [((l.length:Int) % 256)]=l.length:=by simp[num];omega
 refine⟨_,Cell.ah d17.c6 rfl,jl (x:=[((l.length:Int) % 256)]) (suf:=l.flatMap (wrE kind)++List.replicate (224 - (wr kind lev l).length) 0) d17 (by rw[hP0];rfl) rfl (by decide) (by decide) (fun K' hK=>yY (yX ?_)) fun vG d18 tf z18=>?_⟩
 .rw[e]
  refine If.dec (fun _=>hK) fun h=>⟨_,Cell.ah d17.c2 rfl,?_⟩
  have:kind≠2:=fun h2=>hr.some h2 (List.eq_nil_of_length_eq_zero (by omega))
  rw[show(kind == 1)=true by simp;omega];exact hK
 rw[e];have OT:=mK l_ tf fun i h=>by omega
 have aeY:vG.heap.size=n0+7:=by have:=OS.size;have:=KB.size;omega
 refine⟨fun w'=>∃s L,ic w'.heap (n0+7) s L/\ents L=l/\Ext No w w'/\eA w'.heap n0 b P kind lev s ((wr kind lev l).length:Nat) (-1),?_,?_⟩
 .refine af.mk fun b8 uK NH=>aQ.b1 NH.get rfl fun oc OU=>?_
  have z19:=NH.size;have z20:=OU.size;have Ku:=NH.at_;refine⟨fun m i w'=>∃j bi ls L,i=A1 bi/\j<=l.length/\m=l.length - j/\acp w n0 b P kind lev l j bi w' ls L,⟨l.length,0,b8,⟨none,0,0⟩,[],rfl,by omega,by omega,?_,ic.nil _ _,by simp,OU.get NH.get,by omega,by simp[Sl.aj],mK (OT.no NH.ext) OU.ext fun i h=>by omega⟩,?_⟩
  .have:=(d18.no NH.ext).ext OU.ext fun i hi h=>by omega
   simpa using this
  rintro _ m0 i uL ⟨j,bi,ls,L,rfl,hj,hm,D⟩;refine⟨fun w'=>w'=uL/\j < l.length,?_,?_⟩
  .refine⟨_,Cell.ah D.hi rfl,Ar.i64 (by omega) (If.dec (fun h=>⟨_,Cell.ah D.d.c4 rfl,If.dec (fun _=>⟨rfl,by omega⟩) fun h=>by omega⟩) fun h=>?_)⟩;have eO:j=l.length:=by omega
   refine⟨ls,L,D.nd,by rw[D.el,eO,List.take_length],D.x,?_⟩;have:=D.d;rw[eO,List.take_length]at this;exact this
  rintro _ pf ⟨rfl,eO⟩;have hcj:=wW j eO;generalize LH:[kind,lev,((l.length:Int) % 256)]++(l.take j).flatMap (wrE kind)=pre at *;generalize aeZ:(l.drop (j+1)).flatMap (wrE kind)++List.replicate (224 - (wr kind lev l).length) 0=suf at *;have T4:=hr.h_ j eO;have hoe:=Ca _ (List.getElem_mem eO);generalize hee:l[j]=e at *
  have ae0:e.key.length<=32:=by
   have:=T4.1;unfold lX at this;split at this <;> omega
  have ek:((e.key.length:Int) % 256)=e.key.length:=by omega
  have dd:=D.d;rw[LH]at dd;have TV:=blt D.hi;refine af.mk fun b9 rJ OV=>?_
  have Rt:=OV.at_;have z23:=OV.size;have d23:=dd.no OV.ext;have Za:=ad D.hi OV.ext;have hPk:P=pre++(((e.key.length:Int))::e.key++(restB kind e++suf)):=by rw[hcj,OH,ek];simp
  have T6:B8 e.key:=h8.sub fun y hy=>by rw[hPk];simp[hy]
  have h8r:B8 (restB kind e):=h8.sub fun y hy=>by rw[hPk];simp[hy]
  refine Ky (x:=e.key) (suf:=restB kind e++suf) d23 hPk (by have:=D.lo;omega) rfl (fun w' K' x' hK=>yW (yV ?_)) fun r3 te d24 o24 qm=>?_
  .refine⟨_,Cell.ah (ad d23.c2 x') rfl,_,Cell.ah (ad Za x') rfl,Ar.i64 (by omega) (Hl ?_)⟩;rw[decide_eq_true T4.1];exact hK
  have lo:=D.lo;have se:=ag OV.get qm (by omega);refine aQ.mk se (by simp) rfl fun dH OW=>?_
  have wo:dH.heap[b9]? = some (.cells (aL.cs ⟨r3,⟨none,0,0⟩,0,.z,.z⟩).toArray 151 (0,0)):=OW.get se;have yl:Ext (·=b9) te dH:=OW.ext;have z25:dH.heap.size=te.heap.size:=OW.size;have s24:=qm.size
  have d25:eA dH.heap n0 b P kind lev ls ((pre++((e.key.length:Int)::e.key)).length:Nat) (-1):=by
   have e5:(((pre++((e.key.length:Int)::e.key)).length:Nat):Int)=(pre.length:Int)+1+e.key.length:=by simp;omega
   rw[e5];exact d24.ext yl fun q hq h=>by omega
  have o25:aK dH.heap rJ.heap.size r3 e.key:=o24.ext yl fun q hq h=>by have:=(o24.lt hq).1;omega
  have VD:Ext (fun q=>q=n0+2∨q=b9) pf dH:=((OV.ext.aE).trans (qm.mono fun _ _ h=> .inl h) fun _ _ h=>h).trans yl fun _ _ h=> .inr h
  have VE:ic dH.heap (n0+7) ls L:=D.nd.ext VD fun q h1 h2 h=>by omega
  have Zb:=ag D.hi VD (by omega);refine⟨fun w'=>w'=aa dH,⟨fun t w'=>t=false/\w'=aa dH,?_,?_⟩,?_⟩
  .refine⟨Ext No dH,(Ext.refl _ _).drew,_,ae.cell (Cell.ah d25.c4 rfl),If.dec (fun _=>⟨_,ae.cell (Cell.ah Zb rfl),If.dec (fun h0=>?_) fun _=>⟨rfl,rfl⟩⟩) fun _=>⟨rfl,rfl⟩⟩;have Gb:L.length=j:=by have:=congrArg List.length D.el;simp only[List.length_map,List.length_take]at this;omega
   have nl:=VE.nd.len;refine⟨_,ae.cell (Cell.ah d25.c2 rfl),_,ae.cell (Cell.ah Zb rfl),Ar.i64 (by omega) (Ix.elem VE.own.rd (bO L) (by decide) (by omega) (by omega) fun b2 o2 uJ _ hc=>⟨_,ae.cell (hc 0 _ rfl),_,ae.cell (Cell.ah wo rfl),?_⟩)⟩;have e2:((j:Int) - 1).toNat=j - 1:=by omega
   simp only[e2]at uJ ⊢;have ea:=VE.nd.get uJ
   have hlk:L[j - 1].2=l[j - 1]:=by
    have:(ents L)[j - 1]? = (l.take j)[j - 1]?:=by rw[D.el]
    rw[List.getElem?_map,List.getElem?_eq_getElem uJ,List.getElem?_take_of_lt (by omega),List.getElem?_eq_getElem (by omega)]at this;simpa using this
   refine gz (w:=aa dH) ea.k o25.rd ea.k8 T6 ⟨(Ext.refl _ _).drew,decide_eq_false fun hc=>?_,rfl⟩;have:=hr.ord (j - 1) (by omega);simp only[show j - 1+1=j by omega]at this;rw[hlk]at hc;exact lW.1 hc (by rw[<- hee];exact this)
  .rintro _ t qB ⟨rfl,rfl⟩;exact If.no rfl
  rintro _ zy rfl;refine⟨fun w'=>∃x,Got w' n0 b9 dH.heap.size r3 e x/\eA w'.heap n0 b P kind lev ls (pre.length+(wrE kind e).length) (-1)/\Ext (fun q=>q=n0+2∨q=b9) dH w',?_,?_⟩
  .refine Sw (w:=aa dH) (pre:=pre++((e.key.length:Int)::e.key)) (suf:=suf) d25 (by rw[hPk];simp) (by omega) wo T4 hoe.1 hoe.2 fun w' x gx dx xx=>⟨x,gx,?_,xx.ar⟩
   have e5:(((pre++((e.key.length:Int)::e.key)).length:Nat):Int)+((restB kind e).length:Nat)=(pre.length:Int)+((wrE kind e).length:Nat):=by rw[OH];simp;omega
   rw[<- e5];exact dx
  rintro _ zA ⟨x,gx,d39,VF⟩;have s39:=VF.size;refine⟨_,Cell.ah d39.c2 rfl,eW gx.aj (af.mk fun b10 NF SC=>?_)⟩;have OX:Ext (fun q=>q=n0+2∨q=b9) pf zA:=VD.trans VF fun _ _ h=>h
  have OY:ic NF.heap (n0+7) ls L:=(D.nd.ext OX fun q h1 h2 h=>by omega).no SC.ext;have d40:=d39.no SC.ext;have acq:=ad (ag D.hi OX (by omega)) SC.ext;have z40:=SC.size;have oe:bf NF.heap zA.heap.size 151 9 ⟨some ⟨b10,0,none⟩,1,1⟩ x.cs:=bf.new (n:=1) (sz:=9) SC rfl (by intro v hv;unfold aL.cs at hv;simp only[List.mem_cons,List.not_mem_nil,or_false]at hv;rcases hv with h | h | h | h | h | h | h | h | h <;> subst h <;> rfl);have nl:=OY.nd.len;have Gb:L.length=j:=by have:=congrArg List.length D.el;simp only[List.length_map,List.length_take]at this;omega
  have o39:aK zA.heap rJ.heap.size r3 e.key:=o25.ext VF fun q hq h=>by have:=(o25.lt hq).1;omega
  have kb:∀q,x.k.aj=some q->n0+7<=q/\q < NF.heap.size/\ls.aj≠some q:=fun q hq=>by
   rw[gx.k]at hq;have:=o39.lt hq;refine⟨by omega,by omega,fun hls=>?_⟩;have:=(D.nd.own.lt hls).2;omega
  have vb:∀q,x.v.aj=some q->n0+7<=q/\q < NF.heap.size/\ls.aj≠some q:=fun q hq=>by
   have:=gx.vb q hq;refine⟨by omega,by omega,fun hls=>?_⟩;have:=(D.nd.own.lt hls).2;omega
  have er:lD NF.heap x e:=by
   refine⟨by rw[gx.k];exact o39.rd.no SC.ext,gx.v.no SC.ext,gx.n,gx.ch,gx.cd,T6,?_,?_,hoe.1,hoe.2⟩
   .intro y hy;refine h8r y ?_;have oR:=T4.2;unfold restB;split at oR
    .rw[List.eq_nil_of_length_eq_zero oR.2.2.1]at hy;cases hy
    .rename_i h2;rw[if_neg h2];obtain⟨_,oR⟩:=oR;split at oR
     .rw[if_neg (by omega)];simp[hy]
     .rw[List.eq_nil_of_length_eq_zero oR.2.2.2]at hy;cases hy
   .have oR:=T4.2;split at oR
    .omega
    .obtain⟨_,oR⟩:=oR;split at oR <;> omega
  refine fM OY.own (by omega) oe.rd.src (by simp only;omega) fun Zc uM o41 _ Zd oQ=>?_
  have acr:ic uM.heap (n0+7) Zc (L++[(x,e)]):=ic.push (p:=(x,e)) OY o41 Zd oQ er kb vb;have ae1:=Zd.size;have d41:=d40.ext Zd fun q hq h=>by have:=(OY.own.lt h).1;omega
  have acs:=ag acq Zd D.ne;refine aQ.mk d41.c2 (by simp) rfl fun rK SD=>?_
  have d42:eA rK.heap n0 b P kind lev Zc (pre.length+(wrE kind e).length) (-1):=d41.setNode SD;have LX:Ext (·=n0+1) uM rK:=SD.ext;have z42:rK.heap.size=uM.heap.size:=SD.size;have Ze:ic rK.heap (n0+7) Zc (L++[(x,e)]):=acr.ext LX fun q h1 h2 h=>by omega
  have acu:=ag acs LX (by omega);refine⟨_,Cell.ah acu rfl,af.mk fun b11 Rw VG=>aQ.b1 VG.get rfl fun CI Zf=>⟨_,Cell.ah (Zf.get VG.get) rfl,Ar.i64 (by omega) (aQ.b1 (Zf.get VG.get) rfl fun OP XH=>?_)⟩⟩;have ae2:=VG.at_;have z43:=VG.size;have z44:=Zf.size;have z45:=XH.size;have xf:Ext (·=b11) rK OP:=((VG.ext.aE).trans Zf.ext fun _ _ h=>h).trans XH.ext fun _ _ h=>h
  have ae3:=SC.ext.size;refine⟨l.length - (j+1),by omega,j+1,b11,Zc,L++[(x,e)],rfl,by omega,rfl,?_,Ze.ext xf (fun q h1 h2 h=>by omega),?_,?_,by omega,fun h=>?_,?_⟩
  .have e6:(([kind,lev,((l.length:Int) % 256)]++(l.take (j+1)).flatMap (wrE kind)).length:Nat)=pre.length+(wrE kind e).length:=by
    rw[List.take_add_one,List.getElem?_eq_getElem eO,hee,<- LH];simp;omega
   rw[e6];have:=d42.ext xf fun q hq h=>by omega
   simpa using this
  .show List.map Prod.snd (L++[(x,e)])=_;rw[List.map_append,show List.map Prod.snd L=List.take j l from D.el,List.take_add_one,List.getElem?_eq_getElem eO,hee];rfl
  .exact XH.get (Zf.get VG.get)
  .have:=(Ze.own.lt h).2;omega
  .refine mK (mK (mK ((mK D.x OX fun q h=>by omega).no SC.ext) Zd fun q h=>?_) LX fun q h=>by omega) xf fun q h=>by omega
   have:=(OY.own.lt h).1;omega
 .rintro _ T3 ⟨s,L,nd,el,KC,d46⟩;refine⟨fun w'=>ic w'.heap (n0+7) s L/\Ext No w w'/\eA w'.heap n0 b P kind lev s 224 (-1),?_,?_⟩
  .refine⟨fun m w'=>∃i:Nat,m=224 - ((wr kind lev l).length+i)/\(wr kind lev l).length+i<=224/\ic w'.heap (n0+7) s L/\Ext No w w'/\eA w'.heap n0 b P kind lev s (((wr kind lev l++List.replicate i 0).length:Nat):Int) (-1),⟨_,0,rfl,by omega,nd,KC,by simpa using d46⟩,?_⟩;rintro _ m0 KA ⟨i,rfl,hi,OZ,F_,d47⟩;refine⟨_,Cell.ah d47.c4 rfl,If.dec (fun _=>⟨_,Cell.ah d47.c3 rfl,If.dec (fun h=>⟨_,Cell.ah d47.c6 rfl,?_⟩) fun h=>?_⟩) fun h=>by omega⟩
   .simp only[List.length_append,List.length_replicate]at h
    have hPi:P=(wr kind lev l++List.replicate i 0)++([0]++List.replicate (224 - (wr kind lev l).length - i - 1) 0):=by
     rw[<- hP];unfold pad;rw[List.append_assoc];congr 1;rw[<- List.replicate_one,List.replicate_append_replicate,List.replicate_append_replicate];congr 1;omega
    refine jl (x:=[0]) d47 hPi rfl (by decide) (by decide) (fun K' hK=>wI (wH hK)) fun Hv d48 IC z48=>?_
    refine⟨224 - ((wr kind lev l).length+(i+1)),by omega,i+1,rfl,by omega,OZ.ext IC (fun q h1 h2 h=>by omega),mK F_ IC fun q h=>by omega,?_⟩;have e6:(((wr kind lev l++List.replicate i 0).length:Nat):Int)+1=((wr kind lev l++List.replicate (i+1) 0).length:Nat):=by simp;omega
    rw[<- e6];exact d48
   .have e6:(((wr kind lev l++List.replicate i 0).length:Nat):Int)=224:=by
     simp only[List.length_append,List.length_replicate]at h ⊢;omega
    rw[e6]at d47;exact⟨OZ,F_,d47⟩
  rintro _ zC ⟨O_,Dy,d49⟩;refine⟨_,Cell.ah d49.c4 rfl,If.dec (fun h=>by omega) fun _=>⟨_,Cell.ah d49.c2 rfl,_,Cell.ah d49.c2 rfl,_,Cell.ah d49.c2 rfl,rfl,_,_,_,d49.c2,rfl,by simp,.inr (.inr (Nat.le_refl _)),?_,fun LW Zg=>?_⟩⟩
  .intro v hv;simp only[List.mem_cons,List.not_mem_nil,or_false]at hv;rcases hv with h | h | h <;> subst h <;> rfl
  have VH:LW.heap[n0+1]? = some (.cells [.int .u8 kind,.int .u8 lev,.slice s.a s.len s.cap].toArray 142 (0,0)):=gB.get (b:=n0+1) Zg d49.c2;have Zh:Ext (·=n0+1) zC LW:=gB.ext (b:=n0+1) Zg;refine⟨_,Cell.ah VH rfl,_,Cell.ah VH rfl,_,Cell.ah VH rfl,k s L LW ((O_.ext Zh fun q h1 h2 h=>by omega).mono (by omega)) el (mK Dy Zh fun q h=>by omega)⟩
theorem Dz{may:Value}{size:Int}{K:Int->Pw}{rd:Bool}(d:eA w.heap n0 b P kind lev ls place fault)(hf:0<=fault)(k:K 0 w):aD pz rd (OF n0) [.int .i64 size,may] [.one (.int .u64)] K cc w:=
 lz (c0:=A1 (n0+3)) (c1:=A1 (n0+2)) (c2:=A1 (n0+4)) (c3:=A1 n0) (lu ⟨_,Cell.ah d.c4 rfl,If.dec (fun _=>k) fun h=>(h hf).elim⟩)
theorem Pa{may:Value}{size:Int}{pre x suf:List Int}{K:Int->Pw}{rd:Bool}(d:eA w.heap n0 b P kind lev ls pre.length (-1))(hP:P=pre++(x++suf))(hx:(x.length:Int)=size)(h1:1<=size)(h8:size<=8)
  (hm:∀K':Bool->Pw,K' false w->aD pz true may [.int .u64 (num x)] [.one (.bool)] K' cc w)
  (k:∀w',eA w'.heap n0 b P kind lev ls pre.length pre.length->Ext (·=n0+3) w w'->w'.heap.size=w.heap.size->K 0 w'):aD pz rd (OF n0) [.int .i64 size,may] [.one (.int .u64)] K cc w:=by
 refine lz (c0:=A1 (n0+3)) (c1:=A1 (n0+2)) (c2:=A1 (n0+4)) (c3:=A1 n0) (lu ?_);have Rr:pre.length+(x.length+suf.length)=224:=by rw[<- d.len,hP];simp
 have hx8:B8 x:=d.p8.sub fun y hy=>by rw[hP];simp[hy]
 refine⟨_,Cell.ah d.c4 rfl,If.dec (fun h=>by omega) fun _=>⟨_,Cell.ah d.c3 rfl,Ar.i64 (by omega) (If.dec (fun h=>by omega) fun _=>⟨_,Cell.ah d.c1 rfl,_,Cell.ah d.c3 rfl,_,Cell.ah d.c3 rfl,Ar.i64 (by omega) ?_⟩)⟩⟩;refine CF d.rd hP rfl (by omega) fun s' r'=>mG r' hx8 (by omega) (by omega) (hm _ (If.yes ⟨_,Cell.ah d.c5 rfl,_,Cell.ah d.c3 rfl,zq (Ju d (by decide) fun w' h=>?_)⟩))
 exact k w' (d.OE h) h.ext h.size
theorem JB{K:Int->Int->Sl->Int->Int->Pw}{x:Int}{P':List Int}(hb:b_ w.heap b (x::P'))(h8:B8 (x::P'))(hl:(x::P').length=224)(hx:x≠1/\x≠2)
  (k:∀w',Ext No w w'->K 0 0 ⟨none,0,0⟩ 5 0 w'):fL b w K:=by
 refine vI hb h8 hl fun cO d13 JA ew=>?_
 generalize wm:w.heap.size=n0 at *;have mK:∀{a c:Wd}{S:Nat->Prop},Ext No w a->Ext S a c->(∀i,S i->n0<=i)->Ext No w c:=fun x y h=>x.trans y fun i hi hS=>by have:=h i hS;omega
 unfold Fs;refine⟨_,Cell.ah d13.c6 rfl,Pa (pre:=[]) (x:=[x]) (suf:=P') d13 rfl rfl (by decide) (by decide) (fun K' hK=>qg (qf ?_)) fun cM d14 fI OR=>?_⟩
 .have e:num [x]=x:=by simp[num]
  unfold lq;rw[e];refine If.beq (fun h=>(hx.1 h).elim) fun h=>?_
  rw[show(x == 2)=false by simp[hx.2]];exact hK
 have acv:eA cM.heap n0 b (x::P') 0 0 ⟨none,0,0⟩ 0 0:=d14;refine Ar.u8 (by decide) (aQ.mk d14.c2 (by simp) rfl fun dY OS=>?_);have d15:eA dY.heap n0 b (x::P') 0 0 ⟨none,0,0⟩ 0 0:=acv.setNode OS;refine⟨_,Cell.ah d15.c6 rfl,Dz d15 (Int.le_refl _) (Ar.u8 (by decide) (aQ.mk d15.c2 (by simp) rfl fun fR KB=>?_))⟩;have d17:eA fR.heap n0 b (x::P') 0 0 ⟨none,0,0⟩ 0 0:=d15.setNode KB;have XI:dY.heap.size=cM.heap.size:=OS.size;have z17:fR.heap.size=dY.heap.size:=KB.size;have l_:Ext No w fR:=mK (mK (mK ew fI fun i h=>by omega) OS.ext fun i h=>by have h:i=n0+1:=h;omega) KB.ext fun i h=>by have h:i=n0+1:=h;omega
 refine⟨_,Cell.ah d17.c6 rfl,Dz d17 (Int.le_refl _) ?_⟩;refine⟨fun w'=>Ext No w w'/\eA w'.heap n0 b (x::P') 0 0 ⟨none,0,0⟩ 0 0,?_,?_⟩
 .refine af.mk fun b8 uK NH=>aQ.b1 NH.get rfl fun oc OU=>?_
  have Ku:=NH.at_;have d20:=(d17.no NH.ext).ext OU.ext fun i hi h=>by omega
  have rL:Ext No w oc:=mK (l_.no NH.ext) OU.ext fun i h=>by omega
  refine⟨fun m i w'=>i=A1 b8/\w'=oc,⟨0,rfl,rfl⟩,?_⟩;rintro _ m0 i uL ⟨rfl,rfl⟩;refine⟨fun _=>False,⟨_,Cell.ah (OU.get NH.get) rfl,Ar.i64 (by decide) (If.no ⟨rL,d20⟩)⟩,fun _ _ h=>h.elim⟩
 rintro _ T3 ⟨KC,d46⟩;refine⟨fun w'=>w'=T3,⟨fun m w'=>w'=T3,⟨0,rfl⟩,?_⟩,?_⟩
 .rintro _ m0 KA rfl;exact⟨_,Cell.ah d46.c4 rfl,If.no rfl⟩
 rintro _ zC rfl;refine⟨_,Cell.ah d46.c4 rfl,If.yes ⟨Ext (·=n0+1) zC,(Ext.refl _ _).drew,_,ae.dI (Cell.ah d46.c4 rfl) (by omega),rfl,_,_,_,d46.c2,rfl,by simp,.inr (.inr (Nat.le_refl _)),(by decide),fun LW Zg=>?_⟩⟩;have VH:LW.heap[n0+1]? = some (.cells [.int .u8 0,.int .u8 0,.slice none 0 0].toArray 142 (0,0)):=gB.get (b:=n0+1) (w:=aa zC) Zg d46.c2;have Zh:Ext (·=n0+1) zC LW:=Ext.ar (gB.ext (b:=n0+1) Zg);exact⟨Zh,_,Cell.ah VH rfl,_,Cell.ah VH rfl,⟨none,0,0⟩,Cell.ah VH rfl,k _ (mK KC Zh fun i h=>by omega)⟩
end
section
variable {w:Wd} {T:Nat->Option Nat} {m:bJ} {M:Mm}
theorem cR{b n:Nat}{zs vs:List Value}{T:TypeId}{K:Pw}(hb:w.heap[b]? = some (.cells zs.toArray T (0,0)))(hl:vs.length=n)(hz:zs.length=n)(hv:∀v∈vs,aJ v=true)
  (k:∀w',w'.heap[b]? = some (.cells vs.toArray T (0,0))->Ext (·=b) w w'->w'.heap.size=w.heap.size->K w'):List.length (α:=Value) vs=n/\gT w (Addr.mk b 0 none) vs K:=by
 refine⟨hl,zs.toArray,T,(0,0),hb,rfl,by simp[hl,hz],.inr (.inr (Nat.le_refl _)),hv,fun w2 hw=>?_⟩;have e:setL zs 0 vs=vs:=Hd _ _ (by omega);have Jk:gB w b (.cells vs.toArray T (0,0)) w2:=by rw[<- e];exact hw
 exact k w2 (Jk.get hb) Jk.ext Jk.size
abbrev eY(m:bJ):Value:= .iface 47 (.pointer (some ⟨m.bm,0,none⟩))
abbrev bE(lev:Int):Int:=if lev=0 then 1 else 2
structure KD(p:Pg)(l:List aF):Prop where
 right:aH p.k p.v l
 short:(wr p.k p.v l).length<=224
 ok:∀e∈l,e.ch.ok/\e.cd.ok
 pay:p.pay=pad (wr p.k p.v l)
theorem ma{b2:Nat}{e:Int}{K:Int->Int->Sl->Int->Pw}{zs:List Value}(hb:w.heap[b2]? = some (.cells zs.toArray 142 (0,0)))(hz:zs.length=3)(k:∀w',Ext (·=b2) w w'->K 0 0 ⟨none,0,0⟩ e w') :
  List.length (α:=Value) [.int .u8 0,.int .u8 0,.slice none 0 0]=3/\gT w (Addr.mk b2 0 none) [.int .u8 0,.int .u8 0,.slice none 0 0] fun w6=>
   ∃oN:Int,Cell w6 (Addr.mk b2 0 none) (.int .u8 oN)/\∃oO:Int,Cell w6 ((Addr.mk b2 0 none).add 1) (.int .u8 oO)/\∃jY:Sl,Cell w6 ((Addr.mk b2 0 none).add 2) (.slice jY.a jY.len jY.cap)/\K oN oO jY e w6:=
 cR hb rfl hz (by decide) fun w' g x _=>⟨_,Cell.ah g rfl,_,Cell.ah g rfl,⟨none,0,0⟩,Cell.ah g rfl,k w' x⟩
set_option maxHeartbeats 1000000 in
theorem DA{t lev:Int}{r:Rf}{l:List aF}{K:Int->Int->Sl->Int->Pw}(R:bC w.heap T m M)
  (k0:∀p s L w',iC r.p M.aC=some p->p.t=t->p.v=lev->p.r=r->KD p l->l≠[]->ic w'.heap w.heap.size s L->ents L=l->Ext No w w'->K (bE lev) lev s 0 w')
  (hc:∀p,iC r.p M.aC=some p->p.t=t->p.k=bE lev->p.v=lev->p.r=r->KD p l∨∃x q,p.pay=x::q/\x≠1/\x≠2)
  (k7:∀w',iC r.p M.aC=none->Ext No w w'->K 0 0 ⟨none,0,0⟩ 7 w')
  (Vx:∀p w',iC r.p M.aC=some p->¬ (p.t=t/\p.k=bE lev/\p.v=lev/\p.r=r)->Ext No w w'->K 0 0 ⟨none,0,0⟩ 150 w')
  (k5:∀p w',iC r.p M.aC=some p->p.t=t->p.k=bE lev->p.v=lev->p.r=r->((l=[]/\KD p l)∨∃x q,p.pay=x::q/\x≠1/\x≠2)->Ext No w w'->K 0 0 ⟨none,0,0⟩ 5 w'):bD (eY m) t r.p r.c r.g lev w K:=by
 apply vf;refine af.mk fun b w1 n1=>af.mk fun b1 w2 n2=>af.mk fun b2 w3 n3=>?_
 have g0:=ad (ad n1.get n2.ext) n3.ext;have g1:=ad n2.get n3.ext;have g2:=n3.get;have x3:Ext No w w3:=(n1.ext.no n2.ext).no n3.ext;have jN:=n3.at_;have sz:w.heap.size<=b2:=by have:=(n1.ext.no n2.ext).size;omega
 refine⟨fun kd w'=>kd=bE lev/\w'=w3,⟨_,Cell.ah g1 rfl,If.beq (fun h=>⟨by unfold bE;rw[if_pos h],rfl⟩) fun h=>⟨by unfold bE;rw[if_neg h],rfl⟩⟩,?_⟩;rintro _ kd w4 ⟨rfl,rfl⟩;have fin:∀{w5 w6:Wd},Ext No w4 w5->Ext (·=b2) w5 w6->Ext No w w6:=fun x y=>(x3.no x).trans y fun i hi h=>by omega
 refine⟨_,Cell.ah g0 rfl,_,Cell.ah g0 rfl,_,Cell.ah g1 rfl,_,Cell.ah g1 rfl,_,Cell.ah g1 rfl,_,Cell.ah g1 rfl,jg ?_⟩;refine rI (R.no x3) (fun p s w5 hp h1 h2 h3 h4 o5 x5=>If.bne (fun h=>(h rfl).elim) fun _=>?_) (fun w5 hp x5=>If.bne (fun _=>ma (ad g2 x5) rfl fun w6 x6=>k7 _ hp (fin x5 x6)) fun h=>by omega) (fun p w5 hp bA x5=>If.bne (fun _=>ma (ad g2 x5) rfl fun w6 x6=>Vx p _ hp bA (fin x5 x6)) fun h=>by omega);have P4:=(R.no x3).find hp;rcases hc p hp h1 h2 h3 h4 with hl | ⟨x,q,hq,Xz,hx2⟩
 .have Zi:p.pay=pad (wr (bE lev) lev l):=by rw[hl.pay,h2,h3]
  have hr:aH (bE lev) lev l:=by rw[<- h2,<- h3];exact hl.right
  have hs:(wr (bE lev) lev l).length<=224:=by rw[<- h2,<- h3];exact hl.short
  rw[Zi]at o5;have p8:=P4.p8;rw[Zi]at p8;refine Dx o5.rd hr hs p8 hl.ok fun s6 L w7 o7 eL x7=>aW rfl rfl (by simp[aJ]) fun b3 w9 g9 _ _ x9=>If.bne (fun h=>(h rfl).elim) fun _=>?_
  have Dy:Ext No w4 w9:=(x5.no x7).no x9;refine⟨_,Cell.ah g9 rfl,If.bne (fun h=>(h rfl).elim) fun _=>⟨_,Cell.ah g9 rfl,_,Cell.ah (ad g1 Dy) rfl,If.bne (fun h=>(h rfl).elim) fun _=>⟨_,Cell.ah g9 rfl,If.beq (fun h0=>?_) fun h0=>?_⟩⟩⟩
  .refine ma (ad g2 Dy) rfl fun cO ew=>k5 p _ hp h1 h2 h3 h4 (.inl ⟨?_,hl⟩) (fin Dy ew)
   have hLn:L.length=0:=by have:=o7.nd.len;omega
   rw[<- eL];simp[List.eq_nil_of_length_eq_zero hLn]
  .refine⟨_,Cell.ah g9 rfl,_,Cell.ah g9 rfl,_,Cell.ah g9 rfl,cR (ad g2 Dy) rfl rfl (by simp[aJ]) fun cM jH fI _=>⟨_,Cell.ah jH rfl,_,Cell.ah jH rfl,_,Cell.ah jH rfl,?_⟩⟩;refine k0 p s6 L cM hp h1 h3 h4 hl ?_ ?_ eL (fin Dy fI)
   .intro e;rw[e]at eL;have:L=[]:=by simpa using eL
    have:=o7.nd.len;rw[‹L=[]›]at this;simp at this;omega
   .have hz5:=x5.size;have hz3:=n3.size;refine((o7.no x9).ext fI fun q h1 h2 h=>?_).mono ?_
    .omega
    .have:=x3.size;omega
 .rw[hq]at o5;have p8:=P4.p8;rw[hq]at p8;refine JB o5.rd p8 (by rw[<- hq];exact P4.len) ⟨Xz,hx2⟩ fun w7 x7=>aW rfl rfl (by decide) fun b3 w9 g9 _ _ x9=>If.bne (fun _=>?_) fun h=>by omega
  exact ma (ad g2 ((x5.no x7).no x9)) rfl fun cO ew=>k5 p _ hp h1 h2 h3 h4 (.inr ⟨x,q,hq,Xz,hx2⟩) (fin ((x5.no x7).no x9) ew)
end
end Go.Proofs.YtpjbalhhlaofmaaGreat
namespace Go.V
theorem VI{kind:Int}{e:aF}(h1:B8 e.key)(h2:B8 e.val):B8 (wrE kind e):=by
 unfold wrE;refine(B8.cons (by omega) h1).append ?_;split
 .exact((jK _ _).append (jK _ _)).append (jK _ _)
 .split
  .exact(B8.cons (by omega) (B8.cons (by omega) (B8.cons (by omega) B8.nil))).append (((jK _ _).append (jK _ _)).append (jK _ _))
  .exact(B8.cons (by omega) (B8.cons (by omega) B8.nil)).append h2
theorem VJ{l:List Int}(h:B8 l):B8 (pad l):=h.append fun x hx=>by rw[List.mem_replicate]at hx;omega
theorem Zj{kind lev:Int}{l:List aF}(hk:0<=kind/\kind<=255)(hv:0<=lev/\lev<=255)(h:∀e∈l,B8 e.key/\B8 e.val):B8 (wr kind lev l):=by
 refine(B8.cons hk (B8.cons hv (B8.cons (by omega) B8.nil))).append fun x hx=>?_
 obtain⟨e,he,hx⟩:=List.mem_flatMap.1 hx;exact VI (h e he).1 (h e he).2 x hx
end Go.V
namespace Go.Proofs.YtpjbalhhlaofmaaGreat
open Go.V
section
variable {w:Wd} {T:Nat->Option Nat} {m:bJ} {M:Mm}
set_option maxHeartbeats 1000000 in
theorem kU{t kind lev:Int}{s:Sl}{L:List (aL×aF)}{K:Int->Int->Int->Int->Int->Pw}(R:bC w.heap T m M)(nd:ny w.heap s L)(hl:L.length<=65536)(hr:aH kind lev (ents L))(hs:(wr kind lev (ents L)).length<=224)(hn:M.aC.length<=1048576)
  (k:∀n T' m' w',A_ M.aC n->bC w'.heap T' m' { M with aC:=M.aC++[(n,⟨t,kind,lev,⟨n,M.aG,M.gen⟩,pad (wr kind lev (ents L)),false⟩)] }->m'.bm=m.bm->Tg w T T'->Ext (Ts T) w w'->K n M.aG M.gen lev 0 w'):cf (eY m) t kind lev s w K:=by
 apply tG;refine af.mk fun b w1 n1=>af.mk fun b1 w2 n2=>af.mk fun b2 w3 n3=>?_
 have g0:=ad (ad n1.get n2.ext) n3.ext;have g1:=ad n2.get n3.ext;have g2:=n3.get;have x3:Ext No w w3:=(n1.ext.no n2.ext).no n3.ext;have z1:=n1.size;have z2:=n2.size;have z3:=n3.size;have hb:=n1.at_;have jk:=n2.at_;have jN:=n3.at_;have Kt:=hr.shape;unfold iB at Kt;refine⟨_,Cell.ah g1 rfl,_,Cell.ah g1 rfl,_,Cell.ah g1 rfl,Hn (nd.no x3) hl (fun t4 w4 _ _ o4 x4=>If.bne (fun h=>(h rfl).elim) fun _=>?_) (fun c w4 h _ _=>(h ⟨hr,hs⟩).elim)⟩;have fg:=x3.no x4;refine⟨_,Cell.ah (ad g0 x4) rfl,_,Cell.ah (ad g0 x4) rfl,_,Cell.ah (ad g1 x4) rfl,_,Cell.ah (ad g1 x4) rfl,qV ?_⟩
 have b8:B8 (pad (wr kind lev (ents L))):=VJ (Zj (by omega) (by omega) fun e he=>by
  obtain⟨p,hp,rfl⟩:=List.mem_map.1 he
  exact⟨(nd.h_ p hp).k8,(nd.h_ p hp).v8⟩)
 have sup:∀q,w.heap.size<=q->¬ Ts T q:=fun q hq h=>by have:=R.sup q h;omega
 refine ye (R.no fg) o4.rd b8 hn (fun n T' m' w6 _ hf R6 U7 hT x6=>aW rfl rfl (by simp[aJ]) fun b3 w8 g8 vB z8 x8=>?_) fun w6 h _=>(h (Kw hs)).elim
 have zD:=ad (ag (ad g1 x4) x6 (sup b1 (by omega))) x8;have g28:=ad (ag (ad g2 x4) x6 (sup b2 (by omega))) x8;refine⟨_,Cell.ah g8 rfl,_,Cell.ah g8 rfl,_,Cell.ah g8 rfl,_,Cell.ah zD rfl,cR g28 rfl rfl (by simp[aJ]) fun w9 g9 x9 _=>⟨_,Cell.ah g9 rfl,_,Cell.ah g9 rfl,_,Cell.ah g9 rfl,_,Cell.ah g9 rfl,?_⟩⟩;have z4:=x4.size;refine k n T' m' w9 hf ((R6.no x8).ext x9 fun q h=>?_) U7 (fun q hq=>hT q (by have:=fg.size;omega)) ?_
 .rw[h,hT b2 (by omega)]
  cases Zk:T b2 with
  | none=>rfl
  | some t=>exact(sup b2 (by omega) (by show T b2≠none;rw[Zk];simp)).elim
 .exact(((fg.aE).trans x6 fun _ _ h=>h).no x8).trans x9 fun q hq h=>by omega
theorem mO{kind lev:Int}{s:Sl}{L:List (aL×aF)}{i:Int}{K:Int->Int->Int->Int->Pw}(nd:ny w.heap s L)(h0:0<=i)(hi:i.toNat < L.length)(SE:1<=lev/\lev<=255)
  (k:∀w',Ext No w w'->K (L[i.toNat].2.cd).p (L[i.toNat].2.cd).c (L[i.toNat].2.cd).g (lev - 1) w'):dA kind lev s i w K:=by
 apply ED;refine af.mk fun b w1 n1=>af.mk fun b1 w2 n2=>?_
 have x2:=n1.ext.no n2.ext;have g0:=ad n1.get n2.ext;have nl:=nd.len;have jk:=n2.at_;have z1:=n1.size;have zV:¬ b=b1:=by have:=n1.at_;omega
 refine⟨Ext (·=b1) w2,(Ext.refl _ _).drew,_,ae.dI (Cell.ah g0 rfl) zV,Ix.elem (nd.no x2).rd (bO L) (by decide) h0 (by omega) fun bb o iO zR hc=>?_⟩
 have cF:bb < w.heap.size:=by
  obtain⟨c,o',ha,hcc⟩:=nd.rd.at_ (by intro h;have:=aS (bO L);rw[h]at this;simp at this;omega);have:bb=c:=by simp[Sl.aj,ha]at zR;exact zR.symm
  subst this;have Nx:=aS (bO L);exact oM (hcc 0 (by omega))
 have nb:¬ bb=b1:=by omega
 have er:=(nd.no x2).get iO;refine⟨_,ae.dI (hc 6 _ rfl) nb,_,ae.dI (hc 7 _ rfl) nb,_,ae.dI (hc 8 _ rfl) nb,_,ae.dI (Cell.ah g0 rfl) zV,Ar.u8 (by omega) ?_⟩
 refine cR (w:=aa w2) n2.get rfl rfl (by simp[aJ]) fun w3 g3 x3 _=>⟨x3.ar,_,Cell.ah g3 rfl,_,Cell.ah g3 rfl,_,Cell.ah g3 rfl,_,Cell.ah g3 rfl,?_⟩
 rw[er.cd];exact k w3 (x2.trans x3.ar fun q hq h=>by omega)
structure Pb(l:List aF)(key:List Int)(i:Nat)(f:Bool):Prop where
 le:i<=l.length
 lt:∀j (h:j < l.length),j < i->bM l[j].key key
 ge:∀(h:i < l.length),¬ bM l[i].key key
 eq:f=true ↔ ∃h:i < l.length,l[i].key=key
theorem find_spec{kind lev:Int}{s ks:Sl}{L:List (aL×aF)}{key:List Int}{K:Int->Bool->Pw}(nd:ny w.heap s L)(hk:b_ w.heap ks key)(k8:B8 key)(hl:L.length<=65536)
  (k:∀(i:Nat) f w',Pb (ents L) key i f->Ext No w w'->K i f w'):i_ kind lev s ks w K:=by
 apply EE
 refine af.mk fun b w1 n1=>⟨_,Cell.ah n1.get rfl,?_⟩
 have nl:=nd.len;refine⟨fun q t w'=>∃i:Nat,t=i/\i<=L.length/\q=L.length - i/\Ext No w1 w'/\∀j (h:j < L.length),j < i->bM L[j].2.key key,⟨L.length,0,rfl,by omega,by omega,Ext.refl _ _,fun j h h'=>by omega⟩,?_⟩;rintro _ m0 t w2 ⟨i,rfl,hi,hm,x2,cF⟩;have jA:=n1.ext.no x2;refine If.dec (fun h=>?_) fun h=>?_
 .refine rz (nd.rd.no jA) (by omega) h fun b1 w4 iO g4 _ _ x4=>?_
  simp only[Int.toNat_natCast]at iO g4;have fg:=jA.no x4;have er:=(nd.no fg).get iO;refine⟨_,Cell.ah g4 rfl,gz er.k (Rd.no hk fg) er.k8 k8 (If.dec (fun hc=>?_) fun hc=>Ar.i64 (by omega) ⟨L.length - (i+1),by omega,i+1,by omega,by omega,rfl,x2.no x4,fun j hj Aa=>?_⟩)⟩
  .refine k i _ w4 ⟨by simp;omega,fun j hj Aa=>?_,fun hj=>?_,?_⟩ fg
   .simp only[List.getElem_map];exact cF j (by simpa using hj) Aa
   .simp only[List.getElem_map];exact lW.1 hc
   .rw[beq_iff_eq,LF];exact⟨fun e=>⟨by simpa using iO,by simpa using e⟩,fun⟨_,e⟩=>by simpa using e⟩
  .rcases Nat.lt_or_ge j i with h3 | h3
   .exact cF j hj h3
   .have:j=i:=by omega
    subst this;exact Classical.not_not.1 fun hh=>hc (lW.2 hh)
 .have e:i=L.length:=by omega
  refine⟨_,Cell.ah (ad n1.get x2) rfl,?_⟩;rw[nl,<- e];refine k i false w2 ⟨by simp;omega,fun j hj Aa=>?_,fun hj=>?_,?_⟩ jA
  .simp only[List.getElem_map];exact cF j (by simpa using hj) Aa
  .simp at hj;omega
  .constructor
   .intro h;cases h
   .rintro⟨h,_⟩;simp at h;omega
theorem Fv{t:Int}{x:aL}{e:aF}{g:Value}{K:Sl->Int->Pw}(er:lD w.heap x e)(hz:e.ch = .z)(hl:e.val.length<=65536)(k:∀s w',aK w'.heap w.heap.size s e.val->Ext No w w'->K s 0 w') :
  fx g t x.k x.v x.n x.ch.p x.ch.c x.ch.g x.cd.p x.cd.c x.cd.g w K:=by
 apply mC;refine af.mk fun b w1 n1=>af.mk fun b1 w2 n2=>?_
 have x2:=n1.ext.no n2.ext;have g2:w2.heap[b1]? = some (.cells x.cs.toArray 151 (0,0)):=n2.get;refine⟨_,Cell.ah g2 rfl,_,Cell.ah g2 rfl,_,Cell.ah g2 rfl,?_⟩;rw[er.ch,hz];refine If.yes ⟨_,Cell.ah g2 rfl,jX (er.no x2).v (by omega) fun s w3 o3 x3=>k s w3 (bf.mono o3 x2.size) (x2.no x3)⟩
end
end Go.Proofs.YtpjbalhhlaofmaaGreat
namespace Go.V
abbrev KV:=List Int×List Int
abbrev bR:=Int->Option Pg
abbrev Mm.f(M:Mm):bR:=fun n=>iC n M.aC
def At(f:bR)(r:Rf)(t k v:Int)(pay:List Int):Prop:=∃p,f r.p=some p/\p.r=r/\p.t=t/\p.k=k/\p.v=v/\p.pay=pay
def zW(piece:List Int)(next:Rf):List Int:=refB next++(be 2 piece.length++(piece++List.replicate (208 - piece.length) 0))
inductive iD (f:bR) (t:Int):Rf->List (Rf×List Int)->Prop
 | nil:iD f t .z []
 | cons {r next:Rf} {piece:List Int} {cs:List (Rf×List Int)} (hz:r ≠ .z) (ho:r.ok) (Dl:At f r t 3 0 (zW piece next)) (h1:1<=piece.length) (h2:piece.length<=208) (hf:cs≠[]->piece.length=208) (h8:B8 piece) (c:iD f t next cs):iD f t r ((r,piece)::cs)
abbrev KE(cs:List (Rf×List Int)):List Int:=(cs.map Prod.snd).flatten
def DB(f:bR)(t:Int)(e:aF)(x:KV)(ps:List Rf):Prop:=e.key=x.1/\(if e.n=0 then e.val=x.2/\ps=[] else e.n=x.2.length/\∃cs,iD f t e.ch cs/\KE cs=x.2/\cs.map Prod.fst=ps)
inductive cG (f:bR) (t:Int):List aF->List KV->List Rf->Prop
 | nil:cG f t [] [] []
 | cons {e:aF} {l:List aF} {x:KV} {kvs:List KV} {p ps:List Rf} (h:DB f t e x p) (r:cG f t l kvs ps):cG f t (e::l) (x::kvs) (p++ps)
inductive aM (Q:Rf->List KV->List Rf->Prop):List aF->List KV->List Rf->Prop
 | nil:aM Q [] [] []
 | cons {e:aF} {l:List aF} {kv kvs:List KV} {p ps:List Rf} (h:Q e.cd kv p) (lo:∀x∈kv,¬ bM x.1 e.key) (hi:∀e' l',l=e'::l'->∀x∈kv,bM x.1 e'.key) (r:aM Q l kvs ps):aM Q (e::l) (kv++kvs) (p++ps)
structure kg(f:bR)(t k v:Int)(r:Rf)(l:List aF):Prop where
 at_:At f r t k v (pad (wr k v l))
 right:aH k v l
 short:(wr k v l).length<=224
 ok:∀e∈l,(e.ch.ok/\e.cd.ok)/\B8 e.key/\B8 e.val
def bq(f:bR)(t:Int):Nat->Rf->List KV->List Rf->Prop
 | 0,r,kvs,ps=>∃l dG,kg f t 1 0 r l/\l≠[]/\cG f t l kvs dG/\ps=r::dG
 | lev+1,r,kvs,ps=>∃l dG,kg f t 2 ((lev+1:Nat):Int) r l/\2<=l.length/\aM (bq f t lev) l kvs dG/\ps=r::dG
def iS(f f':bR)(ps:List Rf):Prop:=∀r∈ps,∀p,f r.p=some p->p.r=r->∃p',f' r.p=some p'/\p'.r=p.r/\p'.t=p.t/\p'.k=p.k/\p'.v=p.v/\p'.pay=p.pay
theorem iS.sub{f f':bR}{ps qs:List Rf}(h:iS f f' ps)(hs:∀r∈qs,r∈ps):iS f f' qs:=fun r hr=>h r (hs r hr)
theorem At.cv{f f':bR}{ps:List Rf}{r:Rf}{t k v:Int}{pay:List Int}(h:At f r t k v pay)(hk:iS f f' ps)(hr:r∈ps):At f' r t k v pay:=by
 obtain⟨p,h1,h2,h3,h4,h5,h6⟩:=h;obtain⟨p',k1,k2,k3,k4,k5,k6⟩:=hk r hr p h1 h2;exact⟨p',k1,k2.trans h2,k3.trans h3,k4.trans h4,k5.trans h5,k6.trans h6⟩
theorem iD.cv{f f':bR}{t:Int}{r:Rf}{cs:List (Rf×List Int)}(h:iD f t r cs):iS f f' (cs.map Prod.fst)->iD f' t r cs:=by
 induction h with
 | nil=>intro _;exact .nil
 | cons hz ho Dl h1 h2 hf h8 c ih=>intro hk;exact .cons hz ho (Dl.cv hk List.mem_cons_self) h1 h2 hf h8 (ih (hk.sub fun _ h=>List.mem_cons_of_mem _ h))
theorem iD.ok{f:bR}{t:Int}{r:Rf}{cs:List (Rf×List Int)}(h:iD f t r cs):r.ok:=by
 cases h with
 | nil=>decide
 | cons hz ho=>exact ho
theorem cG.cv{f f':bR}{t:Int}{l:List aF}{kvs:List KV}{ps:List Rf}(h:cG f t l kvs ps):iS f f' ps->cG f' t l kvs ps:=by
 induction h with
 | nil=>intro _;exact .nil
 | cons h r ih=>
  intro hk;refine .cons ⟨h.1,?_⟩ (ih (hk.sub fun _ h=>List.mem_append_right _ h));have h2:=h.2;split at h2
  .rename_i h0;rw[if_pos h0];exact h2
  .rename_i h0;rw[if_neg h0];obtain⟨a,cs,b,c,d⟩:=h2;exact⟨a,cs,b.cv (by rw[d];exact hk.sub fun _ h=>List.mem_append_left _ h),c,d⟩
theorem aM.cv{Q Q':Rf->List KV->List Rf->Prop}{R:List Rf->Prop}(hR:∀{a b},R (a++b)->R a/\R b)(hQ:∀{r kv p},Q r kv p->R p->Q' r kv p){l:List aF}{kvs:List KV}{ps:List Rf}(h:aM Q l kvs ps):R ps->aM Q' l kvs ps:=by
 induction h with
 | nil=>intro _;exact .nil
 | cons h lo hi r ih=>intro hk;exact .cons (hQ h (hR hk).1) lo hi (ih (hR hk).2)
theorem kg.cv{f f':bR}{t k v:Int}{r:Rf}{l:List aF}{ps:List Rf}(h:kg f t k v r l)(hk:iS f f' ps)(hr:r∈ps):kg f' t k v r l:=⟨h.at_.cv hk hr,h.right,h.short,h.ok⟩
theorem bq.cv{f f':bR}{t:Int}:∀{lev:Nat}{r:Rf}{kvs:List KV}{ps:List Rf},bq f t lev r kvs ps->iS f f' ps->bq f' t lev r kvs ps
 | 0,r,kvs,ps,⟨l,dG,h1,h2,h3,h4⟩,hk=>by
  subst h4;exact⟨l,dG,h1.cv hk List.mem_cons_self,h2,h3.cv (hk.sub fun _ h=>List.mem_cons_of_mem _ h),rfl⟩
 | lev+1,r,kvs,ps,⟨l,dG,h1,h2,h3,h4⟩,hk=>by
  subst h4;refine⟨l,dG,h1.cv hk List.mem_cons_self,h2,h3.cv (R:=fun p=>iS f f' p) (fun h=>⟨h.sub fun _ h=>List.mem_append_left _ h,h.sub fun _ h=>List.mem_append_right _ h⟩) (fun h hk=>bq.cv h hk) (hk.sub fun _ h=>List.mem_cons_of_mem _ h),rfl⟩
def dS(f:bR)(t:Int)(r:Rf)(lev:Int)(kvs:List KV)(ps:List Rf):Prop:=r = .z/\lev=0/\kvs=[]/\ps=[]∨r ≠ .z/\0<=lev/\bq f t lev.toNat r kvs ps
end Go.V
namespace Go.Proofs.YtpjbalhhlaofmaaGreat
open Go.V
section
variable {w:Wd}
theorem yn{n:Int}{K:Int->Int->Pw}(h0:0<=n)(h1:n<=1024)(k:K ((n+207) / 208) 0 w):jc n w K:=by
 apply Aw;refine If.dec (fun h=>by omega) fun _=>If.dec (fun h=>by omega) fun _=>Ar.i64 (by omega) (Ar.i64 (by omega) ⟨by decide,?_⟩)
 have e:Int.tdiv (n+208 - 1) 208=(n+207) / 208:=by rw[Int.tdiv_eq_ediv_of_nonneg (by omega)];congr 1;omega
 rw[e];exact Ar.i64 (by omega) k
theorem KF{piece:List Int}{next:Rf}(h:piece.length<=208):(zW piece next).length=224:=by simp[zW,eX,bu];omega
theorem VK{piece:List Int}{next:Rf}(h:B8 piece):B8 (zW piece next):=
 (((jK _ _).append (jK _ _)).append (jK _ _)).append ((jK _ _).append (h.append fun x hx=>by rw[List.mem_replicate]at hx;omega))
set_option maxHeartbeats 1000000 in
theorem SF{s:Sl}{piece:List Int}{next:Rf}{K:Sl->Int->Int->Int->Int->Pw}(hs:b_ w.heap s (zW piece next))(h1:1<=piece.length)(h2:piece.length<=208)(hn:next.ok)
  (k:∀t w',aK w'.heap w.heap.size t piece->Ext No w w'->K t next.p next.c next.g 0 w'):pE s w K:=by
 apply EF;have hl:=b_.len hs;rw[KF h2]at hl;obtain⟨o1,o2,o3⟩:=hn;refine af.mk fun b w1 n1=>If.bne (fun h=>by omega) fun _=>?_
 have Fm:b_ w1.heap s (zW piece next):=Rd.no hs n1.ext;have hP:zW piece next=[]++(be 4 next.p++(be 8 next.c++(be 2 next.g++(be 2 piece.length++(piece++List.replicate (208 - piece.length) 0))))):=by simp[zW,refB]
 refine CF Fm hP rfl (by simp[bu]) fun s1 r1=>mG r1 (jK _ _) (by simp[bu]) (by simp[bu]) ?_
 have hP:zW piece next=be 4 next.p++(be 8 next.c++(be 2 next.g++(be 2 piece.length++(piece++List.replicate (208 - piece.length) 0)))):=by simp[zW,refB]
 refine CF Fm hP (by simp[bu]) (by simp[bu]) fun s2 r2=>mG r2 (jK _ _) (by simp[bu]) (by simp[bu]) ?_
 have hP:zW piece next=(be 4 next.p++be 8 next.c)++(be 2 next.g++(be 2 piece.length++(piece++List.replicate (208 - piece.length) 0))):=by simp[zW,refB]
 refine CF Fm hP (by simp[bu]) (by simp[bu]) fun s3 r3=>mG r3 (jK _ _) (by simp[bu]) (by simp[bu]) ?_
 have hP:zW piece next=(be 4 next.p++be 8 next.c++be 2 next.g)++(be 2 piece.length++(piece++List.replicate (208 - piece.length) 0)):=by simp[zW,refB]
 refine CF Fm hP (by simp[bu]) (by simp[bu]) fun s4 r4=>mG r4 (jK _ _) (by simp[bu]) (by simp[bu]) ?_
 rw[iA 4 o1.1 (by omega),iA 8 o2.1 (by omega),iA 2 o3.1 (by omega),iA 2 (by omega) (by omega)];refine⟨fun w'=>w'=w1,?_,?_⟩
 .refine If.dec (fun h=>by omega) fun _=>If.dec (fun h=>by omega) fun _=>Ar.u64 (by omega) ?_
  have hP:zW piece next=(be 4 next.p++be 8 next.c++be 2 next.g++be 2 piece.length++piece)++(List.replicate (208 - piece.length) 0++[]):=by simp[zW,refB]
  refine CF Fm hP (by simp[bu];omega) (by simp[bu];omega) fun s5 r5=>xU r5 (fun x hx=>by rw[List.mem_replicate]at hx;omega) (by simp;omega) ?_
  rw[decide_eq_true fun x hx=>(List.mem_replicate.1 hx).2];exact If.no rfl
 rintro _ di rfl;refine af.mk fun b1 eN mN=>Ar.u64 (by omega) ?_
 have hP:zW piece next=(be 4 next.p++be 8 next.c++be 2 next.g++be 2 piece.length)++(piece++List.replicate (208 - piece.length) 0):=by simp[zW,refB]
 have hb:=n1.at_;have jk:=mN.at_;have z1:=n1.size;have OQ:=mN.size;refine CF (Rd.no Fm mN.ext) hP (by simp[bu]) (by simp[bu]) fun s6 r6=>?_
 have Jq:aK eN.heap di.heap.size ⟨some ⟨b1,0,none⟩,0,0⟩ []:=aK.new (l:=[]) mN rfl;refine vA (s:=⟨some ⟨b1,0,none⟩,0,0⟩) (Q:=fun i=>di.heap.size<=i) (Ext.refl _ eN) (fun i hi=>by have:=Option.some.inj hi;simp only at this;omega) (fun i hi=>by omega) Jq (by omega) r6 (by simp;omega) fun s7 cO zE q13 ew=>Ar.u32 (by omega) (Ar.u16 (by omega) ?_)
 have fN:=ag (ad n1.get mN.ext) ew (by omega)
 refine cR fN rfl rfl (by simp[aJ]) fun cM jH fI _=>⟨_,Cell.ah jH rfl,_,Cell.ah jH rfl,_,Cell.ah jH rfl,k s7 cM ?_ ?_⟩
 .exact bf.mono (zE.ext fI fun q hq h=>by have:=(zE.lt hq).1;omega) (by omega)
 .exact((n1.ext.no mN.ext).trans ew fun q hq h=>by omega).trans fI fun q hq h=>by omega
set_option maxHeartbeats 1000000 in
theorem LY{s:Sl}{piece:List Int}{next:Rf}{K:Sl->Int->Pw}(hs:b_ w.heap s piece)(h1:1<=piece.length)(h2:piece.length<=208)(hn:next.ok)
  (k:∀t w',aK w'.heap w.heap.size t (zW piece next)->Ext No w w'->K t 0 w'):pC s next.p next.c next.g w K:=by
 apply EH;have hl:=b_.len hs;obtain⟨o1,o2,o3⟩:=hn
 refine af.mk fun b w1 n1=>⟨fun w'=>w'=w1,If.dec (fun h=>by omega) fun _=>If.dec (fun h=>by omega) fun _=>rfl,?_⟩
 rintro _ w2 rfl;refine⟨_,Cell.ah n1.get rfl,Ar.u64 (by omega) (kM o1.1 (by decide) (by decide) (by show next.p < 256 ^ 4;omega) fun s1 w3 p3 x3=>?_)⟩;refine⟨_,Cell.ah (ad n1.get x3) rfl,kM o2.1 (by decide) (by decide) (by show next.c < 256 ^ 8;omega) fun s2 w4 p4 x4=>?_⟩;refine⟨_,Cell.ah (ad n1.get (x3.no x4)) rfl,Ar.u64 (by omega) (kM o3.1 (by decide) (by decide) (by show next.g < 256 ^ 2;omega) fun s3 w5 p5 x5=>Ar.u64 (by omega) (kM (by omega) (by decide) (by decide) (by show(s.len:Int) < 256 ^ 2;omega) fun s4 w6 p6 x6=>Ar.i64 (by omega) ?_))⟩;refine FZ.mk (by omega) (Int.le_refl _) (by omega) (by omega) fun b7 w7 n7=>af.mk fun b8 w8 n8=>?_
 have o7:=bf.make (l:=(208 - (s.len:Int)).toNat) n7 (Nat.le_refl _) (fun v hv=>by rw[List.mem_singleton]at hv;subst hv;rfl)
 have e7:(List.replicate (208 - (s.len:Int)).toNat [Value.int .u8 0]).flatten=(List.replicate (208 - piece.length) (0:Int)).map (Value.int .u8):=by
  rw[show(208 - (s.len:Int)).toNat=208 - piece.length by omega];simp[List.flatten_replicate_singleton]
 rw[e7]at o7;have sO:Ext No w2 w6:=(x3.no x4).no (x5.no x6);have Ry:Ext No w2 w8:=(sO.no n7.ext).no n8.ext
 let ps:List (Sl×List Int):=[(s1,be 4 next.p),(s2,be 8 next.c),(s3,be 2 next.g),(s4,be 2 piece.length),(s,piece),(⟨some ⟨b7,0,none⟩,(208 - (s.len:Int)).toNat,(208 - (s.len:Int)).toNat⟩,List.replicate (208 - piece.length) 0)]
 have r8:Rd w8.heap ⟨some ⟨b8,0,none⟩,6,6⟩ 1 (ps.map fun p=>p.1.v):=(bf.new (n:=6) (sz:=1) n8 rfl (by simp[aJ])).rd;refine q_ (ps:=ps) r8 (fun p hp=>?_) (by simp[ps,bu];omega) (by simp[ps]) fun t w9 o9 x9=>k t w9 ?_ ((n1.ext.no Ry).no x9)
 .simp only[ps,List.mem_cons,List.not_mem_nil,or_false]at hp;rcases hp with h | h | h | h | h | h <;> subst h
  .exact p3.rd.no (((x4.no (x5.no x6)).no n7.ext).no n8.ext)
  .exact p4.rd.no (((x5.no x6).no n7.ext).no n8.ext)
  .exact p5.rd.no ((x6.no n7.ext).no n8.ext)
  .have:=p6.rd.no (n7.ext.no n8.ext);rw[show((2:Int)).toNat=2 from rfl,hl]at this;exact this
  .exact Rd.no hs (n1.ext.no Ry)
  .exact o7.rd.no n8.ext
 .have e:zW piece next=(ps.map Prod.snd).flatten:=by simp[ps,zW,refB]
  rw[e];exact bf.mono o9 (n1.ext.no Ry).size
end
section
variable {w:Wd} {T:Nat->Option Nat} {m:bJ} {M:Mm}
theorem DC{t k v:Int}{r:Rf}{pay:List Int}{K:Sl->Int->Pw}(R:bC w.heap T m M)(h:At M.f r t k v pay)(k0:∀s w',aK w'.heap w.heap.size s pay->Ext No w w'->K s 0 w'):je (some ⟨m.bm,0,none⟩) t k v r.p r.c r.g w K:=by
 obtain⟨p,h1,h2,h3,h4,h5,h6⟩:=h;have vJ:iC r.p M.aC=some p:=h1;refine rI R (fun q s w' hq _ _ _ _ o x=>?_) (fun w' hq _=>?_) (fun q w' hq hn _=>?_)
 .rw[vJ]at hq;cases hq;rw[h6]at o;exact k0 s w' o x
 .rw[vJ]at hq;cases hq
 .rw[vJ]at hq;cases hq;exact(hn ⟨h3,h4,h5,h2⟩).elim
set_option maxHeartbeats 1000000 in
theorem Bi{t:Int}{r:Rf}{cs:List (Rf×List Int)}{Vh:Value}{J:Nat->Wd->(Nat->Prop)->Prop}{B:Nat->Prop}{K:Int->Pw}(R:bC w.heap T m M)(c:iD M.f t r cs)(hl:cs.length<=5)
  (hJ:J 0 w B) (hB:∀q,B q->T q=none/\q < w.heap.size)
  (mono:∀{j w1 w2 B S},J j w1 B->Ext S w1 w2->(∀q,B q->¬ S q)->J j w2 B)
  (step:∀j w1 B s base (hj:j < cs.length) (K':Pw),J j w1 B->aK w1.heap base s cs[j].2->(w.heap.size<=base/\base<=w1.heap.size)->(∀q,B q->q < base)->(∀w' B',J (j+1) w' B'->Ext B w1 w'->(∀q,B' q->B q∨base<=q/\q < w'.heap.size)->K' w')->
   aD pz true Vh [.agg ([.int .u32 cs[j].1.p,.int .u64 cs[j].1.c,.int .u16 cs[j].1.g]).toArray,.slice s.a s.len s.cap] [] K' cc w1)
  (k:∀w' B',J cs.length w' B'->Ext B w w'->bC w'.heap T m M->(∀q,B' q->B q∨w.heap.size<=q/\q < w'.heap.size)->K 0 w'):fB (eY m) t r.p r.c r.g Vh w K:=by
 apply tE;refine af.mk fun b w1 n1=>af.mk fun b1 w2 n2=>?_
 have hb:=n1.at_;have jk:=n2.at_;have z1:=n1.size;have z2:=n2.size;have x2:Ext No w w2:=n1.ext.no n2.ext
 have sup:∀q,w.heap.size<=q->T q=none:=fun q hq=>by
  cases h:T q with
  | none=>rfl
  | some t=>have:=R.sup q (by rw[h];simp);omega
 refine⟨fun q n w'=>∃(j:Nat) (r':Rf) (B':Nat->Prop),n=j/\q=cs.length - j/\j<=cs.length/\iD M.f t r' (cs.drop j)/\J j w' B'/\bC w'.heap T m M/\w'.heap[b]? = some (.cells [eY m,.int .u32 t].toArray 107 (0,0))/\w'.heap[b1]? = some (.cells [.int .u32 r'.p,.int .u64 r'.c,.int .u16 r'.g].toArray 28 (0,0))/\Ext B w w'/\(∀q,B' q->B q∨w2.heap.size<=q/\q < w'.heap.size),⟨cs.length,0,r,B,rfl,rfl,by omega,c,mono hJ x2 (fun _ _ h=>h),R.no x2,ad n1.get n2.ext,n2.get,x2.aE,fun _ h=> .inl h⟩,?_⟩;rintro _ m0 n w3 ⟨j,r',B',rfl,hm,hj,cj,Jj,R3,g3,fN,x3,Rz⟩;refine⟨_,Cell.ah fN rfl,_,Cell.ah fN rfl,_,Cell.ah fN rfl,?_⟩;have s3:=x3.size;have s23:w2.heap.size<=w3.heap.size:=by have:=blt fN;omega
 have e0:((r'.p == 0) && ((r'.c == 0) && ((r'.g == 0) && true)))=decide (r' = .z):=vx r' .z;dsimp only;rw[e0]
 have nB:∀{q},w.heap.size<=q->q < w2.heap.size->¬ B' q:=fun h1 h2 h=>by
  rcases Rz _ h with h' | h'
  .have:=(hB _ h').2;omega
  .omega
 refine If.not (If.dec (fun hz=>?_) fun hz=>?_)
 .have:cs.drop j=[]:=by
   generalize hd:cs.drop j=d at cj
   cases cj with
   | nil=>rfl
   | cons hz'=>exact(hz' hz).elim
  have eO:j=cs.length:=by have:=List.drop_eq_nil_iff.1 this;omega
  rw[eO]at Jj;refine k w3 B' Jj x3 R3 fun q hq=>?_
  rcases Rz q hq with h | h
  .exact .inl h
  .exact .inr ⟨by omega,h.2⟩
 .have eO:j < cs.length:=by
   rcases Nat.lt_or_ge j cs.length with h | h
   .exact h
   .rw[List.drop_eq_nil_of_le h]at cj;cases cj;exact(hz rfl).elim
  refine If.dec (fun h=>by omega) fun _=>⟨_,Cell.ah g3 rfl,_,Cell.ah g3 rfl,_,Cell.ah fN rfl,_,Cell.ah fN rfl,_,Cell.ah fN rfl,jg ?_⟩
  rw[List.drop_eq_getElem_cons eO]at cj;generalize hcj:cs[j]=cp at *
  cases cj with
  | @cons _ next piece _ hz' ho Dl h1 h2 hf h8 cn=>
  refine DC R3 Dl fun s4 w4 o4 x4=>If.bne (fun h=>(h rfl).elim) fun _=>SF o4.rd h1 h2 cn.ok fun s5 w5 o5 x5=>aW rfl rfl (by simp[aJ]) fun b2 w7 g7 jN z7 x7=>If.bne (fun h=>(h rfl).elim) fun _=>?_
  have zX:Ext No w3 w7:=(x4.no x5).no x7;have s37:=zX.size;have fc:=ad fN zX;refine⟨_,Cell.ah fc rfl,_,Cell.ah fc rfl,_,Cell.ah fc rfl,?_⟩;have y4:=x4.size;have y5:=x5.size;have:=step j w7 B' s5 w4.heap.size eO;rw[hcj]at this;refine this _ (mono Jj zX fun _ _ h=>h) (o5.no x7) ⟨by omega,by have:=x7.size;omega⟩ (fun q hq=>?_) fun w8 B8 J8 x8 hB8=>?_
  .rcases Rz q hq with h | h
   .have:=(hB _ h).2;omega
   .omega
  have XJ:¬ B' b2:=fun h=>by
   rcases Rz b2 h with h' | h'
   .have:=(hB _ h').2;omega
   .omega
  have g8:=ag g7 x8 XJ;have zD:=ag fc x8 (nB (by omega) (by omega));have g08:=ag (ad g3 zX) x8 (nB (by omega) (by omega));have s8:=x8.size
  have R8:bC w8.heap T m M:=(R3.no zX).ext x8 fun q hq=>by
   rcases Rz q hq with h | h
   .exact(hB q h).1
   .exact sup q (by omega)
  have nB8:¬ B8 b1:=fun h=>by
   rcases hB8 b1 h with h' | h'
   .exact nB (by omega) (by omega) h'
   .omega
  refine⟨_,Cell.ah g8 rfl,_,Cell.ah g8 rfl,_,Cell.ah g8 rfl,cR zD rfl rfl (by simp[aJ]) fun w9 g9 x9 z9=>Ar.i64 (by omega) ⟨cs.length - (j+1),by omega,j+1,next,B8,by omega,rfl,by omega,cn,mono J8 x9 (fun q hq h=>nB8 (h ▸ hq)),R8.ext x9 (fun q hq=>by rw[hq];exact sup b1 (by omega)),ag g08 x9 (by omega),g9,?_,fun q hq=>?_⟩⟩
  .refine(((x3.no zX).trans x8 fun q hq h=>?_).trans x9 fun q hq h=>by omega);rcases Rz q h with h' | h'
   .exact h'
   .omega
  .rcases hB8 q hq with h | h
   .rcases Rz q h with h' | h'
    .exact .inl h'
    .exact .inr ⟨h'.1,by omega⟩
   .exact .inr ⟨by omega,by omega⟩
def Hw(bv:Nat)(base:Nat)(cs:List (Rf×List Int))(j:Nat)(w:Wd)(B:Nat->Prop):Prop:=
 ∃(sl:Sl) (ps:List (Sl×List Int)),w.heap[bv]? = some (.cells [.slice sl.a sl.len sl.cap].toArray 111 (0,0))/\bf w.heap base 23 1 sl (ps.map fun p=>p.1.v)/\(bv < base/\base<=w.heap.size)/\(∀p∈ps,b_ w.heap p.1 p.2)/\ps.map Prod.snd=(cs.take j).map Prod.snd/\
  (∀q,B q ↔ q=bv∨sl.aj=some q∨∃p∈ps,p.1.aj=some q)/\(∀p∈ps,∀q,p.1.aj=some q->base<=q/\q < w.heap.size/\sl.aj≠some q)
theorem Hw.mono{bv base:Nat}{cs:List (Rf×List Int)}{j:Nat}{w1 w2:Wd}{B S:Nat->Prop}(h:Hw bv base cs j w1 B)(x:Ext S w1 w2)(hS:∀q,B q->¬ S q):Hw bv base cs j w2 B:=by
 obtain⟨sl,ps,h1,h2,h3,h4,h5,h6,h7⟩:=h;refine⟨sl,ps,ag h1 x (hS _ ((h6 _).2 (.inl rfl))),h2.ext x (fun q hq=>hS _ ((h6 _).2 (.inr (.inl hq)))),⟨h3.1,Nat.le_trans h3.2 x.size⟩,fun p hp=>(h4 p hp).ext x fun a q ha hq=>hS _ ((h6 _).2 (.inr (.inr ⟨p,hp,by simp[Sl.aj,ha,hq]⟩))),h5,h6,fun p hp q hq=>⟨(h7 p hp q hq).1,Nat.lt_of_lt_of_le (h7 p hp q hq).2.1 x.size,(h7 p hp q hq).2.2⟩⟩
theorem Hw.step{bv base:Nat}{cs:List (Rf×List Int)}{j:Nat}{w1:Wd}{B:Nat->Prop}{s:Sl}{b0:Nat}{K':Pw}(hl:cs.length<=5)(hj:j < cs.length)(h:Hw bv base cs j w1 B)(o:aK w1.heap b0 s cs[j].2)(hb0:∀q,B q->q < b0)(fq:base<=b0)
  (k:∀w' B',Hw bv base cs (j+1) w' B'->Ext B w1 w'->(∀q,B' q->B q∨b0<=q/\q < w'.heap.size)->K' w') (hbw:b0<=w1.heap.size) :
  aD pz true (.func (.func 100) #[] #[.pointer (some (A1 bv))]) [.agg ([.int .u32 cs[j].1.p,.int .u64 cs[j].1.c,.int .u16 cs[j].1.g]).toArray,.slice s.a s.len s.cap] [] K' cc w1:=by
 obtain⟨sl,ps,h1,h2,h3,h4,h5,h6,h7⟩:=h;refine qQ (c0:=A1 bv) (qP ?_)
 refine af.mk fun b w2 n2=>⟨_,Cell.ah (ad h1 n2.ext) rfl,af.mk fun b1 w3 n3=>?_⟩
 have x3:=n2.ext.no n3.ext;have z2:=n2.size;have z3:=n3.size;have jk:=n3.at_;have o3:=h2.no x3;have e3:bf w3.heap w2.heap.size 23 1 ⟨some ⟨b1,0,none⟩,1,1⟩ [s.v]:=bf.new (n:=1) (sz:=1) n3 rfl (by simp[aJ,Sl.v]);have hlen:ps.length=j:=by have:=congrArg List.length h5;simp only[List.length_map,List.length_take]at this;omega
 have LN:sl.len=ps.length:=by have:=h2.len;simp at this;omega
 have SG:∀q,sl.aj=some q->B q:=fun q hq=>(h6 q).2 (.inr (.inl hq))
 have RA:B bv:=(h6 bv).2 (.inl rfl);have nbv:sl.aj≠some bv:=fun h=>by have:=(h2.lt h).1;omega
 refine pK o3 (by omega) e3.rd.src (by simp only;omega) fun s' w4 o4 _ x4 oQ=>?_
 have y4:=x4.size
 have VL:∀q,s'.aj=some q->B q∨w1.heap.size<=q:=fun q hq=>by
  rcases oQ with h | ⟨c,h,hc⟩
  .exact .inl (SG q (h ▸ hq))
  .rw[h]at hq;cases hq;exact .inr (by omega)
 have g4:=ag (ad h1 x3) x4 nbv;have acw:s'.aj≠some bv:=fun h=>by have:=(o4.lt h).1;omega
 refine aQ.b1 g4 rfl fun w5 SH=>?_
 have z5:=SH.size;have sN:Ext B w1 w5:=((x3.aE).trans x4 fun q _ hq=>SG q hq).trans SH.ext fun q _ hq=>by rw[hq];exact RA
 have sb:∀q,s.aj=some q->b0<=q/\q < w1.heap.size:=fun q hq=>o.lt hq
 have nBs:∀q,s.aj=some q->¬ B q:=fun q hq h=>by have:=hb0 q h;have:=sb q hq;omega
 refine k w5 (fun q=>q=bv∨s'.aj=some q∨∃p∈ps++[(s,cs[j].2)],p.1.aj=some q) ⟨s',ps++[(s,cs[j].2)],SH.get g4,?_,⟨h3.1,by have:=sN.size;omega⟩,fun p hp=>?_,?_,fun q=>Iff.rfl,fun p hp q hq=>?_⟩ sN fun q hq=>?_
 .have:(ps++[(s,cs[j].2)]).map (fun p=>p.1.v)=ps.map (fun p=>p.1.v)++[s.v]:=by simp
  rw[this];exact o4.ext SH.ext fun q hq h=>acw (h ▸ hq)
 .rcases List.mem_append.1 hp with h | h
  .refine((h4 p h).no x3).ext x4 (fun a q ha hq e=>(h7 p h q (by simp[Sl.aj,ha,hq])).2.2 e) |>.ext SH.ext fun a q ha hq e=>?_
   have:=(h7 p h q (by simp[Sl.aj,ha,hq])).1;omega
  .rw[List.mem_singleton]at h;subst h;exact o.rd.ext sN fun a q ha hq=>nBs q (by simp[Sl.aj,ha,hq])
 .rw[List.map_append,h5,List.take_add_one,List.getElem?_eq_getElem hj,List.map_append];rfl
 .rcases List.mem_append.1 hp with h | h
  .obtain⟨a1,a2,a3⟩:=h7 p h q hq;refine⟨a1,by omega,fun e=>?_⟩;rcases oQ with h' | ⟨c,h',hc⟩
   .exact a3 (h' ▸ e)
   .rw[h']at e;cases e;omega
  .rw[List.mem_singleton]at h;subst h;have:=sb q hq;refine⟨by omega,by omega,fun e=>?_⟩;rcases VL q e with h' | h'
   .exact nBs q hq h'
   .omega
 .rcases hq with h | h | ⟨p,hp,h⟩
  .exact .inl (h ▸ RA)
  .rcases VL q h with h' | h'
   .exact .inl h'
   .exact .inr ⟨by omega,by have:=(o4.lt h).2;omega⟩
  .rcases List.mem_append.1 hp with h' | h'
   .exact .inl ((h6 q).2 (.inr (.inr ⟨p,h',h⟩)))
   .rw[List.mem_singleton]at h';subst h';have:=sb q h;exact .inr ⟨this.1,by have:=sN.size;omega⟩
theorem yo{f:bR}{t:Int}{r:Rf}{cs:List (Rf×List Int)}(h:iD f t r cs):(∀j (hj:j < cs.length),cs[j].2.length=min 208 ((KE cs).length - (KE (cs.take j)).length))/\(cs.length:Int)=((KE cs).length+207) / 208/\(∀p∈cs,B8 p.2):=by
 induction h with
 | nil=>exact⟨fun j hj=>by simp at hj,by simp,by simp⟩
 | @cons r next piece cs hz ho Dl h1 h2 hf h8 c ih=>
  obtain⟨i1,i2,i3⟩:=ih;have e:(KE ((r,piece)::cs)).length=piece.length+(KE cs).length:=by simp[KE]
  refine⟨fun j hj=>?_,?_,fun p hp=>?_⟩
  .cases j with
   | zero=>
    simp only[List.getElem_cons_zero,List.take_zero];rw[e];rcases Classical.em (cs=[]) with h | h
    .subst h;simp[KE];omega
    .have:=hf h;simp[KE];omega
   | succ j=>
    simp only[List.length_cons]at hj;have bA:cs≠[]:=by intro h;subst h;simp at hj
    have hp:=hf bA;simp only[List.getElem_cons_succ,List.take_succ_cons];have e2:(KE ((r,piece)::cs.take j)).length=piece.length+(KE (cs.take j)).length:=by simp[KE]
    rw[i1 j (by omega),e,e2];congr 1;omega
  .rw[e];rcases Classical.em (cs=[]) with h | h
   .subst h;simp[KE];omega
   .have hp:=hf h;simp only[List.length_cons];omega
  .rcases List.mem_cons.1 hp with h | h
   .subst h;exact h8
   .exact i3 p h
theorem LZ{sl:Sl}{ps:List (Sl×List Int)}{v:List Int}{K:Sl->Int->Pw}(hs:Rd w.heap sl 1 (ps.map fun p=>p.1.v))(hp:∀p∈ps,b_ w.heap p.1 p.2)(hv:(ps.map Prod.snd).flatten=v)(hn:(ps.length:Int)=(v.length+207) / 208)(hl:v.length<=1024)
  (hz:∀j (hj:j < ps.length),ps[j].2.length=min 208 (v.length - ((ps.take j).map Prod.snd).flatten.length)) (k:∀s w',aK w'.heap w.heap.size s v->Ext No w w'->K s 0 w'):pB sl v.length w K:=by
 apply EG;have hlen:sl.len=ps.length:=by have:=hs.len;simp at this;exact this.symm
 have s_:∀j (h:j < ps.length),((ps.take (j+1)).map Prod.snd).flatten=((ps.take j).map Prod.snd).flatten++ps[j].2:=fun j h=>by
  rw[List.take_add_one,List.getElem?_eq_getElem h];simp only[Option.toList_some,List.map_append,List.map_cons,List.map_nil,List.flatten_append,List.flatten_cons,List.flatten_nil,List.append_nil]
 have hle:∀j,((ps.take j).map Prod.snd).flatten.length<=v.length:=fun j=>by
  have e:v=((ps.take j).map Prod.snd).flatten++((ps.drop j).map Prod.snd).flatten:=by
   rw[<- List.flatten_append,<- List.map_append,List.take_append_drop,hv]
  rw[e,List.length_append];omega
 refine yn (by omega) (by omega) (If.bne (fun h=>(h rfl).elim) fun _=>If.bne (fun h=>by omega) fun _=>?_);refine⟨fun q s t w'=>∃j:Nat,t=j/\j<=ps.length/\q=ps.length - j/\aK w'.heap w.heap.size s ((ps.take j).map Prod.snd).flatten/\Ext No w w',⟨ps.length,0,rfl,by omega,by omega,bf.nil _ _ _ _,Ext.refl _ _⟩,?_⟩;rintro _ m0 s t w2 ⟨j,rfl,hj,hm,o2,x2⟩;refine If.dec (fun h=>Ix.cell (hs.no x2) (by omega) (by omega) fun bb o vv _ XK hc=>?_) fun h=>?_
 .have mH:j < ps.length:=by omega
  rw[Int.toNat_natCast,List.getElem?_map,List.getElem?_eq_getElem mH]at XK;simp only[Option.map_some,Option.some.injEq]at XK;subst XK;have hr:=hp _ (List.getElem_mem mH);have l1:=b_.len hr;have l2:=aK.len o2;have l3:=hz j mH;have l4:=hle j;have l5:=hle (j+1);rw[s_ j mH,List.length_append]at l5;refine⟨_,hc,Ar.i64 (by omega) (Nm.mk (If.bne (fun h=>?_) fun _=>?_))⟩
  .exfalso;apply h;rw[l1,l3,l2];unfold gm;split <;> omega
  .refine c_ o2 x2.size (Rd.no hr x2).src (by omega) fun s' w' o' _ x' _=>Ar.i64 (by omega) ⟨ps.length - (j+1),by omega,j+1,by omega,by omega,rfl,?_,x2.trans x' fun q hq hh=>?_⟩
   .rw[<- List.map_append,<- s_ j mH]at o';exact o'
   .have:=(o2.lt hh).1;omega
 .have e:j=ps.length:=by omega
  rw[e,List.take_length,hv]at o2;exact k _ _ o2 x2
end
section
variable {w:Wd} {T:Nat->Option Nat} {m:bJ} {M:Mm}
theorem Hx(r:Rf):((r.p == 0) && ((r.c == 0) && ((r.g == 0) && true)))=decide (r = .z):=vx r .z
set_option maxHeartbeats 1000000 in
theorem JC{t i:Int}{x:aL}{e:aF}{kv:KV}{ps:List Rf}{K:Sl->Int->Pw}(R:bC w.heap T m M)(er:lD w.heap x e)(hp:nR 1 i e)(hl:DB M.f t e kv ps)(k:∀s w',aK w'.heap w.heap.size s kv.2->Ext No w w'->K s 0 w') :
  fx (eY m) t x.k x.v x.n x.ch.p x.ch.c x.ch.g x.cd.p x.cd.c x.cd.g w K:=by
 have oR:=hp.2;rw[if_neg (by decide)]at oR;obtain⟨U6,oR⟩:=oR;have Hy:=hl.2;rcases Classical.em (e.n=0) with h0 | h0
 .rw[if_pos h0]at oR Hy;refine Fv er oR.1 (by omega) fun s w' o x=>k s w' (by rw[<- Hy.1];exact o) x
 .rw[if_neg h0]at oR Hy;obtain⟨hn,cs,hc,T7,Pc⟩:=Hy;apply mC;refine af.mk fun b w1 n1=>af.mk fun b1 w2 n2=>?_
  have x2:=n1.ext.no n2.ext;have g2:w2.heap[b1]? = some (.cells x.cs.toArray 151 (0,0)):=n2.get;have g02:=ad n1.get n2.ext;have z1:=n1.size;have z2:=n2.size;have hb:=n1.at_;have jk:=n2.at_;obtain⟨c1,c2,c3⟩:=yo hc;have hlen:cs.length<=5:=by rw[T7]at c2;omega
  refine⟨_,Cell.ah g2 rfl,_,Cell.ah g2 rfl,_,Cell.ah g2 rfl,?_⟩;dsimp only;rw[Hx,er.ch];refine If.dec (fun h=>(oR.2.2.1 h).elim) fun _=>af.mk fun b2 w4 n4=>?_
  have x4:=x2.no n4.ext;have g4:=ad g2 n4.ext;have g04:=ad g02 n4.ext;have z4:=n4.size;have jN:=n4.at_;have R4:=R.no x4;refine⟨_,Cell.ah g04 rfl,_,Cell.ah g04 rfl,_,Cell.ah g4 rfl,_,Cell.ah g4 rfl,_,Cell.ah g4 rfl,?_⟩;rw[er.ch];refine Bi (J:=Hw b2 w4.heap.size cs) (B:=fun q=>q=b2) R4 hc hlen ⟨⟨none,0,0⟩,[],n4.get,bf.nil _ _ _ _,⟨by omega,Nat.le_refl _⟩,by simp,by simp,fun q=>by simp[Sl.aj],by simp⟩ (fun q hq=>⟨?_,by omega⟩) (fun h x hS=>h.mono x hS) (fun j w5 B' s base hj K' hJ o hb hB kk=>Hw.step hlen hj hJ o hB hb.1 kk hb.2) fun w5 B5 J5 x5 R5 VM=>If.bne (fun h=>(h rfl).elim) fun _=>?_
  .cases h:T q with
   | none=>rfl
   | some t=>have:=R.sup q (by rw[h];simp);omega
  obtain⟨sl,qs,q1,q2,q3,q4,q5,q6,q7⟩:=J5;rw[List.take_length]at q5;have g5:=ag g4 x5 (by omega);refine⟨_,Cell.ah q1 rfl,_,Cell.ah g5 rfl,?_⟩;rw[er.n,hn];have xY:Ext No w w5:=x4.trans x5 fun q hq h=>by omega
  have ql:qs.length=cs.length:=by have:=congrArg List.length q5;simpa using this
  have qj:∀j (hj:j < qs.length) (mH:j < cs.length),qs[j].2=cs[j].2:=fun j hj mH=>by
   have:=congrArg (fun l=>l[j]?) q5;simp only[List.getElem?_map,List.getElem?_eq_getElem hj,List.getElem?_eq_getElem mH,Option.map_some,Option.some.injEq]at this;exact this
  refine LZ q2.rd q4 (by rw[q5];exact T7) (by rw[ql,c2,T7]) (by omega) (fun j hj=>?_) fun s w6 o6 x6=>k s w6 (bf.mono o6 xY.size) (xY.no x6)
  have:=c1 j (by omega);rw[T7]at this;rw[qj j hj (by omega),this,List.map_take,q5,<- List.map_take]
end
end Go.Proofs.YtpjbalhhlaofmaaGreat
namespace Go.V
def bU(kvs:List KV)(key:List Int):Option (List Int):=(kvs.find? fun x=>decide (x.1=key)).map Prod.snd
theorem me(a b:List KV)(key:List Int):bU (a++b) key=(bU a key).or (bU b key):=by
 unfold bU;rw[List.find?_append];cases List.find? _ a <;> rfl
theorem pQ{a:List KV}{key:List Int}(h:∀x∈a,x.1≠key):bU a key=none:=by
 unfold bU;rw[List.find?_eq_none.2 fun x hx=>by simpa using h x hx];rfl
def xe(l:List aF):Prop:=∀i (h:i+1 < l.length),bM l[i].key l[i+1].key
theorem xe.tail{e:aF}{l:List aF}(h:xe (e::l)):xe l:=fun i hi=>h (i+1) (by simp;omega)
theorem xe.lt{l:List aF}(h:xe l):∀{i j:Nat}(Fp:i < j)(hj:j < l.length),bM (l[i]'(by omega)).key l[j].key:=by
 intro i j Fp
 induction j with
 | zero=>omega
 | succ j ih=>
  intro hj;rcases Nat.lt_or_ge i j with h' | h'
  .exact(ih h' (by omega)).trans (h j hj)
  .have:i=j:=by omega
   subst this;exact h i hj
theorem vK{Q:Rf->List KV->List Rf->Prop}{l:List aF}{kvs:List KV}{ps:List Rf}(h:aM Q l kvs ps):xe l->∀e l',l=e::l'->∀x∈kvs,¬ bM x.1 e.key:=by
 induction h with
 | nil=>intro _ e l' h;cases h
 | @cons e l kv kvs p ps h lo hi r ih=>
  intro hr e' l' he x hx
  cases he
  rcases List.mem_append.1 hx with h' | h'
  .exact lo x h'
  .cases l with
   | nil=>cases r;cases h'
   | cons e2 l2=>
    intro cF;have h1:=ih hr.tail e2 l2 rfl x h';have h2:bM e.key e2.key:=hr 0 (by simp);exact h1 (cF.trans h2)
structure ui(l:List aF)(key:List Int)(i:Nat):Prop where
 lt:i < l.length
 le:∀j (h:j < l.length),j<=i->¬ bM key l[j].key
 gt:∀j (h:j < l.length),i < j->bM key l[j].key
theorem Pd{Q:Rf->List KV->List Rf->Prop}{key:List Int}{l:List aF}{kvs:List KV}{ps:List Rf}(h:aM Q l kvs ps):∀{i:Nat},xe l->(c:ui l key i)->∃kv p,Q (l[i]'c.lt).cd kv p/\bU kvs key=bU kv key/\(∀r∈p,r∈ps)/\∀x∈kv,x∈kvs:=by
 induction h with
 | nil=>intro i _ c;exact absurd c.lt (by simp)
 | @cons e l kv kvs p ps h lo hi r ih=>
  intro i hr c
  cases i with
  | zero=>
   refine⟨kv,p,h,?_,fun r hr=>List.mem_append_left _ hr,fun x hx=>List.mem_append_left _ hx⟩;rw[me]
   have:bU kvs key=none:=pQ fun x hx e'=>by
    cases l with
    | nil=>cases r;cases hx
    | cons e2 l2=>
     have h1:=vK r hr.tail e2 l2 rfl x hx;have h2:=c.gt 1 (by simp) (by omega);exact h1 (by rw[e'];exact h2)
   rw[this,Option.or_none]
  | succ i=>
   have ci:ui l key i:=⟨by have:=c.lt;simp at this;omega,fun j hj Aa=>c.le (j+1) (by simp;omega) (by omega),fun j hj Fp=>c.gt (j+1) (by simp;omega) (by omega)⟩
   obtain⟨Cb,p',h1,h2,h3,h4⟩:=ih hr.tail ci;refine⟨Cb,p',h1,?_,fun r hr=>List.mem_append_right _ (h3 r hr),fun x hx=>List.mem_append_right _ (h4 x hx)⟩;rw[me]
   have:bU kv key=none:=pQ fun x hx e'=>by
    cases l with
    | nil=>exact absurd ci.lt (by simp)
    | cons e2 l2=>
     have h5:=hi e2 l2 rfl x hx;rw[e']at h5;exact c.le 1 (by simp) (by omega) h5
   rw[this,Option.none_or,h2]
theorem Pe{f:bR}{t:Int}{l:List aF}{kvs:List KV}{ps:List Rf}(h:cG f t l kvs ps):kvs.length=l.length/\(∀i (h1:i < l.length) (h2:i < kvs.length),∃p,DB f t l[i] kvs[i] p/\∀r∈p,r∈ps):=by
 induction h with
 | nil=>exact⟨rfl,fun i h=>by simp at h⟩
 | @cons e l x kvs p ps h r ih=>
  refine⟨by simp[ih.1],fun i h1 h2=>?_⟩
  cases i with
  | zero=>exact⟨p,h,fun r hr=>List.mem_append_left _ hr⟩
  | succ i=>
   obtain⟨p',a,b⟩:=ih.2 i (by simpa using h1) (by simpa using h2);exact⟨p',a,fun r hr=>List.mem_append_right _ (b r hr)⟩
end Go.V
namespace Go.Proofs.YtpjbalhhlaofmaaGreat
open Go.V
section
variable {w:Wd} {T:Nat->Option Nat} {m:bJ} {M:Mm}
theorem uj{kind lev:Int}{s ks:Sl}{L:List (aL×aF)}{key:List Int}{K:Int->Pw}(nd:ny w.heap s L)(hk:b_ w.heap ks key)(k8:B8 key)(hl:L.length<=65536)(hr:xe (ents L))(h0:∃e l,ents L=e::l/\e.key=[])
  (k:∀(i:Nat) w',ui (ents L) key i->Ext No w w'->K i w'):hH kind lev s ks w K:=by
 apply Cp
 refine af.mk fun b w1 n1=>⟨_,Cell.ah n1.get rfl,?_⟩
 have nl:=nd.len;obtain⟨e0,l0,Y6,Zl⟩:=h0;have bA:0 < L.length:=by have:=congrArg List.length Y6;simp at this;omega
 have hz:L[0].2.key=[]:=by
  have:=congrArg (fun l=>l[0]?) Y6;simp only[List.getElem?_map,List.getElem?_eq_getElem bA,Option.map_some,List.getElem?_cons_zero,Option.some.injEq]at this;rw[this];exact Zl
 refine⟨fun q t w'=>∃i:Nat,t=i/\i<=L.length/\q=L.length - i/\Ext No w1 w'/\∀j (h:j < L.length),j < i->¬ bM key L[j].2.key,⟨L.length,0,rfl,by omega,by omega,Ext.refl _ _,fun j h h'=>by omega⟩,?_⟩;rintro _ m0 t w2 ⟨i,rfl,hi,hm,x2,cF⟩;have jA:=n1.ext.no x2;refine If.dec (fun h=>?_) fun h=>?_
 .refine rz (nd.rd.no jA) (by omega) h fun b1 w4 iO g4 _ _ x4=>?_
  simp only[Int.toNat_natCast]at iO g4;have fg:=jA.no x4;have er:=(nd.no fg).get iO;refine⟨_,Cell.ah g4 rfl,gz er.k (Rd.no hk fg) er.k8 k8 (If.dec (fun hc=>?_) fun hc=>Ar.i64 (by omega) ⟨L.length - (i+1),by omega,i+1,by omega,by omega,rfl,x2.no x4,fun j hj Aa=>?_⟩)⟩
  .have B_:=Kp.1 hc
   have hi0:0 < i:=by
    rcases Nat.eq_zero_or_pos i with h | h
    .subst h;rw[hz]at B_;cases key <;> cases B_
    .exact h
   refine Ar.i64 (by omega) ?_;have e:((i:Int) - 1)=((i - 1:Nat):Int):=by omega
   rw[e];refine k (i - 1) w4 ⟨by simp;omega,fun j hj Aa=>?_,fun j hj Aa=>?_⟩ fg
   .simp only[List.getElem_map];exact cF j (by simpa using hj) (by omega)
   .simp only[List.length_map]at hj;rcases Nat.lt_or_ge i j with h' | h'
    .exact B_.trans (by have:=hr.lt h' (by simpa using hj);simpa using this)
    .have:j=i:=by omega
     subst this;simpa using B_
  .rcases Nat.lt_or_ge j i with h3 | h3
   .exact cF j hj h3
   .have:j=i:=by omega
    subst this;exact fun hh=>hc (Kp.2 hh)
 .have e:i=L.length:=by omega
  refine⟨_,Cell.ah (ad n1.get x2) rfl,Ar.i64 (by omega) ?_⟩;have e2:((s.len:Int) - 1)=((i - 1:Nat):Int):=by omega
  rw[e2];refine k (i - 1) w2 ⟨by simp;omega,fun j hj Aa=>?_,fun j hj Aa=>?_⟩ jA
  .simp only[List.getElem_map];exact cF j (by simpa using hj) (by omega)
  .simp at hj;omega
end
section
variable {w:Wd} {T:Nat->Option Nat} {m:bJ} {M:Mm}
theorem vL{t lev:Int}{r:Rf}{l:List aF}{K:Int->Int->Sl->Int->Pw}(R:bC w.heap T m M)(h:kg M.f t (bE lev) lev r l)(bA:l≠[])(k:∀s L w',ic w'.heap w.heap.size s L->ents L=l->Ext No w w'->K (bE lev) lev s 0 w'):bD (eY m) t r.p r.c r.g lev w K:=by
 obtain⟨p,h1,h2,h3,h4,h5,h6⟩:=h.at_;have vJ:iC r.p M.aC=some p:=h1
 have np:KD p l:=⟨by rw[h4,h5];exact h.right,by rw[h4,h5];exact h.short,fun e he=>(h.ok e he).1,by rw[h4,h5];exact h6⟩
 refine DA (l:=l) R (fun q s L w' hq _ _ _ _ _ o eL x=>k s L w' o eL x) (fun q hq _ _ _ _=>?_) (fun w' hq _=>?_) (fun q w' hq hn _=>?_) (fun q w' hq _ _ _ _ hb _=>?_)
 .rw[vJ]at hq;cases hq;exact .inl np
 .rw[vJ]at hq;cases hq
 .rw[vJ]at hq;cases hq;exact(hn ⟨h3,h4,h5,h2⟩).elim
 .rcases hb with⟨hb,_⟩ | ⟨x,q',hb,Xz,hx2⟩
  .exact(bA hb).elim
  .rw[vJ]at hq;cases hq;rw[h6]at hb;have hs:=h.right.shape;unfold iB at hs;simp only[pad,wr,List.cons_append,List.cons.injEq]at hb;omega
theorem KG{f:Rf}{t k v:Int}{pay:List Int}(R:bC w.heap T m M)(h:At M.f f t k v pay):2<=f.p/\f.ok:=by
 obtain⟨p,h1,h2,h3,h4,h5,h6⟩:=h;have:=R.find h1;refine⟨R.lo _ (vF h1),?_⟩;rw[<- h2];exact this.ok
theorem bq.at_{f:bR}{t:Int}:∀{lev:Nat}{r:Rf}{kvs:List KV}{ps:List Rf},bq f t lev r kvs ps->∃k v pay,At f r t k v pay
 | 0,_,_,_,⟨_,_,h,_⟩=>⟨_,_,_,h.at_⟩
 | _+1,_,_,_,⟨_,_,h,_⟩=>⟨_,_,_,h.at_⟩
theorem mP{L:List (aL×aF)}{l:List aF}(h:ents L=l):L.length=l.length:=by rw[<- h];simp
set_option maxHeartbeats 2000000 in
theorem pR{t lev:Int}{r:Rf}{ks:Sl}{key:List Int}{kvs:List KV}{ps:List Rf}{K:Sl->Int->Pw}(R:bC w.heap T m M)(hT:dS M.f t r lev kvs ps)(dP:lev<=30)(hk:b_ w.heap ks key)(k8:B8 key)
  (k2:∀w',key.length=0∨32 < key.length->Ext No w w'->K ⟨none,0,0⟩ 2 w')
  (k7:∀w',1<=key.length->key.length<=32->bU kvs key=none->Ext No w w'->K ⟨none,0,0⟩ 7 w')
  (k0:∀v s w',1<=key.length->key.length<=32->bU kvs key=some v->aK w'.heap w.heap.size s v->Ext No w w'->K s 0 w'):fw (eY m) t r.p r.c r.g lev ks w K:=by
 apply tF;have zS:=b_.len hk
 refine af.mk fun b w1 n1=>⟨fun w'=>w'=w1/\1<=key.length/\key.length<=32,⟨trivial,If.no (If.beq (fun h=>k2 _ (.inl (by omega)) n1.ext) fun h=>If.dec (fun h'=>k2 _ (.inr (by omega)) n1.ext) fun h'=>⟨rfl,by omega,by omega⟩)⟩,?_⟩
 rintro _ w2 ⟨rfl,T8,CJ⟩;refine⟨rfl,aW rfl rfl (by simp[aJ]) fun b1 w4 g4 jk z4 x4=>?_⟩;have hb:=n1.at_;have z1:=n1.size;have fg:=n1.ext.no x4;have RB:=ad n1.get x4;refine⟨fun q w'=>∃(r':Rf) (lv:Int) (kv:List KV) (dG:List Rf),dS M.f t r' lv kv dG/\lv<=30/\q=lv.toNat/\bU kv key=bU kvs key/\w'.heap[b]? = some (.cells [.int .u32 r'.p,.int .u64 r'.c,.int .u16 r'.g,.int .u8 lv].toArray 30 (0,0))/\w'.heap[b1]? = some (.cells [eY m,.int .u32 t].toArray 107 (0,0))/\Ext No w w',⟨_,r,lev,kvs,ps,hT,dP,rfl,rfl,RB,g4,fg⟩,?_⟩;rintro _ m0 w5 ⟨r',lv,kv,dG,LJ,SE,rfl,hg,gb,g1,x5⟩;refine⟨_,Cell.ah gb rfl,_,Cell.ah gb rfl,_,Cell.ah gb rfl,_,Cell.ah gb rfl,?_⟩;dsimp only;rw[Hx];have R5:=R.no x5;rcases LJ with⟨h1,h2,h3,_⟩ | ⟨h1,h2,hS⟩
 .rw[h1,h2];refine If.no (k7 _ T8 CJ (by rw[<- hg,h3];rfl) x5)
 .rw[decide_eq_false h1];refine If.yes ⟨_,Cell.ah g1 rfl,_,Cell.ah g1 rfl,_,Cell.ah gb rfl,_,Cell.ah gb rfl,_,Cell.ah gb rfl,_,Cell.ah gb rfl,?_⟩
  have uW:∃l,kg M.f t (bE lv) lv r' l/\l≠[]/\(lv=0->∃dG,cG M.f t l kv dG)/\(lv≠0->∃dG,aM (bq M.f t (lv.toNat - 1)) l kv dG):=by
   rcases Classical.em (lv=0) with h0 | h0
   .rw[h0]at hS ⊢;obtain⟨l,q,a1,a2,a3,_⟩:=hS;exact⟨l,a1,a2,fun _=>⟨q,a3⟩,fun h=>(h rfl).elim⟩
   .have e:lv.toNat=(lv.toNat - 1)+1:=by omega
    rw[e]at hS;obtain⟨l,q,a1,a2,a3,_⟩:=hS;have e2:(((lv.toNat - 1+1:Nat)):Int)=lv:=by omega
    rw[e2]at a1;refine⟨l,by unfold bE;rw[if_neg h0];exact a1,by intro h;rw[h]at a2;simp at a2,fun h=>(h0 h).elim,fun _=>⟨q,a3⟩⟩
  obtain⟨l,hN,bA,Zm,Zn⟩:=uW;have IY:=fZ hN.short;refine vL R5 hN bA fun s6 L w6 o6 eL x6=>aW rfl rfl (by simp[aJ]) fun b2 w8 g8 jN z8 x8=>If.bne (fun h=>(h rfl).elim) fun _=>?_
  have uk:=x6.no x8;have od:=x5.no uk;have gb8:=ad gb uk;have zD:=ad g1 uk;have KH:ny w8.heap s6 L:=(o6.no x8).nd;have hL:=mP eL;refine⟨_,Cell.ah gb8 rfl,If.dec (fun tv=>?_) fun tv=>?_⟩
  .-- down
   obtain⟨q,hK⟩:=Zn (by omega);have hr:xe l:=hN.right.ord;have k2e:bE lv=2:=by unfold bE;rw[if_neg (by omega)]
   have h0:∃e l',ents L=e::l'/\e.key=[]:=by
    cases l with
    | nil=>exact(bA rfl).elim
    | cons e l' =>
     refine⟨e,l',eL,?_⟩;have:=(hN.right.h_ 0 (by simp)).1;rw[k2e]at this;unfold lX at this;rw[if_pos ⟨rfl,rfl⟩]at this;exact List.eq_nil_of_length_eq_zero (by simpa using this)
   have Hz:¬ b2=b:=by have:=blt gb;have:=x6.size;omega
   have nS:∀{q:Nat},q≠b->¬ (fun i=>i=b) q:=fun h h'=>h h'
   refine⟨Ext (·=b) w8,(Ext.refl _ _).drew,_,ae.dI (Cell.ah g8 rfl) Hz,_,ae.dI (Cell.ah g8 rfl) Hz,_,ae.dI (Cell.ah g8 rfl) Hz,_,ae.dI (Cell.ah g8 rfl) Hz,_,ae.dI (Cell.ah g8 rfl) Hz,_,ae.dI (Cell.ah g8 rfl) Hz,?_⟩
   refine uj (w:=aa w8) KH (Rd.no hk od.drew) k8 (by omega) (by rw[eL];exact hr) h0 fun i w9 hc x9=>⟨(x9.ar).aE,?_⟩
   have DD:Ext No w8 w9:=x9.ar;have Pf:ui l key i:=by rw[<- eL];exact hc
   have hi:i < L.length:=by have:=Pf.lt;omega
   refine mO (KH.no DD) (by omega) (by simpa using hi) (by omega) fun dV dW=>⟨(DD.no dW).aE,?_⟩
   have x8a:Ext No w8 dV:=DD.no dW
   refine cR (ad gb8 x8a) rfl rfl (by simp[aJ]) fun di oS fH _=>⟨x8a.aE.trans fH fun _ _ h=>h,?_⟩
   obtain⟨Cb,p',hQ,Zo,n_,_⟩:=Pd hK hr Pf
   have e1:L[((i:Nat):Int).toNat].2=l[i]'Pf.lt:=by
    have:=congrArg (fun l=>l[i]?) eL;simp only[List.getElem?_map,List.getElem?_eq_getElem hi,List.getElem?_eq_getElem Pf.lt,Option.map_some,Option.some.injEq]at this;simpa using this
   rw[e1]at oS;obtain⟨_,_,_,Dl⟩:=bq.at_ hQ;have hlo:=(KG R Dl).1;refine⟨(lv - 1).toNat,by omega,(l[i]'Pf.lt).cd,lv - 1,Cb,p',.inr ⟨fun h=>by rw[h]at hlo;exact absurd hlo (by decide),by omega,by rw[show(lv - 1).toNat=lv.toNat - 1 by omega];exact hQ⟩,by omega,rfl,by rw[<- Zo,hg],oS,ag (ad zD x8a) fH (by omega),(od.no x8a).trans fH fun q hq h=>by omega⟩
  .-- a leaf
   have h0:lv=0:=by omega
   obtain⟨q,hLf⟩:=Zm h0;refine⟨_,Cell.ah g8 rfl,_,Cell.ah g8 rfl,_,Cell.ah g8 rfl,find_spec KH (Rd.no hk od) k8 (by omega) fun i f eN hf fJ=>?_⟩;obtain⟨SI,hle⟩:=Pe hLf;have hr:xe l:=hN.right.ord;rw[eL]at hf
   have Ph:∀j (h1:j < l.length) (h2:j < kv.length),l[j].key=kv[j].1:=fun j h1 h2=>by
    obtain⟨p,a,_⟩:=hle j h1 h2;exact a.1
   refine If.not (If.cases (fun SJ=>?_) fun SJ=>?_)
   .subst SJ;obtain⟨hi,jm⟩:=hf.eq.1 rfl;have iO:i < L.length:=by omega
    have uJ:i < kv.length:=by omega
    have hv:bU kv key=some kv[i].2:=by
     unfold bU
     have:kv.find? (fun x=>decide (x.1=key))=some kv[i]:=by
      rw[List.find?_eq_some_iff_getElem];refine⟨by simp[<- Ph i hi uJ,jm],i,uJ,rfl,fun j hj=>?_⟩;have cF:=hf.lt j (by omega) hj;rw[Ph j (by omega) (by omega)]at cF;simp only[Bool.not_eq_true',decide_eq_false_iff_not];intro e;rw[e]at cF;exact cF.irrefl
     rw[this];rfl
    have x8d:=fJ;have Pj:=KH.no fJ;obtain⟨p,hE,_⟩:=hle i hi uJ;have k1e:bE lv=1:=by rw[h0];rfl
    refine⟨Ext No eN,(Ext.refl _ _).drew,_,ae.cell (Cell.ah (ad zD fJ) rfl),_,ae.cell (Cell.ah (ad zD fJ) rfl),_,ae.cell (Cell.ah (ad g8 fJ) rfl),Ix.elem Pj.rd (bO L) (by decide) (by omega) (by have:=Pj.len;omega) fun bb o Jr _ hc=>?_⟩;refine⟨_,ae.cell (hc 0 _ rfl),_,ae.cell (hc 1 _ rfl),_,ae.cell (hc 2 _ rfl),_,ae.cell (hc 3 _ rfl),_,ae.cell (hc 4 _ rfl),_,ae.cell (hc 5 _ rfl),_,ae.cell (hc 6 _ rfl),_,ae.cell (hc 7 _ rfl),_,ae.cell (hc 8 _ rfl),?_⟩;simp only[Int.toNat_natCast]at Jr ⊢
    have e1:L[i].2=l[i]:=by
     have:=congrArg (fun l=>l[i]?) eL;simp only[List.getElem?_map,List.getElem?_eq_getElem Jr,List.getElem?_eq_getElem hi,Option.map_some,Option.some.injEq]at this;exact this
    have er:=Pj.get Jr;rw[e1]at er;have T4:=hN.right.h_ i hi;rw[k1e]at T4
    refine JC (w:=aa eN) (R.no (od.no fJ).drew) er T4 hE fun s cO zE ew=>⟨ew.ar,?_⟩
    have vM:=od.no fJ;exact k0 _ s cO T8 CJ (by rw[<- hg];exact hv) (bf.mono zE vM.size) (vM.no ew.ar)
   .refine k7 eN T8 CJ ?_ (od.no fJ);rw[<- hg];refine pQ fun x hx e=>?_
    obtain⟨j,hj,rfl⟩:=List.getElem_of_mem hx;have mH:j < l.length:=by omega
    have ek:=Ph j mH hj;rw[e]at ek;rcases Nat.lt_or_ge j i with h | h
    .have:=hf.lt j mH h;rw[ek]at this;exact this.irrefl
    .rcases Nat.lt_or_ge i j with h' | h'
     .have h3:=hf.ge (by omega);have h4:=hr.lt h' mH;rw[ek]at h4;exact h3 h4
     .have:j=i:=by omega
      subst this;have:=hf.eq.2 ⟨mH,ek⟩;rw[SJ]at this;cases this
end
end Go.Proofs.YtpjbalhhlaofmaaGreat
