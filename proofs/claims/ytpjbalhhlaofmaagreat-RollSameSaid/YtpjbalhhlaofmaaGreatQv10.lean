/- Texts for LRollSame,LRollBytes,LRollReads,LRollNone, part 10. -/
import Derived.Laws.Strings
import Derived.Test.YtpjbalhhlaofmaaGreatProg
import Derived.Test.YtpjbalhhlaofmaaGreatQv9
namespace Go.V
theorem nt{n:Nat}{x:Int}(h0:0<=x)(h1:x < 2 ^ n):(BitVec.ofInt n x).toNat=x.toNat:=by
 rw[BitVec.toNat_ofInt];rw[Int.emod_eq_of_lt h0 (by exact_mod_cast h1)]
theorem xR{a b:Int}(ha:0<=a/\a<=18446744073709551615)(hb:0<=b/\b<=18446744073709551615):nH .or .u64 a b=((a.toNat ||| b.toNat:Nat):Int):=by
 show IntKind.u64.wrap ((BitVec.ofInt 64 a ||| BitVec.ofInt 64 b).toNat:Int)=_;rw[BitVec.toNat_or,nt ha.1 (by omega),nt hb.1 (by omega)];refine IntWalk.u64_in _ ⟨by omega,?_⟩;have:a.toNat ||| b.toNat < 2 ^ 64:=Nat.or_lt_two_pow (by omega) (by omega)
 omega
theorem xS{n x:Int}{i:Nat}(hn:0<=n/\n < 2 ^ i)(hx:0<=x)(hb:n+x * 2 ^ i<=18446744073709551615):nH .or .u64 n (x * 2 ^ i)=n+x * 2 ^ i:=by
 have hp:(0:Int) < 2 ^ i:=Int.pow_pos (by omega);have hxx:0<=x * 2 ^ i:=Int.mul_nonneg hx (Int.le_of_lt hp);rw[xR ⟨hn.1,by omega⟩ ⟨hxx,by omega⟩];obtain⟨m,rfl⟩:=Int.eq_ofNat_of_zero_le hn.1;obtain⟨y,rfl⟩:=Int.eq_ofNat_of_zero_le hx;have h1:m < 2 ^ i:=by exact_mod_cast hn.2
 have e1:((y:Int) * 2 ^ i).toNat=2 ^ i * y:=by
  have:((y:Int) * 2 ^ i)=((2 ^ i * y:Nat):Int):=by simp[Int.mul_comm]
  rw[this];rfl
 rw[e1,Int.toNat_natCast,Nat.or_comm,<- Nat.two_pow_add_eq_or_of_lt h1];simp[Int.add_comm,Int.mul_comm]
theorem Ol{p:Int->Prop}(h:∀x:Fin 256,p (x.val:Int)){x:Int}(hx:0<=x/\x<=255):p x:=by
 have:=h ⟨x.toNat,by omega⟩;simpa[Int.toNat_of_nonneg hx.1] using this
theorem Hb{x:Int}(hx:0<=x/\x<=255):nH .and .u8 x 127=x % 128:=Ol (p:=fun x=>nH .and .u8 x 127=x % 128) (by decide +kernel) hx
theorem Jh{x:Int}(hx:0<=x/\x<=255):nH .or .u8 x 128=x % 128+128:=Ol (p:=fun x=>nH .or .u8 x 128=x % 128+128) (by decide +kernel) hx
theorem fdiv_pow{n:Int}{k b:Nat}:Int.fdiv n (2 ^ min k b)=n / 2 ^ min k b:=by
 rw[Int.fdiv_eq_ediv_of_nonneg];exact Int.le_of_lt (Int.pow_pos (by omega))
theorem ae.no{w:Wd}{b o:Nat}{v:Value}(h:bS w.heap b o=some v):ae (Ext No w) ⟨b,o,none⟩ v:=fun w' e=>by
 rw[lU,qW (e.aj b (oM h) id)];exact h
theorem ae.cell{w:Wd}{b o:Nat}{v:Value}(h:Cell w ⟨b,o,none⟩ v):ae (Ext No w) ⟨b,o,none⟩ v:=ae.no (by rw[<- lU];exact h)
theorem ae.dI{S:Nat->Prop}{w:Wd}{b o:Nat}{v:Value}(h:Cell w ⟨b,o,none⟩ v)(hb:¬ S b):ae (Ext S w) ⟨b,o,none⟩ v:=fun w' e=>by
 have h':bS w.heap b o=some v:=by rw[<- lU];exact h
 rw[lU,qW (e.aj b (oM h') hb)];exact h'
theorem Rd.lt{h:Array Obj}{s:Sl}{sz b:Nat}{cs:List Value}(r:Rd h s sz cs)(bA:cs≠[])(hb:s.aj=some b):b < h.size:=by
 obtain⟨b',off,ha,hc⟩:=r.at_ bA;simp[Sl.aj,ha]at hb;subst hb;exact oM (hc 0 (List.length_pos_iff.2 bA))
theorem aQ.mk{w:Wd}{b o:Nat}{cs:List Value}{T:TypeId}{v:Value}{K:Pw}(hb:w.heap[b]? = some (.cells cs.toArray T (0,0)))(ho:o < cs.length)(hv:aJ v=true)
  (k:∀w',gB w b (.cells (cs.set o v).toArray T (0,0)) w'->K w'):aQ w ⟨b,o,none⟩ v K:=
 ⟨cs.toArray,T,(0,0),hb,rfl,by simpa using ho,.inr (.inr (Nat.le_refl _)),hv,fun w' hw=>k w' hw⟩
theorem Cell.ah{w:Wd}{b o:Nat}{v:Value}{cs:List Value}{T:TypeId}{fz:Nat×Nat}(h:w.heap[b]? = some (.cells cs.toArray T fz))(hc:cs[o]? = some v):Cell w ⟨b,o,none⟩ v:=
 Cell.aj h (by simpa using hc)
def Lz(l:List Int):List UInt8:=l.map fun n=>UInt8.ofNat n.toNat
theorem iR.mk{C:Addr->Value->Prop}{w:Wd}{s:Sl}{l:List Int}{K:ByteArray->Prop}(h:Rd w.heap s 1 (l.map (Value.int .u8)))(hC:∀b o v,bS w.heap b o=some v->C ⟨b,o,none⟩ v)
  (k:K ⟨(Lz l).toArray⟩):iR C s K:=by
 refine⟨Lz l,⟨by simpa[Lz] using h.len,fun i hi=>?_,fun hn=>?_⟩,k⟩
 .simp only[Lz,List.length_map]at hi;obtain⟨b,off,ha,hc⟩:=h.at_ (by intro e;simp at e;subst e;simp at hi);refine⟨_,l[i],ha,?_,by simp[Lz]⟩;rw[aw rfl];exact hC _ _ _ (by have:=hc i (by simpa using hi);rw[List.getElem_map]at this;exact this)
 .have:l=[]:=Classical.byContradiction fun bA=>by
   obtain⟨b,off,ha,_⟩:=h.at_ (by simpa using bA);rw[hn]at ha;cases ha
  subst this;rfl
theorem toList_mk(bs:List UInt8):ByteArray.toList ⟨bs.toArray⟩=bs:=by
 simp[ByteArray.toList_eq]
theorem Kl{l m:List Int}(hl:B8 l)(hm:B8 m):Lz l=Lz m ↔ l=m:=by
 constructor
 .intro h
  induction l generalizing m with
  | nil=>cases m with
   | nil=>rfl
   | cons y m=>simp[Lz]at h
  | cons x l ih=>cases m with
   | nil=>simp[Lz]at h
   | cons y m=>
    simp only[Lz,List.map_cons,List.cons.injEq]at h;have h1:=hl x (by simp);have h2:=hm y (by simp)
    have e:x=y:=by
     have:=congrArg UInt8.toNat h.1;simp only[UInt8.toNat_ofNat']at this;omega
    subst e;rw[ih (hl.sub (by simp_all)) (hm.sub (by simp_all)) h.2]
 .intro h;rw[h]
theorem sZ{P:Program}{w:Wd}{s:Sl}{sz k:Nat}{cs:List Value}(h:Rd w.heap s sz cs)(hk:k<=s.len):(Builtin.firstCells sz k s.v).run P w = .ok (cs.take (k * sz)).toArray w:=by
 have wW:=Rd.src (P:=P) (h.cut (lo:=0) (hi:=k) (mx:=s.cap) (Nat.zero_le _) hk (Nat.le_trans hk h.cap));have:=wW.get w rfl;simp only[Nat.zero_mul,List.drop_zero,Nat.sub_zero]at this;rw[<- this];obtain⟨a,n,c⟩:=s
 cases a with
 | none=>simp[Builtin.firstCells,iQ]
 | some a=>
  have e:a.add 0=a:=rfl;simp[Builtin.firstCells,iQ,e]
theorem Km{P:Program}{t t' e:TypeId}{ie:TypeInfo}{w:Wd}{d x:Sl}{b off sz:Nat}{row xs:List Value}{T:TypeId}{K:Int->Pw}
  (ht:P.underlying t=some (.slice e)) (hi:P.info? e=some ie) (gZ:ie.size=sz) (hd:d.a=some ⟨b,off,none⟩) (hb:w.heap[b]? = some (.cells row.toArray T (0,0))) (hx:Rd w.heap x sz xs)
  (hle:off+min x.len d.len * sz<=row.length)
  (hk:∀w',gB w b (.cells (setL row off (xs.take (min x.len d.len * sz))).toArray T (0,0)) w'->K (min x.len d.len:Nat) w'):dR P t t' d x.v K w:=by
 have hlen:(xs.take (min x.len d.len * sz)).length=min x.len d.len * sz:=by
  rw[List.length_take,hx.len];exact Nat.min_eq_left (Nat.mul_le_mul_right _ (Nat.min_le_left _ _))
 refine⟨_,_,fun ty=>?_,hk _ rfl⟩;have h1:=sZ (P:=P) hx (k:=min x.len d.len) (Nat.min_le_left _ _);have qX:=nc (P:=P) (b:=b) (T:=T) (fz:=(0,0)) (xs.take (min x.len d.len * sz)) w row.toArray off 0 hb (by simp only[hlen,List.size_toArray];omega) (.inr (.inr (Nat.le_refl _))) (fun v hv=>hx.cells v (List.mem_of_mem_take hv));obtain⟨da,dl,dc⟩:=d;simp only at hd;subst hd;simp only[Nat.add_zero]at qX;simp only at h1 qX;have h2:(Builtin.firstCells sz (x.len.min dl) x.v).run P w = .ok (xs.take (min x.len dl * sz)).toArray w:=h1;simp[Builtin.copy_,aB ht,Builtin.lenOf,bI hi,gZ,h2,qX,goInt]
theorem FZ.mk{w:Wd}{e:TypeId}{zs:List Value}{bytes:Nat}{l c:Int}{K:Sl->Pw}(h0:0<=l)(h1:l<=c)(h2:c<=9223372036854775807)(h3:bytes * c<=281474976710656)
  (k:∀b w',Da w (.cells (List.replicate c.toNat zs).flatten.toArray e) b w'->K ⟨some ⟨b,0,none⟩,l.toNat,c.toNat⟩ w'):FZ w e zs bytes l c K:=⟨h0,h1,h2,h3,fun b w' h=>k b w' h⟩
theorem bf.make{w w':Wd}{b l c:Nat}{e:TypeId}{zs:List Value}(h:Da w (.cells (List.replicate c zs).flatten.toArray e) b w')(hl:l<=c)(hz:∀v∈zs,aJ v=true) :
  bf w'.heap w.heap.size e zs.length ⟨some ⟨b,0,none⟩,l,c⟩ (List.replicate l zs).flatten:=by
 have e1:List.replicate c zs=List.replicate l zs++List.replicate (c - l) zs:=by rw[List.replicate_append_replicate];congr 1;omega
 refine⟨by simp,.inr ⟨b,(List.replicate (c - l) zs).flatten,rfl,by rw[h.at_];exact Nat.le_refl _,?_,?_,hl⟩,?_⟩
 .rw[<- List.flatten_append,<- e1];exact h.get
 .rw[<- List.flatten_append,<- e1];simp
 .intro v hv;simp only[List.mem_flatten,List.mem_replicate]at hv;obtain⟨x,⟨_,rfl⟩,hx⟩:=hv;exact hz v hx
theorem aQ.own{w:Wd}{base:Nat}{e:TypeId}{s:Sl}{cs:List Value}{i:Int}{v:Value}{K:Pw}(o:bf w.heap base e 1 s cs)(h0:0<=i)(h1:i < (s.len:Int))(hv:aJ v=true)
  (k:∀w',bf w'.heap base e 1 s (cs.set i.toNat v)->Ext (fun b=>s.aj=some b) w w'->w'.heap.size=w.heap.size->K w'):Ix s.a s.len i 1 fun a=>aQ w a v K:=by
 have hl:cs.length=s.len:=by simpa using o.len
 rcases o.is with⟨rfl,rfl⟩ | ⟨b,rest,ha,hle,hb,hc,iz⟩
 .simp at h1;omega
 .refine⟨_,ha,h0,h1,?_⟩;rw[aw rfl];simp only[Nat.zero_add,Nat.mul_one];refine aQ.mk hb (by simp;omega) hv fun w' hw=>k w' ⟨by simpa using o.len,.inr ⟨b,rest,ha,hle,?_,by simpa using hc,iz⟩,fun u hu=>?_⟩ (hw.ext.mono fun j _ hj=>by subst hj;simp[Sl.aj,ha]) hw.size
  .rw[hw.get hb,List.set_append_left _ _ (by omega)]
  .rcases List.mem_or_eq_of_mem_set hu with h | h
   .exact o.cells u h
   .subst h;exact hv
end Go.V
set_option maxRecDepth 100000
namespace Go.Proofs.YtpjbalhhlaofmaaGreat
open Go.V
theorem c_{w:Wd}{base:Nat}{s:Sl}{x:Value}{n:Nat}{cs xs:List Value}{K:Sl->Pw}(own:bf w.heap base 5 1 s cs)(fq:base<=w.heap.size)(src:Src pz w x 1 n xs)(hb:(s.len+n) * 1<=140737488355328)
  (hk:∀s' w',bf w'.heap base 5 1 s' (cs++xs)->s'.len=s.len+n->Ext (fun b=>s.aj=some b) w w'->(s'.aj=s.aj∨∃b,s'.aj=some b/\w.heap.size<=b)->K s' w'):bg pz 23 23 s x K w:=
 lV (P:=pz) (e:=5) (d:= .slice 5) (ie:=Tryz.t5) (z:=Tryz.t5.zero.getD .nilFunc) (by kernel_rfl) (by kernel_rfl) (fun k h=>by cases h) (by kernel_rfl) (by kernel_rfl) (by kernel_rfl) (by kernel_rfl) (by decide) own fq src hb hk
theorem t_{w:Wd}{d x:Sl}{b off:Nat}{row xs:List Value}{T:TypeId}{K:Int->Pw}(hd:d.a=some ⟨b,off,none⟩)(hb:w.heap[b]? = some (.cells row.toArray T (0,0)))(hx:Rd w.heap x 1 xs)
  (hle:off+min x.len d.len * 1<=row.length) (hk:∀w',gB w b (.cells (setL row off (xs.take (min x.len d.len * 1))).toArray T (0,0)) w'->K (min x.len d.len:Nat) w'):dR pz 23 23 d x.v K w:=
 Km (P:=pz) (e:=5) (ie:=Tryz.t5) (by kernel_rfl) (by kernel_rfl) (by kernel_rfl) hd hb hx hle hk
theorem pJ{w:Wd}{base:Nat}{s:Sl}{x:Value}{n:Nat}{cs xs:List Value}{K:Sl->Pw}(own:bf w.heap base 76 3 s cs)(fq:base<=w.heap.size)(src:Src pz w x 3 n xs)(hb:(s.len+n) * 40<=140737488355328)
  (hk:∀s' w',bf w'.heap base 76 3 s' (cs++xs)->s'.len=s.len+n->Ext (fun b=>s.aj=some b) w w'->(s'.aj=s.aj∨∃b,s'.aj=some b/\w.heap.size<=b)->K s' w'):bg pz 31 31 s x K w:=
 lV (P:=pz) (e:=76) (d:= .slice 76) (ie:=Tryz.t76) (z:=Tryz.t76.zero.getD .nilFunc) (by kernel_rfl) (by kernel_rfl) (fun k h=>by cases h) (by kernel_rfl) (by kernel_rfl) (by kernel_rfl) (by kernel_rfl) (by decide) own fq src hb hk
theorem Fc{w:Wd}{base:Nat}{s:Sl}{x:Value}{n:Nat}{cs xs:List Value}{K:Sl->Pw}(own:bf w.heap base 33 9 s cs)(fq:base<=w.heap.size)(src:Src pz w x 9 n xs)(hb:(s.len+n) * 104<=140737488355328)
  (hk:∀s' w',bf w'.heap base 33 9 s' (cs++xs)->s'.len=s.len+n->Ext (fun b=>s.aj=some b) w w'->(s'.aj=s.aj∨∃b,s'.aj=some b/\w.heap.size<=b)->K s' w'):bg pz 44 44 s x K w:=
 lV (P:=pz) (e:=33) (d:= .slice 33) (ie:=Tryz.t33) (z:=Tryz.t33.zero.getD .nilFunc) (by kernel_rfl) (by kernel_rfl) (fun k h=>by cases h) (by kernel_rfl) (by kernel_rfl) (by kernel_rfl) (by kernel_rfl) (by decide) own fq src hb hk
theorem Fe{w:Wd}{base:Nat}{s:Sl}{x:Value}{n:Nat}{cs xs:List Value}{K:Sl->Pw}(own:bf w.heap base 92 2 s cs)(fq:base<=w.heap.size)(src:Src pz w x 2 n xs)(hb:(s.len+n) * 48<=140737488355328)
  (hk:∀s' w',bf w'.heap base 92 2 s' (cs++xs)->s'.len=s.len+n->Ext (fun b=>s.aj=some b) w w'->(s'.aj=s.aj∨∃b,s'.aj=some b/\w.heap.size<=b)->K s' w'):bg pz 88 88 s x K w:=
 lV (P:=pz) (e:=92) (d:= .slice 92) (ie:=Tryz.t92) (z:=Tryz.t92.zero.getD .nilFunc) (by kernel_rfl) (by kernel_rfl) (fun k h=>by cases h) (by kernel_rfl) (by kernel_rfl) (by kernel_rfl) (by kernel_rfl) (by decide) own fq src hb hk
theorem Ji{w:Wd}{base:Nat}{s:Sl}{x:Value}{n:Nat}{cs xs:List Value}{K:Sl->Pw}(own:bf w.heap base 9 1 s cs)(fq:base<=w.heap.size)(src:Src pz w x 1 n xs)(hb:(s.len+n) * 16<=140737488355328)
  (hk:∀s' w',bf w'.heap base 9 1 s' (cs++xs)->s'.len=s.len+n->Ext (fun b=>s.aj=some b) w w'->(s'.aj=s.aj∨∃b,s'.aj=some b/\w.heap.size<=b)->K s' w'):bg pz 100 100 s x K w:=
 lV (P:=pz) (e:=9) (d:= .slice 9) (ie:=Tryz.t9) (z:=Tryz.t9.zero.getD .nilFunc) (by kernel_rfl) (by kernel_rfl) (fun k h=>by cases h) (by kernel_rfl) (by kernel_rfl) (by kernel_rfl) (by kernel_rfl) (by decide) own fq src hb hk
theorem pK{w:Wd}{base:Nat}{s:Sl}{x:Value}{n:Nat}{cs xs:List Value}{K:Sl->Pw}(own:bf w.heap base 23 1 s cs)(fq:base<=w.heap.size)(src:Src pz w x 1 n xs)(hb:(s.len+n) * 24<=140737488355328)
  (hk:∀s' w',bf w'.heap base 23 1 s' (cs++xs)->s'.len=s.len+n->Ext (fun b=>s.aj=some b) w w'->(s'.aj=s.aj∨∃b,s'.aj=some b/\w.heap.size<=b)->K s' w'):bg pz 111 111 s x K w:=
 lV (P:=pz) (e:=23) (d:= .slice 23) (ie:=Tryz.t23) (z:=Tryz.t23.zero.getD .nilFunc) (by kernel_rfl) (by kernel_rfl) (fun k h=>by cases h) (by kernel_rfl) (by kernel_rfl) (by kernel_rfl) (by kernel_rfl) (by decide) own fq src hb hk
theorem Hc{w:Wd}{base:Nat}{s:Sl}{x:Value}{n:Nat}{cs xs:List Value}{K:Sl->Pw}(own:bf w.heap base 28 3 s cs)(fq:base<=w.heap.size)(src:Src pz w x 3 n xs)(hb:(s.len+n) * 24<=140737488355328)
  (hk:∀s' w',bf w'.heap base 28 3 s' (cs++xs)->s'.len=s.len+n->Ext (fun b=>s.aj=some b) w w'->(s'.aj=s.aj∨∃b,s'.aj=some b/\w.heap.size<=b)->K s' w'):bg pz 133 133 s x K w:=
 lV (P:=pz) (e:=28) (d:= .slice 28) (ie:=Tryz.t28) (z:=Tryz.t28.zero.getD .nilFunc) (by kernel_rfl) (by kernel_rfl) (fun k h=>by cases h) (by kernel_rfl) (by kernel_rfl) (by kernel_rfl) (by kernel_rfl) (by decide) own fq src hb hk
theorem fM{w:Wd}{base:Nat}{s:Sl}{x:Value}{n:Nat}{cs xs:List Value}{K:Sl->Pw}(own:bf w.heap base 151 9 s cs)(fq:base<=w.heap.size)(src:Src pz w x 9 n xs)(hb:(s.len+n) * 104<=140737488355328)
  (hk:∀s' w',bf w'.heap base 151 9 s' (cs++xs)->s'.len=s.len+n->Ext (fun b=>s.aj=some b) w w'->(s'.aj=s.aj∨∃b,s'.aj=some b/\w.heap.size<=b)->K s' w'):bg pz 140 140 s x K w:=
 lV (P:=pz) (e:=151) (d:= .slice 151) (ie:=Tryz.t151) (z:=Tryz.t151.zero.getD .nilFunc) (by kernel_rfl) (by kernel_rfl) (fun k h=>by cases h) (by kernel_rfl) (by kernel_rfl) (by kernel_rfl) (by kernel_rfl) (by decide) own fq src hb hk
theorem CC{w:Wd}{base:Nat}{s:Sl}{x:Value}{n:Nat}{cs xs:List Value}{K:Sl->Pw}(own:bf w.heap base 230 4 s cs)(fq:base<=w.heap.size)(src:Src pz w x 4 n xs)(hb:(s.len+n) * 40<=140737488355328)
  (hk:∀s' w',bf w'.heap base 230 4 s' (cs++xs)->s'.len=s.len+n->Ext (fun b=>s.aj=some b) w w'->(s'.aj=s.aj∨∃b,s'.aj=some b/\w.heap.size<=b)->K s' w'):bg pz 181 181 s x K w:=
 lV (P:=pz) (e:=230) (d:= .slice 230) (ie:=Tryz.t230) (z:=Tryz.t230.zero.getD .nilFunc) (by kernel_rfl) (by kernel_rfl) (fun k h=>by cases h) (by kernel_rfl) (by kernel_rfl) (by kernel_rfl) (by kernel_rfl) (by decide) own fq src hb hk
theorem AI{w:Wd}{d x:Sl}{b off:Nat}{row xs:List Value}{T:TypeId}{K:Int->Pw}(hd:d.a=some ⟨b,off,none⟩)(hb:w.heap[b]? = some (.cells row.toArray T (0,0)))(hx:Rd w.heap x 4 xs)
  (hle:off+min x.len d.len * 4<=row.length) (hk:∀w',gB w b (.cells (setL row off (xs.take (min x.len d.len * 4))).toArray T (0,0)) w'->K (min x.len d.len:Nat) w'):dR pz 181 181 d x.v K w:=
 Km (P:=pz) (e:=230) (ie:=Tryz.t230) (by kernel_rfl) (by kernel_rfl) (by kernel_rfl) hd hb hx hle hk
end Go.Proofs.YtpjbalhhlaofmaaGreat
namespace Go.V
section
variable {α:Type} {f:α->List Value} {n:Nat}
theorem aS:∀{l:List α},(∀x∈l,(f x).length=n)->(l.flatMap f).length=l.length * n
 | [],_=>by simp
 | x::l,h=>by
  rw[List.flatMap_cons,List.length_append,h x List.mem_cons_self,aS fun y hy=>h y (List.mem_cons_of_mem _ hy),List.length_cons,Nat.add_mul];omega
theorem vr:∀{l:List α}{i j:Nat}(_:∀x∈l,(f x).length=n)(hi:i < l.length)(_:j < n),(l.flatMap f)[i * n+j]? = (f l[i])[j]?
 | [],i,j,_,hi,_=>by simp at hi
 | x::l,0,j,h,hi,hj=>by
  have:=h x List.mem_cons_self;rw[List.flatMap_cons,Nat.zero_mul,Nat.zero_add,List.getElem?_append_left (by omega)];rfl
 | x::l,i+1,j,h,hi,hj=>by
  have h1:=h x List.mem_cons_self;have e:(i+1) * n+j=(f x).length+(i * n+j):=by rw[h1,Nat.add_mul];omega
  rw[List.flatMap_cons,e,List.getElem?_append_right (by omega),Nat.add_sub_cancel_left,vr (fun y hy=>h y (List.mem_cons_of_mem _ hy)) (by simpa using hi) hj];rfl
theorem nP:∀(vs a b:List Value)(o:Nat),o+vs.length<=a.length->setL (a++b) o vs=setL a o vs++b
 | [],a,b,o,_=>rfl
 | v::vs,a,b,o,h=>by
  simp only[List.length_cons]at h;rw[setL,setL,List.set_append_left _ _ (by omega),nP vs _ _ _ (by simp;omega)]
theorem bT:∀(vs a b:List Value)(o:Nat),setL (a++b) (a.length+o) vs=a++setL b o vs
 | [],a,b,o=>rfl
 | v::vs,a,b,o=>by
  rw[setL,setL,List.set_append_right _ _ (by omega),Nat.add_sub_cancel_left,Nat.add_assoc,bT vs]
theorem Hd(vs a:List Value)(h:vs.length=a.length):setL a 0 vs=vs:=by
 rw[dK _ _ _ (by omega)];simp[h]
theorem vt:∀{l:List α}{i o:Nat}{vs:List Value}{y:α}(_:∀x∈l,(f x).length=n)(hi:i < l.length)(_:o+vs.length<=n)(_:f y=setL (f l[i]) o vs),setL (l.flatMap f) (i * n+o) vs=(l.set i y).flatMap f
 | [],i,o,vs,y,_,hi,_,_=>by simp at hi
 | x::l,0,o,vs,y,h,hi,ho,hy=>by
  have:=h x List.mem_cons_self;rw[List.flatMap_cons,Nat.zero_mul,Nat.zero_add,nP _ _ _ _ (by omega),List.set_cons_zero,List.flatMap_cons,hy];rfl
 | x::l,i+1,o,vs,y,h,hi,ho,hy=>by
  have h1:=h x List.mem_cons_self;have e:(i+1) * n+o=(f x).length+(i * n+o):=by rw[h1,Nat.add_mul];omega
  rw[List.flatMap_cons,e,bT,vt (fun y hy=>h y (List.mem_cons_of_mem _ hy)) (by simpa using hi) ho hy,List.set_cons_succ,List.flatMap_cons]
end
section
variable {w:Wd} {base:Nat} {e:TypeId} {sz:Nat} {s:Sl} {cs:List Value}
theorem bf.place{h:Array Obj}(o:bf h base e sz s cs)(bA:cs≠[]):∃b rest,s.a=some ⟨b,0,none⟩/\base<=b/\h[b]? = some (.cells (cs++rest).toArray e (0,0))/\(cs++rest).length=s.cap * sz/\s.len<=s.cap:=by
 rcases o.is with⟨_,rfl⟩ | h
 .exact absurd rfl bA
 .exact h
theorem bf.upd{w':Wd}{b off:Nat}{rest vs:List Value}(o:bf w.heap base e sz s cs)(ha:s.a=some ⟨b,0,none⟩)(hle:base<=b)(hb:w.heap[b]? = some (.cells (cs++rest).toArray e (0,0)))(hc:(cs++rest).length=s.cap * sz)(iz:s.len<=s.cap)
  (hw:gB w b (.cells (setL (cs++rest) off vs).toArray e (0,0)) w') (hv:∀v∈vs,aJ v=true) (ho:off+vs.length<=cs.length) :
  bf w'.heap base e sz s (setL cs off vs)/\Ext (fun i=>s.aj=some i) w w'/\w'.heap.size=w.heap.size:=by
 refine⟨⟨by rw[a_];exact o.len,.inr ⟨b,rest,ha,hle,?_,?_,iz⟩,fun v h=>?_⟩,hw.ext.mono fun i _ hi=>by subst hi;simp[Sl.aj,ha],hw.size⟩
 .rw[hw.get hb,nP _ _ _ _ ho]
 .rw[List.length_append,a_,<- List.length_append];exact hc
 .rw[dK _ _ _ ho]at h;rcases List.mem_append.1 h with h | h
  .exact o.cells v (List.mem_of_mem_take h)
  .rcases List.mem_append.1 h with h | h
   .exact hv v h
   .exact o.cells v (List.mem_of_mem_drop h)
theorem aQ.at_{b off:Nat}{v:Value}{K:Pw}(o:bf w.heap base e sz s cs)(ha:s.a=some ⟨b,0,none⟩)(h1:off < cs.length)(hv:aJ v=true)
  (k:∀w',bf w'.heap base e sz s (cs.set off v)->Ext (fun i=>s.aj=some i) w w'->w'.heap.size=w.heap.size->K w'):aQ w ⟨b,off,none⟩ v K:=by
 have bA:cs≠[]:=by intro e;subst e;simp at h1
 obtain⟨b',rest,Sa,hba,hb,hc,iz⟩:=o.place bA;rw[ha]at Sa;cases Sa;refine aQ.mk hb (by simp;omega) hv fun w' hw=>?_
 have Jk:gB w b (.cells (setL (cs++rest) off [v]).toArray e (0,0)) w':=hw;obtain⟨a1,a2,a3⟩:=o.upd ha hba hb hc iz Jk (by simpa using hv) (by simp;omega);exact k w' a1 a2 a3
end
theorem Ix.elem{α:Type}{f:α->List Value}{n:Nat}{w:Wd}{s:Sl}{l:List α}{i:Int}{K:Addr->Prop}(h:Rd w.heap s n (l.flatMap f))(hf:∀x∈l,(f x).length=n)(hn:0 < n)(h0:0<=i)(h1:i < (s.len:Int))
  (k:∀b o (hi:i.toNat < l.length),s.aj=some b->(∀j v,(f l[i.toNat])[j]? = some v->Cell w ⟨b,o+j,none⟩ v)->K ⟨b,o,none⟩):Ix s.a s.len i n K:=by
 have hl:l.length=s.len:=by have:=h.len;rw[aS hf]at this;exact Nat.eq_of_mul_eq_mul_right hn this
 have cF:i.toNat < l.length:=by omega
 have Nx:=aS hf
 have hle:i.toNat * n+n<=(l.flatMap f).length:=by
  rw[Nx];have:(i.toNat+1) * n<=l.length * n:=Nat.mul_le_mul_right _ (by omega);rw[Nat.add_mul]at this;omega
 obtain⟨b,off,ha,hc⟩:=h.at_ (by intro e;rw[e]at hle;simp at hle;omega);refine⟨_,ha,h0,h1,?_⟩;rw[aw rfl];refine k b _ cF (by simp[Sl.aj,ha]) fun j v hv=>?_
 have hj:j < n:=by
  have:=hf _ (List.getElem_mem cF);rcases Nat.lt_or_ge j n with h | h
  .exact h
  .rw[List.getElem?_eq_none (by omega)]at hv;cases hv
 have hg:=vr (i:=i.toNat) (j:=j) hf cF hj;rw[hv]at hg;obtain⟨ace,sM⟩:=List.getElem?_eq_some_iff.1 hg;refine Cell.mk ?_;simp only;rw[Nat.add_assoc,hc _ ace,sM]
def be:Nat->Int->List Int
 | 0,_=>[]
 | k+1,n=>be k (n / 256)++[n % 256]
theorem bu:∀(k:Nat)(n:Int),(be k n).length=k
 | 0,_=>rfl
 | k+1,n=>by simp[be,bu k]
theorem jK:∀(k:Nat)(n:Int),B8 (be k n)
 | 0,_=>B8.nil
 | k+1,n=>(jK k _).append (B8.cons (by omega) B8.nil)
def num(l:List Int):Int:=l.foldl (fun n x=>n * 256+x) 0
theorem He(l:List Int)(x:Int):num (l++[x])=num l * 256+x:=by simp[num]
theorem Ff:∀(l:List Int)(a:Int),B8 l->0<=a->0<=l.foldl (fun n x=>n * 256+x) a/\l.foldl (fun n x=>n * 256+x) a < (a+1) * 256 ^ l.length
 | [],a,_,h=>by simp;omega
 | x::l,a,h8,h=>by
  have hx:=h8 x List.mem_cons_self;have ih:=Ff l (a * 256+x) (h8.sub fun _ h=>List.mem_cons_of_mem _ h) (by omega);rw[List.foldl_cons,List.length_cons,Int.pow_succ];refine⟨ih.1,Int.lt_of_lt_of_le ih.2 ?_⟩;rw[Int.mul_comm (256 ^ l.length) 256,<- Int.mul_assoc];exact Int.mul_le_mul_of_nonneg_right (by omega) (Int.le_of_lt (Int.pow_pos (by omega)))
theorem num_nonneg{l:List Int}(h:B8 l):0<=num l:=(Ff l 0 h (by omega)).1
theorem iA:∀(k:Nat){n:Int},0<=n->n < 256 ^ k->num (be k n)=n
 | 0,n,h0,h1=>by simp at h1;simp[be,num];omega
 | k+1,n,h0,h1=>by
  have e:(256:Int) ^ (k+1)=256 ^ k * 256:=Int.pow_succ _ _;rw[be,He,iA k (by omega) (by omega)];omega
theorem Vn{l:List Int}(h:B8 l):num l < 256 ^ l.length:=by have:=(Ff l 0 h (by omega)).2;simpa[num] using this
theorem Hf{n x:Int}(hn:0<=n)(hx:0<=x/\x<=255)(hb:n * 256+x<=18446744073709551615):nH .or .u64 (n * 256) x=n * 256+x:=by
 have h:=xS (n:=x) (x:=n) (i:=8) ⟨hx.1,by omega⟩ hn (by omega);have e:(2:Int) ^ 8=256:=rfl;rw[e]at h;rw[xR ⟨by omega,by omega⟩ ⟨by omega,by omega⟩]at h ⊢;rw[Nat.or_comm];rw[h];omega
theorem zu{a b:Int}(ha:0<=a/\a<=255)(hb:0<=b/\b<=255):0<=nH .or .u8 a b/\nH .or .u8 a b<=255/\(nH .or .u8 a b=0 ↔ a=0/\b=0):=by
 have hA:(BitVec.ofInt 8 a).toNat=a.toNat:=nt ha.1 (by omega);have hB:(BitVec.ofInt 8 b).toNat=b.toNat:=nt hb.1 (by omega)
 have e:nH .or .u8 a b=((a.toNat ||| b.toNat:Nat):Int):=by
  show IntKind.u8.wrap ((BitVec.ofInt 8 a ||| BitVec.ofInt 8 b).toNat:Int)=_;rw[BitVec.toNat_or,hA,hB];refine IntWalk.u8_in _ ⟨by omega,?_⟩;have:a.toNat ||| b.toNat < 2 ^ 8:=Nat.or_lt_two_pow (by omega) (by omega)
  omega
 have cF:a.toNat ||| b.toNat < 2 ^ 8:=Nat.or_lt_two_pow (by omega) (by omega)
 refine⟨by omega,by omega,?_⟩;rw[e];have:(a.toNat ||| b.toNat=0) ↔ a.toNat=0/\b.toNat=0:=Nat.or_eq_zero_iff;omega
theorem nQ(z:Value)(n:Nat):Builtin.zeroCells #[z] n=(List.replicate n z).toArray:=by
 apply Array.toList_inj.1;simp only[Builtin.zeroCells,Array.toList_map,Array.toList_range];apply List.ext_getElem (by simp);intro i h1 h2;simp[Nat.mod_one]
theorem Hg{P:Program}{t t' e:TypeId}{k:IntKind}{ie:TypeInfo}{z:Value}{w:Wd}{base:Nat}{s:Sl}{n:Nat}{cs:List Value}{K:Sl->Pw}
  (ht:P.underlying t=some (.slice e)) (Dh:P.underlying t'=some (.int k)) (hi:P.info? e=some ie) (hz:ie.zero=some z) (gZ:ie.size=1) (Ke:z.cells=#[z]) (Ls:aJ z=true) (Ro:ie.bytes=1)
  (own:bf w.heap base e 1 s cs) (fq:base<=w.heap.size) (hb:s.len+n<=140737488355328)
  (hk:∀s' w',bf w'.heap base e 1 s' (cs++List.replicate n z)->s'.len=s.len+n->Ext (fun b=>s.aj=some b) w w'->(s'.aj=s.aj∨∃b,s'.aj=some b/\w.heap.size<=b)->K s' w'):bg P t t' s (.int .i64 n) K w:=by
 have rd:=own.rd;have hlen:=own.len;simp only[Nat.mul_one]at hlen;have YR:IntKind.i64.wrap (n:Int)=n:=IntWalk.i64_in _ ⟨by omega,by omega⟩
 have Ny:∀w':Wd,((if n=0 then pure #[] else do pure (Builtin.zeroCells (<- zeroValue e).cells n)):Sem (Array Value)).run P w' = .ok (List.replicate n z).toArray w':=fun w'=>by
  by_cases h0:n=0
  .subst h0;simp
  .simp only[if_neg h0,Sem.run_bind,eT hi hz,Result.andThen_ok,Ke,nQ,Sem.run_pure]
 have TT:¬ (281474976710656 < (n:Int)):=by omega
 have wm:¬ ((n:Int) < 0):=by omega
 by_cases iy:s.len+n<=s.cap
 .rcases own.is with⟨rfl,rfl⟩ | ⟨b,rest,ha,hle,tZ,hl,hc⟩
  .have hn:n=0:=by simp at iy;omega
   subst hn;refine⟨⟨none,0,0⟩,w,fun ty=>?_,hk _ _ (by simpa using own) rfl (Ext.refl _ _) (.inl rfl)⟩;have hw0:IntKind.i64.wrap 0=0:=rfl;simp[Builtin.append_,aB ht,aB Dh,bI hi,gZ,asInt,asIntOf,hw0,gY hi,Ro]
  .simp only[Nat.mul_one]at hl;have cF:cs.length+(List.replicate n z).length<=(cs++rest).length:=by simp only[List.length_replicate];omega
   have qX:=nc (P:=P) (b:=b) (T:=e) (fz:=(0,0)) (List.replicate n z) w (cs++rest).toArray cs.length 0 tZ (by simpa using cF) (.inr (.inr (Nat.le_refl _))) (fun v hv=>by rw[List.mem_replicate]at hv;rw[hv.2];exact Ls)
   have wV:setL (cs++rest) cs.length (List.replicate n z)=cs++(List.replicate n z++rest.drop n):=by
    rw[rZ _ _ _ cF];simp[List.drop_append]
   refine⟨⟨s.a,s.len+n,s.cap⟩,World.cP w b (.cells (cs++List.replicate n z++rest.drop n).toArray e (0,0)),fun ty=>?_,hk _ _ ?_ rfl ?_ (.inl rfl)⟩
   .obtain⟨sa,sl,sc⟩:=s;simp only at ha;subst ha;simp only at hlen iy;have ea:(⟨b,0,none⟩ : Addr).add sl=⟨b,cs.length,none⟩:=by rw[aw rfl,hlen];simp
    have h1:=Ny w;simp only[Nat.add_zero]at qX;by_cases h0:n=0
    .subst h0;have hw0:IntKind.i64.wrap 0=0:=rfl;simp at qX wV;have LC:sl<=sc:=by simpa using iy
     simp[LC,Builtin.append_,aB ht,aB Dh,bI hi,gZ,asInt,asIntOf,hw0,gY hi,Ro,ea,qX,wV]
    .simp only[if_neg h0]at h1;simp[Builtin.append_,aB ht,aB Dh,bI hi,gZ,asInt,asIntOf,YR,gY hi,Ro,iy,ea,qX,wV,h0,eT hi hz,Ke,nQ,wm,TT]
   .refine⟨by simp;omega,.inr ⟨b,rest.drop n,ha,hle,?_,?_,iy⟩,fun v hv=>?_⟩
    .exact dZ tZ
    .simp only[List.length_append,List.length_replicate,List.length_drop,Nat.mul_one]at cF hl ⊢;omega
    .rcases List.mem_append.1 hv with h | h
     .exact own.cells v h
     .rw[List.mem_replicate]at h;rw[h.2];exact Ls
   .refine(gB.ext (w:=w) (b:=b) rfl).mono fun i _ hi=>?_
    subst hi;simp[Sl.aj,ha]
 .have iz:s.cap < s.len+n:=by omega
  have vp:=growslice_fits (bytes:=ie.bytes) iz (by rw[Ro];omega);have uI:=grownCap_ge (w:=w) (need:=s.len+n) (old:=s.cap) (e:=e);have hold:=(rd.src (P:=P)).get (aa w) rfl;have Rp:n≠0:=by have:=rd.cap;omega
  refine⟨⟨some ⟨w.heap.size,0,none⟩,s.len+n,grownCap w (s.len+n) s.cap e⟩,World.cw (aa w) (.cells (cs++(List.replicate n z++List.replicate (grownCap w (s.len+n) s.cap e - (s.len+n)) z)).toArray e),fun ty=>?_,hk _ _ ?_ rfl ?_ (.inr ⟨w.heap.size,rfl,Nat.le_refl _⟩)⟩
  .obtain⟨sa,sl,sc⟩:=s;simp only at iy vp hold uI iz;have Ek:¬ (Builtin.nextslicecap (sl+n) sc > 281474976710656):=by rw[Ro]at vp;omega
   have Sb:¬ ((sl:Int)+(n:Int) > IntKind.i64.max):=by
    have:IntKind.i64.max=9223372036854775807:=rfl;simp only at hb;omega
   have Om:¬ (9223372036854775807 < (sl:Int)+(n:Int)):=by simp only at hb;omega
   simp[wm,TT,Om,-run_choose,Builtin.append_,aB ht,aB Dh,bI hi,gZ,asInt,asIntOf,YR,iy,gY hi,Ro,Ek,jh,hold,Rp,eT hi hz,Ke,nQ,eB];refine⟨rfl,?_⟩;congr 2;apply Array.toList_inj.1;simp
  .refine⟨by simp;omega,.inr ⟨w.heap.size,List.replicate (grownCap w (s.len+n) s.cap e - (s.len+n)) z,rfl,fq,?_,?_,uI⟩,fun v hv=>?_⟩
   .unfold World.cw aa;simp only[Array.getElem?_push,if_true,List.append_assoc]
   .simp only[List.length_append,List.length_replicate,hlen,Nat.mul_one];omega
   .rcases List.mem_append.1 hv with h | h
    .exact own.cells v h
    .rw[List.mem_replicate]at h;rw[h.2];exact Ls
  .refine⟨rfl,rfl,rfl,by simp[World.cw,aa],fun i hi _=>?_⟩;simp only[World.cw,aa];exact gv _ _ _ hi
theorem On:∀{k j:Nat}{n:Int},j < k->(be k n).getD (k - 1 - j) 0=n / 256 ^ j % 256
 | 0,j,n,h=>by omega
 | k+1,0,n,_=>by
  rw[be,List.getD_eq_getElem?_getD,List.getElem?_append_right (by rw[bu];omega),bu];simp
 | k+1,j+1,n,h=>by
  rw[be,List.getD_eq_getElem?_getD,List.getElem?_append_left (by rw[bu];omega),<- List.getD_eq_getElem?_getD,show k+1 - 1 - (j+1)=k - 1 - j by omega,On (by omega),Int.ediv_ediv_of_nonneg (by decide),Int.pow_succ,Int.mul_comm]
theorem Dj{l:List Int}{j:Nat}(h:j < l.length):l.take (j+1)=l.take j++[l.getD j 0]:=by
 rw[List.take_add_one,List.getD_eq_getElem?_getD,List.getElem?_eq_getElem h];rfl
theorem acf{j k:Nat}(h:j<=k):(256:Int) ^ j<=256 ^ k:=by
 obtain⟨d,rfl⟩:=Nat.le.dest h;rw[Int.pow_add];have h1:(0:Int) < 256 ^ d:=Int.pow_pos (by decide);have h2:(0:Int) < 256 ^ j:=Int.pow_pos (by decide)
 calc (256:Int) ^ j=256 ^ j * 1:=by rw[Int.mul_one]
  _<=_:=Int.mul_le_mul_of_nonneg_left (by omega) (by omega)
end Go.V
namespace Go.V.Pk
def numB(n:Nat):List Int:=if n < 128 then[(n:Int)] else((n % 128+128:Nat):Int)::numB (n / 128)
termination_by n
theorem nu{n:Nat}(h:n < 128):numB n=[(n:Int)]:=by rw[numB,if_pos h]
theorem pL{n:Nat}(h:128<=n):numB n=((n % 128+128:Nat):Int)::numB (n / 128):=by rw[numB,if_neg (by omega)]
theorem dn(n:Nat):B8 (numB n):=by
 induction n using Nat.strongRecOn with
 | _ n ih=>
  by_cases h:n < 128
  .rw[nu h];exact B8.cons (by omega) B8.nil
  .rw[pL (by omega)];exact B8.cons (by omega) (ih _ (by omega))
theorem qY:∀(k n:Nat),n < 128 ^ k->0 < k->(numB n).length<=k
 | 0,n,h,hk=>by omega
 | k+1,n,h,_=>by
  by_cases h1:n < 128
  .rw[nu h1];simp
  .rw[pL (by omega)];rw[Nat.pow_succ]at h
   have hk:0 < k:=by
    rcases Nat.eq_zero_or_pos k with rfl | h'
    .simp at h;omega
    .exact h'
   have:=qY k (n / 128) (by omega) hk;simp;omega
theorem aI{n:Nat}(h:n < 18446744073709551616):(numB n).length<=10:=qY 10 n (Nat.lt_of_lt_of_le h (by decide)) (by decide)
theorem Sc(n:Nat):numB n≠[]:=by
 by_cases h:n < 128
 .rw[nu h];simp
 .rw[pL (by omega)];simp
def tk:Nat->Int->List Int->Int×Nat×Int
 | _,_,[]=>(0,0,4)
 | i,n,x::l=>
  if i=9/\x > 1 then(0,0,6)
  else if x≥128 then tk (i+1) (n+(x % 128) * 128 ^ i) l
  else if x=0/\0 < i then(0,0,5)
  else(n+(x % 128) * 128 ^ i,i+1,0)
theorem qZ:∀(l:List Int)(i:Nat)(n:Int),((tk i n l).2.2=0/\i < (tk i n l).2.1/\(tk i n l).2.1<=i+l.length)∨((tk i n l).2.2≠0/\(tk i n l).2.1=0/\(tk i n l).1=0)
 | [],i,n=> .inr (by simp[tk])
 | x::l,i,n=>by
  unfold tk;split
  .exact .inr (by simp)
  .split
   .rcases qZ l (i+1) (n+(x % 128) * 128 ^ i) with⟨h1,h2,h3⟩ | h
    .exact .inl ⟨h1,by omega,by simp;omega⟩
    .exact .inr h
   .split
    .exact .inr (by simp)
    .exact .inl (by simp)
def bH(l:List Int)(at_:Nat)(f:Int):Int×Nat×Int:=
 if f≠0 then(0,at_,f) else
 if (tk 0 0 (l.drop at_)).2.2≠0 then(0,at_,(tk 0 0 (l.drop at_)).2.2) else((tk 0 0 (l.drop at_)).1,at_+(tk 0 0 (l.drop at_)).2.1,0)
def cB(most:Int)(l:List Int)(at_:Nat)(f:Int):List Int×Nat×Int:=
 if f≠0 then([],at_,f) else
 let t:=tk 0 0 (l.drop at_)
 if t.2.2≠0 then([],at_,t.2.2)
 else if t.1 > max most 0 then([],at_,3)
 else if t.1 > (l.length:Int) - (at_+t.2.1:Nat) then([],at_,4)
 else((l.drop (at_+t.2.1)).take t.1.toNat,at_+t.2.1+t.1.toNat,0)
def nx(l:List Int)(at_:Nat)(f:Int):Int×Int:=if f=0/\at_ < l.length then(5,(at_:Int)) else(f,(at_:Int))
theorem Sd(l:List Int)(at_:Nat)(f:Int)(h:at_<=l.length):(bH l at_ f).2.1<=l.length:=by
 unfold bH;split
 .exact h
 .split
  .exact h
  .rename_i h1 h2;rcases qZ (l.drop at_) 0 0 with⟨_,_,h3⟩ | ⟨h3,_⟩
   .simp only[List.length_drop]at h3;simp only;omega
   .exact absurd h3 h2
theorem wX:∀(l:List Int)(i:Nat)(n:Int),B8 l->0<=n->0<=(tk i n l).1
 | [],i,n,_,_=>by simp[tk]
 | x::l,i,n,hb,hn=>by
  have hx:=hb x (by simp);have hp:(0:Int) < 128 ^ i:=Int.pow_pos (by omega);have hm:0<=(x % 128) * 128 ^ i:=Int.mul_nonneg (by omega) (Int.le_of_lt hp);unfold tk;split
  .simp
  .split
   .exact wX l (i+1) _ (hb.sub (by simp_all)) (by omega)
   .split
    .simp
    .simp only;omega
theorem Fg(i:Nat)(n x:Int)(l:List Int):tk i n (x::l) =
  if i=9/\x > 1 then(0,0,6) else if x≥128 then tk (i+1) (n+(x % 128) * 128 ^ i) l else if x=0/\0 < i then(0,0,5) else(n+(x % 128) * 128 ^ i,i+1,0):=rfl
theorem Kn:∀(l:List Int)(i:Nat)(acc:Int),B8 l->(tk i acc l).2.2=0->
  ∃m:Nat,(tk i acc l).1=acc+m * 128 ^ i/\i < (tk i acc l).2.1/\l.take ((tk i acc l).2.1 - i)=numB m/\(0 < i->0 < m)/\(i<=9->m * 128 ^ i < 18446744073709551616)
 | [],i,acc,_,h=>by simp[tk]at h
 | x::l,i,acc,hb,h=>by
  have hx:=hb x (by simp);rw[Fg]at h ⊢;split at h
  .simp at h
  .rename_i h9;rw[if_neg h9];split at h
   .rename_i uI;rw[if_pos uI];obtain⟨m,h1,h2,h3,h4,h5⟩:=Kn l (i+1) _ (hb.sub (by simp_all)) h;have hm:=h4 (by omega);refine⟨(x % 128).toNat+128 * m,?_,by omega,?_,by omega,fun hi=>?_⟩
    .rw[h1,Int.pow_succ];have:(((x % 128).toNat+128 * m:Nat):Int)=x % 128+128 * m:=by omega
     rw[this,Int.add_mul,Int.add_assoc];congr 2;rw[Int.mul_comm 128 (m:Int),Int.mul_assoc,Int.mul_comm (128 ^ i) 128,<- Int.mul_assoc]
    .have e:(tk (i+1) (acc+x % 128 * 128 ^ i) l).2.1 - i=((tk (i+1) (acc+x % 128 * 128 ^ i) l).2.1 - (i+1))+1:=by omega
     rw[e,List.take_succ_cons,h3,pL (n:=(x % 128).toNat+128 * m) (by omega)];have e1:(((x % 128).toNat+128 * m) % 128+128:Nat)=x:=by omega
     have e2:((x % 128).toNat+128 * m) / 128=m:=by omega
     rw[e1,e2]
    .have Xy:i≠9:=fun e=>h9 ⟨e,by omega⟩
     have h6:=h5 (by omega);have cF:(x % 128).toNat < 128:=by omega
     rw[Nat.pow_succ]at h6
     have e1:((x % 128).toNat+128 * m) * 128 ^ i=(x % 128).toNat * 128 ^ i+m * (128 ^ i * 128):=by
      rw[Nat.add_mul,Nat.mul_comm 128 m,Nat.mul_assoc,Nat.mul_comm 128 (128 ^ i)]
     rw[e1]
     have acg:∃q,18446744073709551616=q * (128 ^ i * 128):=by
      have:i=0∨i=1∨i=2∨i=3∨i=4∨i=5∨i=6∨i=7∨i=8:=by omega
      rcases this with rfl | rfl | rfl | rfl | rfl | rfl | rfl | rfl | rfl
      .exact⟨144115188075855872,by decide⟩
      .exact⟨1125899906842624,by decide⟩
      .exact⟨8796093022208,by decide⟩
      .exact⟨68719476736,by decide⟩
      .exact⟨536870912,by decide⟩
      .exact⟨4194304,by decide⟩
      .exact⟨32768,by decide⟩
      .exact⟨256,by decide⟩
      .exact⟨2,by decide⟩
     obtain⟨q,hq⟩:=acg
     have hmq:m < q:=by
      rw[hq]at h6;exact Nat.lt_of_mul_lt_mul_right h6
     have h7:m * (128 ^ i * 128)+(128 ^ i * 128)<=q * (128 ^ i * 128):=by
      rw[<- Nat.succ_mul];exact Nat.mul_le_mul_right _ hmq
     have h8:(x % 128).toNat * 128 ^ i < 128 ^ i * 128:=by
      rw[Nat.mul_comm (128 ^ i) 128];exact Nat.mul_lt_mul_of_pos_right cF (Nat.pow_pos (by decide))
     rw[hq];omega
   .rename_i cF;rw[if_neg cF];split at h
    .simp at h
    .rename_i h0;rw[if_neg h0];have hxm:x % 128=x:=by omega
     refine⟨x.toNat,by rw[hxm];simp[Int.toNat_of_nonneg hx.1],by simp,?_,fun hi=>?_,fun hi=>?_⟩
     .have:i+1 - i=1:=by omega
      rw[this,nu (by omega)];simp[Int.toNat_of_nonneg hx.1]
     .have:x≠0:=fun e=>h0 ⟨e,hi⟩
      omega
     .rcases Nat.lt_or_ge i 9 with h | h
      .have h1:128 ^ i<=128 ^ 8:=Nat.pow_le_pow_right (by decide) (by omega);have e:(128:Nat) ^ 8=72057594037927936:=by decide
       have h2:x.toNat * 128 ^ i<=127 * 128 ^ 8:=Nat.mul_le_mul (by omega) h1;omega
      .have Xy:i=9:=by omega
       have h1:¬ x > 1:=fun h=>h9 ⟨Xy,h⟩
       have h2:x.toNat * 128 ^ i<=1 * 128 ^ 9:=by rw[Xy];exact Nat.mul_le_mul_right _ (by omega)
       have e:(128:Nat) ^ 9=9223372036854775808:=by decide
       omega
theorem Se:∀(k m:Nat)(i:Nat)(acc:Int)(rest:List Int),m<=k->(0 < i->0 < m)->i<=9->m * 128 ^ i < 18446744073709551616->
  tk i acc (numB m++rest)=(acc+m * 128 ^ i,i+(numB m).length,0):=by
 intro k
 induction k using Nat.strongRecOn with
 | _ k ih=>
  intro m i acc rest hk h0 hi hm;by_cases h:m < 128
  .rw[nu h];simp only[List.singleton_append,List.length_singleton];rw[Fg,if_neg,if_neg (by omega),if_neg (by omega)]
   .have:(m:Int) % 128=m:=by omega
    rw[this]
   .rintro⟨rfl,h1⟩;have e:(128:Nat) ^ 9=9223372036854775808:=by decide
    rw[e]at hm;omega
  .rw[pL (by omega)];simp only[List.cons_append,List.length_cons]
   have Xy:i≠9:=by
    rintro rfl;have e:(128:Nat) ^ 9=9223372036854775808:=by decide
    rw[e]at hm;omega
   rw[Fg,if_neg (fun h=>Xy h.1),if_pos (by omega)];have e1:((m % 128+128:Nat):Int) % 128=((m % 128:Nat):Int):=by omega
   have U7:m / 128 * 128 ^ (i+1) < 18446744073709551616:=by
    rw[Nat.pow_succ,Nat.mul_comm (128 ^ i) 128,<- Nat.mul_assoc];have:m / 128 * 128<=m:=Nat.div_mul_le_self m 128;exact Nat.lt_of_le_of_lt (Nat.mul_le_mul_right _ this) hm
   rw[e1,ih (m / 128) (by omega) (m / 128) (i+1) _ rest (Nat.le_refl _) (by omega) (by omega) U7];refine Prod.ext ?_ (Prod.ext ?_ rfl)
   .simp only;have e2:(m:Int)=((m % 128:Nat):Int)+((m / 128:Nat):Int) * 128:=by omega
    rw[Int.pow_succ];generalize(128:Int) ^ i=p;generalize((m % 128:Nat):Int)=a at *;generalize((m / 128:Nat):Int)=b at *;rw[e2]
    grind
   .simp only;omega
theorem vw{m:Nat}(h:m < 18446744073709551616)(rest:List Int):tk 0 0 (numB m++rest)=((m:Int),(numB m).length,0):=by
 rw[Se m m 0 0 rest (Nat.le_refl _) (by omega) (by omega) (by simpa using h)];simp
end Go.V.Pk
namespace Go.Proofs.YtpjbalhhlaofmaaGreat
open Go.V
section
abbrev strs(L:List ByteArray):List Value:=L.map Value.string
theorem Ix.str{w:Wd}{base:Nat}{e:TypeId}{s:Sl}{L:List ByteArray}{i:Int}{K:Addr->Prop}(o:bf w.heap base e 1 s (strs L))(h0:0<=i)(h1:i.toNat < L.length)
  (k:∀b,s.a=some ⟨b,0,none⟩->Cell w ⟨b,i.toNat,none⟩ (.string L[i.toNat])->K ⟨b,i.toNat,none⟩):Ix s.a s.len i 1 K:=by
 have hl:=o.len;simp only[List.length_map,Nat.mul_one]at hl;have bA:strs L≠[]:=by intro h;rw[List.map_eq_nil_iff]at h;rw[h]at h1;simp at h1
 obtain⟨b,rest,ha,_,hb,_,_⟩:=o.place bA;refine⟨_,ha,h0,by omega,?_⟩;rw[aw rfl];simp only[Nat.zero_add,Nat.mul_one];refine k b ha (Cell.ah hb ?_);rw[List.getElem?_append_left (by simpa using h1)];simp[h1]
structure Sq(w0:Wd)(base:Nat)(e:TypeId)(s:Sl)(n:Nat)(L0:List ByteArray)(w:Wd):Prop where
 own:∃L:List ByteArray,L.Perm L0/\bf w.heap base e 1 s (strs L)
 ext:Ext (fun q=>s.aj=some q) w0 w
 n:L0.length=n
variable {w0 w:Wd} {base:Nat} {e:TypeId} {s:Sl} {n:Nat} {L0:List ByteArray} {cmp:Value}
theorem Sq.no{w':Wd}(h:Sq w0 base e s n L0 w)(x:Ext No w w'):Sq w0 base e s n L0 w':=by
 obtain⟨⟨L,hp,ho⟩,hx,hn⟩:=h;exact⟨⟨L,hp,ho.no x⟩,hx.no x,hn⟩
theorem Sq.drew{w':Wd}(h:Sq w0 base e s n L0 w)(x:Ext No (aa w) w'):Sq w0 base e s n L0 w':=h.no x.ar
theorem Sq.at_{i:Int}{K:Addr->Prop}(h:Sq w0 base e s n L0 w)(h0:0<=i)(h1:i < n)(k:∀b v,Cell w ⟨b,i.toNat,none⟩ (.string v)->K ⟨b,i.toNat,none⟩):Ix s.a s.len i 1 K:=by
 obtain⟨⟨L,hp,ho⟩,hx,hn⟩:=h;exact Ix.str ho h0 (by have:=hp.length_eq;omega) fun b _ c=>k b _ c
theorem Sq.rd{i:Int}{K:ByteArray->Prop}(h:Sq w0 base e s n L0 w)(h0:0<=i)(h1:i < n)(k:∀v,K v):Ix s.a s.len i 1 fun a=>∃vv:ByteArray,ae (Ext No w) a (.string vv)/\K vv:=
 h.at_ h0 h1 fun _ v c=>⟨v,ae.cell c,k v⟩
def Sf(w0:Wd)(s:Sl)(cmp:Value):Prop:=∀{w:Wd}{x y:ByteArray}{K:Int->Pw},Ext (fun q=>s.aj=some q) w0 w->(∀r w',Ext No w w'->K r w')->aD pz false cmp [.string x,.string y] [.one (.int .i64)] K cc w
theorem Fh{L:List ByteArray}{x y:Nat}(hx:x < L.length)(hy:y < L.length):((L.set y L[x]).set x L[y]).Perm L:=by
 exact List.set_set_perm hy hx
theorem Hh{L:List ByteArray}{i:Nat}{v:ByteArray}:(strs L).set i (.string v)=strs (L.set i v):=List.map_set.symm
theorem Ix.of{b:Nat}{i:Int}{K:Addr->Prop}(ha:s.a=some ⟨b,0,none⟩)(h0:0<=i)(h1:i < (s.len:Int))(k:K ⟨b,i.toNat,none⟩):Ix s.a s.len i 1 K:=by
 refine⟨_,ha,h0,h1,?_⟩;rw[aw rfl];simpa using k
def Swp(s:Sl)(S:Pw)(w:Wd)(x y:Int)(TU a_2:Addr)(K:Pw):Prop:=
  (∃vv:ByteArray,Cell (aa w) TU (.string vv)/\S (aa w)/\∃wG:ByteArray,Cell (aa w) a_2 (.string wG)/\S (aa w)/\
   Ix s.a s.len y 1 fun a_3=>aQ (aa w) a_3 (.string vv) fun w2=>S w2/\Ix s.a s.len x 1 fun Oo=>aQ w2 Oo (.string wG) fun w3=>S w3/\K w3)/\
  (∃Cn:ByteArray,Cell (aa w) a_2 (.string Cn)/\S (aa w)/\∃Hi:ByteArray,Cell (aa w) TU (.string Hi)/\S (aa w)/\
   Ix s.a s.len y 1 fun Sg=>aQ (aa w) Sg (.string Hi) fun w4=>S w4/\Ix s.a s.len x 1 fun YS=>aQ w4 YS (.string Cn) fun w5=>S w5/\K w5)
theorem Sq.swp{S:Pw}{x y:Int}{K:Pw}(hS:∀w,S w)(h:Sq w0 base e s n L0 w)(x0:0<=x)(x1:x < n)(y0:0<=y)(y1:y < n)(k:∀w',Sq w0 base e s n L0 w'->Ext (fun q=>s.aj=some q) w w'->K w') :
  ∃b,s.a=some ⟨b,0,none⟩/\s.len=n/\Swp s S w x y ⟨b,x.toNat,none⟩ ⟨b,y.toNat,none⟩ K:=by
 obtain⟨⟨L,hp,ho⟩,hx,hn⟩:=h;have xT:=hp.length_eq;have x2:x.toNat < L.length:=by omega
 have y2:y.toNat < L.length:=by omega
 have hl:=ho.len;simp only[List.length_map,Nat.mul_one]at hl
 have both:Ix s.a s.len y 1 fun a_3=>aQ (aa w) a_3 (.string L[x.toNat]) fun w2=>S w2/\Ix s.a s.len x 1 fun Oo=>aQ w2 Oo (.string L[y.toNat]) fun w3=>S w3/\K w3:=by
  refine Ix.str (w:=aa w) ho y0 y2 fun b ha _=>?_
  refine aQ.at_ (w:=aa w) ho ha (by simpa using y2) rfl fun w2 o2 e2 _=>⟨hS _,?_⟩
  rw[Hh]at o2;refine Ix.str o2 x0 (by simpa using x2) fun b' Sa _=>?_
  refine aQ.at_ o2 Sa (by simpa using x2) rfl fun w3 o3 e3 _=>⟨hS _,?_⟩
  rw[Hh]at o3;have ex:Ext (fun q=>s.aj=some q) w w3:=e2.ar.trans e3 fun _ _ h=>h
  exact k w3 ⟨⟨_,(Fh x2 y2).trans hp,o3⟩,hx.trans ex fun _ _ h=>h,hn⟩ ex
 have bA:strs L≠[]:=by intro h;rw[List.map_eq_nil_iff]at h;rw[h]at x2;simp at x2
 obtain⟨b,rest,ha,_,hb,_,_⟩:=ho.place bA;have cell:∀i (h:i < L.length),Cell (aa w) ⟨b,i,none⟩ (.string L[i]):=fun i h=>Cell.ah (w:=aa w) hb (by rw[List.getElem?_append_left (by simpa using h)];simp[h])
 exact⟨b,ha,by omega,⟨_,cell _ x2,hS _,_,cell _ y2,hS _,both⟩,_,cell _ y2,hS _,_,cell _ x2,hS _,both⟩
theorem YT{S:Pw}{x y:Int}{K:Pw}(hS:∀w,S w)(h:Sq w0 base e s n L0 w)(x0:0<=x)(x1:x < n)(y0:0<=y)(y1:y < n)(k:∀w',Sq w0 base e s n L0 w'->Ext (fun q=>s.aj=some q) w w'->K w') :
  Ix s.a s.len x 1 fun TU=>Ix s.a s.len y 1 fun a_2=>Swp s S w x y TU a_2 K:=by
 obtain⟨b,ha,hl,hk⟩:=h.swp hS x0 x1 y0 y1 k;exact Ix.of ha x0 (by omega) (Ix.of ha y0 (by omega) hk)
theorem AJ{a b:Int}{K:Pw}(hc:Sf w0 s cmp)(h:Sq w0 base e s n L0 w)(h0:0<=a)(hb:b<=n)(hn:n<=65535)(Oq:a<=65535)(k:∀w',Sq w0 base e s n L0 w'->K w'):cC s a b cmp w K:=by
 apply gM;refine Ar.i64 (by omega) ⟨fun q i w'=>q=(b - i).toNat/\a+1<=i/\i<=70000/\Sq w0 base e s n L0 w',⟨_,rfl,by omega,by omega,h⟩,?_⟩;rintro _ m0 i w1 ⟨hm,hi,uJ,h1⟩;refine If.dec (fun YU=>?_) fun YU=>k w1 h1
 refine⟨fun q j w'=>q=(j - a).toNat/\a<=j/\j<=i/\Sq w0 base e s n L0 w',⟨_,rfl,by omega,by omega,h1⟩,?_⟩;rintro _ m1 j w2 ⟨Nw,hj,Vo,h2⟩;have out:∀w',Sq w0 base e s n L0 w'->Ar .i64 (i+1) fun z=>∃m1,m1 < m0/\(m1=(b - z).toNat/\a+1<=z/\z<=70000/\Sq w0 base e s n L0 w'):=fun w' h'=>Ar.i64 (by omega) ⟨_,by omega,rfl,by omega,by omega,h'⟩
 refine⟨fun w'=>Sq w0 base e s n L0 w'/\a < j,⟨Ext No w2,(Ext.refl _ _).drew,If.dec (fun hja=>h2.rd (by omega) (by omega) fun x=>Ar.i64 (by omega) (h2.rd (by omega) (by omega) fun y=>hc h2.ext.drew fun r w3 x3=>⟨x3.ar,If.dec (fun _=>⟨h2.drew x3,hja⟩) fun _=>out _ (h2.drew x3)⟩)) fun _=>out _ (h2.no (Ext.refl _ _).drew)⟩,?_⟩;rintro _ w4 ⟨h4,hja⟩;exact⟨fun _=>True,trivial,Ar.i64 (by omega) (Ar.i64 (by omega) (YT (fun _=>trivial) h4 (by omega) (by omega) (by omega) (by omega) fun w6 h6 _=>Ar.i64 (by omega) ⟨_,by omega,rfl,by omega,by omega,h6⟩))⟩
end
end Go.Proofs.YtpjbalhhlaofmaaGreat
