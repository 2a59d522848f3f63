/- Texts for LWitnessForged, part 8. -/
import Derived.Laws.Strings
import Derived.Test.YtefdekemmnnclaaGreatQf7
namespace Go.V
theorem cg{n:Nat}{x:Int}(h0:0<=x)(h1:x < 2 ^ n):(BitVec.ofInt n x).toNat=x.toNat:=by
 rw[BitVec.toNat_ofInt];rw[Int.emod_eq_of_lt h0 (by exact_mod_cast h1)]
theorem Gt{a b:Int}(ha:0<=a/\a<=18446744073709551615)(hb:0<=b/\b<=18446744073709551615):bK .and .u64 a b=((a.toNat &&& b.toNat:Nat):Int):=by
 show IntKind.u64.wrap ((BitVec.ofInt 64 a &&& BitVec.ofInt 64 b).toNat:Int)=_;rw[BitVec.toNat_and,cg ha.1 (by omega),cg hb.1 (by omega)];refine IntWalk.u64_in _ ⟨by omega,?_⟩;have:a.toNat &&& b.toNat<=a.toNat:=Nat.and_le_left;omega
theorem uo{a b:Int}(ha:0<=a/\a<=18446744073709551615)(hb:0<=b/\b<=18446744073709551615):bK .or .u64 a b=((a.toNat ||| b.toNat:Nat):Int):=by
 show IntKind.u64.wrap ((BitVec.ofInt 64 a ||| BitVec.ofInt 64 b).toNat:Int)=_;rw[BitVec.toNat_or,cg ha.1 (by omega),cg hb.1 (by omega)];refine IntWalk.u64_in _ ⟨by omega,?_⟩;have:a.toNat ||| b.toNat < 2 ^ 64:=Nat.or_lt_two_pow (by omega) (by omega)
 omega
theorem IK{n x:Int}{i:Nat}(hn:0<=n/\n < 2 ^ i)(hx:0<=x)(hb:n+x * 2 ^ i<=18446744073709551615):bK .or .u64 n (x * 2 ^ i)=n+x * 2 ^ i:=by
 have hp:(0:Int) < 2 ^ i:=Int.pow_pos (by omega);have hxx:0<=x * 2 ^ i:=Int.mul_nonneg hx (Int.le_of_lt hp);rw[uo ⟨hn.1,by omega⟩ ⟨hxx,by omega⟩];obtain⟨m,rfl⟩:=Int.eq_ofNat_of_zero_le hn.1;obtain⟨y,rfl⟩:=Int.eq_ofNat_of_zero_le hx;have h1:m < 2 ^ i:=by exact_mod_cast hn.2
 have e1:((y:Int) * 2 ^ i).toNat=2 ^ i * y:=by
  have:((y:Int) * 2 ^ i)=((2 ^ i * y:Nat):Int):=by simp[Int.mul_comm]
  rw[this];rfl
 rw[e1,Int.toNat_natCast,Nat.or_comm,<- Nat.two_pow_add_eq_or_of_lt h1];simp[Int.add_comm,Int.mul_comm]
theorem C7{p:Int->Prop}(h:∀x:Fin 256,p (x.val:Int)){x:Int}(hx:0<=x/\x<=255):p x:=by
 have:=h ⟨x.toNat,by omega⟩;simpa[Int.toNat_of_nonneg hx.1] using this
theorem Lk{x:Int}(hx:0<=x/\x<=255):bK .or .u8 x 128=x % 128+128:=C7 (p:=fun x=>bK .or .u8 x 128=x % 128+128) (by decide +kernel) hx
theorem fdiv_pow{n:Int}{k b:Nat}:Int.fdiv n (2 ^ min k b)=n / 2 ^ min k b:=by
 rw[Int.fdiv_eq_ediv_of_nonneg];exact Int.le_of_lt (Int.pow_pos (by omega))
theorem af.no{w:Wd}{b o:Nat}{v:Value}(h:dt w.heap b o=some v):af (Ext No w) ⟨b,o,none⟩ v:=fun w' e=>by
 rw[dC,jo (e.au b (nK h) id)];exact h
theorem af.cell{w:Wd}{b o:Nat}{v:Value}(h:Cell w ⟨b,o,none⟩ v):af (Ext No w) ⟨b,o,none⟩ v:=af.no (by rw[<- dC];exact h)
theorem af.bq{S:Nat->Prop}{w:Wd}{b o:Nat}{v:Value}(h:Cell w ⟨b,o,none⟩ v)(hb:¬ S b):af (Ext S w) ⟨b,o,none⟩ v:=fun w' e=>by
 have h':dt w.heap b o=some v:=by rw[<- dC];exact h
 rw[dC,jo (e.au b (nK h') hb)];exact h'
theorem Rd.lt{h:Array Obj}{s:Sl}{sz b:Nat}{cs:List Value}(r:Rd h s sz cs)(dz:cs≠[])(hb:s.au=some b):b < h.size:=by
 obtain⟨b',off,ha,hc⟩:=r.at_ dz;simp[Sl.au,ha]at hb;subst hb;exact nK (hc 0 (List.length_pos_iff.2 dz))
theorem aH.mk{w:Wd}{b o:Nat}{cs:List Value}{T:TypeId}{v:Value}{K:Pw}(hb:w.heap[b]? = some (.cells cs.toArray T (0,0)))(ho:o < cs.length)(hv:cn v=true)
  (k:∀w',nI w b (.cells (cs.set o v).toArray T (0,0)) w'->K w'):aH w ⟨b,o,none⟩ v K:=
 ⟨cs.toArray,T,(0,0),hb,rfl,by simpa using ho,.inr (.inr (Nat.le_refl _)),hv,fun w' hw=>k w' hw⟩
theorem Cell.ah{w:Wd}{b o:Nat}{v:Value}{cs:List Value}{T:TypeId}{fz:Nat×Nat}(h:w.heap[b]? = some (.cells cs.toArray T fz))(hc:cs[o]? = some v):Cell w ⟨b,o,none⟩ v:=
 Cell.au h (by simpa using hc)
def FJ(l:List Int):List UInt8:=l.map fun n=>UInt8.ofNat n.toNat
theorem mD.mk{C:Addr->Value->Prop}{w:Wd}{s:Sl}{l:List Int}{K:ByteArray->Prop}(h:Rd w.heap s 1 (l.map (Value.int .u8)))(hC:∀b o v,dt w.heap b o=some v->C ⟨b,o,none⟩ v)
  (k:K ⟨(FJ l).toArray⟩):mD C s K:=by
 refine⟨FJ l,⟨by simpa[FJ] using h.len,fun i hi=>?_,fun hn=>?_⟩,k⟩
 .simp only[FJ,List.length_map]at hi;obtain⟨b,off,ha,hc⟩:=h.at_ (by intro e;simp at e;subst e;simp at hi);refine⟨_,l[i],ha,?_,by simp[FJ]⟩;rw[ay rfl];exact hC _ _ _ (by have:=hc i (by simpa using hi);rw[List.getElem_map]at this;exact this)
 .have:l=[]:=Classical.byContradiction fun dz=>by
   obtain⟨b,off,ha,_⟩:=h.at_ (by simpa using dz);rw[hn]at ha;cases ha
  subst this;rfl
theorem toList_mk(bs:List UInt8):ByteArray.toList ⟨bs.toArray⟩=bs:=by
 simp[ByteArray.toList_eq]
theorem Gu{l m:List Int}(hl:B8 l)(hm:B8 m):FJ l=FJ m ↔ l=m:=by
 constructor
 .intro h
  induction l generalizing m with
  | nil=>cases m with
   | nil=>rfl
   | cons y m=>simp[FJ]at h
  | cons x l ih=>cases m with
   | nil=>simp[FJ]at h
   | cons y m=>
    simp only[FJ,List.map_cons,List.cons.injEq]at h;have h1:=hl x (by simp);have h2:=hm y (by simp)
    have e:x=y:=by
     have:=congrArg UInt8.toNat h.1;simp only[UInt8.toNat_ofNat']at this;omega
    subst e;rw[ih (hl.sub (by simp_all)) (hm.sub (by simp_all)) h.2]
 .intro h;rw[h]
end Go.V
set_option maxRecDepth 100000
namespace Go.V
abbrev By(x:Int):Prop:=0<=x/\x<=255
abbrev lY(x:Int):Prop:=0<=x/\x<=18446744073709551615
theorem TA(op:BinOp)(x y:Int):By (bK op .u8 x y):=by
 unfold bK;cases op <;> simp only[wrap_u8] <;> constructor <;> omega
theorem By.mod(e:Int):By (e % 256):=by constructor <;> omega
theorem C9{m b:Nat}(hb:1<=b):Int.fdiv ((m:Nat):Int) (2 ^ min (Int.toNat 1) b)=((m / 2:Nat):Int):=by
 rw[fdiv_pow];have e:min (Int.toNat 1) b=1:=by show min 1 b=1;omega
 rw[e];omega
def xr(a b:Int):Int:=((a.toNat ^^^ b.toNat:Nat):Int)
theorem C_(a b:Int):(xr a b).toNat=a.toNat ^^^ b.toNat:=Int.toNat_natCast _
theorem kP{a b:Int}(ha:By a)(hb:By b):By (xr a b):=by
 have:a.toNat ^^^ b.toNat < 2 ^ 8:=Nat.xor_lt_two_pow (by omega) (by omega);unfold xr;constructor <;> omega
theorem uq{a b:Int}(ha:lY a)(hb:lY b):lY (xr a b):=by
 have:a.toNat ^^^ b.toNat < 2 ^ 64:=Nat.xor_lt_two_pow (by omega) (by omega);unfold xr;constructor <;> omega
theorem br{a b:Int}(ha:By a)(hb:By b):bK .xor .u8 a b=xr a b:=by
 show IntKind.u8.wrap ((BitVec.ofInt 8 a ^^^ BitVec.ofInt 8 b).toNat:Int)=_;rw[BitVec.toNat_xor,cg ha.1 (by omega),cg hb.1 (by omega)];exact IntWalk.u8_in _ (kP ha hb)
theorem eO{a b:Int}(ha:lY a)(hb:lY b):bK .xor .u64 a b=xr a b:=by
 show IntKind.u64.wrap ((BitVec.ofInt 64 a ^^^ BitVec.ofInt 64 b).toNat:Int)=_;rw[BitVec.toNat_xor,cg ha.1 (by omega),cg hb.1 (by omega)];exact IntWalk.u64_in _ (uq ha hb)
theorem mQ{a b:Int}(ha:0<=a/\a < 9223372036854775808)(hb:0<=b/\b < 9223372036854775808):bK .xor .i64 a b=xr a b:=by
 show IntKind.i64.wrap ((BitVec.ofInt 64 a ^^^ BitVec.ofInt 64 b).toNat:Int)=_;rw[BitVec.toNat_xor,cg ha.1 (by omega),cg hb.1 (by omega)];have:a.toNat ^^^ b.toNat < 2 ^ 63:=Nat.xor_lt_two_pow (by omega) (by omega);exact IntWalk.i64_in _ (by constructor <;> omega)
theorem FK{x:Int}(hx:0<=x/\x<=255):bK .and .u8 x 1=x % 2:=C7 (p:=fun x=>bK .and .u8 x 1=x % 2) (by decide +kernel) hx
theorem Ll{x:Int}(hx:0<=x/\x<=255):bK .and .u32 x 1=x % 2:=C7 (p:=fun x=>bK .and .u32 x 1=x % 2) (by decide +kernel) hx
def Da(a:Nat):Nat:=if a / 128 % 2=1 then(2 * a % 256) ^^^ 27 else 2 * a % 256
def TB:Nat->Nat->Nat->Nat->Nat
 | 0,_,_,c=>c
 | k+1,a,b,c=>if b=0 then c else TB k (Da a) (b / 2) (if b % 2=1 then c ^^^ a else c)
def Xc(a b:Nat):Nat:=TB 8 a b 0
def gm(a b:Int):Int:=((Xc a.toNat b.toNat:Nat):Int)
def PQ:Nat->Nat->Nat->Nat->Nat
 | 0,_,_,c=>c
 | k+1,a,n,c=>if n=0 then c else PQ k (Xc a a) (n / 2) (if n % 2=1 then Xc c a else c)
def pw(a n:Int):Int:=((PQ 8 a.toNat n.toNat 1:Nat):Int)
def Am(b n:Nat):Nat:=(b * 2 ^ n % 256) ||| (b / 2 ^ (8 - n))
def Xd(b:Nat):Nat:=b ^^^ Am b 1 ^^^ Am b 2 ^^^ Am b 3 ^^^ Am b 4 ^^^ 99
def sb(a:Int):Int:=((Xd (PQ 8 a.toNat 254 1):Nat):Int)
theorem rJ{a b:Nat}(ha:a < 256)(hb:b < 256):a ^^^ b < 256:=Nat.xor_lt_two_pow (n:=8) ha hb
theorem Nj{a:Nat}:Da a < 256:=by
 unfold Da;split
 .exact rJ (by omega) (by omega)
 .omega
theorem Qx:∀{k a b c:Nat},a < 256->c < 256->TB k a b c < 256
 | 0,_,_,_,_,hc=>hc
 | k+1,a,b,c,ha,hc=>by
  rw[TB];split
  .exact hc
  .refine Qx Nj ?_;split
   .exact rJ hc ha
   .exact hc
theorem Lm{a b:Nat}(ha:a < 256):Xc a b < 256:=Qx ha (by decide)
theorem Qy:∀{k a c:Nat},TB k a 0 c=c
 | 0,_,_=>rfl
 | k+1,_,_=>by rw[TB,if_pos rfl]
theorem Ln:∀{k a n c:Nat},a < 256->c < 256->PQ k a n c < 256
 | 0,_,_,_,_,hc=>hc
 | k+1,a,n,c,ha,hc=>by
  rw[PQ];split
  .exact hc
  .refine Ln (Lm ha) ?_;split
   .exact Lm hc
   .exact hc
theorem Qz:∀{k a c:Nat},PQ k a 0 c=c
 | 0,_,_=>rfl
 | k+1,_,_=>by rw[PQ,if_pos rfl]
theorem IL{a:Int}(b:Int)(ha:By a):By (gm a b):=by
 have:=Lm (a:=a.toNat) (b:=b.toNat) (by omega);unfold gm;constructor <;> omega
theorem Nk{a:Int}(n:Int)(ha:By a):By (pw a n):=by
 have:=Ln (k:=8) (a:=a.toNat) (n:=n.toNat) (c:=1) (by omega) (by decide);unfold pw;constructor <;> omega
theorem vo{b n:Nat}(hb:b < 256):Am b n < 256:=by
 refine Nat.or_lt_two_pow (n:=8) (by omega) ?_;exact Nat.lt_of_le_of_lt (Nat.div_le_self _ _) hb
theorem TC{b:Nat}(hb:b < 256):Xd b < 256:=
 rJ (rJ (rJ (rJ (rJ hb (vo hb)) (vo hb)) (vo hb)) (vo hb)) (by decide)
theorem Db{a:Int}(ha:By a):By (sb a):=by
 have:=TC (Ln (k:=8) (a:=a.toNat) (n:=254) (c:=1) (by omega) (by decide));unfold sb;constructor <;> omega
theorem TD{a:Int}(ha:By a):bK .and .u8 a 128=(a / 128 % 2) * 128:=C7 (p:=fun a=>bK .and .u8 a 128=(a / 128 % 2) * 128) (by decide +kernel) ha
theorem Xe{b:Int}(hb:By b)(n:Nat):bK .or .u8 (b * 2 ^ n % 256) (b / 2 ^ (8 - n))=((Am b.toNat n:Nat):Int):=by
 have hp:(0:Int) < 2 ^ (8 - n):=Int.pow_pos (by decide);have h1:By (b * 2 ^ n % 256):=By.mod _
 have h2:By (b / 2 ^ (8 - n)):=⟨Int.ediv_nonneg hb.1 (Int.le_of_lt hp),Int.le_trans (Int.ediv_le_self _ hb.1) hb.2⟩
 show IntKind.u8.wrap ((BitVec.ofInt 8 _ ||| BitVec.ofInt 8 _).toNat:Int)=_;rw[BitVec.toNat_or,cg h1.1 (by have:=h1.2;omega),cg h2.1 (by have:=h2.2;omega)];obtain⟨m,rfl⟩:=Int.eq_ofNat_of_zero_le hb.1
 have e1:((m:Int) * 2 ^ n % 256).toNat=m * 2 ^ n % 256:=by
  have:((m:Int) * 2 ^ n % 256)=((m * 2 ^ n % 256:Nat):Int):=by simp
  rw[this];rfl
 have e2:((m:Int) / 2 ^ (8 - n)).toNat=m / 2 ^ (8 - n):=by
  have:((m:Int) / 2 ^ (8 - n))=((m / 2 ^ (8 - n):Nat):Int):=by simp
  rw[this];rfl
 rw[e1,e2];have:=vo (b:=m) (n:=n) (by have:=hb.2;omega);unfold Am at this;exact IntWalk.u8_in _ ⟨by omega,by omega⟩
def rp(a b:Nat):Nat->Nat
 | 0=>0
 | n+1=>if b / 2 ^ n % 2=1 then rp a b n ^^^ (a * 2 ^ n) else rp a b n
def rd:Nat->Nat->Nat
 | 0,p=>p
 | m+1,p=>rd m (if p / 2 ^ (m+8) % 2=1 then p ^^^ (283 * 2 ^ m) else p)
def rm(a b:Nat):Nat:=rd 7 (rp a b 8) % 256
def Lo(a:Nat):Nat->Nat->Nat
 | 0,_=>0
 | k+1,i=>if rm a i=1 then i else Lo a k (i+1)
def btN(a i:Nat):Nat:=a / 2 ^ (i % 8) % 2
def Xf(b:Nat):Nat->Nat->Nat
 | 0,s=>s
 | i+1,s=>Xf b i (2 * s+(btN b i+btN b (i+4)+btN b (i+5)+btN b (i+6)+btN b (i+7)+btN 99 i) % 2)
def Lp(a:Nat):Nat->Nat->Nat
 | 0,c=>c
 | n+1,c=>Lp a n (rm c a)
theorem aaw:∀x:Fin 4,∀c:Fin 256,rm x.val c.val=Xc x.val c.val:=by decide +kernel
theorem Xg:∀n:Fin 16,Lp 2 n.val 1=PQ 8 2 n.val 1:=by decide +kernel
theorem aax:∀a:Fin 256,Xf (Lo a.val 256 0) 8 0 % 256=Xd (PQ 8 a.val 254 1):=by decide +kernel
def tab(n:Nat)(f:Nat->Int):List Int:=(List.range n).map f
theorem aB(n:Nat)(f:Nat->Int):(tab n f).length=n:=by simp[tab]
theorem bH{n:Nat}{f:Nat->Int}{i:Nat}(h:i < n):(tab n f).getD i 0=f i:=by
 simp[tab,List.getD_eq_getElem?_getD,h]
theorem fW{l m:List Int}(hl:l.length=m.length)(h:∀i,i < l.length->l.getD i 0=m.getD i 0):l=m:=
 List.ext_getElem hl fun i h1 h2=>by
  have:=h i h1;simpa[List.getD_eq_getElem?_getD,h1,h2] using this
theorem mR{l:List Int}{n:Nat}(h:l.length=n):l=tab n fun i=>l.getD i 0:=
 fW (by rw[aB,h]) fun i hi=>by rw[bH (by omega)]
theorem aQ{n:Nat}{f g:Nat->Int}(h:∀i,i < n->f i=g i):tab n f=tab n g:=
 fW (by rw[aB,aB]) fun i hi=>by rw[aB]at hi;rw[bH hi,bH hi,h i hi]
theorem qp(l:List Int)(i:Nat)(v:Int)(j:Nat)(hj:j < l.length):(l.set i v).getD j 0=if j=i then v else l.getD j 0:=by
 simp only[List.getD_eq_getElem?_getD,List.getElem?_set];by_cases h:i=j
 .subst h;simp[hj]
 .rw[if_neg h,if_neg (fun e=>h e.symm)]
theorem eB{n:Nat}{f g:Nat->Int}{i:Nat}{v:Int}(h:∀j,j < n->(if j=i then v else f j)=g j):(tab n f).set i v=tab n g:=
 fW (by rw[List.length_set,aB,aB]) fun j hj=>by
  rw[List.length_set,aB]at hj;rw[qp _ _ _ _ (by rw[aB];exact hj),bH hj,bH hj,h j hj]
theorem Dc{n:Nat}{f:Nat->Int}(h:∀i,i < n->By (f i)):B8 (tab n f):=fun x hx=>by
 simp only[tab,List.mem_map,List.mem_range]at hx;obtain⟨i,hi,rfl⟩:=hx;exact h i hi
abbrev cE(l:List Int):Prop:=l.length=16/\B8 l
theorem cE.tab{f:Nat->Int}(h:∀i,i < 16->By (f i)):cE (Go.V.tab 16 f):=⟨aB _ _,Dc h⟩
def pL:List Int:=[2,3,1,1,1,2,3,1,1,1,2,3,3,1,1,2]
def IM(rows c:List Int)(i:Nat):Nat->Int
 | 0=>0
 | n+1=>xr (IM rows c i n) (gm (rows.getD (4 * i+n) 0) (c.getD n 0))
theorem Gv{rows c:List Int}(h:B8 rows)(i:Nat):∀n,By (IM rows c i n)
 | 0=>⟨Int.le_refl 0,by show(0:Int)<=255;decide⟩
 | n+1=>kP (Gv h i n) (IL _ (h.get _))
theorem CC:B8 pL:=by
 intro x hx;simp only[pL,List.mem_cons,List.not_mem_nil,or_false]at hx;omega
def cf(c:List Int)(p:Nat):Int:=IM pL c p 4
theorem TE(c:List Int)(p:Nat):By (cf c p):=Gv CC p 4
def dG(s:List Int)(q:Nat):List Int:=[s.getD (4 * q) 0,s.getD (4 * q+1) 0,s.getD (4 * q+2) 0,s.getD (4 * q+3) 0]
def qq(s w:List Int)(j:Nat):List Int:=tab 16 fun i=>xr (s.getD i 0) (w.getD (16 * j+i) 0)
def An(s:List Int):List Int:=tab 16 fun i=>sb (s.getD i 0)
def Nl(s:List Int):List Int:=tab 16 fun i=>s.getD (4 * ((i / 4+i % 4) % 4)+i % 4) 0
def IN(s:List Int):List Int:=tab 16 fun i=>cf (dG s (i / 4)) (i % 4)
def On(w:List Int)(last:Nat)(s:List Int)(j:Nat):List Int:=qq (if j < last then IN (Nl (An s)) else Nl (An s)) w j
def yp(w:List Int)(last:Nat)(s:List Int):Nat->List Int
 | 0=>qq s w 0
 | j+1=>On w last (yp w last s j) (j+1)
def Gw(w:List Int)(last:Nat)(s:List Int):List Int:=yp w last s last
theorem iO{s w:List Int}(hs:B8 s)(hw:B8 w)(j:Nat):cE (qq s w j):=cE.tab fun i _=>kP (hs.get i) (hw.get _)
theorem CD{s:List Int}(hs:B8 s):cE (An s):=cE.tab fun i _=>Db (hs.get i)
theorem Lq{s:List Int}(hs:B8 s):cE (Nl s):=cE.tab fun _ _=>hs.get _
theorem vq(s:List Int):cE (IN s):=cE.tab fun _ _=>TE _ _
theorem TF{w s:List Int}{last:Nat}(hs:B8 s)(hw:B8 w)(j:Nat):cE (On w last s j):=by
 unfold On;refine iO ?_ hw j;split
 .exact(vq _).2
 .exact(Lq (CD hs).2).2
theorem CE{w s:List Int}{last:Nat}(hs:B8 s)(hw:B8 w):∀j,cE (yp w last s j)
 | 0=>iO hs hw 0
 | j+1=>TF (CE hs hw j).2 hw _
theorem TG{w s:List Int}{last:Nat}(hs:B8 s)(hw:B8 w):cE (Gw w last s):=CE hs hw _
def gw(k:Nat)(w:List Int)(i p:Nat):Int:=
 if i % k=0 then(if p=0 then xr (sb (w.getD (4 * (i - 1)+1) 0)) (pw 2 ((i / k - 1:Nat):Int)) else sb (w.getD (4 * (i - 1)+(p+1) % 4) 0))
  else if k=8/\i % 8=4 then sb (w.getD (4 * (i - 1)+p) 0) else w.getD (4 * (i - 1)+p) 0
def lZ(k:Nat)(w:List Int)(i p:Nat):Int:=xr (gw k w i p) (w.getD (4 * (i - k)+p) 0)
def nM(key:List Int)(k:Nat):Nat->List Int
 | 0=>key
 | m+1=>nM key k m++tab 4 (lZ k (nM key k m) (k+m))
theorem QA{k:Nat}{w:List Int}(hw:B8 w)(i p:Nat):By (gw k w i p):=by
 unfold gw;split
 .split
  .exact kP (Db (hw.get _)) (Nk _ (by constructor <;> decide))
  .exact Db (hw.get _)
 .split
  .exact Db (hw.get _)
  .exact hw.get _
theorem QB{k:Nat}{w:List Int}(hw:B8 w)(i p:Nat):By (lZ k w i p):=kP (QA hw i p) (hw.get _)
theorem QC{k:Nat}{w v:List Int}{i p:Nat}(hi:1<=i)(hp:p < 4)(h:∀j,j < 4 * i->w.getD j 0=v.getD j 0):gw k w i p=gw k v i p:=by
 unfold gw;rw[h (4 * (i - 1)+1) (by omega),h (4 * (i - 1)+(p+1) % 4) (by omega),h (4 * (i - 1)+p) (by omega)]
theorem IP{k:Nat}{w v:List Int}{i p:Nat}(hi:1<=i)(hk:1<=k)(hp:p < 4)(h:∀j,j < 4 * i->w.getD j 0=v.getD j 0):lZ k w i p=lZ k v i p:=by
 unfold lZ;rw[QC hi hp h,h (4 * (i - k)+p) (by omega)]
theorem qs{key:List Int}{k:Nat}(h:key.length=4 * k):∀m,(nM key k m).length=4 * (k+m)
 | 0=>h
 | m+1=>by rw[nM,List.length_append,qs h m,aB];omega
theorem CF{key:List Int}{k:Nat}(h:B8 key):∀m,B8 (nM key k m)
 | 0=>h
 | m+1=>(CF h m).append (Dc fun _ _=>QB (CF h m) _ _)
theorem yq{key:List Int}{k:Nat}(h:key.length=4 * k)(m:Nat):∀d i,i < 4 * (k+m)->(nM key k (m+d)).getD i 0=(nM key k m).getD i 0
 | 0,_,_=>rfl
 | d+1,i,hi=>by
  rw[<- yq h m d i hi,show m+(d+1)=(m+d)+1 by omega,nM];simp only[List.getD_eq_getElem?_getD];rw[List.getElem?_append_left (by rw[qs h];omega)]
theorem QD{key:List Int}{k:Nat}(h:key.length=4 * k)(m i:Nat)(hi:i < 4 * k):(nM key k m).getD i 0=key.getD i 0:=by
 have:=yq h 0 m i (by omega)
 rwa [Nat.zero_add]at this
theorem Oo{key:List Int}{k:Nat}(h:key.length=4 * k)(hk:1<=k){M t p:Nat}(h1:k<=t)(h2:t < k+M)(hp:p < 4):(nM key k M).getD (4 * t+p) 0=lZ k (nM key k M) t p:=by
 obtain⟨m,rfl⟩ : ∃m,t=k+m:=⟨t - k,by omega⟩
 obtain⟨d,rfl⟩ : ∃d,M=(m+1)+d:=⟨M - (m+1),by omega⟩
 rw[yq h (m+1) d _ (by omega),nM]
 have e:(nM key k m++tab 4 (lZ k (nM key k m) (k+m))).getD (4 * (k+m)+p) 0=lZ k (nM key k m) (k+m) p:=by
  rw[<- bH (f:=lZ k (nM key k m) (k+m)) hp];simp only[List.getD_eq_getElem?_getD];rw[List.getElem?_append_right (by rw[qs h];omega),qs h,show 4 * (k+m)+p - 4 * (k+m)=p by omega]
 rw[e];refine IP (by omega) hk hp fun j hj=>?_
 rw[show m+1+d=m+(1+d) by omega,yq h m _ j hj]
def c_(key:List Int):List Int:=nM key (key.length / 4) (4 * (key.length / 4+7) - key.length / 4)
theorem wJ{key:List Int}{k:Nat}(h:key.length=4 * k):(c_ key).length=4 * (4 * (k+7)):=by
 unfold c_;rw[h,show 4 * k / 4=k by omega,qs h];omega
theorem Lr{key:List Int}{k:Nat}(h:key.length=4 * k){i:Nat}(hi:i < 4 * k):(c_ key).getD i 0=key.getD i 0:=by
 unfold c_;rw[h,show 4 * k / 4=k by omega,QD h _ _ hi]
theorem IQ{key:List Int}{k:Nat}(h:key.length=4 * k)(hk:1<=k){t p:Nat}(h1:k<=t)(h2:t < 4 * (k+7))(hp:p < 4):(c_ key).getD (4 * t+p) 0=lZ k (c_ key) t p:=by
 unfold c_;rw[h,show 4 * k / 4=k by omega];exact Oo h hk h1 (by omega) hp
theorem vr{key:List Int}(h:B8 key):B8 (c_ key):=CF h _
theorem ES{P:Program}{w:Wd}{s:Sl}{sz k:Nat}{cs:List Value}(h:Rd w.heap s sz cs)(hk:k<=s.len):(Builtin.firstCells sz k s.v).run P w = .ok (cs.take (k * sz)).toArray w:=by
 have Xh:=Rd.src (P:=P) (h.cut (lo:=0) (hi:=k) (mx:=s.cap) (Nat.zero_le _) hk (Nat.le_trans hk h.cap));have:=Xh.get w rfl;simp only[Nat.zero_mul,List.drop_zero,Nat.sub_zero]at this;rw[<- this];obtain⟨a,n,c⟩:=s
 cases a with
 | none=>simp[Builtin.firstCells,gX]
 | some a=>
  have e:a.add 0=a:=rfl;simp[Builtin.firstCells,gX,e]
theorem Np{P:Program}{t t' e:TypeId}{ie:TypeInfo}{w:Wd}{d x:Sl}{b off sz:Nat}{row xs:List Value}{T:TypeId}{K:Int->Pw}
  (ht:P.underlying t=some (.slice e)) (hi:P.info? e=some ie) (uh:ie.size=sz) (hd:d.a=some ⟨b,off,none⟩) (hb:w.heap[b]? = some (.cells row.toArray T (0,0))) (hx:Rd w.heap x sz xs)
  (hle:off+min x.len d.len * sz<=row.length)
  (hk:∀w',nI w b (.cells (setL row off (xs.take (min x.len d.len * sz))).toArray T (0,0)) w'->K (min x.len d.len:Nat) w'):hO P t t' d x.v K w:=by
 have hlen:(xs.take (min x.len d.len * sz)).length=min x.len d.len * sz:=by
  rw[List.length_take,hx.len];exact Nat.min_eq_left (Nat.mul_le_mul_right _ (Nat.min_le_left _ _))
 refine⟨_,_,fun ty=>?_,hk _ rfl⟩;have h1:=ES (P:=P) hx (k:=min x.len d.len) (Nat.min_le_left _ _);have ER:=vn (P:=P) (b:=b) (T:=T) (fz:=(0,0)) (xs.take (min x.len d.len * sz)) w row.toArray off 0 hb (by simp only[hlen,List.size_toArray];omega) (.inr (.inr (Nat.le_refl _))) (fun v hv=>hx.cells v (List.mem_of_mem_take hv));obtain⟨da,dl,dc⟩:=d;simp only at hd;subst hd;simp only[Nat.add_zero]at ER;simp only at h1 ER;have h2:(Builtin.firstCells sz (x.len.min dl) x.v).run P w = .ok (xs.take (min x.len dl * sz)).toArray w:=h1;simp[Builtin.copy_,aE ht,Builtin.lenOf,bR hi,uh,h2,ER,goInt]
theorem tE.mk{w:Wd}{e:TypeId}{zs:List Value}{bytes:Nat}{l c:Int}{K:Sl->Pw}(h0:0<=l)(h1:l<=c)(h2:c<=9223372036854775807)(h3:bytes * c<=281474976710656)
  (k:∀b w',Bk w (.cells (List.replicate c.toNat zs).flatten.toArray e) b w'->K ⟨some ⟨b,0,none⟩,l.toNat,c.toNat⟩ w'):tE w e zs bytes l c K:=⟨h0,h1,h2,h3,fun b w' h=>k b w' h⟩
theorem aP.make{w w':Wd}{b l c:Nat}{e:TypeId}{zs:List Value}(h:Bk w (.cells (List.replicate c zs).flatten.toArray e) b w')(hl:l<=c)(hz:∀v∈zs,cn v=true) :
  aP w'.heap w.heap.size e zs.length ⟨some ⟨b,0,none⟩,l,c⟩ (List.replicate l zs).flatten:=by
 have e1:List.replicate c zs=List.replicate l zs++List.replicate (c - l) zs:=by rw[List.replicate_append_replicate];congr 1;omega
 refine⟨by simp,.inr ⟨b,(List.replicate (c - l) zs).flatten,rfl,by rw[h.at_];exact Nat.le_refl _,?_,?_,hl⟩,?_⟩
 .rw[<- List.flatten_append,<- e1];exact h.get
 .rw[<- List.flatten_append,<- e1];simp
 .intro v hv;simp only[List.mem_flatten,List.mem_replicate]at hv;obtain⟨x,⟨_,rfl⟩,hx⟩:=hv;exact hz v hx
theorem aH.own{w:Wd}{base:Nat}{e:TypeId}{s:Sl}{cs:List Value}{i:Int}{v:Value}{K:Pw}(o:aP w.heap base e 1 s cs)(h0:0<=i)(h1:i < (s.len:Int))(hv:cn v=true)
  (k:∀w',aP w'.heap base e 1 s (cs.set i.toNat v)->Ext (fun b=>s.au=some b) w w'->w'.heap.size=w.heap.size->K w'):Ix s.a s.len i 1 fun a=>aH w a v K:=by
 have hl:cs.length=s.len:=by simpa using o.len
 rcases o.is with⟨rfl,rfl⟩ | ⟨b,rest,ha,hle,hb,hc,jB⟩
 .simp at h1;omega
 .refine⟨_,ha,h0,h1,?_⟩;rw[ay rfl];simp only[Nat.zero_add,Nat.mul_one];refine aH.mk hb (by simp;omega) hv fun w' hw=>k w' ⟨by simpa using o.len,.inr ⟨b,rest,ha,hle,?_,by simpa using hc,jB⟩,fun u hu=>?_⟩ (hw.ext.mono fun j _ hj=>by subst hj;simp[Sl.au,ha]) hw.size
  .rw[hw.get hb,List.set_append_left _ _ (by omega)]
  .rcases List.mem_or_eq_of_mem_set hu with h | h
   .exact o.cells u h
   .subst h;exact hv
section
variable {α:Type} {f:α->List Value} {n:Nat}
theorem cC:∀{l:List α},(∀x∈l,(f x).length=n)->(l.flatMap f).length=l.length * n
 | [],_=>by simp
 | x::l,h=>by
  rw[List.flatMap_cons,List.length_append,h x List.mem_cons_self,cC fun y hy=>h y (List.mem_cons_of_mem _ hy),List.length_cons,Nat.add_mul];omega
theorem IS:∀{l:List α}{i j:Nat}(_:∀x∈l,(f x).length=n)(hi:i < l.length)(_:j < n),(l.flatMap f)[i * n+j]? = (f l[i])[j]?
 | [],i,j,_,hi,_=>by simp at hi
 | x::l,0,j,h,hi,hj=>by
  have:=h x List.mem_cons_self;rw[List.flatMap_cons,Nat.zero_mul,Nat.zero_add,List.getElem?_append_left (by omega)];rfl
 | x::l,i+1,j,h,hi,hj=>by
  have h1:=h x List.mem_cons_self;have e:(i+1) * n+j=(f x).length+(i * n+j):=by rw[h1,Nat.add_mul];omega
  rw[List.flatMap_cons,e,List.getElem?_append_right (by omega),Nat.add_sub_cancel_left,IS (fun y hy=>h y (List.mem_cons_of_mem _ hy)) (by simpa using hi) hj];rfl
theorem pM:∀(vs a b:List Value)(o:Nat),o+vs.length<=a.length->setL (a++b) o vs=setL a o vs++b
 | [],a,b,o,_=>rfl
 | v::vs,a,b,o,h=>by
  simp only[List.length_cons]at h;rw[setL,setL,List.set_append_left _ _ (by omega),pM vs _ _ _ (by simp;omega)]
theorem ur:∀(vs a b:List Value)(o:Nat),setL (a++b) (a.length+o) vs=a++setL b o vs
 | [],a,b,o=>rfl
 | v::vs,a,b,o=>by
  rw[setL,setL,List.set_append_right _ _ (by omega),Nat.add_sub_cancel_left,Nat.add_assoc,ur vs]
theorem nN(vs a:List Value)(h:vs.length=a.length):setL a 0 vs=vs:=by
 rw[gJ _ _ _ (by omega)];simp[h]
theorem Dd:∀{l:List α}{i o:Nat}{vs:List Value}{y:α}(_:∀x∈l,(f x).length=n)(hi:i < l.length)(_:o+vs.length<=n)(_:f y=setL (f l[i]) o vs),setL (l.flatMap f) (i * n+o) vs=(l.set i y).flatMap f
 | [],i,o,vs,y,_,hi,_,_=>by simp at hi
 | x::l,0,o,vs,y,h,hi,ho,hy=>by
  have:=h x List.mem_cons_self;rw[List.flatMap_cons,Nat.zero_mul,Nat.zero_add,pM _ _ _ _ (by omega),List.set_cons_zero,List.flatMap_cons,hy];rfl
 | x::l,i+1,o,vs,y,h,hi,ho,hy=>by
  have h1:=h x List.mem_cons_self;have e:(i+1) * n+o=(f x).length+(i * n+o):=by rw[h1,Nat.add_mul];omega
  rw[List.flatMap_cons,e,ur,Dd (fun y hy=>h y (List.mem_cons_of_mem _ hy)) (by simpa using hi) ho hy,List.set_cons_succ,List.flatMap_cons]
end
section
variable {w:Wd} {base:Nat} {e:TypeId} {sz:Nat} {s:Sl} {cs:List Value}
theorem aP.place{h:Array Obj}(o:aP h base e sz s cs)(dz:cs≠[]):∃b rest,s.a=some ⟨b,0,none⟩/\base<=b/\h[b]? = some (.cells (cs++rest).toArray e (0,0))/\(cs++rest).length=s.cap * sz/\s.len<=s.cap:=by
 rcases o.is with⟨_,rfl⟩ | h
 .exact absurd rfl dz
 .exact h
theorem aP.upd{w':Wd}{b off:Nat}{rest vs:List Value}(o:aP w.heap base e sz s cs)(ha:s.a=some ⟨b,0,none⟩)(hle:base<=b)(hb:w.heap[b]? = some (.cells (cs++rest).toArray e (0,0)))(hc:(cs++rest).length=s.cap * sz)(jB:s.len<=s.cap)
  (hw:nI w b (.cells (setL (cs++rest) off vs).toArray e (0,0)) w') (hv:∀v∈vs,cn v=true) (ho:off+vs.length<=cs.length) :
  aP w'.heap base e sz s (setL cs off vs)/\Ext (fun i=>s.au=some i) w w'/\w'.heap.size=w.heap.size:=by
 refine⟨⟨by rw[ue];exact o.len,.inr ⟨b,rest,ha,hle,?_,?_,jB⟩,fun v h=>?_⟩,hw.ext.mono fun i _ hi=>by subst hi;simp[Sl.au,ha],hw.size⟩
 .rw[hw.get hb,pM _ _ _ _ ho]
 .rw[List.length_append,ue,<- List.length_append];exact hc
 .rw[gJ _ _ _ ho]at h;rcases List.mem_append.1 h with h | h
  .exact o.cells v (List.mem_of_mem_take h)
  .rcases List.mem_append.1 h with h | h
   .exact hv v h
   .exact o.cells v (List.mem_of_mem_drop h)
theorem cr.own{i:Int}{vs:List Value}{K:Pw}(o:aP w.heap base e sz s cs)(h0:0<=i)(h1:i < (s.len:Int))(hv:∀v∈vs,cn v=true)(hl:vs.length=sz)(uh:0 < sz)
  (k:∀w',aP w'.heap base e sz s (setL cs (i.toNat * sz) vs)->Ext (fun i=>s.au=some i) w w'->w'.heap.size=w.heap.size->K w'):Ix s.a s.len i sz fun a=>cr w a vs K:=by
 have hlen:=o.len
 have hle:i.toNat * sz+sz<=cs.length:=by
  rw[hlen];have:(i.toNat+1) * sz<=s.len * sz:=Nat.mul_le_mul_right _ (by omega);rw[Nat.add_mul]at this;omega
 have dz:cs≠[]:=by intro e;subst e;simp at hle;omega
 obtain⟨b,rest,ha,TH,hb,hc,jB⟩:=o.place dz;refine⟨_,ha,h0,h1,?_⟩;rw[ay rfl];simp only[Nat.zero_add];refine⟨_,_,_,hb,rfl,by show i.toNat * sz+vs.length<=_;simp only[List.size_toArray,List.length_append];omega,.inr (.inr (Nat.le_refl _)),hv,fun w' hw=>?_⟩;obtain⟨a1,a2,a3⟩:=o.upd (off:=i.toNat * sz) ha TH hb hc jB hw hv (by omega);exact k w' a1 a2 a3
end
theorem Ix.elem{α:Type}{f:α->List Value}{n:Nat}{w:Wd}{s:Sl}{l:List α}{i:Int}{K:Addr->Prop}(h:Rd w.heap s n (l.flatMap f))(hf:∀x∈l,(f x).length=n)(hn:0 < n)(h0:0<=i)(h1:i < (s.len:Int))
  (k:∀b o (hi:i.toNat < l.length),s.au=some b->(∀j v,(f l[i.toNat])[j]? = some v->Cell w ⟨b,o+j,none⟩ v)->K ⟨b,o,none⟩):Ix s.a s.len i n K:=by
 have hl:l.length=s.len:=by have:=h.len;rw[cC hf]at this;exact Nat.eq_of_mul_eq_mul_right hn this
 have aV:i.toNat < l.length:=by omega
 have S4:=cC hf
 have hle:i.toNat * n+n<=(l.flatMap f).length:=by
  rw[S4];have:(i.toNat+1) * n<=l.length * n:=Nat.mul_le_mul_right _ (by omega);rw[Nat.add_mul]at this;omega
 obtain⟨b,off,ha,hc⟩:=h.at_ (by intro e;rw[e]at hle;simp at hle;omega);refine⟨_,ha,h0,h1,?_⟩;rw[ay rfl];refine k b _ aV (by simp[Sl.au,ha]) fun j v hv=>?_
 have hj:j < n:=by
  have:=hf _ (List.getElem_mem aV);rcases Nat.lt_or_ge j n with h | h
  .exact h
  .rw[List.getElem?_eq_none (by omega)]at hv;cases hv
 have hg:=IS (i:=i.toNat) (j:=j) hf aV hj;rw[hv]at hg;obtain⟨Xi,Gx⟩:=List.getElem?_eq_some_iff.1 hg;refine Cell.mk ?_;simp only;rw[Nat.add_assoc,hc _ Xi,Gx]
theorem Cell.row{w:Wd}{b o i:Nat}{k:IntKind}{l:List Int}(h:∀j (hj:j < l.length),Cell w ⟨b,o+i+j,none⟩ (.int k l[j])):bu (Cell w) ⟨b,o,none⟩ i k l:=by
 intro j hj;rw[ay rfl,<- Nat.add_assoc];exact h j hj
theorem af.row{S:Pw}{b o i:Nat}{k:IntKind}{l:List Int}(h:∀j (hj:j < l.length),af S ⟨b,o+i+j,none⟩ (.int k l[j])):bu (af S) ⟨b,o,none⟩ i k l:=by
 intro j hj;rw[ay rfl,<- Nat.add_assoc];exact h j hj
abbrev av(h:Array Obj)(b:Nat)(T:TypeId)(k:IntKind)(l:List Int):Prop:=h[b]? = some (.cells (l.map (Value.int k)).toArray T (0,0))
section
variable {w w':Wd} {b:Nat} {T:TypeId} {k:IntKind} {l:List Int}
theorem av.new(h:Bk w (.cells (List.map (Value.int k) l++[]).toArray T) b w'):av w'.heap b T k l:=by
 have:=h.get;rwa [List.append_nil]at this
theorem av.ext{S:Nat->Prop}(a:av w.heap b T k l)(x:Ext S w w')(hb:¬ S b):av w'.heap b T k l:=by
 have hl:b < w.heap.size:=(Array.getElem?_eq_some_iff.1 a).1;show w'.heap[b]? = _;rw[x.au b hl hb];exact a
theorem av.lt(a:av w.heap b T k l):b < w.heap.size:=(Array.getElem?_eq_some_iff.1 a).1
theorem av.wg(a:av w.heap b T k l){i:Nat}(hi:i < l.length):Cell w ⟨b,i,none⟩ (.int k (l.getD i 0)):=Cell.ah a (by simp[hi])
theorem av.cell(a:av w.heap b T k l){t:Int}(h0:0<=t)(h1:t < (l.length:Int)):Cell w ((Addr.mk b 0 none).add (Int.toNat t * 1)) (.int k (l.getD t.toNat 0)):=by
 rw[ay rfl];show Cell w ⟨b,0+t.toNat * 1,none⟩ _;rw[Nat.zero_add,Nat.mul_one];exact a.wg (by omega)
theorem av.held{S:Nat->Prop}(a:av w.heap b T k l)(hb:¬ S b){t:Int}(h0:0<=t)(h1:t < (l.length:Int)):af (Ext S w) ((Addr.mk b 0 none).add (Int.toNat t * 1)) (.int k (l.getD t.toNat 0)):=by
 rw[ay rfl];show af (Ext S w) ⟨b,0+t.toNat * 1,none⟩ _;rw[Nat.zero_add,Nat.mul_one];exact af.bq (a.wg (by omega)) hb
theorem av.row(a:av w.heap b T k l):bu (Cell w) (Addr.mk b 0 none) 0 k l:=Cell.row fun j hj=>by
 have:=a.wg hj;simp only[List.getD_eq_getElem?_getD,List.getElem?_eq_getElem hj,Option.getD_some]at this;simp only[Nat.zero_add];exact this
theorem av.IT{S:Nat->Prop}(a:av w.heap b T k l)(hb:¬ S b):bu (af (Ext S w)) (Addr.mk b 0 none) 0 k l:=af.row fun j hj=>by
 have:=a.wg hj;simp only[List.getD_eq_getElem?_getD,List.getElem?_eq_getElem hj,Option.getD_some]at this;simp only[Nat.zero_add];exact af.bq this hb
theorem av.st{t z:Int}{K:Pw}(a:av w.heap b T k l)(h0:0<=t)(h1:t < (l.length:Int))(hk:∀w',av w'.heap b T k (l.set t.toNat z)->Ext (·=b) w w'->K w'):aH w ((Addr.mk b 0 none).add (Int.toNat t * 1)) (.int k z) K:=by
 rw[ay rfl];show aH w ⟨b,0+t.toNat * 1,none⟩ _ K;rw[Nat.zero_add,Nat.mul_one];refine aH.mk (cs:=l.map (Value.int k)) a (by simp;omega) rfl fun w' hw=>hk w' ?_ hw.ext
 have:=hw.get a
 rwa [<- List.map_set]at this
theorem av.Ls{o:Nat}{z:Int}{K:Pw}(a:av w.heap b T k l)(ho:o < l.length)(hk:∀w',av w'.heap b T k (l.set o z)->Ext (·=b) w w'->K w'):aH w ⟨b,o,none⟩ (.int k z) K:=by
 refine aH.mk (cs:=l.map (Value.int k)) a (by simp;omega) rfl fun w' hw=>hk w' ?_ hw.ext
 have:=hw.get a
 rwa [<- List.map_set]at this
theorem av.oH{l':List Int}{K:Pw}(a:av w.heap b T k l)(hl:l'.length=l.length)(hk:∀w',av w'.heap b T k l'->Ext (·=b) w w'->K w'):cr w (Addr.mk b 0 none) (List.map (Value.int k) l'++[]) K:=by
 refine⟨_,_,_,a,rfl,by show 0+_<=_;simp[hl],.inr (.inr (Nat.le_refl _)),fun v hv=>?_,fun w' hw=>hk w' ?_ hw.ext⟩
 .rw[List.append_nil]at hv;exact cZ v hv
 .have:=hw.get a
  have e:setL (l.map (Value.int k)) 0 (List.map (Value.int k) l'++[])=l'.map (Value.int k):=by
   rw[List.append_nil];exact nN _ _ (by simp[hl])
  simp only[e]at this;exact this
end
abbrev Co:=Nat->Bool
def co(l:List Int):Co:=fun i=>decide (i < 128) && (l.getD (i / 8) 0).toNat.testBit (7 - i % 8)
def cw(h l:Int):Co:=fun i=>if i < 64 then h.toNat.testBit (63 - i) else decide (i < 128) && l.toNat.testBit (127 - i)
def xc(a b:Co):Co:=fun i=>a i ^^ b i
def zc:Co:=fun _=>false
def TI(y:Co):Co:=fun k=>decide (k < 128) && ((decide (k≠0) && y (k - 1)) ^^ (y 127 && decide (k=0∨k=1∨k=2∨k=7)))
def my(b:Co):Nat->Co
 | 0=>b
 | i+1=>TI (my b i)
def mz(a b:Co):Nat->Co
 | 0=>zc
 | i+1=>if a i then xc (mz a b i) (my b i) else mz a b i
def mu(a b:Co):Co:=mz a b 128
def Tr(c:Co):Prop:=∀i,128<=i->c i=false
theorem QE(l:List Int):Tr (co l):=fun i h=>by unfold co;rw[decide_eq_false (by omega)];rfl
theorem QF(y:Co):Tr (TI y):=fun i h=>by unfold TI;rw[decide_eq_false (by omega)];rfl
theorem aay{a b:Co}(ha:Tr a)(hb:Tr b):Tr (xc a b):=fun i h=>by unfold xc;rw[ha i h,hb i h];rfl
theorem aaz{b:Co}(hb:Tr b):∀i,Tr (my b i)
 | 0=>hb
 | _+1=>QF _
theorem QG{a b:Co}(hb:Tr b):∀i,Tr (mz a b i)
 | 0=>fun _ _=>rfl
 | i+1=>by
  rw[mz];split
  .exact aay (QG hb i) (aaz hb i)
  .exact QG hb i
theorem Lu{h l h' l':Int}:cw (xr h h') (xr l l')=xc (cw h l) (cw h' l'):=by
 funext i;unfold cw xc;rw[C_,C_];by_cases hi:i < 64
 .simp only[if_pos hi,Nat.testBit_xor]
 .simp only[if_neg hi,Nat.testBit_xor]
  cases decide (i < 128) <;> simp
theorem Vo{h:Nat}(hh:h < 2 ^ 64){i:Nat}(hi:64<=i):h.testBit i=false:=Nat.testBit_lt_two_pow (Nat.lt_of_lt_of_le hh (Nat.pow_le_pow_right (by decide) hi))
theorem TJ:∀k:Fin 64,Nat.testBit 16212958658533785600 (63 - k.val)=decide (k.val=0∨k.val=1∨k.val=2∨k.val=7):=by decide +kernel
theorem aaA{h l:Int}(hl:lY l):cw h l 127=decide (l % 2=1):=by
 unfold cw;rw[if_neg (by decide)];show(true && l.toNat.testBit 0)=_;rw[Bool.true_and,Nat.testBit_zero];congr 1;exact propext ⟨fun h=>by omega,fun h=>by omega⟩
theorem Xj{h l:Int}(hh:lY h)(hl:lY l) :
    cw (if l % 2=1 then xr (h / 2) 16212958658533785600 else h / 2) (((l / 2).toNat ||| (h * 2 ^ 63 % 18446744073709551616).toNat:Nat):Int)=TI (cw h l):=by
  obtain⟨m,rfl⟩:=Int.eq_ofNat_of_zero_le hh.1;obtain⟨n,rfl⟩:=Int.eq_ofNat_of_zero_le hl.1;have hm:m < 2 ^ 64:=by have:=hh.2;omega
  have hn:n < 2 ^ 64:=by have:=hl.2;omega
  have e1:((m:Int) * 2 ^ 63 % 18446744073709551616).toNat=m * 2 ^ 63 % 2 ^ 64:=by omega
  have e2:((n:Int) / 2).toNat=n / 2:=by omega
  have e3:((m:Int) / 2).toNat=m / 2:=by omega
  have acS:=aaA (h:=(m:Int)) hl;funext k;unfold TI;rw[acS,e1,e2];unfold cw;by_cases k1:k < 64
  · rw[if_pos k1,decide_eq_true (show k < 128 by omega),Bool.true_and];have eb:=TJ ⟨k,k1⟩;simp only at eb
    have ep:(decide (k≠0) && (if k - 1 < 64 then(m:Int).toNat.testBit (63 - (k - 1)) else decide (k - 1 < 128) && (n:Int).toNat.testBit (127 - (k - 1))))=(m / 2).testBit (63 - k):=by
      rw[if_pos (by omega),Nat.testBit_div_two];by_cases k0:k=0
      · subst k0;rw[Vo hm (by decide)];rfl
      · rw[decide_eq_true (by omega),Bool.true_and,Int.toNat_natCast];congr 1;omega
    rw[ep];by_cases o:(n:Int) % 2=1
    · rw[if_pos o,C_,e3,Nat.testBit_xor,decide_eq_true o,Bool.true_and,<- eb];rfl
    · rw[if_neg o,e3,decide_eq_false o,Bool.false_and,Bool.xor_false]
  · rw[if_neg k1];by_cases k2:k < 128
    · rw [decide_eq_true k2,Bool.true_and,Bool.true_and,Int.toNat_natCast,Nat.testBit_or,Nat.testBit_div_two,Nat.testBit_mod_two_pow,Nat.testBit_mul_two_pow,
        decide_eq_true (show k≠0 by omega),Bool.true_and,decide_eq_false (show ¬(k=0∨k=1∨k=2∨k=7) by omega),Bool.and_false,Bool.xor_false]
      by_cases k3:k=64
      · subst k3;rw[if_pos (by decide),Vo hn (by decide)];simp
      · rw [if_neg (show ¬ k - 1 < 64 by omega),decide_eq_true (show k - 1 < 128 by omega),Bool.true_and,Int.toNat_natCast,
          decide_eq_false (show ¬ 63<=127 - k by omega),Bool.false_and,Bool.and_false,Bool.or_false]
        congr 1;omega
    · rw[decide_eq_false k2];rfl
def sh(i:Nat)(y:Co):Co:=fun j=>if j < i then false else y (j - i)
def PR(x y:Co):Nat->Co
 | 0=>zc
 | i+1=>if x i then xc (PR x y i) (sh i y) else PR x y i
def Nq(i:Nat)(p:Co):Co:=fun j=>p j ^^ (p i && decide (j=i∨j=i - 128∨j=i - 127∨j=i - 126∨j=i - 121))
def IU:Nat->Co->Co
 | 0,p=>p
 | n+1,p=>IU n (Nq (128+n) p)
theorem QH(i:Nat):Nq i zc=zc:=by funext j;unfold Nq zc;simp
theorem Xk(i:Nat)(p q:Co):Nq i (xc p q)=xc (Nq i p) (Nq i q):=by
 funext j;show((p j ^^ q j) ^^ ((p i ^^ q i) && decide (j=i∨j=i - 128∨j=i - 127∨j=i - 126∨j=i - 121)))=((p j ^^ (p i && decide (j=i∨j=i - 128∨j=i - 127∨j=i - 126∨j=i - 121))) ^^ (q j ^^ (q i && decide (j=i∨j=i - 128∨j=i - 127∨j=i - 126∨j=i - 121))));generalize decide (j=i∨j=i - 128∨j=i - 127∨j=i - 126∨j=i - 121)=d;generalize p j=a;generalize q j=b;generalize p i=c;generalize q i=e
 revert a b c d e;decide
theorem IV:∀n,IU n zc=zc
 | 0=>rfl
 | n+1=>by rw[IU,QH,IV n]
theorem QI:∀(n:Nat)(p q:Co),IU n (xc p q)=xc (IU n p) (IU n q)
 | 0,_,_=>rfl
 | n+1,p,q=>by rw[IU,Xk,QI n];rfl
theorem Nr{i:Nat}{p:Co}(h:p i=false):Nq i p=p:=by funext j;unfold Nq;rw[h];simp
theorem Xl{i:Nat}{y:Co}(hy:Tr y):Nq (128+i) (sh (i+1) y)=sh i (TI y):=by
 funext j;unfold Nq;have e:sh (i+1) y (128+i)=y 127:=by unfold sh;rw[if_neg (by omega)];congr 1;omega
 rw[e];unfold sh TI;by_cases h1:j < i
 .rw[if_pos (by omega),if_pos h1,decide_eq_false (by omega)];simp
 rw[if_neg h1]
 obtain⟨k,rfl⟩ : ∃k,j=i+k:=⟨j - i,by omega⟩
 rw[show i+k - i=k by omega];by_cases h2:k < 128
 .rw[decide_eq_true h2,Bool.true_and]
  have ed:decide (i+k=128+i∨i+k=128+i - 128∨i+k=128+i - 127∨i+k=128+i - 126∨i+k=128+i - 121)=decide (k=0∨k=1∨k=2∨k=7):=by
   congr 1;exact propext ⟨fun h=>by omega,fun h=>by omega⟩
  rw[ed];by_cases h3:k=0
  .subst h3;rw[if_pos (by omega)];rfl
  .rw[if_neg (by omega),decide_eq_true (show k≠0 by omega),Bool.true_and];congr 2;omega
 .rw[decide_eq_false h2,Bool.false_and,if_neg (by omega)];by_cases h4:k=128
  .subst h4;rw[decide_eq_true (by omega),Bool.and_true,show i+128 - (i+1)=127 by omega,Bool.xor_self]
  .rw[hy _ (by omega),decide_eq_false (by omega)];simp
theorem Lv:∀{i:Nat}{y:Co},Tr y->IU i (sh i y)=my y i
 | 0,y,_=>by funext j;unfold IU sh my;simp
 | i+1,y,hy=>by
  rw[IU,Xl hy,Lv (QF y)]
  have:∀n,my (TI y) n=my y (n+1):=fun n=>by
   induction n with
   | zero=>rfl
   | succ n ih=>rw[my,ih];rfl
  exact this i
theorem IW:∀{n i:Nat}{y:Co},Tr y->i<=n->IU n (sh i y)=my y i
 | 0,i,y,hy,h=>by
  have:i=0:=by omega
  subst this;exact Lv hy
 | n+1,i,y,hy,h=>by
  by_cases e:i=n+1
  .subst e;exact Lv hy
  .rw[IU,Nr,IW hy (by omega)];unfold sh;split
   .rfl
   .exact hy _ (by omega)
theorem Gy{x y:Co}(hy:Tr y):∀{i:Nat},i<=128->IU 127 (PR x y i)=mz x y i
 | 0,_=>IV _
 | i+1,h=>by
  rw[PR,mz];split
  .rw[QI,Gy hy (by omega),IW hy (by omega)]
  .exact Gy hy (by omega)
def nb(c:Co)(o:Nat):Nat->Nat
 | 0=>0
 | n+1=>2 * nb c o n+(c (o+n)).toNat
def ah(c:Co):List Int:=tab 16 fun j=>((nb c (8 * j) 8:Nat):Int)
theorem QJ(c:Co)(o:Nat):∀n,nb c o n < 2 ^ n
 | 0=>by show 0 < 2 ^ 0;decide
 | n+1=>by
  have:=QJ c o n;have:=Bool.toNat_le (c (o+n));rw[nb,Nat.pow_succ];omega
theorem Lw(c:Co):B8 (ah c):=Dc fun i _=>by
 have:=QJ c (8 * i) 8;constructor <;> omega
theorem TK:∀v:Fin 256,nb (fun i=>v.val.testBit (7 - i)) 0 8=v.val:=by decide +kernel
theorem IX{c d:Co}{o p:Nat}:∀{n:Nat},(∀i,i < n->c (o+i)=d (p+i))->nb c o n=nb d p n
 | 0,_=>rfl
 | n+1,h=>by rw[nb,nb,IX fun i hi=>h i (by omega),h n (by omega)]
theorem Xm{l:List Int}(hl:l.length=16)(hb:B8 l):ah (co l)=l:=by
 refine(aQ fun j hj=>?_).trans (mR hl).symm;have hx:=hb.get j;have:=TK ⟨(l.getD j 0).toNat,by omega⟩;simp only at this;rw[IX (d:=fun i=>(l.getD j 0).toNat.testBit (7 - i)) (p:=0) fun i hi=>?_,this]
 .omega
 .unfold co;rw[decide_eq_true (by omega),Bool.true_and,show(8 * j+i) / 8=j by omega,Nat.zero_add];congr 1;omega
def kF(h:Co):Nat->Co->List Int->Co
 | 0,c,_=>c
 | n+1,c,l=>kF h n (mu (xc c (co l)) h) (l.drop 16)
theorem Ns{h:Co}(hh:Tr h):∀(n:Nat){c:Co}(l:List Int),Tr c->Tr (kF h n c l)
 | 0,_,_,hc=>hc
 | n+1,_,_,_=>Ns hh n _ (QG hh 128)
theorem De(h:Co):∀(m n:Nat)(c:Co)(l:List Int),kF h (m+n) c l=kF h n (kF h m c l) (l.drop (16 * m))
 | 0,n,c,l=>by simp[kF]
 | m+1,n,c,l=>by
  rw[show m+1+n=(m+n)+1 by omega,kF,De h m n,kF,List.drop_drop];congr 2;omega
theorem Df{l m:List Int}(h:∀i,i < 16->l.getD i 0=m.getD i 0):co l=co m:=by
 funext i;unfold co;by_cases hi:i < 128
 .rw[h (i / 8) (by omega)]
 .rw[decide_eq_false hi];rfl
theorem Dg(h:Co):∀(n:Nat)(c:Co){l m:List Int},(∀i,i < 16 * n->l.getD i 0=m.getD i 0)->kF h n c l=kF h n c m
 | 0,_,_,_,_=>rfl
 | n+1,c,l,m,e=>by
  rw[kF,kF,Df fun i hi=>e i (by omega)];refine Dg h n _ fun i hi=>?_
  have:=e (16+i) (by omega);simpa[List.getD_eq_getElem?_getD,List.getElem?_drop] using this
theorem FL{h c:Co}{l m:List Int}{z n:Nat}(hz:l.length+z=16 * n)(k:Nat):kF h (n+k) c (l++List.replicate z 0++m)=kF h k (kF h n c l) m:=by
 rw[De]
 have e1:(l++List.replicate z 0++m).drop (16 * n)=m:=by
  rw[List.drop_append_of_le_length (by simp;omega),List.drop_eq_nil_of_le (by simp;omega),List.nil_append]
 rw[e1];congr 1;refine Dg h n c fun i hi=>?_
 simp only[List.getD_eq_getElem?_getD];by_cases h1:i < l.length
 .rw[List.append_assoc,List.getElem?_append_left h1]
 .have e2:(List.replicate z (0:Int))[i - l.length]? = some 0:=by rw[List.getElem?_replicate,if_pos (by omega)]
  have e3:l[i]? = none:=List.getElem?_eq_none (by omega);rw[List.getElem?_append_left (by simp;omega),List.getElem?_append_right (by omega),e2,e3];rfl
variable {α:Type} [DecidableEq α]
def gq(a:α):List (α×Value)->Nat->Option (Nat×Value)
 | [],_=>none
 | p::m,i=>if a=p.1 then some (i,p.2) else gq a m (i+1)
def mG(a:α):List (α×Value)->Option Value
 | []=>none
 | p::m=>if a=p.1 then some p.2 else mG a m
def Gz(a:α)(v:Value):List (α×Value)->List (α×Value)
 | []=>[(a,v)]
 | p::m=>if a=p.1 then(a,v)::m else p::Gz a v m
def GA(a:α):List (α×Value)->List (α×Value)
 | []=>[]
 | p::m=>if a=p.1 then m else p::GA a m
structure oT(P:Program)(kt:TypeId)(enc:α->Value):Prop where
 ck:∀b a w,(Instr.checkKey b 10000 kt (enc a)).run P w = .ok () w
 fk:∀a (es:List MapEntry) (m:List (α×Value)) w,es.map (fun e=>(e.key,e.val))=m.map (fun p=>(enc p.1,p.2))->(Instr.findKey kt (enc a) es).run P w = .ok (gq a m 0) w
 st:∀a,Instr.sameBits 10000 (enc a) (enc a)=true
def db(es:List MapEntry)(clock:Nat):Prop:=(es.map (·.born)).Nodup/\∀e∈es,e.born < clock
theorem db.nil:db [] 0:=⟨.nil,fun _ h=>nomatch h⟩
theorem db.push{es:List MapEntry}{clock:Nat}(h:db es clock)(k v:Value):db (es++[{ key:=k,val:=v,born:=clock }]) (clock+1):=by
 refine⟨?_,fun e he=>?_⟩
 .rw[List.map_append];refine List.nodup_append.2 ⟨h.1,by simp,fun a ha b hb=>?_⟩;simp only[List.map_cons,List.map_nil,List.mem_singleton]at hb;obtain⟨e,he,rfl⟩:=List.mem_map.1 ha;have:=h.2 e he;omega
 .rcases List.mem_append.1 he with h1 | h1
  .have:=h.2 e h1;omega
  .rw[List.mem_singleton]at h1;subst h1;exact Nat.lt_succ_self _
theorem db.as{es es':List MapEntry}{clock:Nat}(h:db es clock)(e:es'.map (·.born)=es.map (·.born)):db es' clock:=by
 refine⟨e ▸ h.1,fun x hx=>?_⟩;have:x.born∈es.map (·.born):=e ▸ List.mem_map.2 ⟨x,hx,rfl⟩;obtain⟨y,hy,hb⟩:=List.mem_map.1 this;rw[<- hb];exact h.2 y hy
theorem db.sub{es es':List MapEntry}{clock:Nat}(h:db es clock)(e:es'.Sublist es):db es' clock:=⟨h.1.sublist (e.map _),fun x hx=>h.2 x (e.subset hx)⟩
def fh(h:Array Obj)(enc:α->Value)(r:Nat)(m:List (α×Value)):Prop:=∃es clock,h[r]? = some (.map es clock)/\es.toList.map (fun e=>(e.key,e.val))=m.map (fun p=>(enc p.1,p.2))/\db es.toList clock
theorem kX(a:α):∀(m:List (α×Value))(i:Nat),(gq a m i).map Prod.snd=mG a m
 | [],_=>rfl
 | p::m,i=>by
  unfold gq mG;split
  .rfl
  .exact kX a m (i+1)
theorem iT{a:α}{v:Value}:∀{m:List (α×Value)}{i:Nat},gq a m i=none->Gz a v m=m++[(a,v)]/\GA a m=m
 | [],_,_=>⟨rfl,rfl⟩
 | p::m,i,h=>by
  unfold gq at h;split at h
  .cases h
  .rename_i hn;have:=iT (v:=v) h;unfold Gz GA;rw[if_neg hn,if_neg hn,this.1,this.2];exact⟨rfl,rfl⟩
theorem wK{a:α}:∀{m:List (α×Value)}{i j:Nat}{u v:Value},gq a m i=some (j,u)->i<=j/\j - i < m.length/\Gz a v m=m.set (j - i) (a,v)/\GA a m=m.eraseIdx (j - i)/\(m[j - i]?).map Prod.fst=some a
 | [],_,_,_,_,h=>by cases h
 | p::m,i,j,u,v,h=>by
  unfold gq at h;split at h
  .rename_i hn
   cases h
   refine⟨Nat.le_refl _,by simp,?_,?_,?_⟩
   .unfold Gz;rw[if_pos hn];simp
   .unfold GA;rw[if_pos hn];simp
   .simp[hn]
  .rename_i hn;obtain⟨h1,h2,h3,h4,h5⟩:=wK (v:=v) h;have e:j - i=(j - (i+1))+1:=by omega
   refine⟨by omega,by simp;omega,?_,?_,?_⟩
   .unfold Gz;rw[if_neg hn,h3,e];rfl
   .unfold GA;rw[if_neg hn,h4,e];rfl
   .rw[e];simpa using h5
theorem pN{β γ:Type}(f:β->γ):∀(l:List β)(i:Nat),(l.eraseIdx i).map f=(l.map f).eraseIdx i
 | [],_=>rfl
 | _::_,0=>rfl
 | x::l,i+1=>by simp[pN f l i]
section
variable {P:Program} {w:Wd} {mt kt et:TypeId} {enc:α->Value} {r:Nat} {m:List (α×Value)} {a:α}
theorem ew{es:Array MapEntry}{clock:Nat}(h:w.heap[r]? = some (.map es clock)):(getObj r).run P w = .ok (.map es clock) w:=by
 simp[getObj,Sem.run,h]
theorem rK{es:Array MapEntry}{clock:Nat}(o:Obj)(h:w.heap[r]? = some (.map es clock)):(setObj r o).run P w = .ok () (World.cY w r o):=by
 simp[setObj,Sem.run,h,World.cY]
theorem gK(K:oT P kt enc)(ht:P.underlying mt=some (.map kt et)){z:Value}(hz:(zeroValue et).run P w = .ok z w)(h:fh w.heap enc r m):(Instr.lookup mt (.map (some r)) (enc a) false).run P w = .ok ((mG a m).getD z) w:=by
 obtain⟨es,clock,hb,he,hB⟩:=h;have hf:=K.fk a es.toList m w he;have hg:=kX a m 0;simp only[Instr.lookup,Sem.run_bind,aE ht,Result.andThen_ok,ew hb,K.ck,hf,Sem.run_pure]
 cases Dh:gq a m 0 with
 | none=>rw[Dh]at hg;simp[<- hg,hz]
 | some p=>rw[Dh]at hg;simp[<- hg]
theorem aJ(K:oT P kt enc)(ht:P.underlying mt=some (.map kt et)){v:Value}(h:fh w.heap enc r m):∃w',(Instr.mapUpdate mt (.map (some r)) (enc a) v).run P w = .ok () w'/\fh w'.heap enc r (Gz a v m)/\Ext (·=r) w w'/\w'.heap.size=w.heap.size:=by
 obtain⟨es,clock,hb,he,hB⟩:=h;have hf:=K.fk a es.toList m w he
 cases Dh:gq a m 0 with
 | none=>
  refine⟨World.cY w r (.map (es.push { key:=enc a,val:=v,born:=clock }) (clock+1)),?_,⟨_,_,dY hb,?_,by rw[Array.toList_push];exact hB.push _ _⟩,nI.ext rfl,nI.size rfl⟩
  .rw[Dh]at hf;simp[Instr.mapUpdate,aE ht,ew hb,K.ck,hf,rK _ hb]
  .rw[(iT (v:=v) Dh).1];simp[he]
 | some p=>
  obtain⟨j,u⟩:=p;obtain⟨_,h2,h3,_,h5⟩:=wK (v:=v) Dh;simp only[Nat.sub_zero]at h2 h3 h5;have hl:es.size=m.length:=by have:=congrArg List.length he;simpa using this
  have hk:((es[j]?).map (·.key)).getD (enc a)=enc a:=by
   have:=congrArg (fun l=>(l[j]?).map Prod.fst) he;simp only[List.getElem?_map,Option.map_map]at this
   have e2:Option.map (fun x=>enc x.1) m[j]? = some (enc a):=by
    cases hm:m[j]? with
    | none=>rw[hm]at h5;cases h5
    | some q=>rw[hm]at h5;simp only[Option.map_some,Option.some.injEq]at h5 ⊢;rw[h5]
   have e3:Option.map (·.key) es[j]? = some (enc a):=by
    rw[<- e2];simpa[Function.comp_def] using this
   rw[e3];rfl
  refine⟨World.cY w r (.map (es.modify j fun e=>{ e with key:=enc a,val:=v }) clock),?_,⟨_,_,dY hb,?_,hB.as ?_⟩,nI.ext rfl,nI.size rfl⟩
  .rw[Dh]at hf;simp[Instr.mapUpdate,aE ht,ew hb,K.ck,hf,rK _ hb,hk,Instr.keyThatStays,K.st]
  .rw[h3,Array.toList_modify];apply List.ext_getElem?;intro i;have hi:=congrArg (fun l=>l[i]?) he;simp only[List.getElem?_map,List.getElem?_modify,List.getElem?_set]at hi ⊢;by_cases ZB:j=i
   .subst ZB;rw[if_pos rfl,if_pos h2,List.getElem?_eq_getElem (by simpa[hl] using h2)];simp
   .rw[if_neg ZB];simpa[ZB] using hi
  .rw[Array.toList_modify];apply List.ext_getElem?;intro i;simp only[List.getElem?_map,List.getElem?_modify];by_cases ZB:j=i
   .subst ZB;cases es.toList[j]? <;> simp
   .simp[ZB]
theorem Lx(K:oT P kt enc)(ht:P.underlying mt=some (.map kt et)){t:TypeId}(h:fh w.heap enc r m):∃w',(Builtin.delete_ #[mt,kt] t #[.map (some r),enc a]).run P w = .ok (.tuple #[]) w'/\fh w'.heap enc r (GA a m)/\Ext (·=r) w w'/\w'.heap.size=w.heap.size:=by
 obtain⟨es,clock,hb,he,hB⟩:=h;have hf:=K.fk a es.toList m w he
 cases Dh:gq a m 0 with
 | none=>
  refine⟨World.cY w r (.map es clock),?_,⟨_,_,dY hb,?_,hB⟩,nI.ext rfl,nI.size rfl⟩
  .rw[Dh]at hf;simp[Builtin.delete_,aE ht,ew hb,K.ck,hf,rK _ hb]
  .rw[(iT (v:= .nilFunc) Dh).2];exact he
 | some p=>
  obtain⟨j,u⟩:=p;obtain⟨_,h2,_,h4,_⟩:=wK (v:= .nilFunc) Dh;simp only[Nat.sub_zero]at h2 h4;refine⟨World.cY w r (.map (es.eraseIdxIfInBounds j) clock),?_,⟨_,_,dY hb,?_,hB.sub (by rw[Array.toList_eraseIdxIfInBounds];exact List.eraseIdx_sublist _ _)⟩,nI.ext rfl,nI.size rfl⟩
  .rw[Dh]at hf;simp[Builtin.delete_,aE ht,ew hb,K.ck,hf,rK _ hb]
  .rw[h4,Array.toList_eraseIdxIfInBounds,pN,he,pN]
omit [DecidableEq α] in
theorem fh.ext{S:Nat->Prop}{w':Wd}(h:fh w.heap enc r m)(x:Ext S w w')(hS:¬ S r):fh w'.heap enc r m:=by
 obtain⟨es,clock,hb,he,hB⟩:=h;exact⟨es,clock,by rw[x.au r (by rcases Nat.lt_or_ge r w.heap.size with k | k;exact k;rw[Array.getElem?_eq_none k]at hb;cases hb) hS];exact hb,he,hB⟩
theorem GB{k:IntKind}(hk:P.underlying kt=some (.int k)):oT P kt (fun a:Int=>Value.int k a):=by
 refine⟨fun b a w=>?_,fun a es m w he=>?_,fun a=>by simp[Instr.sameBits]⟩
 .rw[show(10000:Nat)=9999+1 from rfl,Instr.checkKey];simp only[Sem.run_bind,aE hk,Result.andThen_ok];rfl
 .have:∀(es:List MapEntry)(m:List (Int×Value))(i:Nat),es.map (fun e=>(e.key,e.val))=m.map (fun p=>(Value.int k p.1,p.2))->Instr.findNow (.int k) (.int k a) es i=some (gq a m i):=by
   intro es
   induction es with
   | nil=>intro m i h;cases m with | nil=>rfl | cons=>cases h
   | cons e es ih=>
    intro m i h
    cases m with
    | nil=>cases h
    | cons p m=>
     simp only[List.map_cons,List.cons.injEq,Prod.mk.injEq]at h;unfold Instr.findNow gq;rw[h.1.1];simp only[Instr.sameNow,if_true];by_cases Nt:a=p.1
     .simp[Nt,h.1.2]
     .rw[show(a == p.1)=false by simp[Nt],if_neg Nt];exact ih m (i+1) h.2
  simp[Instr.findKey,aE hk,this es m 0 he]
theorem QK(a b:ByteArray):(a == b)=decide (a=b):=by
 obtain⟨a⟩:=a;obtain⟨b⟩:=b;show(a == b)=_;by_cases h:a=b
 .subst h;simp
 .rw[decide_eq_false (by simpa using h)];simpa using h
theorem TL(hk:P.underlying kt=some .string):oT P kt (fun a:ByteArray=>Value.string a):=by
 refine⟨fun b a w=>?_,fun a es m w he=>?_,fun a=>by simp[Instr.sameBits,QK]⟩
 .rw[show(10000:Nat)=9999+1 from rfl,Instr.checkKey];simp only[Sem.run_bind,aE hk,Result.andThen_ok];rfl
 .have:∀(es:List MapEntry)(m:List (ByteArray×Value))(i:Nat),es.map (fun e=>(e.key,e.val))=m.map (fun p=>(Value.string p.1,p.2))->Instr.findNow .string (.string a) es i=some (gq a m i):=by
   intro es
   induction es with
   | nil=>intro m i h;cases m with | nil=>rfl | cons=>cases h
   | cons e es ih=>
    intro m i h
    cases m with
    | nil=>cases h
    | cons p m=>
     simp only[List.map_cons,List.cons.injEq,Prod.mk.injEq]at h;unfold Instr.findNow gq;rw[h.1.1];simp only[Instr.sameNow,QK];by_cases Nt:a=p.1
     .simp[Nt,h.1.2]
     .simp only[Nt,decide_false,if_false];exact ih m (i+1) h.2
  simp[Instr.findKey,aE hk,this es m 0 he]
end
section
variable {P:Program} {w:Wd} {mt kt et:TypeId} {r it clock:Nat} {es:Array MapEntry} {seen:Array Nat}
theorem Oq(ht:P.underlying mt=some (.map kt et))(h:w.heap[r]? = some (.map es clock)):∃w',(Instr.range mt (.map (some r))).run P w = .ok (.pointer (some ⟨w.heap.size,0,none⟩)) w'/\Bk w (.mapIter (some r) clock #[] clock) w.heap.size w':=by
 refine⟨_,?_,rfl,rfl⟩;simp[Instr.range,aE ht,ew h,newObj,Sem.run];rfl
theorem IY{n:Nat}(h:1<=n):∃i w',(choose (.mapNext n)).run P w = .ok i w'/\i < n/\w'.heap=w.heap/\Ext No w w':=by
 rcases Nat.lt_or_ge 1 n with h1 | h1
 .refine⟨w.tape w.drawn (.mapNext n) % n,aa w,?_,Nat.mod_lt _ (by omega),rfl,(Ext.refl _ _).drew⟩;simp[choose,Sem.run,Question.forced,Question.cut,aa,show ¬ n<=1 by omega]
 .refine⟨0,w,?_,by omega,rfl,Ext.refl _ _⟩;simp[choose,Sem.run,Question.forced,h1]
theorem QL(hi:w.heap[it]? = some (.mapIter (some r) clock seen clock))(h:w.heap[r]? = some (.map es clock))(hB:db es.toList clock) :
  ((∀e∈es.toList,e.born∈seen.toList)/\∃w',(Instr.next (.pointer (some ⟨it,0,none⟩)) false 0).run P w = .ok (.tuple #[.bool false]) w'/\Ext No w w')∨
  ∃e∈es.toList,e.born ∉ seen.toList/\∃w',(Instr.next (.pointer (some ⟨it,0,none⟩)) false 0).run P w = .ok (.tuple #[.bool true,e.key,e.val]) w'/\w'.heap[it]? = some (.mapIter (some r) clock (seen.push e.born) clock)/\Ext (·=it) w w':=by
 have Vp:(!seen.isEmpty && !es.isEmpty && es.all (fun e=>decide (e.born≥clock)))=false:=by
  cases he:es.isEmpty with
  | true=>simp
  | false=>
   have dz:es.size≠0:=by simpa using he
   have:es.all (fun e=>decide (e.born≥clock))=false:=by
    rw[Array.all_eq_false];refine⟨0,by omega,?_⟩;have:=hB.2 es[0] (by simp);simp;omega
   simp[this]
 have hgi:(getObj it).run P w = .ok (.mapIter (some r) clock seen clock) w:=by simp[getObj,Sem.run,hi]
 have hold:∀e∈(es.filter fun e=>!seen.contains e.born),decide (e.born < clock)=true:=fun e he=>by
  have:=(Array.mem_filter.1 he).1;have:=hB.2 e (by simpa using this);simpa using this
 have h1:(es.filter fun e=>!seen.contains e.born).filter (fun e=>decide (e.born < clock))=es.filter fun e=>!seen.contains e.born:=Array.filter_eq_self.2 hold
 have h2:(es.filter fun e=>!seen.contains e.born).filter (fun e=>decide (e.born≥clock))=#[]:=Array.filter_eq_empty_iff.2 fun e he=>by
  have:=hold e he;simp at this ⊢;omega
 generalize Nu:(es.filter fun e=>!seen.contains e.born)=left at *;rcases Nat.eq_zero_or_pos left.size with h0 | h0
 .refine .inl ⟨fun e he=>?_,?_⟩
  .have hm:e ∉ left:=by rw[Array.eq_empty_of_size_eq_zero h0];simp
   rw[<- Nu,Array.mem_filter]at hm;simp only[Array.mem_toList_iff]at he ⊢;simpa[he] using hm
  .obtain⟨i,w',hc,aV,_,hx⟩:=IY (P:=P) (w:=w) (n:=1) (Nat.le_refl _);have hi0:i=0:=by omega
   subst hi0;have he0:left=#[]:=Array.eq_empty_of_size_eq_zero h0;refine⟨w',?_,hx⟩;simp only[Instr.next,Sem.run_bind,Result.andThen_ok,hgi,ew h,Vp,Bool.false_eq_true,if_false,Nu,h1,h2];subst he0;simp[hc,-run_choose]
 .obtain⟨i,w',hc,aV,hh,hx⟩:=IY (P:=P) (w:=w) (n:=left.size) h0;have dz:left.isEmpty=false:=by simpa using(fun h=>by rw[h]at h0;simp at h0:¬ left=#[])
  have jz:left[i]∈es.filter fun e=>!seen.contains e.born:=by rw[Nu];exact Array.getElem_mem aV
  have hm:=Array.mem_filter.1 jz;refine .inr ⟨left[i],by simpa using hm.1,by simpa using hm.2,World.cY w' it (.mapIter (some r) clock (seen.push left[i].born) clock),?_,?_,?_⟩
  .have yo:∀o,(setObj it o).run P w' = .ok () (World.cY w' it o):=fun o=>by simp[setObj,Sem.run,World.cY,hh,hi]
   simp only[Instr.next,Sem.run_bind,Result.andThen_ok,hgi,ew h,Vp,Bool.false_eq_true,if_false,Nu,h1,h2];simp[dz,hc,yo,aV,-run_choose]
  .exact dY (by rw[hh];exact hi)
  .exact hx.aF.trans (nI.ext rfl) fun _ _ h=>h
theorem Ot{e:MapEntry}(hi:w.heap[it]? = some (.mapIter (some r) clock (seen.push e.born) clock))(h:w.heap[r]? = some (.map es clock))(hB:db es.toList clock)(he:e∈es.toList):(Instr.entry (.pointer (some ⟨it,0,none⟩))).run P w = .ok (.tuple #[e.key,e.val]) w:=by
 have hgi:(getObj it).run P w = .ok (.mapIter (some r) clock (seen.push e.born) clock) w:=by simp[getObj,Sem.run,hi]
 have hf:es.find? (fun x=>x.born == e.born)=some e:=by
  rw[<- Array.find?_toList];have hn:=hB.1
  revert he hn
  generalize es.toList=l;intro he hn
  induction l with
  | nil=>cases he
  | cons x l ih=>
   simp only[List.map_cons,List.nodup_cons]at hn;rcases List.mem_cons.1 he with h' | h'
   .subst h';simp
   .have:x.born≠e.born:=fun h2=>hn.1 (h2 ▸ List.mem_map.2 ⟨e,h',rfl⟩)
    rw[List.find?_cons_of_neg (by simpa using this)];exact ih h' hn.2
 simp[Instr.entry,hgi,ew h,hf]
end
end Go.V
namespace Go.V.Dk
open Go.V
structure DS where
 now:List (List Int)
 gC:List (List Int)
 waits:List (Int×List Int)
 steps:Int
 fail:Int
 cut:Int
 down:Bool
abbrev Row(r:List Int):Prop:=r.length=256/\B8 r
structure WF(D:DS):Prop where
 n:D.gC.length=D.now.length
 lo:8<=D.now.length
 hi:D.now.length<=4096
 rn:∀r∈D.now,Row r
 rf:∀r∈D.gC,Row r
 rw:∀p∈D.waits,0<=p.1/\p.1 < D.now.length/\Row p.2
 fl:0<=D.fail/\D.fail<=9223372036854775807
 ct:-1<=D.cut/\D.cut<=9223372036854775807
def gD(r:List Int):List Value:=r.map (Value.int .u8)
def PS(p:Int×List Int):List Value:= .int .i64 p.1::p.2.map (Value.int .u8)
def bW:List Int:=List.replicate 256 0
def nO(n:Nat):DS:=⟨List.replicate n bW,List.replicate n bW,[],0,0,-1,false⟩
def hasB(D:DS)(i:Int):Bool:=decide (0<=i/\i < D.now.length)
def cj(D:DS):Int×DS:=
 if D.down=true∨D.cut=0 then(81,{ D with down:=true })
 else if D.fail > 0 then(if D.fail=1 then 80 else 0,{ D with cut:=if D.cut > 0 then D.cut - 1 else D.cut,steps:=D.steps+1,fail:=D.fail - 1 })
 else(0,{ D with cut:=if D.cut > 0 then D.cut - 1 else D.cut,steps:=D.steps+1 })
def nP(D:DS)(i:Int)(r:List Int):DS:={ D with now:=D.now.set i.toNat r,waits:=D.waits++[(i,r)] }
def FM(D:DS):DS:={ D with gC:=D.now,waits:=[] }
def nQ(r:List Int)(o:Nat)(bs:List Int):List Int:=r.take o++(bs++r.drop (o+bs.length))
def jI(D:DS)(i:Int)(at_:Nat)(bs:List Int):DS:=
 { D with now:=D.now.set i.toNat (nQ (D.now.getD i.toNat []) at_ bs),gC:=D.gC.set i.toNat (nQ (D.gC.getD i.toNat []) at_ bs) }
theorem Bq:Row bW:=⟨by unfold bW;rw[List.length_replicate],fun x hx=>by unfold bW at hx;rw[List.mem_replicate]at hx;omega⟩
theorem iD{l:List (List Int)}(h:∀r∈l,Row r):∀r∈l,(gD r).length=256:=fun r hr=>by simp[gD,(h r hr).1]
theorem TM{l:List (Int×List Int)}{n:Int}(h:∀p∈l,0<=p.1/\p.1 < n/\Row p.2):∀p∈l,(PS p).length=257:=fun p hp=>by simp[PS,(h p hp).2.2.1]
theorem l_{l:List (List Int)}(h:∀r∈l,Row r){i:Nat}(hi:i < l.length):Row (l.getD i []):=by
 have:l.getD i []=l[i]:=by simp[List.getD,hi]
 rw[this];exact h _ (List.getElem_mem hi)
theorem uv{l:List (List Int)}(h:∀r∈l,Row r){i:Nat}{r:List Int}(hr:Row r):∀x∈l.set i r,Row x:=fun x hx=>by
 rcases List.mem_or_eq_of_mem_set hx with h' | rfl
 .exact h x h'
 .exact hr
theorem TN{n:Nat}(h:8<=n/\n<=4096):WF (nO n):=by
 refine⟨by simp[nO],by simp[nO];omega,by simp[nO];omega,fun r hr=>?_,fun r hr=>?_,fun p hp=>by simp[nO]at hp,by simp[nO],by simp[nO]⟩
 .simp[nO]at hr;rw[hr.2];exact Bq
 .simp[nO]at hr;rw[hr.2];exact Bq
theorem Ou(D:DS):(cj D).2.now=D.now/\(cj D).2.gC=D.gC/\(cj D).2.waits=D.waits:=by
 unfold cj;split
 .exact⟨rfl,rfl,rfl⟩
 .split <;> exact⟨rfl,rfl,rfl⟩
theorem QN{D:DS}(h:WF D){i:Int}{r:List Int}(hi:0<=i/\i < D.now.length)(hr:Row r):WF (nP D i r):=by
 refine⟨by simp[nP,h.n],by simp[nP,h.lo],by simp[nP,h.hi],uv h.rn hr,h.rf,fun p hp=>?_,h.fl,h.ct⟩;simp only[nP,List.length_set];rcases List.mem_append.1 hp with hp | hp
 .exact h.rw p hp
 .simp at hp;subst hp;exact⟨hi.1,hi.2,hr⟩
theorem TO{D:DS}(h:WF D):WF (FM D):=⟨rfl,h.lo,h.hi,h.rn,h.rn,fun p hp=>by simp[FM]at hp,h.fl,h.ct⟩
theorem rL{r:List Int}{o:Nat}{bs:List Int}(h:Row r)(hb:B8 bs)(hle:o+bs.length<=256):Row (nQ r o bs):=by
 refine⟨by simp[nQ,h.1];omega,?_⟩;exact(h.2.take o).append (hb.append (h.2.drop _))
theorem Ly{D:DS}(h:WF D){i:Int}{at_:Nat}{bs:List Int}(hi:0<=i/\i < D.now.length)(hb:B8 bs)(hle:at_+bs.length<=256):WF (jI D i at_ bs):=by
 have hn:=h.n;refine⟨by simp[jI,h.n],by simp[jI,h.lo],by simp[jI,h.hi],uv h.rn (rL (l_ h.rn (by omega)) hb hle),uv h.rf (rL (l_ h.rf (by omega)) hb hle),fun p hp=>?_,h.fl,h.ct⟩;simp only[jI,List.length_set];exact h.rw p hp
end Go.V.Dk
namespace Go.V.Rn
open Go.V
abbrev fP:=Int×Int
def gr(l:List fP)(i:Nat):fP:=l.getD i (0,0)
def rc(l:List fP):List Value:=l.flatMap fun r=>[.int .u32 r.1,.int .u32 r.2]
theorem wL:∀l:List fP,(rc l).length=l.length * 2
 | []=>rfl
 | r::l=>by have:=wL l;simp only[rc,List.flatMap_cons,List.length_append,List.length_cons,List.length_nil]at this ⊢;omega
theorem QO(l m:List fP):rc (l++m)=rc l++rc m:=by simp[rc]
theorem Lz:∀(l:List fP),∀v∈rc l,cn v=true:=by
 intro l v hv;simp only[rc,List.mem_flatMap]at hv;obtain⟨r,_,h⟩:=hv;simp at h;rcases h with rfl | rfl <;> rfl
theorem GC(r:fP)(l:List fP)(i:Nat):gr (r::l) (i+1)=gr l i:=by simp[gr]
theorem CG(r:fP)(l:List fP):gr (r::l) 0=r:=by simp[gr]
theorem QP:∀(l:List fP)(i:Nat),i < l.length->(rc l)[i * 2]? = some (.int .u32 (gr l i).1)/\(rc l)[i * 2+1]? = some (.int .u32 (gr l i).2)
 | [],i,h=>by simp at h
 | r::l,0,_=>by simp[rc,gr]
 | r::l,i+1,h=>by
  have:=QP l i (by simpa using h);simp only[rc,List.flatMap_cons,GC]at this ⊢;rw[show(i+1) * 2=i * 2+2 by omega,show i * 2+2+1=(i * 2+1)+2 by omega];exact this
def EF(l:List fP):Prop:=∀r∈l,0<=r.1/\r.1<=4294967295/\0<=r.2/\r.2<=4294967295
theorem EF.get{l:List fP}(h:EF l)(i:Nat):0<=(gr l i).1/\(gr l i).1<=4294967295/\0<=(gr l i).2/\(gr l i).2<=4294967295:=by
 rcases Nat.lt_or_ge i l.length with aV | ym
 .have:gr l i=l[i]:=by simp[gr,List.getD,aV]
  rw[this];exact h _ (List.getElem_mem _)
 .simp[gr,List.getD,List.getElem?_eq_none ym]
theorem IZ{l:List fP}{j:Nat}(h:j < l.length):l.drop j=gr l j::l.drop (j+1):=by
 rw[List.drop_eq_getElem_cons h];simp[gr,List.getD,h]
def kY:Int->List fP->Bool
 | _,[]=>true
 | e,r::l=>decide (r.1 < r.2) && (decide (e < r.1) && kY r.2 l)
def cA(l:List fP):Bool:=kY (-1) l
def pe(l:List fP)(j:Nat):Int:=if j=0 then -1 else(gr l (j - 1)).2
theorem TP(l:List fP)(j:Nat):pe l (j+1)=(gr l j).2:=by simp[pe]
def placeN(p:Int):List fP->Nat
 | []=>0
 | r::l=>if p < r.2 then 0 else placeN p l+1
def hasB(p:Int)(l:List fP):Bool:=l.any fun r=>decide (p≥r.1) && decide (p < r.2)
def LA(a b:Int):List fP:=if a≥b then[] else[(a,b)]
theorem pO:∀{e:Int}{l:List fP},kY e l=true->∀r∈l,e < r.1/\r.1 < r.2
 | e,[],_,r,hr=>by cases hr
 | e,r0::l,h,r,hr=>by
  simp only[kY,Bool.and_eq_true,decide_eq_true_eq]at h;rcases List.mem_cons.1 hr with rfl | hr
  .exact⟨h.2.1,h.1⟩
  .have:=pO h.2.2 r hr;exact⟨by omega,this.2⟩
theorem FN:∀{e:Int}{l:List fP}{p:Int},kY e l=true->hasB p l=(decide (placeN p l < l.length) && decide (p≥(gr l (placeN p l)).1))
 | e,[],p,_=>by simp[hasB,placeN]
 | e,r::l,p,h=>by
  simp only[kY,Bool.and_eq_true,decide_eq_true_eq]at h;by_cases hp:p < r.2
  .have Zw:(l.any fun r=>decide (p≥r.1) && decide (p < r.2))=false:=by
    rw[List.any_eq_false];intro x hx;have:=pO h.2.2 x hx;simp;intro;omega
   simp[hasB,placeN,hp,Zw,CG]
  .have ih:=FN (p:=p) h.2.2;simp only[hasB,List.any_cons,hp,decide_false,Bool.and_false,Bool.false_or,placeN,if_false,List.length_cons,Nat.add_lt_add_iff_right,GC]at ih ⊢;exact ih
end Go.V.Rn
namespace Go.V.Rn
open Go.V
def yr(l:List fP)(i:Nat)(z:Int):List fP:=l.set i ((gr l i).1,z)
theorem FO(l:List fP)(i:Nat)(z:Int):(yr l i z).length=l.length:=by simp[yr]
theorem I2:∀(l:List fP)(i:Nat)(z:Int),i < l.length->rc (yr l i z)=(rc l).set (i * 2+1) (.int .u32 z)
 | [],i,z,h=>by simp at h
 | r::l,0,z,_=>by simp[yr,rc,CG]
 | r::l,i+1,z,h=>by
  have:=I2 l i z (by simpa using h);simp only[yr,List.set_cons_succ,GC,rc,List.flatMap_cons]at this ⊢;rw[this,show(i+1) * 2+1=(i * 2+1)+2 by omega];rfl
def Ao(l:List fP):Int:=(gr l (l.length - 1)).2
def wM(l:List fP)(r:fP):List fP:=if 0 < l.length/\r.1<=Ao l then yr l (l.length - 1) (Ir (Ao l) r.2) else l++[r]
theorem I3{l:List fP}{r:fP}:(wM l r).length<=l.length+1:=by
 unfold wM;split <;> simp[FO]
def mM:List fP->List fP->List fP->List fP
 | out,[],[]=>out
 | out,a::as1,[]=>mM (wM out a) as1 []
 | out,[],b::bs=>mM (wM out b) [] bs
 | out,a::as1,b::bs=>if a.1<=b.1 then mM (wM out a) as1 (b::bs) else mM (wM out b) (a::as1) bs
termination_by _ a b=>a.length+b.length
def yt(a b:List fP):List fP:=mM [] a b
theorem EF.tail{r:fP}{l:List fP}(h:EF (r::l)):EF l:=fun x hx=>h x (List.mem_cons_of_mem _ hx)
theorem EF.head{r:fP}{l:List fP}(h:EF (r::l)):0<=r.1/\r.1<=4294967295/\0<=r.2/\r.2<=4294967295:=h r List.mem_cons_self
end Go.V.Rn
namespace Go.V.Rn
open Go.V
def qt:List fP->List fP
 | []=>[]
 | r::l=>LA (r.1+1) r.2++l
theorem Di:∀{e:Int}{l:List fP},kY e l=true->EF l->e<=4294967295->(l.length:Int) * 2<=4294967295 - e
 | e,[],_,_,he=>by simp;omega
 | e,r::l,h,hu,he=>by
  simp only[kY,Bool.and_eq_true,decide_eq_true_eq]at h;have hr:=hu.head;have:=Di h.2.2 hu.tail (by omega);simp only[List.length_cons];omega
theorem vt{l:List fP}(h:cA l=true)(hu:EF l):l.length<=2147483648:=by have:=Di h hu (by omega);omega
end Go.V.Rn
namespace Go.V.Pk
def numB(n:Nat):List Int:=if n < 128 then[(n:Int)] else((n % 128+128:Nat):Int)::numB (n / 128)
termination_by n
theorem yu{n:Nat}(h:n < 128):numB n=[(n:Int)]:=by rw[numB,if_pos h]
theorem CH{n:Nat}(h:128<=n):numB n=((n % 128+128:Nat):Int)::numB (n / 128):=by rw[numB,if_neg (by omega)]
theorem CI(n:Nat):B8 (numB n):=by
 induction n using Nat.strongRecOn with
 | _ n ih=>
  by_cases h:n < 128
  .rw[yu h];exact B8.cons (by omega) B8.nil
  .rw[CH (by omega)];exact B8.cons (by omega) (ih _ (by omega))
theorem I4:∀(k n:Nat),n < 128 ^ k->0 < k->(numB n).length<=k
 | 0,n,h,hk=>by omega
 | k+1,n,h,_=>by
  by_cases h1:n < 128
  .rw[yu h1];simp
  .rw[CH (by omega)];rw[Nat.pow_succ]at h
   have hk:0 < k:=by
    rcases Nat.eq_zero_or_pos k with rfl | h'
    .simp at h;omega
    .exact h'
   have:=I4 k (n / 128) (by omega) hk;simp;omega
theorem bQ{n:Nat}(h:n < 18446744073709551616):(numB n).length<=10:=I4 10 n (Nat.lt_of_lt_of_le h (by decide)) (by decide)
theorem TQ(n:Nat):numB n≠[]:=by
 by_cases h:n < 128
 .rw[yu h];simp
 .rw[CH (by omega)];simp
end Go.V.Pk
