/- Texts for LVaultNew, part 8. -/
import Derived.Laws.Strings
import Derived.Test.YtiigcapldngijaaGreatQn7
namespace Go.V
theorem cT{n:Nat}{x:Int}(h0:0<=x)(h1:x < 2 ^ n):(BitVec.ofInt n x).toNat=x.toNat:=by
 rw[BitVec.toNat_ofInt];rw[Int.emod_eq_of_lt h0 (by exact_mod_cast h1)]
theorem It{a b:Int}(ha:0<=a/\a<=18446744073709551615)(hb:0<=b/\b<=18446744073709551615):bI .and .u64 a b=((a.toNat &&& b.toNat:Nat):Int):=by
 show IntKind.u64.wrap ((BitVec.ofInt 64 a &&& BitVec.ofInt 64 b).toNat:Int)=_;rw[BitVec.toNat_and,cT ha.1 (by omega),cT hb.1 (by omega)];refine IntWalk.u64_in _ ⟨by omega,?_⟩;have:a.toNat &&& b.toNat<=a.toNat:=Nat.and_le_left;omega
theorem uJ{a b:Int}(ha:0<=a/\a<=18446744073709551615)(hb:0<=b/\b<=18446744073709551615):bI .or .u64 a b=((a.toNat ||| b.toNat:Nat):Int):=by
 show IntKind.u64.wrap ((BitVec.ofInt 64 a ||| BitVec.ofInt 64 b).toNat:Int)=_;rw[BitVec.toNat_or,cT ha.1 (by omega),cT hb.1 (by omega)];refine IntWalk.u64_in _ ⟨by omega,?_⟩;have:a.toNat ||| b.toNat < 2 ^ 64:=Nat.or_lt_two_pow (by omega) (by omega)
 omega
theorem Cq{n x:Int}{i:Nat}(hn:0<=n/\n < 2 ^ i)(hx:0<=x)(hb:n+x * 2 ^ i<=18446744073709551615):bI .or .u64 n (x * 2 ^ i)=n+x * 2 ^ i:=by
 have hp:(0:Int) < 2 ^ i:=Int.pow_pos (by omega);have hxx:0<=x * 2 ^ i:=Int.mul_nonneg hx (Int.le_of_lt hp);rw[uJ ⟨hn.1,by omega⟩ ⟨hxx,by omega⟩];obtain⟨m,rfl⟩:=Int.eq_ofNat_of_zero_le hn.1;obtain⟨y,rfl⟩:=Int.eq_ofNat_of_zero_le hx;have h1:m < 2 ^ i:=by exact_mod_cast hn.2
 have e1:((y:Int) * 2 ^ i).toNat=2 ^ i * y:=by
  have:((y:Int) * 2 ^ i)=((2 ^ i * y:Nat):Int):=by simp[Int.mul_comm]
  rw[this];rfl
 rw[e1,Int.toNat_natCast,Nat.or_comm,<- Nat.two_pow_add_eq_or_of_lt h1];simp[Int.add_comm,Int.mul_comm]
theorem EH{p:Int->Prop}(h:∀x:Fin 256,p (x.val:Int)){x:Int}(hx:0<=x/\x<=255):p x:=by
 have:=h ⟨x.toNat,by omega⟩;simpa[Int.toNat_of_nonneg hx.1] using this
theorem K1{x:Int}(hx:0<=x/\x<=255):bI .and .u8 x 127=x % 128:=EH (p:=fun x=>bI .and .u8 x 127=x % 128) (by decide +kernel) hx
theorem NF{x:Int}(hx:0<=x/\x<=255):bI .or .u8 x 128=x % 128+128:=EH (p:=fun x=>bI .or .u8 x 128=x % 128+128) (by decide +kernel) hx
theorem fdiv_pow{n:Int}{k b:Nat}:Int.fdiv n (2 ^ min k b)=n / 2 ^ min k b:=by
 rw[Int.fdiv_eq_ediv_of_nonneg];exact Int.le_of_lt (Int.pow_pos (by omega))
theorem aj.no{w:Wd}{b o:Nat}{v:Value}(h:cM w.heap b o=some v):aj (Ext No w) ⟨b,o,none⟩ v:=fun w' e=>by
 rw[fE,pM (e.aw b (qN h) id)];exact h
theorem aj.cell{w:Wd}{b o:Nat}{v:Value}(h:Cell w ⟨b,o,none⟩ v):aj (Ext No w) ⟨b,o,none⟩ v:=aj.no (by rw[<- fE];exact h)
theorem aj.aF{S:Nat->Prop}{w:Wd}{b o:Nat}{v:Value}(h:Cell w ⟨b,o,none⟩ v)(hb:¬ S b):aj (Ext S w) ⟨b,o,none⟩ v:=fun w' e=>by
 have h':cM w.heap b o=some v:=by rw[<- fE];exact h
 rw[fE,pM (e.aw b (qN h') hb)];exact h'
theorem Rd.lt{h:Array Obj}{s:Sl}{sz b:Nat}{cs:List Value}(r:Rd h s sz cs)(du:cs≠[])(hb:s.aw=some b):b < h.size:=by
 obtain⟨b',off,ha,hc⟩:=r.at_ du;simp[Sl.aw,ha]at hb;subst hb;exact qN (hc 0 (List.length_pos_iff.2 du))
theorem aH.mk{w:Wd}{b o:Nat}{cs:List Value}{T:TypeId}{v:Value}{K:Pw}(hb:w.heap[b]? = some (.cells cs.toArray T (0,0)))(ho:o < cs.length)(hv:cB v=true)
  (k:∀w',mG w b (.cells (cs.set o v).toArray T (0,0)) w'->K w'):aH w ⟨b,o,none⟩ v K:=
 ⟨cs.toArray,T,(0,0),hb,rfl,by simpa using ho,.inr (.inr (Nat.le_refl _)),hv,fun w' hw=>k w' hw⟩
theorem Cell.af{w:Wd}{b o:Nat}{v:Value}{cs:List Value}{T:TypeId}{fz:Nat×Nat}(h:w.heap[b]? = some (.cells cs.toArray T fz))(hc:cs[o]? = some v):Cell w ⟨b,o,none⟩ v:=
 Cell.aw h (by simpa using hc)
def C_(l:List Int):List UInt8:=l.map fun n=>UInt8.ofNat n.toNat
theorem mH.mk{C:Addr->Value->Prop}{w:Wd}{s:Sl}{l:List Int}{K:ByteArray->Prop}(h:Rd w.heap s 1 (l.map (Value.int .u8)))(hC:∀b o v,cM w.heap b o=some v->C ⟨b,o,none⟩ v)
  (k:K ⟨(C_ l).toArray⟩):mH C s K:=by
 refine⟨C_ l,⟨by simpa[C_] using h.len,fun i hi=>?_,fun hn=>?_⟩,k⟩
 .simp only[C_,List.length_map]at hi;obtain⟨b,off,ha,hc⟩:=h.at_ (by intro e;simp at e;subst e;simp at hi);refine⟨_,l[i],ha,?_,by simp[C_]⟩;rw[ay rfl];exact hC _ _ _ (by have:=hc i (by simpa using hi);rw[List.getElem_map]at this;exact this)
 .have:l=[]:=Classical.byContradiction fun du=>by
   obtain⟨b,off,ha,_⟩:=h.at_ (by simpa using du);rw[hn]at ha;cases ha
  subst this;rfl
theorem toList_mk(bs:List UInt8):ByteArray.toList ⟨bs.toArray⟩=bs:=by
 simp[ByteArray.toList_eq]
theorem Wi{l m:List Int}(hl:B8 l)(hm:B8 m):C_ l=C_ m ↔ l=m:=by
 constructor
 .intro h
  induction l generalizing m with
  | nil=>cases m with
   | nil=>rfl
   | cons y m=>simp[C_]at h
  | cons x l ih=>cases m with
   | nil=>simp[C_]at h
   | cons y m=>
    simp only[C_,List.map_cons,List.cons.injEq]at h;have h1:=hl x (by simp);have h2:=hm y (by simp)
    have e:x=y:=by
     have:=congrArg UInt8.toNat h.1;simp only[UInt8.toNat_ofNat']at this;omega
    subst e;rw[ih (hl.sub (by simp_all)) (hm.sub (by simp_all)) h.2]
 .intro h;rw[h]
end Go.V
set_option maxRecDepth 100000
namespace Go.V
abbrev By(x:Int):Prop:=0<=x/\x<=255
abbrev lO(x:Int):Prop:=0<=x/\x<=18446744073709551615
theorem By.mod(e:Int):By (e % 256):=by constructor <;> omega
theorem EI{m b:Nat}(hb:1<=b):Int.fdiv ((m:Nat):Int) (2 ^ min (Int.toNat 1) b)=((m / 2:Nat):Int):=by
 rw[fdiv_pow];have e:min (Int.toNat 1) b=1:=by show min 1 b=1;omega
 rw[e];omega
def xr(a b:Int):Int:=((a.toNat ^^^ b.toNat:Nat):Int)
theorem Iu(a b:Int):(xr a b).toNat=a.toNat ^^^ b.toNat:=Int.toNat_natCast _
theorem lP{a b:Int}(ha:By a)(hb:By b):By (xr a b):=by
 have:a.toNat ^^^ b.toNat < 2 ^ 8:=Nat.xor_lt_two_pow (by omega) (by omega);unfold xr;constructor <;> omega
theorem uK{a b:Int}(ha:lO a)(hb:lO b):lO (xr a b):=by
 have:a.toNat ^^^ b.toNat < 2 ^ 64:=Nat.xor_lt_two_pow (by omega) (by omega);unfold xr;constructor <;> omega
theorem bY{a b:Int}(ha:By a)(hb:By b):bI .xor .u8 a b=xr a b:=by
 show IntKind.u8.wrap ((BitVec.ofInt 8 a ^^^ BitVec.ofInt 8 b).toNat:Int)=_;rw[BitVec.toNat_xor,cT ha.1 (by omega),cT hb.1 (by omega)];exact IntWalk.u8_in _ (lP ha hb)
theorem eT{a b:Int}(ha:lO a)(hb:lO b):bI .xor .u64 a b=xr a b:=by
 show IntKind.u64.wrap ((BitVec.ofInt 64 a ^^^ BitVec.ofInt 64 b).toNat:Int)=_;rw[BitVec.toNat_xor,cT ha.1 (by omega),cT hb.1 (by omega)];exact IntWalk.u64_in _ (uK ha hb)
theorem Qz{x:Int}(hx:0<=x/\x<=255):bI .and .u8 x 1=x % 2:=EH (p:=fun x=>bI .and .u8 x 1=x % 2) (by decide +kernel) hx
theorem NG{x:Int}(hx:0<=x/\x<=255):bI .and .u32 x 1=x % 2:=EH (p:=fun x=>bI .and .u32 x 1=x % 2) (by decide +kernel) hx
def EJ(a:Nat):Nat:=if a / 128 % 2=1 then(2 * a % 256) ^^^ 27 else 2 * a % 256
def Wj:Nat->Nat->Nat->Nat->Nat
 | 0,_,_,c=>c
 | k+1,a,b,c=>if b=0 then c else Wj k (EJ a) (b / 2) (if b % 2=1 then c ^^^ a else c)
def gmN(a b:Nat):Nat:=Wj 8 a b 0
def gm(a b:Int):Int:=((gmN a.toNat b.toNat:Nat):Int)
def VI:Nat->Nat->Nat->Nat->Nat
 | 0,_,_,c=>c
 | k+1,a,n,c=>if n=0 then c else VI k (gmN a a) (n / 2) (if n % 2=1 then gmN c a else c)
def pw(a n:Int):Int:=((VI 8 a.toNat n.toNat 1:Nat):Int)
def Bk(b n:Nat):Nat:=(b * 2 ^ n % 256) ||| (b / 2 ^ (8 - n))
def acv(b:Nat):Nat:=b ^^^ Bk b 1 ^^^ Bk b 2 ^^^ Bk b 3 ^^^ Bk b 4 ^^^ 99
def sb(a:Int):Int:=((acv (VI 8 a.toNat 254 1):Nat):Int)
theorem rX{a b:Nat}(ha:a < 256)(hb:b < 256):a ^^^ b < 256:=Nat.xor_lt_two_pow (n:=8) ha hb
theorem Pt{a:Nat}:EJ a < 256:=by
 unfold EJ;split
 .exact rX (by omega) (by omega)
 .omega
theorem S8:∀{k a b c:Nat},a < 256->c < 256->Wj k a b c < 256
 | 0,_,_,_,_,hc=>hc
 | k+1,a,b,c,ha,hc=>by
  rw[Wj];split
  .exact hc
  .refine S8 Pt ?_;split
   .exact rX hc ha
   .exact hc
theorem NH{a b:Nat}(ha:a < 256):gmN a b < 256:=S8 ha (by decide)
theorem S9:∀{k a c:Nat},Wj k a 0 c=c
 | 0,_,_=>rfl
 | k+1,_,_=>by rw[Wj,if_pos rfl]
theorem NI:∀{k a n c:Nat},a < 256->c < 256->VI k a n c < 256
 | 0,_,_,_,_,hc=>hc
 | k+1,a,n,c,ha,hc=>by
  rw[VI];split
  .exact hc
  .refine NI (NH ha) ?_;split
   .exact NH hc
   .exact hc
theorem S_:∀{k a c:Nat},VI k a 0 c=c
 | 0,_,_=>rfl
 | k+1,_,_=>by rw[VI,if_pos rfl]
theorem Pu{a:Int}(b:Int)(ha:By a):By (gm a b):=by
 have:=NH (a:=a.toNat) (b:=b.toNat) (by omega);unfold gm;constructor <;> omega
theorem Ta{a:Int}(n:Int)(ha:By a):By (pw a n):=by
 have:=NI (k:=8) (a:=a.toNat) (n:=n.toNat) (c:=1) (by omega) (by decide);unfold pw;constructor <;> omega
theorem wh{b n:Nat}(hb:b < 256):Bk b n < 256:=by
 refine Nat.or_lt_two_pow (n:=8) (by omega) ?_;exact Nat.lt_of_le_of_lt (Nat.div_le_self _ _) hb
theorem Wk{b:Nat}(hb:b < 256):acv b < 256:=
 rX (rX (rX (rX (rX hb (wh hb)) (wh hb)) (wh hb)) (wh hb)) (by decide)
theorem HE{a:Int}(ha:By a):By (sb a):=by
 have:=Wk (NI (k:=8) (a:=a.toNat) (n:=254) (c:=1) (by omega) (by decide));unfold sb;constructor <;> omega
theorem Wl{a:Int}(ha:By a):bI .and .u8 a 128=(a / 128 % 2) * 128:=EH (p:=fun a=>bI .and .u8 a 128=(a / 128 % 2) * 128) (by decide +kernel) ha
theorem aaj{b:Int}(hb:By b)(n:Nat):bI .or .u8 (b * 2 ^ n % 256) (b / 2 ^ (8 - n))=((Bk b.toNat n:Nat):Int):=by
 have hp:(0:Int) < 2 ^ (8 - n):=Int.pow_pos (by decide);have h1:By (b * 2 ^ n % 256):=By.mod _
 have h2:By (b / 2 ^ (8 - n)):=⟨Int.ediv_nonneg hb.1 (Int.le_of_lt hp),Int.le_trans (Int.ediv_le_self _ hb.1) hb.2⟩
 show IntKind.u8.wrap ((BitVec.ofInt 8 _ ||| BitVec.ofInt 8 _).toNat:Int)=_;rw[BitVec.toNat_or,cT h1.1 (by have:=h1.2;omega),cT h2.1 (by have:=h2.2;omega)];obtain⟨m,rfl⟩:=Int.eq_ofNat_of_zero_le hb.1
 have e1:((m:Int) * 2 ^ n % 256).toNat=m * 2 ^ n % 256:=by
  have:((m:Int) * 2 ^ n % 256)=((m * 2 ^ n % 256:Nat):Int):=by simp
  rw[this];rfl
 have e2:((m:Int) / 2 ^ (8 - n)).toNat=m / 2 ^ (8 - n):=by
  have:((m:Int) / 2 ^ (8 - n))=((m / 2 ^ (8 - n):Nat):Int):=by simp
  rw[this];rfl
 rw[e1,e2];have:=wh (b:=m) (n:=n) (by have:=hb.2;omega);unfold Bk at this;exact IntWalk.u8_in _ ⟨by omega,by omega⟩
def rd:Nat->Nat->Nat
 | 0,p=>p
 | m+1,p=>rd m (if p / 2 ^ (m+8) % 2=1 then p ^^^ (283 * 2 ^ m) else p)
def tab(n:Nat)(f:Nat->Int):List Int:=(List.range n).map f
theorem aT(n:Nat)(f:Nat->Int):(tab n f).length=n:=by simp[tab]
theorem gj{n:Nat}{f:Nat->Int}{i:Nat}(h:i < n):(tab n f).getD i 0=f i:=by
 simp[tab,List.getD_eq_getElem?_getD,h]
theorem mK{l m:List Int}(hl:l.length=m.length)(h:∀i,i < l.length->l.getD i 0=m.getD i 0):l=m:=
 List.ext_getElem hl fun i h1 h2=>by
  have:=h i h1;simpa[List.getD_eq_getElem?_getD,h1,h2] using this
theorem zS{l:List Int}{n:Nat}(h:l.length=n):l=tab n fun i=>l.getD i 0:=
 mK (by rw[aT,h]) fun i hi=>by rw[gj (by omega)]
theorem dz{n:Nat}{f g:Nat->Int}(h:∀i,i < n->f i=g i):tab n f=tab n g:=
 mK (by rw[aT,aT]) fun i hi=>by rw[aT]at hi;rw[gj hi,gj hi,h i hi]
theorem uL(l:List Int)(i:Nat)(v:Int)(j:Nat)(hj:j < l.length):(l.set i v).getD j 0=if j=i then v else l.getD j 0:=by
 simp only[List.getD_eq_getElem?_getD,List.getElem?_set];by_cases h:i=j
 .subst h;simp[hj]
 .rw[if_neg h,if_neg (fun e=>h e.symm)]
theorem wi{n:Nat}{f g:Nat->Int}{i:Nat}{v:Int}(h:∀j,j < n->(if j=i then v else f j)=g j):(tab n f).set i v=tab n g:=
 mK (by rw[List.length_set,aT,aT]) fun j hj=>by
  rw[List.length_set,aT]at hj;rw[uL _ _ _ _ (by rw[aT];exact hj),gj hj,gj hj,h j hj]
theorem Iv{n:Nat}{f:Nat->Int}(h:∀i,i < n->By (f i)):B8 (tab n f):=fun x hx=>by
 simp only[tab,List.mem_map,List.mem_range]at hx;obtain⟨i,hi,rfl⟩:=hx;exact h i hi
abbrev ia(l:List Int):Prop:=l.length=16/\B8 l
theorem ia.tab{f:Nat->Int}(h:∀i,i < 16->By (f i)):ia (Go.V.tab 16 f):=⟨aT _ _,Iv h⟩
def Wm:List Int:=[2,3,1,1,1,2,3,1,1,1,2,3,3,1,1,2]
def NJ(rows c:List Int)(i:Nat):Nat->Int
 | 0=>0
 | n+1=>xr (NJ rows c i n) (gm (rows.getD (4 * i+n) 0) (c.getD n 0))
theorem NK{rows c:List Int}(h:B8 rows)(i:Nat):∀n,By (NJ rows c i n)
 | 0=>⟨Int.le_refl 0,by show(0:Int)<=255;decide⟩
 | n+1=>lP (NK h i n) (Pu _ (h.get _))
theorem Pv:B8 Wm:=by
 intro x hx;simp only[Wm,List.mem_cons,List.not_mem_nil,or_false]at hx;omega
def jw(c:List Int)(p:Nat):Int:=NJ Wm c p 4
theorem Wn(c:List Int)(p:Nat):By (jw c p):=NK Pv p 4
def mL(s:List Int)(q:Nat):List Int:=[s.getD (4 * q) 0,s.getD (4 * q+1) 0,s.getD (4 * q+2) 0,s.getD (4 * q+3) 0]
def Da(s w:List Int)(j:Nat):List Int:=tab 16 fun i=>xr (s.getD i 0) (w.getD (16 * j+i) 0)
def Iw(s:List Int):List Int:=tab 16 fun i=>sb (s.getD i 0)
def Wo(s:List Int):List Int:=tab 16 fun i=>s.getD (4 * ((i / 4+i % 4) % 4)+i % 4) 0
def QA(s:List Int):List Int:=tab 16 fun i=>jw (mL s (i / 4)) (i % 4)
def Wp(w:List Int)(last:Nat)(s:List Int)(j:Nat):List Int:=Da (if j < last then QA (Wo (Iw s)) else Wo (Iw s)) w j
def K3(w:List Int)(last:Nat)(s:List Int):Nat->List Int
 | 0=>Da s w 0
 | j+1=>Wp w last (K3 w last s j) (j+1)
def QB(w:List Int)(last:Nat)(s:List Int):List Int:=K3 w last s last
theorem wj{s w:List Int}(hs:B8 s)(hw:B8 w)(j:Nat):ia (Da s w j):=ia.tab fun i _=>lP (hs.get i) (hw.get _)
theorem Iy{s:List Int}(hs:B8 s):ia (Iw s):=ia.tab fun i _=>HE (hs.get i)
theorem Tb{s:List Int}(hs:B8 s):ia (Wo s):=ia.tab fun _ _=>hs.get _
theorem Iz(s:List Int):ia (QA s):=ia.tab fun _ _=>Wn _ _
theorem Wq{w s:List Int}{last:Nat}(hs:B8 s)(hw:B8 w)(j:Nat):ia (Wp w last s j):=by
 unfold Wp;refine wj ?_ hw j;split
 .exact(Iz _).2
 .exact(Tb (Iy hs).2).2
theorem IA{w s:List Int}{last:Nat}(hs:B8 s)(hw:B8 w):∀j,ia (K3 w last s j)
 | 0=>wj hs hw 0
 | j+1=>Wq (IA hs hw j).2 hw _
theorem Ws{w s:List Int}{last:Nat}(hs:B8 s)(hw:B8 w):ia (QB w last s):=IA hs hw _
def gw(k:Nat)(w:List Int)(i p:Nat):Int:=
 if i % k=0 then(if p=0 then xr (sb (w.getD (4 * (i - 1)+1) 0)) (pw 2 ((i / k - 1:Nat):Int)) else sb (w.getD (4 * (i - 1)+(p+1) % 4) 0))
  else if k=8/\i % 8=4 then sb (w.getD (4 * (i - 1)+p) 0) else w.getD (4 * (i - 1)+p) 0
def xo(k:Nat)(w:List Int)(i p:Nat):Int:=xr (gw k w i p) (w.getD (4 * (i - k)+p) 0)
def uM(key:List Int)(k:Nat):Nat->List Int
 | 0=>key
 | m+1=>uM key k m++tab 4 (xo k (uM key k m) (k+m))
theorem Ys{k:Nat}{w:List Int}(hw:B8 w)(i p:Nat):By (gw k w i p):=by
 unfold gw;split
 .split
  .exact lP (HE (hw.get _)) (Ta _ (by constructor <;> decide))
  .exact HE (hw.get _)
 .split
  .exact HE (hw.get _)
  .exact hw.get _
theorem Tc{k:Nat}{w:List Int}(hw:B8 w)(i p:Nat):By (xo k w i p):=lP (Ys hw i p) (hw.get _)
theorem Te{k:Nat}{w v:List Int}{i p:Nat}(hi:1<=i)(hp:p < 4)(h:∀j,j < 4 * i->w.getD j 0=v.getD j 0):gw k w i p=gw k v i p:=by
 unfold gw;rw[h (4 * (i - 1)+1) (by omega),h (4 * (i - 1)+(p+1) % 4) (by omega),h (4 * (i - 1)+p) (by omega)]
theorem K4{k:Nat}{w v:List Int}{i p:Nat}(hi:1<=i)(hk:1<=k)(hp:p < 4)(h:∀j,j < 4 * i->w.getD j 0=v.getD j 0):xo k w i p=xo k v i p:=by
 unfold xo;rw[Te hi hp h,h (4 * (i - k)+p) (by omega)]
theorem uN{key:List Int}{k:Nat}(h:key.length=4 * k):∀m,(uM key k m).length=4 * (k+m)
 | 0=>h
 | m+1=>by rw[uM,List.length_append,uN h m,aT];omega
theorem IB{key:List Int}{k:Nat}(h:B8 key):∀m,B8 (uM key k m)
 | 0=>h
 | m+1=>(IB h m).append (Iv fun _ _=>Tc (IB h m) _ _)
theorem zT{key:List Int}{k:Nat}(h:key.length=4 * k)(m:Nat):∀d i,i < 4 * (k+m)->(uM key k (m+d)).getD i 0=(uM key k m).getD i 0
 | 0,_,_=>rfl
 | d+1,i,hi=>by
  rw[<- zT h m d i hi,show m+(d+1)=(m+d)+1 by omega,uM];simp only[List.getD_eq_getElem?_getD];rw[List.getElem?_append_left (by rw[uN h];omega)]
theorem Tf{key:List Int}{k:Nat}(h:key.length=4 * k)(m i:Nat)(hi:i < 4 * k):(uM key k m).getD i 0=key.getD i 0:=by
 have:=zT h 0 m i (by omega)
 rwa [Nat.zero_add]at this
theorem QC{key:List Int}{k:Nat}(h:key.length=4 * k)(hk:1<=k){M t p:Nat}(h1:k<=t)(h2:t < k+M)(hp:p < 4):(uM key k M).getD (4 * t+p) 0=xo k (uM key k M) t p:=by
 obtain⟨m,rfl⟩ : ∃m,t=k+m:=⟨t - k,by omega⟩
 obtain⟨d,rfl⟩ : ∃d,M=(m+1)+d:=⟨M - (m+1),by omega⟩
 rw[zT h (m+1) d _ (by omega),uM]
 have e:(uM key k m++tab 4 (xo k (uM key k m) (k+m))).getD (4 * (k+m)+p) 0=xo k (uM key k m) (k+m) p:=by
  rw[<- gj (f:=xo k (uM key k m) (k+m)) hp];simp only[List.getD_eq_getElem?_getD];rw[List.getElem?_append_right (by rw[uN h];omega),uN h,show 4 * (k+m)+p - 4 * (k+m)=p by omega]
 rw[e];refine K4 (by omega) hk hp fun j hj=>?_
 rw[show m+1+d=m+(1+d) by omega,zT h m _ j hj]
def fo(key:List Int):List Int:=uM key (key.length / 4) (4 * (key.length / 4+7) - key.length / 4)
theorem EK{key:List Int}{k:Nat}(h:key.length=4 * k):(fo key).length=4 * (4 * (k+7)):=by
 unfold fo;rw[h,show 4 * k / 4=k by omega,uN h];omega
theorem NL{key:List Int}{k:Nat}(h:key.length=4 * k){i:Nat}(hi:i < 4 * k):(fo key).getD i 0=key.getD i 0:=by
 unfold fo;rw[h,show 4 * k / 4=k by omega,Tf h _ _ hi]
theorem K5{key:List Int}{k:Nat}(h:key.length=4 * k)(hk:1<=k){t p:Nat}(h1:k<=t)(h2:t < 4 * (k+7))(hp:p < 4):(fo key).getD (4 * t+p) 0=xo k (fo key) t p:=by
 unfold fo;rw[h,show 4 * k / 4=k by omega];exact QC h hk h1 (by omega) hp
theorem Bl{key:List Int}(h:B8 key):B8 (fo key):=IB h _
theorem Gu{P:Program}{w:Wd}{s:Sl}{sz k:Nat}{cs:List Value}(h:Rd w.heap s sz cs)(hk:k<=s.len):(Builtin.firstCells sz k s.v).run P w = .ok (cs.take (k * sz)).toArray w:=by
 have aak:=Rd.src (P:=P) (h.cut (lo:=0) (hi:=k) (mx:=s.cap) (Nat.zero_le _) hk (Nat.le_trans hk h.cap));have:=aak.get w rfl;simp only[Nat.zero_mul,List.drop_zero,Nat.sub_zero]at this;rw[<- this];obtain⟨a,n,c⟩:=s
 cases a with
 | none=>simp[Builtin.firstCells,h_]
 | some a=>
  have e:a.add 0=a:=rfl;simp[Builtin.firstCells,h_,e]
theorem Px{P:Program}{t t' e:TypeId}{ie:TypeInfo}{w:Wd}{d x:Sl}{b off sz:Nat}{row xs:List Value}{T:TypeId}{K:Int->Pw}
  (ht:P.underlying t=some (.slice e)) (hi:P.info? e=some ie) (rS:ie.size=sz) (hd:d.a=some ⟨b,off,none⟩) (hb:w.heap[b]? = some (.cells row.toArray T (0,0))) (hx:Rd w.heap x sz xs)
  (hle:off+min x.len d.len * sz<=row.length)
  (hk:∀w',mG w b (.cells (setL row off (xs.take (min x.len d.len * sz))).toArray T (0,0)) w'->K (min x.len d.len:Nat) w'):lN P t t' d x.v K w:=by
 have hlen:(xs.take (min x.len d.len * sz)).length=min x.len d.len * sz:=by
  rw[List.length_take,hx.len];exact Nat.min_eq_left (Nat.mul_le_mul_right _ (Nat.min_le_left _ _))
 refine⟨_,_,fun ty=>?_,hk _ rfl⟩;have h1:=Gu (P:=P) hx (k:=min x.len d.len) (Nat.min_le_left _ _);have wg:=rU (P:=P) (b:=b) (T:=T) (fz:=(0,0)) (xs.take (min x.len d.len * sz)) w row.toArray off 0 hb (by simp only[hlen,List.size_toArray];omega) (.inr (.inr (Nat.le_refl _))) (fun v hv=>hx.cells v (List.mem_of_mem_take hv));obtain⟨da,dl,dc⟩:=d;simp only at hd;subst hd;simp only[Nat.add_zero]at wg;simp only at h1 wg;have h2:(Builtin.firstCells sz (x.len.min dl) x.v).run P w = .ok (xs.take (min x.len dl * sz)).toArray w:=h1;simp[Builtin.copy_,aD ht,Builtin.lenOf,bL hi,rS,h2,wg,goInt]
theorem xO.mk{w:Wd}{e:TypeId}{zs:List Value}{bytes:Nat}{l c:Int}{K:Sl->Pw}(h0:0<=l)(h1:l<=c)(h2:c<=9223372036854775807)(h3:bytes * c<=281474976710656)
  (k:∀b w',Gq w (.cells (List.replicate c.toNat zs).flatten.toArray e) b w'->K ⟨some ⟨b,0,none⟩,l.toNat,c.toNat⟩ w'):xO w e zs bytes l c K:=⟨h0,h1,h2,h3,fun b w' h=>k b w' h⟩
theorem aP.make{w w':Wd}{b l c:Nat}{e:TypeId}{zs:List Value}(h:Gq w (.cells (List.replicate c zs).flatten.toArray e) b w')(hl:l<=c)(hz:∀v∈zs,cB v=true) :
  aP w'.heap w.heap.size e zs.length ⟨some ⟨b,0,none⟩,l,c⟩ (List.replicate l zs).flatten:=by
 have e1:List.replicate c zs=List.replicate l zs++List.replicate (c - l) zs:=by rw[List.replicate_append_replicate];congr 1;omega
 refine⟨by simp,.inr ⟨b,(List.replicate (c - l) zs).flatten,rfl,by rw[h.at_];exact Nat.le_refl _,?_,?_,hl⟩,?_⟩
 .rw[<- List.flatten_append,<- e1];exact h.get
 .rw[<- List.flatten_append,<- e1];simp
 .intro v hv;simp only[List.mem_flatten,List.mem_replicate]at hv;obtain⟨x,⟨_,rfl⟩,hx⟩:=hv;exact hz v hx
theorem aH.own{w:Wd}{base:Nat}{e:TypeId}{s:Sl}{cs:List Value}{i:Int}{v:Value}{K:Pw}(o:aP w.heap base e 1 s cs)(h0:0<=i)(h1:i < (s.len:Int))(hv:cB v=true)
  (k:∀w',aP w'.heap base e 1 s (cs.set i.toNat v)->Ext (fun b=>s.aw=some b) w w'->w'.heap.size=w.heap.size->K w'):Ix s.a s.len i 1 fun a=>aH w a v K:=by
 have hl:cs.length=s.len:=by simpa using o.len
 rcases o.is with⟨rfl,rfl⟩ | ⟨b,rest,ha,hle,hb,hc,iv⟩
 .simp at h1;omega
 .refine⟨_,ha,h0,h1,?_⟩;rw[ay rfl];simp only[Nat.zero_add,Nat.mul_one];refine aH.mk hb (by simp;omega) hv fun w' hw=>k w' ⟨by simpa using o.len,.inr ⟨b,rest,ha,hle,?_,by simpa using hc,iv⟩,fun u hu=>?_⟩ (hw.ext.mono fun j _ hj=>by subst hj;simp[Sl.aw,ha]) hw.size
  .rw[hw.get hb,List.set_append_left _ _ (by omega)]
  .rcases List.mem_or_eq_of_mem_set hu with h | h
   .exact o.cells u h
   .subst h;exact hv
section
variable {α:Type} {f:α->List Value} {n:Nat}
theorem cQ:∀{l:List α},(∀x∈l,(f x).length=n)->(l.flatMap f).length=l.length * n
 | [],_=>by simp
 | x::l,h=>by
  rw[List.flatMap_cons,List.length_append,h x List.mem_cons_self,cQ fun y hy=>h y (List.mem_cons_of_mem _ hy),List.length_cons,Nat.add_mul];omega
theorem K6:∀{l:List α}{i j:Nat}(_:∀x∈l,(f x).length=n)(hi:i < l.length)(_:j < n),(l.flatMap f)[i * n+j]? = (f l[i])[j]?
 | [],i,j,_,hi,_=>by simp at hi
 | x::l,0,j,h,hi,hj=>by
  have:=h x List.mem_cons_self;rw[List.flatMap_cons,Nat.zero_mul,Nat.zero_add,List.getElem?_append_left (by omega)];rfl
 | x::l,i+1,j,h,hi,hj=>by
  have h1:=h x List.mem_cons_self;have e:(i+1) * n+j=(f x).length+(i * n+j):=by rw[h1,Nat.add_mul];omega
  rw[List.flatMap_cons,e,List.getElem?_append_right (by omega),Nat.add_sub_cancel_left,K6 (fun y hy=>h y (List.mem_cons_of_mem _ hy)) (by simpa using hi) hj];rfl
theorem qp:∀(vs a b:List Value)(o:Nat),o+vs.length<=a.length->setL (a++b) o vs=setL a o vs++b
 | [],a,b,o,_=>rfl
 | v::vs,a,b,o,h=>by
  simp only[List.length_cons]at h;rw[setL,setL,List.set_append_left _ _ (by omega),qp vs _ _ _ (by simp;omega)]
theorem uO:∀(vs a b:List Value)(o:Nat),setL (a++b) (a.length+o) vs=a++setL b o vs
 | [],a,b,o=>rfl
 | v::vs,a,b,o=>by
  rw[setL,setL,List.set_append_right _ _ (by omega),Nat.add_sub_cancel_left,Nat.add_assoc,uO vs]
theorem qP(vs a:List Value)(h:vs.length=a.length):setL a 0 vs=vs:=by
 rw[lX _ _ _ (by omega)];simp[h]
theorem K7:∀{l:List α}{i o:Nat}{vs:List Value}{y:α}(_:∀x∈l,(f x).length=n)(hi:i < l.length)(_:o+vs.length<=n)(_:f y=setL (f l[i]) o vs),setL (l.flatMap f) (i * n+o) vs=(l.set i y).flatMap f
 | [],i,o,vs,y,_,hi,_,_=>by simp at hi
 | x::l,0,o,vs,y,h,hi,ho,hy=>by
  have:=h x List.mem_cons_self;rw[List.flatMap_cons,Nat.zero_mul,Nat.zero_add,qp _ _ _ _ (by omega),List.set_cons_zero,List.flatMap_cons,hy];rfl
 | x::l,i+1,o,vs,y,h,hi,ho,hy=>by
  have h1:=h x List.mem_cons_self;have e:(i+1) * n+o=(f x).length+(i * n+o):=by rw[h1,Nat.add_mul];omega
  rw[List.flatMap_cons,e,uO,K7 (fun y hy=>h y (List.mem_cons_of_mem _ hy)) (by simpa using hi) ho hy,List.set_cons_succ,List.flatMap_cons]
end
section
variable {w:Wd} {base:Nat} {e:TypeId} {sz:Nat} {s:Sl} {cs:List Value}
theorem aP.place{h:Array Obj}(o:aP h base e sz s cs)(du:cs≠[]):∃b rest,s.a=some ⟨b,0,none⟩/\base<=b/\h[b]? = some (.cells (cs++rest).toArray e (0,0))/\(cs++rest).length=s.cap * sz/\s.len<=s.cap:=by
 rcases o.is with⟨_,rfl⟩ | h
 .exact absurd rfl du
 .exact h
theorem aP.upd{w':Wd}{b off:Nat}{rest vs:List Value}(o:aP w.heap base e sz s cs)(ha:s.a=some ⟨b,0,none⟩)(hle:base<=b)(hb:w.heap[b]? = some (.cells (cs++rest).toArray e (0,0)))(hc:(cs++rest).length=s.cap * sz)(iv:s.len<=s.cap)
  (hw:mG w b (.cells (setL (cs++rest) off vs).toArray e (0,0)) w') (hv:∀v∈vs,cB v=true) (ho:off+vs.length<=cs.length) :
  aP w'.heap base e sz s (setL cs off vs)/\Ext (fun i=>s.aw=some i) w w'/\w'.heap.size=w.heap.size:=by
 refine⟨⟨by rw[jV];exact o.len,.inr ⟨b,rest,ha,hle,?_,?_,iv⟩,fun v h=>?_⟩,hw.ext.mono fun i _ hi=>by subst hi;simp[Sl.aw,ha],hw.size⟩
 .rw[hw.get hb,qp _ _ _ _ ho]
 .rw[List.length_append,jV,<- List.length_append];exact hc
 .rw[lX _ _ _ ho]at h;rcases List.mem_append.1 h with h | h
  .exact o.cells v (List.mem_of_mem_take h)
  .rcases List.mem_append.1 h with h | h
   .exact hv v h
   .exact o.cells v (List.mem_of_mem_drop h)
theorem bO.own{i:Int}{vs:List Value}{K:Pw}(o:aP w.heap base e sz s cs)(h0:0<=i)(h1:i < (s.len:Int))(hv:∀v∈vs,cB v=true)(hl:vs.length=sz)(rS:0 < sz)
  (k:∀w',aP w'.heap base e sz s (setL cs (i.toNat * sz) vs)->Ext (fun i=>s.aw=some i) w w'->w'.heap.size=w.heap.size->K w'):Ix s.a s.len i sz fun a=>bO w a vs K:=by
 have hlen:=o.len
 have hle:i.toNat * sz+sz<=cs.length:=by
  rw[hlen];have:(i.toNat+1) * sz<=s.len * sz:=Nat.mul_le_mul_right _ (by omega);rw[Nat.add_mul]at this;omega
 have du:cs≠[]:=by intro e;subst e;simp at hle;omega
 obtain⟨b,rest,ha,hba,hb,hc,iv⟩:=o.place du;refine⟨_,ha,h0,h1,?_⟩;rw[ay rfl];simp only[Nat.zero_add];refine⟨_,_,_,hb,rfl,by show i.toNat * sz+vs.length<=_;simp only[List.size_toArray,List.length_append];omega,.inr (.inr (Nat.le_refl _)),hv,fun w' hw=>?_⟩;obtain⟨a1,a2,a3⟩:=o.upd (off:=i.toNat * sz) ha hba hb hc iv hw hv (by omega);exact k w' a1 a2 a3
end
theorem Ix.elem{α:Type}{f:α->List Value}{n:Nat}{w:Wd}{s:Sl}{l:List α}{i:Int}{K:Addr->Prop}(h:Rd w.heap s n (l.flatMap f))(hf:∀x∈l,(f x).length=n)(hn:0 < n)(h0:0<=i)(h1:i < (s.len:Int))
  (k:∀b o (hi:i.toNat < l.length),s.aw=some b->(∀j v,(f l[i.toNat])[j]? = some v->Cell w ⟨b,o+j,none⟩ v)->K ⟨b,o,none⟩):Ix s.a s.len i n K:=by
 have hl:l.length=s.len:=by have:=h.len;rw[cQ hf]at this;exact Nat.eq_of_mul_eq_mul_right hn this
 have aN:i.toNat < l.length:=by omega
 have Py:=cQ hf
 have hle:i.toNat * n+n<=(l.flatMap f).length:=by
  rw[Py];have:(i.toNat+1) * n<=l.length * n:=Nat.mul_le_mul_right _ (by omega);rw[Nat.add_mul]at this;omega
 obtain⟨b,off,ha,hc⟩:=h.at_ (by intro e;rw[e]at hle;simp at hle;omega);refine⟨_,ha,h0,h1,?_⟩;rw[ay rfl];refine k b _ aN (by simp[Sl.aw,ha]) fun j v hv=>?_
 have hj:j < n:=by
  have:=hf _ (List.getElem_mem aN);rcases Nat.lt_or_ge j n with h | h
  .exact h
  .rw[List.getElem?_eq_none (by omega)]at hv;cases hv
 have hg:=K6 (i:=i.toNat) (j:=j) hf aN hj;rw[hv]at hg;obtain⟨acw,NM⟩:=List.getElem?_eq_some_iff.1 hg;refine Cell.mk ?_;simp only;rw[Nat.add_assoc,hc _ acw,NM]
theorem Cell.row{w:Wd}{b o i:Nat}{k:IntKind}{l:List Int}(h:∀j (hj:j < l.length),Cell w ⟨b,o+i+j,none⟩ (.int k l[j])):de (Cell w) ⟨b,o,none⟩ i k l:=by
 intro j hj;rw[ay rfl,<- Nat.add_assoc];exact h j hj
theorem aj.row{S:Pw}{b o i:Nat}{k:IntKind}{l:List Int}(h:∀j (hj:j < l.length),aj S ⟨b,o+i+j,none⟩ (.int k l[j])):de (aj S) ⟨b,o,none⟩ i k l:=by
 intro j hj;rw[ay rfl,<- Nat.add_assoc];exact h j hj
abbrev aA(h:Array Obj)(b:Nat)(T:TypeId)(k:IntKind)(l:List Int):Prop:=h[b]? = some (.cells (l.map (Value.int k)).toArray T (0,0))
section
variable {w w':Wd} {b:Nat} {T:TypeId} {k:IntKind} {l:List Int}
theorem aA.new(h:Gq w (.cells (List.map (Value.int k) l++[]).toArray T) b w'):aA w'.heap b T k l:=by
 have:=h.get;rwa [List.append_nil]at this
theorem aA.ext{S:Nat->Prop}(a:aA w.heap b T k l)(x:Ext S w w')(hb:¬ S b):aA w'.heap b T k l:=by
 have hl:b < w.heap.size:=(Array.getElem?_eq_some_iff.1 a).1;show w'.heap[b]? = _;rw[x.aw b hl hb];exact a
theorem aA.lt(a:aA w.heap b T k l):b < w.heap.size:=(Array.getElem?_eq_some_iff.1 a).1
theorem aA.xy(a:aA w.heap b T k l){i:Nat}(hi:i < l.length):Cell w ⟨b,i,none⟩ (.int k (l.getD i 0)):=Cell.af a (by simp[hi])
theorem aA.cell(a:aA w.heap b T k l){t:Int}(h0:0<=t)(h1:t < (l.length:Int)):Cell w ((Addr.mk b 0 none).add (Int.toNat t * 1)) (.int k (l.getD t.toNat 0)):=by
 rw[ay rfl];show Cell w ⟨b,0+t.toNat * 1,none⟩ _;rw[Nat.zero_add,Nat.mul_one];exact a.xy (by omega)
theorem aA.held{S:Nat->Prop}(a:aA w.heap b T k l)(hb:¬ S b){t:Int}(h0:0<=t)(h1:t < (l.length:Int)):aj (Ext S w) ((Addr.mk b 0 none).add (Int.toNat t * 1)) (.int k (l.getD t.toNat 0)):=by
 rw[ay rfl];show aj (Ext S w) ⟨b,0+t.toNat * 1,none⟩ _;rw[Nat.zero_add,Nat.mul_one];exact aj.aF (a.xy (by omega)) hb
theorem aA.row(a:aA w.heap b T k l):de (Cell w) (Addr.mk b 0 none) 0 k l:=Cell.row fun j hj=>by
 have:=a.xy hj;simp only[List.getD_eq_getElem?_getD,List.getElem?_eq_getElem hj,Option.getD_some]at this;simp only[Nat.zero_add];exact this
theorem aA.aal{S:Nat->Prop}(a:aA w.heap b T k l)(hb:¬ S b):de (aj (Ext S w)) (Addr.mk b 0 none) 0 k l:=aj.row fun j hj=>by
 have:=a.xy hj;simp only[List.getD_eq_getElem?_getD,List.getElem?_eq_getElem hj,Option.getD_some]at this;simp only[Nat.zero_add];exact aj.aF this hb
theorem aA.st{t z:Int}{K:Pw}(a:aA w.heap b T k l)(h0:0<=t)(h1:t < (l.length:Int))(hk:∀w',aA w'.heap b T k (l.set t.toNat z)->Ext (·=b) w w'->K w'):aH w ((Addr.mk b 0 none).add (Int.toNat t * 1)) (.int k z) K:=by
 rw[ay rfl];show aH w ⟨b,0+t.toNat * 1,none⟩ _ K;rw[Nat.zero_add,Nat.mul_one];refine aH.mk (cs:=l.map (Value.int k)) a (by simp;omega) rfl fun w' hw=>hk w' ?_ hw.ext
 have:=hw.get a
 rwa [<- List.map_set]at this
theorem aA.Tg{o:Nat}{z:Int}{K:Pw}(a:aA w.heap b T k l)(ho:o < l.length)(hk:∀w',aA w'.heap b T k (l.set o z)->Ext (·=b) w w'->K w'):aH w ⟨b,o,none⟩ (.int k z) K:=by
 refine aH.mk (cs:=l.map (Value.int k)) a (by simp;omega) rfl fun w' hw=>hk w' ?_ hw.ext
 have:=hw.get a
 rwa [<- List.map_set]at this
theorem aA.xT{l':List Int}{K:Pw}(a:aA w.heap b T k l)(hl:l'.length=l.length)(hk:∀w',aA w'.heap b T k l'->Ext (·=b) w w'->K w'):bO w (Addr.mk b 0 none) (List.map (Value.int k) l'++[]) K:=by
 refine⟨_,_,_,a,rfl,by show 0+_<=_;simp[hl],.inr (.inr (Nat.le_refl _)),fun v hv=>?_,fun w' hw=>hk w' ?_ hw.ext⟩
 .rw[List.append_nil]at hv;exact df v hv
 .have:=hw.get a
  have e:setL (l.map (Value.int k)) 0 (List.map (Value.int k) l'++[])=l'.map (Value.int k):=by
   rw[List.append_nil];exact qP _ _ (by simp[hl])
  simp only[e]at this;exact this
end
abbrev Co:=Nat->Bool
def co(l:List Int):Co:=fun i=>decide (i < 128) && (l.getD (i / 8) 0).toNat.testBit (7 - i % 8)
def cw(h l:Int):Co:=fun i=>if i < 64 then h.toNat.testBit (63 - i) else decide (i < 128) && l.toNat.testBit (127 - i)
def xc(a b:Co):Co:=fun i=>a i ^^ b i
def zc:Co:=fun _=>false
def dbl(y:Co):Co:=fun k=>decide (k < 128) && ((decide (k≠0) && y (k - 1)) ^^ (y 127 && decide (k=0∨k=1∨k=2∨k=7)))
def my(b:Co):Nat->Co
 | 0=>b
 | i+1=>dbl (my b i)
def mz(a b:Co):Nat->Co
 | 0=>zc
 | i+1=>if a i then xc (mz a b i) (my b i) else mz a b i
def mu(a b:Co):Co:=mz a b 128
theorem NN{h l h' l':Int}:cw (xr h h') (xr l l')=xc (cw h l) (cw h' l'):=by
 funext i;unfold cw xc;rw[Iu,Iu];by_cases hi:i < 64
 .simp only[if_pos hi,Nat.testBit_xor]
 .simp only[if_neg hi,Nat.testBit_xor]
  cases decide (i < 128) <;> simp
theorem Yt{h:Nat}(hh:h < 2 ^ 64){i:Nat}(hi:64<=i):h.testBit i=false:=Nat.testBit_lt_two_pow (Nat.lt_of_lt_of_le hh (Nat.pow_le_pow_right (by decide) hi))
theorem Wt:∀k:Fin 64,Nat.testBit 16212958658533785600 (63 - k.val)=decide (k.val=0∨k.val=1∨k.val=2∨k.val=7):=by decide +kernel
theorem acx{h l:Int}(hl:lO l):cw h l 127=decide (l % 2=1):=by
 unfold cw;rw[if_neg (by decide)];show(true && l.toNat.testBit 0)=_;rw[Bool.true_and,Nat.testBit_zero];congr 1;exact propext ⟨fun h=>by omega,fun h=>by omega⟩
theorem aam{h l:Int}(hh:lO h)(hl:lO l) :
    cw (if l % 2=1 then xr (h / 2) 16212958658533785600 else h / 2) (((l / 2).toNat ||| (h * 2 ^ 63 % 18446744073709551616).toNat:Nat):Int)=dbl (cw h l):=by
  obtain⟨m,rfl⟩:=Int.eq_ofNat_of_zero_le hh.1;obtain⟨n,rfl⟩:=Int.eq_ofNat_of_zero_le hl.1;have hm:m < 2 ^ 64:=by have:=hh.2;omega
  have hn:n < 2 ^ 64:=by have:=hl.2;omega
  have e1:((m:Int) * 2 ^ 63 % 18446744073709551616).toNat=m * 2 ^ 63 % 2 ^ 64:=by omega
  have e2:((n:Int) / 2).toNat=n / 2:=by omega
  have e3:((m:Int) / 2).toNat=m / 2:=by omega
  have aeT:=acx (h:=(m:Int)) hl;funext k;unfold dbl;rw[aeT,e1,e2];unfold cw;by_cases k1:k < 64
  · rw[if_pos k1,decide_eq_true (show k < 128 by omega),Bool.true_and];have eb:=Wt ⟨k,k1⟩;simp only at eb
    have ep:(decide (k≠0) && (if k - 1 < 64 then(m:Int).toNat.testBit (63 - (k - 1)) else decide (k - 1 < 128) && (n:Int).toNat.testBit (127 - (k - 1))))=(m / 2).testBit (63 - k):=by
      rw[if_pos (by omega),Nat.testBit_div_two];by_cases k0:k=0
      · subst k0;rw[Yt hm (by decide)];rfl
      · rw[decide_eq_true (by omega),Bool.true_and,Int.toNat_natCast];congr 1;omega
    rw[ep];by_cases o:(n:Int) % 2=1
    · rw[if_pos o,Iu,e3,Nat.testBit_xor,decide_eq_true o,Bool.true_and,<- eb];rfl
    · rw[if_neg o,e3,decide_eq_false o,Bool.false_and,Bool.xor_false]
  · rw[if_neg k1];by_cases k2:k < 128
    · rw [decide_eq_true k2,Bool.true_and,Bool.true_and,Int.toNat_natCast,Nat.testBit_or,Nat.testBit_div_two,Nat.testBit_mod_two_pow,Nat.testBit_mul_two_pow,
        decide_eq_true (show k≠0 by omega),Bool.true_and,decide_eq_false (show ¬(k=0∨k=1∨k=2∨k=7) by omega),Bool.and_false,Bool.xor_false]
      by_cases k3:k=64
      · subst k3;rw[if_pos (by decide),Yt hn (by decide)];simp
      · rw [if_neg (show ¬ k - 1 < 64 by omega),decide_eq_true (show k - 1 < 128 by omega),Bool.true_and,Int.toNat_natCast,
          decide_eq_false (show ¬ 63<=127 - k by omega),Bool.false_and,Bool.and_false,Bool.or_false]
        congr 1;omega
    · rw[decide_eq_false k2];rfl
def nb(c:Co)(o:Nat):Nat->Nat
 | 0=>0
 | n+1=>2 * nb c o n+(c (o+n)).toNat
def af(c:Co):List Int:=tab 16 fun j=>((nb c (8 * j) 8:Nat):Int)
theorem Yu(c:Co)(o:Nat):∀n,nb c o n < 2 ^ n
 | 0=>by show 0 < 2 ^ 0;decide
 | n+1=>by
  have:=Yu c o n;have:=Bool.toNat_le (c (o+n));rw[nb,Nat.pow_succ];omega
theorem Th(c:Co):B8 (af c):=Iv fun i _=>by
 have:=Yu c (8 * i) 8;constructor <;> omega
theorem Wu:∀v:Fin 256,nb (fun i=>v.val.testBit (7 - i)) 0 8=v.val:=by decide +kernel
theorem K8{c d:Co}{o p:Nat}:∀{n:Nat},(∀i,i < n->c (o+i)=d (p+i))->nb c o n=nb d p n
 | 0,_=>rfl
 | n+1,h=>by rw[nb,nb,K8 fun i hi=>h i (by omega),h n (by omega)]
theorem aan{l:List Int}(hl:l.length=16)(hb:B8 l):af (co l)=l:=by
 refine(dz fun j hj=>?_).trans (zS hl).symm;have hx:=hb.get j;have:=Wu ⟨(l.getD j 0).toNat,by omega⟩;simp only at this;rw[K8 (d:=fun i=>(l.getD j 0).toNat.testBit (7 - i)) (p:=0) fun i hi=>?_,this]
 .omega
 .unfold co;rw[decide_eq_true (by omega),Bool.true_and,show(8 * j+i) / 8=j by omega,Nat.zero_add];congr 1;omega
def Ti(h:Co):Nat->Co->List Int->Co
 | 0,c,_=>c
 | n+1,c,l=>Ti h n (mu (xc c (co l)) h) (l.drop 16)
theorem Tj{l m:List Int}(h:∀i,i < 16->l.getD i 0=m.getD i 0):co l=co m:=by
 funext i;unfold co;by_cases hi:i < 128
 .rw[h (i / 8) (by omega)]
 .rw[decide_eq_false hi];rfl
variable {α:Type} [DecidableEq α]
def jb(a:α):List (α×Value)->Nat->Option (Nat×Value)
 | [],_=>none
 | p::m,i=>if a=p.1 then some (i,p.2) else jb a m (i+1)
def l_(a:α):List (α×Value)->Option Value
 | []=>none
 | p::m=>if a=p.1 then some p.2 else l_ a m
def zU(a:α)(v:Value):List (α×Value)->List (α×Value)
 | []=>[(a,v)]
 | p::m=>if a=p.1 then(a,v)::m else p::zU a v m
def Db(a:α):List (α×Value)->List (α×Value)
 | []=>[]
 | p::m=>if a=p.1 then m else p::Db a m
structure uP(P:Program)(kt:TypeId)(enc:α->Value):Prop where
 ck:∀b a w,(Instr.checkKey b 10000 kt (enc a)).run P w = .ok () w
 fk:∀a (es:List MapEntry) (m:List (α×Value)) w,es.map (fun e=>(e.key,e.val))=m.map (fun p=>(enc p.1,p.2))->(Instr.findKey kt (enc a) es).run P w = .ok (jb a m 0) w
 st:∀a,Instr.sameBits 10000 (enc a) (enc a)=true
def cW(es:List MapEntry)(clock:Nat):Prop:=(es.map (·.born)).Nodup/\∀e∈es,e.born < clock
theorem cW.nil:cW [] 0:=⟨.nil,fun _ h=>nomatch h⟩
theorem cW.push{es:List MapEntry}{clock:Nat}(h:cW es clock)(k v:Value):cW (es++[{ key:=k,val:=v,born:=clock }]) (clock+1):=by
 refine⟨?_,fun e he=>?_⟩
 .rw[List.map_append];refine List.nodup_append.2 ⟨h.1,by simp,fun a ha b hb=>?_⟩;simp only[List.map_cons,List.map_nil,List.mem_singleton]at hb;obtain⟨e,he,rfl⟩:=List.mem_map.1 ha;have:=h.2 e he;omega
 .rcases List.mem_append.1 he with h1 | h1
  .have:=h.2 e h1;omega
  .rw[List.mem_singleton]at h1;subst h1;exact Nat.lt_succ_self _
theorem cW.as{es es':List MapEntry}{clock:Nat}(h:cW es clock)(e:es'.map (·.born)=es.map (·.born)):cW es' clock:=by
 refine⟨e ▸ h.1,fun x hx=>?_⟩;have:x.born∈es.map (·.born):=e ▸ List.mem_map.2 ⟨x,hx,rfl⟩;obtain⟨y,hy,hb⟩:=List.mem_map.1 this;rw[<- hb];exact h.2 y hy
theorem cW.sub{es es':List MapEntry}{clock:Nat}(h:cW es clock)(e:es'.Sublist es):cW es' clock:=⟨h.1.sublist (e.map _),fun x hx=>h.2 x (e.subset hx)⟩
def cY(h:Array Obj)(enc:α->Value)(r:Nat)(m:List (α×Value)):Prop:=∃es clock,h[r]? = some (.map es clock)/\es.toList.map (fun e=>(e.key,e.val))=m.map (fun p=>(enc p.1,p.2))/\cW es.toList clock
theorem oC(a:α):∀(m:List (α×Value))(i:Nat),(jb a m i).map Prod.snd=l_ a m
 | [],_=>rfl
 | p::m,i=>by
  unfold jb l_;split
  .rfl
  .exact oC a m (i+1)
theorem ma{a:α}{v:Value}:∀{m:List (α×Value)}{i:Nat},jb a m i=none->zU a v m=m++[(a,v)]/\Db a m=m
 | [],_,_=>⟨rfl,rfl⟩
 | p::m,i,h=>by
  unfold jb at h;split at h
  .cases h
  .rename_i hn;have:=ma (v:=v) h;unfold zU Db;rw[if_neg hn,if_neg hn,this.1,this.2];exact⟨rfl,rfl⟩
theorem xU{a:α}:∀{m:List (α×Value)}{i j:Nat}{u v:Value},jb a m i=some (j,u)->i<=j/\j - i < m.length/\zU a v m=m.set (j - i) (a,v)/\Db a m=m.eraseIdx (j - i)/\(m[j - i]?).map Prod.fst=some a
 | [],_,_,_,_,h=>by cases h
 | p::m,i,j,u,v,h=>by
  unfold jb at h;split at h
  .rename_i hn
   cases h
   refine⟨Nat.le_refl _,by simp,?_,?_,?_⟩
   .unfold zU;rw[if_pos hn];simp
   .unfold Db;rw[if_pos hn];simp
   .simp[hn]
  .rename_i hn;obtain⟨h1,h2,h3,h4,h5⟩:=xU (v:=v) h;have e:j - i=(j - (i+1))+1:=by omega
   refine⟨by omega,by simp;omega,?_,?_,?_⟩
   .unfold zU;rw[if_neg hn,h3,e];rfl
   .unfold Db;rw[if_neg hn,h4,e];rfl
   .rw[e];simpa using h5
theorem qq{β γ:Type}(f:β->γ):∀(l:List β)(i:Nat),(l.eraseIdx i).map f=(l.map f).eraseIdx i
 | [],_=>rfl
 | _::_,0=>rfl
 | x::l,i+1=>by simp[qq f l i]
section
variable {P:Program} {w:Wd} {mt kt et:TypeId} {enc:α->Value} {r:Nat} {m:List (α×Value)} {a:α}
theorem dB{es:Array MapEntry}{clock:Nat}(h:w.heap[r]? = some (.map es clock)):(getObj r).run P w = .ok (.map es clock) w:=by
 simp[getObj,Sem.run,h]
theorem rY{es:Array MapEntry}{clock:Nat}(o:Obj)(h:w.heap[r]? = some (.map es clock)):(setObj r o).run P w = .ok () (World.cK w r o):=by
 simp[setObj,Sem.run,h,World.cK]
theorem fq(K:uP P kt enc)(ht:P.underlying mt=some (.map kt et)){z:Value}(hz:(zeroValue et).run P w = .ok z w)(h:cY w.heap enc r m):(Instr.lookup mt (.map (some r)) (enc a) false).run P w = .ok ((l_ a m).getD z) w:=by
 obtain⟨es,clock,hb,he,hB⟩:=h;have hf:=K.fk a es.toList m w he;have hg:=oC a m 0;simp only[Instr.lookup,Sem.run_bind,aD ht,Result.andThen_ok,dB hb,K.ck,hf,Sem.run_pure]
 cases Gv:jb a m 0 with
 | none=>rw[Gv]at hg;simp[<- hg,hz]
 | some p=>rw[Gv]at hg;simp[<- hg]
theorem aG(K:uP P kt enc)(ht:P.underlying mt=some (.map kt et)){v:Value}(h:cY w.heap enc r m):∃w',(Instr.mapUpdate mt (.map (some r)) (enc a) v).run P w = .ok () w'/\cY w'.heap enc r (zU a v m)/\Ext (·=r) w w'/\w'.heap.size=w.heap.size:=by
 obtain⟨es,clock,hb,he,hB⟩:=h;have hf:=K.fk a es.toList m w he
 cases Gv:jb a m 0 with
 | none=>
  refine⟨World.cK w r (.map (es.push { key:=enc a,val:=v,born:=clock }) (clock+1)),?_,⟨_,_,eP hb,?_,by rw[Array.toList_push];exact hB.push _ _⟩,mG.ext rfl,mG.size rfl⟩
  .rw[Gv]at hf;simp[Instr.mapUpdate,aD ht,dB hb,K.ck,hf,rY _ hb]
  .rw[(ma (v:=v) Gv).1];simp[he]
 | some p=>
  obtain⟨j,u⟩:=p;obtain⟨_,h2,h3,_,h5⟩:=xU (v:=v) Gv;simp only[Nat.sub_zero]at h2 h3 h5;have hl:es.size=m.length:=by have:=congrArg List.length he;simpa using this
  have hk:((es[j]?).map (·.key)).getD (enc a)=enc a:=by
   have:=congrArg (fun l=>(l[j]?).map Prod.fst) he;simp only[List.getElem?_map,Option.map_map]at this
   have e2:Option.map (fun x=>enc x.1) m[j]? = some (enc a):=by
    cases hm:m[j]? with
    | none=>rw[hm]at h5;cases h5
    | some q=>rw[hm]at h5;simp only[Option.map_some,Option.some.injEq]at h5 ⊢;rw[h5]
   have e3:Option.map (·.key) es[j]? = some (enc a):=by
    rw[<- e2];simpa[Function.comp_def] using this
   rw[e3];rfl
  refine⟨World.cK w r (.map (es.modify j fun e=>{ e with key:=enc a,val:=v }) clock),?_,⟨_,_,eP hb,?_,hB.as ?_⟩,mG.ext rfl,mG.size rfl⟩
  .rw[Gv]at hf;simp[Instr.mapUpdate,aD ht,dB hb,K.ck,hf,rY _ hb,hk,Instr.keyThatStays,K.st]
  .rw[h3,Array.toList_modify];apply List.ext_getElem?;intro i;have hi:=congrArg (fun l=>l[i]?) he;simp only[List.getElem?_map,List.getElem?_modify,List.getElem?_set]at hi ⊢;by_cases hij:j=i
   .subst hij;rw[if_pos rfl,if_pos h2,List.getElem?_eq_getElem (by simpa[hl] using h2)];simp
   .rw[if_neg hij];simpa[hij] using hi
  .rw[Array.toList_modify];apply List.ext_getElem?;intro i;simp only[List.getElem?_map,List.getElem?_modify];by_cases hij:j=i
   .subst hij;cases es.toList[j]? <;> simp
   .simp[hij]
theorem EL(K:uP P kt enc)(ht:P.underlying mt=some (.map kt et)){t:TypeId}(h:cY w.heap enc r m):∃w',(Builtin.delete_ #[mt,kt] t #[.map (some r),enc a]).run P w = .ok (.tuple #[]) w'/\cY w'.heap enc r (Db a m)/\Ext (·=r) w w'/\w'.heap.size=w.heap.size:=by
 obtain⟨es,clock,hb,he,hB⟩:=h;have hf:=K.fk a es.toList m w he
 cases Gv:jb a m 0 with
 | none=>
  refine⟨World.cK w r (.map es clock),?_,⟨_,_,eP hb,?_,hB⟩,mG.ext rfl,mG.size rfl⟩
  .rw[Gv]at hf;simp[Builtin.delete_,aD ht,dB hb,K.ck,hf,rY _ hb]
  .rw[(ma (v:= .nilFunc) Gv).2];exact he
 | some p=>
  obtain⟨j,u⟩:=p;obtain⟨_,h2,_,h4,_⟩:=xU (v:= .nilFunc) Gv;simp only[Nat.sub_zero]at h2 h4;refine⟨World.cK w r (.map (es.eraseIdxIfInBounds j) clock),?_,⟨_,_,eP hb,?_,hB.sub (by rw[Array.toList_eraseIdxIfInBounds];exact List.eraseIdx_sublist _ _)⟩,mG.ext rfl,mG.size rfl⟩
  .rw[Gv]at hf;simp[Builtin.delete_,aD ht,dB hb,K.ck,hf,rY _ hb]
  .rw[h4,Array.toList_eraseIdxIfInBounds,qq,he,qq]
omit [DecidableEq α] in
theorem cY.ext{S:Nat->Prop}{w':Wd}(h:cY w.heap enc r m)(x:Ext S w w')(hS:¬ S r):cY w'.heap enc r m:=by
 obtain⟨es,clock,hb,he,hB⟩:=h;exact⟨es,clock,by rw[x.aw r (by rcases Nat.lt_or_ge r w.heap.size with k | k;exact k;rw[Array.getElem?_eq_none k]at hb;cases hb) hS];exact hb,he,hB⟩
theorem IC{k:IntKind}(hk:P.underlying kt=some (.int k)):uP P kt (fun a:Int=>Value.int k a):=by
 refine⟨fun b a w=>?_,fun a es m w he=>?_,fun a=>by simp[Instr.sameBits]⟩
 .rw[show(10000:Nat)=9999+1 from rfl,Instr.checkKey];simp only[Sem.run_bind,aD hk,Result.andThen_ok];rfl
 .have:∀(es:List MapEntry)(m:List (Int×Value))(i:Nat),es.map (fun e=>(e.key,e.val))=m.map (fun p=>(Value.int k p.1,p.2))->Instr.findNow (.int k) (.int k a) es i=some (jb a m i):=by
   intro es
   induction es with
   | nil=>intro m i h;cases m with | nil=>rfl | cons=>cases h
   | cons e es ih=>
    intro m i h
    cases m with
    | nil=>cases h
    | cons p m=>
     simp only[List.map_cons,List.cons.injEq,Prod.mk.injEq]at h;unfold Instr.findNow jb;rw[h.1.1];simp only[Instr.sameNow,if_true];by_cases Tk:a=p.1
     .simp[Tk,h.1.2]
     .rw[show(a == p.1)=false by simp[Tk],if_neg Tk];exact ih m (i+1) h.2
  simp[Instr.findKey,aD hk,this es m 0 he]
theorem Tl(a b:ByteArray):(a == b)=decide (a=b):=by
 obtain⟨a⟩:=a;obtain⟨b⟩:=b;show(a == b)=_;by_cases h:a=b
 .subst h;simp
 .rw[decide_eq_false (by simpa using h)];simpa using h
theorem Wv(hk:P.underlying kt=some .string):uP P kt (fun a:ByteArray=>Value.string a):=by
 refine⟨fun b a w=>?_,fun a es m w he=>?_,fun a=>by simp[Instr.sameBits,Tl]⟩
 .rw[show(10000:Nat)=9999+1 from rfl,Instr.checkKey];simp only[Sem.run_bind,aD hk,Result.andThen_ok];rfl
 .have:∀(es:List MapEntry)(m:List (ByteArray×Value))(i:Nat),es.map (fun e=>(e.key,e.val))=m.map (fun p=>(Value.string p.1,p.2))->Instr.findNow .string (.string a) es i=some (jb a m i):=by
   intro es
   induction es with
   | nil=>intro m i h;cases m with | nil=>rfl | cons=>cases h
   | cons e es ih=>
    intro m i h
    cases m with
    | nil=>cases h
    | cons p m=>
     simp only[List.map_cons,List.cons.injEq,Prod.mk.injEq]at h;unfold Instr.findNow jb;rw[h.1.1];simp only[Instr.sameNow,Tl];by_cases Tk:a=p.1
     .simp[Tk,h.1.2]
     .simp only[Tk,decide_false,if_false];exact ih m (i+1) h.2
  simp[Instr.findKey,aD hk,this es m 0 he]
end
section
variable {P:Program} {w:Wd} {mt kt et:TypeId} {r it clock:Nat} {es:Array MapEntry} {seen:Array Nat}
theorem QD(ht:P.underlying mt=some (.map kt et))(h:w.heap[r]? = some (.map es clock)):∃w',(Instr.range mt (.map (some r))).run P w = .ok (.pointer (some ⟨w.heap.size,0,none⟩)) w'/\Gq w (.mapIter (some r) clock #[] clock) w.heap.size w':=by
 refine⟨_,?_,rfl,rfl⟩;simp[Instr.range,aD ht,dB h,newObj,Sem.run];rfl
theorem K9{n:Nat}(h:1<=n):∃i w',(choose (.mapNext n)).run P w = .ok i w'/\i < n/\w'.heap=w.heap/\Ext No w w':=by
 rcases Nat.lt_or_ge 1 n with h1 | h1
 .refine⟨w.tape w.drawn (.mapNext n) % n,ae w,?_,Nat.mod_lt _ (by omega),rfl,(Ext.refl _ _).drew⟩;simp[choose,Sem.run,Question.forced,Question.cut,ae,show ¬ n<=1 by omega]
 .refine⟨0,w,?_,by omega,rfl,Ext.refl _ _⟩;simp[choose,Sem.run,Question.forced,h1]
theorem Tm(hi:w.heap[it]? = some (.mapIter (some r) clock seen clock))(h:w.heap[r]? = some (.map es clock))(hB:cW es.toList clock) :
  ((∀e∈es.toList,e.born∈seen.toList)/\∃w',(Instr.next (.pointer (some ⟨it,0,none⟩)) false 0).run P w = .ok (.tuple #[.bool false]) w'/\Ext No w w')∨
  ∃e∈es.toList,e.born ∉ seen.toList/\∃w',(Instr.next (.pointer (some ⟨it,0,none⟩)) false 0).run P w = .ok (.tuple #[.bool true,e.key,e.val]) w'/\w'.heap[it]? = some (.mapIter (some r) clock (seen.push e.born) clock)/\Ext (·=it) w w':=by
 have Yv:(!seen.isEmpty && !es.isEmpty && es.all (fun e=>decide (e.born≥clock)))=false:=by
  cases he:es.isEmpty with
  | true=>simp
  | false=>
   have du:es.size≠0:=by simpa using he
   have:es.all (fun e=>decide (e.born≥clock))=false:=by
    rw[Array.all_eq_false];refine⟨0,by omega,?_⟩;have:=hB.2 es[0] (by simp);simp;omega
   simp[this]
 have hgi:(getObj it).run P w = .ok (.mapIter (some r) clock seen clock) w:=by simp[getObj,Sem.run,hi]
 have hold:∀e∈(es.filter fun e=>!seen.contains e.born),decide (e.born < clock)=true:=fun e he=>by
  have:=(Array.mem_filter.1 he).1;have:=hB.2 e (by simpa using this);simpa using this
 have h1:(es.filter fun e=>!seen.contains e.born).filter (fun e=>decide (e.born < clock))=es.filter fun e=>!seen.contains e.born:=Array.filter_eq_self.2 hold
 have h2:(es.filter fun e=>!seen.contains e.born).filter (fun e=>decide (e.born≥clock))=#[]:=Array.filter_eq_empty_iff.2 fun e he=>by
  have:=hold e he;simp at this ⊢;omega
 generalize Pz:(es.filter fun e=>!seen.contains e.born)=left at *;rcases Nat.eq_zero_or_pos left.size with h0 | h0
 .refine .inl ⟨fun e he=>?_,?_⟩
  .have hm:e ∉ left:=by rw[Array.eq_empty_of_size_eq_zero h0];simp
   rw[<- Pz,Array.mem_filter]at hm;simp only[Array.mem_toList_iff]at he ⊢;simpa[he] using hm
  .obtain⟨i,w',hc,aN,_,hx⟩:=K9 (P:=P) (w:=w) (n:=1) (Nat.le_refl _);have hi0:i=0:=by omega
   subst hi0;have he0:left=#[]:=Array.eq_empty_of_size_eq_zero h0;refine⟨w',?_,hx⟩;simp only[Instr.next,Sem.run_bind,Result.andThen_ok,hgi,dB h,Yv,Bool.false_eq_true,if_false,Pz,h1,h2];subst he0;simp[hc,-run_choose]
 .obtain⟨i,w',hc,aN,hh,hx⟩:=K9 (P:=P) (w:=w) (n:=left.size) h0;have du:left.isEmpty=false:=by simpa using(fun h=>by rw[h]at h0;simp at h0:¬ left=#[])
  have ni:left[i]∈es.filter fun e=>!seen.contains e.born:=by rw[Pz];exact Array.getElem_mem aN
  have hm:=Array.mem_filter.1 ni;refine .inr ⟨left[i],by simpa using hm.1,by simpa using hm.2,World.cK w' it (.mapIter (some r) clock (seen.push left[i].born) clock),?_,?_,?_⟩
  .have Gt:∀o,(setObj it o).run P w' = .ok () (World.cK w' it o):=fun o=>by simp[setObj,Sem.run,World.cK,hh,hi]
   simp only[Instr.next,Sem.run_bind,Result.andThen_ok,hgi,dB h,Yv,Bool.false_eq_true,if_false,Pz,h1,h2];simp[du,hc,Gt,aN,-run_choose]
  .exact eP (by rw[hh];exact hi)
  .exact hx.az.trans (mG.ext rfl) fun _ _ h=>h
theorem QE{e:MapEntry}(hi:w.heap[it]? = some (.mapIter (some r) clock (seen.push e.born) clock))(h:w.heap[r]? = some (.map es clock))(hB:cW es.toList clock)(he:e∈es.toList):(Instr.entry (.pointer (some ⟨it,0,none⟩))).run P w = .ok (.tuple #[e.key,e.val]) w:=by
 have hgi:(getObj it).run P w = .ok (.mapIter (some r) clock (seen.push e.born) clock) w:=by simp[getObj,Sem.run,hi]
 have hf:es.find? (fun x=>x.born == e.born)=some e:=by
  rw[<- Array.find?_toList];have hn:=hB.1
  revert he hn
  generalize es.toList=l;intro he hn
  induction l with
  | nil=>cases he
  | cons x l ih=>
   simp only[List.map_cons,List.nodup_cons]at hn;rcases List.mem_cons.1 he with h' | h'
   .subst h';simp
   .have:x.born≠e.born:=fun h2=>hn.1 (h2 ▸ List.mem_map.2 ⟨e,h',rfl⟩)
    rw[List.find?_cons_of_neg (by simpa using this)];exact ih h' hn.2
 simp[Instr.entry,hgi,dB h,hf]
end
end Go.V
namespace Go.V.Dk
open Go.V
structure DS where
 now:List (List Int)
 oM:List (List Int)
 waits:List (Int×List Int)
 steps:Int
 fail:Int
 cut:Int
 down:Bool
abbrev Row(r:List Int):Prop:=r.length=256/\B8 r
structure WF(D:DS):Prop where
 n:D.oM.length=D.now.length
 lo:8<=D.now.length
 hi:D.now.length<=4096
 rn:∀r∈D.now,Row r
 rf:∀r∈D.oM,Row r
 rw:∀p∈D.waits,0<=p.1/\p.1 < D.now.length/\Row p.2
 fl:0<=D.fail/\D.fail<=9223372036854775807
 ct:-1<=D.cut/\D.cut<=9223372036854775807
def kE(r:List Int):List Value:=r.map (Value.int .u8)
def Sb(p:Int×List Int):List Value:= .int .i64 p.1::p.2.map (Value.int .u8)
def bB:List Int:=List.replicate 256 0
def pD(n:Nat):DS:=⟨List.replicate n bB,List.replicate n bB,[],0,0,-1,false⟩
def hasB(D:DS)(i:Int):Bool:=decide (0<=i/\i < D.now.length)
def bZ(D:DS):Int×DS:=
 if D.down=true∨D.cut=0 then(81,{ D with down:=true })
 else if D.fail > 0 then(if D.fail=1 then 80 else 0,{ D with cut:=if D.cut > 0 then D.cut - 1 else D.cut,steps:=D.steps+1,fail:=D.fail - 1 })
 else(0,{ D with cut:=if D.cut > 0 then D.cut - 1 else D.cut,steps:=D.steps+1 })
def mc(D:DS)(i:Int)(r:List Int):DS:={ D with now:=D.now.set i.toNat r,waits:=D.waits++[(i,r)] }
def EM(D:DS):DS:={ D with oM:=D.now,waits:=[] }
theorem Cr:Row bB:=⟨by unfold bB;rw[List.length_replicate],fun x hx=>by unfold bB at hx;rw[List.mem_replicate]at hx;omega⟩
theorem qQ{l:List (List Int)}(h:∀r∈l,Row r):∀r∈l,(kE r).length=256:=fun r hr=>by simp[kE,(h r hr).1]
theorem Ww{l:List (Int×List Int)}{n:Int}(h:∀p∈l,0<=p.1/\p.1 < n/\Row p.2):∀p∈l,(Sb p).length=257:=fun p hp=>by simp[Sb,(h p hp).2.2.1]
theorem K_{l:List (List Int)}(h:∀r∈l,Row r){i:Nat}(hi:i < l.length):Row (l.getD i []):=by
 have:l.getD i []=l[i]:=by simp[List.getD,hi]
 rw[this];exact h _ (List.getElem_mem hi)
theorem La{l:List (List Int)}(h:∀r∈l,Row r){i:Nat}{r:List Int}(hr:Row r):∀x∈l.set i r,Row x:=fun x hx=>by
 rcases List.mem_or_eq_of_mem_set hx with h' | rfl
 .exact h x h'
 .exact hr
theorem Wx{n:Nat}(h:8<=n/\n<=4096):WF (pD n):=by
 refine⟨by simp[pD],by simp[pD];omega,by simp[pD];omega,fun r hr=>?_,fun r hr=>?_,fun p hp=>by simp[pD]at hp,by simp[pD],by simp[pD]⟩
 .simp[pD]at hr;rw[hr.2];exact Cr
 .simp[pD]at hr;rw[hr.2];exact Cr
theorem QG(D:DS):(bZ D).2.now=D.now/\(bZ D).2.oM=D.oM/\(bZ D).2.waits=D.waits:=by
 unfold bZ;split
 .exact⟨rfl,rfl,rfl⟩
 .split <;> exact⟨rfl,rfl,rfl⟩
theorem Tn{D:DS}(h:WF D){i:Int}{r:List Int}(hi:0<=i/\i < D.now.length)(hr:Row r):WF (mc D i r):=by
 refine⟨by simp[mc,h.n],by simp[mc,h.lo],by simp[mc,h.hi],La h.rn hr,h.rf,fun p hp=>?_,h.fl,h.ct⟩;simp only[mc,List.length_set];rcases List.mem_append.1 hp with hp | hp
 .exact h.rw p hp
 .simp at hp;subst hp;exact⟨hi.1,hi.2,hr⟩
theorem Wy{D:DS}(h:WF D):WF (EM D):=⟨rfl,h.lo,h.hi,h.rn,h.rn,fun p hp=>by simp[EM]at hp,h.fl,h.ct⟩
end Go.V.Dk
namespace Go.V.Rn
open Go.V
abbrev fA:=Int×Int
def gr(l:List fA)(i:Nat):fA:=l.getD i (0,0)
def rc(l:List fA):List Value:=l.flatMap fun r=>[.int .u32 r.1,.int .u32 r.2]
theorem xV:∀l:List fA,(rc l).length=l.length * 2
 | []=>rfl
 | r::l=>by have:=xV l;simp only[rc,List.flatMap_cons,List.length_append,List.length_cons,List.length_nil]at this ⊢;omega
theorem To(l m:List fA):rc (l++m)=rc l++rc m:=by simp[rc]
theorem NO:∀(l:List fA),∀v∈rc l,cB v=true:=by
 intro l v hv;simp only[rc,List.mem_flatMap]at hv;obtain⟨r,_,h⟩:=hv;simp at h;rcases h with rfl | rfl <;> rfl
theorem ID(r:fA)(l:List fA)(i:Nat):gr (r::l) (i+1)=gr l i:=by simp[gr]
theorem Ed(r:fA)(l:List fA):gr (r::l) 0=r:=by simp[gr]
theorem Tp:∀(l:List fA)(i:Nat),i < l.length->(rc l)[i * 2]? = some (.int .u32 (gr l i).1)/\(rc l)[i * 2+1]? = some (.int .u32 (gr l i).2)
 | [],i,h=>by simp at h
 | r::l,0,_=>by simp[rc,gr]
 | r::l,i+1,h=>by
  have:=Tp l i (by simpa using h);simp only[rc,List.flatMap_cons,ID]at this ⊢;rw[show(i+1) * 2=i * 2+2 by omega,show i * 2+2+1=(i * 2+1)+2 by omega];exact this
def zV(l:List fA):Prop:=∀r∈l,0<=r.1/\r.1<=4294967295/\0<=r.2/\r.2<=4294967295
theorem zV.get{l:List fA}(h:zV l)(i:Nat):0<=(gr l i).1/\(gr l i).1<=4294967295/\0<=(gr l i).2/\(gr l i).2<=4294967295:=by
 rcases Nat.lt_or_ge i l.length with aN | zQ
 .have:gr l i=l[i]:=by simp[gr,List.getD,aN]
  rw[this];exact h _ (List.getElem_mem _)
 .simp[gr,List.getD,List.getElem?_eq_none zQ]
theorem Lb{l:List fA}{j:Nat}(h:j < l.length):l.drop j=gr l j::l.drop (j+1):=by
 rw[List.drop_eq_getElem_cons h];simp[gr,List.getD,h]
def kF:Int->List fA->Bool
 | _,[]=>true
 | e,r::l=>decide (r.1 < r.2) && (decide (e < r.1) && kF r.2 l)
def bw(l:List fA):Bool:=kF (-1) l
def pe(l:List fA)(j:Nat):Int:=if j=0 then -1 else(gr l (j - 1)).2
theorem Wz(l:List fA)(j:Nat):pe l (j+1)=(gr l j).2:=by simp[pe]
def placeN(p:Int):List fA->Nat
 | []=>0
 | r::l=>if p < r.2 then 0 else placeN p l+1
def hasB(p:Int)(l:List fA):Bool:=l.any fun r=>decide (p≥r.1) && decide (p < r.2)
def Sc(a b:Int):List fA:=if a≥b then[] else[(a,b)]
theorem qs:∀{e:Int}{l:List fA},kF e l=true->∀r∈l,e < r.1/\r.1 < r.2
 | e,[],_,r,hr=>by cases hr
 | e,r0::l,h,r,hr=>by
  simp only[kF,Bool.and_eq_true,decide_eq_true_eq]at h;rcases List.mem_cons.1 hr with rfl | hr
  .exact⟨h.2.1,h.1⟩
  .have:=qs h.2.2 r hr;exact⟨by omega,this.2⟩
theorem HF:∀{e:Int}{l:List fA}{p:Int},kF e l=true->hasB p l=(decide (placeN p l < l.length) && decide (p≥(gr l (placeN p l)).1))
 | e,[],p,_=>by simp[hasB,placeN]
 | e,r::l,p,h=>by
  simp only[kF,Bool.and_eq_true,decide_eq_true_eq]at h;by_cases hp:p < r.2
  .have VE:(l.any fun r=>decide (p≥r.1) && decide (p < r.2))=false:=by
    rw[List.any_eq_false];intro x hx;have:=qs h.2.2 x hx;simp;intro;omega
   simp[hasB,placeN,hp,VE,Ed]
  .have ih:=HF (p:=p) h.2.2;simp only[hasB,List.any_cons,hp,decide_false,Bool.and_false,Bool.false_or,placeN,if_false,List.length_cons,Nat.add_lt_add_iff_right,ID]at ih ⊢;exact ih
end Go.V.Rn
namespace Go.V.Rn
open Go.V
def xz(l:List fA)(i:Nat)(z:Int):List fA:=l.set i ((gr l i).1,z)
theorem HG(l:List fA)(i:Nat)(z:Int):(xz l i z).length=l.length:=by simp[xz]
theorem Lc:∀(l:List fA)(i:Nat)(z:Int),i < l.length->rc (xz l i z)=(rc l).set (i * 2+1) (.int .u32 z)
 | [],i,z,h=>by simp at h
 | r::l,0,z,_=>by simp[xz,rc,Ed]
 | r::l,i+1,z,h=>by
  have:=Lc l i z (by simpa using h);simp only[xz,List.set_cons_succ,ID,rc,List.flatMap_cons]at this ⊢;rw[this,show(i+1) * 2+1=(i * 2+1)+2 by omega];rfl
def rZ(l:List fA):Int:=(gr l (l.length - 1)).2
def r_(l:List fA)(r:fA):List fA:=if 0 < l.length/\r.1<=rZ l then xz l (l.length - 1) (CX (rZ l) r.2) else l++[r]
theorem Ld{l:List fA}{r:fA}:(r_ l r).length<=l.length+1:=by
 unfold r_;split <;> simp[HG]
def eU:List fA->List fA->List fA->List fA
 | out,[],[]=>out
 | out,a::as1,[]=>eU (r_ out a) as1 []
 | out,[],b::bs=>eU (r_ out b) [] bs
 | out,a::as1,b::bs=>if a.1<=b.1 then eU (r_ out a) as1 (b::bs) else eU (r_ out b) (a::as1) bs
termination_by _ a b=>a.length+b.length
def f_(a b:List fA):List fA:=eU [] a b
theorem zV.tail{r:fA}{l:List fA}(h:zV (r::l)):zV l:=fun x hx=>h x (List.mem_cons_of_mem _ hx)
theorem zV.head{r:fA}{l:List fA}(h:zV (r::l)):0<=r.1/\r.1<=4294967295/\0<=r.2/\r.2<=4294967295:=h r List.mem_cons_self
end Go.V.Rn
namespace Go.V.Rn
open Go.V
def cZ:List fA->List fA
 | []=>[]
 | r::l=>Sc (r.1+1) r.2++l
theorem EN:∀{e:Int}{l:List fA},kF e l=true->zV l->e<=4294967295->(l.length:Int) * 2<=4294967295 - e
 | e,[],_,_,he=>by simp;omega
 | e,r::l,h,hu,he=>by
  simp only[kF,Bool.and_eq_true,decide_eq_true_eq]at h;have hr:=hu.head;have:=EN h.2.2 hu.tail (by omega);simp only[List.length_cons];omega
theorem wk{l:List fA}(h:bw l=true)(hu:zV l):l.length<=2147483648:=by have:=EN h hu (by omega);omega
end Go.V.Rn
namespace Go.V.Pk
def numB(n:Nat):List Int:=if n < 128 then[(n:Int)] else((n % 128+128:Nat):Int)::numB (n / 128)
termination_by n
theorem se{n:Nat}(h:n < 128):numB n=[(n:Int)]:=by rw[numB,if_pos h]
theorem Ee{n:Nat}(h:128<=n):numB n=((n % 128+128:Nat):Int)::numB (n / 128):=by rw[numB,if_neg (by omega)]
theorem Ef(n:Nat):B8 (numB n):=by
 induction n using Nat.strongRecOn with
 | _ n ih=>
  by_cases h:n < 128
  .rw[se h];exact B8.cons (by omega) B8.nil
  .rw[Ee (by omega)];exact B8.cons (by omega) (ih _ (by omega))
theorem Le:∀(k n:Nat),n < 128 ^ k->0 < k->(numB n).length<=k
 | 0,n,h,hk=>by omega
 | k+1,n,h,_=>by
  by_cases h1:n < 128
  .rw[se h1];simp
  .rw[Ee (by omega)];rw[Nat.pow_succ]at h
   have hk:0 < k:=by
    rcases Nat.eq_zero_or_pos k with rfl | h'
    .simp at h;omega
    .exact h'
   have:=Le k (n / 128) (by omega) hk;simp;omega
theorem bK{n:Nat}(h:n < 18446744073709551616):(numB n).length<=10:=Le 10 n (Nat.lt_of_lt_of_le h (by decide)) (by decide)
theorem WA(n:Nat):numB n≠[]:=by
 by_cases h:n < 128
 .rw[se h];simp
 .rw[Ee (by omega)];simp
def tk:Nat->Int->List Int->Int×Nat×Int
 | _,_,[]=>(0,0,4)
 | i,n,x::l=>
  if i=9/\x > 1 then(0,0,6)
  else if x≥128 then tk (i+1) (n+(x % 128) * 128 ^ i) l
  else if x=0/\0 < i then(0,0,5)
  else(n+(x % 128) * 128 ^ i,i+1,0)
end Go.V.Pk
