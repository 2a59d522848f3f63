/- Texts for LWitnessForged, part 12. -/
import Derived.Lib.BytesEntry
import Derived.Test.YtefdekemmnnclaaGreatQf11
namespace Go.Proofs.YtefdekemmnnclaaGreat
open Go.V
abbrev aL(h:Array Obj)(s:Sl)(l:List Int):Prop:=Rd h s 1 (l.map (Value.int .u8))
abbrev aD(h:Array Obj)(base:Nat)(s:Sl)(l:List Int):Prop:=aP h base 5 1 s (l.map (Value.int .u8))
theorem aL.len{h:Array Obj}{s:Sl}{l:List Int}(o:aL h s l):s.len=l.length:=by have:=Rd.len o;simp at this;exact this.symm
theorem aD.len{h:Array Obj}{base:Nat}{s:Sl}{l:List Int}(o:aD h base s l):s.len=l.length:=aL.len o.rd
section
variable {w:Wd}
theorem iK{n size:Int}{K:Sl->Int->Pw}(hn:0<=n)(h1:1<=size)(h8:size<=8)(jA:n < 256 ^ size.toNat)
  (k:∀s w',aD w'.heap w.heap.size s (be size.toNat n)->Ext No w w'->K s 0 w'):cU n size w K:=by
 apply Jd;refine⟨fun w'=>w'=w,If.dec (fun h=>by omega) (fun _=>If.dec (fun h=>by omega) fun _=>rfl),?_⟩;rintro _ w1 rfl;refine⟨fun w'=>w'=w1,If.dec (fun h=>Ar.i64 (by omega) ⟨by omega,Nm.as (e':=0) ?_ (If.bne (fun h=>(h rfl).elim) fun _=>rfl)⟩) fun _=>rfl,?_⟩
 .have e2:min (8 * size).toNat (IntKind.bits .u64)=8 * size.toNat:=by
   have:IntKind.bits .u64=64:=rfl;omega
  rw[e2,Int.pow_mul,show(2:Int) ^ 8=256 from rfl,Int.fdiv_eq_ediv_of_nonneg _ (Int.le_of_lt (Int.pow_pos (by decide)))];exact Int.ediv_eq_zero_of_lt hn jA
 rintro _ w2 rfl;refine tE.mk (by omega) (Int.le_refl _) (by omega) (by omega) fun b w3 jH=>Ar.i64 (by omega) ?_
 have o3:=aP.make (l:=size.toNat) jH (Nat.le_refl _) (fun v hv=>by rw[List.mem_singleton]at hv;subst hv;rfl);have e3:(List.replicate size.toNat [Value.int .u8 0]).flatten=(List.replicate size.toNat (0:Int)).map (Value.int .u8):=by simp[List.flatten_replicate_singleton]
 rw[e3]at o3
 -- after j steps: the last j bytes of n are there,n / 256^j is left
 refine⟨fun m m' i w'=>∃j:Nat,i=size - 1 - j/\j<=size.toNat/\m=size.toNat - j/\m'=n / 256 ^ j/\aD w'.heap w2.heap.size ⟨some ⟨b,0,none⟩,size.toNat,size.toNat⟩ (List.replicate (size.toNat - j) 0++(be size.toNat n).drop (size.toNat - j))/\Ext No w2 w',⟨size.toNat,0,by omega,by omega,by omega,by simp,?_,jH.ext⟩,?_⟩
 .rw[Nat.sub_zero,List.drop_eq_nil_of_le (by rw[aI];exact Nat.le_refl _),List.append_nil];exact o3
 rintro _ m0 n1 i w4 ⟨j,rfl,hj,hm,rfl,o4,x4⟩;refine If.dec (fun h=>Ar.KS ?_) (fun h=>?_)
 .have hq:0<=n / 256 ^ j:=Int.ediv_nonneg hn (Int.le_of_lt (Int.pow_pos (by decide)))
  refine aH.own o4 h (by simp only;omega) rfl fun w5 o5 x5 z5=>⟨by omega,Nm.as (e':=n / 256 ^ (j+1)) ?_ (Ar.i64 (by omega) ⟨size.toNat - (j+1),by omega,j+1,by omega,by omega,rfl,rfl,?_,?_⟩)⟩
  .rw[show min (Int.toNat 8) (IntKind.bits .u64)=8 from rfl,Int.fdiv_eq_ediv_of_nonneg _ (by decide),show(2:Int) ^ 8=256 from rfl,Int.ediv_ediv_of_nonneg (Int.le_of_lt (Int.pow_pos (by decide))),Int.pow_succ]
  .have e:(size - 1 - (j:Int)).toNat=size.toNat - (j+1):=by omega
   rw[e,<- List.map_set]at o5;have hk:size.toNat - j=(size.toNat - (j+1))+1:=by omega
   have:(List.replicate (size.toNat - j) (0:Int)++(be size.toNat n).drop (size.toNat - j)).set (size.toNat - (j+1)) (n / 256 ^ j % 256)=List.replicate (size.toNat - (j+1)) 0++(be size.toNat n).drop (size.toNat - (j+1)):=by
    rw[hk,List.replicate_succ',List.append_assoc,List.set_append_right _ _ (by simp)];simp only[List.length_replicate,Nat.sub_self,List.singleton_append,List.set_cons_zero];rw[<- Mc (k:=size.toNat) (j:=j) (by omega),show size.toNat - 1 - j=size.toNat - (j+1) by omega];rw[List.getD_eq_getElem?_getD,List.getElem?_eq_getElem (by rw[aI];omega),Option.getD_some,<- List.drop_eq_getElem_cons]
   rw[this]at o5;exact o5
  .exact x4.trans x5 fun q hq h=>by
    have h:=Option.some.inj h;rw[<- h]at hq;have:=jH.at_;simp only at hq;omega
 .have e:size.toNat - j=0:=by omega
  rw[e]at o4;exact k _ _ (by simpa using o4) x4
theorem qY{b:Sl}{l:List Int}{K:Int->Int->Pw}(hb:aL w.heap b l)(h8:B8 l)(h1:1<=l.length)(h2:l.length<=8)(k:K (num l) 0 w):eP b w K:=by
 apply I_;have hl:=aL.len hb;refine⟨fun w'=>w'=w,If.dec (fun h=>by omega) (fun _=>If.dec (fun h=>by omega) fun _=>rfl),?_⟩;rintro _ w1 rfl;refine⟨fun m n t w'=>w'=w1/\∃j:Nat,t=j/\j<=l.length/\m=l.length - j/\n=num (l.take j),⟨l.length,rfl,0,rfl,by omega,by omega,by simp[num]⟩,?_⟩;rintro _ m0 n t w2 ⟨rfl,j,rfl,hj,hm,rfl⟩;refine If.dec (fun h=>Ix.int hb (by omega) (by omega) fun bb o _ hc=>⟨_,hc,?_⟩) (fun h=>?_)
 .have hx:=h8.get j;have aV:num (l.take j) < 256 ^ j:=by have:=uZ (h8.take j);rwa [List.length_take,Nat.min_eq_left hj]at this
  have h0:=num_nonneg (h8.take j);have hp:(256:Int) ^ (j+1)<=256 ^ 8:=Ua (by omega);rw[Int.pow_succ]at hp;have hp8:(256:Int) ^ 8=18446744073709551616:=by decide
  have e1:num (l.take j) * 2 ^ min (Int.toNat 8) (IntKind.bits .u64)=num (l.take j) * 256:=rfl;rw[Int.toNat_natCast];refine⟨by omega,?_⟩;rw[e1];refine Ar.u64 (by omega) (Ar.u64 (by omega) (Nm.as (JP h0 hx (by omega)) (Ar.i64 (by omega) ⟨l.length - (j+1),by omega,rfl,j+1,by omega,by omega,rfl,?_⟩)));rw[AZ (by omega),zr]
 .have e:j=l.length:=by omega
  rw[e,List.take_length];exact k
theorem mo{b:Sl}{l:List Int}{K:Bool->Pw}(hb:aL w.heap b l)(h8:B8 l)(hs:l.length<=4294967296)(k:K (decide (∀x∈l,x=0)) w):gM b w K:=by
 apply Du;have hl:=aL.len hb;refine⟨fun m n t w'=>w'=w/\∃j:Nat,t=j/\j<=l.length/\m=l.length - j/\0<=n/\n<=255/\(n=0 ↔ ∀x∈l.take j,x=0),⟨l.length,rfl,0,rfl,by omega,by omega,by omega,by omega,by simp⟩,?_⟩;rintro _ m0 n t w2 ⟨rfl,j,rfl,hj,hm,Vw,hn1,hn⟩;refine If.dec (fun h=>Ix.int hb (by omega) (by omega) fun bb o _ hc=>⟨_,hc,Nm.mk (Ar.i64 (by omega) ⟨l.length - (j+1),by omega,rfl,j+1,by omega,by omega,rfl,?_⟩)⟩) (fun h=>?_)
 .have hx:=h8.get j;rw[Int.toNat_natCast];obtain⟨a,b,c⟩:=tj ⟨Vw,hn1⟩ hx;refine⟨a,b,c.trans ?_⟩;rw[hn,AZ (by omega)];constructor
  .rintro⟨p,q⟩ x hx;rcases List.mem_append.1 hx with h | h
   .exact p x h
   .rw[List.mem_singleton]at h;rw[h];exact q
  .intro p;exact⟨fun x hx=>p x (List.mem_append_left _ hx),p _ (List.mem_append_right _ (List.mem_singleton.2 rfl))⟩
 .have e:j=l.length:=by omega
  rw[e,List.take_length]at hn
  have:(n == 0)=decide (∀x∈l,x=0):=by
   rw[Bool.eq_iff_iff,beq_iff_eq,decide_eq_true_iff];exact hn
  rw[this];exact k
theorem xQ{b:Sl}{l:List Int}{K:Sl->Pw}(hb:aL w.heap b l)(hs:l.length<=1099511627776)(k:∀s w',aD w'.heap w.heap.size s l->Ext No w w'->K s w'):iE b w K:=by
 apply E0;have hl:=aL.len hb;refine If.cases (fun h=>?_) (fun h=>an.mk fun b1 w1 hn=>?_)
 .have:l=[]:=by
   rcases Classical.em (l=[]) with h' | h'
   .exact h'
   .obtain⟨_,_,ha,_⟩:=Rd.at_ hb (by simpa using h');rw[ha]at h;cases h
  subst this;exact k _ _ (aP.nil _ _ _ _) (Ext.refl _ _)
 .have o1:aP w1.heap w.heap.size 5 1 ⟨some ⟨b1,0,none⟩,0,0⟩ []:=by have:=aP.new (n:=0) (sz:=1) hn rfl (by simp);exact this
  refine bO o1 (by have:=hn.size;omega) (Rd.no hb hn.ext).src (by simp only;omega) fun s' w' o' _ x' _=>?_
  rw[List.nil_append]at o';refine k _ _ o' (hn.ext.trans x' fun q hq h=>?_);have h:=Option.some.inj h;rw[<- h]at hq;have:=hn.at_;simp only at hq;omega
end
end Go.Proofs.YtefdekemmnnclaaGreat
set_option maxRecDepth 100000
namespace Go.V
theorem JT{z:Int}(hz:lY z):bK .and .u64 z 1=z % 2:=by
 rw[Gt hz ⟨by decide,by decide⟩,show(1:Int).toNat=1 from rfl,Nat.and_one_is_mod];omega
theorem Ug{x:Int}(hx:lY x)(n:Nat):lY (x / 2 ^ n):=
 ⟨Int.ediv_nonneg hx.1 (Int.le_of_lt (Int.pow_pos (by decide))),Int.le_trans (Int.ediv_le_self _ hx.1) hx.2⟩
theorem Uh{x:Int}(hx:lY x)(n:Nat):(x / 2 ^ n % 2=1) ↔ x.toNat.testBit n=true:=by
 obtain⟨m,rfl⟩:=Int.eq_ofNat_of_zero_le hx.1;rw[Nat.testBit_eq_decide_div_mod_eq,decide_eq_true_iff,Int.toNat_natCast];have:((m:Int) / 2 ^ n % 2)=((m / 2 ^ n % 2:Nat):Int):=by simp
 rw[this];omega
end Go.V
namespace Go.Proofs.YtefdekemmnnclaaGreat
open Go.V
section
variable {w w':Wd}
theorem Mg{x:Int}(h:lY x):x < 256 ^ (8:Int).toNat:=by show x < 256 ^ 8;have:=h.2;omega
theorem ND{b0:List Int}{K:Int->Int->Pw}(hb:cE b0)(k:∀x y w',lY x->lY y->cw x y=co b0->Ext No w w'->K x y w'):se b0 w K:=by
 apply LO
 refine fun b w1 n1 b1 w2 n2=>?_
 have s1:=n1.at_;have s2:=n2.at_;have z1:=n1.size;have a0:av w2.heap b 166 .u8 b0:=(av.new n1).ext n2.ext fun h=>h
 have a1:av w2.heap b1 375 .u64 [0,0]:=n2.get;have hl:=hb.1;refine Cut.arr (by decide) (by decide) (by decide) (by decide) (qY (l:=(b0.drop 0).take 8) (a0.rd (o:=0) (n:=8) (c:=16) (by omega) (by decide)) ((hb.2.drop _).take _) (by simp;omega) (by simp;omega) ?_);refine Cut.arr (by decide) (by decide) (by decide) (by decide) (qY (l:=(b0.drop 8).take 8) (a0.rd (o:=8) (n:=8) (c:=8) (by omega) (by decide)) ((hb.2.drop _).take _) (by simp;omega) (by simp;omega) ⟨rfl,?_⟩)
 refine av.oH (l':=[_,_]) a1 rfl fun w5 a5 x5=>⟨_,Cell.ah a5 rfl,_,Cell.ah a5 rfl,k _ _ _ ?_ ?_ ?_ ?_⟩
 .exact NB (by simp;omega) ((hb.2.drop _).take _)
 .exact NB (by simp;omega) ((hb.2.drop _).take _)
 .rw[<- Vx hb.1 hb.2,List.drop_zero,List.take_of_length_le (l:=b0.drop 8) (by simp;omega)]
 .exact(n1.ext.no n2.ext).out x5 (by omega)
theorem D0{x0 x1 y0 y1:Int}{K:Int->Int->Pw}(hx0:lY x0)(hx1:lY x1)(hy0:lY y0)(hy1:lY y1)(k:∀x y w',lY x->lY y->cw x y=mu (cw x0 x1) (cw y0 y1)->Ext No w w'->K x y w'):eG x0 x1 y0 y1 w K:=by
 apply tJ
 refine fun b w1 n1 b1 w2 n2 b2 w3 n3 b3 w4 n4=>⟨rfl,?_⟩
 have s1:=n1.at_;have s2:=n2.at_;have s3:=n3.at_;have s4:=n4.at_;have z1:=n1.size;have z2:=n2.size;have z3:=n3.size;have z4:=n4.size;have x4:Ext No w w4:=((n1.ext.no n2.ext).no n3.ext).no n4.ext
 have a0:av w4.heap b 375 .u64 [x0,x1]:=((((show av w1.heap b 375 .u64 [x0,x1] from n1.get).ext n2.ext fun h=>h).ext n3.ext fun h=>h).ext n4.ext fun h=>h)
 have a1:av w4.heap b1 375 .u64 [y0,y1]:=((show av w2.heap b1 375 .u64 [y0,y1] from n2.get).ext n3.ext fun h=>h).ext n4.ext fun h=>h
 have a2:av w4.heap b2 375 .u64 [0,0]:=(show av w3.heap b2 375 .u64 [0,0] from n3.get).ext n4.ext fun h=>h
 have a3:av w4.heap b3 375 .u64 [0,0]:=n4.get;refine av.oH (l':=[0,0]) a3 rfl fun w5 a5 x5=>?_
 let Y:Wd->Co->Prop:=fun u c=>∃p q,lY p/\lY q/\cw p q=c/\av u.heap b1 375 .u64 [p,q]
 let Z:Wd->Co->Prop:=fun u c=>∃p q,lY p/\lY q/\cw p q=c/\av u.heap b3 375 .u64 [p,q]
 let Inv:Wd->Co->Co->Prop:=fun w' y z=>Ext No w w'/\av w'.heap b 375 .u64 [x0,x1]/\av w'.heap b2 375 .u64 [0,0]/\Y w' y/\Z w' z
 have z00:lY 0:=⟨by decide,by decide⟩
 have i5:Inv w5 (my (cw y0 y1) 0) (mz (cw x0 x1) (cw y0 y1) 0):=⟨x4.out x5 (by omega),a0.ext x5 (by omega),a2.ext x5 (by omega),⟨_,_,hy0,hy1,rfl,a1.ext x5 (by omega)⟩,0,0,z00,z00,by funext i;unfold cw;simp[mz,zc],a5⟩
 have XO:∀{u u':Wd}{y z c:Co}{p q:Int},Inv u y z->Ext (·=b1) u u'->lY p->lY q->cw p q=c->av u'.heap b1 375 .u64 [p,q]->Inv u' c z:=fun {u u' y z c p q} h x hp hq hc a=>by
  obtain⟨h1,h2,h3,h4,p',q',h5,h6,h7,h8⟩:=h;exact⟨h1.out x (by omega),h2.ext x (by omega),h3.ext x (by omega),⟨_,_,hp,hq,hc,a⟩,p',q',h5,h6,h7,h8.ext x (by omega)⟩
 refine⟨fun m t w'=>t=128 - (m:Int)/\m<=128/\Inv w' (my (cw y0 y1) t.toNat) (mz (cw x0 x1) (cw y0 y1) t.toNat),⟨128,by omega,by omega,i5⟩,?_⟩;rintro _ m t w6 ⟨ht,hm,i6⟩;refine If.dec (fun h=>?_) fun h=>?_
 .refine⟨x0,Cell.ah i6.2.1 rfl,fun v w'=>w'=w6/\v=(if t > 63 then x1 else x0),If.dec (fun ZM=>⟨x1,Cell.ah i6.2.1 rfl,rfl,by rw[if_pos ZM]⟩) fun ZM=>⟨rfl,by rw[if_neg ZM]⟩,?_⟩;rintro _ word w7 ⟨rfl,VC⟩;have ZJ:lY word:=by rw[VC];split;exact hx1;exact hx0
  have hn:63 - t % 64=(((63 - t % 64).toNat:Nat):Int):=by omega
  have aa6:(word / 2 ^ (63 - t % 64).toNat % 2=1) ↔ cw x0 x1 t.toNat=true:=by
   rw[Uh ZJ,VC];unfold cw;by_cases ZM:t > 63
   .rw[if_pos ZM,if_neg (by omega),decide_eq_true (by omega),Bool.true_and,show(63 - t % 64).toNat=127 - t.toNat by omega]
   .rw[if_neg ZM,if_pos (by omega),show(63 - t % 64).toNat=63 - t.toNat by omega]
  refine⟨fun w'=>Inv w' (my (cw y0 y1) t.toNat) (mz (cw x0 x1) (cw y0 y1) (t.toNat+1)),⟨by decide,Nm.as (cQ (by omega)) (Ar.i64 (by omega) ⟨by omega,Nm.as (e':=word / 2 ^ (63 - t % 64).toNat) ?_ (Nm.as (JT (Ug ZJ _)) (If.bne (fun h1=>?_) fun h1=>?_))⟩)⟩,?_⟩
  .rw[fdiv_pow,show min (Int.toNat (63 - t % 64)) (IntKind.bits .u64)=(63 - t % 64).toNat by show min _ 64=_;omega]
  .have XB:cw x0 x1 t.toNat=true:=aa6.1 (by omega);have em:mz (cw x0 x1) (cw y0 y1) (t.toNat+1)=xc (mz (cw x0 x1) (cw y0 y1) t.toNat) (my (cw y0 y1) t.toNat):=by rw[mz,if_pos XB]
   rw[em];obtain⟨g1,g2,g3,⟨r,s,hr,hs,hrs,a'⟩,p,q,hp,hq,hpq,a⟩:=i6;have ad:av (aa w7).heap b3 375 .u64 [p,q]:=a;have ad':av (aa w7).heap b1 375 .u64 [r,s]:=a'
   let S:Pw:=fun u=>(∃p',av u.heap b3 375 .u64 [p',q])/\av u.heap b1 375 .u64 [r,s]
   have s0:S (aa w7):=⟨⟨p,ad⟩,ad'⟩
   have fin:aH (aa w7) (Addr.mk b3 0 none) (.int .u64 (xr p r)) fun w8=>S w8/\aH w8 ((Addr.mk b3 0 none).add 1) (.int .u64 (xr q s)) fun w9=>Inv w9 (my (cw y0 y1) t.toNat) (xc (mz (cw x0 x1) (cw y0 y1) t.toNat) (my (cw y0 y1) t.toNat)):=by
    refine ad.Ls (o:=0) (by simp) fun w8 a8 x8=>⟨⟨⟨_,a8⟩,ad'.ext x8 (by omega)⟩,?_⟩
    refine av.Ls (o:=1) a8 (by simp) fun w9 a9 x9=>?_
    have x9:Ext (fun i=>i=b3) w8 w9:=x9;have g1':Ext No w w8:=g1.drew.out x8 (by omega);exact⟨g1'.out x9 (by omega),((show av (aa w7).heap b 375 .u64 _ from g2).ext x8 (by omega)).ext x9 (by omega),((show av (aa w7).heap b2 375 .u64 _ from g3).ext x8 (by omega)).ext x9 (by omega),⟨r,s,hr,hs,hrs,(ad'.ext x8 (by omega)).ext x9 (by omega)⟩,_,_,uq hp hr,uq hq hs,by rw[Lu,hpq,hrs],a9⟩
   refine⟨S,s0,q,fun u hu=>?_,s,fun u hu=>Cell.ah hu.2 rfl,Nm.as (eO hq hs) ⟨⟨p,Cell.ah ad rfl,s0,r,Cell.ah ad' rfl,s0,Nm.as (eO hp hr) fin⟩,⟨r,Cell.ah ad' rfl,s0,p,Cell.ah ad rfl,s0,Nm.as (eO hp hr) fin⟩⟩⟩;obtain⟨⟨p',D1⟩,_⟩:=hu;exact Cell.ah D1 rfl
  .have em:mz (cw x0 x1) (cw y0 y1) (t.toNat+1)=mz (cw x0 x1) (cw y0 y1) t.toNat:=by
    rw[mz,if_neg];intro hc;have:=aa6.2 hc;omega
   rw[em];exact i6
  .rintro _ mw i12;have adk:=i12;obtain⟨g1,g2,g3,⟨r,s,hr,hs,hrs,a'⟩,_⟩:=i12;have eh:Int.fdiv r (2 ^ min (Int.toNat 1) (IntKind.bits .u64))=r / 2:=fdiv_pow;have el:Int.fdiv s (2 ^ min (Int.toNat 1) (IntKind.bits .u64))=s / 2:=fdiv_pow;have ea:r * 2 ^ min (Int.toNat 63) (IntKind.bits .u64) % 18446744073709551616=r * 2 ^ 63 % 18446744073709551616:=rfl
   have hU1:lY (s / 2):=⟨by have:=hs.1;omega,by have:=hs.2;have:=hs.1;omega⟩
   have hU2:lY (r * 2 ^ 63 % 18446744073709551616):=⟨by omega,by omega⟩
   have hU3:lY (r / 2):=⟨by have:=hr.1;omega,by have:=hr.2;have:=hr.1;omega⟩
   refine⟨s,Cell.ah a' rfl,Nm.as (JT hs) ⟨r,Cell.ah a' rfl,by decide,Nm.as eh ⟨s,Cell.ah a' rfl,by decide,Nm.as el ⟨r,Cell.ah a' rfl,by decide,Ar.Qw (Nm.as (e':=(((s / 2).toNat ||| (r * 2 ^ 63 % 18446744073709551616).toNat:Nat):Int)) (by rw[ea];exact uo hU1 hU2) ?_)⟩⟩⟩⟩;have hd:=Xj hr hs;rw[hrs,show TI (my (cw y0 y1) t.toNat)=my (cw y0 y1) (t.toNat+1) from rfl]at hd
   have hU4:lY (((s / 2).toNat ||| (r * 2 ^ 63 % 18446744073709551616).toNat:Nat):Int):=by
    have:(s / 2).toNat ||| (r * 2 ^ 63 % 18446744073709551616).toNat < 2 ^ 64:=Nat.or_lt_two_pow (by have:=hU1.2;omega) (by omega)
    constructor <;> omega
   generalize(((s / 2).toNat ||| (r * 2 ^ 63 % 18446744073709551616).toNat:Nat):Int)=l' at *;refine a'.Ls (o:=0) (by simp) fun lK Ny mr=>?_
   refine av.Ls (o:=1) Ny (by simp) fun pY S9 mJ=>?_
   have et:(t+1).toNat=t.toNat+1:=by omega
   have adl:av lK.heap b1 375 .u64 [r / 2,s]:=Ny;have XP:av pY.heap b1 375 .u64 [r / 2,l']:=S9;have i14:=XO (XO adk mr hU3 hs rfl adl) mJ hU3 hU4 rfl XP;refine If.bne (fun ho=>⟨_,Cell.ah XP rfl,Nm.as (eO hU3 ⟨by decide,by decide⟩) (XP.Ls (o:=0) (by simp) fun kQ a15 gH=>Ar.i64 (by omega) ⟨m - 1,by omega,by omega,by omega,?_⟩)⟩) fun ho=>Ar.i64 (by omega) ⟨m - 1,by omega,by omega,by omega,?_⟩
   .rw[if_pos (by omega)]at hd;rw[et];exact XO i14 gH (uq hU3 ⟨by decide,by decide⟩) hU4 hd a15
   .rw[if_neg (by omega)]at hd;rw[et,<- hd];exact i14
 .obtain⟨g1,g2,g3,g4,p,q,hp,hq,hpq,a⟩:=i6;rw[show t.toNat=128 by omega]at hpq;refine⟨p,Cell.ah a rfl,q,Cell.ah a rfl,rfl,av.oH (l':=[p,q]) g3 rfl fun ua a16 ub=>⟨p,Cell.ah a16 rfl,q,Cell.ah a16 rfl,k p q ua hp hq hpq (g1.out ub (by omega))⟩⟩
end
section
variable {w w':Wd}
theorem Hz{x0 x1:Int}{K:List Int->Pw}(h0:lY x0)(h1:lY x1)(k:∀w',Ext No w w'->K (ah (cw x0 x1)) w'):gp x0 x1 w K:=by
 apply tK;refine fun b w1 n1 b1 w2 n2 b2 w3 n3=>?_
 have s1:=n1.at_;have s2:=n2.at_;have s3:=n3.at_;have z1:=n1.size;have z2:=n2.size;have z3:=n3.size;have a0:av w3.heap b 375 .u64 [x0,x1]:=((show av w1.heap b 375 .u64 [x0,x1] from n1.get).ext n2.ext fun h=>h).ext n3.ext fun h=>h
 have a1:av w3.heap b1 166 .u8 (List.replicate 16 0):=(show av w2.heap b1 166 .u8 (List.replicate 16 0) from n2.get).ext n3.ext fun h=>h
 have a2:av w3.heap b2 166 .u8 (List.replicate 16 0):=n3.get;have x3:Ext No w w3:=(n1.ext.no n2.ext).no n3.ext;refine⟨x0,Cell.ah a0 rfl,iK h0.1 (by decide) (by decide) (Mg h0) fun s w4 o4 x4=>⟨x1,Cell.ah (a0.ext x4 fun h=>h) rfl,iK h1.1 (by decide) (by decide) (Mg h1) fun s5 w5 o5 x5=>?_⟩⟩;have TY:=x3.size;have JK:=x4.size;have lt5:=x5.size;have Mh:=x4.no x5;have hs:s.len=8:=by have:=aD.len o4;rw[aI]at this;exact this
 have hs5:s5.len=8:=by have:=aD.len o5;rw[aI]at this;exact this
 have em8:min s.len (8 - 0:Int).toNat=8:=by rw[hs];rfl
 have em5:min s5.len ((16:Nat) - 8:Int).toNat=8:=by rw[hs5];rfl
 refine Cut.arr (by decide) (by decide) (by decide) (by decide) (FT (xs:=be 8 x0) (a2.ext Mh fun h=>h) (o4.rd.no x5) (by rw[hs];decide) fun w6 a6 x6=>?_)
 have a6':av w6.heap b2 166 .u8 (be 8 x0++List.replicate 8 0):=by
  have:av w6.heap b2 166 .u8 ((List.replicate 16 0).take 0++((be 8 x0).take (min s.len (8 - 0:Int).toNat)++(List.replicate 16 0).drop (0+min s.len (8 - 0:Int).toNat))):=a6;rw[em8,List.take_of_length_le (l:=be 8 x0) (by rw[aI];omega)]at this;exact this
 have ltb:∀i,s5.au=some i->i≠b2:=fun i hi=>by have:=(o5.lt hi).1;omega
 have r5:aL w6.heap s5 (be 8 x1):=(o5.ext x6 fun i hi h=>ltb i hi h).rd;refine Cut.arr (by decide) (by decide) (by decide) (by decide) (FT (xs:=be 8 x1) a6' r5 (by rw[hs5];simp[aI]) fun w7 a7 x7=>?_)
 have a7':av w7.heap b2 166 .u8 (ah (cw x0 x1)):=by
  have:av w7.heap b2 166 .u8 ((be 8 x0++List.replicate 8 0).take 8++((be 8 x1).take (min s5.len ((16:Nat) - 8:Int).toNat)++(be 8 x0++List.replicate 8 0).drop (8+min s5.len ((16:Nat) - 8:Int).toNat))):=a7;rw[em5,List.take_of_length_le (l:=be 8 x1) (by rw[aI];omega),List.take_append_of_le_length (by rw[aI];omega),List.take_of_length_le (by rw[aI];omega),List.drop_eq_nil_of_le (by simp[aI]),List.append_nil]at this;rw[XJ h0 h1];exact this
 have x7':Ext No w w7:=((x3.no Mh).out x6 (by omega)).out x7 (by omega);have lt7:=x7'.size;refine qO a7' (((a1.ext Mh fun h=>h).ext x6 (by omega)).ext x7 (by omega)) (aB _ _) (by simp) fun w8 x8=>k w8 (x7'.out x8 (by omega))
def D2(h:Co)(al tl:List Int):Co:=mu (xc (kF h ((tl.length+15) / 16) (kF h ((al.length+15) / 16) zc al) tl) (cw ((8 * al.length:Nat):Int) ((8 * tl.length:Nat):Int))) h
def D4(h c:Co)(l:List Int):Co:=kF h ((l.length+15) / 16) c l
theorem Q5(h c:Co):D4 h c []=c:=rfl
theorem OM(h c:Co){l:List Int}(hl:0 < l.length):D4 h c l=D4 h (mu (xc c (co l)) h) (l.drop 16):=by
 unfold D4;rw[show(l.length+15) / 16=((l.drop 16).length+15) / 16+1 by simp;omega,kF]
theorem Mi{h0 al tl:List Int}{dD text:Sl}{K:List Int->Pw}(hh:cE h0)(ra:aL w.heap dD al)(rt:aL w.heap text tl)(ba:B8 al)(bt:B8 tl)(HA:dD.len<=1000000)(KW:text.len<=1000000)(k:∀w',Ext No w w'->K (ah (D2 (co h0) al tl)) w'):uC h0 dD text w K:=by
 apply Jg;refine fun b w1 n1 b1 w2 n2=>?_
 have s1:=n1.at_;have s2:=n2.at_;have z1:=n1.size;have z2:=n2.size;have x2:Ext No w w2:=n1.ext.no n2.ext;have a1:av w2.heap b1 166 .u8 (List.replicate 16 0):=n2.get;refine⟨h0,hh.1,((av.new n1).ext n2.ext fun h=>h).row,ND hh fun r0 r1 w3 hr0 hr1 aa7 x3=>?_⟩
 refine fun b2 w4 n4 b3 w5 n5=>⟨rfl,?_⟩
 have s4:=n4.at_;have s5:=n5.at_;have z4:=n4.size;have z5:=n5.size;have L6:=x2.size;have TY:=x3.size;have x5:Ext No w w5:=((x2.no x3).no n4.ext).no n5.ext;have a25:av w5.heap b2 375 .u64 [0,0]:=(show av w4.heap b2 375 .u64 [0,0] from n4.get).ext n5.ext fun h=>h
 have a35:av w5.heap b3 375 .u64 [0,0]:=n5.get;have a15:av w5.heap b1 166 .u8 (List.replicate 16 0):=((a1.ext x3 fun h=>h).ext n4.ext fun h=>h).ext n5.ext fun h=>h
 refine av.oH (l':=[r0,r1]) a25 rfl fun w6 a26 x6=>⟨rfl,?_⟩
 refine av.oH (l':=[0,0]) (a35.ext x6 (by omega)) rfl fun w7 a37 x7 b4 w8 n8=>?_
 have s8:=n8.at_;have z8:=n8.size;have lt6:=x6.size;have lt7:=x7.size
 let Inv:Wd->Co->Prop:=fun u c=>Ext No w u/\w5.heap.size<=u.heap.size/\av u.heap b1 166 .u8 (List.replicate 16 0)/\av u.heap b2 375 .u64 [r0,r1]/\(∃p q,lY p/\lY q/\cw p q=c/\av u.heap b3 375 .u64 [p,q])/\u.heap[b4]? = some (.cells [Value.slice dD.a dD.len dD.cap,Value.slice text.a text.len text.cap].toArray 25 (0,0))
 have no_:∀{u u':Wd}{c:Co},Inv u c->Ext No u u'->Inv u' c:=fun {u u' c} h x=>by
  obtain⟨h1,h2,h3,h4,⟨p,q,hp,hq,hc,h5⟩,h6⟩:=h;have:=x.size;exact⟨h1.no x,by omega,h3.ext x fun h=>h,h4.ext x fun h=>h,⟨p,q,hp,hq,hc,h5.ext x fun h=>h⟩,by rw[x.au b4 (Array.getElem?_eq_some_iff.1 h6).1 fun h=>h];exact h6⟩
 have i8:Inv w8 zc:=⟨((x5.out x6 (by omega)).out x7 (by omega)).no n8.ext,by omega,((a15.ext x6 (by omega)).ext x7 (by omega)).ext n8.ext fun h=>h,(a26.ext x7 (by omega)).ext n8.ext fun h=>h,⟨0,0,⟨by decide,by decide⟩,⟨by decide,by decide⟩,by funext i;unfold cw;simp[zc],a37.ext n8.ext fun h=>h⟩,n8.get⟩
 let At:Int->Co:=fun t=>if t=0 then zc else if t=1 then D4 (co h0) zc al else D4 (co h0) (D4 (co h0) zc al) tl
 refine⟨fun m t u=>t=2 - (m:Int)/\m<=2/\Inv u (At t),⟨2,by omega,by omega,i8⟩,?_⟩;rintro _ m t w9 ⟨ht,hm,i9⟩;refine If.dec (fun h=>?_) fun h=>?_
 .refine Ix.arr (by omega) (by omega) ?_
  obtain⟨vv,vl,hv,hvr,hvB,hAt⟩ : ∃(vv:Sl) (vl:List Int),Cell w9 ⟨b4,t.toNat * 1,none⟩ vv.v/\aL w.heap vv vl/\B8 vl/\At (t+1)=D4 (co h0) (At t) vl:=by
   have:t=0∨t=1:=by omega
   rcases this with e | e
   .subst e;exact⟨dD,al,Cell.ah i9.2.2.2.2.2 rfl,ra,ba,rfl⟩
   .subst e;exact⟨text,tl,Cell.ah i9.2.2.2.2.2 rfl,rt,bt,rfl⟩
  refine⟨vv,hv,fun m2 l1 u=>l1.len=m2/\∃c,Inv u c/\∃ll,aL w.heap l1 ll/\B8 ll/\At (t+1)=D4 (co h0) c ll,⟨_,rfl,_,i9,vl,hvr,hvB,hAt⟩,?_⟩;rintro _ m2 l1 gG ⟨KV,cc,i10,ll,rl,bl,hcc⟩
  refine If.dec (fun h2=>?_) fun h2=>Ar.i64 (by omega) ⟨m - 1,by omega,by omega,by omega,by
   have:ll=[]:=List.length_eq_zero_iff.1 (by have:=aL.len rl;omega)
   rw[this,Q5]at hcc;rw[hcc];exact i10⟩
  refine fun b5 hU PV=>?_
  have Ta:=PV.at_;have z11:=PV.size;have adm:=i10.2.1;have i11:=no_ i10 PV.ext;have hll:ll.length=l1.len:=(aL.len rl).symm;refine Cut.arr (by decide) (by decide) (by decide) (by decide) (FT (xs:=ll) (l:=List.replicate 16 0) PV.get (rl.no i11.1) (by simp;omega) fun mw a12 gV=>?_)
  obtain⟨VD,adn,q12,hco⟩ : ∃VD,av mw.heap b5 166 .u8 VD/\cE VD/\co VD=co ll:=by
   have ado:av mw.heap b5 166 .u8 (ll.take (min l1.len 16)++(List.replicate 16 0).drop (min l1.len 16)):=by
    have:av mw.heap b5 166 .u8 ((List.replicate 16 0).take 0++(ll.take (min l1.len 16)++(List.replicate 16 0).drop (0+min l1.len 16))):=a12;rw[Nat.zero_add]at this;exact this
   refine⟨_,ado,⟨by simp;omega,(bl.take _).append ((B8.py 16).drop _)⟩,Df fun i hi=>?_⟩;simp only[List.getD_eq_getElem?_getD];by_cases h3:i < ll.length
   .rw[List.getElem?_append_left (by simp;omega),List.getElem?_take_of_lt (by omega)]
   .have el:(ll.take (min l1.len 16)).length=ll.length:=by rw[List.length_take];omega
    have e2:(List.drop (min l1.len 16) (List.replicate 16 (0:Int)))[i - (ll.take (min l1.len 16)).length]? = some 0:=by rw[el,List.getElem?_drop,List.getElem?_replicate,if_pos (by omega)]
    have e3:ll[i]? = none:=List.getElem?_eq_none (by omega);rw[List.getElem?_append_right (by omega),e2,e3];rfl
  clear a12;have a12:=adn
  have i12:Inv mw cc:=by
   obtain⟨h1,h2,h3,h4,⟨p,q,hp,hq,hc,h5⟩,h6⟩:=i11;have:=gV.size;have:=h1.size;have l4:=(Array.getElem?_eq_some_iff.1 i10.2.2.2.2.2).1;exact⟨h1.out gV (by have:=i10.1.size;omega),by omega,h3.ext gV (by omega),h4.ext gV (by omega),⟨p,q,hp,hq,hc,h5.ext gV (by omega)⟩,by rw[gV.au b4 (by omega) (by omega)];exact h6⟩
  have e16:(16 - 0:Int).toNat=16:=rfl
  refine rl.qP (by omega) (by omega) (Int.le_refl _) fun s' Ic pA=>⟨VD,q12.1,a12.row,ND q12 fun p q lK hp0 hq0 adp mr=>?_⟩
  refine fun b6 pY VE=>⟨rfl,av.oH (l:=[0,0]) (l':=[p,q]) VE.get rfl fun kQ aa8 gH=>?_⟩
  have i13:=no_ i12 mr;have s14:=VE.at_;have z14:=VE.size;have i14:=no_ i13 VE.ext
  have i15:Inv kQ cc:=by
   obtain⟨h1,h2,h3,h4,⟨p,q,hp,hq,hc,h5⟩,h6⟩:=i14;have:=gH.size;have l4:=(Array.getElem?_eq_some_iff.1 i13.2.2.2.2.2).1;have:=i13.2.1;exact⟨h1.out gH (by have:=i13.1.size;omega),by omega,h3.ext gH (by omega),h4.ext gH (by omega),⟨p,q,hp,hq,hc,h5.ext gH (by omega)⟩,by rw[gH.au b4 (by omega) (by omega)];exact h6⟩
  obtain⟨h1,h2,h3,h4,⟨p',q',D1,Mj,hc',h5⟩,h6⟩:=i15;refine⟨p',Cell.ah h5 rfl,p,Cell.ah aa8 rfl,Nm.as (eO D1 hp0) ⟨q',Cell.ah h5 rfl,q,Cell.ah aa8 rfl,Nm.as (eO Mj hq0) ⟨r0,Cell.ah h4 rfl,r1,Cell.ah h4 rfl,D0 (uq D1 hp0) (uq Mj hq0) hr0 hr1 fun p3 q3 ua hp3 hq3 XQ ub=>⟨rfl,?_⟩⟩⟩⟩
  have adq:((ll.drop ((min l1.len (16 - 0:Int).toNat:Nat):Int).toNat).take (((l1.len:Nat):Int) - ((min l1.len (16 - 0:Int).toNat:Nat):Int)).toNat)=ll.drop 16:=by
   rw[List.take_of_length_le (by simp;omega)];by_cases VF:l1.len<=16
   .rw[List.drop_eq_nil_of_le (by simp;omega),List.drop_eq_nil_of_le (by omega)]
   .congr 1;omega
  have Ui:aL w.heap s' (ll.drop 16):=by
   have Tb:Rd w.heap s' 1 (List.map (Value.int .u8) ((ll.drop (((min l1.len (16 - 0:Int).toNat:Nat):Int).toNat * 1)).take ((((l1.len:Nat):Int) - ((min l1.len (16 - 0:Int).toNat:Nat):Int)).toNat * 1))):=Ic;rw[Nat.mul_one,Nat.mul_one,adq]at Tb;exact Tb
  refine av.oH (l':=[p3,q3]) (h5.ext ub fun h=>h) rfl fun rD KX zq=>⟨(((l1.len:Nat):Int) - ((min l1.len (16 - 0:Int).toNat:Nat):Int)).toNat,by omega,pA,mu (xc cc (co ll)) (co h0),?_,_,Ui,bl.drop _,?_⟩
  .have l3:=h5.lt;have l4:=(Array.getElem?_eq_some_iff.1 h6).1;have:=ub.size;have:=zq.size;exact⟨(h1.no ub).out zq (by omega),by omega,(h3.ext ub fun h=>h).ext zq (by omega),(h4.ext ub fun h=>h).ext zq (by omega),⟨_,_,hp3,hq3,by rw[XQ,Lu,hc',adp,hco,aa7],KX⟩,by rw[zq.au b4 (by omega) (by omega),ub.au b4 l4 fun h=>h];exact h6⟩
  .rw[hcc];exact OM _ _ (by omega)
 .obtain⟨h1,h2,h3,h4,⟨p,q,hp,hq,hc,h5⟩,h6⟩:=i9;have e8:8 * ((dD.len:Int)) % 18446744073709551616=((8 * al.length:Nat):Int):=by rw[<- aL.len ra];omega
  have e9:8 * ((text.len:Int)) % 18446744073709551616=((8 * tl.length:Nat):Int):=by rw[<- aL.len rt];omega
  have u8:lY ((8 * al.length:Nat):Int):=by have:=aL.len ra;constructor <;> omega
  have u9:lY ((8 * tl.length:Nat):Int):=by have:=aL.len rt;constructor <;> omega
  refine⟨p,Cell.ah h5 rfl,Ar.u64 (by omega) (Ar.Qw (Nm.as (by rw[e8];exact eO hp u8) ⟨q,Cell.ah h5 rfl,Ar.u64 (by omega) (Ar.Qw (Nm.as (by rw[e9];exact eO hq u9) ⟨r0,Cell.ah h4 rfl,r1,Cell.ah h4 rfl,D0 (uq hp u8) (uq hq u9) hr0 hr1 fun p3 q3 Q6 hp3 hq3 XQ zt=>Hz hp3 hq3 fun XR Uj=>?_⟩))⟩))⟩
  have et:ah (cw p3 q3)=ah (D2 (co h0) al tl):=by
   rw[XQ,Lu,hc,aa7]
   have:At t=D4 (co h0) (D4 (co h0) zc al) tl:=by
    show(if t=0 then _ else if t=1 then _ else _)=_;rw[if_neg (by omega),if_neg (by omega)]
   rw[this];rfl
  rw[et];have Uk:(ah (D2 (co h0) al tl)).length=16:=aB _ _;have x9:=(h1.no zt).no Uj;refine⟨by rw[List.append_nil,List.length_map];exact Uk,((h3.ext zt fun h=>h).ext Uj fun h=>h).oH (by rw[Uk];simp) fun XS a20 x20=>⟨_,Uk,a20.row,iC.mk Uk (k XS (x9.out x20 (by omega)))⟩⟩
end
section
variable {w w':Wd}
theorem XT{X:Type}{b b1:Nat}{T:TypeId}{l z:List Int}{K:List Int->X}{F:X->Pw}(a:av w.heap b T .u8 l)(a1:av w.heap b1 T .u8 z)(hl:l.length=16)(hz:z.length=16)(k:∀w',Ext (·=b1) w w'->F (K l) w') :
  ∃l:List Int,l.length=16/\bu (Cell w) (Addr.mk b 0 none) 0 .u8 l/\List.length (α:=Value) (List.map (Value.int .u8) l++[])=16/\cr w (Addr.mk b1 0 none) (List.map (Value.int .u8) l++[]) fun w5=>
   ∃XC:List Int,XC.length=16/\bu (Cell w5) (Addr.mk b1 0 none) 0 .u8 XC/\iC .u8 16 (List.map (Value.int .u8) XC++[]) fun l_2 vs=>eo [] vs (K l_2) fun Kv=>F Kv w5:=
 ⟨l,hl,a.row,by rw[List.append_nil,List.length_map];exact hl,a1.oH (by omega) fun w5 a5 x5=>⟨l,hl,a5.row,iC.mk hl (k w5 x5)⟩⟩
theorem av.own{b base:Nat}{l:List Int}{n:Nat}(a:av w.heap b 5 .u8 l)(hb:base<=b)(hn:l.length=n):aD w.heap base ⟨some ⟨b,0,none⟩,n,n⟩ l:=by
 subst hn;refine⟨by simp,.inr ⟨b,[],rfl,hb,?_,by simp,Nat.le_refl _⟩,cZ⟩;rw[List.append_nil];exact a
def fV(nl:List Int):List Int:=nl++[0,0,0,1]
theorem qZ{nl:List Int}(h:nl.length=12)(hB:B8 nl):cE (fV nl):=⟨by simp[fV,h],hB.append fun x hx=>by simp at hx;omega⟩
theorem Bv{aA:Sl}{nl:List Int}{K:List Int->Int->Pw}(hn:aL w.heap aA nl)(hB:B8 nl)(hl:aA.len=12)(k:∀w',Ext No w w'->K (fV nl) 0 w'):mf aA w K:=by
 apply Jf;refine fun b w1 n1=>If.bne (fun h=>absurd (by rw[hl];rfl) h) fun _ b1 w2 n2=>?_
 have s1:=n1.at_;have s2:=n2.at_;have z1:=n1.size;have x2:Ext No w w2:=n1.ext.no n2.ext;have qj:nl.length=12:=by have:=aL.len hn;omega
 have a0:av w2.heap b 166 .u8 (List.replicate 16 0):=(show av w1.heap b 166 .u8 (List.replicate 16 0) from n1.get).ext n2.ext fun h=>h
 have a1:av w2.heap b1 166 .u8 (List.replicate 16 0):=n2.get;have em:min aA.len ((16:Nat) - 0:Int).toNat=12:=by rw[hl];rfl
 refine Cut.arr (by decide) (by decide) (by decide) (by decide) (FT (xs:=nl) a1 (hn.no x2) (by rw[hl];decide) fun w5 a5 x5=>⟨by decide,by decide,?_⟩)
 have a5':av w5.heap b1 166 .u8 (nl++[0,0,0,0]):=by
  have:av w5.heap b1 166 .u8 ((List.replicate 16 0).take 0++(nl.take (min aA.len ((16:Nat) - 0:Int).toNat)++(List.replicate 16 0).drop (0+min aA.len ((16:Nat) - 0:Int).toNat))):=a5;rw[em,List.take_of_length_le (l:=nl) (by omega)]at this;exact this
 refine a5'.st (by decide) (by simp[qj]) fun w6 a6 x6=>?_
 have e6:(nl++[0,0,0,0]).set (15:Int).toNat 1=fV nl:=by
  show(nl++[0,0,0,0]).set 15 1=_;rw[List.set_append_right _ _ (by omega),qj];rfl
 rw[e6]at a6;have q6:=qZ qj hB;exact XT (X:=Int->Pw) (F:=fun Kv w=>Kv 0 w) a6 ((a0.ext x5 (by omega)).ext x6 (by omega)) q6.1 (by simp) fun w7 x7=>k w7 (((x2.out x5 (by omega)).out x6 (by omega)).out x7 (by omega))
theorem Mk{aA:Sl}{nl:List Int}{K:List Int->Int->Pw}(hn:aL w.heap aA nl)(hB:B8 nl)(hl:aA.len=12)(k:∀r w',cE r->Ext No w w'->K r 0 w'):mf aA w K:=
 Bv hn hB hl fun w' x=>k _ w' (qZ (by have:=aL.len hn;omega) hB) x
theorem ON{c0:List Int}{K:List Int->Pw}(hc:cE c0)(k:∀r w',cE r->Ext No w w'->K r w'):wU c0 w K:=by
 apply LP;refine fun b w1 n1 b1 w2 n2=>?_
 have s1:=n1.at_;have s2:=n2.at_;have z1:=n1.size;have z2:=n2.size;have x2:Ext No w w2:=n1.ext.no n2.ext;have a0:av w2.heap b 166 .u8 c0:=(av.new n1).ext n2.ext fun h=>h
 have a1:av w2.heap b1 166 .u8 (List.replicate 16 0):=n2.get;have hl:=hc.1;refine Cut.arr (by decide) (by decide) (by decide) (by decide) (qY (l:=(c0.drop 12).take 4) (a0.rd (o:=12) (n:=4) (c:=4) (by omega) (by decide)) ((hc.2.drop _).take _) (by simp;omega) (by simp;omega) (Ar.Qw (Ar.acR (Ar.Qw ?_))));refine iK (by omega) (by decide) (by decide) (by show _ < (256:Int) ^ 4;omega) fun s w4 o4 x4=>?_
 have hs:s.len=4:=by have:=aD.len o4;rw[aI]at this;exact this
 have L6:=x2.size;have JK:=x4.size;refine Cut.arr (by decide) (by decide) (by decide) (by decide) (aaR (a0.ext x4 fun h=>h) o4.rd (by rw[hs];omega) fun w5 l5 h5 hB5 a5 x5=>?_)
 have q5:cE l5:=⟨by rw[h5];exact hl,hB5 hc.2 (bM _ _)⟩
 exact qO a5 ((a1.ext x4 fun h=>h).ext x5 (by omega)) q5.1 (by simp) fun w6 x6=>k _ w6 q5 (((x2.no x4).out x5 (by omega)).out x6 (by omega))
structure OO(u:Wd)(b b1 b2 b3 cb:Nat):Prop where
 c:u.heap[b]? = some (.cells [Value.pointer (some ⟨cb,0,none⟩)].toArray 263 (0,0))
 ctr:∃l,cE l/\av u.heap b1 166 .u8 l
 au:∃l,cE l/\av u.heap b2 166 .u8 l
 at_:∃i:Int,0<=i/\i<=16/\av u.heap b3 3 .i64 [i]
 cip:Hw u cb
 ne:b≠b1/\b≠b2/\b≠b3/\b1≠b2/\b1≠b3/\b2≠b3
abbrev OP(b1 b2 b3:Nat)(i:Nat):Prop:=i=b1∨i=b2∨i=b3
theorem HB{b b1 b2 b3 cb:Nat}{w0:Wd}{K:Int->Pw}(h:OO w b b1 b2 b3 cb)(x0:Ext No w0 w)(hc:Hw w0 cb)(h1:w0.heap.size<=b1)(h2:w0.heap.size<=b2)(h3:w0.heap.size<=b3)
  (k:∀r w',By r->OO w' b b1 b2 b3 cb->Ext No w0 w'->Ext (OP b1 b2 b3) w w'->K r w'):ob ⟨b3,0,none⟩ ⟨b1,0,none⟩ ⟨b,0,none⟩ ⟨b2,0,none⟩ w K:=by
 apply DD;refine⟨fun u=>OO u b b1 b2 b3 cb/\Ext No w0 u/\Ext (OP b1 b2 b3) w u/\∃i:Int,0<=i/\i < 16/\av u.heap b3 3 .i64 [i],?_,?_⟩
 .obtain⟨i,hi0,hi1,ai⟩:=h.at_;obtain⟨e1,e2,e3,e4,e5,e6⟩:=h.ne;refine⟨i,Cell.ah ai rfl,If.beq (fun _=>?_) fun dz=>⟨h,x0,Ext.refl _ _,i,hi0,by omega,ai⟩⟩;obtain⟨l,hl,al⟩:=h.ctr;obtain⟨m,hm,am⟩:=h.au;refine⟨l,hl.1,al.row,ON hl fun r w1 hr x1=>⟨by rw[List.append_nil,List.length_map];exact hr.1,(al.ext x1 fun h=>h).oH (by rw[hr.1,hl.1]) fun w2 a2 x2=>?_⟩⟩;have c1:w1.heap[b]? = _:=(x1.au b (Array.getElem?_eq_some_iff.1 h.c).1 fun h=>h).trans h.c;have c2:w2.heap[b]? = _:=(x2.au b (Array.getElem?_eq_some_iff.1 c1).1 e1).trans c1;have q_:Ext No w0 w2:=(x0.no x1).out x2 h1;have y2:Ext (OP b1 b2 b3) w w2:=(x1.aF (S:=OP b1 b2 b3)).trans x2 fun i _ e=> .inl e
  refine⟨some ⟨cb,0,none⟩,Cell.ah c2 rfl,r,hr.1,a2.row,sP (hc.no q_) hr fun q w3 hq x3=>⟨by rw[List.append_nil,List.length_map];exact hq.1,?_⟩⟩;have am3:=((am.ext x1 fun h=>h).ext x2 (Ne.symm e4)).ext x3 fun h=>h
  refine am3.oH (by rw[hq.1,hm.1]) fun w4 a4 x4=>?_
  have ai4:av w4.heap b3 3 .i64 [i]:=(((ai.ext x1 fun h=>h).ext x2 (Ne.symm e5)).ext x3 fun h=>h).ext x4 (Ne.symm e6);refine av.Ls (o:=0) ai4 (by simp) fun w5 a5 x5=>?_
  have c3:w3.heap[b]? = _:=(x3.au b (Array.getElem?_eq_some_iff.1 c2).1 fun h=>h).trans c2;have c4:w4.heap[b]? = _:=(x4.au b (Array.getElem?_eq_some_iff.1 c3).1 e2).trans c3;have c5:w5.heap[b]? = _:=(x5.au b (Array.getElem?_eq_some_iff.1 c4).1 e3).trans c4;have nC:Ext No w0 w5:=((q_.no x3).out x4 h2).out x5 h3;have y5:Ext (OP b1 b2 b3) w w5:=((y2.trans (x3.aF (S:=OP b1 b2 b3)) fun i _ e=>e).trans x4 fun i _ e=> .inr (.inl e)).trans x5 fun i _ e=> .inr (.inr e)
  exact⟨⟨c5,⟨r,hr,((a2.ext x3 fun h=>h).ext x4 e4).ext x5 e5⟩,⟨q,hq,a4.ext x5 e6⟩,⟨0,by omega,by omega,a5⟩,hc.no nC,h.ne⟩,nC,y5,0,by omega,by omega,a5⟩
 .rintro _ w6 ⟨h6,x6,y6,i,hi0,hi1,ai⟩;obtain⟨e1,e2,e3,e4,e5,e6⟩:=h6.ne;obtain⟨l,hl,al⟩:=h6.ctr;obtain⟨m,hm,am⟩:=h6.au;refine⟨i,Cell.ah ai rfl,Ar.i64 (by omega) (av.Ls (o:=0) ai (by simp) fun w7 a7 x7=>⟨i+1,Cell.ah a7 rfl,Ar.i64 (by omega) ⟨by omega,by omega,?_⟩⟩)⟩;have am7:=am.ext x7 e6;refine⟨_,am7.cell (by omega) (by rw[hm.1];omega),k _ w7 (hm.2.at (by rw[hm.1];omega)) ?_ (x6.out x7 h3) (y6.trans x7 fun i _ e=> .inr (.inr e))⟩;have c7:w7.heap[b]? = _:=(x7.au b (Array.getElem?_eq_some_iff.1 h6.c).1 e3).trans h6.c;exact⟨c7,⟨l,hl,al.ext x7 e5⟩,⟨m,hm,am7⟩,⟨i+1,by omega,by omega,a7⟩,hc.no (x6.out x7 h3),h6.ne⟩
end
section
variable {w w':Wd}
theorem D5{key aA text:Sl}{kl nl tl:List Int}{K:Sl->Int->Pw}(hk:aL w.heap key kl)(fC:B8 kl)(hlen:key.len=16∨key.len=32)(hn:aL w.heap aA nl)(Aa:B8 nl)(qj:aA.len=12)(ht:aL w.heap text tl)(KW:text.len<=65536)
  (k:∀b l w',av w'.heap b 5 .u8 l->w.heap.size<=b->l.length=text.len->B8 l->Ext No w w'->K ⟨some ⟨b,0,none⟩,text.len,text.len⟩ 0 w'):oX key aA text w K:=by
 apply Ji
 refine uY hk fC hlen fun cb w1 hc hcb x1=>If.bne (fun h=>absurd rfl h) fun _=>Mk (hn.no x1) Aa qj fun r w2 hr x2 b w3 n3=>⟨by rw[List.append_nil,List.length_map];exact hr.1,?_⟩
 have s3:=n3.at_;have z3:=n3.size;have ZG:=x1.size;have L6:=x2.size;have x3:Ext No w w3:=(x1.no x2).no n3.ext
 refine av.oH (l:=List.replicate 16 0) n3.get (by rw[hr.1];simp) fun w4 a4 x4=>If.bne (fun h=>absurd rfl h) fun _=>If.dec (fun h=>by omega) fun _=>⟨r,hr.1,a4.row,?_⟩
 have Q7:Ext No w w4:=x3.out x4 (by omega);have y4:Ext No w1 w4:=(x2.no n3.ext).out x4 (by omega);apply GX;refine fun b0 w5 n5 b1 w6 n6 b2 w7 n7 b3 w8 n8=>?_
 have s5:=n5.at_;have s6:=n6.at_;have s7:=n7.at_;have s8:=n8.at_;have z5:=n5.size;have z6:=n6.size;have z7:=n7.size;have z8:=n8.size;have JK:=Q7.size;have aa9:=y4.size;have a8:av w8.heap b3 3 .i64 [0]:=n8.get;refine a8.Ls (o:=0) (by simp) fun w9 a9 x9=>?_
 have y8:Ext No w4 w8:=((n5.ext.no n6.ext).no n7.ext).no n8.ext;have y9:Ext No w4 w9:=y8.out x9 (by omega);have c5:w5.heap[b0]? = some (.cells [Value.pointer (some ⟨cb,0,none⟩)].toArray 263 (0,0)):=n5.get;have mv:∀{i:Nat}{o:Obj}{u u':Wd}{S:Nat->Prop},u.heap[i]? = some o->Ext S u u'->¬ S i->u'.heap[i]? = some o:=fun {i o u u' S} h x hs=>(x.au i (Array.getElem?_eq_some_iff.1 h).1 hs).trans h
 have c9:=mv (mv (mv (mv c5 n6.ext fun h=>h) n7.ext fun h=>h) n8.ext fun h=>h) x9 (by omega);have b19:av w9.heap b1 166 .u8 r:=(((av.new n6).ext n7.ext fun h=>h).ext n8.ext fun h=>h).ext x9 (by omega);have b29:av w9.heap b2 166 .u8 (List.replicate 16 0):=((show av w7.heap b2 166 .u8 (List.replicate 16 0) from n7.get).ext n8.ext fun h=>h).ext x9 (by omega);have XU:Ext No w1 w9:=y4.no y9
 have sr:OO w9 b0 b1 b2 b3 cb:=⟨c9,⟨r,hr,b19⟩,⟨_,⟨by simp,B8.py _⟩,b29⟩,⟨16,by omega,by omega,a9⟩,hc.no XU,by omega⟩
 refine tE.arr (sz:=1) (k:= .u8) (n:=text.len) rfl rfl (by omega) (by omega) fun bs gG ZN XD fo afb=>?_
 have lt9:=XU.size;have afc:=a9.lt
 have adr:OO gG b0 b1 b2 b3 cb:=⟨mv sr.c fo fun h=>h,by obtain⟨l,h1,h2⟩:=sr.ctr;exact⟨l,h1,h2.ext fo fun h=>h⟩,by obtain⟨l,h1,h2⟩:=sr.au;exact⟨l,h1,h2.ext fo fun h=>h⟩,by obtain⟨i,h0,h1,h2⟩:=sr.at_;exact⟨i,h0,h1,h2.ext fo fun h=>h⟩,sr.cip.no fo,sr.ne⟩
 have afd:tl.length=text.len:=(aL.len ht).symm;refine⟨fun m t u=>t=(text.len:Int) - m/\m<=text.len/\Ext No w1 u/\OO u b0 b1 b2 b3 cb/\∃l,l.length=text.len/\B8 l/\av u.heap bs 5 .u8 l,⟨text.len,by omega,Nat.le_refl _,XU.no fo,adr,_,by simp,B8.py _,ZN⟩,?_⟩;rintro _ m t hU ⟨htm,hm,oF,ads,l,hl,hlB,al⟩;refine If.dec (fun h=>?_) fun h=>k bs l hU al (by omega) hl hlB (x1.no oF)
 refine Ix.int (ht.no (x1.no oF)) (by omega) (by omega) fun tb to _ dt=>⟨_,dt,DE (HB ads oF hc (by omega) (by omega) (by omega) fun q mw hq Q8 gV y12=>Nm.mk (Ix.arr (by omega) (by omega) ?_))⟩
 have adt:av mw.heap bs 5 .u8 l:=al.ext y12 (by rintro(e | e | e) <;> omega);refine av.Ls (o:=t.toNat * 1) adt (by omega) fun lK Ny mr=>Ar.i64 (by omega) ⟨m - 1,by omega,by omega,by omega,gV.out mr (by omega),?_,_,by simpa using hl,hlB.set (TA _ _ _) _,Ny⟩
 have Q9:Ext (fun i=>i=bs) mw lK:=mr;exact⟨mv Q8.c Q9 (by omega),by obtain⟨l,h1,h2⟩:=Q8.ctr;exact⟨l,h1,h2.ext Q9 (by omega)⟩,by obtain⟨l,h1,h2⟩:=Q8.au;exact⟨l,h1,h2.ext Q9 (by omega)⟩,by obtain⟨i,h0,h1,h2⟩:=Q8.at_;exact⟨i,h0,h1,h2.ext Q9 (by omega)⟩,hc.no (gV.out Q9 (by omega)),Q8.ne⟩
theorem Q_{a b:Sl}{al bl:List Int}{K:Sl->Int->Pw}(ra:aL w.heap a al)(rb:aL w.heap b bl)(hA:B8 al)(hBb:B8 bl)(hl:a.len=b.len)(hm:a.len<=65536)(k:∀s w',aD w'.heap w.heap.size s (tab al.length fun i=>xr (al.getD i 0) (bl.getD i 0))->Ext No w w'->K s 0 w'):uD a b w K:=by
 apply Jh;refine If.bne (fun h=>absurd (by rw[hl]) h) fun _=>?_
 have HA:al.length=a.len:=(aL.len ra).symm;refine tE.arr (sz:=1) (k:= .u8) (n:=a.len) rfl rfl (by omega) (by omega) fun bs w1 a1 XD x1 Tt=>?_
 let g:Nat->Nat->Int:=fun t i=>if i < t then xr (al.getD i 0) (bl.getD i 0) else 0
 have e0:tab a.len (g 0)=List.replicate (a.len * 1) 0:=fW (by rw[aB];simp) fun i hi=>by
  rw[aB]at hi;rw[bH hi];show(if i < 0 then _ else _)=_;rw[if_neg (by omega)];simp[List.getD_eq_getElem?_getD,List.getElem?_replicate];split <;> simp
 rw[<- e0]at a1;refine⟨fun m t u=>t=(a.len:Int) - m/\m<=a.len/\Ext No w u/\av u.heap bs 5 .u8 (tab a.len (g t.toNat)),⟨a.len,by omega,Nat.le_refl _,x1,a1⟩,?_⟩;rintro _ m t w2 ⟨htm,KV,x2,XG⟩;refine If.dec (fun h=>?_) fun h=>?_
 rotate_left
 .have e:tab a.len (g t.toNat)=tab al.length fun i=>xr (al.getD i 0) (bl.getD i 0):=by
   rw[HA];exact aQ fun i hi=>by show(if _ then _ else _)=_;rw[if_pos (by omega)]
  rw[e]at XG;exact k _ w2 (av.own XG (by omega) (by rw[aB];exact HA)) x2
 refine⟨Ext (·=bs) w2,(Ext.refl _ _).drew,Ix.int (ra.no x2) (by omega) (by omega) fun ab ao hab KY=>⟨al.getD t.toNat 0,?_,Ix.int (rb.no x2) (by omega) (by omega) fun bb bo T0 Vr=>⟨bl.getD t.toNat 0,?_,Nm.as (br (hA.get _) (hBb.get _)) (Ix.arr (by omega) (by omega) ?_)⟩⟩⟩
 .have dz:al.map (Value.int .u8)≠[]:=fun e=>by have:=congrArg List.length e;simp at this;subst this;simp at HA;omega
  exact af.bq KY (by have:=ra.lt dz hab;omega)
 .have z_:bl.length=b.len:=(aL.len rb).symm;have dz:bl.map (Value.int .u8)≠[]:=fun e=>by have:=congrArg List.length e;simp at this;subst this;simp at z_;omega
  exact af.bq Vr (by have:=rb.lt dz T0;omega)
 .have adu:av (aa w2).heap bs 5 .u8 (tab a.len (g t.toNat)):=XG;refine av.Ls (o:=t.toNat * 1) adu (by rw[aB];omega) fun w3 a3 x3=>?_
  have Ra:Ext (fun i=>i=bs) (aa w2) w3:=x3;refine⟨Ra.ae,Ar.i64 (by omega) ⟨m - 1,by omega,by omega,by omega,x2.drew.out Ra (by omega),?_⟩⟩;rw[Nat.mul_one,eB (g:=g (t+1).toNat)]at a3
  .exact a3
  .intro j _;show(if _ then _ else if _ then _ else _)=if _ then _ else _
   by_cases hj:j=t.toNat
   .rw[if_pos hj,if_pos (by omega),hj]
   .rw[if_neg hj];by_cases h2:j < t.toNat
    .rw[if_pos h2,if_pos (by omega)]
    .rw[if_neg h2,if_neg (by omega)]
theorem Rb:Sem.run pz (Instr.build 166 #[]) w = .ok (.agg (List.map (Value.int .u8) (List.replicate 16 0)++[]).toArray) w:=by kernel_rfl
def tagL(kl nl al bl:List Int):List Int:=qq (ah (D2 (co (oP kl (List.replicate 16 0))) al bl)) (oP kl (fV nl)) 0
theorem nr{kl nl al bl:List Int}(hk:B8 kl)(hn:B8 nl):cE (tagL kl nl al bl):=iO (Lw _) (np hk (hn.append fun x hx=>by simp at hx;omega)).2 0
theorem FX{key aA dD b:Sl}{kl nl al bl:List Int}{K:Sl->Int->Pw}(hk:aL w.heap key kl)(fC:B8 kl)(hlen:key.len=16∨key.len=32)(hn:aL w.heap aA nl)(Aa:B8 nl)(qj:aA.len=12)(ra:aL w.heap dD al)(ba:B8 al)(rb:aL w.heap b bl)(bb:B8 bl)(HA:dD.len<=65536)(z_:b.len<=65536)
  (k:∀s w',aD w'.heap w.heap.size s (tagL kl nl al bl)->Ext No w w'->K s 0 w'):qy key aA dD b w K:=by
 apply Oz;have hr:cE (fV nl):=qZ (by have:=aL.len hn;omega) Aa
 refine zo hk fC hlen fun cb w1 hc hcb x1=>If.bne (fun h=>absurd rfl h) fun _=>Bv (hn.no x1) Aa qj fun w2 x2 b1 w3 n3=>⟨by rw[List.append_nil,List.length_map];exact hr.1,?_⟩
 have s3:=n3.at_;have z3:=n3.size;have ZG:=x1.size;have L6:=x2.size;have x3:Ext No w w3:=(x1.no x2).no n3.ext
 refine av.oH (l:=List.replicate 16 0) n3.get (by rw[hr.1];simp) fun w4 a4 x4=>If.bne (fun h=>absurd rfl h) fun _=>⟨List.replicate 16 0,by simp,w4,Rb,?_⟩
 have Q7:Ext No w w4:=x3.out x4 (by omega);have y4:Ext No w1 w4:=(x2.no n3.ext).out x4 (by omega);have hh:cE (oP kl (List.replicate 16 0)):=np fC (B8.py _);have S_:cE (oP kl (fV nl)):=np fC hr.2
 refine pZ (hc.no y4) ⟨by simp,B8.py _⟩ fun w6 x6 b2 w7 n7=>⟨by rw[List.append_nil,List.length_map];exact hh.1,av.oH (l:=List.replicate 16 0) n7.get (by rw[hh.1];simp) fun w8 a8 x8=>⟨_,hr.1,?_,?_⟩⟩
 .exact(((a4.ext x6 fun h=>h).ext n7.ext fun h=>h).ext x8 (by have:=x6.size;have:=a4.lt;have:=n7.at_;omega)).row
 have s7:=n7.at_;have z7:=n7.size;have JK:=Q7.size;have lt6:=x6.size;have ac5:=a4.lt;have y8:Ext No w4 w8:=(x6.no n7.ext).out x8 (by omega);have lt8:=y8.size
 refine pZ (hc.no (y4.no y8)) hr fun w9 x9 b3 gG ji=>⟨by rw[List.append_nil,List.length_map];exact S_.1,av.oH (l:=List.replicate 16 0) ji.get (by rw[S_.1];simp) fun hU XV oF=>?_⟩
 have XW:=ji.at_;have Tc:=ji.size;have lt9:=x9.size;have adv:=a8.lt;have XX:Ext No w8 hU:=(x9.no ji.ext).out oF (by omega);have A_:Ext No w hU:=(Q7.no y8).no XX
 have hq:cE (ah (D2 (co (oP kl (List.replicate 16 0))) al bl)):=⟨aB _ _,Lw _⟩
 refine⟨_,hh.1,(((a8.ext x9 fun h=>h).ext ji.ext fun h=>h).ext oF (by omega)).row,Mi hh (ra.no A_) (rb.no A_) ba bb (by omega) (by omega) fun mw gV b4 lK Rc=>⟨by rw[List.append_nil,List.length_map];exact hq.1,av.oH (l:=List.replicate 16 0) Rc.get (by rw[hq.1];simp) fun pY S9 mJ=>?_⟩⟩;have s13:=Rc.at_;have z13:=Rc.size;have adw:=XX.size;have afe:=gV.size;have aff:=XV.lt;have y14:Ext No hU pY:=(gV.no Rc.ext).out mJ (by omega);have adx:av pY.heap b3 166 .u8 (oP kl (fV nl)):=((XV.ext gV fun h=>h).ext Rc.ext fun h=>h).ext mJ (by omega);refine⟨fun _=>True,trivial,Cut.arr (by decide) (by decide) (by decide) (by decide) (Cut.arr (by decide) (by decide) (by decide) (by decide) ?_)⟩;have ad:av (aa pY).heap b4 166 .u8 (ah (D2 (co (oP kl (List.replicate 16 0))) al bl)):=S9;have ad3:av (aa pY).heap b3 166 .u8 (oP kl (fV nl)):=adx;have JU:Ext No w pY:=A_.no y14;have aa9:=JU.size;unfold tagL at k;generalize ah (D2 (co (oP kl (List.replicate 16 0))) al bl)=q at *;generalize oP kl (fV nl)=msk at *;have ady:(q.drop 0).take 16=q:=by rw[List.drop_zero,List.take_of_length_le (by rw[hq.1];omega)]
 have adz:(msk.drop 0).take 16=msk:=by rw[List.drop_zero,List.take_of_length_le (by rw[S_.1];omega)]
 have r1:=ad.rd (o:=0) (n:=16) (c:=16) (by rw[hq.1];decide) (by decide);have r3:=ad3.rd (o:=0) (n:=16) (c:=16) (by rw[S_.1];decide) (by decide);rw[ady]at r1;rw[adz]at r3
 refine Q_ r1 r3 hq.2 S_.2 rfl (by show 16<=65536;omega) fun s kQ Te gH=>⟨trivial,k s kQ ?_ (JU.no gH.ae)⟩
 have e:(tab q.length fun i=>xr (q.getD i 0) (msk.getD i 0))=qq q msk 0:=by
  rw[hq.1];exact aQ fun i _=>by rw[show 16 * 0+i=i by omega]
 rw[e]at Te;exact Te.mono aa9
theorem Re{key aA dD b:Sl}{kl nl al bl:List Int}{K:Sl->Int->Pw}(hk:aL w.heap key kl)(fC:B8 kl)(hlen:key.len=16∨key.len=32)(hn:aL w.heap aA nl)(Aa:B8 nl)(qj:aA.len=12)(ra:aL w.heap dD al)(ba:B8 al)(rb:aL w.heap b bl)(bb:B8 bl)(HA:dD.len<=65536)(z_:b.len<=65536)
  (k:∀s l w',aD w'.heap w.heap.size s l->l.length=16->B8 l->Ext No w w'->K s 0 w'):qy key aA dD b w K:=
 FX hk fC hlen hn Aa qj ra ba rb bb HA z_ fun s w' o x=>k s _ w' o (nr fC Aa).1 (nr fC Aa).2 x
theorem D6{key aA:Sl}{K:Int->Pw}(hlen:key.len=16∨key.len=32)(qj:aA.len=12)(k:K 0 w):oW key aA w K:=by
 apply Je;exact If.bne (fun h=>If.bne (fun h2=>by omega) fun _=>If.bne (fun h=>by omega) fun _=>k) fun _=>If.bne (fun h=>by omega) fun _=>k
theorem zv{key aA dD text:Sl}{kl nl al tl:List Int}{K:Sl->Int->Pw}(hk:aL w.heap key kl)(fC:B8 kl)(hlen:key.len=16∨key.len=32)(hn:aL w.heap aA nl)(Aa:B8 nl)(qj:aA.len=12)(ra:aL w.heap dD al)(ba:B8 al)(HA:dD.len<=65536)(ht:aL w.heap text tl)(KW:text.len<=65536)(ht1:1<=text.len)
  (k:∀s l w',aD w'.heap w.heap.size s l->l.length=text.len+16->B8 l->Ext No w w'->K s 0 w'):rT key aA dD text w K:=by
 apply L3;refine D6 hlen qj (If.bne (fun h=>absurd rfl h) fun _=>⟨fun u=>u=w,If.dec (fun h=>by omega) fun _=>If.dec (fun h=>by omega) fun _=>rfl,?_⟩);rintro _ w2 rfl;refine D5 hk fC hlen hn Aa qj ht KW fun b l w3 a3 tq ZO hB3 x3=>If.bne (fun h=>absurd rfl h) fun _=>?_
 have o3:aD w3.heap w2.heap.size ⟨some ⟨b,0,none⟩,text.len,text.len⟩ l:=av.own a3 tq ZO;refine Re (hk.no x3) fC hlen (hn.no x3) Aa qj (ra.no x3) ba o3.rd hB3 HA KW fun s4 l4 w4 o4 Tf hB4 x4=>?_
 refine Cut.arr (by decide) (by show(0:Int)<=(text.len:Int);omega) (Int.le_refl _) (by show(0:Int) < (text.len:Int);omega) ?_
 have o34:aD w4.heap w2.heap.size ⟨some ⟨b,(0:Int).toNat,none⟩,((text.len:Int) - 0).toNat,((text.len:Int) - 0).toNat⟩ l:=by
  have e:((text.len:Int) - 0).toNat=text.len:=by omega
  rw[e];exact o3.no x4
 have PW:s4.len=16:=by rw[aD.len o4];exact Tf
 have TY:=x3.size;have JK:=x4.size;refine bO o34 (by omega) o4.rd.src (by show(((text.len:Int) - 0).toNat+s4.len) * 1<=_;omega) fun s5 w5 o5 _ x5 _=>?_
 rw[<- List.map_append]at o5;exact k s5 (l++l4) w5 o5 (by simp[ZO,Tf]) (hB3.append hB4) ((x3.no x4).trans x5 fun i hi e=>by simp[Sl.au]at e;omega)
end
end Go.Proofs.YtefdekemmnnclaaGreat
namespace Go.V
theorem zw(n:Nat)(f:Nat->Int):tab (n+1) f=tab n f++[f n]:=by simp[tab,List.range_succ]
theorem Ul{a b:Int}(ha:By a)(hb:By b):xr a b=0 ↔ a=b:=by
 unfold xr;constructor
 .intro h;have h0:a.toNat ^^^ b.toNat=0:=by omega
  have h1:a.toNat=b.toNat:=Nat.eq_of_testBit_eq fun i=>by
   have h2:(a.toNat.testBit i ^^ b.toNat.testBit i)=false:=by rw[<- Nat.testBit_xor,h0,Nat.zero_testBit]
   revert h2;cases a.toNat.testBit i <;> cases b.toNat.testBit i <;> decide
  omega
 .rintro rfl;simp
end Go.V
namespace Go.Proofs.YtefdekemmnnclaaGreat
open Go.V
section
variable {w w':Wd}
theorem re{w1:Wd}{base b:Nat}{s:Sl}{l:List Int}{v:Int}{K:Sl->Pw}(n1:Bk w (.cells [Value.int .u8 v].toArray 5) b w1)(o:aD w.heap base s l)(hb:base<=w.heap.size)(hl:l.length<=1000000)
  (hk:∀s' w',aD w'.heap base s' (l++[v])->Ext (fun i=>s.au=some i) w w'->(s'.au=s.au∨∃b,s'.au=some b/\w.heap.size<=b)->K s' w'):aU pz 25 25 s (.slice (some (Addr.mk b 0 none)) 1 1) K w1:=by
 have o1:=o.no n1.ext;have hs:=aD.len o;have hz:=n1.size;have r1:aL w1.heap ⟨some ⟨b,0,none⟩,1,1⟩ [v]:=(aP.new (n:=1) (sz:=1) n1 rfl (fun u hu=>by rw[List.mem_singleton]at hu;subst hu;rfl)).rd;refine bO o1 (by omega) r1.src (by show(s.len+1) * 1<=_;omega) fun s' w' o' _ x' EE=>hk s' w' ?_ (n1.ext.aF.trans x' fun _ _ h=>h) ?_
 .rw[<- List.map_append]at o';exact o'
 .rcases EE with h | ⟨b',h1,h2⟩
  .exact .inl h
  .exact .inr ⟨b',h1,by omega⟩
theorem zx{n size:Int}{K:Sl->Bool->Pw}(hn:lY n)(h1:1<=size)(h8:size<=8)(k:∀s ok w',aD w'.heap w.heap.size s (be size.toNat n)->Ext No w w'->K s ok w'):lA n size w K:=by
 apply L5;refine tE.mk (by omega) (Int.le_refl _) (by omega) (by omega) fun b w3 jH=>?_
 have o3:=aP.make (l:=size.toNat) jH (Nat.le_refl _) (fun v hv=>by rw[List.mem_singleton]at hv;subst hv;rfl);have e3:(List.replicate size.toNat [Value.int .u8 0]).flatten=(List.replicate size.toNat (0:Int)).map (Value.int .u8):=by simp[List.flatten_replicate_singleton]
 rw[e3]at o3;refine⟨fun m m' i w'=>∃j:Nat,i=j/\j<=size.toNat/\m=size.toNat - j/\m'=n / 256 ^ j/\aD w'.heap w.heap.size ⟨some ⟨b,0,none⟩,size.toNat,size.toNat⟩ (List.replicate (size.toNat - j) 0++(be size.toNat n).drop (size.toNat - j))/\Ext No w w',⟨size.toNat,0,rfl,by omega,by omega,by omega,?_,jH.ext⟩,?_⟩
 .rw[Nat.sub_zero,List.drop_eq_nil_of_le (by rw[aI];exact Nat.le_refl _),List.append_nil];exact o3
 rintro _ m0 n1 i w4 ⟨j,rfl,hj,hm,rfl,o4,x4⟩;have hq:0<=n / 256 ^ j:=Int.ediv_nonneg hn.1 (Int.le_of_lt (Int.pow_pos (by decide)));have hq2:n / 256 ^ j<=n:=Int.ediv_le_self _ hn.1;refine If.dec (fun h=>?_) (fun h=>?_)
 .refine Ar.i64 (by omega) (Ar.i64 (by omega) ⟨by decide,Nm.as (cQ hq) (Ar.KS ?_)⟩);rw[Int.emod_emod_of_dvd _ (Int.dvd_refl 256)]
  refine aH.own o4 (by omega) (by show size - 1 - (j:Int) < ((size.toNat:Nat):Int);omega) rfl fun w5 o5 x5 z5=>⟨by decide,?_⟩
  rw[fB hq];refine Ar.u64 (by have:=hn.2;omega) (Ar.i64 (by omega) ⟨size.toNat - (j+1),by omega,j+1,by omega,by omega,rfl,?_,?_,?_⟩)
  .rw[Int.ediv_ediv_of_nonneg (Int.le_of_lt (Int.pow_pos (by decide))),Int.pow_succ]
  .have e:(size - 1 - (j:Int)).toNat=size.toNat - (j+1):=by omega
   rw[e,<- List.map_set]at o5;have hk:size.toNat - j=(size.toNat - (j+1))+1:=by omega
   have:(List.replicate (size.toNat - j) (0:Int)++(be size.toNat n).drop (size.toNat - j)).set (size.toNat - (j+1)) (n / 256 ^ j % 256)=List.replicate (size.toNat - (j+1)) 0++(be size.toNat n).drop (size.toNat - (j+1)):=by
    rw[hk,List.replicate_succ',List.append_assoc,List.set_append_right _ _ (by simp)];simp only[List.length_replicate,Nat.sub_self,List.singleton_append,List.set_cons_zero];rw[<- Mc (k:=size.toNat) (j:=j) (by omega),show size.toNat - 1 - j=size.toNat - (j+1) by omega];rw[List.getD_eq_getElem?_getD,List.getElem?_eq_getElem (by rw[aI];omega),Option.getD_some,<- List.drop_eq_getElem_cons]
   rw[this]at o5;exact o5
  .exact x4.trans x5 fun q hq h=>by
    have h:=Option.some.inj h;rw[<- h]at hq;have:=jH.at_;simp only at hq;omega
 .have e:size.toNat - j=0:=by omega
  rw[e]at o4;exact k _ _ _ (by simpa using o4) x4
theorem sR{b:Sl}{l:List Int}{K:Int->Pw}(hb:aL w.heap b l)(h8:B8 l)(h2:l.length<=8)(k:K (num l) w):gN b w K:=by
 apply DT;have hl:=aL.len hb;refine⟨fun m n t w'=>w'=w/\∃j:Nat,t=j/\j<=l.length/\m=l.length - j/\n=num (l.take j),⟨l.length,rfl,0,rfl,by omega,by omega,by simp[num]⟩,?_⟩;rintro _ m0 n t w2 ⟨rfl,j,rfl,hj,hm,rfl⟩;refine If.dec (fun h=>?_) (fun h=>?_)
 .have hx:=h8.get j;have aV:num (l.take j) < 256 ^ j:=by have:=uZ (h8.take j);rwa [List.length_take,Nat.min_eq_left hj]at this
  have h0:=num_nonneg (h8.take j);have hp:(256:Int) ^ (j+1)<=256 ^ 8:=Ua (by omega);rw[Int.pow_succ]at hp;have hp8:(256:Int) ^ 8=18446744073709551616:=by decide
  refine Ar.u64 (by omega) (Ix.int hb (by omega) (by omega) fun bb o _ hc=>⟨_,hc,?_⟩);rw[Int.toNat_natCast];refine Ar.u64 (by omega) (Ar.u64 (by omega) (Ar.i64 (by omega) ⟨l.length - (j+1),by omega,rfl,j+1,by omega,by omega,rfl,?_⟩));rw[AZ (by omega),zr];omega
 .have e:j=l.length:=by omega
  rw[e,List.take_length];exact k
theorem D7{b:Sl}{l:List Int}{K:Sl->Pw}(hb:aL w.heap b l)(hl:l.length<=1000000)(k:∀s w',aD w'.heap w.heap.size s l->Ext No w w'->K s w'):mX b w K:=by
 apply Hm;have z_:=aL.len hb;refine Ar.i64 (by omega) (tE.mk (by omega) (by omega) (by omega) (by omega) fun bs w1 n1=>?_);have ec:((b.len:Int)+3).toNat=l.length+3:=by omega
 have el:((b.len:Int)).toNat=l.length:=by omega
 have g1:=n1.get;rw[ec]at g1 ⊢;rw[el];have e3:(List.replicate (l.length+3) [Value.int .u8 0]).flatten=(List.replicate (l.length+3) (0:Int)).map (Value.int .u8):=by simp[List.flatten_replicate_singleton]
 rw[e3]at g1;have s1:=n1.at_;refine lE (row:=(List.replicate (l.length+3) (0:Int)).map (Value.int .u8)) rfl g1 (hb.no n1.ext) (by simp;omega) fun w2 hw=>?_
 have g2:=hw.get g1;have em:min b.len l.length * 1=l.length:=by omega
 have e:setL ((List.replicate (l.length+3) (0:Int)).map (Value.int .u8)) 0 ((l.map (Value.int .u8)).take (min b.len l.length * 1))=l.map (Value.int .u8)++[Value.int .u8 0,Value.int .u8 0,Value.int .u8 0]:=by
  rw[em,List.take_of_length_le (l:=l.map (Value.int .u8)) (by simp),gJ _ _ _ (by simp)];simp only[List.take_zero,List.nil_append,List.map_replicate,List.drop_replicate,Nat.zero_add,List.length_map];rw[show l.length+3 - l.length=3 by omega];rfl
 have g2':w2.heap[bs]? = some (.cells (l.map (Value.int .u8)++[Value.int .u8 0,Value.int .u8 0,Value.int .u8 0]).toArray 5 (0,0)):=by rw[<- e];exact g2
 refine k _ w2 ⟨by simp,.inr ⟨bs,_,rfl,by omega,g2',by simp,by show l.length<=l.length+3;omega⟩,cZ⟩ (n1.ext.trans hw.ext fun i hi h=>by subst h;omega)
theorem NF{l m:List Int}(hl:B8 l)(hm:B8 m):(ByteArray.toList ⟨(FJ l).toArray⟩ == ByteArray.toList ⟨(FJ m).toArray⟩)=decide (l=m):=by
 rw[toList_mk,toList_mk,Bool.eq_iff_iff,beq_iff_eq,decide_eq_true_iff];exact Gu hl hm
theorem xR{a b:Sl}{x y:List Int}{K:Bool->Pw}(ha:aL w.heap a x)(hb:aL w.heap b y)(hx:B8 x)(hy:B8 y)(k:K (decide (x=y)) w):jN a b w K:=by
 apply Hj;refine mD.mk ha (fun b o v hv=>Cell.mk hv) (mD.mk hb (fun b o v hv=>Cell.mk hv) ?_);rw[NF hx hy];exact k
theorem D8{a b:Sl}{x y:List Int}{K:Bool->Pw}(ha:aL w.heap a x)(hb:aL w.heap b y)(hx:B8 x)(hy:B8 y)(hl:x.length<=1000000)(k:∀w',Ext No w w'->K (decide (x=y)) w'):mT a b w K:=by
 apply GW;have HA:=aL.len ha;have z_:=aL.len hb;refine If.bne (fun h=>?_) fun h=>?_
 .have:decide (x=y)=false:=decide_eq_false fun e=>by subst e;omega
  rw[<- this];exact k w (Ext.refl _ _)
 refine⟨fun m off t u=>t=(x.length:Int) - m/\m<=x.length/\By off/\Ext No w u/\(off=0 ↔ ∀i,i < t.toNat->x.getD i 0=y.getD i 0),⟨x.length,by omega,Nat.le_refl _,⟨by decide,by decide⟩,Ext.refl _ _,⟨fun _ i hi=>by simp at hi,fun _=>rfl⟩⟩,?_⟩;rintro _ m off t u ⟨ht,hm,ho,xu,aba⟩;refine If.dec (fun h1=>?_) fun h1=>?_
 .refine⟨Ext No u,(Ext.refl _ _).drew,Ix.int (ha.no xu) (by omega) (by omega) fun ab ao _ KY=>⟨x.getD t.toNat 0,af.no (by have:=KY;unfold Cell at this;rwa [dC]at this),Ix.int (hb.no xu) (by omega) (by omega) fun bb bo _ Vr=>⟨y.getD t.toNat 0,af.no (by have:=Vr;unfold Cell at this;rwa [dC]at this),?_⟩⟩⟩;have hxt:=hx.get t.toNat;have hyt:=hy.get t.toNat;obtain⟨z1,z2,z3⟩:=tj ho (kP hxt hyt);refine Nm.as (br hxt hyt) (Nm.mk (Ar.i64 (by omega) ⟨m - 1,by omega,by omega,by omega,⟨z1,z2⟩,xu.drew,?_⟩));rw[z3,aba,Ul hxt hyt,show(t+1).toNat=t.toNat+1 by omega];constructor
  .rintro⟨p,q⟩ i hi;by_cases e:i=t.toNat
   .rw[e];exact q
   .exact p i (by omega)
  .intro p;exact⟨fun i hi=>p i (by omega),p _ (by omega)⟩
 .have:(off == 0)=decide (x=y):=by
   rw[Bool.eq_iff_iff,beq_iff_eq,decide_eq_true_iff,aba];constructor
   .intro p;exact fW (by omega) fun i hi=>p i (by omega)
   .intro p i _;rw[p]
  rw[this];exact k u xu
theorem xS{key:Sl}{K:Bool->Pw}(k:K (decide (key.len=16∨key.len=32)) w):me key w K:=by
 apply Jw;refine If.beq (fun h=>?_) fun h=>?_
 .rw[decide_eq_true (.inl (by omega))]at k;exact k
 .have:(((key.len:Int)) == 32)=decide (key.len=16∨key.len=32):=by
   rw[Bool.eq_iff_iff,beq_iff_eq,decide_eq_true_iff];omega
  rw[this];exact k
theorem Ba{s0 wl:List Int}{wv:Sl}{j:Nat}{K:List Int->Pw}(h0:cE s0)(Ig:B8 wl)(hw:aL w.heap wv wl)(hj:16 * j+16<=wl.length)(hj2:j<=100)(k:∀w',Ext No w w'->K (qq s0 wl j) w'):mg s0 wv (j:Int) w K:=by
 apply JD;refine fun b w1 n1 b1 w2 n2=>?_
 have s1:=n1.at_;have s2:=n2.at_;have z1:=n1.size;have x2:Ext No w w2:=n1.ext.no n2.ext;have OG:=aL.len hw
 let g:Nat->Nat->Int:=fun t i=>if i < t then xr (s0.getD i 0) (wl.getD (16 * j+i) 0) else s0.getD i 0
 have e0:tab 16 (g 0)=s0:=(aQ fun i _=>by show(if i < 0 then _ else _)=_;rw[if_neg (by omega)]).trans (mR h0.1).symm;refine⟨fun m t w'=>t=16 - (m:Int)/\m<=16/\Ext No w w'/\av w'.heap b1 166 .u8 (List.replicate 16 0)/\av w'.heap b 166 .u8 (tab 16 (g t.toNat)),⟨16,by omega,by omega,x2,n2.get,by rw[show((0:Int)).toNat=0 from rfl,e0];exact(av.new n1).ext n2.ext fun h=>h⟩,?_⟩;rintro _ m t w3 ⟨ht,hm,x3,a1,a⟩;refine If.dec (fun h=>?_) fun h=>?_
 .have ev:(tab 16 (g t.toNat)).getD t.toNat 0=s0.getD t.toNat 0:=by
   rw[bH (by omega)];show(if _ then _ else _)=_;rw[if_neg (by omega)]
  have Oh:=a.held (S:=No) (fun h=>h) (t:=t) (by omega) (by rw[aB];omega);rw[ev]at Oh;refine⟨Ext No w3,(Ext.refl _ _).drew,by omega,by omega,_,Oh,Ar.i64 (by omega) (Ar.i64 (by omega) (Ix.int (hw.no x3) (by omega) (by omega) fun bb bo _ hc=>⟨_,af.no (by have:=hc;unfold Cell at this;rwa [dC]at this),Nm.as (br (h0.2.get _) (Ig.get _)) ⟨by omega,by omega,?_⟩⟩))⟩;have a':av (aa w3).heap b 166 .u8 (tab 16 (g t.toNat)):=a;have lt:=x3.size;refine a'.st (by omega) (by rw[aB];omega) fun w4 a4 x4=>Ar.i64 (by omega) ⟨m - 1,by omega,by omega,by omega,x3.drew.out x4 (by omega),?_,?_⟩
  .exact(show av (aa w3).heap b1 166 .u8 _ from a1).ext x4 (by omega)
  .rw[eB (g:=g (t+1).toNat)]at a4
   .exact a4
   .intro i _;show(if _ then _ else if _ then _ else _)=if _ then _ else _
    by_cases hi:i=t.toNat
    .rw[if_pos hi,if_pos (by omega),hi];congr 2;omega
    .rw[if_neg hi];by_cases h2:i < t.toNat
     .rw[if_pos h2,if_pos (by omega)]
     .rw[if_neg h2,if_neg (by omega)]
 .have e:tab 16 (g t.toNat)=qq s0 wl j:=aQ fun i hi=>by show(if _ then _ else _)=_;rw[if_pos (by omega)]
  rw[e]at a;exact qO a a1 (aB _ _) (by simp) fun w' x'=>k w' (x3.out x' (by omega))
theorem HC{s0:List Int}{q:Nat}{K:Int->Int->Int->Int->Pw}(h0:s0.length=16)(hq:q < 4)(k:∀w',Ext No w w'->K (s0.getD (4 * q) 0) (s0.getD (4 * q+1) 0) (s0.getD (4 * q+2) 0) (s0.getD (4 * q+3) 0) w'):nY s0 (q:Int) w K:=by
 apply DU;refine fun b w1 n1 b1 w2 n2=>?_
 have s1:=n1.at_;have s2:=n2.at_;have z1:=n1.size;have x2:Ext No w w2:=n1.ext.no n2.ext;have a:av w2.heap b 166 .u8 s0:=(av.new n1).ext n2.ext fun h=>h
 have hh:∀i:Nat,i < 16->∀t:Int,t=(i:Int)->af (Ext No w2) ((Addr.mk b 0 none).add (Int.toNat t * 1)) (.int .u8 (s0.getD i 0)):=fun i hi t ht=>by
  have:=a.held (S:=No) (fun h=>h) (t:=t) (by omega) (by omega);rw[show t.toNat=i by omega]at this ⊢;exact this
 refine⟨Ext No w2,(Ext.refl _ _).drew,Ar.i64 (by omega) ⟨by omega,by omega,_,hh (4 * q) (by omega) _ (by omega),Ar.i64 (by omega) (Ar.i64 (by omega) ⟨by omega,by omega,_,hh (4 * q+1) (by omega) _ (by omega),Ar.i64 (by omega) (Ar.i64 (by omega) ⟨by omega,by omega,_,hh (4 * q+2) (by omega) _ (by omega),Ar.i64 (by omega) (Ar.i64 (by omega) ⟨by omega,by omega,_,hh (4 * q+3) (by omega) _ (by omega),?_⟩)⟩)⟩)⟩⟩;refine⟨_,_,_,_,aa w2,uW,(Ext.refl _ _).drew,rfl,?_⟩;have a2:av (aa w2).heap b1 275 .u8 [0,0,0,0]:=n2.get
 refine av.oH (l':=[_,_,_,_]) a2 rfl fun w4 a4 x4=>⟨_,Cell.ah a4 rfl,_,Cell.ah a4 rfl,_,Cell.ah a4 rfl,_,Cell.ah a4 rfl,k w4 ?_⟩
 exact x2.drew.out x4 (by omega)
theorem JV{s0:List Int}{K:List Int->Pw}(h0:s0.length=16)(k:∀w',Ext No w w'->K (Nl s0) w'):pS s0 0 1 2 3 w K:=by
 apply Fg;refine fun b w1 n1 b1 w2 n2 b2 w3 n3 b3 w4 n4=>?_
 have s1:=n1.at_;have s2:=n2.at_;have s3:=n3.at_;have s4:=n4.at_;have z1:=n1.size;have z2:=n2.size;have z3:=n3.size;have x4:Ext No w w4:=((n1.ext.no n2.ext).no n3.ext).no n4.ext
 let g:Nat->Nat->Nat->Int:=fun p q i=>if i % 4 < p∨(i % 4=p/\i / 4 < q) then s0.getD (4 * ((i / 4+i % 4) % 4)+i % 4) 0 else 0
 let Inv:Wd->List Int->Prop:=fun u l=>Ext No w u/\av u.heap b 166 .u8 s0/\av u.heap b1 274 .i64 [0,1,2,3]/\av u.heap b2 166 .u8 (List.replicate 16 0)/\av u.heap b3 166 .u8 l
 have i4:Inv w4 (tab 16 (g 0 0)):=⟨x4,((((av.new n1).ext n2.ext fun h=>h).ext n3.ext fun h=>h).ext n4.ext fun h=>h),(((show av w2.heap b1 274 .i64 [0,1,2,3] from n2.get).ext n3.ext fun h=>h).ext n4.ext fun h=>h),(show av w3.heap b2 166 .u8 (List.replicate 16 0) from n3.get).ext n4.ext fun h=>h,n4.get⟩
 refine⟨fun m p u=>p=4 - (m:Int)/\m<=4/\Inv u (tab 16 (g p.toNat 0)),⟨4,by omega,by omega,i4⟩,?_⟩;rintro _ m p w5 ⟨hp,hm,i5⟩;refine If.dec (fun h=>?_) fun h=>?_
 .refine⟨fun m' q u=>q=4 - (m':Int)/\m'<=4/\Inv u (tab 16 (g p.toNat q.toNat)),⟨4,by omega,by omega,i5⟩,?_⟩;rintro _ m2 q w6 ⟨hq,KV,i6⟩;refine If.dec (fun h2=>?_) fun h2=>Ar.i64 (by omega) ⟨m - 1,by omega,by omega,by omega,?_⟩
  .obtain⟨x6,a6,c6,e6,f6⟩:=i6
   have cv:[0,1,2,3].getD p.toNat 0=p:=by
    have h4:p=0∨p=1∨p=2∨p=3:=by omega
    rcases h4 with rfl | rfl | rfl | rfl <;> rfl
   have c1:=c6.cell (t:=p) (by omega) (by show p < 4;omega);rw[cv]at c1;have em:Int.tmod (q+p) 4=(q+p) % 4:=cQ (by omega);refine Ar.i64 (by omega) (Ar.i64 (by omega) ⟨by omega,by omega,p,c1,Ar.i64 (by omega) ⟨by decide,Nm.as em (Ar.i64 (by omega) (Ar.i64 (by omega) ⟨by omega,by omega,_,a6.cell (by omega) (by omega),by omega,by omega,?_⟩))⟩⟩);have lt:=x6.size;refine f6.st (by omega) (by rw[aB];omega) fun w7 f7 x7=>Ar.i64 (by omega) ⟨m2 - 1,by omega,by omega,by omega,x6.out x7 (by omega),a6.ext x7 (by omega),c6.ext x7 (by omega),e6.ext x7 (by omega),?_⟩
   rw[eB (g:=g p.toNat (q+1).toNat)]at f7
   .exact f7
   .intro i hi;show(if _ then _ else if _ then _ else _)=if _ then _ else _
    by_cases Hv:i=(4 * q+p).toNat
    .have VG:i / 4=q.toNat:=by omega
     have hi4:i % 4=p.toNat:=by omega
     rw[if_pos Hv,if_pos (by omega),VG,hi4];congr 1;omega
    .rw[if_neg Hv];by_cases h3:i % 4 < p.toNat∨(i % 4=p.toNat/\i / 4 < q.toNat)
     .rw[if_pos h3,if_pos (by omega)]
     .rw[if_neg h3,if_neg (by omega)]
  .have e:tab 16 (g p.toNat q.toNat)=tab 16 (g (p+1).toNat 0):=aQ fun i hi=>by
    show(if _ then _ else _)=if _ then _ else _
    by_cases h3:i % 4 < p.toNat∨(i % 4=p.toNat/\i / 4 < q.toNat)
    .rw[if_pos h3,if_pos (by omega)]
    .rw[if_neg h3,if_neg (by omega)]
   rw[<- e];exact i6
 .obtain⟨x5,a5,c5,e5,f5⟩:=i5;have e:tab 16 (g p.toNat 0)=Nl s0:=aQ fun i hi=>by show(if _ then _ else _)=_;rw[if_pos (by omega)]
  rw[e]at f5;exact qO f5 e5 (aB _ _) (by simp) fun w' x'=>k w' (x5.out x' (by omega))
end
end Go.Proofs.YtefdekemmnnclaaGreat
namespace Go.V
theorem NG{P:Program}{t t' e:TypeId}{d:TypeDesc}{ie:TypeInfo}{z:Value}{w:Wd}{s:Sl}{x:Value}{n sz:Nat}{cs xs:List Value}{K:Sl->Pw}
  (ht:P.underlying t=some (.slice e)) (Ie:P.underlying t'=some d) (hd:∀k,d ≠ .int k) (hi:P.info? e=some ie) (hz:ie.zero=some z) (uh:ie.size=sz) (S2:z.cells.size=sz) (hbp:0 < ie.bytes)
  (rd:Rd w.heap s sz cs) (jB:s.cap < s.len+n) (src:Src P w x sz n xs) (hb:(s.len+n) * ie.bytes<=140737488355328)
  (hk:∀s' w',aP w'.heap w.heap.size e sz s' (cs++xs)->s'.len=s.len+n->Ext No w w'->K s' w'):aU P t t' s x K w:=by
 have jA:¬ s.len+n<=s.cap:=by omega
 have FI:=growslice_fits (bytes:=ie.bytes) jB hb;have ym:=grownCap_ge (w:=w) (need:=s.len+n) (old:=s.cap) (e:=e);have hold:=(rd.src (P:=P)).get (aa w) rfl;have jH:=src.get (aa w) rfl;refine⟨⟨some ⟨w.heap.size,0,none⟩,s.len+n,grownCap w (s.len+n) s.cap e⟩,World.cI (aa w) (.cells (cs++(xs++(Builtin.zeroCells z.cells (grownCap w (s.len+n) s.cap e - (s.len+n))).toList)).toArray e),fun ty=>?_,hk _ _ ?_ rfl ?_⟩
 .obtain⟨sa,sl,sc⟩:=s;have h0:=src.num;simp only at jA FI hold ym;have Gb:¬ (Builtin.nextslicecap (sl+n) sc * ie.bytes > 2 ^ 48):=by omega
  have hbz:ie.bytes≠0:=by omega
  simp[-run_choose,Builtin.append_,aE ht,aE Ie,bR hi,uh,h0,jA,hbz,jE hi,Gb,nL,hold,jH,jF hi hz,fO];refine⟨by simp[aa],?_⟩;congr 2;apply Array.toList_inj.1;simp
 .have hlen:=rd.len;have hx:=src.len;refine⟨by rw[List.length_append,hlen,hx,Nat.add_mul],.inr ⟨w.heap.size,(Builtin.zeroCells z.cells (grownCap w (s.len+n) s.cap e - (s.len+n))).toList,rfl,Nat.le_refl _,?_,?_,ym⟩,fun v hv=>?_⟩
  .unfold World.cI aa;simp only[Array.getElem?_push,if_true,List.append_assoc]
  .simp only[List.length_append,hlen,hx,Array.length_toList,um,S2];rw[<- Nat.add_mul,<- Nat.add_mul];congr 1;omega
  .rcases List.mem_append.1 hv with h | h
   .exact rd.cells v h
   .exact src.cells v h
 .refine⟨rfl,rfl,rfl,by simp[World.cI,aa],fun i hi _=>?_⟩;simp only[World.cI,aa];exact jn _ _ _ hi
end Go.V
namespace Go.Proofs.YtefdekemmnnclaaGreat
open Go.V
section
variable {w w':Wd}
theorem kf{s x:Sl}{l m:List Int}{K:Sl->Pw}(rd:aL w.heap s l)(jB:s.cap < s.len+x.len)(rx:aL w.heap x m)(hb:s.len+x.len<=1000000)(hk:∀s' w',aD w'.heap w.heap.size s' (l++m)->Ext No w w'->K s' w'):aU pz 25 25 s x.v K w:=
 NG (P:=pz) (e:=5) (d:= .slice 5) (ie:=Tryz.t5) (z:=Tryz.t5.zero.getD .nilFunc) (by kernel_rfl) (by kernel_rfl) (fun k h=>by cases h) (by kernel_rfl) (by kernel_rfl) (by kernel_rfl) (by kernel_rfl) (by decide) rd jB rx.src (by show(s.len+x.len) * 1<=_;omega) fun s' w' o _ e=>hk s' w' (by rw[<- List.map_append]at o;exact o) e
theorem ve{n size:Int}{K:Sl->Pw}(hn:0<=n)(h1:1<=size)(h8:size<=8)(jA:n < 256 ^ size.toNat)(k:∀s w',aD w'.heap w.heap.size s (be size.toNat n)->Ext No w w'->K s w'):iF n size w K:=by
 apply E5;exact iK hn h1 h8 jA k
theorem JW{az gen dw:Int}{K:Sl->Sl->Pw}(ht:0<=az/\az<=4294967295)(hg:0<=gen/\gen<=65535)(hc:lY dw)
  (k:∀s s' l l' w',aD w'.heap w.heap.size s l->aD w'.heap w.heap.size s' l'->B8 l->B8 l'->l.length=12->l'.length=6->Ext No w w'->K s s' w'):pT az gen dw w K:=by
 apply E6;refine Ar.u64 (by omega) (ve (by omega) (by decide) (by decide) (by show _ < (256:Int) ^ 4;omega) fun r w1 o1 x1=>?_);have hr:r.len=4:=by have:=aD.len o1;rw[aI]at this;exact this
 have hrc:=o1.rd.cap
 have rc:aL w1.heap ⟨gX r.a 4 0 1,4 - 0,4 - 0⟩ (be 4 az):=by
  have:=o1.rd.cut (lo:=0) (hi:=4) (mx:=4) (by decide) (by omega) (by decide);simpa[aI,List.take_of_length_le] using this
 refine⟨fun _=>True,trivial,Cut.mk (by decide) (by decide) (by decide) (by omega) (Cut.mk (by decide) (by decide) (by decide) (by omega) (Ar.u64 (by omega) ?_))⟩
 refine ve hc.1 (by decide) (by decide) (Mg hc) fun r2 w2 o2 x2=>⟨trivial,?_⟩
 have FV:r2.len=8:=by have:=aD.len o2;rw[aI]at this;exact this
 have gV:Ext No w1 w2:=x2.ae
 refine kf (s:=⟨gX r.a 4 0 1,4 - 0,4 - 0⟩) (rc.no gV) (by rw[FV];show 4 < 4+8;omega) o2.rd (by rw[FV];show 4+8<=1000000;omega) fun s w3 o3 x3=>⟨trivial,?_⟩
 refine ve (by omega) (by decide) (by decide) (by show _ < (256:Int) ^ 2;omega) fun r4 w4 o4 x4=>⟨trivial,?_⟩
 have hr4:r4.len=2:=by have:=aD.len o4;rw[aI]at this;exact this
 refine kf (s:=⟨gX r.a 4 0 1,4 - 0,4 - 0⟩) (((rc.no gV).no x3).no x4) (by rw[hr4];show 4 < 4+2;omega) o4.rd (by rw[hr4];show 4+2<=1000000;omega) fun s' w5 o5 x5=>⟨trivial,?_⟩
 have l1:=x1.size;have l2:=gV.size;have l3:=x3.size;have l4:=x4.size;exact k s s' _ _ w5 (((o3.no x4).no x5).mono (by omega)) (o5.mono (by omega)) ((bM _ _).append (bM _ _)) ((bM _ _).append (bM _ _)) (by simp[aI]) (by simp[aI]) ((((x1.no gV).no x3).no x4).no x5)
theorem JX{i p g:Int}{x0 x1 x2 cb:Nat}{K:List Int->Int->Pw}(h0:w.heap[x0]? = some (.cells [Value.pointer (some ⟨cb,0,none⟩)].toArray 263 (0,0)))(h1:w.heap[x1]? = some (.cells [Value.int .u8 p].toArray 5 (0,0)))(h2:w.heap[x2]? = some (.cells [Value.int .u16 g].toArray 27 (0,0)))(hc:Hw w cb)(hp:By p)
  (k:∀r w',cE r->Ext No w w'->K r 0 w'):oc i ⟨x0,0,none⟩ ⟨x1,0,none⟩ ⟨x2,0,none⟩ w K:=by
 apply Dy;refine fun b w1 n1=>?_
 have s1:=n1.at_;have mv:∀{i:Nat}{o:Obj},w.heap[i]? = some o->w1.heap[i]? = some o:=fun {i o} h=>(n1.ext.au i (Array.getElem?_eq_some_iff.1 h).1 fun h=>h).trans h
 refine⟨_,Cell.ah (mv h0) rfl,p,Cell.ah (mv h1) rfl,g,Cell.ah (mv h2) rfl,by decide,Nm.mk (Ar.KS ⟨g,Cell.ah (mv h2) rfl,Ar.KS (Ar.KS ?_)⟩)⟩;generalize Tt:Int.fdiv g (2 ^ min (Int.toNat 8) (IntKind.bits .u16)) % 256=z1;generalize hz2:g % 256=z2;generalize hz3:i % 256=z3
 have q:cE [p,z1,z2,0,0,0,0,0,0,0,0,0,0,0,0,z3]:=⟨rfl,by
  intro x hx;simp only[List.mem_cons,List.not_mem_nil,or_false]at hx;have:=hp.1;have:=hp.2
  constructor <;> omega⟩
 refine⟨[p,z1,z2,0,0,0,0,0,0,0,0,0,0,0,0,z3],rfl,w1,by kernel_rfl,sP (hc.no n1.ext) q fun r w3 hr x3=>⟨by rw[List.append_nil,List.length_map];exact hr.1,?_⟩⟩
 refine av.oH (l:=List.replicate 16 0) ((show av w1.heap b 166 .u8 (List.replicate 16 0) from n1.get).ext x3 fun h=>h) (by rw[hr.1];simp) fun w4 a4 x4=>⟨r,hr.1,a4.row,iC.mk hr.1 (k r w4 hr ((n1.ext.no x3).out x4 (by omega)))⟩
theorem xT{key:Sl}{kl:List Int}{p g:Int}{K:Sl->Int->Pw}(hk:aL w.heap key kl)(fC:B8 kl)(hlen:key.len=32)(hp:By p)(k:∀s l w',aD w'.heap w.heap.size s l->l.length=32->B8 l->Ext No w w'->K s 0 w'):jQ key 32 p g 2 w K:=by
 apply GV;refine fun b w1 n1 b1 w2 n2=>If.bne (fun h=>absurd (by rw[hlen];rfl) h) fun _=>?_
 have x2:Ext No w w2:=n1.ext.no n2.ext;have s1:=n1.at_;have s2:=n2.at_;have z1:=n1.size;have z2:=n2.size;have mv:∀{i:Nat}{o:Obj}{u u':Wd}{S:Nat->Prop},u.heap[i]? = some o->Ext S u u'->¬ S i->u'.heap[i]? = some o:=fun {i o u u' S} h x hs=>(x.au i (Array.getElem?_eq_some_iff.1 h).1 hs).trans h
 refine uY (hk.no x2) fC (.inr hlen) fun cb w3 hc hcb x3 b2 w4 n4=>?_
 have s4:=n4.at_;have z4:=n4.size;have l3:=x3.size;refine aH.mk (cs:=[Value.pointer none]) n4.get (by simp) rfl fun w5 PU=>If.bne (fun h=>absurd rfl h) fun _=>?_
 have x5:Ext (·=b2) w4 w5:=PU.ext;have c5:w5.heap[b2]? = some (.cells [Value.pointer (some ⟨cb,0,none⟩)].toArray 263 (0,0)):=PU.get n4.get;have p5:w5.heap[b]? = some (.cells [Value.int .u8 p].toArray 5 (0,0)):=mv (mv (mv (mv (show w1.heap[b]? = some (.cells [Value.int .u8 p].toArray 5 (0,0)) from n1.get) n2.ext fun h=>h) x3 fun h=>h) n4.ext fun h=>h) x5 (by omega);have g5:w5.heap[b1]? = some (.cells [Value.int .u16 g].toArray 27 (0,0)):=mv (mv (mv (show w2.heap[b1]? = some (.cells [Value.int .u16 g].toArray 27 (0,0)) from n2.get) x3 fun h=>h) n4.ext fun h=>h) x5 (by omega);have y5:Ext No w w5:=((x2.no x3).no n4.ext).out x5 (by omega);have hc5:Hw w5 cb:=hc.no (n4.ext.out x5 (by omega));have l5:=y5.size;refine⟨fun m out t u=>t=2 - (m:Int)/\m<=2/\Ext No w5 u/\∃l,aD u.heap w5.heap.size out l/\l.length=16 * t.toNat/\B8 l,⟨2,by omega,by omega,Ext.refl _ _,[],aP.nil _ _ _ _,rfl,B8.nil⟩,?_⟩;rintro _ m out t w6 ⟨ht,hm,x6,l,o,hl,hB⟩;refine If.dec (fun h=>?_) fun h=>k out l w6 (o.mono (by omega)) (by omega) hB (y5.no x6)
 refine Dz (JX (mv c5 x6 fun h=>h) (mv p5 x6 fun h=>h) (mv g5 x6 fun h=>h) (hc5.no x6) hp fun r w7 hr x7 b3 w8 n8=>⟨by rw[List.append_nil,List.length_map];exact hr.1,?_⟩);have s8:=n8.at_;have l6:=x6.size;have l7:=x7.size;have z8:=n8.size;refine av.oH (l:=List.replicate 16 0) n8.get (by rw[hr.1];simp) fun w9 a9 x9=>If.bne (fun h=>absurd rfl h) fun _=>?_
 have y9:Ext No w6 w9:=(x7.no n8.ext).out x9 (by omega);have l9:=y9.size;have hol:=aD.len o;refine Cut.arr (by decide) (by decide) (by decide) (by decide) (bO (o.no y9) (by omega) (a9.rd (o:=0) (n:=16) (c:=16) (by rw[hr.1];decide) (by decide)).src (by show(out.len+16) * 1<=_;omega) fun s gG D9 _ fo _=>?_);rw[<- List.map_append]at D9;have Tg:Ext No w5 gG:=(x6.no y9).trans fo fun i hi e=>by have:=(o.lt e).1;omega
 exact Ar.i64 (by omega) ⟨m - 1,by omega,by omega,by omega,Tg,_,D9,by simp[hr.1,hl];omega,hB.append ((hr.2.drop _).take _)⟩
theorem OQ{key:Sl}{kl:List Int}{gen:Int}{K:Sl->Int->Pw}(hk:aL w.heap key kl)(fC:B8 kl)(hlen:key.len=32)(k:∀s l w',aD w'.heap w.heap.size s l->l.length=32->B8 l->Ext No w w'->K s 0 w'):oZ key gen w K:=by
 apply Jc;exact xT hk fC hlen ⟨by decide,by decide⟩ k
theorem HD{key:Sl}{kl:List Int}{gen:Int}{K:Sl->Int->Pw}(hk:aL w.heap key kl)(fC:B8 kl)(hlen:key.len=32)(k:∀s l w',aD w'.heap w.heap.size s l->l.length=32->B8 l->Ext No w w'->K s 0 w'):nZ key gen w K:=by
 apply DK;exact xT hk fC hlen ⟨by decide,by decide⟩ k
theorem FY{key pQ:Sl}{kl sl:List Int}{K:Sl->Int->Pw}(hk:aL w.heap key kl)(fC:B8 kl)(hlen:key.len=32)(hs:aL w.heap pQ sl)(OR:B8 sl)(pA:pQ.len=16)(k:∀b l w',av w'.heap b 166 .u8 l->w.heap.size<=b->l.length=16->B8 l->Ext No w w'->K ⟨some ⟨b,0,none⟩,16,16⟩ 0 w'):o_ key pQ w K:=by
 apply Ju
 refine xT hk fC hlen ⟨by decide,by decide⟩ fun kk kkl w1 o1 PO hB1 x1=>⟨fun u=>u=w1,If.bne (fun h=>absurd rfl h) fun _=>If.bne (fun h=>by omega) fun _=>rfl,?_⟩
 rintro _ w2 rfl;have zm:kk.len=32:=by rw[aD.len o1];exact PO
 refine uY o1.rd hB1 (.inr zm) fun cb w3 hc hcb x3=>If.bne (fun h=>absurd rfl h) fun _=>⟨by omega,?_⟩
 have XY:sl.length=16:=by have:=aL.len hs;omega
 have dz:sl.map (Value.int .u8)≠[]:=fun e=>by have:=congrArg List.length e;simp[XY]at this
 obtain⟨sb,so,ha,dt⟩:=hs.at_ dz;have mr:=x1.no x3;have VH:=hs.no mr;obtain⟨sb',so',ha',XZ⟩:=VH.at_ dz;rw[ha'] ;refine Nn.mk ⟨sl,XY,Cell.row fun j hj=>Cell.mk ?_,sP hc ⟨XY,OR⟩ fun r w4 hr x4 b w5 n5=>⟨by rw[List.append_nil,List.length_map];exact hr.1,?_⟩⟩
 .have:=XZ j (by simpa using hj);simpa using this
 have s5:=n5.at_;have z5:=n5.size;have l1:=x1.size;have l3:=x3.size;have l4:=x4.size;refine av.oH (l:=List.replicate 16 0) n5.get (by rw[hr.1];simp) fun w6 a6 x6=>Cut.arr (by decide) (by decide) (by decide) (by decide) (k b r w6 a6 (by omega) hr.1 hr.2 (((mr.no x4).no n5.ext).out x6 (by omega)))
end
end Go.Proofs.YtefdekemmnnclaaGreat
namespace Go.V
theorem Um{P:Program}{t t' e:TypeId}{d:TypeDesc}{ie:TypeInfo}{w:Wd}{base:Nat}{s:Sl}{x:Value}{n sz:Nat}{cs xs:List Value}{K:Sl->Pw}
  (ht:P.underlying t=some (.slice e)) (Ie:P.underlying t'=some d) (hd:∀k,d ≠ .int k) (hi:P.info? e=some ie) (uh:ie.size=sz)
  (own:aP w.heap base e sz s cs) (src:Src P w x sz n xs) (hn:0 < n) (jA:s.len+n<=s.cap)
  (hk:∀w',aP w'.heap base e sz ⟨s.a,s.len+n,s.cap⟩ (cs++xs)->Ext (fun b=>s.au=some b) w w'->K ⟨s.a,s.len+n,s.cap⟩ w'):aU P t t' s x K w:=by
 rcases own.is with⟨rfl,rfl⟩ | ⟨b,rest,ha,hle,rI,hl,hc⟩
 .simp at jA;omega
 .have hlen:=own.len;have hx:=src.len
  have aV:cs.length+xs.length<=(cs++rest).length:=by
   rw[hlen,hx,hl,<- Nat.add_mul];exact Nat.mul_le_mul_right _ jA
  have ER:=vn (P:=P) (b:=b) (T:=e) (fz:=(0,0)) xs w (cs++rest).toArray cs.length 0 rI (by simpa using aV) (.inr (.inr (Nat.le_refl _))) src.cells
  have yo:setL (cs++rest) cs.length xs=cs++(xs++rest.drop xs.length):=by
   rw[rF _ _ _ aV];simp[List.drop_append]
  refine⟨⟨s.a,s.len+n,s.cap⟩,World.cY w b (.cells (cs++xs++rest.drop xs.length).toArray e (0,0)),fun ty=>?_,hk _ ?_ ?_⟩
  .obtain⟨sa,sl,sc⟩:=s;simp only at ha;subst ha;have h0:=src.num;have h1:=src.get w rfl;simp only at hlen jA;have ea:(⟨b,0,none⟩ : Addr).add (sl * sz)=⟨b,cs.length,none⟩:=by rw[ay rfl,hlen];simp
   simp[Builtin.append_,aE ht,aE Ie,bR hi,uh,h0,h1,jA,ea,ER,yo]
  .refine⟨?_,.inr ⟨b,rest.drop xs.length,ha,hle,?_,?_,jA⟩,fun v hv=>?_⟩
   .rw[List.length_append,hlen,hx,Nat.add_mul]
   .exact dY rI
   .rw[<- hl];simp only[List.length_append,List.length_drop]at aV ⊢;omega
   .rcases List.mem_append.1 hv with h | h
    .exact own.cells v h
    .exact src.cells v h
  .refine(nI.ext (w:=w) (b:=b) rfl).mono fun i _ hi=>?_
   subst hi;simp[Sl.au,ha]
end Go.V
namespace Go.Proofs.YtefdekemmnnclaaGreat
open Go.V
section
variable {w w':Wd}
theorem aL.cellAt{s:Sl}{l:List Int}{i c o':Nat}(r:Rd w.heap s 1 (l.map (Value.int .u8)))(hi:i < l.length)(ha:s.a=some ⟨c,o',none⟩):Cell w ⟨c,o'+i,none⟩ (.int .u8 (l.getD i 0)):=by
 obtain⟨b2,off,VI,dt⟩:=r.at_ (by intro e;have:=congrArg List.length e;simp at this;subst this;simp at hi);rw[ha]at VI;have e1:=Option.some.inj VI;injection e1 with e1 e2
 subst e1;subst e2;refine Cell.mk ?_;have:=dt i (by simpa using hi);rw[this];simp[List.getD_eq_getElem?_getD,hi]
theorem Ml{w1:Wd}{base b:Nat}{s:Sl}{l:List Int}{v:Int}{K:Sl->Pw}(n1:Bk w (.cells [Value.int .u8 v].toArray 5) b w1)(o:aD w.heap base s l)(hb:base<=w.heap.size)(hl:l.length<=1000)
  (hk:∀s' w',aD w'.heap base s' (l++[v])->Ext (fun i=>s.au=some i) w w'->(s'.au=s.au∨∃b,s'.au=some b/\w.heap.size<=b)->(∀i c o',i < l.length->s.au=some c->s.a=some ⟨c,o',none⟩->Cell w' ⟨c,o'+i,none⟩ (.int .u8 (l.getD i 0)))->K s' w'):aU pz 25 25 s (.slice (some (Addr.mk b 0 none)) 1 1) K w1:=by
 have o1:=o.no n1.ext;have hs:=aD.len o;have hz:=n1.size;have r1:aL w1.heap ⟨some ⟨b,0,none⟩,1,1⟩ [v]:=(aP.new (n:=1) (sz:=1) n1 rfl (fun u hu=>by rw[List.mem_singleton]at hu;subst hu;rfl)).rd;by_cases jA:s.len+1<=s.cap
 .refine Um (P:=pz) (e:=5) (d:= .slice 5) (ie:=Tryz.t5) (by kernel_rfl) (by kernel_rfl) (fun k h=>by cases h) (by kernel_rfl) (by kernel_rfl) o1 r1.src (by show 0 < 1;decide) jA fun w2 o2 x2=>?_
  rw[<- List.map_append]at o2;refine hk _ w2 o2 (n1.ext.aF.trans x2 fun _ _ h=>h) (.inl rfl) fun i c o' hi hc ha=>?_
  have:=aL.cellAt o2.rd (i:=i) (c:=c) (o':=o') (by simp;omega) ha
  rwa [show(l++[v]).getD i 0=l.getD i 0 by simp only[List.getD_eq_getElem?_getD];rw[List.getElem?_append_left hi]]at this
 .refine kf (s:=s) (x:=⟨some ⟨b,0,none⟩,1,1⟩) o1.rd (by show s.cap < s.len+1;omega) r1 (by show s.len+1<=1000000;omega) fun s' w2 o2 x2=>?_
  refine hk s' w2 (o2.mono (by omega)) ((n1.ext.no x2).aF) ?_ fun i c o' hi hc ha=>aL.cellAt (o1.rd.no x2) hi ha
  cases Cz:s'.au with
  | none=>
   exfalso;obtain⟨b2,off,VI,_⟩:=o2.rd.at_ (by simp);simp[Sl.au,VI]at Cz
  | some q=>exact .inr ⟨q,rfl,by have:=(o2.lt Cz).1;omega⟩
theorem JY{key:Sl}{kl:List Int}{K:Sl->Pw}(hk:aL w.heap key kl)(fC:B8 kl)(hlen:key.len=16∨key.len=32)(k:∀s w',aD w'.heap w.heap.size s (c_ kl)->Ext No w w'->K s w'):pR key w K:=by
  apply Ff;have zm:=aL.len hk;obtain⟨kz,QY,hz⟩ : ∃kz:Nat,(kz=4∨kz=8)/\key.len=4 * kz:=by rcases hlen with h | h;exact⟨4,.inl rfl,h⟩;exact⟨8,.inr rfl,h⟩
  have ez:Int.tdiv ((key.len:Int)) 4=(kz:Int):=by rw[fB (by omega)];omega
  refine⟨by decide,?_⟩;rw[ez];refine Ar.i64 (by omega) (D7 hk (by omega) fun wv0 w1 o1 x1=>?_);have ZH:kl.length=4 * kz:=by omega
  have ewl:c_ kl=nM kl kz (4 * (kz+7) - kz):=by unfold c_;rw[ZH,show 4 * kz / 4=kz by omega]
  rw[ewl]at k;have l1:=x1.size;refine⟨fun m wv i u=>∃d:Nat,i=((kz+d:Nat):Int)/\kz+d<=4 * (kz+7)/\m=4 * (kz+7) - (kz+d)/\aD u.heap w.heap.size wv (nM kl kz d)/\Ext No w u,⟨4 * (kz+7) - kz,0,by omega,by omega,by omega,o1,x1⟩,?_⟩;rintro _ m0 wv i w2 ⟨d,rfl,hd,hm,o2,x2⟩;refine Ar.i64 (by omega) (Ar.i64 (by omega) (If.dec (fun h=>?_) fun h=>?_))
  rotate_left
  · have:d=4 * (kz+7) - kz:=by omega
    rw[this]at o2;exact k wv w2 o2 x2
  have hW:=qs ZH d;have ZP:=CF (k:=kz) fC d;have VJ:nM kl kz (d+1)=nM kl kz d++tab 4 (lZ kz (nM kl kz d) (kz+d)):=rfl;generalize nM kl kz d=W at *;have gB:=fun p=>QA (k:=kz) ZP (kz+d) p
  obtain⟨t,ht⟩ : ∃t,t=kz+d:=⟨_,rfl⟩
  rw[<- ht]at VJ gB ⊢
  have gE:∀p,gw kz W t p=if t % kz=0 then(if p=0 then xr (sb (W.getD (4 * (t - 1)+1) 0)) (pw 2 ((t / kz - 1:Nat):Int)) else sb (W.getD (4 * (t - 1)+(p+1) % 4) 0))
    else if kz=8/\t % 8=4 then sb (W.getD (4 * (t - 1)+p) 0) else W.getD (4 * (t - 1)+p) 0:=fun p=>rfl
  have l2:=x2.size;have wl2:=aD.len o2;refine⟨fun m tt p u=>∃j:Nat,p=j/\j<=4/\m=4 - j/\aD u.heap w2.heap.size tt (tab j fun q=>W.getD (4 * (t - 1)+q) 0)/\Ext No w2 u,⟨4,0,rfl,by omega,by omega,aP.nil _ _ _ _,Ext.refl _ _⟩,?_⟩;rintro _ m1 tt p w3 ⟨j,rfl,hj,S0,o3,x3⟩;have l3:=x3.size;refine If.dec (fun h1=>?_) fun h1=>?_
  · refine Ar.i64 (by omega) (Ar.i64 (by omega) (Ar.i64 (by omega) (Ix.int (o2.no x3).rd (by omega) (by omega) fun bb bo _ hc=>⟨_,hc,fun b w4 n4=>re n4 o3 l3 (by rw[aB];omega) fun s' w5 o5 x5 _=>Ar.i64 (by omega) ⟨m1 - 1,by omega,j+1,by omega,by omega,by omega,?_,x3.trans x5 fun i hi e=>by have:=(o3.lt e).1;omega⟩⟩)));rw[zw,show 4 * (t - 1)+j=(4 * ((t:Int) - 1)+j).toNat by omega];exact o5
  have ej:j=4:=by omega
  subst ej;have tl3:=aD.len o3;rw[aB]at tl3;have tB:∀n,B8 (tab n fun q=>W.getD (4 * (t - 1)+q) 0):=fun n=>Dc fun q _=>ZP.get _
  refine⟨fun tt u=>aD u.heap w2.heap.size tt (tab 4 (gw kz W t))/\Ext No w2 u,⟨by omega,?_⟩,?_⟩
  · have em:Int.tmod (t:Int) (kz:Int)=((t % kz:Nat):Int):=by rw[cQ (by omega)];rcases QY with rfl | rfl <;> omega
    refine Nm.as em (If.beq (fun he=>?_) fun he=>?_)
    · have hd3:(t:Int) / (kz:Int) - 1=((t / kz - 1:Nat):Int):=by rcases QY with rfl | rfl <;> omega
      have hd4:t / kz - 1 < 16:=by rcases QY with rfl | rfl <;> omega
      have hd5:0<=(t:Int) / (kz:Int)/\(t:Int) / (kz:Int)<=60:=by rcases QY with rfl | rfl <;> omega
      refine⟨fun m uu p u=>∃j:Nat,p=j/\j<=4/\m=4 - j/\aD u.heap w3.heap.size uu (tab j fun q=>sb (W.getD (4 * (t - 1)+(q+1) % 4) 0))/\Ext No w3 u,⟨4,0,rfl,by omega,by omega,aP.nil _ _ _ _,Ext.refl _ _⟩,?_⟩;rintro _ m2 uu p1 w6 ⟨j,rfl,hj2,KV,o6,x6⟩;have l6:=x6.size;refine If.dec (fun h1=>?_) fun h1=>?_
      · have e1:Int.tmod ((j:Int)+1) 4=(((j+1) % 4:Nat):Int):=by rw[cQ (by omega)];omega
        refine Ar.i64 (by omega) ⟨by decide,Nm.as e1 (Ix.int (o3.no x6).rd (by omega) (by omega) fun bb bo _ hc=>⟨_,hc,?_⟩)⟩;rw[Int.toNat_natCast,bH (by omega)];refine AY (ZP.get _) fun b w8 n8=>re n8 o6 l6 (by rw[aB];omega) fun s' w9 o9 x9 _=>Ar.i64 (by omega) ⟨m2 - 1,by omega,j+1,by omega,by omega,by omega,?_,x6.trans x9 fun i hi e=>by have:=(o6.lt e).1;omega⟩
        rw[zw];exact o9
      · have ej:j=4:=by omega
        subst ej;have ul:=aD.len o6;rw[aB]at ul;refine⟨Ext No w6,(Ext.refl _ _).drew,Ix.int o6.rd (by decide) (by omega) fun bb bo _ hc=>⟨_,af.no (by have:=hc;unfold Cell at this;rwa [dC]at this),by omega,?_⟩⟩;rw[fB (by omega)];refine Ar.i64 (by omega) (Ar.i64 (by omega) (Ar.u32 (by omega) ?_));rw[hd3];have e0:(tab 4 fun q=>sb (W.getD (4 * (t - 1)+(q+1) % 4) 0)).getD (Int.toNat 0) 0=sb (W.getD (4 * (t - 1)+1) 0):=bH (by decide);rw[e0];refine OE hd4 ⟨(Ext.refl _ _).drew,Nm.as (br (Db (ZP.get _)) (Nk _ ⟨by decide,by decide⟩)) ?_⟩;have o6d:aD (aa w6).heap w3.heap.size uu (tab 4 fun q=>sb (W.getD (4 * (t - 1)+(q+1) % 4) 0)):=o6
        refine aH.own o6d (by decide) (by omega) rfl fun hU HE oF _=>⟨?_,(x3.no x6.drew).trans oF fun i hi e=>by have:=(o6.lt e).1;omega⟩
        rw[<- List.map_set]at HE
        have e4:(tab 4 fun q=>sb (W.getD (4 * (t - 1)+(q+1) % 4) 0)).set (Int.toNat 0) (xr (sb (W.getD (4 * (t - 1)+1) 0)) (pw 2 ((t / kz - 1:Nat):Int)))=tab 4 (gw kz W t):=eB fun q _=>by
          rw[gE q,if_pos (show t % kz=0 by omega)];rfl
        rw[e4]at HE;exact HE.mono l3
    · have gE2:=fun p=>(gE p).trans (if_neg (by omega:¬ t % kz=0))
      refine⟨fun v u=>u=w3/\v=decide (kz=8/\t % 8=4),If.beq (fun h8=>⟨by decide,Nm.mk ⟨rfl,?_⟩⟩) (fun h8=>⟨rfl,(decide_eq_false (by omega)).symm⟩),?_⟩
      · rw[Bool.eq_iff_iff,beq_iff_eq,decide_eq_true_iff,cQ (by omega)];constructor
        · intro h9;exact⟨by omega,by omega⟩
        · intro h9;omega
      rintro _ t1 mw ⟨rfl,rfl⟩;refine If.dec (fun h8=>?_) fun h8=>?_
      · refine⟨fun m p u=>∃j:Nat,p=j/\j<=4/\m=4 - j/\aD u.heap w2.heap.size tt (tab 4 fun q=>if q < j then sb (W.getD (4 * (t - 1)+q) 0) else W.getD (4 * (t - 1)+q) 0)/\Ext No w2 u,⟨4,0,rfl,by omega,by omega,o3,x3⟩,?_⟩;rintro _ m2 p2 lK ⟨j,rfl,hj2,KV,Un,mr⟩;refine If.dec (fun h1=>?_) fun h1=>?_
        · refine Ix.int Un.rd (by omega) (by omega) fun bb bo _ hc=>⟨_,hc,?_⟩
          rw[Int.toNat_natCast,bH (by omega),if_neg (by omega)];refine AY (ZP.get _) (aH.own Un (by omega) (by omega) rfl fun kQ Te gH _=>Ar.i64 (by omega) ⟨m2 - 1,by omega,j+1,by omega,by omega,by omega,?_,mr.trans gH fun i hi e=>by have:=(Un.lt e).1;omega⟩);rw[<- List.map_set,Int.toNat_natCast,eB (g:=fun q=>if q < j+1 then sb (W.getD (4 * (t - 1)+q) 0) else W.getD (4 * (t - 1)+q) 0)]at Te
          · exact Te
          · intro q _;by_cases hq:q=j
            · rw[if_pos hq,if_pos (by omega),hq]
            · rw[if_neg hq];by_cases h2:q < j
              · rw[if_pos h2,if_pos (by omega)]
              · rw[if_neg h2,if_neg (by omega)]
        · have e:(tab 4 fun q=>if q < j then sb (W.getD (4 * (t - 1)+q) 0) else W.getD (4 * (t - 1)+q) 0)=tab 4 (gw kz W t):=aQ fun q hq=>by
            rw[if_pos (by omega),gE2 q,if_pos h8]
          rw[e]at Un;exact⟨Un,mr⟩
      · have e:(tab 4 fun q=>W.getD (4 * (t - 1)+q) 0)=tab 4 (gw kz W t):=aQ fun q hq=>by rw[gE2 q,if_neg h8]
        rw[e]at o3;exact⟨o3,x3⟩
  · rintro _ t2 ua ⟨Rg,ub⟩;have l16:=ub.size;have tl:=aD.len Rg;rw[aB]at tl;refine⟨fun m ZQ p u=>∃j:Nat,p=j/\j<=4/\m=4 - j/\aD u.heap w.heap.size ZQ (W++tab j (lZ kz W t))/\Ext No w u/\Ext (fun i=>i < w2.heap.size) ua u/\(∀i,ZQ.au=some i->i < w2.heap.size∨ua.heap.size<=i),⟨4,0,rfl,by omega,by omega,by rw[show tab 0 (lZ kz W t)=[] from rfl,List.append_nil];exact o2.no ub,x2.no ub,Ext.refl _ _,fun i hi=> .inl (o2.lt hi).2⟩,?_⟩;rintro _ m3 ZQ p3 rD ⟨j,rfl,hj3,hm3,X0,zq,y17,Rh⟩;have l17:=y17.size;have adA:=aD.len X0;rw[List.length_append,aB]at adA;have adB:=zq.size;refine If.dec (fun h1=>?_) fun h1=>?_
    · have adC:aD rD.heap w2.heap.size t2 (tab 4 (gw kz W t)):=Rg.ext y17 fun b hb aV=>by have:=(Rg.lt hb).1;omega
      refine⟨fun u=>(∀b o v,t2.au=some b->dt rD.heap b o=some v->dt u.heap b o=some v)/\∀i c o',i < (W++tab j (lZ kz W t)).length->ZQ.au=some c->ZQ.a=some ⟨c,o',none⟩->Cell u ⟨c,o'+i,none⟩ (.int .u8 ((W++tab j (lZ kz W t)).getD i 0)),?_,?_⟩
      · exact⟨fun b o v _ h=>h,fun i c o' hi _ ha=>aL.cellAt (w:=rD) X0.rd hi ha⟩
      · refine Ix.int adC.rd (by omega) (by omega) fun bb bo T0 hc=>?_
        rw[Int.toNat_natCast,bH (by omega)]at hc;refine⟨gw kz W t j,fun u hu=>?_,?_⟩
        · unfold Cell at hc;rw[dC]at hc;exact Cell.mk (hu.1 bb _ _ T0 hc)
        · have adD:((4 * ((t:Int) - (kz:Int))+(j:Int)).toNat)=4 * (t - kz)+j:=by omega
          refine Ar.i64 (by omega) (Ar.i64 (by omega) (Ar.i64 (by omega) ?_));obtain⟨b2,off,VI,_⟩:=X0.rd.at_ (by intro e;have:=congrArg List.length e;rw[List.length_map,List.length_append]at this;have h0:([]:List Value).length=0:=rfl;omega);refine⟨_,VI,by omega,by omega,?_⟩;rw[ay rfl,Nat.mul_one,adD];refine⟨_,fun u hu=>hu.2 (4 * (t - kz)+j) b2 off (by rw[List.length_append];omega) (by simp[Sl.au,VI]) VI,?_⟩
          have eW:(W++tab j (lZ kz W t)).getD (4 * (t - kz)+j) 0=W.getD (4 * (t - kz)+j) 0:=by
            simp only[List.getD_eq_getElem?_getD];rw[List.getElem?_append_left (by omega)]
          rw[eW]
          refine Nm.as (br (gB _) (ZP.get _)) fun b Q6 n18=>⟨⟨fun b' o v EE h=>?_,fun i c o' hi hc ha=>aL.cellAt (X0.no n18.ext.ae).rd hi ha⟩,?_⟩
          · rw[jo (n18.ext.au b' (nK h) fun h=>h)];exact h
          · have adE:aD (aa rD).heap w.heap.size ZQ (W++tab j (lZ kz W t)):=X0
            refine Ml n18 adE adB (by rw[List.length_append,aB];omega) fun s' XR o19 Uj adF adG=>⟨⟨fun b' o v EE h=>?_,fun i c o' hi hc ha=>adG i c o' hi hc ha⟩,Ar.i64 (by omega) ⟨m3 - 1,by omega,j+1,by omega,by omega,by omega,?_,?_,?_,?_⟩⟩
            · have aV:=(Rg.lt EE).1;have Xi:=(Rg.lt EE).2;rw[jo (Uj.au b' (by show b' < rD.heap.size;omega) fun e=>by rcases Rh _ e with h1 | h1 <;> omega)];exact h
            · rw[zw,<- List.append_assoc];exact o19
            · exact zq.trans Uj.ae fun i hi e=>by have:=(X0.lt e).1;omega
            · exact y17.trans Uj.ae fun i hi e=>by rcases Rh _ e with h1 | h1 <;> omega
            · intro i hi;rcases adF with h1 | ⟨b3,h1,h2⟩
              · exact Rh i (h1 ▸ hi)
              · rw[hi]at h1;have:=Option.some.inj h1;have:(aa rD).heap.size=rD.heap.size:=rfl;omega
    · have ej:j=4:=by omega
      subst ej;refine Ar.i64 (by omega) ⟨4 * (kz+7) - (kz+(d+1)),by omega,d+1,by omega,by omega,rfl,?_,zq⟩;rw[VJ];exact X0
end
section
variable {w w':Wd}
theorem OS{c0 c1 c2 c3:Int}{K:Int->Int->Int->Int->Pw}(hc:B8 [c0,c1,c2,c3])(k:∀w',Ext No w w'->K (cf [c0,c1,c2,c3] 0) (cf [c0,c1,c2,c3] 1) (cf [c0,c1,c2,c3] 2) (cf [c0,c1,c2,c3] 3) w'):uE c0 c1 c2 c3 w K:=by
 apply JE
 refine fun b w1 n1 b1 w2 n2=>⟨2,3,1,1,w2,uW,?_⟩
 have a0:av w2.heap b 275 .u8 [c0,c1,c2,c3]:=(show av w1.heap b 275 .u8 [c0,c1,c2,c3] from n1.get).ext n2.ext fun h=>h
 have a1:av w2.heap b1 275 .u8 [0,0,0,0]:=n2.get;have s1:=n1.at_;have s2:=n2.at_;have z1:=n1.size;refine⟨c0,Cell.ah a0 rfl,c1,Cell.ah a0 rfl,c2,Cell.ah a0 rfl,c3,Cell.ah a0 rfl,L7 hc fun w3 x3=>⟨rfl,?_⟩⟩
 refine av.oH (l':=[_,_,_,_]) (a1.ext x3 fun h=>h) rfl fun w4 a4 x4=>⟨_,Cell.ah a4 rfl,_,Cell.ah a4 rfl,_,Cell.ah a4 rfl,_,Cell.ah a4 rfl,k _ ?_⟩
 exact((n1.ext.no n2.ext).no x3).out x4 (by omega)
theorem X1:Sem.run pz (Instr.build 274 #[(0,.int .i64 0),(1,.int .i64 1),(2,.int .i64 2),(3,.int .i64 3)]) w = .ok (.agg ([.int .i64 0,.int .i64 1,.int .i64 2,.int .i64 3]).toArray) w:=by kernel_rfl
theorem qe{key:Sl}{kl b0:List Int}{K:List Int->Pw}(hk:aL w.heap key kl)(fC:B8 kl)(hlen:key.len=16∨key.len=32)(hb:cE b0)(k:∀w',Ext No w w'->K (oP kl b0) w'):fX key b0 w K:=by
 apply Ci;refine fun b w1 n1 b1 w2 n2=>?_
 have s1:=n1.at_;have s2:=n2.at_;have z1:=n1.size;have z2:=n2.size;have x2:Ext No w w2:=n1.ext.no n2.ext
 refine JY (hk.no x2) fC hlen fun r w3 o3 x3=>⟨by decide,?_⟩
 have zm:=aL.len hk;obtain⟨kz,QY,hz⟩ : ∃kz:Nat,(kz=4∨kz=8)/\key.len=4 * kz:=by rcases hlen with h | h;exact⟨4,.inl rfl,h⟩;exact⟨8,.inr rfl,h⟩
 have ez:Int.tdiv ((key.len:Int)) 4=(kz:Int):=by rw[fB (by omega)];omega
 rw[ez]
 obtain⟨R,hR⟩ : ∃R:Nat,R=kz+6:=⟨_,rfl⟩
 have ek:oP kl b0=Gw (c_ kl) R b0:=by unfold oP;congr 1;omega
 rw[ek]at k;have OG:(c_ kl).length=4 * (4 * (kz+7)):=wJ (by omega);have Ig:=vr fC;generalize c_ kl=wl at *;have a03:av w3.heap b 166 .u8 b0:=((av.new n1).ext n2.ext fun h=>h).ext x3 fun h=>h
 have Ny:av w3.heap b1 166 .u8 (List.replicate 16 0):=(show av w2.heap b1 166 .u8 (List.replicate 16 0) from n2.get).ext x3 fun h=>h
 have l3:=x3.size;have qf:=x2.no x3;refine Ar.i64 (by omega) (Ar.i64 (by omega) ⟨b0,hb.1,a03.row,?_⟩);refine Ba (j:=0) hb Ig o3.rd (by omega) (by decide) fun w4 x4 b2 w5 n5=>?_
 have Ls:=iO hb.2 Ig 0;refine⟨by rw[List.append_nil,List.length_map];exact Ls.1,?_⟩;have s5:=n5.at_;have l4:=x4.size;refine av.oH (l:=List.replicate 16 0) n5.get (by rw[Ls.1];rfl) fun w6 a6 x6=>?_
 let Inv:Wd->List Int->Prop:=fun u l=>Ext No w3 u/\av u.heap b1 166 .u8 (List.replicate 16 0)/\l.length=16/\av u.heap b2 166 .u8 l
 have abb:b1≠b2:=by omega
 have Cz:w3.heap.size<=b2:=by omega
 have i6:Inv w6 (yp wl R b0 0):=⟨(x4.no n5.ext).out x6 Cz,((Ny.ext x4 fun h=>h).ext n5.ext fun h=>h).ext x6 abb,Ls.1,a6⟩
 have iz:∀{u u':Wd}{l:List Int},Inv u l->Ext No u u'->Inv u' l:=fun h x=>⟨h.1.no x,h.2.1.ext x fun h=>h,h.2.2.1,h.2.2.2.ext x fun h=>h⟩
 have sS:∀{u u':Wd}{l l':List Int},Inv u l->Ext (·=b2) u u'->l'.length=16->av u'.heap b2 166 .u8 l'->Inv u' l':=fun h x hl a=>⟨h.1.out x Cz,h.2.1.ext x abb,hl,a⟩
 have st:∀{u u':Wd}{l q:List Int}{K':Pw},Inv u l->Ext No u u'->q.length=16->(∀u2,Inv u2 q->K' u2)->List.length (α:=Value) (List.map (Value.int .u8) q++[])=16/\cr u' (Addr.mk b2 0 none) (List.map (Value.int .u8) q++[]) K':=fun {u u' l q K'} h x hq hk=>
  ⟨by rw[List.append_nil,List.length_map];exact hq,(iz h x).2.2.2.oH (by rw[hq,h.2.2.1]) fun u3 a3 x3=>hk u3 (sS (iz h x) x3 hq a3)⟩
 refine⟨fun m t u=>t=(R:Int)+1 - (m:Int)/\m<=R/\Inv u (yp wl R b0 (t.toNat - 1)),⟨R,by omega,Nat.le_refl _,i6⟩,?_⟩;rintro _ m t w7 ⟨ht,hm,i7⟩;have EH:=CE (last:=R) hb.2 Ig (t.toNat - 1);refine If.dec (fun h=>?_) fun h=>?_
 rotate_left
 .have e:yp wl R b0 (t.toNat - 1)=Gw wl R b0:=by unfold Gw;congr 1;omega
  rw[e]at i7 EH;obtain⟨x7,KX,_,a7⟩:=i7;refine⟨_,EH.1,a7.row,by rw[List.append_nil,List.length_map];exact EH.1,KX.oH (by rw[EH.1];simp) fun rD KX zq=>⟨_,EH.1,KX.row,iC.mk EH.1 (k rD ?_)⟩⟩;exact(qf.no x7).out zq (by omega)
 have ee:yp wl R b0 ((t+1).toNat - 1)=On wl R (yp wl R b0 (t.toNat - 1)) t.toNat:=by
  obtain⟨j,hj⟩ : ∃j,t.toNat=j+1:=⟨t.toNat - 1,by omega⟩
  rw[show(t+1).toNat - 1=j+1 by omega,hj];rfl
 generalize yp wl R b0 (t.toNat - 1)=l8 at *;have e0:(tab 16 fun q=>if q < (0:Int).toNat then sb (l8.getD q 0) else l8.getD q 0)=l8:=(aQ fun i _=>by rw[if_neg (by simp)]).trans (mR EH.1).symm;refine⟨fun m i u=>i=16 - (m:Int)/\m<=16/\Inv u (tab 16 fun q=>if q < i.toNat then sb (l8.getD q 0) else l8.getD q 0),⟨16,by omega,by omega,by rw[e0];exact i7⟩,?_⟩;rintro _ m2 i w8 ⟨hi,KV,i8⟩;refine If.dec (fun h1=>?_) fun h1=>?_
 .have hc:=i8.2.2.2.cell (t:=i) (by omega) (by rw[aB];omega);rw[bH (by omega),if_neg (by omega)]at hc;refine⟨by omega,by omega,_,hc,AY (EH.2.get _) ⟨by omega,by omega,?_⟩⟩;refine i8.2.2.2.st (by omega) (by rw[aB];omega) fun gG ZN fo=>Ar.i64 (by omega) ⟨m2 - 1,by omega,by omega,by omega,?_⟩
  rw[eB (g:=fun q=>if q < (i+1).toNat then sb (l8.getD q 0) else l8.getD q 0)]at ZN
  .exact sS i8 fo (aB _ _) ZN
  .intro q _;by_cases hq:q=i.toNat
   .rw[if_pos hq,if_pos (by omega),hq]
   .rw[if_neg hq];by_cases h2:q < i.toNat
    .rw[if_pos h2,if_pos (by omega)]
    .rw[if_neg h2,if_neg (by omega)]
 have es:(tab 16 fun q=>if q < i.toNat then sb (l8.getD q 0) else l8.getD q 0)=An l8:=aQ fun q hq=>by rw[if_pos (by omega)]
 rw[es]at i8;have hs8:=CD EH.2;have QU:=Lq hs8.2;refine⟨_,hs8.1,i8.2.2.2.row,0,1,2,3,w8,X1,JV hs8.1 fun mw gV=>st i8 gV QU.1 fun lK i13=>?_⟩;have ert:On wl R l8 t.toNat=qq (if t.toNat < R then IN (Nl (An l8)) else Nl (An l8)) wl t.toNat:=rfl;rw[ert]at ee;generalize Nl (An l8)=M at *;have NH:((t.toNat:Nat):Int)=t:=by omega
 refine If.dec (fun htR=>?_) fun htR=>?_
 .rw[if_pos (by omega)]at ee;have e0:(tab 16 fun i=>if i / 4 < (0:Int).toNat then cf (dG M (i / 4)) (i % 4) else M.getD i 0)=M:=(aQ fun i _=>by rw[if_neg (by simp)]).trans (mR QU.1).symm;refine⟨fun m q u=>q=4 - (m:Int)/\m<=4/\Inv u (tab 16 fun i=>if i / 4 < q.toNat then cf (dG M (i / 4)) (i % 4) else M.getD i 0),⟨4,by omega,by omega,by rw[e0];exact i13⟩,?_⟩;rintro _ m3 q pY ⟨hq,hm3,i14⟩;refine If.dec (fun hq4=>?_) fun hq4=>?_
  .obtain⟨qn,rfl⟩ : ∃qn:Nat,q=(qn:Int):=⟨q.toNat,by omega⟩
   rw[Int.toNat_natCast]at i14
   have ev:∀j,j < 4->(tab 16 fun i=>if i / 4 < qn then cf (dG M (i / 4)) (i % 4) else M.getD i 0).getD (4 * qn+j) 0=M.getD (4 * qn+j) 0:=fun j hj=>by
    rw[bH (by omega),if_neg (by omega)]
   have ev0:=ev 0 (by decide);rw[Nat.add_zero]at ev0;refine⟨_,aB _ _,i14.2.2.2.row,HC (aB _ _) (by omega) fun kQ gH=>?_⟩;rw[ev0,ev 1 (by decide),ev 2 (by decide),ev 3 (by decide)]
   refine OS ((((B8.nil.cons (QU.2.get _)).cons (QU.2.get _)).cons (QU.2.get _)).cons (QU.2.get _)) fun ua ub b3 rD n17=>⟨rfl,?_⟩
   have adH:[M.getD (4 * qn) 0,M.getD (4 * qn+1) 0,M.getD (4 * qn+2) 0,M.getD (4 * qn+3) 0]=dG M qn:=rfl;rw[adH];refine av.oH (l':=[cf (dG M qn) 0,cf (dG M qn) 1,cf (dG M qn) 2,cf (dG M qn) 3]) (l:=[0,0,0,0]) n17.get rfl fun Q6 ZI zt=>?_
   have i17:=iz i14 ((gH.no ub).no n17.ext);have s17:=n17.at_;have lb2:=i14.2.2.2.lt;have lb1:=i14.2.1.lt;have l15:=gH.size;have l16:=ub.size;have l3u:=i14.1.size
   have i18:Inv Q6 (tab 16 fun i=>if i / 4 < qn then cf (dG M (i / 4)) (i % 4) else M.getD i 0):=⟨i17.1.out zt (by omega),i17.2.1.ext zt (by omega),i17.2.2.1,i17.2.2.2.ext zt (by omega)⟩
   have adI:b3≠b2:=by omega
   have ym:w3.heap.size<=b3:=by omega
   have e1:(tab 16 fun i=>if i / 4 < qn∨(i / 4=qn/\i % 4 < (0:Int).toNat) then cf (dG M (i / 4)) (i % 4) else M.getD i 0)=tab 16 fun i=>if i / 4 < qn then cf (dG M (i / 4)) (i % 4) else M.getD i 0:=aQ fun i _=>by
    by_cases hh:i / 4 < qn
    .rw[if_pos (.inl hh),if_pos hh]
    .rw[if_neg (by simp;omega),if_neg hh]
   refine⟨fun m p u=>p=4 - (m:Int)/\m<=4/\Inv u (tab 16 fun i=>if i / 4 < qn∨(i / 4=qn/\i % 4 < p.toNat) then cf (dG M (i / 4)) (i % 4) else M.getD i 0)/\av u.heap b3 275 .u8 [cf (dG M qn) 0,cf (dG M qn) 1,cf (dG M qn) 2,cf (dG M qn) 3],⟨4,by omega,by omega,by rw[e1];exact i18,ZI⟩,?_⟩;rintro _ m4 p XR ⟨hp,hm4,i19,a19⟩;refine If.dec (fun PY=>?_) fun PY=>?_
   .have hc:=a19.cell (t:=p) (by omega) (by show p < 4;omega)
    have ecv:[cf (dG M qn) 0,cf (dG M qn) 1,cf (dG M qn) 2,cf (dG M qn) 3].getD p.toNat 0=cf (dG M qn) p.toNat:=by
     have h4:p.toNat=0∨p.toNat=1∨p.toNat=2∨p.toNat=3:=by omega
     rcases h4 with h | h | h | h <;> rw[h] <;> rfl
    rw[ecv]at hc;refine Ar.i64 (by omega) (Ar.i64 (by omega) ⟨by omega,by omega,_,hc,by omega,by omega,?_⟩);refine i19.2.2.2.st (by omega) (by rw[aB];omega) fun XS a20 x20=>Ar.i64 (by omega) ⟨m4 - 1,by omega,by omega,by omega,?_,a19.ext x20 adI⟩
    rw[eB (g:=fun i=>if i / 4 < qn∨(i / 4=qn/\i % 4 < (p+1).toNat) then cf (dG M (i / 4)) (i % 4) else M.getD i 0)]at a20
    .exact sS i19 x20 (aB _ _) a20
    .intro i TZ;by_cases Hv:i=(4 * (qn:Int)+p).toNat
     .have VG:i / 4=qn:=by omega
      have hi4:i % 4=p.toNat:=by omega
      rw[if_pos Hv,if_pos (.inr ⟨VG,by omega⟩),VG,hi4]
     .rw[if_neg Hv];by_cases h3:i / 4 < qn∨(i / 4=qn/\i % 4 < p.toNat)
      .rw[if_pos h3,if_pos (by omega)]
      .rw[if_neg h3,if_neg (by omega)]
   .refine Ar.i64 (by omega) ⟨m3 - 1,by omega,by omega,by omega,?_⟩
    have e2:(tab 16 fun i=>if i / 4 < qn∨(i / 4=qn/\i % 4 < p.toNat) then cf (dG M (i / 4)) (i % 4) else M.getD i 0)=tab 16 fun i=>if i / 4 < ((qn:Int)+1).toNat then cf (dG M (i / 4)) (i % 4) else M.getD i 0:=aQ fun i _=>by
     by_cases hh:i / 4 < qn+1
     .rw[if_pos (by omega),if_pos (by omega)]
     .rw[if_neg (by omega),if_neg (by omega)]
    rw[<- e2];exact i19
  .have em:(tab 16 fun i=>if i / 4 < q.toNat then cf (dG M (i / 4)) (i % 4) else M.getD i 0)=IN M:=aQ fun i TZ=>by rw[if_pos (by omega)]
   rw[em]at i14;refine⟨_,(vq M).1,i14.2.2.2.row,?_⟩;rw[<- NH];refine Ba (vq M) Ig (o3.no i14.1).rd (by omega) (by omega) fun zn Fk=>st i14 Fk (iO (vq M).2 Ig _).1 fun FU i22=>Ar.i64 (by omega) ⟨m - 1,by omega,by omega,by omega,?_⟩
   rw[NH,ee];exact i22
 .rw[if_neg (by omega)]at ee;refine⟨_,QU.1,i13.2.2.2.row,?_⟩;rw[<- NH];refine Ba QU Ig (o3.no i13.1).rd (by omega) (by omega) fun Nz xI=>st i13 xI (iO QU.2 Ig _).1 fun oQ i24=>Ar.i64 (by omega) ⟨m - 1,by omega,by omega,by omega,?_⟩
  rw[NH,ee];exact i24
end
end Go.Proofs.YtefdekemmnnclaaGreat
namespace Go.V
def bt(b:Bool):Int:=((b.toNat:Nat):Int)
def Th(n:Nat)(c:Co):List Int:=tab n fun j=>bt (c j)
def fl(j:Nat)(c:Co):Co:=fun k=>c k ^^ decide (k=j)
theorem NI(b:Bool):0<=bt b/\bt b<=1:=by cases b <;> decide
theorem Ri{b:Bool}:bt b=1 ↔ b=true:=by cases b <;> decide
theorem Rj{n j:Nat}{c:Co}:(Th n c).set j (bt (!c j))=Th n (fl j c):=eB fun k _=>by
 unfold fl;by_cases h:k=j
 .subst h;rw[if_pos rfl,decide_eq_true rfl,Bool.xor_true]
 .rw[if_neg h,decide_eq_false h,Bool.xor_false]
theorem abc(a b:Bool):xr (bt a) (bt b)=bt (a ^^ b):=by cases a <;> cases b <;> rfl
theorem X2(a:Bool):xr (bt a) 1=bt (!a):=by cases a <;> rfl
theorem X3{i:Nat}{c:Co}(hi:128<=i)(h:c i=true):fl (i - 121) (fl (i - 126) (fl (i - 127) (fl (i - 128) (fl i c))))=Nq i c:=by
 funext j;unfold fl Nq;rw[h,Bool.true_and];generalize c j=b;by_cases h0:j=i
 .rw[decide_eq_true h0,decide_eq_false (show ¬ j=i - 128 by omega),decide_eq_false (show ¬ j=i - 127 by omega),decide_eq_false (show ¬ j=i - 126 by omega),decide_eq_false (show ¬ j=i - 121 by omega),decide_eq_true (.inl h0)];cases b <;> rfl
 by_cases h1:j=i - 128
 .rw[decide_eq_false h0,decide_eq_true h1,decide_eq_false (show ¬ j=i - 127 by omega),decide_eq_false (show ¬ j=i - 126 by omega),decide_eq_false (show ¬ j=i - 121 by omega),decide_eq_true (.inr (.inl h1))];cases b <;> rfl
 by_cases h2:j=i - 127
 .rw[decide_eq_false h0,decide_eq_false h1,decide_eq_true h2,decide_eq_false (show ¬ j=i - 126 by omega),decide_eq_false (show ¬ j=i - 121 by omega),decide_eq_true (.inr (.inr (.inl h2)))];cases b <;> rfl
 by_cases h3:j=i - 126
 .rw[decide_eq_false h0,decide_eq_false h1,decide_eq_false h2,decide_eq_true h3,decide_eq_false (show ¬ j=i - 121 by omega),decide_eq_true (.inr (.inr (.inr (.inl h3))))];cases b <;> rfl
 by_cases h4:j=i - 121
 .rw[decide_eq_false h0,decide_eq_false h1,decide_eq_false h2,decide_eq_false h3,decide_eq_true h4,decide_eq_true (.inr (.inr (.inr (.inr h4))))];cases b <;> rfl
 rw[decide_eq_false h0,decide_eq_false h1,decide_eq_false h2,decide_eq_false h3,decide_eq_false h4,decide_eq_false (show ¬(j=i∨j=i - 128∨j=i - 127∨j=i - 126∨j=i - 121) by omega)];cases b <;> rfl
def Rk(x y:Co)(i k:Nat):Co:=fun j=>PR x y i j ^^ (decide (i<=j/\j < i+k) && y (j - i))
theorem Rl(x y:Co)(i:Nat):Rk x y i 0=PR x y i:=by
 funext j;unfold Rk;rw[decide_eq_false (by omega)];simp
theorem Uo{n:Nat}{x y:Co}{i k:Nat}:(Th n (Rk x y i k)).set (i+k) (xr (bt (Rk x y i k (i+k))) (bt (y k)))=Th n (Rk x y i (k+1)):=by
 rw[abc];refine eB fun j _=>?_
 by_cases h:j=i+k
 .subst h;rw[if_pos rfl];unfold Rk;rw[decide_eq_false (show ¬(i<=i+k/\i+k < i+k) by omega),decide_eq_true (show i<=i+k/\i+k < i+(k+1) by omega),show i+k - i=k by omega,Bool.true_and,Bool.false_and,Bool.xor_false]
 .rw[if_neg h];unfold Rk;have e:decide (i<=j/\j < i+k)=decide (i<=j/\j < i+(k+1)):=by congr 1;exact propext ⟨fun h=>by omega,fun h=>by omega⟩
  rw[e]
theorem Uq{x y:Co}(hy:Tr y){i:Nat}(h:x i=true):Rk x y i 128=PR x y (i+1):=by
 funext j;rw[PR,if_pos h];unfold Rk xc sh;by_cases h1:j < i
 .rw[if_pos h1,decide_eq_false (by omega)];rfl
 .rw[if_neg h1];by_cases h2:j < i+128
  .rw[decide_eq_true ⟨by omega,h2⟩,Bool.true_and]
  .rw[decide_eq_false (by omega),hy _ (by omega)];rfl
def zb(c:Co)(i:Nat):List Int:=tab 16 fun j=>((nb c (8 * j) (min 8 (i - 8 * j)):Nat):Int)
theorem NJ(c:Co):zb c 0=List.replicate 16 0:=fW (by unfold zb;rw[aB];simp) fun i hi=>by
 unfold zb at hi ⊢;rw[aB]at hi;rw[bH hi,show min 8 (0 - 8 * i)=0 by omega,nb,List.getD_eq_getElem?_getD,List.getElem?_replicate,if_pos hi];rfl
theorem Rm(c:Co):zb c 128=ah c:=aQ fun i hi=>by rw[show min 8 (128 - 8 * i)=8 by omega]
theorem X4{c:Co}{i:Nat}(hi:i < 128):(zb c i).getD (i / 8) 0=((nb c (8 * (i / 8)) (i % 8):Nat):Int):=by
 unfold zb;rw[bH (by omega),show min 8 (i - 8 * (i / 8))=i % 8 by omega]
theorem X5{c:Co}{i:Nat}:(zb c i).set (i / 8) (2 * ((nb c (8 * (i / 8)) (i % 8):Nat):Int)+bt (c i))=zb c (i+1):=eB fun j _=>by
 by_cases h:j=i / 8
 .rw[if_pos h,h,show min 8 (i+1 - 8 * (i / 8))=i % 8+1 by omega,nb,show 8 * (i / 8)+i % 8=i by omega];unfold bt;omega
 .rw[if_neg h];by_cases h2:i / 8 < j
  .rw[show min 8 (i - 8 * j)=0 by omega,show min 8 (i+1 - 8 * j)=0 by omega]
  .rw[show min 8 (i - 8 * j)=8 by omega,show min 8 (i+1 - 8 * j)=8 by omega]
theorem Ro(c:Co)(o:Nat):∀n k,(nb c o n).testBit k=(decide (k < n) && c (o+(n - 1 - k)))
 | 0,k=>by rw[decide_eq_false (by omega)];simp[nb]
 | n+1,0=>by
  rw[nb,Nat.testBit_zero,decide_eq_true (show 0 < n+1 by omega),Bool.true_and,show n+1 - 1 - 0=n by omega]
  cases h:c (o+n)
  .exact decide_eq_false (by simp)
  .exact decide_eq_true (by simp only[Bool.toNat_true];omega)
 | n+1,k+1=>by
  have hb:=Bool.toNat_le (c (o+n));rw[nb,Nat.testBit_succ,show(2 * nb c o n+(c (o+n)).toNat) / 2=nb c o n by omega,Ro c o n k];have e:decide (k < n)=decide (k+1 < n+1):=by congr 1;exact propext ⟨fun h=>by omega,fun h=>by omega⟩
  rw[e,show n+1 - 1 - (k+1)=n - 1 - k by omega]
theorem X6{c:Co}(hc:Tr c):co (ah c)=c:=by
 funext i;unfold co ah;by_cases h:i < 128
 .rw[decide_eq_true h,Bool.true_and,bH (by omega),Int.toNat_natCast,Ro,decide_eq_true (by omega),Bool.true_and];congr 1;omega
 .rw[decide_eq_false h];exact(hc i (by omega)).symm
theorem X7{s x:List Int}:co (qq s x 0)=xc (co s) (co x):=by
 funext i;unfold co xc qq;simp only;by_cases h:i < 128
 .rw[decide_eq_true h,Bool.true_and,Bool.true_and,Bool.true_and,bH (by omega),C_,Nat.testBit_xor,show 16 * 0+i / 8=i / 8 by omega]
 .rw[decide_eq_false h];rfl
def fullL(l:List Int):List Int:=l++List.replicate ((16 - l.length % 16) % 16) 0
theorem lL(l:List Int):(fullL l).length=16 * ((l.length+15) / 16):=by
 unfold fullL;rw[List.length_append,List.length_replicate];omega
theorem JZ{l:List Int}(h:B8 l):B8 (fullL l):=h.append (B8.py _)
def J6(al tl:List Int):List Int:=fullL al++fullL tl++be 8 ((8 * al.length:Nat):Int)++be 8 ((8 * tl.length:Nat):Int)
theorem Rp(al tl:List Int):(J6 al tl).length=16 * ((al.length+15) / 16+(tl.length+15) / 16+1):=by
 unfold J6;rw[List.length_append,List.length_append,List.length_append,lL,lL,aI,aI];omega
theorem OT(h:Co)(n:Nat)(c:Co)(l:List Int):kF h (n+1) c l=mu (xc (kF h n c l) (co (l.drop (16 * n)))) h:=by
 rw[De];rfl
end Go.V
namespace Go.Proofs.YtefdekemmnnclaaGreat
open Go.V
theorem Ur{h:Co}(al tl:List Int)(ha:al.length<=1000000)(ht:tl.length<=1000000):kF h ((al.length+15) / 16+(tl.length+15) / 16+1) zc (J6 al tl)=D2 h al tl:=by
 have e1:J6 al tl=al++List.replicate ((16 - al.length % 16) % 16) 0++(tl++List.replicate ((16 - tl.length % 16) % 16) 0++(be 8 ((8 * al.length:Nat):Int)++be 8 ((8 * tl.length:Nat):Int))):=by
  unfold J6 fullL;simp only[List.append_assoc]
 rw[e1,Nat.add_assoc,FL (by omega),FL (by omega),kF,Vy (by constructor <;> omega) (by constructor <;> omega)];rfl
end Go.Proofs.YtefdekemmnnclaaGreat
namespace Go.V
theorem Us(m n:Nat):bt (m.testBit n)=((m / 2 ^ n % 2:Nat):Int):=by
 rw[Nat.testBit_eq_decide_div_mod_eq];unfold bt;rcases Nat.mod_two_eq_zero_or_one (m / 2 ^ n) with h | h <;> rw[h] <;> rfl
theorem nt(n:Nat)(c:Co):(Th n c).length=n:=aB _ _
theorem zy{n j:Nat}{c:Co}(h:j < n):(Th n c).getD j 0=bt (c j):=bH h
theorem HF(n i:Nat):(List.replicate n (0:Int)).getD i 0=0:=by
 rw[List.getD_eq_getElem?_getD,List.getElem?_replicate];split <;> rfl
theorem Rq(n:Nat):Th n zc=List.replicate n 0:=fW (by rw[nt];simp) fun i hi=>by
 rw[nt]at hi;rw[zy hi];rw[HF];rfl
theorem Bb(c:Co):(ah c).length=16/\B8 (ah c):=⟨aB _ _,Lw c⟩
end Go.V
namespace Go.Proofs.YtefdekemmnnclaaGreat
open Go.V
section
variable {w w':Wd}
theorem D_{l:List Int}{i:Int}{K:Int->Pw}(hl:cE l)(h0:0<=i)(h1:i < 128)(k:∀w',Ext No w w'->K (bt (co l i.toNat)) w'):pc l i w K:=by
 apply JG
 refine fun b w1 n1=>⟨by decide,?_⟩
 have ed:Int.tdiv i 8=i / 8:=fB h0;have em:Int.tmod i 8=i % 8:=cQ h0;rw[ed];have hc:=(av.new n1).cell (t:=i / 8) (by omega) (by rw[hl.1];omega);have hv:=hl.2.get (i / 8).toNat;have e8:(i / 8).toNat=i.toNat / 8:=by omega
 rw[e8]at hc hv
 have eb:bt (co l i.toNat)=(((l.getD (i.toNat / 8) 0).toNat / 2 ^ (7 - i.toNat % 8) % 2:Nat):Int):=by
  unfold co;rw[decide_eq_true (by omega),Bool.true_and,Us]
 rw[eb]at k;generalize l.getD (i.toNat / 8) 0=v at *
 have ef:Int.fdiv v (2 ^ min (Int.toNat (7 - i % 8)) (IntKind.bits .u8))=((v.toNat / 2 ^ (7 - i.toNat % 8):Nat):Int):=by
  rw[fdiv_pow,show min (Int.toNat (7 - i % 8)) (IntKind.bits .u8)=7 - i.toNat % 8 by show min _ 8=_;omega];obtain⟨m,rfl⟩:=Int.eq_ofNat_of_zero_le hv.1;simp
 have aV:v.toNat / 2 ^ (7 - i.toNat % 8)<=v.toNat:=Nat.div_le_self _ _;generalize v.toNat / 2 ^ (7 - i.toNat % 8)=d at *;refine Ar.i64 (by omega) ⟨by omega,by omega,v,by rw[e8];exact hc,by decide,Nm.as em (Ar.i64 (by omega) ⟨by omega,Nm.as ef (Ar.i64 (by omega) ⟨by decide,Nm.as (e':=((d % 2:Nat):Int)) ?_ (k w1 n1.ext)⟩)⟩)⟩;rw[Int.tmod_eq_emod_of_nonneg (by omega)];omega
theorem Mm{x y:List Int}{K:List Int->Pw}(hx:cE x)(hy:cE y)(k:∀w',Ext No w w'->K (ah (mu (co x) (co y))) w'):uF x y w K:=by
 apply JH;refine fun b w1 n1 b1 w2 n2 b2 w3 n3 b3 w4 n4=>?_
 have s1:=n1.at_;have s2:=n2.at_;have s3:=n3.at_;have s4:=n4.at_;have z1:=n1.size;have z2:=n2.size;have z3:=n3.size;have z4:=n4.size;have x4:Ext No w w4:=((n1.ext.no n2.ext).no n3.ext).no n4.ext
 let Inv:Wd->Co->Prop:=fun u c=>Ext No w u/\av u.heap b 166 .u8 x/\av u.heap b1 166 .u8 y/\av u.heap b2 166 .u8 (List.replicate 16 0)/\av u.heap b3 382 .i64 (Th 255 c)
 have i4:Inv w4 (PR (co x) (co y) 0):=⟨x4,(((av.new n1).ext n2.ext fun h=>h).ext n3.ext fun h=>h).ext n4.ext fun h=>h,((av.new n2).ext n3.ext fun h=>h).ext n4.ext fun h=>h,(show av w3.heap b2 166 .u8 (List.replicate 16 0) from n3.get).ext n4.ext fun h=>h,by
  have:=n4.get;show av w4.heap b3 382 .i64 (Th 255 zc)
  rw[Rq];show _=_;rw[List.map_replicate];exact this⟩
 have iz:∀{u u':Wd}{c:Co},Inv u c->Ext No u u'->Inv u' c:=fun {u u' c} h x=>⟨h.1.no x,h.2.1.ext x fun h=>h,h.2.2.1.ext x fun h=>h,h.2.2.2.1.ext x fun h=>h,h.2.2.2.2.ext x fun h=>h⟩
 have sS:∀{u u':Wd}{c c':Co},Inv u c->Ext (·=b3) u u'->av u'.heap b3 382 .i64 (Th 255 c')->Inv u' c':=fun {u u' c c'} h x a=>⟨h.1.out x (by omega),h.2.1.ext x (by omega),h.2.2.1.ext x (by omega),h.2.2.2.1.ext x (by omega),a⟩
 have tx:=QE x;have ty:=QE y;refine⟨fun m i u=>i=128 - (m:Int)/\m<=128/\Inv u (PR (co x) (co y) i.toNat),⟨128,by omega,by omega,i4⟩,?_⟩;rintro _ m i w5 ⟨hi,hm,i5⟩;refine If.dec (fun h=>?_) fun h=>?_
 .have ei:(i+1).toNat=i.toNat+1:=by omega
  refine⟨x,hx.1,i5.2.1.row,D_ hx (by omega) h fun w6 x6=>If.beq (fun h1=>Ar.i64 (by omega) ⟨m - 1,by omega,by omega,by omega,?_⟩) fun h1=>?_⟩
  .rw[ei,PR,if_neg (fun hc=>by rw[hc]at h1;exact absurd h1 (by decide))];exact iz i5 x6
  have hb:co x i.toNat=true:=by
   cases hc:co x i.toNat
   .rw[hc]at h1;exact absurd rfl h1
   .rfl
  refine⟨fun m k u=>k=128 - (m:Int)/\m<=128/\Inv u (Rk (co x) (co y) i.toNat k.toNat),⟨128,by omega,by omega,by rw[show(0:Int).toNat=0 from rfl,Rl];exact iz i5 x6⟩,?_⟩;rintro _ m1 kk w7 ⟨hk,S0,i7⟩;refine If.dec (fun h2=>?_) fun h2=>Ar.i64 (by omega) ⟨m - 1,by omega,by omega,by omega,?_⟩
  .have ek:(kk+1).toNat=kk.toNat+1:=by omega
   have es:(i+kk).toNat=i.toNat+kk.toNat:=by omega
   have hc:=i7.2.2.2.2.held (S:=No) (fun h=>h) (t:=i+kk) (by omega) (by rw[nt];omega);rw[zy (by omega),es]at hc
   have b01:=NI (Rk (co x) (co y) i.toNat kk.toNat (i.toNat+kk.toNat));have b02:=NI (co y kk.toNat)
   refine⟨Ext No w7,(Ext.refl _ _).drew,Ar.i64 (by omega) (Ar.i64 (by omega) ⟨by omega,by omega,_,by rw[es];exact hc,y,hy.1,i7.2.2.1.IT fun h=>h,D_ hy (by omega) h2 fun w8 x8=>⟨x8.ae,Nm.as (mQ (by omega) (by omega)) ⟨by omega,by omega,?_⟩⟩⟩)⟩;have i8:=iz i7 x8.ae;refine i8.2.2.2.2.st (by omega) (by rw[nt];omega) fun w9 a9 x9=>Ar.i64 (by omega) ⟨m1 - 1,by omega,by omega,by omega,?_⟩
   rw[es,Uo]at a9;rw[ek];exact sS i8 x9 a9
  .rw[ei,<- Uq ty hb,show kk.toNat=128 by omega] at *;exact i7
 .rw[show i.toNat=128 by omega]at i5
  have flp:∀{u:Wd}{c:Co}{j:Nat}{z:Int}{K':Pw},Inv u c->z=(j:Int)->j < 255->(∀u',Inv u' (fl j c)->K' u')->((0:Int)<=z/\z < ((255:Nat):Int)/\∃vv:Int,Cell u ((Addr.mk b3 0 none).add (Int.toNat z * 1)) (.int .i64 vv)/\Nm (bK .xor .i64 vv 1) fun z2=>(0:Int)<=z/\z < ((255:Nat):Int)/\aH u ((Addr.mk b3 0 none).add (Int.toNat z * 1)) (.int .i64 z2) K'):=fun {u c j z K'} hI hz hj hk=>by
   subst hz;have hc:=hI.2.2.2.2.cell (t:=(j:Int)) (by omega) (by rw[nt];omega);rw[Int.toNat_natCast,zy hj]at hc
   have b01:=NI (c j)
   refine⟨by omega,by omega,_,hc,Nm.as ((mQ (by omega) (by decide)).trans (X2 _)) ⟨by omega,by omega,hI.2.2.2.2.st (by omega) (by rw[nt];omega) fun u' a' x'=>hk u' (sS hI x' ?_)⟩⟩;rw[Int.toNat_natCast,Rj]at a';exact a'
  refine⟨fun m t u=>t=127+(m:Int)/\m<=127/\∃c,Inv u c/\IU m c=IU 127 (PR (co x) (co y) 128),⟨127,by omega,by omega,_,i5,rfl⟩,?_⟩;rintro _ m2 t gG ⟨ht,KV,c,i10,OU⟩;refine If.dec (fun h2=>?_) fun h2=>?_
  .obtain⟨n,rfl⟩ : ∃n,m2=n+1:=⟨m2 - 1,by omega⟩
   obtain⟨j,hj⟩ : ∃j,j=128+n:=⟨_,rfl⟩
   have etj:t=(j:Int):=by omega
   rw[IU,<- hj]at OU;have hc:=i10.2.2.2.2.cell (t:=t) (by omega) (by rw[nt];omega);rw[show t.toNat=j by omega,zy (by omega)]at hc;refine⟨by omega,by omega,_,by rw[show t.toNat=j by omega];exact hc,If.beq (fun h3=>⟨by omega,by omega,?_⟩) fun h3=>Ar.i64 (by omega) ⟨n,by omega,by omega,by omega,c,i10,?_⟩⟩
   .have hb:c j=true:=Ri.1 h3;refine i10.2.2.2.2.st (by omega) (by rw[nt];omega) fun hU XV oF=>?_
    have i11:Inv hU (fl j c):=sS i10 oF (by rw[show t.toNat=j by omega,show(0:Int)=bt (!c j) by rw[hb];rfl,Rj]at XV;exact XV);refine Ar.i64 (by omega) (Ar.i64 (by omega) (flp (j:=j - 128) i11 (by omega) (by omega) fun mw i12=>?_));refine Ar.i64 (by omega) (Ar.i64 (by omega) (flp (j:=j - 127) i12 (by omega) (by omega) fun lK i13=>?_));refine Ar.i64 (by omega) (Ar.i64 (by omega) (flp (j:=j - 126) i13 (by omega) (by omega) fun pY i14=>?_));refine Ar.i64 (by omega) (Ar.i64 (by omega) (flp (j:=j - 121) i14 (by omega) (by omega) fun kQ i15=>?_));rw[X3 (by omega) hb]at i15;exact Ar.i64 (by omega) ⟨n,by omega,by omega,by omega,_,i15,OU⟩
   .rw[Nr (by cases hb:c j;rfl;exact absurd (Ri.2 hb) h3)]at OU;exact OU
  .have em:m2=0:=by omega
   subst em;rw[IU,Gy ty (Nat.le_refl _)]at OU;have ec:mu (co x) (co y)=c:=by unfold mu;exact OU.symm
   rw[ec]at k;refine fun b4 ua Rr=>?_
   have s16:=Rr.at_;have z16:=Rr.size;have i16:=iz i10 Rr.ext;have adm:=i10.2.2.2.2.lt
   have a16:av ua.heap b4 166 .u8 (zb c (0:Int).toNat):=by
    rw[show(0:Int).toNat=0 from rfl,NJ];exact Rr.get
   refine⟨fun m t u=>t=128 - (m:Int)/\m<=128/\Inv u c/\av u.heap b4 166 .u8 (zb c t.toNat),⟨128,by omega,by omega,i16,a16⟩,?_⟩;rintro _ m3 t3 rD ⟨ht3,hm3,i17,KX⟩;refine If.dec (fun h4=>?_) fun h4=>?_
   .have ed:Int.tdiv t3 8=t3 / 8:=fB (by omega);refine⟨Ext No rD,(Ext.refl _ _).drew,by decide,?_⟩;rw[ed];have zl:(zb c t3.toNat).length=16:=aB _ _;have ZR:=KX.held (S:=No) (fun h=>h) (t:=t3 / 8) (by omega) (by rw[zl];omega);have Ma:=i17.2.2.2.2.held (S:=No) (fun h=>h) (t:=t3) (by omega) (by rw[nt];omega);have e8:(t3 / 8).toNat=t3.toNat / 8:=by omega
    rw[e8,X4 (by omega)]at ZR;rw[zy (by omega)]at Ma;have hn:=QJ c (8 * (t3.toNat / 8)) (t3.toNat % 8);have hp:2 ^ (t3.toNat % 8)<=2 ^ 7:=Nat.pow_le_pow_right (by decide) (by omega)
    have b01:=NI (c t3.toNat)
    have yo:=X5 (c:=c) (i:=t3.toNat);generalize nb c (8 * (t3.toNat / 8)) (t3.toNat % 8)=q at *;refine Ar.i64 (by omega) ⟨by decide,Ar.i64 (by omega) ⟨by omega,by omega,_,by rw[e8];exact ZR,Ar.u8 (by omega) ⟨by omega,by omega,_,Ma,Ar.u8 (by omega) (Ar.u8 (by omega) ⟨by omega,by omega,?_⟩)⟩⟩⟩;have adJ:av (aa rD).heap b4 166 .u8 (zb c t3.toNat):=KX;refine adJ.st (by omega) (by rw[zl];omega) fun Q6 ZI zt=>Ar.i64 (by omega) ⟨m3 - 1,by omega,by omega,by omega,?_,?_⟩
    .have JK:=i17.2.2.2.2.lt;have h0:=i17.1.size;obtain⟨g1,g2,g3,g4,g5⟩:=i17;exact⟨g1.drew.out zt (by have:=x4.size;omega),(show av (aa rD).heap b 166 .u8 _ from g2).ext zt (by omega),(show av (aa rD).heap b1 166 .u8 _ from g3).ext zt (by omega),(show av (aa rD).heap b2 166 .u8 _ from g4).ext zt (by omega),(show av (aa rD).heap b3 382 .i64 _ from g5).ext zt (by omega)⟩
    .rw[e8,yo]at ZI;rw[show(t3+1).toNat=t3.toNat+1 by omega];exact ZI
   .rw[show t3.toNat=128 by omega,Rm]at KX;exact qO KX i17.2.2.2.1 (aB _ _) (by simp) fun w' x'=>k w' (i17.1.out x' (by omega))
theorem Ea{x y:List Int}{K:List Int->Pw}(hx:cE x)(hy:cE y)(k:∀w',Ext No w w'->K (qq x y 0) w'):oY x y w K:=by
 apply JF;refine fun b w1 n1 b1 w2 n2 b2 w3 n3=>?_
 have s1:=n1.at_;have s2:=n2.at_;have s3:=n3.at_;have z1:=n1.size;have z2:=n2.size;have x3:Ext No w w3:=(n1.ext.no n2.ext).no n3.ext
 let g:Nat->Nat->Int:=fun t i=>if i < t then xr (x.getD i 0) (y.getD (16 * 0+i) 0) else x.getD i 0
 have e0:tab 16 (g 0)=x:=(aQ fun i _=>by show(if i < 0 then _ else _)=_;rw[if_neg (by omega)]).trans (mR hx.1).symm;refine⟨fun m t u=>t=16 - (m:Int)/\m<=16/\Ext No w u/\av u.heap b1 166 .u8 y/\av u.heap b2 166 .u8 (List.replicate 16 0)/\av u.heap b 166 .u8 (tab 16 (g t.toNat)),⟨16,by omega,by omega,x3,((av.new n2).ext n3.ext fun h=>h),n3.get,by rw[show((0:Int)).toNat=0 from rfl,e0];exact((av.new n1).ext n2.ext fun h=>h).ext n3.ext fun h=>h⟩,?_⟩;rintro _ m t w4 ⟨ht,hm,x4,a1,a2,a⟩;refine If.dec (fun h=>?_) fun h=>?_
 .have ev:(tab 16 (g t.toNat)).getD t.toNat 0=x.getD t.toNat 0:=by
   rw[bH (by omega)];show(if _ then _ else _)=_;rw[if_neg (by omega)]
  have Oh:=a.held (S:=No) (fun h=>h) (t:=t) (by omega) (by rw[aB];omega);rw[ev]at Oh;refine⟨Ext No w4,(Ext.refl _ _).drew,by omega,by omega,_,Oh,by omega,by omega,_,a1.held (fun h=>h) (by omega) (by rw[hy.1];omega),Nm.as (br (hx.2.get _) (hy.2.get _)) ⟨by omega,by omega,?_⟩⟩;have a':av (aa w4).heap b 166 .u8 (tab 16 (g t.toNat)):=a;have lt:=x4.size;refine a'.st (by omega) (by rw[aB];omega) fun w5 a5 x5=>Ar.i64 (by omega) ⟨m - 1,by omega,by omega,by omega,x4.drew.out x5 (by omega),(show av (aa w4).heap b1 166 .u8 _ from a1).ext x5 (by omega),(show av (aa w4).heap b2 166 .u8 _ from a2).ext x5 (by omega),?_⟩
  rw[eB (g:=g (t+1).toNat)]at a5
  .exact a5
  .intro i _;show(if _ then _ else if _ then _ else _)=if _ then _ else _
   by_cases hi:i=t.toNat
   .rw[if_pos hi,if_pos (by omega),hi];congr 2;omega
   .rw[if_neg hi];by_cases h2:i < t.toNat
    .rw[if_pos h2,if_pos (by omega)]
    .rw[if_neg h2,if_neg (by omega)]
 .have e:tab 16 (g t.toNat)=qq x y 0:=aQ fun i hi=>by show(if _ then _ else _)=_;rw[if_pos (by omega)]
  rw[e]at a;exact qO a a2 (aB _ _) (by simp) fun w' x'=>k w' (x4.out x' (by omega))
theorem Eb{b:Sl}{l:List Int}{K:Sl->Pw}(hb:aL w.heap b l)(hl:l.length<=100000)(k:∀s w',aD w'.heap w.heap.size s (fullL l)->Ext No w w'->K s w'):mW b w K:=by
 apply Ho;refine D7 hb (by omega) fun s1 w1 o1 x1=>?_
 refine⟨fun m s u=>∃d:Nat,d+m=(16 - l.length % 16) % 16/\aD u.heap w.heap.size s (l++List.replicate d 0)/\Ext No w u,⟨_,0,Nat.zero_add _,by rw[show List.replicate 0 (0:Int)=[] from rfl,List.append_nil];exact o1,x1⟩,?_⟩;rintro _ m s w2 ⟨d,hd,o2,x2⟩;have hs:=aD.len o2;rw[List.length_append,List.length_replicate]at hs;have l2:=x2.size;refine⟨by decide,Nm.as (cQ (by omega)) (If.bne (fun h=>?_) fun h=>?_)⟩
 .refine fun b3 w3 n3=>re n3 o2 l2 (by rw[List.length_append,List.length_replicate];omega) fun s' w4 o4 x4 _=>⟨m - 1,by omega,d+1,by omega,?_,x2.trans x4 fun i hi e=>by have:=(o2.lt e).1;omega⟩
  rw[List.replicate_succ',<- List.append_assoc];exact o4
 .have e:d=(16 - l.length % 16) % 16:=by omega
  unfold fullL at k;rw[<- e]at k;exact k s w2 o2 x2
theorem Rs(o:Nat):∀n,nb zc o n=0
 | 0=>rfl
 | n+1=>by rw[nb,Rs o n];rfl
theorem X8:ah zc=List.replicate 16 0:=by
 rw[<- Rm,<- NJ zc];exact aQ fun i _=>by rw[Rs,Rs]
theorem Mn{h0 al tl:List Int}{dD text:Sl}{K:List Int->Pw}(hh:cE h0)(ra:aL w.heap dD al)(rt:aL w.heap text tl)(ba:B8 al)(b8:B8 tl)(HA:dD.len<=100000)(KW:text.len<=100000)(k:∀w',Ext No w w'->K (ah (D2 (co h0) al tl)) w'):uy h0 dD text w K:=by
 apply JI;refine fun b w1 n1 b1 w2 n2=>?_
 have s1:=n1.at_;have s2:=n2.at_;have z1:=n1.size;have z2:=n2.size;have x2:Ext No w w2:=n1.ext.no n2.ext;have la:=aL.len ra;have lt:=aL.len rt;refine Eb (ra.no x2) (by omega) fun r w3 o3 x3=>Eb ((rt.no x2).no x3) (by omega) fun r1 w4 o4 x4=>?_
 have l3:=aD.len o3;have l4:=aD.len o4;rw[lL]at l3 l4;have L6:=x2.size;have TY:=x3.size;have JK:=x4.size;refine bO (o3.no x4) (by omega) o4.rd.src (by omega) fun s w5 o5 _ x5 _=>?_
 rw[<- List.map_append]at o5;have y5:Ext No w2 w5:=(x3.no x4).trans x5 fun i hi e=>by have:=(o3.lt e).1;omega
 have lt5:=y5.size;have e8:8 * ((dD.len:Int))=((8 * al.length:Nat):Int):=by omega
 have e9:8 * ((text.len:Int))=((8 * tl.length:Nat):Int):=by omega
 refine Ar.u64 (by omega) (Ar.u64 (by omega) ?_);rw[e8];refine zx (by constructor <;> omega) (by decide) (by decide) fun r2 ok2 w6 o6 x6=>Ar.u64 (by omega) (Ar.u64 (by omega) ?_)
 rw[e9];refine zx (by constructor <;> omega) (by decide) (by decide) fun r3 ok3 w7 o7 x7=>?_
 have lt6:=x6.size;have lt7:=x7.size;have l5:=aD.len o5;have l6:=aD.len o6;have l7:=aD.len o7;rw[aI]at l6 l7;rw[List.length_append,lL,lL]at l5;have e88:(8:Int).toNat=8:=rfl;refine bO ((o5.no x6).no x7) (by omega) (o6.rd.no x7).src (by omega) fun s8 w8 o8 _ x8 _=>?_
 rw[<- List.map_append]at o8;have y7:Ext No w2 w7:=(y5.no x6).no x7;have y8:Ext No w2 w8:=y7.trans x8 fun i hi e=>by have:=(o5.lt e).1;omega
 have l8:=aD.len o8;rw[List.length_append,List.length_append,lL,lL,aI]at l8;have lt8:=y8.size;have o78:=o7.ext x8 fun i hi e=>by have:=(o7.lt hi).1;have:=(o5.lt e).2;omega
 refine bO o8 (by omega) o78.rd.src (by omega) fun s9 w9 o9 _ x9 _=>?_
 rw[<- List.map_append]at o9;have y9:Ext No w2 w9:=y8.trans x9 fun i hi e=>by have:=(o8.lt e).1;omega
 have lt9:=y9.size;have o9':aD w9.heap w2.heap.size s9 (J6 al tl):=o9
 have bA:B8 (J6 al tl):=((((JZ ba).append (JZ b8)).append (bM _ _)).append (bM _ _))
 have l9:=aD.len o9';have sA:=Ur (h:=co h0) al tl (by omega) (by omega);rw[Rp]at l9;generalize hN:(al.length+15) / 16+(tl.length+15) / 16+1=N at *;rw[<- sA]at k;generalize J6 al tl=A at *;have th:=QE h0;have tA:∀n,Tr (kF (co h0) n zc A):=fun n=>Ns th n A fun _ _=>rfl
 refine fun b2 gG ji=>?_
 have XW:=ji.at_;have Tc:=ji.size
 let Inv:Wd->List Int->Prop:=fun u l=>Ext No w u/\av u.heap b 166 .u8 h0/\av u.heap b1 166 .u8 (List.replicate 16 0)/\aD u.heap w2.heap.size s9 A/\(∀i,s9.au=some i->i < b2)/\av u.heap b2 166 .u8 l
 have iz:∀{u u':Wd}{l:List Int},Inv u l->Ext No u u'->Inv u' l:=fun {u u' l} h x=>⟨h.1.no x,h.2.1.ext x fun h=>h,h.2.2.1.ext x fun h=>h,h.2.2.2.1.no x,h.2.2.2.2.1,h.2.2.2.2.2.ext x fun h=>h⟩
 have sS:∀{u u':Wd}{l l':List Int},Inv u l->Ext (·=b2) u u'->av u'.heap b2 166 .u8 l'->Inv u' l':=fun {u u' l l'} h x a=>⟨h.1.out x (by omega),h.2.1.ext x (by omega),h.2.2.1.ext x (by omega),h.2.2.2.1.ext x (fun i hi e=>by have:=h.2.2.2.2.1 i hi;omega),h.2.2.2.2.1,a⟩
 have Tg:=y9.no ji.ext
 have i10:Inv gG (ah (kF (co h0) 0 zc A)):=⟨x2.no Tg,((av.new n1).ext n2.ext fun h=>h).ext Tg fun h=>h,(show av w2.heap b1 166 .u8 (List.replicate 16 0) from n2.get).ext Tg fun h=>h,o9'.no ji.ext,fun i hi=>by have:=(o9'.lt hi).2;omega,by show av _ _ _ _ (ah zc);rw[X8];exact ji.get⟩
 refine⟨fun m i u=>i=16 * ((N:Int) - (m:Int))/\m<=N/\Inv u (ah (kF (co h0) (N - m) zc A)),⟨N,by omega,by omega,by rw[Nat.sub_self];exact i10⟩,?_⟩;rintro _ m i hU ⟨hi,hm,i11⟩;have hlA:A.length=16 * N:=by have:=aD.len o9';omega
 refine If.dec (fun h=>?_) fun h=>?_
 rotate_left
 .have em:m=0:=by omega
  subst em;rw[Nat.sub_zero]at i11;exact qO i11.2.2.2.2.2 i11.2.2.1 (aB _ _) (by simp) fun w' x'=>k w' (i11.1.out x' (by omega))
 .obtain⟨j,rfl⟩ : ∃j,m=j+1:=⟨m - 1,by omega⟩
  obtain⟨n,hn⟩ : ∃n,n=N - (j+1):=⟨_,rfl⟩
  have ein:i=((16 * n:Nat):Int):=by omega
  rw[<- hn]at i11;refine fun b3 mw zA=>?_
  have NK:=zA.at_;have X9:=zA.size;have i12:=iz i11 zA.ext;have adv:=i11.2.2.2.2.2.lt
  let g:Nat->Nat->Int:=fun t q=>if q < t then A.getD (16 * n+q) 0 else 0
  have e0:tab 16 (g 0)=List.replicate 16 0:=fW (by rw[aB];simp) fun q hq=>by
   rw[aB]at hq;rw[bH hq];show(if q < 0 then _ else _)=_;rw[if_neg (by omega),HF]
  refine⟨fun m t u=>t=16 - (m:Int)/\m<=16/\Inv u (ah (kF (co h0) n zc A))/\av u.heap b3 166 .u8 (tab 16 (g t.toNat)),⟨16,by omega,by omega,i12,by rw[show((0:Int)).toNat=0 from rfl,e0];exact zA.get⟩,?_⟩;rintro _ m2 t lK ⟨ht,KV,i13,Ny⟩;refine If.dec (fun h2=>?_) fun h2=>?_
  .refine Ar.i64 (by omega) (Ix.int i13.2.2.2.1.rd (by omega) (by omega) fun bb bo _ hc=>⟨_,hc,by omega,by omega,?_⟩);refine Ny.st (by omega) (by rw[aB];omega) fun pY S9 mJ=>Ar.i64 (by omega) ⟨m2 - 1,by omega,by omega,by omega,?_,?_⟩
   .obtain⟨g1,g2,g3,g4,g5,g6⟩:=i13;have adw:=i11.1.size;exact⟨g1.out mJ (by omega),g2.ext mJ (by have:=i11.2.1.lt;omega),g3.ext mJ (by have:=i11.2.2.1.lt;omega),g4.ext mJ (fun q hq e=>by have:=g5 q hq;omega),g5,g6.ext mJ (by omega)⟩
   .rw[eB (g:=g (t+1).toNat)]at S9
    .exact S9
    .intro q _;show(if _ then _ else if _ then _ else _)=if _ then _ else _
     by_cases hq:q=t.toNat
     .rw[if_pos hq,if_pos (by omega),hq];congr 1;omega
     .rw[if_neg hq];by_cases h3:q < t.toNat
      .rw[if_pos h3,if_pos (by omega)]
      .rw[if_neg h3,if_neg (by omega)]
  .have eX:tab 16 (g t.toNat)=tab 16 fun q=>A.getD (16 * n+q) 0:=aQ fun q hq=>by show(if _ then _ else _)=_;rw[if_pos (by omega)]
   rw[eX]at Ny
   have qX:cE (tab 16 fun q=>A.getD (16 * n+q) 0):=⟨aB _ _,Dc fun q _=>bA.get _⟩
   have eC:co (tab 16 fun q=>A.getD (16 * n+q) 0)=co (A.drop (16 * n)):=Df fun q hq=>by
    rw[bH hq];simp only[List.getD_eq_getElem?_getD,List.getElem?_drop]
   have eS:=OT (co h0) n zc A;rw[<- eC]at eS;generalize(tab 16 fun q=>A.getD (16 * n+q) 0)=X at *;have hs:=Bb (kF (co h0) n zc A);have ecs:=X6 (tA n);refine⟨Ext No lK,(Ext.refl _ _).drew,_,hs.1,i13.2.2.2.2.2.IT fun h=>h,X,qX.1,Ny.IT fun h=>h,h0,hh.1,i13.2.1.IT fun h=>h,?_⟩
   refine Ea hs qX fun kQ gH=>⟨gH.ae,Mm (iO hs.2 qX.2 0) hh fun ua ub=>⟨gH.ae.no ub,by rw[List.append_nil,List.length_map];exact(Bb _).1,?_⟩⟩
   rw[X7,ecs,<- eS];have i16:=iz i13 (gH.ae.no ub);refine i16.2.2.2.2.2.oH (by rw[(Bb _).1,(Bb _).1]) fun rD KX zq=>Ar.i64 (by omega) ⟨j,by omega,by omega,by omega,?_⟩
   rw[show N - j=n+1 by omega];exact sS i16 zq KX
end
structure NS where
 n:Int
 z:Nat
abbrev NS.two(p:NS):List Int:=[p.n,(p.z:Int)]
abbrev NS.b(p:NS):List Int:=be p.z p.n
abbrev NS.OK(p:NS):Prop:=0<=p.n/\p.n < 256 ^ p.z/\1<=p.z/\p.z<=8
theorem HG:∀l:List NS,(l.flatMap NS.two).length=2 * l.length
 | []=>rfl
 | p::l=>by rw[List.flatMap_cons,List.length_append,HG l];simp;omega
section
variable {w w':Wd}
theorem sT{lb:Nat}{vs:List NS}{n:Nat}{K:Sl->Pw}(a:av w.heap lb 26 .u64 (vs.flatMap NS.two))(hn:n=2 * vs.length)(hn2:vs.length<=100)(ok:∀p∈vs,p.OK)(k:∀s w',aD w'.heap w.heap.size s (vs.flatMap NS.b)->Ext No w w'->K s w'):gQ ⟨some ⟨lb,0,none⟩,n,n⟩ w K:=by
 subst hn;apply DC;refine⟨fun m b i u=>Ext No w u/\∃d r,vs=d++r/\i=2 * (d.length:Int)/\m=r.length/\aD u.heap w.heap.size b (d.flatMap NS.b),⟨vs.length,Ext.refl _ _,[],vs,rfl,rfl,rfl,aP.nil _ _ _ _⟩,?_⟩;rintro _ m b i w1 ⟨x1,d,r,hv,hi,hm,o⟩;have hdl:d.length+r.length=vs.length:=by rw[hv,List.length_append]
 refine Ar.i64 (by omega) (If.dec (fun h=>?_) fun h=>?_)
 .have h':i+1 < ((2 * vs.length:Nat):Int):=h
  cases r with
  | nil=>simp at hdl;omega
  | cons p r=>
  have hp:=ok p (by rw[hv];simp);have PO:(vs.flatMap NS.two).length=2 * vs.length:=HG vs;have afg:(d.flatMap NS.two).length=2 * d.length:=HG d
  have g0:(vs.flatMap NS.two).getD (i.toNat * 1+0) 0=p.n:=by
   rw[hv,List.flatMap_append,List.getD_eq_getElem?_getD,List.getElem?_append_right (by omega),List.flatMap_cons,show i.toNat * 1+0 - (d.flatMap NS.two).length=0 by omega];rfl
  have g1:(vs.flatMap NS.two).getD ((i+1).toNat * 1+0) 0=(p.z:Int):=by
   rw[hv,List.flatMap_append,List.getD_eq_getElem?_getD,List.getElem?_append_right (by omega),List.flatMap_cons,show(i+1).toNat * 1+0 - (d.flatMap NS.two).length=1 by omega];rfl
  have a1:=a.ext x1 fun h=>h
  have c0:=a1.DY (S:=No) (fun h=>h) (o:=i.toNat * 1) (j:=0) (by omega);have c1:=a1.DY (S:=No) (fun h=>h) (o:=(i+1).toNat * 1) (j:=0) (by omega);rw[g0]at c0;rw[g1]at c1;refine⟨Ext No w1,(Ext.refl _ _).drew,Ix.arr (by omega) (by omega) ⟨p.n,c0,Ar.i64 (by omega) (Ix.arr (by omega) h' ⟨(p.z:Int),c1,Ar.i64 (by omega) ?_⟩)⟩⟩
  refine iK hp.1 (by omega) (by omega) (by rw[Int.toNat_natCast];exact hp.2.1) fun s w2 o2 x2=>⟨x2.ae,?_⟩
  rw[Int.toNat_natCast]at o2;have gV:Ext No w1 w2:=x2.ae;have l1:=x1.size;have l2:=gV.size;have hs:s.len=p.z:=by rw[aD.len o2,aI]
  have Rt:∀d:List NS,(∀q∈d,q.OK)->(d.flatMap NS.b).length<=8 * d.length:=fun d=>by
   induction d with
   | nil=>intro _;simp
   | cons q d ih=>
    intro hq;have:=ih fun q Mj=>hq q (by simp[Mj])
    have:=hq q (by simp);rw[List.flatMap_cons,List.length_append,aI,List.length_cons];omega
  have z_:b.len<=8 * d.length:=by rw[aD.len o];exact Rt d fun q hq=>ok q (by rw[hv];simp[hq])
  refine bO (o.no gV) (by omega) o2.rd.src (by omega) fun s3 w3 o3 _ x3 _=>?_
  rw[<- List.map_append]at o3;refine Ar.i64 (by omega) ⟨r.length,by rw[hm];simp,(x1.no gV).trans x3 fun i hi e=>by have:=(o.lt e).1;omega,d++[p],r,by rw[hv];simp,by simp;omega,rfl,?_⟩;rw[List.flatMap_append,List.flatMap_cons,List.flatMap_nil,List.append_nil];exact o3
 .have h':¬ i+1 < ((2 * vs.length:Nat):Int):=h;have:r=[]:=List.length_eq_zero_iff.1 (by omega);subst this;rw[List.append_nil]at hv;subst hv;exact k b w1 o x1
structure gI where
 t:Int
 kd:Int
 lv:Int
 pg:Int
 cm:Int
 gn:Int
abbrev gI.OK(l:gI):Prop:=(0<=l.t/\l.t<=4294967295)/\By l.kd/\By l.lv/\(0<=l.pg/\l.pg<=4294967295)/\lY l.cm/\(0<=l.gn/\l.gn<=65535)
def gI.aA(l:gI):List Int:=be 4 l.pg++(be 8 l.cm++[])
def gI.dD(l:gI):List Int:=be 4 l.t++(be 1 l.kd++(be 1 l.lv++(be 2 l.gn++[])))
def gI.tail(l:gI):List Int:=be 1 l.kd++(be 1 l.lv++(be 2 l.gn++(be 8 l.cm++[])))
theorem zB{l:gI}{K:Sl->Pw}(ok:l.OK)(k:∀s r w',aD w'.heap w.heap.size s r->r.length=12->B8 r->Ext No w w'->r=l.aA->K s w'):jM l.t l.kd l.lv l.pg l.cm l.gn w K:=by
 apply DF;obtain⟨h1,h2,h3,h4,h5,h6⟩:=ok
 refine fun b w1 n1=>⟨l.pg,Cell.ah n1.get rfl,Ar.u64 (by omega) ⟨l.cm,Cell.ah n1.get rfl,fun b1 w2 n2=>?_⟩⟩
 have l1:=n1.ext.size;have l2:=n2.ext.size;refine sT (vs:=[⟨l.pg,4⟩,⟨l.cm,8⟩]) n2.get rfl (by simp) ?_ fun s w3 o3 x3=>k s _ w3 (o3.mono (by omega)) rfl ?_ ((n1.ext.no n2.ext).no x3) rfl
 .intro p hp;simp only[List.mem_cons,List.not_mem_nil,or_false]at hp;rcases hp with rfl | rfl
  .exact⟨h4.1,by show l.pg < (256:Int) ^ 4;omega,by simp,by simp⟩
  .exact⟨h5.1,Mg h5,by simp,by simp⟩
 .exact(bM _ _).append ((bM _ _).append B8.nil)
theorem Ec{l:gI}{K:Sl->Pw}(ok:l.OK)(k:∀s r w',aD w'.heap w.heap.size s r->r.length=8->B8 r->Ext No w w'->r=l.dD->K s w'):mU l.t l.kd l.lv l.pg l.cm l.gn w K:=by
 apply GY;obtain⟨h1,h2,h3,h4,h5,h6⟩:=ok;have:=h2.1;have:=h2.2;have:=h3.1;have:=h3.2
 refine fun b w1 n1=>⟨l.t,Cell.ah n1.get rfl,Ar.u64 (by omega) ⟨l.kd,Cell.ah n1.get rfl,Ar.u64 (by omega) ⟨l.lv,Cell.ah n1.get rfl,Ar.u64 (by omega) ⟨l.gn,Cell.ah n1.get rfl,Ar.u64 (by omega) fun b1 w2 n2=>?_⟩⟩⟩⟩
 have l1:=n1.ext.size;have l2:=n2.ext.size;refine sT (vs:=[⟨l.t,4⟩,⟨l.kd,1⟩,⟨l.lv,1⟩,⟨l.gn,2⟩]) n2.get rfl (by simp) ?_ fun s w3 o3 x3=>k s _ w3 (o3.mono (by omega)) rfl ?_ ((n1.ext.no n2.ext).no x3) rfl
 .intro p hp;simp only[List.mem_cons,List.not_mem_nil,or_false]at hp;rcases hp with rfl | rfl | rfl | rfl
  .exact⟨h1.1,by show l.t < (256:Int) ^ 4;omega,by simp,by simp⟩
  .exact⟨h2.1,by show l.kd < (256:Int) ^ 1;omega,by simp,by simp⟩
  .exact⟨h3.1,by show l.lv < (256:Int) ^ 1;omega,by simp,by simp⟩
  .exact⟨h6.1,by show l.gn < (256:Int) ^ 2;omega,by simp,by simp⟩
 .exact(bM _ _).append ((bM _ _).append ((bM _ _).append ((bM _ _).append B8.nil)))
end
abbrev aS:List Int:=[67,72,84,49]
section
variable {w w':Wd}
theorem Ru{b n c:Nat}{cs:Array Value}{t:TypeId}{fz:Nat×Nat}(hb:w.heap[b]? = some (.cells cs t fz)):∃w',Sem.run pz (convert 25 25 (.slice (some ⟨b,0,none⟩) n c)) w = .ok (.slice (some ⟨b,0,none⟩) n c) w'/\Ext (·=b) w w'/\w'.heap.size=w.heap.size/\∃fz',w'.heap[b]? = some (.cells cs t fz'):=by
 have h40:Tryz.prog.underlying 25=some (.slice 5):=by kernel_rfl
 have h5:Tryz.prog.underlying 5=some (.int .u8):=by kernel_rfl
 have VK:w.shape? b=some (t,cs.size):=by simp[World.shape?,hb]
 refine⟨w.freeze { block:=b,off:=cs.size } 1,?_,⟨rfl,rfl,rfl,?_,fun i hi dz=>?_⟩,?_,?_⟩
 .simp[convert,aE h40,aE h5,markStringish,shape,Sem.run,VK,freeze]
 .simp[World.freeze]
 .have Xb:¬ b=i:=fun e=>dz e.symm
  simp[World.freeze,Array.getElem?_modify,Xb]
 .simp[World.freeze]
 .obtain⟨lo,hi⟩:=fz;simp[World.freeze,Array.getElem?_modify,hb]
theorem Bw{l:gI}{K:Sl->Pw}(ok:l.OK)(k:∀s r w',aD w'.heap w.heap.size s (aS++r)->r.length=12->B8 r->Ext No w w'->r=l.tail->K s w'):lP l.t l.kd l.lv l.pg l.cm l.gn w K:=by
 apply E3;obtain⟨h1,h2,h3,h4,h5,h6⟩:=ok;have:=h2.1;have:=h2.2;have:=h3.1;have:=h3.2;refine fun b w1 n1 b1 w2 n2=>?_
 have s1:=n1.at_;have s2:=n2.at_;have z1:=n1.size;have z2:=n2.size;obtain⟨w3,hr,x3,hz3,fz,tq⟩:=Ru (n:=4) (c:=4) (show w2.heap[b1]? = some (.cells [Value.int .u8 67,.int .u8 72,.int .u8 84,.int .u8 49].toArray 5 (0,0)) from n2.get);have y3:Ext No w w3:=(n1.ext.no n2.ext).out x3 (by omega)
 have hb:w3.heap[b]? = some (.cells [Value.int .u32 l.t,.int .u8 l.kd,.int .u8 l.lv,.int .u32 l.pg,.int .u64 l.cm,.int .u16 l.gn].toArray 31 (0,0)):=by
  have e1:w2.heap[b]? = _:=(n2.ext.au b (by omega) fun h=>h).trans n1.get;exact(x3.au b (by omega) (by omega)).trans e1
 have rm:aL w3.heap ⟨some ⟨b1,0,none⟩,4,4⟩ aS:=by
  refine⟨rfl,Nat.le_refl _,fun _=>⟨b1,0,rfl,fun i hi=>?_⟩,fun v hv=>cZ v hv⟩;have iS:i < 4:=hi;unfold dt;rw[tq];have:i=0∨i=1∨i=2∨i=3:=by omega
  rcases this with rfl | rfl | rfl | rfl <;> rfl
 refine⟨⟨some ⟨b1,0,none⟩,4,4⟩,w3,hr,l.kd,Cell.ah hb rfl,Ar.u64 (by omega) ⟨l.lv,Cell.ah hb rfl,Ar.u64 (by omega) ⟨l.gn,Cell.ah hb rfl,Ar.u64 (by omega) ⟨l.cm,Cell.ah hb rfl,fun b2 w4 n4=>?_⟩⟩⟩⟩;refine sT (vs:=[⟨l.kd,1⟩,⟨l.lv,1⟩,⟨l.gn,2⟩,⟨l.cm,8⟩]) n4.get rfl (by simp) ?_ fun s w5 o5 x5=>?_
 .intro p hp;simp only[List.mem_cons,List.not_mem_nil,or_false]at hp;rcases hp with rfl | rfl | rfl | rfl
  .exact⟨h2.1,by show l.kd < (256:Int) ^ 1;omega,by simp,by simp⟩
  .exact⟨h3.1,by show l.lv < (256:Int) ^ 1;omega,by simp,by simp⟩
  .exact⟨h6.1,by show l.gn < (256:Int) ^ 2;omega,by simp,by simp⟩
  .exact⟨h5.1,Mg h5,by simp,by simp⟩
 .have hs:s.len=12:=by rw[aD.len o5];rfl
  have l3:=y3.size;have l4:=n4.ext.size;have l5:=x5.size;refine kf ((rm.no n4.ext).no x5) (by rw[hs];show 4 < 4+12;omega) o5.rd (by rw[hs];show 4+12<=1000000;omega) fun s6 w6 o6 x6=>k s6 _ w6 (o6.mono (by omega)) rfl ?_ (((y3.no n4.ext).no x5).no x6) rfl
  exact(bM _ _).append ((bM _ _).append ((bM _ _).append ((bM _ _).append B8.nil)))
theorem Ed{key:Sl}{kind:Int}{K:Bool->Pw}(hlen:key.len=16∨key.len=32)(hk:1<=kind/\kind<=4)(k:K true w):ly key kind w K:=by
 apply xg;have e:decide (kind<=4)=true:=decide_eq_true hk.2;exact If.beq (fun _=>If.dec (fun _=>by rw[e];exact k) fun h=>absurd hk.1 h) fun h=>If.beq (fun _=>If.dec (fun _=>by rw[e];exact k) fun h=>absurd hk.1 h) fun h2=>by omega
theorem Mo{key payload:Sl}{l:gI}{kl pl:List Int}{K:Sl->Int->Pw}(ok:l.OK)(Bx:1<=l.kd/\l.kd<=4)(hk:aL w.heap key kl)(fC:B8 kl)(hlen:key.len=16∨key.len=32)(hp:aL w.heap payload pl)(Ck:payload.len=224)
  (k:∀s r w',aD w'.heap w.heap.size s (aS++(l.tail++r))->r.length=240->B8 r->Ext No w w'->K s 0 w'):uw key l.t l.kd l.lv l.pg l.cm l.gn payload w K:=by
 apply Bt;refine fun b w1 n1=>?_
 have x1:=n1.ext;have l1:=x1.size;have hb:w1.heap[b]? = some (.cells [Value.int .u32 l.t,.int .u8 l.kd,.int .u8 l.lv,.int .u32 l.pg,.int .u64 l.cm,.int .u16 l.gn].toArray 31 (0,0)):=n1.get;refine⟨fun u=>u=w1,⟨l.kd,Cell.ah hb rfl,Ed hlen Bx (If.not (If.yes (If.bne (fun h=>by omega) fun _=>rfl)))⟩,?_⟩;rintro _ w3 rfl;have eJ:∀{o:Nat}{v:Value},[Value.int .u32 l.t,.int .u8 l.kd,.int .u8 l.lv,.int .u32 l.pg,.int .u64 l.cm,.int .u16 l.gn][o]? = some v->af (Ext No w3) ⟨b,o,none⟩ v:=fun h=>af.cell (Cell.ah hb h)
 refine⟨Ext No w3,(Ext.refl _ _).drew,l.t,eJ (o:=0) rfl,l.kd,eJ (o:=1) rfl,l.lv,eJ (o:=2) rfl,l.pg,eJ (o:=3) rfl,l.cm,eJ (o:=4) rfl,l.gn,eJ (o:=5) rfl,l.t,eJ (o:=0) rfl,l.kd,eJ (o:=1) rfl,l.lv,eJ (o:=2) rfl,l.pg,eJ (o:=3) rfl,l.cm,eJ (o:=4) rfl,l.gn,eJ (o:=5) rfl,?_⟩
 refine zB ok fun s4 r4 w4 o4 Tf hB4 x4 _=>⟨x4.ae,Ec ok fun s5 r5 w5 o5 hl5 hB5 x5 _=>⟨x4.ae.no x5,?_⟩⟩
 have Mh:Ext No w3 w5:=x4.ae.no x5;have h4l:s4.len=12:=by rw[aD.len o4];exact Tf
 have h5l:s5.len=8:=by rw[aD.len o5];exact hl5
 have nC:=x1.no Mh
 refine zv (hk.no nC) fC hlen (o4.rd.no x5) hB4 h4l o5.rd hB5 (by omega) (hp.no nC) (by omega) (by omega) fun s6 r6 w6 o6 X_ hB6 x6=>⟨Mh.no x6,If.bne (fun h=>absurd rfl h) fun _=>?_⟩
 have Mp:=Mh.no x6;have J7:w6.heap[b]? = _:=(Mp.au b (Array.getElem?_eq_some_iff.1 hb).1 fun h=>h).trans hb;refine⟨l.t,Cell.ah J7 rfl,l.kd,Cell.ah J7 rfl,l.lv,Cell.ah J7 rfl,l.pg,Cell.ah J7 rfl,l.cm,Cell.ah J7 rfl,l.gn,Cell.ah J7 rfl,Bw ok fun s7 r7 w7 o7 hl7 hB7 x7 e7=>?_⟩;have l5:=nC.size;have l6:=x6.size;have l7:=x7.size;have h7l:s7.len=16:=by rw[aD.len o7];simp[hl7]
 have h6l:s6.len=240:=by rw[aD.len o6];omega
 refine bO (o7.mono (base':=w.heap.size) (by omega)) (by omega) (o6.rd.no x7).src (by omega) fun s8 w8 o8 _ x8 _=>?_
 rw[<- List.map_append,List.append_assoc]at o8;rw[e7]at o8;refine k s8 r6 w8 o8 (by omega) hB6 (((nC.no x6).no x7).trans x8 fun i hi e=>by have:=(o7.lt e).1;omega)
theorem gI.zC(l:gI):l.tail.length=12:=by simp[gI.tail,aI]
theorem gI.vw(l:gI):B8 l.tail:=(bM _ _).append ((bM _ _).append ((bM _ _).append ((bM _ _).append B8.nil)))
end
section
variable {w w':Wd}
theorem OV{root key:Sl}{rl kl:List Int}{az gen dw:Int}{K:Int->Int->Sl->Int->Pw}(hr:aL w.heap root rl)(hrB:B8 rl)(hrl:root.len=32)(ht:0<=az/\az<=4294967295)(hg:0<=gen/\gen<=65535)(hc:lY dw)(hk:aL w.heap key kl)(zm:key.len=16)
  (k:∀s l w',aD w'.heap w.heap.size s l->l.length=32->B8 l->Ext No w w'->K gen dw s 0 w'):uA root az gen dw key w K:=by
 apply Js
 refine fun b w1 n1=>HD (hr.no n1.ext) hrB hrl fun s2 l2 w2 o2 XF Ti x2=>⟨fun u=>u=w2,If.bne (fun h=>absurd rfl h) fun _=>If.bne (fun h=>by omega) fun _=>rfl,?_⟩
 rintro _ w5 rfl;have s1:=n1.at_;have z1:=n1.size;have l2s:=x2.size;have q_:Ext No w w5:=n1.ext.no x2;have h2l:s2.len=32:=by rw[aD.len o2];exact XF
 refine JW ht hg hc fun sn sa ln la w6 on oa hBn hBa hln hla x6=>?_
 have qj:sn.len=12:=by rw[aD.len on];exact hln
 have HA:sa.len=6:=by rw[aD.len oa];exact hla
 have wk:=q_.no x6
 refine zv (o2.rd.no x6) Ti (.inr h2l) on.rd hBn qj oa.rd hBa (by omega) (hk.no wk) (by omega) (by omega) fun s7 l7 w7 o7 hl7 hB7 x7=>If.bne (fun h=>absurd rfl h) fun _=>⟨rfl,?_⟩
 have EI:w1.heap[b]? = some (.cells [Value.int .u16 0,.int .u64 0,.slice none 0 0].toArray 195 (0,0)):=n1.get;have zq:Ext No w1 w7:=(x2.no x6).no x7;have hb7:w7.heap[b]? = _:=(zq.au b (Array.getElem?_eq_some_iff.1 EI).1 fun h=>h).trans EI;have l6:=x6.size;have l7s:=x7.size;refine⟨_,_,_,hb7,rfl,by show 0+3<=3;omega,.inr (.inr (Nat.le_refl _)),fun v hv=>?_,fun w9 hw9=>?_⟩
 .simp only[List.mem_cons,List.not_mem_nil,or_false]at hv;rcases hv with rfl | rfl | rfl <;> rfl
 .have g9:w9.heap[b]? = some (.cells [Value.int .u16 gen,.int .u64 dw,.slice s7.a s7.len s7.cap].toArray 195 (0,0)):=hw9.get hb7;have x9:Ext (fun i=>i=b) w7 w9:=hw9.ext;refine⟨gen,Cell.ah g9 rfl,dw,Cell.ah g9 rfl,s7,Cell.ah g9 rfl,k s7 l7 w9 ?_ (by omega) hB7 ((wk.no x7).out x9 (by omega))⟩;exact(o7.ext x9 fun i hi e=>by have:=(o7.lt hi).1;omega).mono (by omega)
end
end Go.Proofs.YtefdekemmnnclaaGreat
namespace Go.V
section
variable {α:Type} [DecidableEq α] {P:Program} {kt mt et:TypeId} {enc:α->Value} {w:Wd} {r:Nat} {m:List (α×Value)} {a:α}
theorem pB(K:oT P kt enc)(ht:P.underlying mt=some (.map kt et)){z:Value}(hz:(zeroValue et).run P w = .ok z w)(h:fh w.heap enc r m):(Instr.lookup mt (.map (some r)) (enc a) true).run P w = .ok (.tuple #[(mG a m).getD z,.bool (mG a m).isSome]) w:=by
 obtain⟨es,clock,hb,he,hB⟩:=h;have hf:=K.fk a es.toList m w he;have hg:=kX a m 0;simp only[Instr.lookup,Sem.run_bind,aE ht,Result.andThen_ok,ew hb,K.ck,hf,Sem.run_pure]
 cases Dh:gq a m 0 with
 | none=>rw[Dh]at hg;simp only[Option.map_none]at hg;rw[<- hg];simp[hz]
 | some p=>rw[Dh]at hg;simp only[Option.map_some]at hg;rw[<- hg];simp
end
end Go.V
namespace Go.Proofs.YtefdekemmnnclaaGreat
open Go.V
structure Wh where
 t:Int
 g:Int
deriving DecidableEq
abbrev tZ(q:Wh):Value:= .agg (#[.int .u32 q.t,.int .u16 q.g])
theorem abe(a x:Wh)(w:Wd):(Op.equal 260 (tZ a) (tZ x)).run pz w = .ok (decide (a=x)) w:=by
 have h:WX pz 260 [.int .u32 a.t,.int .u16 a.g] [.int .u32 x.t,.int .u16 x.g]=some ((a.t == x.t) && ((a.g == x.g) && true)):=by kernel_rfl
 have:=(nB (cs:=#[.int .u32 a.t,.int .u16 a.g]) (ds:=#[.int .u32 x.t,.int .u16 x.g]) h).2 w
 have e:((a.t == x.t) && ((a.g == x.g) && true))=decide (a=x):=by
  rw[Bool.eq_iff_iff];simp only[Bool.and_eq_true,beq_iff_eq,decide_eq_true_eq];constructor
  .rintro⟨h1,h2,_⟩
   cases a;cases x;simp_all
  .rintro rfl;simp
 rw[e]at this;exact this
theorem abf(b:Bool)(a:Wh)(w:Wd):(Instr.checkKey b 10000 260 (tZ a)).run pz w = .ok () w:=by kernel_rfl
theorem Ya:∃fs,Tryz.prog.underlying 260=some (.struct fs):=by
 have h:(match Tryz.prog.underlying 260 with | some (.struct _)=>true | _=>false)=true:=by kernel_rfl
 split at h
 .exact⟨_,by assumption⟩
 .cases h
theorem Mq:oT pz 260 tZ:=by
 refine⟨abf,fun a es m w he=>?_,fun a=>by simp[Instr.sameBits]⟩;obtain⟨fs,hu⟩:=Ya
 have ask:∀(es:List MapEntry)(m:List (Wh×Value))(i:Nat),es.map (fun e=>(e.key,e.val))=m.map (fun p=>(tZ p.1,p.2))->(Instr.findAsking 260 (tZ a) es i).run pz w = .ok (gq a m i) w:=by
  intro es
  induction es with
  | nil=>intro m i h;cases m with | nil=>rfl | cons=>cases h
  | cons e es ih=>
   intro m i h
   cases m with
   | nil=>cases h
   | cons p m=>
    simp only[List.map_cons,List.cons.injEq,Prod.mk.injEq]at h;unfold Instr.findAsking gq;rw[h.1.1];simp only[Sem.run_bind,abe,Result.andThen_ok];by_cases Nt:a=p.1
    .simp[Nt,h.1.2]
    .simp only[Nt,decide_false,Bool.false_eq_true,if_false];exact ih m (i+1) h.2
 simp only[Instr.findKey,Sem.run_bind,aE hu,Result.andThen_ok]
 cases es with
 | nil=>cases m with
  | nil=>rfl
  | cons=>cases he
 | cons e es=>
  have:Instr.findNow (.struct fs) (tZ a) (e::es) 0=none:=by unfold Instr.findNow;simp[Instr.sameNow]
  rw[this];exact ask _ _ 0 he
theorem HH:Tryz.prog.underlying 256=some (.map 260 25):=by kernel_rfl
structure RK where
 q:Wh
 s:Sl
 l:List Int
abbrev RK.e(k:RK):Wh×Value:=(k.q,k.s.v)
structure kR(u:Wd)(rb mb:Nat)(ks:List RK):Prop where
 au:u.heap[rb]? = some (.cells [Value.map (some mb)].toArray 258 (0,0))
 map:fh u.heap tZ mb (ks.map RK.e)
 key:∀k∈ks,aL u.heap k.s k.l/\B8 k.l/\(k.s.len=16∨k.s.len=32)
 ne:rb≠mb
 nk:∀k∈ks,k.s.au≠some mb
abbrev tu(ks:List RK)(q:Wh):Option RK:=ks.find? fun k=>decide (q=k.q)
theorem Ee(ks:List RK)(q:Wh):mG q (ks.map RK.e)=(tu ks q).map fun k=>k.s.v:=by
 induction ks with
 | nil=>rfl
 | cons k ks ih=>
  simp only[List.map_cons,mG,tu,List.find?_cons];by_cases h:q=k.q
  .simp[h]
  .simp only[h,if_false,decide_false];exact ih
section
variable {w w':Wd} {rb mb:Nat} {ks:List RK}
theorem kR.ext{S:Nat->Prop}(R:kR w rb mb ks)(x:Ext S w w')(h1:¬ S rb)(h2:¬ S mb)(h3:∀k∈ks,∀i,k.s.au=some i->¬ S i):kR w' rb mb ks:=
 ⟨(x.au rb (Array.getElem?_eq_some_iff.1 R.au).1 h1).trans R.au,R.map.ext x h2,fun k hk=>⟨(R.key k hk).1.ext x fun a b ha hb hS=>h3 k hk b (by simp[Sl.au,ha,hb]) hS,(R.key k hk).2⟩,R.ne,R.nk⟩
theorem kR.no(R:kR w rb mb ks)(x:Ext No w w'):kR w' rb mb ks:=R.ext x (fun h=>h) (fun h=>h) fun _ _ _ _ h=>h
theorem HI{K:Option Addr->Pw}(k:∀rb mb w',kR w' rb mb []->w.heap.size<=rb->w.heap.size<=mb->Ext No w w'->K (some ⟨rb,0,none⟩) w'):nX w K:=by
 apply Dx;refine fun b w1 n1 b1 w2 n2=>k b1 b w2 ⟨n2.get,?_,(fun _ h=>nomatch h),?_,(fun _ h=>nomatch h)⟩ ?_ ?_ (n1.ext.no n2.ext)
 .exact⟨#[],0,(n2.ext.au b (Array.getElem?_eq_some_iff.1 n1.get).1 fun h=>h).trans n1.get,rfl,db.nil⟩
 all_goals (have s1:=n1.at_;have s2:=n2.at_;have z1:=n1.size;omega)
theorem Ut{s:Sl}{l:List Int}{K:Sl->Pw}(r:aL w.heap s l)(h1:1<=s.len)(h2:s.len<=100000)(k:∀s' w',aD w'.heap w.heap.size s' l->Ext No w w'->K s' w') :
  an w (.cells ([]:List Value).toArray 5) fun b w2=>aU pz 25 25 ⟨some (Addr.mk b 0 none),0,0⟩ (.slice s.a s.len s.cap) K w2:=by
 refine fun b w2 n2=>kf (l:=[]) ⟨rfl,Nat.le_refl _,fun h=>absurd rfl h,fun _ h=>nomatch h⟩ (by show 0 < 0+s.len;omega) (r.no n2.ext) (by show 0+s.len<=_;omega) fun s' w3 o x=>?_
 have:=n2.ext.size;exact k s' w3 (by rw[List.nil_append]at o;exact o.mono (by omega)) (n2.ext.no x)
theorem VL(w:Wd):(zeroValue 25).run pz w = .ok (.slice none 0 0) w:=by kernel_rfl
theorem nu{t g:Int}{q:RK}{K:Sl->Int->Pw}(R:kR w rb mb ks)(hf:tu ks ⟨t,g⟩=some q)(k:∀s w',aD w'.heap w.heap.size s q.l->Ext No w w'->K s 0 w'):cT (some ⟨rb,0,none⟩) t g w K:=by
 apply Cf;have hm:q∈ks:=List.mem_of_find?_eq_some hf;obtain⟨r1,_,r3⟩:=R.key q hm;have hl:=pB (a:=(⟨t,g⟩ : Wh)) Mq HH (VL w) R.map;rw[Ee,hf]at hl;refine If.no (Nn.mk ⟨some mb,Cell.ah R.au rfl,q.s,true,w,hl,If.no ?_⟩);exact Ut r1 (by omega) (by omega) k
theorem zD{t g:Int}{key:Sl}{kl:List Int}{K:Int->Pw}(R:kR w rb mb ks)(hf:tu ks ⟨t,g⟩=none)(hk:aL w.heap key kl)(hB:B8 kl)(hlen:key.len=16∨key.len=32)
  (k:∀s w',kR w' rb mb (ks++[⟨⟨t,g⟩,s,kl⟩])->(∀i,s.au=some i->w.heap.size<=i)->Ext (·=mb) w w'->K 0 w'):eL (some ⟨rb,0,none⟩) t g key w K:=by
 apply Cc;have hl:=pB (a:=(⟨t,g⟩ : Wh)) Mq HH (VL w) R.map;rw[Ee,hf]at hl;refine If.no (Ed hlen ⟨by decide,by decide⟩ (If.not (If.yes (Nn.mk ⟨some mb,Cell.ah R.au rfl,⟨none,0,0⟩,false,w,hl,If.no ?_⟩))));refine⟨Ext (·=mb) w,(Ext.refl _ _).drew,Nn.mk ⟨some mb,af.bq (Cell.ah R.au rfl) R.ne,fun b w3 n3=>⟨(n3.ext.ae).aF,?_⟩⟩⟩;have x3:Ext No w w3:=n3.ext.ae
 refine kf (l:=[]) ⟨rfl,Nat.le_refl _,fun h=>absurd rfl h,fun _ h=>nomatch h⟩ (by show 0 < 0+key.len;omega) (hk.no x3) (by show 0+key.len<=_;omega) fun s w4 o4 x4=>⟨(x3.no x4).aF,?_⟩
 rw[List.nil_append]at o4;have R4:=R.no (x3.no x4);obtain⟨w5,h5,m5,x5,z5⟩:=aJ (a:=(⟨t,g⟩ : Wh)) (v:=s.v) Mq HH R4.map;have nC:Ext (·=mb) w w5:=((x3.no x4).aF (S:=(·=mb))).trans x5 fun i _ e=>e
 have l3:=x3.size;have l4:=x4.size;have hs:s.len=key.len:=by rw[aD.len o4,<- aL.len hk]
 have hmb:mb < w.heap.size:=by obtain⟨es,clock,hb,_⟩:=R.map;exact(Array.getElem?_eq_some_iff.1 hb).1
 refine⟨w5,h5,nC,k s w5 ⟨(x5.au rb (Array.getElem?_eq_some_iff.1 R4.au).1 R.ne).trans R4.au,?_,fun q hq=>?_,R.ne,fun q hq=>?_⟩ (fun i hi=>by have:=(o4.lt hi).1;omega) nC⟩
 .rw[List.map_append]
  have e:Gz (⟨t,g⟩ : Wh) s.v (ks.map RK.e)=ks.map RK.e++[(⟨t,g⟩,s.v)]:=by
   have hg:mG (⟨t,g⟩ : Wh) (ks.map RK.e)=none:=by rw[Ee,hf];rfl
   have Dh:gq (⟨t,g⟩ : Wh) (ks.map RK.e) 0=none:=by have:=kX (⟨t,g⟩ : Wh) (ks.map RK.e) 0;rw[hg]at this;simpa using this
   exact(iT (v:=s.v) Dh).1
  rw[e]at m5;exact m5
 .rcases List.mem_append.1 hq with h | h
  .refine⟨(R4.key q h).1.ext x5 fun a b ha hb hS=>?_,(R4.key q h).2⟩;exact R.nk q h (by simp only[Sl.au,ha,Option.map_some];rw[hb];exact congrArg some hS)
  .simp only[List.mem_singleton]at h;subst h;exact⟨(o4.ext x5 fun i hi e=>by have:=(o4.lt hi).1;omega).rd,hB,by simp only[hs];exact hlen⟩
 .rcases List.mem_append.1 hq with h | h
  .exact R.nk q h
  .simp only[List.mem_singleton]at h;subst h;exact fun e=>by have:=(o4.lt e).1;omega
end
section
variable {w w':Wd}
theorem iQ{K:Pw}(k:K w):a_ 0 w K:=by
 apply GN;exact If.beq (fun _=>k) fun h=>absurd rfl h
theorem jx{x:Sl}{K:Sl->Pw}(k:K x w):aZ x 0 w K:=by
 apply yT;exact iQ k
theorem xU{x:Sl}{K:Sl->Pw}(k:K x w):bX x 0 w K:=by
 apply sH;exact iQ k
theorem OW{x:Sl}{K:Sl->Pw}(k:K x w):gi x 0 w K:=by
 apply tL;exact iQ k
theorem Mr{x:Option Addr}{K:Option Addr->Pw}(k:K x w):ff x 0 w K:=by
 apply pX;exact iQ k
theorem Rv{x:Int}{K:Int->Pw}(k:K x w):ib x 0 w K:=by
 apply vQ;exact iQ k
theorem lM{b:Nat}{cs:List Value}{T:TypeId}{d:Addr}{K:Bool->Pw}(h:w.heap[b]? = some (.cells cs.toArray T (0,0)))(hd:cs[4]? = some (.pointer (some d)))(k:K false w):bI (some ⟨b,0,none⟩) w K:=by
 apply xw;exact If.no (Nn.mk ⟨some d,Cell.ah h hd,k⟩)
theorem zE{K:Option Addr->Pw}(k:∀b w',w'.heap[b]? = some (.cells [Value.map none,.int .u64 0].toArray 299 (0,0))->b=w.heap.size->Ext No w w'->K (some ⟨b,0,none⟩) w'):lC w K:=by
 apply LY;exact fun b w1 n1=>k b w1 n1.get n1.at_ n1.ext
theorem J8{K:Option Addr->Pw}(k:∀b w',w'.heap[b]? = some (.cells [Value.slice none 0 0].toArray 64 (0,0))->b=w.heap.size->Ext No w w'->K (some ⟨b,0,none⟩) w'):f_ w K:=by
 apply wi;exact fun b w1 n1=>k b w1 n1.get n1.at_ n1.ext
theorem J9{n:Int}{K:Int->Int->Pw}(h:0<=n/\n<=64)(k:K (8 * n+4) 0 w):vu n w K:=by
 apply OC;exact If.dec (fun h=>by omega) fun _=>If.dec (fun h=>by omega) fun _=>Ar.i64 (by omega) (Ar.i64 (by omega) k)
theorem J_{q:Int}{K:Int->Int->Pw}(h:1<=q/\q<=1000)(k:K (4 * q+2) 0 w):Av q w K:=by
 apply OA;exact If.dec (fun h=>by omega) fun _=>If.dec (fun h=>by omega) fun _=>Ar.i64 (by omega) (Ar.i64 (by omega) k)
theorem OX{s:Sl}{q blocks:Int}{K:Bool->Int->Pw}(hs:Rd w.heap s 1 ([q].map (Value.int .i64)))(hq:1<=q/\q<=1000)(k:K (decide (12+(4 * q+2)<=blocks)) 0 w):rV blocks s w K:=by
 apply Hf;have hl:s.len=1:=by have:=hs.len;simpa using this.symm
 have e:((s.len:Nat):Int)=1:=by omega
 show vu ((s.len:Nat):Int) w _;rw[e];refine J9 (by omega) (If.bne (fun h=>absurd rfl h) fun _=>?_);apply Ch;refine⟨fun m all t u=>u=w/\((m=1/\all=0/\t=0)∨(m=0/\all=4 * q+2/\t=1)),⟨1,rfl,.inl ⟨rfl,rfl,rfl⟩⟩,?_⟩;rintro _ m all t w1 ⟨rfl,h⟩;refine If.dec (fun ht=>?_) fun ht=>?_
 .have h1:m=1/\all=0/\t=0:=by rcases h with h | h;exact h;omega
  obtain⟨rfl,rfl,rfl⟩:=h1
  refine Ix.int hs (by omega) (by omega) fun b o _ hc=>⟨q,hc,OB (J_ hq (If.bne (fun h=>absurd rfl h) fun _=>Ar.i64 (by omega) (Ar.i64 (by omega) ⟨0,by omega,rfl,.inr ⟨rfl,by omega,rfl⟩⟩)))⟩
 .have h1:all=4 * q+2:=by rcases h with h | h;omega;exact h.2.1
  subst h1;refine If.bne (fun h=>absurd rfl h) fun _=>Ar.i64 (by omega) ?_
  exact k
theorem Ms{s:Sl}{K:Int->Int->Int->Int->Int->Pw}(h:aL w.heap s (List.replicate 256 0))(k:K 0 0 0 0 100 w):ma s w K:=by
 apply Bs;have hl:s.len=256:=by rw[aL.len h];simp
 refine If.bne (fun h=>absurd (by rw[hl];rfl) h) fun _=>⟨fun _=>False,?_,fun _ _ h=>h.elim⟩
 refine h.qP (by decide) (by decide) (by omega) fun s' Ic pA=>mD.mk Ic (fun b o v hv=>Cell.mk hv) ?_
 have hc:(ByteArray.toList ⟨(FJ ((List.replicate 256 (0:Int)).drop ((0:Int).toNat * 1) |>.take (((4:Int) - 0).toNat * 1))).toArray⟩ == ByteArray.toList ⟨#[67,72,84,49]⟩)=false:=by
  rw[toList_mk,show(⟨#[67,72,84,49]⟩ : ByteArray)=⟨([67,72,84,49]:List UInt8).toArray⟩ from rfl,toList_mk]
  decide
 rw[hc];exact If.yes k
end
end Go.Proofs.YtefdekemmnnclaaGreat
namespace Go.V
section
variable {α:Type} {P:Program} {w w':Wd} {mt kt et:TypeId} {enc:α->Value} {r it:Nat} {m sm:List (α×Value)}
abbrev kM(enc:α->Value)(l:List (α×Value)):List (Value×Value):=l.map fun p=>(enc p.1,p.2)
def Cl(enc:α->Value)(w:Wd)(it r:Nat)(m sm:List (α×Value)):Prop:=∃(es:Array MapEntry) (clock:Nat) (seen:List MapEntry),w.heap[it]? = some (.mapIter (some r) clock (seen.map (·.born)).toArray clock)/\w.heap[r]? = some (.map es clock)/\db es.toList clock/\es.toList.map (fun e=>(e.key,e.val))=kM enc m/\seen.map (fun e=>(e.key,e.val))=kM enc sm/\(seen.map (·.born)).Nodup/\∀e∈seen,e∈es.toList
theorem kg{α β:Type}(f:α->β){l:List α}(h:(l.map f).Nodup):l.Nodup:=List.Pairwise.of_map f (fun a b h e=>h (by rw[e])) h
theorem born_inj{l:List MapEntry}(hn:(l.map (·.born)).Nodup){e e':MapEntry}(h:e∈l)(h':e'∈l)(hb:e.born=e'.born):e=e':=by
 induction l with
 | nil=>cases h
 | cons x l ih=>
  simp only[List.map_cons,List.nodup_cons]at hn;rcases List.mem_cons.1 h with h1 | h1 <;> rcases List.mem_cons.1 h' with h2 | h2
  .rw[h1,h2]
  .exact absurd (List.mem_map.2 ⟨e',h2,by rw[<- hb,h1]⟩) hn.1
  .exact absurd (List.mem_map.2 ⟨e,h1,by rw[hb,h2]⟩) hn.1
  .exact ih hn.2 h1 h2
theorem Cl.ext{S:Nat->Prop}(h:Cl enc w it r m sm)(x:Ext S w w')(h1:¬ S it)(h2:¬ S r):Cl enc w' it r m sm:=by
 obtain⟨es,clock,seen,a,b,c⟩:=h;exact⟨es,clock,seen,(x.au it (Array.getElem?_eq_some_iff.1 a).1 h1).trans a,(x.au r (Array.getElem?_eq_some_iff.1 b).1 h2).trans b,c⟩
theorem Cl.no(h:Cl enc w it r m sm)(x:Ext No w w'):Cl enc w' it r m sm:=h.ext x (fun h=>h) fun h=>h
theorem Cl.lt(h:Cl enc w it r m sm):it < w.heap.size:=by
 obtain⟨es,clock,seen,a,b,c⟩:=h;exact(Array.getElem?_eq_some_iff.1 a).1
theorem Cl.start(ht:P.underlying mt=some (.map kt et))(h:fh w.heap enc r m):∃w1,(Instr.range mt (.map (some r))).run P w = .ok (.pointer (some ⟨w.heap.size,0,none⟩)) w1/\Cl enc w1 w.heap.size r m []/\Ext No w w1/\w1.heap.size=w.heap.size+1:=by
 obtain⟨es,clock,b,d,c⟩:=h;obtain⟨w1,kN,hn⟩:=Oq (P:=P) ht b;exact⟨w1,kN,⟨es,clock,[],hn.get,(hn.ext.au r (Array.getElem?_eq_some_iff.1 b).1 fun h=>h).trans b,c,d,rfl,.nil,fun _ h=>nomatch h⟩,hn.ext,hn.size⟩
theorem OY{es seen:List MapEntry}(hn:(es.map (·.born)).Nodup)(hs:(seen.map (·.born)).Nodup)(Ka:∀e∈seen,e∈es):∃rest,(seen++rest).Perm es:=by
 refine⟨es.filter fun e=>!(seen.map (·.born)).contains e.born,(List.perm_ext_iff_of_nodup ?_ (kg _ hn)).2 fun x=>?_⟩
 .refine List.nodup_append.2 ⟨kg _ hs,(kg _ hn).filter _,fun a ha b hb e=>?_⟩;subst e;have:=(List.mem_filter.1 hb).2;simp only[Bool.not_eq_true',List.contains_eq_mem,decide_eq_false_iff_not]at this;exact this (List.mem_map.2 ⟨a,ha,rfl⟩)
 .constructor
  .intro h;rcases List.mem_append.1 h with h | h
   .exact Ka x h
   .exact(List.mem_filter.1 h).1
  .intro h;by_cases hx:x.born∈seen.map (·.born)
   .obtain⟨y,hy,e⟩:=List.mem_map.1 hx;exact List.mem_append.2 (.inl (born_inj hn (Ka y hy) h e ▸ hy))
   .refine List.mem_append.2 (.inr (List.mem_filter.2 ⟨h,?_⟩));simpa using hx
theorem Cl.next(h:Cl enc w it r m sm)(dz:it≠r) :
  ((kM enc sm).Perm (kM enc m)/\∃w',(Instr.next (.pointer (some ⟨it,0,none⟩)) false 0).run P w = .ok (.tuple #[.bool false]) w'/\Ext No w w')∨
  ∃p w',(Instr.next (.pointer (some ⟨it,0,none⟩)) false 0).run P w = .ok (.tuple #[.bool true,enc p.1,p.2]) w'/\(Instr.entry (.pointer (some ⟨it,0,none⟩))).run P w' = .ok (.tuple #[enc p.1,p.2]) w'/\Cl enc w' it r m (sm++[p])/\Ext (·=it) w w'/\p∈m/\(∃rest,(kM enc (sm++[p])++rest).Perm (kM enc m))/\sm.length < m.length:=by
 obtain⟨es,clock,seen,hi,hb,hB,hm,hs,hnd,Ka⟩:=h;rcases QL (P:=P) hi hb hB with⟨lV,w',kN,hx⟩ | ⟨e,hem,Cm,w',kN,iS,hx⟩
 .refine .inl ⟨?_,w',kN,hx⟩
  have hp:seen.Perm es.toList:=(List.perm_ext_iff_of_nodup (kg _ hnd) (kg _ hB.1)).2 fun x=>⟨Ka x,fun Zy=>by
   have:=lV x Zy;simp only[List.mem_map]at this;obtain⟨y,hy,hb⟩:=this
   exact born_inj hB.1 (Ka y hy) Zy hb ▸ hy⟩
  rw[<- hm,<- hs];exact hp.map _
 .have:(e.key,e.val)∈kM enc m:=hm ▸ List.mem_map.2 ⟨e,hem,rfl⟩;obtain⟨p,ZS,hp⟩:=List.mem_map.1 this;have hk:e.key=enc p.1:=(congrArg Prod.fst hp).symm;have hv:e.val=p.2:=(congrArg Prod.snd hp).symm;have hmr:w'.heap[r]? = some (.map es clock):=(hx.au r (Array.getElem?_eq_some_iff.1 hb).1 (Ne.symm dz)).trans hb
  have abg:((seen++[e]).map (·.born)).Nodup:=by
   rw[List.map_append];refine List.nodup_append.2 ⟨hnd,by simp,fun a ha b hb=>?_⟩;simp only[List.map_cons,List.map_nil,List.mem_singleton]at hb;subst hb;rintro rfl;exact Cm (by simpa using ha)
  have VM:∀x∈seen++[e],x∈es.toList:=fun x hx=>by
   rcases List.mem_append.1 hx with h | h
   .exact Ka x h
   .rw[List.mem_singleton]at h;rw[h];exact hem
  have Ic:(seen++[e]).map (fun e=>(e.key,e.val))=kM enc (sm++[p]):=by rw[List.map_append,hs];simp[kM,hk,hv]
  have abh:=Ot (P:=P) iS hmr hB hem;rw[hk,hv]at abh kN;obtain⟨rest,VN⟩:=OY hB.1 abg VM;refine .inr ⟨p,w',kN,abh,⟨es,clock,seen++[e],by simpa using iS,hmr,hB,hm,Ic,abg,VM⟩,hx,ZS,⟨rest.map fun e=>(e.key,e.val),?_⟩,?_⟩
  .rw[<- Ic,<- hm,<- List.map_append];exact VN.map _
  .have h1:=VN.length_eq;have h2:es.toList.length=m.length:=by have:=congrArg List.length hm;simpa using this
   have h3:seen.length=sm.length:=by have:=congrArg List.length hs;simpa using this
   simp only[List.length_append,List.length_cons,List.length_nil]at h1;omega
end
end Go.V
namespace Go.Proofs.YtefdekemmnnclaaGreat
open Go.V
section
variable {w:Wd}
theorem zF{x:Int}{K:Int->Pw}(h0:0<=x)(h1:x<=1)(k:∀r,K r w):eM x w K:=by
 apply B_;apply yS;refine⟨fun a b u=>x=a/\0=b/\w=u,If.dec (fun h=>by omega) fun _=>⟨rfl,rfl,rfl⟩,?_⟩;rintro _ _ _ _ ⟨rfl,rfl,rfl⟩;refine⟨fun a b u=>x=a/\0=b/\w=u,If.dec (fun h=>by omega) fun _=>⟨rfl,rfl,rfl⟩,?_⟩;rintro _ _ _ _ ⟨rfl,rfl,rfl⟩;refine⟨fun a b u=>x=a/\0=b/\w=u,If.dec (fun h=>by omega) fun _=>⟨rfl,rfl,rfl⟩,?_⟩;rintro _ _ _ _ ⟨rfl,rfl,rfl⟩;have hx:x=0∨x=1:=by omega
 refine Ar.u8 (by omega) ?_;rcases hx with rfl | rfl
 .exact⟨0,by omega,rfl,Ar.i64 (by decide) (Ar.i64 (by decide) (k _))⟩
 .exact⟨1,by omega,rfl,Ar.i64 (by decide) (Ar.i64 (by decide) (k _))⟩
theorem HJ{x:Sl}{K:Pw}(h:x.len<=1)(k:K w):dW x w K:=by
 apply ng;refine Ar.u64 (by omega) (zF (by omega) (by omega) fun r=>?_);apply lF;refine⟨fun _ a b _ _ _ u=>0=a/\(x.len:Int)=b/\w=u,⟨0,rfl,rfl,rfl⟩,?_⟩;rintro _ _ _ _ l b1 b2 _ ⟨rfl,rfl,rfl⟩;refine Ar.i64 (by omega) (If.dec (fun _=>?_) fun h=>by omega);apply iu;refine Ar.i64 (by omega) ⟨fun _ i u=>1=i/\w=u,⟨0,rfl,rfl⟩,?_⟩;rintro _ _ _ _ ⟨rfl,rfl⟩;exact If.dec (fun h=>by omega) fun _=>k
theorem zG{x:Sl}{K:Pw}(h:x.len<=1)(k:K w):cD x w K:=by
 apply ni;refine Ar.u64 (by omega) (zF (by omega) (by omega) fun r=>?_);apply lH;refine⟨fun _ a b _ _ _ u=>0=a/\(x.len:Int)=b/\w=u,⟨0,rfl,rfl,rfl⟩,?_⟩;rintro _ _ _ _ l b1 b2 _ ⟨rfl,rfl,rfl⟩;refine Ar.i64 (by omega) (If.dec (fun _=>?_) fun h=>by omega);apply ix;refine Ar.i64 (by omega) ⟨fun _ i u=>1=i/\w=u,⟨0,rfl,rfl⟩,?_⟩;rintro _ _ _ _ ⟨rfl,rfl⟩;exact If.dec (fun h=>by omega) fun _=>k
theorem HK{x:Sl}{K:Pw}(h:x.len<=1)(k:K w):dV x w K:=by
 apply nj;refine Ar.u64 (by omega) (zF (by omega) (by omega) fun r=>?_);apply lI;refine⟨fun _ a b _ _ _ u=>0=a/\(x.len:Int)=b/\w=u,⟨0,rfl,rfl,rfl⟩,?_⟩;rintro _ _ _ _ l b1 b2 _ ⟨rfl,rfl,rfl⟩;refine Ar.i64 (by omega) (If.dec (fun _=>?_) fun h=>by omega);apply iy;refine Ar.i64 (by omega) ⟨fun _ i u=>1=i/\w=u,⟨0,rfl,rfl⟩,?_⟩;rintro _ _ _ _ ⟨rfl,rfl⟩;exact If.dec (fun h=>by omega) fun _=>k
end
section
variable {w w':Wd} {rb mb:Nat} {ks:List RK}
theorem aV{o:Obj}{b:Nat}(h:w.heap[b]? = some o):b < w.heap.size:=(Array.getElem?_eq_some_iff.1 h).1
theorem cr.mk{b o:Nat}{cs vs:List Value}{T:TypeId}{K:Pw}(hb:w.heap[b]? = some (.cells cs.toArray T (0,0)))(ho:o+vs.length<=cs.length)(hv:∀v∈vs,cn v=true)
  (k:∀w',nI w b (.cells (setL cs o vs).toArray T (0,0)) w'->K w'):cr w ⟨b,o,none⟩ vs K:=
 ⟨cs.toArray,T,(0,0),hb,rfl,by simpa using ho,.inr (.inr (Nat.le_refl _)),hv,fun w' hw=>k w' hw⟩
theorem jy{zs vs:List Value}{T:TypeId}{n:Nat}{K:Nat->Pw}(hz:zs.length=vs.length)(hn:vs.length=n)(hv:∀v∈vs,cn v=true)(k:∀w',w'.heap[w.heap.size]? = some (.cells vs.toArray T (0,0))->w'.heap.size=w.heap.size+1->Ext No w w'->K w.heap.size w') :
  an w (.cells zs.toArray T) fun b w1=>List.length (α:=Value) vs=n/\cr w1 (Addr.mk b 0 none) vs (K b):=by
 intro b w1 n1;have hb:=n1.at_;refine⟨hn,cr.mk n1.get (by omega) hv fun w2 h2=>?_⟩;subst hb;have g:=h2.get n1.get;rw[nN vs zs hz.symm]at g;exact k w2 g (by rw[h2.size];exact n1.size) (n1.ext.out h2.ext (Nat.le_refl _))
theorem Mt{base:Nat}{s:Sl}{cs xs:List Value}{K:Sl->Pw}(own:aP w.heap base 27 1 s cs)(du:base<=w.heap.size)(hx:xs.length=1)(hv:∀v∈xs,cn v=true)(hb:s.len<=1000000)
  (hk:∀s' w',aP w'.heap base 27 1 s' (cs++xs)->s'.len=s.len+1->Ext (fun b=>s.au=some b) w w'->(s'.au=s.au∨∃b,s'.au=some b/\w.heap.size<=b)->K s' w'):an w (.cells xs.toArray 27) fun b w1=>aU pz 99 99 s (.slice (some (Addr.mk b 0 none)) 1 1) K w1:=by
 intro b w1 n;have hz:=n.ext.size;refine LI (own.no n.ext) (by omega) (Rd.src (aP.new (n:=1) n (by omega) hv).rd) (by show(s.len+1) * _<=_;omega) fun s' w' o l x hs=>hk s' w' o l ?_ ?_
 .exact Ext.trans n.ext.aF x fun i _ h=>h
 .rcases hs with h | ⟨b,h,hb⟩
  .exact .inl h
  .exact .inr ⟨b,h,by omega⟩
theorem xV{base:Nat}{s:Sl}{cs xs:List Value}{K:Sl->Pw}(own:aP w.heap base 24 1 s cs)(du:base<=w.heap.size)(hx:xs.length=1)(hv:∀v∈xs,cn v=true)(hb:s.len<=1000000)
  (hk:∀s' w',aP w'.heap base 24 1 s' (cs++xs)->s'.len=s.len+1->Ext (fun b=>s.au=some b) w w'->(s'.au=s.au∨∃b,s'.au=some b/\w.heap.size<=b)->K s' w'):an w (.cells xs.toArray 24) fun b w1=>aU pz 23 23 s (.slice (some (Addr.mk b 0 none)) 1 1) K w1:=by
 intro b w1 n;have hz:=n.ext.size;refine LG (own.no n.ext) (by omega) (Rd.src (aP.new (n:=1) n (by omega) hv).rd) (by show(s.len+1) * _<=_;omega) fun s' w' o l x hs=>hk s' w' o l ?_ ?_
 .exact Ext.trans n.ext.aF x fun i _ h=>h
 .rcases hs with h | ⟨b,h,hb⟩
  .exact .inl h
  .exact .inr ⟨b,h,by omega⟩
theorem Uu{base:Nat}{s:Sl}{cs xs:List Value}{K:Sl->Pw}(own:aP w.heap base 3 1 s cs)(du:base<=w.heap.size)(hx:xs.length=1)(hv:∀v∈xs,cn v=true)(hb:s.len<=1000000)
  (hk:∀s' w',aP w'.heap base 3 1 s' (cs++xs)->s'.len=s.len+1->Ext (fun b=>s.au=some b) w w'->(s'.au=s.au∨∃b,s'.au=some b/\w.heap.size<=b)->K s' w'):an w (.cells xs.toArray 3) fun b w1=>aU pz 56 56 s (.slice (some (Addr.mk b 0 none)) 1 1) K w1:=by
 intro b w1 n;have hz:=n.ext.size;refine TV (own.no n.ext) (by omega) (Rd.src (aP.new (n:=1) n (by omega) hv).rd) (by show(s.len+1) * _<=_;omega) fun s' w' o l x hs=>hk s' w' o l ?_ ?_
 .exact Ext.trans n.ext.aF x fun i _ h=>h
 .rcases hs with h | ⟨b,h,hb⟩
  .exact .inl h
  .exact .inr ⟨b,h,by omega⟩
theorem wm{base:Nat}{s:Sl}{cs xs:List Value}{K:Sl->Pw}(own:aP w.heap base 31 6 s cs)(du:base<=w.heap.size)(hx:xs.length=6)(hv:∀v∈xs,cn v=true)(hb:s.len<=1000000)
  (hk:∀s' w',aP w'.heap base 31 6 s' (cs++xs)->s'.len=s.len+1->Ext (fun b=>s.au=some b) w w'->(s'.au=s.au∨∃b,s'.au=some b/\w.heap.size<=b)->K s' w'):an w (.cells xs.toArray 31) fun b w1=>aU pz 55 55 s (.slice (some (Addr.mk b 0 none)) 1 1) K w1:=by
 intro b w1 n;have hz:=n.ext.size;refine EW (own.no n.ext) (by omega) (Rd.src (aP.new (n:=1) n (by omega) hv).rd) (by show(s.len+1) * _<=_;omega) fun s' w' o l x hs=>hk s' w' o l ?_ ?_
 .exact Ext.trans n.ext.aF x fun i _ h=>h
 .rcases hs with h | ⟨b,h,hb⟩
  .exact .inl h
  .exact .inr ⟨b,h,by omega⟩
theorem HL{base:Nat}{s:Sl}{cs xs:List Value}{K:Sl->Pw}(own:aP w.heap base 25 1 s cs)(du:base<=w.heap.size)(hx:xs.length=1)(hv:∀v∈xs,cn v=true)(hb:s.len<=1000000)
  (hk:∀s' w',aP w'.heap base 25 1 s' (cs++xs)->s'.len=s.len+1->Ext (fun b=>s.au=some b) w w'->(s'.au=s.au∨∃b,s'.au=some b/\w.heap.size<=b)->K s' w'):an w (.cells xs.toArray 25) fun b w1=>aU pz 22 22 s (.slice (some (Addr.mk b 0 none)) 1 1) K w1:=by
 intro b w1 n;have hz:=n.ext.size;refine sF (own.no n.ext) (by omega) (Rd.src (aP.new (n:=1) n (by omega) hv).rd) (by show(s.len+1) * _<=_;omega) fun s' w' o l x hs=>hk s' w' o l ?_ ?_
 .exact Ext.trans n.ext.aF x fun i _ h=>h
 .rcases hs with h | ⟨b,h,hb⟩
  .exact .inl h
  .exact .inr ⟨b,h,by omega⟩
theorem Kd{a:Value}(ha:cn a=true):∀v∈[a],cn v=true:=fun v hv=>by simp only[List.mem_singleton]at hv;subst hv;exact ha
theorem abi{a b:Value}(ha:cn a=true)(hb:cn b=true):∀v∈[a,b],cn v=true:=fun v hv=>by simp only[List.mem_cons,List.mem_nil_iff,or_false]at hv;rcases hv with rfl | rfl <;> assumption
theorem cF{l:List Value}(h:l.all cn=true):∀v∈l,cn v=true:=List.all_eq_true.1 h
theorem abj{a:Addr}{q:Wh}{K:Pw}(h:cr w a [.int .u32 q.t,.int .u16 q.g] K):Ah pz 260 (.pointer (some a)) (tZ q) K w:=by
 have e:Ah pz 260 (.pointer (some a)) (tZ q) K w=(2=2/\cr w a [.int .u32 q.t,.int .u16 q.g] K):=by kernel_rfl
 rw[e];exact⟨rfl,h⟩
abbrev rq(ks:List RK)(t:Int):List Int:=(ks.filter fun k=>decide (k.q.t=t)).map fun k=>k.q.g
abbrev oy(sm:List (Wh×Value))(t:Int):List Int:=(sm.filter fun p=>decide (p.1.t=t)).map fun p=>p.1.g
theorem OZ(sm:List (Wh×Value))(t:Int):(oy sm t).length<=sm.length:=by rw[List.length_map];exact List.length_filter_le _ _
def Yb:Value->Wh
 | .agg a=>match a.toList with
  | [.int .u32 t,.int .u16 g]=>⟨t,g⟩
  | _=>⟨0,0⟩
 | _=>⟨0,0⟩
theorem Ke(sm:List (Wh×Value))(t:Int):oy sm t=((kM tZ sm).filter fun p=>decide ((Yb p.1).t=t)).map fun p=>(Yb p.1).g:=by
 induction sm with
 | nil=>rfl
 | cons p sm ih=>
  simp only[oy,kM,List.map_cons,List.filter_cons]at ih ⊢;have e:Yb (tZ p.1)=p.1:=rfl;rw[e];split
  .simp only[List.map_cons,e,ih]
  .exact ih
theorem Uv(ks:List RK)(t:Int):oy (ks.map RK.e) t=rq ks t:=by
 induction ks with
 | nil=>rfl
 | cons k ks ih=>
  simp only[oy,rq,List.map_cons,List.filter_cons]at ih ⊢;split
  .simp only[List.map_cons,ih]
  .exact ih
theorem vy{t:Int}{K:Sl->Pw}(R:kR w rb mb ks)(Tj:ks.length<=1000)(h1:(rq ks t).length<=1)(k:∀s w',aP w'.heap w.heap.size 27 1 s ((rq ks t).map (Value.int .u16))->Ext No w w'->K s w'):df (some ⟨rb,0,none⟩) t w K:=by
 apply AD;refine If.no (Nn.mk ⟨some mb,Cell.ah R.au rfl,?_⟩);obtain⟨w1,kN,hI,hx,hz⟩:=Cl.start (P:=pz) HH R.map;have hmb:mb < w.heap.size:=by obtain⟨es,clock,hb,_⟩:=R.map;exact aV hb
 refine⟨some ⟨w.heap.size,0,none⟩,w1,kN,fun q l u=>∃sm,q=ks.length - sm.length/\Cl tZ u w.heap.size mb (ks.map RK.e) sm/\aP u.heap (w.heap.size+1) 27 1 l ((oy sm t).map (Value.int .u16))/\(∃rest,(kM tZ sm++rest).Perm (kM tZ (ks.map RK.e)))/\Ext No w u,⟨_,[],rfl,hI,aP.nil _ _ _ _,⟨_,.refl _⟩,hx⟩,?_⟩;rintro _ m0 l w2 ⟨sm,rfl,hI,ho,hr,x2⟩;have hz2:=x2.size;have aV:=hI.lt;rcases hI.next (P:=pz) (by omega) with⟨hp,w3,hn,x3⟩ | ⟨p,w3,hn,he,hI3,x3,ZS,VH,hlen⟩
 .refine .inl ⟨w3,hn,?_⟩
  have e:oy sm t=rq ks t:=by
   have D1:(oy sm t).Perm (rq ks t):=by rw[<- Uv,Ke,Ke];exact(hp.filter _).map _
   have hl:=D1.length_eq
   cases h:rq ks t with
   | nil=>rw[h]at hl;exact List.length_eq_zero_iff.1 hl
   | cons a tl=>
    rw[h]at D1 h1;have:tl=[]:=by simp only[List.length_cons]at h1;exact List.length_eq_zero_iff.1 (by omega)
    subst this;exact D1.eq_singleton
  rw[e]at ho;have ho3:=(ho.no x3).mono (Nat.le_succ _);refine HJ ?_ (k l w3 ho3 (x2.no x3));have:=ho3.len;rw[List.length_map]at this;omega
 .refine .inr ⟨tZ p.1,p.2,w3,hn,tZ p.1,p.2,w3,he,fun b w4 n4=>abj (cr.mk n4.get (Nat.le_refl 2) (abi rfl rfl) (fun w5 h5=>?_))⟩;have afh:=x3.size;have S8:=n4.at_;have oz:Ext (·=w.heap.size) w2 w4:=x3.trans (n4.ext.aF) fun i _ h=>h
  have nD:Ext (·=w.heap.size) w2 w5:=oz.trans h5.ext fun i hi e=>by subst e;omega
  have nC:Ext No w w5:=x2.trans nD fun i hi e=>by subst e;omega
  have g5:=h5.get n4.get;have ZT:aP w5.heap (w.heap.size+1) 27 1 l ((oy sm t).map (Value.int .u16)):=ho.ext nD fun i hi e=>by have:=(ho.lt hi).1;omega
  have hI5:Cl tZ w5 w.heap.size mb (ks.map RK.e) (sm++[p]):=(hI3.no n4.ext).ext h5.ext (by omega) (by omega);have hL:(ks.map RK.e).length=ks.length:=List.length_map _;refine⟨_,Cell.ah g5 rfl,If.beq (fun ht=>?_) fun ht=>?_⟩
  .refine⟨_,Cell.ah g5 rfl,Mt ZT (by have:=nD.size;omega) rfl (Kd rfl) (by have:=ZT.len;rw[List.length_map]at this;have:=OZ sm t;omega) fun s w7 o7 l7 x7 hs7=>?_⟩;refine⟨ks.length - (sm.length+1),by omega,sm++[p],by simp,hI5.ext x7 ?_ ?_,?_,VH,nC.trans x7 fun i hi e=>by have:=(ZT.lt e).1;omega⟩
   .intro e;have:=(ZT.lt e).1;omega
   .intro e;have:=(ZT.lt e).1;omega
   .have e:oy (sm++[p]) t=oy sm t++[p.1.g]:=by simp[oy,List.filter_append,ht]
    rw[e,List.map_append];exact o7
  .refine⟨ks.length - (sm.length+1),by omega,sm++[p],by simp,hI5,?_,VH,nC⟩;have e:oy (sm++[p]) t=oy sm t:=by simp[oy,List.filter_append,ht]
   rw[e];exact ZT
theorem Kf{t g:Int}{K:Int->Int->Pw}(R:kR w rb mb ks)(Tj:ks.length<=1000)(h1:rq ks t=[g])(k:∀w',Ext No w w'->K g 0 w'):jh (some ⟨rb,0,none⟩) t w K:=by
 apply xH;refine If.no (vy R Tj (by rw[h1];exact Nat.le_refl _) fun s w1 o1 x1=>?_);rw[h1]at o1;have hl:s.len=1:=by have:=o1.len;simpa using this.symm
 refine If.beq (fun h=>by omega) fun _=>Ar.i64 (by omega) (Ix.int o1.rd (by omega) (by omega) fun b o _ hc=>⟨_,hc,?_⟩)
 have e:([g]:List Int).getD ((s.len:Int) - 1).toNat 0=g:=by rw[hl];rfl
 rw[e];exact k w1 x1
end
end Go.Proofs.YtefdekemmnnclaaGreat
namespace Go.V
theorem mD.at_{C:Addr->Value->Prop}{w:Wd}{s:Sl}{l:List Int}{K:ByteArray->Prop}(h:Rd w.heap s 1 (l.map (Value.int .u8)))(hC:∀b o v,s.au=some b->dt w.heap b o=some v->C ⟨b,o,none⟩ v)
  (k:K ⟨(FJ l).toArray⟩):mD C s K:=by
 refine⟨FJ l,⟨by simpa[FJ] using h.len,fun i hi=>?_,fun hn=>?_⟩,k⟩
 .simp only[FJ,List.length_map]at hi;obtain⟨b,off,ha,hc⟩:=h.at_ (by intro e;simp at e;subst e;simp at hi);refine⟨_,l[i],ha,?_,by simp[FJ]⟩;rw[ay rfl];exact hC _ _ _ (by simp[Sl.au,ha]) (by have:=hc i (by simpa using hi);rw[List.getElem_map]at this;exact this)
 .have:l=[]:=Classical.byContradiction fun dz=>by
   obtain⟨b,off,ha,_⟩:=h.at_ (by simpa using dz);rw[hn]at ha;cases ha
  subst this;rfl
section
variable {α:Type} [DecidableEq α] {P:Program} {kt:TypeId} {enc:α->Value}
theorem Ef(hu:∃fs,P.underlying kt=some (.struct fs))(ck:∀b a w,(Instr.checkKey b 10000 kt (enc a)).run P w = .ok () w)(eq:∀a x w,(Op.equal kt (enc a) (enc x)).run P w = .ok (decide (a=x)) w)(sb:∀a,Instr.sameBits 10000 (enc a) (enc a)=true):oT P kt enc:=by
 refine⟨ck,fun a es m w he=>?_,sb⟩;obtain⟨fs,hu⟩:=hu
 have ask:∀(es:List MapEntry)(m:List (α×Value))(i:Nat),es.map (fun e=>(e.key,e.val))=m.map (fun p=>(enc p.1,p.2))->(Instr.findAsking kt (enc a) es i).run P w = .ok (gq a m i) w:=by
  intro es
  induction es with
  | nil=>intro m i h;cases m with | nil=>rfl | cons=>cases h
  | cons e es ih=>
   intro m i h
   cases m with
   | nil=>cases h
   | cons p m=>
    simp only[List.map_cons,List.cons.injEq,Prod.mk.injEq]at h;unfold Instr.findAsking gq;rw[h.1.1];simp only[Sem.run_bind,eq,Result.andThen_ok];by_cases Nt:a=p.1
    .simp[Nt,h.1.2]
    .simp only[Nt,decide_false,Bool.false_eq_true,if_false];exact ih m (i+1) h.2
 simp only[Instr.findKey,Sem.run_bind,aE hu,Result.andThen_ok]
 cases es with
 | nil=>cases m with
  | nil=>rfl
  | cons=>cases he
 | cons e es=>
  have:Instr.findNow (.struct fs) (enc a) (e::es) 0=none:=by unfold Instr.findNow;simp[Instr.sameNow]
  rw[this];exact ask _ _ 0 he
end
end Go.V
namespace Go.Proofs.YtefdekemmnnclaaGreat
open Go.V
structure LE where
 vZ:gI
 key:List Int
 pay:List Int
 au:List Int
abbrev Uw(l:List Int):ByteArray:=⟨(FJ l).toArray⟩
abbrev LE.c(e:LE):List Value:=[.int .u32 e.vZ.t,.int .u8 e.vZ.kd,.int .u8 e.vZ.lv,.int .u32 e.vZ.pg,.int .u64 e.vZ.cm,.int .u16 e.vZ.gn,.string (Uw e.key),.string (Uw e.pay),.string (Uw e.au)]
theorem LE.len{L:List LE}:∀e∈L,e.c.length=9:=fun _ _=>rfl
structure nw(h:Array Obj)(lb:Nat)(ls:Sl)(L:List LE):Prop where
 au:h[lb]? = some (.cells [ls.v].toArray 64 (0,0))
 own:aP h 0 71 9 ls (L.flatMap LE.c)
 ne:ls.au≠some lb
 b8:∀e∈L,B8 e.au
section
variable {w w':Wd} {lb:Nat} {ls:Sl} {L:List LE}
theorem nw.ext{S:Nat->Prop}(R:nw w.heap lb ls L)(x:Ext S w w')(h1:¬ S lb)(h2:∀i,ls.au=some i->¬ S i):nw w'.heap lb ls L:=
 ⟨(x.au lb (aV R.au) h1).trans R.au,R.own.ext x h2,R.ne,R.b8⟩
theorem nw.no(R:nw w.heap lb ls L)(x:Ext No w w'):nw w'.heap lb ls L:=R.ext x (fun h=>h) fun _ _ h=>h
theorem nw.len(R:nw w.heap lb ls L):ls.len=L.length:=by have:=R.own.len;rw[cC LE.len]at this;omega
theorem wo{key payload:Sl}{l:gI}{kl pl:List Int}{K:Sl->Int->Pw}(R:nw w.heap lb ls L)(hL:L.length<=1000)(ok:l.OK)(Bx:1<=l.kd/\l.kd<=4)(hk:aL w.heap key kl)(fC:B8 kl)(hlen:key.len=16∨key.len=32)(hp:aL w.heap payload pl)(Ck:payload.len=224)
  (kb:∀i,key.au=some i->ls.au≠some i) (pb:∀i,payload.au=some i->ls.au≠some i)
  (k:∀s r oR w',aD w'.heap w.heap.size s (aS++(l.tail++r))->r.length=240->B8 r->nw w'.heap lb oR (L++[⟨l,kl,pl,aS++(l.tail++r)⟩])->(∀i,oR.au=some i->ls.au=some i∨w.heap.size<=i)->(∀i,s.au=some i->oR.au≠some i)->Ext (fun i=>i=lb∨ls.au=some i) w w'->K s 0 w'):dI (some ⟨lb,0,none⟩) key l.t l.kd l.lv l.pg l.cm l.gn payload w K:=by
 apply ti;refine fun b w1 n1=>If.no ?_
 have hb:w1.heap[b]? = some (.cells [Value.int .u32 l.t,.int .u8 l.kd,.int .u8 l.lv,.int .u32 l.pg,.int .u64 l.cm,.int .u16 l.gn].toArray 31 (0,0)):=n1.get;have x1:=n1.ext;have l1:=n1.size;have a1:=n1.at_;refine⟨l.t,Cell.ah hb rfl,l.kd,Cell.ah hb rfl,l.lv,Cell.ah hb rfl,l.pg,Cell.ah hb rfl,l.cm,Cell.ah hb rfl,l.gn,Cell.ah hb rfl,Mo ok Bx (hk.no x1) fC hlen (hp.no x1) Ck fun s r w2 o2 hr hB x2=>If.beq (fun _=>?_) fun h=>absurd rfl h⟩;have q_:=x1.no x2;have z2:=x2.size;have R2:=R.no q_;have Cz:w2.heap[b]? = _:=(x2.au b (aV hb) fun h=>h).trans hb;have Ux:∀i,ls.au=some i->i < w.heap.size:=fun i hi=>(R.own.lt hi).2
 have hnb:¬ (ls.au=some b):=fun e=>by have:=Ux b e;omega
 have eJ:∀{o:Nat}{v:Value},[Value.int .u32 l.t,.int .u8 l.kd,.int .u8 l.lv,.int .u32 l.pg,.int .u64 l.cm,.int .u16 l.gn][o]? = some v->af (Ext (fun i=>ls.au=some i) w2) ⟨b,o,none⟩ v:=fun h=>af.bq (Cell.ah Cz h) hnb
 refine⟨Ext (fun i=>ls.au=some i) w2,(Ext.refl _ _).drew,Nn.mk ⟨ls,af.bq (Cell.ah R2.au rfl) R.ne,l.t,eJ (o:=0) rfl,l.kd,eJ (o:=1) rfl,l.lv,eJ (o:=2) rfl,l.pg,eJ (o:=3) rfl,l.cm,eJ (o:=4) rfl,l.gn,eJ (o:=5) rfl,?_⟩⟩;refine mD.at_ (hk.no q_) (fun b o v e hv=>af.bq (Cell.mk hv) (kb b e)) (mD.at_ (hp.no q_) (fun b o v e hv=>af.bq (Cell.mk hv) (pb b e)) (mD.at_ o2.rd (fun b o v e hv=>af.bq (Cell.mk hv) fun h=>?_) ?_))
 .have:=(o2.lt e).1;have:=Ux b h;omega
 .have R2d:nw (aa w2).heap lb ls L:=R2
  refine fun b3 w3 n3=>⟨(n3.ext.ae).aF,?_⟩
  have hx3:Ext No w2 w3:=n3.ext.ae;have z3:=hx3.size;have hlen:=R2.len
  refine BL (R2d.own.no n3.ext) (Nat.zero_le _) (Rd.src (aP.new (n:=1) n3 rfl (cF rfl)).rd) (by show(ls.len+1) * _<=_;omega) fun s4 w4 o4 l4 x4 PW=>⟨hx3.aF.trans x4 fun i _ h=>h,?_⟩
  have oz:Ext (fun i=>ls.au=some i) w2 w4:=hx3.aF.trans x4 fun i _ h=>h
  have Bz:Ext (fun i=>ls.au=some i) w w4:=q_.aF.trans oz fun i _ h=>h
  have VO:w4.heap[lb]? = some (.cells [ls.v].toArray 64 (0,0)):=(Bz.au lb (aV R.au) R.ne).trans R.au;refine Nn.mk (aH.mk VO (Nat.le_refl 1) rfl fun w5 h5=>?_);have nC:Ext (fun i=>i=lb∨ls.au=some i) w w5:=(Bz.mono fun i _ h=>Or.inr h).trans h5.ext fun i _ h=> .inl h
  have abk:s4.au≠some lb:=fun e=>by
   rcases PW with h | ⟨b',h,EE⟩
   .rw[h]at e;exact R.ne e
   .rw[h]at e;have:=aV R.au;have:=Option.some.inj e;have:=q_.size;omega
  have o25:aD w5.heap w.heap.size s (aS++(l.tail++r)):=((o2.ext oz fun i hi h=>by have:=(o2.lt hi).1;have:=Ux i h;omega).ext h5.ext fun i hi e=>by have:=(o2.lt hi).1;have:=aV R.au;omega).mono (by have:=x1.size;omega);refine k s r s4 w5 o25 hr hB ⟨h5.get VO,?_,abk,fun e he=>?_⟩ (fun i hi=>?_) (fun i hi e=>?_) nC
  .have:=o4.ext h5.ext fun i hi e=>abk (e ▸ hi)
   rw[List.flatMap_append];simpa[LE.c] using this
  .rcases List.mem_append.1 he with h | h
   .exact R.b8 e h
   .simp only[List.mem_singleton]at h;subst h;exact B8.append (by unfold aS;exact fun x hx=>by simp at hx;omega) ((gI.vw l).append hB)
  .rcases PW with h | ⟨b',h,EE⟩
   .exact .inl (h ▸ hi)
   .rw[h]at hi;have:=Option.some.inj hi;have:=q_.size;exact .inr (by omega)
  .rcases PW with h | ⟨b',h,EE⟩
   .rw[h]at e;have:=Ux i e;have:=(o2.lt hi).1;omega
   .rw[h]at e;have:=Option.some.inj e;have:=(o2.lt hi).2;omega
theorem zH{key payload:Sl}{l:gI}{kl pl:List Int}{K:Sl->Int->Pw}(R:nw w.heap lb ls L)(hL:L.length<=1000)(ok:l.OK)(Bx:1<=l.kd/\l.kd<=4)(hk:aL w.heap key kl)(fC:B8 kl)(hlen:key.len=16∨key.len=32)(hp:aL w.heap payload pl)(Ck:payload.len=224)
  (kb:∀i,key.au=some i->ls.au≠some i) (pb:∀i,payload.au=some i->ls.au≠some i)
  (k:∀s r oR w',aD w'.heap w.heap.size s (aS++r)->r.length=252->B8 r->nw w'.heap lb oR (L++[⟨l,kl,pl,aS++r⟩])->(∀i,oR.au=some i->ls.au=some i∨w.heap.size<=i)->(∀i,s.au=some i->oR.au≠some i)->Ext (fun i=>i=lb∨ls.au=some i) w w'->K s 0 w'):dI (some ⟨lb,0,none⟩) key l.t l.kd l.lv l.pg l.cm l.gn payload w K:=
 wo R hL ok Bx hk fC hlen hp Ck kb pb fun s r oR w' o hr hB=>k s (l.tail++r) oR w' o (by rw[List.length_append,gI.zC];omega) ((gI.vw l).append hB)
end
section
variable {w w':Wd} {lb:Nat} {ls:Sl} {L:List LE}
theorem nw.at_(R:nw w.heap lb ls L){i:Nat}(hi:i < L.length){K:Addr->Prop}(k:∀b o,(∀j v,(L[i].c)[j]? = some v->Cell w ⟨b,o+j,none⟩ v)->K ⟨b,o,none⟩):Ix ls.a ls.len (i:Int) 9 K:=by
 have hl:=R.len;refine Ix.elem R.own.rd LE.len (by decide) (by omega) (by omega) fun b o iS _ hc=>k b o fun j v hv=>?_
 exact hc j v (by simpa using hv)
theorem Kg{block:Sl}{bl:List Int}{K:Bool->Pw}(R:nw w.heap lb ls L)(hb:aL w.heap block bl)(hB:B8 bl)(hL:L.length<=1000)(k:∀w',Ext No w w'->K (decide (∃e∈L,e.au=bl)) w'):nV (some ⟨lb,0,none⟩) block w K:=by
 apply DQ;refine fun b w1 n1=>If.not (If.no (Nn.mk ⟨ls,Cell.ah (R.no n1.ext).au rfl,?_⟩))
 apply cz;apply cP;have hl:=R.len;refine⟨fun m t u=>∃i:Nat,t=(i:Int)/\i<=L.length/\m=L.length - i/\Ext No w1 u/\∀j (h:j < L.length),j < i->L[j].au≠bl,⟨_,0,rfl,Nat.zero_le _,rfl,Ext.refl _ _,fun j _ h=>by omega⟩,?_⟩;rintro _ m0 t w2 ⟨i,rfl,hi,rfl,x2,hn⟩;have q_:=n1.ext.no x2;refine If.dec (fun h=>?_) fun h=>?_
 .have iS:i < L.length:=by omega
  refine(R.no q_).at_ iS fun bb o hc=>⟨_,hc 0 _ rfl,_,hc 1 _ rfl,_,hc 2 _ rfl,_,hc 3 _ rfl,_,hc 4 _ rfl,_,hc 5 _ rfl,_,hc 6 _ rfl,_,hc 7 _ rfl,_,hc 8 _ rfl,AO ?_⟩
  apply AN
  refine fun b3 w3 n3=>⟨_,Cell.ah n3.get rfl,block,?_,mD.mk (hb.no (q_.no n3.ext)) (fun b o v h=>Cell.mk h) ?_⟩
  .have g1:w3.heap[b]? = _:=((x2.no n3.ext).au b (aV n1.get) fun h=>h).trans n1.get;exact Cell.ah g1 rfl
  .rw[toList_mk,toList_mk];refine If.mk (fun e=>?_) fun e=>?_
   .have e1:L[i].au=bl:=(Gu (R.b8 _ (List.getElem_mem iS)) hB).1 (eq_of_beq e);have e2:decide ((i:Int)≥0)=true:=decide_eq_true (by omega);show K (decide ((i:Int)≥0)) w3;rw[e2];have e3:decide (∃e∈L,e.au=bl)=true:=decide_eq_true ⟨_,List.getElem_mem iS,e1⟩;rw[<- e3];exact k w3 (q_.no n3.ext)
   .refine Ar.i64 (by omega) ⟨_,?_,i+1,by omega,by omega,rfl,x2.no n3.ext,fun j hj K5=>?_⟩
    .omega
    .rcases Nat.lt_or_ge j i with h | h
     .exact hn j hj h
     .have:j=i:=by omega
      subst this;intro e';rw[e']at e;simp at e
 .have e3:decide (∃e∈L,e.au=bl)=false:=decide_eq_false fun⟨e,he,hb⟩=>by
   obtain⟨j,hj,rfl⟩:=List.getElem_of_mem he;exact hn j hj (by omega) hb
  have:=k w2 q_;rw[e3]at this;exact this
structure Nc where
 p:Int
 c:Int
deriving DecidableEq
abbrev Rw(q:Nc):Value:= .agg (#[.int .u32 q.p,.int .u64 q.c])
theorem abl(a x:Nc)(w:Wd):(Op.equal 159 (Rw a) (Rw x)).run pz w = .ok (decide (a=x)) w:=by
 have h:WX pz 159 [.int .u32 a.p,.int .u64 a.c] [.int .u32 x.p,.int .u64 x.c]=some ((a.p == x.p) && ((a.c == x.c) && true)):=by kernel_rfl
 have:=(nB (cs:=#[.int .u32 a.p,.int .u64 a.c]) (ds:=#[.int .u32 x.p,.int .u64 x.c]) h).2 w
 have e:((a.p == x.p) && ((a.c == x.c) && true))=decide (a=x):=by
  rw[Bool.eq_iff_iff];simp only[Bool.and_eq_true,beq_iff_eq,decide_eq_true_eq];constructor
  .rintro⟨h1,h2,_⟩
   cases a;cases x;simp_all
  .rintro rfl;simp
 rw[e]at this;exact this
theorem Yc:∃fs,Tryz.prog.underlying 159=some (.struct fs):=by
 have h:(match Tryz.prog.underlying 159 with | some (.struct _)=>true | _=>false)=true:=by kernel_rfl
 split at h
 .exact⟨_,by assumption⟩
 .cases h
theorem Rx:oT pz 159 Rw:=Ef Yc (fun b a w=>by kernel_rfl) abl fun a=>by simp[Instr.sameBits]
theorem Ry:Tryz.prog.underlying 156=some (.map 159 71):=by kernel_rfl
theorem Uy(w:Wd):(zeroValue 71).run pz w = .ok (.agg (#[.int .u32 0,.int .u8 0,.int .u8 0,.int .u32 0,.int .u64 0,.int .u16 0,.string ⟨#[]⟩,.string ⟨#[]⟩,.string ⟨#[]⟩])) w:=by kernel_rfl
abbrev LE.n(e:LE):Nc:=⟨e.vZ.pg,e.vZ.cm⟩
theorem Mu{K:Sl->Pw}(R:nw w.heap lb ls L)(hL:L.length<=1000)(hN:(L.map LE.n).Nodup)(k:∀w',Ext No w w'->K ⟨none,0,0⟩ w'):ld (some ⟨lb,0,none⟩) w K:=by
 apply AU;refine If.no fun b w1 n1 b1 w2 n2=>Nn.mk ⟨ls,Cell.ah ((R.no n1.ext).no n2.ext).au rfl,?_⟩
 have hl:=R.len;have hb:=n1.at_
 have m0:fh w1.heap Rw b ([]:List (Nc×Value)):=⟨#[],0,n1.get,rfl,db.nil⟩
 refine⟨fun m l t u=>∃i:Nat,t=(i:Int)/\l=⟨none,0,0⟩/\i<=L.length/\m=L.length - i/\Ext No w u/\b < u.heap.size/\∃ms:List (Nc×Value),fh u.heap Rw b ms/\ms.map Prod.fst=(L.take i).map LE.n,⟨_,0,rfl,rfl,Nat.zero_le _,rfl,n1.ext.no n2.ext,by have:=n1.size;have:=n2.size;omega,[],m0.ext n2.ext (fun h=>h),rfl⟩,?_⟩;rintro _ q l t w3 ⟨i,rfl,rfl,hi,rfl,x3,tq,ms,hm,hk⟩;refine If.dec (fun h=>?_) fun h=>k w3 x3
 have iS:i < L.length:=by omega
 refine(R.no x3).at_ iS fun bb o hc=>⟨_,hc 0 _ rfl,_,hc 1 _ rfl,_,hc 2 _ rfl,_,hc 3 _ rfl,_,hc 4 _ rfl,_,hc 5 _ rfl,_,hc 6 _ rfl,_,hc 7 _ rfl,_,hc 8 _ rfl,?_⟩
 refine jy rfl rfl (cF rfl) fun w5 g5 z5 x5=>⟨_,Cell.ah g5 rfl,_,Cell.ah g5 rfl,jy rfl rfl (cF rfl) fun w7 g7 z7 x7=>⟨_,Cell.ah g7 rfl,_,Cell.ah g7 rfl,?_⟩⟩
 have hm7:=hm.ext (x5.no x7) fun h=>h
 have Zw:mG (L[i].n) ms=none:=by
  have Gb:L[i].n ∉ ms.map Prod.fst:=by
   rw[hk];intro jz;obtain⟨e,he,ZU⟩:=List.mem_map.1 jz;obtain⟨j,hj,rfl⟩:=List.getElem_of_mem he;simp only[List.length_take]at hj;rw[List.getElem_take]at ZU;have:=List.pairwise_iff_getElem.1 hN j i (by simp;omega) (by simpa using iS) (by omega);simp only[List.getElem_map]at this;exact this ZU
  have gen:∀ms:List (Nc×Value),L[i].n ∉ ms.map Prod.fst->mG (L[i].n) ms=none:=by
   intro ms
   induction ms with
   | nil=>intro _;rfl
   | cons p ms ih=>
    intro h;simp only[List.map_cons,List.mem_cons,not_or]at h;unfold mG;rw[if_neg h.1];exact ih h.2
  exact gen ms Gb
 have KZ:=pB (P:=pz) (a:=L[i].n) Rx Ry (Uy w7) hm7;rw[Zw]at KZ;refine⟨0,0,0,0,0,0,⟨#[]⟩,⟨#[]⟩,⟨#[]⟩,false,w7,KZ,jy rfl rfl (cF rfl) fun w9 g9 z9 x9=>If.not (If.no ?_)⟩;have O0:w9.heap[w3.heap.size]? = _:=((x7.no x9).au _ (aV g5) fun h=>h).trans g5;have g7':w9.heap[w5.heap.size]? = _:=(x9.au _ (aV g7) fun h=>h).trans g7;obtain⟨gG,hup,adK,fo,Tc⟩:=aJ (P:=pz) (a:=L[i].n) (v:= .agg ((L[i].c).toArray)) Rx Ry (hm7.ext x9 fun h=>h);refine⟨_,Cell.ah g7' rfl,_,Cell.ah g7' rfl,_,Cell.ah O0 rfl,_,Cell.ah O0 rfl,_,Cell.ah O0 rfl,_,Cell.ah O0 rfl,_,Cell.ah O0 rfl,_,Cell.ah O0 rfl,_,Cell.ah O0 rfl,_,Cell.ah O0 rfl,_,Cell.ah O0 rfl,gG,hup,Ar.i64 (by omega) ⟨L.length - (i+1),by omega,i+1,by omega,rfl,by omega,rfl,(((x3.no x5).no x7).no x9).out fo (by omega),by omega,_,adK,?_⟩⟩;have Dh:gq (L[i].n) ms 0=none:=by have:=kX (L[i].n) ms 0;rw[Zw]at this;simpa using this
 rw[(iT Dh).1,List.map_append,hk,List.take_succ_eq_append_getElem iS,List.map_append];rfl
end
end Go.Proofs.YtefdekemmnnclaaGreat
namespace Go.V
theorem cE.set{l:List Int}(h:cE l){i:Nat}{v:Int}(hv:By v):cE (l.set i v):=⟨by rw[List.length_set];exact h.1,h.2.set hv _⟩
end Go.V
namespace Go.Proofs.YtefdekemmnnclaaGreat
open Go.V
section
variable {w w':Wd}
theorem zI{aA:Sl}{nl:List Int}{K:List Int->Pw}(hn:aL w.heap aA nl)(hl:aA.len=12)(k:∀w',Ext No w w'->K (fV nl) w'):lS aA w K:=by
 apply Fc;refine fun b w1 n1 b1 w2 n2=>?_
 have s1:=n1.at_;have s2:=n2.at_;have z1:=n1.size;have x2:Ext No w w2:=n1.ext.no n2.ext;have qj:nl.length=12:=by have:=aL.len hn;omega
 let g:Nat->Nat->Int:=fun t q=>if q < t then nl.getD q 0 else 0
 have e0:tab 16 (g 0)=List.replicate 16 0:=fW (by rw[aB];simp) fun q hq=>by
  rw[aB]at hq;rw[bH hq];show(if q < 0 then _ else _)=_;rw[if_neg (by omega),HF]
 refine⟨fun m t u=>t=12 - (m:Int)/\m<=12/\Ext No w u/\av u.heap b 166 .u8 (List.replicate 16 0)/\av u.heap b1 166 .u8 (tab 16 (g t.toNat)),⟨12,by omega,by omega,x2,(show av w1.heap b 166 .u8 (List.replicate 16 0) from n1.get).ext n2.ext fun h=>h,by rw[show((0:Int)).toNat=0 from rfl,e0];exact n2.get⟩,?_⟩;rintro _ m t w3 ⟨ht,hm,x3,a3,b3⟩;refine If.dec (fun h=>?_) fun h=>?_
 .refine Ix.int (hn.no x3) (by omega) (by omega) fun bb bo _ hc=>⟨_,hc,by omega,by omega,?_⟩
  refine b3.st (by omega) (by rw[aB];omega) fun w4 a4 x4=>Ar.i64 (by omega) ⟨m - 1,by omega,by omega,by omega,x3.out x4 (by omega),a3.ext x4 (by omega),?_⟩
  rw[eB (g:=g (t+1).toNat)]at a4
  .exact a4
  .intro q _;show(if _ then _ else if _ then _ else _)=if _ then _ else _
   by_cases hq:q=t.toNat
   .rw[if_pos hq,if_pos (by omega),hq]
   .rw[if_neg hq];by_cases h3:q < t.toNat
    .rw[if_pos h3,if_pos (by omega)]
    .rw[if_neg h3,if_neg (by omega)]
 .refine⟨by decide,by decide,b3.st (by decide) (by rw[aB];decide) fun w5 a5 x5=>?_⟩
  have e:(tab 16 (g t.toNat)).set (15:Int).toNat 1=fV nl:=by
   refine fW (by rw[List.length_set,aB];unfold fV;simp[qj]) fun q hq=>?_
   rw[List.length_set,aB]at hq;rw[qp _ _ _ _ (by rw[aB];exact hq),bH hq,show(15:Int).toNat=15 from rfl];unfold fV;by_cases Tk:q=15
   .subst Tk;rw[if_pos rfl,List.getD_eq_getElem?_getD,List.getElem?_append_right (by omega),qj];rfl
   .rw[if_neg Tk];show(if _ then _ else _)=_;by_cases VP:q < 12
    .rw[if_pos (by omega),List.getD_eq_getElem?_getD,List.getD_eq_getElem?_getD,List.getElem?_append_left (by omega)]
    .rw[if_neg (by omega),List.getD_eq_getElem?_getD,List.getElem?_append_right (by omega),qj];have:q=12∨q=13∨q=14:=by omega
     rcases this with rfl | rfl | rfl <;> rfl
  rw[e]at a5;exact qO a5 (a3.ext x5 (by omega)) (by unfold fV;simp[qj]) (by simp) fun w' x'=>k w' ((x3.out x5 (by omega)).out x' (by omega))
theorem Kh{c:List Int}{K:List Int->Pw}(hc:cE c)(k:∀r w',cE r->Ext No w w'->K r w'):rU c w K:=by
 apply Hl;refine fun b w1 n1 b1 w2 n2=>?_
 have s1:=n1.at_;have s2:=n2.at_;have z1:=n1.size;have z2:=n2.size;have x2:Ext No w w2:=n1.ext.no n2.ext;have a2:av w2.heap b 166 .u8 c:=(av.new n1).ext n2.ext fun h=>h
 have e2:av w2.heap b1 166 .u8 (List.replicate 16 0):=n2.get;have hl:=hc.1;refine⟨by decide,by decide,_,a2.cell (by decide) (by omega),by decide,by decide,_,a2.cell (by decide) (by omega),by decide,by decide,_,a2.cell (by decide) (by omega),by decide,by decide,_,a2.cell (by decide) (by omega),fun b2 w3 n3=>?_⟩;have h0:=hc.2.get (12:Int).toNat;have h1:=hc.2.get (13:Int).toNat;have h2:=hc.2.get (14:Int).toNat;have h3:=hc.2.get (15:Int).toNat;generalize c.getD (12:Int).toNat 0=v0 at *;generalize c.getD (13:Int).toNat 0=v1 at *;generalize c.getD (14:Int).toNat 0=v2 at *;generalize c.getD (15:Int).toNat 0=v3 at *;have s3:=n3.at_;have z3:=n3.size;have r3:aL w3.heap ⟨some ⟨b2,0,none⟩,4,4⟩ [v0,v1,v2,v3]:=(aP.new (n:=4) (sz:=1) n3 rfl (cF rfl)).rd;have b4:B8 [v0,v1,v2,v3]:=((B8.nil.cons h3).cons h2 |>.cons h1).cons h0;have afi:=uZ b4;have hnn:=num_nonneg b4;have abm:(256:Int) ^ [v0,v1,v2,v3].length=4294967296:=by show(256:Int) ^ 4=_;decide
 refine sR r3 b4 (by simp) (Ar.u64 (by omega) ⟨by decide,Nm.as (cQ (by omega)) ?_⟩);refine zx (by constructor <;> omega) (by decide) (by decide) fun s4 ok4 w5 o5 x5=>?_
 have hs:s4.len=4:=by rw[aD.len o5,aI];rfl
 have Mh:=n3.ext.no x5;have l5:=x5.size;refine⟨fun m t u=>t=4 - (m:Int)/\m<=4/\Ext No w u/\av u.heap b1 166 .u8 (List.replicate 16 0)/\aD u.heap w3.heap.size s4 (be (4:Int).toNat ((num [v0,v1,v2,v3]+1) % 4294967296))/\∃l,cE l/\av u.heap b 166 .u8 l,⟨4,by omega,by omega,x2.no Mh,e2.ext Mh fun h=>h,o5,c,hc,a2.ext Mh fun h=>h⟩,?_⟩;rintro _ m t w6 ⟨ht,hm,x6,e6,o6,l,X_,a6⟩;refine If.dec (fun h=>?_) fun h=>?_
 .refine Ar.i64 (by omega) (Ix.int o6.rd (by omega) (by omega) fun bb bo _ hcc=>⟨_,hcc,by omega,by omega,?_⟩);have hbe:=(bM (4:Int).toNat ((num [v0,v1,v2,v3]+1) % 4294967296)).get t.toNat;refine a6.st (by omega) (by rw[X_.1];omega) fun w7 a7 x7=>Ar.i64 (by omega) ⟨m - 1,by omega,by omega,by omega,x6.out x7 (by omega),e6.ext x7 (by omega),o6.ext x7 (fun i hi e=>by have:=(o6.lt hi).1;omega),_,X_.set hbe,a7⟩
 .exact qO a6 e6 X_.1 (by simp) fun w' x'=>k l w' X_ (x6.out x' (by omega))
theorem zJ{key aA text:Sl}{kl nl tl:List Int}{K:Sl->Pw}(hk:aL w.heap key kl)(fC:B8 kl)(hlen:key.len=16∨key.len=32)(hn:aL w.heap aA nl)(Aa:B8 nl)(qj:aA.len=12)(ht:aL w.heap text tl)(NA:B8 tl)(KW:text.len<=65536)
  (k:∀s l w',aD w'.heap w.heap.size s l->l.length=text.len->B8 l->Ext No w w'->K s w'):lQ key aA text w K:=by
 apply Fh;have hr:cE (fV nl):=qZ (by have:=aL.len hn;omega) Aa
 refine zI hn qj fun w1 x1 b w2 n2=>⟨by rw[List.append_nil,List.length_map];exact hr.1,?_⟩
 have s2:=n2.at_;have z2:=n2.size;have l1:=x1.size;refine av.oH (l:=List.replicate 16 0) n2.get (by rw[hr.1];simp) fun w3 a3 x3 b1 w4 n4=>?_
 have s4:=n4.at_;have z4:=n4.size;have l3:=x3.size;have Bz:Ext No w w4:=((x1.no n2.ext).out x3 (by omega)).no n4.ext
 let Inv:Pw:=fun u=>Ext No w u/\w4.heap.size<=u.heap.size/\(∃l,cE l/\av u.heap b 166 .u8 l)/\∃l,cE l/\av u.heap b1 166 .u8 l
 have i4:Inv w4:=⟨Bz,Nat.le_refl _,⟨_,hr,a3.ext n4.ext fun h=>h⟩,_,⟨by simp,B8.py _⟩,(show av w4.heap b1 166 .u8 (List.replicate 16 0) from n4.get)⟩
 have adL:=aL.len ht;refine⟨fun m out i u=>∃j:Nat,i=j/\j<=text.len/\m=text.len - j/\Inv u/\∃l,aD u.heap w4.heap.size out l/\l.length=j/\B8 l,⟨text.len,0,rfl,by omega,by omega,i4,[],aP.nil _ _ _ _,rfl,B8.nil⟩,?_⟩;rintro _ m out i w5 ⟨j,rfl,hj,hm,i5,l,o5,hlj,hlB⟩;refine If.dec (fun h=>?_) fun h=>k out l w5 (o5.mono (by have:=Bz.size;omega)) (by omega) hlB i5.1
 refine⟨fun u=>Inv u/\aD u.heap w4.heap.size out l,⟨by decide,Nm.as (cQ (by omega)) (If.beq (fun VF=>?_) fun VF=>⟨i5,o5⟩)⟩,?_⟩
 .obtain⟨x5,z5,⟨lb,qb,ab⟩,lc,qc,ac⟩:=i5;refine⟨lb,qb.1,ab.row,Kh qb fun r w6 VQ x6=>⟨by rw[List.append_nil,List.length_map];exact VQ.1,?_⟩⟩
  refine(ab.ext x6 fun h=>h).oH (by rw[VQ.1,qb.1]) fun w7 a7 x7=>⟨r,VQ.1,a7.row,?_⟩
  have PZ:Ext (fun i=>i=b) w5 w7:=x6.aF.trans x7 fun _ _ h=>h
  have HM:Ext No w w7:=x5.trans PZ fun i hi h=>by subst h;omega
  refine qe (hk.no HM) fC hlen VQ fun w8 x8=>⟨by rw[List.append_nil,List.length_map];exact(np fC VQ.2).1,?_⟩
  have FZ:Ext (fun i=>i=b) w5 w8:=PZ.trans x8.aF fun _ _ h=>h
  have VR:=HM.no x8;refine(ac.ext FZ (by omega)).oH (by rw[(np fC VQ.2).1,qc.1]) fun w9 a9 x9=>?_
  have z58:=FZ.size;have z9:=x9.size;refine⟨⟨VR.trans x9 fun i hi h=>by subst h;omega,by omega,⟨r,VQ,(a7.ext x8 fun h=>h).ext x9 (by omega)⟩,_,np fC VQ.2,a9⟩,(o5.ext FZ fun i hi h=>by have:=(o5.lt hi).1;omega).ext x9 fun i hi h=>by have:=(o5.lt hi).1;omega⟩
 rintro _ gG ⟨i10,D9⟩;obtain⟨fo,Tc,⟨lb,qb,ab⟩,lc,qc,ac⟩:=i10;have JK:=Bz.size;have afj:=ac.lt;have htx:=ht.no fo;have dz:tl.map (Value.int .u8)≠[]:=fun e=>by have:=congrArg List.length e;simp at this;subst this;simp at adL;omega
 have em:Int.tmod (j:Int) 16=(j:Int) % 16:=cQ (by omega);have abn:¬ (out.au=some b1):=fun e=>by have:=(D9.lt e).1;omega
 refine⟨Ext (fun i=>out.au=some i) gG,(Ext.refl _ _).drew,Ix.int htx (by omega) (by omega) fun ab2 ao hab KY=>⟨tl.getD (j:Int).toNat 0,af.bq KY fun e=>?_,by decide,Nm.as em ⟨by omega,by omega,_,ac.held (S:=fun i=>out.au=some i) abn (by omega) (by rw[qc.1];omega),Nm.as (br (NA.get _) (qc.2.get _)) fun b2 hU PV=>⟨PV.ext.ae.aF,?_⟩⟩⟩⟩
 .have:=(D9.lt e).1;have:=ht.lt dz hab;omega
 have adM:aD (aa gG).heap w4.heap.size out l:=D9
 refine re PV adM (by show w4.heap.size<=gG.heap.size;omega) (by omega) fun s' mw VS gV _=>⟨gV.ae,Ar.i64 (by omega) ⟨m - 1,by omega,j+1,by omega,by omega,by omega,?_,_,VS,by simp[hlj],hlB.append (B8.nil.cons (kP (NA.get _) (qc.2.get _)))⟩⟩
 have Uz:Ext (fun i=>out.au=some i) gG mw:=gV.ae;have X9:=Uz.size;exact⟨fo.trans Uz fun i hi e=>by have:=(D9.lt e).1;omega,by omega,⟨lb,qb,ab.ext Uz fun e=>by have:=(D9.lt e).1;omega⟩,lc,qc,ac.ext Uz abn⟩
end
section
variable {w w':Wd}
theorem F0{key aA dD b:Sl}{kl nl al bl:List Int}{K:Sl->Pw}(hk:aL w.heap key kl)(fC:B8 kl)(hlen:key.len=16∨key.len=32)(hn:aL w.heap aA nl)(Aa:B8 nl)(qj:aA.len=12)(ra:aL w.heap dD al)(ba:B8 al)(rb:aL w.heap b bl)(bb:B8 bl)(HA:dD.len<=65536)(z_:b.len<=65536)
  (k:∀s w',aD w'.heap w.heap.size s (tagL kl nl al bl)->Ext No w w'->K s w'):lR key aA dD b w K:=by
 apply Fi;have hr:cE (fV nl):=qZ (by have:=aL.len hn;omega) Aa
 have hz:cE (List.replicate 16 0):=⟨by simp,B8.py _⟩
 have hh:cE (oP kl (List.replicate 16 0)):=np fC (B8.py _);have S_:cE (oP kl (fV nl)):=np fC hr.2;refine⟨List.replicate 16 0,by simp,w,Rb,qe hk fC hlen hz fun w2 x2 b1 w3 n3=>⟨by rw[List.append_nil,List.length_map];exact hh.1,?_⟩⟩;have s3:=n3.at_;have z3:=n3.size;have l2:=x2.size
 refine av.oH (l:=List.replicate 16 0) n3.get (by rw[hh.1];simp) fun w4 a4 x4=>⟨_,hh.1,a4.row,?_⟩
 have Bz:Ext No w w4:=(x2.no n3.ext).out x4 (by omega)
 refine Mn hh (ra.no Bz) (rb.no Bz) ba bb (by omega) (by omega) fun w5 x5 b2 w6 n6=>⟨by rw[List.append_nil,List.length_map];exact(Bb _).1,?_⟩
 have q:=Bb (D2 (co (oP kl (List.replicate 16 0))) al bl);have s6:=n6.at_;have z6:=n6.size;have l5:=x5.size;have l4:=Bz.size;unfold tagL at k;generalize ah (D2 (co (oP kl (List.replicate 16 0))) al bl)=Q at *;refine av.oH (l:=List.replicate 16 0) n6.get (by rw[q.1];simp) fun w7 a7 x7=>?_
 have HM:Ext No w w7:=((Bz.no x5).no n6.ext).out x7 (by omega);refine⟨Ext No w7,(Ext.refl _ _).drew,Q,q.1,a7.IT fun h=>h,zI (hn.no HM.drew) qj fun w8 x8=>⟨x8.ae,qe ((hk.no HM).no x8.ae) fC hlen hr fun w9 x9=>⟨x8.ae.no x9,Ea q S_ fun gG fo=>⟨(x8.ae.no x9).no fo,by rw[List.append_nil,List.length_map];exact(iO q.2 S_.2 0).1,?_⟩⟩⟩⟩;have Mv:=(x8.ae.no x9).no fo;have ht:=iO q.2 S_.2 0;generalize qq Q (oP kl (fV nl)) 0=T at *;have l7:=HM.size;have afk:=Mv.size;refine(a7.ext Mv fun h=>h).oH (by rw[ht.1,q.1]) fun hU XV oF=>?_
 have A_:Ext No w hU:=(HM.no Mv).out oF (by omega);have l11:=A_.size;refine⟨fun m t i u=>∃j:Nat,i=j/\j<=16/\m=16 - j/\Ext No hU u/\aD u.heap hU.heap.size t (tab j fun p=>T.getD p 0),⟨16,0,rfl,by omega,by omega,Ext.refl _ _,aP.nil _ _ _ _⟩,?_⟩;rintro _ m t i mw ⟨j,rfl,hj,hm,gV,VS⟩;have VD:=gV.size;refine If.dec (fun h=>?_) fun h=>?_
 .refine⟨by omega,by omega,_,(XV.ext gV fun h=>h).cell (by omega) (by rw[ht.1];omega),fun b3 lK Rc=>re Rc VS VD (by rw[aB];omega) fun s' pY o14 mJ _=>Ar.i64 (by omega) ⟨m - 1,by omega,j+1,by omega,by omega,by omega,gV.trans mJ fun i hi e=>by have:=(VS.lt e).1;omega,?_⟩⟩;rw[zw];exact o14
 .have ej:j=16:=by omega
  subst ej;rw[<- mR ht.1]at VS;exact k t mw (VS.mono (by omega)) (A_.no gV)
theorem Eg{key aA:Sl}{K:Bool->Pw}(hlen:key.len=16∨key.len=32)(qj:aA.len=12)(k:K true w):oV key aA w K:=by
 apply Jy;refine xS ?_;rw[decide_eq_true hlen];refine If.yes ?_;have:((aA.len:Int) == 12)=true:=by rw[qj];rfl
 rw[this];exact k
theorem Ki{key aA dD text:Sl}{kl nl al tl:List Int}{K:Sl->Int->Pw}(hk:aL w.heap key kl)(fC:B8 kl)(hlen:key.len=16∨key.len=32)(hn:aL w.heap aA nl)(Aa:B8 nl)(qj:aA.len=12)(ra:aL w.heap dD al)(ba:B8 al)(HA:dD.len<=65536)(ht:aL w.heap text tl)(NA:B8 tl)(KW:text.len<=65536)
  (k:∀s c w',aD w'.heap w.heap.size s (c++tagL kl nl al c)->c.length=text.len->B8 c->Ext No w w'->K s 0 w'):rR key aA dD text w K:=by
 apply Hr;refine Eg hlen qj (If.not (If.yes ⟨fun u=>u=w,If.dec (fun h=>by omega) fun _=>If.dec (fun h=>by omega) fun _=>rfl,?_⟩));rintro _ w2 rfl;refine zJ hk fC hlen hn Aa qj ht NA KW fun s3 c w3 o3 hc hB x3=>?_
 have l3:=x3.size;have Tb:=aD.len o3;refine F0 (hk.no x3) fC hlen (hn.no x3) Aa qj (ra.no x3) ba o3.rd hB HA (by omega) fun s4 w4 o4 x4=>?_
 have PW:s4.len=16:=by rw[aD.len o4];exact(nr fC Aa).1
 refine bO (o3.no x4) (by have:=x4.size;omega) o4.rd.src (by omega) fun s5 w5 o5 _ x5 _=>?_
 rw[<- List.map_append]at o5;exact k s5 c w5 o5 hc hB ((x3.no x4).trans x5 fun i hi e=>by have:=(o3.lt e).1;omega)
theorem Kj{key aA dD bL:Sl}{kl nl al sl:List Int}{K:Sl->Int->Pw}(hk:aL w.heap key kl)(fC:B8 kl)(hlen:key.len=16∨key.len=32)(hn:aL w.heap aA nl)(Aa:B8 nl)(qj:aA.len=12)(ra:aL w.heap dD al)(ba:B8 al)(HA:dD.len<=65536)(hs:aL w.heap bL sl)(OR:B8 sl)(pA:bL.len=240)
  (k:∀s e w',(e=0 ↔ tagL kl nl al (sl.take 224)=sl.drop 224)->Ext No w w'->K s e w'):rS key aA dD bL w K:=by
 apply Hp;have hll:sl.length=240:=by have:=aL.len hs;omega
 refine Eg hlen qj (If.not (If.yes ⟨fun u=>u=w,If.dec (fun h=>by omega) fun _=>If.dec (fun h=>by omega) fun _=>rfl,?_⟩));rintro _ w2 rfl;refine If.dec (fun h=>by omega) fun _=>Ar.i64 (by omega) ⟨Ext No w2,(Ext.refl _ _).drew,?_⟩
 have ez:((bL.len:Int)) - 16=224:=by omega
 rw[ez];refine hs.qP (by decide) (by decide) (by omega) fun s ZV PO=>hs.qP (by decide) (by omega) (Int.le_refl _) fun s1 Ui XF=>?_
 have e1:(sl.drop ((0:Int).toNat * 1)).take (((224:Int) - 0).toNat * 1)=sl.take 224:=by
  rw[show((224:Int) - 0).toNat * 1=224 from rfl,show(0:Int).toNat * 1=0 from rfl,List.drop_zero]
 have e2:(sl.drop ((224:Int).toNat * 1)).take ((((bL.len:Nat):Int) - 224).toNat * 1)=sl.drop 224:=by
  rw[show(224:Int).toNat * 1=224 from rfl,List.take_of_length_le (by rw[List.length_drop];omega)]
 rw[e1]at ZV;rw[e2]at Ui;have adN:s.len=224:=by rw[PO];rfl
 have x0:Ext No w2 (aa w2):=(Ext.refl _ _).drew
 refine F0 (hk.no x0) fC hlen (hn.no x0) Aa qj (ra.no x0) ba (Rd.no ZV x0) (OR.take _) HA (by omega) fun s3 w3 o3 x3=>⟨x3.ae,?_⟩
 have xI:=x3.ae;refine xR o3.rd (Rd.no Ui xI) (nr fC Aa).2 (OR.drop _) ⟨xI,?_⟩;refine If.not (If.dec (fun heq=>?_) fun dz=>k _ 60 w3 ⟨fun h=>absurd h (by decide),fun h=>absurd h dz⟩ xI);refine(hs.no xI).qP (by decide) (by decide) (by omega) fun s4 PW Tf=>?_
 rw[e1]at PW;have adO:s4.len=224:=by rw[Tf];rfl
 exact zJ (hk.no xI) fC hlen (hn.no xI) Aa qj PW (OR.take _) (by omega) fun s5 l5 w5 o5 _ _ x5=>k s5 0 w5 ⟨fun _=>heq,fun _=>rfl⟩ (xI.no x5)
theorem HN{key aA dD bL:Sl}{kl nl al sl:List Int}{K:Sl->Int->Pw}(hk:aL w.heap key kl)(fC:B8 kl)(hlen:key.len=16∨key.len=32)(hn:aL w.heap aA nl)(Aa:B8 nl)(qj:aA.len=12)(ra:aL w.heap dD al)(ba:B8 al)(HA:dD.len<=65536)(hs:aL w.heap bL sl)(OR:B8 sl)(pA:bL.len=240)
  (k:∀s e w',(e=0 ↔ tagL kl nl al (sl.take 224)=sl.drop 224)->Ext No w w'->K s e w'):wO key aA dD bL w K:=by
 apply LQ;have hll:sl.length=240:=by have:=aL.len hs;omega
 refine D6 hlen qj (If.bne (fun h=>absurd rfl h) fun _=>⟨fun u=>u=w,If.dec (fun h=>by omega) fun _=>If.dec (fun h=>by omega) fun _=>rfl,?_⟩);rintro _ w2 rfl;refine Ar.i64 (by omega) (If.dec (fun h=>by omega) fun _=>?_);have ez:((bL.len:Int)) - 16=224:=by omega
 rw[ez]
 have e1:(sl.drop ((0:Int).toNat * 1)).take (((224:Int) - 0).toNat * 1)=sl.take 224:=by
  rw[show((224:Int) - 0).toNat * 1=224 from rfl,show(0:Int).toNat * 1=0 from rfl,List.drop_zero]
 have e2:(sl.drop ((224:Int).toNat * 1)).take ((((bL.len:Nat):Int) - 224).toNat * 1)=sl.drop 224:=by
  rw[show(224:Int).toNat * 1=224 from rfl,List.take_of_length_le (by rw[List.length_drop];omega)]
 refine hs.qP (by decide) (by decide) (by omega) fun s ZV PO=>?_
 rw[e1]at ZV;have adN:s.len=224:=by rw[PO];rfl
 refine FX hk fC hlen hn Aa qj ra ba ZV (OR.take _) HA (by omega) fun s3 w3 o3 x3=>⟨fun u=>Ext No w2 u/\tagL kl nl al (sl.take 224)=sl.drop 224,If.bne (fun h=>absurd rfl h) fun _=>(hs.no x3).qP (by decide) (by omega) (Int.le_refl _) fun s1 Ui XF=>?_,?_⟩
 .rw[e2]at Ui;refine D8 o3.rd Ui (nr fC Aa).2 (OR.drop _) (by rw[(nr fC Aa).1];decide) fun w4 x4=>If.not (If.dec (fun heq=>⟨x3.no x4,heq⟩) fun dz=>k _ 60 w4 ⟨fun h=>absurd h (by decide),fun h=>absurd h dz⟩ (x3.no x4))
 .rintro _ w5 ⟨x5,heq⟩;refine(hs.no x5).qP (by decide) (by decide) (by omega) fun s4 PW Tf=>?_
  rw[e1]at PW;have adO:s4.len=224:=by rw[Tf];rfl
  exact D5 (hk.no x5) fC hlen (hn.no x5) Aa qj PW (by omega) fun b l w6 _ _ _ _ x6=>k _ 0 w6 ⟨fun _=>heq,fun _=>rfl⟩ (x5.no x6)
end
def BA(bl:List Int):Prop:=bl.length=256/\bl.take 4=aS/\1<=bl.getD 4 0/\bl.getD 4 0<=4
def fD(bl:List Int)(t pg:Int):gI:=⟨t,bl.getD 4 0,bl.getD 5 0,pg,num ((bl.drop 8).take 8),num ((bl.drop 6).take 2)⟩
def Eh(kl:List Int)(l:gI)(bl:List Int):Prop:=(kl.length=16∨kl.length=32)/\bl.take 16=aS++l.tail/\tagL kl l.aA l.dD (((bl.drop 16).take 240).take 224)=((bl.drop 16).take 240).drop 224
theorem Ei{bl:List Int}{t pg:Int}(hB:B8 bl)(ht:0<=t/\t<=4294967295)(hp:0<=pg/\pg<=4294967295):(fD bl t pg).OK:=by
 have h8:=(hB.drop 8).take 8;have h2:=(hB.drop 6).take 2;have l8:=uZ h8;have l2:=uZ h2;have n8:=num_nonneg h8;have n2:=num_nonneg h2;have p8:(256:Int) ^ ((bl.drop 8).take 8).length<=256 ^ 8:=Ua (by rw[List.length_take];omega);have p2:(256:Int) ^ ((bl.drop 6).take 2).length<=256 ^ 2:=Ua (by rw[List.length_take];omega);have e8:(256:Int) ^ 8=18446744073709551616:=by decide
 have e2:(256:Int) ^ 2=65536:=by decide
 exact⟨ht,hB.get 4,hB.get 5,hp,⟨n8,by show num _<=_;omega⟩,⟨n2,by show num _<=_;omega⟩⟩
structure wq(h:Array Obj)(s:Sl)(ks:List (Sl×List Int)):Prop where
 rd:Rd h s 1 (ks.map fun p=>p.1.v)
 each:∀p∈ks,aL h p.1 p.2/\B8 p.2
section
variable {w w':Wd}
theorem wq.no{s:Sl}{ks:List (Sl×List Int)}(R:wq w.heap s ks)(x:Ext No w w'):wq w'.heap s ks:=⟨R.rd.no x,fun p hp=>⟨(R.each p hp).1.no x,(R.each p hp).2⟩⟩
theorem wq.len{s:Sl}{ks:List (Sl×List Int)}(R:wq w.heap s ks):s.len=ks.length:=by have:=R.rd.len;simp at this;omega
theorem O1:B8 aS:=by unfold aS;exact fun x hx=>by simp at hx;omega
theorem F1{block:Sl}{bl:List Int}{K:Int->Int->Int->Int->Int->Pw}(hb:aL w.heap block bl)(hB:B8 bl)(k:∀r0 r1 r2 r3 e w',(e=0 ↔ BA bl)->(e=0->r0=bl.getD 4 0/\r1=bl.getD 5 0/\r2=num ((bl.drop 6).take 2)/\r3=num ((bl.drop 8).take 8))->Ext No w w'->K r0 r1 r2 r3 e w'):ma block w K:=by
 apply Bs;have hl:=aL.len hb;have no {e:Int} (he:e≠0) (h:¬ BA bl):K 0 0 0 0 e w:=k 0 0 0 0 e w ⟨fun x=>absurd x he,fun x=>absurd x h⟩ (fun x=>absurd x he) (Ext.refl _ _)
 refine If.bne (fun h=>no (by decide) fun hp=>h (by have:=hp.1;omega)) fun abm=>⟨fun u=>u=w/\BA bl,hb.qP (by decide) (by decide) (by omega) fun s hs pA=>mD.mk hs (fun b o v hv=>Cell.mk hv) ?_,?_⟩
 .have em:(⟨#[67,72,84,49]⟩ : ByteArray)=⟨(FJ aS).toArray⟩:=by rfl
  have e1:(bl.drop ((0:Int).toNat * 1)).take (((4:Int) - 0).toNat * 1)=bl.take 4:=by
   rw[show((4:Int) - 0).toNat * 1=4 from rfl,show(0:Int).toNat * 1=0 from rfl,List.drop_zero]
  rw[e1,em,NF (hB.take 4) O1];refine If.not (If.dec (fun heq=>?_) fun dz=>no (by decide) fun hp=>dz hp.2.1)
  refine Ix.int hb (by decide) (by omega) fun bb o _ hc=>⟨_,hc,If.dec (fun h1=>no (by decide) fun hp=>?_) fun h1=>Ix.int hb (by decide) (by omega) fun bb o _ hc=>⟨_,hc,If.dec (fun h4=>no (by decide) fun hp=>?_) fun h4=>⟨rfl,by omega,heq,?_,?_⟩⟩⟩
  .have:=hp.2.2.1;rw[show(4:Int).toNat=4 from rfl]at h1;omega
  .have:=hp.2.2.2;rw[show(4:Int).toNat=4 from rfl]at h4;omega
  .rw[show(4:Int).toNat=4 from rfl]at h1;omega
  .rw[show(4:Int).toNat=4 from rfl]at h4;omega
 .rintro _ w1 ⟨rfl,ht⟩;have e2:(bl.drop ((6:Int).toNat * 1)).take (((8:Int) - 6).toNat * 1)=(bl.drop 6).take 2:=rfl;have e3:(bl.drop ((8:Int).toNat * 1)).take (((16:Int) - 8).toNat * 1)=(bl.drop 8).take 8:=rfl;have h2:=(hB.drop 6).take 2;have h8:=(hB.drop 8).take 8;have n2:=uZ h2;have z2:=num_nonneg h2;have ll2:((bl.drop 6).take 2).length=2:=by simp;omega
  have ll8:((bl.drop 8).take 8).length=8:=by simp;omega
  rw[ll2,show(256:Int) ^ 2=65536 by decide]at n2;refine hb.qP (by decide) (by decide) (by omega) fun s hs pA=>?_
  rw[e2]at hs;refine qY hs h2 (by omega) (by omega) (hb.qP (by decide) (by decide) (by omega) fun s3 Tb adP=>?_);rw[e3]at Tb;refine qY Tb h8 (by omega) (by omega) ⟨Ext No w1,(Ext.refl _ _).drew,Ix.int hb (by decide) (by omega) fun bb o _ hc=>⟨_,af.no (by have:=hc;unfold Cell at this;rwa [dC]at this),Ix.int hb (by decide) (by omega) fun bb o _ hc=>⟨_,af.no (by have:=hc;unfold Cell at this;rwa [dC]at this),Ar.u16 (by omega) (k _ _ _ _ 0 _ ⟨fun _=>ht,fun _=>rfl⟩ (fun _=>⟨rfl,rfl,rfl,rfl⟩) (Ext.refl _ _).drew)⟩⟩⟩
theorem O2{key:Sl}{kind:Int}{K:Bool->Pw}(hk:1<=kind/\kind<=4)(k:K (decide (key.len=16∨key.len=32)) w):ly key kind w K:=by
 by_cases h:key.len=16∨key.len=32
 .rw[decide_eq_true h]at k;exact Ed h hk k
 .rw[decide_eq_false h]at k;apply xg;exact If.beq (fun h1=>absurd (.inl (by omega)) h) fun _=>If.beq (fun h1=>absurd (.inr (by omega)) h) fun _=>k
theorem Mw{key block:Sl}{l:gI}{kl bl:List Int}{K:Sl->Int->Pw}(ok:l.OK)(Bx:1<=l.kd/\l.kd<=4)(hk:aL w.heap key kl)(fC:B8 kl)(hb:aL w.heap block bl)(hB:B8 bl)(z_:block.len=256)
  (k:∀s e w',(e=0 ↔ Eh kl l bl)->Ext No w w'->K s e w'):mc key l.t l.kd l.lv l.pg l.cm l.gn block w K:=by
 apply Jj;refine fun b w1 n1=>?_
 have x1:=n1.ext;have l1:=x1.size;have zm:=aL.len hk;have adQ:=aL.len hb;have O3:w1.heap[b]? = some (.cells [Value.int .u32 l.t,.int .u8 l.kd,.int .u8 l.lv,.int .u32 l.pg,.int .u64 l.cm,.int .u16 l.gn].toArray 31 (0,0)):=n1.get;refine⟨fun u=>u=w1/\(key.len=16∨key.len=32),⟨l.kd,Cell.ah O3 rfl,O2 Bx (If.not (If.dec (fun h=>If.bne (fun h=>by omega) fun _=>⟨rfl,h⟩) fun h=>k _ 2 w1 ⟨fun e=>absurd e (by decide),fun o=>absurd (by have:=o.1;omega) h⟩ x1))⟩,?_⟩;rintro _ w3 ⟨rfl,hlen⟩;have eJ:∀{u:Wd}{o:Nat}{v:Value},Ext No w3 u->[Value.int .u32 l.t,.int .u8 l.kd,.int .u8 l.lv,.int .u32 l.pg,.int .u64 l.cm,.int .u16 l.gn][o]? = some v->af (Ext No u) ⟨b,o,none⟩ v:=fun x h=>af.cell (Cell.ah ((x.au b (Array.getElem?_eq_some_iff.1 O3).1 fun h=>h).trans O3) h)
 have O4:=Ext.refl No w3;refine⟨Ext No w3,(Ext.refl _ _).drew,(hb.no x1).qP (by decide) (by decide) (by omega) fun s hs pA=>⟨l.t,eJ O4 (o:=0) rfl,l.kd,eJ O4 (o:=1) rfl,l.lv,eJ O4 (o:=2) rfl,l.pg,eJ O4 (o:=3) rfl,l.cm,eJ O4 (o:=4) rfl,l.gn,eJ O4 (o:=5) rfl,?_⟩⟩
 have e1:(bl.drop ((0:Int).toNat * 1)).take (((16:Int) - 0).toNat * 1)=bl.take 16:=by
  rw[show((16:Int) - 0).toNat * 1=16 from rfl,show(0:Int).toNat * 1=0 from rfl,List.drop_zero]
 rw[e1]at hs
 refine Bw ok fun s4 r4 w4 o4 hr4 hB4 x4 e4=>⟨x4.ae,?_⟩
 subst e4
 refine D8 (Rd.no hs x4.ae) o4.rd (hB.take _) (O1.append hB4) (by rw[List.length_take];omega) fun w5 x5=>⟨x4.ae.no x5,If.not (If.dec (fun heq=>?_) fun dz=>k _ 100 w5 ⟨fun e=>absurd e (by decide),fun o=>absurd o.2.1 dz⟩ ((x1.no x4.ae).no x5))⟩
 have gH:=x4.ae.no x5;refine⟨Ext No w5,(Ext.refl _ _).drew,l.t,eJ gH (o:=0) rfl,l.kd,eJ gH (o:=1) rfl,l.lv,eJ gH (o:=2) rfl,l.pg,eJ gH (o:=3) rfl,l.cm,eJ gH (o:=4) rfl,l.gn,eJ gH (o:=5) rfl,l.t,eJ gH (o:=0) rfl,l.kd,eJ gH (o:=1) rfl,l.lv,eJ gH (o:=2) rfl,l.pg,eJ gH (o:=3) rfl,l.cm,eJ gH (o:=4) rfl,l.gn,eJ gH (o:=5) rfl,?_⟩;have nC:=x1.no gH;refine(hb.no nC).qP (by decide) (by omega) (Int.le_refl _) fun s6 P0 Yd=>?_
 have e6:(bl.drop ((16:Int).toNat * 1)).take ((((block.len:Nat):Int) - 16).toNat * 1)=(bl.drop 16).take 240:=by
  rw[z_];rfl
 rw[e6]at P0
 refine zB ok fun s7 r7 w7 o7 hl7 hB7 x7 e7=>⟨x7.ae,Ec ok fun s8 r8 w8 o8 EH hB8 x8 e8=>⟨x7.ae.no x8,?_⟩⟩
 subst e7;subst e8;have FZ:=x7.ae.no x8;have h7l:s7.len=12:=by rw[aD.len o7];exact hl7
 have h8l:s8.len=8:=by rw[aD.len o8];exact EH
 refine HN ((hk.no nC).no FZ) fC hlen (o7.rd.no x8) hB7 h7l o8.rd hB8 (by omega) (Rd.no P0 FZ) ((hB.drop _).take _) (by rw[Yd];omega) fun s9 e9 w9 h9 x9=>⟨FZ.no x9,k s9 e9 w9 ?_ ((nC.no FZ).no x9)⟩
 rw[h9];exact⟨fun h=>⟨by omega,heq,h⟩,fun h=>h.2.2⟩
variable {lb:Nat} {ls:Sl} {L:List LE}
def Rz(L:List LE)(l:gI)(bl:List Int):Prop:=∃e∈L,e.vZ=l/\e.au=bl
theorem Fl{block:Sl}{l:gI}{bl:List Int}{K:Bool->Pw}(R:nw w.heap lb ls L)(hb:aL w.heap block bl)(hB:B8 bl)(hL:L.length<=1000)(k:∀r w',(r=true ↔ Rz L l bl)->Ext No w w'->K r w'):k_ (some ⟨lb,0,none⟩) l.t l.kd l.lv l.pg l.cm l.gn block w K:=by
 apply AV;refine fun b w1 n1 b1 w2 n2=>If.not (If.no (Nn.mk ⟨ls,Cell.ah (R.no (n1.ext.no n2.ext)).au rfl,?_⟩))
 have x2:=n1.ext.no n2.ext;have g1:w1.heap[b]? = some (.cells [Value.int .u32 l.t,.int .u8 l.kd,.int .u8 l.lv,.int .u32 l.pg,.int .u64 l.cm,.int .u16 l.gn].toArray 31 (0,0)):=n1.get;have g2:w2.heap[b]? = some (.cells [Value.int .u32 l.t,.int .u8 l.kd,.int .u8 l.lv,.int .u32 l.pg,.int .u64 l.cm,.int .u16 l.gn].toArray 31 (0,0)):=(n2.ext.au b (aV g1) fun h=>h).trans g1;apply cz;apply cP;have hl:=R.len;refine⟨fun m t u=>∃i:Nat,t=(i:Int)/\i<=L.length/\m=L.length - i/\Ext No w2 u/\∀j (h:j < L.length),j < i->¬ (L[j].vZ=l/\L[j].au=bl),⟨_,0,rfl,Nat.zero_le _,rfl,Ext.refl _ _,fun j _ h=>by omega⟩,?_⟩;rintro _ m0 t w3 ⟨i,rfl,hi,rfl,x3,hn⟩;have qf:=x2.no x3;refine If.dec (fun h=>?_) fun h=>?_
 .have iS:i < L.length:=by omega
  refine(R.no qf).at_ iS fun bb o hc=>⟨_,hc 0 _ rfl,_,hc 1 _ rfl,_,hc 2 _ rfl,_,hc 3 _ rfl,_,hc 4 _ rfl,_,hc 5 _ rfl,_,hc 6 _ rfl,_,hc 7 _ rfl,_,hc 8 _ rfl,xG ?_⟩
  apply xF;refine fun b3 w4 n4=>?_
  have g4:w4.heap[b]? = some (.cells [Value.int .u32 l.t,.int .u8 l.kd,.int .u8 l.lv,.int .u32 l.pg,.int .u64 l.cm,.int .u16 l.gn].toArray 31 (0,0)):=((x3.no n4.ext).au b (aV g2) fun h=>h).trans g2
  have step:¬ (L[i].vZ=l/\L[i].au=bl)->Ar .i64 ((i:Int)+1) fun z=>∃m1,m1 < L.length - i/\∃i':Nat,z=(i':Int)/\i'<=L.length/\m1=L.length - i'/\Ext No w2 w4/\∀j (h:j < L.length),j < i'->¬ (L[j].vZ=l/\L[j].au=bl):=fun dz=>Ar.i64 (by omega) ⟨_,by omega,i+1,by omega,by omega,rfl,x3.no n4.ext,fun j hj K5=>by
   rcases Nat.lt_or_ge j i with h | h
   .exact hn j hj h
   .have:j=i:=by omega
    subst this;exact dz⟩
  refine⟨_,Cell.ah n4.get rfl,_,Cell.ah n4.get rfl,_,Cell.ah n4.get rfl,_,Cell.ah n4.get rfl,_,Cell.ah n4.get rfl,_,Cell.ah n4.get rfl,_,Cell.ah g4 rfl,_,Cell.ah g4 rfl,_,Cell.ah g4 rfl,_,Cell.ah g4 rfl,_,Cell.ah g4 rfl,_,Cell.ah g4 rfl,?_⟩;refine If.mk (fun he=>?_) fun he=>If.no (step fun hc=>?_)
  .have UA:L[i].vZ=l:=by
    simp only[Bool.and_eq_true,beq_iff_eq,and_true]at he;obtain⟨h1,h2,h3,h4,h5,h6⟩:=he
    cases hq:L[i].vZ
    rw[hq]at h1 h2 h3 h4 h5 h6
    cases l
    simp_all
   refine⟨_,Cell.ah n4.get rfl,block,?_,mD.mk (hb.no (qf.no n4.ext)) (fun b o v h=>Cell.mk h) ?_⟩
   .have g5:w4.heap[b1]? = _:=((x3.no n4.ext).au b1 (aV n2.get) fun h=>h).trans n2.get;exact Cell.ah g5 rfl
   .rw[toList_mk,toList_mk];refine If.mk (fun e=>?_) fun e=>step fun hc=>?_
    .have e1:L[i].au=bl:=(Gu (R.b8 _ (List.getElem_mem iS)) hB).1 (eq_of_beq e);refine k _ w4 ⟨fun _=>⟨_,List.getElem_mem iS,UA,e1⟩,fun _=>decide_eq_true (by omega)⟩ (qf.no n4.ext)
    .rw[hc.2]at e;simp at e
  .rw[hc.1]at he;simp at he
 .refine k _ w3 ⟨fun h1=>absurd h1 (by decide),fun⟨e,he,hb⟩=>?_⟩ qf;obtain⟨j,hj,rfl⟩:=List.getElem_of_mem he;exact absurd hb (hn j hj (by omega))
def BB(L:List LE)(bl:List Int)(pg t:Int)(kl:List Int):Prop:=Eh kl (fD bl t pg) bl/\¬ Rz L (fD bl t pg) bl
def NL(L:List LE)(ks:List (Sl×List Int))(ts:List Int)(pg:Int)(bl:List Int):Prop:=BA bl/\∃t∈ts,∃p∈ks,BB L bl pg t p.2
theorem vf{keys aT block:Sl}{ks:List (Sl×List Int)}{ts bl:List Int}{pg:Int}{K:Bool->Pw}(R:nw w.heap lb ls L)(hL:L.length<=1000)(hk:wq w.heap keys ks)(ht:Rd w.heap aT 1 (ts.map (Value.int .u32)))(NA:∀t∈ts,0<=t/\t<=4294967295)(hb:aL w.heap block bl)(hB:B8 bl)(hpg:0<=pg/\pg<=4294967295)(zm:keys.len<=1000)(KW:aT.len<=1000)
  (k:∀r w',(r=true ↔ NL L ks ts pg bl)->Ext No w w'->K r w'):de (some ⟨lb,0,none⟩) keys aT pg block w K:=by
 apply qN
 refine F1 hb hB fun r0 r1 r2 r3 e w1 he hr x1=>⟨fun u=>u=w1/\e=0,If.no (If.bne (fun h=>k _ w1 ⟨fun h1=>absurd h1 (by decide),fun h1=>absurd (he.2 h1.1) h⟩ x1) fun h=>⟨rfl,h⟩),?_⟩
 rintro _ w2 ⟨rfl,e0⟩;have hT:=he.1 e0;obtain⟨rfl,rfl,rfl,rfl⟩:=hr e0;have lt:ts.length=aT.len:=by have:=ht.len;simp at this;omega
 have lk:=hk.len;refine⟨fun m t u=>∃i:Nat,t=(i:Int)/\i<=ts.length/\m=ts.length - i/\Ext No w2 u/\∀j (h:j < ts.length),j < i->∀p∈ks,¬ BB L bl pg ts[j] p.2,⟨_,0,rfl,Nat.zero_le _,rfl,Ext.refl _ _,fun j _ h=>by omega⟩,?_⟩;rintro _ m0 t w3 ⟨i,rfl,hi,rfl,x3,hn⟩;have qf:=x1.no x3;refine If.dec (fun h=>?_) fun h=>k _ w3 ⟨fun h1=>absurd h1 (by decide),fun⟨_,t,ht,p,hp,hg⟩=>?_⟩ qf
 rotate_left
 .obtain⟨j,hj,rfl⟩:=List.getElem_of_mem ht;exact absurd hg (hn j hj (by omega) p hp)
 have iS:i < ts.length:=by omega
 refine Ix.int (ht.no qf) (by omega) (by omega) fun bb o _ hc=>⟨_,hc,?_⟩
 have ev:ts.getD ((i:Int)).toNat 0=ts[i]:=by simp[List.getD_eq_getElem?_getD,iS]
 rw[ev];have hti:=NA _ (List.getElem_mem iS);refine jy rfl rfl (cF rfl) fun w5 g5 z5 x5=>?_
 have nC:=qf.no x5;have ok:=Ei hB hti hpg;have Bx:1<=(fD bl ts[i] pg).kd/\(fD bl ts[i] pg).kd<=4:=hT.2.2;refine⟨fun m t u=>∃q:Nat,t=(q:Int)/\q<=ks.length/\m=ks.length - q/\Ext No w5 u/\∀j (h:j < ks.length),j < q->¬ BB L bl pg ts[i] ks[j].2,⟨_,0,rfl,Nat.zero_le _,rfl,Ext.refl _ _,fun j _ h=>by omega⟩,?_⟩;rintro _ m1 t1 w6 ⟨q,rfl,hq,rfl,x6,hn6⟩;have wk:=nC.no x6;refine If.dec (fun h6=>?_) fun h6=>Ar.i64 (by omega) ⟨_,by omega,i+1,by omega,by omega,rfl,(x3.no x5).no x6,fun j hj K5 p hp=>?_⟩
 rotate_left
 .rcases Nat.lt_or_ge j i with h | h
  .exact hn j hj h p hp
  .have:j=i:=by omega
   subst this;obtain⟨q',Mj,rfl⟩:=List.getElem_of_mem hp;exact hn6 q' Mj (by omega)
 have Mj:q < ks.length:=by omega
 have hkk:=(hk.no wk).each _ (List.getElem_mem Mj);have g6:w6.heap[w3.heap.size]? = _:=(x6.au _ (aV g5) fun h=>h).trans g5
 have step:∀{u:Wd},Ext No w6 u->¬ BB L bl pg ts[i] ks[q].2->Ar .i64 ((q:Int)+1) fun z=>∃m1,m1 < ks.length - q/\∃q':Nat,z=(q':Int)/\q'<=ks.length/\m1=ks.length - q'/\Ext No w5 u/\∀j (h:j < ks.length),j < q'->¬ BB L bl pg ts[i] ks[j].2:=fun x dz=>Ar.i64 (by omega) ⟨_,by omega,q+1,by omega,by omega,rfl,x6.no x,fun j hj K5=>by
  rcases Nat.lt_or_ge j q with h | h
  .exact hn6 j hj h
  .have:j=q:=by omega
   subst this;exact dz⟩
 refine Ix.elem (f:=fun p:Sl×List Int=>[p.1.v]) (l:=ks) (by rw[<- List.map_eq_flatMap];exact(hk.no wk).rd) (fun _ _=>rfl) (by decide) (by omega) (by omega) fun b2 o2 Hv _ Ma=>⟨ks[q].1,?_,_,Cell.ah g6 rfl,_,Cell.ah g6 rfl,_,Cell.ah g6 rfl,_,Cell.ah g6 rfl,_,Cell.ah g6 rfl,_,Cell.ah g6 rfl,?_⟩
 .have:=Ma 0 _ rfl;simpa using this
 refine Mw (l:=fD bl ts[i] pg) ok Bx hkk.1 hkk.2 (hb.no wk) hB (by have:=hT.1;have:=aL.len hb;omega) fun s7 e7 w7 h7 x7=>If.beq (fun h8=>?_) fun h8=>step x7 fun hg=>h8 (h7.2 hg.1)
 have g7:w7.heap[w3.heap.size]? = _:=(x7.au _ (aV g6) fun h=>h).trans g6;refine⟨_,Cell.ah g7 rfl,_,Cell.ah g7 rfl,_,Cell.ah g7 rfl,_,Cell.ah g7 rfl,_,Cell.ah g7 rfl,_,Cell.ah g7 rfl,?_⟩;refine Fl (l:=fD bl ts[i] pg) (R.no (wk.no x7)) (hb.no (wk.no x7)) hB hL fun r w8 hr8 x8=>If.not (If.mk (fun h9=>step (x7.no x8) fun hg=>hg.2 (hr8.1 h9)) fun h9=>?_)
 refine k _ w8 ⟨fun _=>⟨hT,ts[i],List.getElem_mem iS,ks[q],List.getElem_mem Mj,h7.1 h8,fun hkn=>?_⟩,fun _=>rfl⟩ ((wk.no x7).no x8);rw[hr8.2 hkn]at h9;exact absurd h9 (by decide)
theorem Ej{keys aT block:Sl}{bl:List Int}{pg:Int}{K:Bool->Pw}(hb:aL w.heap block bl)(hB:B8 bl)(k:∀w',Ext No w w'->K false w'):de none keys aT pg block w K:=by
 apply qN
 exact F1 hb hB fun r0 r1 r2 r3 e w1 he hr x1=>⟨fun _=>False,If.yes (k w1 x1),fun _ _ h=>h.elim⟩
end
theorem VT{x:Int}(h:By x):be 1 x=[x]:=by
 have:num [x]=x:=by simp[num]
 have e:=Mb (l:=[x]) (B8.nil.cons h);rw[this]at e;exact e
theorem UB{bl:List Int}{t p:Int}(hB:B8 bl)(hl:bl.length=256):(fD bl t p).tail=(bl.drop 4).take 12:=by
 have one:∀i,i < 256->(bl.drop i).take 1=[bl.getD i 0]:=fun i hi=>by
  rw[List.drop_eq_getElem_cons (by omega),List.take_succ_cons,List.take_zero,List.getD_eq_getElem?_getD,List.getElem?_eq_getElem (by omega)];rfl
 have n2:be 2 (num ((bl.drop 6).take 2))=(bl.drop 6).take 2:=by have:=Mb ((hB.drop 6).take 2);rwa [show((bl.drop 6).take 2).length=2 by simp;omega]at this
 have n8:be 8 (num ((bl.drop 8).take 8))=(bl.drop 8).take 8:=by have:=Mb ((hB.drop 8).take 8);rwa [show((bl.drop 8).take 8).length=8 by simp;omega]at this
 show be 1 (bl.getD 4 0)++(be 1 (bl.getD 5 0)++(be 2 (num ((bl.drop 6).take 2))++(be 8 (num ((bl.drop 8).take 8))++[])))=_;rw[n2,n8,VT (hB.get _),VT (hB.get _),<- one 4 (by decide),<- one 5 (by decide),List.append_nil]
 have e8:((bl.drop 6).take 2)++((bl.drop 8).take 8)=(bl.drop 6).take 10:=by
  rw[show(10:Nat)=2+8 from rfl,List.take_add,List.drop_drop]
 have e5:((bl.drop 5).take 1)++((bl.drop 6).take 10)=(bl.drop 5).take 11:=by
  rw[show(11:Nat)=1+10 from rfl,List.take_add,List.drop_drop]
 rw[e8,e5,show(12:Nat)=1+11 from rfl,List.take_add,List.drop_drop]
theorem head_eq{bl:List Int}{t p:Int}(hB:B8 bl)(hl:bl.length=256):bl.take 16=aS++(fD bl t p).tail ↔ bl.take 4=aS:=by
 rw[UB hB hl,show(16:Nat)=4+12 from rfl,List.take_add];exact⟨fun h=>(List.append_inj h (by rw[List.length_take];simp;omega)).1,fun h=>by rw[h]⟩
section
variable {w w':Wd}
theorem nE{base:Nat}{s:Sl}{l:List Int}{n size:Int}{K:Sl->Pw}(o:aD w.heap base s l)(hb:base<=w.heap.size)(hl:l.length<=1000)(hn:lY n)(h1:1<=size)(h8:size<=8)(k:∀s' w',aD w'.heap base s' (l++be size.toNat n)->Ext (fun i=>s.au=some i) w w'->K s' w'):fK s n size w K:=by
 apply Jv;refine zx hn h1 h8 fun r ok w1 o1 x1=>?_
 have hs:=aD.len o;have hr:=aD.len o1;rw[aI]at hr;refine bO (o.no x1) (by have:=x1.size;omega) o1.rd.src (by omega) fun s' w2 o2 _ x2 _=>?_
 rw[<- List.map_append]at o2;exact k s' w2 o2 (x1.aF.trans x2 fun _ _ h=>h)
abbrev v_(l:gI):Obj:= .cells [Value.int .u32 l.t,.int .u8 l.kd,.int .u8 l.lv,.int .u32 l.pg,.int .u64 l.cm,.int .u16 l.gn].toArray 31 (0,0)
theorem dX{b:Nat}{o:Obj}(h:w.heap[b]? = some o){S:Nat->Prop}(x:Ext S w w')(hs:¬ S b):w'.heap[b]? = some o:=(x.au b (aV h) hs).trans h
theorem xW{l:gI}{K:Sl->Pw}(ok:l.OK)(k:∀s w',aD w'.heap w.heap.size s (aS++l.tail)->Ext No w w'->K s w'):jK l.t l.kd l.lv l.pg l.cm l.gn w K:=by
 apply Hi;obtain⟨h1,h2,h3,h4,h5,h6⟩:=ok;refine fun b w1 n1=>?_
 have hb:w1.heap[b]? = some (v_ l):=n1.get;have l1:=n1.size;have s1:=n1.at_;refine⟨l.kd,Cell.ah hb rfl,l.lv,Cell.ah hb rfl,fun b1 w2 n2=>?_⟩;have Cz:=dX hb n2.ext fun h=>h
 have l2:=n2.size;have s2:=n2.at_;have o2:aD w2.heap w1.heap.size ⟨some ⟨b1,0,none⟩,6,6⟩ [67,72,84,49,l.kd,l.lv]:=aP.new (n:=6) (sz:=1) n2 rfl (cF rfl);refine⟨l.gn,Cell.ah Cz rfl,Ar.u64 (by omega) (nE o2 (by omega) (by simp) (by constructor <;> omega) (by decide) (by decide) fun s3 w3 o3 x3=>?_)⟩;have tq:=dX Cz x3 fun e=>by have:=(o2.lt e).1;omega
 have z3:=x3.size;refine⟨l.cm,Cell.ah tq rfl,nE o3 (by omega) (by simp[aI]) h5 (by decide) (by decide) fun s4 w4 o4 x4=>k s4 w4 ?_ ?_⟩
 .have e:[67,72,84,49,l.kd,l.lv]++be (2:Int).toNat l.gn++be (8:Int).toNat l.cm=aS++l.tail:=by
   unfold gI.tail;rw[VT h2,VT h3];simp
  rw[e]at o4;exact o4.mono (by omega)
 .exact((n1.ext.no n2.ext).trans x3 fun i hi e=>by have:=(o2.lt e).1;omega).trans x4 fun i hi e=>by have:=(o3.lt e).1;omega
theorem BC{l:gI}{K:Sl->Pw}(ok:l.OK)(k:∀s w',aD w'.heap w.heap.size s l.aA->Ext No w w'->K s w'):lO l.t l.kd l.lv l.pg l.cm l.gn w K:=by
 apply Fb;obtain⟨h1,h2,h3,h4,h5,h6⟩:=ok;refine fun b w1 n1=>?_
 have hb:w1.heap[b]? = some (v_ l):=n1.get;have l1:=n1.size;have s1:=n1.at_;refine⟨l.pg,Cell.ah hb rfl,Ar.u64 (by omega) (nE (l:=[]) (aP.nil w1.heap w1.heap.size _ _) (Nat.le_refl _) (by simp) (by constructor <;> omega) (by decide) (by decide) fun s3 w3 o3 x3=>?_)⟩;have tq:=dX hb x3 fun e=>by simp[Sl.au]at e
 have z3:=x3.size;refine⟨l.cm,Cell.ah tq rfl,nE o3 (by omega) (by simp[aI]) h5 (by decide) (by decide) fun s4 w4 o4 x4=>k s4 w4 ?_ ?_⟩
 .have e:[]++be (4:Int).toNat l.pg++be (8:Int).toNat l.cm=l.aA:=by unfold gI.aA;simp
  rw[e]at o4;exact o4.mono (by omega)
 .exact(n1.ext.trans x3 fun i hi e=>by simp[Sl.au]at e).trans x4 fun i hi e=>by have:=(o3.lt e).1;omega
theorem F2{l:gI}{K:Sl->Pw}(ok:l.OK)(k:∀s w',aD w'.heap w.heap.size s l.dD->Ext No w w'->K s w'):oU l.t l.kd l.lv l.pg l.cm l.gn w K:=by
 apply Jx;obtain⟨h1,h2,h3,h4,h5,h6⟩:=ok;refine fun b w1 n1=>?_
 have hb:w1.heap[b]? = some (v_ l):=n1.get;have l1:=n1.size;have s1:=n1.at_;refine⟨l.t,Cell.ah hb rfl,Ar.u64 (by omega) (nE (l:=[]) (aP.nil w1.heap w1.heap.size _ _) (Nat.le_refl _) (by simp) (by constructor <;> omega) (by decide) (by decide) fun s3 w3 o3 x3=>?_)⟩;have tq:=dX hb x3 fun e=>by simp[Sl.au]at e
 have z3:=x3.size;refine⟨l.kd,Cell.ah tq rfl,l.lv,Cell.ah tq rfl,fun b1 w4 n4=>?_⟩;have o3':=o3.no n4.ext;have l4:=n4.size;have Tb:s3.len=4:=by rw[aD.len o3];simp[aI]
 refine bO o3' (by omega) (aP.new (n:=2) (sz:=1) n4 rfl (cF rfl)).rd.src (by show(s3.len+2) * 1<=_;omega) fun s5 w5 o5 _ x5 _=>?_
 have Q4:=dX (dX tq n4.ext fun h=>h) x5 fun e=>by have:=(o3.lt e).1;omega
 have z5:=x5.size
 have o5':aD w5.heap w1.heap.size s5 ([]++be (4:Int).toNat l.t++[l.kd,l.lv]):=by
  show aP _ _ _ _ _ (List.map _ _);rw[List.map_append];exact o5
 refine⟨l.gn,Cell.ah Q4 rfl,Ar.u64 (by omega) (nE o5' (by omega) (by simp[aI]) (by constructor <;> omega) (by decide) (by decide) fun s6 w6 o6 x6=>k s6 w6 ?_ ?_)⟩
 .have e:[]++be (4:Int).toNat l.t++[l.kd,l.lv]++be (2:Int).toNat l.gn=l.dD:=by unfold gI.dD;rw[VT h2,VT h3];simp
  rw[e]at o6;exact o6.mono (by omega)
 .exact(((n1.ext.trans x3 fun i hi e=>by simp[Sl.au]at e).no n4.ext).trans x5 fun i hi e=>by have:=(o3.lt e).1;omega).trans x6 fun i hi e=>by have:=(o5'.lt e).1;omega
theorem xX{n:Int}{K:Bool->Pw}(k:K (decide (1<=n/\n<=4)) w):jJ n w K:=by
 apply Hh;refine If.dec (fun h=>?_) fun h=>?_
 .have:decide (1<=n/\n<=4)=decide (n<=4):=by congr 1;exact propext ⟨fun h=>h.2,fun h2=>⟨h,h2⟩⟩
  rw[<- this];exact k
 .rw[decide_eq_false (by omega)]at k;exact k
theorem HO{key payload:Sl}{l:gI}{kl pl:List Int}{K:Sl->Int->Pw}(ok:l.OK)(Bx:1<=l.kd/\l.kd<=4)(hk:aL w.heap key kl)(fC:B8 kl)(hlen:key.len=16∨key.len=32)(hp:aL w.heap payload pl)(hpB:B8 pl)(Ck:payload.len=224)
  (k:∀s c w',aD w'.heap w.heap.size s (aS++l.tail++(c++tagL kl l.aA l.dD c))->c.length=224->B8 c->Ext No w w'->K s 0 w'):rM key l.t l.kd l.lv l.pg l.cm l.gn payload w K:=by
 apply Hs;refine fun b w1 n1=>?_
 have x1:=n1.ext;have l1:=n1.size;have O3:w1.heap[b]? = some (v_ l):=n1.get;refine⟨fun u=>u=w1,xS (by rw[decide_eq_true hlen];exact If.not (If.yes ⟨l.kd,Cell.ah O3 rfl,xX (by rw[decide_eq_true Bx];exact If.not (If.yes (If.bne (fun h=>absurd (by omega) h) fun _=>rfl)))⟩)),?_⟩;rintro _ w3 rfl;have eJ:∀{o:Nat}{v:Value},[Value.int .u32 l.t,.int .u8 l.kd,.int .u8 l.lv,.int .u32 l.pg,.int .u64 l.cm,.int .u16 l.gn][o]? = some v->af (Ext No w3) ⟨b,o,none⟩ v:=fun h=>af.cell (Cell.ah O3 h)
 refine⟨Ext No w3,(Ext.refl _ _).drew,l.t,eJ (o:=0) rfl,l.kd,eJ (o:=1) rfl,l.lv,eJ (o:=2) rfl,l.pg,eJ (o:=3) rfl,l.cm,eJ (o:=4) rfl,l.gn,eJ (o:=5) rfl,l.t,eJ (o:=0) rfl,l.kd,eJ (o:=1) rfl,l.lv,eJ (o:=2) rfl,l.pg,eJ (o:=3) rfl,l.cm,eJ (o:=4) rfl,l.gn,eJ (o:=5) rfl,?_⟩
 refine BC ok fun s4 w4 o4 x4=>⟨x4.ae,F2 ok fun s5 w5 o5 x5=>⟨x4.ae.no x5,?_⟩⟩
 have Mh:=x4.ae.no x5;have h4l:s4.len=12:=by rw[aD.len o4];unfold gI.aA;simp[aI]
 have h5l:s5.len=8:=by rw[aD.len o5];unfold gI.dD;simp[aI]
 have b4:B8 l.aA:=(bM _ _).append ((bM _ _).append B8.nil);have b5:B8 l.dD:=(bM _ _).append ((bM _ _).append ((bM _ _).append ((bM _ _).append B8.nil)));have nC:=x1.no Mh
 refine Ki (hk.no nC) fC hlen (o4.rd.no x5) b4 h4l o5.rd b5 (by omega) (hp.no nC) hpB (by omega) fun s6 c w6 o6 hc6 hB6 x6=>⟨Mh.no x6,If.bne (fun h=>absurd rfl h) fun _=>?_⟩
 have Mp:=Mh.no x6;have J7:=dX O3 Mp fun h=>h
 refine⟨l.t,Cell.ah J7 rfl,l.kd,Cell.ah J7 rfl,l.lv,Cell.ah J7 rfl,l.pg,Cell.ah J7 rfl,l.cm,Cell.ah J7 rfl,l.gn,Cell.ah J7 rfl,xW ok fun s7 w7 o7 x7=>?_⟩;have l5:=nC.size;have l6:=x6.size;have l7:=x7.size;have h7l:s7.len=16:=by rw[aD.len o7,List.length_append,gI.zC];rfl
 have h6l:s6.len=240:=by rw[aD.len o6,List.length_append,(nr fC b4).1];omega
 refine bO (o7.mono (base':=w.heap.size) (by omega)) (by omega) (o6.rd.no x7).src (by omega) fun s8 w8 o8 _ x8 _=>?_
 rw[<- List.map_append]at o8;exact k s8 c w8 o8 (by omega) hB6 (((nC.no x6).no x7).trans x8 fun i hi e=>by have:=(o7.lt e).1;omega)
theorem HP{key block:Sl}{l:gI}{kl bl:List Int}{K:Sl->Int->Pw}(ok:l.OK)(Bx:1<=l.kd/\l.kd<=4)(hk:aL w.heap key kl)(fC:B8 kl)(hb:aL w.heap block bl)(hB:B8 bl)(z_:block.len=256)
  (k:∀s e w',(e=0 ↔ Eh kl l bl)->Ext No w w'->K s e w'):rQ key l.t l.kd l.lv l.pg l.cm l.gn block w K:=by
 apply Hq;refine fun b w1 n1=>?_
 have x1:=n1.ext;have l1:=x1.size;have zm:=aL.len hk;have adQ:=aL.len hb;have O3:w1.heap[b]? = some (v_ l):=n1.get;refine⟨fun u=>u=w1/\(key.len=16∨key.len=32),xS (If.not (If.dec (fun h=>⟨l.kd,Cell.ah O3 rfl,xX (by rw[decide_eq_true Bx];exact If.not (If.yes (If.bne (fun h=>absurd (by omega) h) fun _=>⟨rfl,h⟩)))⟩) fun h=>k _ 2 w1 ⟨fun e=>absurd e (by decide),fun o=>absurd (by have:=o.1;omega) h⟩ x1)),?_⟩;rintro _ w3 ⟨rfl,hlen⟩;have eJ:∀{u:Wd}{o:Nat}{v:Value},Ext No w3 u->[Value.int .u32 l.t,.int .u8 l.kd,.int .u8 l.lv,.int .u32 l.pg,.int .u64 l.cm,.int .u16 l.gn][o]? = some v->af (Ext No u) ⟨b,o,none⟩ v:=fun x h=>af.cell (Cell.ah (dX O3 x fun h=>h) h)
 have O4:=Ext.refl No w3;refine⟨Ext No w3,(Ext.refl _ _).drew,(hb.no x1).qP (by decide) (by decide) (by omega) fun s hs pA=>⟨l.t,eJ O4 (o:=0) rfl,l.kd,eJ O4 (o:=1) rfl,l.lv,eJ O4 (o:=2) rfl,l.pg,eJ O4 (o:=3) rfl,l.cm,eJ O4 (o:=4) rfl,l.gn,eJ O4 (o:=5) rfl,?_⟩⟩
 have e1:(bl.drop ((0:Int).toNat * 1)).take (((16:Int) - 0).toNat * 1)=bl.take 16:=by
  rw[show((16:Int) - 0).toNat * 1=16 from rfl,show(0:Int).toNat * 1=0 from rfl,List.drop_zero]
 rw[e1]at hs
 refine xW ok fun s4 w4 o4 x4=>⟨x4.ae,?_⟩
 refine xR (Rd.no hs x4.ae) o4.rd (hB.take _) (O1.append (gI.vw l)) ⟨x4.ae,If.not (If.dec (fun heq=>?_) fun dz=>k _ 100 w4 ⟨fun e=>absurd e (by decide),fun o=>absurd o.2.1 dz⟩ (x1.no x4.ae))⟩;have gH:=x4.ae;refine⟨Ext No w4,(Ext.refl _ _).drew,l.t,eJ gH (o:=0) rfl,l.kd,eJ gH (o:=1) rfl,l.lv,eJ gH (o:=2) rfl,l.pg,eJ gH (o:=3) rfl,l.cm,eJ gH (o:=4) rfl,l.gn,eJ gH (o:=5) rfl,l.t,eJ gH (o:=0) rfl,l.kd,eJ gH (o:=1) rfl,l.lv,eJ gH (o:=2) rfl,l.pg,eJ gH (o:=3) rfl,l.cm,eJ gH (o:=4) rfl,l.gn,eJ gH (o:=5) rfl,?_⟩;have nC:=x1.no gH;refine(hb.no nC).qP (by decide) (by omega) (Int.le_refl _) fun s6 P0 Yd=>?_
 have e6:(bl.drop ((16:Int).toNat * 1)).take ((((block.len:Nat):Int) - 16).toNat * 1)=(bl.drop 16).take 240:=by
  rw[z_];rfl
 rw[e6]at P0;have b4:B8 l.aA:=(bM _ _).append ((bM _ _).append B8.nil);have b5:B8 l.dD:=(bM _ _).append ((bM _ _).append ((bM _ _).append ((bM _ _).append B8.nil)))
 refine BC ok fun s7 w7 o7 x7=>⟨x7.ae,F2 ok fun s8 w8 o8 x8=>⟨x7.ae.no x8,?_⟩⟩
 have FZ:=x7.ae.no x8;have h7l:s7.len=12:=by rw[aD.len o7];unfold gI.aA;simp[aI]
 have h8l:s8.len=8:=by rw[aD.len o8];unfold gI.dD;simp[aI]
 refine Kj ((hk.no nC).no FZ) fC hlen (o7.rd.no x8) b4 h7l o8.rd b5 (by omega) (Rd.no P0 FZ) ((hB.drop _).take _) (by rw[Yd];omega) fun s9 e9 w9 h9 x9=>⟨FZ.no x9,k s9 e9 w9 ?_ ((nC.no FZ).no x9)⟩
 rw[h9];exact⟨fun h=>⟨by omega,heq,h⟩,fun h=>h.2.2⟩
end
section
variable {w w':Wd}
theorem RA{b:Nat}{l l':gI}{K:Pw}(h:w.heap[b]? = some (v_ l))(k:∀w',w'.heap[b]? = some (v_ l')->Ext (·=b) w w'->K w'):cr w (Addr.mk b 0 none) [Value.int .u32 l'.t,.int .u8 l'.kd,.int .u8 l'.lv,.int .u32 l'.pg,.int .u64 l'.cm,.int .u16 l'.gn] K:=by
 refine cr.mk h (by simp) (cF rfl) fun w2 h2=>?_
 have g:=h2.get h;have e:=nN [Value.int .u32 l'.t,.int .u8 l'.kd,.int .u8 l'.lv,.int .u32 l'.pg,.int .u64 l'.cm,.int .u16 l'.gn] [Value.int .u32 l.t,.int .u8 l.kd,.int .u8 l.lv,.int .u32 l.pg,.int .u64 l.cm,.int .u16 l.gn] rfl;rw[e]at g;exact k w2 g h2.ext
abbrev ZW(l:gI):List Value:=[Value.int .u32 l.t,.int .u8 l.kd,.int .u8 l.lv,.int .u32 l.pg,.int .u64 l.cm,.int .u16 l.gn]
theorem HQ{b o:Nat}{l:gI}(l':gI){v:Value}{K:Pw}(h:w.heap[b]? = some (v_ l))(ho:o < 6)(he:(ZW l).set o v=ZW l')(hv:cn v=true)(k:∀w',w'.heap[b]? = some (v_ l')->Ext (·=b) w w'->K w'):aH w ⟨b,o,none⟩ v K:=
 aH.mk (cs:=ZW l) h (by simpa using ho) hv fun w2 h2=>k w2 (by have:=h2.get h;rwa [he]at this) h2.ext
theorem Mx{block:Sl}{bl:List Int}{K:Int->Int->Int->Int->Int->Int->Int->Pw}(hb:aL w.heap block bl)(hB:B8 bl)(k:∀r0 r1 r2 r3 r4 r5 e w',(e=0 ↔ BA bl)->(e=0->r0=0/\r1=bl.getD 4 0/\r2=bl.getD 5 0/\r3=0/\r4=num ((bl.drop 8).take 8)/\r5=num ((bl.drop 6).take 2))->Ext No w w'->K r0 r1 r2 r3 r4 r5 e w'):rO block w K:=by
 apply Hk;have hl:=aL.len hb;refine fun b w1 n1=>?_
 have s1:=n1.at_;have z1:=n1.size;have EI:=hb.no n1.ext;have g1:w1.heap[b]? = some (v_ ⟨0,0,0,0,0,0⟩):=n1.get
 have fin:∀{u:Wd}{e:Int},Ext No w1 u->e≠0->¬ BA bl->List.length (α:=Value) [.int .u32 0,.int .u8 0,.int .u8 0,.int .u32 0,.int .u64 0,.int .u16 0]=6/\cr u (Addr.mk b 0 none) [.int .u32 0,.int .u8 0,.int .u8 0,.int .u32 0,.int .u64 0,.int .u16 0] fun w2=>
   ∃c:Int,Cell w2 (Addr.mk b 0 none) (.int .u32 c)/\∃EJ:Int,Cell w2 ((Addr.mk b 0 none).add 1) (.int .u8 EJ)/\∃P1:Int,Cell w2 ((Addr.mk b 0 none).add 2) (.int .u8 P1)/\∃My:Int,Cell w2 ((Addr.mk b 0 none).add 3) (.int .u32 My)/\∃Mz:Int,Cell w2 ((Addr.mk b 0 none).add 4) (.int .u64 Mz)/\∃MA:Int,Cell w2 ((Addr.mk b 0 none).add 5) (.int .u16 MA)/\K c EJ P1 My Mz MA e w2:=fun {u e} x he hn=>by
  refine⟨rfl,RA (l':=⟨0,0,0,0,0,0⟩) (dX g1 x fun h=>h) fun w2 g2 x2=>?_⟩;exact⟨_,Cell.ah g2 rfl,_,Cell.ah g2 rfl,_,Cell.ah g2 rfl,_,Cell.ah g2 rfl,_,Cell.ah g2 rfl,_,Cell.ah g2 rfl,k _ _ _ _ _ _ e w2 ⟨fun h=>absurd h he,fun h=>absurd h hn⟩ (fun h=>absurd h he) ((n1.ext.no x).out x2 (by omega))⟩
 refine If.bne (fun h=>fin (Ext.refl _ _) (by decide) fun hp=>h (by have:=hp.1;omega)) fun abm=>?_
 refine⟨Ext No w1,(Ext.refl _ _).drew,Ix.int EI (by decide) (by omega) fun bb o _ hc=>⟨_,af.no (by have:=hc;unfold Cell at this;rwa [dC]at this),Ix.int EI (by decide) (by omega) fun bb o _ hc=>⟨_,af.no (by have:=hc;unfold Cell at this;rwa [dC]at this),fun b1 w3 n3=>⟨n3.ext.ae,rfl,?_⟩⟩⟩⟩;have s3:b1=w1.heap.size:=n3.at_;have g3:w3.heap[b1]? = some (v_ ⟨0,0,0,0,0,0⟩):=n3.get;have mr:Ext No w1 w3:=n3.ext.ae;have e4:(4:Int).toNat=4:=rfl;have e5:(5:Int).toNat=5:=rfl;refine RA (l':=⟨0,bl.getD 4 0,bl.getD 5 0,0,0,0⟩) g3 fun w4 g4 x4=>?_
 have mJ:Ext No w1 w4:=mr.out x4 (by omega);have h2:=(hB.drop 6).take 2;have h8:=(hB.drop 8).take 8;have q2:(bl.drop ((6:Int).toNat * 1)).take (((8:Int) - 6).toNat * 1)=(bl.drop 6).take 2:=rfl;have q8:(bl.drop ((8:Int).toNat * 1)).take (((16:Int) - 8).toNat * 1)=(bl.drop 8).take 8:=rfl;have ll2:((bl.drop 6).take 2).length=2:=by simp;omega
 have ll8:((bl.drop 8).take 8).length=8:=by simp;omega
 have n2:=uZ h2;have z2:=num_nonneg h2;rw[ll2,show(256:Int) ^ 2=65536 by decide]at n2;refine(EI.no mJ).qP (by decide) (by decide) (by omega) fun s hs pA=>?_
 rw[q2]at hs;refine sR hs h2 (by omega) (Ar.u16 (by omega) ?_);show aH w4 ⟨b1,5,none⟩ _ _;refine HQ ⟨0,bl.getD 4 0,bl.getD 5 0,0,0,num ((bl.drop 6).take 2)⟩ g4 (by decide) rfl rfl fun w6 g6 x6=>?_
 have ub:Ext No w1 w6:=mJ.out x6 (by omega);refine(EI.no ub).qP (by decide) (by decide) (by omega) fun s3' Tb adP=>?_
 rw[q8]at Tb;refine sR Tb h8 (by omega) ?_;show aH w6 ⟨b1,4,none⟩ _ _;refine HQ (fD bl 0 0) g6 (by decide) rfl rfl fun w8 g8 x8=>?_
 have zt:Ext No w1 w8:=ub.out x8 (by omega)
 obtain⟨lb,UC⟩ : ∃lb,lb=fD bl 0 0:=⟨_,rfl⟩
 have g8':w8.heap[b1]? = some (v_ lb):=by subst UC;exact g8
 have ok:lb.OK:=UC ▸ Ei hB (by decide) (by decide);have eJ:∀{o:Nat}{v:Value},[Value.int .u32 lb.t,.int .u8 lb.kd,.int .u8 lb.lv,.int .u32 lb.pg,.int .u64 lb.cm,.int .u16 lb.gn][o]? = some v->af (Ext No w8) ⟨b1,o,none⟩ v:=fun h=>af.cell (Cell.ah g8' h)
 refine⟨Ext No w8,(Ext.refl _ _).drew,Ix.int (EI.no zt) (by decide) (by omega) fun bb o _ hc=>⟨_,af.no (by have:=hc;unfold Cell at this;rwa [dC]at this),xX ⟨(Ext.refl _ _).drew,If.not (If.dec (fun Bx=>?_) fun hnk=>fin zt.drew (by decide) fun hp=>hnk hp.2.2)⟩⟩⟩;refine(EI.no zt).qP (by decide) (by decide) (by omega) fun s9 hs9 afl=>?_
 have e1:(bl.drop ((0:Int).toNat * 1)).take (((16:Int) - 0).toNat * 1)=bl.take 16:=by
  rw[show((16:Int) - 0).toNat * 1=16 from rfl,show(0:Int).toNat * 1=0 from rfl,List.drop_zero]
 rw[e1]at hs9;refine⟨_,eJ (o:=0) rfl,_,eJ (o:=1) rfl,_,eJ (o:=2) rfl,_,eJ (o:=3) rfl,_,eJ (o:=4) rfl,_,eJ (o:=5) rfl,xW ok fun XW gG D9 fo=>⟨fo.ae,xR (Rd.no hs9 fo.ae) D9.rd (hB.take _) (O1.append (gI.vw lb)) ⟨fo.ae,If.not (If.dec (fun heq=>?_) fun dz=>fin (zt.no fo.ae) (by decide) fun hp=>dz (by rw[UC];exact(head_eq hB (by omega)).2 hp.2.1))⟩⟩⟩;rw[UC,head_eq hB (by omega)]at heq
 have hT:BA bl:=⟨by omega,heq,Bx⟩
 have abo:=zt.no fo.ae;have wa:=dX g8' fo.ae fun h=>h
 refine⟨_,Cell.ah wa rfl,_,Cell.ah wa rfl,_,Cell.ah wa rfl,_,Cell.ah wa rfl,_,Cell.ah wa rfl,_,Cell.ah wa rfl,rfl,?_⟩;refine RA (l':=lb) (dX g1 abo fun h=>h) fun pY UD adR=>?_
 refine⟨_,Cell.ah UD rfl,_,Cell.ah UD rfl,_,Cell.ah UD rfl,_,Cell.ah UD rfl,_,Cell.ah UD rfl,_,Cell.ah UD rfl,k _ _ _ _ _ _ 0 pY ⟨fun _=>hT,fun _=>rfl⟩ (fun _=>by rw[UC];exact⟨rfl,rfl,rfl,rfl,rfl,rfl⟩) ((n1.ext.no abo).out adR (by omega))⟩
theorem HR{keys aT block:Sl}{ks:List (Sl×List Int)}{ts bl:List Int}{pg:Int}{K:Bool->Pw}(hk:wq w.heap keys ks)(ht:Rd w.heap aT 1 (ts.map (Value.int .u32)))(NA:∀t∈ts,0<=t/\t<=4294967295)(hb:aL w.heap block bl)(hB:B8 bl)(hpg:0<=pg/\pg<=4294967295)(zm:keys.len<=1000)(KW:aT.len<=1000)
  (k:∀r w',(r=true ↔ NL [] ks ts pg bl)->Ext No w w'->K r w'):nR keys aT pg block w K:=by
 apply DV
 have VU:∀t kl,BB [] bl pg t kl ↔ Eh kl (fD bl t pg) bl:=fun t kl=>⟨fun h=>h.1,fun h=>⟨h,fun⟨e,he,_⟩=>by cases he⟩⟩
 refine Mx hb hB fun r0 r1 r2 r3 r4 r5 e w1 he hr x1=>?_
 refine jy rfl rfl (cF rfl) fun w3 g3 z3 x3=>If.bne (fun h=>k _ w3 ⟨fun h1=>absurd h1 (by decide),fun h1=>absurd (he.2 h1.1) h⟩ (x1.no x3)) fun e0=>?_
 have hT:=he.1 e0;obtain⟨rfl,rfl,rfl,rfl,rfl,rfl⟩:=hr e0;have lt:ts.length=aT.len:=by have:=ht.len;simp at this;omega
 have lk:=hk.len;show aH w3 ⟨w1.heap.size,3,none⟩ _ _;refine HQ (l:=fD bl 0 0) (fD bl 0 pg) g3 (by decide) rfl rfl fun w4 g4 x4=>?_
 have Bz:Ext No w w4:=(x1.no x3).out x4 (by have:=x1.size;omega)
 let Lt:Pw:=fun u=>∃t,u.heap[w1.heap.size]? = some (v_ (fD bl t pg))
 have Lt4:Lt w4:=⟨0,g4⟩
 have z1:=x1.size;refine⟨fun m t u=>∃i:Nat,t=(i:Int)/\i<=ts.length/\m=ts.length - i/\Ext No w u/\Lt u/\∀j (h:j < ts.length),j < i->∀p∈ks,¬ BB [] bl pg ts[j] p.2,⟨_,0,rfl,Nat.zero_le _,rfl,Bz,Lt4,fun j _ h=>by omega⟩,?_⟩;rintro _ m0 t w5 ⟨i,rfl,hi,rfl,nC,⟨t5,g5⟩,hn⟩;refine If.dec (fun h=>?_) fun h=>k _ w5 ⟨fun h1=>absurd h1 (by decide),fun⟨_,t,ht,p,hp,hg⟩=>?_⟩ nC
 rotate_left
 .obtain⟨j,hj,rfl⟩:=List.getElem_of_mem ht;exact absurd hg (hn j hj (by omega) p hp)
 have iS:i < ts.length:=by omega
 refine Ix.int (ht.no nC) (by omega) (by omega) fun bb o _ hc=>⟨_,hc,?_⟩
 have ev:ts.getD ((i:Int)).toNat 0=ts[i]:=by simp[List.getD_eq_getElem?_getD,iS]
 rw[ev];have hti:=NA _ (List.getElem_mem iS);refine HQ (fD bl ts[i] pg) g5 (by decide) rfl rfl fun w6 g6 x6=>?_
 have wk:Ext No w w6:=nC.out x6 (by omega);have ok:=Ei hB hti hpg;have Bx:1<=(fD bl ts[i] pg).kd/\(fD bl ts[i] pg).kd<=4:=hT.2.2;refine⟨fun m t u=>∃q:Nat,t=(q:Int)/\q<=ks.length/\m=ks.length - q/\Ext No w6 u/\∀j (h:j < ks.length),j < q->¬ BB [] bl pg ts[i] ks[j].2,⟨_,0,rfl,Nat.zero_le _,rfl,Ext.refl _ _,fun j _ h=>by omega⟩,?_⟩;rintro _ m1 t1 w7 ⟨q,rfl,hq,rfl,UE,hn7⟩;have HM:=wk.no UE;have g7:=dX g6 UE fun h=>h
 refine If.dec (fun h7=>?_) fun h7=>Ar.i64 (by omega) ⟨_,by omega,i+1,by omega,by omega,rfl,HM,⟨_,g7⟩,fun j hj K5 p hp=>?_⟩
 rotate_left
 .rcases Nat.lt_or_ge j i with h | h
  .exact hn j hj h p hp
  .have:j=i:=by omega
   subst this;obtain⟨q',Mj,rfl⟩:=List.getElem_of_mem hp;exact hn7 q' Mj (by omega)
 have Mj:q < ks.length:=by omega
 have hkk:=(hk.no HM).each _ (List.getElem_mem Mj);have eJ:∀{o:Nat}{v:Value},[Value.int .u32 (fD bl ts[i] pg).t,.int .u8 (fD bl ts[i] pg).kd,.int .u8 (fD bl ts[i] pg).lv,.int .u32 (fD bl ts[i] pg).pg,.int .u64 (fD bl ts[i] pg).cm,.int .u16 (fD bl ts[i] pg).gn][o]? = some v->af (Ext No w7) ⟨w1.heap.size,o,none⟩ v:=fun h=>af.cell (Cell.ah g7 h)
 refine⟨Ext No w7,(Ext.refl _ _).drew,Ix.elem (f:=fun p:Sl×List Int=>[p.1.v]) (l:=ks) (by rw[<- List.map_eq_flatMap];exact(hk.no HM).rd) (fun _ _=>rfl) (by decide) (by omega) (by omega) fun b2 o2 Hv _ Ma=>⟨ks[q].1,af.cell ?_,_,eJ (o:=0) rfl,_,eJ (o:=1) rfl,_,eJ (o:=2) rfl,_,eJ (o:=3) rfl,_,eJ (o:=4) rfl,_,eJ (o:=5) rfl,?_⟩⟩
 .have:=Ma 0 _ rfl;simpa using this
 have xd:Ext No w7 (aa w7):=(Ext.refl _ _).drew
 refine HP (l:=fD bl ts[i] pg) ok Bx (hkk.1.no xd) hkk.2 ((hb.no HM).no xd) hB (by have:=hT.1;have:=aL.len hb;omega) fun s8 e8 w8 h8 x8=>⟨x8.ae,If.beq (fun h9=>?_) fun h9=>Ar.i64 (by omega) ⟨_,by omega,q+1,by omega,by omega,rfl,UE.no x8.ae,fun j hj K5=>?_⟩⟩
 .exact k _ w8 ⟨fun _=>⟨hT,ts[i],List.getElem_mem iS,ks[q],List.getElem_mem Mj,(VU _ _).2 (h8.1 h9)⟩,fun _=>rfl⟩ (HM.no x8.ae)
 .rcases Nat.lt_or_ge j q with h | h
  .exact hn7 j hj h
  .have:j=q:=by omega
   subst this;exact fun hg=>h9 (h8.2 ((VU _ _).1 hg))
end
end Go.Proofs.YtefdekemmnnclaaGreat
namespace Go.Proofs.YtefdekemmnnclaaGreat
open Go.V Go.V.Dk
theorem O5:gD bW=List.replicate 256 (.int .u8 0):=by unfold gD bW;rw[List.map_replicate]
theorem O6(n:Nat):(List.replicate n (List.replicate 256 (Value.int .u8 0))).flatten=(List.replicate n bW).flatMap gD:=by
 rw[List.flatMap_def,List.map_replicate,O5]
theorem CJ{w w':Wd}{b n:Nat}(h:Bk w (.cells (List.replicate n (List.replicate 256 (Value.int .u8 0))).flatten.toArray bB) b w') :
  aP w'.heap w.heap.size bB 256 ⟨some ⟨b,0,none⟩,n,n⟩ ((List.replicate n bW).flatMap gD):=by
 have:=aP.make (l:=n) h (Nat.le_refl _) (fun v hv=>by rw[List.mem_replicate]at hv;rw[hv.2];rfl);rw[List.length_replicate,O6]at this;exact this
theorem NM{w3 w4:Wd}{b:Nat}{sn sf:Sl}{n:Nat}(hn:8<=n/\n<=4096)(on:aP w3.heap 0 bB 256 sn ((List.replicate n bW).flatMap gD))(of:aP w3.heap 0 bB 256 sf ((List.replicate n bW).flatMap gD))
  (dz:∀i,sn.au=some i->sf.au≠some i) (new:Bk w3 (.cells [sn.v,sf.v,.slice none 0 0,.int .u64 0,.int .i64 0,.int .i64 (-1),.bool false].toArray mn) b w4) :
  bg w4.heap ⟨b,sn,sf,⟨none,0,0⟩⟩ (nO n):=by
 have hb:=new.at_;refine⟨new.get,on.no new.ext,of.no new.ext,aP.nil _ _ _ _,⟨fun h=>?_,fun h=>?_,by simp[Sl.au]⟩,fun i hi=>⟨dz i hi,by simp[Sl.au]⟩,fun i _=>by simp[Sl.au],TN hn⟩
 .have:=(on.lt h).2;simp only at this;omega
 .have:=(of.lt h).2;simp only at this;omega
theorem HS{n:Int}{w:Wd}{K:Option Addr->Int->Pw}(k2:¬ (8<=n/\n<=4096)->K none 2 w)
  (k:8<=n/\n<=4096->∀d w',bg w'.heap d (nO n.toNat)->(∀i,d.fp i->w.heap.size<=i)->Ext No w w'->K d.p 0 w'):wP n w K:=by
 apply LL;refine⟨fun w'=>w'=w/\8<=n/\n<=4096,?_,?_⟩
 .exact If.dec (fun h=>k2 (by omega)) (fun h=>If.dec (fun h=>k2 (by omega)) (fun h=>⟨rfl,by omega,by omega⟩))
 .rintro _ w1 ⟨rfl,hn⟩
  have fp:∀{b b1 b2:Nat}{w2 w3:Wd}{c c':List Value}{T T':TypeId},Bk (aa w1) (.cells c.toArray T) b1 w2->Bk w2 (.cells c'.toArray T') b2 w3->b=w3.heap.size->
    ∀i,(i=b∨b1=i∨b2=i)->w1.heap.size<=i:=fun n1 n2 hb i hi=>by
   have:=n1.at_;have:=n2.at_;have:=n1.size;have:=n2.size;have e:(aa w1).heap.size=w1.heap.size:=rfl;omega
  refine⟨Ext No w1,(Ext.refl _ _).drew,?_,?_⟩
  .refine tE.mk (by omega) (by omega) (by omega) (by omega) fun b1 w2 n1=>⟨(Ext.refl _ _).drew.no n1.ext,tE.mk (by omega) (by omega) (by omega) (by omega) fun b2 w3 n2=>⟨((Ext.refl _ _).drew.no n1.ext).no n2.ext,fun b w4 new=>⟨(((Ext.refl _ _).drew.no n1.ext).no n2.ext).no new.ext,?_⟩⟩⟩
   refine k hn ⟨b,⟨some ⟨b1,0,none⟩,n.toNat,n.toNat⟩,⟨some ⟨b2,0,none⟩,n.toNat,n.toNat⟩,⟨none,0,0⟩⟩ w4 (NM ⟨by omega,by omega⟩ (((CJ n1).mono (Nat.zero_le _)).no n2.ext) ((CJ n2).mono (Nat.zero_le _)) (fun i h1 h2=>?_) new) (fun i hi=>?_) ((((Ext.refl _ _).drew.no n1.ext).no n2.ext).no new.ext)
   .simp[Sl.au]at h1 h2;have:=n1.at_;have:=n2.at_;have:=n1.size;omega
   .exact fp n1 n2 new.at_ i (by simpa[vY.fp,Sl.au] using hi)
  .refine tE.mk (by omega) (by omega) (by omega) (by omega) fun b1 w2 n1=>⟨(Ext.refl _ _).drew.no n1.ext,tE.mk (by omega) (by omega) (by omega) (by omega) fun b2 w3 n2=>⟨((Ext.refl _ _).drew.no n1.ext).no n2.ext,fun b w4 new=>⟨(((Ext.refl _ _).drew.no n1.ext).no n2.ext).no new.ext,?_⟩⟩⟩
   refine k hn ⟨b,⟨some ⟨b2,0,none⟩,n.toNat,n.toNat⟩,⟨some ⟨b1,0,none⟩,n.toNat,n.toNat⟩,⟨none,0,0⟩⟩ w4 (NM ⟨by omega,by omega⟩ ((CJ n2).mono (Nat.zero_le _)) (((CJ n1).mono (Nat.zero_le _)).no n2.ext) (fun i h1 h2=>?_) new) (fun i hi=>?_) ((((Ext.refl _ _).drew.no n1.ext).no n2.ext).no new.ext)
   .simp[Sl.au]at h1 h2;have:=n1.at_;have:=n2.at_;have:=n1.size;omega
   .exact fp n1 n2 new.at_ i (by rcases hi with h | h | h | h <;> simp[Sl.au]at h <;> omega)
theorem Cut.whole{b n:Nat}{K:Sl->Prop}(hn:0 < n)(k:K ⟨some ⟨b,0,none⟩,n,n⟩):Cut ⟨some (Addr.mk b 0 none),n,n⟩ 0 (((n:Nat):Int)) (((n:Nat):Int)) 1 K:=by
 refine Cut.mk (by omega) (by omega) (by omega) (by simp) ?_
 have e:gX (some (Addr.mk b 0 none)) ((n:Int)).toNat (0:Int).toNat 1=some ⟨b,0,none⟩:=by
  unfold gX;rw[if_neg (by simp;omega)];simp[ay]
 simp only[e];have e2:((n:Int) - 0).toNat=n:=by omega
 rw[e2];exact k
theorem NN{w1:Wd}{l:List Int}{K:Sl->Pw}(hl:l.length=256)(k:∀s w',aP w'.heap w1.heap.size bB 1 s (gD l)->Ext No w1 w'->K s w') :
  an w1 (.cells (List.replicate 256 (Value.int .u8 0)).toArray 128) fun b w2=>List.length (α:=Value) (List.map (Value.int .u8) l++[])=256/\cr w2 (Addr.mk b 0 none) (List.map (Value.int .u8) l++[]) fun w3=>
   Cut ⟨some (Addr.mk b 0 none),256,256⟩ 0 (((256:Nat):Int)) (((256:Nat):Int)) 1 fun s=>K s w3:=by
 refine fun b w2 new=>⟨by rw[List.append_nil,List.length_map];exact hl,_,_,_,new.get,rfl,by show 0+_<=_;rw[List.append_nil,List.length_map,List.size_toArray,List.length_replicate];omega,.inr (.inr (Nat.le_refl _)),fun v hv=>?_,fun w3 hw=>Cut.whole (by decide) ?_⟩
 .rw[List.append_nil]at hv;exact cZ v hv
 .have e:setL (List.replicate 256 (Value.int .u8 0)) 0 (List.map (Value.int .u8) l++[])=gD l:=by
   rw[nN _ _ (by rw[List.append_nil,List.length_map,List.length_replicate];exact hl),List.append_nil];rfl
  refine k _ w3 ⟨by simp[gD,hl],.inr ⟨b,[],rfl,by rw[new.at_];exact Nat.le_refl _,?_,by simp[gD,hl],Nat.le_refl _⟩,cZ⟩ (new.ext.trans hw.ext fun i hi h=>by have:=new.at_;simp only at h;omega);rw[hw.get new.get];show some (Obj.cells ⟨setL (List.replicate 256 (Value.int .u8 0)) 0 (List.map (Value.int .u8) l++[])⟩ 128 (0,0))=_;rw[e,List.append_nil]
section
variable {w:Wd} {d:vY} {D:DS}
theorem rowAt{s:Sl}{l:List (List Int)}{i:Int}{K:Addr->Prop}(h:Rd w.heap s 256 (l.flatMap gD))(hr:∀r∈l,Row r)(h0:0<=i)(h1:i < (s.len:Int))
  (k:∀b o,s.au=some b->bu (Cell w) ⟨b,o,none⟩ 0 .u8 (l.getD i.toNat [])->K ⟨b,o,none⟩):Ix s.a s.len i 256 K:=
 Ix.elem h (iD hr) (by decide) h0 h1 fun b o hi hb hc=>by
  have e:l.getD i.toNat []=l[i.toNat]:=by simp[List.getD,hi]
  refine k b o hb (Cell.row fun j hj=>?_);rw[Nat.add_zero];refine hc j _ ?_;simp only[e]at hj ⊢;simp[gD,hj]
theorem wu{i:Int}{K:Sl->Int->Pw}(r:bg w.heap d D)(k2:hasB D i=false->K ⟨none,0,0⟩ 2 w)(k81:hasB D i=true->D.down=true->K ⟨none,0,0⟩ 81 w)
  (k0:hasB D i=true->D.down=false->∀s w',aP w'.heap w.heap.size bB 1 s (gD (D.now.getD i.toNat []))->Ext No w w'->K s 0 w'):dh d.p i w K:=by
 apply AG;refine If.no (nq r (If.not (If.cases (fun h=>?_) (fun h=>k2 h))));have hi:0<=i/\i < D.now.length:=by simpa[hasB] using h
 have hl:=r.ln;refine Nn.mk ⟨_,Cell.ah r.au rfl,If.cases (fun hd=>k81 h hd) (fun hd=>Nn.mk ⟨d.sn,Cell.ah r.au rfl,rowAt r.now.rd r.wf.rn hi.1 (by omega) fun b o _ hc=>⟨_,(l_ r.wf.rn (by omega)).1,hc,?_⟩⟩)⟩;exact NN (l_ r.wf.rn (by omega)).1 (k0 h hd)
theorem Fm{i:Int}{K:Sl->Int->Pw}(r:bg w.heap d D)(k2:hasB D i=false->K ⟨none,0,0⟩ 2 w)
  (k0:hasB D i=true->∀s w',aP w'.heap w.heap.size bB 1 s (gD (D.gC.getD i.toNat []))->Ext No w w'->K s 0 w'):lz d.p i w K:=by
 apply AS;refine If.no (nq r (If.not (If.cases (fun h=>?_) (fun h=>k2 h))));have hi:0<=i/\i < D.now.length:=by simpa[hasB] using h
 have hl:=r.lf;have hn:=r.wf.n;refine Nn.mk ⟨d.sf,Cell.ah r.au rfl,rowAt r.gC.rd r.wf.rf hi.1 (by omega) fun b o _ hc=>⟨_,(l_ r.wf.rf (by omega)).1,hc,?_⟩⟩;exact NN (l_ r.wf.rf (by omega)).1 (k0 h)
end
end Go.Proofs.YtefdekemmnnclaaGreat
