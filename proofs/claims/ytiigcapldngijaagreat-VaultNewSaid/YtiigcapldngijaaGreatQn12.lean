/- Texts for LVaultNew, part 12. -/
import Derived.Lib.BytesEntry
import Derived.Test.YtiigcapldngijaaGreatQn11
namespace Go.Proofs.YtiigcapldngijaaGreat
open Go.V
abbrev aQ(h:Array Obj)(s:Sl)(l:List Int):Prop:=Rd h s 1 (l.map (Value.int .u8))
abbrev aL(h:Array Obj)(base:Nat)(s:Sl)(l:List Int):Prop:=aP h base 5 1 s (l.map (Value.int .u8))
theorem aQ.len{h:Array Obj}{s:Sl}{l:List Int}(o:aQ h s l):s.len=l.length:=by have:=Rd.len o;simp at this;exact this.symm
theorem aL.len{h:Array Obj}{base:Nat}{s:Sl}{l:List Int}(o:aL h base s l):s.len=l.length:=aQ.len o.rd
section
variable {w:Wd}
theorem jl{n size:Int}{K:Sl->Int->Pw}(hn:0<=n)(h1:1<=size)(h8:size<=8)(nj:n < 256 ^ size.toNat)
  (k:∀s w',aL w'.heap w.heap.size s (be size.toNat n)->Ext No w w'->K s 0 w'):cU n size w K:=by
 apply Lr;refine⟨fun w'=>w'=w,If.dec (fun h=>by omega) (fun _=>If.dec (fun h=>by omega) fun _=>rfl),?_⟩;rintro _ w1 rfl;refine⟨fun w'=>w'=w1,If.dec (fun h=>Ar.i64 (by omega) ⟨by omega,Nm.as (e':=0) ?_ (If.bne (fun h=>(h rfl).elim) fun _=>rfl)⟩) fun _=>rfl,?_⟩
 .have e2:min (8 * size).toNat (IntKind.bits .u64)=8 * size.toNat:=by
   have:IntKind.bits .u64=64:=rfl;omega
  rw[e2,Int.pow_mul,show(2:Int) ^ 8=256 from rfl,Int.fdiv_eq_ediv_of_nonneg _ (Int.le_of_lt (Int.pow_pos (by decide)))];exact Int.ediv_eq_zero_of_lt hn nj
 rintro _ w2 rfl;refine xO.mk (by omega) (Int.le_refl _) (by omega) (by omega) fun b w3 qo=>Ar.i64 (by omega) ?_
 have o3:=aP.make (l:=size.toNat) qo (Nat.le_refl _) (fun v hv=>by rw[List.mem_singleton]at hv;subst hv;rfl);have e3:(List.replicate size.toNat [Value.int .u8 0]).flatten=(List.replicate size.toNat (0:Int)).map (Value.int .u8):=by simp[List.flatten_replicate_singleton]
 rw[e3]at o3
 -- after j steps: the last j bytes of n are there,n / 256^j is left
 refine⟨fun m m' i w'=>∃j:Nat,i=size - 1 - j/\j<=size.toNat/\m=size.toNat - j/\m'=n / 256 ^ j/\aL w'.heap w2.heap.size ⟨some ⟨b,0,none⟩,size.toNat,size.toNat⟩ (List.replicate (size.toNat - j) 0++(be size.toNat n).drop (size.toNat - j))/\Ext No w2 w',⟨size.toNat,0,by omega,by omega,by omega,by simp,?_,qo.ext⟩,?_⟩
 .rw[Nat.sub_zero,List.drop_eq_nil_of_le (by rw[aK];exact Nat.le_refl _),List.append_nil];exact o3
 rintro _ m0 n1 i w4 ⟨j,rfl,hj,hm,rfl,o4,x4⟩;refine If.dec (fun h=>Ar.Qy ?_) (fun h=>?_)
 .have hq:0<=n / 256 ^ j:=Int.ediv_nonneg hn (Int.le_of_lt (Int.pow_pos (by decide)))
  refine aH.own o4 h (by simp only;omega) rfl fun w5 o5 x5 z5=>⟨by omega,Nm.as (e':=n / 256 ^ (j+1)) ?_ (Ar.i64 (by omega) ⟨size.toNat - (j+1),by omega,j+1,by omega,by omega,rfl,rfl,?_,?_⟩)⟩
  .rw[show min (Int.toNat 8) (IntKind.bits .u64)=8 from rfl,Int.fdiv_eq_ediv_of_nonneg _ (by decide),show(2:Int) ^ 8=256 from rfl,Int.ediv_ediv_of_nonneg (Int.le_of_lt (Int.pow_pos (by decide))),Int.pow_succ]
  .have e:(size - 1 - (j:Int)).toNat=size.toNat - (j+1):=by omega
   rw[e,<- List.map_set]at o5;have hk:size.toNat - j=(size.toNat - (j+1))+1:=by omega
   have:(List.replicate (size.toNat - j) (0:Int)++(be size.toNat n).drop (size.toNat - j)).set (size.toNat - (j+1)) (n / 256 ^ j % 256)=List.replicate (size.toNat - (j+1)) 0++(be size.toNat n).drop (size.toNat - (j+1)):=by
    rw[hk,List.replicate_succ',List.append_assoc,List.set_append_right _ _ (by simp)];simp only[List.length_replicate,Nat.sub_self,List.singleton_append,List.set_cons_zero];rw[<- Tw (k:=size.toNat) (j:=j) (by omega),show size.toNat - 1 - j=size.toNat - (j+1) by omega];rw[List.getD_eq_getElem?_getD,List.getElem?_eq_getElem (by rw[aK];omega),Option.getD_some,<- List.drop_eq_getElem_cons]
   rw[this]at o5;exact o5
  .exact x4.trans x5 fun q hq h=>by
    have h:=Option.some.inj h;rw[<- h]at hq;have:=qo.at_;simp only at hq;omega
 .have e:size.toNat - j=0:=by omega
  rw[e]at o4;exact k _ _ (by simpa using o4) x4
theorem mW{b:Sl}{l:List Int}{K:Int->Int->Pw}(hb:aQ w.heap b l)(h8:B8 l)(h1:1<=l.length)(h2:l.length<=8)(k:K (num l) 0 w):dV b w K:=by
 apply Ll;have hl:=aQ.len hb;refine⟨fun w'=>w'=w,If.dec (fun h=>by omega) (fun _=>If.dec (fun h=>by omega) fun _=>rfl),?_⟩;rintro _ w1 rfl;refine⟨fun m n t w'=>w'=w1/\∃j:Nat,t=j/\j<=l.length/\m=l.length - j/\n=num (l.take j),⟨l.length,rfl,0,rfl,by omega,by omega,by simp[num]⟩,?_⟩;rintro _ m0 n t w2 ⟨rfl,j,rfl,hj,hm,rfl⟩;refine If.dec (fun h=>Ix.int hb (by omega) (by omega) fun bb o _ hc=>⟨_,hc,?_⟩) (fun h=>?_)
 .have hx:=h8.get j;have aN:num (l.take j) < 256 ^ j:=by have:=Tv (h8.take j);rwa [List.length_take,Nat.min_eq_left hj]at this
  have h0:=num_nonneg (h8.take j);have hp:(256:Int) ^ (j+1)<=256 ^ 8:=afi (by omega);rw[Int.pow_succ]at hp;have hp8:(256:Int) ^ 8=18446744073709551616:=by decide
  have e1:num (l.take j) * 2 ^ min (Int.toNat 8) (IntKind.bits .u64)=num (l.take j) * 256:=rfl;rw[Int.toNat_natCast];refine⟨by omega,?_⟩;rw[e1];refine Ar.u64 (by omega) (Ar.u64 (by omega) (Nm.as (LP h0 hx (by omega)) (Ar.i64 (by omega) ⟨l.length - (j+1),by omega,rfl,j+1,by omega,by omega,rfl,?_⟩)));rw[HM (by omega),Fv]
 .have e:j=l.length:=by omega
  rw[e,List.take_length];exact k
theorem CA{b:Sl}{l:List Int}{K:Bool->Pw}(hb:aQ w.heap b l)(h8:B8 l)(hs:l.length<=4294967296)(k:K (decide (∀x∈l,x=0)) w):kM b w K:=by
 apply EW;have hl:=aQ.len hb;refine⟨fun m n t w'=>w'=w/\∃j:Nat,t=j/\j<=l.length/\m=l.length - j/\0<=n/\n<=255/\(n=0 ↔ ∀x∈l.take j,x=0),⟨l.length,rfl,0,rfl,by omega,by omega,by omega,by omega,by simp⟩,?_⟩;rintro _ m0 n t w2 ⟨rfl,j,rfl,hj,hm,YC,hn1,hn⟩;refine If.dec (fun h=>Ix.int hb (by omega) (by omega) fun bb o _ hc=>⟨_,hc,Nm.mk (Ar.i64 (by omega) ⟨l.length - (j+1),by omega,rfl,j+1,by omega,by omega,rfl,?_⟩)⟩) (fun h=>?_)
 .have hx:=h8.get j;rw[Int.toNat_natCast];obtain⟨a,b,c⟩:=tP ⟨YC,hn1⟩ hx;refine⟨a,b,c.trans ?_⟩;rw[hn,HM (by omega)];constructor
  .rintro⟨p,q⟩ x hx;rcases List.mem_append.1 hx with h | h
   .exact p x h
   .rw[List.mem_singleton]at h;rw[h];exact q
  .intro p;exact⟨fun x hx=>p x (List.mem_append_left _ hx),p _ (List.mem_append_right _ (List.mem_singleton.2 rfl))⟩
 .have e:j=l.length:=by omega
  rw[e,List.take_length]at hn
  have:(n == 0)=decide (∀x∈l,x=0):=by
   rw[Bool.eq_iff_iff,beq_iff_eq,decide_eq_true_iff];exact hn
  rw[this];exact k
theorem pn{b:Sl}{l:List Int}{K:Sl->Pw}(hb:aQ w.heap b l)(hs:l.length<=1099511627776)(k:∀s w',aL w'.heap w.heap.size s l->Ext No w w'->K s w'):ft b w K:=by
 apply GC;have hl:=aQ.len hb;refine If.cases (fun h=>?_) (fun h=>au.mk fun b1 w1 hn=>?_)
 .have:l=[]:=by
   rcases Classical.em (l=[]) with h' | h'
   .exact h'
   .obtain⟨_,_,ha,_⟩:=Rd.at_ hb (by simpa using h');rw[ha]at h;cases h
  subst this;exact k _ _ (aP.nil _ _ _ _) (Ext.refl _ _)
 .have o1:aP w1.heap w.heap.size 5 1 ⟨some ⟨b1,0,none⟩,0,0⟩ []:=by have:=aP.new (n:=0) (sz:=1) hn rfl (by simp);exact this
  refine dj o1 (by have:=hn.size;omega) (Rd.no hb hn.ext).src (by simp only;omega) fun s' w' o' _ x' _=>?_
  rw[List.nil_append]at o';refine k _ _ o' (hn.ext.trans x' fun q hq h=>?_);have h:=Option.some.inj h;rw[<- h]at hq;have:=hn.at_;simp only at hq;omega
end
end Go.Proofs.YtiigcapldngijaaGreat
set_option maxRecDepth 100000
namespace Go.V
theorem LV{z:Int}(hz:lO z):bI .and .u64 z 1=z % 2:=by
 rw[It hz ⟨by decide,by decide⟩,show(1:Int).toNat=1 from rfl,Nat.and_one_is_mod];omega
theorem WV{x:Int}(hx:lO x)(n:Nat):lO (x / 2 ^ n):=
 ⟨Int.ediv_nonneg hx.1 (Int.le_of_lt (Int.pow_pos (by decide))),Int.le_trans (Int.ediv_le_self _ hx.1) hx.2⟩
theorem WW{x:Int}(hx:lO x)(n:Nat):(x / 2 ^ n % 2=1) ↔ x.toNat.testBit n=true:=by
 obtain⟨m,rfl⟩:=Int.eq_ofNat_of_zero_le hx.1;rw[Nat.testBit_eq_decide_div_mod_eq,decide_eq_true_iff,Int.toNat_natCast];have:((m:Int) / 2 ^ n % 2)=((m / 2 ^ n % 2:Nat):Int):=by simp
 rw[this];omega
end Go.V
namespace Go.Proofs.YtiigcapldngijaaGreat
open Go.V
section
variable {w w':Wd}
theorem Oi{x:Int}(h:lO x):x < 256 ^ (8:Int).toNat:=by show x < 256 ^ 8;have:=h.2;omega
theorem PF{b0:List Int}{K:Int->Int->Pw}(hb:ia b0)(k:∀x y w',lO x->lO y->cw x y=co b0->Ext No w w'->K x y w'):sI b0 w K:=by
 apply NY
 refine fun b w1 n1 b1 w2 n2=>?_
 have s1:=n1.at_;have s2:=n2.at_;have z1:=n1.size;have a0:aA w2.heap b 273 .u8 b0:=(aA.new n1).ext n2.ext fun h=>h
 have a1:aA w2.heap b1 458 .u64 [0,0]:=n2.get;have hl:=hb.1;refine Cut.arr (by decide) (by decide) (by decide) (by decide) (mW (l:=(b0.drop 0).take 8) (a0.rd (o:=0) (n:=8) (c:=16) (by omega) (by decide)) ((hb.2.drop _).take _) (by simp;omega) (by simp;omega) ?_);refine Cut.arr (by decide) (by decide) (by decide) (by decide) (mW (l:=(b0.drop 8).take 8) (a0.rd (o:=8) (n:=8) (c:=8) (by omega) (by decide)) ((hb.2.drop _).take _) (by simp;omega) (by simp;omega) ⟨rfl,?_⟩)
 refine aA.xT (l':=[_,_]) a1 rfl fun w5 a5 x5=>⟨_,Cell.af a5 rfl,_,Cell.af a5 rfl,k _ _ _ ?_ ?_ ?_ ?_⟩
 .exact PD (by simp;omega) ((hb.2.drop _).take _)
 .exact PD (by simp;omega) ((hb.2.drop _).take _)
 .rw[<- YD hb.1 hb.2,List.drop_zero,List.take_of_length_le (l:=b0.drop 8) (by simp;omega)]
 .exact(n1.ext.no n2.ext).out x5 (by omega)
theorem Fx{x0 x1 y0 y1:Int}{K:Int->Int->Pw}(hx0:lO x0)(hx1:lO x1)(hy0:lO y0)(hy1:lO y1)(k:∀x y w',lO x->lO y->cw x y=mu (cw x0 x1) (cw y0 y1)->Ext No w w'->K x y w'):eA x0 x1 y0 y1 w K:=by
 apply uc
 refine fun b w1 n1 b1 w2 n2 b2 w3 n3 b3 w4 n4=>⟨rfl,?_⟩
 have s1:=n1.at_;have s2:=n2.at_;have s3:=n3.at_;have s4:=n4.at_;have z1:=n1.size;have z2:=n2.size;have z3:=n3.size;have z4:=n4.size;have x4:Ext No w w4:=((n1.ext.no n2.ext).no n3.ext).no n4.ext
 have a0:aA w4.heap b 458 .u64 [x0,x1]:=((((show aA w1.heap b 458 .u64 [x0,x1] from n1.get).ext n2.ext fun h=>h).ext n3.ext fun h=>h).ext n4.ext fun h=>h)
 have a1:aA w4.heap b1 458 .u64 [y0,y1]:=((show aA w2.heap b1 458 .u64 [y0,y1] from n2.get).ext n3.ext fun h=>h).ext n4.ext fun h=>h
 have a2:aA w4.heap b2 458 .u64 [0,0]:=(show aA w3.heap b2 458 .u64 [0,0] from n3.get).ext n4.ext fun h=>h
 have a3:aA w4.heap b3 458 .u64 [0,0]:=n4.get;refine aA.xT (l':=[0,0]) a3 rfl fun w5 a5 x5=>?_
 let Y:Wd->Co->Prop:=fun u c=>∃p q,lO p/\lO q/\cw p q=c/\aA u.heap b1 458 .u64 [p,q]
 let Z:Wd->Co->Prop:=fun u c=>∃p q,lO p/\lO q/\cw p q=c/\aA u.heap b3 458 .u64 [p,q]
 let Inv:Wd->Co->Co->Prop:=fun w' y z=>Ext No w w'/\aA w'.heap b 458 .u64 [x0,x1]/\aA w'.heap b2 458 .u64 [0,0]/\Y w' y/\Z w' z
 have z00:lO 0:=⟨by decide,by decide⟩
 have i5:Inv w5 (my (cw y0 y1) 0) (mz (cw x0 x1) (cw y0 y1) 0):=⟨x4.out x5 (by omega),a0.ext x5 (by omega),a2.ext x5 (by omega),⟨_,_,hy0,hy1,rfl,a1.ext x5 (by omega)⟩,0,0,z00,z00,by funext i;unfold cw;simp[mz,zc],a5⟩
 have LW:∀{u u':Wd}{y z c:Co}{p q:Int},Inv u y z->Ext (·=b1) u u'->lO p->lO q->cw p q=c->aA u'.heap b1 458 .u64 [p,q]->Inv u' c z:=fun {u u' y z c p q} h x hp hq hc a=>by
  obtain⟨h1,h2,h3,h4,p',q',h5,h6,h7,h8⟩:=h;exact⟨h1.out x (by omega),h2.ext x (by omega),h3.ext x (by omega),⟨_,_,hp,hq,hc,a⟩,p',q',h5,h6,h7,h8.ext x (by omega)⟩
 refine⟨fun m t w'=>t=128 - (m:Int)/\m<=128/\Inv w' (my (cw y0 y1) t.toNat) (mz (cw x0 x1) (cw y0 y1) t.toNat),⟨128,by omega,by omega,i5⟩,?_⟩;rintro _ m t w6 ⟨ht,hm,i6⟩;refine If.dec (fun h=>?_) fun h=>?_
 .refine⟨x0,Cell.af i6.2.1 rfl,fun v w'=>w'=w6/\v=(if t > 63 then x1 else x0),If.dec (fun h63=>⟨x1,Cell.af i6.2.1 rfl,rfl,by rw[if_pos h63]⟩) fun h63=>⟨rfl,by rw[if_neg h63]⟩,?_⟩;rintro _ word w7 ⟨rfl,YG⟩;have hwd:lO word:=by rw[YG];split;exact hx1;exact hx0
  have hn:63 - t % 64=(((63 - t % 64).toNat:Nat):Int):=by omega
  have acT:(word / 2 ^ (63 - t % 64).toNat % 2=1) ↔ cw x0 x1 t.toNat=true:=by
   rw[WW hwd,YG];unfold cw;by_cases h63:t > 63
   .rw[if_pos h63,if_neg (by omega),decide_eq_true (by omega),Bool.true_and,show(63 - t % 64).toNat=127 - t.toNat by omega]
   .rw[if_neg h63,if_pos (by omega),show(63 - t % 64).toNat=63 - t.toNat by omega]
  refine⟨fun w'=>Inv w' (my (cw y0 y1) t.toNat) (mz (cw x0 x1) (cw y0 y1) (t.toNat+1)),⟨by decide,Nm.as (k_ (by omega)) (Ar.i64 (by omega) ⟨by omega,Nm.as (e':=word / 2 ^ (63 - t % 64).toNat) ?_ (Nm.as (LV (WV hwd _)) (If.bne (fun h1=>?_) fun h1=>?_))⟩)⟩,?_⟩
  .rw[fdiv_pow,show min (Int.toNat (63 - t % 64)) (IntKind.bits .u64)=(63 - t % 64).toNat by show min _ 64=_;omega]
  .have hbt:cw x0 x1 t.toNat=true:=acT.1 (by omega);have em:mz (cw x0 x1) (cw y0 y1) (t.toNat+1)=xc (mz (cw x0 x1) (cw y0 y1) t.toNat) (my (cw y0 y1) t.toNat):=by rw[mz,if_pos hbt]
   rw[em];obtain⟨g1,g2,g3,⟨r,s,hr,hs,YH,a'⟩,p,q,hp,hq,hpq,a⟩:=i6;have ad:aA (ae w7).heap b3 458 .u64 [p,q]:=a;have ad':aA (ae w7).heap b1 458 .u64 [r,s]:=a'
   let S:Pw:=fun u=>(∃p',aA u.heap b3 458 .u64 [p',q])/\aA u.heap b1 458 .u64 [r,s]
   have s0:S (ae w7):=⟨⟨p,ad⟩,ad'⟩
   have fin:aH (ae w7) (Addr.mk b3 0 none) (.int .u64 (xr p r)) fun w8=>S w8/\aH w8 ((Addr.mk b3 0 none).add 1) (.int .u64 (xr q s)) fun w9=>Inv w9 (my (cw y0 y1) t.toNat) (xc (mz (cw x0 x1) (cw y0 y1) t.toNat) (my (cw y0 y1) t.toNat)):=by
    refine ad.Tg (o:=0) (by simp) fun w8 a8 x8=>⟨⟨⟨_,a8⟩,ad'.ext x8 (by omega)⟩,?_⟩
    refine aA.Tg (o:=1) a8 (by simp) fun w9 a9 x9=>?_
    have x9:Ext (fun i=>i=b3) w8 w9:=x9;have g1':Ext No w w8:=g1.drew.out x8 (by omega);exact⟨g1'.out x9 (by omega),((show aA (ae w7).heap b 458 .u64 _ from g2).ext x8 (by omega)).ext x9 (by omega),((show aA (ae w7).heap b2 458 .u64 _ from g3).ext x8 (by omega)).ext x9 (by omega),⟨r,s,hr,hs,YH,(ad'.ext x8 (by omega)).ext x9 (by omega)⟩,_,_,uK hp hr,uK hq hs,by rw[NN,hpq,YH],a9⟩
   refine⟨S,s0,q,fun u hu=>?_,s,fun u hu=>Cell.af hu.2 rfl,Nm.as (eT hq hs) ⟨⟨p,Cell.af ad rfl,s0,r,Cell.af ad' rfl,s0,Nm.as (eT hp hr) fin⟩,⟨r,Cell.af ad' rfl,s0,p,Cell.af ad rfl,s0,Nm.as (eT hp hr) fin⟩⟩⟩;obtain⟨⟨p',Fy⟩,_⟩:=hu;exact Cell.af Fy rfl
  .have em:mz (cw x0 x1) (cw y0 y1) (t.toNat+1)=mz (cw x0 x1) (cw y0 y1) t.toNat:=by
    rw[mz,if_neg];intro hc;have:=acT.2 hc;omega
   rw[em];exact i6
  .rintro _ gO i12;have afo:=i12;obtain⟨g1,g2,g3,⟨r,s,hr,hs,YH,a'⟩,_⟩:=i12;have eh:Int.fdiv r (2 ^ min (Int.toNat 1) (IntKind.bits .u64))=r / 2:=fdiv_pow;have el:Int.fdiv s (2 ^ min (Int.toNat 1) (IntKind.bits .u64))=s / 2:=fdiv_pow;have ea:r * 2 ^ min (Int.toNat 63) (IntKind.bits .u64) % 18446744073709551616=r * 2 ^ 63 % 18446744073709551616:=rfl
   have hU1:lO (s / 2):=⟨by have:=hs.1;omega,by have:=hs.2;have:=hs.1;omega⟩
   have hU2:lO (r * 2 ^ 63 % 18446744073709551616):=⟨by omega,by omega⟩
   have hU3:lO (r / 2):=⟨by have:=hr.1;omega,by have:=hr.2;have:=hr.1;omega⟩
   refine⟨s,Cell.af a' rfl,Nm.as (LV hs) ⟨r,Cell.af a' rfl,by decide,Nm.as eh ⟨s,Cell.af a' rfl,by decide,Nm.as el ⟨r,Cell.af a' rfl,by decide,Ar.aah (Nm.as (e':=(((s / 2).toNat ||| (r * 2 ^ 63 % 18446744073709551616).toNat:Nat):Int)) (by rw[ea];exact uJ hU1 hU2) ?_)⟩⟩⟩⟩;have hd:=aam hr hs;rw[YH,show dbl (my (cw y0 y1) t.toNat)=my (cw y0 y1) (t.toNat+1) from rfl]at hd
   have hU4:lO (((s / 2).toNat ||| (r * 2 ^ 63 % 18446744073709551616).toNat:Nat):Int):=by
    have:(s / 2).toNat ||| (r * 2 ^ 63 % 18446744073709551616).toNat < 2 ^ 64:=Nat.or_lt_two_pow (by have:=hU1.2;omega) (by omega)
    constructor <;> omega
   generalize(((s / 2).toNat ||| (r * 2 ^ 63 % 18446744073709551616).toNat:Nat):Int)=l' at *;refine a'.Tg (o:=0) (by simp) fun fV WN iY=>?_
   refine aA.Tg (o:=1) WN (by simp) fun lR a14 iT=>?_
   have et:(t+1).toNat=t.toNat+1:=by omega
   have afp:aA fV.heap b1 458 .u64 [r / 2,s]:=WN;have aaE:aA lR.heap b1 458 .u64 [r / 2,l']:=a14;have i14:=LW (LW afo iY hU3 hs rfl afp) iT hU3 hU4 rfl aaE;refine If.bne (fun ho=>⟨_,Cell.af aaE rfl,Nm.as (eT hU3 ⟨by decide,by decide⟩) (aaE.Tg (o:=0) (by simp) fun mU a15 ld=>Ar.i64 (by omega) ⟨m - 1,by omega,by omega,by omega,?_⟩)⟩) fun ho=>Ar.i64 (by omega) ⟨m - 1,by omega,by omega,by omega,?_⟩
   .rw[if_pos (by omega)]at hd;rw[et];exact LW i14 ld (uK hU3 ⟨by decide,by decide⟩) hU4 hd a15
   .rw[if_neg (by omega)]at hd;rw[et,<- hd];exact i14
 .obtain⟨g1,g2,g3,g4,p,q,hp,hq,hpq,a⟩:=i6;rw[show t.toNat=128 by omega]at hpq;refine⟨p,Cell.af a rfl,q,Cell.af a rfl,rfl,aA.xT (l':=[p,q]) g3 rfl fun iB a16 uy=>⟨p,Cell.af a16 rfl,q,Cell.af a16 rfl,k p q iB hp hq hpq (g1.out uy (by omega))⟩⟩
end
section
variable {w w':Wd}
theorem Js{x0 x1:Int}{K:List Int->Pw}(h0:lO x0)(h1:lO x1)(k:∀w',Ext No w w'->K (af (cw x0 x1)) w'):hE x0 x1 w K:=by
 apply ud;refine fun b w1 n1 b1 w2 n2 b2 w3 n3=>?_
 have s1:=n1.at_;have s2:=n2.at_;have s3:=n3.at_;have z1:=n1.size;have z2:=n2.size;have z3:=n3.size;have a0:aA w3.heap b 458 .u64 [x0,x1]:=((show aA w1.heap b 458 .u64 [x0,x1] from n1.get).ext n2.ext fun h=>h).ext n3.ext fun h=>h
 have a1:aA w3.heap b1 273 .u8 (List.replicate 16 0):=(show aA w2.heap b1 273 .u8 (List.replicate 16 0) from n2.get).ext n3.ext fun h=>h
 have a2:aA w3.heap b2 273 .u8 (List.replicate 16 0):=n3.get;have x3:Ext No w w3:=(n1.ext.no n2.ext).no n3.ext;refine⟨x0,Cell.af a0 rfl,jl h0.1 (by decide) (by decide) (Oi h0) fun s w4 o4 x4=>⟨x1,Cell.af (a0.ext x4 fun h=>h) rfl,jl h1.1 (by decide) (by decide) (Oi h1) fun s5 w5 o5 x5=>?_⟩⟩;have Yy:=x3.size;have Ts:=x4.size;have lt5:=x5.size;have x35:=x4.no x5;have hs:s.len=8:=by have:=aL.len o4;rw[aK]at this;exact this
 have hs5:s5.len=8:=by have:=aL.len o5;rw[aK]at this;exact this
 have em8:min s.len (8 - 0:Int).toNat=8:=by rw[hs];rfl
 have em5:min s5.len ((16:Nat) - 8:Int).toNat=8:=by rw[hs5];rfl
 refine Cut.arr (by decide) (by decide) (by decide) (by decide) (HL (xs:=be 8 x0) (a2.ext x35 fun h=>h) (o4.rd.no x5) (by rw[hs];decide) fun w6 a6 x6=>?_)
 have a6':aA w6.heap b2 273 .u8 (be 8 x0++List.replicate 8 0):=by
  have:aA w6.heap b2 273 .u8 ((List.replicate 16 0).take 0++((be 8 x0).take (min s.len (8 - 0:Int).toNat)++(List.replicate 16 0).drop (0+min s.len (8 - 0:Int).toNat))):=a6;rw[em8,List.take_of_length_le (l:=be 8 x0) (by rw[aK];omega)]at this;exact this
 have ltb:∀i,s5.aw=some i->i≠b2:=fun i hi=>by have:=(o5.lt hi).1;omega
 have r5:aQ w6.heap s5 (be 8 x1):=(o5.ext x6 fun i hi h=>ltb i hi h).rd;refine Cut.arr (by decide) (by decide) (by decide) (by decide) (HL (xs:=be 8 x1) a6' r5 (by rw[hs5];simp[aK]) fun w7 a7 x7=>?_)
 have a7':aA w7.heap b2 273 .u8 (af (cw x0 x1)):=by
  have:aA w7.heap b2 273 .u8 ((be 8 x0++List.replicate 8 0).take 8++((be 8 x1).take (min s5.len ((16:Nat) - 8:Int).toNat)++(be 8 x0++List.replicate 8 0).drop (8+min s5.len ((16:Nat) - 8:Int).toNat))):=a7;rw[em5,List.take_of_length_le (l:=be 8 x1) (by rw[aK];omega),List.take_append_of_le_length (by rw[aK];omega),List.take_of_length_le (by rw[aK];omega),List.drop_eq_nil_of_le (by simp[aK]),List.append_nil]at this;rw[aaz h0 h1];exact this
 have x7':Ext No w w7:=((x3.no x35).out x6 (by omega)).out x7 (by omega);have lt7:=x7'.size;refine HK a7' (((a1.ext x35 fun h=>h).ext x6 (by omega)).ext x7 (by omega)) (aT _ _) (by simp) fun w8 x8=>k w8 (x7'.out x8 (by omega))
def Oj(h:Co)(al tl:List Int):Co:=mu (xc (Ti h ((tl.length+15) / 16) (Ti h ((al.length+15) / 16) zc al) tl) (cw ((8 * al.length:Nat):Int) ((8 * tl.length:Nat):Int))) h
def Fz(h c:Co)(l:List Int):Co:=Ti h ((l.length+15) / 16) c l
theorem TC(h c:Co):Fz h c []=c:=rfl
theorem QV(h c:Co){l:List Int}(hl:0 < l.length):Fz h c l=Fz h (mu (xc c (co l)) h) (l.drop 16):=by
 unfold Fz;rw[show(l.length+15) / 16=((l.drop 16).length+15) / 16+1 by simp;omega,Ti]
theorem Ok{h0 al tl:List Int}{nO text:Sl}{K:List Int->Pw}(hh:ia h0)(ra:aQ w.heap nO al)(rt:aQ w.heap text tl)(ba:B8 al)(bt:B8 tl)(Sm:nO.len<=1000000)(htl:text.len<=1000000)(k:∀w',Ext No w w'->K (af (Oj (co h0) al tl)) w'):u_ h0 nO text w K:=by
 apply Ls;refine fun b w1 n1 b1 w2 n2=>?_
 have s1:=n1.at_;have s2:=n2.at_;have z1:=n1.size;have z2:=n2.size;have x2:Ext No w w2:=n1.ext.no n2.ext;have a1:aA w2.heap b1 273 .u8 (List.replicate 16 0):=n2.get;refine⟨h0,hh.1,((aA.new n1).ext n2.ext fun h=>h).row,PF hh fun r0 r1 w3 hr0 hr1 acU x3=>?_⟩
 refine fun b2 w4 n4 b3 w5 n5=>⟨rfl,?_⟩
 have s4:=n4.at_;have s5:=n5.at_;have z4:=n4.size;have z5:=n5.size;have Na:=x2.size;have Yy:=x3.size;have x5:Ext No w w5:=((x2.no x3).no n4.ext).no n5.ext;have a25:aA w5.heap b2 458 .u64 [0,0]:=(show aA w4.heap b2 458 .u64 [0,0] from n4.get).ext n5.ext fun h=>h
 have a35:aA w5.heap b3 458 .u64 [0,0]:=n5.get;have a15:aA w5.heap b1 273 .u8 (List.replicate 16 0):=((a1.ext x3 fun h=>h).ext n4.ext fun h=>h).ext n5.ext fun h=>h
 refine aA.xT (l':=[r0,r1]) a25 rfl fun w6 a26 x6=>⟨rfl,?_⟩
 refine aA.xT (l':=[0,0]) (a35.ext x6 (by omega)) rfl fun w7 a37 x7 b4 w8 n8=>?_
 have s8:=n8.at_;have z8:=n8.size;have lt6:=x6.size;have lt7:=x7.size
 let Inv:Wd->Co->Prop:=fun u c=>Ext No w u/\w5.heap.size<=u.heap.size/\aA u.heap b1 273 .u8 (List.replicate 16 0)/\aA u.heap b2 458 .u64 [r0,r1]/\(∃p q,lO p/\lO q/\cw p q=c/\aA u.heap b3 458 .u64 [p,q])/\u.heap[b4]? = some (.cells [Value.slice nO.a nO.len nO.cap,Value.slice text.a text.len text.cap].toArray 22 (0,0))
 have no_:∀{u u':Wd}{c:Co},Inv u c->Ext No u u'->Inv u' c:=fun {u u' c} h x=>by
  obtain⟨h1,h2,h3,h4,⟨p,q,hp,hq,hc,h5⟩,h6⟩:=h;have:=x.size;exact⟨h1.no x,by omega,h3.ext x fun h=>h,h4.ext x fun h=>h,⟨p,q,hp,hq,hc,h5.ext x fun h=>h⟩,by rw[x.aw b4 (Array.getElem?_eq_some_iff.1 h6).1 fun h=>h];exact h6⟩
 have i8:Inv w8 zc:=⟨((x5.out x6 (by omega)).out x7 (by omega)).no n8.ext,by omega,((a15.ext x6 (by omega)).ext x7 (by omega)).ext n8.ext fun h=>h,(a26.ext x7 (by omega)).ext n8.ext fun h=>h,⟨0,0,⟨by decide,by decide⟩,⟨by decide,by decide⟩,by funext i;unfold cw;simp[zc],a37.ext n8.ext fun h=>h⟩,n8.get⟩
 let At:Int->Co:=fun t=>if t=0 then zc else if t=1 then Fz (co h0) zc al else Fz (co h0) (Fz (co h0) zc al) tl
 refine⟨fun m t u=>t=2 - (m:Int)/\m<=2/\Inv u (At t),⟨2,by omega,by omega,i8⟩,?_⟩;rintro _ m t w9 ⟨ht,hm,i9⟩;refine If.dec (fun h=>?_) fun h=>?_
 .refine Ix.arr (by omega) (by omega) ?_
  obtain⟨vv,vl,hv,hvr,hvB,hAt⟩ : ∃(vv:Sl) (vl:List Int),Cell w9 ⟨b4,t.toNat * 1,none⟩ vv.v/\aQ w.heap vv vl/\B8 vl/\At (t+1)=Fz (co h0) (At t) vl:=by
   have:t=0∨t=1:=by omega
   rcases this with e | e
   .subst e;exact⟨nO,al,Cell.af i9.2.2.2.2.2 rfl,ra,ba,rfl⟩
   .subst e;exact⟨text,tl,Cell.af i9.2.2.2.2.2 rfl,rt,bt,rfl⟩
  refine⟨vv,hv,fun m2 l1 u=>l1.len=m2/\∃c,Inv u c/\∃ll,aQ w.heap l1 ll/\B8 ll/\At (t+1)=Fz (co h0) c ll,⟨_,rfl,_,i9,vl,hvr,hvB,hAt⟩,?_⟩;rintro _ m2 l1 eK ⟨hm2,cc,i10,ll,rl,bl,hcc⟩
  refine If.dec (fun h2=>?_) fun h2=>Ar.i64 (by omega) ⟨m - 1,by omega,by omega,by omega,by
   have:ll=[]:=List.length_eq_zero_iff.1 (by have:=aQ.len rl;omega)
   rw[this,TC]at hcc;rw[hcc];exact i10⟩
  refine fun b5 eM DX=>?_
  have Sn:=DX.at_;have YI:=DX.size;have ahH:=i10.2.1;have i11:=no_ i10 DX.ext;have hll:ll.length=l1.len:=(aQ.len rl).symm;refine Cut.arr (by decide) (by decide) (by decide) (by decide) (HL (xs:=ll) (l:=List.replicate 16 0) DX.get (rl.no i11.1) (by simp;omega) fun gO a12 lJ=>?_)
  obtain⟨l12,afq,q12,hco⟩ : ∃l12,aA gO.heap b5 273 .u8 l12/\ia l12/\co l12=co ll:=by
   have afr:aA gO.heap b5 273 .u8 (ll.take (min l1.len 16)++(List.replicate 16 0).drop (min l1.len 16)):=by
    have:aA gO.heap b5 273 .u8 ((List.replicate 16 0).take 0++(ll.take (min l1.len 16)++(List.replicate 16 0).drop (0+min l1.len 16))):=a12;rw[Nat.zero_add]at this;exact this
   refine⟨_,afr,⟨by simp;omega,(bl.take _).append ((B8.vE 16).drop _)⟩,Tj fun i hi=>?_⟩;simp only[List.getD_eq_getElem?_getD];by_cases h3:i < ll.length
   .rw[List.getElem?_append_left (by simp;omega),List.getElem?_take_of_lt (by omega)]
   .have el:(ll.take (min l1.len 16)).length=ll.length:=by rw[List.length_take];omega
    have e2:(List.drop (min l1.len 16) (List.replicate 16 (0:Int)))[i - (ll.take (min l1.len 16)).length]? = some 0:=by rw[el,List.getElem?_drop,List.getElem?_replicate,if_pos (by omega)]
    have e3:ll[i]? = none:=List.getElem?_eq_none (by omega);rw[List.getElem?_append_right (by omega),e2,e3];rfl
  clear a12;have a12:=afq
  have i12:Inv gO cc:=by
   obtain⟨h1,h2,h3,h4,⟨p,q,hp,hq,hc,h5⟩,h6⟩:=i11;have:=lJ.size;have:=h1.size;have l4:=(Array.getElem?_eq_some_iff.1 i10.2.2.2.2.2).1;exact⟨h1.out lJ (by have:=i10.1.size;omega),by omega,h3.ext lJ (by omega),h4.ext lJ (by omega),⟨p,q,hp,hq,hc,h5.ext lJ (by omega)⟩,by rw[lJ.aw b4 (by omega) (by omega)];exact h6⟩
  have e16:(16 - 0:Int).toNat=16:=rfl
  refine rl.BQ (by omega) (by omega) (Int.le_refl _) fun s' CZ od=>⟨l12,q12.1,a12.row,PF q12 fun p q fV hp0 TD afs iY=>?_⟩
  refine fun b6 lR n14=>⟨rfl,aA.xT (l:=[0,0]) (l':=[p,q]) n14.get rfl fun mU acV ld=>?_⟩
  have i13:=no_ i12 iY;have s14:=n14.at_;have z14:=n14.size;have i14:=no_ i13 n14.ext
  have i15:Inv mU cc:=by
   obtain⟨h1,h2,h3,h4,⟨p,q,hp,hq,hc,h5⟩,h6⟩:=i14;have:=ld.size;have l4:=(Array.getElem?_eq_some_iff.1 i13.2.2.2.2.2).1;have:=i13.2.1;exact⟨h1.out ld (by have:=i13.1.size;omega),by omega,h3.ext ld (by omega),h4.ext ld (by omega),⟨p,q,hp,hq,hc,h5.ext ld (by omega)⟩,by rw[ld.aw b4 (by omega) (by omega)];exact h6⟩
  obtain⟨h1,h2,h3,h4,⟨p',q',Fy,hq',hc',h5⟩,h6⟩:=i15;refine⟨p',Cell.af h5 rfl,p,Cell.af acV rfl,Nm.as (eT Fy hp0) ⟨q',Cell.af h5 rfl,q,Cell.af acV rfl,Nm.as (eT hq' TD) ⟨r0,Cell.af h4 rfl,r1,Cell.af h4 rfl,Fx (uK Fy hp0) (uK hq' TD) hr0 hr1 fun p3 q3 iB hp3 hq3 aaF uy=>⟨rfl,?_⟩⟩⟩⟩
  have aft:((ll.drop ((min l1.len (16 - 0:Int).toNat:Nat):Int).toNat).take (((l1.len:Nat):Int) - ((min l1.len (16 - 0:Int).toNat:Nat):Int)).toNat)=ll.drop 16:=by
   rw[List.take_of_length_le (by simp;omega)];by_cases TE:l1.len<=16
   .rw[List.drop_eq_nil_of_le (by simp;omega),List.drop_eq_nil_of_le (by omega)]
   .congr 1;omega
  have YJ:aQ w.heap s' (ll.drop 16):=by
   have hs3:Rd w.heap s' 1 (List.map (Value.int .u8) ((ll.drop (((min l1.len (16 - 0:Int).toNat:Nat):Int).toNat * 1)).take ((((l1.len:Nat):Int) - ((min l1.len (16 - 0:Int).toNat:Nat):Int)).toNat * 1))):=CZ;rw[Nat.mul_one,Nat.mul_one,aft]at hs3;exact hs3
  refine aA.xT (l':=[p3,q3]) (h5.ext uy fun h=>h) rfl fun pJ a17 Eg=>⟨(((l1.len:Nat):Int) - ((min l1.len (16 - 0:Int).toNat:Nat):Int)).toNat,by omega,od,mu (xc cc (co ll)) (co h0),?_,_,YJ,bl.drop _,?_⟩
  .have l3:=h5.lt;have l4:=(Array.getElem?_eq_some_iff.1 h6).1;have:=uy.size;have:=Eg.size;exact⟨(h1.no uy).out Eg (by omega),by omega,(h3.ext uy fun h=>h).ext Eg (by omega),(h4.ext uy fun h=>h).ext Eg (by omega),⟨_,_,hp3,hq3,by rw[aaF,NN,hc',afs,hco,acU],a17⟩,by rw[Eg.aw b4 (by omega) (by omega),uy.aw b4 l4 fun h=>h];exact h6⟩
  .rw[hcc];exact QV _ _ (by omega)
 .obtain⟨h1,h2,h3,h4,⟨p,q,hp,hq,hc,h5⟩,h6⟩:=i9;have e8:8 * ((nO.len:Int)) % 18446744073709551616=((8 * al.length:Nat):Int):=by rw[<- aQ.len ra];omega
  have e9:8 * ((text.len:Int)) % 18446744073709551616=((8 * tl.length:Nat):Int):=by rw[<- aQ.len rt];omega
  have u8:lO ((8 * al.length:Nat):Int):=by have:=aQ.len ra;constructor <;> omega
  have u9:lO ((8 * tl.length:Nat):Int):=by have:=aQ.len rt;constructor <;> omega
  refine⟨p,Cell.af h5 rfl,Ar.u64 (by omega) (Ar.aah (Nm.as (by rw[e8];exact eT hp u8) ⟨q,Cell.af h5 rfl,Ar.u64 (by omega) (Ar.aah (Nm.as (by rw[e9];exact eT hq u9) ⟨r0,Cell.af h4 rfl,r1,Cell.af h4 rfl,Fx (uK hp u8) (uK hq u9) hr0 hr1 fun p3 q3 G1 hp3 hq3 aaF Nb=>Js hp3 hq3 fun AE So=>?_⟩))⟩))⟩
  have et:af (cw p3 q3)=af (Oj (co h0) al tl):=by
   rw[aaF,NN,hc,acU]
   have:At t=Fz (co h0) (Fz (co h0) zc al) tl:=by
    show(if t=0 then _ else if t=1 then _ else _)=_;rw[if_neg (by omega),if_neg (by omega)]
   rw[this];rfl
  rw[et];have Ol:(af (Oj (co h0) al tl)).length=16:=aT _ _;have x9:=(h1.no Nb).no So;refine⟨by rw[List.append_nil,List.length_map];exact Ol,((h3.ext Nb fun h=>h).ext So fun h=>h).xT (by rw[Ol];simp) fun HO a20 x20=>⟨_,Ol,a20.row,qm.mk Ol (k HO (x9.out x20 (by omega)))⟩⟩
end
section
variable {w w':Wd}
theorem aaG{X:Type}{b b1:Nat}{T:TypeId}{l z:List Int}{K:List Int->X}{F:X->Pw}(a:aA w.heap b T .u8 l)(a1:aA w.heap b1 T .u8 z)(hl:l.length=16)(hz:z.length=16)(k:∀w',Ext (·=b1) w w'->F (K l) w') :
  ∃l:List Int,l.length=16/\de (Cell w) (Addr.mk b 0 none) 0 .u8 l/\List.length (α:=Value) (List.map (Value.int .u8) l++[])=16/\bO w (Addr.mk b1 0 none) (List.map (Value.int .u8) l++[]) fun w5=>
   ∃l_1:List Int,l_1.length=16/\de (Cell w5) (Addr.mk b1 0 none) 0 .u8 l_1/\qm .u8 16 (List.map (Value.int .u8) l_1++[]) fun l_2 vs=>i_ [] vs (K l_2) fun Kv=>F Kv w5:=
 ⟨l,hl,a.row,by rw[List.append_nil,List.length_map];exact hl,a1.xT (by omega) fun w5 a5 x5=>⟨l,hl,a5.row,qm.mk hl (k w5 x5)⟩⟩
theorem aA.own{b base:Nat}{l:List Int}{n:Nat}(a:aA w.heap b 5 .u8 l)(hb:base<=b)(hn:l.length=n):aL w.heap base ⟨some ⟨b,0,none⟩,n,n⟩ l:=by
 subst hn;refine⟨by simp,.inr ⟨b,[],rfl,hb,?_,by simp,Nat.le_refl _⟩,df⟩;rw[List.append_nil];exact a
def nw(nl:List Int):List Int:=nl++[0,0,0,1]
theorem BV{nl:List Int}(h:nl.length=12)(hB:B8 nl):ia (nw nl):=⟨by simp[nw,h],hB.append fun x hx=>by simp at hx;omega⟩
theorem CB{aU:Sl}{nl:List Int}{K:List Int->Int->Pw}(hn:aQ w.heap aU nl)(hB:B8 nl)(hl:aU.len=12)(k:∀w',Ext No w w'->K (nw nl) 0 w'):pV aU w K:=by
 apply Lq;refine fun b w1 n1=>If.bne (fun h=>absurd (by rw[hl];rfl) h) fun _ b1 w2 n2=>?_
 have s1:=n1.at_;have s2:=n2.at_;have z1:=n1.size;have x2:Ext No w w2:=n1.ext.no n2.ext;have Gd:nl.length=12:=by have:=aQ.len hn;omega
 have a0:aA w2.heap b 273 .u8 (List.replicate 16 0):=(show aA w1.heap b 273 .u8 (List.replicate 16 0) from n1.get).ext n2.ext fun h=>h
 have a1:aA w2.heap b1 273 .u8 (List.replicate 16 0):=n2.get;have em:min aU.len ((16:Nat) - 0:Int).toNat=12:=by rw[hl];rfl
 refine Cut.arr (by decide) (by decide) (by decide) (by decide) (HL (xs:=nl) a1 (hn.no x2) (by rw[hl];decide) fun w5 a5 x5=>⟨by decide,by decide,?_⟩)
 have YK:aA w5.heap b1 273 .u8 (nl++[0,0,0,0]):=by
  have:aA w5.heap b1 273 .u8 ((List.replicate 16 0).take 0++(nl.take (min aU.len ((16:Nat) - 0:Int).toNat)++(List.replicate 16 0).drop (0+min aU.len ((16:Nat) - 0:Int).toNat))):=a5;rw[em,List.take_of_length_le (l:=nl) (by omega)]at this;exact this
 refine YK.st (by decide) (by simp[Gd]) fun w6 a6 x6=>?_
 have e6:(nl++[0,0,0,0]).set (15:Int).toNat 1=nw nl:=by
  show(nl++[0,0,0,0]).set 15 1=_;rw[List.set_append_right _ _ (by omega),Gd];rfl
 rw[e6]at a6;have q6:=BV Gd hB;exact aaG (X:=Int->Pw) (F:=fun Kv w=>Kv 0 w) a6 ((a0.ext x5 (by omega)).ext x6 (by omega)) q6.1 (by simp) fun w7 x7=>k w7 (((x2.out x5 (by omega)).out x6 (by omega)).out x7 (by omega))
def tf(nl:List Int)(j:Nat):List Int:=nl++be 4 (j:Int)
theorem wq{nl:List Int}{j:Nat}(h:nl.length=12)(hB:B8 nl):ia (tf nl j):=⟨by unfold tf;rw[List.length_append,aK,h],hB.append (cv _ _)⟩
theorem QW{nl:List Int}{j:Nat}{K:List Int->Pw}(hl:nl.length=12)(hB:B8 nl)(hj:j<=1000000)(k:∀w',Ext No w w'->K (tf nl (j+1)) w'):yc (tf nl j) w K:=by
 apply NZ;refine fun b w1 n1 b1 w2 n2=>?_
 have s1:=n1.at_;have s2:=n2.at_;have z1:=n1.size;have z2:=n2.size;have x2:Ext No w w2:=n1.ext.no n2.ext;have q:=wq (j:=j) hl hB;have a0:aA w2.heap b 273 .u8 (tf nl j):=(aA.new n1).ext n2.ext fun h=>h
 have a1:aA w2.heap b1 273 .u8 (List.replicate 16 0):=n2.get
 have e4:((tf nl j).drop 12).take 4=be 4 (j:Int):=by
  unfold tf;rw[List.drop_append_of_le_length (by omega),List.drop_eq_nil_of_le (by omega),List.nil_append,List.take_of_length_le (by rw[aK];omega)]
 have en:num (be 4 (j:Int))=(j:Int):=jQ 4 (by omega) (by omega);refine Cut.arr (by decide) (by decide) (by decide) (by decide) (mW (l:=be 4 (j:Int)) (by rw[<- e4];exact a0.rd (o:=12) (n:=4) (c:=4) (by rw[q.1];decide) (by decide)) (cv _ _) (by rw[aK];decide) (by rw[aK];decide) ?_);rw[en];refine Ar.u64 (by omega) (Ar.u32 (by omega) (Ar.u64 (by omega) (jl (by omega) (by decide) (by decide) (by show _ < (256:Int) ^ 4;omega) fun s w4 o4 x4=>?_)));have hs:s.len=4:=by have:=aL.len o4;rw[aK]at this;exact this
 have Na:=x2.size;have Ts:=x4.size;refine Cut.arr (by decide) (by decide) (by decide) (by decide) (HL (xs:=be 4 ((j:Int)+1)) (a0.ext x4 fun h=>h) o4.rd (by rw[hs,q.1];decide) fun w5 a5 x5=>?_)
 have e5:(tf nl j).take 12++((be 4 ((j:Int)+1)).take 4++(tf nl j).drop (12+4))=tf nl (j+1):=by
  rw[List.take_of_length_le (l:=be 4 _) (by rw[aK];omega),List.drop_eq_nil_of_le (by rw[q.1];omega),List.append_nil];unfold tf;rw[List.take_append_of_le_length (by omega),List.take_of_length_le (by omega)];rfl
 have YK:aA w5.heap b 273 .u8 ((tf nl j).take 12++((be 4 ((j:Int)+1)).take (min s.len ((16:Nat) - 12:Int).toNat)++(tf nl j).drop (12+min s.len ((16:Nat) - 12:Int).toNat))):=a5;rw[show min s.len ((16:Nat) - 12:Int).toNat=4 by rw[hs];rfl,e5]at YK;exact HK YK ((a1.ext x4 fun h=>h).ext x5 (by omega)) (wq hl hB).1 (by simp) fun w6 x6=>k w6 (((x2.no x4).out x5 (by omega)).out x6 (by omega))
def ksB(kl nl:List Int)(i:Nat):Int:=(encB kl (tf nl (2+i / 16))).getD (i % 16) 0
structure WX(u:Wd)(b b1 b2 b3 cb:Nat)(kl nl:List Int)(i:Nat):Prop where
 c:u.heap[b]? = some (.cells [Value.pointer (some ⟨cb,0,none⟩)].toArray 270 (0,0))
 ctr:aA u.heap b1 273 .u8 (tf nl (1+(i+15) / 16))
 aw:∃l,ia l/\aA u.heap b2 273 .u8 l/\(i % 16≠0->l=encB kl (tf nl (1+(i+15) / 16)))
 at_:aA u.heap b3 3 .i64 [if i % 16=0 then 16 else((i % 16:Nat):Int)]
 cip:Fu u cb kl
 ne:b≠b1/\b≠b2/\b≠b3/\b1≠b2/\b1≠b3/\b2≠b3
abbrev QX(b1 b2 b3:Nat)(i:Nat):Prop:=i=b1∨i=b2∨i=b3
theorem Jt{b b1 b2 b3 cb:Nat}{w0:Wd}{kl nl:List Int}{i:Nat}{K:Int->Pw}(h:WX w b b1 b2 b3 cb kl nl i)(hl:nl.length=12)(hB:B8 nl)(jj:B8 kl)(hi:i<=100000)(x0:Ext No w0 w)(hc:Fu w0 cb kl)(h1:w0.heap.size<=b1)(h2:w0.heap.size<=b2)(h3:w0.heap.size<=b3)
  (k:∀w',WX w' b b1 b2 b3 cb kl nl (i+1)->Ext No w0 w'->Ext (QX b1 b2 b3) w w'->K (ksB kl nl i) w'):oV ⟨b3,0,none⟩ ⟨b1,0,none⟩ ⟨b,0,none⟩ ⟨b2,0,none⟩ w K:=by
 apply E5;have hq:=ju (b:=tf nl (2+i / 16)) jj (wq hl hB).2;have e1':1+(i+1+15) / 16=2+i / 16:=by omega
 refine⟨fun u=>Ext No w0 u/\Ext (QX b1 b2 b3) w u/\u.heap[b]? = some (.cells [Value.pointer (some ⟨cb,0,none⟩)].toArray 270 (0,0))/\aA u.heap b1 273 .u8 (tf nl (2+i / 16))/\aA u.heap b2 273 .u8 (encB kl (tf nl (2+i / 16)))/\aA u.heap b3 3 .i64 [((i % 16:Nat):Int)],?_,?_⟩
 .obtain⟨e1,e2,e3,e4,e5,e6⟩:=h.ne;refine⟨_,Cell.af h.at_ rfl,If.beq (fun hk=>?_) fun du=>?_⟩
  .have hm:i % 16=0:=by
    by_cases h0:i % 16=0
    .exact h0
    .rw[if_neg h0]at hk;omega
   obtain⟨m,hm',am,_⟩:=h.aw;have ec:1+(i+15) / 16+1=2+i / 16:=by omega
   have qc:=wq (j:=1+(i+15) / 16) hl hB;refine⟨_,qc.1,h.ctr.row,QW hl hB (by omega) fun w1 x1=>?_⟩;rw[ec];have qn:=wq (j:=2+i / 16) hl hB;refine⟨by rw[List.append_nil,List.length_map];exact qn.1,(h.ctr.ext x1 fun h=>h).xT (by rw[qn.1,qc.1]) fun w2 a2 x2=>?_⟩;have c1:w1.heap[b]? = _:=(x1.aw b (Array.getElem?_eq_some_iff.1 h.c).1 fun h=>h).trans h.c;have c2:w2.heap[b]? = _:=(x2.aw b (Array.getElem?_eq_some_iff.1 c1).1 e1).trans c1;have vJ:Ext No w0 w2:=(x0.no x1).out x2 h1;have y2:Ext (QX b1 b2 b3) w w2:=(x1.az (S:=QX b1 b2 b3)).trans x2 fun i _ e=> .inl e
   refine⟨some ⟨cb,0,none⟩,Cell.af c2 rfl,_,qn.1,a2.row,jk (hc.no vJ) qn fun w3 x3=>⟨by rw[List.append_nil,List.length_map];exact hq.1,?_⟩⟩;have am3:=((am.ext x1 fun h=>h).ext x2 (Ne.symm e4)).ext x3 fun h=>h
   refine am3.xT (by rw[hq.1,hm'.1]) fun w4 a4 x4=>?_
   have ai4:=(((h.at_.ext x1 fun h=>h).ext x2 (Ne.symm e5)).ext x3 fun h=>h).ext x4 (Ne.symm e6);refine aA.Tg (o:=0) ai4 (by simp) fun w5 a5 x5=>?_
   have c3:w3.heap[b]? = _:=(x3.aw b (Array.getElem?_eq_some_iff.1 c2).1 fun h=>h).trans c2;have c4:w4.heap[b]? = _:=(x4.aw b (Array.getElem?_eq_some_iff.1 c3).1 e2).trans c3;have c5:w5.heap[b]? = _:=(x5.aw b (Array.getElem?_eq_some_iff.1 c4).1 e3).trans c4;have nI:Ext No w0 w5:=((vJ.no x3).out x4 h2).out x5 h3;have y5:Ext (QX b1 b2 b3) w w5:=((y2.trans (x3.az (S:=QX b1 b2 b3)) fun i _ e=>e).trans x4 fun i _ e=> .inr (.inl e)).trans x5 fun i _ e=> .inr (.inr e)
   exact⟨nI,y5,c5,((a2.ext x3 fun h=>h).ext x4 e4).ext x5 e5,a4.ext x5 e6,by rw[hm];exact a5⟩
  .have hm:i % 16≠0:=fun h0=>du (if_pos h0)
   obtain⟨m,hm',am,hme⟩:=h.aw;have ec:1+(i+15) / 16=2+i / 16:=by omega
   have ha:=h.at_;have hcc:=h.ctr;rw[hme hm]at am;rw[ec]at am hcc;rw[if_neg hm]at ha;exact⟨x0,Ext.refl _ _,h.c,hcc,am,ha⟩
 .rintro _ w6 ⟨x6,y6,c6,al,am,ai⟩;obtain⟨e1,e2,e3,e4,e5,e6⟩:=h.ne;refine⟨_,Cell.af ai rfl,Ar.i64 (by omega) (aA.Tg (o:=0) ai (by simp) fun w7 a7 x7=>⟨_,Cell.af a7 rfl,Ar.i64 (by omega) ⟨by omega,by omega,?_⟩⟩)⟩;have am7:=am.ext x7 e6;have cM:=am7.cell (t:=((i % 16:Nat):Int)+1 - 1) (by omega) (by rw[hq.1];omega);rw[show(((i % 16:Nat):Int)+1 - 1).toNat=i % 16 by omega]at cM;refine⟨_,by rw[show(((i % 16:Nat):Int)+1 - 1).toNat=i % 16 by omega];exact cM,k w7 ?_ (x6.out x7 h3) (y6.trans x7 fun i _ e=> .inr (.inr e))⟩;have c7:w7.heap[b]? = _:=(x7.aw b (Array.getElem?_eq_some_iff.1 c6).1 e3).trans c6;refine⟨c7,by rw[e1'];exact al.ext x7 e5,⟨_,hq,am7,fun _=>by rw[e1']⟩,?_,hc.no (x6.out x7 h3),h.ne⟩;have e:(if (i+1) % 16=0 then(16:Int) else(((i+1) % 16:Nat):Int))=((i % 16:Nat):Int)+1:=by split <;> omega
  rw[e];exact a7
end
end Go.Proofs.YtiigcapldngijaaGreat
namespace Go.V
theorem WY{a b:Int}(ha:By a)(hb:By b):xr a b=0 ↔ a=b:=by
 unfold xr;constructor
 .intro h;have h0:a.toNat ^^^ b.toNat=0:=by omega
  have h1:a.toNat=b.toNat:=Nat.eq_of_testBit_eq fun i=>by
   have h2:(a.toNat.testBit i ^^ b.toNat.testBit i)=false:=by rw[<- Nat.testBit_xor,h0,Nat.zero_testBit]
   revert h2;cases a.toNat.testBit i <;> cases b.toNat.testBit i <;> decide
  omega
 .rintro rfl;simp
end Go.V
namespace Go.Proofs.YtiigcapldngijaaGreat
open Go.V
section
variable {w w':Wd}
def iU(kl nl tl:List Int):List Int:=tab tl.length fun i=>xr (tl.getD i 0) (ksB kl nl i)
theorem zi(kl nl tl:List Int):(iU kl nl tl).length=tl.length:=aT _ _
theorem TF{kl nl:List Int}(hk:B8 kl)(hl:nl.length=12)(hB:B8 nl)(i:Nat):By (ksB kl nl i):=(ju hk (wq hl hB).2).2.get _
theorem BW{kl nl tl:List Int}(hk:B8 kl)(hl:nl.length=12)(hB:B8 nl)(ht:B8 tl):B8 (iU kl nl tl):=Iv fun i _=>lP (ht.get i) (TF hk hl hB i)
theorem acW{a b:Int}(ha:By a):xr (xr a b) b=a:=by
 unfold xr;rw[Int.toNat_natCast,Nat.xor_assoc,Nat.xor_self,Nat.xor_zero];exact Int.toNat_of_nonneg ha.1
theorem LX{kl nl tl:List Int}(ht:B8 tl):iU kl nl (iU kl nl tl)=tl:=by
 unfold iU;rw[aT];refine(dz fun i hi=>?_).trans (zS rfl).symm;rw[gj hi];exact acW (ht.get i)
theorem FA{key aU text:Sl}{kl nl tl:List Int}{K:Sl->Int->Pw}(hk:aQ w.heap key kl)(jj:B8 kl)(hlen:key.len=16∨key.len=32)(hn:aQ w.heap aU nl)(FB:B8 nl)(Gd:aU.len=12)(ht:aQ w.heap text tl)(htB:B8 tl)(htl:text.len<=65536)
  (k:∀b w',aA w'.heap b 5 .u8 (iU kl nl tl)->w.heap.size<=b->Ext No w w'->K ⟨some ⟨b,0,none⟩,text.len,text.len⟩ 0 w'):pT key aU text w K:=by
 apply Lu;have Om:nl.length=12:=by have:=aQ.len hn;omega
 have hr:ia (nw nl):=BV Om FB
 refine oc hk jj hlen fun cb w1 hc hcb x1=>If.bne (fun h=>absurd rfl h) fun _=>CB (hn.no x1) FB Gd fun w2 x2 b w3 n3=>⟨by rw[List.append_nil,List.length_map];exact hr.1,?_⟩
 have s3:=n3.at_;have z3:=n3.size;have Yx:=x1.size;have Na:=x2.size;have x3:Ext No w w3:=(x1.no x2).no n3.ext
 refine aA.xT (l:=List.replicate 16 0) n3.get (by rw[hr.1];simp) fun w4 a4 x4=>If.bne (fun h=>absurd rfl h) fun _=>If.dec (fun h=>by omega) fun _=>⟨_,hr.1,a4.row,?_⟩
 have TG:Ext No w w4:=x3.out x4 (by omega);have y4:Ext No w1 w4:=(x2.no n3.ext).out x4 (by omega);apply IW;refine fun b0 w5 n5 b1 w6 n6 b2 w7 n7 b3 w8 n8=>?_
 have s5:=n5.at_;have s6:=n6.at_;have s7:=n7.at_;have s8:=n8.at_;have z5:=n5.size;have z6:=n6.size;have z7:=n7.size;have z8:=n8.size;have Ts:=TG.size;have acX:=y4.size;have a8:aA w8.heap b3 3 .i64 [0]:=n8.get;refine a8.Tg (o:=0) (by simp) fun w9 a9 x9=>?_
 have y8:Ext No w4 w8:=((n5.ext.no n6.ext).no n7.ext).no n8.ext;have y9:Ext No w4 w9:=y8.out x9 (by omega);have c5:w5.heap[b0]? = some (.cells [Value.pointer (some ⟨cb,0,none⟩)].toArray 270 (0,0)):=n5.get;have mv:∀{i:Nat}{o:Obj}{u u':Wd}{S:Nat->Prop},u.heap[i]? = some o->Ext S u u'->¬ S i->u'.heap[i]? = some o:=fun {i o u u' S} h x hs=>(x.aw i (Array.getElem?_eq_some_iff.1 h).1 hs).trans h
 have c9:=mv (mv (mv (mv c5 n6.ext fun h=>h) n7.ext fun h=>h) n8.ext fun h=>h) x9 (by omega);have b19:aA w9.heap b1 273 .u8 (nw nl):=(((aA.new n6).ext n7.ext fun h=>h).ext n8.ext fun h=>h).ext x9 (by omega);have b29:aA w9.heap b2 273 .u8 (List.replicate 16 0):=((show aA w7.heap b2 273 .u8 (List.replicate 16 0) from n7.get).ext n8.ext fun h=>h).ext x9 (by omega);have aaH:Ext No w1 w9:=y4.no y9;refine xO.arr (sz:=1) (k:= .u8) (n:=text.len) rfl rfl (by omega) (by omega) fun bs eK a10 hbs dQ ahI=>?_
 have lt9:=aaH.size;have ahJ:=a9.lt
 have afu:WX eK b0 b1 b2 b3 cb kl nl 0:=⟨mv c9 dQ fun h=>h,b19.ext dQ fun h=>h,⟨_,⟨by simp,B8.vE _⟩,b29.ext dQ fun h=>h,fun h=>absurd rfl h⟩,(show aA w9.heap b3 3 .i64 [16] from a9).ext dQ fun h=>h,(hc.no aaH).no dQ,by omega⟩
 have aaI:tl.length=text.len:=(aQ.len ht).symm
 let g:Nat->Nat->Int:=fun t i=>if i < t then xr (tl.getD i 0) (ksB kl nl i) else 0
 have e0:tab text.len (g 0)=List.replicate (text.len * 1) 0:=mK (by rw[aT];simp) fun i hi=>by
  rw[aT]at hi;rw[gj hi];show(if i < 0 then _ else _)=_;rw[if_neg (by omega)];simp[List.getD_eq_getElem?_getD,List.getElem?_replicate];split <;> simp
 rw[<- e0]at a10;refine⟨fun m t u=>∃i:Nat,t=(i:Int)/\i<=text.len/\m=text.len - i/\Ext No w1 u/\WX u b0 b1 b2 b3 cb kl nl i/\aA u.heap bs 5 .u8 (tab text.len (g i)),⟨text.len,0,rfl,Nat.zero_le _,rfl,aaH.no dQ,afu,a10⟩,?_⟩;rintro _ m t eM ⟨i,rfl,hi,rfl,nH,afv,al⟩;refine If.dec (fun h=>?_) fun h=>?_
 rotate_left
 .have:i=text.len:=by omega
  subst this
  have e:tab text.len (g text.len)=iU kl nl tl:=by
   unfold iU;rw[aaI];exact dz fun i hi=>by show(if _ then _ else _)=_;rw[if_pos hi]
  rw[e]at al;exact k bs eM al (by omega) (x1.no nH)
 have kb:=TF jj Om FB i
 refine Ix.int (ht.no (x1.no nH)) (by omega) (by omega) fun tb to _ cM=>⟨_,cM,E6 (Jt afv Om FB jj (by omega) nH hc (by omega) (by omega) (by omega) fun gO TH lJ y12=>Nm.as (bY (htB.get _) kb) (Ix.arr (by omega) (by omega) ?_))⟩
 have afw:=al.ext y12 (by rintro(e | e | e) <;> omega);refine aA.Tg (o:=((i:Nat):Int).toNat * 1) afw (by rw[aT];omega) fun fV WN iY=>Ar.i64 (by omega) ⟨text.len - (i+1),by omega,i+1,by omega,by omega,rfl,lJ.out iY (by omega),?_,?_⟩
 .have TI:Ext (fun i=>i=bs) gO fV:=iY;obtain⟨l,SM,Oe,hl3⟩:=TH.aw;exact⟨mv TH.c TI (by omega),TH.ctr.ext TI (by omega),⟨l,SM,Oe.ext TI (by omega),hl3⟩,TH.at_.ext TI (by omega),hc.no (lJ.out TI (by omega)),TH.ne⟩
 .rw[Nat.mul_one,Int.toNat_natCast,wi (g:=g (i+1))]at WN
  .exact WN
  .intro j _;show(if _ then _ else if _ then _ else _)=if _ then _ else _
   by_cases hj:j=i
   .rw[if_pos hj,if_pos (by omega),hj]
   .rw[if_neg hj];by_cases h2:j < i
    .rw[if_pos h2,if_pos (by omega)]
    .rw[if_neg h2,if_neg (by omega)]
theorem TJ{a b:Sl}{al bl:List Int}{K:Sl->Int->Pw}(ra:aQ w.heap a al)(rb:aQ w.heap b bl)(hA:B8 al)(hBb:B8 bl)(hl:a.len=b.len)(hm:a.len<=65536)(k:∀s w',aL w'.heap w.heap.size s (tab al.length fun i=>xr (al.getD i 0) (bl.getD i 0))->Ext No w w'->K s 0 w'):va a b w K:=by
 apply Lt;refine If.bne (fun h=>absurd (by rw[hl]) h) fun _=>?_
 have Sm:al.length=a.len:=(aQ.len ra).symm;refine xO.arr (sz:=1) (k:= .u8) (n:=a.len) rfl rfl (by omega) (by omega) fun bs w1 a1 hbs x1 Qs=>?_
 let g:Nat->Nat->Int:=fun t i=>if i < t then xr (al.getD i 0) (bl.getD i 0) else 0
 have e0:tab a.len (g 0)=List.replicate (a.len * 1) 0:=mK (by rw[aT];simp) fun i hi=>by
  rw[aT]at hi;rw[gj hi];show(if i < 0 then _ else _)=_;rw[if_neg (by omega)];simp[List.getD_eq_getElem?_getD,List.getElem?_replicate];split <;> simp
 rw[<- e0]at a1;refine⟨fun m t u=>t=(a.len:Int) - m/\m<=a.len/\Ext No w u/\aA u.heap bs 5 .u8 (tab a.len (g t.toNat)),⟨a.len,by omega,Nat.le_refl _,x1,a1⟩,?_⟩;rintro _ m t w2 ⟨htm,hm2,x2,al2⟩;refine If.dec (fun h=>?_) fun h=>?_
 rotate_left
 .have e:tab a.len (g t.toNat)=tab al.length fun i=>xr (al.getD i 0) (bl.getD i 0):=by
   rw[Sm];exact dz fun i hi=>by show(if _ then _ else _)=_;rw[if_pos (by omega)]
  rw[e]at al2;exact k _ w2 (aA.own al2 (by omega) (by rw[aT];exact Sm)) x2
 refine⟨Ext (·=bs) w2,(Ext.refl _ _).drew,Ix.int (ra.no x2) (by omega) (by omega) fun ab ao hab PG=>⟨al.getD t.toNat 0,?_,Ix.int (rb.no x2) (by omega) (by omega) fun bb bo Sg hbc=>⟨bl.getD t.toNat 0,?_,Nm.as (bY (hA.get _) (hBb.get _)) (Ix.arr (by omega) (by omega) ?_)⟩⟩⟩
 .have du:al.map (Value.int .u8)≠[]:=fun e=>by have:=congrArg List.length e;simp at this;subst this;simp at Sm;omega
  exact aj.aF PG (by have:=ra.lt du hab;omega)
 .have DW:bl.length=b.len:=(aQ.len rb).symm;have du:bl.map (Value.int .u8)≠[]:=fun e=>by have:=congrArg List.length e;simp at this;subst this;simp at DW;omega
  exact aj.aF hbc (by have:=rb.lt du Sg;omega)
 .have afx:aA (ae w2).heap bs 5 .u8 (tab a.len (g t.toNat)):=al2;refine aA.Tg (o:=t.toNat * 1) afx (by rw[aT];omega) fun w3 a3 x3=>?_
  have TK:Ext (fun i=>i=bs) (ae w2) w3:=x3;refine⟨TK.an,Ar.i64 (by omega) ⟨m - 1,by omega,by omega,by omega,x2.drew.out TK (by omega),?_⟩⟩;rw[Nat.mul_one,wi (g:=g (t+1).toNat)]at a3
  .exact a3
  .intro j _;show(if _ then _ else if _ then _ else _)=if _ then _ else _
   by_cases hj:j=t.toNat
   .rw[if_pos hj,if_pos (by omega),hj]
   .rw[if_neg hj];by_cases h2:j < t.toNat
    .rw[if_pos h2,if_pos (by omega)]
    .rw[if_neg h2,if_neg (by omega)]
theorem aaJ:Sem.run pz (Instr.build 273 #[]) w = .ok (.agg (List.map (Value.int .u8) (List.replicate 16 0)++[]).toArray) w:=by kernel_rfl
def tagL(kl nl al bl:List Int):List Int:=Da (af (Oj (co (encB kl (List.replicate 16 0))) al bl)) (encB kl (nw nl)) 0
theorem Eh{kl nl al bl:List Int}(hk:B8 kl)(hn:B8 nl):ia (tagL kl nl al bl):=wj (Th _) (ju hk (hn.append fun x hx=>by simp at hx;omega)).2 0
theorem HP{key aU nO b:Sl}{kl nl al bl:List Int}{K:Sl->Int->Pw}(hk:aQ w.heap key kl)(jj:B8 kl)(hlen:key.len=16∨key.len=32)(hn:aQ w.heap aU nl)(FB:B8 nl)(Gd:aU.len=12)(ra:aQ w.heap nO al)(ba:B8 al)(rb:aQ w.heap b bl)(bb:B8 bl)(Sm:nO.len<=65536)(DW:b.len<=65536)
  (k:∀s w',aL w'.heap w.heap.size s (tagL kl nl al bl)->Ext No w w'->K s 0 w'):wm key aU nO b w K:=by
 apply QJ;have hr:ia (nw nl):=BV (by have:=aQ.len hn;omega) FB
 refine oc hk jj hlen fun cb w1 hc hcb x1=>If.bne (fun h=>absurd rfl h) fun _=>CB (hn.no x1) FB Gd fun w2 x2 b1 w3 n3=>⟨by rw[List.append_nil,List.length_map];exact hr.1,?_⟩
 have s3:=n3.at_;have z3:=n3.size;have Yx:=x1.size;have Na:=x2.size;have x3:Ext No w w3:=(x1.no x2).no n3.ext
 refine aA.xT (l:=List.replicate 16 0) n3.get (by rw[hr.1];simp) fun w4 a4 x4=>If.bne (fun h=>absurd rfl h) fun _=>⟨List.replicate 16 0,by simp,w4,aaJ,?_⟩
 have TG:Ext No w w4:=x3.out x4 (by omega);have y4:Ext No w1 w4:=(x2.no n3.ext).out x4 (by omega);have hh:ia (encB kl (List.replicate 16 0)):=ju jj (B8.vE _);have Sk:ia (encB kl (nw nl)):=ju jj hr.2
 refine jk (hc.no y4) ⟨by simp,B8.vE _⟩ fun w6 x6 b2 w7 n7=>⟨by rw[List.append_nil,List.length_map];exact hh.1,aA.xT (l:=List.replicate 16 0) n7.get (by rw[hh.1];simp) fun w8 a8 x8=>⟨_,hr.1,?_,?_⟩⟩
 .exact(((a4.ext x6 fun h=>h).ext n7.ext fun h=>h).ext x8 (by have:=x6.size;have:=a4.lt;have:=n7.at_;omega)).row
 have s7:=n7.at_;have z7:=n7.size;have Ts:=TG.size;have lt6:=x6.size;have afb:=a4.lt;have y8:Ext No w4 w8:=(x6.no n7.ext).out x8 (by omega);have lt8:=y8.size
 refine jk (hc.no (y4.no y8)) hr fun w9 x9 b3 eK ke=>⟨by rw[List.append_nil,List.length_map];exact Sk.1,aA.xT (l:=List.replicate 16 0) ke.get (by rw[Sk.1];simp) fun eM a11 nH=>?_⟩
 have WZ:=ke.at_;have Sq:=ke.size;have lt9:=x9.size;have ahK:=a8.lt;have W0:Ext No w8 eM:=(x9.no ke.ext).out nH (by omega);have aaK:Ext No w eM:=(TG.no y8).no W0
 have hq:ia (af (Oj (co (encB kl (List.replicate 16 0))) al bl)):=⟨aT _ _,Th _⟩
 refine⟨_,hh.1,(((a8.ext x9 fun h=>h).ext ke.ext fun h=>h).ext nH (by omega)).row,Ok hh (ra.no aaK) (rb.no aaK) ba bb (by omega) (by omega) fun gO lJ b4 fV Ju=>⟨by rw[List.append_nil,List.length_map];exact hq.1,aA.xT (l:=List.replicate 16 0) Ju.get (by rw[hq.1];simp) fun lR a14 iT=>?_⟩⟩;have s13:=Ju.at_;have W3:=Ju.size;have ahL:=W0.size;have ahM:=lJ.size;have ahN:=a11.lt;have y14:Ext No eM lR:=(lJ.no Ju.ext).out iT (by omega);have afy:aA lR.heap b3 273 .u8 (encB kl (nw nl)):=((a11.ext lJ fun h=>h).ext Ju.ext fun h=>h).ext iT (by omega);refine⟨fun _=>True,trivial,Cut.arr (by decide) (by decide) (by decide) (by decide) (Cut.arr (by decide) (by decide) (by decide) (by decide) ?_)⟩;have ad:aA (ae lR).heap b4 273 .u8 (af (Oj (co (encB kl (List.replicate 16 0))) al bl)):=a14;have ad3:aA (ae lR).heap b3 273 .u8 (encB kl (nw nl)):=afy;have TL:Ext No w lR:=aaK.no y14;have acX:=TL.size;unfold tagL at k;generalize af (Oj (co (encB kl (List.replicate 16 0))) al bl)=q at *;generalize encB kl (nw nl)=msk at *;have afz:(q.drop 0).take 16=q:=by rw[List.drop_zero,List.take_of_length_le (by rw[hq.1];omega)]
 have afA:(msk.drop 0).take 16=msk:=by rw[List.drop_zero,List.take_of_length_le (by rw[Sk.1];omega)]
 have r1:=ad.rd (o:=0) (n:=16) (c:=16) (by rw[hq.1];decide) (by decide);have r3:=ad3.rd (o:=0) (n:=16) (c:=16) (by rw[Sk.1];decide) (by decide);rw[afz]at r1;rw[afA]at r3
 refine TJ r1 r3 hq.2 Sk.2 rfl (by show 16<=65536;omega) fun s mU o15 ld=>⟨trivial,k s mU ?_ (TL.no ld.an)⟩
 have e:(tab q.length fun i=>xr (q.getD i 0) (msk.getD i 0))=Da q msk 0:=by
  rw[hq.1];exact dz fun i _=>by rw[show 16 * 0+i=i by omega]
 rw[e]at o15;exact o15.mono acX
theorem FC{key aU:Sl}{K:Int->Pw}(hlen:key.len=16∨key.len=32)(Gd:aU.len=12)(k:K 0 w):pS key aU w K:=by
 apply Lp;exact If.bne (fun h=>If.bne (fun h2=>by omega) fun _=>If.bne (fun h=>by omega) fun _=>k) fun _=>If.bne (fun h=>by omega) fun _=>k
def gcmL(kl nl al tl:List Int):List Int:=iU kl nl tl++tagL kl nl al (iU kl nl tl)
theorem vK{kl nl al tl:List Int}(hk:B8 kl)(FB:B8 nl):(gcmL kl nl al tl).length=tl.length+16:=by unfold gcmL;rw[List.length_append,zi,(Eh hk FB).1]
theorem PH{kl nl al tl:List Int}(hk:B8 kl)(hl:nl.length=12)(FB:B8 nl)(ht:B8 tl):B8 (gcmL kl nl al tl):=(BW hk hl FB ht).append (Eh hk FB).2
theorem AF{key aU nO text:Sl}{kl nl al tl:List Int}{K:Sl->Int->Pw}(hk:aQ w.heap key kl)(jj:B8 kl)(hlen:key.len=16∨key.len=32)(hn:aQ w.heap aU nl)(FB:B8 nl)(Gd:aU.len=12)(ra:aQ w.heap nO al)(ba:B8 al)(Sm:nO.len<=65536)(ht:aQ w.heap text tl)(htB:B8 tl)(htl:text.len<=65536)(ht1:1<=text.len)
  (k:∀s w',aL w'.heap w.heap.size s (gcmL kl nl al tl)->Ext No w w'->K s 0 w'):sq key aU nO text w K:=by
 apply Oa;have Om:nl.length=12:=by have:=aQ.len hn;omega
 have aaI:tl.length=text.len:=(aQ.len ht).symm;refine FC hlen Gd (If.bne (fun h=>absurd rfl h) fun _=>⟨fun u=>u=w,If.dec (fun h=>by omega) fun _=>If.dec (fun h=>by omega) fun _=>rfl,?_⟩);rintro _ w2 rfl;refine FA hk jj hlen hn FB Gd ht htB htl fun b w3 a3 w_ x3=>If.bne (fun h=>absurd rfl h) fun _=>?_
 have hB3:=BW jj Om FB htB;have hl3:(iU kl nl tl).length=text.len:=by rw[zi];exact aaI
 have o3:aL w3.heap w2.heap.size ⟨some ⟨b,0,none⟩,text.len,text.len⟩ (iU kl nl tl):=aA.own a3 w_ hl3;refine HP (hk.no x3) jj hlen (hn.no x3) FB Gd (ra.no x3) ba o3.rd hB3 Sm htl fun s4 w4 o4 x4=>?_
 refine Cut.arr (by decide) (by show(0:Int)<=(text.len:Int);omega) (Int.le_refl _) (by show(0:Int) < (text.len:Int);omega) ?_
 have o34:aL w4.heap w2.heap.size ⟨some ⟨b,(0:Int).toNat,none⟩,((text.len:Int) - 0).toNat,((text.len:Int) - 0).toNat⟩ (iU kl nl tl):=by
  have e:((text.len:Int) - 0).toNat=text.len:=by omega
  rw[e];exact o3.no x4
 have YL:s4.len=16:=by rw[aL.len o4];exact(Eh jj FB).1
 have Yy:=x3.size;have Ts:=x4.size;refine dj o34 (by omega) o4.rd.src (by show(((text.len:Int) - 0).toNat+s4.len) * 1<=_;omega) fun s5 w5 o5 _ x5 _=>?_
 rw[<- List.map_append]at o5;exact k s5 w5 o5 ((x3.no x4).trans x5 fun i hi e=>by simp[Sl.aw]at e;omega)
theorem FD{a b:Sl}{x y:List Int}{K:Bool->Pw}(ha:aQ w.heap a x)(hb:aQ w.heap b y)(hx:B8 x)(hy:B8 y)(hl:x.length<=1000000)(k:∀w',Ext No w w'->K (decide (x=y)) w'):nQ a b w K:=by
 apply IV;have Sm:=aQ.len ha;have DW:=aQ.len hb;refine If.bne (fun h=>?_) fun h=>?_
 .have:decide (x=y)=false:=decide_eq_false fun e=>by subst e;omega
  rw[<- this];exact k w (Ext.refl _ _)
 refine⟨fun m off t u=>t=(x.length:Int) - m/\m<=x.length/\By off/\Ext No w u/\(off=0 ↔ ∀i,i < t.toNat->x.getD i 0=y.getD i 0),⟨x.length,by omega,Nat.le_refl _,⟨by decide,by decide⟩,Ext.refl _ _,⟨fun _ i hi=>by simp at hi,fun _=>rfl⟩⟩,?_⟩;rintro _ m off t u ⟨ht,hm,ho,xu,acY⟩;refine If.dec (fun h1=>?_) fun h1=>?_
 .refine⟨Ext No u,(Ext.refl _ _).drew,Ix.int (ha.no xu) (by omega) (by omega) fun ab ao _ PG=>⟨x.getD t.toNat 0,aj.no (by have:=PG;unfold Cell at this;rwa [fE]at this),Ix.int (hb.no xu) (by omega) (by omega) fun bb bo _ hbc=>⟨y.getD t.toNat 0,aj.no (by have:=hbc;unfold Cell at this;rwa [fE]at this),?_⟩⟩⟩;have hxt:=hx.get t.toNat;have hyt:=hy.get t.toNat;obtain⟨z1,z2,z3⟩:=tP ho (lP hxt hyt);refine Nm.as (bY hxt hyt) (Nm.mk (Ar.i64 (by omega) ⟨m - 1,by omega,by omega,by omega,⟨z1,z2⟩,xu.drew,?_⟩));rw[z3,acY,WY hxt hyt,show(t+1).toNat=t.toNat+1 by omega];constructor
  .rintro⟨p,q⟩ i hi;by_cases e:i=t.toNat
   .rw[e];exact q
   .exact p i (by omega)
  .intro p;exact⟨fun i hi=>p i (by omega),p _ (by omega)⟩
 .have:(off == 0)=decide (x=y):=by
   rw[Bool.eq_iff_iff,beq_iff_eq,decide_eq_true_iff,acY];constructor
   .intro p;exact mK (by omega) fun i hi=>p i (by omega)
   .intro p i _;rw[p]
  rw[this];exact k u xu
theorem AG{key aU nO gY:Sl}{kl nl al pl:List Int}{K:Sl->Int->Pw}(hk:aQ w.heap key kl)(jj:B8 kl)(hlen:key.len=16∨key.len=32)(hn:aQ w.heap aU nl)(FB:B8 nl)(Gd:aU.len=12)(ra:aQ w.heap nO al)(ba:B8 al)(Sm:nO.len<=65536)(hs:aQ w.heap gY (gcmL kl nl al pl))(PI:B8 pl)(YM:1<=pl.length)(zG:pl.length<=60000)
  (k:∀s w',aL w'.heap w.heap.size s pl->Ext No w w'->K s 0 w'):si key aU nO gY w K:=by
 apply N0;have Om:nl.length=12:=by have:=aQ.len hn;omega
 have od:gY.len=pl.length+16:=by rw[aQ.len hs];exact vK jj FB
 have hcB:=BW jj Om FB PI;have tst:=Eh (kl:=kl) (nl:=nl) (al:=al) (bl:=iU kl nl pl) jj FB;have zJ:=zi kl nl pl;refine FC hlen Gd (If.bne (fun h=>absurd rfl h) fun _=>⟨fun u=>u=w,If.dec (fun h=>by omega) fun _=>If.dec (fun h=>by omega) fun _=>rfl,?_⟩);rintro _ w2 rfl;refine Ar.i64 (by omega) (If.dec (fun h=>by omega) fun _=>?_);have ez:((gY.len:Int)) - 16=(pl.length:Int):=by omega
 rw[ez]
 have e1:((gcmL kl nl al pl).drop ((0:Int).toNat * 1)).take (((pl.length:Int) - 0).toNat * 1)=iU kl nl pl:=by
  rw[show((pl.length:Int) - 0).toNat * 1=pl.length by omega,show(0:Int).toNat * 1=0 from rfl,List.drop_zero];unfold gcmL;rw[List.take_append_of_le_length (by omega),List.take_of_length_le (by omega)]
 have e2:((gcmL kl nl al pl).drop (((pl.length:Nat):Int).toNat * 1)).take ((((gY.len:Nat):Int) - ((pl.length:Nat):Int)).toNat * 1)=tagL kl nl al (iU kl nl pl):=by
  rw[show((pl.length:Nat):Int).toNat * 1=pl.length by omega];unfold gcmL;rw[List.drop_append_of_le_length (by omega),List.drop_eq_nil_of_le (by omega),List.nil_append,List.take_of_length_le (by rw[tst.1];omega)]
 refine hs.BQ (by decide) (by omega) (by omega) fun s hs1 SM=>?_
 rw[e1]at hs1;have ahO:s.len=pl.length:=by rw[SM];omega
 refine HP hk jj hlen hn FB Gd ra ba hs1 hcB Sm (by omega) fun s3 w3 o3 x3=>⟨fun u=>Ext No w2 u,If.bne (fun h=>absurd rfl h) fun _=>(hs.no x3).BQ (by omega) (by omega) (Int.le_refl _) fun s1 YJ Oe=>?_,?_⟩
 .rw[e2]at YJ;refine FD o3.rd YJ tst.2 tst.2 (by rw[tst.1];decide) fun w4 x4=>?_
  rw[decide_eq_true rfl];exact If.not (If.yes (x3.no x4))
 .rintro _ w5 x5;refine(hs.no x5).BQ (by decide) (by omega) (by omega) fun s4 YL hl4=>?_
  rw[e1]at YL;have afB:s4.len=pl.length:=by rw[hl4];omega
  refine FA (hk.no x5) jj hlen (hn.no x5) FB Gd YL hcB (by omega) fun b w6 a6 TM x6=>?_
  rw[LX PI]at a6;have e:s4.len=pl.length:=afB;rw[e];exact k _ w6 (aA.own a6 (by have:=x5.size;omega) rfl) (x5.no x6)
end
end Go.Proofs.YtiigcapldngijaaGreat
namespace Go.V
theorem PJ{P:Program}{t t' e:TypeId}{d:TypeDesc}{ie:TypeInfo}{z:Value}{w:Wd}{s:Sl}{x:Value}{n sz:Nat}{cs xs:List Value}{K:Sl->Pw}
  (ht:P.underlying t=some (.slice e)) (M_:P.underlying t'=some d) (hd:∀k,d ≠ .int k) (hi:P.info? e=some ie) (hz:ie.zero=some z) (rS:ie.size=sz) (Sa:z.cells.size=sz) (hbp:0 < ie.bytes)
  (rd:Rd w.heap s sz cs) (iv:s.cap < s.len+n) (src:Src P w x sz n xs) (hb:(s.len+n) * ie.bytes<=140737488355328)
  (hk:∀s' w',aP w'.heap w.heap.size e sz s' (cs++xs)->s'.len=s.len+n->Ext No w w'->K s' w'):bj P t t' s x K w:=by
 have nj:¬ s.len+n<=s.cap:=by omega
 have HD:=growslice_fits (bytes:=ie.bytes) iv hb;have zQ:=grownCap_ge (w:=w) (need:=s.len+n) (old:=s.cap) (e:=e);have hold:=(rd.src (P:=P)).get (ae w) rfl;have qo:=src.get (ae w) rfl;refine⟨⟨some ⟨w.heap.size,0,none⟩,s.len+n,grownCap w (s.len+n) s.cap e⟩,World.cL (ae w) (.cells (cs++(xs++(Builtin.zeroCells z.cells (grownCap w (s.len+n) s.cap e - (s.len+n))).toList)).toArray e),fun ty=>?_,hk _ _ ?_ rfl ?_⟩
 .obtain⟨sa,sl,sc⟩:=s;have h0:=src.num;simp only at nj HD hold zQ;have Nk:¬ (Builtin.nextslicecap (sl+n) sc * ie.bytes > 2 ^ 48):=by omega
  have hbz:ie.bytes≠0:=by omega
  simp[-run_choose,Builtin.append_,aD ht,aD M_,bL hi,rS,h0,nj,hbz,kC hi,Nk,oK,hold,qo,ja hi hz,gi];refine⟨by simp[ae],?_⟩;congr 2;apply Array.toList_inj.1;simp
 .have hlen:=rd.len;have hx:=src.len;refine⟨by rw[List.length_append,hlen,hx,Nat.add_mul],.inr ⟨w.heap.size,(Builtin.zeroCells z.cells (grownCap w (s.len+n) s.cap e - (s.len+n))).toList,rfl,Nat.le_refl _,?_,?_,zQ⟩,fun v hv=>?_⟩
  .unfold World.cL ae;simp only[Array.getElem?_push,if_true,List.append_assoc]
  .simp only[List.length_append,hlen,hx,Array.length_toList,oL,Sa];rw[<- Nat.add_mul,<- Nat.add_mul];congr 1;omega
  .rcases List.mem_append.1 hv with h | h
   .exact rd.cells v h
   .exact src.cells v h
 .refine⟨rfl,rfl,rfl,by simp[World.cL,ae],fun i hi _=>?_⟩;simp only[World.cL,ae];exact jX _ _ _ hi
end Go.V
namespace Go.Proofs.YtiigcapldngijaaGreat
open Go.V
section
variable {w w':Wd}
theorem po{s x:Sl}{l m:List Int}{K:Sl->Pw}(rd:aQ w.heap s l)(iv:s.cap < s.len+x.len)(rx:aQ w.heap x m)(hb:s.len+x.len<=1000000)(hk:∀s' w',aL w'.heap w.heap.size s' (l++m)->Ext No w w'->K s' w'):bj pz 22 22 s x.v K w:=
 PJ (P:=pz) (e:=5) (d:= .slice 5) (ie:=Tryz.t5) (z:=Tryz.t5.zero.getD .nilFunc) (by kernel_rfl) (by kernel_rfl) (fun k h=>by cases h) (by kernel_rfl) (by kernel_rfl) (by kernel_rfl) (by kernel_rfl) (by decide) rd iv rx.src (by show(s.len+x.len) * 1<=_;omega) fun s' w' o _ e=>hk s' w' (by rw[<- List.map_append]at o;exact o) e
theorem vL{n size:Int}{K:Sl->Pw}(hn:0<=n)(h1:1<=size)(h8:size<=8)(nj:n < 256 ^ size.toNat)(k:∀s w',aL w'.heap w.heap.size s (be size.toNat n)->Ext No w w'->K s w'):je n size w K:=by
 apply GM;exact jl hn h1 h8 nj k
def arN(t c:Int):List Int:=be 4 t++be 8 c
def arB(t g:Int):List Int:=be 4 t++be 2 g
theorem CC{tenant gen commit:Int}{K:Sl->Sl->Pw}(ht:0<=tenant/\tenant<=4294967295)(hg:0<=gen/\gen<=65535)(hc:lO commit)
  (k:∀s s' w',aL w'.heap w.heap.size s (arN tenant commit)->aL w'.heap w.heap.size s' (arB tenant gen)->Ext No w w'->K s s' w'):mC tenant gen commit w K:=by
 apply GN;refine Ar.u64 (by omega) (vL (by omega) (by decide) (by decide) (by show _ < (256:Int) ^ 4;omega) fun r w1 o1 x1=>?_);have hr:r.len=4:=by have:=aL.len o1;rw[aK]at this;exact this
 have hrc:=o1.rd.cap
 have rc:aQ w1.heap ⟨h_ r.a 4 0 1,4 - 0,4 - 0⟩ (be 4 tenant):=by
  have:=o1.rd.cut (lo:=0) (hi:=4) (mx:=4) (by decide) (by omega) (by decide);simpa[aK,List.take_of_length_le] using this
 refine⟨fun _=>True,trivial,Cut.mk (by decide) (by decide) (by decide) (by omega) (Cut.mk (by decide) (by decide) (by decide) (by omega) (Ar.u64 (by omega) ?_))⟩
 refine vL hc.1 (by decide) (by decide) (Oi hc) fun r2 w2 o2 x2=>⟨trivial,?_⟩
 have Jo:r2.len=8:=by have:=aL.len o2;rw[aK]at this;exact this
 have lJ:Ext No w1 w2:=x2.an
 refine po (s:=⟨h_ r.a 4 0 1,4 - 0,4 - 0⟩) (rc.no lJ) (by rw[Jo];show 4 < 4+8;omega) o2.rd (by rw[Jo];show 4+8<=1000000;omega) fun s w3 o3 x3=>⟨trivial,?_⟩
 refine vL (by omega) (by decide) (by decide) (by show _ < (256:Int) ^ 2;omega) fun r4 w4 o4 x4=>⟨trivial,?_⟩
 have hr4:r4.len=2:=by have:=aL.len o4;rw[aK]at this;exact this
 refine po (s:=⟨h_ r.a 4 0 1,4 - 0,4 - 0⟩) (((rc.no lJ).no x3).no x4) (by rw[hr4];show 4 < 4+2;omega) o4.rd (by rw[hr4];show 4+2<=1000000;omega) fun s' w5 o5 x5=>⟨trivial,?_⟩
 have l1:=x1.size;have l2:=lJ.size;have l3:=x3.size;have l4:=x4.size;exact k s s' w5 (((o3.no x4).no x5).mono (by omega)) (o5.mono (by omega)) ((((x1.no lJ).no x3).no x4).no x5)
def FE(p g i:Int):List Int:=[p,g / 256 % 256,g % 256,0,0,0,0,0,0,0,0,0,0,0,0,i % 256]
theorem wu{p:Int}(g i:Int)(hp:By p):ia (FE p g i):=⟨rfl,by
 intro x hx;simp only[FE,List.mem_cons,List.not_mem_nil,or_false]at hx;have:=hp.1;have:=hp.2
 constructor <;> omega⟩
def lf(kl:List Int)(p g:Int):List Int:=encB kl (FE p g 0)++encB kl (FE p g 1)
theorem jR{kl:List Int}{p g:Int}(hk:B8 kl)(hp:By p):(lf kl p g).length=32:=by
 unfold lf;rw[List.length_append,(ju hk (wu _ _ hp).2).1,(ju hk (wu _ _ hp).2).1]
theorem gV{kl:List Int}{p g:Int}(hk:B8 kl)(hp:By p):B8 (lf kl p g):=(ju hk (wu _ _ hp).2).2.append (ju hk (wu _ _ hp).2).2
theorem LY{i p g:Int}{kl:List Int}{x0 x1 x2 cb:Nat}{K:List Int->Int->Pw}(h0:w.heap[x0]? = some (.cells [Value.pointer (some ⟨cb,0,none⟩)].toArray 270 (0,0)))(h1:w.heap[x1]? = some (.cells [Value.int .u8 p].toArray 5 (0,0)))(h2:w.heap[x2]? = some (.cells [Value.int .u16 g].toArray 42 (0,0)))(hc:Fu w cb kl)(jj:B8 kl)(hp:By p)
  (k:∀w',Ext No w w'->K (encB kl (FE p g i)) 0 w'):oP i ⟨x0,0,none⟩ ⟨x1,0,none⟩ ⟨x2,0,none⟩ w K:=by
 apply E1;refine fun b w1 n1=>?_
 have s1:=n1.at_;have mv:∀{i:Nat}{o:Obj},w.heap[i]? = some o->w1.heap[i]? = some o:=fun {i o} h=>(n1.ext.aw i (Array.getElem?_eq_some_iff.1 h).1 fun h=>h).trans h
 have ef:Int.fdiv g (2 ^ min (Int.toNat 8) (IntKind.bits .u16))=g / 256:=fdiv_pow;refine⟨_,Cell.af (mv h0) rfl,p,Cell.af (mv h1) rfl,g,Cell.af (mv h2) rfl,by decide,Nm.as ef (Ar.Qy ⟨g,Cell.af (mv h2) rfl,Ar.Qy (Ar.Qy ?_)⟩)⟩;have q:=wu g i hp;have hr:=ju jj q.2;refine⟨FE p g i,rfl,w1,by kernel_rfl,jk (hc.no n1.ext) q fun w3 x3=>⟨by rw[List.append_nil,List.length_map];exact hr.1,?_⟩⟩
 refine aA.xT (l:=List.replicate 16 0) ((show aA w1.heap b 273 .u8 (List.replicate 16 0) from n1.get).ext x3 fun h=>h) (by rw[hr.1];simp) fun w4 a4 x4=>⟨_,hr.1,a4.row,qm.mk hr.1 (k w4 ((n1.ext.no x3).out x4 (by omega)))⟩
theorem zj{key:Sl}{kl:List Int}{p g:Int}{K:Sl->Int->Pw}(hk:aQ w.heap key kl)(jj:B8 kl)(hlen:key.len=32)(hp:By p)(k:∀s w',aL w'.heap w.heap.size s (lf kl p g)->Ext No w w'->K s 0 w'):kK key 32 p g 2 w K:=by
 apply IU;refine fun b w1 n1 b1 w2 n2=>If.bne (fun h=>absurd (by rw[hlen];rfl) h) fun _=>?_
 have x2:Ext No w w2:=n1.ext.no n2.ext;have s1:=n1.at_;have s2:=n2.at_;have z1:=n1.size;have z2:=n2.size;have mv:∀{i:Nat}{o:Obj}{u u':Wd}{S:Nat->Prop},u.heap[i]? = some o->Ext S u u'->¬ S i->u'.heap[i]? = some o:=fun {i o u u' S} h x hs=>(x.aw i (Array.getElem?_eq_some_iff.1 h).1 hs).trans h
 refine oc (hk.no x2) jj (.inr hlen) fun cb w3 hc hcb x3 b2 w4 n4=>?_
 have s4:=n4.at_;have z4:=n4.size;have l3:=x3.size;refine aH.mk (cs:=[Value.pointer none]) n4.get (by simp) rfl fun w5 WR=>If.bne (fun h=>absurd rfl h) fun _=>?_
 have x5:Ext (·=b2) w4 w5:=WR.ext;have c5:w5.heap[b2]? = some (.cells [Value.pointer (some ⟨cb,0,none⟩)].toArray 270 (0,0)):=WR.get n4.get;have p5:w5.heap[b]? = some (.cells [Value.int .u8 p].toArray 5 (0,0)):=mv (mv (mv (mv (show w1.heap[b]? = some (.cells [Value.int .u8 p].toArray 5 (0,0)) from n1.get) n2.ext fun h=>h) x3 fun h=>h) n4.ext fun h=>h) x5 (by omega);have g5:w5.heap[b1]? = some (.cells [Value.int .u16 g].toArray 42 (0,0)):=mv (mv (mv (show w2.heap[b1]? = some (.cells [Value.int .u16 g].toArray 42 (0,0)) from n2.get) x3 fun h=>h) n4.ext fun h=>h) x5 (by omega);have y5:Ext No w w5:=((x2.no x3).no n4.ext).out x5 (by omega);have hc5:Fu w5 cb kl:=hc.no (n4.ext.out x5 (by omega));have l5:=y5.size
 let D:Nat->List Int:=fun j=>if j=0 then[] else if j=1 then encB kl (FE p g 0) else lf kl p g
 refine⟨fun m out t u=>∃j:Nat,t=(j:Int)/\j<=2/\m=2 - j/\Ext No w5 u/\aL u.heap w5.heap.size out (D j),⟨2,0,rfl,by omega,rfl,Ext.refl _ _,aP.nil _ _ _ _⟩,?_⟩;rintro _ m out t w6 ⟨j,rfl,hj,rfl,x6,o⟩;refine If.dec (fun h=>?_) fun h=>?_
 rotate_left
 .have:j=2:=by omega
  subst this;exact k out w6 (o.mono (by omega)) (y5.no x6)
 have hr:∀i,ia (encB kl (FE p g i)):=fun i=>ju jj (wu _ _ hp).2
 refine E2 (LY (mv c5 x6 fun h=>h) (mv p5 x6 fun h=>h) (mv g5 x6 fun h=>h) (hc5.no x6) jj hp fun w7 x7 b3 w8 n8=>⟨by rw[List.append_nil,List.length_map];exact(hr _).1,?_⟩);have s8:=n8.at_;have l6:=x6.size;have l7:=x7.size;have z8:=n8.size;refine aA.xT (l:=List.replicate 16 0) n8.get (by rw[(hr _).1];simp) fun w9 a9 x9=>If.bne (fun h=>absurd rfl h) fun _=>?_
 have y9:Ext No w6 w9:=(x7.no n8.ext).out x9 (by omega);have l9:=y9.size;have Kp:=aL.len o
 have hD:(D j).length<=32:=by
  show(if j=0 then _ else if j=1 then _ else _:List Int).length<=32;split
  .simp
  .split
   .rw[(hr 0).1];decide
   .rw[jR jj hp];decide
 have er:((encB kl (FE p g (j:Int))).drop 0).take 16=encB kl (FE p g (j:Int)):=by rw[List.drop_zero,List.take_of_length_le (by rw[(hr _).1];decide)]
 have rr:=a9.rd (o:=0) (n:=16) (c:=16) (by rw[(hr _).1];decide) (by decide);rw[er]at rr;refine Cut.arr (by decide) (by decide) (by decide) (by decide) (dj (o.no y9) (by omega) rr.src (by show(out.len+16) * 1<=_;omega) fun s eK Jv _ dQ _=>?_);rw[<- List.map_append]at Jv;have On:Ext No w5 eK:=(x6.no y9).trans dQ fun i hi e=>by have:=(o.lt e).1;omega
 refine Ar.i64 (by omega) ⟨2 - (j+1),by omega,j+1,by omega,by omega,rfl,On,?_⟩
 have eD:D j++encB kl (FE p g (j:Int))=D (j+1):=by
  have:j=0∨j=1:=by omega
  rcases this with rfl | rfl <;> rfl
 rw[eD]at Jv;exact Jv
theorem Sf:By 1:=⟨by decide,by decide⟩
theorem VJ:By 2:=⟨by decide,by decide⟩
theorem by3:By 3:=⟨by decide,by decide⟩
theorem HQ{key:Sl}{kl:List Int}{gen:Int}{K:Sl->Int->Pw}(hk:aQ w.heap key kl)(jj:B8 kl)(hlen:key.len=32)(k:∀s w',aL w'.heap w.heap.size s (lf kl 1 gen)->Ext No w w'->K s 0 w'):pP key gen w K:=by
 apply Lo;exact zj hk jj hlen Sf k
theorem AH{key:Sl}{kl:List Int}{gen:Int}{K:Sl->Int->Pw}(hk:aQ w.heap key kl)(jj:B8 kl)(hlen:key.len=32)(k:∀s w',aL w'.heap w.heap.size s (lf kl 2 gen)->Ext No w w'->K s 0 w'):kL key gen w K:=by
 apply Ff;exact zj hk jj hlen VJ k
def pq(kl sl:List Int):List Int:=encB (lf kl 3 0) sl
theorem AI{kl sl:List Int}(hk:B8 kl)(hs:B8 sl):ia (pq kl sl):=ju (gV hk by3) hs
theorem BX{key qw:Sl}{kl sl:List Int}{K:Sl->Int->Pw}(hk:aQ w.heap key kl)(jj:B8 kl)(hlen:key.len=32)(hs:aQ w.heap qw sl)(PL:B8 sl)(od:qw.len=16)(k:∀b w',aA w'.heap b 273 .u8 (pq kl sl)->w.heap.size<=b->Ext No w w'->K ⟨some ⟨b,0,none⟩,16,16⟩ 0 w'):mP key qw w K:=by
 apply LJ
 refine zj hk jj hlen by3 fun kk w1 o1 x1=>⟨fun u=>u=w1,If.bne (fun h=>absurd rfl h) fun _=>If.bne (fun h=>by omega) fun _=>rfl,?_⟩
 rintro _ w2 rfl;have Cy:kk.len=32:=by rw[aL.len o1];exact jR jj by3
 refine oc o1.rd (gV jj by3) (.inr Cy) fun cb w3 hc hcb x3=>If.bne (fun h=>absurd rfl h) fun _=>⟨by omega,?_⟩
 have aaL:sl.length=16:=by have:=aQ.len hs;omega
 have du:sl.map (Value.int .u8)≠[]:=fun e=>by have:=congrArg List.length e;simp[aaL]at this
 have iY:=x1.no x3;have TN:=hs.no iY;obtain⟨sb',so',ha',aaM⟩:=TN.at_ du;rw[ha'];have hm:=AI jj PL;refine Nn.mk ⟨sl,aaL,Cell.row fun j hj=>Cell.mk ?_,jk hc ⟨aaL,PL⟩ fun w4 x4 b w5 n5=>⟨by rw[List.append_nil,List.length_map];exact hm.1,?_⟩⟩
 .have:=aaM j (by simpa using hj);simpa using this
 have s5:=n5.at_;have z5:=n5.size;have l1:=x1.size;have l3:=x3.size;have l4:=x4.size;refine aA.xT (l:=List.replicate 16 0) (l':=pq kl sl) n5.get (by rw[hm.1];simp) fun w6 a6 x6=>Cut.arr (by decide) (by decide) (by decide) (by decide) (k b w6 a6 (by omega) (((iY.no x4).no n5.ext).out x6 (by omega)))
end
structure NS where
 n:Int
 z:Nat
abbrev NS.two(p:NS):List Int:=[p.n,(p.z:Int)]
abbrev NS.b(p:NS):List Int:=be p.z p.n
abbrev NS.OK(p:NS):Prop:=0<=p.n/\p.n < 256 ^ p.z/\1<=p.z/\p.z<=8
theorem Jw:∀l:List NS,(l.flatMap NS.two).length=2 * l.length
 | []=>rfl
 | p::l=>by rw[List.flatMap_cons,List.length_append,Jw l];simp;omega
section
variable {w w':Wd}
theorem tg{lb:Nat}{vs:List NS}{n:Nat}{K:Sl->Pw}(a:aA w.heap lb 28 .u64 (vs.flatMap NS.two))(hn:n=2 * vs.length)(hn2:vs.length<=100)(ok:∀p∈vs,p.OK)(k:∀s w',aL w'.heap w.heap.size s (vs.flatMap NS.b)->Ext No w w'->K s w'):il ⟨some ⟨lb,0,none⟩,n,n⟩ w K:=by
 subst hn;apply E7;refine⟨fun m b i u=>Ext No w u/\∃d r,vs=d++r/\i=2 * (d.length:Int)/\m=r.length/\aL u.heap w.heap.size b (d.flatMap NS.b),⟨vs.length,Ext.refl _ _,[],vs,rfl,rfl,rfl,aP.nil _ _ _ _⟩,?_⟩;rintro _ m b i w1 ⟨x1,d,r,hv,hi,hm,o⟩;have hdl:d.length+r.length=vs.length:=by rw[hv,List.length_append]
 refine Ar.i64 (by omega) (If.dec (fun h=>?_) fun h=>?_)
 .have h':i+1 < ((2 * vs.length:Nat):Int):=h
  cases r with
  | nil=>simp at hdl;omega
  | cons p r=>
  have hp:=ok p (by rw[hv];simp);have SM:(vs.flatMap NS.two).length=2 * vs.length:=Jw vs;have ahP:(d.flatMap NS.two).length=2 * d.length:=Jw d
  have g0:(vs.flatMap NS.two).getD (i.toNat * 1+0) 0=p.n:=by
   rw[hv,List.flatMap_append,List.getD_eq_getElem?_getD,List.getElem?_append_right (by omega),List.flatMap_cons,show i.toNat * 1+0 - (d.flatMap NS.two).length=0 by omega];rfl
  have g1:(vs.flatMap NS.two).getD ((i+1).toNat * 1+0) 0=(p.z:Int):=by
   rw[hv,List.flatMap_append,List.getD_eq_getElem?_getD,List.getElem?_append_right (by omega),List.flatMap_cons,show(i+1).toNat * 1+0 - (d.flatMap NS.two).length=1 by omega];rfl
  have a1:=a.ext x1 fun h=>h
  have c0:=a1.Ft (S:=No) (fun h=>h) (o:=i.toNat * 1) (j:=0) (by omega);have c1:=a1.Ft (S:=No) (fun h=>h) (o:=(i+1).toNat * 1) (j:=0) (by omega);rw[g0]at c0;rw[g1]at c1;refine⟨Ext No w1,(Ext.refl _ _).drew,Ix.arr (by omega) (by omega) ⟨p.n,c0,Ar.i64 (by omega) (Ix.arr (by omega) h' ⟨(p.z:Int),c1,Ar.i64 (by omega) ?_⟩)⟩⟩
  refine jl hp.1 (by omega) (by omega) (by rw[Int.toNat_natCast];exact hp.2.1) fun s w2 o2 x2=>⟨x2.an,?_⟩
  rw[Int.toNat_natCast]at o2;have lJ:Ext No w1 w2:=x2.an;have l1:=x1.size;have l2:=lJ.size;have hs:s.len=p.z:=by rw[aL.len o2,aK]
  have TO:∀d:List NS,(∀q∈d,q.OK)->(d.flatMap NS.b).length<=8 * d.length:=fun d=>by
   induction d with
   | nil=>intro _;simp
   | cons q d ih=>
    intro hq;have:=ih fun q hq'=>hq q (by simp[hq'])
    have:=hq q (by simp);rw[List.flatMap_cons,List.length_append,aK,List.length_cons];omega
  have DW:b.len<=8 * d.length:=by rw[aL.len o];exact TO d fun q hq=>ok q (by rw[hv];simp[hq])
  refine dj (o.no lJ) (by omega) o2.rd.src (by omega) fun s3 w3 o3 _ x3 _=>?_
  rw[<- List.map_append]at o3;refine Ar.i64 (by omega) ⟨r.length,by rw[hm];simp,(x1.no lJ).trans x3 fun i hi e=>by have:=(o.lt e).1;omega,d++[p],r,by rw[hv];simp,by simp;omega,rfl,?_⟩;rw[List.flatMap_append,List.flatMap_cons,List.flatMap_nil,List.append_nil];exact o3
 .have h':¬ i+1 < ((2 * vs.length:Nat):Int):=h;have:r=[]:=List.length_eq_zero_iff.1 (by omega);subst this;rw[List.append_nil]at hv;subst hv;exact k b w1 o x1
structure iV where
 t:Int
 kd:Int
 lv:Int
 pg:Int
 cm:Int
 gn:Int
abbrev iV.OK(l:iV):Prop:=(0<=l.t/\l.t<=4294967295)/\By l.kd/\By l.lv/\(0<=l.pg/\l.pg<=4294967295)/\lO l.cm/\(0<=l.gn/\l.gn<=65535)
def iV.aU(l:iV):List Int:=be 4 l.pg++(be 8 l.cm++[])
def iV.nO(l:iV):List Int:=be 4 l.t++(be 1 l.kd++(be 1 l.lv++(be 2 l.gn++[])))
def iV.tail(l:iV):List Int:=be 1 l.kd++(be 1 l.lv++(be 2 l.gn++(be 8 l.cm++[])))
theorem AJ{l:iV}{K:Sl->Pw}(ok:l.OK)(k:∀s r w',aL w'.heap w.heap.size s r->r.length=12->B8 r->Ext No w w'->r=l.aU->K s w'):kR l.t l.kd l.lv l.pg l.cm l.gn w K:=by
 apply E8;obtain⟨h1,h2,h3,h4,h5,h6⟩:=ok
 refine fun b w1 n1=>⟨l.pg,Cell.af n1.get rfl,Ar.u64 (by omega) ⟨l.cm,Cell.af n1.get rfl,fun b1 w2 n2=>?_⟩⟩
 have l1:=n1.ext.size;have l2:=n2.ext.size;refine tg (vs:=[⟨l.pg,4⟩,⟨l.cm,8⟩]) n2.get rfl (by simp) ?_ fun s w3 o3 x3=>k s _ w3 (o3.mono (by omega)) rfl ?_ ((n1.ext.no n2.ext).no x3) rfl
 .intro p hp;simp only[List.mem_cons,List.not_mem_nil,or_false]at hp;rcases hp with rfl | rfl
  .exact⟨h4.1,by show l.pg < (256:Int) ^ 4;omega,by simp,by simp⟩
  .exact⟨h5.1,Oi h5,by simp,by simp⟩
 .exact(cv _ _).append ((cv _ _).append B8.nil)
theorem FF{l:iV}{K:Sl->Pw}(ok:l.OK)(k:∀s r w',aL w'.heap w.heap.size s r->r.length=8->B8 r->Ext No w w'->r=l.nO->K s w'):nR l.t l.kd l.lv l.pg l.cm l.gn w K:=by
 apply IX;obtain⟨h1,h2,h3,h4,h5,h6⟩:=ok;have:=h2.1;have:=h2.2;have:=h3.1;have:=h3.2
 refine fun b w1 n1=>⟨l.t,Cell.af n1.get rfl,Ar.u64 (by omega) ⟨l.kd,Cell.af n1.get rfl,Ar.u64 (by omega) ⟨l.lv,Cell.af n1.get rfl,Ar.u64 (by omega) ⟨l.gn,Cell.af n1.get rfl,Ar.u64 (by omega) fun b1 w2 n2=>?_⟩⟩⟩⟩
 have l1:=n1.ext.size;have l2:=n2.ext.size;refine tg (vs:=[⟨l.t,4⟩,⟨l.kd,1⟩,⟨l.lv,1⟩,⟨l.gn,2⟩]) n2.get rfl (by simp) ?_ fun s w3 o3 x3=>k s _ w3 (o3.mono (by omega)) rfl ?_ ((n1.ext.no n2.ext).no x3) rfl
 .intro p hp;simp only[List.mem_cons,List.not_mem_nil,or_false]at hp;rcases hp with rfl | rfl | rfl | rfl
  .exact⟨h1.1,by show l.t < (256:Int) ^ 4;omega,by simp,by simp⟩
  .exact⟨h2.1,by show l.kd < (256:Int) ^ 1;omega,by simp,by simp⟩
  .exact⟨h3.1,by show l.lv < (256:Int) ^ 1;omega,by simp,by simp⟩
  .exact⟨h6.1,by show l.gn < (256:Int) ^ 2;omega,by simp,by simp⟩
 .exact(cv _ _).append ((cv _ _).append ((cv _ _).append ((cv _ _).append B8.nil)))
end
abbrev CD:List Int:=[67,72,84,49]
section
variable {w w':Wd}
theorem Oo{b n c:Nat}{cs:Array Value}{t:TypeId}{fz:Nat×Nat}(hb:w.heap[b]? = some (.cells cs t fz)):∃w',Sem.run pz (convert 22 22 (.slice (some ⟨b,0,none⟩) n c)) w = .ok (.slice (some ⟨b,0,none⟩) n c) w'/\Ext (·=b) w w'/\w'.heap.size=w.heap.size/\∃fz',w'.heap[b]? = some (.cells cs t fz'):=by
 have h40:Tryz.prog.underlying 22=some (.slice 5):=by kernel_rfl
 have h5:Tryz.prog.underlying 5=some (.int .u8):=by kernel_rfl
 have YN:w.shape? b=some (t,cs.size):=by simp[World.shape?,hb]
 refine⟨w.freeze { block:=b,off:=cs.size } 1,?_,⟨rfl,rfl,rfl,?_,fun i hi du=>?_⟩,?_,?_⟩
 .simp[convert,aD h40,aD h5,markStringish,shape,Sem.run,YN,freeze]
 .simp[World.freeze]
 .have aai:¬ b=i:=fun e=>du e.symm
  simp[World.freeze,Array.getElem?_modify,aai]
 .simp[World.freeze]
 .obtain⟨lo,hi⟩:=fz;simp[World.freeze,Array.getElem?_modify,hb]
theorem CE{l:iV}{K:Sl->Pw}(ok:l.OK)(k:∀s r w',aL w'.heap w.heap.size s (CD++r)->r.length=12->B8 r->Ext No w w'->r=l.tail->K s w'):mD l.t l.kd l.lv l.pg l.cm l.gn w K:=by
 apply GI;obtain⟨h1,h2,h3,h4,h5,h6⟩:=ok;have:=h2.1;have:=h2.2;have:=h3.1;have:=h3.2;refine fun b w1 n1 b1 w2 n2=>?_
 have s1:=n1.at_;have s2:=n2.at_;have z1:=n1.size;have z2:=n2.size;obtain⟨w3,hr,x3,hz3,fz,w_⟩:=Oo (n:=4) (c:=4) (show w2.heap[b1]? = some (.cells [Value.int .u8 67,.int .u8 72,.int .u8 84,.int .u8 49].toArray 5 (0,0)) from n2.get);have y3:Ext No w w3:=(n1.ext.no n2.ext).out x3 (by omega)
 have hb:w3.heap[b]? = some (.cells [Value.int .u32 l.t,.int .u8 l.kd,.int .u8 l.lv,.int .u32 l.pg,.int .u64 l.cm,.int .u16 l.gn].toArray 89 (0,0)):=by
  have e1:w2.heap[b]? = _:=(n2.ext.aw b (by omega) fun h=>h).trans n1.get;exact(x3.aw b (by omega) (by omega)).trans e1
 have rm:aQ w3.heap ⟨some ⟨b1,0,none⟩,4,4⟩ CD:=by
  refine⟨rfl,Nat.le_refl _,fun _=>⟨b1,0,rfl,fun i hi=>?_⟩,fun v hv=>df v hv⟩;have qO:i < 4:=hi;unfold cM;rw[w_];have:i=0∨i=1∨i=2∨i=3:=by omega
  rcases this with rfl | rfl | rfl | rfl <;> rfl
 refine⟨⟨some ⟨b1,0,none⟩,4,4⟩,w3,hr,l.kd,Cell.af hb rfl,Ar.u64 (by omega) ⟨l.lv,Cell.af hb rfl,Ar.u64 (by omega) ⟨l.gn,Cell.af hb rfl,Ar.u64 (by omega) ⟨l.cm,Cell.af hb rfl,fun b2 w4 n4=>?_⟩⟩⟩⟩;refine tg (vs:=[⟨l.kd,1⟩,⟨l.lv,1⟩,⟨l.gn,2⟩,⟨l.cm,8⟩]) n4.get rfl (by simp) ?_ fun s w5 o5 x5=>?_
 .intro p hp;simp only[List.mem_cons,List.not_mem_nil,or_false]at hp;rcases hp with rfl | rfl | rfl | rfl
  .exact⟨h2.1,by show l.kd < (256:Int) ^ 1;omega,by simp,by simp⟩
  .exact⟨h3.1,by show l.lv < (256:Int) ^ 1;omega,by simp,by simp⟩
  .exact⟨h6.1,by show l.gn < (256:Int) ^ 2;omega,by simp,by simp⟩
  .exact⟨h5.1,Oi h5,by simp,by simp⟩
 .have hs:s.len=12:=by rw[aL.len o5];rfl
  have l3:=y3.size;have l4:=n4.ext.size;have l5:=x5.size;refine po ((rm.no n4.ext).no x5) (by rw[hs];show 4 < 4+12;omega) o5.rd (by rw[hs];show 4+12<=1000000;omega) fun s6 w6 o6 x6=>k s6 _ w6 (o6.mono (by omega)) rfl ?_ (((y3.no n4.ext).no x5).no x6) rfl
  exact(cv _ _).append ((cv _ _).append ((cv _ _).append ((cv _ _).append B8.nil)))
theorem FG{key:Sl}{kind:Int}{K:Bool->Pw}(hlen:key.len=16∨key.len=32)(hk:1<=kind/\kind<=4)(k:K true w):oO key kind w K:=by
 apply NX;have e:decide (kind<=4)=true:=decide_eq_true hk.2;exact If.beq (fun _=>If.dec (fun _=>by rw[e];exact k) fun h=>absurd hk.1 h) fun h=>If.beq (fun _=>If.dec (fun _=>by rw[e];exact k) fun h=>absurd hk.1 h) fun h2=>by omega
theorem iV.AK(l:iV):l.tail.length=12:=by simp[iV.tail,aK]
theorem iV.PM(l:iV):B8 l.tail:=(cv _ _).append ((cv _ _).append ((cv _ _).append ((cv _ _).append B8.nil)))
theorem iV.QY(l:iV):l.aU.length=12:=by simp[iV.aU,aK]
theorem iV.FH(l:iV):B8 l.aU:=(cv _ _).append ((cv _ _).append B8.nil)
def bE(kl:List Int)(l:iV)(pl:List Int):List Int:=CD++(l.tail++gcmL kl l.aU l.nO pl)
theorem rF{kl pl:List Int}{l:iV}(hk:B8 kl)(hp:pl.length=224):(bE kl l pl).length=256:=by
 unfold bE;rw[List.length_append,List.length_append,iV.AK,vK hk l.FH,hp];rfl
theorem acZ:B8 CD:=by unfold CD;exact fun x hx=>by simp at hx;omega
theorem vM{kl pl:List Int}{l:iV}(hk:B8 kl)(hp:B8 pl):B8 (bE kl l pl):=acZ.append ((iV.PM l).append (PH hk l.QY l.FH hp))
theorem QZ{key payload:Sl}{l:iV}{kl pl:List Int}{K:Sl->Int->Pw}(ok:l.OK)(HR:1<=l.kd/\l.kd<=4)(hk:aQ w.heap key kl)(jj:B8 kl)(hlen:key.len=16∨key.len=32)(hp:aQ w.heap payload pl)(PI:B8 pl)(zG:payload.len=224)
  (k:∀s w',aL w'.heap w.heap.size s (bE kl l pl)->Ext No w w'->K s 0 w'):vg key l.t l.kd l.lv l.pg l.cm l.gn payload w K:=by
 apply LH;refine fun b w1 n1=>?_
 have x1:=n1.ext;have l1:=x1.size;have hb:w1.heap[b]? = some (.cells [Value.int .u32 l.t,.int .u8 l.kd,.int .u8 l.lv,.int .u32 l.pg,.int .u64 l.cm,.int .u16 l.gn].toArray 89 (0,0)):=n1.get;refine⟨fun u=>u=w1,⟨l.kd,Cell.af hb rfl,FG hlen HR (If.not (If.yes (If.bne (fun h=>by omega) fun _=>rfl)))⟩,?_⟩;rintro _ w3 rfl;have tT:∀{o:Nat}{v:Value},[Value.int .u32 l.t,.int .u8 l.kd,.int .u8 l.lv,.int .u32 l.pg,.int .u64 l.cm,.int .u16 l.gn][o]? = some v->aj (Ext No w3) ⟨b,o,none⟩ v:=fun h=>aj.cell (Cell.af hb h)
 refine⟨Ext No w3,(Ext.refl _ _).drew,l.t,tT (o:=0) rfl,l.kd,tT (o:=1) rfl,l.lv,tT (o:=2) rfl,l.pg,tT (o:=3) rfl,l.cm,tT (o:=4) rfl,l.gn,tT (o:=5) rfl,l.t,tT (o:=0) rfl,l.kd,tT (o:=1) rfl,l.lv,tT (o:=2) rfl,l.pg,tT (o:=3) rfl,l.cm,tT (o:=4) rfl,l.gn,tT (o:=5) rfl,?_⟩
 refine AJ ok fun s4 r4 w4 o4 hl4 hB4 x4 e4=>⟨x4.an,FF ok fun s5 r5 w5 o5 hl5 hB5 x5 e5=>⟨x4.an.no x5,?_⟩⟩
 subst e4;subst e5;have x35:Ext No w3 w5:=x4.an.no x5;have h4l:s4.len=12:=by rw[aL.len o4];exact hl4
 have h5l:s5.len=8:=by rw[aL.len o5];exact hl5
 have nI:=x1.no x35
 refine AF (hk.no nI) jj hlen (o4.rd.no x5) hB4 h4l o5.rd hB5 (by omega) (hp.no nI) PI (by omega) (by omega) fun s6 w6 o6 x6=>⟨x35.no x6,If.bne (fun h=>absurd rfl h) fun _=>?_⟩
 have Sr:=x35.no x6;have TM:w6.heap[b]? = _:=(Sr.aw b (Array.getElem?_eq_some_iff.1 hb).1 fun h=>h).trans hb;refine⟨l.t,Cell.af TM rfl,l.kd,Cell.af TM rfl,l.lv,Cell.af TM rfl,l.pg,Cell.af TM rfl,l.cm,Cell.af TM rfl,l.gn,Cell.af TM rfl,CE ok fun s7 r7 w7 o7 hl7 hB7 x7 e7=>?_⟩;have l5:=nI.size;have l6:=x6.size;have l7:=x7.size;have h7l:s7.len=16:=by rw[aL.len o7];simp[hl7]
 have h6l:s6.len=240:=by rw[aL.len o6,vK jj hB4,<- aQ.len hp];omega
 refine dj (o7.mono (base':=w.heap.size) (by omega)) (by omega) (o6.rd.no x7).src (by omega) fun s8 w8 o8 _ x8 _=>?_
 rw[<- List.map_append,List.append_assoc]at o8;rw[e7]at o8;refine k s8 w8 o8 (((nI.no x6).no x7).trans x8 fun i hi e=>by have:=(o7.lt e).1;omega)
theorem Q0{kl pl:List Int}{l:iV}:(bE kl l pl).take 16=CD++l.tail:=by
 have tl:=iV.AK l;unfold bE;rw[<- List.append_assoc,List.take_append_of_le_length (by rw[List.length_append,tl];simp),List.take_of_length_le (by rw[List.length_append,tl];simp)]
theorem Q1{kl pl:List Int}{l:iV}:(bE kl l pl).drop 16=gcmL kl l.aU l.nO pl:=by
 have tl:=iV.AK l;unfold bE;rw[<- List.append_assoc,List.drop_append_of_le_length (by rw[List.length_append,tl];simp),List.drop_eq_nil_of_le (by rw[List.length_append,tl];simp),List.nil_append]
theorem FI{key block:Sl}{l:iV}{kl pl:List Int}{K:Sl->Int->Pw}(ok:l.OK)(HR:1<=l.kd/\l.kd<=4)(hk:aQ w.heap key kl)(jj:B8 kl)(hlen:key.len=16∨key.len=32)(hb:aQ w.heap block (bE kl l pl))(PI:B8 pl)(zG:pl.length=224)
  (k:∀s w',aL w'.heap w.heap.size s pl->Ext No w w'->K s 0 w'):jZ key l.t l.kd l.lv l.pg l.cm l.gn block w K:=by
 apply Lv;refine fun b w1 n1=>?_
 have x1:=n1.ext;have l1:=x1.size;have hB:=vM (l:=l) jj PI;have DW:block.len=256:=by rw[aQ.len hb];exact rF jj zG
 have hbk:w1.heap[b]? = some (.cells [Value.int .u32 l.t,.int .u8 l.kd,.int .u8 l.lv,.int .u32 l.pg,.int .u64 l.cm,.int .u16 l.gn].toArray 89 (0,0)):=n1.get;refine⟨fun u=>u=w1,⟨l.kd,Cell.af hbk rfl,FG hlen HR (If.not (If.yes (If.bne (fun h=>by omega) fun _=>rfl)))⟩,?_⟩;rintro _ w3 rfl;have tT:∀{u:Wd}{o:Nat}{v:Value},Ext No w3 u->[Value.int .u32 l.t,.int .u8 l.kd,.int .u8 l.lv,.int .u32 l.pg,.int .u64 l.cm,.int .u16 l.gn][o]? = some v->aj (Ext No u) ⟨b,o,none⟩ v:=fun x h=>aj.cell (Cell.af ((x.aw b (Array.getElem?_eq_some_iff.1 hbk).1 fun h=>h).trans hbk) h)
 have x00:=Ext.refl No w3;refine⟨Ext No w3,(Ext.refl _ _).drew,(hb.no x1).BQ (by decide) (by decide) (by omega) fun s hs od=>⟨l.t,tT x00 (o:=0) rfl,l.kd,tT x00 (o:=1) rfl,l.lv,tT x00 (o:=2) rfl,l.pg,tT x00 (o:=3) rfl,l.cm,tT x00 (o:=4) rfl,l.gn,tT x00 (o:=5) rfl,?_⟩⟩
 have e1:((bE kl l pl).drop ((0:Int).toNat * 1)).take (((16:Int) - 0).toNat * 1)=CD++l.tail:=by
  rw[show((16:Int) - 0).toNat * 1=16 from rfl,show(0:Int).toNat * 1=0 from rfl,List.drop_zero];exact Q0
 rw[e1]at hs;have VM:B8 (CD++l.tail):=acZ.append (iV.PM l)
 refine CE ok fun s4 r4 w4 o4 hr4 hB4 x4 e4=>⟨x4.an,?_⟩
 subst e4
 refine FD (Rd.no hs x4.an) o4.rd VM VM (by rw[List.length_append,iV.AK];decide) fun w5 x5=>⟨x4.an.no x5,?_⟩
 rw[decide_eq_true rfl];refine If.not (If.yes ?_);have ld:=x4.an.no x5;refine⟨Ext No w5,(Ext.refl _ _).drew,l.t,tT ld (o:=0) rfl,l.kd,tT ld (o:=1) rfl,l.lv,tT ld (o:=2) rfl,l.pg,tT ld (o:=3) rfl,l.cm,tT ld (o:=4) rfl,l.gn,tT ld (o:=5) rfl,l.t,tT ld (o:=0) rfl,l.kd,tT ld (o:=1) rfl,l.lv,tT ld (o:=2) rfl,l.pg,tT ld (o:=3) rfl,l.cm,tT ld (o:=4) rfl,l.gn,tT ld (o:=5) rfl,?_⟩;have nI:=x1.no ld;refine(hb.no nI).BQ (by decide) (by omega) (Int.le_refl _) fun s6 VN ahQ=>?_
 have e6:((bE kl l pl).drop ((16:Int).toNat * 1)).take ((((block.len:Nat):Int) - 16).toNat * 1)=gcmL kl l.aU l.nO pl:=by
  rw[DW,show(16:Int).toNat * 1=16 from rfl,Q1,List.take_of_length_le (by rw[vK jj l.FH,zG];decide)]
 rw[e6]at VN
 refine AJ ok fun s7 r7 w7 o7 hl7 hB7 x7 e7=>⟨x7.an,FF ok fun s8 r8 w8 o8 Sj hB8 x8 e8=>⟨x7.an.no x8,?_⟩⟩
 subst e7;subst e8;have Ss:=x7.an.no x8;have h7l:s7.len=12:=by rw[aL.len o7];exact hl7
 have h8l:s8.len=8:=by rw[aL.len o8];exact Sj
 have z05:=nI.size;have z58:=Ss.size
 exact AG ((hk.no nI).no Ss) jj hlen (o7.rd.no x8) hB7 h7l o8.rd hB8 (by omega) (Rd.no VN Ss) PI (by omega) (by omega) fun s9 w9 o9 x9=>⟨Ss.no x9,k s9 w9 (o9.mono (by omega)) ((nI.no Ss).no x9)⟩
theorem be1{x:Int}(h:By x):be 1 x=[x]:=by
 have:num [x]=x:=by simp[num]
 have e:=aay (l:=[x]) (B8.nil.cons h);rw[this]at e;exact e
theorem W4{kl pl:List Int}{l:iV}(ok:l.OK):∃r,bE kl l pl=67::72::84::49::l.kd::l.lv::(be 2 l.gn++(be 8 l.cm++r)):=
 ⟨gcmL kl l.aU l.nO pl,by unfold bE iV.tail;rw[be1 ok.2.1,be1 ok.2.2.1];simp⟩
theorem HS{block:Sl}{l:iV}{kl pl:List Int}{K:Int->Int->Int->Int->Int->Pw}(ok:l.OK)(HR:1<=l.kd/\l.kd<=4)(jj:B8 kl)(hb:aQ w.heap block (bE kl l pl))(PI:B8 pl)(zG:pl.length=224)(k:∀w',Ext No w w'->K l.kd l.lv l.gn l.cm 0 w'):mO block w K:=by
 apply Ct;have hB:=vM (l:=l) jj PI;have DW:block.len=256:=by rw[aQ.len hb];exact rF jj zG
 obtain⟨r,er⟩:=W4 (kl:=kl) (pl:=pl) ok;rw[er]at hb hB;have h6:=ok.2.2.2.2.2;have h5:=ok.2.2.2.2.1
 refine If.bne (fun h=>by omega) fun _=>⟨fun u=>u=w,hb.BQ (by decide) (by decide) (by omega) fun s hs od=>mH.mk hs (fun b o v hv=>Cell.mk hv) ?_,?_⟩
 .have em:(ByteArray.toList ⟨(C_ ((List.drop ((0:Int).toNat * 1) (67::72::84::49::l.kd::l.lv::(be 2 l.gn++(be 8 l.cm++r)))).take (((4:Int) - 0).toNat * 1))).toArray⟩ == ByteArray.toList (⟨#[67,72,84,49]⟩))=true:=by
   have e:(⟨(C_ ((List.drop ((0:Int).toNat * 1) (67::72::84::49::l.kd::l.lv::(be 2 l.gn++(be 8 l.cm++r)))).take (((4:Int) - 0).toNat * 1))).toArray⟩ : ByteArray)=⟨#[67,72,84,49]⟩:=by rfl
   rw[e];exact beq_self_eq_true _
  rw[em];refine If.not (If.yes (Ix.int hb (by decide) (by omega) fun bb o _ hc=>⟨_,hc,If.dec (fun h1=>?_) fun h1=>Ix.int hb (by decide) (by omega) fun bb o _ hc=>⟨_,hc,If.dec (fun h4=>?_) fun h4=>rfl⟩⟩))
  .have h:l.kd < 1:=h1;omega
  .have h:l.kd > 4:=h4;omega
 .rintro _ w1 rfl
  have e2:(List.drop ((6:Int).toNat * 1) (67::72::84::49::l.kd::l.lv::(be 2 l.gn++(be 8 l.cm++r)))).take (((8:Int) - 6).toNat * 1)=be 2 l.gn:=by
   show(be 2 l.gn++(be 8 l.cm++r)).take 2=_;rw[List.take_append_of_le_length (by rw[aK];omega),List.take_of_length_le (by rw[aK];omega)]
  have e3:(List.drop ((8:Int).toNat * 1) (67::72::84::49::l.kd::l.lv::(be 2 l.gn++(be 8 l.cm++r)))).take (((16:Int) - 8).toNat * 1)=be 8 l.cm:=by
   show((be 2 l.gn++(be 8 l.cm++r)).drop 2).take 8=_;rw[List.drop_append_of_le_length (by rw[aK];omega),List.drop_eq_nil_of_le (by rw[aK];omega),List.nil_append,List.take_append_of_le_length (by rw[aK];omega),List.take_of_length_le (by rw[aK];omega)]
  refine hb.BQ (by decide) (by decide) (by omega) fun s hs od=>?_
  rw[e2]at hs;refine mW hs (cv _ _) (by rw[aK];decide) (by rw[aK];decide) (hb.BQ (by decide) (by decide) (by omega) fun s3 hs3 ahR=>?_);rw[e3]at hs3;refine mW hs3 (cv _ _) (by rw[aK];decide) (by rw[aK];decide) ⟨Ext No w1,(Ext.refl _ _).drew,Ix.int hb (by decide) (by omega) fun bb o _ hc=>⟨_,aj.no (by have:=hc;unfold Cell at this;rwa [fE]at this),Ix.int hb (by decide) (by omega) fun bb o _ hc=>⟨_,aj.no (by have:=hc;unfold Cell at this;rwa [fE]at this),?_⟩⟩⟩;rw[jQ 2 h6.1 (by have:=h6.2;omega),jQ 8 h5.1 (by have:=h5.2;omega)];exact Ar.u16 (by omega) (k _ (Ext.refl _ _).drew)
end
section
variable {w w':Wd}
theorem Jx(t c:Int):(arN t c).length=12:=by simp[arN,aK]
theorem PN(t g:Int):(arB t g).length=6:=by simp[arB,aK]
theorem Jy(t c:Int):B8 (arN t c):=(cv _ _).append (cv _ _)
theorem TP(t g:Int):B8 (arB t g):=(cv _ _).append (cv _ _)
def kg(rl:List Int)(t g c:Int)(kl:List Int):List Int:=gcmL (lf rl 2 g) (arN t c) (arB t g) kl
theorem wv{rl:List Int}{t g c:Int}{kl:List Int}(hr:B8 rl)(hk:kl.length=16):(kg rl t g c kl).length=32:=by unfold kg;rw[vK (gV hr VJ) (Jy _ _),hk]
theorem FJ{rl:List Int}{t g c:Int}{kl:List Int}(hr:B8 rl)(hk:B8 kl):B8 (kg rl t g c kl):=PH (gV hr VJ) (Jx _ _) (Jy _ _) hk
theorem Q2{root key:Sl}{rl kl:List Int}{tenant gen commit:Int}{K:Int->Int->Sl->Int->Pw}(hr:aQ w.heap root rl)(YO:B8 rl)(YP:root.len=32)(ht:0<=tenant/\tenant<=4294967295)(hg:0<=gen/\gen<=65535)(hc:lO commit)(hk:aQ w.heap key kl)(jj:B8 kl)(Cy:key.len=16)
  (k:∀s w',aL w'.heap w.heap.size s (kg rl tenant gen commit kl)->Ext No w w'->K gen commit s 0 w'):uV root tenant gen commit key w K:=by
 apply LG
 refine fun b w1 n1=>AH (hr.no n1.ext) YO YP fun s2 w2 o2 x2=>⟨fun u=>u=w2,If.bne (fun h=>absurd rfl h) fun _=>If.bne (fun h=>by omega) fun _=>rfl,?_⟩
 rintro _ w5 rfl;have s1:=n1.at_;have z1:=n1.size;have l2s:=x2.size;have vJ:Ext No w w5:=n1.ext.no x2;have hB2:=gV (p:=2) (g:=gen) YO VJ;have h2l:s2.len=32:=by rw[aL.len o2];exact jR YO VJ
 refine CC ht hg hc fun sn sa w6 on oa x6=>?_
 have Gd:sn.len=12:=by rw[aL.len on];exact Jx _ _
 have Sm:sa.len=6:=by rw[aL.len oa];exact PN _ _
 have zk:=vJ.no x6
 refine AF (o2.rd.no x6) hB2 (.inr h2l) on.rd (Jy _ _) Gd oa.rd (TP _ _) (by omega) (hk.no zk) jj (by omega) (by omega) fun s7 w7 o7 x7=>If.bne (fun h=>absurd rfl h) fun _=>⟨rfl,?_⟩
 have Cz:w1.heap[b]? = some (.cells [Value.int .u16 0,.int .u64 0,.slice none 0 0].toArray 146 (0,0)):=n1.get;have Eg:Ext No w1 w7:=(x2.no x6).no x7;have hb7:w7.heap[b]? = _:=(Eg.aw b (Array.getElem?_eq_some_iff.1 Cz).1 fun h=>h).trans Cz;have l6:=x6.size;have l7s:=x7.size;refine⟨_,_,_,hb7,rfl,by show 0+3<=3;omega,.inr (.inr (Nat.le_refl _)),fun v hv=>?_,fun w9 hw9=>?_⟩
 .simp only[List.mem_cons,List.not_mem_nil,or_false]at hv;rcases hv with rfl | rfl | rfl <;> rfl
 .have g9:w9.heap[b]? = some (.cells [Value.int .u16 gen,.int .u64 commit,.slice s7.a s7.len s7.cap].toArray 146 (0,0)):=hw9.get hb7;have x9:Ext (fun i=>i=b) w7 w9:=hw9.ext;refine⟨gen,Cell.af g9 rfl,commit,Cell.af g9 rfl,s7,Cell.af g9 rfl,k s7 w9 ?_ ((zk.no x7).out x9 (by omega))⟩;exact(o7.ext x9 fun i hi e=>by have:=(o7.lt hi).1;omega).mono (by omega)
theorem LZ{root wr:Sl}{rl kl:List Int}{tenant gen commit:Int}{K:Sl->Int->Pw}(hr:aQ w.heap root rl)(YO:B8 rl)(YP:root.len=32)(ht:0<=tenant/\tenant<=4294967295)(hg:0<=gen/\gen<=65535)(hc:lO commit)(hwr:aQ w.heap wr (kg rl tenant gen commit kl))(jj:B8 kl)(Cy:kl.length=16)
  (k:∀s w',aL w'.heap w.heap.size s kl->Ext No w w'->K s 0 w'):qv root tenant gen commit wr w K:=by
 apply GO;refine fun b w1 n1=>?_
 have g1:w1.heap[b]? = some (.cells [Value.int .u16 gen,.int .u64 commit,.slice wr.a wr.len wr.cap].toArray 146 (0,0)):=n1.get;have mv:∀{u:Wd},Ext No w1 u->u.heap[b]? = some (.cells [Value.int .u16 gen,.int .u64 commit,.slice wr.a wr.len wr.cap].toArray 146 (0,0)):=fun x=>(x.aw b (Array.getElem?_eq_some_iff.1 g1).1 fun h=>h).trans g1
 have A_:wr.len=32:=by rw[aQ.len hwr];exact wv YO Cy
 refine⟨gen,Cell.af g1 rfl,AH (hr.no n1.ext) YO YP fun s2 w2 o2 x2=>⟨fun u=>u=w2,If.bne (fun h=>absurd rfl h) fun _=>⟨wr,Cell.af (mv x2) rfl,If.bne (fun h=>by omega) fun _=>rfl⟩,?_⟩⟩;rintro _ w3 rfl;have h2l:s2.len=32:=by rw[aL.len o2];exact jR YO VJ
 refine⟨gen,Cell.af (mv x2) rfl,commit,Cell.af (mv x2) rfl,CC ht hg hc fun sn sa w4 on oa x4=>⟨wr,Cell.af (mv (x2.no x4)) rfl,?_⟩⟩;have Gd:sn.len=12:=by rw[aL.len on];exact Jx _ _
 have Sm:sa.len=6:=by rw[aL.len oa];exact PN _ _
 have th:=(n1.ext.no x2).no x4;exact AG (o2.rd.no x4) (gV YO VJ) (.inr h2l) on.rd (Jy _ _) Gd oa.rd (TP _ _) (by omega) (hwr.no th) jj (by omega) (by omega) fun s5 w5 o5 x5=>k s5 w5 (o5.mono th.size) (th.no x5)
end
end Go.Proofs.YtiigcapldngijaaGreat
namespace Go.V
section
variable {α:Type} [DecidableEq α] {P:Program} {kt mt et:TypeId} {enc:α->Value} {w:Wd} {r:Nat} {m:List (α×Value)} {a:α}
theorem mX(K:uP P kt enc)(ht:P.underlying mt=some (.map kt et)){z:Value}(hz:(zeroValue et).run P w = .ok z w)(h:cY w.heap enc r m):(Instr.lookup mt (.map (some r)) (enc a) true).run P w = .ok (.tuple #[(l_ a m).getD z,.bool (l_ a m).isSome]) w:=by
 obtain⟨es,clock,hb,he,hB⟩:=h;have hf:=K.fk a es.toList m w he;have hg:=oC a m 0;simp only[Instr.lookup,Sem.run_bind,aD ht,Result.andThen_ok,dB hb,K.ck,hf,Sem.run_pure]
 cases Gv:jb a m 0 with
 | none=>rw[Gv]at hg;simp only[Option.map_none]at hg;rw[<- hg];simp[hz]
 | some p=>rw[Gv]at hg;simp only[Option.map_some]at hg;rw[<- hg];simp
end
end Go.V
namespace Go.Proofs.YtiigcapldngijaaGreat
open Go.V
structure Wh where
 t:Int
 g:Int
deriving DecidableEq
abbrev uz(q:Wh):Value:= .agg (#[.int .u32 q.t,.int .u16 q.g])
theorem ac0(a x:Wh)(w:Wd):(Op.equal 155 (uz a) (uz x)).run pz w = .ok (decide (a=x)) w:=by
 have h:eqS pz 155 [.int .u32 a.t,.int .u16 a.g] [.int .u32 x.t,.int .u16 x.g]=some ((a.t == x.t) && ((a.g == x.g) && true)):=by kernel_rfl
 have:=(v_ (cs:=#[.int .u32 a.t,.int .u16 a.g]) (ds:=#[.int .u32 x.t,.int .u16 x.g]) h).2 w
 have e:((a.t == x.t) && ((a.g == x.g) && true))=decide (a=x):=by
  rw[Bool.eq_iff_iff];simp only[Bool.and_eq_true,beq_iff_eq,decide_eq_true_eq];constructor
  .rintro⟨h1,h2,_⟩
   cases a;cases x;simp_all
  .rintro rfl;simp
 rw[e]at this;exact this
theorem ac1(b:Bool)(a:Wh)(w:Wd):(Instr.checkKey b 10000 155 (uz a)).run pz w = .ok () w:=by kernel_rfl
theorem aaN:∃fs,Tryz.prog.underlying 155=some (.struct fs):=by
 have h:(match Tryz.prog.underlying 155 with | some (.struct _)=>true | _=>false)=true:=by kernel_rfl
 split at h
 .exact⟨_,by assumption⟩
 .cases h
theorem Oq:uP pz 155 uz:=by
 refine⟨ac1,fun a es m w he=>?_,fun a=>by simp[Instr.sameBits]⟩;obtain⟨fs,hu⟩:=aaN
 have ask:∀(es:List MapEntry)(m:List (Wh×Value))(i:Nat),es.map (fun e=>(e.key,e.val))=m.map (fun p=>(uz p.1,p.2))->(Instr.findAsking 155 (uz a) es i).run pz w = .ok (jb a m i) w:=by
  intro es
  induction es with
  | nil=>intro m i h;cases m with | nil=>rfl | cons=>cases h
  | cons e es ih=>
   intro m i h
   cases m with
   | nil=>cases h
   | cons p m=>
    simp only[List.map_cons,List.cons.injEq,Prod.mk.injEq]at h;unfold Instr.findAsking jb;rw[h.1.1];simp only[Sem.run_bind,ac0,Result.andThen_ok];by_cases Tk:a=p.1
    .simp[Tk,h.1.2]
    .simp only[Tk,decide_false,Bool.false_eq_true,if_false];exact ih m (i+1) h.2
 simp only[Instr.findKey,Sem.run_bind,aD hu,Result.andThen_ok]
 cases es with
 | nil=>cases m with
  | nil=>rfl
  | cons=>cases he
 | cons e es=>
  have:Instr.findNow (.struct fs) (uz a) (e::es) 0=none:=by unfold Instr.findNow;simp[Instr.sameNow]
  rw[this];exact ask _ _ 0 he
theorem Jz:Tryz.prog.underlying 151=some (.map 155 22):=by kernel_rfl
structure RK where
 q:Wh
 s:Sl
 l:List Int
abbrev RK.e(k:RK):Wh×Value:=(k.q,k.s.v)
structure kh(u:Wd)(rb mb:Nat)(ks:List RK):Prop where
 aw:u.heap[rb]? = some (.cells [Value.map (some mb)].toArray 153 (0,0))
 map:cY u.heap uz mb (ks.map RK.e)
 key:∀k∈ks,aQ u.heap k.s k.l/\B8 k.l/\(k.s.len=16∨k.s.len=32)
 ne:rb≠mb
 nk:∀k∈ks,k.s.aw≠some mb
abbrev ki(ks:List RK)(q:Wh):Option RK:=ks.find? fun k=>decide (q=k.q)
theorem FK(ks:List RK)(q:Wh):l_ q (ks.map RK.e)=(ki ks q).map fun k=>k.s.v:=by
 induction ks with
 | nil=>rfl
 | cons k ks ih=>
  simp only[List.map_cons,l_,ki,List.find?_cons];by_cases h:q=k.q
  .simp[h]
  .simp only[h,if_false,decide_false];exact ih
section
variable {w w':Wd} {rb mb:Nat} {ks:List RK}
theorem kh.ext{S:Nat->Prop}(R:kh w rb mb ks)(x:Ext S w w')(h1:¬ S rb)(h2:¬ S mb)(h3:∀k∈ks,∀i,k.s.aw=some i->¬ S i):kh w' rb mb ks:=
 ⟨(x.aw rb (Array.getElem?_eq_some_iff.1 R.aw).1 h1).trans R.aw,R.map.ext x h2,fun k hk=>⟨(R.key k hk).1.ext x fun a b ha hb hS=>h3 k hk b (by simp[Sl.aw,ha,hb]) hS,(R.key k hk).2⟩,R.ne,R.nk⟩
theorem kh.no(R:kh w rb mb ks)(x:Ext No w w'):kh w' rb mb ks:=R.ext x (fun h=>h) (fun h=>h) fun _ _ _ _ h=>h
theorem AL{K:Option Addr->Pw}(k:∀rb mb w',kh w' rb mb []->w.heap.size<=rb->w.heap.size<=mb->Ext No w w'->K (some ⟨rb,0,none⟩) w'):oN w K:=by
 apply EZ;refine fun b w1 n1 b1 w2 n2=>k b1 b w2 ⟨n2.get,?_,(fun _ h=>nomatch h),?_,(fun _ h=>nomatch h)⟩ ?_ ?_ (n1.ext.no n2.ext)
 .exact⟨#[],0,(n2.ext.aw b (Array.getElem?_eq_some_iff.1 n1.get).1 fun h=>h).trans n1.get,rfl,cW.nil⟩
 all_goals (have s1:=n1.at_;have s2:=n2.at_;have z1:=n1.size;omega)
theorem W5{s:Sl}{l:List Int}{K:Sl->Pw}(r:aQ w.heap s l)(h1:1<=s.len)(h2:s.len<=100000)(k:∀s' w',aL w'.heap w.heap.size s' l->Ext No w w'->K s' w') :
  au w (.cells ([]:List Value).toArray 5) fun b w2=>bj pz 22 22 ⟨some (Addr.mk b 0 none),0,0⟩ (.slice s.a s.len s.cap) K w2:=by
 refine fun b w2 n2=>po (l:=[]) ⟨rfl,Nat.le_refl _,fun h=>absurd rfl h,fun _ h=>nomatch h⟩ (by show 0 < 0+s.len;omega) (r.no n2.ext) (by show 0+s.len<=_;omega) fun s' w3 o x=>?_
 have:=n2.ext.size;exact k s' w3 (by rw[List.nil_append]at o;exact o.mono (by omega)) (n2.ext.no x)
theorem YQ(w:Wd):(zeroValue 22).run pz w = .ok (.slice none 0 0) w:=by kernel_rfl
theorem gM{t g:Int}{q:RK}{K:Sl->Int->Pw}(R:kh w rb mb ks)(hf:ki ks ⟨t,g⟩=some q)(k:∀s w',aL w'.heap w.heap.size s q.l->Ext No w w'->K s 0 w'):bV (some ⟨rb,0,none⟩) t g w K:=by
 apply DH;have hm:q∈ks:=List.mem_of_find?_eq_some hf;obtain⟨r1,_,r3⟩:=R.key q hm;have hl:=mX (a:=(⟨t,g⟩ : Wh)) Oq Jz (YQ w) R.map;rw[FK,hf]at hl;refine If.no (Nn.mk ⟨some mb,Cell.af R.aw rfl,q.s,true,w,hl,If.no ?_⟩);exact W5 r1 (by omega) (by omega) k
theorem og{t g:Int}{key:Sl}{kl:List Int}{K:Int->Pw}(R:kh w rb mb ks)(hf:ki ks ⟨t,g⟩=none)(hk:aQ w.heap key kl)(hB:B8 kl)(hlen:key.len=16∨key.len=32)
  (k:∀s w',kh w' rb mb (ks++[⟨⟨t,g⟩,s,kl⟩])->(∀i,s.aw=some i->w.heap.size<=i)->Ext (·=mb) w w'->K 0 w'):eI (some ⟨rb,0,none⟩) t g key w K:=by
 apply DE;have hl:=mX (a:=(⟨t,g⟩ : Wh)) Oq Jz (YQ w) R.map;rw[FK,hf]at hl;refine If.no (FG hlen ⟨by decide,by decide⟩ (If.not (If.yes (Nn.mk ⟨some mb,Cell.af R.aw rfl,⟨none,0,0⟩,false,w,hl,If.no ?_⟩))));refine⟨Ext (·=mb) w,(Ext.refl _ _).drew,Nn.mk ⟨some mb,aj.aF (Cell.af R.aw rfl) R.ne,fun b w3 n3=>⟨(n3.ext.an).az,?_⟩⟩⟩;have x3:Ext No w w3:=n3.ext.an
 refine po (l:=[]) ⟨rfl,Nat.le_refl _,fun h=>absurd rfl h,fun _ h=>nomatch h⟩ (by show 0 < 0+key.len;omega) (hk.no x3) (by show 0+key.len<=_;omega) fun s w4 o4 x4=>⟨(x3.no x4).az,?_⟩
 rw[List.nil_append]at o4;have R4:=R.no (x3.no x4);obtain⟨w5,h5,m5,x5,z5⟩:=aG (a:=(⟨t,g⟩ : Wh)) (v:=s.v) Oq Jz R4.map;have nI:Ext (·=mb) w w5:=((x3.no x4).az (S:=(·=mb))).trans x5 fun i _ e=>e
 have l3:=x3.size;have l4:=x4.size;have hs:s.len=key.len:=by rw[aL.len o4,<- aQ.len hk]
 have YR:mb < w.heap.size:=by obtain⟨es,clock,hb,_⟩:=R.map;exact(Array.getElem?_eq_some_iff.1 hb).1
 refine⟨w5,h5,nI,k s w5 ⟨(x5.aw rb (Array.getElem?_eq_some_iff.1 R4.aw).1 R.ne).trans R4.aw,?_,fun q hq=>?_,R.ne,fun q hq=>?_⟩ (fun i hi=>by have:=(o4.lt hi).1;omega) nI⟩
 .rw[List.map_append]
  have e:zU (⟨t,g⟩ : Wh) s.v (ks.map RK.e)=ks.map RK.e++[(⟨t,g⟩,s.v)]:=by
   have hg:l_ (⟨t,g⟩ : Wh) (ks.map RK.e)=none:=by rw[FK,hf];rfl
   have Gv:jb (⟨t,g⟩ : Wh) (ks.map RK.e) 0=none:=by have:=oC (⟨t,g⟩ : Wh) (ks.map RK.e) 0;rw[hg]at this;simpa using this
   exact(ma (v:=s.v) Gv).1
  rw[e]at m5;exact m5
 .rcases List.mem_append.1 hq with h | h
  .refine⟨(R4.key q h).1.ext x5 fun a b ha hb hS=>?_,(R4.key q h).2⟩;exact R.nk q h (by simp only[Sl.aw,ha,Option.map_some];rw[hb];exact congrArg some hS)
  .simp only[List.mem_singleton]at h;subst h;exact⟨(o4.ext x5 fun i hi e=>by have:=(o4.lt hi).1;omega).rd,hB,by simp only[hs];exact hlen⟩
 .rcases List.mem_append.1 hq with h | h
  .exact R.nk q h
  .simp only[List.mem_singleton]at h;subst h;exact fun e=>by have:=(o4.lt e).1;omega
end
section
variable {w w':Wd}
theorem dU{K:Pw}(k:K w):aV 0 w K:=by
 apply IL;exact If.beq (fun _=>k) fun h=>absurd rfl h
theorem eO{x:Sl}{K:Sl->Pw}(k:K x w):bh x 0 w K:=by
 apply Ac;exact dU k
theorem zm{x:Sl}{K:Sl->Pw}(k:K x w):dR x 0 w K:=by
 apply sQ;exact dU k
theorem HT{x:Sl}{K:Sl->Pw}(k:K x w):gX x 0 w K:=by
 apply ue;exact dU k
theorem FL{x:Option Addr}{K:Option Addr->Pw}(k:K x w):fu x 0 w K:=by
 apply qD;exact dU k
theorem L0{x:Int}{K:Int->Pw}(k:K x w):iM x 0 w K:=by
 apply wQ;exact dU k
theorem fW{b:Nat}{cs:List Value}{T:TypeId}{d:Addr}{K:Bool->Pw}(h:w.heap[b]? = some (.cells cs.toArray T (0,0)))(hd:cs[4]? = some (.pointer (some d)))(k:K false w):aE (some ⟨b,0,none⟩) w K:=by
 apply jP;exact If.no (Nn.mk ⟨some d,Cell.af h hd,k⟩)
theorem TQ{K:Bool->Pw}(k:K true w):aE none w K:=by
 apply jP;exact If.yes k
theorem oh{K:Option Addr->Pw}(k:∀b w',w'.heap[b]? = some (.cells [Value.map none,.int .u64 0].toArray 204 (0,0))->b=w.heap.size->Ext No w w'->K (some ⟨b,0,none⟩) w'):mf w K:=by
 apply N6;exact fun b w1 n1=>k b w1 n1.get n1.at_ n1.ext
theorem L1{K:Option Addr->Pw}(k:∀b w',w'.heap[b]? = some (.cells [Value.slice none 0 0].toArray 123 (0,0))->b=w.heap.size->Ext No w w'->K (some ⟨b,0,none⟩) w'):qu w K:=by
 apply GG;exact fun b w1 n1=>k b w1 n1.get n1.at_ n1.ext
theorem L2{n:Int}{K:Int->Int->Pw}(h:0<=n/\n<=64)(k:K (8 * n+4) 0 w):wo n w K:=by
 apply QN;exact If.dec (fun h=>by omega) fun _=>If.dec (fun h=>by omega) fun _=>Ar.i64 (by omega) (Ar.i64 (by omega) k)
theorem L3{q:Int}{K:Int->Int->Pw}(h:1<=q/\q<=1000)(k:K (4 * q+2) 0 w):Br q w K:=by
 apply QK;exact If.dec (fun h=>by omega) fun _=>If.dec (fun h=>by omega) fun _=>Ar.i64 (by omega) (Ar.i64 (by omega) k)
theorem Q3{s:Sl}{q blocks:Int}{K:Bool->Int->Pw}(hs:Rd w.heap s 1 ([q].map (Value.int .i64)))(hq:1<=q/\q<=1000)(k:K (decide (12+(4 * q+2)<=blocks)) 0 w):sj blocks s w K:=by
 apply Ji;have hl:s.len=1:=by have:=hs.len;simpa using this.symm
 have e:((s.len:Nat):Int)=1:=by omega
 show wo ((s.len:Nat):Int) w _;rw[e];refine L2 (by omega) (If.bne (fun h=>absurd rfl h) fun _=>?_);apply DQ;refine⟨fun m all t u=>u=w/\((m=1/\all=0/\t=0)∨(m=0/\all=4 * q+2/\t=1)),⟨1,rfl,.inl ⟨rfl,rfl,rfl⟩⟩,?_⟩;rintro _ m all t w1 ⟨rfl,h⟩;refine If.dec (fun ht=>?_) fun ht=>?_
 .have h1:m=1/\all=0/\t=0:=by rcases h with h | h;exact h;omega
  obtain⟨rfl,rfl,rfl⟩:=h1
  refine Ix.int hs (by omega) (by omega) fun b o _ hc=>⟨q,hc,QL (L3 hq (If.bne (fun h=>absurd rfl h) fun _=>Ar.i64 (by omega) (Ar.i64 (by omega) ⟨0,by omega,rfl,.inr ⟨rfl,by omega,rfl⟩⟩)))⟩
 .have h1:all=4 * q+2:=by rcases h with h | h;omega;exact h.2.1
  subst h1;refine If.bne (fun h=>absurd rfl h) fun _=>Ar.i64 (by omega) ?_
  exact k
theorem Ot{s:Sl}{K:Int->Int->Int->Int->Int->Pw}(h:aQ w.heap s (List.replicate 256 0))(k:K 0 0 0 0 100 w):mO s w K:=by
 apply Ct;have hl:s.len=256:=by rw[aQ.len h];simp
 refine If.bne (fun h=>absurd (by rw[hl];rfl) h) fun _=>⟨fun _=>False,?_,fun _ _ h=>h.elim⟩
 refine h.BQ (by decide) (by decide) (by omega) fun s' CZ od=>mH.mk CZ (fun b o v hv=>Cell.mk hv) ?_
 have hc:(ByteArray.toList ⟨(C_ ((List.replicate 256 (0:Int)).drop ((0:Int).toNat * 1) |>.take (((4:Int) - 0).toNat * 1))).toArray⟩ == ByteArray.toList ⟨#[67,72,84,49]⟩)=false:=by
  rw[toList_mk,show(⟨#[67,72,84,49]⟩ : ByteArray)=⟨([67,72,84,49]:List UInt8).toArray⟩ from rfl,toList_mk]
  decide
 rw[hc];exact If.yes k
end
end Go.Proofs.YtiigcapldngijaaGreat
namespace Go.V
section
variable {α:Type} {P:Program} {w w':Wd} {mt kt et:TypeId} {enc:α->Value} {r it:Nat} {m sm:List (α×Value)}
abbrev rG(enc:α->Value)(l:List (α×Value)):List (Value×Value):=l.map fun p=>(enc p.1,p.2)
def Ei(enc:α->Value)(w:Wd)(it r:Nat)(m sm:List (α×Value)):Prop:=∃(es:Array MapEntry) (clock:Nat) (seen:List MapEntry),w.heap[it]? = some (.mapIter (some r) clock (seen.map (·.born)).toArray clock)/\w.heap[r]? = some (.map es clock)/\cW es.toList clock/\es.toList.map (fun e=>(e.key,e.val))=rG enc m/\seen.map (fun e=>(e.key,e.val))=rG enc sm/\(seen.map (·.born)).Nodup/\∀e∈seen,e∈es.toList
theorem lq{α β:Type}(f:α->β){l:List α}(h:(l.map f).Nodup):l.Nodup:=List.Pairwise.of_map f (fun a b h e=>h (by rw[e])) h
theorem born_inj{l:List MapEntry}(hn:(l.map (·.born)).Nodup){e e':MapEntry}(h:e∈l)(h':e'∈l)(hb:e.born=e'.born):e=e':=by
 induction l with
 | nil=>cases h
 | cons x l ih=>
  simp only[List.map_cons,List.nodup_cons]at hn;rcases List.mem_cons.1 h with h1 | h1 <;> rcases List.mem_cons.1 h' with h2 | h2
  .rw[h1,h2]
  .exact absurd (List.mem_map.2 ⟨e',h2,by rw[<- hb,h1]⟩) hn.1
  .exact absurd (List.mem_map.2 ⟨e,h1,by rw[hb,h2]⟩) hn.1
  .exact ih hn.2 h1 h2
theorem Ei.ext{S:Nat->Prop}(h:Ei enc w it r m sm)(x:Ext S w w')(h1:¬ S it)(h2:¬ S r):Ei enc w' it r m sm:=by
 obtain⟨es,clock,seen,a,b,c⟩:=h;exact⟨es,clock,seen,(x.aw it (Array.getElem?_eq_some_iff.1 a).1 h1).trans a,(x.aw r (Array.getElem?_eq_some_iff.1 b).1 h2).trans b,c⟩
theorem Ei.no(h:Ei enc w it r m sm)(x:Ext No w w'):Ei enc w' it r m sm:=h.ext x (fun h=>h) fun h=>h
theorem Ei.lt(h:Ei enc w it r m sm):it < w.heap.size:=by
 obtain⟨es,clock,seen,a,b,c⟩:=h;exact(Array.getElem?_eq_some_iff.1 a).1
theorem Ei.start(ht:P.underlying mt=some (.map kt et))(h:cY w.heap enc r m):∃w1,(Instr.range mt (.map (some r))).run P w = .ok (.pointer (some ⟨w.heap.size,0,none⟩)) w1/\Ei enc w1 w.heap.size r m []/\Ext No w w1/\w1.heap.size=w.heap.size+1:=by
 obtain⟨es,clock,b,d,c⟩:=h;obtain⟨w1,eH,hn⟩:=QD (P:=P) ht b;exact⟨w1,eH,⟨es,clock,[],hn.get,(hn.ext.aw r (Array.getElem?_eq_some_iff.1 b).1 fun h=>h).trans b,c,d,rfl,.nil,fun _ h=>nomatch h⟩,hn.ext,hn.size⟩
theorem Q4{es seen:List MapEntry}(hn:(es.map (·.born)).Nodup)(hs:(seen.map (·.born)).Nodup)(L5:∀e∈seen,e∈es):∃rest,(seen++rest).Perm es:=by
 refine⟨es.filter fun e=>!(seen.map (·.born)).contains e.born,(List.perm_ext_iff_of_nodup ?_ (lq _ hn)).2 fun x=>?_⟩
 .refine List.nodup_append.2 ⟨lq _ hs,(lq _ hn).filter _,fun a ha b hb e=>?_⟩;subst e;have:=(List.mem_filter.1 hb).2;simp only[Bool.not_eq_true',List.contains_eq_mem,decide_eq_false_iff_not]at this;exact this (List.mem_map.2 ⟨a,ha,rfl⟩)
 .constructor
  .intro h;rcases List.mem_append.1 h with h | h
   .exact L5 x h
   .exact(List.mem_filter.1 h).1
  .intro h;by_cases hx:x.born∈seen.map (·.born)
   .obtain⟨y,hy,e⟩:=List.mem_map.1 hx;exact List.mem_append.2 (.inl (born_inj hn (L5 y hy) h e ▸ hy))
   .refine List.mem_append.2 (.inr (List.mem_filter.2 ⟨h,?_⟩));simpa using hx
theorem Ei.next(h:Ei enc w it r m sm)(du:it≠r) :
  ((rG enc sm).Perm (rG enc m)/\∃w',(Instr.next (.pointer (some ⟨it,0,none⟩)) false 0).run P w = .ok (.tuple #[.bool false]) w'/\Ext No w w')∨
  ∃p w',(Instr.next (.pointer (some ⟨it,0,none⟩)) false 0).run P w = .ok (.tuple #[.bool true,enc p.1,p.2]) w'/\(Instr.entry (.pointer (some ⟨it,0,none⟩))).run P w' = .ok (.tuple #[enc p.1,p.2]) w'/\Ei enc w' it r m (sm++[p])/\Ext (·=it) w w'/\p∈m/\(∃rest,(rG enc (sm++[p])++rest).Perm (rG enc m))/\sm.length < m.length:=by
 obtain⟨es,clock,seen,hi,hb,hB,hm,hs,hnd,L5⟩:=h;rcases Tm (P:=P) hi hb hB with⟨nK,w',eH,hx⟩ | ⟨e,hem,L6,w',eH,qO,hx⟩
 .refine .inl ⟨?_,w',eH,hx⟩
  have hp:seen.Perm es.toList:=(List.perm_ext_iff_of_nodup (lq _ hnd) (lq _ hB.1)).2 fun x=>⟨L5 x,fun VG=>by
   have:=nK x VG;simp only[List.mem_map]at this;obtain⟨y,hy,hb⟩:=this
   exact born_inj hB.1 (L5 y hy) VG hb ▸ hy⟩
  rw[<- hm,<- hs];exact hp.map _
 .have:(e.key,e.val)∈rG enc m:=hm ▸ List.mem_map.2 ⟨e,hem,rfl⟩;obtain⟨p,hpm,hp⟩:=List.mem_map.1 this;have hk:e.key=enc p.1:=(congrArg Prod.fst hp).symm;have hv:e.val=p.2:=(congrArg Prod.snd hp).symm;have hmr:w'.heap[r]? = some (.map es clock):=(hx.aw r (Array.getElem?_eq_some_iff.1 hb).1 (Ne.symm du)).trans hb
  have ac2:((seen++[e]).map (·.born)).Nodup:=by
   rw[List.map_append];refine List.nodup_append.2 ⟨hnd,by simp,fun a ha b hb=>?_⟩;simp only[List.map_cons,List.map_nil,List.mem_singleton]at hb;subst hb;rintro rfl;exact L6 (by simpa using ha)
  have YS:∀x∈seen++[e],x∈es.toList:=fun x hx=>by
   rcases List.mem_append.1 hx with h | h
   .exact L5 x h
   .rw[List.mem_singleton]at h;rw[h];exact hem
  have CZ:(seen++[e]).map (fun e=>(e.key,e.val))=rG enc (sm++[p]):=by rw[List.map_append,hs];simp[rG,hk,hv]
  have ac3:=QE (P:=P) qO hmr hB hem;rw[hk,hv]at ac3 eH;obtain⟨rest,YT⟩:=Q4 hB.1 ac2 YS;refine .inr ⟨p,w',eH,ac3,⟨es,clock,seen++[e],by simpa using qO,hmr,hB,hm,CZ,ac2,YS⟩,hx,hpm,⟨rest.map fun e=>(e.key,e.val),?_⟩,?_⟩
  .rw[<- CZ,<- hm,<- List.map_append];exact YT.map _
  .have h1:=YT.length_eq;have h2:es.toList.length=m.length:=by have:=congrArg List.length hm;simpa using this
   have h3:seen.length=sm.length:=by have:=congrArg List.length hs;simpa using this
   simp only[List.length_append,List.length_cons,List.length_nil]at h1;omega
end
end Go.V
namespace Go.Proofs.YtiigcapldngijaaGreat
open Go.V
section
variable {w:Wd}
theorem AM{x:Int}{K:Int->Pw}(h0:0<=x)(h1:x<=1)(k:∀r,K r w):eJ x w K:=by
 apply tN;apply qa;refine⟨fun a b u=>x=a/\0=b/\w=u,If.dec (fun h=>by omega) fun _=>⟨rfl,rfl,rfl⟩,?_⟩;rintro _ _ _ _ ⟨rfl,rfl,rfl⟩;refine⟨fun a b u=>x=a/\0=b/\w=u,If.dec (fun h=>by omega) fun _=>⟨rfl,rfl,rfl⟩,?_⟩;rintro _ _ _ _ ⟨rfl,rfl,rfl⟩;refine⟨fun a b u=>x=a/\0=b/\w=u,If.dec (fun h=>by omega) fun _=>⟨rfl,rfl,rfl⟩,?_⟩;rintro _ _ _ _ ⟨rfl,rfl,rfl⟩;have hx:x=0∨x=1:=by omega
 refine Ar.u8 (by omega) ?_;rcases hx with rfl | rfl
 .exact⟨0,by omega,rfl,Ar.i64 (by decide) (Ar.i64 (by decide) (k _))⟩
 .exact⟨1,by omega,rfl,Ar.i64 (by decide) (Ar.i64 (by decide) (k _))⟩
theorem JA{x:Sl}{K:Pw}(h:x.len<=1)(k:K w):dT x w K:=by
 apply nZ;refine Ar.u64 (by omega) (AM (by omega) (by omega) fun r=>?_);apply mi;refine⟨fun _ a b _ _ _ u=>0=a/\(x.len:Int)=b/\w=u,⟨0,rfl,rfl,rfl⟩,?_⟩;rintro _ _ _ _ l b1 b2 _ ⟨rfl,rfl,rfl⟩;refine Ar.i64 (by omega) (If.dec (fun _=>?_) fun h=>by omega);apply iQ;refine Ar.i64 (by omega) ⟨fun _ i u=>1=i/\w=u,⟨0,rfl,rfl⟩,?_⟩;rintro _ _ _ _ ⟨rfl,rfl⟩;exact If.dec (fun h=>by omega) fun _=>k
theorem JB{x:Sl}{K:Pw}(h:x.len<=1)(k:K w):bM x w K:=by
 apply hY;refine Ar.u64 (by omega) (AM (by omega) (by omega) fun r=>?_);apply fU;refine⟨fun _ a b _ _ _ u=>0=a/\(x.len:Int)=b/\w=u,⟨0,rfl,rfl,rfl⟩,?_⟩;rintro _ _ _ _ l b1 b2 _ ⟨rfl,rfl,rfl⟩;refine Ar.i64 (by omega) (If.dec (fun _=>?_) fun h=>by omega);apply dM;refine Ar.i64 (by omega) ⟨fun _ i u=>1=i/\w=u,⟨0,rfl,rfl⟩,?_⟩;rintro _ _ _ _ ⟨rfl,rfl⟩;exact If.dec (fun h=>by omega) fun _=>k
theorem aaO{x y:Int}{K:Bool->Pw}(k:K (decide (x < y)) w):kN x y w K:=by
 apply Al;apply yy;unfold pa;have:(x != x)=false:=by simp
 rw[this];exact If.no k
theorem afC{x:Sl}{base:Nat}{a b:Int}{K:Pw}(o:aP w.heap base 36 1 x ([a,b].map (Value.int .u32)))(hab:a≠b)(k:∀w',aP w'.heap base 36 1 x ((if a < b then[a,b] else[b,a]).map (Value.int .u32))->Ext (fun i=>x.aw=some i) w w'->K w'):bX x 0 2 w K:=by
 apply dM;have hl:x.len=2:=by have:=o.len;simpa using this.symm
 let D:Pw:=fun u=>aP u.heap base 36 1 x ((if a < b then[a,b] else[b,a]).map (Value.int .u32))/\Ext (fun i=>x.aw=some i) w u
 refine Ar.i64 (by decide) ⟨fun m i u=>(i=1/\m=1/\w=u)∨(i=2/\m=0/\D u),⟨1,.inl ⟨rfl,rfl,rfl⟩⟩,?_⟩;rintro _ m i u (⟨rfl,rfl,rfl⟩ | ⟨rfl,rfl,hD⟩)
 rotate_left
 .exact If.dec (fun h=>absurd h (by decide)) fun _=>k u hD.1 hD.2
 refine If.dec (fun _=>?_) fun h=>absurd (by decide) h
 refine⟨fun m j u=>(j=1/\m=1/\w=u)∨(j=0/\m=0/\D u),⟨1,.inl ⟨rfl,rfl,rfl⟩⟩,?_⟩;rintro _ m j u (⟨rfl,rfl,rfl⟩ | ⟨rfl,rfl,hD⟩)
 .refine⟨fun u=>b < a/\Ext No w u,⟨Ext No w,(Ext.refl _ _).drew,If.dec (fun _=>?_) fun h=>absurd (by decide) h⟩,?_⟩
  .refine Ix.int o.rd (by decide) (by omega) fun bb oo _ hc=>⟨b,aj.no (by have:=hc;unfold Cell at this;rwa [fE]at this),Ar.i64 (by decide) (Ix.int o.rd (by decide) (by omega) fun bb oo _ hc=>⟨a,aj.no (by have:=hc;unfold Cell at this;rwa [fE]at this),aaO ⟨(Ext.refl _ _).drew,If.dec (fun h=>⟨h,(Ext.refl _ _).drew⟩) fun h=>Ar.i64 (by decide) ⟨0,by decide,.inr ⟨rfl,rfl,?_,(Ext.refl _ _).drew⟩⟩⟩⟩)⟩
   rw[if_pos (by omega)];exact o
  .rintro _ w4 ⟨aN,x4⟩;have o4:aP (ae w4).heap base 36 1 x ([a,b].map (Value.int .u32)):=o.no (w':=ae w4) x4.drew;have fin:∀{u:Wd},aP u.heap base 36 1 x ([b,a].map (Value.int .u32))->Ext (fun i=>x.aw=some i) (ae w4) u->Ar .i64 (1 - 1) fun z=>∃m1,m1 < 1/\((z=1/\m1=1/\w=u)∨(z=0/\m1=0/\D u)):=fun {u} ou xu=>Ar.i64 (by decide) ⟨0,by decide,.inr ⟨rfl,rfl,by show aP _ _ _ _ _ _;rw[if_neg (by omega)];exact ou,x4.az.trans xu.an fun _ _ h=>h⟩⟩
   refine⟨Ext (fun i=>x.aw=some i) w4,(Ext.refl _ _).drew,Ar.i64 (by decide) (Ar.i64 (by decide) (Ix.int o4.rd (by decide) (by omega) fun b1 o1 _ c1=>Ix.int o4.rd (by decide) (by omega) fun b2 o2 _ c2=>⟨⟨a,c1,(Ext.refl _ _).drew,b,c2,(Ext.refl _ _).drew,?_⟩,⟨b,c2,(Ext.refl _ _).drew,a,c1,(Ext.refl _ _).drew,?_⟩⟩))⟩
   .refine aH.own o4 (by decide) (by omega) rfl fun w5 o5 x5 _=>⟨x5.an,aH.own o5 (by decide) (by omega) rfl fun w6 o6 x6 _=>⟨x5.an.trans x6 fun _ _ h=>h,fin o6 (x5.trans x6 fun _ _ h=>h)⟩⟩
   .refine aH.own o4 (by decide) (by omega) rfl fun w5 o5 x5 _=>⟨x5.an,aH.own o5 (by decide) (by omega) rfl fun w6 o6 x6 _=>⟨x5.an.trans x6 fun _ _ h=>h,fin o6 (x5.trans x6 fun _ _ h=>h)⟩⟩
 .refine⟨fun _=>False,⟨Ext No u,(Ext.refl _ _).drew,If.dec (fun h=>absurd h (by decide)) fun _=>Ar.i64 (by decide) ⟨0,by decide,.inr ⟨rfl,rfl,hD.1,hD.2.drew⟩⟩⟩,fun _ _ h=>h.elim⟩
theorem TR{x:Int}{K:Int->Pw}(h0:0<=x)(h1:x<=2)(k:∀r,K r w):eJ x w K:=by
 by_cases h:x<=1
 .exact AM h0 h k
 obtain rfl:x=2:=by omega
 apply tN;apply qa;refine⟨fun a b u=>2=a/\0=b/\w=u,If.dec (fun h=>by omega) fun _=>⟨rfl,rfl,rfl⟩,?_⟩;rintro _ _ _ _ ⟨rfl,rfl,rfl⟩;refine⟨fun a b u=>2=a/\0=b/\w=u,If.dec (fun h=>by omega) fun _=>⟨rfl,rfl,rfl⟩,?_⟩;rintro _ _ _ _ ⟨rfl,rfl,rfl⟩;refine⟨fun a b u=>2=a/\0=b/\w=u,If.dec (fun h=>by omega) fun _=>⟨rfl,rfl,rfl⟩,?_⟩;rintro _ _ _ _ ⟨rfl,rfl,rfl⟩;exact Ar.u8 (by decide) ⟨2,by omega,rfl,Ar.i64 (by decide) (Ar.i64 (by decide) (k _))⟩
theorem JC{x:Sl}{base:Nat}{a b:Int}{K:Pw}(o:aP w.heap base 36 1 x ([a,b].map (Value.int .u32)))(hab:a≠b)(k:∀w',aP w'.heap base 36 1 x ((if a < b then[a,b] else[b,a]).map (Value.int .u32))->Ext (fun i=>x.aw=some i) w w'->K w'):bM x w K:=by
 have hl:x.len=2:=by have:=o.len;simpa using this.symm
 apply hY;refine Ar.u64 (by omega) (TR (by omega) (by omega) fun r=>?_);apply fU;refine⟨fun _ p q _ _ _ u=>0=p/\2=q/\w=u,⟨0,rfl,by rw[hl];rfl,rfl⟩,?_⟩;rintro _ _ _ _ l b1 b2 _ ⟨rfl,rfl,rfl⟩;exact Ar.i64 (by omega) (If.dec (fun _=>afC o hab k) fun h=>absurd (by decide) h)
end
section
variable {w w':Wd} {rb mb:Nat} {ks:List RK}
theorem aN{o:Obj}{b:Nat}(h:w.heap[b]? = some o):b < w.heap.size:=(Array.getElem?_eq_some_iff.1 h).1
theorem bO.mk{b o:Nat}{cs vs:List Value}{T:TypeId}{K:Pw}(hb:w.heap[b]? = some (.cells cs.toArray T (0,0)))(ho:o+vs.length<=cs.length)(hv:∀v∈vs,cB v=true)
  (k:∀w',mG w b (.cells (setL cs o vs).toArray T (0,0)) w'->K w'):bO w ⟨b,o,none⟩ vs K:=
 ⟨cs.toArray,T,(0,0),hb,rfl,by simpa using ho,.inr (.inr (Nat.le_refl _)),hv,fun w' hw=>k w' hw⟩
theorem fx{zs vs:List Value}{T:TypeId}{n:Nat}{K:Nat->Pw}(hz:zs.length=vs.length)(hn:vs.length=n)(hv:∀v∈vs,cB v=true)(k:∀w',w'.heap[w.heap.size]? = some (.cells vs.toArray T (0,0))->w'.heap.size=w.heap.size+1->Ext No w w'->K w.heap.size w') :
  au w (.cells zs.toArray T) fun b w1=>List.length (α:=Value) vs=n/\bO w1 (Addr.mk b 0 none) vs (K b):=by
 intro b w1 n1;have hb:=n1.at_;refine⟨hn,bO.mk n1.get (by omega) hv fun w2 h2=>?_⟩;subst hb;have g:=h2.get n1.get;rw[qP vs zs hz.symm]at g;exact k w2 g (by rw[h2.size];exact n1.size) (n1.ext.out h2.ext (Nat.le_refl _))
theorem JD{e st:TypeId}{sz B:Nat}(ap:∀{w:Wd}{base:Nat}{s:Sl}{x:Value}{n:Nat}{cs xs:List Value}{K:Sl->Pw},aP w.heap base e sz s cs->base<=w.heap.size->Src pz w x sz n xs->(s.len+n) * B<=140737488355328->(∀s' w',aP w'.heap base e sz s' (cs++xs)->s'.len=s.len+n->Ext (fun b=>s.aw=some b) w w'->(s'.aw=s.aw∨∃b,s'.aw=some b/\w.heap.size<=b)->K s' w')->bj pz st st s x K w)(hB:B<=1000){base:Nat}{s:Sl}{cs xs:List Value}{K:Sl->Pw}(own:aP w.heap base e sz s cs)(dq:base<=w.heap.size)(hx:xs.length=sz)(hv:∀v∈xs,cB v=true)(hb:s.len<=1000000)
  (hk:∀s' w',aP w'.heap base e sz s' (cs++xs)->s'.len=s.len+1->Ext (fun b=>s.aw=some b) w w'->(s'.aw=s.aw∨∃b,s'.aw=some b/\w.heap.size<=b)->K s' w'):au w (.cells xs.toArray e) fun b w1=>bj pz st st s (.slice (some (Addr.mk b 0 none)) 1 1) K w1:=by
 intro b w1 n;have hz:=n.ext.size;have hm:(s.len+1) * B<=1000001 * 1000:=Nat.mul_le_mul (by omega) hB;refine ap (own.no n.ext) (by omega) (Rd.src (aP.new (n:=1) n (by omega) hv).rd) (Nat.le_trans hm (by decide)) fun s' w' o l x hs=>hk s' w' o l (Ext.trans n.ext.az x fun i _ h=>h) ?_
 rcases hs with h | ⟨b,h,hb⟩
 .exact .inl h
 .exact .inr ⟨b,h,by omega⟩
abbrev Ou:=@JD w 42 _ 1 _ (@NR) (by decide)
abbrev zo:=@JD w 36 _ 1 _ (@NT) (by decide)
abbrev G2:=@JD w 89 _ 6 _ (@xA) (by decide)
abbrev JE:=@JD w 22 _ 1 _ (@sO) (by decide)
theorem Q5{a:Value}(ha:cB a=true):∀v∈[a],cB v=true:=fun v hv=>by simp only[List.mem_singleton]at hv;subst hv;exact ha
theorem ac4{a b:Value}(ha:cB a=true)(hb:cB b=true):∀v∈[a,b],cB v=true:=fun v hv=>by simp only[List.mem_cons,List.mem_nil_iff,or_false]at hv;rcases hv with rfl | rfl <;> assumption
theorem a_{l:List Value}(h:l.all cB=true):∀v∈l,cB v=true:=List.all_eq_true.1 h
theorem ac5{a:Addr}{q:Wh}{K:Pw}(h:bO w a [.int .u32 q.t,.int .u16 q.g] K):xN pz 155 (.pointer (some a)) (uz q) K w:=by
 have e:xN pz 155 (.pointer (some a)) (uz q) K w=(2=2/\bO w a [.int .u32 q.t,.int .u16 q.g] K):=by kernel_rfl
 rw[e];exact⟨rfl,h⟩
abbrev vN(ks:List RK)(t:Int):List Int:=(ks.filter fun k=>decide (k.q.t=t)).map fun k=>k.q.g
abbrev pt(sm:List (Wh×Value))(t:Int):List Int:=(sm.filter fun p=>decide (p.1.t=t)).map fun p=>p.1.g
theorem Q6(sm:List (Wh×Value))(t:Int):(pt sm t).length<=sm.length:=by rw[List.length_map];exact List.length_filter_le _ _
def aaP:Value->Wh
 | .agg a=>match a.toList with
  | [.int .u32 t,.int .u16 g]=>⟨t,g⟩
  | _=>⟨0,0⟩
 | _=>⟨0,0⟩
theorem L7(sm:List (Wh×Value))(t:Int):pt sm t=((rG uz sm).filter fun p=>decide ((aaP p.1).t=t)).map fun p=>(aaP p.1).g:=by
 induction sm with
 | nil=>rfl
 | cons p sm ih=>
  simp only[pt,rG,List.map_cons,List.filter_cons]at ih ⊢;have e:aaP (uz p.1)=p.1:=rfl;rw[e];split
  .simp only[List.map_cons,e,ih]
  .exact ih
theorem W6(ks:List RK)(t:Int):pt (ks.map RK.e) t=vN ks t:=by
 induction ks with
 | nil=>rfl
 | cons k ks ih=>
  simp only[pt,vN,List.map_cons,List.filter_cons]at ih ⊢;split
  .simp only[List.map_cons,ih]
  .exact ih
theorem km{t:Int}{K:Sl->Pw}(R:kh w rb mb ks)(Q7:ks.length<=1000)(h1:(vN ks t).length<=1)(k:∀s w',aP w'.heap w.heap.size 42 1 s ((vN ks t).map (Value.int .u16))->Ext No w w'->K s w'):dh (some ⟨rb,0,none⟩) t w K:=by
 apply Bs;refine If.no (Nn.mk ⟨some mb,Cell.af R.aw rfl,?_⟩);obtain⟨w1,eH,hI,hx,hz⟩:=Ei.start (P:=pz) Jz R.map;have YR:mb < w.heap.size:=by obtain⟨es,clock,hb,_⟩:=R.map;exact aN hb
 refine⟨some ⟨w.heap.size,0,none⟩,w1,eH,fun q l u=>∃sm,q=ks.length - sm.length/\Ei uz u w.heap.size mb (ks.map RK.e) sm/\aP u.heap (w.heap.size+1) 42 1 l ((pt sm t).map (Value.int .u16))/\(∃rest,(rG uz sm++rest).Perm (rG uz (ks.map RK.e)))/\Ext No w u,⟨_,[],rfl,hI,aP.nil _ _ _ _,⟨_,.refl _⟩,hx⟩,?_⟩;rintro _ m0 l w2 ⟨sm,rfl,hI,ho,hr,x2⟩;have hz2:=x2.size;have aN:=hI.lt;rcases hI.next (P:=pz) (by omega) with⟨hp,w3,hn,x3⟩ | ⟨p,w3,hn,he,hI3,x3,hpm,TN,hlen⟩
 .refine .inl ⟨w3,hn,?_⟩
  have e:pt sm t=vN ks t:=by
   have Fy:(pt sm t).Perm (vN ks t):=by rw[<- W6,L7,L7];exact(hp.filter _).map _
   have hl:=Fy.length_eq
   cases h:vN ks t with
   | nil=>rw[h]at hl;exact List.length_eq_zero_iff.1 hl
   | cons a tl=>
    rw[h]at Fy h1;have:tl=[]:=by simp only[List.length_cons]at h1;exact List.length_eq_zero_iff.1 (by omega)
    subst this;exact Fy.eq_singleton
  rw[e]at ho;have W7:=(ho.no x3).mono (Nat.le_succ _);refine JA ?_ (k l w3 W7 (x2.no x3));have:=W7.len;rw[List.length_map]at this;omega
 .refine .inr ⟨uz p.1,p.2,w3,hn,uz p.1,p.2,w3,he,fun b w4 n4=>ac5 (bO.mk n4.get (Nat.le_refl 2) (ac4 rfl rfl) (fun w5 h5=>?_))⟩;have ahS:=x3.size;have YU:=n4.at_;have mq:Ext (·=w.heap.size) w2 w4:=x3.trans (n4.ext.az) fun i _ h=>h
  have kv:Ext (·=w.heap.size) w2 w5:=mq.trans h5.ext fun i hi e=>by subst e;omega
  have nI:Ext No w w5:=x2.trans kv fun i hi e=>by subst e;omega
  have g5:=h5.get n4.get;have ho5:aP w5.heap (w.heap.size+1) 42 1 l ((pt sm t).map (Value.int .u16)):=ho.ext kv fun i hi e=>by have:=(ho.lt hi).1;omega
  have hI5:Ei uz w5 w.heap.size mb (ks.map RK.e) (sm++[p]):=(hI3.no n4.ext).ext h5.ext (by omega) (by omega);have hL:(ks.map RK.e).length=ks.length:=List.length_map _;refine⟨_,Cell.af g5 rfl,If.beq (fun ht=>?_) fun ht=>?_⟩
  .refine⟨_,Cell.af g5 rfl,Ou ho5 (by have:=kv.size;omega) rfl (Q5 rfl) (by have:=ho5.len;rw[List.length_map]at this;have:=Q6 sm t;omega) fun s w7 o7 l7 x7 hs7=>?_⟩;refine⟨ks.length - (sm.length+1),by omega,sm++[p],by simp,hI5.ext x7 ?_ ?_,?_,TN,nI.trans x7 fun i hi e=>by have:=(ho5.lt e).1;omega⟩
   .intro e;have:=(ho5.lt e).1;omega
   .intro e;have:=(ho5.lt e).1;omega
   .have e:pt (sm++[p]) t=pt sm t++[p.1.g]:=by simp[pt,List.filter_append,ht]
    rw[e,List.map_append];exact o7
  .refine⟨ks.length - (sm.length+1),by omega,sm++[p],by simp,hI5,?_,TN,nI⟩;have e:pt (sm++[p]) t=pt sm t:=by simp[pt,List.filter_append,ht]
   rw[e];exact ho5
theorem L8{t g:Int}{K:Int->Int->Pw}(R:kh w rb mb ks)(Q7:ks.length<=1000)(h1:vN ks t=[g])(k:∀w',Ext No w w'->K g 0 w'):jM (some ⟨rb,0,none⟩) t w K:=by
 apply yY;refine If.no (km R Q7 (by rw[h1];exact Nat.le_refl _) fun s w1 o1 x1=>?_);rw[h1]at o1;have hl:s.len=1:=by have:=o1.len;simpa using this.symm
 refine If.beq (fun h=>by omega) fun _=>Ar.i64 (by omega) (Ix.int o1.rd (by omega) (by omega) fun b o _ hc=>⟨_,hc,?_⟩)
 have e:([g]:List Int).getD ((s.len:Int) - 1).toNat 0=g:=by rw[hl];rfl
 rw[e];exact k w1 x1
end
end Go.Proofs.YtiigcapldngijaaGreat
namespace Go.V
theorem mH.at_{C:Addr->Value->Prop}{w:Wd}{s:Sl}{l:List Int}{K:ByteArray->Prop}(h:Rd w.heap s 1 (l.map (Value.int .u8)))(hC:∀b o v,s.aw=some b->cM w.heap b o=some v->C ⟨b,o,none⟩ v)
  (k:K ⟨(C_ l).toArray⟩):mH C s K:=by
 refine⟨C_ l,⟨by simpa[C_] using h.len,fun i hi=>?_,fun hn=>?_⟩,k⟩
 .simp only[C_,List.length_map]at hi;obtain⟨b,off,ha,hc⟩:=h.at_ (by intro e;simp at e;subst e;simp at hi);refine⟨_,l[i],ha,?_,by simp[C_]⟩;rw[ay rfl];exact hC _ _ _ (by simp[Sl.aw,ha]) (by have:=hc i (by simpa using hi);rw[List.getElem_map]at this;exact this)
 .have:l=[]:=Classical.byContradiction fun du=>by
   obtain⟨b,off,ha,_⟩:=h.at_ (by simpa using du);rw[hn]at ha;cases ha
  subst this;rfl
section
variable {α:Type} [DecidableEq α] {P:Program} {kt:TypeId} {enc:α->Value}
end
end Go.V
namespace Go.Proofs.YtiigcapldngijaaGreat
open Go.V
structure LE where
 oq:iV
 key:List Int
 pay:List Int
 aw:List Int
abbrev HU(l:List Int):ByteArray:=⟨(C_ l).toArray⟩
abbrev LE.c(e:LE):List Value:=[.int .u32 e.oq.t,.int .u8 e.oq.kd,.int .u8 e.oq.lv,.int .u32 e.oq.pg,.int .u64 e.oq.cm,.int .u16 e.oq.gn,.string (HU e.key),.string (HU e.pay),.string (HU e.aw)]
theorem LE.len{L:List LE}:∀e∈L,e.c.length=9:=fun _ _=>rfl
structure zq(h:Array Obj)(lb:Nat)(ls:Sl)(L:List LE):Prop where
 aw:h[lb]? = some (.cells [ls.v].toArray 123 (0,0))
 own:aP h 0 492 9 ls (L.flatMap LE.c)
 ne:ls.aw≠some lb
 b8:∀e∈L,B8 e.aw
section
variable {w w':Wd} {lb:Nat} {ls:Sl} {L:List LE}
theorem zq.ext{S:Nat->Prop}(R:zq w.heap lb ls L)(x:Ext S w w')(h1:¬ S lb)(h2:∀i,ls.aw=some i->¬ S i):zq w'.heap lb ls L:=
 ⟨(x.aw lb (aN R.aw) h1).trans R.aw,R.own.ext x h2,R.ne,R.b8⟩
theorem zq.no(R:zq w.heap lb ls L)(x:Ext No w w'):zq w'.heap lb ls L:=R.ext x (fun h=>h) fun _ _ h=>h
theorem zq.len(R:zq w.heap lb ls L):ls.len=L.length:=by have:=R.own.len;rw[cQ LE.len]at this;omega
theorem AN{key payload:Sl}{l:iV}{kl pl:List Int}{K:Sl->Int->Pw}(R:zq w.heap lb ls L)(hL:L.length<=1000)(ok:l.OK)(HR:1<=l.kd/\l.kd<=4)(hk:aQ w.heap key kl)(jj:B8 kl)(hlen:key.len=16∨key.len=32)(hp:aQ w.heap payload pl)(PI:B8 pl)(zG:payload.len=224)
  (kb:∀i,key.aw=some i->ls.aw≠some i) (pb:∀i,payload.aw=some i->ls.aw≠some i)
  (k:∀s pB w',aL w'.heap w.heap.size s (bE kl l pl)->zq w'.heap lb pB (L++[⟨l,kl,pl,bE kl l pl⟩])->(∀i,pB.aw=some i->ls.aw=some i∨w.heap.size<=i)->(∀i,s.aw=some i->pB.aw≠some i)->Ext (fun i=>i=lb∨ls.aw=some i) w w'->K s 0 w'):jr (some ⟨lb,0,none⟩) key l.t l.kd l.lv l.pg l.cm l.gn payload w K:=by
 apply DN;refine fun b w1 n1=>If.no ?_
 have hb:w1.heap[b]? = some (.cells [Value.int .u32 l.t,.int .u8 l.kd,.int .u8 l.lv,.int .u32 l.pg,.int .u64 l.cm,.int .u16 l.gn].toArray 89 (0,0)):=n1.get;have x1:=n1.ext;have l1:=n1.size;have a1:=n1.at_;refine⟨l.t,Cell.af hb rfl,l.kd,Cell.af hb rfl,l.lv,Cell.af hb rfl,l.pg,Cell.af hb rfl,l.cm,Cell.af hb rfl,l.gn,Cell.af hb rfl,QZ ok HR (hk.no x1) jj hlen (hp.no x1) PI zG fun s w2 o2 x2=>If.beq (fun _=>?_) fun h=>absurd rfl h⟩;have vJ:=x1.no x2;have z2:=x2.size;have R2:=R.no vJ;have zI:w2.heap[b]? = _:=(x2.aw b (aN hb) fun h=>h).trans hb;have W8:∀i,ls.aw=some i->i < w.heap.size:=fun i hi=>(R.own.lt hi).2
 have hnb:¬ (ls.aw=some b):=fun e=>by have:=W8 b e;omega
 have tT:∀{o:Nat}{v:Value},[Value.int .u32 l.t,.int .u8 l.kd,.int .u8 l.lv,.int .u32 l.pg,.int .u64 l.cm,.int .u16 l.gn][o]? = some v->aj (Ext (fun i=>ls.aw=some i) w2) ⟨b,o,none⟩ v:=fun h=>aj.aF (Cell.af zI h) hnb
 refine⟨Ext (fun i=>ls.aw=some i) w2,(Ext.refl _ _).drew,Nn.mk ⟨ls,aj.aF (Cell.af R2.aw rfl) R.ne,l.t,tT (o:=0) rfl,l.kd,tT (o:=1) rfl,l.lv,tT (o:=2) rfl,l.pg,tT (o:=3) rfl,l.cm,tT (o:=4) rfl,l.gn,tT (o:=5) rfl,?_⟩⟩;refine mH.at_ (hk.no vJ) (fun b o v e hv=>aj.aF (Cell.mk hv) (kb b e)) (mH.at_ (hp.no vJ) (fun b o v e hv=>aj.aF (Cell.mk hv) (pb b e)) (mH.at_ o2.rd (fun b o v e hv=>aj.aF (Cell.mk hv) fun h=>?_) ?_))
 .have:=(o2.lt e).1;have:=W8 b h;omega
 .have R2d:zq (ae w2).heap lb ls L:=R2
  refine fun b3 w3 n3=>⟨(n3.ext.an).az,?_⟩
  have hx3:Ext No w2 w3:=n3.ext.an;have z3:=hx3.size;have hlen:=R2.len
  refine Df (R2d.own.no n3.ext) (Nat.zero_le _) (Rd.src (aP.new (n:=1) n3 rfl (a_ rfl)).rd) (by show(ls.len+1) * _<=_;omega) fun s4 w4 o4 l4 x4 YL=>⟨hx3.az.trans x4 fun i _ h=>h,?_⟩
  have mq:Ext (fun i=>ls.aw=some i) w2 w4:=hx3.az.trans x4 fun i _ h=>h
  have th:Ext (fun i=>ls.aw=some i) w w4:=vJ.az.trans mq fun i _ h=>h
  have YV:w4.heap[lb]? = some (.cells [ls.v].toArray 123 (0,0)):=(th.aw lb (aN R.aw) R.ne).trans R.aw;refine Nn.mk (aH.mk YV (Nat.le_refl 1) rfl fun w5 h5=>?_);have nI:Ext (fun i=>i=lb∨ls.aw=some i) w w5:=(th.mono fun i _ h=>Or.inr h).trans h5.ext fun i _ h=> .inl h
  have ac6:s4.aw≠some lb:=fun e=>by
   rcases YL with h | ⟨b',h,Is⟩
   .rw[h]at e;exact R.ne e
   .rw[h]at e;have:=aN R.aw;have:=Option.some.inj e;have:=vJ.size;omega
  have YW:aL w5.heap w.heap.size s (bE kl l pl):=((o2.ext mq fun i hi h=>by have:=(o2.lt hi).1;have:=W8 i h;omega).ext h5.ext fun i hi e=>by have:=(o2.lt hi).1;have:=aN R.aw;omega).mono (by have:=x1.size;omega);refine k s s4 w5 YW ⟨h5.get YV,?_,ac6,fun e he=>?_⟩ (fun i hi=>?_) (fun i hi e=>?_) nI
  .have:=o4.ext h5.ext fun i hi e=>ac6 (e ▸ hi)
   rw[List.flatMap_append];simpa[LE.c] using this
  .rcases List.mem_append.1 he with h | h
   .exact R.b8 e h
   .simp only[List.mem_singleton]at h;subst h;exact vM jj PI
  .rcases YL with h | ⟨b',h,Is⟩
   .exact .inl (h ▸ hi)
   .rw[h]at hi;have:=Option.some.inj hi;have:=vJ.size;exact .inr (by omega)
  .rcases YL with h | ⟨b',h,Is⟩
   .rw[h]at e;have:=W8 i e;have:=(o2.lt hi).1;omega
   .rw[h]at e;have:=Option.some.inj e;have:=(o2.lt hi).2;omega
end
end Go.Proofs.YtiigcapldngijaaGreat
namespace Go.Proofs.YtiigcapldngijaaGreat
open Go.V Go.V.Dk
theorem Q8:kE bB=List.replicate 256 (.int .u8 0):=by unfold kE bB;rw[List.map_replicate]
theorem Q9(n:Nat):(List.replicate n (List.replicate 256 (Value.int .u8 0))).flatten=(List.replicate n bB).flatMap kE:=by
 rw[List.flatMap_def,List.map_replicate,Q8]
theorem Ej{w w':Wd}{b n:Nat}(h:Gq w (.cells (List.replicate n (List.replicate 256 (Value.int .u8 0))).flatten.toArray bF) b w') :
  aP w'.heap w.heap.size bF 256 ⟨some ⟨b,0,none⟩,n,n⟩ ((List.replicate n bB).flatMap kE):=by
 have:=aP.make (l:=n) h (Nat.le_refl _) (fun v hv=>by rw[List.mem_replicate]at hv;rw[hv.2];rfl);rw[List.length_replicate,Q9]at this;exact this
theorem PO{w3 w4:Wd}{b:Nat}{sn sf:Sl}{n:Nat}(hn:8<=n/\n<=4096)(on:aP w3.heap 0 bF 256 sn ((List.replicate n bB).flatMap kE))(of:aP w3.heap 0 bF 256 sf ((List.replicate n bB).flatMap kE))
  (du:∀i,sn.aw=some i->sf.aw≠some i) (new:Gq w3 (.cells [sn.v,sf.v,.slice none 0 0,.int .u64 0,.int .i64 0,.int .i64 (-1),.bool false].toArray mR) b w4) :
  bz w4.heap ⟨b,sn,sf,⟨none,0,0⟩⟩ (pD n):=by
 have hb:=new.at_;refine⟨new.get,on.no new.ext,of.no new.ext,aP.nil _ _ _ _,⟨fun h=>?_,fun h=>?_,by simp[Sl.aw]⟩,fun i hi=>⟨du i hi,by simp[Sl.aw]⟩,fun i _=>by simp[Sl.aw],Wx hn⟩
 .have:=(on.lt h).2;simp only at this;omega
 .have:=(of.lt h).2;simp only at this;omega
theorem JF{n:Int}{w:Wd}{K:Option Addr->Int->Pw}(k2:¬ (8<=n/\n<=4096)->K none 2 w)
  (k:8<=n/\n<=4096->∀d w',bz w'.heap d (pD n.toNat)->(∀i,d.fp i->w.heap.size<=i)->Ext No w w'->K d.p 0 w'):xY n w K:=by
 apply EV;refine⟨fun w'=>w'=w/\8<=n/\n<=4096,?_,?_⟩
 .exact If.dec (fun h=>k2 (by omega)) (fun h=>If.dec (fun h=>k2 (by omega)) (fun h=>⟨rfl,by omega,by omega⟩))
 .rintro _ w1 ⟨rfl,hn⟩
  have fp:∀{b b1 b2:Nat}{w2 w3:Wd}{c c':List Value}{T T':TypeId},Gq (ae w1) (.cells c.toArray T) b1 w2->Gq w2 (.cells c'.toArray T') b2 w3->b=w3.heap.size->
    ∀i,(i=b∨b1=i∨b2=i)->w1.heap.size<=i:=fun n1 n2 hb i hi=>by
   have:=n1.at_;have:=n2.at_;have:=n1.size;have:=n2.size;have e:(ae w1).heap.size=w1.heap.size:=rfl;omega
  refine⟨Ext No w1,(Ext.refl _ _).drew,?_,?_⟩
  .refine xO.mk (by omega) (by omega) (by omega) (by omega) fun b1 w2 n1=>⟨(Ext.refl _ _).drew.no n1.ext,xO.mk (by omega) (by omega) (by omega) (by omega) fun b2 w3 n2=>⟨((Ext.refl _ _).drew.no n1.ext).no n2.ext,fun b w4 new=>⟨(((Ext.refl _ _).drew.no n1.ext).no n2.ext).no new.ext,?_⟩⟩⟩
   refine k hn ⟨b,⟨some ⟨b1,0,none⟩,n.toNat,n.toNat⟩,⟨some ⟨b2,0,none⟩,n.toNat,n.toNat⟩,⟨none,0,0⟩⟩ w4 (PO ⟨by omega,by omega⟩ (((Ej n1).mono (Nat.zero_le _)).no n2.ext) ((Ej n2).mono (Nat.zero_le _)) (fun i h1 h2=>?_) new) (fun i hi=>?_) ((((Ext.refl _ _).drew.no n1.ext).no n2.ext).no new.ext)
   .simp[Sl.aw]at h1 h2;have:=n1.at_;have:=n2.at_;have:=n1.size;omega
   .exact fp n1 n2 new.at_ i (by simpa[tQ.fp,Sl.aw] using hi)
  .refine xO.mk (by omega) (by omega) (by omega) (by omega) fun b1 w2 n1=>⟨(Ext.refl _ _).drew.no n1.ext,xO.mk (by omega) (by omega) (by omega) (by omega) fun b2 w3 n2=>⟨((Ext.refl _ _).drew.no n1.ext).no n2.ext,fun b w4 new=>⟨(((Ext.refl _ _).drew.no n1.ext).no n2.ext).no new.ext,?_⟩⟩⟩
   refine k hn ⟨b,⟨some ⟨b2,0,none⟩,n.toNat,n.toNat⟩,⟨some ⟨b1,0,none⟩,n.toNat,n.toNat⟩,⟨none,0,0⟩⟩ w4 (PO ⟨by omega,by omega⟩ ((Ej n2).mono (Nat.zero_le _)) (((Ej n1).mono (Nat.zero_le _)).no n2.ext) (fun i h1 h2=>?_) new) (fun i hi=>?_) ((((Ext.refl _ _).drew.no n1.ext).no n2.ext).no new.ext)
   .simp[Sl.aw]at h1 h2;have:=n1.at_;have:=n2.at_;have:=n1.size;omega
   .exact fp n1 n2 new.at_ i (by rcases hi with h | h | h | h <;> simp[Sl.aw]at h <;> omega)
theorem Cut.whole{b n:Nat}{K:Sl->Prop}(hn:0 < n)(k:K ⟨some ⟨b,0,none⟩,n,n⟩):Cut ⟨some (Addr.mk b 0 none),n,n⟩ 0 (((n:Nat):Int)) (((n:Nat):Int)) 1 K:=by
 refine Cut.mk (by omega) (by omega) (by omega) (by simp) ?_
 have e:h_ (some (Addr.mk b 0 none)) ((n:Int)).toNat (0:Int).toNat 1=some ⟨b,0,none⟩:=by
  unfold h_;rw[if_neg (by simp;omega)];simp[ay]
 simp only[e];have e2:((n:Int) - 0).toNat=n:=by omega
 rw[e2];exact k
theorem W9{w1:Wd}{l:List Int}{K:Sl->Pw}(hl:l.length=256)(k:∀s w',aP w'.heap w1.heap.size bF 1 s (kE l)->Ext No w1 w'->K s w') :
  au w1 (.cells (List.replicate 256 (Value.int .u8 0)).toArray 159) fun b w2=>List.length (α:=Value) (List.map (Value.int .u8) l++[])=256/\bO w2 (Addr.mk b 0 none) (List.map (Value.int .u8) l++[]) fun w3=>
   Cut ⟨some (Addr.mk b 0 none),256,256⟩ 0 (((256:Nat):Int)) (((256:Nat):Int)) 1 fun s=>K s w3:=by
 refine fun b w2 new=>⟨by rw[List.append_nil,List.length_map];exact hl,_,_,_,new.get,rfl,by show 0+_<=_;rw[List.append_nil,List.length_map,List.size_toArray,List.length_replicate];omega,.inr (.inr (Nat.le_refl _)),fun v hv=>?_,fun w3 hw=>Cut.whole (by decide) ?_⟩
 .rw[List.append_nil]at hv;exact df v hv
 .have e:setL (List.replicate 256 (Value.int .u8 0)) 0 (List.map (Value.int .u8) l++[])=kE l:=by
   rw[qP _ _ (by rw[List.append_nil,List.length_map,List.length_replicate];exact hl),List.append_nil];rfl
  refine k _ w3 ⟨by simp[kE,hl],.inr ⟨b,[],rfl,by rw[new.at_];exact Nat.le_refl _,?_,by simp[kE,hl],Nat.le_refl _⟩,df⟩ (new.ext.trans hw.ext fun i hi h=>by have:=new.at_;simp only at h;omega);rw[hw.get new.get];show some (Obj.cells ⟨setL (List.replicate 256 (Value.int .u8 0)) 0 (List.map (Value.int .u8) l++[])⟩ 159 (0,0))=_;rw[e,List.append_nil]
section
variable {w:Wd} {d:tQ} {D:DS}
theorem rowAt{s:Sl}{l:List (List Int)}{i:Int}{K:Addr->Prop}(h:Rd w.heap s 256 (l.flatMap kE))(hr:∀r∈l,Row r)(h0:0<=i)(h1:i < (s.len:Int))
  (k:∀b o,s.aw=some b->de (Cell w) ⟨b,o,none⟩ 0 .u8 (l.getD i.toNat [])->K ⟨b,o,none⟩):Ix s.a s.len i 256 K:=
 Ix.elem h (qQ hr) (by decide) h0 h1 fun b o hi hb hc=>by
  have e:l.getD i.toNat []=l[i.toNat]:=by simp[List.getD,hi]
  refine k b o hb (Cell.row fun j hj=>?_);rw[Nat.add_zero];refine hc j _ ?_;simp only[e]at hj ⊢;simp[kE,hj]
theorem jm{i:Int}{K:Sl->Int->Pw}(r:bz w.heap d D)(k2:hasB D i=false->K ⟨none,0,0⟩ 2 w)(k81:hasB D i=true->D.down=true->K ⟨none,0,0⟩ 81 w)
  (k0:hasB D i=true->D.down=false->∀s w',aP w'.heap w.heap.size bF 1 s (kE (D.now.getD i.toNat []))->Ext No w w'->K s 0 w'):cF d.p i w K:=by
 apply BC;refine If.no (AD r (If.not (If.cases (fun h=>?_) (fun h=>k2 h))));have hi:0<=i/\i < D.now.length:=by simpa[hasB] using h
 have hl:=r.ln;refine Nn.mk ⟨_,Cell.af r.aw rfl,If.cases (fun hd=>k81 h hd) (fun hd=>Nn.mk ⟨d.sn,Cell.af r.aw rfl,rowAt r.now.rd r.wf.rn hi.1 (by omega) fun b o _ hc=>⟨_,(K_ r.wf.rn (by omega)).1,hc,?_⟩⟩)⟩;exact W9 (K_ r.wf.rn (by omega)).1 (k0 h hd)
end
end Go.Proofs.YtiigcapldngijaaGreat
namespace Go.V.Dk
def ny(D:DS)(i:Int)(bs:List Int):Int×DS:=if hasB D i=true/\bs.length=256 then(if (bZ D).1=0 then(0,mc (bZ D).2 i bs) else bZ D) else(2,D)
def CF(D:DS):Int×DS:=if (bZ D).1=0 then(0,EM (bZ D).2) else bZ D
end Go.V.Dk
namespace Go.Proofs.YtiigcapldngijaaGreat
open Go.V Go.V.Dk
structure G3(w:Wd)(d d':tQ):Prop where
 b:d'.b=d.b
 fp:∀i,d'.fp i->d.fp i∨w.heap.size<=i
theorem G3.refl(w:Wd)(d:tQ):G3 w d d:=⟨rfl,fun _ h=> .inl h⟩
theorem bO.ac7{w:Wd}{base:Nat}{e:TypeId}{sz:Nat}{s:Sl}{cs:List Value}{i:Int}{vs:List Value}{K:Pw}(o:aP w.heap base e sz s cs)(h0:0<=i)(h1:i < (s.len:Int))(hv:∀v∈vs,cB v=true)(hl:vs.length=sz)(rS:0 < sz)
  (k:∀w',aP w'.heap base e sz s (setL cs (i.toNat * sz) vs)->Ext (fun i=>s.aw=some i) w w'->w'.heap.size=w.heap.size->K w'):Ix s.a s.len i sz fun a=>List.length (α:=Value) vs=sz/\bO w a vs K:=by
 obtain⟨a,h1,h2,h3,h4⟩:=bO.own (K:=K) o h0 h1 hv hl rS k;exact⟨a,h1,h2,h3,hl,h4⟩
section
variable {w:Wd} {d:tQ} {D:DS}
theorem bz.TS{w':Wd}{N:List (List Int)}(r:bz w.heap d D)(o:aP w'.heap 0 bF 256 d.sn (N.flatMap kE))(x:Ext (fun i=>d.sn.aw=some i) w w')(wf:WF { D with now:=N }):bz w'.heap d { D with now:=N }:=
 ⟨by rw[x.aw _ (blt r.aw) r.nb.1];exact r.aw,o,r.oM.ext x fun i hi h=>(r.nn i h).1 hi,r.waits.ext x fun i hi h=>(r.nn i h).2 hi,r.nb,r.nn,r.nf,wf⟩
theorem bz.W_{w':Wd}{N:List (List Int)}(r:bz w.heap d D)(o:aP w'.heap 0 bF 256 d.sf (N.flatMap kE))(x:Ext (fun i=>d.sf.aw=some i) w w')(wf:WF { D with oM:=N }):bz w'.heap d { D with oM:=N }:=
 ⟨by rw[x.aw _ (blt r.aw) r.nb.2.1];exact r.aw,r.now.ext x fun i hi h=>(r.nn i hi).1 h,o,r.waits.ext x fun i hi h=>r.nf i h hi,r.nb,r.nn,r.nf,wf⟩
theorem bz.L9{w':Wd}{s:Sl}{W:List (Int×List Int)}(r:bz w.heap d D)(o:aP w.heap 0 sP 257 s (W.flatMap Sb))(hw:mG w d.b (.cells (PE ⟨d.b,d.sn,d.sf,s⟩ D.steps D.fail D.cut D.down).toArray mR (0,0)) w')
  (n1:s.aw≠some d.b) (n2:∀i,d.sn.aw=some i->s.aw≠some i) (n3:∀i,d.sf.aw=some i->s.aw≠some i) (wf:WF { D with waits:=W }):bz w'.heap ⟨d.b,d.sn,d.sf,s⟩ { D with waits:=W }:=
 ⟨hw.get r.aw,r.now.ext hw.ext fun i hi h=>r.nb.1 (by rw[hi,h]),r.oM.ext hw.ext fun i hi h=>r.nb.2.1 (by rw[hi,h]),o.ext hw.ext fun i hi h=>n1 (by rw[hi,h]),⟨r.nb.1,r.nb.2.1,n1⟩,fun i hi=>⟨(r.nn i hi).1,n2 i hi⟩,fun i hi=>n3 i hi,wf⟩
theorem setRow{l:List (List Int)}{i:Nat}{r:List Int}(h:∀x∈l,Row x)(hi:i < l.length)(hr:r.length=256):setL (l.flatMap kE) (i * 256) (List.map (Value.int .u8) r++[])=(l.set i r).flatMap kE:=by
 have e:=K7 (f:=kE) (n:=256) (l:=l) (i:=i) (o:=0) (vs:=List.map (Value.int .u8) r++[]) (y:=r) (qQ h) hi (by rw[List.append_nil,List.length_map];omega) (by
  rw[qP _ _ (by rw[List.append_nil,List.length_map,qQ h _ (List.getElem_mem hi)];exact hr),List.append_nil];rfl)
 rw[Nat.add_zero]at e;exact e
theorem PR{S:Nat->Prop}{bs:List Int}{bb off:Nat}(hb:∀i (hi:i < (bs.map (Value.int .u8)).length),cM w.heap bb (off+i)=some (bs.map (Value.int .u8))[i])(hS:¬ S bb):de (aj (Ext S w)) ⟨bb,off,none⟩ 0 .u8 bs:=by
 refine aj.row fun j hj=>?_
 rw[Nat.add_zero];have:=hb j (by simpa using hj);rw[List.getElem_map]at this;exact aj.aF (Cell.mk this) hS
theorem FM{i:Int}{b:Sl}{bs:List Int}{K:Int->Pw}(r:bz w.heap d D)(hb:aQ w.heap b bs)(h8:B8 bs)(hfp:∀i,b.aw=some i->¬ d.fp i)(hs:0<=D.steps/\D.steps < 18446744073709551615)(hw:D.waits.length<=4294967296)
  (k:∀d' w',bz w'.heap d' (ny D i bs).2->G3 w d d'->Ext d.fp w w'->K (ny D i bs).1 w'):dA d.p i b w K:=by
 apply Aj;have DW:=aQ.len hb;refine If.no ⟨fun w'=>w'=w/\hasB D i=true/\bs.length=256,?_,?_⟩
 .refine AD r (If.not (If.cases (fun h=>If.bne (fun h1=>?_) (fun h1=>⟨rfl,h,by omega⟩)) (fun h=>?_)))
  .have e:ny D i bs=(2,D):=by unfold ny;rw[if_neg (by rintro⟨_,h2⟩;omega)]
   rw[e]at k;exact k d w r (G3.refl _ _) (Ext.refl _ _)
  .have e:ny D i bs=(2,D):=by unfold ny;rw[if_neg (by rintro⟨h2,_⟩;rw[h]at h2;cases h2)]
   rw[e]at k;exact k d w r (G3.refl _ _) (Ext.refl _ _)
 .rintro _ w2 ⟨rfl,hh,hlen⟩;have hi:0<=i/\i < D.now.length:=by simpa[hasB] using hh
  refine qG r hs fun w3 r3 x3 z3=>?_
  have TK:Ext d.fp w2 w3:=x3.mono fun j _ h=> .inl h
  refine If.bne (fun he=>?_) (fun he=>?_)
  .have e:ny D i bs=bZ D:=by unfold ny;rw[if_pos ⟨hh,hlen⟩,if_neg he]
   rw[e]at k;exact k d w3 r3 (G3.refl _ _) TK
  .have e:ny D i bs=(0,mc (bZ D).2 i bs):=by unfold ny;rw[if_pos ⟨hh,hlen⟩,if_pos he]
   rw[e]at k;obtain⟨s1,s2,s3⟩:=QG D;have hi3:0<=i/\i < (bZ D).2.now.length:=by rw[s1];exact hi
   have YX:(bZ D).2.waits.length<=4294967296:=by rw[s3];exact hw
   generalize(bZ D).2=D3 at *;have w_:aQ w3.heap b bs:=Rd.ext hb x3 fun a j ha hj h=>hfp j (by simp[Sl.aw,ha,hj]) (.inl h)
   obtain⟨bb,off,hba,Nz⟩:=w_.at_ (by intro h;rw[List.map_eq_nil_iff]at h;rw[h]at hlen;simp at hlen);have Sg:b.aw=some bb:=by simp[Sl.aw,hba]
   have hnf:=hfp bb Sg;have hl3:=r3.ln;refine⟨Ext (fun j=>d.sn.aw=some j) w3,(Ext.refl _ _).drew,Nn.mk ⟨d.sn,aj.aF (Cell.af r3.aw rfl) r3.nb.1,by omega,⟨_,hba,bs,hlen,PR Nz fun h=>hnf (.inr (.inl h)),?_⟩⟩⟩;have o3:aP (ae w3).heap 0 bF 256 d.sn (D3.now.flatMap kE):=r3.now
   refine bO.ac7 o3 hi3.1 (by omega) (fun v hv=>by rw[List.append_nil]at hv;exact df v hv) (by rw[List.append_nil,List.length_map];exact hlen) (by decide) fun w4 o4 x4 z4=>⟨x4.an,?_⟩
   rw[setRow r3.wf.rn (by omega) hlen]at o4;have TG:Ext (fun j=>d.sn.aw=some j) w3 w4:=x4.an
   have wf4:WF { D3 with now:=D3.now.set i.toNat bs }:=by
    have:=r3.wf;refine⟨by simp[this.n],by simp[this.lo],by simp[this.hi],La this.rn ⟨hlen,h8⟩,this.rf,fun p hp=>?_,this.fl,this.ct⟩;simp only[List.length_set];exact this.rw p hp
   have r4:=r3.TS o4 TG wf4
   have afD:∀i (hi:i < (bs.map (Value.int .u8)).length),cM w4.heap bb (off+i)=some (bs.map (Value.int .u8))[i]:=fun j hj=>by
    rw[<- Nz j hj];exact pM (TG.aw bb (qN (Nz j hj)) fun h=>hnf (.inr (.inl h)))
   refine⟨Ext (fun j=>d.sw.aw=some j) w4,(Ext.refl _ _).drew,Nn.mk ?_⟩;have ec:((.int .i64 i:Value)::((List.map (Value.int .u8) bs++[])++[]))++[]=Sb (i,bs):=by simp[Sb]
   have ec1:(.int .i64 i:Value)::((List.map (Value.int .u8) bs++[])++[])=Sb (i,bs):=by simp[Sb]
   have ecl:(Sb (i,bs)).length=257:=by simp[Sb,hlen]
   have hsw:∀j,d.sw.aw=some j->d.fp j:=fun j h=> .inr (.inr (.inr h))
   refine⟨d.sw,aj.aF (Cell.af r4.aw rfl) r4.nb.2.2,by omega,⟨_,hba,bs,hlen,PR afD fun h=>hnf (hsw _ h),by rw[List.append_nil,List.length_map];exact hlen,?_⟩⟩;rw[ec,ec1];refine⟨ecl,fun b5 w5 new=>⟨(Ext.refl _ _).drew.no new.ext,?_⟩⟩;have r4d:bz (ae w4).heap d { D3 with now:=D3.now.set i.toNat bs }:=r4;have r5:=r4d.no new.ext
   have afE:=(aP.new (sz:=257) (n:=1) new (by rw[ecl]) (fun v hv=>by
    simp only[Sb,List.mem_cons]at hv;rcases hv with rfl | hv
    .rfl
    .exact df v hv)).rd.src (P:=pz)
   have hlw:=r5.lw;simp only at hlw;refine EU r5.waits (Nat.zero_le _) afE (by simp only;omega) fun s6 w6 o6 afF x6 aaQ=>?_
   have zr:Ext (fun j=>d.sw.aw=some j) w4 w6:=((Ext.refl _ _).drew.no new.ext).trans x6 fun _ _ h=>h
   refine⟨zr,Nn.mk ?_⟩;have z5:=new.size;have ed:(ae w4).heap.size=w4.heap.size:=rfl;have ed3:(ae w3).heap.size=w3.heap.size:=rfl;have z6:=x6.size
   have o6':aP w6.heap 0 sP 257 s6 ((D3.waits++[(i,bs)]).flatMap Sb):=by
    rw[List.flatMap_append,List.flatMap_singleton];exact o6
   have r6:w6.heap[d.b]? = some (.cells (PE d D3.steps D3.fail D3.cut D3.down).toArray mR (0,0)):=by
    rw[zr.aw _ (blt r4.aw) r4.nb.2.2];exact r4.aw
   have fresh:∀j,s6.aw=some j->d.sw.aw=some j∨w4.heap.size<=j:=fun j hj=>by
    rcases aaQ with h | ⟨j',h,zQ⟩
    .exact .inl (by rw[<- h];exact hj)
    .rw[hj]at h;cases h;exact .inr (by omega)
   have Ts:∀j,d.fp j->j < w4.heap.size:=fun j hj=>r4.lt hj
   refine aH.mk r6 (by simp) rfl fun w7 Q_=>?_
   have rn6:aP w6.heap 0 bF 256 d.sn ((D3.now.set i.toNat bs).flatMap kE):=r4.now.ext zr fun j hj h=>(r4.nn j hj).2 h
   have rf6:aP w6.heap 0 bF 256 d.sf (D3.oM.flatMap kE):=r4.oM.ext zr fun j hj h=>r4.nf j hj h
   have n1:s6.aw≠some d.b:=fun h=>by
    rcases fresh _ h with h | h
    .exact r4.nb.2.2 h
    .have:=Ts d.b (.inl rfl);omega
   have n2:∀j,d.sn.aw=some j->s6.aw≠some j:=fun j hj h=>by
    rcases fresh _ h with h | h
    .exact(r4.nn j hj).2 h
    .have:=Ts j (.inr (.inl hj));omega
   have n3:∀j,d.sf.aw=some j->s6.aw≠some j:=fun j hj h=>by
    rcases fresh _ h with h | h
    .exact r4.nf j hj h
    .have:=Ts j (.inr (.inr (.inl hj)));omega
   have r7:bz w7.heap ⟨d.b,d.sn,d.sf,s6⟩ (mc D3 i bs):=
    ⟨Q_.get r6,rn6.ext Q_.ext fun j hj h=>r4.nb.1 (by rw[hj,h]),rf6.ext Q_.ext fun j hj h=>r4.nb.2.1 (by rw[hj,h]),o6'.ext Q_.ext fun j hj h=>n1 (by rw[hj,h]),⟨r4.nb.1,r4.nb.2.1,n1⟩,fun j hj=>⟨(r4.nn j hj).1,n2 j hj⟩,fun j hj=>n3 j hj,Tn r3.wf hi3 ⟨hlen,h8⟩⟩
   refine k ⟨d.b,d.sn,d.sf,s6⟩ w7 r7 ⟨rfl,fun j hj=>?_⟩ ?_
   .rcases hj with h | h | h | h
    .exact .inl (.inl h)
    .exact .inl (.inr (.inl h))
    .exact .inl (.inr (.inr (.inl h)))
    .rcases fresh j h with h | h
     .exact .inl (hsw j h)
     .exact .inr (by omega)
   .exact((TK.trans TG fun j _ h=> .inr (.inl h)).trans zr fun j _ h=>hsw j h).trans Q_.ext fun j _ h=> .inl h
theorem L_{a b:Sl}{A B:List (List Int)}{K:Int->Pw}(oa:aP w.heap 0 bF 256 a (A.flatMap kE))(rb:Rd w.heap b 256 (B.flatMap kE))(hA:∀r∈A,Row r)(hB:∀r∈B,Row r)(hl:B.length=A.length)(du:0 < A.length)
  (k:∀z w',aP w'.heap 0 bF 256 a (B.flatMap kE)->Ext (fun i=>a.aw=some i) w w'->w'.heap.size=w.heap.size->K z w'):lN pz 115 115 a b.v K w:=by
 have la:=oa.len;have lb:=rb.len;have fa:=cQ (qQ hA);have fb:=cQ (qQ hB);obtain⟨bn,rest,ha,hba,hb,hc,iv⟩:=oa.place (by intro h;rw[h]at fa;simp at fa;omega);have hlen:b.len=a.len:=by omega
 have Ov:min b.len a.len * 256=(B.flatMap kE).length:=by rw[hlen,Nat.min_self];omega
 refine De ha hb rb (by rw[Ov,List.length_append];omega) fun w' hw=>?_
 rw[Ov,List.take_of_length_le (Nat.le_refl _)]at hw;obtain⟨o',x',z'⟩:=oa.upd ha hba hb hc iv hw rb.cells (by omega);rw[qP _ _ (by omega)]at o';exact k _ w' o' x' z'
theorem xE{K:Int->Pw}(r:bz w.heap d D)(hs:0<=D.steps/\D.steps < 18446744073709551615)
  (k:∀d' w',bz w'.heap d' (CF D).2->G3 w d d'->Ext d.fp w w'->K (CF D).1 w'):cE d.p w K:=by
 apply BB;refine If.no (qG r hs fun w3 r3 x3 z3=>?_);have TK:Ext d.fp w w3:=x3.mono fun j _ h=> .inl h
 refine If.bne (fun he=>?_) (fun he=>?_)
 .have e:CF D=bZ D:=by unfold CF;rw[if_neg he]
  rw[e]at k;exact k d w3 r3 (G3.refl _ _) TK
 .have e:CF D=(0,EM (bZ D).2):=by unfold CF;rw[if_pos he]
  rw[e]at k;generalize(bZ D).2=D3 at *;have hn:=r3.wf.n;have hlo:=r3.wf.lo;refine⟨Ext (fun j=>d.sf.aw=some j) w3,(Ext.refl _ _).drew,Nn.mk ⟨d.sf,aj.aF (Cell.af r3.aw rfl) r3.nb.2.1,Nn.mk ⟨d.sn,aj.aF (Cell.af r3.aw rfl) r3.nb.2.1,?_⟩⟩⟩;have rd:bz (ae w3).heap d D3:=r3
  refine L_ rd.oM rd.now.rd r3.wf.rf r3.wf.rn hn.symm (by omega) fun z w4 o4 x4 z4=>⟨x4.an,Nn.mk ?_⟩
  have r4:=r3.W_ o4 x4.an ⟨rfl,r3.wf.lo,r3.wf.hi,r3.wf.rn,r3.wf.rn,r3.wf.rw,r3.wf.fl,r3.wf.ct⟩;refine aH.mk r4.aw (by simp) rfl fun w5 WR=>?_
  have r5:bz w5.heap ⟨d.b,d.sn,d.sf,⟨none,0,0⟩⟩ (EM D3):=r4.L9 (s:=⟨none,0,0⟩) (W:=[]) (aP.nil _ _ _ _) WR (by simp[Sl.aw]) (fun _ _=>by simp[Sl.aw]) (fun _ _=>by simp[Sl.aw]) (Wy (D:=D3) r3.wf);refine k _ w5 r5 ⟨rfl,fun j hj=> .inl ?_⟩ ((TK.trans x4.an fun j _ h=> .inr (.inr (.inl h))).trans WR.ext fun j _ h=> .inl h);rcases hj with h | h | h | h
  .exact .inl h
  .exact .inr (.inl h)
  .exact .inr (.inr (.inl h))
  .simp[Sl.aw]at h
end
end Go.Proofs.YtiigcapldngijaaGreat
namespace Go.V.Dk
open Go.V
end Go.V.Dk
namespace Go.V
end Go.V
namespace Go.Proofs.YtiigcapldngijaaGreat
open Go.V Go.V.Dk
section
variable {w:Wd} {d:tQ} {D:DS}
theorem uL{l:List (List Int)}{i:Nat}{a:List Int}(hi:i < l.length):(l.set i a).getD i []=a:=by simp[List.getD,hi]
end
end Go.Proofs.YtiigcapldngijaaGreat
namespace Go.Proofs.YtiigcapldngijaaGreat
open Go.V Go.V.Dk
section
variable {w:Wd} {d:tQ} {D:DS}
end
end Go.Proofs.YtiigcapldngijaaGreat
namespace Go.Proofs.YtiigcapldngijaaGreat
open Go.V Go.V.Dk
structure RS where
 dev:Option Addr
 bG:Int
 aI:Int
 bg:Int
 eV:List (List Int)
structure DY where
 rb:Nat
 sd:Sl
 ins:List Sl
def DY.fp(g:DY)(i:Nat):Prop:=i=g.rb∨g.sd.aw=some i∨∃s∈g.ins,s.aw=some i
abbrev DY.p(g:DY):Option Addr:=some ⟨g.rb,0,none⟩
abbrev Ra(s:Sl):List Value:=[s.v]
abbrev TT(R:RS)(sd:Sl):List Value:=[.pointer R.dev,.int .u64 R.bG,.int .u64 R.aI,.int .u64 R.bg,sd.v]
structure fX(h:Array Obj)(g:DY)(R:RS):Prop where
 aw:h[g.rb]? = some (.cells (TT R g.sd).toArray vk (0,0))
 outer:Rd h g.sd 1 (g.ins.flatMap Ra)
 old:∀i,g.sd.aw=some i->i < h.size
 n:g.ins.length=R.eV.length
 inner:∀j (h1:j < g.ins.length) (h2:j < R.eV.length),aP h 0 PB 1 g.ins[j] (R.eV[j].map (Value.int .u8))
 b8:∀l∈R.eV,B8 l
 n1:g.sd.aw≠some g.rb
 n2:∀s∈g.ins,∀i,s.aw=some i->i≠g.rb/\g.sd.aw≠some i
 n3:g.ins.Pairwise fun s t=>∀i,s.aw=some i->t.aw≠some i
theorem wy{l:List Sl}:∀s∈l,(Ra s).length=1:=fun _ _=>rfl
section
variable {w w':Wd} {g:DY} {R:RS}
theorem fX.lt(r:fX w.heap g R){i:Nat}(h:g.fp i):i < w.heap.size:=by
 rcases h with rfl | h | ⟨s,hs,h⟩
 .exact blt r.aw
 .exact r.old i h
 .obtain⟨j,hj,rfl⟩:=List.getElem_of_mem hs;exact((r.inner j hj (by have:=r.n;omega)).lt h).2
theorem fX.len(r:fX w.heap g R):g.sd.len=R.eV.length:=by have:=r.outer.len;rw[cQ wy,r.n]at this;omega
theorem fX.ext{S:Nat->Prop}(r:fX w.heap g R)(x:Ext S w w')(hS:∀i,g.fp i->¬ S i):fX w'.heap g R:=
 ⟨by rw[x.aw _ (blt r.aw) (hS _ (.inl rfl))];exact r.aw,r.outer.ext x fun a b ha hb=>hS b (.inr (.inl (by simp[Sl.aw,ha,hb]))),fun i hi=>Nat.lt_of_lt_of_le (r.old i hi) x.size,r.n,
  fun j h1 h2=>(r.inner j h1 h2).ext x fun i hi=>hS i (.inr (.inr ⟨_,List.getElem_mem h1,hi⟩)),r.b8,r.n1,r.n2,r.n3⟩
theorem fX.GZ{res com:Int}(r:fX w.heap g R)(hw:mG w g.rb (.cells (TT { R with aI:=res,bg:=com } g.sd).toArray vk (0,0)) w'):fX w'.heap g { R with aI:=res,bg:=com }:=
 ⟨hw.get r.aw,r.outer.ext hw.ext fun a b ha hb h=>r.n1 (by simp[Sl.aw,ha,hb];exact h),fun i hi=>by rw[hw.size];exact r.old i hi,r.n,
  fun j h1 h2=>(r.inner j h1 h2).ext hw.ext fun i hi h=>(r.n2 _ (List.getElem_mem h1) i hi).1 h,r.b8,r.n1,r.n2,r.n3⟩
theorem ly{K:Int->Pw}(r:fX w.heap g R)(k:K R.aI w):dw g.p w K:=by
 apply vu;exact If.no (Nn.mk ⟨_,Cell.af r.aw rfl,k⟩)
theorem eo{K:Int->Pw}(r:fX w.heap g R)(k:K R.bg w):c_ g.p w K:=by
 apply ub;exact If.no (Nn.mk ⟨_,Cell.af r.aw rfl,k⟩)
theorem xF{d:tQ}{D:DS}{K:Int->Pw}(r:bz w.heap d D)(hs:0<=D.steps/\D.steps < 18446744073709551615)(k:∀w',bz w'.heap d (bZ D).2->Ext (·=d.b) w w'->w'.heap.size=w.heap.size->K (bZ D).1 w'):iA d.p w K:=by
 apply BH;exact If.no (qG r hs k)
def gS(R:RS)(D:DS):Int×Int×RS×DS:=
 if R.aI≥R.bG then(0,90,R,D) else if (bZ D).1=0 then(R.aI+1,0,{ R with aI:=R.aI+1 },(bZ D).2) else(0,(bZ D).1,R,(bZ D).2)
def im(R:RS)(D:DS)(n:Int):Int×RS×DS:=
 if n<=R.bg∨n > R.aI then(2,R,D) else if (bZ D).1=0 then(0,{ R with bg:=n },(bZ D).2) else((bZ D).1,R,(bZ D).2)
theorem BY{d:tQ}{D:DS}{K:Int->Int->Pw}(r:fX w.heap g R)(q:bz w.heap d D)(hd:R.dev=d.p)(YY:∀i,g.fp i->¬ d.fp i)(hs:0<=D.steps/\D.steps < 18446744073709551615)(hr:0<=R.aI/\R.bG<=18446744073709551615)
  (k:∀w',fX w'.heap g (gS R D).2.2.1->bz w'.heap d (gS R D).2.2.2->Ext (fun i=>i=g.rb∨i=d.b) w w'->K (gS R D).1 (gS R D).2.1 w'):dJ g.p w K:=by
 apply wR;refine If.no ⟨Ext No w,(Ext.refl _ _).drew,Nn.mk ⟨_,aj.cell (Cell.af r.aw rfl),Nn.mk ⟨_,aj.cell (Cell.af r.aw rfl),If.dec (fun h=>?_) (fun h=>?_)⟩⟩⟩
 .have e:gS R D=(0,90,R,D):=by unfold gS;rw[if_pos h]
  rw[e]at k;exact k (ae w) r q (Ext.refl _ _).drew
 .have rd:fX (ae w).heap g R:=r;have qd:bz (ae w).heap d D:=q;refine Nn.mk ⟨R.dev,Cell.af rd.aw rfl,?_⟩;rw[hd];refine xF qd hs fun w1 q1 x1 z1=>?_
  have r1:=rd.ext x1 fun i hi h=>YY i hi (.inl h)
  have x1':Ext (fun i=>i=g.rb∨i=d.b) w w1:=(x1.mono fun i _ h=> .inr h).an;refine If.bne (fun he=>?_) (fun he=>?_)
  .have e:gS R D=(0,(bZ D).1,R,(bZ D).2):=by unfold gS;rw[if_neg h,if_neg he]
   rw[e]at k;exact k w1 r1 q1 x1'
  .have e:gS R D=(R.aI+1,0,{ R with aI:=R.aI+1 },(bZ D).2):=by unfold gS;rw[if_neg h,if_pos he]
   rw[e]at k;refine Nn.mk ⟨_,Cell.af r1.aw rfl,Ar.u64 (by omega) (Nn.mk (aH.mk r1.aw (by simp) rfl fun w2 VO=>?_))⟩;have r2:fX w2.heap g { R with aI:=R.aI+1,bg:=R.bg }:=r1.GZ VO;have q2:=q1.ext VO.ext fun i hi h=>YY i (.inl h) hi
   exact Nn.mk ⟨_,Cell.af r2.aw rfl,k w2 r2 q2 (x1'.trans VO.ext fun i _ h=> .inl h)⟩
theorem BZ{d:tQ}{D:DS}{n:Int}{K:Int->Pw}(r:fX w.heap g R)(q:bz w.heap d D)(hd:R.dev=d.p)(YY:∀i,g.fp i->¬ d.fp i)(hs:0<=D.steps/\D.steps < 18446744073709551615)
  (k:∀w',fX w'.heap g (im R D n).2.1->bz w'.heap d (im R D n).2.2->Ext (fun i=>i=g.rb∨i=d.b) w w'->K (im R D n).1 w'):fJ g.p n w K:=by
 apply wT;refine If.no ⟨fun w'=>w'=w/\¬ (n<=R.bg∨n > R.aI),?_,?_⟩
 .have bad:(n<=R.bg∨n > R.aI)->K 2 w:=fun h=>by
   have e:im R D n=(2,R,D):=by unfold im;rw[if_pos h]
   rw[e]at k;exact k w r q (Ext.refl _ _)
  exact Nn.mk ⟨_,Cell.af r.aw rfl,If.dec (fun h=>bad (.inl h)) (fun h=>Nn.mk ⟨_,Cell.af r.aw rfl,If.dec (fun h1=>bad (.inr h1)) (fun h1=>⟨rfl,by omega⟩)⟩)⟩
 .rintro _ w0 ⟨rfl,h⟩;refine Nn.mk ⟨R.dev,Cell.af r.aw rfl,?_⟩;rw[hd];refine xF q hs fun w1 q1 x1 z1=>?_
  have r1:=r.ext x1 fun i hi h=>YY i hi (.inl h)
  have x1':Ext (fun i=>i=g.rb∨i=d.b) w0 w1:=x1.mono fun i _ h=> .inr h
  refine If.bne (fun he=>?_) (fun he=>?_)
  .have e:im R D n=((bZ D).1,R,(bZ D).2):=by unfold im;rw[if_neg h,if_neg he]
   rw[e]at k;exact k w1 r1 q1 x1'
  .have e:im R D n=(0,{ R with bg:=n },(bZ D).2):=by unfold im;rw[if_neg h,if_pos he]
   rw[e]at k;refine Nn.mk (aH.mk r1.aw (by simp) rfl fun w2 VO=>?_);exact k w2 (r1.GZ (res:=R.aI) VO) (q1.ext VO.ext fun i hi h=>YY i (.inl h) hi) (x1'.trans VO.ext fun i _ h=> .inl h)
end
end Go.Proofs.YtiigcapldngijaaGreat
namespace Go.V
structure Wr(h:Array Obj)(s:Sl)(cs:List Value):Prop where
 len:cs.length=s.len
 cap:s.len<=s.cap
 is:cs≠[]->∃b pre rest T,s.a=some ⟨b,pre.length,none⟩/\h[b]? = some (.cells (pre++(cs++rest)).toArray T (0,0))
 cells:∀v∈cs,cB v=true
theorem Wr.rd{h:Array Obj}{s:Sl}{cs:List Value}(r:Wr h s cs):Rd h s 1 cs:=by
 refine⟨by simpa using r.len,r.cap,fun du=>?_,r.cells⟩;obtain⟨b,pre,rest,T,ha,hb⟩:=r.is du;refine⟨b,pre.length,ha,fun i hi=>?_⟩;unfold cM;rw[hb];simp only[List.getElem?_toArray];rw[List.getElem?_append_right (by omega),Nat.add_sub_cancel_left,List.getElem?_append_left hi,List.getElem?_eq_getElem hi]
theorem Wr.ext{S:Nat->Prop}{w w':Wd}{s:Sl}{cs:List Value}(r:Wr w.heap s cs)(x:Ext S w w')(hS:∀b,s.aw=some b->¬ S b):Wr w'.heap s cs:=by
 refine⟨r.len,r.cap,fun du=>?_,r.cells⟩;obtain⟨b,pre,rest,T,ha,hb⟩:=r.is du;obtain⟨aN,_⟩:=Array.getElem?_eq_some_iff.1 hb;exact⟨b,pre,rest,T,ha,by rw[x.aw b aN (hS b (by simp[Sl.aw,ha]))];exact hb⟩
theorem aP.wr{h:Array Obj}{base:Nat}{e:TypeId}{s:Sl}{cs:List Value}(o:aP h base e 1 s cs):Wr h s cs:=by
 refine⟨by simpa using o.len,o.rd.cap,fun du=>?_,o.cells⟩;obtain⟨b,rest,ha,_,hb,_⟩:=o.place du;exact⟨b,[],rest,e,ha,hb⟩
theorem Wr.take{h:Array Obj}{s:Sl}{cs:List Value}(r:Wr h s cs){n m:Nat}(hn:n<=s.len)(hm:n<=m):Wr h ⟨s.a,n,m⟩ (cs.take n):=by
 refine⟨by rw[List.length_take,r.len];exact Nat.min_eq_left hn,hm,fun du=>?_,fun v hv=>r.cells v (List.mem_of_mem_take hv)⟩;obtain⟨b,pre,rest,T,ha,hb⟩:=r.is (by intro e;subst e;simp at du);refine⟨b,pre,cs.drop n++rest,T,ha,?_⟩;rw[<- List.append_assoc (cs.take n),List.take_append_drop];exact hb
end Go.V
namespace Go.Proofs.YtiigcapldngijaaGreat
open Go.V Go.V.Dk
section
variable {w w':Wd} {g:DY} {R:RS}
theorem G5{size:Int}{K:Sl->Int->Pw}(r:fX w.heap g R)(k2:¬ (1<=size/\size<=64)->K ⟨none,0,0⟩ 2 w)(k9:1<=size/\size<=64->R.eV=[]->K ⟨none,0,0⟩ 91 w)
  (k91:∀l ls,1<=size/\size<=64->R.eV=l::ls->(l.length:Int) < size->K ⟨none,0,0⟩ 91 w)
  (k:∀l ls s g' w',1<=size/\size<=64->R.eV=l::ls->size<=(l.length:Int)->Wr w'.heap s ((l.take size.toNat).map (Value.int .u8))->fX w'.heap g' { R with eV:=ls }->g'.rb=g.rb->(∀i,g'.fp i->g.fp i)->(∀i,s.aw=some i->g.fp i/\¬ g'.fp i)->
   Ext (·=g.rb) w w'->w'.heap.size=w.heap.size->K s 0 w'):ix g.p size w K:=by
 apply BL;have hlen:=r.len;have hn:=r.n;refine If.no ⟨fun w'=>w'=w/\1<=size/\size<=64,If.dec (fun h=>k2 (by omega)) (fun h=>If.dec (fun h1=>k2 (by omega)) (fun h1=>⟨rfl,by omega,by omega⟩)),?_⟩;rintro _ w1 ⟨rfl,rS⟩
 cases hd:R.eV with
 | nil=>
  refine⟨fun _=>False,?_,fun _ _ h=>h.elim⟩;rw[hd]at hlen;exact Nn.mk ⟨g.sd,Cell.af r.aw rfl,If.beq (fun _=>k9 rS hd) (fun h=>by simp at hlen;omega)⟩
 | cons l ls=>
  rw[hd]at hlen hn;simp only[List.length_cons]at hlen hn;have afG:0 < g.ins.length:=by omega
  obtain⟨rb,sd,ins⟩:=g
  cases ins with
  | nil=>simp at afG
  | cons s0 ins=>
  simp only at *;have hn':ins.length=ls.length:=by simp only[List.length_cons]at hn;omega
  have FN:=r.inner 0 (by simp) (by rw[hd];simp);simp only[List.getElem_cons_zero]at FN;have e0:R.eV[0]'(by rw[hd];simp)=l:=by simp[hd]
  rw[e0]at FN;have l0:s0.len=l.length:=aQ.len FN.rd
  have hix:∀{K:Addr->Prop},(∀b o,Cell w1 ⟨b,o,none⟩ s0.v->K ⟨b,o,none⟩)->Ix sd.a sd.len 0 1 K:=fun kk=>
   Ix.elem r.outer wy (by decide) (by omega) (by omega) fun b o hi hb hc=>kk b o (by have:=hc 0 s0.v (by simp[Ra]);simpa using this)
  refine⟨fun w'=>w'=w1/\size<=(l.length:Int),?_,?_⟩
  .refine Nn.mk ⟨sd,Cell.af r.aw rfl,If.beq (fun h=>by omega) (fun _=>Nn.mk ⟨sd,Cell.af r.aw rfl,hix fun b o hc=>⟨s0,hc,If.dec (fun h=>k91 l ls rS hd (by omega)) (fun h=>⟨rfl,by omega⟩)⟩⟩)⟩
  .rintro _ w2 ⟨rfl,hle⟩;refine Nn.mk ⟨sd,Cell.af r.aw rfl,hix fun b o hc=>⟨s0,hc,Cut.mk (by omega) (by omega) (by omega) (by have:=FN.rd.cap;omega) ?_⟩⟩
   have ea:h_ s0.a size.toNat (0:Int).toNat 1=s0.a:=by
    unfold h_;split
    .rfl
    .cases s0.a with
     | none=>rfl
     | some a=>simp;rfl
   rw[ea];have YZ:=r.outer.cap;simp only at YZ;refine Nn.mk ⟨sd,Cell.af r.aw rfl,Cut.mk (by omega) (by omega) (by omega) (by omega) ?_⟩;have cut:=Rd.cut r.outer (lo:=1) (hi:=sd.len) (mx:=sd.cap) (by omega) (Nat.le_refl _) YZ
   have ec:(((s0::ins).flatMap Ra).drop (1 * 1)).take ((sd.len - 1) * 1)=ins.flatMap Ra:=by
    have:((s0::ins).flatMap Ra).drop (1 * 1)=ins.flatMap Ra:=by simp[Ra]
    rw[this];exact List.take_of_length_le (by rw[cQ wy];omega)
   rw[ec]at cut;have e1:((sd.len:Int) - 1).toNat=sd.len - 1:=by omega
   have e2:((sd.cap:Int) - 1).toNat=sd.cap - 1:=by omega
   have e3:((sd.cap:Int)).toNat=sd.cap:=by omega
   have e4:(1:Int).toNat=1:=rfl;rw[e1,e2,e3,e4]
   have wI:∀i,(⟨h_ sd.a sd.cap 1 1,sd.len - 1,sd.cap - 1⟩ : Sl).aw=some i->sd.aw=some i:=fun i hi=>by
    simp only[Sl.aw,h_]at hi ⊢;split at hi
    .exact hi
    .cases ha:sd.a with
     | none=>rw[ha]at hi;simp at hi
     | some a=>
      rw[ha]at hi;simp only[Option.map_some,Option.some.injEq]at hi ⊢;rw[<- hi];rfl
   generalize(⟨h_ sd.a sd.cap 1 1,sd.len - 1,sd.cap - 1⟩ : Sl)=sd' at *;refine Nn.mk (aH.mk r.aw (by simp) rfl fun w3 YX=>?_);have VP:∀i,s0.aw=some i->i≠rb:=fun i hi=>(r.n2 s0 List.mem_cons_self i hi).1
   have pw:=r.n3;simp only[List.pairwise_cons]at pw
   have L5:∀i,(⟨rb,sd',ins⟩ : DY).fp i->(⟨rb,sd,s0::ins⟩ : DY).fp i:=fun i hi=>by
    rcases hi with h | h | ⟨s,hs,h⟩
    .exact .inl h
    .exact .inr (.inl (wI i h))
    .exact .inr (.inr ⟨s,List.mem_cons_of_mem _ hs,h⟩)
   refine k l ls ⟨s0.a,(size - 0).toNat,(size - 0).toNat⟩ ⟨rb,sd',ins⟩ w3 rS hd hle ?_ ?_ rfl L5 (fun i hi=>?_) YX.ext YX.size
   .have wr:=((FN.wr).take (n:=size.toNat) (m:=size.toNat) (by omega) (Nat.le_refl _)).ext YX.ext fun i hi h=>VP i hi h
    rw[show(size - 0).toNat=size.toNat by omega,List.map_take];exact wr
   .refine⟨YX.get r.aw,cut.ext YX.ext fun a b ha hb h=>r.n1 (wI _ (by simp[Sl.aw,ha,hb];exact h)),fun i hi=>by rw[YX.size];exact r.old i (wI i hi),by simp only;omega,fun j h1 h2=>?_,fun x hx=>r.b8 x (by rw[hd];exact List.mem_cons_of_mem _ hx),fun h=>r.n1 (wI _ h),fun s hs i hi=>⟨(r.n2 s (List.mem_cons_of_mem _ hs) i hi).1,fun h=>(r.n2 s (List.mem_cons_of_mem _ hs) i hi).2 (wI _ h)⟩,pw.2⟩;have inn:=r.inner (j+1) (by simpa using h1) (by rw[hd];simpa using h2);simp only[List.getElem_cons_succ,hd]at inn;exact inn.ext YX.ext fun i hi h=>(r.n2 _ (List.mem_cons_of_mem _ (List.getElem_mem h1)) i hi).1 h
   .have qO:s0.aw=some i:=hi;refine⟨.inr (.inr ⟨s0,List.mem_cons_self,qO⟩),fun h=>?_⟩;rcases h with h | h | ⟨s,hs,h⟩
    .exact VP i qO h
    .exact(r.n2 s0 List.mem_cons_self i qO).2 (wI i h)
    .exact pw.1 s hs i qO h
structure VQ(h:Array Obj)(s:Sl)(L:List (List Int)):Prop where
 ex:∃ins:List Sl,Rd h s 1 (ins.flatMap Ra)/\ins.length=L.length/\∀j (h1:j < ins.length) (h2:j < L.length),aQ h ins[j] L[j]
 b8:∀l∈L,B8 l
theorem VQ.len{h:Array Obj}{s:Sl}{L:List (List Int)}(r:VQ h s L):s.len=L.length:=by
 obtain⟨ins,h1,h2,_⟩:=r.ex;have:=h1.len;rw[cQ wy]at this;omega
theorem JG{p:Addr}{bG:Int}{eV:Sl}{L:List (List Int)}{K:Option Addr->Int->Pw}(hL:VQ w.heap eV L)(hn:L.length<=4294967296)(hl:∀l∈L,l.length<=140737488355328)
  (k:∀g w',fX w'.heap g ⟨some p,bG,0,0,L⟩->(∀i,g.fp i->w.heap.size<=i)->Ext No w w'->K g.p 0 w'):xZ (some p) bG eV w K:=by
 apply NV;have hdl:=hL.len;obtain⟨aaR,ho,hi0,hin⟩:=hL.ex;refine If.no fun b w1 new=>?_
 have ab:=new.at_;have zb:=new.size
 refine⟨fun m t w2=>∃(j:Nat) (sd:Sl) (ins:List Sl),t=j/\m=L.length - j/\j<=L.length/\fX w2.heap ⟨b,sd,ins⟩ ⟨some p,bG,0,0,L.take j⟩/\aP w2.heap 0 NQ 1 sd (ins.flatMap Ra)/\(∀i,(⟨b,sd,ins⟩ : DY).fp i->w.heap.size<=i)/\Ext No w w2,
  ⟨_,0,⟨none,0,0⟩,[],rfl,rfl,Nat.zero_le _,?_,aP.nil _ _ _ _,fun i hi=>?_,new.ext⟩,?_⟩
 .exact⟨new.get,Rd.nil _ _,fun i hi=>by simp[Sl.aw]at hi,by simp,fun j h1=>by simp at h1,fun l hl=>by simp at hl,by simp[Sl.aw],fun s hs=>by simp at hs,List.Pairwise.nil⟩
 .rcases hi with h | h | ⟨s,hs,_⟩
  .simp only at h;omega
  .simp[Sl.aw]at h
  .simp at hs
 .rintro _ m t w2 ⟨j,sd,ins,rfl,rfl,hj,r2,G0,fp2,x2⟩;refine If.dec (fun aN=>?_) (fun zQ=>?_)
  .have xG:j < L.length:=by omega
   have afH:=r2.n;simp only[List.length_take]at afH;have ac8:=hin j (by omega) xG
   refine Ix.elem (ho.no x2) wy (by decide) (by omega) aN fun bb o hi hb hc=>⟨aaR[j]'(by omega),by have:=hc 0 (aaR[j]'(by omega)).v (by simp[Ra]);simpa using this,?_⟩
   have hlj:=hl _ (List.getElem_mem xG);have hbj:=hL.b8 _ (List.getElem_mem xG);generalize aaR[j]'(by omega)=vv at *;generalize hLj:L[j]=lj at *;have lvv:vv.len=lj.length:=aQ.len ac8;have r2d:fX (ae w2).heap ⟨b,sd,ins⟩ ⟨some p,bG,0,0,L.take j⟩:=r2;refine⟨Ext (fun i=>sd.aw=some i) w2,(Ext.refl _ _).drew,Nn.mk ⟨sd,aj.aF (Cell.af r2.aw rfl) r2.n1,fun b1 w3 n3=>⟨(Ext.refl _ _).drew.no n3.ext,?_⟩⟩⟩;have Ma:=aP.new (sz:=1) (n:=0) n3 rfl (by simp);have ed:(ae w2).heap.size=w2.heap.size:=rfl;have z3:=n3.size;refine dj Ma (by omega) ((ac8.no x2).no ((Ext.refl No w2).drew.no n3.ext)).src (by simp only;omega) fun s4 w4 o4 ahT x4 ahU=>?_
   have mq:Ext No w2 w4:=((Ext.refl No w2).drew.no n3.ext).trans x4 fun i hi h=>by have:=(Ma.lt h).1;omega
   refine⟨mq.az,fun b2 w5 n5=>⟨(mq.no n5.ext).az,?_⟩⟩;have kv:=mq.no n5.ext;have z5:=kv.size;have ac9:=G0.no kv;have hsd:sd.len=ins.length:=by have:=G0.len;rw[cQ wy]at this;omega
   refine sO ac9 (Nat.zero_le _) ((aP.new (sz:=1) (n:=1) n5 rfl (by simp[cB])).rd.src) (by simp only;omega) fun s6 w6 o6 afF x6 aaQ=>?_
   have TU:Ext (fun i=>sd.aw=some i) w2 w6:=kv.az.trans x6 fun _ _ h=>h
   refine⟨TU,Nn.mk ?_⟩;have z24:=mq.size;have o4':aP w4.heap 0 PB 1 s4 (lj.map (Value.int .u8)):=by simpa using o4.mono (Nat.zero_le _)
   have f4:∀i,s4.aw=some i->w2.heap.size<=i/\i < w4.heap.size:=fun i hi=>⟨by have:=(o4.lt hi).1;omega,(o4.lt hi).2⟩
   have Na:∀i,(⟨b,sd,ins⟩ : DY).fp i->i < w2.heap.size:=fun i hi=>r2.lt hi
   have fresh:∀i,s6.aw=some i->sd.aw=some i∨w5.heap.size<=i:=fun i hi=>by
    rcases aaQ with h | ⟨i',h,zQ⟩
    .exact .inl (by rw[<- h];exact hi)
    .rw[hi]at h;cases h;exact .inr zQ
   have b6:w6.heap[b]? = some (.cells (TT ⟨some p,bG,0,0,L.take j⟩ sd).toArray vk (0,0)):=by
    rw[TU.aw _ (blt r2.aw) r2.n1];exact r2.aw
   refine aH.mk b6 (by simp) rfl fun w7 Q_=>Ar.i64 (by omega) ⟨_,?_,j+1,s6,ins++[s4],by omega,rfl,by omega,?_,?_,fun i hi=>?_,?_⟩
   .omega
   .have n1:s6.aw≠some b:=fun h=>by
     rcases fresh b h with h | h
     .exact r2.n1 h
     .have:=Na b (.inl rfl);omega
    have ln5:w4.heap.size < w5.heap.size:=by rw[n5.size];omega
    have n4b:∀i,s4.aw=some i->i≠b:=fun i hi h=>by have:=(f4 i hi).1;have:=Na b (.inl rfl);omega
    refine⟨Q_.get b6,?_,fun i hi=>?_,by simp only[List.length_append,List.length_singleton,List.length_take];omega,fun q h1 h2=>?_,fun l hl=>hL.b8 l (List.mem_of_mem_take hl),n1,fun s hs i hi=>?_,?_⟩
    .have:=(o6.ext Q_.ext fun i hi h=>n1 (by rw[hi,h])).rd;rw[List.flatMap_append,List.flatMap_singleton];exact this
    .rw[Q_.size];exact(o6.lt hi).2
    .by_cases hq:q < ins.length
     .have e1:(ins++[s4])[q]=ins[q]:=List.getElem_append_left hq;have e2:(L.take (j+1))[q]=(L.take j)[q]'(by rw[List.length_take];omega):=by simp
      simp only[e1,e2];exact((r2.inner q hq (by simp only[List.length_take];omega)).ext TU fun i hi h=>(r2.n2 _ (List.getElem_mem hq) i hi).2 h).ext Q_.ext fun i hi h=>(r2.n2 _ (List.getElem_mem hq) i hi).1 h
     .have hq2:q=j:=by simp only[List.length_append,List.length_singleton]at h1;omega
      subst hq2;have e1:(ins++[s4])[q]=s4:=by rw[List.getElem_append_right (by omega)];simp
      have e2:(L.take (q+1))[q]=lj:=by simp[hLj]
      simp only[e1,e2];exact((o4'.no n5.ext).ext x6 fun i hi h=>by have:=(f4 i hi).1;have:=Na i (.inr (.inl h));omega).ext Q_.ext fun i hi h=>n4b i hi h
    .rcases List.mem_append.1 hs with hs | hs
     .refine⟨(r2.n2 s hs i hi).1,fun h=>?_⟩;rcases fresh i h with h | h
      .exact(r2.n2 s hs i hi).2 h
      .have:=Na i (.inr (.inr ⟨s,hs,hi⟩));omega
     .simp at hs;subst hs;refine⟨n4b i hi,fun h=>?_⟩;rcases fresh i h with h | h
      .have:=(f4 i hi).1;have:=Na i (.inr (.inl h));omega
      .have:=(f4 i hi).2;omega
    .rw[List.pairwise_append];refine⟨r2.n3,by simp,fun s hs t ht i hi h=>?_⟩;simp at ht;subst ht;have:=(f4 i h).1;have:=Na i (.inr (.inr ⟨s,hs,hi⟩));omega
   .have n1:s6.aw≠some b:=fun h=>by
     rcases fresh b h with h | h
     .exact r2.n1 h
     .have:=Na b (.inl rfl);omega
    have:=o6.ext Q_.ext fun i hi h=>n1 (by rw[hi,h])
    rw[List.flatMap_append,List.flatMap_singleton];exact this
   .have z2:=x2.size;rcases hi with h | h | ⟨s,hs,h⟩
    .exact fp2 i (.inl h)
    .rcases fresh i h with h | h
     .exact fp2 i (.inr (.inl h))
     .omega
    .rcases List.mem_append.1 hs with hs | hs
     .exact fp2 i (.inr (.inr ⟨s,hs,h⟩))
     .simp at hs;subst hs;have:=(f4 i h).1;omega
   .exact(x2.trans TU fun i hi h=>by have:=fp2 i (.inr (.inl h));omega).trans Q_.ext fun i hi h=>by
     have h':i=b:=h;have:=fp2 b (.inl rfl);omega
  .have ej:j=L.length:=by omega
   have:L.take j=L:=List.take_of_length_le (by omega);rw[this]at r2;exact k _ w2 r2 fp2 x2
end
structure MP where
 cm:Int
 pg:Int
 rc:Int
 gn:Int
 lv:Int
 rg:Int
 tn:Int
structure MP.OK(m:MP):Prop where
 cm:1<=m.cm/\m.cm<=18446744073709551615
 pg:0<=m.pg/\m.pg<=4294967295
 rc:lO m.rc
 gn:0<=m.gn/\m.gn<=65535
 lv:m.lv=0
 rg:0<=m.rg/\m.rg<=65535
 tn:0<=m.tn/\m.tn<=4294967295
abbrev MP.c(m:MP):List Value:=[.int .u64 m.cm,.int .u32 m.pg,.int .u64 m.rc,.int .u16 m.gn,.int .u8 m.lv,.int .u16 m.rg,.int .u32 m.tn]
abbrev MP.ns(m:MP):List NS:=[⟨m.cm,8⟩,⟨m.pg,4⟩,⟨m.rc,8⟩,⟨m.gn,2⟩,⟨m.lv,1⟩,⟨m.rg,2⟩,⟨m.tn,4⟩]
theorem MP.OK.ns{m:MP}(h:m.OK):∀p∈m.ns,p.OK:=by
 obtain⟨h1,h2,h3,h4,h5,h6,h7⟩:=h
 have u1:lO m.cm:=⟨by omega,by omega⟩
 intro p hp;simp only[MP.ns,List.mem_cons,List.not_mem_nil,or_false]at hp;rcases hp with rfl | rfl | rfl | rfl | rfl | rfl | rfl
 .exact⟨u1.1,Oi u1,by simp,by simp⟩
 .exact⟨h2.1,by show m.pg < (256:Int) ^ 4;omega,by simp,by simp⟩
 .exact⟨h3.1,Oi h3,by simp,by simp⟩
 .exact⟨h4.1,by show m.gn < (256:Int) ^ 2;omega,by simp,by simp⟩
 .exact⟨by show 0<=m.lv;omega,by show m.lv < (256:Int) ^ 1;omega,by simp,by simp⟩
 .exact⟨h6.1,by show m.rg < (256:Int) ^ 2;omega,by simp,by simp⟩
 .exact⟨h7.1,by show m.tn < (256:Int) ^ 4;omega,by simp,by simp⟩
section
variable {w w':Wd} {m:MP}
theorem pv{K:Int->Pw}(ok:m.OK)(k:∀w',Ext No w w'->K 0 w'):kT m.cm m.pg m.rc m.gn m.lv m.rg m.tn w K:=by
 apply IY;refine fun b w1 n1=>fx rfl rfl (a_ rfl) fun w3 g3 z3 x3=>?_
 have g1:w3.heap[b]? = some (.cells m.c.toArray 48 (0,0)):=(x3.aw b (aN n1.get) fun h=>h).trans n1.get;have x:=n1.ext.no x3;refine⟨m.cm,Cell.af g1 rfl,If.beq (fun h=>by have:=ok.cm;omega) fun _=>⟨m.lv,Cell.af g1 rfl,If.dec (fun h=>by have:=ok.lv;omega) fun _=>⟨_,Cell.af g1 rfl,_,Cell.af g1 rfl,_,Cell.af g1 rfl,_,Cell.af g3 rfl,_,Cell.af g3 rfl,_,Cell.af g3 rfl,If.cases (fun _=>⟨m.lv,Cell.af g1 rfl,If.bne (fun h=>absurd ok.lv h) fun _=>k w3 x⟩) fun _=>k w3 x⟩⟩⟩
abbrev NS.c2(p:NS):List Value:=[.int .u64 p.n,.int .i64 (p.z:Int)]
def MP.bytes(m:MP):List Int:=m.ns.flatMap NS.b++List.replicate 195 0
theorem MP.b29(m:MP):(m.ns.flatMap NS.b).length=29:=by simp[aK]
theorem MP.kr(m:MP):m.bytes.length=224:=by unfold MP.bytes;rw[List.length_append,MP.b29,List.length_replicate]
theorem MP.rH(m:MP):B8 m.bytes:=by
 refine B8.append (fun x hx=>?_) (B8.vE _);obtain⟨p,_,hp⟩:=List.mem_flatMap.1 hx;exact cv _ _ x hp
theorem DZ{K:Sl->Int->Pw}(ok:m.OK)(k:∀s w',aL w'.heap w.heap.size s m.bytes->Ext No w w'->K s 0 w'):qC m.cm m.pg m.rc m.gn m.lv m.rg m.tn w K:=by
 apply GR;refine fun b w1 n1=>?_
 have g1:w1.heap[b]? = some (.cells m.c.toArray 48 (0,0)):=n1.get;refine⟨_,Cell.af g1 rfl,_,Cell.af g1 rfl,_,Cell.af g1 rfl,_,Cell.af g1 rfl,_,Cell.af g1 rfl,_,Cell.af g1 rfl,_,Cell.af g1 rfl,pv ok fun w2 x2=>If.bne (fun h=>absurd rfl h) fun _=>?_⟩;have g2:w2.heap[b]? = some (.cells m.c.toArray 48 (0,0)):=(x2.aw b (aN g1) fun h=>h).trans g1;refine⟨_,Cell.af g2 rfl,_,Cell.af g2 rfl,_,Cell.af g2 rfl,fx rfl rfl (a_ rfl) fun w4 g4 z4 x4=>?_⟩;have g5:w4.heap[b]? = some (.cells m.c.toArray 48 (0,0)):=(x4.aw b (aN g2) fun h=>h).trans g2;obtain⟨h1,h2,h3,h4,h5,h6,h7⟩:=id ok;refine⟨_,Cell.af g5 rfl,_,Cell.af g4 rfl,Ar.u64 (by omega) ⟨_,Cell.af g4 rfl,_,Cell.af g4 rfl,Ar.u64 (by omega) ⟨_,Cell.af g5 rfl,Ar.u64 (by omega) ⟨_,Cell.af g5 rfl,Ar.u64 (by omega) ⟨_,Cell.af g5 rfl,Ar.u64 (by omega) fun b2 w5 n5=>?_⟩⟩⟩⟩⟩;have own:aP w5.heap w4.heap.size 511 2 ⟨some ⟨b2,0,none⟩,7,7⟩ (m.ns.flatMap NS.c2):=aP.new (n:=7) n5 rfl (a_ rfl);have x5:Ext No w w5:=((n1.ext.no x2).no x4).no n5.ext;refine⟨fun q s t u=>∃i:Nat,t=(i:Int)/\i<=7/\q=7 - i/\Ext No w u/\Ext No w5 u/\aL u.heap w5.heap.size s ((m.ns.take i).flatMap NS.b),⟨_,0,rfl,by omega,rfl,x5,Ext.refl _ _,aP.nil _ _ _ _⟩,?_⟩;rintro _ q s t w6 ⟨i,rfl,hi,rfl,x6,y6,o6⟩
 have lb:∀i,i<=7->((m.ns.take i).flatMap NS.b).length<=224:=fun i hi=>by
  have:i=0∨i=1∨i=2∨i=3∨i=4∨i=5∨i=6∨i=7:=by omega
  rcases this with rfl | rfl | rfl | rfl | rfl | rfl | rfl | rfl <;> simp[aK]
 have hs:s.len<=224:=by rw[aL.len o6];exact lb i hi
 have hz6:=y6.size;have hz5:=x5.size;refine If.dec (fun h=>?_) fun h=>?_
 .have qO:i < m.ns.length:=by show i < 7;omega
  refine Ix.elem (s:=⟨some ⟨b2,0,none⟩,7,7⟩) (f:=NS.c2) (l:=m.ns) ((own.no y6).rd) (fun _ _=>rfl) (by decide) (by omega) h fun bb o Tu _ hc=>?_
  have hp:=ok.ns _ (List.getElem_mem qO);refine⟨(m.ns[i]).n,hc 0 _ rfl,((m.ns[i]).z:Int),hc 1 _ rfl,fx rfl rfl (a_ rfl) fun w8 g8 z8 x8=>⟨_,Cell.af g8 rfl,_,Cell.af g8 rfl,jl hp.1 (by have:=hp.2.2.1;omega) (by have:=hp.2.2.2;omega) (by rw[Int.toNat_natCast];exact hp.2.1) fun s9 w9 o9 x9=>?_⟩⟩;rw[Int.toNat_natCast]at o9;have PS:=x8.no x9;have hz9:=PS.size;have hs9:s9.len<=8:=by rw[aL.len o9,aK];exact hp.2.2.2
  refine dj (o6.no PS) (by omega) o9.rd.src (by omega) fun WZ eK Jv _ dQ _=>Ar.i64 (by omega) ⟨7 - (i+1),by omega,i+1,by omega,by omega,rfl,?_,?_,?_⟩
  .exact(x6.no PS).trans dQ fun j hj e=>by have:=(o6.lt e).1;omega
  .refine(y6.no PS).trans dQ fun j hj e=>?_
   have:=(o6.lt e).1;omega
  .rw[<- List.map_append]at Jv;rw[List.take_succ_eq_append_getElem qO,List.flatMap_append,List.flatMap_cons,List.flatMap_nil,List.append_nil];exact Jv
 .have:i=7:=by omega
  subst this;refine Ar.i64 (by omega) ?_;have e:(224:Int) - (s.len:Int)=((224 - s.len:Nat):Int):=by omega
  rw[e];refine Fw (k:= .i64) (ie:=Tryz.t5) (z:= .int .u8 0) (by kernel_rfl) (by kernel_rfl) (by kernel_rfl) (by kernel_rfl) (by kernel_rfl) (by kernel_rfl) rfl (by kernel_rfl) o6 hz6 (by omega) fun s' w' o _ x _=>?_
  rw[<- List.map_replicate,<- List.map_append]at o;have hl:=aL.len o6;have e7:(m.ns.take 7).flatMap NS.b=m.ns.flatMap NS.b:=rfl;rw[e7,MP.b29]at hl;rw[e7,hl]at o;exact k s' w' (o.mono hz5) (x6.trans x fun j hj e=>by have:=(o6.lt e).1;omega)
abbrev MP.oq(m:MP):iV:=⟨0,4,0,m.cm % 2,m.cm,m.rg⟩
theorem MP.OK.oq(ok:m.OK):m.oq.OK:=by
 have h1:=ok.cm;have h6:=ok.rg;simp only[iV.OK,lO];omega
theorem tj{K:Int->Int->Int->Int->Int->Int->Pw}(ok:m.OK)(k:∀w',Ext No w w'->K m.oq.t m.oq.kd m.oq.lv m.oq.pg m.oq.cm m.oq.gn w'):ij m.cm m.pg m.rc m.gn m.lv m.rg m.tn w K:=by
 apply E9;refine fun b w1 n1 b1 w2 n2=>?_
 have g1:w2.heap[b]? = some (.cells m.c.toArray 48 (0,0)):=(n2.ext.aw b (aN n1.get) fun h=>h).trans n1.get;have h1:=ok.cm;refine⟨m.cm,Cell.af g1 rfl,by decide,Nm.as (k_ (by omega)) (Ar.u32 (by omega) ⟨m.cm,Cell.af g1 rfl,m.rg,Cell.af g1 rfl,rfl,bO.mk n2.get (Nat.le_refl 6) (a_ rfl) fun w3 h3=>?_⟩)⟩;have g3:=h3.get n2.get;have hb:=n2.at_;have x3:Ext No w w3:=(n1.ext.no n2.ext).out h3.ext (by have:=n1.size;omega);exact⟨_,Cell.af g3 rfl,_,Cell.af g3 rfl,_,Cell.af g3 rfl,_,Cell.af g3 rfl,_,Cell.af g3 rfl,_,Cell.af g3 rfl,k w3 x3⟩
theorem G7{rb mb lb:Nat}{ks:List RK}{q:RK}{ls:Sl}{L:List LE}{K:Sl->Int->Pw}(ok:m.OK)(R:kh w rb mb ks)(hf:ki ks ⟨0,m.rg⟩=some q)(G:zq w.heap lb ls L)(hL:L.length<=1000)
  (k:∀s pB w',aL w'.heap w.heap.size s (bE q.l m.oq m.bytes)->zq w'.heap lb pB (L++[⟨m.oq,q.l,m.bytes,bE q.l m.oq m.bytes⟩])->(∀i,pB.aw=some i->ls.aw=some i∨w.heap.size<=i)->(∀i,s.aw=some i->pB.aw≠some i)->Ext (fun i=>i=lb∨ls.aw=some i) w w'->K s 0 w'):vf (some ⟨rb,0,none⟩) (some ⟨lb,0,none⟩) m.cm m.pg m.rc m.gn m.lv m.rg m.tn w K:=by
 apply LI
 refine fun b w1 n1=>⟨fun u=>w1=u,If.no (If.no rfl),?_⟩
 rintro _ _ rfl;have g1:w1.heap[b]? = some (.cells m.c.toArray 48 (0,0)):=n1.get;refine⟨_,Cell.af g1 rfl,_,Cell.af g1 rfl,_,Cell.af g1 rfl,_,Cell.af g1 rfl,_,Cell.af g1 rfl,_,Cell.af g1 rfl,_,Cell.af g1 rfl,DZ ok fun s3 w3 o3 x3=>If.bne (fun h=>absurd rfl h) fun _=>?_⟩;have g3:w3.heap[b]? = some (.cells m.c.toArray 48 (0,0)):=(x3.aw b (aN g1) fun h=>h).trans g1;have iC:=n1.ext.no x3;refine⟨m.rg,Cell.af g3 rfl,gM (R.no iC) hf fun s4 w4 o4 x4=>If.bne (fun h=>absurd rfl h) fun _=>?_⟩;have g4:w4.heap[b]? = some (.cells m.c.toArray 48 (0,0)):=(x4.aw b (aN g3) fun h=>h).trans g3;refine⟨_,Cell.af g4 rfl,_,Cell.af g4 rfl,_,Cell.af g4 rfl,_,Cell.af g4 rfl,_,Cell.af g4 rfl,_,Cell.af g4 rfl,_,Cell.af g4 rfl,tj ok fun w5 x5=>?_⟩;have th:=iC.no x4;have nI:=th.no x5;have hq:=R.key q (List.mem_of_find?_eq_some hf);have z1:=n1.ext.size;have z3:=iC.size;have z4:=th.size;have z5:=nI.size;have hls:∀i,ls.aw=some i->i < w.heap.size:=fun i hi=>(G.own.lt hi).2
 refine AN (l:=m.oq) (G.no nI) hL ok.oq ⟨by show(1:Int)<=4;decide,by show(4:Int)<=4;decide⟩ (o4.rd.no x5) hq.2.1 (by rw[aL.len o4,<- aQ.len hq.1];exact hq.2.2) (o3.rd.no (x4.no x5)) m.rH (by rw[aL.len o3];exact m.kr) (fun i hi e=>?_) (fun i hi e=>?_) fun s pB w6 o6 G6 hl6 VN x6=>k s pB w6 (o6.mono z5) G6 (fun i hi=>(hl6 i hi).imp id fun h=>by omega) VN (nI.az.trans x6 fun i _ h=>h)
 .have:=hls i e;have:=(o4.lt hi).1;omega
 .have:=hls i e;have:=(o3.lt hi).1;omega
end
end Go.Proofs.YtiigcapldngijaaGreat
namespace Go.Proofs.YtiigcapldngijaaGreat
open Go.V Go.V.Dk
section
variable {w:Wd} {d:tQ} {D:DS}
end
end Go.Proofs.YtiigcapldngijaaGreat
namespace Go.Proofs.YtiigcapldngijaaGreat
open Go.V Go.V.Dk Go.V.Rn
structure KP where
 n:Int
 l:iV
 s:Sl
 b:List Int
abbrev KP.v(k:KP):Value:= .agg (#[.int .u32 k.l.t,.int .u8 k.l.kd,.int .u8 k.l.lv,.int .u32 k.l.pg,.int .u64 k.l.cm,.int .u16 k.l.gn,k.s.v])
abbrev KP.e(k:KP):Int×Value:=(k.n,k.v)
structure SA where
 d:tQ
 D:DS
 g:DY
 R:RS
 rb:Nat
 mb:Nat
 ks:List RK
 lb:Nat
 ls:Sl
 L:List LE
 pb:Nat
 fr:Sl
 F:List fA
 kb:Nat
 ps:List KP
 wb:Nat
 nb:Nat
 pm:Option Nat
 dm:Option Nat
 pu:List Int
 wl:List Int
 dl:List Int
 cm:Int
 la:Int
 fl:Bool
 N:Nat
abbrev SA.pC(s:SA):List Value:=[.pointer s.d.p,.pointer (some ⟨s.rb,0,none⟩),.pointer (some ⟨s.lb,0,none⟩),s.fr.v,.map (some s.kb),.map (some s.wb),.map s.pm,.map s.dm,.map (some s.nb),.int .u64 s.cm,.int .u64 s.la,.bool s.fl,.bool false]
abbrev lz:Int->Value:=Value.int .u32
abbrev CG(l:List Int):List (Int×Value):=l.map fun n=>(n,Value.bool true)
structure Calm(N:Nat)(D:DS):Prop where
 n:D.now.length=N
 nN:8<=N/\N<=4096
 fail:D.fail=0
 cut:D.cut = -1
 down:D.down=false
 st:0<=D.steps/\D.steps<=1000
 w:D.waits.length<=1000
theorem Calm.step{N:Nat}{D:DS}(c:Calm N D):bZ D=(0,{ D with steps:=D.steps+1 }):=by
 obtain⟨_,_,h1,h2,h3,_,_⟩:=c;unfold bZ;simp[h1,h2,h3]
section
variable {w w':Wd} {T T':Nat->Nat} {s:SA} {S:Nat->Prop}
structure Y0(w:Wd)(T:Nat->Nat)(N:Nat)(d:tQ)(D:DS):Prop where
 r:bz w.heap d D
 t:∀i,d.fp i->T i=1
 c:Calm N D
structure Y1(w:Wd)(T:Nat->Nat)(d:tQ)(g:DY)(R:RS):Prop where
 r:fX w.heap g R
 t:∀i,g.fp i->T i=2
 d:R.dev=d.p
structure Y2(w:Wd)(T:Nat->Nat)(rb mb:Nat)(ks:List RK):Prop where
 r:kh w rb mb ks
 t:T rb=3
 t2:T mb=3
 t3:∀k∈ks,∀i,k.s.aw=some i->T i=3
 n:ks.length<=100
structure LgC(w:Wd)(T:Nat->Nat)(lb:Nat)(ls:Sl)(L:List LE):Prop where
 r:zq w.heap lb ls L
 t:T lb=4
 t2:∀i,ls.aw=some i->T i=4
 n:L.length<=100
structure PbC(w:Wd)(T:Nat->Nat)(pb:Nat)(cs:List Value):Prop where
 r:w.heap[pb]? = some (.cells cs.toArray 180 (0,0))
 t:T pb=5
structure FrC(w:Wd)(T:Nat->Nat)(fr:Sl)(F:List fA):Prop where
 r:Ko w.heap fr F
 t:∀i,fr.aw=some i->T i=6/\i < w.heap.size
 u:zV F
 n:F.length<=1000
structure KnC(w:Wd)(T:Nat->Nat)(kb:Nat)(ps:List KP):Prop where
 r:cY w.heap lz kb (ps.map KP.e)
 t:T kb=7
 p:∀k∈ps,aQ w.heap k.s k.b/\(∀i,k.s.aw=some i->T i=12/\i < w.heap.size)/\B8 k.b/\k.b.length=224/\k.l.OK/\(1<=k.l.kd/\k.l.kd<=4)
structure MpC(w:Wd)(T:Nat->Nat)(wb:Nat)(wl:List Int)(nb:Nat)(pm:Option Nat)(pu:List Int)(dm:Option Nat)(dl:List Int):Prop where
 r:cY w.heap lz wb (CG wl)
 t:T wb=8
 r2:cY w.heap lz nb ([]:List (Int×Value))
 t2:T nb=9
 r3:∀m,pm=some m->cY w.heap lz m (CG pu)/\T m=10
 r4:∀m,dm=some m->cY w.heap lz m (CG dl)/\T m=11
structure Sy(w:Wd)(T:Nat->Nat)(s:SA):Prop where
 dk:Y0 w T s.N s.d s.D
 rg:Y1 w T s.d s.g s.R
 rn:Y2 w T s.rb s.mb s.ks
 lg:LgC w T s.lb s.ls s.L
 pb:PbC w T s.pb s.pC
 fr:FrC w T s.fr s.F
 kn:KnC w T s.kb s.ps
 mp:MpC w T s.wb s.wl s.nb s.pm s.pu s.dm s.dl
 out:∀i,w.heap.size<=i->T i=0
abbrev Ag(T T':Nat->Nat)(n:Nat):Prop:=∀i,i < n->T' i=T i
theorem map_lt{α:Type}{enc:α->Value}{r:Nat}{m:List (α×Value)}(h:cY w.heap enc r m):r < w.heap.size:=by obtain⟨es,clock,hb,_⟩:=h;exact aN hb
theorem Y0.aJ{N:Nat}{d:tQ}{D:DS}(c:Y0 w T N d D)(x:Ext S w w')(a:Ag T T' w.heap.size)(h:∀i,T i=1->¬ S i):Y0 w' T' N d D:=
 ⟨c.r.ext x fun i hi=>h i (c.t i hi),fun i hi=>(a i (c.r.lt hi)).trans (c.t i hi),c.c⟩
theorem Y1.aJ{d:tQ}{g:DY}{R:RS}(c:Y1 w T d g R)(x:Ext S w w')(a:Ag T T' w.heap.size)(h:∀i,T i=2->¬ S i):Y1 w' T' d g R:=
 ⟨c.r.ext x fun i hi=>h i (c.t i hi),fun i hi=>(a i (c.r.lt hi)).trans (c.t i hi),c.d⟩
theorem kh.klt{rb mb:Nat}{ks:List RK}(R:kh w rb mb ks){k:RK}(hk:k∈ks){i:Nat}(hi:k.s.aw=some i):i < w.heap.size:=by
 have:=R.key k hk;refine Rd.lt this.1 ?_ hi;intro e;have h2:=aQ.len this.1;have h3:k.l.length=0:=by have:=congrArg List.length e;simpa using this
 rcases this.2.2 with h | h <;> omega
theorem Y2.aJ{rb mb:Nat}{ks:List RK}(c:Y2 w T rb mb ks)(x:Ext S w w')(a:Ag T T' w.heap.size)(h:∀i,T i=3->¬ S i):Y2 w' T' rb mb ks:=
 ⟨c.r.ext x (h _ c.t) (h _ c.t2) fun k hk i hi=>h i (c.t3 k hk i hi),(a _ (aN c.r.aw)).trans c.t,(a _ (map_lt c.r.map)).trans c.t2,fun k hk i hi=>(a i (c.r.klt hk hi)).trans (c.t3 k hk i hi),c.n⟩
theorem LgC.aJ{lb:Nat}{ls:Sl}{L:List LE}(c:LgC w T lb ls L)(x:Ext S w w')(a:Ag T T' w.heap.size)(h:∀i,T i=4->¬ S i):LgC w' T' lb ls L:=
 ⟨c.r.ext x (h _ c.t) fun i hi=>h i (c.t2 i hi),(a _ (aN c.r.aw)).trans c.t,fun i hi=>(a i (c.r.own.lt hi).2).trans (c.t2 i hi),c.n⟩
theorem PbC.aJ{pb:Nat}{cs:List Value}(c:PbC w T pb cs)(x:Ext S w w')(a:Ag T T' w.heap.size)(h:∀i,T i=5->¬ S i):PbC w' T' pb cs:=
 ⟨(x.aw _ (aN c.r) (h _ c.t)).trans c.r,(a _ (aN c.r)).trans c.t⟩
theorem FrC.aJ{fr:Sl}{F:List fA}(c:FrC w T fr F)(x:Ext S w w')(a:Ag T T' w.heap.size)(h:∀i,T i=6->¬ S i):FrC w' T' fr F:=
 ⟨c.r.ext x fun p b hp hb=>h b (c.t b (by simp[Sl.aw,hp,hb])).1,fun i hi=>⟨(a i (c.t i hi).2).trans (c.t i hi).1,Nat.lt_of_lt_of_le (c.t i hi).2 x.size⟩,c.u,c.n⟩
theorem KnC.aJ{kb:Nat}{ps:List KP}(c:KnC w T kb ps)(x:Ext S w w')(a:Ag T T' w.heap.size)(h:∀i,T i=7->¬ S i)(h2:∀i,T i=12->¬ S i):KnC w' T' kb ps:=
 ⟨c.r.ext x (h _ c.t),(a _ (map_lt c.r)).trans c.t,fun k hk=>⟨(c.p k hk).1.ext x fun p b hp hb=>h2 b ((c.p k hk).2.1 b (by simp[Sl.aw,hp,hb])).1,fun i hi=>⟨(a i ((c.p k hk).2.1 i hi).2).trans ((c.p k hk).2.1 i hi).1,Nat.lt_of_lt_of_le ((c.p k hk).2.1 i hi).2 x.size⟩,(c.p k hk).2.2⟩⟩
theorem MpC.aJ{wb nb:Nat}{wl pu dl:List Int}{pm dm:Option Nat}(c:MpC w T wb wl nb pm pu dm dl)(x:Ext S w w')(a:Ag T T' w.heap.size)(h:∀i,T i=8->¬ S i)(h2:∀i,T i=9->¬ S i)(h3:∀i,T i=10->¬ S i)(h4:∀i,T i=11->¬ S i):MpC w' T' wb wl nb pm pu dm dl:=
 ⟨c.r.ext x (h _ c.t),(a _ (map_lt c.r)).trans c.t,c.r2.ext x (h2 _ c.t2),(a _ (map_lt c.r2)).trans c.t2,fun m hm=>⟨(c.r3 m hm).1.ext x (h3 _ (c.r3 m hm).2),(a _ (map_lt (c.r3 m hm).1)).trans (c.r3 m hm).2⟩,fun m hm=>⟨(c.r4 m hm).1.ext x (h4 _ (c.r4 m hm).2),(a _ (map_lt (c.r4 m hm).1)).trans (c.r4 m hm).2⟩⟩
def fY(T:Nat->Nat)(n n' c:Nat)(i:Nat):Nat:=if i < n then T i else if i < n' then c else 0
theorem aY(T:Nat->Nat)(n n' c:Nat):Ag T (fY T n n' c) n:=fun _ hi=>if_pos hi
theorem mE(T:Nat->Nat)(n n' c:Nat)(h:n<=n'):∀i,n'<=i->fY T n n' c i=0:=fun _ hi=>by unfold fY;rw[if_neg (by omega),if_neg (by omega)]
theorem bT(T:Nat->Nat){n n' c i:Nat}(h:n<=i)(h':i < n'):fY T n n' c i=c:=by unfold fY;rw[if_neg (by omega),if_pos h']
structure bu(T:Nat->Nat)(w:Wd)(T':Nat->Nat)(w':Wd):Prop where
 a:Ag T T' w.heap.size
 x:Ext (fun i=>1<=T i/\T i<=12) w w'
theorem bu.refl:bu T w T w:=⟨fun _ _=>rfl,Ext.refl _ _⟩
theorem bu.no(x:Ext No w w'):bu T w T w':=⟨fun _ _=>rfl,x.az⟩
theorem bu.trans{T1 T2:Nat->Nat}{w1 w2:Wd}(h:bu T w T1 w1)(k:bu T1 w1 T2 w2):bu T w T2 w2:=
 ⟨fun i hi=>(k.a i (Nat.lt_of_lt_of_le hi h.x.size)).trans (h.a i hi),h.x.trans k.x fun i hi hh=>by rw[h.a i hi]at hh;exact hh⟩
theorem bu.of(h:∀i,S i->1<=T i/\T i<=12)(x:Ext S w w')(a:Ag T T' w.heap.size):bu T w T' w':=⟨a,x.mono fun i _ hi=>h i hi⟩
theorem bu.nx{T1:Nat->Nat}{w1:Wd}(h:bu T w T1 w1)(k:Ext No w1 w'):bu T w T1 w':=h.trans (.no k)
theorem bu.aw{o:Obj}{b:Nat}(h:bu T w T' w')(hb:w.heap[b]? = some o)(ht:T b=0∨13<=T b):w'.heap[b]? = some o:=(h.x.aw b (aN hb) fun hh=>by omega).trans hb
theorem Sy.tag(y:Sy w T s)(x:Ext No w w')(c:Nat):Sy w' (fY T w.heap.size w'.heap.size c) s:=by
 have a:=aY T w.heap.size w'.heap.size c;have f:∀(k i:Nat),T i=k->¬ No i:=fun _ _ _ h=>h
 exact⟨y.dk.aJ x a (f 1),y.rg.aJ x a (f 2),y.rn.aJ x a (f 3),y.lg.aJ x a (f 4),y.pb.aJ x a (f 5),y.fr.aJ x a (f 6),y.kn.aJ x a (f 7) (f 12),y.mp.aJ x a (f 8) (f 9) (f 10) (f 11),mE _ _ _ _ x.size⟩
theorem Sy.no(y:Sy w T s)(x:Ext No w w'):Sy w' T s:=by
 have a:Ag T T w.heap.size:=fun _ _=>rfl
 have f:∀(k i:Nat),T i=k->¬ No i:=fun _ _ _ h=>h
 exact⟨y.dk.aJ x a (f 1),y.rg.aJ x a (f 2),y.rn.aJ x a (f 3),y.lg.aJ x a (f 4),y.pb.aJ x a (f 5),y.fr.aJ x a (f 6),y.kn.aJ x a (f 7) (f 12),y.mp.aJ x a (f 8) (f 9) (f 10) (f 11),fun i hi=>y.out i (Nat.le_trans x.size hi)⟩
theorem Sy.aaS{d':tQ}{D':DS}(y:Sy w T s)(r:bz w'.heap d' D')(g:G3 w s.d d')(x:Ext s.d.fp w w')(c:Calm s.N D'):Sy w' (fY T w.heap.size w'.heap.size 1) { s with d:=d',D:=D' }/\bu T w (fY T w.heap.size w'.heap.size 1) w':=by
 have a:=aY T w.heap.size w'.heap.size 1;have hp:d'.p=s.d.p:=by show some (Addr.mk d'.b 0 none)=some (Addr.mk s.d.b 0 none);rw[g.b]
 have f:∀(k:Nat),k≠1->∀i,T i=k->¬ s.d.fp i:=fun k hk i h e=>hk (h.symm.trans (y.dk.t i e))
 refine⟨⟨⟨r,fun i hi=>?_,c⟩,?_,y.rn.aJ x a (f 3 (by decide)),y.lg.aJ x a (f 4 (by decide)),?_,y.fr.aJ x a (f 6 (by decide)),y.kn.aJ x a (f 7 (by decide)) (f 12 (by decide)),y.mp.aJ x a (f 8 (by decide)) (f 9 (by decide)) (f 10 (by decide)) (f 11 (by decide)),mE _ _ _ _ x.size⟩,.of (fun i hi=>by rw[y.dk.t i hi];decide) x a⟩
 .rcases g.fp i hi with h | h
  .exact(a i (y.dk.r.lt h)).trans (y.dk.t i h)
  .exact bT T h (r.lt hi)
 .have k:=y.rg.aJ x a (f 2 (by decide));exact⟨k.r,k.t,k.d.trans hp.symm⟩
 .have k:=y.pb.aJ x a (f 5 (by decide));refine⟨?_,k.t⟩;have:=k.r;simp only[SA.pC]at this ⊢;rw[hp];exact this
end
end Go.Proofs.YtiigcapldngijaaGreat
namespace Go.Proofs.YtiigcapldngijaaGreat
open Go.V Go.V.Dk Go.V.Rn
section
variable {w w':Wd} {T T':Nat->Nat} {s:SA} {S:Nat->Prop}
theorem Sy.ada{R':RS}{D':DS}(y:Sy w T s)(q:fX w'.heap s.g R')(r:bz w'.heap s.d D')(x:Ext (fun i=>i=s.g.rb∨i=s.d.b) w w')(hd:R'.dev=s.d.p)(c:Calm s.N D'):Sy w' T { s with R:=R',D:=D' }/\bu T w T w':=by
 have a:Ag T T w.heap.size:=fun _ _=>rfl
 have t1:T s.d.b=1:=y.dk.t _ (.inl rfl);have t2:T s.g.rb=2:=y.rg.t _ (.inl rfl)
 have f:∀(k:Nat),k≠1->k≠2->∀i,T i=k->¬ (i=s.g.rb∨i=s.d.b):=fun k h1 h2 i h e=>by
  rcases e with rfl | rfl
  .exact h2 (h.symm.trans t2)
  .exact h1 (h.symm.trans t1)
 exact⟨⟨⟨r,y.dk.t,c⟩,⟨q,y.rg.t,hd⟩,y.rn.aJ x a (f 3 (by decide) (by decide)),y.lg.aJ x a (f 4 (by decide) (by decide)),y.pb.aJ x a (f 5 (by decide) (by decide)),y.fr.aJ x a (f 6 (by decide) (by decide)),y.kn.aJ x a (f 7 (by decide) (by decide)) (f 12 (by decide) (by decide)),y.mp.aJ x a (f 8 (by decide) (by decide)) (f 9 (by decide) (by decide)) (f 10 (by decide) (by decide)) (f 11 (by decide) (by decide)),fun i hi=>y.out i (Nat.le_trans x.size hi)⟩,
  .of (fun i hi=>by rcases hi with rfl | rfl <;> simp[t1,t2]) x a⟩
theorem Sy.ring{k:RK}(y:Sy w T s)(r:kh w' s.rb s.mb (s.ks++[k]))(hk:∀i,k.s.aw=some i->w.heap.size<=i)(x:Ext (·=s.mb) w w')(hn:s.ks.length < 100):Sy w' (fY T w.heap.size w'.heap.size 3) { s with ks:=s.ks++[k] }/\bu T w (fY T w.heap.size w'.heap.size 3) w':=by
 have a:=aY T w.heap.size w'.heap.size 3;have f:∀(k:Nat),k≠3->∀i,T i=k->¬ (i=s.mb):=fun k hk i h e=>by subst e;exact hk (h.symm.trans y.rn.t2)
 have c:=y.rn
 refine⟨⟨y.dk.aJ x a (f 1 (by decide)),y.rg.aJ x a (f 2 (by decide)),⟨r,(a _ (aN c.r.aw)).trans c.t,(a _ (map_lt c.r.map)).trans c.t2,fun q hq i hi=>?_,by simp;omega⟩,y.lg.aJ x a (f 4 (by decide)),y.pb.aJ x a (f 5 (by decide)),y.fr.aJ x a (f 6 (by decide)),y.kn.aJ x a (f 7 (by decide)) (f 12 (by decide)),y.mp.aJ x a (f 8 (by decide)) (f 9 (by decide)) (f 10 (by decide)) (f 11 (by decide)),mE _ _ _ _ x.size⟩,
  .of (fun i hi=>by rw[hi,c.t2];decide) x a⟩
 rcases List.mem_append.1 hq with h | h
 .exact(a i (c.r.klt h hi)).trans (c.t3 q h i hi)
 .simp only[List.mem_singleton]at h;subst h;exact bT T (hk i hi) (r.klt (List.mem_append.2 (.inr (List.mem_singleton.2 rfl))) hi)
theorem Sy.log{e:LE}{pB:Sl}(y:Sy w T s)(r:zq w'.heap s.lb pB (s.L++[e]))(hl:∀i,pB.aw=some i->s.ls.aw=some i∨w.heap.size<=i)(x:Ext (fun i=>i=s.lb∨s.ls.aw=some i) w w')(hn:s.L.length < 100):Sy w' (fY T w.heap.size w'.heap.size 4) { s with ls:=pB,L:=s.L++[e] }/\bu T w (fY T w.heap.size w'.heap.size 4) w':=by
  have a:=aY T w.heap.size w'.heap.size 4;have c:=y.lg
  have f:∀(k:Nat),k≠4->∀i,T i=k->¬ (i=s.lb∨s.ls.aw=some i):=fun k hk i h e=>by
    rcases e with rfl | e
    · exact hk (h.symm.trans c.t)
    · exact hk (h.symm.trans (c.t2 i e))
  refine⟨⟨y.dk.aJ x a (f 1 (by decide)),y.rg.aJ x a (f 2 (by decide)),y.rn.aJ x a (f 3 (by decide)),⟨r,(a _ (aN c.r.aw)).trans c.t,fun i hi=>?_,by simp;omega⟩,y.pb.aJ x a (f 5 (by decide)),y.fr.aJ x a (f 6 (by decide)),y.kn.aJ x a (f 7 (by decide)) (f 12 (by decide)),y.mp.aJ x a (f 8 (by decide)) (f 9 (by decide)) (f 10 (by decide)) (f 11 (by decide)),mE _ _ _ _ x.size⟩,
    .of (fun i hi => by rcases hi with rfl | h; · rw [c.t]; decide
                        · rw[c.t2 i h];decide) x a⟩
  rcases hl i hi with h | h
  · exact(a i (c.r.own.lt h).2).trans (c.t2 i h)
  · exact bT T h (r.own.lt hi).2
theorem Sy.Rb{fr':Sl}{F':List fA}{pm' dm':Option Nat}{pu' dl':List Int}{cm' la':Int}{fl':Bool}(y:Sy w T s)(r:w'.heap[s.pb]? = some (.cells ({ s with fr:=fr',pm:=pm',dm:=dm',cm:=cm',la:=la',fl:=fl' }:SA).pC.toArray 180 (0,0)))(x:Ext (·=s.pb) w w')
    (hf:FrC w T fr' F') (hm:MpC w T s.wb s.wl s.nb pm' pu' dm' dl'):Sy w' T { s with fr:=fr',F:=F',pm:=pm',dm:=dm',pu:=pu',dl:=dl',cm:=cm',la:=la',fl:=fl' }/\bu T w T w':=by
  have a:Ag T T w.heap.size:=fun _ _=>rfl
  have t5:=y.pb.t;have f:∀(k:Nat),k≠5->∀i,T i=k->¬ (i=s.pb):=fun k hk i h e=>by subst e;exact hk (h.symm.trans t5)
  exact⟨⟨y.dk.aJ x a (f 1 (by decide)),y.rg.aJ x a (f 2 (by decide)),y.rn.aJ x a (f 3 (by decide)),y.lg.aJ x a (f 4 (by decide)),⟨r,t5⟩,hf.aJ x a (f 6 (by decide)),y.kn.aJ x a (f 7 (by decide)) (f 12 (by decide)),hm.aJ x a (f 8 (by decide)) (f 9 (by decide)) (f 10 (by decide)) (f 11 (by decide)),fun i hi=>y.out i (Nat.le_trans x.size hi)⟩,
    .of (fun i hi=>by rw[hi,t5];decide) x a⟩
abbrev SA.p(s:SA):Option Addr:=some ⟨s.pb,0,none⟩
theorem G8{p:Option Addr}{K:Int->Pw}(y:Sy w T s)(k:K 0 w)(hp:p=s.p:=by rfl):bD p w K:=by
 subst hp;apply Ai;exact If.no (Nn.mk ⟨_,Cell.af y.pb.r rfl,If.no k⟩)
theorem TV{p:Option Addr}{n:Int}{K:Bool->Pw}(y:Sy w T s)(hn:0<=n/\n<=4294967295)(k:K (decide (2<=n/\n < (s.N:Int))) w)(hp:p=s.p:=by rfl):b_ p n w K:=by
 subst hp;apply Ae;have hN:=y.dk.c.nN;refine If.dec (fun h=>Ar.i64 (by omega) (Nn.mk ⟨_,Cell.af y.pb.r rfl,tS y.dk.r ?_⟩)) fun h=>?_
 .have e:decide (n < ((s.D.now.length:Nat):Int))=decide (2<=n/\n < (s.N:Int)):=by rw[y.dk.c.n];exact decide_eq_decide.2 (by omega)
  rw[e];exact k
 .rw[show decide (2<=n/\n < (s.N:Int))=false from decide_eq_false (by omega)]at k;exact k
theorem Mb{p:Option Addr}{K:Bool->Pw}(y:Sy w T s)(k:K (decide (s.cm≠0) && !s.fl) w)(hp:p=s.p:=by rfl):di p w K:=by
 subst hp;apply yx;refine Nn.mk ⟨_,Cell.af y.pb.r rfl,If.bne (fun h=>Nn.mk ⟨_,Cell.af y.pb.r rfl,?_⟩) fun h=>?_⟩
 .rw[decide_eq_true h]at k;exact k
 .rw[decide_eq_false (fun e=>e h)]at k;exact k
theorem TW{p:Option Addr}{K:Bool->Pw}(y:Sy w T s)(k:K false w)(hp:p=s.p:=by rfl):eZ p w K:=by
 subst hp;apply vw;exact If.not (If.no (Nn.mk ⟨_,Cell.af y.pb.r rfl,k⟩))
theorem adb{p:Option Addr}{K:Int->Pw}(y:Sy w T s)(k:K s.la w)(hp:p=s.p:=by rfl):jE p w K:=by
 subst hp;apply yQ;exact If.no (Nn.mk ⟨_,Cell.af y.pb.r rfl,k⟩)
theorem PT{p:Option Addr}{K:Int->Bool->Pw}(y:Sy w T s)(k0:s.cm=0->K 0 false w)(k:s.cm≠0->K s.cm s.fl (ae w))(hp:p=s.p:=by rfl):fg p w K:=by
 subst hp;apply vx;refine⟨fun u=>w=u/\s.cm≠0,If.no (Nn.mk ⟨_,Cell.af y.pb.r rfl,If.beq k0 fun h=>⟨rfl,h⟩⟩),?_⟩;rintro _ _ ⟨rfl,h⟩;exact⟨Ext No w,(Ext.refl _ _).drew,Nn.mk ⟨_,aj.aF (Cell.af y.pb.r rfl) (fun h=>h),Nn.mk ⟨_,aj.aF (Cell.af y.pb.r rfl) (fun h=>h),k h⟩⟩⟩
theorem FO{p:Option Addr}{K:Int->Pw}(y:Sy w T s)(k:∀w',Sy w' T s->bu T w T w'->K 0 w')(hp:p=s.p:=by rfl):cG p 0 w K:=by
 subst hp;apply vr;refine Nn.mk ⟨_,Cell.af y.pb.r rfl,If.no (Nn.mk (aH.mk y.pb.r (Nat.le_refl 13) rfl fun w1 h1=>?_))⟩;obtain⟨y1,s1⟩:=y.Rb (F':=s.F) (pu':=s.pu) (dl':=s.dl) (h1.get y.pb.r) h1.ext y.fr y.mp;exact k w1 y1 s1
end
end Go.Proofs.YtiigcapldngijaaGreat
namespace Go.V
theorem AO{α:Type}[DecidableEq α]{a:α}:∀{m:List (α×Value)},(∀p∈m,p.1≠a)->l_ a m=none
 | [],_=>rfl
 | p::m,h=>by
  unfold l_;rw[if_neg (fun e=>h p List.mem_cons_self e.symm)];exact AO fun q hq=>h q (List.mem_cons_of_mem _ hq)
theorem rI{α:Type}[DecidableEq α]{a:α}{v:Value}{m:List (α×Value)}(h:∀p∈m,p.1≠a):zU a v m=m++[(a,v)]:=by
 have Gv:jb a m 0=none:=by have:=oC a m 0;rw[AO h]at this;simpa using this
 exact(ma Gv).1
theorem TX{α:Type}[DecidableEq α]{a:α}{m:List (α×Value)}(h:∀p∈m,p.1≠a):Db a m=m:=by
 have Gv:jb a m 0=none:=by have:=oC a m 0;rw[AO h]at this;simpa using this
 exact(ma (v:= .nilFunc) Gv).2
end Go.V
namespace Go.Proofs.YtiigcapldngijaaGreat
open Go.V Go.V.Dk Go.V.Rn
section
variable {w w':Wd} {T T':Nat->Nat} {s:SA}
theorem ku:uP pz 36 lz:=IC (by kernel_rfl)
theorem tp:Tryz.prog.underlying 177=some (.map 36 4):=by kernel_rfl
theorem B_:Tryz.prog.underlying 176=some (.map 36 182):=by kernel_rfl
def ade:Value->Int
 | .int _ n=>n
 | _=>0
theorem vP{m:Nat}{l:List Int}{K:Sl->Pw}(hm:cY w.heap lz m (CG l))(hl:l.length<=1∨∃a b,l=[a,b]/\a < b)(k:∀s w',aP w'.heap w.heap.size 36 1 s (l.map (Value.int .u32))->Ext No w w'->K s w'):kQ (some m) w K:=by
  apply Fg;obtain⟨w1,eH,hI,hx,hz⟩:=Ei.start (P:=pz) tp hm;have ahV:=map_lt hm;refine⟨some ⟨w.heap.size,0,none⟩,w1,eH,fun q s u=>∃sm,q=l.length - sm.length/\Ei lz u w.heap.size m (CG l) sm/\aP u.heap (w.heap.size+1) 36 1 s ((sm.map Prod.fst).map (Value.int .u32))/\sm.length<=l.length/\Ext No w u,⟨_,[],rfl,hI,aP.nil _ _ _ _,Nat.zero_le _,hx⟩,?_⟩;rintro _ m0 s w2 ⟨sm,rfl,hI,ho,od,x2⟩;have hz2:=x2.size;have acw:=hI.lt;have zG:(CG l).length=l.length:=List.length_map _
  have Oe:l.length<=2:=by
    rcases hl with h | ⟨a,b,e,_⟩
    · omega
    · rw[e];exact Nat.le_refl 2
  rcases hI.next (P:=pz) (by omega) with⟨hp,w3,hn,x3⟩ | ⟨p,w3,hn,he,hI3,x3,hpm,TN,hlen⟩
  · refine .inl ⟨w3,hn,?_⟩
    have h1:(sm.map Prod.fst).Perm l:=by
      have:=hp.map (fun p:Value×Value=>ade p.1);simp only[rG,List.map_map,Function.comp_def,ade]at this;simpa using this
    have W7:=(ho.no x3).mono (Nat.le_succ _);rcases hl with hl | ⟨a,b,rfl,hab⟩
    · have e:sm.map Prod.fst=l:=by
        have h2:=h1.length_eq
        cases h:l with
        | nil=>rw[h]at h2;exact List.length_eq_zero_iff.1 h2
        | cons a tl=>
          rw[h]at h1 hl;have:tl=[]:=by simp only[List.length_cons]at hl;exact List.length_eq_zero_iff.1 (by omega)
          subst this;exact h1.eq_singleton
      rw[e]at W7;refine JB ?_ (k s w3 W7 (x2.no x3));have:=W7.len;rw[List.length_map]at this;omega
    · have fin:∀{p q:Int},sm.map Prod.fst=[p,q]->p≠q->(if p < q then [p,q] else [q,p])=[a,b]->bM s w3 fun w5=>K s w5:=fun {p q} e du he=>by
        rw[e]at W7;refine JC W7 du fun w' o' x'=>?_
        rw[he]at o';exact k s w' o' ((x2.no x3).trans x' fun i hi e=>by have:=(W7.lt e).1;omega)
      have h2:=h1.length_eq
      cases hs:sm.map Prod.fst with
      | nil=>rw[hs]at h2;simp at h2
      | cons p tl=>
        cases tl with
        | nil=>rw[hs]at h2;simp at h2
        | cons q tl2=>
          have:tl2=[]:=by rw[hs]at h2;simp at h2;exact h2
          subst this;rw[hs]at h1;have YM:p=a∨p=b:=by have:=h1.mem_iff.1 (List.mem_cons_self (a:=p));simpa using this
          rcases YM with rfl | rfl
          · have:q=b:=by have:=(List.perm_cons p).1 h1;simpa using this.eq_singleton
            subst this;exact fin hs (by omega) (by rw[if_pos hab])
          · have:q=a:=by
              have h3:=h1.trans (List.Perm.swap p a []);have:=(List.perm_cons p).1 h3;simpa using this.eq_singleton
            subst this;exact fin hs (by omega) (by rw[if_neg (by omega)])
  · refine .inr ⟨lz p.1,p.2,w3,hn,p.1,p.2,w3,he,?_⟩;have iC:Ext No w w3:=x2.trans x3 fun i hi e=>by subst e;omega
    have hz3:=x3.size
    refine zo (ho.ext x3 fun i hi e=>by have:=(ho.lt hi).1;omega) (by omega) rfl (Q5 rfl) (by have:=ho.len;rw[List.length_map,List.length_map]at this;omega) fun s4 w4 o4 l4 x4 _=>⟨l.length - (sm.length+1),by omega,sm++[p],by simp,hI3.ext x4 ?_ ?_,?_,by simp;omega,iC.trans x4 fun i hi e=>by have:=(ho.lt e).1;omega⟩
    · intro e;have:=(ho.lt e).1;omega
    · intro e;have:=(ho.lt e).1;omega
    · rw[List.map_append,List.map_append];exact o4
theorem CH{p:Option Addr}{n:Int}{ps':List KP}{K:Pw}(y:Sy w T s)(hn:0<=n/\n < 4294967295)(hr:bw s.F=true)(hh:Rn.hasB n s.F=false)(hk:Db n (s.ps.map KP.e)=ps'.map KP.e)(hs:∀k∈ps',k∈s.ps)(hl:(f_ s.F [(n,n+1)]).length<=1000)(hu:zV (f_ s.F [(n,n+1)]))
  (k:∀T' fr' w',Sy w' T' { s with fr:=fr',F:=f_ s.F [(n,n+1)],ps:=ps' }->bu T w T' w'->K w') (hp:p=s.p:=by rfl):cf p n w K:=by
 subst hp;apply uf;refine Nn.mk ⟨s.fr,Cell.af y.pb.r rfl,?_⟩;refine QU y.fr.r y.fr.u (by have:=y.fr.n;omega) (by omega) (fun h=>by rw[hr]at h;cases h) (fun _ h=>by omega) (fun _ _ h=>by rw[hh]at h;cases h) fun _ _ _ s1 w1 o1 x1=>?_
 have y1:=y.tag x1 6
 have LW:bu T w (fY T w.heap.size w1.heap.size 6) w1:=⟨aY _ _ _ _,x1.az⟩
 refine Nn.mk (aH.mk y1.pb.r (Nat.le_of_ble_eq_true rfl) rfl fun w2 h2=>?_);obtain⟨y2,HV⟩:=y1.Rb (fr':=s1) (F':=f_ s.F [(n,n+1)]) (pu':=s.pu) (dl':=s.dl) (h2.get y1.pb.r) h2.ext ⟨o1.rd,fun i hi=>⟨bT _ (o1.lt hi).1 (o1.lt hi).2,(o1.lt hi).2⟩,hu,hl⟩ y1.mp;obtain⟨w3,h3,m3,x3,z3⟩:=EL (P:=pz) (a:=n) (t:=0) ku B_ y2.kn.r;refine Nn.mk ⟨some s.kb,Cell.af y2.pb.r rfl,w3,h3,?_⟩;simp only at m3;rw[hk]at m3;have a:Ag (fY T w.heap.size w1.heap.size 6) (fY T w.heap.size w1.heap.size 6) w2.heap.size:=fun _ _=>rfl
 have c:=y2.kn;have f:∀(k:Nat),k≠7->∀i,fY T w.heap.size w1.heap.size 6 i=k->¬ (i=s.kb):=fun k hk i h e=>by subst e;exact hk (h.symm.trans c.t)
 refine k _ s1 w3 ⟨y2.dk.aJ x3 a (f 1 (by decide)),y2.rg.aJ x3 a (f 2 (by decide)),y2.rn.aJ x3 a (f 3 (by decide)),y2.lg.aJ x3 a (f 4 (by decide)),y2.pb.aJ x3 a (f 5 (by decide)),y2.fr.aJ x3 a (f 6 (by decide)),?_,y2.mp.aJ x3 a (f 8 (by decide)) (f 9 (by decide)) (f 10 (by decide)) (f 11 (by decide)),fun i hi=>y2.out i (Nat.le_trans x3.size hi)⟩ ((LW.trans HV).trans (.of (fun i hi=>by rw[hi,c.t];decide) x3 a))
 exact⟨m3,c.t,fun q hq'=>by
  have hq:=hs q hq'
  exact⟨(c.p q hq).1.ext x3 fun p b hp hb e=>f 12 (by decide) b ((c.p q hq).2.1 b (by simp[Sl.aw,hp,hb])).1 e,fun i hi=>⟨((c.p q hq).2.1 i hi).1,Nat.lt_of_lt_of_le ((c.p q hq).2.1 i hi).2 x3.size⟩,(c.p q hq).2.2⟩⟩
theorem JH{p:Option Addr}{n:Int}{K:Pw}(y:Sy w T s)(hn:0<=n/\n < 4294967295)(hr:bw s.F=true)(hh:Rn.hasB n s.F=false)(hk:∀k∈s.ps,k.n≠n)(hl:(f_ s.F [(n,n+1)]).length<=1000)(hu:zV (f_ s.F [(n,n+1)]))
  (k:∀T' fr' w',Sy w' T' { s with fr:=fr',F:=f_ s.F [(n,n+1)] }->bu T w T' w'->K w') (hp:p=s.p:=by rfl):cf p n w K:=
 CH y hn hr hh (TX fun p hp=>by obtain⟨q,hq,rfl⟩:=List.mem_map.1 hp;exact hk q hq) (fun _ h=>h) hl hu k hp
end
end Go.Proofs.YtiigcapldngijaaGreat
namespace Go.Proofs.YtiigcapldngijaaGreat
open Go.V Go.V.Dk Go.V.Rn
section
variable {w w':Wd} {T T':Nat->Nat} {s:SA}
theorem Sy.adf{k:KP}(y:Sy w T s)(r:cY w'.heap lz s.kb ((s.ps++[k]).map KP.e))(x:Ext (·=s.kb) w w')(hk:aQ w.heap k.s k.b/\(∀i,k.s.aw=some i->T i=12/\i < w.heap.size)/\B8 k.b/\k.b.length=224/\k.l.OK/\(1<=k.l.kd/\k.l.kd<=4)):Sy w' T { s with ps:=s.ps++[k] }/\bu T w T w':=by
 have a:Ag T T w.heap.size:=fun _ _=>rfl
 have c:=y.kn;have f:∀(k:Nat),k≠7->∀i,T i=k->¬ (i=s.kb):=fun k hk i h e=>by subst e;exact hk (h.symm.trans c.t)
 refine⟨⟨y.dk.aJ x a (f 1 (by decide)),y.rg.aJ x a (f 2 (by decide)),y.rn.aJ x a (f 3 (by decide)),y.lg.aJ x a (f 4 (by decide)),y.pb.aJ x a (f 5 (by decide)),y.fr.aJ x a (f 6 (by decide)),⟨r,c.t,fun q hq=>?_⟩,y.mp.aJ x a (f 8 (by decide)) (f 9 (by decide)) (f 10 (by decide)) (f 11 (by decide)),fun i hi=>y.out i (Nat.le_trans x.size hi)⟩,.of (fun i hi=>by rw[hi,c.t];decide) x a⟩
 have h:aQ w.heap q.s q.b/\(∀i,q.s.aw=some i->T i=12/\i < w.heap.size)/\B8 q.b/\q.b.length=224/\q.l.OK/\(1<=q.l.kd/\q.l.kd<=4):=by
  rcases List.mem_append.1 hq with h | h
  .exact c.p q h
  .simp only[List.mem_singleton]at h;subst h;exact hk
 exact⟨h.1.ext x fun p b hp hb e=>f 12 (by decide) b (h.2.1 b (by simp[Sl.aw,hp,hb])).1 e,fun i hi=>⟨(h.2.1 i hi).1,Nat.lt_of_lt_of_le (h.2.1 i hi).2 x.size⟩,h.2.2⟩
theorem Sy.afI{m:Nat}{n:Int}(y:Sy w T s)(hm:s.pm=some m)(r:cY w'.heap lz m (CG (s.pu++[n])))(x:Ext (·=m) w w'):Sy w' T { s with pu:=s.pu++[n] }/\bu T w T w':=by
 have a:Ag T T w.heap.size:=fun _ _=>rfl
 have c:=y.mp;have tm:=(c.r3 m hm).2;have f:∀(k:Nat),k≠10->∀i,T i=k->¬ (i=m):=fun k hk i h e=>by subst e;exact hk (h.symm.trans tm)
 exact⟨⟨y.dk.aJ x a (f 1 (by decide)),y.rg.aJ x a (f 2 (by decide)),y.rn.aJ x a (f 3 (by decide)),y.lg.aJ x a (f 4 (by decide)),y.pb.aJ x a (f 5 (by decide)),y.fr.aJ x a (f 6 (by decide)),y.kn.aJ x a (f 7 (by decide)) (f 12 (by decide)),⟨c.r.ext x (f 8 (by decide) _ c.t),c.t,c.r2.ext x (f 9 (by decide) _ c.t2),c.t2,fun q hq=>by rw[hm]at hq;have:=Option.some.inj hq;subst this;exact⟨r,tm⟩,fun q hq=>⟨(c.r4 q hq).1.ext x (f 11 (by decide) _ (c.r4 q hq).2),(c.r4 q hq).2⟩⟩,fun i hi=>y.out i (Nat.le_trans x.size hi)⟩,.of (fun i hi=>by rw[hi,tm];decide) x a⟩
theorem Sy.loc{S:Nat->Prop}(y:Sy w T s)(x:Ext S w w')(h:∀i,S i->T i=0∨13<=T i):Sy w' T s:=by
 have a:Ag T T w.heap.size:=fun _ _=>rfl
 have f:∀(k:Nat),1<=k->k < 13->∀i,T i=k->¬ S i:=fun k h1 h2 i e hi=>by have:=h i hi;omega
 exact⟨y.dk.aJ x a (f 1 (by decide) (by decide)),y.rg.aJ x a (f 2 (by decide) (by decide)),y.rn.aJ x a (f 3 (by decide) (by decide)),y.lg.aJ x a (f 4 (by decide) (by decide)),y.pb.aJ x a (f 5 (by decide) (by decide)),y.fr.aJ x a (f 6 (by decide) (by decide)),y.kn.aJ x a (f 7 (by decide) (by decide)) (f 12 (by decide) (by decide)),y.mp.aJ x a (f 8 (by decide) (by decide)) (f 9 (by decide) (by decide)) (f 10 (by decide) (by decide)) (f 11 (by decide) (by decide)),fun i hi=>y.out i (Nat.le_trans x.size hi)⟩
theorem bu.out{w1:Wd}{b:Nat}(h:bu T w T' w1)(x:Ext (·=b) w1 w')(hb:w.heap.size<=b):bu T w T' w':=⟨h.a,h.x.trans x fun i hi e=>by subst e;omega⟩
theorem Ow{p:Option Addr}{n:Int}{K:Int->Pw}(y:Sy w T s)(h0:s.cm=0)(hn:s.la < n)
  (k:∀T' m m' w',Sy w' T' { s with cm:=n,la:=n,fl:=false,pm:=some m,dm:=some m',pu:=[],dl:=[] }->bu T w T' w'->K 0 w') (hp:p=s.p:=by rfl):iN p n w K:=by
 subst hp;apply wS;refine G8 y (If.bne (fun h=>absurd rfl h) fun _=>⟨fun u=>w=u,Nn.mk ⟨_,Cell.af y.pb.r rfl,If.bne (fun h=>absurd h0 h) fun _=>Nn.mk ⟨_,Cell.af y.pb.r rfl,If.dec (fun h=>by omega) fun _=>rfl⟩⟩,?_⟩);rintro _ _ rfl;refine Nn.mk (aH.mk y.pb.r (Nat.le_of_ble_eq_true rfl) rfl fun w1 h1=>?_);obtain⟨y1,s1⟩:=y.Rb (cm':=n) (F':=s.F) (pu':=s.pu) (dl':=s.dl) (h1.get y.pb.r) h1.ext y.fr y.mp;refine Nn.mk (aH.mk y1.pb.r (Nat.le_of_ble_eq_true rfl) rfl fun w2 h2=>?_);obtain⟨y2,s2⟩:=y1.Rb (la':=n) (F':=s.F) (pu':=s.pu) (dl':=s.dl) (h2.get y1.pb.r) h2.ext y1.fr y1.mp;refine Nn.mk (aH.mk y2.pb.r (Nat.le_of_ble_eq_true rfl) rfl fun w3 h3=>?_);obtain⟨y3,s3⟩:=y2.Rb (fl':=false) (F':=s.F) (pu':=s.pu) (dl':=s.dl) (h3.get y2.pb.r) h3.ext y2.fr y2.mp;refine fun b w4 n4 b1 w5 n5=>?_
 have y4:=y3.tag n4.ext 10
 have s4:bu T w3 (fY T w3.heap.size w4.heap.size 10) w4:=⟨aY _ _ _ _,n4.ext.az⟩
 have y5:=y4.tag n5.ext 11
 have s5:bu (fY T w3.heap.size w4.heap.size 10) w4 (fY (fY T w3.heap.size w4.heap.size 10) w4.heap.size w5.heap.size 11) w5:=⟨aY _ _ _ _,n5.ext.az⟩
 have z4:=n4.size;have z5:=n5.size;have a4:=n4.at_;have a5:=n5.at_
 have m5:cY w5.heap lz b (CG []):=⟨#[],0,(n5.ext.aw b (aN n4.get) fun h=>h).trans n4.get,rfl,cW.nil⟩
 have m5':cY w5.heap lz b1 (CG []):=⟨#[],0,n5.get,rfl,cW.nil⟩
 have t5:fY (fY T w3.heap.size w4.heap.size 10) w4.heap.size w5.heap.size 11 b=10:=(aY _ _ _ _ b (by omega)).trans (bT _ (by omega) (by omega));have t5':fY (fY T w3.heap.size w4.heap.size 10) w4.heap.size w5.heap.size 11 b1=11:=bT _ (by omega) (by omega);refine Nn.mk (aH.mk y5.pb.r (Nat.le_of_ble_eq_true rfl) rfl fun w6 h6=>?_);obtain⟨y6,s6⟩:=y5.Rb (pm':=some b) (F':=s.F) (pu':=[]) (dl':=s.dl) (h6.get y5.pb.r) h6.ext y5.fr ⟨y5.mp.r,y5.mp.t,y5.mp.r2,y5.mp.t2,fun q hq=>by have:=Option.some.inj hq;subst this;exact⟨m5,t5⟩,y5.mp.r4⟩;refine Nn.mk (aH.mk y6.pb.r (Nat.le_of_ble_eq_true rfl) rfl fun w7 h7=>?_);have x6:Ext (·=s.pb) w5 w6:=h6.ext;have nb1:b1≠s.pb:=fun e=>by have:=y5.pb.t;simp only at this;rw[<- e,t5']at this;cases this
 obtain⟨y7,s7⟩:=y6.Rb (dm':=some b1) (F':=s.F) (pu':=[]) (dl':=[]) (h7.get y6.pb.r) h7.ext y6.fr ⟨y6.mp.r,y6.mp.t,y6.mp.r2,y6.mp.t2,y6.mp.r3,fun q hq=>by have:=Option.some.inj hq;subst this;exact⟨m5'.ext x6 nb1,t5'⟩⟩;exact k _ b b1 w7 y7 ((((((s1.trans s2).trans s3).trans s4).trans s5).trans s6).trans s7)
theorem TY{p:Option Addr}{t kd lv g:Int}{payload:Sl}{pl:List Int}{r:fA}{M:List fA}{m:Nat}{K:Int->Int->Int->Int->Pw}(y:Sy w T s)(hc:s.cm≠0)(Py:s.fl=false)(HR:1<=kd/\kd<=3)(hp:aQ w.heap payload pl)(hpt:∀i,payload.aw=some i->T i=0)(zG:pl.length=224)(hB:B8 pl)
  (hg:vN s.ks t=[g]) (hF:s.F=r::M) (hr:bw s.F=true) (hm:s.pm=some m) (qo:∀k∈s.ps,k.n≠r.1) (St:∀n∈s.pu,n≠r.1) (Cn:iV.OK ⟨t,kd,lv,r.1,s.cm,g⟩) (hu:zV (cZ s.F)) (hlen:(cZ s.F).length<=1000)
  (k:∀T' fr' sl w',Sy w' T' { s with fr:=fr',F:=cZ s.F,ps:=s.ps++[⟨r.1,⟨t,kd,lv,r.1,s.cm,g⟩,sl,pl⟩],pu:=s.pu++[r.1] }->bu T w T' w'->K r.1 s.cm g 0 w') (hp:p=s.p:=by rfl):kW p t kd lv payload w K:=by
 subst hp;apply AA;refine fun b w1 n1=>?_
 have y1:=y.no n1.ext;have z1:=n1.size;have a1:=n1.at_;have tb:T b=0:=y.out b (by omega);have gb:w1.heap[b]? = some (.cells [Value.int .u32 0,.int .u64 0,.int .u16 0].toArray 44 (0,0)):=n1.get;have ahW:payload.len=224:=by rw[aQ.len hp];exact zG
 refine G8 y1 (If.bne (fun h=>absurd rfl h) fun _=>⟨fun u=>w1=u,Mb y1 ?_,?_⟩)
 .rw[decide_eq_true hc,Py];exact If.no (If.dec (fun h=>by omega) fun _=>If.dec (fun h=>by omega) fun _=>If.bne (fun h=>by omega) fun _=>rfl)
 rintro _ _ rfl;refine Nn.mk ⟨_,Cell.af y1.pb.r rfl,L8 y1.rn.r (by have:=y1.rn.n;omega) hg fun w2 x2=>If.bne (fun h=>absurd rfl h) fun _=>?_⟩;have y2:=y1.no x2;refine Nn.mk ⟨s.fr,Cell.af y2.pb.r rfl,QT y2.fr.r y2.fr.u (by have:=y2.fr.n;omega) (fun h=>by rw[hr]at h;cases h) (fun h=>by rw[hF]at h;cases h) fun r' M' hF' _ s3 w3 o3 x3=>If.bne (fun h=>absurd rfl h) fun _=>?_⟩;obtain⟨rfl,rfl⟩ : r'=r/\M'=M:=by rw[hF]at hF';cases hF';exact⟨rfl,rfl⟩
 have y3:=y2.tag x3 6
 have s3':bu T w2 (fY T w2.heap.size w3.heap.size 6) w3:=⟨aY _ _ _ _,x3.az⟩
 refine Nn.mk (aH.mk y3.pb.r (Nat.le_of_ble_eq_true rfl) rfl fun w4 h4=>?_);obtain⟨y4,s4⟩:=y3.Rb (fr':=s3) (F':=cZ s.F) (pu':=s.pu) (dl':=s.dl) (h4.get y3.pb.r) h4.ext ⟨o3.rd,fun i hi=>⟨bT _ (o3.lt hi).1 (o3.lt hi).2,(o3.lt hi).2⟩,hu,hlen⟩ y3.mp;refine Nn.mk ⟨s.cm,Cell.af y4.pb.r rfl,fx rfl rfl (a_ rfl) fun w5 g5 z5 x5=>?_⟩;have y5:=y4.no x5;have Xa:bu T w1 (fY T w2.heap.size w3.heap.size 6) w5:=(((bu.no x2).trans s3').trans s4).nx x5;have tb5:fY T w2.heap.size w3.heap.size 6 w4.heap.size=0:=y4.out _ (Nat.le_refl _);have tk:=y5.kn.t;have nb:w4.heap.size≠s.kb:=fun e=>by rw[e]at tb5;rw[tb5]at tk;cases tk
 have TZ:s.pb≠s.kb:=fun e=>by have:=y5.pb.t;simp only at this;rw[e]at this;rw[this]at tk;cases tk
 refine⟨Ext (·=s.kb) w5,(Ext.refl _ _).drew,Nn.mk ⟨some s.kb,aj.aF (Cell.af y5.pb.r rfl) TZ,_,aj.aF (Cell.af g5 rfl) nb,_,aj.aF (Cell.af g5 rfl) nb,_,aj.aF (Cell.af g5 rfl) nb,fun b6 w6 n6=>⟨n6.ext.an.az,?_⟩⟩⟩;have x6:Ext No w5 w6:=n6.ext.an
 have hp6:aQ w6.heap payload pl:=by
  refine Rd.no (w:=w5) (hp.ext (bu.x ((bu.no n1.ext).trans Xa)) fun p c Fy Is hh=>?_) x6;have:=hpt c (by simp[Sl.aw,Fy,Is]);omega
 refine po (l:=[]) ⟨rfl,Nat.le_refl _,fun h=>absurd rfl h,fun _ h=>nomatch h⟩ (by show 0 < 0+payload.len;omega) hp6 (by show 0+payload.len<=_;omega) fun s7 w7 o7 x7=>⟨(x6.no x7).az,?_⟩
 rw[List.nil_append]at o7;have Kq:=x6.no x7;have y7:=y5.tag Kq 12
 have s7':bu (fY T w2.heap.size w3.heap.size 6) w5 (fY (fY T w2.heap.size w3.heap.size 6) w5.heap.size w7.heap.size 12) w7:=⟨aY _ _ _ _,Kq.az⟩
 obtain⟨w8,h8,m8,x8,z8⟩:=aG (P:=pz) (a:=r'.1) (v:=(⟨r'.1,⟨t,kd,lv,r'.1,s.cm,g⟩,s7,pl⟩ : KP).v) ku B_ y7.kn.r;simp only at m8;rw[rI (fun p hp=>by obtain⟨q,hq,rfl⟩:=List.mem_map.1 hp;exact qo q hq)]at m8;obtain⟨y8,s8⟩:=y7.adf (k:=⟨r'.1,⟨t,kd,lv,r'.1,s.cm,g⟩,s7,pl⟩) (by rw[List.map_append];exact m8) x8 ⟨o7.rd,fun i hi=>⟨bT _ (by have:=(o7.lt hi).1;have:=x6.size;omega) (o7.lt hi).2,(o7.lt hi).2⟩,hB,zG,Cn,⟨HR.1,by show kd<=4;omega⟩⟩;refine⟨w8,h8,Kq.az.trans x8 fun i _ h=>h,Nn.mk ⟨s.pm,Cell.af y8.pb.r rfl,?_⟩⟩;have mm:=(y8.mp.r3 m hm).1;obtain⟨w9,h9,m9,x9,z9⟩:=aG (P:=pz) (a:=r'.1) (v:= .bool true) ku tp mm;simp only at m9;rw[rI (fun p hp=>by obtain⟨q,hq,rfl⟩:=List.mem_map.1 hp;exact St q hq)]at m9;obtain⟨y9,s9⟩:=y8.afI (n:=r'.1) hm (by simp only[CG,List.map_append];exact m9) x9;rw[hm];have Xb:=(s7'.trans s8).trans s9;have g5':w9.heap[w4.heap.size]? = _:=Xb.aw g5 (.inl tb5);have gb9:w9.heap[b]? = _:=(Xa.trans Xb).aw gb (.inl tb);refine⟨w9,h9,_,Cell.af g5' rfl,_,Cell.af g5' rfl,_,Cell.af g5' rfl,rfl,bO.mk gb9 (Nat.le_refl 3) (a_ rfl) fun eK D2=>?_⟩;have tU:=D2.get gb9;refine⟨_,Cell.af tU rfl,_,Cell.af tU rfl,_,Cell.af tU rfl,?_⟩;have st:=(bu.no n1.ext).trans (Xa.trans Xb);have tb9:fY (fY T w2.heap.size w3.heap.size 6) w5.heap.size w7.heap.size 12 b=0:=((Xa.trans Xb).a b (by omega)).trans tb;exact k _ s3 s7 eK (y9.loc D2.ext fun i hi=>by subst hi;exact .inl tb9) (st.out D2.ext (by omega))
end
end Go.Proofs.YtiigcapldngijaaGreat
namespace Go.Proofs.YtiigcapldngijaaGreat
open Go.V Go.V.Dk Go.V.Rn
abbrev iV.c(l:iV):List Value:=[.int .u32 l.t,.int .u8 l.kd,.int .u8 l.lv,.int .u32 l.pg,.int .u64 l.cm,.int .u16 l.gn]
section
variable {w w':Wd} {T T':Nat->Nat} {s:SA}
def T0(Ek Nc:Nat)(K:Sl->Int->Pw)(iB:Wd):Prop:=
 ∃T_:Int,Cell iB (Addr.mk Nc 0 none) (.int .u32 T_)/\
 ∃Ua:Int,Cell iB ((Addr.mk Nc 0 none).add 1) (.int .u8 Ua)/\
 ∃Ub:Int,Cell iB ((Addr.mk Nc 0 none).add 2) (.int .u8 Ub)/\
 ∃Uc:Int,Cell iB ((Addr.mk Nc 0 none).add 3) (.int .u32 Uc)/\
 ∃Ud:Int,Cell iB ((Addr.mk Nc 0 none).add 4) (.int .u64 Ud)/\
 ∃adg:Int,Cell iB ((Addr.mk Nc 0 none).add 5) (.int .u16 adg)/\
 ∃adh:Int,Cell iB (Addr.mk Ek 0 none) (.int .u32 adh)/\
 ∃adi:Int,Cell iB ((Addr.mk Ek 0 none).add 1) (.int .u8 adi)/\
 ∃adj:Int,Cell iB ((Addr.mk Ek 0 none).add 2) (.int .u8 adj)/\
 ∃adk:Int,Cell iB ((Addr.mk Ek 0 none).add 3) (.int .u32 adk)/\
 ∃adl:Int,Cell iB ((Addr.mk Ek 0 none).add 4) (.int .u64 adl)/\
 ∃adm:Int,Cell iB ((Addr.mk Ek 0 none).add 5) (.int .u16 adm)/\
 If (!((T_ == adh) && ((Ua == adi) && ((Ub == adj) && (((Uc == adk) && ((Ud == adl) && ((adg == adm) && (true)))) && (true)))))) (
 False) (
 au iB (.cells [].toArray 5) fun b_3 pJ=>
 ∃AP:Sl,Cell pJ ((Addr.mk Nc 0 none).add 6) (.slice AP.a AP.len AP.cap)/\
 bj pz 22 22 ⟨some (Addr.mk b_3 0 none),0,0⟩ (.slice AP.a AP.len AP.cap) (fun s G1=>
 K s 0 G1) pJ)
theorem JI{k:KP}{b1 b2:Nat}{K:Sl->Int->Pw}(h1:w.heap[b1]? = some (.cells k.l.c.toArray 89 (0,0)))(h2:w.heap[b2]? = some (.cells (k.l.c++[k.s.v]).toArray 182 (0,0)))(hs:aQ w.heap k.s k.b)(hl:k.b.length=224)(kk:∀sl w',aL w'.heap w.heap.size sl k.b->Ext No w w'->K sl 0 w'):T0 b1 b2 K w:=by
 have hz:k.s.len=224:=by rw[aQ.len hs];exact hl
 refine⟨_,Cell.af h2 rfl,_,Cell.af h2 rfl,_,Cell.af h2 rfl,_,Cell.af h2 rfl,_,Cell.af h2 rfl,_,Cell.af h2 rfl,_,Cell.af h1 rfl,_,Cell.af h1 rfl,_,Cell.af h1 rfl,_,Cell.af h1 rfl,_,Cell.af h1 rfl,_,Cell.af h1 rfl,If.not (If.cases (fun _=>?_) fun h=>by simp at h)⟩
 refine fun b3 eK ke=>⟨k.s,Cell.af (show eK.heap[b2]? = _ from(ke.ext.aw _ (aN h2) fun h=>h).trans h2) rfl,po (l:=[]) ⟨rfl,Nat.le_refl _,fun h=>absurd rfl h,fun _ h=>nomatch h⟩ (by show 0 < 0+k.s.len;omega) (hs.no ke.ext) (by show 0+k.s.len<=_;omega) fun Sn eM Su nH=>?_⟩
 rw[List.nil_append]at Su;exact kk Sn eM (Su.mono ke.ext.size) (ke.ext.no nH)
def G9(s:SA)(k:KP)(Q:SA->Prop):Prop:=∀(w:Wd)(T:Nat->Nat)(K:Sl->Int->Pw),Sy w T s->(∀sl s' T' w',aL w'.heap w.heap.size sl k.b->(∀i,sl.aw=some i->T' i=0)->Sy w' T' s'->Q s'->bu T w T' w'->K sl 0 w')->fh s.p k.l.t k.l.kd k.l.lv k.l.pg k.l.cm k.l.gn w K
theorem JJ(w:Wd):(zeroValue 182).run pz w = .ok (.agg #[.int .u32 0,.int .u8 0,.int .u8 0,.int .u32 0,.int .u64 0,.int .u16 0,.slice none 0 0]) w:=by kernel_rfl
theorem Mc{p:Option Addr}{k:KP}{K:Sl->Int->Pw}(y:Sy w T s)(hk:l_ k.n (s.ps.map KP.e)=some k.v)(hm:k∈s.ps)(h2:2<=k.n/\k.n < s.N)(hl:k.l.pg=k.n)(HR:1<=k.l.kd/\k.l.kd<=3)
  (kk:∀sl w',aL w'.heap w.heap.size sl k.b->Ext No w w'->K sl 0 w') (hp:p=s.p:=by rfl):fh p k.l.t k.l.kd k.l.lv k.l.pg k.l.cm k.l.gn w K:=by
 subst hp;apply qg;refine fun b w1 n1=>?_
 have y1:=y.no n1.ext;have gb:w1.heap[b]? = some (.cells [Value.int .u32 k.l.pg,.int .u64 k.l.cm,.int .u16 k.l.gn].toArray 44 (0,0)):=n1.get;have z1:=n1.size;have hN:=y.dk.c.nN;refine G8 y1 (If.bne (fun h=>absurd rfl h) fun _=>⟨fun u=>w1=u,If.dec (fun h=>by omega) fun _=>If.dec (fun h=>by omega) fun _=>⟨_,Cell.af gb rfl,TV y1 (by omega) ?_⟩,?_⟩)
 .rw[decide_eq_true (by omega:2<=k.l.pg/\k.l.pg < s.N)];exact If.no rfl
 rintro _ _ rfl;refine⟨_,Cell.af gb rfl,_,Cell.af gb rfl,_,Cell.af gb rfl,fx rfl rfl (a_ rfl) fun w6 g6 z6 x6=>?_⟩;have y6:=y1.no x6;have Gh:w6.heap[b]? = _:=(x6.aw b (aN gb) fun h=>h).trans gb;have zk:=n1.ext.no x6;obtain⟨YM,uC,hp3,Sv,hp5⟩:=y6.kn.p k hm
 have look:∀w,cY w.heap lz s.kb (s.ps.map KP.e)->Sem.run pz (Instr.lookup 176 (.map (some s.kb)) (.int .u32 k.l.pg) true) w = .ok (.tuple #[.agg #[.int .u32 k.l.t,.int .u8 k.l.kd,.int .u8 k.l.lv,.int .u32 k.l.pg,.int .u64 k.l.cm,.int .u16 k.l.gn,k.s.v],.bool true]) w:=fun w hw=>by
  have:=mX (P:=pz) (a:=k.n) ku B_ (JJ w) hw;rw[hk]at this;rw[<- hl]at this;exact this
 refine⟨Ext No w6,(Ext.refl _ _).drew,Nn.mk ⟨some s.kb,aj.aF (Cell.af y6.pb.r rfl) (fun h=>h),k.l.pg,aj.aF (Cell.af Gh rfl) (fun h=>h),?_,?_⟩⟩
 .refine⟨_,_,_,_,_,_,k.s,true,ae w6,look _ y6.kn.r,(Ext.refl _ _).drew,fun b2 w8 n8=>⟨n8.ext.an,rfl,bO.mk n8.get (Nat.le_of_ble_eq_true rfl) (a_ rfl) fun w9 h9=>?_⟩⟩;have a8:=n8.at_;have x8:Ext No w6 w8:=n8.ext.an;have x9:Ext No w6 w9:=x8.out h9.ext (by show w6.heap.size<=b2;rw[a8];exact Nat.le_refl _);have g9:=h9.get n8.get;have g6':w9.heap[w1.heap.size]? = _:=(x9.aw _ (aN g6) fun h=>h).trans g6;refine⟨x9,fun u=>w9=u,If.not (If.yes rfl),?_⟩;rintro _ _ rfl;exact JI (k:=k) g6' g9 (YM.no x9) Sv fun sl eM Su nH=>kk sl eM (Su.mono (zk.no x9).size) ((zk.no x9).no nH)
 .refine fun b2 w8 n8=>⟨n8.ext.an,_,_,_,_,_,_,k.s,true,w8,look _ (y6.kn.r.ext (n8.ext.an) fun h=>h),n8.ext.an,rfl,bO.mk n8.get (Nat.le_of_ble_eq_true rfl) (a_ rfl) fun w9 h9=>?_⟩
  have a8:=n8.at_;have x8:Ext No w6 w8:=n8.ext.an;have x9:Ext No w6 w9:=x8.out h9.ext (by show w6.heap.size<=b2;rw[a8];exact Nat.le_refl _);have g9:=h9.get n8.get;have g6':w9.heap[w1.heap.size]? = _:=(x9.aw _ (aN g6) fun h=>h).trans g6;refine⟨x9,fun u=>w9=u,If.not (If.yes rfl),?_⟩;rintro _ _ rfl;exact JI (k:=k) g6' g9 (YM.no x9) Sv fun sl eM Su nH=>kk sl eM (Su.mono (zk.no x9).size) ((zk.no x9).no nH)
theorem Ox{k:KP}(hk:l_ k.n (s.ps.map KP.e)=some k.v)(hm:k∈s.ps)(h2:2<=k.n/\k.n < s.N)(hl:k.l.pg=k.n)(HR:1<=k.l.kd/\k.l.kd<=3):G9 s k (·=s):=fun w T K y kk=>Mc y hk hm h2 hl HR fun sl w' o x=>kk sl s T w' o (fun i hi=>y.out i (o.lt hi).1) (y.no x) rfl (.no x)
theorem Ue{p:Option Addr}{g:Sl}{K:Int->Pw}(hg:g.len=0)(k:K 0 w)(hp:p=s.p:=by rfl):dF p g w K:=by
 subst hp;apply nC;refine⟨fun _ t u=>0=t/\w=u,⟨0,rfl,rfl⟩,?_⟩;rintro _ _ _ _ ⟨rfl,rfl⟩;exact If.dec (fun h=>by omega) fun _=>If.beq (fun _=>k) fun h=>by omega
theorem Oy{p:Option Addr}{K:Int->Pw}(y:Sy w T s)(ho:s.cm=0∨s.fl=true)(hw:s.wl=[])(k:∀w',Sy w' T { s with cm:=0 }->bu T w T w'->K 0 w')(hp:p=s.p:=by rfl):dG p w K:=by
 subst hp;apply nE;refine G8 y (If.bne (fun h=>absurd rfl h) fun _=>Mb y ?_);have e:(decide (s.cm≠0) && !s.fl)=false:=by rcases ho with h | h <;> simp[h]
 rw[e];refine If.no (Nn.mk ⟨some s.wb,Cell.af y.pb.r rfl,vP (l:=[]) (by have:=y.mp.r;rw[hw]at this;exact this) (.inl (Nat.zero_le _)) fun s1 w1 o1 x1=>?_⟩);have hl:s1.len=0:=by have:=o1.len;simpa using this.symm
 refine⟨fun _ g t u=>⟨none,0,0⟩=g/\0=t/\w1=u,⟨0,rfl,rfl,rfl⟩,?_⟩;rintro _ _ _ _ _ ⟨rfl,rfl,rfl⟩;have y1:=y.no x1;refine If.dec (fun h=>by omega) fun _=>Ue (s:=s) rfl (FO y1 fun w2 y2 s2=>If.bne (fun h=>absurd rfl h) fun _=>⟨fun _ t u=>0=t/\w2=u,⟨0,rfl,rfl⟩,?_⟩)
 rintro _ _ _ _ ⟨rfl,rfl⟩;refine If.dec (fun h=>by simp at h) fun _=>Nn.mk (aH.mk y2.pb.r (Nat.le_of_ble_eq_true rfl) rfl fun w3 h3=>?_)
 obtain⟨y3,s3⟩:=y2.Rb (cm':=0) (F':=s.F) (pu':=s.pu) (dl':=s.dl) (h3.get y2.pb.r) h3.ext y2.fr y2.mp;exact k w3 y3 (((bu.no x1).trans s2).trans s3)
end
end Go.Proofs.YtiigcapldngijaaGreat
namespace Go.V.Dk
abbrev Up(D:DS):DS:={ D with steps:=D.steps+1 }
abbrev Wd(D:DS)(i:Int)(bs:List Int):DS:=mc (Up D) i bs
abbrev Sd(D:DS):DS:=EM (Up D)
end Go.V.Dk
namespace Go.Proofs.YtiigcapldngijaaGreat
open Go.V Go.V.Dk Go.V.Rn
theorem Calm.has{N:Nat}{D:DS}(c:Calm N D){i:Int}(hi:0<=i/\i < N):Dk.hasB D i=true:=decide_eq_true (by rw[c.n];omega)
theorem Calm.write{N:Nat}{D:DS}(c:Calm N D){i:Int}{bs:List Int}(hi:0<=i/\i < N)(hb:bs.length=256):ny D i bs=(0,Wd D i bs):=by
 unfold ny;rw[if_pos ⟨c.has hi,hb⟩,c.step,if_pos rfl]
theorem Calm.sync{N:Nat}{D:DS}(c:Calm N D):CF D=(0,Sd D):=by unfold CF;rw[c.step,if_pos rfl]
theorem Calm.up{N:Nat}{D:DS}(c:Calm N D)(h:D.steps < 1000):Calm N (Up D):=⟨c.n,c.nN,c.fail,c.cut,c.down,by have:=c.st;show 0<=D.steps+1/\D.steps+1<=1000;omega,c.w⟩
theorem Calm.wd{N:Nat}{D:DS}(c:Calm N D)(h:D.steps < 1000)(hw:D.waits.length < 1000)(i:Int)(bs:List Int):Calm N (Wd D i bs):=by
 have u:=c.up h;exact⟨by simp[mc,c.n],u.nN,u.fail,u.cut,u.down,u.st,by simp[mc];omega⟩
theorem Calm.sd{N:Nat}{D:DS}(c:Calm N D)(h:D.steps < 1000):Calm N (Sd D):=by
 have u:=c.up h;exact⟨u.n,u.nN,u.fail,u.cut,u.down,u.st,Nat.zero_le _⟩
section
variable {w w':Wd} {T T':Nat->Nat} {s:SA}
theorem FP{p:Option Addr}{i:Int}{b:Sl}{bs:List Int}{K:Int->Pw}(y:Sy w T s)(hi:0<=i/\i < s.N)(hb:aQ w.heap b bs)(h8:B8 bs)(hl:bs.length=256)(hfp:∀i,b.aw=some i->T i≠1)(hs:s.D.steps < 1000)(hw:s.D.waits.length < 1000)
  (k:∀T' d' w',Sy w' T' { s with d:=d',D:=Wd s.D i bs }->bu T w T' w'->Ext s.d.fp w w'->K 0 w') (hp:p=s.d.p:=by rfl):dA p i b w K:=by
 subst hp;have c:=y.dk.c;have st:=c.st;refine FM y.dk.r hb h8 (fun i hi h=>hfp i hi (y.dk.t i h)) (by omega) (by omega) fun d' w' r g x=>?_
 rw[c.write hi hl]at r ⊢;obtain⟨y',s'⟩:=y.aaS r g x (c.wd hs hw i bs);exact k _ d' w' y' s' x
theorem JK{p:Option Addr}{K:Int->Pw}(y:Sy w T s)(hs:s.D.steps < 1000)
  (k:∀T' d' w',Sy w' T' { s with d:=d',D:=Sd s.D }->bu T w T' w'->K 0 w') (hp:p=s.d.p:=by rfl):cE p w K:=by
 subst hp;have c:=y.dk.c;have st:=c.st;refine xE y.dk.r (by omega) fun d' w' r g x=>?_
 rw[c.sync]at r ⊢;obtain⟨y',s'⟩:=y.aaS r g x (c.sd hs);exact k _ d' w' y' s'
abbrev SA.lB(s:SA):Option Addr:=some ⟨s.lb,0,none⟩
abbrev SA.rB(s:SA):Option Addr:=some ⟨s.rb,0,none⟩
abbrev PQ:=KP×RK
def Nd(D:DS)(l:List PQ):DS:=l.foldl (fun D p=>Wd D p.1.n (bE p.2.l p.1.l p.1.b)) D
def flL(l:List PQ):List LE:=l.map fun p=>⟨p.1.l,p.2.l,p.1.b,bE p.2.l p.1.l p.1.b⟩
theorem Ug(D:DS)(l:List PQ)(p:PQ):Nd D (l++[p])=Wd (Nd D l) p.1.n (bE p.2.l p.1.l p.1.b):=by unfold Nd;rw[List.foldl_append];rfl
theorem Ca(D:DS):∀l:List PQ,(Nd D l).steps=D.steps+l.length/\(Nd D l).waits.length=D.waits.length+l.length:=fun l=>by
 unfold Nd
 induction l generalizing D with
 | nil=>simp
 | cons p l ih=>
  rw[List.foldl_cons];have:=ih (Wd D p.1.n (bE p.2.l p.1.l p.1.b));have e1:(Wd D p.1.n (bE p.2.l p.1.l p.1.b)).steps=D.steps+1:=rfl;have e2:(Wd D p.1.n (bE p.2.l p.1.l p.1.b)).waits.length=D.waits.length+1:=by simp[mc]
  rw[e1,e2]at this;rw[List.length_cons];push_cast;omega
set_option maxHeartbeats 1000000 in
theorem Oz{p:Option Addr}{K:Int->Pw}{m:Nat}{l:List PQ}(y:Sy w T s)(hc:s.cm≠0)(Py:s.fl=false)(hm:s.pm=some m)(St:s.pu=l.map fun p=>p.1.n)(Oe:s.pu.length<=1∨∃a b,s.pu=[a,b]/\a < b)(hk:∀q∈l,l_ q.1.n (s.ps.map KP.e)=some q.1.v/\q.1∈s.ps/\2<=q.1.n/\q.1.n < s.N/\ki s.ks ⟨q.1.l.t,q.1.l.gn⟩=some q.2)
  (hL:s.L.length < 90) (wg:s.D.steps < 900) (hw:s.D.waits.length < 900)
  (kk:∀T' d' pB w',Sy w' T' { s with d:=d',D:=Sd (Nd s.D l),ls:=pB,L:=s.L++flL l,fl:=true }->bu T w T' w'->K 0 w') (hp:p=s.p:=by rfl):iO p w K:=by
 subst hp;apply wU;have hN:=y.dk.c.nN
 have hll:l.length<=2:=by
  have:s.pu.length=l.length:=by rw[St,List.length_map]
  rcases Oe with h | ⟨a,b,h,_⟩
  .omega
  .rw[h]at this;simp at this;omega
 refine G8 y (If.bne (fun h=>absurd rfl h) fun _=>Mb y ?_);rw[decide_eq_true hc,Py];refine If.no (Nn.mk ⟨some m,Cell.af y.pb.r (by simp[SA.pC,hm]),vP (l:=s.pu) (y.mp.r3 m hm).1 Oe fun s3 w3 o3 x3=>?_⟩);have y3:=y.no x3;have hl3:s3.len=l.length:=by have:=o3.len;rw[St]at this;simpa using this.symm
 have dq:∀i,s3.aw=some i->w.heap.size<=i:=fun i hi=>(o3.lt hi).1
 refine⟨fun n t u=>∃(j:Nat) (T':Nat->Nat) (d':tQ) (pB:Sl),t=(j:Int)/\j<=l.length/\n=l.length - j/\Sy u T' { s with d:=d',D:=Nd s.D (l.take j),ls:=pB,L:=s.L++flL (l.take j) }/\bu T w3 T' u/\aP u.heap w.heap.size 36 1 s3 (s.pu.map (Value.int .u32)),⟨l.length,0,T,s.d,s.ls,rfl,Nat.zero_le _,rfl,by rw[List.take_zero];show Sy w3 T { s with L:=s.L++[] };rw[List.append_nil];exact y3,.refl,o3⟩,?_⟩;rintro _ m0 t w4 ⟨j,T4,d4,ls4,rfl,hj,rfl,y4,s4,o4⟩;refine If.dec (fun h=>?_) fun h=>?_
 rotate_left
 .have ej:j=l.length:=by omega
  subst ej;rw[List.take_length]at y4;have hfs:=Ca s.D l;refine Nn.mk (aH.mk y4.pb.r (Nat.le_of_ble_eq_true rfl) rfl fun lR Md=>?_);obtain⟨y14,s14⟩:=y4.Rb (fl':=true) (F':=s.F) (pu':=s.pu) (dl':=s.dl) (Md.get y4.pb.r) Md.ext y4.fr y4.mp;refine Nn.mk ⟨d4.p,Cell.af y14.pb.r rfl,JK y14 (by show(Nd s.D l).steps < 1000;omega) fun T15 d15 mU y15 Y3=>FO y15 fun iB y16 s16=>?_⟩;exact kk T15 d15 ls4 iB y16 (((((bu.no x3).trans s4).trans s14).trans Y3).trans s16)
 have xG:j < l.length:=by omega
 obtain⟨q,hq⟩ : ∃q,q=l[j]:=⟨_,rfl⟩
 have hqm:q∈l:=by rw[hq];exact List.getElem_mem xG
 obtain⟨hk1,hkm,hk2,hk3,hkr⟩:=hk q hqm;have adn:l.take (j+1)=l.take j++[q]:=by rw[List.take_succ_eq_append_getElem xG,hq]
 have hfs:=Ca s.D (l.take j);have afJ:(l.take j).length<=2:=by rw[List.length_take];omega
 have eLL:(flL (l.take j)).length<=2:=by unfold flL;rw[List.length_map];exact afJ
 have e0:s.pu.getD ((j:Nat):Int).toNat 0=q.1.n:=by rw[St,Int.toNat_natCast,List.getD_eq_getElem?_getD,List.getElem?_map,List.getElem?_eq_getElem xG,hq];rfl
 refine Ix.int o4.rd (by omega) (by omega) fun bb oo _ cM=>⟨_,cM,Nn.mk ⟨some s.kb,Cell.af y4.pb.r rfl,?_⟩⟩
 rw[e0];have eH:=fq (P:=pz) (a:=q.1.n) ku B_ (JJ w4) y4.kn.r;simp only at eH;rw[hk1]at eH;refine⟨_,_,_,_,_,_,q.1.s,w4,eH,fx rfl rfl (a_ rfl) fun w6 g6 z6 x6=>?_⟩;have y6:=y4.no x6;have tb:T4 w4.heap.size=0:=y4.out _ (Nat.le_refl _);have y6d:=y6.no (Ext.refl No w6).drew;refine⟨Ext No w6,(Ext.refl _ _).drew,Nn.mk ⟨s.rB,aj.aF (Cell.af y6.pb.r rfl) (fun h=>h),q.1.l.t,aj.aF (Cell.af g6 rfl) (fun h=>h),q.1.l.gn,aj.aF (Cell.af g6 rfl) (fun h=>h),gM y6d.rn.r hkr fun s8 w8 o8 x8=>⟨x8.an,If.bne (fun h=>absurd rfl h) fun _=>?_⟩⟩⟩;have wz:Ext No w6 w8:=x8.an;have y8:=y6.no wz;have g8:w8.heap[w4.heap.size]? = _:=(wz.aw _ (aN g6) fun h=>h).trans g6
 have nb:¬ (w4.heap.size=s.lb∨ls4.aw=some w4.heap.size):=fun e=>by
  rcases e with e | e
  .have:=y8.lg.t;simp only at this;rw[<- e]at this;omega
  .have:=y8.lg.t2 _ e;omega
 have TZ:¬ (s.pb=s.lb∨ls4.aw=some s.pb):=fun e=>by
  have:=y8.pb.t;simp only at this;rcases e with e | e
  .have h2:=y8.lg.t;simp only at h2;rw[<- e]at h2;omega
  .have:=y8.lg.t2 _ e;omega
 have y8d:=y8.no (Ext.refl No w8).drew;obtain⟨YM,uC,hp3,Sv,hp5,hp6⟩:=y8d.kn.p q.1 hkm;have xe:=y8d.rn.r.key q.2 (List.mem_of_find?_eq_some hkr);have z68:=wz.size;have z36:=x6.size;have z4:=s4.x.size;have z3:=x3.size;refine⟨Ext (fun i=>i=s.lb∨ls4.aw=some i) w8,(Ext.refl _ _).drew,Nn.mk ⟨s.lB,aj.aF (Cell.af y8.pb.r rfl) TZ,q.1.l.t,aj.aF (Cell.af g8 rfl) nb,q.1.l.kd,aj.aF (Cell.af g8 rfl) nb,q.1.l.lv,aj.aF (Cell.af g8 rfl) nb,q.1.l.pg,aj.aF (Cell.af g8 rfl) nb,q.1.l.cm,aj.aF (Cell.af g8 rfl) nb,q.1.l.gn,aj.aF (Cell.af g8 rfl) nb,q.1.s,aj.aF (Cell.af g8 rfl) nb,?_⟩⟩
 refine AN (l:=q.1.l) y8d.lg.r (by show(s.L++flL (l.take j)).length<=1000;rw[List.length_append];omega) hp5 hp6 (Rd.no (w:=w8) o8.rd (Ext.refl No w8).drew) xe.2.1 (by rw[aL.len o8,<- aQ.len xe.1];exact xe.2.2) YM hp3 (by rw[aQ.len YM];exact Sv) (fun i hi e=>?_) (fun i hi e=>?_) fun WZ pB eK Jv L10 afK ahX dQ=>⟨dQ.an,If.bne (fun h=>absurd rfl h) fun _=>?_⟩
 .have h1:=(y8.lg.r.own.lt e).2;have h2:=(o8.lt hi).1;have:=y8.lg.t2 _ e;rw[y6.out i h2]at this;cases this
 .have h1:=y8.lg.t2 _ e;have h2:=(uC _ hi).1;omega
 obtain⟨On,afL⟩:=y8.log (e:=⟨q.1.l,q.2.l,q.1.b,bE q.2.l q.1.l q.1.b⟩) L10 afK dQ.an (by show(s.L++flL (l.take j)).length < 100;rw[List.length_append];omega);have hB':=vM (l:=q.1.l) xe.2.1 hp3
 have afM:aP eK.heap w.heap.size 36 1 s3 (s.pu.map (Value.int .u32)):=((o4.no x6).no wz).ext dQ.an fun i hi e=>by
  have h3:=dq i hi;have ti:T4 i=0:=by rw[s4.a i (o3.lt hi).2];exact y.out i h3
  rcases e with e | e
  .have:=y8.lg.t;simp only at this;rw[<- e]at this;omega
  .have:=y8.lg.t2 _ e;omega
 refine Nn.mk ⟨d4.p,Cell.af On.pb.r rfl,Ar.i64 (by omega) (FP On (by show 0<=q.1.n/\q.1.n < (s.N:Int);omega) Jv.rd hB' (rF xe.2.1 Sv) (fun i hi=>?_) (by show(Nd s.D (l.take j)).steps < 1000;omega) (by show(Nd s.D (l.take j)).waits.length < 1000;omega) fun FQ d12 gO y12 FR lJ=>If.bne (fun h=>absurd rfl h) fun _=>Ar.i64 (by omega) ⟨l.length - (j+1),by omega,j+1,FQ,d12,pB,by omega,by omega,rfl,?_,((s4.nx x6).nx wz).trans (afL.trans FR),?_⟩)⟩
 .rw[bT T4 (n:=w8.heap.size) (Jv.lt hi).1 (Jv.lt hi).2];decide
 .rw[adn,Ug];have e:s.L++flL (l.take j++[q])=(s.L++flL (l.take j))++[⟨q.1.l,q.2.l,q.1.b,bE q.2.l q.1.l q.1.b⟩]:=by unfold flL;rw[List.map_append,List.append_assoc];rfl
  rw[e];exact y12
 .refine afM.ext lJ fun i hi e=>?_
  have h3:=dq i hi;have ti:T4 i=0:=by rw[s4.a i (o3.lt hi).2];exact y.out i h3
  have t10:fY T4 w8.heap.size eK.heap.size 4 i=T4 i:=aY _ _ _ _ i (by have:=(o3.lt hi).2;omega);have:=On.dk.t i e;omega
end
end Go.Proofs.YtiigcapldngijaaGreat
namespace Go.Proofs.YtiigcapldngijaaGreat
open Go.V Go.V.Dk Go.V.Rn
section
variable {w w':Wd} {T T':Nat->Nat} {s:SA}
set_option maxHeartbeats 1000000 in
theorem OA{p:Option Addr}{K:Int->Pw}{m:MP}{q:RK}(y:Sy w T s)(ok:m.OK)(hc:s.cm≠0)(Y4:m.cm=s.cm)(Py:s.fl=true)
  (hq:ki s.ks ⟨0,m.rg⟩=some q) (hL:s.L.length < 100) (wg:s.D.steps < 900) (hw:s.D.waits.length < 900)
  (kk:∀T' d' pB w',Sy w' T' { s with d:=d',D:=Sd (Wd s.D (m.cm % 2) (bE q.l m.oq m.bytes)),ls:=pB,L:=s.L++[⟨m.oq,q.l,m.bytes,bE q.l m.oq m.bytes⟩] }->bu T w T' w'->K 0 w') (hp:p=s.p:=by rfl):jF p m.cm m.pg m.rc m.gn m.lv m.rg m.tn w K:=by
 subst hp;apply yR;refine fun b w1 n1=>?_
 have y1:=y.no n1.ext;have gb:w1.heap[b]? = some (.cells m.c.toArray 48 (0,0)):=n1.get;have a1:=n1.at_;have z1:=n1.size;have tb:T b=0:=y.out b (by omega);refine G8 y1 (If.bne (fun h=>absurd rfl h) fun _=>⟨fun u=>ae w1=u,⟨Ext No w1,(Ext.refl _ _).drew,Nn.mk ⟨s.cm,aj.aF (Cell.af y1.pb.r rfl) (fun h=>h),If.beq (fun h=>absurd h hc) fun _=>Nn.mk ⟨true,aj.aF (Cell.af y1.pb.r (by simp[SA.pC,Py])) (fun h=>h),If.not (If.yes ⟨m.cm,aj.aF (Cell.af gb rfl) (fun h=>h),Nn.mk ⟨s.cm,aj.aF (Cell.af y1.pb.r rfl) (fun h=>h),If.bne (fun h=>absurd Y4 h) fun _=>rfl⟩⟩)⟩⟩⟩,?_⟩);rintro _ _ rfl;have xd:Ext No w1 (ae w1):=(Ext.refl _ _).drew;have y2:=y1.no xd
 have nb:¬ (b=s.lb∨s.ls.aw=some b):=fun e=>by
  rcases e with e | e
  .have:=y1.lg.t;rw[<- e]at this;omega
  .have:=y1.lg.t2 _ e;omega
 have TZ:¬ (s.pb=s.lb∨s.ls.aw=some s.pb):=fun e=>by
  have:=y1.pb.t;rcases e with e | e
  .have:=y1.lg.t;rw[<- e]at this;omega
  .have:=y1.lg.t2 _ e;omega
 have g2:(ae w1).heap[b]? = some (.cells m.c.toArray 48 (0,0)):=gb;have y3:=y2.no (Ext.refl No (ae w1)).drew;refine⟨Ext (fun i=>i=s.lb∨s.ls.aw=some i) (ae w1),(Ext.refl _ _).drew,Nn.mk ⟨s.rB,aj.aF (Cell.af y2.pb.r rfl) TZ,Nn.mk ⟨s.lB,aj.aF (Cell.af y2.pb.r rfl) TZ,m.cm,aj.aF (Cell.af g2 rfl) nb,m.pg,aj.aF (Cell.af g2 rfl) nb,m.rc,aj.aF (Cell.af g2 rfl) nb,m.gn,aj.aF (Cell.af g2 rfl) nb,m.lv,aj.aF (Cell.af g2 rfl) nb,m.rg,aj.aF (Cell.af g2 rfl) nb,m.tn,aj.aF (Cell.af g2 rfl) nb,?_⟩⟩⟩
 refine G7 ok y3.rn.r hq y3.lg.r (by omega) fun s4 pB w4 o4 L4 hl4 YL x4=>⟨x4.an,If.bne (fun h=>absurd rfl h) fun _=>?_⟩
 obtain⟨y4,s4'⟩:=y2.log (e:=⟨m.oq,q.l,m.bytes,bE q.l m.oq m.bytes⟩) L4 hl4 x4.an hL;have iT:Ext (fun i=>i=s.lb∨s.ls.aw=some i) w1 w4:=xd.az.trans x4.an fun i _ h=>h
 have g4:w4.heap[b]? = some (.cells m.c.toArray 48 (0,0)):=(iT.aw b (aN gb) nb).trans gb;have Y5:fY T (ae w1).heap.size w4.heap.size 4 b=0:=(s4'.a b (aN g2)).trans tb;have PU:¬ s.d.fp b:=fun e=>by have:=y4.dk.t b e;omega
 have afN:¬ s.d.fp s.pb:=fun e=>by have:=y4.dk.t _ e;have:=y4.pb.t;simp only at this;omega
 have xe:=y3.rn.r.key q (List.mem_of_find?_eq_some hq);have hB':=vM (l:=m.oq) xe.2.1 m.rH;have hN:=y.dk.c.nN;refine⟨Ext s.d.fp w4,(Ext.refl _ _).drew,Nn.mk ⟨s.d.p,aj.aF (Cell.af y4.pb.r rfl) afN,m.cm,aj.aF (Cell.af g4 rfl) PU,m.pg,aj.aF (Cell.af g4 rfl) PU,m.rc,aj.aF (Cell.af g4 rfl) PU,m.gn,aj.aF (Cell.af g4 rfl) PU,m.lv,aj.aF (Cell.af g4 rfl) PU,m.rg,aj.aF (Cell.af g4 rfl) PU,m.tn,aj.aF (Cell.af g4 rfl) PU,?_⟩⟩
 refine tj ok fun w5 x5=>⟨x5.an.az,?_⟩
 have OB:Ext No w4 w5:=x5.an;have y5:=y4.no OB;have ahY:=ok.cm;refine Ar.i64 (by show -9223372036854775808<=m.cm % 2/\m.cm % 2<=9223372036854775807;omega) (FP y5 (by show 0<=m.cm % 2/\m.cm % 2 < (s.N:Int);omega) (o4.rd.no OB) hB' (rF xe.2.1 m.kr) (fun i hi=>?_) (by show s.D.steps < 1000;omega) (by show s.D.waits.length < 1000;omega) fun T6 d6 w6 y6 s6 x6=>⟨OB.az.trans x6 fun i _ h=>h,If.bne (fun h=>absurd rfl h) fun _=>?_⟩)
 .rw[bT T (n:=(ae w1).heap.size) (o4.lt hi).1 (o4.lt hi).2];decide
 refine Nn.mk ⟨d6.p,Cell.af y6.pb.r rfl,JK y6 (by show s.D.steps+1 < 1000;omega) fun T7 d7 w7 y7 s7=>FO y7 fun w8 y8 s8=>?_⟩;exact kk T7 d7 pB w8 y8 ((((((bu.no n1.ext).nx xd).trans s4').nx OB).trans s6).trans (s7.trans s8))
end
end Go.Proofs.YtiigcapldngijaaGreat
namespace Go.Proofs.YtiigcapldngijaaGreat
open Go.V Go.V.Dk Go.V.Rn
abbrev fF(j:Nat):List fA:=if j=0 then[] else[(2,2+(j:Int))]
theorem Xc(j:Nat):f_ (fF j) [((2+(j:Int)),(2+(j:Int))+1)]=fF (j+1):=by
 unfold fF f_;rw[if_neg (Nat.succ_ne_zero j)];by_cases h:j=0
 .subst h;rw[if_pos rfl,eU,eU];simp[r_]
 .rw[if_neg h,eU,if_pos (by show(2:Int)<=2+j;omega),eU,eU];simp only[r_,List.length_nil,Nat.lt_irrefl,false_and,if_false,List.nil_append,List.length_singleton,rZ,xz,gr];rw[if_pos (by simp)];simp[CX];omega
theorem afO(j:Nat)(h:j<=4096):zV (fF j):=by
 unfold fF;split
 .exact fun r hr=>nomatch hr
 .intro r hr;simp only[List.mem_singleton]at hr;subst hr;simp only;omega
theorem Uh(j:Nat):bw (fF j)=true:=by
 unfold fF;split
 .rfl
 .simp[bw,kF];omega
theorem aaT(j:Nat):Rn.hasB (2+(j:Int)) (fF j)=false:=by
 unfold fF;split
 .rfl
 .simp[Rn.hasB]
theorem aaU(j:Nat):(fF j).length<=1:=by unfold fF;split <;> simp
section
variable {w w':Wd} {T T':Nat->Nat} {s:SA}
theorem Ui(w:Wd):(zeroValue 4).run pz w = .ok (.bool false) w:=by kernel_rfl
theorem Sy.wb{wb':Nat}(y:Sy w T s)(r:w'.heap[s.pb]? = some (.cells ({ s with wb:=wb' }:SA).pC.toArray 180 (0,0)))(x:Ext (·=s.pb) w w')(hm:cY w.heap lz wb' ([]:List (Int×Value)))(ht:T wb'=8):Sy w' T { s with wb:=wb',wl:=[] }/\bu T w T w':=by
 have a:Ag T T w.heap.size:=fun _ _=>rfl
 have t5:=y.pb.t;have f:∀(k:Nat),k≠5->∀i,T i=k->¬ (i=s.pb):=fun k hk i h e=>by subst e;exact hk (h.symm.trans t5)
 have c:=y.mp.aJ x a (f 8 (by decide)) (f 9 (by decide)) (f 10 (by decide)) (f 11 (by decide))
 exact⟨⟨y.dk.aJ x a (f 1 (by decide)),y.rg.aJ x a (f 2 (by decide)),y.rn.aJ x a (f 3 (by decide)),y.lg.aJ x a (f 4 (by decide)),⟨r,t5⟩,y.fr.aJ x a (f 6 (by decide)),y.kn.aJ x a (f 7 (by decide)) (f 12 (by decide)),⟨hm.ext x (f 8 (by decide) _ ht),ht,c.r2,c.t2,c.r3,c.r4⟩,fun i hi=>y.out i (Nat.le_trans x.size hi)⟩,
  .of (fun i hi=>by rw[hi,t5];decide) x a⟩
theorem AQ(n:Int):∀l:List Int,(l_ n (CG l)).getD (.bool false) = .bool (l.contains n)
 | []=>rfl
 | a::l=>by
  show(l_ n ((a,Value.bool true)::CG l)).getD _=_;rw[l_,List.contains_cons];by_cases h:n=a
  .rw[if_pos h];subst h;simp
  .rw[if_neg h,AQ n l];simp[h]
theorem Me(n:Int):∀l:List Int,∃l',zU n (.bool true) (CG l)=CG l'/\∀x,l'.contains x=(x == n || l.contains x)
 | []=>⟨[n],rfl,fun x=>List.contains_cons⟩
 | a::l=>by
  obtain⟨l',h1,h2⟩:=Me n l;show ∃l',zU n _ ((a,Value.bool true)::CG l)=_/\_
  rw[zU];by_cases h:n=a
  .subst h;exact⟨n::l,by rw[if_pos rfl];rfl,fun x=>by rw[List.contains_cons];cases(x == n) <;> rfl⟩
  .exact⟨a::l',by rw[if_neg h,h1];rfl,fun x=>by rw[List.contains_cons,h2,List.contains_cons];cases(x == n) <;> cases(x == a) <;> rfl⟩
abbrev Uj(l:iV):List Value:=[.int .u32 l.pg,.int .u64 l.cm,.int .u16 l.gn]
def qi(kp:List Int)(j:Nat):List Int:=((List.range j).map fun i:Nat=>2+(i:Int)).filter fun n=>!kp.contains n
theorem OC(kp:List Int)(j:Nat):qi kp (j+1)=qi kp j++(if kp.contains (2+(j:Int)) then[] else[2+(j:Int)]):=by
 unfold qi;rw[List.range_succ,List.map_append,List.filter_append];congr 1;simp only[List.map_cons,List.map_nil,List.filter_cons,List.filter_nil]
 cases kp.contains (2+(j:Int)) <;> rfl
theorem Rc(kp:List Int)(j:Nat):(qi kp j).length<=j:=by
 unfold qi;exact Nat.le_trans (List.length_filter_le _ _) (by simp)
theorem Re{kp:List Int}{j:Nat}{n:Int}(h:n∈qi kp j):2<=n/\n < 2+j/\kp.contains n=false:=by
 unfold qi at h;obtain⟨h1,h2⟩:=List.mem_filter.1 h;obtain⟨i,hi,rfl⟩:=List.mem_map.1 h1;have:=List.mem_range.1 hi;refine⟨by omega,by omega,?_⟩
 revert h2;cases kp.contains (2+(i:Int)) <;> simp
set_option maxHeartbeats 1000000 in
theorem FT{p:Option Addr}{dS:Sl}{ll:List iV}{kp:List Int}{G:List Int}{f:Nat->List fA}{K:Int->Pw}(y:Sy w T s)(hc:s.cm=0)(hkp:kp=ll.map (·.pg))(hr:Rd w.heap dS 3 (ll.flatMap Uj))(hl3:ll.length<=1000)(h2:∀n∈kp,2<=n/\n < s.N)
  (hz:∀n:Int,2<=n->n < s.N->kp.contains n=false->s.D.now.getD n.toNat []=bB) (Rg:∀q∈s.ps,kp.contains q.n=true) (hG:qi kp (s.N - 2)=G) (f0:f 0=[])
  (hf:∀j (h:j < G.length),bw (f j)=true/\Rn.hasB G[j] (f j)=false/\f_ (f j) [(G[j],G[j]+1)]=f (j+1)/\zV (f (j+1))/\(f (j+1)).length<=1000)
  (k:∀T' fr' wb' w',Sy w' T' { s with fr:=fr',F:=f G.length,wb:=wb',wl:=[] }->bu T w T' w'->K 0 w') (hp:p=s.p:=by rfl):fG p dS w K:=by
 subst hp;have hN:=y.dk.c.nN;apply wM;refine G8 y (If.bne (fun h=>absurd rfl h) fun _=>Nn.mk ⟨_,Cell.af y.pb.r rfl,If.bne (fun h=>absurd hc h) fun _=>fun b w2 n2=>?_⟩);have y2:=y.no n2.ext;have a2:=n2.at_;have z2:=n2.size;have Jo:=hr.no n2.ext;have YP:dS.len=ll.length:=by have:=hr.len;rw[cQ (n:=3) fun _ _=>rfl]at this;omega
 have m2:cY w2.heap lz b (CG []):=⟨#[],0,n2.get,rfl,cW.nil⟩
 refine⟨fun m t u=>∃(j:Nat) (ml:List Int),t=(j:Int)/\j<=ll.length/\m=ll.length - j/\cY u.heap lz b (CG ml)/\(∀x,ml.contains x=(kp.take j).contains x)/\Ext (·=b) w2 u,⟨_,0,[],rfl,Nat.zero_le _,rfl,m2,fun x=>by rw[List.take_zero],Ext.refl _ _⟩,?_⟩;rintro _ m0 t w3 ⟨j,ml,rfl,hj,rfl,m3,Gi,x3⟩;have iC:Ext No w w3:=n2.ext.out x3 (by omega);have y3:=y.no iC;have z3:=x3.size;refine If.dec (fun aN=>?_) fun zQ=>?_
 .have xG:j < ll.length:=by omega
  refine Ix.elem (f:=Uj) (n:=3) (hr.no iC) (fun _ _=>rfl) (by decide) (by omega) (by omega) fun bb o hi _ cM=>?_
  have e1:ll[((j:Int)).toNat]=ll[j]:=by congr 1
  rw[e1]at cM
  obtain⟨l,hl⟩ : ∃l,l=ll[j]:=⟨_,rfl⟩
  rw[<- hl]at cM;have hn:=h2 l.pg (by rw[hkp,hl];exact List.mem_map.2 ⟨_,List.getElem_mem xG,rfl⟩);refine⟨l.pg,cM 0 _ rfl,l.cm,by rw[ay rfl];exact cM 1 _ rfl,l.gn,by rw[ay rfl];exact cM 2 _ rfl,fx rfl rfl (a_ rfl) fun w4 g4 z4 x4=>⟨l.pg,Cell.af g4 rfl,TV (y3.no x4) (by omega) ?_⟩⟩;rw[decide_eq_true hn];obtain⟨w5,eH,m5,x5,z5⟩:=aG (P:=pz) (a:=l.pg) (v:= .bool true) ku tp (m3.ext x4 fun h=>h);refine If.no ⟨l.pg,Cell.af g4 rfl,w5,eH,Ar.i64 (by omega) ⟨ll.length - (j+1),by omega,?_⟩⟩;obtain⟨ml',e5,afP⟩:=Me l.pg ml;rw[e5]at m5;refine⟨j+1,ml',by omega,by omega,rfl,m5,fun x=>?_,(x3.trans x4.az fun i _ h=>h).trans x5 fun i _ h=>h⟩;have et:kp.take (j+1)=kp.take j++[l.pg]:=by rw[List.take_succ_eq_append_getElem (by rw[hkp,List.length_map];exact xG)];congr 2;simp[hkp,hl]
  rw[afP,Gi,et,List.contains_eq_any_beq,List.contains_eq_any_beq,List.any_append];simp[Bool.or_comm,BEq.comm (a:=x)]
 have ej:j=ll.length:=by omega
 subst ej;have Sk:∀x,ml.contains x=kp.contains x:=fun x=>by rw[Gi x,List.take_of_length_le (by rw[hkp,List.length_map];exact Nat.le_refl _)]
 refine⟨fun m g d n u=>∃j:Nat,n=2+(j:Int)/\j<=s.N - 2/\m=s.N - 2 - j/\d=⟨none,0,0⟩/\Ext No w3 u/\aP u.heap w3.heap.size 36 1 g ((qi kp j).map (Value.int .u32)),⟨_,0,rfl,Nat.zero_le _,rfl,rfl,Ext.refl _ _,aP.nil _ _ _ _⟩,?_⟩;rintro _ m0 g d n w6 ⟨j,rfl,hj,rfl,rfl,x6,o6⟩;have y6:=y3.no x6;have hgl:g.len=(qi kp j).length:=by have:=o6.len;simpa using this.symm
 have wE:=Rc kp j;refine TV y6 (by omega) (If.dec (fun h=>?_) fun h=>?_)
 .have eH:=fq (P:=pz) (a:=2+(j:Int)) ku tp (Ui w6) (m3.ext x6 fun h=>h);rw[AQ,Sk]at eH;refine⟨_,w6,eH,?_⟩;have eg:=OC kp j
  cases hck:kp.contains (2+(j:Int)) with
  | true=>
   rw[hck,if_pos rfl,List.append_nil]at eg;refine If.yes (Ar.u32 (by omega) ⟨s.N - 2 - (j+1),by omega,j+1,by push_cast;omega,by omega,rfl,rfl,x6,by rw[eg];exact o6⟩)
  | false=>
   rw[hck,if_neg (by decide)]at eg;refine If.no (zo o6 x6.size rfl (Q5 rfl) (by omega) fun s7 w7 o7 l7 x7 _=>?_);have El:Ext No w3 w7:=x6.trans x7 fun i hi e=>by have:=(o6.lt e).1;omega
   have y7:=y3.no El;refine Nn.mk ⟨_,Cell.af y7.pb.r rfl,Ar.i64 (by omega) (jm y7.dk.r (fun hh=>by rw[y7.dk.c.has (by omega)]at hh;cases hh) (fun _ hh=>by rw[y7.dk.c.down]at hh;cases hh) fun _ _ s8 w8 o8 x8=>If.bne (fun h=>absurd rfl h) fun _=>?_)⟩;have ez:s.D.now.getD (2+(j:Int)).toNat []=bB:=hz _ (by omega) (by omega) hck;rw[ez]at o8;refine CA (l:=bB) o8.rd (B8.vE 256) (by simp[bB]) (If.not (If.cases (fun _=>?_) fun h=>?_))
   .refine Ar.u32 (by omega) ⟨s.N - 2 - (j+1),by omega,j+1,by push_cast;omega,by omega,rfl,rfl,El.no x8,?_⟩;rw[eg,List.map_append];exact o7.no x8
   .exact absurd (fun x hx=>by unfold bB at hx;exact(List.mem_replicate.1 hx).2) (of_decide_eq_false h)
 .have ej:j=s.N - 2:=by omega
  subst ej;rw[hG]at o6 hgl wE;refine Ue (s:=s) rfl (FO y6 fun w7 y7 s7=>If.bne (fun h=>absurd rfl h) fun _=>Nn.mk (aH.mk y7.pb.r (Nat.le_of_ble_eq_true rfl) rfl fun w8 h8=>?_));obtain⟨y8,s8⟩:=y7.Rb (fr':=⟨none,0,0⟩) (F':=f 0) (pu':=s.pu) (dl':=s.dl) (h8.get y7.pb.r) h8.ext (by rw[f0];exact⟨⟨rfl,Nat.le_refl _,fun h=>absurd rfl h,fun _ h=>nomatch h⟩,fun i h=>(nomatch h),fun r h=>(nomatch h),Nat.zero_le _⟩) y7.mp
  have hg8:∀T' u,bu T w6 T' u->Rd u.heap g 1 (G.map (Value.int .u32)):=fun T' u st=>o6.rd.ext st.x fun a i ha hi hh=>by
   have h1:=(o6.lt (show g.aw=some i by simp[Sl.aw,ha,hi])).1;have:=y3.out i h1;omega
  refine⟨fun m t u=>∃j:Nat,t=(j:Int)/\j<=G.length/\m=G.length - j/\∃T' fr',Sy u T' { s with fr:=fr',F:=f j }/\bu T w6 T' u,⟨_,0,rfl,Nat.zero_le _,rfl,T,_,y8,s7.trans s8⟩,?_⟩;rintro _ m1 t w9 ⟨j,rfl,hj,rfl,T9,fr9,y9,s9⟩;refine If.dec (fun aN=>?_) fun zQ=>?_
  .refine Ix.int (hg8 _ _ s9) (by omega) (by omega) fun bb oo _ cM=>⟨_,cM,?_⟩
   have xG:j < G.length:=by omega
   obtain⟨n,hn⟩ : ∃n,n=G[j]:=⟨_,rfl⟩
   have eg:G.getD ((j:Int)).toNat 0=n:=by simp[List.getD,xG,hn]
   have hnG:n∈qi kp (s.N - 2):=by rw[hG,hn];exact List.getElem_mem xG
   obtain⟨n2,nN,nk⟩:=Re hnG;obtain⟨f1,f2,f3,f4,f5⟩:=hf j xG;rw[<- hn]at f2 f3;rw[eg];refine JH y9 (by omega) f1 f2 (fun q hq e=>by have:=Rg q hq;rw[e,nk]at this;cases this) (by rw[f3];exact f5) (by rw[f3];exact f4) fun D5 afQ eK On WZ=>Ar.i64 (by omega) ⟨G.length - (j+1),by omega,j+1,by push_cast;omega,by omega,rfl,D5,afQ,?_,s9.trans WZ⟩
   simp only at On;rw[f3]at On;exact On
  .have ej:j=G.length:=by omega
   subst ej;refine fun b4 eK ke=>?_
   have a10:=ke.at_;have Sq:=ke.size;have On:=y9.tag ke.ext 8
   have m10:cY eK.heap lz b4 ([]:List (Int×Value)):=⟨#[],0,ke.get,rfl,cW.nil⟩
   refine Nn.mk (aH.mk On.pb.r (Nat.le_of_ble_eq_true rfl) rfl fun eM Gj=>?_);obtain⟨W0,Sn⟩:=On.wb (wb':=b4) (Gj.get On.pb.r) Gj.ext m10 (bT _ (by omega) (by omega))
   have WZ:bu T9 w9 (fY T9 w9.heap.size eK.heap.size 8) eK:=⟨aY _ _ _ _,ke.ext.az⟩
   exact k _ fr9 b4 eM W0 (((bu.no (iC.no x6)).trans s9).trans (WZ.trans Sn))
theorem aaV(j:Nat):qi [] j=(List.range j).map fun i:Nat=>2+(i:Int):=by
 unfold qi;exact List.filter_eq_self.2 fun _ _=>rfl
theorem OD{p:Option Addr}{a:Option Addr}{K:Int->Pw}(y:Sy w T s)(hc:s.cm=0)(Rg:s.ps=[])(hz:∀i:Nat,i < s.N->s.D.now.getD i []=bB)
  (k:∀T' fr' wb' w',Sy w' T' { s with fr:=fr',F:=fF (s.N - 2),wb:=wb',wl:=[] }->bu T w T' w'->K 0 w') (hp:p=s.p:=by rfl):fG p ⟨a,0,0⟩ w K:=by
 have hN:=y.dk.c.nN;have hl:((List.range (s.N - 2)).map fun i:Nat=>2+(i:Int)).length=s.N - 2:=by simp
 refine FT (ll:=[]) (kp:=[]) (f:=fF) y hc rfl ⟨rfl,Nat.le_refl _,fun h=>absurd rfl h,fun _ h=>nomatch h⟩ (Nat.zero_le _) (fun _ h=>nomatch h) (fun n h2 h3 _=>hz _ (by omega)) (fun q hq=>by rw[Rg]at hq;cases hq) (aaV _) rfl (fun j hj=>?_) (fun T' fr' wb' w' y' s'=>?_) hp
 .have e:((List.range (s.N - 2)).map fun i:Nat=>2+(i:Int))[j]=2+(j:Int):=by simp
  rw[hl]at hj;rw[e];exact⟨Uh j,aaT j,Xc j,afO _ (by omega),Nat.le_trans (aaU _) (by decide)⟩
 .rw[hl]at y';exact k T' fr' wb' w' y' s'
theorem xH{d:tQ}{D:DS}{g:DY}{R:RS}{rb mb lb:Nat}{ks:List RK}{ls:Sl}{L:List LE}{K:Option Addr->Int->Pw}{N:Nat}(dk:Y0 w T N d D)(rg:Y1 w T d g R)(rn:Y2 w T rb mb ks)(lg:LgC w T lb ls L)
  (k:∀T' s w',Sy w' T' s->s.d=d->s.D=D->s.g=g->s.R=R->s.rb=rb->s.mb=mb->s.ks=ks->s.lb=lb->s.ls=ls->s.L=L->s.F=[]->s.ps=[]->s.pm=none->s.pu=[]->s.wl=[]->s.N=N->s.cm=0->s.la=0->s.fl=false->bu T w T' w'->K s.p 0 w') :
  uR d.p (some ⟨rb,0,none⟩) (some ⟨lb,0,none⟩) ⟨none,0,0⟩ w K:=by
 apply Lx;refine⟨fun u=>w=u,If.no (If.no (If.no rfl)),?_⟩;rintro _ _ rfl;refine fun b w2 n2 b1 w3 n3 b2 w4 n4 b3 w5 n5=>?_
 have a2:=n2.at_;have a3:=n3.at_;have a4:=n4.at_;have a5:=n5.at_;have z2:=n2.size;have z3:=n3.size;have z4:=n4.size;have z5:=n5.size;have x:Ext No w w5:=((n2.ext.no n3.ext).no n4.ext).no n5.ext
 obtain⟨T5,hT⟩ : ∃T5,T5=fY (fY (fY (fY T w.heap.size w2.heap.size 7) w2.heap.size w3.heap.size 8) w3.heap.size w4.heap.size 9) w4.heap.size w5.heap.size 5:=⟨_,rfl⟩
 have a:Ag T T5 w.heap.size:=fun i hi=>by
  rw[hT,aY _ _ _ _ i (by omega),aY _ _ _ _ i (by omega),aY _ _ _ _ i (by omega),aY _ _ _ _ i hi]
 have t2:T5 b=7:=by rw[hT,aY _ _ _ _ b (by omega),aY _ _ _ _ b (by omega),aY _ _ _ _ b (by omega)];exact bT _ (by omega) (by omega)
 have t3:T5 b1=8:=by rw[hT,aY _ _ _ _ b1 (by omega),aY _ _ _ _ b1 (by omega)];exact bT _ (by omega) (by omega)
 have t4:T5 b2=9:=by rw[hT,aY _ _ _ _ b2 (by omega)];exact bT _ (by omega) (by omega)
 have t5:T5 b3=5:=by rw[hT];exact bT _ (by omega) (by omega)
 have f:∀(k i:Nat),T i=k->¬ No i:=fun _ _ _ h=>h
 have nil:∀(u:Wd)(c:Nat),u.heap[c]? = some (.map #[] 0)->cY u.heap lz c ([]:List (Int×Value)):=fun u c h=>⟨#[],0,h,rfl,cW.nil⟩
 have gb:∀(c:Nat)(u:Wd),u.heap[c]? = some (.map #[] 0)->Ext No u w5->w5.heap[c]? = some (.map #[] 0):=fun c u h x=>(x.aw c (aN h) fun h=>h).trans h
 have y5:Sy w5 T5 ⟨d,D,g,R,rb,mb,ks,lb,ls,L,b3,⟨none,0,0⟩,[],b,[],b1,b2,none,none,[],[],[],0,0,false,N⟩ :=
  ⟨dk.aJ x a (f 1),rg.aJ x a (f 2),rn.aJ x a (f 3),lg.aJ x a (f 4),⟨n5.get,t5⟩,⟨⟨rfl,Nat.le_refl _,fun h=>absurd rfl h,fun _ h=>nomatch h⟩,fun i h=>(nomatch h),fun r h=>(nomatch h),Nat.zero_le _⟩,
   ⟨nil _ _ (gb b w2 n2.get ((n3.ext.no n4.ext).no n5.ext)),t2,fun k h=>(nomatch h)⟩,⟨nil _ _ (gb b1 w3 n3.get (n4.ext.no n5.ext)),t3,nil _ _ (gb b2 w4 n4.get n5.ext),t4,fun m h=>(nomatch h),fun m h=>(nomatch h)⟩,by rw[hT];exact mE _ _ _ _ (by omega)⟩
 have s5:bu T w T5 w5:=⟨a,x.az⟩
 refine⟨fun u=>Ext No w5 u,ph (L:=[]) ⟨rfl,Nat.le_refl _,fun h=>absurd rfl h,fun _ h=>nomatch h⟩ (fun r h=>(nomatch h)) (by decide) fun w6 x6=>If.not (If.yes (If.dec (fun h=>by simp at h) fun _=>x6)),?_⟩;rintro _ w6 x6;have y6:=y5.no x6;refine Nn.mk ⟨⟨none,0,0⟩,Cell.af y6.pb.r rfl,p_ (xs:=[]) (n:=0) (aP.nil w6.heap w6.heap.size 192 2) (Nat.le_refl _) (Rd.src (s:=⟨none,0,0⟩) (Rd.nil _ _)) (by decide) fun s7 w7 o7 l7 x7 hs7=>?_⟩;have Xe:Ext No w6 w7:=x7.mono fun _ _ h=>nomatch h
 have y7:=y6.tag Xe 6;refine Nn.mk (aH.mk y7.pb.r (Nat.le_of_ble_eq_true rfl) rfl fun w8 h8=>?_);obtain⟨y8,s8⟩:=y7.Rb (fr':=s7) (F':=[]) (pu':=[]) (dl':=[]) (h8.get y7.pb.r) h8.ext ⟨o7.rd,fun i hi=>⟨bT _ (o7.lt hi).1 (o7.lt hi).2,(o7.lt hi).2⟩,fun r h=>(nomatch h),Nat.zero_le _⟩ y7.mp;exact k _ _ w8 y8 rfl rfl rfl rfl rfl rfl rfl rfl rfl rfl rfl rfl rfl rfl rfl rfl rfl rfl rfl ((s5.nx x6).trans ((⟨aY _ _ _ _,Xe.az⟩ : bu T5 w6 _ w7).trans s8))
end
end Go.Proofs.YtiigcapldngijaaGreat
namespace Go.Proofs.YtiigcapldngijaaGreat
open Go.V Go.V.Dk Go.V.Rn
abbrev fB(j:Nat):List fA:=if j=0 then[] else if j=1 then[(2,3)] else[(2,3),(5,4+(j:Int))]
abbrev gB:List Int:=2::(List.range 95).map fun i:Nat=>5+(i:Int)
theorem aaW:qi [4,3] 98=gB:=by decide
theorem aaX:gB.length=96:=by simp
theorem Y6{j:Nat}(h:j < gB.length):gB[j]=if j=0 then 2 else 4+(j:Int):=by
 match j,h with
 | 0,_=>rfl
 | j+1,h=>simp;omega
theorem ado{j:Nat}(h:j < gB.length):bw (fB j)=true/\Rn.hasB gB[j] (fB j)=false/\f_ (fB j) [(gB[j],gB[j]+1)]=fB (j+1)/\zV (fB (j+1))/\(fB (j+1)).length<=1000:=by
 have hl:=aaX
 have u:zV (fB (j+1))/\(fB (j+1)).length<=1000:=by
  unfold fB;rw[if_neg (Nat.succ_ne_zero j)];split
  .exact⟨fun r hr=>by simp only[List.mem_singleton]at hr;subst hr;decide,by decide⟩
  .refine⟨fun r hr=>?_,Nat.le_of_ble_eq_true rfl⟩;simp only[List.mem_cons,List.not_mem_nil,or_false]at hr;rcases hr with rfl | rfl
   .decide
   .simp only;omega
 refine⟨?_,?_,?_,u⟩
 .unfold fB;split
  .rfl
  .split
   .rfl
   .simp[bw,kF];omega
 .rw[Y6 h];unfold fB;split
  .rfl
  .split
   .simp[Rn.hasB];omega
   .simp[Rn.hasB];omega
 .rw[Y6 h];have hj:j=0∨j=1∨2<=j:=by omega
  rcases hj with rfl | rfl | hj
  .unfold f_;simp only[fB,if_pos];rw[eU,eU];decide
  .show eU [] [(2,3)] [(5,6)]=[(2,3),(5,6)];rw[eU,if_pos (by decide),eU,eU];decide
  .unfold fB f_;rw[if_neg (by omega),if_neg (by omega),if_neg (by omega),if_neg (by omega),if_neg (by omega),eU,if_pos (by show(2:Int)<=4+j;omega),eU,if_pos (by show(5:Int)<=4+j;omega),eU,eU];have e1:r_ [] ((2,3):fA)=[(2,3)]:=by decide
   have e2:r_ [((2,3):fA)] (5,4+(j:Int))=[(2,3),(5,4+(j:Int))]:=by
    unfold r_;rw[if_neg (by simp[rZ,gr])];rfl
   rw[e1,e2];unfold r_;rw[if_pos (by simp[rZ,gr])];simp[rZ,xz,gr,CX];omega
end Go.Proofs.YtiigcapldngijaaGreat
