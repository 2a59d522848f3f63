/- Texts for LRollSame,LRollBytes,LRollReads,LRollNone, part 11. -/
import Derived.Lib.BytesEntry
import Derived.Test.YtpjbalhhlaofmaaGreatQv10
namespace Go.Proofs.YtpjbalhhlaofmaaGreat
open Go.V
abbrev b_(h:Array Obj)(s:Sl)(l:List Int):Prop:=Rd h s 1 (l.map (Value.int .u8))
abbrev aK(h:Array Obj)(base:Nat)(s:Sl)(l:List Int):Prop:=bf h base 5 1 s (l.map (Value.int .u8))
theorem b_.len{h:Array Obj}{s:Sl}{l:List Int}(o:b_ h s l):s.len=l.length:=by have:=Rd.len o;simp at this;exact this.symm
theorem aK.len{h:Array Obj}{base:Nat}{s:Sl}{l:List Int}(o:aK h base s l):s.len=l.length:=b_.len o.rd
section
variable {w:Wd}
theorem kM{n size:Int}{K:Sl->Int->Pw}(hn:0<=n)(h1:1<=size)(h8:size<=8)(iy:n < 256 ^ size.toNat)
  (k:∀s w',aK w'.heap w.heap.size s (be size.toNat n)->Ext No w w'->K s 0 w'):dD n size w K:=by
 apply GN;refine⟨fun w'=>w'=w,If.dec (fun h=>by omega) (fun _=>If.dec (fun h=>by omega) fun _=>rfl),?_⟩;rintro _ w1 rfl;refine⟨fun w'=>w'=w1,If.dec (fun h=>Ar.i64 (by omega) ⟨by omega,Nm.as (e':=0) ?_ (If.bne (fun h=>(h rfl).elim) fun _=>rfl)⟩) fun _=>rfl,?_⟩
 .have e2:min (8 * size).toNat (IntKind.bits .u64)=8 * size.toNat:=by
   have:IntKind.bits .u64=64:=rfl;omega
  rw[e2,Int.pow_mul,show(2:Int) ^ 8=256 from rfl,Int.fdiv_eq_ediv_of_nonneg _ (Int.le_of_lt (Int.pow_pos (by decide)))];exact Int.ediv_eq_zero_of_lt hn iy
 rintro _ w2 rfl;refine FZ.mk (by omega) (Int.le_refl _) (by omega) (by omega) fun b w3 jG=>Ar.i64 (by omega) ?_
 have o3:=bf.make (l:=size.toNat) jG (Nat.le_refl _) (fun v hv=>by rw[List.mem_singleton]at hv;subst hv;rfl);have e3:(List.replicate size.toNat [Value.int .u8 0]).flatten=(List.replicate size.toNat (0:Int)).map (Value.int .u8):=by simp[List.flatten_replicate_singleton]
 rw[e3]at o3
 -- after j steps: the last j bytes of n are there,n / 256^j is left
 refine⟨fun m m' i w'=>∃j:Nat,i=size - 1 - j/\j<=size.toNat/\m=size.toNat - j/\m'=n / 256 ^ j/\aK w'.heap w2.heap.size ⟨some ⟨b,0,none⟩,size.toNat,size.toNat⟩ (List.replicate (size.toNat - j) 0++(be size.toNat n).drop (size.toNat - j))/\Ext No w2 w',⟨size.toNat,0,by omega,by omega,by omega,by simp,?_,jG.ext⟩,?_⟩
 .rw[Nat.sub_zero,List.drop_eq_nil_of_le (by rw[bu];exact Nat.le_refl _),List.append_nil];exact o3
 rintro _ m0 n1 i w4 ⟨j,rfl,hj,hm,rfl,o4,x4⟩;refine If.dec (fun h=>Ar.Ly ?_) (fun h=>?_)
 .have hq:0<=n / 256 ^ j:=Int.ediv_nonneg hn (Int.le_of_lt (Int.pow_pos (by decide)))
  refine aQ.own o4 h (by simp only;omega) rfl fun w5 o5 x5 z5=>⟨by omega,Nm.as (e':=n / 256 ^ (j+1)) ?_ (Ar.i64 (by omega) ⟨size.toNat - (j+1),by omega,j+1,by omega,by omega,rfl,rfl,?_,?_⟩)⟩
  .rw[show min (Int.toNat 8) (IntKind.bits .u64)=8 from rfl,Int.fdiv_eq_ediv_of_nonneg _ (by decide),show(2:Int) ^ 8=256 from rfl,Int.ediv_ediv_of_nonneg (Int.le_of_lt (Int.pow_pos (by decide))),Int.pow_succ]
  .have e:(size - 1 - (j:Int)).toNat=size.toNat - (j+1):=by omega
   rw[e,<- List.map_set]at o5;have hk:size.toNat - j=(size.toNat - (j+1))+1:=by omega
   have:(List.replicate (size.toNat - j) (0:Int)++(be size.toNat n).drop (size.toNat - j)).set (size.toNat - (j+1)) (n / 256 ^ j % 256)=List.replicate (size.toNat - (j+1)) 0++(be size.toNat n).drop (size.toNat - (j+1)):=by
    rw[hk,List.replicate_succ',List.append_assoc,List.set_append_right _ _ (by simp)];simp only[List.length_replicate,Nat.sub_self,List.singleton_append,List.set_cons_zero];rw[<- On (k:=size.toNat) (j:=j) (by omega),show size.toNat - 1 - j=size.toNat - (j+1) by omega];rw[List.getD_eq_getElem?_getD,List.getElem?_eq_getElem (by rw[bu];omega),Option.getD_some,<- List.drop_eq_getElem_cons]
   rw[this]at o5;exact o5
  .exact x4.trans x5 fun q hq h=>by
    have h:=Option.some.inj h;rw[<- h]at hq;have:=jG.at_;simp only at hq;omega
 .have e:size.toNat - j=0:=by omega
  rw[e]at o4;exact k _ _ (by simpa using o4) x4
theorem mG{b:Sl}{l:List Int}{K:Int->Int->Pw}(hb:b_ w.heap b l)(h8:B8 l)(h1:1<=l.length)(h2:l.length<=8)(k:K (num l) 0 w):fm b w K:=by
 apply GL;have hl:=b_.len hb;refine⟨fun w'=>w'=w,If.dec (fun h=>by omega) (fun _=>If.dec (fun h=>by omega) fun _=>rfl),?_⟩;rintro _ w1 rfl;refine⟨fun m n t w'=>w'=w1/\∃j:Nat,t=j/\j<=l.length/\m=l.length - j/\n=num (l.take j),⟨l.length,rfl,0,rfl,by omega,by omega,by simp[num]⟩,?_⟩;rintro _ m0 n t w2 ⟨rfl,j,rfl,hj,hm,rfl⟩;refine If.dec (fun h=>Ix.int hb (by omega) (by omega) fun bb o _ hc=>⟨_,hc,?_⟩) (fun h=>?_)
 .have hx:=h8.get j;have cF:num (l.take j) < 256 ^ j:=by have:=Vn (h8.take j);rwa [List.length_take,Nat.min_eq_left hj]at this
  have h0:=num_nonneg (h8.take j);have hp:(256:Int) ^ (j+1)<=256 ^ 8:=acf (by omega);rw[Int.pow_succ]at hp;have hp8:(256:Int) ^ 8=18446744073709551616:=by decide
  have e1:num (l.take j) * 2 ^ min (Int.toNat 8) (IntKind.bits .u64)=num (l.take j) * 256:=rfl;rw[Int.toNat_natCast];refine⟨by omega,?_⟩;rw[e1];refine Ar.u64 (by omega) (Ar.u64 (by omega) (Nm.as (Hf h0 hx (by omega)) (Ar.i64 (by omega) ⟨l.length - (j+1),by omega,rfl,j+1,by omega,by omega,rfl,?_⟩)));rw[Dj (by omega),He]
 .have e:j=l.length:=by omega
  rw[e,List.take_length];exact k
theorem xU{b:Sl}{l:List Int}{K:Bool->Pw}(hb:b_ w.heap b l)(h8:B8 l)(hs:l.length<=4294967296)(k:K (decide (∀x∈l,x=0)) w):jb b w K:=by
 apply Av;have hl:=b_.len hb;refine⟨fun m n t w'=>w'=w/\∃j:Nat,t=j/\j<=l.length/\m=l.length - j/\0<=n/\n<=255/\(n=0 ↔ ∀x∈l.take j,x=0),⟨l.length,rfl,0,rfl,by omega,by omega,by omega,by omega,by simp⟩,?_⟩;rintro _ m0 n t w2 ⟨rfl,j,rfl,hj,hm,wm,Rp,hn⟩;refine If.dec (fun h=>Ix.int hb (by omega) (by omega) fun bb o _ hc=>⟨_,hc,Nm.mk (Ar.i64 (by omega) ⟨l.length - (j+1),by omega,rfl,j+1,by omega,by omega,rfl,?_⟩)⟩) (fun h=>?_)
 .have hx:=h8.get j;rw[Int.toNat_natCast];obtain⟨a,b,c⟩:=zu ⟨wm,Rp⟩ hx;refine⟨a,b,c.trans ?_⟩;rw[hn,Dj (by omega)];constructor
  .rintro⟨p,q⟩ x hx;rcases List.mem_append.1 hx with h | h
   .exact p x h
   .rw[List.mem_singleton]at h;rw[h];exact q
  .intro p;exact⟨fun x hx=>p x (List.mem_append_left _ hx),p _ (List.mem_append_right _ (List.mem_singleton.2 rfl))⟩
 .have e:j=l.length:=by omega
  rw[e,List.take_length]at hn
  have:(n == 0)=decide (∀x∈l,x=0):=by
   rw[Bool.eq_iff_iff,beq_iff_eq,decide_eq_true_iff];exact hn
  rw[this];exact k
theorem jX{b:Sl}{l:List Int}{K:Sl->Pw}(hb:b_ w.heap b l)(hs:l.length<=1099511627776)(k:∀s w',aK w'.heap w.heap.size s l->Ext No w w'->K s w'):dE b w K:=by
 apply Cq;have hl:=b_.len hb;refine If.cases (fun h=>?_) (fun h=>af.mk fun b1 w1 hn=>?_)
 .have:l=[]:=by
   rcases Classical.em (l=[]) with h' | h'
   .exact h'
   .obtain⟨_,_,ha,_⟩:=Rd.at_ hb (by simpa using h');rw[ha]at h;cases h
  subst this;exact k _ _ (bf.nil _ _ _ _) (Ext.refl _ _)
 .have o1:bf w1.heap w.heap.size 5 1 ⟨some ⟨b1,0,none⟩,0,0⟩ []:=by have:=bf.new (n:=0) (sz:=1) hn rfl (by simp);exact this
  refine c_ o1 (by have:=hn.size;omega) (Rd.no hb hn.ext).src (by simp only;omega) fun s' w' o' _ x' _=>?_
  rw[List.nil_append]at o';refine k _ _ o' (hn.ext.trans x' fun q hq h=>?_);have h:=Option.some.inj h;rw[<- h]at hq;have:=hn.at_;simp only at hq;omega
end
end Go.Proofs.YtpjbalhhlaofmaaGreat
