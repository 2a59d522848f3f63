/- Texts for LTreeMem, part 14. -/
import Derived.Sort.LotD3
import Derived.Sort.LotD1
import Derived.Sort.LotC
import Derived.Sort.LotB
import Derived.Sort.LotA
import Derived.Test.YtcamoanigdfihaaGreatQm13
set_option maxRecDepth 100000
namespace Go.Proofs.YtcamoanigdfihaaGreat
open Go.V
abbrev sLt:Int->Int->Bool:=Sort.ltInt
section
variable {w0 w:Wd} {base:Nat} {e:TypeId} {s:Sl} {d:Array Int}
theorem lessE{x y:Int}{K:Bool->Wd->Prop}(k:K (sLt x y) w):C_cmp_Less_uint32 x y w K:=by
 apply S_cmp_Less_uint32
 refine S_cmp_isNaN_uint32 (If.bne (fun h=>(h rfl).elim) fun _=>k)
structure SqE(w0:Wd)(base:Nat)(e:TypeId)(s:Sl)(d:Array Int)(w:Wd):Prop where
 own:Own w.heap base e 1 s (strsU d.toList)
 ext:Ext (fun q=>s.blk=some q) w0 w
theorem SqE.no{w':Wd}(h:SqE w0 base e s d w)(x:Ext No w w'):SqE w0 base e s d w':=⟨h.own.no x,h.ext.no x⟩
theorem SqE.drew(h:SqE w0 base e s d w):SqE w0 base e s d (drewW w):=h.no (Ext.refl _ _).drew
theorem getE{d:Array Int}{i:Nat}(h:i < d.size):d.toList[i]'(by simpa using h)=d[i]!:=by simp [h]
theorem SqE.at_{i:Int}{j:Nat}{K:Addr->Prop}(h:SqE w0 base e s d w)(hj:i=(j:Nat))(h1:j < d.size)(k:∀ b,s.a=some ⟨b,0,none⟩->Cell w ⟨b,j,none⟩ (.int .u32 d[j]!)->K ⟨b,j,none⟩):Ix s.a s.len i 1 K:=by
 subst hj
 refine Ix.u32 h.own (by omega) (by simpa using h1) fun b ha c=>?_
 simp only [Int.toNat_natCast] at c ⊢
 rw [getE h1] at c
 exact k b ha c
theorem SqE.rd{i:Int}{K:Int->Prop}(h:SqE w0 base e s d w)(j:Nat)(hj:i=(j:Nat))(h1:j < d.size)(k:K d[j]!):Ix s.a s.len i 1 fun a=>∃ vv:Int,Held (Ext No w) a (.int .u32 vv)/\K vv :=
 h.at_ hj h1 fun _ _ c=>⟨_,Held.cell c,k⟩
theorem swp_list{d:Array Int}{x y:Nat}:(Sort.swp d x y).toList=(d.toList.set y d[x]!).set x d[y]!:=by
 have e:(Sort.swp d x y).toList=(d.toList.set x d[y]!).set y d[x]!:=by simp [Sort.swp]
 rw [e]
 by_cases h:x=y
 .subst h; rfl
 .exact List.set_comm _ _ h
theorem swapE{S:Wd->Prop}{x y:Int}{K:Wd->Prop}(hS:∀ w,S w)(h:SqE w0 base e s d w)(i j:Nat)(hi:x=(i:Nat))(hj:y=(j:Nat))(hx:i < d.size)(hy:j < d.size)(k:∀ w',SqE w0 base e s (Sort.swp d i j) w'->K w') :
  ∃ b,s.a=some ⟨b,0,none⟩/\s.len=d.size/\SwpU s S w x y ⟨b,i,none⟩ ⟨b,j,none⟩ K:=by
 subst hi hj
 have hl:=h.own.len
 simp only [List.length_map,Nat.mul_one,Array.length_toList] at hl
 have hd:=h.drew
 have both:Ix s.a s.len (j:Nat) 1 fun a_3=>St1 (drewW w) a_3 (.int .u32 d[i]!) fun w2=>S w2/\Ix s.a s.len (i:Nat) 1 fun a_4=>St1 w2 a_4 (.int .u32 d[j]!) fun w3=>S w3/\K w3:=by
  refine hd.at_ rfl hy fun b ha _=>?_
  refine St1.at_ (w:=drewW w) hd.own ha (by simpa using hy) rfl fun w2 o2 e2 _=>⟨hS _,?_⟩
  rw [strs_setU] at o2
  refine Ix.u32 o2 (by omega) (by simpa using hx) fun b' ha' _=>?_
  simp only [Int.toNat_natCast]
  refine St1.at_ o2 ha' (by simpa using hx) rfl fun w3 o3 e3 _=>⟨hS _,?_⟩
  rw [strs_setU,<- swp_list] at o3
  exact k w3 ⟨o3,(hd.ext.trans e2 fun _ _ h=>h).trans e3 fun _ _ h=>h⟩
 have hne:strsU d.toList≠[]:=by intro h; rw [List.map_eq_nil_iff] at h; have:=congrArg List.length h; simp at this; rw [this] at hx; simp at hx
 obtain ⟨b,rest,ha,_,hb,_,_⟩:=h.own.place hne
 have cell:∀ i,i < d.size->Cell (drewW w) ⟨b,i,none⟩ (.int .u32 d[i]!):=fun i h=>Cell.lst (w:=drewW w) hb (by rw [List.getElem?_append_left (by simpa using h),List.getElem?_map,List.getElem?_eq_getElem (by simpa using h),Option.map_some,getE h])
 exact ⟨b,ha,by omega,⟨_,cell _ hx,hS _,_,cell _ hy,hS _,both⟩,_,cell _ hy,hS _,_,cell _ hx,hS _,both⟩
theorem swap2E{S:Wd->Prop}{x y:Int}{K:Wd->Prop}(hS:∀ w,S w)(h:SqE w0 base e s d w)(i j:Nat)(hi:x=(i:Nat))(hj:y=(j:Nat))(hx:i < d.size)(hy:j < d.size)(k:∀ w',SqE w0 base e s (Sort.swp d i j) w'->K w') :
  Ix s.a s.len x 1 fun a_1=>Ix s.a s.len y 1 fun a_2=>SwpU s S w x y a_1 a_2 K:=by
 obtain ⟨b,ha,hl,hk⟩:=swapE hS h i j hi hj hx hy k
 have e1:(⟨b,i,none⟩ : Addr)=⟨b,x.toNat,none⟩:=by rw [hi]; rfl
 have e2:(⟨b,j,none⟩ : Addr)=⟨b,y.toNat,none⟩:=by rw [hj]; rfl
 rw [e1,e2] at hk
 exact Ix.of ha (by omega) (by omega) (Ix.of ha (by omega) (by omega) hk)
theorem swap2aE{S:Wd->Prop}{x y:Int}{K:Wd->Prop}(hS:∀ w,S w)(h:SqE w0 base e s d w)(i j:Nat)(hi:x=(i:Nat))(hj:y=(j:Nat))(hx:i < d.size)(hy:j < d.size)(hn:d.size<=65535)(k:∀ w',SqE w0 base e s (Sort.swp d i j) w'->K w') :
  Ix s.a s.len x 1 fun a_1=>Ar .i64 y fun y'=>Ix s.a s.len y' 1 fun a_2=>SwpU s S w x y a_1 a_2 K:=by
 obtain ⟨b,ha,hl,hk⟩:=swapE hS h i j hi hj hx hy k
 have e1:(⟨b,i,none⟩ : Addr)=⟨b,x.toNat,none⟩:=by rw [hi]; rfl
 have e2:(⟨b,j,none⟩ : Addr)=⟨b,y.toNat,none⟩:=by rw [hj]; rfl
 rw [e1,e2] at hk
 exact Ix.of ha (by omega) (by omega) (Ar.i64 (by omega) (Ix.of ha (by omega) (by omega) hk))
theorem swp_sym{d:Array Int}{x y:Nat}:Sort.swp d x y=Sort.swp d y x:=by
 apply Array.toList_inj.1
 rw [swp_list]
 simp [Sort.swp]
theorem insertion_specE{a b:Nat}{K:Wd->Prop}(h:SqE w0 base e s d w)(hb:b<=d.size)(hn:d.size<=65535)(hab:a<=65535)(k:∀ w',SqE w0 base e s (Sort.insertionSort sLt d a b) w'->K w'):C_slices_insertionSortOrdered_uint32 s a b w K:=by
 apply S_slices_insertionSortOrdered_uint32
 unfold Sort.insertionSort at k
 generalize hres:Sort.insOuter sLt a b (a+1) d=res at k
 refine Ar.i64 (by omega) ⟨fun q i w'=>∃ (m:Nat) (d':Array Int),i=m/\q=b - m/\a+1<=m/\m<=70000/\d'.size=d.size/\Sort.insOuter sLt a b m d'=res/\SqE w0 base e s d' w',⟨_,a+1,d,by omega,rfl,by omega,by omega,rfl,hres,h⟩,?_⟩
 rintro _ m0 i w1 ⟨m,d1,rfl,hm,hi,hi2,hs1,he,h1⟩
 rw [Sort.insOuter] at he
 refine If.dec (fun hib=>?_) fun hib=>?_
 .rw [if_pos (by omega)] at he
  refine ⟨fun q j w'=>∃ (m':Nat) (d':Array Int),j=m'/\q=m'/\a<=m'/\m'<=m/\d'.size=d.size/\Sort.insOuter sLt a b (m+1) (Sort.insInner sLt a m' d')=res/\SqE w0 base e s d' w',⟨_,m,d1,rfl,rfl,by omega,by omega,hs1,he,h1⟩,?_⟩
  rintro _ m1 j w2 ⟨m',d2,rfl,hm1,hj,hj2,hs2,he2,h2⟩
  have out:∀ w',SqE w0 base e s d2 w'->Sort.insInner sLt a m' d2=d2->Ar .i64 ((m:Int)+1) fun z=>∃ m1,m1 < m0/\∃ (m:Nat) (d':Array Int),z=m/\m1=b - m/\a+1<=m/\m<=70000/\d'.size=d.size/\Sort.insOuter sLt a b m d'=res/\SqE w0 base e s d' w':=fun w' h' hin=>Ar.i64 (by omega) ⟨_,by omega,m+1,d2,by omega,rfl,by omega,by omega,hs2,by rw [hin] at he2; exact he2,h'⟩
  refine ⟨fun w'=>SqE w0 base e s d2 w'/\a < m'/\sLt d2[m']! d2[m' - 1]! = true,⟨Ext No w2,(Ext.refl _ _).drew,If.dec (fun hja=>h2.rd m' rfl (by omega) (Ar.i64 (by omega) (h2.rd (m' - 1) (by omega) (by omega) (lessE ⟨(Ext.refl _ _).drew,If.cases (fun hc=>⟨h2.drew,by omega,hc⟩) fun hc=>out _ h2.drew ?_⟩)))) fun hja=>out _ h2.drew ?_⟩,?_⟩
  .obtain ⟨p,rfl⟩ : ∃ p,m'=p+1:=⟨m' - 1,by omega⟩
   simp only [Nat.add_sub_cancel] at hc
   rw [Sort.insInner,hc]; simp
  .cases m' with
   | zero=>rfl
   | succ p=>rw [Sort.insInner,if_neg (by simp; omega)]
  rintro _ w4 ⟨h4,hja,hlt⟩
  obtain ⟨p,rfl⟩ : ∃ p,m'=p+1:=⟨m' - 1,by omega⟩
  simp only [Nat.add_sub_cancel] at hlt
  rw [Sort.insInner,if_pos (by simp [hlt]; omega)] at he2
  refine ⟨fun _=>True,trivial,Ar.i64 (by omega) (Ar.i64 (by omega) (swap2E (fun _=>trivial) h4 p (p+1) (by omega) (by omega) (by omega) (by omega) fun w6 h6=>Ar.i64 (by omega) ⟨_,by omega,p,Sort.swp d2 p (p+1),by omega,rfl,by omega,by omega,by rw [Sort.size_swp]; exact hs2,?_,h6⟩))⟩
  rw [swp_sym]; exact he2
 .rw [if_neg (by omega)] at he
  exact k w1 (by rw [<- he]; exact h1)
theorem siftDown_specE{lo hi first:Nat}{K:Wd->Prop}(h:SqE w0 base e s d w)(hb:first+hi<=d.size)(hn:d.size<=65535)(hlo:lo<=65535)(k:∀ w',SqE w0 base e s (Sort.siftDown sLt hi first lo d) w'->K w'):C_slices_siftDownOrdered_uint32 s lo hi first w K:=by
 apply S_slices_siftDownOrdered_uint32
 generalize hres:Sort.siftDown sLt hi first lo d=res at k
 refine ⟨fun q root w'=>∃ (m:Nat) (d':Array Int),root=m/\q=hi - m/\m<=65535/\d'.size=d.size/\Sort.siftDown sLt hi first m d'=res/\SqE w0 base e s d' w',⟨_,lo,d,rfl,rfl,hlo,rfl,hres,h⟩,?_⟩
 rintro _ m0 root w1 ⟨m,d1,rfl,hm,hr2,hs1,he,h1⟩
 rw [Sort.siftDown] at he
 refine Ar.i64 (by omega) (Ar.i64 (by omega) (If.dec (fun hc=>?_) fun hch=>?_))
 .rw [dif_pos (by omega)] at he
  exact k w1 (by rw [<- he]; exact h1)
 rw [dif_neg (by omega)] at he
 refine ⟨fun child w'=>∃ c:Nat,child=c/\(c=2 * m+1∨c=2 * m+2)/\c < hi/\SqE w0 base e s d1 w'/\(if !sLt d1[first+m]! d1[first+c]! then d1 else Sort.siftDown sLt hi first c (Sort.swp d1 (first+m) (first+c)))=res,
  ⟨Ext No w1,(Ext.refl _ _).drew,Ar.i64 (by omega) (If.dec (fun hc2=>Ar.i64 (by omega) (h1.rd (first+(2 * m+1)) (by omega) (by omega) (Ar.i64 (by omega) (Ar.i64 (by omega) (h1.rd (first+(2 * m+1)+1) (by omega) (by omega) (lessE ⟨(Ext.refl _ _).drew,If.cases (fun hl=>Ar.i64 (by omega) ⟨2 * m+2,by omega, .inr rfl,by omega,h1.drew,?_⟩) fun hl=>⟨2 * m+1,by omega, .inl rfl,by omega,h1.drew,?_⟩⟩)))))) fun hc2=>⟨2 * m+1,by omega, .inl rfl,by omega,h1.drew,?_⟩)⟩,?_⟩
 .rw [if_pos (by simp [hl]; omega)] at he
  rw [dif_pos (by omega)] at he
  exact he
 .rw [if_neg (by simp [hl])] at he
  exact he
 .rw [if_neg (by simp; omega)] at he
  exact he
 rintro _ child w3 ⟨c,rfl,hc1,hc2,h3,he3⟩
 refine ⟨Ext No w3,(Ext.refl _ _).drew,Ar.i64 (by omega) (h3.rd (first+m) (by omega) (by omega) (Ar.i64 (by omega) (h3.rd (first+c) (by omega) (by omega) (lessE ⟨(Ext.refl _ _).drew,?_⟩))))⟩
 refine If.not (If.cases (fun hl=>?_) fun hl=>?_)
 .rw [hl] at he3
  simp only [Bool.not_true,Bool.false_eq_true,if_false] at he3
  refine ⟨fun _=>True,trivial,Ar.i64 (by omega) (Ar.i64 (by omega) (Ar.i64 (by omega) (swap2aE (fun _=>trivial) h3.drew (first+c) (first+m) (by omega) (by omega) (by omega) (by omega) (by omega) fun w6 h6=>⟨_,by omega,c,_,rfl,rfl,by omega,by rw [Sort.size_swp]; exact hs1,?_,h6⟩)))⟩
  rw [swp_sym]; exact he3
 .rw [hl] at he3
  simp only [Bool.not_false,if_true] at he3
  exact k _ (by rw [<- he3]; exact h3.drew)
theorem SqE.sz(h:SqE w0 base e s d w):d.size=s.len:=by
 have hl:=h.own.len
 simp only [List.length_map,Nat.mul_one,Array.length_toList] at hl
 omega
theorem heapSort_specE{a b:Nat}{K:Wd->Prop}(h:SqE w0 base e s d w)(hab:a < b)(hb:b<=d.size)(hn:d.size<=65535)(k:∀ w',SqE w0 base e s (Sort.heapSort sLt d a b) w'->K w'):C_slices_heapSortOrdered_uint32 s a b w K:=by
 apply S_slices_heapSortOrdered_uint32
 unfold Sort.heapSort at k
 generalize hres:Sort.heapPop sLt a (b - a) (Sort.heapBuild sLt (b - a) a ((b - a - 1) / 2+1) d)=res at k
 have hsz:=h.sz
 have q:Int.tdiv ((b:Int) - a - 1) 2=(((b - a - 1) / 2:Nat):Int):=by rw [Int.tdiv_eq_ediv_of_nonneg (by omega)]; omega
 refine Ar.i64 (by omega) (Ar.i64 (by omega) ⟨by decide,?_⟩)
 rw [q,show (b:Int) - a=((b - a:Nat):Int) by omega]
 refine Ar.i64 (by omega) ⟨fun q i w'=>∃ (k:Nat) (d':Array Int),i=(k:Int) - 1/\q=k/\k<=b - a/\Sort.heapPop sLt a (b - a) (Sort.heapBuild sLt (b - a) a k d')=res/\SqE w0 base e s d' w',⟨_,(b - a - 1) / 2+1,d,by omega,rfl,by omega,hres,h⟩,?_⟩
 rintro _ m0 i w1 ⟨m,d1,rfl,hm,hi2,he,h1⟩
 have hs1:=h1.sz
 refine If.dec (fun hi3=>?_) fun hi3=>?_
 .obtain ⟨p,rfl⟩ : ∃ p,m=p+1:=⟨m - 1,by omega⟩
  rw [show ((p+1:Nat):Int) - 1=(p:Nat) by omega]
  exact siftDown_specE h1 (by omega) (by omega) (by omega) fun w2 h2=>Ar.i64 (by omega) ⟨_,by omega,p,_,rfl,rfl,by omega,he,h2⟩
 have hm0:m=0:=by omega
 subst hm0
 have he':Sort.heapPop sLt a (b - a) d1=res:=he
 refine Ar.i64 (by omega) ⟨fun q i w'=>∃ (k:Nat) (d':Array Int),i=(k:Int) - 1/\q=k/\k<=b - a/\Sort.heapPop sLt a k d'=res/\SqE w0 base e s d' w',⟨_,b - a,d1,rfl,rfl,Nat.le_refl _,he',h1⟩,?_⟩
 rintro _ m1 j w3 ⟨m,d3,rfl,hm1,hj2,he3,h3⟩
 have hs3:=h3.sz
 refine If.dec (fun hj3=>?_) fun hj3=>?_
 .obtain ⟨p,rfl⟩ : ∃ p,m=p+1:=⟨m - 1,by omega⟩
  rw [show ((p+1:Nat):Int) - 1=(p:Nat) by omega]
  refine ⟨fun _=>True,trivial,Ar.i64 (by omega) (Ar.i64 (by omega) (swap2E (fun _=>trivial) h3 (a+p) a (by omega) rfl (by omega) (by omega) fun w5 h5=>?_))⟩
  rw [swp_sym] at h5
  have hs5:=h5.sz
  exact siftDown_specE (lo:=0) h5 (by omega) (by omega) (by omega) fun w6 h6=>Ar.i64 (by omega) ⟨_,by omega,p,_,rfl,rfl,by omega,he3,h6⟩
 .have hm0:m=0:=by omega
  subst hm0
  have he4:d3=res:=he3
  exact k w3 (by rw [<- he4]; exact h3)
end
section
variable {w0 w:Wd} {base:Nat} {e:TypeId} {s:Sl} {d:Array Int}
theorem up_yes{P:Int->Bool}{d:Array Int}{j m:Nat}(h:m<=j)(hp:P d[m]! = true):Sort.scanUp P d j m=Sort.scanUp P d j (m+1):=by
 rw [Sort.scanUp,if_pos (by rw [hp]; simp [h])]
theorem up_no{P:Int->Bool}{d:Array Int}{j m:Nat}(h:m<=j->P d[m]! = false):Sort.scanUp P d j m=m:=by
 rw [Sort.scanUp,if_neg (by
  rw [Bool.and_eq_true,decide_eq_true_eq]
  rintro ⟨h1,h2⟩
  rw [h h1] at h2; cases h2)]
theorem down_yes{P:Int->Bool}{d:Array Int}{i m:Nat}(h:i<=m+1)(hp:P d[m+1]! = true):Sort.scanDown P d i (m+1)=Sort.scanDown P d i m:=by
 rw [Sort.scanDown,if_pos (by rw [hp]; simp [h])]
theorem down_no{P:Int->Bool}{d:Array Int}{i m:Nat}(h:i<=m->P d[m]! = false):Sort.scanDown P d i m=m:=by
 cases m with
 | zero=>rfl
 | succ m=>rw [Sort.scanDown,if_neg (by
  rw [Bool.and_eq_true,decide_eq_true_eq]
  rintro ⟨h1,h2⟩
  rw [h h1] at h2; cases h2)]
set_option maxHeartbeats 2000000 in
theorem partition_specE{a b p:Nat}{K:Int->Bool->Wd->Prop}(h:SqE w0 base e s d w)(hab:a < b)(hb:b<=d.size)(hn:d.size<=65535)(hp:a<=p/\p < b)(k:∀ dd w',SqE w0 base e s (Sort.partition sLt d a b p).2.2 w'->K ((Sort.partition sLt d a b p).1:Nat) dd w'):C_slices_partitionOrdered_uint32 s a b p w K:=by
 apply S_slices_partitionOrdered_uint32
 rw [Sort.partition_fst,Sort.partition_arr] at k
 have hsz:=h.sz
 refine ⟨fun _=>True,trivial,swap2E (fun _=>trivial) h p a rfl rfl (by omega) (by omega) fun w2 h2=>Ar.i64 (by omega) (Ar.i64 (by omega) ?_)⟩
 rw [swp_sym] at h2
 generalize Sort.swp d a p=d2 at h2 k
 have hs2:=h2.sz
 generalize hres:Sort.partLoop sLt a (a+1) (b - 1) d2=res at k
 rw [show (b:Int) - 1=((b - 1:Nat):Int) by omega]
 refine ⟨fun i w'=>∃ m:Nat,i=m/\a+1<=m/\m<=b/\m=Sort.scanUp (fun x=>sLt x d2[a]!) d2 (b - 1) (a+1)/\SqE w0 base e s d2 w',⟨fun q i w'=>∃ m:Nat,i=m/\q=b - m/\a+1<=m/\m<=b/\Sort.scanUp (fun x=>sLt x d2[a]!) d2 (b - 1) m=Sort.scanUp (fun x=>sLt x d2[a]!) d2 (b - 1) (a+1)/\SqE w0 base e s d2 w',⟨_,a+1,by omega,rfl,by omega,by omega,rfl,h2⟩,?_⟩,?_⟩
 .rintro _ m1 i1 w4 ⟨m,rfl,hm1,a1,a2,hm,h4⟩
  refine ⟨Ext No w4,(Ext.refl _ _).drew,If.dec (fun hle=>h4.rd m rfl (by omega) (h4.rd a rfl (by omega) (lessE ⟨(Ext.refl _ _).drew,If.cases (fun hl=>Ar.i64 (by omega) ⟨_,by omega,m+1,by omega,rfl,by omega,by omega,by rw [<- hm,up_yes (P:=fun x=>sLt x d2[a]!) (by omega) hl],h4.drew⟩) fun hl=>⟨m,rfl,a1,a2,by rw [<- hm,up_no (P:=fun x=>sLt x d2[a]!) fun _=>hl],h4.drew⟩⟩))) fun hle=>⟨m,rfl,a1,a2,by rw [<- hm,up_no fun h=>by omega],h4.drew⟩⟩
 rintro _ i1 w5 ⟨m,rfl,a1,a2,hm,h5⟩
 refine ⟨fun j w'=>∃ n:Nat,j=n/\a<=n/\n<=b - 1/\n=Sort.scanDown (fun x=>!sLt x d2[a]!) d2 m (b - 1)/\SqE w0 base e s d2 w',⟨fun q j w'=>∃ n:Nat,j=n/\q=n/\a<=n/\n<=b - 1/\Sort.scanDown (fun x=>!sLt x d2[a]!) d2 m n=Sort.scanDown (fun x=>!sLt x d2[a]!) d2 m (b - 1)/\SqE w0 base e s d2 w',⟨_,b - 1,rfl,rfl,by omega,by omega,rfl,h5⟩,?_⟩,?_⟩
 .rintro _ m1 j w7 ⟨n,rfl,hm1,b1,b2,hn',h7⟩
  refine ⟨Ext No w7,(Ext.refl _ _).drew,If.dec (fun hle=>h7.rd n rfl (by omega) (h7.rd a rfl (by omega) (lessE ⟨(Ext.refl _ _).drew,If.not (If.cases (fun hl=>⟨n,rfl,b1,b2,by rw [<- hn',down_no (P:=fun x=>!sLt x d2[a]!) fun _=>by simp only [hl]; rfl],h7.drew⟩) fun hl=>?_)⟩))) fun hle=>⟨n,rfl,b1,b2,by rw [<- hn',down_no fun h=>by omega],h7.drew⟩⟩
  obtain ⟨n',rfl⟩ : ∃ n',n=n'+1:=⟨n - 1,by omega⟩
  exact Ar.i64 (by omega) ⟨_,by omega,n',by omega,rfl,by omega,by omega,by rw [<- hn',down_yes (P:=fun x=>!sLt x d2[a]!) (by omega) (by simp only [hl]; rfl)],h7.drew⟩
 rintro _ j1 w8 ⟨n,rfl,b1,b2,hn',h8⟩
 rw [Sort.partLoop_eq,<- hm,<- hn'] at hres
 refine If.dec (fun hgt=>?_) fun hle=>?_
 .rw [if_pos (by omega)] at hres
  refine ⟨fun _=>True,trivial,swap2E (fun _=>trivial) h8 a n rfl rfl (by omega) (by omega) fun w10 h10=>?_⟩
  have:=k true w10 (by rw [<- hres,swp_sym]; exact h10)
  rw [<- hres] at this; exact this
 rw [if_neg (by omega)] at hres
 refine ⟨fun _=>True,trivial,swap2E (fun _=>trivial) h8 n m rfl rfl (by omega) (by omega) fun w12 h12=>Ar.i64 (by omega) (Ar.i64 (by omega) ?_)⟩
 rw [swp_sym] at h12
 refine ⟨fun j w'=>∃ n:Nat,j=n/\a<=n/\n<=b - 1/\n=res.1/\SqE w0 base e s res.2 w',⟨fun q i j w'=>∃ (m n:Nat) (d':Array Int),i=m/\j=n/\q=n+2 - m/\a+1<=m/\a<=n/\n<=b - 1/\m<=n+2/\Sort.partLoop sLt a m n d'=res/\SqE w0 base e s d' w',⟨_,m+1,n - 1,_,by omega,by omega,rfl,by omega,by omega,by omega,by omega,hres,h12⟩,?_⟩,?_⟩
 .rintro _ m0 i j w3 ⟨m,n,d3,rfl,rfl,hm0,c1,c2,c3,c4,hr3,h3⟩
  have hs3:=h3.sz
  refine ⟨fun i' w'=>∃ m':Nat,i'=m'/\m<=m'/\(m'<=n+1∨m'=m)/\m'=Sort.scanUp (fun x=>sLt x d3[a]!) d3 n m/\SqE w0 base e s d3 w',⟨fun q i' w'=>∃ m':Nat,i'=m'/\q=n+2 - m'/\m<=m'/\(m'<=n+1∨m'=m)/\Sort.scanUp (fun x=>sLt x d3[a]!) d3 n m'=Sort.scanUp (fun x=>sLt x d3[a]!) d3 n m/\SqE w0 base e s d3 w',⟨_,m,rfl,rfl,Nat.le_refl _, .inr rfl,rfl,h3⟩,?_⟩,?_⟩
  .rintro _ m1 i1 w4 ⟨m',rfl,hm1,a1,a2,hm,h4⟩
   refine ⟨Ext No w4,(Ext.refl _ _).drew,If.dec (fun hle=>h4.rd m' rfl (by omega) (h4.rd a rfl (by omega) (lessE ⟨(Ext.refl _ _).drew,If.cases (fun hl=>Ar.i64 (by omega) ⟨_,by omega,m'+1,by omega,rfl,by omega, .inl (by omega),by rw [<- hm,up_yes (P:=fun x=>sLt x d3[a]!) (by omega) hl],h4.drew⟩) fun hl=>⟨m',rfl,a1,a2,by rw [<- hm,up_no (P:=fun x=>sLt x d3[a]!) fun _=>hl],h4.drew⟩⟩))) fun hle=>⟨m',rfl,a1,a2,by rw [<- hm,up_no fun h=>by omega],h4.drew⟩⟩
  rintro _ i2 w6 ⟨m',rfl,a1,a2,hm,h6⟩
  refine ⟨fun j' w'=>∃ n':Nat,j'=n'/\a<=n'/\n'<=n/\n'=Sort.scanDown (fun x=>!sLt x d3[a]!) d3 m' n/\SqE w0 base e s d3 w',⟨fun q j' w'=>∃ n':Nat,j'=n'/\q=n'/\a<=n'/\n'<=n/\Sort.scanDown (fun x=>!sLt x d3[a]!) d3 m' n'=Sort.scanDown (fun x=>!sLt x d3[a]!) d3 m' n/\SqE w0 base e s d3 w',⟨_,n,rfl,rfl,c2,Nat.le_refl _,rfl,h6⟩,?_⟩,?_⟩
  .rintro _ m1 j1 w7 ⟨n',rfl,hm1,b1,b2,hn',h7⟩
   refine ⟨Ext No w7,(Ext.refl _ _).drew,If.dec (fun hle=>h7.rd n' rfl (by omega) (h7.rd a rfl (by omega) (lessE ⟨(Ext.refl _ _).drew,If.not (If.cases (fun hl=>⟨n',rfl,b1,b2,by rw [<- hn',down_no (P:=fun x=>!sLt x d3[a]!) fun _=>by simp only [hl]; rfl],h7.drew⟩) fun hl=>?_)⟩))) fun hle=>⟨n',rfl,b1,b2,by rw [<- hn',down_no fun h=>by omega],h7.drew⟩⟩
   obtain ⟨n2,rfl⟩ : ∃ n2,n'=n2+1:=⟨n' - 1,by omega⟩
   exact Ar.i64 (by omega) ⟨_,by omega,n2,by omega,rfl,by omega,by omega,by rw [<- hn',down_yes (P:=fun x=>!sLt x d3[a]!) (by omega) (by simp only [hl]; rfl)],h7.drew⟩
  rintro _ j2 w9 ⟨n',rfl,b1,b2,hn',h9⟩
  rw [Sort.partLoop_eq,<- hm,<- hn'] at hr3
  refine If.dec (fun hgt=>?_) fun hle=>?_
  .rw [if_pos (by omega)] at hr3
   exact ⟨n',rfl,b1,by omega,by rw [<- hr3],by rw [<- hr3]; exact h9⟩
  rw [if_neg (by omega)] at hr3
  refine ⟨fun _=>True,trivial,swap2E (fun _=>trivial) h9 n' m' rfl rfl (by omega) (by omega) fun w11 h11=>Ar.i64 (by omega) (Ar.i64 (by omega) ?_)⟩
  rw [swp_sym] at h11
  exact ⟨_,by omega,m'+1,n' - 1,_,by omega,by omega,rfl,by omega,by omega,by omega,by omega,hr3,h11⟩
 rintro _ j5 w22 ⟨n5,rfl,c1,c2,hn5,h22⟩
 have hs5:=h22.sz
 refine ⟨fun _=>True,trivial,swap2E (fun _=>trivial) h22 a n5 rfl rfl (by omega) (by omega) fun w24 h24=>?_⟩
 rw [hn5,swp_sym] at h24
 have:=k false w24 h24
 rw [<- hn5] at this; exact this
set_option maxHeartbeats 2000000 in
theorem partitionEqual_specE{a b p:Nat}{K:Int->Wd->Prop}(h:SqE w0 base e s d w)(hab:a < b)(hb:b<=d.size)(hn:d.size<=65535)(hp:a<=p/\p < b)(k:∀ w',SqE w0 base e s (Sort.partitionEqual sLt d a b p).2 w'->K ((Sort.partitionEqual sLt d a b p).1:Nat) w'):C_slices_partitionEqualOrdered_uint32 s a b p w K:=by
 apply S_slices_partitionEqualOrdered_uint32
 unfold Sort.partitionEqual at k
 have hsz:=h.sz
 refine ⟨fun _=>True,trivial,swap2E (fun _=>trivial) h p a rfl rfl (by omega) (by omega) fun w2 h2=>Ar.i64 (by omega) (Ar.i64 (by omega) ?_)⟩
 rw [swp_sym] at h2
 generalize Sort.swp d a p=d2 at h2 k
 generalize hres:Sort.partEqLoop sLt a (a+1) (b - 1) d2=res at k
 rw [show (b:Int) - 1=((b - 1:Nat):Int) by omega]
 refine ⟨fun q i j w'=>∃ (m n:Nat) (d':Array Int),i=m/\j=n/\q=n+2 - m/\a+1<=m/\a<=n/\n<=b - 1/\m<=n+2/\Sort.partEqLoop sLt a m n d'=res/\SqE w0 base e s d' w',⟨_,a+1,b - 1,d2,by omega,rfl,rfl,by omega,by omega,by omega,by omega,hres,h2⟩,?_⟩
 rintro _ m0 i j w3 ⟨m,n,d3,rfl,rfl,hm0,c1,c2,c3,c4,hr3,h3⟩
 have hs3:=h3.sz
 refine ⟨fun i' w'=>∃ m':Nat,i'=m'/\m<=m'/\(m'<=n+1∨m'=m)/\m'=Sort.scanUp (fun x=>!sLt d3[a]! x) d3 n m/\SqE w0 base e s d3 w',⟨fun q i' w'=>∃ m':Nat,i'=m'/\q=n+2 - m'/\m<=m'/\(m'<=n+1∨m'=m)/\Sort.scanUp (fun x=>!sLt d3[a]! x) d3 n m'=Sort.scanUp (fun x=>!sLt d3[a]! x) d3 n m/\SqE w0 base e s d3 w',⟨_,m,rfl,rfl,Nat.le_refl _, .inr rfl,rfl,h3⟩,?_⟩,?_⟩
 .rintro _ m1 i1 w4 ⟨m',rfl,hm1,a1,a2,hm,h4⟩
  refine ⟨Ext No w4,(Ext.refl _ _).drew,If.dec (fun hle=>h4.rd a rfl (by omega) (h4.rd m' rfl (by omega) (lessE ⟨(Ext.refl _ _).drew,If.not (If.cases (fun hl=>⟨m',rfl,a1,a2,by rw [<- hm,up_no (P:=fun x=>!sLt d3[a]! x) fun _=>by simp only [hl]; rfl],h4.drew⟩) fun hl=>Ar.i64 (by omega) ⟨_,by omega,m'+1,by omega,rfl,by omega, .inl (by omega),by rw [<- hm,up_yes (P:=fun x=>!sLt d3[a]! x) (m:=m') (by omega) (by simp only [hl]; rfl)],h4.drew⟩)⟩))) fun hle=>⟨m',rfl,a1,a2,by rw [<- hm,up_no fun h=>by omega],h4.drew⟩⟩
 rintro _ i2 w6 ⟨m',rfl,a1,a2,hm,h6⟩
 refine ⟨fun j' w'=>∃ n':Nat,j'=n'/\a<=n'/\n'<=n/\n'=Sort.scanDown (fun x=>sLt d3[a]! x) d3 m' n/\SqE w0 base e s d3 w',⟨fun q j' w'=>∃ n':Nat,j'=n'/\q=n'/\a<=n'/\n'<=n/\Sort.scanDown (fun x=>sLt d3[a]! x) d3 m' n'=Sort.scanDown (fun x=>sLt d3[a]! x) d3 m' n/\SqE w0 base e s d3 w',⟨_,n,rfl,rfl,c2,Nat.le_refl _,rfl,h6⟩,?_⟩,?_⟩
 .rintro _ m1 j1 w7 ⟨n',rfl,hm1,b1,b2,hn',h7⟩
  refine ⟨Ext No w7,(Ext.refl _ _).drew,If.dec (fun hle=>h7.rd a rfl (by omega) (h7.rd n' rfl (by omega) (lessE ⟨(Ext.refl _ _).drew,If.cases (fun hl=>?_) fun hl=>⟨n',rfl,b1,b2,by rw [<- hn',down_no (P:=fun x=>sLt d3[a]! x) fun _=>hl],h7.drew⟩⟩))) fun hle=>⟨n',rfl,b1,b2,by rw [<- hn',down_no fun h=>by omega],h7.drew⟩⟩
  obtain ⟨n2,rfl⟩ : ∃ n2,n'=n2+1:=⟨n' - 1,by omega⟩
  exact Ar.i64 (by omega) ⟨_,by omega,n2,by omega,rfl,by omega,by omega,by rw [<- hn',down_yes (P:=fun x=>sLt d3[a]! x) (by omega) hl],h7.drew⟩
 rintro _ j2 w9 ⟨n',rfl,b1,b2,hn',h9⟩
 rw [Sort.partEqLoop_eq,<- hm,<- hn'] at hr3
 refine If.dec (fun hgt=>?_) fun hle=>?_
 .rw [if_pos (by omega)] at hr3
  have:=k w9 (by rw [<- hr3]; exact h9)
  rw [<- hr3] at this; exact this
 rw [if_neg (by omega)] at hr3
 refine ⟨fun _=>True,trivial,swap2E (fun _=>trivial) h9 n' m' rfl rfl (by omega) (by omega) fun w11 h11=>Ar.i64 (by omega) (Ar.i64 (by omega) ?_)⟩
 rw [swp_sym] at h11
 exact ⟨_,by omega,m'+1,n' - 1,_,by omega,by omega,rfl,by omega,by omega,by omega,by omega,hr3,h11⟩
theorem sorted_yes{d:Array Int}{b i:Nat}(h:i < b)(hp:sLt d[i]! d[i - 1]! = false):Sort.scanSorted sLt d b i=Sort.scanSorted sLt d b (i+1):=by
 rw [Sort.scanSorted,if_pos (by rw [hp]; simp [h])]
theorem sorted_no{d:Array Int}{b i:Nat}(h:i < b->sLt d[i]! d[i - 1]! = true):Sort.scanSorted sLt d b i=i:=by
 rw [Sort.scanSorted,if_neg (by
  rw [Bool.and_eq_true,decide_eq_true_eq]
  rintro ⟨h1,h2⟩
  rw [h h1] at h2; cases h2)]
set_option maxHeartbeats 2000000 in
theorem partialIns_specE{a b:Nat}{K:Bool->Wd->Prop}(h:SqE w0 base e s d w)(hab:a < b)(hb:b<=d.size)(hn:d.size<=65535)(k:∀ w',SqE w0 base e s (Sort.partialInsertionSort sLt d a b).1 w'->K (Sort.partialInsertionSort sLt d a b).2 w'):C_slices_partialInsertionSortOrdered_uint32 s a b w K:=by
 apply S_slices_partialInsertionSortOrdered_uint32
 unfold Sort.partialInsertionSort at k
 have hsz:=h.sz
 generalize hres:Sort.partialIns sLt a b 5 (a+1) d=res at k
 refine Ar.i64 (by omega) ⟨fun q i j w'=>∃ (m t:Nat) (d':Array Int),i=m/\j=5 - (t:Int)/\t<=5/\q=t/\a+1<=m/\m<=b/\Sort.partialIns sLt a b t m d'=res/\SqE w0 base e s d' w',⟨_,a+1,5,d,by omega,rfl,Nat.le_refl _,rfl,by omega,by omega,hres,h⟩,?_⟩
 rintro _ m0 i j w1 ⟨m,t,d1,rfl,rfl,ht,hm0,a1,a2,he,h1⟩
 have hs1:=h1.sz
 refine If.dec (fun hj5=>?_) fun hj5=>?_
 rotate_left
 .have ht0:t=0:=by omega
  subst ht0
  have he':(d1,false)=res:=he
  have:=k w1 (by rw [<- he']; exact h1)
  rw [<- he'] at this; exact this
 obtain ⟨t,rfl⟩ : ∃ t',t=t'+1:=⟨t - 1,by omega⟩
 rw [Sort.partialIns_succ] at he
 refine ⟨fun i' w'=>∃ m':Nat,i'=m'/\a+1<=m'/\m'<=b/\m'=Sort.scanSorted sLt d1 b m/\SqE w0 base e s d1 w',⟨fun q i' w'=>∃ m':Nat,i'=m'/\q=b - m'/\a+1<=m'/\m'<=b/\Sort.scanSorted sLt d1 b m'=Sort.scanSorted sLt d1 b m/\SqE w0 base e s d1 w',⟨_,m,rfl,rfl,a1,a2,rfl,h1⟩,?_⟩,?_⟩
 .rintro _ m1 i1 w2 ⟨m',rfl,hm1,c1,c2,hm,h2⟩
  refine ⟨Ext No w2,(Ext.refl _ _).drew,If.dec (fun hib=>h2.rd m' rfl (by omega) (Ar.i64 (by omega) (h2.rd (m' - 1) (by omega) (by omega) (lessE ⟨(Ext.refl _ _).drew,If.not (If.cases (fun hl=>⟨m',rfl,c1,c2,by rw [<- hm,sorted_no fun _=>hl],h2.drew⟩) fun hl=>Ar.i64 (by omega) ⟨_,by omega,m'+1,by omega,rfl,by omega,by omega,by rw [<- hm,sorted_yes (i:=m') (by omega) hl],h2.drew⟩)⟩)))) fun hib=>⟨m',rfl,c1,c2,by rw [<- hm,sorted_no fun h=>by omega],h2.drew⟩⟩
 rintro _ i2 w4 ⟨m',rfl,c1,c2,hm,h4⟩
 rw [<- hm] at he
 refine If.beq (fun hib=>?_) fun hib=>Ar.i64 (by omega) (If.dec (fun h50=>?_) fun h50=>?_)
 .rw [if_pos (by omega)] at he
  have:=k w4 (by rw [<- he]; exact h4)
  rw [<- he] at this; exact this
 .rw [if_neg (by omega),if_pos (by omega)] at he
  have:=k w4 (by rw [<- he]; exact h4)
  rw [<- he] at this; exact this
 rw [if_neg (by omega),if_neg (by omega)] at he
 refine ⟨fun _=>True,trivial,Ar.i64 (by omega) (Ar.i64 (by omega) (swap2E (fun _=>trivial) h4 (m' - 1) m' (by omega) rfl (by omega) (by omega) fun w6 h6=>?_))⟩
 rw [swp_sym] at h6
 generalize Sort.swp d1 m' (m' - 1)=d6 at h6 he
 have hs6:=h6.sz
 refine ⟨fun w'=>SqE w0 base e s (Sort.fixDown sLt a m' d6) w',Ar.i64 (by omega) (If.dec (fun hg=>Ar.i64 (by omega) ?_) fun hg=>by unfold Sort.fixDown; rw [if_neg (by omega)]; exact h6),?_⟩
 .unfold Sort.fixDown
  rw [if_pos (by omega)]
  generalize hres2:Sort.shiftDown sLt (m' - 1) d6=res2
  refine ⟨fun q j1 w'=>∃ (n:Nat) (d':Array Int),j1=n/\q=n/\n < b/\Sort.shiftDown sLt n d'=res2/\SqE w0 base e s d' w',⟨_,m' - 1,d6,by omega,rfl,by omega,hres2,h6⟩,?_⟩
  rintro _ m1 j1 w7 ⟨n,d7,rfl,hm1,b2,hr7,h7⟩
  have hs7:=h7.sz
  refine If.dec (fun hj1=>?_) fun hj1=>?_
  .obtain ⟨n,rfl⟩ : ∃ n',n=n'+1:=⟨n - 1,by omega⟩
   rw [Sort.shiftDown] at hr7
   refine ⟨Ext No w7,(Ext.refl _ _).drew,h7.rd (n+1) rfl (by omega) (Ar.i64 (by omega) (h7.rd n (by omega) (by omega) (lessE ⟨(Ext.refl _ _).drew,If.not (If.cases (fun hl=>?_) fun hl=>?_)⟩)))⟩
   .rw [hl] at hr7
    simp only [Bool.not_true,Bool.false_eq_true,if_false] at hr7
    refine ⟨fun _=>True,trivial,Ar.i64 (by omega) (Ar.i64 (by omega) (swap2E (fun _=>trivial) h7.drew n (n+1) (by omega) rfl (by omega) (by omega) fun w10 h10=>Ar.i64 (by omega) ⟨_,by omega,n,_,by omega,rfl,by omega,by rw [swp_sym]; exact hr7,h10⟩))⟩
   .rw [hl] at hr7
    simp only [Bool.not_false,if_true] at hr7
    rw [<- hr7]; exact h7.drew
  .have hn0:n=0:=by omega
   subst hn0
   have hr8:d7=res2:=hr7
   rw [<- hr8]; exact h7
 rintro _ w11 h11
 generalize Sort.fixDown sLt a m' d6=d11 at h11 he
 have hs11:=h11.sz
 have out:∀{w':Wd}{d':Array Int},SqE w0 base e s d' w'->Sort.partialIns sLt a b t m' d'=res->Ar .i64 ((5 - ((t+1:Nat):Int))+1) fun z=>∃ m1,m1 < m0/\∃ (m t:Nat) (d':Array Int),(m':Int)=m/\z=5 - (t:Int)/\t<=5/\m1=t/\a+1<=m/\m<=b/\Sort.partialIns sLt a b t m d'=res/\SqE w0 base e s d' w':=fun {w' d'} h' hp=>Ar.i64 (by omega) ⟨_,by omega,m',t,d',rfl,by omega,by omega,rfl,c1,c2,hp,h'⟩
 refine Ar.i64 (by omega) (If.dec (fun hg=>Ar.i64 (by omega) ?_) fun hg=>out h11 (by unfold Sort.fixUp at he; rw [if_neg (by omega)] at he; exact he))
 unfold Sort.fixUp at he
 rw [if_pos (by omega)] at he
 generalize hres2:Sort.shiftUp sLt b (m'+1) d11=res2 at he
 refine ⟨fun q j2 w'=>∃ (n:Nat) (d':Array Int),j2=n/\q=b - n/\a+1<=n/\n<=b/\Sort.shiftUp sLt b n d'=res2/\SqE w0 base e s d' w',⟨_,m'+1,d11,by omega,rfl,by omega,by omega,hres2,h11⟩,?_⟩
 rintro _ m1 j2 w12 ⟨n,d12,rfl,hm1,b1,b2,hr12,h12⟩
 have hs12:=h12.sz
 rw [Sort.shiftUp] at hr12
 refine If.dec (fun hj2=>?_) fun hj2=>?_
 .rw [if_pos (by omega)] at hr12
  refine ⟨Ext No w12,(Ext.refl _ _).drew,h12.rd n rfl (by omega) (Ar.i64 (by omega) (h12.rd (n - 1) (by omega) (by omega) (lessE ⟨(Ext.refl _ _).drew,If.not (If.cases (fun hl=>?_) fun hl=>?_)⟩)))⟩
  .rw [hl] at hr12
   simp only [Bool.not_true,Bool.false_eq_true,if_false] at hr12
   exact ⟨fun _=>True,trivial,Ar.i64 (by omega) (Ar.i64 (by omega) (swap2E (fun _=>trivial) h12.drew (n - 1) n (by omega) rfl (by omega) (by omega) fun w15 h15=>Ar.i64 (by omega) ⟨_,by omega,n+1,_,by omega,rfl,by omega,by omega,by rw [swp_sym]; exact hr12,h15⟩))⟩
  .rw [hl] at hr12
   simp only [Bool.not_false,if_true] at hr12
   exact out (by rw [<- hr12] at *; exact h12.drew) (by rw [hr12]; exact he)
 .rw [if_neg (by omega)] at hr12
  exact out h12 (by rw [hr12]; exact he)
end
section
variable {w0 w:Wd} {base:Nat} {e:TypeId} {s:Sl} {d:Array Int}
theorem SqE.rdA{i:Int}{K:Int->Prop}(h:SqE w0 base e s d w)(h0:0<=i)(h1:i < d.size)(k:∀ v,K v):Ix s.a s.len i 1 fun a=>∃ vv:Int,Held (Ext No w) a (.int .u32 vv)/\K vv:=h.rd i.toNat (by omega) (by omega) (k _)
theorem SqE.drewA{w':Wd}(h:SqE w0 base e s d w)(x:Ext No (drewW w) w'):SqE w0 base e s d w':=h.no x.drew_left
theorem swpP{d d':Array Int}{a b i j:Nat}(h:Sort.PermIn a b d d')(hb:b<=d.size)(h1:a<=i)(h2:i < b)(h3:a<=j)(h4:j < b):Sort.PermIn a b d (Sort.swp d' i j) :=
 Sort.permIn_trans _ _ _ a b h (Sort.swp_permIn d' a b i j h1 h2 h3 h4 (by rw [h.1]; exact hb))
theorem reverseRange_specE{a b:Nat}{K:Wd->Prop}(h:SqE w0 base e s d w)(hab:a<=b)(hb:b<=d.size)(hn:d.size<=65535)(k:∀ d' w',Sort.PermIn a b d d'->SqE w0 base e s d' w'->K w'):C_slices_reverseRangeOrdered_uint32 s a b w K:=by
 apply S_slices_reverseRangeOrdered_uint32
 refine Ar.i64 (by omega) ⟨fun q i j w'=>∃ (m:Nat) (d':Array Int),i=m/\q=(j+1 - i).toNat/\a<=m/\m<=b /\ -1<=j/\j < b/\Sort.PermIn a b d d'/\SqE w0 base e s d' w',⟨_,a,d,rfl,rfl,Nat.le_refl _,hab,by omega,by omega,Sort.permIn_refl d a b,h⟩,?_⟩
 rintro _ m0 i j w1 ⟨m,d1,rfl,hm,hi,hi2,hj,hj2,hp,h1⟩
 refine If.dec (fun hij=>?_) fun _=>k d1 w1 hp h1
 have hs:=hp.1
 exact ⟨fun _=>True,trivial,swap2E (fun _=>trivial) h1 j.toNat m (by omega) rfl (by omega) (by omega) fun w3 h3=>Ar.i64 (by omega) (Ar.i64 (by omega) ⟨_,by omega,m+1,_,by omega,rfl,by omega,by omega,by omega,by omega,swpP hp hb (by omega) (by omega) (by omega) (by omega),h3⟩)⟩
theorem breakPatterns_specE{a b:Nat}{K:Wd->Prop}(h:SqE w0 base e s d w)(hw:w0.heap.size<=w.heap.size)(hab:a<=b)(hb:b<=d.size)(hn:d.size<=65535)(k:∀ d' w',Sort.PermIn a b d d'->SqE w0 base e s d' w'->K w'):C_slices_breakPatternsOrdered_uint32 s a b w K:=by
 apply S_slices_breakPatternsOrdered_uint32
 have q:Int.tdiv ((b:Int) - a) 4=((b:Int) - a) / 4:=Int.tdiv_eq_ediv_of_nonneg (by omega)
 refine Ar.i64 (by omega) (If.dec (fun h8=>Ar.u64 (by omega) (NewW.mk fun b1 w1 n1=>St1.mk n1.get (by simp) rfl fun w2 h2=>?_)) fun _=>k d w (Sort.permIn_refl d a b) h)
 have hb1:=n1.at_; have z1:=n1.size
 have x12:Ext (·=b1) w1 w2:=h2.ext
 have g2:w2.heap[b1]? = some (.cells [.int .u64 ((b:Int) - a)].toArray 299 (0,0)):=h2.get n1.get
 have x02:Ext No w w2:=n1.ext.trans x12 fun q hq h=>by omega
 have sq2:=h.no x02
 have nbs:s.blk≠some b1:=fun hs=>by have:=h.own.lt hs; omega
 refine nextPow_spec (by omega) (by omega) fun p hp1 hp2=>⟨by decide,?_⟩
 simp only [q]
 refine Ar.i64 (by omega) (Ar.i64 (by omega) (Ar.i64 (by omega) (Ar.i64 (by omega) ⟨fun q i w'=>q=((b:Int)+1 - i).toNat/\(a:Int)<=i/\i<=(a:Int)+((b:Int) - a) / 4 * 2+2/\∃ d',Sort.PermIn a b d d'/\SqE w0 base e s d' w'/\∃ v,w'.heap[b1]? = some (.cells [.int .u64 v].toArray 299 (0,0)),⟨_,rfl,by omega,by omega,d,Sort.permIn_refl d a b,sq2,_,g2⟩,?_⟩)))
 rintro _ m0 i w4 ⟨hm,hi,hi2,d4,hp4,h4,v,g4⟩
 have hs4:=hp4.1
 refine ⟨by decide,Ar.i64 (by omega) (Ar.i64 (by omega) (Ar.i64 (by omega) (Ar.i64 (by omega) (If.dec (fun hle=>?_) fun _=>k d4 w4 hp4 h4))))⟩
 refine xorshift_spec g4 fun v' w5 g5 x5=>Ar.u64 (by omega) (Nm.mk ?_)
 have hand:=and_le (x:=v') (y:=p - 1) (by omega) (by omega)
 have sq5:SqE w0 base e s d4 w5:=⟨h4.own.ext x5 fun q hq h'=>nbs (by rw [hq,h']),h4.ext.trans x5 fun q hq h'=>by omega⟩
 refine Ar.i64 (by omega) ⟨fun o w'=>0<=o/\o < (b:Int) - a/\w'=w5,If.dec (fun _=>Ar.i64 (by omega) ⟨by omega,by omega,rfl⟩) fun _=>⟨by omega,by omega,rfl⟩,?_⟩
 rintro _ o w6 ⟨ho1,ho2,rfl⟩
 refine ⟨fun _=>True,trivial,Ar.i64 (by omega) (Ar.i64 (by omega) (swap2E (fun _=>trivial) (⟨sq5.own,Ext.refl _ _⟩ : SqE _ base e s d4 _) (a+o.toNat) i.toNat (by omega) (by omega) (by omega) (by omega) fun w8 h8'=>Ar.i64 (by omega) ⟨_,by omega,rfl,by omega,by omega,_,swpP hp4 hb (by omega) (by omega) (by omega) (by omega),⟨h8'.own,sq5.ext.trans h8'.ext fun _ _ h=>h⟩,v',get_ext g5 h8'.ext nbs⟩))⟩
structure SwE(w0:Wd)(base:Nat)(e:TypeId)(s:Sl)(d:Array Int)(b1:Nat)(w:Wd):Prop where
 sq:SqE w0 base e s d w
 g:∃ v,w.heap[b1]? = some (.cells [.int .i64 v].toArray 3 (0,0))
theorem order2_specE{b1:Nat}{a b:Int}{K:Int->Int->Wd->Prop}(h:SwE w0 base e s d b1 w)(hb1:w0.heap.size<=b1)(nbs:s.blk≠some b1)(a0:0<=a)(a1:a < d.size)(b0:0<=b)(b2:b < d.size)(k:∀ r0 r1 w',(r0=a/\r1=b∨r0=b/\r1=a)->SwE w0 base e s d b1 w'->K r0 r1 w'):C_slices_order2Ordered_uint32 s a b (some ⟨b1,0,none⟩) w K:=by
 apply S_slices_order2Ordered_uint32
 obtain ⟨hs,v,g⟩:=h
 refine ⟨Ext No w,(Ext.refl _ _).drew,hs.rdA b0 b2 fun x=>hs.rdA a0 a1 fun y=>lessU fun r w1 x1=>⟨x1.drew_left,?_⟩⟩
 have g1:=get_no g x1.drew_left
 have s1:=hs.drewA x1
 refine If.cases (fun _=>⟨_,rfl,_,Cell.lst g1 rfl,Ar.any fun z=>⟨_,rfl,St1.mk g1 (by simp) rfl fun w2 h2=>?_⟩⟩) fun _=>k _ _ _ (.inl ⟨rfl,rfl⟩) ⟨s1,v,g1⟩
 have x2:Ext (·=b1) w1 w2:=h2.ext
 refine k _ _ _ (.inr ⟨rfl,rfl⟩) ⟨?_,z,h2.get g1⟩
 exact ⟨s1.own.ext x2 fun q hq h'=>nbs (by rw [hq,h']),s1.ext.trans x2 fun q hq h'=>by omega⟩
theorem median_specE{b1:Nat}{a b c lo hi:Int}{K:Int->Wd->Prop}(h:SwE w0 base e s d b1 w)(hb1:w0.heap.size<=b1)(nbs:s.blk≠some b1)(l0:0<=lo)(hin:hi<=d.size)(ha:lo<=a/\a < hi)(hb:lo<=b/\b < hi)(hcc:lo<=c/\c < hi)(k:∀ r w',lo<=r/\r < hi->SwE w0 base e s d b1 w'->K r w'):C_slices_medianOrdered_uint32 s a b c (some ⟨b1,0,none⟩) w K:=by
 apply S_slices_medianOrdered_uint32
 refine order2_specE h hb1 nbs (by omega) (by omega) (by omega) (by omega) fun r0 r1 w1 e1 h1=>?_
 refine order2_specE h1 hb1 nbs (by omega) (by omega) (by omega) (by omega) fun r2 r3 w2 e2 h2=>?_
 refine order2_specE h2 hb1 nbs (by omega) (by omega) (by omega) (by omega) fun r4 r5 w3 e3 h3=>k _ _ (by omega) h3
theorem medianAdj_specE{b1:Nat}{a lo hi:Int}{K:Int->Wd->Prop}(h:SwE w0 base e s d b1 w)(hb1:w0.heap.size<=b1)(nbs:s.blk≠some b1)(l0:0<=lo)(hin:hi<=d.size)(hn:d.size<=65535)(ha:lo+1<=a/\a+1 < hi)(k:∀ r w',lo<=r/\r < hi->SwE w0 base e s d b1 w'->K r w'):C_slices_medianAdjacentOrdered_uint32 s a (some ⟨b1,0,none⟩) w K:=by
 apply S_slices_medianAdjacentOrdered_uint32
 exact Ar.i64 (by omega) (Ar.i64 (by omega) (median_specE h hb1 nbs l0 hin (by omega) (by omega) (by omega) k))
theorem choosePivot_specE{a b:Int}{K:Int->Int->Wd->Prop}(h:SqE w0 base e s d w)(hw:w0.heap.size<=w.heap.size)(h0:0<=a)(hab:a < b)(hb:b<=d.size)(hn:d.size<=65535)(k:∀ r hint w',a<=r/\r < b->SqE w0 base e s d w'->K r hint w'):C_slices_choosePivotOrdered_uint32 s a b w K:=by
 apply S_slices_choosePivotOrdered_uint32
 have q:Int.tdiv (b - a) 4=(b - a) / 4:=Int.tdiv_eq_ediv_of_nonneg (by omega)
 refine Ar.i64 (by omega) (NewW.mk fun b1 w1 n1=>⟨by decide,?_⟩)
 have hb1:=n1.at_
 have nbs:s.blk≠some b1:=fun hs=>by
  have:=h.own.lt hs; omega
 have sw1:SwE w0 base e s d b1 w1:=⟨h.no n1.ext,0,n1.get⟩
 simp only [q]
 refine Ar.i64 (by omega) (Ar.i64 (by omega) (Ar.i64 (by omega) ⟨by decide,Ar.i64 (by omega) (Ar.i64 (by omega) (Ar.i64 (by omega) ⟨by decide,Ar.i64 (by omega) (Ar.i64 (by omega) (Ar.i64 (by omega) ?_))⟩))⟩))
 refine ⟨fun j w'=>a<=j/\j < b/\SwE w0 base e s d b1 w',If.dec (fun h8=>?_) fun _=>⟨by omega,by omega,sw1⟩,?_⟩
 .refine If.dec (fun h50=>?_) fun _=>median_specE (lo:=a) (hi:=b) sw1 (by omega) nbs h0 hb (by omega) (by omega) (by omega) fun r w6 hr s6=>⟨hr.1,hr.2,s6⟩
  exact medianAdj_specE (lo:=a) (hi:=b) sw1 (by omega) nbs h0 hb hn (by omega) fun r w2 hr s2=>medianAdj_specE (lo:=a) (hi:=b) s2 (by omega) nbs h0 hb hn (by omega) fun r1 w3 hr1 s3=>medianAdj_specE (lo:=a) (hi:=b) s3 (by omega) nbs h0 hb hn (by omega) fun r2 w4 hr2 s4=>median_specE (lo:=a) (hi:=b) s4 (by omega) nbs h0 hb hr hr1 hr2 fun r w6 hr s6=>⟨hr.1,hr.2,s6⟩
 .rintro _ j w7 ⟨hj1,hj2,s7,v,g7⟩
  exact ⟨_,Cell.lst g7 rfl,If.beq (fun _=>k _ _ _ ⟨hj1,hj2⟩ s7) fun _=>If.beq (fun _=>k _ _ _ ⟨hj1,hj2⟩ s7) fun _=>k _ _ _ ⟨hj1,hj2⟩ s7⟩
abbrev Done(a b:Nat)(d R:Array Int):Prop:=Sort.PermIn a b d R/\Sort.SortedIn sLt a b R
structure Part(a b:Nat)(d:Array Int)(m n:Nat)(d':Array Int):Prop where
 mn:m<=n
 am:a<=m
 nb:n<=b
 sz:d'.size=d.size
 bel:Sort.Below sLt m n d'
 fin:∀ R,Done m n d' R->Done a b d R
theorem Part.step{a b m n:Nat}{d d1 d2:Array Int}(h:Part a b d m n d1)(hb:b<=d.size)(p:Sort.PermIn m n d1 d2):Part a b d m n d2 :=
 ⟨h.mn,h.am,h.nb,p.1.trans h.sz,h.bel.perm (by have:=h.sz; have:=h.nb; omega) p,fun R hR=>h.fin R ⟨Sort.permIn_trans _ _ _ _ _ p hR.1,hR.2⟩⟩
theorem pdq_specE:∀(N:Nat){a b:Nat}{limit:Int}{d:Array Int}{w:Wd}{K:Wd->Prop},SqE w0 base e s d w->a<=b->b<=d.size->d.size<=65535->b - a<=N->Sort.Below sLt a b d->(∀ d' w',Done a b d d'->SqE w0 base e s d' w'->K w')->C_slices_pdqsortOrdered_uint32 s a b limit w K
 | N,a,b,limit,d,w,K,h,hab,hb,hn,hN,hB,k=>by
  apply S_slices_pdqsortOrdered_uint32
  have hsz:∀{d w'},SqE w0 base e s d w'->w0.heap.size<=w'.heap.size:=fun h=>h.ext.size
  refine ⟨fun q a' b' _ _ _ w'=>∃ (m n:Nat) (d':Array Int),a'=m/\b'=n/\q=n - m/\Part a b d m n d'/\SqE w0 base e s d' w',⟨_,a,b,d,rfl,rfl,rfl,⟨hab,Nat.le_refl _,Nat.le_refl _,rfl,hB,fun R h=>h⟩,h⟩,?_⟩
  rintro _ m0 _ _ lim wb wp w1 ⟨m,n,d1,rfl,rfl,hm,p1,h1⟩
  have hmn:=p1.mn; have ham:=p1.am; have hnb:=p1.nb; have hs1:=p1.sz
  refine Ar.i64 (by omega) (If.dec (fun h12=>insertion_specE h1 (by omega) (by omega) (by omega) fun w2 h2=>k _ _ (p1.fin _ (Sort.insertionSort_holds Sort.swo_ltInt d1 m n hmn (by omega))) h2) fun h12=>If.beq (fun _=>heapSort_specE h1 (by omega) (by omega) (by omega) fun w3 h3=>k _ _ (p1.fin _ (Sort.heapSort_holds Sort.swo_ltInt d1 m n hmn (by omega))) h3) fun _=>?_)
  have q8:Int.tdiv ((n:Int) - m) 8=((n:Int) - m) / 8:=Int.tdiv_eq_ediv_of_nonneg (by omega)
  refine ⟨fun _ w'=>∃ d',Part a b d m n d'/\SqE w0 base e s d' w',If.not (If.cases (fun _=>⟨d1,p1,h1⟩) fun _=>breakPatterns_specE h1 (hsz h1) hmn (by omega) (by omega) fun d4 w4 hp4 h4=>Ar.any fun _=>⟨d4,p1.step hb hp4,h4⟩),?_⟩
  rintro _ lim2 w5 ⟨d5,p5,h5⟩
  have hs5:=p5.sz
  refine choosePivot_specE h5 (hsz h5) (by omega) (by omega) (by omega) (by omega) fun r0 r1 w6 hr0 h6=>?_
  refine ⟨fun p _ w'=>∃ (i:Nat) (d':Array Int),p=i/\m<=i/\i < n/\Part a b d m n d'/\SqE w0 base e s d' w',If.beq (fun _=>reverseRange_specE h6 hmn (by omega) (by omega) fun d7 w7 hp7 h7=>Ar.i64 (by omega) (Ar.i64 (by omega) (Ar.i64 (by omega) ⟨((n:Int) - 1 - (r0 - m)).toNat,d7,by omega,by omega,by omega,p5.step hb hp7,h7⟩))) fun _=>⟨r0.toNat,d5,by omega,by omega,by omega,p5,h6⟩,?_⟩
  rintro _ _ hint w8 ⟨i,d8,rfl,hi1,hi2,p8,h8⟩
  have hs8:=p8.sz
  refine ⟨fun w'=>∃ d',Part a b d m n d'/\SqE w0 base e s d' w',If.cases (fun _=>If.cases (fun _=>If.beq (fun _=>partialIns_specE h8 (by omega) (by omega) (by omega) fun w10 h10=>?_) fun _=>⟨d8,p8,h8⟩) fun _=>⟨d8,p8,h8⟩) (fun _=>⟨d8,p8,h8⟩),?_⟩
  .have hpi:=Sort.partialInsertionSort_holds Sort.swo_ltInt d8 m n (by omega) (by omega) p8.bel
   exact If.cases (fun hc=>k _ _ (p8.fin _ ⟨hpi.1,hpi.2 hc⟩) h10) fun _=>⟨_,p8.step hb hpi.1,h10⟩
  rintro _ w11 ⟨d11,p11,h11⟩
  have hs11:=p11.sz
  refine ⟨fun a' w'=>a'=m/\SqE w0 base e s d11 w',⟨fun t w'=>(t=true->0 < m/\sLt d11[m - 1]! d11[i]! = false)/\SqE w0 base e s d11 w',⟨Ext No w11,(Ext.refl _ _).drew,If.dec (fun h0=>Ar.i64 (by omega) (h11.rd (m - 1) (by omega) (by omega) (h11.rd i rfl (by omega) (lessE ⟨(Ext.refl _ _).drew,?_⟩)))) fun _=>⟨fun h=>(Bool.false_ne_true h).elim,h11.no (Ext.refl _ _).drew⟩⟩,?_⟩,?_⟩
  .refine ⟨fun h=>⟨by omega,?_⟩,h11.drew⟩
   simpa using h
  .rintro _ t w13 ⟨ht,h13⟩
   refine If.cases (fun hc=>partitionEqual_specE h13 (by omega) (by omega) (by omega) ⟨hi1,hi2⟩ fun w14 h14=>?_) fun _=>⟨rfl,h13⟩
   obtain ⟨t0,t1⟩:=ht hc
   obtain ⟨e1,e2,e3,e4,e5⟩:=Sort.round_eq Sort.swo_ltInt (Sort.partitionEqual_holds sLt) t0 hi1 hi2 (by omega) p11.bel t1 (Prod.eta _).symm
   change m < (Sort.partitionEqual sLt d11 m n i).1 at e1
   change (Sort.partitionEqual sLt d11 m n i).1<=n at e2
   exact ⟨_,by omega,_,n,_,rfl,rfl,rfl,⟨e2,by omega,hnb,e3.trans hs11,e4,fun R hR=>p11.fin R (e5 R hR.1 hR.2)⟩,h14⟩
  rintro _ a4 w15 ⟨rfl,h15⟩
  refine partition_specE h15 (by omega) (by omega) (by omega) ⟨hi1,hi2⟩ fun dd w16 h16=>?_
  obtain ⟨g1,g2,g3,g4,g5,gl,gr⟩:=Sort.round_part (ap:=(Sort.partition sLt d11 m n i).2.1) (d4:=(Sort.partition sLt d11 m n i).2.2) (mid:=(Sort.partition sLt d11 m n i).1) Sort.swo_ltInt (Sort.partition_holds sLt) hi1 hi2 (by omega) p11.bel rfl
  generalize (Sort.partition sLt d11 m n i).1=mid at g1 g2 g4 g5 gl gr ⊢
  generalize (Sort.partition sLt d11 m n i).2.2=d16 at g3 g4 g5 gl gr h16
  refine Ar.i64 (by omega) (Ar.i64 (by omega) ⟨by decide,?_⟩)
  rw [q8]
  refine Ar.i64 (by omega) (If.dec (fun _=>?_) fun _=>Ar.i64 (by omega) ?_)
  .match N,hN with
   | 0,hN=>omega
   | N+1,hN =>
    refine pdq_specE N h16 (by omega) (by omega) (by omega) (by omega) g4 fun d17 w17 f17 h17=>Ar.i64 (by omega) ?_
    obtain ⟨b1,b2⟩:=gl d17 f17.1 f17.2
    have z:=f17.1.1
    exact ⟨_,by omega,mid+1,n,d17,by omega,rfl,rfl,⟨by omega,by omega,hnb,by omega,b1,fun R hR=>p11.fin R (b2 R hR.1 hR.2)⟩,h17⟩
  .match N,hN with
   | 0,hN=>omega
   | N+1,hN =>
    refine pdq_specE N (a:=mid+1) h16 (by omega) (by omega) (by omega) (by omega) g5 fun d18 w18 f18 h18=>?_
    obtain ⟨b1,b2⟩:=gr d18 f18.1 f18.2
    have z:=f18.1.1
    exact ⟨_,by omega,m,mid,d18,rfl,rfl,rfl,⟨by omega,by omega,by omega,by omega,b1,fun R hR=>p11.fin R (b2 R hR.1 hR.2)⟩,h18⟩
theorem sorted_list{d:Array Int}(h:Sort.SortedIn sLt 0 d.size d):d.toList.Pairwise (·<=·):=by
 rw [List.pairwise_iff_getElem]
 intro i j hi hj hij
 have h0:=h i j (Nat.zero_le _) hij (by simpa using hj)
 simp only [Sort.ltInt,decide_eq_false_iff_not] at h0
 simp only [Array.length_toList] at hi hj
 rw [getE hi,getE hj]
 omega
theorem sort_specE{L:List Int}{K:Wd->Prop}(o:Own w.heap base e 1 s (strsU L))(hn:L.length<=65535)(k:∀ L' w',L'.Perm L->L'.Pairwise (·<=·)->Own w'.heap base e 1 s (strsU L')->Ext (fun q=>s.blk=some q) w w'->K w'):C_slices_Sort_uint32_uint32 s w K:=by
 apply S_slices_Sort_uint32_uint32
 have hl:=o.len
 simp only [List.length_map,Nat.mul_one] at hl
 refine Ar.u64 (by omega) (bitsLen_spec (by omega) (by omega) fun r _ _=>?_)
 have hL:s.len=L.toArray.size:=by simpa using hl.symm
 rw [hL]
 refine pdq_specE (d:=L.toArray) (a:=0) (base:=base) (e:=e) L.length ⟨o,Ext.refl _ _⟩ (by omega) (Nat.le_refl _) (by simpa using hn) (by simp) (.inl rfl) fun d' w' f h'=>?_
 obtain ⟨f1,f2⟩:=f
 have e1:d'.extract 0 L.toArray.size=d':=by rw [<- f1.1]; exact Array.extract_size
 have f3:=f1.2.2
 rw [e1,Array.extract_size] at f3
 rw [<- f1.1] at f2
 exact k d'.toList w' f3 (sorted_list f2) h'.own h'.ext
end
end Go.Proofs.YtcamoanigdfihaaGreat
