/- Texts for LPlayUnlines,LPlayParses,LPlayTexts,LPlayNotes,LPlayLines, part 11. -/
import Derived.Lib.Bytealg
import Derived.Lib.IndexBytes
import Derived.Test.YtimonamjecmlcaaGreatDoorPp10
set_option maxRecDepth 100000
namespace Go.V
abbrev Bs:=List UInt8
def stB(l:Bs):ByteArray:=⟨l.toArray⟩
theorem stB_size(l:Bs):(stB l).size=l.length:=by simp [stB,ByteArray.size]
theorem stB_toList(l:Bs):(stB l).toList=l:=toList_mk l
theorem stB_data(l:Bs):(stB l).data.toList=l:=by simp [stB]
theorem stB_of(s:ByteArray):stB s.data.toList=s:=rfl
theorem stB_app(a b:Bs):stB a++stB b=stB (a++b):=by
 have h:∀ x y:ByteArray,x.data=y.data->x=y:=fun x y h=>by cases x; cases y; cases h; rfl
 apply h
 simp [stB]
theorem CutS.mk{l:Bs}{lo hi:Int}{K:ByteArray->Prop}(h0:0<=lo)(h1:lo<=hi)(h2:hi<=(l.length:Int))(k:K (stB ((l.drop lo.toNat).take (hi.toNat - lo.toNat)))):CutS (stB l) lo hi K:=by
 refine ⟨h0,h1,by rw [stB_size]; exact h2,?_⟩
 have e:(stB l).extract lo.toNat hi.toNat=stB ((l.drop lo.toNat).take (hi.toNat - lo.toNat)):=by
  have:=Lib.extract_data (stB l) lo.toNat hi.toNat
  rw [stB_data] at this
  rw [<- this,stB_of]
 rw [e]; exact k
theorem ixS{l:Bs}{i:Int}{K:UInt8->Prop}(h0:0<=i)(h1:i.toNat < l.length)(k:K (l[i.toNat])):∃ b,(0:Int)<=i/\(ByteArray.data (stB l)).toList[Int.toNat i]? = some b/\K b :=
 ⟨_,h0,by rw [stB_data]; exact List.getElem?_eq_getElem h1,k⟩
end Go.V
namespace Go.Proofs.YtimonamjecmlcaaGreatDoor
open Go.V
section
variable {w:Wd}
theorem run_ixb(s:ByteArray)(c:Int)(w:Wd):Sem.run pz (callFunc 153 #[.string s, .int .u8 c]) w = .ok (.value (.int .i64 (Lib.indexByte s.data.toList c.toNat.toUInt8))) w:=by
 rw [run_callFunc_extern Tryz.func153 (by kernel_rfl) (by kernel_rfl) (by kernel_rfl) (e:=Extern.BytealgIndexByte.indexByte) (by kernel_rfl),Lib.run_indexByteString]; rfl
theorem run_cnt(s:ByteArray)(c:Int)(w:Wd):Sem.run pz (callFunc 137 #[.string s, .int .u8 c]) w = .ok (.value (.int .i64 (Lib.countByte s.data.toList c.toNat.toUInt8))) w:=by
 rw [run_callFunc_extern Tryz.func137 (by kernel_rfl) (by kernel_rfl) (by kernel_rfl) (e:=Extern.BytealgCount.count) (by kernel_rfl),Lib.run_countString]; rfl
theorem u8_back(b:UInt8):((b.toNat:Int)).toNat.toUInt8=b:=by simp
theorem indexByte_spec{l:Bs}{c:UInt8}{K:Int->Wd->Prop}(k:K (Lib.indexByte l c) w):C_internal_stringslite_IndexByte (stB l) (c.toNat:Int) w K:=by
 apply S_internal_stringslite_IndexByte
 refine ⟨_,w,run_ixb _ _ _,?_⟩
 rw [u8_back,stB_data]; exact k
theorem indexByteS_spec{l:Bs}{c:UInt8}{K:Int->Wd->Prop}(k:K (Lib.indexByte l c) w):C_strings_IndexByte (stB l) (c.toNat:Int) w K:=by
 apply S_strings_IndexByte
 exact indexByte_spec k
theorem index_spec{l:Bs}{c:UInt8}{K:Int->Wd->Prop}(k:K (Lib.indexByte l c) w):C_strings_Index (stB l) (stB [c]) w K:=by
 apply S_strings_Index
 apply S_internal_stringslite_Index
 refine ⟨fun _=>False,⟨fun t w'=>t=([c] == l)/\w'=w,If.beq (fun h=>by rw [stB_size] at h; cases h) fun _=>⟨by rw [stB_toList,stB_toList],rfl⟩,?_⟩,fun _ _ h=>h.elim⟩
 rintro _ t w1 ⟨rfl,rfl⟩
 refine If.cases (fun h=>?_) fun _=>If.beq (fun _=>?_) fun h=>by rw [stB_size] at h; exact (h rfl).elim
 .have:l=[c]:=(eq_of_beq h).symm
  subst this
  have e:Lib.indexByte [c] c=0:=by simp [Lib.indexByte]
  rw [e] at k; exact k
 .exact ixS (l:=[c]) (Int.le_refl _) (by simp) (indexByte_spec k)
theorem count_spec{l:Bs}{c:UInt8}{K:Int->Wd->Prop}(k:K (l.count c:Nat) w):C_strings_Count (stB l) (stB [c]) w K:=by
 apply S_strings_Count
 refine If.beq (fun h=>by rw [stB_size] at h; cases h) fun _=>If.beq (fun _=>?_) fun h=>by rw [stB_size] at h; exact (h rfl).elim
 refine ixS (l:=[c]) (Int.le_refl _) (by simp) ⟨_,w,run_cnt _ _ _,?_⟩
 rw [stB_data]
 have e:([c][Int.toNat 0]'(by simp))=c:=rfl
 rw [e,u8_back]; exact k
end
end Go.Proofs.YtimonamjecmlcaaGreatDoor
namespace Go.V
def splitB(c:UInt8):Bs->List Bs
 | []=>[[]]
 | b::l=>if b=c then []::splitB c l else match splitB c l with
  | []=>[[b]]
  | x::r=>(b::x)::r
theorem splitB_ne(c:UInt8):∀ l,splitB c l≠[]
 | []=>by simp [splitB]
 | b::l=>by
  unfold splitB
  split
  .simp
  .split <;> simp
theorem splitB_len(c:UInt8):∀ l,(splitB c l).length=l.count c+1
 | []=>rfl
 | b::l=>by
  have ih:=splitB_len c l
  unfold splitB
  split
  .rename_i h; rw [List.length_cons,ih,List.count_cons,h]; simp
  .rename_i h
   have hc:(b::l).count c=l.count c:=by rw [List.count_cons]; simp [h]
   rw [hc]
   split
   .rename_i h2; exact (splitB_ne c l h2).elim
   .rename_i h2; rw [h2] at ih; simpa using ih
theorem splitB_no{c:UInt8}:∀{l:Bs},c ∉ l->splitB c l=[l]
 | [],_=>rfl
 | b::l,h=>by
  simp only [List.mem_cons,not_or] at h
  unfold splitB
  rw [if_neg (Ne.symm h.1),splitB_no h.2]
theorem splitB_at{c:UInt8}:∀{l:Bs}{i:Nat},Lib.indexByte l c=(i:Int)->i < l.length/\splitB c l=l.take i::splitB c (l.drop (i+1))
 | [],i,h=>by simp [Lib.indexByte] at h
 | b::l,i,h=>by
  unfold Lib.indexByte at h
  by_cases hb:(b == c)=true
  .rw [if_pos hb] at h
   have h0:i=0:=by omega
   subst h0
   refine ⟨by simp,?_⟩
   show splitB c (b::l)=[]::splitB c l
   rw [splitB,if_pos (eq_of_beq hb)]
  .rw [if_neg hb] at h
   split at h
   .omega
   .obtain ⟨j,rfl⟩ : ∃ j,i=j+1:=⟨i - 1,by have:=Lib.indexByte_ge l c; rename_i h2; have:Lib.indexByte l c ≠ -1:=fun e=>h2 (by rw [e]; rfl); omega⟩
    obtain ⟨h1,h2⟩:=splitB_at (c:=c) (l:=l) (i:=j) (by omega)
    refine ⟨by simpa using h1,?_⟩
    show splitB c (b::l)=(b::l.take j)::splitB c (l.drop (j+1))
    rw [splitB,if_neg (fun e=>hb (by rw [e]; simp)),h2]
theorem indexByte_no{c:UInt8}:∀{l:Bs},Lib.indexByte l c < 0->c ∉ l
 | [],_=>by simp
 | b::l,h=>by
  unfold Lib.indexByte at h
  by_cases hb:(b == c)=true
  .rw [if_pos hb] at h; omega
  .rw [if_neg hb] at h
   have hn:Lib.indexByte l c < 0:=by
    split at h
    .rename_i h2; have:=eq_of_beq h2; omega
    .omega
   simp only [List.mem_cons,not_or]
   exact ⟨fun e=>hb (by rw [e]; simp),indexByte_no hn⟩
def joinB(c:UInt8):List Bs->Bs
 | []=>[]
 | [x]=>x
 | x::y::r=>x++c::joinB c (y::r)
theorem joinB_cons(c:UInt8)(x:Bs){r:List Bs}(h:r≠[]):joinB c (x::r)=x++c::joinB c r:=by
 cases r with
 | nil=>exact (h rfl).elim
 | cons y r=>rfl
theorem joinB_split(c:UInt8):∀ l,joinB c (splitB c l)=l
 | []=>rfl
 | b::l=>by
  have ih:=joinB_split c l
  unfold splitB
  split
  .rename_i h; rw [joinB_cons c [] (splitB_ne c l),ih,h]; rfl
  .split
   .rename_i h2; exact (splitB_ne c l h2).elim
   .rename_i x r h2
    rw [h2] at ih
    cases r with
    | nil=>simp only [joinB] at ih ⊢; rw [ih]
    | cons y r=>simp only [joinB,List.cons_append] at ih ⊢; rw [ih]
theorem splitB_app{c:UInt8}:∀{x:Bs}{l:Bs},c ∉ x->splitB c (x++c::l)=x::splitB c l
 | [],l,_=>by show splitB c (c::l)=_; rw [splitB,if_pos rfl]
 | b::x,l,h=>by
  simp only [List.mem_cons,not_or] at h
  rw [List.cons_append,splitB,if_neg (Ne.symm h.1),splitB_app h.2]
theorem splitB_join{c:UInt8}:∀{W:List Bs},W≠[]->(∀ x∈W,c ∉ x)->splitB c (joinB c W)=W
 | [],h,_=>(h rfl).elim
 | [x],_,h=>splitB_no (h x (by simp))
 | x::y::r,_,h=>by
  show splitB c (x++c::joinB c (y::r))=_
  rw [splitB_app (h x (by simp)),splitB_join (by simp) fun z hz=>h z (by simp [hz])]
def strV(l:Bs):Value := .string (stB l)
abbrev strW(W:List Bs):List Value:=W.map strV
theorem strW_one(W:List Bs):∀ v∈strW W,oneC v=true:=by
 intro v hv; obtain ⟨x,_,rfl⟩:=List.mem_map.1 hv; rfl
theorem Own.pre{h:Array Obj}{base:Nat}{e:TypeId}{sz:Nat}{s:Sl}{cs:List Value}{hi:Int}{K:Sl->Prop}(o:Own h base e sz s cs)(h0:0<=hi)(h1:hi<=(s.len:Int))
  (k:∀ s',Own h base e sz s' (cs.take (hi.toNat * sz))->s'.blk=s.blk->s'.len=hi.toNat->s'.cap=s.cap->K s'):Cut s 0 hi (((s.cap:Nat):Int)) sz K:=by
 have hcap:=o.rd.cap
 have hlen:=o.len
 refine Cut.mk (Int.le_refl _) h0 (by omega) (Int.le_refl _) ?_
 rcases o.is with ⟨rfl,rfl⟩ | ⟨b,rest,ha,hle,hblk,hl,hc⟩
 .have:hi=0:=by simp at h1; omega
  subst this
  exact k _ (by simpa [cutA] using Own.nil h base e sz) (by simp [cutA]) rfl rfl
 .have e1:cutA s.a s.cap 0 sz=s.a:=by
   unfold cutA
   split
   .rfl
   .rw [ha]; simp [addr_add_none]
  have hle2:hi.toNat * sz<=s.len * sz:=Nat.mul_le_mul_right _ (by omega)
  rw [show ((s.cap:Nat):Int).toNat=s.cap from rfl,show Int.toNat 0=0 from rfl,e1,show (hi - 0).toNat=hi.toNat by omega,show (((s.cap:Nat):Int) - 0).toNat=s.cap by omega]
  refine k _ ⟨by rw [List.length_take]; simp only; omega, .inr ⟨b,cs.drop (hi.toNat * sz)++rest,ha,hle,?_,?_,by simp only; omega⟩,fun v hv=>o.cells v (List.mem_of_mem_take hv)⟩ rfl rfl rfl
  .rw [<- List.append_assoc,List.take_append_drop]; exact hblk
  .rw [<- List.append_assoc,List.take_append_drop]; exact hl
end Go.V
namespace Go.Proofs.YtimonamjecmlcaaGreatDoor
open Go.V
section
variable {w:Wd}
abbrev OwnW(h:Array Obj)(base:Nat)(s:Sl)(W:List Bs):Prop:=Own h base 9 1 s (strW W)
abbrev RdW(h:Array Obj)(s:Sl)(W:List Bs):Prop:=Rd h s 1 (strW W)
theorem RdW.len{h:Array Obj}{s:Sl}{W:List Bs}(r:RdW h s W):s.len=W.length:=by have:=Rd.len r; simp at this; exact this.symm
theorem OwnW.len{h:Array Obj}{base:Nat}{s:Sl}{W:List Bs}(r:OwnW h base s W):s.len=W.length:=RdW.len (Own.rd r)
theorem ixW{s:Sl}{W:List Bs}{i:Int}{K:Addr->Prop}(r:RdW w.heap s W)(h0:0<=i)(h1:i < (s.len:Int))(k:∀ b o (hi:i.toNat < W.length),s.blk=some b->Cell w ⟨b,o,none⟩ (strV W[i.toNat])->K ⟨b,o,none⟩):Ix s.a s.len i 1 K:=by
 have hl:=RdW.len r
 refine Ix.cell r h0 h1 fun b o v hb hv hc=>?_
 have hlt:i.toNat < W.length:=by omega
 rw [List.getElem?_map,List.getElem?_eq_getElem hlt] at hv
 cases hv
 exact k b o hlt hb hc
set_option maxHeartbeats 1000000 in
theorem split_spec{l:Bs}{c:UInt8}{K:Sl->Wd->Prop}(hl:l.length<=4000000)(k:∀ s w',OwnW w'.heap w.heap.size s (splitB c l)->Ext No w w'->K s w'):C_strings_Split (stB l) (stB [c]) w K:=by
 apply S_strings_Split
 apply S_strings_genSplit
 have hcl:l.count c<=l.length:=List.count_le_length
 refine If.no (If.cases (fun h=>by rw [stB_toList,show (⟨#[]⟩ : ByteArray).toList=[] from toList_mk []] at h; cases h) fun _=>⟨fun n w'=>n=(l.count c:Nat)+1/\w'=w,If.yes (count_spec (Ar.i64 (by omega) ⟨rfl,rfl⟩)),?_⟩)
 rintro _ n w1 ⟨rfl,rfl⟩
 rw [stB_size]
 have hmin:iMin ((l.count c:Nat)+1:Int) ((l.length:Int)+1)=(l.count c:Nat)+1:=by unfold iMin; split <;> omega
 refine Ar.i64 (by omega) (Nm.as hmin ?_)
 refine MkW.mk (by omega) (Int.le_refl _) (by omega) (by omega) fun b w2 n2=>Ar.i64 (by omega) ?_
 have en:((l.count c:Nat)+1:Int).toNat=l.count c+1:=by omega
 rw [en] at n2 ⊢
 have hb:=n2.at_; have z2:=n2.size
 have o2:OwnW w2.heap w1.heap.size ⟨some ⟨b,0,none⟩,l.count c+1,l.count c+1⟩ (List.replicate (l.count c+1) []):=by
  have:=Own.make (l:=l.count c+1) n2 (Nat.le_refl _) (by decide)
  have e:(List.replicate (l.count c+1) [Value.string ⟨#[]⟩]).flatten=strW (List.replicate (l.count c+1) []):=by
   show _=(List.replicate (l.count c+1) []).map strV
   rw [List.map_replicate]; simp [List.flatten_replicate_singleton,strV,stB]
  rw [e] at this
  exact this
 let Inv:Bs->List Bs->Wd->Prop:=fun r dn w'=>splitB c l=dn++splitB c r/\OwnW w'.heap w1.heap.size ⟨some ⟨b,0,none⟩,l.count c+1,l.count c+1⟩ (dn++List.replicate (l.count c+1 - dn.length) [])/\Ext No w1 w'/\r.length<=l.length
 have hsl:=splitB_len c l
 refine ⟨fun s i w'=>∃ (r:Bs) (dn:List Bs),s=stB r/\i=(dn.length:Nat)/\splitB c r=[r]/\Inv r dn w',⟨fun q s i w'=>∃ (r:Bs) (dn:List Bs),s=stB r/\i=(dn.length:Nat)/\q=l.count c - dn.length/\Inv r dn w',⟨_,l,[],rfl,rfl,rfl,by simp,by simpa using o2,n2.ext,Nat.le_refl _⟩,?_⟩,?_⟩
 .rintro _ m0 s i w3 ⟨r,dn,rfl,rfl,hq,hs,ho,hx,hr⟩
  have hlen:dn.length+(splitB c r).length=l.count c+1:=by have:=congrArg List.length hs; rw [List.length_append,hsl] at this; omega
  have hrl:=splitB_len c r
  refine If.dec (fun h=>index_spec (If.dec (fun h2=>?_) fun h2=>?_)) fun h=>?_
  .exact ⟨r,dn,rfl,rfl,splitB_no (indexByte_no h2),hs,ho,hx,hr⟩
  .obtain ⟨m,hm⟩ : ∃ m:Nat,Lib.indexByte r c=m:=⟨(Lib.indexByte r c).toNat,by omega⟩
   obtain ⟨h3,h4⟩:=splitB_at hm
   rw [hm]
   refine Ar.i64 (by omega) (CutS.mk (Int.le_refl _) (by omega) (by omega) ?_)
   have e1:(r.drop (0:Int).toNat).take (((m:Int)+0).toNat - (0:Int).toNat)=r.take m:=by simp
   rw [e1]
   refine St1.own ho (by omega) (by simp only; omega) rfl fun w4 o4 x4 _=>?_
   have x4':Ext (fun q=>(some b:Option Nat)=some q) w3 w4:=x4
   rw [stB_size,stB_size]
   refine Ar.i64 (by simp only [List.length_cons,List.length_nil]; omega) (CutS.mk (by simp only [List.length_cons,List.length_nil]; omega) (by simp only [List.length_cons,List.length_nil]; omega) (Int.le_refl _) (Ar.i64 (by omega) ?_))
   have e2:(r.drop ((m:Int)+(([c].length:Nat):Int)).toNat).take ((r.length:Int).toNat - ((m:Int)+(([c].length:Nat):Int)).toNat)=r.drop (m+1):=by
    have e3:((m:Int)+(([c].length:Nat):Int)).toNat=m+1:=by simp only [List.length_cons,List.length_nil]; omega
    rw [e3,Int.toNat_natCast]
    exact List.take_of_length_le (by rw [List.length_drop]; omega)
   rw [e2]
   refine ⟨_,by rw [hq,List.length_append,List.length_singleton]; omega,r.drop (m+1),dn++[r.take m],rfl,by simp,rfl,?_,?_,hx.trans x4' fun q hq h=>by cases h; omega,by rw [List.length_drop]; omega⟩
   .rw [hs,h4,List.append_assoc]; rfl
   .have e5:l.count c+1 - dn.length=(l.count c+1 - (dn.length+1))+1:=by omega
    have e6:(strW (dn++List.replicate (l.count c+1 - dn.length) [])).set dn.length (strV (r.take m))=strW (dn++[r.take m]++List.replicate (l.count c+1 - (dn.length+1)) []):=by
     rw [<- List.map_set,List.set_append_right _ _ (Nat.le_refl _),Nat.sub_self,e5,List.replicate_succ,List.set_cons_zero,List.append_assoc]; rfl
    rw [Int.toNat_natCast] at o4
    have o4':=o4
    rw [show (Value.string (stB (r.take m)))=strV (r.take m) from rfl,e6] at o4'
    rw [List.length_append,List.length_singleton]
    exact o4'
  .refine ⟨r,dn,rfl,rfl,?_,hs,ho,hx,hr⟩
   have:r.count c=0:=by omega
   exact splitB_no (List.count_eq_zero.1 this)
 .rintro _ s i w3 ⟨r,dn,rfl,rfl,h1,hs,ho,hx,hr⟩
  rw [h1] at hs
  have hlen:dn.length+1=l.count c+1:=by have:=congrArg List.length hs; rw [List.length_append,hsl] at this; simpa using this.symm
  refine St1.own ho (by omega) (by simp only; omega) rfl fun w4 o4 x4 _=>Ar.i64 (by omega) ?_
  have x4':Ext (fun q=>(some b:Option Nat)=some q) w3 w4:=x4
  have e5:l.count c+1 - dn.length=1:=by omega
  have e6:(strW (dn++List.replicate (l.count c+1 - dn.length) [])).set dn.length (strV r)=strW (splitB c l):=by
   rw [<- List.map_set,List.set_append_right _ _ (Nat.le_refl _),Nat.sub_self,e5,hs]; rfl
  rw [Int.toNat_natCast,show (Value.string (stB r))=strV r from rfl,e6] at o4
  refine Own.pre o4 (by omega) (by simp only; omega) fun s' o' _ _ _=>k s' w4 ?_ (hx.trans x4' fun q hq h=>by cases h; omega)
  rw [Nat.mul_one,List.take_of_length_le (by rw [List.length_map,hsl]; omega)] at o'
  exact o'
end
end Go.Proofs.YtimonamjecmlcaaGreatDoor
