/- Texts for LPlayUnlines,LPlayParses,LPlayTexts,LPlayNotes,LPlayLines, part 10. -/
import Derived.Laws.Strings
import Derived.Test.YtimonamjecmlcaaGreatDoorProg
import Derived.Test.YtimonamjecmlcaaGreatDoorPp9
namespace Go.V
theorem fin256{p:Int->Prop}(h:∀ x:Fin 256,p (x.val:Int)){x:Int}(hx:0<=x/\x<=255):p x:=by
 have:=h ⟨x.toNat,by omega⟩
 simpa [Int.toNat_of_nonneg hx.1] using this
theorem Held.no{w:Wd}{b o:Nat}{v:Value}(h:hcell w.heap b o=some v):Held (Ext No w) ⟨b,o,none⟩ v:=fun w' e=>by
 rw [cell_eq,hcell_congr (e.blk b (hcell_lt h) id)]; exact h
theorem Held.cell{w:Wd}{b o:Nat}{v:Value}(h:Cell w ⟨b,o,none⟩ v):Held (Ext No w) ⟨b,o,none⟩ v:=Held.no (by rw [<- cell_eq]; exact h)
theorem Held.but{S:Nat->Prop}{w:Wd}{b o:Nat}{v:Value}(h:Cell w ⟨b,o,none⟩ v)(hb:¬ S b):Held (Ext S w) ⟨b,o,none⟩ v:=fun w' e=>by
 have h':hcell w.heap b o=some v:=by rw [<- cell_eq]; exact h
 rw [cell_eq,hcell_congr (e.blk b (hcell_lt h') hb)]; exact h'
theorem Rd.lt{h:Array Obj}{s:Sl}{sz b:Nat}{cs:List Value}(r:Rd h s sz cs)(hne:cs≠[])(hb:s.blk=some b):b < h.size:=by
 obtain ⟨b',off,ha,hc⟩:=r.at_ hne
 simp [Sl.blk,ha] at hb
 subst hb
 exact hcell_lt (hc 0 (List.length_pos_iff.2 hne))
theorem St1.mk{w:Wd}{b o:Nat}{cs:List Value}{T:TypeId}{v:Value}{K:Wd->Prop}(hb:w.heap[b]? = some (.cells cs.toArray T (0,0)))(ho:o < cs.length)(hv:oneC v=true)
  (k:∀ w',Wrt w b (.cells (cs.set o v).toArray T (0,0)) w'->K w'):St1 w ⟨b,o,none⟩ v K :=
 ⟨cs.toArray,T,(0,0),hb,rfl,by simpa using ho, .inr (.inr (Nat.le_refl _)),hv,fun w' hw=>k w' hw⟩
theorem Cell.lst{w:Wd}{b o:Nat}{v:Value}{cs:List Value}{T:TypeId}{fz:Nat×Nat}(h:w.heap[b]? = some (.cells cs.toArray T fz))(hc:cs[o]? = some v):Cell w ⟨b,o,none⟩ v :=
 Cell.blk h (by simpa using hc)
def toB(l:List Int):List UInt8:=l.map fun n=>UInt8.ofNat n.toNat
theorem StrC.mk{C:Addr->Value->Prop}{w:Wd}{s:Sl}{l:List Int}{K:ByteArray->Prop}(h:Rd w.heap s 1 (l.map (Value.int .u8)))(hC:∀ b o v,hcell w.heap b o=some v->C ⟨b,o,none⟩ v)
  (k:K ⟨(toB l).toArray⟩):StrC C s K:=by
 refine ⟨toB l,⟨by simpa [toB] using h.len,fun i hi=>?_,fun hn=>?_⟩,k⟩
 .simp only [toB,List.length_map] at hi
  obtain ⟨b,off,ha,hc⟩:=h.at_ (by intro e; simp at e; subst e; simp at hi)
  refine ⟨_,l[i],ha,?_,by simp [toB]⟩
  rw [addr_add_none rfl]
  exact hC _ _ _ (by have:=hc i (by simpa using hi); rw [List.getElem_map] at this; exact this)
 .have:l=[]:=Classical.byContradiction fun hne=>by
   obtain ⟨b,off,ha,_⟩:=h.at_ (by simpa using hne)
   rw [hn] at ha; cases ha
  subst this; rfl
theorem toList_mk(bs:List UInt8):ByteArray.toList ⟨bs.toArray⟩=bs:=by
 simp [ByteArray.toList_eq]
theorem firstCells_rd{P:Program}{w:Wd}{s:Sl}{sz k:Nat}{cs:List Value}(h:Rd w.heap s sz cs)(hk:k<=s.len):(Builtin.firstCells sz k s.v).run P w = .ok (cs.take (k * sz)).toArray w:=by
 have hcut:=Rd.src (P:=P) (h.cut (lo:=0) (hi:=k) (mx:=s.cap) (Nat.zero_le _) hk (Nat.le_trans hk h.cap))
 have:=hcut.get w rfl
 simp only [Nat.zero_mul,List.drop_zero,Nat.sub_zero] at this
 rw [<- this]
 obtain ⟨a,n,c⟩:=s
 cases a with
 | none=>simp [Builtin.firstCells,cutA]
 | some a =>
  have e:a.add 0=a:=rfl
  simp [Builtin.firstCells,cutA,e]
theorem copy_at{P:Program}{t t' e:TypeId}{ie:TypeInfo}{w:Wd}{d x:Sl}{b off sz:Nat}{row xs:List Value}{T:TypeId}{K:Int->Wd->Prop}
  (ht:P.underlying t=some (.slice e)) (hi:P.info? e=some ie) (hsz:ie.size=sz) (hd:d.a=some ⟨b,off,none⟩) (hb:w.heap[b]? = some (.cells row.toArray T (0,0))) (hx:Rd w.heap x sz xs)
  (hle:off+min x.len d.len * sz<=row.length)
  (hk:∀ w',Wrt w b (.cells (setL row off (xs.take (min x.len d.len * sz))).toArray T (0,0)) w'->K (min x.len d.len:Nat) w'):CopyW P t t' d x.v K w:=by
 have hlen:(xs.take (min x.len d.len * sz)).length=min x.len d.len * sz:=by
  rw [List.length_take,hx.len]
  exact Nat.min_eq_left (Nat.mul_le_mul_right _ (Nat.min_le_left _ _))
 refine ⟨_,_,fun ty=>?_,hk _ rfl⟩
 have h1:=firstCells_rd (P:=P) hx (k:=min x.len d.len) (Nat.min_le_left _ _)
 have hst:=StN_run (P:=P) (b:=b) (T:=T) (fz:=(0,0)) (xs.take (min x.len d.len * sz)) w row.toArray off 0 hb (by simp only [hlen,List.size_toArray]; omega) (.inr (.inr (Nat.le_refl _))) (fun v hv=>hx.cells v (List.mem_of_mem_take hv))
 obtain ⟨da,dl,dc⟩:=d
 simp only at hd
 subst hd
 simp only [Nat.add_zero] at hst
 simp only at h1 hst
 have h2:(Builtin.firstCells sz (x.len.min dl) x.v).run P w = .ok (xs.take (min x.len dl * sz)).toArray w:=h1
 simp [Builtin.copy_,run_und ht,Builtin.lenOf,run_size hi,hsz,h2,hst,goInt]
theorem MkW.mk{w:Wd}{e:TypeId}{zs:List Value}{bytes:Nat}{l c:Int}{K:Sl->Wd->Prop}(h0:0<=l)(h1:l<=c)(h2:c<=9223372036854775807)(h3:bytes * c<=281474976710656)
  (k:∀ b w',New w (.cells (List.replicate c.toNat zs).flatten.toArray e) b w'->K ⟨some ⟨b,0,none⟩,l.toNat,c.toNat⟩ w'):MkW w e zs bytes l c K:=⟨h0,h1,h2,h3,fun b w' h=>k b w' h⟩
theorem Own.make{w w':Wd}{b l c:Nat}{e:TypeId}{zs:List Value}(h:New w (.cells (List.replicate c zs).flatten.toArray e) b w')(hl:l<=c)(hz:∀ v∈zs,oneC v=true) :
  Own w'.heap w.heap.size e zs.length ⟨some ⟨b,0,none⟩,l,c⟩ (List.replicate l zs).flatten:=by
 have e1:List.replicate c zs=List.replicate l zs++List.replicate (c - l) zs:=by rw [List.replicate_append_replicate]; congr 1; omega
 refine ⟨by simp, .inr ⟨b,(List.replicate (c - l) zs).flatten,rfl,by rw [h.at_]; exact Nat.le_refl _,?_,?_,hl⟩,?_⟩
 .rw [<- List.flatten_append,<- e1]; exact h.get
 .rw [<- List.flatten_append,<- e1]; simp
 .intro v hv
  simp only [List.mem_flatten,List.mem_replicate] at hv
  obtain ⟨x,⟨_,rfl⟩,hx⟩:=hv
  exact hz v hx
theorem St1.own{w:Wd}{base:Nat}{e:TypeId}{s:Sl}{cs:List Value}{i:Int}{v:Value}{K:Wd->Prop}(o:Own w.heap base e 1 s cs)(h0:0<=i)(h1:i < (s.len:Int))(hv:oneC v=true)
  (k:∀ w',Own w'.heap base e 1 s (cs.set i.toNat v)->Ext (fun b=>s.blk=some b) w w'->w'.heap.size=w.heap.size->K w'):Ix s.a s.len i 1 fun a=>St1 w a v K:=by
 have hl:cs.length=s.len:=by simpa using o.len
 rcases o.is with ⟨rfl,rfl⟩ | ⟨b,rest,ha,hle,hb,hc,hcap⟩
 .simp at h1; omega
 .refine ⟨_,ha,h0,h1,?_⟩
  rw [addr_add_none rfl]
  simp only [Nat.zero_add,Nat.mul_one]
  refine St1.mk hb (by simp; omega) hv fun w' hw=>k w' ⟨by simpa using o.len, .inr ⟨b,rest,ha,hle,?_,by simpa using hc,hcap⟩,fun u hu=>?_⟩ (hw.ext.mono fun j _ hj=>by subst hj; simp [Sl.blk,ha]) hw.size
  .rw [hw.get hb,List.set_append_left _ _ (by omega)]
  .rcases List.mem_or_eq_of_mem_set hu with h | h
   .exact o.cells u h
   .subst h; exact hv
end Go.V
set_option maxRecDepth 100000
namespace Go.Proofs.YtimonamjecmlcaaGreatDoor
open Go.V
theorem app_uint8{w:Wd}{base:Nat}{s:Sl}{x:Value}{n:Nat}{cs xs:List Value}{K:Sl->Wd->Prop}(own:Own w.heap base 5 1 s cs)(hbase:base<=w.heap.size)(src:Src pz w x 1 n xs)(hb:(s.len+n) * 1<=140737488355328)
  (hk:∀ s' w',Own w'.heap base 5 1 s' (cs++xs)->s'.len=s.len+n->Ext (fun b=>s.blk=some b) w w'->(s'.blk=s.blk∨∃ b,s'.blk=some b/\w.heap.size<=b)->K s' w'):AppW pz 25 25 s x K w :=
 app_own (P:=pz) (e:=5) (d := .slice 5) (ie:=Tryz.t5) (z:=Tryz.t5.zero.getD .nilFunc) (by kernel_rfl) (by kernel_rfl) (fun k h=>by cases h) (by kernel_rfl) (by kernel_rfl) (by kernel_rfl) (by kernel_rfl) (by decide) own hbase src hb hk
theorem copy_uint8{w:Wd}{d x:Sl}{b off:Nat}{row xs:List Value}{T:TypeId}{K:Int->Wd->Prop}(hd:d.a=some ⟨b,off,none⟩)(hb:w.heap[b]? = some (.cells row.toArray T (0,0)))(hx:Rd w.heap x 1 xs)
  (hle:off+min x.len d.len * 1<=row.length) (hk:∀ w',Wrt w b (.cells (setL row off (xs.take (min x.len d.len * 1))).toArray T (0,0)) w'->K (min x.len d.len:Nat) w'):CopyW pz 25 25 d x.v K w :=
 copy_at (P:=pz) (e:=5) (ie:=Tryz.t5) (by kernel_rfl) (by kernel_rfl) (by kernel_rfl) hd hb hx hle hk
theorem app_api_Op{w:Wd}{base:Nat}{s:Sl}{x:Value}{n:Nat}{cs xs:List Value}{K:Sl->Wd->Prop}(own:Own w.heap base 54 3 s cs)(hbase:base<=w.heap.size)(src:Src pz w x 3 n xs)(hb:(s.len+n) * 56<=140737488355328)
  (hk:∀ s' w',Own w'.heap base 54 3 s' (cs++xs)->s'.len=s.len+n->Ext (fun b=>s.blk=some b) w w'->(s'.blk=s.blk∨∃ b,s'.blk=some b/\w.heap.size<=b)->K s' w'):AppW pz 28 28 s x K w :=
 app_own (P:=pz) (e:=54) (d := .slice 54) (ie:=Tryz.t54) (z:=Tryz.t54.zero.getD .nilFunc) (by kernel_rfl) (by kernel_rfl) (fun k h=>by cases h) (by kernel_rfl) (by kernel_rfl) (by kernel_rfl) (by kernel_rfl) (by decide) own hbase src hb hk
theorem app_api_Event{w:Wd}{base:Nat}{s:Sl}{x:Value}{n:Nat}{cs xs:List Value}{K:Sl->Wd->Prop}(own:Own w.heap base 32 19 s cs)(hbase:base<=w.heap.size)(src:Src pz w x 19 n xs)(hb:(s.len+n) * 264<=140737488355328)
  (hk:∀ s' w',Own w'.heap base 32 19 s' (cs++xs)->s'.len=s.len+n->Ext (fun b=>s.blk=some b) w w'->(s'.blk=s.blk∨∃ b,s'.blk=some b/\w.heap.size<=b)->K s' w'):AppW pz 45 45 s x K w :=
 app_own (P:=pz) (e:=32) (d := .slice 32) (ie:=Tryz.t32) (z:=Tryz.t32.zero.getD .nilFunc) (by kernel_rfl) (by kernel_rfl) (fun k h=>by cases h) (by kernel_rfl) (by kernel_rfl) (by kernel_rfl) (by kernel_rfl) (by decide) own hbase src hb hk
theorem app_string{w:Wd}{base:Nat}{s:Sl}{x:Value}{n:Nat}{cs xs:List Value}{K:Sl->Wd->Prop}(own:Own w.heap base 9 1 s cs)(hbase:base<=w.heap.size)(src:Src pz w x 1 n xs)(hb:(s.len+n) * 16<=140737488355328)
  (hk:∀ s' w',Own w'.heap base 9 1 s' (cs++xs)->s'.len=s.len+n->Ext (fun b=>s.blk=some b) w w'->(s'.blk=s.blk∨∃ b,s'.blk=some b/\w.heap.size<=b)->K s' w'):AppW pz 56 56 s x K w :=
 app_own (P:=pz) (e:=9) (d := .slice 9) (ie:=Tryz.t9) (z:=Tryz.t9.zero.getD .nilFunc) (by kernel_rfl) (by kernel_rfl) (fun k h=>by cases h) (by kernel_rfl) (by kernel_rfl) (by kernel_rfl) (by kernel_rfl) (by decide) own hbase src hb hk
end Go.Proofs.YtimonamjecmlcaaGreatDoor
namespace Go.V
section
variable {α:Type} {f:α->List Value} {n:Nat}
theorem flat_len':∀{l:List α},(∀ x∈l,(f x).length=n)->(l.flatMap f).length=l.length * n
 | [],_=>by simp
 | x::l,h=>by
  rw [List.flatMap_cons,List.length_append,h x List.mem_cons_self,flat_len' fun y hy=>h y (List.mem_cons_of_mem _ hy),List.length_cons,Nat.add_mul]; omega
theorem flat_get:∀{l:List α}{i j:Nat}(_:∀ x∈l,(f x).length=n)(hi:i < l.length)(_:j < n),(l.flatMap f)[i * n+j]? = (f l[i])[j]?
 | [],i,j,_,hi,_=>by simp at hi
 | x::l,0,j,h,hi,hj=>by
  have:=h x List.mem_cons_self
  rw [List.flatMap_cons,Nat.zero_mul,Nat.zero_add,List.getElem?_append_left (by omega)]; rfl
 | x::l,i+1,j,h,hi,hj=>by
  have h1:=h x List.mem_cons_self
  have e:(i+1) * n+j=(f x).length+(i * n+j):=by rw [h1,Nat.add_mul]; omega
  rw [List.flatMap_cons,e,List.getElem?_append_right (by omega),Nat.add_sub_cancel_left,flat_get (fun y hy=>h y (List.mem_cons_of_mem _ hy)) (by simpa using hi) hj]
  rfl
theorem setL_all(vs a:List Value)(h:vs.length=a.length):setL a 0 vs=vs:=by
 rw [setL_parts _ _ _ (by omega)]; simp [h]
end
section
variable {w:Wd} {base:Nat} {e:TypeId} {sz:Nat} {s:Sl} {cs:List Value}
theorem Own.place{h:Array Obj}(o:Own h base e sz s cs)(hne:cs≠[]):∃ b rest,s.a=some ⟨b,0,none⟩/\base<=b/\h[b]? = some (.cells (cs++rest).toArray e (0,0))/\(cs++rest).length=s.cap * sz/\s.len<=s.cap:=by
 rcases o.is with ⟨_,rfl⟩ | h
 .exact absurd rfl hne
 .exact h
end
theorem Ix.elem{α:Type}{f:α->List Value}{n:Nat}{w:Wd}{s:Sl}{l:List α}{i:Int}{K:Addr->Prop}(h:Rd w.heap s n (l.flatMap f))(hf:∀ x∈l,(f x).length=n)(hn:0 < n)(h0:0<=i)(h1:i < (s.len:Int))
  (k:∀ b o (hi:i.toNat < l.length),s.blk=some b->(∀ j v,(f l[i.toNat])[j]? = some v->Cell w ⟨b,o+j,none⟩ v)->K ⟨b,o,none⟩):Ix s.a s.len i n K:=by
 have hl:l.length=s.len:=by have:=h.len; rw [flat_len' hf] at this; exact Nat.eq_of_mul_eq_mul_right hn this
 have hlt:i.toNat < l.length:=by omega
 have hfl:=flat_len' hf
 have hle:i.toNat * n+n<=(l.flatMap f).length:=by
  rw [hfl]; have:(i.toNat+1) * n<=l.length * n:=Nat.mul_le_mul_right _ (by omega)
  rw [Nat.add_mul] at this; omega
 obtain ⟨b,off,ha,hc⟩:=h.at_ (by intro e; rw [e] at hle; simp at hle; omega)
 refine ⟨_,ha,h0,h1,?_⟩
 rw [addr_add_none rfl]
 refine k b _ hlt (by simp [Sl.blk,ha]) fun j v hv=>?_
 have hj:j < n:=by
  have:=hf _ (List.getElem_mem hlt)
  rcases Nat.lt_or_ge j n with h | h
  .exact h
  .rw [List.getElem?_eq_none (by omega)] at hv; cases hv
 have hg:=flat_get (i:=i.toNat) (j:=j) hf hlt hj
 rw [hv] at hg
 obtain ⟨hlt2,hval⟩:=List.getElem?_eq_some_iff.1 hg
 refine Cell.mk ?_
 simp only
 rw [Nat.add_assoc,hc _ hlt2,hval]
variable {α:Type} [DecidableEq α]
def findA(a:α):List (α×Value)->Nat->Option (Nat×Value)
 | [],_=>none
 | p::m,i=>if a=p.1 then some (i,p.2) else findA a m (i+1)
def getA(a:α):List (α×Value)->Option Value
 | []=>none
 | p::m=>if a=p.1 then some p.2 else getA a m
def putA(a:α)(v:Value):List (α×Value)->List (α×Value)
 | []=>[(a,v)]
 | p::m=>if a=p.1 then (a,v)::m else p::putA a v m
def delA(a:α):List (α×Value)->List (α×Value)
 | []=>[]
 | p::m=>if a=p.1 then m else p::delA a m
structure KeyOK(P:Program)(kt:TypeId)(enc:α->Value):Prop where
 ck:∀ b a w,(Instr.checkKey b 10000 kt (enc a)).run P w = .ok () w
 fk:∀ a (es:List MapEntry) (m:List (α×Value)) w,es.map (fun e=>(e.key,e.val))=m.map (fun p=>(enc p.1,p.2))->(Instr.findKey kt (enc a) es).run P w = .ok (findA a m 0) w
 st:∀ a,Instr.sameBits 10000 (enc a) (enc a)=true
def BornOK(es:List MapEntry)(clock:Nat):Prop:=(es.map (·.born)).Nodup/\∀ e∈es,e.born < clock
theorem BornOK.nil:BornOK [] 0:=⟨.nil,fun _ h=>nomatch h⟩
theorem BornOK.push{es:List MapEntry}{clock:Nat}(h:BornOK es clock)(k v:Value):BornOK (es++[{ key:=k,val:=v,born:=clock }]) (clock+1):=by
 refine ⟨?_,fun e he=>?_⟩
 .rw [List.map_append]
  refine List.nodup_append.2 ⟨h.1,by simp,fun a ha b hb=>?_⟩
  simp only [List.map_cons,List.map_nil,List.mem_singleton] at hb
  obtain ⟨e,he,rfl⟩:=List.mem_map.1 ha
  have:=h.2 e he; omega
 .rcases List.mem_append.1 he with h1 | h1
  .have:=h.2 e h1; omega
  .rw [List.mem_singleton] at h1; subst h1; exact Nat.lt_succ_self _
theorem BornOK.as{es es':List MapEntry}{clock:Nat}(h:BornOK es clock)(e:es'.map (·.born)=es.map (·.born)):BornOK es' clock:=by
 refine ⟨e ▸ h.1,fun x hx=>?_⟩
 have:x.born∈es.map (·.born):=e ▸ List.mem_map.2 ⟨x,hx,rfl⟩
 obtain ⟨y,hy,hb⟩:=List.mem_map.1 this
 rw [<- hb]; exact h.2 y hy
def MapR(h:Array Obj)(enc:α->Value)(r:Nat)(m:List (α×Value)):Prop:=∃ es clock,h[r]? = some (.map es clock)/\es.toList.map (fun e=>(e.key,e.val))=m.map (fun p=>(enc p.1,p.2))/\BornOK es.toList clock
theorem findA_get(a:α):∀(m:List (α×Value))(i:Nat),(findA a m i).map Prod.snd=getA a m
 | [],_=>rfl
 | p::m,i=>by
  unfold findA getA
  split
  .rfl
  .exact findA_get a m (i+1)
theorem findA_none{a:α}{v:Value}:∀{m:List (α×Value)}{i:Nat},findA a m i=none->putA a v m=m++[(a,v)]/\delA a m=m
 | [],_,_=>⟨rfl,rfl⟩
 | p::m,i,h=>by
  unfold findA at h
  split at h
  .cases h
  .rename_i hn
   have:=findA_none (v:=v) h
   unfold putA delA
   rw [if_neg hn,if_neg hn,this.1,this.2]
   exact ⟨rfl,rfl⟩
theorem findA_some{a:α}:∀{m:List (α×Value)}{i j:Nat}{u v:Value},findA a m i=some (j,u)->i<=j/\j - i < m.length/\putA a v m=m.set (j - i) (a,v)/\delA a m=m.eraseIdx (j - i)/\(m[j - i]?).map Prod.fst=some a
 | [],_,_,_,_,h=>by cases h
 | p::m,i,j,u,v,h=>by
  unfold findA at h
  split at h
  .rename_i hn
   cases h
   refine ⟨Nat.le_refl _,by simp,?_,?_,?_⟩
   .unfold putA; rw [if_pos hn]; simp
   .unfold delA; rw [if_pos hn]; simp
   .simp [hn]
  .rename_i hn
   obtain ⟨h1,h2,h3,h4,h5⟩:=findA_some (v:=v) h
   have e:j - i=(j - (i+1))+1:=by omega
   refine ⟨by omega,by simp; omega,?_,?_,?_⟩
   .unfold putA; rw [if_neg hn,h3,e]; rfl
   .unfold delA; rw [if_neg hn,h4,e]; rfl
   .rw [e]; simpa using h5
section
variable {P:Program} {w:Wd} {mt kt et:TypeId} {enc:α->Value} {r:Nat} {m:List (α×Value)} {a:α}
theorem run_getMap{es:Array MapEntry}{clock:Nat}(h:w.heap[r]? = some (.map es clock)):(getObj r).run P w = .ok (.map es clock) w:=by
 simp [getObj,Sem.run,h]
theorem run_setMap{es:Array MapEntry}{clock:Nat}(o:Obj)(h:w.heap[r]? = some (.map es clock)):(setObj r o).run P w = .ok () (World.setBlk w r o):=by
 simp [setObj,Sem.run,h,World.setBlk]
theorem run_lookup(K:KeyOK P kt enc)(ht:P.underlying mt=some (.map kt et)){z:Value}(hz:(zeroValue et).run P w = .ok z w)(h:MapR w.heap enc r m):(Instr.lookup mt (.map (some r)) (enc a) false).run P w = .ok ((getA a m).getD z) w:=by
 obtain ⟨es,clock,hb,he,hB⟩:=h
 have hf:=K.fk a es.toList m w he
 have hg:=findA_get a m 0
 simp only [Instr.lookup,Sem.run_bind,run_und ht,Result.andThen_ok,run_getMap hb,K.ck,hf,Sem.run_pure]
 cases hfa:findA a m 0 with
 | none=>rw [hfa] at hg; simp [<- hg,hz]
 | some p=>rw [hfa] at hg; simp [<- hg]
theorem run_mapUpdate(K:KeyOK P kt enc)(ht:P.underlying mt=some (.map kt et)){v:Value}(h:MapR w.heap enc r m):∃ w',(Instr.mapUpdate mt (.map (some r)) (enc a) v).run P w = .ok () w'/\MapR w'.heap enc r (putA a v m)/\Ext (·=r) w w'/\w'.heap.size=w.heap.size:=by
 obtain ⟨es,clock,hb,he,hB⟩:=h
 have hf:=K.fk a es.toList m w he
 cases hfa:findA a m 0 with
 | none =>
  refine ⟨World.setBlk w r (.map (es.push { key:=enc a,val:=v,born:=clock }) (clock+1)),?_,⟨_,_,heap_setBlk hb,?_,by rw [Array.toList_push]; exact hB.push _ _⟩,Wrt.ext rfl,Wrt.size rfl⟩
  .rw [hfa] at hf
   simp [Instr.mapUpdate,run_und ht,run_getMap hb,K.ck,hf,run_setMap _ hb]
  .rw [(findA_none (v:=v) hfa).1]; simp [he]
 | some p =>
  obtain ⟨j,u⟩:=p
  obtain ⟨_,h2,h3,_,h5⟩:=findA_some (v:=v) hfa
  simp only [Nat.sub_zero] at h2 h3 h5
  have hl:es.size=m.length:=by have:=congrArg List.length he; simpa using this
  have hk:((es[j]?).map (·.key)).getD (enc a)=enc a:=by
   have:=congrArg (fun l=>(l[j]?).map Prod.fst) he
   simp only [List.getElem?_map,Option.map_map] at this
   have e2:Option.map (fun x=>enc x.1) m[j]? = some (enc a):=by
    cases hm:m[j]? with
    | none=>rw [hm] at h5; cases h5
    | some q=>rw [hm] at h5; simp only [Option.map_some,Option.some.injEq] at h5 ⊢; rw [h5]
   have e3:Option.map (·.key) es[j]? = some (enc a):=by
    rw [<- e2]
    simpa [Function.comp_def] using this
   rw [e3]; rfl
  refine ⟨World.setBlk w r (.map (es.modify j fun e=>{ e with key:=enc a,val:=v }) clock),?_,⟨_,_,heap_setBlk hb,?_,hB.as ?_⟩,Wrt.ext rfl,Wrt.size rfl⟩
  .rw [hfa] at hf
   simp [Instr.mapUpdate,run_und ht,run_getMap hb,K.ck,hf,run_setMap _ hb,hk,Instr.keyThatStays,K.st]
  .rw [h3,Array.toList_modify]
   apply List.ext_getElem?
   intro i
   have hi:=congrArg (fun l=>l[i]?) he
   simp only [List.getElem?_map,List.getElem?_modify,List.getElem?_set] at hi ⊢
   by_cases hij:j=i
   .subst hij
    rw [if_pos rfl,if_pos h2,List.getElem?_eq_getElem (by simpa [hl] using h2)]
    simp
   .rw [if_neg hij]; simpa [hij] using hi
  .rw [Array.toList_modify]
   apply List.ext_getElem?
   intro i
   simp only [List.getElem?_map,List.getElem?_modify]
   by_cases hij:j=i
   .subst hij; cases es.toList[j]? <;> simp
   .simp [hij]
omit [DecidableEq α] in
theorem MapR.ext{S:Nat->Prop}{w':Wd}(h:MapR w.heap enc r m)(x:Ext S w w')(hS:¬ S r):MapR w'.heap enc r m:=by
 obtain ⟨es,clock,hb,he,hB⟩:=h
 exact ⟨es,clock,by rw [x.blk r (by rcases Nat.lt_or_ge r w.heap.size with k | k; exact k; rw [Array.getElem?_eq_none k] at hb; cases hb) hS]; exact hb,he,hB⟩
theorem int_key{k:IntKind}(hk:P.underlying kt=some (.int k)):KeyOK P kt (fun a:Int=>Value.int k a):=by
 refine ⟨fun b a w=>?_,fun a es m w he=>?_,fun a=>by simp [Instr.sameBits]⟩
 .rw [show (10000:Nat)=9999+1 from rfl,Instr.checkKey]
  simp only [Sem.run_bind,run_und hk,Result.andThen_ok]
  rfl
 .have:∀(es:List MapEntry)(m:List (Int×Value))(i:Nat),es.map (fun e=>(e.key,e.val))=m.map (fun p=>(Value.int k p.1,p.2))->Instr.findNow (.int k) (.int k a) es i=some (findA a m i):=by
   intro es
   induction es with
   | nil=>intro m i h; cases m with | nil=>rfl | cons=>cases h
   | cons e es ih =>
    intro m i h
    cases m with
    | nil=>cases h
    | cons p m =>
     simp only [List.map_cons,List.cons.injEq,Prod.mk.injEq] at h
     unfold Instr.findNow findA
     rw [h.1.1]
     simp only [Instr.sameNow,if_true]
     by_cases hap:a=p.1
     .simp [hap,h.1.2]
     .rw [show (a == p.1)=false by simp [hap],if_neg hap]
      exact ih m (i+1) h.2
  simp [Instr.findKey,run_und hk,this es m 0 he]
end
section
variable {P:Program} {w:Wd} {mt kt et:TypeId} {r it clock:Nat} {es:Array MapEntry} {seen:Array Nat}
theorem run_range(ht:P.underlying mt=some (.map kt et))(h:w.heap[r]? = some (.map es clock)):∃ w',(Instr.range mt (.map (some r))).run P w = .ok (.pointer (some ⟨w.heap.size,0,none⟩)) w'/\New w (.mapIter (some r) clock #[] clock) w.heap.size w':=by
 refine ⟨_,?_,rfl,rfl⟩
 simp [Instr.range,run_und ht,run_getMap h,newObj,Sem.run]
 rfl
theorem run_pick{n:Nat}(h:1<=n):∃ i w',(choose (.mapNext n)).run P w = .ok i w'/\i < n/\w'.heap=w.heap/\Ext No w w':=by
 rcases Nat.lt_or_ge 1 n with h1 | h1
 .refine ⟨w.tape w.drawn (.mapNext n) % n,drewW w,?_,Nat.mod_lt _ (by omega),rfl,(Ext.refl _ _).drew⟩
  simp [choose,Sem.run,Question.forced,Question.cut,drewW,show ¬ n<=1 by omega]
 .refine ⟨0,w,?_,by omega,rfl,Ext.refl _ _⟩
  simp [choose,Sem.run,Question.forced,h1]
theorem run_next(hi:w.heap[it]? = some (.mapIter (some r) clock seen clock))(h:w.heap[r]? = some (.map es clock))(hB:BornOK es.toList clock) :
  ((∀ e∈es.toList,e.born∈seen.toList)/\∃ w',(Instr.next (.pointer (some ⟨it,0,none⟩)) false 0).run P w = .ok (.tuple #[.bool false]) w'/\Ext No w w') ∨
  ∃ e∈es.toList,e.born ∉ seen.toList/\∃ w',(Instr.next (.pointer (some ⟨it,0,none⟩)) false 0).run P w = .ok (.tuple #[.bool true,e.key,e.val]) w'/\w'.heap[it]? = some (.mapIter (some r) clock (seen.push e.born) clock)/\Ext (·=it) w w':=by
 have hcond:(!seen.isEmpty && !es.isEmpty && es.all (fun e=>decide (e.born≥clock)))=false:=by
  cases he:es.isEmpty with
  | true=>simp
  | false =>
   have hne:es.size≠0:=by simpa using he
   have:es.all (fun e=>decide (e.born≥clock))=false:=by
    rw [Array.all_eq_false]
    refine ⟨0,by omega,?_⟩
    have:=hB.2 es[0] (by simp)
    simp; omega
   simp [this]
 have hgi:(getObj it).run P w = .ok (.mapIter (some r) clock seen clock) w:=by simp [getObj,Sem.run,hi]
 have hold:∀ e∈(es.filter fun e=>!seen.contains e.born),decide (e.born < clock)=true:=fun e he=>by
  have:=(Array.mem_filter.1 he).1
  have:=hB.2 e (by simpa using this)
  simpa using this
 have h1:(es.filter fun e=>!seen.contains e.born).filter (fun e=>decide (e.born < clock))=es.filter fun e=>!seen.contains e.born:=Array.filter_eq_self.2 hold
 have h2:(es.filter fun e=>!seen.contains e.born).filter (fun e=>decide (e.born≥clock))=#[]:=Array.filter_eq_empty_iff.2 fun e he=>by
  have:=hold e he
  simp at this ⊢; omega
 generalize hleft:(es.filter fun e=>!seen.contains e.born)=left at *
 rcases Nat.eq_zero_or_pos left.size with h0 | h0
 .refine .inl ⟨fun e he=>?_,?_⟩
  .have hm:e ∉ left:=by rw [Array.eq_empty_of_size_eq_zero h0]; simp
   rw [<- hleft,Array.mem_filter] at hm
   simp only [Array.mem_toList_iff] at he ⊢
   simpa [he] using hm
  .obtain ⟨i,w',hc,hlt,_,hx⟩:=run_pick (P:=P) (w:=w) (n:=1) (Nat.le_refl _)
   have hi0:i=0:=by omega
   subst hi0
   have he0:left=#[]:=Array.eq_empty_of_size_eq_zero h0
   refine ⟨w',?_,hx⟩
   simp only [Instr.next,Sem.run_bind,Result.andThen_ok,hgi,run_getMap h,hcond,Bool.false_eq_true,if_false,hleft,h1,h2]
   subst he0
   simp [hc,-run_choose]
 .obtain ⟨i,w',hc,hlt,hh,hx⟩:=run_pick (P:=P) (w:=w) (n:=left.size) h0
  have hne:left.isEmpty=false:=by simpa using (fun h=>by rw [h] at h0; simp at h0:¬ left=#[])
  have hmem:left[i]∈es.filter fun e=>!seen.contains e.born:=by rw [hleft]; exact Array.getElem_mem hlt
  have hm:=Array.mem_filter.1 hmem
  refine .inr ⟨left[i],by simpa using hm.1,by simpa using hm.2,World.setBlk w' it (.mapIter (some r) clock (seen.push left[i].born) clock),?_,?_,?_⟩
  .have hset:∀ o,(setObj it o).run P w' = .ok () (World.setBlk w' it o):=fun o=>by simp [setObj,Sem.run,World.setBlk,hh,hi]
   simp only [Instr.next,Sem.run_bind,Result.andThen_ok,hgi,run_getMap h,hcond,Bool.false_eq_true,if_false,hleft,h1,h2]
   simp [hne,hc,hset,hlt,-run_choose]
  .exact heap_setBlk (by rw [hh]; exact hi)
  .exact hx.of_no.trans (Wrt.ext rfl) fun _ _ h=>h
theorem run_entry{e:MapEntry}(hi:w.heap[it]? = some (.mapIter (some r) clock (seen.push e.born) clock))(h:w.heap[r]? = some (.map es clock))(hB:BornOK es.toList clock)(he:e∈es.toList):(Instr.entry (.pointer (some ⟨it,0,none⟩))).run P w = .ok (.tuple #[e.key,e.val]) w:=by
 have hgi:(getObj it).run P w = .ok (.mapIter (some r) clock (seen.push e.born) clock) w:=by simp [getObj,Sem.run,hi]
 have hf:es.find? (fun x=>x.born == e.born)=some e:=by
  rw [<- Array.find?_toList]
  have hn:=hB.1
  revert he hn
  generalize es.toList=l
  intro he hn
  induction l with
  | nil=>cases he
  | cons x l ih =>
   simp only [List.map_cons,List.nodup_cons] at hn
   rcases List.mem_cons.1 he with h' | h'
   .subst h'; simp
   .have:x.born≠e.born:=fun h2=>hn.1 (h2 ▸ List.mem_map.2 ⟨e,h',rfl⟩)
    rw [List.find?_cons_of_neg (by simpa using this)]
    exact ih h' hn.2
 simp [Instr.entry,hgi,run_getMap h,hf]
end
theorem zeroCells_one(z:Value)(n:Nat):Builtin.zeroCells #[z] n=(List.replicate n z).toArray:=by
 apply Array.toList_inj.1
 simp only [Builtin.zeroCells,Array.toList_map,Array.toList_range]
 apply List.ext_getElem (by simp)
 intro i h1 h2
 simp [Nat.mod_one]
theorem app_made{P:Program}{t t' e:TypeId}{k:IntKind}{ie:TypeInfo}{z:Value}{w:Wd}{n:Nat}{K:Sl->Wd->Prop}
  (ht:P.underlying t=some (.slice e)) (ht':P.underlying t'=some (.int k)) (hi:P.info? e=some ie) (hz:ie.zero=some z) (hsz:ie.size=1) (hzs:z.cells=#[z]) (hz1:oneC z=true) (hbp:0 < ie.bytes)
  (hn1:0 < n) (hb:n * ie.bytes<=140737488355328)
  (hk:∀ s' w',Own w'.heap w.heap.size e 1 s' (List.replicate n z)->Ext No w w'->K s' w'):AppW P t t' ⟨none,0,0⟩ (.int .i64 n) K w:=by
 have hnn:n<=n * ie.bytes:=Nat.le_mul_of_pos_right n hbp
 have hwr:IntKind.i64.wrap (n:Int)=n:=IntWalk.i64_in _ ⟨by omega,by omega⟩
 have hfits:=growslice_fits (bytes:=ie.bytes) (need:=n) (old:=0) (by omega) hb
 have hge:=grownCap_ge (w:=w) (need:=n) (old:=0) (e:=e)
 have h48:¬ (281474976710656 < (n:Int) * ie.bytes):=by
  have:((n * ie.bytes:Nat):Int)<=140737488355328:=by omega
  rw [Int.natCast_mul] at this; omega
 have hn0:¬ ((n:Int) < 0):=by omega
 have hnz:n≠0:=by omega
 have hfit:¬ n<=0:=by omega
 have hmax:¬ (9223372036854775807 < (n:Int)):=by omega
 have hnot:¬ (281474976710656 < Builtin.nextslicecap n 0 * ie.bytes):=by omega
 refine ⟨⟨some ⟨w.heap.size,0,none⟩,n,grownCap w n 0 e⟩,World.pushBlk (drewW w) (.cells (List.replicate n z++List.replicate (grownCap w n 0 e - n) z).toArray e),fun ty=>?_,hk _ _ ?_ ?_⟩
 .have hold:(Builtin.firstCells 1 0 (.slice none 0 0)).run P (drewW w) = .ok #[] (drewW w):=by simp [Builtin.firstCells]
  simp [-run_choose,Builtin.append_,run_und ht,run_und ht',run_size hi,hsz,asInt,asIntOf,hwr,run_info hi,h48,hnz,hn0,hmax,hnot,run_choose_cap,hold,run_zero hi hz,hzs,zeroCells_one,run_newRow]
  rfl
 .refine ⟨by simp, .inr ⟨w.heap.size,List.replicate (grownCap w n 0 e - n) z,rfl,Nat.le_refl _,?_,?_,hge⟩,fun v hv=>by rw [List.mem_replicate] at hv; rw [hv.2]; exact hz1⟩
  .unfold World.pushBlk drewW
   simp only [Array.getElem?_push,if_true]
  .simp only [List.length_append,List.length_replicate,Nat.mul_one]; omega
 .refine ⟨rfl,rfl,rfl,by simp [World.pushBlk,drewW],fun i hi _=>?_⟩
  simp only [World.pushBlk,drewW]
  exact heap_push _ _ _ hi
end Go.V
