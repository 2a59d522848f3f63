/- Texts for LTreePlays, part 15. -/
import Derived.Recover
import Derived.Test.YtcamoanigdfihaaGreatQp14
set_option maxRecDepth 100000
namespace Go.V
abbrev scrubM(M:Mm):Mm:={ M with pages:=M.pages.filter fun p=>!p.2.waits }
abbrev beginM(M:Mm)(c g:Int):Mm:={ M with commit:=c,gen:=g }
section
variable {α:Type} [DecidableEq α] {P:Program} {w:Wd} {mt kt et:TypeId} {enc:α->Value} {r:Nat} {m:List (α×Value)} {a:α}
theorem run_delete_at(K:KeyOK P kt enc)(ht:P.underlying mt=some (.map kt et)){t:TypeId}{es:Array MapEntry}{clock:Nat}(hb:w.heap[r]? = some (.map es clock))(he:es.toList.map (fun e=>(e.key,e.val))=m.map (fun p=>(enc p.1,p.2))) :
  ∃ w' es',(Builtin.delete_ #[mt,kt] t #[.map (some r),enc a]).run P w = .ok (.tuple #[]) w'/\w'.heap[r]? = some (.map es' clock)/\es'.toList.map (fun e=>(e.key,e.val))=(delA a m).map (fun p=>(enc p.1,p.2))/\es'.toList.Sublist es.toList/\Ext (·=r) w w'/\w'.heap.size=w.heap.size:=by
 have hf:=K.fk a es.toList m w he
 cases hfa:findA a m 0 with
 | none =>
  refine ⟨World.setBlk w r (.map es clock),es,?_,heap_setBlk hb,?_,List.Sublist.refl _,Wrt.ext rfl,Wrt.size rfl⟩
  .rw [hfa] at hf
   simp [Builtin.delete_,run_und ht,run_getMap hb,K.ck,hf,run_setMap _ hb]
  .rw [(findA_none (v := .nilFunc) hfa).2]; exact he
 | some p =>
  obtain ⟨j,u⟩:=p
  obtain ⟨_,h2,_,h4,_⟩:=findA_some (v := .nilFunc) hfa
  simp only [Nat.sub_zero] at h2 h4
  refine ⟨World.setBlk w r (.map (es.eraseIdxIfInBounds j) clock),es.eraseIdxIfInBounds j,?_,heap_setBlk hb,?_,by rw [Array.toList_eraseIdxIfInBounds]; exact List.eraseIdx_sublist _ _,Wrt.ext rfl,Wrt.size rfl⟩
  .rw [hfa] at hf
   simp [Builtin.delete_,run_und ht,run_getMap hb,K.ck,hf,run_setMap _ hb]
  .rw [h4,Array.toList_eraseIdxIfInBounds,map_eraseIdx',he,map_eraseIdx']
end
theorem delP_filter{n:Int}{p:Pg}:∀{l:List (Int×Pg)},pgA n l=some p->p.waits=true->(delP n l).filter (fun p=>!p.2.waits)=l.filter fun p=>!p.2.waits
 | [],h,_=>by cases h
 | q::l,h,hw=>by
  unfold pgA at h
  unfold delP
  split at h
  .rename_i h1
   cases h
   rw [if_pos h1,List.filter_cons,hw]; rfl
  .rename_i h1
   rw [if_neg h1,List.filter_cons,List.filter_cons,delP_filter h hw]
theorem live_scrub(M:Mm):live (scrubM M).pages=live M.pages:=by
 unfold live; simp [List.filter_filter]
theorem refsM_scrub(M:Mm):refsM (scrubM M) true=[]:=by
 unfold refsM
 rw [List.map_eq_nil_iff,List.filter_eq_nil_iff]
 intro p hp
 have:=(List.mem_filter.1 hp).2
 simpa using this
theorem pgA_scrub{n:Int}{p:Pg}:∀{l:List (Int×Pg)},(l.map Prod.fst).Nodup->pgA n l=some p->p.waits=false->pgA n (l.filter fun p=>!p.2.waits)=some p:=fun {l} hn h hw =>
 pgA_of_mem (hn.sublist (List.filter_sublist.map _)) (List.mem_filter.2 ⟨pgA_mem h,by simp [hw]⟩)
theorem Keep.scrub{M:Mm}{ps:List Rf}(S:Sane M)(h:Sub ps M):Keep M.f (scrubM M).f ps:=fun r hr p hp he=>by
 obtain ⟨p',h1,h2,h3⟩:=live_find S (h.mem hr)
 rw [h1] at hp; cases hp
 exact ⟨p,pgA_scrub S.nd h1 h3,rfl,rfl,rfl,rfl,rfl⟩
end Go.V
namespace Go.Proofs.YtcamoanigdfihaaGreat
open Go.V
section
variable {w:Wd} {T:Nat->Option Nat} {m:MemV} {M:Mm}
theorem memBegin_spec{c g:Int}{K:Int->Wd->Prop}(R:MemR w.heap T m M)(hc:0<=c/\c<=18446744073709551615)(hg:0<=g/\g<=65535)(k2:c<=M.commit->K 2 w)
  (k:∀ w',M.commit < c->MemR w'.heap T m (beginM M c g)->Ext (Ts T) w w'->K 0 w'):C_tree_Mem_Begin (some ⟨m.bm,0,none⟩) c g w K:=by
 apply S_tree_Mem_Begin
 refine If.no (Nn.mk ⟨_,Cell.lst R.mem rfl,If.dec (fun h=>k2 h) fun h=>Nn.mk (St1.mk R.mem (by show 1 < 3; decide) rfl fun w1 h1=>Nn.mk ?_)⟩)
 have g1:w1.heap[m.bm]? = some (.cells [.map (some m.r), .int .u64 c, .int .u16 M.gen].toArray 136 (0,0)):=h1.get R.mem
 refine St1.mk g1 (by show 2 < 3; decide) rfl fun w2 h2=>?_
 have g2:w2.heap[m.bm]? = some (.cells [.map (some m.r), .int .u64 c, .int .u16 g].toArray 136 (0,0)):=h2.get g1
 have x2:Ext (·=m.bm) w w2:=(h1.ext).trans h2.ext fun _ _ h=>h
 have nS:∀{q t},T q=some t->t≠0->¬ (q=m.bm):=fun h ht h'=>by rw [h',R.tm] at h; cases h; exact ht rfl
 refine k w2 (by omega) ⟨g2,R.map.ext x2 (nS R.tr (by decide)),fun p hp=>(R.pg p hp).ext x2 (nS (R.pg p hp).tb (by omega)) (fun b h=>nS ((R.pg p hp).ts b h) (by omega)),R.nd,R.lo,R.tm,R.tr,fun q h=>Nat.lt_of_lt_of_le (R.sup q h) x2.size,hc,hg,fun p hp=>?_⟩ (x2.mono fun q _ h=>by rw [h]; show T m.bm≠none; rw [R.tm]; simp)
 have:=R.cm p hp
 show p.2.r.c<=c
 omega
set_option maxHeartbeats 1000000 in
theorem memScrub_spec{K:Int->Wd->Prop}(R:MemR w.heap T m M)(k:∀ w',MemR w'.heap T m (scrubM M)->Ext (Ts T) w w'->K 0 w'):C_tree_Mem_Scrub (some ⟨m.bm,0,none⟩) w K:=by
 apply S_tree_Mem_Scrub
 refine If.no (Nn.mk ⟨_,Cell.lst R.mem rfl,?_⟩)
 apply S_maps_DeleteFunc_map_uint32_tree_page_uint32_tree_page
 obtain ⟨kt,et,ht⟩:=map134
 obtain ⟨es,clock,hr,he,hB⟩:=R.map
 obtain ⟨w1,hrun,hnew⟩:=run_range (P:=pz) ht hr
 have hn1:=hnew.size
 have hsup:T w.heap.size=none:=R.supT (Nat.le_refl _)
 refine ⟨some ⟨w.heap.size,0,none⟩,w1,hrun,?_⟩
 refine ⟨fun q w'=>∃ (es':Array MapEntry) (seen:List Nat) (pg:List (Int×Pg)),q=es.toList.length - seen.length/\w'.heap[w.heap.size]? = some (.mapIter (some m.r) clock seen.toArray clock)/\w'.heap[m.r]? = some (.map es' clock)/\es'.toList.map (fun e=>(e.key,e.val))=(m.vals pg).map (fun p=>(Value.int .u32 p.1,p.2))/\es'.toList.Sublist es.toList /\
   (∀ b∈seen,b∈es.toList.map (·.born))/\seen.Nodup/\pg.Sublist M.pages/\pg.filter (fun p=>!p.2.waits)=M.pages.filter (fun p=>!p.2.waits)/\(∀ e∈es'.toList,e.born∈seen->∀ p∈pg,e.key = .int .u32 p.1->p.2.waits=false)/\MemR w'.heap T m { M with pages:=pg }/\Ext (fun q=>q=m.r∨q=w.heap.size) w w',
  ⟨_,es,[],M.pages,rfl,hnew.get,get_no hr hnew.ext,he,List.Sublist.refl _,by simp,by simp,List.Sublist.refl _,rfl,by simp,R.no hnew.ext,hnew.ext.of_no⟩,?_⟩
 rintro _ m0 w2 ⟨es',seen,pg,hq,hi,hr2,he2,hsub,hsn,hnd,hpg,hfl,hse,R2,x2⟩
 have hB2:BornOK es'.toList clock:=hB.sub hsub
 have hlt:m.r < w.heap.size:=R.sup _ (by rw [R.tr]; simp)
 rcases run_next (P:=pz) hi hr2 hB2 with ⟨hall,w',hrun',hx⟩ | ⟨e,hem,hes',w',hrun',hi',hx⟩
 .refine .inl ⟨w',hrun',?_⟩
  have hpw:∀ p∈pg,p.2.waits=false:=fun p hp=>by
   have:(Value.int .u32 p.1,Value.pointer (some ⟨m.bl p.1,0,none⟩))∈(m.vals pg).map (fun p=>(Value.int .u32 p.1,p.2)):=List.mem_map.2 ⟨_,List.mem_map.2 ⟨p,hp,rfl⟩,rfl⟩
   rw [<- he2] at this
   obtain ⟨e,he,h⟩:=List.mem_map.1 this
   exact hse e he (hall e he) p hp (congrArg Prod.fst h)
  have hpe:pg=M.pages.filter fun p=>!p.2.waits:=by
   rw [<- hfl,List.filter_eq_self.2 fun p hp=>by rw [hpw p hp]; rfl]
  have R2':=R2.no hx
  rw [hpe] at R2'
  refine k w' R2' ((x2.no hx).mono fun q hq h=>?_)
  rcases h with h | h
  .rw [h]; show T m.r≠none; rw [R.tr]; simp
  .omega
 .have z2:=x2.size
  have hr3:w'.heap[m.r]? = some (.map es' clock):=get_ext hr2 hx (by omega)
  have hkv:(e.key,e.val)∈(m.vals pg).map (fun p=>(Value.int .u32 p.1,p.2)):=by
   rw [<- he2]; exact List.mem_map.2 ⟨e,hem,rfl⟩
  obtain ⟨v,hv,hkv⟩:=List.mem_map.1 hkv
  obtain ⟨p,hp,rfl⟩:=List.mem_map.1 hv
  have hkey:e.key = .int .u32 p.1:=(congrArg Prod.fst hkv).symm
  have hval:e.val = .pointer (some ⟨m.bl p.1,0,none⟩):=(congrArg Prod.snd hkv).symm
  have hsz:seen.length < es.toList.length:=by
   have hbe:e.born∈es.toList.map (·.born):=List.mem_map.2 ⟨e,hsub.subset hem,rfl⟩
   have h1:(e.born::seen).Nodup:=List.nodup_cons.2 ⟨fun h=>hes' (by simpa using h),hnd⟩
   have:=List.Nodup.length_le_of_subset h1 (l₂:=es.toList.map (·.born)) fun x hx=>by
    rcases List.mem_cons.1 hx with h | h
    .rw [h]; exact hbe
    .exact hsn x h
   simp only [List.length_cons,List.length_map] at this; omega
  refine .inr ⟨e.key,e.val,w',hrun',e.key,e.val,w',run_entry hi' hr3 hB2 hem,?_⟩
  rw [hkey,hval]
  have R3:MemR w'.heap T m { M with pages:=pg }:=R2.ext hx fun q hq=>by rw [hq]; exact hsup
  have P3:=R3.pg p hp
  have x3:Ext (fun q=>q=m.r∨q=w.heap.size) w w':=x2.trans hx fun q hq h => .inr h
  have hsn':∀ b∈seen++[e.born],b∈es.toList.map (·.born):=fun b hb=>by
   rcases List.mem_append.1 hb with h | h
   .exact hsn b h
   .rw [List.mem_singleton] at h; rw [h]; exact List.mem_map.2 ⟨e,hsub.subset hem,rfl⟩
  have hnd':(seen++[e.born]).Nodup:=List.nodup_append.2 ⟨hnd,by simp,fun a ha b hb hab=>by
   rw [List.mem_singleton] at hb
   exact hes' (by rw [<- hb,<- hab]; simpa using ha)⟩
  have ndp:(pg.map Prod.fst).Nodup:=R2.nd
  have hpa:pgA p.1 pg=some p.2:=pgA_of_mem ndp hp
  refine V_tree_Mem_Scrub_1 (S_tree_Mem_Scrub_1 (Nn.mk ⟨_,Cell.lst P3.blk rfl,If.cases (fun hw=>?_) fun hw=>?_⟩))
  .obtain ⟨w4,es4,hdel,g4,he4,hs4,x4,z4⟩:=run_delete_at (a:=p.1) (mt:=134) (et:=187) (t:=0) u32_key (by kernel_rfl) hr3 he2
   rw [delA_vals] at he4
   refine ⟨w4,hdel,es.toList.length - (seen++[e.born]).length,by simp only [List.length_append,List.length_cons,List.length_nil]; omega,es4,seen++[e.born],delP p.1 pg,rfl,?_,g4,he4,hs4.trans hsub,hsn',hnd',(delP_sub _ _).trans hpg,by rw [delP_filter hpa hw,hfl],fun e' he' hb' q hq hkq=>?_,?_,x3.trans x4 fun q hq h => .inl h⟩
   .rw [get_ext hi' x4 (by omega)]; simp
   .have hq':=(delP_sub _ _).subset hq
    rcases List.mem_append.1 hb' with h | h
    .exact hse e' (hs4.subset he') h q hq' hkq
    .rw [List.mem_singleton] at h
     have hee:e'=e:=born_inj hB2.1 (hs4.subset he') hem h
     rw [hee,hkey] at hkq
     have hqp:q.1=p.1:=(Value.int.inj hkq).2.symm
     exfalso
     have:∀{l:List (Int×Pg)}{n:Int},(l.map Prod.fst).Nodup->n ∉ (delP n l).map Prod.fst:=fun {l n} hl=>by
      induction l with
      | nil=>simp [delP]
      | cons x l ih =>
       simp only [List.map_cons,List.nodup_cons] at hl
       unfold delP
       split
       .rename_i hx; rw [hx]; exact hl.1
       .rename_i hx
        simp only [List.map_cons,List.mem_cons,not_or]
        exact ⟨hx,ih hl.2⟩
     exact this ndp (List.mem_map.2 ⟨q,hq,hqp⟩)
   .have nS:∀{q t},T q=some t->t≠1->¬ (q=m.r):=fun h ht h'=>by rw [h',R.tr] at h; cases h; exact ht rfl
    refine ⟨get_ext R3.mem x4 (nS R.tm (by decide)),⟨es4,clock,g4,he4,hB2.sub hs4⟩,fun q hq=>?_,?_,fun q hq=>R3.lo q ((delP_sub _ _).subset hq),R.tm,R.tr,fun q h=>Nat.lt_of_lt_of_le (R3.sup q h) x4.size,R.co,R.go,fun q hq=>R3.cm q ((delP_sub _ _).subset hq)⟩
    .have:=R3.pg q ((delP_sub _ _).subset hq)
     exact this.ext x4 (nS this.tb (by omega)) (fun c hc=>nS (this.ts c hc) (by omega))
    .exact R3.nd.sublist ((delP_sub _ _).map _)
  .refine ⟨es.toList.length - (seen++[e.born]).length,by simp only [List.length_append,List.length_cons,List.length_nil]; omega,es',seen++[e.born],pg,rfl,by rw [hi']; simp,hr3,he2,hsub,hsn',hnd',hpg,hfl,fun e' he' hb' q hq hkq=>?_,R3,x3⟩
   rcases List.mem_append.1 hb' with h | h
   .exact hse e' he' h q hq hkq
   .rw [List.mem_singleton] at h
    have hee:e'=e:=born_inj hB2.1 he' hem h
    rw [hee,hkey] at hkq
    have hqp:q.1=p.1:=(Value.int.inj hkq).2.symm
    have h2:pgA q.1 pg=some q.2:=pgA_of_mem ndp hq
    rw [hqp,hpa] at h2
    rw [<- Option.some.inj h2]; exact hw
end
section
variable {w:Wd} {T:Nat->Option Nat} {m:MemV} {M:Mm}
theorem conv40{b n c:Nat}{cs:Array Value}{t:TypeId}{fz:Nat×Nat}(hb:w.heap[b]? = some (.cells cs t fz)):∃ w',Sem.run pz (convert 40 40 (.slice (some ⟨b,0,none⟩) n c)) w = .ok (.slice (some ⟨b,0,none⟩) n c) w'/\Ext (·=b) w w'/\w'.heap.size=w.heap.size/\∃ fz',w'.heap[b]? = some (.cells cs t fz'):=by
 have h40:Tryz.prog.underlying 40=some (.slice 5):=by kernel_rfl
 have h5:Tryz.prog.underlying 5=some (.int .u8):=by kernel_rfl
 have hsh:w.shape? b=some (t,cs.size):=by simp [World.shape?,hb]
 refine ⟨w.freeze { block:=b,off:=cs.size } 1,?_,⟨rfl,rfl,rfl,?_,fun i hi hne=>?_⟩,?_,?_⟩
 .simp [convert,run_und h40,run_und h5,markStringish,shape,Sem.run,hsh,freeze]
 .simp [World.freeze]
 .have hne':¬ b=i:=fun e=>hne e.symm
  simp [World.freeze,Array.getElem?_modify,hne']
 .simp [World.freeze]
 .obtain ⟨lo,hi⟩:=fz
  simp [World.freeze,Array.getElem?_modify,hb]
end
end Go.Proofs.YtcamoanigdfihaaGreat
namespace Go.V
structure OpA(h:Array Obj)(x:OpV):Prop where
 k:Rd h x.k 1 (x.key.map (Value.int .u8))
 v:Rd h x.v 1 (x.val.map (Value.int .u8))
 k8:B8 x.key
 v8:B8 x.val
theorem OpA.no{w w':Wd}{x:OpV}(o:OpA w.heap x)(e:Ext No w w'):OpA w'.heap x:=⟨Rd.no o.k e,Rd.no o.v e,o.k8,o.v8⟩
end Go.V
namespace Go.Proofs.YtcamoanigdfihaaGreat
open Go.V
section
variable {w:Wd} {T:Nat->Option Nat} {m:MemV} {M:Mm}
theorem refRight_spec{x:OpV}{K:Bool->Wd->Prop}(hk:x.k.len=x.key.length)(hv:x.v.len=x.val.length)(k:∀ w',Ext No w w'->K (decide x.fit) w'):C_ref15_Right x.k x.v x.d w K:=by
 apply S_ref15_Right
 refine NewW.mk fun b w1 n1=>⟨_,Cell.lst n1.get rfl,?_⟩
 have kk:∀ p:Bool,(p=decide x.fit)->K p w1:=fun p hp=>by rw [hp]; exact k w1 n1.ext
 have no:¬ x.fit->K false w1:=fun h=>kk _ (by rw [decide_eq_false h])
 refine If.dec (fun h1=>⟨_,Cell.lst n1.get rfl,If.dec (fun h2=>⟨_,Cell.lst n1.get rfl,If.dec (fun h3=>⟨_,Cell.lst n1.get rfl,If.not (If.cases (fun hd=>⟨_,Cell.lst n1.get rfl,kk _ ?_⟩) fun hd=>kk _ ?_)⟩) fun h=>no fun f=>by have:=f.2.1; omega⟩) fun h=>no fun f=>by have:=f.1; omega⟩) fun h=>no fun f=>by have:=f.1; omega
 .rw [Bool.eq_iff_iff,decide_eq_true_iff,beq_iff_eq]
  exact ⟨fun h=>⟨by omega,by omega,fun _=>by omega⟩,fun f=>by have:=f.2.2 hd; omega⟩
 .exact (decide_eq_true ⟨by omega,by omega,fun h=>by rw [hd] at h; cases h⟩).symm
theorem opOne(x:OpV):∀ v∈x.cs,oneC v=true:=by intro v hv; simp only [OpV.cs,List.mem_cons,List.not_mem_nil,or_false] at hv; rcases hv with h | h | h <;> subst h <;> rfl
theorem good_spec{l:Sl}{xs:List OpV}{K:Sl->Wd->Prop}(hl:Rd w.heap l 3 (xs.flatMap OpV.cs))(hx:∀ x∈xs,OpA w.heap x)(hn:xs.length<=100000)
  (k:∀ s w',Own w'.heap w.heap.size 58 3 s ((xs.filter fun x=>decide x.fit).flatMap OpV.cs)->Ext No w w'->K s w'):C_law15_good l w K:=by
 apply S_law15_good
 have hol:l.len=xs.length:=by have:=hl.len; rw [flat_len' (opCs_len xs)] at this; omega
 refine ⟨fun q out tt w'=>∃ (j:Nat) (ys:List OpV),tt=j/\j<=xs.length/\q=xs.length - j/\ys=(xs.take j).filter (fun x=>decide x.fit)/\ys.length<=j/\Own w'.heap w.heap.size 58 3 out (ys.flatMap OpV.cs)/\Ext No w w',⟨xs.length,0,[],rfl,by omega,by omega,rfl,by simp,Own.nil _ _ _ _,Ext.refl _ _⟩,?_⟩
 rintro _ m0 out tt w1 ⟨j,ys,rfl,hj,hq,hys,hyl,o1,x1⟩
 refine If.dec (fun h=>?_) fun h=>?_
 .have hjl:j < xs.length:=by omega
  refine Ix.elem (hl.no x1) (opCs_len xs) (by decide) (by omega) h fun bb o hi _ hc=>?_
  simp only [Int.toNat_natCast] at hi hc
  have ox:=hx _ (List.getElem_mem hjl)
  refine ⟨_,hc 0 _ rfl,_,hc 1 _ rfl,_,hc 2 _ rfl,refRight_spec (RdB.len ox.k) (RdB.len ox.v) fun w2 x2=>?_⟩
  have tk:(xs.take (j+1)).filter (fun x=>decide x.fit)=ys++if xs[j].fit then [xs[j]] else []:=by
   rw [List.take_add_one,List.getElem?_eq_getElem hjl,Option.toList_some,List.filter_append,<- hys,List.filter_cons]
   by_cases hf:xs[j].fit <;> simp [hf]
  refine If.dec (fun hf=>?_) fun hf=>?_
  .rw [if_pos hf] at tk
   refine Ix.elem (hl.no (x1.no x2)) (opCs_len xs) (by decide) (by omega) h fun bb o hi _ hc=>?_
   simp only [Int.toNat_natCast] at hi hc
   refine ⟨_,hc 0 _ rfl,_,hc 1 _ rfl,_,hc 2 _ rfl,NewW.mk fun b w3 n3=>?_⟩
   have o3:=(o1.no x2).no n3.ext
   have e3:Own w3.heap w2.heap.size 58 3 ⟨some ⟨b,0,none⟩,1,1⟩ xs[j].cs:=Own.new (n:=1) (sz:=3) n3 rfl (opOne _)
   have hyo:out.len=ys.length:=by have:=o1.len; rw [flat_len' (opCs_len ys)] at this; omega
   have s3:=((x1.no x2).no n3.ext).size
   refine app_api_Op o3 s3 e3.rd.src (by show (out.len+1) * 56<=_; omega) fun s' w4 o4 _ x4 hbl=>Ar.i64 (by omega) ⟨xs.length - (j+1),by omega,j+1,ys++[xs[j]],by omega,by omega,rfl,tk.symm,by simp; omega,?_,?_⟩
   .rw [List.flatMap_append]
    have:[xs[j]].flatMap OpV.cs=xs[j].cs:=by simp
    rw [this]; exact o4
   .exact ((x1.no x2).no n3.ext).trans x4 fun q hq h=>by have:=(o3.lt h).1; omega
  .rw [if_neg hf,List.append_nil] at tk
   exact Ar.i64 (by omega) ⟨xs.length - (j+1),by omega,j+1,ys,by omega,by omega,rfl,tk.symm,by omega,o1.no x2,x1.no x2⟩
 .have hjl:j=xs.length:=by omega
  rw [hjl,List.take_length] at hys
  exact k out w1 (by rw [<- hys]; exact o1) x1
theorem among_spec{l:Sl}{rs:List Rf}{r:Rf}{K:Bool->Wd->Prop}(hl:Rd w.heap l 3 (rs.flatMap refCs))(hn:rs.length<=1000000)(k:∀ w',Ext No w w'->K (decide (r∈rs)) w'):C_law15_among l r.p r.c r.g w K:=by
 apply S_law15_among
 have hol:l.len=rs.length:=by have:=hl.len; rw [flat_len' (refCs_len rs)] at this; omega
 refine NewW.mk fun b w1 n1=>?_
 refine ⟨fun q tt w'=>∃ j:Nat,tt=j/\j<=rs.length/\q=rs.length - j/\(∀ i (h:i < rs.length),i < j->rs[i]≠r)/\Ext No w1 w',⟨rs.length,0,rfl,by omega,by omega,fun i _ h=>by omega,Ext.refl _ _⟩,?_⟩
 rintro _ m0 tt w2 ⟨j,rfl,hj,hq,hno,x2⟩
 have g2:=get_no n1.get x2
 refine If.dec (fun h=>?_) fun h=>?_
 .have hjl:j < rs.length:=by omega
  refine ⟨Ext No w2,(Ext.refl _ _).drew,?_⟩
  refine Ix.elem (hl.no (n1.ext.no x2)) (refCs_len rs) (by decide) (by omega) h fun bb o hi _ hc=>?_
  simp only [Int.toNat_natCast] at hi hc
  refine ⟨_,Held.cell (hc 0 _ rfl),_,Held.cell (hc 1 _ rfl),_,Held.cell (hc 2 _ rfl),_,Held.cell (Cell.lst g2 rfl),_,Held.cell (Cell.lst g2 rfl),_,Held.cell (Cell.lst g2 rfl),?_⟩
  rw [refeq rs[j] r]
  have x3:Ext No w (drewW w2):=(n1.ext.no x2).drew
  refine If.dec (fun he=>?_) fun he=>?_
  .have:=k (drewW w2) x3
   rwa [decide_eq_true (by rw [<- he]; exact List.getElem_mem hjl)] at this
  .refine Ar.i64 (by omega) ⟨rs.length - (j+1),by omega,j+1,by omega,by omega,rfl,fun i h1 h2=>?_,x2.drew⟩
   rcases Nat.lt_or_ge i j with h | h
   .exact hno i h1 h
   .have:i=j:=by omega
    subst this; exact he
 .have hjl:j=rs.length:=by omega
  have:=k w2 (n1.ext.no x2)
  rwa [decide_eq_false fun hm=>by obtain ⟨i,h1,h2⟩:=List.getElem_of_mem hm; exact hno i h1 (by omega) h2] at this
theorem just_spec{t lev:Int}{r:Rf}{kvs:List KV}{ps:List Rf}{K:Bool->Wd->Prop}(R:MemR w.heap T m M)(hT:TreeT M.f t r lev kvs ps)(hlev:lev<=30)(hps:ps.Perm (live M.pages))(hn:M.pages.length<=65535)
  (k:∀ w',Ext No w w'->K true w'):C_law15_just (some ⟨m.bm,0,none⟩) t r.p r.c r.g lev w K:=by
 apply S_law15_just
 have hpl:ps.length<=65535:=by have:=hps.length_eq; have:=live_len M.pages; omega
 refine NewW.mk fun b w1 n1=>⟨_,Cell.lst n1.get rfl,_,Cell.lst n1.get rfl,_,Cell.lst n1.get rfl,_,Cell.lst n1.get rfl,?_⟩
 refine labels_spec (R.no n1.ext) hT hlev (by omega) fun s L w2 hL ht _ o2 x2=>?_
 refine pages_spec ((R.no n1.ext).no x2) hn fun s3 rs w3 hrs o3 x3=>?_
 have hsl:s.len=L.length:=by have:=o2.len; rw [flat_len' (labCs_len _)] at this; omega
 have hrl:s3.len=rs.length:=by have:=o3.len; rw [flat_len' (refCs_len _)] at this; omega
 have hLl:L.length=ps.length:=by rw [<- hL]; simp
 have hrp:rs.length=ps.length:=by rw [hrs.length_eq,hps.length_eq]
 have x03:=(n1.ext.no x2).no x3
 refine ⟨fun w'=>w'=w3,If.bne (fun h=>(h rfl).elim) fun _=>If.bne (fun h=>by omega) fun _=>rfl,?_⟩
 rintro _ w4 rfl
 refine ⟨fun q tt w'=>∃ j:Nat,tt=j/\j<=L.length/\q=L.length - j/\Ext No w4 w',⟨L.length,0,rfl,by omega,by omega,Ext.refl _ _⟩,?_⟩
 rintro _ m0 tt w5 ⟨j,rfl,hj,hq,x5⟩
 refine If.dec (fun h=>?_) fun h=>?_
 .have hjl:j < L.length:=by omega
  have rd5:=(o2.no (x3.no x5)).rd
  refine Ix.elem rd5 (labCs_len L) (by decide) (by omega) h fun bb o hi _ hc=>?_
  simp only [Int.toNat_natCast] at hi hc
  refine ⟨_,hc 3 _ rfl,_,hc 4 _ rfl,_,hc 5 _ rfl,among_spec (r:=L[j].r) (o3.no x5).rd (by omega) fun w6 x6=>?_⟩
  have hin:L[j].r∈rs:=hrs.mem_iff.2 (hps.mem_iff.1 (by rw [<- hL]; exact List.mem_map.2 ⟨_,List.getElem_mem hjl,rfl⟩))
  rw [decide_eq_true hin]
  refine If.not (If.yes ?_)
  refine Ix.elem (rd5.no x6) (labCs_len L) (by decide) (by omega) h fun bb o hi _ hc=>?_
  simp only [Int.toNat_natCast] at hi hc
  refine ⟨_,hc 0 _ rfl,If.bne (fun h=>(h (ht _ (List.getElem_mem hjl))).elim) fun _=>Ar.i64 (by omega) ⟨L.length - (j+1),by omega,j+1,by omega,by omega,rfl,x5.no x6⟩⟩
 .exact k w5 (x03.no x5)
theorem treeGet_val{t lev:Int}{r:Rf}{ks:Sl}{key:List Int}{kvs:List KV}{ps:List Rf}{K:Sl->Int->Wd->Prop}(R:MemR w.heap T m M)(hT:TreeT M.f t r lev kvs ps)(hlev:lev<=30)(hk:RdB w.heap ks key)(k8:B8 key)(kl:1<=key.length/\key.length<=32)
  (k:∀ s w',OwnB w'.heap w.heap.size s ((kvGet kvs key).getD [])->Ext No w w'->K s (if kvGet kvs key=none then 7 else 0) w'):C_tree_Get (srcV m) t r.p r.c r.g lev ks w K:=by
 refine treeGet_spec R hT hlev hk k8 (fun w' h x=>by omega) (fun w' h1 h2 h x=>?_) (fun v s w' h1 h2 h o x=>?_)
 .have:=k ⟨none,0,0⟩ w' (by rw [h]; exact Own.nil _ _ _ _) x
  rwa [if_pos h] at this
 .have:=k s w' (by rw [h]; exact o) x
  rwa [if_neg (by rw [h]; simp)] at this
end
end Go.Proofs.YtcamoanigdfihaaGreat
namespace Go.V
end Go.V
namespace Go.Proofs.YtcamoanigdfihaaGreat
open Go.V
section
variable {Q:Exit->Act->List Frame->Wd->Prop} {a:Act} {cs:List Frame} {w:Wd}
end
section
variable {w:Wd} {ra ea:Addr}
end
section
variable {w:Wd} {fin:Env->Wd->Prop} {R:Ending->Wd->Prop}
end
end Go.Proofs.YtcamoanigdfihaaGreat
namespace Go.V
structure PV where
 k:Sl
 v:Sl
abbrev Pr:=PV×KV
def Pr.cs(p:Pr):List Value:=[.slice p.1.k.a p.1.k.len p.1.k.cap, .slice p.1.v.a p.1.v.len p.1.v.cap]
theorem prCs_len(l:List Pr):∀ x∈l,(Pr.cs x).length=2:=fun _ _=>rfl
theorem prOne(x:Pr):∀ v∈x.cs,oneC v=true:=by intro v hv; simp only [Pr.cs,List.mem_cons,List.not_mem_nil,or_false] at hv; rcases hv with h | h <;> subst h <;> rfl
abbrev kvsOf(l:List Pr):List KV:=l.map Prod.snd
structure PrR(h:Array Obj)(Q:Nat->Prop)(p:Pr):Prop where
 k:Rd h p.1.k 1 (p.2.1.map (Value.int .u8))
 v:Rd h p.1.v 1 (p.2.2.map (Value.int .u8))
 k8:B8 p.2.1
 v8:B8 p.2.2
 kq:p.2.1≠[]->∀ q,p.1.k.blk=some q->Q q
 vq:p.2.2≠[]->∀ q,p.1.v.blk=some q->Q q
theorem PrR.ext{S Q:Nat->Prop}{w w':Wd}{p:Pr}(r:PrR w.heap Q p)(x:Ext S w w')(hS:∀ q,q < w.heap.size->Q q->¬ S q):PrR w'.heap Q p :=
 ⟨Rd.extE r.k x fun hn q hl hq=>hS q hl (r.kq hn q hq),Rd.extE r.v x fun hn q hl hq=>hS q hl (r.vq hn q hq),r.k8,r.v8,r.kq,r.vq⟩
theorem PrR.mono{Q Q':Nat->Prop}{h:Array Obj}{p:Pr}(r:PrR h Q p)(hq:∀ q,q < h.size->Q q->Q' q):PrR h Q' p :=
 ⟨r.k,r.v,r.k8,r.v8,fun hn q h=>hq q (Rd.lt r.k (by simpa using hn) h) (r.kq hn q h),fun hn q h=>hq q (Rd.lt r.v (by simpa using hn) h) (r.vq hn q h)⟩
structure PrsR(h:Array Obj)(Q:Nat->Prop)(s:Sl)(l:List Pr):Prop where
 rd:Rd h s 2 (l.flatMap Pr.cs)
 pr:∀ p∈l,PrR h Q p
theorem PrsR.len{h:Array Obj}{Q:Nat->Prop}{s:Sl}{l:List Pr}(r:PrsR h Q s l):s.len=l.length:=by have:=r.rd.len; rw [flat_len' (prCs_len l)] at this; omega
theorem PrsR.no{Q:Nat->Prop}{w w':Wd}{s:Sl}{l:List Pr}(r:PrsR w.heap Q s l)(x:Ext No w w'):PrsR w'.heap Q s l:=⟨r.rd.no x,fun p hp=>(r.pr p hp).ext x fun _ _ _ h=>h⟩
theorem bytesLess_lt:∀{a b:List Int},B8 a->B8 b->Op.bytesLess (toB a) (toB b)=decide (LtB a b)
 | [],[],_,_=>rfl
 | _::_,[],_,_=>rfl
 | [],_::_,_,_=>rfl
 | x::a,y::b,ha,hb=>by
  have hx:=ha x (by simp)
  have hy:=hb y (by simp)
  have ih:=bytesLess_lt (a:=a) (b:=b) (fun z hz=>ha z (by simp [hz])) (fun z hz=>hb z (by simp [hz]))
  have e1:(UInt8.ofNat x.toNat < UInt8.ofNat y.toNat) ↔ x < y:=by
   rw [UInt8.lt_iff_toNat_lt,UInt8.toNat_ofNat',UInt8.toNat_ofNat']; omega
  have e2:(UInt8.ofNat x.toNat=UInt8.ofNat y.toNat) ↔ x=y:=by
   constructor
   .intro h
    have:=congrArg UInt8.toNat h
    rw [UInt8.toNat_ofNat',UInt8.toNat_ofNat'] at this; omega
   .intro h; rw [h]
  have l1:Op.bytesLess (toB (x::a)) (toB (y::b))=(decide (UInt8.ofNat x.toNat < UInt8.ofNat y.toNat) || ((UInt8.ofNat x.toNat == UInt8.ofNat y.toNat) && Op.bytesLess (toB a) (toB b))):=rfl
  rw [l1,ih,Bool.eq_iff_iff]
  simp only [Bool.or_eq_true,Bool.and_eq_true,decide_eq_true_eq,beq_iff_eq,e1,e2]
  unfold LtB
  simp only [cmpB]
  constructor
  .rintro (h | ⟨h,h2⟩)
   .rw [if_pos h]
   .rw [if_neg (by omega),if_neg (by omega)]; exact h2
  .intro h
   split at h
   .exact .inl (by assumption)
   .split at h
    .exact absurd h (by decide)
    .exact .inr ⟨by omega,h⟩
structure PlaceP(l:List KV)(key:List Int)(i:Nat):Prop where
 le:i<=l.length
 lt:∀ j (h:j < l.length),j < i->LtB l[j].1 key
 ge:∀ h:i < l.length,¬ LtB l[i].1 key
theorem SortK.lt{l:List KV}(h:SortK l){i j:Nat}(hij:i < j)(hj:j < l.length):LtB l[i].1 l[j].1:=List.pairwise_iff_getElem.1 h i j (by omega) hj hij
theorem PlaceP.lo{l:List KV}{key:List Int}{i:Nat}(p:PlaceP l key i)(hs:SortK l):kvLo key l=l.take i:=by
 have e:l=l.take i++l.drop i:=(List.take_append_drop i l).symm
 unfold kvLo
 conv=>lhs; rw [e]
 rw [List.filter_append,List.filter_eq_self.2 fun x hx=>?_,List.filter_eq_nil_iff.2 fun x hx=>?_,List.append_nil]
 .obtain ⟨j,hj,rfl⟩:=List.getElem_of_mem hx
  simp only [List.length_drop] at hj
  rw [List.getElem_drop]
  have hi:i < l.length:=by omega
  intro h
  have h1:=of_decide_eq_true h
  rcases Nat.eq_zero_or_pos j with h0 | h0
  .subst h0; exact p.ge hi h1
  .exact p.ge hi ((hs.lt (i:=i) (j:=i+j) (by omega) (by omega)).trans h1)
 .obtain ⟨j,hj,rfl⟩:=List.getElem_of_mem hx
  simp only [List.length_take] at hj
  rw [List.getElem_take]
  exact decide_eq_true (p.lt j (by omega) (by omega))
theorem PlaceP.hi{l:List KV}{key:List Int}{i:Nat}(p:PlaceP l key i)(hs:SortK l):kvHi key l=if ∃ h:i < l.length,l[i].1=key then l.drop (i+1) else l.drop i:=by
 have e:l=l.take i++l.drop i:=(List.take_append_drop i l).symm
 have h1:(l.take i).filter (fun x=>decide (LtB key x.1))=[]:=List.filter_eq_nil_iff.2 fun x hx=>by
  obtain ⟨j,hj,rfl⟩:=List.getElem_of_mem hx
  simp only [List.length_take] at hj
  rw [List.getElem_take]
  intro h
  exact ((p.lt j (by omega) (by omega)).trans (of_decide_eq_true h)).irrefl
 unfold kvHi
 conv=>lhs; rw [e]
 rw [List.filter_append,h1,List.nil_append]
 have all:∀ k,i<=k->(∀ h:k < l.length,LtB key l[k].1)->(l.drop k).filter (fun x=>decide (LtB key x.1))=l.drop k:=fun k hk h=>List.filter_eq_self.2 fun x hx=>by
  obtain ⟨j,hj,rfl⟩:=List.getElem_of_mem hx
  simp only [List.length_drop] at hj
  rw [List.getElem_drop]
  rcases Nat.eq_zero_or_pos j with h0 | h0
  .subst h0; exact decide_eq_true (h (by omega))
  .exact decide_eq_true ((h (by omega)).trans (hs.lt (by omega) (by omega)))
 split
 .rename_i h
  obtain ⟨hi,hk⟩:=h
  rw [List.drop_eq_getElem_cons hi,List.filter_cons,if_neg (by rw [hk]; simpa using fun h=>LtB.irrefl h)]
  refine all (i+1) (by omega) fun h=>?_
  rw [<- hk]; exact hs.lt (by omega) h
 .rename_i h
  refine all i (Nat.le_refl _) fun hi=>?_
  rcases LtB.total l[i].1 key with h2 | h2 | h2
  .exact (p.ge hi h2).elim
  .exact (h ⟨hi,h2⟩).elim
  .exact h2
end Go.V
namespace Go.Proofs.YtcamoanigdfihaaGreat
open Go.V
section
variable {w:Wd} {T:Nat->Option Nat} {m:MemV} {M:Mm}
theorem heldNo{b o:Nat}{v:Value}(h:hcell w.heap b o=some v):Held (Ext No w) ⟨b,o,none⟩ v:=Held.no h
theorem place_spec{Q:Nat->Prop}{s key:Sl}{l:List Pr}{kb:List Int}{K:Int->Wd->Prop}(hl:PrsR w.heap Q s l)(hk:RdB w.heap key kb)(k8:B8 kb)(hn:l.length<=1000000)
  (k:∀ i w',PlaceP (kvsOf l) kb i->Ext No w w'->K (i:Nat) w'):C_ref15_place s key w K:=by
 apply S_ref15_place
 have hsl:=hl.len
 refine ⟨fun q n w'=>∃ j:Nat,n=j/\j<=l.length/\q=l.length - j/\(∀ i (h:i < (kvsOf l).length),i < j->LtB (kvsOf l)[i].1 kb)/\Ext No w w',⟨l.length,0,rfl,by omega,by omega,fun i _ h=>by omega,Ext.refl _ _⟩,?_⟩
 rintro _ m0 n w1 ⟨j,rfl,hj,hq,hlt,x1⟩
 refine ⟨Ext No w1,(Ext.refl _ _).drew,If.dec (fun h=>?_) fun h=>?_⟩
 .have hjl:j < l.length:=by omega
  refine Ix.elem (hl.rd.no x1) (prCs_len l) (by decide) (by omega) h fun bb o hi _ hc=>?_
  simp only [Int.toNat_natCast] at hi hc
  have pj:=(hl.pr _ (List.getElem_mem hjl)).ext x1 fun _ _ _ h=>h
  refine ⟨_,Held.cell (hc 0 _ rfl),StrC.mk pj.k (fun bb o v hv=>heldNo hv) (StrC.mk (Rd.no hk x1) (fun bb o v hv=>heldNo hv) ?_)⟩
  rw [toList_mk,toList_mk,bytesLess_lt pj.k8 k8]
  refine If.dec (fun h2=>Ar.i64 (by omega) ⟨l.length - (j+1),by omega,j+1,by omega,by omega,rfl,fun i h3 h4=>?_,x1.drew⟩) fun h2=>k j _ ⟨by simpa using hj,hlt,fun h3=>by simpa using h2⟩ x1.drew
  rcases Nat.lt_or_ge i j with h5 | h5
  .exact hlt i h3 h5
  .have:i=j:=by omega
   subst this; simpa using h2
 .exact k j _ ⟨by simpa using hj,hlt,fun h3=>absurd h3 (by simp; omega)⟩ x1.drew
end
section
variable {w:Wd} {T:Nat->Option Nat} {m:MemV} {M:Mm}
theorem Rd.pre{h:Array Obj}{s:Sl}{n:Nat}{α:Type}{f:α->List Value}{l:List α}(r:Rd h s n (l.flatMap f))(hf:∀ x∈l,(f x).length=n)(hl:s.len=l.length){lo hi:Nat}(h1:lo<=hi)(h2:hi<=l.length):Rd h ⟨cutA s.a s.cap lo n,hi - lo,s.cap - lo⟩ n (((l.drop lo).take (hi - lo)).flatMap f):=by
 have rc:=r.cut (lo:=lo) (hi:=hi) (mx:=s.cap) h1 (by omega) (by have:=r.cap; omega)
 have e:((l.flatMap f).drop (lo * n)).take ((hi - lo) * n)=((l.drop lo).take (hi - lo)).flatMap f:=by
  have hd:(l.flatMap f).drop (lo * n)=(l.drop lo).flatMap f:=by
   conv=>lhs; rw [<- List.take_append_drop lo l]
   rw [List.flatMap_append,List.drop_append]
   have hl3:((l.take lo).flatMap f).length=lo * n:=by rw [flat_len' fun x hx=>hf x (List.mem_of_mem_take hx),List.length_take,Nat.min_eq_left (by omega)]
   rw [hl3,List.drop_eq_nil_of_le (by omega),Nat.sub_self,List.drop_zero,List.nil_append]
  rw [hd]
  conv=>lhs; rw [<- List.take_append_drop (hi - lo) (l.drop lo)]
  rw [List.flatMap_append,List.take_append]
  have hl3:(((l.drop lo).take (hi - lo)).flatMap f).length=(hi - lo) * n:=by rw [flat_len' fun x hx=>hf x (List.mem_of_mem_drop (List.mem_of_mem_take hx)),List.length_take,List.length_drop,Nat.min_eq_left (by omega)]
  rw [hl3,Nat.sub_self,List.take_zero,List.append_nil,List.take_of_length_le (by omega)]
 rw [e] at rc; exact rc
theorem Cut.pre{h:Array Obj}{s:Sl}{n:Nat}{α:Type}{f:α->List Value}{l:List α}{lo hi mx:Int}{K:Sl->Prop}(r:Rd h s n (l.flatMap f))(hf:∀ x∈l,(f x).length=n)(hl:s.len=l.length)(h0:0<=lo)(h1:lo<=hi)(h2:hi<=(l.length:Int))(hm:mx=s.cap)
  (k:∀ s':Sl,Rd h s' n (((l.drop lo.toNat).take (hi.toNat - lo.toNat)).flatMap f)->s'.len=hi.toNat - lo.toNat->K s'):Cut s lo hi mx n K:=by
 have rc:=Rd.pre r hf hl (lo:=lo.toNat) (hi:=hi.toNat) (by omega) (by omega)
 have hc:=r.cap
 subst hm
 refine Cut.mk h0 h1 (by omega) (Int.le_refl _) ?_
 have e1:(hi - lo).toNat=hi.toNat - lo.toNat:=by omega
 have e2:((s.cap:Int) - lo).toNat=s.cap - lo.toNat:=by omega
 rw [e1,e2,Int.toNat_natCast]
 exact k _ rc rfl
theorem app_lit{b:Nat}{s':Sl}{l:List Int}{K:Sl->Wd->Prop}(hb:w.heap[b]? = some (.cells ([]:List Value).toArray 5 (0,0)))(base:Nat)(hbb:base<=b)(r:RdB w.heap s' l)(hn:l.length<=100000)
  (k:∀ s w',OwnB w'.heap base s l->Ext (·=b) w w'->(s.blk=some b∨∃ q,s.blk=some q/\w.heap.size<=q)->K s w'):AppW pz 40 40 ⟨some ⟨b,0,none⟩,0,0⟩ (.slice s'.a s'.len s'.cap) K w:=by
 have hlt:=blt hb
 have o:Own w.heap base 5 1 ⟨some ⟨b,0,none⟩,0,0⟩ []:=⟨rfl, .inr ⟨b,[],rfl,hbb,hb,rfl,Nat.le_refl _⟩,by simp⟩
 have hl:=RdB.len r
 refine app_uint8 o (by omega) r.src (by simp only; omega) fun s w' o' _ x hbl=>k s w' (by simpa using o') (x.mono fun q _ h=>by simp [Sl.blk] at h; omega) ?_
 rcases hbl with h | ⟨q,h,hq⟩
 .exact .inl (by rw [h]; rfl)
 .exact .inr ⟨q,h,hq⟩
structure MkP(w0 w':Wd)(Q:Nat->Prop)(out:Sl)(L:List Pr):Prop where
 own:Own w'.heap w0.heap.size 70 2 out (L.flatMap Pr.cs)
 pr:∀ p∈L,PrR w'.heap (fun q=>(Q q/\q < w0.heap.size)∨(w0.heap.size<=q/\out.blk≠some q)) p
theorem MkP.app{w0:Wd}{Q:Nat->Prop}{out s:Sl}{L xs:List Pr}{K:Sl->Wd->Prop}(h:MkP w0 w Q out L)(hw:w0.heap.size<=w.heap.size)(r:Rd w.heap s 2 (xs.flatMap Pr.cs))(hx:∀ p∈xs,PrR w.heap (fun q=>(Q q/\q < w0.heap.size)∨(w0.heap.size<=q/\out.blk≠some q)) p)(hn:L.length+xs.length<=1000000)
  (k:∀ s' w',MkP w0 w' Q s' (L++xs)->Ext (fun q=>out.blk=some q) w w'->K s' w'):AppW pz 62 62 out (.slice s.a s.len s.cap) K w:=by
 have hol:out.len=L.length:=by have:=h.own.len; rw [flat_len' (prCs_len L)] at this; omega
 have hsl:s.len=xs.length:=by have:=r.len; rw [flat_len' (prCs_len xs)] at this; omega
 refine app_api_Pair h.own hw r.src (by rw [hol,hsl]; omega) fun s' w' o' _ x hbl=>k s' w' ⟨by rw [List.flatMap_append]; exact o',fun p hp=>?_⟩ x
 have x':Ext (fun q=>out.blk=some q) w w':=x
 have hp':PrR w.heap (fun q=>(Q q/\q < w0.heap.size)∨(w0.heap.size<=q/\out.blk≠some q)) p:=by
  rcases List.mem_append.1 hp with h1 | h1
  .exact h.pr p h1
  .exact hx p h1
 have ne:∀ q,q < w.heap.size->(Q q/\q < w0.heap.size)∨(w0.heap.size<=q/\out.blk≠some q)->¬ out.blk=some q:=fun q _ hq hb=>by
  rcases hq with h1 | h1
  .have:=(h.own.lt hb).1; omega
  .exact h1.2 hb
 have hlt:PrR w.heap (fun q=>q < w.heap.size/\((Q q/\q < w0.heap.size)∨(w0.heap.size<=q/\out.blk≠some q))) p:=hp'.mono fun q h1 h2=>⟨h1,h2⟩
 refine (hlt.ext x' fun q h1 h2=>ne q h1 h2.2).mono fun q _ hq=>?_
 rcases hq with ⟨h0,h1 | h1⟩
 .exact .inl h1
 .refine .inr ⟨h1.1,fun hb=>?_⟩
  rcases hbl with h2 | ⟨c,h2,h3⟩
  .exact h1.2 (by rw [<- h2]; exact hb)
  .rw [h2] at hb; cases hb; omega
theorem with_tail{w0 w4:Wd}{Q:Nat->Prop}{out ks vs:Sl}{L:List Pr}{kb vb:List Int}{J:Sl->Wd->Prop}(h:MkP w0 w4 Q out L)(hw:w0.heap.size<=w4.heap.size)(x4:Ext No w4 w)(hk:OwnB w.heap w4.heap.size ks kb)(hv:OwnB w.heap w4.heap.size vs vb)(k8:B8 kb)(v8:B8 vb)(hn:L.length<=900000)
  (hJ:∀ s' w',MkP w0 w' Q s' (L++[(⟨ks,vs⟩,(kb,vb))])->Ext (fun q=>out.blk=some q) w4 w'->J s' w') :
  NewW w (.cells [.slice ks.a ks.len ks.cap, .slice vs.a vs.len vs.cap].toArray 70) fun b w5=>Ext (fun q=>out.blk=some q) w4 w5/\AppW pz 62 62 out (.slice (some (Addr.mk b 0 none)) 1 1) (fun s w6=>Ext (fun q=>out.blk=some q) w4 w6/\J s w6) w5:=by
 refine NewW.mk fun b w5 n5=>⟨(x4.no n5.ext).of_no,?_⟩
 have x45:=x4.no n5.ext
 have y4:=x4.size
 have obl:∀ q,out.blk=some q->q < w4.heap.size:=fun q hq=>(h.own.lt hq).2
 have h5:MkP w0 w5 Q out L:=⟨h.own.no x45,fun p hp=>(h.pr p hp).ext x45 fun _ _ _ h=>h⟩
 have e5:Own w5.heap w.heap.size 70 2 ⟨some ⟨b,0,none⟩,1,1⟩ (Pr.cs (⟨ks,vs⟩,(kb,vb))):=Own.new (n:=1) (sz:=2) n5 rfl (prOne _)
 have z5:=x45.size
 refine h5.app (s:=⟨some ⟨b,0,none⟩,1,1⟩) (xs:=[(⟨ks,vs⟩,(kb,vb))]) (by omega) (by simpa using e5.rd) (fun p hp=>?_) (by simp; omega) fun s' w' m' x'=>⟨x45.of_no.trans x' fun _ _ h=>h,hJ s' w' m' (x45.of_no.trans x' fun _ _ h=>h)⟩
 rw [List.mem_singleton] at hp; subst hp
 have bd:∀{s:Sl}{l:List Int},OwnB w.heap w4.heap.size s l->∀ q,s.blk=some q->(Q q/\q < w0.heap.size)∨(w0.heap.size<=q/\out.blk≠some q):=fun o q hq=>by
  have:=(o.lt hq).1
  exact .inr ⟨by omega,fun hb=>by have:=obl q hb; omega⟩
 exact ⟨(hk.no n5.ext).rd,(hv.no n5.ext).rd,k8,v8,fun _=>bd hk,fun _=>bd hv⟩
set_option maxHeartbeats 2000000 in
theorem with_spec{Q:Nat->Prop}{s:Sl}{l:List Pr}{x:OpV}{K:Sl->Wd->Prop}(hl:PrsR w.heap Q s l)(hs:SortK (kvsOf l))(hx:OpA w.heap x)(hf:x.key.length<=100000/\x.val.length<=100000)(hn:l.length<=800000)
  (k:∀ s' L w',MkP w w' Q s' L->kvsOf L=kvOp x.key (opV x.d x.val) (kvsOf l)->L.length<=l.length+1->Ext No w w'->K s' w'):C_ref15_With s x.k x.v x.d w K:=by
 apply S_ref15_With
 have hsl:=hl.len
 refine NewW.mk fun b w1 n1=>⟨_,Cell.lst n1.get rfl,?_⟩
 have hb:=n1.at_; have z1:=n1.size
 refine place_spec (hl.no n1.ext) (Rd.no hx.k n1.ext) hx.k8 (by omega) fun i w2 P x2=>NewW.mk fun b1 w3 n3=>?_
 have hb1:=n3.at_; have z3:=n3.size
 have x03:=(n1.ext.no x2).no n3.ext
 have y2:=x2.size
 have g3:=get_no (get_no n1.get x2) n3.ext
 have hil:i<=l.length:=by have:=P.le; simpa using this
 have hl3:=hl.no x03
 have pq:∀{w':Wd}{out:Sl}{p:Pr},Ext No w w'->p∈l->PrR w'.heap (fun q=>(Q q/\q < w.heap.size)∨(w.heap.size<=q/\out.blk≠some q)) p:=fun xe hp=>((hl.pr _ hp).mono (Q':=fun q=>Q q/\q < w.heap.size) fun q h1 h2=>⟨h2,h1⟩).ext xe (fun _ _ _ h=>h) |>.mono fun q _ h => .inl h
 refine Cut.pre hl3.rd (prCs_len l) hsl (by omega) (by omega) (by omega) rfl fun sc rc lc=>?_
 simp only [Int.toNat_natCast,Int.toNat_zero,List.drop_zero,Nat.sub_zero] at rc lc
 have m3:MkP w w3 Q ⟨some ⟨b1,0,none⟩,0,0⟩ []:=⟨⟨rfl, .inr ⟨b1,[],rfl,by omega,n3.get,rfl,Nat.le_refl _⟩,by simp⟩,by simp⟩
 refine m3.app (by omega) rc (fun p hp=>pq x03 (List.mem_of_mem_take hp)) (by simp; omega) fun s4 w4 m4 x4=>?_
 rw [List.nil_append] at m4
 have x04:Ext No w w4:=x03.trans x4 fun q hq h=>by simp [Sl.blk] at h; omega
 have y4:=x4.size
 have g4:=get_ext g3 x4 (fun h=>by simp [Sl.blk] at h; omega)
 have s4b:∀ q,s4.blk=some q->w.heap.size<=q/\q < w4.heap.size:=fun q hq=>m4.own.lt hq
 have s4nb:s4.blk≠some b:=fun h=>by
  -- the pairs' block is not the op's
  have:=Own.lt m4.own h
  rcases m4.own.is with ⟨h1,_⟩ | ⟨c,rest,ha,_,hc,_⟩
  .rw [h1] at h; simp [Sl.blk] at h
  .simp [Sl.blk,ha] at h
   subst h
   rw [g4] at hc
   simp at hc
 refine ⟨fun out w'=>∃ L,MkP w w' Q out L/\kvsOf L=(kvsOf l).take i++((opV x.d x.val).map fun v=>(x.key,v)).toList/\L.length<=i+1/\Ext (fun q=>s4.blk=some q) w4 w',⟨_,Cell.lst g4 rfl,If.not (If.cases (fun hd=>?_) fun hd=>?_)⟩,?_⟩
 .exact ⟨_,m4,by rw [hd]; simp [kvsOf,List.map_take],by rw [List.length_take]; omega,Ext.refl _ _⟩
 .have hkv:kvsOf (l.take i++[(⟨⟨none,0,0⟩,⟨none,0,0⟩⟩,(x.key,x.val))])=(kvsOf l).take i++((opV x.d x.val).map fun v=>(x.key,v)).toList:=by rw [hd]; simp [kvsOf,List.map_take,opV]
  have fin:∀{ks vs:Sl}(s':Sl)(w':Wd),MkP w w' Q s' (l.take i++[(⟨ks,vs⟩,(x.key,x.val))])->Ext (fun q=>s4.blk=some q) w4 w'->∃ L,MkP w w' Q s' L/\kvsOf L=(kvsOf l).take i++((opV x.d x.val).map fun v=>(x.key,v)).toList/\L.length<=i+1/\Ext (fun q=>s4.blk=some q) w4 w':=fun s' w' h1 h2=>⟨_,h1,by rw [<- hkv]; simp [kvsOf],by simp [List.length_take]; omega,h2⟩
  have hw4:w.heap.size<=w4.heap.size:=by omega
  have hli:(l.take i).length<=900000:=by rw [List.length_take]; omega
  have kR:∀{w'},Ext No w4 w'->RdB w'.heap x.k x.key:=fun e=>Rd.no hx.k (x04.no e)
  have vR:∀{w'},Ext No w4 w'->RdB w'.heap x.v x.val:=fun e=>Rd.no hx.v (x04.no e)
  have toN:∀{w' w'':Wd}{c:Nat},Ext No w4 w'->w4.heap.size<=c->Ext (·=c) w' w''->Ext No w4 w'':=fun e hc e2=>e.trans e2 fun q hq h=>by omega
  refine ⟨Ext (fun q=>s4.blk=some q) w4,(Ext.refl _ _).drew,_,Held.but (Cell.lst g4 rfl) s4nb,_,Held.but (Cell.lst g4 rfl) s4nb,⟨?_,?_⟩⟩
  .refine NewW.mk fun b2 w5 n5=>?_
   have x5:Ext No w4 w5:=n5.ext.drew_left
   have z5:w5.heap.size=w4.heap.size+1:=n5.size
   have hb2:b2=w4.heap.size:=n5.at_
   refine ⟨x5.of_no,⟨?_,?_⟩⟩
   .refine app_lit n5.get w4.heap.size (by omega) (kR x5) hf.1 fun s6 w6 o6 x6 b6=>?_
    have x46:=toN x5 (by omega) x6
    have y6:=x6.size
    refine ⟨x46.of_no,NewW.mk fun b3 w7 n7=>?_⟩
    have x47:=x46.no n7.ext
    have z7:=n7.size; have hb3:=n7.at_
    refine ⟨x47.of_no,app_lit n7.get w4.heap.size (by omega) (vR x47) hf.2 fun s8 w8 o8 x8 b8=>?_⟩
    have x48:=toN x47 (by omega) x8
    refine ⟨x48.of_no,with_tail m4 hw4 x48 ((o6.no n7.ext).ext x8 fun q hq h=>by have:=(o6.lt hq).2; omega) o8 hx.k8 hx.v8 hli fun s' w' h1 h2=>fin s' w' h1 h2⟩
   .refine NewW.mk fun b5 w6 n6=>?_
    have x46:=x5.no n6.ext
    have z6:=n6.size; have hb5:=n6.at_
    refine ⟨x46.of_no,app_lit (get_no n5.get n6.ext) w4.heap.size (by omega) (kR x46) hf.1 fun s7 w7 o7 x7 b7=>?_⟩
    have x47:=toN x46 (by omega) x7
    have y7:=x7.size
    refine ⟨x47.of_no,app_lit (get_ext n6.get x7 (by omega)) w4.heap.size (by omega) (vR x47) hf.2 fun s8 w8 o8 x8 b8=>?_⟩
    have x48:=toN x47 (by omega) x8
    refine ⟨x48.of_no,with_tail m4 hw4 x48 (o7.ext x8 fun q hq h=>?_) o8 hx.k8 hx.v8 hli fun s' w' h1 h2=>fin s' w' h1 h2⟩
    rcases b7 with h3 | ⟨c,h3,h4⟩
    .rw [h3] at hq; cases hq; omega
    .rw [h3] at hq; cases hq; omega
  .refine NewW.mk fun b7 w5 n5=>?_
   have x5:Ext No w4 w5:=n5.ext.drew_left
   have z5:w5.heap.size=w4.heap.size+1:=n5.size
   have hb7:b7=w4.heap.size:=n5.at_
   refine ⟨x5.of_no,NewW.mk fun b8 w6 n6=>?_⟩
   have x46:=x5.no n6.ext
   have z6:=n6.size; have hb8:=n6.at_
   refine ⟨x46.of_no,app_lit n6.get w4.heap.size (by omega) (kR x46) hf.1 fun s7 w7 o7 x7 bb7=>?_⟩
   have x47:=toN x46 (by omega) x7
   have y7:=x7.size
   refine ⟨x47.of_no,app_lit (get_ext (get_no n5.get n6.ext) x7 (by omega)) w4.heap.size (by omega) (vR x47) hf.2 fun s8 w8 o8 x8 bb8=>?_⟩
   have x48:=toN x47 (by omega) x8
   refine ⟨x48.of_no,with_tail m4 hw4 x48 (o7.ext x8 fun q hq h=>?_) o8 hx.k8 hx.v8 hli fun s' w' h1 h2=>fin s' w' h1 h2⟩
   rcases bb7 with h3 | ⟨c,h3,h4⟩
   .rw [h3] at hq; cases hq; omega
   .rw [h3] at hq; cases hq; omega
 rintro _ out w5 ⟨L,m5,hL,hLl,x5⟩
 have x05:Ext No w w5:=x04.trans x5 fun q hq h=>by have:=(s4b q h).1; omega
 have y5:=x5.size
 have hl5:=hl.no x05
 have g5:=get_ext g4 x5 s4nb
 have hlen:∀ k',i<=k'->L.length+((l.drop k').take (l.length - k')).length<=l.length+1:=fun k' hk'=>by rw [List.length_take,List.length_drop]; omega
 have done:∀{k':Nat}{s':Sl}{w':Wd},i<=k'->(kvHi x.key (kvsOf l)=(kvsOf l).drop k')->MkP w w' Q s' (L++(l.drop k').take (l.length - k'))->Ext (fun q=>out.blk=some q) (drewW w5) w'->K s' w':=fun {k' s' w'} hik hk' m' x'=>by
  refine k s' _ w' m' ?_ (by rw [List.length_append]; exact hlen k' hik) (x05.drew.trans x' fun q hq h=>by have:=(m5.own.lt h).1; omega)
  have e1:(l.drop k').take (l.length - k')=l.drop k':=List.take_of_length_le (by rw [List.length_drop]; omega)
  rw [e1,kvsOf,List.map_append,show List.map Prod.snd L=kvsOf L from rfl,hL]
  unfold kvOp
  rw [P.lo hs,hk',List.append_assoc,List.map_drop]
 have m5d:MkP w (drewW w5) Q out L:=⟨m5.own,m5.pr⟩
 have hdec:∀ h:i < l.length,(∃ h:i < (kvsOf l).length,(kvsOf l)[i].1=x.key) ↔ l[i].2.1=x.key:=fun h=>⟨fun ⟨_,e⟩=>by simpa using e,fun e=>⟨by simpa using h,by simpa using e⟩⟩
 refine ⟨Ext No w5,(Ext.refl _ _).drew,If.dec (fun h=>?_) fun h=>?_⟩
 .have hi':i < l.length:=by omega
  refine Ix.elem hl5.rd (prCs_len l) (by decide) (by omega) h fun bb o hi _ hc=>?_
  simp only [Int.toNat_natCast] at hi hc
  have pj:=hl5.pr _ (List.getElem_mem hi')
  refine ⟨_,Held.cell (hc 0 _ rfl),StrC.mk pj.k (fun bb o v hv=>heldNo hv) ⟨_,Held.cell (Cell.lst g5 rfl),StrC.mk (Rd.no hx.k x05) (fun bb o v hv=>heldNo hv) ?_⟩⟩
  rw [toList_mk,toList_mk]
  refine If.cases (fun he=>?_) fun he=>?_
  .rw [beq_iff_eq,toB_inj pj.k8 hx.k8] at he
   refine Ar.i64 (by omega) (Cut.pre hl5.rd (prCs_len l) hsl (by omega) (by omega) (by omega) rfl fun s6 r6 _=>?_)
   have e1:((i:Int)+1).toNat=i+1:=by omega
   have e2:((s.len:Int)).toNat=l.length:=by omega
   rw [e1,e2] at r6
   refine m5d.app (w:=drewW w5) (by show _<=w5.heap.size; omega) r6 (fun p hp=>pq x05.drew (List.mem_of_mem_drop (List.mem_of_mem_take hp))) (by have:=hlen (i+1) (by omega); omega) fun s7 w7 m7 x7=>done (by omega) ?_ m7 x7
   rw [P.hi hs,if_pos ((hdec hi').2 he)]
  .have he':l[i].2.1≠x.key:=fun e=>by
    have:(toB l[i].2.1 == toB x.key)=true:=by rw [beq_iff_eq,toB_inj pj.k8 hx.k8]; exact e
    rw [this] at he; cases he
   refine Cut.pre hl5.rd (prCs_len l) hsl (by omega) (by omega) (by omega) rfl fun s6 r6 _=>?_
   have e2:((s.len:Int)).toNat=l.length:=by omega
   rw [e2,Int.toNat_natCast] at r6
   refine m5d.app (w:=drewW w5) (by show _<=w5.heap.size; omega) r6 (fun p hp=>pq x05.drew (List.mem_of_mem_drop (List.mem_of_mem_take hp))) (by have:=hlen i (by omega); omega) fun s7 w7 m7 x7=>done (by omega) ?_ m7 x7
   rw [P.hi hs,if_neg fun e=>he' ((hdec hi').1 e)]
 .refine Cut.pre hl5.rd (prCs_len l) hsl (by omega) (by omega) (by omega) rfl fun s6 r6 _=>?_
  have e2:((s.len:Int)).toNat=l.length:=by omega
  rw [e2,Int.toNat_natCast] at r6
  refine m5d.app (w:=drewW w5) (by show _<=w5.heap.size; omega) r6 (fun p hp=>pq x05.drew (List.mem_of_mem_drop (List.mem_of_mem_take hp))) (by have:=hlen i (by omega); omega) fun s7 w7 m7 x7=>done (by omega) ?_ m7 x7
  rw [P.hi hs,if_neg (by rintro ⟨h1,_⟩; simp at h1; omega)]
end
end Go.Proofs.YtcamoanigdfihaaGreat
namespace Go.V
end Go.V
namespace Go.Proofs.YtcamoanigdfihaaGreat
open Go.V
section
variable {w:Wd} {T:Nat->Option Nat} {m:MemV} {M:Mm}
set_option maxHeartbeats 1000000 in
theorem refApply_spec{Q:Nat->Prop}{s ops:Sl}{l:List Pr}{xs:List OpV}{K:Sl->Wd->Prop}(hl:PrsR w.heap Q s l)(hs:SortK (kvsOf l))(ho:Rd w.heap ops 3 (xs.flatMap OpV.cs))(hx:∀ x∈xs,OpA w.heap x)(hf:∀ x∈xs,x.fit)(hn:l.length+xs.length<=700000)
  (k:∀ s' L w',PrsR w'.heap (fun q=>(Q q/\q < w.heap.size)∨(w.heap.size<=q/\q < w'.heap.size)) s' L->(∀ q,s'.blk=some q->w.heap.size<=q/\q < w'.heap.size)->kvsOf L=opsL xs (kvsOf l)->L.length<=l.length+xs.length->Ext No w w'->K s' w'):C_ref15_Apply s ops w K:=by
 apply S_ref15_Apply
 have hsl:=hl.len
 have hol:ops.len=xs.length:=by have:=ho.len; rw [flat_len' (opCs_len xs)] at this; omega
 refine NewW.mk fun b w1 n1=>?_
 have hb:=n1.at_; have z1:=n1.size
 have m1:MkP w w1 Q ⟨some ⟨b,0,none⟩,0,0⟩ []:=⟨⟨rfl, .inr ⟨b,[],rfl,by omega,n1.get,rfl,Nat.le_refl _⟩,by simp⟩,by simp⟩
 have hl1:=hl.no n1.ext
 refine m1.app (by omega) hl1.rd (fun p hp=>((hl.pr p hp).mono (Q':=fun q=>Q q/\q < w.heap.size) fun q h1 h2=>⟨h2,h1⟩).ext n1.ext (fun _ _ _ h=>h) |>.mono fun q _ h => .inl h) (by simp; omega) fun s2 w2 m2 x2=>?_
 rw [List.nil_append] at m2
 have x02:Ext No w w2:=n1.ext.trans x2 fun q hq h=>by simp [Sl.blk] at h; omega
 refine ⟨fun q out tt w'=>∃ (j:Nat) (L:List Pr),tt=j/\j<=xs.length/\q=xs.length - j/\PrsR w'.heap (fun q=>(Q q/\q < w.heap.size)∨w.heap.size<=q) out L/\(∀ q,out.blk=some q->w.heap.size<=q/\q < w'.heap.size)/\kvsOf L=opsL (xs.take j) (kvsOf l)/\L.length<=l.length+j/\Ext No w w',
  ⟨xs.length,0,l,rfl,by omega,by omega,⟨m2.own.rd,fun p hp=>(m2.pr p hp).mono fun q _ h=>h.imp id fun h=>h.1⟩,fun q hq=>m2.own.lt hq,rfl,by omega,x02⟩,?_⟩
 rintro _ m0 out tt w3 ⟨j,L,rfl,hj,hq,r3,b3,k3,l3,x3⟩
 refine If.dec (fun h=>?_) fun h=>?_
 .have hjl:j < xs.length:=by omega
  refine Ix.elem (ho.no x3) (opCs_len xs) (by decide) (by omega) h fun bb o hi _ hc=>?_
  simp only [Int.toNat_natCast] at hi hc
  have ox:=(hx _ (List.getElem_mem hjl)).no x3
  have fx:=hf _ (List.getElem_mem hjl)
  refine ⟨_,hc 0 _ rfl,_,hc 1 _ rfl,_,hc 2 _ rfl,?_⟩
  refine with_spec r3 (by rw [k3]; exact opsL_sort hs) ox ⟨by have:=fx.1; omega,by have:=fx.2.1; omega⟩ (by omega) fun s4 L4 w4 m4 k4 l4 x4=>Ar.i64 (by omega) ⟨xs.length - (j+1),by omega,j+1,L4,by omega,by omega,rfl,⟨m4.own.rd,fun p hp=>(m4.pr p hp).mono fun q _ h=>?_⟩,fun q hq=>?_,?_,by omega,x3.no x4⟩
  .have:=x3.size
   rcases h with h | h
   .exact h.1
   .exact .inr (by omega)
  .have:=m4.own.lt hq; have:=x3.size; omega
  .rw [k4,k3,List.take_add_one,List.getElem?_eq_getElem hjl,Option.toList_some,opsL_snoc]
 .have hjl:j=xs.length:=by omega
  rw [hjl,List.take_length] at k3
  exact k out L w3 ⟨r3.rd,fun p hp=>(r3.pr p hp).mono fun q h1 h2=>h2.imp id fun h=>⟨h,h1⟩⟩ b3 k3 (by omega) x3
theorem refAllRight_spec{ops:Sl}{xs:List OpV}{K:Bool->Wd->Prop}(ho:Rd w.heap ops 3 (xs.flatMap OpV.cs))(hx:∀ x∈xs,OpA w.heap x)(hn:xs.length<=1000000)(k:∀ w',Ext No w w'->K (decide (∀ x∈xs,x.fit)) w'):C_ref15_AllRight ops w K:=by
 apply S_ref15_AllRight
 have hol:ops.len=xs.length:=by have:=ho.len; rw [flat_len' (opCs_len xs)] at this; omega
 refine ⟨fun q tt w'=>∃ j:Nat,tt=j/\j<=xs.length/\q=xs.length - j/\(∀ x∈xs.take j,x.fit)/\Ext No w w',⟨xs.length,0,rfl,by omega,by omega,by simp,Ext.refl _ _⟩,?_⟩
 rintro _ m0 tt w1 ⟨j,rfl,hj,hq,hf,x1⟩
 refine If.dec (fun h=>?_) fun h=>?_
 .have hjl:j < xs.length:=by omega
  refine Ix.elem (ho.no x1) (opCs_len xs) (by decide) (by omega) h fun bb o hi _ hc=>?_
  simp only [Int.toNat_natCast] at hi hc
  have ox:=hx _ (List.getElem_mem hjl)
  refine ⟨_,hc 0 _ rfl,_,hc 1 _ rfl,_,hc 2 _ rfl,refRight_spec (RdB.len ox.k) (RdB.len ox.v) fun w2 x2=>If.not (If.dec (fun hft=>Ar.i64 (by omega) ⟨xs.length - (j+1),by omega,j+1,by omega,by omega,rfl,fun x hx'=>?_,x1.no x2⟩) fun hft=>?_)⟩
  .rw [List.take_add_one,List.getElem?_eq_getElem hjl] at hx'
   rcases List.mem_append.1 hx' with h' | h'
   .exact hf x h'
   .simp at h'; rw [h']; exact hft
  .have:=k w2 (x1.no x2)
   rwa [decide_eq_false fun h=>hft (h _ (List.getElem_mem hjl))] at this
 .have hjl:j=xs.length:=by omega
  rw [hjl,List.take_length] at hf
  have:=k w1 x1
  rwa [decide_eq_true hf] at this
def pcs(v:List Int):Nat:=if v.length<=64 then 0 else (v.length+207) / 208
theorem refPieces_spec{s:Sl}{v:List Int}{K:Int->Wd->Prop}(hs:s.len=v.length)(hn:v.length<=1000000)(k:K (pcs v:Nat) w):C_ref15_Pieces s w K:=by
 apply S_ref15_Pieces
 unfold pcs at k
 refine If.dec (fun h=>?_) fun h=>?_
 .rw [if_pos (by omega)] at k; exact k
 .rw [if_neg (by omega)] at k
  refine Ar.i64 (by omega) (Ar.i64 (by omega) ⟨by decide,?_⟩)
  have e:Int.tdiv ((s.len:Int)+208 - 1) 208=(((v.length+207) / 208:Nat):Int):=by
   rw [hs,Int.tdiv_eq_ediv_of_nonneg (by omega)]; omega
  rw [e]
  exact Ar.i64 (by omega) k
def mostP(kvs:List KV):Nat:=1+(kvs.map fun x=>2+2 * pcs x.2).sum
theorem refMost_spec{Q:Nat->Prop}{s:Sl}{l:List Pr}{K:Int->Wd->Prop}(hl:PrsR w.heap Q s l)(hv:∀ x∈kvsOf l,x.2.length<=1024)(hn:l.length<=100000)(k:∀ w',Ext No w w'->K (mostP (kvsOf l):Nat) w'):C_ref15_Most s w K:=by
 apply S_ref15_Most
 have hsl:=hl.len
 have hpc:∀ x∈kvsOf l,pcs x.2<=5:=fun x hx=>by have:=hv x hx; unfold pcs; split <;> omega
 refine ⟨fun q n tt w'=>∃ j:Nat,n=(mostP ((kvsOf l).take j):Nat)/\mostP ((kvsOf l).take j)<=1+12 * j/\tt=j/\j<=l.length/\q=l.length - j/\Ext No w w',⟨l.length,0,rfl,by simp [mostP],rfl,by omega,by omega,Ext.refl _ _⟩,?_⟩
 rintro _ m0 n tt w1 ⟨j,rfl,hm,rfl,hj,hq,x1⟩
 refine If.dec (fun h=>Ar.i64 (by omega) ?_) fun h=>?_
 .have hjl:j < l.length:=by omega
  refine Ix.elem (hl.rd.no x1) (prCs_len l) (by decide) (by omega) h fun bb o hi _ hc=>?_
  simp only [Int.toNat_natCast] at hi hc
  have p:=hl.pr _ (List.getElem_mem hjl)
  have hmem:l[j].2∈kvsOf l:=List.mem_map.2 ⟨_,List.getElem_mem hjl,rfl⟩
  have h5:=hpc _ hmem
  have e:mostP ((kvsOf l).take (j+1))=mostP ((kvsOf l).take j)+(2+2 * pcs l[j].2.2):=by
   unfold mostP
   rw [List.take_add_one,List.getElem?_eq_getElem (by simpa using hjl),Option.toList_some,List.map_append,List.sum_append]
   simp; omega
  refine ⟨_,hc 1 _ rfl,refPieces_spec (v:=l[j].2.2) (RdB.len p.v) (by have:=hv _ hmem; omega) (Ar.i64 (by omega) (Ar.i64 (by omega) (Ar.i64 (by omega) ⟨l.length - (j+1),by omega,j+1,by rw [e]; omega,by rw [e]; omega,by omega,by omega,rfl,x1⟩)))⟩
 .have hjl:j=l.length:=by omega
  have:=k w1 x1
  rwa [<- List.take_length (l:=kvsOf l),show (kvsOf l).length=j by simp [hjl]] at this
end
end Go.Proofs.YtcamoanigdfihaaGreat
namespace Go.V
section
variable {f:Pages} {t:Int}
end
end Go.V
namespace Go.Proofs.YtcamoanigdfihaaGreat
open Go.V
section
variable {w:Wd} {T:Nat->Option Nat} {m:MemV} {M:Mm}
end
end Go.Proofs.YtcamoanigdfihaaGreat
namespace Go.V
end Go.V
namespace Go.Proofs.YtcamoanigdfihaaGreat
open Go.V
section
variable {w:Wd} {T:Nat->Option Nat} {m:MemV} {M:Mm}
end
end Go.Proofs.YtcamoanigdfihaaGreat
namespace Go.V
end Go.V
namespace Go.Proofs.YtcamoanigdfihaaGreat
open Go.V
section
variable {w:Wd} {T:Nat->Option Nat} {m:MemV} {M:Mm}
end
section
variable {w:Wd} {T:Nat->Option Nat} {m:MemV} {M:Mm}
end
end Go.Proofs.YtcamoanigdfihaaGreat
namespace Go.V
section
variable {f:Pages} {t:Int}
theorem KidsP.fewer{Q:Rf->List KV->List Rf->Prop}(hQ:∀ r kv p,Q r kv p->kv≠[]){l:List Ent}{kvs:List KV}{ps:List Rf}(h:KidsP Q l kvs ps):l.length<=kvs.length:=by
 induction h with
 | nil=>simp
 | cons h lo hi r ih=>have:=List.length_pos_iff.2 (hQ _ _ _ h); simp only [List.length_cons,List.length_append]; omega
theorem one_page{lev:Nat}{r:Rf}{x:KV}{ps:List Rf}(h:SubT f t lev r [x] ps)(hv:x.2.length<=64):ps=[r]:=by
 cases lev with
 | zero =>
  obtain ⟨l,ps',hN,_,hL,rfl⟩:=h
  cases hL with
  | @cons e _ _ _ p _ he hr =>
   cases hr
   have h2:=he.2
   have h3:RightP 1 0 [e]:=hN.right
   have h4:=(h3.lef.ent e (by simp)).2
   rw [if_neg (by decide)] at h4
   split at h2
   .rw [h2.2]; rfl
   .rename_i h0
    rw [if_neg h0] at h4
    have h5:=h4.2.1; have h6:=h2.1; omega
 | succ lev =>
  obtain ⟨l,ps',_,h2,hk,_⟩:=h
  have:=KidsP.fewer (fun r kv p h=>SubT.ne h) hk
  simp at this; omega
end
end Go.V
namespace Go.Proofs.YtcamoanigdfihaaGreat
open Go.V
section
variable {w:Wd} {T:Nat->Option Nat} {m:MemV} {M:Mm}
theorem lit1{c:Int}{K:Sl->Wd->Prop}(k:∀ b w',RdB w'.heap ⟨some ⟨b,0,none⟩,1,1⟩ [c]->w.heap.size<=b->b < w'.heap.size->Ext No w w'->K ⟨some ⟨b,0,none⟩,1,1⟩ w') :
  NewW w (.cells [.int .u8 c].toArray 5) fun b w2=>∃ r:Sl,∃ w3,Sem.run pz (convert 40 40 (.slice (some (Addr.mk b 0 none)) 1 1)) w2 = .ok (.slice r.a r.len r.cap) w3/\K r w3:=by
 refine NewW.mk fun b w2 n2=>?_
 obtain ⟨w3,h1,x3,z3,fz,g3⟩:=conv40 (n:=1) (c:=1) n2.get
 have hb:=n2.at_; have z2:=n2.size
 refine ⟨⟨some ⟨b,0,none⟩,1,1⟩,w3,h1,k b w3 ⟨rfl,by simp,fun _=>⟨b,0,rfl,fun i hi=>?_⟩,by simp [oneC]⟩ (by omega) (by omega) (n2.ext.trans x3 fun q hq h=>by omega)⟩
 unfold hcell; rw [g3]
 simp only [List.map_cons,List.map_nil,List.length_cons,List.length_nil] at hi
 have:i=0:=by omega
 subst this; rfl
theorem known15{K:Bool->Wd->Prop}(k:∀ w',Ext No w w'->K true w'):C_law15_known w K:=by
 apply S_law15_known
 refine newMem_spec (by omega) fun T m w1 R1 hT x1=>lit1 fun c1 w2 r1 hc1 hl1 x2=>lit1 fun c2 w3 r2 hc2 hl2 x3=>lit1 fun c3 w4 r3 hc3 hl3 x4=>lit1 fun c4 w5 r4 hc4 hl4 x5=>lit1 fun c5 w6 r5 hc5 hl5 x6=>NewW.mk fun b5 w12 n12=>?_
 have sup:∀ q,w1.heap.size<=q->T q=none:=fun q hq=>R1.supT hq
 have s2:=x2.size; have s3:=x3.size; have s4:=x4.size; have s5:=x5.size; have s6:=x6.size; have z12:=n12.size
 have x612:=n12.ext
 have R12:=R1.no (((((x2.no x3).no x4).no x5).no x6).no x612)
 have x112:Ext No w1 w12:=((((x2.no x3).no x4).no x5).no x6).no x612
 generalize hxs:([⟨⟨some ⟨c1,0,none⟩,1,1⟩,⟨some ⟨c2,0,none⟩,1,1⟩,false,[97],[49]⟩,⟨⟨some ⟨c3,0,none⟩,1,1⟩,⟨some ⟨c4,0,none⟩,1,1⟩,false,[98],[50]⟩,⟨⟨some ⟨c5,0,none⟩,1,1⟩,⟨none,0,0⟩,true,[97],[]⟩]:List OpV)=xs
 have hops:Rd w12.heap ⟨some ⟨b5,0,none⟩,3,3⟩ 3 (xs.flatMap OpV.cs):=by
  rw [<- hxs]; exact (Own.new n12 rfl (by simp [oneC])).rd
 have hlen:xs.length=3:=by rw [<- hxs]; rfl
 have hx:∀ x∈xs,OpR w12.heap T x:=fun x hx=>by
  rw [<- hxs] at hx
  simp only [List.mem_cons,List.not_mem_nil,or_false] at hx
  have b8:∀ c:Int,0<=c->c<=255->B8 [c]:=fun c h1 h2=>by intro y hy; rw [List.mem_singleton] at hy; subst hy; omega
  have bl:∀{c:Nat},w1.heap.size<=c->c < w12.heap.size->∀ q,(⟨some ⟨c,0,none⟩,1,1⟩ : Sl).blk=some q->T q=none/\q < w12.heap.size:=fun {c} h1 h2 q hq=>by
   simp [Sl.blk] at hq; subst hq; exact ⟨sup _ h1,h2⟩
  rcases hx with h | h | h <;> subst h
  .exact ⟨Rd.no r1 ((((x3.no x4).no x5).no x6).no x612),Rd.no r2 (((x4.no x5).no x6).no x612),b8 _ (by decide) (by decide),b8 _ (by decide) (by decide),fun _=>bl (by omega) (by omega),fun _=>bl (by omega) (by omega)⟩
  .exact ⟨Rd.no r3 ((x5.no x6).no x612),Rd.no r4 (x6.no x612),b8 _ (by decide) (by decide),b8 _ (by decide) (by decide),fun _=>bl (by omega) (by omega),fun _=>bl (by omega) (by omega)⟩
  .exact ⟨Rd.no r5 x612,Rd.nil _ _,b8 _ (by decide) (by decide),B8.nil,fun _=>bl (by omega) (by omega),fun _ q hq=>by simp [Sl.blk] at hq⟩
 have hkv:opsL xs []=[([98],[50])]:=by
  rw [<- hxs]; show kvOp [97] none (kvOp [98] (some [50]) (kvOp [97] (some [49]) []))=_; decide
 refine apply_spec (t:=7) (lev:=0) (r := .z) (kvs:=[]) (ps:=[]) R12 (.inl ⟨rfl,rfl,rfl,rfl⟩) (by omega) (fun q=>by simp) hops hx (by omega) (by simp) (fun w' hb _=>?_) fun r' lv' ps' T' m' M' w13 _ A=>?_
 .exfalso
  obtain ⟨x,hx',hf⟩:=hb
  rw [<- hxs] at hx'
  simp only [List.mem_cons,List.not_mem_nil,or_false] at hx'
  rcases hx' with h | h | h <;> subst h <;> exact hf (by simp [OpV.fit])
 obtain ⟨R13,hbm,tg,x13,tr,hlv,cg⟩:=A
 rw [hkv] at tr
 have x13':Ext No w w13:=(x1.no x112).of_no.trans x13 fun q hq h=>h (hT q hq)
 refine new_set rfl rfl (by simp [oneC]) fun b6 w15 g15 hb6 z15 x15=>⟨_,Cell.lst g15 rfl,_,Cell.lst g15 rfl,_,Cell.lst g15 rfl,_,Cell.lst g15 rfl,?_⟩
 refine lit1 fun c6 w17 r6 _ _ x17=>?_
 have b8:∀ c:Int,0<=c->c<=255->B8 [c]:=fun c h1 h2=>by intro y hy; rw [List.mem_singleton] at hy; subst hy; omega
 have hsrc:(Value.iface 24 (.pointer (some ⟨m.bm,0,none⟩)))=srcV m':=(srcV_eq hbm).symm
 have ng1:kvGet [(([98]:List Int),([50]:List Int))] [98]=some [50]:=by decide
 have ng2:kvGet [(([98]:List Int),([50]:List Int))] [97]=none:=by decide
 have x1317:Ext No w13 w17:=x15.no x17
 rw [hsrc]
 refine treeGet_spec (R13.no x1317) tr (by omega) r6 (b8 _ (by decide) (by decide)) (fun w' h _=>by simp at h) (fun w' _ _ h _=>by rw [ng1] at h; cases h) fun v s w18 _ _ hv o18 x18=>?_
 rw [ng1] at hv
 cases hv
 have g18:=get_no (get_no g15 x17) x18
 refine ⟨_,Cell.lst g18 rfl,_,Cell.lst g18 rfl,_,Cell.lst g18 rfl,_,Cell.lst g18 rfl,lit1 fun c7 w20 r7 _ _ x20=>?_⟩
 have x1320:=(x1317.no x18).no x20
 refine treeGet_spec (R13.no x1320) tr (by omega) r7 (b8 _ (by decide) (by decide)) (fun w' h _=>by simp at h) (fun w21 _ _ _ x21=>?_) (fun v s' w21 _ _ h _ _=>by rw [ng2] at h; cases h)
 refine If.beq (fun _=>If.beq (fun _=>If.beq (fun _=>?_) fun h=>(h rfl).elim) fun h=>(h rfl).elim) fun h=>(h rfl).elim
 refine StrC.mk ((o18.no x20).no x21).rd (fun bb o v hv=>by show w21.cell? _=_; rw [cell_eq]; exact hv) ?_
 have e1:ByteArray.toList ⟨(toB [50]).toArray⟩=[50]:=by rw [toList_mk]; rfl
 have e2:ByteArray.toList (⟨#[50]⟩ : ByteArray)=[50]:=e1
 rw [e1,e2]
 refine If.yes ?_
 have x1321:=x1320.no x21
 have hps:ps'=[r']:=by
  rcases tr with ⟨_,_,h,_⟩ | ⟨_,_,h⟩
  .cases h
  .exact one_page h (by decide)
 have hlive:∀ q,(live M'.pages).count q=([r']:List Rf).count q:=fun q=>by
  have:=cg.cnt q
  rw [hps] at this
  have h0:live ([]:List (Int×Pg))=[]:=rfl
  simp only [h0,List.count_nil] at this ⊢; omega
 have hll:(live M'.pages).length=1:=by
  have h1:=count_len (a:=live M'.pages) (b:=[r']) fun q=>by rw [hlive q]; exact Nat.le_refl _
  have h2:=count_len (a:=[r']) (b:=live M'.pages) fun q=>by rw [hlive q]; exact Nat.le_refl _
  simp at h1 h2; omega
 rw [<- hbm]
 refine pages_spec (R13.no x1321) (by have:=cg.len; rw [hlen] at this; simp at this; omega) fun s8 rs w22 hrs o22 x22=>?_
 have hlr:s8.len=1:=by
  have h1:=o22.len
  rw [flat_len' (refCs_len rs)] at h1
  have:=hrs.length_eq; omega
 rw [hlr]
 exact k w22 ((x13'.no x1321).no x22)
end
end Go.Proofs.YtcamoanigdfihaaGreat
namespace Go.V
end Go.V
namespace Go.Proofs.YtcamoanigdfihaaGreat
open Go.V
section
variable {w:Wd} {T:Nat->Option Nat} {m:MemV} {M:Mm}
theorem cellOf{b o:Nat}{v:Value}(h:hcell w.heap b o=some v):Cell w ⟨b,o,none⟩ v:=by show w.cell? _=_; rw [cell_eq]; exact h
theorem map_set_u8(l:List Int)(i:Nat)(z:Int):(l.map (Value.int .u8)).set i (.int .u8 z)=(l.set i z).map (Value.int .u8):=by rw [List.map_set]
end
end Go.Proofs.YtcamoanigdfihaaGreat
namespace Go.V
end Go.V
namespace Go.Proofs.YtcamoanigdfihaaGreat
open Go.V
section
variable {w:Wd} {T:Nat->Option Nat} {m:MemV} {M:Mm}
end
end Go.Proofs.YtcamoanigdfihaaGreat
namespace Go.V
end Go.V
namespace Go.Proofs.YtcamoanigdfihaaGreat
open Go.V
section
variable {w:Wd} {T:Nat->Option Nat} {m:MemV} {M:Mm}
end
section
variable {w:Wd} {T:Nat->Option Nat} {m:MemV} {M:Mm}
end
end Go.Proofs.YtcamoanigdfihaaGreat
namespace Go.V
end Go.V
namespace Go.Proofs.YtcamoanigdfihaaGreat
open Go.V
section
variable {w:Wd} {T:Nat->Option Nat} {m:MemV} {M:Mm}
end
section
variable {w:Wd} {T:Nat->Option Nat} {m:MemV} {M:Mm}
end
end Go.Proofs.YtcamoanigdfihaaGreat
namespace Go.V
end Go.V
namespace Go.Proofs.YtcamoanigdfihaaGreat
open Go.V
section
variable {w:Wd} {T:Nat->Option Nat} {m:MemV} {M:Mm}
end
theorem _root_.Go.V.SubT.opens2{f:Pages}{t:Int}{lev:Nat}{r:Rf}{kvs:List KV}{ps:List Rf}(h:SubT f t lev r kvs ps):∃ l ps',NodeAt f t (kindOf lev) lev r l/\(if lev=0 then 1 else 2)<=l.length/\RestP f t lev l kvs ps'/\ps=r::ps':=by
 cases lev with
 | zero =>
  obtain ⟨l,ps',a,b,c,d⟩:=h
  exact ⟨l,ps',a,by rw [if_pos rfl]; exact List.length_pos_iff.2 b, .inl ⟨rfl,c⟩,d⟩
 | succ lv =>
  obtain ⟨l,ps',a,b,c,d⟩:=h
  refine ⟨l,ps',?_,by rw [if_neg (by omega)]; exact b, .inr ⟨lv,rfl,c⟩,d⟩
  unfold kindOf; rw [if_neg (by omega)]; exact a
theorem leaf_walk{f:Pages}{t i:Int}{e:Ent}{x:KV}{p:List Rf}(h:LeafE f t e x p)(he:entP 1 i e):∃ cs,ChainP f t e.ch cs/\cs.map Prod.fst=p/\e.n=((chV cs).length:Nat)/\cs.length=pcs x.2/\(chV cs).length<=1024:=by
 obtain ⟨hk,h2⟩:=h
 obtain ⟨_,he⟩:=he
 rw [if_neg (by decide)] at he
 obtain ⟨_,he⟩:=he
 by_cases hn:e.n=0
 .rw [if_pos hn] at h2 he
  refine ⟨[],by rw [he.1]; exact .nil,by rw [h2.2]; rfl,by simpa [chV] using hn,?_,by simp [chV]⟩
  unfold pcs; rw [if_pos (by rw [<- h2.1]; exact he.2)]; rfl
 .rw [if_neg hn] at h2 he
  obtain ⟨h3,cs,hc,hv,hp⟩:=h2
  have hs:=(chain_sizes hc).2.1
  have e1:(chV cs).length=x.2.length:=by rw [hv]
  refine ⟨cs,hc,hp,by rw [e1]; exact h3,?_,by omega⟩
  unfold pcs; rw [if_neg (by omega)]; omega
section
variable {T:Nat->Option Nat} {m:MemV} {M:Mm}
end
section
variable {w:Wd} {T:Nat->Option Nat} {m:MemV} {M:Mm}
end
section
variable {w:Wd} {T:Nat->Option Nat} {m:MemV} {M:Mm}
end
section
variable {w:Wd} {T:Nat->Option Nat} {m:MemV} {M:Mm}
end
section
variable {w:Wd} {T:Nat->Option Nat} {m:MemV} {M:Mm}
end
end Go.Proofs.YtcamoanigdfihaaGreat
namespace Go.V
theorem opsL_vals{xs:List OpV}{kvs:List KV}(hs:SortK kvs)(hf:∀ x∈xs,x.fit)(hv:∀ x∈kvs,x.2.length<=1024):∀ x∈opsL xs kvs,x.2.length<=1024:=fun x hx=>by
 have h:=(kvGet_mem (opsL_sort hs)).1 hx
 rw [kvGet_opsL] at h
 cases hl:lastOp xs x.1 with
 | some y =>
  rw [hl] at h
  have hm:=(lastOp_mem hl).1
  have:=(hf y hm).2.1
  simp only [opV] at h
  split at h
  .cases h
  .simp only [Option.some.injEq] at h; rw [<- h]; exact this
 | none=>rw [hl] at h; exact hv _ ((kvGet_mem hs).2 h)
abbrev rowV(p:Sl×List OpV):Value := .slice p.1.a p.1.len p.1.cap
structure RowsR(h:Array Obj)(l:Sl)(L:List (Sl×List OpV)):Prop where
 rd:Rd h l 1 (L.map rowV)
 row:∀ p∈L,Rd h p.1 3 (p.2.flatMap OpV.cs)
 op:∀ p∈L,∀ x∈p.2,OpA h x
 sz:∀ p∈L,p.2.length<=1152921504606846976
theorem RowsR.no{w w':Wd}{l:Sl}{L:List (Sl×List OpV)}(r:RowsR w.heap l L)(x:Ext No w w'):RowsR w'.heap l L:=⟨r.rd.no x,fun p hp=>(r.row p hp).no x,fun p hp y hy=>(r.op p hp y hy).no x,r.sz⟩
theorem RowsR.len{h:Array Obj}{l:Sl}{L:List (Sl×List OpV)}(r:RowsR h l L):l.len=L.length:=by have:=r.rd.len; simp at this; omega
def rowN(L:List (Sl×List OpV)):Nat:=(L.map fun p=>1+p.2.length).sum
theorem rowN_take{L:List (Sl×List OpV)}{j:Nat}(h:j < L.length):rowN (L.take (j+1))=rowN (L.take j)+(1+L[j].2.length):=by
 unfold rowN
 rw [List.take_add_one,List.getElem?_eq_getElem h,Option.toList_some,List.map_append,List.sum_append]
 simp
theorem rowN_le(L:List (Sl×List OpV))(j:Nat):rowN (L.take j)<=rowN L/\L.length<=rowN L:=by
 constructor
 .have h:rowN L=rowN (L.take j)+rowN (L.drop j):=by
   unfold rowN; rw [<- List.sum_append,<- List.map_append,List.take_append_drop]
  omega
 .unfold rowN
  induction L with
  | nil=>simp
  | cons x L ih=>simp only [List.map_cons,List.sum_cons,List.length_cons]; omega
end Go.V
namespace Go.Proofs.YtcamoanigdfihaaGreat
open Go.V
theorem Ix.row{w:Wd}{l:Sl}{L:List (Sl×List OpV)}{j:Nat}{K:Addr->Prop}(h:RowsR w.heap l L)(hj:j < L.length)(k:∀ b o,l.blk=some b->Cell w ⟨b,o,none⟩ (.slice L[j].1.a L[j].1.len L[j].1.cap)->K ⟨b,o,none⟩):Ix l.a l.len (j:Nat) 1 K:=by
 have hl:=h.len
 refine Ix.cell h.rd (by omega) (by omega) fun b o v hb hv hc=>?_
 have:v=rowV L[j]:=by
  simp only [Int.toNat_natCast,List.getElem?_map,List.getElem?_eq_getElem hj,Option.map_some,Option.some.injEq] at hv; exact hv.symm
 rw [this] at hc
 exact k b o hb hc
section
variable {w:Wd} {T:Nat->Option Nat} {m:MemV} {M:Mm}
structure MadeS(w0 w':Wd)(t:Int)(L:List (Sl×List OpV))(bm b j:Nat)(wv:Sl)(T:Nat->Option Nat)(m:MemV)(M:Mm)(r:Rf)(lv:Nat)(ps:List Rf)(lp:List Pr):Prop where
 mem:MemR w'.heap T m M
 bm:m.bm=bm
 tn:∀ q,q < w0.heap.size->T q=none
 tree:TreeT M.f t r lv (kvsOf lp) ps
 lv:lv<=30
 pe:ps.Perm (live M.pages)
 prs:PrsR w'.heap (fun q=>T q=none/\q≠b) wv lp
 wb:∀ q,wv.blk=some q->T q=none/\q≠b
 sort:SortK (kvsOf lp)
 vals:∀ x∈kvsOf lp,x.2.length<=1024
 cm:M.commit<=j+1
 len:M.pages.length<=60 * rowN (L.take j)
 kn:lp.length<=rowN (L.take j)
 ext:Ext No w0 w'
theorem prsT{w1 w2:Wd}{T':Nat->Option Nat}{b:Nat}{wv:Sl}{lp:List Pr}(h:PrsR w1.heap (fun q=>T q=none/\q≠b) wv lp)(hw:∀ q,wv.blk=some q->T q=none/\q≠b)(x:Ext (Ts T) w1 w2)(ht:∀ q,q < w1.heap.size->T' q=T q):PrsR w2.heap (fun q=>T' q=none/\q≠b) wv lp:=by
 have h1:PrsR w2.heap (fun q=>(T q=none/\q≠b)/\q < w1.heap.size) wv lp:=⟨h.rd.ext x fun a q ha hb h'=>h' (hw q (by simp [Sl.blk,ha,hb])).1,fun p hp=>((h.pr p hp).mono (Q':=fun q=>(T q=none/\q≠b)/\q < w1.heap.size) fun q h1 h2=>⟨h2,h1⟩).ext x fun q _ h h'=>h' h.1.1⟩
 exact ⟨h1.rd,fun p hp=>(h1.pr p hp).mono fun q _ h=>⟨(ht q h.2).trans h.1.1,h.1.2⟩⟩
end
abbrev SB:=Sl×List Int
structure LivM(h:Array Obj)(base:Nat)(o:Sl)(ocs:List Value)(l:List SB):Prop where
 own:∀ p∈l,OwnB h base p.1 p.2
 dj:l.Pairwise fun p q=>∀ b,p.1.blk=some b->q.1.blk≠some b
 out:Own h base 58 3 o ocs
theorem LivM.perm{h:Array Obj}{base:Nat}{o:Sl}{ocs:List Value}{l l':List SB}(H:LivM h base o ocs l)(p:l.Perm l'):LivM h base o ocs l' :=
 ⟨fun q hq=>H.own q (p.mem_iff.2 hq),p.pairwise H.dj fun hxy b hy hx=>hxy b hx hy,H.out⟩
theorem own_apart{h:Array Obj}{b1 b2:Nat}{e1 e2:TypeId}{z1 z2:Nat}{s1 s2:Sl}{c1 c2:List Value}(o1:Own h b1 e1 z1 s1 c1)(o2:Own h b2 e2 z2 s2 c2)(he:e1≠e2):∀ b,s1.blk=some b->s2.blk≠some b:=fun b h1 h2=>by
 rcases o1.is with ⟨rfl,_⟩ | ⟨q1,r1,a1,_,g1,_⟩
 .simp [Sl.blk] at h1
 rcases o2.is with ⟨rfl,_⟩ | ⟨q2,r2,a2,_,g2,_⟩
 .simp [Sl.blk] at h2
 simp [Sl.blk,a1] at h1
 simp [Sl.blk,a2] at h2
 subst h1; subst h2
 rw [g1] at g2
 simp only [Option.some.injEq,Obj.cells.injEq] at g2
 exact he g2.2.1
theorem LivM.put0{w w':Wd}{base:Nat}{o:Sl}{ocs:List Value}{x x':SB}{l:List SB}(h:LivM w.heap base o ocs (x::l))(hx:OwnB w'.heap base x'.1 x'.2)(hb:∀ b,x'.1.blk=some b->x.1.blk=some b∨w.heap.size<=b)(e:Ext (fun q=>x.1.blk=some q) w w'):LivM w'.heap base o ocs (x'::l):=by
 have hd:=List.pairwise_cons.1 h.dj
 have ox:=h.own x (by simp)
 refine ⟨fun p hp=>?_,List.pairwise_cons.2 ⟨fun y hy b h1 h2=>?_,hd.2⟩,h.out.ext e fun b hb1 hb2=>own_apart ox h.out (by decide) b hb2 hb1⟩
 .rcases List.mem_cons.1 hp with rfl | hp
  .exact hx
  .exact (h.own p (by simp [hp])).ext e fun b h1 h2=>hd.1 p hp b h2 h1
 .rcases hb b h1 with h3 | h3
  .exact hd.1 y hy b h3 h2
  .have:=((h.own y (by simp [hy])).lt h2).2; omega
theorem LivM.put{w w':Wd}{base:Nat}{o:Sl}{ocs:List Value}{x x':SB}{l1 l2:List SB}(h:LivM w.heap base o ocs (l1++x::l2))(hx:OwnB w'.heap base x'.1 x'.2)(hb:∀ b,x'.1.blk=some b->x.1.blk=some b∨w.heap.size<=b)(e:Ext (fun q=>x.1.blk=some q) w w'):LivM w'.heap base o ocs (l1++x'::l2) :=
 ((h.perm List.perm_middle).put0 hx hb e).perm List.perm_middle.symm
theorem LivM.ext{S:Nat->Prop}{w w':Wd}{base:Nat}{o:Sl}{ocs:List Value}{l:List SB}(h:LivM w.heap base o ocs l)(x:Ext S w w')(hS:∀ q,base<=q->q < w.heap.size->¬ S q):LivM w'.heap base o ocs l :=
 ⟨fun p hp=>(h.own p hp).ext x fun b hb=>hS b ((h.own p hp).lt hb).1 ((h.own p hp).lt hb).2,h.dj,h.out.ext x fun b hb=>hS b (h.out.lt hb).1 (h.out.lt hb).2⟩
theorem LivM.no{w w':Wd}{base:Nat}{o:Sl}{ocs:List Value}{l:List SB}(h:LivM w.heap base o ocs l)(x:Ext No w w'):LivM w'.heap base o ocs l:=h.ext x fun _ _ _ h=>h
structure LivL(w0 w:Wd)(o:Sl)(ocs:List Value)(l:List SB):Prop extends LivM w.heap w0.heap.size o ocs l where
 ext:Ext No w0 w
theorem LivL.perm{w0 w:Wd}{o:Sl}{ocs:List Value}{l l':List SB}(h:LivL w0 w o ocs l)(p:l.Perm l'):LivL w0 w o ocs l':=⟨h.toLivM.perm p,h.ext⟩
theorem LivL.put{w0 w w':Wd}{o:Sl}{ocs:List Value}{x x':SB}{l1 l2:List SB}(h:LivL w0 w o ocs (l1++x::l2))(hx:OwnB w'.heap w0.heap.size x'.1 x'.2)(hb:∀ b,x'.1.blk=some b->x.1.blk=some b∨w.heap.size<=b)(e:Ext (fun q=>x.1.blk=some q) w w'):LivL w0 w' o ocs (l1++x'::l2) :=
 ⟨h.toLivM.put hx hb e,h.ext.trans e fun q hq h1=>by have:=((h.own x (by simp)).lt h1).1; omega⟩
abbrev N0:SB:=(⟨none,0,0⟩,[])
abbrev nS(b n:Nat)(l:List Int):SB:=(⟨some ⟨b,0,none⟩,n,n⟩,l)
theorem LivL.new{w0 w:Wd}{o:Sl}{ocs:List Value}{l1 l2:List SB}{cs:List Int}{n:Nat}{K:Nat->Wd->Prop}(h:LivL w0 w o ocs (l1++N0::l2))(hn:cs.length=n)(k:∀ b w',LivL w0 w' o ocs (l1++nS b n cs::l2)->K b w'):NewW w (.cells (cs.map (Value.int .u8)).toArray 5) K :=
 NewW.mk fun b w1 n1=>k b w1 (by
  have hs:=h.ext.size
  have hb:=n1.at_
  exact h.put ((Own.new (n:=n) (sz:=1) n1 (by simpa using hn) (by simp [oneC])).mono hs) (fun q hq=>by simp [Sl.blk] at hq; omega) n1.ext.of_no)
theorem LivL.app{w0 w:Wd}{o s t:Sl}{ocs:List Value}{l1 l2:List SB}{cs ct:List Int}{x:Value}{K:Sl->Wd->Prop}(h:LivL w0 w o ocs (l1++(s,cs)::l2))(ht:RdB w.heap t ct)(hx:x = .slice t.a t.len t.cap)(hl:cs.length+ct.length<=140737488355328)
  (k:∀ s' w',LivL w0 w' o ocs (l1++(s',cs++ct)::l2)->K s' w'):AppW pz 40 40 s x K w:=by
 have ox:OwnB w.heap w0.heap.size s cs:=h.own (s,cs) (by simp)
 have l1':=OwnB.len ox; have l2':=RdB.len ht
 have hs:=h.ext.size
 subst hx
 refine app_uint8 ox hs (Rd.src ht) (by rw [l1',l2']; omega) fun s' w' o' ln e hb=>k s' w' (h.put (x':=(s',cs++ct)) (by show Own _ _ 5 1 s' ((cs++ct).map (Value.int .u8)); rw [List.map_append]; exact o') (fun b h1=>?_) e)
 rcases hb with hb | ⟨b',h2,h3⟩
 .exact .inl (by rw [<- hb]; exact h1)
 .rw [h1] at h2; cases h2; exact .inr h3
theorem LivL.cut{w0 w:Wd}{o s:Sl}{ocs:List Value}{l:List SB}{cs:List Int}{n:Int}{K:Sl->Prop}(h:LivL w0 w o ocs l)(hm:(s,cs)∈l)(hn:0<=n/\n < cs.length)(k:K ⟨s.a,n.toNat,s.cap⟩):Cut s 0 n (((s.cap:Nat):Int)) 1 K:=by
 have ox:OwnB w.heap w0.heap.size s cs:=h.own _ hm
 have hl:=OwnB.len ox
 have hc:=ox.rd.cap
 refine Cut.mk (Int.le_refl _) hn.1 (by omega) (Int.le_refl _) ?_
 have e1:cutA s.a s.cap 0 1=s.a:=by
  rcases ox.is with ⟨rfl,h2⟩ | ⟨b,rest,ha,_⟩
  .rfl
  .unfold cutA; rw [if_neg (by omega),ha]; simp [addr_add_none]
 rw [show ((s.cap:Nat):Int).toNat=s.cap from rfl,show Int.toNat 0=0 from rfl,e1,show (n - 0).toNat=n.toNat by omega,show (((s.cap:Nat):Int) - 0).toNat=s.cap by omega]
 exact k
section
variable {w0 w:Wd} {o:Sl} {ocs:List Value} {P Q R T:SB} {pv:List SB}
theorem nP{K:Nat->Wd->Prop}(h:LivL w0 w o ocs (N0::Q::R::T::pv))(k:∀ b w',LivL w0 w' o ocs (nS b 0 []::Q::R::T::pv)->K b w'):NewW w (.cells [].toArray 5) K:=LivL.new (l1:=[]) (cs:=[]) h rfl k
theorem nR{K:Nat->Wd->Prop}(h:LivL w0 w o ocs (P::Q::N0::T::pv))(k:∀ b w',LivL w0 w' o ocs (P::Q::nS b 0 []::T::pv)->K b w'):NewW w (.cells [].toArray 5) K:=LivL.new (l1:=[P,Q]) (cs:=[]) h rfl k
theorem nQ{c:Int}{K:Nat->Wd->Prop}(h:LivL w0 w o ocs (P::N0::R::T::pv))(k:∀ b w',LivL w0 w' o ocs (P::nS b 1 [c]::R::T::pv)->K b w'):NewW w (.cells [.int .u8 c].toArray 5) K:=LivL.new (l1:=[P]) (cs:=[c]) h rfl k
theorem nT{c:Int}{K:Nat->Wd->Prop}(h:LivL w0 w o ocs (P::Q::R::N0::pv))(k:∀ b w',LivL w0 w' o ocs (P::Q::R::nS b 1 [c]::pv)->K b w'):NewW w (.cells [.int .u8 c].toArray 5) K:=LivL.new (l1:=[P,Q,R]) (cs:=[c]) h rfl k
theorem aP{s t:Sl}{cs ct:List Int}{K:Sl->Wd->Prop}(h:LivL w0 w o ocs ((s,cs)::Q::R::T::pv))(ht:RdB w0.heap t ct)(hl:cs.length+ct.length<=140737488355328)(k:∀ s' w',LivL w0 w' o ocs ((s',cs++ct)::Q::R::T::pv)->K s' w'):AppW pz 40 40 s (.slice t.a t.len t.cap) K w:=LivL.app (l1:=[]) h (Rd.no ht h.ext) rfl hl k
theorem aR{s t:Sl}{cs ct:List Int}{K:Sl->Wd->Prop}(h:LivL w0 w o ocs (P::Q::(s,cs)::T::pv))(ht:RdB w0.heap t ct)(hl:cs.length+ct.length<=140737488355328)(k:∀ s' w',LivL w0 w' o ocs (P::Q::(s',cs++ct)::T::pv)->K s' w'):AppW pz 40 40 s (.slice t.a t.len t.cap) K w:=LivL.app (l1:=[P,Q]) h (Rd.no ht h.ext) rfl hl k
theorem bPQ{s:Sl}{b:Nat}{cs ct:List Int}{K:Sl->Wd->Prop}(h:LivL w0 w o ocs ((s,cs)::nS b 1 ct::R::T::pv))(hl:cs.length+ct.length<=140737488355328)(k:∀ s' w',LivL w0 w' o ocs ((s',cs++ct)::nS b 1 ct::R::T::pv)->K s' w'):AppW pz 40 40 s (.slice (some (Addr.mk b 0 none)) 1 1) K w:=LivL.app (l1:=[]) (t:=⟨some ⟨b,0,none⟩,1,1⟩) h (h.own (nS b 1 ct) (by simp)).rd rfl hl k
theorem bRT{s:Sl}{b:Nat}{cs ct:List Int}{K:Sl->Wd->Prop}(h:LivL w0 w o ocs (P::Q::(s,cs)::nS b 1 ct::pv))(hl:cs.length+ct.length<=140737488355328)(k:∀ s' w',LivL w0 w' o ocs (P::Q::(s',cs++ct)::nS b 1 ct::pv)->K s' w'):AppW pz 40 40 s (.slice (some (Addr.mk b 0 none)) 1 1) K w:=LivL.app (l1:=[P,Q]) (t:=⟨some ⟨b,0,none⟩,1,1⟩) h (h.own (nS b 1 ct) (by simp)).rd rfl hl k
theorem cP{s:Sl}{cs:List Int}{n:Int}{K:Sl->Prop}(h:LivL w0 w o ocs ((s,cs)::Q::R::T::pv))(hn:0<=n/\n < cs.length)(k:K ⟨s.a,n.toNat,s.cap⟩):Cut s 0 n (((s.cap:Nat):Int)) 1 K:=LivL.cut h (by simp) hn k
theorem cR{s:Sl}{cs:List Int}{n:Int}{K:Sl->Prop}(h:LivL w0 w o ocs (P::Q::(s,cs)::T::pv))(hn:0<=n/\n < cs.length)(k:K ⟨s.a,n.toNat,s.cap⟩):Cut s 0 n (((s.cap:Nat):Int)) 1 K:=LivL.cut h (by simp) hn k
end
structure LV where
 k:Sl
 v:Sl
 d:Bool
 key:List Int
 val:List Int
def LV.own2(x:LV):List SB:=[(x.k,x.key++[77]),(x.v,x.val++[78])]
def LV.op(x:LV):OpV:=⟨⟨x.k.a,x.key.length,x.k.cap⟩,⟨x.v.a,x.val.length,x.v.cap⟩,x.d,x.key,x.val⟩
abbrev lvCs(x:LV):List Value:=x.op.cs
theorem lvCs_len(l:List LV):∀ x∈l,(lvCs x).length=3:=fun _ _=>rfl
theorem LivL.four{w0 w:Wd}{o:Sl}{ocs:List Value}{l:List SB}(h:LivL w0 w o ocs l):LivL w0 (drewW w) o ocs (N0::N0::N0::N0::l):=by
 have hn:∀(l:List SB),(∀ p∈l,OwnB w.heap w0.heap.size p.1 p.2)->∀ p∈N0::l,OwnB w.heap w0.heap.size p.1 p.2:=fun l hl p hp=>by
  rcases List.mem_cons.1 hp with rfl | hp
  .exact Own.nil _ _ _ _
  .exact hl p hp
 have hd:∀(l:List SB),l.Pairwise (fun p q=>∀ b,p.1.blk=some b->q.1.blk≠some b)->(N0::l).Pairwise (fun p q=>∀ b,p.1.blk=some b->q.1.blk≠some b):=fun l hl=>List.pairwise_cons.2 ⟨fun q _ b hb=>by simp [Sl.blk] at hb,hl⟩
 exact ⟨⟨hn _ (hn _ (hn _ (hn _ h.own))),hd _ (hd _ (hd _ (hd _ h.dj))),h.out⟩,h.ext.drew⟩
section
variable {w0 w:Wd} {P Q R T:SB}
theorem lent_fin{o sP sR:Sl}{L:List LV}{x:OpV}{i:Int}{G:Sl->Int->Wd->Prop}{l:List SB}(h:LivL w0 w o (L.flatMap lvCs) l)(hl:l.Perm ((sP,x.key++[77])::(sR,x.val++[78])::Q::T::L.flatMap LV.own2))(hk:x.k.len=x.key.length)(hv:x.v.len=x.val.length)(hn:L.length<=1000000)(hi:0<=i/\i<=1000000)
  (k:∀ s w',LivL w0 w' s ((L++[LV.mk sP sR x.d x.key x.val]).flatMap lvCs) ((L++[LV.mk sP sR x.d x.key x.val]).flatMap LV.own2)->G s (i+1) w') :
  NewW w (.cells [.slice sP.a x.k.len sP.cap, .slice sR.a x.v.len sR.cap, .bool x.d].toArray 58) fun b w'=>Ext No w0 w'/\AppW pz 59 59 o (.slice (some (Addr.mk b 0 none)) 1 1) (fun s w''=>Ext No w0 w''/\Ar .i64 (i+1) fun z=>G s z w'') w':=by
 have h1:=h.perm hl
 have ol:o.len=L.length:=by
  have:=h.out.len
  rw [flat_len' (lvCs_len L)] at this; omega
 have hs:=h.ext.size
 refine NewW.mk fun b w1 n1=>⟨h.ext.no n1.ext,?_⟩
 have o1:=h.out.no n1.ext
 have e1:Own w1.heap w.heap.size 58 3 ⟨some ⟨b,0,none⟩,1,1⟩ [.slice sP.a x.k.len sP.cap, .slice sR.a x.v.len sR.cap, .bool x.d]:=Own.new (n:=1) (sz:=3) n1 rfl (by simp [oneC])
 have y1:=n1.ext.size
 refine app_api_Op o1 (by omega) e1.rd.src (by rw [ol]; show (L.length+1) * 56<=_; omega) fun s' w2 o2 _ x2 _=>⟨(h.ext.no n1.ext).trans x2 fun q hq hb=>by have:=(o1.lt hb).1; omega,Ar.i64 (by omega) (k s' w2 ?_)⟩
 have x02:Ext (fun q=>o.blk=some q) w w2:=n1.ext.of_no.trans x2 fun q _ h=>h
 have ap:∀ p∈l,∀ q,p.1.blk=some q->o.blk≠some q:=fun p hp=>own_apart (h.own p hp) h.out (by decide)
 have e2:(L++[LV.mk sP sR x.d x.key x.val]).flatMap LV.own2=L.flatMap LV.own2++[(sP,x.key++[77]),(sR,x.val++[78])]:=by simp [LV.own2]
 have e3:((L++[LV.mk sP sR x.d x.key x.val]).flatMap lvCs)=(L.flatMap lvCs)++[.slice sP.a x.k.len sP.cap, .slice sR.a x.v.len sR.cap, .bool x.d]:=by simp [LV.op,OpV.cs,hk,hv]
 rw [e2,e3]
 have hsub:∀ p,p∈L.flatMap LV.own2++[(sP,x.key++[77]),(sR,x.val++[78])]->p∈l:=fun p hp=>hl.mem_iff.2 (by
  rcases List.mem_append.1 hp with hp | hp
  .simp [hp]
  .simp only [List.mem_cons,List.not_mem_nil,or_false] at hp
   rcases hp with rfl | rfl <;> simp)
 refine ⟨⟨fun p hp=>(h.own p (hsub p hp)).ext x02 fun b hb ho=>ap p (hsub p hp) b hb ho,?_,o2⟩,(h.ext.no n1.ext).trans x2 fun q hq hb=>by have:=(o1.lt hb).1; omega⟩
 have hdj:=h1.dj
 have hd3:List.Pairwise (fun p q:SB=>∀ b,p.1.blk=some b->q.1.blk≠some b) ((sP,x.key++[77])::(sR,x.val++[78])::L.flatMap LV.own2):=hdj.sublist (((List.Sublist.cons _ (List.Sublist.cons _ (List.Sublist.refl _))).cons_cons _).cons_cons _)
 have hp:((sP,x.key++[77])::(sR,x.val++[78])::L.flatMap LV.own2).Perm (L.flatMap LV.own2++[(sP,x.key++[77]),(sR,x.val++[78])]):=(List.perm_append_comm (l₁:=[(sP,x.key++[77]),(sR,x.val++[78])]) (l₂:=L.flatMap LV.own2))
 exact hp.pairwise hd3 fun {a c} hac b hb hc=>hac b hc hb
end
abbrev LV.inf(x:LV):Bool×List Int×List Int:=(x.d,x.key,x.val)
abbrev opInf(x:OpV):Bool×List Int×List Int:=(x.d,x.key,x.val)
abbrev pcsN(kvs:List KV):Nat:=(kvs.map fun x=>pcs x.2).sum
theorem leafL_count{f:Pages}{t:Int}{l:List Ent}{kvs:List KV}{ps:List Rf}(h:LeafL f t l kvs ps)(he:∀ e∈l,entP 1 0 e):ps.length=pcsN kvs:=by
 induction h with
 | nil=>rfl
 | @cons e l x kvs p ps hE hL ih =>
  obtain ⟨cs,_,h2,_,h4,_⟩:=leaf_walk hE (he e (by simp))
  have:=ih fun y hy=>he y (by simp [hy])
  have h5:p.length=cs.length:=by rw [<- h2]; simp
  simp only [pcsN,List.length_append,List.map_cons,List.sum_cons] at this ⊢
  omega
theorem kidsP_count{Q:Rf->List KV->List Rf->Prop}(hQ:∀ r kv p,Q r kv p->p.length+1<=2 * kv.length+pcsN kv){l:List Ent}{kvs:List KV}{ps:List Rf}(h:KidsP Q l kvs ps):ps.length+l.length<=2 * kvs.length+pcsN kvs:=by
 induction h with
 | nil=>simp [pcsN]
 | @cons e l kv kvs p ps h lo hi r ih =>
  have:=hQ _ _ _ h
  simp only [pcsN,List.length_append,List.map_append,List.sum_append,List.length_cons] at this ih ⊢
  omega
theorem subT_few{f:Pages}{t:Int}:∀{lev:Nat}{r:Rf}{kvs:List KV}{ps:List Rf},SubT f t lev r kvs ps->ps.length+1<=2 * kvs.length+pcsN kvs
 | 0,r,kvs,ps,⟨l,ps',h1,h2,h3,h4⟩=>by
  have h5:=leafL_count h3 h1.right.lef.ent
  have h6:kvs.length≠0:=fun e=>by
   cases h3 with
   | nil=>exact h2 rfl
   | cons=>simp at e
  subst h4; simp only [List.length_cons]; omega
 | lev+1,r,kvs,ps,⟨l,ps',h1,h2,h3,h4⟩=>by
  have:=kidsP_count (fun r kv p h=>subT_few h) h3
  subst h4; simp only [List.length_cons]; omega
theorem mostP_eq(kvs:List KV):mostP kvs=1+2 * kvs.length+2 * pcsN kvs:=by
 unfold mostP pcsN
 induction kvs with
 | nil=>rfl
 | cons x l ih=>simp only [List.map_cons,List.sum_cons,List.length_cons]; omega
theorem tree_most{f:Pages}{t lev:Int}{r:Rf}{kvs:List KV}{ps:List Rf}(h:TreeT f t r lev kvs ps):ps.length<=mostP kvs/\(ps.length=0 ↔ kvs.length=0)/\(decide (r = .z/\lev=0)=decide (kvs.length=0)):=by
 have hm:=mostP_eq kvs
 rcases h with ⟨h1,h2,rfl,rfl⟩ | ⟨h1,h2,h3⟩
 .exact ⟨by simp,by simp,by simp [h1,h2]⟩
 .have h4:=subT_few h3
  have h5:kvs≠[]:=SubT.ne h3
  have h6:ps.length≠0:=by
   obtain ⟨l,ps',_,_,_,h⟩:=h3.opens2
   rw [h]; simp
  have h7:kvs.length≠0:=fun e=>h5 (List.length_eq_zero_iff.1 e)
  refine ⟨by omega,by omega,?_⟩
  rw [decide_eq_false (fun h=>h1 h.1),decide_eq_false h7]
theorem place_get{l:List KV}{key:List Int}{i:Nat}(p:PlaceP l key i)(hs:SortK l):kvGet l key=(l[i]?).bind fun x=>if x.1=key then some x.2 else none:=by
 cases hg:kvGet l key with
 | some v =>
  obtain ⟨j,hj,e⟩:=List.getElem_of_mem ((kvGet_mem hs (x:=(key,v))).2 hg)
  have e1:l[j].1=key:=by rw [e]
  have:j=i:=by
   rcases Nat.lt_trichotomy j i with h | h | h
   .have:=p.lt j hj h; rw [e1] at this; exact this.irrefl.elim
   .exact h
   .have h2:=hs.lt h hj; rw [e1] at h2; exact (p.ge (by omega) h2).elim
  subst this
  rw [List.getElem?_eq_getElem hj,e]; simp
 | none =>
  cases hi:l[i]? with
  | none=>rfl
  | some x =>
   obtain ⟨hj,e⟩:=List.getElem?_eq_some_iff.1 hi
   have hx:x∈l:=by rw [<- e]; exact List.getElem_mem hj
   simp only [Option.bind_some]
   rw [if_neg]
   intro h
   have:=(kvGet_mem hs).1 hx
   rw [h,hg] at this; cases this
section
variable {w:Wd} {T:Nat->Option Nat} {m:MemV} {M:Mm}
theorem refGet15_spec{Q:Nat->Prop}{s key:Sl}{l:List Pr}{kb:List Int}{K:Sl->Int->Wd->Prop}(hl:PrsR w.heap Q s l)(hs:SortK (kvsOf l))(hk:RdB w.heap key kb)(k8:B8 kb)(hn:l.length<=1000000)
  (k:∀ s' w',RdB w'.heap s' ((kvGet (kvsOf l) kb).getD [])->Ext No w w'->K s' (if kvGet (kvsOf l) kb=none then 7 else 0) w'):C_ref15_Get s key w K:=by
 apply S_ref15_Get
 have hsl:=hl.len
 refine place_spec hl hk k8 hn fun i w1 p x1=>?_
 have hg:=place_get p hs
 rw [List.getElem?_map] at hg
 refine ⟨fun t w'=>(∀ h:i < l.length,t=decide (l[i].2.1=kb))/\(¬ i < l.length->t=false)/\Ext No w w',⟨Ext No w1,(Ext.refl _ _).drew,If.dec (fun h=>?_) fun h=>⟨fun h2=>by omega,fun _=>rfl,x1.drew⟩⟩,?_⟩
 .have hil:i < l.length:=by omega
  refine Ix.elem (hl.rd.no x1) (prCs_len l) (by decide) (by omega) h fun bb o hi _ hc=>?_
  simp only [Int.toNat_natCast] at hi hc
  have pj:=(hl.pr _ (List.getElem_mem hil)).ext x1 fun _ _ _ h=>h
  refine ⟨_,Held.cell (hc 0 _ rfl),StrC.mk pj.k (fun bb o v hv=>heldNo hv) (StrC.mk (Rd.no hk x1) (fun bb o v hv=>heldNo hv) ?_)⟩
  rw [toList_mk,toList_mk]
  refine ⟨fun _=>?_,fun h2=>(h2 hil).elim,x1.drew⟩
  rw [Bool.eq_iff_iff,beq_iff_eq,decide_eq_true_eq]
  exact toB_inj pj.k8 k8
 rintro _ t w2 ⟨h1,h2,x2⟩
 by_cases hil:i < l.length
 .rw [h1 hil]
  rw [List.getElem?_eq_getElem hil] at hg
  simp only [Option.map_some,Option.bind_some] at hg
  refine If.dec (fun he=>?_) fun he=>?_
  .rw [if_pos he] at hg
   refine Ix.elem (hl.rd.no x2) (prCs_len l) (by decide) (by omega) (by omega) fun bb o hi _ hc=>?_
   simp only [Int.toNat_natCast] at hi hc
   have:=k l[i].1.v w2 (by rw [hg]; exact ((hl.pr _ (List.getElem_mem hil)).ext x2 fun _ _ _ h=>h).v) x2
   rw [hg,if_neg (by simp)] at this
   exact ⟨_,hc 1 _ rfl,this⟩
  .rw [if_neg he] at hg
   have:=k ⟨none,0,0⟩ w2 (by rw [hg]; exact Rd.nil _ _) x2
   rwa [if_pos hg] at this
 .rw [h2 hil]
  rw [List.getElem?_eq_none (by omega)] at hg
  simp only [Option.map_none,Option.bind_none] at hg
  have:=k ⟨none,0,0⟩ w2 (by rw [hg]; exact Rd.nil _ _) x2
  rw [if_pos hg] at this
  exact If.no this
theorem count15_spec{l:Sl}{L:List (Sl×List OpV)}{K:Int->Wd->Prop}(hL:RowsR w.heap l L)(k:∀ n:Int,(n<=300->n=(rowN L:Nat))->K n w):C_law15_count l w K:=by
 apply S_law15_count
 have hl:=hL.len
 refine ⟨fun q n i w'=>∃ j:Nat,i=j/\j<=L.length/\q=L.length - j/\n=(rowN (L.take j):Nat)/\w'=w/\rowN (L.take j)<=1152921504606846976+500,⟨L.length,0,rfl,by omega,by omega,by simp [rowN],rfl,by simp [rowN]⟩,?_⟩
 rintro _ m0 n i w1 ⟨j,rfl,hj,hq,rfl,hw1,hb⟩
 subst hw1
 refine ⟨fun w'=>w'=w1/\j < L.length/\rowN (L.take j)<=400,If.dec (fun h=>If.dec (fun h2=>⟨rfl,by omega,by omega⟩) fun h2=>k _ fun h3=>by omega) fun h=>k _ fun _=>by rw [List.take_of_length_le (by omega)],?_⟩
 rintro _ w2 ⟨hw2,hjl,h300⟩
 subst hw2
 have hLj:L[j]∈L:=List.getElem_mem hjl
 have hrl:L[j].1.len=L[j].2.length:=by have:=(hL.row _ hLj).len; rw [flat_len' (opCs_len _)] at this; omega
 have hsz:=hL.sz _ hLj
 have rt:=rowN_take hjl
 exact Ar.i64 (by omega) (Ix.row hL hjl fun bb o _ hc=>⟨_,hc,Ar.i64 (by omega) (Ar.i64 (by have:=(rowN_le (L.take j) (L.take j).length).2; simp at this; omega) ⟨L.length - (j+1),by omega,j+1,by omega,by omega,rfl,by rw [rt]; omega,rfl,by rw [rt]; omega⟩)⟩)
abbrev kV(x:OpV):Value := .slice x.k.a x.k.len x.k.cap
def fitL(L:List (Sl×List OpV)):List OpV:=(L.flatMap Prod.snd).filter fun x=>decide x.fit
theorem fitL_take{L:List (Sl×List OpV)}{j:Nat}(h:j < L.length):fitL (L.take (j+1))=fitL (L.take j)++L[j].2.filter fun x=>decide x.fit:=by
 unfold fitL
 rw [List.take_add_one,List.getElem?_eq_getElem h,Option.toList_some,List.flatMap_append,List.filter_append]
 simp
theorem fitL_len(L:List (Sl×List OpV)):(fitL L).length<=rowN L:=by
 unfold fitL rowN
 refine Nat.le_trans (List.length_filter_le _ _) ?_
 induction L with
 | nil=>simp
 | cons x L ih=>simp only [List.flatMap_cons,List.length_append,List.map_cons,List.sum_cons]; omega
set_option maxHeartbeats 1000000 in
theorem keysOf_spec{l:Sl}{L:List (Sl×List OpV)}{K:Sl->Wd->Prop}(hL:RowsR w.heap l L)(hN:rowN L<=300)(k:∀ s w',Own w'.heap w.heap.size 40 1 s ((fitL L).map kV)->Ext No w w'->K s w'):C_law15_keysOf l w K:=by
 apply S_law15_keysOf
 have hl:=hL.len
 have hNl:=(rowN_le L 0).2
 refine ⟨fun q out i w'=>∃ j:Nat,i=j/\j<=L.length/\q=L.length - j/\Own w'.heap w.heap.size 40 1 out ((fitL (L.take j)).map kV)/\Ext No w w',⟨L.length,0,rfl,by omega,by omega,Own.nil _ _ _ _,Ext.refl _ _⟩,?_⟩
 rintro _ m0 out i w1 ⟨j,rfl,hj,hq,o1,x1⟩
 refine If.dec (fun h=>?_) fun h=>k out w1 (by rwa [List.take_of_length_le (by omega)] at o1) x1
 have hjl:j < L.length:=by omega
 have hLj:L[j]∈L:=List.getElem_mem hjl
 have hrl:L[j].1.len=L[j].2.length:=by have:=(hL.row _ hLj).len; rw [flat_len' (opCs_len _)] at this; omega
 have rt:=rowN_take hjl
 have rl:=(rowN_le L (j+1)).1
 have fl:=fitL_len (L.take j)
 refine ⟨fun q out i w'=>∃ n:Nat,i=n/\n<=L[j].2.length/\q=L[j].2.length - n/\Own w'.heap w.heap.size 40 1 out ((fitL (L.take j)++(L[j].2.take n).filter fun x=>decide x.fit).map kV)/\Ext No w w',⟨L[j].2.length,0,rfl,by omega,by omega,by simpa using o1,x1⟩,?_⟩
 rintro _ m1 out2 i2 w2 ⟨n,rfl,hn,hq2,o2,x2⟩
 have hL2:=hL.no x2
 refine Ix.row hL2 hjl fun bb o _ hc=>⟨_,hc,If.dec (fun h2=>?_) fun h2=>Ar.i64 (by omega) ⟨L.length - (j+1),by omega,j+1,by omega,by omega,rfl,?_,x2⟩⟩
 .have hnl:n < L[j].2.length:=by omega
  refine Ix.row hL2 hjl fun bb o _ hc=>⟨_,hc,?_⟩
  have hrow:=hL2.row _ hLj
  refine Ix.elem hrow (opCs_len _) (by decide) (by omega) h2 fun bb o hi _ hc=>?_
  simp only [Int.toNat_natCast] at hi hc
  have ox:=hL2.op _ hLj _ (List.getElem_mem hnl)
  have et:(L[j].2.take (n+1)).filter (fun x=>decide x.fit)=(L[j].2.take n).filter (fun x=>decide x.fit)++[L[j].2[n]].filter fun x=>decide x.fit:=by
   rw [List.take_add_one,List.getElem?_eq_getElem hnl,Option.toList_some,List.filter_append]
  refine ⟨_,hc 0 _ rfl,_,hc 1 _ rfl,_,hc 2 _ rfl,refRight_spec (RdB.len ox.k) (RdB.len ox.v) fun w3 x3=>If.dec (fun hf=>?_) fun hf=>Ar.i64 (by omega) ⟨L[j].2.length - (n+1),by omega,n+1,by omega,by omega,rfl,?_,x2.no x3⟩⟩
  .refine Ix.row (hL2.no x3) hjl fun bb o _ hc=>⟨_,hc,?_⟩
   refine Ix.elem (hrow.no x3) (opCs_len _) (by decide) (by omega) h2 fun bb o hi _ hc=>?_
   simp only [Int.toNat_natCast] at hi hc
   refine ⟨_,hc 0 _ rfl,NewW.mk fun b w4 n4=>?_⟩
   have o4:=(o2.no x3).no n4.ext
   have e4:Own w4.heap w3.heap.size 40 1 ⟨some ⟨b,0,none⟩,1,1⟩ [kV L[j].2[n]]:=Own.new (n:=1) (sz:=1) n4 rfl (by simp [oneC])
   have y2:=x2.size; have y3:=x3.size; have z4:=n4.size
   have ol:=o2.len
   have fl2:=List.length_filter_le (fun x:OpV=>decide x.fit) (L[j].2.take n)
   simp only [List.length_map,List.length_append,List.length_take] at ol fl2
   refine app_sl_uint8 o4 (by omega) e4.rd.src (by show (out2.len+1) * 24<=_; omega) fun s' w5 o5 _ x5 _=>Ar.i64 (by omega) ⟨L[j].2.length - (n+1),by omega,n+1,by omega,by omega,rfl,?_,((x2.no x3).no n4.ext).trans x5 fun q hq h=>by have:=(o4.lt h).1; omega⟩
   rw [et,List.filter_cons_of_pos (by simpa using hf),List.filter_nil,<- List.append_assoc,List.map_append]
   exact o5
  .rw [et,List.filter_cons_of_neg (by simpa using hf),List.filter_nil,List.append_nil]
   exact o2.no x3
 .have hnl:n=L[j].2.length:=by omega
  rw [hnl,List.take_of_length_le (Nat.le_refl _)] at o2
  rw [fitL_take hjl]; exact o2
end
section
variable {w:Wd} {T:Nat->Option Nat} {m:MemV} {M:Mm}
set_option maxHeartbeats 2000000 in
theorem holds_spec{Q:Nat->Prop}{t lev:Int}{r:Rf}{ps:List Rf}{wv keys:Sl}{lp:List Pr}{ks:List OpV}{K:Bool->Wd->Prop}(R:MemR w.heap T m M)(hT:TreeT M.f t r lev (kvsOf lp) ps)(hlev:lev<=30)(prs:PrsR w.heap Q wv lp)(so:SortK (kvsOf lp))(vl:∀ x∈kvsOf lp,x.2.length<=1024)(hlp:lp.length<=1000)(hpl:ps.length<=900000)
  (hk:Rd w.heap keys 1 (ks.map kV)) (hx:∀ x∈ks,OpA w.heap x/\x.fit) (hn:ks.length<=1000) (k:∀ w',Ext No w w'->K true w'):C_law15_holds (some ⟨m.bm,0,none⟩) t r.p r.c r.g lev wv keys w K:=by
 apply S_law15_holds
 have hkl:keys.len=ks.length:=by have:=hk.len; simp at this; omega
 refine NewW.mk fun b w1 n1=>?_
 have hb:=n1.at_; have z1:=n1.size
 refine ⟨fun q i w'=>∃ j:Nat,i=j/\j<=ks.length/\q=ks.length - j/\Ext No w1 w',⟨ks.length,0,rfl,by omega,by omega,Ext.refl _ _⟩,?_⟩
 rintro _ m0 i w2 ⟨j,rfl,hj,hq,x2⟩
 have g2:=get_no n1.get x2
 have x02:=n1.ext.no x2
 refine If.dec (fun h=>?_) fun h=>?_
 .have hjl:j < ks.length:=by omega
  obtain ⟨ox,fx⟩:=hx _ (List.getElem_mem hjl)
  have hkc:∀{w3:Wd}{K':Addr->Prop},Ext No w w3->(∀ bb o,Cell w3 ⟨bb,o,none⟩ (.slice ks[j].k.a ks[j].k.len ks[j].k.cap)->K' ⟨bb,o,none⟩)->Ix keys.a keys.len (j:Nat) 1 K':=fun x kk =>
   Ix.cell (hk.no x) (by omega) (by omega) fun bb o v _ hv hc=>by
    simp only [Int.toNat_natCast,List.getElem?_map,List.getElem?_eq_getElem hjl,Option.map_some,Option.some.injEq] at hv
    subst hv
    exact kk bb o hc
  refine ⟨Ext No w2,(Ext.refl _ _).drew,_,Held.cell (Cell.lst g2 rfl),_,Held.cell (Cell.lst g2 rfl),_,Held.cell (Cell.lst g2 rfl),_,Held.cell (Cell.lst g2 rfl),hkc x02 fun bb o hc=>⟨_,Held.cell hc,?_⟩⟩
  have R2:MemR (drewW w2).heap T m M:=R.no x02.drew
  refine treeGet_val (w:=drewW w2) R2 hT hlev (Rd.no ox.k x02.drew) ox.k8 fx.1 fun s w3 o3 x3=>?_
  have x23:Ext No w2 w3:=x3.drew_left
  have o3':OwnB w3.heap w2.heap.size s ((kvGet (kvsOf lp) ks[j].key).getD []):=o3
  have x03:=x02.no x23
  refine ⟨x23,hkc x03 fun bb o hc=>⟨_,hc,refGet15_spec (prs.no x03) so (Rd.no ox.k x03) ox.k8 (by omega) fun s4 w4 r4 x4=>?_⟩⟩
  have x24:=x23.no x4
  have o4:=o3'.no x4
  refine ⟨fun w'=>w'=w4,?_,?_⟩
  .refine StrC.mk o4.rd (fun bb o v hv=>cellOf hv) (StrC.mk r4 (fun bb o v hv=>cellOf hv) ?_)
   rw [beq_self_eq_true]
   exact If.no (If.bne (fun h=>(h rfl).elim) fun _=>rfl)
  rintro _ w5 rfl
  have hvv:((kvGet (kvsOf lp) ks[j].key).getD []).length<=1024:=by
   cases hg:kvGet (kvsOf lp) ks[j].key with
   | none=>simp
   | some v=>exact vl (ks[j].key,v) ((kvGet_mem so).2 hg)
  generalize (kvGet (kvsOf lp) ks[j].key).getD []=vv at o4 hvv
  have hs:=OwnB.len o4
  have rc:=o4.rd.cap
  refine ⟨fun q i w'=>∃ (n:Nat) (l:List Int),i=n/\n<=s.len/\q=s.len - n/\l.length=s.len/\OwnB w'.heap w2.heap.size s l/\Ext No w2 w',⟨s.len,0,vv,rfl,by omega,by omega,hs.symm,o4,x24⟩,?_⟩
  rintro _ m1 i2 w6 ⟨n,l,rfl,hn2,hq2,hl2,o6,x6⟩
  refine If.dec (fun h2=>Ix.int o6.rd (by omega) h2 fun bb o _ hc=>⟨_,hc,Ar.u8m (St1.own o6 (by omega) h2 rfl fun w7 o7 x7 z7=>Ar.i64 (by omega) ⟨s.len - (n+1),by omega,n+1,_,by omega,by omega,rfl,?_,by rw [map_set_u8] at o7; exact o7,x6.trans x7 fun q hq h=>by have:=(o6.lt h).1; omega⟩)⟩) fun h2=>Ar.i64 (by omega) ⟨ks.length - (j+1),by omega,j+1,by omega,by omega,rfl,x2.no x6⟩
  rw [List.length_set]; exact hl2
 refine ⟨_,Cell.lst g2 rfl,_,Cell.lst g2 rfl,_,Cell.lst g2 rfl,_,Cell.lst g2 rfl,?_⟩
 refine labels_spec (R.no x02) hT hlev hpl fun s8 Ls w8 hLs _ hL0 o8 x8=>?_
 have hsl:s8.len=ps.length:=by have:=o8.len; rw [flat_len' (labCs_len _)] at this; rw [<- hLs]; simp; omega
 have sl:=prs.len
 have g8:=get_no g2 x8
 obtain ⟨t1,t2,t3⟩:=tree_most hT
 have hk2:(kvsOf lp).length=lp.length:=by simp
 rw [hk2] at t2 t3
 refine ⟨fun w'=>Ext No w8 w',If.bne (fun h=>(h rfl).elim) fun _=>refMost_spec (prs.no (x02.no x8)) vl (by omega) fun w9 x9=>If.dec (fun h=>by omega) fun _=>?_,?_⟩
 .have e1:(((s8.len:Int) == 0) == ((wv.len:Int) == 0))=true:=by
   rw [beq_iff_eq,Bool.eq_iff_iff,beq_iff_eq,beq_iff_eq]; omega
  rw [e1]
  have g9:=get_no g8 x9
  refine If.no ⟨_,Cell.lst g9 rfl,_,Cell.lst g9 rfl,_,Cell.lst g9 rfl,_,Cell.lst g9 rfl,?_⟩
  have e2:((((r.p == 0) && ((r.c == 0) && ((r.g == 0) && true))) && ((lev == 0) && true)) == ((wv.len:Int) == 0))=true:=by
   rw [beq_iff_eq,z_iff]
   rw [Bool.eq_iff_iff,beq_iff_eq]
   have:=decide_eq_decide.1 t3
   simp only [Bool.and_eq_true,decide_eq_true_eq,beq_iff_eq,and_true]
   rw [this]; omega
  rw [e2]
  exact If.no x9
 rintro _ w10 x10
 have x010:=(x02.no x8).no x10
 refine ⟨Ext No w10,(Ext.refl _ _).drew,If.beq (fun _=>k _ x010.drew) fun hne=>?_⟩
 have o10:=o8.no x10
 have hL:0 < Ls.length:=by have:=congrArg List.length hLs; simp at this; omega
 obtain ⟨e1,e2⟩:=hL0 Ls[0] (List.getElem?_eq_getElem hL)
 have g10:=get_no g8 x10
 refine Ix.elem o10.rd (labCs_len Ls) (by decide) (by omega) (by omega) fun bb o hi _ hc=>?_
 refine ⟨_,Held.cell (hc 3 _ rfl),_,Held.cell (hc 4 _ rfl),_,Held.cell (hc 5 _ rfl),_,Held.cell (Cell.lst g10 rfl),_,Held.cell (Cell.lst g10 rfl),_,Held.cell (Cell.lst g10 rfl),?_⟩
 have ei:Ls[(0:Int).toNat]=Ls[0]:=rfl
 rw [ei,e1]
 simp only [beq_self_eq_true,Bool.and_self]
 refine If.yes (Ix.elem o10.rd (labCs_len Ls) (by decide) (by omega) (by omega) fun bb o hi _ hc=>⟨_,Held.cell (hc 2 _ rfl),_,Held.cell (Cell.lst g10 rfl),?_⟩)
 have:=k (drewW w10) x010.drew
 rw [show Ls[(0:Int).toNat].v=lev from e2,beq_self_eq_true]
 exact this
end
end Go.Proofs.YtcamoanigdfihaaGreat
namespace Go.V
theorem TreeT.keep2{f f':Pages}{t:Int}{r:Rf}{lev:Int}{kvs:List KV}{ps:List Rf}(h:TreeT f t r lev kvs ps)(k:Keep f f' ps):TreeT f' t r lev kvs ps:=by
 rcases h with h | ⟨a,b,c⟩
 .exact .inl h
 .exact .inr ⟨a,b,c.keep k⟩
theorem ChgW.keep{M M':Mm}{n:Nat}{ps ps' qs:List Rf}(c:ChgW M M' n ps ps')(hc:∀ p∈M.pages,p.2.r.c < M.commit):Keep M.f M'.f qs:=fun r _ p hp _=>c.kp _ p hp (by
 have h:=hc _ (pgA_mem hp)
 have h2:p.r.c < M.commit:=h
 omega)
end Go.V
namespace Go.Proofs.YtcamoanigdfihaaGreat
open Go.V
theorem opsL_inf{xs ys:List OpV}(h:xs.map opInf=ys.map opInf)(kvs:List KV):opsL xs kvs=opsL ys kvs:=by
 have e:∀ l:List OpV,opsL l kvs=(l.map opInf).foldl (fun a p=>kvOp p.2.1 (opV p.1 p.2.2) a) kvs:=fun l=>by
  unfold opsL; rw [List.foldl_map]
 rw [e,e,h]
theorem inf_mem{xs ys:List OpV}{P:Bool×List Int×List Int->Prop}(h:xs.map opInf=ys.map opInf)(hy:∀ y∈ys,P (opInf y)):∀ x∈xs,P (opInf x):=fun x hx=>by
 have h1:opInf x∈ys.map opInf:=by rw [<- h]; exact List.mem_map.2 ⟨x,hx,rfl⟩
 obtain ⟨y,h2,h3⟩:=List.mem_map.1 h1
 rw [<- h3]; exact hy y h2
def fitI(p:Bool×List Int×List Int):Prop:=(1<=p.2.1.length/\p.2.1.length<=32)/\p.2.2.length<=1024/\(p.1=true->p.2.2.length=0)
theorem inf_fit{xs ys:List OpV}(h:xs.map opInf=ys.map opInf)(hy:∀ y∈ys,y.fit):∀ x∈xs,x.fit:=inf_mem (P:=fitI) h hy
theorem own_short{h:Array Obj}{base:Nat}{s:Sl}{l:List Int}{c:Int}(o:OwnB h base s (l++[c])):RdB h ⟨s.a,l.length,s.cap⟩ l:=by
 have hl:=OwnB.len o
 have hc:=o.rd.cap
 simp only [List.length_append,List.length_singleton] at hl
 rcases o.is with ⟨_,h2⟩ | ⟨b,rest,ha,_⟩
 .simp at h2
 .have r:=Rd.cut o.rd (lo:=0) (hi:=l.length) (mx:=s.cap) (Nat.zero_le _) (by omega) (by omega)
  have e1:cutA s.a s.cap 0 1=s.a:=by
   unfold cutA; split
   .rfl
   .rw [ha]; simp [addr_add_none]
  rw [e1] at r
  simpa using r
theorem lent_ops{w0 w:Wd}{T:Nat->Option Nat}{s:Sl}{L:List LV}{xs:List OpV}(H:LivL w0 w s (L.flatMap lvCs) (L.flatMap LV.own2))(hi:L.map LV.inf=xs.map opInf)(h8:∀ x∈xs,B8 x.key/\B8 x.val)(hT:∀ q,w0.heap.size<=q->T q=none) :
  Rd w.heap s 3 ((L.map LV.op).flatMap OpV.cs)/\(∀ x∈L.map LV.op,OpR w.heap T x)/\(L.map LV.op).map opInf=xs.map opInf/\(L.map LV.op).length=xs.length:=by
 have e:(L.map LV.op).map opInf=xs.map opInf:=by rw [List.map_map,<- hi]; rfl
 refine ⟨by rw [List.flatMap_map]; exact H.out.rd,fun x hx=>?_,e,by have:=congrArg List.length e; simpa using this⟩
 obtain ⟨b1,b2⟩:=inf_mem (P:=fun p=>B8 p.2.1/\B8 p.2.2) e h8 x hx
 obtain ⟨y,hy,rfl⟩:=List.mem_map.1 hx
 have m1:(y.k,y.key++[77])∈L.flatMap LV.own2:=List.mem_flatMap.2 ⟨y,hy,by simp [LV.own2]⟩
 have m2:(y.v,y.val++[78])∈L.flatMap LV.own2:=List.mem_flatMap.2 ⟨y,hy,by simp [LV.own2]⟩
 have o1:=H.own _ m1
 have o2:=H.own _ m2
 exact ⟨own_short o1,own_short o2,b1,b2,fun _ q hq=>⟨hT q (o1.lt hq).1,(o1.lt hq).2⟩,fun _ q hq=>⟨hT q (o2.lt hq).1,(o2.lt hq).2⟩⟩
section
variable {w0 w:Wd} {L:List LV} {x:OpV} {E:LnE} {Q T:SB}
structure LFx(w0:Wd)(L:List LV)(x:OpV)(E:LnE):Prop where
 s:∀{w},Ext No w0 w->E.S w
 rk:RdB w0.heap E.k x.key
 rv:RdB w0.heap E.v x.val
 zk:([]:List Int).length+x.key.length<=140737488355328
 zv:([]:List Int).length+x.val.length<=140737488355328
 lk:([]++x.key).length+[(77:Int)].length<=140737488355328
 lv:([]++x.val).length+[(78:Int)].length<=140737488355328
 ck:0<=(E.k'.len:Int)/\(E.k'.len:Int) < ((([]++x.key)++[(77:Int)]).length:Int)
 cv:0<=(E.v'.len:Int)/\(E.v'.len:Int) < ((([]++x.val)++[(78:Int)]).length:Int)
 fin:∀{w:Wd}{Q T:SB}(p r:Sl),LivL w0 w E.o (L.flatMap lvCs) ((p,[]++x.key++[77])::Q::(r,[]++x.val++[78])::T::L.flatMap LV.own2)->E.f w ⟨p.a,E.k'.len,p.cap⟩ ⟨r.a,E.v'.len,r.cap⟩
theorem d4242{p:Sl}{r:Sl}(F:LFx w0 L x E)(h:LivL w0 w E.o (L.flatMap lvCs) ((p,[]++x.key++[77])::Q::(r,[]++x.val++[78])::T::L.flatMap LV.own2)):D4242 E w ⟨p.a,E.k'.len,p.cap⟩ ⟨r.a,E.v'.len,r.cap⟩:=F.fin p r h
theorem d4221{p:Sl}{r:Sl}{t:Nat}(F:LFx w0 L x E)(h:LivL w0 w E.o (L.flatMap lvCs) ((p,[]++x.key++[77])::Q::(r,[]++x.val)::nS t 1 [78]::L.flatMap LV.own2)):D4221 E w ⟨p.a,E.k'.len,p.cap⟩ r t:=bRT h F.lv fun _ _ h=>⟨F.s h.ext,cR h F.cv (d4242 F h)⟩
theorem d4220{p:Sl}{r:Sl}(F:LFx w0 L x E)(h:LivL w0 w E.o (L.flatMap lvCs) ((p,[]++x.key++[77])::Q::(r,[]++x.val)::N0::L.flatMap LV.own2)):D4220 E w ⟨p.a,E.k'.len,p.cap⟩ r:=nT h fun _ _ h=>⟨F.s h.ext,d4221 F h⟩
theorem d4211{p:Sl}{r:Nat}{t:Nat}(F:LFx w0 L x E)(h:LivL w0 w E.o (L.flatMap lvCs) ((p,[]++x.key++[77])::Q::nS r 0 []::nS t 1 [78]::L.flatMap LV.own2)):D4211 E w ⟨p.a,E.k'.len,p.cap⟩ r t:=aR h F.rv F.zv fun _ _ h=>⟨F.s h.ext,d4221 F h⟩
theorem d4210{p:Sl}{r:Nat}(F:LFx w0 L x E)(h:LivL w0 w E.o (L.flatMap lvCs) ((p,[]++x.key++[77])::Q::nS r 0 []::N0::L.flatMap LV.own2)):D4210 E w ⟨p.a,E.k'.len,p.cap⟩ r:=⟨aR h F.rv F.zv fun _ _ h=>⟨F.s h.ext,d4220 F h⟩,nT h fun _ _ h=>⟨F.s h.ext,d4211 F h⟩⟩
theorem d4201{p:Sl}{t:Nat}(F:LFx w0 L x E)(h:LivL w0 w E.o (L.flatMap lvCs) ((p,[]++x.key++[77])::Q::N0::nS t 1 [78]::L.flatMap LV.own2)):D4201 E w ⟨p.a,E.k'.len,p.cap⟩ t:=nR h fun _ _ h=>⟨F.s h.ext,d4211 F h⟩
theorem d4200{p:Sl}(F:LFx w0 L x E)(h:LivL w0 w E.o (L.flatMap lvCs) ((p,[]++x.key++[77])::Q::N0::N0::L.flatMap LV.own2)):D4200 E w ⟨p.a,E.k'.len,p.cap⟩:=⟨nR h fun _ _ h=>⟨F.s h.ext,d4210 F h⟩,nT h fun _ _ h=>⟨F.s h.ext,d4201 F h⟩⟩
theorem d2111{p:Sl}{q:Nat}{r:Nat}{t:Nat}(F:LFx w0 L x E)(h:LivL w0 w E.o (L.flatMap lvCs) ((p,[]++x.key)::nS q 1 [77]::nS r 0 []::nS t 1 [78]::L.flatMap LV.own2)):D2111 E w p q r t:=bPQ h F.lk fun _ _ h=>⟨F.s h.ext,cP h F.ck (d4211 F h)⟩
theorem d2110{p:Sl}{q:Nat}{r:Nat}(F:LFx w0 L x E)(h:LivL w0 w E.o (L.flatMap lvCs) ((p,[]++x.key)::nS q 1 [77]::nS r 0 []::N0::L.flatMap LV.own2)):D2110 E w p q r:=⟨bPQ h F.lk fun _ _ h=>⟨F.s h.ext,cP h F.ck (d4210 F h)⟩,nT h fun _ _ h=>⟨F.s h.ext,d2111 F h⟩⟩
theorem d2101{p:Sl}{q:Nat}{t:Nat}(F:LFx w0 L x E)(h:LivL w0 w E.o (L.flatMap lvCs) ((p,[]++x.key)::nS q 1 [77]::N0::nS t 1 [78]::L.flatMap LV.own2)):D2101 E w p q t:=⟨bPQ h F.lk fun _ _ h=>⟨F.s h.ext,cP h F.ck (d4201 F h)⟩,nR h fun _ _ h=>⟨F.s h.ext,d2111 F h⟩⟩
theorem d2100{p:Sl}{q:Nat}(F:LFx w0 L x E)(h:LivL w0 w E.o (L.flatMap lvCs) ((p,[]++x.key)::nS q 1 [77]::N0::N0::L.flatMap LV.own2)):D2100 E w p q:=⟨bPQ h F.lk fun _ _ h=>⟨F.s h.ext,cP h F.ck (d4200 F h)⟩,nR h fun _ _ h=>⟨F.s h.ext,d2110 F h⟩,nT h fun _ _ h=>⟨F.s h.ext,d2101 F h⟩⟩
theorem d2011{p:Sl}{r:Nat}{t:Nat}(F:LFx w0 L x E)(h:LivL w0 w E.o (L.flatMap lvCs) ((p,[]++x.key)::N0::nS r 0 []::nS t 1 [78]::L.flatMap LV.own2)):D2011 E w p r t:=nQ h fun _ _ h=>⟨F.s h.ext,d2111 F h⟩
theorem d2010{p:Sl}{r:Nat}(F:LFx w0 L x E)(h:LivL w0 w E.o (L.flatMap lvCs) ((p,[]++x.key)::N0::nS r 0 []::N0::L.flatMap LV.own2)):D2010 E w p r:=⟨nQ h fun _ _ h=>⟨F.s h.ext,d2110 F h⟩,nT h fun _ _ h=>⟨F.s h.ext,d2011 F h⟩⟩
theorem d2001{p:Sl}{t:Nat}(F:LFx w0 L x E)(h:LivL w0 w E.o (L.flatMap lvCs) ((p,[]++x.key)::N0::N0::nS t 1 [78]::L.flatMap LV.own2)):D2001 E w p t:=⟨nQ h fun _ _ h=>⟨F.s h.ext,d2101 F h⟩,nR h fun _ _ h=>⟨F.s h.ext,d2011 F h⟩⟩
theorem d2000{p:Sl}(F:LFx w0 L x E)(h:LivL w0 w E.o (L.flatMap lvCs) ((p,[]++x.key)::N0::N0::N0::L.flatMap LV.own2)):D2000 E w p:=⟨nQ h fun _ _ h=>⟨F.s h.ext,d2100 F h⟩,nR h fun _ _ h=>⟨F.s h.ext,d2010 F h⟩,nT h fun _ _ h=>⟨F.s h.ext,d2001 F h⟩⟩
theorem d1111{p:Nat}{q:Nat}{r:Nat}{t:Nat}(F:LFx w0 L x E)(h:LivL w0 w E.o (L.flatMap lvCs) (nS p 0 []::nS q 1 [77]::nS r 0 []::nS t 1 [78]::L.flatMap LV.own2)):D1111 E w p q r t:=aP h F.rk F.zk fun _ _ h=>⟨F.s h.ext,d2111 F h⟩
theorem d1110{p:Nat}{q:Nat}{r:Nat}(F:LFx w0 L x E)(h:LivL w0 w E.o (L.flatMap lvCs) (nS p 0 []::nS q 1 [77]::nS r 0 []::N0::L.flatMap LV.own2)):D1110 E w p q r:=⟨aP h F.rk F.zk fun _ _ h=>⟨F.s h.ext,d2110 F h⟩,nT h fun _ _ h=>⟨F.s h.ext,d1111 F h⟩⟩
theorem d1101{p:Nat}{q:Nat}{t:Nat}(F:LFx w0 L x E)(h:LivL w0 w E.o (L.flatMap lvCs) (nS p 0 []::nS q 1 [77]::N0::nS t 1 [78]::L.flatMap LV.own2)):D1101 E w p q t:=⟨aP h F.rk F.zk fun _ _ h=>⟨F.s h.ext,d2101 F h⟩,nR h fun _ _ h=>⟨F.s h.ext,d1111 F h⟩⟩
theorem d1100{p:Nat}{q:Nat}(F:LFx w0 L x E)(h:LivL w0 w E.o (L.flatMap lvCs) (nS p 0 []::nS q 1 [77]::N0::N0::L.flatMap LV.own2)):D1100 E w p q:=⟨aP h F.rk F.zk fun _ _ h=>⟨F.s h.ext,d2100 F h⟩,nR h fun _ _ h=>⟨F.s h.ext,d1110 F h⟩,nT h fun _ _ h=>⟨F.s h.ext,d1101 F h⟩⟩
theorem d1011{p:Nat}{r:Nat}{t:Nat}(F:LFx w0 L x E)(h:LivL w0 w E.o (L.flatMap lvCs) (nS p 0 []::N0::nS r 0 []::nS t 1 [78]::L.flatMap LV.own2)):D1011 E w p r t:=⟨aP h F.rk F.zk fun _ _ h=>⟨F.s h.ext,d2011 F h⟩,nQ h fun _ _ h=>⟨F.s h.ext,d1111 F h⟩⟩
theorem d1010{p:Nat}{r:Nat}(F:LFx w0 L x E)(h:LivL w0 w E.o (L.flatMap lvCs) (nS p 0 []::N0::nS r 0 []::N0::L.flatMap LV.own2)):D1010 E w p r:=⟨aP h F.rk F.zk fun _ _ h=>⟨F.s h.ext,d2010 F h⟩,nQ h fun _ _ h=>⟨F.s h.ext,d1110 F h⟩,nT h fun _ _ h=>⟨F.s h.ext,d1011 F h⟩⟩
theorem d1001{p:Nat}{t:Nat}(F:LFx w0 L x E)(h:LivL w0 w E.o (L.flatMap lvCs) (nS p 0 []::N0::N0::nS t 1 [78]::L.flatMap LV.own2)):D1001 E w p t:=⟨aP h F.rk F.zk fun _ _ h=>⟨F.s h.ext,d2001 F h⟩,nQ h fun _ _ h=>⟨F.s h.ext,d1101 F h⟩,nR h fun _ _ h=>⟨F.s h.ext,d1011 F h⟩⟩
theorem d1000{p:Nat}(F:LFx w0 L x E)(h:LivL w0 w E.o (L.flatMap lvCs) (nS p 0 []::N0::N0::N0::L.flatMap LV.own2)):D1000 E w p:=⟨aP h F.rk F.zk fun _ _ h=>⟨F.s h.ext,d2000 F h⟩,nQ h fun _ _ h=>⟨F.s h.ext,d1100 F h⟩,nR h fun _ _ h=>⟨F.s h.ext,d1010 F h⟩,nT h fun _ _ h=>⟨F.s h.ext,d1001 F h⟩⟩
theorem d0111{q:Nat}{r:Nat}{t:Nat}(F:LFx w0 L x E)(h:LivL w0 w E.o (L.flatMap lvCs) (N0::nS q 1 [77]::nS r 0 []::nS t 1 [78]::L.flatMap LV.own2)):D0111 E w q r t:=nP h fun _ _ h=>⟨F.s h.ext,d1111 F h⟩
theorem d0110{q:Nat}{r:Nat}(F:LFx w0 L x E)(h:LivL w0 w E.o (L.flatMap lvCs) (N0::nS q 1 [77]::nS r 0 []::N0::L.flatMap LV.own2)):D0110 E w q r:=⟨nP h fun _ _ h=>⟨F.s h.ext,d1110 F h⟩,nT h fun _ _ h=>⟨F.s h.ext,d0111 F h⟩⟩
theorem d0101{q:Nat}{t:Nat}(F:LFx w0 L x E)(h:LivL w0 w E.o (L.flatMap lvCs) (N0::nS q 1 [77]::N0::nS t 1 [78]::L.flatMap LV.own2)):D0101 E w q t:=⟨nP h fun _ _ h=>⟨F.s h.ext,d1101 F h⟩,nR h fun _ _ h=>⟨F.s h.ext,d0111 F h⟩⟩
theorem d0100{q:Nat}(F:LFx w0 L x E)(h:LivL w0 w E.o (L.flatMap lvCs) (N0::nS q 1 [77]::N0::N0::L.flatMap LV.own2)):D0100 E w q:=⟨nP h fun _ _ h=>⟨F.s h.ext,d1100 F h⟩,nR h fun _ _ h=>⟨F.s h.ext,d0110 F h⟩,nT h fun _ _ h=>⟨F.s h.ext,d0101 F h⟩⟩
theorem d0011{r:Nat}{t:Nat}(F:LFx w0 L x E)(h:LivL w0 w E.o (L.flatMap lvCs) (N0::N0::nS r 0 []::nS t 1 [78]::L.flatMap LV.own2)):D0011 E w r t:=⟨nP h fun _ _ h=>⟨F.s h.ext,d1011 F h⟩,nQ h fun _ _ h=>⟨F.s h.ext,d0111 F h⟩⟩
theorem d0010{r:Nat}(F:LFx w0 L x E)(h:LivL w0 w E.o (L.flatMap lvCs) (N0::N0::nS r 0 []::N0::L.flatMap LV.own2)):D0010 E w r:=⟨nP h fun _ _ h=>⟨F.s h.ext,d1010 F h⟩,nQ h fun _ _ h=>⟨F.s h.ext,d0110 F h⟩,nT h fun _ _ h=>⟨F.s h.ext,d0011 F h⟩⟩
theorem d0001{t:Nat}(F:LFx w0 L x E)(h:LivL w0 w E.o (L.flatMap lvCs) (N0::N0::N0::nS t 1 [78]::L.flatMap LV.own2)):D0001 E w t:=⟨nP h fun _ _ h=>⟨F.s h.ext,d1001 F h⟩,nQ h fun _ _ h=>⟨F.s h.ext,d0101 F h⟩,nR h fun _ _ h=>⟨F.s h.ext,d0011 F h⟩⟩
theorem d0000(F:LFx w0 L x E)(h:LivL w0 w E.o (L.flatMap lvCs) (N0::N0::N0::N0::L.flatMap LV.own2)):D0000 E w:=⟨nP h fun _ _ h=>⟨F.s h.ext,d1000 F h⟩,nQ h fun _ _ h=>⟨F.s h.ext,d0100 F h⟩,nR h fun _ _ h=>⟨F.s h.ext,d0010 F h⟩,nT h fun _ _ h=>⟨F.s h.ext,d0001 F h⟩⟩
end
section
variable {w:Wd}
set_option maxHeartbeats 20000000 in
theorem lent_spec{l:Sl}{xs:List OpV}{K:Sl->Wd->Prop}(hl:Rd w.heap l 3 (xs.flatMap OpV.cs))(hx:∀ x∈xs,OpA w.heap x)(hz:∀ x∈xs,x.key.length<=140737488351232/\x.val.length<=140737488351232)(hn:xs.length<=1000)
  (k:∀ s (L:List LV) w',L.map LV.inf=xs.map opInf->LivL w w' s (L.flatMap lvCs) (L.flatMap LV.own2)->K s w'):C_law15_lent l w K:=by
 apply S_law15_lent
 have hol:l.len=xs.length:=by have:=hl.len; rw [flat_len' (opCs_len xs)] at this; omega
 obtain ⟨I,hI⟩ : ∃ I:Nat->Sl->Int->Wd->Prop,I=fun q out (i:Int) w'=>∃ (j:Nat) (L:List LV),i=j/\j<=xs.length/\q=xs.length - j/\L.map LV.inf=(xs.take j).map opInf/\LivL w w' out (L.flatMap lvCs) (L.flatMap LV.own2):=⟨_,rfl⟩
 refine ⟨I,by rw [hI]; exact ⟨xs.length,0,[],rfl,by omega,by omega,rfl,⟨by simp, .nil,Own.nil _ _ _ _⟩,Ext.refl _ _⟩,?_⟩
 intro _ m0 out i w1 hi
 rw [hI] at hi
 obtain ⟨j,L,rfl,hj,hq,hL,h1⟩:=hi
 have hLl:L.length=j:=by have:=congrArg List.length hL; simp at this; omega
 refine If.dec (fun h=>?_) fun h=>k out L w1 (by rw [hL,List.take_of_length_le (by omega)]) h1
 have hjl:j < xs.length:=by omega
 refine ⟨Ext No w,h1.ext.drew,?_⟩
 refine Ix.elem hl (opCs_len xs) (by decide) (by omega) h fun bb o hi _ hc=>⟨_,Held.cell (hc 0 _ rfl),Ix.elem hl (opCs_len xs) (by decide) (by omega) h fun bb1 o1 _ _ hc1=>⟨_,Held.cell (hc1 0 _ rfl),Ix.elem hl (opCs_len xs) (by decide) (by omega) h fun bb2 o2 _ _ hc2=>⟨_,Held.cell (hc2 1 _ rfl),Ix.elem hl (opCs_len xs) (by decide) (by omega) h fun bb3 o3 _ _ hc3=>⟨_,Held.cell (hc3 1 _ rfl),Ix.elem hl (opCs_len xs) (by decide) (by omega) h fun bb4 o4 _ _ hc4=>⟨_,Held.cell (hc4 2 _ rfl),?_⟩⟩⟩⟩⟩
 simp only [Int.toNat_natCast]
 generalize hxj:xs[j]=x
 have hxm:x∈xs:=by rw [<- hxj]; exact List.getElem_mem hjl
 have ox:=hx x hxm
 have zx:=hz x hxm
 have rk:RdB w.heap x.k x.key:=ox.k
 have rv:RdB w.heap x.v x.val:=ox.v
 have lk:x.k.len=x.key.length:=RdB.len ox.k
 have lv:x.v.len=x.val.length:=RdB.len ox.v
 have h0:=h1.four
 have kk:∀(sP sR:Sl) s w',LivL w w' s ((L++[LV.mk sP sR x.d x.key x.val]).flatMap lvCs) ((L++[LV.mk sP sR x.d x.key x.val]).flatMap LV.own2)->∃ m1,m1 < m0/\I m1 s ((j:Int)+1) w':=fun sP sR s w' hh=>⟨xs.length - (j+1),by omega,by
  rw [hI]
  refine ⟨j+1,L++[LV.mk sP sR x.d x.key x.val],by omega,by omega,rfl,?_,hh⟩
  rw [List.map_append,hL,List.take_add_one,List.getElem?_eq_getElem hjl,hxj]
  simp⟩
 exact d0000 (E:=⟨Ext No w,out,j,fun s z w''=>∃ m1,m1 < m0/\I m1 s z w'',x.k,x.k,x.v,x.v,x.d⟩) ⟨fun h=>h,rk,rv,by simp only [List.length_nil]; omega,by simp only [List.length_nil]; omega,by simp only [List.nil_append,List.length_singleton]; omega,by simp only [List.nil_append,List.length_singleton]; omega,by simp only [List.nil_append,List.length_append,List.length_singleton]; omega,by simp only [List.nil_append,List.length_append,List.length_singleton]; omega,fun {_ Q T} p r hh=>lent_fin (sP:=p) (sR:=r) (Q:=Q) (T:=T) (G:=fun s z w''=>∃ m1,m1 < m0/\I m1 s z w'') hh ((List.Perm.swap _ _ _).cons _) lk lv (by omega) (by show 0<=(j:Int)/\(j:Int)<=1000000; omega) (kk p r)⟩ h0
end
end Go.Proofs.YtcamoanigdfihaaGreat
