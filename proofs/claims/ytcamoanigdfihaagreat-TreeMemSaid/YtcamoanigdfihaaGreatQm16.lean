/- Texts for LTreeMem, part 16. -/
import Derived.Test.YtcamoanigdfihaaGreatQm15
set_option maxRecDepth 100000
namespace Go.V
def Pg.ds(p:Pg):List Value:=[.int .u32 p.t, .int .u8 p.k, .int .u8 p.v, .int .u32 p.r.p, .int .u64 p.r.c, .int .u16 p.r.g, .string ⟨(toB p.pay).toArray⟩, .bool p.waits]
theorem pgDs_len(l:List Pg):∀ x∈l,(Pg.ds x).length=8:=fun _ _=>rfl
theorem pgOne(x:Pg):∀ v∈x.ds,oneC v=true:=by
 intro v hv; simp only [Pg.ds,List.mem_cons,List.not_mem_nil,or_false] at hv
 rcases hv with h | h | h | h | h | h | h | h <;> subst h <;> rfl
def pgQ(n:Int):List Pg->Option Pg
 | []=>none
 | p::l=>if n=p.r.p then some p else pgQ n l
theorem pgQ_none{n:Int}:∀{l:List Pg},pgQ n l=none ↔ ∀ p∈l,p.r.p≠n
 | []=>by simp [pgQ]
 | q::l=>by
  unfold pgQ
  split
  .rename_i hn; simp [hn]
  .rename_i hn
   rw [pgQ_none]
   constructor
   .intro h p hp
    rcases List.mem_cons.1 hp with h1 | h1
    .rw [h1]; exact Ne.symm hn
    .exact h p h1
   .intro h p hp; exact h p (List.mem_cons_of_mem _ hp)
abbrev Up(l:List Pg):Prop:=l.Pairwise fun a b=>a.r.p < b.r.p
theorem pgQ_of{n:Int}:∀{l:List Pg}{i:Nat},Up l->(hi:i < l.length)->l[i].r.p=n->pgQ n l=some l[i]
 | q::l,0,_,_,h=>by unfold pgQ; rw [if_pos (by simpa using h.symm)]; rfl
 | q::l,i+1,hu,hi,h=>by
  have hu:=List.pairwise_cons.1 hu
  simp only [List.length_cons] at hi
  have h':l[i].r.p=n:=by simpa using h
  unfold pgQ
  have:=hu.1 _ (List.getElem_mem (by omega:i < l.length))
  rw [if_neg (by omega)]
  have hu:=hu.2
  simpa using pgQ_of hu (by omega) h'
theorem pgQ_of_mem{n:Int}{l:List Pg}{p:Pg}(hu:Up l)(hp:p∈l)(h:p.r.p=n):pgQ n l=some p:=by
 obtain ⟨i,hi,rfl⟩:=List.getElem_of_mem hp
 exact pgQ_of hu hi h
structure Sim(l:List (Int×Pg))(Q:List Pg):Prop where
 perm:Q.Perm (l.map Prod.snd)
 up:Up Q
 num:∀ p∈l,p.2.r.p=p.1
 nd:(l.map Prod.fst).Nodup
theorem Sim.mem{l:List (Int×Pg)}{Q:List Pg}(s:Sim l Q){p:Pg}:p∈Q ↔ (p.r.p,p)∈l:=by
 rw [s.perm.mem_iff,List.mem_map]
 constructor
 .rintro ⟨q,hq,rfl⟩; rw [s.num q hq]; exact hq
 .intro h; exact ⟨_,h,rfl⟩
theorem Sim.find{l:List (Int×Pg)}{Q:List Pg}(s:Sim l Q)(n:Int):pgQ n Q=pgA n l:=by
 cases h:pgA n l with
 | none =>
  rw [pgQ_none]
  intro p hp hn
  exact pgA_none h (List.mem_map.2 ⟨_,s.mem.1 hp,hn⟩)
 | some p =>
  have h1:=pgA_mem h
  have h2:p.r.p=n:=s.num _ h1
  exact pgQ_of_mem s.up (s.mem.2 (by rw [h2]; exact h1)) h2
theorem Sim.nil:Sim [] []:=⟨.refl _, .nil,by simp,by simp⟩
theorem Sim.len{l:List (Int×Pg)}{Q:List Pg}(s:Sim l Q):Q.length=l.length:=by simpa using s.perm.length_eq
theorem Sim.put{l:List (Int×Pg)}{Q:List Pg}(s:Sim l Q){n:Int}{p:Pg}(hn:pgA n l=none)(hp:p.r.p=n){i:Nat}(lo:∀ q∈Q.take i,q.r.p < n)(hi2:∀ q∈Q.drop i,n < q.r.p):Sim (l++[(n,p)]) (Q.take i++p::Q.drop i):=by
 have e:Q=Q.take i++Q.drop i:=(List.take_append_drop i Q).symm
 refine ⟨?_,?_,fun q hq=>?_,?_⟩
 .rw [List.map_append]
  refine List.perm_middle.trans ?_
  rw [List.take_append_drop]
  exact (List.Perm.cons p s.perm).trans (by simpa using (List.perm_append_singleton p (l.map Prod.snd)).symm)
 .have hu:=s.up
  unfold Up at hu ⊢
  rw [e,List.pairwise_append] at hu
  rw [List.pairwise_append,List.pairwise_cons]
  refine ⟨hu.1,⟨fun q hq=>?_,hu.2.1⟩,fun a ha b hb=>?_⟩
  .rw [hp]; exact hi2 q hq
  .rcases List.mem_cons.1 hb with h | h
   .rw [h,hp]; exact lo a ha
   .exact hu.2.2 a ha b h
 .rcases List.mem_append.1 hq with h | h
  .exact s.num q h
  .rw [List.mem_singleton] at h; rw [h]; exact hp
 .simp only [List.map_append,List.map_cons,List.map_nil]
  rw [List.nodup_append]
  refine ⟨s.nd,by simp,fun a ha c hc e=>?_⟩
  rw [List.mem_singleton] at hc
  subst hc; subst e; exact pgA_none hn ha
theorem Sim.scrub{l:List (Int×Pg)}{Q:List Pg}(s:Sim l Q):Sim (l.filter fun p=>!p.2.waits) (Q.filter fun p=>!p.waits):=by
 refine ⟨?_,s.up.filter _,fun p hp=>s.num p (List.mem_filter.1 hp).1,s.nd.sublist (List.filter_sublist.map _)⟩
 have e:(l.filter fun p=>!p.2.waits).map Prod.snd=(l.map Prod.snd).filter fun p=>!p.waits:=by rw [List.filter_map]; rfl
 rw [e]; exact s.perm.filter _
theorem delP_perm{n:Int}{p:Pg}:∀{l:List (Int×Pg)},pgA n l=some p->l.Perm ((n,p)::delP n l)
 | [],h=>by cases h
 | q::l,h=>by
  unfold pgA at h
  unfold delP
  split at h
  .rename_i hn; cases h; rw [if_pos hn,hn]
  .rename_i hn
   rw [if_neg hn]
   exact ((delP_perm h).cons q).trans (.swap _ _ _)
theorem Sim.del{l:List (Int×Pg)}{Q:List Pg}(s:Sim l Q){i:Nat}(hi:i < Q.length):Sim (delP Q[i].r.p l) (Q.take i++Q.drop (i+1)):=by
 have hq:Q=Q.take i++Q[i]::Q.drop (i+1):=by rw [List.getElem_cons_drop,List.take_append_drop]
 have h:pgA Q[i].r.p l=some Q[i]:=by rw [<- s.find]; exact pgQ_of s.up hi rfl
 have sub:=delP_sub Q[i].r.p l
 refine ⟨?_,?_,fun p hp=>s.num p (sub.subset hp),s.nd.sublist (sub.map _)⟩
 .have h1:=(delP_perm h).map Prod.snd
  have h2:=s.perm.trans h1
  have h3:Q.Perm (Q[i]::(Q.take i++Q.drop (i+1))):=by
   conv=>lhs; rw [hq]
   exact List.perm_middle
  exact (h3.symm.trans h2).cons_inv
 .have hu:=s.up
  exact hu.sublist (by
   conv=>rhs; rw [hq]
   exact List.Sublist.append (.refl _) (List.sublist_cons_self _ _))
def Pg.wt(p:Pg):Pg:={ p with waits:=true }
theorem set_up:∀{Q:List Pg}{i:Nat},Up Q->(hi:i < Q.length)->Q.set i Q[i].wt=Q.map fun p=>if p.r.p=Q[i].r.p then p.wt else p
 | q::l,0,hu,_=>by
  have hu:=List.pairwise_cons.1 hu
  simp only [List.getElem_cons_zero,List.set_cons_zero,List.map_cons,if_pos]
  congr 1
  conv=>lhs; rw [<- List.map_id l]
  refine List.map_congr_left fun p hp=>?_
  have:=hu.1 p hp
  rw [if_neg (by omega)]; rfl
 | q::l,i+1,hu,hi=>by
  have hu:=List.pairwise_cons.1 hu
  simp only [List.length_cons] at hi
  simp only [List.getElem_cons_succ,List.set_cons_succ,List.map_cons]
  have:=hu.1 _ (List.getElem_mem (by omega:i < l.length))
  rw [if_neg (by omega),set_up hu.2 (by omega)]
theorem Sim.wait{l:List (Int×Pg)}{Q:List Pg}(s:Sim l Q){i:Nat}(hi:i < Q.length):Sim (waitP Q[i].r.p l) (Q.set i Q[i].wt):=by
 refine ⟨?_,?_,fun p hp=>?_,by rw [waitP_fst]; exact s.nd⟩
 .rw [set_up s.up hi]
  have e:(waitP Q[i].r.p l).map Prod.snd=(l.map Prod.snd).map fun p=>if p.r.p=Q[i].r.p then p.wt else p:=by
   unfold waitP
   rw [List.map_map,List.map_map]
   refine List.map_congr_left fun p hp=>?_
   have:=s.num p hp
   simp only [Function.comp,this]
   split <;> rfl
  rw [e]; exact s.perm.map _
 .rw [set_up s.up hi]
  refine List.pairwise_map.2 (s.up.imp fun {a b} h=>?_)
  have:∀ p:Pg,(if p.r.p=Q[i].r.p then p.wt else p).r.p=p.r.p:=fun p=>by split <;> rfl
  rw [this,this]; exact h
 .unfold waitP at hp
  obtain ⟨q,hq,rfl⟩:=List.mem_map.1 hp
  have:=s.num q hq
  split
  .exact this
  .exact this
def refsQ(Q:List Pg)(b:Bool):List Rf:=(Q.filter fun p=>p.waits == b).map fun p=>p.r
theorem perm_up{l1:List Rf}:∀{l2:List Rf},l1.Perm l2->l1.Pairwise (fun a b=>a.p < b.p)->l2.Pairwise (fun a b=>a.p < b.p)->l1=l2:=by
 induction l1 with
 | nil=>intro l2 h _ _; exact h.nil_eq
 | cons a l1 ih =>
  intro l2 h h1 h2
  rw [List.pairwise_cons] at h1
  cases l2 with
  | nil=>exact (List.Perm.eq_nil h)
  | cons b l2 =>
   rw [List.pairwise_cons] at h2
   have e:a=b:=by
    have ha:a∈b::l2:=h.mem_iff.1 List.mem_cons_self
    have hb:b∈a::l1:=h.mem_iff.2 List.mem_cons_self
    rcases List.mem_cons.1 ha with h3 | h3
    .exact h3
    .rcases List.mem_cons.1 hb with h4 | h4
     .exact h4.symm
     .have:=h2.1 a h3; have:=h1.1 b h4; omega
   subst e
   rw [ih h.cons_inv h1.2 h2.2]
theorem Sim.refs{M:Mm}{Q:List Pg}(s:Sim M.pages Q){b:Bool}{rs:List Rf}(h:rs.Perm (refsM M b))(hu:rs.Pairwise fun a b=>a.p < b.p):rs=refsQ Q b:=by
 refine perm_up (h.trans ?_) hu (List.pairwise_map.2 (s.up.filter _))
 unfold refsM refsQ
 have e:((M.pages.filter fun p=>p.2.waits == b).map fun p=>p.2.r)=((M.pages.map Prod.snd).filter fun p=>p.waits == b).map fun p=>p.r:=by
  rw [List.filter_map,List.map_map]; rfl
 rw [e]
 exact ((s.perm.filter _).map _).symm
structure Dm where
 pages:List Pg
 commit:Int
 gen:Int
structure DocR(h:Array Obj)(base bw:Nat)(ps:Sl)(D:Dm):Prop where
 blk:h[bw]? = some (.cells [.slice ps.a ps.len ps.cap, .int .u64 D.commit, .int .u16 D.gen].toArray 104 (0,0))
 own:Own h base 197 8 ps (D.pages.flatMap Pg.ds)
 lo:bw < base
 hb:base<=h.size
section
variable {w w':Wd} {base bw:Nat} {ps:Sl} {D:Dm}
theorem DocR.len{h:Array Obj}(r:DocR h base bw ps D):ps.len=D.pages.length:=by
 have:=r.own.len; rw [flat_len' (pgDs_len D.pages)] at this; omega
theorem DocR.ne{h:Array Obj}(r:DocR h base bw ps D):ps.blk≠some bw:=fun hb=>by have:=(r.own.lt hb).1; have:=r.lo; omega
theorem DocR.ext{S:Nat->Prop}(r:DocR w.heap base bw ps D)(x:Ext S w w')(h1:¬ S bw)(h2:∀ q,ps.blk=some q->¬ S q):DocR w'.heap base bw ps D :=
 ⟨Go.Proofs.YtcamoanigdfihaaGreat.get_ext r.blk x h1,r.own.ext x h2,r.lo,Nat.le_trans r.hb x.size⟩
theorem DocR.no(r:DocR w.heap base bw ps D)(x:Ext No w w'):DocR w'.heap base bw ps D:=r.ext x (fun h=>h) fun _ _ h=>h
def dB(bw:Nat)(ps:Sl):Nat->Prop:=fun q=>q=bw∨ps.blk=some q
end
end Go.V
namespace Go.Proofs.YtcamoanigdfihaaGreat
open Go.V
section
variable {w:Wd} {base bw:Nat} {ps:Sl} {D:Dm}
theorem dfind_spec{n:Int}{K:Int->Wd->Prop}(R:DocR w.heap base bw ps D)(hu:Up D.pages)(hl:D.pages.length<=65535)
  (k0:∀ i (h:i < D.pages.length),pgQ n D.pages=some D.pages[i]->D.pages[i].r.p=n->K (i:Nat) w) (k1:pgQ n D.pages=none->K (-1) w):C_ref15_Mem_find (some ⟨bw,0,none⟩) n w K:=by
 apply S_ref15_Mem_find
 have hsl:=R.len
 refine ⟨fun q i w'=>∃ j:Nat,i=j/\j<=D.pages.length/\q=D.pages.length - j/\w'=w/\∀ k (h:k < D.pages.length),k < j->D.pages[k].r.p≠n,⟨_,0,rfl,by omega,rfl,rfl,fun k _ h=>by omega⟩,?_⟩
 rintro _ m0 i w1 ⟨j,rfl,hj,hq,rfl,hall⟩
 refine Nn.mk ⟨ps,Cell.lst R.blk rfl,If.dec (fun h=>Nn.mk ⟨ps,Cell.lst R.blk rfl,Ix.elem R.own.rd (pgDs_len _) (by decide) (by omega) h fun b o hi _ hc=>?_⟩) fun h=>?_⟩
 .simp only [Int.toNat_natCast] at hi hc
  refine ⟨_,hc 3 _ rfl,If.beq (fun he=>k0 j hi (pgQ_of hu hi he) he) fun he=>Ar.i64 (by omega) ⟨_,by omega,j+1,by omega,by omega,rfl,rfl,fun k h1 h2=>?_⟩⟩
  rcases Nat.lt_or_ge k j with h3 | h3
  .exact hall k h1 h3
  .have:k=j:=by omega
   subst this; exact he
 .refine k1 (pgQ_none.2 fun p hp=>?_)
  obtain ⟨k,hk,rfl⟩:=List.getElem_of_mem hp
  exact hall k hk (by omega)
theorem dBegin_spec{c g:Int}{K:Int->Wd->Prop}(R:DocR w.heap base bw ps D)(k2:c<=D.commit->K 2 w)(k0:∀ w',D.commit < c->DocR w'.heap base bw ps { D with commit:=c,gen:=g }->Ext (dB bw ps) w w'->K 0 w'):C_ref15_Mem_Begin (some ⟨bw,0,none⟩) c g w K:=by
 apply S_ref15_Mem_Begin
 refine Nn.mk ⟨_,Cell.lst R.blk rfl,If.dec (fun h=>k2 h) fun h=>Nn.mk (St1.mk R.blk (by show 1 < 3; decide) rfl fun w1 h1=>Nn.mk ?_)⟩
 have g1:w1.heap[bw]? = some (.cells [.slice ps.a ps.len ps.cap, .int .u64 c, .int .u16 D.gen].toArray 104 (0,0)):=h1.get R.blk
 refine St1.mk g1 (by show 2 < 3; decide) rfl fun w2 h2=>?_
 have g2:w2.heap[bw]? = some (.cells [.slice ps.a ps.len ps.cap, .int .u64 c, .int .u16 g].toArray 104 (0,0)):=h2.get g1
 have x2:Ext (·=bw) w w2:=(h1.ext).trans h2.ext fun _ _ h=>h
 exact k0 w2 (by omega) ⟨g2,R.own.ext x2 (fun q hq h=>R.ne (by rw [hq,h])),R.lo,Nat.le_trans R.hb x2.size⟩ (x2.mono fun q _ h => .inl h)
theorem dGet_spec{t k v:Int}{r:Rf}{K:ByteArray->Int->Wd->Prop}(R:DocR w.heap base bw ps D)(hu:Up D.pages)(hl:D.pages.length<=65535)
  (k0:∀ p w',pgQ r.p D.pages=some p->p.t=t->p.k=k->p.v=v->p.r=r->Ext No w w'->K ⟨(toB p.pay).toArray⟩ 0 w')
  (k7:∀ w',pgQ r.p D.pages=none->Ext No w w'->K ⟨#[]⟩ 7 w')
  (k150:∀ p w',pgQ r.p D.pages=some p->¬ (p.t=t/\p.k=k/\p.v=v/\p.r=r)->Ext No w w'->K ⟨#[]⟩ 150 w'):C_ref15_Mem_Get (some ⟨bw,0,none⟩) t k v r.p r.c r.g w K:=by
 apply S_ref15_Mem_Get
 refine NewW.mk fun b w1 n1=>⟨_,Cell.lst n1.get rfl,?_⟩
 have R1:=R.no n1.ext
 have hsl:=R.len
 refine dfind_spec R1 hu hl (fun i hi hp _=>If.dec (fun h=>by omega) fun _=>?_) fun h=>If.dec (fun _=>k7 _ h n1.ext) fun h=>(h (by omega)).elim
 refine ⟨Ext No w1,(Ext.refl _ _).drew,Nn.mk ⟨ps,Held.cell (Cell.lst R1.blk rfl),Ix.elem R1.own.rd (pgDs_len _) (by decide) (by omega) (by omega) fun b1 o hi1 _ hc=>?_⟩⟩
 simp only [Int.toNat_natCast] at hi1 hc
 refine ⟨_,Held.cell (hc 0 _ rfl),_,Held.cell (hc 1 _ rfl),_,Held.cell (hc 2 _ rfl),_,Held.cell (hc 3 _ rfl),_,Held.cell (hc 4 _ rfl),_,Held.cell (hc 5 _ rfl),_,Held.cell (Cell.lst n1.get rfl),_,Held.cell (Cell.lst n1.get rfl),_,Held.cell (Cell.lst n1.get rfl),_,Held.cell (Cell.lst n1.get rfl),_,Held.cell (Cell.lst n1.get rfl),_,Held.cell (Cell.lst n1.get rfl),?_⟩
 rw [refeq D.pages[i].r r]
 have eb:((D.pages[i].t == t) && ((D.pages[i].k == k) && ((D.pages[i].v == v) && (decide (D.pages[i].r=r) && true))))=decide (D.pages[i].t=t/\D.pages[i].k=k/\D.pages[i].v=v/\D.pages[i].r=r):=by
  rw [Bool.eq_iff_iff]; simp
 rw [eb]
 refine If.not (If.dec (fun h=>?_) fun h=>k150 _ _ hp h n1.ext.drew)
 have R1d:DocR (drewW w1).heap base bw ps D:=R1
 refine Nn.mk ⟨ps,Cell.lst R1d.blk rfl,Ix.elem R1d.own.rd (pgDs_len _) (by decide) (by omega) (by omega) fun b2 o2 hi2 _ hc2=>?_⟩
 simp only [Int.toNat_natCast] at hi2 hc2
 exact ⟨_,hc2 6 _ rfl,k0 _ _ hp h.1 h.2.1 h.2.2.1 h.2.2.2 n1.ext.drew⟩
theorem dRefs_spec{b:Bool}{K:Sl->Wd->Prop}(R:DocR w.heap base bw ps D)(hl:D.pages.length<=65535)
  (k:∀ s w',Own w'.heap w.heap.size 36 3 s ((refsQ D.pages b).flatMap refCs)->Ext No w w'->K s w'):C_ref15_Mem_Refs (some ⟨bw,0,none⟩) b w K:=by
 apply S_ref15_Mem_Refs
 have hsl:=R.len
 refine ⟨fun q out i w'=>∃ j:Nat,i=j/\j<=D.pages.length/\q=D.pages.length - j/\Own w'.heap w.heap.size 36 3 out ((refsQ (D.pages.take j) b).flatMap refCs)/\Ext No w w',⟨_,0,rfl,by omega,rfl,Own.nil _ _ _ _,Ext.refl _ _⟩,?_⟩
 rintro _ m0 out i w1 ⟨j,rfl,hj,hq,ho,x1⟩
 have R1:=R.no x1
 refine Nn.mk ⟨ps,Cell.lst R1.blk rfl,If.dec (fun h=>Nn.mk ⟨ps,Cell.lst R1.blk rfl,Ix.elem R1.own.rd (pgDs_len _) (by decide) (by omega) h fun bb o hi _ hc=>?_⟩) fun h=>?_⟩
 .simp only [Int.toNat_natCast] at hi hc
  have htk:refsQ (D.pages.take (j+1)) b=refsQ (D.pages.take j) b++(if D.pages[j].waits == b then [D.pages[j].r] else []):=by
   unfold refsQ
   rw [List.take_add_one,List.getElem?_eq_getElem hi,Option.toList_some,List.filter_append,List.map_append,List.filter_cons]
   cases D.pages[j].waits == b <;> rfl
  have hrl:(refsQ (D.pages.take j) b).length<=j:=by
   unfold refsQ
   rw [List.length_map]
   exact Nat.le_trans (List.length_filter_le _ _) (by rw [List.length_take]; omega)
  refine ⟨_,hc 7 _ rfl,If.cases (fun hw=>?_) fun hw=>?_⟩
  .rw [hw,if_pos rfl] at htk
   refine Nn.mk ⟨ps,Cell.lst R1.blk rfl,Ix.elem R1.own.rd (pgDs_len _) (by decide) (by omega) h fun b2 o2 hi2 _ hc2=>?_⟩
   simp only [Int.toNat_natCast] at hi2 hc2
   refine ⟨_,hc2 3 _ rfl,_,hc2 4 _ rfl,_,hc2 5 _ rfl,NewW.mk fun b3 w2 n2=>?_⟩
   have o2:=ho.no n2.ext
   have hol:out.len=(refsQ (D.pages.take j) b).length:=by have:=o2.len; rw [flat_len' (refCs_len _)] at this; omega
   have oy:Own w2.heap w1.heap.size 36 3 ⟨some ⟨b3,0,none⟩,1,1⟩ (refCs D.pages[j].r):=Own.new n2 rfl (by simp [refCs,oneC])
   have z1:=x1.size; have z2:=n2.size
   refine app_api_Ref o2 (by omega) oy.rd.src (by show (out.len+1) * 24<=_; omega) fun s3 w3 o3 _ x3 hbl=>Ar.i64 (by omega) ⟨_,by omega,j+1,by omega,by omega,rfl,?_,?_⟩
   .rw [htk,List.flatMap_append]; simpa using o3
   .have x3':Ext (fun q=>out.blk=some q) w2 w3:=x3
    exact (x1.no n2.ext).trans x3' fun q hq h=>by have:=(ho.lt h).1; omega
  .rw [hw,if_neg (by decide),List.append_nil] at htk
   exact Ar.i64 (by omega) ⟨_,by omega,j+1,by omega,by omega,rfl,by rw [htk]; exact ho,x1⟩
 .have hjl:j=D.pages.length:=by omega
  rw [hjl,List.take_length] at ho
  exact k out w1 ho x1
theorem dSame_spec{a b:Sl}{l:List Rf}{K:Bool->Wd->Prop}(ha:Rd w.heap a 3 (l.flatMap refCs))(hb:Rd w.heap b 3 (l.flatMap refCs))(hl:l.length<=65535)(k:∀ w',Ext No w w'->K true w'):C_ref15_SameRefs a b w K:=by
 apply S_ref15_SameRefs
 have al:a.len=l.length:=by have:=ha.len; rw [flat_len' (refCs_len l)] at this; omega
 have bl:b.len=l.length:=by have:=hb.len; rw [flat_len' (refCs_len l)] at this; omega
 refine If.bne (fun h=>by omega) fun _=>⟨fun q i w'=>∃ j:Nat,i=j/\j<=l.length/\q=l.length - j/\Ext No w w',⟨_,0,rfl,by omega,rfl,Ext.refl _ _⟩,?_⟩
 rintro _ m0 i w1 ⟨j,rfl,hj,hq,x1⟩
 refine If.dec (fun h=>⟨Ext No w1,(Ext.refl _ _).drew,Ix.elem (ha.no x1) (refCs_len _) (by decide) (by omega) h fun b1 o1 hi1 _ hc1=>?_⟩) fun _=>k _ x1
 simp only [Int.toNat_natCast] at hi1 hc1
 refine ⟨_,Held.cell (hc1 0 _ rfl),_,Held.cell (hc1 1 _ rfl),_,Held.cell (hc1 2 _ rfl),Ix.elem (hb.no x1) (refCs_len _) (by decide) (by omega) (by omega) fun b2 o2 hi2 _ hc2=>?_⟩
 simp only [Int.toNat_natCast] at hi2 hc2
 refine ⟨_,Held.cell (hc2 0 _ rfl),_,Held.cell (hc2 1 _ rfl),_,Held.cell (hc2 2 _ rfl),?_⟩
 rw [refeq l[j] l[j]]
 exact If.not (If.dec (fun _=>Ar.i64 (by omega) ⟨_,by omega,j+1,by omega,by omega,rfl,x1.drew⟩) fun h=>(h rfl).elim)
end
section
variable {w:Wd} {base bw:Nat} {ps:Sl} {D:Dm}
theorem dScrub_spec{K:Wd->Prop}(R:DocR w.heap base bw ps D)(hl:D.pages.length<=65535)
  (k:∀ ps' w',DocR w'.heap base bw ps' { D with pages:=D.pages.filter fun p=>!p.waits }->Ext (dB bw ps) w w'->(∀ q,ps'.blk=some q->w.heap.size<=q)->K w'):C_ref15_Mem_Scrub (some ⟨bw,0,none⟩) w K:=by
 apply S_ref15_Mem_Scrub
 have hsl:=R.len
 refine ⟨fun q out i w'=>∃ j:Nat,i=j/\j<=D.pages.length/\q=D.pages.length - j/\Own w'.heap w.heap.size 197 8 out (((D.pages.take j).filter fun p=>!p.waits).flatMap Pg.ds)/\Ext No w w',⟨_,0,rfl,by omega,rfl,Own.nil _ _ _ _,Ext.refl _ _⟩,?_⟩
 rintro _ m0 out i w1 ⟨j,rfl,hj,hq,ho,x1⟩
 have R1:=R.no x1
 refine Nn.mk ⟨ps,Cell.lst R1.blk rfl,If.dec (fun h=>Nn.mk ⟨ps,Cell.lst R1.blk rfl,Ix.elem R1.own.rd (pgDs_len _) (by decide) (by omega) h fun bb o hi _ hc=>?_⟩) fun h=>?_⟩
 .simp only [Int.toNat_natCast] at hi hc
  have htk:((D.pages.take (j+1)).filter fun p=>!p.waits)=((D.pages.take j).filter fun p=>!p.waits)++(if !D.pages[j].waits then [D.pages[j]] else []):=by
   rw [List.take_add_one,List.getElem?_eq_getElem hi,Option.toList_some,List.filter_append,List.filter_cons]
   cases D.pages[j].waits <;> rfl
  have hrl:((D.pages.take j).filter fun p=>!p.waits).length<=j:=Nat.le_trans (List.length_filter_le _ _) (by rw [List.length_take]; omega)
  refine ⟨_,hc 7 _ rfl,If.cases (fun hw=>?_) fun hw=>?_⟩
  .rw [hw,if_pos rfl] at htk
   refine Nn.mk ⟨ps,Cell.lst R1.blk rfl,Ix.elem R1.own.rd (pgDs_len _) (by decide) (by omega) h fun b2 o2 hi2 _ hc2=>?_⟩
   simp only [Int.toNat_natCast] at hi2 hc2
   refine ⟨_,hc2 0 _ rfl,_,hc2 1 _ rfl,_,hc2 2 _ rfl,_,hc2 3 _ rfl,_,hc2 4 _ rfl,_,hc2 5 _ rfl,_,hc2 6 _ rfl,_,hc2 7 _ rfl,NewW.mk fun b3 w2 n2=>?_⟩
   have o2:=ho.no n2.ext
   have hol:out.len=((D.pages.take j).filter fun p=>!p.waits).length:=by have:=o2.len; rw [flat_len' (pgDs_len _)] at this; omega
   have oy:Own w2.heap w1.heap.size 197 8 ⟨some ⟨b3,0,none⟩,1,1⟩ (Pg.ds D.pages[j]):=Own.new n2 rfl (pgOne _)
   have z1:=x1.size; have z2:=n2.size
   refine app_donjonref15_Page o2 (by omega) oy.rd.src (by show (out.len+1) * 56<=_; omega) fun s3 w3 o3 _ x3 hbl=>Ar.i64 (by omega) ⟨_,by omega,j+1,by omega,by omega,rfl,?_,?_⟩
   .rw [htk,List.flatMap_append]; simpa using o3
   .have x3':Ext (fun q=>out.blk=some q) w2 w3:=x3
    exact (x1.no n2.ext).trans x3' fun q hq h=>by have:=(ho.lt h).1; omega
  .rw [hw,if_neg (by decide),List.append_nil] at htk
   exact Ar.i64 (by omega) ⟨_,by omega,j+1,by omega,by omega,rfl,by rw [htk]; exact ho,x1⟩
 .have hjl:j=D.pages.length:=by omega
  rw [hjl,List.take_length] at ho
  have hsz:=x1.size
  refine Nn.mk (St1.mk R1.blk (by show 0 < 3; decide) rfl fun w4 h4=>?_)
  have x4:Ext (·=bw) w1 w4:=h4.ext
  refine k out w4 ⟨h4.get R1.blk,(ho.ext x4 fun q hq h=>?_).mono R.hb,R.lo,?_⟩ ((x1.of_no (S:=dB bw ps)).trans x4 fun _ _ h => .inl h) fun q hq=>(ho.lt hq).1
  .have:=(ho.lt hq).1; have:=R.lo; have:=R.hb; omega
  .have:=x4.size; have:=R.hb; omega
theorem dWithout_spec{l:Sl}{Q:List Pg}{i:Nat}{K:Sl->Wd->Prop}(r:Rd w.heap l 8 (Q.flatMap Pg.ds))(hi:i < Q.length)(hl:Q.length<=65535)
  (k:∀ s w',Own w'.heap w.heap.size 197 8 s ((Q.take i++Q.drop (i+1)).flatMap Pg.ds)->Ext No w w'->K s w'):C_ref15_without l i w K:=by
 apply S_ref15_without
 have hsl:l.len=Q.length:=by have:=r.len; rw [flat_len' (pgDs_len Q)] at this; omega
 refine NewW.mk fun b w1 n1=>Cut.pre r (pgDs_len _) hsl (by omega) (by omega) (by omega) rfl fun s1 r1 l1=>?_
 simp only [Int.toNat_natCast,Int.toNat_zero,List.drop_zero,Nat.sub_zero] at r1 l1
 have z1:=n1.size; have hb:=n1.at_
 have o1:Own w1.heap w.heap.size 197 8 ⟨some ⟨b,0,none⟩,0,0⟩ []:=⟨rfl, .inr ⟨b,[],rfl,by omega,n1.get,rfl,Nat.le_refl _⟩,by simp⟩
 refine app_donjonref15_Page o1 (by omega) (r1.no n1.ext).src (by simp only; omega) fun s2 w2 o2 l2 x2 hbl=>Ar.i64 (by omega) ?_
 have x2':Ext (fun q=>(some b:Option Nat)=some q) w1 w2:=x2
 have x02:Ext No w w2:=n1.ext.trans x2' fun q hq h=>by cases h; omega
 refine Cut.pre r (pgDs_len _) hsl (by omega) (by omega) (by omega) rfl fun s3 r3 l3=>?_
 have e1:((i:Int)+1).toNat=i+1:=by omega
 have e2:((l.len:Int)).toNat=Q.length:=by omega
 rw [e1,e2] at r3 l3
 have e3:(Q.drop (i+1)).take (Q.length - (i+1))=Q.drop (i+1):=List.take_of_length_le (by rw [List.length_drop]; omega)
 rw [e3] at r3
 have z2:=x02.size
 refine app_donjonref15_Page o2 (by omega) (r3.no x02).src (by rw [l2,l1,l3]; simp only; omega) fun s4 w4 o4 l4 x4 hbl4=>?_
 have x4':Ext (fun q=>s2.blk=some q) w2 w4:=x4
 refine k s4 w4 (by rw [List.flatMap_append]; simpa using o4) (x02.trans x4' fun q hq h=>by have:=(o2.lt h).1; omega)
set_option maxHeartbeats 1000000 in
theorem dDrop_spec{r:Rf}{K:Int->Wd->Prop}(R:DocR w.heap base bw ps D)(hu:Up D.pages)(hl:D.pages.length<=65535)
  (k7:∀ w',(∀ p,pgQ r.p D.pages=some p->p.waits=true∨p.r≠r)->Ext No w w'->K 7 w')
  (k0:∀ i (h:i < D.pages.length) ps' w',pgQ r.p D.pages=some D.pages[i]->D.pages[i].r=r->D.pages[i].waits=false->DocR w'.heap base bw ps' { D with pages:=if r.c=D.commit then D.pages.take i++D.pages.drop (i+1) else D.pages.set i D.pages[i].wt }->Ext (dB bw ps) w w'->(∀ q,ps'.blk=some q->ps.blk=some q∨w.heap.size<=q)->K 0 w'):C_ref15_Mem_Drop (some ⟨bw,0,none⟩) r.p r.c r.g w K:=by
 apply S_ref15_Mem_Drop
 refine NewW.mk fun b w1 n1=>⟨_,Cell.lst n1.get rfl,?_⟩
 have R1:=R.no n1.ext
 have hsl:=R.len
 have z1:=n1.size; have hb:=n1.at_
 refine dfind_spec R1 hu hl (fun i hi hp _=>?_) fun h=>⟨fun _=>False,⟨Ext No w1,(Ext.refl _ _).drew,If.dec (fun _=>k7 _ (fun p hp=>by rw [h] at hp; cases hp) n1.ext.drew) fun h=>(h (by omega)).elim⟩,fun _ _ h=>h.elim⟩
 refine ⟨fun w'=>w'=drewW w1/\D.pages[i].r=r/\D.pages[i].waits=false,⟨Ext No w1,(Ext.refl _ _).drew,If.dec (fun h=>by omega) fun _=>Nn.mk ⟨ps,Held.cell (Cell.lst R1.blk rfl),Ix.elem R1.own.rd (pgDs_len _) (by decide) (by omega) (by omega) fun b1 o hi1 _ hc=>?_⟩⟩,?_⟩
 .simp only [Int.toNat_natCast] at hi1 hc
  refine ⟨_,Held.cell (hc 7 _ rfl),If.cases (fun hw=>k7 _ (fun p hp'=>by rw [hp] at hp'; cases hp'; exact .inl hw) n1.ext.drew) fun hw=>Nn.mk ⟨ps,Held.cell (Cell.lst R1.blk rfl),Ix.elem R1.own.rd (pgDs_len _) (by decide) (by omega) (by omega) fun b2 o2 hi2 _ hc2=>?_⟩⟩
  simp only [Int.toNat_natCast] at hi2 hc2
  refine ⟨_,Held.cell (hc2 3 _ rfl),_,Held.cell (hc2 4 _ rfl),_,Held.cell (hc2 5 _ rfl),_,Held.cell (Cell.lst n1.get rfl),_,Held.cell (Cell.lst n1.get rfl),_,Held.cell (Cell.lst n1.get rfl),?_⟩
  rw [refeq D.pages[i].r r]
  exact If.not (If.dec (fun h=>⟨rfl,h,hw⟩) fun h=>k7 _ (fun p hp'=>by rw [hp] at hp'; cases hp'; exact .inr h) n1.ext.drew)
 rintro _ w3 ⟨rfl,hr,hw⟩
 have R1d:DocR (drewW (drewW w1)).heap base bw ps D:=R1
 have x13:Ext No w (drewW (drewW w1)):=n1.ext.drew.drew
 refine ⟨Ext No (drewW w1),(Ext.refl _ _).drew,_,Held.cell (Cell.lst (w:=drewW w1) n1.get rfl),Nn.mk ⟨_,Held.cell (Cell.lst (w:=drewW w1) R1.blk rfl),If.beq (fun hc=>?_) fun hc=>?_⟩⟩
 .refine Nn.mk ⟨ps,Cell.lst R1d.blk rfl,dWithout_spec R1d.own.rd hi hl fun s4 w4 o4 x4=>Nn.mk (St1.mk (R1d.no x4).blk (by show 0 < 3; decide) rfl fun w5 h5=>?_)⟩
  have x5:Ext (·=bw) w4 w5:=h5.ext
  have x04:=x13.no x4
  have z4:w1.heap.size<=w4.heap.size:=x4.size
  have z5:=x5.size
  have hs4:∀ q,s4.blk=some q->w1.heap.size<=q:=fun q hq=>(o4.lt hq).1
  refine k0 i hi s4 w5 hp hr hw ⟨h5.get (R1d.no x4).blk,?_,R.lo,by have:=R.hb; omega⟩ ((x04.of_no (S:=dB bw ps)).trans x5 fun _ _ h => .inl h) fun q hq => .inr (by have:=hs4 q hq; omega)
  rw [if_pos hc]
  refine (o4.ext x5 fun q hq h=>?_).mono (by show base<=w1.heap.size; have:=R.hb; omega)
  have:=hs4 q hq; have:=R.lo; have:=R.hb; omega
 .have hdl:=flat_len' (pgDs_len D.pages)
  have hin:i * 8+7 < (D.pages.flatMap Pg.ds).length:=by rw [hdl]; omega
  obtain ⟨b4,rest,ha,hba,hbb,hcc,hcap⟩:=R1d.own.place (by intro e; rw [e] at hin; simp at hin)
  refine Nn.mk ⟨ps,Cell.lst R1d.blk rfl,⟨_,ha,by omega,by omega,?_⟩⟩
  rw [addr_add_none rfl]
  show St1 _ (Addr.add ⟨b4,0+(i:Int).toNat * 8,none⟩ 7) _ _
  rw [addr_add_none rfl]
  simp only [Int.toNat_natCast,Nat.zero_add]
  refine St1.at_ R1d.own ha hin rfl fun w6 o6 x6 z6=>?_
  have x6':Ext (fun q=>ps.blk=some q) (drewW (drewW w1)) w6:=x6
  have e6:(D.pages.flatMap Pg.ds).set (i * 8+7) (.bool true)=(D.pages.set i D.pages[i].wt).flatMap Pg.ds:=flat_set (o:=7) (vs:=[.bool true]) (y:=D.pages[i].wt) (pgDs_len _) hi (by decide) rfl
  rw [e6] at o6
  refine k0 i hi ps w6 hp hr hw ⟨get_ext R1d.blk x6' R.ne,by rw [if_neg hc]; exact o6,R.lo,by have:=R.hb; have:=x6'.size; show base<=w6.heap.size; have:w1.heap.size<=w6.heap.size:=x6'.size; omega⟩ ((x13.of_no (S:=dB bw ps)).trans x6' fun _ _ h => .inr h) fun q hq => .inl hq
structure AtI(Q:List Pg)(n:Int)(i:Nat):Prop where
 le:i<=Q.length
 lo:∀ q∈Q.take i,q.r.p < n
 hi:∀ q∈Q.drop i,n < q.r.p
theorem atI{Q:List Pg}{n:Int}{i:Nat}(hu:Up Q)(hn:pgQ n Q=none)(hi:i<=Q.length)(lo:∀ k (h:k < Q.length),k < i->Q[k].r.p < n)(h2:∀ h:i < Q.length,¬ Q[i].r.p < n):AtI Q n i:=by
 refine ⟨hi,fun q hq=>?_,fun q hq=>?_⟩
 .obtain ⟨k,hk,rfl⟩:=List.getElem_of_mem hq
  simp only [List.length_take] at hk
  rw [List.getElem_take]
  exact lo k (by omega) (by omega)
 .obtain ⟨k,hk,rfl⟩:=List.getElem_of_mem hq
  simp only [List.length_drop] at hk
  rw [List.getElem_drop]
  have hil:i < Q.length:=by omega
  have h3:=h2 hil
  have h4:=pgQ_none.1 hn _ (List.getElem_mem hil)
  rcases Nat.eq_zero_or_pos k with h5 | h5
  .subst h5; simp only [Nat.add_zero]; omega
  .have:=List.pairwise_iff_getElem.1 hu i (i+k) hil (by omega) (by omega)
   omega
set_option maxHeartbeats 1000000 in
theorem dPut_spec{t k v:Int}{r:Rf}{n:Int}{s:Sl}{P:List Int}{K:Int->Int->Int->Int->Wd->Prop}(R:DocR w.heap base bw ps D)(hu:Up D.pages)(hl:D.pages.length<=65535)(hs:RdB w.heap s P)
  (hn2:2<=n) (hnl:n<=70000) (hn:pgQ n D.pages=none) (hall:∀ i,2<=i->i < n->pgQ i D.pages≠none)
  (k0:∀ i ps' w',P.length=224->AtI D.pages n i->DocR w'.heap base bw ps' { D with pages:=D.pages.take i++(⟨t,k,v,⟨n,D.commit,D.gen⟩,P,false⟩ : Pg)::D.pages.drop i }->Ext (dB bw ps) w w'->(∀ q,ps'.blk=some q->w.heap.size<=q)->K n D.commit D.gen 0 w')
  (k2:∀ w',P.length≠224->Ext No w w'->K 0 0 0 2 w'):C_ref15_Mem_Put (some ⟨bw,0,none⟩) t k v r.p r.c r.g s w K:=by
 apply S_ref15_Mem_Put
 have hsl:=R.len
 have hPl:=RdB.len hs
 refine NewW.mk fun b w1 n1=>NewW.mk fun b1 w2 n2=>?_
 have hb:=n1.at_; have z1:=n1.size; have hb1:=n2.at_; have z2:=n2.size
 have x02:Ext No w w2:=n1.ext.no n2.ext
 refine If.bne (fun h=>?_) fun h=>?_
 .refine ⟨rfl,_,_,_,n2.get,rfl,by simp, .inr (.inr (Nat.le_refl _)),by decide,fun w3 h3=>?_⟩
  have g3:w3.heap[b1]? = some (.cells [.int .u32 0, .int .u64 0, .int .u16 0].toArray 36 (0,0)):=Wrt.get (b:=b1) h3 n2.get
  have x3:Ext (·=b1) w2 w3:=Wrt.ext (b:=b1) h3
  exact ⟨_,Cell.lst g3 rfl,_,Cell.lst g3 rfl,_,Cell.lst g3 rfl,k2 w3 (by omega) (x02.trans x3 fun i hi h=>by omega)⟩
 have hP:P.length=224:=by omega
 have R2:=R.no x02
 refine ⟨fun q x w'=>2<=x/\x<=n/\q=(n - x).toNat/\w'=w2,⟨_,Int.le_refl _,hn2,rfl,rfl⟩,?_⟩
 rintro _ m0 x w4 ⟨hx2,hxn,hm,rfl⟩
 refine dfind_spec R2 hu hl (fun i hi hp _=>If.dec (fun _=>?_) fun h=>(h (by omega)).elim) fun hp=>If.dec (fun h=>by omega) fun _=>?_
 .have:x≠n:=fun e=>by rw [e,hn] at hp; cases hp
  exact Ar.u32 (by omega) ⟨_,by omega,by omega,by omega,rfl,rfl⟩
 have hxe:x=n:=by
  rcases Int.lt_or_le x n with h | h
  .exact (hall x hx2 h hp).elim
  .omega
 subst hxe
 have gb:=get_no n1.get n2.ext
 refine ⟨Ext No w4,(Ext.refl _ _).drew,Nn.mk ⟨_,Held.cell (Cell.lst R2.blk rfl),Nn.mk ⟨_,Held.cell (Cell.lst R2.blk rfl),?_⟩⟩⟩
 refine ⟨rfl,_,_,_,gb,rfl,by show 3+3<=6; decide, .inr (.inr (Nat.le_refl _)),?_,fun w6 h6=>?_⟩
 .intro v hv; simp only [List.mem_cons,List.not_mem_nil,or_false] at hv; rcases hv with h | h | h <;> subst h <;> rfl
 have g6:w6.heap[b]? = some (.cells [.int .u32 t, .int .u8 k, .int .u8 v, .int .u32 x, .int .u64 D.commit, .int .u16 D.gen].toArray 106 (0,0)):=Wrt.get (b:=b) h6 gb
 have x6:Ext (·=b) (drewW w4) w6:=Wrt.ext (b:=b) h6
 have z6:w6.heap.size=w4.heap.size:=Wrt.size (w:=drewW w4) (b:=b) h6
 have x06:Ext No w w6:=x02.drew.trans x6 fun i hi h=>by omega
 have R6:=R.no x06
 have g61:w6.heap[b1]? = some (.cells [.int .u32 0, .int .u64 0, .int .u16 0].toArray 36 (0,0)):=get_ext (w:=drewW w4) n2.get x6 (by omega)
 refine ⟨fun a w'=>∃ i:Nat,a=i/\w'=w6/\AtI D.pages x i,⟨fun q a w'=>∃ j:Nat,a=j/\j<=D.pages.length/\q=D.pages.length - j/\w'=w6/\∀ k (h:k < D.pages.length),k < j->D.pages[k].r.p < x,⟨_,0,rfl,by omega,rfl,rfl,fun k _ h=>by omega⟩,?_⟩,?_⟩
 .rintro _ m1 a w7 ⟨j,rfl,hj,hq,rfl,hlo⟩
  refine Nn.mk ⟨ps,Cell.lst R6.blk rfl,If.dec (fun h=>Nn.mk ⟨ps,Cell.lst R6.blk rfl,Ix.elem R6.own.rd (pgDs_len _) (by decide) (by omega) h fun bb o hi _ hc=>?_⟩) fun h=>?_⟩
  .simp only [Int.toNat_natCast] at hi hc
   refine ⟨_,hc 3 _ rfl,If.dec (fun he=>Ar.i64 (by omega) ⟨_,by omega,j+1,by omega,by omega,rfl,rfl,fun k h1 h2=>?_⟩) fun he=>⟨j,rfl,rfl,atI hu hn hj hlo fun _=>he⟩⟩
   rcases Nat.lt_or_ge k j with h3 | h3
   .exact hlo k h1 h3
   .have:k=j:=by omega
    subst this; exact he
  .exact ⟨j,rfl,rfl,atI hu hn hj hlo fun h'=>by omega⟩
 rintro _ a w8 ⟨i,rfl,rfl,hA⟩
 have hil:=hA.le
 refine NewW.mk fun b2 w9 n9=>Nn.mk ⟨ps,Cell.lst (R6.no n9.ext).blk rfl,Cut.pre R6.own.rd (pgDs_len _) hsl (by omega) (by omega) (by omega) rfl fun s1 r1 l1=>?_⟩
 simp only [Int.toNat_natCast,Int.toNat_zero,List.drop_zero,Nat.sub_zero] at r1 l1
 have z9:=n9.size; have hb2:=n9.at_
 have o9:Own w9.heap w8.heap.size 197 8 ⟨some ⟨b2,0,none⟩,0,0⟩ []:=⟨rfl, .inr ⟨b2,[],rfl,by omega,n9.get,rfl,Nat.le_refl _⟩,by simp⟩
 refine app_donjonref15_Page o9 (by omega) (r1.no n9.ext).src (by simp only; omega) fun s2 w10 o10 l10 x10 _=>?_
 have x10':Ext (fun q=>(some b2:Option Nat)=some q) w9 w10:=x10
 have x810:Ext No w8 w10:=n9.ext.trans x10' fun q hq h=>by cases h; omega
 have g10:=get_no g6 x810
 refine ⟨_,Cell.lst g10 rfl,_,Cell.lst g10 rfl,_,Cell.lst g10 rfl,_,Cell.lst g10 rfl,_,Cell.lst g10 rfl,_,Cell.lst g10 rfl,StrC.mk (Rd.no hs (x06.no x810)) (fun _ _ _ h=>Cell.mk h) (NewW.mk fun b3 w11 n11=>?_)⟩
 have z10:=x810.size
 have z11:=n11.size
 have oy:Own w11.heap w10.heap.size 197 8 ⟨some ⟨b3,0,none⟩,1,1⟩ (Pg.ds ⟨t,k,v,⟨x,D.commit,D.gen⟩,P,false⟩):=Own.new n11 rfl (pgOne _)
 have s2l:s2.len=i:=by rw [l10,l1]; simp only; omega
 refine app_donjonref15_Page (o10.no n11.ext) (by omega) oy.rd.src (by rw [s2l]; simp only; omega) fun s3 w12 o12 l12 x12 _=>?_
 have x12':Ext (fun q=>s2.blk=some q) w11 w12:=x12
 have x812:Ext No w8 w12:=(x810.no n11.ext).trans x12' fun q hq h=>by have:=(o10.lt h).1; omega
 have R12:=R6.no x812
 refine Nn.mk ⟨ps,Cell.lst R12.blk rfl,Cut.pre R6.own.rd (pgDs_len _) hsl (by omega) (by omega) (by omega) rfl fun s4 r4 l4=>?_⟩
 have e2:((ps.len:Int)).toNat=D.pages.length:=by omega
 rw [e2,Int.toNat_natCast] at r4 l4
 rw [show (D.pages.drop i).take (D.pages.length - i)=D.pages.drop i from List.take_of_length_le (by rw [List.length_drop]; omega)] at r4
 have z12:=x812.size
 refine app_donjonref15_Page o12 (by omega) (r4.no x812).src (by rw [l12,s2l,l4]; simp only; omega) fun s5 w13 o13 l13 x13 _=>?_
 have x13':Ext (fun q=>s3.blk=some q) w12 w13:=x13
 have x813:Ext No w8 w13:=x812.trans x13' fun q hq h=>by have:=(o12.lt h).1; omega
 have R13:=R6.no x813
 have z13:=x813.size
 refine Nn.mk (St1.mk R13.blk (by show 0 < 3; decide) rfl fun w14 h14=>?_)
 have x14:Ext (·=bw) w13 w14:=h14.ext
 have bwlt:bw < w.heap.size:=blt R.blk
 have nb:bw≠b1:=by omega
 have g14:=get_ext (get_no g6 x813) x14 (by omega)
 have g141:=get_ext (get_no g61 x813) x14 (by omega)
 refine ⟨_,Cell.lst g14 rfl,_,Cell.lst g14 rfl,_,Cell.lst g14 rfl,rfl,_,_,_,g141,rfl,by simp, .inr (.inr (Nat.le_refl _)),?_,fun w15 h15=>?_⟩
 .intro v hv; simp only [List.mem_cons,List.not_mem_nil,or_false] at hv; rcases hv with h | h | h <;> subst h <;> rfl
 have g15:w15.heap[b1]? = some (.cells [.int .u32 x, .int .u64 D.commit, .int .u16 D.gen].toArray 36 (0,0)):=Wrt.get (b:=b1) h15 g141
 have x15:Ext (·=b1) w14 w15:=Wrt.ext (b:=b1) h15
 have s5lo:∀ q,s5.blk=some q->w8.heap.size<=q:=fun q hq=>(o13.lt hq).1
 have x1315:Ext (fun q=>q=bw∨q=b1) w13 w15:=(x14.mono fun _ _ h => .inl h).trans x15 fun _ _ h => .inr h
 refine ⟨_,Cell.lst g15 rfl,_,Cell.lst g15 rfl,_,Cell.lst g15 rfl,k0 i s5 w15 hP hA ⟨get_ext (h14.get R13.blk) x15 nb,?_,R.lo,?_⟩ ?_ fun q hq=>by have:=s5lo q hq; omega⟩
 .have o15:=(o13.ext x1315 fun q hq h=>by
   have:=s5lo q hq
   rcases h with h | h <;> omega).mono (base':=base) (by have:=R.hb; omega)
  simpa [List.flatMap_append,List.flatMap_cons,List.append_assoc] using o15
 .have h1:=R.hb; have h2:=x1315.size; show base<=w15.heap.size; omega
 .refine ((x06.no x813).of_no (S:=dB bw ps)).trans x1315 fun q hq h=>?_
  rcases h with h | h
  .exact .inl h
  .omega
end
section
variable {w:Wd} {T:Nat->Option Nat} {m:MemV} {M:Mm}
theorem refG_up{b:Bool}{L:List Int}(R:MemR w.heap T m M)(hp:L.Perm (M.pages.map Prod.fst))(hu:L.Pairwise (·<=·)):(L.filterMap (refG M.pages b)).Pairwise fun a b=>a.p < b.p:=by
 have hs:L.Pairwise (· < ·):=by
  have hn:L.Nodup:=hp.nodup_iff.2 R.nd
  exact (hu.and hn).imp fun {a b} h=>by omega
 have hr:∀{n r},refG M.pages b n=some r->r.p=n:=fun {n r} h=>by
  unfold refG at h
  cases hp:pgA n M.pages with
  | none=>rw [hp] at h; cases h
  | some p =>
   rw [hp] at h
   simp only [Option.bind_some] at h
   split at h
   .cases h; exact (R.find hp).rn
   .cases h
 refine List.pairwise_filterMap.2 (hs.imp fun {x y} h a ha b hb=>?_)
 rw [hr ha,hr hb]; exact h
set_option maxHeartbeats 2000000 in
theorem refsE_spec{waits:Bool}{K:Sl->Wd->Prop}(R:MemR w.heap T m M)(hn:M.pages.length<=65535)
  (k:∀ s (rs:List Rf) w',rs.Perm (refsM M waits)->rs.Pairwise (fun a b=>a.p < b.p)->Own w'.heap w.heap.size 36 3 s (rs.flatMap refCs)->Ext No w w'->K s w'):C_tree_Mem_refs (some ⟨m.bm,0,none⟩) waits w K:=by
 apply S_tree_Mem_refs
 refine If.no ⟨_,rfl,some m.r,Cell.lst R.mem rfl,?_⟩
 apply S_maps_Keys_map_uint32_tree_page_uint32_tree_page
 refine NewW.mk fun bk w1 n1=>?_
 apply S_slices_Sorted_uint32
 apply S_slices_Collect_uint32
 refine appendKeysU_spec n1.get (R.map.ext n1.ext fun h=>h) (by rw [List.length_map]; omega) fun s ks w2 hks o2 x2=>?_
 have hks':ks.Perm (M.pages.map Prod.fst):=by simpa [MemV.vals,List.map_map,Function.comp_def] using hks
 have x02:Ext No w w2:=n1.ext.no x2
 have s1:=n1.size; have s2:=x2.size
 have hkl:ks.length=M.pages.length:=by have:=hks'.length_eq; rwa [List.length_map] at this
 refine sort_specE o2 (by omega) fun L w3 hL hup o3 x3=>?_
 have x3':Ext (fun q=>s.blk=some q) w2 w3:=x3
 have slt:∀ q,s.blk=some q->w1.heap.size<=q/\q < w2.heap.size:=fun q hq=>o2.lt hq
 have x03:Ext No w w3:=x02.trans x3' fun q hq h=>by have:=slt q h; omega
 have hLp:L.Perm (M.pages.map Prod.fst):=hL.trans hks'
 have hLl:L.length=M.pages.length:=by have:=hLp.length_eq; rwa [List.length_map] at this
 have hsl:s.len=L.length:=by have:=o3.len; simp only [List.length_map,Nat.mul_one] at this; omega
 have s03:=x03.size
 refine ⟨fun q out tt w'=>∃ (j:Nat) (rs:List Rf),tt=j/\j<=L.length/\q=L.length - j/\rs=(L.take j).filterMap (refG M.pages waits)/\rs.length<=j/\Own w'.heap w.heap.size 36 3 out (rs.flatMap refCs)/\(∀ q,out.blk=some q->w3.heap.size<=q)/\Ext No w3 w',⟨L.length,0,[],rfl,by omega,by omega,by simp,by simp,Own.nil _ _ _ _,by simp [Sl.blk],Ext.refl _ _⟩,?_⟩
 rintro _ m0 out tt w4 ⟨j,rs,rfl,hj,hq,hrs,hrl,oo,ob,x34⟩
 have x04:=x03.no x34
 have R4:=R.no x04
 have o4:=o3.no x34
 have s34:=x34.size
 refine If.dec (fun h=>?_) fun h=>?_
 .have hjL:j < L.length:=by omega
  refine Ix.u32 o4 (by omega) (by simpa using hjL) fun bb _ hc=>?_
  simp only [Int.toNat_natCast] at hc
  have hin:L[j]∈M.pages.map Prod.fst:=hLp.mem_iff.1 (List.getElem_mem hjL)
  obtain ⟨p,hp,hpn⟩:=List.mem_map.1 hin
  have hpg:pgA L[j] M.pages=some p.2:=by rw [<- hpn]; exact pgA_of_mem R.nd hp
  have hlook:=mem_look R4 L[j]
  rw [hpg] at hlook
  have hP:=R4.find hpg
  have hg:refG M.pages waits L[j]=if p.2.waits == waits then some p.2.r else none:=by unfold refG; rw [hpg]; rfl
  have htk:(L.take (j+1)).filterMap (refG M.pages waits)=rs++(if p.2.waits == waits then [p.2.r] else []):=by
   rw [List.take_add_one,List.getElem?_eq_getElem hjL,Option.toList_some,List.filterMap_append,<- hrs,List.filterMap_cons,hg]
   cases p.2.waits == waits <;> rfl
  refine ⟨_,hc,_,rfl,some m.r,Cell.lst R4.mem rfl,_,w4,hlook,_,rfl,_,Cell.lst hP.blk rfl,If.cases (fun hw=>?_) fun hw=>?_⟩
  .rw [hw] at htk
   refine ⟨_,rfl,some m.r,Cell.lst R4.mem rfl,_,w4,hlook,_,rfl,_,Cell.lst hP.blk rfl,_,Cell.lst hP.blk rfl,_,Cell.lst hP.blk rfl,NewW.mk fun b w6 n6=>?_⟩
   have oo6:=oo.no n6.ext
   have hol:out.len=rs.length:=by have:=oo6.len; rw [flat_len' (refCs_len rs)] at this; omega
   have oy:Own w6.heap w4.heap.size 36 3 ⟨some ⟨b,0,none⟩,1,1⟩ (refCs p.2.r):=Own.new n6 rfl (by simp [refCs,oneC])
   have z6:=n6.size
   refine app_api_Ref oo6 (by omega) oy.rd.src (by show (out.len+1) * 24<=_; omega) fun s7 w7 o7 l7 x7 hbl=>Ar.i64 (by omega) ?_
   have x7':Ext (fun q=>out.blk=some q) w6 w7:=x7
   refine ⟨L.length - (j+1),by omega,j+1,rs++[p.2.r],by omega,by omega,rfl,by rw [htk]; rfl,by simp; omega,by rw [List.flatMap_append]; simpa using o7,fun q hq=>?_,(x34.no n6.ext).trans x7' fun q hq h=>by have:=ob q h; omega⟩
   rcases hbl with h3 | ⟨c',h3,h4⟩
   .rw [h3] at hq; exact ob q hq
   .rw [h3] at hq; cases hq; omega
  .rw [hw] at htk
   exact Ar.i64 (by omega) ⟨L.length - (j+1),by omega,j+1,rs,by omega,by omega,rfl,by rw [htk]; simp,by omega,oo,ob,x34⟩
 .have hjL:j=L.length:=by omega
  refine k out rs w4 ?_ (by rw [hrs,hjL,List.take_length]; exact refG_up R hLp hup) oo x04
  rw [hrs,hjL,List.take_length,<- refG_all R.nd waits]
  exact hLp.filterMap _
theorem pagesE_spec{K:Sl->Wd->Prop}(R:MemR w.heap T m M)(hn:M.pages.length<=65535)
  (k:∀ s (rs:List Rf) w',rs.Perm (refsM M false)->rs.Pairwise (fun a b=>a.p < b.p)->Own w'.heap w.heap.size 36 3 s (rs.flatMap refCs)->Ext No w w'->K s w'):C_tree_Mem_Pages (some ⟨m.bm,0,none⟩) w K :=
 S_tree_Mem_Pages (refsE_spec R hn k)
theorem waitingE_spec{K:Sl->Wd->Prop}(R:MemR w.heap T m M)(hn:M.pages.length<=65535)
  (k:∀ s (rs:List Rf) w',rs.Perm (refsM M true)->rs.Pairwise (fun a b=>a.p < b.p)->Own w'.heap w.heap.size 36 3 s (rs.flatMap refCs)->Ext No w w'->K s w'):C_tree_Mem_Waiting (some ⟨m.bm,0,none⟩) w K :=
 S_tree_Mem_Waiting (refsE_spec R hn k)
theorem other_spec{r0 r1 r2 odd:Int}{K:Int->Int->Int->Wd->Prop}(k:∀(r:Rf) w',Ext No w w'->K r.p r.c r.g w'):C_law15_other r0 r1 r2 odd w K:=by
 apply S_law15_other
 refine NewW.mk fun b w1 n1=>NewW.mk fun b1 w2 n2=>?_
 have hb:=n1.at_; have z1:=n1.size; have hb1:=n2.at_
 have x02:Ext No w w2:=n1.ext.no n2.ext
 have gb:=get_no n1.get n2.ext
 have nb:b1≠b:=by omega
 have fin:∀{w3:Wd}{p c g:Int},w3.heap[b]? = some (.cells [.int .u32 p, .int .u64 c, .int .u16 g].toArray 36 (0,0))->Ext (·=b) w2 w3 ->
   ∃ c0:Int,Cell w3 (Addr.mk b 0 none) (.int .u32 c0)/\∃ c1:Int,Cell w3 ((Addr.mk b 0 none).add 1) (.int .u64 c1)/\∃ c2:Int,Cell w3 ((Addr.mk b 0 none).add 2) (.int .u16 c2) /\
   List.length (α:=Value) [.int .u32 c0, .int .u64 c1, .int .u16 c2]=3/\StN w3 (Addr.mk b1 0 none) [.int .u32 c0, .int .u64 c1, .int .u16 c2] fun w4 =>
   ∃ c3:Int,Cell w4 (Addr.mk b1 0 none) (.int .u32 c3)/\∃ c4:Int,Cell w4 ((Addr.mk b1 0 none).add 1) (.int .u64 c4)/\∃ c5:Int,Cell w4 ((Addr.mk b1 0 none).add 2) (.int .u16 c5)/\K c3 c4 c5 w4:=fun {w3 p c g} g3 x3=>by
  refine ⟨_,Cell.lst g3 rfl,_,Cell.lst g3 rfl,_,Cell.lst g3 rfl,rfl,_,_,_,get_ext n2.get x3 nb,rfl,by simp, .inr (.inr (Nat.le_refl _)),?_,fun w4 h4=>?_⟩
  .intro v hv; simp only [List.mem_cons,List.not_mem_nil,or_false] at hv; rcases hv with h | h | h <;> subst h <;> rfl
  have g4:w4.heap[b1]? = some (.cells [.int .u32 p, .int .u64 c, .int .u16 g].toArray 36 (0,0)):=Wrt.get (b:=b1) h4 (get_ext n2.get x3 nb)
  have x4:Ext (·=b1) w3 w4:=Wrt.ext (b:=b1) h4
  have x24:Ext (fun q=>q=b∨q=b1) w2 w4:=(x3.mono fun _ _ h => .inl h).trans x4 fun _ _ h => .inr h
  exact ⟨_,Cell.lst g4 rfl,_,Cell.lst g4 rfl,_,Cell.lst g4 rfl,k ⟨p,c,g⟩ w4 (x02.trans x24 fun q hq h=>by omega)⟩
 refine If.beq (fun _=>⟨_,Cell.lst gb rfl,Ar.u32m (St1.mk gb (by simp) rfl fun w3 h3=>fin (h3.get gb) h3.ext)⟩) fun _=>If.beq (fun _=>⟨_,Cell.lst gb rfl,Ar.u64m (St1.mk gb (by simp) rfl fun w3 h3=>fin (h3.get gb) h3.ext)⟩) fun _=>If.beq (fun _=>⟨_,Cell.lst gb rfl,Ar.u16m (St1.mk gb (by simp) rfl fun w3 h3=>fin (h3.get gb) h3.ext)⟩) fun _=>fin gb (Ext.refl _ _)
def payL(n:Nat)(f:Int):List Int:=(List.range n).map fun i=>IntKind.u8.wrap (IntKind.i64.wrap (f+(i:Nat)))
theorem payL_len(n:Nat)(f:Int):(payL n f).length=n:=by simp [payL]
theorem payL_b8(n:Nat)(f:Int):B8 (payL n f):=fun x hx=>by
 obtain ⟨i,_,rfl⟩:=List.mem_map.1 hx
 rw [wrap_u8]; omega
theorem payload_spec{n f:Int}{K:Sl->Wd->Prop}(hn:0<=n/\n<=1000)(k:∀ s w',OwnB w'.heap w.heap.size s (payL n.toNat f)->Ext No w w'->K s w'):C_law15_payload n f w K:=by
 apply S_law15_payload
 refine MkW.mk hn.1 (Int.le_refl _) (by omega) (by omega) fun b w1 n1=>?_
 have hb:=n1.at_; have z1:=n1.size
 have o1:OwnB w1.heap w.heap.size ⟨some ⟨b,0,none⟩,n.toNat,n.toNat⟩ (List.replicate n.toNat 0):=by
  have:=Own.make (l:=n.toNat) n1 (Nat.le_refl _) (by decide)
  have e:(List.replicate n.toNat [Value.int .u8 0]).flatten=(List.replicate n.toNat (0:Int)).map (Value.int .u8):=by simp
  rw [e] at this
  exact this
 refine ⟨fun q i w'=>∃ j:Nat,i=j/\j<=n.toNat/\q=n.toNat - j/\OwnB w'.heap w.heap.size ⟨some ⟨b,0,none⟩,n.toNat,n.toNat⟩ (payL j f++List.replicate (n.toNat - j) 0)/\Ext No w w',⟨_,0,rfl,by omega,rfl,by simpa [payL] using o1,n1.ext⟩,?_⟩
 rintro _ m0 i w2 ⟨j,rfl,hj,hq,o2,x2⟩
 refine If.dec (fun h=>fun z hz=>?_) fun h=>?_
 .refine fun z1 hz1=>?_
  subst hz; subst hz1
  refine St1.own o2 (by omega) (by simp only; omega) rfl fun w3 o3 x3 _=>Ar.i64 (by omega) ⟨_,by omega,j+1,by omega,by omega,rfl,?_,?_⟩
  .have e1:n.toNat - j=(n.toNat - (j+1))+1:=by omega
   rw [<- List.map_set (l:=payL j f++List.replicate (n.toNat - j) 0),Int.toNat_natCast,List.set_append_right _ _ (by rw [payL_len]; exact Nat.le_refl _),payL_len,Nat.sub_self,e1,List.replicate_succ,List.set_cons_zero] at o3
   have e2:payL (j+1) f=payL j f++[IntKind.u8.wrap (IntKind.i64.wrap (f+j))]:=by unfold payL; rw [List.range_succ,List.map_append]; rfl
   rw [e2,List.append_assoc]
   exact o3
  .have x3':Ext (fun q=>(some b:Option Nat)=some q) w2 w3:=x3
   exact x2.trans x3' fun q hq h=>by cases h; omega
 .have hjn:j=n.toNat:=by omega
  subst hjn
  rw [Nat.sub_self,List.replicate_zero,List.append_nil] at o2
  exact k _ w2 o2 x2
end
end Go.Proofs.YtcamoanigdfihaaGreat
namespace Go.V
structure StM(h:Array Obj)(T:Nat->Option Nat)(m:MemV)(M:Mm)(n0 base bw:Nat)(ps:Sl)(D:Dm)(all:Sl)(A:List Lab):Prop where
 R:MemR h T m M
 d:DocR h base bw ps D
 al:Own h base 106 6 all (A.flatMap Lab.cs)
 tb:T bw=none
 tp:∀ q,ps.blk=some q->T q=none
 ta:∀ q,all.blk=some q->T q=none
 ne:∀ q,all.blk=some q->ps.blk≠some q
 tn:∀ q,T q≠none->n0<=q
 bn:n0<=bw
 nh:n0<=h.size
structure Sy(M:Mm)(D:Dm):Prop where
 sim:Sim M.pages D.pages
 c:D.commit=M.commit
 g:D.gen=M.gen
structure Fr(T:Nat->Option Nat)(n0 bw:Nat)(ps all:Sl)(q:Nat):Prop where
 t:T q=none
 b:q≠bw
 p:ps.blk≠some q
 a:all.blk≠some q
 n:n0<=q
section
variable {w w':Wd} {T T':Nat->Option Nat} {m m':MemV} {M M':Mm} {n0 base bw:Nat} {ps ps':Sl} {D D':Dm} {all all':Sl} {A A':List Lab}
theorem StM.ext{S:Nat->Prop}(s:StM w.heap T m M n0 base bw ps D all A)(x:Ext S w w')(hS:∀ q,S q->Fr T n0 bw ps all q):StM w'.heap T m M n0 base bw ps D all A :=
 ⟨s.R.ext x fun q h=>(hS q h).t,s.d.ext x (fun h=>(hS _ h).b rfl) fun _ hq h=>(hS _ h).p hq,s.al.ext x fun _ hq h=>(hS _ h).a hq,s.tb,s.tp,s.ta,s.ne,s.tn,s.bn,Nat.le_trans s.nh x.size⟩
theorem StM.no(s:StM w.heap T m M n0 base bw ps D all A)(x:Ext No w w'):StM w'.heap T m M n0 base bw ps D all A:=s.ext x fun _ h=>h.elim
theorem StM.fr(s:StM w.heap T m M n0 base bw ps D all A){q:Nat}(h:w.heap.size<=q):Fr T n0 bw ps all q:=by
 refine ⟨?_,fun e=>?_,fun e=>?_,fun e=>?_,Nat.le_trans s.nh h⟩
 .cases ht:T q with
  | none=>rfl
  | some t=>have:=s.R.sup q (by rw [ht]; simp); omega
 .have:=blt s.d.blk; omega
 .have:=(s.d.own.lt e).2; omega
 .have:=(s.al.lt e).2; omega
theorem StM.prog(s:StM w.heap T m M n0 base bw ps D all A)(x:Ext (Ts T) w w')(R':MemR w'.heap T' m' M')(g:Tg w T T'):StM w'.heap T' m' M' n0 base bw ps D all A:=by
 have lb:=blt s.d.blk
 refine ⟨R',s.d.ext x (fun h=>h s.tb) fun q hq h=>h (s.tp q hq),s.al.ext x fun q hq h=>h (s.ta q hq),by rw [g _ lb]; exact s.tb,fun q hq=>by rw [g _ (s.d.own.lt hq).2]; exact s.tp q hq,fun q hq=>by rw [g _ (s.al.lt hq).2]; exact s.ta q hq,s.ne,fun q hq=>?_,s.bn,Nat.le_trans s.nh x.size⟩
 rcases Nat.lt_or_ge q w.heap.size with h | h
 .exact s.tn q (by rw [<- g q h]; exact hq)
 .exact Nat.le_trans s.nh h
theorem StM.doc(s:StM w.heap T m M n0 base bw ps D all A)(x:Ext (dB bw ps) w w')(d':DocR w'.heap base bw ps' D')(hp:∀ q,ps'.blk=some q->ps.blk=some q∨w.heap.size<=q):StM w'.heap T m M n0 base bw ps' D' all A:=by
 refine ⟨s.R.ext x fun q h=>?_,d',s.al.ext x fun q hq h=>?_,s.tb,fun q hq=>?_,s.ta,fun q hq h=>?_,s.tn,s.bn,Nat.le_trans s.nh x.size⟩
 .rcases h with h | h
  .rw [h]; exact s.tb
  .exact s.tp q h
 .rcases h with h | h
  .have:=(s.al.lt hq).1; have:=s.d.lo; omega
  .exact s.ne q hq h
 .rcases hp q hq with h | h
  .exact s.tp q h
  .exact (s.fr h).t
 .rcases hp q h with h1 | h1
  .exact s.ne q hq h1
  .have:=(s.al.lt hq).2; omega
theorem StM.labs(s:StM w.heap T m M n0 base bw ps D all A)(x:Ext (fun q=>all.blk=some q) w w')(o:Own w'.heap base 106 6 all' (A'.flatMap Lab.cs))(ha:∀ q,all'.blk=some q->all.blk=some q∨w.heap.size<=q):StM w'.heap T m M n0 base bw ps D all' A':=by
 have hx:∀ q,all'.blk=some q->ps.blk≠some q/\T q=none:=fun q hq=>by
  rcases ha q hq with h | h
  .exact ⟨s.ne q h,s.ta q h⟩
  .exact ⟨(s.fr h).p,(s.fr h).t⟩
 refine ⟨s.R.ext x fun q h=>s.ta q h,s.d.ext x (fun h=>?_) fun q hq h=>s.ne q h hq,o,s.tb,s.tp,fun q hq=>(hx q hq).2,fun q hq=>(hx q hq).1,s.tn,s.bn,Nat.le_trans s.nh x.size⟩
 have:=(s.al.lt h).1; have:=s.d.lo; omega
theorem StM.dn(s:StM w.heap T m M n0 base bw ps D all A){q:Nat}(h:dB bw ps q):n0<=q:=by
 rcases h with h | h
 .rw [h]; exact s.bn
 .have:=(s.d.own.lt h).1; have:=s.d.lo; have:=s.bn; omega
theorem StM.an(s:StM w.heap T m M n0 base bw ps D all A){q:Nat}(h:all.blk=some q):n0<=q:=by
 have:=(s.al.lt h).1; have:=s.d.lo; have:=s.bn; omega
end
end Go.V
namespace Go.Proofs.YtcamoanigdfihaaGreat
open Go.V
section
variable {w:Wd} {T T':Nat->Option Nat} {m m':MemV} {M M':Mm} {n0 base bw:Nat} {ps:Sl} {D:Dm} {all:Sl} {A:List Lab}
def PutA(M M':Mm)(P:List Int)(t k v:Int)(r:Rf)(e:Int):Prop :=
 (e=0/\P.length=224/\∃ n,IsFree M.pages n/\r=⟨n,M.commit,M.gen⟩/\M'={ M with pages:=M.pages++[(n,⟨t,k,v,r,P,false⟩)] })∨(e=2/\P.length≠224/\r=⟨0,0,0⟩/\M'=M)
theorem dPutA{t k v:Int}{r r0:Rf}{e:Int}{s:Sl}{P:List Int}{K:Int->Int->Int->Int->Wd->Prop}(st:StM w.heap T m M' n0 base bw ps D all A)(y:Sy M D)(hp:PutA M M' P t k v r e)(hs:RdB w.heap s P)(hl:M.pages.length<=60000)
  (kk:∀ ps' D' w',StM w'.heap T m M' n0 base bw ps' D' all A->Sy M' D'->Ext (dB bw ps) w w'->(∀ q,ps'.blk=some q->ps.blk=some q∨w.heap.size<=q)->K r.p r.c r.g e w'):C_ref15_Mem_Put (some ⟨bw,0,none⟩) t k v r0.p r0.c r0.g s w K:=by
 have hlD:D.pages.length<=65535:=by have:=y.sim.len; omega
 rcases hp with ⟨he,hP,n,hf,hr,hM⟩ | ⟨he,hP,hr,hM⟩
 .subst he
  have hn:pgQ n D.pages=none:=by rw [y.sim.find]; exact hf.no
  have hle:=IsFree.le hf.all hf.lo
  refine dPut_spec (n:=n) st.d y.sim.up hlD hs hf.lo (by omega) hn (fun i h1 h2=>by rw [y.sim.find]; exact hf.all i h1 h2) (fun i ps' w' _ hA d' x hps=>?_) fun w' h _=>(h hP).elim
  subst hr
  have e1:D.commit=M.commit:=y.c
  have e2:D.gen=M.gen:=y.g
  rw [e1,e2] at d' ⊢
  refine kk ps' _ w' (st.doc x d' fun q hq => .inr (hps q hq)) ⟨?_,?_,?_⟩ x fun q hq => .inr (hps q hq)
  .rw [hM]; exact y.sim.put hf.no rfl hA.lo hA.hi
  .rw [hM]
  .rw [hM]
 .subst he; subst hr; subst hM
  -- nothing is put: any free number will do
  have hex:∃ n,IsFree M'.pages n:=by
   have key:∀ k:Nat,∀ n:Int,2<=n->(∀ i,2<=i->i < n->pgA i M'.pages≠none)->n+k=M'.pages.length+3->∃ n,IsFree M'.pages n:=by
    intro k
    induction k with
    | zero =>
     intro n h2 hall hk
     have:=IsFree.le hall h2
     omega
    | succ k ih =>
     intro n h2 hall hk
     cases hp:pgA n M'.pages with
     | none=>exact ⟨n,h2,hp,hall⟩
     | some p =>
      refine ih (n+1) (by omega) (fun i h1 h3=>?_) (by omega)
      rcases Int.lt_or_le i n with h | h
      .exact hall i h1 h
      .have:i=n:=by omega
       subst this; rw [hp]; simp
   exact key (M'.pages.length+1) 2 (Int.le_refl _) (fun i h1 h2=>by omega) (by omega)
  obtain ⟨n,hf⟩:=hex
  have hn:pgQ n D.pages=none:=by rw [y.sim.find]; exact hf.no
  have hle:=IsFree.le hf.all hf.lo
  refine dPut_spec (n:=n) st.d y.sim.up hlD hs hf.lo (by omega) hn (fun i h1 h2=>by rw [y.sim.find]; exact hf.all i h1 h2) (fun i ps' w' h _ _ _ _=>(hP h).elim) fun w' _ x=>?_
  exact kk ps D w' (st.no x) y x.of_no fun q hq => .inl hq
def Bump(s:Sl)(w:Wd)(K:Wd->Prop):Prop :=
 ∃ I0:Nat->Int->Wd->Prop,(∃ m,I0 m 0 w)/\∀(_:Env)(m0:Nat)(i:Int)(w1:Wd),I0 m0 i w1 ->
 If (decide (i < ((s.len:Int)))) (
 Ix s.a s.len i 1 fun a_1 =>
 ∃ vv:Int,Cell w1 a_1 (.int .u8 vv) /\
 Ar .u8 (vv+1) fun z =>
 Ix s.a s.len i 1 fun a_2 =>
 St1 w1 a_2 (.int .u8 z) fun w2 =>
 Ar .i64 (i+1) fun z_1 =>
 ∃ m1,m1 < m0/\I0 m1 z_1 w2) (
 K w1)
theorem bump{s:Sl}{P:List Int}{b:Nat}{K:Wd->Prop}(o:OwnB w.heap b s P)(hn:P.length<=100000)(k:∀ w',Ext (fun q=>s.blk=some q) w w'->K w'):Bump s w K:=by
 have hl:=OwnB.len o
 refine ⟨fun q i w'=>∃ (j:Nat) (P':List Int),i=j/\j<=s.len/\q=s.len - j/\P'.length=P.length/\OwnB w'.heap b s P'/\Ext (fun q=>s.blk=some q) w w',⟨_,0,P,rfl,by omega,rfl,rfl,o,Ext.refl _ _⟩,?_⟩
 rintro _ m0 i w1 ⟨j,P',rfl,hj,hq,hP,o1,x1⟩
 refine If.dec (fun h=>?_) fun h=>k w1 x1
 have hj':j < P'.length:=by omega
 refine Ix.int o1.rd (by omega) h fun bb oo _ hc=>⟨_,hc,Ar.u8m (St1.own o1 (by omega) h rfl fun w2 o2 x2 _=>Ar.i64 (by omega) ⟨_,by omega,j+1,P'.set j ((P'.getD ((j:Int)).toNat 0+1) % 256),by omega,by omega,rfl,by rw [List.length_set]; exact hP,?_,x1.trans x2 fun _ _ h=>h⟩)⟩
 rw [<- List.map_set,Int.toNat_natCast] at o2
 exact o2
end
section
variable {w:Wd} {T:Nat->Option Nat} {m:MemV} {M:Mm} {n0 base bw:Nat} {ps:Sl} {D:Dm} {all:Sl} {A:List Lab}
theorem labOne(x:Lab):∀ v∈x.cs,oneC v=true:=by
 intro v hv; simp only [Lab.cs,List.mem_cons,List.not_mem_nil,or_false] at hv
 rcases hv with h | h | h | h | h | h <;> subst h <;> rfl
theorem refOne(r:Rf):∀ v∈refCs r,oneC v=true:=by
 intro v hv; simp only [refCs,List.mem_cons,List.not_mem_nil,or_false] at hv
 rcases hv with h | h | h <;> subst h <;> rfl
def PutTail(b_1 b_2 b_3:Nat)(r_2 all:Sl)(e:Int)(w:Wd)(K:Sl->Bool->Wd->Prop):Prop :=
 Bump r_2 w fun w18 =>
 ∃ c_15:Int,Cell w18 (Addr.mk b_2 0 none) (.int .u32 c_15) /\
 ∃ c_16:Int,Cell w18 ((Addr.mk b_2 0 none).add 1) (.int .u64 c_16) /\
 ∃ c_17:Int,Cell w18 ((Addr.mk b_2 0 none).add 2) (.int .u16 c_17) /\
 List.length (α:=Value) [.int .u32 c_15, .int .u64 c_16, .int .u16 c_17]=3/\StN w18 ((Addr.mk b_1 0 none).add 3) [.int .u32 c_15, .int .u64 c_16, .int .u16 c_17] fun w20 =>
 ∃ J0:Sl->Wd->Prop,(
 If (e == 0) (
 ∃ c_18:Int,Cell w20 (Addr.mk b_1 0 none) (.int .u32 c_18) /\
 ∃ c_19:Int,Cell w20 ((Addr.mk b_1 0 none).add 1) (.int .u8 c_19) /\
 ∃ c_20:Int,Cell w20 ((Addr.mk b_1 0 none).add 2) (.int .u8 c_20) /\
 ∃ c_21:Int,Cell w20 ((Addr.mk b_1 0 none).add 3) (.int .u32 c_21) /\
 ∃ c_22:Int,Cell w20 ((Addr.mk b_1 0 none).add 4) (.int .u64 c_22) /\
 ∃ c_23:Int,Cell w20 ((Addr.mk b_1 0 none).add 5) (.int .u16 c_23) /\
 NewW w20 (.cells [.int .u32 c_18, .int .u8 c_19, .int .u8 c_20, .int .u32 c_21, .int .u64 c_22, .int .u16 c_23].toArray 106) fun b_4 w21 =>
 AppW pz 65 65 all (.slice (some (Addr.mk b_4 0 none)) 1 1) (fun s w22 =>
 J0 s w22) w21) (
 J0 all w20))/\∀(_:Env)(all_1:Sl)(w23:Wd),J0 all_1 w23 ->
 ∃ c_24:Int,Cell w23 (Addr.mk b_2 0 none) (.int .u32 c_24) /\
 ∃ c_25:Int,Cell w23 ((Addr.mk b_2 0 none).add 1) (.int .u64 c_25) /\
 ∃ c_26:Int,Cell w23 ((Addr.mk b_2 0 none).add 2) (.int .u16 c_26) /\
 ∃ c_27:Int,Cell w23 (Addr.mk b_3 0 none) (.int .u32 c_27) /\
 ∃ c_28:Int,Cell w23 ((Addr.mk b_3 0 none).add 1) (.int .u64 c_28) /\
 ∃ c_29:Int,Cell w23 ((Addr.mk b_3 0 none).add 2) (.int .u16 c_29) /\
 If ((c_24 == c_27) && ((c_25 == c_28) && ((c_26 == c_29) && (true)))) (
 K all_1 (e == e) w23) (
 K all_1 false w23)
theorem put_tail{b_1 b_2 b_3 nb:Nat}{r_2:Sl}{P:List Int}{t k v:Int}{rr:Rf}{e:Int}{K:Sl->Bool->Wd->Prop}(st:StM w.heap T m M n0 base bw ps D all A)
  (g1:w.heap[b_1]? = some (.cells (Lab.cs ⟨t,k,v,⟨0,0,0⟩⟩).toArray 106 (0,0))) (g2:w.heap[b_2]? = some (.cells (refCs rr).toArray 36 (0,0))) (g3:w.heap[b_3]? = some (.cells (refCs rr).toArray 36 (0,0)))
  (o:OwnB w.heap nb r_2 P) (hP:P.length<=1000) (hA:A.length<=1000) (f1:Fr T n0 bw ps all b_1) (f2:∀ q,r_2.blk=some q->Fr T n0 bw ps all q) (fb2:Fr T n0 bw ps all b_2) (fb3:Fr T n0 bw ps all b_3)
  (d12:b_2≠b_1) (d13:b_3≠b_1) (dr:∀ q,r_2.blk=some q->q≠b_1/\q≠b_2/\q≠b_3)
  (kk:∀ all' A' w',StM w'.heap T m M n0 base bw ps D all' A'->A'.length<=A.length+1->Ext (fun q=>n0<=q) w w'->K all' true w') :
  PutTail b_1 b_2 b_3 r_2 all e w K:=by
 refine bump o (by omega) fun w1 x1=>?_
 have st1:=st.ext x1 f2
 have h1:=get_ext g1 x1 fun h=>(dr _ h).1 rfl
 have h2:=get_ext g2 x1 fun h=>(dr _ h).2.1 rfl
 have h3:=get_ext g3 x1 fun h=>(dr _ h).2.2 rfl
 refine ⟨_,Cell.lst h2 rfl,_,Cell.lst h2 rfl,_,Cell.lst h2 rfl,rfl,_,_,_,h1,rfl,by show 3+3<=6; decide, .inr (.inr (Nat.le_refl _)),refOne rr,fun w2 hw2=>?_⟩
 have g12:w2.heap[b_1]? = some (.cells (Lab.cs ⟨t,k,v,rr⟩).toArray 106 (0,0)):=Wrt.get (b:=b_1) hw2 h1
 have x2:Ext (·=b_1) w1 w2:=Wrt.ext (b:=b_1) hw2
 have st2:=st1.ext x2 fun q h=>by rw [h]; exact f1
 have x02:Ext (fun q=>n0<=q) w w2:=(x1.mono fun q _ h=>(f2 q h).n).trans x2 fun q _ h=>by rw [h]; exact f1.n
 have h22:=get_ext h2 x2 d12
 have h32:=get_ext h3 x2 d13
 refine ⟨fun all' w'=>∃ A',StM w'.heap T m M n0 base bw ps D all' A'/\A'.length<=A.length+1/\Ext (fun q=>all.blk=some q) w2 w',If.beq (fun _=>?_) fun _=>⟨A,st2,by omega,Ext.refl _ _⟩,?_⟩
 .refine ⟨_,Cell.lst g12 rfl,_,Cell.lst g12 rfl,_,Cell.lst g12 rfl,_,Cell.lst g12 rfl,_,Cell.lst g12 rfl,_,Cell.lst g12 rfl,NewW.mk fun b4 w3 n3=>?_⟩
  have st3:=st2.no n3.ext
  have oy:Own w3.heap w2.heap.size 106 6 ⟨some ⟨b4,0,none⟩,1,1⟩ (Lab.cs ⟨t,k,v,rr⟩):=Own.new n3 rfl (labOne _)
  have hal:all.len=A.length:=by have:=st.al.len; rw [flat_len' (labCs_len A)] at this; omega
  refine app_api_Label st3.al st3.d.hb oy.rd.src (by show (all.len+1) * 32<=_; omega) fun s4 w4 o4 _ x4 hb4=>?_
  have x4':Ext (fun q=>all.blk=some q) w3 w4:=x4
  refine ⟨A++[⟨t,k,v,rr⟩],st3.labs x4' (by rw [List.flatMap_append]; simpa using o4) (fun q hq=>?_),by simp,(n3.ext.of_no).trans x4' fun _ _ h=>h⟩
  rcases hb4 with h | ⟨c,h,hc⟩
  .exact .inl (by rw [<- h]; exact hq)
  .rw [h] at hq; cases hq; exact .inr hc
 .rintro _ all' w5 ⟨A',st5,hA',x5⟩
  have h25:=get_ext h22 x5 fb2.a
  have h35:=get_ext h32 x5 fb3.a
  refine ⟨_,Cell.lst h25 rfl,_,Cell.lst h25 rfl,_,Cell.lst h25 rfl,_,Cell.lst h35 rfl,_,Cell.lst h35 rfl,_,Cell.lst h35 rfl,?_⟩
  rw [refeq rr rr]
  refine If.dec (fun _=>?_) fun h=>(h rfl).elim
  rw [beq_self_eq_true]
  exact kk all' A' w5 st5 hA' (x02.trans x5 fun q _ h=>st.an h)
theorem drop_no{r:Rf}(y:Sy M D)(h:∀ p,pgQ r.p D.pages=some p->p.waits=true∨p.r≠r):dropM M r=(7,M):=by
 unfold dropM
 cases hp:pgA r.p M.pages with
 | none=>rfl
 | some p=>exact if_pos (h p (by rw [y.sim.find]; exact hp))
theorem drop_yes{r:Rf}{i:Nat}(y:Sy M D)(hi:i < D.pages.length)(h1:pgQ r.p D.pages=some D.pages[i])(h2:D.pages[i].r=r)(h3:D.pages[i].waits=false) :
  (dropM M r).1=0/\Sy (dropM M r).2 { D with pages:=if r.c=D.commit then D.pages.take i++D.pages.drop (i+1) else D.pages.set i D.pages[i].wt }:=by
 have hp:pgA r.p M.pages=some D.pages[i]:=by rw [<- y.sim.find]; exact h1
 have e:dropM M r=if r.c=M.commit then (0,{ M with pages:=delP r.p M.pages }) else (0,{ M with pages:=waitP r.p M.pages }):=by
  unfold dropM; rw [hp]
  exact if_neg (by rw [h3,h2]; simp)
 rw [e,y.c]
 have hr:r.p=D.pages[i].r.p:=by rw [h2]
 split
 .refine ⟨rfl,?_,rfl,y.g⟩
  rw [hr]; exact y.sim.del hi
 .refine ⟨rfl,?_,rfl,y.g⟩
  rw [hr]; exact y.sim.wait hi
theorem drop_len{r:Rf}:(dropM M r).2.pages.length<=M.pages.length:=by
 unfold dropM
 split
 .exact Nat.le_refl _
 .split
  .exact Nat.le_refl _
  .split
   .exact (delP_sub _ _).length_le
   .show (waitP _ _).length<=_; unfold waitP; rw [List.length_map]; exact Nat.le_refl _
theorem mPutA{t k v:Int}{s:Sl}{P:List Int}{K:Int->Int->Int->Int->Wd->Prop}(st:StM w.heap T m M n0 base bw ps D all A)(hs:RdB w.heap s P)(h8:B8 P)(hn:M.pages.length<=1048576)
  (kk:∀ T' m' M' r e w',PutA M M' P t k v r e->StM w'.heap T' m' M' n0 base bw ps D all A->m'.bm=m.bm->M'.pages.length<=M.pages.length+1->Tg w T T'->Ext (Ts T) w w'->K r.p r.c r.g e w'):C_tree_Mem_Put (some ⟨m.bm,0,none⟩) t k v s w K:=by
 refine memPut_spec st.R hs h8 hn (fun n T' m' w' hP hf R' hb g x=>?_) fun w' hP x=>?_
 .exact kk T' m' _ ⟨n,M.commit,M.gen⟩ 0 w' (.inl ⟨rfl,hP,n,hf,rfl,rfl⟩) (st.prog x R' g) hb (by simp) g x
 .exact kk T m M ⟨0,0,0⟩ 2 w' (.inr ⟨rfl,hP,rfl,rfl⟩) (st.no x) rfl (by omega) (fun _ _=>rfl) x.of_no
theorem _root_.Go.V.Fr.tg{T':Nat->Option Nat}{q:Nat}(f:Fr T n0 bw ps all q)(h:q < w.heap.size)(g:Tg w T T'):Fr T' n0 bw ps all q:=⟨by rw [g q h]; exact f.t,f.b,f.p,f.a,f.n⟩
theorem _root_.Go.V.Fr.to{ps':Sl}{q n:Nat}(f:Fr T n0 bw ps all q)(h:q < n)(hp:∀ q,ps'.blk=some q->ps.blk=some q∨n<=q):Fr T n0 bw ps' all q:=⟨f.t,f.b,fun e=>by
 rcases hp q e with h1 | h1
 .exact f.p h1
 .omega,f.a,f.n⟩
theorem _root_.Go.V.Fr.nd{q:Nat}(f:Fr T n0 bw ps all q):¬ dB bw ps q:=fun h=>by
 rcases h with h | h
 .exact f.b h
 .exact f.p h
def GetTail(s:Sl)(c:ByteArray)(e:Int)(all:Sl)(w:Wd)(K:Sl->Bool->Wd->Prop):Prop :=
 ∃ J1:Bool->Wd->Prop,(
 StrC (Cell w) s fun str =>
 If (ByteArray.toList str == ByteArray.toList c) (
 J1 (e == e) w) (
 J1 false w))/\∀(_:Env)(ok:Bool)(w47:Wd),J1 ok w47 ->
 Bump s w47 fun w48=>K all ok w48
theorem get_tail{nb:Nat}{s:Sl}{L:List Int}{e:Int}{K:Sl->Bool->Wd->Prop}(o:OwnB w.heap nb s L)(hl:L.length<=100000)(k:∀ w',Ext (fun q=>s.blk=some q) w w'->K all true w'):GetTail s ⟨(toB L).toArray⟩ e all w K:=by
 refine ⟨fun ok w'=>ok=true/\w'=w,StrC.mk o.rd (fun _ _ _ h=>Cell.mk h) ?_,?_⟩
 .rw [beq_self_eq_true,beq_self_eq_true]
  exact If.yes ⟨rfl,rfl⟩
 .rintro _ ok w1 ⟨rfl,rfl⟩
  exact bump o hl k
set_option maxHeartbeats 4000000 in
theorem act_spec{a0 a1 a2 a3 a4 a5 a6 a7 a8 a9 a10 a11 a12:Int}{K:Sl->Bool->Wd->Prop}(st:StM w.heap T m M n0 base bw ps D all A)(y:Sy M D)(hs:0<=a2/\a2<=1000)(hc:0<=a5/\a5<=18446744073709551615)(hg:0<=a6/\a6<=65535)(hM:M.pages.length<=1000)(hA:A.length<=1000)
  (kk:∀ T' m' M' ps' D' all' A' w',StM w'.heap T' m' M' n0 base bw ps' D' all' A'->Sy M' D'->m'.bm=m.bm->M'.pages.length<=M.pages.length+1->A'.length<=A.length+1->Ext (fun q=>n0<=q) w w'->K all' true w') :
  C_law15_act (some ⟨m.bm,0,none⟩) (some ⟨bw,0,none⟩) a0 a1 a2 a3 a4 a5 a6 a7 a8 a9 a10 a11 a12 all w K:=by
 apply S_law15_act
 refine NewW.mk fun b w1 n1=>NewW.mk fun b_1 w2 n2=>?_
 have hb:=n1.at_; have z1:=n1.size; have hb1:=n2.at_; have z2:=n2.size
 have x02:Ext No w w2:=n1.ext.no n2.ext
 have gb2:=get_no n1.get n2.ext
 have st2:=st.no x02
 have hDl:D.pages.length<=65535:=by have:=y.sim.len; omega
 have hal:all.len=A.length:=by have:=st.al.len; rw [flat_len' (labCs_len A)] at this; omega
 have fb:Fr T n0 bw ps all b:=st.fr (by omega)
 have fb1:Fr T n0 bw ps all b_1:=st.fr (by omega)
 have nbb:b_1≠b:=by omega
 refine ⟨fun w'=>∃ x:Lab,w'.heap[b_1]? = some (.cells x.cs.toArray 106 (0,0))/\Ext (·=b_1) w2 w',If.dec (fun h=>?_) fun _=>⟨⟨0,0,0,⟨0,0,0⟩⟩,n2.get,Ext.refl _ _⟩,?_⟩
 .refine ⟨_,Cell.lst gb2 rfl,fun z hz=>Ar.u64 (by omega) ⟨by omega,Nm.mk ?_⟩⟩
  rw [wrap_u64] at hz
  have hz0:0<=z:=by omega
  have ht1:0<=Int.tmod z (all.len:Int):=Int.tmod_nonneg _ hz0
  have ht2:Int.tmod z (all.len:Int) < (all.len:Int):=Int.tmod_lt_of_pos _ (by omega)
  refine Ar.i64 (by omega) (Ix.elem st2.al.rd (labCs_len A) (by decide) ht1 ht2 fun bb oo hi _ hcc=>?_)
  refine ⟨_,hcc 0 _ rfl,_,hcc 1 _ rfl,_,hcc 2 _ rfl,_,hcc 3 _ rfl,_,hcc 4 _ rfl,_,hcc 5 _ rfl,rfl,_,_,_,n2.get,rfl,by show 0+6<=6; decide, .inr (.inr (Nat.le_refl _)),labOne _,fun w3 h3=>⟨A[(Int.tmod z (all.len:Int)).toNat],Wrt.get (b:=b_1) h3 n2.get,Wrt.ext (b:=b_1) h3⟩⟩
 rintro _ w4 ⟨x,g4,x24⟩
 have st4:=st2.ext x24 fun q h=>by rw [h]; exact fb1
 have gb4:=get_ext gb2 x24 nbb.symm
 refine ⟨_,Cell.lst g4 rfl,_,Cell.lst g4 rfl,_,Cell.lst g4 rfl,_,Cell.lst gb4 rfl,other_spec fun r w5 x5=>⟨rfl,_,_,_,get_no g4 x5,rfl,by show 3+3<=6; decide, .inr (.inr (Nat.le_refl _)),refOne r,fun w6 h6=>?_⟩⟩
 have g6:w6.heap[b_1]? = some (.cells (Lab.cs ⟨x.t,x.k,x.v,r⟩).toArray 106 (0,0)):=Wrt.get (b:=b_1) h6 (get_no g4 x5)
 have x6:Ext (·=b_1) w5 w6:=Wrt.ext (b:=b_1) h6
 have x46:Ext (·=b_1) w4 w6:=(x5.of_no (S:=(·=b_1))).trans x6 fun _ _ h=>h
 have st6:=st4.ext x46 fun q h=>by rw [h]; exact fb1
 have gb6:=get_ext gb4 x46 nbb.symm
 have x06:Ext No w w6:=x02.trans (x24.trans x46 fun _ _ h=>h) fun q hq h=>by omega
 have X:∀{w'},Ext (fun q=>n0<=q) w6 w'->Ext (fun q=>n0<=q) w w':=fun h=>(x06.of_no (S:=fun q=>n0<=q)).trans h fun _ _ h=>h
 have x6d:Ext No w6 (drewW w6):=(Ext.refl _ _).drew
 have st6d:StM (drewW w6).heap T m M n0 base bw ps D all A:=st6
 let S6:Nat->Prop:=fun q=>T q≠none∨dB bw ps q
 have nS:∀{q},Fr T n0 bw ps all q->¬ S6 q:=fun f h=>by
  rcases h with h | h | h
  .exact h f.t
  .exact f.b h
  .exact f.p h
 have S6n:∀{q},S6 q->n0<=q:=fun h=>by
  rcases h with h | h
  .exact st.tn _ h
  .exact st.dn h
 refine ⟨_,Cell.lst gb6 rfl,If.beq (fun _=>?_) fun _=>If.beq (fun _=>?_) fun _=>If.beq (fun _=>?_) fun _=>If.beq (fun _=>?_) fun _=>If.beq (fun _=>?_) fun _=>?_⟩
 .-- Begin
  refine ⟨Ext S6 w6,(Ext.refl _ _).drew,_,Held.but (Cell.lst gb6 rfl) (nS fb),_,Held.but (Cell.lst gb6 rfl) (nS fb),_,Held.but (Cell.lst gb6 rfl) (nS fb),_,Held.but (Cell.lst gb6 rfl) (nS fb),?_⟩
  refine memBegin_spec st6d.R hc hg (fun hle=>⟨(Ext.refl _ _).drew,dBegin_spec st6d.d (fun _=>⟨(Ext.refl _ _).drew,?_⟩) fun w' h _ _=>by have:=y.c; omega⟩) fun w7 hlt R7 x7=>?_
  .rw [beq_self_eq_true]
   exact kk T m M ps D all A _ st6d y rfl (by omega) (by omega) (X x6d.of_no)
  .have st7:=st6d.prog x7 R7 fun _ _=>rfl
   have x67:Ext S6 w6 w7:=(x6d.of_no (S:=S6)).trans x7 fun _ _ h => .inl h
   refine ⟨x67,dBegin_spec st7.d (fun h=>by have:=y.c; omega) fun w8 _ d8 x8=>?_⟩
   have x68:Ext S6 w6 w8:=x67.trans x8 fun _ _ h => .inr h
   have st8:=st7.doc x8 d8 fun q hq => .inl hq
   refine ⟨x68,?_⟩
   rw [beq_self_eq_true]
   exact kk T m _ ps _ all A _ st8 ⟨y.sim,rfl,rfl⟩ rfl (by show M.pages.length<=_; omega) (by omega) (X (x68.mono fun q _ h=>S6n h))
 .-- Put
  refine ⟨_,Cell.lst gb6 rfl,_,Cell.lst gb6 rfl,payload_spec hs fun r_2 w9 o9 x9=>?_⟩
  have st9:=st6.no x9
  have gb9:=get_no gb6 x9
  have hP:=payL_len a2.toNat a3
  have h8:=payL_b8 a2.toNat a3
  refine ⟨_,Cell.lst gb9 rfl,_,Cell.lst gb9 rfl,_,Cell.lst gb9 rfl,?_⟩
  have z6:=x06.size
  have z9:=x9.size
  have r2n:∀ q,r_2.blk=some q->w6.heap.size<=q/\q < w9.heap.size:=fun q hq=>o9.lt hq
  have lb:b < w6.heap.size:=blt gb6
  have lb1:b_1 < w6.heap.size:=blt g6
  refine mPutA st9 o9.rd h8 (by omega) fun T' m' M' rr e w10 hp st10 hbm hlen hTg x10=>NewW.mk fun b_2 w11 n11=>⟨rfl,_,_,_,n11.get,rfl,by simp, .inr (.inr (Nat.le_refl _)),refOne rr,fun w12 h12=>?_⟩
  have g12:w12.heap[b_2]? = some (.cells (refCs rr).toArray 36 (0,0)):=Wrt.get (b:=b_2) h12 n11.get
  have x12:Ext (·=b_2) w11 w12:=Wrt.ext (b:=b_2) h12
  have hb2:=n11.at_
  have z10:=x10.size
  have z11:=n11.size
  have z12:=x12.size
  have x912:Ext (Ts T) w9 w12:=(x10.no n11.ext).trans x12 fun q hq h=>by omega
  have fb':Fr T' n0 bw ps all b:=fb.tg (w:=w9) (by omega) hTg
  have fb1':Fr T' n0 bw ps all b_1:=fb1.tg (w:=w9) (by omega) hTg
  have fb2':Fr T' n0 bw ps all b_2:=st10.fr (by omega)
  have fr2:∀ q,r_2.blk=some q->Fr T' n0 bw ps all q:=fun q hq=>(st6.fr (r2n q hq).1).tg (w:=w9) (r2n q hq).2 hTg
  have fr2t:∀ q,r_2.blk=some q->¬ Ts T q:=fun q hq h=>h (st6.fr (r2n q hq).1).t
  have st12:StM w12.heap T' m' M' n0 base bw ps D all A:=(st10.no n11.ext).ext x12 fun q h=>by rw [h]; exact fb2'
  have gb12:=get_ext gb9 x912 fun h=>h fb.t
  have g112:=get_ext (get_no g6 x9) x912 fun h=>h fb1.t
  have o12:=o9.ext x912 fr2t
  refine ⟨_,Cell.lst gb12 rfl,_,Cell.lst gb12 rfl,_,Cell.lst gb12 rfl,rfl,_,_,_,g112,rfl,by show 0+6<=6; decide, .inr (.inr (Nat.le_refl _)),labOne ⟨a7,a8,a9,⟨0,0,0⟩⟩,fun w13 h13=>?_⟩
  have g13:w13.heap[b_1]? = some (.cells (Lab.cs ⟨a7,a8,a9,⟨0,0,0⟩⟩).toArray 106 (0,0)):=Wrt.get (b:=b_1) h13 g112
  have x13:Ext (·=b_1) w12 w13:=Wrt.ext (b:=b_1) h13
  have z13:=x13.size
  have st13:=st12.ext x13 fun q h=>by rw [h]; exact fb1'
  have gb13:=get_ext gb12 x13 nbb.symm
  have d21:b_2≠b_1:=by omega
  have g213:=get_ext g12 x13 d21
  have o13:=o12.ext x13 fun q hq h=>by have:=r2n q hq; omega
  have x613:Ext (fun q=>n0<=q) w6 w13:=((x9.of_no (S:=fun q=>n0<=q)).trans x912 fun q _ h=>st.tn q h).trans x13 fun q _ h=>by rw [h]; exact fb1.n
  have tl:∀(b_3:Nat)(ps':Sl)(D':Dm)(w17:Wd),StM w17.heap T' m' M' n0 base bw ps' D' all A->Sy M' D'->w17.heap[b_3]? = some (.cells (refCs rr).toArray 36 (0,0))->Ext (dB bw ps) w13 w17->w13.heap.size<=b_3->Fr T' n0 bw ps' all b_3->(∀ q,ps'.blk=some q->ps.blk=some q∨w13.heap.size<=q)->PutTail b_1 b_2 b_3 r_2 all e w17 K:=fun b_3 ps' D' w17 st17 y17 g3 x17 hb3 f3 hps=>by
   refine put_tail st17 (get_ext g13 x17 fb1'.nd) (get_ext g213 x17 fb2'.nd) g3 (o13.ext x17 fun q hq=>(fr2 q hq).nd) (by omega) hA (fb1'.to (n:=w13.heap.size) (by omega) hps) (fun q hq=>(fr2 q hq).to (n:=w13.heap.size) (by have:=r2n q hq; omega) hps) (fb2'.to (n:=w13.heap.size) (by omega) hps) f3 d21 (by omega) (fun q hq=>by have:=r2n q hq; omega) fun all' A' w' st' hA' x'=>?_
   exact kk T' m' M' ps' D' all' A' w' st' y17 hbm hlen hA' (X ((x613.trans x17 fun q _ h=>st13.dn h).trans x' fun _ _ h=>h))
  have sub:∀{wa:Wd},Ext No w13 wa->w13.heap.size<=wa.heap.size:=fun h=>h.size
  have x13d:Ext No w13 (drewW w13):=(Ext.refl _ _).drew
  have st13d:StM (drewW w13).heap T' m' M' n0 base bw ps D all A:=st13
  refine ⟨Ext (dB bw ps) w13,(Ext.refl _ _).drew,_,Held.but (Cell.lst g13 rfl) fb1'.nd,_,Held.but (Cell.lst g13 rfl) fb1'.nd,_,Held.but (Cell.lst g13 rfl) fb1'.nd,_,Held.but (Cell.lst g13 rfl) fb1'.nd,_,Held.but (Cell.lst g13 rfl) fb1'.nd,_,Held.but (Cell.lst g13 rfl) fb1'.nd,_,Held.but (Cell.lst gb13 rfl) fb'.nd,_,Held.but (Cell.lst gb13 rfl) fb'.nd,⟨?_,?_⟩⟩
  .refine payload_spec hs fun r_3 w14 o14 x14=>?_
   have x1314:Ext No w13 w14:=x14.drew_left
   have st14:=st13.no x1314
   have z14:=x1314.size
   refine ⟨x1314.of_no,⟨?_,?_⟩⟩
   .refine dPutA (r0:=⟨0,0,0⟩) st14 y hp o14.rd (by omega) fun ps' D' w15 st15 y15 x15 hps=>?_
    have x1315:Ext (dB bw ps) w13 w15:=(x1314.of_no).trans x15 fun _ _ h=>h
    have z15:=x1315.size
    refine ⟨x1315,NewW.mk fun b_3 w16 n16=>⟨x1315.no n16.ext,rfl,_,_,_,n16.get,rfl,by simp, .inr (.inr (Nat.le_refl _)),refOne rr,fun w17 h17=>?_⟩⟩
    have g17:w17.heap[b_3]? = some (.cells (refCs rr).toArray 36 (0,0)):=Wrt.get (b:=b_3) h17 n16.get
    have x17:Ext (·=b_3) w16 w17:=Wrt.ext (b:=b_3) h17
    have hb3:=n16.at_
    have f3:Fr T' n0 bw ps' all b_3:=st15.fr (by omega)
    have x1317:Ext (dB bw ps) w13 w17:=(x1315.no n16.ext).trans x17 fun q hq h=>by omega
    refine ⟨x1317,tl b_3 ps' D' w17 ((st15.no n16.ext).ext x17 fun q h=>by rw [h]; exact f3) y15 g17 x1317 (by omega) f3 fun q hq=>(hps q hq).imp id fun h=>by omega⟩
   .refine NewW.mk fun b_5 w24 n24=>⟨(x1314.no n24.ext).of_no,?_⟩
    have x1324:=x1314.no n24.ext
    have hb5:=n24.at_
    have z24:=n24.size
    refine dPutA (r0:=⟨0,0,0⟩) (st14.no n24.ext) y hp (o14.rd.no n24.ext) (by omega) fun ps' D' w25 st25 y25 x25 hps=>?_
    have x1325:Ext (dB bw ps) w13 w25:=(x1324.of_no).trans x25 fun _ _ h=>h
    have f5:Fr T' n0 bw ps all b_5:=st14.fr (by omega)
    have g25:=get_ext n24.get x25 f5.nd
    refine ⟨x1325,rfl,_,_,_,g25,rfl,by simp, .inr (.inr (Nat.le_refl _)),refOne rr,fun w26 h26=>?_⟩
    have g26:w26.heap[b_5]? = some (.cells (refCs rr).toArray 36 (0,0)):=Wrt.get (b:=b_5) h26 g25
    have x26:Ext (·=b_5) w25 w26:=Wrt.ext (b:=b_5) h26
    have f5':Fr T' n0 bw ps' all b_5:=f5.to (n:=w24.heap.size) (by omega) hps
    have x1326:Ext (dB bw ps) w13 w26:=x1325.trans x26 fun q hq h=>by omega
    refine ⟨x1326,tl b_5 ps' D' w26 (st25.ext x26 fun q h=>by rw [h]; exact f5') y25 g26 x1326 (by omega) f5' fun q hq=>(hps q hq).imp id fun h=>by omega⟩
  .refine NewW.mk fun b_7 w33 n33=>?_
   have x1333:Ext No w13 w33:=n33.ext.drew_left
   have hb7:b_7=w13.heap.size:=n33.at_
   have z33:w33.heap.size=w13.heap.size+1:=n33.size
   refine ⟨x1333.of_no,payload_spec hs fun r_4 w34 o34 x34=>?_⟩
   have x1334:=x1333.no x34
   have z34:=x34.size
   refine ⟨x1334.of_no,?_⟩
   refine dPutA (r0:=⟨0,0,0⟩) (st13.no x1334) y hp o34.rd (by omega) fun ps' D' w35 st35 y35 x35 hps=>?_
   have x1335:Ext (dB bw ps) w13 w35:=(x1334.of_no).trans x35 fun _ _ h=>h
   have f7:Fr T' n0 bw ps all b_7:=st13.fr (by omega)
   have g35:=get_ext (get_no n33.get x34) x35 f7.nd
   refine ⟨x1335,rfl,_,_,_,g35,rfl,by simp, .inr (.inr (Nat.le_refl _)),refOne rr,fun w36 h36=>?_⟩
   have g36:w36.heap[b_7]? = some (.cells (refCs rr).toArray 36 (0,0)):=Wrt.get (b:=b_7) h36 g35
   have x36:Ext (·=b_7) w35 w36:=Wrt.ext (b:=b_7) h36
   have f7':Fr T' n0 bw ps' all b_7:=f7.to (n:=w34.heap.size) (by omega) hps
   have x1336:Ext (dB bw ps) w13 w36:=x1335.trans x36 fun q hq h=>by omega
   refine ⟨x1336,tl b_7 ps' D' w36 (st35.ext x36 fun q h=>by rw [h]; exact f7') y35 g36 x1336 (by omega) f7' fun q hq=>(hps q hq).imp id fun h=>by omega⟩
 .-- Get
  refine ⟨fun w'=>∃ x2:Lab,w'.heap[b_1]? = some (.cells x2.cs.toArray 106 (0,0))/\Ext (·=b_1) w6 w',⟨_,Cell.lst gb6 rfl,If.beq (fun _=>⟨_,Cell.lst g6 rfl,Ar.u8m (St1.mk g6 (by show 2 < 6; decide) rfl fun w7 h7=>⟨⟨x.t,x.k,(x.v+1) % 256,r⟩,h7.get g6,h7.ext⟩)⟩) fun _=>⟨_,g6,Ext.refl _ _⟩⟩,?_⟩
  rintro _ w44 ⟨x2,g44,x44⟩
  have st44:=st6.ext x44 fun q h=>by rw [h]; exact fb1
  have x44':Ext (fun q=>n0<=q) w6 w44:=x44.mono fun q _ h=>by rw [h]; exact fb1.n
  refine ⟨_,Cell.lst g44 rfl,_,Cell.lst g44 rfl,_,Cell.lst g44 rfl,_,Cell.lst g44 rfl,_,Cell.lst g44 rfl,_,Cell.lst g44 rfl,?_⟩
  have done:∀{s:Sl}{L:List Int}{e:Int}{w46:Wd},OwnB w46.heap w44.heap.size s L->L.length<=100000->Ext No w44 w46->GetTail s ⟨(toB L).toArray⟩ e all w46 K:=fun {s L e w46} o hl xx=>by
   refine get_tail o hl fun w' x'=>?_
   have f:∀ q,s.blk=some q->Fr T n0 bw ps all q:=fun q hq=>st44.fr (o.lt hq).1
   exact kk T m M ps D all A w' ((st44.no xx).ext x' f) y rfl (by omega) (by omega) (X ((x44'.no xx).trans x' fun q _ h=>(f q h).n))
  refine memGet_spec (r:=x2.r) st44.R (fun p s w45 hp ht hk hv hr o45 x45=>?_) (fun w45 hp x45=>?_) fun p w45 hp hne x45=>?_
  .have g45:=get_no g44 x45
   refine ⟨_,Cell.lst g45 rfl,_,Cell.lst g45 rfl,_,Cell.lst g45 rfl,_,Cell.lst g45 rfl,_,Cell.lst g45 rfl,_,Cell.lst g45 rfl,?_⟩
   rw [<- y.sim.find] at hp
   refine dGet_spec (r:=x2.r) (st44.no x45).d y.sim.up hDl (fun p' w46 hp' _ _ _ _ x46=>?_) (fun w46 h _=>by rw [hp] at h; cases h) fun p' w46 hp' hne _=>?_
   .rw [hp] at hp'; cases hp'
    have hpl:=(st44.R.find (by rw [<- y.sim.find]; exact hp)).len
    exact done (o45.no x46) (by omega) (x45.no x46)
   .rw [hp] at hp'; cases hp'
    exact (hne ⟨ht,hk,hv,hr⟩).elim
  .have g45:=get_no g44 x45
   refine ⟨_,Cell.lst g45 rfl,_,Cell.lst g45 rfl,_,Cell.lst g45 rfl,_,Cell.lst g45 rfl,_,Cell.lst g45 rfl,_,Cell.lst g45 rfl,?_⟩
   rw [<- y.sim.find] at hp
   refine dGet_spec (r:=x2.r) (st44.no x45).d y.sim.up hDl (fun p' w46 hp' _ _ _ _ _=>by rw [hp] at hp'; cases hp') (fun w46 _ x46=>?_) fun p' w46 hp' _ _=>by rw [hp] at hp'; cases hp'
   exact done (L:=[]) (Own.nil _ _ _ _) (by decide) (x45.no x46)
  .have g45:=get_no g44 x45
   refine ⟨_,Cell.lst g45 rfl,_,Cell.lst g45 rfl,_,Cell.lst g45 rfl,_,Cell.lst g45 rfl,_,Cell.lst g45 rfl,_,Cell.lst g45 rfl,?_⟩
   rw [<- y.sim.find] at hp
   refine dGet_spec (r:=x2.r) (st44.no x45).d y.sim.up hDl (fun p' w46 hp' h1 h2 h3 h4 _=>?_) (fun w46 h _=>by rw [hp] at h; cases h) fun p' w46 _ _ x46=>?_
   .rw [hp] at hp'; cases hp'
    exact (hne ⟨h1,h2,h3,h4⟩).elim
   .exact done (L:=[]) (Own.nil _ _ _ _) (by decide) (x45.no x46)
 .-- Drop
  refine ⟨Ext S6 w6,(Ext.refl _ _).drew,_,Held.but (Cell.lst g6 rfl) (nS fb1),_,Held.but (Cell.lst g6 rfl) (nS fb1),_,Held.but (Cell.lst g6 rfl) (nS fb1),_,Held.but (Cell.lst g6 rfl) (nS fb1),_,Held.but (Cell.lst g6 rfl) (nS fb1),_,Held.but (Cell.lst g6 rfl) (nS fb1),?_⟩
  refine memDrop_spec (r:=r) st6d.R fun w7 R7 x7=>?_
  have st7:=st6d.prog x7 R7 fun _ _=>rfl
  have x67:Ext S6 w6 w7:=(x6d.of_no (S:=S6)).trans x7 fun _ _ h => .inl h
  refine ⟨x67,dDrop_spec (r:=r) st7.d y.sim.up hDl (fun w8 hno x8=>?_) fun i hi ps' w8 e1 e2 e3 d8 x8 hps=>?_⟩
  .have e:=drop_no y hno
   rw [e] at st7 ⊢
   refine ⟨x67.no x8,?_⟩
   rw [beq_self_eq_true]
   exact kk T m M ps D all A _ (st7.no x8) y rfl (by omega) (by omega) (X ((x67.no x8).mono fun q _ h=>S6n h))
  .obtain ⟨e,y'⟩:=drop_yes y hi e1 e2 e3
   have x68:Ext S6 w6 w8:=x67.trans x8 fun _ _ h => .inr h
   refine ⟨x68,?_⟩
   rw [e,beq_self_eq_true]
   exact kk T m _ ps' _ all A _ (st7.doc x8 d8 hps) y' rfl (by have:=drop_len (M:=M) (r:=r); omega) (by omega) (X (x68.mono fun q _ h=>S6n h))
 .-- Scrub
  refine dScrub_spec st6.d hDl fun ps' w7 d7 x7 hps=>?_
  have st7:=st6.doc x7 d7 fun q hq => .inr (hps q hq)
  refine memScrub_spec st7.R fun w8 R8 x8=>?_
  rw [beq_self_eq_true]
  have st8:=st7.prog x8 R8 fun _ _=>rfl
  exact kk T m _ ps' _ all A _ st8 ⟨y.sim.scrub,y.c,y.g⟩ rfl (by have:=List.length_filter_le (fun p:Int×Pg=>!p.2.waits) M.pages; show (M.pages.filter _).length<=_; omega) (by omega) (X ((x7.mono fun q _ h=>st.dn h).trans x8 fun q _ h=>st.tn q h))
 .exact kk T m M ps D all A _ st6 y rfl (by omega) (by omega) (X (Ext.refl _ _))
end
end Go.Proofs.YtcamoanigdfihaaGreat
namespace Go.V
structure ActV where
 k:Int
 a:Int
 s:Int
 f:Int
 o:Int
 c:Int
 g:Int
 l:Lab
def ActV.cs(x:ActV):List Value:=[.int .i64 x.k, .int .i64 x.a, .int .i64 x.s, .int .i64 x.f, .int .i64 x.o, .int .u64 x.c, .int .u16 x.g, .int .u32 x.l.t, .int .u8 x.l.k, .int .u8 x.l.v, .int .u32 x.l.r.p, .int .u64 x.l.r.c, .int .u16 x.l.r.g]
theorem actCs_len(l:List ActV):∀ x∈l,(ActV.cs x).length=13:=fun _ _=>rfl
structure ActV.ok(x:ActV):Prop where
 c:0<=x.c/\x.c<=18446744073709551615
 g:0<=x.g/\x.g<=65535
end Go.V
namespace Go.Proofs.YtcamoanigdfihaaGreat
open Go.V
section
variable {w:Wd}
theorem memNil_begin{c g:Int}{K:Int->Wd->Prop}(kk:K 1 w):C_tree_Mem_Begin none c g w K:=by
 apply S_tree_Mem_Begin; exact If.yes kk
theorem memNil_scrub{K:Int->Wd->Prop}(kk:K 1 w):C_tree_Mem_Scrub none w K:=by
 apply S_tree_Mem_Scrub; exact If.yes kk
theorem memNil_refs{b:Bool}{K:Sl->Wd->Prop}(kk:K ⟨none,0,0⟩ w):C_tree_Mem_refs none b w K:=by
 apply S_tree_Mem_refs; exact If.yes kk
set_option maxHeartbeats 2000000 in
theorem treeMem_spec{gen:Int}{l:Sl}{L:List ActV}{K:Bool->Wd->Prop}(rd:Rd w.heap l 13 (L.flatMap ActV.cs))(ok:∀ x∈L,x.ok)(hg:0<=gen/\gen<=65535)(kk:∀ w',Ext No w w'->K true w'):C_law15_TreeMem gen l w K:=by
 apply S_law15_TreeMem
 have hl:l.len=L.length:=by have:=rd.len; rw [flat_len' (actCs_len L)] at this; omega
 refine If.dec (fun _=>known15 kk) fun hlen=>newMem_spec hg fun T m w2 R2 hT x2=>NewW.mk fun b w3 n3=>?_
 have hb:=n3.at_; have z3:=n3.size; have z2:=x2.size
 have st3:StM w3.heap T m ⟨[],1,gen⟩ w.heap.size w3.heap.size b ⟨none,0,0⟩ ⟨[],1,gen⟩ ⟨none,0,0⟩ []:=by
  refine ⟨R2.no n3.ext,⟨n3.get,Own.nil _ _ _ _,by omega,Nat.le_refl _⟩,Own.nil _ _ _ _,?_,fun q h=>by simp [Sl.blk] at h,fun q h=>by simp [Sl.blk] at h,fun q h=>by simp [Sl.blk] at h,fun q h=>?_,by omega,by omega⟩
  .cases ht:T b with
   | none=>rfl
   | some t=>have:=R2.sup b (by rw [ht]; simp); omega
  .rcases Nat.lt_or_ge q w.heap.size with h1 | h1
   .exact (h (hT q h1)).elim
   .exact h1
 have x03:Ext No w w3:=x2.no n3.ext
 refine ⟨fun q all i w'=>∃ (j:Nat) (T':Nat->Option Nat) (m':MemV) (M:Mm) (ps:Sl) (D:Dm) (A:List Lab),i=j/\j<=l.len/\q=l.len - j/\StM w'.heap T' m' M w.heap.size w3.heap.size b ps D all A/\Sy M D/\m'.bm=m.bm/\M.pages.length<=j/\A.length<=j/\Ext No w w',⟨_,0,T,m,_,_,_,_,rfl,by omega,rfl,st3,⟨Sim.nil,rfl,rfl⟩,rfl,Nat.le_refl _,Nat.le_refl _,x03⟩,?_⟩
 rintro _ m0 all i w4 ⟨j,T',m',M,ps,D,A,rfl,hj,hq,st,y,hbm,hM,hA,x4⟩
 have rd4:=rd.no x4
 refine If.dec (fun h=>?_) fun h=>?_
 .have hjL:j < L.length:=by omega
  have hok:=ok _ (List.getElem_mem hjL)
  have next:∀{T'':Nat->Option Nat}{m'':MemV}{M':Mm}{ps':Sl}{D':Dm}{all':Sl}{A':List Lab}{w':Wd},StM w'.heap T'' m'' M' w.heap.size w3.heap.size b ps' D' all' A'->Sy M' D'->m''.bm=m.bm->M'.pages.length<=j+1->A'.length<=j+1->Ext No w w' ->
    Ar .i64 ((j:Int)+1) fun z=>∃ m1,m1 < m0/\∃ (j:Nat) (T':Nat->Option Nat) (m':MemV) (M:Mm) (ps:Sl) (D:Dm) (A:List Lab),z=j/\j<=l.len/\m1=l.len - j/\StM w'.heap T' m' M w.heap.size w3.heap.size b ps D all' A/\Sy M D/\m'.bm=m.bm/\M.pages.length<=j/\A.length<=j/\Ext No w w':=fun {T'' m'' M' ps' D' all' A' w'} h1 h2 h3 h4 h5 h6=>Ar.i64 (by omega) ⟨_,by omega,j+1,T'',m'',M',ps',D',A',by omega,by omega,rfl,h1,h2,h3,h4,h5,h6⟩
  refine ⟨fun w'=>w'=w4/\0<=L[j].s/\L[j].s<=1000,?_,?_⟩
  .refine Ix.elem rd4 (actCs_len L) (by decide) (by omega) h fun bb oo hi _ hc=>⟨_,hc 2 _ rfl,If.dec (fun _=>next st y hbm (by omega) (by omega) x4) fun h1=>?_⟩
   refine Ix.elem rd4 (actCs_len L) (by decide) (by omega) h fun b2 o2 hi2 _ hc2=>⟨_,hc2 2 _ rfl,If.dec (fun _=>next st y hbm (by omega) (by omega) x4) fun h2=>?_⟩
   simp only [Int.toNat_natCast] at h1 h2
   exact ⟨rfl,by omega,by omega⟩
  rintro _ w5 ⟨rfl,hs1,hs2⟩
  refine Ix.elem rd4 (actCs_len L) (by decide) (by omega) h fun bb oo hi _ hc=>?_
  simp only [Int.toNat_natCast] at hi hc
  refine ⟨_,hc 0 _ rfl,_,hc 1 _ rfl,_,hc 2 _ rfl,_,hc 3 _ rfl,_,hc 4 _ rfl,_,hc 5 _ rfl,_,hc 6 _ rfl,_,hc 7 _ rfl,_,hc 8 _ rfl,_,hc 9 _ rfl,_,hc 10 _ rfl,_,hc 11 _ rfl,_,hc 12 _ rfl,?_⟩
  rw [<- hbm]
  refine act_spec st y ⟨hs1,hs2⟩ hok.c hok.g (by omega) (by omega) fun T1 m1 M1 ps1 D1 all1 A1 w6 st1 y1 hb1 hM1 hA1 x6=>If.not (If.yes ?_)
  have x06:Ext No w w6:=x4.trans x6 fun q hq h=>by omega
  rw [<- hb1]
  refine pagesE_spec st1.R (by omega) fun s7 rs7 w7 hp7 hu7 o7 x7=>?_
  have st7:=st1.no x7
  have hDl:D1.pages.length<=65535:=by have:=y1.sim.len; omega
  have hrl:∀ b,(refsQ D1.pages b).length<=D1.pages.length:=fun b=>by unfold refsQ; rw [List.length_map]; exact List.length_filter_le _ _
  refine dRefs_spec st7.d hDl fun s8 w8 o8 x8=>?_
  have e7:=y1.sim.refs hp7 hu7
  subst e7
  refine dSame_spec (o7.no x8).rd o8.rd (by have:=hrl false; omega) fun w9 x9=>If.not (If.yes ?_)
  have x69:=(x7.no x8).no x9
  have st9:=st1.no x69
  refine waitingE_spec st9.R (by omega) fun s10 rs10 w10 hp10 hu10 o10 x10=>?_
  have st10:=st9.no x10
  refine dRefs_spec st10.d hDl fun s11 w11 o11 x11=>?_
  have e10:=y1.sim.refs hp10 hu10
  subst e10
  refine dSame_spec (o10.no x11).rd o11.rd (by have:=hrl true; omega) fun w12 x12=>If.not (If.yes ?_)
  have x612:=((x69.no x10).no x11).no x12
  have hh:=next (st1.no x612) y1 (hb1.trans hbm) (by omega) (by omega) (x06.no x612)
  rw [<- hbm,<- hb1] at hh
  exact hh
 .refine memNil_get (r:=⟨0,0,0⟩) fun w13 x13=>memNil_put fun w14 x14=>NewW.mk fun b1 w15 n15=>⟨rfl,_,_,_,n15.get,rfl,by simp, .inr (.inr (Nat.le_refl _)),by decide,fun w16 h16=>?_⟩
  have x16:Ext (·=b1) w15 w16:=Wrt.ext (b:=b1) h16
  have hb15:=n15.at_
  have x416:Ext No w4 w16:=((x13.no x14).no n15.ext).trans x16 fun q hq h=>by have:=(x13.no x14).size; omega
  exact If.yes (If.yes (memNil_begin (If.yes (memNil_drop (r:=⟨0,0,0⟩) fun w18 x18=>If.yes (memNil_scrub (If.yes (S_tree_Mem_Pages (memNil_refs (If.yes (S_tree_Mem_Waiting (memNil_refs (If.yes (known15 fun w22 x22=>kk w22 ((x4.no x416).no (x18.no x22)))))))))))))))
end
end Go.Proofs.YtcamoanigdfihaaGreat
