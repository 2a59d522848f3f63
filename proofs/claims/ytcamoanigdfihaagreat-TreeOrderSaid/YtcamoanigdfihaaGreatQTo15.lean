/- Texts for LTreeOrder, part 15. -/
import Derived.Test.YtcamoanigdfihaaGreatQTo14
set_option maxRecDepth 100000
namespace Go.V
structure Lab where
  t:Int
  k:Int
  v:Int
  r:Rf
def Lab.cs (x:Lab):List Value:=[.int .u32 x.t, .int .u8 x.k, .int .u8 x.v, .int .u32 x.r.p, .int .u64 x.r.c, .int .u16 x.r.g]
theorem labCs_len (l:List Lab):∀ x∈l,(Lab.cs x).length=6:=fun _ _=>rfl
abbrev Lab.agg (x:Lab):Value := .agg ([.int .u32 x.t, .int .u8 x.k, .int .u8 x.v, .int .u32 x.r.p, .int .u64 x.r.c, .int .u16 x.r.g]).toArray
def GotL (bo base:Nat) (ls:List Lab) (w:World) (B:Nat→Prop):Prop :=
  ∃ (sl:Sl),w.heap[bo]? = some (.cells [.slice sl.a sl.len sl.cap].toArray 65 (0,0))∧Own w.heap base 106 6 sl (ls.flatMap Lab.cs)∧(bo < base∧base≤w.heap.size)∧(∀ q,B q ↔ q=bo∨sl.blk=some q)
theorem GotL.mono {bo base:Nat} {ls:List Lab} {w1 w2:World} {B S:Nat→Prop} (h:GotL bo base ls w1 B) (x:Ext S w1 w2) (hS:∀ q,B q→¬ S q):GotL bo base ls w2 B:=by
  obtain ⟨sl,h1,h2,h3,h4⟩:=h
  exact ⟨sl,Go.Proofs.YtcamoanigdfihaaGreat.get_ext h1 x (hS _ ((h4 _).2 (.inl rfl))),h2.ext x (fun q hq=>hS _ ((h4 _).2 (.inr hq))),⟨h3.1,Nat.le_trans h3.2 x.size⟩,h4⟩
theorem GotL.lt {bo base:Nat} {ls:List Lab} {w1:World} {B:Nat→Prop} (h:GotL bo base ls w1 B) {q:Nat} (hq:B q):q < w1.heap.size:=by
  obtain ⟨sl,h1,h2,h3,h4⟩:=h
  rcases (h4 q).1 hq with h | h
  · omega
  · exact (h2.lt h).2
def RestP (f:Pages) (t:Int) (lev:Nat) (l:List Ent) (kvs:List KV) (ps:List Rf):Prop:=(lev=0∧LeafL f t l kvs ps)∨∃ lv,lev=lv+1∧KidsP (SubT f t lv) l kvs ps
end Go.V
namespace Go.Proofs.YtcamoanigdfihaaGreat
open Go.V
section
variable {w:World} {T:Nat→Option Nat} {m:MemV} {M:Mm}
theorem _root_.Go.V.SubT.opens {f:Pages} {t:Int} {lev:Nat} {r:Rf} {kvs:List KV} {ps:List Rf} (h:SubT f t lev r kvs ps):∃ l ps',NodeAt f t (kindOf lev) lev r l∧l≠[]∧RestP f t lev l kvs ps'∧ps=r::ps':=by
  cases lev with
  | zero =>
    obtain ⟨l,ps',a,b,c,d⟩:=h
    exact ⟨l,ps',a,b, .inl ⟨rfl,c⟩,d⟩
  | succ lv =>
    obtain ⟨l,ps',a,b,c,d⟩:=h
    refine ⟨l,ps',?_,by intro h; rw [h] at b; simp at b, .inr ⟨lv,rfl,c⟩,d⟩
    unfold kindOf; rw [if_neg (by omega)]; exact a
theorem GotL.step {bo base:Nat} {ls:List Lab} {w1:World} {B:Nat→Prop} {x:Lab} {K':World→Prop} (hl:ls.length≤1000000) (h:GotL bo base ls w1 B)
    (k:∀ w' B',GotL bo base (ls++[x]) w' B'→Ext B w1 w'→(∀ q,B' q→B q∨w1.heap.size≤q∧q < w'.heap.size)→K' w') :
    dynV Tryz.prog true (.func (.func 76) #[] #[.pointer (some (A1 bo))]) [x.agg] [] K' NoX w1:=by
  obtain ⟨sl,h1,h2,h3,h6⟩:=h
  refine V_tree_Labels_1 (c0:=A1 bo) (S_tree_Labels_1 ?_)
  refine NewW.mk fun b w2 n2=>⟨_,Cell.lst (get_no h1 n2.ext) rfl,_,Cell.lst n2.get rfl,_,Cell.lst n2.get rfl,_,Cell.lst n2.get rfl,_,Cell.lst n2.get rfl,_,Cell.lst n2.get rfl,_,Cell.lst n2.get rfl,NewW.mk fun b1 w3 n3=>?_⟩
  have x3:=n2.ext.no n3.ext
  have z2:=n2.size; have z3:=n3.size
  have o3:=h2.no x3
  have e3:Own w3.heap w2.heap.size 106 6 ⟨some ⟨b1,0,none⟩,1,1⟩ x.cs:=Own.new (n:=1) (sz:=6) n3 rfl (by simp [oneC,Lab.cs])
  have hsl:sl.len=ls.length:=by have:=h2.len; rw [flat_len' (labCs_len _)] at this; omega
  have slb:∀ q,sl.blk=some q→B q:=fun q hq=>(h6 q).2 (.inr hq)
  have hbv:B bo:=(h6 bo).2 (.inl rfl)
  have nbv:sl.blk≠some bo:=fun h=>by have:=(h2.lt h).1; omega
  refine app_api_Label o3 (by omega) e3.rd.src (by simp only; omega) fun s' w4 o4 _ x4 hbl=>?_
  have y4:=x4.size
  have s'b:∀ q,s'.blk=some q→B q∨w1.heap.size≤q∧q < w4.heap.size:=fun q hq=>by
    rcases hbl with h | ⟨c,h,hc⟩
    · exact .inl (slb q (h ▸ hq))
    · rw [h] at hq; cases hq; exact .inr ⟨by omega,(o4.lt h).2⟩
  have g4:=get_ext (get_no h1 x3) x4 nbv
  refine St1.b1 g4 rfl fun w5 h5'=>?_
  have z5:=h5'.size
  have x5:Ext (·=bo) w4 w5:=h5'.ext
  have x15:Ext B w1 w5:=((x3.of_no).trans x4 fun q _ hq=>slb q hq).trans x5 fun q _ hq=>by rw [hq]; exact hbv
  refine k w5 (fun q=>q=bo∨s'.blk=some q) ⟨s',h5'.get g4,?_,⟨h3.1,by have:=x15.size; omega⟩,fun q=>Iff.rfl⟩ x15 fun q hq=>?_
  · rw [List.flatMap_append]
    have:[x].flatMap Lab.cs=x.cs:=by simp
    rw [this]
    refine o4.ext x5 fun q hq e=>?_
    have:=(o4.lt hq).1; omega
  · rcases hq with h | h
    · rw [h]; exact .inl hbv
    · rcases s'b q h with h | h
      · exact .inl h
      · exact .inr ⟨h.1,by omega⟩
def GotW (bs bg bo base:Nat) (t:Int) (ls:List Lab) (cs:List (Rf×List Int)) (j:Nat) (w:World) (B:Nat→Prop):Prop :=
  ∃ B0,GotL bo base (ls++(cs.take j).map fun c=>⟨t,3,0,c.1⟩) w B0∧w.heap[bs]? = some (.cells [.func (.func 76) #[] #[.pointer (some (A1 bo))]].toArray 167 (0,0))∧w.heap[bg]? = some (.cells [srcV m, .int .u32 t].toArray 163 (0,0))∧(∀ q,B q ↔ B0 q∨q=bs∨q=bg)∧¬ B0 bs∧¬ B0 bg
theorem GotW.mono {bs bg bo base:Nat} {t:Int} {ls:List Lab} {cs:List (Rf×List Int)} {j:Nat} {w1 w2:World} {B S:Nat→Prop} (h:GotW (m:=m) bs bg bo base t ls cs j w1 B) (x:Ext S w1 w2) (hS:∀ q,B q→¬ S q):GotW (m:=m) bs bg bo base t ls cs j w2 B:=by
  obtain ⟨B0,h1,h2,h3,h4,h5,h6⟩:=h
  exact ⟨B0,h1.mono x fun q hq=>hS q ((h4 q).2 (.inl hq)),get_ext h2 x (hS _ ((h4 _).2 (.inr (.inl rfl)))),get_ext h3 x (hS _ ((h4 _).2 (.inr (.inr rfl)))),h4,h5,h6⟩
theorem GotW.step {bs bg bo base:Nat} {t:Int} {ls:List Lab} {cs:List (Rf×List Int)} {j:Nat} {w1:World} {B:Nat→Prop} {s:Sl} {K':World→Prop} (hl:ls.length+cs.length≤1000000) (hj:j < cs.length) (h:GotW (m:=m) bs bg bo base t ls cs j w1 B)
    (k:∀ w' B',GotW (m:=m) bs bg bo base t ls cs (j+1) w' B'→Ext B w1 w'→(∀ q,B' q→B q∨w1.heap.size≤q∧q < w'.heap.size)→K' w') :
    dynV Tryz.prog true (.func (.func 128) #[] #[.pointer (some (A1 bs)), .pointer (some (A1 bg))]) [.agg ([.int .u32 cs[j].1.p, .int .u64 cs[j].1.c, .int .u16 cs[j].1.g]).toArray, .slice s.a s.len s.cap] [] K' NoX w1:=by
  obtain ⟨B0,h1,h2,h3,h4,h5,h6⟩:=h
  refine V_tree_grove_walk_1 (c0:=A1 bs) (c1:=A1 bg) (S_tree_grove_walk_1 ?_)
  refine NewW.mk fun b w2 n2=>⟨_,Cell.lst (get_no h2 n2.ext) rfl,_,Cell.lst (get_no h3 n2.ext) rfl,_,Cell.lst n2.get rfl,_,Cell.lst n2.get rfl,_,Cell.lst n2.get rfl,?_⟩
  have z2:=n2.size
  have hlt:bs < w1.heap.size:=blt h2
  have hlg:bg < w1.heap.size:=blt h3
  refine GotL.step (x:=⟨t,3,0,cs[j].1⟩) (by simp; omega) (h1.mono n2.ext fun _ _ h=>h) fun w3 B3 G3 x3 hB3=>?_
  have n3:∀ q,q < w1.heap.size→¬ B0 q→¬ B3 q:=fun q hq h h'=>by
    rcases hB3 q h' with h2 | h2
    · exact h h2
    · omega
  refine k w3 (fun q=>B3 q∨q=bs∨q=bg) ⟨B3,?_,get_ext (get_no h2 n2.ext) x3 h5,get_ext (get_no h3 n2.ext) x3 h6,fun q=>Iff.rfl,n3 _ hlt h5,n3 _ hlg h6⟩ (n2.ext.of_no.trans x3 fun q _ hq=>(h4 q).2 (.inl hq)) fun q hq=>?_
  · rw [List.take_add_one,List.getElem?_eq_getElem hj,List.map_append,← List.append_assoc]; exact G3
  · rcases hq with h | h
    · rcases hB3 q h with h | h
      · exact .inl ((h4 q).2 (.inl h))
      · exact .inr ⟨by omega,h.2⟩
    · exact .inl ((h4 q).2 (.inr h))
def WalkOK (T:Nat→Option Nat) (m:MemV) (M:Mm) (t:Int) (bo:Nat) (lev:Nat):Prop :=
  ∀ {w:World} {B:Nat→Prop} {base:Nat} {L:List Lab} {r:Rf} {kvs:List KV} {ps:List Rf} {K:Int→World→Prop},MemR w.heap T m M→SubT M.f t lev r kvs ps→lev≤30→GotL bo base L w B→(∀ q,B q→T q=none)→L.length+ps.length≤900000 →
  (∀ (w':World) (B':Nat→Prop) (L':List Lab),L'.map Lab.r=ps→(∀ x∈L',x.t=t)→(∀ x:Lab,L'[0]? = some x→x.v=(lev:Int))→GotL bo base (L++L') w' B'→Ext B w w'→(∀ q,B' q→B q∨w.heap.size≤q∧q < w'.heap.size)→K 0 w') →
  C_tree_grove_walk (srcV m) t r.p r.c r.g lev (.func (.func 76) #[] #[.pointer (some (A1 bo))]) w K
set_option maxHeartbeats 2000000 in
theorem walk_step {t:Int} {bo lev:Nat} (ih:∀ lv,lev=lv+1→WalkOK T m M t bo lv):WalkOK T m M t bo lev:=by
  intro w B base L r kvs ps K R hS hlev hG hB hlen k
  have sup:∀ q,w.heap.size≤q→T q=none:=fun q hq=>R.supT hq
  have hBl:∀ q,B q→q < w.heap.size:=fun q hq=>hG.lt hq
  obtain ⟨l,ps',hN,hne,hrest,rfl⟩:=hS.opens
  have hr:r ≠ .z:=fun h=>by have:=(at_lo R hN.at_).1; rw [h] at this; exact absurd this (by decide)
  apply S_tree_grove_walk
  refine NewW.mk fun b w1 n1=>NewW.mk fun b1 w2 n2=>⟨rfl,NewW.mk fun b2 w3 n3=>?_⟩
  have hb:=n1.at_; have hb1:=n2.at_; have hb2:=n3.at_; have z1:=n1.size; have z2:=n2.size; have z3:=n3.size
  have x03:=(n1.ext.no n2.ext).no n3.ext
  have g3:=get_no (get_no n1.get n2.ext) n3.ext
  have g13:=get_no n2.get n3.ext
  have g23:=n3.get
  refine ⟨_,Cell.lst g13 rfl,_,Cell.lst g13 rfl,_,Cell.lst g13 rfl,_,Cell.lst g13 rfl,?_⟩
  rw [z_iff,decide_eq_false hr]
  refine If.no ⟨_,Cell.lst g3 rfl,_,Cell.lst g3 rfl,_,Cell.lst g13 rfl,_,Cell.lst g13 rfl,_,Cell.lst g13 rfl,_,Cell.lst g13 rfl,?_⟩
  refine node_at (R.no x03) hN hne fun s4 N4 w4 o4 eL x4=>new_set rfl rfl (by simp [oneC]) fun b3 w6 g6 hb3 z6 x6=>If.bne (fun h=>(h rfl).elim) fun _=>?_
  have x36:=x4.no x6
  have x06:=x03.no x36
  have y4:=x4.size
  have y6:=x6.size
  have g06:=get_no g3 x36
  have g16:=get_no g13 x36
  have g26:=get_no g23 x36
  refine ⟨_,Cell.lst g26 rfl,_,Cell.lst g06 rfl,_,Cell.lst g6 rfl,_,Cell.lst g16 rfl,_,Cell.lst g16 rfl,_,Cell.lst g16 rfl,_,Cell.lst g16 rfl,?_⟩
  refine GotL.step (x:=⟨t,kindOf lev,lev,r⟩) (by omega) (hG.mono x06 fun _ _ h=>h) fun w7 B7 G7 x7 hB7=>?_
  have nB:∀ {q},w.heap.size≤q→¬ B q:=fun h h'=>by have:=hBl _ h'; omega
  refine ⟨_,Cell.lst (get_ext g6 x7 (nB (q:=b3) (by omega))) rfl,?_⟩
  have q6:NdQ w6.heap (fun q=>w3.heap.size≤q) s4 N4:=(o4.no x6).q fun q h1 _=>h1
  have hNl:=ents_len eL
  have hcnt:=wr_count hN.short
  refine ⟨fun q tt w'=>∃ (j:Nat) (Lj:List Lab) (kv':List KV) (pr:List Rf) (B':Nat→Prop),tt=j∧j≤l.length∧q=l.length - j∧RestP M.f t lev (l.drop j) kv' pr∧ps'=Lj.map Lab.r++pr∧(∀ x∈Lj,x.t=t)∧GotL bo base (L++(⟨t,kindOf lev,lev,r⟩::Lj)) w' B'∧(∀ q,B' q→B q∨w6.heap.size≤q∧q < w'.heap.size)∧Ext (fun q=>B q∨q=b2∨q=b) w6 w'∧w'.heap[b2]? = some (.cells [.func (.func 76) #[] #[.pointer (some (A1 bo))]].toArray 167 (0,0))∧w'.heap[b]? = some (.cells [srcV m, .int .u32 t].toArray 163 (0,0)),
    ⟨l.length,0,[],kvs,ps',B7,rfl,by omega,by omega,hrest,rfl,by simp,G7,hB7,x7.mono fun _ _ h => .inl h,get_ext g26 x7 (nB (by omega)),get_ext g06 x7 (nB (by omega))⟩,?_⟩
  rintro _ m0 tt w8 ⟨j,Lj,kv',pr,B8,rfl,hj,hq,hrest8,hps,ht,G8,hB8,x8,g28,g08⟩
  have nS:∀ {q},w.heap.size≤q→q≠b2→q≠b→¬ (B q∨q=b2∨q=b):=fun h h1 h2 h'=>by
    rcases h' with h' | h' | h'
    · exact nB h h'
    · exact h1 h'
    · exact h2 h'
  have g18:=get_ext g16 x8 (nS (by omega) (by omega) (by omega))
  have g68:=get_ext g6 x8 (nS (by omega) (by omega) (by omega))
  have q8:=q6.ext x8 fun q hq _=>nS (by omega) (by omega) (by omega)
  have nd8:=q8.nd
  have y8:=x8.size
  have hll:ps'.length=Lj.length+pr.length:=by rw [hps]; simp
  simp only [List.length_cons] at hlen
  have R8:MemR w8.heap T m M:=(R.no x06).ext x8 fun q hq=>by
    rcases hq with h | h | h
    · exact hB q h
    · rw [h]; exact sup _ (by omega)
    · rw [h]; exact sup _ (by omega)
  have nB8:∀ {q},w.heap.size≤q→q < w6.heap.size→¬ B8 q:=fun h1 h2 h=>by
    rcases hB8 _ h with h' | h'
    · exact nB h1 h'
    · omega
  have hT8:∀ q,B8 q→T q=none:=fun q hq=>by
    rcases hB8 q hq with h | h
    · exact hB q h
    · exact sup q (by omega)
  refine If.dec (fun h=>?_) fun h=>?_
  · have hjl:j < l.length:=by have:=nd8.len; omega
    refine ent_copy nd8.rd (by omega) h fun b4 w10 hi g10 hb4 z10 x10=>⟨_,Cell.lst (get_no g18 x10) rfl,?_⟩
    simp only [Int.toNat_natCast] at hi g10
    have e1:N4[j].2=l[j]:=by
      have:=congrArg (fun l=>l[j]?) eL
      simp only [List.getElem?_map,List.getElem?_eq_getElem hi,List.getElem?_eq_getElem hjl,Option.map_some,Option.some.injEq] at this
      exact this
    have g0a:=get_no g08 x10
    have g2a:=get_no g28 x10
    have g6a:=get_no g68 x10
    have Ga:=G8.mono x10 fun _ _ h=>h
    refine If.dec (fun hpos=>?_) fun hpos=>?_
    · rcases hrest8 with ⟨h0,_⟩ | ⟨lv,hlv,hk⟩
      · omega
      rw [List.drop_eq_getElem_cons hjl] at hk
      cases hk with
      | @cons _ _ kv kvs2 p pr2 hkid lo hi' hk2 =>
      have nb0:¬ B8 b:=nB8 (by omega) (by omega)
      have nb2:¬ B8 b2:=nB8 (by omega) (by omega)
      have nb3:¬ B8 b3:=nB8 (by omega) (by omega)
      refine ⟨Ext B8 w10,(Ext.refl _ _).drew,_,Held.but (Cell.lst g0a rfl) nb0,_,Held.but (Cell.lst g0a rfl) nb0,_,Held.but (Cell.lst g6a rfl) nb3,_,Held.but (Cell.lst g6a rfl) nb3,_,Held.but (Cell.lst g6a rfl) nb3,_,Held.but (Cell.lst g2a rfl) nb2,?_⟩
      refine below_spec (w:=drewW w10) (nd8.no x10.drew) (by omega) (by simpa using hi) (by omega) fun w11 x11=>⟨(x11.drew_left).of_no,?_⟩
      have x11':Ext No w10 w11:=x11.drew_left
      have y11:=x11'.size
      simp only [Int.toNat_natCast]
      rw [e1,show ((lev:Nat):Int) - 1=((lv:Nat):Int) by omega]
      simp only [List.length_append] at hll
      refine ih lv hlv ((R8.no x10).no x11') hkid (by omega) (Ga.mono x11' fun _ _ h=>h) hT8 (by simp; omega) fun w12 B12 L12 e12 t12 _ G12 x12 hB12=>⟨x11'.of_no.trans x12 fun _ _ h=>h,If.bne (fun h=>(h rfl).elim) fun _=>Ar.i64 (by omega) ⟨l.length - (j+1),by omega,j+1,Lj++L12,kvs2,pr2,B12,by omega,by omega,rfl, .inr ⟨lv,hlv,hk2⟩,?_,fun x hx=>?_,by simpa using G12,fun q hq=>?_,?_,?_,?_⟩⟩
      · rw [hps,List.map_append,e12,List.append_assoc]
      · rcases List.mem_append.1 hx with h | h
        · exact ht x h
        · exact t12 x h
      · have y12:=x12.size
        rcases hB12 q hq with h | h
        · rcases hB8 q h with h | h
          · exact .inl h
          · exact .inr ⟨h.1,by omega⟩
        · exact .inr ⟨by omega,h.2⟩
      · refine ((x8.no x10).no x11').trans x12 fun q hq h=>?_
        rcases hB8 q h with h | h
        · exact .inl h
        · omega
      · exact get_ext (get_no g2a x11') x12 (nB8 (by omega) (by omega))
      · exact get_ext (get_no g0a x11') x12 (nB8 (by omega) (by omega))
    · have h0:lev=0:=by omega
      rcases hrest8 with ⟨_,hL⟩ | ⟨lv,hlv,_⟩
      · rw [List.drop_eq_getElem_cons hjl] at hL
        cases hL with
        | @cons _ _ x kvs2 p pr2 hE hL2 =>
        have hent:=hN.right.ent j hjl
        rw [show kindOf (lev:Int)=1 by rw [h0]; rfl] at hent
        obtain ⟨cs,hc,hcp,hcl⟩:=leafE_chain hE hent
        have er:=(nd8.no x10).get hi
        refine ⟨_,Cell.lst g0a rfl,_,Cell.lst g0a rfl,_,Cell.lst g10 rfl,_,Cell.lst g10 rfl,_,Cell.lst g10 rfl,?_⟩
        rw [er.ch,e1]
        have hlt:∀ q,B8 q→q < w10.heap.size:=fun q hq=>Ga.lt hq
        simp only [List.length_append] at hll
        have hcpl:cs.length=p.length:=by rw [← hcp]; simp
        refine links_spec (J:=GotW (m:=m) b2 b bo base t (L++(⟨t,kindOf lev,lev,r⟩::Lj)) cs) (B:=fun q=>B8 q∨q=b2∨q=b) (R8.no x10) hc hcl ⟨B8,by simpa using Ga,g2a,g0a,fun q=>Iff.rfl,nB8 (by omega) (by omega),nB8 (by omega) (by omega)⟩ (fun q hq=>?_) (fun h x hS=>h.mono x hS)
          (fun j w5 B' s base hj K' hJ o hb hB kk=>GotW.step (by simp; omega) hj hJ fun w' B'' hJ' hx hq=>kk w' B'' hJ' hx fun q hq'=>(hq q hq').imp id fun h=>⟨by omega,h.2⟩) fun w13 B13 J13 x13 R13 hB13=>If.bne (fun h=>(h rfl).elim) fun _=>?_
        · rcases hq with h | h | h
          · exact ⟨hT8 q h,hlt q h⟩
          · rw [h]; exact ⟨sup _ (by omega),by omega⟩
          · rw [h]; exact ⟨sup _ (by omega),by omega⟩
        obtain ⟨B0,a1,a2,a3,a4,a5,a6⟩:=J13
        rw [List.take_length] at a1
        have y13:=x13.size
        refine Ar.i64 (by omega) ⟨l.length - (j+1),by omega,j+1,Lj++cs.map fun c=>⟨t,3,0,c.1⟩,kvs2,pr2,B0,by omega,by omega,rfl, .inl ⟨h0,hL2⟩,?_,fun x hx=>?_,by simpa using a1,fun q hq=>?_,?_,a2,a3⟩
        · rw [hps,List.map_append,List.map_map,← hcp,List.append_assoc]; rfl
        · rcases List.mem_append.1 hx with h | h
          · exact ht x h
          · obtain ⟨c,_,rfl⟩:=List.mem_map.1 h; rfl
        · rcases hB13 q ((a4 q).2 (.inl hq)) with h | h
          · rcases h with h | h | h
            · rcases hB8 q h with h | h
              · exact .inl h
              · exact .inr ⟨h.1,by omega⟩
            · exact (a5 (h ▸ hq)).elim
            · exact (a6 (h ▸ hq)).elim
          · exact .inr ⟨by omega,h.2⟩
        · refine (x8.no x10).trans x13 fun q hq h=>?_
          rcases h with h | h
          · rcases hB8 q h with h | h
            · exact .inl h
            · omega
          · exact .inr h
      · omega
  · have hjl:j=l.length:=by have:=nd8.len; omega
    rw [hjl,List.drop_length] at hrest8
    have hpr:pr=[]:=by
      rcases hrest8 with ⟨_,h⟩ | ⟨_,_,h⟩
      · cases h; rfl
      · cases h; rfl
    refine k w8 B8 (⟨t,kindOf lev,lev,r⟩::Lj) ?_ (fun x hx=>?_) (fun x hx=>?_) G8 ?_ fun q hq=>?_
    · rw [hps,hpr]; simp
    · rcases List.mem_cons.1 hx with h | h
      · rw [h]
      · exact ht x h
    · simp at hx; rw [← hx]
    · refine x06.of_no.trans x8 fun q hq h=>?_
      rcases h with h | h | h
      · exact h
      · omega
      · omega
    · rcases hB8 q hq with h | h
      · exact .inl h
      · exact .inr ⟨by omega,h.2⟩
theorem walk_all {t:Int} {bo:Nat}:∀ lev,WalkOK T m M t bo lev:=by
  intro lev
  induction lev with
  | zero =>
    intro w B base L r kvs ps K
    exact walk_step (lev:=0) fun _ h=>by omega
  | succ n ih =>
    intro w B base L r kvs ps K
    exact walk_step (lev:=n+1) fun lv h=>by
      have e:n=lv:=by omega
      rw [← e]; exact @ih
theorem labels_spec {t lev:Int} {r:Rf} {kvs:List KV} {ps:List Rf} {K:Sl→Int→World→Prop} (R:MemR w.heap T m M) (hT:TreeT M.f t r lev kvs ps) (hlev:lev≤30) (hl:ps.length≤900000)
    (k:∀ s (L:List Lab) w',L.map Lab.r=ps→(∀ x∈L,x.t=t)→(∀ x,L[0]? = some x→x.r=r∧x.v=lev)→Own w'.heap w.heap.size 106 6 s (L.flatMap Lab.cs)→Ext No w w'→K s 0 w'):C_tree_Labels (srcV m) t r.p r.c r.g lev w K:=by
  apply S_tree_Labels
  refine NewW.mk fun b w1 n1=>⟨trivial,If.no (NewW.mk fun b1 w2 n2=>⟨rfl,?_⟩)⟩
  have hb:=n1.at_; have hb1:=n2.at_; have z1:=n1.size; have z2:=n2.size
  have x02:=n1.ext.no n2.ext
  have g2:=get_no n1.get n2.ext
  refine ⟨_,Cell.lst g2 rfl,_,Cell.lst g2 rfl,_,Cell.lst g2 rfl,_,Cell.lst g2 rfl,?_⟩
  have g12:=n2.get
  rcases hT with ⟨h1,h2,h3,h4⟩ | ⟨h1,h2,hS⟩
  · apply S_tree_grove_walk
    refine NewW.mk fun b3 w3 n3=>NewW.mk fun b4 w4 n4=>⟨rfl,NewW.mk fun b5 w5 n5=>?_⟩
    have x25:=(n3.ext.no n4.ext).no n5.ext
    have g4:=get_no n4.get n5.ext
    refine ⟨_,Cell.lst g4 rfl,_,Cell.lst g4 rfl,_,Cell.lst g4 rfl,_,Cell.lst g4 rfl,?_⟩
    rw [z_iff,h1,h2]
    refine If.yes (If.bne (fun h=>(h rfl).elim) fun _=>⟨⟨none,0,0⟩,Cell.lst (get_no g12 x25) rfl,?_⟩)
    exact k _ [] w5 (by rw [h4]; rfl) (by simp) (by simp) (Own.nil _ _ _ _) (x02.no x25)
  · obtain ⟨lv,rfl⟩ : ∃ lv:Nat,lev=lv:=⟨lev.toNat,by omega⟩
    rw [Int.toNat_natCast] at hS
    refine walk_all lv (bo:=b1) (base:=w2.heap.size) (L:=[]) (B:=fun q=>q=b1) (R.no x02) hS (by omega) ⟨⟨none,0,0⟩,g12,Own.nil _ _ _ _,⟨by omega,Nat.le_refl _⟩,fun q=>by simp [Sl.blk]⟩ (fun q hq=>by rw [hq]; exact R.supT (by omega)) (by simpa using hl) fun w3 B3 L3 e3 t3 v3 G3 x3 hB3=>If.bne (fun h=>(h rfl).elim) fun _=>?_
    obtain ⟨sl,a1,a2,a3,a4⟩:=G3
    refine ⟨sl,Cell.lst a1 rfl,k sl L3 w3 e3 t3 (fun x hx=>⟨?_,v3 x hx⟩) (by simpa using Own.mono a2 (by omega)) (x02.trans x3 fun q hq h=>by omega)⟩
    have:=congrArg (fun l=>l[0]?) e3
    simp only [List.getElem?_map,hx,Option.map_some] at this
    obtain ⟨l,ps',_,_,_,rfl⟩:=hS.opens
    simpa using this
end
end Go.Proofs.YtcamoanigdfihaaGreat
set_option maxRecDepth 100000
namespace Go.V
section
variable {α:Type} [DecidableEq α] {P:Program} {w:World} {mt kt et:TypeId} {enc:α→Value} {r:Nat} {m:List (α×Value)} {a:α}
end
end Go.V
namespace Go.Proofs.YtcamoanigdfihaaGreat
open Go.V
section
variable {w:World} {T:Nat→Option Nat} {m:MemV} {M:Mm}
end
end Go.Proofs.YtcamoanigdfihaaGreat
set_option maxRecDepth 100000
namespace Go.Proofs.YtcamoanigdfihaaGreat
open Go.V
section
variable {w:World} {T:Nat→Option Nat} {m:MemV} {M:Mm}
theorem conv40 {b n c:Nat} {cs:Array Value} {t:TypeId} {fz:Nat×Nat} (hb:w.heap[b]? = some (.cells cs t fz)):∃ w',Sem.run Tryz.prog (convert 40 40 (.slice (some ⟨b,0,none⟩) n c)) w = .ok (.slice (some ⟨b,0,none⟩) n c) w'∧Ext (·=b) w w'∧w'.heap.size=w.heap.size∧∃ fz',w'.heap[b]? = some (.cells cs t fz'):=by
  have h40:Tryz.prog.underlying 40=some (.slice 5):=by kernel_rfl
  have h5:Tryz.prog.underlying 5=some (.int .u8):=by kernel_rfl
  have hsh:w.shape? b=some (t,cs.size):=by simp [World.shape?,hb]
  refine ⟨w.freeze { block:=b,off:=cs.size } 1,?_,⟨rfl,rfl,rfl,?_,fun i hi hne=>?_⟩,?_,?_⟩
  · simp [convert,run_und h40,run_und h5,markStringish,shape,Sem.run,hsh,freeze]
  · simp [World.freeze]
  · have hne':¬ b=i:=fun e=>hne e.symm
    simp [World.freeze,Array.getElem?_modify,hne']
  · simp [World.freeze]
  · obtain ⟨lo,hi⟩:=fz
    simp [World.freeze,Array.getElem?_modify,hb]
end
end Go.Proofs.YtcamoanigdfihaaGreat
set_option maxRecDepth 100000
namespace Go.V
structure OpA (h:Array Obj) (x:OpV):Prop where
  k:Rd h x.k 1 (x.key.map (Value.int .u8))
  v:Rd h x.v 1 (x.val.map (Value.int .u8))
  k8:B8 x.key
  v8:B8 x.val
theorem OpA.no {w w':World} {x:OpV} (o:OpA w.heap x) (e:Ext No w w'):OpA w'.heap x:=⟨Rd.no o.k e,Rd.no o.v e,o.k8,o.v8⟩
theorem OpA.r {w w':World} {T:Nat→Option Nat} {x:OpV} (o:OpA w.heap x) (e:Ext No w w') (hT:∀ q,q < w.heap.size→T q=none):OpR w'.heap T x :=
  ⟨Rd.no o.k e,Rd.no o.v e,o.k8,o.v8,fun hn q hq=>⟨hT q (Rd.lt o.k (by simpa using hn) hq),Nat.lt_of_lt_of_le (Rd.lt o.k (by simpa using hn) hq) e.size⟩,fun hn q hq=>⟨hT q (Rd.lt o.v (by simpa using hn) hq),Nat.lt_of_lt_of_le (Rd.lt o.v (by simpa using hn) hq) e.size⟩⟩
end Go.V
namespace Go.Proofs.YtcamoanigdfihaaGreat
open Go.V
section
variable {w:World} {T:Nat→Option Nat} {m:MemV} {M:Mm}
theorem refRight_spec {x:OpV} {K:Bool→World→Prop} (hk:x.k.len=x.key.length) (hv:x.v.len=x.val.length) (k:∀ w',Ext No w w'→K (decide x.fit) w'):C_ref15_Right x.k x.v x.d w K:=by
  apply S_ref15_Right
  refine NewW.mk fun b w1 n1=>⟨_,Cell.lst n1.get rfl,?_⟩
  have kk:∀ p:Bool,(p=decide x.fit)→K p w1:=fun p hp=>by rw [hp]; exact k w1 n1.ext
  have no:¬ x.fit→K false w1:=fun h=>kk _ (by rw [decide_eq_false h])
  refine If.dec (fun h1=>⟨_,Cell.lst n1.get rfl,If.dec (fun h2=>⟨_,Cell.lst n1.get rfl,If.dec (fun h3=>⟨_,Cell.lst n1.get rfl,If.not (If.cases (fun hd=>⟨_,Cell.lst n1.get rfl,kk _ ?_⟩) fun hd=>kk _ ?_)⟩) fun h=>no fun f=>by have:=f.2.1; omega⟩) fun h=>no fun f=>by have:=f.1; omega⟩) fun h=>no fun f=>by have:=f.1; omega
  · rw [Bool.eq_iff_iff,decide_eq_true_iff,beq_iff_eq]
    exact ⟨fun h=>⟨by omega,by omega,fun _=>by omega⟩,fun f=>by have:=f.2.2 hd; omega⟩
  · exact (decide_eq_true ⟨by omega,by omega,fun h=>by rw [hd] at h; cases h⟩).symm
theorem opOne (x:OpV):∀ v∈x.cs,oneC v=true:=by intro v hv; simp only [OpV.cs,List.mem_cons,List.not_mem_nil,or_false] at hv; rcases hv with h | h | h <;> subst h <;> rfl
theorem good_spec {l:Sl} {xs:List OpV} {K:Sl→World→Prop} (hl:Rd w.heap l 3 (xs.flatMap OpV.cs)) (hx:∀ x∈xs,OpA w.heap x) (hn:xs.length≤100000)
    (k:∀ s w',Own w'.heap w.heap.size 58 3 s ((xs.filter fun x=>decide x.fit).flatMap OpV.cs)→Ext No w w'→K s w'):C_law15_good l w K:=by
  apply S_law15_good
  have hol:l.len=xs.length:=by have:=hl.len; rw [flat_len' (opCs_len xs)] at this; omega
  refine ⟨fun q out tt w'=>∃ (j:Nat) (ys:List OpV),tt=j∧j≤xs.length∧q=xs.length - j∧ys=(xs.take j).filter (fun x=>decide x.fit)∧ys.length≤j∧Own w'.heap w.heap.size 58 3 out (ys.flatMap OpV.cs)∧Ext No w w',⟨xs.length,0,[],rfl,by omega,by omega,rfl,by simp,Own.nil _ _ _ _,Ext.refl _ _⟩,?_⟩
  rintro _ m0 out tt w1 ⟨j,ys,rfl,hj,hq,hys,hyl,o1,x1⟩
  refine If.dec (fun h=>?_) fun h=>?_
  · have hjl:j < xs.length:=by omega
    refine Ix.elem (hl.no x1) (opCs_len xs) (by decide) (by omega) h fun bb o hi _ hc=>?_
    simp only [Int.toNat_natCast] at hi hc
    have ox:=hx _ (List.getElem_mem hjl)
    refine ⟨_,hc 0 _ rfl,_,hc 1 _ rfl,_,hc 2 _ rfl,refRight_spec (RdB.len ox.k) (RdB.len ox.v) fun w2 x2=>?_⟩
    have tk:(xs.take (j+1)).filter (fun x=>decide x.fit)=ys++if xs[j].fit then [xs[j]] else []:=by
      rw [List.take_add_one,List.getElem?_eq_getElem hjl,Option.toList_some,List.filter_append,← hys,List.filter_cons]
      by_cases hf:xs[j].fit <;> simp [hf]
    refine If.dec (fun hf=>?_) fun hf=>?_
    · rw [if_pos hf] at tk
      refine Ix.elem (hl.no (x1.no x2)) (opCs_len xs) (by decide) (by omega) h fun bb o hi _ hc=>?_
      simp only [Int.toNat_natCast] at hi hc
      refine ⟨_,hc 0 _ rfl,_,hc 1 _ rfl,_,hc 2 _ rfl,NewW.mk fun b w3 n3=>?_⟩
      have o3:=(o1.no x2).no n3.ext
      have e3:Own w3.heap w2.heap.size 58 3 ⟨some ⟨b,0,none⟩,1,1⟩ xs[j].cs:=Own.new (n:=1) (sz:=3) n3 rfl (opOne _)
      have hyo:out.len=ys.length:=by have:=o1.len; rw [flat_len' (opCs_len ys)] at this; omega
      have s3:=((x1.no x2).no n3.ext).size
      refine app_api_Op o3 s3 e3.rd.src (by show (out.len+1) * 56≤_; omega) fun s' w4 o4 _ x4 hbl=>Ar.i64 (by omega) ⟨xs.length - (j+1),by omega,j+1,ys++[xs[j]],by omega,by omega,rfl,tk.symm,by simp; omega,?_,?_⟩
      · rw [List.flatMap_append]
        have:[xs[j]].flatMap OpV.cs=xs[j].cs:=by simp
        rw [this]; exact o4
      · exact ((x1.no x2).no n3.ext).trans x4 fun q hq h=>by have:=(o3.lt h).1; omega
    · rw [if_neg hf,List.append_nil] at tk
      exact Ar.i64 (by omega) ⟨xs.length - (j+1),by omega,j+1,ys,by omega,by omega,rfl,tk.symm,by omega,o1.no x2,x1.no x2⟩
  · have hjl:j=xs.length:=by omega
    rw [hjl,List.take_length] at hys
    exact k out w1 (by rw [← hys]; exact o1) x1
theorem among_spec {l:Sl} {rs:List Rf} {r:Rf} {K:Bool→World→Prop} (hl:Rd w.heap l 3 (rs.flatMap refCs)) (hn:rs.length≤1000000) (k:∀ w',Ext No w w'→K (decide (r∈rs)) w'):C_law15_among l r.p r.c r.g w K:=by
  apply S_law15_among
  have hol:l.len=rs.length:=by have:=hl.len; rw [flat_len' (refCs_len rs)] at this; omega
  refine NewW.mk fun b w1 n1=>?_
  refine ⟨fun q tt w'=>∃ j:Nat,tt=j∧j≤rs.length∧q=rs.length - j∧(∀ i (h:i < rs.length),i < j→rs[i]≠r)∧Ext No w1 w',⟨rs.length,0,rfl,by omega,by omega,fun i _ h=>by omega,Ext.refl _ _⟩,?_⟩
  rintro _ m0 tt w2 ⟨j,rfl,hj,hq,hno,x2⟩
  have g2:=get_no n1.get x2
  refine If.dec (fun h=>?_) fun h=>?_
  · have hjl:j < rs.length:=by omega
    refine ⟨Ext No w2,(Ext.refl _ _).drew,?_⟩
    refine Ix.elem (hl.no (n1.ext.no x2)) (refCs_len rs) (by decide) (by omega) h fun bb o hi _ hc=>?_
    simp only [Int.toNat_natCast] at hi hc
    refine ⟨_,Held.cell (hc 0 _ rfl),_,Held.cell (hc 1 _ rfl),_,Held.cell (hc 2 _ rfl),_,Held.cell (Cell.lst g2 rfl),_,Held.cell (Cell.lst g2 rfl),_,Held.cell (Cell.lst g2 rfl),?_⟩
    rw [refeq rs[j] r]
    have x3:Ext No w (drewW w2):=(n1.ext.no x2).drew
    refine If.dec (fun he=>?_) fun he=>?_
    · have:=k (drewW w2) x3
      rwa [decide_eq_true (by rw [← he]; exact List.getElem_mem hjl)] at this
    · refine Ar.i64 (by omega) ⟨rs.length - (j+1),by omega,j+1,by omega,by omega,rfl,fun i h1 h2=>?_,x2.drew⟩
      rcases Nat.lt_or_ge i j with h | h
      · exact hno i h1 h
      · have:i=j:=by omega
        subst this; exact he
  · have hjl:j=rs.length:=by omega
    have:=k w2 (n1.ext.no x2)
    rwa [decide_eq_false fun hm=>by obtain ⟨i,h1,h2⟩:=List.getElem_of_mem hm; exact hno i h1 (by omega) h2] at this
theorem just_spec {t lev:Int} {r:Rf} {kvs:List KV} {ps:List Rf} {K:Bool→World→Prop} (R:MemR w.heap T m M) (hT:TreeT M.f t r lev kvs ps) (hlev:lev≤30) (hps:ps.Perm (live M.pages)) (hn:M.pages.length≤65535)
    (k:∀ w',Ext No w w'→K true w'):C_law15_just (some ⟨m.bm,0,none⟩) t r.p r.c r.g lev w K:=by
  apply S_law15_just
  have hpl:ps.length≤65535:=by have:=hps.length_eq; have:=live_len M.pages; omega
  refine NewW.mk fun b w1 n1=>⟨_,Cell.lst n1.get rfl,_,Cell.lst n1.get rfl,_,Cell.lst n1.get rfl,_,Cell.lst n1.get rfl,?_⟩
  refine labels_spec (R.no n1.ext) hT hlev (by omega) fun s L w2 hL ht _ o2 x2=>?_
  refine pages_spec ((R.no n1.ext).no x2) hn fun s3 rs w3 hrs o3 x3=>?_
  have hsl:s.len=L.length:=by have:=o2.len; rw [flat_len' (labCs_len _)] at this; omega
  have hrl:s3.len=rs.length:=by have:=o3.len; rw [flat_len' (refCs_len _)] at this; omega
  have hLl:L.length=ps.length:=by rw [← hL]; simp
  have hrp:rs.length=ps.length:=by rw [hrs.length_eq,hps.length_eq]
  have x03:=(n1.ext.no x2).no x3
  refine ⟨fun w'=>w'=w3,If.bne (fun h=>(h rfl).elim) fun _=>If.bne (fun h=>by omega) fun _=>rfl,?_⟩
  rintro _ w4 rfl
  refine ⟨fun q tt w'=>∃ j:Nat,tt=j∧j≤L.length∧q=L.length - j∧Ext No w4 w',⟨L.length,0,rfl,by omega,by omega,Ext.refl _ _⟩,?_⟩
  rintro _ m0 tt w5 ⟨j,rfl,hj,hq,x5⟩
  refine If.dec (fun h=>?_) fun h=>?_
  · have hjl:j < L.length:=by omega
    have rd5:=(o2.no (x3.no x5)).rd
    refine Ix.elem rd5 (labCs_len L) (by decide) (by omega) h fun bb o hi _ hc=>?_
    simp only [Int.toNat_natCast] at hi hc
    refine ⟨_,hc 3 _ rfl,_,hc 4 _ rfl,_,hc 5 _ rfl,among_spec (r:=L[j].r) (o3.no x5).rd (by omega) fun w6 x6=>?_⟩
    have hin:L[j].r∈rs:=hrs.mem_iff.2 (hps.mem_iff.1 (by rw [← hL]; exact List.mem_map.2 ⟨_,List.getElem_mem hjl,rfl⟩))
    rw [decide_eq_true hin]
    refine If.not (If.yes ?_)
    refine Ix.elem (rd5.no x6) (labCs_len L) (by decide) (by omega) h fun bb o hi _ hc=>?_
    simp only [Int.toNat_natCast] at hi hc
    refine ⟨_,hc 0 _ rfl,If.bne (fun h=>(h (ht _ (List.getElem_mem hjl))).elim) fun _=>Ar.i64 (by omega) ⟨L.length - (j+1),by omega,j+1,by omega,by omega,rfl,x5.no x6⟩⟩
  · exact k w5 (x03.no x5)
theorem treeGet_val {t lev:Int} {r:Rf} {ks:Sl} {key:List Int} {kvs:List KV} {ps:List Rf} {K:Sl→Int→World→Prop} (R:MemR w.heap T m M) (hT:TreeT M.f t r lev kvs ps) (hlev:lev≤30) (hk:RdB w.heap ks key) (k8:B8 key) (kl:1≤key.length∧key.length≤32)
    (k:∀ s w',OwnB w'.heap w.heap.size s ((kvGet kvs key).getD [])→Ext No w w'→K s (if kvGet kvs key=none then 7 else 0) w'):C_tree_Get (srcV m) t r.p r.c r.g lev ks w K:=by
  refine treeGet_spec R hT hlev hk k8 (fun w' h x=>by omega) (fun w' h1 h2 h x=>?_) (fun v s w' h1 h2 h o x=>?_)
  · have:=k ⟨none,0,0⟩ w' (by rw [h]; exact Own.nil _ _ _ _) x
    rwa [if_pos h] at this
  · have:=k s w' (by rw [h]; exact o) x
    rwa [if_neg (by rw [h]; simp)] at this
end
end Go.Proofs.YtcamoanigdfihaaGreat
set_option maxRecDepth 100000
namespace Go.V
section
variable {f:Pages} {t:Int}
theorem KidsP.fewer {Q:Rf→List KV→List Rf→Prop} (hQ:∀ r kv p,Q r kv p→kv≠[]) {l:List Ent} {kvs:List KV} {ps:List Rf} (h:KidsP Q l kvs ps):l.length≤kvs.length:=by
  induction h with
  | nil=>simp
  | cons h lo hi r ih=>have:=List.length_pos_iff.2 (hQ _ _ _ h); simp only [List.length_cons,List.length_append]; omega
theorem one_page {lev:Nat} {r:Rf} {x:KV} {ps:List Rf} (h:SubT f t lev r [x] ps) (hv:x.2.length≤64):ps=[r]:=by
  cases lev with
  | zero =>
    obtain ⟨l,ps',hN,_,hL,rfl⟩:=h
    cases hL with
    | @cons e _ _ _ p _ he hr =>
      cases hr
      have h2:=he.2
      have h3:RightP 1 0 [e]:=hN.right
      have h4:=(h3.lef.ent e (by simp)).2
      rw [if_neg (by decide)] at h4
      split at h2
      · rw [h2.2]; rfl
      · rename_i h0
        rw [if_neg h0] at h4
        have h5:=h4.2.1; have h6:=h2.1; omega
  | succ lev =>
    obtain ⟨l,ps',_,h2,hk,_⟩:=h
    have:=KidsP.fewer (fun r kv p h=>SubT.ne h) hk
    simp at this; omega
end
end Go.V
namespace Go.Proofs.YtcamoanigdfihaaGreat
open Go.V
section
variable {w:World} {T:Nat→Option Nat} {m:MemV} {M:Mm}
theorem lit1 {c:Int} {K:Sl→World→Prop} (k:∀ b w',RdB w'.heap ⟨some ⟨b,0,none⟩,1,1⟩ [c]→w.heap.size≤b→b < w'.heap.size→Ext No w w'→K ⟨some ⟨b,0,none⟩,1,1⟩ w') :
    NewW w (.cells [.int .u8 c].toArray 5) fun b w2=>∃ r:Sl,∃ w3,Sem.run Tryz.prog (convert 40 40 (.slice (some (Addr.mk b 0 none)) 1 1)) w2 = .ok (.slice r.a r.len r.cap) w3∧K r w3:=by
  refine NewW.mk fun b w2 n2=>?_
  obtain ⟨w3,h1,x3,z3,fz,g3⟩:=conv40 (n:=1) (c:=1) n2.get
  have hb:=n2.at_; have z2:=n2.size
  refine ⟨⟨some ⟨b,0,none⟩,1,1⟩,w3,h1,k b w3 ⟨rfl,by simp,fun _=>⟨b,0,rfl,fun i hi=>?_⟩,by simp [oneC]⟩ (by omega) (by omega) (n2.ext.trans x3 fun q hq h=>by omega)⟩
  unfold hcell; rw [g3]
  simp only [List.map_cons,List.map_nil,List.length_cons,List.length_nil] at hi
  have:i=0:=by omega
  subst this; rfl
theorem known15 {K:Bool→World→Prop} (k:∀ w',Ext No w w'→K true w'):C_law15_known w K:=by
  apply S_law15_known
  refine newMem_spec (by omega) fun T m w1 R1 hT x1=>lit1 fun c1 w2 r1 hc1 hl1 x2=>lit1 fun c2 w3 r2 hc2 hl2 x3=>lit1 fun c3 w4 r3 hc3 hl3 x4=>lit1 fun c4 w5 r4 hc4 hl4 x5=>lit1 fun c5 w6 r5 hc5 hl5 x6=>NewW.mk fun b5 w12 n12=>?_
  have sup:∀ q,w1.heap.size≤q→T q=none:=fun q hq=>R1.supT hq
  have s2:=x2.size; have s3:=x3.size; have s4:=x4.size; have s5:=x5.size; have s6:=x6.size; have z12:=n12.size
  have x612:=n12.ext
  have R12:=R1.no (((((x2.no x3).no x4).no x5).no x6).no x612)
  have x112:Ext No w1 w12:=((((x2.no x3).no x4).no x5).no x6).no x612
  generalize hxs:([⟨⟨some ⟨c1,0,none⟩,1,1⟩,⟨some ⟨c2,0,none⟩,1,1⟩,false,[97],[49]⟩,⟨⟨some ⟨c3,0,none⟩,1,1⟩,⟨some ⟨c4,0,none⟩,1,1⟩,false,[98],[50]⟩,⟨⟨some ⟨c5,0,none⟩,1,1⟩,⟨none,0,0⟩,true,[97],[]⟩]:List OpV)=xs
  have hops:Rd w12.heap ⟨some ⟨b5,0,none⟩,3,3⟩ 3 (xs.flatMap OpV.cs):=by
    rw [← hxs]; exact (Own.new n12 rfl (by simp [oneC])).rd
  have hlen:xs.length=3:=by rw [← hxs]; rfl
  have hx:∀ x∈xs,OpR w12.heap T x:=fun x hx=>by
    rw [← hxs] at hx
    simp only [List.mem_cons,List.not_mem_nil,or_false] at hx
    have b8:∀ c:Int,0≤c→c≤255→B8 [c]:=fun c h1 h2=>by intro y hy; rw [List.mem_singleton] at hy; subst hy; omega
    have bl:∀ {c:Nat},w1.heap.size≤c→c < w12.heap.size→∀ q,(⟨some ⟨c,0,none⟩,1,1⟩ : Sl).blk=some q→T q=none∧q < w12.heap.size:=fun {c} h1 h2 q hq=>by
      simp [Sl.blk] at hq; subst hq; exact ⟨sup _ h1,h2⟩
    rcases hx with h | h | h <;> subst h
    · exact ⟨Rd.no r1 ((((x3.no x4).no x5).no x6).no x612),Rd.no r2 (((x4.no x5).no x6).no x612),b8 _ (by decide) (by decide),b8 _ (by decide) (by decide),fun _=>bl (by omega) (by omega),fun _=>bl (by omega) (by omega)⟩
    · exact ⟨Rd.no r3 ((x5.no x6).no x612),Rd.no r4 (x6.no x612),b8 _ (by decide) (by decide),b8 _ (by decide) (by decide),fun _=>bl (by omega) (by omega),fun _=>bl (by omega) (by omega)⟩
    · exact ⟨Rd.no r5 x612,Rd.nil _ _,b8 _ (by decide) (by decide),B8.nil,fun _=>bl (by omega) (by omega),fun _ q hq=>by simp [Sl.blk] at hq⟩
  have hkv:opsL xs []=[([98],[50])]:=by
    rw [← hxs]; show kvOp [97] none (kvOp [98] (some [50]) (kvOp [97] (some [49]) []))=_; decide
  refine apply_spec (t:=7) (lev:=0) (r := .z) (kvs:=[]) (ps:=[]) R12 (.inl ⟨rfl,rfl,rfl,rfl⟩) (by omega) (fun q=>by simp) hops hx (by omega) (by simp) (fun w' hb _=>?_) fun r' lv' ps' T' m' M' w13 _ A=>?_
  · exfalso
    obtain ⟨x,hx',hf⟩:=hb
    rw [← hxs] at hx'
    simp only [List.mem_cons,List.not_mem_nil,or_false] at hx'
    rcases hx' with h | h | h <;> subst h <;> exact hf (by simp [OpV.fit])
  obtain ⟨R13,hbm,tg,x13,tr,hlv,cg⟩:=A
  rw [hkv] at tr
  have x13':Ext No w w13:=(x1.no x112).of_no.trans x13 fun q hq h=>h (hT q hq)
  refine new_set rfl rfl (by simp [oneC]) fun b6 w15 g15 hb6 z15 x15=>⟨_,Cell.lst g15 rfl,_,Cell.lst g15 rfl,_,Cell.lst g15 rfl,_,Cell.lst g15 rfl,?_⟩
  refine lit1 fun c6 w17 r6 _ _ x17=>?_
  have b8:∀ c:Int,0≤c→c≤255→B8 [c]:=fun c h1 h2=>by intro y hy; rw [List.mem_singleton] at hy; subst hy; omega
  have hsrc:(Value.iface 24 (.pointer (some ⟨m.bm,0,none⟩)))=srcV m':=(srcV_eq hbm).symm
  have ng1:kvGet [(([98]:List Int),([50]:List Int))] [98]=some [50]:=by decide
  have ng2:kvGet [(([98]:List Int),([50]:List Int))] [97]=none:=by decide
  have x1317:Ext No w13 w17:=x15.no x17
  rw [hsrc]
  refine treeGet_spec (R13.no x1317) tr (by omega) r6 (b8 _ (by decide) (by decide)) (fun w' h _=>by simp at h) (fun w' _ _ h _=>by rw [ng1] at h; cases h) fun v s w18 _ _ hv o18 x18=>?_
  rw [ng1] at hv
  cases hv
  have g18:=get_no (get_no g15 x17) x18
  refine ⟨_,Cell.lst g18 rfl,_,Cell.lst g18 rfl,_,Cell.lst g18 rfl,_,Cell.lst g18 rfl,lit1 fun c7 w20 r7 _ _ x20=>?_⟩
  have x1320:=(x1317.no x18).no x20
  refine treeGet_spec (R13.no x1320) tr (by omega) r7 (b8 _ (by decide) (by decide)) (fun w' h _=>by simp at h) (fun w21 _ _ _ x21=>?_) (fun v s' w21 _ _ h _ _=>by rw [ng2] at h; cases h)
  refine If.beq (fun _=>If.beq (fun _=>If.beq (fun _=>?_) fun h=>(h rfl).elim) fun h=>(h rfl).elim) fun h=>(h rfl).elim
  refine StrC.mk ((o18.no x20).no x21).rd (fun bb o v hv=>by show w21.cell? _=_; rw [cell_eq]; exact hv) ?_
  have e1:ByteArray.toList ⟨(toB [50]).toArray⟩=[50]:=by rw [toList_mk]; rfl
  have e2:ByteArray.toList (⟨#[50]⟩ : ByteArray)=[50]:=e1
  rw [e1,e2]
  refine If.yes ?_
  have x1321:=x1320.no x21
  have hps:ps'=[r']:=by
    rcases tr with ⟨_,_,h,_⟩ | ⟨_,_,h⟩
    · cases h
    · exact one_page h (by decide)
  have hlive:∀ q,(live M'.pages).count q=([r']:List Rf).count q:=fun q=>by
    have:=cg.cnt q
    rw [hps] at this
    have h0:live ([]:List (Int×Pg))=[]:=rfl
    simp only [h0,List.count_nil] at this ⊢; omega
  have hll:(live M'.pages).length=1:=by
    have h1:=count_len (a:=live M'.pages) (b:=[r']) fun q=>by rw [hlive q]; exact Nat.le_refl _
    have h2:=count_len (a:=[r']) (b:=live M'.pages) fun q=>by rw [hlive q]; exact Nat.le_refl _
    simp at h1 h2; omega
  rw [← hbm]
  refine pages_spec (R13.no x1321) (by have:=cg.len; rw [hlen] at this; simp at this; omega) fun s8 rs w22 hrs o22 x22=>?_
  have hlr:s8.len=1:=by
    have h1:=o22.len
    rw [flat_len' (refCs_len rs)] at h1
    have:=hrs.length_eq; omega
  rw [hlr]
  exact k w22 ((x13'.no x1321).no x22)
end
end Go.Proofs.YtcamoanigdfihaaGreat
set_option maxRecDepth 100000
namespace Go.V
theorem ChgW.fresh {M M':Mm} {n:Nat} {ps:List Rf} (h:ChgW M M' n [] ps) (hM:live M.pages=[]):ps.Perm (live M'.pages) :=
  List.perm_iff_count.2 fun q=>by have:=h.cnt q; rw [hM] at this; simp only [List.count_nil] at this; omega
theorem Perm.sub {ps:List Rf} {M:Mm} (h:ps.Perm (live M.pages)):Sub ps M:=fun q=>Nat.le_of_eq (List.perm_iff_count.1 h q)
end Go.V
namespace Go.Proofs.YtcamoanigdfihaaGreat
open Go.V
section
variable {w:World} {T:Nat→Option Nat} {m:MemV} {M:Mm}
end
end Go.Proofs.YtcamoanigdfihaaGreat
set_option maxRecDepth 100000
namespace Go.Proofs.YtcamoanigdfihaaGreat
open Go.V
section
variable {w:World} {T:Nat→Option Nat} {m:MemV} {M:Mm}
structure OneS (w8 w':World) (b1 bm:Nat) (t:Int) (T2:Nat→Option Nat) (ys:List OpV) (j:Nat) (rb:Rf) (lb:Nat) (pb:List Rf) (T':Nat→Option Nat) (m':MemV) (M':Mm):Prop where
  mem:MemR w'.heap T' m' M'
  bm:m'.bm=bm
  tg:∀ q,q < w8.heap.size→T' q=T2 q
  ext:Ext (fun q=>Ts T2 q∨q=b1) w8 w'
  root:w'.heap[b1]? = some (.cells [.int .u32 rb.p, .int .u64 rb.c, .int .u16 rb.g, .int .u8 lb].toArray 47 (0,0))
  tree:TreeT M'.f t rb lb (opsL (ys.take j) []) pb
  lv:lb≤30
  chg:ChgW ⟨[],1,1⟩ M' (60 * j) [] pb
set_option maxHeartbeats 2000000 in
theorem treeOrder_spec {tenant:Int} {l:Sl} {xs:List OpV} {K:Bool→World→Prop} (hl:Rd w.heap l 3 (xs.flatMap OpV.cs)) (hx:∀ x∈xs,OpA w.heap x) (k:∀ w',Ext No w w'→K true w'):C_law15_TreeOrder tenant l w K:=by
  apply S2_law15_TreeOrder
  have hol:l.len=xs.length:=by have:=hl.len; rw [flat_len' (opCs_len xs)] at this; omega
  refine If.dec (fun _=>known15 k) fun hlen=>good_spec hl hx (by omega) fun s w2 o2 x2=>?_
  have hfl:=List.length_filter_le (fun x:OpV=>decide x.fit) xs
  generalize hys:(xs.filter fun x=>decide x.fit)=ys at o2 hfl
  have hmem:∀ x∈ys,x∈xs∧x.fit:=fun x hx=>by rw [← hys] at hx; have:=List.mem_filter.1 hx; exact ⟨this.1,of_decide_eq_true this.2⟩
  have hyl:ys.length≤60:=by omega
  have hy:∀ x∈ys,OpA w2.heap x:=fun x h=>(hx x (hmem x h).1).no x2
  have hsl:s.len=ys.length:=by have:=o2.len; rw [flat_len' (opCs_len ys)] at this; omega
  refine newMem_spec (by omega) fun T1 m1 w3 R3 hT1 x3=>newMem_spec (by omega) fun T2 m2 w4 R4 hT2 x4=>?_
  have y3:=x3.size; have y4:=x4.size
  refine apply_spec (t:=tenant) (lev:=0) (r := .z) (kvs:=[]) (ps:=[]) (R3.no x4) (.inl ⟨rfl,rfl,rfl,rfl⟩) (by omega) (fun q=>by simp) (o2.no (x3.no x4)).rd (fun x h=>(hy x h).r (x3.no x4) hT1) (by omega) (by simp) (fun w' hb _=>?_) fun ra la pa T3 m3 M3 w5 _ A=>?_
  · obtain ⟨x,hx',hf⟩:=hb; exact (hf (hmem x hx').2).elim
  obtain ⟨R5,hbm3,tg3,x5,tr3,hlv3,cg3⟩:=A
  have y5:=x5.size
  have s1:∀ q,Ts T1 q→q < w3.heap.size:=fun q h=>R3.sup q h
  have R5b:MemR w5.heap T2 m2 ⟨[],1,1⟩:=R4.ext x5 fun q h=>hT2 q (s1 q h)
  have x25:Ext No w2 w5:=(x3.no x4).trans x5 fun q hq h=>h (hT1 q hq)
  -- the tags of the one are not the other's
  have ap:∀ q,T3 q≠none→T2 q=none:=fun q h=>by
    rcases Nat.lt_or_ge q w4.heap.size with h1 | h1
    · rw [tg3 q h1] at h; exact hT2 q (s1 q h)
    · exact R4.supT h1
  refine new_set rfl rfl (by simp [oneC]) fun b w7 g7 hb z7 x7=>NewW.mk fun b1 w8 n8=>?_
  have x58:=x7.no n8.ext
  have y7:=x7.size
  have z8:=n8.size; have hb1:=n8.at_
  have R8:=R5.no x58
  have R8b:=R5b.no x58
  have g8:=get_no g7 n8.ext
  have x28:=x25.no x58
  have hT2b:∀ q,q < w3.heap.size→T2 q=none:=hT2
  have nb1:T2 b1=none:=R4.supT (by omega)
  have nb:T2 b=none:=R4.supT (by omega)
  have nb3:T3 b1=none:=R5.supT (by omega)
  refine ⟨fun f w'=>f=0∧∃ rb lb pb T' m' M',OneS w8 w' b1 m2.bm tenant T2 ys ys.length rb lb pb T' m' M',?_,?_⟩
  · refine ⟨fun q f i w'=>∃ j:Nat,f=0∧i=j∧j≤ys.length∧q=ys.length - j∧∃ rb lb pb T' m' M',OneS w8 w' b1 m2.bm tenant T2 ys j rb lb pb T' m' M',⟨ys.length,0,rfl,rfl,by omega,by omega, .z,0,[],T2,m2,_,R8b,rfl,fun _ _=>rfl,Ext.refl _ _,n8.get, .inl ⟨rfl,rfl,rfl,rfl⟩,by omega,((Chg.refl _).as (by omega) (by simp) (by simp)).w⟩,?_⟩
    rintro _ m0 f i w9 ⟨j,rfl,rfl,hj,hq,rb,lb,pb,T',m',M',O⟩
    refine ⟨fun w'=>w'=w9∧j < ys.length,If.dec (fun h=>If.yes ⟨rfl,by omega⟩) fun h=>⟨rfl,rb,lb,pb,T',m',M',?_⟩,?_⟩
    · have:j=ys.length:=by omega
      rw [← this]; exact O
    rintro _ w10 ⟨rfl,hjl⟩
    have y10:=O.ext.size
    have x2a:Ext No w2 w10:=x28.trans O.ext fun q hq h=>by
      rcases h with h | h
      · exact h (hT2b q (by omega))
      · omega
    have hTs:∀ q,q < w2.heap.size→T' q=none:=fun q hq=>by rw [O.tg q (by omega)]; exact hT2b q (by omega)
    have tb1:T' b1=none:=by rw [O.tg b1 (by omega)]; exact nb1
    refine ⟨fun _=>True,trivial,Ar.i64 (by omega) (Cut.mk (by omega) (by omega) (by have:=o2.rd.cap; omega) (Int.le_refl _) ?_)⟩
    refine ⟨_,Cell.lst O.root rfl,_,Cell.lst O.root rfl,_,Cell.lst O.root rfl,_,Cell.lst O.root rfl,trivial,?_⟩
    have rd10:=(o2.no x2a).rd
    have rc:=rd10.cut (lo:=j) (hi:=j+1) (mx:=s.cap) (by omega) (by omega) (by have:=rd10.cap; omega)
    have ec:((ys.flatMap OpV.cs).drop (j * 3)).take ((j+1 - j) * 3)=[ys[j]].flatMap OpV.cs:=by
      rw [Nat.add_sub_cancel_left,Nat.one_mul]
      have:ys=ys.take j++(ys[j]::ys.drop (j+1)):=by rw [← List.drop_eq_getElem_cons hjl,List.take_append_drop]
      conv=>lhs; rw [this]
      rw [List.flatMap_append,List.drop_append]
      have hl3:((ys.take j).flatMap OpV.cs).length=j * 3:=by rw [flat_len' (opCs_len _),List.length_take]; congr 1; omega
      rw [hl3,List.drop_eq_nil_of_le (by omega),Nat.sub_self,List.drop_zero,List.nil_append,List.flatMap_cons]
      simp [OpV.cs]
    rw [ec] at rc
    have e1:((((j:Int)+1) - j).toNat)=j+1 - j:=by omega
    have e2:((s.cap:Int) - j).toNat=s.cap - j:=by omega
    have e3:((s.cap:Int)).toNat=s.cap:=by omega
    have e4:(j:Int).toNat=j:=by omega
    rw [e1,e2,e3,e4,← O.bm]
    have hlen2:=O.chg.len
    simp only [List.length_nil] at hlen2
    refine apply_spec (t:=tenant) (w:=drewW w10) (xs:=[ys[j]]) (ps:=pb) O.mem O.tree O.lv (Perm.sub (O.chg.fresh rfl)) rc (fun x h=>?_) (by simp) (by omega) (fun w' hb _=>?_) fun rc lc pc T6 m6 M6 w11 _ A=>⟨trivial,?_⟩
    · rw [List.mem_singleton] at h; subst h
      exact (hy _ (List.getElem_mem hjl)).r x2a.drew hTs
    · obtain ⟨x,hx',hf⟩:=hb
      rw [List.mem_singleton] at hx'; subst hx'
      exact (hf (hmem _ (List.getElem_mem hjl)).2).elim
    obtain ⟨R11,hbm6,tg6,x11,tr6,hlv6,cg6⟩:=A
    have x11':Ext (Ts T') w10 w11:=x11.drew_left
    have g11:=get_ext O.root x11' (fun h=>h tb1)
    refine st_all g11 rfl rfl (by simp [oneC]) fun w12 g12 x12 z12=>⟨trivial,Ar.i64 (by omega) ⟨ys.length - (j+1),by omega,j+1,rfl,by omega,by omega,rfl,rc,lc,pc,T6,m6,M6,?_⟩⟩
    have y11:=x11'.size
    have tb6:T6 b1=none:=by rw [tg6 b1 (by show b1 < w10.heap.size; omega)]; exact tb1
    have x12':Ext (·=b1) w11 w12:=x12
    refine ⟨R11.ext x12' fun q hq=>by rw [hq]; exact tb6,hbm6,fun q hq=>by rw [tg6 q (by show q < w10.heap.size; omega)]; exact O.tg q hq,?_,g12,?_,hlv6,?_⟩
    · refine (O.ext.trans x11' fun q hq h => .inl (by show T2 q≠none; rw [← O.tg q hq]; exact h)).trans x12' fun q _ h => .inr h
    · rw [List.take_add_one,List.getElem?_eq_getElem hjl,Option.toList_some,opsL_snoc]; exact tr6
    · exact (O.chg.trans cg6).le (by simp; omega)
  rintro _ f w13 ⟨rfl,rb,lb,pb,T',m',M',O⟩
  have hO:=O.tree
  rw [List.take_length] at hO
  have y13:=O.ext.size
  have R13:MemR w13.heap T3 m3 M3:=R8.ext O.ext fun q h=>by
    rcases h with h | h
    · cases h3:T3 q with
      | none=>rfl
      | some t=>exact (h (ap q (by rw [h3]; simp))).elim
    · rw [h]; exact nb3
  have x213:Ext No w2 w13:=x28.trans O.ext fun q hq h=>by
    rcases h with h | h
    · exact h (hT2b q (by omega))
    · omega
  have g13:=get_ext g8 O.ext (fun h=>by
    rcases h with h | h
    · exact h nb
    · omega)
  refine ⟨fun w'=>w'=w13,If.bne (fun h=>(h rfl).elim) fun _=>If.bne (fun h=>(h rfl).elim) fun _=>rfl,?_⟩
  rintro _ w14 rfl
  refine ⟨fun q i w'=>∃ j:Nat,i=j∧j≤ys.length∧q=ys.length - j∧Ext No w14 w',⟨ys.length,0,rfl,by omega,by omega,Ext.refl _ _⟩,?_⟩
  rintro _ m0 i w15 ⟨j,rfl,hj,hq,x15⟩
  have g15:=get_no g13 x15
  have r15:=get_no O.root x15
  have R15:=R13.no x15
  have R15b:=O.mem.no x15
  have x215:=x213.no x15
  refine If.dec (fun h=>?_) fun h=>?_
  · have hjl:j < ys.length:=by omega
    have oy:=hy _ (List.getElem_mem hjl)
    have fy:=(hmem _ (List.getElem_mem hjl)).2
    have rd15:=(o2.no x215).rd
    refine ⟨Ext No w15,(Ext.refl _ _).drew,_,Held.cell (Cell.lst g15 rfl),_,Held.cell (Cell.lst g15 rfl),_,Held.cell (Cell.lst g15 rfl),_,Held.cell (Cell.lst g15 rfl),?_⟩
    refine Ix.elem rd15 (opCs_len ys) (by decide) (by omega) h fun bb o hi _ hc=>?_
    simp only [Int.toNat_natCast] at hi hc
    refine ⟨_,Held.cell (hc 0 _ rfl),?_⟩
    rw [← hbm3]
    have R15d:MemR (drewW w15).heap T3 m3 M3:=R15
    refine treeGet_val (w:=drewW w15) R15d tr3 (by omega) (Rd.no oy.k x215.drew) oy.k8 fy.1 fun s1 w16 o16 x16=>⟨x16.drew_left,?_⟩
    have x56:Ext No w15 w16:=x16.drew_left
    have r16:=get_no r15 x56
    refine ⟨Ext No w16,(Ext.refl _ _).drew,_,Held.cell (Cell.lst r16 rfl),_,Held.cell (Cell.lst r16 rfl),_,Held.cell (Cell.lst r16 rfl),_,Held.cell (Cell.lst r16 rfl),?_⟩
    refine Ix.elem (rd15.no x56) (opCs_len ys) (by decide) (by omega) h fun bb2 o' hi _ hc=>?_
    simp only [Int.toNat_natCast] at hi hc
    refine ⟨_,Held.cell (hc 0 _ rfl),?_⟩
    rw [← O.bm]
    have R16d:MemR (drewW w16).heap T' m' M':=R15b.no x56.drew
    refine treeGet_val (w:=drewW w16) R16d hO (by have:=O.lv; omega) (Rd.no oy.k (x215.no x56).drew) oy.k8 fy.1 fun s2 w17 o17 x17=>⟨x17.drew_left,?_⟩
    have x67:Ext No w16 w17:=x17.drew_left
    refine StrC.mk (o16.no x67).rd (fun bb o v hv=>by show w17.cell? _=_; rw [cell_eq]; exact hv) (StrC.mk o17.rd (fun bb o v hv=>by show w17.cell? _=_; rw [cell_eq]; exact hv) ?_)
    rw [beq_self_eq_true]
    refine If.not (If.yes (If.bne (fun h=>(h rfl).elim) fun _=>Ar.i64 (by omega) ⟨ys.length - (j+1),by omega,j+1,by omega,by omega,rfl,(x15.no x56).no x67⟩))
  · refine ⟨_,Cell.lst g15 rfl,_,Cell.lst g15 rfl,_,Cell.lst g15 rfl,_,Cell.lst g15 rfl,?_⟩
    rw [← hbm3]
    have ln3:=cg3.len
    simp only [List.length_nil] at ln3
    refine just_spec R15 tr3 (by omega) (cg3.fresh rfl) (by omega) fun w18 x18=>If.yes ?_
    have r18:=get_no r15 x18
    refine ⟨_,Cell.lst r18 rfl,_,Cell.lst r18 rfl,_,Cell.lst r18 rfl,_,Cell.lst r18 rfl,?_⟩
    rw [← O.bm]
    have lnO:=O.chg.len
    simp only [List.length_nil] at lnO
    refine just_spec (R15b.no x18) hO (by have:=O.lv; omega) (O.chg.fresh rfl) (by omega) fun w19 x19=>If.yes ?_
    exact known15 fun w20 x20=>k w20 ((((x2.no x215).no x18).no x19).no x20)
end
end Go.Proofs.YtcamoanigdfihaaGreat
