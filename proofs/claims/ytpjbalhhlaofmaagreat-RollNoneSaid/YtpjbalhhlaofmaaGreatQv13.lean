/- Texts for LRollSame,LRollBytes,LRollReads,LRollNone, part 13. -/
import Derived.Test.YtpjbalhhlaofmaaGreatQv12
set_option maxRecDepth 100000
namespace Go.V
def live(l:List (Int×Pg)):List Rf:=(l.filter fun p=>!p.2.waits).map fun p=>p.2.r
structure kV(M M':Mm)(k:Nat)(ds ns:List Rf):Prop where
 aG:M'.aG=M.aG
 gen:M'.gen=M.gen
 HA:∀q,(live M'.aC).count q+ds.count q=(live M.aC).count q+ns.count q
 kp:∀n p,M.f n=some p->(p.r ∉ ds∨p.r.c≠M.aG)->∃p',M'.f n=some p'/\p'.r=p.r/\p'.t=p.t/\p'.k=p.k/\p'.v=p.v/\p'.pay=p.pay
 len:M'.aC.length<=M.aC.length+k
theorem kV.refl(M:Mm):kV M M 0 [] []:=⟨rfl,rfl,fun _=>rfl,fun _ p h _=>⟨p,h,rfl,rfl,rfl,rfl,rfl⟩,Nat.le_refl _⟩
theorem kV.trans{M0 M1 M2:Mm}{k1 k2:Nat}{d1 d2 n1 n2:List Rf}(a:kV M0 M1 k1 d1 n1)(b:kV M1 M2 k2 d2 n2):kV M0 M2 (k1+k2) (d1++d2) (n1++n2):=by
 refine⟨b.aG.trans a.aG,b.gen.trans a.gen,fun q=>?_,fun n p h hd=>?_,by have:=a.len;have:=b.len;omega⟩
 .have:=a.HA q;have:=b.HA q;simp only[List.count_append];omega
 .simp only[List.mem_append,not_or]at hd;obtain⟨p1,h1,h2,h3,h4,h5,h6⟩:=a.kp n p h (hd.imp (fun h=>h.1) id);obtain⟨p2,g1,g2,g3,g4,g5,g6⟩:=b.kp n p1 h1 (by rw[h2,a.aG];exact hd.imp (fun h=>h.2) id);exact⟨p2,g1,g2.trans h2,g3.trans h3,g4.trans h4,g5.trans h5,g6.trans h6⟩
theorem kV.as{M M':Mm}{k k':Nat}{ds ns ds' ns':List Rf}(a:kV M M' k ds ns)(hk:k<=k')(hm:∀q∈ds,q∈ds')(hc:∀q,ds'.count q+ns.count q=ds.count q+ns'.count q):kV M M' k' ds' ns' :=
 ⟨a.aG,a.gen,fun q=>by have:=a.HA q;have:=hc q;omega,fun n p h hd=>a.kp n p h (hd.imp (fun h h'=>h (hm _ h')) id),by have:=a.len;omega⟩
theorem kV.cv{M M':Mm}{k:Nat}{ds ns ps:List Rf}(a:kV M M' k ds ns)(h:∀q∈ps,q ∉ ds∨q.c≠M.aG):iS M.f M'.f ps:=fun r hr p hp he=>a.kp r.p p hp (by rw[he];exact h r hr)
structure L_(M:Mm):Prop where
 nd:(M.aC.map Prod.fst).Nodup
 rn:∀p∈M.aC,p.2.r.p=p.1
theorem bC.Bj{h:Array Obj}{T:Nat->Option Nat}{m:bJ}{M:Mm}(R:bC h T m M):L_ M:=⟨R.nd,fun p hp=>(R.pg p hp).rn⟩
theorem Pl{l:List (Int×Pg)}{q:Rf}:q∈live l ↔ ∃p∈l,p.2.waits=false/\p.2.r=q:=by
 unfold live;simp only[List.mem_map,List.mem_filter,Bool.not_eq_true'];constructor
 .rintro⟨p,⟨h1,h2⟩,h3⟩;exact⟨p,h1,h2,h3⟩
 .rintro⟨p,h1,h2,h3⟩;exact⟨p,⟨h1,h2⟩,h3⟩
theorem Ma{M:Mm}{q:Rf}(S:L_ M)(h:q∈live M.aC):∃p,M.f q.p=some p/\p.r=q/\p.waits=false:=by
 obtain⟨p,h1,h2,h3⟩:=Pl.1 h;refine⟨p.2,?_,h3,h2⟩;have:=S.rn p h1;show iC q.p M.aC=_;rw[<- h3,this];exact uf S.nd h1
theorem Bk{M:Mm}(S:L_ M):(live M.aC).Nodup:=by
 have h:((live M.aC).map Rf.p).Nodup:=by
  have e:(live M.aC).map Rf.p=(M.aC.filter fun p=>!p.2.waits).map Prod.fst:=by
   unfold live;rw[List.map_map];exact List.map_congr_left fun p hp=>S.rn p (List.mem_filter.1 hp).1
  rw[e];exact S.nd.sublist (List.filter_sublist.map _)
 exact List.Pairwise.of_map Rf.p (fun a b h e=>h (by rw[e])) h
theorem HB(a b:List (Int×Pg)):live (a++b)=live a++live b:=by simp[live]
theorem Bl{n:Int}{a b:List (Int×Pg)}:iC n (a++b)=(iC n a).or (iC n b):=by
 induction a with
 | nil=>rfl
 | cons p a ih=>
  simp only[List.cons_append,iC];split
  .rfl
  .exact ih
abbrev zF(M:Mm)(n t k v:Int)(pay:List Int):Mm:={ M with aC:=M.aC++[(n,⟨t,k,v,⟨n,M.aG,M.gen⟩,pay,false⟩)] }
theorem kV.put{M:Mm}{n t k v:Int}{pay:List Int}:kV M (zF M n t k v pay) 1 [] [⟨n,M.aG,M.gen⟩]:=by
 refine⟨rfl,rfl,fun q=>?_,fun n' p h _=>⟨p,?_,rfl,rfl,rfl,rfl,rfl⟩,by simp⟩
 .show(live (M.aC++_)).count q+_=_;rw[HB,List.count_append];rfl
 .have h':iC n' M.aC=some p:=h;show iC n' (M.aC++_)=_;rw[Bl,h'];rfl
theorem pS{M:Mm}{n t k v:Int}{pay:List Int}(h:Go.Proofs.YtpjbalhhlaofmaaGreat.A_ M.aC n):At (zF M n t k v pay).f ⟨n,M.aG,M.gen⟩ t k v pay:=by
 refine⟨⟨t,k,v,⟨n,M.aG,M.gen⟩,pay,false⟩,?_,rfl,rfl,rfl,rfl,rfl⟩;show iC n (M.aC++_)=_;rw[Bl,h.no];simp[iC]
theorem Pm{n:Int}{l:List (Int×Pg)}(h:n ∉ l.map Prod.fst):jL n l=l:=by
 unfold jL
 conv=>rhs;rw[<- List.map_id l]
 refine List.map_congr_left fun p hp=>?_
 rw[if_neg (fun e=>h (List.mem_map.2 ⟨p,hp,e⟩))];rfl
theorem HC{n n':Int}:∀{l:List (Int×Pg)},iC n' (jL n l)=(iC n' l).map fun p=>if n'=n then { p with waits:=true } else p
 | []=>rfl
 | q::l=>by
  have ih:=HC (n:=n) (n':=n') (l:=l);simp only[jL,List.map_cons,iC]at ih ⊢;by_cases h:q.1=n
  .rw[if_pos h];by_cases h2:n'=q.1
   .simp only[h2,if_true,Option.map_some,h]
   .simp only[if_neg h2];exact ih
  .rw[if_neg h];by_cases h2:n'=q.1
   .simp only[h2,if_true,Option.map_some,if_neg h]
   .simp only[if_neg h2];exact ih
theorem KI{n n':Int}(h:n'≠n):∀{l:List (Int×Pg)},iC n' (w_ n l)=iC n' l
 | []=>rfl
 | q::l=>by
  unfold w_;split
  .rename_i h2;rw[iC,if_neg (by rw[<- h2];exact h)]
  .simp only[iC];split
   .rfl
   .exact KI h
theorem kh(q:Int×Pg)(l:List (Int×Pg)):live (q::l)=if q.2.waits then live l else q.2.r::live l:=by
 unfold live
 cases h:q.2.waits <;> simp[h]
theorem HD{n:Int}{r:Rf}:∀{l:List (Int×Pg)}{p:Pg},(l.map Prod.fst).Nodup->iC n l=some p->p.waits=false->p.r=r->∀q,(live (w_ n l)).count q+[r].count q=(live l).count q
 | [],_,_,h,_,_,_=>by cases h
 | x::l,p,uW,h,hw,hr,q=>by
  simp only[List.map_cons,List.nodup_cons]at uW;unfold iC at h;unfold w_;split at h
  .rename_i h1
   cases h
   rw[if_pos h1,kh,hw,if_neg (by simp),hr];simp only[List.count_cons,List.count_nil];omega
  .rename_i h1;rw[if_neg h1];have ih:=HD uW.2 h hw hr q;rw[kh,kh];split
   .exact ih
   .simp only[List.count_cons,List.count_nil]at ih ⊢;omega
theorem DE{n:Int}{r:Rf}:∀{l:List (Int×Pg)}{p:Pg},(l.map Prod.fst).Nodup->iC n l=some p->p.waits=false->p.r=r->∀q,(live (jL n l)).count q+[r].count q=(live l).count q
 | [],_,_,h,_,_,_=>by cases h
 | x::l,p,uW,h,hw,hr,q=>by
  simp only[List.map_cons,List.nodup_cons]at uW;unfold iC at h;split at h
  .rename_i h1
   cases h
   have:jL n (x::l)=(x.1,{ x.2 with waits:=true })::l:=by
    have:=Pm (n:=n) (l:=l) (by rw[h1];exact uW.1)
    unfold jL at this ⊢;rw[List.map_cons,this,if_pos h1.symm]
   rw[this,kh,kh,hw,if_pos rfl,if_neg (by simp),hr];simp only[List.count_cons,List.count_nil];omega
  .rename_i h1;have ih:=DE uW.2 h hw hr q
   have:jL n (x::l)=x::jL n l:=by
    unfold jL;rw[List.map_cons,if_neg (fun e=>h1 e.symm)]
   rw[this,kh,kh];split
   .exact ih
   .simp only[List.count_cons,List.count_nil]at ih ⊢;omega
theorem kV.drop{M:Mm}{r:Rf}(S:L_ M)(h:r∈live M.aC):(kQ M r).1=0/\kV M (kQ M r).2 0 [r] []:=by
 obtain⟨p,h1,h2,h3⟩:=Ma S h;have vJ:iC r.p M.aC=some p:=h1;have hlen:(w_ r.p M.aC).length<=M.aC.length:=(oT _ _).length_le;unfold kQ;rw[vJ];simp only;rw[if_neg (by rw[h3,h2];simp)];split
 .rename_i hc;refine⟨rfl,rfl,rfl,fun q=>?_,fun n p' h hd=>?_,by simpa using hlen⟩
  .have:=HD S.nd vJ h3 h2 q;simpa using this
  .have hn:n≠r.p:=fun e=>by
    have h':iC n M.aC=some p':=h;rw[e,vJ]at h';cases h';rcases hd with hd | hd
    .exact hd (by rw[h2];simp)
    .exact hd (by rw[h2];exact hc)
   have h':iC n M.aC=some p':=h;exact⟨p',by show iC n (w_ r.p M.aC)=_;rw[KI hn];exact h',rfl,rfl,rfl,rfl,rfl⟩
 .refine⟨rfl,rfl,rfl,fun q=>?_,fun n p' h _=>?_,by simp[jL]⟩
  .have:=DE S.nd vJ h3 h2 q;simpa using this
  .have h':iC n M.aC=some p':=h;refine⟨if n=r.p then { p' with waits:=true } else p',by show iC n (jL r.p M.aC)=_;rw[HC,h'];rfl,?_⟩;split <;> exact⟨rfl,rfl,rfl,rfl,rfl⟩
def kvLo(k:List Int)(l:List KV):List KV:=l.filter fun x=>decide (bM x.1 k)
def kvHi(k:List Int)(l:List KV):List KV:=l.filter fun x=>decide (bM k x.1)
def jo(k:List Int)(o:Option (List Int))(l:List KV):List KV:=kvLo k l++((o.map fun v=>(k,v)).toList++kvHi k l)
theorem vN{k:List Int}{o:Option (List Int)}{a b c:List KV}(ha:∀x∈a,bM x.1 k)(hc:∀x∈c,bM k x.1):jo k o (a++(b++c))=a++(jo k o b++c):=by
 have lo:∀{l:List KV},(∀x∈l,bM x.1 k)->kvLo k l=l/\kvHi k l=[]:=fun {l} h=>
  ⟨List.filter_eq_self.2 fun x hx=>decide_eq_true (h x hx),List.filter_eq_nil_iff.2 fun x hx h2=>((h x hx).trans (of_decide_eq_true h2)).irrefl⟩
 have hi:∀{l:List KV},(∀x∈l,bM k x.1)->kvHi k l=l/\kvLo k l=[]:=fun {l} h=>
  ⟨List.filter_eq_self.2 fun x hx=>decide_eq_true (h x hx),List.filter_eq_nil_iff.2 fun x hx h2=>((h x hx).trans (of_decide_eq_true h2)).irrefl⟩
 unfold jo
 have e1:kvLo k (a++(b++c))=a++kvLo k b:=by
  have h1:kvLo k (a++(b++c))=kvLo k a++(kvLo k b++kvLo k c):=by simp[kvLo]
  rw[h1,(lo ha).1,(hi hc).2];simp
 have e2:kvHi k (a++(b++c))=kvHi k b++c:=by
  have h1:kvHi k (a++(b++c))=kvHi k a++(kvHi k b++kvHi k c):=by simp[kvHi]
  rw[h1,(lo ha).2,(hi hc).1];simp
 rw[e1,e2];simp
structure ki(h:Array Obj)(B:Nat->Prop)(s:Sl)(L:List (aL×aF)):Prop where
 own:bf h 0 151 9 s (L.flatMap aU)
 h_:∀p∈L,lD h p.1 p.2
 kb:∀p∈L,∀b,(p.1.k.aj=some b∨p.1.v.aj=some b)->B b/\b < h.size/\s.aj≠some b
 sb:∀b,s.aj=some b->B b
theorem ki.nd{h:Array Obj}{B:Nat->Prop}{s:Sl}{L:List (aL×aF)}(o:ki h B s L):ny h s L:=⟨o.own.rd,o.h_⟩
theorem ic.q{h:Array Obj}{base:Nat}{B:Nat->Prop}{s:Sl}{L:List (aL×aF)}(o:ic h base s L)(hB:∀b,base<=b->b < h.size->B b):ki h B s L:=
 ⟨o.own.mono (Nat.zero_le _),o.h_,fun p hp b hb=>by
  rcases hb with hb | hb
  .have:=o.kb p hp b hb;exact⟨hB b this.1 this.2.1,this.2⟩
  .have:=o.vb p hp b hb;exact⟨hB b this.1 this.2.1,this.2⟩,fun b hb=>hB b (o.own.lt hb).1 (o.own.lt hb).2⟩
theorem bf.base{h:Array Obj}{b0 base:Nat}{e:TypeId}{sz:Nat}{s:Sl}{cs:List Value}(o:bf h b0 e sz s cs)(hb:∀b,s.aj=some b->base<=b):bf h base e sz s cs:=by
 refine⟨o.len,?_,o.cells⟩;rcases o.is with h | ⟨b,rest,ha,_,r⟩
 .exact .inl h
 .exact .inr ⟨b,rest,ha,hb b (by simp[Sl.aj,ha]),r⟩
theorem ki.o{h:Array Obj}{base:Nat}{s:Sl}{L:List (aL×aF)}(o:ki h (fun b=>base<=b) s L):ic h base s L:=
 ⟨o.own.base o.sb,o.h_,fun p hp b hb=>o.kb p hp b (.inl hb),fun p hp b hb=>o.kb p hp b (.inr hb)⟩
theorem ki.ext{S B:Nat->Prop}{w w':Wd}{s:Sl}{L:List (aL×aF)}(o:ki w.heap B s L)(x:Ext S w w')(hS:∀b,B b->b < w.heap.size->¬ S b):ki w'.heap B s L:=
 ⟨o.own.ext x fun b hb=>hS b (o.sb b hb) (o.own.lt hb).2,fun p hp=>(o.h_ p hp).ext x (fun b h=>hS b (o.kb p hp b (.inl h)).1 (o.kb p hp b (.inl h)).2.1) (fun b h=>hS b (o.kb p hp b (.inr h)).1 (o.kb p hp b (.inr h)).2.1),
  fun p hp b h=>⟨(o.kb p hp b h).1,Nat.lt_of_lt_of_le (o.kb p hp b h).2.1 x.size,(o.kb p hp b h).2.2⟩,o.sb⟩
theorem ki.no{B:Nat->Prop}{w w':Wd}{s:Sl}{L:List (aL×aF)}(o:ki w.heap B s L)(x:Ext No w w'):ki w'.heap B s L:=o.ext x fun _ _ _ h=>h
theorem ki.mono{h:Array Obj}{B B':Nat->Prop}{s:Sl}{L:List (aL×aF)}(o:ki h B s L)(hB:∀b,b < h.size->B b->B' b):ki h B' s L:=
 ⟨o.own,o.h_,fun p hp b hb=>⟨hB b (o.kb p hp b hb).2.1 (o.kb p hp b hb).1,(o.kb p hp b hb).2⟩,fun b hb=>hB b (o.own.lt hb).2 (o.sb b hb)⟩
def Fw(t:Sl)(key:List Int)(p:aL×aF):aL×aF:=({ p.1 with k:=t },{ p.2 with key:=key })
theorem ki.key{B:Nat->Prop}{w:Wd}{s t:Sl}{L:List (aL×aF)}{i:Int}{key:List Int}{K:Pw}(o:ki w.heap B s L)(h0:0<=i)(hi:i.toNat < L.length)(ht:Rd w.heap t 1 (key.map (Value.int .u8)))(h8:B8 key)(tb:∀b,t.aj=some b->B b/\b < w.heap.size/\s.aj≠some b)
  (k:∀w',ki w'.heap B s (L.set i.toNat (Fw t key L[i.toNat]))->Ext (fun b=>s.aj=some b) w w'->w'.heap.size=w.heap.size->K w'):Ix s.a s.len i 9 fun a=>aQ w a (.slice t.a t.len t.cap) K:=by
 have hlen:=o.nd.len;have Nx:=aS (bO L);have bA:L.flatMap aU≠[]:=by intro e;rw[e]at Nx;simp at Nx;omega
 obtain⟨b,rest,ha,_,hb,hc,iz⟩:=o.own.place bA;refine⟨_,ha,h0,by omega,?_⟩;rw[aw rfl];simp only[Nat.zero_add];have hle:i.toNat * 9+9<=(L.flatMap aU).length:=by rw[Nx];omega
 refine aQ.mk hb (by simp only[List.length_append];omega) rfl fun w' hw=>?_
 have Jk:gB w b (.cells (setL (L.flatMap aU++rest) (i.toNat * 9) [.slice t.a t.len t.cap]).toArray 151 (0,0)) w':=hw;obtain⟨a1,a2,a3⟩:=o.own.upd ha (Nat.zero_le b) hb hc iz Jk (by simp[aJ]) (by show i.toNat * 9+1<=_;omega)
 have e1:setL (L.flatMap aU) (i.toNat * 9) [.slice t.a t.len t.cap]=(L.set i.toNat (Fw t key L[i.toNat])).flatMap aU:=by
  have:=vt (f:=aU) (n:=9) (l:=L) (i:=i.toNat) (o:=0) (vs:=[.slice t.a t.len t.cap]) (y:=Fw t key L[i.toNat]) (bO L) hi (by simp) rfl;simpa using this
 rw[e1]at a1;refine k w' ⟨a1,fun p hp=>?_,fun p hp q hq=>?_,o.sb⟩ a2 a3
 .rcases List.mem_or_eq_of_mem_set hp with h | h
  .exact(o.h_ p h).ext a2 (fun q hq h2=>(o.kb p h q (.inl hq)).2.2 h2) (fun q hq h2=>(o.kb p h q (.inr hq)).2.2 h2)
  .subst h;have er:=(o.h_ _ (List.getElem_mem hi)).ext a2 (fun q hq h2=>(o.kb _ (List.getElem_mem hi) q (.inl hq)).2.2 h2) (fun q hq h2=>(o.kb _ (List.getElem_mem hi) q (.inr hq)).2.2 h2);exact⟨ht.ext a2 fun a q Sa hq h2=>(tb q (by simp[Sl.aj,Sa,hq])).2.2 h2,er.v,er.n,er.ch,er.cd,h8,er.v8,er.n64,er.Sj,er.Sk⟩
 .rw[a3];rcases List.mem_or_eq_of_mem_set hp with h | h
  .exact o.kb p h q hq
  .subst h;rcases hq with hq | hq
   .exact tb q hq
   .exact o.kb _ (List.getElem_mem hi) q (.inr hq)
end Go.V
namespace Go.Proofs.YtpjbalhhlaofmaaGreat
open Go.V
section
variable {w:Wd}
abbrev qn(h:Array Obj)(b:Nat)(k v:Int)(s:Sl):Prop:=h[b]? = some (.cells [.int .u8 k,.int .u8 v,.slice s.a s.len s.cap].toArray 142 (0,0))
theorem mY{b:Nat}{k v:Int}{s:Sl}{K:Int->Int->Sl->Prop}(hb:qn w.heap b k v s)(kk:K k v s) :
  ∃c:Int,Cell w (Addr.mk b 0 none) (.int .u8 c)/\∃jz:Int,Cell w ((Addr.mk b 0 none).add 1) (.int .u8 jz)/\∃ia:Sl,Cell w ((Addr.mk b 0 none).add 2) (.slice ia.a ia.len ia.cap)/\K c jz ia:=
 ⟨_,Cell.ah hb rfl,_,Cell.ah hb rfl,s,Cell.ah hb rfl,kk⟩
theorem hd3{Q:Nat->Prop}{b:Nat}{k v:Int}{s:Sl}{K:Int->Int->Sl->Prop}(hb:qn w.heap b k v s)(hq:¬ Q b)(kk:K k v s) :
  ∃c:Int,ae (Ext Q w) (Addr.mk b 0 none) (.int .u8 c)/\∃jz:Int,ae (Ext Q w) ((Addr.mk b 0 none).add 1) (.int .u8 jz)/\∃ia:Sl,ae (Ext Q w) ((Addr.mk b 0 none).add 2) (.slice ia.a ia.len ia.cap)/\K c jz ia:=
 ⟨_,ae.dI (Cell.ah hb rfl) hq,_,ae.dI (Cell.ah hb rfl) hq,s,ae.dI (Cell.ah hb rfl) hq,kk⟩
theorem um{b:Nat}{k v:Int}{s:Sl}{zs:List Value}{K:Pw}(hb:w.heap[b]? = some (.cells zs.toArray 142 (0,0)))(hz:zs.length=3)(kk:∀w',qn w'.heap b k v s->Ext (·=b) w w'->w'.heap.size=w.heap.size->K w') :
  List.length (α:=Value) [.int .u8 k,.int .u8 v,.slice s.a s.len s.cap]=3/\gT w (Addr.mk b 0 none) [.int .u8 k,.int .u8 v,.slice s.a s.len s.cap] K:=cR hb rfl hz (by simp[aJ]) kk
theorem VN{b1 b2:Nat}{k1 v1 k2 v2:Int}{s1 s2:Sl}{K:Int->Int->Sl->Int->Int->Sl->Pw}(h1:qn w.heap b1 k1 v1 s1)(h2:qn w.heap b2 k2 v2 s2)(bA:b1≠b2)(kk:∀w',Ext (fun i=>i=b1∨i=b2) w w'->w'.heap.size=w.heap.size->K k1 v1 s1 k2 v2 s2 w') :
  ∃S:Pw,S (aa w)/\
  ∃c:Int,ae S (Addr.mk b1 0 none) (.int .u8 c)/\∃jz:Int,ae S ((Addr.mk b1 0 none).add 1) (.int .u8 jz)/\∃ia:Sl,ae S ((Addr.mk b1 0 none).add 2) (.slice ia.a ia.len ia.cap)/\
  ∃oN:Int,ae S (Addr.mk b2 0 none) (.int .u8 oN)/\∃oO:Int,ae S ((Addr.mk b2 0 none).add 1) (.int .u8 oO)/\∃jY:Sl,ae S ((Addr.mk b2 0 none).add 2) (.slice jY.a jY.len jY.cap)/\
  List.length (α:=Value) [.int .u8 c,.int .u8 jz,.slice ia.a ia.len ia.cap]=3/\gT (aa w) (Addr.mk b1 0 none) [.int .u8 c,.int .u8 jz,.slice ia.a ia.len ia.cap] fun w1=>S w1/\
  List.length (α:=Value) [.int .u8 oN,.int .u8 oO,.slice jY.a jY.len jY.cap]=3/\gT w1 (Addr.mk b2 0 none) [.int .u8 oN,.int .u8 oO,.slice jY.a jY.len jY.cap] fun w2=>S w2/\
  ∃qA:Int,Cell w2 (Addr.mk b1 0 none) (.int .u8 qA)/\∃oP:Int,Cell w2 ((Addr.mk b1 0 none).add 1) (.int .u8 oP)/\∃lG:Sl,Cell w2 ((Addr.mk b1 0 none).add 2) (.slice lG.a lG.len lG.cap)/\
  ∃OO:Int,Cell w2 (Addr.mk b2 0 none) (.int .u8 OO)/\∃Be:Int,Cell w2 ((Addr.mk b2 0 none).add 1) (.int .u8 Be)/\∃ug:Sl,Cell w2 ((Addr.mk b2 0 none).add 2) (.slice ug.a ug.len ug.cap)/\K qA oP lG OO Be ug w2:=by
 refine⟨fun w'=>qn w'.heap b1 k1 v1 s1/\qn w'.heap b2 k2 v2 s2,⟨h1,h2⟩,_,fun w' h=>Cell.ah h.1 rfl,_,fun w' h=>Cell.ah h.1 rfl,s1,fun w' h=>Cell.ah h.1 rfl,_,fun w' h=>Cell.ah h.2 rfl,_,fun w' h=>Cell.ah h.2 rfl,s2,fun w' h=>Cell.ah h.2 rfl,?_⟩
 refine um (w:=aa w) h1 rfl fun w1 g1 x1 z1=>⟨⟨g1,ag (w:=aa w) h2 x1 (Ne.symm bA)⟩,um (ag (w:=aa w) h2 x1 (Ne.symm bA)) rfl fun w2 g2 x2 z2=>⟨⟨ag g1 x2 bA,g2⟩,mY (ag g1 x2 bA) (mY g2 (kk w2 ?_ (z2.trans z1)))⟩⟩
 exact(x1.ar.mono fun _ _ h=> .inl h).trans x2 fun _ _ h=> .inr h
theorem Bm{y:aL}{b:Nat}{w':Wd}(n:Da w (.cells y.cs.toArray 151) b w'):bf w'.heap w.heap.size 151 9 ⟨some ⟨b,0,none⟩,1,1⟩ y.cs:=bf.new (n:=1) (sz:=9) n rfl (by intro v hv;unfold aL.cs at hv;simp only[List.mem_cons,List.not_mem_nil,or_false]at hv;rcases hv with h | h | h | h | h | h | h | h | h <;> subst h <;> rfl)
theorem iP(x:aL):∀v∈x.cs,aJ v=true:=by
 intro v hv;unfold aL.cs at hv;simp only[List.mem_cons,List.not_mem_nil,or_false]at hv;rcases hv with h | h | h | h | h | h | h | h | h <;> subst h <;> rfl
set_option maxHeartbeats 1000000 in
theorem Mb{x:aL}{e:aF}{K:Sl->Sl->Int->Int->Int->Int->Int->Int->Int->Pw}(er:lD w.heap x e)(hk:e.key.length<=65536)(hv:e.val.length<=65536)
  (k:∀(y:aL) w',lD w'.heap y e->(∀b,(y.k.aj=some b∨y.v.aj=some b)->w.heap.size<=b/\b < w'.heap.size)->Ext No w w'->K y.k y.v y.n y.ch.p y.ch.c y.ch.g y.cd.p y.cd.c y.cd.g w'):qO x.k x.v x.n x.ch.p x.ch.c x.ch.g x.cd.p x.cd.c x.cd.g w K:=by
 apply GP;refine af.mk fun b w1 n1=>af.mk fun b1 w2 n2=>af.mk fun b2 w3 n3=>?_
 have g1:w1.heap[b]? = some (.cells x.cs.toArray 151 (0,0)):=n1.get;have hb:=n1.at_;have jk:=n2.at_;have jN:=n3.at_;have z1:=n1.size;have z2:=n2.size;have z3:=n3.size;have ib:Ext No w w3:=(n1.ext.no n2.ext).no n3.ext;have g3:=ad (ad g1 n2.ext) n3.ext;refine⟨_,Cell.ah g3 rfl,vA (Q:=fun i=>w2.heap.size<=i) (n3.ext.aE) (fun i hi=>by simp[Sl.aj]at hi;omega) (fun i hi=>hi) (aK.new (l:=[]) (n:=0) n3 rfl) (by omega) (er.k.no ib) (by simp;omega) fun t4 w4 o4 q4 x4=>?_⟩;have g4:=ag (ad g1 n2.ext) x4 (by omega);have gz4:=ag n2.get x4 (by omega);refine aQ.mk g4 (by simp[aL.cs]) rfl fun w5 h5=>af.mk fun b3 w6 n6=>?_
 have g5:w5.heap[b]? = some (.cells ({ x with k:=t4 }:aL).cs.toArray 151 (0,0)):=h5.get g4;have x5:Ext (·=b) w4 w5:=h5.ext;have z5:w5.heap.size=w4.heap.size:=h5.size;have z4:=x4.size;have g6:=ad g5 n6.ext;have z6:=n6.size;have vB:=n6.at_;have xv:Ext No w w6:=(((n1.ext.no n2.ext).trans x4 fun i h1 h2=>by omega).trans x5 fun i h1 h2=>by omega).no n6.ext;refine⟨_,Cell.ah g6 rfl,vA (Q:=fun i=>w5.heap.size<=i) (n6.ext.aE) (fun i hi=>by simp[Sl.aj]at hi;omega) (fun i hi=>hi) (aK.new (l:=[]) (n:=0) n6 rfl) (by omega) (er.v.no xv) (by simp;omega) fun t7 w7 o7 q7 x7=>?_⟩;have g7:=ag g5 x7 (by omega);have z7:=x7.size;refine aQ.mk g7 (by simp[aL.cs]) rfl fun w8 h8=>?_
 have g8:w8.heap[b]? = some (.cells ({ x with k:=t4,v:=t7 }:aL).cs.toArray 151 (0,0)):=h8.get g7;have x8:Ext (·=b) w7 w8:=h8.ext;have z8:w8.heap.size=w7.heap.size:=h8.size;have gz8:=ag (ag (ag gz4 x5 (by omega)) x7 (by omega)) x8 (by omega);refine eW g8 (cR gz8 rfl rfl (iP _) fun w9 g9 x9 z9=>?_)
 have b4:∀q,t4.aj=some q->w2.heap.size<=q/\q < w4.heap.size:=fun q hq=>⟨q4 q hq,(o4.lt hq).2⟩
 have b7:∀q,t7.aj=some q->w5.heap.size<=q/\q < w7.heap.size:=fun q hq=>⟨q7 q hq,(o7.lt hq).2⟩
 refine eW (x:={ x with k:=t4,v:=t7 }) g9 (k { x with k:=t4,v:=t7 } w9 ⟨?_,?_,er.n,er.ch,er.cd,er.k8,er.v8,er.n64,er.Sj,er.Sk⟩ (fun q hq=>?_) ?_)
 .have:=o4.rd.ext x5 (fun a q ha hq h=>by have:=b4 q (by simp[Sl.aj,ha,hq]);omega) |>.ext x7 (fun a q ha hq h=>by have:=b4 q (by simp[Sl.aj,ha,hq]);omega) |>.ext x8 (fun a q ha hq h=>by have:=b4 q (by simp[Sl.aj,ha,hq]);omega) |>.ext x9 (fun a q ha hq h=>by have:=b4 q (by simp[Sl.aj,ha,hq]);omega)
  simpa using this
 .have:=o7.rd.ext x8 (fun a q ha hq h=>by have:=b7 q (by simp[Sl.aj,ha,hq]);omega) |>.ext x9 (fun a q ha hq h=>by have:=b7 q (by simp[Sl.aj,ha,hq]);omega)
  simpa using this
 .rcases hq with hq | hq
  .have:=b4 q hq;omega
  .have:=b7 q hq;omega
 .exact(((((n1.ext.no n2.ext).trans x4 fun i h1 h2=>by omega).trans x5 fun i h1 h2=>by omega).trans x7 fun i h1 h2=>by omega).trans x8 fun i h1 h2=>by omega).trans x9 fun i h1 h2=>by omega
structure XL(h:Array Obj)(sl:Sl)(ls:List (Sl×List (aL×aF))):Prop where
 rd:Rd h sl 1 (ls.map fun p=>p.1.v)
 nd:∀p∈ls,ny h p.1 p.2
theorem XL.no{w':Wd}{sl:Sl}{ls:List (Sl×List (aL×aF))}(r:XL w.heap sl ls)(x:Ext No w w'):XL w'.heap sl ls:=⟨r.rd.no x,fun p hp=>(r.nd p hp).no x⟩
def Po(w0:Wd)(b1 base:Nat)(kind lev:Int)(w':Wd)(l:List aF):Prop:=∃s L,qn w'.heap b1 kind lev s/\ic w'.heap base s L/\ents L=l/\Ext (·=b1) w0 w'/\base<=w'.heap.size
set_option maxHeartbeats 1000000 in
theorem iE{kind lev:Int}{sl:Sl}{ls:List (Sl×List (aL×aF))}{K:Int->Int->Sl->Pw}(r:XL w.heap sl ls)(hn:ls.length<=16)(hl:∀p∈ls,p.2.length<=4096)(hs:∀p∈ls,∀q∈p.2,q.2.key.length<=65536/\q.2.val.length<=65536)
  (k:∀s L w',ic w'.heap w.heap.size s L->ents L=(ls.map fun p=>ents p.2).flatten->Ext No w w'->K kind lev s w'):dC kind lev sl w K:=by
 apply EL;have LN:sl.len=ls.length:=by have:=r.rd.len;simp at this;exact this.symm
 refine af.mk fun b w1 n1=>af.mk fun b1 w2 n2=>um (s:=⟨none,0,0⟩) n2.get rfl fun w3 g3 x3 z3=>?_
 have hb:=n1.at_;have jk:=n2.at_;have z1:=n1.size;have z2:=n2.size;have ib:Ext No w w3:=(n1.ext.no n2.ext).trans x3 fun i h1 h2=>by omega
 have gb3:=ag (ad n1.get n2.ext) x3 (by omega)
 have hle:∀j,((ls.take j).map fun p=>ents p.2).flatten.length<=j * 4096:=fun j=>by
  induction j with
  | zero=>simp
  | succ j ih=>
   rcases Nat.lt_or_ge j ls.length with h | h
   .rw[List.take_add_one,List.getElem?_eq_getElem h];simp only[Option.toList_some,List.map_append,List.flatten_append,List.length_append,List.map_cons,List.map_nil,List.flatten_cons,List.flatten_nil,List.append_nil,List.length_map];have:=hl _ (List.getElem_mem h);omega
   .rw[List.take_of_length_le (by omega)]at ih ⊢;omega
 refine⟨fun m t w'=>∃j:Nat,t=j/\j<=ls.length/\m=ls.length - j/\Po w3 b1 w3.heap.size kind lev w' ((ls.take j).map fun p=>ents p.2).flatten,⟨ls.length,0,rfl,by omega,by omega,⟨none,0,0⟩,[],g3,ic.nil _ _,rfl,Ext.refl _ _,Nat.le_refl _⟩,?_⟩;rintro _ m0 t w4 ⟨j,rfl,hj,hm,st⟩;refine If.dec (fun h=>?_) fun h=>?_
 .have mH:j < ls.length:=by omega
  obtain⟨_,_,_,_,_,Cc,_⟩:=id st;have fg:Ext No w w4:=ib.trans Cc fun q hq h=>by omega
  refine Ix.cell (r.rd.no fg) (by omega) h fun bb o v _ hv hc=>?_
  rw[Int.toNat_natCast,List.getElem?_map,List.getElem?_eq_getElem mH]at hv;simp only[Option.map_some,Option.some.injEq]at hv;subst hv;have RC:=r.nd _ (List.getElem_mem mH);have XM:=hl _ (List.getElem_mem mH);have hsj:=hs _ (List.getElem_mem mH)
  have s_:((ls.take (j+1)).map fun p=>ents p.2).flatten=((ls.take j).map fun p=>ents p.2).flatten++ents ls[j].2:=by
   rw[List.take_add_one,List.getElem?_eq_getElem mH];simp only[Option.toList_some,List.map_append,List.map_cons,List.map_nil,List.flatten_append,List.flatten_cons,List.flatten_nil,List.append_nil]
  have ae4:=hle j;generalize XB:((ls.take j).map fun p=>ents p.2).flatten=l0 at *;generalize ls[j]=pj at *;obtain⟨sj,Lj⟩:=pj;simp only at RC XM hsj hc s_;have nl:=RC.len;refine⟨sj,hc,fun m t w'=>∃i:Nat,t=i/\i<=Lj.length/\m=Lj.length - i/\Po w3 b1 w3.heap.size kind lev w' (l0++(ents Lj).take i),⟨Lj.length,0,rfl,by omega,by omega,by simpa using st⟩,?_⟩;rintro _ m1 t1 w5 ⟨i,rfl,hi,Nw,s5,L5,g5,nd5,el5,OB,fq⟩;have xY:Ext No w w5:=ib.trans OB fun q hq h=>by omega
  refine If.dec (fun h=>?_) fun h=>?_
  .refine rz (RC.rd.no xY) (by omega) h fun b2 w7 iO g7 jN z7 x7=>?_
   simp only[Int.toNat_natCast]at iO g7;have ub:=xY.no x7;have fc:=ad g5 x7;have er:=(RC.no ub).get iO;have hsi:=hsj _ (List.getElem_mem iO);have ae5:b1 < w3.heap.size:=by omega
   refine⟨Ext (fun q=>w3.heap.size<=q/\q≠b2) w7,(Ext.refl _ _).drew,s5,ae.dI (Cell.ah fc rfl) (show ¬ (w3.heap.size<=b1/\b1≠b2) by omega),?_⟩;refine⟨_,ae.dI (Cell.ah g7 rfl) (by simp),_,ae.dI (Cell.ah g7 rfl) (by simp),_,ae.dI (Cell.ah g7 rfl) (by simp),_,ae.dI (Cell.ah g7 rfl) (by simp),_,ae.dI (Cell.ah g7 rfl) (by simp),_,ae.dI (Cell.ah g7 rfl) (by simp),_,ae.dI (Cell.ah g7 rfl) (by simp),_,ae.dI (Cell.ah g7 rfl) (by simp),_,ae.dI (Cell.ah g7 rfl) (by simp),?_⟩
   refine Mb (w:=aa w7) er hsi.1 hsi.2 fun y w8 er8 yb x8=>⟨(x8.ar).aE,af.mk fun b3 w9 n9=>⟨((x8.ar).no n9.ext).aE,?_⟩⟩
   have yb':∀q,(y.k.aj=some q∨y.v.aj=some q)->w7.heap.size<=q/\q < w8.heap.size:=yb
   have CG:Ext No w7 w9:=(x8.ar).no n9.ext;have RD:=(nd5.no x7).no CG;have z9:=n9.size;have s79:=CG.size;have s57:=x7.size;have n9':Da w8 (.cells y.cs.toArray 151) b3 w9:=n9;have o9:=Bm n9';have nl5:=nd5.nd.len;have l5:L5.length=l0.length+i:=by have:=congrArg List.length el5;simp only[List.length_map,List.length_append,List.length_take]at this;omega
   refine fM RD.own (by omega) o9.rd.src (by simp only;omega) fun Oz dV Jp _ dW oQ=>?_
   have SK:∀q,s5.aj=some q->w3.heap.size<=q/\q < w5.heap.size:=fun q hq=>nd5.own.lt hq
   have VO:ic dV.heap w3.heap.size Oz (L5++[(y,Lj[i].2)]):=ic.push (p:=(y,Lj[i].2)) RD Jp dW oQ (er8.no n9.ext) (fun q hq=>by have:=yb' q (.inl hq);exact⟨by omega,by omega,fun h=>by have:=SK q h;omega⟩) (fun q hq=>by have:=yb' q (.inr hq);exact⟨by omega,by omega,fun h=>by have:=SK q h;omega⟩)
   have sP:Ext (fun q=>w3.heap.size<=q/\q≠b2) w7 dV:=CG.aE.trans dW fun q hq h=>⟨(SK q h).1,by have:=SK q h;omega⟩
   have nz:=ag fc sP (show ¬ (w3.heap.size<=b1/\b1≠b2) by omega);refine⟨sP,aQ.mk nz (by simp) rfl fun di CH=>?_⟩;have fH:Ext (·=b1) dV di:=CH.ext;have e11:di.heap.size=dV.heap.size:=CH.size;refine Ar.i64 (by omega) ⟨Lj.length - (i+1),by omega,i+1,by omega,by omega,rfl,Oz,_,CH.get nz,VO.ext fH (fun q h1 h2 h=>by omega),?_,?_,?_⟩
   .show List.map Prod.snd (L5++[(y,Lj[i].2)])=_;rw[List.map_append,show List.map Prod.snd L5=_ from el5,List.take_add_one,List.getElem?_eq_getElem (by simpa using iO)];simp
   .exact((OB.no x7).trans sP fun q hq h=>by omega).trans fH fun q hq h=>h
   .have:=sP.size;omega
  .have e:i=Lj.length:=by omega
   refine Ar.i64 (by omega) ⟨ls.length - (j+1),by omega,j+1,by omega,by omega,rfl,s5,L5,g5,nd5,?_,OB,fq⟩;rw[s_,el5,e,List.take_of_length_le (by simp)]
 .have e:j=ls.length:=by omega
  obtain⟨s4,L4,g4,nd4,el4,Cc,fq⟩:=st;rw[e,List.take_length]at el4;have fg:Ext No w w4:=ib.trans Cc fun q hq h=>by omega
  refine mY g4 (um (ag gb3 Cc (by omega)) rfl fun eN Cd fJ OQ=>mY Cd (k s4 L4 eN ((nd4.ext fJ fun q h1 h2 h=>by omega).mono (by omega)) el4 (fg.trans fJ fun q hq h=>by omega)))
end
end Go.Proofs.YtpjbalhhlaofmaaGreat
namespace Go.V
def iF:List aF->List aF
 | []=>[]
 | e::l=>{ e with key:=[] }::l
def kn(kind:Int)(l:List aF):List aF:=if kind=2 then iF l else l
theorem oX(l:List aF):(iF l).length=l.length:=by cases l <;> rfl
theorem Bn(kind:Int)(l:List aF):(kn kind l).length=l.length:=by unfold kn;split;exact oX l;rfl
def szL(kind:Int)(l:List aF):Nat:=(l.map fun e=>(wrE kind e).length).sum
theorem du(kind:Int)(a b:List aF):szL kind (a++b)=szL kind a+szL kind b:=by simp[szL]
theorem dh(kind:Int)(e:aF)(l:List aF):szL kind (e::l)=(wrE kind e).length+szL kind l:=by simp[szL]
theorem pT(kind:Int):szL kind []=0:=rfl
theorem eZ(kind lev:Int)(l:List aF):(wr kind lev l).length=3+szL kind l:=by simp[wr,szL,List.length_flatMap];omega
theorem Fx(kind:Int)(e:aF)(k:List Int):(wrE kind { e with key:=k }).length+e.key.length=(wrE kind e).length+k.length:=by
 unfold wrE;simp only[List.length_append,List.length_cons];omega
theorem HE(kind:Int)(l:List aF){j k:Nat}(h:j<=k):szL kind (l.take j)<=szL kind (l.take k):=by
 have:l.take k=l.take j++(l.take k).drop j:=by
  conv=>lhs;rw[<- List.take_append_drop j (l.take k)]
  rw[List.take_take,Nat.min_eq_left h]
 rw[this,du];omega
theorem aH.take{kind lev:Int}{l:List aF}{k:Nat}(h:aH kind lev l)(hk:1<=k):aH kind lev (l.take k):=by
 refine⟨h.shape,fun h2=>?_,fun i hi=>?_,fun i hi=>?_⟩
 .have:=h.some h2
  cases l with
  | nil=>exact(this rfl).elim
  | cons e l=>cases k with
   | zero=>omega
   | succ k=>simp
 .simp only[List.length_take]at hi;rw[List.getElem_take];exact h.h_ i (by omega)
 .simp only[List.length_take]at hi;rw[List.getElem_take,List.getElem_take];exact h.ord i (by omega)
theorem vP{kind i j:Int}{e:aF}(h:nR kind i e)(Fp:kind=2->(i=0 ↔ j=0)):nR kind j e:=by
 obtain⟨h1,h2⟩:=h;refine⟨?_,h2⟩;unfold lX at h1 ⊢;rcases Classical.em (kind=2) with hk | hk
 .have:=Fp hk;rcases Classical.em (i=0) with h0 | h0
  .rw[if_pos ⟨hk,h0⟩]at h1;rw[if_pos ⟨hk,this.1 h0⟩];exact h1
  .rw[if_neg (fun h=>h0 h.2)]at h1;rw[if_neg (fun h=>h0 (this.2 h.2))];exact h1
 .rw[if_neg (fun h=>hk h.1)]at h1 ⊢;exact h1
theorem Bo{l:List aF}{i:Nat}(h:i < (iF l).length)(h':i < l.length):(iF l)[i]=if i=0 then { l[i] with key:=[] } else l[i]:=by
 cases l with
 | nil=>simp at h'
 | cons e l=>cases i with
  | zero=>rfl
  | succ i=>simp[iF]
theorem aH.kn{kind lev:Int}{l:List aF}{k:Nat}(h:aH kind lev l)(h1:1<=k)(hk:k < l.length):aH kind lev (kn kind (l.drop k)):=by
 have hd:(l.drop k).length=l.length - k:=List.length_drop
 have Md:∀i (hi:i < (l.drop k).length),nR kind ((k+i:Nat):Int) (l.drop k)[i]:=fun i hi=>by
  rw[List.getElem_drop];exact h.h_ (k+i) (by omega)
 have Zp:∀i (hi:i+1 < (l.drop k).length),bM (l.drop k)[i].key (l.drop k)[i+1].key:=fun i hi=>by
  rw[List.getElem_drop,List.getElem_drop];exact h.ord (k+i) (by omega)
 unfold Go.V.kn;split
 .rename_i h2;refine⟨h.shape,fun _ e=>?_,fun i hi=>?_,fun i hi=>?_⟩
  .have:=congrArg List.length e;rw[oX]at this;simp at this;omega
  .have iO:i < (l.drop k).length:=by rw[oX]at hi;exact hi
   rw[Bo hi iO];split
   .rename_i h0;subst h0;have:=Md 0 iO;refine⟨by unfold lX;rw[if_pos ⟨h2,rfl⟩];rfl,?_⟩;have:=this.2;rw[if_pos h2]at this ⊢;exact this
   .exact vP (Md i iO) fun _=>by omega
  .rw[oX]at hi;rw[Bo (by rw[oX];omega) (by omega),Bo (by rw[oX];omega) hi,if_neg (by omega:¬ i+1=0)];split
   .refine bM.nil fun e=>?_
    have:=(Md (i+1) hi).1;unfold lX at this;rw[if_neg (by omega),e]at this;simp at this
   .exact Zp i hi
 .rename_i h2;exact⟨h.shape,fun h=>(h2 h).elim,fun i hi=>vP (Md i hi) fun h=>(h2 h).elim,Zp⟩
def Pp(kind lev:Int)(l:List aF)(k:Nat):Nat:=(wr kind lev (l.take k)).length
def T9(kind lev:Int)(l:List aF)(k:Nat):Nat:=(wr kind lev (kn kind (l.drop k))).length
def jq(kind lev:Int)(l:List aF)(k:Nat):Prop:=1<=k/\k < l.length/\Pp kind lev l k<=224/\T9 kind lev l k<=224
def Pq(kind lev:Int)(l:List aF)(k:Nat):Int:=gV ((Pp kind lev l k:Int) - T9 kind lev l k) ((T9 kind lev l k:Int) - Pp kind lev l k)
structure xg(kind lev:Int)(l:List aF)(k:Nat):Prop where
 v:jq kind lev l k
 min:∀j,jq kind lev l j->Pq kind lev l k<=Pq kind lev l j
theorem KJ{L:List (aL×aF)}{k:Nat}(h:k<=L.length):(L.flatMap aU).take (k * 9)=(L.take k).flatMap aU/\(L.flatMap aU).drop (k * 9)=(L.drop k).flatMap aU:=by
 have e:L.flatMap aU=(L.take k).flatMap aU++(L.drop k).flatMap aU:=by rw[<- List.flatMap_append,List.take_append_drop]
 have hl:((L.take k).flatMap aU).length=k * 9:=by rw[aS (bO _),List.length_take,Nat.min_eq_left h]
 rw[e,List.take_left' hl,List.drop_left' hl];exact⟨rfl,rfl⟩
theorem ny.Zq{w:Wd}{s:Sl}{L:List (aL×aF)}{lo hi mx:Int}{K:Sl->Prop}(r:ny w.heap s L)(h0:0<=lo)(h1:lo<=hi)(h2:hi<=(L.length:Int))(hm:mx=s.cap)(k:∀s',ny w.heap s' ((L.drop lo.toNat).take (hi - lo).toNat)->K s'):Cut s lo hi mx 9 K:=by
 have hl:=r.len;have hc:=r.rd.cap;subst hm;refine Cut.mk h0 h1 (by omega) (Int.le_refl _) (k _ ⟨?_,fun p hp=>r.h_ p (List.mem_of_mem_drop (List.mem_of_mem_take hp))⟩);have:=r.rd.cut (lo:=lo.toNat) (hi:=hi.toNat) (mx:=s.cap) (by omega) (by omega) (by omega);rw[(KJ (k:=lo.toNat) (by omega)).2,(KJ (k:=hi.toNat - lo.toNat) (by rw[List.length_drop];omega)).1]at this;rw[show(hi - lo).toNat=hi.toNat - lo.toNat by omega,show(((s.cap:Nat):Int) - lo).toNat=s.cap - lo.toNat by omega,show(((s.cap:Nat):Int)).toNat=s.cap from rfl];exact this
end Go.V
namespace Go.Proofs.YtpjbalhhlaofmaaGreat
open Go.V
section
variable {w:Wd}
def Fy(kD Gc:Nat)(S:Pw)(k1 v1:Int)(sa:Sl)(k2 v2:Int)(sb:Sl)(K:Int->Int->Sl->Int->Int->Sl->Sl->Pw)(w:Wd):Prop:=
 List.length (α:=Value) [.int .u8 k1,.int .u8 v1,.slice sa.a sa.len sa.cap]=3/\gT w (Addr.mk kD 0 none) [.int .u8 k1,.int .u8 v1,.slice sa.a sa.len sa.cap] fun w8=>
 S w8/\
 List.length (α:=Value) [.int .u8 k2,.int .u8 v2,.slice sb.a sb.len sb.cap]=3/\gT w8 (Addr.mk Gc 0 none) [.int .u8 k2,.int .u8 v2,.slice sb.a sb.len sb.cap] fun w9=>
 S w9/\
 af w9 (.cells [].toArray 5) fun T_ dV=>
 ∃pP:Sl,Cell dV ((Addr.mk Gc 0 none).add 2) (.slice pP.a pP.len pP.cap)/\
 Ix pP.a pP.len 0 9 fun a=>
 ∃nV:Sl,Cell dV a (.slice nV.a nV.len nV.cap)/\
 bg pz 23 23 ⟨some (Addr.mk T_ 0 none),0,0⟩ (.slice nV.a nV.len nV.cap) (fun s_2 di=>
 ∃qv:Int,Cell di (Addr.mk Gc 0 none) (.int .u8 qv)/\
 If (qv == 2) (
 ∃qw:Sl,Cell di ((Addr.mk Gc 0 none).add 2) (.slice qw.a qw.len qw.cap)/\
 Ix qw.a qw.len 0 9 fun TU=>
 aQ di TU (.slice none 0 0) fun eN=>
 ∃S:Pw,S (aa eN)/\
 ∃c:Int,ae S (Addr.mk kD 0 none) (.int .u8 c)/\
 ∃jz:Int,ae S ((Addr.mk kD 0 none).add 1) (.int .u8 jz)/\
 ∃ia:Sl,ae S ((Addr.mk kD 0 none).add 2) (.slice ia.a ia.len ia.cap)/\
 ∃oN:Int,ae S (Addr.mk Gc 0 none) (.int .u8 oN)/\
 ∃oO:Int,ae S ((Addr.mk Gc 0 none).add 1) (.int .u8 oO)/\
 ∃jY:Sl,ae S ((Addr.mk Gc 0 none).add 2) (.slice jY.a jY.len jY.cap)/\
 List.length (α:=Value) [.int .u8 c,.int .u8 jz,.slice ia.a ia.len ia.cap]=3/\gT (aa eN) (Addr.mk kD 0 none) [.int .u8 c,.int .u8 jz,.slice ia.a ia.len ia.cap] fun cO=>
 S cO/\
 List.length (α:=Value) [.int .u8 oN,.int .u8 oO,.slice jY.a jY.len jY.cap]=3/\gT cO (Addr.mk Gc 0 none) [.int .u8 oN,.int .u8 oO,.slice jY.a jY.len jY.cap] fun cM=>
 S cM/\
 ∃qA:Int,Cell cM (Addr.mk kD 0 none) (.int .u8 qA)/\
 ∃oP:Int,Cell cM ((Addr.mk kD 0 none).add 1) (.int .u8 oP)/\
 ∃lG:Sl,Cell cM ((Addr.mk kD 0 none).add 2) (.slice lG.a lG.len lG.cap)/\
 ∃OO:Int,Cell cM (Addr.mk Gc 0 none) (.int .u8 OO)/\
 ∃Be:Int,Cell cM ((Addr.mk Gc 0 none).add 1) (.int .u8 Be)/\
 ∃ug:Sl,Cell cM ((Addr.mk Gc 0 none).add 2) (.slice ug.a ug.len ug.cap)/\
 K qA oP lG OO Be ug s_2 cM) (
 ∃S:Pw,S (aa di)/\
 ∃Ft:Int,ae S (Addr.mk kD 0 none) (.int .u8 Ft)/\
 ∃Fu:Int,ae S ((Addr.mk kD 0 none).add 1) (.int .u8 Fu)/\
 ∃oU:Sl,ae S ((Addr.mk kD 0 none).add 2) (.slice oU.a oU.len oU.cap)/\
 ∃uh:Int,ae S (Addr.mk Gc 0 none) (.int .u8 uh)/\
 ∃vH:Int,ae S ((Addr.mk Gc 0 none).add 1) (.int .u8 vH)/\
 ∃oW:Sl,ae S ((Addr.mk Gc 0 none).add 2) (.slice oW.a oW.len oW.cap)/\
 List.length (α:=Value) [.int .u8 Ft,.int .u8 Fu,.slice oU.a oU.len oU.cap]=3/\gT (aa di) (Addr.mk kD 0 none) [.int .u8 Ft,.int .u8 Fu,.slice oU.a oU.len oU.cap] fun dY=>
 S dY/\
 List.length (α:=Value) [.int .u8 uh,.int .u8 vH,.slice oW.a oW.len oW.cap]=3/\gT dY (Addr.mk Gc 0 none) [.int .u8 uh,.int .u8 vH,.slice oW.a oW.len oW.cap] fun kE=>
 S kE/\
 ∃lY:Int,Cell kE (Addr.mk kD 0 none) (.int .u8 lY)/\
 ∃lZ:Int,Cell kE ((Addr.mk kD 0 none).add 1) (.int .u8 lZ)/\
 ∃nW:Sl,Cell kE ((Addr.mk kD 0 none).add 2) (.slice nW.a nW.len nW.cap)/\
 ∃sQ:Int,Cell kE (Addr.mk Gc 0 none) (.int .u8 sQ)/\
 ∃Bp:Int,Cell kE ((Addr.mk Gc 0 none).add 1) (.int .u8 Bp)/\
 ∃xh:Sl,Cell kE ((Addr.mk Gc 0 none).add 2) (.slice xh.a xh.len xh.cap)/\
 K lY lZ nW sQ Bp xh s_2 kE)) dV
set_option maxHeartbeats 1000000 in
theorem Ps{b1 b2 base:Nat}{kind lev:Int}{sa sb:Sl}{La Lb:List (aL×aF)}{z1 z2:List Value}{w0 wa:Wd}{K:Int->Int->Sl->Int->Int->Sl->Sl->Pw}
  (xs:Ext (fun q=>q=b1∨q=b2) w0 w) (h1:w.heap[b1]? = some (.cells z1.toArray 142 (0,0))) (h2:w.heap[b2]? = some (.cells z2.toArray 142 (0,0))) (l1:z1.length=3) (l2:z2.length=3) (bA:b1≠b2)
  (na:ic wa.heap base sa La) (xa:Ext No wa w) (nb:ic w.heap wa.heap.size sb Lb) (jk:b1 < base) (jN:b2 < base) (hbw:base<=wa.heap.size) (hl:0 < Lb.length) (hk:Lb[0].2.key.length<=65536)
  (k:∀Lb' st w',ic w'.heap base sa La->ic w'.heap base sb Lb'->ents Lb'=kn kind (ents Lb)->aK w'.heap base st Lb[0].2.key->Ext (fun q=>q=b1∨q=b2∨base<=q) w w'->K kind lev sa kind lev sb st w') :
  Fy b1 b2 (Ext (fun q=>q=b1∨q=b2) w0) kind lev sa kind lev sb K w:=by
 unfold Fy
 refine um h1 l1 fun w8 g8 x8 z8=>⟨xs.trans x8 fun _ _ h=> .inl h,um (ag h2 x8 (Ne.symm bA)) l2 fun w9 g9 x9 z9=>⟨(xs.trans x8 fun _ _ h=> .inl h).trans x9 fun _ _ h=> .inr h,af.mk fun b5 dV lE=>?_⟩⟩
 have LK:=lE.at_;have Kv:=lE.size;have hwa:=xa.size;have x89:Ext (fun q=>q=b1∨q=b2∨wa.heap.size<=q) w w9:=(x8.mono fun _ _ h=> .inl h).trans x9 fun _ _ h=> .inr (.inl h)
 have Zr:ic w9.heap wa.heap.size sb Lb:=(nb.ext x8 fun q h1 _ h=>by omega).ext x9 fun q h1 _ h=>by omega
 have nl:=(Zr.no lE.ext).nd.len;refine⟨sb,Cell.ah (ad g9 lE.ext) rfl,Ix.elem (Zr.no lE.ext).own.rd (bO Lb) (by decide) (by omega) (by omega) fun bb o hi _ hc=>⟨_,hc 0 _ rfl,?_⟩⟩;simp only[Int.toNat_zero]at hi hc ⊢;have er:=(Zr.no lE.ext).nd.get hi;refine vA (Q:=fun q=>w9.heap.size<=q) (lE.ext.aE) (fun i hi=>by simp[Sl.aj]at hi;omega) (fun i hi=>hi) (aK.new (l:=[]) (n:=0) lE rfl) (by omega) er.k (by simp;omega) fun st di Sr q11 fH=>?_
 have g81:=ag (ag g8 x9 bA) fH (by omega);have g91:=ag g9 fH (by omega);have So:=fH.size;have Zs:ic di.heap wa.heap.size sb Lb:=Zr.ext fH fun q h1 h2 h=>by omega
 have VP:∀q,st.aj=some q->w9.heap.size<=q/\q < di.heap.size:=fun q hq=>⟨q11 q hq,(Sr.lt hq).2⟩
 have zx:Ext (fun q=>q=b1∨q=b2∨wa.heap.size<=q) w di:=x89.trans fH fun q _ h=> .inr (.inr (by omega))
 have Zt:aK di.heap base st Lb[0].2.key:=by have:=Sr.mono (base':=base) (by omega);simpa using this
 have fin:∀{w':Wd},Ext (fun q=>q=b1∨q=b2∨wa.heap.size<=q) di w'->ic w'.heap base sa La/\Ext (fun q=>q=b1∨q=b2∨base<=q) w w':=fun x=>by
  have xx:=zx.trans x fun _ _ h=>h
  exact⟨na.ext (S:=fun q=>q=b1∨q=b2∨wa.heap.size<=q) (xa.aE.trans xx fun q _ h=>h) fun q h1 h2 h=>by omega,xx.mono fun q _ h=>by omega⟩
 refine⟨_,Cell.ah g91 rfl,If.beq (fun NC=>?_) fun NC=>?_⟩
 .have sbb:∀q,sb.aj=some q->wa.heap.size<=q/\q < w9.heap.size:=fun q hq=>Zr.own.lt hq
  refine⟨sb,Cell.ah g91 rfl,ki.key (t:=⟨none,0,0⟩) (key:=[]) (B:=fun q=>wa.heap.size<=q) (Zs.q fun _ h _=>h) (by omega) (by simpa using hl) (Rd.nil _ _) B8.nil (fun q hq=>by simp[Sl.aj]at hq) fun eN Pj fJ OQ=>?_⟩;have g82:=ag g81 fJ (fun h=>by have:=sbb b1 h;omega);have g92:=ag g91 fJ (fun h=>by have:=sbb b2 h;omega);refine VN g82 g92 bA fun cM fI OR=>?_
  obtain⟨f1,f2⟩:=fin ((fJ.mono fun q _ h=> .inr (.inr (sbb q h).1)).trans fI fun q _ h=>h.imp id .inl);refine k _ st cM f1 ((Pj.o.ext fI fun q h1 h2 h=>by omega).mono (by omega)) ?_ ((Zt.ext fJ fun q hq h=>?_).ext fI fun q hq h=>?_) f2
  .unfold kn;rw[if_pos NC]
   cases Lb with
   | nil=>simp at hl
   | cons p L=>rfl
  .have:=VP q hq;have:=sbb q h;omega
  .have:=VP q hq;omega
 .refine VN g81 g91 bA fun cM fI OR=>?_
  obtain⟨f1,f2⟩:=fin (fI.mono fun q _ h=>h.imp id .inl);refine k Lb st cM f1 ((Zs.ext fI fun q h1 h2 h=>by omega).mono (by omega)) ?_ (Zt.ext fI fun q hq h=>by have:=VP q hq;omega) f2;unfold kn;rw[if_neg NC]
theorem Me{s:Sl}{L:List (aL×aF)}{b:Nat}{w':Wd}(n:Da w (.cells [.slice s.a s.len s.cap].toArray 140) b w')(r:ny w'.heap s L):XL w'.heap ⟨some ⟨b,0,none⟩,1,1⟩ [(s,L)] :=
 ⟨(bf.new (n:=1) (sz:=1) (cs:=[s.v]) n rfl (by simp[aJ,Sl.v])).rd,fun p hp=>by rw[List.mem_singleton]at hp;subst hp;exact r⟩
set_option maxHeartbeats 2000000 in
theorem DF{kind lev k:Int}{s:Sl}{L:List (aL×aF)}{K:Int->Int->Sl->Int->Int->Sl->Sl->Pw}(nd:ny w.heap s L)(hk:0<=k)(zS:k.toNat < L.length)(hl:L.length<=4096)(hs:∀q∈L,q.2.key.length<=65536/\q.2.val.length<=65536)
  (kk:∀sa La sb Lb st w',ic w'.heap w.heap.size sa La->ents La=(ents L).take k.toNat->ic w'.heap w.heap.size sb Lb->ents Lb=kn kind ((ents L).drop k.toNat)->aK w'.heap w.heap.size st L[k.toNat].2.key->Ext No w w'->K kind lev sa kind lev sb st w'):ni kind lev s k w K:=by
 apply GQ;refine af.mk fun b w1 n1=>af.mk fun b1 w2 n2=>af.mk fun b2 w3 n3=>?_
 have hb:=n1.at_;have jk:=n2.at_;have jN:=n3.at_;have z1:=n1.size;have z2:=n2.size;have z3:=n3.size;have ib:Ext No w w3:=(n1.ext.no n2.ext).no n3.ext;have g3:qn w3.heap b kind lev s:=ad (ad n1.get n2.ext) n3.ext;have fN:=ad n2.get n3.ext;have XN:=nd.no ib;have nl:=XN.len;have nb:¬ (fun q=>q=b1∨q=b2) b:=fun h=>by omega
 refine⟨Ext (fun q=>q=b1∨q=b2) w3,(Ext.refl _ _).drew,kind,ae.dI (Cell.ah g3 rfl) nb,lev,ae.dI (Cell.ah g3 rfl) nb,s,ae.dI (Cell.ah g3 rfl) nb,XN.Zq (by omega) (by omega) (by omega) rfl fun s1 r1=>⟨kind,ae.dI (Cell.ah g3 rfl) nb,lev,ae.dI (Cell.ah g3 rfl) nb,s,ae.dI (Cell.ah g3 rfl) nb,XN.Zq hk (by omega) (by omega) rfl fun s2 r2=>?_⟩⟩;simp only[Int.toNat_zero,List.drop_zero,Int.sub_zero]at r1;have e2:(L.drop k.toNat).take ((s.len:Int) - k).toNat=L.drop k.toNat:=List.take_of_length_le (by rw[List.length_drop];omega);rw[e2]at r2;generalize hA:L.take k.toNat=A at r1;generalize hB:L.drop k.toNat=B at r2;have Fm:∀q∈A,q.2.key.length<=65536/\q.2.val.length<=65536:=fun q hq=>hs q (by rw[<- hA]at hq;exact List.mem_of_mem_take hq)
 have Jo:∀q∈B,q.2.key.length<=65536/\q.2.val.length<=65536:=fun q hq=>hs q (by rw[<- hB]at hq;exact List.mem_of_mem_drop hq)
 have lA:A.length<=4096:=by rw[<- hA,List.length_take];omega
 have lB:B.length<=4096:=by rw[<- hB,List.length_drop];omega
 have lB0:0 < B.length:=by rw[<- hB,List.length_drop];omega
 have one:∀{s':Sl}{L':List (aL×aF)},(([(s',L')]:List (Sl×List (aL×aF))).map fun p=>ents p.2).flatten=ents L':=by intro s' L';simp
 -- behind the two nodes
 have tl:∀{wa w7:Wd}{sa sb:Sl}{La Lb:List (aL×aF)},Ext No w3 wa->Ext No wa w7->ic wa.heap w3.heap.size sa La->ents La=ents A->ic w7.heap wa.heap.size sb Lb->ents Lb=ents B->Fy b1 b2 (Ext (fun q=>q=b1∨q=b2) w3) kind lev sa kind lev sb K w7:=fun {wa w7 sa sb La Lb} xa xb na ea VQ eb=>by
  have zX:=xa.no xb;have SI:Lb.length=B.length:=by have:=congrArg List.length eb;simpa using this
  have Zl:(Lb[0]'(by omega)).2=(L[k.toNat]).2:=by
   have:=congrArg (fun l=>l[0]?) eb;simp only[List.getElem?_map]at this;rw[<- hB,List.getElem?_drop,List.getElem?_eq_getElem (by omega:0 < Lb.length),Nat.add_zero,List.getElem?_eq_getElem zS]at this;simpa using this
  refine Ps (base:=w3.heap.size) zX.aE (ad fN zX) (ad n3.get zX) rfl rfl (by omega) na xb VQ (by omega) (by omega) xa.size (by omega) (by rw[Zl];exact(hs _ (List.getElem_mem zS)).1) fun Lb' st w' f1 f2 f3 f4 f5=>kk sa La sb Lb' st w' (f1.mono (by omega)) (by rw[ea,<- hA];simp) (f2.mono (by omega)) (by rw[f3,eb,<- hB];simp) (by rw[<- Zl];exact bf.mono f4 (by omega)) ?_
  exact(ib.no zX).trans f5 fun q hq h=>by omega
 refine⟨af.mk fun b3 w4 n4=>⟨n4.ext.ar.aE,?_,?_⟩,af.mk fun b8 w4 n4=>⟨n4.ext.ar.aE,af.mk fun b9 w5 n5=>⟨(n4.ext.ar.no n5.ext).aE,?_⟩⟩⟩
 .have x4:Ext No w3 w4:=n4.ext.ar
  refine iE (Me n4 (r1.no x4)) (by simp) (by simpa using lA) (by simpa using Fm) fun sa La w5 na ea x5=>⟨(x4.no x5).aE,af.mk fun b4 w6 n6=>⟨((x4.no x5).no n6.ext).aE,?_⟩⟩
  rw[one]at ea;have x6:=(x4.no x5).no n6.ext
  refine iE (Me n6 (r2.no x6)) (by simp) (by simpa using lB) (by simpa using Jo) fun sb Lb w7 VQ eb x7=>⟨(x6.no x7).aE,?_⟩
  rw[one]at eb;exact tl (wa:=w6) x6 x7 ((na.no n6.ext).mono x4.size) ea VQ eb
 .have x4:Ext No w3 w4:=n4.ext.ar
  refine af.mk fun b6 w5 n5=>⟨(x4.no n5.ext).aE,?_⟩
  have x5:=x4.no n5.ext
  refine iE ((Me n4 (r1.no x4)).no n5.ext) (by simp) (by simpa using lA) (by simpa using Fm) fun sa La w6 na ea x6=>⟨(x5.no x6).aE,?_⟩
  rw[one]at ea
  refine iE ((Me n5 (r2.no x5)).no x6) (by simp) (by simpa using lB) (by simpa using Jo) fun sb Lb w7 VQ eb x7=>⟨((x5.no x6).no x7).aE,?_⟩
  rw[one]at eb;exact tl (wa:=w6) (x5.no x6) x7 (na.mono x5.size) ea VQ eb
 .have x4:Ext No w3 w4:=n4.ext.ar;have x5:=x4.no n5.ext
  refine iE (Me n5 (r1.no x5)) (by simp) (by simpa using lA) (by simpa using Fm) fun sa La w6 na ea x6=>⟨(x5.no x6).aE,?_⟩
  rw[one]at ea
  refine iE ((Me n4 (r2.no x4)).no (n5.ext.no x6)) (by simp) (by simpa using lB) (by simpa using Jo) fun sb Lb w7 VQ eb x7=>⟨((x5.no x6).no x7).aE,?_⟩
  rw[one]at eb;exact tl (wa:=w6) (x5.no x6) x7 (na.mono x5.size) ea VQ eb
end
end Go.Proofs.YtpjbalhhlaofmaaGreat
namespace Go.V
theorem aH.small{kind lev:Int}{l:List aF}(h:aH kind lev l):∀e∈l,e.key.length<=32/\e.val.length<=64:=fun e he=>by
 obtain⟨i,hi,rfl⟩:=List.getElem_of_mem he;obtain⟨h1,h2⟩:=h.h_ i hi;unfold lX at h1;constructor
 .split at h1 <;> omega
 .split at h2
  .omega
  .obtain⟨_,h2⟩:=h2;split at h2 <;> omega
theorem aH.JD{kind lev:Int}{L:List (aL×aF)}(h:aH kind lev (L.map Prod.snd)):∀q∈L,q.2.key.length<=65536/\q.2.val.length<=65536:=fun q hq=>by
 have:=h.small q.2 (List.mem_map.2 ⟨q,hq,rfl⟩);omega
theorem Pt(kind lev:Int)(l:List aF){j k:Nat}(h:j<=k):Pp kind lev l j<=Pp kind lev l k:=by
 unfold Pp;rw[eZ,eZ];have:=HE kind l h;omega
def DG(kind lev:Int)(l:List aF)(k b:Nat)(off:Int):Prop:=
 (b=0/\∀j,j < k->¬ jq kind lev l j)∨(jq kind lev l b/\off=Pq kind lev l b/\∀j,j < k->jq kind lev l j->Pq kind lev l b<=Pq kind lev l j)
theorem DG.skip{kind lev:Int}{l:List aF}{k b:Nat}{off:Int}(h:DG kind lev l k b off)(hn:¬ jq kind lev l k):DG kind lev l (k+1) b off:=by
 rcases h with⟨h1,h2⟩ | ⟨h1,h2,h3⟩
 .refine .inl ⟨h1,fun j hj=>?_⟩;rcases Nat.lt_or_ge j k with h | h
  .exact h2 j h
  .have:j=k:=by omega
   subst this;exact hn
 .refine .inr ⟨h1,h2,fun j hj hv=>?_⟩;rcases Nat.lt_or_ge j k with h | h
  .exact h3 j h hv
  .have:j=k:=by omega
   subst this;exact(hn hv).elim
theorem DG.end_{kind lev:Int}{l:List aF}{k b:Nat}{off:Int}(h:DG kind lev l k b off)(hn:∀j,k<=j->¬ jq kind lev l j)(hex:∃j,jq kind lev l j):b≠0/\xg kind lev l b:=by
 rcases h with⟨h1,h2⟩ | ⟨h1,h2,h3⟩
 .obtain⟨j,hj⟩:=hex;rcases Nat.lt_or_ge j k with h | h
  .exact(h2 j h hj).elim
  .exact(hn j h hj).elim
 .refine⟨by have:=h1.1;omega,h1,fun j hv=>?_⟩;rcases Nat.lt_or_ge j k with h | h
  .exact h3 j h hv
  .exact(hn j h hv).elim
end Go.V
namespace Go.Proofs.YtpjbalhhlaofmaaGreat
open Go.V
section
variable {w:Wd}
set_option maxHeartbeats 2000000 in
theorem Br{kind lev:Int}{s:Sl}{L:List (aL×aF)}{K:Int->Int->Sl->Int->Int->Sl->Sl->Int->Pw}(nd:ny w.heap s L)(hr:aH kind lev (ents L))(hl:L.length<=4096)(wZ:224 < (wr kind lev (ents L)).length)(hex:∃k,jq kind lev (ents L) k)
  (k0:∀(k:Nat) sa La sb Lb st w' (hk:k < (ents L).length),xg kind lev (ents L) k->ic w'.heap w.heap.size sa La->ents La=(ents L).take k->ic w'.heap w.heap.size sb Lb->ents Lb=kn kind ((ents L).drop k)->aK w'.heap w.heap.size st (ents L)[k].key->Ext No w w'->K kind lev sa kind lev sb st 0 w'):kC kind lev s w K:=by
 apply Cs;refine af.mk fun b w1 n1=>af.mk fun b1 w2 n2=>af.mk fun b2 w3 n3=>?_
 have hb:=n1.at_;have jk:=n2.at_;have jN:=n3.at_;have z1:=n1.size;have z2:=n2.size;have z3:=n3.size;have ib:Ext No w w3:=(n1.ext.no n2.ext).no n3.ext;have g3:qn w3.heap b kind lev s:=ad (ad n1.get n2.ext) n3.ext;have fN:=ad n2.get n3.ext;have DH:=n3.get;refine mY g3 (mo (nd.no ib) (by omega) (fun w4 _ x4=>If.bne (fun h=>(h rfl).elim) fun _=>If.dec (fun h=>by omega) fun _=>?_) (fun c w4 hn _ _=>(hn hr).elim));have hs:=hr.JD;have SI:(ents L).length=L.length:=by simp
 refine⟨fun Pu w'=>∃bN:Nat,Pu=bN/\bN≠0/\xg kind lev (ents L) bN/\Ext No w3 w',?_,?_⟩
 .refine⟨fun m Pu off k w'=>∃bN kN:Nat,Pu=bN/\k=kN/\1<=kN/\kN<=L.length/\m=L.length - kN/\DG kind lev (ents L) kN bN off/\Ext No w3 w',⟨L.length - 1,0,1,rfl,rfl,by omega,?_,rfl,.inl ⟨rfl,fun j hj hv=>by have:=hv.1;omega⟩,x4⟩,?_⟩
  .obtain⟨k,hk⟩:=hex;have:=hk.1;have:=hk.2.1;omega
  rintro _ m0 Pu off k w9 ⟨bN,kN,rfl,rfl,T8,zS,hm,DI,x9⟩;have nl:=nd.len;have g9:=ad g3 x9;have RD:=nd.no (ib.no x9);refine⟨s,Cell.ah g9 rfl,If.dec (fun h=>?_) fun h=>?_⟩
  .have acx:kN < L.length:=by omega
   refine mY g9 (DF RD (by omega) (by simpa using acx) hl hs fun sa La sb Lb st dV na ea nb eb _ dW=>af.mk fun b3 di nY=>af.mk fun b4 eN mN=>um (ad nY.get mN.ext) rfl fun cO acy ew JA=>um (ag mN.get ew (by have:=nY.size;have:=mN.at_;have:=nY.at_;omega)) rfl fun cM jH fI OR=>?_);have vB:=nY.at_;have Hm:=mN.at_;have ND:=nY.size;have OQ:=mN.size;have HF:=ag acy fI (by omega);have Zu:Ext No dV eN:=nY.ext.no mN.ext;have rM:Ext No dV cM:=(Zu.trans ew fun q hq h=>by omega).trans fI fun q hq h=>by omega
   have Zv:Ext No w3 cM:=(x9.no dW).no rM;rw[Int.toNat_natCast]at ea eb;have Pv:aH kind lev (ents La):=by rw[ea];exact hr.take T8
   have Jl:aH kind lev (ents Lb):=by rw[eb];exact hr.kn T8 (by omega)
   have hxa:(wr kind lev (ents La)).length=Pp kind lev (ents L) kN:=by rw[ea];rfl
   have hyb:(wr kind lev (ents Lb)).length=T9 kind lev (ents L) kN:=by rw[eb];rfl
   have lla:La.length<=4096:=by have:=congrArg List.length ea;simp only[List.length_map,List.length_take]at this;omega
   have llb:Lb.length<=4096:=by have:=congrArg List.length eb;rw[Bn]at this;simp only[List.length_map,List.length_drop]at this;omega
   refine mY HF (mo (na.no rM).nd (by omega) (fun dY _ sN=>?_) (fun c dY hn _ _=>(hn Pv).elim));rw[hxa];refine⟨fun w'=>w'=dY/\Pp kind lev (ents L) kN<=224,If.bne (fun h=>(h rfl).elim) fun _=>If.dec (fun h=>?_) fun h=>⟨rfl,by omega⟩,?_⟩
   .obtain⟨e1,e2⟩:=DI.end_ (fun j hj hv=>by have:=Pt kind lev (ents L) hj;have:=hv.2.2.1;omega) hex;exact⟨bN,rfl,e1,e2,Zv.no sN⟩
   rintro _ kE ⟨rfl,hx⟩;refine mY (ad jH sN) (mo ((nb.no rM).no sN).nd (by omega) (fun fR _ l_=>?_) (fun c dY hn _ _=>(hn Jl).elim));rw[hyb];have SL:=(Zv.no sN).no l_;refine⟨fun w'=>w'=fR/\T9 kind lev (ents L) kN<=224,If.bne (fun h=>(h rfl).elim) fun _=>If.dec (fun h=>?_) fun h=>⟨rfl,by omega⟩,?_⟩
   .exact Ar.i64 (by omega) ⟨L.length - (kN+1),by omega,bN,kN+1,rfl,by omega,by omega,by omega,rfl,DI.skip (fun hv=>by have:=hv.2.2.2;omega),SL⟩
   rintro _ vG ⟨rfl,hy⟩
   have hv:jq kind lev (ents L) kN:=⟨T8,by omega,hx,hy⟩
   refine Ar.i64 (by omega) (Ar.i64 (by omega) (Nm.mk (If.beq (fun h0=>Ar.i64 (by omega) ?_) fun h0=>If.dec (fun cF=>Ar.i64 (by omega) ?_) fun uI=>Ar.i64 (by omega) ?_)))
   .refine⟨L.length - (kN+1),by omega,kN,kN+1,rfl,by omega,by omega,by omega,rfl,.inr ⟨hv,rfl,fun j hj Ua=>?_⟩,SL⟩;rcases DI with⟨_,h2⟩ | ⟨h1,_⟩
    .rcases Nat.lt_or_ge j kN with h | h
     .exact(h2 j h Ua).elim
     .have:j=kN:=by omega
      subst this;exact Int.le_refl _
    .have:=h1.1;omega
   .rcases DI with⟨h1,h2⟩ | ⟨h1,h2,h3⟩
    .omega
    refine⟨L.length - (kN+1),by omega,kN,kN+1,rfl,by omega,by omega,by omega,rfl,.inr ⟨hv,rfl,fun j hj Ua=>?_⟩,SL⟩;rcases Nat.lt_or_ge j kN with h | h
    .have:=h3 j h Ua;rw[<- h2]at this;exact Int.le_trans (Int.le_of_lt cF) this
    .have:j=kN:=by omega
     subst this;exact Int.le_refl _
   .rcases DI with⟨h1,h2⟩ | ⟨h1,h2,h3⟩
    .omega
    refine⟨L.length - (kN+1),by omega,bN,kN+1,rfl,by omega,by omega,by omega,rfl,.inr ⟨h1,h2,fun j hj Ua=>?_⟩,SL⟩;rcases Nat.lt_or_ge j kN with h | h
    .exact h3 j h Ua
    .have:j=kN:=by omega
     subst this;rw[<- h2];exact Int.not_lt.1 uI
  .obtain⟨e1,e2⟩:=DI.end_ (fun j hj hv=>by have:=hv.2.1;omega) hex;exact⟨bN,rfl,e1,e2,x9⟩
 rintro _ Pu uK ⟨bN,rfl,hb0,KK,vQ⟩;refine If.beq (fun h=>by omega) fun _=>?_
 have cF:bN < L.length:=by have:=KK.v.2.1;omega
 refine mY (ad g3 vQ) (DF (nd.no (ib.no vQ)) (by omega) (by simpa using cF) hl hs fun sa La sb Lb st pf na ea nb eb SM Gd=>?_);have SN:=vQ.no Gd;refine um (ad fN SN) rfl fun rJ acz lH z23=>um (ag (ad DH SN) lH (by omega)) rfl fun te se qm z24=>VN (ag acz qm (by omega)) se (by omega) fun Bc sO z26=>?_
 have ae6:=SN.size;have VR:=vQ.size;have xf:Ext (fun q=>q=b1∨q=b2) pf Bc:=((lH.mono fun _ _ h=> .inl h).trans qm fun _ _ h=> .inr h).trans sO fun _ _ h=>h
 rw[Int.toNat_natCast]at ea eb;refine k0 bN sa La sb Lb st Bc (by omega) KK ((na.ext xf fun q h1 h2 h=>by omega).mono (by omega)) ea ((nb.ext xf fun q h1 h2 h=>by omega).mono (by omega)) eb ?_ ((ib.no SN).trans xf fun q h1 h=>by omega);have:(ents L)[bN]'(by omega)=L[bN].2:=by simp
 rw[this];exact(bf.mono (SM.ext xf fun q hq h=>by have:=(SM.lt hq).1;omega) (by omega))
theorem Px{kind lev:Int}{s:Sl}{L:List (aL×aF)}{K:Bool->Pw}(nd:ny w.heap s L)(hr:aH kind lev (ents L))(hl:L.length<=4096)(k:∀w',Ext No w w'->K (decide (3 * (wr kind lev (ents L)).length < 224)) w'):qN kind lev s w K:=by
 apply GR;refine af.mk fun b w1 n1=>mY n1.get (mo (nd.no n1.ext) (by omega) (fun w2 _ x2=>If.beq (fun _=>?_) fun h=>(h rfl).elim) fun c w2 hn _ _=>(hn hr).elim)
 have h1:=(hr.short (by omega:L.length<=65536))
 have h2:(wr kind lev (ents L)).length<=4096 * 4194304+3:=by
  have:=AQ (kind:=kind) h1 L.length;rw[List.take_of_length_le (by simp)]at this;have h3:L.length * 4194304<=4096 * 4194304:=Nat.mul_le_mul_right _ hl;unfold wr;simp only[List.length_append,List.length_cons,List.length_nil];omega
 refine Ar.i64 (by omega) ?_;have e:decide (3 * ((wr kind lev (ents L)).length:Int) < 224)=decide (3 * (wr kind lev (ents L)).length < 224):=by rw[decide_eq_decide];omega
 rw[e];exact k w2 (n1.ext.no x2)
end
end Go.Proofs.YtpjbalhhlaofmaaGreat
namespace Go.V
def hdK(k:List Int):List aF->List aF
 | []=>[]
 | e::l=>{ e with key:=k }::l
def dq(kind:Int)(la:List aF)(above:List Int)(lb:List aF):List aF:=la++(if kind=2 then hdK above lb else lb)
theorem SO(k:List Int)(l:List aF):(hdK k l).length=l.length:=by cases l <;> rfl
theorem xi(kind:Int)(la:List aF)(above:List Int)(lb:List aF):(dq kind la above lb).length=la.length+lb.length:=by
 unfold dq;split <;> simp[SO]
structure nA where
 sep:Sl
 key:List Int
 s:Sl
 L:List (aL×aF)
def gQ(kind lev:Int)(x:nA):List Value:=[.slice x.sep.a x.sep.len x.sep.cap,.int .u8 kind,.int .u8 lev,.slice x.s.a x.s.len x.s.cap]
structure cX(h:Array Obj)(B:Nat->Prop)(kind lev:Int)(sl:Sl)(ls:List nA):Prop where
 rd:Rd h sl 4 (ls.flatMap (gQ kind lev))
 nd:∀x∈ls,ki h B x.s x.L
 sep:∀x∈ls,Rd h x.sep 1 (x.key.map (Value.int .u8))/\B8 x.key/\∀b,x.sep.aj=some b->B b/\b < h.size
 sb:∀b,sl.aj=some b->B b/\b < h.size
theorem cX.ext{S B:Nat->Prop}{w w':Wd}{kind lev:Int}{sl:Sl}{ls:List nA}(r:cX w.heap B kind lev sl ls)(x:Ext S w w')(hS:∀b,B b->b < w.heap.size->¬ S b):cX w'.heap B kind lev sl ls:=
 ⟨r.rd.ext x fun a b ha hb=>have:=r.sb b (by simp[Sl.aj,ha,hb]);hS b this.1 this.2,fun y hy=>(r.nd y hy).ext x hS,
  fun y hy=>⟨(r.sep y hy).1.ext x fun a b ha hb=>have:=(r.sep y hy).2.2 b (by simp[Sl.aj,ha,hb]);hS b this.1 this.2,(r.sep y hy).2.1,fun b hb=>have:=(r.sep y hy).2.2 b hb;⟨this.1,Nat.lt_of_lt_of_le this.2 x.size⟩⟩,fun b hb=>have:=r.sb b hb;⟨this.1,Nat.lt_of_lt_of_le this.2 x.size⟩⟩
theorem cX.no{B:Nat->Prop}{w w':Wd}{kind lev:Int}{sl:Sl}{ls:List nA}(r:cX w.heap B kind lev sl ls)(x:Ext No w w'):cX w'.heap B kind lev sl ls:=r.ext x fun _ _ _ h=>h
theorem cX.mono{h:Array Obj}{B B':Nat->Prop}{kind lev:Int}{sl:Sl}{ls:List nA}(r:cX h B kind lev sl ls)(hB:∀b,b < h.size->B b->B' b):cX h B' kind lev sl ls:=
 ⟨r.rd,fun y hy=>(r.nd y hy).mono hB,fun y hy=>⟨(r.sep y hy).1,(r.sep y hy).2.1,fun b hb=>have:=(r.sep y hy).2.2 b hb;⟨hB b this.2 this.1,this.2⟩⟩,fun b hb=>have:=r.sb b hb;⟨hB b this.2 this.1,this.2⟩⟩
theorem dv(kind lev:Int)(ls:List nA):∀x∈ls,(gQ kind lev x).length=4:=fun _ _=>rfl
theorem cX.len{h:Array Obj}{B:Nat->Prop}{kind lev:Int}{sl:Sl}{ls:List nA}(r:cX h B kind lev sl ls):sl.len=ls.length:=by
 have:=r.rd.len;rw[aS (dv kind lev ls)]at this;omega
inductive gR (kind lev:Int):List aF->List (List Int×List aF)->Prop
 | nil:gR kind lev [] []
 | one {l:List aF} (bA:l≠[]) (hr:aH kind lev l) (hs:(wr kind lev l).length<=224):gR kind lev l [([],l)]
 | two {l:List aF} {k:Nat} (hr:aH kind lev l) (hb:224 < (wr kind lev l).length) (h:xg kind lev l k) (hk:k < l.length):gR kind lev l [([],l.take k),(l[k].key,kn kind (l.drop k))]
def bn(ls:List nA):List (List Int×List aF):=ls.map fun x=>(x.key,x.L.map Prod.snd)
end Go.V
namespace Go.Proofs.YtpjbalhhlaofmaaGreat
open Go.V
section
variable {w:Wd}
set_option maxHeartbeats 2000000 in
theorem HG{kind lev:Int}{sa sb ab:Sl}{La Lb:List (aL×aF)}{above:List Int}{K:Int->Int->Sl->Bool->Pw}(na:ny w.heap sa La)(nb:ny w.heap sb Lb)(Oq:b_ w.heap ab above)(h8:B8 above)(Pv:aH kind lev (ents La))(Jl:aH kind lev (ents Lb))(hla:La.length<=2000)(Ov:Lb.length<=2000)(hk:above.length<=65536)
  (hj:aH kind lev (dq kind (ents La) above (ents Lb))) (k:∀s L w',ic w'.heap w.heap.size s L->ents L=dq kind (ents La) above (ents Lb)->Ext No w w'->K kind lev s true w'):nj kind lev sa kind lev sb ab w K:=by
 apply GS;refine af.mk fun b w1 n1=>af.mk fun b1 w2 n2=>af.mk fun b2 w3 n3=>?_
 have hb:=n1.at_;have jk:=n2.at_;have jN:=n3.at_;have z1:=n1.size;have z2:=n2.size;have z3:=n3.size;have ib:Ext No w w3:=(n1.ext.no n2.ext).no n3.ext;have g3:qn w3.heap b kind lev sa:=ad (ad n1.get n2.ext) n3.ext;have fN:qn w3.heap b1 kind lev sb:=ad n2.get n3.ext;have DH:=n3.get;refine⟨fun w'=>Ext No w3 w',?_,?_⟩
 .refine mY g3 (jZ (na.no ib) (by omega) (fun w4 _ x4=>If.bne (fun h=>(h rfl).elim) fun _=>?_) fun c w4 hn _ _=>(hn Pv).elim);refine mY (ad fN x4) (jZ (nb.no (ib.no x4)) (by omega) (fun w6 _ x6=>If.bne (fun h=>(h rfl).elim) fun _=>?_) fun c w4 hn _ _=>(hn Jl).elim);have wq:=x4.no x6;exact⟨_,Cell.ah (ad g3 wq) rfl,_,Cell.ah (ad fN wq) rfl,If.bne (fun h=>(h rfl).elim) fun _=>⟨_,Cell.ah (ad g3 wq) rfl,_,Cell.ah (ad fN wq) rfl,If.bne (fun h=>(h rfl).elim) fun _=>wq⟩⟩
 intro _ dV dW;have nz:=ad g3 dW;have acA:=ad fN dW;have Py:=ib.no dW;refine⟨_,Cell.ah nz rfl,_,Cell.ah nz rfl,sa,Cell.ah nz rfl,sb,Cell.ah acA rfl,af.mk fun b3 di nY=>?_⟩;have sR:=Py.no nY.ext
 have lr:XL di.heap ⟨some ⟨b3,0,none⟩,2,2⟩ [(sa,La),(sb,Lb)]:=⟨(bf.new (n:=2) (sz:=1) (cs:=[sa.v,sb.v]) nY rfl (by simp[aJ,Sl.v])).rd,fun p hp=>by
  simp only[List.mem_cons,List.not_mem_nil,or_false]at hp;rcases hp with h | h <;> subst h
  .exact na.no sR
  .exact nb.no sR⟩
 have Oz:=dW.size
 refine iE lr (by simp) (by simp;omega) (by intro p hp;simp only[List.mem_cons,List.not_mem_nil,or_false]at hp;rcases hp with h | h <;> subst h;exact Pv.JD;exact Jl.JD) fun s L eN nL eL fJ=>af.mk fun b4 cO NI=>um NI.get rfl fun cM jH fI OR=>⟨_,Cell.ah jH rfl,?_⟩
 have Pz:ents L=ents La++ents Lb:=by rw[eL];simp
 have Hm:=NI.at_;have JA:=NI.size;have s12:=fJ.size;have ND:=nY.size;have rM:Ext No dV cM:=((nY.ext.no fJ).no NI.ext).trans fI fun q hq h=>by omega
 have Mf:=Py.no rM;have Ub:Ext (·=b4) eN cM:=NI.ext.aE.trans fI fun q _ h=>h
 have PA:ic cM.heap w.heap.size s L:=(nL.ext Ub fun q h1 h2 h=>by omega).mono (by have:=sR.size;omega);have PB:ic cM.heap di.heap.size s L:=nL.ext Ub fun q h1 h2 h=>by omega
 have sb:∀q,s.aj=some q->di.heap.size<=q/\q < cM.heap.size:=fun q hq=>PB.own.lt hq
 have lL:L.length=La.length+Lb.length:=by have:=congrArg List.length Pz;simpa using this
 have SI:(0:Int)<=(sa.len:Int):=by omega
 have nla:=na.len;refine If.beq (fun h2=>?_) fun h2=>?_
 .have hb0:0 < Lb.length:=by
   have:=Jl.some h2
   cases Lb with
   | nil=>exact(this rfl).elim
   | cons=>simp
  have acB:=ad nz rM
  have Sm:¬ (cM.heap.size<=b4∨s.aj=some b4):=fun h=>by
   rcases h with h | h
   .omega
   .have:=nL.own.lt h;omega
  have nb0:¬ (cM.heap.size<=b∨s.aj=some b):=fun h=>by
   rcases h with h | h
   .omega
   .have:=sb b h;omega
  refine⟨Ext (fun q=>cM.heap.size<=q∨s.aj=some q) cM,(Ext.refl _ _).drew,s,ae.dI (Cell.ah jH rfl) Sm,sa,ae.dI (Cell.ah acB rfl) nb0,af.mk fun b5 dY DJ=>⟨(DJ.ext.ar).aE,?_⟩⟩;have sN:Ext No cM dY:=DJ.ext.ar;have XI:dY.heap.size=cM.heap.size+1:=DJ.size;have LK:b5=cM.heap.size:=DJ.at_
  refine vA (w0:=cM) (Q:=fun q=>cM.heap.size<=q) sN.aE (fun i hi=>by simp[Sl.aj]at hi;omega) (fun i hi=>hi) (aK.new (w:=aa cM) (l:=[]) (n:=0) DJ rfl) (by show cM.heap.size<=_;omega) (Rd.no Oq (Mf.no sN)) (by simp;omega) fun st kE Ge q16 qC=>⟨qC.mono fun _ _ h=> .inl h,?_⟩
  have SP:ic kE.heap di.heap.size s L:=PB.ext qC fun q h1 h2 h=>by omega
  have Zw:aK kE.heap cM.heap.size st above:=by
   have:aK kE.heap cM.heap.size st ([]++above):=Ge;rw[List.nil_append]at this;exact this
  have VP:∀q,st.aj=some q->cM.heap.size<=q/\q < kE.heap.size:=fun q hq=>Zw.lt hq
  refine ki.key (key:=above) (B:=fun q=>di.heap.size<=q) (SP.q fun _ h _=>h) SI (by show sa.len < L.length;omega) Zw.rd h8 (fun q hq=>⟨by have:=VP q hq;omega,(VP q hq).2,fun h=>by have:=sb q h;have:=VP q hq;omega⟩) fun fR JE l_ z17=>?_
  have KL:sa.len < L.length:=by omega
  have eJ:ents (L.set sa.len (Fw st above L[sa.len]))=dq kind (ents La) above (ents Lb):=by
   rw[show ents (L.set sa.len (Fw st above L[sa.len]))=(ents L).set sa.len { L[sa.len].2 with key:=above } from List.map_set];have e2:(ents L)[sa.len]? = some L[sa.len].2:=by simp[KL]
   rw[Pz,List.getElem?_append_right (by simp;omega)]at e2;unfold dq;rw[Pz,if_pos h2,List.set_append_right _ _ (by simp;omega)];have e3:sa.len - (ents La).length=0:=by simp;omega
   rw[e3]at e2 ⊢
   cases hB:ents Lb with
   | nil=>rw[hB]at e2;simp at e2
   | cons e l=>rw[hB]at e2;simp only[List.getElem?_cons_zero,Option.some.injEq]at e2;rw[<- e2];rfl
  have wV:L.set ((sa.len:Nat):Int).toNat (Fw st above (L[((sa.len:Nat):Int).toNat]'KL))=L.set sa.len (Fw st above L[sa.len]):=rfl;rw[wV]at JE;have rN:Ext (fun q=>cM.heap.size<=q∨s.aj=some q) cM fR:=(qC.mono fun _ _ h=> .inl h).trans l_ fun _ _ h=> .inr h
  have fc:=ag jH rN Sm;have acC:(L.set sa.len (Fw st above L[sa.len])).length<=4294967296:=by rw[List.length_set];omega
  have XJ:¬ (cM.heap.size<=b2∨s.aj=some b2):=fun h=>by
   rcases h with h | h
   .omega
   .have:=sb b2 h;omega
  refine⟨Ext (·=b2) fR,(Ext.refl _ _).drew,hd3 (k:=kind) fc (by omega) (hd3 fc (by omega) (jZ (w:=aa fR) JE.nd acC (fun vG _ tf=>⟨tf.ar.aE,um (ad (ag (ad (ad DH dW) rM) rN XJ) tf.ar) rfl fun uK g19 vQ z19=>⟨tf.ar.aE.trans vQ fun _ _ h=>h,mY g19 ?_⟩⟩) (fun c oc hn _ _=>(hn (by rw[eJ];exact hj)).elim)))⟩;refine k s _ uK (((JE.o.no tf.ar).ext vQ fun q h1 h2 h=>by omega).mono (by have:=sR.size;omega)) eJ ?_;refine(((Mf.trans rN fun q hq h=>?_).no tf.ar).trans vQ fun q hq h=>by omega);have:=Mf.size;have:=sR.size;rcases h with h | h
  .omega
  .have:=sb q h;omega
 .have eJ:ents L=dq kind (ents La) above (ents Lb):=by unfold dq;rw[if_neg h2];exact Pz
  refine⟨Ext (·=b2) cM,(Ext.refl _ _).drew,hd3 (k:=kind) jH (by omega) (hd3 jH (by omega) (jZ (w:=aa cM) PA.nd (by omega) (fun oc _ rL=>⟨rL.ar.aE,um (ad (ad DH dW) (rM.no rL.ar)) rfl fun uL PC NJ z21=>⟨rL.ar.aE.trans NJ fun _ _ h=>h,mY PC ?_⟩⟩) (fun c oc hn _ _=>(hn (by rw[eJ];exact hj)).elim)))⟩;exact k s L uL (((PB.no rL.ar).ext NJ fun q h1 h2 h=>by omega).mono (by have:=sR.size;omega)) eJ ((Mf.no rL.ar).trans NJ fun q hq h=>by omega)
end
end Go.Proofs.YtpjbalhhlaofmaaGreat
namespace Go.V
abbrev aN(lev:Nat):Int:=if lev=0 then 1 else 2
theorem kW(x:List Int):¬ bM x []:=by
 intro h;unfold bM at h;cases x <;> simp[hZ]at h
theorem bM.ne_nil{x y:List Int}(h:bM x y):y≠[]:=fun e=>kW x (e ▸ h)
theorem bM.of_le{a b c:List Int}(h:¬ bM b a)(k:bM b c):bM a c:=by
 rcases bM.total a b with h' | h' | h'
 .exact h'.trans k
 .exact h' ▸ k
 .exact(h h').elim
theorem bM.KM{a b c:List Int}(h:bM a b)(k:¬ bM c b):bM a c:=by
 rcases bM.total b c with h' | h' | h'
 .exact h.trans h'
 .exact h' ▸ h
 .exact(k h').elim
abbrev jM(l:List aF):Prop:=l.Pairwise fun a b=>bM a.key b.key
theorem e_{l:List aF}:xe l ↔ jM l:=by
 unfold jM;rw[List.pairwise_iff_getElem];exact⟨fun h i j hi hj Fp=>h.lt Fp hj,fun h i hi=>h i (i+1) (by omega) hi (by omega)⟩
structure vT(l:List aF):Prop where
 h_:∀e∈l,e.cd ≠ .z/\e.ch = .z/\e.val.length=0/\e.n=0/\e.key.length<=32
 vU:jM l
 hd:∀e l',l=e::l'->e.key=[]
theorem aH.DK{lev:Int}{l:List aF}(h:aH 2 lev l):vT l:=by
 refine⟨fun e he=>?_,e_.1 h.ord,fun e l' hl=>?_⟩
 .obtain⟨i,hi,rfl⟩:=List.getElem_of_mem he;have h2:=(h.h_ i hi).2;have h3:=h.small _ he;rw[if_pos rfl]at h2;exact⟨h2.1,h2.2.1,h2.2.2.1,h2.2.2.2,h3.1⟩
 .subst hl;have:=(h.h_ 0 (by simp)).1;unfold lX at this;rw[if_pos ⟨rfl,rfl⟩]at this;exact List.eq_nil_of_length_eq_zero (by simpa using this)
theorem vT.right{lev:Int}{l:List aF}(h:vT l)(bA:l≠[])(hl:1<=lev/\lev<=30):aH 2 lev l:=by
 refine⟨.inr ⟨rfl,hl⟩,fun _=>bA,fun i hi=>⟨?_,?_⟩,e_.2 h.vU⟩
 .unfold lX
  cases i with
  | zero=>
   rw[if_pos ⟨rfl,rfl⟩]
   cases l with
   | nil=>simp at hi
   | cons e l=>have:=h.hd e l rfl;simp[this]
  | succ i=>
   rw[if_neg (by omega)];have h1:=(e_.2 h.vU) i hi;have h2:=(h.h_ _ (List.getElem_mem hi)).2.2.2.2;have h3:=List.length_pos_iff.2 h1.ne_nil;omega
 .rw[if_pos rfl];have:=h.h_ _ (List.getElem_mem hi);exact⟨this.1,this.2.1,this.2.2.1,this.2.2.2.1⟩
structure uo(l:List aF):Prop where
 h_:∀e∈l,nR 1 0 e
 vU:jM l
theorem aH.lef{lev:Int}{l:List aF}(h:aH 1 lev l):uo l:=by
 refine⟨fun e he=>?_,e_.1 h.ord⟩;obtain⟨i,hi,rfl⟩:=List.getElem_of_mem he;exact vP (h.h_ i hi) fun h=>absurd h (by decide)
theorem uo.right{l:List aF}(h:uo l):aH 1 0 l:=
 ⟨.inl ⟨rfl,rfl⟩,fun h=>absurd h (by decide),fun _ hi=>vP (h.h_ _ (List.getElem_mem hi)) (fun h=>absurd h (by decide)),e_.2 h.vU⟩
section
variable {f:bR} {t:Int}
theorem cG.append{a b:List aF}{ka kb:List KV}{pa pb:List Rf}(h:cG f t a ka pa)(k:cG f t b kb pb):cG f t (a++b) (ka++kb) (pa++pb):=by
 induction h with
 | nil=>exact k
 | cons h r ih=>simp only[List.cons_append,List.append_assoc];exact .cons h ih
theorem cG.split{b:List aF}:∀{a:List aF}{kvs:List KV}{ps:List Rf},cG f t (a++b) kvs ps->∃ka kb pa pb,cG f t a ka pa/\cG f t b kb pb/\kvs=ka++kb/\ps=pa++pb
 | [],kvs,ps,h=>⟨[],kvs,[],ps,.nil,h,rfl,rfl⟩
 | e::a,_,_,.cons h r=>by
  obtain⟨ka,kb,pa,pb,h1,h2,rfl,rfl⟩:=cG.split (a:=a) r;exact⟨_,kb,_,pb,.cons h h1,h2,rfl,by rw[List.append_assoc]⟩
theorem cG.keys{l:List aF}{kvs:List KV}{ps:List Rf}(h:cG f t l kvs ps):kvs.map Prod.fst=l.map aF.key:=by
 induction h with
 | nil=>rfl
 | cons h r ih=>simp only[List.map_cons,ih,h.1]
theorem cG.mem{l:List aF}{kvs:List KV}{ps:List Rf}(h:cG f t l kvs ps){x:KV}(hx:x∈kvs):∃e∈l,e.key=x.1:=by
 have:x.1∈l.map aF.key:=h.keys ▸ List.mem_map.2 ⟨x,hx,rfl⟩;obtain⟨e,he,hk⟩:=List.mem_map.1 this;exact⟨e,he,hk⟩
theorem cG.Zx{l:List aF}{kvs:List KV}{ps:List Rf}(h:cG f t l kvs ps){e:aF}(he:e∈l):∃x∈kvs,e.key=x.1:=by
 have:e.key∈kvs.map Prod.fst:=h.keys ▸ List.mem_map.2 ⟨e,he,rfl⟩;obtain⟨x,hx,hk⟩:=List.mem_map.1 this;exact⟨x,hx,hk.symm⟩
variable {Q:Rf->List KV->List Rf->Prop}
theorem aM.append{a b:List aF}{ka kb:List KV}{pa pb:List Rf}(h:aM Q a ka pa)(k:aM Q b kb pb):(∀e b',b=e::b'->∀x∈ka,bM x.1 e.key)->aM Q (a++b) (ka++kb) (pa++pb):=by
 induction h with
 | nil=>intro _;exact k
 | @cons e l kv kvs p ps h lo hi r ih=>
  intro hb;simp only[List.cons_append,List.append_assoc];refine .cons h lo (fun e' l' hl x hx=>?_) (ih fun e' b' he x hx=>hb e' b' he x (List.mem_append_right _ hx))
  cases l with
  | nil=>
   cases r
   exact hb e' l' hl x (List.mem_append_left _ hx)
  | cons e2 l2=>
   simp only[List.cons_append,List.cons.injEq]at hl;exact hl.1 ▸ hi e2 l2 rfl x hx
theorem aM.split{b:List aF}:∀{a:List aF}{kvs:List KV}{ps:List Rf},aM Q (a++b) kvs ps->jM (a++b)->∃ka kb pa pb,aM Q a ka pa/\aM Q b kb pb/\kvs=ka++kb/\ps=pa++pb/\(∀e∈b,∀x∈ka,bM x.1 e.key)
 | [],kvs,ps,h,_=>⟨[],kvs,[],ps,.nil,h,rfl,rfl,by simp⟩
 | e::a,_,_,.cons h lo hi r,hr=>by
  simp only[List.cons_append,List.pairwise_cons]at hr;obtain⟨ka,kb,pa,pb,h1,h2,rfl,rfl,h3⟩:=aM.split (a:=a) r hr.2;refine⟨_,kb,_,pb,.cons h lo (fun e' l' hl x hx=>hi e' (l'++b) (by rw[hl];rfl) x hx) h1,h2,by rw[List.append_assoc],by rw[List.append_assoc],fun e' he x hx=>?_⟩;rcases List.mem_append.1 hx with hx | hx
  .cases hc:a++b with
   | nil=>rw[List.append_eq_nil_iff]at hc;rw[hc.2]at he;cases he
   | cons e2 l2=>
    have h4:=hi e2 l2 hc x hx;have:e'∈e2::l2:=hc ▸ List.mem_append_right _ he;rw[hc,List.pairwise_cons]at hr;rcases List.mem_cons.1 this with h5 | h5
    .rw[h5];exact h4
    .exact h4.trans (hr.2.1 e' h5)
  .exact h3 e' he x hx
theorem aM.head{e:aF}{l:List aF}{kvs:List KV}{ps:List Rf}{k:List Int}(h:aM Q (e::l) kvs ps)(hk:∀x∈kvs,¬ bM x.1 k):aM Q ({ e with key:=k }::l) kvs ps:=by
 cases h with
 | cons h lo hi r=>exact .cons h (fun x hx=>hk x (List.mem_append_left _ hx)) hi r
theorem aM.iF{l:List aF}{kvs:List KV}{ps:List Rf}(h:aM Q l kvs ps):aM Q (iF l) kvs ps:=by
 cases l with
 | nil=>exact h
 | cons e l=>exact h.head fun x _=>kW _
theorem aM.some{l:List aF}{kvs:List KV}{ps:List Rf}(hQ:∀r kv p,Q r kv p->kv≠[])(h:aM Q l kvs ps):∀e∈l,∃x∈kvs,¬ bM x.1 e.key:=by
 induction h with
 | nil=>intro e he;cases he
 | @cons e l kv kvs p ps h lo hi r ih=>
  intro e' he;rcases List.mem_cons.1 he with h' | h'
  .subst h';obtain⟨x,hx⟩:=List.exists_mem_of_ne_nil _ (hQ _ _ _ h);exact⟨x,List.mem_append_left _ hx,lo x hx⟩
  .obtain⟨x,hx,hh⟩:=ih e' h';exact⟨x,List.mem_append_right _ hx,hh⟩
def Body(f:bR)(t:Int):Nat->List aF->List KV->List Rf->Prop
 | 0=>cG f t
 | lev+1=>aM (bq f t lev)
def qD(l:List aF):Prop:=∀e∈l,(e.ch.ok/\e.cd.ok)/\B8 e.key/\B8 e.val
theorem bq.open_{lev:Nat}{r:Rf}{kvs:List KV}{ps:List Rf}(h:bq f t lev r kvs ps):∃l dG,kg f t (aN lev) lev r l/\l≠[]/\(0 < lev->2<=l.length)/\Body f t lev l kvs dG/\ps=r::dG:=by
 cases lev with
 | zero=>obtain⟨l,dG,a,b,c,d⟩:=h;exact⟨l,dG,a,b,fun h=>by omega,c,d⟩
 | succ lev=>
  obtain⟨l,dG,a,b,c,d⟩:=h;exact⟨l,dG,a,by intro h;rw[h]at b;simp at b,fun _=>b,c,d⟩
theorem bq.shut{lev:Nat}{r:Rf}{l:List aF}{kvs:List KV}{ps:List Rf}(a:kg f t (aN lev) lev r l)(b:l≠[])(c:0 < lev->2<=l.length)(d:Body f t lev l kvs ps):bq f t lev r kvs (r::ps):=by
 cases lev with
 | zero=>exact⟨l,ps,a,b,d,rfl⟩
 | succ lev=>exact⟨l,ps,a,c (by omega),d,rfl⟩
theorem Body.ne:∀{lev:Nat}{l:List aF}{kvs:List KV}{ps:List Rf},Body f t lev l kvs ps->l≠[]->kvs≠[]
 | 0,l,kvs,ps,h,bA=>fun e=>bA (by have:=cG.keys h;rw[e]at this;simpa using this.symm)
 | lev+1,l,kvs,ps,h,bA=>fun e=>by
  obtain⟨x,hx⟩:=List.exists_mem_of_ne_nil _ bA;obtain⟨y,hy,_⟩:=aM.some (fun r kv p h=>by obtain⟨l',_,_,h2,_,h3,_⟩:=h.open_;exact Body.ne h3 h2) h x hx;rw[e]at hy;cases hy
theorem bq.ne{lev:Nat}{r:Rf}{kvs:List KV}{ps:List Rf}(h:bq f t lev r kvs ps):kvs≠[]:=by
 obtain⟨l',_,_,h2,_,h3,_⟩:=h.open_;exact Body.ne h3 h2
theorem Body.cv{f':bR}{lev:Nat}{l:List aF}{kvs:List KV}{ps:List Rf}(h:Body f t lev l kvs ps)(hk:iS f f' ps):Body f' t lev l kvs ps:=by
 cases lev with
 | zero=>exact cG.cv h hk
 | succ lev=>exact aM.cv (R:=fun p=>iS f f' p) (fun h=>⟨h.sub fun _ h=>List.mem_append_left _ h,h.sub fun _ h=>List.mem_append_right _ h⟩) (fun h hk=>bq.cv h hk) h hk
structure uq(f:bR)(t:Int)(lev:Nat)(l:List aF)(kvs:List KV)(ps:List Rf):Prop where
 right:aH (aN lev) lev l
 short:(wr (aN lev) lev l).length<=224
 ok:qD l
 body:Body f t lev l kvs ps
 ne:l≠[]
theorem uq.cv{f':bR}{lev:Nat}{l:List aF}{kvs:List KV}{ps:List Rf}(h:uq f t lev l kvs ps)(hk:iS f f' ps):uq f' t lev l kvs ps:=⟨h.right,h.short,h.ok,h.body.cv hk,h.ne⟩
inductive jr (f:bR) (t:Int) (lev:Nat):List (List Int×List aF)->List KV->List Rf->Prop
 | nil:jr f t lev [] [] []
 | one {l:List aF} {kvs:List KV} {ps:List Rf} (h:uq f t lev l kvs ps):jr f t lev [([],l)] kvs ps
 | two {l1 l2:List aF} {k1 k2:List KV} {p1 p2:List Rf} {sep:List Int} (h1:uq f t lev l1 k1 p1) (h2:uq f t lev l2 k2 p2) (s1:1<=sep.length) (s2:sep.length<=32) (s8:B8 sep) (lo:∀x∈k1,bM x.1 sep) (hi:∀x∈k2,¬ bM x.1 sep)
   (n1:0 < lev->2<=l1.length) (n2:0 < lev->2<=l2.length):jr f t lev [([],l1),(sep,l2)] (k1++k2) (p1++p2)
end
theorem JF{kind i:Int}{e:aF}(h:nR kind i e):(wrE kind e).length<=99:=by
 obtain⟨h1,h2⟩:=h;have hk:e.key.length<=32:=by unfold lX at h1;split at h1 <;> omega
 unfold wrE;simp only[List.length_append,List.length_cons];split
 .rw[eX];omega
 .rename_i CJ;rw[if_neg CJ]at h2;obtain⟨_,h2⟩:=h2;split
  .simp[eX];omega
  .rw[if_pos (by split at h2 <;> omega)]at h2;simp;omega
theorem nC{e:aF}:(wrE 2 e).length=15+e.key.length:=by
 unfold wrE;rw[if_pos rfl];simp only[List.length_append,List.length_cons,eX];omega
theorem sf(kind:Int)(l:List aF)(k:Nat):szL kind l=szL kind (l.take k)+szL kind (l.drop k):=by
 conv=>lhs;rw[<- List.take_append_drop k l]
 exact du _ _ _
theorem HH(kind:Int){l:List aF}{k:Nat}(h:k < l.length):szL kind (l.take (k+1))=szL kind (l.take k)+(wrE kind l[k]).length:=by
 rw[List.take_add_one,List.getElem?_eq_getElem h,du];simp[szL]
theorem HI(kind:Int){l:List aF}{k:Nat}(h:k < l.length):szL kind (kn kind (l.drop k))+(if kind=2 then l[k].key.length else 0)=szL kind (l.drop k):=by
 rw[List.drop_eq_getElem_cons h];unfold kn;split
 .simp only[iF,dh];have:=Fx kind l[k] [];simp only[List.length_nil]at this;omega
 .omega
theorem Uc{P:Nat->Nat}{c:Nat}:∀{n:Nat},P 0<=c->c < P n->∃k,k < n/\P k<=c/\c < P (k+1)
 | 0,h0,h1=>by omega
 | n+1,h0,h1=>by
  rcases Nat.lt_or_ge c (P n) with h | h
  .obtain⟨k,a,b⟩:=Uc h0 h;exact⟨k,by omega,b⟩
  .exact⟨n,by omega,h,h1⟩
theorem Bs{kind lev:Int}{l:List aF}(hr:aH kind lev l)(h1:224 < (wr kind lev l).length)(h2:(wr kind lev l).length<=347):∃k,jq kind lev l k:=by
 rw[eZ]at h1 h2;obtain⟨k,hk,a,b⟩:=Uc (P:=fun k=>szL kind (l.take k)) (c:=221) (n:=l.length) (by simp[szL]) (by simp only[List.take_length];omega);have hs:=HH kind hk;have he:=JF (hr.h_ k hk);have hc:=HI kind hk;have KK:=sf kind l k;have a:szL kind (l.take k)<=221:=a;have b:221 < szL kind (l.take (k+1)):=b
 have Zl:k≠0:=by
  intro h;subst h;rw[List.take_zero,pT]at hs;omega
 refine⟨k,by omega,hk,?_,?_⟩
 .unfold Pp;rw[eZ];omega
 .unfold T9;rw[eZ];omega
theorem DL{lev:Int}{l:List aF}{k:Nat}(hr:aH 2 lev l)(hb:224 < (wr 2 lev l).length)(h:xg 2 lev l k):2<=k/\k+2<=l.length:=by
 have hi:=hr.DK;rw[eZ]at hb;have zS:∀j (hj:j < l.length),l[j].key.length<=32:=fun j hj=>(hi.h_ _ (List.getElem_mem hj)).2.2.2.2
 have hx:∀j,Pp 2 lev l j=3+szL 2 (l.take j):=fun j=>by unfold Pp;rw[eZ]
 have hy:∀j (hj:j < l.length),T9 2 lev l j+l[j].key.length=3+szL 2 (l.drop j):=fun j hj=>by
  unfold T9;rw[eZ];have:=HI 2 hj;rw[if_pos rfl]at this;omega
 have qX:∀j (hj:j < l.length),szL 2 (l.take (j+1))=szL 2 (l.take j)+(15+l[j].key.length):=fun j hj=>by rw[HH 2 hj,nC]
 have KK:=sf 2 l;obtain⟨v1,v2,v3,v4⟩:=h.v;have ur:=h.min;have t0:szL 2 (l.take 0)=0:=by simp[szL]
 have k0:l[0].key.length=0:=by
  cases l with
  | nil=>simp at v2
  | cons e l=>have:=hi.hd e l rfl;simp[this]
 have tn:szL 2 (l.take l.length)=szL 2 l:=by rw[List.take_length]
 constructor
 .refine Classical.byContradiction fun hc=>?_
  have hk:k=1:=by omega
  subst hk;have s0:szL 2 (l.take 1)=szL 2 (l.take 0)+(15+l[0].key.length):=qX 0 (by omega)
  have KN:2 < l.length:=by
   refine Classical.byContradiction fun hc=>?_
   have e:l.length=2:=by omega
   have s1:szL 2 (l.take 2)=szL 2 (l.take 1)+(15+l[1].key.length):=qX 1 (by omega);have:=zS 1 (by omega);rw[List.take_of_length_le (by omega)]at s1;omega
  have s1:szL 2 (l.take 2)=szL 2 (l.take 1)+(15+l[1].key.length):=qX 1 (by omega);have y1:=hy 1 (by omega);have y2:=hy 2 KN;have x1:=hx 1;have x2:=hx 2;have p1:=KK 1;have p2:=KK 2;have q1:=zS 1 (by omega);have q2:=zS 2 KN;have:=ur 2 ⟨by omega,KN,by omega,by omega⟩;unfold Pq gV at this;split at this <;> split at this <;> omega
 .refine Classical.byContradiction fun hc=>?_
  have hk:k+1=l.length:=by omega
  have sk:=qX k v2;rw[hk,tn]at sk;have qk:=zS k v2;have yk:=hy k v2;have pk:=KK k;have xk:=hx k
  have T8:k≠1:=by
   intro e;subst e;have s0:szL 2 (l.take 1)=szL 2 (l.take 0)+(15+l[0].key.length):=qX 0 (by omega);omega
  have s':=qX (k - 1) (by omega);rw[show k - 1+1=k by omega]at s';have q':=zS (k - 1) (by omega);have y':=hy (k - 1) (by omega);have x':=hx (k - 1);have p':=KK (k - 1);have:=ur (k - 1) ⟨by omega,by omega,by omega,by omega⟩;unfold Pq gV at this;split at this <;> split at this <;> omega
section
variable {f:bR} {t:Int}
theorem fa{a b:List aF}:jM (a++b) ↔ jM a/\jM b/\∀x∈a,∀y∈b,bM x.key y.key:=List.pairwise_append
theorem qD.take{l:List aF}{k:Nat}(h:qD l):qD (l.take k):=fun e he=>h e (List.mem_of_mem_take he)
theorem qD.iF{l:List aF}(h:qD l):qD (iF l):=fun e he=>by
 cases l with
 | nil=>cases he
 | cons e' l=>
  rcases List.mem_cons.1 he with h' | h'
  .subst h';have:=h e' (by simp);exact⟨this.1,B8.nil,this.2.2⟩
  .exact h e (List.mem_cons_of_mem _ h')
theorem qD.kn{kind:Int}{l:List aF}(h:qD l):qD (kn kind l):=by
 unfold Go.V.kn;split;exact h.iF;exact h
theorem qD.append{a b:List aF}(h:qD a)(k:qD b):qD (a++b):=fun e he=>(List.mem_append.1 he).elim (h e) (k e)
theorem gR.KO{lev:Nat}{l:List aF}{kvs:List KV}{ps:List Rf}{ls:List (List Int×List aF)}(p:gR (aN lev) lev l ls)(ok:qD l)(b:Body f t lev l kvs ps):jr f t lev ls kvs ps:=by
 cases p with
 | nil=>cases lev with
  | zero=>cases b;exact .nil
  | succ=>cases b;exact .nil
 | one bA hr hs=>exact .one ⟨hr,hs,ok,b,bA⟩
 | @two l k hr hb h hk=>
  have h1:=h.v.1;have cN:l[k]∈l:=List.getElem_mem hk;have n1:(l.take k).length=k:=by rw[List.length_take];omega
  have n2:(kn (aN lev) (l.drop k)).length=l.length - k:=by rw[Bn,List.length_drop]
  have e:l=l.take k++l.drop k:=(List.take_append_drop k l).symm;have mQ:jM (l.take k++l.drop k):=e ▸ e_.1 hr.ord;have ne1:l.take k≠[]:=by intro h;rw[h]at n1;simp at n1;omega
  have ne2:kn (aN lev) (l.drop k)≠[]:=by intro h;rw[h]at n2;simp at n2;omega
  have jm:1<=l[k].key.length/\l[k].key.length<=32:=by
   have:=(hr.h_ k hk).1;unfold lX at this;rw[if_neg (by omega)]at this;omega
  have two:0 < lev->2<=k/\k+2<=l.length:=fun h0=>by
   have e2:aN lev=2:=if_neg (by omega);rw[e2]at hr hb h;exact DL hr hb h
  rw[e]at b;have VS:l.drop k=l[k]::l.drop (k+1):=List.drop_eq_getElem_cons hk
  cases lev with
  | zero=>
   obtain⟨ka,kb,pa,pb,b1,b2,rfl,rfl⟩:=cG.split b;have mQ:=fa.1 mQ;refine .two ⟨hr.take h1,h.v.2.2.1,ok.take,b1,ne1⟩ ⟨hr.kn h1 hk,h.v.2.2.2,qD.kn fun e he=>ok e (List.mem_of_mem_drop he),b2,ne2⟩ jm.1 jm.2 (ok _ cN).2.1 (fun x hx=>?_) (fun x hx=>?_) (fun h=>by omega) fun h=>by omega
   .obtain⟨e',he,Ud⟩:=b1.mem hx;rw[<- Ud];exact mQ.2.2 e' he _ (by rw[VS];exact List.mem_cons_self)
   .obtain⟨e',he,Ud⟩:=b2.mem hx;rw[<- Ud];rw[VS]at he mQ;rcases List.mem_cons.1 he with h' | h'
    .rw[h'];exact fun h=>h.irrefl
    .have:=(List.pairwise_cons.1 mQ.2.1).1 e' h';exact fun h=>(this.trans h).irrefl
  | succ lev=>
   obtain⟨ka,kb,pa,pb,b1,b2,rfl,rfl,b3⟩:=aM.split b mQ;have b2':aM (bq f t lev) (kn 2 (l.drop k)) kb pb:=by unfold kn;rw[if_pos rfl];exact b2.iF
   refine .two ⟨hr.take h1,h.v.2.2.1,ok.take,b1,ne1⟩ ⟨hr.kn h1 hk,h.v.2.2.2,qD.kn fun e he=>ok e (List.mem_of_mem_drop he),b2',ne2⟩ jm.1 jm.2 (ok _ cN).2.1 (fun x hx=>b3 _ (by rw[VS];exact List.mem_cons_self) x hx) (fun x hx=>?_) (fun h=>by have:=two h;omega) fun h=>by have:=two h;omega
   have mQ:=fa.1 mQ;exact vK b2 (e_.2 mQ.2.1) _ _ VS x hx
theorem Mg{lev:Nat}{la lb:List aF}{above:List Int}{ka kb:List KV}{pa pb:List Rf}(Pv:aH (aN lev) lev la)(Jl:aH (aN lev) lev lb)(oa:qD la)(ob:qD lb)(a8:B8 above)(al:above.length<=32)(ba:Body f t lev la ka pa)(bb:Body f t lev lb kb pb)
  (lo:∀x∈ka,bM x.1 above) (hi:∀x∈kb,¬ bM x.1 above):aH (aN lev) lev (dq (aN lev) la above lb)/\qD (dq (aN lev) la above lb)/\Body f t lev (dq (aN lev) la above lb) (ka++kb) (pa++pb):=by
 cases lev with
 | zero=>
  have e:dq (aN 0) la above lb=la++lb:=by unfold dq;rw[if_neg (by decide)]
  rw[e];refine⟨?_,oa.append ob,cG.append ba bb⟩;have l1:=Pv.lef;have l2:=Jl.lef;refine uo.right ⟨fun e he=>(List.mem_append.1 he).elim (l1.h_ e) (l2.h_ e),List.pairwise_append.2 ⟨l1.vU,l2.vU,fun x hx y hy=>?_⟩⟩;obtain⟨u,hu,eu⟩:=cG.Zx ba hx;obtain⟨v,hv,ev⟩:=cG.Zx bb hy;rw[eu,ev];exact(lo u hu).KM (hi v hv)
 | succ lev=>
  have e:dq (aN (lev+1)) la above lb=la++hdK above lb:=by unfold dq;rw[if_pos (show aN (lev+1)=2 from if_neg (by omega))]
  have VT:aH 2 ((lev+1:Nat):Int) la:=Pv;have Zy:aH 2 ((lev+1:Nat):Int) lb:=Jl;have sh:=VT.shape;unfold iB at sh;have l1:=VT.DK;have l2:=Zy.DK;have nea:=VT.some rfl;have neb:=Zy.some rfl;have hQ:∀r kv p,bq f t lev r kv p->kv≠[]:=fun _ _ _ h=>h.ne
  have ltA:∀x∈la,bM x.key above:=fun x hx=>by
   obtain⟨u,hu,h⟩:=aM.some hQ ba x hx;exact bM.of_le h (lo u hu)
  rw[e]
  cases Ov:lb with
  | nil=>exact(neb Ov).elim
  | cons e0 lb' =>
   subst Ov;have l2r:=List.pairwise_cons.1 l2.vU;have Y6:=l2.hd e0 lb' rfl
   have geB:∀y∈lb',bM above y.key:=fun y hy=>by
    cases bb with
    | @cons _ _ kv kvs p ps h blo bhi r=>
     obtain⟨u,hu⟩:=List.exists_mem_of_ne_nil _ (hQ _ _ _ h)
     have h1:bM u.1 y.key:=by
      cases lb' with
      | nil=>cases hy
      | cons e2 l3=>
       have h2:=bhi e2 l3 rfl u hu;rcases List.mem_cons.1 hy with h3 | h3
       .rw[h3];exact h2
       .exact h2.trans ((List.pairwise_cons.1 l2r.2).1 y h3)
     exact bM.of_le (hi u (List.mem_append_left _ hu)) h1
   have DK:vT (la++hdK above (e0::lb')):=by
    refine⟨fun x hx=>?_,List.pairwise_append.2 ⟨l1.vU,List.pairwise_cons.2 ⟨geB,l2r.2⟩,fun x hx y hy=>?_⟩,fun x l' hl=>?_⟩
    .rcases List.mem_append.1 hx with h | h
     .exact l1.h_ x h
     .rcases List.mem_cons.1 h with h' | h'
      .subst h';have:=l2.h_ e0 (by simp);exact⟨this.1,this.2.1,this.2.2.1,this.2.2.2.1,al⟩
      .exact l2.h_ x (List.mem_cons_of_mem _ h')
    .rcases List.mem_cons.1 hy with h' | h'
     .subst h';exact ltA x hx
     .exact(ltA x hx).trans (geB y h')
    .cases la with
     | nil=>exact(nea rfl).elim
     | cons a la' =>
      simp only[List.cons_append,List.cons.injEq]at hl;rw[<- hl.1];exact l1.hd a la' rfl
   refine⟨DK.right (by simp[nea]) (by omega),oa.append fun x hx=>?_,aM.append ba (aM.head bb hi) fun e b' he x hx=>?_⟩
   .rcases List.mem_cons.1 hx with h' | h'
    .subst h';have:=ob e0 (by simp);exact⟨this.1,a8,this.2.2⟩
    .exact ob x (List.mem_cons_of_mem _ h')
   .cases he;exact lo x hx
theorem JG{kind lev:Int}{la lb:List aF}{above:List Int}:(wr kind lev (dq kind la above lb)).length+3<=(wr kind lev la).length+(wr kind lev lb).length+above.length:=by
 rw[eZ,eZ,eZ];unfold dq;rw[du];split
 .cases lb with
  | nil=>simp[hdK,szL]
  | cons e l=>
   rw[hdK,dh,dh];have:=Fx kind e above;omega
 .omega
theorem uo.sub{a b c:List aF}(h:uo (a++(b++c))):uo (a++c):=by
 have h2:=h.vU;have h2:=List.pairwise_append.1 h2;refine⟨fun e he=>h.h_ e ?_,List.pairwise_append.2 ⟨h2.1,(List.pairwise_append.1 h2.2.1).2.1,fun x hx y hy=>h2.2.2 x hx y (List.mem_append_right _ hy)⟩⟩;rcases List.mem_append.1 he with h | h
 .exact List.mem_append_left _ h
 .exact List.mem_append_right _ (List.mem_append_right _ h)
theorem uo.insert{a c:List aF}{e:aF}(h:uo (a++c))(he:nR 1 0 e)(lo:∀x∈a,bM x.key e.key)(hi:∀x∈c,bM e.key x.key):uo (a++(e::c)):=by
 have h2:=h.vU;have h2:=List.pairwise_append.1 h2;refine⟨fun x hx=>?_,List.pairwise_append.2 ⟨h2.1,List.pairwise_cons.2 ⟨hi,h2.2.1⟩,fun x hx y hy=>?_⟩⟩
 .rcases List.mem_append.1 hx with h' | h'
  .exact h.h_ x (List.mem_append_left _ h')
  .rcases List.mem_cons.1 h' with h' | h'
   .rw[h'];exact he
   .exact h.h_ x (List.mem_append_right _ h')
 .rcases List.mem_cons.1 hy with h' | h'
  .rw[h'];exact lo x hx
  .exact h2.2.2 x hx y h'
theorem PD{l:List aF}{key:List Int}{i:Nat}{fd:Bool}(h:Go.Proofs.YtpjbalhhlaofmaaGreat.Pb l key i fd)(hr:jM l):(∀x∈l.take i,bM x.key key)/\(∀x∈l.drop (if fd then i+1 else i),bM key x.key)/\(fd=true->i < l.length):=by
 refine⟨fun x hx=>?_,fun x hx=>?_,fun e=>(h.eq.1 e).1⟩
 .obtain⟨j,hj,rfl⟩:=List.getElem_of_mem hx;simp only[List.length_take]at hj;rw[List.getElem_take];exact h.lt j (by omega) (by omega)
 .obtain⟨j,hj,rfl⟩:=List.getElem_of_mem hx;rw[List.length_drop]at hj;rw[List.getElem_drop];have hl:=e_.2 hr
  cases fd with
  | true=>
   obtain⟨hi,e⟩:=h.eq.1 rfl;simp only[if_true]at hj ⊢;rw[<- e];exact hl.lt (by omega) (by omega)
  | false=>
   simp only[Bool.false_eq_true,if_false]at hj ⊢;have uI:=h.ge (by omega);rcases Ko.1 uI with e | e
   .have:=h.eq.2 ⟨by omega,e⟩;cases this
   .rcases Nat.eq_zero_or_pos j with h0 | h0
    .subst h0;exact e
    .exact e.trans (hl.lt (by omega) (by omega))
end
end Go.V
namespace Go.Proofs.YtpjbalhhlaofmaaGreat
open Go.V
section
variable {w0 w:Wd} {base:Nat} {e:TypeId} {s:Sl} {n:Nat} {L0:List ByteArray} {cmp:Value}
theorem Ar.any{k:IntKind}{e:Int}{K:Int->Prop}(h:∀z,K z):Ar k e K:=fun z _=>h z
theorem VU:∀v:Nat,v < 256->∃b,(ByteArray.data (⟨#[0,1,2,2,3,3,3,3,4,4,4,4,4,4,4,4,5,5,5,5,5,5,5,5,5,5,5,5,5,5,5,5,6,6,6,6,6,6,6,6,6,6,6,6,6,6,6,6,6,6,6,6,6,6,6,6,6,6,6,6,6,6,6,6,7,7,7,7,7,7,7,7,7,7,7,7,7,7,7,7,7,7,7,7,7,7,7,7,7,7,7,7,7,7,7,7,7,7,7,7,7,7,7,7,7,7,7,7,7,7,7,7,7,7,7,7,7,7,7,7,7,7,7,7,7,7,7,7,8,8,8,8,8,8,8,8,8,8,8,8,8,8,8,8,8,8,8,8,8,8,8,8,8,8,8,8,8,8,8,8,8,8,8,8,8,8,8,8,8,8,8,8,8,8,8,8,8,8,8,8,8,8,8,8,8,8,8,8,8,8,8,8,8,8,8,8,8,8,8,8,8,8,8,8,8,8,8,8,8,8,8,8,8,8,8,8,8,8,8,8,8,8,8,8,8,8,8,8,8,8,8,8,8,8,8,8,8,8,8,8,8,8,8,8,8,8,8,8,8,8,8,8,8,8,8,8]⟩)).toList[v]? = some b/\b.toNat<=8/\(1<=v->2 ^ b.toNat<=2 * v):=by
 have h:∀v:Fin 256,((ByteArray.data (⟨#[0,1,2,2,3,3,3,3,4,4,4,4,4,4,4,4,5,5,5,5,5,5,5,5,5,5,5,5,5,5,5,5,6,6,6,6,6,6,6,6,6,6,6,6,6,6,6,6,6,6,6,6,6,6,6,6,6,6,6,6,6,6,6,6,7,7,7,7,7,7,7,7,7,7,7,7,7,7,7,7,7,7,7,7,7,7,7,7,7,7,7,7,7,7,7,7,7,7,7,7,7,7,7,7,7,7,7,7,7,7,7,7,7,7,7,7,7,7,7,7,7,7,7,7,7,7,7,7,8,8,8,8,8,8,8,8,8,8,8,8,8,8,8,8,8,8,8,8,8,8,8,8,8,8,8,8,8,8,8,8,8,8,8,8,8,8,8,8,8,8,8,8,8,8,8,8,8,8,8,8,8,8,8,8,8,8,8,8,8,8,8,8,8,8,8,8,8,8,8,8,8,8,8,8,8,8,8,8,8,8,8,8,8,8,8,8,8,8,8,8,8,8,8,8,8,8,8,8,8,8,8,8,8,8,8,8,8,8,8,8,8,8,8,8,8,8,8,8,8,8,8,8,8,8,8,8]⟩)).toList[v.1]?).any (fun b=>decide (b.toNat<=8) && (decide (v.1=0) || decide (2 ^ b.toNat<=2 * v.1)))=true:=by decide +kernel
 intro v hv;have:=h ⟨v,hv⟩;rw[Option.any_eq_true]at this;obtain⟨b,h1,h2⟩:=this;simp only[Bool.and_eq_true,Bool.or_eq_true,decide_eq_true_eq]at h2;exact⟨b,h1,h2.1,fun h3=>h2.2.resolve_left (by omega)⟩
theorem Fz{x:Int}{K:Int->Pw}(h0:0<=x)(h1:x<=65535)(k:∀r:Nat,r<=16->(1<=x->(2:Int) ^ r<=2 * x)->K r w):lg x w K:=by
 apply yU;apply u_;refine⟨fun y m w'=>y=x/\m=0/\w'=w,If.dec (fun h=>by omega) fun _=>⟨rfl,rfl,rfl⟩,?_⟩;rintro _ y m w1 ⟨rfl,rfl,rfl⟩;refine⟨fun z m w'=>z=y/\m=0/\w'=w1,If.dec (fun h=>by omega) fun _=>⟨rfl,rfl,rfl⟩,?_⟩;rintro _ y2 m2 w2 ⟨rfl,rfl,rfl⟩;refine⟨fun z m w'=>w'=w2/\((m=0/\z=y2/\y2 < 256)∨(m=8/\z=y2 / 256/\256<=y2)),If.dec (fun h=>⟨by decide,Nm.mk (Ar.i64 (by omega) ⟨rfl,.inr ⟨by omega,?_,by omega⟩⟩)⟩) fun h=>⟨rfl,.inl ⟨rfl,rfl,by omega⟩⟩,?_⟩
 .rw[show(2:Int) ^ min (Int.toNat 8) (IntKind.bits .u64)=256 from by decide,Int.fdiv_eq_ediv_of_nonneg _ (by omega)]
 rintro _ z m w3 ⟨rfl,hz⟩;have hz2:0<=z/\z < 256/\0<=m/\m<=8:=by rcases hz with h | h <;> omega
 refine Ar.u8 (by omega) ?_;obtain⟨b,hb,Ku,jN⟩:=VU z.toNat (by omega);refine⟨b,by omega,hb,Ar.i64 (by omega) (Ar.i64 (by omega) ?_)⟩;have e:m+(UInt8.toNat b:Int)=((m.toNat+b.toNat:Nat):Int):=by omega
 rw[e];refine k _ (by omega) fun hx=>?_
 have hp:((2:Int) ^ b.toNat)=((2 ^ b.toNat:Nat):Int):=by simp
 rcases hz with⟨rfl,rfl,h⟩ | ⟨rfl,rfl,h⟩
 .have:=jN (by omega);rw[show(0:Int).toNat+b.toNat=b.toNat by simp,hp];omega
 .have:=jN (by omega);rw[show(8:Int).toNat+b.toNat=8+b.toNat by simp,Int.pow_add,hp];omega
end
section
variable {w0 w:Wd} {base:Nat} {e:TypeId} {s:Sl} {n:Nat} {L0:List ByteArray} {cmp:Value}
theorem CK{L:List ByteArray}{K:Pw}(hc:Sf w s cmp)(o:bf w.heap base e 1 s (strs L))(hn:L.length<=12)(k:∀L' w',L'.Perm L->bf w'.heap base e 1 s (strs L')->Ext (fun q=>s.aj=some q) w w'->K w'):cU s cmp w K:=by
 apply jF;have hl:=o.len;simp only[List.length_map,Nat.mul_one]at hl;refine Ar.u64 (by omega) (Fz (by omega) (by omega) fun r _ _=>?_);apply jW;refine⟨fun _ a' b' _ _ _ w'=>a'=0/\b'=(s.len:Int)/\w'=w,⟨0,rfl,rfl,rfl⟩,?_⟩;rintro _ m0 a1 b1 lim wb wp w1 ⟨rfl,rfl,rfl⟩;refine Ar.i64 (by omega) (If.dec (fun _=>AJ (n:=L.length) (L0:=L) (base:=base) (e:=e) hc ⟨⟨L,.refl _,o⟩,Ext.refl _ _,rfl⟩ (by omega) (by omega) (by omega) (by omega) fun w' h'=>?_) fun h=>by omega);obtain⟨⟨L',hp,ho⟩,hx,_⟩:=h';exact k L' w' hp ho hx
end
section
variable {w:Wd}
theorem cX.new{B:Nat->Prop}{kind lev:Int}{ls:List nA}{n b:Nat}{w':Wd}(nw:Da w (.cells (ls.flatMap (gQ kind lev)).toArray 209) b w')(hn:ls.length=n)(hB:B b)(uW:∀x∈ls,ki w'.heap B x.s x.L)
  (CL:∀x∈ls,b_ w'.heap x.sep x.key/\B8 x.key/\∀q,x.sep.aj=some q->B q/\q < w'.heap.size):cX w'.heap B kind lev ⟨some ⟨b,0,none⟩,n,n⟩ ls:=by
 refine⟨(bf.new (n:=n) (sz:=4) nw (by rw[aS (dv kind lev ls),hn]) (fun v hv=>?_)).rd,uW,CL,fun q hq=>?_⟩
 .obtain⟨x,_,hx⟩:=List.mem_flatMap.1 hv;simp only[gQ,List.mem_cons,List.not_mem_nil,or_false]at hx;rcases hx with h | h | h | h <;> subst h <;> rfl
 .simp[Sl.aj]at hq;subst hq;exact⟨hB,by have:=nw.size;have:=nw.at_;omega⟩
theorem JH{kind lev:Int}{sa sb ab:Sl}{La Lb:List (aL×aF)}{above:List Int}{K:Int->Int->Sl->Bool->Pw}(na:ny w.heap sa La)(nb:ny w.heap sb Lb)(Oq:b_ w.heap ab above)(h8:B8 above)(Pv:aH kind lev (ents La))(Jl:aH kind lev (ents Lb))(hla:La.length<=2000)(Ov:Lb.length<=2000)(hk:above.length<=65536)
  (hj:aH kind lev (dq kind (ents La) above (ents Lb)))
  (k1:∀s L w',(wr kind lev (dq kind (ents La) above (ents Lb))).length<=224->ic w'.heap w.heap.size s L->ents L=dq kind (ents La) above (ents Lb)->Ext No w w'->K kind lev s true w')
  (k0:∀w',224 < (wr kind lev (dq kind (ents La) above (ents Lb))).length->Ext No w w'->K 0 0 ⟨none,0,0⟩ false w'):pH kind lev sa kind lev sb ab w K:=by
 apply EN;refine af.mk fun b w1 n1=>af.mk fun b1 w2 n2=>af.mk fun b2 w3 n3=>?_
 have hb:=n1.at_;have jk:=n2.at_;have jN:=n3.at_;have z1:=n1.size;have z2:=n2.size;have z3:=n3.size;have ib:Ext No w w3:=(n1.ext.no n2.ext).no n3.ext;have g3:qn w3.heap b kind lev sa:=ad (ad n1.get n2.ext) n3.ext;have fN:qn w3.heap b1 kind lev sb:=ad n2.get n3.ext;refine mY g3 (mY fN (HG (na.no ib) (nb.no ib) (Rd.no Oq ib) h8 Pv Jl hla Ov hk hj fun s L w4 nL eL x4=>um (ad n3.get x4) rfl fun w5 g5 x5 z5=>If.not (If.yes (mY g5 ?_))));have nL5:ic w5.heap w3.heap.size s L:=nL.ext x5 fun q h1 h2 h=>by omega
 have lL:L.length=La.length+Lb.length:=by have:=congrArg List.length eL;rw[xi]at this;simpa using this
 have xY:Ext No w w5:=(ib.no x4).trans x5 fun q hq h=>by omega
 refine mo nL5.nd (by omega) (fun w7 _ x7=>If.bne (fun h=>(h rfl).elim) fun _=>If.dec (fun h=>?_) fun h=>?_) fun c w7 hn _ _=>(hn (by rw[eL];exact hj)).elim
 .rw[eL]at h;exact um (s:=⟨none,0,0⟩) (ad g5 x7) rfl fun w9 g9 x9 z9=>mY g9 (k0 w9 (by omega) ((xY.no x7).trans x9 fun q hq h=>by omega))
 .rw[eL]at h;exact mY (ad g5 x7) (um (ad g5 x7) rfl fun w9 g9 x9 z9=>mY g9 (k1 s L w9 (by omega) (((nL5.no x7).ext x9 fun q h1 h2 h=>by omega).mono (by omega)) eL ((xY.no x7).trans x9 fun q hq h=>by omega)))
theorem Mh{kind lev:Int}{sa sb ab:Sl}{La Lb:List (aL×aF)}{above:List Int}{K:Int->Int->Sl->Int->Int->Sl->Sl->Int->Pw}(na:ny w.heap sa La)(nb:ny w.heap sb Lb)(Oq:b_ w.heap ab above)(h8:B8 above)(Pv:aH kind lev (ents La))(Jl:aH kind lev (ents Lb))(hla:La.length<=2000)(Ov:Lb.length<=2000)(hk:above.length<=65536)
  (hj:aH kind lev (dq kind (ents La) above (ents Lb))) (wZ:224 < (wr kind lev (dq kind (ents La) above (ents Lb))).length) (hex:∃k,jq kind lev (dq kind (ents La) above (ents Lb)) k)
  (k0:∀(k:Nat) s1 L1 s2 L2 st w' (hk:k < (dq kind (ents La) above (ents Lb)).length),xg kind lev (dq kind (ents La) above (ents Lb)) k->ic w'.heap w.heap.size s1 L1->ents L1=(dq kind (ents La) above (ents Lb)).take k->ic w'.heap w.heap.size s2 L2->ents L2=kn kind ((dq kind (ents La) above (ents Lb)).drop k)->aK w'.heap w.heap.size st (dq kind (ents La) above (ents Lb))[k].key->B8 (dq kind (ents La) above (ents Lb))[k].key->Ext No w w'->K kind lev s1 kind lev s2 st 0 w') :
  pI kind lev sa kind lev sb ab w K:=by
 apply EO;refine af.mk fun b w1 n1=>af.mk fun b1 w2 n2=>af.mk fun b2 w3 n3=>af.mk fun b3 w4 n4=>?_
 have hb:=n1.at_;have jk:=n2.at_;have jN:=n3.at_;have vB:=n4.at_;have z1:=n1.size;have z2:=n2.size;have z3:=n3.size;have z4:=n4.size;have fg:Ext No w w4:=((n1.ext.no n2.ext).no n3.ext).no n4.ext;have g4:qn w4.heap b kind lev sa:=ad (ad (ad n1.get n2.ext) n3.ext) n4.ext;have jH:qn w4.heap b1 kind lev sb:=ad (ad n2.get n3.ext) n4.ext;have se:=ad n3.get n4.ext;refine mY g4 (mY jH (HG (na.no fg) (nb.no fg) (Rd.no Oq fg) h8 Pv Jl hla Ov hk hj fun s L w5 nL eL x5=>af.mk fun b4 w6 n6=>um n6.get rfl fun w7 g7 x7 z7=>If.not (If.yes (mY g7 ?_))));have Hm:=n6.at_;have z6:=n6.size;have DM:Ext (·=b4) w5 w7:=n6.ext.aE.trans x7 fun _ _ h=>h
 have nL7:ic w7.heap w4.heap.size s L:=nL.ext DM fun q h1 h2 h=>by omega
 have lL:L.length=La.length+Lb.length:=by have:=congrArg List.length eL;rw[xi]at this;simpa using this
 have acD:Ext No w5 w7:=DM.mono fun q hq h=>by omega
 have F_:Ext No w4 w7:=x5.no acD;generalize hJ:dq kind (ents La) above (ents Lb)=J at *;refine Br nL7.nd (by rw[eL];exact hj) (by omega) (by rw[eL];exact wZ) (by rw[eL];exact hex) fun k s1 L1 s2 L2 st dV hk KK Zz e1 ZA e2 SM dW=>?_
 have s7:=F_.size;refine um (ad se (F_.no dW)) rfl fun di oS fH ND=>um (ag (ad n4.get (F_.no dW)) fH (by omega)) rfl fun eN Cd fJ OQ=>mY (ag oS fJ (by omega)) (mY Cd ?_)
 have xf:Ext (fun q=>q=b2∨q=b3) dV eN:=(fH.mono fun _ _ h=> .inl h).trans fJ fun _ _ h=> .inr h
 subst eL
 have T6:B8 (ents L)[k].key:=by
  have e:(ents L)[k]=(L[k]'(by simpa using hk)).2:=by simp
  rw[e];exact(nL7.nd.get _).k8
 exact k0 k s1 L1 s2 L2 st eN hk KK ((Zz.ext xf fun q h1 h2 h=>by omega).mono (by omega)) e1 ((ZA.ext xf fun q h1 h2 h=>by omega).mono (by omega)) e2 (bf.mono (SM.ext xf fun q hq h=>by have:=(SM.lt hq).1;omega) (by omega)) T6 (((fg.no F_).no dW).trans xf fun q hq h=>by omega)
theorem uu{B:Nat->Prop}{kind lev:Int}{s:Sl}{L:List (aL×aF)}{K:Sl->Int->Pw}(nd:ki w.heap B s L)(hB:∀q,w.heap.size<=q->B q)(hr:ents L≠[]->aH kind lev (ents L))(hl:L.length<=4096)(hex:224 < (wr kind lev (ents L)).length->∃k,jq kind lev (ents L) k)
  (k:∀ls sl w',cX w'.heap B kind lev sl ls->gR kind lev (ents L) (bn ls)->Ext No w w'->K sl 0 w'):dB kind lev s w K:=by
 apply EM;have nl:=nd.nd.len
 refine af.mk fun b w1 n1=>⟨s,Cell.ah n1.get rfl,If.beq (fun h=>?_) fun h=>?_⟩
 .have:L=[]:=List.eq_nil_of_length_eq_zero (by omega);subst this;exact k [] ⟨none,0,0⟩ w1 ⟨Rd.nil _ _,by simp,by simp,by simp[Sl.aj]⟩ .nil n1.ext
 have bA:ents L≠[]:=by intro e;have:=congrArg List.length e;simp at this;simp[this]at nl;omega
 have hr:=hr bA;have hb:=n1.at_;refine⟨fun w'=>224 < (wr kind lev (ents L)).length/\Ext No w1 w',mY n1.get (mo (nd.nd.no n1.ext) (by omega) (fun w2 _ x2=>If.beq (fun _=>If.dec (fun h=>mY (ad n1.get x2) (af.mk fun b1 w3 n3=>?_)) fun h=>⟨by omega,x2⟩) fun h=>(h rfl).elim) fun c w2 hn _ _=>(hn hr).elim),?_⟩
 .have ib:=(n1.ext.no x2).no n3.ext;have s2:=(n1.ext.no x2).size;refine k [⟨⟨none,0,0⟩,[],s,L⟩] ⟨some (Addr.mk b1 0 none),1,1⟩ w3 (cX.new n3 rfl (hB _ (by rw[n3.at_];exact s2)) (fun x hx=>?_) fun x hx=>?_) (.one bA hr (by omega)) ib
  .rw[List.mem_singleton]at hx;subst hx;exact nd.no ib
  .rw[List.mem_singleton]at hx;subst hx;exact⟨Rd.nil _ _,B8.nil,fun q hq=>by simp[Sl.aj]at hq⟩
 rintro _ w4 ⟨wZ,x4⟩;have fg:=n1.ext.no x4;refine mY (ad n1.get x4) (Br (nd.nd.no fg) hr hl wZ (hex wZ) fun k' s1 L1 s2 L2 st w5 hk KK Zz e1 ZA e2 SM x5=>af.mk fun b2 w6 n6=>af.mk fun b3 w7 n7=>um (ad n6.get n7.ext) rfl fun w8 g8 x8 z8=>um (ag n7.get x8 (by have:=n6.size;have:=n7.at_;have:=n6.at_;omega)) rfl fun w9 g9 x9 z9=>If.bne (fun h=>(h rfl).elim) fun _=>mY (ag g8 x9 (by have:=n6.size;have:=n7.at_;have:=n6.at_;omega)) (mY g9 (af.mk fun b4 dV lE=>?_)));have jN:=n6.at_;have vB:=n7.at_;have z6:=n6.size;have z7:=n7.size;have Kv:=lE.size;have x5w:Ext (fun q=>q=b2∨q=b3) w5 w9:=(((n6.ext.no n7.ext).aE).trans x8 fun _ _ h=> .inl h).trans x9 fun _ _ h=> .inr h
 have PE:Ext No w5 dV:=(x5w.mono fun q hq h=>by omega).no lE.ext;have s0:=fg.size;have s5:=x5.size;have s5w:=PE.size
 have T6:B8 (ents L)[k'].key:=by
  have e:(ents L)[k']=(L[k']'(by simpa using hk)).2:=by simp
  rw[e];exact(nd.nd.get _).k8
 have p1:ki dV.heap B s1 L1:=(Zz.no PE).q fun q h _=>hB q (by omega)
 have p2:ki dV.heap B s2 L2:=(ZA.no PE).q fun q h _=>hB q (by omega)
 have VV:=SM.no PE;refine k [⟨⟨none,0,0⟩,[],s1,L1⟩,⟨st,(ents L)[k'].key,s2,L2⟩] ⟨some (Addr.mk b4 0 none),2,2⟩ dV (cX.new lE rfl (hB _ (by rw[lE.at_];have:=x5w.size;omega)) (fun x hx=>?_) fun x hx=>?_) ?_ ((fg.no x5).no PE)
 .simp only[List.mem_cons,List.not_mem_nil,or_false]at hx;rcases hx with h | h <;> subst h <;> assumption
 .simp only[List.mem_cons,List.not_mem_nil,or_false]at hx;rcases hx with h | h <;> subst h
  .exact⟨Rd.nil _ _,B8.nil,fun q hq=>by simp[Sl.aj]at hq⟩
  .exact⟨VV.rd,T6,fun q hq=>⟨hB q (by have:=(VV.lt hq).1;omega),(VV.lt hq).2⟩⟩
 .have:=gR.two hr wZ KK hk;rw[<- e1,<- e2]at this;exact this
theorem Mi{B:Nat->Prop}{kind lev:Int}{sn sm ab:Sl}{Ln Lm:List (aL×aF)}{above:List Int}{left:Bool}{J:List aF}{K:Sl->Int->Pw}(nn:ny w.heap sn Ln)(nm:ny w.heap sm Lm)(Oq:b_ w.heap ab above)(h8:B8 above)(hrn:aH kind lev (ents Ln))(hrm:aH kind lev (ents Lm))(hln:Ln.length<=2000)(hlm:Lm.length<=2000)(hk:above.length<=65536)(hB:∀q,w.heap.size<=q->B q)
  (eJ:J=dq kind (ents (if left then Lm else Ln)) above (ents (if left then Ln else Lm))) (hj:aH kind lev J) (bA:J≠[]) (hex:224 < (wr kind lev J).length->∃k,jq kind lev J k)
  (k:∀ls sl w',cX w'.heap B kind lev sl ls->gR kind lev J (bn ls)->Ext No w w'->K sl 0 w'):ei kind lev sn kind lev sm ab left w K:=by
 apply GU;refine af.mk fun b w1 n1=>af.mk fun b1 w2 n2=>?_
 have hb:=n1.at_;have jk:=n2.at_;have z1:=n1.size;have z2:=n2.size;have jA:Ext No w w2:=n1.ext.no n2.ext;have g2:qn w2.heap b kind lev sn:=ad n1.get n2.ext;have Cd:qn w2.heap b1 kind lev sm:=n2.get;refine⟨fun w'=>qn w'.heap b kind lev (if left then sm else sn)/\qn w'.heap b1 kind lev (if left then sn else sm)/\Ext No w w',If.cases (fun h=>?_) fun h=>?_,?_⟩
 .subst h;refine mY Cd (mY g2 (um g2 rfl fun w3 g3 x3 z3=>um (ag Cd x3 (by omega)) rfl fun w4 g4 x4 z4=>⟨ag g3 x4 (by omega),g4,(jA.trans x3 fun q _ h=>by omega).trans x4 fun q _ h=>by omega⟩))
 .subst h;exact⟨g2,Cd,jA⟩
 rintro _ w5 ⟨g5,PF,x5⟩;have hA:ny w5.heap (if left then sm else sn) (if left then Lm else Ln):=by split <;> simp_all <;> first | exact nm.no x5 | exact nn.no x5
 have hBn:ny w5.heap (if left then sn else sm) (if left then Ln else Lm):=by split <;> simp_all <;> first | exact nm.no x5 | exact nn.no x5
 have rA:aH kind lev (ents (if left then Lm else Ln)):=by split <;> assumption
 have rB:aH kind lev (ents (if left then Ln else Lm)):=by split <;> assumption
 have lA:(if left then Lm else Ln).length<=2000:=by split <;> assumption
 have lB:(if left then Ln else Lm).length<=2000:=by split <;> assumption
 generalize(if left then sm else sn)=sA at *;generalize(if left then sn else sm)=sB at *;generalize(if left then Lm else Ln)=LA at *;generalize(if left then Ln else Lm)=LB at *;have s5:=x5.size;rw[eJ]at hj bA hex;refine mY g5 (mY PF (JH hA hBn (Rd.no Oq x5) h8 rA rB lA lB hk hj (fun s L w6 hs nL eL x6=>af.mk fun b2 w7 n7=>um n7.get rfl fun w8 g8 x8 z8=>If.yes (mY g8 (af.mk fun b3 w9 n9=>?_))) fun w6 wZ x6=>af.mk fun b2 w7 n7=>um (s:=⟨none,0,0⟩) n7.get rfl fun w8 g8 x8 z8=>If.no (mY (ad g5 ((x6.no n7.ext).trans x8 fun q hq h=>?_)) (mY (ad PF ((x6.no n7.ext).trans x8 fun q hq h=>?_)) ?_))))
 .have jN:=n7.at_;have z7:=n7.size;have z9:=n9.size;have s6:=x6.size;have XE:Ext No w6 w9:=((n7.ext.aE.trans (S:=fun q=>q=b2) x8 fun _ _ h=>h).mono fun q hq h=>by omega).no n9.ext;have p1:ki w9.heap B s L:=(nL.no XE).q fun q h _=>hB q (by omega)
  refine k [⟨⟨none,0,0⟩,[],s,L⟩] ⟨some (Addr.mk b3 0 none),1,1⟩ w9 (cX.new n9 rfl (hB _ (by have:=n9.at_;omega)) (fun x hx=>?_) fun x hx=>?_) ?_ ((x5.no x6).no XE)
  .rw[List.mem_singleton]at hx;subst hx;exact p1
  .rw[List.mem_singleton]at hx;subst hx;exact⟨Rd.nil _ _,B8.nil,fun q hq=>by simp[Sl.aj]at hq⟩
  .have:=gR.one bA hj hs;rw[eJ];rw[<- eL]at this ⊢;exact this
 .have:=n7.at_;have:=x6.size;have:=blt g5;omega
 .have:=n7.at_;have:=x6.size;have:=blt g5;omega
 .have jN:=n7.at_;have z7:=n7.size;have s6:=x6.size;have uk:Ext No w5 w8:=(x6.no n7.ext).trans x8 fun q hq h=>by omega
  have od:=x5.no uk;refine Mh (hA.no uk) (hBn.no uk) (Rd.no Oq od) h8 rA rB lA lB hk hj wZ (hex wZ) fun k' s1 L1 s2 L2 st dV Ud KK Zz e1 ZA e2 SM T6 dW=>af.mk fun b4 di nY=>af.mk fun b5 eN mN=>um (ad nY.get mN.ext) rfl fun cO fN ew JA=>um (ag mN.get ew (by have:=nY.size;have:=mN.at_;have:=nY.at_;omega)) rfl fun cM jH fI OR=>mY (ag fN fI (by have:=nY.size;have:=mN.at_;have:=nY.at_;omega)) (mY jH (af.mk fun b6 dY DJ=>?_))
  have Hm:=nY.at_;have LK:=mN.at_;have ND:=nY.size;have OQ:=mN.size;have XI:=DJ.size;have rM:Ext (fun q=>q=b4∨q=b5) dV cM:=(((nY.ext.no mN.ext).aE).trans ew fun _ _ h=> .inl h).trans fI fun _ _ h=> .inr h
  have KP:Ext No dV dY:=(rM.mono fun q hq h=>by omega).no DJ.ext;have s8:=od.size;have Oz:=dW.size;have Ue:=rM.size;have p1:ki dY.heap B s1 L1:=(Zz.no KP).q fun q h _=>hB q (by omega)
  have p2:ki dY.heap B s2 L2:=(ZA.no KP).q fun q h _=>hB q (by omega)
  have VV:=SM.no KP;refine k [⟨⟨none,0,0⟩,[],s1,L1⟩,⟨st,(dq kind (ents LA) above (ents LB))[k'].key,s2,L2⟩] ⟨some (Addr.mk b6 0 none),2,2⟩ dY (cX.new DJ rfl (hB _ (by have:=DJ.at_;omega)) (fun x hx=>?_) fun x hx=>?_) ?_ ((od.no dW).no KP)
  .simp only[List.mem_cons,List.not_mem_nil,or_false]at hx;rcases hx with h | h <;> subst h <;> assumption
  .simp only[List.mem_cons,List.not_mem_nil,or_false]at hx;rcases hx with h | h <;> subst h
   .exact⟨Rd.nil _ _,B8.nil,fun q hq=>by simp[Sl.aj]at hq⟩
   .exact⟨VV.rd,T6,fun q hq=>⟨hB q (by have:=(VV.lt hq).1;omega),(VV.lt hq).2⟩⟩
  .have:=gR.two hj wZ KK Ud;rw[eJ];rw[<- e1,<- e2]at this;exact this
end
end Go.Proofs.YtpjbalhhlaofmaaGreat
namespace Go.V
abbrev zG(k:List Int)(r:Rf):aF:=⟨k,[],0,.z,r⟩
def rO:List (List Int×List aF)->List Rf->List aF
 | (k,_)::ls,r::rs=>zG k r::rO ls rs
 | _,_=>[]
def f_(first:List Int):List (List Int×List aF)->List Rf->List aF
 | _::ls,r::rs=>zG first r::rO ls rs
 | _,_=>[]
theorem Bt:∀{ls:List (List Int×List aF)}{rs:List Rf},rs.length<=ls.length->(rO ls rs).length=rs.length
 | _,[],_=>by unfold rO;split <;> simp_all
 | [],_::_,h=>by simp at h
 | x::ls,r::rs,h=>by
  obtain⟨k,l⟩:=x;simp only[rO,List.length_cons]at h ⊢;rw[Bt (by omega)]
theorem Bu{first:List Int}{ls:List (List Int×List aF)}{rs:List Rf}(h:rs.length<=ls.length):(f_ first ls rs).length=rs.length:=by
 cases ls with
 | nil=>cases rs with
  | nil=>rfl
  | cons=>simp at h
 | cons x ls=>cases rs with
  | nil=>rfl
  | cons r rs=>simp only[f_,List.length_cons]at h ⊢;rw[Bt (by omega)]
theorem yp:∀{ls:List (List Int×List aF)}{rs:List Rf}{r:Rf}(h:rs.length < ls.length),rO ls (rs++[r])=rO ls rs++[zG ls[rs.length].1 r]
 | [],rs,r,h=>by simp at h
 | x::ls,[],r,h=>by obtain⟨k,l⟩:=x;cases ls <;> rfl
 | x::ls,r0::rs,r,h=>by
  obtain⟨k,l⟩:=x;simp only[List.length_cons]at h;simp only[List.cons_append,rO,List.length_cons,List.getElem_cons_succ];rw[yp (by omega)]
theorem yq{first:List Int}{ls:List (List Int×List aF)}{rs:List Rf}{r:Rf}(h:rs.length < ls.length):f_ first ls (rs++[r])=f_ first ls rs++[zG (if rs.length=0 then first else ls[rs.length].1) r]:=by
 cases ls with
 | nil=>simp at h
 | cons x ls=>cases rs with
  | nil=>cases ls <;> rfl
  | cons r0 rs=>
   simp only[List.length_cons]at h;simp only[List.cons_append,f_,List.length_cons,List.getElem_cons_succ];rw[yp (by omega),if_neg (by omega)]
section
variable {f:bR} {t:Int}
structure LD where
 k:List Int
 l:List aF
 kv:List KV
 p:List Rf
theorem jr.data{lev:Nat}{ls:List (List Int×List aF)}{DN:List KV}{pm:List Rf}(h:jr f t lev ls DN pm):∃D:List LD,D.map (fun d=>(d.k,d.l))=ls/\(D.map LD.kv).flatten=DN/\(D.map LD.p).flatten=pm/\(∀d∈D,uq f t lev d.l d.kv d.p)/\D.length<=2/\
  (∀d1 d2,D=[d1,d2]->1<=d2.k.length/\d2.k.length<=32/\B8 d2.k/\(∀x∈d1.kv,bM x.1 d2.k)/\(∀x∈d2.kv,¬ bM x.1 d2.k)/\(0 < lev->2<=d1.l.length/\2<=d2.l.length)):=by
 cases h with
 | nil=>exact⟨[],rfl,rfl,rfl,by simp,by simp,fun _ _ h=>by cases h⟩
 | @one l kvs ps h=>exact⟨[⟨[],l,DN,pm⟩],rfl,by simp,by simp,by simpa using h,by simp,fun _ _ h=>by cases h⟩
 | @two l1 l2 k1 k2 p1 p2 sep h1 h2 s1 s2 s8 lo hi n1 n2=>
  refine⟨[⟨[],l1,k1,p1⟩,⟨sep,l2,k2,p2⟩],rfl,by simp,by simp,fun d hd=>?_,by simp,fun d1 d2 h=>?_⟩
  .simp only[List.mem_cons,List.not_mem_nil,or_false]at hd;rcases hd with h | h <;> subst h <;> assumption
  .simp only[List.cons.injEq,and_true]at h;obtain⟨rfl,rfl⟩:=h;exact⟨s1,s2,s8,lo,hi,fun h=>⟨n1 h,n2 h⟩⟩
theorem aM.one{Q:Rf->List KV->List Rf->Prop}{e:aF}{kv:List KV}{p:List Rf}(h:Q e.cd kv p)(lo:∀x∈kv,¬ bM x.1 e.key):aM Q [e] kv p:=by
 have:=aM.cons (l:=[]) (kvs:=[]) (ps:=[]) h lo (fun _ _ h=>by cases h) .nil;simpa using this
theorem Mk{l:List aF}(h:jM l):jM (iF l):=by
 cases l with
 | nil=>exact h
 | cons e l=>
  have h2:=List.pairwise_cons.1 h;exact List.pairwise_cons.2 ⟨fun y hy=>bM.nil (h2.1 y hy).ne_nil,h2.2⟩
theorem PG{l:List aF}(h1:∀e∈l,e.cd ≠ .z/\e.ch = .z/\e.val.length=0/\e.n=0/\e.key.length<=32)(h2:jM l):vT (iF l):=by
 refine⟨fun e he=>?_,Mk h2,fun e l' hl=>?_⟩
 .cases l with
  | nil=>cases he
  | cons e' l=>
   rcases List.mem_cons.1 he with h' | h'
   .subst h';have:=h1 e' (by simp);exact⟨this.1,this.2.1,this.2.2.1,this.2.2.2.1,by simp⟩
   .exact h1 e (List.mem_cons_of_mem _ h')
 .cases l with
  | nil=>cases hl
  | cons e' l=>simp only[iF,List.cons.injEq]at hl;rw[<- hl.1]
theorem Ml{l:List aF}:szL 2 (iF l)<=szL 2 l:=by
 cases l with
 | nil=>exact Nat.le_refl _
 | cons e l=>
  rw[iF,dh,dh];have:=Fx 2 e [];simp only[List.length_nil]at this;omega
theorem JI{lev:Nat}{a c:List aF}{mid:aF}{D:List LD}{rs:List Rf}{ka kc:List KV}{pa pc:List Rf}(hi:vT (a++(mid::c)))(ok:qD (a++(mid::c)))(dP:lev+1<=30)
  (ba:aM (bq f t lev) a ka pa) (bc:aM (bq f t lev) c kc pc) (Mn:∀x∈ka,bM x.1 mid.key)
  (hD:∀i (h:i < D.length) (h':i < rs.length),bq f t lev rs[i] D[i].kv (rs[i]::D[i].p)) (hlen:rs.length=D.length) (hr:∀r∈rs,r.ok/\r ≠ .z) (Hy:D.length<=2)
  (two:∀d1 d2,D=[d1,d2]->1<=d2.k.length/\d2.k.length<=32/\B8 d2.k/\(∀x∈d1.kv,bM x.1 d2.k)/\(∀x∈d2.kv,¬ bM x.1 d2.k))
  (lo:∀d∈D,∀x∈d.kv,¬ bM x.1 mid.key) (hc:∀e∈c,∀d∈D,∀x∈d.kv,bM x.1 e.key) :
  (iF (a++(f_ mid.key (D.map fun d=>(d.k,d.l)) rs++c))≠[]->aH 2 ((lev+1:Nat):Int) (iF (a++(f_ mid.key (D.map fun d=>(d.k,d.l)) rs++c))))/\
  qD (iF (a++(f_ mid.key (D.map fun d=>(d.k,d.l)) rs++c)))/\
  (∃pm,aM (bq f t lev) (iF (a++(f_ mid.key (D.map fun d=>(d.k,d.l)) rs++c))) (ka++((D.map LD.kv).flatten++kc)) (pa++(pm++pc))/\∀q,pm.count q=rs.count q+(D.map LD.p).flatten.count q)/\
  szL 2 (iF (a++(f_ mid.key (D.map fun d=>(d.k,d.l)) rs++c)))<=szL 2 (a++(mid::c))+47:=by
 have mQ:=hi.vU;obtain⟨ra,rmc,XO⟩:=fa.1 mQ;obtain⟨rm,rc⟩:=List.pairwise_cons.1 rmc;have ZB:=hi.h_ mid (by simp);have okm:=ok mid (by simp);have oka:qD a:=fun e he=>ok e (by simp[he])
 have okc:qD c:=fun e he=>ok e (by simp[he])
 have acE:∀e∈a,e.cd ≠ .z/\e.ch = .z/\e.val.length=0/\e.n=0/\e.key.length<=32:=fun e he=>hi.h_ e (by simp[he])
 have acF:∀e∈c,e.cd ≠ .z/\e.ch = .z/\e.val.length=0/\e.n=0/\e.key.length<=32:=fun e he=>hi.h_ e (by simp[he])
 have AU:∀e b',c=e::b'->∀x∈ka,bM x.1 e.key:=fun e b' h x hx=>(Mn x hx).trans (rm e (by rw[h];simp))
 have okE:∀{k:List Int}{r:Rf},B8 k->r.ok->((zG k r).ch.ok/\(zG k r).cd.ok)/\B8 (zG k r).key/\B8 (zG k r).val:=fun h1 h2=>⟨⟨by show Rf.z.ok;decide,h2⟩,h1,B8.nil⟩
 have VW:∀{k:List Int}{r:Rf},k.length<=32->r ≠ .z->(zG k r).cd ≠ .z/\(zG k r).ch = .z/\(zG k r).val.length=0/\(zG k r).n=0/\(zG k r).key.length<=32:=fun h1 h2=>⟨h2,rfl,rfl,rfl,h1⟩
 have szm:(wrE 2 mid).length=15+mid.key.length:=nC
 have fin:∀{fr:List aF},f_ mid.key (D.map fun d=>(d.k,d.l)) rs=fr->(∀e∈fr,e.cd ≠ .z/\e.ch = .z/\e.val.length=0/\e.n=0/\e.key.length<=32)->qD fr->jM (a++(fr++c))->(∃pm,aM (bq f t lev) fr ((D.map LD.kv).flatten) pm/\∀q,pm.count q=rs.count q+(D.map LD.p).flatten.count q)->(∀e b',fr++c=e::b'->∀x∈ka,bM x.1 e.key)->szL 2 fr<=15+mid.key.length+47->
   (iF (a++(fr++c))≠[]->aH 2 ((lev+1:Nat):Int) (iF (a++(fr++c))))/\qD (iF (a++(fr++c)))/\(∃pm,aM (bq f t lev) (iF (a++(fr++c))) (ka++((D.map LD.kv).flatten++kc)) (pa++(pm++pc))/\∀q,pm.count q=rs.count q+(D.map LD.p).flatten.count q)/\szL 2 (iF (a++(fr++c)))<=szL 2 (a++(mid::c))+47:=fun {fr} _ e1 e2 e3 e4 e5 e6=>by
  refine⟨fun bA=>(PG (fun e he=>?_) e3).right bA (by omega),qD.iF (oka.append (e2.append okc)),?_,?_⟩
  .rcases List.mem_append.1 he with h | h
   .exact acE e h
   .exact(List.mem_append.1 h).elim (e1 e) (acF e)
  .obtain⟨pm,h1,h2⟩:=e4;refine⟨pm,aM.iF (aM.append ba (aM.append h1 bc fun e b' h x hx=>?_) e5),h2⟩;obtain⟨l',Yr,GD⟩:=List.mem_flatten.1 hx;obtain⟨d,hd,rfl⟩:=List.mem_map.1 Yr;exact hc e (by rw[h];simp) d hd x GD
  .refine Nat.le_trans Ml ?_;rw[du,du,du,dh,szm];omega
 have shape:(D=[]/\rs=[])∨(∃d r,D=[d]/\rs=[r])∨∃d1 d2 r1 r2,D=[d1,d2]/\rs=[r1,r2]:=by
  match D,rs,hlen,Hy with
  | [],[],_,_=>exact .inl ⟨rfl,rfl⟩
  | [d],[r],_,_=>exact .inr (.inl ⟨d,r,rfl,rfl⟩)
  | [d1,d2],[r1,r2],_,_=>exact .inr (.inr ⟨d1,d2,r1,r2,rfl,rfl⟩)
 rcases shape with⟨rfl,rfl⟩ | ⟨d,r,rfl,rfl⟩ | ⟨d1,d2,r1,r2,rfl,rfl⟩
 ·
  refine fin (fr:=[]) rfl (by simp) (fun e he=>by cases he) (fa.2 ⟨ra,rc,fun x hx y hy=>XO x hx y (List.mem_cons_of_mem _ hy)⟩) ⟨[],.nil,fun q=>rfl⟩ (fun e b' h=>AU e b' h) (by simp[szL])
 ·
  have hs:=hD 0 (by simp) (by simp);have h1:=hr r (by simp);refine fin (fr:=[zG mid.key r]) rfl (fun e he=>by rw[List.mem_singleton]at he;subst he;exact VW ZB.2.2.2.2 h1.2) (fun e he=>by rw[List.mem_singleton]at he;subst he;exact okE okm.2.1 h1.1) (fa.2 ⟨ra,List.pairwise_cons.2 ⟨fun y hy=>rm y hy,rc⟩,fun x hx y hy=>?_⟩) ⟨r::d.p,by simpa using aM.one (e:=zG mid.key r) hs (lo d (by simp)),fun q=>by simp only[List.map_cons,List.map_nil,List.flatten_cons,List.flatten_nil,List.append_nil,List.count_cons,List.count_nil];omega⟩ (fun e b' h x hx=>?_) (by rw[dh,nC,pT];simp only;omega)
  .rcases List.mem_cons.1 hy with h | h
   .subst h;exact XO x hx mid (by simp)
   .exact XO x hx y (List.mem_cons_of_mem _ h)
  .simp only[List.cons_append,List.nil_append,List.cons.injEq]at h;rw[<- h.1];exact Mn x hx
 ·
  have Fm:=hD 0 (by simp) (by simp);have Jo:=hD 1 (by simp) (by simp);have h1:=hr r1 (by simp);have h2:=hr r2 (by simp);obtain⟨t1,t2,t3,t4,t5⟩:=two d1 d2 rfl;obtain⟨u1,hu1⟩:=List.exists_mem_of_ne_nil _ Fm.ne;obtain⟨u2,Rm⟩:=List.exists_mem_of_ne_nil _ Jo.ne;have ltm:bM mid.key d2.k:=bM.of_le (lo d1 (by simp) u1 hu1) (t4 u1 hu1);have ltc:∀y∈c,bM d2.k y.key:=fun y hy=>bM.of_le (t5 u2 Rm) (hc y hy d2 (by simp) u2 Rm)
  have k1:aM (bq f t lev) [zG mid.key r1] d1.kv (r1::d1.p):=aM.one Fm (lo d1 (by simp));have k2:aM (bq f t lev) [zG d2.k r2] d2.kv (r2::d2.p):=aM.one Jo t5;refine fin (fr:=[zG mid.key r1,zG d2.k r2]) rfl (fun e he=>?_) (fun e he=>?_) (fa.2 ⟨ra,List.pairwise_cons.2 ⟨fun y hy=>?_,List.pairwise_cons.2 ⟨fun y hy=>ltc y hy,rc⟩⟩,fun x hx y hy=>?_⟩) ⟨(r1::d1.p)++(r2::d2.p),?_,fun q=>?_⟩ (fun e b' h x hx=>?_) (by rw[dh,dh,nC,nC,pT];simp only;omega)
  .simp only[List.mem_cons,List.not_mem_nil,or_false]at he;rcases he with h | h <;> subst h
   .exact VW ZB.2.2.2.2 h1.2
   .exact VW t2 h2.2
  .simp only[List.mem_cons,List.not_mem_nil,or_false]at he;rcases he with h | h <;> subst h
   .exact okE okm.2.1 h1.1
   .exact okE t3 h2.1
  .rcases List.mem_cons.1 hy with h | h
   .subst h;exact ltm
   .exact rm y h
  .rcases List.mem_cons.1 hy with h | h
   .subst h;exact XO x hx mid (by simp)
   .rcases List.mem_cons.1 h with h | h
    .subst h;exact(XO x hx mid (by simp)).trans ltm
    .exact XO x hx y (List.mem_cons_of_mem _ h)
  .have:=aM.append k1 k2 (fun e b' h x hx=>by simp only[List.cons.injEq]at h;rw[<- h.1];exact t4 x hx);simpa using this
  .simp only[List.map_cons,List.map_nil,List.flatten_cons,List.flatten_nil,List.append_nil,List.count_cons,List.count_nil,List.count_append];omega
  .simp only[List.cons_append,List.nil_append,List.cons.injEq]at h;rw[<- h.1];exact Mn x hx
end
end Go.V
namespace Go.Proofs.YtpjbalhhlaofmaaGreat
open Go.V
section
variable {w0 w:Wd} {base:Nat} {e:TypeId} {s:Sl} {n:Nat} {L0:List Int}
end
end Go.Proofs.YtpjbalhhlaofmaaGreat
