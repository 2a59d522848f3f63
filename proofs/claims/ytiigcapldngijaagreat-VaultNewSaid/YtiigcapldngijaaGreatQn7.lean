/- Texts for LVaultNew, part 7. -/
import Derived.Laws.Append
import Derived.Test.YtiigcapldngijaaGreatQn6
namespace Go.V
structure Ext(S:Nat->Prop)(w w':Wd):Prop where
 os:w'.os=w.os
 tape:w'.tape=w.tape
 output:w'.output=w.output
 size:w.heap.size<=w'.heap.size
 aw:∀b,b < w.heap.size->¬ S b->w'.heap[b]? = w.heap[b]?
abbrev No:Nat->Prop:=fun _=>False
theorem Ext.refl(S:Nat->Prop)(w:Wd):Ext S w w:=⟨rfl,rfl,rfl,Nat.le_refl _,fun _ _ _=>rfl⟩
theorem Ext.trans{S S':Nat->Prop}{a b c:Wd}(h:Ext S a b)(k:Ext S' b c)(hs:∀i,i < a.heap.size->S' i->S i):Ext S a c:=
 ⟨k.os.trans h.os,k.tape.trans h.tape,k.output.trans h.output,Nat.le_trans h.size k.size,
  fun i hi hn=>(k.aw i (Nat.lt_of_lt_of_le hi h.size) fun CZ=>hn (hs i hi CZ)).trans (h.aw i hi hn)⟩
theorem Ext.no{S:Nat->Prop}{a b c:Wd}(h:Ext S a b)(k:Ext No b c):Ext S a c:=h.trans k fun _ _ h=>h.elim
theorem Ext.mono{S S':Nat->Prop}{a b:Wd}(h:Ext S a b)(hs:∀i,i < a.heap.size->S i->S' i):Ext S' a b:=
 ⟨h.os,h.tape,h.output,h.size,fun i hi hn=>h.aw i hi fun CZ=>hn (hs i hi CZ)⟩
theorem Ext.az{S:Nat->Prop}{a b:Wd}(h:Ext No a b):Ext S a b:=h.mono fun _ _ h=>h.elim
theorem Ext.drew{S:Nat->Prop}{a b:Wd}(h:Ext S a b):Ext S a (ae b):=⟨h.os,h.tape,h.output,h.size,h.aw⟩
theorem Ext.an{S:Nat->Prop}{a b:Wd}(h:Ext S (ae a) b):Ext S a b:=⟨h.os,h.tape,h.output,h.size,h.aw⟩
theorem jX(h:Array Obj)(o:Obj)(b:Nat)(hb:b < h.size):(h.push o)[b]? = h[b]?:=by
 rw[Array.getElem?_push,if_neg (by omega)]
section new
variable {w w':Wd} {o:Obj} {b:Nat}
theorem Gq.size(h:Gq w o b w'):w'.heap.size=w.heap.size+1:=by rw[h.is];simp[World.cL]
theorem Gq.get(h:Gq w o b w'):w'.heap[b]? = some o:=by rw[h.is,h.at_];unfold World.cL;simp only[Array.getElem?_push,if_true]
theorem Gq.ext(h:Gq w o b w'):Ext No w w':=by
 refine⟨by rw[h.is];rfl,by rw[h.is];rfl,by rw[h.is];rfl,by rw[h.size];omega,fun i hi _=>?_⟩;rw[h.is];exact jX _ _ _ hi
theorem mG.get{o0:Obj}(h:mG w b o w')(hb:w.heap[b]? = some o0):w'.heap[b]? = some o:=by rw[h];exact eP hb
theorem mG.size(h:mG w b o w'):w'.heap.size=w.heap.size:=by rw[h];simp[World.cK]
theorem mG.other(h:mG w b o w'){i:Nat}(hi:i≠b):w'.heap[i]? = w.heap[i]?:=by
 rw[h];simp[World.cK,Ne.symm hi]
theorem mG.ext(h:mG w b o w'):Ext (·=b) w w':=by
 refine⟨by rw[h];rfl,by rw[h];rfl,by rw[h];rfl,by rw[h.size];exact Nat.le_refl _,fun i hi hn=>h.other hn⟩
end new
def cM(h:Array Obj)(b o:Nat):Option Value:=match h[b]? with
 | some (.cells c _ _)=>c[o]?
 | _=>none
theorem fE(w:Wd)(b o:Nat):w.cell? ⟨b,o,none⟩=cM w.heap b o:=by
 unfold World.cell? cM
 cases w.heap[b]? with
 | none=>rfl
 | some x=>cases x <;> simp
theorem qN{h:Array Obj}{b o:Nat}{v:Value}(e:cM h b o=some v):b < h.size:=by
 unfold cM at e;rcases Nat.lt_or_ge b h.size with aN | zQ
 .exact aN
 .rw[Array.getElem?_eq_none zQ]at e;cases e
theorem pM{h h':Array Obj}{b o:Nat}(e:h'[b]? = h[b]?):cM h' b o=cM h b o:=by unfold cM;rw[e]
theorem Cell.mk{w:Wd}{b o:Nat}{v:Value}(h:cM w.heap b o=some v):Cell w ⟨b,o,none⟩ v:=by unfold Cell;rw[fE];exact h
theorem Cell.aw{w:Wd}{b o:Nat}{v:Value}{cs:Array Value}{T:TypeId}{fz:Nat×Nat}(h:w.heap[b]? = some (.cells cs T fz))(hc:cs[o]? = some v):Cell w ⟨b,o,none⟩ v:=
 Cell.mk (by unfold cM;rw[h];exact hc)
structure Rd(h:Array Obj)(s:Sl)(sz:Nat)(cs:List Value):Prop where
 len:cs.length=s.len * sz
 cap:s.len<=s.cap
 at_:cs≠[]->∃b off,s.a=some ⟨b,off,none⟩/\∀i (hi:i < cs.length),cM h b (off+i)=some cs[i]
 cells:∀v∈cs,cB v=true
theorem Rd.ext{S:Nat->Prop}{w w':Wd}{s:Sl}{sz:Nat}{cs:List Value}(h:Rd w.heap s sz cs)(e:Ext S w w')(hS:∀a b,s.a=some a->a.block=b->¬ S b):Rd w'.heap s sz cs:=by
 refine⟨h.len,h.cap,fun du=>?_,h.cells⟩;obtain⟨b,off,ha,hc⟩:=h.at_ du;refine⟨b,off,ha,fun i hi=>?_⟩;have:=hc i hi;rw[<- this];exact pM (e.aw b (qN this) (hS _ _ ha rfl))
theorem Rd.no{w w':Wd}{s:Sl}{sz:Nat}{cs:List Value}(h:Rd w.heap s sz cs)(e:Ext No w w'):Rd w'.heap s sz cs:=h.ext e fun _ _ _ _ h=>h
theorem Rd.nil(h:Array Obj)(sz:Nat):Rd h ⟨none,0,0⟩ sz []:=⟨by simp,Nat.le_refl _,fun h=>(h rfl).elim,by simp⟩
structure aP(h:Array Obj)(base:Nat)(e:TypeId)(sz:Nat)(s:Sl)(cs:List Value):Prop where
 len:cs.length=s.len * sz
 is:(s=⟨none,0,0⟩/\cs=[])∨∃b rest,s.a=some ⟨b,0,none⟩/\base<=b/\h[b]? = some (.cells (cs++rest).toArray e (0,0))/\(cs++rest).length=s.cap * sz/\s.len<=s.cap
 cells:∀v∈cs,cB v=true
theorem aP.nil(h:Array Obj)(base:Nat)(e:TypeId)(sz:Nat):aP h base e sz ⟨none,0,0⟩ []:=⟨by simp,.inl ⟨rfl,rfl⟩,by simp⟩
theorem aP.rd{h:Array Obj}{base:Nat}{e:TypeId}{sz:Nat}{s:Sl}{cs:List Value}(o:aP h base e sz s cs):Rd h s sz cs:=by
 rcases o.is with⟨rfl,rfl⟩ | ⟨b,rest,ha,_,hb,hl,hc⟩
 .exact Rd.nil _ _
 .refine⟨o.len,hc,fun _=>⟨b,0,ha,fun i hi=>?_⟩,o.cells⟩;unfold cM;rw[hb];simp[List.getElem?_append,hi]
def Sl.aw(s:Sl):Option Nat:=s.a.map (·.block)
theorem aP.ext{S:Nat->Prop}{w w':Wd}{base:Nat}{e:TypeId}{sz:Nat}{s:Sl}{cs:List Value}(o:aP w.heap base e sz s cs)(x:Ext S w w')(hS:∀b,s.aw=some b->¬ S b):aP w'.heap base e sz s cs:=by
 refine⟨o.len,?_,o.cells⟩;rcases o.is with h | ⟨b,rest,ha,hle,hb,hr⟩
 .exact .inl h
 .refine .inr ⟨b,rest,ha,hle,?_,hr⟩;obtain⟨aN,_⟩:=Array.getElem?_eq_some_iff.1 hb;rw[x.aw b aN (hS b (by simp[Sl.aw,ha])),hb]
theorem aP.no{w w':Wd}{base:Nat}{e:TypeId}{sz:Nat}{s:Sl}{cs:List Value}(o:aP w.heap base e sz s cs)(x:Ext No w w'):aP w'.heap base e sz s cs:=o.ext x fun _ _ h=>h
theorem aP.lt{h:Array Obj}{base:Nat}{e:TypeId}{sz:Nat}{s:Sl}{cs:List Value}(o:aP h base e sz s cs){b:Nat}(hb:s.aw=some b):base<=b/\b < h.size:=by
 rcases o.is with⟨rfl,_⟩ | ⟨b',rest,ha,hle,Is,_⟩
 .simp[Sl.aw]at hb
 .simp[Sl.aw,ha]at hb;subst hb;obtain⟨aN,_⟩:=Array.getElem?_eq_some_iff.1 Is;exact⟨hle,aN⟩
theorem aP.mono{h:Array Obj}{base base':Nat}{e:TypeId}{sz:Nat}{s:Sl}{cs:List Value}(o:aP h base e sz s cs)(hb:base'<=base):aP h base' e sz s cs:=by
 refine⟨o.len,?_,o.cells⟩;rcases o.is with h | ⟨b,rest,ha,hle,r⟩
 .exact .inl h
 .exact .inr ⟨b,rest,ha,Nat.le_trans hb hle,r⟩
theorem aP.new{w w':Wd}{b n:Nat}{e:TypeId}{sz:Nat}{cs:List Value}(h:Gq w (.cells cs.toArray e) b w')(hl:cs.length=n * sz)(hc:∀v∈cs,cB v=true) :
  aP w'.heap w.heap.size e sz ⟨some ⟨b,0,none⟩,n,n⟩ cs:=
 ⟨hl,.inr ⟨b,[],rfl,by rw[h.at_];exact Nat.le_refl _,by simpa using h.get,by simpa using hl,Nat.le_refl _⟩,hc⟩
structure Src(P:Program)(w:Wd)(x:Value)(sz n:Nat)(xs:List Value):Prop where
 len:xs.length=n * sz
 num:(Builtin.lenOf x).run P w = .ok n w
 get:∀w':Wd,w'.heap=w.heap->(Builtin.firstCells sz n x).run P w' = .ok xs.toArray w'
 cells:∀v∈xs,cB v=true
theorem Rd.src{P:Program}{w:Wd}{s:Sl}{sz:Nat}{cs:List Value}(h:Rd w.heap s sz cs):Src P w s.v sz s.len cs:=by
 refine⟨h.len,by simp[Builtin.lenOf],fun w' hw=>?_,h.cells⟩;obtain⟨a,n,c⟩:=s
 cases a with
 | none=>
  have:cs=[]:=Classical.byContradiction fun du=>by obtain⟨b,off,ha,_⟩:=h.at_ du;cases ha
  subst this;simp[Builtin.firstCells]
 | some a=>
  have hl:cs.length=n * sz:=h.len;simp only[Builtin.firstCells,loadCells]
  have:=nL (P:=P) (w:=w') (a:=a) cs 0 #[] (fun j hj=>by
   obtain⟨b,off,ha,hc⟩:=h.at_ (by intro e;subst e;simp at hj)
   cases ha
   rw[ay rfl,fE,hw,Nat.zero_add]
   exact hc j hj)
  rw[hl]at this;simpa using this
theorem oK{P:Program}{w:Wd}{need old:Nat}{e:TypeId}:(choose (.appendCap need old e)).run P w = .ok (grownCap w need old e) (ae w):=by
 simp[choose,Sem.run,Question.forced,grownCap,ae]
theorem grownCap_ge{w:Wd}{need old:Nat}{e:TypeId}:need<=grownCap w need old e:=by
 simp only[grownCap,Question.cut];exact Nat.le_add_right _ _
theorem oL(z:Array Value)(n:Nat):(Builtin.zeroCells z n).size=n * z.size:=by simp[Builtin.zeroCells]
theorem hJ{P:Program}{t t' e:TypeId}{d:TypeDesc}{ie:TypeInfo}{z:Value}{w:Wd}{base:Nat}{s:Sl}{x:Value}{n sz:Nat}{cs xs:List Value}{K:Sl->Pw}
  (ht:P.underlying t=some (.slice e)) (M_:P.underlying t'=some d) (hd:∀k,d ≠ .int k) (hi:P.info? e=some ie) (hz:ie.zero=some z) (rS:ie.size=sz) (Sa:z.cells.size=sz) (hbp:0 < ie.bytes)
  (own:aP w.heap base e sz s cs) (dq:base<=w.heap.size) (src:Src P w x sz n xs) (hb:(s.len+n) * ie.bytes<=140737488355328)
  (hk:∀s' w',aP w'.heap base e sz s' (cs++xs)->s'.len=s.len+n->Ext (fun b=>s.aw=some b) w w'->(s'.aw=s.aw∨∃b,s'.aw=some b/\w.heap.size<=b)->K s' w'):bj P t t' s x K w:=by
 have rd:=own.rd;by_cases nj:s.len+n<=s.cap
 .-- in place
  rcases own.is with⟨rfl,rfl⟩ | ⟨b,rest,ha,hle,wI,hl,hc⟩
  .-- nil: nothing is acs
   have hn:n=0:=by simp at nj;omega
   subst hn;have hx:xs=[]:=by have:=src.len;simp at this;exact this
   subst hx;refine⟨⟨none,0,0⟩,w,fun ty=>?_,hk _ _ (by simpa using own) rfl (Ext.refl _ _) (.inl rfl)⟩;have h0:=src.num;have h1:=src.get w rfl;simp[Builtin.append_,aD ht,aD M_,bL hi,rS,h0,h1]
  .have hlen:=own.len;have hx:=src.len
   have aN:cs.length+xs.length<=(cs++rest).length:=by
    rw[hlen,hx,hl,<- Nat.add_mul];exact Nat.mul_le_mul_right _ nj
   have wg:=rU (P:=P) (b:=b) (T:=e) (fz:=(0,0)) xs w (cs++rest).toArray cs.length 0 wI (by simpa using aN) (.inr (.inr (Nat.le_refl _))) src.cells
   have Gt:setL (cs++rest) cs.length xs=cs++(xs++rest.drop xs.length):=by
    rw[we _ _ _ aN];simp[List.drop_append]
   refine⟨⟨s.a,s.len+n,s.cap⟩,World.cK w b (.cells (cs++xs++rest.drop xs.length).toArray e (0,0)),fun ty=>?_,hk _ _ ?_ rfl ?_ (.inl rfl)⟩
   .obtain⟨sa,sl,sc⟩:=s;simp only at ha;subst ha;have h0:=src.num;have h1:=src.get w rfl;simp only at hlen nj;have ea:(⟨b,0,none⟩ : Addr).add (sl * sz)=⟨b,cs.length,none⟩:=by rw[ay rfl,hlen];simp
    simp[Builtin.append_,aD ht,aD M_,bL hi,rS,h0,h1,nj,ea,wg,Gt]
   .refine⟨?_,.inr ⟨b,rest.drop xs.length,ha,hle,?_,?_,nj⟩,fun v hv=>?_⟩
    .rw[List.length_append,hlen,hx,Nat.add_mul]
    .exact eP wI
    .rw[<- hl];simp only[List.length_append,List.length_drop]at aN ⊢;omega
    .rcases List.mem_append.1 hv with h | h
     .exact own.cells v h
     .exact src.cells v h
   .refine(mG.ext (w:=w) (b:=b) rfl).mono fun i _ hi=>?_
    subst hi;simp[Sl.aw,ha]
 .-- it ahl
  have iv:s.cap < s.len+n:=by omega
  have HD:=growslice_fits (bytes:=ie.bytes) iv hb;have zQ:=grownCap_ge (w:=w) (need:=s.len+n) (old:=s.cap) (e:=e);have hold:=(rd.src (P:=P)).get (ae w) rfl;have qo:=src.get (ae w) rfl;refine⟨⟨some ⟨w.heap.size,0,none⟩,s.len+n,grownCap w (s.len+n) s.cap e⟩,World.cL (ae w) (.cells (cs++(xs++(Builtin.zeroCells z.cells (grownCap w (s.len+n) s.cap e - (s.len+n))).toList)).toArray e),fun ty=>?_,hk _ _ ?_ rfl ?_ (.inr ⟨w.heap.size,rfl,Nat.le_refl _⟩)⟩
  .obtain⟨sa,sl,sc⟩:=s;have h0:=src.num;simp only at nj HD hold zQ;have Nk:¬ (Builtin.nextslicecap (sl+n) sc * ie.bytes > 2 ^ 48):=by omega
   have hbz:ie.bytes≠0:=by omega
   simp[-run_choose,Builtin.append_,aD ht,aD M_,bL hi,rS,h0,nj,hbz,kC hi,Nk,oK,hold,qo,ja hi hz,gi];refine⟨by simp[ae],?_⟩;congr 2;apply Array.toList_inj.1;simp
  .have hlen:=own.len;have hx:=src.len;refine⟨by rw[List.length_append,hlen,hx,Nat.add_mul],.inr ⟨w.heap.size,(Builtin.zeroCells z.cells (grownCap w (s.len+n) s.cap e - (s.len+n))).toList,rfl,dq,?_,?_,zQ⟩,fun v hv=>?_⟩
   .unfold World.cL ae;simp only[Array.getElem?_push,if_true,List.append_assoc]
   .simp only[List.length_append,hlen,hx,Array.length_toList,oL,Sa];rw[<- Nat.add_mul,<- Nat.add_mul];congr 1;omega
   .rcases List.mem_append.1 hv with h | h
    .exact own.cells v h
    .exact src.cells v h
  .refine⟨rfl,rfl,rfl,by simp[World.cL,ae],fun i hi _=>?_⟩;simp only[World.cL,ae];exact jX _ _ _ hi
section steps
variable {A B:Prop} {K:Int->Prop}
theorem Ar.i64{e:Int}(h:-9223372036854775808<=e/\e<=9223372036854775807)(k:K e):Ar .i64 e K:=fun z hz=>by rw[IntWalk.i64_in e h]at hz;subst hz;exact k
theorem Ar.u64{e:Int}(h:0<=e/\e<=18446744073709551615)(k:K e):Ar .u64 e K:=fun z hz=>by rw[IntWalk.u64_in e h]at hz;subst hz;exact k
theorem Ar.u32{e:Int}(h:0<=e/\e<=4294967295)(k:K e):Ar .u32 e K:=fun z hz=>by rw[IntWalk.u32_in e h]at hz;subst hz;exact k
theorem Ar.u16{e:Int}(h:0<=e/\e<=65535)(k:K e):Ar .u16 e K:=fun z hz=>by rw[IntWalk.u16_in e h]at hz;subst hz;exact k
theorem Ar.u8{e:Int}(h:0<=e/\e<=255)(k:K e):Ar .u8 e K:=fun z hz=>by rw[IntWalk.u8_in e h]at hz;subst hz;exact k
theorem wrap_u8(n:Int):IntKind.u8.wrap n=n % 256:=by simp[IntKind.wrap,IntKind.signed,IntKind.bits]
theorem wrap_u64(n:Int):IntKind.u64.wrap n=n % 18446744073709551616:=by simp[IntKind.wrap,IntKind.signed,IntKind.bits]
theorem Ar.Qy{e:Int}(k:K (e % 256)):Ar .u8 e K:=fun z hz=>by rw[wrap_u8]at hz;subst hz;exact k
theorem Ar.aah{e:Int}(k:K (e % 18446744073709551616)):Ar .u64 e K:=fun z hz=>by rw[wrap_u64]at hz;subst hz;exact k
theorem Nm.mk{e:Int}(k:K e):Nm e K:=fun z hz=>by subst hz;exact k
theorem Nm.as{e e':Int}(h:e=e')(k:K e'):Nm e K:=fun z hz=>by subst hz;rw[h];exact k
theorem If.dec{p:Prop}[Decidable p](t:p->A)(f:¬ p->B):If (decide p) A B:= .mk (fun h=>t (of_decide_eq_true h)) (fun h=>f (of_decide_eq_false h))
theorem If.beq{a b:Int}(t:a=b->A)(f:a≠b->B):If (a == b) A B:= .mk (fun h=>t (eq_of_beq h)) (fun h=>f (fun e=>by subst e;simp at h))
theorem If.bne{a b:Int}(t:a≠b->A)(f:a=b->B):If (a != b) A B:= .mk (fun h=>t (bne_iff_ne.1 h)) (fun h=>f (Classical.byContradiction fun e=>by have:=bne_iff_ne.2 e;rw[h]at this;cases this))
theorem If.yes(t:A):If true A B:=t
theorem If.no(f:B):If false A B:=f
theorem If.not{b:Bool}(h:If b B A):If (!b) A B:=by cases b <;> exact h
theorem If.cases{b:Bool}(t:b=true->A)(f:b=false->B):If b A B:= .mk t f
theorem Nn.mk{a:Addr}{K:Addr->Prop}(k:K a):Nn (some a) K:=⟨a,rfl,k⟩
theorem au.mk{w:Wd}{o:Obj}{K:Nat->Pw}(k:∀b w',Gq w o b w'->K b w'):au w o K:=k
theorem Ix.cell{w:Wd}{s:Sl}{cs:List Value}{i:Int}{K:Addr->Prop}(h:Rd w.heap s 1 cs)(h0:0<=i)(h1:i < (s.len:Int))
  (k:∀b o v,s.aw=some b->cs[i.toNat]? = some v->Cell w ⟨b,o,none⟩ v->K ⟨b,o,none⟩):Ix s.a s.len i 1 K:=by
 have hl:cs.length=s.len:=by simpa using h.len
 have aN:i.toNat < cs.length:=by omega
 obtain⟨b,off,ha,hc⟩:=h.at_ (by intro e;subst e;simp at aN);refine⟨_,ha,h0,h1,?_⟩;rw[ay rfl];exact k _ _ _ (by simp[Sl.aw,ha]) (List.getElem?_eq_getElem aN) (Cell.mk (by simpa using hc i.toNat aN))
theorem Ix.int{w:Wd}{s:Sl}{k:IntKind}{l:List Int}{i:Int}{K:Addr->Prop}(h:Rd w.heap s 1 (l.map (Value.int k)))(h0:0<=i)(h1:i < (s.len:Int))
  (kk:∀b o,s.aw=some b->Cell w ⟨b,o,none⟩ (.int k (l.getD i.toNat 0))->K ⟨b,o,none⟩):Ix s.a s.len i 1 K:=
 Ix.cell h h0 h1 fun b o v Wg hv hc=>by
  have:v = .int k (l.getD i.toNat 0):=by
   simp only[List.getElem?_map,Option.map_eq_some_iff]at hv;obtain⟨x,hx,rfl⟩:=hv;simp[List.getD,hx]
  subst this;exact kk b o Wg hc
end steps
def B8(l:List Int):Prop:=∀x∈l,0<=x/\x<=255
theorem B8.nil:B8 []:=by intro x h;cases h
theorem B8.cons{x:Int}{l:List Int}(h:0<=x/\x<=255)(k:B8 l):B8 (x::l):=by
 intro y hy;rcases List.mem_cons.1 hy with rfl | hy
 .exact h
 .exact k y hy
theorem B8.append{l m:List Int}(h:B8 l)(k:B8 m):B8 (l++m):=by
 intro y hy;rcases List.mem_append.1 hy with hy | hy
 .exact h y hy
 .exact k y hy
theorem B8.get{l:List Int}(h:B8 l)(i:Nat):0<=l.getD i 0/\l.getD i 0<=255:=by
 rcases Nat.lt_or_ge i l.length with aN | zQ
 .have:l.getD i 0=l[i]:=by simp[List.getD,aN]
  rw[this];exact h _ (List.getElem_mem _)
 .simp[List.getD,List.getElem?_eq_none zQ]
theorem B8.sub{l m:List Int}(h:B8 l)(k:∀x∈m,x∈l):B8 m:=fun x hx=>h x (k x hx)
theorem B8.take{l:List Int}(h:B8 l)(n:Nat):B8 (l.take n):=h.sub fun _ hx=>List.mem_of_mem_take hx
theorem B8.drop{l:List Int}(h:B8 l)(n:Nat):B8 (l.drop n):=h.sub fun _ hx=>List.mem_of_mem_drop hx
theorem df{k:IntKind}{l:List Int}:∀v∈l.map (Value.int k),cB v=true:=by
 intro v hv;obtain⟨x,_,rfl⟩:=List.mem_map.1 hv;rfl
theorem Cut.mk{s:Sl}{lo hi mx:Int}{sz:Nat}{K:Sl->Prop}(h0:0<=lo)(h1:lo<=hi)(h2:hi<=mx)(h3:mx<=(s.cap:Int))
  (k:K ⟨h_ s.a mx.toNat lo.toNat sz,(hi - lo).toNat,(mx - lo).toNat⟩):Cut s lo hi mx sz K:=⟨h0,h1,h2,h3,fun s' e=>by subst e;exact k⟩
theorem Rd.cut{h:Array Obj}{s:Sl}{sz:Nat}{cs:List Value}(r:Rd h s sz cs){lo hi mx:Nat}(h1:lo<=hi)(h2:hi<=s.len)(h3:hi<=mx) :
  Rd h ⟨h_ s.a mx lo sz,hi - lo,mx - lo⟩ sz ((cs.drop (lo * sz)).take ((hi - lo) * sz)):=by
 have hl:=r.len;have hle:hi * sz<=s.len * sz:=Nat.mul_le_mul_right _ h2;have acu:lo * sz+(hi - lo) * sz=hi * sz:=by rw[<- Nat.add_mul];congr 1;omega
 refine⟨by rw[List.length_take,List.length_drop];simp only;omega,by simp only;omega,fun du=>?_,fun v hv=>r.cells v (List.mem_of_mem_drop (List.mem_of_mem_take hv))⟩;have aai:cs≠[]:=by intro e;subst e;simp at du
 obtain⟨b,off,ha,hc⟩:=r.at_ aai
 have aN:lo < hi:=by
  rcases Nat.lt_or_ge lo hi with h | h
  .exact h
  .exfalso;apply du;have:hi - lo=0:=by omega
   simp[this]
 refine⟨b,off+lo * sz,?_,fun i qO=>?_⟩
 .unfold h_;rw[if_neg (by omega),ha];simp[ay]
 .simp only[List.length_take,List.length_drop]at qO;rw[Nat.add_assoc,hc (lo * sz+i) (by omega)];simp[List.getElem_take,List.getElem_drop]
end Go.V
