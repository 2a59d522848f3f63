/- Texts for LRollPlays, part 6. -/
import Derived.OrdersIn
import Derived.Scope
import Derived.Recover
import Derived.ControlIn
import Derived.Test.YtpjbalhhlaofmaaGreatQy5
namespace Go.V
section sound
variable {P:Program} {n:Nat} {D:List Deferred} {pk:Nat} {X:PX}
def wz(M:Nat->Bool)(ρ ρ':Env):Prop:=∀mask,M mask=true->∀t,Nat.testBit mask t=false->ρ' t=ρ t
theorem wz.refl(M:Nat->Bool)(ρ:Env):wz M ρ ρ:=fun _ _ _ _=>rfl
theorem wz.trans{M:Nat->Bool}{a b c:Env}(h:wz M a b)(k:wz M b c):wz M a c:=fun m hm t ht=>(k m hm t ht).trans (h m hm t ht)
theorem wz.mono{M M':Nat->Bool}{a b:Env}(h:wz M a b)(hm:∀m,M' m=true->M m=true):wz M' a b:=fun m WZ t ht=>h m (hm m WZ) t ht
theorem wz.dX{M:Nat->Bool}{ρ:Env}{d:Option Nat}(h:∀m,M m=true->pM m d=true)(v:Value):wz M ρ (dX ρ d v):=by
 intro m hm t ht
 cases d with
 | none=>rfl
 | some d=>
  have:=h m hm;simp only[pM]at this;refine Ld _ _ fun e=>?_
  subst e;rw[ht]at this;cases this
def wN(ops:Array Oper)(o:Oper)(ρ:Env):Bool:=
 Region.wanted o (fun j=>match(ops[j]?).bind (·.dst) with
  | some d=>match ρ d with
   | .bool b=>some b
   | _=>none
  | none=>none)
theorem mu.wanted{a:Act}{ρ:Env}(h:mu D n a ρ)(ops:Array Oper)(o:Oper):Region.wanted o (yielded ops a.tmps)=wN ops o ρ:=by
 unfold wN;congr 1;funext j;unfold yielded
 cases hd:(ops[j]?).bind (·.dst) with
 | none=>rfl
 | some d=>
  simp only[Option.bind_some];have hg:=h.get d;rcases Nat.lt_or_ge d a.tmps.size with cL | zI
  .have:a.tmps[d]? = some (ρ d):=by
    rw[<- hg];simp[cL]
   rw[this]
   cases ρ d <;> rfl
  .have e1:a.tmps[d]? = none:=by simp[zI]
   have e2:ρ d=undef:=by rw[<- hg];simp[e1]
   rw[e1,e2];rfl
theorem pN{ops:Array Oper}{o:Oper}{ρ:Env}{A B:Prop}(h:gW ops o ρ A B):(wN ops o ρ=true/\A)∨(wN ops o ρ=false/\B):=by
 unfold gW at h;unfold wN Region.wanted
 cases hg:o.guard with
 | none=>rw[hg]at h;exact .inl ⟨rfl,h⟩
 | some gw=>
  obtain⟨j,want⟩:=gw;simp only[hg]at h ⊢
  cases hd:(ops[j]?).bind (·.dst) with
  | none=>rw[hd]at h;exact .inr ⟨rfl,h⟩
  | some d=>
   simp only[hd]at h ⊢;split at h
   .rename_i b hb;simp only[hb]
    cases want <;> cases b <;> simp only[cond_true,cond_false]at h
    .exact .inl ⟨rfl,h⟩
    .exact .inr ⟨rfl,h⟩
    .exact .inr ⟨rfl,h⟩
    .exact .inl ⟨rfl,h⟩
   .rename_i bC;refine .inr ⟨?_,h⟩
    cases hv:ρ d <;> first | rfl | exact absurd hv (bC _)
theorem jE{g:Bool}{v:Value}{K:Value->Prop}(h:pd g v K):K v:=by
 unfold pd at h
 cases g with
 | false=>exact h
 | true=>
  simp only[cond_true]at h;split at h
  .rename_i b
   cases b
   .exact h.out.2 rfl
   .exact h.out.1 rfl
  .exact h
def jx(D:List Deferred)(n:Nat)(Q:Exit->Env->Pw)(X:PX)(M:Nat->Bool)(ρ0:Env):Exit->Act->Pw
 | .panic c,a,w=>X c w/\∃ρ',mu D n a ρ'/\wz M ρ0 ρ'
 | .normal,a,w=>∃ρ',mu D n a ρ'/\Q .normal ρ' w/\wz M ρ0 ρ'
 | .exit i,a,w=>∃ρ',mu D n a ρ'/\Q (.exit i) ρ' w/\wz M ρ0 ρ'
 | .goto i,a,w=>∃ρ',mu D n a ρ'/\Q (.goto i) ρ' w/\wz M ρ0 ρ'
 | .ret,a,w=>∃ρ',mu D n a ρ'/\Q .ret ρ' w/\wz M ρ0 ρ'
 | .outgrown,_,_=>False
theorem jx.mono{Q:Exit->Env->Pw}{M M':Nat->Bool}{ρ0:Env}{e:Exit}{a:Act}{w:Wd}(h:jx D n Q X M ρ0 e a w)(hm:∀m,M' m=true->M m=true):jx D n Q X M' ρ0 e a w:=by
 cases e with
 | panic c=>obtain⟨h1,ρ',h2,h3⟩:=h;exact⟨h1,ρ',h2,h3.mono hm⟩
 | outgrown=>exact h
 | _=>obtain⟨ρ',h1,h2,h3⟩:=h;exact⟨ρ',h1,h2,h3.mono hm⟩
theorem jx.from{Q:Exit->Env->Pw}{M:Nat->Bool}{ρ0 ρ1:Env}{e:Exit}{a:Act}{w:Wd}(h:jx D n Q X M ρ1 e a w)(hf:wz M ρ0 ρ1):jx D n Q X M ρ0 e a w:=by
 cases e with
 | panic c=>obtain⟨h1,ρ',h2,h3⟩:=h;exact⟨h1,ρ',h2,hf.trans h3⟩
 | outgrown=>exact h
 | _=>obtain⟨ρ',h1,h2,h3⟩:=h;exact⟨ρ',h1,h2,hf.trans h3⟩
theorem mu.aao{M:Nat->Bool}{ρ0 ρ':Env}{a:Act}{d:Option Nat}{v:Value}(h:mu D n (a.put d v) ρ')(f:wz M ρ0 ρ')(hm:∀m,M m=true->pM m d=true):∃ρ',mu D n a ρ'/\wz M ρ0 ρ':=by
 cases d with
 | none=>exact⟨ρ',h,f⟩
 | some d=>
  refine⟨fun t=>a.tmps.getD t undef,⟨h.defers,by have:=h.size;simpa[Act.put] using this,fun _=>rfl⟩,fun m hM t ht=>?_⟩;have hd:=hm m hM;have bC:t≠d:=by rintro rfl;simp only[pM]at hd;rw[hd]at ht;cases ht
  have h1:=h.get t;rw[<- f m hM t ht,<- h1];simp[Act.put,Array.getElem?_setIfInBounds_ne (Ne.symm bC)]
theorem GI{o:Oper}{a:Act}{w:Wd}{K:Value->Pw}{next:Act->Pw}{Q:Exit->Act->Pw}(h:kV P X false o a.eval K w)
  (hk:∀v w',K v w'->next (a.put o.dst v) w') (hx:∀c w',X c w'->Q (.panic c) a w'):o.wp P a w next Q:=by
 unfold kV at h;unfold Oper.wp;generalize(execOp a.eval o).run P w=r at h;split at h
 .exact hk _ _ h
 .exact hk _ _ h
 .refine Calls.mono h fun e kC he=>?_
  rcases he with⟨v,rfl,hv⟩ | ⟨c,rfl,hc⟩
  .exact hk _ _ hv
  .exact hx _ _ hc
 .cases h.1
 .exact hx _ _ h
 .exact h.elim
def pO(ro:Option Nat):Fence:={ Fence.wide with round:=ro }
theorem Fe{ro:Option Nat}{o:Oper}{a:Act}{w:Wd}{K:Value->Pw}{next:Act->Pw}{Q:Exit->Act->Pw}(sy:∀c,o.op ≠ .defer c)(h:kV P X true o a.eval K w)
  (hk:∀v w',K v w'->next (a.put o.dst v) w') (hx:∀c w',X c w'->Q (.panic c) a w'):o.wpIn (pO ro) 0 P a w next Q:=by
 unfold kV at h;refine⟨fun f _=>trivial,?_⟩;rw[Oper.semAt_eq _ _ _ sy];generalize(execOp a.eval o).run P w=r at h;have dp:(pO ro).depth.isSome=true->1<=0:=fun h=>by cases h
 split at h
 .exact hk _ _ h
 .exact hk _ _ h
 .refine⟨dp,?_⟩;have h':=(callsIn_wide (n:=0)).2 h;refine CallsIn.mono (F:=pO ro) h' fun e kC he=>?_
  rcases he with⟨v,rfl,hv⟩ | ⟨c,rfl,hc⟩
  .exact hk _ _ hv
  .exact hx _ _ hc
 .refine⟨dp,RoundIn.mono (F:=pO ro) h.2 fun e kC he=>?_⟩;rcases he with⟨v,rfl,hv⟩ | ⟨c,rfl,hc⟩
  .exact hk _ _ hv
  .exact hx _ _ hc
 .exact hx _ _ h
 .exact h.elim
theorem zJ{rd:Bool}{o:Oper}{ρ:Env}{K:Value->Pw}{w:Wd}(h:TU P pk X rd o ρ K w):∀c,o.op ≠ .defer c:=fun c he=>by
 unfold TU at h;rw[he]at h;simp only[To,he]at h
theorem IW{ops:Array Oper}{o:Oper}{ρ:Env}{K:Value->Pw}{w:Wd}(h:opE P pk X ops o ρ K w):∀c,o.op ≠ .defer c:=fun c he=>by
 unfold opE at h;simp only[he]at h;exact zJ h c he
theorem Oo{ops:Array Oper}{o:Oper}{ρ:Env}{K:Value->Pw}{w:Wd}(h:opE P pk X ops o ρ K w):kV P X true o (ev ρ) K w:=by
 unfold opE at h;split at h
 .rename_i it he;split at h
  .exact .gU (by unfold execOp;rw[he]) h
  .exact nz h
 .exact nz h
theorem BZ{ro:Option Nat}{ops:Array Oper}{M:Nat->Bool}{Q:Exit->Env->Pw}{ρ0:Env}:∀(l pre:List Oper)(ρ:Env)(w:Wd)(a:Act),ops.toList=pre++l->
  (∀o∈l,sV n o.dst=true)->(∀o∈l,∀m,M m=true->pM m o.dst=true)->Lu P pk X ops pre.length l ρ (Q .normal) w->mu D n a ρ->wz M ρ0 ρ->
  wpOpsIn (pO ro) 0 P ops (jx D n Q X M ρ0) (List.range' pre.length l.length) a w
 | [],pre,ρ,w,a,_,_,_,h,hr,hf=>⟨ρ,hr,h,hf⟩
 | o::l,pre,ρ,w,a,he,hd,hm,h,hr,hf=>by
  have hi:ops[pre.length]? = some o:=by rw[<- Array.getElem?_toList,he];simp
  have next:∀v w',Lu P pk X ops (pre.length+1) l (dX ρ o.dst v) (Q .normal) w'->wpOpsIn (pO ro) 0 P ops (jx D n Q X M ρ0) (List.range' (pre.length+1) l.length) (a.put o.dst v) w':=fun v w' h'=>by
   have:=BZ (ro:=ro) (ops:=ops) l (pre++[o]) (dX ρ o.dst v) w' (a.put o.dst v) (by simp[he]) (fun x hx=>hd x (by simp[hx])) (fun x hx=>hm x (by simp[hx])) (by simpa using h') (hr.dX (hd o (by simp)) v) (hf.trans (.dX (hm o (by simp)) v));simpa using this
  simp only[List.length_cons,List.range'_succ,wpOpsIn,hi,hr.wanted];rcases pN h with⟨hw,hA⟩ | ⟨hw,hB⟩
  .rw[if_pos hw];refine Fe (X:=X) (K:=fun v w'=>pd (VE ops pre.length) v fun v=>Lu P pk X ops (pre.length+1) l (dX ρ o.dst v) (Q .normal) w') (IW hA) ?_ (fun v w' h'=>next v w' (jE (K:=fun v=>Lu P pk X ops (pre.length+1) l (dX ρ o.dst v) (Q .normal) w') h')) (fun c w' hx=>⟨hx,_,hr,hf⟩);rw[hr.eval];exact Oo hA
  .rw[if_neg (by simp[hw])];exact⟨fun _ _=>trivial,next _ _ hB⟩
theorem eZ{ops:Array Oper}{M:Nat->Bool}{ρ0:Env}{S:Pw}{i:Nat}{next:Env->Pw}{ρ:Env}{w:Wd}{a:Act}{K':Act->Pw}{Q:Exit->Act->Pw}
  (hd:∀o∈ops.toList,sV n o.dst=true) (hm:∀o∈ops.toList,∀m,M m=true->pM m o.dst=true) (h:wK P pk X ops S i next ρ w) (hS:S w) (hr:mu D n a ρ) (hf:wz M ρ0 ρ) (hx:∀c w',X c w'->Q (.panic c) a w')
  (hk:∀ρ' a' w',S w'->next ρ' w'->mu D n a' ρ'->wz M ρ0 ρ'->K' a' w'):wpOp P ops Q i (fun a' w'=>(S w'∨BH ops i=true)/\K' a' w') a w:=by
 unfold wK at h;split at h
 .rename_i o ho
  have dI:o∈ops.toList:=by
   have:o∈ops:=Array.mem_of_getElem? ho;simpa using this
  unfold wpOp;simp only[ho,hr.wanted];rcases pN h with⟨hw,hA⟩ | ⟨hw,hB⟩
  .rw[if_pos hw];refine .inl (GI (X:=X) (K:=fun v w'=>S w'/\pd (VE ops i) v fun v=>next (dX ρ o.dst v) w') ?_ (fun v w' h'=>⟨.inl h'.1,hk _ _ _ h'.1 (jE (K:=fun v=>next (dX ρ o.dst v) w') h'.2) (hr.dX (hd o dI) v) (hf.trans (.dX (hm o dI) v))⟩) hx);rw[hr.eval];exact nz hA
  .rw[if_neg (by simp[hw])];exact⟨.inl hS,hk _ _ _ hS hB (hr.dX (hd o dI) undef) (hf.trans (.dX (hm o dI) undef))⟩
 .exact h.elim
theorem IX{ops:Array Oper}{M:Nat->Bool}{Q:Exit->Env->Pw}{ρ0:Env}{S:Pw}(hd:∀o∈ops.toList,sV n o.dst=true)
  (hm:∀o∈ops.toList,∀m,M m=true->pM m o.dst=true) (Zn:Region.noSelect ops=true):∀(p:qu)(f:Nat)(li:Array Bool)(ρ:Env)(w:Wd)(a:Act),
  cr ops p f li=true->jD P pk X ops S p ρ (Q .normal) w->S w->oZ ops li->mu D n a ρ->wz M ρ0 ρ->
  mr P ops (jx D n Q X M ρ0) S f li a w:=by
 intro p
 induction p with
 | fin=>
  intro f li ρ w a hp h hS ss hr hf;simp only[cr,List.isEmpty_iff]at hp;exact sT hp ⟨ρ,hr,h,hf⟩ f
 | last i=>
  intro f li ρ w a hp h hS ss hr hf
  cases f with
  | zero=>simp[cr]at hp
  | succ f=>
   simp only[cr,Bool.and_eq_true,beq_iff_eq,List.isEmpty_iff]at hp;refine nD hp.1.1 (by simp) fun j hj=>?_
   simp only[List.mem_singleton]at hj;subst hj;simp only[jD]at h;split at h
   .rename_i o ho
    have dI:o∈ops.toList:=by
     have:o∈ops:=Array.mem_of_getElem? ho;simpa using this
    unfold wpOp;simp only[ho,hr.wanted];rcases pN h with⟨hw,hA⟩ | ⟨hw,hB⟩
    .rw[if_pos hw];refine .inl (GI (X:=X) (K:=fun v w'=>pd (VE ops j) v fun v=>Q .normal (dX ρ o.dst v) w') ?_ (fun v w' h'=>⟨.inr hp.1.2,sT hp.2 ⟨_,hr.dX (hd o dI) v,jE (K:=fun v=>Q .normal (dX ρ o.dst v) w') h',hf.trans (.dX (hm o dI) v)⟩ f⟩) (fun c w' hx=>⟨hx,_,hr,hf⟩));rw[hr.eval];exact nz hA
    .rw[if_neg (by simp[hw])];exact⟨.inr hp.1.2,sT hp.2 ⟨_,hr.dX (hd o dI) undef,hB,hf.trans (.dX (hm o dI) undef)⟩ f⟩
   .exact h.elim
 | take i r ih=>
  intro f li ρ w a hp h hS ss hr hf
  cases f with
  | zero=>simp[cr]at hp
  | succ f=>
   simp only[cr,Bool.and_eq_true]at hp;obtain⟨⟨h1,h2⟩,h3⟩:=hp;simp only[jD]at h;split at h
   .rename_i o ho
    have dI:o∈ops.toList:=by
     have:o∈ops:=Array.mem_of_getElem? ho;simpa using this
    have fin:∀v,YieldsIf P ops S o v a->jD P pk X ops S r (dX ρ o.dst v) (Q .normal) w->mr P ops (jx D n Q X M ρ0) S (f+1) li a w:=fun v hy hh=>
     IE ho ss Zn h1 h2 (fun c a w hq=>by obtain⟨h1,ρ',h2,h3⟩:=hq;exact⟨h1,h2.aao h3 (hm o dI)⟩) hy hS
      (ih f _ _ _ _ h3 hh hS (ss.set (by simpa using h2)) (hr.dX (hd o dI) v) (hf.trans (.dX (hm o dI) v)))
    rcases pN h with⟨hw,hA⟩ | ⟨hw,hB⟩
    .obtain⟨v,hv,hk⟩:=IU hA;refine fin v (.inl ⟨by rw[hr.wanted];exact hw,?_⟩) (jE (K:=fun v=>jD P pk X ops S r (dX ρ o.dst v) (Q .normal) w) hk);rw[hr.eval];exact hv
    .exact fin undef (.inr ⟨by rw[hr.wanted];exact hw,rfl⟩) hB
   .exact h.elim
 | one i r ih=>
  intro f li ρ w a hp h hS ss hr hf
  cases f with
  | zero=>simp[cr]at hp
  | succ f=>
   simp only[cr,Bool.and_eq_true,beq_iff_eq]at hp;refine nD hp.1 (by simp) fun j hj=>?_
   have Eb:j∈Region.ready .any ops li:=by rw[hp.1];exact hj
   simp only[List.mem_singleton]at hj;subst hj;exact eZ hd hm h hS hr hf (fun c w' hx=>⟨hx,_,hr,hf⟩) fun ρ' a' w' zC hn d_ my=>ih f _ _ _ _ hp.2 hn zC (ss.set Eb) d_ my
 | two i ri j rj QK QL=>
  intro f li ρ w a hp h hS ss hr hf
  cases f with
  | zero=>simp[cr]at hp
  | succ f=>
   simp only[cr,Bool.and_eq_true,beq_iff_eq]at hp;refine nD hp.1.1 (by simp) fun x hx=>?_
   have Eb:x∈Region.ready .any ops li:=by rw[hp.1.1];exact hx
   simp only[List.mem_cons,List.not_mem_nil,or_false]at hx;rcases hx with rfl | rfl
   .exact eZ hd hm h.1 hS hr hf (fun c w' hx=>⟨hx,_,hr,hf⟩) fun ρ' a' w' zC hn d_ my=>QK f _ _ _ _ hp.1.2 hn zC (ss.set Eb) d_ my
   .exact eZ hd hm h.2 hS hr hf (fun c w' hx=>⟨hx,_,hr,hf⟩) fun ρ' a' w' zC hn d_ my=>QL f _ _ _ _ hp.2 hn zC (ss.set Eb) d_ my
 | three i ri j rj k rk QK QL W6=>
  intro f li ρ w a hp h hS ss hr hf
  cases f with
  | zero=>simp[cr]at hp
  | succ f=>
   simp only[cr,Bool.and_eq_true,beq_iff_eq]at hp;refine nD hp.1.1.1 (by simp) fun x hx=>?_
   have Eb:x∈Region.ready .any ops li:=by rw[hp.1.1.1];exact hx
   simp only[List.mem_cons,List.not_mem_nil,or_false]at hx;rcases hx with rfl | rfl | rfl
   .exact eZ hd hm h.1 hS hr hf (fun c w' hx=>⟨hx,_,hr,hf⟩) fun ρ' a' w' zC hn d_ my=>QK f _ _ _ _ hp.1.1.2 hn zC (ss.set Eb) d_ my
   .exact eZ hd hm h.2.1 hS hr hf (fun c w' hx=>⟨hx,_,hr,hf⟩) fun ρ' a' w' zC hn d_ my=>QL f _ _ _ _ hp.1.2 hn zC (ss.set Eb) d_ my
   .exact eZ hd hm h.2.2 hS hr hf (fun c w' hx=>⟨hx,_,hr,hf⟩) fun ρ' a' w' zC hn d_ my=>W6 f _ _ _ _ hp.2 hn zC (ss.set Eb) d_ my
 | four i ri j rj k rk l rl QK QL W6 ihl=>
  intro f li ρ w a hp h hS ss hr hf
  cases f with
  | zero=>simp[cr]at hp
  | succ f=>
   simp only[cr,Bool.and_eq_true,beq_iff_eq]at hp;refine nD hp.1.1.1.1 (by simp) fun x hx=>?_
   have Eb:x∈Region.ready .any ops li:=by rw[hp.1.1.1.1];exact hx
   simp only[List.mem_cons,List.not_mem_nil,or_false]at hx;rcases hx with rfl | rfl | rfl | rfl
   .exact eZ hd hm h.1 hS hr hf (fun c w' hx=>⟨hx,_,hr,hf⟩) fun ρ' a' w' zC hn d_ my=>QK f _ _ _ _ hp.1.1.1.2 hn zC (ss.set Eb) d_ my
   .exact eZ hd hm h.2.1 hS hr hf (fun c w' hx=>⟨hx,_,hr,hf⟩) fun ρ' a' w' zC hn d_ my=>QL f _ _ _ _ hp.1.1.2 hn zC (ss.set Eb) d_ my
   .exact eZ hd hm h.2.2.1 hS hr hf (fun c w' hx=>⟨hx,_,hr,hf⟩) fun ρ' a' w' zC hn d_ my=>W6 f _ _ _ _ hp.1.2 hn zC (ss.set Eb) d_ my
   .exact eZ hd hm h.2.2.2 hS hr hf (fun c w' hx=>⟨hx,_,hr,hf⟩) fun ρ' a' w' zC hn d_ my=>ihl f _ _ _ _ hp.2 hn zC (ss.set Eb) d_ my
def iX:qu->Bool
 | .fin=>true
 | .last _=>false
 | .take _ _=>false
 | .one _ r=>iX r
 | .two _ ri _ rj=>iX ri && iX rj
 | .three _ ri _ rj _ rk=>iX ri && iX rj && iX rk
 | .four _ ri _ rj _ rk _ rl=>iX ri && iX rj && iX rk && iX rl
def cu:As->Code->Bool
 | .draw p,.region _ _ _=>iX p
 | .seq a b,.seq x y=>cu a x && cu b y
 | .join _ _ a b,.seq x y=>cu a x && cu b y
 | .cond a b,.cond _ x y=>cu a x && cu b y
 | .block a,.block _ x=>cu a x
 | .loop _ _ a,.loop x=>cu a x
 | .scope a,.scope x=>cu a x
 | _,c=>qv c
theorem kV.rd{o:Oper}{ε:Operand->Value}{K:Value->Pw}{w:Wd}(h:kV P X false o ε K w):kV P X true o ε K w:=by
 unfold kV at *;split at h <;> first | exact h | exact absurd h.1 (by decide) | trivial
theorem e_{ro:Option Nat}{ops:Array Oper}{M:Nat->Bool}{ρ0:Env}{S:Pw}{i:Nat}{next:Env->Pw}{ρ:Env}{w:Wd}{a:Act}{K':Act->Pw}{Q:Exit->Act->Pw}
  (hd:∀o∈ops.toList,sV n o.dst=true) (hm:∀o∈ops.toList,∀m,M m=true->pM m o.dst=true) (h:wK P pk X ops S i next ρ w) (hr:mu D n a ρ) (hf:wz M ρ0 ρ) (hx:∀c w',X c w'->Q (.panic c) a w')
  (hk:∀ρ' a' w',next ρ' w'->mu D n a' ρ'->wz M ρ0 ρ'->K' a' w'):wpOpIn (pO ro) 0 P ops Q i K' a w:=by
 unfold wK at h;split at h
 .rename_i o ho
  have dI:o∈ops.toList:=by
   have:o∈ops:=Array.mem_of_getElem? ho;simpa using this
  unfold wpOpIn;simp only[ho,hr.wanted];rcases pN h with⟨hw,hA⟩ | ⟨hw,hB⟩
  .rw[if_pos hw];refine Fe (X:=X) (K:=fun v w'=>S w'/\pd (VE ops i) v fun v=>next (dX ρ o.dst v) w') (zJ hA) ?_ (fun v w' h'=>hk _ _ _ (jE (K:=fun v=>next (dX ρ o.dst v) w') h'.2) (hr.dX (hd o dI) v) (hf.trans (.dX (hm o dI) v))) hx;rw[hr.eval];exact(nz hA).rd
  .rw[if_neg (by simp[hw])];exact⟨fun _ _=>trivial,hk _ _ _ hB (hr.dX (hd o dI) undef) (hf.trans (.dX (hm o dI) undef))⟩
 .exact h.elim
theorem IY{ro:Option Nat}{ops:Array Oper}{M:Nat->Bool}{Q:Exit->Env->Pw}{ρ0:Env}{S:Pw}(hd:∀o∈ops.toList,sV n o.dst=true)
  (hm:∀o∈ops.toList,∀m,M m=true->pM m o.dst=true):∀(p:qu)(f:Nat)(li:Array Bool)(ρ:Env)(w:Wd)(a:Act),iX p=true->
  cr ops p f li=true->jD P pk X ops S p ρ (Q .normal) w->mu D n a ρ->wz M ρ0 ρ->
  wpAnyIn (pO ro) 0 P .any ops (jx D n Q X M ρ0) f li a w:=by
 have all:∀{l:List Nat}{f:Nat}{li:Array Bool}{a:Act}{w:Wd},Region.ready .any ops li=l->l≠[]->(∀i∈l,wpOpIn (pO ro) 0 P ops (jx D n Q X M ρ0) i (wpAnyIn (pO ro) 0 P .any ops (jx D n Q X M ρ0) f (li.setIfInBounds i true)) a w)->wpAnyIn (pO ro) 0 P .any ops (jx D n Q X M ρ0) (f+1) li a w:=
  fun {l f li a w} h1 h2 h3=>⟨fun h=>(h2 (h1.symm.trans h)).elim,fun i hi=>h3 i (by rw[<- h1];exact hi)⟩
 intro p
 induction p with
 | fin=>
  intro f li ρ w a _ hp h hr hf;simp only[cr,List.isEmpty_iff]at hp
  cases f with
  | zero=>exact⟨hp,ρ,hr,h,hf⟩
  | succ f=>exact⟨fun _=>⟨ρ,hr,h,hf⟩,fun i hi=>by rw[hp]at hi;cases hi⟩
 | last i=>intro f li ρ w a ht;cases ht
 | take i r ih=>intro f li ρ w a ht;cases ht
 | one i r ih=>
  intro f li ρ w a ht hp h hr hf
  cases f with
  | zero=>simp[cr]at hp
  | succ f=>
   simp only[cr,Bool.and_eq_true,beq_iff_eq]at hp;refine all hp.1 (by simp) fun j hj=>?_
   simp only[List.mem_singleton]at hj;subst hj;exact e_ hd hm h hr hf (fun c w' hx=>⟨hx,_,hr,hf⟩) fun ρ' a' w' hn d_ my=>ih f _ _ _ _ ht hp.2 hn d_ my
 | two i ri j rj QK QL=>
  intro f li ρ w a ht hp h hr hf;simp only[iX,Bool.and_eq_true]at ht
  cases f with
  | zero=>simp[cr]at hp
  | succ f=>
   simp only[cr,Bool.and_eq_true,beq_iff_eq]at hp;refine all hp.1.1 (by simp) fun x hx=>?_
   simp only[List.mem_cons,List.not_mem_nil,or_false]at hx;rcases hx with rfl | rfl
   .exact e_ hd hm h.1 hr hf (fun c w' hx=>⟨hx,_,hr,hf⟩) fun ρ' a' w' hn d_ my=>QK f _ _ _ _ ht.1 hp.1.2 hn d_ my
   .exact e_ hd hm h.2 hr hf (fun c w' hx=>⟨hx,_,hr,hf⟩) fun ρ' a' w' hn d_ my=>QL f _ _ _ _ ht.2 hp.2 hn d_ my
 | three i ri j rj k rk QK QL W6=>
  intro f li ρ w a ht hp h hr hf;simp only[iX,Bool.and_eq_true]at ht
  cases f with
  | zero=>simp[cr]at hp
  | succ f=>
   simp only[cr,Bool.and_eq_true,beq_iff_eq]at hp;refine all hp.1.1.1 (by simp) fun x hx=>?_
   simp only[List.mem_cons,List.not_mem_nil,or_false]at hx;rcases hx with rfl | rfl | rfl
   .exact e_ hd hm h.1 hr hf (fun c w' hx=>⟨hx,_,hr,hf⟩) fun ρ' a' w' hn d_ my=>QK f _ _ _ _ ht.1.1 hp.1.1.2 hn d_ my
   .exact e_ hd hm h.2.1 hr hf (fun c w' hx=>⟨hx,_,hr,hf⟩) fun ρ' a' w' hn d_ my=>QL f _ _ _ _ ht.1.2 hp.1.2 hn d_ my
   .exact e_ hd hm h.2.2 hr hf (fun c w' hx=>⟨hx,_,hr,hf⟩) fun ρ' a' w' hn d_ my=>W6 f _ _ _ _ ht.2 hp.2 hn d_ my
 | four i ri j rj k rk l rl QK QL W6 ihl=>
  intro f li ρ w a ht hp h hr hf;simp only[iX,Bool.and_eq_true]at ht
  cases f with
  | zero=>simp[cr]at hp
  | succ f=>
   simp only[cr,Bool.and_eq_true,beq_iff_eq]at hp;refine all hp.1.1.1.1 (by simp) fun x hx=>?_
   simp only[List.mem_cons,List.not_mem_nil,or_false]at hx;rcases hx with rfl | rfl | rfl | rfl
   .exact e_ hd hm h.1 hr hf (fun c w' hx=>⟨hx,_,hr,hf⟩) fun ρ' a' w' hn d_ my=>QK f _ _ _ _ ht.1.1.1 hp.1.1.1.2 hn d_ my
   .exact e_ hd hm h.2.1 hr hf (fun c w' hx=>⟨hx,_,hr,hf⟩) fun ρ' a' w' hn d_ my=>QL f _ _ _ _ ht.1.1.2 hp.1.1.2 hn d_ my
   .exact e_ hd hm h.2.2.1 hr hf (fun c w' hx=>⟨hx,_,hr,hf⟩) fun ρ' a' w' hn d_ my=>W6 f _ _ _ _ ht.1.2 hp.1.2 hn d_ my
   .exact e_ hd hm h.2.2.2 hr hf (fun c w' hx=>⟨hx,_,hr,hf⟩) fun ρ' a' w' hn d_ my=>ihl f _ _ _ _ ht.2 hp.2 hn d_ my
theorem yj:∀(l:List (Nat×Sh))(J:Zo l)(ρ:Env)(w:Wd)(F:Env->Pw)(base:Env),IV l J ρ w->TV l J base F->
  (∀t,(l.all fun p=>decide (p.1≠t))=true->base t=ρ t)->F ρ w
 | [],J,ρ,w,F,base,ha,ff,hb=>by
  have:base=ρ:=funext fun t=>hb t rfl
  subst this;exact ff w ha
 | (t,s)::r,J,ρ,w,F,base,ha,ff,hb=>by
  obtain⟨x,hx,hr⟩:=Sh.BK ha;refine yj r (J x) ρ w F _ hr (ff x) fun u hu=>?_
  by_cases e:u=t
  .subst e;rw[IG,hx]
  .rw[Ld _ _ e];refine hb u ?_;simp only[List.all_cons,Bool.and_eq_true,decide_eq_true_eq];exact⟨fun h=>e h.symm,hu⟩
theorem QN{mask:Nat}{ρ ρ':Env}(h:∀t,Nat.testBit mask t=false->ρ' t=ρ t):mix mask ρ' ρ=ρ':=by
 funext t;unfold mix
 cases hb:Nat.testBit mask t with
 | true=>rfl
 | false=>exact(h t hb).symm
theorem GJ{F:Fence}{c:Code}{Q:Exit->Act->Pw}(I:Nat->Act->Pw)
  (round:∀m a w,I m a w->c.wpIn F 0 P (Exit.then (fun a' w'=>∃m',m' < m/\I m' a' w') Q) a w) {m:Nat} {a:Act} {w:Wd} (h₀:I m a w):(Code.loop c).wpIn F 0 P Q a w:=by
 classical
 have least:∀a w,(∃m,I m a w)->∃m,I m a w/\∀k,I k a w->m<=k:=fun a w ⟨m,hm⟩=>by
  induction m using Nat.strongRecOn with
  | _ m ih=>
   by_cases hk:∃k,k < m/\I k a w
   .obtain⟨k,hk,hI⟩:=hk;exact ih k hk hI
   .exact⟨m,hm,fun k hI=>by
     rcases Nat.lt_or_ge k m with h | h
     .exact absurd ⟨k,h,hI⟩ hk
     .exact h⟩
 refine wpIn_loop (fun a w=>∃m,I m a w) (fun a w=>if h:∃m,I m a w then Classical.choose (least a w h) else 0) ⟨m,h₀⟩ ?_;intro a w hI;have hs:=Classical.choose_spec (least a w hI);refine wpIn_mono (round _ a w hs.1) ?_;intro e a' w' hq
 cases e with
 | normal=>
  obtain⟨m',cL,VG⟩:=hq;refine⟨⟨m',VG⟩,?_⟩;rw[dif_pos hI,dif_pos ⟨m',VG⟩];exact Nat.lt_of_le_of_lt ((Classical.choose_spec (least a' w' ⟨m',VG⟩)).2 m' VG) cL
 | _=>exact hq
theorem uq{F:Fence}{c:Code}{Q:Exit->Act->Pw}{a:Act}{w:Wd}(hF:F=Fence.wide)(h:c.wpIn F 0 P (Exit.noGoto Q) a w):(Code.scope c).wpIn F 0 P Q a w:=by
 subst hF;exact wpIn_wide.2 (wp_scope_straight (wpIn_wide.1 h))
def cP:Code->Bool
 | .seq a b=>cP a && cP b
 | .cond _ a b=>cP a && cP b
 | .block _ a=>cP a
 | .scope _=>false
 | .loop a=>cP a
 | _=>true
theorem QO{ops:Array Oper}{az:Array Bool}(hl:az.size=ops.size)(ha:wL ops=true)(h:Region.ready .any ops az=[]):∀i,i < ops.size->az.getD i false=true:=by
 intro i
 induction i using Nat.strongRecOn with
 | _ i ih=>
  intro hi
  cases hd:az.getD i false with
  | true=>rfl
  | false=>
   exfalso
   have hm:i∈Region.ready .any ops az:=by
    refine mem_ready.2 ⟨by simpa[hl,hi] using hd,ops[i],by simp[hi],fun e he _=>ih e.on ?_ ?_⟩
    .simp only[wL,List.all_eq_true,List.mem_range]at ha;have:=ha i hi;simp only[hi,getElem?_pos,List.all_eq_true]at this;have:=this e (by simpa using he);simp[Nat.blt]at this;omega
    .simp only[wL,List.all_eq_true,List.mem_range]at ha;have:=ha i hi;simp only[hi,getElem?_pos,List.all_eq_true]at this;have:=this e (by simpa using he);simp[Nat.blt]at this;omega
   rw[h]at hm;cases hm
theorem Lv{ops:Array Oper}{M:Nat->Bool}{Q:Exit->Env->Pw}{ρ0:Env}{Inv:(Nat->Bool)->Env->Pw}(hd:∀o∈ops.toList,sV n o.dst=true)
  (hm:∀o∈ops.toList,∀m,M m=true->pM m o.dst=true) (ha:wL ops=true) (W7:∀d ρ w,Inv d ρ w->(∀i,i < ops.size->d i=true)->Q .normal ρ w)
  (aap:∀d ρ w,Inv d ρ w->∀i,d i=false->GH ops i d=true->QJ P pk X ops i (fun ρ' w'=>Inv (Fc d i) ρ' w') ρ w) :
  ∀(f:Nat)(az:Array Bool)(ρ:Env)(w:Wd)(a:Act),az.size=ops.size->az.toList.count false<=f->Inv (fun i=>az.getD i false) ρ w->mu D n a ρ->wz M ρ0 ρ->wpAny P .any ops (jx D n Q X M ρ0) f az a w:=by
 intro f
 have fin:∀(az:Array Bool)(ρ:Env)(w:Wd)(a:Act),az.size=ops.size->Inv (fun i=>az.getD i false) ρ w->mu D n a ρ->wz M ρ0 ρ->Region.ready .any ops az=[]->jx D n Q X M ρ0 .normal a w:=fun az ρ w a hl hi hr hf h=>⟨ρ,hr,W7 _ ρ w hi (QO hl ha h),hf⟩
 induction f with
 | zero=>
  intro az ρ w a hl hc hi hr hf
  have ff:∀i,i < ops.size->az.getD i false=true:=fun i h=>by
   cases hb:az.getD i false with
   | true=>rfl
   | false=>
    exfalso;have cL:i < az.size:=by omega
    have:false∈az.toList:=by
     have e:az[i]=false:=by simpa[cL] using hb
     rw[<- e];simp
    have:=List.count_pos_iff.2 this;omega
  have Oq:Region.ready .any ops az=[]:=by
   rw[List.eq_nil_iff_forall_not_mem];intro i h;obtain⟨h1,o,ho,_⟩:=mem_ready.1 h;have cL:i < ops.size:=(Array.getElem?_eq_some_iff.1 ho).1;have:=ff i cL;have GA:i < az.size:=by omega
   simp[GA]at h1 this;rw[h1]at this;cases this
  exact⟨Oq,fin az ρ w a hl hi hr hf Oq⟩
 | succ f ih=>
  intro az ρ w a hl hc hi hr hf;refine⟨fun h=>fin az ρ w a hl hi hr hf h,fun i hri=>?_⟩;obtain⟨h1,o,ho,h2⟩:=mem_ready.1 hri;have cL:i < ops.size:=(Array.getElem?_eq_some_iff.1 ho).1;have GA:i < az.size:=by omega
  have Vz:az.getD i false=false:=by simpa[GA] using h1
  have haf:GH ops i (fun i=>az.getD i false)=true:=by
   unfold GH;rw[ho];simp only[List.all_eq_true,Bool.or_eq_true,Bool.not_eq_true'];intro e he
   cases hb:Region.binds .any e with
   | false=>exact .inl rfl
   | true=>exact .inr (h2 e (by simpa using he) hb)
  have hs:=aap _ ρ w hi i Vz haf
  have dI:o∈ops.toList:=by
   have:o∈ops:=Array.mem_of_getElem? ho;simpa using this
  have hd':Fc (fun i=>az.getD i false) i=fun j=>(az.setIfInBounds i true).getD j false:=by
   funext j;unfold Fc;by_cases e:j=i
   .subst e;simp[GA]
   .have:Nat.beq j i=false:=by
     cases hb:Nat.beq j i with
     | false=>rfl
     | true=>exact absurd (Nat.eq_of_beq_eq_true hb) e
    have e2:¬ i=j:=fun h=>e h.symm
    simp[this,e2]
  have IZ:(az.setIfInBounds i true).toList.count false<=f:=by
   rw[Array.toList_setIfInBounds];have e1:az.toList[i]'(by simpa using GA)=false:=by simpa[GA] using Vz
   have h5:az.toList=az.toList.take i++false::az.toList.drop (i+1):=by
    rw[<- e1];exact(List.take_append_drop i _).symm.trans (by rw[List.drop_eq_getElem_cons])
   have h6:az.toList.set i true=az.toList.take i++true::az.toList.drop (i+1):=by
    rw[List.set_eq_take_append_cons_drop,if_pos (by simpa using GA)]
   rw[h6];rw[h5]at hc;simp only[List.count_append,List.count_cons]at hc ⊢;simp at hc ⊢;omega
  have next:∀ρ' a' w',Inv (Fc (fun i=>az.getD i false) i) ρ' w'->mu D n a' ρ'->wz M ρ0 ρ'->wpAny P .any ops (jx D n Q X M ρ0) f (az.setIfInBounds i true) a' w':=fun ρ' a' w' h d_ my=>ih _ ρ' w' a' (by simp[hl]) IZ (hd' ▸ h) d_ my
  unfold QJ at hs;rw[ho]at hs;unfold wpOp;simp only[ho,hr.wanted];rcases pN hs with⟨hw,hA⟩ | ⟨hw,hB⟩
  .rw[if_pos hw];refine .inl (GI (X:=X) (K:=fun v w'=>Inv (Fc (fun i=>az.getD i false) i) (dX ρ o.dst v) w') ?_ (fun v w' h'=>next _ _ _ h' (hr.dX (hd o dI) v) (hf.trans (.dX (hm o dI) v))) (fun c w' hx=>⟨hx,_,hr,hf⟩));rw[hr.eval];exact nz hA
  .rw[if_neg (by simp[hw])];exact next _ _ _ hB (hr.dX (hd o dI) undef) (hf.trans (.dX (hm o dI) undef))
theorem nA{ro:Option Nat}:∀(B_:As)(c:Code)(Q:Exit->Env->Pw)(ρ:Env)(w:Wd)(a:Act),(ro=none∨(cu B_ c=true/\cP c=true))->wM P n B_ c=true->ve P pk X B_ c Q ρ w->mu D n a ρ->
  c.wpIn (pO ro) 0 P (jx D n Q X (fun m=>dF m c) ρ) a w:=by
 intro B_
 induction B_ with
 | nil=>
  intro c Q ρ w a GK hc h hr
  cases c <;> (try simp only[ve]at h) <;> try exact h.elim
  case skip=>exact wpIn_skip ⟨ρ,hr,h,.refl _ _⟩
  case label l=>exact wpIn_label ⟨ρ,hr,h,.refl _ _⟩
  case exit i=>exact wpIn_exit ⟨ρ,hr,h,.refl _ _⟩
  case goto l=>exact wpIn_goto ⟨ρ,hr,h,.refl _ _⟩
  case ret=>exact wpIn_ret ⟨ρ,hr,h,.refl _ _⟩
  case region id ops d=>
   cases d with
   | true=>exact h.elim
   | false=>
   simp only[wM,List.all_eq_true]at hc;refine wpIn_region ?_
   have:=BZ (ro:=ro) (n:=n) (M:=fun m=>dF m (.region id ops false)) (Q:=Q) (ρ0:=ρ) ops.toList [] ρ w a rfl hc (fun o ho m hm=>by
    simp only[dF,List.all_eq_true]at hm;exact hm o ho) h hr (.refl _ _)
   simpa[List.range_eq_range'] using this
 | draw p=>
  intro c Q ρ w a GK hc h hr
  cases c <;> (try simp only[ve]at h) <;> try exact h.elim
  rename_i id ops d
  cases d with
  | false=>exact h.elim
  | true=>
  obtain⟨S,hS,h⟩:=h;simp only[wM,Bool.and_eq_true,List.all_eq_true]at hc
  have hmm:∀o∈ops.toList,∀m,dF m (.region id ops true)=true->pM m o.dst=true:=fun o ho m hm=>by
   simp only[dF,List.all_eq_true]at hm;exact hm o ho
  rcases GK with GL | GL
  .subst GL;exact wpIn_wide.2 (IF hc.1.2 (IX hc.1.1.1 hmm hc.1.1.2 p _ _ ρ _ a hc.2 h hS oZ.start hr (.refl _ _)))
  .exact wpIn_region_any hc.1.2 (IY hc.1.1.1 hmm p _ _ ρ _ a GL.1 hc.2 h hr (.refl _ _))
 | free=>
  intro c Q ρ w a GK hc h hr
  cases c <;> (try simp only[ve]at h) <;> try exact h.elim
  rename_i id ops d
  cases d with
  | false=>exact h.elim
  | true=>
  rcases GK with GL | GL
  .subst GL;simp only[wM,Bool.and_eq_true,List.all_eq_true]at hc
   have hmm:∀o∈ops.toList,∀m,dF m (.region id ops true)=true->pM m o.dst=true:=fun o ho m hm=>by
    simp only[dF,List.all_eq_true]at hm;exact hm o ho
   obtain⟨Inv,h1,h2,h3⟩:=h;refine wpIn_wide.2 (wp_region_any hc.1.2 (Lv (Inv:=Inv) hc.1.1 hmm hc.2 h2 h3 _ _ ρ _ a (by simp) ?_ ?_ hr (.refl _ _)))
   .simp
   .have e:(fun i=>(Array.replicate ops.size false).getD i false)=fun _=>false:=by
     funext i;rcases Nat.lt_or_ge i ops.size with h | h <;> simp[h]
    rw[e];exact h1
  .simp[cu,qv]at GL
 | seq x y QP ihy=>
  intro c Q ρ w a GK hc h hr
  cases c <;> simp only[ve]at h
  rename_i cx cy;simp only[wM,Bool.and_eq_true]at hc;have hx:ro=none∨(cu x cx=true/\cP cx=true):=GK.imp id fun h=>by simp only[cu,cP,Bool.and_eq_true]at h;exact⟨h.1.1,h.2.1⟩
  have hy:ro=none∨(cu y cy=true/\cP cy=true):=GK.imp id fun h=>by simp only[cu,cP,Bool.and_eq_true]at h;exact⟨h.1.2,h.2.2⟩
  refine wpIn_seq (wpIn_mono (QP cx (uP (ve P pk X y cy Q) Q) ρ w a hx hc.1 h hr) ?_);intro e a' w' hp;have m1:∀m,dF m (.seq cx cy)=true->dF m cx=true:=fun m hm=>by simp only[dF,Bool.and_eq_true]at hm;exact hm.1
  have m2:∀m,dF m (.seq cx cy)=true->dF m cy=true:=fun m hm=>by simp only[dF,Bool.and_eq_true]at hm;exact hm.2
  cases e with
  | normal=>
   obtain⟨ρ',d_,hq,hf⟩:=hp;exact wpIn_mono (ihy cy Q ρ' w' a' hy hc.2 hq d_) fun e a'' kC hp=>(hp.mono m2).from (hf.mono m1)
  | panic c=>obtain⟨hx,ρ',d_,hf⟩:=hp;exact⟨hx,ρ',d_,hf.mono m1⟩
  | outgrown=>exact hp
  | exit i=>obtain⟨ρ',d_,hq,hf⟩:=hp;exact⟨ρ',d_,hq,hf.mono m1⟩
  | goto i=>obtain⟨ρ',d_,hq,hf⟩:=hp;exact⟨ρ',d_,hq,hf.mono m1⟩
  | ret=>obtain⟨ρ',d_,hq,hf⟩:=hp;exact⟨ρ',d_,hq,hf.mono m1⟩
 | join l mask x y QP ihy=>
  intro c Q ρ w a GK hc h hr
  cases c <;> simp only[ve]at h
  rename_i cx cy;simp only[wM,Bool.and_eq_true]at hc;have hx:ro=none∨(cu x cx=true/\cP cx=true):=GK.imp id fun h=>by simp only[cu,cP,Bool.and_eq_true]at h;exact⟨h.1.1,h.2.1⟩
  have hy:ro=none∨(cu y cy=true/\cP cy=true):=GK.imp id fun h=>by simp only[cu,cP,Bool.and_eq_true]at h;exact⟨h.1.2,h.2.2⟩
  obtain⟨J,h1,h2⟩:=h;refine wpIn_seq (wpIn_mono (QP cx (uP (IV l J) Q) ρ w a hx hc.1.1.1 h1 hr) ?_);intro e a' w' hp;have m1:∀m,dF m (.seq cx cy)=true->dF m cx=true:=fun m hm=>by simp only[dF,Bool.and_eq_true]at hm;exact hm.1
  have m2:∀m,dF m (.seq cx cy)=true->dF m cy=true:=fun m hm=>by simp only[dF,Bool.and_eq_true]at hm;exact hm.2
  cases e with
  | normal=>
   obtain⟨ρ',d_,hq,hf⟩:=hp;have W8:=QN (hf mask hc.1.2);have:=yj l J ρ' w' _ (mix mask ρ' ρ) hq (h2 ρ') (fun t _=>by rw[W8]);exact wpIn_mono (ihy cy Q ρ' w' a' hy hc.1.1.2 this d_) fun e a'' kC hp=>(hp.mono m2).from (hf.mono m1)
  | panic c=>obtain⟨hx,ρ',d_,hf⟩:=hp;exact⟨hx,ρ',d_,hf.mono m1⟩
  | outgrown=>exact hp
  | exit i=>obtain⟨ρ',d_,hq,hf⟩:=hp;exact⟨ρ',d_,hq,hf.mono m1⟩
  | goto i=>obtain⟨ρ',d_,hq,hf⟩:=hp;exact⟨ρ',d_,hq,hf.mono m1⟩
  | ret=>obtain⟨ρ',d_,hq,hf⟩:=hp;exact⟨ρ',d_,hq,hf.mono m1⟩
 | cond x y QP ihy=>
  intro c Q ρ w a GK hc h hr
  cases c <;> simp only[ve]at h
  rename_i v cx cy;simp only[wM,Bool.and_eq_true]at hc;have hx:ro=none∨(cu x cx=true/\cP cx=true):=GK.imp id fun h=>by simp only[cu,cP,Bool.and_eq_true]at h;exact⟨h.1.1,h.2.1⟩
  have hy:ro=none∨(cu y cy=true/\cP cy=true):=GK.imp id fun h=>by simp only[cu,cP,Bool.and_eq_true]at h;exact⟨h.1.2,h.2.2⟩
  unfold VF at h;split at h
  .rename_i b hb;have he:a.eval v = .bool b:=by rw[hr.eval];exact hb
   refine wpIn_cond_split he (fun hb=>?_) (fun hb=>?_)
   .exact wpIn_mono (QP cx Q ρ w a hx hc.1 (h.out.1 hb) hr) fun e a' w' hp=>hp.mono fun m hm=>by simp only[dF,Bool.and_eq_true]at hm;exact hm.1
   .exact wpIn_mono (ihy cy Q ρ w a hy hc.2 (h.out.2 hb) hr) fun e a' w' hp=>hp.mono fun m hm=>by simp only[dF,Bool.and_eq_true]at hm;exact hm.2
  .exact h.elim
 | block x QP=>
  intro c Q ρ w a GK hc h hr
  cases c <;> simp only[ve]at h
  rename_i id cx;simp only[wM]at hc;refine wpIn_block (wpIn_mono (QP cx (BY id Q) ρ w a (GK.imp (fun h=>h) fun h=>by simpa only[cu,cP] using h) hc h hr) ?_);intro e a' w' hp
  cases e with
  | exit i=>
   obtain⟨ρ',d_,hq,hf⟩:=hp;simp only[BY]at hq;simp only[Exit.inBlock]
   cases hb:Nat.beq i id with
   | true=>
    have:=Nat.eq_of_beq_eq_true hb;subst this;rw[hb]at hq;rw[if_pos rfl];exact⟨ρ',d_,hq,hf⟩
   | false=>
    rw[hb]at hq;rw[if_neg (fun e=>by subst e;simp at hb)];exact⟨ρ',d_,hq,hf⟩
  | panic c=>exact hp
  | outgrown=>exact hp
  | normal=>obtain⟨ρ',d_,hq,hf⟩:=hp;exact⟨ρ',d_,hq,hf⟩
  | goto i=>obtain⟨ρ',d_,hq,hf⟩:=hp;exact⟨ρ',d_,hq,hf⟩
  | ret=>obtain⟨ρ',d_,hq,hf⟩:=hp;exact⟨ρ',d_,hq,hf⟩
 | scope x QP=>
  intro c Q ρ w a GK hc h hr
  cases c <;> simp only[ve]at h
  rename_i cx;simp only[wM]at hc;have GL:ro=none:=GK.resolve_right (by simp[cP]);subst GL;refine uq rfl (wpIn_mono (QP cx (QI Q) ρ w a (.inl rfl) hc h hr) ?_);intro e a' w' hp
  cases e with
  | goto i=>obtain⟨ρ',d_,hq,hf⟩:=hp;exact hq.elim
  | panic c=>exact hp
  | outgrown=>exact hp
  | normal=>obtain⟨ρ',d_,hq,hf⟩:=hp;exact⟨ρ',d_,hq,hf⟩
  | exit i=>obtain⟨ρ',d_,hq,hf⟩:=hp;exact⟨ρ',d_,hq,hf⟩
  | ret=>obtain⟨ρ',d_,hq,hf⟩:=hp;exact⟨ρ',d_,hq,hf⟩
 | loop l mask x QP=>
  intro c Q ρ w a GK hc h hr
  cases c <;> simp only[ve]at h
  rename_i cx;simp only[wM,Bool.and_eq_true]at hc;have hx:ro=none∨(cu x cx=true/\cP cx=true):=GK.imp id fun h=>by simpa only[cu,cP] using h
  obtain⟨I,⟨m,hm⟩,Lw⟩:=h;refine GJ (fun m a w=>∃ρ',mu D n a ρ'/\IV l (I m) ρ' w/\wz (fun m=>dF m (.loop cx)) ρ ρ') ?_ ⟨ρ,hr,hm,.refl _ _⟩;rintro m a w ⟨ρ',d_,ha,hf⟩;have W8:=QN (hf mask hc.1.2);have:=yj l (I m) ρ' w _ (mix mask ρ' ρ) ha (Lw ρ' m) (fun t _=>by rw[W8]);refine wpIn_mono (QP cx (uP (fun ρ'' kC=>∃m',m' < m/\IV l (I m') ρ'' kC) Q) ρ' w a hx hc.1.1 this d_) ?_;intro e a'' kC hp;have BQ:∀m,dF m (.loop cx)=true->dF m cx=true:=fun m hm=>by simpa only[dF] using hm
  have hp:=(hp.mono BQ).from hf
  cases e with
  | normal=>obtain⟨ρ'',ada,hq,hf3⟩:=hp;obtain⟨m',cL,hq⟩:=hq;exact⟨m',cL,ρ'',ada,hq,hf3⟩
  | panic c=>exact hp
  | outgrown=>exact hp
  | exit i=>exact hp
  | goto i=>exact hp
  | ret=>exact hp
def TW(tmps:Array Value):ResultVar->Sem Value
 | .tmp t=>pure (tmps.getD t undef)
 | .cell x t=>do loadVar t (<- asAddr (tmps.getD x undef))
theorem vf{a:Act}{ρ:Env}{w:Wd}(hr:mu D n a ρ):∀(rs:List ResultVar)(F:List Value->Prop),Au P rs ρ w F->
  ∃vs,(rs.mapM (TW a.tmps)).run P w = .ok vs w/\F vs
 | [],F,h=>⟨[],by simp,h⟩
 | .tmp t::r,F,h=>by
  obtain⟨vs,h1,h2⟩:=vf hr r _ h;refine⟨_,?_,h2⟩;have e:(TW a.tmps (.tmp t)).run P w = .ok (ρ t) w:=by rw[<- hr.get t];rfl
  rw[List.mapM_cons,Sem.run_bind,e,Result.andThen_ok,Sem.run_bind,h1];rfl
 | .cell x t::r,F,h=>by
  obtain⟨v,hv,h⟩:=sZ h;obtain⟨vs,h1,h2⟩:=vf hr r _ h;refine⟨_,?_,h2⟩
  have hx:(TW a.tmps (.cell x t)).run P w = .ok v w:=by
   have:=hv w (fun _ _ h=>h);show(do loadVar t (<- asAddr (a.tmps.getD x undef)):Sem Value).run P w=_;rw[hr.get]
   cases hp:ρ x <;> rw[hp]at this <;> simp only[Instr.loadAt,Instr.sureAddr,Sem.run_bind]at this <;> first | (simp[stuck]at this;done) | skip
   rename_i p
   cases p with
   | none=>simp[stuck]at this
   | some p=>simpa[asAddr] using this
  rw[List.mapM_cons,Sem.run_bind,hx,Result.andThen_ok,Sem.run_bind,h1];rfl
theorem zK{fn:Func}{a:Act}{ρ:Env}{w:Wd}(hr:mu D n a ρ){F:List Value->Prop}(h:Au P fn.results.toList ρ w F):∃vs,(results fn a.tmps).run P w = .ok (EU vs) w/\F vs:=by
 obtain⟨vs,h1,h2⟩:=vf hr fn.results.toList F h;refine⟨vs,?_,h2⟩
 have e0:results fn a.tmps=(do let vs<- fn.results.mapM (TW a.tmps);pure (if h:vs.size=1 then vs[0] else .tuple vs)):=by
  unfold results;congr 1
 rw[e0,Array.mapM_eq_mapM_toList,Sem.run_bind,Sem.run_map]
 have e:∀(r:Result (List Value)),r = .ok vs w->((r.andThen fun a w'=>Result.ok a.toArray w').andThen fun vs w'=>Sem.run P (pure (if h:vs.size=1 then vs[0] else .tuple vs)) w') = .ok (EU vs) w:=by
  intro r hr;subst hr;simp only[Result.andThen_ok,Sem.run_pure];congr 1
  match vs with
  | []=>rfl
  | [v]=>rfl
  | _::_::_=>simp[EU]
 exact e _ h1
def W9(P:Program)(f:FuncId)(args:Array Value)(l:List Ty)(K:kA l)(X:PX)(w:Wd):Prop:=
 Calls P f args w (fun e w'=>Ij l K (fun vs Y=>e = .returned (EU vs)/\Y w')∨∃c,e = .panicked c/\X c w')
theorem I_{args:List Value}{m:Nat}(ha:Nat.ble args.length m=true):mu [] m { tmps:=args.toArray++Array.replicate (m - args.toArray.size) undef,defers:=[] } (sU args):=by
 have hle:=Nat.le_of_ble_eq_true ha;refine⟨rfl,by simp;omega,fun t=>?_⟩;simp only[sU];rcases Nat.lt_or_ge t args.length with h | h
 .simp[Array.getElem?_append,h]
 .simp[List.getD,Array.getElem?_append,Array.getElem?_replicate,Nat.not_lt.2 h];split <;> rfl
theorem Ot{f:FuncId}{fn:Func}{c:Code}{B_:As}{args:List Value}{tys:List Ty}{K:kA tys}{w:Wd}(hf:P.funcs[f]? = some fn)(hb:fn.body=some c)
  (hc:wM P fn.ntmps B_ c=true) (ha:Nat.ble args.length fn.ntmps=true) (h:ve P pk X B_ c (On P tys fn.results.toList K) (sU args) w):W9 P f args.toArray tys K X w:=by
 refine calls_of_wp hf hb (wp_mono (wpIn_wide.1 (nA (ro:=none) (n:=fn.ntmps) (D:=[]) B_ c _ _ w _ (.inl rfl) hc h (I_ ha))) ?_);intro e a' w' hp
 have fin:∀{ρ':Env},mu [] fn.ntmps a' ρ'->Au P fn.results.toList ρ' w' (fun vs=>sW tys vs K w')->∃v,(results fn a'.tmps).run P w' = .ok v w'/\(Ij tys K (fun vs Y=>Ending.returned v = .returned (EU vs)/\Y w')∨∃c,Ending.returned v = .panicked c/\X c w'):=fun d_ hq=>by
  obtain⟨vs,h1,h2⟩:=zK d_ hq;exact⟨_,h1,.inl (lP tys K (fun us X hh=>⟨by rw[hh.1],hh.2⟩) (pJ tys vs K w' h2))⟩
 cases e with
 | normal=>obtain⟨ρ',d_,hq,_⟩:=hp;exact⟨d_.defers,fin d_ hq⟩
 | ret=>obtain⟨ρ',d_,hq,_⟩:=hp;exact⟨d_.defers,fin d_ hq⟩
 | panic c=>obtain⟨h1,ρ',h2,_⟩:=hp;exact⟨h2.defers,.inr ⟨c,rfl,h1⟩⟩
 | exit i=>obtain⟨ρ',d_,hq,_⟩:=hp;exact hq.elim
 | goto i=>obtain⟨ρ',d_,hq,_⟩:=hp;exact hq.elim
 | outgrown=>exact hp.elim
abbrev cf:PX:=fun _ _=>False
theorem QQ{f:FuncId}{fn:Func}{c:Code}{B_:As}{args:List Value}{tys:List Ty}{K:kA tys}{w:Wd}(hf:P.funcs[f]? = some fn)(hb:fn.body=some c)
  (hc:wM P fn.ntmps B_ c=true) (ha:Nat.ble args.length fn.ntmps=true) (h:ve P pk cf B_ c (On P tys fn.results.toList K) (sU args) w):ar P f args.toArray tys K w:=
 Calls.mono (Ot hf hb hc ha h) fun _ _ h=>h.elim id fun⟨_,_,hc⟩=>hc.elim
theorem mkS{f:FuncId}{fn:Func}{B_:As}{args:List Value}{tys:List Ty}{K:kA tys}{w:Wd}{F C:Prop}(hf:P.funcs[f]? = some fn)
  (hF:F=ve P pk cf B_ (fn.body.getD .skip) (On P tys fn.results.toList K) (sU args) w) (hc:(fn.body.isSome && Nat.ble args.length fn.ntmps && wM P fn.ntmps B_ (fn.body.getD .skip))=true)
  (hC:ar P f args.toArray tys K w=C) (h:F):C:=by
 simp only[Bool.and_eq_true]at hc;obtain⟨c,hb⟩:=Option.isSome_iff_exists.1 hc.1.1;have e:fn.body.getD .skip=c:=by rw[hb];rfl
 rw[e]at hF hc;rw[<- hC];exact QQ hf hb hc.2 hc.1.2 (hF ▸ h)
theorem mkV{rd:Bool}{fv:Value}{args:List Value}{f:FuncId}{ars:Array Value}{tys:List Ty}{K:kA tys}{w:Wd}{C:Prop}(hr:(IN fv args).run P w = .ok (.enter f ars) w)(hC:C=ar P f ars tys K w)(h:C):aC P rd fv args tys K X w:=by
 unfold aC IM;rw[hr];subst hC;exact Calls.mono h fun _ _ h=> .inl h
theorem mkI{recv:Value}{m:String}{args:List Value}{f:FuncId}{ars:Array Value}{tys:List Ty}{K:kA tys}{w:Wd}{C:Prop}(hr:(invoke (.fn (.method m) #[]) (#[recv]++args.toArray)).run P w = .ok (.enter f ars) w)(hC:C=ar P f ars tys K w)(h:C) :
  pK P recv m args tys K X w:=by
 unfold pK IM;rw[hr];subst hC;exact Calls.mono h fun _ _ h=> .inl h
end sound
end Go.V
