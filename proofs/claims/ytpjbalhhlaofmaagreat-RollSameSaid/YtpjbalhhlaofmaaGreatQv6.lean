/- Texts for LRollSame,LRollBytes,LRollReads,LRollNone, part 6. -/
import Derived.OrdersIn
import Derived.Scope
import Derived.Recover
import Derived.ControlIn
import Derived.Test.YtpjbalhhlaofmaaGreatQv5
namespace Go.V
section sound
variable {P:Program} {n:Nat} {D:List Deferred} {pk:Nat} {X:PX}
def uH(M:Nat->Bool)(ρ ρ':Env):Prop:=∀mask,M mask=true->∀t,Nat.testBit mask t=false->ρ' t=ρ t
theorem uH.refl(M:Nat->Bool)(ρ:Env):uH M ρ ρ:=fun _ _ _ _=>rfl
theorem uH.trans{M:Nat->Bool}{a b c:Env}(h:uH M a b)(k:uH M b c):uH M a c:=fun m hm t ht=>(k m hm t ht).trans (h m hm t ht)
theorem uH.mono{M M':Nat->Bool}{a b:Env}(h:uH M a b)(hm:∀m,M' m=true->M m=true):uH M' a b:=fun m U7 t ht=>h m (hm m U7) t ht
theorem uH.dJ{M:Nat->Bool}{ρ:Env}{d:Option Nat}(h:∀m,M m=true->oq m d=true)(v:Value):uH M ρ (dJ ρ d v):=by
 intro m hm t ht
 cases d with
 | none=>rfl
 | some d=>
  have:=h m hm;simp only[oq]at this;refine IG _ _ fun e=>?_
  subst e;rw[ht]at this;cases this
def uV(ops:Array Oper)(o:Oper)(ρ:Env):Bool:=
 Region.wanted o (fun j=>match(ops[j]?).bind (·.dst) with
  | some d=>match ρ d with
   | .bool b=>some b
   | _=>none
  | none=>none)
theorem k_.wanted{a:Act}{ρ:Env}(h:k_ D n a ρ)(ops:Array Oper)(o:Oper):Region.wanted o (yielded ops a.tmps)=uV ops o ρ:=by
 unfold uV;congr 1;funext j;unfold yielded
 cases hd:(ops[j]?).bind (·.dst) with
 | none=>rfl
 | some d=>
  simp only[Option.bind_some];have hg:=h.get d;rcases Nat.lt_or_ge d a.tmps.size with cF | uI
  .have:a.tmps[d]? = some (ρ d):=by
    rw[<- hg];simp[cF]
   rw[this]
   cases ρ d <;> rfl
  .have e1:a.tmps[d]? = none:=by simp[uI]
   have e2:ρ d=undef:=by rw[<- hg];simp[e1]
   rw[e1,e2];rfl
theorem ot{ops:Array Oper}{o:Oper}{ρ:Env}{A B:Prop}(h:gW ops o ρ A B):(uV ops o ρ=true/\A)∨(uV ops o ρ=false/\B):=by
 unfold gW at h;unfold uV Region.wanted
 cases hg:o.guard with
 | none=>rw[hg]at h;exact .inl ⟨rfl,h⟩
 | some gw=>
  obtain⟨j,want⟩:=gw;simp only[hg]at h ⊢
  cases hd:(ops[j]?).bind (·.dst) with
  | none=>rw[hd]at h;exact .inr ⟨rfl,h⟩
  | some d=>
   simp only[hd]at h ⊢;split at h
   .rename_i b hb;simp only[hb]
    cases want <;> cases b <;> simp only[cond_true,cond_false]at h
    .exact .inl ⟨rfl,h⟩
    .exact .inr ⟨rfl,h⟩
    .exact .inr ⟨rfl,h⟩
    .exact .inl ⟨rfl,h⟩
   .rename_i bA;refine .inr ⟨?_,h⟩
    cases hv:ρ d <;> first | rfl | exact absurd hv (bA _)
theorem iV{g:Bool}{v:Value}{K:Value->Prop}(h:nK g v K):K v:=by
 unfold nK at h
 cases g with
 | false=>exact h
 | true=>
  simp only[cond_true]at h;split at h
  .rename_i b
   cases b
   .exact h.out.2 rfl
   .exact h.out.1 rfl
  .exact h
def iK(D:List Deferred)(n:Nat)(Q:Exit->Env->Pw)(X:PX)(M:Nat->Bool)(ρ0:Env):Exit->Act->Pw
 | .panic c,a,w=>X c w/\∃ρ',k_ D n a ρ'/\uH M ρ0 ρ'
 | .normal,a,w=>∃ρ',k_ D n a ρ'/\Q .normal ρ' w/\uH M ρ0 ρ'
 | .exit i,a,w=>∃ρ',k_ D n a ρ'/\Q (.exit i) ρ' w/\uH M ρ0 ρ'
 | .goto i,a,w=>∃ρ',k_ D n a ρ'/\Q (.goto i) ρ' w/\uH M ρ0 ρ'
 | .ret,a,w=>∃ρ',k_ D n a ρ'/\Q .ret ρ' w/\uH M ρ0 ρ'
 | .outgrown,_,_=>False
theorem iK.mono{Q:Exit->Env->Pw}{M M':Nat->Bool}{ρ0:Env}{e:Exit}{a:Act}{w:Wd}(h:iK D n Q X M ρ0 e a w)(hm:∀m,M' m=true->M m=true):iK D n Q X M' ρ0 e a w:=by
 cases e with
 | panic c=>obtain⟨h1,ρ',h2,h3⟩:=h;exact⟨h1,ρ',h2,h3.mono hm⟩
 | outgrown=>exact h
 | _=>obtain⟨ρ',h1,h2,h3⟩:=h;exact⟨ρ',h1,h2,h3.mono hm⟩
theorem iK.from{Q:Exit->Env->Pw}{M:Nat->Bool}{ρ0 ρ1:Env}{e:Exit}{a:Act}{w:Wd}(h:iK D n Q X M ρ1 e a w)(hf:uH M ρ0 ρ1):iK D n Q X M ρ0 e a w:=by
 cases e with
 | panic c=>obtain⟨h1,ρ',h2,h3⟩:=h;exact⟨h1,ρ',h2,hf.trans h3⟩
 | outgrown=>exact h
 | _=>obtain⟨ρ',h1,h2,h3⟩:=h;exact⟨ρ',h1,h2,hf.trans h3⟩
theorem k_.YC{M:Nat->Bool}{ρ0 ρ':Env}{a:Act}{d:Option Nat}{v:Value}(h:k_ D n (a.put d v) ρ')(f:uH M ρ0 ρ')(hm:∀m,M m=true->oq m d=true):∃ρ',k_ D n a ρ'/\uH M ρ0 ρ':=by
 cases d with
 | none=>exact⟨ρ',h,f⟩
 | some d=>
  refine⟨fun t=>a.tmps.getD t undef,⟨h.defers,by have:=h.size;simpa[Act.put] using this,fun _=>rfl⟩,fun m hM t ht=>?_⟩;have hd:=hm m hM;have bA:t≠d:=by rintro rfl;simp only[oq]at hd;rw[hd]at ht;cases ht
  have h1:=h.get t;rw[<- f m hM t ht,<- h1];simp[Act.put,Array.getElem?_setIfInBounds_ne (Ne.symm bA)]
theorem Ex{o:Oper}{a:Act}{w:Wd}{K:Value->Pw}{next:Act->Pw}{Q:Exit->Act->Pw}(h:jP P X false o a.eval K w)
  (hk:∀v w',K v w'->next (a.put o.dst v) w') (hx:∀c w',X c w'->Q (.panic c) a w'):o.wp P a w next Q:=by
 unfold jP at h;unfold Oper.wp;generalize(execOp a.eval o).run P w=r at h;split at h
 .exact hk _ _ h
 .exact hk _ _ h
 .refine Calls.mono h fun e gE he=>?_
  rcases he with⟨v,rfl,hv⟩ | ⟨c,rfl,hc⟩
  .exact hk _ _ hv
  .exact hx _ _ hc
 .cases h.1
 .exact hx _ _ h
 .exact h.elim
def ou(ro:Option Nat):Fence:={ Fence.wide with round:=ro }
theorem Dg{ro:Option Nat}{o:Oper}{a:Act}{w:Wd}{K:Value->Pw}{next:Act->Pw}{Q:Exit->Act->Pw}(uW:∀c,o.op ≠ .defer c)(h:jP P X true o a.eval K w)
  (hk:∀v w',K v w'->next (a.put o.dst v) w') (hx:∀c w',X c w'->Q (.panic c) a w'):o.wpIn (ou ro) 0 P a w next Q:=by
 unfold jP at h;refine⟨fun f _=>trivial,?_⟩;rw[Oper.semAt_eq _ _ _ uW];generalize(execOp a.eval o).run P w=r at h;have dp:(ou ro).depth.isSome=true->1<=0:=fun h=>by cases h
 split at h
 .exact hk _ _ h
 .exact hk _ _ h
 .refine⟨dp,?_⟩;have h':=(callsIn_wide (n:=0)).2 h;refine CallsIn.mono (F:=ou ro) h' fun e gE he=>?_
  rcases he with⟨v,rfl,hv⟩ | ⟨c,rfl,hc⟩
  .exact hk _ _ hv
  .exact hx _ _ hc
 .refine⟨dp,RoundIn.mono (F:=ou ro) h.2 fun e gE he=>?_⟩;rcases he with⟨v,rfl,hv⟩ | ⟨c,rfl,hc⟩
  .exact hk _ _ hv
  .exact hx _ _ hc
 .exact hx _ _ h
 .exact h.elim
theorem xM{rd:Bool}{o:Oper}{ρ:Env}{K:Value->Pw}{w:Wd}(h:RS P pk X rd o ρ K w):∀c,o.op ≠ .defer c:=fun c he=>by
 unfold RS at h;rw[he]at h;simp only[Rl,he]at h
theorem GH{ops:Array Oper}{o:Oper}{ρ:Env}{K:Value->Pw}{w:Wd}(h:Yz P pk X ops o ρ K w):∀c,o.op ≠ .defer c:=fun c he=>by
 unfold Yz at h;simp only[he]at h;exact xM h c he
theorem Lv{ops:Array Oper}{o:Oper}{ρ:Env}{K:Value->Pw}{w:Wd}(h:Yz P pk X ops o ρ K w):jP P X true o (ev ρ) K w:=by
 unfold Yz at h;split at h
 .rename_i it he;split at h
  .exact .gn (by unfold execOp;rw[he]) h
  .exact mh h
 .exact mh h
theorem Ap{ro:Option Nat}{ops:Array Oper}{M:Nat->Bool}{Q:Exit->Env->Pw}{ρ0:Env}:∀(l pre:List Oper)(ρ:Env)(w:Wd)(a:Act),ops.toList=pre++l->
  (∀o∈l,qH n o.dst=true)->(∀o∈l,∀m,M m=true->oq m o.dst=true)->IW P pk X ops pre.length l ρ (Q .normal) w->k_ D n a ρ->uH M ρ0 ρ->
  wpOpsIn (ou ro) 0 P ops (iK D n Q X M ρ0) (List.range' pre.length l.length) a w
 | [],pre,ρ,w,a,_,_,_,h,hr,hf=>⟨ρ,hr,h,hf⟩
 | o::l,pre,ρ,w,a,he,hd,hm,h,hr,hf=>by
  have hi:ops[pre.length]? = some o:=by rw[<- Array.getElem?_toList,he];simp
  have next:∀v w',IW P pk X ops (pre.length+1) l (dJ ρ o.dst v) (Q .normal) w'->wpOpsIn (ou ro) 0 P ops (iK D n Q X M ρ0) (List.range' (pre.length+1) l.length) (a.put o.dst v) w':=fun v w' h'=>by
   have:=Ap (ro:=ro) (ops:=ops) l (pre++[o]) (dJ ρ o.dst v) w' (a.put o.dst v) (by simp[he]) (fun x hx=>hd x (by simp[hx])) (fun x hx=>hm x (by simp[hx])) (by simpa using h') (hr.dJ (hd o (by simp)) v) (hf.trans (.dJ (hm o (by simp)) v));simpa using this
  simp only[List.length_cons,List.range'_succ,wpOpsIn,hi,hr.wanted];rcases ot h with⟨hw,hA⟩ | ⟨hw,hB⟩
  .rw[if_pos hw];refine Dg (X:=X) (K:=fun v w'=>nK (TR ops pre.length) v fun v=>IW P pk X ops (pre.length+1) l (dJ ρ o.dst v) (Q .normal) w') (GH hA) ?_ (fun v w' h'=>next v w' (iV (K:=fun v=>IW P pk X ops (pre.length+1) l (dJ ρ o.dst v) (Q .normal) w') h')) (fun c w' hx=>⟨hx,_,hr,hf⟩);rw[hr.eval];exact Lv hA
  .rw[if_neg (by simp[hw])];exact⟨fun _ _=>trivial,next _ _ hB⟩
theorem eC{ops:Array Oper}{M:Nat->Bool}{ρ0:Env}{S:Pw}{i:Nat}{next:Env->Pw}{ρ:Env}{w:Wd}{a:Act}{K':Act->Pw}{Q:Exit->Act->Pw}
  (hd:∀o∈ops.toList,qH n o.dst=true) (hm:∀o∈ops.toList,∀m,M m=true->oq m o.dst=true) (h:uS P pk X ops S i next ρ w) (hS:S w) (hr:k_ D n a ρ) (hf:uH M ρ0 ρ) (hx:∀c w',X c w'->Q (.panic c) a w')
  (hk:∀ρ' a' w',S w'->next ρ' w'->k_ D n a' ρ'->uH M ρ0 ρ'->K' a' w'):wpOp P ops Q i (fun a' w'=>(S w'∨zZ ops i=true)/\K' a' w') a w:=by
 unfold uS at h;split at h
 .rename_i o ho
  have cN:o∈ops.toList:=by
   have:o∈ops:=Array.mem_of_getElem? ho;simpa using this
  unfold wpOp;simp only[ho,hr.wanted];rcases ot h with⟨hw,hA⟩ | ⟨hw,hB⟩
  .rw[if_pos hw];refine .inl (Ex (X:=X) (K:=fun v w'=>S w'/\nK (TR ops i) v fun v=>next (dJ ρ o.dst v) w') ?_ (fun v w' h'=>⟨.inl h'.1,hk _ _ _ h'.1 (iV (K:=fun v=>next (dJ ρ o.dst v) w') h'.2) (hr.dJ (hd o cN) v) (hf.trans (.dJ (hm o cN) v))⟩) hx);rw[hr.eval];exact mh hA
  .rw[if_neg (by simp[hw])];exact⟨.inl hS,hk _ _ _ hS hB (hr.dJ (hd o cN) undef) (hf.trans (.dJ (hm o cN) undef))⟩
 .exact h.elim
theorem GI{ops:Array Oper}{M:Nat->Bool}{Q:Exit->Env->Pw}{ρ0:Env}{S:Pw}(hd:∀o∈ops.toList,qH n o.dst=true)
  (hm:∀o∈ops.toList,∀m,M m=true->oq m o.dst=true) (Xu:Region.noSelect ops=true):∀(p:po)(f:Nat)(li:Array Bool)(ρ:Env)(w:Wd)(a:Act),
  bW ops p f li=true->iU P pk X ops S p ρ (Q .normal) w->S w->nG ops li->k_ D n a ρ->uH M ρ0 ρ->
  kZ P ops (iK D n Q X M ρ0) S f li a w:=by
 intro p
 induction p with
 | fin=>
  intro f li ρ w a hp h hS qE hr hf;simp only[bW,List.isEmpty_iff]at hp;exact qF hp ⟨ρ,hr,h,hf⟩ f
 | last i=>
  intro f li ρ w a hp h hS qE hr hf
  cases f with
  | zero=>simp[bW]at hp
  | succ f=>
   simp only[bW,Bool.and_eq_true,beq_iff_eq,List.isEmpty_iff]at hp;refine mq hp.1.1 (by simp) fun j hj=>?_
   simp only[List.mem_singleton]at hj;subst hj;simp only[iU]at h;split at h
   .rename_i o ho
    have cN:o∈ops.toList:=by
     have:o∈ops:=Array.mem_of_getElem? ho;simpa using this
    unfold wpOp;simp only[ho,hr.wanted];rcases ot h with⟨hw,hA⟩ | ⟨hw,hB⟩
    .rw[if_pos hw];refine .inl (Ex (X:=X) (K:=fun v w'=>nK (TR ops j) v fun v=>Q .normal (dJ ρ o.dst v) w') ?_ (fun v w' h'=>⟨.inr hp.1.2,qF hp.2 ⟨_,hr.dJ (hd o cN) v,iV (K:=fun v=>Q .normal (dJ ρ o.dst v) w') h',hf.trans (.dJ (hm o cN) v)⟩ f⟩) (fun c w' hx=>⟨hx,_,hr,hf⟩));rw[hr.eval];exact mh hA
    .rw[if_neg (by simp[hw])];exact⟨.inr hp.1.2,qF hp.2 ⟨_,hr.dJ (hd o cN) undef,hB,hf.trans (.dJ (hm o cN) undef)⟩ f⟩
   .exact h.elim
 | take i r ih=>
  intro f li ρ w a hp h hS qE hr hf
  cases f with
  | zero=>simp[bW]at hp
  | succ f=>
   simp only[bW,Bool.and_eq_true]at hp;obtain⟨⟨h1,h2⟩,h3⟩:=hp;simp only[iU]at h;split at h
   .rename_i o ho
    have cN:o∈ops.toList:=by
     have:o∈ops:=Array.mem_of_getElem? ho;simpa using this
    have fin:∀v,YieldsIf P ops S o v a->iU P pk X ops S r (dJ ρ o.dst v) (Q .normal) w->kZ P ops (iK D n Q X M ρ0) S (f+1) li a w:=fun v hy hh=>
     Gm ho qE Xu h1 h2 (fun c a w hq=>by obtain⟨h1,ρ',h2,h3⟩:=hq;exact⟨h1,h2.YC h3 (hm o cN)⟩) hy hS
      (ih f _ _ _ _ h3 hh hS (qE.set (by simpa using h2)) (hr.dJ (hd o cN) v) (hf.trans (.dJ (hm o cN) v)))
    rcases ot h with⟨hw,hA⟩ | ⟨hw,hB⟩
    .obtain⟨v,hv,hk⟩:=GF hA;refine fin v (.inl ⟨by rw[hr.wanted];exact hw,?_⟩) (iV (K:=fun v=>iU P pk X ops S r (dJ ρ o.dst v) (Q .normal) w) hk);rw[hr.eval];exact hv
    .exact fin undef (.inr ⟨by rw[hr.wanted];exact hw,rfl⟩) hB
   .exact h.elim
 | one i r ih=>
  intro f li ρ w a hp h hS qE hr hf
  cases f with
  | zero=>simp[bW]at hp
  | succ f=>
   simp only[bW,Bool.and_eq_true,beq_iff_eq]at hp;refine mq hp.1 (by simp) fun j hj=>?_
   have Cm:j∈Region.ready .any ops li:=by rw[hp.1];exact hj
   simp only[List.mem_singleton]at hj;subst hj;exact eC hd hm h hS hr hf (fun c w' hx=>⟨hx,_,hr,hf⟩) fun ρ' a' w' xF hn dM lf=>ih f _ _ _ _ hp.2 hn xF (qE.set Cm) dM lf
 | two i ri j rj Ob Oc=>
  intro f li ρ w a hp h hS qE hr hf
  cases f with
  | zero=>simp[bW]at hp
  | succ f=>
   simp only[bW,Bool.and_eq_true,beq_iff_eq]at hp;refine mq hp.1.1 (by simp) fun x hx=>?_
   have Cm:x∈Region.ready .any ops li:=by rw[hp.1.1];exact hx
   simp only[List.mem_cons,List.not_mem_nil,or_false]at hx;rcases hx with rfl | rfl
   .exact eC hd hm h.1 hS hr hf (fun c w' hx=>⟨hx,_,hr,hf⟩) fun ρ' a' w' xF hn dM lf=>Ob f _ _ _ _ hp.1.2 hn xF (qE.set Cm) dM lf
   .exact eC hd hm h.2 hS hr hf (fun c w' hx=>⟨hx,_,hr,hf⟩) fun ρ' a' w' xF hn dM lf=>Oc f _ _ _ _ hp.2 hn xF (qE.set Cm) dM lf
 | three i ri j rj k rk Ob Oc Vb=>
  intro f li ρ w a hp h hS qE hr hf
  cases f with
  | zero=>simp[bW]at hp
  | succ f=>
   simp only[bW,Bool.and_eq_true,beq_iff_eq]at hp;refine mq hp.1.1.1 (by simp) fun x hx=>?_
   have Cm:x∈Region.ready .any ops li:=by rw[hp.1.1.1];exact hx
   simp only[List.mem_cons,List.not_mem_nil,or_false]at hx;rcases hx with rfl | rfl | rfl
   .exact eC hd hm h.1 hS hr hf (fun c w' hx=>⟨hx,_,hr,hf⟩) fun ρ' a' w' xF hn dM lf=>Ob f _ _ _ _ hp.1.1.2 hn xF (qE.set Cm) dM lf
   .exact eC hd hm h.2.1 hS hr hf (fun c w' hx=>⟨hx,_,hr,hf⟩) fun ρ' a' w' xF hn dM lf=>Oc f _ _ _ _ hp.1.2 hn xF (qE.set Cm) dM lf
   .exact eC hd hm h.2.2 hS hr hf (fun c w' hx=>⟨hx,_,hr,hf⟩) fun ρ' a' w' xF hn dM lf=>Vb f _ _ _ _ hp.2 hn xF (qE.set Cm) dM lf
 | four i ri j rj k rk l rl Ob Oc Vb ihl=>
  intro f li ρ w a hp h hS qE hr hf
  cases f with
  | zero=>simp[bW]at hp
  | succ f=>
   simp only[bW,Bool.and_eq_true,beq_iff_eq]at hp;refine mq hp.1.1.1.1 (by simp) fun x hx=>?_
   have Cm:x∈Region.ready .any ops li:=by rw[hp.1.1.1.1];exact hx
   simp only[List.mem_cons,List.not_mem_nil,or_false]at hx;rcases hx with rfl | rfl | rfl | rfl
   .exact eC hd hm h.1 hS hr hf (fun c w' hx=>⟨hx,_,hr,hf⟩) fun ρ' a' w' xF hn dM lf=>Ob f _ _ _ _ hp.1.1.1.2 hn xF (qE.set Cm) dM lf
   .exact eC hd hm h.2.1 hS hr hf (fun c w' hx=>⟨hx,_,hr,hf⟩) fun ρ' a' w' xF hn dM lf=>Oc f _ _ _ _ hp.1.1.2 hn xF (qE.set Cm) dM lf
   .exact eC hd hm h.2.2.1 hS hr hf (fun c w' hx=>⟨hx,_,hr,hf⟩) fun ρ' a' w' xF hn dM lf=>Vb f _ _ _ _ hp.1.2 hn xF (qE.set Cm) dM lf
   .exact eC hd hm h.2.2.2 hS hr hf (fun c w' hx=>⟨hx,_,hr,hf⟩) fun ρ' a' w' xF hn dM lf=>ihl f _ _ _ _ hp.2 hn xF (qE.set Cm) dM lf
def iq:po->Bool
 | .fin=>true
 | .last _=>false
 | .take _ _=>false
 | .one _ r=>iq r
 | .two _ ri _ rj=>iq ri && iq rj
 | .three _ ri _ rj _ rk=>iq ri && iq rj && iq rk
 | .four _ ri _ rj _ rk _ rl=>iq ri && iq rj && iq rk && iq rl
def ca:wj->Code->Bool
 | .draw p,.region _ _ _=>iq p
 | .seq a b,.seq x y=>ca a x && ca b y
 | .join _ _ a b,.seq x y=>ca a x && ca b y
 | .cond a b,.cond _ x y=>ca a x && ca b y
 | .block a,.block _ x=>ca a x
 | .loop _ _ a,.loop x=>ca a x
 | .scope a,.scope x=>ca a x
 | _,c=>pq c
theorem jP.rd{o:Oper}{ε:Operand->Value}{K:Value->Pw}{w:Wd}(h:jP P X false o ε K w):jP P X true o ε K w:=by
 unfold jP at *;split at h <;> first | exact h | exact absurd h.1 (by decide) | trivial
theorem eE{ro:Option Nat}{ops:Array Oper}{M:Nat->Bool}{ρ0:Env}{S:Pw}{i:Nat}{next:Env->Pw}{ρ:Env}{w:Wd}{a:Act}{K':Act->Pw}{Q:Exit->Act->Pw}
  (hd:∀o∈ops.toList,qH n o.dst=true) (hm:∀o∈ops.toList,∀m,M m=true->oq m o.dst=true) (h:uS P pk X ops S i next ρ w) (hr:k_ D n a ρ) (hf:uH M ρ0 ρ) (hx:∀c w',X c w'->Q (.panic c) a w')
  (hk:∀ρ' a' w',next ρ' w'->k_ D n a' ρ'->uH M ρ0 ρ'->K' a' w'):wpOpIn (ou ro) 0 P ops Q i K' a w:=by
 unfold uS at h;split at h
 .rename_i o ho
  have cN:o∈ops.toList:=by
   have:o∈ops:=Array.mem_of_getElem? ho;simpa using this
  unfold wpOpIn;simp only[ho,hr.wanted];rcases ot h with⟨hw,hA⟩ | ⟨hw,hB⟩
  .rw[if_pos hw];refine Dg (X:=X) (K:=fun v w'=>S w'/\nK (TR ops i) v fun v=>next (dJ ρ o.dst v) w') (xM hA) ?_ (fun v w' h'=>hk _ _ _ (iV (K:=fun v=>next (dJ ρ o.dst v) w') h'.2) (hr.dJ (hd o cN) v) (hf.trans (.dJ (hm o cN) v))) hx;rw[hr.eval];exact(mh hA).rd
  .rw[if_neg (by simp[hw])];exact⟨fun _ _=>trivial,hk _ _ _ hB (hr.dJ (hd o cN) undef) (hf.trans (.dJ (hm o cN) undef))⟩
 .exact h.elim
theorem GJ{ro:Option Nat}{ops:Array Oper}{M:Nat->Bool}{Q:Exit->Env->Pw}{ρ0:Env}{S:Pw}(hd:∀o∈ops.toList,qH n o.dst=true)
  (hm:∀o∈ops.toList,∀m,M m=true->oq m o.dst=true):∀(p:po)(f:Nat)(li:Array Bool)(ρ:Env)(w:Wd)(a:Act),iq p=true->
  bW ops p f li=true->iU P pk X ops S p ρ (Q .normal) w->k_ D n a ρ->uH M ρ0 ρ->
  wpAnyIn (ou ro) 0 P .any ops (iK D n Q X M ρ0) f li a w:=by
 have all:∀{l:List Nat}{f:Nat}{li:Array Bool}{a:Act}{w:Wd},Region.ready .any ops li=l->l≠[]->(∀i∈l,wpOpIn (ou ro) 0 P ops (iK D n Q X M ρ0) i (wpAnyIn (ou ro) 0 P .any ops (iK D n Q X M ρ0) f (li.setIfInBounds i true)) a w)->wpAnyIn (ou ro) 0 P .any ops (iK D n Q X M ρ0) (f+1) li a w:=
  fun {l f li a w} h1 h2 h3=>⟨fun h=>(h2 (h1.symm.trans h)).elim,fun i hi=>h3 i (by rw[<- h1];exact hi)⟩
 intro p
 induction p with
 | fin=>
  intro f li ρ w a _ hp h hr hf;simp only[bW,List.isEmpty_iff]at hp
  cases f with
  | zero=>exact⟨hp,ρ,hr,h,hf⟩
  | succ f=>exact⟨fun _=>⟨ρ,hr,h,hf⟩,fun i hi=>by rw[hp]at hi;cases hi⟩
 | last i=>intro f li ρ w a ht;cases ht
 | take i r ih=>intro f li ρ w a ht;cases ht
 | one i r ih=>
  intro f li ρ w a ht hp h hr hf
  cases f with
  | zero=>simp[bW]at hp
  | succ f=>
   simp only[bW,Bool.and_eq_true,beq_iff_eq]at hp;refine all hp.1 (by simp) fun j hj=>?_
   simp only[List.mem_singleton]at hj;subst hj;exact eE hd hm h hr hf (fun c w' hx=>⟨hx,_,hr,hf⟩) fun ρ' a' w' hn dM lf=>ih f _ _ _ _ ht hp.2 hn dM lf
 | two i ri j rj Ob Oc=>
  intro f li ρ w a ht hp h hr hf;simp only[iq,Bool.and_eq_true]at ht
  cases f with
  | zero=>simp[bW]at hp
  | succ f=>
   simp only[bW,Bool.and_eq_true,beq_iff_eq]at hp;refine all hp.1.1 (by simp) fun x hx=>?_
   simp only[List.mem_cons,List.not_mem_nil,or_false]at hx;rcases hx with rfl | rfl
   .exact eE hd hm h.1 hr hf (fun c w' hx=>⟨hx,_,hr,hf⟩) fun ρ' a' w' hn dM lf=>Ob f _ _ _ _ ht.1 hp.1.2 hn dM lf
   .exact eE hd hm h.2 hr hf (fun c w' hx=>⟨hx,_,hr,hf⟩) fun ρ' a' w' hn dM lf=>Oc f _ _ _ _ ht.2 hp.2 hn dM lf
 | three i ri j rj k rk Ob Oc Vb=>
  intro f li ρ w a ht hp h hr hf;simp only[iq,Bool.and_eq_true]at ht
  cases f with
  | zero=>simp[bW]at hp
  | succ f=>
   simp only[bW,Bool.and_eq_true,beq_iff_eq]at hp;refine all hp.1.1.1 (by simp) fun x hx=>?_
   simp only[List.mem_cons,List.not_mem_nil,or_false]at hx;rcases hx with rfl | rfl | rfl
   .exact eE hd hm h.1 hr hf (fun c w' hx=>⟨hx,_,hr,hf⟩) fun ρ' a' w' hn dM lf=>Ob f _ _ _ _ ht.1.1 hp.1.1.2 hn dM lf
   .exact eE hd hm h.2.1 hr hf (fun c w' hx=>⟨hx,_,hr,hf⟩) fun ρ' a' w' hn dM lf=>Oc f _ _ _ _ ht.1.2 hp.1.2 hn dM lf
   .exact eE hd hm h.2.2 hr hf (fun c w' hx=>⟨hx,_,hr,hf⟩) fun ρ' a' w' hn dM lf=>Vb f _ _ _ _ ht.2 hp.2 hn dM lf
 | four i ri j rj k rk l rl Ob Oc Vb ihl=>
  intro f li ρ w a ht hp h hr hf;simp only[iq,Bool.and_eq_true]at ht
  cases f with
  | zero=>simp[bW]at hp
  | succ f=>
   simp only[bW,Bool.and_eq_true,beq_iff_eq]at hp;refine all hp.1.1.1.1 (by simp) fun x hx=>?_
   simp only[List.mem_cons,List.not_mem_nil,or_false]at hx;rcases hx with rfl | rfl | rfl | rfl
   .exact eE hd hm h.1 hr hf (fun c w' hx=>⟨hx,_,hr,hf⟩) fun ρ' a' w' hn dM lf=>Ob f _ _ _ _ ht.1.1.1 hp.1.1.1.2 hn dM lf
   .exact eE hd hm h.2.1 hr hf (fun c w' hx=>⟨hx,_,hr,hf⟩) fun ρ' a' w' hn dM lf=>Oc f _ _ _ _ ht.1.1.2 hp.1.1.2 hn dM lf
   .exact eE hd hm h.2.2.1 hr hf (fun c w' hx=>⟨hx,_,hr,hf⟩) fun ρ' a' w' hn dM lf=>Vb f _ _ _ _ ht.1.2 hp.1.2 hn dM lf
   .exact eE hd hm h.2.2.2 hr hf (fun c w' hx=>⟨hx,_,hr,hf⟩) fun ρ' a' w' hn dM lf=>ihl f _ _ _ _ ht.2 hp.2 hn dM lf
theorem wF:∀(l:List (Nat×Sh))(J:Xv l)(ρ:Env)(w:Wd)(F:Env->Pw)(base:Env),GG l J ρ w->RV l J base F->
  (∀t,(l.all fun p=>decide (p.1≠t))=true->base t=ρ t)->F ρ w
 | [],J,ρ,w,F,base,ha,dT,hb=>by
  have:base=ρ:=funext fun t=>hb t rfl
  subst this;exact dT w ha
 | (t,s)::r,J,ρ,w,F,base,ha,dT,hb=>by
  obtain⟨x,hx,hr⟩:=Sh.Ab ha;refine wF r (J x) ρ w F _ hr (dT x) fun u hu=>?_
  by_cases e:u=t
  .subst e;rw[Gq,hx]
  .rw[IG _ _ e];refine hb u ?_;simp only[List.all_cons,Bool.and_eq_true,decide_eq_true_eq];exact⟨fun h=>e h.symm,hu⟩
theorem Od{mask:Nat}{ρ ρ':Env}(h:∀t,Nat.testBit mask t=false->ρ' t=ρ t):mix mask ρ' ρ=ρ':=by
 funext t;unfold mix
 cases hb:Nat.testBit mask t with
 | true=>rfl
 | false=>exact(h t hb).symm
theorem Ey{F:Fence}{c:Code}{Q:Exit->Act->Pw}(I:Nat->Act->Pw)
  (round:∀m a w,I m a w->c.wpIn F 0 P (Exit.then (fun a' w'=>∃m',m' < m/\I m' a' w') Q) a w) {m:Nat} {a:Act} {w:Wd} (h₀:I m a w):(Code.loop c).wpIn F 0 P Q a w:=by
 classical
 have least:∀a w,(∃m,I m a w)->∃m,I m a w/\∀k,I k a w->m<=k:=fun a w ⟨m,hm⟩=>by
  induction m using Nat.strongRecOn with
  | _ m ih=>
   by_cases hk:∃k,k < m/\I k a w
   .obtain⟨k,hk,hI⟩:=hk;exact ih k hk hI
   .exact⟨m,hm,fun k hI=>by
     rcases Nat.lt_or_ge k m with h | h
     .exact absurd ⟨k,h,hI⟩ hk
     .exact h⟩
 refine wpIn_loop (fun a w=>∃m,I m a w) (fun a w=>if h:∃m,I m a w then Classical.choose (least a w h) else 0) ⟨m,h₀⟩ ?_;intro a w hI;have hs:=Classical.choose_spec (least a w hI);refine wpIn_mono (round _ a w hs.1) ?_;intro e a' w' hq
 cases e with
 | normal=>
  obtain⟨m',cF,Xw⟩:=hq;refine⟨⟨m',Xw⟩,?_⟩;rw[dif_pos hI,dif_pos ⟨m',Xw⟩];exact Nat.lt_of_le_of_lt ((Classical.choose_spec (least a' w' ⟨m',Xw⟩)).2 m' Xw) cF
 | _=>exact hq
theorem sy{F:Fence}{c:Code}{Q:Exit->Act->Pw}{a:Act}{w:Wd}(hF:F=Fence.wide)(h:c.wpIn F 0 P (Exit.noGoto Q) a w):(Code.scope c).wpIn F 0 P Q a w:=by
 subst hF;exact wpIn_wide.2 (wp_scope_straight (wpIn_wide.1 h))
def cH:Code->Bool
 | .seq a b=>cH a && cH b
 | .cond _ a b=>cH a && cH b
 | .block _ a=>cH a
 | .scope _=>false
 | .loop a=>cH a
 | _=>true
theorem Oe{ops:Array Oper}{az:Array Bool}(hl:az.size=ops.size)(ha:uT ops=true)(h:Region.ready .any ops az=[]):∀i,i < ops.size->az.getD i false=true:=by
 intro i
 induction i using Nat.strongRecOn with
 | _ i ih=>
  intro hi
  cases hd:az.getD i false with
  | true=>rfl
  | false=>
   exfalso
   have hm:i∈Region.ready .any ops az:=by
    refine mem_ready.2 ⟨by simpa[hl,hi] using hd,ops[i],by simp[hi],fun e he _=>ih e.on ?_ ?_⟩
    .simp only[uT,List.all_eq_true,List.mem_range]at ha;have:=ha i hi;simp only[hi,getElem?_pos,List.all_eq_true]at this;have:=this e (by simpa using he);simp[Nat.blt]at this;omega
    .simp only[uT,List.all_eq_true,List.mem_range]at ha;have:=ha i hi;simp only[hi,getElem?_pos,List.all_eq_true]at this;have:=this e (by simpa using he);simp[Nat.blt]at this;omega
   rw[h]at hm;cases hm
theorem IX{ops:Array Oper}{M:Nat->Bool}{Q:Exit->Env->Pw}{ρ0:Env}{Inv:(Nat->Bool)->Env->Pw}(hd:∀o∈ops.toList,qH n o.dst=true)
  (hm:∀o∈ops.toList,∀m,M m=true->oq m o.dst=true) (ha:uT ops=true) (Vd:∀d ρ w,Inv d ρ w->(∀i,i < ops.size->d i=true)->Q .normal ρ w)
  (YD:∀d ρ w,Inv d ρ w->∀i,d i=false->Ew ops i d=true->Oa P pk X ops i (fun ρ' w'=>Inv (Df d i) ρ' w') ρ w) :
  ∀(f:Nat)(az:Array Bool)(ρ:Env)(w:Wd)(a:Act),az.size=ops.size->az.toList.count false<=f->Inv (fun i=>az.getD i false) ρ w->k_ D n a ρ->uH M ρ0 ρ->wpAny P .any ops (iK D n Q X M ρ0) f az a w:=by
 intro f
 have fin:∀(az:Array Bool)(ρ:Env)(w:Wd)(a:Act),az.size=ops.size->Inv (fun i=>az.getD i false) ρ w->k_ D n a ρ->uH M ρ0 ρ->Region.ready .any ops az=[]->iK D n Q X M ρ0 .normal a w:=fun az ρ w a hl hi hr hf h=>⟨ρ,hr,Vd _ ρ w hi (Oe hl ha h),hf⟩
 induction f with
 | zero=>
  intro az ρ w a hl hc hi hr hf
  have dT:∀i,i < ops.size->az.getD i false=true:=fun i h=>by
   cases hb:az.getD i false with
   | true=>rfl
   | false=>
    exfalso;have cF:i < az.size:=by omega
    have:false∈az.toList:=by
     have e:az[i]=false:=by simpa[cF] using hb
     rw[<- e];simp
    have:=List.count_pos_iff.2 this;omega
  have Lw:Region.ready .any ops az=[]:=by
   rw[List.eq_nil_iff_forall_not_mem];intro i h;obtain⟨h1,o,ho,_⟩:=mem_ready.1 h;have cF:i < ops.size:=(Array.getElem?_eq_some_iff.1 ho).1;have:=dT i cF;have Ep:i < az.size:=by omega
   simp[Ep]at h1 this;rw[h1]at this;cases this
  exact⟨Lw,fin az ρ w a hl hi hr hf Lw⟩
 | succ f ih=>
  intro az ρ w a hl hc hi hr hf;refine⟨fun h=>fin az ρ w a hl hi hr hf h,fun i hri=>?_⟩;obtain⟨h1,o,ho,h2⟩:=mem_ready.1 hri;have cF:i < ops.size:=(Array.getElem?_eq_some_iff.1 ho).1;have Ep:i < az.size:=by omega
  have TM:az.getD i false=false:=by simpa[Ep] using h1
  have haf:Ew ops i (fun i=>az.getD i false)=true:=by
   unfold Ew;rw[ho];simp only[List.all_eq_true,Bool.or_eq_true,Bool.not_eq_true'];intro e he
   cases hb:Region.binds .any e with
   | false=>exact .inl rfl
   | true=>exact .inr (h2 e (by simpa using he) hb)
  have hs:=YD _ ρ w hi i TM haf
  have cN:o∈ops.toList:=by
   have:o∈ops:=Array.mem_of_getElem? ho;simpa using this
  have hd':Df (fun i=>az.getD i false) i=fun j=>(az.setIfInBounds i true).getD j false:=by
   funext j;unfold Df;by_cases e:j=i
   .subst e;simp[Ep]
   .have:Nat.beq j i=false:=by
     cases hb:Nat.beq j i with
     | false=>rfl
     | true=>exact absurd (Nat.eq_of_beq_eq_true hb) e
    have e2:¬ i=j:=fun h=>e h.symm
    simp[this,e2]
  have IY:(az.setIfInBounds i true).toList.count false<=f:=by
   rw[Array.toList_setIfInBounds];have e1:az.toList[i]'(by simpa using Ep)=false:=by simpa[Ep] using TM
   have h5:az.toList=az.toList.take i++false::az.toList.drop (i+1):=by
    rw[<- e1];exact(List.take_append_drop i _).symm.trans (by rw[List.drop_eq_getElem_cons])
   have h6:az.toList.set i true=az.toList.take i++true::az.toList.drop (i+1):=by
    rw[List.set_eq_take_append_cons_drop,if_pos (by simpa using Ep)]
   rw[h6];rw[h5]at hc;simp only[List.count_append,List.count_cons]at hc ⊢;simp at hc ⊢;omega
  have next:∀ρ' a' w',Inv (Df (fun i=>az.getD i false) i) ρ' w'->k_ D n a' ρ'->uH M ρ0 ρ'->wpAny P .any ops (iK D n Q X M ρ0) f (az.setIfInBounds i true) a' w':=fun ρ' a' w' h dM lf=>ih _ ρ' w' a' (by simp[hl]) IY (hd' ▸ h) dM lf
  unfold Oa at hs;rw[ho]at hs;unfold wpOp;simp only[ho,hr.wanted];rcases ot hs with⟨hw,hA⟩ | ⟨hw,hB⟩
  .rw[if_pos hw];refine .inl (Ex (X:=X) (K:=fun v w'=>Inv (Df (fun i=>az.getD i false) i) (dJ ρ o.dst v) w') ?_ (fun v w' h'=>next _ _ _ h' (hr.dJ (hd o cN) v) (hf.trans (.dJ (hm o cN) v))) (fun c w' hx=>⟨hx,_,hr,hf⟩));rw[hr.eval];exact mh hA
  .rw[if_neg (by simp[hw])];exact next _ _ _ hB (hr.dJ (hd o cN) undef) (hf.trans (.dJ (hm o cN) undef))
theorem mi{ro:Option Nat}:∀(Aq:wj)(c:Code)(Q:Exit->Env->Pw)(ρ:Env)(w:Wd)(a:Act),(ro=none∨(ca Aq c=true/\cH c=true))->uU P n Aq c=true->tw P pk X Aq c Q ρ w->k_ D n a ρ->
  c.wpIn (ou ro) 0 P (iK D n Q X (fun m=>dm m c) ρ) a w:=by
 intro Aq
 induction Aq with
 | nil=>
  intro c Q ρ w a Ez hc h hr
  cases c <;> (try simp only[tw]at h) <;> try exact h.elim
  case skip=>exact wpIn_skip ⟨ρ,hr,h,.refl _ _⟩
  case label l=>exact wpIn_label ⟨ρ,hr,h,.refl _ _⟩
  case exit i=>exact wpIn_exit ⟨ρ,hr,h,.refl _ _⟩
  case goto l=>exact wpIn_goto ⟨ρ,hr,h,.refl _ _⟩
  case ret=>exact wpIn_ret ⟨ρ,hr,h,.refl _ _⟩
  case region id ops d=>
   cases d with
   | true=>exact h.elim
   | false=>
   simp only[uU,List.all_eq_true]at hc;refine wpIn_region ?_
   have:=Ap (ro:=ro) (n:=n) (M:=fun m=>dm m (.region id ops false)) (Q:=Q) (ρ0:=ρ) ops.toList [] ρ w a rfl hc (fun o ho m hm=>by
    simp only[dm,List.all_eq_true]at hm;exact hm o ho) h hr (.refl _ _)
   simpa[List.range_eq_range'] using this
 | draw p=>
  intro c Q ρ w a Ez hc h hr
  cases c <;> (try simp only[tw]at h) <;> try exact h.elim
  rename_i id ops d
  cases d with
  | false=>exact h.elim
  | true=>
  obtain⟨S,hS,h⟩:=h;simp only[uU,Bool.and_eq_true,List.all_eq_true]at hc
  have hmm:∀o∈ops.toList,∀m,dm m (.region id ops true)=true->oq m o.dst=true:=fun o ho m hm=>by
   simp only[dm,List.all_eq_true]at hm;exact hm o ho
  rcases Ez with EA | EA
  .subst EA;exact wpIn_wide.2 (Gn hc.1.2 (GI hc.1.1.1 hmm hc.1.1.2 p _ _ ρ _ a hc.2 h hS nG.start hr (.refl _ _)))
  .exact wpIn_region_any hc.1.2 (GJ hc.1.1.1 hmm p _ _ ρ _ a EA.1 hc.2 h hr (.refl _ _))
 | free=>
  intro c Q ρ w a Ez hc h hr
  cases c <;> (try simp only[tw]at h) <;> try exact h.elim
  rename_i id ops d
  cases d with
  | false=>exact h.elim
  | true=>
  rcases Ez with EA | EA
  .subst EA;simp only[uU,Bool.and_eq_true,List.all_eq_true]at hc
   have hmm:∀o∈ops.toList,∀m,dm m (.region id ops true)=true->oq m o.dst=true:=fun o ho m hm=>by
    simp only[dm,List.all_eq_true]at hm;exact hm o ho
   obtain⟨Inv,h1,h2,h3⟩:=h;refine wpIn_wide.2 (wp_region_any hc.1.2 (IX (Inv:=Inv) hc.1.1 hmm hc.2 h2 h3 _ _ ρ _ a (by simp) ?_ ?_ hr (.refl _ _)))
   .simp
   .have e:(fun i=>(Array.replicate ops.size false).getD i false)=fun _=>false:=by
     funext i;rcases Nat.lt_or_ge i ops.size with h | h <;> simp[h]
    rw[e];exact h1
  .simp[ca,pq]at EA
 | seq x y Of YE=>
  intro c Q ρ w a Ez hc h hr
  cases c <;> simp only[tw]at h
  rename_i cx cy;simp only[uU,Bool.and_eq_true]at hc;have hx:ro=none∨(ca x cx=true/\cH cx=true):=Ez.imp id fun h=>by simp only[ca,cH,Bool.and_eq_true]at h;exact⟨h.1.1,h.2.1⟩
  have hy:ro=none∨(ca y cy=true/\cH cy=true):=Ez.imp id fun h=>by simp only[ca,cH,Bool.and_eq_true]at h;exact⟨h.1.2,h.2.2⟩
  refine wpIn_seq (wpIn_mono (Of cx (sW (tw P pk X y cy Q) Q) ρ w a hx hc.1 h hr) ?_);intro e a' w' hp;have m1:∀m,dm m (.seq cx cy)=true->dm m cx=true:=fun m hm=>by simp only[dm,Bool.and_eq_true]at hm;exact hm.1
  have m2:∀m,dm m (.seq cx cy)=true->dm m cy=true:=fun m hm=>by simp only[dm,Bool.and_eq_true]at hm;exact hm.2
  cases e with
  | normal=>
   obtain⟨ρ',dM,hq,hf⟩:=hp;exact wpIn_mono (YE cy Q ρ' w' a' hy hc.2 hq dM) fun e a'' gE hp=>(hp.mono m2).from (hf.mono m1)
  | panic c=>obtain⟨hx,ρ',dM,hf⟩:=hp;exact⟨hx,ρ',dM,hf.mono m1⟩
  | outgrown=>exact hp
  | exit i=>obtain⟨ρ',dM,hq,hf⟩:=hp;exact⟨ρ',dM,hq,hf.mono m1⟩
  | goto i=>obtain⟨ρ',dM,hq,hf⟩:=hp;exact⟨ρ',dM,hq,hf.mono m1⟩
  | ret=>obtain⟨ρ',dM,hq,hf⟩:=hp;exact⟨ρ',dM,hq,hf.mono m1⟩
 | join l mask x y Of YE=>
  intro c Q ρ w a Ez hc h hr
  cases c <;> simp only[tw]at h
  rename_i cx cy;simp only[uU,Bool.and_eq_true]at hc;have hx:ro=none∨(ca x cx=true/\cH cx=true):=Ez.imp id fun h=>by simp only[ca,cH,Bool.and_eq_true]at h;exact⟨h.1.1,h.2.1⟩
  have hy:ro=none∨(ca y cy=true/\cH cy=true):=Ez.imp id fun h=>by simp only[ca,cH,Bool.and_eq_true]at h;exact⟨h.1.2,h.2.2⟩
  obtain⟨J,h1,h2⟩:=h;refine wpIn_seq (wpIn_mono (Of cx (sW (GG l J) Q) ρ w a hx hc.1.1.1 h1 hr) ?_);intro e a' w' hp;have m1:∀m,dm m (.seq cx cy)=true->dm m cx=true:=fun m hm=>by simp only[dm,Bool.and_eq_true]at hm;exact hm.1
  have m2:∀m,dm m (.seq cx cy)=true->dm m cy=true:=fun m hm=>by simp only[dm,Bool.and_eq_true]at hm;exact hm.2
  cases e with
  | normal=>
   obtain⟨ρ',dM,hq,hf⟩:=hp;have Ve:=Od (hf mask hc.1.2);have:=wF l J ρ' w' _ (mix mask ρ' ρ) hq (h2 ρ') (fun t _=>by rw[Ve]);exact wpIn_mono (YE cy Q ρ' w' a' hy hc.1.1.2 this dM) fun e a'' gE hp=>(hp.mono m2).from (hf.mono m1)
  | panic c=>obtain⟨hx,ρ',dM,hf⟩:=hp;exact⟨hx,ρ',dM,hf.mono m1⟩
  | outgrown=>exact hp
  | exit i=>obtain⟨ρ',dM,hq,hf⟩:=hp;exact⟨ρ',dM,hq,hf.mono m1⟩
  | goto i=>obtain⟨ρ',dM,hq,hf⟩:=hp;exact⟨ρ',dM,hq,hf.mono m1⟩
  | ret=>obtain⟨ρ',dM,hq,hf⟩:=hp;exact⟨ρ',dM,hq,hf.mono m1⟩
 | cond x y Of YE=>
  intro c Q ρ w a Ez hc h hr
  cases c <;> simp only[tw]at h
  rename_i v cx cy;simp only[uU,Bool.and_eq_true]at hc;have hx:ro=none∨(ca x cx=true/\cH cx=true):=Ez.imp id fun h=>by simp only[ca,cH,Bool.and_eq_true]at h;exact⟨h.1.1,h.2.1⟩
  have hy:ro=none∨(ca y cy=true/\cH cy=true):=Ez.imp id fun h=>by simp only[ca,cH,Bool.and_eq_true]at h;exact⟨h.1.2,h.2.2⟩
  unfold TS at h;split at h
  .rename_i b hb;have he:a.eval v = .bool b:=by rw[hr.eval];exact hb
   refine wpIn_cond_split he (fun hb=>?_) (fun hb=>?_)
   .exact wpIn_mono (Of cx Q ρ w a hx hc.1 (h.out.1 hb) hr) fun e a' w' hp=>hp.mono fun m hm=>by simp only[dm,Bool.and_eq_true]at hm;exact hm.1
   .exact wpIn_mono (YE cy Q ρ w a hy hc.2 (h.out.2 hb) hr) fun e a' w' hp=>hp.mono fun m hm=>by simp only[dm,Bool.and_eq_true]at hm;exact hm.2
  .exact h.elim
 | block x Of=>
  intro c Q ρ w a Ez hc h hr
  cases c <;> simp only[tw]at h
  rename_i id cx;simp only[uU]at hc;refine wpIn_block (wpIn_mono (Of cx (Ao id Q) ρ w a (Ez.imp (fun h=>h) fun h=>by simpa only[ca,cH] using h) hc h hr) ?_);intro e a' w' hp
  cases e with
  | exit i=>
   obtain⟨ρ',dM,hq,hf⟩:=hp;simp only[Ao]at hq;simp only[Exit.inBlock]
   cases hb:Nat.beq i id with
   | true=>
    have:=Nat.eq_of_beq_eq_true hb;subst this;rw[hb]at hq;rw[if_pos rfl];exact⟨ρ',dM,hq,hf⟩
   | false=>
    rw[hb]at hq;rw[if_neg (fun e=>by subst e;simp at hb)];exact⟨ρ',dM,hq,hf⟩
  | panic c=>exact hp
  | outgrown=>exact hp
  | normal=>obtain⟨ρ',dM,hq,hf⟩:=hp;exact⟨ρ',dM,hq,hf⟩
  | goto i=>obtain⟨ρ',dM,hq,hf⟩:=hp;exact⟨ρ',dM,hq,hf⟩
  | ret=>obtain⟨ρ',dM,hq,hf⟩:=hp;exact⟨ρ',dM,hq,hf⟩
 | scope x Of=>
  intro c Q ρ w a Ez hc h hr
  cases c <;> simp only[tw]at h
  rename_i cx;simp only[uU]at hc;have EA:ro=none:=Ez.resolve_right (by simp[cH]);subst EA;refine sy rfl (wpIn_mono (Of cx (N_ Q) ρ w a (.inl rfl) hc h hr) ?_);intro e a' w' hp
  cases e with
  | goto i=>obtain⟨ρ',dM,hq,hf⟩:=hp;exact hq.elim
  | panic c=>exact hp
  | outgrown=>exact hp
  | normal=>obtain⟨ρ',dM,hq,hf⟩:=hp;exact⟨ρ',dM,hq,hf⟩
  | exit i=>obtain⟨ρ',dM,hq,hf⟩:=hp;exact⟨ρ',dM,hq,hf⟩
  | ret=>obtain⟨ρ',dM,hq,hf⟩:=hp;exact⟨ρ',dM,hq,hf⟩
 | loop l mask x Of=>
  intro c Q ρ w a Ez hc h hr
  cases c <;> simp only[tw]at h
  rename_i cx;simp only[uU,Bool.and_eq_true]at hc;have hx:ro=none∨(ca x cx=true/\cH cx=true):=Ez.imp id fun h=>by simpa only[ca,cH] using h
  obtain⟨I,⟨m,hm⟩,IZ⟩:=h;refine Ey (fun m a w=>∃ρ',k_ D n a ρ'/\GG l (I m) ρ' w/\uH (fun m=>dm m (.loop cx)) ρ ρ') ?_ ⟨ρ,hr,hm,.refl _ _⟩;rintro m a w ⟨ρ',dM,ha,hf⟩;have Ve:=Od (hf mask hc.1.2);have:=wF l (I m) ρ' w _ (mix mask ρ' ρ) ha (IZ ρ' m) (fun t _=>by rw[Ve]);refine wpIn_mono (Of cx (sW (fun YB gE=>∃m',m' < m/\GG l (I m') YB gE) Q) ρ' w a hx hc.1.1 this dM) ?_;intro e a'' gE hp;have Nw:∀m,dm m (.loop cx)=true->dm m cx=true:=fun m hm=>by simpa only[dm] using hm
  have hp:=(hp.mono Nw).from hf
  cases e with
  | normal=>obtain⟨YB,ab0,hq,hf3⟩:=hp;obtain⟨m',cF,hq⟩:=hq;exact⟨m',cF,YB,ab0,hq,hf3⟩
  | panic c=>exact hp
  | outgrown=>exact hp
  | exit i=>exact hp
  | goto i=>exact hp
  | ret=>exact hp
def RW(tmps:Array Value):ResultVar->Sem Value
 | .tmp t=>pure (tmps.getD t undef)
 | .cell x t=>do loadVar t (<- asAddr (tmps.getD x undef))
theorem tz{a:Act}{ρ:Env}{w:Wd}(hr:k_ D n a ρ):∀(rs:List ResultVar)(F:List Value->Prop),yT P rs ρ w F->
  ∃vs,(rs.mapM (RW a.tmps)).run P w = .ok vs w/\F vs
 | [],F,h=>⟨[],by simp,h⟩
 | .tmp t::r,F,h=>by
  obtain⟨vs,h1,h2⟩:=tz hr r _ h;refine⟨_,?_,h2⟩;have e:(RW a.tmps (.tmp t)).run P w = .ok (ρ t) w:=by rw[<- hr.get t];rfl
  rw[List.mapM_cons,Sem.run_bind,e,Result.andThen_ok,Sem.run_bind,h1];rfl
 | .cell x t::r,F,h=>by
  obtain⟨v,hv,h⟩:=qK h;obtain⟨vs,h1,h2⟩:=tz hr r _ h;refine⟨_,?_,h2⟩
  have hx:(RW a.tmps (.cell x t)).run P w = .ok v w:=by
   have:=hv w (fun _ _ h=>h);show(do loadVar t (<- asAddr (a.tmps.getD x undef)):Sem Value).run P w=_;rw[hr.get]
   cases hp:ρ x <;> rw[hp]at this <;> simp only[Instr.loadAt,Instr.sureAddr,Sem.run_bind]at this <;> first | (simp[stuck]at this;done) | skip
   rename_i p
   cases p with
   | none=>simp[stuck]at this
   | some p=>simpa[asAddr] using this
  rw[List.mapM_cons,Sem.run_bind,hx,Result.andThen_ok,Sem.run_bind,h1];rfl
theorem xN{fn:Func}{a:Act}{ρ:Env}{w:Wd}(hr:k_ D n a ρ){F:List Value->Prop}(h:yT P fn.results.toList ρ w F):∃vs,(results fn a.tmps).run P w = .ok (CX vs) w/\F vs:=by
 obtain⟨vs,h1,h2⟩:=tz hr fn.results.toList F h;refine⟨vs,?_,h2⟩
 have e0:results fn a.tmps=(do let vs<- fn.results.mapM (RW a.tmps);pure (if h:vs.size=1 then vs[0] else .tuple vs)):=by
  unfold results;congr 1
 rw[e0,Array.mapM_eq_mapM_toList,Sem.run_bind,Sem.run_map]
 have e:∀(r:Result (List Value)),r = .ok vs w->((r.andThen fun a w'=>Result.ok a.toArray w').andThen fun vs w'=>Sem.run P (pure (if h:vs.size=1 then vs[0] else .tuple vs)) w') = .ok (CX vs) w:=by
  intro r hr;subst hr;simp only[Result.andThen_ok,Sem.run_pure];congr 1
  match vs with
  | []=>rfl
  | [v]=>rfl
  | _::_::_=>simp[CX]
 exact e _ h1
def Vf(P:Program)(f:FuncId)(args:Array Value)(l:List Ty)(K:jC l)(X:PX)(w:Wd):Prop:=
 Calls P f args w (fun e w'=>FY l K (fun vs Y=>e = .returned (CX vs)/\Y w')∨∃c,e = .panicked c/\X c w')
theorem GK{args:List Value}{m:Nat}(ha:Nat.ble args.length m=true):k_ [] m { tmps:=args.toArray++Array.replicate (m - args.toArray.size) undef,defers:=[] } (qG args):=by
 have hle:=Nat.le_of_ble_eq_true ha;refine⟨rfl,by simp;omega,fun t=>?_⟩;simp only[qG];rcases Nat.lt_or_ge t args.length with h | h
 .simp[Array.getElem?_append,h]
 .simp[List.getD,Array.getElem?_append,Array.getElem?_replicate,Nat.not_lt.2 h];split <;> rfl
theorem Lx{f:FuncId}{fn:Func}{c:Code}{Aq:wj}{args:List Value}{tys:List Ty}{K:jC tys}{w:Wd}(hf:P.funcs[f]? = some fn)(hb:fn.body=some c)
  (hc:uU P fn.ntmps Aq c=true) (ha:Nat.ble args.length fn.ntmps=true) (h:tw P pk X Aq c (Lu P tys fn.results.toList K) (qG args) w):Vf P f args.toArray tys K X w:=by
 refine calls_of_wp hf hb (wp_mono (wpIn_wide.1 (mi (ro:=none) (n:=fn.ntmps) (D:=[]) Aq c _ _ w _ (.inl rfl) hc h (GK ha))) ?_);intro e a' w' hp
 have fin:∀{ρ':Env},k_ [] fn.ntmps a' ρ'->yT P fn.results.toList ρ' w' (fun vs=>qI tys vs K w')->∃v,(results fn a'.tmps).run P w' = .ok v w'/\(FY tys K (fun vs Y=>Ending.returned v = .returned (CX vs)/\Y w')∨∃c,Ending.returned v = .panicked c/\X c w'):=fun dM hq=>by
  obtain⟨vs,h1,h2⟩:=xN dM hq;exact⟨_,h1,.inl (kG tys K (fun us X hh=>⟨by rw[hh.1],hh.2⟩) (og tys vs K w' h2))⟩
 cases e with
 | normal=>obtain⟨ρ',dM,hq,_⟩:=hp;exact⟨dM.defers,fin dM hq⟩
 | ret=>obtain⟨ρ',dM,hq,_⟩:=hp;exact⟨dM.defers,fin dM hq⟩
 | panic c=>obtain⟨h1,ρ',h2,_⟩:=hp;exact⟨h2.defers,.inr ⟨c,rfl,h1⟩⟩
 | exit i=>obtain⟨ρ',dM,hq,_⟩:=hp;exact hq.elim
 | goto i=>obtain⟨ρ',dM,hq,_⟩:=hp;exact hq.elim
 | outgrown=>exact hp.elim
abbrev cc:PX:=fun _ _=>False
theorem Og{f:FuncId}{fn:Func}{c:Code}{Aq:wj}{args:List Value}{tys:List Ty}{K:jC tys}{w:Wd}(hf:P.funcs[f]? = some fn)(hb:fn.body=some c)
  (hc:uU P fn.ntmps Aq c=true) (ha:Nat.ble args.length fn.ntmps=true) (h:tw P pk cc Aq c (Lu P tys fn.results.toList K) (qG args) w):av P f args.toArray tys K w:=
 Calls.mono (Lx hf hb hc ha h) fun _ _ h=>h.elim id fun⟨_,_,hc⟩=>hc.elim
theorem mkS{f:FuncId}{fn:Func}{Aq:wj}{args:List Value}{tys:List Ty}{K:jC tys}{w:Wd}{F C:Prop}(hf:P.funcs[f]? = some fn)
  (hF:F=tw P pk cc Aq (fn.body.getD .skip) (Lu P tys fn.results.toList K) (qG args) w) (hc:(fn.body.isSome && Nat.ble args.length fn.ntmps && uU P fn.ntmps Aq (fn.body.getD .skip))=true)
  (hC:av P f args.toArray tys K w=C) (h:F):C:=by
 simp only[Bool.and_eq_true]at hc;obtain⟨c,hb⟩:=Option.isSome_iff_exists.1 hc.1.1;have e:fn.body.getD .skip=c:=by rw[hb];rfl
 rw[e]at hF hc;rw[<- hC];exact Og hf hb hc.2 hc.1.2 (hF ▸ h)
theorem mkV{rd:Bool}{fv:Value}{args:List Value}{f:FuncId}{ars:Array Value}{tys:List Ty}{K:jC tys}{w:Wd}{C:Prop}(hr:(Gy fv args).run P w = .ok (.enter f ars) w)(hC:C=av P f ars tys K w)(h:C):aD P rd fv args tys K X w:=by
 unfold aD Gx;rw[hr];subst hC;exact Calls.mono h fun _ _ h=> .inl h
theorem mkI{recv:Value}{m:String}{args:List Value}{f:FuncId}{ars:Array Value}{tys:List Ty}{K:jC tys}{w:Wd}{C:Prop}(hr:(invoke (.fn (.method m) #[]) (#[recv]++args.toArray)).run P w = .ok (.enter f ars) w)(hC:C=av P f ars tys K w)(h:C) :
  oh P recv m args tys K X w:=by
 unfold oh Gx;rw[hr];subst hC;exact Calls.mono h fun _ _ h=> .inl h
end sound
end Go.V
