/- Texts for LVaultNew, part 6. -/
import Derived.OrdersIn
import Derived.Scope
import Derived.Recover
import Derived.ControlIn
import Derived.Test.YtiigcapldngijaaGreatQn5
namespace Go.V
section sound
variable {P:Program} {n:Nat} {D:List Deferred} {pk:Nat} {X:PX}
def zF(M:Nat->Bool)(ρ ρ':Env):Prop:=∀mask,M mask=true->∀t,Nat.testBit mask t=false->ρ' t=ρ t
theorem zF.refl(M:Nat->Bool)(ρ:Env):zF M ρ ρ:=fun _ _ _ _=>rfl
theorem zF.trans{M:Nat->Bool}{a b c:Env}(h:zF M a b)(k:zF M b c):zF M a c:=fun m hm t ht=>(k m hm t ht).trans (h m hm t ht)
theorem zF.mono{M M':Nat->Bool}{a b:Env}(h:zF M a b)(hm:∀m,M' m=true->M m=true):zF M' a b:=fun m hm' t ht=>h m (hm m hm') t ht
theorem zF.dt{M:Nat->Bool}{ρ:Env}{d:Option Nat}(h:∀m,M m=true->qL m d=true)(v:Value):zF M ρ (dt ρ d v):=by
 intro m hm t ht
 cases d with
 | none=>rfl
 | some d=>
  have:=h m hm;simp only[qL]at this;refine Nl _ _ fun e=>?_
  subst e;rw[ht]at this;cases this
def zP(ops:Array Oper)(o:Oper)(ρ:Env):Bool:=
 Region.wanted o (fun j=>match(ops[j]?).bind (·.dst) with
  | some d=>match ρ d with
   | .bool b=>some b
   | _=>none
  | none=>none)
theorem jo.wanted{a:Act}{ρ:Env}(h:jo D n a ρ)(ops:Array Oper)(o:Oper):Region.wanted o (yielded ops a.tmps)=zP ops o ρ:=by
 unfold zP;congr 1;funext j;unfold yielded
 cases hd:(ops[j]?).bind (·.dst) with
 | none=>rfl
 | some d=>
  simp only[Option.bind_some];have hg:=h.get d;rcases Nat.lt_or_ge d a.tmps.size with aN | zQ
  .have:a.tmps[d]? = some (ρ d):=by
    rw[<- hg];simp[aN]
   rw[this]
   cases ρ d <;> rfl
  .have e1:a.tmps[d]? = none:=by simp[zQ]
   have e2:ρ d=undef:=by rw[<- hg];simp[e1]
   rw[e1,e2];rfl
theorem oJ{ops:Array Oper}{o:Oper}{ρ:Env}{A B:Prop}(h:gW ops o ρ A B):(zP ops o ρ=true/\A)∨(zP ops o ρ=false/\B):=by
 unfold gW at h;unfold zP Region.wanted
 cases hg:o.guard with
 | none=>rw[hg]at h;exact .inl ⟨rfl,h⟩
 | some gw=>
  obtain⟨j,want⟩:=gw;simp only[hg]at h ⊢
  cases hd:(ops[j]?).bind (·.dst) with
  | none=>rw[hd]at h;exact .inr ⟨rfl,h⟩
  | some d=>
   simp only[hd]at h ⊢;split at h
   .rename_i b hb;simp only[hb]
    cases want <;> cases b <;> simp only[cond_true,cond_false]at h
    .exact .inl ⟨rfl,h⟩
    .exact .inr ⟨rfl,h⟩
    .exact .inr ⟨rfl,h⟩
    .exact .inl ⟨rfl,h⟩
   .rename_i du;refine .inr ⟨?_,h⟩
    cases hv:ρ d <;> first | rfl | exact absurd hv (du _)
theorem iu{g:Bool}{v:Value}{K:Value->Prop}(h:nh g v K):K v:=by
 unfold nh at h
 cases g with
 | false=>exact h
 | true=>
  simp only[cond_true]at h;split at h
  .rename_i b
   cases b
   .exact h.out.2 rfl
   .exact h.out.1 rfl
  .exact h
def jW(D:List Deferred)(n:Nat)(Q:Exit->Env->Pw)(X:PX)(M:Nat->Bool)(ρ0:Env):Exit->Act->Pw
 | .panic c,a,w=>X c w/\∃ρ',jo D n a ρ'/\zF M ρ0 ρ'
 | .normal,a,w=>∃ρ',jo D n a ρ'/\Q .normal ρ' w/\zF M ρ0 ρ'
 | .exit i,a,w=>∃ρ',jo D n a ρ'/\Q (.exit i) ρ' w/\zF M ρ0 ρ'
 | .goto i,a,w=>∃ρ',jo D n a ρ'/\Q (.goto i) ρ' w/\zF M ρ0 ρ'
 | .ret,a,w=>∃ρ',jo D n a ρ'/\Q .ret ρ' w/\zF M ρ0 ρ'
 | .outgrown,_,_=>False
theorem jW.mono{Q:Exit->Env->Pw}{M M':Nat->Bool}{ρ0:Env}{e:Exit}{a:Act}{w:Wd}(h:jW D n Q X M ρ0 e a w)(hm:∀m,M' m=true->M m=true):jW D n Q X M' ρ0 e a w:=by
 cases e with
 | panic c=>obtain⟨h1,ρ',h2,h3⟩:=h;exact⟨h1,ρ',h2,h3.mono hm⟩
 | outgrown=>exact h
 | _=>obtain⟨ρ',h1,h2,h3⟩:=h;exact⟨ρ',h1,h2,h3.mono hm⟩
theorem jW.from{Q:Exit->Env->Pw}{M:Nat->Bool}{ρ0 ρ1:Env}{e:Exit}{a:Act}{w:Wd}(h:jW D n Q X M ρ1 e a w)(hf:zF M ρ0 ρ1):jW D n Q X M ρ0 e a w:=by
 cases e with
 | panic c=>obtain⟨h1,ρ',h2,h3⟩:=h;exact⟨h1,ρ',h2,hf.trans h3⟩
 | outgrown=>exact h
 | _=>obtain⟨ρ',h1,h2,h3⟩:=h;exact⟨ρ',h1,h2,hf.trans h3⟩
theorem jo.aco{M:Nat->Bool}{ρ0 ρ':Env}{a:Act}{d:Option Nat}{v:Value}(h:jo D n (a.put d v) ρ')(f:zF M ρ0 ρ')(hm:∀m,M m=true->qL m d=true):∃ρ',jo D n a ρ'/\zF M ρ0 ρ':=by
 cases d with
 | none=>exact⟨ρ',h,f⟩
 | some d=>
  refine⟨fun t=>a.tmps.getD t undef,⟨h.defers,by have:=h.size;simpa[Act.put] using this,fun _=>rfl⟩,fun m hM t ht=>?_⟩;have hd:=hm m hM;have du:t≠d:=by rintro rfl;simp only[qL]at hd;rw[hd]at ht;cases ht
  have h1:=h.get t;rw[<- f m hM t ht,<- h1];simp[Act.put,Array.getElem?_setIfInBounds_ne (Ne.symm du)]
theorem Ec{o:Oper}{a:Act}{w:Wd}{K:Value->Pw}{next:Act->Pw}{Q:Exit->Act->Pw}(h:lY P X false o a.eval K w)
  (hk:∀v w',K v w'->next (a.put o.dst v) w') (hx:∀c w',X c w'->Q (.panic c) a w'):o.wp P a w next Q:=by
 unfold lY at h;unfold Oper.wp;generalize(execOp a.eval o).run P w=r at h;split at h
 .exact hk _ _ h
 .exact hk _ _ h
 .refine Calls.mono h fun e Ea he=>?_
  rcases he with⟨v,rfl,hv⟩ | ⟨c,rfl,hc⟩
  .exact hk _ _ hv
  .exact hx _ _ hc
 .cases h.1
 .exact hx _ _ h
 .exact h.elim
def qM(ro:Option Nat):Fence:={ Fence.wide with round:=ro }
theorem HA{ro:Option Nat}{o:Oper}{a:Act}{w:Wd}{K:Value->Pw}{next:Act->Pw}{Q:Exit->Act->Pw}(hnd:∀c,o.op ≠ .defer c)(h:lY P X true o a.eval K w)
  (hk:∀v w',K v w'->next (a.put o.dst v) w') (hx:∀c w',X c w'->Q (.panic c) a w'):o.wpIn (qM ro) 0 P a w next Q:=by
 unfold lY at h;refine⟨fun f _=>trivial,?_⟩;rw[Oper.semAt_eq _ _ _ hnd];generalize(execOp a.eval o).run P w=r at h;have dp:(qM ro).depth.isSome=true->1<=0:=fun h=>by cases h
 split at h
 .exact hk _ _ h
 .exact hk _ _ h
 .refine⟨dp,?_⟩;have h':=(callsIn_wide (n:=0)).2 h;refine CallsIn.mono (F:=qM ro) h' fun e Ea he=>?_
  rcases he with⟨v,rfl,hv⟩ | ⟨c,rfl,hc⟩
  .exact hk _ _ hv
  .exact hx _ _ hc
 .refine⟨dp,RoundIn.mono (F:=qM ro) h.2 fun e Ea he=>?_⟩;rcases he with⟨v,rfl,hv⟩ | ⟨c,rfl,hc⟩
  .exact hk _ _ hv
  .exact hx _ _ hc
 .exact hx _ _ h
 .exact h.elim
theorem Cm{rd:Bool}{o:Oper}{ρ:Env}{K:Value->Pw}{w:Wd}(h:VF P pk X rd o ρ K w):∀c,o.op ≠ .defer c:=fun c he=>by
 unfold VF at h;rw[he]at h;simp only[R_,he]at h
theorem KX{ops:Array Oper}{o:Oper}{ρ:Env}{K:Value->Pw}{w:Wd}(h:opE P pk X ops o ρ K w):∀c,o.op ≠ .defer c:=fun c he=>by
 unfold opE at h;simp only[he]at h;exact Cm h c he
theorem Qu{ops:Array Oper}{o:Oper}{ρ:Env}{K:Value->Pw}{w:Wd}(h:opE P pk X ops o ρ K w):lY P X true o (ev ρ) K w:=by
 unfold opE at h;split at h
 .rename_i it he;split at h
  .exact .eQ (by unfold execOp;rw[he]) h
  .exact lZ h
 .exact lZ h
theorem EG{ro:Option Nat}{ops:Array Oper}{M:Nat->Bool}{Q:Exit->Env->Pw}{ρ0:Env}:∀(l pre:List Oper)(ρ:Env)(w:Wd)(a:Act),ops.toList=pre++l->
  (∀o∈l,qJ n o.dst=true)->(∀o∈l,∀m,M m=true->qL m o.dst=true)->NC P pk X ops pre.length l ρ (Q .normal) w->jo D n a ρ->zF M ρ0 ρ->
  wpOpsIn (qM ro) 0 P ops (jW D n Q X M ρ0) (List.range' pre.length l.length) a w
 | [],pre,ρ,w,a,_,_,_,h,hr,hf=>⟨ρ,hr,h,hf⟩
 | o::l,pre,ρ,w,a,he,hd,hm,h,hr,hf=>by
  have hi:ops[pre.length]? = some o:=by rw[<- Array.getElem?_toList,he];simp
  have next:∀v w',NC P pk X ops (pre.length+1) l (dt ρ o.dst v) (Q .normal) w'->wpOpsIn (qM ro) 0 P ops (jW D n Q X M ρ0) (List.range' (pre.length+1) l.length) (a.put o.dst v) w':=fun v w' h'=>by
   have:=EG (ro:=ro) (ops:=ops) l (pre++[o]) (dt ρ o.dst v) w' (a.put o.dst v) (by simp[he]) (fun x hx=>hd x (by simp[hx])) (fun x hx=>hm x (by simp[hx])) (by simpa using h') (hr.dt (hd o (by simp)) v) (hf.trans (.dt (hm o (by simp)) v));simpa using this
  simp only[List.length_cons,List.range'_succ,wpOpsIn,hi,hr.wanted];rcases oJ h with⟨hw,hA⟩ | ⟨hw,hB⟩
  .rw[if_pos hw];refine HA (X:=X) (K:=fun v w'=>nh (VH ops pre.length) v fun v=>NC P pk X ops (pre.length+1) l (dt ρ o.dst v) (Q .normal) w') (KX hA) ?_ (fun v w' h'=>next v w' (iu (K:=fun v=>NC P pk X ops (pre.length+1) l (dt ρ o.dst v) (Q .normal) w') h')) (fun c w' hx=>⟨hx,_,hr,hf⟩);rw[hr.eval];exact Qu hA
  .rw[if_neg (by simp[hw])];exact⟨fun _ _=>trivial,next _ _ hB⟩
theorem fj{ops:Array Oper}{M:Nat->Bool}{ρ0:Env}{S:Pw}{i:Nat}{next:Env->Pw}{ρ:Env}{w:Wd}{a:Act}{K':Act->Pw}{Q:Exit->Act->Pw}
  (hd:∀o∈ops.toList,qJ n o.dst=true) (hm:∀o∈ops.toList,∀m,M m=true->qL m o.dst=true) (h:zN P pk X ops S i next ρ w) (hS:S w) (hr:jo D n a ρ) (hf:zF M ρ0 ρ) (hx:∀c w',X c w'->Q (.panic c) a w')
  (hk:∀ρ' a' w',S w'->next ρ' w'->jo D n a' ρ'->zF M ρ0 ρ'->K' a' w'):wpOp P ops Q i (fun a' w'=>(S w'∨Er ops i=true)/\K' a' w') a w:=by
 unfold zN at h;split at h
 .rename_i o ho
  have ni:o∈ops.toList:=by
   have:o∈ops:=Array.mem_of_getElem? ho;simpa using this
  unfold wpOp;simp only[ho,hr.wanted];rcases oJ h with⟨hw,hA⟩ | ⟨hw,hB⟩
  .rw[if_pos hw];refine .inl (Ec (X:=X) (K:=fun v w'=>S w'/\nh (VH ops i) v fun v=>next (dt ρ o.dst v) w') ?_ (fun v w' h'=>⟨.inl h'.1,hk _ _ _ h'.1 (iu (K:=fun v=>next (dt ρ o.dst v) w') h'.2) (hr.dt (hd o ni) v) (hf.trans (.dt (hm o ni) v))⟩) hx);rw[hr.eval];exact lZ hA
  .rw[if_neg (by simp[hw])];exact⟨.inl hS,hk _ _ _ hS hB (hr.dt (hd o ni) undef) (hf.trans (.dt (hm o ni) undef))⟩
 .exact h.elim
theorem KY{ops:Array Oper}{M:Nat->Bool}{Q:Exit->Env->Pw}{ρ0:Env}{S:Pw}(hd:∀o∈ops.toList,qJ n o.dst=true)
  (hm:∀o∈ops.toList,∀m,M m=true->qL m o.dst=true) (hns:Region.noSelect ops=true):∀(p:rV)(f:Nat)(li:Array Bool)(ρ:Env)(w:Wd)(a:Act),
  bP ops p f li=true->kD P pk X ops S p ρ (Q .normal) w->S w->qj ops li->jo D n a ρ->zF M ρ0 ρ->
  mZ P ops (jW D n Q X M ρ0) S f li a w:=by
 intro p
 induction p with
 | fin=>
  intro f li ρ w a hp h hS zJ hr hf;simp only[bP,List.isEmpty_iff]at hp;exact uD hp ⟨ρ,hr,h,hf⟩ f
 | last i=>
  intro f li ρ w a hp h hS zJ hr hf
  cases f with
  | zero=>simp[bP]at hp
  | succ f=>
   simp only[bP,Bool.and_eq_true,beq_iff_eq,List.isEmpty_iff]at hp;refine oF hp.1.1 (by simp) fun j hj=>?_
   simp only[List.mem_singleton]at hj;subst hj;simp only[kD]at h;split at h
   .rename_i o ho
    have ni:o∈ops.toList:=by
     have:o∈ops:=Array.mem_of_getElem? ho;simpa using this
    unfold wpOp;simp only[ho,hr.wanted];rcases oJ h with⟨hw,hA⟩ | ⟨hw,hB⟩
    .rw[if_pos hw];refine .inl (Ec (X:=X) (K:=fun v w'=>nh (VH ops j) v fun v=>Q .normal (dt ρ o.dst v) w') ?_ (fun v w' h'=>⟨.inr hp.1.2,uD hp.2 ⟨_,hr.dt (hd o ni) v,iu (K:=fun v=>Q .normal (dt ρ o.dst v) w') h',hf.trans (.dt (hm o ni) v)⟩ f⟩) (fun c w' hx=>⟨hx,_,hr,hf⟩));rw[hr.eval];exact lZ hA
    .rw[if_neg (by simp[hw])];exact⟨.inr hp.1.2,uD hp.2 ⟨_,hr.dt (hd o ni) undef,hB,hf.trans (.dt (hm o ni) undef)⟩ f⟩
   .exact h.elim
 | take i r ih=>
  intro f li ρ w a hp h hS zJ hr hf
  cases f with
  | zero=>simp[bP]at hp
  | succ f=>
   simp only[bP,Bool.and_eq_true]at hp;obtain⟨⟨h1,h2⟩,h3⟩:=hp;simp only[kD]at h;split at h
   .rename_i o ho
    have ni:o∈ops.toList:=by
     have:o∈ops:=Array.mem_of_getElem? ho;simpa using this
    have fin:∀v,YieldsIf P ops S o v a->kD P pk X ops S r (dt ρ o.dst v) (Q .normal) w->mZ P ops (jW D n Q X M ρ0) S (f+1) li a w:=fun v hy hh=>
     KE ho zJ hns h1 h2 (fun c a w hq=>by obtain⟨h1,ρ',h2,h3⟩:=hq;exact⟨h1,h2.aco h3 (hm o ni)⟩) hy hS
      (ih f _ _ _ _ h3 hh hS (zJ.set (by simpa using h2)) (hr.dt (hd o ni) v) (hf.trans (.dt (hm o ni) v)))
    rcases oJ h with⟨hw,hA⟩ | ⟨hw,hB⟩
    .obtain⟨v,hv,hk⟩:=KU hA;refine fin v (.inl ⟨by rw[hr.wanted];exact hw,?_⟩) (iu (K:=fun v=>kD P pk X ops S r (dt ρ o.dst v) (Q .normal) w) hk);rw[hr.eval];exact hv
    .exact fin undef (.inr ⟨by rw[hr.wanted];exact hw,rfl⟩) hB
   .exact h.elim
 | one i r ih=>
  intro f li ρ w a hp h hS zJ hr hf
  cases f with
  | zero=>simp[bP]at hp
  | succ f=>
   simp only[bP,Bool.and_eq_true,beq_iff_eq]at hp;refine oF hp.1 (by simp) fun j hj=>?_
   have Gs:j∈Region.ready .any ops li:=by rw[hp.1];exact hj
   simp only[List.mem_singleton]at hj;subst hj;exact fj hd hm h hS hr hf (fun c w' hx=>⟨hx,_,hr,hf⟩) fun ρ' a' w' Ge hn dE pA=>ih f _ _ _ _ hp.2 hn Ge (zJ.set Gs) dE pA
 | two i ri j rj SX SY=>
  intro f li ρ w a hp h hS zJ hr hf
  cases f with
  | zero=>simp[bP]at hp
  | succ f=>
   simp only[bP,Bool.and_eq_true,beq_iff_eq]at hp;refine oF hp.1.1 (by simp) fun x hx=>?_
   have Gs:x∈Region.ready .any ops li:=by rw[hp.1.1];exact hx
   simp only[List.mem_cons,List.not_mem_nil,or_false]at hx;rcases hx with rfl | rfl
   .exact fj hd hm h.1 hS hr hf (fun c w' hx=>⟨hx,_,hr,hf⟩) fun ρ' a' w' Ge hn dE pA=>SX f _ _ _ _ hp.1.2 hn Ge (zJ.set Gs) dE pA
   .exact fj hd hm h.2 hS hr hf (fun c w' hx=>⟨hx,_,hr,hf⟩) fun ρ' a' w' Ge hn dE pA=>SY f _ _ _ _ hp.2 hn Ge (zJ.set Gs) dE pA
 | three i ri j rj k rk SX SY ihk=>
  intro f li ρ w a hp h hS zJ hr hf
  cases f with
  | zero=>simp[bP]at hp
  | succ f=>
   simp only[bP,Bool.and_eq_true,beq_iff_eq]at hp;refine oF hp.1.1.1 (by simp) fun x hx=>?_
   have Gs:x∈Region.ready .any ops li:=by rw[hp.1.1.1];exact hx
   simp only[List.mem_cons,List.not_mem_nil,or_false]at hx;rcases hx with rfl | rfl | rfl
   .exact fj hd hm h.1 hS hr hf (fun c w' hx=>⟨hx,_,hr,hf⟩) fun ρ' a' w' Ge hn dE pA=>SX f _ _ _ _ hp.1.1.2 hn Ge (zJ.set Gs) dE pA
   .exact fj hd hm h.2.1 hS hr hf (fun c w' hx=>⟨hx,_,hr,hf⟩) fun ρ' a' w' Ge hn dE pA=>SY f _ _ _ _ hp.1.2 hn Ge (zJ.set Gs) dE pA
   .exact fj hd hm h.2.2 hS hr hf (fun c w' hx=>⟨hx,_,hr,hf⟩) fun ρ' a' w' Ge hn dE pA=>ihk f _ _ _ _ hp.2 hn Ge (zJ.set Gs) dE pA
 | four i ri j rj k rk l rl SX SY ihk ihl=>
  intro f li ρ w a hp h hS zJ hr hf
  cases f with
  | zero=>simp[bP]at hp
  | succ f=>
   simp only[bP,Bool.and_eq_true,beq_iff_eq]at hp;refine oF hp.1.1.1.1 (by simp) fun x hx=>?_
   have Gs:x∈Region.ready .any ops li:=by rw[hp.1.1.1.1];exact hx
   simp only[List.mem_cons,List.not_mem_nil,or_false]at hx;rcases hx with rfl | rfl | rfl | rfl
   .exact fj hd hm h.1 hS hr hf (fun c w' hx=>⟨hx,_,hr,hf⟩) fun ρ' a' w' Ge hn dE pA=>SX f _ _ _ _ hp.1.1.1.2 hn Ge (zJ.set Gs) dE pA
   .exact fj hd hm h.2.1 hS hr hf (fun c w' hx=>⟨hx,_,hr,hf⟩) fun ρ' a' w' Ge hn dE pA=>SY f _ _ _ _ hp.1.1.2 hn Ge (zJ.set Gs) dE pA
   .exact fj hd hm h.2.2.1 hS hr hf (fun c w' hx=>⟨hx,_,hr,hf⟩) fun ρ' a' w' Ge hn dE pA=>ihk f _ _ _ _ hp.1.2 hn Ge (zJ.set Gs) dE pA
   .exact fj hd hm h.2.2.2 hS hr hf (fun c w' hx=>⟨hx,_,hr,hf⟩) fun ρ' a' w' Ge hn dE pA=>ihl f _ _ _ _ hp.2 hn Ge (zJ.set Gs) dE pA
def jv:rV->Bool
 | .fin=>true
 | .last _=>false
 | .take _ _=>false
 | .one _ r=>jv r
 | .two _ ri _ rj=>jv ri && jv rj
 | .three _ ri _ rj _ rk=>jv ri && jv rj && jv rk
 | .four _ ri _ rj _ rk _ rl=>jv ri && jv rj && jv rk && jv rl
def bR:tZ->Code->Bool
 | .draw p,.region _ _ _=>jv p
 | .seq a b,.seq x y=>bR a x && bR b y
 | .join _ _ a b,.seq x y=>bR a x && bR b y
 | .cond a b,.cond _ x y=>bR a x && bR b y
 | .block a,.block _ x=>bR a x
 | .loop _ _ a,.loop x=>bR a x
 | .scope a,.scope x=>bR a x
 | _,c=>rW c
theorem lY.rd{o:Oper}{ε:Operand->Value}{K:Value->Pw}{w:Wd}(h:lY P X false o ε K w):lY P X true o ε K w:=by
 unfold lY at *;split at h <;> first | exact h | exact absurd h.1 (by decide) | trivial
theorem fm{ro:Option Nat}{ops:Array Oper}{M:Nat->Bool}{ρ0:Env}{S:Pw}{i:Nat}{next:Env->Pw}{ρ:Env}{w:Wd}{a:Act}{K':Act->Pw}{Q:Exit->Act->Pw}
  (hd:∀o∈ops.toList,qJ n o.dst=true) (hm:∀o∈ops.toList,∀m,M m=true->qL m o.dst=true) (h:zN P pk X ops S i next ρ w) (hr:jo D n a ρ) (hf:zF M ρ0 ρ) (hx:∀c w',X c w'->Q (.panic c) a w')
  (hk:∀ρ' a' w',next ρ' w'->jo D n a' ρ'->zF M ρ0 ρ'->K' a' w'):wpOpIn (qM ro) 0 P ops Q i K' a w:=by
 unfold zN at h;split at h
 .rename_i o ho
  have ni:o∈ops.toList:=by
   have:o∈ops:=Array.mem_of_getElem? ho;simpa using this
  unfold wpOpIn;simp only[ho,hr.wanted];rcases oJ h with⟨hw,hA⟩ | ⟨hw,hB⟩
  .rw[if_pos hw];refine HA (X:=X) (K:=fun v w'=>S w'/\nh (VH ops i) v fun v=>next (dt ρ o.dst v) w') (Cm hA) ?_ (fun v w' h'=>hk _ _ _ (iu (K:=fun v=>next (dt ρ o.dst v) w') h'.2) (hr.dt (hd o ni) v) (hf.trans (.dt (hm o ni) v))) hx;rw[hr.eval];exact(lZ hA).rd
  .rw[if_neg (by simp[hw])];exact⟨fun _ _=>trivial,hk _ _ _ hB (hr.dt (hd o ni) undef) (hf.trans (.dt (hm o ni) undef))⟩
 .exact h.elim
theorem KZ{ro:Option Nat}{ops:Array Oper}{M:Nat->Bool}{Q:Exit->Env->Pw}{ρ0:Env}{S:Pw}(hd:∀o∈ops.toList,qJ n o.dst=true)
  (hm:∀o∈ops.toList,∀m,M m=true->qL m o.dst=true):∀(p:rV)(f:Nat)(li:Array Bool)(ρ:Env)(w:Wd)(a:Act),jv p=true->
  bP ops p f li=true->kD P pk X ops S p ρ (Q .normal) w->jo D n a ρ->zF M ρ0 ρ->
  wpAnyIn (qM ro) 0 P .any ops (jW D n Q X M ρ0) f li a w:=by
 have all:∀{l:List Nat}{f:Nat}{li:Array Bool}{a:Act}{w:Wd},Region.ready .any ops li=l->l≠[]->(∀i∈l,wpOpIn (qM ro) 0 P ops (jW D n Q X M ρ0) i (wpAnyIn (qM ro) 0 P .any ops (jW D n Q X M ρ0) f (li.setIfInBounds i true)) a w)->wpAnyIn (qM ro) 0 P .any ops (jW D n Q X M ρ0) (f+1) li a w:=
  fun {l f li a w} h1 h2 h3=>⟨fun h=>(h2 (h1.symm.trans h)).elim,fun i hi=>h3 i (by rw[<- h1];exact hi)⟩
 intro p
 induction p with
 | fin=>
  intro f li ρ w a _ hp h hr hf;simp only[bP,List.isEmpty_iff]at hp
  cases f with
  | zero=>exact⟨hp,ρ,hr,h,hf⟩
  | succ f=>exact⟨fun _=>⟨ρ,hr,h,hf⟩,fun i hi=>by rw[hp]at hi;cases hi⟩
 | last i=>intro f li ρ w a ht;cases ht
 | take i r ih=>intro f li ρ w a ht;cases ht
 | one i r ih=>
  intro f li ρ w a ht hp h hr hf
  cases f with
  | zero=>simp[bP]at hp
  | succ f=>
   simp only[bP,Bool.and_eq_true,beq_iff_eq]at hp;refine all hp.1 (by simp) fun j hj=>?_
   simp only[List.mem_singleton]at hj;subst hj;exact fm hd hm h hr hf (fun c w' hx=>⟨hx,_,hr,hf⟩) fun ρ' a' w' hn dE pA=>ih f _ _ _ _ ht hp.2 hn dE pA
 | two i ri j rj SX SY=>
  intro f li ρ w a ht hp h hr hf;simp only[jv,Bool.and_eq_true]at ht
  cases f with
  | zero=>simp[bP]at hp
  | succ f=>
   simp only[bP,Bool.and_eq_true,beq_iff_eq]at hp;refine all hp.1.1 (by simp) fun x hx=>?_
   simp only[List.mem_cons,List.not_mem_nil,or_false]at hx;rcases hx with rfl | rfl
   .exact fm hd hm h.1 hr hf (fun c w' hx=>⟨hx,_,hr,hf⟩) fun ρ' a' w' hn dE pA=>SX f _ _ _ _ ht.1 hp.1.2 hn dE pA
   .exact fm hd hm h.2 hr hf (fun c w' hx=>⟨hx,_,hr,hf⟩) fun ρ' a' w' hn dE pA=>SY f _ _ _ _ ht.2 hp.2 hn dE pA
 | three i ri j rj k rk SX SY ihk=>
  intro f li ρ w a ht hp h hr hf;simp only[jv,Bool.and_eq_true]at ht
  cases f with
  | zero=>simp[bP]at hp
  | succ f=>
   simp only[bP,Bool.and_eq_true,beq_iff_eq]at hp;refine all hp.1.1.1 (by simp) fun x hx=>?_
   simp only[List.mem_cons,List.not_mem_nil,or_false]at hx;rcases hx with rfl | rfl | rfl
   .exact fm hd hm h.1 hr hf (fun c w' hx=>⟨hx,_,hr,hf⟩) fun ρ' a' w' hn dE pA=>SX f _ _ _ _ ht.1.1 hp.1.1.2 hn dE pA
   .exact fm hd hm h.2.1 hr hf (fun c w' hx=>⟨hx,_,hr,hf⟩) fun ρ' a' w' hn dE pA=>SY f _ _ _ _ ht.1.2 hp.1.2 hn dE pA
   .exact fm hd hm h.2.2 hr hf (fun c w' hx=>⟨hx,_,hr,hf⟩) fun ρ' a' w' hn dE pA=>ihk f _ _ _ _ ht.2 hp.2 hn dE pA
 | four i ri j rj k rk l rl SX SY ihk ihl=>
  intro f li ρ w a ht hp h hr hf;simp only[jv,Bool.and_eq_true]at ht
  cases f with
  | zero=>simp[bP]at hp
  | succ f=>
   simp only[bP,Bool.and_eq_true,beq_iff_eq]at hp;refine all hp.1.1.1.1 (by simp) fun x hx=>?_
   simp only[List.mem_cons,List.not_mem_nil,or_false]at hx;rcases hx with rfl | rfl | rfl | rfl
   .exact fm hd hm h.1 hr hf (fun c w' hx=>⟨hx,_,hr,hf⟩) fun ρ' a' w' hn dE pA=>SX f _ _ _ _ ht.1.1.1 hp.1.1.1.2 hn dE pA
   .exact fm hd hm h.2.1 hr hf (fun c w' hx=>⟨hx,_,hr,hf⟩) fun ρ' a' w' hn dE pA=>SY f _ _ _ _ ht.1.1.2 hp.1.1.2 hn dE pA
   .exact fm hd hm h.2.2.1 hr hf (fun c w' hx=>⟨hx,_,hr,hf⟩) fun ρ' a' w' hn dE pA=>ihk f _ _ _ _ ht.1.2 hp.1.2 hn dE pA
   .exact fm hd hm h.2.2.2 hr hf (fun c w' hx=>⟨hx,_,hr,hf⟩) fun ρ' a' w' hn dE pA=>ihl f _ _ _ _ ht.2 hp.2 hn dE pA
theorem Bi:∀(l:List (Nat×Sh))(J:Cur l)(ρ:Env)(w:Wd)(F:Env->Pw)(base:Env),KV l J ρ w->Wb l J base F->
  (∀t,(l.all fun p=>decide (p.1≠t))=true->base t=ρ t)->F ρ w
 | [],J,ρ,w,F,base,ha,nK,hb=>by
  have:base=ρ:=funext fun t=>hb t rfl
  subst this;exact nK w ha
 | (t,s)::r,J,ρ,w,F,base,ha,nK,hb=>by
  obtain⟨x,hx,hr⟩:=Sh.Et ha;refine Bi r (J x) ρ w F _ hr (nK x) fun u hu=>?_
  by_cases e:u=t
  .subst e;rw[KG,hx]
  .rw[Nl _ _ e];refine hb u ?_;simp only[List.all_cons,Bool.and_eq_true,decide_eq_true_eq];exact⟨fun h=>e h.symm,hu⟩
theorem SZ{mask:Nat}{ρ ρ':Env}(h:∀t,Nat.testBit mask t=false->ρ' t=ρ t):mix mask ρ' ρ=ρ':=by
 funext t;unfold mix
 cases hb:Nat.testBit mask t with
 | true=>rfl
 | false=>exact(h t hb).symm
theorem Iq{F:Fence}{c:Code}{Q:Exit->Act->Pw}(I:Nat->Act->Pw)
  (round:∀m a w,I m a w->c.wpIn F 0 P (Exit.then (fun a' w'=>∃m',m' < m/\I m' a' w') Q) a w) {m:Nat} {a:Act} {w:Wd} (h₀:I m a w):(Code.loop c).wpIn F 0 P Q a w:=by
 classical
 have least:∀a w,(∃m,I m a w)->∃m,I m a w/\∀k,I k a w->m<=k:=fun a w ⟨m,hm⟩=>by
  induction m using Nat.strongRecOn with
  | _ m ih=>
   by_cases hk:∃k,k < m/\I k a w
   .obtain⟨k,hk,hI⟩:=hk;exact ih k hk hI
   .exact⟨m,hm,fun k hI=>by
     rcases Nat.lt_or_ge k m with h | h
     .exact absurd ⟨k,h,hI⟩ hk
     .exact h⟩
 refine wpIn_loop (fun a w=>∃m,I m a w) (fun a w=>if h:∃m,I m a w then Classical.choose (least a w h) else 0) ⟨m,h₀⟩ ?_;intro a w hI;have hs:=Classical.choose_spec (least a w hI);refine wpIn_mono (round _ a w hs.1) ?_;intro e a' w' hq
 cases e with
 | normal=>
  obtain⟨m',aN,hI'⟩:=hq;refine⟨⟨m',hI'⟩,?_⟩;rw[dif_pos hI,dif_pos ⟨m',hI'⟩];exact Nat.lt_of_le_of_lt ((Classical.choose_spec (least a' w' ⟨m',hI'⟩)).2 m' hI') aN
 | _=>exact hq
theorem wH{F:Fence}{c:Code}{Q:Exit->Act->Pw}{a:Act}{w:Wd}(hF:F=Fence.wide)(h:c.wpIn F 0 P (Exit.noGoto Q) a w):(Code.scope c).wpIn F 0 P Q a w:=by
 subst hF;exact wpIn_wide.2 (wp_scope_straight (wpIn_wide.1 h))
def cq:Code->Bool
 | .seq a b=>cq a && cq b
 | .cond _ a b=>cq a && cq b
 | .block _ a=>cq a
 | .scope _=>false
 | .loop a=>cq a
 | _=>true
theorem S1{ops:Array Oper}{aB:Array Bool}(hl:aB.size=ops.size)(ha:zO ops=true)(h:Region.ready .any ops aB=[]):∀i,i < ops.size->aB.getD i false=true:=by
 intro i
 induction i using Nat.strongRecOn with
 | _ i ih=>
  intro hi
  cases hd:aB.getD i false with
  | true=>rfl
  | false=>
   exfalso
   have hm:i∈Region.ready .any ops aB:=by
    refine mem_ready.2 ⟨by simpa[hl,hi] using hd,ops[i],by simp[hi],fun e he _=>ih e.on ?_ ?_⟩
    .simp only[zO,List.all_eq_true,List.mem_range]at ha;have:=ha i hi;simp only[hi,getElem?_pos,List.all_eq_true]at this;have:=this e (by simpa using he);simp[Nat.blt]at this;omega
    .simp only[zO,List.all_eq_true,List.mem_range]at ha;have:=ha i hi;simp only[hi,getElem?_pos,List.all_eq_true]at this;have:=this e (by simpa using he);simp[Nat.blt]at this;omega
   rw[h]at hm;cases hm
theorem ND{ops:Array Oper}{M:Nat->Bool}{Q:Exit->Env->Pw}{ρ0:Env}{Inv:(Nat->Bool)->Env->Pw}(hd:∀o∈ops.toList,qJ n o.dst=true)
  (hm:∀o∈ops.toList,∀m,M m=true->qL m o.dst=true) (ha:zO ops=true) (aab:∀d ρ w,Inv d ρ w->(∀i,i < ops.size->d i=true)->Q .normal ρ w)
  (acp:∀d ρ w,Inv d ρ w->∀i,d i=false->Ip ops i d=true->SW P pk X ops i (fun ρ' w'=>Inv (Hz d i) ρ' w') ρ w) :
  ∀(f:Nat)(aB:Array Bool)(ρ:Env)(w:Wd)(a:Act),aB.size=ops.size->aB.toList.count false<=f->Inv (fun i=>aB.getD i false) ρ w->jo D n a ρ->zF M ρ0 ρ->wpAny P .any ops (jW D n Q X M ρ0) f aB a w:=by
 intro f
 have fin:∀(aB:Array Bool)(ρ:Env)(w:Wd)(a:Act),aB.size=ops.size->Inv (fun i=>aB.getD i false) ρ w->jo D n a ρ->zF M ρ0 ρ->Region.ready .any ops aB=[]->jW D n Q X M ρ0 .normal a w:=fun aB ρ w a hl hi hr hf h=>⟨ρ,hr,aab _ ρ w hi (S1 hl ha h),hf⟩
 induction f with
 | zero=>
  intro aB ρ w a hl hc hi hr hf
  have nK:∀i,i < ops.size->aB.getD i false=true:=fun i h=>by
   cases hb:aB.getD i false with
   | true=>rfl
   | false=>
    exfalso;have aN:i < aB.size:=by omega
    have:false∈aB.toList:=by
     have e:aB[i]=false:=by simpa[aN] using hb
     rw[<- e];simp
    have:=List.count_pos_iff.2 this;omega
  have K0:Region.ready .any ops aB=[]:=by
   rw[List.eq_nil_iff_forall_not_mem];intro i h;obtain⟨h1,o,ho,_⟩:=mem_ready.1 h;have aN:i < ops.size:=(Array.getElem?_eq_some_iff.1 ho).1;have:=nK i aN;have Ii:i < aB.size:=by omega
   simp[Ii]at h1 this;rw[h1]at this;cases this
  exact⟨K0,fin aB ρ w a hl hi hr hf K0⟩
 | succ f ih=>
  intro aB ρ w a hl hc hi hr hf;refine⟨fun h=>fin aB ρ w a hl hi hr hf h,fun i hri=>?_⟩;obtain⟨h1,o,ho,h2⟩:=mem_ready.1 hri;have aN:i < ops.size:=(Array.getElem?_eq_some_iff.1 ho).1;have Ii:i < aB.size:=by omega
  have Ym:aB.getD i false=false:=by simpa[Ii] using h1
  have haf:Ip ops i (fun i=>aB.getD i false)=true:=by
   unfold Ip;rw[ho];simp only[List.all_eq_true,Bool.or_eq_true,Bool.not_eq_true'];intro e he
   cases hb:Region.binds .any e with
   | false=>exact .inl rfl
   | true=>exact .inr (h2 e (by simpa using he) hb)
  have hs:=acp _ ρ w hi i Ym haf
  have ni:o∈ops.toList:=by
   have:o∈ops:=Array.mem_of_getElem? ho;simpa using this
  have hd':Hz (fun i=>aB.getD i false) i=fun j=>(aB.setIfInBounds i true).getD j false:=by
   funext j;unfold Hz;by_cases e:j=i
   .subst e;simp[Ii]
   .have:Nat.beq j i=false:=by
     cases hb:Nat.beq j i with
     | false=>rfl
     | true=>exact absurd (Nat.eq_of_beq_eq_true hb) e
    have e2:¬ i=j:=fun h=>e h.symm
    simp[this,e2]
  have acq:(aB.setIfInBounds i true).toList.count false<=f:=by
   rw[Array.toList_setIfInBounds];have e1:aB.toList[i]'(by simpa using Ii)=false:=by simpa[Ii] using Ym
   have h5:aB.toList=aB.toList.take i++false::aB.toList.drop (i+1):=by
    rw[<- e1];exact(List.take_append_drop i _).symm.trans (by rw[List.drop_eq_getElem_cons])
   have h6:aB.toList.set i true=aB.toList.take i++true::aB.toList.drop (i+1):=by
    rw[List.set_eq_take_append_cons_drop,if_pos (by simpa using Ii)]
   rw[h6];rw[h5]at hc;simp only[List.count_append,List.count_cons]at hc ⊢;simp at hc ⊢;omega
  have next:∀ρ' a' w',Inv (Hz (fun i=>aB.getD i false) i) ρ' w'->jo D n a' ρ'->zF M ρ0 ρ'->wpAny P .any ops (jW D n Q X M ρ0) f (aB.setIfInBounds i true) a' w':=fun ρ' a' w' h dE pA=>ih _ ρ' w' a' (by simp[hl]) acq (hd' ▸ h) dE pA
  unfold SW at hs;rw[ho]at hs;unfold wpOp;simp only[ho,hr.wanted];rcases oJ hs with⟨hw,hA⟩ | ⟨hw,hB⟩
  .rw[if_pos hw];refine .inl (Ec (X:=X) (K:=fun v w'=>Inv (Hz (fun i=>aB.getD i false) i) (dt ρ o.dst v) w') ?_ (fun v w' h'=>next _ _ _ h' (hr.dt (hd o ni) v) (hf.trans (.dt (hm o ni) v))) (fun c w' hx=>⟨hx,_,hr,hf⟩));rw[hr.eval];exact lZ hA
  .rw[if_neg (by simp[hw])];exact next _ _ _ hB (hr.dt (hd o ni) undef) (hf.trans (.dt (hm o ni) undef))
theorem gT{ro:Option Nat}:∀(ann:tZ)(c:Code)(Q:Exit->Env->Pw)(ρ:Env)(w:Wd)(a:Act),(ro=none∨(bR ann c=true/\cq c=true))->wF P n ann c=true->uH P pk X ann c Q ρ w->jo D n a ρ->
  c.wpIn (qM ro) 0 P (jW D n Q X (fun m=>dy m c) ρ) a w:=by
 intro ann
 induction ann with
 | nil=>
  intro c Q ρ w a HB hc h hr
  cases c <;> (try simp only[uH]at h) <;> try exact h.elim
  case skip=>exact wpIn_skip ⟨ρ,hr,h,.refl _ _⟩
  case label l=>exact wpIn_label ⟨ρ,hr,h,.refl _ _⟩
  case exit i=>exact wpIn_exit ⟨ρ,hr,h,.refl _ _⟩
  case goto l=>exact wpIn_goto ⟨ρ,hr,h,.refl _ _⟩
  case ret=>exact wpIn_ret ⟨ρ,hr,h,.refl _ _⟩
  case region id ops d=>
   cases d with
   | true=>exact h.elim
   | false=>
   simp only[wF,List.all_eq_true]at hc;refine wpIn_region ?_
   have:=EG (ro:=ro) (n:=n) (M:=fun m=>dy m (.region id ops false)) (Q:=Q) (ρ0:=ρ) ops.toList [] ρ w a rfl hc (fun o ho m hm=>by
    simp only[dy,List.all_eq_true]at hm;exact hm o ho) h hr (.refl _ _)
   simpa[List.range_eq_range'] using this
 | draw p=>
  intro c Q ρ w a HB hc h hr
  cases c <;> (try simp only[uH]at h) <;> try exact h.elim
  rename_i id ops d
  cases d with
  | false=>exact h.elim
  | true=>
  obtain⟨S,hS,h⟩:=h;simp only[wF,Bool.and_eq_true,List.all_eq_true]at hc
  have hmm:∀o∈ops.toList,∀m,dy m (.region id ops true)=true->qL m o.dst=true:=fun o ho m hm=>by
   simp only[dy,List.all_eq_true]at hm;exact hm o ho
  rcases HB with Ir | Ir
  .subst Ir;exact wpIn_wide.2 (KF hc.1.2 (KY hc.1.1.1 hmm hc.1.1.2 p _ _ ρ _ a hc.2 h hS qj.start hr (.refl _ _)))
  .exact wpIn_region_any hc.1.2 (KZ hc.1.1.1 hmm p _ _ ρ _ a Ir.1 hc.2 h hr (.refl _ _))
 | cut=>
  intro c Q ρ w a HB hc h hr
  cases c <;> exact h.elim
 | free=>
  intro c Q ρ w a HB hc h hr
  cases c <;> (try simp only[uH]at h) <;> try exact h.elim
  rename_i id ops d
  cases d with
  | false=>exact h.elim
  | true=>
  rcases HB with Ir | Ir
  .subst Ir;simp only[wF,Bool.and_eq_true,List.all_eq_true]at hc
   have hmm:∀o∈ops.toList,∀m,dy m (.region id ops true)=true->qL m o.dst=true:=fun o ho m hm=>by
    simp only[dy,List.all_eq_true]at hm;exact hm o ho
   obtain⟨Inv,h1,h2,h3⟩:=h;refine wpIn_wide.2 (wp_region_any hc.1.2 (ND (Inv:=Inv) hc.1.1 hmm hc.2 h2 h3 _ _ ρ _ a (by simp) ?_ ?_ hr (.refl _ _)))
   .simp
   .have e:(fun i=>(Array.replicate ops.size false).getD i false)=fun _=>false:=by
     funext i;rcases Nat.lt_or_ge i ops.size with h | h <;> simp[h]
    rw[e];exact h1
  .simp[bR,rW]at Ir
 | seq x y S2 ihy=>
  intro c Q ρ w a HB hc h hr
  cases c <;> simp only[uH]at h
  rename_i cx cy;simp only[wF,Bool.and_eq_true]at hc;have hx:ro=none∨(bR x cx=true/\cq cx=true):=HB.imp id fun h=>by simp only[bR,cq,Bool.and_eq_true]at h;exact⟨h.1.1,h.2.1⟩
  have hy:ro=none∨(bR y cy=true/\cq cy=true):=HB.imp id fun h=>by simp only[bR,cq,Bool.and_eq_true]at h;exact⟨h.1.2,h.2.2⟩
  refine wpIn_seq (wpIn_mono (S2 cx (uG (uH P pk X y cy Q) Q) ρ w a hx hc.1 h hr) ?_);intro e a' w' hp;have m1:∀m,dy m (.seq cx cy)=true->dy m cx=true:=fun m hm=>by simp only[dy,Bool.and_eq_true]at hm;exact hm.1
  have m2:∀m,dy m (.seq cx cy)=true->dy m cy=true:=fun m hm=>by simp only[dy,Bool.and_eq_true]at hm;exact hm.2
  cases e with
  | normal=>
   obtain⟨ρ',dE,hq,hf⟩:=hp;exact wpIn_mono (ihy cy Q ρ' w' a' hy hc.2 hq dE) fun e a'' Ea hp=>(hp.mono m2).from (hf.mono m1)
  | panic c=>obtain⟨hx,ρ',dE,hf⟩:=hp;exact⟨hx,ρ',dE,hf.mono m1⟩
  | outgrown=>exact hp
  | exit i=>obtain⟨ρ',dE,hq,hf⟩:=hp;exact⟨ρ',dE,hq,hf.mono m1⟩
  | goto i=>obtain⟨ρ',dE,hq,hf⟩:=hp;exact⟨ρ',dE,hq,hf.mono m1⟩
  | ret=>obtain⟨ρ',dE,hq,hf⟩:=hp;exact⟨ρ',dE,hq,hf.mono m1⟩
 | join l mask x y S2 ihy=>
  intro c Q ρ w a HB hc h hr
  cases c <;> simp only[uH]at h
  rename_i cx cy;simp only[wF,Bool.and_eq_true]at hc;have hx:ro=none∨(bR x cx=true/\cq cx=true):=HB.imp id fun h=>by simp only[bR,cq,Bool.and_eq_true]at h;exact⟨h.1.1,h.2.1⟩
  have hy:ro=none∨(bR y cy=true/\cq cy=true):=HB.imp id fun h=>by simp only[bR,cq,Bool.and_eq_true]at h;exact⟨h.1.2,h.2.2⟩
  obtain⟨J,h1,h2⟩:=h;refine wpIn_seq (wpIn_mono (S2 cx (uG (KV l J) Q) ρ w a hx hc.1.1.1 h1 hr) ?_);intro e a' w' hp;have m1:∀m,dy m (.seq cx cy)=true->dy m cx=true:=fun m hm=>by simp only[dy,Bool.and_eq_true]at hm;exact hm.1
  have m2:∀m,dy m (.seq cx cy)=true->dy m cy=true:=fun m hm=>by simp only[dy,Bool.and_eq_true]at hm;exact hm.2
  cases e with
  | normal=>
   obtain⟨ρ',dE,hq,hf⟩:=hp;have aac:=SZ (hf mask hc.1.2);have:=Bi l J ρ' w' _ (mix mask ρ' ρ) hq (h2 ρ') (fun t _=>by rw[aac]);exact wpIn_mono (ihy cy Q ρ' w' a' hy hc.1.1.2 this dE) fun e a'' Ea hp=>(hp.mono m2).from (hf.mono m1)
  | panic c=>obtain⟨hx,ρ',dE,hf⟩:=hp;exact⟨hx,ρ',dE,hf.mono m1⟩
  | outgrown=>exact hp
  | exit i=>obtain⟨ρ',dE,hq,hf⟩:=hp;exact⟨ρ',dE,hq,hf.mono m1⟩
  | goto i=>obtain⟨ρ',dE,hq,hf⟩:=hp;exact⟨ρ',dE,hq,hf.mono m1⟩
  | ret=>obtain⟨ρ',dE,hq,hf⟩:=hp;exact⟨ρ',dE,hq,hf.mono m1⟩
 | cond x y S2 ihy=>
  intro c Q ρ w a HB hc h hr
  cases c <;> simp only[uH]at h
  rename_i v cx cy;simp only[wF,Bool.and_eq_true]at hc;have hx:ro=none∨(bR x cx=true/\cq cx=true):=HB.imp id fun h=>by simp only[bR,cq,Bool.and_eq_true]at h;exact⟨h.1.1,h.2.1⟩
  have hy:ro=none∨(bR y cy=true/\cq cy=true):=HB.imp id fun h=>by simp only[bR,cq,Bool.and_eq_true]at h;exact⟨h.1.2,h.2.2⟩
  unfold Yr at h;split at h
  .rename_i b hb;have he:a.eval v = .bool b:=by rw[hr.eval];exact hb
   refine wpIn_cond_split he (fun hb=>?_) (fun hb=>?_)
   .exact wpIn_mono (S2 cx Q ρ w a hx hc.1 (h.out.1 hb) hr) fun e a' w' hp=>hp.mono fun m hm=>by simp only[dy,Bool.and_eq_true]at hm;exact hm.1
   .exact wpIn_mono (ihy cy Q ρ w a hy hc.2 (h.out.2 hb) hr) fun e a' w' hp=>hp.mono fun m hm=>by simp only[dy,Bool.and_eq_true]at hm;exact hm.2
  .exact h.elim
 | block x S2=>
  intro c Q ρ w a HB hc h hr
  cases c <;> simp only[uH]at h
  rename_i id cx;simp only[wF]at hc;refine wpIn_block (wpIn_mono (S2 cx (EF id Q) ρ w a (HB.imp (fun h=>h) fun h=>by simpa only[bR,cq] using h) hc h hr) ?_);intro e a' w' hp
  cases e with
  | exit i=>
   obtain⟨ρ',dE,hq,hf⟩:=hp;simp only[EF]at hq;simp only[Exit.inBlock]
   cases hb:Nat.beq i id with
   | true=>
    have:=Nat.eq_of_beq_eq_true hb;subst this;rw[hb]at hq;rw[if_pos rfl];exact⟨ρ',dE,hq,hf⟩
   | false=>
    rw[hb]at hq;rw[if_neg (fun e=>by subst e;simp at hb)];exact⟨ρ',dE,hq,hf⟩
  | panic c=>exact hp
  | outgrown=>exact hp
  | normal=>obtain⟨ρ',dE,hq,hf⟩:=hp;exact⟨ρ',dE,hq,hf⟩
  | goto i=>obtain⟨ρ',dE,hq,hf⟩:=hp;exact⟨ρ',dE,hq,hf⟩
  | ret=>obtain⟨ρ',dE,hq,hf⟩:=hp;exact⟨ρ',dE,hq,hf⟩
 | scope x S2=>
  intro c Q ρ w a HB hc h hr
  cases c <;> simp only[uH]at h
  rename_i cx;simp only[wF]at hc;have Ir:ro=none:=HB.resolve_right (by simp[cq]);subst Ir;refine wH rfl (wpIn_mono (S2 cx (SV Q) ρ w a (.inl rfl) hc h hr) ?_);intro e a' w' hp
  cases e with
  | goto i=>obtain⟨ρ',dE,hq,hf⟩:=hp;exact hq.elim
  | panic c=>exact hp
  | outgrown=>exact hp
  | normal=>obtain⟨ρ',dE,hq,hf⟩:=hp;exact⟨ρ',dE,hq,hf⟩
  | exit i=>obtain⟨ρ',dE,hq,hf⟩:=hp;exact⟨ρ',dE,hq,hf⟩
  | ret=>obtain⟨ρ',dE,hq,hf⟩:=hp;exact⟨ρ',dE,hq,hf⟩
 | loop l mask x S2=>
  intro c Q ρ w a HB hc h hr
  cases c <;> simp only[uH]at h
  rename_i cx;simp only[wF,Bool.and_eq_true]at hc;have hx:ro=none∨(bR x cx=true/\cq cx=true):=HB.imp id fun h=>by simpa only[bR,cq] using h
  obtain⟨I,⟨m,hm⟩,aae⟩:=h;refine Iq (fun m a w=>∃ρ',jo D n a ρ'/\KV l (I m) ρ' w/\zF (fun m=>dy m (.loop cx)) ρ ρ') ?_ ⟨ρ,hr,hm,.refl _ _⟩;rintro m a w ⟨ρ',dE,ha,hf⟩;have aac:=SZ (hf mask hc.1.2);have:=Bi l (I m) ρ' w _ (mix mask ρ' ρ) ha (aae ρ' m) (fun t _=>by rw[aac]);refine wpIn_mono (S2 cx (uG (fun ρ'' Ea=>∃m',m' < m/\KV l (I m') ρ'' Ea) Q) ρ' w a hx hc.1.1 this dE) ?_;intro e a'' Ea hp;have Yo:∀m,dy m (.loop cx)=true->dy m cx=true:=fun m hm=>by simpa only[dy] using hm
  have hp:=(hp.mono Yo).from hf
  cases e with
  | normal=>obtain⟨ρ'',aeO,hq,hf3⟩:=hp;obtain⟨m',aN,hq⟩:=hq;exact⟨m',aN,ρ'',aeO,hq,hf3⟩
  | panic c=>exact hp
  | outgrown=>exact hp
  | exit i=>exact hp
  | goto i=>exact hp
  | ret=>exact hp
def Wc(tmps:Array Value):ResultVar->Sem Value
 | .tmp t=>pure (tmps.getD t undef)
 | .cell x t=>do loadVar t (<- asAddr (tmps.getD x undef))
theorem xR{a:Act}{ρ:Env}{w:Wd}(hr:jo D n a ρ):∀(rs:List ResultVar)(F:List Value->Prop),wG P rs ρ w F->
  ∃vs,(rs.mapM (Wc a.tmps)).run P w = .ok vs w/\F vs
 | [],F,h=>⟨[],by simp,h⟩
 | .tmp t::r,F,h=>by
  obtain⟨vs,h1,h2⟩:=xR hr r _ h;refine⟨_,?_,h2⟩;have e:(Wc a.tmps (.tmp t)).run P w = .ok (ρ t) w:=by rw[<- hr.get t];rfl
  rw[List.mapM_cons,Sem.run_bind,e,Result.andThen_ok,Sem.run_bind,h1];rfl
 | .cell x t::r,F,h=>by
  obtain⟨v,hv,h⟩:=uF h;obtain⟨vs,h1,h2⟩:=xR hr r _ h;refine⟨_,?_,h2⟩
  have hx:(Wc a.tmps (.cell x t)).run P w = .ok v w:=by
   have:=hv w (fun _ _ h=>h);show(do loadVar t (<- asAddr (a.tmps.getD x undef)):Sem Value).run P w=_;rw[hr.get]
   cases hp:ρ x <;> rw[hp]at this <;> simp only[Instr.loadAt,Instr.sureAddr,Sem.run_bind]at this <;> first | (simp[stuck]at this;done) | skip
   rename_i p
   cases p with
   | none=>simp[stuck]at this
   | some p=>simpa[asAddr] using this
  rw[List.mapM_cons,Sem.run_bind,hx,Result.andThen_ok,Sem.run_bind,h1];rfl
theorem mJ{fn:Func}{a:Act}{ρ:Env}{w:Wd}(hr:jo D n a ρ){F:List Value->Prop}(h:wG P fn.results.toList ρ w F):∃vs,(results fn a.tmps).run P w = .ok (fY vs) w/\F vs:=by
 obtain⟨vs,h1,h2⟩:=xR hr fn.results.toList F h;refine⟨vs,?_,h2⟩
 have e0:results fn a.tmps=(do let vs<- fn.results.mapM (Wc a.tmps);pure (if h:vs.size=1 then vs[0] else .tuple vs)):=by
  unfold results;congr 1
 rw[e0,Array.mapM_eq_mapM_toList,Sem.run_bind,Sem.run_map]
 have e:∀(r:Result (List Value)),r = .ok vs w->((r.andThen fun a w'=>Result.ok a.toArray w').andThen fun vs w'=>Sem.run P (pure (if h:vs.size=1 then vs[0] else .tuple vs)) w') = .ok (fY vs) w:=by
  intro r hr;subst hr;simp only[Result.andThen_ok,Sem.run_pure];congr 1
  match vs with
  | []=>rfl
  | [v]=>rfl
  | _::_::_=>simp[fY]
 exact e _ h1
def aaf(P:Program)(f:FuncId)(args:Array Value)(l:List Ty)(K:kx l)(X:PX)(w:Wd):Prop:=
 Calls P f args w (fun e w'=>Ib l K (fun vs Y=>e = .returned (fY vs)/\Y w')∨∃c,e = .panicked c/\X c w')
theorem uI{args:List Value}{m:Nat}(ha:Nat.ble args.length m=true):jo [] m { tmps:=args.toArray++Array.replicate (m - args.toArray.size) undef,defers:=[] } (m_ args):=by
 have hle:=Nat.le_of_ble_eq_true ha;refine⟨rfl,by simp;omega,fun t=>?_⟩;simp only[m_];rcases Nat.lt_or_ge t args.length with h | h
 .simp[Array.getElem?_append,h]
 .simp[List.getD,Array.getElem?_append,Array.getElem?_replicate,Nat.not_lt.2 h];split <;> rfl
theorem Qv{f:FuncId}{fn:Func}{c:Code}{ann:tZ}{args:List Value}{tys:List Ty}{K:kx tys}{w:Wd}(hf:P.funcs[f]? = some fn)(hb:fn.body=some c)
  (hc:wF P fn.ntmps ann c=true) (ha:Nat.ble args.length fn.ntmps=true) (h:uH P pk X ann c (KW P tys fn.results.toList K) (m_ args) w):aaf P f args.toArray tys K X w:=by
 refine calls_of_wp hf hb (wp_mono (wpIn_wide.1 (gT (ro:=none) (n:=fn.ntmps) (D:=[]) ann c _ _ w _ (.inl rfl) hc h (uI ha))) ?_);intro e a' w' hp
 have fin:∀{ρ':Env},jo [] fn.ntmps a' ρ'->wG P fn.results.toList ρ' w' (fun vs=>qk tys vs K w')->∃v,(results fn a'.tmps).run P w' = .ok v w'/\(Ib tys K (fun vs Y=>Ending.returned v = .returned (fY vs)/\Y w')∨∃c,Ending.returned v = .panicked c/\X c w'):=fun dE hq=>by
  obtain⟨vs,h1,h2⟩:=mJ dE hq;exact⟨_,h1,.inl (kA tys K (fun us X hh=>⟨by rw[hh.1],hh.2⟩) (oA tys vs K w' h2))⟩
 cases e with
 | normal=>obtain⟨ρ',dE,hq,_⟩:=hp;exact⟨dE.defers,fin dE hq⟩
 | ret=>obtain⟨ρ',dE,hq,_⟩:=hp;exact⟨dE.defers,fin dE hq⟩
 | panic c=>obtain⟨h1,ρ',h2,_⟩:=hp;exact⟨h2.defers,.inr ⟨c,rfl,h1⟩⟩
 | exit i=>obtain⟨ρ',dE,hq,_⟩:=hp;exact hq.elim
 | goto i=>obtain⟨ρ',dE,hq,_⟩:=hp;exact hq.elim
 | outgrown=>exact hp.elim
abbrev bJ:PX:=fun _ _=>False
theorem S3{f:FuncId}{fn:Func}{c:Code}{ann:tZ}{args:List Value}{tys:List Ty}{K:kx tys}{w:Wd}(hf:P.funcs[f]? = some fn)(hb:fn.body=some c)
  (hc:wF P fn.ntmps ann c=true) (ha:Nat.ble args.length fn.ntmps=true) (h:uH P pk bJ ann c (KW P tys fn.results.toList K) (m_ args) w):av P f args.toArray tys K w:=
 Calls.mono (Qv hf hb hc ha h) fun _ _ h=>h.elim id fun⟨_,_,hc⟩=>hc.elim
theorem mkS{f:FuncId}{fn:Func}{ann:tZ}{args:List Value}{tys:List Ty}{K:kx tys}{w:Wd}{F C:Prop}(hf:P.funcs[f]? = some fn)
  (hF:F=uH P pk bJ ann (fn.body.getD .skip) (KW P tys fn.results.toList K) (m_ args) w) (hc:(fn.body.isSome && Nat.ble args.length fn.ntmps && wF P fn.ntmps ann (fn.body.getD .skip))=true)
  (hC:av P f args.toArray tys K w=C) (h:F):C:=by
 simp only[Bool.and_eq_true]at hc;obtain⟨c,hb⟩:=Option.isSome_iff_exists.1 hc.1.1;have e:fn.body.getD .skip=c:=by rw[hb];rfl
 rw[e]at hF hc;rw[<- hC];exact S3 hf hb hc.2 hc.1.2 (hF ▸ h)
theorem mkV{rd:Bool}{fv:Value}{args:List Value}{f:FuncId}{ars:Array Value}{tys:List Ty}{K:kx tys}{w:Wd}{C:Prop}(hr:(KO fv args).run P w = .ok (.enter f ars) w)(hC:C=av P f ars tys K w)(h:C):aC P rd fv args tys K X w:=by
 unfold aC KN;rw[hr];subst hC;exact Calls.mono h fun _ _ h=> .inl h
theorem mkI{recv:Value}{m:String}{args:List Value}{f:FuncId}{ars:Array Value}{tys:List Ty}{K:kx tys}{w:Wd}{C:Prop}(hr:(invoke (.fn (.method m) #[]) (#[recv]++args.toArray)).run P w = .ok (.enter f ars) w)(hC:C=av P f ars tys K w)(h:C) :
  EA P recv m args tys K X w:=by
 unfold EA KN;rw[hr];subst hC;exact Calls.mono h fun _ _ h=> .inl h
end sound
end Go.V
set_option maxRecDepth 100000
namespace Go.V
def aeP:Code->Code
 | .seq a _=>a
 | c=>c
def aeQ:Code->Code
 | .seq _ b=>b
 | c=>c
def aag:Code->Array Oper
 | .region _ ops _=>ops
 | _=>#[]
inductive Dp where
 | last (a:tZ)
 | next (a:tZ) (s:Dp)
 | We (s:Dp)
def dfO(o:Oper)(ρ:Env):Option Deferred:=match o.guard,o.dst,o.op with
 | none,none,.defer c=>match c.callee with
  | .value f=>match ev ρ f with
   | .func fn first cap=>some { target:= .fn fn cap,args:=first++c.args.map (ev ρ) }
   | _=>none
  | _=>none
 | _,_,_=>none
def dfK(d:Option Deferred)(K:Deferred->Prop):Prop:=match d with
 | some d=>K d
 | none=>False
def Wf(P:Program)(pk:Nat)(X:PX)(ops:Array Oper):Nat->List Oper->Env->(Env->Deferred->Pw)->Pw
 | _,[],_,_,_=>False
 | _,[o],ρ,K,w=>dfK (dfO o ρ) fun d=>K ρ d w
 | i,o::r,ρ,K,w=>gW ops o ρ (VF P pk X false o ρ (fun v w'=>nh (VH ops i) v fun v=>Wf P pk X ops (i+1) r (dt ρ o.dst v) K w') w) (Wf P pk X ops (i+1) r (dt ρ o.dst undef) K w)
def acr(fin:List Deferred->Env->Pw)(D:List Deferred):Exit->Env->Pw
 | .ret,ρ,w=>fin D ρ w
 | .normal,ρ,w=>fin D ρ w
 | _,_,_=>False
def S4(P:Program)(pk:Nat):Dp->Code->List Deferred->(List Deferred->Env->Pw)->Env->Pw
 | .last a,c,D,fin,ρ,w=>uH P pk bJ a c (acr fin D) ρ w
 | .next a s,.seq x y,D,fin,ρ,w=>uH P pk bJ a x (uG (fun ρ w=>S4 P pk s y D fin ρ w) (acr fin D)) ρ w
 | .We s,.seq (.region _ ops false) y,D,fin,ρ,w=>Wf P pk bJ ops 0 ops.toList ρ (fun ρ d w=>S4 P pk s y (d::D) fin ρ w) w
 | _,_,_,_,_,_=>False
def Qw(P:Program)(n:Nat):Dp->Code->Bool
 | .last a,c=>wF P n a c
 | .next a s,.seq x y=>wF P n a x && Qw P n s y
 | .We s,.seq (.region _ ops false) y=>(ops.toList.all fun o=>qJ n o.dst) && Qw P n s y
 | _,_=>false
def xS(P:Program)(f:FuncId)(args:Array Value)(K:Pw)(w:Wd):Prop:=(∃fn,P.funcs[f]? = some fn/\mI fn=true)/\CallsD P f args .returning w (fun e u w'=>(∃v,e = .returned v)/\u = .returning/\K w')
def Bj(P:Program):List Deferred->(Pw)->Pw
 | [],K,w=>K w
 | { target:= .fn (.func f) cap,args:=args }::ds,K,w=>xS P f (args++cap) (Bj P ds K) w
 | _::_,_,_=>False
section sound
variable {P:Program} {n pk:Nat}
theorem jo.push{a:Act}{ρ:Env}{D:List Deferred}(h:jo D n a ρ)(d:Deferred):jo (d::D) n (Act.put { a with defers:=d::a.defers } none undef) ρ:=⟨by show d::a.defers=_;rw[h.defers],h.size,h.get⟩
theorem Qx{o:Oper}{ρ:Env}{a:Act}{D:List Deferred}{d:Deferred}{w:Wd}(hr:jo D n a ρ)(h:dfO o ρ=some d):o.guard=none/\o.dst=none/\(execOp a.eval o).run P w = .ok (.defer d) w:=by
 unfold dfO at h;split at h
 .rename_i c h1 h2 h3;split at h
  .rename_i f hf;split at h
   .rename_i fn first cap hv
    injection h with h;subst h
    refine⟨h1,h2,?_⟩;have e:a.eval=ev ρ:=hr.eval;rw[e];simp only[execOp,h3,resolve,hf,hv,Deferred.ofValue,pure_bind,Sem.run_pure]
   .cases h
  .cases h
 .cases h
theorem HC{ops:Array Oper}{D:List Deferred}{K:Env->Deferred->Pw}{Q:Exit->Act->Pw}(hq:∀ρ d w a,K ρ d w->jo (d::D) n a ρ->Q .normal a w):∀(l pre:List Oper)(ρ:Env)(w:Wd)(a:Act),ops.toList=pre++l->
  (∀o∈l,qJ n o.dst=true)->Wf P pk bJ ops pre.length l ρ K w->jo D n a ρ->wpOps P ops Q (List.range' pre.length l.length) a w
 | [],_,_,_,_,_,_,h,_=>h.elim
 | [o],pre,ρ,w,a,he,hd,h,hr=>by
  have hi:ops[pre.length]? = some o:=by rw[<- Array.getElem?_toList,he];simp
  simp only[Wf]at h
  cases hdo:dfO o ρ with
  | none=>rw[hdo]at h;exact h.elim
  | some d=>
   rw[hdo]at h
   obtain⟨h1,h2,h3⟩:=Qx (P:=P) (w:=w) hr hdo
   simp only[List.length_cons,List.length_nil,List.range'_succ,List.range'_zero,wpOps,hi];have hw:Region.wanted o (yielded ops a.tmps)=true:=by simp[Region.wanted,h1]
   rw[if_pos hw];left;simp only[Oper.wp,Oper.upon,h3,h2];exact hq ρ d w _ h (hr.push d)
 | o::o2::l,pre,ρ,w,a,he,hd,h,hr=>by
  have hi:ops[pre.length]? = some o:=by rw[<- Array.getElem?_toList,he];simp
  have next:∀v w',Wf P pk bJ ops (pre.length+1) (o2::l) (dt ρ o.dst v) K w'->wpOps P ops Q (List.range' (pre.length+1) (o2::l).length) (a.put o.dst v) w':=fun v w' h'=>by
   have:=HC (ops:=ops) hq (o2::l) (pre++[o]) (dt ρ o.dst v) w' (a.put o.dst v) (by simp[he]) (fun x hx=>hd x (by simp at hx ⊢;exact .inr hx)) (by simpa using h') (hr.dt (hd o (by simp)) v);simpa using this
  simp only[Wf]at h;rw[List.length_cons,List.range'_succ];simp only[wpOps,hi,hr.wanted];rcases oJ h with⟨hw,hA⟩ | ⟨hw,hB⟩
  .rw[if_pos hw];refine .inl (Ec (X:=bJ) (K:=fun v w'=>nh (VH ops pre.length) v fun v=>Wf P pk bJ ops (pre.length+1) (o2::l) (dt ρ o.dst v) K w') ?_ (fun v w' h'=>next v w' (iu (K:=fun v=>Wf P pk bJ ops (pre.length+1) (o2::l) (dt ρ o.dst v) K w') h')) (fun c w' h=>h.elim));rw[hr.eval];exact lZ hA
  .rw[if_neg (by simp[hw])];exact next _ _ hB
def DpE(n:Nat)(fin:List Deferred->Env->Pw):Exit->Act->Pw
 | .normal,a,w=>∃D ρ,jo D n a ρ/\fin D ρ w
 | .ret,a,w=>∃D ρ,jo D n a ρ/\fin D ρ w
 | _,_,_=>False
theorem S5{fin:List Deferred->Env->Pw}:∀(s:Dp)(c:Code)(D:List Deferred)(ρ:Env)(w:Wd)(a:Act),Qw P n s c=true->S4 P pk s c D fin ρ w->jo D n a ρ->c.wp P (DpE n fin) a w:=by
 intro s
 induction s with
 | last ann=>
  intro c D ρ w a Cn h hr;refine wp_mono (wpIn_wide.1 (gT (ro:=none) (n:=n) (D:=D) ann c _ ρ w a (.inl rfl) Cn h hr)) fun e a' w' hp=>?_
  cases e with
  | normal=>obtain⟨ρ',r',q',_⟩:=hp;exact⟨D,ρ',r',q'⟩
  | ret=>obtain⟨ρ',r',q',_⟩:=hp;exact⟨D,ρ',r',q'⟩
  | panic c=>exact hp.1.elim
  | outgrown=>exact hp.elim
  | exit i=>obtain⟨_,_,q',_⟩:=hp;exact q'.elim
  | goto i=>obtain⟨_,_,q',_⟩:=hp;exact q'.elim
 | next ann s ih=>
  intro c D ρ w a Cn h hr
  cases c <;> simp only[S4]at h
  rename_i c1 c2;simp only[Qw,Bool.and_eq_true]at Cn;refine wp_seq (wp_mono (wpIn_wide.1 (gT (ro:=none) (n:=n) (D:=D) ann c1 _ ρ w a (.inl rfl) Cn.1 h hr)) fun e a' w' hp=>?_)
  cases e with
  | normal=>obtain⟨ρ',r',q',_⟩:=hp;exact ih c2 D ρ' w' a' Cn.2 q' r'
  | ret=>obtain⟨ρ',r',q',_⟩:=hp;exact⟨D,ρ',r',q'⟩
  | panic c=>exact hp.1.elim
  | outgrown=>exact hp.elim
  | exit i=>obtain⟨_,_,q',_⟩:=hp;exact q'.elim
  | goto i=>obtain⟨_,_,q',_⟩:=hp;exact q'.elim
 | We s ih=>
  intro c D ρ w a Cn h hr
  cases c <;> try exact h.elim
  rename_i c1 c2
  cases c1 <;> try exact h.elim
  rename_i id ops d
  cases d with
  | true=>exact h.elim
  | false=>
  simp only[Qw,Bool.and_eq_true,List.all_eq_true]at Cn;refine wp_seq (wp_region ?_);have:=HC (pk:=pk) (n:=n) (ops:=ops) (D:=D) (Q:=Exit.then (c2.wp P (DpE n fin)) (DpE n fin)) (fun ρ d w a hk dE=>ih c2 (d::D) ρ w a Cn.2 hk dE) ops.toList [] ρ w a rfl Cn.1 h hr;simpa[List.range_eq_range'] using this
theorem zR{fn:Func}{tmps:Array Value}{R:Ending->Pw}:∀(D:List Deferred)(w:Wd),Bj P D (fun w=>∃v,(results fn tmps).run P w = .ok v w/\R (.returned v) w) w->Leaves P fn tmps R D .returning w
 | [],_,h=>h
 | { target:= .fn (.func f) cap,args:=args }::ds,w,h=>by
  obtain⟨⟨fn,hf,hc⟩,h⟩:=h;refine leaves_cons (by simp) (f:=f) (args:=args++cap) (zM hf hc) (CallsD.mono h ?_);rintro _ _ w' ⟨⟨v,rfl⟩,rfl,h'⟩;exact zR ds w' h'
 | { target:= .fn (.method _) _,args:=_ }::_,_,h=>h.elim
 | { target:= .nil,args:=_ }::_,_,h=>h.elim
theorem xS.mono{f:FuncId}{args:Array Value}{K K':Pw}{w:Wd}(h:xS P f args K w)(hk:∀w,K w->K' w):xS P f args K' w:=
 ⟨h.1,CallsD.mono h.2 fun _ _ w' h=>⟨h.1,h.2.1,hk w' h.2.2⟩⟩
theorem Cp{K K':Pw}(hk:∀w,K w->K' w):∀(D:List Deferred)(w:Wd),Bj P D K w->Bj P D K' w
 | [],w,h=>hk w h
 | { target:= .fn (.func _) _,args:=_ }::ds,_,h=>xS.mono h fun w' h'=>Cp hk ds w' h'
 | { target:= .fn (.method _) _,args:=_ }::_,_,h=>h.elim
 | { target:= .nil,args:=_ }::_,_,h=>h.elim
theorem mkD{f:FuncId}{fn:Func}{s:Dp}{args:List Value}{tys:List Ty}{K:kx tys}{w:Wd}{F C:Prop}(hf:P.funcs[f]? = some fn)
  (hF:F=S4 P pk s (fn.body.getD .skip) [] (fun D ρ w=>Bj P D (fun w=>wG P fn.results.toList ρ w (fun vs=>qk tys vs K w)) w) (m_ args) w) (hc:(fn.body.isSome && Nat.ble args.length fn.ntmps && Qw P fn.ntmps s (fn.body.getD .skip))=true)
  (hC:av P f args.toArray tys K w=C) (h:F):C:=by
 simp only[Bool.and_eq_true]at hc;obtain⟨c,hb⟩:=Option.isSome_iff_exists.1 hc.1.1;have e:fn.body.getD .skip=c:=by rw[hb];rfl
 rw[e]at hF hc;rw[<- hC]
 have fin:∀{D:List Deferred}{ρ:Env}{a:Act}{w':Wd},jo D fn.ntmps a ρ->Bj P D (fun w=>wG P fn.results.toList ρ w (fun vs=>qk tys vs K w)) w'->Leaves P fn a.tmps (fun e w'=>Ib tys K (fun vs X=>e = .returned (fY vs)/\X w')) a.defers .returning w':=fun {D ρ a w'} hr hl=>by
  rw[hr.defers];refine zR D w' (Cp (fun w2 h2=>?_) D w' hl);obtain⟨vs,h3,h4⟩:=mJ hr h2;exact⟨_,h3,kA tys K (fun us X hh=>⟨by rw[hh.1],hh.2⟩) (oA tys vs K w2 h4)⟩
 refine calls_of_wp_defers hf hb (wp_mono (S5 s c [] _ w _ hc.2 (hF ▸ h) (uI hc.1.2)) fun e a' w' hp=>?_)
 cases e with
 | normal=>obtain⟨D,ρ,r,q⟩:=hp;exact fin r q
 | ret=>obtain⟨D,ρ,r,q⟩:=hp;exact fin r q
 | panic c=>exact hp.elim
 | outgrown=>exact hp.elim
 | exit i=>exact hp.elim
 | goto i=>exact hp.elim
theorem mkE{f:FuncId}{fn:Func}{ann:tZ}{args:List Value}{K:Pw}{w:Wd}{F:Prop}(hf:P.funcs[f]? = some fn)
  (hF:F=uH P pk bJ ann (fn.body.getD .skip) (KW P [] fn.results.toList K) (m_ args) w) (hc:(mI fn && Nat.ble args.length fn.ntmps && wF P fn.ntmps ann (fn.body.getD .skip))=true) (h:F):xS P f args.toArray K w:=by
 simp only[Bool.and_eq_true]at hc;refine⟨⟨fn,hf,hc.1.1⟩,?_⟩;obtain⟨c,hb⟩:=Option.isSome_iff_exists.1 (by have:=hc.1.1;simp only[mI,Bool.and_eq_true]at this;exact this.1);have e:fn.body.getD .skip=c:=by rw[hb];rfl
 rw[e]at hF hc
 refine CallsD.mono (callsD_of_wp (R:=fun e w'=>(∃v,e = .returned v)/\K w') hf hb (wp_mono (wpIn_wide.1 (gT (ro:=none) (n:=fn.ntmps) (D:=[]) ann c _ _ w _ (.inl rfl) hc.2 (hF ▸ h) (uI hc.1.2))) fun e a' w' hp=>?_)) fun e u w' h=>⟨h.2.1,h.1,h.2.2⟩
 have fin:∀{ρ':Env},jo [] fn.ntmps a' ρ'->wG P fn.results.toList ρ' w' (fun vs=>qk [] vs K w')->∃v,(results fn a'.tmps).run P w' = .ok v w'/\(∃v',Ending.returned v = .returned v')/\K w':=fun dE hq=>by
  obtain⟨vs,h1,h2⟩:=mJ dE hq;refine⟨_,h1,⟨_,rfl⟩,?_⟩
  cases vs with
  | nil=>exact h2
  | cons=>exact h2.elim
 cases e with
 | normal=>obtain⟨ρ',r',q',_⟩:=hp;exact⟨r'.defers,fin r' q'⟩
 | ret=>obtain⟨ρ',r',q',_⟩:=hp;exact⟨r'.defers,fin r' q'⟩
 | panic c=>exact hp.1.elim
 | outgrown=>exact hp.elim
 | exit i=>obtain⟨_,_,q',_⟩:=hp;exact q'.elim
 | goto i=>obtain⟨_,_,q',_⟩:=hp;exact q'.elim
theorem mkN{f:FuncId}{fn:Func}{id:Nat}{ops:Array Oper}{rest:Code}{t:Nat}{ann:tZ}{args:List Value}{K:Pw}{w:Wd}{F:Prop}(hf:P.funcs[f]? = some fn)(hb:fn.body=some (.seq (.region id ops false) rest))(hz:ops.size=1)
  (aeR:∀(Q:Exit->Act->List Frame->Pw)(a:Act)(cs:List Frame)(w:Wd),wpOpsS P ops Q [0] a cs w=(match recoverD cs with
   | some (v,cs')=>Q .normal (a.put (some t) v) cs' w
   | none=>Q .normal (a.put (some t) .nilIface) cs w))
  (hF:F=uH P pk bJ ann rest (KW P [] fn.results.toList K) (put (m_ args) t .nilIface) w) (ht:t < fn.ntmps) (hc:(mI fn && (Nat.ble args.length fn.ntmps && wF P fn.ntmps ann rest))=true) (h:F):xS P f args.toArray K w:=by
 simp only[Bool.and_eq_true]at hc;obtain⟨aeS,hc⟩:=hc;refine⟨⟨fn,hf,aeS⟩,?_⟩;refine callsD_of_wpS hf hb fun c₀ cs hu=>wpS_seq (wpS_region ?_)
 have hr:recoverD (c₀::cs)=none:=by simp[recoverD,hu]
 rw[hz,show List.range 1=[0] from rfl,aeR,hr];have rep:jo [] fn.ntmps (Act.put { tmps:=args.toArray++Array.replicate (fn.ntmps - args.toArray.size) undef,defers:=[] } (some t) .nilIface) (put (m_ args) t .nilIface):=(uI hc.1).put ht _;refine wpS_of_wp (wp_mono (wpIn_wide.1 (gT (ro:=none) (n:=fn.ntmps) (D:=[]) ann rest _ _ w _ (.inl rfl) hc.2 (hF ▸ h) rep)) fun e a' w' hp=>?_)
 have fin:∀{ρ':Env},jo [] fn.ntmps a' ρ'->wG P fn.results.toList ρ' w' (fun vs=>qk [] vs K w')->∃v,(results fn a'.tmps).run P w' = .ok v w'/\K w':=fun dE hq=>by
  obtain⟨vs,h1,h2⟩:=mJ dE hq;refine⟨_,h1,?_⟩
  cases vs with
  | nil=>exact h2
  | cons=>exact h2.elim
 cases e with
 | normal=>obtain⟨ρ',r',q',_⟩:=hp;obtain⟨v,h1,h2⟩:=fin r' q';exact⟨r'.defers,.returning,by rw[<- hu],v,h1,⟨_,rfl⟩,rfl,h2⟩
 | ret=>obtain⟨ρ',r',q',_⟩:=hp;obtain⟨v,h1,h2⟩:=fin r' q';exact⟨r'.defers,.returning,by rw[<- hu],v,h1,⟨_,rfl⟩,rfl,h2⟩
 | panic c=>exact hp.1.elim
 | outgrown=>exact hp.elim
 | exit i=>obtain⟨_,_,q',_⟩:=hp;exact q'.elim
 | goto i=>obtain⟨_,_,q',_⟩:=hp;exact q'.elim
end sound
end Go.V
